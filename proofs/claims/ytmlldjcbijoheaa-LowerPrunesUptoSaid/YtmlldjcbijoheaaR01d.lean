/- Walks of the reference's natural numbers: Mul. -/
import Derived.Test.YtmlldjcbijoheaaR01c
namespace Go.Proofs.Ytmlldjcbijoheaa
open Go.RowKit

set_option maxHeartbeats 1000000 in
theorem mul01_any (l m : List Int) (n1 n2 : Nat) (a a' : Option Addr) (c c' : Nat) (w : World) (h : NatR w a c l) (h' : NatR w a' c' m) (hn : val l = n1) (hk : val m = n2) (hl : l.length ≤ 8000000) (hm : m.length ≤ 8000000) :
    Calls Try.prog 131 #[.slice a l.length c, .slice a' m.length c'] w (RetN (limbs (n1 * n2)) w) := by
  have hU := h.u16
  have hU' := h'.u16
  have H := Lib.hid h
  have H' := Lib.hid h'
  have HN := Lib.hid hn
  have HK := Lib.hid hk
  have HU := Lib.hid hU
  have HU' := Lib.hid hU'
  have hmk : ∀ w, (Instr.makeSlice 33 (.int .i64 ((l.length : Int) + m.length + 1)) (.int .i64 ((l.length : Int) + m.length + 1))).run Try.prog w = .ok (.slice (some ⟨w.heap.size, 0, none⟩) (l.length + m.length + 1) (l.length + m.length + 1)) (w.alloc (.cells (madeCells #[.int .u16 0] (l.length + m.length + 1)) 130)) := fun w => by
    have := run_make_nat .i64 (l.length + m.length + 1) (by omega) w
    simpa using this
  clear h h' hn hk hU hU'
  go_enter Try.func131, Try.ntmps131
  go_wp2
  have hB0 := BlkN.new w (l.length + m.length + 1)
  have hb0 : Below w.heap.size w (w.alloc (.cells (madeCells #[.int .u16 0] (l.length + m.length + 1)) 130)) := (Below.refl _ _).alloc (Nat.le_refl _) _
  revert hB0 hb0
  generalize w.alloc (.cells (madeCells #[.int .u16 0] (l.length + m.length + 1)) 130) = w0
  intro hB0 hb0
  clear hmk
  go_loopw [6, 7, 8, 9] (fun i _ _ _ wr => ∃ (j : Nat) (o : List Int), j ≤ l.length ∧ i = .int .i64 j ∧ BlkN wr w.heap.size o ∧ U16 o ∧ Below w.heap.size w wr ∧ Hid (o.length = l.length + m.length + 1) ∧ Hid (val o = val (l.take j) * val m)) (fun i _ _ _ _ => l.length - (intOf i).toNat)
  case atStart => exact ⟨0, _, by omega, rfl, hB0, u16_replicate _, hb0, by simp [Hid], by show _ = _; rw [val_replicate]; simp [val]⟩
  case round =>
    obtain ⟨j, o, hj, rfl, hB, hUo, hb, hlen, hv⟩ := hrel
    clear hB0 hb0
    by_cases hlt : j < l.length
    · obtain ⟨x, hx⟩ := get_of_lt hlt
      have hxr := HU.out.get hx
      have HX := Lib.hid hx
      obtain ⟨ba, oa, rfl, hcx⟩ := H.out.cell hx
      have HCX := Lib.hid hcx
      have HB := Lib.hid hB
      have HUO := Lib.hid hUo
      clear hx hcx hB hUo
      obtain ⟨hx0, hx1⟩ := hxr
      go_wp2
      go_loopw [7, 8, 9] (fun ca k _ w2 => ∃ (cy kk : Nat) (o2 : List Int), kk ≤ m.length + 1 ∧ cy ≤ 65535 ∧ ca = .int .u64 cy ∧ k = .int .i64 kk ∧ BlkN w2 w.heap.size o2 ∧ U16 o2 ∧ Below w.heap.size w w2 ∧ Hid (o2.length = l.length + m.length + 1) ∧
        Hid (val o2 + 65536 ^ (j + kk) * cy = val (l.take j) * val m + 65536 ^ j * (x.toNat * val (m.take kk)))) (fun _ k _ _ => m.length + 2 - (intOf k).toNat)
      case atStart => exact ⟨0, 0, o, by omega, by omega, rfl, rfl, HB.out, HUO.out, hb, hlen.out, by show _ = _; rw [hv.out]; simp [val]⟩
      case round =>
        clear HB HUO hlen hv hb o
        obtain ⟨cy, kk, o, hkk, hcy, rfl, rfl, hB, hUo, hb, hlen, hv⟩ := hrel
        have HB := Lib.hid hB
        have HUO := Lib.hid hUo
        clear hB hUo
        by_cases hA : kk < m.length ∨ 0 < cy
        · have hk2 : kk ≤ m.length := by
            rcases Nat.lt_or_ge kk m.length with h1 | h1
            · omega
            · exact mul_far HU.out HU'.out HX.out h1 (by omega) hv.out
          obtain ⟨z, hz⟩ := get_of_lt (xs := o) (k := j + kk) (by have := hlen.out; omega)
          obtain ⟨hz0, hz1⟩ := HUO.out.get hz
          have CY := fun n => limb01_quiet m kk a' c' (wr.drewN n) (H'.out.ext (Ext.below (below_drewN hb n)))
          obtain ⟨hy0, hy1⟩ := limbAt_in HU'.out kk
          have hstep := fun c2 d y e => mul_step l m o j kk cy c2 d z x y hz e hv.out
          have hcar := fun (c2 d : Nat) (y : Int) (hy0 : 0 ≤ y) (hy1 : y ≤ 65535) => carry_lt (z := z.toNat) (x := x.toNat) (y := y.toNat) (c := cy) (d := d) (c2 := c2) (by omega) (by omega) (by omega) hcy
          have cx := Ext.below hb _ _ HCX.out
          have cz := HB.out.cell hz
          have fz := HB.out.frozen (j + kk)
          have hgl := HB.out.lt
          replace hstep := fun c2 d => hstep c2 d _ rfl
          revert CY hy0 hy1 hstep
          generalize limbAt m kk = y
          intro CY hy0 hy1 hstep
          have HZ := Lib.hid hz
          have HS := Lib.hid hstep
          have HC := Lib.hid hcar
          clear hz hstep hcar
          have hxy : 0 ≤ x * y := Int.mul_nonneg hx0 hy0
          have hxy2 : x * y ≤ 4294836225 := by
            have := Int.mul_le_mul hx1 hy1 hy0 (by omega)
            omega
          have wi1 : IntKind.i64.wrap ((j : Int) + kk) = (j : Int) + kk := IntWalk.i64_in _ (by omega)
          have wu1 : IntKind.u64.wrap (x * y) = x * y := IntWalk.u64_in _ (by omega)
          have wu2 : IntKind.u64.wrap (z + x * y) = z + x * y := IntWalk.u64_in _ (by omega)
          have wu3 : IntKind.u64.wrap (z + x * y + cy) = z + x * y + cy := IntWalk.u64_in _ (by omega)
          have wx : IntKind.u64.wrap x = x := IntWalk.u64_in _ (by omega)
          have wz : IntKind.u64.wrap z = z := IntWalk.u64_in _ (by omega)
          have wy : IntKind.u64.wrap y = y := IntWalk.u64_in _ (by omega)
          have hji : (0 : Int) ≤ (j : Int) + kk := by omega
          have hjt : ((j : Int) + kk).toNat = j + kk := by omega
          have hsl : (j : Int) + kk < (l.length : Int) + m.length + 1 := by omega
          replace CY := Lib.hid CY
          by_cases hkl : kk < m.length
          all_goals
            go_wp2
            go_quiet ((go_at_call 135; exact Calls.quiet_of_same (CY.out _)))
            clear wi1 wu1 wu2 wu3 wy wx wz hjt
            go_wp2
            go_roundw
            case rel =>
              obtain ⟨s, es⟩ : ∃ s : Nat, (s : Int) = z + x * y + cy := ⟨(z + x * y + cy).toNat, by omega⟩
              have es2 : s = z.toNat + x.toNat * y.toNat + cy := by
                have ex : (x.toNat : Int) = x := by omega
                have ey : (y.toNat : Int) = y := by omega
                have ez : (z.toNat : Int) = z := by omega
                have : ((z.toNat + x.toNat * y.toNat + cy : Nat) : Int) = z + x * y + cy := by
                  rw [Int.natCast_add, Int.natCast_add, Int.natCast_mul, ex, ey, ez]
                omega
              have em : (z + x * y + (cy : Int)) % 65536 = ((s % 65536 : Nat) : Int) := by omega
              have ed : (z + x * y + (cy : Int)) / 65536 = ((s / 65536 : Nat) : Int) := by omega
              have hd : s % 65536 + 65536 * (s / 65536) = z.toNat + x.toNat * y.toNat + cy := by omega
              have hset : BlkN ((wr.drewN nq).setCell ⟨w.heap.size, j + kk, none⟩ (.int .u16 ((z + x * y + (cy : Int)) % 65536))) w.heap.size (o.set (j + kk) ((s % 65536 : Nat) : Int)) := by
                rw [em]
                exact BlkN.set_ (show BlkN (wr.drewN nq) w.heap.size o from HB.out) _ _
              exact ⟨s / 65536, kk + 1, o.set (j + kk) ((s % 65536 : Nat) : Int), by omega, HC.out _ _ y hy0 hy1 hd, by rw [ed], by go_num, hset, HUO.out.set_ (by omega),
                (below_drewN hb nq).setCell (p := ⟨w.heap.size, j + kk, none⟩) (Nat.le_refl _) _, by show _ = _; rw [List.length_set, hlen.out], HS.out _ _ hd⟩
            case measure => simp [intOf]; omega
        · obtain rfl : cy = 0 := by omega
          have hk2 : m.length ≤ kk := by omega
          have hfin : val o = val (l.take (j + 1)) * val m := by
            have := hv.out
            rw [val_take_all hk2, mul_end l m j x HX.out] at this
            simpa using this
          replace hfin := Lib.hid hfin
          go_wp2
          go_roundw
          case rel => exact ⟨j + 1, o, by omega, by go_num, HB.out, HUO.out, hb, hlen.out, hfin.out⟩
          case measure => simp [intOf]; omega
    · obtain rfl : j = l.length := by omega
      have hval : val o = n1 * n2 := by
        have := hv.out
        rw [this, val_take_all (Nat.le_refl _), HN.out, HK.out]
      have hol := hlen.out
      have CN := norm01_any o (some ⟨w.heap.size, 0, none⟩) (l.length + m.length + 1) wr (hB.readsV (Nat.le_refl _) (New.refl _ _) hUo (by omega) (by simp [maxLen]; omega)) (by omega)
      rw [hval, hlen.out] at CN
      replace CN := Lib.hid CN
      clear hval hol
      go_wp2_with (go_at_call 123; refine CN.out.mono ?_; rintro e w2 ⟨a2, c2, rfl, hV, hb2⟩)
      go_ret
      exact ⟨a2, c2, rfl, fun V hV' => hV V (hV'.base hb.size), below_then hb hb2⟩
end Go.Proofs.Ytmlldjcbijoheaa
