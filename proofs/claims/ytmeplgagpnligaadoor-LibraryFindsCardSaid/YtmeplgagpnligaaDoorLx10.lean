/- Walks of the reference's natural numbers: digit, DivMod, Gcd. -/
import Derived.Test.YtmeplgagpnligaaDoorLx9
import Derived.Test.YtmeplgagpnligaaDoorLx8
import Derived.Deep.DeepCutAuto

/- Walks of the reference's natural numbers: Valid, Same, Sub, Mul. -/
namespace Go.Proofs.YtmeplgagpnligaaDoor
open Go.RowKit

/-- without leading zeros -/
def canonB (l : List Int) : Bool := decide (limbs (val l) = l)
theorem canonB_last {l : List Int} (h : U16 l) {x : Int} (hx : l[l.length - 1]? = some x) (_ : 0 < l.length) : canonB l = !(x == 0) := by
  unfold canonB
  by_cases hx0 : x = 0
  · subst hx0
    simp only [beq_self_eq_true, Bool.not_true, decide_eq_false_iff_not]
    intro e
    have : (limbs (val l)).getLast? = some 0 := by rw [e, List.getLast?_eq_getElem?]; exact hx
    exact limbs_last this rfl
  · have e : (x == 0) = false := by simpa using hx0
    rw [e]
    simp only [Bool.not_false, decide_eq_true_eq]
    refine limbs_canon h fun y hy => ?_
    rw [List.getLast?_eq_getElem?, hx] at hy
    injection hy with hy
    rw [← hy]; exact hx0
set_option maxHeartbeats 400000 in
theorem same01_any (xs ys : List Int) (a a' : Option Addr) (c c' : Nat) (w : World) (h : NatR w a c xs) (h' : NatR w a' c' ys) :
    Calls Tryd.prog 31 #[.slice a xs.length c, .slice a' ys.length c'] w fun r w' => r = .returned (.bool (decide (xs = ys))) ∧ Below w.heap.size w w' := by
  have H := Lib.hid h
  have H' := Lib.hid h'
  have hl := h.len
  have hl' := h'.len
  clear h h'
  by_cases hlen : xs.length = ys.length
  · have hlb : ((xs.length : Int) != (ys.length : Int)) = false := by simp; omega
    have HL := Lib.hid hlen
    clear hlen
    go_enter Tryd.func31, Tryd.ntmps31
    go_wp2
    go_loopw [5] (fun i wr => ∃ k : Nat, k ≤ xs.length ∧ i = .int .i64 k ∧ Below w.heap.size w wr ∧ Hid (xs.take k = ys.take k)) (fun i _ => xs.length - (intOf i).toNat)
    case atStart => exact ⟨0, by omega, rfl, Below.refl _ _, by simp [Hid]⟩
    case round =>
      obtain ⟨k, hk, rfl, hb, hp⟩ := hrel
      by_cases hlt : k < xs.length
      · obtain ⟨x, hx⟩ := get_of_lt hlt
        obtain ⟨y, hy⟩ := get_of_lt (xs := ys) (k := k) (by have := HL.out; omega)
        obtain ⟨b, off, rfl, hE⟩ := H.out.2.2 k x hx
        obtain ⟨b', off', rfl, hE'⟩ := H'.out.2.2 k y hy
        have hc : wr.cell? ⟨b, off + k, none⟩ = some (.int .u16 x) := by have := (hE.ext (Ext.below hb)).1; simpa using this
        have hc' : wr.cell? ⟨b', off' + k, none⟩ = some (.int .u16 y) := by have := (hE'.ext (Ext.below hb)).1; simpa using this
        have hky : (k : Int) < (ys.length : Int) := by have := HL.out; omega
        have HX := Lib.hid hx
        have HY := Lib.hid hy
        clear hx hy hE hE'
        by_cases he : x = y
        · have hbe : (x != y) = false := by simpa using he
          have HE := Lib.hid he
          clear he
          go_wp2
          go_quiet (fail)
          go_wp2
          refine ⟨⟨k + 1, by omega, by go_num, below_drewN hb _, ?_⟩, by simp [intOf]; omega⟩
          rw [take_more HX.out, take_more HY.out, hp.out, HE.out]; rfl
        · have hbe : (x != y) = true := by simpa using he
          have HE := Lib.hid he
          clear he
          go_wp2
          go_quiet (fail)
          go_wp2
          go_ret
          refine ⟨ret_bool ?_, below_drewN hb _⟩
          refine (decide_eq_false (fun e => HE.out ?_)).symm
          have h1 := HX.out
          have h2 := HY.out
          rw [e, h2] at h1
          exact (Option.some.inj h1).symm
      · go_wp2
        go_ret
        refine ⟨ret_bool ?_, hb⟩
        have := hp.out
        rw [take_all hlt, List.take_of_length_le (by have := HL.out; omega)] at this
        rw [this]; simp
  · have hlb : ((xs.length : Int) != (ys.length : Int)) = true := by simp; omega
    have hd : decide (xs = ys) = false := decide_eq_false (fun e => hlen (by rw [e]))
    rw [hd]
    clear hlen hd
    go_enter Tryd.func31, Tryd.ntmps31
    go_wp2
    go_ret
    exact ⟨rfl, Below.refl _ _⟩
end Go.Proofs.YtmeplgagpnligaaDoor

/- Walks of the reference's natural numbers: Sub. -/
namespace Go.Proofs.YtmeplgagpnligaaDoor
open Go.RowKit

/-- what a call gives that makes the limbs l and an error -/
def RetNE (l : List Int) (x : Int) (w : World) (e : Ending) (w' : World) : Prop := ∃ a c, e = .returned (.tuple #[.slice a l.length c, .int .i64 x]) ∧ (∀ V, New w.heap.size w' V → NatR V a c l) ∧ Below w.heap.size w w'

theorem sub01_less (l m : List Int) (n k : Nat) (a a' : Option Addr) (c c' : Nat) (w : World) (h : NatR w a c l) (h' : NatR w a' c' m) (hn : val l = n) (hk : val m = k) (hl : l.length ≤ 16777216) (hm : m.length ≤ 16777216) (hlt : n < k) :
    Calls Tryd.prog 58 #[.slice a l.length c, .slice a' m.length c'] w (RetNE [] 2 w) := by
  have C := cmp01_any l m a a' c c' w h h' hl hm
  have hc : cmpN (val l) (val m) = -1 := by subst hn; subst hk; unfold cmpN; rw [if_pos hlt]
  rw [hc] at C
  replace C := Lib.hid C
  clear h h' hn hk hc hlt
  go_enter Tryd.func58, Tryd.ntmps58
  go_wp2_with (go_at_call 69; refine C.out.mono ?_; rintro e w' ⟨rfl, rfl⟩)
  go_ret2
  exact ⟨none, 0, rfl, fun _ _ => SlR.nil, Below.refl _ _⟩

set_option maxHeartbeats 800000 in
theorem sub01_any (l m : List Int) (n k : Nat) (a a' : Option Addr) (c c' : Nat) (w : World) (h : NatR w a c l) (h' : NatR w a' c' m) (hn : val l = n) (hk : val m = k) (hl : l.length ≤ 16777215) (hm : m.length ≤ 16777216) (hge : k ≤ n) :
    Calls Tryd.prog 58 #[.slice a l.length c, .slice a' m.length c'] w (RetNE (limbs (n - k)) 0 w) := by
  have C := cmp01_any l m a a' c c' w h h' (by omega) hm
  have hc : 0 ≤ cmpN (val l) (val m) := by subst hn; subst hk; exact cmpN_ge.2 hge
  have hU := h.u16
  have hU' := h'.u16
  have H := Lib.hid h
  have H' := Lib.hid h'
  have HN := Lib.hid hn
  have HK := Lib.hid hk
  have HU := Lib.hid hU
  have HU' := Lib.hid hU'
  revert C hc
  generalize cmpN (val l) (val m) = q
  intro C hc
  replace C := Lib.hid C
  have hcf : decide (q < 0) = false := by simp; omega
  clear h h' hn hk hU hU' hc
  go_enter Tryd.func58, Tryd.ntmps58
  go_wp2_with (go_at_call 69; refine C.out.mono ?_; rintro e w' ⟨rfl, rfl⟩)
  clear C hcf
  go_loopw [6, 7, 8, 9] (fun s b i _ wr => ∃ (j bo : Nat) (o : List Int) (ao : Option Addr) (co : Nat), j ≤ l.length ∧ bo ≤ 1 ∧ i = .int .i64 j ∧ b = .int .i64 bo ∧ s = .slice ao o.length co ∧ OwnN w.heap.size wr ao co o ∧ U16 o ∧ Below w.heap.size w wr ∧
    Hid (o.length = j) ∧ Hid (val (l.take j) + 65536 ^ j * bo = val (m.take j) + val o)) (fun _ _ i _ _ => l.length - (intOf i).toNat)
  case atStart => exact ⟨0, 0, [], none, 0, by omega, by omega, rfl, rfl, rfl, Own.nil, U16.nil, Below.refl _ _, rfl, by simp [Hid, val]⟩
  case round =>
    obtain ⟨j, bo, o, ao, co, hj, hbo, rfl, rfl, rfl, ho, hUo, hb, hlen, hv⟩ := hrel
    have HO := Lib.hid ho
    have HUO := Lib.hid hUo
    clear ho hUo
    by_cases hlt : j < l.length
    · have CX := limb01_any l j a c wr (H.out.ext (Ext.below hb))
      have CY := limb01_any m j a' c' wr (H'.out.ext (Ext.below hb))
      obtain ⟨hx0, hx1⟩ := limbAt_in HU.out j
      obtain ⟨hy0, hy1⟩ := limbAt_in HU'.out j
      have hstep := fun bo2 d => sub_step l m o j bo bo2 d hlen.out hv.out
      revert CX CY hx0 hx1 hy0 hy1 hstep
      generalize limbAt l j = x
      generalize limbAt m j = y
      intro CX CY hx0 hx1 hy0 hy1 hstep
      replace CX := Lib.hid CX
      replace CY := Lib.hid CY
      have HS := Lib.hid hstep
      clear hstep
      by_cases hd : x - y - bo < 0
      · have HS2 := HS.out 1 (x - y - bo + 65536).toNat (by omega)
        have ed : ((x - y - (bo : Int) + 65536).toNat : Int) = x - y - bo + 65536 := by omega
        rw [ed] at HS2
        replace HS2 := Lib.hid HS2
        clear ed
        go_wp2_with (first
          | (go_at_call 60; (first | ((with_reducible refine CX.out.mono ?_); rintro e w' ⟨rfl, rfl⟩) | ((with_reducible refine CY.out.mono ?_); rintro e w' ⟨rfl, rfl⟩)))
          | (at_builtin; go_must (refine append_nat rfl (.tmp 33) (.tmp 36) rfl ao co rfl (HO.out.alloc _) (x - y - bo + 65536) wr.heap.size 1 rfl (by simp) (o ++ [x - y - bo + 65536]) rfl (by have := hlen.out; simp; omega) (by have := hb.size; simp; omega) ?_); intro a2 c2 w2 ho2 hg2 hx2))
        go_roundw
        case rel =>
          have hb1 : Below w.heap.size w w2 := below_append' (hb.alloc hb.size _) (HO.out.alloc _) hg2
          exact ⟨j + 1, 1, _, a2, c2, by omega, by omega, by go_num, rfl, by simp, ho2, HUO.out.app (U16.cons (by omega) U16.nil), hb1, by show _ = _; rw [List.length_append, hlen.out]; rfl, HS2.out⟩
        case measure => simp [intOf]; omega
      · have HS2 := HS.out 0 (x - y - bo).toNat (by omega)
        have ed : ((x - y - (bo : Int)).toNat : Int) = x - y - bo := by omega
        rw [ed] at HS2
        replace HS2 := Lib.hid HS2
        clear ed
        go_wp2_with (first
          | (go_at_call 60; (first | ((with_reducible refine CX.out.mono ?_); rintro e w' ⟨rfl, rfl⟩) | ((with_reducible refine CY.out.mono ?_); rintro e w' ⟨rfl, rfl⟩)))
          | (at_builtin; go_must (refine append_nat rfl (.tmp 33) (.tmp 36) rfl ao co rfl (HO.out.alloc _) (x - y - bo) wr.heap.size 1 rfl (by simp) (o ++ [x - y - bo]) rfl (by have := hlen.out; simp; omega) (by have := hb.size; simp; omega) ?_); intro a2 c2 w2 ho2 hg2 hx2))
        go_roundw
        case rel =>
          have hb1 : Below w.heap.size w w2 := below_append' (hb.alloc hb.size _) (HO.out.alloc _) hg2
          exact ⟨j + 1, 0, _, a2, c2, by omega, by omega, by go_num, rfl, by simp, ho2, HUO.out.app (U16.cons (by omega) U16.nil), hb1, by show _ = _; rw [List.length_append, hlen.out]; rfl, HS2.out⟩
        case measure => simp [intOf]; omega
    · obtain rfl : j = l.length := by omega
      have hval : val o = n - k := by
        have := sub_end HU.out HU'.out HUO.out hlen.out hv.out (by rw [HN.out, HK.out]; exact hge)
        rw [this, HN.out, HK.out]
      have CN := norm01_any o ao co wr (HO.out.reads1 HUO.out) (by have := hlen.out; omega)
      rw [hval] at CN
      replace CN := Lib.hid CN
      clear hval
      go_wp2_with (go_at_call 45; refine CN.out.mono ?_; rintro e w2 ⟨a2, c2, rfl, hV, hb2⟩)
      go_ret2
      exact ⟨a2, c2, rfl, fun V hV' => hV V (hV'.base hb.size), below_then hb hb2⟩
end Go.Proofs.YtmeplgagpnligaaDoor

/- Walks of the reference's natural numbers: Mul. -/
namespace Go.Proofs.YtmeplgagpnligaaDoor
open Go.RowKit

set_option maxHeartbeats 1000000 in
theorem mul01_any (l m : List Int) (n1 n2 : Nat) (a a' : Option Addr) (c c' : Nat) (w : World) (h : NatR w a c l) (h' : NatR w a' c' m) (hn : val l = n1) (hk : val m = n2) (hl : l.length ≤ 8000000) (hm : m.length ≤ 8000000) :
    Calls Tryd.prog 59 #[.slice a l.length c, .slice a' m.length c'] w (RetN (limbs (n1 * n2)) w) := by
  have hU := h.u16
  have hU' := h'.u16
  have H := Lib.hid h
  have H' := Lib.hid h'
  have HN := Lib.hid hn
  have HK := Lib.hid hk
  have HU := Lib.hid hU
  have HU' := Lib.hid hU'
  have hmk : ∀ w, (Instr.makeSlice 50 (.int .i64 ((l.length : Int) + m.length + 1)) (.int .i64 ((l.length : Int) + m.length + 1))).run Tryd.prog w = .ok (.slice (some ⟨w.heap.size, 0, none⟩) (l.length + m.length + 1) (l.length + m.length + 1)) (w.alloc (.cells (madeCells #[.int .u16 0] (l.length + m.length + 1)) 33)) := fun w => by
    have := run_make_nat .i64 (l.length + m.length + 1) (by omega) w
    simpa using this
  clear h h' hn hk hU hU'
  go_enter Tryd.func59, Tryd.ntmps59
  go_wp2
  have hB0 := BlkN.new w (l.length + m.length + 1)
  have hb0 : Below w.heap.size w (w.alloc (.cells (madeCells #[.int .u16 0] (l.length + m.length + 1)) 33)) := (Below.refl _ _).alloc (Nat.le_refl _) _
  revert hB0 hb0
  generalize w.alloc (.cells (madeCells #[.int .u16 0] (l.length + m.length + 1)) 33) = w0
  intro hB0 hb0
  clear hmk
  go_loopw [6, 7, 8, 9] (fun i _ _ _ wr => ∃ (j : Nat) (o : List Int), j ≤ l.length ∧ i = .int .i64 j ∧ BlkN wr w.heap.size o ∧ U16 o ∧ Below w.heap.size w wr ∧ Hid (o.length = l.length + m.length + 1) ∧ Hid (val o = val (l.take j) * val m)) (fun i _ _ _ _ => l.length - (intOf i).toNat)
  case atStart => exact ⟨0, _, by omega, rfl, hB0, u16_replicate _, hb0, by simp [Hid], by show _ = _; rw [val_replicate]; simp [val]⟩
  case round =>
    obtain ⟨j, o, hj, rfl, hB, hUo, hb, hlen, hv⟩ := hrel
    clear hB0 hb0
    by_cases hlt : j < l.length
    · obtain ⟨x, hx⟩ := get_of_lt hlt
      have hxr := HU.out.get hx
      have HX := Lib.hid hx
      obtain ⟨ba, oa, rfl, hcx⟩ := H.out.cell hx
      have HCX := Lib.hid hcx
      have HB := Lib.hid hB
      have HUO := Lib.hid hUo
      clear hx hcx hB hUo
      obtain ⟨hx0, hx1⟩ := hxr
      go_wp2
      go_loopw [7, 8, 9] (fun ca k _ w2 => ∃ (cy kk : Nat) (o2 : List Int), kk ≤ m.length + 1 ∧ cy ≤ 65535 ∧ ca = .int .u64 cy ∧ k = .int .i64 kk ∧ BlkN w2 w.heap.size o2 ∧ U16 o2 ∧ Below w.heap.size w w2 ∧ Hid (o2.length = l.length + m.length + 1) ∧
        Hid (val o2 + 65536 ^ (j + kk) * cy = val (l.take j) * val m + 65536 ^ j * (x.toNat * val (m.take kk)))) (fun _ k _ _ => m.length + 2 - (intOf k).toNat)
      case atStart => exact ⟨0, 0, o, by omega, by omega, rfl, rfl, HB.out, HUO.out, hb, hlen.out, by show _ = _; rw [hv.out]; simp [val]⟩
      case round =>
        clear HB HUO hlen hv hb o
        obtain ⟨cy, kk, o, hkk, hcy, rfl, rfl, hB, hUo, hb, hlen, hv⟩ := hrel
        have HB := Lib.hid hB
        have HUO := Lib.hid hUo
        clear hB hUo
        by_cases hA : kk < m.length ∨ 0 < cy
        · have hk2 : kk ≤ m.length := by
            rcases Nat.lt_or_ge kk m.length with h1 | h1
            · omega
            · exact mul_far HU.out HU'.out HX.out h1 (by omega) hv.out
          obtain ⟨z, hz⟩ := get_of_lt (xs := o) (k := j + kk) (by have := hlen.out; omega)
          obtain ⟨hz0, hz1⟩ := HUO.out.get hz
          have CY := fun n => limb01_quiet m kk a' c' (wr.drewN n) (H'.out.ext (Ext.below (below_drewN hb n)))
          obtain ⟨hy0, hy1⟩ := limbAt_in HU'.out kk
          have hstep := fun c2 d y e => mul_step l m o j kk cy c2 d z x y hz e hv.out
          have hcar := fun (c2 d : Nat) (y : Int) (hy0 : 0 ≤ y) (hy1 : y ≤ 65535) => carry_lt (z := z.toNat) (x := x.toNat) (y := y.toNat) (c := cy) (d := d) (c2 := c2) (by omega) (by omega) (by omega) hcy
          have cx := Ext.below hb _ _ HCX.out
          have cz := HB.out.cell hz
          have fz := HB.out.frozen (j + kk)
          have hgl := HB.out.lt
          replace hstep := fun c2 d => hstep c2 d _ rfl
          revert CY hy0 hy1 hstep
          generalize limbAt m kk = y
          intro CY hy0 hy1 hstep
          have HZ := Lib.hid hz
          have HS := Lib.hid hstep
          have HC := Lib.hid hcar
          clear hz hstep hcar
          have hxy : 0 ≤ x * y := Int.mul_nonneg hx0 hy0
          have hxy2 : x * y ≤ 4294836225 := by
            have := Int.mul_le_mul hx1 hy1 hy0 (by omega)
            omega
          have wi1 : IntKind.i64.wrap ((j : Int) + kk) = (j : Int) + kk := IntWalk.i64_in _ (by omega)
          have wu1 : IntKind.u64.wrap (x * y) = x * y := IntWalk.u64_in _ (by omega)
          have wu2 : IntKind.u64.wrap (z + x * y) = z + x * y := IntWalk.u64_in _ (by omega)
          have wu3 : IntKind.u64.wrap (z + x * y + cy) = z + x * y + cy := IntWalk.u64_in _ (by omega)
          have wx : IntKind.u64.wrap x = x := IntWalk.u64_in _ (by omega)
          have wz : IntKind.u64.wrap z = z := IntWalk.u64_in _ (by omega)
          have wy : IntKind.u64.wrap y = y := IntWalk.u64_in _ (by omega)
          have hji : (0 : Int) ≤ (j : Int) + kk := by omega
          have hjt : ((j : Int) + kk).toNat = j + kk := by omega
          have hsl : (j : Int) + kk < (l.length : Int) + m.length + 1 := by omega
          replace CY := Lib.hid CY
          by_cases hkl : kk < m.length
          all_goals
            go_wp2
            go_quiet ((go_at_call 60; exact Calls.quiet_of_same (CY.out _)))
            clear wi1 wu1 wu2 wu3 wy wx wz hjt
            go_wp2
            go_roundw
            case rel =>
              obtain ⟨s, es⟩ : ∃ s : Nat, (s : Int) = z + x * y + cy := ⟨(z + x * y + cy).toNat, by omega⟩
              have es2 : s = z.toNat + x.toNat * y.toNat + cy := by
                have ex : (x.toNat : Int) = x := by omega
                have ey : (y.toNat : Int) = y := by omega
                have ez : (z.toNat : Int) = z := by omega
                have : ((z.toNat + x.toNat * y.toNat + cy : Nat) : Int) = z + x * y + cy := by
                  rw [Int.natCast_add, Int.natCast_add, Int.natCast_mul, ex, ey, ez]
                omega
              have em : (z + x * y + (cy : Int)) % 65536 = ((s % 65536 : Nat) : Int) := by omega
              have ed : (z + x * y + (cy : Int)) / 65536 = ((s / 65536 : Nat) : Int) := by omega
              have hd : s % 65536 + 65536 * (s / 65536) = z.toNat + x.toNat * y.toNat + cy := by omega
              have hset : BlkN ((wr.drewN nq).setCell ⟨w.heap.size, j + kk, none⟩ (.int .u16 ((z + x * y + (cy : Int)) % 65536))) w.heap.size (o.set (j + kk) ((s % 65536 : Nat) : Int)) := by
                rw [em]
                exact BlkN.set_ (show BlkN (wr.drewN nq) w.heap.size o from HB.out) _ _
              exact ⟨s / 65536, kk + 1, o.set (j + kk) ((s % 65536 : Nat) : Int), by omega, HC.out _ _ y hy0 hy1 hd, by rw [ed], by go_num, hset, HUO.out.set_ (by omega),
                (below_drewN hb nq).setCell (p := ⟨w.heap.size, j + kk, none⟩) (Nat.le_refl _) _, by show _ = _; rw [List.length_set, hlen.out], HS.out _ _ hd⟩
            case measure => simp [intOf]; omega
        · obtain rfl : cy = 0 := by omega
          have hk2 : m.length ≤ kk := by omega
          have hfin : val o = val (l.take (j + 1)) * val m := by
            have := hv.out
            rw [val_take_all hk2, mul_end l m j x HX.out] at this
            simpa using this
          replace hfin := Lib.hid hfin
          go_wp2
          go_roundw
          case rel => exact ⟨j + 1, o, by omega, by go_num, HB.out, HUO.out, hb, hlen.out, hfin.out⟩
          case measure => simp [intOf]; omega
    · obtain rfl : j = l.length := by omega
      have hval : val o = n1 * n2 := by
        have := hv.out
        rw [this, val_take_all (Nat.le_refl _), HN.out, HK.out]
      have hol := hlen.out
      have CN := norm01_any o (some ⟨w.heap.size, 0, none⟩) (l.length + m.length + 1) wr (hB.readsV (Nat.le_refl _) (New.refl _ _) hUo (by omega) (by simp [maxLen]; omega)) (by omega)
      rw [hval, hlen.out] at CN
      replace CN := Lib.hid CN
      clear hval hol
      go_wp2_with (go_at_call 45; refine CN.out.mono ?_; rintro e w2 ⟨a2, c2, rfl, hV, hb2⟩)
      go_ret
      exact ⟨a2, c2, rfl, fun V hV' => hV V (hV'.base hb.size), below_then hb hb2⟩
end Go.Proofs.YtmeplgagpnligaaDoor

/- Walks of the reference's natural numbers: digit, DivMod, Gcd. -/
namespace Go.Proofs.YtmeplgagpnligaaDoor
open Go.RowKit

set_option maxHeartbeats 1000000 in
/-- the quotient of two numbers, if it is one limb -/
theorem digit01_any (l m : List Int) (n1 n2 : Nat) (a a' : Option Addr) (c c' : Nat) (w : World) (h : NatR w a c l) (h' : NatR w a' c' m) (hn : val l = n1) (hk : val m = n2) (hl : l.length ≤ 4000000) (hm : m.length ≤ 4000000)
    (h0 : 0 < n2) (hq : n1 / n2 ≤ 65535) :
    Calls Tryd.prog 57 #[.slice a l.length c, .slice a' m.length c'] w fun e w' => e = .returned (.int .u64 ((n1 / n2 : Nat) : Int)) ∧ Below w.heap.size w w' := by
  have H := Lib.hid h
  have H' := Lib.hid h'
  have HN := Lib.hid hn
  have HK := Lib.hid hk
  obtain ⟨q, hqe⟩ : ∃ q, n1 / n2 = q := ⟨_, rfl⟩
  have hdiv : ∀ d, d * n2 ≤ n1 ↔ d ≤ q := fun d => by rw [← hqe]; exact (Nat.le_div_iff_mul_le h0).symm
  rw [hqe] at hq ⊢
  have HD := Lib.hid hdiv
  clear h h' hn hk hqe hdiv
  go_enter Tryd.func57, Tryd.ntmps57
  go_wp2
  go_loopw [5, 6, 7] (fun x y _ wr => ∃ lo hi : Nat, lo ≤ q ∧ q ≤ hi ∧ hi ≤ 65535 ∧ x = .int .u64 lo ∧ y = .int .u64 hi ∧ Below w.heap.size w wr) (fun x y _ _ => (intOf y).toNat - (intOf x).toNat)
  case atStart => exact ⟨0, 65535, by omega, by omega, by omega, rfl, rfl, Below.refl _ _⟩
  case round =>
    obtain ⟨lo, hi, hlo, hhi, hhi2, rfl, rfl, hb⟩ := hrel
    by_cases hlt : lo < hi
    · obtain ⟨d, hd⟩ : ∃ d : Nat, d = (lo + hi + 1) / 2 := ⟨_, rfl⟩
      have hd1 : lo < d := by omega
      have hd2 : d ≤ hi := by omega
      have hde : ((lo : Int) + hi + 1) / 2 = (d : Int) := by omega
      have hd3 : d < 18446744073709551616 := by omega
      have HDE := Lib.hid hde
      clear hd hde
      have CO := fun w => of01_any d w hd3
      replace CO := Lib.hid CO
      go_wp2_with fail
      rw [HDE.out]
      refine (CO.out _).mono ?_
      rintro e w1 ⟨a1, c1, rfl, hV1, hb1⟩
      have hbw1 := below_then hb hb1
      have hr1 := hV1 w1 (New.refl _ _)
      have hlen1 : (limbs d).length ≤ 1 := limbs_len_le (by omega)
      have CM := mul01_any m (limbs d) n2 d a' a1 c' c1 w1 (H'.out.ext (Ext.below hbw1)) hr1 HK.out (val_limbs d) (by omega) (by omega)
      replace CM := Lib.hid CM
      clear hV1 hr1 hb1 hb CO
      go_wp2_with fail
      refine CM.out.mono ?_
      rintro e w2 ⟨a2, c2, rfl, hV2, hb2⟩
      have hbw2 := below_then hbw1 hb2
      have hr2 := hV2 w2 (New.refl _ _)
      have hlen2 : (limbs (n2 * d)).length ≤ 4000001 := by
        have h1 := limbs_len_mul n2 d
        have h2 := limbs_len_val H'.out.u16
        rw [HK.out] at h2
        omega
      have CC := cmp01_any (limbs (n2 * d)) l a2 a c2 c w2 hr2 (H.out.ext (Ext.below hbw2)) (by omega) (by omega)
      rw [val_limbs, HN.out] at CC
      have hcm : cmpN (n2 * d) n1 ≤ 0 ↔ d ≤ q := by rw [cmpN_le, Nat.mul_comm]; exact HD.out d
      revert CC hcm
      generalize cmpN (n2 * d) n1 = cv
      intro CC hcm
      replace CC := Lib.hid CC
      clear hV2 hr2 hb2 hbw1 CM hlen2 hlen1
      by_cases hle : d ≤ q
      · have hcv : decide (cv ≤ 0) = true := by simpa using hcm.2 hle
        clear hcm
        go_wp2_with fail
        refine CC.out.mono ?_
        rintro e w3 ⟨rfl, rfl⟩
        go_wp2
        go_roundw
        case rel => exact ⟨d, hi, hle, hhi, hhi2, rfl, rfl, hbw2⟩
        case measure => simp [intOf]; omega
      · have hcv : decide (cv ≤ 0) = false := by simp; have := fun h => hle (hcm.1 h); omega
        clear hcm
        go_wp2_with fail
        refine CC.out.mono ?_
        rintro e w3 ⟨rfl, rfl⟩
        go_wp2
        go_roundw
        case rel => exact ⟨lo, d - 1, hlo, by omega, by omega, rfl, val_int (by omega), hbw2⟩
        case measure => simp [intOf]; omega
    · obtain rfl : lo = q := by omega
      go_wp2
      go_ret
      exact ⟨rfl, hb⟩

theorem divMod01_zero (l m : List Int) (a a' : Option Addr) (c c' : Nat) (w : World) (h : NatR w a c l) (h' : NatR w a' c' m) (hk : val m = 0) (hl : l.length ≤ 2000000) (hm : m.length ≤ 2000000) :
    Calls Tryd.prog 46 #[.slice a l.length c, .slice a' m.length c'] w fun e w' => e = .returned (.tuple #[.slice none 0 0, .slice none 0 0, .int .i64 3]) ∧ Below w.heap.size w w' := by
  have H := Lib.hid h
  have H' := Lib.hid h'
  have C1 := norm01_any l a c w h (by omega)
  replace C1 := Lib.hid C1
  clear h h'
  go_enter Tryd.func46, Tryd.ntmps46
  go_wp2_with fail
  refine C1.out.mono ?_
  rintro e w1 ⟨a1, c1, rfl, hV1, hb1⟩
  have C2 := norm01_any m a' c' w1 (H'.out.ext (Ext.below hb1)) (by omega)
  rw [hk, limbs_zero] at C2
  replace C2 := Lib.hid C2
  clear hk hV1 C1
  go_wp2_with fail
  refine C2.out.mono ?_
  rintro e w2 ⟨a2, c2, rfl, hV2, hb2⟩
  have hb := below_then hb1 hb2
  clear hV2 hb1 hb2 C2
  go_wp2
  go_ret3
  exact ⟨rfl, hb⟩

/-- what a call gives that divides -/
def RetDM (n1 n2 : Nat) (w : World) (e : Ending) (w' : World) : Prop := ∃ a1 c1 a2 c2, e = .returned (.tuple #[.slice a1 (limbs (n1 / n2)).length c1, .slice a2 (limbs (n1 % n2)).length c2, .int .i64 0]) ∧
      (∀ V, New w.heap.size w' V → NatR V a1 c1 (limbs (n1 / n2))) ∧ (∀ V, New w.heap.size w' V → NatR V a2 c2 (limbs (n1 % n2))) ∧ Below w.heap.size w w'
set_option maxHeartbeats 1000000 in
theorem divMod01_small (l m : List Int) (n1 n2 : Nat) (a a' : Option Addr) (c c' : Nat) (w : World) (h : NatR w a c l) (h' : NatR w a' c' m) (hn : val l = n1) (hk : val m = n2) (hl : l.length ≤ 2000000) (hm : m.length ≤ 2000000)
    (h0 : 0 < n2) (hs1 : (limbs n1).length ≤ 4) (hs2 : (limbs n2).length ≤ 4) :
    Calls Tryd.prog 46 #[.slice a l.length c, .slice a' m.length c'] w (RetDM n1 n2 w) := by
  have H := Lib.hid h
  have H' := Lib.hid h'
  have C1 := norm01_any l a c w h (by omega)
  rw [hn] at C1
  replace C1 := Lib.hid C1
  have hv1 : n1 < 18446744073709551616 := by have := lt_pow_limbs n1; have h2 := Nat.pow_le_pow_right (show 0 < 65536 by omega) hs1; omega
  have hv2 : n2 < 18446744073709551616 := by have := lt_pow_limbs n2; have h2 := Nat.pow_le_pow_right (show 0 < 65536 by omega) hs2; omega
  have hne : ((limbs n2).length : Int) ≠ 0 := by have := limbs_len_pos.2 h0; omega
  have hbz : (((limbs n2).length : Int) == 0) = false := by simpa using hne
  have hd1 : decide (((limbs n1).length : Int) ≤ 4) = true := by simp; omega
  have hd2 : decide (((limbs n2).length : Int) ≤ 4) = true := by simp; omega
  have HK := Lib.hid hk
  clear h h' hn hne hs1 hs2 hk
  go_enter Tryd.func46, Tryd.ntmps46
  go_wp2_with fail
  refine C1.out.mono ?_
  rintro e w1 ⟨a1, c1, rfl, hV1, hb1⟩
  have C2 := norm01_any m a' c' w1 (H'.out.ext (Ext.below hb1)) (by omega)
  rw [HK.out] at C2
  replace C2 := Lib.hid C2
  clear C1
  have HV1 := Lib.hid hV1
  clear hV1
  go_wp2_with fail
  refine C2.out.mono ?_
  rintro e w2 ⟨a2, c2, rfl, hV2, hb2⟩
  have hb := below_then hb1 hb2
  have hr1 := HV1.out w2 ((New.refl _ w2).below hb2)
  have hr2 := hV2 w2 (New.refl _ _)
  have S1 := fun W (hW : Below w2.heap.size w2 W) => short01_any (limbs n1) a1 c1 W (hr1.ext (Ext.below hW)) (by rw [val_limbs]; exact hv1)
  have S2 := fun W (hW : Below w2.heap.size w2 W) => short01_any (limbs n2) a2 c2 W (hr2.ext (Ext.below hW)) (by rw [val_limbs]; exact hv2)
  rw [val_limbs] at S1 S2
  replace S1 := Lib.hid S1
  replace S2 := Lib.hid S2
  have hz2 : ((n2 : Int) == 0) = false := by simp; omega
  clear hV2 hb1 hb2 C2 HV1 hr1 hr2
  have hq1 : n1 / n2 < 18446744073709551616 := Nat.lt_of_le_of_lt (Nat.div_le_self _ _) hv1
  have hq2 : n1 % n2 < 18446744073709551616 := Nat.lt_of_le_of_lt (Nat.mod_le _ _) hv1
  have hm1 : IntKind.u64.wrap ((n1 : Int) / n2) = ((n1 / n2 : Nat) : Int) := by
    have e : ((n1 : Int) / n2) = ((n1 / n2 : Nat) : Int) := by simp
    rw [e]
    exact IntWalk.u64_in _ ⟨Int.natCast_nonneg _, by omega⟩
  have hm2 : ((n1 : Int) % n2) = ((n1 % n2 : Nat) : Int) := by simp
  have HM1 := Lib.hid hm1
  have HM2 := Lib.hid hm2
  have CO1 := fun w => of01_any (n1 / n2) w hq1
  have CO2 := fun w => of01_any (n1 % n2) w hq2
  replace CO1 := Lib.hid CO1
  replace CO2 := Lib.hid CO2
  have hn2 : (1 : Int) ≤ n2 := by omega
  clear hm1 hm2 hq1 hq2 hv1 hv2
  go_wp2_with fail
  refine (S1.out _ (Below.refl _ _)).mono ?_
  rintro e w3 ⟨rfl, rfl⟩
  go_wp2_with fail
  refine (S2.out _ (Below.refl _ _)).mono ?_
  rintro e w3 ⟨rfl, rfl⟩
  go_wp2_with fail
  rw [HM1.out]
  refine (CO1.out _).mono ?_
  rintro e w3 ⟨a3, c3, rfl, hV3, hb3⟩
  have HV3 := Lib.hid hV3
  clear hV3
  go_wp2_with fail
  refine (S1.out _ hb3).mono ?_
  rintro e w4 ⟨rfl, rfl⟩
  go_wp2_with fail
  refine (S2.out _ hb3).mono ?_
  rintro e w4 ⟨rfl, rfl⟩
  go_wp2_with fail
  rw [HM2.out]
  refine (CO2.out _).mono ?_
  rintro e w4 ⟨a4, c4, rfl, hV4, hb4⟩
  have HV4 := Lib.hid hV4
  clear hV4
  go_wp2
  go_ret3
  exact ⟨a3, c3, a4, c4, rfl, fun V hV => HV3.out V ((hV.below hb4).base hb.size), fun V hV => HV4.out V (hV.base (Nat.le_trans hb.size hb3.size)), below_then (below_then hb hb3) hb4⟩

theorem ownN_one (w : World) (x : Int) {B : Nat} (hB : B ≤ w.heap.size) : OwnN B (w.alloc (.cells #[.int .u16 x] 33)) (some ⟨w.heap.size, 0, none⟩) 1 [x] :=
  BlkN.own (l := [x]) (Blk.new w _ _) hB (by simp [maxLen])
theorem div_last {n1 n2 q r : Nat} (h : n1 = q * n2 + r) (hr : r < n2) : q = n1 / n2 ∧ r = n1 % n2 := by
  subst h
  constructor
  · rw [Nat.mul_comm, Nat.mul_add_div (by omega), Nat.div_eq_of_lt hr, Nat.add_zero]
  · rw [Nat.mul_comm, Nat.mul_add_mod, Nat.mod_eq_of_lt hr]
set_option maxHeartbeats 2000000 in
theorem divMod01_big (l m : List Int) (n1 n2 : Nat) (a a' : Option Addr) (c c' : Nat) (w : World) (h : NatR w a c l) (h' : NatR w a' c' m) (hn : val l = n1) (hk : val m = n2) (hl : l.length ≤ 2000000) (hm : m.length ≤ 2000000)
    (h0 : 0 < n2) (hs : ¬ ((limbs n1).length ≤ 4 ∧ (limbs n2).length ≤ 4)) :
    Calls Tryd.prog 46 #[.slice a l.length c, .slice a' m.length c'] w (RetDM n1 n2 w) := by
  have H := Lib.hid h
  have H' := Lib.hid h'
  have C1 := norm01_any l a c w h (by omega)
  rw [hn] at C1
  replace C1 := Lib.hid C1
  have hne : ((limbs n2).length : Int) ≠ 0 := by have := limbs_len_pos.2 h0; omega
  have hbz : (((limbs n2).length : Int) == 0) = false := by simpa using hne
  have hL1 : (limbs n1).length ≤ 2000000 := by have := limbs_len_val h.u16; rw [hn] at this; omega
  have hL2 : (limbs n2).length ≤ 2000000 := by have := limbs_len_val h'.u16; rw [hk] at this; omega
  have HK := Lib.hid hk
  clear h h' hn hne hk
  have hcase : decide (((limbs n1).length : Int) ≤ 4) = true ∧ decide (((limbs n2).length : Int) ≤ 4) = false ∨ decide (((limbs n1).length : Int) ≤ 4) = false := by
    simp; omega
  clear hs
  go_enter Tryd.func46, Tryd.ntmps46
  go_wp2_with fail
  refine C1.out.mono ?_
  rintro e w1 ⟨a1, c1, rfl, hV1, hb1⟩
  have C2 := norm01_any m a' c' w1 (H'.out.ext (Ext.below hb1)) (by omega)
  rw [HK.out] at C2
  replace C2 := Lib.hid C2
  clear C1
  have HV1 := Lib.hid hV1
  clear hV1
  go_wp2_with fail
  refine C2.out.mono ?_
  rintro e w2 ⟨a2, c2, rfl, hV2, hb2⟩
  have hb := below_then hb1 hb2
  have HA := Lib.hid (HV1.out w2 ((New.refl _ w2).below hb2))
  have HM := Lib.hid (hV2 w2 (New.refl _ _))
  clear hV2 hb1 hb2 C2 HV1 H H' HK
  have hnb : ∃ b1 b2 : Bool, decide (((limbs n1).length : Int) ≤ 4) = b1 ∧ decide (((limbs n2).length : Int) ≤ 4) = b2 ∧ (b1 && b2) = false := ⟨_, _, rfl, rfl, by rcases hcase with ⟨h1, h2⟩ | h1 <;> simp [h1] <;> simp_all⟩
  rcases hcase with ⟨hc1, hc2⟩ | hc1
  all_goals
    go_wp2
    clear hnb
    go_loopw [7, 8, 9, 10] (fun sq sr i _ wr => ∃ (k : Nat) (ql : List Int) (rv : Nat) (aq : Option Addr) (cq : Nat) (ar : Option Addr) (cr : Nat), k ≤ (limbs n1).length ∧ i = .int .i64 ((k : Int) - 1) ∧ sq = .slice aq ql.length cq ∧ sr = .slice ar (limbs rv).length cr ∧
      Hid (∀ V, New w.heap.size wr V → NatR V aq cq ql) ∧ Hid (∀ V, New w.heap.size wr V → NatR V ar cr (limbs rv)) ∧ rv < n2 ∧ Below w.heap.size w wr ∧ Below w2.heap.size w2 wr ∧ Hid (val ((limbs n1).drop k) = val ql * n2 + rv) ∧ Hid (ql.length + k = (limbs n1).length)) (fun _ _ i _ _ => (intOf i + 1).toNat)
    case atStart => exact ⟨(limbs n1).length, [], 0, none, 0, none, 0, Nat.le_refl _, rfl, rfl, by rw [limbs_zero]; rfl, fun _ _ => SlR.nil, fun _ _ => by rw [limbs_zero]; exact SlR.nil, h0, hb, Below.refl _ _, by show _ = _; rw [val_drop_all (Nat.le_refl _)]; simp [val], by show _ = _; simp⟩
    case round =>
      clear hb
      obtain ⟨k, ql, rv, aq, cq, ar, cr, hk, rfl, rfl, rfl, HQ, HR, hrv, hb, hb2, hv, hlq⟩ := hrel
      by_cases hk0 : k = 0
      · subst hk0
        have hfin : val ql = n1 / n2 ∧ rv = n1 % n2 := by
          have := hv.out
          simp only [List.drop_zero, val_limbs] at this
          exact div_last this hrv
        obtain ⟨hf1, hf2⟩ := hfin
        have CN := norm01_any ql aq cq wr (HQ.out wr (New.refl _ _)) (by have := hlq.out; omega)
        rw [hf1] at CN
        replace CN := Lib.hid CN
        have HF2 := Lib.hid hf2
        clear hf1 hf2
        go_wp2_with fail
        refine CN.out.mono ?_
        rintro e w3 ⟨a3, c3, rfl, hV3, hb3⟩
        have HV3 := Lib.hid hV3
        clear hV3 CN
        go_wp2
        go_ret3
        have e2 := HF2.out
        have hR := HR.out
        subst e2
        exact ⟨a3, c3, ar, cr, rfl, fun V hV => HV3.out V (hV.base hb.size), fun V hV => hR V (hV.below hb3), below_then hb hb3⟩
      · have hgt : decide ((0 : Int) ≤ (k : Int) - 1) = true := by simp; omega
        have hge : (0 : Int) ≤ (k : Int) - 1 := by omega
        obtain ⟨x, hx⟩ := get_of_lt (xs := limbs n1) (k := k - 1) (by omega)
        obtain ⟨ba, oa, rfl, hcx⟩ := (HA.out.ext (Ext.below hb2)).cell hx
        obtain ⟨hx0, hx1⟩ := (limbs_u16 n1).get hx
        obtain ⟨N, hN⟩ : ∃ N, N = x.toNat + 65536 * rv := ⟨_, rfl⟩
        have hqd : N / n2 ≤ 65535 := by rw [hN]; exact div_digit (by omega) hrv
        have hqm : N = N / n2 * n2 + N % n2 := by rw [Nat.mul_comm]; exact (Nat.div_add_mod N n2).symm
        have hrm : N % n2 < n2 := Nat.mod_lt _ h0
        have hvd := div_step (limbs n1) ql (k - 1) n2 rv (N / n2) (N % n2) x hx (by rw [show k - 1 + 1 = k by omega]; exact hv.out) (by rw [← hN]; exact hqm)
        have hle : n2 * (N / n2) ≤ N := Nat.mul_div_le N n2
        have hsub : N - n2 * (N / n2) = N % n2 := by have := Nat.div_add_mod N n2; omega
        have hNl : (limbs N).length ≤ 2000001 := by
          refine Nat.le_trans (limbs_len_le (k := (limbs n2).length + 1) ?_) (by omega)
          have := lt_pow_limbs n2
          rw [Nat.pow_succ]
          omega
        obtain ⟨d, hd⟩ : ∃ d, N / n2 = d := ⟨_, rfl⟩
        obtain ⟨r2, hr2⟩ : ∃ r2, N % n2 = r2 := ⟨_, rfl⟩
        rw [hd] at hqd hqm hvd hle hsub
        rw [hr2] at hqm hrm hvd hsub
        have HD := Lib.hid hd
        clear hd hr2
        have hrl : (limbs rv).length ≤ 2000000 := Nat.le_trans (limbs_len_mono (Nat.le_of_lt hrv)) hL2
        have HVD := Lib.hid hvd
        have HSUB := Lib.hid hsub
        have HN := Lib.hid hN
        have HQM := Lib.hid hqm
        have HLE := Lib.hid hle
        have HL := Lib.hid hNl
        have HRL := Lib.hid hrl
        clear hx hN hvd hsub hqm hle hNl hrl
        go_wp2_with (at_builtin; go_must (refine append_nats (B := wr.heap.size) rfl (.tmp 49) (.tmp 50) rfl (some ⟨wr.heap.size, 0, none⟩) 1 (l := [x]) rfl (ownN_one wr x (Nat.le_refl _)) ar cr (m := limbs rv) rfl (HR.out _ ((New.refl _ _).unalloc)) (x :: limbs rv) rfl (by have := HRL.out; simp; omega) (by simp) ?_); intro a3 c3 w3 hown3 hg3 hbb3)
        have hb3 : Below wr.heap.size wr w3 := ((Below.refl _ wr).alloc (Nat.le_refl _) _).trans hbb3
        have hu3 : U16 (x :: limbs rv) := U16.cons ⟨hx0, hx1⟩ (limbs_u16 rv)
        have CN := norm01_any (x :: limbs rv) a3 c3 w3 (hown3.reads1 hu3) (by have := HRL.out; simp; omega)
        have ev : val (x :: limbs rv) = N := by rw [HN.out, val, val_limbs]
        rw [ev] at CN
        replace CN := Lib.hid CN
        clear hown3 hg3 hbb3 hu3 ev hcx
        refine CN.out.mono ?_
        rintro e w4 ⟨a4, c4, rfl, hV4, hb4⟩
        have HV4 := Lib.hid hV4
        replace hb4 := below_then hb3 hb4
        clear hV4 CN hb3
        have CD := digit01_any (limbs N) (limbs n2) N n2 a4 a2 c4 c2 w4 (HV4.out w4 (New.refl _ _)) (HM.out.ext (Ext.below (below_then hb2 hb4))) (val_limbs N) (val_limbs n2) (by have := HL.out; omega) (by omega) h0 (by rw [HD.out]; exact hqd)
        rw [HD.out] at CD
        replace CD := Lib.hid CD
        go_wp2_with fail
        refine CD.out.mono ?_
        rintro e w5 ⟨rfl, hb5⟩
        have hb45 := hb5
        replace hb5 := below_then hb4 hb5
        clear CD
        have hdd : (d : Int) ≤ 65535 := by omega
        go_wp2_with (at_builtin; go_must (refine append_nats (B := w5.heap.size) rfl (.tmp 58) (.tmp 59) rfl (some ⟨w5.heap.size, 0, none⟩) 1 (l := [(d : Int)]) rfl (ownN_one w5 d (Nat.le_refl _)) aq cq (m := ql) rfl (HQ.out _ ((New.refl _ _).unalloc.below hb5)) ((d : Int) :: ql) rfl (by have := hlq.out; simp; omega) (by simp) ?_); intro a6 c6 w6 hown6 hg6 hbb6)
        have hb56 : Below w5.heap.size w5 w6 := ((Below.refl _ w5).alloc (Nat.le_refl _) _).trans hbb6
        have hb6 := below_then hb5 hb56
        have hu6 : U16 ((d : Int) :: ql) := U16.cons (by omega) (HQ.out wr (New.refl _ _)).u16
        have HO6 := Lib.hid hown6
        clear hown6 hg6 hbb6
        have CO := of01_any d w6 (by omega)
        replace CO := Lib.hid CO
        refine CO.out.mono ?_
        rintro e w7 ⟨a7, c7, rfl, hV7, hb67⟩
        have hb7 := below_then hb6 hb67
        have CM := mul01_any (limbs n2) (limbs d) n2 d a2 a7 c2 c7 w7 (HM.out.ext (Ext.below (below_then hb2 hb7))) (hV7 w7 (New.refl _ _)) (val_limbs _) (val_limbs _) (by omega) (by have := limbs_len_le (n := d) (k := 1) (by omega); omega)
        replace CM := Lib.hid CM
        clear hV7 CO
        go_wp2_with fail
        refine CM.out.mono ?_
        rintro e w8 ⟨a8, c8, rfl, hV8, hb78⟩
        have hb8 := below_then hb7 hb78
        have hp8 : (limbs (n2 * d)).length ≤ 4000001 := by
          have h1 := limbs_len_mul n2 d
          have h2 := limbs_len_le (n := d) (k := 1) (by omega)
          omega
        have CS := sub01_any (limbs N) (limbs (n2 * d)) N (n2 * d) a4 a8 c4 c8 w8 (HV4.out w8 ((New.refl _ w8).below (below_then hb45 (below_then hb56 (below_then hb67 hb78))))) (hV8 w8 (New.refl _ _)) (val_limbs _) (val_limbs _) (by have := HL.out; omega) (by omega) HLE.out
        rw [HSUB.out] at CS
        replace CS := Lib.hid CS
        clear hV8 CM hp8
        go_wp2_with fail
        refine CS.out.mono ?_
        rintro e w9 ⟨a9, c9, rfl, hV9, hb89⟩
        have hb9 := below_then hb8 hb89
        have HV9 := Lib.hid hV9
        clear hV9 CS
        go_wp2
        go_roundw
        case rel => exact ⟨k - 1, (d : Int) :: ql, r2, a6, c6, a9, c9, by omega, by first | (congr 1; omega) | rfl, by simp, rfl,
          fun V hV => HO6.out.readsV ((hV.below (below_then hb67 (below_then hb78 hb89))).base (Nat.le_trans hb.size hb5.size)) hu6, fun V hV => HV9.out V (hV.base (Nat.le_trans hb.size hb8.size)), hrm, below_then hb hb9, below_then hb2 hb9, HVD.out, by have := hlq.out; show _ = _; simp; omega⟩
        case measure => simp [intOf]; omega
end Go.Proofs.YtmeplgagpnligaaDoor
