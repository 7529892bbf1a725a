/- Walks: fractions in lowest terms, by the reference. -/
import Derived.Test.YtmeplgagpnligaaDoorLx10
import Derived.Deep.LoopGhost
import Derived.Test.YtmeplgagpnligaaDoorLx9
import Derived.Deep.CutRange
import Derived.Test.YtmeplgagpnligaaDoorProg
import Derived.Ground.NamesProg
import Derived.Shelf.Lay
import Derived.Shelf.Small.Bits
import Derived.Test.YtmeplgagpnligaaDoorLx2

/- Walks of the reference's natural numbers: Gcd. -/
namespace Go.Proofs.YtmeplgagpnligaaDoor
open Go.RowKit

theorem divMod01_any (l m : List Int) (n1 n2 : Nat) (a a' : Option Addr) (c c' : Nat) (w : World) (h : NatR w a c l) (h' : NatR w a' c' m) (hn : val l = n1) (hk : val m = n2) (hl : l.length ≤ 2000000) (hm : m.length ≤ 2000000)
    (h0 : 0 < n2) :
    Calls Tryd.prog 46 #[.slice a l.length c, .slice a' m.length c'] w (RetDM n1 n2 w) := by
  by_cases hs : (limbs n1).length ≤ 4 ∧ (limbs n2).length ≤ 4
  · exact divMod01_small l m n1 n2 a a' c c' w h h' hn hk hl hm h0 hs.1 hs.2
  · exact divMod01_big l m n1 n2 a a' c c' w h h' hn hk hl hm h0 hs

set_option maxHeartbeats 1000000 in
theorem gcd01_any (l m : List Int) (n1 n2 : Nat) (a a' : Option Addr) (c c' : Nat) (w : World) (h : NatR w a c l) (h' : NatR w a' c' m) (hn : val l = n1) (hk : val m = n2) (hl : l.length ≤ 2000000) (hm : m.length ≤ 2000000) :
    Calls Tryd.prog 48 #[.slice a l.length c, .slice a' m.length c'] w (RetN (limbs (Nat.gcd n1 n2)) w) := by
  have H := Lib.hid h
  have H' := Lib.hid h'
  have C1 := norm01_any l a c w h (by omega)
  rw [hn] at C1
  replace C1 := Lib.hid C1
  have hL1 : (limbs n1).length ≤ 2000000 := by have := limbs_len_val h.u16; rw [hn] at this; omega
  have hL2 : (limbs n2).length ≤ 2000000 := by have := limbs_len_val h'.u16; rw [hk] at this; omega
  have HK := Lib.hid hk
  clear h h' hn hk
  go_enter Tryd.func48, Tryd.ntmps48
  go_wp2_with fail
  refine C1.out.mono ?_
  rintro e w1 ⟨a1, c1, rfl, hV1, hb1⟩
  have C2 := norm01_any m a' c' w1 (H'.out.ext (Ext.below hb1)) (by omega)
  rw [HK.out] at C2
  replace C2 := Lib.hid C2
  have HV1 := Lib.hid hV1
  clear hV1 C1
  go_wp2_with fail
  refine C2.out.mono ?_
  rintro e w2 ⟨a2, c2, rfl, hV2, hb2⟩
  have hb := below_then hb1 hb2
  have HV2 := Lib.hid hV2
  clear hV2 C2 H H' HK
  go_wp2
  go_loopg [0, 1, 5, 6, 7] n2 (fun g sx sy _ _ _ wr => ∃ (x : Nat) (ax : Option Addr) (cx : Nat) (ay : Option Addr) (cy : Nat), sx = .slice ax (limbs x).length cx ∧ sy = .slice ay (limbs g).length cy ∧ (∀ V, New w.heap.size wr V → NatR V ax cx (limbs x)) ∧
    (∀ V, New w.heap.size wr V → NatR V ay cy (limbs g)) ∧ (limbs x).length ≤ 2000000 ∧ (limbs g).length ≤ 2000000 ∧ Below w.heap.size w wr ∧ Nat.gcd x g = Nat.gcd n1 n2)
  case atStart => exact ⟨n1, a1, c1, a2, c2, rfl, rfl, fun V hV => HV1.out V (hV.below hb2), fun V hV => HV2.out V (hV.base hb1.size), hL1, hL2, hb, rfl⟩
  case round =>
    obtain ⟨x, ax, cx, ay, cy, rfl, rfl, hx, hy, hlx, hly, hb', hg⟩ := hrel
    have HX := Lib.hid hx
    have HY := Lib.hid hy
    have HG := Lib.hid hg
    clear hx hy hg hb1 hb2 hb
    by_cases h0 : gk = 0
    · subst h0
      have hgz : decide (0 < (limbs 0).length) = false := by rw [limbs_zero]; rfl
      have hX := HX.out
      have hgc : limbs (Nat.gcd n1 n2) = limbs x := by rw [← HG.out, Nat.gcd_zero_right]
      have HGC := Lib.hid hgc
      clear hgc
      replace hX := Lib.hid hX
      go_wp2
      go_ret
      rw [HGC.out]
      exact ⟨ax, cx, rfl, hX.out, hb'⟩
    · have hgz : decide (0 < (limbs gk).length) = true := by have := limbs_len_pos (n := gk); simp; omega
      have CD := divMod01_any (limbs x) (limbs gk) x gk ax ay cx cy wr (HX.out wr (New.refl _ _)) (HY.out wr (New.refl _ _)) (val_limbs _) (val_limbs _) hlx hly (by omega)
      replace CD := Lib.hid CD
      have hr : x % gk < gk := Nat.mod_lt _ (by omega)
      have hgr : Nat.gcd gk (x % gk) = Nat.gcd n1 n2 := by rw [← HG.out, Nat.gcd_comm x gk, Nat.gcd_rec gk x, Nat.gcd_comm]
      have HGR := Lib.hid hgr
      have hlr : (limbs (x % gk)).length ≤ 2000000 := Nat.le_trans (limbs_len_mono (Nat.le_of_lt hr)) hly
      clear hgr
      go_wp2_with fail
      refine CD.out.mono ?_
      rintro e w3 ⟨a3, c3, a4, c4, rfl, hV3, hV4, hb3⟩
      have HV4 := Lib.hid hV4
      clear hV3 hV4 CD
      go_wp2
      go_roundg (x % gk)
      case rel => exact ⟨gk, ay, cy, a4, c4, rfl, rfl, fun V hV => HY.out V (hV.below hb3), fun V hV => HV4.out V (hV.base hb'.size), hly, hlr, below_then hb' hb3, HGR.out⟩
      case measure => exact hr
end Go.Proofs.YtmeplgagpnligaaDoor

/- Walks: integers: of, made, Norm, Of; by the program and by the reference. -/
namespace Go.Proofs.YtmeplgagpnligaaDoor
open Go.RowKit

/-- what a call gives that makes an integer -/
def RetZ (neg : Bool) (n : Nat) (w : World) (e : Ending) (w' : World) : Prop := ∃ a c, e = .returned (.agg #[.bool neg, .slice a (limbs n).length c]) ∧ (∀ V, New w.heap.size w' V → NatR V a c (limbs n)) ∧ Below w.heap.size w w'
theorem dec_pos (n : Nat) : decide (0 < (limbs n).length) = decide (0 < n) := by
  have := limbs_len_pos (n := n)
  rw [decide_eq_decide]
  omega
section
variable {w V : World} {g B B' : Nat} {t : TypeId} {x y z u v r : Value}
theorem back2 (h : New B ((w.setCell ⟨g, 0, none⟩ x).setCell ⟨g, 1, none⟩ y) V) (hB : B ≤ B') (hg : g < B') : New B' w V := ((h.base hB).unset hg).unset hg
theorem back3 (h : New B (((w.setCell ⟨g, 0, none⟩ x).setCell ⟨g, 1, none⟩ y).setCell ⟨g, 2, none⟩ z) V) (hB : B ≤ B') (hg : g < B') : New B' w V := (((h.base hB).unset hg).unset hg).unset hg
theorem blk2 (h : Blk w g t #[u, v]) : Blk ((w.setCell ⟨g, 0, none⟩ x).setCell ⟨g, 1, none⟩ y) g t #[x, y] := by have := (h.set_ 0 x).set_ 1 y; simpa using this
theorem blk3 (h : Blk w g t #[u, v, r]) : Blk (((w.setCell ⟨g, 0, none⟩ x).setCell ⟨g, 1, none⟩ y).setCell ⟨g, 2, none⟩ z) g t #[x, y, z] := by have := ((h.set_ 0 x).set_ 1 y).set_ 2 z; simpa using this
theorem below2 {w0 : World} (h : Below B w0 w) (hg : B ≤ g) : Below B w0 ((w.setCell ⟨g, 0, none⟩ x).setCell ⟨g, 1, none⟩ y) := (h.setCell (p := ⟨g, 0, none⟩) hg x).setCell (p := ⟨g, 1, none⟩) hg y
theorem below3 {w0 : World} (h : Below B w0 w) (hg : B ≤ g) : Below B w0 (((w.setCell ⟨g, 0, none⟩ x).setCell ⟨g, 1, none⟩ y).setCell ⟨g, 2, none⟩ z) := ((h.setCell (p := ⟨g, 0, none⟩) hg x).setCell (p := ⟨g, 1, none⟩) hg y).setCell (p := ⟨g, 2, none⟩) hg z
end

set_option maxRecDepth 100000 in
set_option maxHeartbeats 1000000 in
theorem zofR_any (neg : Bool) (l : List Int) (n : Nat) (a : Option Addr) (c : Nat) (w : World) (h : NatR w a c l) (hn : val l = n) (hl : l.length ≤ 16777216) :
    Calls Tryd.prog 49 #[.bool neg, .slice a l.length c] w (RetZ (neg && decide (0 < n)) n w) := by
  have CN := fun W (hW : Below w.heap.size w W) => norm01_any l a c W (h.ext (Ext.below hW)) hl
  rw [hn] at CN
  replace CN := Lib.hid CN
  have hd := dec_pos n
  obtain ⟨b, hb⟩ : ∃ b, decide (0 < n) = b := ⟨_, rfl⟩
  rw [hb] at hd ⊢
  have hz : Blk (w.alloc (.cells #[.bool false, .slice none 0 0] 52)) w.heap.size 52 #[.bool false, .slice none 0 0] := Blk.new w _ _
  have hb0 : Below w.heap.size w (w.alloc (.cells #[.bool false, .slice none 0 0] 52)) := (Below.refl _ _).alloc (Nat.le_refl _) _
  clear h hb
  cases neg
  · rw [Bool.false_and]
    go_enter Tryd.func49, Tryd.ntmps49
    go_wp2_with fail
    have hgl := hz.lt
    revert hz hb0 hgl
    generalize w.alloc (.cells #[.bool false, .slice none 0 0] 52) = w0
    intro hz hb0 hgl
    refine (CN.out _ hb0).mono ?_
    rintro e w1 ⟨a1, c1, rfl, hV, hb1⟩
    have hw1 := below_then hb0 hb1
    have HV := Lib.hid hV
    have hz1 := hz.below' hb1
    have z0 := hz1.cell 0; have z1 := hz1.cell 1; have f0 := hz1.frozen 0; have f1 := hz1.frozen 1
    have hs0 := hb0.size
    clear hV hb0 hz
    go_wp2
    have hF := blk2 (x := .bool false) (y := .slice a1 (limbs n).length c1) hz1
    have e0 := hF.cell 0; have e1 := hF.cell 1
    refine bodyPost_ret (v := .agg #[.bool false, .slice a1 (limbs n).length c1]) (by simp [results, Tryd.results49, go_sem, e0, e1]) rfl ?_
    exact ⟨a1, c1, rfl, fun V hV => HV.out V (back2 hV hs0 hgl), below2 hw1 (Nat.le_refl _)⟩
  · rw [Bool.true_and]
    go_enter Tryd.func49, Tryd.ntmps49
    go_wp2_with fail
    have hgl := hz.lt
    revert hz hb0 hgl
    generalize w.alloc (.cells #[.bool false, .slice none 0 0] 52) = w0
    intro hz hb0 hgl
    refine (CN.out _ hb0).mono ?_
    rintro e w1 ⟨a1, c1, rfl, hV, hb1⟩
    have hw1 := below_then hb0 hb1
    have HV := Lib.hid hV
    have hz1 := hz.below' hb1
    have z0 := hz1.cell 0; have z1 := hz1.cell 1; have f0 := hz1.frozen 0; have f1 := hz1.frozen 1
    have hs0 := hb0.size
    clear hV hb0 hz
    go_wp2
    have hF := blk2 (x := .bool b) (y := .slice a1 (limbs n).length c1) hz1
    have e0 := hF.cell 0; have e1 := hF.cell 1
    refine bodyPost_ret (v := .agg #[.bool b, .slice a1 (limbs n).length c1]) (by simp [results, Tryd.results49, go_sem, e0, e1]) rfl ?_
    exact ⟨a1, c1, rfl, fun V hV => HV.out V (back2 hV hs0 hgl), below2 hw1 (Nat.le_refl _)⟩
set_option maxRecDepth 100000 in
set_option maxHeartbeats 1000000 in
theorem znormR_any (neg : Bool) (l : List Int) (n : Nat) (a : Option Addr) (c : Nat) (w : World) (h : NatR w a c l) (hn : val l = n) (hl : l.length ≤ 16777216) :
    Calls Tryd.prog 44 #[.agg #[.bool neg, .slice a l.length c]] w (RetZ (neg && decide (0 < n)) n w) := by
  have CN := fun W (hW : Below w.heap.size w W) => zofR_any neg l n a c W (h.ext (Ext.below hW)) hn hl
  replace CN := Lib.hid CN
  have hz : Blk ((w.alloc (.cells #[.bool neg, .slice a l.length c] 52)).alloc (.cells #[.bool false, .slice none 0 0] 52)) (w.heap.size + 1) 52 #[.bool false, .slice none 0 0] := blk_at1 w _ _ _
  have hb0 : Below w.heap.size w ((w.alloc (.cells #[.bool neg, .slice a l.length c] 52)).alloc (.cells #[.bool false, .slice none 0 0] 52)) := ((Below.refl _ _).alloc (Nat.le_refl _) _).alloc (by simp) _
  have hgB : w.heap.size ≤ w.heap.size + 1 := by omega
  have hgl := hz.lt
  clear h hn
  go_enter Tryd.func44, Tryd.ntmps44
  go_wp2_with fail
  revert hz hb0 hgl hgB
  generalize (w.alloc (.cells #[.bool neg, .slice a l.length c] 52)).alloc (.cells #[.bool false, .slice none 0 0] 52) = w0
  generalize w.heap.size + 1 = g
  intro hz hb0 hgB hgl
  refine (CN.out _ hb0).mono ?_
  rintro e w1 ⟨a1, c1, rfl, hV, hb1⟩
  have hw1 := below_then hb0 hb1
  have HV := Lib.hid hV
  have hz1 := hz.below' hb1
  have z0 := hz1.cell 0; have z1 := hz1.cell 1; have f0 := hz1.frozen 0; have f1 := hz1.frozen 1
  have hs0 := hb0.size
  clear hV hb0 hz
  go_wp2
  have hF := blk2 (x := .bool (neg && decide (0 < n))) (y := .slice a1 (limbs n).length c1) hz1
  have e0 := hF.cell 0; have e1 := hF.cell 1
  refine bodyPost_ret (v := .agg #[.bool (neg && decide (0 < n)), .slice a1 (limbs n).length c1]) (by simp [results, Tryd.results44, go_sem, e0, e1]) rfl ?_
  exact ⟨a1, c1, rfl, fun V hV => HV.out V (back2 hV hs0 hgl), below2 hw1 hgB⟩
end Go.Proofs.YtmeplgagpnligaaDoor

/- math/bits.Len16, laid at this program. -/
namespace Go.Proofs
open Go.Shelf

end Go.Proofs
namespace Go.Proofs.YtmeplgagpnligaaDoor
end Go.Proofs.YtmeplgagpnligaaDoor

/- Walks: bits of a number, signs, sums of the reference, integers out of int. -/
namespace Go.Proofs.YtmeplgagpnligaaDoor
open Go.RowKit

theorem bits_of {n k x : Nat} (hl : (limbs n).length = k + 1) (hx : limbAt (limbs n) k = x) (hx0 : x ≠ 0) (hx1 : x ≤ 65535) : 1 ≤ Lib.bitLen x ∧ Lib.bitLen x ≤ 16 ∧ 2 ^ (16 * k + Lib.bitLen x - 1) ≤ n ∧ n < 2 ^ (16 * k + Lib.bitLen x) := by
  obtain ⟨h2, h3, h4⟩ := Lib.bitLenAux_bounds 64 x (by omega) hx0
  change 1 ≤ Lib.bitLen x at h2
  change 2 ^ (Lib.bitLen x - 1) ≤ x at h3
  change x < 2 ^ Lib.bitLen x at h4
  obtain ⟨q1, q2, _, _⟩ := norm_shift hx0 hx1
  obtain ⟨lo, hlo, e⟩ := val_split_at (limbs_u16 n) k
  rw [val_limbs, val_drop_at, hx, val_drop_all (by omega), Int.toNat_natCast] at e
  simp only [Nat.mul_zero, Nat.add_zero] at e
  have hp : (65536 : Nat) ^ k = 2 ^ (16 * k) := by rw [Nat.pow_mul]
  rw [hp] at e hlo
  generalize Lib.bitLen x = b at *
  refine ⟨q1, q2, ?_, ?_⟩
  · rw [show 16 * k + b - 1 = 16 * k + (b - 1) by omega, Nat.pow_add]
    have := Nat.mul_le_mul_left (2 ^ (16 * k)) h3
    omega
  · rw [Nat.pow_add]
    have := Nat.mul_le_mul_left (2 ^ (16 * k)) (show x + 1 ≤ 2 ^ b by omega)
    rw [Nat.mul_add, Nat.mul_one] at this
    omega
/-- the sign of an integer -/
def sgnZ (neg : Bool) (n : Nat) : Int := if n = 0 then 0 else if neg = true then -1 else 1
end Go.Proofs.YtmeplgagpnligaaDoor

/- Walks: sums of the reference; integers out of int. -/
namespace Go.Proofs.YtmeplgagpnligaaDoor
open Go.RowKit

set_option maxRecDepth 100000 in
set_option maxHeartbeats 4000000 in
theorem add01_any (l m : List Int) (n1 n2 : Nat) (a a' : Option Addr) (c c' : Nat) (w : World) (h : NatR w a c l) (h' : NatR w a' c' m) (hn : val l = n1) (hk : val m = n2) (hl : l.length ≤ 4000000) (hm : m.length ≤ 4000000) :
    Calls Tryd.prog 50 #[.slice a l.length c, .slice a' m.length c'] w (RetN (limbs (n1 + n2)) w) := by
  have H := Lib.hid h
  have H' := Lib.hid h'
  have HN := Lib.hid hn
  have HK := Lib.hid hk
  have hu := h.u16
  have hu' := h'.u16
  obtain ⟨M, hM⟩ : ∃ M, M = max l.length m.length + 1 := ⟨_, rfl⟩
  have hMl : l.length < M := by omega
  have hMm : m.length < M := by omega
  have hM2 : M ≤ 4000001 := by omega
  have HM := Lib.hid hM
  clear h h' hn hk hM
  go_enter Tryd.func50, Tryd.ntmps50
  go_wp2
  go_loopg [5, 6, 7, 8] M (fun g s5 s6 s7 _ wr => ∃ (k cc : Nat) (o : List Int) (ao : Option Addr) (co : Nat), k + g = M ∧ s5 = .slice ao o.length co ∧ s6 = .int .i64 cc ∧ s7 = .int .i64 k ∧ cc ≤ 1 ∧ Hid (k = M → cc = 0) ∧ Hid (o.length = k) ∧ U16 o ∧ OwnN w.heap.size wr ao co o ∧ Below w.heap.size w wr ∧
    Hid (val o + 65536 ^ k * cc = val (l.take k) + val (m.take k)))
  case atStart => exact ⟨0, 0, [], none, 0, by omega, rfl, rfl, rfl, by omega, fun _ => rfl, rfl, U16.nil, Own.nil, Below.refl _ _, by show _ = _; simp [val]⟩
  case round =>
    obtain ⟨k, cc, o, ao, co, hkg, rfl, rfl, rfl, hc1, hcz, hol, hou, ho, hw, hv⟩ := hrel
    have HO := Lib.hid ho
    have HKG := Lib.hid hkg
    clear ho
    by_cases hstop : ¬ k < l.length ∧ ¬ k < m.length ∧ cc = 0
    · obtain ⟨h1, h2, rfl⟩ := hstop
      have hval : val o = n1 + n2 := by
        have := hv.out
        rw [val_take_all (by omega), val_take_all (by omega), HN.out, HK.out] at this
        omega
      have CN := norm01_any o ao co wr (HO.out.reads1 hou) (by rw [hol.out]; omega)
      rw [hval] at CN
      replace CN := Lib.hid CN
      have g1 : decide (k < l.length) = false := by rw [decide_eq_false_iff_not]; omega
      have g2 : decide (k < m.length) = false := by rw [decide_eq_false_iff_not]; omega
      clear hval hkg
      go_wp2_with fail
      refine CN.out.mono ?_
      rintro e w1 ⟨a1, c1, rfl, hV, hb1⟩
      have HV := Lib.hid hV
      have hb2 := below_then hw hb1
      clear hV
      go_wp2
      go_ret
      exact ⟨a1, c1, rfl, fun V hV => HV.out V (hV.base hw.size), hb2⟩
    · have hkM : k < M := by
        apply Nat.lt_of_not_le
        intro hc
        have : k = M := by omega
        have := hcz.out this
        omega
      have hx := limbAt_in hu k
      have hy := limbAt_in hu' k
      have CX := fun W (hW : Below w.heap.size w W) => limb01_any l k a c W (H.out.ext (Ext.below hW))
      have CY := fun W (hW : Below w.heap.size w W) => limb01_any m k a' c' W (H'.out.ext (Ext.below hW))
      have hstep := fun c2 d h1 => add_step l m o k cc c2 d hol.out hv.out h1
      have hx0 : ¬ k < l.length → limbAt l k = 0 := fun e => limbAt_none (by omega)
      have hy0 : ¬ k < m.length → limbAt m k = 0 := fun e => limbAt_none (by omega)
      revert CX CY hx hy hstep hx0 hy0
      generalize limbAt l k = xi
      generalize limbAt m k = yi
      intro hx hy CX CY hstep hx0 hy0
      obtain ⟨x, rfl⟩ : ∃ x : Nat, xi = (x : Int) := ⟨xi.toNat, by omega⟩
      obtain ⟨y, rfl⟩ : ∃ y : Nat, yi = (y : Int) := ⟨yi.toNat, by omega⟩
      simp only [Int.toNat_natCast] at hstep
      obtain ⟨lo, hlo⟩ : ∃ lo, (x + y + cc) % 65536 = lo := ⟨_, rfl⟩
      obtain ⟨c2, hc2⟩ : ∃ c2, (x + y + cc) / 65536 = c2 := ⟨_, rfl⟩
      have hs := hstep c2 lo (by omega)
      have hc21 : c2 ≤ 1 := by omega
      have hlo1 : lo ≤ 65535 := by omega
      have hcz2 : k + 1 = M → c2 = 0 := fun e => by
        have h1 := hx0 (by have := HM.out; omega)
        have h2 := hy0 (by have := HM.out; omega)
        omega
      have w1 : ((x : Int) + (y : Int) + (cc : Int)).tmod 65536 = (lo : Int) := by
        have : (((x + y + cc : Nat) : Int)).tmod ((65536 : Nat) : Int) = (((x + y + cc) % 65536 : Nat) : Int) := rfl
        rw [hlo] at this
        simpa using this
      have w2 : ((x : Int) + (y : Int) + (cc : Int)).tdiv 65536 = (c2 : Int) := by
        have : (((x + y + cc : Nat) : Int)).tdiv ((65536 : Nat) : Int) = (((x + y + cc) / 65536 : Nat) : Int) := rfl
        rw [hc2] at this
        simpa using this
      have HS := Lib.hid hs
      have HCZ2 := Lib.hid hcz2
      have hkI : (k : Int) ≤ 4000001 := by omega
      replace CX := Lib.hid CX
      replace CY := Lib.hid CY
      have HLEN : Hid (o.length + 1 ≤ 16777216) := Lib.hid (by rw [hol.out]; omega)
      have HKM := Lib.hid hkM
      have hgB := hw.size
      by_cases h1 : k < l.length
      · have g1 : decide (k < l.length) = true := by rw [decide_eq_true_eq]; omega
        clear hstop hkg hstep hs hcz2 hlo hc2 hx0 hy0 h1 hkM
        go_wp2_with fail
        refine (CX.out _ hw).mono ?_
        rintro e w3 ⟨rfl, rfl⟩
        go_wp2_with fail
        refine (CY.out _ hw).mono ?_
        rintro e w3 ⟨rfl, rfl⟩
        go_wp2_with (at_builtin; go_must (refine append_nat rfl (.tmp 34) (.tmp 38) rfl ao co rfl (HO.out.alloc _) (lo : Int) wr.heap.size 1 rfl (by simp) (o ++ [(lo : Int)]) rfl (by have := HLEN.out; simpa using this) (by simp; omega) ?_); intro a2 c2' w2' ho2 hg2 hx2)
        go_roundg (gk - 1)
        case rel => exact ⟨k + 1, c2, o ++ [(lo : Int)], a2, c2', by have := HKG.out; have := HKM.out; omega, by first | rfl | simp, rfl, by go_num, by omega, HCZ2.out, by show _ = _; rw [List.length_append, hol.out]; rfl, hou.app (U16.cons (by omega) U16.nil), ho2, below_append' (hw.alloc hw.size _) (HO.out.alloc _) hg2, HS.out⟩
        case measure => have := HKG.out; have := HKM.out; omega
      · have g1 : decide (k < l.length) = false := by rw [decide_eq_false_iff_not]; omega
        by_cases h2 : k < m.length
        · have g2 : decide (k < m.length) = true := by rw [decide_eq_true_eq]; omega
          clear hstop hkg hstep hs hcz2 hlo hc2 hx0 hy0 h1 h2 hkM
          go_wp2_with fail
          refine (CX.out _ hw).mono ?_
          rintro e w3 ⟨rfl, rfl⟩
          go_wp2_with fail
          refine (CY.out _ hw).mono ?_
          rintro e w3 ⟨rfl, rfl⟩
          go_wp2_with (at_builtin; go_must (refine append_nat rfl (.tmp 34) (.tmp 38) rfl ao co rfl (HO.out.alloc _) (lo : Int) wr.heap.size 1 rfl (by simp) (o ++ [(lo : Int)]) rfl (by have := HLEN.out; simpa using this) (by simp; omega) ?_); intro a2 c2' w2' ho2 hg2 hx2)
          go_roundg (gk - 1)
          case rel => exact ⟨k + 1, c2, o ++ [(lo : Int)], a2, c2', by have := HKG.out; have := HKM.out; omega, by first | rfl | simp, rfl, by go_num, by omega, HCZ2.out, by show _ = _; rw [List.length_append, hol.out]; rfl, hou.app (U16.cons (by omega) U16.nil), ho2, below_append' (hw.alloc hw.size _) (HO.out.alloc _) hg2, HS.out⟩
          case measure => have := HKG.out; have := HKM.out; omega
        · have g2 : decide (k < m.length) = false := by rw [decide_eq_false_iff_not]; omega
          have g3 : decide (0 < cc) = true := by rw [decide_eq_true_eq]; omega
          clear hstop hkg hstep hs hcz2 hlo hc2 hx0 hy0 h1 h2 hkM
          go_wp2_with fail
          refine (CX.out _ hw).mono ?_
          rintro e w3 ⟨rfl, rfl⟩
          go_wp2_with fail
          refine (CY.out _ hw).mono ?_
          rintro e w3 ⟨rfl, rfl⟩
          go_wp2_with (at_builtin; go_must (refine append_nat rfl (.tmp 34) (.tmp 38) rfl ao co rfl (HO.out.alloc _) (lo : Int) wr.heap.size 1 rfl (by simp) (o ++ [(lo : Int)]) rfl (by have := HLEN.out; simpa using this) (by simp; omega) ?_); intro a2 c2' w2' ho2 hg2 hx2)
          go_roundg (gk - 1)
          case rel => exact ⟨k + 1, c2, o ++ [(lo : Int)], a2, c2', by have := HKG.out; have := HKM.out; omega, by first | rfl | simp, rfl, by go_num, by omega, HCZ2.out, by show _ = _; rw [List.length_append, hol.out]; rfl, hou.app (U16.cons (by omega) U16.nil), ho2, below_append' (hw.alloc hw.size _) (HO.out.alloc _) hg2, HS.out⟩
          case measure => have := HKG.out; have := HKM.out; omega
end Go.Proofs.YtmeplgagpnligaaDoor

/- Walks: integers out of int, by the program and by the reference. -/
namespace Go.Proofs.YtmeplgagpnligaaDoor
open Go.RowKit

set_option maxRecDepth 100000 in
set_option maxHeartbeats 1000000 in
theorem zintR_any (z : Int) (w : World) (hi : InInt z) :
    Calls Tryd.prog 36 #[.int .i64 z] w (RetZ (decide (z < 0)) z.natAbs w) := by
  obtain ⟨hi1, hi2⟩ := hi
  by_cases hneg : z < 0
  · obtain ⟨m, rfl⟩ : ∃ m : Nat, z = -((m : Int) + 1) := ⟨(-(z + 1)).toNat, by omega⟩
    have hna : (-((m : Int) + 1)).natAbs = m + 1 := by omega
    have hd : decide (-((m : Int) + 1) < 0) = true := by rw [decide_eq_true_eq]; omega
    rw [hna, hd]
    have CO := fun W => of01_any m W (by omega)
    have CO1 := fun W => of01_any 1 W (by omega)
    have hml : (limbs m).length ≤ 4 := limbs_len_le (by have : (65536 : Nat) ^ 4 = 18446744073709551616 := by decide
                                                        omega)
    have hml1 : (limbs 1).length ≤ 4 := limbs_len_le (by decide)
    have hml2 : (limbs (m + 1)).length ≤ 5 := limbs_len_le (by have : (65536 : Nat) ^ 5 = 1208925819614629174706176 := by decide
                                                               omega)
    have CA := fun a1 a2 c1 c2 W h1 h2 => add01_any (limbs m) (limbs 1) m 1 a1 a2 c1 c2 W h1 h2 (val_limbs _) (val_limbs _) (by omega) (by omega)
    have CF := fun a c W h => zofR_any true (limbs (m + 1)) (m + 1) a c W h (val_limbs _) (by omega)
    have hd2 : decide (0 < m + 1) = true := by rw [decide_eq_true_eq]; omega
    simp only [hd2, Bool.and_true] at CF
    replace CO := Lib.hid CO; replace CO1 := Lib.hid CO1; replace CA := Lib.hid CA; replace CF := Lib.hid CF
    have f1 : -(-((m : Int) + 1) + 1) = (m : Int) := by omega
    have hm : (m : Int) ≤ 9223372036854775807 := by omega
    clear hna hd2 hneg hml hml1 hml2
    have hz : Blk (w.alloc (.cells #[.bool false, .slice none 0 0] 52)) w.heap.size 52 #[.bool false, .slice none 0 0] := Blk.new w _ _
    have hb0 : Below w.heap.size w (w.alloc (.cells #[.bool false, .slice none 0 0] 52)) := (Below.refl _ _).alloc (Nat.le_refl _) _
    have hgl := hz.lt
    go_enter Tryd.func36, Tryd.ntmps36
    go_wp2_with fail
    revert hz hb0 hgl
    generalize w.alloc (.cells #[.bool false, .slice none 0 0] 52) = w0
    intro hz hb0 hgl
    have hs0 := hb0.size
    refine (CO.out _).mono ?_
    rintro e w1 ⟨a3, c3, rfl, hV3, hb1⟩
    have hw1 := below_then hb0 hb1
    have hz1 := hz.below' hb1
    have HV3 := Lib.hid hV3
    clear hV3
    go_wp2_with fail
    refine (CO1.out _).mono ?_
    rintro e w2 ⟨a4, c4, rfl, hV4, hb2⟩
    have hw2 := below_then hw1 hb2
    have hz2 := hz1.below' hb2
    have CA2 := CA.out _ _ _ _ w2 (HV3.out w2 ((New.refl _ _).below hb2)) (hV4 w2 (New.refl _ _))
    replace CA2 := Lib.hid CA2
    clear hV4
    go_wp2_with fail
    refine CA2.out.mono ?_
    rintro e w4 ⟨a5, c5, rfl, hV5, hb4⟩
    have hw4 := below_then hw2 hb4
    have hz4 := hz2.below' hb4
    have CF2 := CF.out _ _ w4 (hV5 w4 (New.refl _ _))
    replace CF2 := Lib.hid CF2
    clear hV5
    go_wp2_with fail
    refine CF2.out.mono ?_
    rintro e w3 ⟨a1, c1, rfl, hV, hb3⟩
    have hw3 := below_then hw4 hb3
    have hz3 := hz4.below' hb3
    have hg4 := hz4.lt
    have HV := Lib.hid hV
    clear hV
    have z0 := hz3.cell 0; have z1 := hz3.cell 1; have f0 := hz3.frozen 0; have f1 := hz3.frozen 1
    go_wp2
    have hF := blk2 (x := .bool true) (y := .slice a1 (limbs (m+1)).length c1) hz3
    have e0 := hF.cell 0; have e1 := hF.cell 1
    refine bodyPost_ret (v := .agg #[.bool true, .slice a1 (limbs (m+1)).length c1]) (by simp [results, Tryd.results36, go_sem, e0, e1]) rfl ?_
    exact ⟨a1, c1, rfl, fun V hV => HV.out V (back2 hV hw4.size hg4), below2 hw3 (Nat.le_refl _)⟩
  · obtain ⟨m, rfl⟩ : ∃ m : Nat, z = (m : Int) := ⟨z.toNat, by omega⟩
    have hna : ((m : Nat) : Int).natAbs = m := by omega
    have hd : decide (((m : Nat) : Int) < 0) = false := by rw [decide_eq_false_iff_not]; omega
    rw [hna, hd]
    have hml : (limbs m).length ≤ 4 := limbs_len_le (by have : (65536 : Nat) ^ 4 = 18446744073709551616 := by decide
                                                        omega)
    have CO := fun W => of01_any m W (by omega)
    have CF := fun a c W h => zofR_any false (limbs m) m a c W h (val_limbs _) (by omega)
    simp only [Bool.false_and] at CF
    replace CO := Lib.hid CO; replace CF := Lib.hid CF
    clear hna hneg hml
    have hz : Blk (w.alloc (.cells #[.bool false, .slice none 0 0] 52)) w.heap.size 52 #[.bool false, .slice none 0 0] := Blk.new w _ _
    have hb0 : Below w.heap.size w (w.alloc (.cells #[.bool false, .slice none 0 0] 52)) := (Below.refl _ _).alloc (Nat.le_refl _) _
    have hgl := hz.lt
    go_enter Tryd.func36, Tryd.ntmps36
    go_wp2_with fail
    revert hz hb0 hgl
    generalize w.alloc (.cells #[.bool false, .slice none 0 0] 52) = w0
    intro hz hb0 hgl
    have hs0 := hb0.size
    refine (CO.out _).mono ?_
    rintro e w4 ⟨a3, c3, rfl, hV3, hb1⟩
    have hw4 := below_then hb0 hb1
    have hz4 := hz.below' hb1
    have CF2 := CF.out _ _ w4 (hV3 w4 (New.refl _ _))
    replace CF2 := Lib.hid CF2
    clear hV3
    go_wp2_with fail
    refine CF2.out.mono ?_
    rintro e w3 ⟨a1, c1, rfl, hV, hb3⟩
    have hw3 := below_then hw4 hb3
    have hz3 := hz4.below' hb3
    have hg4 := hz4.lt
    have HV := Lib.hid hV
    clear hV
    have z0 := hz3.cell 0; have z1 := hz3.cell 1; have f0 := hz3.frozen 0; have f1 := hz3.frozen 1
    go_wp2
    have hF := blk2 (x := .bool false) (y := .slice a1 (limbs m).length c1) hz3
    have e0 := hF.cell 0; have e1 := hF.cell 1
    refine bodyPost_ret (v := .agg #[.bool false, .slice a1 (limbs m).length c1]) (by simp [results, Tryd.results36, go_sem, e0, e1]) rfl ?_
    exact ⟨a1, c1, rfl, fun V hV => HV.out V (back2 hV hw4.size hg4), below2 hw3 (Nat.le_refl _)⟩
end Go.Proofs.YtmeplgagpnligaaDoor

/- Walks: products and comparisons of integers, by the reference. -/
namespace Go.Proofs.YtmeplgagpnligaaDoor
open Go.RowKit

/-- an integer out of sign and size -/
def zval (neg : Bool) (n : Nat) : Int := if neg = true then -(n : Int) else n
/-- Go's order of two integers -/
def cmpI (a b : Int) : Int := if a < b then -1 else if b < a then 1 else 0
theorem cmpI_zero {a b : Int} : cmpI a b = 0 ↔ a = b := by unfold cmpI; split <;> (try split) <;> omega

end Go.Proofs.YtmeplgagpnligaaDoor

/- Walk: comparison of integers, by the reference. -/
namespace Go.Proofs.YtmeplgagpnligaaDoor
open Go.RowKit

theorem zcmp_cases (neg1 neg2 : Bool) (n1 n2 : Nat) {b1 b2 : Bool} (h1 : (neg1 && decide (0 < n1)) = b1) (h2 : (neg2 && decide (0 < n2)) = b2) :
    cmpI (zval neg1 n1) (zval neg2 n2) = if (b1 && !b2) = true then -1 else if (b2 && !b1) = true then 1 else if b1 = true then cmpN n2 n1 else cmpN n1 n2 := by
  subst h1 h2
  unfold cmpI zval cmpN
  cases neg1 <;> cases neg2 <;> by_cases p1 : 0 < n1 <;> by_cases p2 : 0 < n2 <;> simp [p1, p2]
  all_goals (repeat' split) <;> omega

end Go.Proofs.YtmeplgagpnligaaDoor

/- Walks: fractions in lowest terms, by the reference. -/
namespace Go.Proofs.YtmeplgagpnligaaDoor
open Go.RowKit

/-- what a call gives that makes a rational number -/
def RetQ (neg : Bool) (n d : Nat) (w : World) (e : Ending) (w' : World) : Prop := ∃ na nc da dc, e = .returned (.agg #[.bool neg, .slice na (limbs n).length nc, .slice da (limbs d).length dc]) ∧
  (∀ V, New w.heap.size w' V → NatR V na nc (limbs n)) ∧ (∀ V, New w.heap.size w' V → NatR V da dc (limbs d)) ∧ Below w.heap.size w w'
set_option maxRecDepth 100000 in
set_option maxHeartbeats 2000000 in
theorem over_zero (neg : Bool) (l m : List Int) (a a' : Option Addr) (c c' : Nat) (w : World) (h' : NatR w a' c' m) (hk : val m = 0) (hm : m.length ≤ 2000000) :
    Calls Tryd.prog 35 #[.agg #[.bool neg, .slice a l.length c], .slice a' m.length c'] w (RetQ false 0 1 w) := by
  have CN := fun W (hW : Below w.heap.size w W) => norm01_any m a' c' W (h'.ext (Ext.below hW)) (by omega)
  rw [hk, limbs_zero] at CN
  have CO := fun W => of01_any 1 W (by omega)
  replace CN := Lib.hid CN; replace CO := Lib.hid CO
  have hz : Blk ((w.alloc (.cells #[.bool neg, .slice a l.length c] 52)).alloc (.cells #[.bool false, .slice none 0 0, .slice none 0 0] 54)) (w.heap.size + 1) 54 #[.bool false, .slice none 0 0, .slice none 0 0] := blk_at1 w _ _ _
  have hb0 : Below w.heap.size w ((w.alloc (.cells #[.bool neg, .slice a l.length c] 52)).alloc (.cells #[.bool false, .slice none 0 0, .slice none 0 0] 54)) := by go_grown
  have hgB : w.heap.size ≤ w.heap.size + 1 := by omega
  unfold RetQ
  rw [limbs_zero]
  clear h' hk
  go_enter Tryd.func35, Tryd.ntmps35
  go_wp2_with fail
  have hgl := hz.lt
  revert hz hb0 hgB hgl
  generalize (w.alloc (.cells #[.bool neg, .slice a l.length c] 52)).alloc (.cells #[.bool false, .slice none 0 0, .slice none 0 0] 54) = w0
  generalize w.heap.size + 1 = g
  intro hz hb0 hgB hgl
  refine (CN.out _ hb0).mono ?_
  rintro e w1 ⟨a3, c3, rfl, _, hb1⟩
  have hw1 := below_then hb0 hb1
  have hz1 := hz.below' hb1
  go_wp2_with fail
  refine (CO.out _).mono ?_
  rintro e w2 ⟨a1, c1, rfl, hV, hb2⟩
  have hw2 := below_then hw1 hb2
  have hz2 := hz1.below' hb2
  have hg1 := hz1.lt
  have HV := Lib.hid hV
  have z0 := hz2.cell 0; have z1 := hz2.cell 1; have z2 := hz2.cell 2; have f0 := hz2.frozen 0; have f1 := hz2.frozen 1; have f2 := hz2.frozen 2
  clear hV
  go_wp2
  have hF := blk3 (x := .bool false) (y := .slice none 0 0) (z := .slice a1 (limbs 1).length c1) hz2
  have e0 := hF.cell 0; have e1 := hF.cell 1; have e2 := hF.cell 2
  refine bodyPost_ret (v := .agg #[.bool false, .slice none 0 0, .slice a1 (limbs 1).length c1]) (by simp [results, Tryd.results35, go_sem, e0, e1, e2]) rfl ?_
  exact ⟨none, 0, a1, c1, rfl, fun _ _ => SlR.nil, fun V hV => HV.out V (back3 hV hw1.size hg1), below3 hw2 hgB⟩
set_option maxRecDepth 100000 in
set_option maxHeartbeats 4000000 in
theorem over_any (neg : Bool) (l m : List Int) (n d : Nat) (a a' : Option Addr) (c c' : Nat) (w : World) (h : NatR w a c l) (h' : NatR w a' c' m) (hn : val l = n) (hk : val m = d) (hl : l.length ≤ 2000000) (hm : m.length ≤ 2000000) (h0 : 0 < d) :
    Calls Tryd.prog 35 #[.agg #[.bool neg, .slice a l.length c], .slice a' m.length c'] w (RetQ (neg && decide (0 < n / Nat.gcd n d)) (n / Nat.gcd n d) (d / Nat.gcd n d) w) := by
  have hll := limbs_len_val h.u16
  have hlm := limbs_len_val h'.u16
  rw [hn] at hll
  rw [hk] at hlm
  have hgp : 0 < Nat.gcd n d := Nat.gcd_pos_of_pos_right n h0
  have hgd : Nat.gcd n d ≤ d := Nat.le_of_dvd h0 (Nat.gcd_dvd_right n d)
  have hgl0 := limbs_len_mono hgd
  have hnl := limbs_len_mono (Nat.div_le_self n (Nat.gcd n d))
  have CN := fun W (hW : Below w.heap.size w W) => norm01_any m a' c' W (h'.ext (Ext.below hW)) (by omega)
  rw [hk] at CN
  have CG := fun W (hW : Below w.heap.size w W) => gcd01_any l m n d a a' c c' W (h.ext (Ext.below hW)) (h'.ext (Ext.below hW)) hn hk hl hm
  have CD1 := fun ag cg W (hW : Below w.heap.size w W) hr => divMod01_any l (limbs (Nat.gcd n d)) n (Nat.gcd n d) a ag c cg W (h.ext (Ext.below hW)) hr hn (val_limbs _) hl (by omega) hgp
  have CD2 := fun ag cg W (hW : Below w.heap.size w W) hr => divMod01_any m (limbs (Nat.gcd n d)) d (Nat.gcd n d) a' ag c' cg W (h'.ext (Ext.below hW)) hr hk (val_limbs _) hm (by omega) hgp
  have CZ := fun ag cg W hr => znormR_any neg (limbs (n / Nat.gcd n d)) (n / Nat.gcd n d) ag cg W hr (val_limbs _) (by omega)
  have hne : (((limbs d).length : Int) == 0) = false := by rw [beq_eq_false_iff_ne]; have := limbs_len_pos.2 h0; omega
  obtain ⟨R, hR⟩ : ∃ q, (neg && decide (0 < n / Nat.gcd n d)) = q := ⟨_, rfl⟩
  rw [hR] at CZ ⊢
  unfold RetDM at CD1 CD2
  obtain ⟨gg, hgg⟩ : ∃ q, Nat.gcd n d = q := ⟨_, rfl⟩
  simp only [hgg] at CG CD1 CD2 CZ ⊢
  obtain ⟨N, hN⟩ : ∃ q, n / gg = q := ⟨_, rfl⟩
  obtain ⟨D, hD⟩ : ∃ q, d / gg = q := ⟨_, rfl⟩
  simp only [hN] at CD1 CZ ⊢
  simp only [hD] at CD2 ⊢
  replace CN := Lib.hid CN; replace CG := Lib.hid CG; replace CD1 := Lib.hid CD1; replace CD2 := Lib.hid CD2; replace CZ := Lib.hid CZ
  have hz : Blk ((w.alloc (.cells #[.bool neg, .slice a l.length c] 52)).alloc (.cells #[.bool false, .slice none 0 0, .slice none 0 0] 54)) (w.heap.size + 1) 54 #[.bool false, .slice none 0 0, .slice none 0 0] := blk_at1 w _ _ _
  have hx : Blk ((w.alloc (.cells #[.bool neg, .slice a l.length c] 52)).alloc (.cells #[.bool false, .slice none 0 0, .slice none 0 0] 54)) w.heap.size 52 #[.bool neg, .slice a l.length c] := (Blk.new w _ _).alloc _
  have hb0 : Below w.heap.size w ((w.alloc (.cells #[.bool neg, .slice a l.length c] 52)).alloc (.cells #[.bool false, .slice none 0 0, .slice none 0 0] 54)) := by go_grown
  have hgB : w.heap.size ≤ w.heap.size + 1 := by omega
  clear h h' hn hk hll hlm hgp hgd hgl0 hnl hR hgg hN hD
  go_enter Tryd.func35, Tryd.ntmps35
  go_wp2_with fail
  have hgl := hz.lt
  revert hz hx hb0 hgB hgl
  generalize (w.alloc (.cells #[.bool neg, .slice a l.length c] 52)).alloc (.cells #[.bool false, .slice none 0 0, .slice none 0 0] 54) = w0
  generalize w.heap.size + 1 = g
  intro hz hx hb0 hgB hgl
  refine (CN.out _ hb0).mono ?_
  rintro e w1 ⟨a3, c3, rfl, _, hb1⟩
  have hw1 := below_then hb0 hb1
  have hx1 := hx.below' hb1
  have hz1 := hz.below' hb1
  have z0 := hx1.cell 0; have z1 := hx1.cell 1
  clear hz hx hb1 hgl
  go_wp2_with fail
  refine (CG.out _ hw1).mono ?_
  rintro e w2 ⟨a4, c4, rfl, hV4, hb2⟩
  have hw2 := below_then hw1 hb2
  have hx2 := hx1.below' hb2
  have hz2 := hz1.below' hb2
  have hr4 := hV4 w2 (New.refl _ _)
  have CE1 := CD1.out a4 c4 w2 hw2 hr4
  replace CE1 := Lib.hid CE1
  clear z0 z1 hV4 hx1 hz1
  have z0 := hx2.cell 0; have z1 := hx2.cell 1
  go_wp2_with fail
  refine CE1.out.mono ?_
  rintro e w3 ⟨a5, c5, _, _, rfl, hV5, _, hb3⟩
  have hw3 := below_then hw2 hb3
  have hx3 := hx2.below' hb3
  have hz3 := hz2.below' hb3
  have hg3 := hz3.lt
  have HV5 := Lib.hid hV5
  have CE2 := CD2.out a4 c4 w3 hw3 (hr4.ext (Ext.below hb3))
  replace CE2 := Lib.hid CE2
  clear z0 z1 hV5 hx2 hz2 hr4 CE1
  have z0 := hx3.cell 0; have z1 := hx3.cell 1
  go_wp2_with fail
  refine CE2.out.mono ?_
  rintro e w4 ⟨a6, c6, _, _, rfl, hV6, _, hb4⟩
  have hw4 := below_then hw3 hb4
  have hx4 := hx3.below' hb4
  have hz4 := hz3.below' hb4
  have HV6 := Lib.hid hV6
  have CF := CZ.out a5 c5 w4 (HV5.out w4 ((New.refl _ _).below hb4))
  replace CF := Lib.hid CF
  clear z0 z1 hV6 hx3 hz3 CE2
  have z0 := hx4.cell 0; have z1 := hx4.cell 1
  go_wp2_with fail
  refine CF.out.mono ?_
  rintro e w5 ⟨a7, c7, rfl, hV7, hb5⟩
  have hw5 := below_then hw4 hb5
  have hz5 := hz4.below' hb5
  have HV7 := Lib.hid hV7
  have hg4 := hz4.lt
  clear z0 z1 hV7 hx4 CF
  have z0 := hz5.cell 0; have z1 := hz5.cell 1; have z2 := hz5.cell 2; have f0 := hz5.frozen 0; have f1 := hz5.frozen 1; have f2 := hz5.frozen 2
  go_wp2
  have hF := blk3 (x := .bool R) (y := .slice a7 (limbs N).length c7) (z := .slice a6 (limbs D).length c6) hz5
  have e0 := hF.cell 0; have e1 := hF.cell 1; have e2 := hF.cell 2
  refine bodyPost_ret (v := .agg #[.bool R, .slice a7 (limbs N).length c7, .slice a6 (limbs D).length c6]) (by simp [results, Tryd.results35, go_sem, e0, e1, e2]) rfl ?_
  exact ⟨a7, c7, a6, c6, rfl, fun V hV => HV7.out V (back3 hV hw4.size hg4), fun V hV => HV6.out V ((back3 hV hw3.size hg3).below hb5), below3 hw5 hgB⟩
end Go.Proofs.YtmeplgagpnligaaDoor
