/- Walks: the fraction with a number, by the reference. -/
import Derived.Test.YtfahnnkppakiiaaRv14
import Derived.Test.YtfahnnkppakiiaaRv1
import Derived.Lib.RabinKarpLaws
import Derived.Test.YtfahnnkppakiiaaProg
import Derived.Ground.NamesProg
import Derived.Shelf.Lays
import Derived.Shelf.Small.Bits
import Derived.Deep.LoopGhost

/- Walks: the program's rational numbers: reduced, Make, Of. -/
namespace Go.Proofs.Ytfahnnkppakiiaa
open Go.RowKit

theorem reduced_any (neg : Bool) (l m : List Int) (n d : Nat) (a a' : Option Addr) (c c' : Nat) (w : World) (h : NatR w a c l) (h' : NatR w a' c' m) (hn : val l = n) (hk : val m = d) (hl : l.length ≤ 2000000) (hm : m.length ≤ 2000000) :
    Calls Try.prog 51 #[.agg #[.bool neg, .slice a l.length c], .slice a' m.length c'] w (RetF (lowest neg n d) w) := by
  have hll := limbs_len_val h.u16
  rw [hn] at hll
  have hlm := limbs_len_val h'.u16
  rw [hk] at hlm
  by_cases hd : d = 0
  · rw [hd, lowest_nil]
    exact reduced_nil neg l m n d a a' c c' w h h' hn hk hl hm (.inl hd)
  · by_cases h0 : n = 0
    · rw [h0, lowest_null _ hd]
      exact reduced_nil neg l m n d a a' c c' w h h' hn hk hl hm (.inr h0)
    · by_cases h1 : d = 1
      · rw [lowest_one h0 hd (by rw [h1, Nat.gcd_one_right])]
        exact reduced_unit neg l m n d a a' c c' w h h' hn hk hl hm h0 h1
      · by_cases hg : Nat.gcd n d = 1
        · rw [lowest_one h0 hd hg]
          exact reduced_prime neg l m n d a a' c c' w h h' hn hk hl hm h0 hd h1 (by omega) (by omega) hg
        · rw [lowest_full h0 hd]
          exact reduced_common neg l m n d a a' c c' w h h' hn hk hl hm h0 hd h1 (by omega) (by omega) hg
theorem lowest_int (z : Int) : lowest (decide (z < 0)) z.natAbs 1 = (decide (z < 0), z.natAbs, 1) := by
  unfold lowest
  rw [if_neg (by omega), Nat.gcd_one_right, Nat.div_one]
  by_cases hz : z < 0
  · have : decide (0 < z.natAbs) = true := by rw [decide_eq_true_eq]; omega
    rw [this, Bool.and_true]
  · rw [decide_eq_false hz, Bool.false_and]
set_option maxRecDepth 100000 in
set_option maxHeartbeats 2000000 in
theorem qmake_any (neg1 neg2 : Bool) (l m : List Int) (n1 n2 : Nat) (a a' : Option Addr) (c c' : Nat) (w : World) (h : NatR w a c l) (h' : NatR w a' c' m) (hn : val l = n1) (hk : val m = n2) (hl : l.length ≤ 2000000) (hm : m.length ≤ 2000000) (h0 : n2 ≠ 0) :
    Calls Try.prog 88 #[.agg #[.bool neg1, .slice a l.length c], .agg #[.bool neg2, .slice a' m.length c']] w (RetM (lowest (neg1 != neg2) n1 n2) w) := by
  have CS := fun W (hW : Below w.heap.size w W) => zsign_any neg2 m n2 a' c' W (h'.ext (Ext.below hW)) hk (by omega)
  have CO1 := fun W (hW : Below w.heap.size w W) => reduced_any (neg1 != neg2) l m n1 n2 a a' c c' W (h.ext (Ext.below hW)) (h'.ext (Ext.below hW)) hn hk hl hm
  have hsg : sgnZ neg2 n2 ≠ 0 := by
    unfold sgnZ
    rw [if_neg h0]
    split <;> decide
  obtain ⟨sg, hsg2⟩ : ∃ q, sgnZ neg2 n2 = q := ⟨_, rfl⟩
  rw [hsg2] at CS hsg
  have hne : (sg == 0) = false := by rw [beq_eq_false_iff_ne]; exact hsg
  have hz : Blk (((w.alloc (.cells #[.bool neg1, .slice a l.length c] 31)).alloc (.cells #[.bool neg2, .slice a' m.length c'] 31)).alloc (.cells #[.bool false, .slice none 0 0, .slice none 0 0] 33)) (w.heap.size + 1 + 1) 33 #[.bool false, .slice none 0 0, .slice none 0 0] := blk_at2 w _ _ _ _
  have hx1 : Blk (((w.alloc (.cells #[.bool neg1, .slice a l.length c] 31)).alloc (.cells #[.bool neg2, .slice a' m.length c'] 31)).alloc (.cells #[.bool false, .slice none 0 0, .slice none 0 0] 33)) w.heap.size 31 #[.bool neg1, .slice a l.length c] := ((Blk.new w _ _).alloc _).alloc _
  have hx2 : Blk (((w.alloc (.cells #[.bool neg1, .slice a l.length c] 31)).alloc (.cells #[.bool neg2, .slice a' m.length c'] 31)).alloc (.cells #[.bool false, .slice none 0 0, .slice none 0 0] 33)) (w.heap.size + 1) 31 #[.bool neg2, .slice a' m.length c'] := (blk_at1 w _ _ _).alloc _
  have hb0 : Below w.heap.size w (((w.alloc (.cells #[.bool neg1, .slice a l.length c] 31)).alloc (.cells #[.bool neg2, .slice a' m.length c'] 31)).alloc (.cells #[.bool false, .slice none 0 0, .slice none 0 0] 33)) := by go_grown
  have hgB : w.heap.size < w.heap.size + 1 + 1 := by omega
  have hgB2 : w.heap.size + 1 < w.heap.size + 1 + 1 := by omega
  have hgC : w.heap.size < w.heap.size + 1 := by omega
  obtain ⟨t, ht⟩ : ∃ t, lowest (neg1 != neg2) n1 n2 = t := ⟨_, rfl⟩
  rw [ht] at CO1 ⊢
  obtain ⟨s, N, D⟩ := t
  unfold RetF at CO1
  unfold RetM
  dsimp only at CO1 ⊢
  replace CS := Lib.hid CS; replace CO1 := Lib.hid CO1
  clear h h' hn hk hsg hsg2 h0 ht
  go_enter Try.func88, Try.ntmps88
  go_wp2_with fail
  have hgl := hz.lt
  revert hz hx1 hx2 hb0 hgB hgB2 hgC hgl
  generalize ((w.alloc (.cells #[.bool neg1, .slice a l.length c] 31)).alloc (.cells #[.bool neg2, .slice a' m.length c'] 31)).alloc (.cells #[.bool false, .slice none 0 0, .slice none 0 0] 33) = w0
  generalize w.heap.size + 1 + 1 = g
  generalize w.heap.size + 1 = g2
  intro hz hx1 hx2 hb0 hgB hgB2 hgC hgl
  refine (CS.out _ hb0).mono ?_
  rintro e w1 ⟨rfl, hb1⟩
  have hw1 := below_then hb0 hb1
  have hz1 := hz.below' hb1
  have hy1 := hx1.below' hb1
  have hy2 := hx2.below' hb1
  have z0 := hy1.cell 0; have z1 := hy1.cell 1; have z2 := hy2.cell 0; have z3 := hy2.cell 1
  go_wp2_with fail
  refine (CO1.out _ hw1).mono ?_
  rintro e w2 ⟨a1, c1, a2, c2, rfl, hV1, hV2, hb2⟩
  have hw2 := below_then hw1 hb2
  have hz2 := hz1.below' hb2
  have HV1 := Lib.hid hV1
  have HV2 := Lib.hid hV2
  have z4 := hz2.cell 0; have z5 := hz2.cell 1; have z6 := hz2.cell 2; have f0 := hz2.frozen 0; have f1 := hz2.frozen 1; have f2 := hz2.frozen 2
  have hs1 := hw1.size
  have hgl2 := hz1.lt
  clear hV1 hV2
  go_wp2
  have hF := blk3 (x := .bool s) (y := .slice a1 (limbs N).length c1) (z := .slice a2 (limbs D).length c2) hz2
  have e0 := hF.cell 0; have e1 := hF.cell 1; have e2 := hF.cell 2
  refine bodyPost_ret (v := .tuple #[.agg #[.bool s, .slice a1 (limbs N).length c1, .slice a2 (limbs D).length c2], .int .i64 0]) (by simp [results, Try.results88, go_sem, e0, e1, e2]) rfl ?_
  exact ⟨a1, c1, a2, c2, rfl, fun V hV => HV1.out V (back3 hV hs1 hgl2), fun V hV => HV2.out V (back3 hV hs1 hgl2), below3 hw2 (Nat.le_of_lt hgB)⟩
set_option maxRecDepth 100000 in
set_option maxHeartbeats 1000000 in
theorem qint_any (z : Int) (w : World) (hi : InInt z) :
    Calls Try.prog 23 #[.int .i64 z] w (RetF (lowest (decide (z < 0)) z.natAbs 1) w) := by
  have CZ := fun W => zint_any z W hi
  have C1 := fun W => unit_any W
  rw [lowest_int]
  obtain ⟨s, hng⟩ : ∃ q, decide (z < 0) = q := ⟨_, rfl⟩
  obtain ⟨N, hnz⟩ : ∃ q, z.natAbs = q := ⟨_, rfl⟩
  simp only [hng, hnz] at CZ ⊢
  unfold RetF RetQ
  dsimp only
  replace CZ := Lib.hid CZ; replace C1 := Lib.hid C1
  have hz : Blk (w.alloc (.cells #[.bool false, .slice none 0 0, .slice none 0 0] 33)) w.heap.size 33 #[.bool false, .slice none 0 0, .slice none 0 0] := Blk.new w _ _
  have hb0 : Below w.heap.size w (w.alloc (.cells #[.bool false, .slice none 0 0, .slice none 0 0] 33)) := (Below.refl _ _).alloc (Nat.le_refl _) _
  clear hng hnz
  go_enter Try.func23, Try.ntmps23
  go_wp2_with fail
  revert hz hb0
  generalize w.alloc (.cells #[.bool false, .slice none 0 0, .slice none 0 0] 33) = w0
  intro hz hb0
  refine (CZ.out _).mono ?_
  rintro e w1 ⟨a1, c1, rfl, hV1, hb1⟩
  have hw1 := below_then hb0 hb1
  have hz1 := hz.below' hb1
  have HV1 := Lib.hid hV1
  clear hV1
  go_wp2_with fail
  refine (C1.out _).mono ?_
  rintro e w2 ⟨a2, c2, rfl, hV2, hb2⟩
  have hw2 := below_then hw1 hb2
  have hz2 := hz1.below' hb2
  have HV2 := Lib.hid hV2
  have hs0 := hb0.size
  have hgl0 := hz.lt
  have hs1 := hw1.size
  have hgl1 := hz1.lt
  have z0 := hz2.cell 0; have z1 := hz2.cell 1; have z2 := hz2.cell 2; have f0 := hz2.frozen 0; have f1 := hz2.frozen 1; have f2 := hz2.frozen 2
  clear hV2 hz hz1
  go_wp2
  have hF := blk3 (x := .bool s) (y := .slice a1 (limbs N).length c1) (z := .slice a2 (limbs 1).length c2) hz2
  have e0 := hF.cell 0; have e1 := hF.cell 1; have e2 := hF.cell 2
  refine bodyPost_ret (v := .agg #[.bool s, .slice a1 (limbs N).length c1, .slice a2 (limbs 1).length c2]) (by simp [results, Try.results23, go_sem, e0, e1, e2]) rfl ?_
  exact ⟨a1, c1, a2, c2, rfl, fun V hV => HV1.out V ((back3 hV hs0 hgl0).below hb2), fun V hV => HV2.out V (back3 hV hs1 hgl1), below3 hw2 (Nat.le_refl _)⟩
end Go.Proofs.Ytfahnnkppakiiaa

/- Walks: the program's rational numbers: Frac, Neg. -/
namespace Go.Proofs.Ytfahnnkppakiiaa
open Go.RowKit

set_option maxRecDepth 100000 in
set_option maxHeartbeats 1000000 in
/-- a fraction of two integers -/
theorem qfrac_any (z y : Int) (w : World) (hi : InInt z) (hj : InInt y) (h0 : y ≠ 0) :
    Calls Try.prog 49 #[.int .i64 z, .int .i64 y] w (RetF (lowest (decide (z < 0) != decide (y < 0)) z.natAbs y.natAbs) w) := by
  have hl4 := limbs_int hi
  have hl5 := limbs_int hj
  have CZ := fun W => zint_any z W hi
  have CY := fun W => zint_any y W hj
  have CO := fun a a' c c' W h h' => qmake_any (decide (z < 0)) (decide (y < 0)) (limbs z.natAbs) (limbs y.natAbs) z.natAbs y.natAbs a a' c c' W h h' (val_limbs _) (val_limbs _) (by omega) (by omega) (by omega)
  obtain ⟨t, ht⟩ : ∃ t, lowest (decide (z < 0) != decide (y < 0)) z.natAbs y.natAbs = t := ⟨_, rfl⟩
  obtain ⟨ng, hng⟩ : ∃ q, decide (z < 0) = q := ⟨_, rfl⟩
  obtain ⟨nz, hnz⟩ : ∃ q, z.natAbs = q := ⟨_, rfl⟩
  obtain ⟨mg, hmg⟩ : ∃ q, decide (y < 0) = q := ⟨_, rfl⟩
  obtain ⟨mz, hmz⟩ : ∃ q, y.natAbs = q := ⟨_, rfl⟩
  rw [ht] at CO ⊢
  simp only [hng, hnz] at CO CZ
  simp only [hmg, hmz] at CO CY
  obtain ⟨s, N, D⟩ := t
  unfold RetM at CO
  unfold RetF
  dsimp only at CO ⊢
  replace CZ := Lib.hid CZ; replace CY := Lib.hid CY; replace CO := Lib.hid CO
  have hz : Blk (w.alloc (.cells #[.bool false, .slice none 0 0, .slice none 0 0] 33)) w.heap.size 33 #[.bool false, .slice none 0 0, .slice none 0 0] := Blk.new w _ _
  have hb0 : Below w.heap.size w (w.alloc (.cells #[.bool false, .slice none 0 0, .slice none 0 0] 33)) := (Below.refl _ _).alloc (Nat.le_refl _) _
  clear ht hng hnz hl4 hl5 hmg hmz h0
  go_enter Try.func49, Try.ntmps49
  go_wp2_with fail
  revert hz hb0
  generalize w.alloc (.cells #[.bool false, .slice none 0 0, .slice none 0 0] 33) = w0
  intro hz hb0
  refine (CZ.out _).mono ?_
  rintro e w1 ⟨a1, c1, rfl, hV1, hb1⟩
  have hw1 := below_then hb0 hb1
  have hz1 := hz.below' hb1
  have HV1 := Lib.hid hV1
  clear hV1
  go_wp2_with fail
  refine (CY.out _).mono ?_
  rintro e w2 ⟨a2, c2, rfl, hV2, hb2⟩
  have hw2 := below_then hw1 hb2
  have hz2 := hz1.below' hb2
  have CF := CO.out a1 a2 c1 c2 w2 (HV1.out w2 ((New.refl _ _).below hb2)) (hV2 w2 (New.refl _ _))
  replace CF := Lib.hid CF
  clear hV2
  go_wp2_with fail
  refine CF.out.mono ?_
  rintro e w3 ⟨a3, c3, a4, c4, rfl, hV3, hV4, hb3⟩
  have hw3 := below_then hw2 hb3
  have hz3 := hz2.below' hb3
  have HV3 := Lib.hid hV3
  have HV4 := Lib.hid hV4
  have hs2 := hw2.size
  have hgl2 := hz2.lt
  have hz4 := hz3.alloc (.cells #[.bool s, .slice a3 (limbs N).length c3, .slice a4 (limbs D).length c4] 33)
  have hw4 := hw3.alloc hw3.size (.cells #[.bool s, .slice a3 (limbs N).length c3, .slice a4 (limbs D).length c4] 33)
  have z0 := hz4.cell 0; have z1 := hz4.cell 1; have z2 := hz4.cell 2; have f0 := hz4.frozen 0; have f1 := hz4.frozen 1; have f2 := hz4.frozen 2
  clear hV3 hV4
  go_wp2
  have hF := blk3 (x := .bool s) (y := .slice a3 (limbs N).length c3) (z := .slice a4 (limbs D).length c4) hz4
  have e0 := hF.cell 0; have e1 := hF.cell 1; have e2 := hF.cell 2
  refine bodyPost_ret (v := .agg #[.bool s, .slice a3 (limbs N).length c3, .slice a4 (limbs D).length c4]) (by simp [results, Try.results49, go_sem, e0, e1, e2]) rfl ?_
  exact ⟨a3, c3, a4, c4, rfl, fun V hV => HV3.out V (back3 hV hs2 hgl2).unalloc, fun V hV => HV4.out V (back3 hV hs2 hgl2).unalloc, below3 hw4 (Nat.le_refl _)⟩
set_option maxRecDepth 100000 in
set_option maxHeartbeats 1000000 in
theorem qneg_any (neg : Bool) (l m : List Int) (n d : Nat) (a a' : Option Addr) (c c' : Nat) (w : World) (h : NatR w a c l) (h' : NatR w a' c' m) (hn : val l = n) (hk : val m = d) (hl : l.length ≤ 2000000) (hm : m.length ≤ 2000000) (h0 : d ≠ 0) :
    Calls Try.prog 25 #[.agg #[.bool neg, .slice a l.length c, .slice a' m.length c']] w (RetF (lowest (!neg) n d) w) := by
  have CP := fun W (hW : Below w.heap.size w W) => parts_any neg l m a a' c c' W (h'.ext (Ext.below hW)) (by omega) (by omega)
  have CO := fun W (hW : Below w.heap.size w W) => reduced_any (!neg) l m n d a a' c c' W (h.ext (Ext.below hW)) (h'.ext (Ext.below hW)) hn hk hl hm
  obtain ⟨t, ht⟩ : ∃ t, lowest (!neg) n d = t := ⟨_, rfl⟩
  rw [ht] at CO ⊢
  obtain ⟨s, N, D⟩ := t
  unfold RetF at CO ⊢
  dsimp only at CO ⊢
  replace CP := Lib.hid CP; replace CO := Lib.hid CO
  have hx : Blk ((w.alloc (.cells #[.bool neg, .slice a l.length c, .slice a' m.length c'] 33)).alloc (.cells #[.bool false, .slice none 0 0, .slice none 0 0] 33)) w.heap.size 33 #[.bool neg, .slice a l.length c, .slice a' m.length c'] := (Blk.new w _ _).alloc _
  have hz : Blk ((w.alloc (.cells #[.bool neg, .slice a l.length c, .slice a' m.length c'] 33)).alloc (.cells #[.bool false, .slice none 0 0, .slice none 0 0] 33)) (w.heap.size + 1) 33 #[.bool false, .slice none 0 0, .slice none 0 0] := blk_at1 w _ _ _
  have hb0 : Below w.heap.size w ((w.alloc (.cells #[.bool neg, .slice a l.length c, .slice a' m.length c'] 33)).alloc (.cells #[.bool false, .slice none 0 0, .slice none 0 0] 33)) := by go_grown
  have hgB : w.heap.size < w.heap.size + 1 := by omega
  have hgl := hz.lt
  clear h h' hn hk h0 ht
  go_enter Try.func25, Try.ntmps25
  go_wp2_with fail
  revert hx hz hb0 hgB hgl
  generalize (w.alloc (.cells #[.bool neg, .slice a l.length c, .slice a' m.length c'] 33)).alloc (.cells #[.bool false, .slice none 0 0, .slice none 0 0] 33) = w0
  generalize w.heap.size + 1 = g
  intro hx hz hb0 hgB hgl
  have z0 := hx.cell 0; have z1 := hx.cell 1; have z2 := hx.cell 2
  go_wp2_with fail
  refine (CP.out _ hb0).mono ?_
  rintro e w1 ⟨rfl, hb1⟩
  have hw1 := below_then hb0 hb1
  have hz1 := hz.below' hb1
  clear z0 z1 z2 hx hz
  go_wp2_with fail
  have hp := hz1.alloc (.cells #[.bool neg, .slice a l.length c] 31)
  have hy := Blk.new w1 31 #[.bool neg, .slice a l.length c]
  have hw2 := hw1.alloc hw1.size (.cells #[.bool neg, .slice a l.length c] 31)
  revert hp hy hw2
  generalize w1.alloc (.cells #[.bool neg, .slice a l.length c] 31) = w2
  intro hp hy hw2
  refine (CO.out _ hw2).mono ?_
  rintro e w3 ⟨a3, c3, a4, c4, rfl, hV3, hV4, hb3⟩
  have hw3 := below_then hw2 hb3
  have hz3 := hp.below' hb3
  have HV3 := Lib.hid hV3
  have HV4 := Lib.hid hV4
  have hs2 := hw2.size
  have hgl2 := hp.lt
  have y0 := hz3.cell 0; have y1 := hz3.cell 1; have y2 := hz3.cell 2; have f0 := hz3.frozen 0; have f1 := hz3.frozen 1; have f2 := hz3.frozen 2
  clear hV3 hV4 hp hz1
  go_wp2
  have hF := blk3 (x := .bool s) (y := .slice a3 (limbs N).length c3) (z := .slice a4 (limbs D).length c4) hz3
  have e0 := hF.cell 0; have e1 := hF.cell 1; have e2 := hF.cell 2
  refine bodyPost_ret (v := .agg #[.bool s, .slice a3 (limbs N).length c3, .slice a4 (limbs D).length c4]) (by simp [results, Try.results25, go_sem, e0, e1, e2]) rfl ?_
  exact ⟨a3, c3, a4, c4, rfl, fun V hV => HV3.out V (back3 hV hs2 hgl2), fun V hV => HV4.out V (back3 hV hs2 hgl2), below3 hw3 (Nat.le_of_lt hgB)⟩
end Go.Proofs.Ytfahnnkppakiiaa

/- The tree of the positive fractions, as plain numbers. No function of the program in sight. -/
namespace Go.Proofs.Ytfahnnkppakiiaa
open Go.RowKit

def sb (j : Nat) : Nat × Nat := if h : j ≤ 1 then (1, 1) else if j % 2 = 1 then ((sb (j / 2)).1 + (sb (j / 2)).2, (sb (j / 2)).2) else ((sb (j / 2)).1, (sb (j / 2)).1 + (sb (j / 2)).2)
termination_by j
decreasing_by all_goals omega
theorem sb_one {j : Nat} (h : j ≤ 1) : sb j = (1, 1) := by rw [sb]; simp [h]
theorem sb_odd {j : Nat} (h : 1 < j) (ho : j % 2 = 1) : sb j = ((sb (j / 2)).1 + (sb (j / 2)).2, (sb (j / 2)).2) := by
  rw [sb, dif_neg (by omega), if_pos ho]
theorem sb_even {j : Nat} (h : 1 < j) (ho : j % 2 = 0) : sb j = ((sb (j / 2)).1, (sb (j / 2)).1 + (sb (j / 2)).2) := by
  rw [sb, dif_neg (by omega), if_neg (by omega)]
theorem sb_sum (j : Nat) : 1 ≤ (sb j).1 ∧ 1 ≤ (sb j).2 ∧ (sb j).1 + (sb j).2 ≤ max j 1 + 1 := by
  induction j using Nat.strongRecOn with
  | _ j ih =>
    by_cases h : j ≤ 1
    · rw [sb_one h]; simp; omega
    · obtain ⟨h1, h2, h3⟩ := ih (j / 2) (by omega)
      by_cases ho : j % 2 = 1
      · rw [sb_odd (by omega) ho]; dsimp only; omega
      · rw [sb_even (by omega) (by omega)]; dsimp only; omega
theorem sb_in {j : Nat} (hj : j ≤ 4611686018427387904) (k : Nat) : ((sb (j / 2 ^ k)).1 : Int) ≤ 4611686018427387904 ∧ ((sb (j / 2 ^ k)).2 : Int) ≤ 4611686018427387904 ∧ (1 : Int) ≤ (sb (j / 2 ^ k)).1 ∧ (1 : Int) ≤ (sb (j / 2 ^ k)).2 := by
  obtain ⟨h1, h2, h3⟩ := sb_sum (j / 2 ^ k)
  have := Nat.div_le_self j (2 ^ k)
  omega
theorem div_pow_succ (j k : Nat) : j / 2 ^ k / 2 = j / 2 ^ (k + 1) := by rw [Nat.div_div_eq_div_mul, Nat.pow_succ]
theorem div_pow_pos {j t k : Nat} (ht : 2 ^ t ≤ j) (hk : k ≤ t) : 1 ≤ j / 2 ^ k := by
  have h1 : 2 ^ k ≤ 2 ^ t := Nat.pow_le_pow_right (by omega) hk
  have h2 : 0 < 2 ^ k := Nat.pow_pos (by omega)
  exact (Nat.one_le_div_iff h2).2 (Nat.le_trans h1 ht)
/-- one digit more -/
theorem sb_step {j k : Nat} (hp : 1 ≤ j / 2 ^ (k + 1)) : sb (j / 2 ^ k) = if j / 2 ^ k % 2 = 1 then ((sb (j / 2 ^ (k + 1))).1 + (sb (j / 2 ^ (k + 1))).2, (sb (j / 2 ^ (k + 1))).2) else ((sb (j / 2 ^ (k + 1))).1, (sb (j / 2 ^ (k + 1))).1 + (sb (j / 2 ^ (k + 1))).2) := by
  have h := div_pow_succ j k
  have h2 : 1 < j / 2 ^ k := by omega
  split
  · next ho => rw [sb_odd h2 ho, h]
  · next ho => rw [sb_even h2 (by omega), h]
theorem sb_top {j t : Nat} (h1 : 2 ^ t ≤ j) (h2 : j < 2 ^ (t + 1)) : sb (j / 2 ^ t) = (1, 1) := by
  apply sb_one
  have h3 : 0 < 2 ^ t := Nat.pow_pos (by omega)
  have : j / 2 ^ t < 2 := by rw [Nat.div_lt_iff_lt_mul h3]; rw [Nat.pow_succ] at h2; omega
  omega
/-- the digit k of j, as Go reads it -/
theorem digit_bits (j k : Nat) (hj : j < 9223372036854775808) : bits BinOp.and IntKind.i64 ((j : Int) / 2 ^ k) 1 = ((j / 2 ^ k % 2 : Nat) : Int) := by
  have h : ((j : Int) / 2 ^ k) = ((j / 2 ^ k : Nat) : Int) := by simp
  rw [h]
  exact and_one _ (Nat.lt_of_le_of_lt (Nat.div_le_self _ _) hj)
end Go.Proofs.Ytfahnnkppakiiaa

/- math/bits.Len, laid at this program. -/
namespace Go.Proofs
open Go.Shelf
def Try.lays125_ren : Go.Shelf.Ren := ⟨fun | 125 => 48 | 128 => 86 | 129 => 87 | n => n, fun | 46 => 75 | 3 => 3 | 51 => 98 | 53 => 57 | 4 => 4 | 5 => 5 | 9 => 9 | n => n, fun | n => n⟩
theorem Try.lays125 : Go.Proofs.Lays.n125 Try.prog Try.lays125_ren := {
  mixed := by kernel_rfl
  f125 := Try.func48.trans (congrArg some (by kernel_rfl))
  f128 := Try.func86.trans (congrArg some (by kernel_rfl))
  f129 := Try.func87.trans (congrArg some (by kernel_rfl))
  t3 := Try.underlying3
  a3 := Try.isAgg3
  z3 := Try.sizeOf3
  v3 := Try.zeroValue3
  t4 := Try.underlying4
  a4 := Try.isAgg4
  z4 := Try.sizeOf4
  v4 := Try.zeroValue4
  t5 := Try.underlying5
  a5 := Try.isAgg5
  z5 := Try.sizeOf5
  v5 := Try.zeroValue5
  t9 := Try.underlying9
  a9 := Try.isAgg9
  z9 := Try.sizeOf9
  v9 := Try.zeroValue9
  t46 := Try.underlying75
  a46 := Try.isAgg75
  z46 := Try.sizeOf75
  v46 := Try.zeroValue75
  t51 := Try.underlying98
  a51 := Try.isAgg98
  z51 := Try.sizeOf98
  v51 := Try.zeroValue98
  t53 := Try.underlying57
  a53 := Try.isAgg57
  z53 := Try.sizeOf57
  v53 := Try.zeroValue57 }
end Go.Proofs
namespace Go.Proofs.Ytfahnnkppakiiaa
theorem lenU_any (x : Nat) (w : World) (h1 : x ≤ 18446744073709551615) :
    Calls Try.prog 48 #[.int .u64 x] w fun e w' => e = .returned (.int .i64 (Lib.bitLen x : Int)) ∧ w' = w := by
  have := Any.bits_Len Try.lays125 (x : Int) w (by omega) (by omega)
  rw [Int.toNat_natCast] at this
  exact this
end Go.Proofs.Ytfahnnkppakiiaa

/- Walks: the fraction with a number, by the program. -/
namespace Go.Proofs.Ytfahnnkppakiiaa
open Go.RowKit

/-- the fraction with the number j -/
def posQ (j : Nat) : Bool × Nat × Nat := lowest false (sb j).1 (sb j).2
theorem top_bits {j : Nat} (h0 : 0 < j) (h1 : j ≤ 4611686018427387904) : ∃ t, Lib.bitLen j = t + 1 ∧ t ≤ 62 ∧ 2 ^ t ≤ j ∧ j < 2 ^ (t + 1) := by
  obtain ⟨h2, h3, h4⟩ := Lib.bitLenAux_bounds 64 j (by omega) (by omega)
  change 1 ≤ Lib.bitLen j at h2
  change 2 ^ (Lib.bitLen j - 1) ≤ j at h3
  change j < 2 ^ Lib.bitLen j at h4
  obtain ⟨t, ht⟩ : ∃ t, Lib.bitLen j = t + 1 := ⟨Lib.bitLen j - 1, by omega⟩
  rw [ht] at h3 h4
  refine ⟨t, ht, ?_, by simpa using h3, h4⟩
  rcases Nat.lt_or_ge 62 t with h5 | h5
  · exfalso
    have h6 : 2 ^ 63 ≤ 2 ^ t := Nat.pow_le_pow_right (by omega) h5
    have h7 : 2 ^ t ≤ j := by simpa using h3
    have : (2 : Nat) ^ 63 = 9223372036854775808 := by decide
    omega
  · exact h5
set_option maxRecDepth 100000 in
set_option maxHeartbeats 2000000 in
theorem positive_any (j : Nat) (w : World) (h0 : 0 < j) (h1 : j ≤ 4611686018427387904) :
    Calls Try.prog 24 #[.int .i64 j] w (RetF (posQ j) w) := by
  obtain ⟨t, hb, ht, hlo, hhi⟩ := top_bits h0 h1
  have CL := fun W => lenU_any j W (by omega)
  rw [hb] at CL
  have CF := fun W => qfrac_any ((sb j).1 : Int) ((sb j).2 : Int) W (by have := sb_in h1 0; simp at this; unfold InInt; omega) (by have := sb_in h1 0; simp at this; unfold InInt; omega) (by have := sb_in h1 0; simp at this; omega)
  have hs := sb_in h1
  have hn1 : ∀ x : Nat, decide ((x : Int) < 0) = false := fun x => by rw [decide_eq_false_iff_not]; omega
  simp only [hn1, Int.natAbs_natCast] at CF
  have hq : lowest (false != false) (sb j).1 (sb j).2 = posQ j := rfl
  rw [hq] at CF
  obtain ⟨q, hq2⟩ : ∃ q, posQ j = q := ⟨_, rfl⟩
  rw [hq2] at CF ⊢
  obtain ⟨s, N, D⟩ := q
  unfold RetF at CF ⊢
  dsimp only at CF ⊢
  have HLO := Lib.hid hlo; have HHI := Lib.hid hhi; have HS := Lib.hid hs
  replace CL := Lib.hid CL; replace CF := Lib.hid CF
  have hz : Blk (w.alloc (.cells #[.bool false, .slice none 0 0, .slice none 0 0] 33)) w.heap.size 33 #[.bool false, .slice none 0 0, .slice none 0 0] := Blk.new w _ _
  have hb0 : Below w.heap.size w (w.alloc (.cells #[.bool false, .slice none 0 0, .slice none 0 0] 33)) := (Below.refl _ _).alloc (Nat.le_refl _) _
  have hj2 : (j : Int) ≤ 4611686018427387904 := by omega
  have hwr : IntKind.u64.wrap (j : Int) = (j : Int) := by rw [IntKind.wrap_u64]; omega
  clear hq2 hn1 hs hlo hhi hb hq
  go_enter Try.func24, Try.ntmps24
  go_wp2_with fail
  revert hz hb0
  generalize w.alloc (.cells #[.bool false, .slice none 0 0, .slice none 0 0] 33) = w0
  intro hz hb0
  refine (CL.out _).mono ?_
  rintro e w1 ⟨rfl, rfl⟩
  go_wp2
  go_loopg [3, 4, 5] t (fun g x y i wr => g ≤ t ∧ i = .int .i64 ((g : Int) - 1) ∧ x = .int .i64 ((sb (j / 2 ^ g)).1 : Int) ∧ y = .int .i64 ((sb (j / 2 ^ g)).2 : Int) ∧ wr = w1)
  case atStart =>
    refine ⟨Nat.le_refl _, ?_, ?_, ?_, rfl⟩
    · exact val_int (by omega)
    · rw [sb_top HLO.out HHI.out]; rfl
    · rw [sb_top HLO.out HHI.out]; rfl
  case round =>
    obtain ⟨hg, rfl, rfl, rfl, rfl⟩ := hrel
    by_cases h0' : gk = 0
    · subst h0'
      have e0 : j / 2 ^ 0 = j := by rw [Nat.pow_zero, Nat.div_one]
      rw [e0]
      clear e0
      go_wp2_with fail
      refine (CF.out _).mono ?_
      rintro e w2 ⟨a3, c3, a4, c4, rfl, hV3, hV4, hb3⟩
      have hw3 := below_then hb0 hb3
      have hz3 := hz.below' hb3
      have HV3 := Lib.hid hV3
      have HV4 := Lib.hid hV4
      have hs2 := hb0.size
      have hgl2 := hz.lt
      have z0 := hz3.cell 0; have z1 := hz3.cell 1; have z2 := hz3.cell 2; have f0 := hz3.frozen 0; have f1 := hz3.frozen 1; have f2 := hz3.frozen 2
      clear hV3 hV4 hz
      go_wp2
      have hF := blk3 (x := .bool s) (y := .slice a3 (limbs N).length c3) (z := .slice a4 (limbs D).length c4) hz3
      have e0 := hF.cell 0; have e1 := hF.cell 1; have e2 := hF.cell 2
      refine bodyPost_ret (v := .agg #[.bool s, .slice a3 (limbs N).length c3, .slice a4 (limbs D).length c4]) (by simp [results, Try.results24, go_sem, e0, e1, e2]) rfl ?_
      exact ⟨a3, c3, a4, c4, rfl, fun V hV => HV3.out V (back3 hV hs2 hgl2), fun V hV => HV4.out V (back3 hV hs2 hgl2), below3 hw3 (Nat.le_refl _)⟩
    · obtain ⟨k, rfl⟩ : ∃ k, gk = k + 1 := ⟨gk - 1, by omega⟩
      have e1 : (((k + 1 : Nat) : Int) - 1) = (k : Int) := by omega
      rw [e1]
      have hd := digit_bits j k (by omega)
      have hk62 : (k : Int) ≤ 62 := by omega
      have hst := sb_step (div_pow_pos HLO.out hg)
      obtain ⟨b1, b2, b3, b4⟩ := HS.out (k + 1)
      obtain ⟨c1, c2, _, _⟩ := HS.out k
      have HK := Lib.hid (show k ≤ t by omega)
      revert hd hst b1 b2 b3 b4 c1 c2
      generalize (sb (j / 2 ^ (k + 1))).1 = x
      generalize (sb (j / 2 ^ (k + 1))).2 = y
      intro hd hst b1 b2 b3 b4 c1 c2
      rw [hst] at c1 c2
      have HST := Lib.hid hst
      clear e1 h0' hg hst
      by_cases ho : j / 2 ^ k % 2 = 1
      · rw [ho] at hd
        rw [if_pos ho] at c1 c2
        dsimp only at c1 c2
        have HO := Lib.hid ho
        clear ho
        go_wp2
        go_roundg k
        case measure => omega
        case rel => exact ⟨HK.out, by simp, by rw [HST.out, if_pos HO.out]; rfl, by rw [HST.out, if_pos HO.out], rfl⟩
      · have ho2 : j / 2 ^ k % 2 = 0 := by omega
        rw [ho2] at hd
        rw [if_neg ho] at c1 c2
        dsimp only at c1 c2
        have HO := Lib.hid ho
        clear ho ho2
        go_wp2
        go_roundg k
        case measure => omega
        case rel => exact ⟨HK.out, by simp, by rw [HST.out, if_neg HO.out], by rw [HST.out, if_neg HO.out]; exact val_int (by dsimp only; omega), rfl⟩
end Go.Proofs.Ytfahnnkppakiiaa

/- Walks: the fraction with a number, by the reference. -/
namespace Go.Proofs.Ytfahnnkppakiiaa
open Go.RowKit

set_option maxHeartbeats 1000000 in
theorem digit_any (j k : Nat) (w : World) (h1 : j ≤ 4611686018427387904) (hk : k ≤ 62) :
    Calls Try.prog 60 #[.int .i64 j, .int .i64 k] w fun e w' => e = .returned (.int .i64 ((j / 2 ^ k % 2 : Nat) : Int)) ∧ w = w' := by
  have hd := digit_bits j k (by omega)
  have hk62 : (k : Int) ≤ 62 := by omega
  have hj2 : (j : Int) ≤ 4611686018427387904 := by omega
  obtain ⟨R, hR⟩ : ∃ R, ((j / 2 ^ k % 2 : Nat) : Int) = R := ⟨_, rfl⟩
  rw [hR] at hd ⊢
  clear hR
  go_enter Try.func60, Try.ntmps60
  go_wp2
  go_ret
  exact ⟨rfl, rfl⟩
theorem digit_high {j t g : Nat} (h : j < 2 ^ (t + 1)) (hg : t < g) : j / 2 ^ g % 2 = 0 := by
  have : (2 : Nat) ^ (t + 1) ≤ 2 ^ g := Nat.pow_le_pow_right (by omega) hg
  rw [Nat.div_eq_of_lt (by omega)]
theorem digit_top {j t : Nat} (h1 : 2 ^ t ≤ j) (h2 : j < 2 ^ (t + 1)) : j / 2 ^ t % 2 = 1 := by
  have h3 : 0 < 2 ^ t := Nat.pow_pos (by omega)
  have h4 : j / 2 ^ t < 2 := by rw [Nat.div_lt_iff_lt_mul h3]; rw [Nat.pow_succ] at h2; omega
  have h5 := div_pow_pos h1 (Nat.le_refl t)
  omega
set_option maxRecDepth 100000 in
set_option maxHeartbeats 2000000 in
theorem positiveR_any (j : Nat) (w : World) (h0 : 0 < j) (h1 : j ≤ 4611686018427387904) :
    Calls Try.prog 33 #[.int .i64 j] w (RetF (posQ j) w) := by
  obtain ⟨t, hb, ht, hlo, hhi⟩ := top_bits h0 h1
  have CDG := fun k W hk => digit_any j k W h1 hk
  have CF := fun W => qfracR_any ((sb j).1 : Int) ((sb j).2 : Int) W (by have := sb_in h1 0; simp at this; unfold InInt; omega) (by have := sb_in h1 0; simp at this; unfold InInt; omega) (by have := sb_in h1 0; simp at this; omega)
  have hs := sb_in h1
  have hn1 : ∀ x : Nat, decide ((x : Int) < 0) = false := fun x => by rw [decide_eq_false_iff_not]; omega
  simp only [hn1, Int.natAbs_natCast] at CF
  have hq : lowest (false != false) (sb j).1 (sb j).2 = posQ j := rfl
  rw [hq] at CF
  obtain ⟨q, hq2⟩ : ∃ q, posQ j = q := ⟨_, rfl⟩
  rw [hq2] at CF ⊢
  obtain ⟨s, N, D⟩ := q
  unfold RetF at CF ⊢
  dsimp only at CF ⊢
  have HLO := Lib.hid hlo; have HHI := Lib.hid hhi; have HS := Lib.hid hs
  replace CDG := Lib.hid CDG; replace CF := Lib.hid CF
  have hz : Blk (w.alloc (.cells #[.bool false, .slice none 0 0, .slice none 0 0] 33)) w.heap.size 33 #[.bool false, .slice none 0 0, .slice none 0 0] := Blk.new w _ _
  have hb0 : Below w.heap.size w (w.alloc (.cells #[.bool false, .slice none 0 0, .slice none 0 0] 33)) := (Below.refl _ _).alloc (Nat.le_refl _) _
  have hj2 : (j : Int) ≤ 4611686018427387904 := by omega
  clear hq2 hn1 hs hlo hhi hb hq
  go_enter Try.func33, Try.ntmps33
  go_wp2
  revert hz hb0
  generalize w.alloc (.cells #[.bool false, .slice none 0 0, .slice none 0 0] 33) = w0
  intro hz hb0
  go_loopg [5] 62 (fun g i wr => t ≤ g ∧ g ≤ 62 ∧ i = .int .i64 (g : Int) ∧ wr = w0)
  case atStart => exact ⟨ht, Nat.le_refl _, rfl, rfl⟩
  case round =>
    obtain ⟨hg, hg2, rfl, rfl⟩ := hrel
    have CD := CDG.out gk wr hg2
    by_cases hgt : gk = t
    · obtain ⟨tt, rfl⟩ : ∃ tt, tt = gk := ⟨_, rfl⟩
      subst hgt
      rw [digit_top HLO.out HHI.out] at CD
      replace CD := Lib.hid CD
      clear hg
      go_wp2_with fail
      refine CD.out.mono ?_
      rintro e w1 ⟨rfl, rfl⟩
      obtain ⟨w1, rfl⟩ : ∃ w1 : World, w1 = wr := ⟨_, rfl⟩
      go_wp2
      go_loopg [3, 4, 6] tt (fun g x y i wr => g ≤ tt ∧ i = .int .i64 ((g : Int) - 1) ∧ x = .int .i64 ((sb (j / 2 ^ g)).1 : Int) ∧ y = .int .i64 ((sb (j / 2 ^ g)).2 : Int) ∧ wr = w1)
      case atStart =>
        refine ⟨Nat.le_refl _, ?_, ?_, ?_, rfl⟩
        · exact val_int (by omega)
        · rw [sb_top HLO.out HHI.out]; rfl
        · rw [sb_top HLO.out HHI.out]; rfl
      case round =>
        obtain ⟨hg, rfl, rfl, rfl, rfl⟩ := hrel
        by_cases h0' : gk = 0
        · subst h0'
          have e0 : j / 2 ^ 0 = j := by rw [Nat.pow_zero, Nat.div_one]
          rw [e0]
          clear e0
          go_wp2_with fail
          refine (CF.out _).mono ?_
          rintro e w2 ⟨a3, c3, a4, c4, rfl, hV3, hV4, hb3⟩
          have hw3 := below_then hb0 hb3
          have hz3 := hz.below' hb3
          have HV3 := Lib.hid hV3
          have HV4 := Lib.hid hV4
          have hs2 := hb0.size
          have hgl2 := hz.lt
          have z0 := hz3.cell 0; have z1 := hz3.cell 1; have z2 := hz3.cell 2; have f0 := hz3.frozen 0; have f1 := hz3.frozen 1; have f2 := hz3.frozen 2
          clear hV3 hV4 hz
          go_wp2
          have hF := blk3 (x := .bool s) (y := .slice a3 (limbs N).length c3) (z := .slice a4 (limbs D).length c4) hz3
          have e0 := hF.cell 0; have e1 := hF.cell 1; have e2 := hF.cell 2
          refine bodyPost_ret (v := .agg #[.bool s, .slice a3 (limbs N).length c3, .slice a4 (limbs D).length c4]) (by simp [results, Try.results33, go_sem, e0, e1, e2]) rfl ?_
          exact ⟨a3, c3, a4, c4, rfl, fun V hV => HV3.out V (back3 hV hs2 hgl2), fun V hV => HV4.out V (back3 hV hs2 hgl2), below3 hw3 (Nat.le_refl _)⟩
        · obtain ⟨k, rfl⟩ : ∃ k, gk = k + 1 := ⟨gk - 1, by omega⟩
          have e1 : (((k + 1 : Nat) : Int) - 1) = (k : Int) := by omega
          rw [e1]
          have hk62 : (k : Int) ≤ 62 := by omega
          have hst := sb_step (div_pow_pos HLO.out hg)
          obtain ⟨b1, b2, b3, b4⟩ := HS.out (k + 1)
          obtain ⟨c1, c2, _, _⟩ := HS.out k
          have HK := Lib.hid (show k ≤ tt by omega)
          revert hst b1 b2 b3 b4 c1 c2
          generalize (sb (j / 2 ^ (k + 1))).1 = x
          generalize (sb (j / 2 ^ (k + 1))).2 = y
          intro hst b1 b2 b3 b4 c1 c2
          rw [hst] at c1 c2
          have HST := Lib.hid hst
          clear e1 h0' hg hst
          have CD2 := CDG.out k wr (by have := HK.out; omega)
          by_cases ho : j / 2 ^ k % 2 = 1
          · rw [ho] at CD2; replace CD2 := Lib.hid CD2
            rw [if_pos ho] at c1 c2
            dsimp only at c1 c2
            have HO := Lib.hid ho
            clear ho
            go_wp2_with fail
            refine CD2.out.mono ?_
            rintro e w2 ⟨rfl, rfl⟩
            go_wp2
            go_roundg k
            case measure => omega
            case rel => exact ⟨HK.out, by simp, by rw [HST.out, if_pos HO.out]; rfl, by rw [HST.out, if_pos HO.out], rfl⟩
          · have ho2 : j / 2 ^ k % 2 = 0 := by omega
            rw [ho2] at CD2; replace CD2 := Lib.hid CD2
            rw [if_neg ho] at c1 c2
            dsimp only at c1 c2
            have HO := Lib.hid ho
            clear ho ho2
            go_wp2_with fail
            refine CD2.out.mono ?_
            rintro e w2 ⟨rfl, rfl⟩
            go_wp2
            go_roundg k
            case measure => omega
            case rel => exact ⟨HK.out, by simp, by rw [HST.out, if_neg HO.out], by rw [HST.out, if_neg HO.out]; exact val_int (by dsimp only; omega), rfl⟩
    · rw [digit_high HHI.out (by omega)] at CD
      replace CD := Lib.hid CD
      obtain ⟨k, rfl⟩ : ∃ k, gk = k + 1 := ⟨gk - 1, by omega⟩
      have HK := Lib.hid (show t ≤ k ∧ k ≤ 62 by omega)
      have hk3 : (k : Int) ≤ 62 := by omega
      clear hg hgt hg2
      go_wp2_with fail
      refine CD.out.mono ?_
      rintro e w1 ⟨rfl, rfl⟩
      go_wp2
      go_roundg k
      case measure => omega
      case rel => exact ⟨HK.out.1, HK.out.2, val_int (by omega), rfl⟩
end Go.Proofs.Ytfahnnkppakiiaa
