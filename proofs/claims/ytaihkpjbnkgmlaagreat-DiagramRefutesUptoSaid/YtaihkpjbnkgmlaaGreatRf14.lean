/- Walks: rational numbers by the reference: whole, Make, Of. -/
import Derived.Test.YtaihkpjbnkgmlaaGreatRf13
import Derived.Test.YtaihkpjbnkgmlaaGreatRf11

/- Walks: sums of integers of different signs. -/
namespace Go.Proofs.YtaihkpjbnkgmlaaGreat
open Go.RowKit

set_option maxRecDepth 100000 in
set_option maxHeartbeats 2000000 in
theorem zadd_other (neg1 neg2 : Bool) (l m : List Int) (n1 n2 : Nat) (a a' : Option Addr) (c c' : Nat) (w : World) (h : NatR w a c l) (h' : NatR w a' c' m) (hn : val l = n1) (hk : val m = n2) (hl : l.length ≤ 4000000) (hm : m.length ≤ 4000000) (hne : neg1 ≠ neg2) :
  Calls Tryz.prog 284 #[.agg #[.bool neg1, .slice a l.length c], .agg #[.bool neg2, .slice a' m.length c']] w (RetI (zval neg1 n1 + zval neg2 n2) w) := by
 have hsum := zsum_other hne n1 n2
 have hbe : (neg1 == neg2) = false := by simpa using hne
 have CC := fun W (hW : Below w.heap.size w W) => cmp_any l m n1 n2 a a' c c' W (h.ext (Ext.below hW)) (h'.ext (Ext.below hW)) hn hk
 by_cases hlt : n1 < n2
 ·
  have CS := fun W (hW : Below w.heap.size w W) => nsub_any m l n2 n1 a' a c' c W (h'.ext (Ext.below hW)) (h.ext (Ext.below hW)) hk hn (by omega) (by omega) (by omega)
  have CF := fun a c W => made_any neg2 (n2 - n1) a c W
  refine Calls.mono ?_ fun _ _ => retI_of (hsum.2 (by omega))
  have hc : cmpN n1 n2 = -1 := by unfold cmpN; rw [if_pos hlt]
  rw [hc] at CC
  obtain ⟨R, hR⟩ : ∃ q, (neg2 && decide (0 < n2 - n1)) = q := ⟨_, rfl⟩
  rw [hR] at CF ⊢
  unfold RetNE at CS
  revert CS CF
  generalize n2 - n1 = n
  intro CS CF
  replace CC := Lib.hid CC; replace CS := Lib.hid CS; replace CF := Lib.hid CF
  clear h h' hn hk hR hsum hne hc hlt
  go_enter Tryz.func284, Tryz.ntmps284
  go_wp2_with fail
  refine calls_gen (fun W => Blk W w.heap.size 41 #[.bool neg1, .slice a l.length c] ∧ Blk W (w.heap.size + 1) 41 #[.bool neg2, .slice a' m.length c'] ∧ Blk W (w.heap.size + 1 + 1) 41 #[.bool false, .slice none 0 0] ∧ Below w.heap.size w W ∧ w.heap.size < w.heap.size + 1 ∧ w.heap.size + 1 < w.heap.size + 1 + 1 ∧ w.heap.size + 1 + 1 < W.heap.size) ⟨((Blk.new w _ _).alloc _).alloc _, (blk_at1 w _ _ _).alloc _, blk_at2 w _ _ _ _, by go_grown, by omega, by omega, by simp⟩ ?_
  rintro w0 ⟨hx1, hx2, hz, hw0, hg1, hg2, hg3⟩
  revert hx1 hx2 hz hg1 hg2 hg3
  generalize w.heap.size + 1 + 1 = g3
  generalize w.heap.size + 1 = g2
  intro hx1 hx2 hz hg1 hg2 hg3
  have z0 := hx1.cell 0; have z1 := hx1.cell 1; have z2 := hx2.cell 0; have z3 := hx2.cell 1
  refine (CC.out _ hw0).mono ?_
  rintro e w1 ⟨rfl, hb1⟩
  replace hx1 := hx1.below' hb1
  replace hx2 := hx2.below' hb1
  replace hz := hz.below' hb1
  have hw1 := below_then hw0 hb1
  have hs1 := hb1.size
  clear z0 z1 z2 z3
  have z0 := hx1.cell 0; have z1 := hx1.cell 1; have z2 := hx2.cell 0; have z3 := hx2.cell 1; have f0 := hx1.frozen 0; have f1 := hx1.frozen 1; have f2 := hx2.frozen 0; have f3 := hx2.frozen 1
  have hn1 : ¬ g2 = w.heap.size := by omega
  have hn2 : ¬ w.heap.size = g2 := by omega
  go_wp2_with fail
  refine calls_gen (fun W => Blk W w.heap.size 41 #[.bool neg2, .slice a' m.length c'] ∧ Blk W g3 41 #[.bool false, .slice none 0 0] ∧ Below w.heap.size w W ∧ w1.heap.size ≤ W.heap.size) ⟨by ((repeat first|with_reducible assumption|((with_reducible apply Blk.farAt);focus omega)|with_reducible apply Blk.setb|((with_reducible apply Blk.newAt);focus (simp;done))|with_reducible apply Blk.alloc|with_reducible apply Blk.drew);all_goals (show @Eq (Array Value) _ _;rfl)), by ((repeat first|with_reducible assumption|((with_reducible apply Blk.farAt);focus omega)|with_reducible apply Blk.setb|((with_reducible apply Blk.newAt);focus (simp;done))|with_reducible apply Blk.alloc|with_reducible apply Blk.drew);all_goals (show @Eq (Array Value) _ _;rfl)), by go_grown, by simp⟩ ?_
  rintro w2 ⟨hx, hy, hw2, hs2⟩
  clear z0 z1 z2 z3 f0 f1 f2 f3 hx1 hx2 hz
  refine (CS.out _ hw2).mono ?_
  rintro e w3 ⟨a3, c3, rfl, hV, hb3⟩
  have HV := Lib.hid hV
  replace hx := hx.below' hb3
  replace hy := hy.below' hb3
  have hw3 := below_then hw2 hb3
  have hs3 := hb3.size
  have z0 := hx.cell 0
  clear hV
  go_wp2_with fail
  refine (CF.out a3 c3 _).mono ?_
  rintro e w4 ⟨rfl, hb4⟩
  replace hy := hy.below' hb4
  have hw4 := below_then hw3 hb4
  clear z0 hx
  have z0 := hy.cell 0; have z1 := hy.cell 1; have f0 := hy.frozen 0; have f1 := hy.frozen 1
  go_wp2
  have hF := blk2 (x := .bool R) (y := .slice a3 (limbs n).length c3) hy
  have e0 := hF.cell 0; have e1 := hF.cell 1
  refine bodyPost_ret (v := .agg #[.bool R, .slice a3 (limbs n).length c3]) (by simp [results, Tryz.results284, go_sem, e0, e1]) rfl ?_
  exact ⟨a3, c3, rfl, fun V hV => HV.out V ((back2 hV hw2.size (show g3 < w2.heap.size by omega)).below hb4), below2 hw4 (by omega)⟩
 ·
  have CS := fun W (hW : Below w.heap.size w W) => nsub_any l m n1 n2 a a' c c' W (h.ext (Ext.below hW)) (h'.ext (Ext.below hW)) hn hk (by omega) (by omega) (by omega)
  have CF := fun a c W => made_any neg1 (n1 - n2) a c W
  refine Calls.mono ?_ fun _ _ => retI_of (hsum.1 (by omega))
  have hc : 0 ≤ cmpN n1 n2 := cmpN_ge.2 (by omega)
  revert CC hc
  generalize cmpN n1 n2 = q
  intro CC hc
  have hq : ¬ q < 0 := by omega
  obtain ⟨R, hR⟩ : ∃ q, (neg1 && decide (0 < n1 - n2)) = q := ⟨_, rfl⟩
  rw [hR] at CF ⊢
  unfold RetNE at CS
  revert CS CF
  generalize n1 - n2 = n
  intro CS CF
  replace CC := Lib.hid CC; replace CS := Lib.hid CS; replace CF := Lib.hid CF
  clear h h' hn hk hR hsum hne hc hlt
  go_enter Tryz.func284, Tryz.ntmps284
  go_wp2_with fail
  refine calls_gen (fun W => Blk W w.heap.size 41 #[.bool neg1, .slice a l.length c] ∧ Blk W (w.heap.size + 1) 41 #[.bool neg2, .slice a' m.length c'] ∧ Blk W (w.heap.size + 1 + 1) 41 #[.bool false, .slice none 0 0] ∧ Below w.heap.size w W ∧ w.heap.size < w.heap.size + 1 ∧ w.heap.size + 1 < w.heap.size + 1 + 1 ∧ w.heap.size + 1 + 1 < W.heap.size) ⟨((Blk.new w _ _).alloc _).alloc _, (blk_at1 w _ _ _).alloc _, blk_at2 w _ _ _ _, by go_grown, by omega, by omega, by simp⟩ ?_
  rintro w0 ⟨hx1, hx2, hz, hw0, hg1, hg2, hg3⟩
  revert hx1 hx2 hz hg1 hg2 hg3
  generalize w.heap.size + 1 + 1 = g3
  generalize w.heap.size + 1 = g2
  intro hx1 hx2 hz hg1 hg2 hg3
  have z0 := hx1.cell 0; have z1 := hx1.cell 1; have z2 := hx2.cell 0; have z3 := hx2.cell 1
  refine (CC.out _ hw0).mono ?_
  rintro e w1 ⟨rfl, hb1⟩
  replace hx1 := hx1.below' hb1
  replace hx2 := hx2.below' hb1
  replace hz := hz.below' hb1
  have hw1 := below_then hw0 hb1
  have hs1 := hb1.size
  clear z0 z1 z2 z3
  have z0 := hx1.cell 0; have z1 := hx1.cell 1; have z2 := hx2.cell 0; have z3 := hx2.cell 1
  go_wp2_with fail
  refine (CS.out _ hw1).mono ?_
  rintro e w3 ⟨a3, c3, rfl, hV, hb3⟩
  have HV := Lib.hid hV
  replace hx1 := hx1.below' hb3
  replace hz := hz.below' hb3
  have hw3 := below_then hw1 hb3
  have hs3 := hb3.size
  clear hV z0 z1 z2 z3 hx2
  have z0 := hx1.cell 0
  go_wp2_with fail
  refine (CF.out a3 c3 _).mono ?_
  rintro e w4 ⟨rfl, hb4⟩
  replace hz := hz.below' hb4
  have hw4 := below_then hw3 hb4
  clear z0 hx1
  have z0 := hz.cell 0; have z1 := hz.cell 1; have f0 := hz.frozen 0; have f1 := hz.frozen 1
  go_wp2
  have hF := blk2 (x := .bool R) (y := .slice a3 (limbs n).length c3) hz
  have e0 := hF.cell 0; have e1 := hF.cell 1
  refine bodyPost_ret (v := .agg #[.bool R, .slice a3 (limbs n).length c3]) (by simp [results, Tryz.results284, go_sem, e0, e1]) rfl ?_
  exact ⟨a3, c3, rfl, fun V hV => HV.out V ((back2 hV hw1.size (show g3 < w1.heap.size by omega)).below hb4), below2 hw4 (by omega)⟩
theorem zadd_any (neg1 neg2 : Bool) (l m : List Int) (n1 n2 : Nat) (a a' : Option Addr) (c c' : Nat) (w : World) (h : NatR w a c l) (h' : NatR w a' c' m) (hn : val l = n1) (hk : val m = n2) (hl : l.length ≤ 4000000) (hm : m.length ≤ 4000000) :
  Calls Tryz.prog 284 #[.agg #[.bool neg1, .slice a l.length c], .agg #[.bool neg2, .slice a' m.length c']] w (RetI (zval neg1 n1 + zval neg2 n2) w) := by
 by_cases hne : neg1 = neg2
 ·
  subst hne
  exact zadd_same neg1 l m n1 n2 a a' c c' w h h' hn hk hl hm
 · exact zadd_other neg1 neg2 l m n1 n2 a a' c c' w h h' hn hk hl hm hne
set_option maxRecDepth 100000 in
set_option maxHeartbeats 2000000 in
theorem zaddR_other (neg1 neg2 : Bool) (l m : List Int) (n1 n2 : Nat) (a a' : Option Addr) (c c' : Nat) (w : World) (h : NatR w a c l) (h' : NatR w a' c' m) (hn : val l = n1) (hk : val m = n2) (hl : l.length ≤ 4000000) (hm : m.length ≤ 4000000) (hne : neg1 ≠ neg2) :
  Calls Tryz.prog 285 #[.agg #[.bool neg1, .slice a l.length c], .agg #[.bool neg2, .slice a' m.length c']] w (RetI (zval neg1 n1 + zval neg2 n2) w) := by
 have hsum := zsum_other hne n1 n2
 have hbe : (neg1 == neg2) = false := by simpa using hne
 have hll := limbs_len_val h.u16
 have hlm := limbs_len_val h'.u16
 rw [hn] at hll
 rw [hk] at hlm
 by_cases hlt : n1 < n2
 ·
  have hmono := limbs_len_mono (show n2 - n1 ≤ n2 by omega)
  have CL := fun W (hW : Below w.heap.size w W) => sub01_less l m n1 n2 a a' c c' W (h.ext (Ext.below hW)) (h'.ext (Ext.below hW)) hn hk (by omega) (by omega) hlt
  have CS := fun W (hW : Below w.heap.size w W) => sub01_any m l n2 n1 a' a c' c W (h'.ext (Ext.below hW)) (h.ext (Ext.below hW)) hk hn (by omega) (by omega) (by omega)
  have CF := fun a c W h => zofR_any neg2 (limbs (n2 - n1)) (n2 - n1) a c W h (val_limbs _) (by omega)
  refine Calls.mono ?_ fun _ _ => retI_of (hsum.2 (by omega))
  obtain ⟨R, hR⟩ : ∃ q, (neg2 && decide (0 < n2 - n1)) = q := ⟨_, rfl⟩
  rw [hR] at CF ⊢
  unfold RetNE at CS CL
  clear hmono
  revert CS CF
  generalize n2 - n1 = n
  intro CS CF
  replace CL := Lib.hid CL; replace CS := Lib.hid CS; replace CF := Lib.hid CF
  clear h h' hn hk hR hsum hne hlt hll hlm
  go_enter Tryz.func285, Tryz.ntmps285
  go_wp2_with fail
  refine calls_gen (fun W => Blk W w.heap.size 41 #[.bool neg1, .slice a l.length c] ∧ Blk W (w.heap.size + 1) 41 #[.bool neg2, .slice a' m.length c'] ∧ Blk W (w.heap.size + 1 + 1) 41 #[.bool false, .slice none 0 0] ∧ Below w.heap.size w W ∧ w.heap.size < w.heap.size + 1 ∧ w.heap.size + 1 < w.heap.size + 1 + 1 ∧ w.heap.size + 1 + 1 < W.heap.size) ⟨((Blk.new w _ _).alloc _).alloc _, (blk_at1 w _ _ _).alloc _, blk_at2 w _ _ _ _, by go_grown, by omega, by omega, by simp⟩ ?_
  rintro w0 ⟨hx1, hx2, hz, hw0, hg1, hg2, hg3⟩
  revert hx1 hx2 hz hg1 hg2 hg3
  generalize w.heap.size + 1 + 1 = g3
  generalize w.heap.size + 1 = g2
  intro hx1 hx2 hz hg1 hg2 hg3
  have z0 := hx1.cell 0; have z1 := hx1.cell 1; have z2 := hx2.cell 0; have z3 := hx2.cell 1
  refine (CL.out _ hw0).mono ?_
  rintro e w1 ⟨a2, c2, rfl, _, hb1⟩
  replace hx1 := hx1.below' hb1
  replace hx2 := hx2.below' hb1
  replace hz := hz.below' hb1
  have hw1 := below_then hw0 hb1
  have hs1 := hb1.size
  clear z0 z1 z2 z3
  have z0 := hx1.cell 0; have z1 := hx1.cell 1; have z2 := hx2.cell 0; have z3 := hx2.cell 1
  go_wp2_with fail
  refine (CS.out _ hw1).mono ?_
  rintro e w3 ⟨a3, c3, rfl, hV, hb3⟩
  have hr3 := hV w3 (New.refl _ _)
  replace hx2 := hx2.below' hb3
  replace hz := hz.below' hb3
  have hw3 := below_then hw1 hb3
  have hs3 := hb3.size
  clear hV z0 z1 z2 z3 hx1
  have z0 := hx2.cell 0
  have CG := CF.out a3 c3 w3 hr3
  replace CG := Lib.hid CG
  clear hr3
  go_wp2_with fail
  refine CG.out.mono ?_
  rintro e w4 ⟨a4, c4, rfl, hV, hb4⟩
  have HV := Lib.hid hV
  replace hz := hz.below' hb4
  have hw4 := below_then hw3 hb4
  clear z0 hx2 hV
  have z0 := hz.cell 0; have z1 := hz.cell 1; have f0 := hz.frozen 0; have f1 := hz.frozen 1
  go_wp2
  have hF := blk2 (x := .bool R) (y := .slice a4 (limbs n).length c4) hz
  have e0 := hF.cell 0; have e1 := hF.cell 1
  refine bodyPost_ret (v := .agg #[.bool R, .slice a4 (limbs n).length c4]) (by simp [results, Tryz.results285, go_sem, e0, e1]) rfl ?_
  exact ⟨a4, c4, rfl, fun V hV => HV.out V (back2 hV hw3.size (show g3 < w3.heap.size by omega)), below2 hw4 (by omega)⟩
 ·
  have hmono := limbs_len_mono (show n1 - n2 ≤ n1 by omega)
  have CS := fun W (hW : Below w.heap.size w W) => sub01_any l m n1 n2 a a' c c' W (h.ext (Ext.below hW)) (h'.ext (Ext.below hW)) hn hk (by omega) (by omega) (by omega)
  have CF := fun a c W h => zofR_any neg1 (limbs (n1 - n2)) (n1 - n2) a c W h (val_limbs _) (by omega)
  refine Calls.mono ?_ fun _ _ => retI_of (hsum.1 (by omega))
  obtain ⟨R, hR⟩ : ∃ q, (neg1 && decide (0 < n1 - n2)) = q := ⟨_, rfl⟩
  rw [hR] at CF ⊢
  unfold RetNE at CS
  clear hmono
  revert CS CF
  generalize n1 - n2 = n
  intro CS CF
  replace CS := Lib.hid CS; replace CF := Lib.hid CF
  clear h h' hn hk hR hsum hne hlt hll hlm
  go_enter Tryz.func285, Tryz.ntmps285
  go_wp2_with fail
  refine calls_gen (fun W => Blk W w.heap.size 41 #[.bool neg1, .slice a l.length c] ∧ Blk W (w.heap.size + 1) 41 #[.bool neg2, .slice a' m.length c'] ∧ Blk W (w.heap.size + 1 + 1) 41 #[.bool false, .slice none 0 0] ∧ Below w.heap.size w W ∧ w.heap.size < w.heap.size + 1 ∧ w.heap.size + 1 < w.heap.size + 1 + 1 ∧ w.heap.size + 1 + 1 < W.heap.size) ⟨((Blk.new w _ _).alloc _).alloc _, (blk_at1 w _ _ _).alloc _, blk_at2 w _ _ _ _, by go_grown, by omega, by omega, by simp⟩ ?_
  rintro w0 ⟨hx1, hx2, hz, hw0, hg1, hg2, hg3⟩
  revert hx1 hx2 hz hg1 hg2 hg3
  generalize w.heap.size + 1 + 1 = g3
  generalize w.heap.size + 1 = g2
  intro hx1 hx2 hz hg1 hg2 hg3
  have z0 := hx1.cell 0; have z1 := hx1.cell 1; have z2 := hx2.cell 0; have z3 := hx2.cell 1
  refine (CS.out _ hw0).mono ?_
  rintro e w3 ⟨a3, c3, rfl, hV, hb3⟩
  have hr3 := hV w3 (New.refl _ _)
  replace hx1 := hx1.below' hb3
  replace hz := hz.below' hb3
  have hw3 := below_then hw0 hb3
  have hs3 := hb3.size
  clear hV z0 z1 z2 z3 hx2
  have z0 := hx1.cell 0
  have CG := CF.out a3 c3 w3 hr3
  replace CG := Lib.hid CG
  clear hr3
  go_wp2_with fail
  refine CG.out.mono ?_
  rintro e w4 ⟨a4, c4, rfl, hV, hb4⟩
  have HV := Lib.hid hV
  replace hz := hz.below' hb4
  have hw4 := below_then hw3 hb4
  clear z0 hx1 hV
  have z0 := hz.cell 0; have z1 := hz.cell 1; have f0 := hz.frozen 0; have f1 := hz.frozen 1
  go_wp2
  have hF := blk2 (x := .bool R) (y := .slice a4 (limbs n).length c4) hz
  have e0 := hF.cell 0; have e1 := hF.cell 1
  refine bodyPost_ret (v := .agg #[.bool R, .slice a4 (limbs n).length c4]) (by simp [results, Tryz.results285, go_sem, e0, e1]) rfl ?_
  exact ⟨a4, c4, rfl, fun V hV => HV.out V (back2 hV hw3.size (show g3 < w3.heap.size by omega)), below2 hw4 (by omega)⟩
theorem zaddR_any (neg1 neg2 : Bool) (l m : List Int) (n1 n2 : Nat) (a a' : Option Addr) (c c' : Nat) (w : World) (h : NatR w a c l) (h' : NatR w a' c' m) (hn : val l = n1) (hk : val m = n2) (hl : l.length ≤ 4000000) (hm : m.length ≤ 4000000) :
  Calls Tryz.prog 285 #[.agg #[.bool neg1, .slice a l.length c], .agg #[.bool neg2, .slice a' m.length c']] w (RetI (zval neg1 n1 + zval neg2 n2) w) := by
 by_cases hne : neg1 = neg2
 ·
  subst hne
  exact zaddR_same neg1 l m n1 n2 a a' c c' w h h' hn hk hl hm
 · exact zaddR_other neg1 neg2 l m n1 n2 a a' c c' w h h' hn hk hl hm hne
end Go.Proofs.YtaihkpjbnkgmlaaGreat

/- Walks: fractions in lowest terms, by the reference. -/
namespace Go.Proofs.YtaihkpjbnkgmlaaGreat
open Go.RowKit

/-- what a call gives that makes a rational number -/
def RetQ (neg : Bool) (n d : Nat) (w : World) (e : Ending) (w' : World) : Prop := ∃ na nc da dc, e = .returned (.agg #[.bool neg, .slice na (limbs n).length nc, .slice da (limbs d).length dc]) ∧
 (∀ V, New w.heap.size w' V → NatR V na nc (limbs n)) ∧ (∀ V, New w.heap.size w' V → NatR V da dc (limbs d)) ∧ Below w.heap.size w w'
set_option maxRecDepth 100000 in
set_option maxHeartbeats 2000000 in
theorem over_zero (neg : Bool) (l m : List Int) (a a' : Option Addr) (c c' : Nat) (w : World) (h' : NatR w a' c' m) (hk : val m = 0) (hm : m.length ≤ 2000000) :
  Calls Tryz.prog 93 #[.agg #[.bool neg, .slice a l.length c], .slice a' m.length c'] w (RetQ false 0 1 w) := by
 have CN := fun W (hW : Below w.heap.size w W) => norm01_any m a' c' W (h'.ext (Ext.below hW)) (by omega)
 rw [hk, limbs_zero] at CN
 have CO := fun W => of01_any 1 W (by omega)
 replace CN := Lib.hid CN; replace CO := Lib.hid CO
 have hz : Blk ((w.alloc (.cells #[.bool neg, .slice a l.length c] 41)).alloc (.cells #[.bool false, .slice none 0 0, .slice none 0 0] 43)) (w.heap.size + 1) 43 #[.bool false, .slice none 0 0, .slice none 0 0] := blk_at1 w _ _ _
 have hb0 : Below w.heap.size w ((w.alloc (.cells #[.bool neg, .slice a l.length c] 41)).alloc (.cells #[.bool false, .slice none 0 0, .slice none 0 0] 43)) := by go_grown
 have hgB : w.heap.size ≤ w.heap.size + 1 := by omega
 unfold RetQ
 rw [limbs_zero]
 clear h' hk
 go_enter Tryz.func93, Tryz.ntmps93
 go_wp2_with fail
 have hgl := hz.lt
 revert hz hb0 hgB hgl
 generalize (w.alloc (.cells #[.bool neg, .slice a l.length c] 41)).alloc (.cells #[.bool false, .slice none 0 0, .slice none 0 0] 43) = w0
 generalize w.heap.size + 1 = g
 intro hz hb0 hgB hgl
 refine (CN.out _ hb0).mono ?_
 rintro e w1 ⟨a3, c3, rfl, _, hb1⟩
 have hw1 := below_then hb0 hb1
 have hz1 := hz.below' hb1
 go_wp2_with fail
 refine (CO.out _).mono ?_
 rintro e w2 ⟨a1, c1, rfl, hV, hb2⟩
 have hw2 := below_then hw1 hb2
 have hz2 := hz1.below' hb2
 have hg1 := hz1.lt
 have HV := Lib.hid hV
 have z0 := hz2.cell 0; have z1 := hz2.cell 1; have z2 := hz2.cell 2; have f0 := hz2.frozen 0; have f1 := hz2.frozen 1; have f2 := hz2.frozen 2
 clear hV
 go_wp2
 have hF := blk3 (x := .bool false) (y := .slice none 0 0) (z := .slice a1 (limbs 1).length c1) hz2
 have e0 := hF.cell 0; have e1 := hF.cell 1; have e2 := hF.cell 2
 refine bodyPost_ret (v := .agg #[.bool false, .slice none 0 0, .slice a1 (limbs 1).length c1]) (by simp [results, Tryz.results93, go_sem, e0, e1, e2]) rfl ?_
 exact ⟨none, 0, a1, c1, rfl, fun _ _ => SlR.nil, fun V hV => HV.out V (back3 hV hw1.size hg1), below3 hw2 hgB⟩
set_option maxRecDepth 100000 in
set_option maxHeartbeats 4000000 in
theorem over_any (neg : Bool) (l m : List Int) (n d : Nat) (a a' : Option Addr) (c c' : Nat) (w : World) (h : NatR w a c l) (h' : NatR w a' c' m) (hn : val l = n) (hk : val m = d) (hl : l.length ≤ 2000000) (hm : m.length ≤ 2000000) (h0 : 0 < d) :
  Calls Tryz.prog 93 #[.agg #[.bool neg, .slice a l.length c], .slice a' m.length c'] w (RetQ (neg && decide (0 < n / Nat.gcd n d)) (n / Nat.gcd n d) (d / Nat.gcd n d) w) := by
 have hll := limbs_len_val h.u16
 have hlm := limbs_len_val h'.u16
 rw [hn] at hll
 rw [hk] at hlm
 have hgp : 0 < Nat.gcd n d := Nat.gcd_pos_of_pos_right n h0
 have hgd : Nat.gcd n d ≤ d := Nat.le_of_dvd h0 (Nat.gcd_dvd_right n d)
 have hgl0 := limbs_len_mono hgd
 have hnl := limbs_len_mono (Nat.div_le_self n (Nat.gcd n d))
 have CN := fun W (hW : Below w.heap.size w W) => norm01_any m a' c' W (h'.ext (Ext.below hW)) (by omega)
 rw [hk] at CN
 have CG := fun W (hW : Below w.heap.size w W) => gcd01_any l m n d a a' c c' W (h.ext (Ext.below hW)) (h'.ext (Ext.below hW)) hn hk hl hm
 have CD1 := fun ag cg W (hW : Below w.heap.size w W) hr => divMod01_any l (limbs (Nat.gcd n d)) n (Nat.gcd n d) a ag c cg W (h.ext (Ext.below hW)) hr hn (val_limbs _) hl (by omega) hgp
 have CD2 := fun ag cg W (hW : Below w.heap.size w W) hr => divMod01_any m (limbs (Nat.gcd n d)) d (Nat.gcd n d) a' ag c' cg W (h'.ext (Ext.below hW)) hr hk (val_limbs _) hm (by omega) hgp
 have CZ := fun ag cg W hr => znormR_any neg (limbs (n / Nat.gcd n d)) (n / Nat.gcd n d) ag cg W hr (val_limbs _) (by omega)
 have hne : (((limbs d).length : Int) == 0) = false := by rw [beq_eq_false_iff_ne]; have := limbs_len_pos.2 h0; omega
 obtain ⟨R, hR⟩ : ∃ q, (neg && decide (0 < n / Nat.gcd n d)) = q := ⟨_, rfl⟩
 rw [hR] at CZ ⊢
 unfold RetDM at CD1 CD2
 obtain ⟨gg, hgg⟩ : ∃ q, Nat.gcd n d = q := ⟨_, rfl⟩
 simp only [hgg] at CG CD1 CD2 CZ ⊢
 obtain ⟨N, hN⟩ : ∃ q, n / gg = q := ⟨_, rfl⟩
 obtain ⟨D, hD⟩ : ∃ q, d / gg = q := ⟨_, rfl⟩
 simp only [hN] at CD1 CZ ⊢
 simp only [hD] at CD2 ⊢
 replace CN := Lib.hid CN; replace CG := Lib.hid CG; replace CD1 := Lib.hid CD1; replace CD2 := Lib.hid CD2; replace CZ := Lib.hid CZ
 have hz : Blk ((w.alloc (.cells #[.bool neg, .slice a l.length c] 41)).alloc (.cells #[.bool false, .slice none 0 0, .slice none 0 0] 43)) (w.heap.size + 1) 43 #[.bool false, .slice none 0 0, .slice none 0 0] := blk_at1 w _ _ _
 have hx : Blk ((w.alloc (.cells #[.bool neg, .slice a l.length c] 41)).alloc (.cells #[.bool false, .slice none 0 0, .slice none 0 0] 43)) w.heap.size 41 #[.bool neg, .slice a l.length c] := (Blk.new w _ _).alloc _
 have hb0 : Below w.heap.size w ((w.alloc (.cells #[.bool neg, .slice a l.length c] 41)).alloc (.cells #[.bool false, .slice none 0 0, .slice none 0 0] 43)) := by go_grown
 have hgB : w.heap.size ≤ w.heap.size + 1 := by omega
 clear h h' hn hk hll hlm hgp hgd hgl0 hnl hR hgg hN hD
 go_enter Tryz.func93, Tryz.ntmps93
 go_wp2_with fail
 have hgl := hz.lt
 revert hz hx hb0 hgB hgl
 generalize (w.alloc (.cells #[.bool neg, .slice a l.length c] 41)).alloc (.cells #[.bool false, .slice none 0 0, .slice none 0 0] 43) = w0
 generalize w.heap.size + 1 = g
 intro hz hx hb0 hgB hgl
 refine (CN.out _ hb0).mono ?_
 rintro e w1 ⟨a3, c3, rfl, _, hb1⟩
 have hw1 := below_then hb0 hb1
 have hx1 := hx.below' hb1
 have hz1 := hz.below' hb1
 have z0 := hx1.cell 0; have z1 := hx1.cell 1
 clear hz hx hb1 hgl
 go_wp2_with fail
 refine (CG.out _ hw1).mono ?_
 rintro e w2 ⟨a4, c4, rfl, hV4, hb2⟩
 have hw2 := below_then hw1 hb2
 have hx2 := hx1.below' hb2
 have hz2 := hz1.below' hb2
 have hr4 := hV4 w2 (New.refl _ _)
 have CE1 := CD1.out a4 c4 w2 hw2 hr4
 replace CE1 := Lib.hid CE1
 clear z0 z1 hV4 hx1 hz1
 have z0 := hx2.cell 0; have z1 := hx2.cell 1
 go_wp2_with fail
 refine CE1.out.mono ?_
 rintro e w3 ⟨a5, c5, _, _, rfl, hV5, _, hb3⟩
 have hw3 := below_then hw2 hb3
 have hx3 := hx2.below' hb3
 have hz3 := hz2.below' hb3
 have hg3 := hz3.lt
 have HV5 := Lib.hid hV5
 have CE2 := CD2.out a4 c4 w3 hw3 (hr4.ext (Ext.below hb3))
 replace CE2 := Lib.hid CE2
 clear z0 z1 hV5 hx2 hz2 hr4 CE1
 have z0 := hx3.cell 0; have z1 := hx3.cell 1
 go_wp2_with fail
 refine CE2.out.mono ?_
 rintro e w4 ⟨a6, c6, _, _, rfl, hV6, _, hb4⟩
 have hw4 := below_then hw3 hb4
 have hx4 := hx3.below' hb4
 have hz4 := hz3.below' hb4
 have HV6 := Lib.hid hV6
 have CF := CZ.out a5 c5 w4 (HV5.out w4 ((New.refl _ _).below hb4))
 replace CF := Lib.hid CF
 clear z0 z1 hV6 hx3 hz3 CE2
 have z0 := hx4.cell 0; have z1 := hx4.cell 1
 go_wp2_with fail
 refine CF.out.mono ?_
 rintro e w5 ⟨a7, c7, rfl, hV7, hb5⟩
 have hw5 := below_then hw4 hb5
 have hz5 := hz4.below' hb5
 have HV7 := Lib.hid hV7
 have hg4 := hz4.lt
 clear z0 z1 hV7 hx4 CF
 have z0 := hz5.cell 0; have z1 := hz5.cell 1; have z2 := hz5.cell 2; have f0 := hz5.frozen 0; have f1 := hz5.frozen 1; have f2 := hz5.frozen 2
 go_wp2
 have hF := blk3 (x := .bool R) (y := .slice a7 (limbs N).length c7) (z := .slice a6 (limbs D).length c6) hz5
 have e0 := hF.cell 0; have e1 := hF.cell 1; have e2 := hF.cell 2
 refine bodyPost_ret (v := .agg #[.bool R, .slice a7 (limbs N).length c7, .slice a6 (limbs D).length c6]) (by simp [results, Tryz.results93, go_sem, e0, e1, e2]) rfl ?_
 exact ⟨a7, c7, a6, c6, rfl, fun V hV => HV7.out V (back3 hV hw4.size hg4), fun V hV => HV6.out V ((back3 hV hw3.size hg3).below hb5), below3 hw5 hgB⟩
end Go.Proofs.YtaihkpjbnkgmlaaGreat

/- Walks: rational numbers: Norm of the reference. -/
namespace Go.Proofs.YtaihkpjbnkgmlaaGreat
open Go.RowKit

/-- a fraction in lowest terms: sign, numerator, denominator -/
def lowest (neg : Bool) (n d : Nat) : Bool × Nat × Nat := if d = 0 then (false, 0, 1) else (neg && decide (0 < n / Nat.gcd n d), n / Nat.gcd n d, d / Nat.gcd n d)
def RetF (t : Bool × Nat × Nat) (w : World) (e : Ending) (w' : World) : Prop := RetQ t.1 t.2.1 t.2.2 w e w'
theorem over_all (neg : Bool) (l m : List Int) (n d : Nat) (a a' : Option Addr) (c c' : Nat) (w : World) (h : NatR w a c l) (h' : NatR w a' c' m) (hn : val l = n) (hk : val m = d) (hl : l.length ≤ 2000000) (hm : m.length ≤ 2000000) :
  Calls Tryz.prog 93 #[.agg #[.bool neg, .slice a l.length c], .slice a' m.length c'] w (RetF (lowest neg n d) w) := by
 unfold RetF lowest
 by_cases h0 : d = 0
 ·
  rw [if_pos h0]
  exact over_zero neg l m a a' c c' w h' (by rw [hk, h0]) hm
 ·
  rw [if_neg h0]
  exact over_any neg l m n d a a' c c' w h h' hn hk hl hm (by omega)
set_option maxRecDepth 100000 in
set_option maxHeartbeats 2000000 in
theorem qnormR_any (neg : Bool) (l m : List Int) (n d : Nat) (a a' : Option Addr) (c c' : Nat) (w : World) (h : NatR w a c l) (h' : NatR w a' c' m) (hn : val l = n) (hk : val m = d) (hl : l.length ≤ 2000000) (hm : m.length ≤ 2000000) :
  Calls Tryz.prog 106 #[.agg #[.bool neg, .slice a l.length c, .slice a' m.length c']] w (RetF (lowest neg n d) w) := by
 have CO := fun W (hW : Below w.heap.size w W) => over_all neg l m n d a a' c c' W (h.ext (Ext.below hW)) (h'.ext (Ext.below hW)) hn hk hl hm
 obtain ⟨t, ht⟩ : ∃ t, lowest neg n d = t := ⟨_, rfl⟩
 rw [ht] at CO ⊢
 obtain ⟨s, N, D⟩ := t
 unfold RetF at CO ⊢
 dsimp only at CO ⊢
 replace CO := Lib.hid CO
 have hz : Blk ((w.alloc (.cells #[.bool neg, .slice a l.length c, .slice a' m.length c'] 43)).alloc (.cells #[.bool false, .slice none 0 0, .slice none 0 0] 43)) (w.heap.size + 1) 43 #[.bool false, .slice none 0 0, .slice none 0 0] := blk_at1 w _ _ _
 have hb0 : Below w.heap.size w ((w.alloc (.cells #[.bool neg, .slice a l.length c, .slice a' m.length c'] 43)).alloc (.cells #[.bool false, .slice none 0 0, .slice none 0 0] 43)) := by go_grown
 have hgB : w.heap.size ≤ w.heap.size + 1 := by omega
 have hgl := hz.lt
 clear h h' hn hk ht
 go_enter Tryz.func106, Tryz.ntmps106
 go_wp2_with fail
 revert hz hb0 hgB hgl
 generalize (w.alloc (.cells #[.bool neg, .slice a l.length c, .slice a' m.length c'] 43)).alloc (.cells #[.bool false, .slice none 0 0, .slice none 0 0] 43) = w0
 generalize w.heap.size + 1 = g
 intro hz hb0 hgB hgl
 refine (CO.out _ hb0).mono ?_
 rintro e w1 ⟨a1, c1, a2, c2, rfl, hV1, hV2, hb1⟩
 have hw1 := below_then hb0 hb1
 have hz1 := hz.below' hb1
 have HV1 := Lib.hid hV1
 have HV2 := Lib.hid hV2
 have z0 := hz1.cell 0; have z1 := hz1.cell 1; have z2 := hz1.cell 2; have f0 := hz1.frozen 0; have f1 := hz1.frozen 1; have f2 := hz1.frozen 2
 have hs0 := hb0.size
 clear hV1 hV2 hb0
 go_wp2
 have hF := blk3 (x := .bool s) (y := .slice a1 (limbs N).length c1) (z := .slice a2 (limbs D).length c2) hz1
 have e0 := hF.cell 0; have e1 := hF.cell 1; have e2 := hF.cell 2
 refine bodyPost_ret (v := .agg #[.bool s, .slice a1 (limbs N).length c1, .slice a2 (limbs D).length c2]) (by simp [results, Tryz.results106, go_sem, e0, e1, e2]) rfl ?_
 exact ⟨a1, c1, a2, c2, rfl, fun V hV => HV1.out V (back3 hV hs0 hgl), fun V hV => HV2.out V (back3 hV hs0 hgl), below3 hw1 hgB⟩
end Go.Proofs.YtaihkpjbnkgmlaaGreat

/- Walks: rational numbers by the reference: whole, Make, Of. -/
namespace Go.Proofs.YtaihkpjbnkgmlaaGreat
open Go.RowKit

theorem lowest_pos (neg : Bool) (n d : Nat) : lowest (neg && decide (0 < n)) n d = lowest neg n d := by
 unfold lowest
 split
 · rfl
 ·
  next h0 =>
  by_cases hn : n = 0
  ·
   subst hn
   simp
  ·
   have : decide (0 < n) = true := by rw [decide_eq_true_eq]; omega
   rw [this, Bool.and_true]
/-- a fraction and the word that all is well -/
def RetM (t : Bool × Nat × Nat) (w : World) (e : Ending) (w' : World) : Prop := ∃ na nc da dc, e = .returned (.tuple #[.agg #[.bool t.1, .slice na (limbs t.2.1).length nc, .slice da (limbs t.2.2).length dc], .int .i64 0]) ∧
 (∀ V, New w.heap.size w' V → NatR V na nc (limbs t.2.1)) ∧ (∀ V, New w.heap.size w' V → NatR V da dc (limbs t.2.2)) ∧ Below w.heap.size w w'
set_option maxRecDepth 100000 in
set_option maxHeartbeats 1000000 in
theorem whole_any (n : Nat) (a : Option Addr) (c : Nat) (w : World) :
  Calls Tryz.prog 109 #[.slice a n c] w fun e w' => e = .returned (.agg #[.bool false, .slice a n c]) ∧ Below w.heap.size w w' := by
 go_enter Tryz.func109, Tryz.ntmps109
 go_wp2
 have hF := Blk.new w 41 #[.bool false, .slice a n c]
 have e0 := hF.cell 0; have e1 := hF.cell 1
 refine bodyPost_ret (v := .agg #[.bool false, .slice a n c]) (by simp [results, Tryz.results109, go_sem]) rfl ?_
 exact ⟨rfl, (Below.refl _ _).alloc (Nat.le_refl _) _⟩
set_option maxRecDepth 100000 in
set_option maxHeartbeats 2000000 in
theorem qmakeR_any (neg1 neg2 : Bool) (l m : List Int) (n1 n2 : Nat) (a a' : Option Addr) (c c' : Nat) (w : World) (h : NatR w a c l) (h' : NatR w a' c' m) (hn : val l = n1) (hk : val m = n2) (hl : l.length ≤ 2000000) (hm : m.length ≤ 2000000) (h0 : n2 ≠ 0) :
  Calls Tryz.prog 138 #[.agg #[.bool neg1, .slice a l.length c], .agg #[.bool neg2, .slice a' m.length c']] w (RetM (lowest (neg1 != neg2) n1 n2) w) := by
 have hll := limbs_len_val h.u16
 rw [hn] at hll
 have CS := fun W (hW : Below w.heap.size w W) => zsignR_any neg2 m n2 a' c' W (h'.ext (Ext.below hW)) hk (by omega)
 have CN := fun W (hW : Below w.heap.size w W) => znegR_any neg1 l n1 a c W (h.ext (Ext.below hW)) hn (by omega)
 have CO1 := fun W (hW : Below w.heap.size w W) => over_all neg1 l m n1 n2 a a' c c' W (h.ext (Ext.below hW)) (h'.ext (Ext.below hW)) hn hk hl hm
 have CO2 := fun a1 c1 W h1 (hW : Below w.heap.size w W) => over_all (!neg1 && decide (0 < n1)) (limbs n1) m n1 n2 a1 a' c1 c' W h1 (h'.ext (Ext.below hW)) (val_limbs _) hk (by omega) hm
 simp only [lowest_pos] at CO2
 have hsg : sgnZ neg2 n2 ≠ 0 := by
  unfold sgnZ
  rw [if_neg h0]
  split <;> decide
 obtain ⟨sg, hsg2⟩ : ∃ q, sgnZ neg2 n2 = q := ⟨_, rfl⟩
 rw [hsg2] at CS hsg
 have hne : (sg == 0) = false := by rw [beq_eq_false_iff_ne]; exact hsg
 have hz : Blk (((w.alloc (.cells #[.bool neg1, .slice a l.length c] 41)).alloc (.cells #[.bool neg2, .slice a' m.length c'] 41)).alloc (.cells #[.bool false, .slice none 0 0, .slice none 0 0] 43)) (w.heap.size + 1 + 1) 43 #[.bool false, .slice none 0 0, .slice none 0 0] := blk_at2 w _ _ _ _
 have hx1 : Blk (((w.alloc (.cells #[.bool neg1, .slice a l.length c] 41)).alloc (.cells #[.bool neg2, .slice a' m.length c'] 41)).alloc (.cells #[.bool false, .slice none 0 0, .slice none 0 0] 43)) w.heap.size 41 #[.bool neg1, .slice a l.length c] := ((Blk.new w _ _).alloc _).alloc _
 have hx2 : Blk (((w.alloc (.cells #[.bool neg1, .slice a l.length c] 41)).alloc (.cells #[.bool neg2, .slice a' m.length c'] 41)).alloc (.cells #[.bool false, .slice none 0 0, .slice none 0 0] 43)) (w.heap.size + 1) 41 #[.bool neg2, .slice a' m.length c'] := (blk_at1 w _ _ _).alloc _
 have hb0 : Below w.heap.size w (((w.alloc (.cells #[.bool neg1, .slice a l.length c] 41)).alloc (.cells #[.bool neg2, .slice a' m.length c'] 41)).alloc (.cells #[.bool false, .slice none 0 0, .slice none 0 0] 43)) := by go_grown
 have hgB : w.heap.size < w.heap.size + 1 + 1 := by omega
 have hgB2 : w.heap.size + 1 < w.heap.size + 1 + 1 := by omega
 have hgC : w.heap.size < w.heap.size + 1 := by omega
 have hgl := hz.lt
 have hgl1 := hx1.lt
 cases neg2
 ·
  have ht : (neg1 != false) = neg1 := by cases neg1 <;> rfl
  rw [ht]
  obtain ⟨t, ht⟩ : ∃ t, lowest neg1 n1 n2 = t := ⟨_, rfl⟩
  rw [ht] at CO1 ⊢
  obtain ⟨s, N, D⟩ := t
  unfold RetF at CO1
  unfold RetM
  dsimp only at CO1 ⊢
  replace CS := Lib.hid CS; replace CO1 := Lib.hid CO1
  clear h h' hn hk hll hsg hsg2 h0 CN CO2
  go_enter Tryz.func138, Tryz.ntmps138
  go_wp2_with fail
  revert hz hx1 hx2 hb0 hgB hgB2 hgC hgl hgl1
  generalize ((w.alloc (.cells #[.bool neg1, .slice a l.length c] 41)).alloc (.cells #[.bool false, .slice a' m.length c'] 41)).alloc (.cells #[.bool false, .slice none 0 0, .slice none 0 0] 43) = w0
  generalize w.heap.size + 1 + 1 = g
  generalize w.heap.size + 1 = g2
  intro hgB hgB2 hgC hz hx1 hx2 hb0 hgl hgl1
  refine (CS.out _ hb0).mono ?_
  rintro e w1 ⟨rfl, hb1⟩
  have hw1 := below_then hb0 hb1
  have hz1 := hz.below' hb1
  have hy1 := hx1.below' hb1
  have hy2 := hx2.below' hb1
  have z0 := hy1.cell 0; have z1 := hy1.cell 1; have z2 := hy2.cell 0; have z3 := hy2.cell 1
  go_wp2_with fail
  refine (CO1.out _ hw1).mono ?_
  rintro e w2 ⟨a1, c1, a2, c2, rfl, hV1, hV2, hb2⟩
  have hw2 := below_then hw1 hb2
  have hz2 := hz1.below' hb2
  have HV1 := Lib.hid hV1
  have HV2 := Lib.hid hV2
  have z4 := hz2.cell 0; have z5 := hz2.cell 1; have z6 := hz2.cell 2; have f0 := hz2.frozen 0; have f1 := hz2.frozen 1; have f2 := hz2.frozen 2
  have hs1 := hw1.size
  have hgl2 := hz1.lt
  clear hV1 hV2
  go_wp2
  have hF := blk3 (x := .bool s) (y := .slice a1 (limbs N).length c1) (z := .slice a2 (limbs D).length c2) hz2
  have e0 := hF.cell 0; have e1 := hF.cell 1; have e2 := hF.cell 2
  refine bodyPost_ret (v := .tuple #[.agg #[.bool s, .slice a1 (limbs N).length c1, .slice a2 (limbs D).length c2], .int .i64 0]) (by simp [results, Tryz.results138, go_sem, e0, e1, e2]) rfl ?_
  exact ⟨a1, c1, a2, c2, rfl, fun V hV => HV1.out V (back3 hV hs1 hgl2), fun V hV => HV2.out V (back3 hV hs1 hgl2), below3 hw2 (Nat.le_of_lt hgB)⟩
 ·
  have ht : (neg1 != true) = !neg1 := by cases neg1 <;> rfl
  rw [ht]
  obtain ⟨t, ht⟩ : ∃ t, lowest (!neg1) n1 n2 = t := ⟨_, rfl⟩
  rw [ht] at CO2 ⊢
  obtain ⟨s, N, D⟩ := t
  unfold RetF at CO2
  unfold RetM
  dsimp only at CO2 ⊢
  obtain ⟨ng, hng⟩ : ∃ q, (!neg1 && decide (0 < n1)) = q := ⟨_, rfl⟩
  rw [hng] at CN CO2
  replace CS := Lib.hid CS; replace CO2 := Lib.hid CO2; replace CN := Lib.hid CN
  clear h h' hn hk hll hsg hsg2 h0 CO1 hng
  go_enter Tryz.func138, Tryz.ntmps138
  go_wp2_with fail
  revert hz hx1 hx2 hb0 hgB hgB2 hgC hgl hgl1
  generalize ((w.alloc (.cells #[.bool neg1, .slice a l.length c] 41)).alloc (.cells #[.bool true, .slice a' m.length c'] 41)).alloc (.cells #[.bool false, .slice none 0 0, .slice none 0 0] 43) = w0
  generalize w.heap.size + 1 + 1 = g
  generalize w.heap.size + 1 = g2
  intro hgB hgB2 hgC hz hx1 hx2 hb0 hgl hgl1
  refine (CS.out _ hb0).mono ?_
  rintro e w1 ⟨rfl, hb1⟩
  have hw1 := below_then hb0 hb1
  have hz1 := hz.below' hb1
  have hy1 := hx1.below' hb1
  have hy2 := hx2.below' hb1
  have z0 := hy1.cell 0; have z1 := hy1.cell 1; have z2 := hy2.cell 0; have z3 := hy2.cell 1
  go_wp2_with fail
  refine (CN.out _ hw1).mono ?_
  rintro e w2 ⟨a3, c3, rfl, hV3, hb2⟩
  have hw2 := below_then hw1 hb2
  have hz2 := hz1.below' hb2
  have hu1 := hy1.below' hb2
  have hu2 := hy2.below' hb2
  have hs1 := hw1.size
  have hgl2 := hy1.lt
  have hwS := below2 (g := w.heap.size) (x := .bool ng) (y := .slice a3 (limbs n1).length c3) hw2 (Nat.le_refl _)
  have hr3 := hV3 _ (back2 (New.refl _ ((w2.setCell ⟨w.heap.size, 0, none⟩ (.bool ng)).setCell ⟨w.heap.size, 1, none⟩ (.slice a3 (limbs n1).length c3))) (Nat.le_refl _) hgl2)
  have hne1 : ¬ g2 = w.heap.size := by omega
  have hne2 : ¬ g = w.heap.size := by omega
  have hzS := (hz2.far (p := ⟨w.heap.size, 0, none⟩) hne2 (.bool ng)).far (p := ⟨w.heap.size, 1, none⟩) hne2 (.slice a3 (limbs n1).length c3)
  have CF := CO2.out a3 c3 _ hr3 hwS
  replace CF := Lib.hid CF
  clear z0 z1 z2 z3 hV3 hr3
  have z0 := hu1.cell 0; have z1 := hu1.cell 1; have z2 := hu2.cell 0; have z3 := hu2.cell 1; have f0 := hu1.frozen 0; have f1 := hu1.frozen 1
  go_wp2_with fail
  revert hwS hzS CF
  generalize (w2.setCell ⟨w.heap.size, 0, none⟩ (.bool ng)).setCell ⟨w.heap.size, 1, none⟩ (.slice a3 (limbs n1).length c3) = wS
  intro hwS hzS CF
  refine CF.out.mono ?_
  rintro e w3 ⟨a1, c1, a2, c2, rfl, hV1, hV2, hb3⟩
  have hw3 := below_then hwS hb3
  have hz3 := hzS.below' hb3
  have HV1 := Lib.hid hV1
  have HV2 := Lib.hid hV2
  clear z0 z1 z2 z3 f0 f1
  have z4 := hz3.cell 0; have z5 := hz3.cell 1; have z6 := hz3.cell 2; have f0 := hz3.frozen 0; have f1 := hz3.frozen 1; have f2 := hz3.frozen 2
  have hs1 := hwS.size
  have hgl2 := hzS.lt
  clear hV1 hV2
  go_wp2
  have hF := blk3 (x := .bool s) (y := .slice a1 (limbs N).length c1) (z := .slice a2 (limbs D).length c2) hz3
  have e0 := hF.cell 0; have e1 := hF.cell 1; have e2 := hF.cell 2
  refine bodyPost_ret (v := .tuple #[.agg #[.bool s, .slice a1 (limbs N).length c1, .slice a2 (limbs D).length c2], .int .i64 0]) (by simp [results, Tryz.results138, go_sem, e0, e1, e2]) rfl ?_
  exact ⟨a1, c1, a2, c2, rfl, fun V hV => HV1.out V (back3 hV hs1 hgl2), fun V hV => HV2.out V (back3 hV hs1 hgl2), below3 hw3 (Nat.le_of_lt hgB)⟩
end Go.Proofs.YtaihkpjbnkgmlaaGreat
