/- Walks: squares of intervals. (Printed by sq.py.) -/
import Derived.Test.YtaihkpjbnkgmlaaGreatRf27
import Derived.Test.YtaihkpjbnkgmlaaGreatRf21
import Derived.Test.YtaihkpjbnkgmlaaGreatRf22

/- Walks: squares of intervals. (Printed by sq.py.) -/
namespace Go.Proofs.YtaihkpjbnkgmlaaGreat
open Go.RowKit

def sqI (x : Iq) : Iq := (if x.1 ≤ 0 ∧ 0 ≤ x.2 then 0 else leastQ (x.1 * x.1) [x.2 * x.2], greatQ (x.1 * x.1) [x.2 * x.2])
set_option maxRecDepth 100000 in
set_option maxHeartbeats 4000000 in
theorem isq_i (x1 x2 : QA) (X : Iq) (k : Nat) (w : World) (H1 : QK k w x1 X.1) (H2 : QK k w x2 X.2) (hk : k ≤ 10000) :
  Calls Tryz.prog 160 #[.agg #[.bool x1.neg, .slice x1.a x1.n x1.c, .slice x1.b x1.m x1.d, .bool x2.neg, .slice x2.a x2.n x2.c, .slice x2.b x2.m x2.d]] w (RetI2 (k + k + 1) (sqI X).1 (sqI X).2 w) := by
 have R1 := Lib.hid (fun W (hW : Below w.heap.size w W) => H1.ext (Ext.below hW))
 have R2 := Lib.hid (fun W (hW : Below w.heap.size w W) => H2.ext (Ext.below hW))
 clear H1 H2
 go_enter Tryz.func160, Tryz.ntmps160
 go_wp2
 refine world_gen (fun W => Blk W w.heap.size 73 #[.bool x1.neg, .slice x1.a x1.n x1.c, .slice x1.b x1.m x1.d, .bool x2.neg, .slice x2.a x2.n x2.c, .slice x2.b x2.m x2.d] ∧ Blk W (w.heap.size + 1) 73 #[.bool false, .slice none 0 0, .slice none 0 0, .bool false, .slice none 0 0, .slice none 0 0] ∧ Below w.heap.size w W ∧ w.heap.size < w.heap.size + 1 ∧ w.heap.size + 1 < W.heap.size) ⟨(Blk.new w _ _).alloc _, blk_at1 w _ _ _, by go_grown, by omega, by simp⟩ ?_
 rintro w0 ⟨h0, h1, hw0, hg, hgw⟩
 revert h0 h1 hg hgw
 generalize w.heap.size + 1 = g1
 intro h0 h1 hg hgw
 have k0_0 := held (h0.cell 0)
 have k0_1 := held (h0.cell 1)
 have k0_2 := held (h0.cell 2)
 have k0_3 := held (h0.cell 3)
 have k0_4 := held (h0.cell 4)
 have k0_5 := held (h0.cell 5)
 have s0 : Below w0.heap.size w0 w0.drew := (Below.refl _ _).drew
 refine wp_region_rest (S := Below w0.heap.size w0) [0, 1, 2, 3, 5, 6, 7, 8] [12, 13] (fun listed a W => listed.size = 14 ∧ (listed.getD 0 false = true ∧ listed.getD 1 false = true ∧ listed.getD 2 false = true ∧ listed.getD 3 false = true ∧ listed.getD 5 false = true ∧ listed.getD 6 false = true ∧ listed.getD 7 false = true ∧ listed.getD 8 false = true) ∧ (listed.getD 12 false = true → listed.getD 4 false = true ∧ listed.getD 10 false = true) ∧ (listed.getD 13 false = true → listed.getD 9 false = true ∧ listed.getD 11 false = true) ∧ ∃ v1 v2 p1 p2, a = ⟨#[.agg #[.bool x1.neg, .slice x1.a x1.n x1.c, .slice x1.b x1.m x1.d, .bool x2.neg, .slice x2.a x2.n x2.c, .slice x2.b x2.m x2.d], .pointer (some ⟨w.heap.size, 0, none⟩), .pointer (some ⟨g1, 0, none⟩), p1, p2, .pointer (some ⟨w.heap.size, 0, none⟩), .agg #[.bool x1.neg, .slice x1.a x1.n x1.c, .slice x1.b x1.m x1.d], .pointer (some ⟨w.heap.size, 0, none⟩), .agg #[.bool x1.neg, .slice x1.a x1.n x1.c, .slice x1.b x1.m x1.d], v1, .pointer (some ⟨w.heap.size, 3, none⟩), .agg #[.bool x2.neg, .slice x2.a x2.n x2.c, .slice x2.b x2.m x2.d], .pointer (some ⟨w.heap.size, 3, none⟩), .agg #[.bool x2.neg, .slice x2.a x2.n x2.c, .slice x2.b x2.m x2.d], v2, undef, undef, undef, undef, undef, undef, undef, undef, undef, undef, undef, undef, undef, undef, undef, undef, undef, undef], []⟩ ∧ PairJ 43 w0.drew (fun z V => QK (k + k) V z (X.1 * X.1)) (fun z V => QK (k + k) V z (X.2 * X.2)) (listed.getD 4 false) (listed.getD 9 false) (listed.getD 10 false) (listed.getD 11 false) (listed.getD 12 false) (listed.getD 13 false) v1 v2 p1 p2 W) (by kernel_rfl) (by kernel_rfl) (by kernel_rfl) (by kernel_rfl) (fun d _ _ _ _ h => by cases d <;> exact h) s0 ?_ ?_ ?_
 ·
  rintro listed a W i o ⟨hsz, hl, hs1, hs2, v1, v2, p1, p2, rfl, hJ⟩ ho hi0 hafter
  have hi := getD_tf hi0
  have hlt : i < 14 := (Array.getElem?_eq_some_iff.1 ho).1
  have sW : Below w0.heap.size w0 W := below_then s0 hJ.below
  have hwhich : i = 4 ∨ i = 9 ∨ i = 10 ∨ i = 11 ∨ i = 12 ∨ i = 13 := by
   obtain ⟨l0, l1, l2, l3, l5, l6, l7, l8⟩ := hl
   have n0 : i ≠ 0 := by rintro rfl; rw [l0] at hi; cases hi
   have n1 : i ≠ 1 := by rintro rfl; rw [l1] at hi; cases hi
   have n2 : i ≠ 2 := by rintro rfl; rw [l2] at hi; cases hi
   have n3 : i ≠ 3 := by rintro rfl; rw [l3] at hi; cases hi
   have n5 : i ≠ 5 := by rintro rfl; rw [l5] at hi; cases hi
   have n6 : i ≠ 6 := by rintro rfl; rw [l6] at hi; cases hi
   have n7 : i ≠ 7 := by rintro rfl; rw [l7] at hi; cases hi
   have n8 : i ≠ 8 := by rintro rfl; rw [l8] at hi; cases hi
   omega
  rcases hwhich with rfl | rfl | rfl | rfl | rfl | rfl
  ·
   skip
   have e12 : listed.getD 12 false = false := by
    cases h : listed.getD 12 false
    · rfl
    · have := (hs1 h).1; rw [hi] at this; cases this
   have E : ∀ j, 4 ≠ j → (listed.setIfInBounds 4 true).getD j false = listed.getD j false := fun j h => getD_set_ne h
   have E4 : (listed.setIfInBounds 4 true).getD 4 false = true := getD_set_eq (by omega)
   have E0 := E 0 (by decide)
   have E1 := E 1 (by decide)
   have E2 := E 2 (by decide)
   have E3 := E 3 (by decide)
   have E5 := E 5 (by decide)
   have E6 := E 6 (by decide)
   have E7 := E 7 (by decide)
   have E8 := E 8 (by decide)
   have E9 := E 9 (by decide)
   have E10 := E 10 (by decide)
   have E11 := E 11 (by decide)
   have E12 := E 12 (by decide)
   have E13 := E 13 (by decide)
   refine wpOp_yes rfl rfl (fun K hK => ?_)
   go_simp
   refine (mul_q x1 x1 X.1 X.1 k k W (R1.out _ (below_then hw0 sW)) (R1.out _ (below_then hw0 sW)) (by omega) (by omega)).mono ?_
   rintro r w1 ⟨z, rfl, hz, hb⟩
   dsimp only
   rw [hi, e12] at hJ
   refine hK.out _ _ ⟨fun _ => below_then sW hb, by simpa using hsz, ?_, ?_, ?_, _, _, _, _, rfl, ?_⟩
   · rw [E0, E1, E2, E3, E5, E6, E7, E8]; exact hl
   · rw [E12, E4, E10]; rw [e12]; exact fun h => nomatch h
   · rw [E13, E9, E11]; exact hs2
   · rw [E4, E9, E10, E11, E12, E13]; exact by rw [e12]; exact hJ.call1 hb z hz
  ·
   skip
   have e13 : listed.getD 13 false = false := by
    cases h : listed.getD 13 false
    · rfl
    · have := (hs2 h).1; rw [hi] at this; cases this
   have E : ∀ j, 9 ≠ j → (listed.setIfInBounds 9 true).getD j false = listed.getD j false := fun j h => getD_set_ne h
   have E9 : (listed.setIfInBounds 9 true).getD 9 false = true := getD_set_eq (by omega)
   have E0 := E 0 (by decide)
   have E1 := E 1 (by decide)
   have E2 := E 2 (by decide)
   have E3 := E 3 (by decide)
   have E5 := E 5 (by decide)
   have E6 := E 6 (by decide)
   have E7 := E 7 (by decide)
   have E8 := E 8 (by decide)
   have E4 := E 4 (by decide)
   have E10 := E 10 (by decide)
   have E11 := E 11 (by decide)
   have E12 := E 12 (by decide)
   have E13 := E 13 (by decide)
   refine wpOp_yes rfl rfl (fun K hK => ?_)
   go_simp
   refine (mul_q x2 x2 X.2 X.2 k k W (R2.out _ (below_then hw0 sW)) (R2.out _ (below_then hw0 sW)) (by omega) (by omega)).mono ?_
   rintro r w1 ⟨z, rfl, hz, hb⟩
   dsimp only
   rw [hi, e13] at hJ
   refine hK.out _ _ ⟨fun _ => below_then sW hb, by simpa using hsz, ?_, ?_, ?_, _, _, _, _, rfl, ?_⟩
   · rw [E0, E1, E2, E3, E5, E6, E7, E8]; exact hl
   · rw [E12, E4, E10]; exact hs1
   · rw [E13, E9, E11]; rw [e13]; exact fun h => nomatch h
   · rw [E4, E9, E10, E11, E12, E13]; exact by rw [e13]; exact (hJ.swap.call1 hb z hz).swap
  ·
   skip
   have e12 : listed.getD 12 false = false := by
    cases h : listed.getD 12 false
    · rfl
    · have := (hs1 h).2; rw [hi] at this; cases this
   have E : ∀ j, 10 ≠ j → (listed.setIfInBounds 10 true).getD j false = listed.getD j false := fun j h => getD_set_ne h
   have E10 : (listed.setIfInBounds 10 true).getD 10 false = true := getD_set_eq (by omega)
   have E0 := E 0 (by decide)
   have E1 := E 1 (by decide)
   have E2 := E 2 (by decide)
   have E3 := E 3 (by decide)
   have E5 := E 5 (by decide)
   have E6 := E 6 (by decide)
   have E7 := E 7 (by decide)
   have E8 := E 8 (by decide)
   have E4 := E 4 (by decide)
   have E9 := E 9 (by decide)
   have E11 := E 11 (by decide)
   have E12 := E 12 (by decide)
   have E13 := E 13 (by decide)
   refine wpOp_yes rfl rfl (fun K hK => ?_)
   go_simp
   rw [hi, e12] at hJ
   refine hK.out _ _ ⟨fun _ => sW.alloc sW.size _, by simpa using hsz, ?_, ?_, ?_, _, _, _, _, rfl, ?_⟩
   · rw [E0, E1, E2, E3, E5, E6, E7, E8]; exact hl
   · rw [E12, E4, E10]; rw [e12]; exact fun h => nomatch h
   · rw [E13, E9, E11]; exact hs2
   · rw [E4, E9, E10, E11, E12, E13]; exact by rw [e12]; exact hJ.new1
  ·
   skip
   have e13 : listed.getD 13 false = false := by
    cases h : listed.getD 13 false
    · rfl
    · have := (hs2 h).2; rw [hi] at this; cases this
   have E : ∀ j, 11 ≠ j → (listed.setIfInBounds 11 true).getD j false = listed.getD j false := fun j h => getD_set_ne h
   have E11 : (listed.setIfInBounds 11 true).getD 11 false = true := getD_set_eq (by omega)
   have E0 := E 0 (by decide)
   have E1 := E 1 (by decide)
   have E2 := E 2 (by decide)
   have E3 := E 3 (by decide)
   have E5 := E 5 (by decide)
   have E6 := E 6 (by decide)
   have E7 := E 7 (by decide)
   have E8 := E 8 (by decide)
   have E4 := E 4 (by decide)
   have E9 := E 9 (by decide)
   have E10 := E 10 (by decide)
   have E12 := E 12 (by decide)
   have E13 := E 13 (by decide)
   refine wpOp_yes rfl rfl (fun K hK => ?_)
   go_simp
   rw [hi, e13] at hJ
   refine hK.out _ _ ⟨fun _ => sW.alloc sW.size _, by simpa using hsz, ?_, ?_, ?_, _, _, _, _, rfl, ?_⟩
   · rw [E0, E1, E2, E3, E5, E6, E7, E8]; exact hl
   · rw [E12, E4, E10]; exact hs1
   · rw [E13, E9, E11]; rw [e13]; exact fun h => nomatch h
   · rw [E4, E9, E10, E11, E12, E13]; exact by rw [e13]; exact hJ.swap.new1.swap
  ·
   skip
   simp at ho
   subst ho
   have f1 : listed.getD 4 false = true := by simpa [Region.binds] using hafter ⟨4, .data⟩ (by simp) rfl
   have f2 : listed.getD 10 false = true := by simpa [Region.binds] using hafter ⟨10, .data⟩ (by simp) rfl
   have E : ∀ j, 12 ≠ j → (listed.setIfInBounds 12 true).getD j false = listed.getD j false := fun j h => getD_set_ne h
   have E12 : (listed.setIfInBounds 12 true).getD 12 false = true := getD_set_eq (by omega)
   have E0 := E 0 (by decide)
   have E1 := E 1 (by decide)
   have E2 := E 2 (by decide)
   have E3 := E 3 (by decide)
   have E5 := E 5 (by decide)
   have E6 := E 6 (by decide)
   have E7 := E 7 (by decide)
   have E8 := E 8 (by decide)
   have E4 := E 4 (by decide)
   have E9 := E 9 (by decide)
   have E10 := E 10 (by decide)
   have E11 := E 11 (by decide)
   have E13 := E 13 (by decide)
   rw [f1, f2, hi] at hJ
   obtain ⟨z, gz, rfl, rfl, hgz, hB, hJ'⟩ := hJ.store1
   have y0 := hB.cell 0; have q0 := hB.frozen 0
   have y1 := hB.cell 1; have q1 := hB.frozen 1
   have y2 := hB.cell 2; have q2 := hB.frozen 2
   refine wpOp_yes rfl rfl (fun K hK => ?_)
   go_simp
   refine hK.out _ _ ⟨fun h => absurd h (by decide), by simpa using hsz, ?_, ?_, ?_, _, _, _, _, rfl, ?_⟩
   · rw [E0, E1, E2, E3, E5, E6, E7, E8]; exact hl
   · rw [E12, E4, E10]; exact fun _ => ⟨f1, f2⟩
   · rw [E13, E9, E11]; exact hs2
   · rw [E4, E9, E10, E11, E12, E13]; exact by rw [f1, f2]; exact hJ'
  ·
   skip
   simp at ho
   subst ho
   have f1 : listed.getD 9 false = true := by simpa [Region.binds] using hafter ⟨9, .data⟩ (by simp) rfl
   have f2 : listed.getD 11 false = true := by simpa [Region.binds] using hafter ⟨11, .data⟩ (by simp) rfl
   have E : ∀ j, 13 ≠ j → (listed.setIfInBounds 13 true).getD j false = listed.getD j false := fun j h => getD_set_ne h
   have E13 : (listed.setIfInBounds 13 true).getD 13 false = true := getD_set_eq (by omega)
   have E0 := E 0 (by decide)
   have E1 := E 1 (by decide)
   have E2 := E 2 (by decide)
   have E3 := E 3 (by decide)
   have E5 := E 5 (by decide)
   have E6 := E 6 (by decide)
   have E7 := E 7 (by decide)
   have E8 := E 8 (by decide)
   have E4 := E 4 (by decide)
   have E9 := E 9 (by decide)
   have E10 := E 10 (by decide)
   have E11 := E 11 (by decide)
   have E12 := E 12 (by decide)
   rw [f1, f2, hi] at hJ
   obtain ⟨z, gz, rfl, rfl, hgz, hB, hJ'⟩ := hJ.swap.store1
   have y0 := hB.cell 0; have q0 := hB.frozen 0
   have y1 := hB.cell 1; have q1 := hB.frozen 1
   have y2 := hB.cell 2; have q2 := hB.frozen 2
   refine wpOp_yes rfl rfl (fun K hK => ?_)
   go_simp
   refine hK.out _ _ ⟨fun h => absurd h (by decide), by simpa using hsz, ?_, ?_, ?_, _, _, _, _, rfl, ?_⟩
   · rw [E0, E1, E2, E3, E5, E6, E7, E8]; exact hl
   · rw [E12, E4, E10]; exact hs1
   · rw [E13, E9, E11]; exact fun _ => ⟨f1, f2⟩
   · rw [E4, E9, E10, E11, E12, E13]; exact by rw [f1, f2]; exact hJ'.swap
 rotate_left
 ·
  skip
  iterate 8 (refine wpPre_q rfl rfl (fun K hK => ?_); apply Exists.intro; refine ⟨fun w' hw' => ?_, ?_⟩; (focus (go_simp; try rfl)); go_simp; refine hK _ _ ?_; clear hK K)
  refine wpPre_nil ?_
  refine ⟨by kernel_rfl, ⟨by kernel_rfl, by kernel_rfl, by kernel_rfl, by kernel_rfl, by kernel_rfl, by kernel_rfl, by kernel_rfl, by kernel_rfl⟩, ?_, ?_, _, _, _, _, rfl, ?_⟩
  ·
   intro h
   exact nomatch (show false = true from (show _ = false by kernel_rfl).symm.trans h)
  ·
   intro h
   exact nomatch (show false = true from (show _ = false by kernel_rfl).symm.trans h)
  · exact PairJ.start
 rintro listed a wA ⟨hsz, ⟨l0, l1, l2, l3, l5, l6, l7, l8⟩, hs1, hs2, v1, v2, p1, p2, rfl, hJ⟩ hr
 have m0 := l0; rw [Array.getD_eq_getD_getElem?] at m0
 have m1 := l1; rw [Array.getD_eq_getD_getElem?] at m1
 have m2 := l2; rw [Array.getD_eq_getD_getElem?] at m2
 have m3 := l3; rw [Array.getD_eq_getD_getElem?] at m3
 have m5 := l5; rw [Array.getD_eq_getD_getElem?] at m5
 have m6 := l6; rw [Array.getD_eq_getD_getElem?] at m6
 have m7 := l7; rw [Array.getD_eq_getD_getElem?] at m7
 have m8 := l8; rw [Array.getD_eq_getD_getElem?] at m8
 have hno := fun j => List.eq_nil_iff_forall_not_mem.1 hr j
 have F4 : listed.getD 4 false = true := by
  cases h : listed.getD 4 false
  ·
   exfalso
   exact hno 4 (mem_ready.2 ⟨getD_ft (by omega) h, _, rfl, by simp [Region.binds, m0, m1, m2, m3, m5, m6, m7, m8]⟩)
  · rfl
 have G4 := F4; rw [Array.getD_eq_getD_getElem?] at G4
 have F9 : listed.getD 9 false = true := by
  cases h : listed.getD 9 false
  ·
   exfalso
   exact hno 9 (mem_ready.2 ⟨getD_ft (by omega) h, _, rfl, by simp [Region.binds, m0, m1, m2, m3, m5, m6, m7, m8, G4]⟩)
  · rfl
 have G9 := F9; rw [Array.getD_eq_getD_getElem?] at G9
 have F10 : listed.getD 10 false = true := by
  cases h : listed.getD 10 false
  ·
   exfalso
   exact hno 10 (mem_ready.2 ⟨getD_ft (by omega) h, _, rfl, by simp [Region.binds, m0, m1, m2, m3, m5, m6, m7, m8, G4, G9]⟩)
  · rfl
 have G10 := F10; rw [Array.getD_eq_getD_getElem?] at G10
 have F11 : listed.getD 11 false = true := by
  cases h : listed.getD 11 false
  ·
   exfalso
   exact hno 11 (mem_ready.2 ⟨getD_ft (by omega) h, _, rfl, by simp [Region.binds, m0, m1, m2, m3, m5, m6, m7, m8, G4, G9, G10]⟩)
  · rfl
 have G11 := F11; rw [Array.getD_eq_getD_getElem?] at G11
 have F12 : listed.getD 12 false = true := by
  cases h : listed.getD 12 false
  ·
   exfalso
   exact hno 12 (mem_ready.2 ⟨getD_ft (by omega) h, _, rfl, by simp [Region.binds, m0, m1, m2, m3, m5, m6, m7, m8, G4, G9, G10, G11]⟩)
  · rfl
 have G12 := F12; rw [Array.getD_eq_getD_getElem?] at G12
 have F13 : listed.getD 13 false = true := by
  cases h : listed.getD 13 false
  ·
   exfalso
   exact hno 13 (mem_ready.2 ⟨getD_ft (by omega) h, _, rfl, by simp [Region.binds, m0, m1, m2, m3, m5, m6, m7, m8, G4, G9, G10, G11, G12]⟩)
  · rfl
 have G13 := F13; rw [Array.getD_eq_getD_getElem?] at G13
 rw [F4, F9, F10, F11, F12, F13] at hJ
 obtain ⟨za1, za2, Ba1, Ta1, Ba2, Ta2, ga1, ga2, rfl, rfl, rfl, rfl, hba, ba1, ba2, ba3, ba4, ba5, ba6, Ka1, Ka2, ha1, ha2⟩ := hJ.all
 have sA : Below w0.heap.size w0 wA.drew := (below_then s0 hba).drew
 clear hno hr hsz hs1 hs2 l0 m0 l1 m1 l2 m2 l3 m3 l5 m5 l6 m6 l7 m7 l8 m8 F4 G4 F9 G9 F10 G10 F11 G11 F12 G12 F13 G13
 have RR : Kp (fun V => AllQ (k + k) V [za1, za2] [X.1 * X.1, X.2 * X.2]) w0.heap.size wA.heap.size wA := AllQ.n2 (Ka1.wide (by simpa using ba1) (by omega)) (Ka2.wide (by simpa using ba2) (by omega))
 have hz : Blk wA g1 73 #[.bool false, .slice none 0 0, .slice none 0 0, .bool false, .slice none 0 0, .slice none 0 0] := h1.drew.below' hba
 have hx : Blk wA w.heap.size 73 #[.bool x1.neg, .slice x1.a x1.n x1.c, .slice x1.b x1.m x1.d, .bool x2.neg, .slice x2.a x2.n x2.c, .slice x2.b x2.m x2.d] := h0.drew.below' hba
 have sA' : Below w0.heap.size w0 wA := below_then s0 hba
 have hwz := below_then hw0 sA'
 have lA : g1 < wA.heap.size := Nat.lt_of_lt_of_le hgw sA'.size
 have hwg : w.heap.size ≤ w0.heap.size := hw0.size
 have lwz : w0.heap.size ≤ wA.heap.size := sA'.size
 clear sA sA' Ka1 Ka2 hJ hba ba1 ba2 ba3 ba4 ba5 ba6 s0 hw0 h0 h1 k0_0 k0_1 k0_2 k0_3 k0_4 k0_5
 go_wp2
 revert RR hz hx hwz lA ha1 ha2 lwz
 generalize wA = wz
 intro ha1 ha2 RR hz hx hwz lA lwz
 replace RR := Lib.hid RR
 have HZ := Lib.hid (fun W (hW : Below wz.heap.size wz W) => hz.below' hW)
 have HA1 := Lib.hid (fun W (hW : Below wz.heap.size wz W) => ha1.below' hW)
 have HA2 := Lib.hid (fun W (hW : Below wz.heap.size wz W) => ha2.below' hW)
 clear hz ha1 ha2
 have k0_0 := held (hx.cell 0)
 have k0_1 := held (hx.cell 1)
 have k0_2 := held (hx.cell 2)
 have k0_3 := held (hx.cell 3)
 have k0_4 := held (hx.cell 4)
 have k0_5 := held (hx.cell 5)
 clear hx
 have s0 : Below wz.heap.size wz wz.drew := (Below.refl _ _).drew
 refine wp_region_mix (S := Below wz.heap.size wz) [(0, .q), (1, .l), (2, .t)] (by kernel_rfl) (by kernel_rfl) (by kernel_rfl) (fun d _ _ _ _ h => by cases d <;> exact h) (s0) ?_
 iterate 1 (refine wpMix_q rfl rfl (fun K hK => ?_); apply Exists.intro; refine ⟨fun w' hw' => ?_, ?_⟩; (focus (go_simp; try rfl)); go_simp; refine hK _ _ ?_; clear hK K)
 refine wpMix_l rfl rfl (fun K hK => ?_)
 go_simp
 refine (zero_q _).mono ?_
 rintro r w1 ⟨zr, rfl, J1, hb1⟩
 dsimp only
 refine hK.out _ _ (below_then s0 hb1) (fun _ => ?_)
 clear hK K
 have s1 := below_then s0 hb1
 refine wpMix_t rfl rfl (fun K hK => ?_)
 go_simp
 refine (ihas_q x1 x2 zr X.1 X.2 0 k 1 _ (R1.out _ (below_then hwz s1)) (R2.out _ (below_then hwz s1)) J1.now (by omega) (by omega)).mono ?_
 rintro r w2 ⟨rfl, hb2⟩
 dsimp only
 refine hK.out _ _ ?_
 clear hK K
 have s2 := below_then s1 hb2
 clear J1 hb1 hb2 k0_0 k0_1 k0_2 k0_3 k0_4 k0_5
 refine wpMix_nil ?_
 replace HZ := Lib.hid (fun W (hW : Below w2.heap.size w2 W) => HZ.out W (below_then s2 hW))
 replace HA1 := Lib.hid (fun W (hW : Below w2.heap.size w2 W) => (HA1.out W (below_then s2 hW)))
 replace HA2 := Lib.hid (fun W (hW : Below w2.heap.size w2 W) => (HA2.out W (below_then s2 hW)))
 replace RR := Lib.hid (RR.out.call s2)
 have lz := s2.size
 have l0z : w0.heap.size ≤ wz.heap.size := lwz
 replace hwz := below_then hwz s2
 have ca1_0 := fun W hW => (HA1.out W hW).cell 0; have ca1_1 := fun W hW => (HA1.out W hW).cell 1; have ca1_2 := fun W hW => (HA1.out W hW).cell 2
 have ca2_0 := fun W hW => (HA2.out W hW).cell 0; have ca2_1 := fun W hW => (HA2.out W hW).cell 1; have ca2_2 := fun W hW => (HA2.out W hW).cell 2
 clear HA1 HA2 s0 s1 s2
 by_cases h0 : X.1 ≤ 0 ∧ 0 ≤ X.2
 ·
  have es : sqI X = (0, greatQ (X.1 * X.1) [X.2 * X.2]) := by unfold sqI; rw [if_pos h0]
  rw [decide_eq_true h0]
  replace es := Lib.hid es
  clear h0
  go_wp2
  have s0 : Below w2.heap.size w2 w2.drew := (Below.refl _ _).drew
  obtain ⟨v0, hv0⟩ : ∃ v, w2.drew = v := ⟨_, rfl⟩
  refine wp_region_tree (S := Below w2.heap.size w2) (.q 1 (.q 2 (.two 0 (.l 3 (.l 4 (.q 5 (.t 6 .nil)))) 3 (.l 0 (.l 4 (.q 5 (.t 6 .nil))))))) [6] (by kernel_rfl) (by kernel_rfl) (by kernel_rfl) (fun d _ _ _ _ h => by cases d <;> exact h) s0 ?_
  rw [hv0] at s0 ⊢
  iterate 2 (refine wpMT_q rfl rfl (fun K hK => ?_); apply Exists.intro; refine ⟨fun w' hw' => ?_, ?_⟩; (focus (go_simp; try rfl)); go_simp; refine hK _ _ ?_; clear hK K)
  refine wpMT_two ?_ ?_
  ·
   skip
   refine wpMT_l rfl rfl (fun K hK => ?_)
   go_simp
   refine (zero_q _).mono ?_
   rintro r v1 ⟨z1, rfl, KZ, hb1⟩
   dsimp only
   have s1 := below_then s0 hb1
   refine hK.out _ _ s1 (fun _ => ?_)
   clear hK K
   replace KZ := Lib.hid (KZ.wide (show w0.heap.size ≤ _ by have := s0.size; omega) (Nat.le_refl _))
   refine wpMT_l rfl rfl (fun K hK => ?_)
   go_simp
   refine hK.out _ _ (s1.alloc s1.size _) (fun _ => ?_)
   clear hK K
   refine world_gen (fun W => Blk W v1.heap.size 43 #[.bool za2.neg, .slice za2.a za2.n za2.c, .slice za2.b za2.m za2.d] ∧ Below w2.heap.size w2 W ∧ Kp (fun V => QK 1 V z1 0) w0.heap.size W.heap.size W) ⟨by ((repeat first|with_reducible assumption|((with_reducible apply Blk.farAt);focus omega)|with_reducible apply Blk.setb|((with_reducible apply Blk.newAt);focus (simp;done))|with_reducible apply Blk.alloc|with_reducible apply Blk.drew);all_goals (show @Eq (Array Value) _ _;rfl)), s1.alloc s1.size _, Kp.wide (KZ.out.alloc) (Nat.le_refl _) (by simp)⟩ ?_
   rintro v2 ⟨hA, s2, KZ⟩
   replace KZ := Lib.hid KZ
   obtain ⟨gA, egA⟩ : ∃ q, v1.heap.size = q := ⟨_, rfl⟩
   rw [egA] at hA ⊢
   clear egA
   refine wpMT_l rfl rfl (fun K hK => ?_)
   go_simp
   refine (greatL_q za1 (X.1 * X.1) [za2] [X.2 * X.2] (k + k) gA 1 v2 (RR.out.call s2).now (RowQ.n1 hA) (Nat.le_of_ble_eq_true rfl) (by omega)).mono ?_
   rintro r v3 ⟨⟨z2, rfl, P2⟩, hb3⟩
   dsimp only
   have s3 := below_then s2 hb3
   refine hK.out _ _ s3 (fun _ => ?_)
   clear hK K
   replace P2 := Lib.hid P2
   replace KZ := Lib.hid ((KZ.out.call hb3).wide (Nat.le_refl _) hb3.size)
   clear hA
   iterate 1 (refine wpMT_q rfl rfl (fun K hK => ?_); apply Exists.intro; refine ⟨fun w' hw' => ?_, ?_⟩; (focus (go_simp; try rfl)); go_simp; refine hK _ _ ?_; clear hK K)
   have hz := HZ.out _ s3
   have sz := s3.size
   have hwF := below_then hwz s3
   have N1 := Lib.hid KZ.out
   have N2 : Hid (Kp (fun V => QK (k + k) V z2 (greatQ (X.1 * X.1) [X.2 * X.2])) w0.heap.size wz.heap.size v3) := Lib.hid ((RR.out.call s3).imp (fun V h => P2.out _ _ h))
   have y0 := hz.cell 0; have f0 := hz.frozen 0; have y1 := hz.cell 1; have f1 := hz.frozen 1; have y2 := hz.cell 2; have f2 := hz.frozen 2; have y3 := hz.cell 3; have f3 := hz.frozen 3; have y4 := hz.cell 4; have f4 := hz.frozen 4; have y5 := hz.cell 5; have f5 := hz.frozen 5
   refine wpMT_t rfl rfl (fun K hK => ?_)
   go_simp
   refine hK.out _ _ ?_
   clear hK K
   refine wpMT_nil ?_
   go_wp2
   refine world_gen (fun W => Blk W g1 73 #[.bool z1.neg, .slice z1.a z1.n z1.c, .slice z1.b z1.m z1.d, .bool z2.neg, .slice z2.a z2.n z2.c, .slice z2.b z2.m z2.d] ∧ Below w.heap.size w W ∧ Kp (fun V => QK 1 V z1 0) w0.heap.size W.heap.size W ∧ Kp (fun V => QK (k + k) V z2 (greatQ (X.1 * X.1) [X.2 * X.2])) w0.heap.size W.heap.size W) ⟨by ((repeat first|with_reducible assumption|((with_reducible apply Blk.farAt);focus omega)|with_reducible apply Blk.setb|((with_reducible apply Blk.newAt);focus (simp;done))|with_reducible apply Blk.alloc|with_reducible apply Blk.drew);all_goals (show @Eq (Array Value) _ _;rfl)), by go_grown, ?_, ?_⟩ ?_
   ·
    refine Kp.wide (B := w0.heap.size) (T := v3.heap.size) ?_ (Nat.le_refl _) (by first | (simp; done) | (simp; omega))
    iterate 6 (with_reducible refine Kp.setc (.inl hgw) ?_)
    exact N1.out
   ·
    refine Kp.wide (B := w0.heap.size) (T := wz.heap.size) ?_ (Nat.le_refl _) (by first | (simp; done) | (simp; omega))
    iterate 6 (with_reducible refine Kp.setc (.inl hgw) ?_)
    exact N2.out
   rintro wF ⟨hF, hwF, L0, L1⟩
   have e0 := hF.cell 0; have e1 := hF.cell 1; have e2 := hF.cell 2; have e3 := hF.cell 3; have e4 := hF.cell 4; have e5 := hF.cell 5
   refine bodyPost_ret (v := .agg #[.bool z1.neg, .slice z1.a z1.n z1.c, .slice z1.b z1.m z1.d, .bool z2.neg, .slice z2.a z2.n z2.c, .slice z2.b z2.m z2.d]) (by simp [results, Tryz.results160, go_sem, e0, e1, e2, e3, e4, e5]) rfl ?_
   rw [es.out]
   exact ⟨z1, z2, rfl, (L0.imp (fun V h => (QK.more h (by omega) : QK (k + k + 1) V z1 _))).wide hwg (Nat.le_refl _), (L1.imp (fun V h => (QK.more h (by omega) : QK (k + k + 1) V z2 _))).wide hwg (Nat.le_refl _), hwF⟩
  ·
   skip
   refine wpMT_l rfl rfl (fun K hK => ?_)
   go_simp
   refine hK.out _ _ (s0.alloc s0.size _) (fun _ => ?_)
   clear hK K
   refine world_gen (fun W => Blk W v0.heap.size 43 #[.bool za2.neg, .slice za2.a za2.n za2.c, .slice za2.b za2.m za2.d] ∧ Below w2.heap.size w2 W) ⟨by ((repeat first|with_reducible assumption|((with_reducible apply Blk.farAt);focus omega)|with_reducible apply Blk.setb|((with_reducible apply Blk.newAt);focus (simp;done))|with_reducible apply Blk.alloc|with_reducible apply Blk.drew);all_goals (show @Eq (Array Value) _ _;rfl)), s0.alloc s0.size _⟩ ?_
   rintro v1 ⟨hA, s1⟩
   obtain ⟨gA, egA⟩ : ∃ q, v0.heap.size = q := ⟨_, rfl⟩
   rw [egA] at hA ⊢
   clear egA
   refine wpMT_l rfl rfl (fun K hK => ?_)
   go_simp
   refine (zero_q _).mono ?_
   rintro r v2 ⟨z1, rfl, KZ, hb2⟩
   dsimp only
   have s2 := below_then s1 hb2
   refine hK.out _ _ s2 (fun _ => ?_)
   clear hK K
   replace KZ := Lib.hid (KZ.wide (show w0.heap.size ≤ _ by have := s1.size; omega) (Nat.le_refl _))
   replace hA := hA.below' hb2
   refine wpMT_l rfl rfl (fun K hK => ?_)
   go_simp
   refine (greatL_q za1 (X.1 * X.1) [za2] [X.2 * X.2] (k + k) gA 1 v2 (RR.out.call s2).now (RowQ.n1 hA) (Nat.le_of_ble_eq_true rfl) (by omega)).mono ?_
   rintro r v3 ⟨⟨z2, rfl, P2⟩, hb3⟩
   dsimp only
   have s3 := below_then s2 hb3
   refine hK.out _ _ s3 (fun _ => ?_)
   clear hK K
   replace P2 := Lib.hid P2
   replace KZ := Lib.hid ((KZ.out.call hb3).wide (Nat.le_refl _) hb3.size)
   clear hA
   iterate 1 (refine wpMT_q rfl rfl (fun K hK => ?_); apply Exists.intro; refine ⟨fun w' hw' => ?_, ?_⟩; (focus (go_simp; try rfl)); go_simp; refine hK _ _ ?_; clear hK K)
   have hz := HZ.out _ s3
   have sz := s3.size
   have hwF := below_then hwz s3
   have N1 := Lib.hid KZ.out
   have N2 : Hid (Kp (fun V => QK (k + k) V z2 (greatQ (X.1 * X.1) [X.2 * X.2])) w0.heap.size wz.heap.size v3) := Lib.hid ((RR.out.call s3).imp (fun V h => P2.out _ _ h))
   have y0 := hz.cell 0; have f0 := hz.frozen 0; have y1 := hz.cell 1; have f1 := hz.frozen 1; have y2 := hz.cell 2; have f2 := hz.frozen 2; have y3 := hz.cell 3; have f3 := hz.frozen 3; have y4 := hz.cell 4; have f4 := hz.frozen 4; have y5 := hz.cell 5; have f5 := hz.frozen 5
   refine wpMT_t rfl rfl (fun K hK => ?_)
   go_simp
   refine hK.out _ _ ?_
   clear hK K
   refine wpMT_nil ?_
   go_wp2
   refine world_gen (fun W => Blk W g1 73 #[.bool z1.neg, .slice z1.a z1.n z1.c, .slice z1.b z1.m z1.d, .bool z2.neg, .slice z2.a z2.n z2.c, .slice z2.b z2.m z2.d] ∧ Below w.heap.size w W ∧ Kp (fun V => QK 1 V z1 0) w0.heap.size W.heap.size W ∧ Kp (fun V => QK (k + k) V z2 (greatQ (X.1 * X.1) [X.2 * X.2])) w0.heap.size W.heap.size W) ⟨by ((repeat first|with_reducible assumption|((with_reducible apply Blk.farAt);focus omega)|with_reducible apply Blk.setb|((with_reducible apply Blk.newAt);focus (simp;done))|with_reducible apply Blk.alloc|with_reducible apply Blk.drew);all_goals (show @Eq (Array Value) _ _;rfl)), by go_grown, ?_, ?_⟩ ?_
   ·
    refine Kp.wide (B := w0.heap.size) (T := v3.heap.size) ?_ (Nat.le_refl _) (by first | (simp; done) | (simp; omega))
    iterate 6 (with_reducible refine Kp.setc (.inl hgw) ?_)
    exact N1.out
   ·
    refine Kp.wide (B := w0.heap.size) (T := wz.heap.size) ?_ (Nat.le_refl _) (by first | (simp; done) | (simp; omega))
    iterate 6 (with_reducible refine Kp.setc (.inl hgw) ?_)
    exact N2.out
   rintro wF ⟨hF, hwF, L0, L1⟩
   have e0 := hF.cell 0; have e1 := hF.cell 1; have e2 := hF.cell 2; have e3 := hF.cell 3; have e4 := hF.cell 4; have e5 := hF.cell 5
   refine bodyPost_ret (v := .agg #[.bool z1.neg, .slice z1.a z1.n z1.c, .slice z1.b z1.m z1.d, .bool z2.neg, .slice z2.a z2.n z2.c, .slice z2.b z2.m z2.d]) (by simp [results, Tryz.results160, go_sem, e0, e1, e2, e3, e4, e5]) rfl ?_
   rw [es.out]
   exact ⟨z1, z2, rfl, (L0.imp (fun V h => (QK.more h (by omega) : QK (k + k + 1) V z1 _))).wide hwg (Nat.le_refl _), (L1.imp (fun V h => (QK.more h (by omega) : QK (k + k + 1) V z2 _))).wide hwg (Nat.le_refl _), hwF⟩
 ·
  have es : sqI X = (leastQ (X.1 * X.1) [X.2 * X.2], greatQ (X.1 * X.1) [X.2 * X.2]) := by unfold sqI; rw [if_neg h0]
  rw [decide_eq_false h0]
  replace es := Lib.hid es
  clear h0
  go_wp2
  have s0 : Below w2.heap.size w2 w2.drew := (Below.refl _ _).drew
  obtain ⟨v0, hv0⟩ : ∃ v, w2.drew = v := ⟨_, rfl⟩
  refine wp_region_tree (S := Below w2.heap.size w2) (.q 0 (.q 1 (.q 4 (.q 5 (.two 2 (.two 3 (.l 6 (.l 7 (.q 8 (.t 9 .nil)))) 6 (.l 3 (.l 7 (.q 8 (.t 9 .nil))))) 6 (.l 2 (.l 3 (.l 7 (.q 8 (.t 9 .nil)))))))))) [9] (by kernel_rfl) (by kernel_rfl) (by kernel_rfl) (fun d _ _ _ _ h => by cases d <;> exact h) s0 ?_
  rw [hv0] at s0 ⊢
  iterate 4 (refine wpMT_q rfl rfl (fun K hK => ?_); apply Exists.intro; refine ⟨fun w' hw' => ?_, ?_⟩; (focus (go_simp; try rfl)); go_simp; refine hK _ _ ?_; clear hK K)
  refine wpMT_two ?_ ?_
  ·
   skip
   refine wpMT_l rfl rfl (fun K hK => ?_)
   go_simp
   refine hK.out _ _ (s0.alloc s0.size _) (fun _ => ?_)
   clear hK K
   refine world_gen (fun W => Blk W v0.heap.size 43 #[.bool za2.neg, .slice za2.a za2.n za2.c, .slice za2.b za2.m za2.d] ∧ Below w2.heap.size w2 W) ⟨by ((repeat first|with_reducible assumption|((with_reducible apply Blk.farAt);focus omega)|with_reducible apply Blk.setb|((with_reducible apply Blk.newAt);focus (simp;done))|with_reducible apply Blk.alloc|with_reducible apply Blk.drew);all_goals (show @Eq (Array Value) _ _;rfl)), s0.alloc s0.size _⟩ ?_
   rintro v1 ⟨hA, s1⟩
   obtain ⟨gA, egA⟩ : ∃ q, v0.heap.size = q := ⟨_, rfl⟩
   rw [egA] at hA ⊢
   clear egA
   refine wpMT_two ?_ ?_
   ·
    skip
    refine wpMT_l rfl rfl (fun K hK => ?_)
    go_simp
    refine (leastL_q za1 (X.1 * X.1) [za2] [X.2 * X.2] (k + k) gA 1 v1 (RR.out.call s1).now (RowQ.n1 hA) (Nat.le_of_ble_eq_true rfl) (by omega)).mono ?_
    rintro r v2 ⟨⟨z1, rfl, P1⟩, hb2⟩
    dsimp only
    have s2 := below_then s1 hb2
    refine hK.out _ _ s2 (fun _ => ?_)
    clear hK K
    replace P1 := Lib.hid P1
    clear hA
    refine wpMT_l rfl rfl (fun K hK => ?_)
    go_simp
    refine hK.out _ _ (s2.alloc s2.size _) (fun _ => ?_)
    clear hK K
    refine world_gen (fun W => Blk W v2.heap.size 43 #[.bool za2.neg, .slice za2.a za2.n za2.c, .slice za2.b za2.m za2.d] ∧ Below w2.heap.size w2 W) ⟨by ((repeat first|with_reducible assumption|((with_reducible apply Blk.farAt);focus omega)|with_reducible apply Blk.setb|((with_reducible apply Blk.newAt);focus (simp;done))|with_reducible apply Blk.alloc|with_reducible apply Blk.drew);all_goals (show @Eq (Array Value) _ _;rfl)), s2.alloc s2.size _⟩ ?_
    rintro v3 ⟨hB, s3⟩
    obtain ⟨gB, egB⟩ : ∃ q, v2.heap.size = q := ⟨_, rfl⟩
    rw [egB] at hB ⊢
    clear egB
    refine wpMT_l rfl rfl (fun K hK => ?_)
    go_simp
    refine (greatL_q za1 (X.1 * X.1) [za2] [X.2 * X.2] (k + k) gB 1 v3 (RR.out.call s3).now (RowQ.n1 hB) (Nat.le_of_ble_eq_true rfl) (by omega)).mono ?_
    rintro r v4 ⟨⟨z2, rfl, P2⟩, hb4⟩
    dsimp only
    have s4 := below_then s3 hb4
    refine hK.out _ _ s4 (fun _ => ?_)
    clear hK K
    replace P2 := Lib.hid P2
    clear hB
    iterate 1 (refine wpMT_q rfl rfl (fun K hK => ?_); apply Exists.intro; refine ⟨fun w' hw' => ?_, ?_⟩; (focus (go_simp; try rfl)); go_simp; refine hK _ _ ?_; clear hK K)
    have hz := HZ.out _ s4
    have sz := s4.size
    have hwF := below_then hwz s4
    have N1 : Hid (Kp (fun V => QK (k + k) V z1 (leastQ (X.1 * X.1) [X.2 * X.2])) w0.heap.size wz.heap.size v4) := Lib.hid ((RR.out.call s4).imp (fun V h => P1.out _ _ h))
    have N2 : Hid (Kp (fun V => QK (k + k) V z2 (greatQ (X.1 * X.1) [X.2 * X.2])) w0.heap.size wz.heap.size v4) := Lib.hid ((RR.out.call s4).imp (fun V h => P2.out _ _ h))
    have y0 := hz.cell 0; have f0 := hz.frozen 0; have y1 := hz.cell 1; have f1 := hz.frozen 1; have y2 := hz.cell 2; have f2 := hz.frozen 2; have y3 := hz.cell 3; have f3 := hz.frozen 3; have y4 := hz.cell 4; have f4 := hz.frozen 4; have y5 := hz.cell 5; have f5 := hz.frozen 5
    refine wpMT_t rfl rfl (fun K hK => ?_)
    go_simp
    refine hK.out _ _ ?_
    clear hK K
    refine wpMT_nil ?_
    go_wp2
    refine world_gen (fun W => Blk W g1 73 #[.bool z1.neg, .slice z1.a z1.n z1.c, .slice z1.b z1.m z1.d, .bool z2.neg, .slice z2.a z2.n z2.c, .slice z2.b z2.m z2.d] ∧ Below w.heap.size w W ∧ Kp (fun V => QK (k + k) V z1 (leastQ (X.1 * X.1) [X.2 * X.2])) w0.heap.size W.heap.size W ∧ Kp (fun V => QK (k + k) V z2 (greatQ (X.1 * X.1) [X.2 * X.2])) w0.heap.size W.heap.size W) ⟨by ((repeat first|with_reducible assumption|((with_reducible apply Blk.farAt);focus omega)|with_reducible apply Blk.setb|((with_reducible apply Blk.newAt);focus (simp;done))|with_reducible apply Blk.alloc|with_reducible apply Blk.drew);all_goals (show @Eq (Array Value) _ _;rfl)), by go_grown, ?_, ?_⟩ ?_
    ·
     refine Kp.wide (B := w0.heap.size) (T := wz.heap.size) ?_ (Nat.le_refl _) (by first | (simp; done) | (simp; omega))
     iterate 6 (with_reducible refine Kp.setc (.inl hgw) ?_)
     exact N1.out
    ·
     refine Kp.wide (B := w0.heap.size) (T := wz.heap.size) ?_ (Nat.le_refl _) (by first | (simp; done) | (simp; omega))
     iterate 6 (with_reducible refine Kp.setc (.inl hgw) ?_)
     exact N2.out
    rintro wF ⟨hF, hwF, L0, L1⟩
    have e0 := hF.cell 0; have e1 := hF.cell 1; have e2 := hF.cell 2; have e3 := hF.cell 3; have e4 := hF.cell 4; have e5 := hF.cell 5
    refine bodyPost_ret (v := .agg #[.bool z1.neg, .slice z1.a z1.n z1.c, .slice z1.b z1.m z1.d, .bool z2.neg, .slice z2.a z2.n z2.c, .slice z2.b z2.m z2.d]) (by simp [results, Tryz.results160, go_sem, e0, e1, e2, e3, e4, e5]) rfl ?_
    rw [es.out]
    exact ⟨z1, z2, rfl, (L0.imp (fun V h => (QK.more h (by omega) : QK (k + k + 1) V z1 _))).wide hwg (Nat.le_refl _), (L1.imp (fun V h => (QK.more h (by omega) : QK (k + k + 1) V z2 _))).wide hwg (Nat.le_refl _), hwF⟩
   ·
    skip
    refine wpMT_l rfl rfl (fun K hK => ?_)
    go_simp
    refine hK.out _ _ (s1.alloc s1.size _) (fun _ => ?_)
    clear hK K
    refine world_gen (fun W => Blk W v1.heap.size 43 #[.bool za2.neg, .slice za2.a za2.n za2.c, .slice za2.b za2.m za2.d] ∧ Blk W gA 43 #[.bool za2.neg, .slice za2.a za2.n za2.c, .slice za2.b za2.m za2.d] ∧ Below w2.heap.size w2 W) ⟨by ((repeat first|with_reducible assumption|((with_reducible apply Blk.farAt);focus omega)|with_reducible apply Blk.setb|((with_reducible apply Blk.newAt);focus (simp;done))|with_reducible apply Blk.alloc|with_reducible apply Blk.drew);all_goals (show @Eq (Array Value) _ _;rfl)), by ((repeat first|with_reducible assumption|((with_reducible apply Blk.farAt);focus omega)|with_reducible apply Blk.setb|((with_reducible apply Blk.newAt);focus (simp;done))|with_reducible apply Blk.alloc|with_reducible apply Blk.drew);all_goals (show @Eq (Array Value) _ _;rfl)), s1.alloc s1.size _⟩ ?_
    rintro v2 ⟨hB, hA, s2⟩
    obtain ⟨gB, egB⟩ : ∃ q, v1.heap.size = q := ⟨_, rfl⟩
    rw [egB] at hB ⊢
    clear egB
    refine wpMT_l rfl rfl (fun K hK => ?_)
    go_simp
    refine (leastL_q za1 (X.1 * X.1) [za2] [X.2 * X.2] (k + k) gA 1 v2 (RR.out.call s2).now (RowQ.n1 hA) (Nat.le_of_ble_eq_true rfl) (by omega)).mono ?_
    rintro r v3 ⟨⟨z1, rfl, P1⟩, hb3⟩
    dsimp only
    have s3 := below_then s2 hb3
    refine hK.out _ _ s3 (fun _ => ?_)
    clear hK K
    replace P1 := Lib.hid P1
    clear hA
    replace hB := hB.below' hb3
    refine wpMT_l rfl rfl (fun K hK => ?_)
    go_simp
    refine (greatL_q za1 (X.1 * X.1) [za2] [X.2 * X.2] (k + k) gB 1 v3 (RR.out.call s3).now (RowQ.n1 hB) (Nat.le_of_ble_eq_true rfl) (by omega)).mono ?_
    rintro r v4 ⟨⟨z2, rfl, P2⟩, hb4⟩
    dsimp only
    have s4 := below_then s3 hb4
    refine hK.out _ _ s4 (fun _ => ?_)
    clear hK K
    replace P2 := Lib.hid P2
    clear hB
    iterate 1 (refine wpMT_q rfl rfl (fun K hK => ?_); apply Exists.intro; refine ⟨fun w' hw' => ?_, ?_⟩; (focus (go_simp; try rfl)); go_simp; refine hK _ _ ?_; clear hK K)
    have hz := HZ.out _ s4
    have sz := s4.size
    have hwF := below_then hwz s4
    have N1 : Hid (Kp (fun V => QK (k + k) V z1 (leastQ (X.1 * X.1) [X.2 * X.2])) w0.heap.size wz.heap.size v4) := Lib.hid ((RR.out.call s4).imp (fun V h => P1.out _ _ h))
    have N2 : Hid (Kp (fun V => QK (k + k) V z2 (greatQ (X.1 * X.1) [X.2 * X.2])) w0.heap.size wz.heap.size v4) := Lib.hid ((RR.out.call s4).imp (fun V h => P2.out _ _ h))
    have y0 := hz.cell 0; have f0 := hz.frozen 0; have y1 := hz.cell 1; have f1 := hz.frozen 1; have y2 := hz.cell 2; have f2 := hz.frozen 2; have y3 := hz.cell 3; have f3 := hz.frozen 3; have y4 := hz.cell 4; have f4 := hz.frozen 4; have y5 := hz.cell 5; have f5 := hz.frozen 5
    refine wpMT_t rfl rfl (fun K hK => ?_)
    go_simp
    refine hK.out _ _ ?_
    clear hK K
    refine wpMT_nil ?_
    go_wp2
    refine world_gen (fun W => Blk W g1 73 #[.bool z1.neg, .slice z1.a z1.n z1.c, .slice z1.b z1.m z1.d, .bool z2.neg, .slice z2.a z2.n z2.c, .slice z2.b z2.m z2.d] ∧ Below w.heap.size w W ∧ Kp (fun V => QK (k + k) V z1 (leastQ (X.1 * X.1) [X.2 * X.2])) w0.heap.size W.heap.size W ∧ Kp (fun V => QK (k + k) V z2 (greatQ (X.1 * X.1) [X.2 * X.2])) w0.heap.size W.heap.size W) ⟨by ((repeat first|with_reducible assumption|((with_reducible apply Blk.farAt);focus omega)|with_reducible apply Blk.setb|((with_reducible apply Blk.newAt);focus (simp;done))|with_reducible apply Blk.alloc|with_reducible apply Blk.drew);all_goals (show @Eq (Array Value) _ _;rfl)), by go_grown, ?_, ?_⟩ ?_
    ·
     refine Kp.wide (B := w0.heap.size) (T := wz.heap.size) ?_ (Nat.le_refl _) (by first | (simp; done) | (simp; omega))
     iterate 6 (with_reducible refine Kp.setc (.inl hgw) ?_)
     exact N1.out
    ·
     refine Kp.wide (B := w0.heap.size) (T := wz.heap.size) ?_ (Nat.le_refl _) (by first | (simp; done) | (simp; omega))
     iterate 6 (with_reducible refine Kp.setc (.inl hgw) ?_)
     exact N2.out
    rintro wF ⟨hF, hwF, L0, L1⟩
    have e0 := hF.cell 0; have e1 := hF.cell 1; have e2 := hF.cell 2; have e3 := hF.cell 3; have e4 := hF.cell 4; have e5 := hF.cell 5
    refine bodyPost_ret (v := .agg #[.bool z1.neg, .slice z1.a z1.n z1.c, .slice z1.b z1.m z1.d, .bool z2.neg, .slice z2.a z2.n z2.c, .slice z2.b z2.m z2.d]) (by simp [results, Tryz.results160, go_sem, e0, e1, e2, e3, e4, e5]) rfl ?_
    rw [es.out]
    exact ⟨z1, z2, rfl, (L0.imp (fun V h => (QK.more h (by omega) : QK (k + k + 1) V z1 _))).wide hwg (Nat.le_refl _), (L1.imp (fun V h => (QK.more h (by omega) : QK (k + k + 1) V z2 _))).wide hwg (Nat.le_refl _), hwF⟩
  ·
   skip
   refine wpMT_l rfl rfl (fun K hK => ?_)
   go_simp
   refine hK.out _ _ (s0.alloc s0.size _) (fun _ => ?_)
   clear hK K
   refine world_gen (fun W => Blk W v0.heap.size 43 #[.bool za2.neg, .slice za2.a za2.n za2.c, .slice za2.b za2.m za2.d] ∧ Below w2.heap.size w2 W) ⟨by ((repeat first|with_reducible assumption|((with_reducible apply Blk.farAt);focus omega)|with_reducible apply Blk.setb|((with_reducible apply Blk.newAt);focus (simp;done))|with_reducible apply Blk.alloc|with_reducible apply Blk.drew);all_goals (show @Eq (Array Value) _ _;rfl)), s0.alloc s0.size _⟩ ?_
   rintro v1 ⟨hB, s1⟩
   obtain ⟨gB, egB⟩ : ∃ q, v0.heap.size = q := ⟨_, rfl⟩
   rw [egB] at hB ⊢
   clear egB
   refine wpMT_l rfl rfl (fun K hK => ?_)
   go_simp
   refine hK.out _ _ (s1.alloc s1.size _) (fun _ => ?_)
   clear hK K
   refine world_gen (fun W => Blk W v1.heap.size 43 #[.bool za2.neg, .slice za2.a za2.n za2.c, .slice za2.b za2.m za2.d] ∧ Blk W gB 43 #[.bool za2.neg, .slice za2.a za2.n za2.c, .slice za2.b za2.m za2.d] ∧ Below w2.heap.size w2 W) ⟨by ((repeat first|with_reducible assumption|((with_reducible apply Blk.farAt);focus omega)|with_reducible apply Blk.setb|((with_reducible apply Blk.newAt);focus (simp;done))|with_reducible apply Blk.alloc|with_reducible apply Blk.drew);all_goals (show @Eq (Array Value) _ _;rfl)), by ((repeat first|with_reducible assumption|((with_reducible apply Blk.farAt);focus omega)|with_reducible apply Blk.setb|((with_reducible apply Blk.newAt);focus (simp;done))|with_reducible apply Blk.alloc|with_reducible apply Blk.drew);all_goals (show @Eq (Array Value) _ _;rfl)), s1.alloc s1.size _⟩ ?_
   rintro v2 ⟨hA, hB, s2⟩
   obtain ⟨gA, egA⟩ : ∃ q, v1.heap.size = q := ⟨_, rfl⟩
   rw [egA] at hA ⊢
   clear egA
   refine wpMT_l rfl rfl (fun K hK => ?_)
   go_simp
   refine (leastL_q za1 (X.1 * X.1) [za2] [X.2 * X.2] (k + k) gA 1 v2 (RR.out.call s2).now (RowQ.n1 hA) (Nat.le_of_ble_eq_true rfl) (by omega)).mono ?_
   rintro r v3 ⟨⟨z1, rfl, P1⟩, hb3⟩
   dsimp only
   have s3 := below_then s2 hb3
   refine hK.out _ _ s3 (fun _ => ?_)
   clear hK K
   replace P1 := Lib.hid P1
   clear hA
   replace hB := hB.below' hb3
   refine wpMT_l rfl rfl (fun K hK => ?_)
   go_simp
   refine (greatL_q za1 (X.1 * X.1) [za2] [X.2 * X.2] (k + k) gB 1 v3 (RR.out.call s3).now (RowQ.n1 hB) (Nat.le_of_ble_eq_true rfl) (by omega)).mono ?_
   rintro r v4 ⟨⟨z2, rfl, P2⟩, hb4⟩
   dsimp only
   have s4 := below_then s3 hb4
   refine hK.out _ _ s4 (fun _ => ?_)
   clear hK K
   replace P2 := Lib.hid P2
   clear hB
   iterate 1 (refine wpMT_q rfl rfl (fun K hK => ?_); apply Exists.intro; refine ⟨fun w' hw' => ?_, ?_⟩; (focus (go_simp; try rfl)); go_simp; refine hK _ _ ?_; clear hK K)
   have hz := HZ.out _ s4
   have sz := s4.size
   have hwF := below_then hwz s4
   have N1 : Hid (Kp (fun V => QK (k + k) V z1 (leastQ (X.1 * X.1) [X.2 * X.2])) w0.heap.size wz.heap.size v4) := Lib.hid ((RR.out.call s4).imp (fun V h => P1.out _ _ h))
   have N2 : Hid (Kp (fun V => QK (k + k) V z2 (greatQ (X.1 * X.1) [X.2 * X.2])) w0.heap.size wz.heap.size v4) := Lib.hid ((RR.out.call s4).imp (fun V h => P2.out _ _ h))
   have y0 := hz.cell 0; have f0 := hz.frozen 0; have y1 := hz.cell 1; have f1 := hz.frozen 1; have y2 := hz.cell 2; have f2 := hz.frozen 2; have y3 := hz.cell 3; have f3 := hz.frozen 3; have y4 := hz.cell 4; have f4 := hz.frozen 4; have y5 := hz.cell 5; have f5 := hz.frozen 5
   refine wpMT_t rfl rfl (fun K hK => ?_)
   go_simp
   refine hK.out _ _ ?_
   clear hK K
   refine wpMT_nil ?_
   go_wp2
   refine world_gen (fun W => Blk W g1 73 #[.bool z1.neg, .slice z1.a z1.n z1.c, .slice z1.b z1.m z1.d, .bool z2.neg, .slice z2.a z2.n z2.c, .slice z2.b z2.m z2.d] ∧ Below w.heap.size w W ∧ Kp (fun V => QK (k + k) V z1 (leastQ (X.1 * X.1) [X.2 * X.2])) w0.heap.size W.heap.size W ∧ Kp (fun V => QK (k + k) V z2 (greatQ (X.1 * X.1) [X.2 * X.2])) w0.heap.size W.heap.size W) ⟨by ((repeat first|with_reducible assumption|((with_reducible apply Blk.farAt);focus omega)|with_reducible apply Blk.setb|((with_reducible apply Blk.newAt);focus (simp;done))|with_reducible apply Blk.alloc|with_reducible apply Blk.drew);all_goals (show @Eq (Array Value) _ _;rfl)), by go_grown, ?_, ?_⟩ ?_
   ·
    refine Kp.wide (B := w0.heap.size) (T := wz.heap.size) ?_ (Nat.le_refl _) (by first | (simp; done) | (simp; omega))
    iterate 6 (with_reducible refine Kp.setc (.inl hgw) ?_)
    exact N1.out
   ·
    refine Kp.wide (B := w0.heap.size) (T := wz.heap.size) ?_ (Nat.le_refl _) (by first | (simp; done) | (simp; omega))
    iterate 6 (with_reducible refine Kp.setc (.inl hgw) ?_)
    exact N2.out
   rintro wF ⟨hF, hwF, L0, L1⟩
   have e0 := hF.cell 0; have e1 := hF.cell 1; have e2 := hF.cell 2; have e3 := hF.cell 3; have e4 := hF.cell 4; have e5 := hF.cell 5
   refine bodyPost_ret (v := .agg #[.bool z1.neg, .slice z1.a z1.n z1.c, .slice z1.b z1.m z1.d, .bool z2.neg, .slice z2.a z2.n z2.c, .slice z2.b z2.m z2.d]) (by simp [results, Tryz.results160, go_sem, e0, e1, e2, e3, e4, e5]) rfl ?_
   rw [es.out]
   exact ⟨z1, z2, rfl, (L0.imp (fun V h => (QK.more h (by omega) : QK (k + k + 1) V z1 _))).wide hwg (Nat.le_refl _), (L1.imp (fun V h => (QK.more h (by omega) : QK (k + k + 1) V z2 _))).wide hwg (Nat.le_refl _), hwF⟩
end Go.Proofs.YtaihkpjbnkgmlaaGreat
