/- Walks: products of intervals. -/
import Derived.Test.YtaihkpjbnkgmlaaGreatRf21
import Derived.Test.YtaihkpjbnkgmlaaGreatRf22
import Derived.Test.YtaihkpjbnkgmlaaGreatRf23

/- Walks: products of intervals. -/
namespace Go.Proofs.YtaihkpjbnkgmlaaGreat
open Go.RowKit

set_option maxRecDepth 100000 in
set_option maxHeartbeats 40000000 in
theorem imul_q (x1 x2 x3 x4 : QA) (a0 b c d : Rat) (k : Nat) (w : World) (H1 : QK k w x1 a0) (H2 : QK k w x2 b) (H3 : QK k w x3 c) (H4 : QK k w x4 d) (hk : k ≤ 10000) :
  Calls Tryz.prog 79 #[.agg #[.bool x1.neg, .slice x1.a x1.n x1.c, .slice x1.b x1.m x1.d, .bool x2.neg, .slice x2.a x2.n x2.c, .slice x2.b x2.m x2.d], .agg #[.bool x3.neg, .slice x3.a x3.n x3.c, .slice x3.b x3.m x3.d, .bool x4.neg, .slice x4.a x4.n x4.c, .slice x4.b x4.m x4.d]] w (RetI2 (k + k) (leastQ (a0 * c) [a0 * d, b * c, b * d]) (greatQ (a0 * c) [a0 * d, b * c, b * d]) w) := by
 have R1 := Lib.hid (fun W (hW : Below w.heap.size w W) => H1.ext (Ext.below hW))
 have R2 := Lib.hid (fun W (hW : Below w.heap.size w W) => H2.ext (Ext.below hW))
 have R3 := Lib.hid (fun W (hW : Below w.heap.size w W) => H3.ext (Ext.below hW))
 have R4 := Lib.hid (fun W (hW : Below w.heap.size w W) => H4.ext (Ext.below hW))
 clear H1 H2 H3 H4
 go_enter Tryz.func79, Tryz.ntmps79
 go_wp2
 refine world_gen (fun W => Blk W w.heap.size 73 #[.bool x1.neg, .slice x1.a x1.n x1.c, .slice x1.b x1.m x1.d, .bool x2.neg, .slice x2.a x2.n x2.c, .slice x2.b x2.m x2.d] ∧ Blk W (w.heap.size + 1) 73 #[.bool x3.neg, .slice x3.a x3.n x3.c, .slice x3.b x3.m x3.d, .bool x4.neg, .slice x4.a x4.n x4.c, .slice x4.b x4.m x4.d] ∧ Blk W (w.heap.size + 1 + 1) 73 #[.bool false, .slice none 0 0, .slice none 0 0, .bool false, .slice none 0 0, .slice none 0 0] ∧ Below w.heap.size w W ∧ w.heap.size < w.heap.size + 1 + 1 ∧ w.heap.size + 1 + 1 < W.heap.size) ⟨by ((repeat first|with_reducible assumption|((with_reducible apply Blk.farAt);focus omega)|with_reducible apply Blk.setb|((with_reducible apply Blk.newAt);focus (simp;done))|with_reducible apply Blk.alloc|with_reducible apply Blk.drew);all_goals (show @Eq (Array Value) _ _;rfl)), by ((repeat first|with_reducible assumption|((with_reducible apply Blk.farAt);focus omega)|with_reducible apply Blk.setb|((with_reducible apply Blk.newAt);focus (simp;done))|with_reducible apply Blk.alloc|with_reducible apply Blk.drew);all_goals (show @Eq (Array Value) _ _;rfl)), by ((repeat first|with_reducible assumption|((with_reducible apply Blk.farAt);focus omega)|with_reducible apply Blk.setb|((with_reducible apply Blk.newAt);focus (simp;done))|with_reducible apply Blk.alloc|with_reducible apply Blk.drew);all_goals (show @Eq (Array Value) _ _;rfl)), by go_grown, by omega, by simp⟩ ?_
 rintro w0 ⟨h0, h1, h2, hw0, hg, hgw⟩
 revert h0 h1 h2 hg hgw
 generalize w.heap.size + 1 + 1 = g2
 generalize w.heap.size + 1 = g1
 intro h0 h1 h2 hg hgw
 have k0_0 := held (h0.cell 0)
 have k0_1 := held (h0.cell 1)
 have k0_2 := held (h0.cell 2)
 have k0_3 := held (h0.cell 3)
 have k0_4 := held (h0.cell 4)
 have k0_5 := held (h0.cell 5)
 have k1_0 := held (h1.cell 0)
 have k1_1 := held (h1.cell 1)
 have k1_2 := held (h1.cell 2)
 have k1_3 := held (h1.cell 3)
 have k1_4 := held (h1.cell 4)
 have k1_5 := held (h1.cell 5)
 have s0 : Below w0.heap.size w0 w0.drew := (Below.refl _ _).drew
 refine wp_region_rest (S := Below w0.heap.size w0) [0, 1, 2, 3, 5, 6, 7, 8] [12, 13] (fun listed a W => listed.size = 14 ∧ (listed.getD 0 false = true ∧ listed.getD 1 false = true ∧ listed.getD 2 false = true ∧ listed.getD 3 false = true ∧ listed.getD 5 false = true ∧ listed.getD 6 false = true ∧ listed.getD 7 false = true ∧ listed.getD 8 false = true) ∧ (listed.getD 12 false = true → listed.getD 4 false = true ∧ listed.getD 10 false = true) ∧ (listed.getD 13 false = true → listed.getD 9 false = true ∧ listed.getD 11 false = true) ∧ ∃ v1 v2 p1 p2, a = ⟨#[.agg #[.bool x1.neg, .slice x1.a x1.n x1.c, .slice x1.b x1.m x1.d, .bool x2.neg, .slice x2.a x2.n x2.c, .slice x2.b x2.m x2.d], .agg #[.bool x3.neg, .slice x3.a x3.n x3.c, .slice x3.b x3.m x3.d, .bool x4.neg, .slice x4.a x4.n x4.c, .slice x4.b x4.m x4.d], .pointer (some ⟨w.heap.size, 0, none⟩), .pointer (some ⟨g1, 0, none⟩), .pointer (some ⟨g2, 0, none⟩), p1, p2, undef, undef, .pointer (some ⟨w.heap.size, 0, none⟩), .agg #[.bool x1.neg, .slice x1.a x1.n x1.c, .slice x1.b x1.m x1.d], .pointer (some ⟨g1, 0, none⟩), .agg #[.bool x3.neg, .slice x3.a x3.n x3.c, .slice x3.b x3.m x3.d], v1, .pointer (some ⟨w.heap.size, 0, none⟩), .agg #[.bool x1.neg, .slice x1.a x1.n x1.c, .slice x1.b x1.m x1.d], .pointer (some ⟨g1, 3, none⟩), .agg #[.bool x4.neg, .slice x4.a x4.n x4.c, .slice x4.b x4.m x4.d], v2, undef, undef, undef, undef, undef, undef, undef, undef, undef, undef, undef, undef, undef, undef, undef, undef, undef, undef, undef, undef, undef, undef, undef], []⟩ ∧ PairJ 43 w0.drew (fun z V => QK (k + k) V z (a0 * c)) (fun z V => QK (k + k) V z (a0 * d)) (listed.getD 4 false) (listed.getD 9 false) (listed.getD 10 false) (listed.getD 11 false) (listed.getD 12 false) (listed.getD 13 false) v1 v2 p1 p2 W) (by kernel_rfl) (by kernel_rfl) (by kernel_rfl) (by kernel_rfl) (fun d _ _ _ _ h => by cases d <;> exact h) s0 ?_ ?_ ?_
 ·
  rintro listed a W i o ⟨hsz, hl, hs1, hs2, v1, v2, p1, p2, rfl, hJ⟩ ho hi0 hafter
  have hi := getD_tf hi0
  have hlt : i < 14 := (Array.getElem?_eq_some_iff.1 ho).1
  have sW : Below w0.heap.size w0 W := below_then s0 hJ.below
  have hwhich : i = 4 ∨ i = 9 ∨ i = 10 ∨ i = 11 ∨ i = 12 ∨ i = 13 := by
   obtain ⟨l0, l1, l2, l3, l5, l6, l7, l8⟩ := hl
   have n0 : i ≠ 0 := by rintro rfl; rw [l0] at hi; cases hi
   have n1 : i ≠ 1 := by rintro rfl; rw [l1] at hi; cases hi
   have n2 : i ≠ 2 := by rintro rfl; rw [l2] at hi; cases hi
   have n3 : i ≠ 3 := by rintro rfl; rw [l3] at hi; cases hi
   have n5 : i ≠ 5 := by rintro rfl; rw [l5] at hi; cases hi
   have n6 : i ≠ 6 := by rintro rfl; rw [l6] at hi; cases hi
   have n7 : i ≠ 7 := by rintro rfl; rw [l7] at hi; cases hi
   have n8 : i ≠ 8 := by rintro rfl; rw [l8] at hi; cases hi
   omega
  rcases hwhich with rfl | rfl | rfl | rfl | rfl | rfl
  ·
   skip
   have e12 : listed.getD 12 false = false := by
    cases h : listed.getD 12 false
    · rfl
    · have := (hs1 h).1; rw [hi] at this; cases this
   have E : ∀ j, 4 ≠ j → (listed.setIfInBounds 4 true).getD j false = listed.getD j false := fun j h => getD_set_ne h
   have E4 : (listed.setIfInBounds 4 true).getD 4 false = true := getD_set_eq (by omega)
   have E0 := E 0 (by decide)
   have E1 := E 1 (by decide)
   have E2 := E 2 (by decide)
   have E3 := E 3 (by decide)
   have E5 := E 5 (by decide)
   have E6 := E 6 (by decide)
   have E7 := E 7 (by decide)
   have E8 := E 8 (by decide)
   have E9 := E 9 (by decide)
   have E10 := E 10 (by decide)
   have E11 := E 11 (by decide)
   have E12 := E 12 (by decide)
   have E13 := E 13 (by decide)
   refine wpOp_yes rfl rfl (fun K hK => ?_)
   go_simp
   refine (mul_q x1 x3 a0 c k k W (R1.out _ (below_then hw0 sW)) (R3.out _ (below_then hw0 sW)) (by omega) (by omega)).mono ?_
   rintro r w1 ⟨z, rfl, hz, hb⟩
   dsimp only
   rw [hi, e12] at hJ
   refine hK.out _ _ ⟨fun _ => below_then sW hb, by simpa using hsz, ?_, ?_, ?_, _, _, _, _, rfl, ?_⟩
   · rw [E0, E1, E2, E3, E5, E6, E7, E8]; exact hl
   · rw [E12, E4, E10]; rw [e12]; exact fun h => nomatch h
   · rw [E13, E9, E11]; exact hs2
   · rw [E4, E9, E10, E11, E12, E13]; exact by rw [e12]; exact hJ.call1 hb z hz
  ·
   skip
   have e13 : listed.getD 13 false = false := by
    cases h : listed.getD 13 false
    · rfl
    · have := (hs2 h).1; rw [hi] at this; cases this
   have E : ∀ j, 9 ≠ j → (listed.setIfInBounds 9 true).getD j false = listed.getD j false := fun j h => getD_set_ne h
   have E9 : (listed.setIfInBounds 9 true).getD 9 false = true := getD_set_eq (by omega)
   have E0 := E 0 (by decide)
   have E1 := E 1 (by decide)
   have E2 := E 2 (by decide)
   have E3 := E 3 (by decide)
   have E5 := E 5 (by decide)
   have E6 := E 6 (by decide)
   have E7 := E 7 (by decide)
   have E8 := E 8 (by decide)
   have E4 := E 4 (by decide)
   have E10 := E 10 (by decide)
   have E11 := E 11 (by decide)
   have E12 := E 12 (by decide)
   have E13 := E 13 (by decide)
   refine wpOp_yes rfl rfl (fun K hK => ?_)
   go_simp
   refine (mul_q x1 x4 a0 d k k W (R1.out _ (below_then hw0 sW)) (R4.out _ (below_then hw0 sW)) (by omega) (by omega)).mono ?_
   rintro r w1 ⟨z, rfl, hz, hb⟩
   dsimp only
   rw [hi, e13] at hJ
   refine hK.out _ _ ⟨fun _ => below_then sW hb, by simpa using hsz, ?_, ?_, ?_, _, _, _, _, rfl, ?_⟩
   · rw [E0, E1, E2, E3, E5, E6, E7, E8]; exact hl
   · rw [E12, E4, E10]; exact hs1
   · rw [E13, E9, E11]; rw [e13]; exact fun h => nomatch h
   · rw [E4, E9, E10, E11, E12, E13]; exact by rw [e13]; exact (hJ.swap.call1 hb z hz).swap
  ·
   skip
   have e12 : listed.getD 12 false = false := by
    cases h : listed.getD 12 false
    · rfl
    · have := (hs1 h).2; rw [hi] at this; cases this
   have E : ∀ j, 10 ≠ j → (listed.setIfInBounds 10 true).getD j false = listed.getD j false := fun j h => getD_set_ne h
   have E10 : (listed.setIfInBounds 10 true).getD 10 false = true := getD_set_eq (by omega)
   have E0 := E 0 (by decide)
   have E1 := E 1 (by decide)
   have E2 := E 2 (by decide)
   have E3 := E 3 (by decide)
   have E5 := E 5 (by decide)
   have E6 := E 6 (by decide)
   have E7 := E 7 (by decide)
   have E8 := E 8 (by decide)
   have E4 := E 4 (by decide)
   have E9 := E 9 (by decide)
   have E11 := E 11 (by decide)
   have E12 := E 12 (by decide)
   have E13 := E 13 (by decide)
   refine wpOp_yes rfl rfl (fun K hK => ?_)
   go_simp
   rw [hi, e12] at hJ
   refine hK.out _ _ ⟨fun _ => sW.alloc sW.size _, by simpa using hsz, ?_, ?_, ?_, _, _, _, _, rfl, ?_⟩
   · rw [E0, E1, E2, E3, E5, E6, E7, E8]; exact hl
   · rw [E12, E4, E10]; rw [e12]; exact fun h => nomatch h
   · rw [E13, E9, E11]; exact hs2
   · rw [E4, E9, E10, E11, E12, E13]; exact by rw [e12]; exact hJ.new1
  ·
   skip
   have e13 : listed.getD 13 false = false := by
    cases h : listed.getD 13 false
    · rfl
    · have := (hs2 h).2; rw [hi] at this; cases this
   have E : ∀ j, 11 ≠ j → (listed.setIfInBounds 11 true).getD j false = listed.getD j false := fun j h => getD_set_ne h
   have E11 : (listed.setIfInBounds 11 true).getD 11 false = true := getD_set_eq (by omega)
   have E0 := E 0 (by decide)
   have E1 := E 1 (by decide)
   have E2 := E 2 (by decide)
   have E3 := E 3 (by decide)
   have E5 := E 5 (by decide)
   have E6 := E 6 (by decide)
   have E7 := E 7 (by decide)
   have E8 := E 8 (by decide)
   have E4 := E 4 (by decide)
   have E9 := E 9 (by decide)
   have E10 := E 10 (by decide)
   have E12 := E 12 (by decide)
   have E13 := E 13 (by decide)
   refine wpOp_yes rfl rfl (fun K hK => ?_)
   go_simp
   rw [hi, e13] at hJ
   refine hK.out _ _ ⟨fun _ => sW.alloc sW.size _, by simpa using hsz, ?_, ?_, ?_, _, _, _, _, rfl, ?_⟩
   · rw [E0, E1, E2, E3, E5, E6, E7, E8]; exact hl
   · rw [E12, E4, E10]; exact hs1
   · rw [E13, E9, E11]; rw [e13]; exact fun h => nomatch h
   · rw [E4, E9, E10, E11, E12, E13]; exact by rw [e13]; exact hJ.swap.new1.swap
  ·
   skip
   simp at ho
   subst ho
   have f1 : listed.getD 4 false = true := by simpa [Region.binds] using hafter ⟨4, .data⟩ (by simp) rfl
   have f2 : listed.getD 10 false = true := by simpa [Region.binds] using hafter ⟨10, .data⟩ (by simp) rfl
   have E : ∀ j, 12 ≠ j → (listed.setIfInBounds 12 true).getD j false = listed.getD j false := fun j h => getD_set_ne h
   have E12 : (listed.setIfInBounds 12 true).getD 12 false = true := getD_set_eq (by omega)
   have E0 := E 0 (by decide)
   have E1 := E 1 (by decide)
   have E2 := E 2 (by decide)
   have E3 := E 3 (by decide)
   have E5 := E 5 (by decide)
   have E6 := E 6 (by decide)
   have E7 := E 7 (by decide)
   have E8 := E 8 (by decide)
   have E4 := E 4 (by decide)
   have E9 := E 9 (by decide)
   have E10 := E 10 (by decide)
   have E11 := E 11 (by decide)
   have E13 := E 13 (by decide)
   rw [f1, f2, hi] at hJ
   obtain ⟨z, gz, rfl, rfl, hgz, hB, hJ'⟩ := hJ.store1
   have y0 := hB.cell 0; have q0 := hB.frozen 0
   have y1 := hB.cell 1; have q1 := hB.frozen 1
   have y2 := hB.cell 2; have q2 := hB.frozen 2
   refine wpOp_yes rfl rfl (fun K hK => ?_)
   go_simp
   refine hK.out _ _ ⟨fun h => absurd h (by decide), by simpa using hsz, ?_, ?_, ?_, _, _, _, _, rfl, ?_⟩
   · rw [E0, E1, E2, E3, E5, E6, E7, E8]; exact hl
   · rw [E12, E4, E10]; exact fun _ => ⟨f1, f2⟩
   · rw [E13, E9, E11]; exact hs2
   · rw [E4, E9, E10, E11, E12, E13]; exact by rw [f1, f2]; exact hJ'
  ·
   skip
   simp at ho
   subst ho
   have f1 : listed.getD 9 false = true := by simpa [Region.binds] using hafter ⟨9, .data⟩ (by simp) rfl
   have f2 : listed.getD 11 false = true := by simpa [Region.binds] using hafter ⟨11, .data⟩ (by simp) rfl
   have E : ∀ j, 13 ≠ j → (listed.setIfInBounds 13 true).getD j false = listed.getD j false := fun j h => getD_set_ne h
   have E13 : (listed.setIfInBounds 13 true).getD 13 false = true := getD_set_eq (by omega)
   have E0 := E 0 (by decide)
   have E1 := E 1 (by decide)
   have E2 := E 2 (by decide)
   have E3 := E 3 (by decide)
   have E5 := E 5 (by decide)
   have E6 := E 6 (by decide)
   have E7 := E 7 (by decide)
   have E8 := E 8 (by decide)
   have E4 := E 4 (by decide)
   have E9 := E 9 (by decide)
   have E10 := E 10 (by decide)
   have E11 := E 11 (by decide)
   have E12 := E 12 (by decide)
   rw [f1, f2, hi] at hJ
   obtain ⟨z, gz, rfl, rfl, hgz, hB, hJ'⟩ := hJ.swap.store1
   have y0 := hB.cell 0; have q0 := hB.frozen 0
   have y1 := hB.cell 1; have q1 := hB.frozen 1
   have y2 := hB.cell 2; have q2 := hB.frozen 2
   refine wpOp_yes rfl rfl (fun K hK => ?_)
   go_simp
   refine hK.out _ _ ⟨fun h => absurd h (by decide), by simpa using hsz, ?_, ?_, ?_, _, _, _, _, rfl, ?_⟩
   · rw [E0, E1, E2, E3, E5, E6, E7, E8]; exact hl
   · rw [E12, E4, E10]; exact hs1
   · rw [E13, E9, E11]; exact fun _ => ⟨f1, f2⟩
   · rw [E4, E9, E10, E11, E12, E13]; exact by rw [f1, f2]; exact hJ'.swap
 rotate_left
 ·
  skip
  iterate 8 (refine wpPre_q rfl rfl (fun K hK => ?_); apply Exists.intro; refine ⟨fun w' hw' => ?_, ?_⟩; (focus (go_simp; try rfl)); go_simp; refine hK _ _ ?_; clear hK K)
  refine wpPre_nil ?_
  refine ⟨by kernel_rfl, ⟨by kernel_rfl, by kernel_rfl, by kernel_rfl, by kernel_rfl, by kernel_rfl, by kernel_rfl, by kernel_rfl, by kernel_rfl⟩, ?_, ?_, _, _, _, _, rfl, ?_⟩
  ·
   intro h
   exact nomatch (show false = true from (show _ = false by kernel_rfl).symm.trans h)
  ·
   intro h
   exact nomatch (show false = true from (show _ = false by kernel_rfl).symm.trans h)
  · exact PairJ.start
 rintro listed a wA ⟨hsz, ⟨l0, l1, l2, l3, l5, l6, l7, l8⟩, hs1, hs2, v1, v2, p1, p2, rfl, hJ⟩ hr
 have m0 := l0; rw [Array.getD_eq_getD_getElem?] at m0
 have m1 := l1; rw [Array.getD_eq_getD_getElem?] at m1
 have m2 := l2; rw [Array.getD_eq_getD_getElem?] at m2
 have m3 := l3; rw [Array.getD_eq_getD_getElem?] at m3
 have m5 := l5; rw [Array.getD_eq_getD_getElem?] at m5
 have m6 := l6; rw [Array.getD_eq_getD_getElem?] at m6
 have m7 := l7; rw [Array.getD_eq_getD_getElem?] at m7
 have m8 := l8; rw [Array.getD_eq_getD_getElem?] at m8
 have hno := fun j => List.eq_nil_iff_forall_not_mem.1 hr j
 have F4 : listed.getD 4 false = true := by
  cases h : listed.getD 4 false
  ·
   exfalso
   exact hno 4 (mem_ready.2 ⟨getD_ft (by omega) h, _, rfl, by simp [Region.binds, m0, m1, m2, m3, m5, m6, m7, m8]⟩)
  · rfl
 have G4 := F4; rw [Array.getD_eq_getD_getElem?] at G4
 have F9 : listed.getD 9 false = true := by
  cases h : listed.getD 9 false
  ·
   exfalso
   exact hno 9 (mem_ready.2 ⟨getD_ft (by omega) h, _, rfl, by simp [Region.binds, m0, m1, m2, m3, m5, m6, m7, m8, G4]⟩)
  · rfl
 have G9 := F9; rw [Array.getD_eq_getD_getElem?] at G9
 have F10 : listed.getD 10 false = true := by
  cases h : listed.getD 10 false
  ·
   exfalso
   exact hno 10 (mem_ready.2 ⟨getD_ft (by omega) h, _, rfl, by simp [Region.binds, m0, m1, m2, m3, m5, m6, m7, m8, G4, G9]⟩)
  · rfl
 have G10 := F10; rw [Array.getD_eq_getD_getElem?] at G10
 have F11 : listed.getD 11 false = true := by
  cases h : listed.getD 11 false
  ·
   exfalso
   exact hno 11 (mem_ready.2 ⟨getD_ft (by omega) h, _, rfl, by simp [Region.binds, m0, m1, m2, m3, m5, m6, m7, m8, G4, G9, G10]⟩)
  · rfl
 have G11 := F11; rw [Array.getD_eq_getD_getElem?] at G11
 have F12 : listed.getD 12 false = true := by
  cases h : listed.getD 12 false
  ·
   exfalso
   exact hno 12 (mem_ready.2 ⟨getD_ft (by omega) h, _, rfl, by simp [Region.binds, m0, m1, m2, m3, m5, m6, m7, m8, G4, G9, G10, G11]⟩)
  · rfl
 have G12 := F12; rw [Array.getD_eq_getD_getElem?] at G12
 have F13 : listed.getD 13 false = true := by
  cases h : listed.getD 13 false
  ·
   exfalso
   exact hno 13 (mem_ready.2 ⟨getD_ft (by omega) h, _, rfl, by simp [Region.binds, m0, m1, m2, m3, m5, m6, m7, m8, G4, G9, G10, G11, G12]⟩)
  · rfl
 have G13 := F13; rw [Array.getD_eq_getD_getElem?] at G13
 rw [F4, F9, F10, F11, F12, F13] at hJ
 obtain ⟨za1, za2, Ba1, Ta1, Ba2, Ta2, ga1, ga2, rfl, rfl, rfl, rfl, hba, ba1, ba2, ba3, ba4, ba5, ba6, Ka1, Ka2, ha1, ha2⟩ := hJ.all
 have sA : Below w0.heap.size w0 wA.drew := (below_then s0 hba).drew
 clear hno hr hsz hs1 hs2 l0 m0 l1 m1 l2 m2 l3 m3 l5 m5 l6 m6 l7 m7 l8 m8 F4 G4 F9 G9 F10 G10 F11 G11 F12 G12 F13 G13
 go_wp2
 refine wp_region_rest (S := Below w0.heap.size w0) [0, 1, 2, 3, 5, 6, 7, 8] [12, 13] (fun listed a W => listed.size = 14 ∧ (listed.getD 0 false = true ∧ listed.getD 1 false = true ∧ listed.getD 2 false = true ∧ listed.getD 3 false = true ∧ listed.getD 5 false = true ∧ listed.getD 6 false = true ∧ listed.getD 7 false = true ∧ listed.getD 8 false = true) ∧ (listed.getD 12 false = true → listed.getD 4 false = true ∧ listed.getD 10 false = true) ∧ (listed.getD 13 false = true → listed.getD 9 false = true ∧ listed.getD 11 false = true) ∧ ∃ v1 v2 p1 p2, a = ⟨#[.agg #[.bool x1.neg, .slice x1.a x1.n x1.c, .slice x1.b x1.m x1.d, .bool x2.neg, .slice x2.a x2.n x2.c, .slice x2.b x2.m x2.d], .agg #[.bool x3.neg, .slice x3.a x3.n x3.c, .slice x3.b x3.m x3.d, .bool x4.neg, .slice x4.a x4.n x4.c, .slice x4.b x4.m x4.d], .pointer (some ⟨w.heap.size, 0, none⟩), .pointer (some ⟨g1, 0, none⟩), .pointer (some ⟨g2, 0, none⟩), .pointer (some ⟨ga1, 0, none⟩), .pointer (some ⟨ga2, 0, none⟩), p1, p2, .pointer (some ⟨w.heap.size, 0, none⟩), .agg #[.bool x1.neg, .slice x1.a x1.n x1.c, .slice x1.b x1.m x1.d], .pointer (some ⟨g1, 0, none⟩), .agg #[.bool x3.neg, .slice x3.a x3.n x3.c, .slice x3.b x3.m x3.d], .agg #[.bool za1.neg, .slice za1.a za1.n za1.c, .slice za1.b za1.m za1.d], .pointer (some ⟨w.heap.size, 0, none⟩), .agg #[.bool x1.neg, .slice x1.a x1.n x1.c, .slice x1.b x1.m x1.d], .pointer (some ⟨g1, 3, none⟩), .agg #[.bool x4.neg, .slice x4.a x4.n x4.c, .slice x4.b x4.m x4.d], .agg #[.bool za2.neg, .slice za2.a za2.n za2.c, .slice za2.b za2.m za2.d], .pointer (some ⟨w.heap.size, 3, none⟩), .agg #[.bool x2.neg, .slice x2.a x2.n x2.c, .slice x2.b x2.m x2.d], .pointer (some ⟨g1, 0, none⟩), .agg #[.bool x3.neg, .slice x3.a x3.n x3.c, .slice x3.b x3.m x3.d], v1, .pointer (some ⟨w.heap.size, 3, none⟩), .agg #[.bool x2.neg, .slice x2.a x2.n x2.c, .slice x2.b x2.m x2.d], .pointer (some ⟨g1, 3, none⟩), .agg #[.bool x4.neg, .slice x4.a x4.n x4.c, .slice x4.b x4.m x4.d], v2, undef, undef, undef, undef, undef, undef, undef, undef, undef, undef, undef, undef, undef], []⟩ ∧ PairJ 43 wA.drew (fun z V => QK (k + k) V z (b * c)) (fun z V => QK (k + k) V z (b * d)) (listed.getD 4 false) (listed.getD 9 false) (listed.getD 10 false) (listed.getD 11 false) (listed.getD 12 false) (listed.getD 13 false) v1 v2 p1 p2 W) (by kernel_rfl) (by kernel_rfl) (by kernel_rfl) (by kernel_rfl) (fun d _ _ _ _ h => by cases d <;> exact h) sA ?_ ?_ ?_
 ·
  rintro listed a W i o ⟨hsz, hl, hs1, hs2, v1, v2, p1, p2, rfl, hJ⟩ ho hi0 hafter
  have hi := getD_tf hi0
  have hlt : i < 14 := (Array.getElem?_eq_some_iff.1 ho).1
  have sW : Below w0.heap.size w0 W := below_then sA hJ.below
  have hwhich : i = 4 ∨ i = 9 ∨ i = 10 ∨ i = 11 ∨ i = 12 ∨ i = 13 := by
   obtain ⟨l0, l1, l2, l3, l5, l6, l7, l8⟩ := hl
   have n0 : i ≠ 0 := by rintro rfl; rw [l0] at hi; cases hi
   have n1 : i ≠ 1 := by rintro rfl; rw [l1] at hi; cases hi
   have n2 : i ≠ 2 := by rintro rfl; rw [l2] at hi; cases hi
   have n3 : i ≠ 3 := by rintro rfl; rw [l3] at hi; cases hi
   have n5 : i ≠ 5 := by rintro rfl; rw [l5] at hi; cases hi
   have n6 : i ≠ 6 := by rintro rfl; rw [l6] at hi; cases hi
   have n7 : i ≠ 7 := by rintro rfl; rw [l7] at hi; cases hi
   have n8 : i ≠ 8 := by rintro rfl; rw [l8] at hi; cases hi
   omega
  rcases hwhich with rfl | rfl | rfl | rfl | rfl | rfl
  ·
   skip
   have e12 : listed.getD 12 false = false := by
    cases h : listed.getD 12 false
    · rfl
    · have := (hs1 h).1; rw [hi] at this; cases this
   have E : ∀ j, 4 ≠ j → (listed.setIfInBounds 4 true).getD j false = listed.getD j false := fun j h => getD_set_ne h
   have E4 : (listed.setIfInBounds 4 true).getD 4 false = true := getD_set_eq (by omega)
   have E0 := E 0 (by decide)
   have E1 := E 1 (by decide)
   have E2 := E 2 (by decide)
   have E3 := E 3 (by decide)
   have E5 := E 5 (by decide)
   have E6 := E 6 (by decide)
   have E7 := E 7 (by decide)
   have E8 := E 8 (by decide)
   have E9 := E 9 (by decide)
   have E10 := E 10 (by decide)
   have E11 := E 11 (by decide)
   have E12 := E 12 (by decide)
   have E13 := E 13 (by decide)
   refine wpOp_yes rfl rfl (fun K hK => ?_)
   go_simp
   refine (mul_q x2 x3 b c k k W (R2.out _ (below_then hw0 sW)) (R3.out _ (below_then hw0 sW)) (by omega) (by omega)).mono ?_
   rintro r w1 ⟨z, rfl, hz, hb⟩
   dsimp only
   rw [hi, e12] at hJ
   refine hK.out _ _ ⟨fun _ => below_then sW hb, by simpa using hsz, ?_, ?_, ?_, _, _, _, _, rfl, ?_⟩
   · rw [E0, E1, E2, E3, E5, E6, E7, E8]; exact hl
   · rw [E12, E4, E10]; rw [e12]; exact fun h => nomatch h
   · rw [E13, E9, E11]; exact hs2
   · rw [E4, E9, E10, E11, E12, E13]; exact by rw [e12]; exact hJ.call1 hb z hz
  ·
   skip
   have e13 : listed.getD 13 false = false := by
    cases h : listed.getD 13 false
    · rfl
    · have := (hs2 h).1; rw [hi] at this; cases this
   have E : ∀ j, 9 ≠ j → (listed.setIfInBounds 9 true).getD j false = listed.getD j false := fun j h => getD_set_ne h
   have E9 : (listed.setIfInBounds 9 true).getD 9 false = true := getD_set_eq (by omega)
   have E0 := E 0 (by decide)
   have E1 := E 1 (by decide)
   have E2 := E 2 (by decide)
   have E3 := E 3 (by decide)
   have E5 := E 5 (by decide)
   have E6 := E 6 (by decide)
   have E7 := E 7 (by decide)
   have E8 := E 8 (by decide)
   have E4 := E 4 (by decide)
   have E10 := E 10 (by decide)
   have E11 := E 11 (by decide)
   have E12 := E 12 (by decide)
   have E13 := E 13 (by decide)
   refine wpOp_yes rfl rfl (fun K hK => ?_)
   go_simp
   refine (mul_q x2 x4 b d k k W (R2.out _ (below_then hw0 sW)) (R4.out _ (below_then hw0 sW)) (by omega) (by omega)).mono ?_
   rintro r w1 ⟨z, rfl, hz, hb⟩
   dsimp only
   rw [hi, e13] at hJ
   refine hK.out _ _ ⟨fun _ => below_then sW hb, by simpa using hsz, ?_, ?_, ?_, _, _, _, _, rfl, ?_⟩
   · rw [E0, E1, E2, E3, E5, E6, E7, E8]; exact hl
   · rw [E12, E4, E10]; exact hs1
   · rw [E13, E9, E11]; rw [e13]; exact fun h => nomatch h
   · rw [E4, E9, E10, E11, E12, E13]; exact by rw [e13]; exact (hJ.swap.call1 hb z hz).swap
  ·
   skip
   have e12 : listed.getD 12 false = false := by
    cases h : listed.getD 12 false
    · rfl
    · have := (hs1 h).2; rw [hi] at this; cases this
   have E : ∀ j, 10 ≠ j → (listed.setIfInBounds 10 true).getD j false = listed.getD j false := fun j h => getD_set_ne h
   have E10 : (listed.setIfInBounds 10 true).getD 10 false = true := getD_set_eq (by omega)
   have E0 := E 0 (by decide)
   have E1 := E 1 (by decide)
   have E2 := E 2 (by decide)
   have E3 := E 3 (by decide)
   have E5 := E 5 (by decide)
   have E6 := E 6 (by decide)
   have E7 := E 7 (by decide)
   have E8 := E 8 (by decide)
   have E4 := E 4 (by decide)
   have E9 := E 9 (by decide)
   have E11 := E 11 (by decide)
   have E12 := E 12 (by decide)
   have E13 := E 13 (by decide)
   refine wpOp_yes rfl rfl (fun K hK => ?_)
   go_simp
   rw [hi, e12] at hJ
   refine hK.out _ _ ⟨fun _ => sW.alloc sW.size _, by simpa using hsz, ?_, ?_, ?_, _, _, _, _, rfl, ?_⟩
   · rw [E0, E1, E2, E3, E5, E6, E7, E8]; exact hl
   · rw [E12, E4, E10]; rw [e12]; exact fun h => nomatch h
   · rw [E13, E9, E11]; exact hs2
   · rw [E4, E9, E10, E11, E12, E13]; exact by rw [e12]; exact hJ.new1
  ·
   skip
   have e13 : listed.getD 13 false = false := by
    cases h : listed.getD 13 false
    · rfl
    · have := (hs2 h).2; rw [hi] at this; cases this
   have E : ∀ j, 11 ≠ j → (listed.setIfInBounds 11 true).getD j false = listed.getD j false := fun j h => getD_set_ne h
   have E11 : (listed.setIfInBounds 11 true).getD 11 false = true := getD_set_eq (by omega)
   have E0 := E 0 (by decide)
   have E1 := E 1 (by decide)
   have E2 := E 2 (by decide)
   have E3 := E 3 (by decide)
   have E5 := E 5 (by decide)
   have E6 := E 6 (by decide)
   have E7 := E 7 (by decide)
   have E8 := E 8 (by decide)
   have E4 := E 4 (by decide)
   have E9 := E 9 (by decide)
   have E10 := E 10 (by decide)
   have E12 := E 12 (by decide)
   have E13 := E 13 (by decide)
   refine wpOp_yes rfl rfl (fun K hK => ?_)
   go_simp
   rw [hi, e13] at hJ
   refine hK.out _ _ ⟨fun _ => sW.alloc sW.size _, by simpa using hsz, ?_, ?_, ?_, _, _, _, _, rfl, ?_⟩
   · rw [E0, E1, E2, E3, E5, E6, E7, E8]; exact hl
   · rw [E12, E4, E10]; exact hs1
   · rw [E13, E9, E11]; rw [e13]; exact fun h => nomatch h
   · rw [E4, E9, E10, E11, E12, E13]; exact by rw [e13]; exact hJ.swap.new1.swap
  ·
   skip
   simp at ho
   subst ho
   have f1 : listed.getD 4 false = true := by simpa [Region.binds] using hafter ⟨4, .data⟩ (by simp) rfl
   have f2 : listed.getD 10 false = true := by simpa [Region.binds] using hafter ⟨10, .data⟩ (by simp) rfl
   have E : ∀ j, 12 ≠ j → (listed.setIfInBounds 12 true).getD j false = listed.getD j false := fun j h => getD_set_ne h
   have E12 : (listed.setIfInBounds 12 true).getD 12 false = true := getD_set_eq (by omega)
   have E0 := E 0 (by decide)
   have E1 := E 1 (by decide)
   have E2 := E 2 (by decide)
   have E3 := E 3 (by decide)
   have E5 := E 5 (by decide)
   have E6 := E 6 (by decide)
   have E7 := E 7 (by decide)
   have E8 := E 8 (by decide)
   have E4 := E 4 (by decide)
   have E9 := E 9 (by decide)
   have E10 := E 10 (by decide)
   have E11 := E 11 (by decide)
   have E13 := E 13 (by decide)
   rw [f1, f2, hi] at hJ
   obtain ⟨z, gz, rfl, rfl, hgz, hB, hJ'⟩ := hJ.store1
   have y0 := hB.cell 0; have q0 := hB.frozen 0
   have y1 := hB.cell 1; have q1 := hB.frozen 1
   have y2 := hB.cell 2; have q2 := hB.frozen 2
   refine wpOp_yes rfl rfl (fun K hK => ?_)
   go_simp
   refine hK.out _ _ ⟨fun h => absurd h (by decide), by simpa using hsz, ?_, ?_, ?_, _, _, _, _, rfl, ?_⟩
   · rw [E0, E1, E2, E3, E5, E6, E7, E8]; exact hl
   · rw [E12, E4, E10]; exact fun _ => ⟨f1, f2⟩
   · rw [E13, E9, E11]; exact hs2
   · rw [E4, E9, E10, E11, E12, E13]; exact by rw [f1, f2]; exact hJ'
  ·
   skip
   simp at ho
   subst ho
   have f1 : listed.getD 9 false = true := by simpa [Region.binds] using hafter ⟨9, .data⟩ (by simp) rfl
   have f2 : listed.getD 11 false = true := by simpa [Region.binds] using hafter ⟨11, .data⟩ (by simp) rfl
   have E : ∀ j, 13 ≠ j → (listed.setIfInBounds 13 true).getD j false = listed.getD j false := fun j h => getD_set_ne h
   have E13 : (listed.setIfInBounds 13 true).getD 13 false = true := getD_set_eq (by omega)
   have E0 := E 0 (by decide)
   have E1 := E 1 (by decide)
   have E2 := E 2 (by decide)
   have E3 := E 3 (by decide)
   have E5 := E 5 (by decide)
   have E6 := E 6 (by decide)
   have E7 := E 7 (by decide)
   have E8 := E 8 (by decide)
   have E4 := E 4 (by decide)
   have E9 := E 9 (by decide)
   have E10 := E 10 (by decide)
   have E11 := E 11 (by decide)
   have E12 := E 12 (by decide)
   rw [f1, f2, hi] at hJ
   obtain ⟨z, gz, rfl, rfl, hgz, hB, hJ'⟩ := hJ.swap.store1
   have y0 := hB.cell 0; have q0 := hB.frozen 0
   have y1 := hB.cell 1; have q1 := hB.frozen 1
   have y2 := hB.cell 2; have q2 := hB.frozen 2
   refine wpOp_yes rfl rfl (fun K hK => ?_)
   go_simp
   refine hK.out _ _ ⟨fun h => absurd h (by decide), by simpa using hsz, ?_, ?_, ?_, _, _, _, _, rfl, ?_⟩
   · rw [E0, E1, E2, E3, E5, E6, E7, E8]; exact hl
   · rw [E12, E4, E10]; exact hs1
   · rw [E13, E9, E11]; exact fun _ => ⟨f1, f2⟩
   · rw [E4, E9, E10, E11, E12, E13]; exact by rw [f1, f2]; exact hJ'.swap
 rotate_left
 ·
  skip
  iterate 8 (refine wpPre_q rfl rfl (fun K hK => ?_); apply Exists.intro; refine ⟨fun w' hw' => ?_, ?_⟩; (focus (go_simp; try rfl)); go_simp; refine hK _ _ ?_; clear hK K)
  refine wpPre_nil ?_
  refine ⟨by kernel_rfl, ⟨by kernel_rfl, by kernel_rfl, by kernel_rfl, by kernel_rfl, by kernel_rfl, by kernel_rfl, by kernel_rfl, by kernel_rfl⟩, ?_, ?_, _, _, _, _, rfl, ?_⟩
  ·
   intro h
   exact nomatch (show false = true from (show _ = false by kernel_rfl).symm.trans h)
  ·
   intro h
   exact nomatch (show false = true from (show _ = false by kernel_rfl).symm.trans h)
  · exact PairJ.start
 rintro listed a wB ⟨hsz, ⟨l0, l1, l2, l3, l5, l6, l7, l8⟩, hs1, hs2, v1, v2, p1, p2, rfl, hJ⟩ hr
 have m0 := l0; rw [Array.getD_eq_getD_getElem?] at m0
 have m1 := l1; rw [Array.getD_eq_getD_getElem?] at m1
 have m2 := l2; rw [Array.getD_eq_getD_getElem?] at m2
 have m3 := l3; rw [Array.getD_eq_getD_getElem?] at m3
 have m5 := l5; rw [Array.getD_eq_getD_getElem?] at m5
 have m6 := l6; rw [Array.getD_eq_getD_getElem?] at m6
 have m7 := l7; rw [Array.getD_eq_getD_getElem?] at m7
 have m8 := l8; rw [Array.getD_eq_getD_getElem?] at m8
 have hno := fun j => List.eq_nil_iff_forall_not_mem.1 hr j
 have F4 : listed.getD 4 false = true := by
  cases h : listed.getD 4 false
  ·
   exfalso
   exact hno 4 (mem_ready.2 ⟨getD_ft (by omega) h, _, rfl, by simp [Region.binds, m0, m1, m2, m3, m5, m6, m7, m8]⟩)
  · rfl
 have G4 := F4; rw [Array.getD_eq_getD_getElem?] at G4
 have F9 : listed.getD 9 false = true := by
  cases h : listed.getD 9 false
  ·
   exfalso
   exact hno 9 (mem_ready.2 ⟨getD_ft (by omega) h, _, rfl, by simp [Region.binds, m0, m1, m2, m3, m5, m6, m7, m8, G4]⟩)
  · rfl
 have G9 := F9; rw [Array.getD_eq_getD_getElem?] at G9
 have F10 : listed.getD 10 false = true := by
  cases h : listed.getD 10 false
  ·
   exfalso
   exact hno 10 (mem_ready.2 ⟨getD_ft (by omega) h, _, rfl, by simp [Region.binds, m0, m1, m2, m3, m5, m6, m7, m8, G4, G9]⟩)
  · rfl
 have G10 := F10; rw [Array.getD_eq_getD_getElem?] at G10
 have F11 : listed.getD 11 false = true := by
  cases h : listed.getD 11 false
  ·
   exfalso
   exact hno 11 (mem_ready.2 ⟨getD_ft (by omega) h, _, rfl, by simp [Region.binds, m0, m1, m2, m3, m5, m6, m7, m8, G4, G9, G10]⟩)
  · rfl
 have G11 := F11; rw [Array.getD_eq_getD_getElem?] at G11
 have F12 : listed.getD 12 false = true := by
  cases h : listed.getD 12 false
  ·
   exfalso
   exact hno 12 (mem_ready.2 ⟨getD_ft (by omega) h, _, rfl, by simp [Region.binds, m0, m1, m2, m3, m5, m6, m7, m8, G4, G9, G10, G11]⟩)
  · rfl
 have G12 := F12; rw [Array.getD_eq_getD_getElem?] at G12
 have F13 : listed.getD 13 false = true := by
  cases h : listed.getD 13 false
  ·
   exfalso
   exact hno 13 (mem_ready.2 ⟨getD_ft (by omega) h, _, rfl, by simp [Region.binds, m0, m1, m2, m3, m5, m6, m7, m8, G4, G9, G10, G11, G12]⟩)
  · rfl
 have G13 := F13; rw [Array.getD_eq_getD_getElem?] at G13
 rw [F4, F9, F10, F11, F12, F13] at hJ
 obtain ⟨zb1, zb2, Bb1, Tb1, Bb2, Tb2, gb1, gb2, rfl, rfl, rfl, rfl, hbb, bb1, bb2, bb3, bb4, bb5, bb6, Kb1, Kb2, hb1, hb2⟩ := hJ.all
 have sB : Below w0.heap.size w0 wB.drew := (below_then sA hbb).drew
 clear hno hr hsz hs1 hs2 l0 m0 l1 m1 l2 m2 l3 m3 l5 m5 l6 m6 l7 m7 l8 m8 F4 G4 F9 G9 F10 G10 F11 G11 F12 G12 F13 G13
 have RR : Kp (fun V => AllQ (k + k) V [za1, za2, zb1, zb2] [a0 * c, a0 * d, b * c, b * d]) w0.heap.size wB.heap.size wB := by
  have szA : w0.heap.size ≤ wA.heap.size := sA.size
  have szB : wA.heap.size ≤ wB.heap.size := hbb.size
  refine AllQ.four ?_ ?_ ?_ ?_
  · exact ((Ka1.drew.call hbb)).wide (by simpa using ba1) (by omega)
  · exact ((Ka2.drew.call hbb)).wide (by simpa using ba2) (by omega)
  · exact Kb1.wide (by have : wA.heap.size ≤ Bb1 := bb1; omega) (by omega)
  · exact Kb2.wide (by have : wA.heap.size ≤ Bb2 := bb2; omega) (by omega)
 have hz : Blk wB g2 73 #[.bool false, .slice none 0 0, .slice none 0 0, .bool false, .slice none 0 0, .slice none 0 0] := ((h2.drew.below' hba).drew).below' hbb
 have lA : g2 < wB.heap.size := Nat.lt_of_lt_of_le hgw sB.size
 have ca1 := (ha1.drew).below' hbb; have ca2 := (ha2.drew).below' hbb; have cb1 := hb1; have cb2 := hb2
 have sB' : Below w0.heap.size w0 wB := below_then sA hbb
 have hwz := below_then hw0 sB'
 have hwg : w.heap.size ≤ w0.heap.size := hw0.size
 clear sB sB' Ka1 Ka2 Kb1 Kb2 ha1 ha2 hb1 hb2 hJ hbb bb1 bb2 bb3 bb4 bb5 bb6 ba1 ba2 ba3 ba4 ba5 ba6 hba sA s0 hw0 h0 h1 h2
 clear k0_0 k1_0 k0_1 k1_1 k0_2 k1_2 k0_3 k1_3 k0_4 k1_4 k0_5 k1_5
 go_wp2
 revert RR hz ca1 ca2 cb1 cb2 hwz lA
 generalize wB = wz
 intro RR hz lA ca1 ca2 cb1 cb2 hwz
 replace RR := Lib.hid RR
 have ca1_0 := held (ca1.cell 0); have ca1_1 := held (ca1.cell 1); have ca1_2 := held (ca1.cell 2)
 have ca2_0 := held (ca2.cell 0); have ca2_1 := held (ca2.cell 1); have ca2_2 := held (ca2.cell 2)
 have cb1_0 := held (cb1.cell 0); have cb1_1 := held (cb1.cell 1); have cb1_2 := held (cb1.cell 2)
 have cb2_0 := held (cb2.cell 0); have cb2_1 := held (cb2.cell 1); have cb2_2 := held (cb2.cell 2)
 have HZ := Lib.hid (fun W (hW : Below wz.heap.size wz W) => hz.below' hW)
 clear ca1 ca2 cb1 cb2 hz
 have s0 : Below wz.heap.size wz wz.drew := (Below.refl _ _).drew
 obtain ⟨v0, hv0⟩ : ∃ v, wz.drew = v := ⟨_, rfl⟩
 refine wp_region_tree (S := Below wz.heap.size wz) (.q 0 (.q 1 (.q 2 (.q 3 (.q 6 (.q 7 (.q 8 (.q 9 (.two 4 (.two 5 (.l 10 (.l 11 (.q 12 (.t 13 .nil)))) 10 (.l 5 (.l 11 (.q 12 (.t 13 .nil))))) 10 (.l 4 (.l 5 (.l 11 (.q 12 (.t 13 .nil)))))))))))))) [13] (by kernel_rfl) (by kernel_rfl) (by kernel_rfl) (fun d _ _ _ _ h => by cases d <;> exact h) s0 ?_
 rw [hv0] at s0 ⊢
 iterate 8 (refine wpMT_q rfl rfl (fun K hK => ?_); apply Exists.intro; refine ⟨fun w' hw' => ?_, ?_⟩; (focus (go_simp; try rfl)); go_simp; refine hK _ _ ?_; clear hK K)
 refine wpMT_two ?_ ?_
 ·
  skip
  refine wpMT_l rfl rfl (fun K hK => ?_)
  go_simp
  refine hK.out _ _ (s0.alloc s0.size _) (fun _ => ?_)
  clear hK K
  refine world_gen (fun W => Blk W v0.heap.size 43 #[.bool za2.neg, .slice za2.a za2.n za2.c, .slice za2.b za2.m za2.d, .bool zb1.neg, .slice zb1.a zb1.n zb1.c, .slice zb1.b zb1.m zb1.d, .bool zb2.neg, .slice zb2.a zb2.n zb2.c, .slice zb2.b zb2.m zb2.d] ∧ Below wz.heap.size wz W) ⟨by ((repeat first|with_reducible assumption|((with_reducible apply Blk.farAt);focus omega)|with_reducible apply Blk.setb|((with_reducible apply Blk.newAt);focus (simp;done))|with_reducible apply Blk.alloc|with_reducible apply Blk.drew);all_goals (show @Eq (Array Value) _ _;rfl)), s0.alloc s0.size _⟩ ?_
  rintro v1 ⟨hA, s1⟩
  obtain ⟨gA, egA⟩ : ∃ q, v0.heap.size = q := ⟨_, rfl⟩
  rw [egA] at hA ⊢
  clear egA
  refine wpMT_two ?_ ?_
  ·
   skip
   refine wpMT_l rfl rfl (fun K hK => ?_)
   go_simp
   refine (leastL_q za1 (a0 * c) [za2, zb1, zb2] [a0 * d, b * c, b * d] (k + k) gA 3 v1 (RR.out.call s1).now (RowQ.three hA) (Nat.le_of_ble_eq_true rfl) (by omega)).mono ?_
   rintro r v2 ⟨⟨z1, rfl, H1⟩, hb2⟩
   dsimp only
   have s2 := below_then s1 hb2
   refine hK.out _ _ s2 (fun _ => ?_)
   clear hK K
   clear hA
   refine wpMT_l rfl rfl (fun K hK => ?_)
   go_simp
   refine hK.out _ _ (s2.alloc s2.size _) (fun _ => ?_)
   clear hK K
   refine world_gen (fun W => Blk W v2.heap.size 43 #[.bool za2.neg, .slice za2.a za2.n za2.c, .slice za2.b za2.m za2.d, .bool zb1.neg, .slice zb1.a zb1.n zb1.c, .slice zb1.b zb1.m zb1.d, .bool zb2.neg, .slice zb2.a zb2.n zb2.c, .slice zb2.b zb2.m zb2.d] ∧ Below wz.heap.size wz W) ⟨by ((repeat first|with_reducible assumption|((with_reducible apply Blk.farAt);focus omega)|with_reducible apply Blk.setb|((with_reducible apply Blk.newAt);focus (simp;done))|with_reducible apply Blk.alloc|with_reducible apply Blk.drew);all_goals (show @Eq (Array Value) _ _;rfl)), s2.alloc s2.size _⟩ ?_
   rintro v3 ⟨hB, s3⟩
   obtain ⟨gB, egB⟩ : ∃ q, v2.heap.size = q := ⟨_, rfl⟩
   rw [egB] at hB ⊢
   clear egB
   refine wpMT_l rfl rfl (fun K hK => ?_)
   go_simp
   refine (greatL_q za1 (a0 * c) [za2, zb1, zb2] [a0 * d, b * c, b * d] (k + k) gB 3 v3 (RR.out.call s3).now (RowQ.three hB) (Nat.le_of_ble_eq_true rfl) (by omega)).mono ?_
   rintro r v4 ⟨⟨z2, rfl, H2⟩, hb4⟩
   dsimp only
   have s4 := below_then s3 hb4
   refine hK.out _ _ s4 (fun _ => ?_)
   clear hK K
   clear hB
   iterate 1 (refine wpMT_q rfl rfl (fun K hK => ?_); apply Exists.intro; refine ⟨fun w' hw' => ?_, ?_⟩; (focus (go_simp; try rfl)); go_simp; refine hK _ _ ?_; clear hK K)
   have hz := HZ.out _ s4
   have N1 : Kp (fun V => QK (k + k) V z1 (leastQ (a0 * c) [a0 * d, b * c, b * d])) w0.heap.size wz.heap.size v4 := (RR.out.call s4).imp (fun V h => H1 _ _ h)
   have N2 : Kp (fun V => QK (k + k) V z2 (greatQ (a0 * c) [a0 * d, b * c, b * d])) w0.heap.size wz.heap.size v4 := (RR.out.call s4).imp (fun V h => H2 _ _ h)
   have hwF := below_then hwz s4
   have zT : wz.heap.size ≤ v4.heap.size := s4.size
   clear RR H1 H2 HZ
   have y0 := hz.cell 0; have f0 := hz.frozen 0; have y1 := hz.cell 1; have f1 := hz.frozen 1; have y2 := hz.cell 2; have f2 := hz.frozen 2; have y3 := hz.cell 3; have f3 := hz.frozen 3; have y4 := hz.cell 4; have f4 := hz.frozen 4; have y5 := hz.cell 5; have f5 := hz.frozen 5
   refine wpMT_t rfl rfl (fun K hK => ?_)
   go_simp
   refine hK.out _ _ ?_
   clear hK K
   refine wpMT_nil ?_
   go_wp2
   refine world_gen (fun W => Blk W g2 73 #[.bool z1.neg, .slice z1.a z1.n z1.c, .slice z1.b z1.m z1.d, .bool z2.neg, .slice z2.a z2.n z2.c, .slice z2.b z2.m z2.d] ∧ Below w.heap.size w W ∧ Kp (fun V => QK (k + k) V z1 (leastQ (a0 * c) [a0 * d, b * c, b * d])) w0.heap.size W.heap.size W ∧ Kp (fun V => QK (k + k) V z2 (greatQ (a0 * c) [a0 * d, b * c, b * d])) w0.heap.size W.heap.size W) ⟨by ((repeat first|with_reducible assumption|((with_reducible apply Blk.farAt);focus omega)|with_reducible apply Blk.setb|((with_reducible apply Blk.newAt);focus (simp;done))|with_reducible apply Blk.alloc|with_reducible apply Blk.drew);all_goals (show @Eq (Array Value) _ _;rfl)), by go_grown, ?_, ?_⟩ ?_
   ·
    refine Kp.wide (B := w0.heap.size) (T := wz.heap.size) ?_ (Nat.le_refl _) (by simpa using zT)
    iterate 6 (with_reducible refine Kp.setc (.inl hgw) ?_)
    exact N1
   ·
    refine Kp.wide (B := w0.heap.size) (T := wz.heap.size) ?_ (Nat.le_refl _) (by simpa using zT)
    iterate 6 (with_reducible refine Kp.setc (.inl hgw) ?_)
    exact N2
   rintro wF ⟨hF, hwF, L0, L1⟩
   have e0 := hF.cell 0; have e1 := hF.cell 1; have e2 := hF.cell 2; have e3 := hF.cell 3; have e4 := hF.cell 4; have e5 := hF.cell 5
   refine bodyPost_ret (v := .agg #[.bool z1.neg, .slice z1.a z1.n z1.c, .slice z1.b z1.m z1.d, .bool z2.neg, .slice z2.a z2.n z2.c, .slice z2.b z2.m z2.d]) (by simp [results, Tryz.results79, go_sem, e0, e1, e2, e3, e4, e5]) rfl ?_
   exact ⟨z1, z2, rfl, L0.wide hwg (Nat.le_refl _), L1.wide hwg (Nat.le_refl _), hwF⟩
  ·
   skip
   refine wpMT_l rfl rfl (fun K hK => ?_)
   go_simp
   refine hK.out _ _ (s1.alloc s1.size _) (fun _ => ?_)
   clear hK K
   refine world_gen (fun W => Blk W v1.heap.size 43 #[.bool za2.neg, .slice za2.a za2.n za2.c, .slice za2.b za2.m za2.d, .bool zb1.neg, .slice zb1.a zb1.n zb1.c, .slice zb1.b zb1.m zb1.d, .bool zb2.neg, .slice zb2.a zb2.n zb2.c, .slice zb2.b zb2.m zb2.d] ∧ Blk W gA 43 #[.bool za2.neg, .slice za2.a za2.n za2.c, .slice za2.b za2.m za2.d, .bool zb1.neg, .slice zb1.a zb1.n zb1.c, .slice zb1.b zb1.m zb1.d, .bool zb2.neg, .slice zb2.a zb2.n zb2.c, .slice zb2.b zb2.m zb2.d] ∧ Below wz.heap.size wz W) ⟨by ((repeat first|with_reducible assumption|((with_reducible apply Blk.farAt);focus omega)|with_reducible apply Blk.setb|((with_reducible apply Blk.newAt);focus (simp;done))|with_reducible apply Blk.alloc|with_reducible apply Blk.drew);all_goals (show @Eq (Array Value) _ _;rfl)), by ((repeat first|with_reducible assumption|((with_reducible apply Blk.farAt);focus omega)|with_reducible apply Blk.setb|((with_reducible apply Blk.newAt);focus (simp;done))|with_reducible apply Blk.alloc|with_reducible apply Blk.drew);all_goals (show @Eq (Array Value) _ _;rfl)), s1.alloc s1.size _⟩ ?_
   clear hA
   rintro v2 ⟨hB, hA, s2⟩
   obtain ⟨gB, egB⟩ : ∃ q, v1.heap.size = q := ⟨_, rfl⟩
   rw [egB] at hB ⊢
   clear egB
   refine wpMT_l rfl rfl (fun K hK => ?_)
   go_simp
   refine (leastL_q za1 (a0 * c) [za2, zb1, zb2] [a0 * d, b * c, b * d] (k + k) gA 3 v2 (RR.out.call s2).now (RowQ.three hA) (Nat.le_of_ble_eq_true rfl) (by omega)).mono ?_
   rintro r v3 ⟨⟨z1, rfl, H1⟩, hb3⟩
   dsimp only
   have s3 := below_then s2 hb3
   refine hK.out _ _ s3 (fun _ => ?_)
   clear hK K
   replace hB := hB.below' hb3
   clear hA
   refine wpMT_l rfl rfl (fun K hK => ?_)
   go_simp
   refine (greatL_q za1 (a0 * c) [za2, zb1, zb2] [a0 * d, b * c, b * d] (k + k) gB 3 v3 (RR.out.call s3).now (RowQ.three hB) (Nat.le_of_ble_eq_true rfl) (by omega)).mono ?_
   rintro r v4 ⟨⟨z2, rfl, H2⟩, hb4⟩
   dsimp only
   have s4 := below_then s3 hb4
   refine hK.out _ _ s4 (fun _ => ?_)
   clear hK K
   clear hB
   iterate 1 (refine wpMT_q rfl rfl (fun K hK => ?_); apply Exists.intro; refine ⟨fun w' hw' => ?_, ?_⟩; (focus (go_simp; try rfl)); go_simp; refine hK _ _ ?_; clear hK K)
   have hz := HZ.out _ s4
   have N1 : Kp (fun V => QK (k + k) V z1 (leastQ (a0 * c) [a0 * d, b * c, b * d])) w0.heap.size wz.heap.size v4 := (RR.out.call s4).imp (fun V h => H1 _ _ h)
   have N2 : Kp (fun V => QK (k + k) V z2 (greatQ (a0 * c) [a0 * d, b * c, b * d])) w0.heap.size wz.heap.size v4 := (RR.out.call s4).imp (fun V h => H2 _ _ h)
   have hwF := below_then hwz s4
   have zT : wz.heap.size ≤ v4.heap.size := s4.size
   clear RR H1 H2 HZ
   have y0 := hz.cell 0; have f0 := hz.frozen 0; have y1 := hz.cell 1; have f1 := hz.frozen 1; have y2 := hz.cell 2; have f2 := hz.frozen 2; have y3 := hz.cell 3; have f3 := hz.frozen 3; have y4 := hz.cell 4; have f4 := hz.frozen 4; have y5 := hz.cell 5; have f5 := hz.frozen 5
   refine wpMT_t rfl rfl (fun K hK => ?_)
   go_simp
   refine hK.out _ _ ?_
   clear hK K
   refine wpMT_nil ?_
   go_wp2
   refine world_gen (fun W => Blk W g2 73 #[.bool z1.neg, .slice z1.a z1.n z1.c, .slice z1.b z1.m z1.d, .bool z2.neg, .slice z2.a z2.n z2.c, .slice z2.b z2.m z2.d] ∧ Below w.heap.size w W ∧ Kp (fun V => QK (k + k) V z1 (leastQ (a0 * c) [a0 * d, b * c, b * d])) w0.heap.size W.heap.size W ∧ Kp (fun V => QK (k + k) V z2 (greatQ (a0 * c) [a0 * d, b * c, b * d])) w0.heap.size W.heap.size W) ⟨by ((repeat first|with_reducible assumption|((with_reducible apply Blk.farAt);focus omega)|with_reducible apply Blk.setb|((with_reducible apply Blk.newAt);focus (simp;done))|with_reducible apply Blk.alloc|with_reducible apply Blk.drew);all_goals (show @Eq (Array Value) _ _;rfl)), by go_grown, ?_, ?_⟩ ?_
   ·
    refine Kp.wide (B := w0.heap.size) (T := wz.heap.size) ?_ (Nat.le_refl _) (by simpa using zT)
    iterate 6 (with_reducible refine Kp.setc (.inl hgw) ?_)
    exact N1
   ·
    refine Kp.wide (B := w0.heap.size) (T := wz.heap.size) ?_ (Nat.le_refl _) (by simpa using zT)
    iterate 6 (with_reducible refine Kp.setc (.inl hgw) ?_)
    exact N2
   rintro wF ⟨hF, hwF, L0, L1⟩
   have e0 := hF.cell 0; have e1 := hF.cell 1; have e2 := hF.cell 2; have e3 := hF.cell 3; have e4 := hF.cell 4; have e5 := hF.cell 5
   refine bodyPost_ret (v := .agg #[.bool z1.neg, .slice z1.a z1.n z1.c, .slice z1.b z1.m z1.d, .bool z2.neg, .slice z2.a z2.n z2.c, .slice z2.b z2.m z2.d]) (by simp [results, Tryz.results79, go_sem, e0, e1, e2, e3, e4, e5]) rfl ?_
   exact ⟨z1, z2, rfl, L0.wide hwg (Nat.le_refl _), L1.wide hwg (Nat.le_refl _), hwF⟩
 ·
  skip
  refine wpMT_l rfl rfl (fun K hK => ?_)
  go_simp
  refine hK.out _ _ (s0.alloc s0.size _) (fun _ => ?_)
  clear hK K
  refine world_gen (fun W => Blk W v0.heap.size 43 #[.bool za2.neg, .slice za2.a za2.n za2.c, .slice za2.b za2.m za2.d, .bool zb1.neg, .slice zb1.a zb1.n zb1.c, .slice zb1.b zb1.m zb1.d, .bool zb2.neg, .slice zb2.a zb2.n zb2.c, .slice zb2.b zb2.m zb2.d] ∧ Below wz.heap.size wz W) ⟨by ((repeat first|with_reducible assumption|((with_reducible apply Blk.farAt);focus omega)|with_reducible apply Blk.setb|((with_reducible apply Blk.newAt);focus (simp;done))|with_reducible apply Blk.alloc|with_reducible apply Blk.drew);all_goals (show @Eq (Array Value) _ _;rfl)), s0.alloc s0.size _⟩ ?_
  rintro v1 ⟨hB, s1⟩
  obtain ⟨gB, egB⟩ : ∃ q, v0.heap.size = q := ⟨_, rfl⟩
  rw [egB] at hB ⊢
  clear egB
  refine wpMT_l rfl rfl (fun K hK => ?_)
  go_simp
  refine hK.out _ _ (s1.alloc s1.size _) (fun _ => ?_)
  clear hK K
  refine world_gen (fun W => Blk W v1.heap.size 43 #[.bool za2.neg, .slice za2.a za2.n za2.c, .slice za2.b za2.m za2.d, .bool zb1.neg, .slice zb1.a zb1.n zb1.c, .slice zb1.b zb1.m zb1.d, .bool zb2.neg, .slice zb2.a zb2.n zb2.c, .slice zb2.b zb2.m zb2.d] ∧ Blk W gB 43 #[.bool za2.neg, .slice za2.a za2.n za2.c, .slice za2.b za2.m za2.d, .bool zb1.neg, .slice zb1.a zb1.n zb1.c, .slice zb1.b zb1.m zb1.d, .bool zb2.neg, .slice zb2.a zb2.n zb2.c, .slice zb2.b zb2.m zb2.d] ∧ Below wz.heap.size wz W) ⟨by ((repeat first|with_reducible assumption|((with_reducible apply Blk.farAt);focus omega)|with_reducible apply Blk.setb|((with_reducible apply Blk.newAt);focus (simp;done))|with_reducible apply Blk.alloc|with_reducible apply Blk.drew);all_goals (show @Eq (Array Value) _ _;rfl)), by ((repeat first|with_reducible assumption|((with_reducible apply Blk.farAt);focus omega)|with_reducible apply Blk.setb|((with_reducible apply Blk.newAt);focus (simp;done))|with_reducible apply Blk.alloc|with_reducible apply Blk.drew);all_goals (show @Eq (Array Value) _ _;rfl)), s1.alloc s1.size _⟩ ?_
  clear hB
  rintro v2 ⟨hA, hB, s2⟩
  obtain ⟨gA, egA⟩ : ∃ q, v1.heap.size = q := ⟨_, rfl⟩
  rw [egA] at hA ⊢
  clear egA
  refine wpMT_l rfl rfl (fun K hK => ?_)
  go_simp
  refine (leastL_q za1 (a0 * c) [za2, zb1, zb2] [a0 * d, b * c, b * d] (k + k) gA 3 v2 (RR.out.call s2).now (RowQ.three hA) (Nat.le_of_ble_eq_true rfl) (by omega)).mono ?_
  rintro r v3 ⟨⟨z1, rfl, H1⟩, hb3⟩
  dsimp only
  have s3 := below_then s2 hb3
  refine hK.out _ _ s3 (fun _ => ?_)
  clear hK K
  replace hB := hB.below' hb3
  clear hA
  refine wpMT_l rfl rfl (fun K hK => ?_)
  go_simp
  refine (greatL_q za1 (a0 * c) [za2, zb1, zb2] [a0 * d, b * c, b * d] (k + k) gB 3 v3 (RR.out.call s3).now (RowQ.three hB) (Nat.le_of_ble_eq_true rfl) (by omega)).mono ?_
  rintro r v4 ⟨⟨z2, rfl, H2⟩, hb4⟩
  dsimp only
  have s4 := below_then s3 hb4
  refine hK.out _ _ s4 (fun _ => ?_)
  clear hK K
  clear hB
  iterate 1 (refine wpMT_q rfl rfl (fun K hK => ?_); apply Exists.intro; refine ⟨fun w' hw' => ?_, ?_⟩; (focus (go_simp; try rfl)); go_simp; refine hK _ _ ?_; clear hK K)
  have hz := HZ.out _ s4
  have N1 : Kp (fun V => QK (k + k) V z1 (leastQ (a0 * c) [a0 * d, b * c, b * d])) w0.heap.size wz.heap.size v4 := (RR.out.call s4).imp (fun V h => H1 _ _ h)
  have N2 : Kp (fun V => QK (k + k) V z2 (greatQ (a0 * c) [a0 * d, b * c, b * d])) w0.heap.size wz.heap.size v4 := (RR.out.call s4).imp (fun V h => H2 _ _ h)
  have hwF := below_then hwz s4
  have zT : wz.heap.size ≤ v4.heap.size := s4.size
  clear RR H1 H2 HZ
  have y0 := hz.cell 0; have f0 := hz.frozen 0; have y1 := hz.cell 1; have f1 := hz.frozen 1; have y2 := hz.cell 2; have f2 := hz.frozen 2; have y3 := hz.cell 3; have f3 := hz.frozen 3; have y4 := hz.cell 4; have f4 := hz.frozen 4; have y5 := hz.cell 5; have f5 := hz.frozen 5
  refine wpMT_t rfl rfl (fun K hK => ?_)
  go_simp
  refine hK.out _ _ ?_
  clear hK K
  refine wpMT_nil ?_
  go_wp2
  refine world_gen (fun W => Blk W g2 73 #[.bool z1.neg, .slice z1.a z1.n z1.c, .slice z1.b z1.m z1.d, .bool z2.neg, .slice z2.a z2.n z2.c, .slice z2.b z2.m z2.d] ∧ Below w.heap.size w W ∧ Kp (fun V => QK (k + k) V z1 (leastQ (a0 * c) [a0 * d, b * c, b * d])) w0.heap.size W.heap.size W ∧ Kp (fun V => QK (k + k) V z2 (greatQ (a0 * c) [a0 * d, b * c, b * d])) w0.heap.size W.heap.size W) ⟨by ((repeat first|with_reducible assumption|((with_reducible apply Blk.farAt);focus omega)|with_reducible apply Blk.setb|((with_reducible apply Blk.newAt);focus (simp;done))|with_reducible apply Blk.alloc|with_reducible apply Blk.drew);all_goals (show @Eq (Array Value) _ _;rfl)), by go_grown, ?_, ?_⟩ ?_
  ·
   refine Kp.wide (B := w0.heap.size) (T := wz.heap.size) ?_ (Nat.le_refl _) (by simpa using zT)
   iterate 6 (with_reducible refine Kp.setc (.inl hgw) ?_)
   exact N1
  ·
   refine Kp.wide (B := w0.heap.size) (T := wz.heap.size) ?_ (Nat.le_refl _) (by simpa using zT)
   iterate 6 (with_reducible refine Kp.setc (.inl hgw) ?_)
   exact N2
  rintro wF ⟨hF, hwF, L0, L1⟩
  have e0 := hF.cell 0; have e1 := hF.cell 1; have e2 := hF.cell 2; have e3 := hF.cell 3; have e4 := hF.cell 4; have e5 := hF.cell 5
  refine bodyPost_ret (v := .agg #[.bool z1.neg, .slice z1.a z1.n z1.c, .slice z1.b z1.m z1.d, .bool z2.neg, .slice z2.a z2.n z2.c, .slice z2.b z2.m z2.d]) (by simp [results, Tryz.results79, go_sem, e0, e1, e2, e3, e4, e5]) rfl ?_
  exact ⟨z1, z2, rfl, L0.wide hwg (Nat.le_refl _), L1.wide hwg (Nat.le_refl _), hwF⟩
end Go.Proofs.YtaihkpjbnkgmlaaGreat
