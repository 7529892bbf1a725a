/- Walks: twice, angle, middle. (Printed by gen2.py.) -/
import Derived.Test.YtaihkpjbnkgmlaaGreatRf27

/- Walks: twice, angle, middle. (Printed by gen2.py.) -/
namespace Go.Proofs.YtaihkpjbnkgmlaaGreat
open Go.RowKit

def twiceI (a b c : Iq) : Iq := subI (addI b c) (mulI (2, 2) a)
def angleI (a b c d e f g h : Iq) : Iq := subI (mulI (crossI a b c d) (dotI e f g h)) (mulI (crossI e f g h) (dotI a b c d))

set_option maxRecDepth 100000 in
set_option maxHeartbeats 4000000 in
theorem twice_q (x1 x2 x3 x4 x5 x6 : QA) (A B C : Iq) (k : Nat) (w : World) (H1 : QK k w x1 A.1) (H2 : QK k w x2 A.2) (H3 : QK k w x3 B.1) (H4 : QK k w x4 B.2) (H5 : QK k w x5 C.1) (H6 : QK k w x6 C.2) (hk : k ≤ 2000) :
  Calls Tryz.prog 77 #[.agg #[.bool x1.neg, .slice x1.a x1.n x1.c, .slice x1.b x1.m x1.d, .bool x2.neg, .slice x2.a x2.n x2.c, .slice x2.b x2.m x2.d], .agg #[.bool x3.neg, .slice x3.a x3.n x3.c, .slice x3.b x3.m x3.d, .bool x4.neg, .slice x4.a x4.n x4.c, .slice x4.b x4.m x4.d], .agg #[.bool x5.neg, .slice x5.a x5.n x5.c, .slice x5.b x5.m x5.d, .bool x6.neg, .slice x6.a x6.n x6.c, .slice x6.b x6.m x6.d]] w (RetI2 (((((1 + k)) + ((1 + k)) + (k) + (k) + 1)) + ((((1 + k)) + ((1 + k)) + (k) + (k) + 1)) + 1) ((twiceI A B C).1) ((twiceI A B C).2) w) := by
 have R1 := Lib.hid (fun W (hW : Below w.heap.size w W) => H1.ext (Ext.below hW))
 have R2 := Lib.hid (fun W (hW : Below w.heap.size w W) => H2.ext (Ext.below hW))
 have R3 := Lib.hid (fun W (hW : Below w.heap.size w W) => H3.ext (Ext.below hW))
 have R4 := Lib.hid (fun W (hW : Below w.heap.size w W) => H4.ext (Ext.below hW))
 have R5 := Lib.hid (fun W (hW : Below w.heap.size w W) => H5.ext (Ext.below hW))
 have R6 := Lib.hid (fun W (hW : Below w.heap.size w W) => H6.ext (Ext.below hW))
 clear H1 H2 H3 H4 H5 H6
 go_enter Tryz.func77, Tryz.ntmps77
 go_wp2
 refine world_gen (fun W => Blk W w.heap.size 73 #[.bool x1.neg, .slice x1.a x1.n x1.c, .slice x1.b x1.m x1.d, .bool x2.neg, .slice x2.a x2.n x2.c, .slice x2.b x2.m x2.d] ∧ Blk W (w.heap.size + 1) 73 #[.bool x3.neg, .slice x3.a x3.n x3.c, .slice x3.b x3.m x3.d, .bool x4.neg, .slice x4.a x4.n x4.c, .slice x4.b x4.m x4.d] ∧ Blk W (w.heap.size + 1 + 1) 73 #[.bool x5.neg, .slice x5.a x5.n x5.c, .slice x5.b x5.m x5.d, .bool x6.neg, .slice x6.a x6.n x6.c, .slice x6.b x6.m x6.d] ∧ Blk W (w.heap.size + 1 + 1 + 1) 73 #[.bool false, .slice none 0 0, .slice none 0 0, .bool false, .slice none 0 0, .slice none 0 0] ∧ Below w.heap.size w W ∧ w.heap.size < w.heap.size + 1 + 1 + 1 ∧ w.heap.size + 1 + 1 + 1 < W.heap.size) ⟨by ((repeat first|with_reducible assumption|((with_reducible apply Blk.farAt);focus omega)|with_reducible apply Blk.setb|((with_reducible apply Blk.newAt);focus (simp;done))|with_reducible apply Blk.alloc|with_reducible apply Blk.drew);all_goals (show @Eq (Array Value) _ _;rfl)), by ((repeat first|with_reducible assumption|((with_reducible apply Blk.farAt);focus omega)|with_reducible apply Blk.setb|((with_reducible apply Blk.newAt);focus (simp;done))|with_reducible apply Blk.alloc|with_reducible apply Blk.drew);all_goals (show @Eq (Array Value) _ _;rfl)), by ((repeat first|with_reducible assumption|((with_reducible apply Blk.farAt);focus omega)|with_reducible apply Blk.setb|((with_reducible apply Blk.newAt);focus (simp;done))|with_reducible apply Blk.alloc|with_reducible apply Blk.drew);all_goals (show @Eq (Array Value) _ _;rfl)), by ((repeat first|with_reducible assumption|((with_reducible apply Blk.farAt);focus omega)|with_reducible apply Blk.setb|((with_reducible apply Blk.newAt);focus (simp;done))|with_reducible apply Blk.alloc|with_reducible apply Blk.drew);all_goals (show @Eq (Array Value) _ _;rfl)), by go_grown, by omega, by simp⟩ ?_
 rintro w0 ⟨h0, h1, h2, h3, hw0, hg, hgw⟩
 revert h0 h1 h2 h3 hg hgw
 generalize w.heap.size + 1 + 1 + 1 = g3
 generalize w.heap.size + 1 + 1 = g2
 generalize w.heap.size + 1 = g1
 intro h0 h1 h2 h3 hg hgw
 have k0_0 := held (h0.cell 0)
 have k0_1 := held (h0.cell 1)
 have k0_2 := held (h0.cell 2)
 have k0_3 := held (h0.cell 3)
 have k0_4 := held (h0.cell 4)
 have k0_5 := held (h0.cell 5)
 have k1_0 := held (h1.cell 0)
 have k1_1 := held (h1.cell 1)
 have k1_2 := held (h1.cell 2)
 have k1_3 := held (h1.cell 3)
 have k1_4 := held (h1.cell 4)
 have k1_5 := held (h1.cell 5)
 have k2_0 := held (h2.cell 0)
 have k2_1 := held (h2.cell 1)
 have k2_2 := held (h2.cell 2)
 have k2_3 := held (h2.cell 3)
 have k2_4 := held (h2.cell 4)
 have k2_5 := held (h2.cell 5)
 have s0 : Below w0.heap.size w0 w0.drew := (Below.refl _ _).drew
 have n0 : w0.heap.size ≤ w0.drew.heap.size := Nat.le_refl _
 refine wp_region_mix (S := Below w0.heap.size w0) [(0, .q), (1, .q), (4, .q), (2, .l), (3, .l), (5, .t), (6, .t), (7, .t)] (by kernel_rfl) (by kernel_rfl) (by kernel_rfl) (fun d _ _ _ _ h => by cases d <;> exact h) (s0) ?_
 iterate 3 (refine wpMix_q rfl rfl (fun K hK => ?_); apply Exists.intro; refine ⟨fun w' hw' => ?_, ?_⟩; (focus (go_simp; try rfl)); go_simp; refine hK _ _ ?_; clear hK K)
 refine wpMix_l rfl rfl (fun K hK => ?_)
 go_simp
 refine (iadd_i x3 x4 x5 x6 B C (k) _ (R3.out _ (below_then hw0 s0)) (R4.out _ (below_then hw0 s0)) (R5.out _ (below_then hw0 s0)) (R6.out _ (below_then hw0 s0)) (by omega)).mono ?_
 rintro r w1 ⟨z1_1, z1_2, rfl, J1_1, J1_2, hb1⟩
 dsimp only
 refine hK.out _ _ (below_then s0 hb1) (fun _ => ?_)
 clear hK K
 have s1 := below_then s0 hb1
 have n1 := s1.size
 have K1_1 := Lib.hid J1_1
 have K1_2 := Lib.hid J1_2
 clear J1_1 J1_2
 refine wpMix_l rfl rfl (fun K hK => ?_)
 go_simp
 refine (number2_q _).mono ?_
 rintro r w2 ⟨z2_1, z2_2, rfl, J2_1, J2_2, hb2⟩
 dsimp only
 refine hK.out _ _ (below_then s1 hb2) (fun _ => ?_)
 clear hK K
 have s2 := below_then s1 hb2
 have n2 := s2.size
 have K2_1 := Lib.hid J2_1
 have K2_2 := Lib.hid J2_2
 clear J2_1 J2_2
 refine wpMix_t rfl rfl (fun K hK => ?_)
 go_simp
 refine (imul_i z2_1 z2_2 x1 x2 (2, 2) A (1 + k) _ (QK.more K2_1.out.now (by omega)) (QK.more K2_2.out.now (by omega)) (QK.more (R1.out _ (below_then hw0 s2)) (by omega)) (QK.more (R2.out _ (below_then hw0 s2)) (by omega)) (by omega)).mono ?_
 rintro r w3 ⟨z3_1, z3_2, rfl, J3_1, J3_2, hb3⟩
 dsimp only
 refine hK.out _ _ ?_
 clear hK K
 have s3 := below_then s2 hb3
 have n3 := s3.size
 have K3_1 := Lib.hid J3_1
 have K3_2 := Lib.hid J3_2
 clear J3_1 J3_2
 refine wpMix_t rfl rfl (fun K hK => ?_)
 go_simp
 refine (isub_i z1_1 z1_2 z3_1 z3_2 (addI B C) (mulI (2, 2) A) (((1 + k)) + ((1 + k)) + (k) + (k) + 1) _ (QK.more ((K1_1.out.call hb2).call hb3).now (by omega)) (QK.more ((K1_2.out.call hb2).call hb3).now (by omega)) (QK.more K3_1.out.now (by omega)) (QK.more K3_2.out.now (by omega)) (by omega)).mono ?_
 rintro r w4 ⟨z4_1, z4_2, rfl, J4_1, J4_2, hb4⟩
 dsimp only
 refine hK.out _ _ ?_
 clear hK K
 have s4 := below_then s3 hb4
 have n4 := s4.size
 have K4_1 := Lib.hid J4_1
 have K4_2 := Lib.hid J4_2
 clear J4_1 J4_2
 have hz := h3.below' s4
 have hw1 := below_then hw0 s4
 clear k0_0 k0_1 k0_2 k0_3 k0_4 k0_5 k1_0 k1_1 k1_2 k1_3 k1_4 k1_5 k2_0 k2_1 k2_2 k2_3 k2_4 k2_5
 have y0 := hz.cell 0; have f0 := hz.frozen 0
 have y1 := hz.cell 1; have f1 := hz.frozen 1
 have y2 := hz.cell 2; have f2 := hz.frozen 2
 have y3 := hz.cell 3; have f3 := hz.frozen 3
 have y4 := hz.cell 4; have f4 := hz.frozen 4
 have y5 := hz.cell 5; have f5 := hz.frozen 5
 refine wpMix_t rfl rfl (fun K hK => ?_)
 go_simp
 refine hK.out _ _ ?_
 clear hK K
 refine wpMix_nil ?_
 go_wp2
 refine world_gen (fun W => Blk W g3 73 #[.bool z4_1.neg, .slice z4_1.a z4_1.n z4_1.c, .slice z4_1.b z4_1.m z4_1.d, .bool z4_2.neg, .slice z4_2.a z4_2.n z4_2.c, .slice z4_2.b z4_2.m z4_2.d] ∧ Below w.heap.size w W ∧ Kp (fun V => QK (((((1 + k)) + ((1 + k)) + (k) + (k) + 1)) + ((((1 + k)) + ((1 + k)) + (k) + (k) + 1)) + 1) V z4_1 ((subI (addI B C) (mulI (2, 2) A)).1)) w3.heap.size w4.heap.size W ∧ Kp (fun V => QK (((((1 + k)) + ((1 + k)) + (k) + (k) + 1)) + ((((1 + k)) + ((1 + k)) + (k) + (k) + 1)) + 1) V z4_2 ((subI (addI B C) (mulI (2, 2) A)).2)) w3.heap.size w4.heap.size W) ⟨by ((repeat first|with_reducible assumption|((with_reducible apply Blk.farAt);focus omega)|with_reducible apply Blk.setb|((with_reducible apply Blk.newAt);focus (simp;done))|with_reducible apply Blk.alloc|with_reducible apply Blk.drew);all_goals (show @Eq (Array Value) _ _;rfl)), by go_grown, by (repeat (first | (with_reducible exact K4_1.out) | ((with_reducible refine Kp.setc ?_ ?_); (focus omega)) | (with_reducible refine Kp.alloc ?_) | (with_reducible refine Kp.drew ?_))), by (repeat (first | (with_reducible exact K4_2.out) | ((with_reducible refine Kp.setc ?_ ?_); (focus omega)) | (with_reducible refine Kp.alloc ?_) | (with_reducible refine Kp.drew ?_)))⟩ ?_
 rintro wF ⟨hF, hwF, L0, L1⟩
 have e0 := hF.cell 0
 have e1 := hF.cell 1
 have e2 := hF.cell 2
 have e3 := hF.cell 3
 have e4 := hF.cell 4
 have e5 := hF.cell 5
 refine bodyPost_ret (v := .agg #[.bool z4_1.neg, .slice z4_1.a z4_1.n z4_1.c, .slice z4_1.b z4_1.m z4_1.d, .bool z4_2.neg, .slice z4_2.a z4_2.n z4_2.c, .slice z4_2.b z4_2.m z4_2.d]) (by simp [results, Tryz.results77, go_sem, e0, e1, e2, e3, e4, e5]) rfl ?_
 exact ⟨z4_1, z4_2, rfl, Kp.made ((L0.imp fun _ h => QK.more h (by omega)).fin (show w.heap.size ≤ _ from Nat.le_trans hw0.size n3)), Kp.made ((L1.imp fun _ h => QK.more h (by omega)).fin (show w.heap.size ≤ _ from Nat.le_trans hw0.size n3)), hwF⟩
set_option maxRecDepth 100000 in
set_option maxHeartbeats 4000000 in
theorem middleR_q (x1 x2 x3 x4 x5 x6 : QA) (A B C : Iq) (k : Nat) (w : World) (H1 : QK k w x1 A.1) (H2 : QK k w x2 A.2) (H3 : QK k w x3 B.1) (H4 : QK k w x4 B.2) (H5 : QK k w x5 C.1) (H6 : QK k w x6 C.2) (hk : k ≤ 2000) :
  Calls Tryz.prog 89 #[.agg #[.bool x1.neg, .slice x1.a x1.n x1.c, .slice x1.b x1.m x1.d, .bool x2.neg, .slice x2.a x2.n x2.c, .slice x2.b x2.m x2.d], .agg #[.bool x3.neg, .slice x3.a x3.n x3.c, .slice x3.b x3.m x3.d, .bool x4.neg, .slice x4.a x4.n x4.c, .slice x4.b x4.m x4.d], .agg #[.bool x5.neg, .slice x5.a x5.n x5.c, .slice x5.b x5.m x5.d, .bool x6.neg, .slice x6.a x6.n x6.c, .slice x6.b x6.m x6.d]] w (RetI2 (((((1 + k)) + ((1 + k)) + (k) + (k) + 1)) + ((((1 + k)) + ((1 + k)) + (k) + (k) + 1)) + 1) ((twiceI A B C).1) ((twiceI A B C).2) w) := by
 have R1 := Lib.hid (fun W (hW : Below w.heap.size w W) => H1.ext (Ext.below hW))
 have R2 := Lib.hid (fun W (hW : Below w.heap.size w W) => H2.ext (Ext.below hW))
 have R3 := Lib.hid (fun W (hW : Below w.heap.size w W) => H3.ext (Ext.below hW))
 have R4 := Lib.hid (fun W (hW : Below w.heap.size w W) => H4.ext (Ext.below hW))
 have R5 := Lib.hid (fun W (hW : Below w.heap.size w W) => H5.ext (Ext.below hW))
 have R6 := Lib.hid (fun W (hW : Below w.heap.size w W) => H6.ext (Ext.below hW))
 clear H1 H2 H3 H4 H5 H6
 go_enter Tryz.func89, Tryz.ntmps89
 go_wp2
 refine world_gen (fun W => Blk W w.heap.size 73 #[.bool x1.neg, .slice x1.a x1.n x1.c, .slice x1.b x1.m x1.d, .bool x2.neg, .slice x2.a x2.n x2.c, .slice x2.b x2.m x2.d] ∧ Blk W (w.heap.size + 1) 73 #[.bool x3.neg, .slice x3.a x3.n x3.c, .slice x3.b x3.m x3.d, .bool x4.neg, .slice x4.a x4.n x4.c, .slice x4.b x4.m x4.d] ∧ Blk W (w.heap.size + 1 + 1) 73 #[.bool x5.neg, .slice x5.a x5.n x5.c, .slice x5.b x5.m x5.d, .bool x6.neg, .slice x6.a x6.n x6.c, .slice x6.b x6.m x6.d] ∧ Blk W (w.heap.size + 1 + 1 + 1) 73 #[.bool false, .slice none 0 0, .slice none 0 0, .bool false, .slice none 0 0, .slice none 0 0] ∧ Below w.heap.size w W ∧ w.heap.size < w.heap.size + 1 + 1 + 1 ∧ w.heap.size + 1 + 1 + 1 < W.heap.size) ⟨by ((repeat first|with_reducible assumption|((with_reducible apply Blk.farAt);focus omega)|with_reducible apply Blk.setb|((with_reducible apply Blk.newAt);focus (simp;done))|with_reducible apply Blk.alloc|with_reducible apply Blk.drew);all_goals (show @Eq (Array Value) _ _;rfl)), by ((repeat first|with_reducible assumption|((with_reducible apply Blk.farAt);focus omega)|with_reducible apply Blk.setb|((with_reducible apply Blk.newAt);focus (simp;done))|with_reducible apply Blk.alloc|with_reducible apply Blk.drew);all_goals (show @Eq (Array Value) _ _;rfl)), by ((repeat first|with_reducible assumption|((with_reducible apply Blk.farAt);focus omega)|with_reducible apply Blk.setb|((with_reducible apply Blk.newAt);focus (simp;done))|with_reducible apply Blk.alloc|with_reducible apply Blk.drew);all_goals (show @Eq (Array Value) _ _;rfl)), by ((repeat first|with_reducible assumption|((with_reducible apply Blk.farAt);focus omega)|with_reducible apply Blk.setb|((with_reducible apply Blk.newAt);focus (simp;done))|with_reducible apply Blk.alloc|with_reducible apply Blk.drew);all_goals (show @Eq (Array Value) _ _;rfl)), by go_grown, by omega, by simp⟩ ?_
 rintro w0 ⟨h0, h1, h2, h3, hw0, hg, hgw⟩
 revert h0 h1 h2 h3 hg hgw
 generalize w.heap.size + 1 + 1 + 1 = g3
 generalize w.heap.size + 1 + 1 = g2
 generalize w.heap.size + 1 = g1
 intro h0 h1 h2 h3 hg hgw
 have k0_0 := held (h0.cell 0)
 have k0_1 := held (h0.cell 1)
 have k0_2 := held (h0.cell 2)
 have k0_3 := held (h0.cell 3)
 have k0_4 := held (h0.cell 4)
 have k0_5 := held (h0.cell 5)
 have k1_0 := held (h1.cell 0)
 have k1_1 := held (h1.cell 1)
 have k1_2 := held (h1.cell 2)
 have k1_3 := held (h1.cell 3)
 have k1_4 := held (h1.cell 4)
 have k1_5 := held (h1.cell 5)
 have k2_0 := held (h2.cell 0)
 have k2_1 := held (h2.cell 1)
 have k2_2 := held (h2.cell 2)
 have k2_3 := held (h2.cell 3)
 have k2_4 := held (h2.cell 4)
 have k2_5 := held (h2.cell 5)
 have s0 : Below w0.heap.size w0 w0.drew := (Below.refl _ _).drew
 have n0 : w0.heap.size ≤ w0.drew.heap.size := Nat.le_refl _
 refine wp_region_mix (S := Below w0.heap.size w0) [(0, .q), (1, .q), (4, .q), (2, .l), (3, .l), (5, .t), (6, .t), (7, .t)] (by kernel_rfl) (by kernel_rfl) (by kernel_rfl) (fun d _ _ _ _ h => by cases d <;> exact h) (s0) ?_
 iterate 3 (refine wpMix_q rfl rfl (fun K hK => ?_); apply Exists.intro; refine ⟨fun w' hw' => ?_, ?_⟩; (focus (go_simp; try rfl)); go_simp; refine hK _ _ ?_; clear hK K)
 refine wpMix_l rfl rfl (fun K hK => ?_)
 go_simp
 refine (iaddR_i x3 x4 x5 x6 B C (k) _ (R3.out _ (below_then hw0 s0)) (R4.out _ (below_then hw0 s0)) (R5.out _ (below_then hw0 s0)) (R6.out _ (below_then hw0 s0)) (by omega)).mono ?_
 rintro r w1 ⟨z1_1, z1_2, rfl, J1_1, J1_2, hb1⟩
 dsimp only
 refine hK.out _ _ (below_then s0 hb1) (fun _ => ?_)
 clear hK K
 have s1 := below_then s0 hb1
 have n1 := s1.size
 have K1_1 := Lib.hid J1_1
 have K1_2 := Lib.hid J1_2
 clear J1_1 J1_2
 refine wpMix_l rfl rfl (fun K hK => ?_)
 go_simp
 refine (one2R_q _).mono ?_
 rintro r w2 ⟨z2_1, z2_2, rfl, J2_1, J2_2, hb2⟩
 dsimp only
 refine hK.out _ _ (below_then s1 hb2) (fun _ => ?_)
 clear hK K
 have s2 := below_then s1 hb2
 have n2 := s2.size
 have K2_1 := Lib.hid J2_1
 have K2_2 := Lib.hid J2_2
 clear J2_1 J2_2
 refine wpMix_t rfl rfl (fun K hK => ?_)
 go_simp
 refine (imulR_i z2_1 z2_2 x1 x2 (2, 2) A (1 + k) _ (QK.more K2_1.out.now (by omega)) (QK.more K2_2.out.now (by omega)) (QK.more (R1.out _ (below_then hw0 s2)) (by omega)) (QK.more (R2.out _ (below_then hw0 s2)) (by omega)) (by omega)).mono ?_
 rintro r w3 ⟨z3_1, z3_2, rfl, J3_1, J3_2, hb3⟩
 dsimp only
 refine hK.out _ _ ?_
 clear hK K
 have s3 := below_then s2 hb3
 have n3 := s3.size
 have K3_1 := Lib.hid J3_1
 have K3_2 := Lib.hid J3_2
 clear J3_1 J3_2
 refine wpMix_t rfl rfl (fun K hK => ?_)
 go_simp
 refine (isubR_i z1_1 z1_2 z3_1 z3_2 (addI B C) (mulI (2, 2) A) (((1 + k)) + ((1 + k)) + (k) + (k) + 1) _ (QK.more ((K1_1.out.call hb2).call hb3).now (by omega)) (QK.more ((K1_2.out.call hb2).call hb3).now (by omega)) (QK.more K3_1.out.now (by omega)) (QK.more K3_2.out.now (by omega)) (by omega)).mono ?_
 rintro r w4 ⟨z4_1, z4_2, rfl, J4_1, J4_2, hb4⟩
 dsimp only
 refine hK.out _ _ ?_
 clear hK K
 have s4 := below_then s3 hb4
 have n4 := s4.size
 have K4_1 := Lib.hid J4_1
 have K4_2 := Lib.hid J4_2
 clear J4_1 J4_2
 have hz := h3.below' s4
 have hw1 := below_then hw0 s4
 clear k0_0 k0_1 k0_2 k0_3 k0_4 k0_5 k1_0 k1_1 k1_2 k1_3 k1_4 k1_5 k2_0 k2_1 k2_2 k2_3 k2_4 k2_5
 have y0 := hz.cell 0; have f0 := hz.frozen 0
 have y1 := hz.cell 1; have f1 := hz.frozen 1
 have y2 := hz.cell 2; have f2 := hz.frozen 2
 have y3 := hz.cell 3; have f3 := hz.frozen 3
 have y4 := hz.cell 4; have f4 := hz.frozen 4
 have y5 := hz.cell 5; have f5 := hz.frozen 5
 refine wpMix_t rfl rfl (fun K hK => ?_)
 go_simp
 refine hK.out _ _ ?_
 clear hK K
 refine wpMix_nil ?_
 go_wp2
 refine world_gen (fun W => Blk W g3 73 #[.bool z4_1.neg, .slice z4_1.a z4_1.n z4_1.c, .slice z4_1.b z4_1.m z4_1.d, .bool z4_2.neg, .slice z4_2.a z4_2.n z4_2.c, .slice z4_2.b z4_2.m z4_2.d] ∧ Below w.heap.size w W ∧ Kp (fun V => QK (((((1 + k)) + ((1 + k)) + (k) + (k) + 1)) + ((((1 + k)) + ((1 + k)) + (k) + (k) + 1)) + 1) V z4_1 ((subI (addI B C) (mulI (2, 2) A)).1)) w3.heap.size w4.heap.size W ∧ Kp (fun V => QK (((((1 + k)) + ((1 + k)) + (k) + (k) + 1)) + ((((1 + k)) + ((1 + k)) + (k) + (k) + 1)) + 1) V z4_2 ((subI (addI B C) (mulI (2, 2) A)).2)) w3.heap.size w4.heap.size W) ⟨by ((repeat first|with_reducible assumption|((with_reducible apply Blk.farAt);focus omega)|with_reducible apply Blk.setb|((with_reducible apply Blk.newAt);focus (simp;done))|with_reducible apply Blk.alloc|with_reducible apply Blk.drew);all_goals (show @Eq (Array Value) _ _;rfl)), by go_grown, by (repeat (first | (with_reducible exact K4_1.out) | ((with_reducible refine Kp.setc ?_ ?_); (focus omega)) | (with_reducible refine Kp.alloc ?_) | (with_reducible refine Kp.drew ?_))), by (repeat (first | (with_reducible exact K4_2.out) | ((with_reducible refine Kp.setc ?_ ?_); (focus omega)) | (with_reducible refine Kp.alloc ?_) | (with_reducible refine Kp.drew ?_)))⟩ ?_
 rintro wF ⟨hF, hwF, L0, L1⟩
 have e0 := hF.cell 0
 have e1 := hF.cell 1
 have e2 := hF.cell 2
 have e3 := hF.cell 3
 have e4 := hF.cell 4
 have e5 := hF.cell 5
 refine bodyPost_ret (v := .agg #[.bool z4_1.neg, .slice z4_1.a z4_1.n z4_1.c, .slice z4_1.b z4_1.m z4_1.d, .bool z4_2.neg, .slice z4_2.a z4_2.n z4_2.c, .slice z4_2.b z4_2.m z4_2.d]) (by simp [results, Tryz.results89, go_sem, e0, e1, e2, e3, e4, e5]) rfl ?_
 exact ⟨z4_1, z4_2, rfl, Kp.made ((L0.imp fun _ h => QK.more h (by omega)).fin (show w.heap.size ≤ _ from Nat.le_trans hw0.size n3)), Kp.made ((L1.imp fun _ h => QK.more h (by omega)).fin (show w.heap.size ≤ _ from Nat.le_trans hw0.size n3)), hwF⟩
set_option maxRecDepth 100000 in
set_option maxHeartbeats 4000000 in
theorem angle_q (x1 x2 x3 x4 x5 x6 x7 x8 x9 x10 x11 x12 x13 x14 x15 x16 : QA) (A B C D E F G L : Iq) (k : Nat) (w : World) (H1 : QK k w x1 A.1) (H2 : QK k w x2 A.2) (H3 : QK k w x3 B.1) (H4 : QK k w x4 B.2) (H5 : QK k w x5 C.1) (H6 : QK k w x6 C.2) (H7 : QK k w x7 D.1) (H8 : QK k w x8 D.2) (H9 : QK k w x9 E.1) (H10 : QK k w x10 E.2) (H11 : QK k w x11 F.1) (H12 : QK k w x12 F.2) (H13 : QK k w x13 G.1) (H14 : QK k w x14 G.2) (H15 : QK k w x15 L.1) (H16 : QK k w x16 L.2) (hk : k ≤ 500) :
  Calls Tryz.prog 78 #[.agg #[.bool x1.neg, .slice x1.a x1.n x1.c, .slice x1.b x1.m x1.d, .bool x2.neg, .slice x2.a x2.n x2.c, .slice x2.b x2.m x2.d, .bool x3.neg, .slice x3.a x3.n x3.c, .slice x3.b x3.m x3.d, .bool x4.neg, .slice x4.a x4.n x4.c, .slice x4.b x4.m x4.d], .agg #[.bool x5.neg, .slice x5.a x5.n x5.c, .slice x5.b x5.m x5.d, .bool x6.neg, .slice x6.a x6.n x6.c, .slice x6.b x6.m x6.d, .bool x7.neg, .slice x7.a x7.n x7.c, .slice x7.b x7.m x7.d, .bool x8.neg, .slice x8.a x8.n x8.c, .slice x8.b x8.m x8.d], .agg #[.bool x9.neg, .slice x9.a x9.n x9.c, .slice x9.b x9.m x9.d, .bool x10.neg, .slice x10.a x10.n x10.c, .slice x10.b x10.m x10.d, .bool x11.neg, .slice x11.a x11.n x11.c, .slice x11.b x11.m x11.d, .bool x12.neg, .slice x12.a x12.n x12.c, .slice x12.b x12.m x12.d], .agg #[.bool x13.neg, .slice x13.a x13.n x13.c, .slice x13.b x13.m x13.d, .bool x14.neg, .slice x14.a x14.n x14.c, .slice x14.b x14.m x14.d, .bool x15.neg, .slice x15.a x15.n x15.c, .slice x15.b x15.m x15.d, .bool x16.neg, .slice x16.a x16.n x16.c, .slice x16.b x16.m x16.d]] w (RetI2 ((((k) + (k) + ((k) + (k)) + 1) + ((k) + (k) + ((k) + (k)) + 1)) + (((k) + (k) + ((k) + (k)) + 1) + ((k) + (k) + ((k) + (k)) + 1)) + 1) ((angleI A B C D E F G L).1) ((angleI A B C D E F G L).2) w) := by
 have R1 := Lib.hid (fun W (hW : Below w.heap.size w W) => H1.ext (Ext.below hW))
 have R2 := Lib.hid (fun W (hW : Below w.heap.size w W) => H2.ext (Ext.below hW))
 have R3 := Lib.hid (fun W (hW : Below w.heap.size w W) => H3.ext (Ext.below hW))
 have R4 := Lib.hid (fun W (hW : Below w.heap.size w W) => H4.ext (Ext.below hW))
 have R5 := Lib.hid (fun W (hW : Below w.heap.size w W) => H5.ext (Ext.below hW))
 have R6 := Lib.hid (fun W (hW : Below w.heap.size w W) => H6.ext (Ext.below hW))
 have R7 := Lib.hid (fun W (hW : Below w.heap.size w W) => H7.ext (Ext.below hW))
 have R8 := Lib.hid (fun W (hW : Below w.heap.size w W) => H8.ext (Ext.below hW))
 have R9 := Lib.hid (fun W (hW : Below w.heap.size w W) => H9.ext (Ext.below hW))
 have R10 := Lib.hid (fun W (hW : Below w.heap.size w W) => H10.ext (Ext.below hW))
 have R11 := Lib.hid (fun W (hW : Below w.heap.size w W) => H11.ext (Ext.below hW))
 have R12 := Lib.hid (fun W (hW : Below w.heap.size w W) => H12.ext (Ext.below hW))
 have R13 := Lib.hid (fun W (hW : Below w.heap.size w W) => H13.ext (Ext.below hW))
 have R14 := Lib.hid (fun W (hW : Below w.heap.size w W) => H14.ext (Ext.below hW))
 have R15 := Lib.hid (fun W (hW : Below w.heap.size w W) => H15.ext (Ext.below hW))
 have R16 := Lib.hid (fun W (hW : Below w.heap.size w W) => H16.ext (Ext.below hW))
 clear H1 H2 H3 H4 H5 H6 H7 H8 H9 H10 H11 H12 H13 H14 H15 H16
 go_enter Tryz.func78, Tryz.ntmps78
 go_wp2
 refine world_gen (fun W => Blk W w.heap.size 126 #[.bool x1.neg, .slice x1.a x1.n x1.c, .slice x1.b x1.m x1.d, .bool x2.neg, .slice x2.a x2.n x2.c, .slice x2.b x2.m x2.d, .bool x3.neg, .slice x3.a x3.n x3.c, .slice x3.b x3.m x3.d, .bool x4.neg, .slice x4.a x4.n x4.c, .slice x4.b x4.m x4.d] ∧ Blk W (w.heap.size + 1) 126 #[.bool x5.neg, .slice x5.a x5.n x5.c, .slice x5.b x5.m x5.d, .bool x6.neg, .slice x6.a x6.n x6.c, .slice x6.b x6.m x6.d, .bool x7.neg, .slice x7.a x7.n x7.c, .slice x7.b x7.m x7.d, .bool x8.neg, .slice x8.a x8.n x8.c, .slice x8.b x8.m x8.d] ∧ Blk W (w.heap.size + 1 + 1) 126 #[.bool x9.neg, .slice x9.a x9.n x9.c, .slice x9.b x9.m x9.d, .bool x10.neg, .slice x10.a x10.n x10.c, .slice x10.b x10.m x10.d, .bool x11.neg, .slice x11.a x11.n x11.c, .slice x11.b x11.m x11.d, .bool x12.neg, .slice x12.a x12.n x12.c, .slice x12.b x12.m x12.d] ∧ Blk W (w.heap.size + 1 + 1 + 1) 126 #[.bool x13.neg, .slice x13.a x13.n x13.c, .slice x13.b x13.m x13.d, .bool x14.neg, .slice x14.a x14.n x14.c, .slice x14.b x14.m x14.d, .bool x15.neg, .slice x15.a x15.n x15.c, .slice x15.b x15.m x15.d, .bool x16.neg, .slice x16.a x16.n x16.c, .slice x16.b x16.m x16.d] ∧ Blk W (w.heap.size + 1 + 1 + 1 + 1) 73 #[.bool false, .slice none 0 0, .slice none 0 0, .bool false, .slice none 0 0, .slice none 0 0] ∧ Below w.heap.size w W ∧ w.heap.size < w.heap.size + 1 + 1 + 1 + 1 ∧ w.heap.size + 1 + 1 + 1 + 1 < W.heap.size) ⟨by ((repeat first|with_reducible assumption|((with_reducible apply Blk.farAt);focus omega)|with_reducible apply Blk.setb|((with_reducible apply Blk.newAt);focus (simp;done))|with_reducible apply Blk.alloc|with_reducible apply Blk.drew);all_goals (show @Eq (Array Value) _ _;rfl)), by ((repeat first|with_reducible assumption|((with_reducible apply Blk.farAt);focus omega)|with_reducible apply Blk.setb|((with_reducible apply Blk.newAt);focus (simp;done))|with_reducible apply Blk.alloc|with_reducible apply Blk.drew);all_goals (show @Eq (Array Value) _ _;rfl)), by ((repeat first|with_reducible assumption|((with_reducible apply Blk.farAt);focus omega)|with_reducible apply Blk.setb|((with_reducible apply Blk.newAt);focus (simp;done))|with_reducible apply Blk.alloc|with_reducible apply Blk.drew);all_goals (show @Eq (Array Value) _ _;rfl)), by ((repeat first|with_reducible assumption|((with_reducible apply Blk.farAt);focus omega)|with_reducible apply Blk.setb|((with_reducible apply Blk.newAt);focus (simp;done))|with_reducible apply Blk.alloc|with_reducible apply Blk.drew);all_goals (show @Eq (Array Value) _ _;rfl)), by ((repeat first|with_reducible assumption|((with_reducible apply Blk.farAt);focus omega)|with_reducible apply Blk.setb|((with_reducible apply Blk.newAt);focus (simp;done))|with_reducible apply Blk.alloc|with_reducible apply Blk.drew);all_goals (show @Eq (Array Value) _ _;rfl)), by go_grown, by omega, by simp⟩ ?_
 rintro w0 ⟨h0, h1, h2, h3, h4, hw0, hg, hgw⟩
 revert h0 h1 h2 h3 h4 hg hgw
 generalize w.heap.size + 1 + 1 + 1 + 1 = g4
 generalize w.heap.size + 1 + 1 + 1 = g3
 generalize w.heap.size + 1 + 1 = g2
 generalize w.heap.size + 1 = g1
 intro h0 h1 h2 h3 h4 hg hgw
 have k0_0 := held (h0.cell 0)
 have k0_1 := held (h0.cell 1)
 have k0_2 := held (h0.cell 2)
 have k0_3 := held (h0.cell 3)
 have k0_4 := held (h0.cell 4)
 have k0_5 := held (h0.cell 5)
 have k0_6 := held (h0.cell 6)
 have k0_7 := held (h0.cell 7)
 have k0_8 := held (h0.cell 8)
 have k0_9 := held (h0.cell 9)
 have k0_10 := held (h0.cell 10)
 have k0_11 := held (h0.cell 11)
 have k1_0 := held (h1.cell 0)
 have k1_1 := held (h1.cell 1)
 have k1_2 := held (h1.cell 2)
 have k1_3 := held (h1.cell 3)
 have k1_4 := held (h1.cell 4)
 have k1_5 := held (h1.cell 5)
 have k1_6 := held (h1.cell 6)
 have k1_7 := held (h1.cell 7)
 have k1_8 := held (h1.cell 8)
 have k1_9 := held (h1.cell 9)
 have k1_10 := held (h1.cell 10)
 have k1_11 := held (h1.cell 11)
 have k2_0 := held (h2.cell 0)
 have k2_1 := held (h2.cell 1)
 have k2_2 := held (h2.cell 2)
 have k2_3 := held (h2.cell 3)
 have k2_4 := held (h2.cell 4)
 have k2_5 := held (h2.cell 5)
 have k2_6 := held (h2.cell 6)
 have k2_7 := held (h2.cell 7)
 have k2_8 := held (h2.cell 8)
 have k2_9 := held (h2.cell 9)
 have k2_10 := held (h2.cell 10)
 have k2_11 := held (h2.cell 11)
 have k3_0 := held (h3.cell 0)
 have k3_1 := held (h3.cell 1)
 have k3_2 := held (h3.cell 2)
 have k3_3 := held (h3.cell 3)
 have k3_4 := held (h3.cell 4)
 have k3_5 := held (h3.cell 5)
 have k3_6 := held (h3.cell 6)
 have k3_7 := held (h3.cell 7)
 have k3_8 := held (h3.cell 8)
 have k3_9 := held (h3.cell 9)
 have k3_10 := held (h3.cell 10)
 have k3_11 := held (h3.cell 11)
 have s0 : Below w0.heap.size w0 w0.drew := (Below.refl _ _).drew
 have n0 : w0.heap.size ≤ w0.drew.heap.size := Nat.le_refl _
 refine wp_region_mix (S := Below w0.heap.size w0) [(0, .q), (1, .q), (3, .q), (4, .q), (7, .q), (8, .q), (10, .q), (11, .q), (2, .l), (5, .l), (6, .l), (9, .l), (12, .t), (13, .t), (14, .t), (15, .t)] (by kernel_rfl) (by kernel_rfl) (by kernel_rfl) (fun d _ _ _ _ h => by cases d <;> exact h) (s0) ?_
 iterate 8 (refine wpMix_q rfl rfl (fun K hK => ?_); apply Exists.intro; refine ⟨fun w' hw' => ?_, ?_⟩; (focus (go_simp; try rfl)); go_simp; refine hK _ _ ?_; clear hK K)
 refine wpMix_l rfl rfl (fun K hK => ?_)
 go_simp
 refine (cross_q x1 x2 x3 x4 x5 x6 x7 x8 A B C D (k) _ (R1.out _ (below_then hw0 s0)) (R2.out _ (below_then hw0 s0)) (R3.out _ (below_then hw0 s0)) (R4.out _ (below_then hw0 s0)) (R5.out _ (below_then hw0 s0)) (R6.out _ (below_then hw0 s0)) (R7.out _ (below_then hw0 s0)) (R8.out _ (below_then hw0 s0)) (by omega)).mono ?_
 rintro r w1 ⟨z1_1, z1_2, rfl, J1_1, J1_2, hb1⟩
 dsimp only
 refine hK.out _ _ (below_then s0 hb1) (fun _ => ?_)
 clear hK K
 have s1 := below_then s0 hb1
 have n1 := s1.size
 have K1_1 := Lib.hid J1_1
 have K1_2 := Lib.hid J1_2
 clear J1_1 J1_2
 refine wpMix_l rfl rfl (fun K hK => ?_)
 go_simp
 refine (dot_q x9 x10 x11 x12 x13 x14 x15 x16 E F G L (k) _ (R9.out _ (below_then hw0 s1)) (R10.out _ (below_then hw0 s1)) (R11.out _ (below_then hw0 s1)) (R12.out _ (below_then hw0 s1)) (R13.out _ (below_then hw0 s1)) (R14.out _ (below_then hw0 s1)) (R15.out _ (below_then hw0 s1)) (R16.out _ (below_then hw0 s1)) (by omega)).mono ?_
 rintro r w2 ⟨z2_1, z2_2, rfl, J2_1, J2_2, hb2⟩
 dsimp only
 refine hK.out _ _ (below_then s1 hb2) (fun _ => ?_)
 clear hK K
 have s2 := below_then s1 hb2
 have n2 := s2.size
 have K2_1 := Lib.hid J2_1
 have K2_2 := Lib.hid J2_2
 clear J2_1 J2_2
 refine wpMix_l rfl rfl (fun K hK => ?_)
 go_simp
 refine (imul_i z1_1 z1_2 z2_1 z2_2 (crossI A B C D) (dotI E F G L) ((k) + (k) + ((k) + (k)) + 1) _ (K1_1.out.call hb2).now (K1_2.out.call hb2).now K2_1.out.now K2_2.out.now (by omega)).mono ?_
 rintro r w3 ⟨z3_1, z3_2, rfl, J3_1, J3_2, hb3⟩
 dsimp only
 refine hK.out _ _ (below_then s2 hb3) (fun _ => ?_)
 clear hK K
 have s3 := below_then s2 hb3
 have n3 := s3.size
 have K3_1 := Lib.hid J3_1
 have K3_2 := Lib.hid J3_2
 clear J3_1 J3_2
 refine wpMix_l rfl rfl (fun K hK => ?_)
 go_simp
 refine (cross_q x9 x10 x11 x12 x13 x14 x15 x16 E F G L (k) _ (R9.out _ (below_then hw0 s3)) (R10.out _ (below_then hw0 s3)) (R11.out _ (below_then hw0 s3)) (R12.out _ (below_then hw0 s3)) (R13.out _ (below_then hw0 s3)) (R14.out _ (below_then hw0 s3)) (R15.out _ (below_then hw0 s3)) (R16.out _ (below_then hw0 s3)) (by omega)).mono ?_
 rintro r w4 ⟨z4_1, z4_2, rfl, J4_1, J4_2, hb4⟩
 dsimp only
 refine hK.out _ _ (below_then s3 hb4) (fun _ => ?_)
 clear hK K
 have s4 := below_then s3 hb4
 have n4 := s4.size
 have K4_1 := Lib.hid J4_1
 have K4_2 := Lib.hid J4_2
 clear J4_1 J4_2
 refine wpMix_t rfl rfl (fun K hK => ?_)
 go_simp
 refine (dot_q x1 x2 x3 x4 x5 x6 x7 x8 A B C D (k) _ (R1.out _ (below_then hw0 s4)) (R2.out _ (below_then hw0 s4)) (R3.out _ (below_then hw0 s4)) (R4.out _ (below_then hw0 s4)) (R5.out _ (below_then hw0 s4)) (R6.out _ (below_then hw0 s4)) (R7.out _ (below_then hw0 s4)) (R8.out _ (below_then hw0 s4)) (by omega)).mono ?_
 rintro r w5 ⟨z5_1, z5_2, rfl, J5_1, J5_2, hb5⟩
 dsimp only
 refine hK.out _ _ ?_
 clear hK K
 have s5 := below_then s4 hb5
 have n5 := s5.size
 have K5_1 := Lib.hid J5_1
 have K5_2 := Lib.hid J5_2
 clear J5_1 J5_2
 refine wpMix_t rfl rfl (fun K hK => ?_)
 go_simp
 refine (imul_i z4_1 z4_2 z5_1 z5_2 (crossI E F G L) (dotI A B C D) ((k) + (k) + ((k) + (k)) + 1) _ (K4_1.out.call hb5).now (K4_2.out.call hb5).now K5_1.out.now K5_2.out.now (by omega)).mono ?_
 rintro r w6 ⟨z6_1, z6_2, rfl, J6_1, J6_2, hb6⟩
 dsimp only
 refine hK.out _ _ ?_
 clear hK K
 have s6 := below_then s5 hb6
 have n6 := s6.size
 have K6_1 := Lib.hid J6_1
 have K6_2 := Lib.hid J6_2
 clear J6_1 J6_2
 refine wpMix_t rfl rfl (fun K hK => ?_)
 go_simp
 refine (isub_i z3_1 z3_2 z6_1 z6_2 (mulI (crossI A B C D) (dotI E F G L)) (mulI (crossI E F G L) (dotI A B C D)) (((k) + (k) + ((k) + (k)) + 1) + ((k) + (k) + ((k) + (k)) + 1)) _ (((K3_1.out.call hb4).call hb5).call hb6).now (((K3_2.out.call hb4).call hb5).call hb6).now K6_1.out.now K6_2.out.now (by omega)).mono ?_
 rintro r w7 ⟨z7_1, z7_2, rfl, J7_1, J7_2, hb7⟩
 dsimp only
 refine hK.out _ _ ?_
 clear hK K
 have s7 := below_then s6 hb7
 have n7 := s7.size
 have K7_1 := Lib.hid J7_1
 have K7_2 := Lib.hid J7_2
 clear J7_1 J7_2
 have hz := h4.below' s7
 have hw1 := below_then hw0 s7
 clear k0_0 k0_1 k0_2 k0_3 k0_4 k0_5 k0_6 k0_7 k0_8 k0_9 k0_10 k0_11 k1_0 k1_1 k1_2 k1_3 k1_4 k1_5 k1_6 k1_7 k1_8 k1_9 k1_10 k1_11 k2_0 k2_1 k2_2 k2_3 k2_4 k2_5 k2_6 k2_7 k2_8 k2_9 k2_10 k2_11 k3_0 k3_1 k3_2 k3_3 k3_4 k3_5 k3_6 k3_7 k3_8 k3_9 k3_10 k3_11
 have y0 := hz.cell 0; have f0 := hz.frozen 0
 have y1 := hz.cell 1; have f1 := hz.frozen 1
 have y2 := hz.cell 2; have f2 := hz.frozen 2
 have y3 := hz.cell 3; have f3 := hz.frozen 3
 have y4 := hz.cell 4; have f4 := hz.frozen 4
 have y5 := hz.cell 5; have f5 := hz.frozen 5
 refine wpMix_t rfl rfl (fun K hK => ?_)
 go_simp
 refine hK.out _ _ ?_
 clear hK K
 refine wpMix_nil ?_
 go_wp2
 refine world_gen (fun W => Blk W g4 73 #[.bool z7_1.neg, .slice z7_1.a z7_1.n z7_1.c, .slice z7_1.b z7_1.m z7_1.d, .bool z7_2.neg, .slice z7_2.a z7_2.n z7_2.c, .slice z7_2.b z7_2.m z7_2.d] ∧ Below w.heap.size w W ∧ Kp (fun V => QK ((((k) + (k) + ((k) + (k)) + 1) + ((k) + (k) + ((k) + (k)) + 1)) + (((k) + (k) + ((k) + (k)) + 1) + ((k) + (k) + ((k) + (k)) + 1)) + 1) V z7_1 ((subI (mulI (crossI A B C D) (dotI E F G L)) (mulI (crossI E F G L) (dotI A B C D))).1)) w6.heap.size w7.heap.size W ∧ Kp (fun V => QK ((((k) + (k) + ((k) + (k)) + 1) + ((k) + (k) + ((k) + (k)) + 1)) + (((k) + (k) + ((k) + (k)) + 1) + ((k) + (k) + ((k) + (k)) + 1)) + 1) V z7_2 ((subI (mulI (crossI A B C D) (dotI E F G L)) (mulI (crossI E F G L) (dotI A B C D))).2)) w6.heap.size w7.heap.size W) ⟨by ((repeat first|with_reducible assumption|((with_reducible apply Blk.farAt);focus omega)|with_reducible apply Blk.setb|((with_reducible apply Blk.newAt);focus (simp;done))|with_reducible apply Blk.alloc|with_reducible apply Blk.drew);all_goals (show @Eq (Array Value) _ _;rfl)), by go_grown, by (repeat (first | (with_reducible exact K7_1.out) | ((with_reducible refine Kp.setc ?_ ?_); (focus omega)) | (with_reducible refine Kp.alloc ?_) | (with_reducible refine Kp.drew ?_))), by (repeat (first | (with_reducible exact K7_2.out) | ((with_reducible refine Kp.setc ?_ ?_); (focus omega)) | (with_reducible refine Kp.alloc ?_) | (with_reducible refine Kp.drew ?_)))⟩ ?_
 rintro wF ⟨hF, hwF, L0, L1⟩
 have e0 := hF.cell 0
 have e1 := hF.cell 1
 have e2 := hF.cell 2
 have e3 := hF.cell 3
 have e4 := hF.cell 4
 have e5 := hF.cell 5
 refine bodyPost_ret (v := .agg #[.bool z7_1.neg, .slice z7_1.a z7_1.n z7_1.c, .slice z7_1.b z7_1.m z7_1.d, .bool z7_2.neg, .slice z7_2.a z7_2.n z7_2.c, .slice z7_2.b z7_2.m z7_2.d]) (by simp [results, Tryz.results78, go_sem, e0, e1, e2, e3, e4, e5]) rfl ?_
 exact ⟨z7_1, z7_2, rfl, Kp.made ((L0.imp fun _ h => QK.more h (by omega)).fin (show w.heap.size ≤ _ from Nat.le_trans hw0.size n6)), Kp.made ((L1.imp fun _ h => QK.more h (by omega)).fin (show w.heap.size ≤ _ from Nat.le_trans hw0.size n6)), hwF⟩
end Go.Proofs.YtaihkpjbnkgmlaaGreat
