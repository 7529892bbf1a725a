/- Walks: vectors, cross and dot products of intervals, both sides. (Printed by gen2.py.) -/
import Derived.Test.YtaihkpjbnkgmlaaGreatRf24
import Derived.Test.YtaihkpjbnkgmlaaGreatRf25

/- Walks: vectors, cross and dot products of intervals, both sides. (Printed by gen2.py.) -/
namespace Go.Proofs.YtaihkpjbnkgmlaaGreat
open Go.RowKit

theorem set12v {a0 a1 a2 a3 a4 a5 a6 a7 a8 a9 a10 a11 v0 v1 v2 v3 v4 v5 v6 v7 v8 v9 v10 v11 : Value} : (((((((((((((#[a0, a1, a2, a3, a4, a5, a6, a7, a8, a9, a10, a11] : Array Value).setIfInBounds 0 v0).setIfInBounds 1 v1).setIfInBounds 2 v2).setIfInBounds 3 v3).setIfInBounds 4 v4).setIfInBounds 5 v5).setIfInBounds 6 v6).setIfInBounds 7 v7).setIfInBounds 8 v8).setIfInBounds 9 v9).setIfInBounds 10 v10).setIfInBounds 11 v11) = #[v0, v1, v2, v3, v4, v5, v6, v7, v8, v9, v10, v11] := by simp
theorem Blk.set12 {w : World} {g : Nat} {t : TypeId} {a0 a1 a2 a3 a4 a5 a6 a7 a8 a9 a10 a11 v0 v1 v2 v3 v4 v5 v6 v7 v8 v9 v10 v11 : Value} (h : Blk w g t #[a0, a1, a2, a3, a4, a5, a6, a7, a8, a9, a10, a11]) : Blk ((((((((((((w.setCell ⟨g, 0, none⟩ v0).setCell ⟨g, 1, none⟩ v1).setCell ⟨g, 2, none⟩ v2).setCell ⟨g, 3, none⟩ v3).setCell ⟨g, 4, none⟩ v4).setCell ⟨g, 5, none⟩ v5).setCell ⟨g, 6, none⟩ v6).setCell ⟨g, 7, none⟩ v7).setCell ⟨g, 8, none⟩ v8).setCell ⟨g, 9, none⟩ v9).setCell ⟨g, 10, none⟩ v10).setCell ⟨g, 11, none⟩ v11) g t #[v0, v1, v2, v3, v4, v5, v6, v7, v8, v9, v10, v11] := by
 have := ((((((((((((h.set_ 0 v0).set_ 1 v1).set_ 2 v2).set_ 3 v3).set_ 4 v4).set_ 5 v5).set_ 6 v6).set_ 7 v7).set_ 8 v8).set_ 9 v9).set_ 10 v10).set_ 11 v11)
 rw [set12v] at this
 exact this
abbrev Iq := Rat × Rat
def addI (x y : Iq) : Iq := (x.1 + y.1, x.2 + y.2)
def subI (x y : Iq) : Iq := (x.1 - y.2, x.2 - y.1)
def mulI (x y : Iq) : Iq := (leastQ (x.1 * y.1) [x.1 * y.2, x.2 * y.1, x.2 * y.2], greatQ (x.1 * y.1) [x.1 * y.2, x.2 * y.1, x.2 * y.2])
def vecI (a b c d : Iq) : Iq × Iq := (subI c a, subI d b)
def crossI (a b c d : Iq) : Iq := subI (mulI a d) (mulI b c)
def dotI (a b c d : Iq) : Iq := addI (mulI a c) (mulI b d)
theorem iadd_i (x1 x2 x3 x4 : QA) (X Y : Iq) (k : Nat) (w : World) (H1 : QK k w x1 X.1) (H2 : QK k w x2 X.2) (H3 : QK k w x3 Y.1) (H4 : QK k w x4 Y.2) (hk : k ≤ 10000) : Calls Tryz.prog 158 #[.agg #[.bool x1.neg, .slice x1.a x1.n x1.c, .slice x1.b x1.m x1.d, .bool x2.neg, .slice x2.a x2.n x2.c, .slice x2.b x2.m x2.d], .agg #[.bool x3.neg, .slice x3.a x3.n x3.c, .slice x3.b x3.m x3.d, .bool x4.neg, .slice x4.a x4.n x4.c, .slice x4.b x4.m x4.d]] w (RetI2 (k + k + 1) (addI X Y).1 (addI X Y).2 w) := iadd_q x1 x2 x3 x4 X.1 X.2 Y.1 Y.2 k w H1 H2 H3 H4 hk
theorem isub_i (x1 x2 x3 x4 : QA) (X Y : Iq) (k : Nat) (w : World) (H1 : QK k w x1 X.1) (H2 : QK k w x2 X.2) (H3 : QK k w x3 Y.1) (H4 : QK k w x4 Y.2) (hk : k ≤ 10000) : Calls Tryz.prog 75 #[.agg #[.bool x1.neg, .slice x1.a x1.n x1.c, .slice x1.b x1.m x1.d, .bool x2.neg, .slice x2.a x2.n x2.c, .slice x2.b x2.m x2.d], .agg #[.bool x3.neg, .slice x3.a x3.n x3.c, .slice x3.b x3.m x3.d, .bool x4.neg, .slice x4.a x4.n x4.c, .slice x4.b x4.m x4.d]] w (RetI2 (k + k + 1) (subI X Y).1 (subI X Y).2 w) := isub_q x1 x2 x3 x4 X.1 X.2 Y.1 Y.2 k w H1 H2 H3 H4 hk
theorem imul_i (x1 x2 x3 x4 : QA) (X Y : Iq) (k : Nat) (w : World) (H1 : QK k w x1 X.1) (H2 : QK k w x2 X.2) (H3 : QK k w x3 Y.1) (H4 : QK k w x4 Y.2) (hk : k ≤ 10000) : Calls Tryz.prog 79 #[.agg #[.bool x1.neg, .slice x1.a x1.n x1.c, .slice x1.b x1.m x1.d, .bool x2.neg, .slice x2.a x2.n x2.c, .slice x2.b x2.m x2.d], .agg #[.bool x3.neg, .slice x3.a x3.n x3.c, .slice x3.b x3.m x3.d, .bool x4.neg, .slice x4.a x4.n x4.c, .slice x4.b x4.m x4.d]] w (RetI2 (k + k) (mulI X Y).1 (mulI X Y).2 w) := imul_q x1 x2 x3 x4 X.1 X.2 Y.1 Y.2 k w H1 H2 H3 H4 hk
theorem iaddR_i (x1 x2 x3 x4 : QA) (X Y : Iq) (k : Nat) (w : World) (H1 : QK k w x1 X.1) (H2 : QK k w x2 X.2) (H3 : QK k w x3 Y.1) (H4 : QK k w x4 Y.2) (hk : k ≤ 10000) : Calls Tryz.prog 125 #[.agg #[.bool x1.neg, .slice x1.a x1.n x1.c, .slice x1.b x1.m x1.d, .bool x2.neg, .slice x2.a x2.n x2.c, .slice x2.b x2.m x2.d], .agg #[.bool x3.neg, .slice x3.a x3.n x3.c, .slice x3.b x3.m x3.d, .bool x4.neg, .slice x4.a x4.n x4.c, .slice x4.b x4.m x4.d]] w (RetI2 (k + k + 1) (addI X Y).1 (addI X Y).2 w) := iaddR_q x1 x2 x3 x4 X.1 X.2 Y.1 Y.2 k w H1 H2 H3 H4 hk
theorem isubR_i (x1 x2 x3 x4 : QA) (X Y : Iq) (k : Nat) (w : World) (H1 : QK k w x1 X.1) (H2 : QK k w x2 X.2) (H3 : QK k w x3 Y.1) (H4 : QK k w x4 Y.2) (hk : k ≤ 10000) : Calls Tryz.prog 87 #[.agg #[.bool x1.neg, .slice x1.a x1.n x1.c, .slice x1.b x1.m x1.d, .bool x2.neg, .slice x2.a x2.n x2.c, .slice x2.b x2.m x2.d], .agg #[.bool x3.neg, .slice x3.a x3.n x3.c, .slice x3.b x3.m x3.d, .bool x4.neg, .slice x4.a x4.n x4.c, .slice x4.b x4.m x4.d]] w (RetI2 (k + k + 1) (subI X Y).1 (subI X Y).2 w) := isubR_q x1 x2 x3 x4 X.1 X.2 Y.1 Y.2 k w H1 H2 H3 H4 hk
theorem imulR_i (x1 x2 x3 x4 : QA) (X Y : Iq) (k : Nat) (w : World) (H1 : QK k w x1 X.1) (H2 : QK k w x2 X.2) (H3 : QK k w x3 Y.1) (H4 : QK k w x4 Y.2) (hk : k ≤ 10000) : Calls Tryz.prog 91 #[.agg #[.bool x1.neg, .slice x1.a x1.n x1.c, .slice x1.b x1.m x1.d, .bool x2.neg, .slice x2.a x2.n x2.c, .slice x2.b x2.m x2.d], .agg #[.bool x3.neg, .slice x3.a x3.n x3.c, .slice x3.b x3.m x3.d, .bool x4.neg, .slice x4.a x4.n x4.c, .slice x4.b x4.m x4.d]] w (RetI2 (k + k) (mulI X Y).1 (mulI X Y).2 w) := imulR_q x1 x2 x3 x4 X.1 X.2 Y.1 Y.2 k w H1 H2 H3 H4 hk

set_option maxRecDepth 100000 in
set_option maxHeartbeats 4000000 in
theorem between_q (x1 x2 x3 x4 x5 x6 x7 x8 : QA) (A B C D : Iq) (k : Nat) (w : World) (H1 : QK k w x1 A.1) (H2 : QK k w x2 A.2) (H3 : QK k w x3 B.1) (H4 : QK k w x4 B.2) (H5 : QK k w x5 C.1) (H6 : QK k w x6 C.2) (H7 : QK k w x7 D.1) (H8 : QK k w x8 D.2) (hk : k ≤ 4000) :
  Calls Tryz.prog 72 #[.agg #[.bool x1.neg, .slice x1.a x1.n x1.c, .slice x1.b x1.m x1.d, .bool x2.neg, .slice x2.a x2.n x2.c, .slice x2.b x2.m x2.d, .bool x3.neg, .slice x3.a x3.n x3.c, .slice x3.b x3.m x3.d, .bool x4.neg, .slice x4.a x4.n x4.c, .slice x4.b x4.m x4.d], .agg #[.bool x5.neg, .slice x5.a x5.n x5.c, .slice x5.b x5.m x5.d, .bool x6.neg, .slice x6.a x6.n x6.c, .slice x6.b x6.m x6.d, .bool x7.neg, .slice x7.a x7.n x7.c, .slice x7.b x7.m x7.d, .bool x8.neg, .slice x8.a x8.n x8.c, .slice x8.b x8.m x8.d]] w (RetI4 ((k) + (k) + 1) ((vecI A B C D).1.1) ((vecI A B C D).1.2) ((vecI A B C D).2.1) ((vecI A B C D).2.2) w) := by
 have R1 := Lib.hid (fun W (hW : Below w.heap.size w W) => H1.ext (Ext.below hW))
 have R2 := Lib.hid (fun W (hW : Below w.heap.size w W) => H2.ext (Ext.below hW))
 have R3 := Lib.hid (fun W (hW : Below w.heap.size w W) => H3.ext (Ext.below hW))
 have R4 := Lib.hid (fun W (hW : Below w.heap.size w W) => H4.ext (Ext.below hW))
 have R5 := Lib.hid (fun W (hW : Below w.heap.size w W) => H5.ext (Ext.below hW))
 have R6 := Lib.hid (fun W (hW : Below w.heap.size w W) => H6.ext (Ext.below hW))
 have R7 := Lib.hid (fun W (hW : Below w.heap.size w W) => H7.ext (Ext.below hW))
 have R8 := Lib.hid (fun W (hW : Below w.heap.size w W) => H8.ext (Ext.below hW))
 clear H1 H2 H3 H4 H5 H6 H7 H8
 go_enter Tryz.func72, Tryz.ntmps72
 go_wp2
 refine world_gen (fun W => Blk W w.heap.size 75 #[.bool x1.neg, .slice x1.a x1.n x1.c, .slice x1.b x1.m x1.d, .bool x2.neg, .slice x2.a x2.n x2.c, .slice x2.b x2.m x2.d, .bool x3.neg, .slice x3.a x3.n x3.c, .slice x3.b x3.m x3.d, .bool x4.neg, .slice x4.a x4.n x4.c, .slice x4.b x4.m x4.d] ∧ Blk W (w.heap.size + 1) 75 #[.bool x5.neg, .slice x5.a x5.n x5.c, .slice x5.b x5.m x5.d, .bool x6.neg, .slice x6.a x6.n x6.c, .slice x6.b x6.m x6.d, .bool x7.neg, .slice x7.a x7.n x7.c, .slice x7.b x7.m x7.d, .bool x8.neg, .slice x8.a x8.n x8.c, .slice x8.b x8.m x8.d] ∧ Blk W (w.heap.size + 1 + 1) 126 #[.bool false, .slice none 0 0, .slice none 0 0, .bool false, .slice none 0 0, .slice none 0 0, .bool false, .slice none 0 0, .slice none 0 0, .bool false, .slice none 0 0, .slice none 0 0] ∧ Below w.heap.size w W ∧ w.heap.size < w.heap.size + 1 + 1 ∧ w.heap.size + 1 + 1 < W.heap.size) ⟨by ((repeat first|with_reducible assumption|((with_reducible apply Blk.farAt);focus omega)|with_reducible apply Blk.setb|((with_reducible apply Blk.newAt);focus (simp;done))|with_reducible apply Blk.alloc|with_reducible apply Blk.drew);all_goals (show @Eq (Array Value) _ _;rfl)), by ((repeat first|with_reducible assumption|((with_reducible apply Blk.farAt);focus omega)|with_reducible apply Blk.setb|((with_reducible apply Blk.newAt);focus (simp;done))|with_reducible apply Blk.alloc|with_reducible apply Blk.drew);all_goals (show @Eq (Array Value) _ _;rfl)), by ((repeat first|with_reducible assumption|((with_reducible apply Blk.farAt);focus omega)|with_reducible apply Blk.setb|((with_reducible apply Blk.newAt);focus (simp;done))|with_reducible apply Blk.alloc|with_reducible apply Blk.drew);all_goals (show @Eq (Array Value) _ _;rfl)), by go_grown, by omega, by simp⟩ ?_
 rintro w0 ⟨h0, h1, h2, hw0, hg, hgw⟩
 revert h0 h1 h2 hg hgw
 generalize w.heap.size + 1 + 1 = g2
 generalize w.heap.size + 1 = g1
 intro h0 h1 h2 hg hgw
 have k0_0 := held (h0.cell 0)
 have k0_1 := held (h0.cell 1)
 have k0_2 := held (h0.cell 2)
 have k0_3 := held (h0.cell 3)
 have k0_4 := held (h0.cell 4)
 have k0_5 := held (h0.cell 5)
 have k0_6 := held (h0.cell 6)
 have k0_7 := held (h0.cell 7)
 have k0_8 := held (h0.cell 8)
 have k0_9 := held (h0.cell 9)
 have k0_10 := held (h0.cell 10)
 have k0_11 := held (h0.cell 11)
 have k1_0 := held (h1.cell 0)
 have k1_1 := held (h1.cell 1)
 have k1_2 := held (h1.cell 2)
 have k1_3 := held (h1.cell 3)
 have k1_4 := held (h1.cell 4)
 have k1_5 := held (h1.cell 5)
 have k1_6 := held (h1.cell 6)
 have k1_7 := held (h1.cell 7)
 have k1_8 := held (h1.cell 8)
 have k1_9 := held (h1.cell 9)
 have k1_10 := held (h1.cell 10)
 have k1_11 := held (h1.cell 11)
 have s0 : Below w0.heap.size w0 w0.drew := (Below.refl _ _).drew
 have n0 : w0.heap.size ≤ w0.drew.heap.size := Nat.le_refl _
 refine wp_region_mix (S := Below w0.heap.size w0) [(0, .q), (1, .q), (2, .q), (3, .q), (5, .q), (6, .q), (7, .q), (8, .q), (4, .l), (9, .t), (10, .p), (11, .t)] (by kernel_rfl) (by kernel_rfl) (by kernel_rfl) (fun d _ _ _ _ h => by cases d <;> exact h) (s0) ?_
 iterate 8 (refine wpMix_q rfl rfl (fun K hK => ?_); apply Exists.intro; refine ⟨fun w' hw' => ?_, ?_⟩; (focus (go_simp; try rfl)); go_simp; refine hK _ _ ?_; clear hK K)
 refine wpMix_l rfl rfl (fun K hK => ?_)
 go_simp
 refine (isub_i x5 x6 x1 x2 C A (k) _ (R5.out _ (below_then hw0 s0)) (R6.out _ (below_then hw0 s0)) (R1.out _ (below_then hw0 s0)) (R2.out _ (below_then hw0 s0)) (by omega)).mono ?_
 rintro r w1 ⟨z1_1, z1_2, rfl, J1_1, J1_2, hb1⟩
 dsimp only
 refine hK.out _ _ (below_then s0 hb1) (fun _ => ?_)
 clear hK K
 have s1 := below_then s0 hb1
 have n1 := s1.size
 have K1_1 := Lib.hid J1_1
 have K1_2 := Lib.hid J1_2
 clear J1_1 J1_2
 refine wpMix_t rfl rfl (fun K hK => ?_)
 go_simp
 refine (isub_i x7 x8 x3 x4 D B (k) _ (R7.out _ (below_then hw0 s1)) (R8.out _ (below_then hw0 s1)) (R3.out _ (below_then hw0 s1)) (R4.out _ (below_then hw0 s1)) (by omega)).mono ?_
 rintro r w2 ⟨z2_1, z2_2, rfl, J2_1, J2_2, hb2⟩
 dsimp only
 refine hK.out _ _ ?_
 clear hK K
 have s2 := below_then s1 hb2
 have n2 := s2.size
 have K2_1 := Lib.hid J2_1
 have K2_2 := Lib.hid J2_2
 clear J2_1 J2_2
 iterate 1 (refine wpMix_p rfl rfl (fun K hK => ?_); apply Exists.intro; refine ⟨fun w' => ?_, ?_⟩; (focus (go_simp; try rfl)); go_simp; refine hK _ _ ?_; clear hK K)
 have hz := h2.below' s2
 have hw1 := below_then hw0 s2
 clear k0_0 k0_1 k0_2 k0_3 k0_4 k0_5 k0_6 k0_7 k0_8 k0_9 k0_10 k0_11 k1_0 k1_1 k1_2 k1_3 k1_4 k1_5 k1_6 k1_7 k1_8 k1_9 k1_10 k1_11
 have y0 := hz.cell 0; have f0 := hz.frozen 0
 have y1 := hz.cell 1; have f1 := hz.frozen 1
 have y2 := hz.cell 2; have f2 := hz.frozen 2
 have y3 := hz.cell 3; have f3 := hz.frozen 3
 have y4 := hz.cell 4; have f4 := hz.frozen 4
 have y5 := hz.cell 5; have f5 := hz.frozen 5
 have y6 := hz.cell 6; have f6 := hz.frozen 6
 have y7 := hz.cell 7; have f7 := hz.frozen 7
 have y8 := hz.cell 8; have f8 := hz.frozen 8
 have y9 := hz.cell 9; have f9 := hz.frozen 9
 have y10 := hz.cell 10; have f10 := hz.frozen 10
 have y11 := hz.cell 11; have f11 := hz.frozen 11
 refine wpMix_t rfl rfl (fun K hK => ?_)
 go_simp
 refine hK.out _ _ ?_
 clear hK K
 refine wpMix_nil ?_
 go_wp2
 have E1_1 := Lib.hid (K1_1.out.call hb2)
 have E1_2 := Lib.hid (K1_2.out.call hb2)
 refine world_gen (fun W => Blk W g2 126 #[.bool z1_1.neg, .slice z1_1.a z1_1.n z1_1.c, .slice z1_1.b z1_1.m z1_1.d, .bool z1_2.neg, .slice z1_2.a z1_2.n z1_2.c, .slice z1_2.b z1_2.m z1_2.d, .bool z2_1.neg, .slice z2_1.a z2_1.n z2_1.c, .slice z2_1.b z2_1.m z2_1.d, .bool z2_2.neg, .slice z2_2.a z2_2.n z2_2.c, .slice z2_2.b z2_2.m z2_2.d] ∧ Below w.heap.size w W ∧ Kp (fun V => QK ((k) + (k) + 1) V z1_1 ((subI C A).1)) w0.drew.heap.size w1.heap.size W ∧ Kp (fun V => QK ((k) + (k) + 1) V z1_2 ((subI C A).2)) w0.drew.heap.size w1.heap.size W ∧ Kp (fun V => QK ((k) + (k) + 1) V z2_1 ((subI D B).1)) w1.heap.size w2.heap.size W ∧ Kp (fun V => QK ((k) + (k) + 1) V z2_2 ((subI D B).2)) w1.heap.size w2.heap.size W) ⟨Blk.set12 hz, by go_grown, by (repeat (first | (with_reducible exact E1_1.out) | ((with_reducible refine Kp.setc ?_ ?_); (focus omega)) | (with_reducible refine Kp.alloc ?_) | (with_reducible refine Kp.drew ?_))), by (repeat (first | (with_reducible exact E1_2.out) | ((with_reducible refine Kp.setc ?_ ?_); (focus omega)) | (with_reducible refine Kp.alloc ?_) | (with_reducible refine Kp.drew ?_))), by (repeat (first | (with_reducible exact K2_1.out) | ((with_reducible refine Kp.setc ?_ ?_); (focus omega)) | (with_reducible refine Kp.alloc ?_) | (with_reducible refine Kp.drew ?_))), by (repeat (first | (with_reducible exact K2_2.out) | ((with_reducible refine Kp.setc ?_ ?_); (focus omega)) | (with_reducible refine Kp.alloc ?_) | (with_reducible refine Kp.drew ?_)))⟩ ?_
 rintro wF ⟨hF, hwF, L0, L1, L2, L3⟩
 have e0 := hF.cell 0
 have e1 := hF.cell 1
 have e2 := hF.cell 2
 have e3 := hF.cell 3
 have e4 := hF.cell 4
 have e5 := hF.cell 5
 have e6 := hF.cell 6
 have e7 := hF.cell 7
 have e8 := hF.cell 8
 have e9 := hF.cell 9
 have e10 := hF.cell 10
 have e11 := hF.cell 11
 refine bodyPost_ret (v := .agg #[.bool z1_1.neg, .slice z1_1.a z1_1.n z1_1.c, .slice z1_1.b z1_1.m z1_1.d, .bool z1_2.neg, .slice z1_2.a z1_2.n z1_2.c, .slice z1_2.b z1_2.m z1_2.d, .bool z2_1.neg, .slice z2_1.a z2_1.n z2_1.c, .slice z2_1.b z2_1.m z2_1.d, .bool z2_2.neg, .slice z2_2.a z2_2.n z2_2.c, .slice z2_2.b z2_2.m z2_2.d]) (by simp [results, Tryz.results72, go_sem, e0, e1, e2, e3, e4, e5, e6, e7, e8, e9, e10, e11]) rfl ?_
 exact ⟨z1_1, z1_2, z2_1, z2_2, rfl, Kp.made ((L0.imp fun _ h => QK.more h (by omega)).fin (show w.heap.size ≤ _ from Nat.le_trans hw0.size n0)), Kp.made ((L1.imp fun _ h => QK.more h (by omega)).fin (show w.heap.size ≤ _ from Nat.le_trans hw0.size n0)), Kp.made ((L2.imp fun _ h => QK.more h (by omega)).fin (show w.heap.size ≤ _ from Nat.le_trans hw0.size n1)), Kp.made ((L3.imp fun _ h => QK.more h (by omega)).fin (show w.heap.size ≤ _ from Nat.le_trans hw0.size n1)), hwF⟩
set_option maxRecDepth 100000 in
set_option maxHeartbeats 4000000 in
theorem cross_q (x1 x2 x3 x4 x5 x6 x7 x8 : QA) (A B C D : Iq) (k : Nat) (w : World) (H1 : QK k w x1 A.1) (H2 : QK k w x2 A.2) (H3 : QK k w x3 B.1) (H4 : QK k w x4 B.2) (H5 : QK k w x5 C.1) (H6 : QK k w x6 C.2) (H7 : QK k w x7 D.1) (H8 : QK k w x8 D.2) (hk : k ≤ 2000) :
  Calls Tryz.prog 73 #[.agg #[.bool x1.neg, .slice x1.a x1.n x1.c, .slice x1.b x1.m x1.d, .bool x2.neg, .slice x2.a x2.n x2.c, .slice x2.b x2.m x2.d, .bool x3.neg, .slice x3.a x3.n x3.c, .slice x3.b x3.m x3.d, .bool x4.neg, .slice x4.a x4.n x4.c, .slice x4.b x4.m x4.d], .agg #[.bool x5.neg, .slice x5.a x5.n x5.c, .slice x5.b x5.m x5.d, .bool x6.neg, .slice x6.a x6.n x6.c, .slice x6.b x6.m x6.d, .bool x7.neg, .slice x7.a x7.n x7.c, .slice x7.b x7.m x7.d, .bool x8.neg, .slice x8.a x8.n x8.c, .slice x8.b x8.m x8.d]] w (RetI2 (((k) + (k)) + ((k) + (k)) + 1) ((crossI A B C D).1) ((crossI A B C D).2) w) := by
 have R1 := Lib.hid (fun W (hW : Below w.heap.size w W) => H1.ext (Ext.below hW))
 have R2 := Lib.hid (fun W (hW : Below w.heap.size w W) => H2.ext (Ext.below hW))
 have R3 := Lib.hid (fun W (hW : Below w.heap.size w W) => H3.ext (Ext.below hW))
 have R4 := Lib.hid (fun W (hW : Below w.heap.size w W) => H4.ext (Ext.below hW))
 have R5 := Lib.hid (fun W (hW : Below w.heap.size w W) => H5.ext (Ext.below hW))
 have R6 := Lib.hid (fun W (hW : Below w.heap.size w W) => H6.ext (Ext.below hW))
 have R7 := Lib.hid (fun W (hW : Below w.heap.size w W) => H7.ext (Ext.below hW))
 have R8 := Lib.hid (fun W (hW : Below w.heap.size w W) => H8.ext (Ext.below hW))
 clear H1 H2 H3 H4 H5 H6 H7 H8
 go_enter Tryz.func73, Tryz.ntmps73
 go_wp2
 refine world_gen (fun W => Blk W w.heap.size 126 #[.bool x1.neg, .slice x1.a x1.n x1.c, .slice x1.b x1.m x1.d, .bool x2.neg, .slice x2.a x2.n x2.c, .slice x2.b x2.m x2.d, .bool x3.neg, .slice x3.a x3.n x3.c, .slice x3.b x3.m x3.d, .bool x4.neg, .slice x4.a x4.n x4.c, .slice x4.b x4.m x4.d] ∧ Blk W (w.heap.size + 1) 126 #[.bool x5.neg, .slice x5.a x5.n x5.c, .slice x5.b x5.m x5.d, .bool x6.neg, .slice x6.a x6.n x6.c, .slice x6.b x6.m x6.d, .bool x7.neg, .slice x7.a x7.n x7.c, .slice x7.b x7.m x7.d, .bool x8.neg, .slice x8.a x8.n x8.c, .slice x8.b x8.m x8.d] ∧ Blk W (w.heap.size + 1 + 1) 73 #[.bool false, .slice none 0 0, .slice none 0 0, .bool false, .slice none 0 0, .slice none 0 0] ∧ Below w.heap.size w W ∧ w.heap.size < w.heap.size + 1 + 1 ∧ w.heap.size + 1 + 1 < W.heap.size) ⟨by ((repeat first|with_reducible assumption|((with_reducible apply Blk.farAt);focus omega)|with_reducible apply Blk.setb|((with_reducible apply Blk.newAt);focus (simp;done))|with_reducible apply Blk.alloc|with_reducible apply Blk.drew);all_goals (show @Eq (Array Value) _ _;rfl)), by ((repeat first|with_reducible assumption|((with_reducible apply Blk.farAt);focus omega)|with_reducible apply Blk.setb|((with_reducible apply Blk.newAt);focus (simp;done))|with_reducible apply Blk.alloc|with_reducible apply Blk.drew);all_goals (show @Eq (Array Value) _ _;rfl)), by ((repeat first|with_reducible assumption|((with_reducible apply Blk.farAt);focus omega)|with_reducible apply Blk.setb|((with_reducible apply Blk.newAt);focus (simp;done))|with_reducible apply Blk.alloc|with_reducible apply Blk.drew);all_goals (show @Eq (Array Value) _ _;rfl)), by go_grown, by omega, by simp⟩ ?_
 rintro w0 ⟨h0, h1, h2, hw0, hg, hgw⟩
 revert h0 h1 h2 hg hgw
 generalize w.heap.size + 1 + 1 = g2
 generalize w.heap.size + 1 = g1
 intro h0 h1 h2 hg hgw
 have k0_0 := held (h0.cell 0)
 have k0_1 := held (h0.cell 1)
 have k0_2 := held (h0.cell 2)
 have k0_3 := held (h0.cell 3)
 have k0_4 := held (h0.cell 4)
 have k0_5 := held (h0.cell 5)
 have k0_6 := held (h0.cell 6)
 have k0_7 := held (h0.cell 7)
 have k0_8 := held (h0.cell 8)
 have k0_9 := held (h0.cell 9)
 have k0_10 := held (h0.cell 10)
 have k0_11 := held (h0.cell 11)
 have k1_0 := held (h1.cell 0)
 have k1_1 := held (h1.cell 1)
 have k1_2 := held (h1.cell 2)
 have k1_3 := held (h1.cell 3)
 have k1_4 := held (h1.cell 4)
 have k1_5 := held (h1.cell 5)
 have k1_6 := held (h1.cell 6)
 have k1_7 := held (h1.cell 7)
 have k1_8 := held (h1.cell 8)
 have k1_9 := held (h1.cell 9)
 have k1_10 := held (h1.cell 10)
 have k1_11 := held (h1.cell 11)
 have s0 : Below w0.heap.size w0 w0.drew := (Below.refl _ _).drew
 have n0 : w0.heap.size ≤ w0.drew.heap.size := Nat.le_refl _
 refine wp_region_mix (S := Below w0.heap.size w0) [(0, .q), (1, .q), (2, .q), (3, .q), (5, .q), (6, .q), (7, .q), (8, .q), (4, .l), (9, .t), (10, .t), (11, .t)] (by kernel_rfl) (by kernel_rfl) (by kernel_rfl) (fun d _ _ _ _ h => by cases d <;> exact h) (s0) ?_
 iterate 8 (refine wpMix_q rfl rfl (fun K hK => ?_); apply Exists.intro; refine ⟨fun w' hw' => ?_, ?_⟩; (focus (go_simp; try rfl)); go_simp; refine hK _ _ ?_; clear hK K)
 refine wpMix_l rfl rfl (fun K hK => ?_)
 go_simp
 refine (imul_i x1 x2 x7 x8 A D (k) _ (R1.out _ (below_then hw0 s0)) (R2.out _ (below_then hw0 s0)) (R7.out _ (below_then hw0 s0)) (R8.out _ (below_then hw0 s0)) (by omega)).mono ?_
 rintro r w1 ⟨z1_1, z1_2, rfl, J1_1, J1_2, hb1⟩
 dsimp only
 refine hK.out _ _ (below_then s0 hb1) (fun _ => ?_)
 clear hK K
 have s1 := below_then s0 hb1
 have n1 := s1.size
 have K1_1 := Lib.hid J1_1
 have K1_2 := Lib.hid J1_2
 clear J1_1 J1_2
 refine wpMix_t rfl rfl (fun K hK => ?_)
 go_simp
 refine (imul_i x3 x4 x5 x6 B C (k) _ (R3.out _ (below_then hw0 s1)) (R4.out _ (below_then hw0 s1)) (R5.out _ (below_then hw0 s1)) (R6.out _ (below_then hw0 s1)) (by omega)).mono ?_
 rintro r w2 ⟨z2_1, z2_2, rfl, J2_1, J2_2, hb2⟩
 dsimp only
 refine hK.out _ _ ?_
 clear hK K
 have s2 := below_then s1 hb2
 have n2 := s2.size
 have K2_1 := Lib.hid J2_1
 have K2_2 := Lib.hid J2_2
 clear J2_1 J2_2
 refine wpMix_t rfl rfl (fun K hK => ?_)
 go_simp
 refine (isub_i z1_1 z1_2 z2_1 z2_2 (mulI A D) (mulI B C) ((k) + (k)) _ (K1_1.out.call hb2).now (K1_2.out.call hb2).now K2_1.out.now K2_2.out.now (by omega)).mono ?_
 rintro r w3 ⟨z3_1, z3_2, rfl, J3_1, J3_2, hb3⟩
 dsimp only
 refine hK.out _ _ ?_
 clear hK K
 have s3 := below_then s2 hb3
 have n3 := s3.size
 have K3_1 := Lib.hid J3_1
 have K3_2 := Lib.hid J3_2
 clear J3_1 J3_2
 have hz := h2.below' s3
 have hw1 := below_then hw0 s3
 clear k0_0 k0_1 k0_2 k0_3 k0_4 k0_5 k0_6 k0_7 k0_8 k0_9 k0_10 k0_11 k1_0 k1_1 k1_2 k1_3 k1_4 k1_5 k1_6 k1_7 k1_8 k1_9 k1_10 k1_11
 have y0 := hz.cell 0; have f0 := hz.frozen 0
 have y1 := hz.cell 1; have f1 := hz.frozen 1
 have y2 := hz.cell 2; have f2 := hz.frozen 2
 have y3 := hz.cell 3; have f3 := hz.frozen 3
 have y4 := hz.cell 4; have f4 := hz.frozen 4
 have y5 := hz.cell 5; have f5 := hz.frozen 5
 refine wpMix_t rfl rfl (fun K hK => ?_)
 go_simp
 refine hK.out _ _ ?_
 clear hK K
 refine wpMix_nil ?_
 go_wp2
 refine world_gen (fun W => Blk W g2 73 #[.bool z3_1.neg, .slice z3_1.a z3_1.n z3_1.c, .slice z3_1.b z3_1.m z3_1.d, .bool z3_2.neg, .slice z3_2.a z3_2.n z3_2.c, .slice z3_2.b z3_2.m z3_2.d] ∧ Below w.heap.size w W ∧ Kp (fun V => QK (((k) + (k)) + ((k) + (k)) + 1) V z3_1 ((subI (mulI A D) (mulI B C)).1)) w2.heap.size w3.heap.size W ∧ Kp (fun V => QK (((k) + (k)) + ((k) + (k)) + 1) V z3_2 ((subI (mulI A D) (mulI B C)).2)) w2.heap.size w3.heap.size W) ⟨by ((repeat first|with_reducible assumption|((with_reducible apply Blk.farAt);focus omega)|with_reducible apply Blk.setb|((with_reducible apply Blk.newAt);focus (simp;done))|with_reducible apply Blk.alloc|with_reducible apply Blk.drew);all_goals (show @Eq (Array Value) _ _;rfl)), by go_grown, by (repeat (first | (with_reducible exact K3_1.out) | ((with_reducible refine Kp.setc ?_ ?_); (focus omega)) | (with_reducible refine Kp.alloc ?_) | (with_reducible refine Kp.drew ?_))), by (repeat (first | (with_reducible exact K3_2.out) | ((with_reducible refine Kp.setc ?_ ?_); (focus omega)) | (with_reducible refine Kp.alloc ?_) | (with_reducible refine Kp.drew ?_)))⟩ ?_
 rintro wF ⟨hF, hwF, L0, L1⟩
 have e0 := hF.cell 0
 have e1 := hF.cell 1
 have e2 := hF.cell 2
 have e3 := hF.cell 3
 have e4 := hF.cell 4
 have e5 := hF.cell 5
 refine bodyPost_ret (v := .agg #[.bool z3_1.neg, .slice z3_1.a z3_1.n z3_1.c, .slice z3_1.b z3_1.m z3_1.d, .bool z3_2.neg, .slice z3_2.a z3_2.n z3_2.c, .slice z3_2.b z3_2.m z3_2.d]) (by simp [results, Tryz.results73, go_sem, e0, e1, e2, e3, e4, e5]) rfl ?_
 exact ⟨z3_1, z3_2, rfl, Kp.made ((L0.imp fun _ h => QK.more h (by omega)).fin (show w.heap.size ≤ _ from Nat.le_trans hw0.size n2)), Kp.made ((L1.imp fun _ h => QK.more h (by omega)).fin (show w.heap.size ≤ _ from Nat.le_trans hw0.size n2)), hwF⟩
set_option maxRecDepth 100000 in
set_option maxHeartbeats 4000000 in
theorem dot_q (x1 x2 x3 x4 x5 x6 x7 x8 : QA) (A B C D : Iq) (k : Nat) (w : World) (H1 : QK k w x1 A.1) (H2 : QK k w x2 A.2) (H3 : QK k w x3 B.1) (H4 : QK k w x4 B.2) (H5 : QK k w x5 C.1) (H6 : QK k w x6 C.2) (H7 : QK k w x7 D.1) (H8 : QK k w x8 D.2) (hk : k ≤ 2000) :
  Calls Tryz.prog 74 #[.agg #[.bool x1.neg, .slice x1.a x1.n x1.c, .slice x1.b x1.m x1.d, .bool x2.neg, .slice x2.a x2.n x2.c, .slice x2.b x2.m x2.d, .bool x3.neg, .slice x3.a x3.n x3.c, .slice x3.b x3.m x3.d, .bool x4.neg, .slice x4.a x4.n x4.c, .slice x4.b x4.m x4.d], .agg #[.bool x5.neg, .slice x5.a x5.n x5.c, .slice x5.b x5.m x5.d, .bool x6.neg, .slice x6.a x6.n x6.c, .slice x6.b x6.m x6.d, .bool x7.neg, .slice x7.a x7.n x7.c, .slice x7.b x7.m x7.d, .bool x8.neg, .slice x8.a x8.n x8.c, .slice x8.b x8.m x8.d]] w (RetI2 (((k) + (k)) + ((k) + (k)) + 1) ((dotI A B C D).1) ((dotI A B C D).2) w) := by
 have R1 := Lib.hid (fun W (hW : Below w.heap.size w W) => H1.ext (Ext.below hW))
 have R2 := Lib.hid (fun W (hW : Below w.heap.size w W) => H2.ext (Ext.below hW))
 have R3 := Lib.hid (fun W (hW : Below w.heap.size w W) => H3.ext (Ext.below hW))
 have R4 := Lib.hid (fun W (hW : Below w.heap.size w W) => H4.ext (Ext.below hW))
 have R5 := Lib.hid (fun W (hW : Below w.heap.size w W) => H5.ext (Ext.below hW))
 have R6 := Lib.hid (fun W (hW : Below w.heap.size w W) => H6.ext (Ext.below hW))
 have R7 := Lib.hid (fun W (hW : Below w.heap.size w W) => H7.ext (Ext.below hW))
 have R8 := Lib.hid (fun W (hW : Below w.heap.size w W) => H8.ext (Ext.below hW))
 clear H1 H2 H3 H4 H5 H6 H7 H8
 go_enter Tryz.func74, Tryz.ntmps74
 go_wp2
 refine world_gen (fun W => Blk W w.heap.size 126 #[.bool x1.neg, .slice x1.a x1.n x1.c, .slice x1.b x1.m x1.d, .bool x2.neg, .slice x2.a x2.n x2.c, .slice x2.b x2.m x2.d, .bool x3.neg, .slice x3.a x3.n x3.c, .slice x3.b x3.m x3.d, .bool x4.neg, .slice x4.a x4.n x4.c, .slice x4.b x4.m x4.d] ∧ Blk W (w.heap.size + 1) 126 #[.bool x5.neg, .slice x5.a x5.n x5.c, .slice x5.b x5.m x5.d, .bool x6.neg, .slice x6.a x6.n x6.c, .slice x6.b x6.m x6.d, .bool x7.neg, .slice x7.a x7.n x7.c, .slice x7.b x7.m x7.d, .bool x8.neg, .slice x8.a x8.n x8.c, .slice x8.b x8.m x8.d] ∧ Blk W (w.heap.size + 1 + 1) 73 #[.bool false, .slice none 0 0, .slice none 0 0, .bool false, .slice none 0 0, .slice none 0 0] ∧ Below w.heap.size w W ∧ w.heap.size < w.heap.size + 1 + 1 ∧ w.heap.size + 1 + 1 < W.heap.size) ⟨by ((repeat first|with_reducible assumption|((with_reducible apply Blk.farAt);focus omega)|with_reducible apply Blk.setb|((with_reducible apply Blk.newAt);focus (simp;done))|with_reducible apply Blk.alloc|with_reducible apply Blk.drew);all_goals (show @Eq (Array Value) _ _;rfl)), by ((repeat first|with_reducible assumption|((with_reducible apply Blk.farAt);focus omega)|with_reducible apply Blk.setb|((with_reducible apply Blk.newAt);focus (simp;done))|with_reducible apply Blk.alloc|with_reducible apply Blk.drew);all_goals (show @Eq (Array Value) _ _;rfl)), by ((repeat first|with_reducible assumption|((with_reducible apply Blk.farAt);focus omega)|with_reducible apply Blk.setb|((with_reducible apply Blk.newAt);focus (simp;done))|with_reducible apply Blk.alloc|with_reducible apply Blk.drew);all_goals (show @Eq (Array Value) _ _;rfl)), by go_grown, by omega, by simp⟩ ?_
 rintro w0 ⟨h0, h1, h2, hw0, hg, hgw⟩
 revert h0 h1 h2 hg hgw
 generalize w.heap.size + 1 + 1 = g2
 generalize w.heap.size + 1 = g1
 intro h0 h1 h2 hg hgw
 have k0_0 := held (h0.cell 0)
 have k0_1 := held (h0.cell 1)
 have k0_2 := held (h0.cell 2)
 have k0_3 := held (h0.cell 3)
 have k0_4 := held (h0.cell 4)
 have k0_5 := held (h0.cell 5)
 have k0_6 := held (h0.cell 6)
 have k0_7 := held (h0.cell 7)
 have k0_8 := held (h0.cell 8)
 have k0_9 := held (h0.cell 9)
 have k0_10 := held (h0.cell 10)
 have k0_11 := held (h0.cell 11)
 have k1_0 := held (h1.cell 0)
 have k1_1 := held (h1.cell 1)
 have k1_2 := held (h1.cell 2)
 have k1_3 := held (h1.cell 3)
 have k1_4 := held (h1.cell 4)
 have k1_5 := held (h1.cell 5)
 have k1_6 := held (h1.cell 6)
 have k1_7 := held (h1.cell 7)
 have k1_8 := held (h1.cell 8)
 have k1_9 := held (h1.cell 9)
 have k1_10 := held (h1.cell 10)
 have k1_11 := held (h1.cell 11)
 have s0 : Below w0.heap.size w0 w0.drew := (Below.refl _ _).drew
 have n0 : w0.heap.size ≤ w0.drew.heap.size := Nat.le_refl _
 refine wp_region_mix (S := Below w0.heap.size w0) [(0, .q), (1, .q), (2, .q), (3, .q), (5, .q), (6, .q), (7, .q), (8, .q), (4, .l), (9, .t), (10, .t), (11, .t)] (by kernel_rfl) (by kernel_rfl) (by kernel_rfl) (fun d _ _ _ _ h => by cases d <;> exact h) (s0) ?_
 iterate 8 (refine wpMix_q rfl rfl (fun K hK => ?_); apply Exists.intro; refine ⟨fun w' hw' => ?_, ?_⟩; (focus (go_simp; try rfl)); go_simp; refine hK _ _ ?_; clear hK K)
 refine wpMix_l rfl rfl (fun K hK => ?_)
 go_simp
 refine (imul_i x1 x2 x5 x6 A C (k) _ (R1.out _ (below_then hw0 s0)) (R2.out _ (below_then hw0 s0)) (R5.out _ (below_then hw0 s0)) (R6.out _ (below_then hw0 s0)) (by omega)).mono ?_
 rintro r w1 ⟨z1_1, z1_2, rfl, J1_1, J1_2, hb1⟩
 dsimp only
 refine hK.out _ _ (below_then s0 hb1) (fun _ => ?_)
 clear hK K
 have s1 := below_then s0 hb1
 have n1 := s1.size
 have K1_1 := Lib.hid J1_1
 have K1_2 := Lib.hid J1_2
 clear J1_1 J1_2
 refine wpMix_t rfl rfl (fun K hK => ?_)
 go_simp
 refine (imul_i x3 x4 x7 x8 B D (k) _ (R3.out _ (below_then hw0 s1)) (R4.out _ (below_then hw0 s1)) (R7.out _ (below_then hw0 s1)) (R8.out _ (below_then hw0 s1)) (by omega)).mono ?_
 rintro r w2 ⟨z2_1, z2_2, rfl, J2_1, J2_2, hb2⟩
 dsimp only
 refine hK.out _ _ ?_
 clear hK K
 have s2 := below_then s1 hb2
 have n2 := s2.size
 have K2_1 := Lib.hid J2_1
 have K2_2 := Lib.hid J2_2
 clear J2_1 J2_2
 refine wpMix_t rfl rfl (fun K hK => ?_)
 go_simp
 refine (iadd_i z1_1 z1_2 z2_1 z2_2 (mulI A C) (mulI B D) ((k) + (k)) _ (K1_1.out.call hb2).now (K1_2.out.call hb2).now K2_1.out.now K2_2.out.now (by omega)).mono ?_
 rintro r w3 ⟨z3_1, z3_2, rfl, J3_1, J3_2, hb3⟩
 dsimp only
 refine hK.out _ _ ?_
 clear hK K
 have s3 := below_then s2 hb3
 have n3 := s3.size
 have K3_1 := Lib.hid J3_1
 have K3_2 := Lib.hid J3_2
 clear J3_1 J3_2
 have hz := h2.below' s3
 have hw1 := below_then hw0 s3
 clear k0_0 k0_1 k0_2 k0_3 k0_4 k0_5 k0_6 k0_7 k0_8 k0_9 k0_10 k0_11 k1_0 k1_1 k1_2 k1_3 k1_4 k1_5 k1_6 k1_7 k1_8 k1_9 k1_10 k1_11
 have y0 := hz.cell 0; have f0 := hz.frozen 0
 have y1 := hz.cell 1; have f1 := hz.frozen 1
 have y2 := hz.cell 2; have f2 := hz.frozen 2
 have y3 := hz.cell 3; have f3 := hz.frozen 3
 have y4 := hz.cell 4; have f4 := hz.frozen 4
 have y5 := hz.cell 5; have f5 := hz.frozen 5
 refine wpMix_t rfl rfl (fun K hK => ?_)
 go_simp
 refine hK.out _ _ ?_
 clear hK K
 refine wpMix_nil ?_
 go_wp2
 refine world_gen (fun W => Blk W g2 73 #[.bool z3_1.neg, .slice z3_1.a z3_1.n z3_1.c, .slice z3_1.b z3_1.m z3_1.d, .bool z3_2.neg, .slice z3_2.a z3_2.n z3_2.c, .slice z3_2.b z3_2.m z3_2.d] ∧ Below w.heap.size w W ∧ Kp (fun V => QK (((k) + (k)) + ((k) + (k)) + 1) V z3_1 ((addI (mulI A C) (mulI B D)).1)) w2.heap.size w3.heap.size W ∧ Kp (fun V => QK (((k) + (k)) + ((k) + (k)) + 1) V z3_2 ((addI (mulI A C) (mulI B D)).2)) w2.heap.size w3.heap.size W) ⟨by ((repeat first|with_reducible assumption|((with_reducible apply Blk.farAt);focus omega)|with_reducible apply Blk.setb|((with_reducible apply Blk.newAt);focus (simp;done))|with_reducible apply Blk.alloc|with_reducible apply Blk.drew);all_goals (show @Eq (Array Value) _ _;rfl)), by go_grown, by (repeat (first | (with_reducible exact K3_1.out) | ((with_reducible refine Kp.setc ?_ ?_); (focus omega)) | (with_reducible refine Kp.alloc ?_) | (with_reducible refine Kp.drew ?_))), by (repeat (first | (with_reducible exact K3_2.out) | ((with_reducible refine Kp.setc ?_ ?_); (focus omega)) | (with_reducible refine Kp.alloc ?_) | (with_reducible refine Kp.drew ?_)))⟩ ?_
 rintro wF ⟨hF, hwF, L0, L1⟩
 have e0 := hF.cell 0
 have e1 := hF.cell 1
 have e2 := hF.cell 2
 have e3 := hF.cell 3
 have e4 := hF.cell 4
 have e5 := hF.cell 5
 refine bodyPost_ret (v := .agg #[.bool z3_1.neg, .slice z3_1.a z3_1.n z3_1.c, .slice z3_1.b z3_1.m z3_1.d, .bool z3_2.neg, .slice z3_2.a z3_2.n z3_2.c, .slice z3_2.b z3_2.m z3_2.d]) (by simp [results, Tryz.results74, go_sem, e0, e1, e2, e3, e4, e5]) rfl ?_
 exact ⟨z3_1, z3_2, rfl, Kp.made ((L0.imp fun _ h => QK.more h (by omega)).fin (show w.heap.size ≤ _ from Nat.le_trans hw0.size n2)), Kp.made ((L1.imp fun _ h => QK.more h (by omega)).fin (show w.heap.size ≤ _ from Nat.le_trans hw0.size n2)), hwF⟩
set_option maxRecDepth 100000 in
set_option maxHeartbeats 4000000 in
theorem vectorR_q (x1 x2 x3 x4 x5 x6 x7 x8 : QA) (A B C D : Iq) (k : Nat) (w : World) (H1 : QK k w x1 A.1) (H2 : QK k w x2 A.2) (H3 : QK k w x3 B.1) (H4 : QK k w x4 B.2) (H5 : QK k w x5 C.1) (H6 : QK k w x6 C.2) (H7 : QK k w x7 D.1) (H8 : QK k w x8 D.2) (hk : k ≤ 4000) :
  Calls Tryz.prog 85 #[.agg #[.bool x1.neg, .slice x1.a x1.n x1.c, .slice x1.b x1.m x1.d, .bool x2.neg, .slice x2.a x2.n x2.c, .slice x2.b x2.m x2.d, .bool x3.neg, .slice x3.a x3.n x3.c, .slice x3.b x3.m x3.d, .bool x4.neg, .slice x4.a x4.n x4.c, .slice x4.b x4.m x4.d], .agg #[.bool x5.neg, .slice x5.a x5.n x5.c, .slice x5.b x5.m x5.d, .bool x6.neg, .slice x6.a x6.n x6.c, .slice x6.b x6.m x6.d, .bool x7.neg, .slice x7.a x7.n x7.c, .slice x7.b x7.m x7.d, .bool x8.neg, .slice x8.a x8.n x8.c, .slice x8.b x8.m x8.d]] w (RetI4 ((k) + (k) + 1) ((vecI A B C D).1.1) ((vecI A B C D).1.2) ((vecI A B C D).2.1) ((vecI A B C D).2.2) w) := by
 have R1 := Lib.hid (fun W (hW : Below w.heap.size w W) => H1.ext (Ext.below hW))
 have R2 := Lib.hid (fun W (hW : Below w.heap.size w W) => H2.ext (Ext.below hW))
 have R3 := Lib.hid (fun W (hW : Below w.heap.size w W) => H3.ext (Ext.below hW))
 have R4 := Lib.hid (fun W (hW : Below w.heap.size w W) => H4.ext (Ext.below hW))
 have R5 := Lib.hid (fun W (hW : Below w.heap.size w W) => H5.ext (Ext.below hW))
 have R6 := Lib.hid (fun W (hW : Below w.heap.size w W) => H6.ext (Ext.below hW))
 have R7 := Lib.hid (fun W (hW : Below w.heap.size w W) => H7.ext (Ext.below hW))
 have R8 := Lib.hid (fun W (hW : Below w.heap.size w W) => H8.ext (Ext.below hW))
 clear H1 H2 H3 H4 H5 H6 H7 H8
 go_enter Tryz.func85, Tryz.ntmps85
 go_wp2
 refine world_gen (fun W => Blk W w.heap.size 75 #[.bool x1.neg, .slice x1.a x1.n x1.c, .slice x1.b x1.m x1.d, .bool x2.neg, .slice x2.a x2.n x2.c, .slice x2.b x2.m x2.d, .bool x3.neg, .slice x3.a x3.n x3.c, .slice x3.b x3.m x3.d, .bool x4.neg, .slice x4.a x4.n x4.c, .slice x4.b x4.m x4.d] ∧ Blk W (w.heap.size + 1) 75 #[.bool x5.neg, .slice x5.a x5.n x5.c, .slice x5.b x5.m x5.d, .bool x6.neg, .slice x6.a x6.n x6.c, .slice x6.b x6.m x6.d, .bool x7.neg, .slice x7.a x7.n x7.c, .slice x7.b x7.m x7.d, .bool x8.neg, .slice x8.a x8.n x8.c, .slice x8.b x8.m x8.d] ∧ Blk W (w.heap.size + 1 + 1) 75 #[.bool false, .slice none 0 0, .slice none 0 0, .bool false, .slice none 0 0, .slice none 0 0, .bool false, .slice none 0 0, .slice none 0 0, .bool false, .slice none 0 0, .slice none 0 0] ∧ Below w.heap.size w W ∧ w.heap.size < w.heap.size + 1 + 1 ∧ w.heap.size + 1 + 1 < W.heap.size) ⟨by ((repeat first|with_reducible assumption|((with_reducible apply Blk.farAt);focus omega)|with_reducible apply Blk.setb|((with_reducible apply Blk.newAt);focus (simp;done))|with_reducible apply Blk.alloc|with_reducible apply Blk.drew);all_goals (show @Eq (Array Value) _ _;rfl)), by ((repeat first|with_reducible assumption|((with_reducible apply Blk.farAt);focus omega)|with_reducible apply Blk.setb|((with_reducible apply Blk.newAt);focus (simp;done))|with_reducible apply Blk.alloc|with_reducible apply Blk.drew);all_goals (show @Eq (Array Value) _ _;rfl)), by ((repeat first|with_reducible assumption|((with_reducible apply Blk.farAt);focus omega)|with_reducible apply Blk.setb|((with_reducible apply Blk.newAt);focus (simp;done))|with_reducible apply Blk.alloc|with_reducible apply Blk.drew);all_goals (show @Eq (Array Value) _ _;rfl)), by go_grown, by omega, by simp⟩ ?_
 rintro w0 ⟨h0, h1, h2, hw0, hg, hgw⟩
 revert h0 h1 h2 hg hgw
 generalize w.heap.size + 1 + 1 = g2
 generalize w.heap.size + 1 = g1
 intro h0 h1 h2 hg hgw
 have k0_0 := held (h0.cell 0)
 have k0_1 := held (h0.cell 1)
 have k0_2 := held (h0.cell 2)
 have k0_3 := held (h0.cell 3)
 have k0_4 := held (h0.cell 4)
 have k0_5 := held (h0.cell 5)
 have k0_6 := held (h0.cell 6)
 have k0_7 := held (h0.cell 7)
 have k0_8 := held (h0.cell 8)
 have k0_9 := held (h0.cell 9)
 have k0_10 := held (h0.cell 10)
 have k0_11 := held (h0.cell 11)
 have k1_0 := held (h1.cell 0)
 have k1_1 := held (h1.cell 1)
 have k1_2 := held (h1.cell 2)
 have k1_3 := held (h1.cell 3)
 have k1_4 := held (h1.cell 4)
 have k1_5 := held (h1.cell 5)
 have k1_6 := held (h1.cell 6)
 have k1_7 := held (h1.cell 7)
 have k1_8 := held (h1.cell 8)
 have k1_9 := held (h1.cell 9)
 have k1_10 := held (h1.cell 10)
 have k1_11 := held (h1.cell 11)
 have s0 : Below w0.heap.size w0 w0.drew := (Below.refl _ _).drew
 have n0 : w0.heap.size ≤ w0.drew.heap.size := Nat.le_refl _
 refine wp_region_mix (S := Below w0.heap.size w0) [(0, .q), (1, .q), (2, .q), (3, .q), (5, .q), (6, .q), (7, .q), (8, .q), (4, .l), (9, .t), (10, .p), (11, .t)] (by kernel_rfl) (by kernel_rfl) (by kernel_rfl) (fun d _ _ _ _ h => by cases d <;> exact h) (s0) ?_
 iterate 8 (refine wpMix_q rfl rfl (fun K hK => ?_); apply Exists.intro; refine ⟨fun w' hw' => ?_, ?_⟩; (focus (go_simp; try rfl)); go_simp; refine hK _ _ ?_; clear hK K)
 refine wpMix_l rfl rfl (fun K hK => ?_)
 go_simp
 refine (isubR_i x5 x6 x1 x2 C A (k) _ (R5.out _ (below_then hw0 s0)) (R6.out _ (below_then hw0 s0)) (R1.out _ (below_then hw0 s0)) (R2.out _ (below_then hw0 s0)) (by omega)).mono ?_
 rintro r w1 ⟨z1_1, z1_2, rfl, J1_1, J1_2, hb1⟩
 dsimp only
 refine hK.out _ _ (below_then s0 hb1) (fun _ => ?_)
 clear hK K
 have s1 := below_then s0 hb1
 have n1 := s1.size
 have K1_1 := Lib.hid J1_1
 have K1_2 := Lib.hid J1_2
 clear J1_1 J1_2
 refine wpMix_t rfl rfl (fun K hK => ?_)
 go_simp
 refine (isubR_i x7 x8 x3 x4 D B (k) _ (R7.out _ (below_then hw0 s1)) (R8.out _ (below_then hw0 s1)) (R3.out _ (below_then hw0 s1)) (R4.out _ (below_then hw0 s1)) (by omega)).mono ?_
 rintro r w2 ⟨z2_1, z2_2, rfl, J2_1, J2_2, hb2⟩
 dsimp only
 refine hK.out _ _ ?_
 clear hK K
 have s2 := below_then s1 hb2
 have n2 := s2.size
 have K2_1 := Lib.hid J2_1
 have K2_2 := Lib.hid J2_2
 clear J2_1 J2_2
 iterate 1 (refine wpMix_p rfl rfl (fun K hK => ?_); apply Exists.intro; refine ⟨fun w' => ?_, ?_⟩; (focus (go_simp; try rfl)); go_simp; refine hK _ _ ?_; clear hK K)
 have hz := h2.below' s2
 have hw1 := below_then hw0 s2
 clear k0_0 k0_1 k0_2 k0_3 k0_4 k0_5 k0_6 k0_7 k0_8 k0_9 k0_10 k0_11 k1_0 k1_1 k1_2 k1_3 k1_4 k1_5 k1_6 k1_7 k1_8 k1_9 k1_10 k1_11
 have y0 := hz.cell 0; have f0 := hz.frozen 0
 have y1 := hz.cell 1; have f1 := hz.frozen 1
 have y2 := hz.cell 2; have f2 := hz.frozen 2
 have y3 := hz.cell 3; have f3 := hz.frozen 3
 have y4 := hz.cell 4; have f4 := hz.frozen 4
 have y5 := hz.cell 5; have f5 := hz.frozen 5
 have y6 := hz.cell 6; have f6 := hz.frozen 6
 have y7 := hz.cell 7; have f7 := hz.frozen 7
 have y8 := hz.cell 8; have f8 := hz.frozen 8
 have y9 := hz.cell 9; have f9 := hz.frozen 9
 have y10 := hz.cell 10; have f10 := hz.frozen 10
 have y11 := hz.cell 11; have f11 := hz.frozen 11
 refine wpMix_t rfl rfl (fun K hK => ?_)
 go_simp
 refine hK.out _ _ ?_
 clear hK K
 refine wpMix_nil ?_
 go_wp2
 have E1_1 := Lib.hid (K1_1.out.call hb2)
 have E1_2 := Lib.hid (K1_2.out.call hb2)
 refine world_gen (fun W => Blk W g2 75 #[.bool z1_1.neg, .slice z1_1.a z1_1.n z1_1.c, .slice z1_1.b z1_1.m z1_1.d, .bool z1_2.neg, .slice z1_2.a z1_2.n z1_2.c, .slice z1_2.b z1_2.m z1_2.d, .bool z2_1.neg, .slice z2_1.a z2_1.n z2_1.c, .slice z2_1.b z2_1.m z2_1.d, .bool z2_2.neg, .slice z2_2.a z2_2.n z2_2.c, .slice z2_2.b z2_2.m z2_2.d] ∧ Below w.heap.size w W ∧ Kp (fun V => QK ((k) + (k) + 1) V z1_1 ((subI C A).1)) w0.drew.heap.size w1.heap.size W ∧ Kp (fun V => QK ((k) + (k) + 1) V z1_2 ((subI C A).2)) w0.drew.heap.size w1.heap.size W ∧ Kp (fun V => QK ((k) + (k) + 1) V z2_1 ((subI D B).1)) w1.heap.size w2.heap.size W ∧ Kp (fun V => QK ((k) + (k) + 1) V z2_2 ((subI D B).2)) w1.heap.size w2.heap.size W) ⟨Blk.set12 hz, by go_grown, by (repeat (first | (with_reducible exact E1_1.out) | ((with_reducible refine Kp.setc ?_ ?_); (focus omega)) | (with_reducible refine Kp.alloc ?_) | (with_reducible refine Kp.drew ?_))), by (repeat (first | (with_reducible exact E1_2.out) | ((with_reducible refine Kp.setc ?_ ?_); (focus omega)) | (with_reducible refine Kp.alloc ?_) | (with_reducible refine Kp.drew ?_))), by (repeat (first | (with_reducible exact K2_1.out) | ((with_reducible refine Kp.setc ?_ ?_); (focus omega)) | (with_reducible refine Kp.alloc ?_) | (with_reducible refine Kp.drew ?_))), by (repeat (first | (with_reducible exact K2_2.out) | ((with_reducible refine Kp.setc ?_ ?_); (focus omega)) | (with_reducible refine Kp.alloc ?_) | (with_reducible refine Kp.drew ?_)))⟩ ?_
 rintro wF ⟨hF, hwF, L0, L1, L2, L3⟩
 have e0 := hF.cell 0
 have e1 := hF.cell 1
 have e2 := hF.cell 2
 have e3 := hF.cell 3
 have e4 := hF.cell 4
 have e5 := hF.cell 5
 have e6 := hF.cell 6
 have e7 := hF.cell 7
 have e8 := hF.cell 8
 have e9 := hF.cell 9
 have e10 := hF.cell 10
 have e11 := hF.cell 11
 refine bodyPost_ret (v := .agg #[.bool z1_1.neg, .slice z1_1.a z1_1.n z1_1.c, .slice z1_1.b z1_1.m z1_1.d, .bool z1_2.neg, .slice z1_2.a z1_2.n z1_2.c, .slice z1_2.b z1_2.m z1_2.d, .bool z2_1.neg, .slice z2_1.a z2_1.n z2_1.c, .slice z2_1.b z2_1.m z2_1.d, .bool z2_2.neg, .slice z2_2.a z2_2.n z2_2.c, .slice z2_2.b z2_2.m z2_2.d]) (by simp [results, Tryz.results85, go_sem, e0, e1, e2, e3, e4, e5, e6, e7, e8, e9, e10, e11]) rfl ?_
 exact ⟨z1_1, z1_2, z2_1, z2_2, rfl, Kp.made ((L0.imp fun _ h => QK.more h (by omega)).fin (show w.heap.size ≤ _ from Nat.le_trans hw0.size n0)), Kp.made ((L1.imp fun _ h => QK.more h (by omega)).fin (show w.heap.size ≤ _ from Nat.le_trans hw0.size n0)), Kp.made ((L2.imp fun _ h => QK.more h (by omega)).fin (show w.heap.size ≤ _ from Nat.le_trans hw0.size n1)), Kp.made ((L3.imp fun _ h => QK.more h (by omega)).fin (show w.heap.size ≤ _ from Nat.le_trans hw0.size n1)), hwF⟩
set_option maxRecDepth 100000 in
set_option maxHeartbeats 4000000 in
theorem crossR_q (x1 x2 x3 x4 x5 x6 x7 x8 : QA) (A B C D : Iq) (k : Nat) (w : World) (H1 : QK k w x1 A.1) (H2 : QK k w x2 A.2) (H3 : QK k w x3 B.1) (H4 : QK k w x4 B.2) (H5 : QK k w x5 C.1) (H6 : QK k w x6 C.2) (H7 : QK k w x7 D.1) (H8 : QK k w x8 D.2) (hk : k ≤ 2000) :
  Calls Tryz.prog 84 #[.agg #[.bool x1.neg, .slice x1.a x1.n x1.c, .slice x1.b x1.m x1.d, .bool x2.neg, .slice x2.a x2.n x2.c, .slice x2.b x2.m x2.d, .bool x3.neg, .slice x3.a x3.n x3.c, .slice x3.b x3.m x3.d, .bool x4.neg, .slice x4.a x4.n x4.c, .slice x4.b x4.m x4.d], .agg #[.bool x5.neg, .slice x5.a x5.n x5.c, .slice x5.b x5.m x5.d, .bool x6.neg, .slice x6.a x6.n x6.c, .slice x6.b x6.m x6.d, .bool x7.neg, .slice x7.a x7.n x7.c, .slice x7.b x7.m x7.d, .bool x8.neg, .slice x8.a x8.n x8.c, .slice x8.b x8.m x8.d]] w (RetI2 (((k) + (k)) + ((k) + (k)) + 1) ((crossI A B C D).1) ((crossI A B C D).2) w) := by
 have R1 := Lib.hid (fun W (hW : Below w.heap.size w W) => H1.ext (Ext.below hW))
 have R2 := Lib.hid (fun W (hW : Below w.heap.size w W) => H2.ext (Ext.below hW))
 have R3 := Lib.hid (fun W (hW : Below w.heap.size w W) => H3.ext (Ext.below hW))
 have R4 := Lib.hid (fun W (hW : Below w.heap.size w W) => H4.ext (Ext.below hW))
 have R5 := Lib.hid (fun W (hW : Below w.heap.size w W) => H5.ext (Ext.below hW))
 have R6 := Lib.hid (fun W (hW : Below w.heap.size w W) => H6.ext (Ext.below hW))
 have R7 := Lib.hid (fun W (hW : Below w.heap.size w W) => H7.ext (Ext.below hW))
 have R8 := Lib.hid (fun W (hW : Below w.heap.size w W) => H8.ext (Ext.below hW))
 clear H1 H2 H3 H4 H5 H6 H7 H8
 go_enter Tryz.func84, Tryz.ntmps84
 go_wp2
 refine world_gen (fun W => Blk W w.heap.size 75 #[.bool x1.neg, .slice x1.a x1.n x1.c, .slice x1.b x1.m x1.d, .bool x2.neg, .slice x2.a x2.n x2.c, .slice x2.b x2.m x2.d, .bool x3.neg, .slice x3.a x3.n x3.c, .slice x3.b x3.m x3.d, .bool x4.neg, .slice x4.a x4.n x4.c, .slice x4.b x4.m x4.d] ∧ Blk W (w.heap.size + 1) 75 #[.bool x5.neg, .slice x5.a x5.n x5.c, .slice x5.b x5.m x5.d, .bool x6.neg, .slice x6.a x6.n x6.c, .slice x6.b x6.m x6.d, .bool x7.neg, .slice x7.a x7.n x7.c, .slice x7.b x7.m x7.d, .bool x8.neg, .slice x8.a x8.n x8.c, .slice x8.b x8.m x8.d] ∧ Blk W (w.heap.size + 1 + 1) 73 #[.bool false, .slice none 0 0, .slice none 0 0, .bool false, .slice none 0 0, .slice none 0 0] ∧ Below w.heap.size w W ∧ w.heap.size < w.heap.size + 1 + 1 ∧ w.heap.size + 1 + 1 < W.heap.size) ⟨by ((repeat first|with_reducible assumption|((with_reducible apply Blk.farAt);focus omega)|with_reducible apply Blk.setb|((with_reducible apply Blk.newAt);focus (simp;done))|with_reducible apply Blk.alloc|with_reducible apply Blk.drew);all_goals (show @Eq (Array Value) _ _;rfl)), by ((repeat first|with_reducible assumption|((with_reducible apply Blk.farAt);focus omega)|with_reducible apply Blk.setb|((with_reducible apply Blk.newAt);focus (simp;done))|with_reducible apply Blk.alloc|with_reducible apply Blk.drew);all_goals (show @Eq (Array Value) _ _;rfl)), by ((repeat first|with_reducible assumption|((with_reducible apply Blk.farAt);focus omega)|with_reducible apply Blk.setb|((with_reducible apply Blk.newAt);focus (simp;done))|with_reducible apply Blk.alloc|with_reducible apply Blk.drew);all_goals (show @Eq (Array Value) _ _;rfl)), by go_grown, by omega, by simp⟩ ?_
 rintro w0 ⟨h0, h1, h2, hw0, hg, hgw⟩
 revert h0 h1 h2 hg hgw
 generalize w.heap.size + 1 + 1 = g2
 generalize w.heap.size + 1 = g1
 intro h0 h1 h2 hg hgw
 have k0_0 := held (h0.cell 0)
 have k0_1 := held (h0.cell 1)
 have k0_2 := held (h0.cell 2)
 have k0_3 := held (h0.cell 3)
 have k0_4 := held (h0.cell 4)
 have k0_5 := held (h0.cell 5)
 have k0_6 := held (h0.cell 6)
 have k0_7 := held (h0.cell 7)
 have k0_8 := held (h0.cell 8)
 have k0_9 := held (h0.cell 9)
 have k0_10 := held (h0.cell 10)
 have k0_11 := held (h0.cell 11)
 have k1_0 := held (h1.cell 0)
 have k1_1 := held (h1.cell 1)
 have k1_2 := held (h1.cell 2)
 have k1_3 := held (h1.cell 3)
 have k1_4 := held (h1.cell 4)
 have k1_5 := held (h1.cell 5)
 have k1_6 := held (h1.cell 6)
 have k1_7 := held (h1.cell 7)
 have k1_8 := held (h1.cell 8)
 have k1_9 := held (h1.cell 9)
 have k1_10 := held (h1.cell 10)
 have k1_11 := held (h1.cell 11)
 have s0 : Below w0.heap.size w0 w0.drew := (Below.refl _ _).drew
 have n0 : w0.heap.size ≤ w0.drew.heap.size := Nat.le_refl _
 refine wp_region_mix (S := Below w0.heap.size w0) [(0, .q), (1, .q), (2, .q), (3, .q), (5, .q), (6, .q), (7, .q), (8, .q), (4, .l), (9, .t), (10, .t), (11, .t)] (by kernel_rfl) (by kernel_rfl) (by kernel_rfl) (fun d _ _ _ _ h => by cases d <;> exact h) (s0) ?_
 iterate 8 (refine wpMix_q rfl rfl (fun K hK => ?_); apply Exists.intro; refine ⟨fun w' hw' => ?_, ?_⟩; (focus (go_simp; try rfl)); go_simp; refine hK _ _ ?_; clear hK K)
 refine wpMix_l rfl rfl (fun K hK => ?_)
 go_simp
 refine (imulR_i x1 x2 x7 x8 A D (k) _ (R1.out _ (below_then hw0 s0)) (R2.out _ (below_then hw0 s0)) (R7.out _ (below_then hw0 s0)) (R8.out _ (below_then hw0 s0)) (by omega)).mono ?_
 rintro r w1 ⟨z1_1, z1_2, rfl, J1_1, J1_2, hb1⟩
 dsimp only
 refine hK.out _ _ (below_then s0 hb1) (fun _ => ?_)
 clear hK K
 have s1 := below_then s0 hb1
 have n1 := s1.size
 have K1_1 := Lib.hid J1_1
 have K1_2 := Lib.hid J1_2
 clear J1_1 J1_2
 refine wpMix_t rfl rfl (fun K hK => ?_)
 go_simp
 refine (imulR_i x3 x4 x5 x6 B C (k) _ (R3.out _ (below_then hw0 s1)) (R4.out _ (below_then hw0 s1)) (R5.out _ (below_then hw0 s1)) (R6.out _ (below_then hw0 s1)) (by omega)).mono ?_
 rintro r w2 ⟨z2_1, z2_2, rfl, J2_1, J2_2, hb2⟩
 dsimp only
 refine hK.out _ _ ?_
 clear hK K
 have s2 := below_then s1 hb2
 have n2 := s2.size
 have K2_1 := Lib.hid J2_1
 have K2_2 := Lib.hid J2_2
 clear J2_1 J2_2
 refine wpMix_t rfl rfl (fun K hK => ?_)
 go_simp
 refine (isubR_i z1_1 z1_2 z2_1 z2_2 (mulI A D) (mulI B C) ((k) + (k)) _ (K1_1.out.call hb2).now (K1_2.out.call hb2).now K2_1.out.now K2_2.out.now (by omega)).mono ?_
 rintro r w3 ⟨z3_1, z3_2, rfl, J3_1, J3_2, hb3⟩
 dsimp only
 refine hK.out _ _ ?_
 clear hK K
 have s3 := below_then s2 hb3
 have n3 := s3.size
 have K3_1 := Lib.hid J3_1
 have K3_2 := Lib.hid J3_2
 clear J3_1 J3_2
 have hz := h2.below' s3
 have hw1 := below_then hw0 s3
 clear k0_0 k0_1 k0_2 k0_3 k0_4 k0_5 k0_6 k0_7 k0_8 k0_9 k0_10 k0_11 k1_0 k1_1 k1_2 k1_3 k1_4 k1_5 k1_6 k1_7 k1_8 k1_9 k1_10 k1_11
 have y0 := hz.cell 0; have f0 := hz.frozen 0
 have y1 := hz.cell 1; have f1 := hz.frozen 1
 have y2 := hz.cell 2; have f2 := hz.frozen 2
 have y3 := hz.cell 3; have f3 := hz.frozen 3
 have y4 := hz.cell 4; have f4 := hz.frozen 4
 have y5 := hz.cell 5; have f5 := hz.frozen 5
 refine wpMix_t rfl rfl (fun K hK => ?_)
 go_simp
 refine hK.out _ _ ?_
 clear hK K
 refine wpMix_nil ?_
 go_wp2
 refine world_gen (fun W => Blk W g2 73 #[.bool z3_1.neg, .slice z3_1.a z3_1.n z3_1.c, .slice z3_1.b z3_1.m z3_1.d, .bool z3_2.neg, .slice z3_2.a z3_2.n z3_2.c, .slice z3_2.b z3_2.m z3_2.d] ∧ Below w.heap.size w W ∧ Kp (fun V => QK (((k) + (k)) + ((k) + (k)) + 1) V z3_1 ((subI (mulI A D) (mulI B C)).1)) w2.heap.size w3.heap.size W ∧ Kp (fun V => QK (((k) + (k)) + ((k) + (k)) + 1) V z3_2 ((subI (mulI A D) (mulI B C)).2)) w2.heap.size w3.heap.size W) ⟨by ((repeat first|with_reducible assumption|((with_reducible apply Blk.farAt);focus omega)|with_reducible apply Blk.setb|((with_reducible apply Blk.newAt);focus (simp;done))|with_reducible apply Blk.alloc|with_reducible apply Blk.drew);all_goals (show @Eq (Array Value) _ _;rfl)), by go_grown, by (repeat (first | (with_reducible exact K3_1.out) | ((with_reducible refine Kp.setc ?_ ?_); (focus omega)) | (with_reducible refine Kp.alloc ?_) | (with_reducible refine Kp.drew ?_))), by (repeat (first | (with_reducible exact K3_2.out) | ((with_reducible refine Kp.setc ?_ ?_); (focus omega)) | (with_reducible refine Kp.alloc ?_) | (with_reducible refine Kp.drew ?_)))⟩ ?_
 rintro wF ⟨hF, hwF, L0, L1⟩
 have e0 := hF.cell 0
 have e1 := hF.cell 1
 have e2 := hF.cell 2
 have e3 := hF.cell 3
 have e4 := hF.cell 4
 have e5 := hF.cell 5
 refine bodyPost_ret (v := .agg #[.bool z3_1.neg, .slice z3_1.a z3_1.n z3_1.c, .slice z3_1.b z3_1.m z3_1.d, .bool z3_2.neg, .slice z3_2.a z3_2.n z3_2.c, .slice z3_2.b z3_2.m z3_2.d]) (by simp [results, Tryz.results84, go_sem, e0, e1, e2, e3, e4, e5]) rfl ?_
 exact ⟨z3_1, z3_2, rfl, Kp.made ((L0.imp fun _ h => QK.more h (by omega)).fin (show w.heap.size ≤ _ from Nat.le_trans hw0.size n2)), Kp.made ((L1.imp fun _ h => QK.more h (by omega)).fin (show w.heap.size ≤ _ from Nat.le_trans hw0.size n2)), hwF⟩
set_option maxRecDepth 100000 in
set_option maxHeartbeats 4000000 in
theorem dotR_q (x1 x2 x3 x4 x5 x6 x7 x8 : QA) (A B C D : Iq) (k : Nat) (w : World) (H1 : QK k w x1 A.1) (H2 : QK k w x2 A.2) (H3 : QK k w x3 B.1) (H4 : QK k w x4 B.2) (H5 : QK k w x5 C.1) (H6 : QK k w x6 C.2) (H7 : QK k w x7 D.1) (H8 : QK k w x8 D.2) (hk : k ≤ 2000) :
  Calls Tryz.prog 86 #[.agg #[.bool x1.neg, .slice x1.a x1.n x1.c, .slice x1.b x1.m x1.d, .bool x2.neg, .slice x2.a x2.n x2.c, .slice x2.b x2.m x2.d, .bool x3.neg, .slice x3.a x3.n x3.c, .slice x3.b x3.m x3.d, .bool x4.neg, .slice x4.a x4.n x4.c, .slice x4.b x4.m x4.d], .agg #[.bool x5.neg, .slice x5.a x5.n x5.c, .slice x5.b x5.m x5.d, .bool x6.neg, .slice x6.a x6.n x6.c, .slice x6.b x6.m x6.d, .bool x7.neg, .slice x7.a x7.n x7.c, .slice x7.b x7.m x7.d, .bool x8.neg, .slice x8.a x8.n x8.c, .slice x8.b x8.m x8.d]] w (RetI2 (((k) + (k)) + ((k) + (k)) + 1) ((dotI A B C D).1) ((dotI A B C D).2) w) := by
 have R1 := Lib.hid (fun W (hW : Below w.heap.size w W) => H1.ext (Ext.below hW))
 have R2 := Lib.hid (fun W (hW : Below w.heap.size w W) => H2.ext (Ext.below hW))
 have R3 := Lib.hid (fun W (hW : Below w.heap.size w W) => H3.ext (Ext.below hW))
 have R4 := Lib.hid (fun W (hW : Below w.heap.size w W) => H4.ext (Ext.below hW))
 have R5 := Lib.hid (fun W (hW : Below w.heap.size w W) => H5.ext (Ext.below hW))
 have R6 := Lib.hid (fun W (hW : Below w.heap.size w W) => H6.ext (Ext.below hW))
 have R7 := Lib.hid (fun W (hW : Below w.heap.size w W) => H7.ext (Ext.below hW))
 have R8 := Lib.hid (fun W (hW : Below w.heap.size w W) => H8.ext (Ext.below hW))
 clear H1 H2 H3 H4 H5 H6 H7 H8
 go_enter Tryz.func86, Tryz.ntmps86
 go_wp2
 refine world_gen (fun W => Blk W w.heap.size 75 #[.bool x1.neg, .slice x1.a x1.n x1.c, .slice x1.b x1.m x1.d, .bool x2.neg, .slice x2.a x2.n x2.c, .slice x2.b x2.m x2.d, .bool x3.neg, .slice x3.a x3.n x3.c, .slice x3.b x3.m x3.d, .bool x4.neg, .slice x4.a x4.n x4.c, .slice x4.b x4.m x4.d] ∧ Blk W (w.heap.size + 1) 75 #[.bool x5.neg, .slice x5.a x5.n x5.c, .slice x5.b x5.m x5.d, .bool x6.neg, .slice x6.a x6.n x6.c, .slice x6.b x6.m x6.d, .bool x7.neg, .slice x7.a x7.n x7.c, .slice x7.b x7.m x7.d, .bool x8.neg, .slice x8.a x8.n x8.c, .slice x8.b x8.m x8.d] ∧ Blk W (w.heap.size + 1 + 1) 73 #[.bool false, .slice none 0 0, .slice none 0 0, .bool false, .slice none 0 0, .slice none 0 0] ∧ Below w.heap.size w W ∧ w.heap.size < w.heap.size + 1 + 1 ∧ w.heap.size + 1 + 1 < W.heap.size) ⟨by ((repeat first|with_reducible assumption|((with_reducible apply Blk.farAt);focus omega)|with_reducible apply Blk.setb|((with_reducible apply Blk.newAt);focus (simp;done))|with_reducible apply Blk.alloc|with_reducible apply Blk.drew);all_goals (show @Eq (Array Value) _ _;rfl)), by ((repeat first|with_reducible assumption|((with_reducible apply Blk.farAt);focus omega)|with_reducible apply Blk.setb|((with_reducible apply Blk.newAt);focus (simp;done))|with_reducible apply Blk.alloc|with_reducible apply Blk.drew);all_goals (show @Eq (Array Value) _ _;rfl)), by ((repeat first|with_reducible assumption|((with_reducible apply Blk.farAt);focus omega)|with_reducible apply Blk.setb|((with_reducible apply Blk.newAt);focus (simp;done))|with_reducible apply Blk.alloc|with_reducible apply Blk.drew);all_goals (show @Eq (Array Value) _ _;rfl)), by go_grown, by omega, by simp⟩ ?_
 rintro w0 ⟨h0, h1, h2, hw0, hg, hgw⟩
 revert h0 h1 h2 hg hgw
 generalize w.heap.size + 1 + 1 = g2
 generalize w.heap.size + 1 = g1
 intro h0 h1 h2 hg hgw
 have k0_0 := held (h0.cell 0)
 have k0_1 := held (h0.cell 1)
 have k0_2 := held (h0.cell 2)
 have k0_3 := held (h0.cell 3)
 have k0_4 := held (h0.cell 4)
 have k0_5 := held (h0.cell 5)
 have k0_6 := held (h0.cell 6)
 have k0_7 := held (h0.cell 7)
 have k0_8 := held (h0.cell 8)
 have k0_9 := held (h0.cell 9)
 have k0_10 := held (h0.cell 10)
 have k0_11 := held (h0.cell 11)
 have k1_0 := held (h1.cell 0)
 have k1_1 := held (h1.cell 1)
 have k1_2 := held (h1.cell 2)
 have k1_3 := held (h1.cell 3)
 have k1_4 := held (h1.cell 4)
 have k1_5 := held (h1.cell 5)
 have k1_6 := held (h1.cell 6)
 have k1_7 := held (h1.cell 7)
 have k1_8 := held (h1.cell 8)
 have k1_9 := held (h1.cell 9)
 have k1_10 := held (h1.cell 10)
 have k1_11 := held (h1.cell 11)
 have s0 : Below w0.heap.size w0 w0.drew := (Below.refl _ _).drew
 have n0 : w0.heap.size ≤ w0.drew.heap.size := Nat.le_refl _
 refine wp_region_mix (S := Below w0.heap.size w0) [(0, .q), (1, .q), (2, .q), (3, .q), (5, .q), (6, .q), (7, .q), (8, .q), (4, .l), (9, .t), (10, .t), (11, .t)] (by kernel_rfl) (by kernel_rfl) (by kernel_rfl) (fun d _ _ _ _ h => by cases d <;> exact h) (s0) ?_
 iterate 8 (refine wpMix_q rfl rfl (fun K hK => ?_); apply Exists.intro; refine ⟨fun w' hw' => ?_, ?_⟩; (focus (go_simp; try rfl)); go_simp; refine hK _ _ ?_; clear hK K)
 refine wpMix_l rfl rfl (fun K hK => ?_)
 go_simp
 refine (imulR_i x1 x2 x5 x6 A C (k) _ (R1.out _ (below_then hw0 s0)) (R2.out _ (below_then hw0 s0)) (R5.out _ (below_then hw0 s0)) (R6.out _ (below_then hw0 s0)) (by omega)).mono ?_
 rintro r w1 ⟨z1_1, z1_2, rfl, J1_1, J1_2, hb1⟩
 dsimp only
 refine hK.out _ _ (below_then s0 hb1) (fun _ => ?_)
 clear hK K
 have s1 := below_then s0 hb1
 have n1 := s1.size
 have K1_1 := Lib.hid J1_1
 have K1_2 := Lib.hid J1_2
 clear J1_1 J1_2
 refine wpMix_t rfl rfl (fun K hK => ?_)
 go_simp
 refine (imulR_i x3 x4 x7 x8 B D (k) _ (R3.out _ (below_then hw0 s1)) (R4.out _ (below_then hw0 s1)) (R7.out _ (below_then hw0 s1)) (R8.out _ (below_then hw0 s1)) (by omega)).mono ?_
 rintro r w2 ⟨z2_1, z2_2, rfl, J2_1, J2_2, hb2⟩
 dsimp only
 refine hK.out _ _ ?_
 clear hK K
 have s2 := below_then s1 hb2
 have n2 := s2.size
 have K2_1 := Lib.hid J2_1
 have K2_2 := Lib.hid J2_2
 clear J2_1 J2_2
 refine wpMix_t rfl rfl (fun K hK => ?_)
 go_simp
 refine (iaddR_i z1_1 z1_2 z2_1 z2_2 (mulI A C) (mulI B D) ((k) + (k)) _ (K1_1.out.call hb2).now (K1_2.out.call hb2).now K2_1.out.now K2_2.out.now (by omega)).mono ?_
 rintro r w3 ⟨z3_1, z3_2, rfl, J3_1, J3_2, hb3⟩
 dsimp only
 refine hK.out _ _ ?_
 clear hK K
 have s3 := below_then s2 hb3
 have n3 := s3.size
 have K3_1 := Lib.hid J3_1
 have K3_2 := Lib.hid J3_2
 clear J3_1 J3_2
 have hz := h2.below' s3
 have hw1 := below_then hw0 s3
 clear k0_0 k0_1 k0_2 k0_3 k0_4 k0_5 k0_6 k0_7 k0_8 k0_9 k0_10 k0_11 k1_0 k1_1 k1_2 k1_3 k1_4 k1_5 k1_6 k1_7 k1_8 k1_9 k1_10 k1_11
 have y0 := hz.cell 0; have f0 := hz.frozen 0
 have y1 := hz.cell 1; have f1 := hz.frozen 1
 have y2 := hz.cell 2; have f2 := hz.frozen 2
 have y3 := hz.cell 3; have f3 := hz.frozen 3
 have y4 := hz.cell 4; have f4 := hz.frozen 4
 have y5 := hz.cell 5; have f5 := hz.frozen 5
 refine wpMix_t rfl rfl (fun K hK => ?_)
 go_simp
 refine hK.out _ _ ?_
 clear hK K
 refine wpMix_nil ?_
 go_wp2
 refine world_gen (fun W => Blk W g2 73 #[.bool z3_1.neg, .slice z3_1.a z3_1.n z3_1.c, .slice z3_1.b z3_1.m z3_1.d, .bool z3_2.neg, .slice z3_2.a z3_2.n z3_2.c, .slice z3_2.b z3_2.m z3_2.d] ∧ Below w.heap.size w W ∧ Kp (fun V => QK (((k) + (k)) + ((k) + (k)) + 1) V z3_1 ((addI (mulI A C) (mulI B D)).1)) w2.heap.size w3.heap.size W ∧ Kp (fun V => QK (((k) + (k)) + ((k) + (k)) + 1) V z3_2 ((addI (mulI A C) (mulI B D)).2)) w2.heap.size w3.heap.size W) ⟨by ((repeat first|with_reducible assumption|((with_reducible apply Blk.farAt);focus omega)|with_reducible apply Blk.setb|((with_reducible apply Blk.newAt);focus (simp;done))|with_reducible apply Blk.alloc|with_reducible apply Blk.drew);all_goals (show @Eq (Array Value) _ _;rfl)), by go_grown, by (repeat (first | (with_reducible exact K3_1.out) | ((with_reducible refine Kp.setc ?_ ?_); (focus omega)) | (with_reducible refine Kp.alloc ?_) | (with_reducible refine Kp.drew ?_))), by (repeat (first | (with_reducible exact K3_2.out) | ((with_reducible refine Kp.setc ?_ ?_); (focus omega)) | (with_reducible refine Kp.alloc ?_) | (with_reducible refine Kp.drew ?_)))⟩ ?_
 rintro wF ⟨hF, hwF, L0, L1⟩
 have e0 := hF.cell 0
 have e1 := hF.cell 1
 have e2 := hF.cell 2
 have e3 := hF.cell 3
 have e4 := hF.cell 4
 have e5 := hF.cell 5
 refine bodyPost_ret (v := .agg #[.bool z3_1.neg, .slice z3_1.a z3_1.n z3_1.c, .slice z3_1.b z3_1.m z3_1.d, .bool z3_2.neg, .slice z3_2.a z3_2.n z3_2.c, .slice z3_2.b z3_2.m z3_2.d]) (by simp [results, Tryz.results86, go_sem, e0, e1, e2, e3, e4, e5]) rfl ?_
 exact ⟨z3_1, z3_2, rfl, Kp.made ((L0.imp fun _ h => QK.more h (by omega)).fin (show w.heap.size ≤ _ from Nat.le_trans hw0.size n2)), Kp.made ((L1.imp fun _ h => QK.more h (by omega)).fin (show w.heap.size ≤ _ from Nat.le_trans hw0.size n2)), hwF⟩
end Go.Proofs.YtaihkpjbnkgmlaaGreat
