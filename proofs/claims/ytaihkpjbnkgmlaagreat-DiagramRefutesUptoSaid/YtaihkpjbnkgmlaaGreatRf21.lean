/- Two calls that each make a rational number, and two cells that take them, in whatever order they come. No function of the program in sight. -/
import Derived.Test.YtaihkpjbnkgmlaaGreatRf19
import Derived.Test.YtaihkpjbnkgmlaaGreatRf13
import Derived.Test.YtaihkpjbnkgmlaaGreatRf17

/- Walks: sums and differences of intervals. (Printed by gen2.py.) -/
namespace Go.Proofs.YtaihkpjbnkgmlaaGreat
open Go.RowKit

/-- what a call gives that makes an interval -/
def RetI2 (k : Nat) (p q : Rat) (w : World) (e : Ending) (w' : World) : Prop := ∃ x y : QA, e = .returned (.agg #[.bool x.neg, .slice x.a x.n x.c, .slice x.b x.m x.d, .bool y.neg, .slice y.a y.n y.c, .slice y.b y.m y.d]) ∧ Kp (fun V => QK k V x p) w.heap.size w'.heap.size w' ∧ Kp (fun V => QK k V y q) w.heap.size w'.heap.size w' ∧ Below w.heap.size w w'
/-- what a call gives that makes two intervals -/
def RetI4 (k : Nat) (p q r s : Rat) (w : World) (e : Ending) (w' : World) : Prop := ∃ x y z v : QA, e = .returned (.agg #[.bool x.neg, .slice x.a x.n x.c, .slice x.b x.m x.d, .bool y.neg, .slice y.a y.n y.c, .slice y.b y.m y.d, .bool z.neg, .slice z.a z.n z.c, .slice z.b z.m z.d, .bool v.neg, .slice v.a v.n v.c, .slice v.b v.m v.d]) ∧ Kp (fun V => QK k V x p) w.heap.size w'.heap.size w' ∧ Kp (fun V => QK k V y q) w.heap.size w'.heap.size w' ∧ Kp (fun V => QK k V z r) w.heap.size w'.heap.size w' ∧ Kp (fun V => QK k V v s) w.heap.size w'.heap.size w' ∧ Below w.heap.size w w'

set_option maxRecDepth 100000 in
set_option maxHeartbeats 4000000 in
theorem iadd_q (x1 x2 x3 x4 : QA) (a b c d : Rat) (k : Nat) (w : World) (H1 : QK k w x1 a) (H2 : QK k w x2 b) (H3 : QK k w x3 c) (H4 : QK k w x4 d) (hk : k ≤ 10000) :
  Calls Tryz.prog 158 #[.agg #[.bool x1.neg, .slice x1.a x1.n x1.c, .slice x1.b x1.m x1.d, .bool x2.neg, .slice x2.a x2.n x2.c, .slice x2.b x2.m x2.d], .agg #[.bool x3.neg, .slice x3.a x3.n x3.c, .slice x3.b x3.m x3.d, .bool x4.neg, .slice x4.a x4.n x4.c, .slice x4.b x4.m x4.d]] w (RetI2 (k + k + 1) (a + c) (b + d) w) := by
 have R1 := Lib.hid (fun W (hW : Below w.heap.size w W) => H1.ext (Ext.below hW))
 have R2 := Lib.hid (fun W (hW : Below w.heap.size w W) => H2.ext (Ext.below hW))
 have R3 := Lib.hid (fun W (hW : Below w.heap.size w W) => H3.ext (Ext.below hW))
 have R4 := Lib.hid (fun W (hW : Below w.heap.size w W) => H4.ext (Ext.below hW))
 clear H1 H2 H3 H4
 go_enter Tryz.func158, Tryz.ntmps158
 go_wp2
 refine world_gen (fun W => Blk W w.heap.size 73 #[.bool x1.neg, .slice x1.a x1.n x1.c, .slice x1.b x1.m x1.d, .bool x2.neg, .slice x2.a x2.n x2.c, .slice x2.b x2.m x2.d] ∧ Blk W (w.heap.size + 1) 73 #[.bool x3.neg, .slice x3.a x3.n x3.c, .slice x3.b x3.m x3.d, .bool x4.neg, .slice x4.a x4.n x4.c, .slice x4.b x4.m x4.d] ∧ Blk W (w.heap.size + 1 + 1) 73 #[.bool false, .slice none 0 0, .slice none 0 0, .bool false, .slice none 0 0, .slice none 0 0] ∧ Below w.heap.size w W ∧ w.heap.size < w.heap.size + 1 + 1 ∧ w.heap.size + 1 + 1 < W.heap.size) ⟨by ((repeat first|with_reducible assumption|((with_reducible apply Blk.farAt);focus omega)|with_reducible apply Blk.setb|((with_reducible apply Blk.newAt);focus (simp;done))|with_reducible apply Blk.alloc|with_reducible apply Blk.drew);all_goals (show @Eq (Array Value) _ _;rfl)), by ((repeat first|with_reducible assumption|((with_reducible apply Blk.farAt);focus omega)|with_reducible apply Blk.setb|((with_reducible apply Blk.newAt);focus (simp;done))|with_reducible apply Blk.alloc|with_reducible apply Blk.drew);all_goals (show @Eq (Array Value) _ _;rfl)), by ((repeat first|with_reducible assumption|((with_reducible apply Blk.farAt);focus omega)|with_reducible apply Blk.setb|((with_reducible apply Blk.newAt);focus (simp;done))|with_reducible apply Blk.alloc|with_reducible apply Blk.drew);all_goals (show @Eq (Array Value) _ _;rfl)), by go_grown, by omega, by simp⟩ ?_
 rintro w0 ⟨h0, h1, h2, hw0, hg, hgw⟩
 revert h0 h1 h2 hg hgw
 generalize w.heap.size + 1 + 1 = g2
 generalize w.heap.size + 1 = g1
 intro h0 h1 h2 hg hgw
 have k0_0 := held (h0.cell 0)
 have k0_1 := held (h0.cell 1)
 have k0_2 := held (h0.cell 2)
 have k0_3 := held (h0.cell 3)
 have k0_4 := held (h0.cell 4)
 have k0_5 := held (h0.cell 5)
 have k1_0 := held (h1.cell 0)
 have k1_1 := held (h1.cell 1)
 have k1_2 := held (h1.cell 2)
 have k1_3 := held (h1.cell 3)
 have k1_4 := held (h1.cell 4)
 have k1_5 := held (h1.cell 5)
 have s0 : Below w0.heap.size w0 w0.drew := (Below.refl _ _).drew
 have n0 : w0.heap.size ≤ w0.drew.heap.size := Nat.le_refl _
 refine wp_region_mix (S := Below w0.heap.size w0) [(0, .q), (1, .q), (2, .q), (3, .q), (5, .q), (6, .q), (7, .q), (8, .q), (4, .l), (9, .t), (10, .p), (11, .t)] (by kernel_rfl) (by kernel_rfl) (by kernel_rfl) (fun d _ _ _ _ h => by cases d <;> exact h) (s0) ?_
 iterate 8 (refine wpMix_q rfl rfl (fun K hK => ?_); apply Exists.intro; refine ⟨fun w' hw' => ?_, ?_⟩; (focus (go_simp; try rfl)); go_simp; refine hK _ _ ?_; clear hK K)
 refine wpMix_l rfl rfl (fun K hK => ?_)
 go_simp
 refine (add_q x1 x3 (a) (c) (k) (k) _ (R1.out _ (below_then hw0 s0)) (R3.out _ (below_then hw0 s0)) (by omega) (by omega)).mono ?_
 rintro r w1 ⟨z1_1, rfl, J1_1, hb1⟩
 dsimp only
 refine hK.out _ _ (below_then s0 hb1) (fun _ => ?_)
 clear hK K
 have s1 := below_then s0 hb1
 have n1 := s1.size
 have K1_1 := Lib.hid J1_1
 clear J1_1
 refine wpMix_t rfl rfl (fun K hK => ?_)
 go_simp
 refine (add_q x2 x4 (b) (d) (k) (k) _ (R2.out _ (below_then hw0 s1)) (R4.out _ (below_then hw0 s1)) (by omega) (by omega)).mono ?_
 rintro r w2 ⟨z2_1, rfl, J2_1, hb2⟩
 dsimp only
 refine hK.out _ _ ?_
 clear hK K
 have s2 := below_then s1 hb2
 have n2 := s2.size
 have K2_1 := Lib.hid J2_1
 clear J2_1
 iterate 1 (refine wpMix_p rfl rfl (fun K hK => ?_); apply Exists.intro; refine ⟨fun w' => ?_, ?_⟩; (focus (go_simp; try rfl)); go_simp; refine hK _ _ ?_; clear hK K)
 have hz := h2.below' s2
 have hw1 := below_then hw0 s2
 clear k0_0 k0_1 k0_2 k0_3 k0_4 k0_5 k1_0 k1_1 k1_2 k1_3 k1_4 k1_5
 have y0 := hz.cell 0; have f0 := hz.frozen 0
 have y1 := hz.cell 1; have f1 := hz.frozen 1
 have y2 := hz.cell 2; have f2 := hz.frozen 2
 have y3 := hz.cell 3; have f3 := hz.frozen 3
 have y4 := hz.cell 4; have f4 := hz.frozen 4
 have y5 := hz.cell 5; have f5 := hz.frozen 5
 refine wpMix_t rfl rfl (fun K hK => ?_)
 go_simp
 refine hK.out _ _ ?_
 clear hK K
 refine wpMix_nil ?_
 go_wp2
 have E1_1 := Lib.hid (K1_1.out.call hb2)
 refine world_gen (fun W => Blk W g2 73 #[.bool z1_1.neg, .slice z1_1.a z1_1.n z1_1.c, .slice z1_1.b z1_1.m z1_1.d, .bool z2_1.neg, .slice z2_1.a z2_1.n z2_1.c, .slice z2_1.b z2_1.m z2_1.d] ∧ Below w.heap.size w W ∧ Kp (fun V => QK (k + k + 1) V z1_1 (a + c)) w0.drew.heap.size w1.heap.size W ∧ Kp (fun V => QK (k + k + 1) V z2_1 (b + d)) w1.heap.size w2.heap.size W) ⟨by ((repeat first|with_reducible assumption|((with_reducible apply Blk.farAt);focus omega)|with_reducible apply Blk.setb|((with_reducible apply Blk.newAt);focus (simp;done))|with_reducible apply Blk.alloc|with_reducible apply Blk.drew);all_goals (show @Eq (Array Value) _ _;rfl)), by go_grown, by (repeat (first | (with_reducible exact E1_1.out) | ((with_reducible refine Kp.setc ?_ ?_); (focus omega)) | (with_reducible refine Kp.alloc ?_) | (with_reducible refine Kp.drew ?_))), by (repeat (first | (with_reducible exact K2_1.out) | ((with_reducible refine Kp.setc ?_ ?_); (focus omega)) | (with_reducible refine Kp.alloc ?_) | (with_reducible refine Kp.drew ?_)))⟩ ?_
 rintro wF ⟨hF, hwF, L0, L1⟩
 have e0 := hF.cell 0
 have e1 := hF.cell 1
 have e2 := hF.cell 2
 have e3 := hF.cell 3
 have e4 := hF.cell 4
 have e5 := hF.cell 5
 refine bodyPost_ret (v := .agg #[.bool z1_1.neg, .slice z1_1.a z1_1.n z1_1.c, .slice z1_1.b z1_1.m z1_1.d, .bool z2_1.neg, .slice z2_1.a z2_1.n z2_1.c, .slice z2_1.b z2_1.m z2_1.d]) (by simp [results, Tryz.results158, go_sem, e0, e1, e2, e3, e4, e5]) rfl ?_
 exact ⟨z1_1, z2_1, rfl, Kp.made ((L0.imp fun _ h => QK.more h (by omega)).fin (show w.heap.size ≤ _ from Nat.le_trans hw0.size n0)), Kp.made ((L1.imp fun _ h => QK.more h (by omega)).fin (show w.heap.size ≤ _ from Nat.le_trans hw0.size n1)), hwF⟩
set_option maxRecDepth 100000 in
set_option maxHeartbeats 4000000 in
theorem isub_q (x1 x2 x3 x4 : QA) (a b c d : Rat) (k : Nat) (w : World) (H1 : QK k w x1 a) (H2 : QK k w x2 b) (H3 : QK k w x3 c) (H4 : QK k w x4 d) (hk : k ≤ 10000) :
  Calls Tryz.prog 75 #[.agg #[.bool x1.neg, .slice x1.a x1.n x1.c, .slice x1.b x1.m x1.d, .bool x2.neg, .slice x2.a x2.n x2.c, .slice x2.b x2.m x2.d], .agg #[.bool x3.neg, .slice x3.a x3.n x3.c, .slice x3.b x3.m x3.d, .bool x4.neg, .slice x4.a x4.n x4.c, .slice x4.b x4.m x4.d]] w (RetI2 (k + k + 1) (a - d) (b - c) w) := by
 have R1 := Lib.hid (fun W (hW : Below w.heap.size w W) => H1.ext (Ext.below hW))
 have R2 := Lib.hid (fun W (hW : Below w.heap.size w W) => H2.ext (Ext.below hW))
 have R3 := Lib.hid (fun W (hW : Below w.heap.size w W) => H3.ext (Ext.below hW))
 have R4 := Lib.hid (fun W (hW : Below w.heap.size w W) => H4.ext (Ext.below hW))
 clear H1 H2 H3 H4
 go_enter Tryz.func75, Tryz.ntmps75
 go_wp2
 refine world_gen (fun W => Blk W w.heap.size 73 #[.bool x1.neg, .slice x1.a x1.n x1.c, .slice x1.b x1.m x1.d, .bool x2.neg, .slice x2.a x2.n x2.c, .slice x2.b x2.m x2.d] ∧ Blk W (w.heap.size + 1) 73 #[.bool x3.neg, .slice x3.a x3.n x3.c, .slice x3.b x3.m x3.d, .bool x4.neg, .slice x4.a x4.n x4.c, .slice x4.b x4.m x4.d] ∧ Blk W (w.heap.size + 1 + 1) 73 #[.bool false, .slice none 0 0, .slice none 0 0, .bool false, .slice none 0 0, .slice none 0 0] ∧ Below w.heap.size w W ∧ w.heap.size < w.heap.size + 1 + 1 ∧ w.heap.size + 1 + 1 < W.heap.size) ⟨by ((repeat first|with_reducible assumption|((with_reducible apply Blk.farAt);focus omega)|with_reducible apply Blk.setb|((with_reducible apply Blk.newAt);focus (simp;done))|with_reducible apply Blk.alloc|with_reducible apply Blk.drew);all_goals (show @Eq (Array Value) _ _;rfl)), by ((repeat first|with_reducible assumption|((with_reducible apply Blk.farAt);focus omega)|with_reducible apply Blk.setb|((with_reducible apply Blk.newAt);focus (simp;done))|with_reducible apply Blk.alloc|with_reducible apply Blk.drew);all_goals (show @Eq (Array Value) _ _;rfl)), by ((repeat first|with_reducible assumption|((with_reducible apply Blk.farAt);focus omega)|with_reducible apply Blk.setb|((with_reducible apply Blk.newAt);focus (simp;done))|with_reducible apply Blk.alloc|with_reducible apply Blk.drew);all_goals (show @Eq (Array Value) _ _;rfl)), by go_grown, by omega, by simp⟩ ?_
 rintro w0 ⟨h0, h1, h2, hw0, hg, hgw⟩
 revert h0 h1 h2 hg hgw
 generalize w.heap.size + 1 + 1 = g2
 generalize w.heap.size + 1 = g1
 intro h0 h1 h2 hg hgw
 have k0_0 := held (h0.cell 0)
 have k0_1 := held (h0.cell 1)
 have k0_2 := held (h0.cell 2)
 have k0_3 := held (h0.cell 3)
 have k0_4 := held (h0.cell 4)
 have k0_5 := held (h0.cell 5)
 have k1_0 := held (h1.cell 0)
 have k1_1 := held (h1.cell 1)
 have k1_2 := held (h1.cell 2)
 have k1_3 := held (h1.cell 3)
 have k1_4 := held (h1.cell 4)
 have k1_5 := held (h1.cell 5)
 have s0 : Below w0.heap.size w0 w0.drew := (Below.refl _ _).drew
 have n0 : w0.heap.size ≤ w0.drew.heap.size := Nat.le_refl _
 refine wp_region_mix (S := Below w0.heap.size w0) [(0, .q), (1, .q), (2, .q), (3, .q), (5, .q), (6, .q), (7, .q), (8, .q), (4, .l), (9, .t), (10, .p), (11, .t)] (by kernel_rfl) (by kernel_rfl) (by kernel_rfl) (fun d _ _ _ _ h => by cases d <;> exact h) (s0) ?_
 iterate 8 (refine wpMix_q rfl rfl (fun K hK => ?_); apply Exists.intro; refine ⟨fun w' hw' => ?_, ?_⟩; (focus (go_simp; try rfl)); go_simp; refine hK _ _ ?_; clear hK K)
 refine wpMix_l rfl rfl (fun K hK => ?_)
 go_simp
 refine (sub_q x1 x4 (a) (d) (k) (k) _ (R1.out _ (below_then hw0 s0)) (R4.out _ (below_then hw0 s0)) (by omega) (by omega)).mono ?_
 rintro r w1 ⟨z1_1, rfl, J1_1, hb1⟩
 dsimp only
 refine hK.out _ _ (below_then s0 hb1) (fun _ => ?_)
 clear hK K
 have s1 := below_then s0 hb1
 have n1 := s1.size
 have K1_1 := Lib.hid J1_1
 clear J1_1
 refine wpMix_t rfl rfl (fun K hK => ?_)
 go_simp
 refine (sub_q x2 x3 (b) (c) (k) (k) _ (R2.out _ (below_then hw0 s1)) (R3.out _ (below_then hw0 s1)) (by omega) (by omega)).mono ?_
 rintro r w2 ⟨z2_1, rfl, J2_1, hb2⟩
 dsimp only
 refine hK.out _ _ ?_
 clear hK K
 have s2 := below_then s1 hb2
 have n2 := s2.size
 have K2_1 := Lib.hid J2_1
 clear J2_1
 iterate 1 (refine wpMix_p rfl rfl (fun K hK => ?_); apply Exists.intro; refine ⟨fun w' => ?_, ?_⟩; (focus (go_simp; try rfl)); go_simp; refine hK _ _ ?_; clear hK K)
 have hz := h2.below' s2
 have hw1 := below_then hw0 s2
 clear k0_0 k0_1 k0_2 k0_3 k0_4 k0_5 k1_0 k1_1 k1_2 k1_3 k1_4 k1_5
 have y0 := hz.cell 0; have f0 := hz.frozen 0
 have y1 := hz.cell 1; have f1 := hz.frozen 1
 have y2 := hz.cell 2; have f2 := hz.frozen 2
 have y3 := hz.cell 3; have f3 := hz.frozen 3
 have y4 := hz.cell 4; have f4 := hz.frozen 4
 have y5 := hz.cell 5; have f5 := hz.frozen 5
 refine wpMix_t rfl rfl (fun K hK => ?_)
 go_simp
 refine hK.out _ _ ?_
 clear hK K
 refine wpMix_nil ?_
 go_wp2
 have E1_1 := Lib.hid (K1_1.out.call hb2)
 refine world_gen (fun W => Blk W g2 73 #[.bool z1_1.neg, .slice z1_1.a z1_1.n z1_1.c, .slice z1_1.b z1_1.m z1_1.d, .bool z2_1.neg, .slice z2_1.a z2_1.n z2_1.c, .slice z2_1.b z2_1.m z2_1.d] ∧ Below w.heap.size w W ∧ Kp (fun V => QK (k + k + 1) V z1_1 (a - d)) w0.drew.heap.size w1.heap.size W ∧ Kp (fun V => QK (k + k + 1) V z2_1 (b - c)) w1.heap.size w2.heap.size W) ⟨by ((repeat first|with_reducible assumption|((with_reducible apply Blk.farAt);focus omega)|with_reducible apply Blk.setb|((with_reducible apply Blk.newAt);focus (simp;done))|with_reducible apply Blk.alloc|with_reducible apply Blk.drew);all_goals (show @Eq (Array Value) _ _;rfl)), by go_grown, by (repeat (first | (with_reducible exact E1_1.out) | ((with_reducible refine Kp.setc ?_ ?_); (focus omega)) | (with_reducible refine Kp.alloc ?_) | (with_reducible refine Kp.drew ?_))), by (repeat (first | (with_reducible exact K2_1.out) | ((with_reducible refine Kp.setc ?_ ?_); (focus omega)) | (with_reducible refine Kp.alloc ?_) | (with_reducible refine Kp.drew ?_)))⟩ ?_
 rintro wF ⟨hF, hwF, L0, L1⟩
 have e0 := hF.cell 0
 have e1 := hF.cell 1
 have e2 := hF.cell 2
 have e3 := hF.cell 3
 have e4 := hF.cell 4
 have e5 := hF.cell 5
 refine bodyPost_ret (v := .agg #[.bool z1_1.neg, .slice z1_1.a z1_1.n z1_1.c, .slice z1_1.b z1_1.m z1_1.d, .bool z2_1.neg, .slice z2_1.a z2_1.n z2_1.c, .slice z2_1.b z2_1.m z2_1.d]) (by simp [results, Tryz.results75, go_sem, e0, e1, e2, e3, e4, e5]) rfl ?_
 exact ⟨z1_1, z2_1, rfl, Kp.made ((L0.imp fun _ h => QK.more h (by omega)).fin (show w.heap.size ≤ _ from Nat.le_trans hw0.size n0)), Kp.made ((L1.imp fun _ h => QK.more h (by omega)).fin (show w.heap.size ≤ _ from Nat.le_trans hw0.size n1)), hwF⟩
set_option maxRecDepth 100000 in
set_option maxHeartbeats 4000000 in
theorem iaddR_q (x1 x2 x3 x4 : QA) (a b c d : Rat) (k : Nat) (w : World) (H1 : QK k w x1 a) (H2 : QK k w x2 b) (H3 : QK k w x3 c) (H4 : QK k w x4 d) (hk : k ≤ 10000) :
  Calls Tryz.prog 125 #[.agg #[.bool x1.neg, .slice x1.a x1.n x1.c, .slice x1.b x1.m x1.d, .bool x2.neg, .slice x2.a x2.n x2.c, .slice x2.b x2.m x2.d], .agg #[.bool x3.neg, .slice x3.a x3.n x3.c, .slice x3.b x3.m x3.d, .bool x4.neg, .slice x4.a x4.n x4.c, .slice x4.b x4.m x4.d]] w (RetI2 (k + k + 1) (a + c) (b + d) w) := by
 have R1 := Lib.hid (fun W (hW : Below w.heap.size w W) => H1.ext (Ext.below hW))
 have R2 := Lib.hid (fun W (hW : Below w.heap.size w W) => H2.ext (Ext.below hW))
 have R3 := Lib.hid (fun W (hW : Below w.heap.size w W) => H3.ext (Ext.below hW))
 have R4 := Lib.hid (fun W (hW : Below w.heap.size w W) => H4.ext (Ext.below hW))
 clear H1 H2 H3 H4
 go_enter Tryz.func125, Tryz.ntmps125
 go_wp2
 refine world_gen (fun W => Blk W w.heap.size 73 #[.bool x1.neg, .slice x1.a x1.n x1.c, .slice x1.b x1.m x1.d, .bool x2.neg, .slice x2.a x2.n x2.c, .slice x2.b x2.m x2.d] ∧ Blk W (w.heap.size + 1) 73 #[.bool x3.neg, .slice x3.a x3.n x3.c, .slice x3.b x3.m x3.d, .bool x4.neg, .slice x4.a x4.n x4.c, .slice x4.b x4.m x4.d] ∧ Blk W (w.heap.size + 1 + 1) 73 #[.bool false, .slice none 0 0, .slice none 0 0, .bool false, .slice none 0 0, .slice none 0 0] ∧ Below w.heap.size w W ∧ w.heap.size < w.heap.size + 1 + 1 ∧ w.heap.size + 1 + 1 < W.heap.size) ⟨by ((repeat first|with_reducible assumption|((with_reducible apply Blk.farAt);focus omega)|with_reducible apply Blk.setb|((with_reducible apply Blk.newAt);focus (simp;done))|with_reducible apply Blk.alloc|with_reducible apply Blk.drew);all_goals (show @Eq (Array Value) _ _;rfl)), by ((repeat first|with_reducible assumption|((with_reducible apply Blk.farAt);focus omega)|with_reducible apply Blk.setb|((with_reducible apply Blk.newAt);focus (simp;done))|with_reducible apply Blk.alloc|with_reducible apply Blk.drew);all_goals (show @Eq (Array Value) _ _;rfl)), by ((repeat first|with_reducible assumption|((with_reducible apply Blk.farAt);focus omega)|with_reducible apply Blk.setb|((with_reducible apply Blk.newAt);focus (simp;done))|with_reducible apply Blk.alloc|with_reducible apply Blk.drew);all_goals (show @Eq (Array Value) _ _;rfl)), by go_grown, by omega, by simp⟩ ?_
 rintro w0 ⟨h0, h1, h2, hw0, hg, hgw⟩
 revert h0 h1 h2 hg hgw
 generalize w.heap.size + 1 + 1 = g2
 generalize w.heap.size + 1 = g1
 intro h0 h1 h2 hg hgw
 have k0_0 := held (h0.cell 0)
 have k0_1 := held (h0.cell 1)
 have k0_2 := held (h0.cell 2)
 have k0_3 := held (h0.cell 3)
 have k0_4 := held (h0.cell 4)
 have k0_5 := held (h0.cell 5)
 have k1_0 := held (h1.cell 0)
 have k1_1 := held (h1.cell 1)
 have k1_2 := held (h1.cell 2)
 have k1_3 := held (h1.cell 3)
 have k1_4 := held (h1.cell 4)
 have k1_5 := held (h1.cell 5)
 have s0 : Below w0.heap.size w0 w0.drew := (Below.refl _ _).drew
 have n0 : w0.heap.size ≤ w0.drew.heap.size := Nat.le_refl _
 refine wp_region_mix (S := Below w0.heap.size w0) [(0, .q), (1, .q), (2, .q), (3, .q), (5, .q), (6, .q), (7, .q), (8, .q), (4, .l), (9, .t), (10, .p), (11, .t)] (by kernel_rfl) (by kernel_rfl) (by kernel_rfl) (fun d _ _ _ _ h => by cases d <;> exact h) (s0) ?_
 iterate 8 (refine wpMix_q rfl rfl (fun K hK => ?_); apply Exists.intro; refine ⟨fun w' hw' => ?_, ?_⟩; (focus (go_simp; try rfl)); go_simp; refine hK _ _ ?_; clear hK K)
 refine wpMix_l rfl rfl (fun K hK => ?_)
 go_simp
 refine (addR_q x1 x3 (a) (c) (k) (k) _ (R1.out _ (below_then hw0 s0)) (R3.out _ (below_then hw0 s0)) (by omega) (by omega)).mono ?_
 rintro r w1 ⟨z1_1, rfl, J1_1, hb1⟩
 dsimp only
 refine hK.out _ _ (below_then s0 hb1) (fun _ => ?_)
 clear hK K
 have s1 := below_then s0 hb1
 have n1 := s1.size
 have K1_1 := Lib.hid J1_1
 clear J1_1
 refine wpMix_t rfl rfl (fun K hK => ?_)
 go_simp
 refine (addR_q x2 x4 (b) (d) (k) (k) _ (R2.out _ (below_then hw0 s1)) (R4.out _ (below_then hw0 s1)) (by omega) (by omega)).mono ?_
 rintro r w2 ⟨z2_1, rfl, J2_1, hb2⟩
 dsimp only
 refine hK.out _ _ ?_
 clear hK K
 have s2 := below_then s1 hb2
 have n2 := s2.size
 have K2_1 := Lib.hid J2_1
 clear J2_1
 iterate 1 (refine wpMix_p rfl rfl (fun K hK => ?_); apply Exists.intro; refine ⟨fun w' => ?_, ?_⟩; (focus (go_simp; try rfl)); go_simp; refine hK _ _ ?_; clear hK K)
 have hz := h2.below' s2
 have hw1 := below_then hw0 s2
 clear k0_0 k0_1 k0_2 k0_3 k0_4 k0_5 k1_0 k1_1 k1_2 k1_3 k1_4 k1_5
 have y0 := hz.cell 0; have f0 := hz.frozen 0
 have y1 := hz.cell 1; have f1 := hz.frozen 1
 have y2 := hz.cell 2; have f2 := hz.frozen 2
 have y3 := hz.cell 3; have f3 := hz.frozen 3
 have y4 := hz.cell 4; have f4 := hz.frozen 4
 have y5 := hz.cell 5; have f5 := hz.frozen 5
 refine wpMix_t rfl rfl (fun K hK => ?_)
 go_simp
 refine hK.out _ _ ?_
 clear hK K
 refine wpMix_nil ?_
 go_wp2
 have E1_1 := Lib.hid (K1_1.out.call hb2)
 refine world_gen (fun W => Blk W g2 73 #[.bool z1_1.neg, .slice z1_1.a z1_1.n z1_1.c, .slice z1_1.b z1_1.m z1_1.d, .bool z2_1.neg, .slice z2_1.a z2_1.n z2_1.c, .slice z2_1.b z2_1.m z2_1.d] ∧ Below w.heap.size w W ∧ Kp (fun V => QK (k + k + 1) V z1_1 (a + c)) w0.drew.heap.size w1.heap.size W ∧ Kp (fun V => QK (k + k + 1) V z2_1 (b + d)) w1.heap.size w2.heap.size W) ⟨by ((repeat first|with_reducible assumption|((with_reducible apply Blk.farAt);focus omega)|with_reducible apply Blk.setb|((with_reducible apply Blk.newAt);focus (simp;done))|with_reducible apply Blk.alloc|with_reducible apply Blk.drew);all_goals (show @Eq (Array Value) _ _;rfl)), by go_grown, by (repeat (first | (with_reducible exact E1_1.out) | ((with_reducible refine Kp.setc ?_ ?_); (focus omega)) | (with_reducible refine Kp.alloc ?_) | (with_reducible refine Kp.drew ?_))), by (repeat (first | (with_reducible exact K2_1.out) | ((with_reducible refine Kp.setc ?_ ?_); (focus omega)) | (with_reducible refine Kp.alloc ?_) | (with_reducible refine Kp.drew ?_)))⟩ ?_
 rintro wF ⟨hF, hwF, L0, L1⟩
 have e0 := hF.cell 0
 have e1 := hF.cell 1
 have e2 := hF.cell 2
 have e3 := hF.cell 3
 have e4 := hF.cell 4
 have e5 := hF.cell 5
 refine bodyPost_ret (v := .agg #[.bool z1_1.neg, .slice z1_1.a z1_1.n z1_1.c, .slice z1_1.b z1_1.m z1_1.d, .bool z2_1.neg, .slice z2_1.a z2_1.n z2_1.c, .slice z2_1.b z2_1.m z2_1.d]) (by simp [results, Tryz.results125, go_sem, e0, e1, e2, e3, e4, e5]) rfl ?_
 exact ⟨z1_1, z2_1, rfl, Kp.made ((L0.imp fun _ h => QK.more h (by omega)).fin (show w.heap.size ≤ _ from Nat.le_trans hw0.size n0)), Kp.made ((L1.imp fun _ h => QK.more h (by omega)).fin (show w.heap.size ≤ _ from Nat.le_trans hw0.size n1)), hwF⟩
set_option maxRecDepth 100000 in
set_option maxHeartbeats 4000000 in
theorem isubR_q (x1 x2 x3 x4 : QA) (a b c d : Rat) (k : Nat) (w : World) (H1 : QK k w x1 a) (H2 : QK k w x2 b) (H3 : QK k w x3 c) (H4 : QK k w x4 d) (hk : k ≤ 10000) :
  Calls Tryz.prog 87 #[.agg #[.bool x1.neg, .slice x1.a x1.n x1.c, .slice x1.b x1.m x1.d, .bool x2.neg, .slice x2.a x2.n x2.c, .slice x2.b x2.m x2.d], .agg #[.bool x3.neg, .slice x3.a x3.n x3.c, .slice x3.b x3.m x3.d, .bool x4.neg, .slice x4.a x4.n x4.c, .slice x4.b x4.m x4.d]] w (RetI2 (k + k + 1) (a - d) (b - c) w) := by
 have R1 := Lib.hid (fun W (hW : Below w.heap.size w W) => H1.ext (Ext.below hW))
 have R2 := Lib.hid (fun W (hW : Below w.heap.size w W) => H2.ext (Ext.below hW))
 have R3 := Lib.hid (fun W (hW : Below w.heap.size w W) => H3.ext (Ext.below hW))
 have R4 := Lib.hid (fun W (hW : Below w.heap.size w W) => H4.ext (Ext.below hW))
 clear H1 H2 H3 H4
 go_enter Tryz.func87, Tryz.ntmps87
 go_wp2
 refine world_gen (fun W => Blk W w.heap.size 73 #[.bool x1.neg, .slice x1.a x1.n x1.c, .slice x1.b x1.m x1.d, .bool x2.neg, .slice x2.a x2.n x2.c, .slice x2.b x2.m x2.d] ∧ Blk W (w.heap.size + 1) 73 #[.bool x3.neg, .slice x3.a x3.n x3.c, .slice x3.b x3.m x3.d, .bool x4.neg, .slice x4.a x4.n x4.c, .slice x4.b x4.m x4.d] ∧ Blk W (w.heap.size + 1 + 1) 73 #[.bool false, .slice none 0 0, .slice none 0 0, .bool false, .slice none 0 0, .slice none 0 0] ∧ Below w.heap.size w W ∧ w.heap.size < w.heap.size + 1 + 1 ∧ w.heap.size + 1 + 1 < W.heap.size) ⟨by ((repeat first|with_reducible assumption|((with_reducible apply Blk.farAt);focus omega)|with_reducible apply Blk.setb|((with_reducible apply Blk.newAt);focus (simp;done))|with_reducible apply Blk.alloc|with_reducible apply Blk.drew);all_goals (show @Eq (Array Value) _ _;rfl)), by ((repeat first|with_reducible assumption|((with_reducible apply Blk.farAt);focus omega)|with_reducible apply Blk.setb|((with_reducible apply Blk.newAt);focus (simp;done))|with_reducible apply Blk.alloc|with_reducible apply Blk.drew);all_goals (show @Eq (Array Value) _ _;rfl)), by ((repeat first|with_reducible assumption|((with_reducible apply Blk.farAt);focus omega)|with_reducible apply Blk.setb|((with_reducible apply Blk.newAt);focus (simp;done))|with_reducible apply Blk.alloc|with_reducible apply Blk.drew);all_goals (show @Eq (Array Value) _ _;rfl)), by go_grown, by omega, by simp⟩ ?_
 rintro w0 ⟨h0, h1, h2, hw0, hg, hgw⟩
 revert h0 h1 h2 hg hgw
 generalize w.heap.size + 1 + 1 = g2
 generalize w.heap.size + 1 = g1
 intro h0 h1 h2 hg hgw
 have k0_0 := held (h0.cell 0)
 have k0_1 := held (h0.cell 1)
 have k0_2 := held (h0.cell 2)
 have k0_3 := held (h0.cell 3)
 have k0_4 := held (h0.cell 4)
 have k0_5 := held (h0.cell 5)
 have k1_0 := held (h1.cell 0)
 have k1_1 := held (h1.cell 1)
 have k1_2 := held (h1.cell 2)
 have k1_3 := held (h1.cell 3)
 have k1_4 := held (h1.cell 4)
 have k1_5 := held (h1.cell 5)
 have s0 : Below w0.heap.size w0 w0.drew := (Below.refl _ _).drew
 have n0 : w0.heap.size ≤ w0.drew.heap.size := Nat.le_refl _
 refine wp_region_mix (S := Below w0.heap.size w0) [(0, .q), (1, .q), (2, .q), (3, .q), (5, .q), (6, .q), (7, .q), (8, .q), (4, .l), (9, .t), (10, .p), (11, .t)] (by kernel_rfl) (by kernel_rfl) (by kernel_rfl) (fun d _ _ _ _ h => by cases d <;> exact h) (s0) ?_
 iterate 8 (refine wpMix_q rfl rfl (fun K hK => ?_); apply Exists.intro; refine ⟨fun w' hw' => ?_, ?_⟩; (focus (go_simp; try rfl)); go_simp; refine hK _ _ ?_; clear hK K)
 refine wpMix_l rfl rfl (fun K hK => ?_)
 go_simp
 refine (subR_q x1 x4 (a) (d) (k) (k) _ (R1.out _ (below_then hw0 s0)) (R4.out _ (below_then hw0 s0)) (by omega) (by omega)).mono ?_
 rintro r w1 ⟨z1_1, rfl, J1_1, hb1⟩
 dsimp only
 refine hK.out _ _ (below_then s0 hb1) (fun _ => ?_)
 clear hK K
 have s1 := below_then s0 hb1
 have n1 := s1.size
 have K1_1 := Lib.hid J1_1
 clear J1_1
 refine wpMix_t rfl rfl (fun K hK => ?_)
 go_simp
 refine (subR_q x2 x3 (b) (c) (k) (k) _ (R2.out _ (below_then hw0 s1)) (R3.out _ (below_then hw0 s1)) (by omega) (by omega)).mono ?_
 rintro r w2 ⟨z2_1, rfl, J2_1, hb2⟩
 dsimp only
 refine hK.out _ _ ?_
 clear hK K
 have s2 := below_then s1 hb2
 have n2 := s2.size
 have K2_1 := Lib.hid J2_1
 clear J2_1
 iterate 1 (refine wpMix_p rfl rfl (fun K hK => ?_); apply Exists.intro; refine ⟨fun w' => ?_, ?_⟩; (focus (go_simp; try rfl)); go_simp; refine hK _ _ ?_; clear hK K)
 have hz := h2.below' s2
 have hw1 := below_then hw0 s2
 clear k0_0 k0_1 k0_2 k0_3 k0_4 k0_5 k1_0 k1_1 k1_2 k1_3 k1_4 k1_5
 have y0 := hz.cell 0; have f0 := hz.frozen 0
 have y1 := hz.cell 1; have f1 := hz.frozen 1
 have y2 := hz.cell 2; have f2 := hz.frozen 2
 have y3 := hz.cell 3; have f3 := hz.frozen 3
 have y4 := hz.cell 4; have f4 := hz.frozen 4
 have y5 := hz.cell 5; have f5 := hz.frozen 5
 refine wpMix_t rfl rfl (fun K hK => ?_)
 go_simp
 refine hK.out _ _ ?_
 clear hK K
 refine wpMix_nil ?_
 go_wp2
 have E1_1 := Lib.hid (K1_1.out.call hb2)
 refine world_gen (fun W => Blk W g2 73 #[.bool z1_1.neg, .slice z1_1.a z1_1.n z1_1.c, .slice z1_1.b z1_1.m z1_1.d, .bool z2_1.neg, .slice z2_1.a z2_1.n z2_1.c, .slice z2_1.b z2_1.m z2_1.d] ∧ Below w.heap.size w W ∧ Kp (fun V => QK (k + k + 1) V z1_1 (a - d)) w0.drew.heap.size w1.heap.size W ∧ Kp (fun V => QK (k + k + 1) V z2_1 (b - c)) w1.heap.size w2.heap.size W) ⟨by ((repeat first|with_reducible assumption|((with_reducible apply Blk.farAt);focus omega)|with_reducible apply Blk.setb|((with_reducible apply Blk.newAt);focus (simp;done))|with_reducible apply Blk.alloc|with_reducible apply Blk.drew);all_goals (show @Eq (Array Value) _ _;rfl)), by go_grown, by (repeat (first | (with_reducible exact E1_1.out) | ((with_reducible refine Kp.setc ?_ ?_); (focus omega)) | (with_reducible refine Kp.alloc ?_) | (with_reducible refine Kp.drew ?_))), by (repeat (first | (with_reducible exact K2_1.out) | ((with_reducible refine Kp.setc ?_ ?_); (focus omega)) | (with_reducible refine Kp.alloc ?_) | (with_reducible refine Kp.drew ?_)))⟩ ?_
 rintro wF ⟨hF, hwF, L0, L1⟩
 have e0 := hF.cell 0
 have e1 := hF.cell 1
 have e2 := hF.cell 2
 have e3 := hF.cell 3
 have e4 := hF.cell 4
 have e5 := hF.cell 5
 refine bodyPost_ret (v := .agg #[.bool z1_1.neg, .slice z1_1.a z1_1.n z1_1.c, .slice z1_1.b z1_1.m z1_1.d, .bool z2_1.neg, .slice z2_1.a z2_1.n z2_1.c, .slice z2_1.b z2_1.m z2_1.d]) (by simp [results, Tryz.results87, go_sem, e0, e1, e2, e3, e4, e5]) rfl ?_
 exact ⟨z1_1, z2_1, rfl, Kp.made ((L0.imp fun _ h => QK.more h (by omega)).fin (show w.heap.size ≤ _ from Nat.le_trans hw0.size n0)), Kp.made ((L1.imp fun _ h => QK.more h (by omega)).fin (show w.heap.size ≤ _ from Nat.le_trans hw0.size n1)), hwF⟩
end Go.Proofs.YtaihkpjbnkgmlaaGreat

/- Two calls that each make a rational number, and two cells that take them, in whatever order they come. No function of the program in sight. -/
namespace Go.Proofs.YtaihkpjbnkgmlaaGreat
open Go.RowKit

/-- what has come up: c1, c2 the calls, a1, a2 the cells, s1, s2 the stores -/
def PairJ (t : TypeId) (w0 : World) (R1 R2 : QA → World → Prop) (c1 c2 a1 a2 s1 s2 : Bool) (v1 v2 p1 p2 : Value) (w : World) : Prop := ∃ z1 z2 : QA, ∃ B1 T1 B2 T2 g1 g2 : Nat, Below w0.heap.size w0 w ∧
 (c1 = true → v1 = .agg #[.bool z1.neg, .slice z1.a z1.n z1.c, .slice z1.b z1.m z1.d] ∧ w0.heap.size ≤ B1 ∧ T1 ≤ w.heap.size ∧ Kp (R1 z1) B1 T1 w) ∧
 (c2 = true → v2 = .agg #[.bool z2.neg, .slice z2.a z2.n z2.c, .slice z2.b z2.m z2.d] ∧ w0.heap.size ≤ B2 ∧ T2 ≤ w.heap.size ∧ Kp (R2 z2) B2 T2 w) ∧
 (a1 = true → p1 = .pointer (some ⟨g1, 0, none⟩) ∧ w0.heap.size ≤ g1 ∧ Blk w g1 t (if s1 then z1.cs else #[.bool false, .slice none 0 0, .slice none 0 0])) ∧
 (a2 = true → p2 = .pointer (some ⟨g2, 0, none⟩) ∧ w0.heap.size ≤ g2 ∧ Blk w g2 t (if s2 then z2.cs else #[.bool false, .slice none 0 0, .slice none 0 0])) ∧
 (c1 = true → a1 = true → g1 < B1 ∨ T1 ≤ g1) ∧ (c1 = true → a2 = true → g2 < B1 ∨ T1 ≤ g2) ∧ (c2 = true → a1 = true → g1 < B2 ∨ T2 ≤ g1) ∧ (c2 = true → a2 = true → g2 < B2 ∨ T2 ≤ g2) ∧
 (a1 = true → a2 = true → g1 ≠ g2)
section
variable {t : TypeId} {w0 : World} {R1 R2 : QA → World → Prop} {c1 c2 a1 a2 s1 s2 : Bool} {v1 v2 p1 p2 : Value} {w : World}
theorem PairJ.start : PairJ t w0 R1 R2 false false false false false false v1 v2 p1 p2 w0 :=
 ⟨⟨false, 0, none, 0, 0, none, 0⟩, ⟨false, 0, none, 0, 0, none, 0⟩, 0, 0, 0, 0, 0, 0, Below.refl _ _, by simp, by simp, by simp, by simp, by simp, by simp, by simp, by simp, by simp⟩
theorem PairJ.swap (h : PairJ t w0 R1 R2 c1 c2 a1 a2 s1 s2 v1 v2 p1 p2 w) : PairJ t w0 R2 R1 c2 c1 a2 a1 s2 s1 v2 v1 p2 p1 w := by
 obtain ⟨z1, z2, B1, T1, B2, T2, g1, g2, hb, h1, h2, h3, h4, d1, d2, d3, d4, d5⟩ := h
 exact ⟨z2, z1, B2, T2, B1, T1, g2, g1, hb, h2, h1, h4, h3, d4, d3, d2, d1, fun x y e => d5 y x e.symm⟩
theorem PairJ.below (h : PairJ t w0 R1 R2 c1 c2 a1 a2 s1 s2 v1 v2 p1 p2 w) : Below w0.heap.size w0 w := by
 obtain ⟨_, _, _, _, _, _, _, _, hb, _⟩ := h
 exact hb
theorem PairJ.call1 (h : PairJ t w0 R1 R2 c1 c2 a1 a2 false s2 v1 v2 p1 p2 w) {w' : World} (hb' : Below w.heap.size w w') (z : QA) (hk : Kp (R1 z) w.heap.size w'.heap.size w') :
  PairJ t w0 R1 R2 true c2 a1 a2 false s2 (.agg #[.bool z.neg, .slice z.a z.n z.c, .slice z.b z.m z.d]) v2 p1 p2 w' := by
 obtain ⟨z1, z2, B1, T1, B2, T2, g1, g2, hb, h1, h2, h3, h4, d1, d2, d3, d4, d5⟩ := h
 refine ⟨z, z2, w.heap.size, w'.heap.size, B2, T2, g1, g2, below_then hb hb', fun _ => ⟨rfl, hb.size, Nat.le_refl _, hk⟩, fun e => ?_, fun e => ?_, fun e => ?_, fun _ e => .inl (h3 e).2.2.lt, fun _ e => .inl (h4 e).2.2.lt, d3, d4, d5⟩
 ·
  obtain ⟨e1, e2, e3, e4⟩ := h2 e
  exact ⟨e1, e2, Nat.le_trans e3 hb'.size, e4.call hb'⟩
 ·
  obtain ⟨e1, e2, e3⟩ := h3 e
  exact ⟨e1, e2, by simpa using e3.below' hb'⟩
 ·
  obtain ⟨e1, e2, e3⟩ := h4 e
  exact ⟨e1, e2, e3.below' hb'⟩
theorem PairJ.new1 (h : PairJ t w0 R1 R2 c1 c2 false a2 false s2 v1 v2 p1 p2 w) :
  PairJ t w0 R1 R2 c1 c2 true a2 false s2 v1 v2 (.pointer (some ⟨w.heap.size, 0, none⟩)) p2 (w.alloc (.cells #[.bool false, .slice none 0 0, .slice none 0 0] t)) := by
 obtain ⟨z1, z2, B1, T1, B2, T2, g1, g2, hb, h1, h2, h3, h4, d1, d2, d3, d4, d5⟩ := h
 refine ⟨z1, z2, B1, T1, B2, T2, w.heap.size, g2, hb.alloc hb.size _, fun e => ?_, fun e => ?_, fun _ => ⟨rfl, hb.size, by simpa using Blk.new w t _⟩, fun e => ?_, fun e _ => .inr (h1 e).2.2.1, d2, fun e _ => .inr (h2 e).2.2.1, d4, fun _ e => ?_⟩
 ·
  obtain ⟨e1, e2, e3, e4⟩ := h1 e
  exact ⟨e1, e2, by simp; omega, e4.alloc⟩
 ·
  obtain ⟨e1, e2, e3, e4⟩ := h2 e
  exact ⟨e1, e2, by simp; omega, e4.alloc⟩
 ·
  obtain ⟨e1, e2, e3⟩ := h4 e
  exact ⟨e1, e2, e3.alloc _⟩
 ·
  have := (h4 e).2.2.lt
  omega
/-- the store of the first: what the value and the pointer are, and what stands behind it -/
theorem PairJ.store1 (h : PairJ t w0 R1 R2 true c2 true a2 false s2 v1 v2 p1 p2 w) : ∃ (z : QA) (g : Nat), v1 = .agg #[.bool z.neg, .slice z.a z.n z.c, .slice z.b z.m z.d] ∧ p1 = .pointer (some ⟨g, 0, none⟩) ∧ w0.heap.size ≤ g ∧
  Blk w g t #[.bool false, .slice none 0 0, .slice none 0 0] ∧
  PairJ t w0 R1 R2 true c2 true a2 true s2 v1 v2 p1 p2 (((w.setCell ⟨g, 0, none⟩ (.bool z.neg)).setCell ⟨g, 1, none⟩ (.slice z.a z.n z.c)).setCell ⟨g, 2, none⟩ (.slice z.b z.m z.d)) := by
 obtain ⟨z1, z2, B1, T1, B2, T2, g1, g2, hb, h1, h2, h3, h4, d1, d2, d3, d4, d5⟩ := h
 obtain ⟨q1, q2, q3, q4⟩ := h1 rfl
 obtain ⟨y1, y2, y3⟩ := h3 rfl
 refine ⟨z1, g1, q1, y1, y2, by simpa using y3, z1, z2, B1, T1, B2, T2, g1, g2, ((hb.setCell y2 _).setCell y2 _).setCell y2 _, fun _ => ⟨q1, q2, by simpa using q3, ?_⟩, fun e => ?_, fun _ => ⟨y1, y2, ?_⟩, fun e => ?_, d1, d2, d3, d4, d5⟩
 · exact ((q4.setc (d1 rfl rfl)).setc (d1 rfl rfl)).setc (d1 rfl rfl)
 ·
  obtain ⟨e1, e2, e3, e4⟩ := h2 e
  exact ⟨e1, e2, by simpa using e3, ((e4.setc (d3 e rfl)).setc (d3 e rfl)).setc (d3 e rfl)⟩
 ·
  have y4 : Blk w g1 t #[.bool false, .slice none 0 0, .slice none 0 0] := by simpa using y3
  have := ((y4.set_ 0 (.bool z1.neg)).set_ 1 (.slice z1.a z1.n z1.c)).set_ 2 (.slice z1.b z1.m z1.d)
  exact this
 ·
  obtain ⟨e1, e2, e3⟩ := h4 e
  have hne := d5 rfl e
  exact ⟨e1, e2, Blk.farAt (Ne.symm hne) (Blk.farAt (Ne.symm hne) (Blk.farAt (Ne.symm hne) e3))⟩
theorem PairJ.all (h : PairJ t w0 R1 R2 true true true true true true v1 v2 p1 p2 w) : ∃ (z1 z2 : QA) (B1 T1 B2 T2 g1 g2 : Nat), v1 = .agg #[.bool z1.neg, .slice z1.a z1.n z1.c, .slice z1.b z1.m z1.d] ∧ v2 = .agg #[.bool z2.neg, .slice z2.a z2.n z2.c, .slice z2.b z2.m z2.d] ∧
  p1 = .pointer (some ⟨g1, 0, none⟩) ∧ p2 = .pointer (some ⟨g2, 0, none⟩) ∧ Below w0.heap.size w0 w ∧ w0.heap.size ≤ B1 ∧ w0.heap.size ≤ B2 ∧ w0.heap.size ≤ g1 ∧ w0.heap.size ≤ g2 ∧ T1 ≤ w.heap.size ∧ T2 ≤ w.heap.size ∧ Kp (R1 z1) B1 T1 w ∧ Kp (R2 z2) B2 T2 w ∧
  Blk w g1 t #[.bool z1.neg, .slice z1.a z1.n z1.c, .slice z1.b z1.m z1.d] ∧ Blk w g2 t #[.bool z2.neg, .slice z2.a z2.n z2.c, .slice z2.b z2.m z2.d] := by
 obtain ⟨z1, z2, B1, T1, B2, T2, g1, g2, hb, h1, h2, h3, h4, _⟩ := h
 obtain ⟨q1, q2, q3, q4⟩ := h1 rfl
 obtain ⟨r1, r2, r3, r4⟩ := h2 rfl
 obtain ⟨y1, y2, y3⟩ := h3 rfl
 obtain ⟨x1, x2, x3⟩ := h4 rfl
 exact ⟨z1, z2, B1, T1, B2, T2, g1, g2, q1, r1, y1, x1, hb, q2, r2, y2, x2, q3, r3, q4, r4, y3, x3⟩
end
end Go.Proofs.YtaihkpjbnkgmlaaGreat
