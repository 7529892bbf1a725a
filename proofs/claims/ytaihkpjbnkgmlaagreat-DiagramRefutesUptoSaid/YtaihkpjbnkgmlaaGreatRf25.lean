/- Walks: the reference's products of intervals. (Printed by gen2.py.) -/
import Derived.Test.YtaihkpjbnkgmlaaGreatRf21
import Derived.Test.YtaihkpjbnkgmlaaGreatRf23

/- Walks: the reference's products of intervals. (Printed by gen2.py.) -/
namespace Go.Proofs.YtaihkpjbnkgmlaaGreat
open Go.RowKit

/-- the least and the greatest of a row are handed back -/
def SpanL (xs : List QA) (qs : List Rat) (p q : Rat) (e : Ending) : Prop := ∃ y z : QA, e = .returned (.agg #[.bool y.neg, .slice y.a y.n y.c, .slice y.b y.m y.d, .bool z.neg, .slice z.a z.n z.c, .slice z.b z.m z.d]) ∧ (∀ k W, AllQ k W xs qs → QK k W y p) ∧ ∀ k W, AllQ k W xs qs → QK k W z q
set_option maxRecDepth 100000 in
set_option maxHeartbeats 4000000 in
theorem span_q (x : QA) (q : Rat) (xs : List QA) (qs : List Rat) (k b cp : Nat) (w : World) (H : AllQ k w (x :: xs) (q :: qs)) (hr : RowQ w b (x :: xs)) (hl : xs.length ≤ 1000) (hk : k ≤ 100000) :
  Calls Tryz.prog 170 #[.slice (some ⟨b, 0, none⟩) (xs.length + 1) cp] w fun e w' => SpanL (x :: xs) (q :: qs) (leastQ q qs) (greatQ q qs) e ∧ Below w.heap.size w w' := by
 have HH := Lib.hid (fun W (hW : Below w.heap.size w W) => H.ext (Ext.below hW))
 have HR := Lib.hid (fun W (hW : Below w.heap.size w W) => hr.ext (Ext.below hW))
 clear H hr
 go_enter Tryz.func170, Tryz.ntmps170
 go_wp2_with fail
 have hw0 : Below w.heap.size w (w.alloc (.cells #[.bool false, .slice none 0 0, .slice none 0 0, .bool false, .slice none 0 0, .slice none 0 0] 73)) := (Below.refl _ _).alloc (Nat.le_refl _) _
 refine (leastLR_q x q xs qs k b cp _ (HH.out _ hw0) (HR.out _ hw0) hl hk).mono ?_
 rintro e w1 ⟨⟨y, rfl, HY⟩, hb1⟩
 have h0 : Blk w1 w.heap.size 73 #[.bool false, .slice none 0 0, .slice none 0 0, .bool false, .slice none 0 0, .slice none 0 0] := (Blk.new w _ _).below' hb1
 have hw1 := below_then hw0 hb1
 clear hw0 hb1
 go_wp2_with fail
 refine (greatLR_q x q xs qs k b cp _ (HH.out _ hw1) (HR.out _ hw1) hl hk).mono ?_
 rintro e w2 ⟨⟨z, rfl, HZ⟩, hb2⟩
 replace h0 := h0.below' hb2
 have hw2 := below_then hw1 hb2
 clear hw1 hb2
 replace HY := Lib.hid HY; replace HZ := Lib.hid HZ
 clear HH HR
 have y0 := h0.cell 0; have f0 := h0.frozen 0; have y1 := h0.cell 1; have f1 := h0.frozen 1; have y2 := h0.cell 2; have f2 := h0.frozen 2; have y3 := h0.cell 3; have f3 := h0.frozen 3; have y4 := h0.cell 4; have f4 := h0.frozen 4; have y5 := h0.cell 5; have f5 := h0.frozen 5
 go_wp2
 refine world_gen (fun W => Blk W w.heap.size 73 #[.bool y.neg, .slice y.a y.n y.c, .slice y.b y.m y.d, .bool z.neg, .slice z.a z.n z.c, .slice z.b z.m z.d] ∧ Below w.heap.size w W) ⟨by ((repeat first|with_reducible assumption|((with_reducible apply Blk.farAt);focus omega)|with_reducible apply Blk.setb|((with_reducible apply Blk.newAt);focus (simp;done))|with_reducible apply Blk.alloc|with_reducible apply Blk.drew);all_goals (show @Eq (Array Value) _ _;rfl)), by go_grown⟩ ?_
 rintro w3 ⟨hF, hw3⟩
 have e0 := hF.cell 0; have e1 := hF.cell 1; have e2 := hF.cell 2; have e3 := hF.cell 3; have e4 := hF.cell 4; have e5 := hF.cell 5
 refine bodyPost_ret (v := .agg #[.bool y.neg, .slice y.a y.n y.c, .slice y.b y.m y.d, .bool z.neg, .slice z.a z.n z.c, .slice z.b z.m z.d]) (by simp [results, Tryz.results170, go_sem, e0, e1, e2, e3, e4, e5]) rfl ?_
 exact ⟨⟨y, z, rfl, HY.out, HZ.out⟩, hw3⟩

set_option maxRecDepth 100000 in
set_option maxHeartbeats 4000000 in
theorem imulR_q (x1 x2 x3 x4 : QA) (a b c d : Rat) (k : Nat) (w : World) (H1 : QK k w x1 a) (H2 : QK k w x2 b) (H3 : QK k w x3 c) (H4 : QK k w x4 d) (hk : k ≤ 10000) :
  Calls Tryz.prog 91 #[.agg #[.bool x1.neg, .slice x1.a x1.n x1.c, .slice x1.b x1.m x1.d, .bool x2.neg, .slice x2.a x2.n x2.c, .slice x2.b x2.m x2.d], .agg #[.bool x3.neg, .slice x3.a x3.n x3.c, .slice x3.b x3.m x3.d, .bool x4.neg, .slice x4.a x4.n x4.c, .slice x4.b x4.m x4.d]] w (RetI2 (k + k) (leastQ (a * c) [a * d, b * c, b * d]) (greatQ (a * c) [a * d, b * c, b * d]) w) := by
 have R1 := Lib.hid (fun W (hW : Below w.heap.size w W) => H1.ext (Ext.below hW))
 have R2 := Lib.hid (fun W (hW : Below w.heap.size w W) => H2.ext (Ext.below hW))
 have R3 := Lib.hid (fun W (hW : Below w.heap.size w W) => H3.ext (Ext.below hW))
 have R4 := Lib.hid (fun W (hW : Below w.heap.size w W) => H4.ext (Ext.below hW))
 clear H1 H2 H3 H4
 go_enter Tryz.func91, Tryz.ntmps91
 go_wp2
 refine world_gen (fun W => Blk W w.heap.size 73 #[.bool x1.neg, .slice x1.a x1.n x1.c, .slice x1.b x1.m x1.d, .bool x2.neg, .slice x2.a x2.n x2.c, .slice x2.b x2.m x2.d] ∧ Blk W (w.heap.size + 1) 73 #[.bool x3.neg, .slice x3.a x3.n x3.c, .slice x3.b x3.m x3.d, .bool x4.neg, .slice x4.a x4.n x4.c, .slice x4.b x4.m x4.d] ∧ Blk W (w.heap.size + 1 + 1) 73 #[.bool false, .slice none 0 0, .slice none 0 0, .bool false, .slice none 0 0, .slice none 0 0] ∧ Below w.heap.size w W ∧ w.heap.size < w.heap.size + 1 + 1 ∧ w.heap.size + 1 + 1 < W.heap.size) ⟨by ((repeat first|with_reducible assumption|((with_reducible apply Blk.farAt);focus omega)|with_reducible apply Blk.setb|((with_reducible apply Blk.newAt);focus (simp;done))|with_reducible apply Blk.alloc|with_reducible apply Blk.drew);all_goals (show @Eq (Array Value) _ _;rfl)), by ((repeat first|with_reducible assumption|((with_reducible apply Blk.farAt);focus omega)|with_reducible apply Blk.setb|((with_reducible apply Blk.newAt);focus (simp;done))|with_reducible apply Blk.alloc|with_reducible apply Blk.drew);all_goals (show @Eq (Array Value) _ _;rfl)), by ((repeat first|with_reducible assumption|((with_reducible apply Blk.farAt);focus omega)|with_reducible apply Blk.setb|((with_reducible apply Blk.newAt);focus (simp;done))|with_reducible apply Blk.alloc|with_reducible apply Blk.drew);all_goals (show @Eq (Array Value) _ _;rfl)), by go_grown, by omega, by simp⟩ ?_
 rintro w0 ⟨h0, h1, h2, hw0, hg, hgw⟩
 revert h0 h1 h2 hg hgw
 generalize w.heap.size + 1 + 1 = g2
 generalize w.heap.size + 1 = g1
 intro h0 h1 h2 hg hgw
 have k0_0 := held (h0.cell 0)
 have k0_1 := held (h0.cell 1)
 have k0_2 := held (h0.cell 2)
 have k0_3 := held (h0.cell 3)
 have k0_4 := held (h0.cell 4)
 have k0_5 := held (h0.cell 5)
 have k1_0 := held (h1.cell 0)
 have k1_1 := held (h1.cell 1)
 have k1_2 := held (h1.cell 2)
 have k1_3 := held (h1.cell 3)
 have k1_4 := held (h1.cell 4)
 have k1_5 := held (h1.cell 5)
 have s0 : Below w0.heap.size w0 w0.drew := (Below.refl _ _).drew
 have n0 : w0.heap.size ≤ w0.drew.heap.size := Nat.le_refl _
 refine wp_region_mix (S := Below w0.heap.size w0) [(0, .q), (1, .q), (2, .q), (3, .q), (5, .q), (6, .q), (7, .q), (8, .q), (10, .q), (11, .q), (12, .q), (13, .q), (15, .q), (16, .q), (17, .q), (18, .q), (4, .l), (9, .l), (14, .l), (19, .t), (20, .t), (21, .t), (22, .t)] (by kernel_rfl) (by kernel_rfl) (by kernel_rfl) (fun d _ _ _ _ h => by cases d <;> exact h) (s0) ?_
 iterate 16 (refine wpMix_q rfl rfl (fun K hK => ?_); apply Exists.intro; refine ⟨fun w' hw' => ?_, ?_⟩; (focus (go_simp; try rfl)); go_simp; refine hK _ _ ?_; clear hK K)
 refine wpMix_l rfl rfl (fun K hK => ?_)
 go_simp
 refine (mulR_q x1 x3 (a) (c) (k) (k) _ (R1.out _ (below_then hw0 s0)) (R3.out _ (below_then hw0 s0)) (by omega) (by omega)).mono ?_
 rintro r w1 ⟨z1_1, rfl, J1_1, hb1⟩
 dsimp only
 refine hK.out _ _ (below_then s0 hb1) (fun _ => ?_)
 clear hK K
 have s1 := below_then s0 hb1
 have n1 := s1.size
 have K1_1 := Lib.hid J1_1
 clear J1_1
 refine wpMix_l rfl rfl (fun K hK => ?_)
 go_simp
 refine (mulR_q x1 x4 (a) (d) (k) (k) _ (R1.out _ (below_then hw0 s1)) (R4.out _ (below_then hw0 s1)) (by omega) (by omega)).mono ?_
 rintro r w2 ⟨z2_1, rfl, J2_1, hb2⟩
 dsimp only
 refine hK.out _ _ (below_then s1 hb2) (fun _ => ?_)
 clear hK K
 have s2 := below_then s1 hb2
 have n2 := s2.size
 have K2_1 := Lib.hid J2_1
 clear J2_1
 refine wpMix_l rfl rfl (fun K hK => ?_)
 go_simp
 refine (mulR_q x2 x3 (b) (c) (k) (k) _ (R2.out _ (below_then hw0 s2)) (R3.out _ (below_then hw0 s2)) (by omega) (by omega)).mono ?_
 rintro r w3 ⟨z3_1, rfl, J3_1, hb3⟩
 dsimp only
 refine hK.out _ _ (below_then s2 hb3) (fun _ => ?_)
 clear hK K
 have s3 := below_then s2 hb3
 have n3 := s3.size
 have K3_1 := Lib.hid J3_1
 clear J3_1
 refine wpMix_t rfl rfl (fun K hK => ?_)
 go_simp
 refine (mulR_q x2 x4 (b) (d) (k) (k) _ (R2.out _ (below_then hw0 s3)) (R4.out _ (below_then hw0 s3)) (by omega) (by omega)).mono ?_
 rintro r w4 ⟨z4_1, rfl, J4_1, hb4⟩
 dsimp only
 refine hK.out _ _ ?_
 clear hK K
 have s4 := below_then s3 hb4
 have n4 := s4.size
 have K4_1 := Lib.hid J4_1
 clear J4_1
 refine wpMix_t rfl rfl (fun K hK => ?_)
 go_simp
 refine hK.out _ _ ?_
 clear hK K
 refine world_gen (fun W => Blk W w4.heap.size 43 #[.bool z1_1.neg, .slice z1_1.a z1_1.n z1_1.c, .slice z1_1.b z1_1.m z1_1.d, .bool z2_1.neg, .slice z2_1.a z2_1.n z2_1.c, .slice z2_1.b z2_1.m z2_1.d, .bool z3_1.neg, .slice z3_1.a z3_1.n z3_1.c, .slice z3_1.b z3_1.m z3_1.d, .bool z4_1.neg, .slice z4_1.a z4_1.n z4_1.c, .slice z4_1.b z4_1.m z4_1.d] ∧ Below w4.heap.size w4 W) ⟨by ((repeat first|with_reducible assumption|((with_reducible apply Blk.farAt);focus omega)|with_reducible apply Blk.setb|((with_reducible apply Blk.newAt);focus (simp;done))|with_reducible apply Blk.alloc|with_reducible apply Blk.drew);all_goals (show @Eq (Array Value) _ _;rfl)), (Below.refl _ _).alloc (Nat.le_refl _) _⟩ ?_
 rintro w5 ⟨hr5, hb5⟩
 have s5 := below_then s4 hb5
 have n5 := s5.size
 have RR6 := Lib.hid (AllQ.n4 ((((((K1_1.out.call hb2).call hb3).call hb4).call hb5)).wide n0 (by have := hb2.size; have := hb3.size; have := hb4.size; omega)) (((((K2_1.out.call hb3).call hb4).call hb5)).wide n1 (by have := hb3.size; have := hb4.size; omega)) ((((K3_1.out.call hb4).call hb5)).wide n2 (by have := hb4.size; omega)) (((K4_1.out.call hb5)).wide n3 (Nat.le_refl _)))
 clear K1_1
 clear K2_1
 clear K3_1
 clear K4_1
 have RW6 := RowQ.n4 hr5
 clear hr5
 refine wpMix_t rfl rfl (fun K hK => ?_)
 go_simp
 refine (span_q z1_1 (a * c) [z2_1, z3_1, z4_1] [a * d, b * c, b * d] (k + k) w4.heap.size 4 _ (RR6.out).now RW6 (Nat.le_of_ble_eq_true rfl) (by omega)).mono ?_
 rintro r w6 ⟨⟨z6_1, z6_2, rfl, P6_1, P6_2⟩, hb6⟩
 dsimp only
 refine hK.out _ _ ?_
 clear hK K
 have s6 := below_then s5 hb6
 have n6 := s6.size
 have K6_1 := Lib.hid ((RR6.out.call hb6).imp (fun V h => P6_1 _ _ h))
 have K6_2 := Lib.hid ((RR6.out.call hb6).imp (fun V h => P6_2 _ _ h))
 clear RR6 RW6 P6_1 P6_2
 have hz := h2.below' s6
 have hw1 := below_then hw0 s6
 clear k0_0 k0_1 k0_2 k0_3 k0_4 k0_5 k1_0 k1_1 k1_2 k1_3 k1_4 k1_5
 have y0 := hz.cell 0; have f0 := hz.frozen 0
 have y1 := hz.cell 1; have f1 := hz.frozen 1
 have y2 := hz.cell 2; have f2 := hz.frozen 2
 have y3 := hz.cell 3; have f3 := hz.frozen 3
 have y4 := hz.cell 4; have f4 := hz.frozen 4
 have y5 := hz.cell 5; have f5 := hz.frozen 5
 refine wpMix_t rfl rfl (fun K hK => ?_)
 go_simp
 refine hK.out _ _ ?_
 clear hK K
 refine wpMix_nil ?_
 go_wp2
 refine world_gen (fun W => Blk W g2 73 #[.bool z6_1.neg, .slice z6_1.a z6_1.n z6_1.c, .slice z6_1.b z6_1.m z6_1.d, .bool z6_2.neg, .slice z6_2.a z6_2.n z6_2.c, .slice z6_2.b z6_2.m z6_2.d] ∧ Below w.heap.size w W ∧ Kp (fun V => QK (k + k) V z6_1 (leastQ (a * c) [a * d, b * c, b * d])) w0.heap.size w4.heap.size W ∧ Kp (fun V => QK (k + k) V z6_2 (greatQ (a * c) [a * d, b * c, b * d])) w0.heap.size w4.heap.size W) ⟨by ((repeat first|with_reducible assumption|((with_reducible apply Blk.farAt);focus omega)|with_reducible apply Blk.setb|((with_reducible apply Blk.newAt);focus (simp;done))|with_reducible apply Blk.alloc|with_reducible apply Blk.drew);all_goals (show @Eq (Array Value) _ _;rfl)), by go_grown, by (repeat (first | (with_reducible exact K6_1.out) | ((with_reducible refine Kp.setc ?_ ?_); (focus omega)) | (with_reducible refine Kp.alloc ?_) | (with_reducible refine Kp.drew ?_))), by (repeat (first | (with_reducible exact K6_2.out) | ((with_reducible refine Kp.setc ?_ ?_); (focus omega)) | (with_reducible refine Kp.alloc ?_) | (with_reducible refine Kp.drew ?_)))⟩ ?_
 rintro wF ⟨hF, hwF, L0, L1⟩
 have e0 := hF.cell 0
 have e1 := hF.cell 1
 have e2 := hF.cell 2
 have e3 := hF.cell 3
 have e4 := hF.cell 4
 have e5 := hF.cell 5
 refine bodyPost_ret (v := .agg #[.bool z6_1.neg, .slice z6_1.a z6_1.n z6_1.c, .slice z6_1.b z6_1.m z6_1.d, .bool z6_2.neg, .slice z6_2.a z6_2.n z6_2.c, .slice z6_2.b z6_2.m z6_2.d]) (by simp [results, Tryz.results91, go_sem, e0, e1, e2, e3, e4, e5]) rfl ?_
 exact ⟨z6_1, z6_2, rfl, Kp.made ((L0.imp fun _ h => QK.more h (by omega)).fin hw0.size), Kp.made ((L1.imp fun _ h => QK.more h (by omega)).fin hw0.size), hwF⟩
end Go.Proofs.YtaihkpjbnkgmlaaGreat
