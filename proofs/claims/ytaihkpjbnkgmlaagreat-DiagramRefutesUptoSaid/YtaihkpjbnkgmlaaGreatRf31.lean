/- The values of a fact in boxes, plain; boxes as handles; the two functions that diagram.values makes for itself. -/
import Derived.Test.YtaihkpjbnkgmlaaGreatRf30
import Derived.Test.YtaihkpjbnkgmlaaGreatRf1
import Derived.Laws.RangeString
import Derived.Test.YtaihkpjbnkgmlaaGreatRf20
import Derived.Test.YtaihkpjbnkgmlaaGreatRf28

/- Walks: norm. (Printed by gen2.py.) -/
namespace Go.Proofs.YtaihkpjbnkgmlaaGreat
open Go.RowKit

def normI (a b : Iq) : Iq := addI (sqI a) (sqI b)

set_option maxRecDepth 100000 in
set_option maxHeartbeats 4000000 in
theorem norm_q (x1 x2 x3 x4 : QA) (A B : Iq) (k : Nat) (w : World) (H1 : QK k w x1 A.1) (H2 : QK k w x2 A.2) (H3 : QK k w x3 B.1) (H4 : QK k w x4 B.2) (hk : k ≤ 2000) :
  Calls Tryz.prog 76 #[.agg #[.bool x1.neg, .slice x1.a x1.n x1.c, .slice x1.b x1.m x1.d, .bool x2.neg, .slice x2.a x2.n x2.c, .slice x2.b x2.m x2.d, .bool x3.neg, .slice x3.a x3.n x3.c, .slice x3.b x3.m x3.d, .bool x4.neg, .slice x4.a x4.n x4.c, .slice x4.b x4.m x4.d]] w (RetI2 (((k) + (k) + 1) + ((k) + (k) + 1) + 1) ((normI A B).1) ((normI A B).2) w) := by
 have R1 := Lib.hid (fun W (hW : Below w.heap.size w W) => H1.ext (Ext.below hW))
 have R2 := Lib.hid (fun W (hW : Below w.heap.size w W) => H2.ext (Ext.below hW))
 have R3 := Lib.hid (fun W (hW : Below w.heap.size w W) => H3.ext (Ext.below hW))
 have R4 := Lib.hid (fun W (hW : Below w.heap.size w W) => H4.ext (Ext.below hW))
 clear H1 H2 H3 H4
 go_enter Tryz.func76, Tryz.ntmps76
 go_wp2
 refine world_gen (fun W => Blk W w.heap.size 126 #[.bool x1.neg, .slice x1.a x1.n x1.c, .slice x1.b x1.m x1.d, .bool x2.neg, .slice x2.a x2.n x2.c, .slice x2.b x2.m x2.d, .bool x3.neg, .slice x3.a x3.n x3.c, .slice x3.b x3.m x3.d, .bool x4.neg, .slice x4.a x4.n x4.c, .slice x4.b x4.m x4.d] ∧ Blk W (w.heap.size + 1) 73 #[.bool false, .slice none 0 0, .slice none 0 0, .bool false, .slice none 0 0, .slice none 0 0] ∧ Below w.heap.size w W ∧ w.heap.size < w.heap.size + 1 ∧ w.heap.size + 1 < W.heap.size) ⟨by ((repeat first|with_reducible assumption|((with_reducible apply Blk.farAt);focus omega)|with_reducible apply Blk.setb|((with_reducible apply Blk.newAt);focus (simp;done))|with_reducible apply Blk.alloc|with_reducible apply Blk.drew);all_goals (show @Eq (Array Value) _ _;rfl)), by ((repeat first|with_reducible assumption|((with_reducible apply Blk.farAt);focus omega)|with_reducible apply Blk.setb|((with_reducible apply Blk.newAt);focus (simp;done))|with_reducible apply Blk.alloc|with_reducible apply Blk.drew);all_goals (show @Eq (Array Value) _ _;rfl)), by go_grown, by omega, by simp⟩ ?_
 rintro w0 ⟨h0, h1, hw0, hg, hgw⟩
 revert h0 h1 hg hgw
 generalize w.heap.size + 1 = g1
 intro h0 h1 hg hgw
 have k0_0 := held (h0.cell 0)
 have k0_1 := held (h0.cell 1)
 have k0_2 := held (h0.cell 2)
 have k0_3 := held (h0.cell 3)
 have k0_4 := held (h0.cell 4)
 have k0_5 := held (h0.cell 5)
 have k0_6 := held (h0.cell 6)
 have k0_7 := held (h0.cell 7)
 have k0_8 := held (h0.cell 8)
 have k0_9 := held (h0.cell 9)
 have k0_10 := held (h0.cell 10)
 have k0_11 := held (h0.cell 11)
 have s0 : Below w0.heap.size w0 w0.drew := (Below.refl _ _).drew
 have n0 : w0.heap.size ≤ w0.drew.heap.size := Nat.le_refl _
 refine wp_region_mix (S := Below w0.heap.size w0) [(0, .q), (1, .q), (3, .q), (4, .q), (2, .l), (5, .t), (6, .t), (7, .t)] (by kernel_rfl) (by kernel_rfl) (by kernel_rfl) (fun d _ _ _ _ h => by cases d <;> exact h) (s0) ?_
 iterate 4 (refine wpMix_q rfl rfl (fun K hK => ?_); apply Exists.intro; refine ⟨fun w' hw' => ?_, ?_⟩; (focus (go_simp; try rfl)); go_simp; refine hK _ _ ?_; clear hK K)
 refine wpMix_l rfl rfl (fun K hK => ?_)
 go_simp
 refine (isq_i x1 x2 A (k) _ (R1.out _ (below_then hw0 s0)) (R2.out _ (below_then hw0 s0)) (by omega)).mono ?_
 rintro r w1 ⟨z1_1, z1_2, rfl, J1_1, J1_2, hb1⟩
 dsimp only
 refine hK.out _ _ (below_then s0 hb1) (fun _ => ?_)
 clear hK K
 have s1 := below_then s0 hb1
 have n1 := s1.size
 have K1_1 := Lib.hid J1_1
 have K1_2 := Lib.hid J1_2
 clear J1_1 J1_2
 refine wpMix_t rfl rfl (fun K hK => ?_)
 go_simp
 refine (isq_i x3 x4 B (k) _ (R3.out _ (below_then hw0 s1)) (R4.out _ (below_then hw0 s1)) (by omega)).mono ?_
 rintro r w2 ⟨z2_1, z2_2, rfl, J2_1, J2_2, hb2⟩
 dsimp only
 refine hK.out _ _ ?_
 clear hK K
 have s2 := below_then s1 hb2
 have n2 := s2.size
 have K2_1 := Lib.hid J2_1
 have K2_2 := Lib.hid J2_2
 clear J2_1 J2_2
 refine wpMix_t rfl rfl (fun K hK => ?_)
 go_simp
 refine (iadd_i z1_1 z1_2 z2_1 z2_2 (sqI A) (sqI B) ((k) + (k) + 1) _ (K1_1.out.call hb2).now (K1_2.out.call hb2).now K2_1.out.now K2_2.out.now (by omega)).mono ?_
 rintro r w3 ⟨z3_1, z3_2, rfl, J3_1, J3_2, hb3⟩
 dsimp only
 refine hK.out _ _ ?_
 clear hK K
 have s3 := below_then s2 hb3
 have n3 := s3.size
 have K3_1 := Lib.hid J3_1
 have K3_2 := Lib.hid J3_2
 clear J3_1 J3_2
 have hz := h1.below' s3
 have hw1 := below_then hw0 s3
 clear k0_0 k0_1 k0_2 k0_3 k0_4 k0_5 k0_6 k0_7 k0_8 k0_9 k0_10 k0_11
 have y0 := hz.cell 0; have f0 := hz.frozen 0
 have y1 := hz.cell 1; have f1 := hz.frozen 1
 have y2 := hz.cell 2; have f2 := hz.frozen 2
 have y3 := hz.cell 3; have f3 := hz.frozen 3
 have y4 := hz.cell 4; have f4 := hz.frozen 4
 have y5 := hz.cell 5; have f5 := hz.frozen 5
 refine wpMix_t rfl rfl (fun K hK => ?_)
 go_simp
 refine hK.out _ _ ?_
 clear hK K
 refine wpMix_nil ?_
 go_wp2
 refine world_gen (fun W => Blk W g1 73 #[.bool z3_1.neg, .slice z3_1.a z3_1.n z3_1.c, .slice z3_1.b z3_1.m z3_1.d, .bool z3_2.neg, .slice z3_2.a z3_2.n z3_2.c, .slice z3_2.b z3_2.m z3_2.d] ∧ Below w.heap.size w W ∧ Kp (fun V => QK (((k) + (k) + 1) + ((k) + (k) + 1) + 1) V z3_1 ((addI (sqI A) (sqI B)).1)) w2.heap.size w3.heap.size W ∧ Kp (fun V => QK (((k) + (k) + 1) + ((k) + (k) + 1) + 1) V z3_2 ((addI (sqI A) (sqI B)).2)) w2.heap.size w3.heap.size W) ⟨by ((repeat first|with_reducible assumption|((with_reducible apply Blk.farAt);focus omega)|with_reducible apply Blk.setb|((with_reducible apply Blk.newAt);focus (simp;done))|with_reducible apply Blk.alloc|with_reducible apply Blk.drew);all_goals (show @Eq (Array Value) _ _;rfl)), by go_grown, by (repeat (first | (with_reducible exact K3_1.out) | ((with_reducible refine Kp.setc ?_ ?_); (focus omega)) | (with_reducible refine Kp.alloc ?_) | (with_reducible refine Kp.drew ?_))), by (repeat (first | (with_reducible exact K3_2.out) | ((with_reducible refine Kp.setc ?_ ?_); (focus omega)) | (with_reducible refine Kp.alloc ?_) | (with_reducible refine Kp.drew ?_)))⟩ ?_
 rintro wF ⟨hF, hwF, L0, L1⟩
 have e0 := hF.cell 0
 have e1 := hF.cell 1
 have e2 := hF.cell 2
 have e3 := hF.cell 3
 have e4 := hF.cell 4
 have e5 := hF.cell 5
 refine bodyPost_ret (v := .agg #[.bool z3_1.neg, .slice z3_1.a z3_1.n z3_1.c, .slice z3_1.b z3_1.m z3_1.d, .bool z3_2.neg, .slice z3_2.a z3_2.n z3_2.c, .slice z3_2.b z3_2.m z3_2.d]) (by simp [results, Tryz.results76, go_sem, e0, e1, e2, e3, e4, e5]) rfl ?_
 exact ⟨z3_1, z3_2, rfl, Kp.made ((L0.imp fun _ h => QK.more h (by omega)).fin (show w.heap.size ≤ _ from Nat.le_trans hw0.size n2)), Kp.made ((L1.imp fun _ h => QK.more h (by omega)).fin (show w.heap.size ≤ _ from Nat.le_trans hw0.size n2)), hwF⟩
set_option maxRecDepth 100000 in
set_option maxHeartbeats 4000000 in
theorem normR_q (x1 x2 x3 x4 : QA) (A B : Iq) (k : Nat) (w : World) (H1 : QK k w x1 A.1) (H2 : QK k w x2 A.2) (H3 : QK k w x3 B.1) (H4 : QK k w x4 B.2) (hk : k ≤ 2000) :
  Calls Tryz.prog 88 #[.agg #[.bool x1.neg, .slice x1.a x1.n x1.c, .slice x1.b x1.m x1.d, .bool x2.neg, .slice x2.a x2.n x2.c, .slice x2.b x2.m x2.d, .bool x3.neg, .slice x3.a x3.n x3.c, .slice x3.b x3.m x3.d, .bool x4.neg, .slice x4.a x4.n x4.c, .slice x4.b x4.m x4.d]] w (RetI2 (((k) + (k) + 1) + ((k) + (k) + 1) + 1) ((normI A B).1) ((normI A B).2) w) := by
 have R1 := Lib.hid (fun W (hW : Below w.heap.size w W) => H1.ext (Ext.below hW))
 have R2 := Lib.hid (fun W (hW : Below w.heap.size w W) => H2.ext (Ext.below hW))
 have R3 := Lib.hid (fun W (hW : Below w.heap.size w W) => H3.ext (Ext.below hW))
 have R4 := Lib.hid (fun W (hW : Below w.heap.size w W) => H4.ext (Ext.below hW))
 clear H1 H2 H3 H4
 go_enter Tryz.func88, Tryz.ntmps88
 go_wp2
 refine world_gen (fun W => Blk W w.heap.size 75 #[.bool x1.neg, .slice x1.a x1.n x1.c, .slice x1.b x1.m x1.d, .bool x2.neg, .slice x2.a x2.n x2.c, .slice x2.b x2.m x2.d, .bool x3.neg, .slice x3.a x3.n x3.c, .slice x3.b x3.m x3.d, .bool x4.neg, .slice x4.a x4.n x4.c, .slice x4.b x4.m x4.d] ∧ Blk W (w.heap.size + 1) 73 #[.bool false, .slice none 0 0, .slice none 0 0, .bool false, .slice none 0 0, .slice none 0 0] ∧ Below w.heap.size w W ∧ w.heap.size < w.heap.size + 1 ∧ w.heap.size + 1 < W.heap.size) ⟨by ((repeat first|with_reducible assumption|((with_reducible apply Blk.farAt);focus omega)|with_reducible apply Blk.setb|((with_reducible apply Blk.newAt);focus (simp;done))|with_reducible apply Blk.alloc|with_reducible apply Blk.drew);all_goals (show @Eq (Array Value) _ _;rfl)), by ((repeat first|with_reducible assumption|((with_reducible apply Blk.farAt);focus omega)|with_reducible apply Blk.setb|((with_reducible apply Blk.newAt);focus (simp;done))|with_reducible apply Blk.alloc|with_reducible apply Blk.drew);all_goals (show @Eq (Array Value) _ _;rfl)), by go_grown, by omega, by simp⟩ ?_
 rintro w0 ⟨h0, h1, hw0, hg, hgw⟩
 revert h0 h1 hg hgw
 generalize w.heap.size + 1 = g1
 intro h0 h1 hg hgw
 have k0_0 := held (h0.cell 0)
 have k0_1 := held (h0.cell 1)
 have k0_2 := held (h0.cell 2)
 have k0_3 := held (h0.cell 3)
 have k0_4 := held (h0.cell 4)
 have k0_5 := held (h0.cell 5)
 have k0_6 := held (h0.cell 6)
 have k0_7 := held (h0.cell 7)
 have k0_8 := held (h0.cell 8)
 have k0_9 := held (h0.cell 9)
 have k0_10 := held (h0.cell 10)
 have k0_11 := held (h0.cell 11)
 have s0 : Below w0.heap.size w0 w0.drew := (Below.refl _ _).drew
 have n0 : w0.heap.size ≤ w0.drew.heap.size := Nat.le_refl _
 refine wp_region_mix (S := Below w0.heap.size w0) [(0, .q), (1, .q), (3, .q), (4, .q), (2, .l), (5, .t), (6, .t), (7, .t)] (by kernel_rfl) (by kernel_rfl) (by kernel_rfl) (fun d _ _ _ _ h => by cases d <;> exact h) (s0) ?_
 iterate 4 (refine wpMix_q rfl rfl (fun K hK => ?_); apply Exists.intro; refine ⟨fun w' hw' => ?_, ?_⟩; (focus (go_simp; try rfl)); go_simp; refine hK _ _ ?_; clear hK K)
 refine wpMix_l rfl rfl (fun K hK => ?_)
 go_simp
 refine (isqR_i x1 x2 A (k) _ (R1.out _ (below_then hw0 s0)) (R2.out _ (below_then hw0 s0)) (by omega)).mono ?_
 rintro r w1 ⟨z1_1, z1_2, rfl, J1_1, J1_2, hb1⟩
 dsimp only
 refine hK.out _ _ (below_then s0 hb1) (fun _ => ?_)
 clear hK K
 have s1 := below_then s0 hb1
 have n1 := s1.size
 have K1_1 := Lib.hid J1_1
 have K1_2 := Lib.hid J1_2
 clear J1_1 J1_2
 refine wpMix_t rfl rfl (fun K hK => ?_)
 go_simp
 refine (isqR_i x3 x4 B (k) _ (R3.out _ (below_then hw0 s1)) (R4.out _ (below_then hw0 s1)) (by omega)).mono ?_
 rintro r w2 ⟨z2_1, z2_2, rfl, J2_1, J2_2, hb2⟩
 dsimp only
 refine hK.out _ _ ?_
 clear hK K
 have s2 := below_then s1 hb2
 have n2 := s2.size
 have K2_1 := Lib.hid J2_1
 have K2_2 := Lib.hid J2_2
 clear J2_1 J2_2
 refine wpMix_t rfl rfl (fun K hK => ?_)
 go_simp
 refine (iaddR_i z1_1 z1_2 z2_1 z2_2 (sqI A) (sqI B) ((k) + (k) + 1) _ (K1_1.out.call hb2).now (K1_2.out.call hb2).now K2_1.out.now K2_2.out.now (by omega)).mono ?_
 rintro r w3 ⟨z3_1, z3_2, rfl, J3_1, J3_2, hb3⟩
 dsimp only
 refine hK.out _ _ ?_
 clear hK K
 have s3 := below_then s2 hb3
 have n3 := s3.size
 have K3_1 := Lib.hid J3_1
 have K3_2 := Lib.hid J3_2
 clear J3_1 J3_2
 have hz := h1.below' s3
 have hw1 := below_then hw0 s3
 clear k0_0 k0_1 k0_2 k0_3 k0_4 k0_5 k0_6 k0_7 k0_8 k0_9 k0_10 k0_11
 have y0 := hz.cell 0; have f0 := hz.frozen 0
 have y1 := hz.cell 1; have f1 := hz.frozen 1
 have y2 := hz.cell 2; have f2 := hz.frozen 2
 have y3 := hz.cell 3; have f3 := hz.frozen 3
 have y4 := hz.cell 4; have f4 := hz.frozen 4
 have y5 := hz.cell 5; have f5 := hz.frozen 5
 refine wpMix_t rfl rfl (fun K hK => ?_)
 go_simp
 refine hK.out _ _ ?_
 clear hK K
 refine wpMix_nil ?_
 go_wp2
 refine world_gen (fun W => Blk W g1 73 #[.bool z3_1.neg, .slice z3_1.a z3_1.n z3_1.c, .slice z3_1.b z3_1.m z3_1.d, .bool z3_2.neg, .slice z3_2.a z3_2.n z3_2.c, .slice z3_2.b z3_2.m z3_2.d] ∧ Below w.heap.size w W ∧ Kp (fun V => QK (((k) + (k) + 1) + ((k) + (k) + 1) + 1) V z3_1 ((addI (sqI A) (sqI B)).1)) w2.heap.size w3.heap.size W ∧ Kp (fun V => QK (((k) + (k) + 1) + ((k) + (k) + 1) + 1) V z3_2 ((addI (sqI A) (sqI B)).2)) w2.heap.size w3.heap.size W) ⟨by ((repeat first|with_reducible assumption|((with_reducible apply Blk.farAt);focus omega)|with_reducible apply Blk.setb|((with_reducible apply Blk.newAt);focus (simp;done))|with_reducible apply Blk.alloc|with_reducible apply Blk.drew);all_goals (show @Eq (Array Value) _ _;rfl)), by go_grown, by (repeat (first | (with_reducible exact K3_1.out) | ((with_reducible refine Kp.setc ?_ ?_); (focus omega)) | (with_reducible refine Kp.alloc ?_) | (with_reducible refine Kp.drew ?_))), by (repeat (first | (with_reducible exact K3_2.out) | ((with_reducible refine Kp.setc ?_ ?_); (focus omega)) | (with_reducible refine Kp.alloc ?_) | (with_reducible refine Kp.drew ?_)))⟩ ?_
 rintro wF ⟨hF, hwF, L0, L1⟩
 have e0 := hF.cell 0
 have e1 := hF.cell 1
 have e2 := hF.cell 2
 have e3 := hF.cell 3
 have e4 := hF.cell 4
 have e5 := hF.cell 5
 refine bodyPost_ret (v := .agg #[.bool z3_1.neg, .slice z3_1.a z3_1.n z3_1.c, .slice z3_1.b z3_1.m z3_1.d, .bool z3_2.neg, .slice z3_2.a z3_2.n z3_2.c, .slice z3_2.b z3_2.m z3_2.d]) (by simp [results, Tryz.results88, go_sem, e0, e1, e2, e3, e4, e5]) rfl ?_
 exact ⟨z3_1, z3_2, rfl, Kp.made ((L0.imp fun _ h => QK.more h (by omega)).fin (show w.heap.size ≤ _ from Nat.le_trans hw0.size n2)), Kp.made ((L1.imp fun _ h => QK.more h (by omega)).fin (show w.heap.size ≤ _ from Nat.le_trans hw0.size n2)), hwF⟩
end Go.Proofs.YtaihkpjbnkgmlaaGreat

/- A range over a string beside other blocks. No function of the program in sight. -/
namespace Go.Proofs.YtaihkpjbnkgmlaaGreat
open Go.RowKit
/-- block g is an iterator over s that stands at pos -/
def Itr (w : World) (g : Nat) (s : ByteArray) (pos : Nat) : Prop := w.heap[g]? = some (.stringIter s pos)
def setItr (w : World) (g : Nat) (s : ByteArray) (pos : Nat) : World := { w with heap := w.heap.setIfInBounds g (.stringIter s pos) }
theorem run_next_at {P : Program} (w : World) (g : Nat) (s : ByteArray) (pos : Nat) (ty : TypeId) (hi : Itr w g s pos) (h : pos < s.size) (ha : (s[pos]'h).toNat < 128) :
  (Instr.next (.pointer (some ⟨g, 0, none⟩)) true ty).run P w = .ok (.tuple #[.bool true, .int .i64 pos, .int .i32 (s[pos]'h).toNat]) (setItr w g s (pos + 1)) := by
 unfold Itr at hi
 simp only [Instr.next, getObj, setObj, Sem.run_bind, Sem.run, hi, Result.andThen, h, if_true, decode_ascii s pos h ha]
 simp [goInt, setItr]
theorem run_next_stop {P : Program} (w : World) (g : Nat) (s : ByteArray) (pos : Nat) (ty : TypeId) (hi : Itr w g s pos) (h : ¬ pos < s.size) :
  (Instr.next (.pointer (some ⟨g, 0, none⟩)) true ty).run P w = .ok (.tuple #[.bool false]) w := by
 unfold Itr at hi
 simp [Instr.next, getObj, Sem.run, hi, h]
theorem Itr.lt {w : World} {g : Nat} {s : ByteArray} {pos : Nat} (h : Itr w g s pos) : g < w.heap.size := (Array.getElem?_eq_some_iff.1 h).1
theorem Itr.set {w : World} {g : Nat} {s : ByteArray} {pos : Nat} (h : Itr w g s pos) (pos' : Nat) : Itr (setItr w g s pos') g s pos' := by
 unfold Itr setItr
 simp [h.lt]
theorem setItr_size (w : World) (g : Nat) (s : ByteArray) (pos : Nat) : (setItr w g s pos).heap.size = w.heap.size := by simp [setItr]
theorem setItr_far (w : World) (g : Nat) (s : ByteArray) (pos : Nat) (k : Nat) (hk : k ≠ g) : (setItr w g s pos).heap[k]? = w.heap[k]? := by
 simp [setItr, Ne.symm hk]
theorem below_setItr {B : Nat} {a w : World} (h : Below B a w) {g : Nat} (hg : B ≤ g) (s : ByteArray) (pos : Nat) : Below B a (setItr w g s pos) :=
 h.trans ⟨rfl, rfl, rfl, by rw [setItr_size]; exact Nat.le_refl _, fun k hk => setItr_far _ _ _ _ _ (by omega)⟩
end Go.Proofs.YtaihkpjbnkgmlaaGreat

/- What a name is. No function of the program in sight. -/
namespace Go.Proofs.YtaihkpjbnkgmlaaGreat
open Go.RowKit

def letB (c : Int) : Bool := decide (65 ≤ c ∧ c ≤ 90 ∨ 97 ≤ c ∧ c ≤ 122)
def digB (c : Int) : Bool := decide (48 ≤ c ∧ c ≤ 57)
/-- the keywords: angle, apex, bisector, center, circle, circum, collinear, common, concyclic, congruent, cross, cut, divide, foot, line, meet, midpoint, mirror, on, other, parallel, perpendicular, points, prove, ratio, reflect, same, shift, turn -/
def keywords : List ByteArray := [⟨#[97, 110, 103, 108, 101]⟩,
 ⟨#[97, 112, 101, 120]⟩,
 ⟨#[98, 105, 115, 101, 99, 116, 111, 114]⟩,
 ⟨#[99, 101, 110, 116, 101, 114]⟩,
 ⟨#[99, 105, 114, 99, 108, 101]⟩,
 ⟨#[99, 105, 114, 99, 117, 109]⟩,
 ⟨#[99, 111, 108, 108, 105, 110, 101, 97, 114]⟩,
 ⟨#[99, 111, 109, 109, 111, 110]⟩,
 ⟨#[99, 111, 110, 99, 121, 99, 108, 105, 99]⟩,
 ⟨#[99, 111, 110, 103, 114, 117, 101, 110, 116]⟩,
 ⟨#[99, 114, 111, 115, 115]⟩,
 ⟨#[99, 117, 116]⟩,
 ⟨#[100, 105, 118, 105, 100, 101]⟩,
 ⟨#[102, 111, 111, 116]⟩,
 ⟨#[108, 105, 110, 101]⟩,
 ⟨#[109, 101, 101, 116]⟩,
 ⟨#[109, 105, 100, 112, 111, 105, 110, 116]⟩,
 ⟨#[109, 105, 114, 114, 111, 114]⟩,
 ⟨#[111, 110]⟩,
 ⟨#[111, 116, 104, 101, 114]⟩,
 ⟨#[112, 97, 114, 97, 108, 108, 101, 108]⟩,
 ⟨#[112, 101, 114, 112, 101, 110, 100, 105, 99, 117, 108, 97, 114]⟩,
 ⟨#[112, 111, 105, 110, 116, 115]⟩,
 ⟨#[112, 114, 111, 118, 101]⟩,
 ⟨#[114, 97, 116, 105, 111]⟩,
 ⟨#[114, 101, 102, 108, 101, 99, 116]⟩,
 ⟨#[115, 97, 109, 101]⟩,
 ⟨#[115, 104, 105, 102, 116]⟩,
 ⟨#[116, 117, 114, 110]⟩]
def wordB (c : UInt8) : Bool := letB c.toNat || digB c.toNat
/-- does a string begin with a letter? -/
def headB (s : ByteArray) : Bool := match s.data.toList with
 | [] => false
 | c :: _ => letB c.toNat
def keyB (s : ByteArray) : Bool := keywords.any fun k => decide (s = k)
def isNameB (s : ByteArray) : Bool := decide (s.size ≤ 20) && headB s && s.data.toList.all wordB && !keyB s

theorem keywords_len : keywords.length = 29 := rfl
theorem headB_cons {s : ByteArray} (h : 0 < s.size) : headB s = letB ((s[0]'h).toNat : Nat) := by
 unfold headB
 have h' : 0 < s.data.toList.length := by simpa using h
 have e : s.data.toList = s.data.toList[0] :: s.data.toList.drop 1 := by
  have := List.drop_eq_getElem_cons (l := s.data.toList) (i := 0) h'
  simpa using this
 rw [e]
 rfl
theorem size_zero {s : ByteArray} : s.size = 0 ↔ s = ⟨#[]⟩ := by
 constructor
 ·
  intro h
  cases s with
  | mk d => congr 1; exact Array.eq_empty_of_size_eq_zero h
 · intro h; subst h; rfl
theorem get_list {s : ByteArray} {k : Nat} (h : k < s.size) : s.data.toList[k]? = some (s[k]'h) := by simp [h]; rfl
theorem isNameB_empty : isNameB ⟨#[]⟩ = false := by decide

/-- one more rune of a string that is ranged over, whatever it is -/
theorem run_next_any {P : Program} (w : World) (g : Nat) (s : ByteArray) (pos : Nat) (hi : Itr w g s pos) (h : pos < s.size) :
  ∃ (r : Int) (n : Nat), (∀ ty : TypeId, (Instr.next (.pointer (some ⟨g, 0, none⟩)) true ty).run P w = .ok (.tuple #[.bool true, .int .i64 pos, .int .i32 r]) (setItr w g s (pos + n))) ∧ ((s[pos]'h).toNat < 128 → n = 1) := by
 by_cases ha : (s[pos]'h).toNat < 128
 · exact ⟨_, 1, fun ty => run_next_at w g s pos ty hi h ha, fun _ => rfl⟩
 ·
  unfold Itr at hi
  refine ⟨((Utf8.decode s pos).1 : Nat), (Utf8.decode s pos).2, fun ty => ?_, fun h => absurd h ha⟩
  simp only [Instr.next, getObj, setObj, Sem.run_bind, Sem.run, hi, Result.andThen, h, if_true]
  simp [goInt, setItr]
end Go.Proofs.YtaihkpjbnkgmlaaGreat

/- Figures: steps and facts as they lie in memory, and which are right. No walk. -/
namespace Go.Proofs.YtaihkpjbnkgmlaaGreat
open Go.RowKit

/-- is a number the zero value? -/
def Rt.none (r : Rt) : Bool := !r.neg && decide (r.num.length = 0) && decide (r.den.length = 0)
def arity14 (k : Int) : Int := if k = 1 ∨ k = 5 then 3 else if k = 2 ∨ k = 3 ∨ k = 4 ∨ k = 6 ∨ k = 9 then 4 else if k = 7 then 8 else if k = 8 then 2 else 0
def arity20 (k : Int) : Int := if k = 1 then 0 else if k = 2 ∨ k = 5 ∨ k = 6 ∨ k = 14 then 2 else if k = 3 ∨ k = 4 ∨ k = 7 ∨ k = 8 ∨ k = 10 ∨ k = 11 then 3 else if k = 9 ∨ k = 12 ∨ k = 13 then 4 else -1
/-- is an argument no number below n? -/
def badArg (n a : Int) : Bool := decide (a < 0 ∨ n ≤ a)
def errFct (f : Fct) (n : Int) : Int :=
 if arity14 f.kind = 0 then 8
 else if (f.args.length : Int) ≠ arity14 f.kind then 1
 else if f.args.any (badArg n) = true then 2
 else if f.kind = 9 ∧ f.ratio.right = false then 1
 else if f.kind ≠ 9 ∧ f.ratio.none = false then 1
 else 0
def errStep (l : List Step) (s : Step) (i : Nat) : Int :=
 if arity20 s.kind < 0 then 8
 else if (s.args.length : Int) ≠ arity20 s.kind then 1
 else if s.args.any (badArg i) = true then 2
 else if s.kind = 2 ∧ s.ratio.right = false then 1
 else if s.kind ≠ 2 ∧ s.ratio.none = false then 1
 else if s.point = ⟨#[]⟩ then 0
 else if isNameB s.point = false then 6
 else if (l.take i).any (fun t => decide (t.point = s.point)) = true then 7
 else 0
/-- the first error of steps from the one with the number i on -/
def errSteps (l : List Step) : List Step → Nat → Int
 | [], _ => 0
 | s :: r, i => if errStep l s i ≠ 0 then errStep l s i else errSteps l r (i + 1)
def errGoals (n : Int) : List Fct → Int
 | [] => 0
 | f :: r => if errFct f n ≠ 0 then errFct f n else errGoals n r
def Fig.err (f : Fig) : Int := if 40 < f.steps.length ∨ 8 < f.goals.length then 4 else if errSteps f.steps f.steps 0 ≠ 0 then errSteps f.steps f.steps 0 else errGoals f.steps.length f.goals

end Go.Proofs.YtaihkpjbnkgmlaaGreat

/- The values of a fact in boxes, plain; boxes as handles; the two functions that diagram.values makes for itself. -/
namespace Go.Proofs.YtaihkpjbnkgmlaaGreat
open Go.RowKit

/-- a box as two intervals -/
def bq (x : Bx) : Iq × Iq := ((x.a.q, x.b.q), (x.c.q, x.d.q))
def vecB (p q : Iq × Iq) : Iq × Iq := vecI p.1 p.2 q.1 q.2
/-- both ends of an interval -/
def ends (x : Iq) : List Rat := [x.1, x.2]
/-- the values of a fact of a kind whose points lie in the boxes P 0, P 1 ..: both ends of each -/
def valsI (kind : Int) (P : Nat → Iq × Iq) (r : Rat) : List Rat :=
 let V := fun i k => vecB (P i) (P k)
 if kind = 1 then ends (crossI (V 0 1).1 (V 0 1).2 (V 0 2).1 (V 0 2).2)
 else if kind = 2 then ends (crossI (V 0 1).1 (V 0 1).2 (V 2 3).1 (V 2 3).2)
 else if kind = 3 then ends (dotI (V 0 1).1 (V 0 1).2 (V 2 3).1 (V 2 3).2)
 else if kind = 4 then ends (subI (normI (V 0 1).1 (V 0 1).2) (normI (V 2 3).1 (V 2 3).2))
 else if kind = 5 then ends (twiceI (P 0).1 (P 1).1 (P 2).1) ++ ends (twiceI (P 0).2 (P 1).2 (P 2).2)
 else if kind = 6 then ends (angleI (V 1 0).1 (V 1 0).2 (V 1 2).1 (V 1 2).2 (V 3 0).1 (V 3 0).2 (V 3 2).1 (V 3 2).2)
 else if kind = 7 then ends (angleI (V 0 1).1 (V 0 1).2 (V 2 3).1 (V 2 3).2 (V 4 5).1 (V 4 5).2 (V 6 7).1 (V 6 7).2)
 else if kind = 8 then ends (subI (P 0).1 (P 1).1) ++ ends (subI (P 0).2 (P 1).2)
 else ends (subI (normI (V 0 1).1 (V 0 1).2) (mulI (r, r) (normI (V 2 3).1 (V 2 3).2)))
/-- how many values -/
def valsN (kind : Int) : Nat := if kind = 5 ∨ kind = 8 then 2 else 1
/-- what a call gives that makes a row of intervals, by both ends -/
def RetVs (n : Nat) (qs : List Rat) (w : World) (e : Ending) (w' : World) : Prop := ∃ (xs : List QA) (g cp : Nat), e = .returned (.slice (some ⟨g, 0, none⟩) n cp) ∧ RowQ w' g xs ∧ AllQ 1000 w' xs qs ∧ Below w.heap.size w w'
theorem RowQ.m2 {w : World} {g : Nat} {t : TypeId} {x1 x2 : QA} (h : Blk w g t #[.bool x1.neg, .slice x1.a x1.n x1.c, .slice x1.b x1.m x1.d, .bool x2.neg, .slice x2.a x2.n x2.c, .slice x2.b x2.m x2.d]) : RowQ w g [x1, x2] := fun i q hq => by
 match i, hq with
 | 0, hq => cases hq; exact ⟨h.cell 0, h.cell 1, h.cell 2⟩
 | 1, hq => cases hq; exact ⟨h.cell 3, h.cell 4, h.cell 5⟩
theorem RowQ.m4 {w : World} {g : Nat} {t : TypeId} {x1 x2 x3 x4 : QA} (h : Blk w g t #[.bool x1.neg, .slice x1.a x1.n x1.c, .slice x1.b x1.m x1.d, .bool x2.neg, .slice x2.a x2.n x2.c, .slice x2.b x2.m x2.d, .bool x3.neg, .slice x3.a x3.n x3.c, .slice x3.b x3.m x3.d, .bool x4.neg, .slice x4.a x4.n x4.c, .slice x4.b x4.m x4.d]) : RowQ w g [x1, x2, x3, x4] := fun i q hq => by
 match i, hq with
 | 0, hq => cases hq; exact ⟨h.cell 0, h.cell 1, h.cell 2⟩
 | 1, hq => cases hq; exact ⟨h.cell 3, h.cell 4, h.cell 5⟩
 | 2, hq => cases hq; exact ⟨h.cell 6, h.cell 7, h.cell 8⟩
 | 3, hq => cases hq; exact ⟨h.cell 9, h.cell 10, h.cell 11⟩
theorem AllQ.m2 {k : Nat} {w : World} {x1 x2 : QA} {q1 q2 : Rat} (h1 : QK k w x1 q1) (h2 : QK k w x2 q2) : AllQ k w [x1, x2] [q1, q2] := ⟨rfl, fun i x q hx hq => by
 match i, hx, hq with
 | 0, hx, hq => cases hx; cases hq; exact h1
 | 1, hx, hq => cases hx; cases hq; exact h2⟩
theorem AllQ.m4 {k : Nat} {w : World} {x1 x2 x3 x4 : QA} {q1 q2 q3 q4 : Rat} (h1 : QK k w x1 q1) (h2 : QK k w x2 q2) (h3 : QK k w x3 q3) (h4 : QK k w x4 q4) : AllQ k w [x1, x2, x3, x4] [q1, q2, q3, q4] := ⟨rfl, fun i x q hx hq => by
 match i, hx, hq with
 | 0, hx, hq => cases hx; cases hq; exact h1
 | 1, hx, hq => cases hx; cases hq; exact h2
 | 2, hx, hq => cases hx; cases hq; exact h3
 | 3, hx, hq => cases hx; cases hq; exact h4⟩
/-- the handles of a box -/
structure B4 where
 x1 : QA
 x2 : QA
 x3 : QA
 x4 : QA
def B4.cs (b : B4) : List Value := [.bool b.x1.neg, .slice b.x1.a b.x1.n b.x1.c, .slice b.x1.b b.x1.m b.x1.d, .bool b.x2.neg, .slice b.x2.a b.x2.n b.x2.c, .slice b.x2.b b.x2.m b.x2.d, .bool b.x3.neg, .slice b.x3.a b.x3.n b.x3.c, .slice b.x3.b b.x3.m b.x3.d, .bool b.x4.neg, .slice b.x4.a b.x4.n b.x4.c, .slice b.x4.b b.x4.m b.x4.d]
theorem B4.cs_len (b : B4) : b.cs.length = 12 := rfl
theorem B4.cs_one (b : B4) : ∀ u ∈ b.cs, u.oneCell' = true := by simp [B4.cs, Value.oneCell']
def B4R (w : World) (b : B4) (p : Iq × Iq) : Prop := QK 2 w b.x1 p.1.1 ∧ QK 2 w b.x2 p.1.2 ∧ QK 2 w b.x3 p.2.1 ∧ QK 2 w b.x4 p.2.2
theorem B4R.ext {w w' : World} {b : B4} {p : Iq × Iq} (h : B4R w b p) (e : Ext w w') : B4R w' b p := ⟨h.1.ext e, h.2.1.ext e, h.2.2.1.ext e, h.2.2.2.ext e⟩
theorem boxes_at {w : World} {a : Option Addr} {c : Nat} {l : List Bx} (h : BoxesR w a c l) {j : Nat} {x : Bx} (hx : l[j]? = some x) (hs : x.short = true) :
  ∃ (g o : Nat) (b : B4), a = some ⟨g, o, none⟩ ∧ (∀ i u, b.cs[i]? = some u → w.cell? ⟨g, o + j * 12 + i, none⟩ = some u) ∧ B4R w b (bq x) := by
 obtain ⟨g, o, ha, z1, z2, z3, z4, c1, c2, c3, c4, r1, r2, r3, r4⟩ := h.2.2 j x hx
 unfold Bx.short at hs
 simp only [Bool.and_eq_true] at hs
 obtain ⟨⟨⟨s1, s2⟩, s3⟩, s4⟩ := hs
 refine ⟨g, o, ⟨z1, z2, z3, z4⟩, ha, fun i u hu => ?_, r1.sk s1, r2.sk s2, r3.sk s3, r4.sk s4⟩
 have hi : i < 12 := lt_of_get hu
 match i, hi, hu with
 | 0, _, hu => cases hu; exact c1.1
 | 1, _, hu => cases hu; exact c1.2.1
 | 2, _, hu => cases hu; exact c1.2.2
 | 3, _, hu => cases hu; exact c2.1
 | 4, _, hu => cases hu; exact c2.2.1
 | 5, _, hu => cases hu; exact c2.2.2
 | 6, _, hu => cases hu; exact c3.1
 | 7, _, hu => cases hu; exact c3.2.1
 | 8, _, hu => cases hu; exact c3.2.2
 | 9, _, hu => cases hu; exact c4.1
 | 10, _, hu => cases hu; exact c4.2.1
 | 11, _, hu => cases hu; exact c4.2.2
/-- a box that came in is handed back -/
def RetB (p : Iq × Iq) (w : World) (e : Ending) (w' : World) : Prop := ∃ x1 x2 x3 x4 : QA, e = .returned (.agg #[.bool x1.neg, .slice x1.a x1.n x1.c, .slice x1.b x1.m x1.d, .bool x2.neg, .slice x2.a x2.n x2.c, .slice x2.b x2.m x2.d, .bool x3.neg, .slice x3.a x3.n x3.c, .slice x3.b x3.m x3.d, .bool x4.neg, .slice x4.a x4.n x4.c, .slice x4.b x4.m x4.d]) ∧ Kp (fun V => QK 2 V x1 p.1.1) 0 w'.heap.size w' ∧ Kp (fun V => QK 2 V x2 p.1.2) 0 w'.heap.size w' ∧ Kp (fun V => QK 2 V x3 p.2.1) 0 w'.heap.size w' ∧ Kp (fun V => QK 2 V x4 p.2.2) 0 w'.heap.size w' ∧ Below w.heap.size w w'
/-- what the functions of values see: the boxes' slice, the fact, the first of the functions -/
def VCtx (w : World) (gl gf ga : Nat) (a aa : Option Addr) (c ac : Nat) (l : List Bx) (args : List Int) : Prop :=
 w.cell? ⟨gl, 0, none⟩ = some (.slice a l.length c) ∧ w.cell? ⟨gf, 1, none⟩ = some (.slice aa args.length ac) ∧ w.cell? ⟨ga, 0, none⟩ = some (.func (Fn.func 70) #[] #[.pointer (some ⟨gl, 0, none⟩), .pointer (some ⟨gf, 0, none⟩)]) ∧ BoxesR w a c l ∧ IntsR w aa ac args
theorem VCtx.ext {w w' : World} {gl gf ga : Nat} {a aa : Option Addr} {c ac : Nat} {l : List Bx} {args : List Int} (h : VCtx w gl gf ga a aa c ac l args) (e : Ext w w') : VCtx w' gl gf ga a aa c ac l args :=
 ⟨e _ _ h.1, e _ _ h.2.1, e _ _ h.2.2.1, h.2.2.2.1.ext e, h.2.2.2.2.ext e⟩
set_option maxRecDepth 100000 in
set_option maxHeartbeats 2000000 in
theorem at_q (gl gf ga : Nat) (a aa : Option Addr) (c ac : Nat) (l : List Bx) (args : List Int) (i j : Nat) (x : Bx) (w : World) (h : VCtx w gl gf ga a aa c ac l args) (hi : args[i]? = some (j : Int)) (hj : l[j]? = some x) (hs : x.short = true) :
  Calls Tryz.prog 70 #[.int .i64 i, .pointer (some ⟨gl, 0, none⟩), .pointer (some ⟨gf, 0, none⟩)] w (RetB (bq x) w) := by
 obtain ⟨h1, h2, h3, h4, h5⟩ := h
 have hjl : j < l.length := lt_of_get hj
 have hil : i < args.length := lt_of_get hi
 have hl1 := h4.len
 have hl2 := h5.len
 obtain ⟨g, o, b, rfl, hc, hB⟩ := boxes_at h4 hj hs
 obtain ⟨g2, o2, rfl, hcx⟩ := h5.2.2 i _ hi
 have u0 : w.cell? ⟨g2, o2 + i, none⟩ = some (.int .i64 j) := by simpa [IntE] using hcx.1
 have HB := Lib.hid hB
 obtain ⟨x1, x2, x3, x4⟩ := b
 have d0 := held (show w.cell? ⟨g, o + j * 12, none⟩ = some _ from hc 0 _ rfl)
 have d1 := held (hc 1 _ rfl); have d2 := held (hc 2 _ rfl); have d3 := held (hc 3 _ rfl); have d4 := held (hc 4 _ rfl); have d5 := held (hc 5 _ rfl)
 have d6 := held (hc 6 _ rfl); have d7 := held (hc 7 _ rfl); have d8 := held (hc 8 _ rfl); have d9 := held (hc 9 _ rfl); have d10 := held (hc 10 _ rfl); have d11 := held (hc 11 _ rfl)
 replace h1 := held h1; replace h2 := held h2; replace u0 := held u0
 clear h3 h4 h5 hi hj hs hc hB hcx
 go_enter Tryz.func70, Tryz.ntmps70
 go_wp2
 refine world_gen (fun W => Blk W w.heap.size 75 #[.bool false, .slice none 0 0, .slice none 0 0, .bool false, .slice none 0 0, .slice none 0 0, .bool false, .slice none 0 0, .slice none 0 0, .bool false, .slice none 0 0, .slice none 0 0] ∧ Below w.heap.size w W) ⟨by ((repeat first|with_reducible assumption|((with_reducible apply Blk.farAt);focus omega)|with_reducible apply Blk.setb|((with_reducible apply Blk.newAt);focus (simp;done))|with_reducible apply Blk.alloc|with_reducible apply Blk.drew);all_goals (show @Eq (Array Value) _ _;rfl)), by go_grown⟩ ?_
 rintro w0 ⟨h0, hw0⟩
 have s0 : Below w.heap.size w w0.drew := hw0.drew
 have hz := h0.drew
 obtain ⟨v0, hv0⟩ : ∃ v, w0.drew = v := ⟨_, rfl⟩
 refine wp_region_mix (S := Below w.heap.size w) [(0, .q), (1, .q), (2, .q), (3, .q), (4, .q), (5, .q), (6, .q), (7, .q), (8, .t)] (by kernel_rfl) (by kernel_rfl) (by kernel_rfl) (fun d _ _ _ _ h => by cases d <;> exact h) (s0) ?_
 rw [hv0] at s0 hz ⊢
 iterate 8 (refine wpMix_q rfl rfl (fun K hK => ?_); apply Exists.intro; refine ⟨fun w' hw' => ?_, ?_⟩; (focus (go_simp; try rfl)); go_simp; refine hK _ _ ?_; clear hK K)
 clear d0 d1 d2 d3 d4 d5 d6 d7 d8 d9 d10 d11 h1 h2 u0
 have y0 := hz.cell 0; have f0 := hz.frozen 0; have y1 := hz.cell 1; have f1 := hz.frozen 1; have y2 := hz.cell 2; have f2 := hz.frozen 2; have y3 := hz.cell 3; have f3 := hz.frozen 3
 have y4 := hz.cell 4; have f4 := hz.frozen 4; have y5 := hz.cell 5; have f5 := hz.frozen 5; have y6 := hz.cell 6; have f6 := hz.frozen 6; have y7 := hz.cell 7; have f7 := hz.frozen 7
 have y8 := hz.cell 8; have f8 := hz.frozen 8; have y9 := hz.cell 9; have f9 := hz.frozen 9; have y10 := hz.cell 10; have f10 := hz.frozen 10; have y11 := hz.cell 11; have f11 := hz.frozen 11
 refine wpMix_t rfl rfl (fun K hK => ?_)
 go_simp
 refine hK.out _ _ ?_
 clear hK K
 refine wpMix_nil ?_
 go_wp2
 refine world_gen (fun W => Blk W w.heap.size 75 #[.bool x1.neg, .slice x1.a x1.n x1.c, .slice x1.b x1.m x1.d, .bool x2.neg, .slice x2.a x2.n x2.c, .slice x2.b x2.m x2.d, .bool x3.neg, .slice x3.a x3.n x3.c, .slice x3.b x3.m x3.d, .bool x4.neg, .slice x4.a x4.n x4.c, .slice x4.b x4.m x4.d] ∧ Below w.heap.size w W) ⟨Blk.set12 hz, by go_grown⟩ ?_
 rintro wF ⟨hF, hwF⟩
 have e0 := hF.cell 0; have e1 := hF.cell 1; have e2 := hF.cell 2; have e3 := hF.cell 3; have e4 := hF.cell 4; have e5 := hF.cell 5; have e6 := hF.cell 6; have e7 := hF.cell 7; have e8 := hF.cell 8; have e9 := hF.cell 9; have e10 := hF.cell 10; have e11 := hF.cell 11
 refine bodyPost_ret (v := .agg #[.bool x1.neg, .slice x1.a x1.n x1.c, .slice x1.b x1.m x1.d, .bool x2.neg, .slice x2.a x2.n x2.c, .slice x2.b x2.m x2.d, .bool x3.neg, .slice x3.a x3.n x3.c, .slice x3.b x3.m x3.d, .bool x4.neg, .slice x4.a x4.n x4.c, .slice x4.b x4.m x4.d]) (by simp [results, Tryz.results70, go_sem, e0, e1, e2, e3, e4, e5, e6, e7, e8, e9, e10, e11]) rfl ?_
 have hE := HB.out.ext (Ext.below hwF)
 exact ⟨x1, x2, x3, x4, rfl, Kp.arg fun _ e => hE.1.ext e, Kp.arg fun _ e => hE.2.1.ext e, Kp.arg fun _ e => hE.2.2.1.ext e, Kp.arg fun _ e => hE.2.2.2.ext e, hwF⟩
set_option maxRecDepth 100000 in
set_option maxHeartbeats 2000000 in
theorem vec_q (gl gf ga : Nat) (a aa : Option Addr) (c ac : Nat) (l : List Bx) (args : List Int) (i k j m : Nat) (x y : Bx) (w : World) (h : VCtx w gl gf ga a aa c ac l args) (hi : args[i]? = some (j : Int)) (hj : l[j]? = some x) (hs : x.short = true)
  (hk : args[k]? = some (m : Int)) (hm : l[m]? = some y) (ht : y.short = true) :
  Calls Tryz.prog 71 #[.int .i64 i, .int .i64 k, .pointer (some ⟨ga, 0, none⟩)] w (RetI4 5 (vecB (bq x) (bq y)).1.1 (vecB (bq x) (bq y)).1.2 (vecB (bq x) (bq y)).2.1 (vecB (bq x) (bq y)).2.2 w) := by
 have C1 := fun W (hW : Below w.heap.size w W) => at_q gl gf ga a aa c ac l args i j x W (h.ext (Ext.below hW)) hi hj hs
 have C2 := fun W (hW : Below w.heap.size w W) => at_q gl gf ga a aa c ac l args k m y W (h.ext (Ext.below hW)) hk hm ht
 replace C1 := Lib.hid C1; replace C2 := Lib.hid C2
 have k0 := held h.2.2.1
 clear h hi hj hs hk hm ht
 go_enter Tryz.func71, Tryz.ntmps71
 go_wp2
 refine world_gen (fun W => Blk W w.heap.size 126 #[.bool false, .slice none 0 0, .slice none 0 0, .bool false, .slice none 0 0, .slice none 0 0, .bool false, .slice none 0 0, .slice none 0 0, .bool false, .slice none 0 0, .slice none 0 0] ∧ Below w.heap.size w W ∧ w.heap.size < W.heap.size) ⟨by ((repeat first|with_reducible assumption|((with_reducible apply Blk.farAt);focus omega)|with_reducible apply Blk.setb|((with_reducible apply Blk.newAt);focus (simp;done))|with_reducible apply Blk.alloc|with_reducible apply Blk.drew);all_goals (show @Eq (Array Value) _ _;rfl)), by go_grown, by simp⟩ ?_
 rintro w0 ⟨h0, hw0, hgw⟩
 have s0 : Below w.heap.size w w0.drew := hw0.drew
 have h00 := h0.drew
 refine wp_region_mix (S := Below w.heap.size w) [(0, .q), (1, .q), (3, .q), (4, .q), (2, .l), (5, .t), (6, .t), (7, .t)] (by kernel_rfl) (by kernel_rfl) (by kernel_rfl) (fun d _ _ _ _ h => by cases d <;> exact h) (s0) ?_
 iterate 4 (refine wpMix_q rfl rfl (fun K hK => ?_); apply Exists.intro; refine ⟨fun w' hw' => ?_, ?_⟩; (focus (go_simp; try rfl)); go_simp; refine hK _ _ ?_; clear hK K)
 refine wpMix_l rfl rfl (fun K hK => ?_)
 go_simp
 refine (C1.out _ s0).mono ?_
 rintro r w1 ⟨x1, x2, x3, x4, rfl, J1, J2, J3, J4, hb1⟩
 dsimp only
 refine hK.out _ _ (below_then s0 hb1) (fun _ => ?_)
 clear hK K
 have s1 := below_then s0 hb1
 replace h00 := h00.below' hb1
 replace J1 := Lib.hid J1; replace J2 := Lib.hid J2; replace J3 := Lib.hid J3; replace J4 := Lib.hid J4
 clear hb1
 refine wpMix_t rfl rfl (fun K hK => ?_)
 go_simp
 refine (C2.out _ s1).mono ?_
 rintro r w2 ⟨x5, x6, x7, x8, rfl, J5, J6, J7, J8, hb2⟩
 dsimp only
 refine hK.out _ _ ?_
 clear hK K
 have s2 := below_then s1 hb2
 replace h00 := h00.below' hb2
 replace J1 := Lib.hid (J1.out.call hb2); replace J2 := Lib.hid (J2.out.call hb2); replace J3 := Lib.hid (J3.out.call hb2); replace J4 := Lib.hid (J4.out.call hb2)
 replace J5 := Lib.hid J5; replace J6 := Lib.hid J6; replace J7 := Lib.hid J7; replace J8 := Lib.hid J8
 clear hb2
 refine wpMix_t rfl rfl (fun K hK => ?_)
 go_simp
 refine (between_q x1 x2 x3 x4 x5 x6 x7 x8 (bq x).1 (bq x).2 (bq y).1 (bq y).2 2 _ J1.out.now J2.out.now J3.out.now J4.out.now J5.out.now J6.out.now J7.out.now J8.out.now (by omega)).mono ?_
 rintro r w3 ⟨z1, z2, z3, z4, rfl, K1, K2, K3, K4, hb3⟩
 dsimp only
 refine hK.out _ _ ?_
 clear hK K
 have s3 := below_then s2 hb3
 have hz := h00.below' hb3
 have n2 := s2.size
 replace K1 := Lib.hid (show Kp (fun V => QK 5 V z1 (vecB (bq x) (bq y)).1.1) w2.heap.size w3.heap.size w3 from K1); replace K2 := Lib.hid (show Kp (fun V => QK 5 V z2 (vecB (bq x) (bq y)).1.2) w2.heap.size w3.heap.size w3 from K2); replace K3 := Lib.hid (show Kp (fun V => QK 5 V z3 (vecB (bq x) (bq y)).2.1) w2.heap.size w3.heap.size w3 from K3); replace K4 := Lib.hid (show Kp (fun V => QK 5 V z4 (vecB (bq x) (bq y)).2.2) w2.heap.size w3.heap.size w3 from K4)
 clear hb3 J1 J2 J3 J4 J5 J6 J7 J8 k0
 have y0 := hz.cell 0; have f0 := hz.frozen 0; have y1 := hz.cell 1; have f1 := hz.frozen 1; have y2 := hz.cell 2; have f2 := hz.frozen 2; have y3 := hz.cell 3; have f3 := hz.frozen 3
 have y4 := hz.cell 4; have f4 := hz.frozen 4; have y5 := hz.cell 5; have f5 := hz.frozen 5; have y6 := hz.cell 6; have f6 := hz.frozen 6; have y7 := hz.cell 7; have f7 := hz.frozen 7
 have y8 := hz.cell 8; have f8 := hz.frozen 8; have y9 := hz.cell 9; have f9 := hz.frozen 9; have y10 := hz.cell 10; have f10 := hz.frozen 10; have y11 := hz.cell 11; have f11 := hz.frozen 11
 have hlt2 : w.heap.size < w2.heap.size := h00.lt
 refine wpMix_t rfl rfl (fun K hK => ?_)
 go_simp
 refine hK.out _ _ ?_
 clear hK K
 refine wpMix_nil ?_
 go_wp2
 refine world_gen (fun W => Blk W w.heap.size 126 #[.bool z1.neg, .slice z1.a z1.n z1.c, .slice z1.b z1.m z1.d, .bool z2.neg, .slice z2.a z2.n z2.c, .slice z2.b z2.m z2.d, .bool z3.neg, .slice z3.a z3.n z3.c, .slice z3.b z3.m z3.d, .bool z4.neg, .slice z4.a z4.n z4.c, .slice z4.b z4.m z4.d] ∧ Below w.heap.size w W ∧ Kp (fun V => QK 5 V z1 (vecB (bq x) (bq y)).1.1) w2.heap.size w3.heap.size W ∧ Kp (fun V => QK 5 V z2 (vecB (bq x) (bq y)).1.2) w2.heap.size w3.heap.size W ∧ Kp (fun V => QK 5 V z3 (vecB (bq x) (bq y)).2.1) w2.heap.size w3.heap.size W ∧ Kp (fun V => QK 5 V z4 (vecB (bq x) (bq y)).2.2) w2.heap.size w3.heap.size W) ⟨Blk.set12 hz, by go_grown, by (repeat (first | (with_reducible exact K1.out) | ((with_reducible refine Kp.setc ?_ ?_); (focus omega)) | (with_reducible refine Kp.alloc ?_) | (with_reducible refine Kp.drew ?_))), by (repeat (first | (with_reducible exact K2.out) | ((with_reducible refine Kp.setc ?_ ?_); (focus omega)) | (with_reducible refine Kp.alloc ?_) | (with_reducible refine Kp.drew ?_))), by (repeat (first | (with_reducible exact K3.out) | ((with_reducible refine Kp.setc ?_ ?_); (focus omega)) | (with_reducible refine Kp.alloc ?_) | (with_reducible refine Kp.drew ?_))), by (repeat (first | (with_reducible exact K4.out) | ((with_reducible refine Kp.setc ?_ ?_); (focus omega)) | (with_reducible refine Kp.alloc ?_) | (with_reducible refine Kp.drew ?_)))⟩ ?_
 rintro wF ⟨hF, hwF, L1, L2, L3, L4⟩
 have e0 := hF.cell 0; have e1 := hF.cell 1; have e2 := hF.cell 2; have e3 := hF.cell 3; have e4 := hF.cell 4; have e5 := hF.cell 5; have e6 := hF.cell 6; have e7 := hF.cell 7; have e8 := hF.cell 8; have e9 := hF.cell 9; have e10 := hF.cell 10; have e11 := hF.cell 11
 refine bodyPost_ret (v := .agg #[.bool z1.neg, .slice z1.a z1.n z1.c, .slice z1.b z1.m z1.d, .bool z2.neg, .slice z2.a z2.n z2.c, .slice z2.b z2.m z2.d, .bool z3.neg, .slice z3.a z3.n z3.c, .slice z3.b z3.m z3.d, .bool z4.neg, .slice z4.a z4.n z4.c, .slice z4.b z4.m z4.d]) (by simp [results, Tryz.results71, go_sem, e0, e1, e2, e3, e4, e5, e6, e7, e8, e9, e10, e11]) rfl ?_
 exact ⟨z1, z2, z3, z4, rfl, Kp.made (L1.fin n2), Kp.made (L2.fin n2), Kp.made (L3.fin n2), Kp.made (L4.fin n2), hwF⟩
end Go.Proofs.YtaihkpjbnkgmlaaGreat
