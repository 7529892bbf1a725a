/- Walks: the reference's values of a fact, one theorem for each kind of facts. (Printed by val.py.) -/
import Derived.Test.YtaihkpjbnkgmlaaGreatRf35

/- Walks: the reference's values of a fact, one theorem for each kind of facts. (Printed by val.py.) -/
namespace Go.Proofs.YtaihkpjbnkgmlaaGreat
open Go.RowKit

set_option maxRecDepth 100000 in
set_option maxHeartbeats 8000000 in
theorem valuesR_k1 (a aa : Option Addr) (c ac : Nat) (l : List Bx) (args : List Int) (P : Nat → Iq × Iq) (xr : QA) (r : Rat) (w : World) (hB : BoxesR w a c l) (hI : IntsR w aa ac args) (H : VArgs l args P 3) (hn : args.length = 3) :
  Calls Tryz.prog 37 #[.agg #[.int .i64 1, .slice aa args.length ac, .bool xr.neg, .slice xr.a xr.n xr.c, .slice xr.b xr.m xr.d], .slice a l.length c] w (RetVs 1 (valsI 1 P r) w) := by
 simp only [valsI, ends, List.cons_append, List.nil_append, if_true, reduceIte, reduceCtorEq, Int.reduceEq, if_false]
 have hll := hB.len
 have hal := hI.len
 replace hB := Lib.hid hB; replace hI := Lib.hid hI; replace H := Lib.hid H; replace hn := Lib.hid hn
 have h0 := Blk.new w 81 #[.int .i64 1, .slice aa args.length ac, .bool xr.neg, .slice xr.a xr.n xr.c, .slice xr.b xr.m xr.d]
 have hw0 : Below w.heap.size w (w.alloc (.cells #[.int .i64 1, .slice aa args.length ac, .bool xr.neg, .slice xr.a xr.n xr.c, .slice xr.b xr.m xr.d] 81)) := by go_grown
 go_enter Tryz.func37, Tryz.ntmps37
 go_wp2
 revert h0 hw0
 generalize w.alloc (.cells #[.int .i64 1, .slice aa args.length ac, .bool xr.neg, .slice xr.a xr.n xr.c, .slice xr.b xr.m xr.d] 81) = w0
 intro h0 hw0
 go_loopg [5, 7, 11] args.length (fun m rr _ q wr => ∃ (k : Nat) (b : Option Addr) (d : Nat) (acc : List B4), k + m = args.length ∧ q = .int .i64 k ∧ rr = .slice b acc.length d ∧ acc.length = k ∧ OwnBx (w.heap.size + 1) wr b d acc ∧ Blk wr w.heap.size 81 #[.int .i64 1, .slice aa args.length ac, .bool xr.neg, .slice xr.a xr.n xr.c, .slice xr.b xr.m xr.d] ∧ Below w.heap.size w wr ∧ (∀ i b, acc[i]? = some b → B4R w b (P i)))
 case atStart => exact ⟨0, none, 0, [], by omega, rfl, rfl, rfl, Own.nil, h0, hw0, fun i b hb => by simp at hb⟩
 case round =>
  clear h0 hw0
  obtain ⟨k, b, d, acc, hkg, rfl, rfl, hlk, ho, h0, hw0, hA⟩ := hrel
  replace hkg := Lib.hid hkg; replace hlk := Lib.hid hlk; replace ho := Lib.hid ho; replace hA := Lib.hid hA
  by_cases hlt : k < args.length
  ·
   have hkn := hn.out
   obtain ⟨j, x, hj, hx, hs, hP⟩ := H.out k (by omega)
   obtain ⟨g, o, bb, rfl, hc, hQ⟩ := boxes_at hB.out hx hs
   obtain ⟨g2, o2, rfl, hcx⟩ := hI.out.2.2 k _ hj
   have e0 := Ext.below hw0
   have u0 : wr.cell? ⟨g2, o2 + k, none⟩ = some (.int .i64 j) := e0 _ _ (by simpa [IntE] using hcx.1)
   have hjl : j < l.length := lt_of_get hx
   obtain ⟨x1, x2, x3, x4⟩ := bb
   have d0 : wr.cell? ⟨g, o + j * 12, none⟩ = some (.bool x1.neg) := e0 _ _ (hc 0 _ rfl)
   have d1 := e0 _ _ (hc 1 _ rfl)
   have d2 := e0 _ _ (hc 2 _ rfl)
   have d3 := e0 _ _ (hc 3 _ rfl)
   have d4 := e0 _ _ (hc 4 _ rfl)
   have d5 := e0 _ _ (hc 5 _ rfl)
   have d6 := e0 _ _ (hc 6 _ rfl)
   have d7 := e0 _ _ (hc 7 _ rfl)
   have d8 := e0 _ _ (hc 8 _ rfl)
   have d9 := e0 _ _ (hc 9 _ rfl)
   have d10 := e0 _ _ (hc 10 _ rfl)
   have d11 := e0 _ _ (hc 11 _ rfl)
   have hA2 : ∀ i b, (acc ++ [⟨x1, x2, x3, x4⟩])[i]? = some b → B4R w b (P i) := fun i b hb => by
    by_cases hik : i < acc.length
    · exact hA.out i b (by rwa [List.getElem?_append_left hik] at hb)
    ·
     have hi2 : i = k := by have := lt_of_get hb; rw [List.length_append] at this; simp at this; have := hlk.out; omega
     subst hi2
     rw [List.getElem?_append_right (by have := hlk.out; omega), hlk.out] at hb
     simp at hb
     subst hb
     rw [hP]; exact hQ
   replace hA2 := Lib.hid hA2
   have hln : (acc ++ [(⟨x1, x2, x3, x4⟩ : B4)]).length ≤ 16777216 := by have := hlk.out; simp; omega
   have hb1 : w.heap.size + 1 ≤ wr.heap.size := h0.lt
   have HN := Lib.hid (⟨Blk.new wr 75 (B4.cs ⟨x1, x2, x3, x4⟩).toArray, ho.out.alloc (.cells (B4.cs ⟨x1, x2, x3, x4⟩).toArray 75)⟩ : _ ∧ _)
   have e0' := h0.cell 0
   clear hx hs hc hcx hj hQ hP hkn e0'
   go_wp2_with (at_builtin; go_must (refine append_box rfl (.tmp 15) (.tmp 20) rfl b d rfl HN.out.2 ⟨x1, x2, x3, x4⟩ wr.heap.size 1 rfl (fun i u hu => (HN.out.1.cell i).trans (by simpa using hu)) (acc ++ [⟨x1, x2, x3, x4⟩]) rfl hln (by simp; omega) ?_; intro b2 d2 w2 ho2 hg2 hx2))
   have h2 := (h0.alloc (.cells (B4.cs ⟨x1, x2, x3, x4⟩).toArray 75)).under HN.out.2 (Nat.lt_succ_self _) hg2
   have hw2 : Below w.heap.size w w2 := below_append (hw0.alloc hw0.size _) hg2 (fun g e => Nat.le_trans (Nat.le_succ _) (HN.out.2.lt e).1)
   go_roundg (gk - 1)
   case rel => exact ⟨k + 1, b2, d2, acc ++ [⟨x1, x2, x3, x4⟩], by have := hkg.out; omega, by go_num, by rw [List.length_append]; rfl, by rw [List.length_append, hlk.out]; rfl, ho2, h2, hw2, hA2.out⟩
   case measure => have := hkg.out; omega
  ·
   have hl8 : acc.length = 3 := by have := hlk.out; have := hkg.out; have := hn.out; omega
   obtain ⟨gp, rfl, hR⟩ := OwnBx.row ho.out (by omega)
   obtain ⟨⟨x0_1, x0_2, x0_3, x0_4⟩, ⟨x1_1, x1_2, x1_3, x1_4⟩, ⟨x2_1, x2_2, x2_3, x2_4⟩, rfl⟩ := len3b hl8
   dsimp only [List.length_cons, List.length_nil, Nat.reduceAdd]
   obtain ⟨q01, q02, q03, q04⟩ := hA.out 0 _ rfl
   have Xx0_1 := Lib.hid (fun W (hW : Below wr.heap.size wr W) => q01.ext (Ext.below (below_then hw0 hW)))
   have Xx0_2 := Lib.hid (fun W (hW : Below wr.heap.size wr W) => q02.ext (Ext.below (below_then hw0 hW)))
   have Xx0_3 := Lib.hid (fun W (hW : Below wr.heap.size wr W) => q03.ext (Ext.below (below_then hw0 hW)))
   have Xx0_4 := Lib.hid (fun W (hW : Below wr.heap.size wr W) => q04.ext (Ext.below (below_then hw0 hW)))
   clear q01 q02 q03 q04
   obtain ⟨q11, q12, q13, q14⟩ := hA.out 1 _ rfl
   have Xx1_1 := Lib.hid (fun W (hW : Below wr.heap.size wr W) => q11.ext (Ext.below (below_then hw0 hW)))
   have Xx1_2 := Lib.hid (fun W (hW : Below wr.heap.size wr W) => q12.ext (Ext.below (below_then hw0 hW)))
   have Xx1_3 := Lib.hid (fun W (hW : Below wr.heap.size wr W) => q13.ext (Ext.below (below_then hw0 hW)))
   have Xx1_4 := Lib.hid (fun W (hW : Below wr.heap.size wr W) => q14.ext (Ext.below (below_then hw0 hW)))
   clear q11 q12 q13 q14
   obtain ⟨q21, q22, q23, q24⟩ := hA.out 2 _ rfl
   have Xx2_1 := Lib.hid (fun W (hW : Below wr.heap.size wr W) => q21.ext (Ext.below (below_then hw0 hW)))
   have Xx2_2 := Lib.hid (fun W (hW : Below wr.heap.size wr W) => q22.ext (Ext.below (below_then hw0 hW)))
   have Xx2_3 := Lib.hid (fun W (hW : Below wr.heap.size wr W) => q23.ext (Ext.below (below_then hw0 hW)))
   have Xx2_4 := Lib.hid (fun W (hW : Below wr.heap.size wr W) => q24.ext (Ext.below (below_then hw0 hW)))
   clear q21 q22 q23 q24
   have d0_0 := held (show wr.cell? ⟨gp, 0, none⟩ = some _ from hR 0 _ rfl 0 _ rfl)
   have d0_1 := held (show wr.cell? ⟨gp, 1, none⟩ = some _ from hR 0 _ rfl 1 _ rfl)
   have d0_2 := held (show wr.cell? ⟨gp, 2, none⟩ = some _ from hR 0 _ rfl 2 _ rfl)
   have d0_3 := held (show wr.cell? ⟨gp, 3, none⟩ = some _ from hR 0 _ rfl 3 _ rfl)
   have d0_4 := held (show wr.cell? ⟨gp, 4, none⟩ = some _ from hR 0 _ rfl 4 _ rfl)
   have d0_5 := held (show wr.cell? ⟨gp, 5, none⟩ = some _ from hR 0 _ rfl 5 _ rfl)
   have d0_6 := held (show wr.cell? ⟨gp, 6, none⟩ = some _ from hR 0 _ rfl 6 _ rfl)
   have d0_7 := held (show wr.cell? ⟨gp, 7, none⟩ = some _ from hR 0 _ rfl 7 _ rfl)
   have d0_8 := held (show wr.cell? ⟨gp, 8, none⟩ = some _ from hR 0 _ rfl 8 _ rfl)
   have d0_9 := held (show wr.cell? ⟨gp, 9, none⟩ = some _ from hR 0 _ rfl 9 _ rfl)
   have d0_10 := held (show wr.cell? ⟨gp, 10, none⟩ = some _ from hR 0 _ rfl 10 _ rfl)
   have d0_11 := held (show wr.cell? ⟨gp, 11, none⟩ = some _ from hR 0 _ rfl 11 _ rfl)
   have d1_0 := held (show wr.cell? ⟨gp, 12, none⟩ = some _ from hR 1 _ rfl 0 _ rfl)
   have d1_1 := held (show wr.cell? ⟨gp, 13, none⟩ = some _ from hR 1 _ rfl 1 _ rfl)
   have d1_2 := held (show wr.cell? ⟨gp, 14, none⟩ = some _ from hR 1 _ rfl 2 _ rfl)
   have d1_3 := held (show wr.cell? ⟨gp, 15, none⟩ = some _ from hR 1 _ rfl 3 _ rfl)
   have d1_4 := held (show wr.cell? ⟨gp, 16, none⟩ = some _ from hR 1 _ rfl 4 _ rfl)
   have d1_5 := held (show wr.cell? ⟨gp, 17, none⟩ = some _ from hR 1 _ rfl 5 _ rfl)
   have d1_6 := held (show wr.cell? ⟨gp, 18, none⟩ = some _ from hR 1 _ rfl 6 _ rfl)
   have d1_7 := held (show wr.cell? ⟨gp, 19, none⟩ = some _ from hR 1 _ rfl 7 _ rfl)
   have d1_8 := held (show wr.cell? ⟨gp, 20, none⟩ = some _ from hR 1 _ rfl 8 _ rfl)
   have d1_9 := held (show wr.cell? ⟨gp, 21, none⟩ = some _ from hR 1 _ rfl 9 _ rfl)
   have d1_10 := held (show wr.cell? ⟨gp, 22, none⟩ = some _ from hR 1 _ rfl 10 _ rfl)
   have d1_11 := held (show wr.cell? ⟨gp, 23, none⟩ = some _ from hR 1 _ rfl 11 _ rfl)
   have d2_0 := held (show wr.cell? ⟨gp, 24, none⟩ = some _ from hR 2 _ rfl 0 _ rfl)
   have d2_1 := held (show wr.cell? ⟨gp, 25, none⟩ = some _ from hR 2 _ rfl 1 _ rfl)
   have d2_2 := held (show wr.cell? ⟨gp, 26, none⟩ = some _ from hR 2 _ rfl 2 _ rfl)
   have d2_3 := held (show wr.cell? ⟨gp, 27, none⟩ = some _ from hR 2 _ rfl 3 _ rfl)
   have d2_4 := held (show wr.cell? ⟨gp, 28, none⟩ = some _ from hR 2 _ rfl 4 _ rfl)
   have d2_5 := held (show wr.cell? ⟨gp, 29, none⟩ = some _ from hR 2 _ rfl 5 _ rfl)
   have d2_6 := held (show wr.cell? ⟨gp, 30, none⟩ = some _ from hR 2 _ rfl 6 _ rfl)
   have d2_7 := held (show wr.cell? ⟨gp, 31, none⟩ = some _ from hR 2 _ rfl 7 _ rfl)
   have d2_8 := held (show wr.cell? ⟨gp, 32, none⟩ = some _ from hR 2 _ rfl 8 _ rfl)
   have d2_9 := held (show wr.cell? ⟨gp, 33, none⟩ = some _ from hR 2 _ rfl 9 _ rfl)
   have d2_10 := held (show wr.cell? ⟨gp, 34, none⟩ = some _ from hR 2 _ rfl 10 _ rfl)
   have d2_11 := held (show wr.cell? ⟨gp, 35, none⟩ = some _ from hR 2 _ rfl 11 _ rfl)
   have HR := Lib.hid hR
   have e0 := h0.cell 0
   clear hkg hlk ho hA hl8 hR H hB hI
   clear hn
   go_wp2
   clear hlt hll hal
   have s0 : Below wr.heap.size wr wr.drew := (Below.refl _ _).drew
   refine wp_region_mix (S := Below wr.heap.size wr) [(0, .q), (1, .q), (2, .q), (3, .q), (4, .q), (5, .q), (7, .q), (8, .q), (9, .q), (10, .q), (11, .q), (12, .q), (6, .l), (13, .t), (14, .t), (15, .t), (16, .p)] (by kernel_rfl) (by kernel_rfl) (by kernel_rfl) (fun d _ _ _ _ h => by cases d <;> exact h) (s0) ?_
   iterate 12 (refine wpMix_q rfl rfl (fun K hK => ?_); apply Exists.intro; refine ⟨fun w' hw' => ?_, ?_⟩; (focus (go_simp; try rfl)); go_simp; refine hK _ _ ?_; clear hK K)
   refine wpMix_l rfl rfl (fun K hK => ?_)
   go_simp
   refine (vectorR_q x0_1 x0_2 x0_3 x0_4 x1_1 x1_2 x1_3 x1_4 (P 0).1 (P 0).2 (P 1).1 (P 1).2 2 _ (Xx0_1.out _ s0) (Xx0_2.out _ s0) (Xx0_3.out _ s0) (Xx0_4.out _ s0) (Xx1_1.out _ s0) (Xx1_2.out _ s0) (Xx1_3.out _ s0) (Xx1_4.out _ s0) (by omega)).mono ?_
   rintro r w1 ⟨z1_1, z1_2, z1_3, z1_4, rfl, J1_1, J1_2, J1_3, J1_4, hb1⟩
   dsimp only
   refine hK.out _ _ (below_then s0 hb1) (fun _ => ?_)
   clear hK K
   have s1 := below_then s0 hb1
   have K1_1 := Lib.hid J1_1
   have K1_2 := Lib.hid J1_2
   have K1_3 := Lib.hid J1_3
   have K1_4 := Lib.hid J1_4
   clear J1_1 J1_2 J1_3 J1_4
   refine wpMix_t rfl rfl (fun K hK => ?_)
   go_simp
   refine (vectorR_q x0_1 x0_2 x0_3 x0_4 x2_1 x2_2 x2_3 x2_4 (P 0).1 (P 0).2 (P 2).1 (P 2).2 2 _ (Xx0_1.out _ s1) (Xx0_2.out _ s1) (Xx0_3.out _ s1) (Xx0_4.out _ s1) (Xx2_1.out _ s1) (Xx2_2.out _ s1) (Xx2_3.out _ s1) (Xx2_4.out _ s1) (by omega)).mono ?_
   rintro r w2 ⟨z2_1, z2_2, z2_3, z2_4, rfl, J2_1, J2_2, J2_3, J2_4, hb2⟩
   dsimp only
   refine hK.out _ _ ?_
   clear hK K
   have s2 := below_then s1 hb2
   have K2_1 := Lib.hid J2_1
   have K2_2 := Lib.hid J2_2
   have K2_3 := Lib.hid J2_3
   have K2_4 := Lib.hid J2_4
   clear J2_1 J2_2 J2_3 J2_4
   refine wpMix_t rfl rfl (fun K hK => ?_)
   go_simp
   refine (crossR_q z1_1 z1_2 z1_3 z1_4 z2_1 z2_2 z2_3 z2_4 (vecB (P 0) (P 1)).1 (vecB (P 0) (P 1)).2 (vecB (P 0) (P 2)).1 (vecB (P 0) (P 2)).2 5 _ (QK.more ((K1_1.out.call hb2).now) (by omega)) (QK.more ((K1_2.out.call hb2).now) (by omega)) (QK.more ((K1_3.out.call hb2).now) (by omega)) (QK.more ((K1_4.out.call hb2).now) (by omega)) (QK.more (K2_1.out.now) (by omega)) (QK.more (K2_2.out.now) (by omega)) (QK.more (K2_3.out.now) (by omega)) (QK.more (K2_4.out.now) (by omega)) (by omega)).mono ?_
   rintro r w3 ⟨z3_1, z3_2, rfl, J3_1, J3_2, hb3⟩
   dsimp only
   refine hK.out _ _ ?_
   clear hK K
   have s3 := below_then s2 hb3
   have K3_1 := Lib.hid J3_1
   have K3_2 := Lib.hid J3_2
   clear J3_1 J3_2
   refine wpMix_t rfl rfl (fun K hK => ?_)
   go_simp
   refine hK.out _ _ ?_
   clear hK K
   iterate 1 (refine wpMix_p rfl rfl (fun K hK => ?_); apply Exists.intro; refine ⟨fun w' => ?_, ?_⟩; (focus (go_simp; try rfl)); go_simp; refine hK _ _ ?_; clear hK K)
   refine wpMix_nil ?_
   go_wp2
   go_ret
   exact ⟨[z3_1, z3_2], w3.heap.size, _, rfl, RowQ.m2 (Blk.new _ _ _), AllQ.m2 (QK.more K3_1.out.alloc.now (by omega)) (QK.more K3_2.out.alloc.now (by omega)), below_then hw0 (s3.alloc s3.size _)⟩
set_option maxRecDepth 100000 in
set_option maxHeartbeats 8000000 in
theorem valuesR_k2 (a aa : Option Addr) (c ac : Nat) (l : List Bx) (args : List Int) (P : Nat → Iq × Iq) (xr : QA) (r : Rat) (w : World) (hB : BoxesR w a c l) (hI : IntsR w aa ac args) (H : VArgs l args P 4) (hn : args.length = 4) :
  Calls Tryz.prog 37 #[.agg #[.int .i64 2, .slice aa args.length ac, .bool xr.neg, .slice xr.a xr.n xr.c, .slice xr.b xr.m xr.d], .slice a l.length c] w (RetVs 1 (valsI 2 P r) w) := by
 simp only [valsI, ends, List.cons_append, List.nil_append, if_true, reduceIte, reduceCtorEq, Int.reduceEq, if_false]
 have hll := hB.len
 have hal := hI.len
 replace hB := Lib.hid hB; replace hI := Lib.hid hI; replace H := Lib.hid H; replace hn := Lib.hid hn
 have h0 := Blk.new w 81 #[.int .i64 2, .slice aa args.length ac, .bool xr.neg, .slice xr.a xr.n xr.c, .slice xr.b xr.m xr.d]
 have hw0 : Below w.heap.size w (w.alloc (.cells #[.int .i64 2, .slice aa args.length ac, .bool xr.neg, .slice xr.a xr.n xr.c, .slice xr.b xr.m xr.d] 81)) := by go_grown
 go_enter Tryz.func37, Tryz.ntmps37
 go_wp2
 revert h0 hw0
 generalize w.alloc (.cells #[.int .i64 2, .slice aa args.length ac, .bool xr.neg, .slice xr.a xr.n xr.c, .slice xr.b xr.m xr.d] 81) = w0
 intro h0 hw0
 go_loopg [5, 7, 11] args.length (fun m rr _ q wr => ∃ (k : Nat) (b : Option Addr) (d : Nat) (acc : List B4), k + m = args.length ∧ q = .int .i64 k ∧ rr = .slice b acc.length d ∧ acc.length = k ∧ OwnBx (w.heap.size + 1) wr b d acc ∧ Blk wr w.heap.size 81 #[.int .i64 2, .slice aa args.length ac, .bool xr.neg, .slice xr.a xr.n xr.c, .slice xr.b xr.m xr.d] ∧ Below w.heap.size w wr ∧ (∀ i b, acc[i]? = some b → B4R w b (P i)))
 case atStart => exact ⟨0, none, 0, [], by omega, rfl, rfl, rfl, Own.nil, h0, hw0, fun i b hb => by simp at hb⟩
 case round =>
  clear h0 hw0
  obtain ⟨k, b, d, acc, hkg, rfl, rfl, hlk, ho, h0, hw0, hA⟩ := hrel
  replace hkg := Lib.hid hkg; replace hlk := Lib.hid hlk; replace ho := Lib.hid ho; replace hA := Lib.hid hA
  by_cases hlt : k < args.length
  ·
   have hkn := hn.out
   obtain ⟨j, x, hj, hx, hs, hP⟩ := H.out k (by omega)
   obtain ⟨g, o, bb, rfl, hc, hQ⟩ := boxes_at hB.out hx hs
   obtain ⟨g2, o2, rfl, hcx⟩ := hI.out.2.2 k _ hj
   have e0 := Ext.below hw0
   have u0 : wr.cell? ⟨g2, o2 + k, none⟩ = some (.int .i64 j) := e0 _ _ (by simpa [IntE] using hcx.1)
   have hjl : j < l.length := lt_of_get hx
   obtain ⟨x1, x2, x3, x4⟩ := bb
   have d0 : wr.cell? ⟨g, o + j * 12, none⟩ = some (.bool x1.neg) := e0 _ _ (hc 0 _ rfl)
   have d1 := e0 _ _ (hc 1 _ rfl)
   have d2 := e0 _ _ (hc 2 _ rfl)
   have d3 := e0 _ _ (hc 3 _ rfl)
   have d4 := e0 _ _ (hc 4 _ rfl)
   have d5 := e0 _ _ (hc 5 _ rfl)
   have d6 := e0 _ _ (hc 6 _ rfl)
   have d7 := e0 _ _ (hc 7 _ rfl)
   have d8 := e0 _ _ (hc 8 _ rfl)
   have d9 := e0 _ _ (hc 9 _ rfl)
   have d10 := e0 _ _ (hc 10 _ rfl)
   have d11 := e0 _ _ (hc 11 _ rfl)
   have hA2 : ∀ i b, (acc ++ [⟨x1, x2, x3, x4⟩])[i]? = some b → B4R w b (P i) := fun i b hb => by
    by_cases hik : i < acc.length
    · exact hA.out i b (by rwa [List.getElem?_append_left hik] at hb)
    ·
     have hi2 : i = k := by have := lt_of_get hb; rw [List.length_append] at this; simp at this; have := hlk.out; omega
     subst hi2
     rw [List.getElem?_append_right (by have := hlk.out; omega), hlk.out] at hb
     simp at hb
     subst hb
     rw [hP]; exact hQ
   replace hA2 := Lib.hid hA2
   have hln : (acc ++ [(⟨x1, x2, x3, x4⟩ : B4)]).length ≤ 16777216 := by have := hlk.out; simp; omega
   have hb1 : w.heap.size + 1 ≤ wr.heap.size := h0.lt
   have HN := Lib.hid (⟨Blk.new wr 75 (B4.cs ⟨x1, x2, x3, x4⟩).toArray, ho.out.alloc (.cells (B4.cs ⟨x1, x2, x3, x4⟩).toArray 75)⟩ : _ ∧ _)
   have e0' := h0.cell 0
   clear hx hs hc hcx hj hQ hP hkn e0'
   go_wp2_with (at_builtin; go_must (refine append_box rfl (.tmp 15) (.tmp 20) rfl b d rfl HN.out.2 ⟨x1, x2, x3, x4⟩ wr.heap.size 1 rfl (fun i u hu => (HN.out.1.cell i).trans (by simpa using hu)) (acc ++ [⟨x1, x2, x3, x4⟩]) rfl hln (by simp; omega) ?_; intro b2 d2 w2 ho2 hg2 hx2))
   have h2 := (h0.alloc (.cells (B4.cs ⟨x1, x2, x3, x4⟩).toArray 75)).under HN.out.2 (Nat.lt_succ_self _) hg2
   have hw2 : Below w.heap.size w w2 := below_append (hw0.alloc hw0.size _) hg2 (fun g e => Nat.le_trans (Nat.le_succ _) (HN.out.2.lt e).1)
   go_roundg (gk - 1)
   case rel => exact ⟨k + 1, b2, d2, acc ++ [⟨x1, x2, x3, x4⟩], by have := hkg.out; omega, by go_num, by rw [List.length_append]; rfl, by rw [List.length_append, hlk.out]; rfl, ho2, h2, hw2, hA2.out⟩
   case measure => have := hkg.out; omega
  ·
   have hl8 : acc.length = 4 := by have := hlk.out; have := hkg.out; have := hn.out; omega
   obtain ⟨gp, rfl, hR⟩ := OwnBx.row ho.out (by omega)
   obtain ⟨⟨x0_1, x0_2, x0_3, x0_4⟩, ⟨x1_1, x1_2, x1_3, x1_4⟩, ⟨x2_1, x2_2, x2_3, x2_4⟩, ⟨x3_1, x3_2, x3_3, x3_4⟩, rfl⟩ := len4b hl8
   dsimp only [List.length_cons, List.length_nil, Nat.reduceAdd]
   obtain ⟨q01, q02, q03, q04⟩ := hA.out 0 _ rfl
   have Xx0_1 := Lib.hid (fun W (hW : Below wr.heap.size wr W) => q01.ext (Ext.below (below_then hw0 hW)))
   have Xx0_2 := Lib.hid (fun W (hW : Below wr.heap.size wr W) => q02.ext (Ext.below (below_then hw0 hW)))
   have Xx0_3 := Lib.hid (fun W (hW : Below wr.heap.size wr W) => q03.ext (Ext.below (below_then hw0 hW)))
   have Xx0_4 := Lib.hid (fun W (hW : Below wr.heap.size wr W) => q04.ext (Ext.below (below_then hw0 hW)))
   clear q01 q02 q03 q04
   obtain ⟨q11, q12, q13, q14⟩ := hA.out 1 _ rfl
   have Xx1_1 := Lib.hid (fun W (hW : Below wr.heap.size wr W) => q11.ext (Ext.below (below_then hw0 hW)))
   have Xx1_2 := Lib.hid (fun W (hW : Below wr.heap.size wr W) => q12.ext (Ext.below (below_then hw0 hW)))
   have Xx1_3 := Lib.hid (fun W (hW : Below wr.heap.size wr W) => q13.ext (Ext.below (below_then hw0 hW)))
   have Xx1_4 := Lib.hid (fun W (hW : Below wr.heap.size wr W) => q14.ext (Ext.below (below_then hw0 hW)))
   clear q11 q12 q13 q14
   obtain ⟨q21, q22, q23, q24⟩ := hA.out 2 _ rfl
   have Xx2_1 := Lib.hid (fun W (hW : Below wr.heap.size wr W) => q21.ext (Ext.below (below_then hw0 hW)))
   have Xx2_2 := Lib.hid (fun W (hW : Below wr.heap.size wr W) => q22.ext (Ext.below (below_then hw0 hW)))
   have Xx2_3 := Lib.hid (fun W (hW : Below wr.heap.size wr W) => q23.ext (Ext.below (below_then hw0 hW)))
   have Xx2_4 := Lib.hid (fun W (hW : Below wr.heap.size wr W) => q24.ext (Ext.below (below_then hw0 hW)))
   clear q21 q22 q23 q24
   obtain ⟨q31, q32, q33, q34⟩ := hA.out 3 _ rfl
   have Xx3_1 := Lib.hid (fun W (hW : Below wr.heap.size wr W) => q31.ext (Ext.below (below_then hw0 hW)))
   have Xx3_2 := Lib.hid (fun W (hW : Below wr.heap.size wr W) => q32.ext (Ext.below (below_then hw0 hW)))
   have Xx3_3 := Lib.hid (fun W (hW : Below wr.heap.size wr W) => q33.ext (Ext.below (below_then hw0 hW)))
   have Xx3_4 := Lib.hid (fun W (hW : Below wr.heap.size wr W) => q34.ext (Ext.below (below_then hw0 hW)))
   clear q31 q32 q33 q34
   have d0_0 := held (show wr.cell? ⟨gp, 0, none⟩ = some _ from hR 0 _ rfl 0 _ rfl)
   have d0_1 := held (show wr.cell? ⟨gp, 1, none⟩ = some _ from hR 0 _ rfl 1 _ rfl)
   have d0_2 := held (show wr.cell? ⟨gp, 2, none⟩ = some _ from hR 0 _ rfl 2 _ rfl)
   have d0_3 := held (show wr.cell? ⟨gp, 3, none⟩ = some _ from hR 0 _ rfl 3 _ rfl)
   have d0_4 := held (show wr.cell? ⟨gp, 4, none⟩ = some _ from hR 0 _ rfl 4 _ rfl)
   have d0_5 := held (show wr.cell? ⟨gp, 5, none⟩ = some _ from hR 0 _ rfl 5 _ rfl)
   have d0_6 := held (show wr.cell? ⟨gp, 6, none⟩ = some _ from hR 0 _ rfl 6 _ rfl)
   have d0_7 := held (show wr.cell? ⟨gp, 7, none⟩ = some _ from hR 0 _ rfl 7 _ rfl)
   have d0_8 := held (show wr.cell? ⟨gp, 8, none⟩ = some _ from hR 0 _ rfl 8 _ rfl)
   have d0_9 := held (show wr.cell? ⟨gp, 9, none⟩ = some _ from hR 0 _ rfl 9 _ rfl)
   have d0_10 := held (show wr.cell? ⟨gp, 10, none⟩ = some _ from hR 0 _ rfl 10 _ rfl)
   have d0_11 := held (show wr.cell? ⟨gp, 11, none⟩ = some _ from hR 0 _ rfl 11 _ rfl)
   have d1_0 := held (show wr.cell? ⟨gp, 12, none⟩ = some _ from hR 1 _ rfl 0 _ rfl)
   have d1_1 := held (show wr.cell? ⟨gp, 13, none⟩ = some _ from hR 1 _ rfl 1 _ rfl)
   have d1_2 := held (show wr.cell? ⟨gp, 14, none⟩ = some _ from hR 1 _ rfl 2 _ rfl)
   have d1_3 := held (show wr.cell? ⟨gp, 15, none⟩ = some _ from hR 1 _ rfl 3 _ rfl)
   have d1_4 := held (show wr.cell? ⟨gp, 16, none⟩ = some _ from hR 1 _ rfl 4 _ rfl)
   have d1_5 := held (show wr.cell? ⟨gp, 17, none⟩ = some _ from hR 1 _ rfl 5 _ rfl)
   have d1_6 := held (show wr.cell? ⟨gp, 18, none⟩ = some _ from hR 1 _ rfl 6 _ rfl)
   have d1_7 := held (show wr.cell? ⟨gp, 19, none⟩ = some _ from hR 1 _ rfl 7 _ rfl)
   have d1_8 := held (show wr.cell? ⟨gp, 20, none⟩ = some _ from hR 1 _ rfl 8 _ rfl)
   have d1_9 := held (show wr.cell? ⟨gp, 21, none⟩ = some _ from hR 1 _ rfl 9 _ rfl)
   have d1_10 := held (show wr.cell? ⟨gp, 22, none⟩ = some _ from hR 1 _ rfl 10 _ rfl)
   have d1_11 := held (show wr.cell? ⟨gp, 23, none⟩ = some _ from hR 1 _ rfl 11 _ rfl)
   have d2_0 := held (show wr.cell? ⟨gp, 24, none⟩ = some _ from hR 2 _ rfl 0 _ rfl)
   have d2_1 := held (show wr.cell? ⟨gp, 25, none⟩ = some _ from hR 2 _ rfl 1 _ rfl)
   have d2_2 := held (show wr.cell? ⟨gp, 26, none⟩ = some _ from hR 2 _ rfl 2 _ rfl)
   have d2_3 := held (show wr.cell? ⟨gp, 27, none⟩ = some _ from hR 2 _ rfl 3 _ rfl)
   have d2_4 := held (show wr.cell? ⟨gp, 28, none⟩ = some _ from hR 2 _ rfl 4 _ rfl)
   have d2_5 := held (show wr.cell? ⟨gp, 29, none⟩ = some _ from hR 2 _ rfl 5 _ rfl)
   have d2_6 := held (show wr.cell? ⟨gp, 30, none⟩ = some _ from hR 2 _ rfl 6 _ rfl)
   have d2_7 := held (show wr.cell? ⟨gp, 31, none⟩ = some _ from hR 2 _ rfl 7 _ rfl)
   have d2_8 := held (show wr.cell? ⟨gp, 32, none⟩ = some _ from hR 2 _ rfl 8 _ rfl)
   have d2_9 := held (show wr.cell? ⟨gp, 33, none⟩ = some _ from hR 2 _ rfl 9 _ rfl)
   have d2_10 := held (show wr.cell? ⟨gp, 34, none⟩ = some _ from hR 2 _ rfl 10 _ rfl)
   have d2_11 := held (show wr.cell? ⟨gp, 35, none⟩ = some _ from hR 2 _ rfl 11 _ rfl)
   have d3_0 := held (show wr.cell? ⟨gp, 36, none⟩ = some _ from hR 3 _ rfl 0 _ rfl)
   have d3_1 := held (show wr.cell? ⟨gp, 37, none⟩ = some _ from hR 3 _ rfl 1 _ rfl)
   have d3_2 := held (show wr.cell? ⟨gp, 38, none⟩ = some _ from hR 3 _ rfl 2 _ rfl)
   have d3_3 := held (show wr.cell? ⟨gp, 39, none⟩ = some _ from hR 3 _ rfl 3 _ rfl)
   have d3_4 := held (show wr.cell? ⟨gp, 40, none⟩ = some _ from hR 3 _ rfl 4 _ rfl)
   have d3_5 := held (show wr.cell? ⟨gp, 41, none⟩ = some _ from hR 3 _ rfl 5 _ rfl)
   have d3_6 := held (show wr.cell? ⟨gp, 42, none⟩ = some _ from hR 3 _ rfl 6 _ rfl)
   have d3_7 := held (show wr.cell? ⟨gp, 43, none⟩ = some _ from hR 3 _ rfl 7 _ rfl)
   have d3_8 := held (show wr.cell? ⟨gp, 44, none⟩ = some _ from hR 3 _ rfl 8 _ rfl)
   have d3_9 := held (show wr.cell? ⟨gp, 45, none⟩ = some _ from hR 3 _ rfl 9 _ rfl)
   have d3_10 := held (show wr.cell? ⟨gp, 46, none⟩ = some _ from hR 3 _ rfl 10 _ rfl)
   have d3_11 := held (show wr.cell? ⟨gp, 47, none⟩ = some _ from hR 3 _ rfl 11 _ rfl)
   have HR := Lib.hid hR
   have e0 := h0.cell 0
   clear hkg hlk ho hA hl8 hR H hB hI
   clear hn
   go_wp2
   clear hlt hll hal
   have s0 : Below wr.heap.size wr wr.drew := (Below.refl _ _).drew
   refine wp_region_mix (S := Below wr.heap.size wr) [(0, .q), (1, .q), (2, .q), (3, .q), (4, .q), (5, .q), (7, .q), (8, .q), (9, .q), (10, .q), (11, .q), (12, .q), (6, .l), (13, .t), (14, .t), (15, .t), (16, .p)] (by kernel_rfl) (by kernel_rfl) (by kernel_rfl) (fun d _ _ _ _ h => by cases d <;> exact h) (s0) ?_
   iterate 12 (refine wpMix_q rfl rfl (fun K hK => ?_); apply Exists.intro; refine ⟨fun w' hw' => ?_, ?_⟩; (focus (go_simp; try rfl)); go_simp; refine hK _ _ ?_; clear hK K)
   refine wpMix_l rfl rfl (fun K hK => ?_)
   go_simp
   refine (vectorR_q x0_1 x0_2 x0_3 x0_4 x1_1 x1_2 x1_3 x1_4 (P 0).1 (P 0).2 (P 1).1 (P 1).2 2 _ (Xx0_1.out _ s0) (Xx0_2.out _ s0) (Xx0_3.out _ s0) (Xx0_4.out _ s0) (Xx1_1.out _ s0) (Xx1_2.out _ s0) (Xx1_3.out _ s0) (Xx1_4.out _ s0) (by omega)).mono ?_
   rintro r w1 ⟨z1_1, z1_2, z1_3, z1_4, rfl, J1_1, J1_2, J1_3, J1_4, hb1⟩
   dsimp only
   refine hK.out _ _ (below_then s0 hb1) (fun _ => ?_)
   clear hK K
   have s1 := below_then s0 hb1
   have K1_1 := Lib.hid J1_1
   have K1_2 := Lib.hid J1_2
   have K1_3 := Lib.hid J1_3
   have K1_4 := Lib.hid J1_4
   clear J1_1 J1_2 J1_3 J1_4
   refine wpMix_t rfl rfl (fun K hK => ?_)
   go_simp
   refine (vectorR_q x2_1 x2_2 x2_3 x2_4 x3_1 x3_2 x3_3 x3_4 (P 2).1 (P 2).2 (P 3).1 (P 3).2 2 _ (Xx2_1.out _ s1) (Xx2_2.out _ s1) (Xx2_3.out _ s1) (Xx2_4.out _ s1) (Xx3_1.out _ s1) (Xx3_2.out _ s1) (Xx3_3.out _ s1) (Xx3_4.out _ s1) (by omega)).mono ?_
   rintro r w2 ⟨z2_1, z2_2, z2_3, z2_4, rfl, J2_1, J2_2, J2_3, J2_4, hb2⟩
   dsimp only
   refine hK.out _ _ ?_
   clear hK K
   have s2 := below_then s1 hb2
   have K2_1 := Lib.hid J2_1
   have K2_2 := Lib.hid J2_2
   have K2_3 := Lib.hid J2_3
   have K2_4 := Lib.hid J2_4
   clear J2_1 J2_2 J2_3 J2_4
   refine wpMix_t rfl rfl (fun K hK => ?_)
   go_simp
   refine (crossR_q z1_1 z1_2 z1_3 z1_4 z2_1 z2_2 z2_3 z2_4 (vecB (P 0) (P 1)).1 (vecB (P 0) (P 1)).2 (vecB (P 2) (P 3)).1 (vecB (P 2) (P 3)).2 5 _ (QK.more ((K1_1.out.call hb2).now) (by omega)) (QK.more ((K1_2.out.call hb2).now) (by omega)) (QK.more ((K1_3.out.call hb2).now) (by omega)) (QK.more ((K1_4.out.call hb2).now) (by omega)) (QK.more (K2_1.out.now) (by omega)) (QK.more (K2_2.out.now) (by omega)) (QK.more (K2_3.out.now) (by omega)) (QK.more (K2_4.out.now) (by omega)) (by omega)).mono ?_
   rintro r w3 ⟨z3_1, z3_2, rfl, J3_1, J3_2, hb3⟩
   dsimp only
   refine hK.out _ _ ?_
   clear hK K
   have s3 := below_then s2 hb3
   have K3_1 := Lib.hid J3_1
   have K3_2 := Lib.hid J3_2
   clear J3_1 J3_2
   refine wpMix_t rfl rfl (fun K hK => ?_)
   go_simp
   refine hK.out _ _ ?_
   clear hK K
   iterate 1 (refine wpMix_p rfl rfl (fun K hK => ?_); apply Exists.intro; refine ⟨fun w' => ?_, ?_⟩; (focus (go_simp; try rfl)); go_simp; refine hK _ _ ?_; clear hK K)
   refine wpMix_nil ?_
   go_wp2
   go_ret
   exact ⟨[z3_1, z3_2], w3.heap.size, _, rfl, RowQ.m2 (Blk.new _ _ _), AllQ.m2 (QK.more K3_1.out.alloc.now (by omega)) (QK.more K3_2.out.alloc.now (by omega)), below_then hw0 (s3.alloc s3.size _)⟩
set_option maxRecDepth 100000 in
set_option maxHeartbeats 8000000 in
theorem valuesR_k3 (a aa : Option Addr) (c ac : Nat) (l : List Bx) (args : List Int) (P : Nat → Iq × Iq) (xr : QA) (r : Rat) (w : World) (hB : BoxesR w a c l) (hI : IntsR w aa ac args) (H : VArgs l args P 4) (hn : args.length = 4) :
  Calls Tryz.prog 37 #[.agg #[.int .i64 3, .slice aa args.length ac, .bool xr.neg, .slice xr.a xr.n xr.c, .slice xr.b xr.m xr.d], .slice a l.length c] w (RetVs 1 (valsI 3 P r) w) := by
 simp only [valsI, ends, List.cons_append, List.nil_append, if_true, reduceIte, reduceCtorEq, Int.reduceEq, if_false]
 have hll := hB.len
 have hal := hI.len
 replace hB := Lib.hid hB; replace hI := Lib.hid hI; replace H := Lib.hid H; replace hn := Lib.hid hn
 have h0 := Blk.new w 81 #[.int .i64 3, .slice aa args.length ac, .bool xr.neg, .slice xr.a xr.n xr.c, .slice xr.b xr.m xr.d]
 have hw0 : Below w.heap.size w (w.alloc (.cells #[.int .i64 3, .slice aa args.length ac, .bool xr.neg, .slice xr.a xr.n xr.c, .slice xr.b xr.m xr.d] 81)) := by go_grown
 go_enter Tryz.func37, Tryz.ntmps37
 go_wp2
 revert h0 hw0
 generalize w.alloc (.cells #[.int .i64 3, .slice aa args.length ac, .bool xr.neg, .slice xr.a xr.n xr.c, .slice xr.b xr.m xr.d] 81) = w0
 intro h0 hw0
 go_loopg [5, 7, 11] args.length (fun m rr _ q wr => ∃ (k : Nat) (b : Option Addr) (d : Nat) (acc : List B4), k + m = args.length ∧ q = .int .i64 k ∧ rr = .slice b acc.length d ∧ acc.length = k ∧ OwnBx (w.heap.size + 1) wr b d acc ∧ Blk wr w.heap.size 81 #[.int .i64 3, .slice aa args.length ac, .bool xr.neg, .slice xr.a xr.n xr.c, .slice xr.b xr.m xr.d] ∧ Below w.heap.size w wr ∧ (∀ i b, acc[i]? = some b → B4R w b (P i)))
 case atStart => exact ⟨0, none, 0, [], by omega, rfl, rfl, rfl, Own.nil, h0, hw0, fun i b hb => by simp at hb⟩
 case round =>
  clear h0 hw0
  obtain ⟨k, b, d, acc, hkg, rfl, rfl, hlk, ho, h0, hw0, hA⟩ := hrel
  replace hkg := Lib.hid hkg; replace hlk := Lib.hid hlk; replace ho := Lib.hid ho; replace hA := Lib.hid hA
  by_cases hlt : k < args.length
  ·
   have hkn := hn.out
   obtain ⟨j, x, hj, hx, hs, hP⟩ := H.out k (by omega)
   obtain ⟨g, o, bb, rfl, hc, hQ⟩ := boxes_at hB.out hx hs
   obtain ⟨g2, o2, rfl, hcx⟩ := hI.out.2.2 k _ hj
   have e0 := Ext.below hw0
   have u0 : wr.cell? ⟨g2, o2 + k, none⟩ = some (.int .i64 j) := e0 _ _ (by simpa [IntE] using hcx.1)
   have hjl : j < l.length := lt_of_get hx
   obtain ⟨x1, x2, x3, x4⟩ := bb
   have d0 : wr.cell? ⟨g, o + j * 12, none⟩ = some (.bool x1.neg) := e0 _ _ (hc 0 _ rfl)
   have d1 := e0 _ _ (hc 1 _ rfl)
   have d2 := e0 _ _ (hc 2 _ rfl)
   have d3 := e0 _ _ (hc 3 _ rfl)
   have d4 := e0 _ _ (hc 4 _ rfl)
   have d5 := e0 _ _ (hc 5 _ rfl)
   have d6 := e0 _ _ (hc 6 _ rfl)
   have d7 := e0 _ _ (hc 7 _ rfl)
   have d8 := e0 _ _ (hc 8 _ rfl)
   have d9 := e0 _ _ (hc 9 _ rfl)
   have d10 := e0 _ _ (hc 10 _ rfl)
   have d11 := e0 _ _ (hc 11 _ rfl)
   have hA2 : ∀ i b, (acc ++ [⟨x1, x2, x3, x4⟩])[i]? = some b → B4R w b (P i) := fun i b hb => by
    by_cases hik : i < acc.length
    · exact hA.out i b (by rwa [List.getElem?_append_left hik] at hb)
    ·
     have hi2 : i = k := by have := lt_of_get hb; rw [List.length_append] at this; simp at this; have := hlk.out; omega
     subst hi2
     rw [List.getElem?_append_right (by have := hlk.out; omega), hlk.out] at hb
     simp at hb
     subst hb
     rw [hP]; exact hQ
   replace hA2 := Lib.hid hA2
   have hln : (acc ++ [(⟨x1, x2, x3, x4⟩ : B4)]).length ≤ 16777216 := by have := hlk.out; simp; omega
   have hb1 : w.heap.size + 1 ≤ wr.heap.size := h0.lt
   have HN := Lib.hid (⟨Blk.new wr 75 (B4.cs ⟨x1, x2, x3, x4⟩).toArray, ho.out.alloc (.cells (B4.cs ⟨x1, x2, x3, x4⟩).toArray 75)⟩ : _ ∧ _)
   have e0' := h0.cell 0
   clear hx hs hc hcx hj hQ hP hkn e0'
   go_wp2_with (at_builtin; go_must (refine append_box rfl (.tmp 15) (.tmp 20) rfl b d rfl HN.out.2 ⟨x1, x2, x3, x4⟩ wr.heap.size 1 rfl (fun i u hu => (HN.out.1.cell i).trans (by simpa using hu)) (acc ++ [⟨x1, x2, x3, x4⟩]) rfl hln (by simp; omega) ?_; intro b2 d2 w2 ho2 hg2 hx2))
   have h2 := (h0.alloc (.cells (B4.cs ⟨x1, x2, x3, x4⟩).toArray 75)).under HN.out.2 (Nat.lt_succ_self _) hg2
   have hw2 : Below w.heap.size w w2 := below_append (hw0.alloc hw0.size _) hg2 (fun g e => Nat.le_trans (Nat.le_succ _) (HN.out.2.lt e).1)
   go_roundg (gk - 1)
   case rel => exact ⟨k + 1, b2, d2, acc ++ [⟨x1, x2, x3, x4⟩], by have := hkg.out; omega, by go_num, by rw [List.length_append]; rfl, by rw [List.length_append, hlk.out]; rfl, ho2, h2, hw2, hA2.out⟩
   case measure => have := hkg.out; omega
  ·
   have hl8 : acc.length = 4 := by have := hlk.out; have := hkg.out; have := hn.out; omega
   obtain ⟨gp, rfl, hR⟩ := OwnBx.row ho.out (by omega)
   obtain ⟨⟨x0_1, x0_2, x0_3, x0_4⟩, ⟨x1_1, x1_2, x1_3, x1_4⟩, ⟨x2_1, x2_2, x2_3, x2_4⟩, ⟨x3_1, x3_2, x3_3, x3_4⟩, rfl⟩ := len4b hl8
   dsimp only [List.length_cons, List.length_nil, Nat.reduceAdd]
   obtain ⟨q01, q02, q03, q04⟩ := hA.out 0 _ rfl
   have Xx0_1 := Lib.hid (fun W (hW : Below wr.heap.size wr W) => q01.ext (Ext.below (below_then hw0 hW)))
   have Xx0_2 := Lib.hid (fun W (hW : Below wr.heap.size wr W) => q02.ext (Ext.below (below_then hw0 hW)))
   have Xx0_3 := Lib.hid (fun W (hW : Below wr.heap.size wr W) => q03.ext (Ext.below (below_then hw0 hW)))
   have Xx0_4 := Lib.hid (fun W (hW : Below wr.heap.size wr W) => q04.ext (Ext.below (below_then hw0 hW)))
   clear q01 q02 q03 q04
   obtain ⟨q11, q12, q13, q14⟩ := hA.out 1 _ rfl
   have Xx1_1 := Lib.hid (fun W (hW : Below wr.heap.size wr W) => q11.ext (Ext.below (below_then hw0 hW)))
   have Xx1_2 := Lib.hid (fun W (hW : Below wr.heap.size wr W) => q12.ext (Ext.below (below_then hw0 hW)))
   have Xx1_3 := Lib.hid (fun W (hW : Below wr.heap.size wr W) => q13.ext (Ext.below (below_then hw0 hW)))
   have Xx1_4 := Lib.hid (fun W (hW : Below wr.heap.size wr W) => q14.ext (Ext.below (below_then hw0 hW)))
   clear q11 q12 q13 q14
   obtain ⟨q21, q22, q23, q24⟩ := hA.out 2 _ rfl
   have Xx2_1 := Lib.hid (fun W (hW : Below wr.heap.size wr W) => q21.ext (Ext.below (below_then hw0 hW)))
   have Xx2_2 := Lib.hid (fun W (hW : Below wr.heap.size wr W) => q22.ext (Ext.below (below_then hw0 hW)))
   have Xx2_3 := Lib.hid (fun W (hW : Below wr.heap.size wr W) => q23.ext (Ext.below (below_then hw0 hW)))
   have Xx2_4 := Lib.hid (fun W (hW : Below wr.heap.size wr W) => q24.ext (Ext.below (below_then hw0 hW)))
   clear q21 q22 q23 q24
   obtain ⟨q31, q32, q33, q34⟩ := hA.out 3 _ rfl
   have Xx3_1 := Lib.hid (fun W (hW : Below wr.heap.size wr W) => q31.ext (Ext.below (below_then hw0 hW)))
   have Xx3_2 := Lib.hid (fun W (hW : Below wr.heap.size wr W) => q32.ext (Ext.below (below_then hw0 hW)))
   have Xx3_3 := Lib.hid (fun W (hW : Below wr.heap.size wr W) => q33.ext (Ext.below (below_then hw0 hW)))
   have Xx3_4 := Lib.hid (fun W (hW : Below wr.heap.size wr W) => q34.ext (Ext.below (below_then hw0 hW)))
   clear q31 q32 q33 q34
   have d0_0 := held (show wr.cell? ⟨gp, 0, none⟩ = some _ from hR 0 _ rfl 0 _ rfl)
   have d0_1 := held (show wr.cell? ⟨gp, 1, none⟩ = some _ from hR 0 _ rfl 1 _ rfl)
   have d0_2 := held (show wr.cell? ⟨gp, 2, none⟩ = some _ from hR 0 _ rfl 2 _ rfl)
   have d0_3 := held (show wr.cell? ⟨gp, 3, none⟩ = some _ from hR 0 _ rfl 3 _ rfl)
   have d0_4 := held (show wr.cell? ⟨gp, 4, none⟩ = some _ from hR 0 _ rfl 4 _ rfl)
   have d0_5 := held (show wr.cell? ⟨gp, 5, none⟩ = some _ from hR 0 _ rfl 5 _ rfl)
   have d0_6 := held (show wr.cell? ⟨gp, 6, none⟩ = some _ from hR 0 _ rfl 6 _ rfl)
   have d0_7 := held (show wr.cell? ⟨gp, 7, none⟩ = some _ from hR 0 _ rfl 7 _ rfl)
   have d0_8 := held (show wr.cell? ⟨gp, 8, none⟩ = some _ from hR 0 _ rfl 8 _ rfl)
   have d0_9 := held (show wr.cell? ⟨gp, 9, none⟩ = some _ from hR 0 _ rfl 9 _ rfl)
   have d0_10 := held (show wr.cell? ⟨gp, 10, none⟩ = some _ from hR 0 _ rfl 10 _ rfl)
   have d0_11 := held (show wr.cell? ⟨gp, 11, none⟩ = some _ from hR 0 _ rfl 11 _ rfl)
   have d1_0 := held (show wr.cell? ⟨gp, 12, none⟩ = some _ from hR 1 _ rfl 0 _ rfl)
   have d1_1 := held (show wr.cell? ⟨gp, 13, none⟩ = some _ from hR 1 _ rfl 1 _ rfl)
   have d1_2 := held (show wr.cell? ⟨gp, 14, none⟩ = some _ from hR 1 _ rfl 2 _ rfl)
   have d1_3 := held (show wr.cell? ⟨gp, 15, none⟩ = some _ from hR 1 _ rfl 3 _ rfl)
   have d1_4 := held (show wr.cell? ⟨gp, 16, none⟩ = some _ from hR 1 _ rfl 4 _ rfl)
   have d1_5 := held (show wr.cell? ⟨gp, 17, none⟩ = some _ from hR 1 _ rfl 5 _ rfl)
   have d1_6 := held (show wr.cell? ⟨gp, 18, none⟩ = some _ from hR 1 _ rfl 6 _ rfl)
   have d1_7 := held (show wr.cell? ⟨gp, 19, none⟩ = some _ from hR 1 _ rfl 7 _ rfl)
   have d1_8 := held (show wr.cell? ⟨gp, 20, none⟩ = some _ from hR 1 _ rfl 8 _ rfl)
   have d1_9 := held (show wr.cell? ⟨gp, 21, none⟩ = some _ from hR 1 _ rfl 9 _ rfl)
   have d1_10 := held (show wr.cell? ⟨gp, 22, none⟩ = some _ from hR 1 _ rfl 10 _ rfl)
   have d1_11 := held (show wr.cell? ⟨gp, 23, none⟩ = some _ from hR 1 _ rfl 11 _ rfl)
   have d2_0 := held (show wr.cell? ⟨gp, 24, none⟩ = some _ from hR 2 _ rfl 0 _ rfl)
   have d2_1 := held (show wr.cell? ⟨gp, 25, none⟩ = some _ from hR 2 _ rfl 1 _ rfl)
   have d2_2 := held (show wr.cell? ⟨gp, 26, none⟩ = some _ from hR 2 _ rfl 2 _ rfl)
   have d2_3 := held (show wr.cell? ⟨gp, 27, none⟩ = some _ from hR 2 _ rfl 3 _ rfl)
   have d2_4 := held (show wr.cell? ⟨gp, 28, none⟩ = some _ from hR 2 _ rfl 4 _ rfl)
   have d2_5 := held (show wr.cell? ⟨gp, 29, none⟩ = some _ from hR 2 _ rfl 5 _ rfl)
   have d2_6 := held (show wr.cell? ⟨gp, 30, none⟩ = some _ from hR 2 _ rfl 6 _ rfl)
   have d2_7 := held (show wr.cell? ⟨gp, 31, none⟩ = some _ from hR 2 _ rfl 7 _ rfl)
   have d2_8 := held (show wr.cell? ⟨gp, 32, none⟩ = some _ from hR 2 _ rfl 8 _ rfl)
   have d2_9 := held (show wr.cell? ⟨gp, 33, none⟩ = some _ from hR 2 _ rfl 9 _ rfl)
   have d2_10 := held (show wr.cell? ⟨gp, 34, none⟩ = some _ from hR 2 _ rfl 10 _ rfl)
   have d2_11 := held (show wr.cell? ⟨gp, 35, none⟩ = some _ from hR 2 _ rfl 11 _ rfl)
   have d3_0 := held (show wr.cell? ⟨gp, 36, none⟩ = some _ from hR 3 _ rfl 0 _ rfl)
   have d3_1 := held (show wr.cell? ⟨gp, 37, none⟩ = some _ from hR 3 _ rfl 1 _ rfl)
   have d3_2 := held (show wr.cell? ⟨gp, 38, none⟩ = some _ from hR 3 _ rfl 2 _ rfl)
   have d3_3 := held (show wr.cell? ⟨gp, 39, none⟩ = some _ from hR 3 _ rfl 3 _ rfl)
   have d3_4 := held (show wr.cell? ⟨gp, 40, none⟩ = some _ from hR 3 _ rfl 4 _ rfl)
   have d3_5 := held (show wr.cell? ⟨gp, 41, none⟩ = some _ from hR 3 _ rfl 5 _ rfl)
   have d3_6 := held (show wr.cell? ⟨gp, 42, none⟩ = some _ from hR 3 _ rfl 6 _ rfl)
   have d3_7 := held (show wr.cell? ⟨gp, 43, none⟩ = some _ from hR 3 _ rfl 7 _ rfl)
   have d3_8 := held (show wr.cell? ⟨gp, 44, none⟩ = some _ from hR 3 _ rfl 8 _ rfl)
   have d3_9 := held (show wr.cell? ⟨gp, 45, none⟩ = some _ from hR 3 _ rfl 9 _ rfl)
   have d3_10 := held (show wr.cell? ⟨gp, 46, none⟩ = some _ from hR 3 _ rfl 10 _ rfl)
   have d3_11 := held (show wr.cell? ⟨gp, 47, none⟩ = some _ from hR 3 _ rfl 11 _ rfl)
   have HR := Lib.hid hR
   have e0 := h0.cell 0
   clear hkg hlk ho hA hl8 hR H hB hI
   clear hn
   go_wp2
   clear hlt hll hal
   have s0 : Below wr.heap.size wr wr.drew := (Below.refl _ _).drew
   refine wp_region_mix (S := Below wr.heap.size wr) [(0, .q), (1, .q), (2, .q), (3, .q), (4, .q), (5, .q), (7, .q), (8, .q), (9, .q), (10, .q), (11, .q), (12, .q), (6, .l), (13, .t), (14, .t), (15, .t), (16, .p)] (by kernel_rfl) (by kernel_rfl) (by kernel_rfl) (fun d _ _ _ _ h => by cases d <;> exact h) (s0) ?_
   iterate 12 (refine wpMix_q rfl rfl (fun K hK => ?_); apply Exists.intro; refine ⟨fun w' hw' => ?_, ?_⟩; (focus (go_simp; try rfl)); go_simp; refine hK _ _ ?_; clear hK K)
   refine wpMix_l rfl rfl (fun K hK => ?_)
   go_simp
   refine (vectorR_q x0_1 x0_2 x0_3 x0_4 x1_1 x1_2 x1_3 x1_4 (P 0).1 (P 0).2 (P 1).1 (P 1).2 2 _ (Xx0_1.out _ s0) (Xx0_2.out _ s0) (Xx0_3.out _ s0) (Xx0_4.out _ s0) (Xx1_1.out _ s0) (Xx1_2.out _ s0) (Xx1_3.out _ s0) (Xx1_4.out _ s0) (by omega)).mono ?_
   rintro r w1 ⟨z1_1, z1_2, z1_3, z1_4, rfl, J1_1, J1_2, J1_3, J1_4, hb1⟩
   dsimp only
   refine hK.out _ _ (below_then s0 hb1) (fun _ => ?_)
   clear hK K
   have s1 := below_then s0 hb1
   have K1_1 := Lib.hid J1_1
   have K1_2 := Lib.hid J1_2
   have K1_3 := Lib.hid J1_3
   have K1_4 := Lib.hid J1_4
   clear J1_1 J1_2 J1_3 J1_4
   refine wpMix_t rfl rfl (fun K hK => ?_)
   go_simp
   refine (vectorR_q x2_1 x2_2 x2_3 x2_4 x3_1 x3_2 x3_3 x3_4 (P 2).1 (P 2).2 (P 3).1 (P 3).2 2 _ (Xx2_1.out _ s1) (Xx2_2.out _ s1) (Xx2_3.out _ s1) (Xx2_4.out _ s1) (Xx3_1.out _ s1) (Xx3_2.out _ s1) (Xx3_3.out _ s1) (Xx3_4.out _ s1) (by omega)).mono ?_
   rintro r w2 ⟨z2_1, z2_2, z2_3, z2_4, rfl, J2_1, J2_2, J2_3, J2_4, hb2⟩
   dsimp only
   refine hK.out _ _ ?_
   clear hK K
   have s2 := below_then s1 hb2
   have K2_1 := Lib.hid J2_1
   have K2_2 := Lib.hid J2_2
   have K2_3 := Lib.hid J2_3
   have K2_4 := Lib.hid J2_4
   clear J2_1 J2_2 J2_3 J2_4
   refine wpMix_t rfl rfl (fun K hK => ?_)
   go_simp
   refine (dotR_q z1_1 z1_2 z1_3 z1_4 z2_1 z2_2 z2_3 z2_4 (vecB (P 0) (P 1)).1 (vecB (P 0) (P 1)).2 (vecB (P 2) (P 3)).1 (vecB (P 2) (P 3)).2 5 _ (QK.more ((K1_1.out.call hb2).now) (by omega)) (QK.more ((K1_2.out.call hb2).now) (by omega)) (QK.more ((K1_3.out.call hb2).now) (by omega)) (QK.more ((K1_4.out.call hb2).now) (by omega)) (QK.more (K2_1.out.now) (by omega)) (QK.more (K2_2.out.now) (by omega)) (QK.more (K2_3.out.now) (by omega)) (QK.more (K2_4.out.now) (by omega)) (by omega)).mono ?_
   rintro r w3 ⟨z3_1, z3_2, rfl, J3_1, J3_2, hb3⟩
   dsimp only
   refine hK.out _ _ ?_
   clear hK K
   have s3 := below_then s2 hb3
   have K3_1 := Lib.hid J3_1
   have K3_2 := Lib.hid J3_2
   clear J3_1 J3_2
   refine wpMix_t rfl rfl (fun K hK => ?_)
   go_simp
   refine hK.out _ _ ?_
   clear hK K
   iterate 1 (refine wpMix_p rfl rfl (fun K hK => ?_); apply Exists.intro; refine ⟨fun w' => ?_, ?_⟩; (focus (go_simp; try rfl)); go_simp; refine hK _ _ ?_; clear hK K)
   refine wpMix_nil ?_
   go_wp2
   go_ret
   exact ⟨[z3_1, z3_2], w3.heap.size, _, rfl, RowQ.m2 (Blk.new _ _ _), AllQ.m2 (QK.more K3_1.out.alloc.now (by omega)) (QK.more K3_2.out.alloc.now (by omega)), below_then hw0 (s3.alloc s3.size _)⟩
set_option maxRecDepth 100000 in
set_option maxHeartbeats 8000000 in
theorem valuesR_k4 (a aa : Option Addr) (c ac : Nat) (l : List Bx) (args : List Int) (P : Nat → Iq × Iq) (xr : QA) (r : Rat) (w : World) (hB : BoxesR w a c l) (hI : IntsR w aa ac args) (H : VArgs l args P 4) (hn : args.length = 4) :
  Calls Tryz.prog 37 #[.agg #[.int .i64 4, .slice aa args.length ac, .bool xr.neg, .slice xr.a xr.n xr.c, .slice xr.b xr.m xr.d], .slice a l.length c] w (RetVs 1 (valsI 4 P r) w) := by
 simp only [valsI, ends, List.cons_append, List.nil_append, if_true, reduceIte, reduceCtorEq, Int.reduceEq, if_false]
 have hll := hB.len
 have hal := hI.len
 replace hB := Lib.hid hB; replace hI := Lib.hid hI; replace H := Lib.hid H; replace hn := Lib.hid hn
 have h0 := Blk.new w 81 #[.int .i64 4, .slice aa args.length ac, .bool xr.neg, .slice xr.a xr.n xr.c, .slice xr.b xr.m xr.d]
 have hw0 : Below w.heap.size w (w.alloc (.cells #[.int .i64 4, .slice aa args.length ac, .bool xr.neg, .slice xr.a xr.n xr.c, .slice xr.b xr.m xr.d] 81)) := by go_grown
 go_enter Tryz.func37, Tryz.ntmps37
 go_wp2
 revert h0 hw0
 generalize w.alloc (.cells #[.int .i64 4, .slice aa args.length ac, .bool xr.neg, .slice xr.a xr.n xr.c, .slice xr.b xr.m xr.d] 81) = w0
 intro h0 hw0
 go_loopg [5, 7, 11] args.length (fun m rr _ q wr => ∃ (k : Nat) (b : Option Addr) (d : Nat) (acc : List B4), k + m = args.length ∧ q = .int .i64 k ∧ rr = .slice b acc.length d ∧ acc.length = k ∧ OwnBx (w.heap.size + 1) wr b d acc ∧ Blk wr w.heap.size 81 #[.int .i64 4, .slice aa args.length ac, .bool xr.neg, .slice xr.a xr.n xr.c, .slice xr.b xr.m xr.d] ∧ Below w.heap.size w wr ∧ (∀ i b, acc[i]? = some b → B4R w b (P i)))
 case atStart => exact ⟨0, none, 0, [], by omega, rfl, rfl, rfl, Own.nil, h0, hw0, fun i b hb => by simp at hb⟩
 case round =>
  clear h0 hw0
  obtain ⟨k, b, d, acc, hkg, rfl, rfl, hlk, ho, h0, hw0, hA⟩ := hrel
  replace hkg := Lib.hid hkg; replace hlk := Lib.hid hlk; replace ho := Lib.hid ho; replace hA := Lib.hid hA
  by_cases hlt : k < args.length
  ·
   have hkn := hn.out
   obtain ⟨j, x, hj, hx, hs, hP⟩ := H.out k (by omega)
   obtain ⟨g, o, bb, rfl, hc, hQ⟩ := boxes_at hB.out hx hs
   obtain ⟨g2, o2, rfl, hcx⟩ := hI.out.2.2 k _ hj
   have e0 := Ext.below hw0
   have u0 : wr.cell? ⟨g2, o2 + k, none⟩ = some (.int .i64 j) := e0 _ _ (by simpa [IntE] using hcx.1)
   have hjl : j < l.length := lt_of_get hx
   obtain ⟨x1, x2, x3, x4⟩ := bb
   have d0 : wr.cell? ⟨g, o + j * 12, none⟩ = some (.bool x1.neg) := e0 _ _ (hc 0 _ rfl)
   have d1 := e0 _ _ (hc 1 _ rfl)
   have d2 := e0 _ _ (hc 2 _ rfl)
   have d3 := e0 _ _ (hc 3 _ rfl)
   have d4 := e0 _ _ (hc 4 _ rfl)
   have d5 := e0 _ _ (hc 5 _ rfl)
   have d6 := e0 _ _ (hc 6 _ rfl)
   have d7 := e0 _ _ (hc 7 _ rfl)
   have d8 := e0 _ _ (hc 8 _ rfl)
   have d9 := e0 _ _ (hc 9 _ rfl)
   have d10 := e0 _ _ (hc 10 _ rfl)
   have d11 := e0 _ _ (hc 11 _ rfl)
   have hA2 : ∀ i b, (acc ++ [⟨x1, x2, x3, x4⟩])[i]? = some b → B4R w b (P i) := fun i b hb => by
    by_cases hik : i < acc.length
    · exact hA.out i b (by rwa [List.getElem?_append_left hik] at hb)
    ·
     have hi2 : i = k := by have := lt_of_get hb; rw [List.length_append] at this; simp at this; have := hlk.out; omega
     subst hi2
     rw [List.getElem?_append_right (by have := hlk.out; omega), hlk.out] at hb
     simp at hb
     subst hb
     rw [hP]; exact hQ
   replace hA2 := Lib.hid hA2
   have hln : (acc ++ [(⟨x1, x2, x3, x4⟩ : B4)]).length ≤ 16777216 := by have := hlk.out; simp; omega
   have hb1 : w.heap.size + 1 ≤ wr.heap.size := h0.lt
   have HN := Lib.hid (⟨Blk.new wr 75 (B4.cs ⟨x1, x2, x3, x4⟩).toArray, ho.out.alloc (.cells (B4.cs ⟨x1, x2, x3, x4⟩).toArray 75)⟩ : _ ∧ _)
   have e0' := h0.cell 0
   clear hx hs hc hcx hj hQ hP hkn e0'
   go_wp2_with (at_builtin; go_must (refine append_box rfl (.tmp 15) (.tmp 20) rfl b d rfl HN.out.2 ⟨x1, x2, x3, x4⟩ wr.heap.size 1 rfl (fun i u hu => (HN.out.1.cell i).trans (by simpa using hu)) (acc ++ [⟨x1, x2, x3, x4⟩]) rfl hln (by simp; omega) ?_; intro b2 d2 w2 ho2 hg2 hx2))
   have h2 := (h0.alloc (.cells (B4.cs ⟨x1, x2, x3, x4⟩).toArray 75)).under HN.out.2 (Nat.lt_succ_self _) hg2
   have hw2 : Below w.heap.size w w2 := below_append (hw0.alloc hw0.size _) hg2 (fun g e => Nat.le_trans (Nat.le_succ _) (HN.out.2.lt e).1)
   go_roundg (gk - 1)
   case rel => exact ⟨k + 1, b2, d2, acc ++ [⟨x1, x2, x3, x4⟩], by have := hkg.out; omega, by go_num, by rw [List.length_append]; rfl, by rw [List.length_append, hlk.out]; rfl, ho2, h2, hw2, hA2.out⟩
   case measure => have := hkg.out; omega
  ·
   have hl8 : acc.length = 4 := by have := hlk.out; have := hkg.out; have := hn.out; omega
   obtain ⟨gp, rfl, hR⟩ := OwnBx.row ho.out (by omega)
   obtain ⟨⟨x0_1, x0_2, x0_3, x0_4⟩, ⟨x1_1, x1_2, x1_3, x1_4⟩, ⟨x2_1, x2_2, x2_3, x2_4⟩, ⟨x3_1, x3_2, x3_3, x3_4⟩, rfl⟩ := len4b hl8
   dsimp only [List.length_cons, List.length_nil, Nat.reduceAdd]
   obtain ⟨q01, q02, q03, q04⟩ := hA.out 0 _ rfl
   have Xx0_1 := Lib.hid (fun W (hW : Below wr.heap.size wr W) => q01.ext (Ext.below (below_then hw0 hW)))
   have Xx0_2 := Lib.hid (fun W (hW : Below wr.heap.size wr W) => q02.ext (Ext.below (below_then hw0 hW)))
   have Xx0_3 := Lib.hid (fun W (hW : Below wr.heap.size wr W) => q03.ext (Ext.below (below_then hw0 hW)))
   have Xx0_4 := Lib.hid (fun W (hW : Below wr.heap.size wr W) => q04.ext (Ext.below (below_then hw0 hW)))
   clear q01 q02 q03 q04
   obtain ⟨q11, q12, q13, q14⟩ := hA.out 1 _ rfl
   have Xx1_1 := Lib.hid (fun W (hW : Below wr.heap.size wr W) => q11.ext (Ext.below (below_then hw0 hW)))
   have Xx1_2 := Lib.hid (fun W (hW : Below wr.heap.size wr W) => q12.ext (Ext.below (below_then hw0 hW)))
   have Xx1_3 := Lib.hid (fun W (hW : Below wr.heap.size wr W) => q13.ext (Ext.below (below_then hw0 hW)))
   have Xx1_4 := Lib.hid (fun W (hW : Below wr.heap.size wr W) => q14.ext (Ext.below (below_then hw0 hW)))
   clear q11 q12 q13 q14
   obtain ⟨q21, q22, q23, q24⟩ := hA.out 2 _ rfl
   have Xx2_1 := Lib.hid (fun W (hW : Below wr.heap.size wr W) => q21.ext (Ext.below (below_then hw0 hW)))
   have Xx2_2 := Lib.hid (fun W (hW : Below wr.heap.size wr W) => q22.ext (Ext.below (below_then hw0 hW)))
   have Xx2_3 := Lib.hid (fun W (hW : Below wr.heap.size wr W) => q23.ext (Ext.below (below_then hw0 hW)))
   have Xx2_4 := Lib.hid (fun W (hW : Below wr.heap.size wr W) => q24.ext (Ext.below (below_then hw0 hW)))
   clear q21 q22 q23 q24
   obtain ⟨q31, q32, q33, q34⟩ := hA.out 3 _ rfl
   have Xx3_1 := Lib.hid (fun W (hW : Below wr.heap.size wr W) => q31.ext (Ext.below (below_then hw0 hW)))
   have Xx3_2 := Lib.hid (fun W (hW : Below wr.heap.size wr W) => q32.ext (Ext.below (below_then hw0 hW)))
   have Xx3_3 := Lib.hid (fun W (hW : Below wr.heap.size wr W) => q33.ext (Ext.below (below_then hw0 hW)))
   have Xx3_4 := Lib.hid (fun W (hW : Below wr.heap.size wr W) => q34.ext (Ext.below (below_then hw0 hW)))
   clear q31 q32 q33 q34
   have d0_0 := held (show wr.cell? ⟨gp, 0, none⟩ = some _ from hR 0 _ rfl 0 _ rfl)
   have d0_1 := held (show wr.cell? ⟨gp, 1, none⟩ = some _ from hR 0 _ rfl 1 _ rfl)
   have d0_2 := held (show wr.cell? ⟨gp, 2, none⟩ = some _ from hR 0 _ rfl 2 _ rfl)
   have d0_3 := held (show wr.cell? ⟨gp, 3, none⟩ = some _ from hR 0 _ rfl 3 _ rfl)
   have d0_4 := held (show wr.cell? ⟨gp, 4, none⟩ = some _ from hR 0 _ rfl 4 _ rfl)
   have d0_5 := held (show wr.cell? ⟨gp, 5, none⟩ = some _ from hR 0 _ rfl 5 _ rfl)
   have d0_6 := held (show wr.cell? ⟨gp, 6, none⟩ = some _ from hR 0 _ rfl 6 _ rfl)
   have d0_7 := held (show wr.cell? ⟨gp, 7, none⟩ = some _ from hR 0 _ rfl 7 _ rfl)
   have d0_8 := held (show wr.cell? ⟨gp, 8, none⟩ = some _ from hR 0 _ rfl 8 _ rfl)
   have d0_9 := held (show wr.cell? ⟨gp, 9, none⟩ = some _ from hR 0 _ rfl 9 _ rfl)
   have d0_10 := held (show wr.cell? ⟨gp, 10, none⟩ = some _ from hR 0 _ rfl 10 _ rfl)
   have d0_11 := held (show wr.cell? ⟨gp, 11, none⟩ = some _ from hR 0 _ rfl 11 _ rfl)
   have d1_0 := held (show wr.cell? ⟨gp, 12, none⟩ = some _ from hR 1 _ rfl 0 _ rfl)
   have d1_1 := held (show wr.cell? ⟨gp, 13, none⟩ = some _ from hR 1 _ rfl 1 _ rfl)
   have d1_2 := held (show wr.cell? ⟨gp, 14, none⟩ = some _ from hR 1 _ rfl 2 _ rfl)
   have d1_3 := held (show wr.cell? ⟨gp, 15, none⟩ = some _ from hR 1 _ rfl 3 _ rfl)
   have d1_4 := held (show wr.cell? ⟨gp, 16, none⟩ = some _ from hR 1 _ rfl 4 _ rfl)
   have d1_5 := held (show wr.cell? ⟨gp, 17, none⟩ = some _ from hR 1 _ rfl 5 _ rfl)
   have d1_6 := held (show wr.cell? ⟨gp, 18, none⟩ = some _ from hR 1 _ rfl 6 _ rfl)
   have d1_7 := held (show wr.cell? ⟨gp, 19, none⟩ = some _ from hR 1 _ rfl 7 _ rfl)
   have d1_8 := held (show wr.cell? ⟨gp, 20, none⟩ = some _ from hR 1 _ rfl 8 _ rfl)
   have d1_9 := held (show wr.cell? ⟨gp, 21, none⟩ = some _ from hR 1 _ rfl 9 _ rfl)
   have d1_10 := held (show wr.cell? ⟨gp, 22, none⟩ = some _ from hR 1 _ rfl 10 _ rfl)
   have d1_11 := held (show wr.cell? ⟨gp, 23, none⟩ = some _ from hR 1 _ rfl 11 _ rfl)
   have d2_0 := held (show wr.cell? ⟨gp, 24, none⟩ = some _ from hR 2 _ rfl 0 _ rfl)
   have d2_1 := held (show wr.cell? ⟨gp, 25, none⟩ = some _ from hR 2 _ rfl 1 _ rfl)
   have d2_2 := held (show wr.cell? ⟨gp, 26, none⟩ = some _ from hR 2 _ rfl 2 _ rfl)
   have d2_3 := held (show wr.cell? ⟨gp, 27, none⟩ = some _ from hR 2 _ rfl 3 _ rfl)
   have d2_4 := held (show wr.cell? ⟨gp, 28, none⟩ = some _ from hR 2 _ rfl 4 _ rfl)
   have d2_5 := held (show wr.cell? ⟨gp, 29, none⟩ = some _ from hR 2 _ rfl 5 _ rfl)
   have d2_6 := held (show wr.cell? ⟨gp, 30, none⟩ = some _ from hR 2 _ rfl 6 _ rfl)
   have d2_7 := held (show wr.cell? ⟨gp, 31, none⟩ = some _ from hR 2 _ rfl 7 _ rfl)
   have d2_8 := held (show wr.cell? ⟨gp, 32, none⟩ = some _ from hR 2 _ rfl 8 _ rfl)
   have d2_9 := held (show wr.cell? ⟨gp, 33, none⟩ = some _ from hR 2 _ rfl 9 _ rfl)
   have d2_10 := held (show wr.cell? ⟨gp, 34, none⟩ = some _ from hR 2 _ rfl 10 _ rfl)
   have d2_11 := held (show wr.cell? ⟨gp, 35, none⟩ = some _ from hR 2 _ rfl 11 _ rfl)
   have d3_0 := held (show wr.cell? ⟨gp, 36, none⟩ = some _ from hR 3 _ rfl 0 _ rfl)
   have d3_1 := held (show wr.cell? ⟨gp, 37, none⟩ = some _ from hR 3 _ rfl 1 _ rfl)
   have d3_2 := held (show wr.cell? ⟨gp, 38, none⟩ = some _ from hR 3 _ rfl 2 _ rfl)
   have d3_3 := held (show wr.cell? ⟨gp, 39, none⟩ = some _ from hR 3 _ rfl 3 _ rfl)
   have d3_4 := held (show wr.cell? ⟨gp, 40, none⟩ = some _ from hR 3 _ rfl 4 _ rfl)
   have d3_5 := held (show wr.cell? ⟨gp, 41, none⟩ = some _ from hR 3 _ rfl 5 _ rfl)
   have d3_6 := held (show wr.cell? ⟨gp, 42, none⟩ = some _ from hR 3 _ rfl 6 _ rfl)
   have d3_7 := held (show wr.cell? ⟨gp, 43, none⟩ = some _ from hR 3 _ rfl 7 _ rfl)
   have d3_8 := held (show wr.cell? ⟨gp, 44, none⟩ = some _ from hR 3 _ rfl 8 _ rfl)
   have d3_9 := held (show wr.cell? ⟨gp, 45, none⟩ = some _ from hR 3 _ rfl 9 _ rfl)
   have d3_10 := held (show wr.cell? ⟨gp, 46, none⟩ = some _ from hR 3 _ rfl 10 _ rfl)
   have d3_11 := held (show wr.cell? ⟨gp, 47, none⟩ = some _ from hR 3 _ rfl 11 _ rfl)
   have HR := Lib.hid hR
   have e0 := h0.cell 0
   clear hkg hlk ho hA hl8 hR H hB hI
   clear hn
   go_wp2
   clear hlt hll hal
   have s0 : Below wr.heap.size wr wr.drew := (Below.refl _ _).drew
   refine wp_region_mix (S := Below wr.heap.size wr) [(0, .q), (1, .q), (2, .q), (3, .q), (4, .q), (5, .q), (8, .q), (9, .q), (10, .q), (11, .q), (12, .q), (13, .q), (6, .l), (7, .l), (14, .t), (15, .t), (16, .t), (17, .t), (18, .p)] (by kernel_rfl) (by kernel_rfl) (by kernel_rfl) (fun d _ _ _ _ h => by cases d <;> exact h) (s0) ?_
   iterate 12 (refine wpMix_q rfl rfl (fun K hK => ?_); apply Exists.intro; refine ⟨fun w' hw' => ?_, ?_⟩; (focus (go_simp; try rfl)); go_simp; refine hK _ _ ?_; clear hK K)
   refine wpMix_l rfl rfl (fun K hK => ?_)
   go_simp
   refine (vectorR_q x0_1 x0_2 x0_3 x0_4 x1_1 x1_2 x1_3 x1_4 (P 0).1 (P 0).2 (P 1).1 (P 1).2 2 _ (Xx0_1.out _ s0) (Xx0_2.out _ s0) (Xx0_3.out _ s0) (Xx0_4.out _ s0) (Xx1_1.out _ s0) (Xx1_2.out _ s0) (Xx1_3.out _ s0) (Xx1_4.out _ s0) (by omega)).mono ?_
   rintro r w1 ⟨z1_1, z1_2, z1_3, z1_4, rfl, J1_1, J1_2, J1_3, J1_4, hb1⟩
   dsimp only
   refine hK.out _ _ (below_then s0 hb1) (fun _ => ?_)
   clear hK K
   have s1 := below_then s0 hb1
   have K1_1 := Lib.hid J1_1
   have K1_2 := Lib.hid J1_2
   have K1_3 := Lib.hid J1_3
   have K1_4 := Lib.hid J1_4
   clear J1_1 J1_2 J1_3 J1_4
   refine wpMix_l rfl rfl (fun K hK => ?_)
   go_simp
   refine (normR_q z1_1 z1_2 z1_3 z1_4 (vecB (P 0) (P 1)).1 (vecB (P 0) (P 1)).2 5 _ (QK.more (K1_1.out.now) (by omega)) (QK.more (K1_2.out.now) (by omega)) (QK.more (K1_3.out.now) (by omega)) (QK.more (K1_4.out.now) (by omega)) (by omega)).mono ?_
   rintro r w2 ⟨z2_1, z2_2, rfl, J2_1, J2_2, hb2⟩
   dsimp only
   refine hK.out _ _ (below_then s1 hb2) (fun _ => ?_)
   clear hK K
   have s2 := below_then s1 hb2
   have K2_1 := Lib.hid J2_1
   have K2_2 := Lib.hid J2_2
   clear J2_1 J2_2
   refine wpMix_t rfl rfl (fun K hK => ?_)
   go_simp
   refine (vectorR_q x2_1 x2_2 x2_3 x2_4 x3_1 x3_2 x3_3 x3_4 (P 2).1 (P 2).2 (P 3).1 (P 3).2 2 _ (Xx2_1.out _ s2) (Xx2_2.out _ s2) (Xx2_3.out _ s2) (Xx2_4.out _ s2) (Xx3_1.out _ s2) (Xx3_2.out _ s2) (Xx3_3.out _ s2) (Xx3_4.out _ s2) (by omega)).mono ?_
   rintro r w3 ⟨z3_1, z3_2, z3_3, z3_4, rfl, J3_1, J3_2, J3_3, J3_4, hb3⟩
   dsimp only
   refine hK.out _ _ ?_
   clear hK K
   have s3 := below_then s2 hb3
   have K3_1 := Lib.hid J3_1
   have K3_2 := Lib.hid J3_2
   have K3_3 := Lib.hid J3_3
   have K3_4 := Lib.hid J3_4
   clear J3_1 J3_2 J3_3 J3_4
   refine wpMix_t rfl rfl (fun K hK => ?_)
   go_simp
   refine (normR_q z3_1 z3_2 z3_3 z3_4 (vecB (P 2) (P 3)).1 (vecB (P 2) (P 3)).2 5 _ (QK.more (K3_1.out.now) (by omega)) (QK.more (K3_2.out.now) (by omega)) (QK.more (K3_3.out.now) (by omega)) (QK.more (K3_4.out.now) (by omega)) (by omega)).mono ?_
   rintro r w4 ⟨z4_1, z4_2, rfl, J4_1, J4_2, hb4⟩
   dsimp only
   refine hK.out _ _ ?_
   clear hK K
   have s4 := below_then s3 hb4
   have K4_1 := Lib.hid J4_1
   have K4_2 := Lib.hid J4_2
   clear J4_1 J4_2
   refine wpMix_t rfl rfl (fun K hK => ?_)
   go_simp
   refine (isubR_i z2_1 z2_2 z4_1 z4_2 (normI (vecB (P 0) (P 1)).1 (vecB (P 0) (P 1)).2) (normI (vecB (P 2) (P 3)).1 (vecB (P 2) (P 3)).2) 23 _ (QK.more (((K2_1.out.call hb3).call hb4).now) (by omega)) (QK.more (((K2_2.out.call hb3).call hb4).now) (by omega)) (QK.more (K4_1.out.now) (by omega)) (QK.more (K4_2.out.now) (by omega)) (by omega)).mono ?_
   rintro r w5 ⟨z5_1, z5_2, rfl, J5_1, J5_2, hb5⟩
   dsimp only
   refine hK.out _ _ ?_
   clear hK K
   have s5 := below_then s4 hb5
   have K5_1 := Lib.hid J5_1
   have K5_2 := Lib.hid J5_2
   clear J5_1 J5_2
   refine wpMix_t rfl rfl (fun K hK => ?_)
   go_simp
   refine hK.out _ _ ?_
   clear hK K
   iterate 1 (refine wpMix_p rfl rfl (fun K hK => ?_); apply Exists.intro; refine ⟨fun w' => ?_, ?_⟩; (focus (go_simp; try rfl)); go_simp; refine hK _ _ ?_; clear hK K)
   refine wpMix_nil ?_
   go_wp2
   go_ret
   exact ⟨[z5_1, z5_2], w5.heap.size, _, rfl, RowQ.m2 (Blk.new _ _ _), AllQ.m2 (QK.more K5_1.out.alloc.now (by omega)) (QK.more K5_2.out.alloc.now (by omega)), below_then hw0 (s5.alloc s5.size _)⟩
set_option maxRecDepth 100000 in
set_option maxHeartbeats 8000000 in
theorem valuesR_k5 (a aa : Option Addr) (c ac : Nat) (l : List Bx) (args : List Int) (P : Nat → Iq × Iq) (xr : QA) (r : Rat) (w : World) (hB : BoxesR w a c l) (hI : IntsR w aa ac args) (H : VArgs l args P 3) (hn : args.length = 3) :
  Calls Tryz.prog 37 #[.agg #[.int .i64 5, .slice aa args.length ac, .bool xr.neg, .slice xr.a xr.n xr.c, .slice xr.b xr.m xr.d], .slice a l.length c] w (RetVs 2 (valsI 5 P r) w) := by
 simp only [valsI, ends, List.cons_append, List.nil_append, if_true, reduceIte, reduceCtorEq, Int.reduceEq, if_false]
 have hll := hB.len
 have hal := hI.len
 replace hB := Lib.hid hB; replace hI := Lib.hid hI; replace H := Lib.hid H; replace hn := Lib.hid hn
 have h0 := Blk.new w 81 #[.int .i64 5, .slice aa args.length ac, .bool xr.neg, .slice xr.a xr.n xr.c, .slice xr.b xr.m xr.d]
 have hw0 : Below w.heap.size w (w.alloc (.cells #[.int .i64 5, .slice aa args.length ac, .bool xr.neg, .slice xr.a xr.n xr.c, .slice xr.b xr.m xr.d] 81)) := by go_grown
 go_enter Tryz.func37, Tryz.ntmps37
 go_wp2
 revert h0 hw0
 generalize w.alloc (.cells #[.int .i64 5, .slice aa args.length ac, .bool xr.neg, .slice xr.a xr.n xr.c, .slice xr.b xr.m xr.d] 81) = w0
 intro h0 hw0
 go_loopg [5, 7, 11] args.length (fun m rr _ q wr => ∃ (k : Nat) (b : Option Addr) (d : Nat) (acc : List B4), k + m = args.length ∧ q = .int .i64 k ∧ rr = .slice b acc.length d ∧ acc.length = k ∧ OwnBx (w.heap.size + 1) wr b d acc ∧ Blk wr w.heap.size 81 #[.int .i64 5, .slice aa args.length ac, .bool xr.neg, .slice xr.a xr.n xr.c, .slice xr.b xr.m xr.d] ∧ Below w.heap.size w wr ∧ (∀ i b, acc[i]? = some b → B4R w b (P i)))
 case atStart => exact ⟨0, none, 0, [], by omega, rfl, rfl, rfl, Own.nil, h0, hw0, fun i b hb => by simp at hb⟩
 case round =>
  clear h0 hw0
  obtain ⟨k, b, d, acc, hkg, rfl, rfl, hlk, ho, h0, hw0, hA⟩ := hrel
  replace hkg := Lib.hid hkg; replace hlk := Lib.hid hlk; replace ho := Lib.hid ho; replace hA := Lib.hid hA
  by_cases hlt : k < args.length
  ·
   have hkn := hn.out
   obtain ⟨j, x, hj, hx, hs, hP⟩ := H.out k (by omega)
   obtain ⟨g, o, bb, rfl, hc, hQ⟩ := boxes_at hB.out hx hs
   obtain ⟨g2, o2, rfl, hcx⟩ := hI.out.2.2 k _ hj
   have e0 := Ext.below hw0
   have u0 : wr.cell? ⟨g2, o2 + k, none⟩ = some (.int .i64 j) := e0 _ _ (by simpa [IntE] using hcx.1)
   have hjl : j < l.length := lt_of_get hx
   obtain ⟨x1, x2, x3, x4⟩ := bb
   have d0 : wr.cell? ⟨g, o + j * 12, none⟩ = some (.bool x1.neg) := e0 _ _ (hc 0 _ rfl)
   have d1 := e0 _ _ (hc 1 _ rfl)
   have d2 := e0 _ _ (hc 2 _ rfl)
   have d3 := e0 _ _ (hc 3 _ rfl)
   have d4 := e0 _ _ (hc 4 _ rfl)
   have d5 := e0 _ _ (hc 5 _ rfl)
   have d6 := e0 _ _ (hc 6 _ rfl)
   have d7 := e0 _ _ (hc 7 _ rfl)
   have d8 := e0 _ _ (hc 8 _ rfl)
   have d9 := e0 _ _ (hc 9 _ rfl)
   have d10 := e0 _ _ (hc 10 _ rfl)
   have d11 := e0 _ _ (hc 11 _ rfl)
   have hA2 : ∀ i b, (acc ++ [⟨x1, x2, x3, x4⟩])[i]? = some b → B4R w b (P i) := fun i b hb => by
    by_cases hik : i < acc.length
    · exact hA.out i b (by rwa [List.getElem?_append_left hik] at hb)
    ·
     have hi2 : i = k := by have := lt_of_get hb; rw [List.length_append] at this; simp at this; have := hlk.out; omega
     subst hi2
     rw [List.getElem?_append_right (by have := hlk.out; omega), hlk.out] at hb
     simp at hb
     subst hb
     rw [hP]; exact hQ
   replace hA2 := Lib.hid hA2
   have hln : (acc ++ [(⟨x1, x2, x3, x4⟩ : B4)]).length ≤ 16777216 := by have := hlk.out; simp; omega
   have hb1 : w.heap.size + 1 ≤ wr.heap.size := h0.lt
   have HN := Lib.hid (⟨Blk.new wr 75 (B4.cs ⟨x1, x2, x3, x4⟩).toArray, ho.out.alloc (.cells (B4.cs ⟨x1, x2, x3, x4⟩).toArray 75)⟩ : _ ∧ _)
   have e0' := h0.cell 0
   clear hx hs hc hcx hj hQ hP hkn e0'
   go_wp2_with (at_builtin; go_must (refine append_box rfl (.tmp 15) (.tmp 20) rfl b d rfl HN.out.2 ⟨x1, x2, x3, x4⟩ wr.heap.size 1 rfl (fun i u hu => (HN.out.1.cell i).trans (by simpa using hu)) (acc ++ [⟨x1, x2, x3, x4⟩]) rfl hln (by simp; omega) ?_; intro b2 d2 w2 ho2 hg2 hx2))
   have h2 := (h0.alloc (.cells (B4.cs ⟨x1, x2, x3, x4⟩).toArray 75)).under HN.out.2 (Nat.lt_succ_self _) hg2
   have hw2 : Below w.heap.size w w2 := below_append (hw0.alloc hw0.size _) hg2 (fun g e => Nat.le_trans (Nat.le_succ _) (HN.out.2.lt e).1)
   go_roundg (gk - 1)
   case rel => exact ⟨k + 1, b2, d2, acc ++ [⟨x1, x2, x3, x4⟩], by have := hkg.out; omega, by go_num, by rw [List.length_append]; rfl, by rw [List.length_append, hlk.out]; rfl, ho2, h2, hw2, hA2.out⟩
   case measure => have := hkg.out; omega
  ·
   have hl8 : acc.length = 3 := by have := hlk.out; have := hkg.out; have := hn.out; omega
   obtain ⟨gp, rfl, hR⟩ := OwnBx.row ho.out (by omega)
   obtain ⟨⟨x0_1, x0_2, x0_3, x0_4⟩, ⟨x1_1, x1_2, x1_3, x1_4⟩, ⟨x2_1, x2_2, x2_3, x2_4⟩, rfl⟩ := len3b hl8
   dsimp only [List.length_cons, List.length_nil, Nat.reduceAdd]
   obtain ⟨q01, q02, q03, q04⟩ := hA.out 0 _ rfl
   have Xx0_1 := Lib.hid (fun W (hW : Below wr.heap.size wr W) => q01.ext (Ext.below (below_then hw0 hW)))
   have Xx0_2 := Lib.hid (fun W (hW : Below wr.heap.size wr W) => q02.ext (Ext.below (below_then hw0 hW)))
   have Xx0_3 := Lib.hid (fun W (hW : Below wr.heap.size wr W) => q03.ext (Ext.below (below_then hw0 hW)))
   have Xx0_4 := Lib.hid (fun W (hW : Below wr.heap.size wr W) => q04.ext (Ext.below (below_then hw0 hW)))
   clear q01 q02 q03 q04
   obtain ⟨q11, q12, q13, q14⟩ := hA.out 1 _ rfl
   have Xx1_1 := Lib.hid (fun W (hW : Below wr.heap.size wr W) => q11.ext (Ext.below (below_then hw0 hW)))
   have Xx1_2 := Lib.hid (fun W (hW : Below wr.heap.size wr W) => q12.ext (Ext.below (below_then hw0 hW)))
   have Xx1_3 := Lib.hid (fun W (hW : Below wr.heap.size wr W) => q13.ext (Ext.below (below_then hw0 hW)))
   have Xx1_4 := Lib.hid (fun W (hW : Below wr.heap.size wr W) => q14.ext (Ext.below (below_then hw0 hW)))
   clear q11 q12 q13 q14
   obtain ⟨q21, q22, q23, q24⟩ := hA.out 2 _ rfl
   have Xx2_1 := Lib.hid (fun W (hW : Below wr.heap.size wr W) => q21.ext (Ext.below (below_then hw0 hW)))
   have Xx2_2 := Lib.hid (fun W (hW : Below wr.heap.size wr W) => q22.ext (Ext.below (below_then hw0 hW)))
   have Xx2_3 := Lib.hid (fun W (hW : Below wr.heap.size wr W) => q23.ext (Ext.below (below_then hw0 hW)))
   have Xx2_4 := Lib.hid (fun W (hW : Below wr.heap.size wr W) => q24.ext (Ext.below (below_then hw0 hW)))
   clear q21 q22 q23 q24
   have d0_0 := held (show wr.cell? ⟨gp, 0, none⟩ = some _ from hR 0 _ rfl 0 _ rfl)
   have d0_1 := held (show wr.cell? ⟨gp, 1, none⟩ = some _ from hR 0 _ rfl 1 _ rfl)
   have d0_2 := held (show wr.cell? ⟨gp, 2, none⟩ = some _ from hR 0 _ rfl 2 _ rfl)
   have d0_3 := held (show wr.cell? ⟨gp, 3, none⟩ = some _ from hR 0 _ rfl 3 _ rfl)
   have d0_4 := held (show wr.cell? ⟨gp, 4, none⟩ = some _ from hR 0 _ rfl 4 _ rfl)
   have d0_5 := held (show wr.cell? ⟨gp, 5, none⟩ = some _ from hR 0 _ rfl 5 _ rfl)
   have d0_6 := held (show wr.cell? ⟨gp, 6, none⟩ = some _ from hR 0 _ rfl 6 _ rfl)
   have d0_7 := held (show wr.cell? ⟨gp, 7, none⟩ = some _ from hR 0 _ rfl 7 _ rfl)
   have d0_8 := held (show wr.cell? ⟨gp, 8, none⟩ = some _ from hR 0 _ rfl 8 _ rfl)
   have d0_9 := held (show wr.cell? ⟨gp, 9, none⟩ = some _ from hR 0 _ rfl 9 _ rfl)
   have d0_10 := held (show wr.cell? ⟨gp, 10, none⟩ = some _ from hR 0 _ rfl 10 _ rfl)
   have d0_11 := held (show wr.cell? ⟨gp, 11, none⟩ = some _ from hR 0 _ rfl 11 _ rfl)
   have d1_0 := held (show wr.cell? ⟨gp, 12, none⟩ = some _ from hR 1 _ rfl 0 _ rfl)
   have d1_1 := held (show wr.cell? ⟨gp, 13, none⟩ = some _ from hR 1 _ rfl 1 _ rfl)
   have d1_2 := held (show wr.cell? ⟨gp, 14, none⟩ = some _ from hR 1 _ rfl 2 _ rfl)
   have d1_3 := held (show wr.cell? ⟨gp, 15, none⟩ = some _ from hR 1 _ rfl 3 _ rfl)
   have d1_4 := held (show wr.cell? ⟨gp, 16, none⟩ = some _ from hR 1 _ rfl 4 _ rfl)
   have d1_5 := held (show wr.cell? ⟨gp, 17, none⟩ = some _ from hR 1 _ rfl 5 _ rfl)
   have d1_6 := held (show wr.cell? ⟨gp, 18, none⟩ = some _ from hR 1 _ rfl 6 _ rfl)
   have d1_7 := held (show wr.cell? ⟨gp, 19, none⟩ = some _ from hR 1 _ rfl 7 _ rfl)
   have d1_8 := held (show wr.cell? ⟨gp, 20, none⟩ = some _ from hR 1 _ rfl 8 _ rfl)
   have d1_9 := held (show wr.cell? ⟨gp, 21, none⟩ = some _ from hR 1 _ rfl 9 _ rfl)
   have d1_10 := held (show wr.cell? ⟨gp, 22, none⟩ = some _ from hR 1 _ rfl 10 _ rfl)
   have d1_11 := held (show wr.cell? ⟨gp, 23, none⟩ = some _ from hR 1 _ rfl 11 _ rfl)
   have d2_0 := held (show wr.cell? ⟨gp, 24, none⟩ = some _ from hR 2 _ rfl 0 _ rfl)
   have d2_1 := held (show wr.cell? ⟨gp, 25, none⟩ = some _ from hR 2 _ rfl 1 _ rfl)
   have d2_2 := held (show wr.cell? ⟨gp, 26, none⟩ = some _ from hR 2 _ rfl 2 _ rfl)
   have d2_3 := held (show wr.cell? ⟨gp, 27, none⟩ = some _ from hR 2 _ rfl 3 _ rfl)
   have d2_4 := held (show wr.cell? ⟨gp, 28, none⟩ = some _ from hR 2 _ rfl 4 _ rfl)
   have d2_5 := held (show wr.cell? ⟨gp, 29, none⟩ = some _ from hR 2 _ rfl 5 _ rfl)
   have d2_6 := held (show wr.cell? ⟨gp, 30, none⟩ = some _ from hR 2 _ rfl 6 _ rfl)
   have d2_7 := held (show wr.cell? ⟨gp, 31, none⟩ = some _ from hR 2 _ rfl 7 _ rfl)
   have d2_8 := held (show wr.cell? ⟨gp, 32, none⟩ = some _ from hR 2 _ rfl 8 _ rfl)
   have d2_9 := held (show wr.cell? ⟨gp, 33, none⟩ = some _ from hR 2 _ rfl 9 _ rfl)
   have d2_10 := held (show wr.cell? ⟨gp, 34, none⟩ = some _ from hR 2 _ rfl 10 _ rfl)
   have d2_11 := held (show wr.cell? ⟨gp, 35, none⟩ = some _ from hR 2 _ rfl 11 _ rfl)
   have HR := Lib.hid hR
   have e0 := h0.cell 0
   clear hkg hlk ho hA hl8 hR H hB hI
   clear hn
   go_wp2
   clear hlt hll hal
   have s0 : Below wr.heap.size wr wr.drew := (Below.refl _ _).drew
   refine wp_region_mix (S := Below wr.heap.size wr) [(0, .q), (1, .q), (2, .q), (3, .q), (4, .q), (5, .q), (6, .q), (7, .q), (8, .q), (9, .q), (10, .q), (11, .q), (13, .q), (14, .q), (15, .q), (16, .q), (17, .q), (18, .q), (19, .q), (20, .q), (21, .q), (22, .q), (23, .q), (24, .q), (12, .l), (25, .t), (26, .t), (27, .p)] (by kernel_rfl) (by kernel_rfl) (by kernel_rfl) (fun d _ _ _ _ h => by cases d <;> exact h) (s0) ?_
   iterate 24 (refine wpMix_q rfl rfl (fun K hK => ?_); apply Exists.intro; refine ⟨fun w' hw' => ?_, ?_⟩; (focus (go_simp; try rfl)); go_simp; refine hK _ _ ?_; clear hK K)
   refine wpMix_l rfl rfl (fun K hK => ?_)
   go_simp
   refine (middleR_q x0_1 x0_2 x1_1 x1_2 x2_1 x2_2 (P 0).1 (P 1).1 (P 2).1 2 _ (QK.more (Xx0_1.out _ s0) (by omega)) (QK.more (Xx0_2.out _ s0) (by omega)) (QK.more (Xx1_1.out _ s0) (by omega)) (QK.more (Xx1_2.out _ s0) (by omega)) (QK.more (Xx2_1.out _ s0) (by omega)) (QK.more (Xx2_2.out _ s0) (by omega)) (by omega)).mono ?_
   rintro r w1 ⟨z1_1, z1_2, rfl, J1_1, J1_2, hb1⟩
   dsimp only
   refine hK.out _ _ (below_then s0 hb1) (fun _ => ?_)
   clear hK K
   have s1 := below_then s0 hb1
   have K1_1 := Lib.hid J1_1
   have K1_2 := Lib.hid J1_2
   clear J1_1 J1_2
   refine wpMix_t rfl rfl (fun K hK => ?_)
   go_simp
   refine (middleR_q x0_3 x0_4 x1_3 x1_4 x2_3 x2_4 (P 0).2 (P 1).2 (P 2).2 2 _ (QK.more (Xx0_3.out _ s1) (by omega)) (QK.more (Xx0_4.out _ s1) (by omega)) (QK.more (Xx1_3.out _ s1) (by omega)) (QK.more (Xx1_4.out _ s1) (by omega)) (QK.more (Xx2_3.out _ s1) (by omega)) (QK.more (Xx2_4.out _ s1) (by omega)) (by omega)).mono ?_
   rintro r w2 ⟨z2_1, z2_2, rfl, J2_1, J2_2, hb2⟩
   dsimp only
   refine hK.out _ _ ?_
   clear hK K
   have s2 := below_then s1 hb2
   have K2_1 := Lib.hid J2_1
   have K2_2 := Lib.hid J2_2
   clear J2_1 J2_2
   refine wpMix_t rfl rfl (fun K hK => ?_)
   go_simp
   refine hK.out _ _ ?_
   clear hK K
   iterate 1 (refine wpMix_p rfl rfl (fun K hK => ?_); apply Exists.intro; refine ⟨fun w' => ?_, ?_⟩; (focus (go_simp; try rfl)); go_simp; refine hK _ _ ?_; clear hK K)
   refine wpMix_nil ?_
   go_wp2
   go_ret
   exact ⟨[z1_1, z1_2, z2_1, z2_2], w2.heap.size, _, rfl, RowQ.m4 (Blk.new _ _ _), AllQ.m4 (QK.more (K1_1.out.call hb2).alloc.now (by omega)) (QK.more (K1_2.out.call hb2).alloc.now (by omega)) (QK.more K2_1.out.alloc.now (by omega)) (QK.more K2_2.out.alloc.now (by omega)), below_then hw0 (s2.alloc s2.size _)⟩
set_option maxRecDepth 100000 in
set_option maxHeartbeats 8000000 in
theorem valuesR_k6 (a aa : Option Addr) (c ac : Nat) (l : List Bx) (args : List Int) (P : Nat → Iq × Iq) (xr : QA) (r : Rat) (w : World) (hB : BoxesR w a c l) (hI : IntsR w aa ac args) (H : VArgs l args P 4) (hn : args.length = 4) :
  Calls Tryz.prog 37 #[.agg #[.int .i64 6, .slice aa args.length ac, .bool xr.neg, .slice xr.a xr.n xr.c, .slice xr.b xr.m xr.d], .slice a l.length c] w (RetVs 1 (valsI 6 P r) w) := by
 simp only [valsI, ends, List.cons_append, List.nil_append, if_true, reduceIte, reduceCtorEq, Int.reduceEq, if_false]
 have hll := hB.len
 have hal := hI.len
 replace hB := Lib.hid hB; replace hI := Lib.hid hI; replace H := Lib.hid H; replace hn := Lib.hid hn
 have h0 := Blk.new w 81 #[.int .i64 6, .slice aa args.length ac, .bool xr.neg, .slice xr.a xr.n xr.c, .slice xr.b xr.m xr.d]
 have hw0 : Below w.heap.size w (w.alloc (.cells #[.int .i64 6, .slice aa args.length ac, .bool xr.neg, .slice xr.a xr.n xr.c, .slice xr.b xr.m xr.d] 81)) := by go_grown
 go_enter Tryz.func37, Tryz.ntmps37
 go_wp2
 revert h0 hw0
 generalize w.alloc (.cells #[.int .i64 6, .slice aa args.length ac, .bool xr.neg, .slice xr.a xr.n xr.c, .slice xr.b xr.m xr.d] 81) = w0
 intro h0 hw0
 go_loopg [5, 7, 11] args.length (fun m rr _ q wr => ∃ (k : Nat) (b : Option Addr) (d : Nat) (acc : List B4), k + m = args.length ∧ q = .int .i64 k ∧ rr = .slice b acc.length d ∧ acc.length = k ∧ OwnBx (w.heap.size + 1) wr b d acc ∧ Blk wr w.heap.size 81 #[.int .i64 6, .slice aa args.length ac, .bool xr.neg, .slice xr.a xr.n xr.c, .slice xr.b xr.m xr.d] ∧ Below w.heap.size w wr ∧ (∀ i b, acc[i]? = some b → B4R w b (P i)))
 case atStart => exact ⟨0, none, 0, [], by omega, rfl, rfl, rfl, Own.nil, h0, hw0, fun i b hb => by simp at hb⟩
 case round =>
  clear h0 hw0
  obtain ⟨k, b, d, acc, hkg, rfl, rfl, hlk, ho, h0, hw0, hA⟩ := hrel
  replace hkg := Lib.hid hkg; replace hlk := Lib.hid hlk; replace ho := Lib.hid ho; replace hA := Lib.hid hA
  by_cases hlt : k < args.length
  ·
   have hkn := hn.out
   obtain ⟨j, x, hj, hx, hs, hP⟩ := H.out k (by omega)
   obtain ⟨g, o, bb, rfl, hc, hQ⟩ := boxes_at hB.out hx hs
   obtain ⟨g2, o2, rfl, hcx⟩ := hI.out.2.2 k _ hj
   have e0 := Ext.below hw0
   have u0 : wr.cell? ⟨g2, o2 + k, none⟩ = some (.int .i64 j) := e0 _ _ (by simpa [IntE] using hcx.1)
   have hjl : j < l.length := lt_of_get hx
   obtain ⟨x1, x2, x3, x4⟩ := bb
   have d0 : wr.cell? ⟨g, o + j * 12, none⟩ = some (.bool x1.neg) := e0 _ _ (hc 0 _ rfl)
   have d1 := e0 _ _ (hc 1 _ rfl)
   have d2 := e0 _ _ (hc 2 _ rfl)
   have d3 := e0 _ _ (hc 3 _ rfl)
   have d4 := e0 _ _ (hc 4 _ rfl)
   have d5 := e0 _ _ (hc 5 _ rfl)
   have d6 := e0 _ _ (hc 6 _ rfl)
   have d7 := e0 _ _ (hc 7 _ rfl)
   have d8 := e0 _ _ (hc 8 _ rfl)
   have d9 := e0 _ _ (hc 9 _ rfl)
   have d10 := e0 _ _ (hc 10 _ rfl)
   have d11 := e0 _ _ (hc 11 _ rfl)
   have hA2 : ∀ i b, (acc ++ [⟨x1, x2, x3, x4⟩])[i]? = some b → B4R w b (P i) := fun i b hb => by
    by_cases hik : i < acc.length
    · exact hA.out i b (by rwa [List.getElem?_append_left hik] at hb)
    ·
     have hi2 : i = k := by have := lt_of_get hb; rw [List.length_append] at this; simp at this; have := hlk.out; omega
     subst hi2
     rw [List.getElem?_append_right (by have := hlk.out; omega), hlk.out] at hb
     simp at hb
     subst hb
     rw [hP]; exact hQ
   replace hA2 := Lib.hid hA2
   have hln : (acc ++ [(⟨x1, x2, x3, x4⟩ : B4)]).length ≤ 16777216 := by have := hlk.out; simp; omega
   have hb1 : w.heap.size + 1 ≤ wr.heap.size := h0.lt
   have HN := Lib.hid (⟨Blk.new wr 75 (B4.cs ⟨x1, x2, x3, x4⟩).toArray, ho.out.alloc (.cells (B4.cs ⟨x1, x2, x3, x4⟩).toArray 75)⟩ : _ ∧ _)
   have e0' := h0.cell 0
   clear hx hs hc hcx hj hQ hP hkn e0'
   go_wp2_with (at_builtin; go_must (refine append_box rfl (.tmp 15) (.tmp 20) rfl b d rfl HN.out.2 ⟨x1, x2, x3, x4⟩ wr.heap.size 1 rfl (fun i u hu => (HN.out.1.cell i).trans (by simpa using hu)) (acc ++ [⟨x1, x2, x3, x4⟩]) rfl hln (by simp; omega) ?_; intro b2 d2 w2 ho2 hg2 hx2))
   have h2 := (h0.alloc (.cells (B4.cs ⟨x1, x2, x3, x4⟩).toArray 75)).under HN.out.2 (Nat.lt_succ_self _) hg2
   have hw2 : Below w.heap.size w w2 := below_append (hw0.alloc hw0.size _) hg2 (fun g e => Nat.le_trans (Nat.le_succ _) (HN.out.2.lt e).1)
   go_roundg (gk - 1)
   case rel => exact ⟨k + 1, b2, d2, acc ++ [⟨x1, x2, x3, x4⟩], by have := hkg.out; omega, by go_num, by rw [List.length_append]; rfl, by rw [List.length_append, hlk.out]; rfl, ho2, h2, hw2, hA2.out⟩
   case measure => have := hkg.out; omega
  ·
   have hl8 : acc.length = 4 := by have := hlk.out; have := hkg.out; have := hn.out; omega
   obtain ⟨gp, rfl, hR⟩ := OwnBx.row ho.out (by omega)
   obtain ⟨⟨x0_1, x0_2, x0_3, x0_4⟩, ⟨x1_1, x1_2, x1_3, x1_4⟩, ⟨x2_1, x2_2, x2_3, x2_4⟩, ⟨x3_1, x3_2, x3_3, x3_4⟩, rfl⟩ := len4b hl8
   dsimp only [List.length_cons, List.length_nil, Nat.reduceAdd]
   obtain ⟨q01, q02, q03, q04⟩ := hA.out 0 _ rfl
   have Xx0_1 := Lib.hid (fun W (hW : Below wr.heap.size wr W) => q01.ext (Ext.below (below_then hw0 hW)))
   have Xx0_2 := Lib.hid (fun W (hW : Below wr.heap.size wr W) => q02.ext (Ext.below (below_then hw0 hW)))
   have Xx0_3 := Lib.hid (fun W (hW : Below wr.heap.size wr W) => q03.ext (Ext.below (below_then hw0 hW)))
   have Xx0_4 := Lib.hid (fun W (hW : Below wr.heap.size wr W) => q04.ext (Ext.below (below_then hw0 hW)))
   clear q01 q02 q03 q04
   obtain ⟨q11, q12, q13, q14⟩ := hA.out 1 _ rfl
   have Xx1_1 := Lib.hid (fun W (hW : Below wr.heap.size wr W) => q11.ext (Ext.below (below_then hw0 hW)))
   have Xx1_2 := Lib.hid (fun W (hW : Below wr.heap.size wr W) => q12.ext (Ext.below (below_then hw0 hW)))
   have Xx1_3 := Lib.hid (fun W (hW : Below wr.heap.size wr W) => q13.ext (Ext.below (below_then hw0 hW)))
   have Xx1_4 := Lib.hid (fun W (hW : Below wr.heap.size wr W) => q14.ext (Ext.below (below_then hw0 hW)))
   clear q11 q12 q13 q14
   obtain ⟨q21, q22, q23, q24⟩ := hA.out 2 _ rfl
   have Xx2_1 := Lib.hid (fun W (hW : Below wr.heap.size wr W) => q21.ext (Ext.below (below_then hw0 hW)))
   have Xx2_2 := Lib.hid (fun W (hW : Below wr.heap.size wr W) => q22.ext (Ext.below (below_then hw0 hW)))
   have Xx2_3 := Lib.hid (fun W (hW : Below wr.heap.size wr W) => q23.ext (Ext.below (below_then hw0 hW)))
   have Xx2_4 := Lib.hid (fun W (hW : Below wr.heap.size wr W) => q24.ext (Ext.below (below_then hw0 hW)))
   clear q21 q22 q23 q24
   obtain ⟨q31, q32, q33, q34⟩ := hA.out 3 _ rfl
   have Xx3_1 := Lib.hid (fun W (hW : Below wr.heap.size wr W) => q31.ext (Ext.below (below_then hw0 hW)))
   have Xx3_2 := Lib.hid (fun W (hW : Below wr.heap.size wr W) => q32.ext (Ext.below (below_then hw0 hW)))
   have Xx3_3 := Lib.hid (fun W (hW : Below wr.heap.size wr W) => q33.ext (Ext.below (below_then hw0 hW)))
   have Xx3_4 := Lib.hid (fun W (hW : Below wr.heap.size wr W) => q34.ext (Ext.below (below_then hw0 hW)))
   clear q31 q32 q33 q34
   have d0_0 := held (show wr.cell? ⟨gp, 0, none⟩ = some _ from hR 0 _ rfl 0 _ rfl)
   have d0_1 := held (show wr.cell? ⟨gp, 1, none⟩ = some _ from hR 0 _ rfl 1 _ rfl)
   have d0_2 := held (show wr.cell? ⟨gp, 2, none⟩ = some _ from hR 0 _ rfl 2 _ rfl)
   have d0_3 := held (show wr.cell? ⟨gp, 3, none⟩ = some _ from hR 0 _ rfl 3 _ rfl)
   have d0_4 := held (show wr.cell? ⟨gp, 4, none⟩ = some _ from hR 0 _ rfl 4 _ rfl)
   have d0_5 := held (show wr.cell? ⟨gp, 5, none⟩ = some _ from hR 0 _ rfl 5 _ rfl)
   have d0_6 := held (show wr.cell? ⟨gp, 6, none⟩ = some _ from hR 0 _ rfl 6 _ rfl)
   have d0_7 := held (show wr.cell? ⟨gp, 7, none⟩ = some _ from hR 0 _ rfl 7 _ rfl)
   have d0_8 := held (show wr.cell? ⟨gp, 8, none⟩ = some _ from hR 0 _ rfl 8 _ rfl)
   have d0_9 := held (show wr.cell? ⟨gp, 9, none⟩ = some _ from hR 0 _ rfl 9 _ rfl)
   have d0_10 := held (show wr.cell? ⟨gp, 10, none⟩ = some _ from hR 0 _ rfl 10 _ rfl)
   have d0_11 := held (show wr.cell? ⟨gp, 11, none⟩ = some _ from hR 0 _ rfl 11 _ rfl)
   have d1_0 := held (show wr.cell? ⟨gp, 12, none⟩ = some _ from hR 1 _ rfl 0 _ rfl)
   have d1_1 := held (show wr.cell? ⟨gp, 13, none⟩ = some _ from hR 1 _ rfl 1 _ rfl)
   have d1_2 := held (show wr.cell? ⟨gp, 14, none⟩ = some _ from hR 1 _ rfl 2 _ rfl)
   have d1_3 := held (show wr.cell? ⟨gp, 15, none⟩ = some _ from hR 1 _ rfl 3 _ rfl)
   have d1_4 := held (show wr.cell? ⟨gp, 16, none⟩ = some _ from hR 1 _ rfl 4 _ rfl)
   have d1_5 := held (show wr.cell? ⟨gp, 17, none⟩ = some _ from hR 1 _ rfl 5 _ rfl)
   have d1_6 := held (show wr.cell? ⟨gp, 18, none⟩ = some _ from hR 1 _ rfl 6 _ rfl)
   have d1_7 := held (show wr.cell? ⟨gp, 19, none⟩ = some _ from hR 1 _ rfl 7 _ rfl)
   have d1_8 := held (show wr.cell? ⟨gp, 20, none⟩ = some _ from hR 1 _ rfl 8 _ rfl)
   have d1_9 := held (show wr.cell? ⟨gp, 21, none⟩ = some _ from hR 1 _ rfl 9 _ rfl)
   have d1_10 := held (show wr.cell? ⟨gp, 22, none⟩ = some _ from hR 1 _ rfl 10 _ rfl)
   have d1_11 := held (show wr.cell? ⟨gp, 23, none⟩ = some _ from hR 1 _ rfl 11 _ rfl)
   have d2_0 := held (show wr.cell? ⟨gp, 24, none⟩ = some _ from hR 2 _ rfl 0 _ rfl)
   have d2_1 := held (show wr.cell? ⟨gp, 25, none⟩ = some _ from hR 2 _ rfl 1 _ rfl)
   have d2_2 := held (show wr.cell? ⟨gp, 26, none⟩ = some _ from hR 2 _ rfl 2 _ rfl)
   have d2_3 := held (show wr.cell? ⟨gp, 27, none⟩ = some _ from hR 2 _ rfl 3 _ rfl)
   have d2_4 := held (show wr.cell? ⟨gp, 28, none⟩ = some _ from hR 2 _ rfl 4 _ rfl)
   have d2_5 := held (show wr.cell? ⟨gp, 29, none⟩ = some _ from hR 2 _ rfl 5 _ rfl)
   have d2_6 := held (show wr.cell? ⟨gp, 30, none⟩ = some _ from hR 2 _ rfl 6 _ rfl)
   have d2_7 := held (show wr.cell? ⟨gp, 31, none⟩ = some _ from hR 2 _ rfl 7 _ rfl)
   have d2_8 := held (show wr.cell? ⟨gp, 32, none⟩ = some _ from hR 2 _ rfl 8 _ rfl)
   have d2_9 := held (show wr.cell? ⟨gp, 33, none⟩ = some _ from hR 2 _ rfl 9 _ rfl)
   have d2_10 := held (show wr.cell? ⟨gp, 34, none⟩ = some _ from hR 2 _ rfl 10 _ rfl)
   have d2_11 := held (show wr.cell? ⟨gp, 35, none⟩ = some _ from hR 2 _ rfl 11 _ rfl)
   have d3_0 := held (show wr.cell? ⟨gp, 36, none⟩ = some _ from hR 3 _ rfl 0 _ rfl)
   have d3_1 := held (show wr.cell? ⟨gp, 37, none⟩ = some _ from hR 3 _ rfl 1 _ rfl)
   have d3_2 := held (show wr.cell? ⟨gp, 38, none⟩ = some _ from hR 3 _ rfl 2 _ rfl)
   have d3_3 := held (show wr.cell? ⟨gp, 39, none⟩ = some _ from hR 3 _ rfl 3 _ rfl)
   have d3_4 := held (show wr.cell? ⟨gp, 40, none⟩ = some _ from hR 3 _ rfl 4 _ rfl)
   have d3_5 := held (show wr.cell? ⟨gp, 41, none⟩ = some _ from hR 3 _ rfl 5 _ rfl)
   have d3_6 := held (show wr.cell? ⟨gp, 42, none⟩ = some _ from hR 3 _ rfl 6 _ rfl)
   have d3_7 := held (show wr.cell? ⟨gp, 43, none⟩ = some _ from hR 3 _ rfl 7 _ rfl)
   have d3_8 := held (show wr.cell? ⟨gp, 44, none⟩ = some _ from hR 3 _ rfl 8 _ rfl)
   have d3_9 := held (show wr.cell? ⟨gp, 45, none⟩ = some _ from hR 3 _ rfl 9 _ rfl)
   have d3_10 := held (show wr.cell? ⟨gp, 46, none⟩ = some _ from hR 3 _ rfl 10 _ rfl)
   have d3_11 := held (show wr.cell? ⟨gp, 47, none⟩ = some _ from hR 3 _ rfl 11 _ rfl)
   have HR := Lib.hid hR
   have e0 := h0.cell 0
   clear hkg hlk ho hA hl8 hR H hB hI
   clear hn
   go_wp2
   clear hlt hll hal
   have s0 : Below wr.heap.size wr wr.drew := (Below.refl _ _).drew
   refine wp_region_mix (S := Below wr.heap.size wr) [(0, .q), (1, .q), (2, .q), (3, .q), (4, .q), (5, .q), (6, .q), (7, .q), (8, .q), (9, .q), (10, .q), (11, .q), (12, .q), (13, .q), (14, .q), (15, .q), (16, .q), (17, .q), (18, .q), (19, .q), (20, .q), (21, .q), (22, .q), (23, .q), (24, .t), (25, .t), (26, .t), (27, .p)] (by kernel_rfl) (by kernel_rfl) (by kernel_rfl) (fun d _ _ _ _ h => by cases d <;> exact h) (s0) ?_
   iterate 24 (refine wpMix_q rfl rfl (fun K hK => ?_); apply Exists.intro; refine ⟨fun w' hw' => ?_, ?_⟩; (focus (go_simp; try rfl)); go_simp; refine hK _ _ ?_; clear hK K)
   refine wpMix_t rfl rfl (fun K hK => ?_)
   go_simp
   refine hK.out _ _ ?_
   clear hK K
   refine world_gen (fun W => Blk W wr.drew.heap.size 75 (List.flatMap B4.cs [⟨x1_1, x1_2, x1_3, x1_4⟩, ⟨x0_1, x0_2, x0_3, x0_4⟩, ⟨x1_1, x1_2, x1_3, x1_4⟩, ⟨x2_1, x2_2, x2_3, x2_4⟩, ⟨x3_1, x3_2, x3_3, x3_4⟩, ⟨x0_1, x0_2, x0_3, x0_4⟩, ⟨x3_1, x3_2, x3_3, x3_4⟩, ⟨x2_1, x2_2, x2_3, x2_4⟩]).toArray ∧ Below wr.drew.heap.size wr.drew W) ⟨Blk.new _ _ _, (Below.refl _ _).alloc (Nat.le_refl _) _⟩ ?_
   rintro w1 ⟨hrow, hb1⟩
   have s1 := below_then s0 hb1
   have hRow := RowB.blk hrow
   clear hrow
   have hAll : AllB w1 [⟨x1_1, x1_2, x1_3, x1_4⟩, ⟨x0_1, x0_2, x0_3, x0_4⟩, ⟨x1_1, x1_2, x1_3, x1_4⟩, ⟨x2_1, x2_2, x2_3, x2_4⟩, ⟨x3_1, x3_2, x3_3, x3_4⟩, ⟨x0_1, x0_2, x0_3, x0_4⟩, ⟨x3_1, x3_2, x3_3, x3_4⟩, ⟨x2_1, x2_2, x2_3, x2_4⟩] (fun i => [P 1, P 0, P 1, P 2, P 3, P 0, P 3, P 2].getD i (P 0)) := fun i b hb => by
    match i, hb with
    | 0, hb => cases hb; exact ⟨Xx1_1.out _ s1, Xx1_2.out _ s1, Xx1_3.out _ s1, Xx1_4.out _ s1⟩
    | 1, hb => cases hb; exact ⟨Xx0_1.out _ s1, Xx0_2.out _ s1, Xx0_3.out _ s1, Xx0_4.out _ s1⟩
    | 2, hb => cases hb; exact ⟨Xx1_1.out _ s1, Xx1_2.out _ s1, Xx1_3.out _ s1, Xx1_4.out _ s1⟩
    | 3, hb => cases hb; exact ⟨Xx2_1.out _ s1, Xx2_2.out _ s1, Xx2_3.out _ s1, Xx2_4.out _ s1⟩
    | 4, hb => cases hb; exact ⟨Xx3_1.out _ s1, Xx3_2.out _ s1, Xx3_3.out _ s1, Xx3_4.out _ s1⟩
    | 5, hb => cases hb; exact ⟨Xx0_1.out _ s1, Xx0_2.out _ s1, Xx0_3.out _ s1, Xx0_4.out _ s1⟩
    | 6, hb => cases hb; exact ⟨Xx3_1.out _ s1, Xx3_2.out _ s1, Xx3_3.out _ s1, Xx3_4.out _ s1⟩
    | 7, hb => cases hb; exact ⟨Xx2_1.out _ s1, Xx2_2.out _ s1, Xx2_3.out _ s1, Xx2_4.out _ s1⟩
   refine wpMix_t rfl rfl (fun K hK => ?_)
   go_simp
   refine (rotated_q ⟨x1_1, x1_2, x1_3, x1_4⟩ ⟨x0_1, x0_2, x0_3, x0_4⟩ ⟨x1_1, x1_2, x1_3, x1_4⟩ ⟨x2_1, x2_2, x2_3, x2_4⟩ ⟨x3_1, x3_2, x3_3, x3_4⟩ ⟨x0_1, x0_2, x0_3, x0_4⟩ ⟨x3_1, x3_2, x3_3, x3_4⟩ ⟨x2_1, x2_2, x2_3, x2_4⟩ (fun i => [P 1, P 0, P 1, P 2, P 3, P 0, P 3, P 2].getD i (P 0)) _ _ _ hRow hAll).mono ?_
   rintro r w2 ⟨z2_1, z2_2, rfl, J2_1, J2_2, hb2⟩
   dsimp only
   refine hK.out _ _ ?_
   clear hK K
   have s2 := below_then s1 hb2
   have K2_1 := Lib.hid J2_1
   have K2_2 := Lib.hid J2_2
   clear J2_1 J2_2
   refine wpMix_t rfl rfl (fun K hK => ?_)
   go_simp
   refine hK.out _ _ ?_
   clear hK K
   iterate 1 (refine wpMix_p rfl rfl (fun K hK => ?_); apply Exists.intro; refine ⟨fun w' => ?_, ?_⟩; (focus (go_simp; try rfl)); go_simp; refine hK _ _ ?_; clear hK K)
   refine wpMix_nil ?_
   go_wp2
   go_ret
   exact ⟨[z2_1, z2_2], w2.heap.size, _, rfl, RowQ.m2 (Blk.new _ _ _), AllQ.m2 (QK.more K2_1.out.alloc.now (by omega)) (QK.more K2_2.out.alloc.now (by omega)), below_then hw0 (s2.alloc s2.size _)⟩
set_option maxRecDepth 100000 in
set_option maxHeartbeats 8000000 in
theorem valuesR_k7 (a aa : Option Addr) (c ac : Nat) (l : List Bx) (args : List Int) (P : Nat → Iq × Iq) (xr : QA) (r : Rat) (w : World) (hB : BoxesR w a c l) (hI : IntsR w aa ac args) (H : VArgs l args P 8) (hn : args.length = 8) :
  Calls Tryz.prog 37 #[.agg #[.int .i64 7, .slice aa args.length ac, .bool xr.neg, .slice xr.a xr.n xr.c, .slice xr.b xr.m xr.d], .slice a l.length c] w (RetVs 1 (valsI 7 P r) w) := by
 simp only [valsI, ends, List.cons_append, List.nil_append, if_true, reduceIte, reduceCtorEq, Int.reduceEq, if_false]
 have hll := hB.len
 have hal := hI.len
 replace hB := Lib.hid hB; replace hI := Lib.hid hI; replace H := Lib.hid H; replace hn := Lib.hid hn
 have h0 := Blk.new w 81 #[.int .i64 7, .slice aa args.length ac, .bool xr.neg, .slice xr.a xr.n xr.c, .slice xr.b xr.m xr.d]
 have hw0 : Below w.heap.size w (w.alloc (.cells #[.int .i64 7, .slice aa args.length ac, .bool xr.neg, .slice xr.a xr.n xr.c, .slice xr.b xr.m xr.d] 81)) := by go_grown
 go_enter Tryz.func37, Tryz.ntmps37
 go_wp2
 revert h0 hw0
 generalize w.alloc (.cells #[.int .i64 7, .slice aa args.length ac, .bool xr.neg, .slice xr.a xr.n xr.c, .slice xr.b xr.m xr.d] 81) = w0
 intro h0 hw0
 go_loopg [5, 7, 11] args.length (fun m rr _ q wr => ∃ (k : Nat) (b : Option Addr) (d : Nat) (acc : List B4), k + m = args.length ∧ q = .int .i64 k ∧ rr = .slice b acc.length d ∧ acc.length = k ∧ OwnBx (w.heap.size + 1) wr b d acc ∧ Blk wr w.heap.size 81 #[.int .i64 7, .slice aa args.length ac, .bool xr.neg, .slice xr.a xr.n xr.c, .slice xr.b xr.m xr.d] ∧ Below w.heap.size w wr ∧ (∀ i b, acc[i]? = some b → B4R w b (P i)))
 case atStart => exact ⟨0, none, 0, [], by omega, rfl, rfl, rfl, Own.nil, h0, hw0, fun i b hb => by simp at hb⟩
 case round =>
  clear h0 hw0
  obtain ⟨k, b, d, acc, hkg, rfl, rfl, hlk, ho, h0, hw0, hA⟩ := hrel
  replace hkg := Lib.hid hkg; replace hlk := Lib.hid hlk; replace ho := Lib.hid ho; replace hA := Lib.hid hA
  by_cases hlt : k < args.length
  ·
   have hkn := hn.out
   obtain ⟨j, x, hj, hx, hs, hP⟩ := H.out k (by omega)
   obtain ⟨g, o, bb, rfl, hc, hQ⟩ := boxes_at hB.out hx hs
   obtain ⟨g2, o2, rfl, hcx⟩ := hI.out.2.2 k _ hj
   have e0 := Ext.below hw0
   have u0 : wr.cell? ⟨g2, o2 + k, none⟩ = some (.int .i64 j) := e0 _ _ (by simpa [IntE] using hcx.1)
   have hjl : j < l.length := lt_of_get hx
   obtain ⟨x1, x2, x3, x4⟩ := bb
   have d0 : wr.cell? ⟨g, o + j * 12, none⟩ = some (.bool x1.neg) := e0 _ _ (hc 0 _ rfl)
   have d1 := e0 _ _ (hc 1 _ rfl)
   have d2 := e0 _ _ (hc 2 _ rfl)
   have d3 := e0 _ _ (hc 3 _ rfl)
   have d4 := e0 _ _ (hc 4 _ rfl)
   have d5 := e0 _ _ (hc 5 _ rfl)
   have d6 := e0 _ _ (hc 6 _ rfl)
   have d7 := e0 _ _ (hc 7 _ rfl)
   have d8 := e0 _ _ (hc 8 _ rfl)
   have d9 := e0 _ _ (hc 9 _ rfl)
   have d10 := e0 _ _ (hc 10 _ rfl)
   have d11 := e0 _ _ (hc 11 _ rfl)
   have hA2 : ∀ i b, (acc ++ [⟨x1, x2, x3, x4⟩])[i]? = some b → B4R w b (P i) := fun i b hb => by
    by_cases hik : i < acc.length
    · exact hA.out i b (by rwa [List.getElem?_append_left hik] at hb)
    ·
     have hi2 : i = k := by have := lt_of_get hb; rw [List.length_append] at this; simp at this; have := hlk.out; omega
     subst hi2
     rw [List.getElem?_append_right (by have := hlk.out; omega), hlk.out] at hb
     simp at hb
     subst hb
     rw [hP]; exact hQ
   replace hA2 := Lib.hid hA2
   have hln : (acc ++ [(⟨x1, x2, x3, x4⟩ : B4)]).length ≤ 16777216 := by have := hlk.out; simp; omega
   have hb1 : w.heap.size + 1 ≤ wr.heap.size := h0.lt
   have HN := Lib.hid (⟨Blk.new wr 75 (B4.cs ⟨x1, x2, x3, x4⟩).toArray, ho.out.alloc (.cells (B4.cs ⟨x1, x2, x3, x4⟩).toArray 75)⟩ : _ ∧ _)
   have e0' := h0.cell 0
   clear hx hs hc hcx hj hQ hP hkn e0'
   go_wp2_with (at_builtin; go_must (refine append_box rfl (.tmp 15) (.tmp 20) rfl b d rfl HN.out.2 ⟨x1, x2, x3, x4⟩ wr.heap.size 1 rfl (fun i u hu => (HN.out.1.cell i).trans (by simpa using hu)) (acc ++ [⟨x1, x2, x3, x4⟩]) rfl hln (by simp; omega) ?_; intro b2 d2 w2 ho2 hg2 hx2))
   have h2 := (h0.alloc (.cells (B4.cs ⟨x1, x2, x3, x4⟩).toArray 75)).under HN.out.2 (Nat.lt_succ_self _) hg2
   have hw2 : Below w.heap.size w w2 := below_append (hw0.alloc hw0.size _) hg2 (fun g e => Nat.le_trans (Nat.le_succ _) (HN.out.2.lt e).1)
   go_roundg (gk - 1)
   case rel => exact ⟨k + 1, b2, d2, acc ++ [⟨x1, x2, x3, x4⟩], by have := hkg.out; omega, by go_num, by rw [List.length_append]; rfl, by rw [List.length_append, hlk.out]; rfl, ho2, h2, hw2, hA2.out⟩
   case measure => have := hkg.out; omega
  ·
   have hl8 : acc.length = 8 := by have := hlk.out; have := hkg.out; have := hn.out; omega
   obtain ⟨gp, rfl, hR⟩ := OwnBx.row ho.out (by omega)
   obtain ⟨⟨x0_1, x0_2, x0_3, x0_4⟩, ⟨x1_1, x1_2, x1_3, x1_4⟩, ⟨x2_1, x2_2, x2_3, x2_4⟩, ⟨x3_1, x3_2, x3_3, x3_4⟩, ⟨x4_1, x4_2, x4_3, x4_4⟩, ⟨x5_1, x5_2, x5_3, x5_4⟩, ⟨x6_1, x6_2, x6_3, x6_4⟩, ⟨x7_1, x7_2, x7_3, x7_4⟩, rfl⟩ := len8b hl8
   dsimp only [List.length_cons, List.length_nil, Nat.reduceAdd]
   obtain ⟨q01, q02, q03, q04⟩ := hA.out 0 _ rfl
   have Xx0_1 := Lib.hid (fun W (hW : Below wr.heap.size wr W) => q01.ext (Ext.below (below_then hw0 hW)))
   have Xx0_2 := Lib.hid (fun W (hW : Below wr.heap.size wr W) => q02.ext (Ext.below (below_then hw0 hW)))
   have Xx0_3 := Lib.hid (fun W (hW : Below wr.heap.size wr W) => q03.ext (Ext.below (below_then hw0 hW)))
   have Xx0_4 := Lib.hid (fun W (hW : Below wr.heap.size wr W) => q04.ext (Ext.below (below_then hw0 hW)))
   clear q01 q02 q03 q04
   obtain ⟨q11, q12, q13, q14⟩ := hA.out 1 _ rfl
   have Xx1_1 := Lib.hid (fun W (hW : Below wr.heap.size wr W) => q11.ext (Ext.below (below_then hw0 hW)))
   have Xx1_2 := Lib.hid (fun W (hW : Below wr.heap.size wr W) => q12.ext (Ext.below (below_then hw0 hW)))
   have Xx1_3 := Lib.hid (fun W (hW : Below wr.heap.size wr W) => q13.ext (Ext.below (below_then hw0 hW)))
   have Xx1_4 := Lib.hid (fun W (hW : Below wr.heap.size wr W) => q14.ext (Ext.below (below_then hw0 hW)))
   clear q11 q12 q13 q14
   obtain ⟨q21, q22, q23, q24⟩ := hA.out 2 _ rfl
   have Xx2_1 := Lib.hid (fun W (hW : Below wr.heap.size wr W) => q21.ext (Ext.below (below_then hw0 hW)))
   have Xx2_2 := Lib.hid (fun W (hW : Below wr.heap.size wr W) => q22.ext (Ext.below (below_then hw0 hW)))
   have Xx2_3 := Lib.hid (fun W (hW : Below wr.heap.size wr W) => q23.ext (Ext.below (below_then hw0 hW)))
   have Xx2_4 := Lib.hid (fun W (hW : Below wr.heap.size wr W) => q24.ext (Ext.below (below_then hw0 hW)))
   clear q21 q22 q23 q24
   obtain ⟨q31, q32, q33, q34⟩ := hA.out 3 _ rfl
   have Xx3_1 := Lib.hid (fun W (hW : Below wr.heap.size wr W) => q31.ext (Ext.below (below_then hw0 hW)))
   have Xx3_2 := Lib.hid (fun W (hW : Below wr.heap.size wr W) => q32.ext (Ext.below (below_then hw0 hW)))
   have Xx3_3 := Lib.hid (fun W (hW : Below wr.heap.size wr W) => q33.ext (Ext.below (below_then hw0 hW)))
   have Xx3_4 := Lib.hid (fun W (hW : Below wr.heap.size wr W) => q34.ext (Ext.below (below_then hw0 hW)))
   clear q31 q32 q33 q34
   obtain ⟨q41, q42, q43, q44⟩ := hA.out 4 _ rfl
   have Xx4_1 := Lib.hid (fun W (hW : Below wr.heap.size wr W) => q41.ext (Ext.below (below_then hw0 hW)))
   have Xx4_2 := Lib.hid (fun W (hW : Below wr.heap.size wr W) => q42.ext (Ext.below (below_then hw0 hW)))
   have Xx4_3 := Lib.hid (fun W (hW : Below wr.heap.size wr W) => q43.ext (Ext.below (below_then hw0 hW)))
   have Xx4_4 := Lib.hid (fun W (hW : Below wr.heap.size wr W) => q44.ext (Ext.below (below_then hw0 hW)))
   clear q41 q42 q43 q44
   obtain ⟨q51, q52, q53, q54⟩ := hA.out 5 _ rfl
   have Xx5_1 := Lib.hid (fun W (hW : Below wr.heap.size wr W) => q51.ext (Ext.below (below_then hw0 hW)))
   have Xx5_2 := Lib.hid (fun W (hW : Below wr.heap.size wr W) => q52.ext (Ext.below (below_then hw0 hW)))
   have Xx5_3 := Lib.hid (fun W (hW : Below wr.heap.size wr W) => q53.ext (Ext.below (below_then hw0 hW)))
   have Xx5_4 := Lib.hid (fun W (hW : Below wr.heap.size wr W) => q54.ext (Ext.below (below_then hw0 hW)))
   clear q51 q52 q53 q54
   obtain ⟨q61, q62, q63, q64⟩ := hA.out 6 _ rfl
   have Xx6_1 := Lib.hid (fun W (hW : Below wr.heap.size wr W) => q61.ext (Ext.below (below_then hw0 hW)))
   have Xx6_2 := Lib.hid (fun W (hW : Below wr.heap.size wr W) => q62.ext (Ext.below (below_then hw0 hW)))
   have Xx6_3 := Lib.hid (fun W (hW : Below wr.heap.size wr W) => q63.ext (Ext.below (below_then hw0 hW)))
   have Xx6_4 := Lib.hid (fun W (hW : Below wr.heap.size wr W) => q64.ext (Ext.below (below_then hw0 hW)))
   clear q61 q62 q63 q64
   obtain ⟨q71, q72, q73, q74⟩ := hA.out 7 _ rfl
   have Xx7_1 := Lib.hid (fun W (hW : Below wr.heap.size wr W) => q71.ext (Ext.below (below_then hw0 hW)))
   have Xx7_2 := Lib.hid (fun W (hW : Below wr.heap.size wr W) => q72.ext (Ext.below (below_then hw0 hW)))
   have Xx7_3 := Lib.hid (fun W (hW : Below wr.heap.size wr W) => q73.ext (Ext.below (below_then hw0 hW)))
   have Xx7_4 := Lib.hid (fun W (hW : Below wr.heap.size wr W) => q74.ext (Ext.below (below_then hw0 hW)))
   clear q71 q72 q73 q74
   have HR := Lib.hid hR
   have e0 := h0.cell 0
   clear hkg hlk ho hA hl8 hR H hB hI
   clear hn
   go_wp2_with fail
   clear hlt hll hal
   have s0 : Below wr.heap.size wr wr := Below.refl _ _
   have hAll : AllB wr [⟨x0_1, x0_2, x0_3, x0_4⟩, ⟨x1_1, x1_2, x1_3, x1_4⟩, ⟨x2_1, x2_2, x2_3, x2_4⟩, ⟨x3_1, x3_2, x3_3, x3_4⟩, ⟨x4_1, x4_2, x4_3, x4_4⟩, ⟨x5_1, x5_2, x5_3, x5_4⟩, ⟨x6_1, x6_2, x6_3, x6_4⟩, ⟨x7_1, x7_2, x7_3, x7_4⟩] P := fun i b hb => by
    match i, hb with
    | 0, hb => cases hb; exact ⟨Xx0_1.out _ s0, Xx0_2.out _ s0, Xx0_3.out _ s0, Xx0_4.out _ s0⟩
    | 1, hb => cases hb; exact ⟨Xx1_1.out _ s0, Xx1_2.out _ s0, Xx1_3.out _ s0, Xx1_4.out _ s0⟩
    | 2, hb => cases hb; exact ⟨Xx2_1.out _ s0, Xx2_2.out _ s0, Xx2_3.out _ s0, Xx2_4.out _ s0⟩
    | 3, hb => cases hb; exact ⟨Xx3_1.out _ s0, Xx3_2.out _ s0, Xx3_3.out _ s0, Xx3_4.out _ s0⟩
    | 4, hb => cases hb; exact ⟨Xx4_1.out _ s0, Xx4_2.out _ s0, Xx4_3.out _ s0, Xx4_4.out _ s0⟩
    | 5, hb => cases hb; exact ⟨Xx5_1.out _ s0, Xx5_2.out _ s0, Xx5_3.out _ s0, Xx5_4.out _ s0⟩
    | 6, hb => cases hb; exact ⟨Xx6_1.out _ s0, Xx6_2.out _ s0, Xx6_3.out _ s0, Xx6_4.out _ s0⟩
    | 7, hb => cases hb; exact ⟨Xx7_1.out _ s0, Xx7_2.out _ s0, Xx7_3.out _ s0, Xx7_4.out _ s0⟩
   refine (rotated_q ⟨x0_1, x0_2, x0_3, x0_4⟩ ⟨x1_1, x1_2, x1_3, x1_4⟩ ⟨x2_1, x2_2, x2_3, x2_4⟩ ⟨x3_1, x3_2, x3_3, x3_4⟩ ⟨x4_1, x4_2, x4_3, x4_4⟩ ⟨x5_1, x5_2, x5_3, x5_4⟩ ⟨x6_1, x6_2, x6_3, x6_4⟩ ⟨x7_1, x7_2, x7_3, x7_4⟩ P gp _ _ HR.out hAll).mono ?_
   rintro r w1 ⟨z1_1, z1_2, rfl, J1_1, J1_2, hb1⟩
   have s1 := below_then s0 hb1
   have K1_1 := Lib.hid J1_1
   have K1_2 := Lib.hid J1_2
   clear J1_1 J1_2
   go_wp2
   go_ret
   exact ⟨[z1_1, z1_2], w1.heap.size, _, rfl, RowQ.m2 (Blk.new _ _ _), AllQ.m2 (QK.more K1_1.out.alloc.now (by omega)) (QK.more K1_2.out.alloc.now (by omega)), below_then hw0 (s1.alloc s1.size _)⟩
set_option maxRecDepth 100000 in
set_option maxHeartbeats 8000000 in
theorem valuesR_k8 (a aa : Option Addr) (c ac : Nat) (l : List Bx) (args : List Int) (P : Nat → Iq × Iq) (xr : QA) (r : Rat) (w : World) (hB : BoxesR w a c l) (hI : IntsR w aa ac args) (H : VArgs l args P 2) (hn : args.length = 2) :
  Calls Tryz.prog 37 #[.agg #[.int .i64 8, .slice aa args.length ac, .bool xr.neg, .slice xr.a xr.n xr.c, .slice xr.b xr.m xr.d], .slice a l.length c] w (RetVs 2 (valsI 8 P r) w) := by
 simp only [valsI, ends, List.cons_append, List.nil_append, if_true, reduceIte, reduceCtorEq, Int.reduceEq, if_false]
 have hll := hB.len
 have hal := hI.len
 replace hB := Lib.hid hB; replace hI := Lib.hid hI; replace H := Lib.hid H; replace hn := Lib.hid hn
 have h0 := Blk.new w 81 #[.int .i64 8, .slice aa args.length ac, .bool xr.neg, .slice xr.a xr.n xr.c, .slice xr.b xr.m xr.d]
 have hw0 : Below w.heap.size w (w.alloc (.cells #[.int .i64 8, .slice aa args.length ac, .bool xr.neg, .slice xr.a xr.n xr.c, .slice xr.b xr.m xr.d] 81)) := by go_grown
 go_enter Tryz.func37, Tryz.ntmps37
 go_wp2
 revert h0 hw0
 generalize w.alloc (.cells #[.int .i64 8, .slice aa args.length ac, .bool xr.neg, .slice xr.a xr.n xr.c, .slice xr.b xr.m xr.d] 81) = w0
 intro h0 hw0
 go_loopg [5, 7, 11] args.length (fun m rr _ q wr => ∃ (k : Nat) (b : Option Addr) (d : Nat) (acc : List B4), k + m = args.length ∧ q = .int .i64 k ∧ rr = .slice b acc.length d ∧ acc.length = k ∧ OwnBx (w.heap.size + 1) wr b d acc ∧ Blk wr w.heap.size 81 #[.int .i64 8, .slice aa args.length ac, .bool xr.neg, .slice xr.a xr.n xr.c, .slice xr.b xr.m xr.d] ∧ Below w.heap.size w wr ∧ (∀ i b, acc[i]? = some b → B4R w b (P i)))
 case atStart => exact ⟨0, none, 0, [], by omega, rfl, rfl, rfl, Own.nil, h0, hw0, fun i b hb => by simp at hb⟩
 case round =>
  clear h0 hw0
  obtain ⟨k, b, d, acc, hkg, rfl, rfl, hlk, ho, h0, hw0, hA⟩ := hrel
  replace hkg := Lib.hid hkg; replace hlk := Lib.hid hlk; replace ho := Lib.hid ho; replace hA := Lib.hid hA
  by_cases hlt : k < args.length
  ·
   have hkn := hn.out
   obtain ⟨j, x, hj, hx, hs, hP⟩ := H.out k (by omega)
   obtain ⟨g, o, bb, rfl, hc, hQ⟩ := boxes_at hB.out hx hs
   obtain ⟨g2, o2, rfl, hcx⟩ := hI.out.2.2 k _ hj
   have e0 := Ext.below hw0
   have u0 : wr.cell? ⟨g2, o2 + k, none⟩ = some (.int .i64 j) := e0 _ _ (by simpa [IntE] using hcx.1)
   have hjl : j < l.length := lt_of_get hx
   obtain ⟨x1, x2, x3, x4⟩ := bb
   have d0 : wr.cell? ⟨g, o + j * 12, none⟩ = some (.bool x1.neg) := e0 _ _ (hc 0 _ rfl)
   have d1 := e0 _ _ (hc 1 _ rfl)
   have d2 := e0 _ _ (hc 2 _ rfl)
   have d3 := e0 _ _ (hc 3 _ rfl)
   have d4 := e0 _ _ (hc 4 _ rfl)
   have d5 := e0 _ _ (hc 5 _ rfl)
   have d6 := e0 _ _ (hc 6 _ rfl)
   have d7 := e0 _ _ (hc 7 _ rfl)
   have d8 := e0 _ _ (hc 8 _ rfl)
   have d9 := e0 _ _ (hc 9 _ rfl)
   have d10 := e0 _ _ (hc 10 _ rfl)
   have d11 := e0 _ _ (hc 11 _ rfl)
   have hA2 : ∀ i b, (acc ++ [⟨x1, x2, x3, x4⟩])[i]? = some b → B4R w b (P i) := fun i b hb => by
    by_cases hik : i < acc.length
    · exact hA.out i b (by rwa [List.getElem?_append_left hik] at hb)
    ·
     have hi2 : i = k := by have := lt_of_get hb; rw [List.length_append] at this; simp at this; have := hlk.out; omega
     subst hi2
     rw [List.getElem?_append_right (by have := hlk.out; omega), hlk.out] at hb
     simp at hb
     subst hb
     rw [hP]; exact hQ
   replace hA2 := Lib.hid hA2
   have hln : (acc ++ [(⟨x1, x2, x3, x4⟩ : B4)]).length ≤ 16777216 := by have := hlk.out; simp; omega
   have hb1 : w.heap.size + 1 ≤ wr.heap.size := h0.lt
   have HN := Lib.hid (⟨Blk.new wr 75 (B4.cs ⟨x1, x2, x3, x4⟩).toArray, ho.out.alloc (.cells (B4.cs ⟨x1, x2, x3, x4⟩).toArray 75)⟩ : _ ∧ _)
   have e0' := h0.cell 0
   clear hx hs hc hcx hj hQ hP hkn e0'
   go_wp2_with (at_builtin; go_must (refine append_box rfl (.tmp 15) (.tmp 20) rfl b d rfl HN.out.2 ⟨x1, x2, x3, x4⟩ wr.heap.size 1 rfl (fun i u hu => (HN.out.1.cell i).trans (by simpa using hu)) (acc ++ [⟨x1, x2, x3, x4⟩]) rfl hln (by simp; omega) ?_; intro b2 d2 w2 ho2 hg2 hx2))
   have h2 := (h0.alloc (.cells (B4.cs ⟨x1, x2, x3, x4⟩).toArray 75)).under HN.out.2 (Nat.lt_succ_self _) hg2
   have hw2 : Below w.heap.size w w2 := below_append (hw0.alloc hw0.size _) hg2 (fun g e => Nat.le_trans (Nat.le_succ _) (HN.out.2.lt e).1)
   go_roundg (gk - 1)
   case rel => exact ⟨k + 1, b2, d2, acc ++ [⟨x1, x2, x3, x4⟩], by have := hkg.out; omega, by go_num, by rw [List.length_append]; rfl, by rw [List.length_append, hlk.out]; rfl, ho2, h2, hw2, hA2.out⟩
   case measure => have := hkg.out; omega
  ·
   have hl8 : acc.length = 2 := by have := hlk.out; have := hkg.out; have := hn.out; omega
   obtain ⟨gp, rfl, hR⟩ := OwnBx.row ho.out (by omega)
   obtain ⟨⟨x0_1, x0_2, x0_3, x0_4⟩, ⟨x1_1, x1_2, x1_3, x1_4⟩, rfl⟩ := len2b hl8
   dsimp only [List.length_cons, List.length_nil, Nat.reduceAdd]
   obtain ⟨q01, q02, q03, q04⟩ := hA.out 0 _ rfl
   have Xx0_1 := Lib.hid (fun W (hW : Below wr.heap.size wr W) => q01.ext (Ext.below (below_then hw0 hW)))
   have Xx0_2 := Lib.hid (fun W (hW : Below wr.heap.size wr W) => q02.ext (Ext.below (below_then hw0 hW)))
   have Xx0_3 := Lib.hid (fun W (hW : Below wr.heap.size wr W) => q03.ext (Ext.below (below_then hw0 hW)))
   have Xx0_4 := Lib.hid (fun W (hW : Below wr.heap.size wr W) => q04.ext (Ext.below (below_then hw0 hW)))
   clear q01 q02 q03 q04
   obtain ⟨q11, q12, q13, q14⟩ := hA.out 1 _ rfl
   have Xx1_1 := Lib.hid (fun W (hW : Below wr.heap.size wr W) => q11.ext (Ext.below (below_then hw0 hW)))
   have Xx1_2 := Lib.hid (fun W (hW : Below wr.heap.size wr W) => q12.ext (Ext.below (below_then hw0 hW)))
   have Xx1_3 := Lib.hid (fun W (hW : Below wr.heap.size wr W) => q13.ext (Ext.below (below_then hw0 hW)))
   have Xx1_4 := Lib.hid (fun W (hW : Below wr.heap.size wr W) => q14.ext (Ext.below (below_then hw0 hW)))
   clear q11 q12 q13 q14
   have d0_0 := held (show wr.cell? ⟨gp, 0, none⟩ = some _ from hR 0 _ rfl 0 _ rfl)
   have d0_1 := held (show wr.cell? ⟨gp, 1, none⟩ = some _ from hR 0 _ rfl 1 _ rfl)
   have d0_2 := held (show wr.cell? ⟨gp, 2, none⟩ = some _ from hR 0 _ rfl 2 _ rfl)
   have d0_3 := held (show wr.cell? ⟨gp, 3, none⟩ = some _ from hR 0 _ rfl 3 _ rfl)
   have d0_4 := held (show wr.cell? ⟨gp, 4, none⟩ = some _ from hR 0 _ rfl 4 _ rfl)
   have d0_5 := held (show wr.cell? ⟨gp, 5, none⟩ = some _ from hR 0 _ rfl 5 _ rfl)
   have d0_6 := held (show wr.cell? ⟨gp, 6, none⟩ = some _ from hR 0 _ rfl 6 _ rfl)
   have d0_7 := held (show wr.cell? ⟨gp, 7, none⟩ = some _ from hR 0 _ rfl 7 _ rfl)
   have d0_8 := held (show wr.cell? ⟨gp, 8, none⟩ = some _ from hR 0 _ rfl 8 _ rfl)
   have d0_9 := held (show wr.cell? ⟨gp, 9, none⟩ = some _ from hR 0 _ rfl 9 _ rfl)
   have d0_10 := held (show wr.cell? ⟨gp, 10, none⟩ = some _ from hR 0 _ rfl 10 _ rfl)
   have d0_11 := held (show wr.cell? ⟨gp, 11, none⟩ = some _ from hR 0 _ rfl 11 _ rfl)
   have d1_0 := held (show wr.cell? ⟨gp, 12, none⟩ = some _ from hR 1 _ rfl 0 _ rfl)
   have d1_1 := held (show wr.cell? ⟨gp, 13, none⟩ = some _ from hR 1 _ rfl 1 _ rfl)
   have d1_2 := held (show wr.cell? ⟨gp, 14, none⟩ = some _ from hR 1 _ rfl 2 _ rfl)
   have d1_3 := held (show wr.cell? ⟨gp, 15, none⟩ = some _ from hR 1 _ rfl 3 _ rfl)
   have d1_4 := held (show wr.cell? ⟨gp, 16, none⟩ = some _ from hR 1 _ rfl 4 _ rfl)
   have d1_5 := held (show wr.cell? ⟨gp, 17, none⟩ = some _ from hR 1 _ rfl 5 _ rfl)
   have d1_6 := held (show wr.cell? ⟨gp, 18, none⟩ = some _ from hR 1 _ rfl 6 _ rfl)
   have d1_7 := held (show wr.cell? ⟨gp, 19, none⟩ = some _ from hR 1 _ rfl 7 _ rfl)
   have d1_8 := held (show wr.cell? ⟨gp, 20, none⟩ = some _ from hR 1 _ rfl 8 _ rfl)
   have d1_9 := held (show wr.cell? ⟨gp, 21, none⟩ = some _ from hR 1 _ rfl 9 _ rfl)
   have d1_10 := held (show wr.cell? ⟨gp, 22, none⟩ = some _ from hR 1 _ rfl 10 _ rfl)
   have d1_11 := held (show wr.cell? ⟨gp, 23, none⟩ = some _ from hR 1 _ rfl 11 _ rfl)
   have HR := Lib.hid hR
   have e0 := h0.cell 0
   clear hkg hlk ho hA hl8 hR H hB hI
   clear hn
   go_wp2
   clear hlt hll hal
   have s0 : Below wr.heap.size wr wr.drew := (Below.refl _ _).drew
   refine wp_region_mix (S := Below wr.heap.size wr) [(0, .q), (1, .q), (2, .q), (3, .q), (4, .q), (5, .q), (6, .q), (7, .q), (9, .q), (10, .q), (11, .q), (12, .q), (13, .q), (14, .q), (15, .q), (16, .q), (8, .l), (17, .t), (18, .t), (19, .p)] (by kernel_rfl) (by kernel_rfl) (by kernel_rfl) (fun d _ _ _ _ h => by cases d <;> exact h) (s0) ?_
   iterate 16 (refine wpMix_q rfl rfl (fun K hK => ?_); apply Exists.intro; refine ⟨fun w' hw' => ?_, ?_⟩; (focus (go_simp; try rfl)); go_simp; refine hK _ _ ?_; clear hK K)
   refine wpMix_l rfl rfl (fun K hK => ?_)
   go_simp
   refine (isubR_i x0_1 x0_2 x1_1 x1_2 (P 0).1 (P 1).1 2 _ (QK.more (Xx0_1.out _ s0) (by omega)) (QK.more (Xx0_2.out _ s0) (by omega)) (QK.more (Xx1_1.out _ s0) (by omega)) (QK.more (Xx1_2.out _ s0) (by omega)) (by omega)).mono ?_
   rintro r w1 ⟨z1_1, z1_2, rfl, J1_1, J1_2, hb1⟩
   dsimp only
   refine hK.out _ _ (below_then s0 hb1) (fun _ => ?_)
   clear hK K
   have s1 := below_then s0 hb1
   have K1_1 := Lib.hid J1_1
   have K1_2 := Lib.hid J1_2
   clear J1_1 J1_2
   refine wpMix_t rfl rfl (fun K hK => ?_)
   go_simp
   refine (isubR_i x0_3 x0_4 x1_3 x1_4 (P 0).2 (P 1).2 2 _ (QK.more (Xx0_3.out _ s1) (by omega)) (QK.more (Xx0_4.out _ s1) (by omega)) (QK.more (Xx1_3.out _ s1) (by omega)) (QK.more (Xx1_4.out _ s1) (by omega)) (by omega)).mono ?_
   rintro r w2 ⟨z2_1, z2_2, rfl, J2_1, J2_2, hb2⟩
   dsimp only
   refine hK.out _ _ ?_
   clear hK K
   have s2 := below_then s1 hb2
   have K2_1 := Lib.hid J2_1
   have K2_2 := Lib.hid J2_2
   clear J2_1 J2_2
   refine wpMix_t rfl rfl (fun K hK => ?_)
   go_simp
   refine hK.out _ _ ?_
   clear hK K
   iterate 1 (refine wpMix_p rfl rfl (fun K hK => ?_); apply Exists.intro; refine ⟨fun w' => ?_, ?_⟩; (focus (go_simp; try rfl)); go_simp; refine hK _ _ ?_; clear hK K)
   refine wpMix_nil ?_
   go_wp2
   go_ret
   exact ⟨[z1_1, z1_2, z2_1, z2_2], w2.heap.size, _, rfl, RowQ.m4 (Blk.new _ _ _), AllQ.m4 (QK.more (K1_1.out.call hb2).alloc.now (by omega)) (QK.more (K1_2.out.call hb2).alloc.now (by omega)) (QK.more K2_1.out.alloc.now (by omega)) (QK.more K2_2.out.alloc.now (by omega)), below_then hw0 (s2.alloc s2.size _)⟩
set_option maxRecDepth 100000 in
set_option maxHeartbeats 8000000 in
theorem valuesR_k9 (a aa : Option Addr) (c ac : Nat) (l : List Bx) (args : List Int) (P : Nat → Iq × Iq) (xr : QA) (r : Rat) (w : World) (hB : BoxesR w a c l) (hI : IntsR w aa ac args) (H : VArgs l args P 4) (hn : args.length = 4) (hr : QK 2 w xr r) :
  Calls Tryz.prog 37 #[.agg #[.int .i64 9, .slice aa args.length ac, .bool xr.neg, .slice xr.a xr.n xr.c, .slice xr.b xr.m xr.d], .slice a l.length c] w (RetVs 1 (valsI 9 P r) w) := by
 simp only [valsI, ends, List.cons_append, List.nil_append, if_true, reduceIte, reduceCtorEq, Int.reduceEq, if_false]
 replace hr := Lib.hid hr
 have hll := hB.len
 have hal := hI.len
 replace hB := Lib.hid hB; replace hI := Lib.hid hI; replace H := Lib.hid H; replace hn := Lib.hid hn
 have h0 := Blk.new w 81 #[.int .i64 9, .slice aa args.length ac, .bool xr.neg, .slice xr.a xr.n xr.c, .slice xr.b xr.m xr.d]
 have hw0 : Below w.heap.size w (w.alloc (.cells #[.int .i64 9, .slice aa args.length ac, .bool xr.neg, .slice xr.a xr.n xr.c, .slice xr.b xr.m xr.d] 81)) := by go_grown
 go_enter Tryz.func37, Tryz.ntmps37
 go_wp2
 revert h0 hw0
 generalize w.alloc (.cells #[.int .i64 9, .slice aa args.length ac, .bool xr.neg, .slice xr.a xr.n xr.c, .slice xr.b xr.m xr.d] 81) = w0
 intro h0 hw0
 go_loopg [5, 7, 11] args.length (fun m rr _ q wr => ∃ (k : Nat) (b : Option Addr) (d : Nat) (acc : List B4), k + m = args.length ∧ q = .int .i64 k ∧ rr = .slice b acc.length d ∧ acc.length = k ∧ OwnBx (w.heap.size + 1) wr b d acc ∧ Blk wr w.heap.size 81 #[.int .i64 9, .slice aa args.length ac, .bool xr.neg, .slice xr.a xr.n xr.c, .slice xr.b xr.m xr.d] ∧ Below w.heap.size w wr ∧ (∀ i b, acc[i]? = some b → B4R w b (P i)))
 case atStart => exact ⟨0, none, 0, [], by omega, rfl, rfl, rfl, Own.nil, h0, hw0, fun i b hb => by simp at hb⟩
 case round =>
  clear h0 hw0
  obtain ⟨k, b, d, acc, hkg, rfl, rfl, hlk, ho, h0, hw0, hA⟩ := hrel
  replace hkg := Lib.hid hkg; replace hlk := Lib.hid hlk; replace ho := Lib.hid ho; replace hA := Lib.hid hA
  by_cases hlt : k < args.length
  ·
   have hkn := hn.out
   obtain ⟨j, x, hj, hx, hs, hP⟩ := H.out k (by omega)
   obtain ⟨g, o, bb, rfl, hc, hQ⟩ := boxes_at hB.out hx hs
   obtain ⟨g2, o2, rfl, hcx⟩ := hI.out.2.2 k _ hj
   have e0 := Ext.below hw0
   have u0 : wr.cell? ⟨g2, o2 + k, none⟩ = some (.int .i64 j) := e0 _ _ (by simpa [IntE] using hcx.1)
   have hjl : j < l.length := lt_of_get hx
   obtain ⟨x1, x2, x3, x4⟩ := bb
   have d0 : wr.cell? ⟨g, o + j * 12, none⟩ = some (.bool x1.neg) := e0 _ _ (hc 0 _ rfl)
   have d1 := e0 _ _ (hc 1 _ rfl)
   have d2 := e0 _ _ (hc 2 _ rfl)
   have d3 := e0 _ _ (hc 3 _ rfl)
   have d4 := e0 _ _ (hc 4 _ rfl)
   have d5 := e0 _ _ (hc 5 _ rfl)
   have d6 := e0 _ _ (hc 6 _ rfl)
   have d7 := e0 _ _ (hc 7 _ rfl)
   have d8 := e0 _ _ (hc 8 _ rfl)
   have d9 := e0 _ _ (hc 9 _ rfl)
   have d10 := e0 _ _ (hc 10 _ rfl)
   have d11 := e0 _ _ (hc 11 _ rfl)
   have hA2 : ∀ i b, (acc ++ [⟨x1, x2, x3, x4⟩])[i]? = some b → B4R w b (P i) := fun i b hb => by
    by_cases hik : i < acc.length
    · exact hA.out i b (by rwa [List.getElem?_append_left hik] at hb)
    ·
     have hi2 : i = k := by have := lt_of_get hb; rw [List.length_append] at this; simp at this; have := hlk.out; omega
     subst hi2
     rw [List.getElem?_append_right (by have := hlk.out; omega), hlk.out] at hb
     simp at hb
     subst hb
     rw [hP]; exact hQ
   replace hA2 := Lib.hid hA2
   have hln : (acc ++ [(⟨x1, x2, x3, x4⟩ : B4)]).length ≤ 16777216 := by have := hlk.out; simp; omega
   have hb1 : w.heap.size + 1 ≤ wr.heap.size := h0.lt
   have HN := Lib.hid (⟨Blk.new wr 75 (B4.cs ⟨x1, x2, x3, x4⟩).toArray, ho.out.alloc (.cells (B4.cs ⟨x1, x2, x3, x4⟩).toArray 75)⟩ : _ ∧ _)
   have e0' := h0.cell 0
   clear hx hs hc hcx hj hQ hP hkn e0'
   go_wp2_with (at_builtin; go_must (refine append_box rfl (.tmp 15) (.tmp 20) rfl b d rfl HN.out.2 ⟨x1, x2, x3, x4⟩ wr.heap.size 1 rfl (fun i u hu => (HN.out.1.cell i).trans (by simpa using hu)) (acc ++ [⟨x1, x2, x3, x4⟩]) rfl hln (by simp; omega) ?_; intro b2 d2 w2 ho2 hg2 hx2))
   have h2 := (h0.alloc (.cells (B4.cs ⟨x1, x2, x3, x4⟩).toArray 75)).under HN.out.2 (Nat.lt_succ_self _) hg2
   have hw2 : Below w.heap.size w w2 := below_append (hw0.alloc hw0.size _) hg2 (fun g e => Nat.le_trans (Nat.le_succ _) (HN.out.2.lt e).1)
   go_roundg (gk - 1)
   case rel => exact ⟨k + 1, b2, d2, acc ++ [⟨x1, x2, x3, x4⟩], by have := hkg.out; omega, by go_num, by rw [List.length_append]; rfl, by rw [List.length_append, hlk.out]; rfl, ho2, h2, hw2, hA2.out⟩
   case measure => have := hkg.out; omega
  ·
   have hl8 : acc.length = 4 := by have := hlk.out; have := hkg.out; have := hn.out; omega
   obtain ⟨gp, rfl, hR⟩ := OwnBx.row ho.out (by omega)
   obtain ⟨⟨x0_1, x0_2, x0_3, x0_4⟩, ⟨x1_1, x1_2, x1_3, x1_4⟩, ⟨x2_1, x2_2, x2_3, x2_4⟩, ⟨x3_1, x3_2, x3_3, x3_4⟩, rfl⟩ := len4b hl8
   dsimp only [List.length_cons, List.length_nil, Nat.reduceAdd]
   obtain ⟨q01, q02, q03, q04⟩ := hA.out 0 _ rfl
   have Xx0_1 := Lib.hid (fun W (hW : Below wr.heap.size wr W) => q01.ext (Ext.below (below_then hw0 hW)))
   have Xx0_2 := Lib.hid (fun W (hW : Below wr.heap.size wr W) => q02.ext (Ext.below (below_then hw0 hW)))
   have Xx0_3 := Lib.hid (fun W (hW : Below wr.heap.size wr W) => q03.ext (Ext.below (below_then hw0 hW)))
   have Xx0_4 := Lib.hid (fun W (hW : Below wr.heap.size wr W) => q04.ext (Ext.below (below_then hw0 hW)))
   clear q01 q02 q03 q04
   obtain ⟨q11, q12, q13, q14⟩ := hA.out 1 _ rfl
   have Xx1_1 := Lib.hid (fun W (hW : Below wr.heap.size wr W) => q11.ext (Ext.below (below_then hw0 hW)))
   have Xx1_2 := Lib.hid (fun W (hW : Below wr.heap.size wr W) => q12.ext (Ext.below (below_then hw0 hW)))
   have Xx1_3 := Lib.hid (fun W (hW : Below wr.heap.size wr W) => q13.ext (Ext.below (below_then hw0 hW)))
   have Xx1_4 := Lib.hid (fun W (hW : Below wr.heap.size wr W) => q14.ext (Ext.below (below_then hw0 hW)))
   clear q11 q12 q13 q14
   obtain ⟨q21, q22, q23, q24⟩ := hA.out 2 _ rfl
   have Xx2_1 := Lib.hid (fun W (hW : Below wr.heap.size wr W) => q21.ext (Ext.below (below_then hw0 hW)))
   have Xx2_2 := Lib.hid (fun W (hW : Below wr.heap.size wr W) => q22.ext (Ext.below (below_then hw0 hW)))
   have Xx2_3 := Lib.hid (fun W (hW : Below wr.heap.size wr W) => q23.ext (Ext.below (below_then hw0 hW)))
   have Xx2_4 := Lib.hid (fun W (hW : Below wr.heap.size wr W) => q24.ext (Ext.below (below_then hw0 hW)))
   clear q21 q22 q23 q24
   obtain ⟨q31, q32, q33, q34⟩ := hA.out 3 _ rfl
   have Xx3_1 := Lib.hid (fun W (hW : Below wr.heap.size wr W) => q31.ext (Ext.below (below_then hw0 hW)))
   have Xx3_2 := Lib.hid (fun W (hW : Below wr.heap.size wr W) => q32.ext (Ext.below (below_then hw0 hW)))
   have Xx3_3 := Lib.hid (fun W (hW : Below wr.heap.size wr W) => q33.ext (Ext.below (below_then hw0 hW)))
   have Xx3_4 := Lib.hid (fun W (hW : Below wr.heap.size wr W) => q34.ext (Ext.below (below_then hw0 hW)))
   clear q31 q32 q33 q34
   have d0_0 := held (show wr.cell? ⟨gp, 0, none⟩ = some _ from hR 0 _ rfl 0 _ rfl)
   have d0_1 := held (show wr.cell? ⟨gp, 1, none⟩ = some _ from hR 0 _ rfl 1 _ rfl)
   have d0_2 := held (show wr.cell? ⟨gp, 2, none⟩ = some _ from hR 0 _ rfl 2 _ rfl)
   have d0_3 := held (show wr.cell? ⟨gp, 3, none⟩ = some _ from hR 0 _ rfl 3 _ rfl)
   have d0_4 := held (show wr.cell? ⟨gp, 4, none⟩ = some _ from hR 0 _ rfl 4 _ rfl)
   have d0_5 := held (show wr.cell? ⟨gp, 5, none⟩ = some _ from hR 0 _ rfl 5 _ rfl)
   have d0_6 := held (show wr.cell? ⟨gp, 6, none⟩ = some _ from hR 0 _ rfl 6 _ rfl)
   have d0_7 := held (show wr.cell? ⟨gp, 7, none⟩ = some _ from hR 0 _ rfl 7 _ rfl)
   have d0_8 := held (show wr.cell? ⟨gp, 8, none⟩ = some _ from hR 0 _ rfl 8 _ rfl)
   have d0_9 := held (show wr.cell? ⟨gp, 9, none⟩ = some _ from hR 0 _ rfl 9 _ rfl)
   have d0_10 := held (show wr.cell? ⟨gp, 10, none⟩ = some _ from hR 0 _ rfl 10 _ rfl)
   have d0_11 := held (show wr.cell? ⟨gp, 11, none⟩ = some _ from hR 0 _ rfl 11 _ rfl)
   have d1_0 := held (show wr.cell? ⟨gp, 12, none⟩ = some _ from hR 1 _ rfl 0 _ rfl)
   have d1_1 := held (show wr.cell? ⟨gp, 13, none⟩ = some _ from hR 1 _ rfl 1 _ rfl)
   have d1_2 := held (show wr.cell? ⟨gp, 14, none⟩ = some _ from hR 1 _ rfl 2 _ rfl)
   have d1_3 := held (show wr.cell? ⟨gp, 15, none⟩ = some _ from hR 1 _ rfl 3 _ rfl)
   have d1_4 := held (show wr.cell? ⟨gp, 16, none⟩ = some _ from hR 1 _ rfl 4 _ rfl)
   have d1_5 := held (show wr.cell? ⟨gp, 17, none⟩ = some _ from hR 1 _ rfl 5 _ rfl)
   have d1_6 := held (show wr.cell? ⟨gp, 18, none⟩ = some _ from hR 1 _ rfl 6 _ rfl)
   have d1_7 := held (show wr.cell? ⟨gp, 19, none⟩ = some _ from hR 1 _ rfl 7 _ rfl)
   have d1_8 := held (show wr.cell? ⟨gp, 20, none⟩ = some _ from hR 1 _ rfl 8 _ rfl)
   have d1_9 := held (show wr.cell? ⟨gp, 21, none⟩ = some _ from hR 1 _ rfl 9 _ rfl)
   have d1_10 := held (show wr.cell? ⟨gp, 22, none⟩ = some _ from hR 1 _ rfl 10 _ rfl)
   have d1_11 := held (show wr.cell? ⟨gp, 23, none⟩ = some _ from hR 1 _ rfl 11 _ rfl)
   have d2_0 := held (show wr.cell? ⟨gp, 24, none⟩ = some _ from hR 2 _ rfl 0 _ rfl)
   have d2_1 := held (show wr.cell? ⟨gp, 25, none⟩ = some _ from hR 2 _ rfl 1 _ rfl)
   have d2_2 := held (show wr.cell? ⟨gp, 26, none⟩ = some _ from hR 2 _ rfl 2 _ rfl)
   have d2_3 := held (show wr.cell? ⟨gp, 27, none⟩ = some _ from hR 2 _ rfl 3 _ rfl)
   have d2_4 := held (show wr.cell? ⟨gp, 28, none⟩ = some _ from hR 2 _ rfl 4 _ rfl)
   have d2_5 := held (show wr.cell? ⟨gp, 29, none⟩ = some _ from hR 2 _ rfl 5 _ rfl)
   have d2_6 := held (show wr.cell? ⟨gp, 30, none⟩ = some _ from hR 2 _ rfl 6 _ rfl)
   have d2_7 := held (show wr.cell? ⟨gp, 31, none⟩ = some _ from hR 2 _ rfl 7 _ rfl)
   have d2_8 := held (show wr.cell? ⟨gp, 32, none⟩ = some _ from hR 2 _ rfl 8 _ rfl)
   have d2_9 := held (show wr.cell? ⟨gp, 33, none⟩ = some _ from hR 2 _ rfl 9 _ rfl)
   have d2_10 := held (show wr.cell? ⟨gp, 34, none⟩ = some _ from hR 2 _ rfl 10 _ rfl)
   have d2_11 := held (show wr.cell? ⟨gp, 35, none⟩ = some _ from hR 2 _ rfl 11 _ rfl)
   have d3_0 := held (show wr.cell? ⟨gp, 36, none⟩ = some _ from hR 3 _ rfl 0 _ rfl)
   have d3_1 := held (show wr.cell? ⟨gp, 37, none⟩ = some _ from hR 3 _ rfl 1 _ rfl)
   have d3_2 := held (show wr.cell? ⟨gp, 38, none⟩ = some _ from hR 3 _ rfl 2 _ rfl)
   have d3_3 := held (show wr.cell? ⟨gp, 39, none⟩ = some _ from hR 3 _ rfl 3 _ rfl)
   have d3_4 := held (show wr.cell? ⟨gp, 40, none⟩ = some _ from hR 3 _ rfl 4 _ rfl)
   have d3_5 := held (show wr.cell? ⟨gp, 41, none⟩ = some _ from hR 3 _ rfl 5 _ rfl)
   have d3_6 := held (show wr.cell? ⟨gp, 42, none⟩ = some _ from hR 3 _ rfl 6 _ rfl)
   have d3_7 := held (show wr.cell? ⟨gp, 43, none⟩ = some _ from hR 3 _ rfl 7 _ rfl)
   have d3_8 := held (show wr.cell? ⟨gp, 44, none⟩ = some _ from hR 3 _ rfl 8 _ rfl)
   have d3_9 := held (show wr.cell? ⟨gp, 45, none⟩ = some _ from hR 3 _ rfl 9 _ rfl)
   have d3_10 := held (show wr.cell? ⟨gp, 46, none⟩ = some _ from hR 3 _ rfl 10 _ rfl)
   have d3_11 := held (show wr.cell? ⟨gp, 47, none⟩ = some _ from hR 3 _ rfl 11 _ rfl)
   have kr0 := held (h0.cell 2); have kr1 := held (h0.cell 3); have kr2 := held (h0.cell 4)
   have Xxr := Lib.hid (fun W (hW : Below wr.heap.size wr W) => hr.out.ext (Ext.below (below_then hw0 hW)))
   have HR := Lib.hid hR
   have e0 := h0.cell 0
   clear hkg hlk ho hA hl8 hR H hB hI
   clear hn
   go_wp2
   clear hlt hll hal
   have s0 : Below wr.heap.size wr wr.drew := (Below.refl _ _).drew
   refine wp_region_mix (S := Below wr.heap.size wr) [(0, .q), (1, .q), (2, .q), (3, .q), (4, .q), (5, .q), (8, .q), (9, .q), (11, .q), (12, .q), (13, .q), (14, .q), (15, .q), (16, .q), (6, .l), (7, .l), (10, .l), (17, .t), (18, .t), (19, .t), (20, .t), (21, .t), (22, .p)] (by kernel_rfl) (by kernel_rfl) (by kernel_rfl) (fun d _ _ _ _ h => by cases d <;> exact h) (s0) ?_
   iterate 14 (refine wpMix_q rfl rfl (fun K hK => ?_); apply Exists.intro; refine ⟨fun w' hw' => ?_, ?_⟩; (focus (go_simp; try rfl)); go_simp; refine hK _ _ ?_; clear hK K)
   refine wpMix_l rfl rfl (fun K hK => ?_)
   go_simp
   refine (vectorR_q x0_1 x0_2 x0_3 x0_4 x1_1 x1_2 x1_3 x1_4 (P 0).1 (P 0).2 (P 1).1 (P 1).2 2 _ (Xx0_1.out _ s0) (Xx0_2.out _ s0) (Xx0_3.out _ s0) (Xx0_4.out _ s0) (Xx1_1.out _ s0) (Xx1_2.out _ s0) (Xx1_3.out _ s0) (Xx1_4.out _ s0) (by omega)).mono ?_
   rintro r w1 ⟨z1_1, z1_2, z1_3, z1_4, rfl, J1_1, J1_2, J1_3, J1_4, hb1⟩
   dsimp only
   refine hK.out _ _ (below_then s0 hb1) (fun _ => ?_)
   clear hK K
   have s1 := below_then s0 hb1
   have K1_1 := Lib.hid J1_1
   have K1_2 := Lib.hid J1_2
   have K1_3 := Lib.hid J1_3
   have K1_4 := Lib.hid J1_4
   clear J1_1 J1_2 J1_3 J1_4
   refine wpMix_l rfl rfl (fun K hK => ?_)
   go_simp
   refine (normR_q z1_1 z1_2 z1_3 z1_4 (vecB (P 0) (P 1)).1 (vecB (P 0) (P 1)).2 5 _ (QK.more (K1_1.out.now) (by omega)) (QK.more (K1_2.out.now) (by omega)) (QK.more (K1_3.out.now) (by omega)) (QK.more (K1_4.out.now) (by omega)) (by omega)).mono ?_
   rintro r w2 ⟨z2_1, z2_2, rfl, J2_1, J2_2, hb2⟩
   dsimp only
   refine hK.out _ _ (below_then s1 hb2) (fun _ => ?_)
   clear hK K
   have s2 := below_then s1 hb2
   have K2_1 := Lib.hid J2_1
   have K2_2 := Lib.hid J2_2
   clear J2_1 J2_2
   refine wpMix_l rfl rfl (fun K hK => ?_)
   go_simp
   refine (pointR_q xr _).mono ?_
   rintro r w3 ⟨rfl, hb3⟩
   dsimp only
   refine hK.out _ _ (below_then s2 hb3) (fun _ => ?_)
   clear hK K
   have s3 := below_then s2 hb3
   refine wpMix_t rfl rfl (fun K hK => ?_)
   go_simp
   refine (vectorR_q x2_1 x2_2 x2_3 x2_4 x3_1 x3_2 x3_3 x3_4 (P 2).1 (P 2).2 (P 3).1 (P 3).2 2 _ (Xx2_1.out _ s3) (Xx2_2.out _ s3) (Xx2_3.out _ s3) (Xx2_4.out _ s3) (Xx3_1.out _ s3) (Xx3_2.out _ s3) (Xx3_3.out _ s3) (Xx3_4.out _ s3) (by omega)).mono ?_
   rintro r w4 ⟨z4_1, z4_2, z4_3, z4_4, rfl, J4_1, J4_2, J4_3, J4_4, hb4⟩
   dsimp only
   refine hK.out _ _ ?_
   clear hK K
   have s4 := below_then s3 hb4
   have K4_1 := Lib.hid J4_1
   have K4_2 := Lib.hid J4_2
   have K4_3 := Lib.hid J4_3
   have K4_4 := Lib.hid J4_4
   clear J4_1 J4_2 J4_3 J4_4
   refine wpMix_t rfl rfl (fun K hK => ?_)
   go_simp
   refine (normR_q z4_1 z4_2 z4_3 z4_4 (vecB (P 2) (P 3)).1 (vecB (P 2) (P 3)).2 5 _ (QK.more (K4_1.out.now) (by omega)) (QK.more (K4_2.out.now) (by omega)) (QK.more (K4_3.out.now) (by omega)) (QK.more (K4_4.out.now) (by omega)) (by omega)).mono ?_
   rintro r w5 ⟨z5_1, z5_2, rfl, J5_1, J5_2, hb5⟩
   dsimp only
   refine hK.out _ _ ?_
   clear hK K
   have s5 := below_then s4 hb5
   have K5_1 := Lib.hid J5_1
   have K5_2 := Lib.hid J5_2
   clear J5_1 J5_2
   refine wpMix_t rfl rfl (fun K hK => ?_)
   go_simp
   refine (imulR_i xr xr z5_1 z5_2 (r, r) (normI (vecB (P 2) (P 3)).1 (vecB (P 2) (P 3)).2) 23 _ (QK.more (Xxr.out _ s5) (by omega)) (QK.more (Xxr.out _ s5) (by omega)) (QK.more (K5_1.out.now) (by omega)) (QK.more (K5_2.out.now) (by omega)) (by omega)).mono ?_
   rintro r w6 ⟨z6_1, z6_2, rfl, J6_1, J6_2, hb6⟩
   dsimp only
   refine hK.out _ _ ?_
   clear hK K
   have s6 := below_then s5 hb6
   have K6_1 := Lib.hid J6_1
   have K6_2 := Lib.hid J6_2
   clear J6_1 J6_2
   refine wpMix_t rfl rfl (fun K hK => ?_)
   go_simp
   refine (isubR_i z2_1 z2_2 z6_1 z6_2 (normI (vecB (P 0) (P 1)).1 (vecB (P 0) (P 1)).2) (mulI (r, r) (normI (vecB (P 2) (P 3)).1 (vecB (P 2) (P 3)).2)) 46 _ (QK.more (((((K2_1.out.call hb3).call hb4).call hb5).call hb6).now) (by omega)) (QK.more (((((K2_2.out.call hb3).call hb4).call hb5).call hb6).now) (by omega)) (QK.more (K6_1.out.now) (by omega)) (QK.more (K6_2.out.now) (by omega)) (by omega)).mono ?_
   rintro r w7 ⟨z7_1, z7_2, rfl, J7_1, J7_2, hb7⟩
   dsimp only
   refine hK.out _ _ ?_
   clear hK K
   have s7 := below_then s6 hb7
   have K7_1 := Lib.hid J7_1
   have K7_2 := Lib.hid J7_2
   clear J7_1 J7_2
   refine wpMix_t rfl rfl (fun K hK => ?_)
   go_simp
   refine hK.out _ _ ?_
   clear hK K
   iterate 1 (refine wpMix_p rfl rfl (fun K hK => ?_); apply Exists.intro; refine ⟨fun w' => ?_, ?_⟩; (focus (go_simp; try rfl)); go_simp; refine hK _ _ ?_; clear hK K)
   refine wpMix_nil ?_
   go_wp2
   go_ret
   exact ⟨[z7_1, z7_2], w7.heap.size, _, rfl, RowQ.m2 (Blk.new _ _ _), AllQ.m2 (QK.more K7_1.out.alloc.now (by omega)) (QK.more K7_2.out.alloc.now (by omega)), below_then hw0 (s7.alloc s7.size _)⟩
end Go.Proofs.YtaihkpjbnkgmlaaGreat
