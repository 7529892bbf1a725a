/- Walks: diagram.values, one theorem for each kind of facts. (Printed by val.py.) -/
import Derived.Test.YtaihkpjbnkgmlaaGreatRf31
import Derived.Laws.EntriesVeiled

/- Walks: diagram.values, one theorem for each kind of facts. (Printed by val.py.) -/
namespace Go.Proofs.YtaihkpjbnkgmlaaGreat
open Go.RowKit

/-- the boxes of a fact's points -/
def VArgs (l : List Bx) (args : List Int) (P : Nat → Iq × Iq) (n : Nat) : Prop := ∀ i, i < n → ∃ (j : Nat) (x : Bx), args[i]? = some (j : Int) ∧ l[j]? = some x ∧ x.short = true ∧ P i = bq x
theorem at_P (gl gf ga : Nat) (a aa : Option Addr) (c ac : Nat) (l : List Bx) (args : List Int) (P : Nat → Iq × Iq) (n i : Nat) (w : World) (h : VCtx w gl gf ga a aa c ac l args) (H : VArgs l args P n) (hi : i < n) :
  Calls Tryz.prog 70 #[.int .i64 i, .pointer (some ⟨gl, 0, none⟩), .pointer (some ⟨gf, 0, none⟩)] w (RetB (P i) w) := by
 obtain ⟨j, x, h1, h2, h3, h4⟩ := H i hi
 rw [h4]
 exact at_q gl gf ga a aa c ac l args i j x w h h1 h2 h3
theorem vec_P (gl gf ga : Nat) (a aa : Option Addr) (c ac : Nat) (l : List Bx) (args : List Int) (P : Nat → Iq × Iq) (n i k : Nat) (w : World) (h : VCtx w gl gf ga a aa c ac l args) (H : VArgs l args P n) (hi : i < n) (hk : k < n) :
  Calls Tryz.prog 71 #[.int .i64 i, .int .i64 k, .pointer (some ⟨ga, 0, none⟩)] w (RetI4 5 (vecB (P i) (P k)).1.1 (vecB (P i) (P k)).1.2 (vecB (P i) (P k)).2.1 (vecB (P i) (P k)).2.2 w) := by
 obtain ⟨j, x, h1, h2, h3, h4⟩ := H i hi
 obtain ⟨m, y, g1, g2, g3, g4⟩ := H k hk
 rw [h4, g4]
 exact vec_q gl gf ga a aa c ac l args i k j m x y w h h1 h2 h3 g1 g2 g3
set_option maxRecDepth 100000 in
set_option maxHeartbeats 4000000 in
theorem values_k1 (a aa : Option Addr) (c ac : Nat) (l : List Bx) (args : List Int) (P : Nat → Iq × Iq) (xr : QA) (r : Rat) (w : World) (hB : BoxesR w a c l) (hI : IntsR w aa ac args) (H : VArgs l args P 3) :
  Calls Tryz.prog 34 #[.agg #[.int .i64 1, .slice aa args.length ac, .bool xr.neg, .slice xr.a xr.n xr.c, .slice xr.b xr.m xr.d], .slice a l.length c] w (RetVs 1 (valsI 1 P r) w) := by
 simp only [valsI, ends, List.cons_append, List.nil_append, if_true, reduceIte, reduceCtorEq, Int.reduceEq, if_false]
 replace hB := Lib.hid hB; replace hI := Lib.hid hI; replace H := Lib.hid H
 go_enter Tryz.func34, Tryz.ntmps34
 go_wp2_with fail
 refine calls_gen (fun W => Blk W w.heap.size 81 #[.int .i64 1, .slice aa args.length ac, .bool xr.neg, .slice xr.a xr.n xr.c, .slice xr.b xr.m xr.d] ∧ Blk W (w.heap.size + 1) 26 #[.slice a l.length c] ∧ Blk W (w.heap.size + 1 + 1) 124 #[.func (Fn.func 70) #[] #[.pointer (some ⟨w.heap.size + 1, 0, none⟩), .pointer (some ⟨w.heap.size, 0, none⟩)]] ∧ Below w.heap.size w W) ⟨by ((repeat first|with_reducible assumption|((with_reducible apply Blk.farAt);focus omega)|with_reducible apply Blk.setb|((with_reducible apply Blk.newAt);focus (simp;done))|with_reducible apply Blk.alloc|with_reducible apply Blk.drew);all_goals (show @Eq (Array Value) _ _;rfl)), by ((repeat first|with_reducible assumption|((with_reducible apply Blk.farAt);focus omega)|with_reducible apply Blk.setb|((with_reducible apply Blk.newAt);focus (simp;done))|with_reducible apply Blk.alloc|with_reducible apply Blk.drew);all_goals (show @Eq (Array Value) _ _;rfl)), by ((repeat first|with_reducible assumption|((with_reducible apply Blk.farAt);focus omega)|with_reducible apply Blk.setb|((with_reducible apply Blk.newAt);focus (simp;done))|with_reducible apply Blk.alloc|with_reducible apply Blk.drew);all_goals (show @Eq (Array Value) _ _;rfl)), by go_grown⟩ ?_
 rintro w0 ⟨hF, hL, hA, hw0⟩
 revert hF hL hA
 generalize w.heap.size + 1 + 1 = ga
 generalize w.heap.size + 1 = gl
 intro hF hL hA
 have HC := Lib.hid (fun W (hW : Below w0.heap.size w0 W) => VCtx.ext (show VCtx w0 gl w.heap.size ga a aa c ac l args from ⟨hL.cell 0, hF.cell 1, hA.cell 0, hB.out.ext (Ext.below hw0), hI.out.ext (Ext.below hw0)⟩) (Ext.below hW))
 have V0_1 := Lib.hid (fun W (hW : Below w0.heap.size w0 W) => vec_P gl w.heap.size ga a aa c ac l args P 3 0 1 W (HC.out W hW) H.out (by omega) (by omega))
 have V0_2 := Lib.hid (fun W (hW : Below w0.heap.size w0 W) => vec_P gl w.heap.size ga a aa c ac l args P 3 0 2 W (HC.out W hW) H.out (by omega) (by omega))
 clear hF hL hA HC H
 have s0 : Below w0.heap.size w0 w0 := Below.refl _ _
 refine (V0_1.out _ s0).mono ?_
 rintro r w1 ⟨z1_1, z1_2, z1_3, z1_4, rfl, J1_1, J1_2, J1_3, J1_4, hb1⟩
 have s1 := below_then s0 hb1
 have K1_1 := Lib.hid J1_1
 have K1_2 := Lib.hid J1_2
 have K1_3 := Lib.hid J1_3
 have K1_4 := Lib.hid J1_4
 clear J1_1 J1_2 J1_3 J1_4
 go_wp2_with fail
 refine (V0_2.out _ s1).mono ?_
 rintro r w2 ⟨z2_1, z2_2, z2_3, z2_4, rfl, J2_1, J2_2, J2_3, J2_4, hb2⟩
 have s2 := below_then s1 hb2
 have K2_1 := Lib.hid J2_1
 have K2_2 := Lib.hid J2_2
 have K2_3 := Lib.hid J2_3
 have K2_4 := Lib.hid J2_4
 clear J2_1 J2_2 J2_3 J2_4
 go_wp2_with fail
 refine (cross_q z1_1 z1_2 z1_3 z1_4 z2_1 z2_2 z2_3 z2_4 (vecB (P 0) (P 1)).1 (vecB (P 0) (P 1)).2 (vecB (P 0) (P 2)).1 (vecB (P 0) (P 2)).2 5 _ (QK.more ((K1_1.out.call hb2).now) (by omega)) (QK.more ((K1_2.out.call hb2).now) (by omega)) (QK.more ((K1_3.out.call hb2).now) (by omega)) (QK.more ((K1_4.out.call hb2).now) (by omega)) (QK.more (K2_1.out.now) (by omega)) (QK.more (K2_2.out.now) (by omega)) (QK.more (K2_3.out.now) (by omega)) (QK.more (K2_4.out.now) (by omega)) (by omega)).mono ?_
 rintro r w3 ⟨z3_1, z3_2, rfl, J3_1, J3_2, hb3⟩
 have s3 := below_then s2 hb3
 have K3_1 := Lib.hid J3_1
 have K3_2 := Lib.hid J3_2
 clear J3_1 J3_2
 go_wp2
 go_ret
 exact ⟨[z3_1, z3_2], w3.heap.size, _, rfl, RowQ.m2 (Blk.new _ _ _), AllQ.m2 (QK.more K3_1.out.alloc.now (by omega)) (QK.more K3_2.out.alloc.now (by omega)), below_then hw0 (s3.alloc s3.size _)⟩
set_option maxRecDepth 100000 in
set_option maxHeartbeats 4000000 in
theorem values_k2 (a aa : Option Addr) (c ac : Nat) (l : List Bx) (args : List Int) (P : Nat → Iq × Iq) (xr : QA) (r : Rat) (w : World) (hB : BoxesR w a c l) (hI : IntsR w aa ac args) (H : VArgs l args P 4) :
  Calls Tryz.prog 34 #[.agg #[.int .i64 2, .slice aa args.length ac, .bool xr.neg, .slice xr.a xr.n xr.c, .slice xr.b xr.m xr.d], .slice a l.length c] w (RetVs 1 (valsI 2 P r) w) := by
 simp only [valsI, ends, List.cons_append, List.nil_append, if_true, reduceIte, reduceCtorEq, Int.reduceEq, if_false]
 replace hB := Lib.hid hB; replace hI := Lib.hid hI; replace H := Lib.hid H
 go_enter Tryz.func34, Tryz.ntmps34
 go_wp2_with fail
 refine calls_gen (fun W => Blk W w.heap.size 81 #[.int .i64 2, .slice aa args.length ac, .bool xr.neg, .slice xr.a xr.n xr.c, .slice xr.b xr.m xr.d] ∧ Blk W (w.heap.size + 1) 26 #[.slice a l.length c] ∧ Blk W (w.heap.size + 1 + 1) 124 #[.func (Fn.func 70) #[] #[.pointer (some ⟨w.heap.size + 1, 0, none⟩), .pointer (some ⟨w.heap.size, 0, none⟩)]] ∧ Below w.heap.size w W) ⟨by ((repeat first|with_reducible assumption|((with_reducible apply Blk.farAt);focus omega)|with_reducible apply Blk.setb|((with_reducible apply Blk.newAt);focus (simp;done))|with_reducible apply Blk.alloc|with_reducible apply Blk.drew);all_goals (show @Eq (Array Value) _ _;rfl)), by ((repeat first|with_reducible assumption|((with_reducible apply Blk.farAt);focus omega)|with_reducible apply Blk.setb|((with_reducible apply Blk.newAt);focus (simp;done))|with_reducible apply Blk.alloc|with_reducible apply Blk.drew);all_goals (show @Eq (Array Value) _ _;rfl)), by ((repeat first|with_reducible assumption|((with_reducible apply Blk.farAt);focus omega)|with_reducible apply Blk.setb|((with_reducible apply Blk.newAt);focus (simp;done))|with_reducible apply Blk.alloc|with_reducible apply Blk.drew);all_goals (show @Eq (Array Value) _ _;rfl)), by go_grown⟩ ?_
 rintro w0 ⟨hF, hL, hA, hw0⟩
 revert hF hL hA
 generalize w.heap.size + 1 + 1 = ga
 generalize w.heap.size + 1 = gl
 intro hF hL hA
 have HC := Lib.hid (fun W (hW : Below w0.heap.size w0 W) => VCtx.ext (show VCtx w0 gl w.heap.size ga a aa c ac l args from ⟨hL.cell 0, hF.cell 1, hA.cell 0, hB.out.ext (Ext.below hw0), hI.out.ext (Ext.below hw0)⟩) (Ext.below hW))
 have V0_1 := Lib.hid (fun W (hW : Below w0.heap.size w0 W) => vec_P gl w.heap.size ga a aa c ac l args P 4 0 1 W (HC.out W hW) H.out (by omega) (by omega))
 have V2_3 := Lib.hid (fun W (hW : Below w0.heap.size w0 W) => vec_P gl w.heap.size ga a aa c ac l args P 4 2 3 W (HC.out W hW) H.out (by omega) (by omega))
 clear hF hL hA HC H
 have s0 : Below w0.heap.size w0 w0 := Below.refl _ _
 refine (V0_1.out _ s0).mono ?_
 rintro r w1 ⟨z1_1, z1_2, z1_3, z1_4, rfl, J1_1, J1_2, J1_3, J1_4, hb1⟩
 have s1 := below_then s0 hb1
 have K1_1 := Lib.hid J1_1
 have K1_2 := Lib.hid J1_2
 have K1_3 := Lib.hid J1_3
 have K1_4 := Lib.hid J1_4
 clear J1_1 J1_2 J1_3 J1_4
 go_wp2_with fail
 refine (V2_3.out _ s1).mono ?_
 rintro r w2 ⟨z2_1, z2_2, z2_3, z2_4, rfl, J2_1, J2_2, J2_3, J2_4, hb2⟩
 have s2 := below_then s1 hb2
 have K2_1 := Lib.hid J2_1
 have K2_2 := Lib.hid J2_2
 have K2_3 := Lib.hid J2_3
 have K2_4 := Lib.hid J2_4
 clear J2_1 J2_2 J2_3 J2_4
 go_wp2_with fail
 refine (cross_q z1_1 z1_2 z1_3 z1_4 z2_1 z2_2 z2_3 z2_4 (vecB (P 0) (P 1)).1 (vecB (P 0) (P 1)).2 (vecB (P 2) (P 3)).1 (vecB (P 2) (P 3)).2 5 _ (QK.more ((K1_1.out.call hb2).now) (by omega)) (QK.more ((K1_2.out.call hb2).now) (by omega)) (QK.more ((K1_3.out.call hb2).now) (by omega)) (QK.more ((K1_4.out.call hb2).now) (by omega)) (QK.more (K2_1.out.now) (by omega)) (QK.more (K2_2.out.now) (by omega)) (QK.more (K2_3.out.now) (by omega)) (QK.more (K2_4.out.now) (by omega)) (by omega)).mono ?_
 rintro r w3 ⟨z3_1, z3_2, rfl, J3_1, J3_2, hb3⟩
 have s3 := below_then s2 hb3
 have K3_1 := Lib.hid J3_1
 have K3_2 := Lib.hid J3_2
 clear J3_1 J3_2
 go_wp2
 go_ret
 exact ⟨[z3_1, z3_2], w3.heap.size, _, rfl, RowQ.m2 (Blk.new _ _ _), AllQ.m2 (QK.more K3_1.out.alloc.now (by omega)) (QK.more K3_2.out.alloc.now (by omega)), below_then hw0 (s3.alloc s3.size _)⟩
set_option maxRecDepth 100000 in
set_option maxHeartbeats 4000000 in
theorem values_k3 (a aa : Option Addr) (c ac : Nat) (l : List Bx) (args : List Int) (P : Nat → Iq × Iq) (xr : QA) (r : Rat) (w : World) (hB : BoxesR w a c l) (hI : IntsR w aa ac args) (H : VArgs l args P 4) :
  Calls Tryz.prog 34 #[.agg #[.int .i64 3, .slice aa args.length ac, .bool xr.neg, .slice xr.a xr.n xr.c, .slice xr.b xr.m xr.d], .slice a l.length c] w (RetVs 1 (valsI 3 P r) w) := by
 simp only [valsI, ends, List.cons_append, List.nil_append, if_true, reduceIte, reduceCtorEq, Int.reduceEq, if_false]
 replace hB := Lib.hid hB; replace hI := Lib.hid hI; replace H := Lib.hid H
 go_enter Tryz.func34, Tryz.ntmps34
 go_wp2_with fail
 refine calls_gen (fun W => Blk W w.heap.size 81 #[.int .i64 3, .slice aa args.length ac, .bool xr.neg, .slice xr.a xr.n xr.c, .slice xr.b xr.m xr.d] ∧ Blk W (w.heap.size + 1) 26 #[.slice a l.length c] ∧ Blk W (w.heap.size + 1 + 1) 124 #[.func (Fn.func 70) #[] #[.pointer (some ⟨w.heap.size + 1, 0, none⟩), .pointer (some ⟨w.heap.size, 0, none⟩)]] ∧ Below w.heap.size w W) ⟨by ((repeat first|with_reducible assumption|((with_reducible apply Blk.farAt);focus omega)|with_reducible apply Blk.setb|((with_reducible apply Blk.newAt);focus (simp;done))|with_reducible apply Blk.alloc|with_reducible apply Blk.drew);all_goals (show @Eq (Array Value) _ _;rfl)), by ((repeat first|with_reducible assumption|((with_reducible apply Blk.farAt);focus omega)|with_reducible apply Blk.setb|((with_reducible apply Blk.newAt);focus (simp;done))|with_reducible apply Blk.alloc|with_reducible apply Blk.drew);all_goals (show @Eq (Array Value) _ _;rfl)), by ((repeat first|with_reducible assumption|((with_reducible apply Blk.farAt);focus omega)|with_reducible apply Blk.setb|((with_reducible apply Blk.newAt);focus (simp;done))|with_reducible apply Blk.alloc|with_reducible apply Blk.drew);all_goals (show @Eq (Array Value) _ _;rfl)), by go_grown⟩ ?_
 rintro w0 ⟨hF, hL, hA, hw0⟩
 revert hF hL hA
 generalize w.heap.size + 1 + 1 = ga
 generalize w.heap.size + 1 = gl
 intro hF hL hA
 have HC := Lib.hid (fun W (hW : Below w0.heap.size w0 W) => VCtx.ext (show VCtx w0 gl w.heap.size ga a aa c ac l args from ⟨hL.cell 0, hF.cell 1, hA.cell 0, hB.out.ext (Ext.below hw0), hI.out.ext (Ext.below hw0)⟩) (Ext.below hW))
 have V0_1 := Lib.hid (fun W (hW : Below w0.heap.size w0 W) => vec_P gl w.heap.size ga a aa c ac l args P 4 0 1 W (HC.out W hW) H.out (by omega) (by omega))
 have V2_3 := Lib.hid (fun W (hW : Below w0.heap.size w0 W) => vec_P gl w.heap.size ga a aa c ac l args P 4 2 3 W (HC.out W hW) H.out (by omega) (by omega))
 clear hF hL hA HC H
 have s0 : Below w0.heap.size w0 w0 := Below.refl _ _
 refine (V0_1.out _ s0).mono ?_
 rintro r w1 ⟨z1_1, z1_2, z1_3, z1_4, rfl, J1_1, J1_2, J1_3, J1_4, hb1⟩
 have s1 := below_then s0 hb1
 have K1_1 := Lib.hid J1_1
 have K1_2 := Lib.hid J1_2
 have K1_3 := Lib.hid J1_3
 have K1_4 := Lib.hid J1_4
 clear J1_1 J1_2 J1_3 J1_4
 go_wp2_with fail
 refine (V2_3.out _ s1).mono ?_
 rintro r w2 ⟨z2_1, z2_2, z2_3, z2_4, rfl, J2_1, J2_2, J2_3, J2_4, hb2⟩
 have s2 := below_then s1 hb2
 have K2_1 := Lib.hid J2_1
 have K2_2 := Lib.hid J2_2
 have K2_3 := Lib.hid J2_3
 have K2_4 := Lib.hid J2_4
 clear J2_1 J2_2 J2_3 J2_4
 go_wp2_with fail
 refine (dot_q z1_1 z1_2 z1_3 z1_4 z2_1 z2_2 z2_3 z2_4 (vecB (P 0) (P 1)).1 (vecB (P 0) (P 1)).2 (vecB (P 2) (P 3)).1 (vecB (P 2) (P 3)).2 5 _ (QK.more ((K1_1.out.call hb2).now) (by omega)) (QK.more ((K1_2.out.call hb2).now) (by omega)) (QK.more ((K1_3.out.call hb2).now) (by omega)) (QK.more ((K1_4.out.call hb2).now) (by omega)) (QK.more (K2_1.out.now) (by omega)) (QK.more (K2_2.out.now) (by omega)) (QK.more (K2_3.out.now) (by omega)) (QK.more (K2_4.out.now) (by omega)) (by omega)).mono ?_
 rintro r w3 ⟨z3_1, z3_2, rfl, J3_1, J3_2, hb3⟩
 have s3 := below_then s2 hb3
 have K3_1 := Lib.hid J3_1
 have K3_2 := Lib.hid J3_2
 clear J3_1 J3_2
 go_wp2
 go_ret
 exact ⟨[z3_1, z3_2], w3.heap.size, _, rfl, RowQ.m2 (Blk.new _ _ _), AllQ.m2 (QK.more K3_1.out.alloc.now (by omega)) (QK.more K3_2.out.alloc.now (by omega)), below_then hw0 (s3.alloc s3.size _)⟩
set_option maxRecDepth 100000 in
set_option maxHeartbeats 4000000 in
theorem values_k4 (a aa : Option Addr) (c ac : Nat) (l : List Bx) (args : List Int) (P : Nat → Iq × Iq) (xr : QA) (r : Rat) (w : World) (hB : BoxesR w a c l) (hI : IntsR w aa ac args) (H : VArgs l args P 4) :
  Calls Tryz.prog 34 #[.agg #[.int .i64 4, .slice aa args.length ac, .bool xr.neg, .slice xr.a xr.n xr.c, .slice xr.b xr.m xr.d], .slice a l.length c] w (RetVs 1 (valsI 4 P r) w) := by
 simp only [valsI, ends, List.cons_append, List.nil_append, if_true, reduceIte, reduceCtorEq, Int.reduceEq, if_false]
 replace hB := Lib.hid hB; replace hI := Lib.hid hI; replace H := Lib.hid H
 go_enter Tryz.func34, Tryz.ntmps34
 go_wp2_with fail
 refine calls_gen (fun W => Blk W w.heap.size 81 #[.int .i64 4, .slice aa args.length ac, .bool xr.neg, .slice xr.a xr.n xr.c, .slice xr.b xr.m xr.d] ∧ Blk W (w.heap.size + 1) 26 #[.slice a l.length c] ∧ Blk W (w.heap.size + 1 + 1) 124 #[.func (Fn.func 70) #[] #[.pointer (some ⟨w.heap.size + 1, 0, none⟩), .pointer (some ⟨w.heap.size, 0, none⟩)]] ∧ Below w.heap.size w W) ⟨by ((repeat first|with_reducible assumption|((with_reducible apply Blk.farAt);focus omega)|with_reducible apply Blk.setb|((with_reducible apply Blk.newAt);focus (simp;done))|with_reducible apply Blk.alloc|with_reducible apply Blk.drew);all_goals (show @Eq (Array Value) _ _;rfl)), by ((repeat first|with_reducible assumption|((with_reducible apply Blk.farAt);focus omega)|with_reducible apply Blk.setb|((with_reducible apply Blk.newAt);focus (simp;done))|with_reducible apply Blk.alloc|with_reducible apply Blk.drew);all_goals (show @Eq (Array Value) _ _;rfl)), by ((repeat first|with_reducible assumption|((with_reducible apply Blk.farAt);focus omega)|with_reducible apply Blk.setb|((with_reducible apply Blk.newAt);focus (simp;done))|with_reducible apply Blk.alloc|with_reducible apply Blk.drew);all_goals (show @Eq (Array Value) _ _;rfl)), by go_grown⟩ ?_
 rintro w0 ⟨hF, hL, hA, hw0⟩
 revert hF hL hA
 generalize w.heap.size + 1 + 1 = ga
 generalize w.heap.size + 1 = gl
 intro hF hL hA
 have HC := Lib.hid (fun W (hW : Below w0.heap.size w0 W) => VCtx.ext (show VCtx w0 gl w.heap.size ga a aa c ac l args from ⟨hL.cell 0, hF.cell 1, hA.cell 0, hB.out.ext (Ext.below hw0), hI.out.ext (Ext.below hw0)⟩) (Ext.below hW))
 have V0_1 := Lib.hid (fun W (hW : Below w0.heap.size w0 W) => vec_P gl w.heap.size ga a aa c ac l args P 4 0 1 W (HC.out W hW) H.out (by omega) (by omega))
 have V2_3 := Lib.hid (fun W (hW : Below w0.heap.size w0 W) => vec_P gl w.heap.size ga a aa c ac l args P 4 2 3 W (HC.out W hW) H.out (by omega) (by omega))
 clear hF hL hA HC H
 have s0 : Below w0.heap.size w0 w0 := Below.refl _ _
 refine (V0_1.out _ s0).mono ?_
 rintro r w1 ⟨z1_1, z1_2, z1_3, z1_4, rfl, J1_1, J1_2, J1_3, J1_4, hb1⟩
 have s1 := below_then s0 hb1
 have K1_1 := Lib.hid J1_1
 have K1_2 := Lib.hid J1_2
 have K1_3 := Lib.hid J1_3
 have K1_4 := Lib.hid J1_4
 clear J1_1 J1_2 J1_3 J1_4
 go_wp2_with fail
 refine (norm_q z1_1 z1_2 z1_3 z1_4 (vecB (P 0) (P 1)).1 (vecB (P 0) (P 1)).2 5 _ (QK.more (K1_1.out.now) (by omega)) (QK.more (K1_2.out.now) (by omega)) (QK.more (K1_3.out.now) (by omega)) (QK.more (K1_4.out.now) (by omega)) (by omega)).mono ?_
 rintro r w2 ⟨z2_1, z2_2, rfl, J2_1, J2_2, hb2⟩
 have s2 := below_then s1 hb2
 have K2_1 := Lib.hid J2_1
 have K2_2 := Lib.hid J2_2
 clear J2_1 J2_2
 go_wp2_with fail
 refine (V2_3.out _ s2).mono ?_
 rintro r w3 ⟨z3_1, z3_2, z3_3, z3_4, rfl, J3_1, J3_2, J3_3, J3_4, hb3⟩
 have s3 := below_then s2 hb3
 have K3_1 := Lib.hid J3_1
 have K3_2 := Lib.hid J3_2
 have K3_3 := Lib.hid J3_3
 have K3_4 := Lib.hid J3_4
 clear J3_1 J3_2 J3_3 J3_4
 go_wp2_with fail
 refine (norm_q z3_1 z3_2 z3_3 z3_4 (vecB (P 2) (P 3)).1 (vecB (P 2) (P 3)).2 5 _ (QK.more (K3_1.out.now) (by omega)) (QK.more (K3_2.out.now) (by omega)) (QK.more (K3_3.out.now) (by omega)) (QK.more (K3_4.out.now) (by omega)) (by omega)).mono ?_
 rintro r w4 ⟨z4_1, z4_2, rfl, J4_1, J4_2, hb4⟩
 have s4 := below_then s3 hb4
 have K4_1 := Lib.hid J4_1
 have K4_2 := Lib.hid J4_2
 clear J4_1 J4_2
 go_wp2_with fail
 refine (isub_i z2_1 z2_2 z4_1 z4_2 (normI (vecB (P 0) (P 1)).1 (vecB (P 0) (P 1)).2) (normI (vecB (P 2) (P 3)).1 (vecB (P 2) (P 3)).2) 23 _ (QK.more (((K2_1.out.call hb3).call hb4).now) (by omega)) (QK.more (((K2_2.out.call hb3).call hb4).now) (by omega)) (QK.more (K4_1.out.now) (by omega)) (QK.more (K4_2.out.now) (by omega)) (by omega)).mono ?_
 rintro r w5 ⟨z5_1, z5_2, rfl, J5_1, J5_2, hb5⟩
 have s5 := below_then s4 hb5
 have K5_1 := Lib.hid J5_1
 have K5_2 := Lib.hid J5_2
 clear J5_1 J5_2
 go_wp2
 go_ret
 exact ⟨[z5_1, z5_2], w5.heap.size, _, rfl, RowQ.m2 (Blk.new _ _ _), AllQ.m2 (QK.more K5_1.out.alloc.now (by omega)) (QK.more K5_2.out.alloc.now (by omega)), below_then hw0 (s5.alloc s5.size _)⟩
set_option maxRecDepth 100000 in
set_option maxHeartbeats 4000000 in
theorem values_k5 (a aa : Option Addr) (c ac : Nat) (l : List Bx) (args : List Int) (P : Nat → Iq × Iq) (xr : QA) (r : Rat) (w : World) (hB : BoxesR w a c l) (hI : IntsR w aa ac args) (H : VArgs l args P 3) :
  Calls Tryz.prog 34 #[.agg #[.int .i64 5, .slice aa args.length ac, .bool xr.neg, .slice xr.a xr.n xr.c, .slice xr.b xr.m xr.d], .slice a l.length c] w (RetVs 2 (valsI 5 P r) w) := by
 simp only [valsI, ends, List.cons_append, List.nil_append, if_true, reduceIte, reduceCtorEq, Int.reduceEq, if_false]
 replace hB := Lib.hid hB; replace hI := Lib.hid hI; replace H := Lib.hid H
 go_enter Tryz.func34, Tryz.ntmps34
 go_wp2
 refine world_gen (fun W => Blk W w.heap.size 81 #[.int .i64 5, .slice aa args.length ac, .bool xr.neg, .slice xr.a xr.n xr.c, .slice xr.b xr.m xr.d] ∧ Blk W (w.heap.size + 1) 26 #[.slice a l.length c] ∧ Blk W (w.heap.size + 1 + 1) 124 #[.func (Fn.func 70) #[] #[.pointer (some ⟨w.heap.size + 1, 0, none⟩), .pointer (some ⟨w.heap.size, 0, none⟩)]] ∧ Below w.heap.size w W) ⟨by ((repeat first|with_reducible assumption|((with_reducible apply Blk.farAt);focus omega)|with_reducible apply Blk.setb|((with_reducible apply Blk.newAt);focus (simp;done))|with_reducible apply Blk.alloc|with_reducible apply Blk.drew);all_goals (show @Eq (Array Value) _ _;rfl)), by ((repeat first|with_reducible assumption|((with_reducible apply Blk.farAt);focus omega)|with_reducible apply Blk.setb|((with_reducible apply Blk.newAt);focus (simp;done))|with_reducible apply Blk.alloc|with_reducible apply Blk.drew);all_goals (show @Eq (Array Value) _ _;rfl)), by ((repeat first|with_reducible assumption|((with_reducible apply Blk.farAt);focus omega)|with_reducible apply Blk.setb|((with_reducible apply Blk.newAt);focus (simp;done))|with_reducible apply Blk.alloc|with_reducible apply Blk.drew);all_goals (show @Eq (Array Value) _ _;rfl)), by go_grown⟩ ?_
 rintro w0 ⟨hF, hL, hA, hw0⟩
 revert hF hL hA
 generalize w.heap.size + 1 + 1 = ga
 generalize w.heap.size + 1 = gl
 intro hF hL hA
 have HC := Lib.hid (fun W (hW : Below w0.heap.size w0 W) => VCtx.ext (show VCtx w0 gl w.heap.size ga a aa c ac l args from ⟨hL.cell 0, hF.cell 1, hA.cell 0, hB.out.ext (Ext.below hw0), hI.out.ext (Ext.below hw0)⟩) (Ext.below hW))
 have A0 := Lib.hid (fun W (hW : Below w0.heap.size w0 W) => at_P gl w.heap.size ga a aa c ac l args P 3 0 W (HC.out W hW) H.out (by omega))
 have A1 := Lib.hid (fun W (hW : Below w0.heap.size w0 W) => at_P gl w.heap.size ga a aa c ac l args P 3 1 W (HC.out W hW) H.out (by omega))
 have A2 := Lib.hid (fun W (hW : Below w0.heap.size w0 W) => at_P gl w.heap.size ga a aa c ac l args P 3 2 W (HC.out W hW) H.out (by omega))
 have kA := held (hA.cell 0)
 clear hF hL hA HC H
 have s0 : Below w0.heap.size w0 w0.drew := (Below.refl _ _).drew
 refine wp_region_mix (S := Below w0.heap.size w0) [(0, .q), (3, .q), (6, .q), (10, .q), (13, .q), (16, .q), (1, .l), (2, .q), (4, .l), (5, .q), (7, .l), (8, .q), (9, .l), (11, .l), (12, .q), (14, .l), (15, .q), (17, .l), (18, .q), (19, .t), (20, .t), (21, .p)] (by kernel_rfl) (by kernel_rfl) (by kernel_rfl) (fun d _ _ _ _ h => by cases d <;> exact h) (s0) ?_
 iterate 6 (refine wpMix_q rfl rfl (fun K hK => ?_); apply Exists.intro; refine ⟨fun w' hw' => ?_, ?_⟩; (focus (go_simp; try rfl)); go_simp; refine hK _ _ ?_; clear hK K)
 refine wpMix_l rfl rfl (fun K hK => ?_)
 go_simp
 refine (A0.out _ s0).mono ?_
 rintro r w1 ⟨z1_1, z1_2, z1_3, z1_4, rfl, J1_1, J1_2, J1_3, J1_4, hb1⟩
 dsimp only
 refine hK.out _ _ (below_then s0 hb1) (fun _ => ?_)
 clear hK K
 have s1 := below_then s0 hb1
 have K1_1 := Lib.hid J1_1
 have K1_2 := Lib.hid J1_2
 have K1_3 := Lib.hid J1_3
 have K1_4 := Lib.hid J1_4
 clear J1_1 J1_2 J1_3 J1_4
 iterate 1 (refine wpMix_q rfl rfl (fun K hK => ?_); apply Exists.intro; refine ⟨fun w' hw' => ?_, ?_⟩; (focus (go_simp; try rfl)); go_simp; refine hK _ _ ?_; clear hK K)
 refine wpMix_l rfl rfl (fun K hK => ?_)
 go_simp
 refine (A1.out _ s1).mono ?_
 rintro r w2 ⟨z2_1, z2_2, z2_3, z2_4, rfl, J2_1, J2_2, J2_3, J2_4, hb2⟩
 dsimp only
 refine hK.out _ _ (below_then s1 hb2) (fun _ => ?_)
 clear hK K
 have s2 := below_then s1 hb2
 have K2_1 := Lib.hid J2_1
 have K2_2 := Lib.hid J2_2
 have K2_3 := Lib.hid J2_3
 have K2_4 := Lib.hid J2_4
 clear J2_1 J2_2 J2_3 J2_4
 iterate 1 (refine wpMix_q rfl rfl (fun K hK => ?_); apply Exists.intro; refine ⟨fun w' hw' => ?_, ?_⟩; (focus (go_simp; try rfl)); go_simp; refine hK _ _ ?_; clear hK K)
 refine wpMix_l rfl rfl (fun K hK => ?_)
 go_simp
 refine (A2.out _ s2).mono ?_
 rintro r w3 ⟨z3_1, z3_2, z3_3, z3_4, rfl, J3_1, J3_2, J3_3, J3_4, hb3⟩
 dsimp only
 refine hK.out _ _ (below_then s2 hb3) (fun _ => ?_)
 clear hK K
 have s3 := below_then s2 hb3
 have K3_1 := Lib.hid J3_1
 have K3_2 := Lib.hid J3_2
 have K3_3 := Lib.hid J3_3
 have K3_4 := Lib.hid J3_4
 clear J3_1 J3_2 J3_3 J3_4
 iterate 1 (refine wpMix_q rfl rfl (fun K hK => ?_); apply Exists.intro; refine ⟨fun w' hw' => ?_, ?_⟩; (focus (go_simp; try rfl)); go_simp; refine hK _ _ ?_; clear hK K)
 refine wpMix_l rfl rfl (fun K hK => ?_)
 go_simp
 refine (twice_q z1_1 z1_2 z2_1 z2_2 z3_1 z3_2 (P 0).1 (P 1).1 (P 2).1 2 _ (QK.more (((K1_1.out.call hb2).call hb3).now) (by omega)) (QK.more (((K1_2.out.call hb2).call hb3).now) (by omega)) (QK.more ((K2_1.out.call hb3).now) (by omega)) (QK.more ((K2_2.out.call hb3).now) (by omega)) (QK.more (K3_1.out.now) (by omega)) (QK.more (K3_2.out.now) (by omega)) (by omega)).mono ?_
 rintro r w4 ⟨z4_1, z4_2, rfl, J4_1, J4_2, hb4⟩
 dsimp only
 refine hK.out _ _ (below_then s3 hb4) (fun _ => ?_)
 clear hK K
 have s4 := below_then s3 hb4
 have K4_1 := Lib.hid J4_1
 have K4_2 := Lib.hid J4_2
 clear J4_1 J4_2
 refine wpMix_l rfl rfl (fun K hK => ?_)
 go_simp
 refine (A0.out _ s4).mono ?_
 rintro r w5 ⟨z5_1, z5_2, z5_3, z5_4, rfl, J5_1, J5_2, J5_3, J5_4, hb5⟩
 dsimp only
 refine hK.out _ _ (below_then s4 hb5) (fun _ => ?_)
 clear hK K
 have s5 := below_then s4 hb5
 have K5_1 := Lib.hid J5_1
 have K5_2 := Lib.hid J5_2
 have K5_3 := Lib.hid J5_3
 have K5_4 := Lib.hid J5_4
 clear J5_1 J5_2 J5_3 J5_4
 iterate 1 (refine wpMix_q rfl rfl (fun K hK => ?_); apply Exists.intro; refine ⟨fun w' hw' => ?_, ?_⟩; (focus (go_simp; try rfl)); go_simp; refine hK _ _ ?_; clear hK K)
 refine wpMix_l rfl rfl (fun K hK => ?_)
 go_simp
 refine (A1.out _ s5).mono ?_
 rintro r w6 ⟨z6_1, z6_2, z6_3, z6_4, rfl, J6_1, J6_2, J6_3, J6_4, hb6⟩
 dsimp only
 refine hK.out _ _ (below_then s5 hb6) (fun _ => ?_)
 clear hK K
 have s6 := below_then s5 hb6
 have K6_1 := Lib.hid J6_1
 have K6_2 := Lib.hid J6_2
 have K6_3 := Lib.hid J6_3
 have K6_4 := Lib.hid J6_4
 clear J6_1 J6_2 J6_3 J6_4
 iterate 1 (refine wpMix_q rfl rfl (fun K hK => ?_); apply Exists.intro; refine ⟨fun w' hw' => ?_, ?_⟩; (focus (go_simp; try rfl)); go_simp; refine hK _ _ ?_; clear hK K)
 refine wpMix_l rfl rfl (fun K hK => ?_)
 go_simp
 refine (A2.out _ s6).mono ?_
 rintro r w7 ⟨z7_1, z7_2, z7_3, z7_4, rfl, J7_1, J7_2, J7_3, J7_4, hb7⟩
 dsimp only
 refine hK.out _ _ (below_then s6 hb7) (fun _ => ?_)
 clear hK K
 have s7 := below_then s6 hb7
 have K7_1 := Lib.hid J7_1
 have K7_2 := Lib.hid J7_2
 have K7_3 := Lib.hid J7_3
 have K7_4 := Lib.hid J7_4
 clear J7_1 J7_2 J7_3 J7_4
 iterate 1 (refine wpMix_q rfl rfl (fun K hK => ?_); apply Exists.intro; refine ⟨fun w' hw' => ?_, ?_⟩; (focus (go_simp; try rfl)); go_simp; refine hK _ _ ?_; clear hK K)
 refine wpMix_t rfl rfl (fun K hK => ?_)
 go_simp
 refine (twice_q z5_3 z5_4 z6_3 z6_4 z7_3 z7_4 (P 0).2 (P 1).2 (P 2).2 2 _ (QK.more (((K5_3.out.call hb6).call hb7).now) (by omega)) (QK.more (((K5_4.out.call hb6).call hb7).now) (by omega)) (QK.more ((K6_3.out.call hb7).now) (by omega)) (QK.more ((K6_4.out.call hb7).now) (by omega)) (QK.more (K7_3.out.now) (by omega)) (QK.more (K7_4.out.now) (by omega)) (by omega)).mono ?_
 rintro r w8 ⟨z8_1, z8_2, rfl, J8_1, J8_2, hb8⟩
 dsimp only
 refine hK.out _ _ ?_
 clear hK K
 have s8 := below_then s7 hb8
 have K8_1 := Lib.hid J8_1
 have K8_2 := Lib.hid J8_2
 clear J8_1 J8_2
 refine wpMix_t rfl rfl (fun K hK => ?_)
 go_simp
 refine hK.out _ _ ?_
 clear hK K
 iterate 1 (refine wpMix_p rfl rfl (fun K hK => ?_); apply Exists.intro; refine ⟨fun w' => ?_, ?_⟩; (focus (go_simp; try rfl)); go_simp; refine hK _ _ ?_; clear hK K)
 refine wpMix_nil ?_
 go_wp2
 go_ret
 exact ⟨[z4_1, z4_2, z8_1, z8_2], w8.heap.size, _, rfl, RowQ.m4 (Blk.new _ _ _), AllQ.m4 (QK.more ((((K4_1.out.call hb5).call hb6).call hb7).call hb8).alloc.now (by omega)) (QK.more ((((K4_2.out.call hb5).call hb6).call hb7).call hb8).alloc.now (by omega)) (QK.more K8_1.out.alloc.now (by omega)) (QK.more K8_2.out.alloc.now (by omega)), below_then hw0 (s8.alloc s8.size _)⟩
set_option maxRecDepth 100000 in
set_option maxHeartbeats 4000000 in
theorem values_k6 (a aa : Option Addr) (c ac : Nat) (l : List Bx) (args : List Int) (P : Nat → Iq × Iq) (xr : QA) (r : Rat) (w : World) (hB : BoxesR w a c l) (hI : IntsR w aa ac args) (H : VArgs l args P 4) :
  Calls Tryz.prog 34 #[.agg #[.int .i64 6, .slice aa args.length ac, .bool xr.neg, .slice xr.a xr.n xr.c, .slice xr.b xr.m xr.d], .slice a l.length c] w (RetVs 1 (valsI 6 P r) w) := by
 simp only [valsI, ends, List.cons_append, List.nil_append, if_true, reduceIte, reduceCtorEq, Int.reduceEq, if_false]
 replace hB := Lib.hid hB; replace hI := Lib.hid hI; replace H := Lib.hid H
 go_enter Tryz.func34, Tryz.ntmps34
 go_wp2_with fail
 refine calls_gen (fun W => Blk W w.heap.size 81 #[.int .i64 6, .slice aa args.length ac, .bool xr.neg, .slice xr.a xr.n xr.c, .slice xr.b xr.m xr.d] ∧ Blk W (w.heap.size + 1) 26 #[.slice a l.length c] ∧ Blk W (w.heap.size + 1 + 1) 124 #[.func (Fn.func 70) #[] #[.pointer (some ⟨w.heap.size + 1, 0, none⟩), .pointer (some ⟨w.heap.size, 0, none⟩)]] ∧ Below w.heap.size w W) ⟨by ((repeat first|with_reducible assumption|((with_reducible apply Blk.farAt);focus omega)|with_reducible apply Blk.setb|((with_reducible apply Blk.newAt);focus (simp;done))|with_reducible apply Blk.alloc|with_reducible apply Blk.drew);all_goals (show @Eq (Array Value) _ _;rfl)), by ((repeat first|with_reducible assumption|((with_reducible apply Blk.farAt);focus omega)|with_reducible apply Blk.setb|((with_reducible apply Blk.newAt);focus (simp;done))|with_reducible apply Blk.alloc|with_reducible apply Blk.drew);all_goals (show @Eq (Array Value) _ _;rfl)), by ((repeat first|with_reducible assumption|((with_reducible apply Blk.farAt);focus omega)|with_reducible apply Blk.setb|((with_reducible apply Blk.newAt);focus (simp;done))|with_reducible apply Blk.alloc|with_reducible apply Blk.drew);all_goals (show @Eq (Array Value) _ _;rfl)), by go_grown⟩ ?_
 rintro w0 ⟨hF, hL, hA, hw0⟩
 revert hF hL hA
 generalize w.heap.size + 1 + 1 = ga
 generalize w.heap.size + 1 = gl
 intro hF hL hA
 have HC := Lib.hid (fun W (hW : Below w0.heap.size w0 W) => VCtx.ext (show VCtx w0 gl w.heap.size ga a aa c ac l args from ⟨hL.cell 0, hF.cell 1, hA.cell 0, hB.out.ext (Ext.below hw0), hI.out.ext (Ext.below hw0)⟩) (Ext.below hW))
 have V1_0 := Lib.hid (fun W (hW : Below w0.heap.size w0 W) => vec_P gl w.heap.size ga a aa c ac l args P 4 1 0 W (HC.out W hW) H.out (by omega) (by omega))
 have V1_2 := Lib.hid (fun W (hW : Below w0.heap.size w0 W) => vec_P gl w.heap.size ga a aa c ac l args P 4 1 2 W (HC.out W hW) H.out (by omega) (by omega))
 have V3_0 := Lib.hid (fun W (hW : Below w0.heap.size w0 W) => vec_P gl w.heap.size ga a aa c ac l args P 4 3 0 W (HC.out W hW) H.out (by omega) (by omega))
 have V3_2 := Lib.hid (fun W (hW : Below w0.heap.size w0 W) => vec_P gl w.heap.size ga a aa c ac l args P 4 3 2 W (HC.out W hW) H.out (by omega) (by omega))
 clear hF hL hA HC H
 have s0 : Below w0.heap.size w0 w0 := Below.refl _ _
 refine (V1_0.out _ s0).mono ?_
 rintro r w1 ⟨z1_1, z1_2, z1_3, z1_4, rfl, J1_1, J1_2, J1_3, J1_4, hb1⟩
 have s1 := below_then s0 hb1
 have K1_1 := Lib.hid J1_1
 have K1_2 := Lib.hid J1_2
 have K1_3 := Lib.hid J1_3
 have K1_4 := Lib.hid J1_4
 clear J1_1 J1_2 J1_3 J1_4
 go_wp2_with fail
 refine (V1_2.out _ s1).mono ?_
 rintro r w2 ⟨z2_1, z2_2, z2_3, z2_4, rfl, J2_1, J2_2, J2_3, J2_4, hb2⟩
 have s2 := below_then s1 hb2
 have K2_1 := Lib.hid J2_1
 have K2_2 := Lib.hid J2_2
 have K2_3 := Lib.hid J2_3
 have K2_4 := Lib.hid J2_4
 clear J2_1 J2_2 J2_3 J2_4
 go_wp2_with fail
 refine (V3_0.out _ s2).mono ?_
 rintro r w3 ⟨z3_1, z3_2, z3_3, z3_4, rfl, J3_1, J3_2, J3_3, J3_4, hb3⟩
 have s3 := below_then s2 hb3
 have K3_1 := Lib.hid J3_1
 have K3_2 := Lib.hid J3_2
 have K3_3 := Lib.hid J3_3
 have K3_4 := Lib.hid J3_4
 clear J3_1 J3_2 J3_3 J3_4
 go_wp2_with fail
 refine (V3_2.out _ s3).mono ?_
 rintro r w4 ⟨z4_1, z4_2, z4_3, z4_4, rfl, J4_1, J4_2, J4_3, J4_4, hb4⟩
 have s4 := below_then s3 hb4
 have K4_1 := Lib.hid J4_1
 have K4_2 := Lib.hid J4_2
 have K4_3 := Lib.hid J4_3
 have K4_4 := Lib.hid J4_4
 clear J4_1 J4_2 J4_3 J4_4
 go_wp2_with fail
 refine (angle_q z1_1 z1_2 z1_3 z1_4 z2_1 z2_2 z2_3 z2_4 z3_1 z3_2 z3_3 z3_4 z4_1 z4_2 z4_3 z4_4 (vecB (P 1) (P 0)).1 (vecB (P 1) (P 0)).2 (vecB (P 1) (P 2)).1 (vecB (P 1) (P 2)).2 (vecB (P 3) (P 0)).1 (vecB (P 3) (P 0)).2 (vecB (P 3) (P 2)).1 (vecB (P 3) (P 2)).2 5 _ (QK.more ((((K1_1.out.call hb2).call hb3).call hb4).now) (by omega)) (QK.more ((((K1_2.out.call hb2).call hb3).call hb4).now) (by omega)) (QK.more ((((K1_3.out.call hb2).call hb3).call hb4).now) (by omega)) (QK.more ((((K1_4.out.call hb2).call hb3).call hb4).now) (by omega)) (QK.more (((K2_1.out.call hb3).call hb4).now) (by omega)) (QK.more (((K2_2.out.call hb3).call hb4).now) (by omega)) (QK.more (((K2_3.out.call hb3).call hb4).now) (by omega)) (QK.more (((K2_4.out.call hb3).call hb4).now) (by omega)) (QK.more ((K3_1.out.call hb4).now) (by omega)) (QK.more ((K3_2.out.call hb4).now) (by omega)) (QK.more ((K3_3.out.call hb4).now) (by omega)) (QK.more ((K3_4.out.call hb4).now) (by omega)) (QK.more (K4_1.out.now) (by omega)) (QK.more (K4_2.out.now) (by omega)) (QK.more (K4_3.out.now) (by omega)) (QK.more (K4_4.out.now) (by omega)) (by omega)).mono ?_
 rintro r w5 ⟨z5_1, z5_2, rfl, J5_1, J5_2, hb5⟩
 have s5 := below_then s4 hb5
 have K5_1 := Lib.hid J5_1
 have K5_2 := Lib.hid J5_2
 clear J5_1 J5_2
 go_wp2
 go_ret
 exact ⟨[z5_1, z5_2], w5.heap.size, _, rfl, RowQ.m2 (Blk.new _ _ _), AllQ.m2 (QK.more K5_1.out.alloc.now (by omega)) (QK.more K5_2.out.alloc.now (by omega)), below_then hw0 (s5.alloc s5.size _)⟩
set_option maxRecDepth 100000 in
set_option maxHeartbeats 4000000 in
theorem values_k7 (a aa : Option Addr) (c ac : Nat) (l : List Bx) (args : List Int) (P : Nat → Iq × Iq) (xr : QA) (r : Rat) (w : World) (hB : BoxesR w a c l) (hI : IntsR w aa ac args) (H : VArgs l args P 8) :
  Calls Tryz.prog 34 #[.agg #[.int .i64 7, .slice aa args.length ac, .bool xr.neg, .slice xr.a xr.n xr.c, .slice xr.b xr.m xr.d], .slice a l.length c] w (RetVs 1 (valsI 7 P r) w) := by
 simp only [valsI, ends, List.cons_append, List.nil_append, if_true, reduceIte, reduceCtorEq, Int.reduceEq, if_false]
 replace hB := Lib.hid hB; replace hI := Lib.hid hI; replace H := Lib.hid H
 go_enter Tryz.func34, Tryz.ntmps34
 go_wp2_with fail
 refine calls_gen (fun W => Blk W w.heap.size 81 #[.int .i64 7, .slice aa args.length ac, .bool xr.neg, .slice xr.a xr.n xr.c, .slice xr.b xr.m xr.d] ∧ Blk W (w.heap.size + 1) 26 #[.slice a l.length c] ∧ Blk W (w.heap.size + 1 + 1) 124 #[.func (Fn.func 70) #[] #[.pointer (some ⟨w.heap.size + 1, 0, none⟩), .pointer (some ⟨w.heap.size, 0, none⟩)]] ∧ Below w.heap.size w W) ⟨by ((repeat first|with_reducible assumption|((with_reducible apply Blk.farAt);focus omega)|with_reducible apply Blk.setb|((with_reducible apply Blk.newAt);focus (simp;done))|with_reducible apply Blk.alloc|with_reducible apply Blk.drew);all_goals (show @Eq (Array Value) _ _;rfl)), by ((repeat first|with_reducible assumption|((with_reducible apply Blk.farAt);focus omega)|with_reducible apply Blk.setb|((with_reducible apply Blk.newAt);focus (simp;done))|with_reducible apply Blk.alloc|with_reducible apply Blk.drew);all_goals (show @Eq (Array Value) _ _;rfl)), by ((repeat first|with_reducible assumption|((with_reducible apply Blk.farAt);focus omega)|with_reducible apply Blk.setb|((with_reducible apply Blk.newAt);focus (simp;done))|with_reducible apply Blk.alloc|with_reducible apply Blk.drew);all_goals (show @Eq (Array Value) _ _;rfl)), by go_grown⟩ ?_
 rintro w0 ⟨hF, hL, hA, hw0⟩
 revert hF hL hA
 generalize w.heap.size + 1 + 1 = ga
 generalize w.heap.size + 1 = gl
 intro hF hL hA
 have HC := Lib.hid (fun W (hW : Below w0.heap.size w0 W) => VCtx.ext (show VCtx w0 gl w.heap.size ga a aa c ac l args from ⟨hL.cell 0, hF.cell 1, hA.cell 0, hB.out.ext (Ext.below hw0), hI.out.ext (Ext.below hw0)⟩) (Ext.below hW))
 have V0_1 := Lib.hid (fun W (hW : Below w0.heap.size w0 W) => vec_P gl w.heap.size ga a aa c ac l args P 8 0 1 W (HC.out W hW) H.out (by omega) (by omega))
 have V2_3 := Lib.hid (fun W (hW : Below w0.heap.size w0 W) => vec_P gl w.heap.size ga a aa c ac l args P 8 2 3 W (HC.out W hW) H.out (by omega) (by omega))
 have V4_5 := Lib.hid (fun W (hW : Below w0.heap.size w0 W) => vec_P gl w.heap.size ga a aa c ac l args P 8 4 5 W (HC.out W hW) H.out (by omega) (by omega))
 have V6_7 := Lib.hid (fun W (hW : Below w0.heap.size w0 W) => vec_P gl w.heap.size ga a aa c ac l args P 8 6 7 W (HC.out W hW) H.out (by omega) (by omega))
 clear hF hL hA HC H
 have s0 : Below w0.heap.size w0 w0 := Below.refl _ _
 refine (V0_1.out _ s0).mono ?_
 rintro r w1 ⟨z1_1, z1_2, z1_3, z1_4, rfl, J1_1, J1_2, J1_3, J1_4, hb1⟩
 have s1 := below_then s0 hb1
 have K1_1 := Lib.hid J1_1
 have K1_2 := Lib.hid J1_2
 have K1_3 := Lib.hid J1_3
 have K1_4 := Lib.hid J1_4
 clear J1_1 J1_2 J1_3 J1_4
 go_wp2_with fail
 refine (V2_3.out _ s1).mono ?_
 rintro r w2 ⟨z2_1, z2_2, z2_3, z2_4, rfl, J2_1, J2_2, J2_3, J2_4, hb2⟩
 have s2 := below_then s1 hb2
 have K2_1 := Lib.hid J2_1
 have K2_2 := Lib.hid J2_2
 have K2_3 := Lib.hid J2_3
 have K2_4 := Lib.hid J2_4
 clear J2_1 J2_2 J2_3 J2_4
 go_wp2_with fail
 refine (V4_5.out _ s2).mono ?_
 rintro r w3 ⟨z3_1, z3_2, z3_3, z3_4, rfl, J3_1, J3_2, J3_3, J3_4, hb3⟩
 have s3 := below_then s2 hb3
 have K3_1 := Lib.hid J3_1
 have K3_2 := Lib.hid J3_2
 have K3_3 := Lib.hid J3_3
 have K3_4 := Lib.hid J3_4
 clear J3_1 J3_2 J3_3 J3_4
 go_wp2_with fail
 refine (V6_7.out _ s3).mono ?_
 rintro r w4 ⟨z4_1, z4_2, z4_3, z4_4, rfl, J4_1, J4_2, J4_3, J4_4, hb4⟩
 have s4 := below_then s3 hb4
 have K4_1 := Lib.hid J4_1
 have K4_2 := Lib.hid J4_2
 have K4_3 := Lib.hid J4_3
 have K4_4 := Lib.hid J4_4
 clear J4_1 J4_2 J4_3 J4_4
 go_wp2_with fail
 refine (angle_q z1_1 z1_2 z1_3 z1_4 z2_1 z2_2 z2_3 z2_4 z3_1 z3_2 z3_3 z3_4 z4_1 z4_2 z4_3 z4_4 (vecB (P 0) (P 1)).1 (vecB (P 0) (P 1)).2 (vecB (P 2) (P 3)).1 (vecB (P 2) (P 3)).2 (vecB (P 4) (P 5)).1 (vecB (P 4) (P 5)).2 (vecB (P 6) (P 7)).1 (vecB (P 6) (P 7)).2 5 _ (QK.more ((((K1_1.out.call hb2).call hb3).call hb4).now) (by omega)) (QK.more ((((K1_2.out.call hb2).call hb3).call hb4).now) (by omega)) (QK.more ((((K1_3.out.call hb2).call hb3).call hb4).now) (by omega)) (QK.more ((((K1_4.out.call hb2).call hb3).call hb4).now) (by omega)) (QK.more (((K2_1.out.call hb3).call hb4).now) (by omega)) (QK.more (((K2_2.out.call hb3).call hb4).now) (by omega)) (QK.more (((K2_3.out.call hb3).call hb4).now) (by omega)) (QK.more (((K2_4.out.call hb3).call hb4).now) (by omega)) (QK.more ((K3_1.out.call hb4).now) (by omega)) (QK.more ((K3_2.out.call hb4).now) (by omega)) (QK.more ((K3_3.out.call hb4).now) (by omega)) (QK.more ((K3_4.out.call hb4).now) (by omega)) (QK.more (K4_1.out.now) (by omega)) (QK.more (K4_2.out.now) (by omega)) (QK.more (K4_3.out.now) (by omega)) (QK.more (K4_4.out.now) (by omega)) (by omega)).mono ?_
 rintro r w5 ⟨z5_1, z5_2, rfl, J5_1, J5_2, hb5⟩
 have s5 := below_then s4 hb5
 have K5_1 := Lib.hid J5_1
 have K5_2 := Lib.hid J5_2
 clear J5_1 J5_2
 go_wp2
 go_ret
 exact ⟨[z5_1, z5_2], w5.heap.size, _, rfl, RowQ.m2 (Blk.new _ _ _), AllQ.m2 (QK.more K5_1.out.alloc.now (by omega)) (QK.more K5_2.out.alloc.now (by omega)), below_then hw0 (s5.alloc s5.size _)⟩
set_option maxRecDepth 100000 in
set_option maxHeartbeats 4000000 in
theorem values_k8 (a aa : Option Addr) (c ac : Nat) (l : List Bx) (args : List Int) (P : Nat → Iq × Iq) (xr : QA) (r : Rat) (w : World) (hB : BoxesR w a c l) (hI : IntsR w aa ac args) (H : VArgs l args P 2) :
  Calls Tryz.prog 34 #[.agg #[.int .i64 8, .slice aa args.length ac, .bool xr.neg, .slice xr.a xr.n xr.c, .slice xr.b xr.m xr.d], .slice a l.length c] w (RetVs 2 (valsI 8 P r) w) := by
 simp only [valsI, ends, List.cons_append, List.nil_append, if_true, reduceIte, reduceCtorEq, Int.reduceEq, if_false]
 replace hB := Lib.hid hB; replace hI := Lib.hid hI; replace H := Lib.hid H
 go_enter Tryz.func34, Tryz.ntmps34
 go_wp2
 refine world_gen (fun W => Blk W w.heap.size 81 #[.int .i64 8, .slice aa args.length ac, .bool xr.neg, .slice xr.a xr.n xr.c, .slice xr.b xr.m xr.d] ∧ Blk W (w.heap.size + 1) 26 #[.slice a l.length c] ∧ Blk W (w.heap.size + 1 + 1) 124 #[.func (Fn.func 70) #[] #[.pointer (some ⟨w.heap.size + 1, 0, none⟩), .pointer (some ⟨w.heap.size, 0, none⟩)]] ∧ Below w.heap.size w W) ⟨by ((repeat first|with_reducible assumption|((with_reducible apply Blk.farAt);focus omega)|with_reducible apply Blk.setb|((with_reducible apply Blk.newAt);focus (simp;done))|with_reducible apply Blk.alloc|with_reducible apply Blk.drew);all_goals (show @Eq (Array Value) _ _;rfl)), by ((repeat first|with_reducible assumption|((with_reducible apply Blk.farAt);focus omega)|with_reducible apply Blk.setb|((with_reducible apply Blk.newAt);focus (simp;done))|with_reducible apply Blk.alloc|with_reducible apply Blk.drew);all_goals (show @Eq (Array Value) _ _;rfl)), by ((repeat first|with_reducible assumption|((with_reducible apply Blk.farAt);focus omega)|with_reducible apply Blk.setb|((with_reducible apply Blk.newAt);focus (simp;done))|with_reducible apply Blk.alloc|with_reducible apply Blk.drew);all_goals (show @Eq (Array Value) _ _;rfl)), by go_grown⟩ ?_
 rintro w0 ⟨hF, hL, hA, hw0⟩
 revert hF hL hA
 generalize w.heap.size + 1 + 1 = ga
 generalize w.heap.size + 1 = gl
 intro hF hL hA
 have HC := Lib.hid (fun W (hW : Below w0.heap.size w0 W) => VCtx.ext (show VCtx w0 gl w.heap.size ga a aa c ac l args from ⟨hL.cell 0, hF.cell 1, hA.cell 0, hB.out.ext (Ext.below hw0), hI.out.ext (Ext.below hw0)⟩) (Ext.below hW))
 have A0 := Lib.hid (fun W (hW : Below w0.heap.size w0 W) => at_P gl w.heap.size ga a aa c ac l args P 2 0 W (HC.out W hW) H.out (by omega))
 have A1 := Lib.hid (fun W (hW : Below w0.heap.size w0 W) => at_P gl w.heap.size ga a aa c ac l args P 2 1 W (HC.out W hW) H.out (by omega))
 have kA := held (hA.cell 0)
 clear hF hL hA HC H
 have s0 : Below w0.heap.size w0 w0.drew := (Below.refl _ _).drew
 refine wp_region_mix (S := Below w0.heap.size w0) [(0, .q), (3, .q), (7, .q), (10, .q), (1, .l), (2, .q), (4, .l), (5, .q), (6, .l), (8, .l), (9, .q), (11, .l), (12, .q), (13, .t), (14, .t), (15, .p)] (by kernel_rfl) (by kernel_rfl) (by kernel_rfl) (fun d _ _ _ _ h => by cases d <;> exact h) (s0) ?_
 iterate 4 (refine wpMix_q rfl rfl (fun K hK => ?_); apply Exists.intro; refine ⟨fun w' hw' => ?_, ?_⟩; (focus (go_simp; try rfl)); go_simp; refine hK _ _ ?_; clear hK K)
 refine wpMix_l rfl rfl (fun K hK => ?_)
 go_simp
 refine (A0.out _ s0).mono ?_
 rintro r w1 ⟨z1_1, z1_2, z1_3, z1_4, rfl, J1_1, J1_2, J1_3, J1_4, hb1⟩
 dsimp only
 refine hK.out _ _ (below_then s0 hb1) (fun _ => ?_)
 clear hK K
 have s1 := below_then s0 hb1
 have K1_1 := Lib.hid J1_1
 have K1_2 := Lib.hid J1_2
 have K1_3 := Lib.hid J1_3
 have K1_4 := Lib.hid J1_4
 clear J1_1 J1_2 J1_3 J1_4
 iterate 1 (refine wpMix_q rfl rfl (fun K hK => ?_); apply Exists.intro; refine ⟨fun w' hw' => ?_, ?_⟩; (focus (go_simp; try rfl)); go_simp; refine hK _ _ ?_; clear hK K)
 refine wpMix_l rfl rfl (fun K hK => ?_)
 go_simp
 refine (A1.out _ s1).mono ?_
 rintro r w2 ⟨z2_1, z2_2, z2_3, z2_4, rfl, J2_1, J2_2, J2_3, J2_4, hb2⟩
 dsimp only
 refine hK.out _ _ (below_then s1 hb2) (fun _ => ?_)
 clear hK K
 have s2 := below_then s1 hb2
 have K2_1 := Lib.hid J2_1
 have K2_2 := Lib.hid J2_2
 have K2_3 := Lib.hid J2_3
 have K2_4 := Lib.hid J2_4
 clear J2_1 J2_2 J2_3 J2_4
 iterate 1 (refine wpMix_q rfl rfl (fun K hK => ?_); apply Exists.intro; refine ⟨fun w' hw' => ?_, ?_⟩; (focus (go_simp; try rfl)); go_simp; refine hK _ _ ?_; clear hK K)
 refine wpMix_l rfl rfl (fun K hK => ?_)
 go_simp
 refine (isub_i z1_1 z1_2 z2_1 z2_2 (P 0).1 (P 1).1 2 _ (QK.more ((K1_1.out.call hb2).now) (by omega)) (QK.more ((K1_2.out.call hb2).now) (by omega)) (QK.more (K2_1.out.now) (by omega)) (QK.more (K2_2.out.now) (by omega)) (by omega)).mono ?_
 rintro r w3 ⟨z3_1, z3_2, rfl, J3_1, J3_2, hb3⟩
 dsimp only
 refine hK.out _ _ (below_then s2 hb3) (fun _ => ?_)
 clear hK K
 have s3 := below_then s2 hb3
 have K3_1 := Lib.hid J3_1
 have K3_2 := Lib.hid J3_2
 clear J3_1 J3_2
 refine wpMix_l rfl rfl (fun K hK => ?_)
 go_simp
 refine (A0.out _ s3).mono ?_
 rintro r w4 ⟨z4_1, z4_2, z4_3, z4_4, rfl, J4_1, J4_2, J4_3, J4_4, hb4⟩
 dsimp only
 refine hK.out _ _ (below_then s3 hb4) (fun _ => ?_)
 clear hK K
 have s4 := below_then s3 hb4
 have K4_1 := Lib.hid J4_1
 have K4_2 := Lib.hid J4_2
 have K4_3 := Lib.hid J4_3
 have K4_4 := Lib.hid J4_4
 clear J4_1 J4_2 J4_3 J4_4
 iterate 1 (refine wpMix_q rfl rfl (fun K hK => ?_); apply Exists.intro; refine ⟨fun w' hw' => ?_, ?_⟩; (focus (go_simp; try rfl)); go_simp; refine hK _ _ ?_; clear hK K)
 refine wpMix_l rfl rfl (fun K hK => ?_)
 go_simp
 refine (A1.out _ s4).mono ?_
 rintro r w5 ⟨z5_1, z5_2, z5_3, z5_4, rfl, J5_1, J5_2, J5_3, J5_4, hb5⟩
 dsimp only
 refine hK.out _ _ (below_then s4 hb5) (fun _ => ?_)
 clear hK K
 have s5 := below_then s4 hb5
 have K5_1 := Lib.hid J5_1
 have K5_2 := Lib.hid J5_2
 have K5_3 := Lib.hid J5_3
 have K5_4 := Lib.hid J5_4
 clear J5_1 J5_2 J5_3 J5_4
 iterate 1 (refine wpMix_q rfl rfl (fun K hK => ?_); apply Exists.intro; refine ⟨fun w' hw' => ?_, ?_⟩; (focus (go_simp; try rfl)); go_simp; refine hK _ _ ?_; clear hK K)
 refine wpMix_t rfl rfl (fun K hK => ?_)
 go_simp
 refine (isub_i z4_3 z4_4 z5_3 z5_4 (P 0).2 (P 1).2 2 _ (QK.more ((K4_3.out.call hb5).now) (by omega)) (QK.more ((K4_4.out.call hb5).now) (by omega)) (QK.more (K5_3.out.now) (by omega)) (QK.more (K5_4.out.now) (by omega)) (by omega)).mono ?_
 rintro r w6 ⟨z6_1, z6_2, rfl, J6_1, J6_2, hb6⟩
 dsimp only
 refine hK.out _ _ ?_
 clear hK K
 have s6 := below_then s5 hb6
 have K6_1 := Lib.hid J6_1
 have K6_2 := Lib.hid J6_2
 clear J6_1 J6_2
 refine wpMix_t rfl rfl (fun K hK => ?_)
 go_simp
 refine hK.out _ _ ?_
 clear hK K
 iterate 1 (refine wpMix_p rfl rfl (fun K hK => ?_); apply Exists.intro; refine ⟨fun w' => ?_, ?_⟩; (focus (go_simp; try rfl)); go_simp; refine hK _ _ ?_; clear hK K)
 refine wpMix_nil ?_
 go_wp2
 go_ret
 exact ⟨[z3_1, z3_2, z6_1, z6_2], w6.heap.size, _, rfl, RowQ.m4 (Blk.new _ _ _), AllQ.m4 (QK.more (((K3_1.out.call hb4).call hb5).call hb6).alloc.now (by omega)) (QK.more (((K3_2.out.call hb4).call hb5).call hb6).alloc.now (by omega)) (QK.more K6_1.out.alloc.now (by omega)) (QK.more K6_2.out.alloc.now (by omega)), below_then hw0 (s6.alloc s6.size _)⟩
set_option maxRecDepth 100000 in
set_option maxHeartbeats 4000000 in
theorem values_k9 (a aa : Option Addr) (c ac : Nat) (l : List Bx) (args : List Int) (P : Nat → Iq × Iq) (xr : QA) (r : Rat) (w : World) (hB : BoxesR w a c l) (hI : IntsR w aa ac args) (H : VArgs l args P 4) (hr : QK 2 w xr r) :
  Calls Tryz.prog 34 #[.agg #[.int .i64 9, .slice aa args.length ac, .bool xr.neg, .slice xr.a xr.n xr.c, .slice xr.b xr.m xr.d], .slice a l.length c] w (RetVs 1 (valsI 9 P r) w) := by
 simp only [valsI, ends, List.cons_append, List.nil_append, if_true, reduceIte, reduceCtorEq, Int.reduceEq, if_false]
 replace hr := Lib.hid hr
 replace hB := Lib.hid hB; replace hI := Lib.hid hI; replace H := Lib.hid H
 go_enter Tryz.func34, Tryz.ntmps34
 go_wp2
 refine world_gen (fun W => Blk W w.heap.size 81 #[.int .i64 9, .slice aa args.length ac, .bool xr.neg, .slice xr.a xr.n xr.c, .slice xr.b xr.m xr.d] ∧ Blk W (w.heap.size + 1) 26 #[.slice a l.length c] ∧ Blk W (w.heap.size + 1 + 1) 124 #[.func (Fn.func 70) #[] #[.pointer (some ⟨w.heap.size + 1, 0, none⟩), .pointer (some ⟨w.heap.size, 0, none⟩)]] ∧ Below w.heap.size w W) ⟨by ((repeat first|with_reducible assumption|((with_reducible apply Blk.farAt);focus omega)|with_reducible apply Blk.setb|((with_reducible apply Blk.newAt);focus (simp;done))|with_reducible apply Blk.alloc|with_reducible apply Blk.drew);all_goals (show @Eq (Array Value) _ _;rfl)), by ((repeat first|with_reducible assumption|((with_reducible apply Blk.farAt);focus omega)|with_reducible apply Blk.setb|((with_reducible apply Blk.newAt);focus (simp;done))|with_reducible apply Blk.alloc|with_reducible apply Blk.drew);all_goals (show @Eq (Array Value) _ _;rfl)), by ((repeat first|with_reducible assumption|((with_reducible apply Blk.farAt);focus omega)|with_reducible apply Blk.setb|((with_reducible apply Blk.newAt);focus (simp;done))|with_reducible apply Blk.alloc|with_reducible apply Blk.drew);all_goals (show @Eq (Array Value) _ _;rfl)), by go_grown⟩ ?_
 rintro w0 ⟨hF, hL, hA, hw0⟩
 revert hF hL hA
 generalize w.heap.size + 1 + 1 = ga
 generalize w.heap.size + 1 = gl
 intro hF hL hA
 have HC := Lib.hid (fun W (hW : Below w0.heap.size w0 W) => VCtx.ext (show VCtx w0 gl w.heap.size ga a aa c ac l args from ⟨hL.cell 0, hF.cell 1, hA.cell 0, hB.out.ext (Ext.below hw0), hI.out.ext (Ext.below hw0)⟩) (Ext.below hW))
 have V0_1 := Lib.hid (fun W (hW : Below w0.heap.size w0 W) => vec_P gl w.heap.size ga a aa c ac l args P 4 0 1 W (HC.out W hW) H.out (by omega) (by omega))
 have V2_3 := Lib.hid (fun W (hW : Below w0.heap.size w0 W) => vec_P gl w.heap.size ga a aa c ac l args P 4 2 3 W (HC.out W hW) H.out (by omega) (by omega))
 have kA := held (hA.cell 0)
 have kr0 := held (hF.cell 2); have kr1 := held (hF.cell 3); have kr2 := held (hF.cell 4)
 have Xxr := Lib.hid (fun W (hW : Below w0.heap.size w0 W) => hr.out.ext (Ext.below (below_then hw0 hW)))
 clear hF hL hA HC H
 have s0 : Below w0.heap.size w0 w0.drew := (Below.refl _ _).drew
 refine wp_region_mix (S := Below w0.heap.size w0) [(0, .q), (3, .q), (4, .q), (6, .q), (1, .l), (2, .l), (5, .l), (7, .t), (8, .t), (9, .t), (10, .t), (11, .t), (12, .p)] (by kernel_rfl) (by kernel_rfl) (by kernel_rfl) (fun d _ _ _ _ h => by cases d <;> exact h) (s0) ?_
 iterate 4 (refine wpMix_q rfl rfl (fun K hK => ?_); apply Exists.intro; refine ⟨fun w' hw' => ?_, ?_⟩; (focus (go_simp; try rfl)); go_simp; refine hK _ _ ?_; clear hK K)
 refine wpMix_l rfl rfl (fun K hK => ?_)
 go_simp
 refine (V0_1.out _ s0).mono ?_
 rintro r w1 ⟨z1_1, z1_2, z1_3, z1_4, rfl, J1_1, J1_2, J1_3, J1_4, hb1⟩
 dsimp only
 refine hK.out _ _ (below_then s0 hb1) (fun _ => ?_)
 clear hK K
 have s1 := below_then s0 hb1
 have K1_1 := Lib.hid J1_1
 have K1_2 := Lib.hid J1_2
 have K1_3 := Lib.hid J1_3
 have K1_4 := Lib.hid J1_4
 clear J1_1 J1_2 J1_3 J1_4
 refine wpMix_l rfl rfl (fun K hK => ?_)
 go_simp
 refine (norm_q z1_1 z1_2 z1_3 z1_4 (vecB (P 0) (P 1)).1 (vecB (P 0) (P 1)).2 5 _ (QK.more (K1_1.out.now) (by omega)) (QK.more (K1_2.out.now) (by omega)) (QK.more (K1_3.out.now) (by omega)) (QK.more (K1_4.out.now) (by omega)) (by omega)).mono ?_
 rintro r w2 ⟨z2_1, z2_2, rfl, J2_1, J2_2, hb2⟩
 dsimp only
 refine hK.out _ _ (below_then s1 hb2) (fun _ => ?_)
 clear hK K
 have s2 := below_then s1 hb2
 have K2_1 := Lib.hid J2_1
 have K2_2 := Lib.hid J2_2
 clear J2_1 J2_2
 refine wpMix_l rfl rfl (fun K hK => ?_)
 go_simp
 refine (point_q xr _).mono ?_
 rintro r w3 ⟨rfl, hb3⟩
 dsimp only
 refine hK.out _ _ (below_then s2 hb3) (fun _ => ?_)
 clear hK K
 have s3 := below_then s2 hb3
 refine wpMix_t rfl rfl (fun K hK => ?_)
 go_simp
 refine (V2_3.out _ s3).mono ?_
 rintro r w4 ⟨z4_1, z4_2, z4_3, z4_4, rfl, J4_1, J4_2, J4_3, J4_4, hb4⟩
 dsimp only
 refine hK.out _ _ ?_
 clear hK K
 have s4 := below_then s3 hb4
 have K4_1 := Lib.hid J4_1
 have K4_2 := Lib.hid J4_2
 have K4_3 := Lib.hid J4_3
 have K4_4 := Lib.hid J4_4
 clear J4_1 J4_2 J4_3 J4_4
 refine wpMix_t rfl rfl (fun K hK => ?_)
 go_simp
 refine (norm_q z4_1 z4_2 z4_3 z4_4 (vecB (P 2) (P 3)).1 (vecB (P 2) (P 3)).2 5 _ (QK.more (K4_1.out.now) (by omega)) (QK.more (K4_2.out.now) (by omega)) (QK.more (K4_3.out.now) (by omega)) (QK.more (K4_4.out.now) (by omega)) (by omega)).mono ?_
 rintro r w5 ⟨z5_1, z5_2, rfl, J5_1, J5_2, hb5⟩
 dsimp only
 refine hK.out _ _ ?_
 clear hK K
 have s5 := below_then s4 hb5
 have K5_1 := Lib.hid J5_1
 have K5_2 := Lib.hid J5_2
 clear J5_1 J5_2
 refine wpMix_t rfl rfl (fun K hK => ?_)
 go_simp
 refine (imul_i xr xr z5_1 z5_2 (r, r) (normI (vecB (P 2) (P 3)).1 (vecB (P 2) (P 3)).2) 23 _ (QK.more (Xxr.out _ s5) (by omega)) (QK.more (Xxr.out _ s5) (by omega)) (QK.more (K5_1.out.now) (by omega)) (QK.more (K5_2.out.now) (by omega)) (by omega)).mono ?_
 rintro r w6 ⟨z6_1, z6_2, rfl, J6_1, J6_2, hb6⟩
 dsimp only
 refine hK.out _ _ ?_
 clear hK K
 have s6 := below_then s5 hb6
 have K6_1 := Lib.hid J6_1
 have K6_2 := Lib.hid J6_2
 clear J6_1 J6_2
 refine wpMix_t rfl rfl (fun K hK => ?_)
 go_simp
 refine (isub_i z2_1 z2_2 z6_1 z6_2 (normI (vecB (P 0) (P 1)).1 (vecB (P 0) (P 1)).2) (mulI (r, r) (normI (vecB (P 2) (P 3)).1 (vecB (P 2) (P 3)).2)) 46 _ (QK.more (((((K2_1.out.call hb3).call hb4).call hb5).call hb6).now) (by omega)) (QK.more (((((K2_2.out.call hb3).call hb4).call hb5).call hb6).now) (by omega)) (QK.more (K6_1.out.now) (by omega)) (QK.more (K6_2.out.now) (by omega)) (by omega)).mono ?_
 rintro r w7 ⟨z7_1, z7_2, rfl, J7_1, J7_2, hb7⟩
 dsimp only
 refine hK.out _ _ ?_
 clear hK K
 have s7 := below_then s6 hb7
 have K7_1 := Lib.hid J7_1
 have K7_2 := Lib.hid J7_2
 clear J7_1 J7_2
 refine wpMix_t rfl rfl (fun K hK => ?_)
 go_simp
 refine hK.out _ _ ?_
 clear hK K
 iterate 1 (refine wpMix_p rfl rfl (fun K hK => ?_); apply Exists.intro; refine ⟨fun w' => ?_, ?_⟩; (focus (go_simp; try rfl)); go_simp; refine hK _ _ ?_; clear hK K)
 refine wpMix_nil ?_
 go_wp2
 go_ret
 exact ⟨[z7_1, z7_2], w7.heap.size, _, rfl, RowQ.m2 (Blk.new _ _ _), AllQ.m2 (QK.more K7_1.out.alloc.now (by omega)) (QK.more K7_2.out.alloc.now (by omega)), below_then hw0 (s7.alloc s7.size _)⟩
end Go.Proofs.YtaihkpjbnkgmlaaGreat
