/- Walk: the reference's value for two full angles. (Printed by rot.py.) -/
import Derived.Test.YtaihkpjbnkgmlaaGreatRf31
import Derived.Test.YtaihkpjbnkgmlaaGreatRf33

/- Walk: the reference's value for two full angles. (Printed by rot.py.) -/
namespace Go.Proofs.YtaihkpjbnkgmlaaGreat
open Go.RowKit

/-- the cells of block g from 0 on hold these boxes -/
def RowB (w : World) (g : Nat) (bs : List B4) : Prop := ∀ i b, bs[i]? = some b → ∀ j u, b.cs[j]? = some u → w.cell? ⟨g, i * 12 + j, none⟩ = some u
/-- the boxes read as Q 0, Q 1 .. -/
def AllB (w : World) (bs : List B4) (Q : Nat → Iq × Iq) : Prop := ∀ i b, bs[i]? = some b → B4R w b (Q i)
theorem AllB.ext {w w' : World} {bs : List B4} {Q : Nat → Iq × Iq} (h : AllB w bs Q) (e : Ext w w') : AllB w' bs Q := fun i b hb => (h i b hb).ext e
def quad (v : Iq × Iq) : List Rat := [v.1.1, v.1.2, v.2.1, v.2.2]
theorem lenQ4 {l : List QA} (h : l.length = 4) : ∃ a b c d, l = [a, b, c, d] := by
 match l, h with
 | [a, b, c, d], _ => exact ⟨a, b, c, d, rfl⟩
theorem AllQ.o4 {k B T : Nat} {w : World} {x1 x2 x3 x4 : QA} {v : Iq × Iq} (h : Kp (fun V => AllQ k V [x1, x2, x3, x4] (quad v)) B T w) :
  Kp (fun V => QK k V x1 v.1.1) B T w ∧ Kp (fun V => QK k V x2 v.1.2) B T w ∧ Kp (fun V => QK k V x3 v.2.1) B T w ∧ Kp (fun V => QK k V x4 v.2.2) B T w :=
 ⟨h.imp fun _ h => h.2 0 _ _ rfl rfl, h.imp fun _ h => h.2 1 _ _ rfl rfl, h.imp fun _ h => h.2 2 _ _ rfl rfl, h.imp fun _ h => h.2 3 _ _ rfl rfl⟩
set_option maxRecDepth 100000 in
set_option maxHeartbeats 8000000 in
theorem rotated_q (b0 b1 b2 b3 b4 b5 b6 b7 : B4) (Q : Nat → Iq × Iq) (g cp : Nat) (w : World) (hr : RowB w g [b0, b1, b2, b3, b4, b5, b6, b7]) (hB : AllB w [b0, b1, b2, b3, b4, b5, b6, b7] Q) :
  Calls Tryz.prog 90 #[.slice (some ⟨g, 0, none⟩) 8 cp] w (RetI2 300 (angleI (vecB (Q 0) (Q 1)).1 (vecB (Q 0) (Q 1)).2 (vecB (Q 2) (Q 3)).1 (vecB (Q 2) (Q 3)).2 (vecB (Q 4) (Q 5)).1 (vecB (Q 4) (Q 5)).2 (vecB (Q 6) (Q 7)).1 (vecB (Q 6) (Q 7)).2).1 (angleI (vecB (Q 0) (Q 1)).1 (vecB (Q 0) (Q 1)).2 (vecB (Q 2) (Q 3)).1 (vecB (Q 2) (Q 3)).2 (vecB (Q 4) (Q 5)).1 (vecB (Q 4) (Q 5)).2 (vecB (Q 6) (Q 7)).1 (vecB (Q 6) (Q 7)).2).2 w) := by
 have HB := Lib.hid (fun W (hW : Below w.heap.size w W) => hB.ext (Ext.below hW))
 have d0_0 := held (show w.cell? ⟨g, 0, none⟩ = some _ from hr 0 _ rfl 0 _ rfl)
 have d0_1 := held (show w.cell? ⟨g, 1, none⟩ = some _ from hr 0 _ rfl 1 _ rfl)
 have d0_2 := held (show w.cell? ⟨g, 2, none⟩ = some _ from hr 0 _ rfl 2 _ rfl)
 have d0_3 := held (show w.cell? ⟨g, 3, none⟩ = some _ from hr 0 _ rfl 3 _ rfl)
 have d0_4 := held (show w.cell? ⟨g, 4, none⟩ = some _ from hr 0 _ rfl 4 _ rfl)
 have d0_5 := held (show w.cell? ⟨g, 5, none⟩ = some _ from hr 0 _ rfl 5 _ rfl)
 have d0_6 := held (show w.cell? ⟨g, 6, none⟩ = some _ from hr 0 _ rfl 6 _ rfl)
 have d0_7 := held (show w.cell? ⟨g, 7, none⟩ = some _ from hr 0 _ rfl 7 _ rfl)
 have d0_8 := held (show w.cell? ⟨g, 8, none⟩ = some _ from hr 0 _ rfl 8 _ rfl)
 have d0_9 := held (show w.cell? ⟨g, 9, none⟩ = some _ from hr 0 _ rfl 9 _ rfl)
 have d0_10 := held (show w.cell? ⟨g, 10, none⟩ = some _ from hr 0 _ rfl 10 _ rfl)
 have d0_11 := held (show w.cell? ⟨g, 11, none⟩ = some _ from hr 0 _ rfl 11 _ rfl)
 have d1_0 := held (show w.cell? ⟨g, 12, none⟩ = some _ from hr 1 _ rfl 0 _ rfl)
 have d1_1 := held (show w.cell? ⟨g, 13, none⟩ = some _ from hr 1 _ rfl 1 _ rfl)
 have d1_2 := held (show w.cell? ⟨g, 14, none⟩ = some _ from hr 1 _ rfl 2 _ rfl)
 have d1_3 := held (show w.cell? ⟨g, 15, none⟩ = some _ from hr 1 _ rfl 3 _ rfl)
 have d1_4 := held (show w.cell? ⟨g, 16, none⟩ = some _ from hr 1 _ rfl 4 _ rfl)
 have d1_5 := held (show w.cell? ⟨g, 17, none⟩ = some _ from hr 1 _ rfl 5 _ rfl)
 have d1_6 := held (show w.cell? ⟨g, 18, none⟩ = some _ from hr 1 _ rfl 6 _ rfl)
 have d1_7 := held (show w.cell? ⟨g, 19, none⟩ = some _ from hr 1 _ rfl 7 _ rfl)
 have d1_8 := held (show w.cell? ⟨g, 20, none⟩ = some _ from hr 1 _ rfl 8 _ rfl)
 have d1_9 := held (show w.cell? ⟨g, 21, none⟩ = some _ from hr 1 _ rfl 9 _ rfl)
 have d1_10 := held (show w.cell? ⟨g, 22, none⟩ = some _ from hr 1 _ rfl 10 _ rfl)
 have d1_11 := held (show w.cell? ⟨g, 23, none⟩ = some _ from hr 1 _ rfl 11 _ rfl)
 have d2_0 := held (show w.cell? ⟨g, 24, none⟩ = some _ from hr 2 _ rfl 0 _ rfl)
 have d2_1 := held (show w.cell? ⟨g, 25, none⟩ = some _ from hr 2 _ rfl 1 _ rfl)
 have d2_2 := held (show w.cell? ⟨g, 26, none⟩ = some _ from hr 2 _ rfl 2 _ rfl)
 have d2_3 := held (show w.cell? ⟨g, 27, none⟩ = some _ from hr 2 _ rfl 3 _ rfl)
 have d2_4 := held (show w.cell? ⟨g, 28, none⟩ = some _ from hr 2 _ rfl 4 _ rfl)
 have d2_5 := held (show w.cell? ⟨g, 29, none⟩ = some _ from hr 2 _ rfl 5 _ rfl)
 have d2_6 := held (show w.cell? ⟨g, 30, none⟩ = some _ from hr 2 _ rfl 6 _ rfl)
 have d2_7 := held (show w.cell? ⟨g, 31, none⟩ = some _ from hr 2 _ rfl 7 _ rfl)
 have d2_8 := held (show w.cell? ⟨g, 32, none⟩ = some _ from hr 2 _ rfl 8 _ rfl)
 have d2_9 := held (show w.cell? ⟨g, 33, none⟩ = some _ from hr 2 _ rfl 9 _ rfl)
 have d2_10 := held (show w.cell? ⟨g, 34, none⟩ = some _ from hr 2 _ rfl 10 _ rfl)
 have d2_11 := held (show w.cell? ⟨g, 35, none⟩ = some _ from hr 2 _ rfl 11 _ rfl)
 have d3_0 := held (show w.cell? ⟨g, 36, none⟩ = some _ from hr 3 _ rfl 0 _ rfl)
 have d3_1 := held (show w.cell? ⟨g, 37, none⟩ = some _ from hr 3 _ rfl 1 _ rfl)
 have d3_2 := held (show w.cell? ⟨g, 38, none⟩ = some _ from hr 3 _ rfl 2 _ rfl)
 have d3_3 := held (show w.cell? ⟨g, 39, none⟩ = some _ from hr 3 _ rfl 3 _ rfl)
 have d3_4 := held (show w.cell? ⟨g, 40, none⟩ = some _ from hr 3 _ rfl 4 _ rfl)
 have d3_5 := held (show w.cell? ⟨g, 41, none⟩ = some _ from hr 3 _ rfl 5 _ rfl)
 have d3_6 := held (show w.cell? ⟨g, 42, none⟩ = some _ from hr 3 _ rfl 6 _ rfl)
 have d3_7 := held (show w.cell? ⟨g, 43, none⟩ = some _ from hr 3 _ rfl 7 _ rfl)
 have d3_8 := held (show w.cell? ⟨g, 44, none⟩ = some _ from hr 3 _ rfl 8 _ rfl)
 have d3_9 := held (show w.cell? ⟨g, 45, none⟩ = some _ from hr 3 _ rfl 9 _ rfl)
 have d3_10 := held (show w.cell? ⟨g, 46, none⟩ = some _ from hr 3 _ rfl 10 _ rfl)
 have d3_11 := held (show w.cell? ⟨g, 47, none⟩ = some _ from hr 3 _ rfl 11 _ rfl)
 have d4_0 := held (show w.cell? ⟨g, 48, none⟩ = some _ from hr 4 _ rfl 0 _ rfl)
 have d4_1 := held (show w.cell? ⟨g, 49, none⟩ = some _ from hr 4 _ rfl 1 _ rfl)
 have d4_2 := held (show w.cell? ⟨g, 50, none⟩ = some _ from hr 4 _ rfl 2 _ rfl)
 have d4_3 := held (show w.cell? ⟨g, 51, none⟩ = some _ from hr 4 _ rfl 3 _ rfl)
 have d4_4 := held (show w.cell? ⟨g, 52, none⟩ = some _ from hr 4 _ rfl 4 _ rfl)
 have d4_5 := held (show w.cell? ⟨g, 53, none⟩ = some _ from hr 4 _ rfl 5 _ rfl)
 have d4_6 := held (show w.cell? ⟨g, 54, none⟩ = some _ from hr 4 _ rfl 6 _ rfl)
 have d4_7 := held (show w.cell? ⟨g, 55, none⟩ = some _ from hr 4 _ rfl 7 _ rfl)
 have d4_8 := held (show w.cell? ⟨g, 56, none⟩ = some _ from hr 4 _ rfl 8 _ rfl)
 have d4_9 := held (show w.cell? ⟨g, 57, none⟩ = some _ from hr 4 _ rfl 9 _ rfl)
 have d4_10 := held (show w.cell? ⟨g, 58, none⟩ = some _ from hr 4 _ rfl 10 _ rfl)
 have d4_11 := held (show w.cell? ⟨g, 59, none⟩ = some _ from hr 4 _ rfl 11 _ rfl)
 have d5_0 := held (show w.cell? ⟨g, 60, none⟩ = some _ from hr 5 _ rfl 0 _ rfl)
 have d5_1 := held (show w.cell? ⟨g, 61, none⟩ = some _ from hr 5 _ rfl 1 _ rfl)
 have d5_2 := held (show w.cell? ⟨g, 62, none⟩ = some _ from hr 5 _ rfl 2 _ rfl)
 have d5_3 := held (show w.cell? ⟨g, 63, none⟩ = some _ from hr 5 _ rfl 3 _ rfl)
 have d5_4 := held (show w.cell? ⟨g, 64, none⟩ = some _ from hr 5 _ rfl 4 _ rfl)
 have d5_5 := held (show w.cell? ⟨g, 65, none⟩ = some _ from hr 5 _ rfl 5 _ rfl)
 have d5_6 := held (show w.cell? ⟨g, 66, none⟩ = some _ from hr 5 _ rfl 6 _ rfl)
 have d5_7 := held (show w.cell? ⟨g, 67, none⟩ = some _ from hr 5 _ rfl 7 _ rfl)
 have d5_8 := held (show w.cell? ⟨g, 68, none⟩ = some _ from hr 5 _ rfl 8 _ rfl)
 have d5_9 := held (show w.cell? ⟨g, 69, none⟩ = some _ from hr 5 _ rfl 9 _ rfl)
 have d5_10 := held (show w.cell? ⟨g, 70, none⟩ = some _ from hr 5 _ rfl 10 _ rfl)
 have d5_11 := held (show w.cell? ⟨g, 71, none⟩ = some _ from hr 5 _ rfl 11 _ rfl)
 have d6_0 := held (show w.cell? ⟨g, 72, none⟩ = some _ from hr 6 _ rfl 0 _ rfl)
 have d6_1 := held (show w.cell? ⟨g, 73, none⟩ = some _ from hr 6 _ rfl 1 _ rfl)
 have d6_2 := held (show w.cell? ⟨g, 74, none⟩ = some _ from hr 6 _ rfl 2 _ rfl)
 have d6_3 := held (show w.cell? ⟨g, 75, none⟩ = some _ from hr 6 _ rfl 3 _ rfl)
 have d6_4 := held (show w.cell? ⟨g, 76, none⟩ = some _ from hr 6 _ rfl 4 _ rfl)
 have d6_5 := held (show w.cell? ⟨g, 77, none⟩ = some _ from hr 6 _ rfl 5 _ rfl)
 have d6_6 := held (show w.cell? ⟨g, 78, none⟩ = some _ from hr 6 _ rfl 6 _ rfl)
 have d6_7 := held (show w.cell? ⟨g, 79, none⟩ = some _ from hr 6 _ rfl 7 _ rfl)
 have d6_8 := held (show w.cell? ⟨g, 80, none⟩ = some _ from hr 6 _ rfl 8 _ rfl)
 have d6_9 := held (show w.cell? ⟨g, 81, none⟩ = some _ from hr 6 _ rfl 9 _ rfl)
 have d6_10 := held (show w.cell? ⟨g, 82, none⟩ = some _ from hr 6 _ rfl 10 _ rfl)
 have d6_11 := held (show w.cell? ⟨g, 83, none⟩ = some _ from hr 6 _ rfl 11 _ rfl)
 have d7_0 := held (show w.cell? ⟨g, 84, none⟩ = some _ from hr 7 _ rfl 0 _ rfl)
 have d7_1 := held (show w.cell? ⟨g, 85, none⟩ = some _ from hr 7 _ rfl 1 _ rfl)
 have d7_2 := held (show w.cell? ⟨g, 86, none⟩ = some _ from hr 7 _ rfl 2 _ rfl)
 have d7_3 := held (show w.cell? ⟨g, 87, none⟩ = some _ from hr 7 _ rfl 3 _ rfl)
 have d7_4 := held (show w.cell? ⟨g, 88, none⟩ = some _ from hr 7 _ rfl 4 _ rfl)
 have d7_5 := held (show w.cell? ⟨g, 89, none⟩ = some _ from hr 7 _ rfl 5 _ rfl)
 have d7_6 := held (show w.cell? ⟨g, 90, none⟩ = some _ from hr 7 _ rfl 6 _ rfl)
 have d7_7 := held (show w.cell? ⟨g, 91, none⟩ = some _ from hr 7 _ rfl 7 _ rfl)
 have d7_8 := held (show w.cell? ⟨g, 92, none⟩ = some _ from hr 7 _ rfl 8 _ rfl)
 have d7_9 := held (show w.cell? ⟨g, 93, none⟩ = some _ from hr 7 _ rfl 9 _ rfl)
 have d7_10 := held (show w.cell? ⟨g, 94, none⟩ = some _ from hr 7 _ rfl 10 _ rfl)
 have d7_11 := held (show w.cell? ⟨g, 95, none⟩ = some _ from hr 7 _ rfl 11 _ rfl)
 clear hr hB
 go_enter Tryz.func90, Tryz.ntmps90
 go_wp2
 refine world_gen (fun W => Blk W w.heap.size 73 #[.bool false, .slice none 0 0, .slice none 0 0, .bool false, .slice none 0 0, .slice none 0 0] ∧ Below w.heap.size w W) ⟨by ((repeat first|with_reducible assumption|((with_reducible apply Blk.farAt);focus omega)|with_reducible apply Blk.setb|((with_reducible apply Blk.newAt);focus (simp;done))|with_reducible apply Blk.alloc|with_reducible apply Blk.drew);all_goals (show @Eq (Array Value) _ _;rfl)), by go_grown⟩ ?_
 rintro w0 ⟨h0, hw0⟩
 have s0 : Below w.heap.size w w0.drew := hw0.drew
 have hz0 := h0.drew
 refine wp_region_lanes (S := Below w.heap.size w) [0, 1, 2, 3, 4, 5, 7, 8, 9, 10, 11, 12, 14, 15, 16, 17, 18, 19, 21, 22, 23, 24, 25, 26] [6, 13, 20, 27] [28, 29, 30, 31] [32, 33, 34, 35] (fun k => ⟨75, 4, fun z V => AllQ 5 V z (quad (vecB (Q (2 * k)) (Q (2 * k + 1))))⟩) (fun v p => ⟨#[.slice (some ⟨g, 0, none⟩) 8 cp, undef, .pointer (some ⟨w.heap.size, 0, none⟩), p 0, p 1, p 2, p 3, .slice (some ⟨g, 0, none⟩) 8 cp, .pointer (some ⟨g, 0, none⟩), .agg #[.bool b0.x1.neg, .slice b0.x1.a b0.x1.n b0.x1.c, .slice b0.x1.b b0.x1.m b0.x1.d, .bool b0.x2.neg, .slice b0.x2.a b0.x2.n b0.x2.c, .slice b0.x2.b b0.x2.m b0.x2.d, .bool b0.x3.neg, .slice b0.x3.a b0.x3.n b0.x3.c, .slice b0.x3.b b0.x3.m b0.x3.d, .bool b0.x4.neg, .slice b0.x4.a b0.x4.n b0.x4.c, .slice b0.x4.b b0.x4.m b0.x4.d], .slice (some ⟨g, 0, none⟩) 8 cp, .pointer (some ⟨g, 12, none⟩), .agg #[.bool b1.x1.neg, .slice b1.x1.a b1.x1.n b1.x1.c, .slice b1.x1.b b1.x1.m b1.x1.d, .bool b1.x2.neg, .slice b1.x2.a b1.x2.n b1.x2.c, .slice b1.x2.b b1.x2.m b1.x2.d, .bool b1.x3.neg, .slice b1.x3.a b1.x3.n b1.x3.c, .slice b1.x3.b b1.x3.m b1.x3.d, .bool b1.x4.neg, .slice b1.x4.a b1.x4.n b1.x4.c, .slice b1.x4.b b1.x4.m b1.x4.d], v 0, .slice (some ⟨g, 0, none⟩) 8 cp, .pointer (some ⟨g, 24, none⟩), .agg #[.bool b2.x1.neg, .slice b2.x1.a b2.x1.n b2.x1.c, .slice b2.x1.b b2.x1.m b2.x1.d, .bool b2.x2.neg, .slice b2.x2.a b2.x2.n b2.x2.c, .slice b2.x2.b b2.x2.m b2.x2.d, .bool b2.x3.neg, .slice b2.x3.a b2.x3.n b2.x3.c, .slice b2.x3.b b2.x3.m b2.x3.d, .bool b2.x4.neg, .slice b2.x4.a b2.x4.n b2.x4.c, .slice b2.x4.b b2.x4.m b2.x4.d], .slice (some ⟨g, 0, none⟩) 8 cp, .pointer (some ⟨g, 36, none⟩), .agg #[.bool b3.x1.neg, .slice b3.x1.a b3.x1.n b3.x1.c, .slice b3.x1.b b3.x1.m b3.x1.d, .bool b3.x2.neg, .slice b3.x2.a b3.x2.n b3.x2.c, .slice b3.x2.b b3.x2.m b3.x2.d, .bool b3.x3.neg, .slice b3.x3.a b3.x3.n b3.x3.c, .slice b3.x3.b b3.x3.m b3.x3.d, .bool b3.x4.neg, .slice b3.x4.a b3.x4.n b3.x4.c, .slice b3.x4.b b3.x4.m b3.x4.d], v 1, .slice (some ⟨g, 0, none⟩) 8 cp, .pointer (some ⟨g, 48, none⟩), .agg #[.bool b4.x1.neg, .slice b4.x1.a b4.x1.n b4.x1.c, .slice b4.x1.b b4.x1.m b4.x1.d, .bool b4.x2.neg, .slice b4.x2.a b4.x2.n b4.x2.c, .slice b4.x2.b b4.x2.m b4.x2.d, .bool b4.x3.neg, .slice b4.x3.a b4.x3.n b4.x3.c, .slice b4.x3.b b4.x3.m b4.x3.d, .bool b4.x4.neg, .slice b4.x4.a b4.x4.n b4.x4.c, .slice b4.x4.b b4.x4.m b4.x4.d], .slice (some ⟨g, 0, none⟩) 8 cp, .pointer (some ⟨g, 60, none⟩), .agg #[.bool b5.x1.neg, .slice b5.x1.a b5.x1.n b5.x1.c, .slice b5.x1.b b5.x1.m b5.x1.d, .bool b5.x2.neg, .slice b5.x2.a b5.x2.n b5.x2.c, .slice b5.x2.b b5.x2.m b5.x2.d, .bool b5.x3.neg, .slice b5.x3.a b5.x3.n b5.x3.c, .slice b5.x3.b b5.x3.m b5.x3.d, .bool b5.x4.neg, .slice b5.x4.a b5.x4.n b5.x4.c, .slice b5.x4.b b5.x4.m b5.x4.d], v 2, .slice (some ⟨g, 0, none⟩) 8 cp, .pointer (some ⟨g, 72, none⟩), .agg #[.bool b6.x1.neg, .slice b6.x1.a b6.x1.n b6.x1.c, .slice b6.x1.b b6.x1.m b6.x1.d, .bool b6.x2.neg, .slice b6.x2.a b6.x2.n b6.x2.c, .slice b6.x2.b b6.x2.m b6.x2.d, .bool b6.x3.neg, .slice b6.x3.a b6.x3.n b6.x3.c, .slice b6.x3.b b6.x3.m b6.x3.d, .bool b6.x4.neg, .slice b6.x4.a b6.x4.n b6.x4.c, .slice b6.x4.b b6.x4.m b6.x4.d], .slice (some ⟨g, 0, none⟩) 8 cp, .pointer (some ⟨g, 84, none⟩), .agg #[.bool b7.x1.neg, .slice b7.x1.a b7.x1.n b7.x1.c, .slice b7.x1.b b7.x1.m b7.x1.d, .bool b7.x2.neg, .slice b7.x2.a b7.x2.n b7.x2.c, .slice b7.x2.b b7.x2.m b7.x2.d, .bool b7.x3.neg, .slice b7.x3.a b7.x3.n b7.x3.c, .slice b7.x3.b b7.x3.m b7.x3.d, .bool b7.x4.neg, .slice b7.x4.a b7.x4.n b7.x4.c, .slice b7.x4.b b7.x4.m b7.x4.d], v 3, undef, undef, undef, undef, undef, undef, undef, undef, undef, undef, undef, undef, undef, undef, undef], []⟩) (by kernel_rfl) (by kernel_rfl) (by kernel_rfl) (by kernel_rfl) (fun d _ _ _ _ h => by cases d <;> exact h) (fun W hW => below_then s0 hW) (by kernel_rfl) (by kernel_rfl) ?_ ?_ ?_ ?_ ?_
 rotate_right
 ·
  skip
  obtain ⟨v0, hv0⟩ : ∃ v, w0.drew = v := ⟨_, rfl⟩
  rw [hv0] at s0 hz0 ⊢
  clear hv0
  iterate 24 (refine wpPre_q rfl rfl (fun K hK => ?_); apply Exists.intro; refine ⟨fun w' hw' => ?_, ?_⟩; (focus (go_simp; try rfl)); go_simp; refine hK _ _ ?_; clear hK K)
  refine wpPre_nil ?_
  exact LaneI.start (fun _ => undef) (fun _ => undef) (by kernel_rfl) rfl
 all_goals clear d0_0 d0_1 d0_2 d0_3 d0_4 d0_5 d0_6 d0_7 d0_8 d0_9 d0_10 d0_11 d1_0 d1_1 d1_2 d1_3 d1_4 d1_5 d1_6 d1_7 d1_8 d1_9 d1_10 d1_11 d2_0 d2_1 d2_2 d2_3 d2_4 d2_5 d2_6 d2_7 d2_8 d2_9 d2_10 d2_11 d3_0 d3_1 d3_2 d3_3 d3_4 d3_5 d3_6 d3_7 d3_8 d3_9 d3_10 d3_11 d4_0 d4_1 d4_2 d4_3 d4_4 d4_5 d4_6 d4_7 d4_8 d4_9 d4_10 d4_11 d5_0 d5_1 d5_2 d5_3 d5_4 d5_5 d5_6 d5_7 d5_8 d5_9 d5_10 d5_11 d6_0 d6_1 d6_2 d6_3 d6_4 d6_5 d6_6 d6_7 d6_8 d6_9 d6_10 d6_11 d7_0 d7_1 d7_2 d7_3 d7_4 d7_5 d7_6 d7_7 d7_8 d7_9 d7_10 d7_11
 ·
  intro k hk v p W sW
  match k, hk with
  | 0, _ =>
   have e := HB.out W sW
   obtain ⟨q1, q2, q3, q4⟩ := e 0 _ rfl
   obtain ⟨q5, q6, q7, q8⟩ := e 1 _ rfl
   replace q1 := Lib.hid q1; replace q2 := Lib.hid q2; replace q3 := Lib.hid q3; replace q4 := Lib.hid q4; replace q5 := Lib.hid q5; replace q6 := Lib.hid q6; replace q7 := Lib.hid q7; replace q8 := Lib.hid q8; clear e
   refine wpOp_yes rfl rfl (fun K hK => ?_)
   go_simp
   refine (vectorR_q b0.x1 b0.x2 b0.x3 b0.x4 b1.x1 b1.x2 b1.x3 b1.x4 (Q 0).1 (Q 0).2 (Q 1).1 (Q 1).2 2 W q1.out q2.out q3.out q4.out q5.out q6.out q7.out q8.out (by omega)).mono ?_
   rintro r w1 ⟨z1, z2, z3, z4, rfl, J1, J2, J3, J4, hb⟩
   dsimp only
   exact hK.out _ _ ⟨[z1, z2, z3, z4], rfl, rfl, AllQ.n4 J1 J2 J3 J4, hb⟩
  | 1, _ =>
   have e := HB.out W sW
   obtain ⟨q1, q2, q3, q4⟩ := e 2 _ rfl
   obtain ⟨q5, q6, q7, q8⟩ := e 3 _ rfl
   replace q1 := Lib.hid q1; replace q2 := Lib.hid q2; replace q3 := Lib.hid q3; replace q4 := Lib.hid q4; replace q5 := Lib.hid q5; replace q6 := Lib.hid q6; replace q7 := Lib.hid q7; replace q8 := Lib.hid q8; clear e
   refine wpOp_yes rfl rfl (fun K hK => ?_)
   go_simp
   refine (vectorR_q b2.x1 b2.x2 b2.x3 b2.x4 b3.x1 b3.x2 b3.x3 b3.x4 (Q 2).1 (Q 2).2 (Q 3).1 (Q 3).2 2 W q1.out q2.out q3.out q4.out q5.out q6.out q7.out q8.out (by omega)).mono ?_
   rintro r w1 ⟨z1, z2, z3, z4, rfl, J1, J2, J3, J4, hb⟩
   dsimp only
   exact hK.out _ _ ⟨[z1, z2, z3, z4], rfl, rfl, AllQ.n4 J1 J2 J3 J4, hb⟩
  | 2, _ =>
   have e := HB.out W sW
   obtain ⟨q1, q2, q3, q4⟩ := e 4 _ rfl
   obtain ⟨q5, q6, q7, q8⟩ := e 5 _ rfl
   replace q1 := Lib.hid q1; replace q2 := Lib.hid q2; replace q3 := Lib.hid q3; replace q4 := Lib.hid q4; replace q5 := Lib.hid q5; replace q6 := Lib.hid q6; replace q7 := Lib.hid q7; replace q8 := Lib.hid q8; clear e
   refine wpOp_yes rfl rfl (fun K hK => ?_)
   go_simp
   refine (vectorR_q b4.x1 b4.x2 b4.x3 b4.x4 b5.x1 b5.x2 b5.x3 b5.x4 (Q 4).1 (Q 4).2 (Q 5).1 (Q 5).2 2 W q1.out q2.out q3.out q4.out q5.out q6.out q7.out q8.out (by omega)).mono ?_
   rintro r w1 ⟨z1, z2, z3, z4, rfl, J1, J2, J3, J4, hb⟩
   dsimp only
   exact hK.out _ _ ⟨[z1, z2, z3, z4], rfl, rfl, AllQ.n4 J1 J2 J3 J4, hb⟩
  | 3, _ =>
   have e := HB.out W sW
   obtain ⟨q1, q2, q3, q4⟩ := e 6 _ rfl
   obtain ⟨q5, q6, q7, q8⟩ := e 7 _ rfl
   replace q1 := Lib.hid q1; replace q2 := Lib.hid q2; replace q3 := Lib.hid q3; replace q4 := Lib.hid q4; replace q5 := Lib.hid q5; replace q6 := Lib.hid q6; replace q7 := Lib.hid q7; replace q8 := Lib.hid q8; clear e
   refine wpOp_yes rfl rfl (fun K hK => ?_)
   go_simp
   refine (vectorR_q b6.x1 b6.x2 b6.x3 b6.x4 b7.x1 b7.x2 b7.x3 b7.x4 (Q 6).1 (Q 6).2 (Q 7).1 (Q 7).2 2 W q1.out q2.out q3.out q4.out q5.out q6.out q7.out q8.out (by omega)).mono ?_
   rintro r w1 ⟨z1, z2, z3, z4, rfl, J1, J2, J3, J4, hb⟩
   dsimp only
   exact hK.out _ _ ⟨[z1, z2, z3, z4], rfl, rfl, AllQ.n4 J1 J2 J3 J4, hb⟩
 ·
  intro k hk v p W
  match k, hk with
  | 0, _ =>
   refine wpOp_yes rfl rfl (fun K hK => ?_)
   go_simp
   exact hK.out _ _ ⟨rfl, rfl⟩
  | 1, _ =>
   refine wpOp_yes rfl rfl (fun K hK => ?_)
   go_simp
   exact hK.out _ _ ⟨rfl, rfl⟩
  | 2, _ =>
   refine wpOp_yes rfl rfl (fun K hK => ?_)
   go_simp
   exact hK.out _ _ ⟨rfl, rfl⟩
  | 3, _ =>
   refine wpOp_yes rfl rfl (fun K hK => ?_)
   go_simp
   exact hK.out _ _ ⟨rfl, rfl⟩
 ·
  intro k hk v p W zz gz hz hv hp hg
  match k, hk with
  | 0, _ =>
   obtain ⟨z1, z2, z3, z4, rfl⟩ := lenQ4 hz
   replace hv : v 0 = .agg #[.bool z1.neg, .slice z1.a z1.n z1.c, .slice z1.b z1.m z1.d, .bool z2.neg, .slice z2.a z2.n z2.c, .slice z2.b z2.m z2.d, .bool z3.neg, .slice z3.a z3.n z3.c, .slice z3.b z3.m z3.d, .bool z4.neg, .slice z4.a z4.n z4.c, .slice z4.b z4.m z4.d] := hv
   replace hp : p 0 = _ := hp
   have hg' : Blk W gz 75 #[.bool false, .slice none 0 0, .slice none 0 0, .bool false, .slice none 0 0, .slice none 0 0, .bool false, .slice none 0 0, .slice none 0 0, .bool false, .slice none 0 0, .slice none 0 0] := hg
   have y0 := hg'.cell 0; have f0 := hg'.frozen 0; have y1 := hg'.cell 1; have f1 := hg'.frozen 1; have y2 := hg'.cell 2; have f2 := hg'.frozen 2; have y3 := hg'.cell 3; have f3 := hg'.frozen 3; have y4 := hg'.cell 4; have f4 := hg'.frozen 4; have y5 := hg'.cell 5; have f5 := hg'.frozen 5; have y6 := hg'.cell 6; have f6 := hg'.frozen 6; have y7 := hg'.cell 7; have f7 := hg'.frozen 7; have y8 := hg'.cell 8; have f8 := hg'.frozen 8; have y9 := hg'.cell 9; have f9 := hg'.frozen 9; have y10 := hg'.cell 10; have f10 := hg'.frozen 10; have y11 := hg'.cell 11; have f11 := hg'.frozen 11
   clear hg hg' hz
   refine wpOp_yes rfl rfl (fun K hK => ?_)
   go_simp
   exact hK.out _ _ ⟨by simp only [hv, hp], rfl⟩
  | 1, _ =>
   obtain ⟨z1, z2, z3, z4, rfl⟩ := lenQ4 hz
   replace hv : v 1 = .agg #[.bool z1.neg, .slice z1.a z1.n z1.c, .slice z1.b z1.m z1.d, .bool z2.neg, .slice z2.a z2.n z2.c, .slice z2.b z2.m z2.d, .bool z3.neg, .slice z3.a z3.n z3.c, .slice z3.b z3.m z3.d, .bool z4.neg, .slice z4.a z4.n z4.c, .slice z4.b z4.m z4.d] := hv
   replace hp : p 1 = _ := hp
   have hg' : Blk W gz 75 #[.bool false, .slice none 0 0, .slice none 0 0, .bool false, .slice none 0 0, .slice none 0 0, .bool false, .slice none 0 0, .slice none 0 0, .bool false, .slice none 0 0, .slice none 0 0] := hg
   have y0 := hg'.cell 0; have f0 := hg'.frozen 0; have y1 := hg'.cell 1; have f1 := hg'.frozen 1; have y2 := hg'.cell 2; have f2 := hg'.frozen 2; have y3 := hg'.cell 3; have f3 := hg'.frozen 3; have y4 := hg'.cell 4; have f4 := hg'.frozen 4; have y5 := hg'.cell 5; have f5 := hg'.frozen 5; have y6 := hg'.cell 6; have f6 := hg'.frozen 6; have y7 := hg'.cell 7; have f7 := hg'.frozen 7; have y8 := hg'.cell 8; have f8 := hg'.frozen 8; have y9 := hg'.cell 9; have f9 := hg'.frozen 9; have y10 := hg'.cell 10; have f10 := hg'.frozen 10; have y11 := hg'.cell 11; have f11 := hg'.frozen 11
   clear hg hg' hz
   refine wpOp_yes rfl rfl (fun K hK => ?_)
   go_simp
   exact hK.out _ _ ⟨by simp only [hv, hp], rfl⟩
  | 2, _ =>
   obtain ⟨z1, z2, z3, z4, rfl⟩ := lenQ4 hz
   replace hv : v 2 = .agg #[.bool z1.neg, .slice z1.a z1.n z1.c, .slice z1.b z1.m z1.d, .bool z2.neg, .slice z2.a z2.n z2.c, .slice z2.b z2.m z2.d, .bool z3.neg, .slice z3.a z3.n z3.c, .slice z3.b z3.m z3.d, .bool z4.neg, .slice z4.a z4.n z4.c, .slice z4.b z4.m z4.d] := hv
   replace hp : p 2 = _ := hp
   have hg' : Blk W gz 75 #[.bool false, .slice none 0 0, .slice none 0 0, .bool false, .slice none 0 0, .slice none 0 0, .bool false, .slice none 0 0, .slice none 0 0, .bool false, .slice none 0 0, .slice none 0 0] := hg
   have y0 := hg'.cell 0; have f0 := hg'.frozen 0; have y1 := hg'.cell 1; have f1 := hg'.frozen 1; have y2 := hg'.cell 2; have f2 := hg'.frozen 2; have y3 := hg'.cell 3; have f3 := hg'.frozen 3; have y4 := hg'.cell 4; have f4 := hg'.frozen 4; have y5 := hg'.cell 5; have f5 := hg'.frozen 5; have y6 := hg'.cell 6; have f6 := hg'.frozen 6; have y7 := hg'.cell 7; have f7 := hg'.frozen 7; have y8 := hg'.cell 8; have f8 := hg'.frozen 8; have y9 := hg'.cell 9; have f9 := hg'.frozen 9; have y10 := hg'.cell 10; have f10 := hg'.frozen 10; have y11 := hg'.cell 11; have f11 := hg'.frozen 11
   clear hg hg' hz
   refine wpOp_yes rfl rfl (fun K hK => ?_)
   go_simp
   exact hK.out _ _ ⟨by simp only [hv, hp], rfl⟩
  | 3, _ =>
   obtain ⟨z1, z2, z3, z4, rfl⟩ := lenQ4 hz
   replace hv : v 3 = .agg #[.bool z1.neg, .slice z1.a z1.n z1.c, .slice z1.b z1.m z1.d, .bool z2.neg, .slice z2.a z2.n z2.c, .slice z2.b z2.m z2.d, .bool z3.neg, .slice z3.a z3.n z3.c, .slice z3.b z3.m z3.d, .bool z4.neg, .slice z4.a z4.n z4.c, .slice z4.b z4.m z4.d] := hv
   replace hp : p 3 = _ := hp
   have hg' : Blk W gz 75 #[.bool false, .slice none 0 0, .slice none 0 0, .bool false, .slice none 0 0, .slice none 0 0, .bool false, .slice none 0 0, .slice none 0 0, .bool false, .slice none 0 0, .slice none 0 0] := hg
   have y0 := hg'.cell 0; have f0 := hg'.frozen 0; have y1 := hg'.cell 1; have f1 := hg'.frozen 1; have y2 := hg'.cell 2; have f2 := hg'.frozen 2; have y3 := hg'.cell 3; have f3 := hg'.frozen 3; have y4 := hg'.cell 4; have f4 := hg'.frozen 4; have y5 := hg'.cell 5; have f5 := hg'.frozen 5; have y6 := hg'.cell 6; have f6 := hg'.frozen 6; have y7 := hg'.cell 7; have f7 := hg'.frozen 7; have y8 := hg'.cell 8; have f8 := hg'.frozen 8; have y9 := hg'.cell 9; have f9 := hg'.frozen 9; have y10 := hg'.cell 10; have f10 := hg'.frozen 10; have y11 := hg'.cell 11; have f11 := hg'.frozen 11
   clear hg hg' hz
   refine wpOp_yes rfl rfl (fun K hK => ?_)
   go_simp
   exact hK.out _ _ ⟨by simp only [hv, hp], rfl⟩
 intro v p W hJ
 obtain ⟨hb, z, gz, hall⟩ := hJ.all
 clear hJ
 obtain ⟨hv0, hp0, hl0, -, hG0, hK0⟩ := hall 0 (by decide)
 obtain ⟨z01, z02, z03, z04, ez0⟩ := lenQ4 hl0
 rw [ez0] at hv0 hG0 hK0
 replace hv0 : v 0 = .agg #[.bool z01.neg, .slice z01.a z01.n z01.c, .slice z01.b z01.m z01.d, .bool z02.neg, .slice z02.a z02.n z02.c, .slice z02.b z02.m z02.d, .bool z03.neg, .slice z03.a z03.n z03.c, .slice z03.b z03.m z03.d, .bool z04.neg, .slice z04.a z04.n z04.c, .slice z04.b z04.m z04.d] := hv0
 replace hG0 : Blk W (gz 0) 75 #[.bool z01.neg, .slice z01.a z01.n z01.c, .slice z01.b z01.m z01.d, .bool z02.neg, .slice z02.a z02.n z02.c, .slice z02.b z02.m z02.d, .bool z03.neg, .slice z03.a z03.n z03.c, .slice z03.b z03.m z03.d, .bool z04.neg, .slice z04.a z04.n z04.c, .slice z04.b z04.m z04.d] := hG0
 obtain ⟨K01, K02, K03, K04⟩ := AllQ.o4 (k := 5) (v := (vecB (Q 0) (Q 1))) hK0
 replace K01 := Lib.hid K01
 replace K02 := Lib.hid K02
 replace K03 := Lib.hid K03
 replace K04 := Lib.hid K04
 clear hK0 hl0 ez0
 revert hp0 hG0
 generalize gz 0 = c0
 intro hp0 hG0
 obtain ⟨hv1, hp1, hl1, -, hG1, hK1⟩ := hall 1 (by decide)
 obtain ⟨z11, z12, z13, z14, ez1⟩ := lenQ4 hl1
 rw [ez1] at hv1 hG1 hK1
 replace hv1 : v 1 = .agg #[.bool z11.neg, .slice z11.a z11.n z11.c, .slice z11.b z11.m z11.d, .bool z12.neg, .slice z12.a z12.n z12.c, .slice z12.b z12.m z12.d, .bool z13.neg, .slice z13.a z13.n z13.c, .slice z13.b z13.m z13.d, .bool z14.neg, .slice z14.a z14.n z14.c, .slice z14.b z14.m z14.d] := hv1
 replace hG1 : Blk W (gz 1) 75 #[.bool z11.neg, .slice z11.a z11.n z11.c, .slice z11.b z11.m z11.d, .bool z12.neg, .slice z12.a z12.n z12.c, .slice z12.b z12.m z12.d, .bool z13.neg, .slice z13.a z13.n z13.c, .slice z13.b z13.m z13.d, .bool z14.neg, .slice z14.a z14.n z14.c, .slice z14.b z14.m z14.d] := hG1
 obtain ⟨K11, K12, K13, K14⟩ := AllQ.o4 (k := 5) (v := (vecB (Q 2) (Q 3))) hK1
 replace K11 := Lib.hid K11
 replace K12 := Lib.hid K12
 replace K13 := Lib.hid K13
 replace K14 := Lib.hid K14
 clear hK1 hl1 ez1
 revert hp1 hG1
 generalize gz 1 = c1
 intro hp1 hG1
 obtain ⟨hv2, hp2, hl2, -, hG2, hK2⟩ := hall 2 (by decide)
 obtain ⟨z21, z22, z23, z24, ez2⟩ := lenQ4 hl2
 rw [ez2] at hv2 hG2 hK2
 replace hv2 : v 2 = .agg #[.bool z21.neg, .slice z21.a z21.n z21.c, .slice z21.b z21.m z21.d, .bool z22.neg, .slice z22.a z22.n z22.c, .slice z22.b z22.m z22.d, .bool z23.neg, .slice z23.a z23.n z23.c, .slice z23.b z23.m z23.d, .bool z24.neg, .slice z24.a z24.n z24.c, .slice z24.b z24.m z24.d] := hv2
 replace hG2 : Blk W (gz 2) 75 #[.bool z21.neg, .slice z21.a z21.n z21.c, .slice z21.b z21.m z21.d, .bool z22.neg, .slice z22.a z22.n z22.c, .slice z22.b z22.m z22.d, .bool z23.neg, .slice z23.a z23.n z23.c, .slice z23.b z23.m z23.d, .bool z24.neg, .slice z24.a z24.n z24.c, .slice z24.b z24.m z24.d] := hG2
 obtain ⟨K21, K22, K23, K24⟩ := AllQ.o4 (k := 5) (v := (vecB (Q 4) (Q 5))) hK2
 replace K21 := Lib.hid K21
 replace K22 := Lib.hid K22
 replace K23 := Lib.hid K23
 replace K24 := Lib.hid K24
 clear hK2 hl2 ez2
 revert hp2 hG2
 generalize gz 2 = c2
 intro hp2 hG2
 obtain ⟨hv3, hp3, hl3, -, hG3, hK3⟩ := hall 3 (by decide)
 obtain ⟨z31, z32, z33, z34, ez3⟩ := lenQ4 hl3
 rw [ez3] at hv3 hG3 hK3
 replace hv3 : v 3 = .agg #[.bool z31.neg, .slice z31.a z31.n z31.c, .slice z31.b z31.m z31.d, .bool z32.neg, .slice z32.a z32.n z32.c, .slice z32.b z32.m z32.d, .bool z33.neg, .slice z33.a z33.n z33.c, .slice z33.b z33.m z33.d, .bool z34.neg, .slice z34.a z34.n z34.c, .slice z34.b z34.m z34.d] := hv3
 replace hG3 : Blk W (gz 3) 75 #[.bool z31.neg, .slice z31.a z31.n z31.c, .slice z31.b z31.m z31.d, .bool z32.neg, .slice z32.a z32.n z32.c, .slice z32.b z32.m z32.d, .bool z33.neg, .slice z33.a z33.n z33.c, .slice z33.b z33.m z33.d, .bool z34.neg, .slice z34.a z34.n z34.c, .slice z34.b z34.m z34.d] := hG3
 obtain ⟨K31, K32, K33, K34⟩ := AllQ.o4 (k := 5) (v := (vecB (Q 6) (Q 7))) hK3
 replace K31 := Lib.hid K31
 replace K32 := Lib.hid K32
 replace K33 := Lib.hid K33
 replace K34 := Lib.hid K34
 clear hK3 hl3 ez3
 revert hp3 hG3
 generalize gz 3 = c3
 intro hp3 hG3
 have hw1 := below_then s0 hb
 replace h0 := hz0.below' hb
 clear hall hb s0 hw0 HB hz0
 rw [hv0, hv1, hv2, hv3, hp0, hp1, hp2, hp3]
 clear hv0 hv1 hv2 hv3 hp0 hp1 hp2 hp3
 clear v p z gz
 have e0_0 := held (hG0.cell 0)
 have e0_1 := held (hG0.cell 1)
 have e0_2 := held (hG0.cell 2)
 have e0_3 := held (hG0.cell 3)
 have e0_4 := held (hG0.cell 4)
 have e0_5 := held (hG0.cell 5)
 have e0_6 := held (hG0.cell 6)
 have e0_7 := held (hG0.cell 7)
 have e0_8 := held (hG0.cell 8)
 have e0_9 := held (hG0.cell 9)
 have e0_10 := held (hG0.cell 10)
 have e0_11 := held (hG0.cell 11)
 clear hG0
 have e1_0 := held (hG1.cell 0)
 have e1_1 := held (hG1.cell 1)
 have e1_2 := held (hG1.cell 2)
 have e1_3 := held (hG1.cell 3)
 have e1_4 := held (hG1.cell 4)
 have e1_5 := held (hG1.cell 5)
 have e1_6 := held (hG1.cell 6)
 have e1_7 := held (hG1.cell 7)
 have e1_8 := held (hG1.cell 8)
 have e1_9 := held (hG1.cell 9)
 have e1_10 := held (hG1.cell 10)
 have e1_11 := held (hG1.cell 11)
 clear hG1
 have e2_0 := held (hG2.cell 0)
 have e2_1 := held (hG2.cell 1)
 have e2_2 := held (hG2.cell 2)
 have e2_3 := held (hG2.cell 3)
 have e2_4 := held (hG2.cell 4)
 have e2_5 := held (hG2.cell 5)
 have e2_6 := held (hG2.cell 6)
 have e2_7 := held (hG2.cell 7)
 have e2_8 := held (hG2.cell 8)
 have e2_9 := held (hG2.cell 9)
 have e2_10 := held (hG2.cell 10)
 have e2_11 := held (hG2.cell 11)
 clear hG2
 have e3_0 := held (hG3.cell 0)
 have e3_1 := held (hG3.cell 1)
 have e3_2 := held (hG3.cell 2)
 have e3_3 := held (hG3.cell 3)
 have e3_4 := held (hG3.cell 4)
 have e3_5 := held (hG3.cell 5)
 have e3_6 := held (hG3.cell 6)
 have e3_7 := held (hG3.cell 7)
 have e3_8 := held (hG3.cell 8)
 have e3_9 := held (hG3.cell 9)
 have e3_10 := held (hG3.cell 10)
 have e3_11 := held (hG3.cell 11)
 clear hG3
 go_wp2
 have s0 : Below W.heap.size W W.drew := (Below.refl _ _).drew
 refine wp_region_mix (S := Below W.heap.size W) [(0, .q), (1, .q), (3, .q), (4, .q), (7, .q), (8, .q), (10, .q), (11, .q), (2, .l), (5, .l), (6, .l), (9, .l), (12, .t), (13, .t), (14, .t), (15, .t)] (by kernel_rfl) (by kernel_rfl) (by kernel_rfl) (fun d _ _ _ _ h => by cases d <;> exact h) (s0) ?_
 iterate 8 (refine wpMix_q rfl rfl (fun K hK => ?_); apply Exists.intro; refine ⟨fun w' hw' => ?_, ?_⟩; (focus (go_simp; try rfl)); go_simp; refine hK _ _ ?_; clear hK K)
 refine wpMix_l rfl rfl (fun K hK => ?_)
 go_simp
 refine (crossR_q z01 z02 z03 z04 z11 z12 z13 z14 (vecB (Q 0) (Q 1)).1 (vecB (Q 0) (Q 1)).2 (vecB (Q 2) (Q 3)).1 (vecB (Q 2) (Q 3)).2 5 _ (K01.out.drew.now) (K02.out.drew.now) (K03.out.drew.now) (K04.out.drew.now) (K11.out.drew.now) (K12.out.drew.now) (K13.out.drew.now) (K14.out.drew.now) (by omega)).mono ?_
 rintro r w1 ⟨u1_1, u1_2, rfl, J1_1, J1_2, hb1⟩
 dsimp only
 refine hK.out _ _ (below_then s0 hb1) (fun _ => ?_)
 clear hK K
 have s1 := below_then s0 hb1
 replace J1_1 := Lib.hid J1_1; replace J1_2 := Lib.hid J1_2
 refine wpMix_l rfl rfl (fun K hK => ?_)
 go_simp
 refine (dotR_q z21 z22 z23 z24 z31 z32 z33 z34 (vecB (Q 4) (Q 5)).1 (vecB (Q 4) (Q 5)).2 (vecB (Q 6) (Q 7)).1 (vecB (Q 6) (Q 7)).2 5 _ ((K21.out.drew.call hb1).now) ((K22.out.drew.call hb1).now) ((K23.out.drew.call hb1).now) ((K24.out.drew.call hb1).now) ((K31.out.drew.call hb1).now) ((K32.out.drew.call hb1).now) ((K33.out.drew.call hb1).now) ((K34.out.drew.call hb1).now) (by omega)).mono ?_
 rintro r w2 ⟨u2_1, u2_2, rfl, J2_1, J2_2, hb2⟩
 dsimp only
 refine hK.out _ _ (below_then s1 hb2) (fun _ => ?_)
 clear hK K
 have s2 := below_then s1 hb2
 replace J2_1 := Lib.hid J2_1; replace J2_2 := Lib.hid J2_2
 refine wpMix_l rfl rfl (fun K hK => ?_)
 go_simp
 refine (imulR_i u1_1 u1_2 u2_1 u2_2 (crossI (vecB (Q 0) (Q 1)).1 (vecB (Q 0) (Q 1)).2 (vecB (Q 2) (Q 3)).1 (vecB (Q 2) (Q 3)).2) (dotI (vecB (Q 4) (Q 5)).1 (vecB (Q 4) (Q 5)).2 (vecB (Q 6) (Q 7)).1 (vecB (Q 6) (Q 7)).2) 21 _ (QK.more (J1_1.out.call hb2).now (by omega)) (QK.more (J1_2.out.call hb2).now (by omega)) (QK.more J2_1.out.now (by omega)) (QK.more J2_2.out.now (by omega)) (by omega)).mono ?_
 rintro r w3 ⟨u3_1, u3_2, rfl, J3_1, J3_2, hb3⟩
 dsimp only
 refine hK.out _ _ (below_then s2 hb3) (fun _ => ?_)
 clear hK K
 have s3 := below_then s2 hb3
 replace J3_1 := Lib.hid J3_1; replace J3_2 := Lib.hid J3_2
 refine wpMix_l rfl rfl (fun K hK => ?_)
 go_simp
 refine (crossR_q z21 z22 z23 z24 z31 z32 z33 z34 (vecB (Q 4) (Q 5)).1 (vecB (Q 4) (Q 5)).2 (vecB (Q 6) (Q 7)).1 (vecB (Q 6) (Q 7)).2 5 _ ((((K21.out.drew.call hb1).call hb2).call hb3).now) ((((K22.out.drew.call hb1).call hb2).call hb3).now) ((((K23.out.drew.call hb1).call hb2).call hb3).now) ((((K24.out.drew.call hb1).call hb2).call hb3).now) ((((K31.out.drew.call hb1).call hb2).call hb3).now) ((((K32.out.drew.call hb1).call hb2).call hb3).now) ((((K33.out.drew.call hb1).call hb2).call hb3).now) ((((K34.out.drew.call hb1).call hb2).call hb3).now) (by omega)).mono ?_
 rintro r w4 ⟨u4_1, u4_2, rfl, J4_1, J4_2, hb4⟩
 dsimp only
 refine hK.out _ _ (below_then s3 hb4) (fun _ => ?_)
 clear hK K
 have s4 := below_then s3 hb4
 replace J4_1 := Lib.hid J4_1; replace J4_2 := Lib.hid J4_2
 refine wpMix_t rfl rfl (fun K hK => ?_)
 go_simp
 refine (dotR_q z01 z02 z03 z04 z11 z12 z13 z14 (vecB (Q 0) (Q 1)).1 (vecB (Q 0) (Q 1)).2 (vecB (Q 2) (Q 3)).1 (vecB (Q 2) (Q 3)).2 5 _ (((((K01.out.drew.call hb1).call hb2).call hb3).call hb4).now) (((((K02.out.drew.call hb1).call hb2).call hb3).call hb4).now) (((((K03.out.drew.call hb1).call hb2).call hb3).call hb4).now) (((((K04.out.drew.call hb1).call hb2).call hb3).call hb4).now) (((((K11.out.drew.call hb1).call hb2).call hb3).call hb4).now) (((((K12.out.drew.call hb1).call hb2).call hb3).call hb4).now) (((((K13.out.drew.call hb1).call hb2).call hb3).call hb4).now) (((((K14.out.drew.call hb1).call hb2).call hb3).call hb4).now) (by omega)).mono ?_
 rintro r w5 ⟨u5_1, u5_2, rfl, J5_1, J5_2, hb5⟩
 dsimp only
 refine hK.out _ _ ?_
 clear hK K
 have s5 := below_then s4 hb5
 replace J5_1 := Lib.hid J5_1; replace J5_2 := Lib.hid J5_2
 refine wpMix_t rfl rfl (fun K hK => ?_)
 go_simp
 refine (imulR_i u4_1 u4_2 u5_1 u5_2 (crossI (vecB (Q 4) (Q 5)).1 (vecB (Q 4) (Q 5)).2 (vecB (Q 6) (Q 7)).1 (vecB (Q 6) (Q 7)).2) (dotI (vecB (Q 0) (Q 1)).1 (vecB (Q 0) (Q 1)).2 (vecB (Q 2) (Q 3)).1 (vecB (Q 2) (Q 3)).2) 21 _ (QK.more (J4_1.out.call hb5).now (by omega)) (QK.more (J4_2.out.call hb5).now (by omega)) (QK.more J5_1.out.now (by omega)) (QK.more J5_2.out.now (by omega)) (by omega)).mono ?_
 rintro r w6 ⟨u6_1, u6_2, rfl, J6_1, J6_2, hb6⟩
 dsimp only
 refine hK.out _ _ ?_
 clear hK K
 have s6 := below_then s5 hb6
 replace J6_1 := Lib.hid J6_1; replace J6_2 := Lib.hid J6_2
 refine wpMix_t rfl rfl (fun K hK => ?_)
 go_simp
 refine (isubR_i u3_1 u3_2 u6_1 u6_2 (mulI (crossI (vecB (Q 0) (Q 1)).1 (vecB (Q 0) (Q 1)).2 (vecB (Q 2) (Q 3)).1 (vecB (Q 2) (Q 3)).2) (dotI (vecB (Q 4) (Q 5)).1 (vecB (Q 4) (Q 5)).2 (vecB (Q 6) (Q 7)).1 (vecB (Q 6) (Q 7)).2)) (mulI (crossI (vecB (Q 4) (Q 5)).1 (vecB (Q 4) (Q 5)).2 (vecB (Q 6) (Q 7)).1 (vecB (Q 6) (Q 7)).2) (dotI (vecB (Q 0) (Q 1)).1 (vecB (Q 0) (Q 1)).2 (vecB (Q 2) (Q 3)).1 (vecB (Q 2) (Q 3)).2)) 42 _ (QK.more (((J3_1.out.call hb4).call hb5).call hb6).now (by omega)) (QK.more (((J3_2.out.call hb4).call hb5).call hb6).now (by omega)) (QK.more J6_1.out.now (by omega)) (QK.more J6_2.out.now (by omega)) (by omega)).mono ?_
 rintro r w7 ⟨u7_1, u7_2, rfl, J7_1, J7_2, hb7⟩
 dsimp only
 refine hK.out _ _ ?_
 clear hK K
 have s7 := below_then s6 hb7
 replace J7_1 := Lib.hid J7_1; replace J7_2 := Lib.hid J7_2
 have hz := h0.below' s7
 have n6 := s6.size
 have n6' := hw1.size
 have hlt := h0.lt
 clear e0_0 e0_1 e0_2 e0_3 e0_4 e0_5 e0_6 e0_7 e0_8 e0_9 e0_10 e0_11 e1_0 e1_1 e1_2 e1_3 e1_4 e1_5 e1_6 e1_7 e1_8 e1_9 e1_10 e1_11 e2_0 e2_1 e2_2 e2_3 e2_4 e2_5 e2_6 e2_7 e2_8 e2_9 e2_10 e2_11 e3_0 e3_1 e3_2 e3_3 e3_4 e3_5 e3_6 e3_7 e3_8 e3_9 e3_10 e3_11
 have y0 := hz.cell 0; have f0 := hz.frozen 0
 have y1 := hz.cell 1; have f1 := hz.frozen 1
 have y2 := hz.cell 2; have f2 := hz.frozen 2
 have y3 := hz.cell 3; have f3 := hz.frozen 3
 have y4 := hz.cell 4; have f4 := hz.frozen 4
 have y5 := hz.cell 5; have f5 := hz.frozen 5
 have hwF := below_then hw1 s7
 refine wpMix_t rfl rfl (fun K hK => ?_)
 go_simp
 refine hK.out _ _ ?_
 clear hK K
 refine wpMix_nil ?_
 go_wp2
 have hlt6 : w.heap.size < w6.heap.size := Nat.lt_of_lt_of_le hlt n6
 refine world_gen (fun W => Blk W w.heap.size 73 #[.bool u7_1.neg, .slice u7_1.a u7_1.n u7_1.c, .slice u7_1.b u7_1.m u7_1.d, .bool u7_2.neg, .slice u7_2.a u7_2.n u7_2.c, .slice u7_2.b u7_2.m u7_2.d] ∧ Below w.heap.size w W ∧ Kp (fun V => QK (42 + 42 + 1) V u7_1 (subI (mulI (crossI (vecB (Q 0) (Q 1)).1 (vecB (Q 0) (Q 1)).2 (vecB (Q 2) (Q 3)).1 (vecB (Q 2) (Q 3)).2) (dotI (vecB (Q 4) (Q 5)).1 (vecB (Q 4) (Q 5)).2 (vecB (Q 6) (Q 7)).1 (vecB (Q 6) (Q 7)).2)) (mulI (crossI (vecB (Q 4) (Q 5)).1 (vecB (Q 4) (Q 5)).2 (vecB (Q 6) (Q 7)).1 (vecB (Q 6) (Q 7)).2) (dotI (vecB (Q 0) (Q 1)).1 (vecB (Q 0) (Q 1)).2 (vecB (Q 2) (Q 3)).1 (vecB (Q 2) (Q 3)).2))).1) w6.heap.size w7.heap.size W ∧ Kp (fun V => QK (42 + 42 + 1) V u7_2 (subI (mulI (crossI (vecB (Q 0) (Q 1)).1 (vecB (Q 0) (Q 1)).2 (vecB (Q 2) (Q 3)).1 (vecB (Q 2) (Q 3)).2) (dotI (vecB (Q 4) (Q 5)).1 (vecB (Q 4) (Q 5)).2 (vecB (Q 6) (Q 7)).1 (vecB (Q 6) (Q 7)).2)) (mulI (crossI (vecB (Q 4) (Q 5)).1 (vecB (Q 4) (Q 5)).2 (vecB (Q 6) (Q 7)).1 (vecB (Q 6) (Q 7)).2) (dotI (vecB (Q 0) (Q 1)).1 (vecB (Q 0) (Q 1)).2 (vecB (Q 2) (Q 3)).1 (vecB (Q 2) (Q 3)).2))).2) w6.heap.size w7.heap.size W) ⟨by ((repeat first|with_reducible assumption|((with_reducible apply Blk.farAt);focus omega)|with_reducible apply Blk.setb|((with_reducible apply Blk.newAt);focus (simp;done))|with_reducible apply Blk.alloc|with_reducible apply Blk.drew);all_goals (show @Eq (Array Value) _ _;rfl)), by go_grown, by (repeat (first | (with_reducible exact J7_1.out) | ((with_reducible refine Kp.setc ?_ ?_); (focus omega)) | (with_reducible refine Kp.alloc ?_) | (with_reducible refine Kp.drew ?_))), by (repeat (first | (with_reducible exact J7_2.out) | ((with_reducible refine Kp.setc ?_ ?_); (focus omega)) | (with_reducible refine Kp.alloc ?_) | (with_reducible refine Kp.drew ?_)))⟩ ?_
 rintro wF ⟨hF, hwE, L1, L2⟩
 have e0 := hF.cell 0; have e1 := hF.cell 1; have e2 := hF.cell 2; have e3 := hF.cell 3; have e4 := hF.cell 4; have e5 := hF.cell 5
 refine bodyPost_ret (v := .agg #[.bool u7_1.neg, .slice u7_1.a u7_1.n u7_1.c, .slice u7_1.b u7_1.m u7_1.d, .bool u7_2.neg, .slice u7_2.a u7_2.n u7_2.c, .slice u7_2.b u7_2.m u7_2.d]) (by simp [results, Tryz.results90, go_sem, e0, e1, e2, e3, e4, e5]) rfl ?_
 exact ⟨u7_1, u7_2, rfl, Kp.made ((L1.imp fun _ h => QK.more h (by omega)).fin (by omega)), Kp.made ((L2.imp fun _ h => QK.more h (by omega)).fin (by omega)), hwE⟩
end Go.Proofs.YtaihkpjbnkgmlaaGreat
