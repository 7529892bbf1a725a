/- Walk of the law AstMeasures: whatever the expression (of at most 1048576 parts), the call returns true and turns nothing. -/
import Derived.Test.YtmlldjcbijoheaaExprN2
import Derived.Test.YtmlldjcbijoheaaExprM
import Derived.Test.YtmlldjcbijoheaaRegion
import Derived.Test.YtmlldjcbijoheaaExprOpen
namespace Go.Proofs.Ytmlldjcbijoheaa
open Go.RowKit

set_option maxHeartbeats 400000 in
theorem small16_any (d : Nat) (e : Expr) (na : Option Addr) (nc : Nat) (da : Option Addr) (dc : Nat) (aa : Option Addr) (ac : Nat) (w : World) (h : ExprR d w na nc da dc aa ac e) (hc : e.count ≤ 1048576) :
    Calls Try.prog 15 #[e.val na nc da dc aa ac] w fun r w' => r = .returned (.bool (decide (e.count ≤ 300))) ∧ Below w.heap.size w w' := by
  have H := Lib.hid h
  clear h
  unfold Expr.val
  go_enter Try.func15, Try.ntmps15
  go_wp2_with fail
  refine (count_any d e na nc da dc aa ac _ (H.out.ext (ext_alloc _ _)) hc).mono ?_
  rintro r w' ⟨rfl, hb⟩
  go_wp2_with fail
  go_ret
  exact ⟨ret_bool (by simp; omega), below_then1 (Below.refl _ _) hb⟩

theorem small16_is (b : Bool) (d : Nat) (e : Expr) (na : Option Addr) (nc : Nat) (da : Option Addr) (dc : Nat) (aa : Option Addr) (ac : Nat) (w : World) (h : ExprR d w na nc da dc aa ac e) (hc : e.count ≤ 1048576) (hb : decide (e.count ≤ 300) = b) :
    Calls Try.prog 15 #[e.val na nc da dc aa ac] w fun r w' => r = .returned (.bool b) ∧ Below w.heap.size w w' := by
  subst hb
  exact small16_any d e na nc da dc aa ac w h hc

set_option maxRecDepth 100000 in
set_option maxHeartbeats 1000000 in
theorem astMeasures_few (d : Nat) (e : Expr) (na : Option Addr) (nc : Nat) (da : Option Addr) (dc : Nat) (aa : Option Addr) (ac : Nat) (w : World) (h : ExprR d w na nc da dc aa ac e) (hc : e.count ≤ 1048576) (h3 : e.count ≤ 300) :
    Calls Try.prog 4 #[e.val na nc da dc aa ac] w fun r w' => r = .returned (.bool true) ∧ Below w.heap.size w w' := by
  have H := Lib.hid h
  clear h
  unfold Expr.val
  have h3b : decide (e.count ≤ 300) = true := by simpa using h3
  go_enter Try.func4, Try.ntmps4
  go_wp2_with fail
  have hb0 : Below w.heap.size w (w.alloc (.cells #[.int .i64 e.kind, .string e.name, .bool e.neg, .slice na e.num.length nc, .slice da e.den.length dc, .slice aa e.args.length ac, .int .i64 e.pos] 40)) := by go_grown
  have bx : ExprC (w.alloc (.cells #[.int .i64 e.kind, .string e.name, .bool e.neg, .slice na e.num.length nc, .slice da e.den.length dc, .slice aa e.args.length ac, .int .i64 e.pos] 40)) w.heap.size 0 na nc da dc aa ac e := by simp [ExprC]
  revert hb0 bx
  generalize (w.alloc (.cells #[.int .i64 e.kind, .string e.name, .bool e.neg, .slice na e.num.length nc, .slice da e.den.length dc, .slice aa e.args.length ac, .int .i64 e.pos] 40)) = w0
  intro hb0 bx
  obtain ⟨k0, k1, k2, k3, k4, k5, k6⟩ := ExprC.held bx
  clear bx
  have s0 : Below w0.heap.size w0 w0.drew := (Below.refl _ _).drew
  refine wp_region_mix (S := Below w0.heap.size w0) [(0, .q), (1, .l), (2, .q), (3, .q), (4, .q), (6, .q), (5, .l), (7, .l), (8, .l), (9, .q), (10, .q), (12, .q), (11, .l), (13, .l), (14, .q), (15, .q), (16, .q), (17, .q)] (by kernel_rfl) (by kernel_rfl) (by kernel_rfl) (fun d _ _ _ _ h => by cases d <;> exact h) (s0) ?_
  iterate 1 (refine wpMix_q rfl rfl (fun K hK => ?_); apply Exists.intro; refine ⟨fun w' hw' => ?_, ?_⟩; (focus (go_simp; try rfl)); go_simp; refine hK _ _ ?_; clear hK K)
  refine wpMix_l rfl rfl (fun K hK => ?_)
  go_simp
  refine (small16_is true d e na nc da dc aa ac _ (H.out.ext (Ext.below (below_then hb0 s0))) hc h3b).mono ?_
  rintro r w1 ⟨rfl, hb1⟩
  dsimp only
  refine hK.out _ _ (below_then s0 hb1) (fun _ => ?_)
  clear hK K
  have s1 := below_then s0 hb1
  iterate 4 (refine wpMix_q rfl rfl (fun K hK => ?_); apply Exists.intro; refine ⟨fun w' hw' => ?_, ?_⟩; (focus (go_simp; try rfl)); go_simp; refine hK _ _ ?_; clear hK K)
  refine wpMix_l rfl rfl (fun K hK => ?_)
  go_simp
  refine (names_any d e na nc da dc aa ac _ (H.out.ext (Ext.below (below_then hb0 s1))) hc).mono ?_
  rintro r w2 ⟨a2, c2, rfl, ho2, hb2⟩
  dsimp only
  refine hK.out _ _ (below_then s1 hb2) (fun _ => ?_)
  clear hK K
  have s2 := below_then s1 hb2
  refine wpMix_l rfl rfl (fun K hK => ?_)
  go_simp
  refine (namesR_any d e na nc da dc aa ac _ (H.out.ext (Ext.below (below_then hb0 s2))) hc).mono ?_
  rintro r w3 ⟨a3, c3, rfl, ho3, hb3⟩
  dsimp only
  refine hK.out _ _ (below_then s2 hb3) (fun _ => ?_)
  clear hK K
  have s3 := below_then s2 hb3
  refine wpMix_l rfl rfl (fun K hK => ?_)
  go_simp
  refine (sameStrings16_any e.names a2 a3 c2 c3 _ (OwnS.reads1 (ho2.below hb3)) (OwnS.reads1 ho3)).mono ?_
  rintro r w4 ⟨rfl, hb4⟩
  dsimp only
  refine hK.out _ _ (below_then s3 hb4) (fun _ => ?_)
  clear hK K
  have s4 := below_then s3 hb4
  iterate 3 (refine wpMix_q rfl rfl (fun K hK => ?_); apply Exists.intro; refine ⟨fun w' hw' => ?_, ?_⟩; (focus (go_simp; try rfl)); go_simp; refine hK _ _ ?_; clear hK K)
  refine wpMix_l rfl rfl (fun K hK => ?_)
  go_simp
  refine (depth_any d e na nc da dc aa ac _ (H.out.ext (Ext.below (below_then hb0 s4))) hc).mono ?_
  rintro r w5 ⟨rfl, hb5⟩
  dsimp only
  refine hK.out _ _ (below_then s4 hb5) (fun _ => ?_)
  clear hK K
  have s5 := below_then s4 hb5
  refine wpMix_l rfl rfl (fun K hK => ?_)
  go_simp
  refine (depthR_any d e na nc da dc aa ac _ (H.out.ext (Ext.below (below_then hb0 s5))) hc).mono ?_
  rintro r w6 ⟨rfl, hb6⟩
  dsimp only
  refine hK.out _ _ (below_then s5 hb6) (fun _ => ?_)
  clear hK K
  have s6 := below_then s5 hb6
  iterate 4 (refine wpMix_q rfl rfl (fun K hK => ?_); apply Exists.intro; refine ⟨fun w' hw' => ?_, ?_⟩; (focus (go_simp; try rfl)); go_simp; refine hK _ _ ?_; clear hK K)
  refine wpMix_nil ?_
  go_wp2
  go_ret
  exact ⟨rfl, below_then hb0 s6⟩

set_option maxRecDepth 100000 in
set_option maxHeartbeats 1000000 in
theorem astMeasures_many (d : Nat) (e : Expr) (na : Option Addr) (nc : Nat) (da : Option Addr) (dc : Nat) (aa : Option Addr) (ac : Nat) (w : World) (h : ExprR d w na nc da dc aa ac e) (hc : e.count ≤ 1048576) (h3 : ¬ e.count ≤ 300) :
    Calls Try.prog 4 #[e.val na nc da dc aa ac] w fun r w' => r = .returned (.bool true) ∧ Below w.heap.size w w' := by
  have H := Lib.hid h
  clear h
  unfold Expr.val
  have h3b : decide (e.count ≤ 300) = false := by simpa using h3
  go_enter Try.func4, Try.ntmps4
  go_wp2_with fail
  have hb0 : Below w.heap.size w (w.alloc (.cells #[.int .i64 e.kind, .string e.name, .bool e.neg, .slice na e.num.length nc, .slice da e.den.length dc, .slice aa e.args.length ac, .int .i64 e.pos] 40)) := by go_grown
  have bx : ExprC (w.alloc (.cells #[.int .i64 e.kind, .string e.name, .bool e.neg, .slice na e.num.length nc, .slice da e.den.length dc, .slice aa e.args.length ac, .int .i64 e.pos] 40)) w.heap.size 0 na nc da dc aa ac e := by simp [ExprC]
  revert hb0 bx
  generalize (w.alloc (.cells #[.int .i64 e.kind, .string e.name, .bool e.neg, .slice na e.num.length nc, .slice da e.den.length dc, .slice aa e.args.length ac, .int .i64 e.pos] 40)) = w0
  intro hb0 bx
  obtain ⟨k0, k1, k2, k3, k4, k5, k6⟩ := ExprC.held bx
  clear bx
  have s0 : Below w0.heap.size w0 w0.drew := (Below.refl _ _).drew
  refine wp_region_mix (S := Below w0.heap.size w0) [(0, .q), (1, .l), (2, .q), (3, .q), (4, .q), (6, .q), (5, .l), (7, .l), (8, .l), (9, .q), (10, .q), (12, .q), (11, .l), (13, .l), (14, .q), (15, .q), (16, .q), (17, .q)] (by kernel_rfl) (by kernel_rfl) (by kernel_rfl) (fun d _ _ _ _ h => by cases d <;> exact h) (s0) ?_
  iterate 1 (refine wpMix_q rfl rfl (fun K hK => ?_); apply Exists.intro; refine ⟨fun w' hw' => ?_, ?_⟩; (focus (go_simp; try rfl)); go_simp; refine hK _ _ ?_; clear hK K)
  refine wpMix_l rfl rfl (fun K hK => ?_)
  go_simp
  refine (small16_is false d e na nc da dc aa ac _ (H.out.ext (Ext.below (below_then hb0 s0))) hc h3b).mono ?_
  rintro r w1 ⟨rfl, hb1⟩
  dsimp only
  refine hK.out _ _ (below_then s0 hb1) (fun _ => ?_)
  clear hK K
  have s1 := below_then s0 hb1
  iterate 2 (refine wpMix_q rfl rfl (fun K hK => ?_); apply Exists.intro; refine ⟨fun w' hw' => ?_, ?_⟩; (focus (go_simp; try rfl)); go_simp; refine hK _ _ ?_; clear hK K)
  iterate 12 (refine wpMix_skip rfl rfl (fun K hK => ?_); go_simp; refine hK _ _ ?_; clear hK K)
  iterate 2 (refine wpMix_q rfl rfl (fun K hK => ?_); apply Exists.intro; refine ⟨fun w' hw' => ?_, ?_⟩; (focus (go_simp; try rfl)); go_simp; refine hK _ _ ?_; clear hK K)
  refine wpMix_nil ?_
  go_wp2
  go_ret
  exact ⟨rfl, below_then hb0 s1⟩

theorem astMeasures_law {v : Value} {w : World} {k : Nat} (h : ∃ (e : Expr) (n : Nat) (na : Option Addr) (nc : Nat) (da : Option Addr) (dc : Nat) (aa : Option Addr) (ac : Nat), v = e.val na nc da dc aa ac ∧ ExprR n w na nc da dc aa ac e ∧ e.weight ≤ k) (hk : k ≤ 1048576) :
    Calls Try.prog 4 #[v] w fun r w' => r = .returned (.bool true) ∧ Below w.heap.size w w' := by
  obtain ⟨e, n, na, nc, da, dc, aa, ac, rfl, hr, hw⟩ := h
  have hc := count_le_weight e
  by_cases h3 : e.count ≤ 300
  · exact astMeasures_few n e na nc da dc aa ac w hr (by omega) h3
  · exact astMeasures_many n e na nc da dc aa ac w hr (by omega) h3
end Go.Proofs.Ytmlldjcbijoheaa
