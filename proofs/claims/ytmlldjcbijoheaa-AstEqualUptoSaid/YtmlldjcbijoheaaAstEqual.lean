/- The walk of AstEqual. -/
import Derived.Test.YtmlldjcbijoheaaMoved
import Derived.Test.YtmlldjcbijoheaaEqual
import Derived.Test.YtmlldjcbijoheaaExprEqR
import Derived.Test.YtmlldjcbijoheaaAstMeasures
namespace Go.Proofs.Ytmlldjcbijoheaa
open Go.RowKit

theorem stmtsR_one {d : Nat} {w : World} {g : Nat} {p : SA} {s : Stmt} (h : StmtC w g 0 p s) (hr : StmtR d w p s) : StmtsR d w (some ⟨g, 0, none⟩) 1 [s] := by
  refine ⟨by simp, by simp [maxLen], fun k x hx => ?_⟩
  cases k with
  | zero => simp at hx; subst hx; exact ⟨g, 0, rfl, by simpa using ⟨p, h, hr⟩⟩
  | succ k => simp at hx
theorem stmtsR_nil (d : Nat) (w : World) : StmtsR d w none 0 [] := ⟨by simp, by simp [maxLen], fun k x hx => by simp at hx⟩
theorem strsR_one {w : World} {g : Nat} {s : ByteArray} (h : w.cell? ⟨g, 0, none⟩ = some (.string s)) : StrsR w (some ⟨g, 0, none⟩) 1 [s] := by
  refine ⟨by simp, by simp [maxLen], fun k x hx => ?_⟩
  cases k with
  | zero => simp at hx; subst hx; exact ⟨g, 0, rfl, by simpa [StrE] using h⟩
  | succ k => simp at hx

set_option maxRecDepth 100000 in
set_option maxHeartbeats 2000000 in
theorem astEqual_big1 (d : Nat) (e f : Expr) (m : Int) (na : Option Addr) (nc : Nat) (da : Option Addr) (dc : Nat) (aa : Option Addr) (ac : Nat) (na' : Option Addr) (nc' : Nat) (da' : Option Addr) (dc' : Nat) (aa' : Option Addr) (ac' : Nat) (w : World)
    (h : ExprR d w na nc da dc aa ac e) (hc : e.count ≤ 1048576) (h3 : ¬ e.count ≤ 300) :
    Calls Try.prog 5 #[e.val na nc da dc aa ac, f.val na' nc' da' dc' aa' ac', .int .i64 m] w fun r w' => r = .returned (.bool true) ∧ Below w.heap.size w w' := by
  have H := Lib.hid h
  clear h
  unfold Expr.val
  have h3b : decide (e.count ≤ 300) = false := by simpa using h3
  go_enter Try.func5, Try.ntmps5
  go_wp2_with fail
  refine (small16_is false d e na nc da dc aa ac _ (H.out.ext (ext_alloc2 _ _ _)) hc h3b).mono ?_
  rintro r w1 ⟨rfl, hb1⟩
  have hw := below_then2 (Below.refl _ w) hb1
  clear hb1
  go_wp2_with fail
  go_ret
  exact ⟨rfl, hw⟩

set_option maxRecDepth 100000 in
set_option maxHeartbeats 2000000 in
theorem astEqual_big2 (d : Nat) (e f : Expr) (m : Int) (na : Option Addr) (nc : Nat) (da : Option Addr) (dc : Nat) (aa : Option Addr) (ac : Nat) (na' : Option Addr) (nc' : Nat) (da' : Option Addr) (dc' : Nat) (aa' : Option Addr) (ac' : Nat) (w : World)
    (h : ExprR d w na nc da dc aa ac e) (hc : e.count ≤ 1048576) (h3 : e.count ≤ 300) (h' : ExprR d w na' nc' da' dc' aa' ac' f) (hc' : f.count ≤ 1048576) (h3' : ¬ f.count ≤ 300) :
    Calls Try.prog 5 #[e.val na nc da dc aa ac, f.val na' nc' da' dc' aa' ac', .int .i64 m] w fun r w' => r = .returned (.bool true) ∧ Below w.heap.size w w' := by
  have H := Lib.hid h
  have H' := Lib.hid h'
  clear h h'
  unfold Expr.val
  have h3b : decide (e.count ≤ 300) = true := by simpa using h3
  have h3b' : decide (f.count ≤ 300) = false := by simpa using h3'
  go_enter Try.func5, Try.ntmps5
  go_wp2_with fail
  refine (small16_is true d e na nc da dc aa ac _ (H.out.ext (ext_alloc2 _ _ _)) hc h3b).mono ?_
  rintro r w1 ⟨rfl, hb1⟩
  have hw := below_then2 (Below.refl _ w) hb1
  obtain ⟨k0, k1, k2, k3, k4, k5, k6⟩ : ExprC w1 (w.heap.size + 1) 0 na' nc' da' dc' aa' ac' f := by
    have : ExprC ((w.alloc (.cells #[.int .i64 e.kind, .string e.name, .bool e.neg, .slice na e.num.length nc, .slice da e.den.length dc, .slice aa e.args.length ac, .int .i64 e.pos] 40)).alloc (.cells #[.int .i64 f.kind, .string f.name, .bool f.neg, .slice na' f.num.length nc', .slice da' f.den.length dc', .slice aa' f.args.length ac', .int .i64 f.pos] 40)) (w.heap.size + 1) 0 na' nc' da' dc' aa' ac' f := by simp [ExprC]
    exact this.ext (Ext.below hb1)
  simp only [Nat.zero_add] at k0 k1 k2 k3 k4 k5 k6
  clear hb1
  go_wp2_with fail
  refine (small16_is false d f na' nc' da' dc' aa' ac' _ (H'.out.ext (Ext.below hw)) hc' h3b').mono ?_
  rintro r w2 ⟨rfl, hb2⟩
  have hw2 := below_then hw hb2
  clear hb2
  go_wp2_with fail
  go_ret
  exact ⟨rfl, hw2⟩

theorem blk6 (w : World) (t1 t2 t3 t4 t5 t6 : TypeId) (c1 c2 c3 c4 c5 c6 : Array Value) :
    Blk ((((((w.alloc (.cells c1 t1)).alloc (.cells c2 t2)).alloc (.cells c3 t3)).alloc (.cells c4 t4)).alloc (.cells c5 t5)).alloc (.cells c6 t6)) w.heap.size t1 c1 ∧
    Blk ((((((w.alloc (.cells c1 t1)).alloc (.cells c2 t2)).alloc (.cells c3 t3)).alloc (.cells c4 t4)).alloc (.cells c5 t5)).alloc (.cells c6 t6)) (w.heap.size + 1) t2 c2 ∧
    Blk ((((((w.alloc (.cells c1 t1)).alloc (.cells c2 t2)).alloc (.cells c3 t3)).alloc (.cells c4 t4)).alloc (.cells c5 t5)).alloc (.cells c6 t6)) (w.heap.size + 1 + 1) t3 c3 ∧
    Blk ((((((w.alloc (.cells c1 t1)).alloc (.cells c2 t2)).alloc (.cells c3 t3)).alloc (.cells c4 t4)).alloc (.cells c5 t5)).alloc (.cells c6 t6)) (w.heap.size + 1 + 1 + 1) t4 c4 ∧
    Blk ((((((w.alloc (.cells c1 t1)).alloc (.cells c2 t2)).alloc (.cells c3 t3)).alloc (.cells c4 t4)).alloc (.cells c5 t5)).alloc (.cells c6 t6)) (w.heap.size + 1 + 1 + 1 + 1) t5 c5 ∧
    Blk ((((((w.alloc (.cells c1 t1)).alloc (.cells c2 t2)).alloc (.cells c3 t3)).alloc (.cells c4 t4)).alloc (.cells c5 t5)).alloc (.cells c6 t6)) (w.heap.size + 1 + 1 + 1 + 1 + 1) t6 c6 := by
  have e1 : (w.alloc (.cells c1 t1)).heap.size = w.heap.size + 1 := by simp
  have e2 : ((w.alloc (.cells c1 t1)).alloc (.cells c2 t2)).heap.size = w.heap.size + 1 + 1 := by simp
  have e3 : (((w.alloc (.cells c1 t1)).alloc (.cells c2 t2)).alloc (.cells c3 t3)).heap.size = w.heap.size + 1 + 1 + 1 := by simp
  have e4 : ((((w.alloc (.cells c1 t1)).alloc (.cells c2 t2)).alloc (.cells c3 t3)).alloc (.cells c4 t4)).heap.size = w.heap.size + 1 + 1 + 1 + 1 := by simp
  have e5 : (((((w.alloc (.cells c1 t1)).alloc (.cells c2 t2)).alloc (.cells c3 t3)).alloc (.cells c4 t4)).alloc (.cells c5 t5)).heap.size = w.heap.size + 1 + 1 + 1 + 1 + 1 := by simp
  refine ⟨(((((Blk.new w t1 c1).alloc _).alloc _).alloc _).alloc _).alloc _, ?_, ?_, ?_, ?_, ?_⟩
  · have := Blk.new (w.alloc (.cells c1 t1)) t2 c2; rw [e1] at this; exact (((this.alloc _).alloc _).alloc _).alloc _
  · have := Blk.new ((w.alloc (.cells c1 t1)).alloc (.cells c2 t2)) t3 c3; rw [e2] at this; exact ((this.alloc _).alloc _).alloc _
  · have := Blk.new (((w.alloc (.cells c1 t1)).alloc (.cells c2 t2)).alloc (.cells c3 t3)) t4 c4; rw [e3] at this; exact (this.alloc _).alloc _
  · have := Blk.new ((((w.alloc (.cells c1 t1)).alloc (.cells c2 t2)).alloc (.cells c3 t3)).alloc (.cells c4 t4)) t5 c5; rw [e4] at this; exact this.alloc _
  · have := Blk.new (((((w.alloc (.cells c1 t1)).alloc (.cells c2 t2)).alloc (.cells c3 t3)).alloc (.cells c4 t4)).alloc (.cells c5 t5)) t6 c6; rw [e5] at this; exact this
theorem stmtC_blk {w : World} {g : Nat} {t : TypeId} {p : SA} {s : Stmt} {cs : Array Value} (h : Blk w g t cs)
    (e : cs = #[.int .i64 s.kind, .slice p.sa s.names.length p.sc, .int .i64 s.expr.kind, .string s.expr.name, .bool s.expr.neg, .slice p.na s.expr.num.length p.nc, .slice p.da s.expr.den.length p.dc, .slice p.aa s.expr.args.length p.ac, .int .i64 s.expr.pos, .int .i64 s.pos]) : StmtC w g 0 p s := by
  subst e
  exact ⟨h.cell 0, h.cell 1, h.cell 2, h.cell 3, h.cell 4, h.cell 5, h.cell 6, h.cell 7, h.cell 8, h.cell 9⟩

theorem equal_one (d : Nat) (s t : Stmt) (p q : SA) (g g' : Nat) (b : Bool) (w : World) (hb : s.eqv t = b) (c : StmtC w g 0 p s) (h : StmtR d w p s) (c' : StmtC w g' 0 q t) (h' : StmtR d w q t) :
    Calls Try.prog 24 #[.agg #[.slice (some ⟨g, 0, none⟩) 1 1], .agg #[.slice (some ⟨g', 0, none⟩) 1 1]] w fun r w' => r = .returned (.bool b) ∧ Below w.heap.size w w' := by
  have := equalProg_any d [s] [t] (some ⟨g, 0, none⟩) (some ⟨g', 0, none⟩) 1 1 w (stmtsR_one c h) (stmtsR_one c' h')
  have e : progEqv [s] [t] = b := by simp [progEqv, hb]
  rw [e] at this
  exact this
theorem equal_none (d : Nat) (s : Stmt) (p : SA) (g : Nat) (w : World) (c : StmtC w g 0 p s) (h : StmtR d w p s) :
    Calls Try.prog 24 #[.agg #[.slice (some ⟨g, 0, none⟩) 1 1], .agg #[.slice none 0 0]] w fun r w' => r = .returned (.bool false) ∧ Below w.heap.size w w' := by
  have := equalProg_any d [s] [] (some ⟨g, 0, none⟩) none 1 0 w (stmtsR_one c h) (stmtsR_nil d w)
  have e : progEqv [s] [] = false := by simp [progEqv]
  rw [e] at this
  exact this

set_option maxRecDepth 100000 in
set_option maxHeartbeats 4000000 in
theorem astEqual_small (d : Nat) (e f : Expr) (m : Int) (na : Option Addr) (nc : Nat) (da : Option Addr) (dc : Nat) (aa : Option Addr) (ac : Nat) (na' : Option Addr) (nc' : Nat) (da' : Option Addr) (dc' : Nat) (aa' : Option Addr) (ac' : Nat) (w : World)
    (h : ExprR d w na nc da dc aa ac e) (hc : e.count ≤ 1048576) (h3 : e.count ≤ 300) (h' : ExprR d w na' nc' da' dc' aa' ac' f) (hc' : f.count ≤ 1048576) (h3' : f.count ≤ 300) (hm : InInt m) :
    Calls Try.prog 5 #[e.val na nc da dc aa ac, f.val na' nc' da' dc' aa' ac', .int .i64 m] w fun r w' => r = .returned (.bool true) ∧ Below w.heap.size w w' := by
  have H := Lib.hid h
  have H' := Lib.hid h'
  clear h h'
  have h3b : decide (e.count ≤ 300) = true := by simpa using h3
  have h3b' : decide (f.count ≤ 300) = true := by simpa using h3'
  obtain ⟨bv, hbv⟩ : ∃ b, e.eqv f = b := ⟨_, rfl⟩
  have E1 : ∀ w', Ext w w' → Calls Try.prog 22 #[e.val na nc da dc aa ac, f.val na' nc' da' dc' aa' ac'] w' fun r w'' => r = .returned (.bool bv) ∧ Below w'.heap.size w' w'' := fun w' x => by
    have := equalExpr_any d e f na nc da dc aa ac na' nc' da' dc' aa' ac' w' (H.out.ext x) (H'.out.ext x)
    rwa [hbv] at this
  have E2 : ∀ w', Ext w w' → Calls Try.prog 21 #[e.val na nc da dc aa ac, f.val na' nc' da' dc' aa' ac'] w' fun r w'' => r = .returned (.bool bv) ∧ Below w'.heap.size w' w'' := fun w' x => by
    have := equalExprR_any d e f na nc da dc aa ac na' nc' da' dc' aa' ac' w' (H.out.ext x) (H'.out.ext x)
    rwa [hbv] at this
  have E3 : ∀ (w' : World) (p : XP), p.e = e.moved m → p.R d w' → Ext w w' → Calls Try.prog 22 #[e.val na nc da dc aa ac, p.val] w' fun r w'' => r = .returned (.bool true) ∧ Below w'.heap.size w' w'' := fun w' p hp hr x => by
    have := equalExpr_any d e p.e na nc da dc aa ac p.na p.nc p.da p.dc p.aa p.ac w' (H.out.ext x) hr
    rw [hp, eqv_moved] at this
    rw [← hp] at this
    exact this
  replace E1 := Lib.hid E1; replace E2 := Lib.hid E2; replace E3 := Lib.hid E3; replace hbv := Lib.hid hbv
  unfold Expr.val
  go_enter Try.func5, Try.ntmps5
  go_wp2_with fail
  have hb0 : Below w.heap.size w ((w.alloc (.cells #[.int .i64 e.kind, .string e.name, .bool e.neg, .slice na e.num.length nc, .slice da e.den.length dc, .slice aa e.args.length ac, .int .i64 e.pos] 40)).alloc (.cells #[.int .i64 f.kind, .string f.name, .bool f.neg, .slice na' f.num.length nc', .slice da' f.den.length dc', .slice aa' f.args.length ac', .int .i64 f.pos] 40)) := by go_grown
  have cA : ExprC ((w.alloc (.cells #[.int .i64 e.kind, .string e.name, .bool e.neg, .slice na e.num.length nc, .slice da e.den.length dc, .slice aa e.args.length ac, .int .i64 e.pos] 40)).alloc (.cells #[.int .i64 f.kind, .string f.name, .bool f.neg, .slice na' f.num.length nc', .slice da' f.den.length dc', .slice aa' f.args.length ac', .int .i64 f.pos] 40)) w.heap.size 0 na nc da dc aa ac e := by simp [ExprC]
  have cB : ExprC ((w.alloc (.cells #[.int .i64 e.kind, .string e.name, .bool e.neg, .slice na e.num.length nc, .slice da e.den.length dc, .slice aa e.args.length ac, .int .i64 e.pos] 40)).alloc (.cells #[.int .i64 f.kind, .string f.name, .bool f.neg, .slice na' f.num.length nc', .slice da' f.den.length dc', .slice aa' f.args.length ac', .int .i64 f.pos] 40)) (w.heap.size + 1) 0 na' nc' da' dc' aa' ac' f := by simp [ExprC]
  revert hb0 cA cB
  generalize ((w.alloc (.cells #[.int .i64 e.kind, .string e.name, .bool e.neg, .slice na e.num.length nc, .slice da e.den.length dc, .slice aa e.args.length ac, .int .i64 e.pos] 40)).alloc (.cells #[.int .i64 f.kind, .string f.name, .bool f.neg, .slice na' f.num.length nc', .slice da' f.den.length dc', .slice aa' f.args.length ac', .int .i64 f.pos] 40)) = w0
  intro hb0 cA cB
  refine (small16_is true d e na nc da dc aa ac _ (H.out.ext (Ext.below hb0)) hc h3b).mono ?_
  rintro r w1 ⟨rfl, hb1⟩
  have hw1 := below_then hb0 hb1
  replace cA := cA.ext (Ext.below hb1)
  replace cB := cB.ext (Ext.below hb1)
  clear hb0 hb1
  obtain ⟨k0, k1, k2, k3, k4, k5, k6⟩ := cB
  simp only [Nat.zero_add] at k0 k1 k2 k3 k4 k5 k6
  go_wp2_with fail
  refine (small16_is true d f na' nc' da' dc' aa' ac' _ (H'.out.ext (Ext.below hw1)) hc' h3b').mono ?_
  rintro r w2 ⟨rfl, hb2⟩
  have hw2 := below_then hw1 hb2
  replace cA := cA.ext (Ext.below hb2)
  have cB : ExprC w2 (w.heap.size + 1) 0 na' nc' da' dc' aa' ac' f := ExprC.ext (w := w1) (by simp [ExprC, k0, k1, k2, k3, k4, k5, k6]) (Ext.below hb2)
  clear k0 k1 k2 k3 k4 k5 k6 hb2
  have cA0 := cA
  obtain ⟨k0, k1, k2, k3, k4, k5, k6⟩ := cA
  have cB0 := cB
  obtain ⟨l0, l1, l2, l3, l4, l5, l6⟩ := cB
  simp only [Nat.zero_add] at k0 k1 k2 k3 k4 k5 k6 l0 l1 l2 l3 l4 l5 l6
  go_wp2_with fail
  refine (E2.out w2 (Ext.below hw2)).mono ?_
  rintro r w3 ⟨rfl, hb3⟩
  have hw3 := below_then hw2 hb3
  have cA3 := cA0.ext (Ext.below hb3)
  have cB3 := cB0.ext (Ext.below hb3)
  clear k0 k1 k2 k3 k4 k5 k6 l0 l1 l2 l3 l4 l5 l6 hb3 cA0 cB0
  obtain ⟨k0, k1, k2, k3, k4, k5, k6⟩ := ExprC.held cA3
  obtain ⟨l0, l1, l2, l3, l4, l5, l6⟩ := ExprC.held cB3
  have s0 : Below w3.heap.size w3 w3.drew := (Below.refl _ _).drew
  go_wp2_with fail
  refine wp_region_mix (S := Below w3.heap.size w3) [(0, .q), (1, .q), (3, .q), (2, .l), (4, .q), (5, .q), (6, .q), (7, .q), (8, .q), (9, .l), (10, .l), (11, .q), (12, .q)] (by kernel_rfl) (by kernel_rfl) (by kernel_rfl) (fun d _ _ _ _ h => by cases d <;> exact h) (s0) ?_
  iterate 3 (refine wpMix_q rfl rfl (fun K hK => ?_); apply Exists.intro; refine ⟨fun w' hw' => ?_, ?_⟩; (focus (go_simp; try rfl)); go_simp; refine hK _ _ ?_; clear hK K)
  refine wpMix_l rfl rfl (fun K hK => ?_)
  go_simp
  refine (E1.out _ (Ext.below (below_then hw3 s0))).mono ?_
  rintro r w4 ⟨rfl, hb4⟩
  dsimp only
  refine hK.out _ _ (below_then s0 hb4) (fun _ => ?_)
  clear hK K
  have s1 := below_then s0 hb4
  iterate 5 (refine wpMix_q rfl rfl (fun K hK => ?_); apply Exists.intro; refine ⟨fun w' hw' => ?_, ?_⟩; (focus (go_simp; try rfl)); go_simp; refine hK _ _ ?_; clear hK K)
  refine wpMix_l rfl rfl (fun K hK => ?_)
  go_simp
  refine (moved_any d e m na nc da dc aa ac w w4 H.out (Ext.below (below_then hw3 s1)) hm hc).mono ?_
  rintro r w5 ⟨p, rfl, hpe, hb5, hpR⟩
  dsimp only
  refine hK.out _ _ (below_then s1 hb5) (fun _ => ?_)
  clear hK K
  have s2 := below_then s1 hb5
  have hR5 := hpR w5 (Ext.below (below_then hw3 s2)) (New.refl _ _)
  have E33 := E3.out w5 p hpe hR5 (Ext.below (below_then hw3 s2))
  refine wpMix_l rfl rfl (fun K hK => ?_)
  go_simp
  refine (E33).mono ?_
  rintro r w6 ⟨rfl, hb6⟩
  dsimp only
  refine hK.out _ _ (below_then s2 hb6) (fun _ => ?_)
  clear hK K
  have s3 := below_then s2 hb6
  iterate 2 (refine wpMix_q rfl rfl (fun K hK => ?_); apply Exists.intro; refine ⟨fun w' hw' => ?_, ?_⟩; (focus (go_simp; try rfl)); go_simp; refine hK _ _ ?_; clear hK K)
  refine wpMix_nil ?_
  clear E33 hR5 hpR hpe
  have hw6 := below_then hw3 s3
  have cA6 := cA3.ext (Ext.below s3)
  have cB6 := cB3.ext (Ext.below s3)
  clear k0 k1 k2 k3 k4 k5 k6 l0 l1 l2 l3 l4 l5 l6 cA3 cB3 hb4 hb5 hb6 s0 s1 s2 s3 hw1 hw2 hw3
  obtain ⟨k0, k1, k2, k3, k4, k5, k6⟩ := cA6
  obtain ⟨l0, l1, l2, l3, l4, l5, l6⟩ := cB6
  simp only [Nat.zero_add] at k0 k1 k2 k3 k4 k5 k6 l0 l1 l2 l3 l4 l5 l6
  have g0 : w.heap.size < w6.heap.size := World.block_lt_of_cell? _ _ k0
  have g1 : w.heap.size + 1 < w6.heap.size := World.block_lt_of_cell? _ _ l0
  have g2 : w.heap.size < w6.heap.size + 1 := by omega
  have g3 : w.heap.size < w6.heap.size + 1 + 1 := by omega
  have g4 : w.heap.size < w6.heap.size + 2 := by omega
  go_wp2_with fail
  have hb8 : Below w.heap.size w ((((((w6.alloc (.cells #[.string ⟨#[65]⟩] 9)).alloc (.cells #[.int .i64 2, .slice (some ⟨w6.heap.size, 0, none⟩) 1 1, .int .i64 e.kind, .string e.name, .bool e.neg, .slice na e.num.length nc, .slice da e.den.length dc, .slice aa e.args.length ac, .int .i64 e.pos, .int .i64 m] 49)).alloc (.cells #[.slice (some ⟨w6.heap.size + 1, 0, none⟩) 1 1] 52)).alloc (.cells #[.string ⟨#[65]⟩] 9)).alloc (.cells #[.int .i64 2, .slice (some ⟨w6.heap.size + 1 + 1 + 1, 0, none⟩) 1 1, .int .i64 f.kind, .string f.name, .bool f.neg, .slice na' f.num.length nc', .slice da' f.den.length dc', .slice aa' f.args.length ac', .int .i64 f.pos, .int .i64 0] 49)).alloc (.cells #[.slice (some ⟨w6.heap.size + 1 + 1 + 1 + 1, 0, none⟩) 1 1] 52)) := by go_grown
  have hB := blk6 w6 9 49 52 9 49 52 #[.string ⟨#[65]⟩] #[.int .i64 2, .slice (some ⟨w6.heap.size, 0, none⟩) 1 1, .int .i64 e.kind, .string e.name, .bool e.neg, .slice na e.num.length nc, .slice da e.den.length dc, .slice aa e.args.length ac, .int .i64 e.pos, .int .i64 m] #[.slice (some ⟨w6.heap.size + 1, 0, none⟩) 1 1] #[.string ⟨#[65]⟩] #[.int .i64 2, .slice (some ⟨w6.heap.size + 1 + 1 + 1, 0, none⟩) 1 1, .int .i64 f.kind, .string f.name, .bool f.neg, .slice na' f.num.length nc', .slice da' f.den.length dc', .slice aa' f.args.length ac', .int .i64 f.pos, .int .i64 0] #[.slice (some ⟨w6.heap.size + 1 + 1 + 1 + 1, 0, none⟩) 1 1]
  revert hb8 hB
  generalize ((((((w6.alloc (.cells #[.string ⟨#[65]⟩] 9)).alloc (.cells #[.int .i64 2, .slice (some ⟨w6.heap.size, 0, none⟩) 1 1, .int .i64 e.kind, .string e.name, .bool e.neg, .slice na e.num.length nc, .slice da e.den.length dc, .slice aa e.args.length ac, .int .i64 e.pos, .int .i64 m] 49)).alloc (.cells #[.slice (some ⟨w6.heap.size + 1, 0, none⟩) 1 1] 52)).alloc (.cells #[.string ⟨#[65]⟩] 9)).alloc (.cells #[.int .i64 2, .slice (some ⟨w6.heap.size + 1 + 1 + 1, 0, none⟩) 1 1, .int .i64 f.kind, .string f.name, .bool f.neg, .slice na' f.num.length nc', .slice da' f.den.length dc', .slice aa' f.args.length ac', .int .i64 f.pos, .int .i64 0] 49)).alloc (.cells #[.slice (some ⟨w6.heap.size + 1 + 1 + 1 + 1, 0, none⟩) 1 1] 52)) = w8
  intro hb8 ⟨n1, c1, r1, n2, c2, r2⟩
  have eN : ∀ (x : Expr) (y : Int), (Stmt.mk 2 [⟨#[65]⟩] e m).eqv ⟨2, [⟨#[65]⟩], x, y⟩ = e.eqv x := fun x y => by simp [Stmt.eqv]
  have eN2 : ∀ (x : Expr) (y : Int), (Stmt.mk 2 [⟨#[65]⟩] e m).eqv ⟨2, [⟨#[66]⟩], x, y⟩ = false := fun x y => by
    have : ¬ ((⟨#[65]⟩ : ByteArray) = ⟨#[66]⟩) := by decide
    simp [Stmt.eqv, this]
  have eN3 : ∀ (x : Expr) (y : Int), (Stmt.mk 2 [⟨#[65]⟩] e m).eqv ⟨3, [⟨#[65]⟩], x, y⟩ = false := fun x y => by simp [Stmt.eqv]
  replace eN := Lib.hid eN; replace eN2 := Lib.hid eN2; replace eN3 := Lib.hid eN3
  have rA : ∀ w', Ext w w' → Blk w' w6.heap.size 9 #[.string ⟨#[65]⟩] → StmtR d w' ⟨some ⟨w6.heap.size, 0, none⟩, 1, na, nc, da, dc, aa, ac⟩ ⟨2, [⟨#[65]⟩], e, m⟩ := fun w' x hn =>
    ⟨by simp [InInt], strsR_one (hn.cell 0), H.out.ext x, hm⟩
  have rB : ∀ (w' : World) (k : Int) (g : Nat) (b : ByteArray), InInt k → Ext w w' → Blk w' g 9 #[.string b] → StmtR d w' ⟨some ⟨g, 0, none⟩, 1, na', nc', da', dc', aa', ac'⟩ ⟨k, [b], f, 0⟩ := fun w' k g b hk x hn =>
    ⟨hk, strsR_one (hn.cell 0), H'.out.ext x, by simp [InInt]⟩
  replace rA := Lib.hid rA; replace rB := Lib.hid rB
  refine (equal_one d _ _ _ _ _ _ bv w8 ((eN.out f 0).trans hbv.out) (stmtC_blk c1 rfl) (rA.out w8 (Ext.below hb8) n1) (stmtC_blk c2 rfl) (rB.out w8 2 _ _ (by simp [InInt]) (Ext.below hb8) n2)).mono ?_
  rintro r w9 ⟨rfl, hb9⟩
  replace n1 := n1.below' hb9
  replace c1 := c1.below' hb9
  replace r1 := r1.below' hb9
  replace n2 := n2.below' hb9
  replace c2 := c2.below' hb9
  replace r2 := r2.below' hb9
  replace hb9 := below_then hb8 hb9
  have a1 : w9.cell? ⟨w6.heap.size + 1 + 1, 0, none⟩ = some (.slice (some ⟨w6.heap.size + 1, 0, none⟩) 1 1) := r1.cell 0
  clear k0 k1 k2 k3 k4 k5 k6 l0 l1 l2 l3 l4 l5 l6 g0 g2 g3 g4 hb8
  go_wp2_with fail
  refine (equal_none d _ _ _ w9 (stmtC_blk c1 rfl) (rA.out w9 (Ext.below hb9) n1)).mono ?_
  rintro r wA ⟨rfl, hbA⟩
  replace n1 := n1.below' hbA
  replace c1 := c1.below' hbA
  replace r1 := r1.below' hbA
  replace n2 := n2.below' hbA
  replace c2 := c2.below' hbA
  replace r2 := r2.below' hbA
  replace hbA := below_then hb9 hbA
  clear a1
  have a1 : wA.cell? ⟨w6.heap.size + 1 + 1, 0, none⟩ = some (.slice (some ⟨w6.heap.size + 1, 0, none⟩) 1 1) := r1.cell 0
  have a2 : wA.cell? ⟨w6.heap.size + 1 + 1 + 1 + 1 + 1, 0, none⟩ = some (.slice (some ⟨w6.heap.size + 1 + 1 + 1 + 1, 0, none⟩) 1 1) := r2.cell 0
  have a3 : wA.cell? ⟨w6.heap.size + 1 + 1 + 1 + 1, 1, none⟩ = some (.slice (some ⟨w6.heap.size + 1 + 1 + 1, 0, none⟩) 1 1) := c2.cell 1
  have a4 := c2.frozen 1
  have gA : w6.heap.size + 1 + 1 + 1 + 1 + 1 < wA.heap.size := r2.lt
  have gA2 : w6.heap.size + 1 + 1 + 1 + 1 < wA.heap.size := c2.lt
  have gA3 : w6.heap.size + 1 + 1 < wA.heap.size := r1.lt
  go_wp2_with fail
  have b1 : Below w.heap.size w ((wA.setCell ⟨w6.heap.size + 1 + 1 + 1 + 1, 1, none⟩ (.slice (some ⟨wA.heap.size, 0, none⟩) 1 1)).alloc (.cells #[.string ⟨#[66]⟩] 9)) := (hbA.setCell (by simp; omega) _).alloc (by have := hbA.size; simp; omega) _
  replace n1 := (n1.far (p := ⟨w6.heap.size + 1 + 1 + 1 + 1, 1, none⟩) (by simp <;> omega) (.slice (some ⟨wA.heap.size, 0, none⟩) 1 1)).alloc (.cells #[.string ⟨#[66]⟩] 9)
  replace c1 := (c1.far (p := ⟨w6.heap.size + 1 + 1 + 1 + 1, 1, none⟩) (by simp <;> omega) (.slice (some ⟨wA.heap.size, 0, none⟩) 1 1)).alloc (.cells #[.string ⟨#[66]⟩] 9)
  replace r1 := (r1.far (p := ⟨w6.heap.size + 1 + 1 + 1 + 1, 1, none⟩) (by simp <;> omega) (.slice (some ⟨wA.heap.size, 0, none⟩) 1 1)).alloc (.cells #[.string ⟨#[66]⟩] 9)
  replace n2 := (n2.far (p := ⟨w6.heap.size + 1 + 1 + 1 + 1, 1, none⟩) (by simp <;> omega) (.slice (some ⟨wA.heap.size, 0, none⟩) 1 1)).alloc (.cells #[.string ⟨#[66]⟩] 9)
  replace r2 := (r2.far (p := ⟨w6.heap.size + 1 + 1 + 1 + 1, 1, none⟩) (by simp <;> omega) (.slice (some ⟨wA.heap.size, 0, none⟩) 1 1)).alloc (.cells #[.string ⟨#[66]⟩] 9)
  replace c2 := (c2.set_ 1 (.slice (some ⟨wA.heap.size, 0, none⟩) 1 1)).alloc (.cells #[.string ⟨#[66]⟩] 9)
  have nB : Blk ((wA.setCell ⟨w6.heap.size + 1 + 1 + 1 + 1, 1, none⟩ (.slice (some ⟨wA.heap.size, 0, none⟩) 1 1)).alloc (.cells #[.string ⟨#[66]⟩] 9)) wA.heap.size 9 #[.string ⟨#[66]⟩] := by have := Blk.new (wA.setCell ⟨w6.heap.size + 1 + 1 + 1 + 1, 1, none⟩ (.slice (some ⟨wA.heap.size, 0, none⟩) 1 1)) 9 #[.string ⟨#[66]⟩]; simpa using this
  revert b1 n1 c1 r1 n2 r2 c2 nB
  generalize ((wA.setCell ⟨w6.heap.size + 1 + 1 + 1 + 1, 1, none⟩ (.slice (some ⟨wA.heap.size, 0, none⟩) 1 1)).alloc (.cells #[.string ⟨#[66]⟩] 9)) = wB
  intro b1 n1 c1 r1 n2 r2 c2 nB
  simp at c2
  clear a1 a2 a3 a4 gA gA2 gA3
  refine (equal_one d _ _ _ _ _ _ false wB (eN2.out f 0) (stmtC_blk c1 rfl) (rA.out wB (Ext.below b1) n1) (stmtC_blk c2 rfl) (rB.out wB 2 _ _ (by simp [InInt]) (Ext.below b1) nB)).mono ?_
  rintro r wC ⟨rfl, hbC⟩
  replace n1 := n1.below' hbC
  replace c1 := c1.below' hbC
  replace r1 := r1.below' hbC
  replace n2 := n2.below' hbC
  replace c2 := c2.below' hbC
  replace r2 := r2.below' hbC
  replace hbC := below_then b1 hbC
  clear b1 nB
  have a1 : wC.cell? ⟨w6.heap.size + 1 + 1, 0, none⟩ = some (.slice (some ⟨w6.heap.size + 1, 0, none⟩) 1 1) := r1.cell 0
  have a2 : wC.cell? ⟨w6.heap.size + 1 + 1 + 1 + 1 + 1, 0, none⟩ = some (.slice (some ⟨w6.heap.size + 1 + 1 + 1 + 1, 0, none⟩) 1 1) := r2.cell 0
  have a4 := c2.frozen 1
  have gA : w6.heap.size + 1 + 1 + 1 + 1 + 1 < wC.heap.size := r2.lt
  have gA2 : w6.heap.size + 1 + 1 + 1 + 1 < wC.heap.size := c2.lt
  have gA3 : w6.heap.size + 1 + 1 < wC.heap.size := r1.lt
  have a3 : wC.cell? ⟨w6.heap.size + 1 + 1 + 1 + 1, 1, none⟩ = some (.slice (some ⟨wA.heap.size, 0, none⟩) 1 1) := c2.cell 1
  have a5 : wC.cell? ⟨w6.heap.size + 1 + 1 + 1 + 1, 0, none⟩ = some (.int .i64 2) := c2.cell 0
  have a6 := c2.frozen 0
  go_wp2_with fail
  have b1 : Below w.heap.size w (((wC.setCell ⟨w6.heap.size + 1 + 1 + 1 + 1, 1, none⟩ (.slice (some ⟨wC.heap.size, 0, none⟩) 1 1)).setCell ⟨w6.heap.size + 1 + 1 + 1 + 1, 0, none⟩ (.int .i64 3)).alloc (.cells #[.string ⟨#[65]⟩] 9)) := ((hbC.setCell (by simp; omega) _).setCell (by simp; omega) _).alloc (by have := hbC.size; simp; omega) _
  replace n1 := ((n1.far (p := ⟨w6.heap.size + 1 + 1 + 1 + 1, 1, none⟩) (by simp <;> omega) (.slice (some ⟨wC.heap.size, 0, none⟩) 1 1)).far (p := ⟨w6.heap.size + 1 + 1 + 1 + 1, 0, none⟩) (by simp <;> omega) (.int .i64 3)).alloc (.cells #[.string ⟨#[65]⟩] 9)
  replace c1 := ((c1.far (p := ⟨w6.heap.size + 1 + 1 + 1 + 1, 1, none⟩) (by simp <;> omega) (.slice (some ⟨wC.heap.size, 0, none⟩) 1 1)).far (p := ⟨w6.heap.size + 1 + 1 + 1 + 1, 0, none⟩) (by simp <;> omega) (.int .i64 3)).alloc (.cells #[.string ⟨#[65]⟩] 9)
  replace r1 := ((r1.far (p := ⟨w6.heap.size + 1 + 1 + 1 + 1, 1, none⟩) (by simp <;> omega) (.slice (some ⟨wC.heap.size, 0, none⟩) 1 1)).far (p := ⟨w6.heap.size + 1 + 1 + 1 + 1, 0, none⟩) (by simp <;> omega) (.int .i64 3)).alloc (.cells #[.string ⟨#[65]⟩] 9)
  replace n2 := ((n2.far (p := ⟨w6.heap.size + 1 + 1 + 1 + 1, 1, none⟩) (by simp <;> omega) (.slice (some ⟨wC.heap.size, 0, none⟩) 1 1)).far (p := ⟨w6.heap.size + 1 + 1 + 1 + 1, 0, none⟩) (by simp <;> omega) (.int .i64 3)).alloc (.cells #[.string ⟨#[65]⟩] 9)
  replace r2 := ((r2.far (p := ⟨w6.heap.size + 1 + 1 + 1 + 1, 1, none⟩) (by simp <;> omega) (.slice (some ⟨wC.heap.size, 0, none⟩) 1 1)).far (p := ⟨w6.heap.size + 1 + 1 + 1 + 1, 0, none⟩) (by simp <;> omega) (.int .i64 3)).alloc (.cells #[.string ⟨#[65]⟩] 9)
  replace c2 := ((c2.set_ 1 (.slice (some ⟨wC.heap.size, 0, none⟩) 1 1)).set_ 0 (.int .i64 3)).alloc (.cells #[.string ⟨#[65]⟩] 9)
  have nB : Blk (((wC.setCell ⟨w6.heap.size + 1 + 1 + 1 + 1, 1, none⟩ (.slice (some ⟨wC.heap.size, 0, none⟩) 1 1)).setCell ⟨w6.heap.size + 1 + 1 + 1 + 1, 0, none⟩ (.int .i64 3)).alloc (.cells #[.string ⟨#[65]⟩] 9)) wC.heap.size 9 #[.string ⟨#[65]⟩] := by have := Blk.new ((wC.setCell ⟨w6.heap.size + 1 + 1 + 1 + 1, 1, none⟩ (.slice (some ⟨wC.heap.size, 0, none⟩) 1 1)).setCell ⟨w6.heap.size + 1 + 1 + 1 + 1, 0, none⟩ (.int .i64 3)) 9 #[.string ⟨#[65]⟩]; simpa using this
  revert b1 n1 c1 r1 n2 r2 c2 nB
  generalize (((wC.setCell ⟨w6.heap.size + 1 + 1 + 1 + 1, 1, none⟩ (.slice (some ⟨wC.heap.size, 0, none⟩) 1 1)).setCell ⟨w6.heap.size + 1 + 1 + 1 + 1, 0, none⟩ (.int .i64 3)).alloc (.cells #[.string ⟨#[65]⟩] 9)) = wD
  intro b1 n1 c1 r1 n2 r2 c2 nB
  simp at c2
  clear a1 a2 a3 a4 a5 a6 gA gA2 gA3
  refine (equal_one d _ _ _ _ _ _ false wD (eN3.out f 0) (stmtC_blk c1 rfl) (rA.out wD (Ext.below b1) n1) (stmtC_blk c2 rfl) (rB.out wD 3 _ _ (by simp [InInt]) (Ext.below b1) nB)).mono ?_
  rintro r wE ⟨rfl, hbE⟩
  replace hbE := below_then b1 hbE
  go_wp2_with fail
  go_ret
  exact ⟨rfl, hbE⟩

theorem astEqual_law {v u : Value} {w : World} {k k' : Nat} (h : ∃ (e : Expr) (n : Nat) (na : Option Addr) (nc : Nat) (da : Option Addr) (dc : Nat) (aa : Option Addr) (ac : Nat), v = e.val na nc da dc aa ac ∧ ExprR n w na nc da dc aa ac e ∧ e.weight ≤ k)
    (h' : ∃ (e : Expr) (n : Nat) (na : Option Addr) (nc : Nat) (da : Option Addr) (dc : Nat) (aa : Option Addr) (ac : Nat), u = e.val na nc da dc aa ac ∧ ExprR n w na nc da dc aa ac e ∧ e.weight ≤ k') (m : Int) (hm : (Lit.int .i64 m).wf = true) (hk : k ≤ 1048576) (hk' : k' ≤ 1048576) :
    Calls Try.prog 5 #[v, u, .int .i64 m] w fun r w' => r = .returned (.bool true) ∧ Below w.heap.size w w' := by
  obtain ⟨e, n, na, nc, da, dc, aa, ac, rfl, hr, hw⟩ := h
  obtain ⟨f, n', na', nc', da', dc', aa', ac', rfl, hr', hw'⟩ := h'
  have hc := count_le_weight e
  have hc' := count_le_weight f
  by_cases h3 : e.count ≤ 300
  · by_cases h3' : f.count ≤ 300
    · exact astEqual_small (n + n') e f m na nc da dc aa ac na' nc' da' dc' aa' ac' w (hr.more (by omega)) (by omega) h3 (hr'.more (by omega)) (by omega) h3' (inInt_of hm)
    · exact astEqual_big2 (n + n') e f m na nc da dc aa ac na' nc' da' dc' aa' ac' w (hr.more (by omega)) (by omega) h3 (hr'.more (by omega)) (by omega) h3'
  · exact astEqual_big1 (n + n') e f m na nc da dc aa ac na' nc' da' dc' aa' ac' w (hr.more (by omega)) (by omega) h3
end Go.Proofs.Ytmlldjcbijoheaa
