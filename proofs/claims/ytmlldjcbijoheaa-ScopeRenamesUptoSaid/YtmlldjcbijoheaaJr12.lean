/- Steps of a program in memory. -/
import Derived.Test.YtmlldjcbijoheaaJr11
import Derived.Test.YtmlldjcbijoheaaJr2

/- Walks: R16.Check and R16.empty. -/
namespace Go.Proofs.Ytmlldjcbijoheaa
open Go.RowKit

set_option maxRecDepth 100000 in
set_option maxHeartbeats 2000000 in
theorem checkTop16_any (d : Nat) (e : Expr) (s : Int) (na : Option Addr) (nc : Nat) (da : Option Addr) (dc : Nat) (aa : Option Addr) (ac : Nat) (w : World) (h : ExprR d w na nc da dc aa ac e) (hf : e.few) (hcount : e.count ≤ 1048576) :
    Calls Try.prog 126 #[e.val na nc da dc aa ac, .int .i64 s] w fun r w' => r = .returned (.int .i64 (e.check s)) ∧ Below w.heap.size w w' := by
  have CD := fun W (hW : Below w.heap.size w W) => depthR_any d e na nc da dc aa ac W (h.ext (Ext.below hW)) hcount
  have CK := fun W (hW : Below w.heap.size w W) => check16_any d e s na nc da dc aa ac W (h.ext (Ext.below hW)) hf
  obtain ⟨res, hres⟩ : ∃ x, e.check s = x := ⟨_, rfl⟩
  rw [hres]
  unfold Expr.check at hres
  have HRES := Lib.hid hres
  obtain ⟨n, hn⟩ : ∃ n, e.depth = n := ⟨_, rfl⟩
  obtain ⟨ev, hev⟩ : ∃ n, e.err s = n := ⟨_, rfl⟩
  rw [hn] at CD
  rw [hev] at CK
  have HN := Lib.hid hn; have HEV := Lib.hid hev
  unfold Expr.val at CD CK ⊢
  replace CD := Lib.hid CD; replace CK := Lib.hid CK
  clear h hf hcount hres hn hev
  have hz := Blk.new w 40 #[.int .i64 e.kind, .string e.name, .bool e.neg, .slice na e.num.length nc, .slice da e.den.length dc, .slice aa e.args.length ac, .int .i64 e.pos]
  have hb0 : Below w.heap.size w (w.alloc (.cells #[.int .i64 e.kind, .string e.name, .bool e.neg, .slice na e.num.length nc, .slice da e.den.length dc, .slice aa e.args.length ac, .int .i64 e.pos] 40)) := (Below.refl _ _).alloc (Nat.le_refl _) _
  by_cases h1 : s < 1
  · have hr : res = 1 := by rw [← HRES.out, if_pos (Or.inl h1)]
    subst hr
    go_enter Try.func126, Try.ntmps126
    go_wp2
    go_ret
    exact ⟨rfl, hb0⟩
  · by_cases h2 : 4 < s
    · have hr : res = 1 := by rw [← HRES.out, if_pos (Or.inr h2)]
      subst hr
      go_enter Try.func126, Try.ntmps126
      go_wp2
      go_ret
      exact ⟨rfl, hb0⟩
    · have hr := HRES.out
      rw [if_neg (by omega), HN.out, HEV.out] at hr
      have HR := Lib.hid hr
      clear hr HRES
      by_cases h3 : (20 : Int) < (n : Int)
      · have hr : res = 4 := by rw [← HR.out, if_pos (by omega)]
        subst hr
        clear HR
        go_enter Try.func126, Try.ntmps126
        go_wp2_with fail
        revert hz hb0
        generalize w.alloc (.cells _ _) = w0
        intro hz hb0
        refine (CD.out _ hb0).mono ?_
        rintro r w1 ⟨rfl, hb1⟩
        have hw1 := below_then hb0 hb1
        clear hb1 hz hb0
        go_wp2
        go_ret
        exact ⟨rfl, hw1⟩
      · have hr : res = ev := by rw [← HR.out, if_neg (by omega)]
        subst hr
        clear HR HEV
        go_enter Try.func126, Try.ntmps126
        go_wp2_with fail
        revert hz hb0
        generalize w.alloc (.cells _ _) = w0
        intro hz hb0
        refine (CD.out _ hb0).mono ?_
        rintro r w1 ⟨rfl, hb1⟩
        have hw1 := below_then hb0 hb1
        have hz1 := hz.below' hb1
        have z0 := hz1.cell 0; have z1 := hz1.cell 1; have z2 := hz1.cell 2; have z3 := hz1.cell 3; have z4 := hz1.cell 4; have z5 := hz1.cell 5; have z6 := hz1.cell 6
        clear hb1 hz hb0
        go_wp2_with fail
        refine (CK.out _ hw1).mono ?_
        rintro r w2 ⟨rfl, hb2⟩
        have hw2 := below_then hw1 hb2
        clear hb2 hz1 z0 z1 z2 z3 z4 z5 z6
        go_wp2
        go_ret
        exact ⟨rfl, hw2⟩

set_option maxRecDepth 100000 in
set_option maxHeartbeats 2000000 in
theorem empty16_any (e : Expr) (na : Option Addr) (nc : Nat) (da : Option Addr) (dc : Nat) (aa : Option Addr) (ac : Nat) (w : World) (hf : e.few) :
    Calls Try.prog 125 #[e.val na nc da dc aa ac] w fun r w' => r = .returned (.bool e.emptyB) ∧ Below w.heap.size w w' := by
  have hrt := Expr.few_rt hf
  have CN := fun W => none16_any e.rt na nc da dc W hrt.1 hrt.2
  obtain ⟨res, hres⟩ : ∃ x, e.emptyB = x := ⟨_, rfl⟩
  rw [hres]
  unfold Expr.emptyB at hres
  obtain ⟨bn, hbn⟩ : ∃ x, e.rt.none = x := ⟨_, rfl⟩
  rw [hbn] at CN hres
  have HRES := Lib.hid hres
  unfold Rt.val Expr.rt at CN
  dsimp only at CN
  unfold Expr.val
  replace CN := Lib.hid CN
  clear hf hrt hres hbn
  have hz := Blk.new w 40 #[.int .i64 e.kind, .string e.name, .bool e.neg, .slice na e.num.length nc, .slice da e.den.length dc, .slice aa e.args.length ac, .int .i64 e.pos]
  have hb0 : Below w.heap.size w (w.alloc (.cells #[.int .i64 e.kind, .string e.name, .bool e.neg, .slice na e.num.length nc, .slice da e.den.length dc, .slice aa e.args.length ac, .int .i64 e.pos] 40)) := (Below.refl _ _).alloc (Nat.le_refl _) _
  by_cases h1 : e.kind = 0
  · have hk : (e.kind == 0) = true := by simpa using h1
    by_cases h2 : e.name = ⟨#[]⟩
    · have hse : e.name.toList.isEmpty = true := by rw [str_isEmpty]; simpa using h2
      have hse2 : e.name.toList = [] := List.isEmpty_iff.1 hse
      have hr := HRES.out
      rw [decide_eq_true h1, decide_eq_true h2, Bool.true_and, Bool.true_and] at hr
      have HR := Lib.hid hr
      clear h1 h2 hr HRES
      go_enter Try.func125, Try.ntmps125
      go_wp2_with fail
      revert hz hb0
      generalize w.alloc (.cells _ _) = w0
      intro hz hb0
      refine (CN.out _).mono ?_
      rintro r w1 ⟨rfl, hb1⟩
      have hw1 := below_then hb0 hb1
      have hz1 := hz.below' hb1
      have z5 := hz1.cell 5
      clear hb1 hz hb0
      cases bn
      · have hr : res = false := by rw [← HR.out]; rfl
        subst hr
        go_wp2
        go_ret
        exact ⟨rfl, hw1⟩
      · have hr : res = decide (e.args.length = 0) := by rw [← HR.out]; rfl
        subst hr
        go_wp2
        go_ret
        exact ⟨ret_bool (by rw [Bool.eq_iff_iff]; simp), hw1⟩
    · have hse : e.name.toList.isEmpty = false := by rw [str_isEmpty]; simpa using h2
      have hse2 : e.name.toList ≠ [] := by intro x; rw [x] at hse; cases hse
      have hr : res = false := by rw [← HRES.out, decide_eq_false h2]; simp
      subst hr
      clear h1 h2
      go_enter Try.func125, Try.ntmps125
      go_wp2
      go_ret
      exact ⟨rfl, hb0⟩
  · have hk : (e.kind == 0) = false := by simpa using h1
    have hr : res = false := by rw [← HRES.out, decide_eq_false h1]; simp
    subst hr
    clear h1
    go_enter Try.func125, Try.ntmps125
    go_wp2
    go_ret
    exact ⟨rfl, hb0⟩
end Go.Proofs.Ytmlldjcbijoheaa

/- Steps of a program in memory. -/
namespace Go.Proofs.Ytmlldjcbijoheaa
open Go.RowKit

/-- where the slices of a step lie -/
structure SA where
  sa : Option Addr
  sc : Nat
  na : Option Addr
  nc : Nat
  da : Option Addr
  dc : Nat
  aa : Option Addr
  ac : Nat
def Stmt.val (s : Stmt) (p : SA) : Value :=
  .agg #[.int .i64 s.kind, .slice p.sa s.names.length p.sc, .int .i64 s.expr.kind, .string s.expr.name, .bool s.expr.neg, .slice p.na s.expr.num.length p.nc, .slice p.da s.expr.den.length p.dc, .slice p.aa s.expr.args.length p.ac, .int .i64 s.expr.pos, .int .i64 s.pos]
def StmtC (w : World) (b o : Nat) (p : SA) (s : Stmt) : Prop :=
  w.cell? ⟨b, o, none⟩ = some (.int .i64 s.kind) ∧ w.cell? ⟨b, o + 1, none⟩ = some (.slice p.sa s.names.length p.sc) ∧
  w.cell? ⟨b, o + 2, none⟩ = some (.int .i64 s.expr.kind) ∧ w.cell? ⟨b, o + 3, none⟩ = some (.string s.expr.name) ∧ w.cell? ⟨b, o + 4, none⟩ = some (.bool s.expr.neg) ∧
  w.cell? ⟨b, o + 5, none⟩ = some (.slice p.na s.expr.num.length p.nc) ∧ w.cell? ⟨b, o + 6, none⟩ = some (.slice p.da s.expr.den.length p.dc) ∧
  w.cell? ⟨b, o + 7, none⟩ = some (.slice p.aa s.expr.args.length p.ac) ∧ w.cell? ⟨b, o + 8, none⟩ = some (.int .i64 s.expr.pos) ∧ w.cell? ⟨b, o + 9, none⟩ = some (.int .i64 s.pos)
theorem StmtC.ext {w w' : World} {b o : Nat} {p : SA} {s : Stmt} (h : StmtC w b o p s) (x : Ext w w') : StmtC w' b o p s := by
  obtain ⟨c0, c1, c2, c3, c4, c5, c6, c7, c8, c9⟩ := h
  exact ⟨x _ _ c0, x _ _ c1, x _ _ c2, x _ _ c3, x _ _ c4, x _ _ c5, x _ _ c6, x _ _ c7, x _ _ c8, x _ _ c9⟩
/-- what the slices of a step read as -/
structure StmtR (d : Nat) (w : World) (p : SA) (s : Stmt) : Prop where
  kind : InInt s.kind
  names : StrsR w p.sa p.sc s.names
  expr : ExprR d w p.na p.nc p.da p.dc p.aa p.ac s.expr
  pos : InInt s.pos
theorem StmtR.ext {d : Nat} {w w' : World} {p : SA} {s : Stmt} (h : StmtR d w p s) (x : Ext w w') : StmtR d w' p s := ⟨h.kind, h.names.ext x, h.expr.ext x, h.pos⟩
theorem StmtR.more {d d' : Nat} {w : World} {p : SA} {s : Stmt} (h : StmtR d w p s) (hd : d ≤ d') : StmtR d' w p s := ⟨h.kind, h.names, h.expr.more hd, h.pos⟩
def StmtE (d : Nat) (w : World) (b o : Nat) (s : Stmt) : Prop := ∃ p, StmtC w b o p s ∧ StmtR d w p s
theorem StmtE.ext {d : Nat} {w w' : World} {b o : Nat} {s : Stmt} (h : StmtE d w b o s) (x : Ext w w') : StmtE d w' b o s := by
  obtain ⟨p, h1, h2⟩ := h
  exact ⟨p, h1.ext x, h2.ext x⟩
def StmtsR (d : Nat) (w : World) (a : Option Addr) (c : Nat) (l : List Stmt) : Prop := SlR 10 (StmtE d) w a c l
theorem StmtsR.ext {d : Nat} {w w' : World} {a : Option Addr} {c : Nat} {l : List Stmt} (h : StmtsR d w a c l) (x : Ext w w') : StmtsR d w' a c l := SlR.mono h fun _ _ _ _ h => h.ext x
end Go.Proofs.Ytmlldjcbijoheaa
