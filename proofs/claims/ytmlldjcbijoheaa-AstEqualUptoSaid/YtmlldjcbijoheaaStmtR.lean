/- Steps of a program in memory. -/
import Derived.Test.YtmlldjcbijoheaaExprR
import Derived.Test.YtmlldjcbijoheaaStmtP
namespace Go.Proofs.Ytmlldjcbijoheaa
open Go.RowKit

/-- where the slices of a step lie -/
structure SA where
  sa : Option Addr
  sc : Nat
  na : Option Addr
  nc : Nat
  da : Option Addr
  dc : Nat
  aa : Option Addr
  ac : Nat
def Stmt.val (s : Stmt) (p : SA) : Value :=
  .agg #[.int .i64 s.kind, .slice p.sa s.names.length p.sc, .int .i64 s.expr.kind, .string s.expr.name, .bool s.expr.neg, .slice p.na s.expr.num.length p.nc, .slice p.da s.expr.den.length p.dc, .slice p.aa s.expr.args.length p.ac, .int .i64 s.expr.pos, .int .i64 s.pos]
def StmtC (w : World) (b o : Nat) (p : SA) (s : Stmt) : Prop :=
  w.cell? ⟨b, o, none⟩ = some (.int .i64 s.kind) ∧ w.cell? ⟨b, o + 1, none⟩ = some (.slice p.sa s.names.length p.sc) ∧
  w.cell? ⟨b, o + 2, none⟩ = some (.int .i64 s.expr.kind) ∧ w.cell? ⟨b, o + 3, none⟩ = some (.string s.expr.name) ∧ w.cell? ⟨b, o + 4, none⟩ = some (.bool s.expr.neg) ∧
  w.cell? ⟨b, o + 5, none⟩ = some (.slice p.na s.expr.num.length p.nc) ∧ w.cell? ⟨b, o + 6, none⟩ = some (.slice p.da s.expr.den.length p.dc) ∧
  w.cell? ⟨b, o + 7, none⟩ = some (.slice p.aa s.expr.args.length p.ac) ∧ w.cell? ⟨b, o + 8, none⟩ = some (.int .i64 s.expr.pos) ∧ w.cell? ⟨b, o + 9, none⟩ = some (.int .i64 s.pos)
theorem StmtC.ext {w w' : World} {b o : Nat} {p : SA} {s : Stmt} (h : StmtC w b o p s) (x : Ext w w') : StmtC w' b o p s := by
  obtain ⟨c0, c1, c2, c3, c4, c5, c6, c7, c8, c9⟩ := h
  exact ⟨x _ _ c0, x _ _ c1, x _ _ c2, x _ _ c3, x _ _ c4, x _ _ c5, x _ _ c6, x _ _ c7, x _ _ c8, x _ _ c9⟩
/-- what the slices of a step read as -/
structure StmtR (d : Nat) (w : World) (p : SA) (s : Stmt) : Prop where
  kind : InInt s.kind
  names : StrsR w p.sa p.sc s.names
  expr : ExprR d w p.na p.nc p.da p.dc p.aa p.ac s.expr
  pos : InInt s.pos
theorem StmtR.ext {d : Nat} {w w' : World} {p : SA} {s : Stmt} (h : StmtR d w p s) (x : Ext w w') : StmtR d w' p s := ⟨h.kind, h.names.ext x, h.expr.ext x, h.pos⟩
theorem StmtR.more {d d' : Nat} {w : World} {p : SA} {s : Stmt} (h : StmtR d w p s) (hd : d ≤ d') : StmtR d' w p s := ⟨h.kind, h.names, h.expr.more hd, h.pos⟩
def StmtE (d : Nat) (w : World) (b o : Nat) (s : Stmt) : Prop := ∃ p, StmtC w b o p s ∧ StmtR d w p s
theorem StmtE.ext {d : Nat} {w w' : World} {b o : Nat} {s : Stmt} (h : StmtE d w b o s) (x : Ext w w') : StmtE d w' b o s := by
  obtain ⟨p, h1, h2⟩ := h
  exact ⟨p, h1.ext x, h2.ext x⟩
def StmtsR (d : Nat) (w : World) (a : Option Addr) (c : Nat) (l : List Stmt) : Prop := SlR 10 (StmtE d) w a c l
theorem StmtsR.ext {d : Nat} {w w' : World} {a : Option Addr} {c : Nat} {l : List Stmt} (h : StmtsR d w a c l) (x : Ext w w') : StmtsR d w' a c l := SlR.mono h fun _ _ _ _ h => h.ext x
end Go.Proofs.Ytmlldjcbijoheaa
