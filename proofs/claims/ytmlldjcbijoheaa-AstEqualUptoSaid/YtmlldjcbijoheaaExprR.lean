/- Expressions in memory read as plain trees. -/
import Derived.Test.YtmlldjcbijoheaaBase
import Derived.Test.YtmlldjcbijoheaaExprPlain
namespace Go.Proofs.Ytmlldjcbijoheaa
open Go.RowKit

/-- an expression's value: its slices are given by address and capacity -/
def Expr.val (e : Expr) (na : Option Addr) (nc : Nat) (da : Option Addr) (dc : Nat) (aa : Option Addr) (ac : Nat) : Value :=
  .agg #[.int .i64 e.kind, .string e.name, .bool e.neg, .slice na e.num.length nc, .slice da e.den.length dc, .slice aa e.args.length ac, .int .i64 e.pos]

/-- the seven cells of an expression -/
def ExprC (w : World) (b o : Nat) (na : Option Addr) (nc : Nat) (da : Option Addr) (dc : Nat) (aa : Option Addr) (ac : Nat) (x : Expr) : Prop :=
  w.cell? ⟨b, o, none⟩ = some (.int .i64 x.kind) ∧ w.cell? ⟨b, o + 1, none⟩ = some (.string x.name) ∧ w.cell? ⟨b, o + 2, none⟩ = some (.bool x.neg) ∧
  w.cell? ⟨b, o + 3, none⟩ = some (.slice na x.num.length nc) ∧ w.cell? ⟨b, o + 4, none⟩ = some (.slice da x.den.length dc) ∧
  w.cell? ⟨b, o + 5, none⟩ = some (.slice aa x.args.length ac) ∧ w.cell? ⟨b, o + 6, none⟩ = some (.int .i64 x.pos)
theorem ExprC.ext {w w' : World} {b o : Nat} {na : Option Addr} {nc : Nat} {da : Option Addr} {dc : Nat} {aa : Option Addr} {ac : Nat} {y : Expr} (h : ExprC w b o na nc da dc aa ac y) (x : Ext w w') : ExprC w' b o na nc da dc aa ac y := by
  obtain ⟨c0, c1, c2, c3, c4, c5, c6⟩ := h
  exact ⟨x _ _ c0, x _ _ c1, x _ _ c2, x _ _ c3, x _ _ c4, x _ _ c5, x _ _ c6⟩

/-- the cells of an expression stay, whatever is laid behind them -/
theorem ExprC.held {w : World} {b : Nat} {na : Option Addr} {nc : Nat} {da : Option Addr} {dc : Nat} {aa : Option Addr} {ac : Nat} {x : Expr} (h : ExprC w b 0 na nc da dc aa ac x) :
    (∀ w', Below w.heap.size w w' → w'.cell? ⟨b, 0, none⟩ = some (.int .i64 x.kind)) ∧ (∀ w', Below w.heap.size w w' → w'.cell? ⟨b, 1, none⟩ = some (.string x.name)) ∧
    (∀ w', Below w.heap.size w w' → w'.cell? ⟨b, 2, none⟩ = some (.bool x.neg)) ∧ (∀ w', Below w.heap.size w w' → w'.cell? ⟨b, 3, none⟩ = some (.slice na x.num.length nc)) ∧
    (∀ w', Below w.heap.size w w' → w'.cell? ⟨b, 4, none⟩ = some (.slice da x.den.length dc)) ∧ (∀ w', Below w.heap.size w w' → w'.cell? ⟨b, 5, none⟩ = some (.slice aa x.args.length ac)) ∧
    (∀ w', Below w.heap.size w w' → w'.cell? ⟨b, 6, none⟩ = some (.int .i64 x.pos)) := by
  obtain ⟨c0, c1, c2, c3, c4, c5, c6⟩ := h
  simp only [Nat.zero_add] at *
  exact ⟨fun w' k => Ext.below k _ _ c0, fun w' k => Ext.below k _ _ c1, fun w' k => Ext.below k _ _ c2, fun w' k => Ext.below k _ _ c3, fun w' k => Ext.below k _ _ c4, fun w' k => Ext.below k _ _ c5, fun w' k => Ext.below k _ _ c6⟩

/-- what an expression's slices read as, so many levels deep -/
def ExprR : Nat → World → Option Addr → Nat → Option Addr → Nat → Option Addr → Nat → Expr → Prop
  | 0, _, _, _, _, _, _, _, _ => False
  | d + 1, w, na, nc, da, dc, aa, ac, e => InInt e.kind ∧ InInt e.pos ∧ e.name.size ≤ maxLen ∧ NatR w na nc e.num ∧ NatR w da dc e.den ∧
    SlR 7 (fun w b o x => ∃ na nc da dc aa ac, ExprC w b o na nc da dc aa ac x ∧ ExprR d w na nc da dc aa ac x) w aa ac e.args

/-- an expression in memory -/
def ExprE (d : Nat) (w : World) (b o : Nat) (x : Expr) : Prop := ∃ na nc da dc aa ac, ExprC w b o na nc da dc aa ac x ∧ ExprR d w na nc da dc aa ac x

section
variable {d : Nat} {w w' : World} {na : Option Addr} {nc : Nat} {da : Option Addr} {dc : Nat} {aa : Option Addr} {ac : Nat}
theorem ExprR.succ {e : Expr} (h : ExprR d w na nc da dc aa ac e) : ∃ d', d = d' + 1 ∧ InInt e.kind ∧ InInt e.pos ∧ e.name.size ≤ maxLen ∧ NatR w na nc e.num ∧ NatR w da dc e.den ∧ SlR 7 (ExprE d') w aa ac e.args := by
  cases d with
  | zero => exact h.elim
  | succ d => exact ⟨d, rfl, h⟩
theorem ExprR.of_succ {e : Expr} (h : ExprR (d + 1) w na nc da dc aa ac e) : InInt e.kind ∧ InInt e.pos ∧ e.name.size ≤ maxLen ∧ NatR w na nc e.num ∧ NatR w da dc e.den ∧ SlR 7 (ExprE d) w aa ac e.args := h
theorem ExprR.mk {e : Expr} (h1 : InInt e.kind) (h2 : InInt e.pos) (h3 : e.name.size ≤ maxLen) (h4 : NatR w na nc e.num) (h5 : NatR w da dc e.den) (h6 : SlR 7 (ExprE d) w aa ac e.args) :
    ExprR (d + 1) w na nc da dc aa ac e := ⟨h1, h2, h3, h4, h5, h6⟩
end
theorem ExprR.ext {d : Nat} : ∀ {w w' : World} {na : Option Addr} {nc : Nat} {da : Option Addr} {dc : Nat} {aa : Option Addr} {ac : Nat} {e : Expr}, ExprR d w na nc da dc aa ac e → Ext w w' → ExprR d w' na nc da dc aa ac e := by
  induction d with
  | zero => intro w w' na nc da dc aa ac e h _; exact h.elim
  | succ d ih =>
    intro w w' na nc da dc aa ac e h x
    obtain ⟨h1, h2, h3, h4, h5, h6⟩ := h.of_succ
    refine .mk h1 h2 h3 (h4.ext x) (h5.ext x) (h6.mono fun b o y _ he => ?_)
    obtain ⟨na, nc, da, dc, aa, ac, hc, hr⟩ := he
    exact ⟨na, nc, da, dc, aa, ac, hc.ext x, ih hr x⟩
theorem ExprR.more {d : Nat} : ∀ {d' : Nat} {w : World} {na : Option Addr} {nc : Nat} {da : Option Addr} {dc : Nat} {aa : Option Addr} {ac : Nat} {e : Expr}, ExprR d w na nc da dc aa ac e → d ≤ d' → ExprR d' w na nc da dc aa ac e := by
  induction d with
  | zero => intro d' w na nc da dc aa ac e h _; exact h.elim
  | succ d ih =>
    intro d' w na nc da dc aa ac e h hd
    obtain ⟨d', rfl⟩ : ∃ k, d' = k + 1 := ⟨d' - 1, by omega⟩
    obtain ⟨h1, h2, h3, h4, h5, h6⟩ := h.of_succ
    refine .mk h1 h2 h3 h4 h5 (h6.mono fun b o y _ he => ?_)
    obtain ⟨na, nc, da, dc, aa, ac, hc, hr⟩ := he
    exact ⟨na, nc, da, dc, aa, ac, hc, ih hr (by omega)⟩
theorem ExprE.ext {d : Nat} {w w' : World} {b o : Nat} {y : Expr} (he : ExprE d w b o y) (x : Ext w w') : ExprE d w' b o y := by
  obtain ⟨na, nc, da, dc, aa, ac, hc, hr⟩ := he
  exact ⟨na, nc, da, dc, aa, ac, hc.ext x, hr.ext x⟩
theorem exprs_ext {d : Nat} {w w' : World} {a : Option Addr} {c : Nat} {es : List Expr} (h : SlR 7 (ExprE d) w a c es) (x : Ext w w') : SlR 7 (ExprE d) w' a c es := h.mono fun _ _ _ _ he => he.ext x

end Go.Proofs.Ytmlldjcbijoheaa
