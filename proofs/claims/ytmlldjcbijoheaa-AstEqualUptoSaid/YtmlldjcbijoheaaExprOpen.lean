/- Expressions that came in, opened. -/
import Derived.Test.YtmlldjcbijoheaaRatOpen
import Derived.Test.YtmlldjcbijoheaaExprR
namespace Go.Proofs.Ytmlldjcbijoheaa
open Go.ChangeShapes Go.WideShapes Go.ChangeAt Go.RowKit

mutual
/-- what an expression weighs -/
def Expr.weight : Expr → Nat
  | .mk _ n _ num den args _ => n.size + num.length + den.length + 1 + Expr.weights args
def Expr.weights : List Expr → Nat
  | [] => 0
  | e :: es => e.weight + Expr.weights es
end
theorem Expr.weight_eq (e : Expr) : e.weight = e.name.size + e.num.length + e.den.length + 1 + Expr.weights e.args := by cases e; rfl
theorem weights_sum (l : List Expr) : (l.map Expr.weight).sum = Expr.weights l := by induction l with
  | nil => rfl
  | cons x l ih => simp only [List.map_cons, List.sum_cons, ih, Expr.weights]
mutual
theorem count_le_weight : ∀ e : Expr, e.count ≤ e.weight
  | .mk _ n _ num den args _ => by
    have := counts_le_weights args
    simp only [Expr.count, Expr.weight]; omega
theorem counts_le_weights : ∀ l : List Expr, Expr.counts l ≤ Expr.weights l
  | [] => by simp [Expr.counts, Expr.weights]
  | e :: es => by
    have h1 := count_le_weight e
    have h2 := counts_le_weights es
    simp only [Expr.counts, Expr.weights]; omega
end

theorem cellsExpr : Try.prog.cellsOf 40 = 7 := by kernel_rfl
theorem cellsExprs : Try.prog.cellsOf 38 = 1 := by kernel_rfl

section
variable {H : Type} {enc : TypeId × Value → H} {W : World} {sp : Nat → Bool} {held : Bool}
theorem open_exprc : ∀ (n : Nat) (cs : List Value) (y : DataW H × List MemPlace), DataW.trod enc Try.prog W 0 sp held n 40 cs = some y →
    ∃ (e : Expr) (na : Option Addr) (nc : Nat) (da : Option Addr) (dc : Nat) (aa : Option Addr) (ac : Nat),
      cs = [.int .i64 e.kind, .string e.name, .bool e.neg, .slice na e.num.length nc, .slice da e.den.length dc, .slice aa e.args.length ac, .int .i64 e.pos] ∧ ExprR n W na nc da dc aa ac e ∧ e.weight ≤ Rows.uptoBulk y.1 := by
  intro n
  induction n using Nat.strongRecOn with
  | ind n ih =>
    intro cs y h
    obtain ⟨xs, m, rfl, rfl, hcl, hxl, hf⟩ := DataW.trod_struct Try.underlying40 h
    rw [cellsExpr] at hcl
    obtain ⟨c0, c1, c2, c3, c4, c5, c6, rfl⟩ := len7 hcl
    obtain ⟨y0, y1, y2, y3, y4, rfl⟩ := len5 (show xs.length = 5 from hxl)
    · have h0 := hf 0 _ rfl
      have h1 := hf 1 _ rfl
      have h2 := hf 2 _ rfl
      have h3 := hf 3 _ rfl
      have h4 := hf 4 _ rfl
      simp [cellsI, cellsS, cellsRat, cellsExprs] at h0 h1 h2 h3 h4
      obtain ⟨kind, e0, rfl, w0⟩ := DataW.trod_int Try.underlying3 h0
      obtain ⟨name, e1, rfl, w1⟩ := DataW.trod_string Try.underlying9 h1
      obtain ⟨neg, na, nc, num, da, dc, den, e2, r1, r2, w2⟩ := open_rat h2
      obtain ⟨pos, e4, rfl, w4⟩ := DataW.trod_int Try.underlying3 h4
      obtain ⟨aa, ac, args, e3, r3, w3⟩ := open_sl Try.underlying38 cellsExpr (by omega) h3 (ExprE m) Expr.weight (fun k cs' y b o hk ht hl hc => by
        obtain ⟨e, na, nc, da, dc, aa, ac, rfl, hr, hw⟩ := ih k (by omega) cs' y ht
        have hr' : ExprR m W na nc da dc aa ac e := hr.more (by omega)
        refine ⟨e, ⟨na, nc, da, dc, aa, ac, ⟨?_, ?_, ?_, ?_, ?_, ?_, ?_⟩, hr'⟩, hw⟩
        · have := hc 0 (by omega); simpa using this
        · have := hc 1 (by omega); simpa using this
        · have := hc 2 (by omega); simpa using this
        · have := hc 3 (by omega); simpa using this
        · have := hc 4 (by omega); simpa using this
        · have := hc 5 (by omega); simpa using this
        · have := hc 6 (by omega); simpa using this)
      simp at e0 e1 e2 e3 e4
      obtain ⟨rfl, rfl, rfl⟩ := e2
      subst e0 e1 e3 e4
      refine ⟨.mk kind name neg num den args pos, na, nc, da, dc, aa, ac, rfl, .mk (inInt_of w0) (inInt_of w4) w1 r1 r2 r3, ?_⟩
      rw [weights_sum] at w3
      simp [Rows.uptoBulk, Rows.uptoBulkAll, Expr.weight] at w2 w3 ⊢
      have : name.data.size = name.size := rfl
      omega
set_option maxRecDepth 100000 in
/-- AN EXPRESSION THAT CAME IN -/
theorem open_expr {r : Reach} {b0 : Nat} {v : Value} {d : DataW H} {p : List MemPlace} (hv : Value.okWide Try.prog W r b0 40 v) (h : DataW.Trod enc Try.prog W 0 sp held 40 v d p) :
    ∃ (e : Expr) (n : Nat) (na : Option Addr) (nc : Nat) (da : Option Addr) (dc : Nat) (aa : Option Addr) (ac : Nat), v = e.val na nc da dc aa ac ∧ ExprR n W na nc da dc aa ac e ∧ e.weight ≤ Rows.uptoBulk d := by
  obtain ⟨cs, rfl, _⟩ := okWide_struct Try.underlying40 hv
  obtain ⟨n, hn⟩ := h
  obtain ⟨e, na, nc, da, dc, aa, ac, h1, h2, h3⟩ := open_exprc n _ _ hn
  refine ⟨e, n, na, nc, da, dc, aa, ac, ?_, h2, h3⟩
  obtain ⟨l⟩ := cs
  simp [Value.cells] at h1
  simp [Expr.val, h1]
end
end Go.Proofs.Ytmlldjcbijoheaa
