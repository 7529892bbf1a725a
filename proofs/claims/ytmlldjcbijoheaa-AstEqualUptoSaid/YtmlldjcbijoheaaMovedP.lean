/- An expression with other positions. No program in sight. -/
import Derived.Test.YtmlldjcbijoheaaExprEqP
import Derived.Test.YtmlldjcbijoheaaBase
namespace Go.Proofs.Ytmlldjcbijoheaa
open Go.RowKit
mutual
def Expr.moved : Expr → Int → Expr
  | .mk k n b nu de xs p, m => .mk k n b nu de (Expr.moveds xs (wrap64 (m + 1))) (wrap64 (p + m))
def Expr.moveds : List Expr → Int → List Expr
  | [], _ => []
  | x :: l, m => x.moved m :: Expr.moveds l m
end
theorem moveds_eq (l : List Expr) (m : Int) : Expr.moveds l m = l.map (·.moved m) := by induction l with
  | nil => rfl
  | cons x l ih => simp [Expr.moveds, ih]
theorem moveds_length (l : List Expr) (m : Int) : (Expr.moveds l m).length = l.length := by rw [moveds_eq, List.length_map]
theorem Expr.moved_eq (e : Expr) (m : Int) : e.moved m = .mk e.kind e.name e.neg e.num e.den (Expr.moveds e.args (wrap64 (m + 1))) (wrap64 (e.pos + m)) := by cases e; rfl
mutual
theorem eqv_moved : ∀ (e : Expr) (m : Int), e.eqv (e.moved m) = true
  | .mk k n b nu de xs p, m => by simp [Expr.eqv, Expr.moved, eqvs_moved xs, moveds_length]
theorem eqvs_moved : ∀ (l : List Expr) (m : Int), Expr.eqvs l (Expr.moveds l m) = true
  | [], _ => rfl
  | x :: l, m => by simp [Expr.eqvs, Expr.moveds, eqv_moved x, eqvs_moved l]
end
theorem inInt_wrap (n : Int) : InInt (wrap64 n) := by
  have := inInt_of (wrap64_wf n)
  exact this
end Go.Proofs.Ytmlldjcbijoheaa
