/- Steps of a program, plain. No program in sight. -/
import Derived.Test.YtmlldjcbijoheaaExprEqP
namespace Go.Proofs.Ytmlldjcbijoheaa

structure Stmt where
  kind : Int
  names : List ByteArray
  expr : Expr
  pos : Int
def Stmt.eqv (s t : Stmt) : Bool := decide (s.kind = t.kind) && (decide (s.names.length = t.names.length) && (s.expr.eqv t.expr && decide (s.names = t.names)))
def progEqv (p q : List Stmt) : Bool := decide (p.length = q.length) && (p.zip q).all fun x => x.1.eqv x.2
theorem zip_all_snoc {α : Type} {f : α × α → Bool} (p q : List α) (k : Nat) (x y : α) (hx : p[k]? = some x) (hy : q[k]? = some y) : ((p.take (k + 1)).zip (q.take (k + 1))).all f = (((p.take k).zip (q.take k)).all f && f (x, y)) := by
  have e1 : p.take (k + 1) = p.take k ++ [x] := by rw [List.take_add_one, hx]; rfl
  have e2 : q.take (k + 1) = q.take k ++ [y] := by rw [List.take_add_one, hy]; rfl
  have h1 : k < p.length := (List.getElem?_eq_some_iff.1 hx).1
  have h2 : k < q.length := (List.getElem?_eq_some_iff.1 hy).1
  rw [e1, e2, List.zip_append (by simp; omega)]
  simp
theorem zip_all_false {α : Type} {f : α × α → Bool} : ∀ (p q : List α) (k : Nat) (x y : α), p[k]? = some x → q[k]? = some y → f (x, y) = false → (p.zip q).all f = false
  | [], _, k, x, y, h, _, _ => by simp at h
  | _ :: _, [], k, x, y, _, h, _ => by simp at h
  | a :: p, b :: q, 0, x, y, h, h', e => by simp at h h'; subst h h'; simp [e]
  | a :: p, b :: q, k + 1, x, y, h, h', e => by
    have := zip_all_false p q k x y (by simpa using h) (by simpa using h') e
    simp [this]
theorem take_snoc_ne {α : Type} {p q : List α} {k : Nat} {x y : α} (hx : p[k]? = some x) (hy : q[k]? = some y) (h : x ≠ y) : p ≠ q := fun e => by subst e; rw [hx] at hy; injection hy with hy; exact h hy
theorem take_snoc_eq {α : Type} {p q : List α} {k : Nat} {x : α} (hx : p[k]? = some x) (hy : q[k]? = some x) (h : p.take k = q.take k) : p.take (k + 1) = q.take (k + 1) := by
  rw [List.take_add_one, List.take_add_one, hx, hy, h]
end Go.Proofs.Ytmlldjcbijoheaa
