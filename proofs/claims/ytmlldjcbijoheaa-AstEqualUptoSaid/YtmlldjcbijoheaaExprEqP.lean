/- Whether two expressions are equal, apart from positions. No program in sight. -/
import Derived.Test.YtmlldjcbijoheaaExprPlain
namespace Go.Proofs.Ytmlldjcbijoheaa

mutual
def Expr.eqv : Expr → Expr → Bool
  | .mk k n b nu de as _, .mk k' n' b' nu' de' as' _ => decide (k = k') && (decide (n = n') && (decide (b = b' ∧ nu = nu' ∧ de = de') && (decide (as.length = as'.length) && Expr.eqvs as as')))
def Expr.eqvs : List Expr → List Expr → Bool
  | x :: xs, y :: ys => x.eqv y && Expr.eqvs xs ys
  | _, _ => true
end
def Expr.sameRat (a b : Expr) : Prop := a.neg = b.neg ∧ a.num = b.num ∧ a.den = b.den
instance (a b : Expr) : Decidable (a.sameRat b) := by unfold Expr.sameRat; infer_instance
theorem Expr.eqv_eq (a b : Expr) : a.eqv b = (decide (a.kind = b.kind) && (decide (a.name = b.name) && (decide (a.sameRat b) && (decide (a.args.length = b.args.length) && Expr.eqvs a.args b.args)))) := by
  cases a; cases b; rfl
theorem eqvs_snoc : ∀ (xs ys : List Expr) (k : Nat) (x y : Expr), xs[k]? = some x → ys[k]? = some y → Expr.eqvs (xs.take (k + 1)) (ys.take (k + 1)) = (Expr.eqvs (xs.take k) (ys.take k) && x.eqv y)
  | [], _, k, x, y, h, _ => by simp at h
  | _ :: _, [], k, x, y, _, h => by simp at h
  | a :: xs, b :: ys, 0, x, y, h, h' => by simp at h h'; subst h h'; simp [Expr.eqvs]
  | a :: xs, b :: ys, k + 1, x, y, h, h' => by
    have := eqvs_snoc xs ys k x y (by simpa using h) (by simpa using h')
    simp only [List.take_succ_cons, Expr.eqvs] at this ⊢
    rw [this, Bool.and_assoc]
theorem eqvs_false : ∀ (xs ys : List Expr) (k : Nat) (x y : Expr), xs[k]? = some x → ys[k]? = some y → x.eqv y = false → Expr.eqvs xs ys = false
  | [], _, k, x, y, h, _, _ => by simp at h
  | _ :: _, [], k, x, y, _, h, _ => by simp at h
  | a :: xs, b :: ys, 0, x, y, h, h', e => by simp at h h'; subst h h'; simp [Expr.eqvs, e]
  | a :: xs, b :: ys, k + 1, x, y, h, h', e => by
    have := eqvs_false xs ys k x y (by simpa using h) (by simpa using h') e
    simp [Expr.eqvs, this]
mutual
theorem eqv_refl : ∀ e : Expr, e.eqv e = true
  | .mk k n b nu de as p => by simp [Expr.eqv, eqvs_refl as]
theorem eqvs_refl : ∀ l : List Expr, Expr.eqvs l l = true
  | [] => rfl
  | x :: xs => by simp [Expr.eqvs, eqv_refl x, eqvs_refl xs]
end
end Go.Proofs.Ytmlldjcbijoheaa
