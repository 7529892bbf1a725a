/- Natural numbers as lists of limbs: the value of a list, the list of a value. No function of the program in sight. -/
import Init
import Derived.Test.YtmlldjcbijoheaaKs1
import Derived.Test.YtmlldjcbijoheaaRows
import Derived.Deep.QuietTactic
import Derived.BigQuiet

/- Expressions as a plain tree, and what is measured of them. No program in sight. -/
namespace Go.Proofs.Ytmlldjcbijoheaa

/-- an expression: kind, name, the ratio (its sign, numerator, denominator as limbs), arguments, position -/
inductive Expr where
  | mk (kind : Int) (name : ByteArray) (neg : Bool) (num den : List Int) (args : List Expr) (pos : Int)

namespace Expr
def kind : Expr → Int | mk k _ _ _ _ _ _ => k
def name : Expr → ByteArray | mk _ n _ _ _ _ _ => n
def neg : Expr → Bool | mk _ _ b _ _ _ _ => b
def num : Expr → List Int | mk _ _ _ a _ _ _ => a
def den : Expr → List Int | mk _ _ _ _ a _ _ => a
def args : Expr → List Expr | mk _ _ _ _ _ a _ => a
def pos : Expr → Int | mk _ _ _ _ _ _ p => p
end Expr

mutual
/-- the number of expressions in an expression -/
def Expr.count : Expr → Nat
  | .mk _ _ _ _ _ args _ => 1 + Expr.counts args
def Expr.counts : List Expr → Nat
  | [] => 0
  | e :: es => e.count + Expr.counts es
end
mutual
/-- the number of levels -/
def Expr.depth : Expr → Nat
  | .mk _ _ _ _ _ args _ => Expr.depths args + 1
def Expr.depths : List Expr → Nat
  | [] => 0
  | e :: es => max e.depth (Expr.depths es)
end
def hasName (l : List ByteArray) (s : ByteArray) : Bool := l.any fun t => decide (t = s)
theorem hasName_iff {l : List ByteArray} {s : ByteArray} : hasName l s = true ↔ s ∈ l := by simp [hasName]
theorem hasName_more (l : List ByteArray) (x s : ByteArray) : hasName (l ++ [x]) s = (hasName l s || decide (x = s)) := by simp [hasName]
/-- a name is added where it is not yet -/
def addName (l : List ByteArray) (s : ByteArray) : List ByteArray := if hasName l s = true then l else l ++ [s]
def addNames (l ss : List ByteArray) : List ByteArray := ss.foldl addName l
mutual
/-- the names of an expression are added to a list -/
def Expr.collect : List ByteArray → Expr → List ByteArray
  | l, .mk k n _ _ _ args _ => Expr.collects (if k = 1 then addName l n else l) args
def Expr.collects : List ByteArray → List Expr → List ByteArray
  | l, [] => l
  | l, e :: es => Expr.collects (Expr.collect l e) es
end
mutual
/-- the names as the reference lists them -/
def Expr.names : Expr → List ByteArray
  | .mk k n _ _ _ args _ => Expr.namess (if k = 1 then [n] else []) args
def Expr.namess : List ByteArray → List Expr → List ByteArray
  | l, [] => l
  | l, e :: es => Expr.namess (addNames l (Expr.names e)) es
end

theorem Expr.count_eq (e : Expr) : e.count = 1 + Expr.counts e.args := by cases e; simp [Expr.count, Expr.args]
theorem Expr.depth_eq (e : Expr) : e.depth = Expr.depths e.args + 1 := by cases e; simp [Expr.depth, Expr.args]
theorem Expr.collect_eq (l : List ByteArray) (e : Expr) : Expr.collect l e = Expr.collects (if e.kind = 1 then addName l e.name else l) e.args := by cases e; rfl
theorem Expr.names_eq (e : Expr) : e.names = Expr.namess (if e.kind = 1 then [e.name] else []) e.args := by cases e; rfl

theorem counts_append (a b : List Expr) : Expr.counts (a ++ b) = Expr.counts a + Expr.counts b := by
  induction a with
  | nil => simp [Expr.counts]
  | cons x a ih => simp [Expr.counts, ih, Nat.add_assoc]
theorem counts_mem {e : Expr} {l : List Expr} (h : e ∈ l) : e.count ≤ Expr.counts l := by
  induction l with
  | nil => cases h
  | cons x l ih =>
    simp only [Expr.counts]
    rcases List.mem_cons.1 h with rfl | h
    · omega
    · have := ih h; omega
theorem count_arg {e x : Expr} (h : x ∈ e.args) : x.count < e.count := by
  have := counts_mem h
  rw [Expr.count_eq e]; omega
theorem depths_append (a b : List Expr) : Expr.depths (a ++ b) = max (Expr.depths a) (Expr.depths b) := by
  induction a with
  | nil => simp [Expr.depths]
  | cons x a ih => simp [Expr.depths, ih, Nat.max_assoc]
theorem depths_mem {e : Expr} {l : List Expr} (h : e ∈ l) : e.depth ≤ Expr.depths l := by
  induction l with
  | nil => cases h
  | cons x l ih =>
    simp only [Expr.depths]
    rcases List.mem_cons.1 h with rfl | h
    · omega
    · have := ih h; omega
theorem collects_append (l : List ByteArray) (a b : List Expr) : Expr.collects l (a ++ b) = Expr.collects (Expr.collects l a) b := by
  induction a generalizing l with
  | nil => simp [Expr.collects]
  | cons x a ih => simp [Expr.collects, ih]
theorem namess_append (l : List ByteArray) (a b : List Expr) : Expr.namess l (a ++ b) = Expr.namess (Expr.namess l a) b := by
  induction a generalizing l with
  | nil => simp [Expr.namess]
  | cons x a ih => simp [Expr.namess, ih]

/-! ### the depth is at most the count -/
theorem depth_pos (e : Expr) : 1 ≤ e.depth := by rw [Expr.depth_eq]; omega
mutual
theorem depth_le_count : ∀ e : Expr, e.depth ≤ e.count
  | .mk _ _ _ _ _ args _ => by
    have := depths_le_counts args
    simp only [Expr.depth, Expr.count]; omega
theorem depths_le_counts : ∀ l : List Expr, Expr.depths l ≤ Expr.counts l
  | [] => by simp [Expr.depths, Expr.counts]
  | e :: es => by
    have h1 := depth_le_count e
    have h2 := depths_le_counts es
    simp only [Expr.depths, Expr.counts]; omega
end

/-! ### both lists of names are one -/
theorem mem_addName {l : List ByteArray} {s x : ByteArray} : x ∈ addName l s ↔ x ∈ l ∨ x = s := by
  unfold addName
  split
  · rename_i h
    rw [hasName_iff] at h
    constructor
    · exact .inl
    · rintro (h1 | rfl) <;> assumption
  · simp
theorem mem_addNames {l ss : List ByteArray} {x : ByteArray} : x ∈ addNames l ss ↔ x ∈ l ∨ x ∈ ss := by
  induction ss generalizing l with
  | nil => simp [addNames]
  | cons s ss ih =>
    have : addNames l (s :: ss) = addNames (addName l s) ss := rfl
    rw [this, ih, mem_addName]
    simp [or_assoc]
theorem addNames_append (l a b : List ByteArray) : addNames l (a ++ b) = addNames (addNames l a) b := by simp [addNames]
theorem addNames_add (l m : List ByteArray) (x : ByteArray) : addNames l (addName m x) = addName (addNames l m) x := by
  unfold addName
  by_cases h : x ∈ m
  · rw [if_pos (hasName_iff.2 h), if_pos (hasName_iff.2 (mem_addNames.2 (.inr h)))]
  · rw [if_neg (fun e => h (hasName_iff.1 e)), addNames_append]
    rfl
theorem addNames_addNames (l m xs : List ByteArray) : addNames l (addNames m xs) = addNames (addNames l m) xs := by
  induction xs generalizing m with
  | nil => rfl
  | cons x xs ih =>
    show addNames l (addNames (addName m x) xs) = addNames (addName (addNames l m) x) xs
    rw [ih, addNames_add]
mutual
theorem collect_names : ∀ (e : Expr) (l : List ByteArray), Expr.collect l e = addNames l e.names
  | .mk k n _ _ _ args _, l => by
    have h := collects_namess args (if k = 1 then [n] else []) l
    simp only [Expr.collect, Expr.names]
    rw [← h]
    congr 1
    split
    · simp [addNames]
    · simp [addNames]
theorem collects_namess : ∀ (es : List Expr) (m l : List ByteArray), Expr.collects (addNames l m) es = addNames l (Expr.namess m es)
  | [], m, l => by simp [Expr.collects, Expr.namess]
  | e :: es, m, l => by
    have h1 := collect_names e (addNames l m)
    have h2 := collects_namess es (addNames m e.names) l
    simp only [Expr.collects, Expr.namess]
    rw [h1, ← h2, addNames_addNames]
end
/-- every list of the reference has each name once, so adding it to nothing gives it back -/
def Once (l : List ByteArray) : Prop := addNames [] l = l
theorem once_addNames (m xs : List ByteArray) (h : Once m) : Once (addNames m xs) := by
  unfold Once at *
  rw [addNames_addNames, h]
mutual
theorem once_names : ∀ e : Expr, Once e.names
  | .mk k n _ _ _ args _ => by
    simp only [Expr.names]
    refine once_namess args _ ?_
    split
    · simp [Once, addNames, addName, hasName]
    · simp [Once, addNames]
theorem once_namess : ∀ (es : List Expr) (m : List ByteArray), Once m → Once (Expr.namess m es)
  | [], m, h => by simpa [Expr.namess] using h
  | e :: es, m, h => by
    simp only [Expr.namess]
    exact once_namess es _ (once_addNames m _ h)
end
theorem collect_nil (e : Expr) : Expr.collect [] e = e.names := by
  rw [collect_names]; exact once_names e
theorem length_addName (l : List ByteArray) (s : ByteArray) : (addName l s).length ≤ l.length + 1 := by
  unfold addName; split <;> simp
theorem length_addNames (l ss : List ByteArray) : (addNames l ss).length ≤ l.length + ss.length := by
  induction ss generalizing l with
  | nil => simp [addNames]
  | cons s ss ih =>
    have h1 := ih (addName l s)
    have h2 := length_addName l s
    show (addNames (addName l s) ss).length ≤ _
    simp only [List.length_cons]; omega
mutual
theorem length_names : ∀ e : Expr, e.names.length ≤ e.count
  | .mk k n _ _ _ args _ => by
    have := length_namess args (if k = 1 then [n] else [])
    have h2 : (if k = 1 then [n] else []).length ≤ 1 := by split <;> simp
    simp only [Expr.names, Expr.count]; omega
theorem length_namess : ∀ (es : List Expr) (m : List ByteArray), (Expr.namess m es).length ≤ m.length + Expr.counts es
  | [], m => by simp [Expr.namess]
  | e :: es, m => by
    have h1 := length_names e
    have h2 := length_namess es (addNames m e.names)
    have h3 := length_addNames m e.names
    simp only [Expr.namess, Expr.counts]; omega
end
mutual
theorem length_collect : ∀ (e : Expr) (l : List ByteArray), (Expr.collect l e).length ≤ l.length + e.count
  | e, l => by
    have h1 := length_names e
    have h2 := length_addNames l e.names
    rw [collect_names]; omega
end
theorem length_collects (es : List Expr) (l : List ByteArray) : (Expr.collects l es).length ≤ l.length + Expr.counts es := by
  have h := collects_namess es [] l
  have h1 := length_namess es []
  have h2 := length_addNames l (Expr.namess [] es)
  have h3 : addNames l [] = l := rfl
  rw [h3] at h
  rw [h]; simp at h1; omega
theorem counts_ge_length : ∀ l : List Expr, l.length ≤ Expr.counts l
  | [] => by simp
  | x :: l => by
    have h1 := counts_ge_length l
    have h2 := Expr.count_eq x
    simp only [Expr.counts, List.length_cons]
    omega
end Go.Proofs.Ytmlldjcbijoheaa

/- Expressions in memory read as plain trees. -/
namespace Go.Proofs.Ytmlldjcbijoheaa
open Go.RowKit

/-- an expression's value: its slices are given by address and capacity -/
def Expr.val (e : Expr) (na : Option Addr) (nc : Nat) (da : Option Addr) (dc : Nat) (aa : Option Addr) (ac : Nat) : Value :=
  .agg #[.int .i64 e.kind, .string e.name, .bool e.neg, .slice na e.num.length nc, .slice da e.den.length dc, .slice aa e.args.length ac, .int .i64 e.pos]

/-- the seven cells of an expression -/
def ExprC (w : World) (b o : Nat) (na : Option Addr) (nc : Nat) (da : Option Addr) (dc : Nat) (aa : Option Addr) (ac : Nat) (x : Expr) : Prop :=
  w.cell? ⟨b, o, none⟩ = some (.int .i64 x.kind) ∧ w.cell? ⟨b, o + 1, none⟩ = some (.string x.name) ∧ w.cell? ⟨b, o + 2, none⟩ = some (.bool x.neg) ∧
  w.cell? ⟨b, o + 3, none⟩ = some (.slice na x.num.length nc) ∧ w.cell? ⟨b, o + 4, none⟩ = some (.slice da x.den.length dc) ∧
  w.cell? ⟨b, o + 5, none⟩ = some (.slice aa x.args.length ac) ∧ w.cell? ⟨b, o + 6, none⟩ = some (.int .i64 x.pos)
theorem ExprC.ext {w w' : World} {b o : Nat} {na : Option Addr} {nc : Nat} {da : Option Addr} {dc : Nat} {aa : Option Addr} {ac : Nat} {y : Expr} (h : ExprC w b o na nc da dc aa ac y) (x : Ext w w') : ExprC w' b o na nc da dc aa ac y := by
  obtain ⟨c0, c1, c2, c3, c4, c5, c6⟩ := h
  exact ⟨x _ _ c0, x _ _ c1, x _ _ c2, x _ _ c3, x _ _ c4, x _ _ c5, x _ _ c6⟩

/-- the cells of an expression stay, whatever is laid behind them -/
theorem ExprC.held {w : World} {b : Nat} {na : Option Addr} {nc : Nat} {da : Option Addr} {dc : Nat} {aa : Option Addr} {ac : Nat} {x : Expr} (h : ExprC w b 0 na nc da dc aa ac x) :
    (∀ w', Below w.heap.size w w' → w'.cell? ⟨b, 0, none⟩ = some (.int .i64 x.kind)) ∧ (∀ w', Below w.heap.size w w' → w'.cell? ⟨b, 1, none⟩ = some (.string x.name)) ∧
    (∀ w', Below w.heap.size w w' → w'.cell? ⟨b, 2, none⟩ = some (.bool x.neg)) ∧ (∀ w', Below w.heap.size w w' → w'.cell? ⟨b, 3, none⟩ = some (.slice na x.num.length nc)) ∧
    (∀ w', Below w.heap.size w w' → w'.cell? ⟨b, 4, none⟩ = some (.slice da x.den.length dc)) ∧ (∀ w', Below w.heap.size w w' → w'.cell? ⟨b, 5, none⟩ = some (.slice aa x.args.length ac)) ∧
    (∀ w', Below w.heap.size w w' → w'.cell? ⟨b, 6, none⟩ = some (.int .i64 x.pos)) := by
  obtain ⟨c0, c1, c2, c3, c4, c5, c6⟩ := h
  simp only [Nat.zero_add] at *
  exact ⟨fun w' k => Ext.below k _ _ c0, fun w' k => Ext.below k _ _ c1, fun w' k => Ext.below k _ _ c2, fun w' k => Ext.below k _ _ c3, fun w' k => Ext.below k _ _ c4, fun w' k => Ext.below k _ _ c5, fun w' k => Ext.below k _ _ c6⟩

/-- what an expression's slices read as, so many levels deep -/
def ExprR : Nat → World → Option Addr → Nat → Option Addr → Nat → Option Addr → Nat → Expr → Prop
  | 0, _, _, _, _, _, _, _, _ => False
  | d + 1, w, na, nc, da, dc, aa, ac, e => InInt e.kind ∧ InInt e.pos ∧ e.name.size ≤ maxLen ∧ NatR w na nc e.num ∧ NatR w da dc e.den ∧
    SlR 7 (fun w b o x => ∃ na nc da dc aa ac, ExprC w b o na nc da dc aa ac x ∧ ExprR d w na nc da dc aa ac x) w aa ac e.args

/-- an expression in memory -/
def ExprE (d : Nat) (w : World) (b o : Nat) (x : Expr) : Prop := ∃ na nc da dc aa ac, ExprC w b o na nc da dc aa ac x ∧ ExprR d w na nc da dc aa ac x

section
variable {d : Nat} {w w' : World} {na : Option Addr} {nc : Nat} {da : Option Addr} {dc : Nat} {aa : Option Addr} {ac : Nat}
theorem ExprR.succ {e : Expr} (h : ExprR d w na nc da dc aa ac e) : ∃ d', d = d' + 1 ∧ InInt e.kind ∧ InInt e.pos ∧ e.name.size ≤ maxLen ∧ NatR w na nc e.num ∧ NatR w da dc e.den ∧ SlR 7 (ExprE d') w aa ac e.args := by
  cases d with
  | zero => exact h.elim
  | succ d => exact ⟨d, rfl, h⟩
theorem ExprR.of_succ {e : Expr} (h : ExprR (d + 1) w na nc da dc aa ac e) : InInt e.kind ∧ InInt e.pos ∧ e.name.size ≤ maxLen ∧ NatR w na nc e.num ∧ NatR w da dc e.den ∧ SlR 7 (ExprE d) w aa ac e.args := h
theorem ExprR.mk {e : Expr} (h1 : InInt e.kind) (h2 : InInt e.pos) (h3 : e.name.size ≤ maxLen) (h4 : NatR w na nc e.num) (h5 : NatR w da dc e.den) (h6 : SlR 7 (ExprE d) w aa ac e.args) :
    ExprR (d + 1) w na nc da dc aa ac e := ⟨h1, h2, h3, h4, h5, h6⟩
end
theorem ExprR.ext {d : Nat} : ∀ {w w' : World} {na : Option Addr} {nc : Nat} {da : Option Addr} {dc : Nat} {aa : Option Addr} {ac : Nat} {e : Expr}, ExprR d w na nc da dc aa ac e → Ext w w' → ExprR d w' na nc da dc aa ac e := by
  induction d with
  | zero => intro w w' na nc da dc aa ac e h _; exact h.elim
  | succ d ih =>
    intro w w' na nc da dc aa ac e h x
    obtain ⟨h1, h2, h3, h4, h5, h6⟩ := h.of_succ
    refine .mk h1 h2 h3 (h4.ext x) (h5.ext x) (h6.mono fun b o y _ he => ?_)
    obtain ⟨na, nc, da, dc, aa, ac, hc, hr⟩ := he
    exact ⟨na, nc, da, dc, aa, ac, hc.ext x, ih hr x⟩
theorem ExprR.more {d : Nat} : ∀ {d' : Nat} {w : World} {na : Option Addr} {nc : Nat} {da : Option Addr} {dc : Nat} {aa : Option Addr} {ac : Nat} {e : Expr}, ExprR d w na nc da dc aa ac e → d ≤ d' → ExprR d' w na nc da dc aa ac e := by
  induction d with
  | zero => intro d' w na nc da dc aa ac e h _; exact h.elim
  | succ d ih =>
    intro d' w na nc da dc aa ac e h hd
    obtain ⟨d', rfl⟩ : ∃ k, d' = k + 1 := ⟨d' - 1, by omega⟩
    obtain ⟨h1, h2, h3, h4, h5, h6⟩ := h.of_succ
    refine .mk h1 h2 h3 h4 h5 (h6.mono fun b o y _ he => ?_)
    obtain ⟨na, nc, da, dc, aa, ac, hc, hr⟩ := he
    exact ⟨na, nc, da, dc, aa, ac, hc, ih hr (by omega)⟩
theorem ExprE.ext {d : Nat} {w w' : World} {b o : Nat} {y : Expr} (he : ExprE d w b o y) (x : Ext w w') : ExprE d w' b o y := by
  obtain ⟨na, nc, da, dc, aa, ac, hc, hr⟩ := he
  exact ⟨na, nc, da, dc, aa, ac, hc.ext x, hr.ext x⟩
theorem exprs_ext {d : Nat} {w w' : World} {a : Option Addr} {c : Nat} {es : List Expr} (h : SlR 7 (ExprE d) w a c es) (x : Ext w w') : SlR 7 (ExprE d) w' a c es := h.mono fun _ _ _ _ he => he.ext x

end Go.Proofs.Ytmlldjcbijoheaa

/- Whether two expressions are equal, apart from positions. No program in sight. -/
namespace Go.Proofs.Ytmlldjcbijoheaa

mutual
def Expr.eqv : Expr → Expr → Bool
  | .mk k n b nu de al _, .mk k' n' b' nu' de' al' _ => decide (k = k') && (decide (n = n') && (decide (b = b' ∧ nu = nu' ∧ de = de') && (decide (al.length = al'.length) && Expr.eqvs al al')))
def Expr.eqvs : List Expr → List Expr → Bool
  | x :: xs, y :: ys => x.eqv y && Expr.eqvs xs ys
  | _, _ => true
end
def Expr.sameRat (a b : Expr) : Prop := a.neg = b.neg ∧ a.num = b.num ∧ a.den = b.den
instance (a b : Expr) : Decidable (a.sameRat b) := by unfold Expr.sameRat; infer_instance
theorem Expr.eqv_eq (a b : Expr) : a.eqv b = (decide (a.kind = b.kind) && (decide (a.name = b.name) && (decide (a.sameRat b) && (decide (a.args.length = b.args.length) && Expr.eqvs a.args b.args)))) := by
  cases a; cases b; rfl
theorem eqvs_snoc : ∀ (xs ys : List Expr) (k : Nat) (x y : Expr), xs[k]? = some x → ys[k]? = some y → Expr.eqvs (xs.take (k + 1)) (ys.take (k + 1)) = (Expr.eqvs (xs.take k) (ys.take k) && x.eqv y)
  | [], _, k, x, y, h, _ => by simp at h
  | _ :: _, [], k, x, y, _, h => by simp at h
  | a :: xs, b :: ys, 0, x, y, h, h' => by simp at h h'; subst h h'; simp [Expr.eqvs]
  | a :: xs, b :: ys, k + 1, x, y, h, h' => by
    have := eqvs_snoc xs ys k x y (by simpa using h) (by simpa using h')
    simp only [List.take_succ_cons, Expr.eqvs] at this ⊢
    rw [this, Bool.and_assoc]
theorem eqvs_false : ∀ (xs ys : List Expr) (k : Nat) (x y : Expr), xs[k]? = some x → ys[k]? = some y → x.eqv y = false → Expr.eqvs xs ys = false
  | [], _, k, x, y, h, _, _ => by simp at h
  | _ :: _, [], k, x, y, _, h, _ => by simp at h
  | a :: xs, b :: ys, 0, x, y, h, h', e => by simp at h h'; subst h h'; simp [Expr.eqvs, e]
  | a :: xs, b :: ys, k + 1, x, y, h, h', e => by
    have := eqvs_false xs ys k x y (by simpa using h) (by simpa using h') e
    simp [Expr.eqvs, this]
mutual
theorem eqv_refl : ∀ e : Expr, e.eqv e = true
  | .mk k n b nu de al p => by simp [Expr.eqv, eqvs_refl al]
theorem eqvs_refl : ∀ l : List Expr, Expr.eqvs l l = true
  | [] => rfl
  | x :: xs => by simp [Expr.eqvs, eqv_refl x, eqvs_refl xs]
end
end Go.Proofs.Ytmlldjcbijoheaa

/- Steps of a program, plain. No program in sight. -/
namespace Go.Proofs.Ytmlldjcbijoheaa

structure Stmt where
  kind : Int
  names : List ByteArray
  expr : Expr
  pos : Int
def Stmt.eqv (s t : Stmt) : Bool := decide (s.kind = t.kind) && (decide (s.names.length = t.names.length) && (s.expr.eqv t.expr && decide (s.names = t.names)))
def progEqv (p q : List Stmt) : Bool := decide (p.length = q.length) && (p.zip q).all fun x => x.1.eqv x.2
theorem zip_all_snoc {α : Type} {f : α × α → Bool} (p q : List α) (k : Nat) (x y : α) (hx : p[k]? = some x) (hy : q[k]? = some y) : ((p.take (k + 1)).zip (q.take (k + 1))).all f = (((p.take k).zip (q.take k)).all f && f (x, y)) := by
  have e1 : p.take (k + 1) = p.take k ++ [x] := by rw [List.take_add_one, hx]; rfl
  have e2 : q.take (k + 1) = q.take k ++ [y] := by rw [List.take_add_one, hy]; rfl
  have h1 : k < p.length := (List.getElem?_eq_some_iff.1 hx).1
  have h2 : k < q.length := (List.getElem?_eq_some_iff.1 hy).1
  rw [e1, e2, List.zip_append (by simp; omega)]
  simp
theorem zip_all_false {α : Type} {f : α × α → Bool} : ∀ (p q : List α) (k : Nat) (x y : α), p[k]? = some x → q[k]? = some y → f (x, y) = false → (p.zip q).all f = false
  | [], _, k, x, y, h, _, _ => by simp at h
  | _ :: _, [], k, x, y, _, h, _ => by simp at h
  | a :: p, b :: q, 0, x, y, h, h', e => by simp at h h'; subst h h'; simp [e]
  | a :: p, b :: q, k + 1, x, y, h, h', e => by
    have := zip_all_false p q k x y (by simpa using h) (by simpa using h') e
    simp [this]
theorem take_snoc_ne {α : Type} {p q : List α} {k : Nat} {x y : α} (hx : p[k]? = some x) (hy : q[k]? = some y) (h : x ≠ y) : p ≠ q := fun e => by subst e; rw [hx] at hy; injection hy with hy; exact h hy
theorem take_snoc_eq {α : Type} {p q : List α} {k : Nat} {x : α} (hx : p[k]? = some x) (hy : q[k]? = some x) (h : p.take k = q.take k) : p.take (k + 1) = q.take (k + 1) := by
  rw [List.take_add_one, List.take_add_one, hx, hy, h]
end Go.Proofs.Ytmlldjcbijoheaa

/- Slices of strings and of integers that a call makes itself: this program's types. -/
namespace Go.Proofs.Ytmlldjcbijoheaa
open Go.RowKit

def strC (s : ByteArray) : List Value := [.string s]
def intC (x : Int) : List Value := [.int .i64 x]
theorem strC_len (s : ByteArray) : (strC s).length = 1 := rfl
theorem intC_len (s : Int) : (intC s).length = 1 := rfl
theorem strC_one (s : ByteArray) : ∀ u ∈ strC s, u.oneCell' = true := by simp [strC, Value.oneCell']
theorem intC_one (s : Int) : ∀ u ∈ intC s, u.oneCell' = true := by simp [intC, Value.oneCell']
theorem strC_cell {w : World} {b : Nat} {s : ByteArray} (h : w.cell? ⟨b, 0, none⟩ = some (.string s)) : ∀ j u, (strC s)[j]? = some u → w.cell? ⟨b, j, none⟩ = some u := by
  intro j u hu
  match j, hu with
  | 0, hu => simp [strC] at hu; subst hu; exact h
theorem intC_cell {w : World} {b : Nat} {s : Int} (h : w.cell? ⟨b, 0, none⟩ = some (.int .i64 s)) : ∀ j u, (intC s)[j]? = some u → w.cell? ⟨b, j, none⟩ = some u := by
  intro j u hu
  match j, hu with
  | 0, hu => simp [intC] at hu; subst hu; exact h
/-- the call owns a slice of strings -/
abbrev OwnS (B : Nat) (w : World) (a : Option Addr) (c : Nat) (l : List ByteArray) : Prop := Own strC 1 9 B w a c l
/-- the call owns a slice of integers -/
abbrev OwnI (B : Nat) (w : World) (a : Option Addr) (c : Nat) (l : List Int) : Prop := Own intC 1 3 B w a c l
theorem infoS : (Try.prog.info? 9).map (fun i => (i.zero, i.size, i.bytes)) = some (some (.string ⟨#[]⟩), 1, 16) := by kernel_rfl
theorem infoI : (Try.prog.info? 3).map (fun i => (i.zero, i.size, i.bytes)) = some (some (.int .i64 0), 1, 8) := by kernel_rfl
section
variable {B : Nat} {w : World} {a : Option Addr} {c : Nat}
theorem OwnS.at1 {l : List ByteArray} (h : OwnS B w a c l) {k : Nat} {x : ByteArray} (hx : l[k]? = some x) : ∃ g, a = some ⟨g, 0, none⟩ ∧ B ≤ g ∧ g < w.heap.size ∧ w.cell? ⟨g, k, none⟩ = some (.string x) := by
  obtain ⟨g, ha, hb, hlt, hc⟩ := h.at_ strC_len hx
  exact ⟨g, ha, hb, hlt, by simpa using hc 0 _ rfl⟩
theorem OwnI.at1 {l : List Int} (h : OwnI B w a c l) {k : Nat} {x : Int} (hx : l[k]? = some x) : ∃ g, a = some ⟨g, 0, none⟩ ∧ B ≤ g ∧ g < w.heap.size ∧ w.cell? ⟨g, k, none⟩ = some (.int .i64 x) := by
  obtain ⟨g, ha, hb, hlt, hc⟩ := h.at_ intC_len hx
  exact ⟨g, ha, hb, hlt, by simpa using hc 0 _ rfl⟩
theorem OwnS.reads1 {l : List ByteArray} (h : OwnS B w a c l) : StrsR w a c l :=
  Own.reads strC_len h fun g o x hx hc => show w.cell? _ = _ by simpa using hc 0 _ rfl
theorem OwnI.reads1 {l : List Int} (h : OwnI B w a c l) (hs : ∀ s ∈ l, InInt s) : IntsR w a c l :=
  Own.reads intC_len h fun g o x hx hc => ⟨by simpa using hc 0 _ rfl, wf_of (hs x hx)⟩
end

/-- 'l = append(l, s)', s a string -/
theorem append_str {B : Nat} {w : World} {l : List ByteArray} {ops : Array Oper} {rest : List Oper} {o : Oper} {act : Act} {Q : Exit → Act → World → Prop} (hgd : o.guard = none) (s y : Operand)
    (ho : o.op = .call { callee := .builtin .append, args := #[s, y], argTypes := #[43, 43] })
    (a : Option Addr) (c : Nat) (hs : act.eval s = .slice a l.length c) (hown : OwnS B w a c l)
    (x : ByteArray) (b c1 : Nat) (hy : act.eval y = .slice (some ⟨b, 0, none⟩) 1 c1) (hcell : w.cell? ⟨b, 0, none⟩ = some (.string x))
    (l2 : List ByteArray) (hl2 : l2 = l ++ [x]) (hlen : l2.length ≤ 16777216) (hB : B ≤ w.heap.size)
    (h : ∀ a' c' w', OwnS B w' a' c' l2 → w.grownBy w' (Value.ownBlock (.slice a l.length c)) → ((∃ g, a' = some ⟨g, 0, none⟩ ∧ (a = some ⟨g, 0, none⟩ ∨ g = w.heap.size))) →
      wpList Try.prog ops Q rest (act.put o.dst (.slice a' l2.length c')) w') : wpList Try.prog ops Q (o :: rest) act w :=
  wpList_append_1 hgd s y 43 ho Try.underlying43 infoS rfl (by omega) (by omega) strC_len a c hs hown x (strC_one x) b c1 hy (strC_cell hcell) l2 hl2 hlen hB h
/-- 'l = append(l, n)', n an integer -/
theorem append_int {B : Nat} {w : World} {l : List Int} {ops : Array Oper} {rest : List Oper} {o : Oper} {act : Act} {Q : Exit → Act → World → Prop} (hgd : o.guard = none) (s y : Operand)
    (ho : o.op = .call { callee := .builtin .append, args := #[s, y], argTypes := #[26, 26] })
    (a : Option Addr) (c : Nat) (hs : act.eval s = .slice a l.length c) (hown : OwnI B w a c l)
    (x : Int) (b c1 : Nat) (hy : act.eval y = .slice (some ⟨b, 0, none⟩) 1 c1) (hcell : w.cell? ⟨b, 0, none⟩ = some (.int .i64 x))
    (l2 : List Int) (hl2 : l2 = l ++ [x]) (hlen : l2.length ≤ 16777216) (hB : B ≤ w.heap.size)
    (h : ∀ a' c' w', OwnI B w' a' c' l2 → w.grownBy w' (Value.ownBlock (.slice a l.length c)) → ((∃ g, a' = some ⟨g, 0, none⟩ ∧ (a = some ⟨g, 0, none⟩ ∨ g = w.heap.size))) →
      wpList Try.prog ops Q rest (act.put o.dst (.slice a' l2.length c')) w') : wpList Try.prog ops Q (o :: rest) act w :=
  wpList_append_1 hgd s y 26 ho Try.underlying26 infoI rfl (by omega) (by omega) intC_len a c hs hown x (intC_one x) b c1 hy (intC_cell hcell) l2 hl2 hlen hB h

end Go.Proofs.Ytmlldjcbijoheaa

/- Natural numbers as lists of limbs: the value of a list, the list of a value. No function of the program in sight. -/
namespace Go.Proofs.Ytmlldjcbijoheaa

/-- the value of limbs, the least one first -/
def val : List Int → Nat
  | [] => 0
  | x :: l => x.toNat + 65536 * val l
/-- the limbs of a value, without leading zeros -/
def limbs (n : Nat) : List Int := if h : n = 0 then [] else ((n % 65536 : Nat) : Int) :: limbs (n / 65536)
termination_by n
decreasing_by omega
def U16 (l : List Int) : Prop := ∀ x ∈ l, 0 ≤ x ∧ x ≤ 65535

theorem U16.nil : U16 [] := fun _ h => by cases h
theorem U16.cons {x : Int} {l : List Int} (h : 0 ≤ x ∧ x ≤ 65535) (k : U16 l) : U16 (x :: l) := fun y hy => by
  rcases List.mem_cons.1 hy with rfl | hy
  · exact h
  · exact k y hy
theorem U16.head {x : Int} {l : List Int} (h : U16 (x :: l)) : 0 ≤ x ∧ x ≤ 65535 := h x (by simp)
theorem U16.tail {x : Int} {l : List Int} (h : U16 (x :: l)) : U16 l := fun y hy => h y (by simp [hy])
theorem U16.app {l m : List Int} (h : U16 l) (k : U16 m) : U16 (l ++ m) := fun y hy => by
  rcases List.mem_append.1 hy with hy | hy
  · exact h y hy
  · exact k y hy
theorem U16.take {l : List Int} (h : U16 l) (k : Nat) : U16 (l.take k) := fun y hy => h y (List.mem_of_mem_take hy)
theorem U16.drop {l : List Int} (h : U16 l) (k : Nat) : U16 (l.drop k) := fun y hy => h y (List.mem_of_mem_drop hy)
theorem U16.get {l : List Int} (h : U16 l) {k : Nat} {x : Int} (hx : l[k]? = some x) : 0 ≤ x ∧ x ≤ 65535 := h x (List.mem_of_getElem? hx)
theorem U16.set_ {l : List Int} (h : U16 l) {k : Nat} {x : Int} (hx : 0 ≤ x ∧ x ≤ 65535) : U16 (l.set k x) := fun y hy => by
  rcases List.mem_or_eq_of_mem_set hy with hy | rfl
  · exact h y hy
  · exact hx

theorem limbs_zero : limbs 0 = [] := by rw [limbs]; simp
theorem limbs_pos {n : Nat} (h : n ≠ 0) : limbs n = ((n % 65536 : Nat) : Int) :: limbs (n / 65536) := by rw [limbs]; simp [h]
theorem limbs_u16 (n : Nat) : U16 (limbs n) := by
  induction n using Nat.strongRecOn with
  | ind n ih =>
    by_cases h : n = 0
    · subst h; rw [limbs_zero]; exact U16.nil
    · rw [limbs_pos h]; exact U16.cons (by omega) (ih _ (by omega))
theorem val_limbs (n : Nat) : val (limbs n) = n := by
  induction n using Nat.strongRecOn with
  | ind n ih =>
    by_cases h : n = 0
    · subst h; rw [limbs_zero]; rfl
    · rw [limbs_pos h, val, ih _ (by omega)]; omega
theorem val_append (l m : List Int) : val (l ++ m) = val l + 65536 ^ l.length * val m := by
  induction l with
  | nil => simp [val]
  | cons x l ih =>
    simp only [List.cons_append, val, ih, List.length_cons, Nat.pow_succ]
    rw [Nat.mul_add, ← Nat.mul_assoc, Nat.mul_comm 65536 (65536 ^ l.length), Nat.add_assoc]
theorem val_lt {l : List Int} (h : U16 l) : val l < 65536 ^ l.length := by
  induction l with
  | nil => simp [val]
  | cons x l ih =>
    have h1 := ih h.tail
    have h2 := h.head
    simp only [val, List.length_cons, Nat.pow_succ]
    omega
theorem val_snoc (l : List Int) (x : Int) : val (l ++ [x]) = val l + 65536 ^ l.length * x.toNat := by rw [val_append]; simp [val]
theorem val_take {l : List Int} {k : Nat} {x : Int} (h : l[k]? = some x) : val (l.take (k + 1)) = val (l.take k) + 65536 ^ k * x.toNat := by
  rw [take_more h, val_snoc]
  have : (l.take k).length = k := by have := lt_of_get h; simp; omega
  rw [this]
theorem val_drop {l : List Int} {k : Nat} {x : Int} (h : l[k]? = some x) : val (l.drop k) = x.toNat + 65536 * val (l.drop (k + 1)) := by
  have hk := lt_of_get h
  rw [List.drop_eq_getElem_cons hk]
  have : l[k] = x := by rw [List.getElem?_eq_getElem hk] at h; exact Option.some.inj h
  rw [this, val]
theorem val_split (l : List Int) (k : Nat) : val l = val (l.take k) + 65536 ^ (l.take k).length * val (l.drop k) := by
  have := val_append (l.take k) (l.drop k)
  rwa [List.take_append_drop] at this
theorem val_drop_all {l : List Int} {k : Nat} (h : l.length ≤ k) : val (l.drop k) = 0 := by rw [List.drop_eq_nil_of_le h]; rfl
theorem val_take_all {l : List Int} {k : Nat} (h : l.length ≤ k) : val (l.take k) = val l := by rw [List.take_of_length_le h]
/-- what is cut to its first k limbs, the others being zero -/
theorem limbs_canon {l : List Int} (h : U16 l) (hc : ∀ x, l.getLast? = some x → x ≠ 0) : limbs (val l) = l := by
  induction l with
  | nil => exact limbs_zero
  | cons x l ih =>
    have h1 := h.head
    have hv : val (x :: l) = x.toNat + 65536 * val l := rfl
    have hl : limbs (val l) = l := ih h.tail (fun y hy => hc y (by
      cases l with
      | nil => simp at hy
      | cons z l => rw [List.getLast?_cons_cons]; exact hy))
    have hne : val (x :: l) ≠ 0 := by
      intro e
      rw [hv] at e
      cases l with
      | nil => exact hc x (by simp) (by omega)
      | cons z l =>
        have : val (z :: l) = 0 := by omega
        rw [this, limbs_zero] at hl
        cases hl
    rw [limbs_pos hne, hv]
    have e1 : (x.toNat + 65536 * val l) % 65536 = x.toNat := by omega
    have e2 : (x.toNat + 65536 * val l) / 65536 = val l := by omega
    rw [e1, e2, hl]
    congr 1
    omega
theorem limbs_last {n : Nat} {x : Int} (h : (limbs n).getLast? = some x) : x ≠ 0 := by
  induction n using Nat.strongRecOn generalizing x with
  | ind n ih =>
    by_cases h0 : n = 0
    · subst h0; rw [limbs_zero] at h; simp at h
    · rw [limbs_pos h0] at h
      by_cases h1 : n / 65536 = 0
      · rw [h1, limbs_zero] at h
        simp at h
        omega
      · have : limbs (n / 65536) ≠ [] := by rw [limbs_pos h1]; simp
        obtain ⟨y, t, ht⟩ := List.exists_cons_of_ne_nil this
        rw [ht, List.getLast?_cons_cons, ← ht] at h
        exact ih _ (by omega) h
theorem val_inj {l m : List Int} (h : U16 l) (k : U16 m) (hc : ∀ x, l.getLast? = some x → x ≠ 0) (kc : ∀ x, m.getLast? = some x → x ≠ 0) : val l = val m ↔ l = m := by
  constructor
  · intro e; rw [← limbs_canon h hc, ← limbs_canon k kc, e]
  · intro e; rw [e]
theorem limbs_inj {n m : Nat} : limbs n = limbs m ↔ n = m := by
  constructor
  · intro e; rw [← val_limbs n, ← val_limbs m, e]
  · intro e; rw [e]
theorem limbs_nil {n : Nat} : limbs n = [] ↔ n = 0 := by
  rw [← limbs_zero, limbs_inj]
theorem limbs_len_le {n k : Nat} (h : n < 65536 ^ k) : (limbs n).length ≤ k := by
  induction k generalizing n with
  | zero => have : n = 0 := by simpa using h
            subst this; simp [limbs_zero]
  | succ k ih =>
    by_cases h0 : n = 0
    · subst h0; simp [limbs_zero]
    · rw [limbs_pos h0]
      have := ih (n := n / 65536) (by rw [Nat.pow_succ] at h; omega)
      simp only [List.length_cons]
      omega
theorem limbs_len_pos {n : Nat} : 0 < (limbs n).length ↔ 0 < n := by
  constructor
  · intro h
    apply Nat.pos_of_ne_zero
    intro e; subst e; simp [limbs_zero] at h
  · intro h; rw [limbs_pos (by omega)]; simp
theorem lt_pow_limbs (n : Nat) : n < 65536 ^ (limbs n).length := by have := val_lt (limbs_u16 n); rwa [val_limbs] at this
theorem limbs_len_mono {n m : Nat} (h : n ≤ m) : (limbs n).length ≤ (limbs m).length := limbs_len_le (Nat.lt_of_le_of_lt h (lt_pow_limbs m))
theorem limbs_len_val {l : List Int} (h : U16 l) : (limbs (val l)).length ≤ l.length := limbs_len_le (val_lt h)
theorem limbs_len_mul (a b : Nat) : (limbs (a * b)).length ≤ (limbs a).length + (limbs b).length := by
  apply limbs_len_le
  rw [Nat.pow_add]
  exact Nat.mul_lt_mul'' (lt_pow_limbs a) (lt_pow_limbs b)
theorem limbs_len_add (a b : Nat) : (limbs (a + b)).length ≤ max (limbs a).length (limbs b).length + 1 := by
  apply limbs_len_le
  rw [Nat.pow_succ]
  have h1 := lt_pow_limbs a
  have h2 := lt_pow_limbs b
  have h3 : 65536 ^ (limbs a).length ≤ 65536 ^ (max (limbs a).length (limbs b).length) := Nat.pow_le_pow_right (by omega) (by omega)
  have h4 : 65536 ^ (limbs b).length ≤ 65536 ^ (max (limbs a).length (limbs b).length) := Nat.pow_le_pow_right (by omega) (by omega)
  omega
/-- the limbs of a value, its first k limbs being l and the others zero -/
theorem limbs_cut {l : List Int} (h : U16 l) {k : Nat} (hk : val (l.drop k) = 0) (hc : ∀ x, k ≠ 0 → l[k - 1]? = some x → x ≠ 0) (hkl : k ≤ l.length) : limbs (val l) = l.take k := by
  have h1 : val l = val (l.take k) := by rw [val_split l k, hk]; omega
  rw [h1]
  apply limbs_canon (h.take k)
  intro x hx
  by_cases h0 : k = 0
  · subst h0; simp at hx
  · refine hc x h0 ?_
    rw [List.getLast?_eq_getElem?, List.length_take, List.getElem?_take] at hx
    have e : min k l.length = k := by omega
    rw [e, if_pos (by omega)] at hx
    exact hx

/-- Go's order of two numbers -/
def cmpN (a b : Nat) : Int := if a < b then -1 else if b < a then 1 else 0
theorem cmpN_lt {a b : Nat} : cmpN a b < 0 ↔ a < b := by unfold cmpN; split <;> (try split) <;> omega
theorem cmpN_le {a b : Nat} : cmpN a b ≤ 0 ↔ a ≤ b := by unfold cmpN; split <;> (try split) <;> omega
theorem cmpN_ge {a b : Nat} : 0 ≤ cmpN a b ↔ b ≤ a := by unfold cmpN; split <;> (try split) <;> omega
theorem cmpN_zero {a b : Nat} : cmpN a b = 0 ↔ a = b := by unfold cmpN; split <;> (try split) <;> omega
theorem cmpN_in (a b : Nat) : -1 ≤ cmpN a b ∧ cmpN a b ≤ 1 := by unfold cmpN; split <;> (try split) <;> omega

/-- limb k, 0 beyond the end -/
def limbAt (l : List Int) (k : Nat) : Int := (l[k]?).getD 0
theorem limbAt_some {l : List Int} {k : Nat} {x : Int} (h : l[k]? = some x) : limbAt l k = x := by simp [limbAt, h]
theorem limbAt_none {l : List Int} {k : Nat} (h : l.length ≤ k) : limbAt l k = 0 := by simp [limbAt, h]
theorem limbAt_in {l : List Int} (h : U16 l) (k : Nat) : 0 ≤ limbAt l k ∧ limbAt l k ≤ 65535 := by
  unfold limbAt
  cases hx : l[k]? with
  | none => simp
  | some x => exact h.get hx
theorem val_drop_at (l : List Int) (k : Nat) : val (l.drop k) = (limbAt l k).toNat + 65536 * val (l.drop (k + 1)) := by
  cases hx : l[k]? with
  | none =>
    have := List.getElem?_eq_none_iff.1 hx
    rw [limbAt_none this, val_drop_all this, val_drop_all (by omega)]; rfl
  | some x => rw [limbAt_some hx]; exact val_drop hx
theorem val_take_at {l : List Int} (k : Nat) : val (l.take (k + 1)) = val (l.take k) + 65536 ^ k * (limbAt l k).toNat := by
  cases hx : l[k]? with
  | none =>
    have := List.getElem?_eq_none_iff.1 hx
    rw [limbAt_none this, val_take_all this, val_take_all (by omega)]; simp
  | some x => rw [limbAt_some hx]; exact val_take hx
theorem val_split_at {l : List Int} (h : U16 l) (k : Nat) : ∃ lo, lo < 65536 ^ k ∧ val l = lo + 65536 ^ k * val (l.drop k) := by
  refine ⟨val (l.take k), ?_, ?_⟩
  · refine Nat.lt_of_lt_of_le (val_lt (h.take k)) (Nat.pow_le_pow_right (by omega) (by simp; omega))
  · by_cases hk : k ≤ l.length
    · have := val_split l k
      have e : (l.take k).length = k := by simp; omega
      rwa [e] at this
    · rw [val_drop_all (by omega), val_take_all (by omega)]; omega
theorem val_lt_of {a b : List Int} (ha : U16 a) (hb : U16 b) (k : Nat) (he : val (a.drop (k + 1)) = val (b.drop (k + 1))) (h : limbAt a k < limbAt b k) : val a < val b := by
  obtain ⟨p, hp, e1⟩ := val_split_at ha k
  obtain ⟨q, hq, e2⟩ := val_split_at hb k
  rw [val_drop_at] at e1 e2
  rw [e1, e2, he]
  have h1 := limbAt_in ha k
  have h2 : (limbAt a k).toNat + 65536 * val (b.drop (k + 1)) + 1 ≤ (limbAt b k).toNat + 65536 * val (b.drop (k + 1)) := by omega
  have h3 := Nat.mul_le_mul_left (65536 ^ k) h2
  rw [Nat.mul_add _ _ 1] at h3
  omega
end Go.Proofs.Ytmlldjcbijoheaa
