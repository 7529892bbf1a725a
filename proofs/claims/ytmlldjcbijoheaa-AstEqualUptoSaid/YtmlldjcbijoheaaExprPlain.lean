/- Expressions as a plain tree, and what is measured of them. No program in sight. -/
import Init
namespace Go.Proofs.Ytmlldjcbijoheaa

/-- an expression: kind, name, the ratio (its sign, numerator, denominator as limbs), arguments, position -/
inductive Expr where
  | mk (kind : Int) (name : ByteArray) (neg : Bool) (num den : List Int) (args : List Expr) (pos : Int)

namespace Expr
def kind : Expr → Int | mk k _ _ _ _ _ _ => k
def name : Expr → ByteArray | mk _ n _ _ _ _ _ => n
def neg : Expr → Bool | mk _ _ b _ _ _ _ => b
def num : Expr → List Int | mk _ _ _ a _ _ _ => a
def den : Expr → List Int | mk _ _ _ _ a _ _ => a
def args : Expr → List Expr | mk _ _ _ _ _ a _ => a
def pos : Expr → Int | mk _ _ _ _ _ _ p => p
end Expr

mutual
/-- the number of expressions in an expression -/
def Expr.count : Expr → Nat
  | .mk _ _ _ _ _ args _ => 1 + Expr.counts args
def Expr.counts : List Expr → Nat
  | [] => 0
  | e :: es => e.count + Expr.counts es
end
mutual
/-- the number of levels -/
def Expr.depth : Expr → Nat
  | .mk _ _ _ _ _ args _ => Expr.depths args + 1
def Expr.depths : List Expr → Nat
  | [] => 0
  | e :: es => max e.depth (Expr.depths es)
end
def hasName (l : List ByteArray) (s : ByteArray) : Bool := l.any fun t => decide (t = s)
theorem hasName_iff {l : List ByteArray} {s : ByteArray} : hasName l s = true ↔ s ∈ l := by simp [hasName]
theorem hasName_more (l : List ByteArray) (x s : ByteArray) : hasName (l ++ [x]) s = (hasName l s || decide (x = s)) := by simp [hasName]
/-- a name is added where it is not yet -/
def addName (l : List ByteArray) (s : ByteArray) : List ByteArray := if hasName l s = true then l else l ++ [s]
def addNames (l ss : List ByteArray) : List ByteArray := ss.foldl addName l
mutual
/-- the names of an expression are added to a list -/
def Expr.collect : List ByteArray → Expr → List ByteArray
  | l, .mk k n _ _ _ args _ => Expr.collects (if k = 1 then addName l n else l) args
def Expr.collects : List ByteArray → List Expr → List ByteArray
  | l, [] => l
  | l, e :: es => Expr.collects (Expr.collect l e) es
end
mutual
/-- the names as the reference lists them -/
def Expr.names : Expr → List ByteArray
  | .mk k n _ _ _ args _ => Expr.namess (if k = 1 then [n] else []) args
def Expr.namess : List ByteArray → List Expr → List ByteArray
  | l, [] => l
  | l, e :: es => Expr.namess (addNames l (Expr.names e)) es
end

theorem Expr.count_eq (e : Expr) : e.count = 1 + Expr.counts e.args := by cases e; simp [Expr.count, Expr.args]
theorem Expr.depth_eq (e : Expr) : e.depth = Expr.depths e.args + 1 := by cases e; simp [Expr.depth, Expr.args]
theorem Expr.collect_eq (l : List ByteArray) (e : Expr) : Expr.collect l e = Expr.collects (if e.kind = 1 then addName l e.name else l) e.args := by cases e; rfl
theorem Expr.names_eq (e : Expr) : e.names = Expr.namess (if e.kind = 1 then [e.name] else []) e.args := by cases e; rfl

theorem counts_append (a b : List Expr) : Expr.counts (a ++ b) = Expr.counts a + Expr.counts b := by
  induction a with
  | nil => simp [Expr.counts]
  | cons x a ih => simp [Expr.counts, ih, Nat.add_assoc]
theorem counts_mem {e : Expr} {l : List Expr} (h : e ∈ l) : e.count ≤ Expr.counts l := by
  induction l with
  | nil => cases h
  | cons x l ih =>
    simp only [Expr.counts]
    rcases List.mem_cons.1 h with rfl | h
    · omega
    · have := ih h; omega
theorem count_arg {e x : Expr} (h : x ∈ e.args) : x.count < e.count := by
  have := counts_mem h
  rw [Expr.count_eq e]; omega
theorem depths_append (a b : List Expr) : Expr.depths (a ++ b) = max (Expr.depths a) (Expr.depths b) := by
  induction a with
  | nil => simp [Expr.depths]
  | cons x a ih => simp [Expr.depths, ih, Nat.max_assoc]
theorem depths_mem {e : Expr} {l : List Expr} (h : e ∈ l) : e.depth ≤ Expr.depths l := by
  induction l with
  | nil => cases h
  | cons x l ih =>
    simp only [Expr.depths]
    rcases List.mem_cons.1 h with rfl | h
    · omega
    · have := ih h; omega
theorem collects_append (l : List ByteArray) (a b : List Expr) : Expr.collects l (a ++ b) = Expr.collects (Expr.collects l a) b := by
  induction a generalizing l with
  | nil => simp [Expr.collects]
  | cons x a ih => simp [Expr.collects, ih]
theorem namess_append (l : List ByteArray) (a b : List Expr) : Expr.namess l (a ++ b) = Expr.namess (Expr.namess l a) b := by
  induction a generalizing l with
  | nil => simp [Expr.namess]
  | cons x a ih => simp [Expr.namess, ih]

/-! ### the depth is at most the count -/
theorem depth_pos (e : Expr) : 1 ≤ e.depth := by rw [Expr.depth_eq]; omega
mutual
theorem depth_le_count : ∀ e : Expr, e.depth ≤ e.count
  | .mk _ _ _ _ _ args _ => by
    have := depths_le_counts args
    simp only [Expr.depth, Expr.count]; omega
theorem depths_le_counts : ∀ l : List Expr, Expr.depths l ≤ Expr.counts l
  | [] => by simp [Expr.depths, Expr.counts]
  | e :: es => by
    have h1 := depth_le_count e
    have h2 := depths_le_counts es
    simp only [Expr.depths, Expr.counts]; omega
end

/-! ### both lists of names are one -/
theorem mem_addName {l : List ByteArray} {s x : ByteArray} : x ∈ addName l s ↔ x ∈ l ∨ x = s := by
  unfold addName
  split
  · rename_i h
    rw [hasName_iff] at h
    constructor
    · exact .inl
    · rintro (h1 | rfl) <;> assumption
  · simp
theorem mem_addNames {l ss : List ByteArray} {x : ByteArray} : x ∈ addNames l ss ↔ x ∈ l ∨ x ∈ ss := by
  induction ss generalizing l with
  | nil => simp [addNames]
  | cons s ss ih =>
    have : addNames l (s :: ss) = addNames (addName l s) ss := rfl
    rw [this, ih, mem_addName]
    simp [or_assoc]
theorem addNames_append (l a b : List ByteArray) : addNames l (a ++ b) = addNames (addNames l a) b := by simp [addNames]
theorem addNames_add (l m : List ByteArray) (x : ByteArray) : addNames l (addName m x) = addName (addNames l m) x := by
  unfold addName
  by_cases h : x ∈ m
  · rw [if_pos (hasName_iff.2 h), if_pos (hasName_iff.2 (mem_addNames.2 (.inr h)))]
  · rw [if_neg (fun e => h (hasName_iff.1 e)), addNames_append]
    rfl
theorem addNames_addNames (l m xs : List ByteArray) : addNames l (addNames m xs) = addNames (addNames l m) xs := by
  induction xs generalizing m with
  | nil => rfl
  | cons x xs ih =>
    show addNames l (addNames (addName m x) xs) = addNames (addName (addNames l m) x) xs
    rw [ih, addNames_add]
mutual
theorem collect_names : ∀ (e : Expr) (l : List ByteArray), Expr.collect l e = addNames l e.names
  | .mk k n _ _ _ args _, l => by
    have h := collects_namess args (if k = 1 then [n] else []) l
    simp only [Expr.collect, Expr.names]
    rw [← h]
    congr 1
    split
    · simp [addNames]
    · simp [addNames]
theorem collects_namess : ∀ (es : List Expr) (m l : List ByteArray), Expr.collects (addNames l m) es = addNames l (Expr.namess m es)
  | [], m, l => by simp [Expr.collects, Expr.namess]
  | e :: es, m, l => by
    have h1 := collect_names e (addNames l m)
    have h2 := collects_namess es (addNames m e.names) l
    simp only [Expr.collects, Expr.namess]
    rw [h1, ← h2, addNames_addNames]
end
/-- every list of the reference has each name once, so adding it to nothing gives it back -/
def Once (l : List ByteArray) : Prop := addNames [] l = l
theorem once_addNames (m xs : List ByteArray) (h : Once m) : Once (addNames m xs) := by
  unfold Once at *
  rw [addNames_addNames, h]
mutual
theorem once_names : ∀ e : Expr, Once e.names
  | .mk k n _ _ _ args _ => by
    simp only [Expr.names]
    refine once_namess args _ ?_
    split
    · simp [Once, addNames, addName, hasName]
    · simp [Once, addNames]
theorem once_namess : ∀ (es : List Expr) (m : List ByteArray), Once m → Once (Expr.namess m es)
  | [], m, h => by simpa [Expr.namess] using h
  | e :: es, m, h => by
    simp only [Expr.namess]
    exact once_namess es _ (once_addNames m _ h)
end
theorem collect_nil (e : Expr) : Expr.collect [] e = e.names := by
  rw [collect_names]; exact once_names e
theorem length_addName (l : List ByteArray) (s : ByteArray) : (addName l s).length ≤ l.length + 1 := by
  unfold addName; split <;> simp
theorem length_addNames (l ss : List ByteArray) : (addNames l ss).length ≤ l.length + ss.length := by
  induction ss generalizing l with
  | nil => simp [addNames]
  | cons s ss ih =>
    have h1 := ih (addName l s)
    have h2 := length_addName l s
    show (addNames (addName l s) ss).length ≤ _
    simp only [List.length_cons]; omega
mutual
theorem length_names : ∀ e : Expr, e.names.length ≤ e.count
  | .mk k n _ _ _ args _ => by
    have := length_namess args (if k = 1 then [n] else [])
    have h2 : (if k = 1 then [n] else []).length ≤ 1 := by split <;> simp
    simp only [Expr.names, Expr.count]; omega
theorem length_namess : ∀ (es : List Expr) (m : List ByteArray), (Expr.namess m es).length ≤ m.length + Expr.counts es
  | [], m => by simp [Expr.namess]
  | e :: es, m => by
    have h1 := length_names e
    have h2 := length_namess es (addNames m e.names)
    have h3 := length_addNames m e.names
    simp only [Expr.namess, Expr.counts]; omega
end
mutual
theorem length_collect : ∀ (e : Expr) (l : List ByteArray), (Expr.collect l e).length ≤ l.length + e.count
  | e, l => by
    have h1 := length_names e
    have h2 := length_addNames l e.names
    rw [collect_names]; omega
end
theorem length_collects (es : List Expr) (l : List ByteArray) : (Expr.collects l es).length ≤ l.length + Expr.counts es := by
  have h := collects_namess es [] l
  have h1 := length_namess es []
  have h2 := length_addNames l (Expr.namess [] es)
  have h3 : addNames l [] = l := rfl
  rw [h3] at h
  rw [h]; simp at h1; omega
theorem counts_ge_length : ∀ l : List Expr, l.length ≤ Expr.counts l
  | [] => by simp
  | x :: l => by
    have h1 := counts_ge_length l
    have h2 := Expr.count_eq x
    simp only [Expr.counts, List.length_cons]
    omega
end Go.Proofs.Ytmlldjcbijoheaa
