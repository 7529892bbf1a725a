/- Steps of a program, plain. No program in sight. -/
import Derived.Test.YtmlldjcbijoheaaJr1
import Init

/- The table of kinds, plain, and tables in memory. No program in sight. -/
namespace Go.Proofs.Ytmlldjcbijoheaa
open Go.RowKit

structure KRow where
  kind : Int
  sort : Int
  word : ByteArray
  params : List Int

def kindTable : List KRow := [
  ⟨10, 1, ⟨#[109, 105, 100, 112, 111, 105, 110, 116]⟩, [1, 1]⟩,
  ⟨11, 1, ⟨#[100, 105, 118, 105, 100, 101]⟩, [1, 1]⟩,
  ⟨12, 1, ⟨#[114, 101, 102, 108, 101, 99, 116]⟩, [1, 1]⟩,
  ⟨13, 1, ⟨#[109, 105, 114, 114, 111, 114]⟩, [1, 2]⟩,
  ⟨14, 1, ⟨#[102, 111, 111, 116]⟩, [1, 2]⟩,
  ⟨15, 1, ⟨#[109, 101, 101, 116]⟩, [2, 2]⟩,
  ⟨16, 1, ⟨#[111, 110]⟩, [0]⟩,
  ⟨17, 1, ⟨#[111, 116, 104, 101, 114]⟩, [1, 1, 1]⟩,
  ⟨18, 1, ⟨#[99, 111, 109, 109, 111, 110]⟩, [1, 1, 1]⟩,
  ⟨19, 1, ⟨#[99, 101, 110, 116, 101, 114]⟩, [1, 1, 1]⟩,
  ⟨20, 1, ⟨#[115, 104, 105, 102, 116]⟩, [1, 1, 1]⟩,
  ⟨21, 1, ⟨#[116, 117, 114, 110]⟩, [1, 1]⟩,
  ⟨22, 1, ⟨#[99, 117, 116]⟩, [2, 3]⟩,
  ⟨23, 1, ⟨#[99, 114, 111, 115, 115]⟩, [3, 3]⟩,
  ⟨24, 1, ⟨#[97, 112, 101, 120]⟩, [1, 1]⟩,
  ⟨40, 2, ⟨#[108, 105, 110, 101]⟩, [1, 1]⟩,
  ⟨41, 2, ⟨#[112, 97, 114, 97, 108, 108, 101, 108]⟩, [1, 2]⟩,
  ⟨42, 2, ⟨#[112, 101, 114, 112, 101, 110, 100, 105, 99, 117, 108, 97, 114]⟩, [1, 2]⟩,
  ⟨43, 2, ⟨#[98, 105, 115, 101, 99, 116, 111, 114]⟩, [1, 1]⟩,
  ⟨50, 3, ⟨#[99, 105, 114, 99, 108, 101]⟩, [1, 1]⟩,
  ⟨51, 3, ⟨#[99, 105, 114, 99, 117, 109]⟩, [1, 1, 1]⟩,
  ⟨60, 4, ⟨#[99, 111, 108, 108, 105, 110, 101, 97, 114]⟩, [1, 1, 1]⟩,
  ⟨61, 4, ⟨#[112, 97, 114, 97, 108, 108, 101, 108]⟩, [2, 2]⟩,
  ⟨62, 4, ⟨#[112, 101, 114, 112, 101, 110, 100, 105, 99, 117, 108, 97, 114]⟩, [2, 2]⟩,
  ⟨63, 4, ⟨#[99, 111, 110, 103, 114, 117, 101, 110, 116]⟩, [1, 1, 1, 1]⟩,
  ⟨64, 4, ⟨#[109, 105, 100, 112, 111, 105, 110, 116]⟩, [1, 1, 1]⟩,
  ⟨65, 4, ⟨#[99, 111, 110, 99, 121, 99, 108, 105, 99]⟩, [1, 1, 1, 1]⟩,
  ⟨66, 4, ⟨#[97, 110, 103, 108, 101]⟩, [1, 1, 1, 1, 1, 1]⟩,
  ⟨67, 4, ⟨#[115, 97, 109, 101]⟩, [1, 1]⟩,
  ⟨68, 4, ⟨#[114, 97, 116, 105, 111]⟩, [1, 1, 1, 1]⟩]

def findRow (k : Int) : KRow := (kindTable.find? fun r => r.kind == k).getD ⟨0, 0, ⟨#[]⟩, []⟩
def findWord (w : ByteArray) : KRow := (kindTable.find? fun r => r.word == w).getD ⟨0, 0, ⟨#[]⟩, []⟩
theorem find_here {α : Type} {p : α → Bool} {l : List α} {k : Nat} {x : α} (hx : l[k]? = some x) (hp : p x = true) (hn : ∀ y ∈ l.take k, p y = false) : l.find? p = some x := by
  rw [List.find?_eq_some_iff_append]
  refine ⟨hp, l.take k, l.drop (k + 1), ?_, fun y hy => by simp [hn y hy]⟩
  have h1 : k < l.length := lt_of_get hx
  have h2 : l.drop k = x :: l.drop (k + 1) := by
    rw [List.drop_eq_getElem_cons h1]; congr 1
    rw [List.getElem?_eq_getElem h1] at hx; injection hx
  rw [← h2, List.take_append_drop]
theorem find_none {α : Type} {p : α → Bool} {l : List α} (hn : ∀ y ∈ l, p y = false) : l.find? p = none := by
  rw [List.find?_eq_none]; intro y hy; simp [hn y hy]

def allocs : World → List Obj → World
  | w, [] => w
  | w, o :: os => allocs (w.alloc o) os
theorem allocs_size : ∀ (os : List Obj) (w : World), (allocs w os).heap.size = w.heap.size + os.length
  | [], w => rfl
  | o :: os, w => by simp [allocs, allocs_size os]; omega
theorem allocs_below : ∀ (os : List Obj) (w0 w : World), Below w0.heap.size w0 w → Below w0.heap.size w0 (allocs w os)
  | [], w0, w, h => h
  | o :: os, w0, w, h => allocs_below os w0 (w.alloc o) (h.alloc h.size o)
theorem allocs_keep : ∀ (os : List Obj) (w : World) (g : Nat) (t : TypeId) (cs : Array Value), Blk w g t cs → Blk (allocs w os) g t cs
  | [], _, _, _, _, h => h
  | o :: os, w, g, t, cs, h => allocs_keep os (w.alloc o) g t cs (h.alloc o)
theorem allocs_at : ∀ (os : List Obj) (w : World) (k : Nat) (t : TypeId) (cs : Array Value), os[k]? = some (.cells cs t) → Blk (allocs w os) (w.heap.size + k) t cs
  | [], w, k, t, cs, h => by simp at h
  | o :: os, w, 0, t, cs, h => by
    simp at h; subst h
    exact allocs_keep os _ _ _ _ (Blk.new w t cs)
  | o :: os, w, k + 1, t, cs, h => by
    have := allocs_at os (w.alloc o) k t cs (by simpa using h)
    have e : (w.alloc o).heap.size + k = w.heap.size + (k + 1) := by simp; omega
    rw [e] at this
    exact this
/-- a slice of ints in a block of its own -/
def intObj (t : TypeId) (l : List Int) : Obj := .cells (l.map (Value.int .i64)).toArray t
def rowVals : Nat → List KRow → List Value
  | _, [] => []
  | b, r :: rs => .int .i64 r.kind :: .int .i64 r.sort :: .string r.word :: .slice (some ⟨b, 0, none⟩) r.params.length r.params.length :: rowVals (b + 1) rs
def tableWorld (ti tr : TypeId) (w : World) (l : List KRow) : World := (allocs w (l.map fun r => intObj ti r.params)).alloc (.cells (rowVals w.heap.size l).toArray tr)
/-- a row in memory -/
def KRowE (w : World) (b o : Nat) (r : KRow) : Prop := ∃ a c, w.cell? ⟨b, o, none⟩ = some (.int .i64 r.kind) ∧ w.cell? ⟨b, o + 1, none⟩ = some (.int .i64 r.sort) ∧ w.cell? ⟨b, o + 2, none⟩ = some (.string r.word) ∧
  w.cell? ⟨b, o + 3, none⟩ = some (.slice a r.params.length c) ∧ IntsR w a c r.params
theorem KRowE.ext {w w' : World} {b o : Nat} {r : KRow} (h : KRowE w b o r) (x : Ext w w') : KRowE w' b o r := by
  obtain ⟨a, c, h0, h1, h2, h3, h4⟩ := h
  exact ⟨a, c, x _ _ h0, x _ _ h1, x _ _ h2, x _ _ h3, h4.ext x⟩
theorem intsR_blk {w : World} {g : Nat} {t : TypeId} {l : List Int} (h : Blk w g t (l.map (Value.int .i64)).toArray) (hi : ∀ x ∈ l, InInt x) (hl : l.length ≤ maxLen) : IntsR w (some ⟨g, 0, none⟩) l.length l := by
  refine ⟨Nat.le_refl _, hl, fun k x hx => ⟨g, 0, rfl, ?_, wf_of (hi x (List.mem_of_getElem? hx))⟩⟩
  have := h.cell (0 + k * 1)
  rw [this]
  simp [hx]
theorem rowVals_at : ∀ (l : List KRow) (b k : Nat) (r : KRow), l[k]? = some r → (rowVals b l)[k * 4]? = some (.int .i64 r.kind) ∧ (rowVals b l)[k * 4 + 1]? = some (.int .i64 r.sort) ∧ (rowVals b l)[k * 4 + 2]? = some (.string r.word) ∧
    (rowVals b l)[k * 4 + 3]? = some (.slice (some ⟨b + k, 0, none⟩) r.params.length r.params.length)
  | [], b, k, r, h => by simp at h
  | x :: l, b, 0, r, h => by simp at h; subst h; simp [rowVals]
  | x :: l, b, k + 1, r, h => by
    have := rowVals_at l (b + 1) k r (by simpa using h)
    have e : (k + 1) * 4 = k * 4 + 4 := by omega
    rw [e]
    simp only [rowVals]
    have f : b + 1 + k = b + (k + 1) := by omega
    rw [f] at this
    exact this
theorem table_reads (ti tr : TypeId) (w : World) (l : List KRow) (hl : l.length ≤ maxLen) (hp : ∀ r ∈ l, (∀ x ∈ r.params, InInt x) ∧ r.params.length ≤ maxLen) : SlR 4 KRowE (tableWorld ti tr w l) (some ⟨w.heap.size + l.length, 0, none⟩) l.length l := by
  refine ⟨Nat.le_refl _, hl, fun k r hr => ⟨w.heap.size + l.length, 0, rfl, ?_⟩⟩
  have hk := lt_of_get hr
  have hB : Blk (tableWorld ti tr w l) (w.heap.size + l.length) tr (rowVals w.heap.size l).toArray := by
    have := Blk.new (allocs w (l.map fun r => intObj ti r.params)) tr (rowVals w.heap.size l).toArray
    rw [allocs_size, List.length_map] at this
    exact this
  have hP : Blk (tableWorld ti tr w l) (w.heap.size + k) ti (r.params.map (Value.int .i64)).toArray :=
    Blk.alloc (allocs_at (l.map fun (r : KRow) => intObj ti r.params) w k ti (r.params.map (Value.int .i64)).toArray (by rw [List.getElem?_map, hr]; rfl)) _
  obtain ⟨h0, h1, h2, h3⟩ := rowVals_at l w.heap.size k r hr
  have hm := List.mem_of_getElem? hr
  refine ⟨some ⟨w.heap.size + k, 0, none⟩, r.params.length, ?_, ?_, ?_, ?_, intsR_blk hP (hp r hm).1 (hp r hm).2⟩
  · rw [hB.cell]; simpa using h0
  · rw [hB.cell]; simpa using h1
  · rw [hB.cell]; simpa using h2
  · rw [hB.cell]; simpa using h3
theorem table_below (ti tr : TypeId) (w : World) (l : List KRow) : Below w.heap.size w (tableWorld ti tr w l) :=
  (allocs_below _ w w (Below.refl _ _)).alloc (by rw [allocs_size]; omega) _
end Go.Proofs.Ytmlldjcbijoheaa

/- Expressions as a plain tree, and what is measured of them. No program in sight. -/
namespace Go.Proofs.Ytmlldjcbijoheaa

/-- an expression: kind, name, the ratio (its sign, numerator, denominator as limbs), arguments, position -/
inductive Expr where
  | mk (kind : Int) (name : ByteArray) (neg : Bool) (num den : List Int) (args : List Expr) (pos : Int)

namespace Expr
def kind : Expr → Int | mk k _ _ _ _ _ _ => k
def name : Expr → ByteArray | mk _ n _ _ _ _ _ => n
def neg : Expr → Bool | mk _ _ b _ _ _ _ => b
def num : Expr → List Int | mk _ _ _ a _ _ _ => a
def den : Expr → List Int | mk _ _ _ _ a _ _ => a
def args : Expr → List Expr | mk _ _ _ _ _ a _ => a
def pos : Expr → Int | mk _ _ _ _ _ _ p => p
end Expr

mutual
/-- the number of expressions in an expression -/
def Expr.count : Expr → Nat
  | .mk _ _ _ _ _ args _ => 1 + Expr.counts args
def Expr.counts : List Expr → Nat
  | [] => 0
  | e :: es => e.count + Expr.counts es
end
mutual
/-- the number of levels -/
def Expr.depth : Expr → Nat
  | .mk _ _ _ _ _ args _ => Expr.depths args + 1
def Expr.depths : List Expr → Nat
  | [] => 0
  | e :: es => max e.depth (Expr.depths es)
end
def hasName (l : List ByteArray) (s : ByteArray) : Bool := l.any fun t => decide (t = s)
theorem hasName_iff {l : List ByteArray} {s : ByteArray} : hasName l s = true ↔ s ∈ l := by simp [hasName]
theorem hasName_more (l : List ByteArray) (x s : ByteArray) : hasName (l ++ [x]) s = (hasName l s || decide (x = s)) := by simp [hasName]
/-- a name is added where it is not yet -/
def addName (l : List ByteArray) (s : ByteArray) : List ByteArray := if hasName l s = true then l else l ++ [s]
def addNames (l ss : List ByteArray) : List ByteArray := ss.foldl addName l
mutual
/-- the names of an expression are added to a list -/
def Expr.collect : List ByteArray → Expr → List ByteArray
  | l, .mk k n _ _ _ args _ => Expr.collects (if k = 1 then addName l n else l) args
def Expr.collects : List ByteArray → List Expr → List ByteArray
  | l, [] => l
  | l, e :: es => Expr.collects (Expr.collect l e) es
end
mutual
/-- the names as the reference lists them -/
def Expr.names : Expr → List ByteArray
  | .mk k n _ _ _ args _ => Expr.namess (if k = 1 then [n] else []) args
def Expr.namess : List ByteArray → List Expr → List ByteArray
  | l, [] => l
  | l, e :: es => Expr.namess (addNames l (Expr.names e)) es
end

theorem Expr.count_eq (e : Expr) : e.count = 1 + Expr.counts e.args := by cases e; simp [Expr.count, Expr.args]
theorem Expr.depth_eq (e : Expr) : e.depth = Expr.depths e.args + 1 := by cases e; simp [Expr.depth, Expr.args]
theorem Expr.collect_eq (l : List ByteArray) (e : Expr) : Expr.collect l e = Expr.collects (if e.kind = 1 then addName l e.name else l) e.args := by cases e; rfl
theorem Expr.names_eq (e : Expr) : e.names = Expr.namess (if e.kind = 1 then [e.name] else []) e.args := by cases e; rfl

theorem counts_append (a b : List Expr) : Expr.counts (a ++ b) = Expr.counts a + Expr.counts b := by
  induction a with
  | nil => simp [Expr.counts]
  | cons x a ih => simp [Expr.counts, ih, Nat.add_assoc]
theorem counts_mem {e : Expr} {l : List Expr} (h : e ∈ l) : e.count ≤ Expr.counts l := by
  induction l with
  | nil => cases h
  | cons x l ih =>
    simp only [Expr.counts]
    rcases List.mem_cons.1 h with rfl | h
    · omega
    · have := ih h; omega
theorem count_arg {e x : Expr} (h : x ∈ e.args) : x.count < e.count := by
  have := counts_mem h
  rw [Expr.count_eq e]; omega
theorem depths_append (a b : List Expr) : Expr.depths (a ++ b) = max (Expr.depths a) (Expr.depths b) := by
  induction a with
  | nil => simp [Expr.depths]
  | cons x a ih => simp [Expr.depths, ih, Nat.max_assoc]
theorem depths_mem {e : Expr} {l : List Expr} (h : e ∈ l) : e.depth ≤ Expr.depths l := by
  induction l with
  | nil => cases h
  | cons x l ih =>
    simp only [Expr.depths]
    rcases List.mem_cons.1 h with rfl | h
    · omega
    · have := ih h; omega
theorem collects_append (l : List ByteArray) (a b : List Expr) : Expr.collects l (a ++ b) = Expr.collects (Expr.collects l a) b := by
  induction a generalizing l with
  | nil => simp [Expr.collects]
  | cons x a ih => simp [Expr.collects, ih]
theorem namess_append (l : List ByteArray) (a b : List Expr) : Expr.namess l (a ++ b) = Expr.namess (Expr.namess l a) b := by
  induction a generalizing l with
  | nil => simp [Expr.namess]
  | cons x a ih => simp [Expr.namess, ih]

/-! ### the depth is at most the count -/
theorem depth_pos (e : Expr) : 1 ≤ e.depth := by rw [Expr.depth_eq]; omega
mutual
theorem depth_le_count : ∀ e : Expr, e.depth ≤ e.count
  | .mk _ _ _ _ _ args _ => by
    have := depths_le_counts args
    simp only [Expr.depth, Expr.count]; omega
theorem depths_le_counts : ∀ l : List Expr, Expr.depths l ≤ Expr.counts l
  | [] => by simp [Expr.depths, Expr.counts]
  | e :: es => by
    have h1 := depth_le_count e
    have h2 := depths_le_counts es
    simp only [Expr.depths, Expr.counts]; omega
end

/-! ### both lists of names are one -/
theorem mem_addName {l : List ByteArray} {s x : ByteArray} : x ∈ addName l s ↔ x ∈ l ∨ x = s := by
  unfold addName
  split
  · rename_i h
    rw [hasName_iff] at h
    constructor
    · exact .inl
    · rintro (h1 | rfl) <;> assumption
  · simp
theorem mem_addNames {l ss : List ByteArray} {x : ByteArray} : x ∈ addNames l ss ↔ x ∈ l ∨ x ∈ ss := by
  induction ss generalizing l with
  | nil => simp [addNames]
  | cons s ss ih =>
    have : addNames l (s :: ss) = addNames (addName l s) ss := rfl
    rw [this, ih, mem_addName]
    simp [or_assoc]
theorem addNames_append (l a b : List ByteArray) : addNames l (a ++ b) = addNames (addNames l a) b := by simp [addNames]
theorem addNames_add (l m : List ByteArray) (x : ByteArray) : addNames l (addName m x) = addName (addNames l m) x := by
  unfold addName
  by_cases h : x ∈ m
  · rw [if_pos (hasName_iff.2 h), if_pos (hasName_iff.2 (mem_addNames.2 (.inr h)))]
  · rw [if_neg (fun e => h (hasName_iff.1 e)), addNames_append]
    rfl
theorem addNames_addNames (l m xs : List ByteArray) : addNames l (addNames m xs) = addNames (addNames l m) xs := by
  induction xs generalizing m with
  | nil => rfl
  | cons x xs ih =>
    show addNames l (addNames (addName m x) xs) = addNames (addName (addNames l m) x) xs
    rw [ih, addNames_add]
mutual
theorem collect_names : ∀ (e : Expr) (l : List ByteArray), Expr.collect l e = addNames l e.names
  | .mk k n _ _ _ args _, l => by
    have h := collects_namess args (if k = 1 then [n] else []) l
    simp only [Expr.collect, Expr.names]
    rw [← h]
    congr 1
    split
    · simp [addNames]
    · simp [addNames]
theorem collects_namess : ∀ (es : List Expr) (m l : List ByteArray), Expr.collects (addNames l m) es = addNames l (Expr.namess m es)
  | [], m, l => by simp [Expr.collects, Expr.namess]
  | e :: es, m, l => by
    have h1 := collect_names e (addNames l m)
    have h2 := collects_namess es (addNames m e.names) l
    simp only [Expr.collects, Expr.namess]
    rw [h1, ← h2, addNames_addNames]
end
/-- every list of the reference has each name once, so adding it to nothing gives it back -/
def Once (l : List ByteArray) : Prop := addNames [] l = l
theorem once_addNames (m xs : List ByteArray) (h : Once m) : Once (addNames m xs) := by
  unfold Once at *
  rw [addNames_addNames, h]
mutual
theorem once_names : ∀ e : Expr, Once e.names
  | .mk k n _ _ _ args _ => by
    simp only [Expr.names]
    refine once_namess args _ ?_
    split
    · simp [Once, addNames, addName, hasName]
    · simp [Once, addNames]
theorem once_namess : ∀ (es : List Expr) (m : List ByteArray), Once m → Once (Expr.namess m es)
  | [], m, h => by simpa [Expr.namess] using h
  | e :: es, m, h => by
    simp only [Expr.namess]
    exact once_namess es _ (once_addNames m _ h)
end
theorem collect_nil (e : Expr) : Expr.collect [] e = e.names := by
  rw [collect_names]; exact once_names e
theorem length_addName (l : List ByteArray) (s : ByteArray) : (addName l s).length ≤ l.length + 1 := by
  unfold addName; split <;> simp
theorem length_addNames (l ss : List ByteArray) : (addNames l ss).length ≤ l.length + ss.length := by
  induction ss generalizing l with
  | nil => simp [addNames]
  | cons s ss ih =>
    have h1 := ih (addName l s)
    have h2 := length_addName l s
    show (addNames (addName l s) ss).length ≤ _
    simp only [List.length_cons]; omega
mutual
theorem length_names : ∀ e : Expr, e.names.length ≤ e.count
  | .mk k n _ _ _ args _ => by
    have := length_namess args (if k = 1 then [n] else [])
    have h2 : (if k = 1 then [n] else []).length ≤ 1 := by split <;> simp
    simp only [Expr.names, Expr.count]; omega
theorem length_namess : ∀ (es : List Expr) (m : List ByteArray), (Expr.namess m es).length ≤ m.length + Expr.counts es
  | [], m => by simp [Expr.namess]
  | e :: es, m => by
    have h1 := length_names e
    have h2 := length_namess es (addNames m e.names)
    have h3 := length_addNames m e.names
    simp only [Expr.namess, Expr.counts]; omega
end
mutual
theorem length_collect : ∀ (e : Expr) (l : List ByteArray), (Expr.collect l e).length ≤ l.length + e.count
  | e, l => by
    have h1 := length_names e
    have h2 := length_addNames l e.names
    rw [collect_names]; omega
end
theorem length_collects (es : List Expr) (l : List ByteArray) : (Expr.collects l es).length ≤ l.length + Expr.counts es := by
  have h := collects_namess es [] l
  have h1 := length_namess es []
  have h2 := length_addNames l (Expr.namess [] es)
  have h3 : addNames l [] = l := rfl
  rw [h3] at h
  rw [h]; simp at h1; omega
theorem counts_ge_length : ∀ l : List Expr, l.length ≤ Expr.counts l
  | [] => by simp
  | x :: l => by
    have h1 := counts_ge_length l
    have h2 := Expr.count_eq x
    simp only [Expr.counts, List.length_cons]
    omega
end Go.Proofs.Ytmlldjcbijoheaa

/- Expressions in memory read as plain trees. -/
namespace Go.Proofs.Ytmlldjcbijoheaa
open Go.RowKit

/-- an expression's value: its slices are given by address and capacity -/
def Expr.val (e : Expr) (na : Option Addr) (nc : Nat) (da : Option Addr) (dc : Nat) (aa : Option Addr) (ac : Nat) : Value :=
  .agg #[.int .i64 e.kind, .string e.name, .bool e.neg, .slice na e.num.length nc, .slice da e.den.length dc, .slice aa e.args.length ac, .int .i64 e.pos]

/-- the seven cells of an expression -/
def ExprC (w : World) (b o : Nat) (na : Option Addr) (nc : Nat) (da : Option Addr) (dc : Nat) (aa : Option Addr) (ac : Nat) (x : Expr) : Prop :=
  w.cell? ⟨b, o, none⟩ = some (.int .i64 x.kind) ∧ w.cell? ⟨b, o + 1, none⟩ = some (.string x.name) ∧ w.cell? ⟨b, o + 2, none⟩ = some (.bool x.neg) ∧
  w.cell? ⟨b, o + 3, none⟩ = some (.slice na x.num.length nc) ∧ w.cell? ⟨b, o + 4, none⟩ = some (.slice da x.den.length dc) ∧
  w.cell? ⟨b, o + 5, none⟩ = some (.slice aa x.args.length ac) ∧ w.cell? ⟨b, o + 6, none⟩ = some (.int .i64 x.pos)
theorem ExprC.ext {w w' : World} {b o : Nat} {na : Option Addr} {nc : Nat} {da : Option Addr} {dc : Nat} {aa : Option Addr} {ac : Nat} {y : Expr} (h : ExprC w b o na nc da dc aa ac y) (x : Ext w w') : ExprC w' b o na nc da dc aa ac y := by
  obtain ⟨c0, c1, c2, c3, c4, c5, c6⟩ := h
  exact ⟨x _ _ c0, x _ _ c1, x _ _ c2, x _ _ c3, x _ _ c4, x _ _ c5, x _ _ c6⟩

/-- the cells of an expression stay, whatever is laid behind them -/
theorem ExprC.held {w : World} {b : Nat} {na : Option Addr} {nc : Nat} {da : Option Addr} {dc : Nat} {aa : Option Addr} {ac : Nat} {x : Expr} (h : ExprC w b 0 na nc da dc aa ac x) :
    (∀ w', Below w.heap.size w w' → w'.cell? ⟨b, 0, none⟩ = some (.int .i64 x.kind)) ∧ (∀ w', Below w.heap.size w w' → w'.cell? ⟨b, 1, none⟩ = some (.string x.name)) ∧
    (∀ w', Below w.heap.size w w' → w'.cell? ⟨b, 2, none⟩ = some (.bool x.neg)) ∧ (∀ w', Below w.heap.size w w' → w'.cell? ⟨b, 3, none⟩ = some (.slice na x.num.length nc)) ∧
    (∀ w', Below w.heap.size w w' → w'.cell? ⟨b, 4, none⟩ = some (.slice da x.den.length dc)) ∧ (∀ w', Below w.heap.size w w' → w'.cell? ⟨b, 5, none⟩ = some (.slice aa x.args.length ac)) ∧
    (∀ w', Below w.heap.size w w' → w'.cell? ⟨b, 6, none⟩ = some (.int .i64 x.pos)) := by
  obtain ⟨c0, c1, c2, c3, c4, c5, c6⟩ := h
  simp only [Nat.zero_add] at *
  exact ⟨fun w' k => Ext.below k _ _ c0, fun w' k => Ext.below k _ _ c1, fun w' k => Ext.below k _ _ c2, fun w' k => Ext.below k _ _ c3, fun w' k => Ext.below k _ _ c4, fun w' k => Ext.below k _ _ c5, fun w' k => Ext.below k _ _ c6⟩

/-- what an expression's slices read as, so many levels deep -/
def ExprR : Nat → World → Option Addr → Nat → Option Addr → Nat → Option Addr → Nat → Expr → Prop
  | 0, _, _, _, _, _, _, _, _ => False
  | d + 1, w, na, nc, da, dc, aa, ac, e => InInt e.kind ∧ InInt e.pos ∧ e.name.size ≤ maxLen ∧ NatR w na nc e.num ∧ NatR w da dc e.den ∧
    SlR 7 (fun w b o x => ∃ na nc da dc aa ac, ExprC w b o na nc da dc aa ac x ∧ ExprR d w na nc da dc aa ac x) w aa ac e.args

/-- an expression in memory -/
def ExprE (d : Nat) (w : World) (b o : Nat) (x : Expr) : Prop := ∃ na nc da dc aa ac, ExprC w b o na nc da dc aa ac x ∧ ExprR d w na nc da dc aa ac x

section
variable {d : Nat} {w w' : World} {na : Option Addr} {nc : Nat} {da : Option Addr} {dc : Nat} {aa : Option Addr} {ac : Nat}
theorem ExprR.succ {e : Expr} (h : ExprR d w na nc da dc aa ac e) : ∃ d', d = d' + 1 ∧ InInt e.kind ∧ InInt e.pos ∧ e.name.size ≤ maxLen ∧ NatR w na nc e.num ∧ NatR w da dc e.den ∧ SlR 7 (ExprE d') w aa ac e.args := by
  cases d with
  | zero => exact h.elim
  | succ d => exact ⟨d, rfl, h⟩
theorem ExprR.of_succ {e : Expr} (h : ExprR (d + 1) w na nc da dc aa ac e) : InInt e.kind ∧ InInt e.pos ∧ e.name.size ≤ maxLen ∧ NatR w na nc e.num ∧ NatR w da dc e.den ∧ SlR 7 (ExprE d) w aa ac e.args := h
theorem ExprR.mk {e : Expr} (h1 : InInt e.kind) (h2 : InInt e.pos) (h3 : e.name.size ≤ maxLen) (h4 : NatR w na nc e.num) (h5 : NatR w da dc e.den) (h6 : SlR 7 (ExprE d) w aa ac e.args) :
    ExprR (d + 1) w na nc da dc aa ac e := ⟨h1, h2, h3, h4, h5, h6⟩
end
theorem ExprR.ext {d : Nat} : ∀ {w w' : World} {na : Option Addr} {nc : Nat} {da : Option Addr} {dc : Nat} {aa : Option Addr} {ac : Nat} {e : Expr}, ExprR d w na nc da dc aa ac e → Ext w w' → ExprR d w' na nc da dc aa ac e := by
  induction d with
  | zero => intro w w' na nc da dc aa ac e h _; exact h.elim
  | succ d ih =>
    intro w w' na nc da dc aa ac e h x
    obtain ⟨h1, h2, h3, h4, h5, h6⟩ := h.of_succ
    refine .mk h1 h2 h3 (h4.ext x) (h5.ext x) (h6.mono fun b o y _ he => ?_)
    obtain ⟨na, nc, da, dc, aa, ac, hc, hr⟩ := he
    exact ⟨na, nc, da, dc, aa, ac, hc.ext x, ih hr x⟩
theorem ExprR.more {d : Nat} : ∀ {d' : Nat} {w : World} {na : Option Addr} {nc : Nat} {da : Option Addr} {dc : Nat} {aa : Option Addr} {ac : Nat} {e : Expr}, ExprR d w na nc da dc aa ac e → d ≤ d' → ExprR d' w na nc da dc aa ac e := by
  induction d with
  | zero => intro d' w na nc da dc aa ac e h _; exact h.elim
  | succ d ih =>
    intro d' w na nc da dc aa ac e h hd
    obtain ⟨d', rfl⟩ : ∃ k, d' = k + 1 := ⟨d' - 1, by omega⟩
    obtain ⟨h1, h2, h3, h4, h5, h6⟩ := h.of_succ
    refine .mk h1 h2 h3 h4 h5 (h6.mono fun b o y _ he => ?_)
    obtain ⟨na, nc, da, dc, aa, ac, hc, hr⟩ := he
    exact ⟨na, nc, da, dc, aa, ac, hc, ih hr (by omega)⟩
theorem ExprE.ext {d : Nat} {w w' : World} {b o : Nat} {y : Expr} (he : ExprE d w b o y) (x : Ext w w') : ExprE d w' b o y := by
  obtain ⟨na, nc, da, dc, aa, ac, hc, hr⟩ := he
  exact ⟨na, nc, da, dc, aa, ac, hc.ext x, hr.ext x⟩
theorem exprs_ext {d : Nat} {w w' : World} {a : Option Addr} {c : Nat} {es : List Expr} (h : SlR 7 (ExprE d) w a c es) (x : Ext w w') : SlR 7 (ExprE d) w' a c es := h.mono fun _ _ _ _ he => he.ext x

end Go.Proofs.Ytmlldjcbijoheaa

/- Whether two expressions are equal, apart from positions. No program in sight. -/
namespace Go.Proofs.Ytmlldjcbijoheaa

mutual
def Expr.eqv : Expr → Expr → Bool
  | .mk k n b nu de al _, .mk k' n' b' nu' de' al' _ => decide (k = k') && (decide (n = n') && (decide (b = b' ∧ nu = nu' ∧ de = de') && (decide (al.length = al'.length) && Expr.eqvs al al')))
def Expr.eqvs : List Expr → List Expr → Bool
  | x :: xs, y :: ys => x.eqv y && Expr.eqvs xs ys
  | _, _ => true
end
def Expr.sameRat (a b : Expr) : Prop := a.neg = b.neg ∧ a.num = b.num ∧ a.den = b.den
instance (a b : Expr) : Decidable (a.sameRat b) := by unfold Expr.sameRat; infer_instance
theorem Expr.eqv_eq (a b : Expr) : a.eqv b = (decide (a.kind = b.kind) && (decide (a.name = b.name) && (decide (a.sameRat b) && (decide (a.args.length = b.args.length) && Expr.eqvs a.args b.args)))) := by
  cases a; cases b; rfl
theorem eqvs_snoc : ∀ (xs ys : List Expr) (k : Nat) (x y : Expr), xs[k]? = some x → ys[k]? = some y → Expr.eqvs (xs.take (k + 1)) (ys.take (k + 1)) = (Expr.eqvs (xs.take k) (ys.take k) && x.eqv y)
  | [], _, k, x, y, h, _ => by simp at h
  | _ :: _, [], k, x, y, _, h => by simp at h
  | a :: xs, b :: ys, 0, x, y, h, h' => by simp at h h'; subst h h'; simp [Expr.eqvs]
  | a :: xs, b :: ys, k + 1, x, y, h, h' => by
    have := eqvs_snoc xs ys k x y (by simpa using h) (by simpa using h')
    simp only [List.take_succ_cons, Expr.eqvs] at this ⊢
    rw [this, Bool.and_assoc]
theorem eqvs_false : ∀ (xs ys : List Expr) (k : Nat) (x y : Expr), xs[k]? = some x → ys[k]? = some y → x.eqv y = false → Expr.eqvs xs ys = false
  | [], _, k, x, y, h, _, _ => by simp at h
  | _ :: _, [], k, x, y, _, h, _ => by simp at h
  | a :: xs, b :: ys, 0, x, y, h, h', e => by simp at h h'; subst h h'; simp [Expr.eqvs, e]
  | a :: xs, b :: ys, k + 1, x, y, h, h', e => by
    have := eqvs_false xs ys k x y (by simpa using h) (by simpa using h') e
    simp [Expr.eqvs, this]
mutual
theorem eqv_refl : ∀ e : Expr, e.eqv e = true
  | .mk k n b nu de al p => by simp [Expr.eqv, eqvs_refl al]
theorem eqvs_refl : ∀ l : List Expr, Expr.eqvs l l = true
  | [] => rfl
  | x :: xs => by simp [Expr.eqvs, eqv_refl x, eqvs_refl xs]
end
end Go.Proofs.Ytmlldjcbijoheaa

/- Steps of a program, plain. No program in sight. -/
namespace Go.Proofs.Ytmlldjcbijoheaa

structure Stmt where
  kind : Int
  names : List ByteArray
  expr : Expr
  pos : Int
def Stmt.eqv (s t : Stmt) : Bool := decide (s.kind = t.kind) && (decide (s.names.length = t.names.length) && (s.expr.eqv t.expr && decide (s.names = t.names)))
def progEqv (p q : List Stmt) : Bool := decide (p.length = q.length) && (p.zip q).all fun x => x.1.eqv x.2
theorem zip_all_snoc {α : Type} {f : α × α → Bool} (p q : List α) (k : Nat) (x y : α) (hx : p[k]? = some x) (hy : q[k]? = some y) : ((p.take (k + 1)).zip (q.take (k + 1))).all f = (((p.take k).zip (q.take k)).all f && f (x, y)) := by
  have e1 : p.take (k + 1) = p.take k ++ [x] := by rw [List.take_add_one, hx]; rfl
  have e2 : q.take (k + 1) = q.take k ++ [y] := by rw [List.take_add_one, hy]; rfl
  have h1 : k < p.length := (List.getElem?_eq_some_iff.1 hx).1
  have h2 : k < q.length := (List.getElem?_eq_some_iff.1 hy).1
  rw [e1, e2, List.zip_append (by simp; omega)]
  simp
theorem zip_all_false {α : Type} {f : α × α → Bool} : ∀ (p q : List α) (k : Nat) (x y : α), p[k]? = some x → q[k]? = some y → f (x, y) = false → (p.zip q).all f = false
  | [], _, k, x, y, h, _, _ => by simp at h
  | _ :: _, [], k, x, y, _, h, _ => by simp at h
  | a :: p, b :: q, 0, x, y, h, h', e => by simp at h h'; subst h h'; simp [e]
  | a :: p, b :: q, k + 1, x, y, h, h', e => by
    have := zip_all_false p q k x y (by simpa using h) (by simpa using h') e
    simp [this]
theorem take_snoc_ne {α : Type} {p q : List α} {k : Nat} {x y : α} (hx : p[k]? = some x) (hy : q[k]? = some y) (h : x ≠ y) : p ≠ q := fun e => by subst e; rw [hx] at hy; injection hy with hy; exact h hy
theorem take_snoc_eq {α : Type} {p q : List α} {k : Nat} {x : α} (hx : p[k]? = some x) (hy : q[k]? = some x) (h : p.take k = q.take k) : p.take (k + 1) = q.take (k + 1) := by
  rw [List.take_add_one, List.take_add_one, hx, hy, h]
end Go.Proofs.Ytmlldjcbijoheaa
