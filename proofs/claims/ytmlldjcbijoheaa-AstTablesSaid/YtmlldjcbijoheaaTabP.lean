/- The table of kinds, plain, and tables in memory. No program in sight. -/
import Derived.Test.YtmlldjcbijoheaaMade
namespace Go.Proofs.Ytmlldjcbijoheaa
open Go.RowKit

structure KRow where
  kind : Int
  sort : Int
  word : ByteArray
  params : List Int

def kindTable : List KRow := [
  ⟨10, 1, ⟨#[109, 105, 100, 112, 111, 105, 110, 116]⟩, [1, 1]⟩,
  ⟨11, 1, ⟨#[100, 105, 118, 105, 100, 101]⟩, [1, 1]⟩,
  ⟨12, 1, ⟨#[114, 101, 102, 108, 101, 99, 116]⟩, [1, 1]⟩,
  ⟨13, 1, ⟨#[109, 105, 114, 114, 111, 114]⟩, [1, 2]⟩,
  ⟨14, 1, ⟨#[102, 111, 111, 116]⟩, [1, 2]⟩,
  ⟨15, 1, ⟨#[109, 101, 101, 116]⟩, [2, 2]⟩,
  ⟨16, 1, ⟨#[111, 110]⟩, [0]⟩,
  ⟨17, 1, ⟨#[111, 116, 104, 101, 114]⟩, [1, 1, 1]⟩,
  ⟨18, 1, ⟨#[99, 111, 109, 109, 111, 110]⟩, [1, 1, 1]⟩,
  ⟨19, 1, ⟨#[99, 101, 110, 116, 101, 114]⟩, [1, 1, 1]⟩,
  ⟨20, 1, ⟨#[115, 104, 105, 102, 116]⟩, [1, 1, 1]⟩,
  ⟨21, 1, ⟨#[116, 117, 114, 110]⟩, [1, 1]⟩,
  ⟨22, 1, ⟨#[99, 117, 116]⟩, [2, 3]⟩,
  ⟨23, 1, ⟨#[99, 114, 111, 115, 115]⟩, [3, 3]⟩,
  ⟨24, 1, ⟨#[97, 112, 101, 120]⟩, [1, 1]⟩,
  ⟨40, 2, ⟨#[108, 105, 110, 101]⟩, [1, 1]⟩,
  ⟨41, 2, ⟨#[112, 97, 114, 97, 108, 108, 101, 108]⟩, [1, 2]⟩,
  ⟨42, 2, ⟨#[112, 101, 114, 112, 101, 110, 100, 105, 99, 117, 108, 97, 114]⟩, [1, 2]⟩,
  ⟨43, 2, ⟨#[98, 105, 115, 101, 99, 116, 111, 114]⟩, [1, 1]⟩,
  ⟨50, 3, ⟨#[99, 105, 114, 99, 108, 101]⟩, [1, 1]⟩,
  ⟨51, 3, ⟨#[99, 105, 114, 99, 117, 109]⟩, [1, 1, 1]⟩,
  ⟨60, 4, ⟨#[99, 111, 108, 108, 105, 110, 101, 97, 114]⟩, [1, 1, 1]⟩,
  ⟨61, 4, ⟨#[112, 97, 114, 97, 108, 108, 101, 108]⟩, [2, 2]⟩,
  ⟨62, 4, ⟨#[112, 101, 114, 112, 101, 110, 100, 105, 99, 117, 108, 97, 114]⟩, [2, 2]⟩,
  ⟨63, 4, ⟨#[99, 111, 110, 103, 114, 117, 101, 110, 116]⟩, [1, 1, 1, 1]⟩,
  ⟨64, 4, ⟨#[109, 105, 100, 112, 111, 105, 110, 116]⟩, [1, 1, 1]⟩,
  ⟨65, 4, ⟨#[99, 111, 110, 99, 121, 99, 108, 105, 99]⟩, [1, 1, 1, 1]⟩,
  ⟨66, 4, ⟨#[97, 110, 103, 108, 101]⟩, [1, 1, 1, 1, 1, 1]⟩,
  ⟨67, 4, ⟨#[115, 97, 109, 101]⟩, [1, 1]⟩,
  ⟨68, 4, ⟨#[114, 97, 116, 105, 111]⟩, [1, 1, 1, 1]⟩]

def findRow (k : Int) : KRow := (kindTable.find? fun r => r.kind == k).getD ⟨0, 0, ⟨#[]⟩, []⟩
def findWord (w : ByteArray) : KRow := (kindTable.find? fun r => r.word == w).getD ⟨0, 0, ⟨#[]⟩, []⟩
theorem find_here {α : Type} {p : α → Bool} {l : List α} {k : Nat} {x : α} (hx : l[k]? = some x) (hp : p x = true) (hn : ∀ y ∈ l.take k, p y = false) : l.find? p = some x := by
  rw [List.find?_eq_some_iff_append]
  refine ⟨hp, l.take k, l.drop (k + 1), ?_, fun y hy => by simp [hn y hy]⟩
  have h1 : k < l.length := lt_of_get hx
  have h2 : l.drop k = x :: l.drop (k + 1) := by
    rw [List.drop_eq_getElem_cons h1]; congr 1
    rw [List.getElem?_eq_getElem h1] at hx; injection hx
  rw [← h2, List.take_append_drop]
theorem find_none {α : Type} {p : α → Bool} {l : List α} (hn : ∀ y ∈ l, p y = false) : l.find? p = none := by
  rw [List.find?_eq_none]; intro y hy; simp [hn y hy]

def allocs : World → List Obj → World
  | w, [] => w
  | w, o :: os => allocs (w.alloc o) os
theorem allocs_size : ∀ (os : List Obj) (w : World), (allocs w os).heap.size = w.heap.size + os.length
  | [], w => rfl
  | o :: os, w => by simp [allocs, allocs_size os]; omega
theorem allocs_below : ∀ (os : List Obj) (w0 w : World), Below w0.heap.size w0 w → Below w0.heap.size w0 (allocs w os)
  | [], w0, w, h => h
  | o :: os, w0, w, h => allocs_below os w0 (w.alloc o) (h.alloc h.size o)
theorem allocs_keep : ∀ (os : List Obj) (w : World) (g : Nat) (t : TypeId) (cs : Array Value), Blk w g t cs → Blk (allocs w os) g t cs
  | [], _, _, _, _, h => h
  | o :: os, w, g, t, cs, h => allocs_keep os (w.alloc o) g t cs (h.alloc o)
theorem allocs_at : ∀ (os : List Obj) (w : World) (k : Nat) (t : TypeId) (cs : Array Value), os[k]? = some (.cells cs t) → Blk (allocs w os) (w.heap.size + k) t cs
  | [], w, k, t, cs, h => by simp at h
  | o :: os, w, 0, t, cs, h => by
    simp at h; subst h
    exact allocs_keep os _ _ _ _ (Blk.new w t cs)
  | o :: os, w, k + 1, t, cs, h => by
    have := allocs_at os (w.alloc o) k t cs (by simpa using h)
    have e : (w.alloc o).heap.size + k = w.heap.size + (k + 1) := by simp; omega
    rw [e] at this
    exact this
/-- a slice of ints in a block of its own -/
def intObj (t : TypeId) (l : List Int) : Obj := .cells (l.map (Value.int .i64)).toArray t
def rowVals : Nat → List KRow → List Value
  | _, [] => []
  | b, r :: rs => .int .i64 r.kind :: .int .i64 r.sort :: .string r.word :: .slice (some ⟨b, 0, none⟩) r.params.length r.params.length :: rowVals (b + 1) rs
def tableWorld (ti tr : TypeId) (w : World) (l : List KRow) : World := (allocs w (l.map fun r => intObj ti r.params)).alloc (.cells (rowVals w.heap.size l).toArray tr)
/-- a row in memory -/
def KRowE (w : World) (b o : Nat) (r : KRow) : Prop := ∃ a c, w.cell? ⟨b, o, none⟩ = some (.int .i64 r.kind) ∧ w.cell? ⟨b, o + 1, none⟩ = some (.int .i64 r.sort) ∧ w.cell? ⟨b, o + 2, none⟩ = some (.string r.word) ∧
  w.cell? ⟨b, o + 3, none⟩ = some (.slice a r.params.length c) ∧ IntsR w a c r.params
theorem KRowE.ext {w w' : World} {b o : Nat} {r : KRow} (h : KRowE w b o r) (x : Ext w w') : KRowE w' b o r := by
  obtain ⟨a, c, h0, h1, h2, h3, h4⟩ := h
  exact ⟨a, c, x _ _ h0, x _ _ h1, x _ _ h2, x _ _ h3, h4.ext x⟩
theorem intsR_blk {w : World} {g : Nat} {t : TypeId} {l : List Int} (h : Blk w g t (l.map (Value.int .i64)).toArray) (hi : ∀ x ∈ l, InInt x) (hl : l.length ≤ maxLen) : IntsR w (some ⟨g, 0, none⟩) l.length l := by
  refine ⟨Nat.le_refl _, hl, fun k x hx => ⟨g, 0, rfl, ?_, wf_of (hi x (List.mem_of_getElem? hx))⟩⟩
  have := h.cell (0 + k * 1)
  rw [this]
  simp [hx]
theorem rowVals_at : ∀ (l : List KRow) (b k : Nat) (r : KRow), l[k]? = some r → (rowVals b l)[k * 4]? = some (.int .i64 r.kind) ∧ (rowVals b l)[k * 4 + 1]? = some (.int .i64 r.sort) ∧ (rowVals b l)[k * 4 + 2]? = some (.string r.word) ∧
    (rowVals b l)[k * 4 + 3]? = some (.slice (some ⟨b + k, 0, none⟩) r.params.length r.params.length)
  | [], b, k, r, h => by simp at h
  | x :: l, b, 0, r, h => by simp at h; subst h; simp [rowVals]
  | x :: l, b, k + 1, r, h => by
    have := rowVals_at l (b + 1) k r (by simpa using h)
    have e : (k + 1) * 4 = k * 4 + 4 := by omega
    rw [e]
    simp only [rowVals]
    have f : b + 1 + k = b + (k + 1) := by omega
    rw [f] at this
    exact this
theorem table_reads (ti tr : TypeId) (w : World) (l : List KRow) (hl : l.length ≤ maxLen) (hp : ∀ r ∈ l, (∀ x ∈ r.params, InInt x) ∧ r.params.length ≤ maxLen) : SlR 4 KRowE (tableWorld ti tr w l) (some ⟨w.heap.size + l.length, 0, none⟩) l.length l := by
  refine ⟨Nat.le_refl _, hl, fun k r hr => ⟨w.heap.size + l.length, 0, rfl, ?_⟩⟩
  have hk := lt_of_get hr
  have hB : Blk (tableWorld ti tr w l) (w.heap.size + l.length) tr (rowVals w.heap.size l).toArray := by
    have := Blk.new (allocs w (l.map fun r => intObj ti r.params)) tr (rowVals w.heap.size l).toArray
    rw [allocs_size, List.length_map] at this
    exact this
  have hP : Blk (tableWorld ti tr w l) (w.heap.size + k) ti (r.params.map (Value.int .i64)).toArray :=
    Blk.alloc (allocs_at (l.map fun (r : KRow) => intObj ti r.params) w k ti (r.params.map (Value.int .i64)).toArray (by rw [List.getElem?_map, hr]; rfl)) _
  obtain ⟨h0, h1, h2, h3⟩ := rowVals_at l w.heap.size k r hr
  have hm := List.mem_of_getElem? hr
  refine ⟨some ⟨w.heap.size + k, 0, none⟩, r.params.length, ?_, ?_, ?_, ?_, intsR_blk hP (hp r hm).1 (hp r hm).2⟩
  · rw [hB.cell]; simpa using h0
  · rw [hB.cell]; simpa using h1
  · rw [hB.cell]; simpa using h2
  · rw [hB.cell]; simpa using h3
theorem table_below (ti tr : TypeId) (w : World) (l : List KRow) : Below w.heap.size w (tableWorld ti tr w l) :=
  (allocs_below _ w w (Below.refl _ _)).alloc (by rw [allocs_size]; omega) _
end Go.Proofs.Ytmlldjcbijoheaa
