/- A range over a string beside other blocks. No function of the program in sight. -/
import Derived.Test.YtmlldjcbijoheaaMade
import Derived.Laws.RangeString
namespace Go.Proofs.Ytmlldjcbijoheaa
open Go.RowKit
/-- block g is an iterator over s that stands at pos -/
def Itr (w : World) (g : Nat) (s : ByteArray) (pos : Nat) : Prop := w.heap[g]? = some (.stringIter s pos)
def setItr (w : World) (g : Nat) (s : ByteArray) (pos : Nat) : World := { w with heap := w.heap.setIfInBounds g (.stringIter s pos) }
theorem run_next_at {P : Program} (w : World) (g : Nat) (s : ByteArray) (pos : Nat) (ty : TypeId) (hi : Itr w g s pos) (h : pos < s.size) (ha : (s[pos]'h).toNat < 128) :
    (Instr.next (.pointer (some ⟨g, 0, none⟩)) true ty).run P w = .ok (.tuple #[.bool true, .int .i64 pos, .int .i32 (s[pos]'h).toNat]) (setItr w g s (pos + 1)) := by
  unfold Itr at hi
  simp only [Instr.next, getObj, setObj, Sem.run_bind, Sem.run, hi, Result.andThen, h, if_true, decode_ascii s pos h ha]
  simp [goInt, setItr]
theorem run_next_stop {P : Program} (w : World) (g : Nat) (s : ByteArray) (pos : Nat) (ty : TypeId) (hi : Itr w g s pos) (h : ¬ pos < s.size) :
    (Instr.next (.pointer (some ⟨g, 0, none⟩)) true ty).run P w = .ok (.tuple #[.bool false]) w := by
  unfold Itr at hi
  simp [Instr.next, getObj, Sem.run, hi, h]
theorem Itr.lt {w : World} {g : Nat} {s : ByteArray} {pos : Nat} (h : Itr w g s pos) : g < w.heap.size := (Array.getElem?_eq_some_iff.1 h).1
theorem Itr.below {w w' : World} {g : Nat} {s : ByteArray} {pos : Nat} (h : Itr w g s pos) (hb : Below w.heap.size w w') : Itr w' g s pos := (hb.block g h.lt).trans h
theorem Itr.grown {w w' : World} {g : Nat} {s : ByteArray} {pos : Nat} {row : Option Nat} (h : Itr w g s pos) (hb : w.grownBy w' row) (hg : some g ≠ row) : Itr w' g s pos := (hb.block g h.lt hg).trans h
theorem Itr.set {w : World} {g : Nat} {s : ByteArray} {pos : Nat} (h : Itr w g s pos) (pos' : Nat) : Itr (setItr w g s pos') g s pos' := by
  unfold Itr setItr
  simp [h.lt]
theorem setItr_size (w : World) (g : Nat) (s : ByteArray) (pos : Nat) : (setItr w g s pos).heap.size = w.heap.size := by simp [setItr]
theorem setItr_far (w : World) (g : Nat) (s : ByteArray) (pos : Nat) (k : Nat) (hk : k ≠ g) : (setItr w g s pos).heap[k]? = w.heap[k]? := by
  simp [setItr, Ne.symm hk]
theorem below_setItr {B : Nat} {a w : World} (h : Below B a w) {g : Nat} (hg : B ≤ g) (s : ByteArray) (pos : Nat) : Below B a (setItr w g s pos) :=
  h.trans ⟨rfl, rfl, rfl, by rw [setItr_size]; exact Nat.le_refl _, fun k hk => setItr_far _ _ _ _ _ (by omega)⟩
theorem Own.setItr {α : Type} {f : α → List Value} {sz : Nat} {t : TypeId} {B : Nat} {w : World} {a : Option Addr} {c : Nat} {l : List α} (h : Own f sz t B w a c l) {g : Nat} (hg : g < B) (s : ByteArray) (pos : Nat) :
    Own f sz t B (setItr w g s pos) a c l := by
  refine ⟨h.1, ?_⟩
  rcases h.2 with hn | ⟨g', cap, cur, e, hg', hh, rest⟩
  · exact .inl hn
  · exact .inr ⟨g', cap, cur, e, hg', (setItr_far w g s pos _ (by omega)).trans hh, rest⟩
theorem setItr_cell (w : World) (g : Nat) (s : ByteArray) (pos : Nat) (p : Addr) (hp : p.block ≠ g) : (setItr w g s pos).cell? p = w.cell? p := by
  unfold World.cell?
  rw [setItr_far _ _ _ _ _ hp]
end Go.Proofs.Ytmlldjcbijoheaa
