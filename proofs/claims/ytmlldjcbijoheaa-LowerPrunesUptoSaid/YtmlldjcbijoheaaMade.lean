/- What a call has made is read in any world that holds the cells that were there and the new ones. No function of the program in sight. -/
import Derived.Test.YtmlldjcbijoheaaOwn
namespace Go.Proofs.Ytmlldjcbijoheaa
open Go.RowKit

/-- V holds the cells of w that lie in blocks from B on -/
def New (B : Nat) (w V : World) : Prop := ∀ p v, B ≤ p.block → w.cell? p = some v → V.cell? p = some v
/-- the same, but for the block of the slice at a -/
def NewBut (B : Nat) (a : Option Addr) (w V : World) : Prop := ∀ p v, B ≤ p.block → (∀ g, a = some g → p.block ≠ g.block) → w.cell? p = some v → V.cell? p = some v
theorem New.refl (B : Nat) (w : World) : New B w w := fun _ _ _ h => h
theorem New.base {B B' : Nat} {w V : World} (h : New B w V) (hB : B ≤ B') : New B' w V := fun p v hp hc => h p v (Nat.le_trans hB hp) hc
theorem New.but {B : Nat} {w V : World} (h : New B w V) (a : Option Addr) : NewBut B a w V := fun p v hp _ hc => h p v hp hc
/-- behind laying blocks and an append to the row at a, which now lies at a' -/
theorem NewBut.back {B : Nat} {w w1 w2 V : World} {a a' : Option Addr} {n c : Nat} (h : NewBut B a' w2 V) (hb : Below w.heap.size w w1) (hg : w1.grownBy w2 (Value.ownBlock (.slice a n c)))
    (ha : ∃ g, a' = some ⟨g, 0, none⟩ ∧ (a = some ⟨g, 0, none⟩ ∨ g = w1.heap.size)) : NewBut B a w V := fun p v hp hne hc => by
  obtain ⟨g, rfl, hga⟩ := ha
  have hlt := World.block_lt_of_cell? w p hc
  have h1 : w1.cell? p = some v := (hb.cell hlt).trans hc
  have hlt1 := World.block_lt_of_cell? w1 p h1
  refine h p v hp (fun g' e => ?_) (hg.cell h1 (fun e => ?_))
  · injection e with e
    subst e
    rcases hga with h2 | h2
    · exact hne _ h2
    · simp; omega
  · cases a with
    | none => simp [Value.ownBlock] at e
    | some g0 => exact hne _ rfl (by simpa [Value.ownBlock] using e)
/-- what a call made ahead of the append -/
theorem NewBut.fresh {B B' : Nat} {w1 w2 w3 V : World} {a a' : Option Addr} {n c : Nat} (h : NewBut B a' w3 V) (hB : B ≤ B') (hb : Below w1.heap.size w1 w2) (hg : w2.grownBy w3 (Value.ownBlock (.slice a n c)))
    (ha : ∃ g, a' = some ⟨g, 0, none⟩ ∧ (a = some ⟨g, 0, none⟩ ∨ g = w2.heap.size)) (hlt : ∀ g, a = some g → g.block < B') : New B' w1 V := fun p v hp hc => by
  refine NewBut.back h hb hg ha p v (Nat.le_trans hB hp) (fun g e => ?_) hc
  have := hlt g e
  omega
section
variable {α : Type} {f : α → List Value} {sz : Nat} {t : TypeId} {B : Nat} {w V : World} {a : Option Addr} {c : Nat} {l : List α}
theorem Own.readsIn {β : Type} {E : World → Nat → Nat → β → Prop} (g : α → β) (hf : ∀ x, (f x).length = sz) (h : Own f sz t B w a c l) (hV : New B w V)
    (hE : ∀ b o x, x ∈ l → (∀ j u, (f x)[j]? = some u → V.cell? ⟨b, o + j, none⟩ = some u) → E V b o (g x)) : SlR sz E V a c (l.map g) := by
  refine ⟨by simpa using h.cap.1, h.cap.2, fun k y hy => ?_⟩
  rw [List.getElem?_map] at hy
  obtain ⟨x, hx, rfl⟩ := Option.map_eq_some_iff.1 hy
  obtain ⟨b, ha, hB, _, hc⟩ := h.at_ hf hx
  exact ⟨b, 0, ha, hE _ _ _ (List.mem_of_getElem? hx) (fun j u hu => hV _ _ hB (by simpa using hc j u hu))⟩
end
section
variable {α : Type} {f : α → List Value} {sz : Nat} {t : TypeId} {B : Nat} {w V : World} {a : Option Addr} {c : Nat} {l : List α}
/-- a cell below the row's base is set -/
theorem Own.far (h : Own f sz t B w a c l) {p : Addr} (hp : p.block < B) (u : Value) : Own f sz t B (w.setCell p u) a c l := by
  refine ⟨h.1, ?_⟩
  rcases h.2 with hn | ⟨g, cap, cur, e, hg, hh, rest⟩
  · exact .inl hn
  · exact .inr ⟨g, cap, cur, e, hg, (Below.heap_setCell w p u _ (by omega)).trans hh, rest⟩
end
theorem NewBut.unset {B : Nat} {a : Option Addr} {w V : World} {p : Addr} {u : Value} (h : NewBut B a (w.setCell p u) V) (hp : p.block < B) : NewBut B a w V := fun q v hq hne hc =>
  h q v hq hne ((World.cell?_setCell_other w p q u (fun e => by subst e; omega)).trans hc)
theorem New.unset {B : Nat} {w V : World} {p : Addr} {u : Value} (h : New B (w.setCell p u) V) (hp : p.block < B) : New B w V := fun q v hq hc =>
  h q v hq ((World.cell?_setCell_other w p q u (fun e => by subst e; omega)).trans hc)
theorem blk_at1 (w : World) (o : Obj) (t : TypeId) (cs : Array Value) : Blk ((w.alloc o).alloc (.cells cs t)) (w.heap.size + 1) t cs := by have := Blk.new (w.alloc o) t cs; simpa using this
theorem blk_at2 (w : World) (o o2 : Obj) (t : TypeId) (cs : Array Value) : Blk (((w.alloc o).alloc o2).alloc (.cells cs t)) (w.heap.size + 1 + 1) t cs := by have := Blk.new ((w.alloc o).alloc o2) t cs; simpa using this
theorem New.below {B : Nat} {w w' V : World} (h : New B w' V) (hb : Below w.heap.size w w') : New B w V := fun p v hp hc => h p v hp ((hb.cell (World.block_lt_of_cell? w p hc)).trans hc)
theorem New.unalloc {B : Nat} {w V : World} {o : Obj} (h : New B (w.alloc o) V) : New B w V := fun p v hp hc => h p v hp ((World.cell?_alloc_lt w o p (World.block_lt_of_cell? w p hc)).trans hc)
end Go.Proofs.Ytmlldjcbijoheaa
