/- Rational numbers that came in, opened. -/
import Derived.Test.YtmlldjcbijoheaaDoorOpen
namespace Go.Proofs.YtmlldjcbijoheaaDoor
open Go.ChangeShapes Go.WideShapes Go.ChangeAt Go.RowKit

theorem cellsRat : Tryd.prog.cellsOf 38 = 3 := by kernel_rfl
theorem cellsInt : Tryd.prog.cellsOf 36 = 2 := by kernel_rfl
theorem cellsNat : Tryd.prog.cellsOf 34 = 1 := by kernel_rfl
theorem cellsInts : Tryd.prog.cellsOf 32 = 1 := by kernel_rfl
theorem cellsI : Tryd.prog.cellsOf 3 = 1 := by kernel_rfl
theorem cellsB : Tryd.prog.cellsOf 4 = 1 := by kernel_rfl
theorem cellsS : Tryd.prog.cellsOf 9 = 1 := by kernel_rfl
theorem cellsU16 : Tryd.prog.cellsOf 79 = 1 := by kernel_rfl

theorem list_sum_ones {α : Type} (l : List α) : (l.map fun _ => 1).sum = l.length := by induction l with
  | nil => rfl
  | cons x l ih => simp only [List.map_cons, List.sum_cons, ih, List.length_cons]; omega

section
variable {H : Type} {enc : TypeId × Value → H} {W : World} {sp : Nat → Bool} {held : Bool} {n : Nat}
theorem open_nat {cs : List Value} {y : DataW H × List MemPlace} (h : DataW.trod enc Tryd.prog W 0 sp held n 34 cs = some y) :
    ∃ a c zs, cs = [.slice a (List.length zs) c] ∧ NatR W a c zs ∧ zs.length + 1 ≤ Rows.uptoBulk y.1 := by
  obtain ⟨a, c, zs, h1, h2, h3⟩ := open_sl Tryd.underlying34 cellsU16 (by omega) h (IntE .u16) (fun _ => 1) (fun m cs' y b o _ ht _ hc => conv_int Tryd.underlying79 m cs' y b o ht hc)
  rw [list_sum_ones] at h3
  exact ⟨a, c, zs, h1, h2, h3⟩
theorem open_intsl {cs : List Value} {y : DataW H × List MemPlace} (h : DataW.trod enc Tryd.prog W 0 sp held n 32 cs = some y) :
    ∃ a c zs, cs = [.slice a (List.length zs) c] ∧ IntsR W a c zs ∧ zs.length + 1 ≤ Rows.uptoBulk y.1 := by
  obtain ⟨a, c, zs, h1, h2, h3⟩ := open_sl Tryd.underlying32 cellsI (by omega) h (IntE .i64) (fun _ => 1) (fun m cs' y b o _ ht _ hc => conv_int Tryd.underlying3 m cs' y b o ht hc)
  rw [list_sum_ones] at h3
  exact ⟨a, c, zs, h1, h2, h3⟩
theorem open_strsl {cs : List Value} {y : DataW H × List MemPlace} (h : DataW.trod enc Tryd.prog W 0 sp held n 28 cs = some y) :
    ∃ a c zs, cs = [.slice a (List.length zs) c] ∧ StrsR W a c zs ∧ (zs.map fun s => s.size + 1).sum + 1 ≤ Rows.uptoBulk y.1 :=
  open_sl Tryd.underlying28 cellsS (by omega) h StrE (fun s => s.size + 1) (fun m cs' y b o _ ht _ hc => conv_str Tryd.underlying9 m cs' y b o ht hc)
theorem open_intst {cs : List Value} {y : DataW H × List MemPlace} (h : DataW.trod enc Tryd.prog W 0 sp held n 36 cs = some y) :
    ∃ b a c zs, cs = [.bool b, .slice a (List.length zs) c] ∧ NatR W a c zs ∧ zs.length + 2 ≤ Rows.uptoBulk y.1 := by
  obtain ⟨xs, m, rfl, rfl, hcl, hxl, hf⟩ := DataW.trod_struct Tryd.underlying36 h
  rw [cellsInt] at hcl
  obtain ⟨c0, c1, rfl⟩ := len2 hcl
  obtain ⟨y0, y1, rfl⟩ := len2 (show xs.length = 2 from hxl)
  · have h0 := hf 0 _ rfl
    have h1 := hf 1 _ rfl
    simp [cellsB, cellsNat] at h0 h1
    obtain ⟨b, e0, rfl⟩ := DataW.trod_bool Tryd.underlying4 h0
    obtain ⟨a, c, zs, e1, h2, h3⟩ := open_nat h1
    simp at e0 e1; subst e0; subst e1
    refine ⟨b, a, c, zs, rfl, h2, ?_⟩
    simp [Rows.uptoBulk, Rows.uptoBulkAll] at h3 ⊢
    omega
theorem open_rat {cs : List Value} {y : DataW H × List MemPlace} (h : DataW.trod enc Tryd.prog W 0 sp held n 38 cs = some y) :
    ∃ b na nc num da dc den, cs = [.bool b, .slice na (List.length num) nc, .slice da (List.length den) dc] ∧ NatR W na nc num ∧ NatR W da dc den ∧ num.length + den.length + 2 ≤ Rows.uptoBulk y.1 := by
  obtain ⟨xs, m, rfl, rfl, hcl, hxl, hf⟩ := DataW.trod_struct Tryd.underlying38 h
  rw [cellsRat] at hcl
  obtain ⟨c0, c1, c2, rfl⟩ := len3 hcl
  obtain ⟨y0, y1, rfl⟩ := len2 (show xs.length = 2 from hxl)
  · have h0 := hf 0 _ rfl
    have h1 := hf 1 _ rfl
    simp [cellsInt, cellsNat] at h0 h1
    obtain ⟨b, na, nc, num, e0, h2, h3⟩ := open_intst h0
    obtain ⟨da, dc, den, e1, h4, h5⟩ := open_nat h1
    simp at e0 e1
    obtain ⟨rfl, rfl⟩ := e0
    subst e1
    refine ⟨b, na, nc, num, da, dc, den, rfl, h2, h4, ?_⟩
    simp [Rows.uptoBulk, Rows.uptoBulkAll] at h3 h5 ⊢
    omega
end
end Go.Proofs.YtmlldjcbijoheaaDoor

