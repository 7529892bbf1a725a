/- Slices of strings and of integers that a call makes itself: this program's types. -/
import Derived.Test.YtmlldjcbijoheaaDoorOwn
import Derived.Test.YtmlldjcbijoheaaDoorRows
import Derived.Deep.QuietTactic
import Derived.BigQuiet
namespace Go.Proofs.YtmlldjcbijoheaaDoor
open Go.RowKit

def strC (s : ByteArray) : List Value := [.string s]
def intC (x : Int) : List Value := [.int .i64 x]
theorem strC_len (s : ByteArray) : (strC s).length = 1 := rfl
theorem intC_len (s : Int) : (intC s).length = 1 := rfl
theorem strC_one (s : ByteArray) : ∀ u ∈ strC s, u.oneCell' = true := by simp [strC, Value.oneCell']
theorem intC_one (s : Int) : ∀ u ∈ intC s, u.oneCell' = true := by simp [intC, Value.oneCell']
theorem strC_cell {w : World} {b : Nat} {s : ByteArray} (h : w.cell? ⟨b, 0, none⟩ = some (.string s)) : ∀ j u, (strC s)[j]? = some u → w.cell? ⟨b, j, none⟩ = some u := by
  intro j u hu
  match j, hu with
  | 0, hu => simp [strC] at hu; subst hu; exact h
theorem intC_cell {w : World} {b : Nat} {s : Int} (h : w.cell? ⟨b, 0, none⟩ = some (.int .i64 s)) : ∀ j u, (intC s)[j]? = some u → w.cell? ⟨b, j, none⟩ = some u := by
  intro j u hu
  match j, hu with
  | 0, hu => simp [intC] at hu; subst hu; exact h
/-- the call owns a slice of strings -/
abbrev OwnS (B : Nat) (w : World) (a : Option Addr) (c : Nat) (l : List ByteArray) : Prop := Own strC 1 9 B w a c l
/-- the call owns a slice of integers -/
abbrev OwnI (B : Nat) (w : World) (a : Option Addr) (c : Nat) (l : List Int) : Prop := Own intC 1 3 B w a c l
theorem infoS : (Tryd.prog.info? 9).map (fun i => (i.zero, i.size, i.bytes)) = some (some (.string ⟨#[]⟩), 1, 16) := by kernel_rfl
theorem infoI : (Tryd.prog.info? 3).map (fun i => (i.zero, i.size, i.bytes)) = some (some (.int .i64 0), 1, 8) := by kernel_rfl
section
variable {B : Nat} {w : World} {a : Option Addr} {c : Nat}
theorem OwnS.at1 {l : List ByteArray} (h : OwnS B w a c l) {k : Nat} {x : ByteArray} (hx : l[k]? = some x) : ∃ g, a = some ⟨g, 0, none⟩ ∧ B ≤ g ∧ g < w.heap.size ∧ w.cell? ⟨g, k, none⟩ = some (.string x) := by
  obtain ⟨g, ha, hb, hlt, hc⟩ := h.at_ strC_len hx
  exact ⟨g, ha, hb, hlt, by simpa using hc 0 _ rfl⟩
theorem OwnI.at1 {l : List Int} (h : OwnI B w a c l) {k : Nat} {x : Int} (hx : l[k]? = some x) : ∃ g, a = some ⟨g, 0, none⟩ ∧ B ≤ g ∧ g < w.heap.size ∧ w.cell? ⟨g, k, none⟩ = some (.int .i64 x) := by
  obtain ⟨g, ha, hb, hlt, hc⟩ := h.at_ intC_len hx
  exact ⟨g, ha, hb, hlt, by simpa using hc 0 _ rfl⟩
theorem OwnS.reads1 {l : List ByteArray} (h : OwnS B w a c l) : StrsR w a c l :=
  Own.reads strC_len h fun g o x hx hc => show w.cell? _ = _ by simpa using hc 0 _ rfl
theorem OwnI.reads1 {l : List Int} (h : OwnI B w a c l) (hs : ∀ s ∈ l, InInt s) : IntsR w a c l :=
  Own.reads intC_len h fun g o x hx hc => ⟨by simpa using hc 0 _ rfl, wf_of (hs x hx)⟩
end

/-- 'l = append(l, s)', s a string -/
theorem append_str {B : Nat} {w : World} {l : List ByteArray} {ops : Array Oper} {rest : List Oper} {o : Oper} {act : Act} {Q : Exit → Act → World → Prop} (hgd : o.guard = none) (s y : Operand)
    (ho : o.op = .call { callee := .builtin .append, args := #[s, y], argTypes := #[28, 28] })
    (a : Option Addr) (c : Nat) (hs : act.eval s = .slice a l.length c) (hown : OwnS B w a c l)
    (x : ByteArray) (b c1 : Nat) (hy : act.eval y = .slice (some ⟨b, 0, none⟩) 1 c1) (hcell : w.cell? ⟨b, 0, none⟩ = some (.string x))
    (l2 : List ByteArray) (hl2 : l2 = l ++ [x]) (hlen : l2.length ≤ 16777216) (hB : B ≤ w.heap.size)
    (h : ∀ a' c' w', OwnS B w' a' c' l2 → w.grownBy w' (Value.ownBlock (.slice a l.length c)) → ((∃ g, a' = some ⟨g, 0, none⟩ ∧ (a = some ⟨g, 0, none⟩ ∨ g = w.heap.size))) →
      wpList Tryd.prog ops Q rest (act.put o.dst (.slice a' l2.length c')) w') : wpList Tryd.prog ops Q (o :: rest) act w :=
  wpList_append_1 hgd s y 28 ho Tryd.underlying28 infoS rfl (by omega) (by omega) strC_len a c hs hown x (strC_one x) b c1 hy (strC_cell hcell) l2 hl2 hlen hB h
/-- 'l = append(l, n)', n an integer -/
theorem append_int {B : Nat} {w : World} {l : List Int} {ops : Array Oper} {rest : List Oper} {o : Oper} {act : Act} {Q : Exit → Act → World → Prop} (hgd : o.guard = none) (s y : Operand)
    (ho : o.op = .call { callee := .builtin .append, args := #[s, y], argTypes := #[32, 32] })
    (a : Option Addr) (c : Nat) (hs : act.eval s = .slice a l.length c) (hown : OwnI B w a c l)
    (x : Int) (b c1 : Nat) (hy : act.eval y = .slice (some ⟨b, 0, none⟩) 1 c1) (hcell : w.cell? ⟨b, 0, none⟩ = some (.int .i64 x))
    (l2 : List Int) (hl2 : l2 = l ++ [x]) (hlen : l2.length ≤ 16777216) (hB : B ≤ w.heap.size)
    (h : ∀ a' c' w', OwnI B w' a' c' l2 → w.grownBy w' (Value.ownBlock (.slice a l.length c)) → ((∃ g, a' = some ⟨g, 0, none⟩ ∧ (a = some ⟨g, 0, none⟩ ∨ g = w.heap.size))) →
      wpList Tryd.prog ops Q rest (act.put o.dst (.slice a' l2.length c')) w') : wpList Tryd.prog ops Q (o :: rest) act w :=
  wpList_append_1 hgd s y 32 ho Tryd.underlying32 infoI rfl (by omega) (by omega) intC_len a c hs hown x (intC_one x) b c1 hy (intC_cell hcell) l2 hl2 hlen hB h

end Go.Proofs.YtmlldjcbijoheaaDoor

