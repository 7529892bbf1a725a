/- Words for memory that is only read: integers, strings and structs in slices, each as a plain list. No function of the program in sight. -/
import Derived.WalkKit
import Derived.WalkSpells
import Derived.WalkLawsBesides
import Derived.ProofKit
import Derived.LoopTactic
import Derived.Handy
import Derived.Lib.Hide
namespace Go.Proofs.YtmlldjcbijoheaaDoor
open Go.RowKit

theorem ret_int {k : IntKind} {a b : Int} (h : a = b) : Ending.returned (.int k a) = .returned (.int k b) := by rw [h]
theorem ret_bool {a b : Bool} (h : a = b) : Ending.returned (.bool a) = .returned (.bool b) := by rw [h]
theorem ret_str {a b : ByteArray} (h : a = b) : Ending.returned (.string a) = .returned (.string b) := by rw [h]
theorem val_int {k : IntKind} {a b : Int} (h : a = b) : Value.int k a = .int k b := by rw [h]

theorem take_more {α : Type} {xs : List α} {k : Nat} {x : α} (h : xs[k]? = some x) : xs.take (k + 1) = xs.take k ++ [x] := by rw [List.take_add_one, h]; rfl
theorem take_all {α : Type} {xs : List α} {k : Nat} (h : ¬ k < xs.length) : xs.take k = xs := List.take_of_length_le (by omega)
theorem lt_of_get {α : Type} {xs : List α} {k : Nat} {x : α} (h : xs[k]? = some x) : k < xs.length := (List.getElem?_eq_some_iff.1 h).1
theorem get_of_lt {α : Type} {xs : List α} {k : Nat} (h : k < xs.length) : ∃ x, xs[k]? = some x := ⟨_, List.getElem?_eq_getElem h⟩

/-! ### Strings -/
theorem toList_loop (b : ByteArray) : ∀ (n i : Nat) (r : List UInt8), b.size - i = n → ByteArray.toList.loop b i r = r.reverse ++ b.data.toList.drop i := by
  intro n
  induction n with
  | zero =>
    intro i r h
    unfold ByteArray.toList.loop
    rw [if_neg (by omega)]
    have : b.data.toList.length ≤ i := by have : b.data.toList.length = b.size := by rw [Array.length_toList]; rfl
                                          omega
    rw [List.drop_eq_nil_of_le this, List.append_nil]
  | succ n ih =>
    intro i r h
    unfold ByteArray.toList.loop
    rw [if_pos (by omega)]
    have hl : i < b.data.toList.length := by have : b.data.toList.length = b.size := by rw [Array.length_toList]; rfl
                                             omega
    rw [ih (i + 1) _ (by omega), List.drop_eq_getElem_cons hl]
    have : b.get! i = b.data.toList[i] := by
      have hs : i < b.data.size := by simpa using hl
      simp [ByteArray.get!, getElem!_pos b.data i hs]
    simp [this]
theorem toList_data (b : ByteArray) : b.toList = b.data.toList := by
  have h := toList_loop b _ 0 [] rfl
  simpa [ByteArray.toList] using h
theorem str_eq {a b : ByteArray} : a.toList = b.toList ↔ a = b := by
  rw [toList_data, toList_data]
  constructor
  · intro h
    cases a; cases b
    simp at h
    rw [h]
  · intro h; rw [h]
theorem str_beq (a b : ByteArray) : (a.toList == b.toList) = decide (a = b) := by
  rw [Bool.eq_iff_iff]; simp [str_eq]
theorem str_empty {a : ByteArray} : a.toList = [] ↔ a = ⟨#[]⟩ := by
  rw [← str_eq (a := a)]; rw [toList_data ⟨#[]⟩]
theorem str_isEmpty (a : ByteArray) : a.toList.isEmpty = decide (a = ⟨#[]⟩) := by
  rw [Bool.eq_iff_iff]; simp [str_empty]
theorem str_bne (a b : ByteArray) : (a.toList != b.toList) = !decide (a = b) := by
  rw [bne, str_beq]

/-! ### Cells that stay -/
/-- every cell that can be read stays as it is -/
def Ext (w w' : World) : Prop := ∀ (a : Addr) (v : Value), w.cell? a = some v → w'.cell? a = some v
theorem Ext.refl (w : World) : Ext w w := fun _ _ h => h
theorem Ext.trans {a b c : World} (h : Ext a b) (k : Ext b c) : Ext a c := fun p v e => k p v (h p v e)
theorem Ext.alloc {w w' : World} (h : Ext w w') (o : Obj) : Ext w (w'.alloc o) := fun p v e => by
  have e' := h p v e
  rw [World.cell?_alloc_lt w' o p (World.block_lt_of_cell? w' p e')]; exact e'
theorem Ext.drew {w w' : World} (h : Ext w w') : Ext w w'.drew := h
theorem Ext.drewN {w w' : World} (h : Ext w w') (n : Nat) : Ext w (w'.drewN n) := h
theorem Ext.below {w w' : World} (h : Below w.heap.size w w') : Ext w w' := fun p v e => by
  rw [h.cell (World.block_lt_of_cell? w p e)]; exact e
theorem Ext.more {w w' w'' : World} (h : Ext w w') (k : Below w'.heap.size w' w'') : Ext w w'' := h.trans (.below k)
theorem Ext.setCell {w w' : World} (h : Ext w w') {p : Addr} (hp : w.heap.size ≤ p.block) (u : Value) : Ext w (w'.setCell p u) := fun q v e => by
  have hq := World.block_lt_of_cell? w q e
  rw [World.cell?_setCell_other w' p q u (fun e => by subst e; omega)]; exact h q v e

theorem below_then {w w1 w2 : World} (h : Below w.heap.size w w1) (k : Below w1.heap.size w1 w2) : Below w.heap.size w w2 := h.trans (k.mono h.size)
theorem below_then1 {w w1 w2 : World} {o : Obj} (h : Below w.heap.size w w1) (k : Below (w1.alloc o).heap.size (w1.alloc o) w2) : Below w.heap.size w w2 := below_then (h.alloc h.size o) k
theorem ext_alloc2 (w : World) (o o' : Obj) : Ext w ((w.alloc o).alloc o') := ((Ext.refl w).alloc o).alloc o'
theorem below_then2 {w w1 w2 : World} {o o' : Obj} (h : Below w.heap.size w w1) (k : Below ((w1.alloc o).alloc o').heap.size ((w1.alloc o).alloc o') w2) : Below w.heap.size w w2 :=
  below_then ((h.alloc h.size o).alloc (by have := h.size; simp; omega) o') k
theorem ext_alloc (w : World) (o : Obj) : Ext w (w.alloc o) := (Ext.refl w).alloc o

/-- a cell that stays, whatever is laid behind it -/
theorem held {w : World} {a : Addr} {v : Value} (h : w.cell? a = some v) : ∀ w', Below w.heap.size w w' → w'.cell? a = some v := fun _ k => Ext.below k _ _ h

/-! ### Slices that read as lists -/
/-- the slice '.slice a xs.length cap' reads as the list xs: each element has sz cells, and 'E' says what they hold -/
def SlR {α : Type} (sz : Nat) (E : World → Nat → Nat → α → Prop) (w : World) (a : Option Addr) (cap : Nat) (xs : List α) : Prop :=
  xs.length ≤ cap ∧ cap ≤ maxLen ∧ ∀ (k : Nat) (x : α), xs[k]? = some x → ∃ b off, a = some ⟨b, off, none⟩ ∧ E w b (off + k * sz) x

section
variable {α : Type} {sz : Nat} {E E' : World → Nat → Nat → α → Prop} {w w' : World} {a : Option Addr} {cap : Nat} {xs : List α}
theorem SlR.nil : SlR sz E w none 0 [] := ⟨Nat.le_refl _, by simp [maxLen], fun k x h => by simp at h⟩
theorem SlR.mono (h : SlR sz E w a cap xs) (hE : ∀ b o x, x ∈ xs → E w b o x → E' w' b o x) : SlR sz E' w' a cap xs := by
  obtain ⟨h1, h2, h3⟩ := h
  refine ⟨h1, h2, fun k x hx => ?_⟩
  obtain ⟨b, off, ha, he⟩ := h3 k x hx
  exact ⟨b, off, ha, hE _ _ _ (List.mem_of_getElem? hx) he⟩
theorem SlR.len (h : SlR sz E w a cap xs) : xs.length ≤ 9223372036854775807 := by have h1 := h.1; have h2 := h.2.1; unfold maxLen at h2; omega
theorem SlR.at_ (h : SlR sz E w a cap xs) {k : Nat} (hk : k < xs.length) : ∃ b off, a = some ⟨b, off, none⟩ ∧ E w b (off + k * sz) xs[k] :=
  h.2.2 k _ (List.getElem?_eq_getElem hk)
end

def IntE (k : IntKind) (w : World) (b o : Nat) (x : Int) : Prop := w.cell? ⟨b, o, none⟩ = some (.int k x) ∧ (Lit.int k x).wf = true
def StrE (w : World) (b o : Nat) (x : ByteArray) : Prop := w.cell? ⟨b, o, none⟩ = some (.string x)
def BoolE (w : World) (b o : Nat) (x : Bool) : Prop := w.cell? ⟨b, o, none⟩ = some (.bool x)
theorem IntE.ext {k : IntKind} {w w' : World} {b o : Nat} {x : Int} (h : IntE k w b o x) (e : Ext w w') : IntE k w' b o x := ⟨e _ _ h.1, h.2⟩
theorem StrE.ext {w w' : World} {b o : Nat} {x : ByteArray} (h : StrE w b o x) (e : Ext w w') : StrE w' b o x := e _ _ h

def IntsR (w : World) (a : Option Addr) (cap : Nat) (xs : List Int) : Prop := SlR 1 (IntE .i64) w a cap xs
def NatR (w : World) (a : Option Addr) (cap : Nat) (xs : List Int) : Prop := SlR 1 (IntE .u16) w a cap xs
def StrsR (w : World) (a : Option Addr) (cap : Nat) (xs : List ByteArray) : Prop := SlR 1 StrE w a cap xs
section
variable {w w' : World} {a : Option Addr} {cap : Nat}
theorem IntsR.ext {xs : List Int} (h : IntsR w a cap xs) (e : Ext w w') : IntsR w' a cap xs := SlR.mono h fun _ _ _ _ h => h.ext e
theorem NatR.ext {xs : List Int} (h : NatR w a cap xs) (e : Ext w w') : NatR w' a cap xs := SlR.mono h fun _ _ _ _ h => h.ext e
theorem StrsR.ext {xs : List ByteArray} (h : StrsR w a cap xs) (e : Ext w w') : StrsR w' a cap xs := SlR.mono h fun _ _ _ _ h => h.ext e
end

/-- the bounds of Go's int -/
def InInt (x : Int) : Prop := -9223372036854775808 ≤ x ∧ x ≤ 9223372036854775807
theorem inInt_of {x : Int} (h : (Lit.int .i64 x).wf = true) : InInt x := by
  simpa [Lit.wf, IntKind.min, IntKind.max, IntKind.signed, IntKind.bits, InInt] using h
theorem wf_of {x : Int} (h : InInt x) : (Lit.int .i64 x).wf = true := by
  simpa [Lit.wf, IntKind.min, IntKind.max, IntKind.signed, IntKind.bits, InInt] using h
theorem u16_of {x : Int} (h : (Lit.int .u16 x).wf = true) : 0 ≤ x ∧ x ≤ 65535 := by
  simpa [Lit.wf, IntKind.min, IntKind.max, IntKind.signed, IntKind.bits] using h
theorem u16_wf {x : Int} (h : 0 ≤ x ∧ x ≤ 65535) : (Lit.int .u16 x).wf = true := by
  simpa [Lit.wf, IntKind.min, IntKind.max, IntKind.signed, IntKind.bits] using h

end Go.Proofs.YtmlldjcbijoheaaDoor

