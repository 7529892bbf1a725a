/- strings.Split, strings.TrimSuffix and strings.Builder, laid at this program. -/
import Derived.WalkKit
import Derived.WalkSpells
import Derived.WalkLawsBesides
import Derived.ProofKit
import Derived.LoopTactic
import Derived.Handy
import Derived.Lib.Hide
import Derived.OwnWalk
import Derived.Maps.AppendAt
import Derived.Deep.AppendLies
import Derived.Deep.DeepCutAuto
import Derived.Test.YtmeplgagpnligaaDoorProg
import Derived.Ground.NamesProg
import Derived.Shelf.Lays
import Derived.Shelf.LaysM
import Derived.Shelf.Strings.SplitShaped
import Derived.Shelf.Strings.Prefix
import Derived.Shelf.Strings.BuilderK

/- Words for memory that is only read: integers, strings and structs in slices, each as a plain list. No function of the program in sight. -/
namespace Go.Proofs.YtmeplgagpnligaaDoor
open Go.RowKit

theorem ret_int {k : IntKind} {a b : Int} (h : a = b) : Ending.returned (.int k a) = .returned (.int k b) := by rw [h]
theorem ret_bool {a b : Bool} (h : a = b) : Ending.returned (.bool a) = .returned (.bool b) := by rw [h]
theorem ret_str {a b : ByteArray} (h : a = b) : Ending.returned (.string a) = .returned (.string b) := by rw [h]
theorem val_int {k : IntKind} {a b : Int} (h : a = b) : Value.int k a = .int k b := by rw [h]

theorem take_more {α : Type} {xs : List α} {k : Nat} {x : α} (h : xs[k]? = some x) : xs.take (k + 1) = xs.take k ++ [x] := by rw [List.take_add_one, h]; rfl
theorem take_all {α : Type} {xs : List α} {k : Nat} (h : ¬ k < xs.length) : xs.take k = xs := List.take_of_length_le (by omega)
theorem lt_of_get {α : Type} {xs : List α} {k : Nat} {x : α} (h : xs[k]? = some x) : k < xs.length := (List.getElem?_eq_some_iff.1 h).1
theorem get_of_lt {α : Type} {xs : List α} {k : Nat} (h : k < xs.length) : ∃ x, xs[k]? = some x := ⟨_, List.getElem?_eq_getElem h⟩

/-! ### Strings -/
theorem toList_loop (b : ByteArray) : ∀ (n i : Nat) (r : List UInt8), b.size - i = n → ByteArray.toList.loop b i r = r.reverse ++ b.data.toList.drop i := by
  intro n
  induction n with
  | zero =>
    intro i r h
    unfold ByteArray.toList.loop
    rw [if_neg (by omega)]
    have : b.data.toList.length ≤ i := by have : b.data.toList.length = b.size := by rw [Array.length_toList]; rfl
                                          omega
    rw [List.drop_eq_nil_of_le this, List.append_nil]
  | succ n ih =>
    intro i r h
    unfold ByteArray.toList.loop
    rw [if_pos (by omega)]
    have hl : i < b.data.toList.length := by have : b.data.toList.length = b.size := by rw [Array.length_toList]; rfl
                                             omega
    rw [ih (i + 1) _ (by omega), List.drop_eq_getElem_cons hl]
    have : b.get! i = b.data.toList[i] := by
      have hs : i < b.data.size := by simpa using hl
      simp [ByteArray.get!, getElem!_pos b.data i hs]
    simp [this]
theorem toList_data (b : ByteArray) : b.toList = b.data.toList := by
  have h := toList_loop b _ 0 [] rfl
  simpa [ByteArray.toList] using h
theorem str_eq {a b : ByteArray} : a.toList = b.toList ↔ a = b := by
  rw [toList_data, toList_data]
  constructor
  · intro h
    cases a; cases b
    simp at h
    rw [h]
  · intro h; rw [h]
theorem str_beq (a b : ByteArray) : (a.toList == b.toList) = decide (a = b) := by
  rw [Bool.eq_iff_iff]; simp [str_eq]
theorem str_empty {a : ByteArray} : a.toList = [] ↔ a = ⟨#[]⟩ := by
  rw [← str_eq (a := a)]; rw [toList_data ⟨#[]⟩]
theorem str_isEmpty (a : ByteArray) : a.toList.isEmpty = decide (a = ⟨#[]⟩) := by
  rw [Bool.eq_iff_iff]; simp [str_empty]
theorem str_bne (a b : ByteArray) : (a.toList != b.toList) = !decide (a = b) := by
  rw [bne, str_beq]

/-! ### Cells that stay -/
/-- every cell that can be read stays as it is -/
def Ext (w w' : World) : Prop := ∀ (a : Addr) (v : Value), w.cell? a = some v → w'.cell? a = some v
theorem Ext.refl (w : World) : Ext w w := fun _ _ h => h
theorem Ext.trans {a b c : World} (h : Ext a b) (k : Ext b c) : Ext a c := fun p v e => k p v (h p v e)
theorem Ext.alloc {w w' : World} (h : Ext w w') (o : Obj) : Ext w (w'.alloc o) := fun p v e => by
  have e' := h p v e
  rw [World.cell?_alloc_lt w' o p (World.block_lt_of_cell? w' p e')]; exact e'
theorem Ext.drew {w w' : World} (h : Ext w w') : Ext w w'.drew := h
theorem Ext.drewN {w w' : World} (h : Ext w w') (n : Nat) : Ext w (w'.drewN n) := h
theorem Ext.below {w w' : World} (h : Below w.heap.size w w') : Ext w w' := fun p v e => by
  rw [h.cell (World.block_lt_of_cell? w p e)]; exact e
theorem Ext.more {w w' w'' : World} (h : Ext w w') (k : Below w'.heap.size w' w'') : Ext w w'' := h.trans (.below k)
theorem Ext.setCell {w w' : World} (h : Ext w w') {p : Addr} (hp : w.heap.size ≤ p.block) (u : Value) : Ext w (w'.setCell p u) := fun q v e => by
  have hq := World.block_lt_of_cell? w q e
  rw [World.cell?_setCell_other w' p q u (fun e => by subst e; omega)]; exact h q v e

theorem below_then {w w1 w2 : World} (h : Below w.heap.size w w1) (k : Below w1.heap.size w1 w2) : Below w.heap.size w w2 := h.trans (k.mono h.size)
theorem below_then1 {w w1 w2 : World} {o : Obj} (h : Below w.heap.size w w1) (k : Below (w1.alloc o).heap.size (w1.alloc o) w2) : Below w.heap.size w w2 := below_then (h.alloc h.size o) k
theorem ext_alloc2 (w : World) (o o' : Obj) : Ext w ((w.alloc o).alloc o') := ((Ext.refl w).alloc o).alloc o'
theorem below_then2 {w w1 w2 : World} {o o' : Obj} (h : Below w.heap.size w w1) (k : Below ((w1.alloc o).alloc o').heap.size ((w1.alloc o).alloc o') w2) : Below w.heap.size w w2 :=
  below_then ((h.alloc h.size o).alloc (by have := h.size; simp; omega) o') k
theorem ext_alloc (w : World) (o : Obj) : Ext w (w.alloc o) := (Ext.refl w).alloc o

/-- a cell that stays, whatever is laid behind it -/
theorem held {w : World} {a : Addr} {v : Value} (h : w.cell? a = some v) : ∀ w', Below w.heap.size w w' → w'.cell? a = some v := fun _ k => Ext.below k _ _ h

/-! ### Slices that read as lists -/
/-- the slice '.slice a xs.length cap' reads as the list xs: each element has sz cells, and 'E' says what they hold -/
def SlR {α : Type} (sz : Nat) (E : World → Nat → Nat → α → Prop) (w : World) (a : Option Addr) (cap : Nat) (xs : List α) : Prop :=
  xs.length ≤ cap ∧ cap ≤ maxLen ∧ ∀ (k : Nat) (x : α), xs[k]? = some x → ∃ b off, a = some ⟨b, off, none⟩ ∧ E w b (off + k * sz) x

section
variable {α : Type} {sz : Nat} {E E' : World → Nat → Nat → α → Prop} {w w' : World} {a : Option Addr} {cap : Nat} {xs : List α}
theorem SlR.nil : SlR sz E w none 0 [] := ⟨Nat.le_refl _, by simp [maxLen], fun k x h => by simp at h⟩
theorem SlR.mono (h : SlR sz E w a cap xs) (hE : ∀ b o x, x ∈ xs → E w b o x → E' w' b o x) : SlR sz E' w' a cap xs := by
  obtain ⟨h1, h2, h3⟩ := h
  refine ⟨h1, h2, fun k x hx => ?_⟩
  obtain ⟨b, off, ha, he⟩ := h3 k x hx
  exact ⟨b, off, ha, hE _ _ _ (List.mem_of_getElem? hx) he⟩
theorem SlR.len (h : SlR sz E w a cap xs) : xs.length ≤ 9223372036854775807 := by have h1 := h.1; have h2 := h.2.1; unfold maxLen at h2; omega
theorem SlR.at_ (h : SlR sz E w a cap xs) {k : Nat} (hk : k < xs.length) : ∃ b off, a = some ⟨b, off, none⟩ ∧ E w b (off + k * sz) xs[k] :=
  h.2.2 k _ (List.getElem?_eq_getElem hk)
end

def IntE (k : IntKind) (w : World) (b o : Nat) (x : Int) : Prop := w.cell? ⟨b, o, none⟩ = some (.int k x) ∧ (Lit.int k x).wf = true
def StrE (w : World) (b o : Nat) (x : ByteArray) : Prop := w.cell? ⟨b, o, none⟩ = some (.string x)
def BoolE (w : World) (b o : Nat) (x : Bool) : Prop := w.cell? ⟨b, o, none⟩ = some (.bool x)
theorem IntE.ext {k : IntKind} {w w' : World} {b o : Nat} {x : Int} (h : IntE k w b o x) (e : Ext w w') : IntE k w' b o x := ⟨e _ _ h.1, h.2⟩
theorem StrE.ext {w w' : World} {b o : Nat} {x : ByteArray} (h : StrE w b o x) (e : Ext w w') : StrE w' b o x := e _ _ h

def IntsR (w : World) (a : Option Addr) (cap : Nat) (xs : List Int) : Prop := SlR 1 (IntE .i64) w a cap xs
def NatR (w : World) (a : Option Addr) (cap : Nat) (xs : List Int) : Prop := SlR 1 (IntE .u16) w a cap xs
def StrsR (w : World) (a : Option Addr) (cap : Nat) (xs : List ByteArray) : Prop := SlR 1 StrE w a cap xs
section
variable {w w' : World} {a : Option Addr} {cap : Nat}
theorem IntsR.ext {xs : List Int} (h : IntsR w a cap xs) (e : Ext w w') : IntsR w' a cap xs := SlR.mono h fun _ _ _ _ h => h.ext e
theorem NatR.ext {xs : List Int} (h : NatR w a cap xs) (e : Ext w w') : NatR w' a cap xs := SlR.mono h fun _ _ _ _ h => h.ext e
theorem StrsR.ext {xs : List ByteArray} (h : StrsR w a cap xs) (e : Ext w w') : StrsR w' a cap xs := SlR.mono h fun _ _ _ _ h => h.ext e
end

/-- the bounds of Go's int -/
def InInt (x : Int) : Prop := -9223372036854775808 ≤ x ∧ x ≤ 9223372036854775807
theorem inInt_of {x : Int} (h : (Lit.int .i64 x).wf = true) : InInt x := by
  simpa [Lit.wf, IntKind.min, IntKind.max, IntKind.signed, IntKind.bits, InInt] using h
theorem wf_of {x : Int} (h : InInt x) : (Lit.int .i64 x).wf = true := by
  simpa [Lit.wf, IntKind.min, IntKind.max, IntKind.signed, IntKind.bits, InInt] using h
theorem u16_of {x : Int} (h : (Lit.int .u16 x).wf = true) : 0 ≤ x ∧ x ≤ 65535 := by
  simpa [Lit.wf, IntKind.min, IntKind.max, IntKind.signed, IntKind.bits] using h
theorem u16_wf {x : Int} (h : 0 ≤ x ∧ x ≤ 65535) : (Lit.int .u16 x).wf = true := by
  simpa [Lit.wf, IntKind.min, IntKind.max, IntKind.signed, IntKind.bits] using h

end Go.Proofs.YtmeplgagpnligaaDoor

/- Words for slices that a call makes itself by append: they are owned, they grow, they read as lists. No function of the program in sight. -/
namespace Go.Proofs.YtmeplgagpnligaaDoor
open Go.RowKit

theorem flatMap_at {α : Type} {f : α → List Value} {sz : Nat} (hf : ∀ x, (f x).length = sz) : ∀ (l : List α) (k : Nat) (x : α) (j : Nat), l[k]? = some x → j < sz → (l.flatMap f)[k * sz + j]? = (f x)[j]?
  | [], k, x, j, h, _ => by simp at h
  | y :: l, 0, x, j, h, hj => by
    simp at h; subst h
    simp only [List.flatMap_cons, Nat.zero_mul, Nat.zero_add]
    rw [List.getElem?_append_left (by rw [hf]; exact hj)]
  | y :: l, k + 1, x, j, h, hj => by
    simp only [List.flatMap_cons]
    rw [List.getElem?_append_right (by rw [hf, Nat.add_mul]; omega)]
    have := flatMap_at hf l k x j (by simpa using h) hj
    rw [← this, hf, Nat.add_mul]
    congr 1; omega
theorem flatMap_len {α : Type} {f : α → List Value} {sz : Nat} (hf : ∀ x, (f x).length = sz) (l : List α) : (l.flatMap f).length = l.length * sz := by
  induction l with
  | nil => simp
  | cons x l ih => simp only [List.flatMap_cons, List.length_append, List.length_cons, ih, hf, Nat.add_mul]; omega

/-- the call owns the slice '.slice a l.length c', whose elements are the cells that f gives, in a block from B on -/
def Own {α : Type} (f : α → List Value) (sz : Nat) (t : TypeId) (B : Nat) (w : World) (a : Option Addr) (c : Nat) (l : List α) : Prop :=
  w.ownsRow B t sz (.slice a l.length c) l.length (l.flatMap f)

section
variable {α : Type} {f : α → List Value} {sz : Nat} {t : TypeId} {B : Nat} {w w' : World} {a : Option Addr} {c : Nat} {l : List α}
theorem Own.nil : Own f sz t B w none 0 ([] : List α) := World.ownsRow_nil w B t sz
theorem Own.drew (h : Own f sz t B w a c l) : Own f sz t B w.drew a c l := h
theorem Own.alloc (h : Own f sz t B w a c l) (o : Obj) : Own f sz t B (w.alloc o) a c l := World.ownsRow.alloc h o
theorem Own.grown (h : Own f sz t B w a c l) {row : Option Nat} (hg : w.grownBy w' row) (hne : ∀ g, a = some g → row ≠ some g.block) : Own f sz t B w' a c l := by
  refine World.ownsRow.kept h hg ?_
  cases a with
  | none => exact .inl rfl
  | some g => exact .inr (fun e => hne g rfl (by rw [← e]; rfl))
theorem Own.lt (h : Own f sz t B w a c l) {g : Addr} (e : a = some g) : B ≤ g.block ∧ g.block < w.heap.size := World.ownsRow.lt h g.block (by subst e; rfl)
/-- what lies below a later base is not touched: the row stays -/
theorem Own.below (h : Own f sz t B w a c l) (hb : Below w.heap.size w w') : Own f sz t B w' a c l := by
  refine ⟨h.1, ?_⟩
  rcases h.2 with hn | ⟨g, cap, cur, e, hg, hh, rest⟩
  · exact .inl hn
  · exact .inr ⟨g, cap, cur, e, hg, (hb.block g (Array.getElem?_eq_some_iff.1 hh).1).trans hh, rest⟩
theorem Own.base {B' : Nat} (h : Own f sz t B w a c l) (hB : B' ≤ B) : Own f sz t B' w a c l := by
  refine ⟨h.1, ?_⟩
  rcases h.2 with hn | ⟨g, cap, cur, e, hg, rest⟩
  · exact .inl hn
  · exact .inr ⟨g, cap, cur, e, by omega, rest⟩
theorem Own.cap (h : Own f sz t B w a c l) : l.length ≤ c ∧ c ≤ maxLen := by
  rcases h.2 with ⟨e, hn⟩ | ⟨g, cap, cur, e, _, _, h1, h2, _⟩
  · injection e with _ _ e3
    rw [hn, e3]; exact ⟨Nat.le_refl _, by simp [maxLen]⟩
  · injection e with _ _ e3
    subst e3
    exact ⟨h1, h2⟩
theorem Own.at_ (hf : ∀ x, (f x).length = sz) (h : Own f sz t B w a c l) {k : Nat} {x : α} (hx : l[k]? = some x) :
    ∃ g, a = some ⟨g, 0, none⟩ ∧ B ≤ g ∧ g < w.heap.size ∧ ∀ j u, (f x)[j]? = some u → w.cell? ⟨g, k * sz + j, none⟩ = some u := by
  have hk := lt_of_get hx
  obtain ⟨g, cap, hv, hb, hlt⟩ := h.form (by omega)
  injection hv with h1 h2
  refine ⟨g, h1, hb, hlt, fun j u hu => ?_⟩
  have hj : j < sz := by rw [← hf x]; exact lt_of_get hu
  have := World.ownsRow.cells h (g := g) (by rw [h1]; rfl) (k * sz + j) u (by rw [flatMap_at hf l k x j hx hj]; exact hu)
  rwa [Addr.add_lit, Nat.zero_add] at this
/-- an owned slice reads as its list -/
theorem Own.reads {E : World → Nat → Nat → α → Prop} (hf : ∀ x, (f x).length = sz) (h : Own f sz t B w a c l)
    (hE : ∀ g o x, x ∈ l → (∀ j u, (f x)[j]? = some u → w.cell? ⟨g, o + j, none⟩ = some u) → E w g o x) : SlR sz E w a c l := by
  refine ⟨h.cap.1, h.cap.2, fun k x hx => ?_⟩
  obtain ⟨g, ha, _, _, hc⟩ := h.at_ hf hx
  exact ⟨g, 0, ha, hE _ _ _ (List.mem_of_getElem? hx) (by simpa using hc)⟩
theorem Own.readsM {β : Type} {E : World → Nat → Nat → β → Prop} (g : α → β) (hf : ∀ x, (f x).length = sz) (h : Own f sz t B w a c l)
    (hE : ∀ b o x, x ∈ l → (∀ j u, (f x)[j]? = some u → w.cell? ⟨b, o + j, none⟩ = some u) → E w b o (g x)) : SlR sz E w a c (l.map g) := by
  refine ⟨by simpa using h.cap.1, h.cap.2, fun k y hy => ?_⟩
  rw [List.getElem?_map] at hy
  obtain ⟨x, hx, rfl⟩ := Option.map_eq_some_iff.1 hy
  obtain ⟨b, ha, _, _, hc⟩ := h.at_ hf hx
  exact ⟨b, 0, ha, hE _ _ _ (List.mem_of_getElem? hx) (by simpa using hc)⟩
end

/-- block g is just these cells, none of them shut -/
def Blk (w : World) (g : Nat) (t : TypeId) (cs : Array Value) : Prop := w.heap[g]? = some (.cells cs t (0, 0))
section
variable {w w' : World} {g : Nat} {t : TypeId} {cs : Array Value}
theorem Blk.lt (h : Blk w g t cs) : g < w.heap.size := (Array.getElem?_eq_some_iff.1 h).1
theorem Blk.cell (h : Blk w g t cs) (i : Nat) : w.cell? ⟨g, i, none⟩ = cs[i]? := cell_of_row w g i cs t (0, 0) h
theorem Blk.frozen (h : Blk w g t cs) (i : Nat) : w.frozen? ⟨g, i, none⟩ = false := by
  unfold Blk at h
  simp [World.frozen?, h]
theorem Blk.new (w : World) (t : TypeId) (cs : Array Value) : Blk (w.alloc (.cells cs t)) w.heap.size t cs := heap_alloc_new w _
theorem Blk.drew (h : Blk w g t cs) : Blk w.drew g t cs := h
theorem Blk.alloc (h : Blk w g t cs) (o : Obj) : Blk (w.alloc o) g t cs := (Below.heap_alloc w o g h.lt).trans h
theorem Blk.set_ (h : Blk w g t cs) (i : Nat) (u : Value) : Blk (w.setCell ⟨g, i, none⟩ u) g t (cs.setIfInBounds i u) := by
  unfold Blk at h ⊢
  simp [World.setCell, Array.getElem?_modify, h]
theorem Blk.far (h : Blk w g t cs) {p : Addr} (hp : g ≠ p.block) (u : Value) : Blk (w.setCell p u) g t cs := (Below.heap_setCell w p u g hp).trans h
theorem Blk.below {B : Nat} (h : Blk w g t cs) (hb : Below B w w') (hg : g < B) : Blk w' g t cs := (hb.block g hg).trans h
theorem Blk.below' (h : Blk w g t cs) (hb : Below w.heap.size w w') : Blk w' g t cs := h.below hb h.lt
theorem Blk.grown {row : Option Nat} (h : Blk w g t cs) (hb : w.grownBy w' row) (hg : some g ≠ row) : Blk w' g t cs := (hb.block g h.lt hg).trans h
/-- a block below the base of a row that grows -/
theorem Blk.under {α : Type} {f : α → List Value} {sz : Nat} {te : TypeId} {B : Nat} {w0 : World} {a : Option Addr} {c : Nat} {l : List α} (h : Blk w g t cs) (ho : Own f sz te B w0 a c l) (hg : g < B)
    (hb : w.grownBy w' (Value.ownBlock (.slice a l.length c))) : Blk w' g t cs := h.grown hb (fun e => by
  cases a with
  | none => simp [Value.ownBlock] at e
  | some p => simp [Value.ownBlock] at e; have := (ho.lt rfl).1; omega)
end

section
variable {α : Type} {f : α → List Value} {sz : Nat} {t : TypeId} {B : Nat} {w : World} {l : List α} {P : Program}
/-- 'l = append(l, x)' of one element that lies in a block of its own -/
theorem wp_append_1 {o : Oper} {act : Act} {K : Act → World → Prop} {Q : Exit → Act → World → Prop} (s y : Operand) (ts : TypeId)
    (ho : o.op = .call { callee := .builtin .append, args := #[s, y], argTypes := #[ts, ts] })
    {z : Value} {bytes : Nat} (ht : P.underlying ts = some (.slice t)) (hi : (P.info? t).map (fun i => (i.zero, i.size, i.bytes)) = some (some z, sz, bytes)) (hz : z.cells.size = sz) (hsz : 0 < sz) (hby : bytes ≤ 1024)
    (hf : ∀ x, (f x).length = sz) (a : Option Addr) (c : Nat) (hs : act.eval s = .slice a l.length c) (hown : Own f sz t B w a c l)
    (x : α) (hone : ∀ u ∈ f x, u.oneCell' = true) (b c1 : Nat) (hy : act.eval y = .slice (some ⟨b, 0, none⟩) 1 c1) (hcell : ∀ j u, (f x)[j]? = some u → w.cell? ⟨b, j, none⟩ = some u)
    (l2 : List α) (hl2 : l2 = l ++ [x]) (hlen : l2.length ≤ 16777216) (hB : B ≤ w.heap.size)
    (h : ∀ a' c' w', Own f sz t B w' a' c' l2 → w.grownBy w' (Value.ownBlock (.slice a l.length c)) → ((∃ g, a' = some ⟨g, 0, none⟩ ∧ (a = some ⟨g, 0, none⟩ ∨ g = w.heap.size))) →
      K (act.put o.dst (.slice a' l2.length c')) w') : o.wp P act w K Q := by
  subst hl2
  obtain ⟨i, hi0, hz0, hz1, hz2⟩ := info_parts hi
  simp only [List.length_append, List.length_cons, List.length_nil, Nat.zero_add] at hlen
  obtain ⟨v', w', hr, h2, h3, _, h5⟩ := run_append_own_at (P := P) w B ts o.type t i z sz bytes ht hi0 hz0 hz1 hz2 hz hsz (.slice a l.length c) l.length (l.flatMap f) hown ⟨b, 0, none⟩ 1 c1 (f x) (by rw [hf]; omega)
    (fun j u hu => by rw [Addr.add_lit, Nat.zero_add]; exact hcell j u hu) hone (by unfold maxLen; omega)
    (by have : (l.length + 1) * bytes ≤ 16777216 * 1024 := Nat.mul_le_mul hlen hby
        omega) hB
  unfold Oper.wp execOp
  simp only [ho, resolve, invoke, builtin, Sem.run_bind, Sem.run_pure, Result.andThen_ok, List.map_toArray, List.map_cons, List.map_nil, hs, hy, hr]
  have hf2 : (l ++ [x]).flatMap f = l.flatMap f ++ f x := by simp
  have hn : (l ++ [x]).length = l.length + 1 := by simp
  obtain ⟨g, cap, hv, hb, hlt⟩ := h2.form (by omega)
  subst hv
  rw [← hn]
  refine h _ _ w' (by unfold Own; rw [hf2, hn]; exact h2) h3 ⟨g, rfl, ?_⟩
  rcases h5 with h5 | h5
  · left
    cases a with
    | none => simp [Value.ownBlock] at h5
    | some g' =>
      have hg' : g = g'.block := by simpa [Value.ownBlock] using h5
      rcases hown.2 with ⟨e, _⟩ | ⟨g2, _, _, e, _⟩
      · cases e
      · injection e with e1
        injection e1 with e1
        subst e1
        simp at hg'
        rw [hg']
  · right
    simpa [Value.ownBlock] using h5
theorem wpList_append_1 {ops : Array Oper} {rest : List Oper} {o : Oper} {act : Act} {Q : Exit → Act → World → Prop} (hgd : o.guard = none) (s y : Operand) (ts : TypeId)
    (ho : o.op = .call { callee := .builtin .append, args := #[s, y], argTypes := #[ts, ts] })
    {z : Value} {bytes : Nat} (ht : P.underlying ts = some (.slice t)) (hi : (P.info? t).map (fun i => (i.zero, i.size, i.bytes)) = some (some z, sz, bytes)) (hz : z.cells.size = sz) (hsz : 0 < sz) (hby : bytes ≤ 1024)
    (hf : ∀ x, (f x).length = sz) (a : Option Addr) (c : Nat) (hs : act.eval s = .slice a l.length c) (hown : Own f sz t B w a c l)
    (x : α) (hone : ∀ u ∈ f x, u.oneCell' = true) (b c1 : Nat) (hy : act.eval y = .slice (some ⟨b, 0, none⟩) 1 c1) (hcell : ∀ j u, (f x)[j]? = some u → w.cell? ⟨b, j, none⟩ = some u)
    (l2 : List α) (hl2 : l2 = l ++ [x]) (hlen : l2.length ≤ 16777216) (hB : B ≤ w.heap.size)
    (h : ∀ a' c' w', Own f sz t B w' a' c' l2 → w.grownBy w' (Value.ownBlock (.slice a l.length c)) → ((∃ g, a' = some ⟨g, 0, none⟩ ∧ (a = some ⟨g, 0, none⟩ ∨ g = w.heap.size))) →
      wpList P ops Q rest (act.put o.dst (.slice a' l2.length c')) w') : wpList P ops Q (o :: rest) act w :=
  wpList_plain hgd fun _ hK => wp_append_1 s y ts ho ht hi hz hsz hby hf a c hs hown x hone b c1 hy hcell l2 hl2 hlen hB fun a' c' w' h1 h2 h3 => hK _ _ (h a' c' w' h1 h2 h3)
end

/-- what an append leaves of the blocks below -/
theorem below_append {W w w' : World} {a : Option Addr} {n c : Nat} (h : Below W.heap.size W w) (hg : w.grownBy w' (Value.ownBlock (.slice a n c))) (hr : ∀ g, a = some g → W.heap.size ≤ g.block) : Below W.heap.size W w' :=
  h.grown hg h.size (fun k hk => by
    cases a with
    | none => simp [Value.ownBlock] at hk
    | some g => simp [Value.ownBlock] at hk; subst hk; exact hr g rfl)
theorem below_append' {W w w' : World} {α : Type} {f : α → List Value} {sz : Nat} {t : TypeId} {a : Option Addr} {c : Nat} {l : List α} (h : Below W.heap.size W w) (ho : Own f sz t W.heap.size w a c l)
    (hg : w.grownBy w' (Value.ownBlock (.slice a l.length c))) : Below W.heap.size W w' := below_append h hg fun _ e => (ho.lt e).1

/-- a cell of a block that is younger than the row stays behind an append to the row -/
theorem Own.young {w0 w w' : World} {α : Type} {f : α → List Value} {sz : Nat} {t : TypeId} {B : Nat} {a : Option Addr} {c : Nat} {l : List α} (ho : Own f sz t B w0 a c l)
    (hg : w.grownBy w' (Value.ownBlock (.slice a l.length c))) {p : Addr} {v : Value} (h : w.cell? p = some v) (hp : w0.heap.size ≤ p.block) : w'.cell? p = some v :=
  hg.cell h (fun e => by
    cases a with
    | none => simp [Value.ownBlock] at e
    | some g => simp [Value.ownBlock] at e; have := (ho.lt rfl).2; omega)

end Go.Proofs.YtmeplgagpnligaaDoor

/- What a call has made is read in any world that holds the cells that were there and the new ones. No function of the program in sight. -/
namespace Go.Proofs.YtmeplgagpnligaaDoor
open Go.RowKit

/-- V holds the cells of w that lie in blocks from B on -/
def New (B : Nat) (w V : World) : Prop := ∀ p v, B ≤ p.block → w.cell? p = some v → V.cell? p = some v
/-- the same, but for the block of the slice at a -/
def NewBut (B : Nat) (a : Option Addr) (w V : World) : Prop := ∀ p v, B ≤ p.block → (∀ g, a = some g → p.block ≠ g.block) → w.cell? p = some v → V.cell? p = some v
theorem New.refl (B : Nat) (w : World) : New B w w := fun _ _ _ h => h
theorem New.base {B B' : Nat} {w V : World} (h : New B w V) (hB : B ≤ B') : New B' w V := fun p v hp hc => h p v (Nat.le_trans hB hp) hc
theorem New.but {B : Nat} {w V : World} (h : New B w V) (a : Option Addr) : NewBut B a w V := fun p v hp _ hc => h p v hp hc
/-- behind laying blocks and an append to the row at a, which now lies at a' -/
theorem NewBut.back {B : Nat} {w w1 w2 V : World} {a a' : Option Addr} {n c : Nat} (h : NewBut B a' w2 V) (hb : Below w.heap.size w w1) (hg : w1.grownBy w2 (Value.ownBlock (.slice a n c)))
    (ha : ∃ g, a' = some ⟨g, 0, none⟩ ∧ (a = some ⟨g, 0, none⟩ ∨ g = w1.heap.size)) : NewBut B a w V := fun p v hp hne hc => by
  obtain ⟨g, rfl, hga⟩ := ha
  have hlt := World.block_lt_of_cell? w p hc
  have h1 : w1.cell? p = some v := (hb.cell hlt).trans hc
  have hlt1 := World.block_lt_of_cell? w1 p h1
  refine h p v hp (fun g' e => ?_) (hg.cell h1 (fun e => ?_))
  · injection e with e
    subst e
    rcases hga with h2 | h2
    · exact hne _ h2
    · simp; omega
  · cases a with
    | none => simp [Value.ownBlock] at e
    | some g0 => exact hne _ rfl (by simpa [Value.ownBlock] using e)
/-- what a call made ahead of the append -/
theorem NewBut.fresh {B B' : Nat} {w1 w2 w3 V : World} {a a' : Option Addr} {n c : Nat} (h : NewBut B a' w3 V) (hB : B ≤ B') (hb : Below w1.heap.size w1 w2) (hg : w2.grownBy w3 (Value.ownBlock (.slice a n c)))
    (ha : ∃ g, a' = some ⟨g, 0, none⟩ ∧ (a = some ⟨g, 0, none⟩ ∨ g = w2.heap.size)) (hlt : ∀ g, a = some g → g.block < B') : New B' w1 V := fun p v hp hc => by
  refine NewBut.back h hb hg ha p v (Nat.le_trans hB hp) (fun g e => ?_) hc
  have := hlt g e
  omega
section
variable {α : Type} {f : α → List Value} {sz : Nat} {t : TypeId} {B : Nat} {w V : World} {a : Option Addr} {c : Nat} {l : List α}
theorem Own.readsIn {β : Type} {E : World → Nat → Nat → β → Prop} (g : α → β) (hf : ∀ x, (f x).length = sz) (h : Own f sz t B w a c l) (hV : New B w V)
    (hE : ∀ b o x, x ∈ l → (∀ j u, (f x)[j]? = some u → V.cell? ⟨b, o + j, none⟩ = some u) → E V b o (g x)) : SlR sz E V a c (l.map g) := by
  refine ⟨by simpa using h.cap.1, h.cap.2, fun k y hy => ?_⟩
  rw [List.getElem?_map] at hy
  obtain ⟨x, hx, rfl⟩ := Option.map_eq_some_iff.1 hy
  obtain ⟨b, ha, hB, _, hc⟩ := h.at_ hf hx
  exact ⟨b, 0, ha, hE _ _ _ (List.mem_of_getElem? hx) (fun j u hu => hV _ _ hB (by simpa using hc j u hu))⟩
end
section
variable {α : Type} {f : α → List Value} {sz : Nat} {t : TypeId} {B : Nat} {w V : World} {a : Option Addr} {c : Nat} {l : List α}
/-- a cell below the row's base is set -/
theorem Own.far (h : Own f sz t B w a c l) {p : Addr} (hp : p.block < B) (u : Value) : Own f sz t B (w.setCell p u) a c l := by
  refine ⟨h.1, ?_⟩
  rcases h.2 with hn | ⟨g, cap, cur, e, hg, hh, rest⟩
  · exact .inl hn
  · exact .inr ⟨g, cap, cur, e, hg, (Below.heap_setCell w p u _ (by omega)).trans hh, rest⟩
end
theorem NewBut.unset {B : Nat} {a : Option Addr} {w V : World} {p : Addr} {u : Value} (h : NewBut B a (w.setCell p u) V) (hp : p.block < B) : NewBut B a w V := fun q v hq hne hc =>
  h q v hq hne ((World.cell?_setCell_other w p q u (fun e => by subst e; omega)).trans hc)
theorem New.unset {B : Nat} {w V : World} {p : Addr} {u : Value} (h : New B (w.setCell p u) V) (hp : p.block < B) : New B w V := fun q v hq hc =>
  h q v hq ((World.cell?_setCell_other w p q u (fun e => by subst e; omega)).trans hc)
theorem blk_at1 (w : World) (o : Obj) (t : TypeId) (cs : Array Value) : Blk ((w.alloc o).alloc (.cells cs t)) (w.heap.size + 1) t cs := by have := Blk.new (w.alloc o) t cs; simpa using this
theorem blk_at2 (w : World) (o o2 : Obj) (t : TypeId) (cs : Array Value) : Blk (((w.alloc o).alloc o2).alloc (.cells cs t)) (w.heap.size + 1 + 1) t cs := by have := Blk.new ((w.alloc o).alloc o2) t cs; simpa using this
theorem New.below {B : Nat} {w w' V : World} (h : New B w' V) (hb : Below w.heap.size w w') : New B w V := fun p v hp hc => h p v hp ((hb.cell (World.block_lt_of_cell? w p hc)).trans hc)
theorem New.unalloc {B : Nat} {w V : World} {o : Obj} (h : New B (w.alloc o) V) : New B w V := fun p v hp hc => h p v hp ((World.cell?_alloc_lt w o p (World.block_lt_of_cell? w p hc)).trans hc)
theorem Own.ne_blk {α : Type} {f : α → List Value} {sz : Nat} {t t' : TypeId} {B g : Nat} {w : World} {a : Option Addr} {c : Nat} {l : List α} {cs : Array Value} (h : Own f sz t B w a c l) (hb : Blk w g t' cs) (hne : t ≠ t') : some g ≠ Value.ownBlock (.slice a l.length c) := by
  intro e
  cases a with
  | none => simp [Value.ownBlock] at e
  | some p =>
    simp [Value.ownBlock] at e
    rcases h.2 with ⟨hn, _⟩ | ⟨g', cap, cur, hv, _, hh, _⟩
    · cases hn
    · injection hv with hv
      injection hv with hv
      subst hv
      simp at e
      subst e
      unfold Blk at hb
      rw [hb] at hh
      injection hh with hh
      injection hh with _ ht
      exact hne ht.symm
end Go.Proofs.YtmeplgagpnligaaDoor

/- strings.Split, strings.TrimSuffix and strings.Builder, laid at this program. -/
namespace Go.Proofs
open Go.Shelf
def Tryd.lays146_ren : Go.Shelf.Ren := ⟨fun | 146 => 28 | 221 => 42 | 268 => 53 | 138 => 54 | 143 => 55 | 195 => 65 | 197 => 66 | 218 => 67 | 219 => 68 | 260 => 75 | 217 => 76 | 225 => 77 | 224 => 78 | 267 => 79 | 266 => 82 | 314 => 83 | n => n, fun | 9 => 9 | 31 => 39 | 3 => 3 | 4 => 4 | 0 => 0 | 105 => 104 | 21 => 21 | 5 => 5 | 46 => 113 | 119 => 116 | 139 => 119 | 138 => 118 | 146 => 120 | 51 => 111 | n => n, fun | 1 => 1 | 3 => 2 | 4 => 3 | n => n⟩
theorem Tryd.lays146 : Go.Proofs.LaysM.n146 Tryd.prog Tryd.lays146_ren := {
  mixed := by kernel_rfl
  f138 := Tryd.func54.trans (congrArg some (by kernel_rfl))
  f143 := Tryd.func55.trans (congrArg some (by kernel_rfl))
  f146 := Tryd.func28.trans (congrArg some (by kernel_rfl))
  f195 := Tryd.func65.trans (congrArg some (by kernel_rfl))
  f197 := Tryd.func66.trans (congrArg some (by kernel_rfl))
  f217 := Tryd.func76.trans (congrArg some (by kernel_rfl))
  f218 := Tryd.func67.trans (congrArg some (by kernel_rfl))
  f219 := Tryd.func68.trans (congrArg some (by kernel_rfl))
  f221 := Tryd.func42.trans (congrArg some (by kernel_rfl))
  f224 := Tryd.func78.trans (congrArg some (by kernel_rfl))
  f225 := Tryd.func77.trans (congrArg some (by kernel_rfl))
  f260 := Tryd.func75.trans (congrArg some (by kernel_rfl))
  f266 := Tryd.func82.trans (congrArg some (by kernel_rfl))
  f267 := Tryd.func79.trans (congrArg some (by kernel_rfl))
  f268 := Tryd.func53.trans (congrArg some (by kernel_rfl))
  f314 := Tryd.func83.trans (congrArg some (by kernel_rfl))
  t0 := Tryd.underlying0
  a0 := Tryd.isAgg0
  z0 := Tryd.sizeOf0
  v0 := Tryd.zeroValue0
  t3 := Tryd.underlying3
  a3 := Tryd.isAgg3
  z3 := Tryd.sizeOf3
  v3 := Tryd.zeroValue3
  t4 := Tryd.underlying4
  a4 := Tryd.isAgg4
  z4 := Tryd.sizeOf4
  v4 := Tryd.zeroValue4
  t5 := Tryd.underlying5
  a5 := Tryd.isAgg5
  z5 := Tryd.sizeOf5
  v5 := Tryd.zeroValue5
  t9 := Tryd.underlying9
  a9 := Tryd.isAgg9
  z9 := Tryd.sizeOf9
  v9 := Tryd.zeroValue9
  t21 := Tryd.underlying21
  a21 := Tryd.isAgg21
  z21 := Tryd.sizeOf21
  v21 := Tryd.zeroValue21
  t31 := Tryd.underlying39
  a31 := Tryd.isAgg39
  z31 := Tryd.sizeOf39
  v31 := Tryd.zeroValue39
  t46 := Tryd.underlying113
  a46 := Tryd.isAgg113
  z46 := Tryd.sizeOf113
  v46 := Tryd.zeroValue113
  t51 := Tryd.underlying111
  a51 := Tryd.isAgg111
  z51 := Tryd.sizeOf111
  v51 := Tryd.zeroValue111
  t105 := Tryd.underlying104
  a105 := Tryd.isAgg104
  z105 := Tryd.sizeOf104
  v105 := Tryd.zeroValue104
  t119 := Tryd.underlying116
  a119 := Tryd.isAgg116
  z119 := Tryd.sizeOf116
  t138 := Tryd.underlying118
  a138 := Tryd.isAgg118
  z138 := Tryd.sizeOf118
  v138 := Tryd.zeroValue118
  t139 := Tryd.underlying119
  a139 := Tryd.isAgg119
  z139 := Tryd.sizeOf119
  v139 := Tryd.zeroValue119
  t146 := Tryd.underlying120
  a146 := Tryd.isAgg120
  z146 := Tryd.sizeOf120
  v146 := Tryd.zeroValue120
  g1 := by kernel_rfl
  g3 := by kernel_rfl
  g4 := by kernel_rfl
  i0 := by kernel_rfl
  i3 := by kernel_rfl
  i4 := by kernel_rfl
  i5 := by kernel_rfl
  i9 := by kernel_rfl
  i21 := by kernel_rfl
  i31 := by kernel_rfl
  i46 := by kernel_rfl
  i51 := by kernel_rfl
  i105 := by kernel_rfl
  i138 := by kernel_rfl
  i139 := by kernel_rfl
  i146 := by kernel_rfl
  m1 := by kernel_rfl
  s1_3 := fun w h => Go.Proofs.cell_of_shapedOpen_int (zero := #[.int .i64 0]) (t := 3) h (of_decide_eq_true (by kernel_rfl)) (by kernel_rfl) rfl (by kernel_rfl) (by kernel_rfl) Tryd.underlying3
  m3 := by kernel_rfl
  m4 := by kernel_rfl }
def Tryd.lays102_ren : Go.Shelf.Ren := ⟨fun | 102 => 29 | 209 => 43 | 207 => 56 | n => n, fun | 9 => 9 | 4 => 4 | 3 => 3 | n => n, fun | n => n⟩
theorem Tryd.lays102 : Go.Proofs.Lays.n102 Tryd.prog Tryd.lays102_ren := {
  mixed := by kernel_rfl
  f102 := Tryd.func29.trans (congrArg some (by kernel_rfl))
  f207 := Tryd.func56.trans (congrArg some (by kernel_rfl))
  f209 := Tryd.func43.trans (congrArg some (by kernel_rfl))
  t3 := Tryd.underlying3
  a3 := Tryd.isAgg3
  z3 := Tryd.sizeOf3
  v3 := Tryd.zeroValue3
  t4 := Tryd.underlying4
  a4 := Tryd.isAgg4
  z4 := Tryd.sizeOf4
  v4 := Tryd.zeroValue4
  t9 := Tryd.underlying9
  a9 := Tryd.isAgg9
  z9 := Tryd.sizeOf9
  v9 := Tryd.zeroValue9 }
def Tryd.lays166_ren : Go.Shelf.Ren := ⟨fun | 166 => 25 | 240 => 39 | 276 => 52 | n => n, fun | 0 => 0 | 3 => 3 | 4 => 4 | 5 => 5 | 9 => 9 | 20 => 20 | 37 => 60 | 70 => 59 | 72 => 62 | 75 => 64 | 80 => 67 | 164 => 90 | n => n, fun n => n⟩
theorem Tryd.lays166 : Lays.n166 Tryd.prog Tryd.lays166_ren where
  mixed := by kernel_rfl
  f166 := Tryd.func25.trans (congrArg some (by kernel_rfl))
  f240 := Tryd.func39.trans (congrArg some (by kernel_rfl))
  f276 := Tryd.func52.trans (congrArg some (by kernel_rfl))
  t0 := Tryd.underlying0
  a0 := Tryd.isAgg0
  z0 := Tryd.sizeOf0
  v0 := Tryd.zeroValue0
  t3 := Tryd.underlying3
  a3 := Tryd.isAgg3
  z3 := Tryd.sizeOf3
  v3 := Tryd.zeroValue3
  t4 := Tryd.underlying4
  a4 := Tryd.isAgg4
  z4 := Tryd.sizeOf4
  v4 := Tryd.zeroValue4
  t9 := Tryd.underlying9
  a9 := Tryd.isAgg9
  z9 := Tryd.sizeOf9
  v9 := Tryd.zeroValue9
  t20 := Tryd.underlying20
  a20 := Tryd.isAgg20
  z20 := Tryd.sizeOf20
  v20 := Tryd.zeroValue20
  t37 := Tryd.underlying60
  a37 := Tryd.isAgg60
  z37 := Tryd.sizeOf60
  v37 := Tryd.zeroValue60
  t70 := Tryd.underlying59
  a70 := Tryd.isAgg59
  z70 := Tryd.sizeOf59
  v70 := Tryd.zeroValue59
  t72 := Tryd.underlying62
  a72 := Tryd.isAgg62
  z72 := Tryd.sizeOf62
  v72 := Tryd.zeroValue62
  t75 := Tryd.underlying64
  a75 := Tryd.isAgg64
  z75 := Tryd.sizeOf64
  v75 := Tryd.zeroValue64
  t164 := Tryd.underlying90
  a164 := Tryd.isAgg90
  z164 := Tryd.sizeOf90
  v164 := Tryd.zeroValue90
def Tryd.lays169_ren : Go.Shelf.Ren := ⟨fun | 169 => 27 | n => n, fun | 70 => 59 | 9 => 9 | 0 => 0 | 72 => 62 | 37 => 60 | 127 => 80 | 3 => 3 | 5 => 5 | n => n, fun | n => n⟩
theorem Tryd.lays169 : Go.Proofs.Lays.n169 Tryd.prog Tryd.lays169_ren := {
  mixed := by kernel_rfl
  f169 := Tryd.func27.trans (congrArg some (by kernel_rfl))
  t0 := Tryd.underlying0
  a0 := Tryd.isAgg0
  z0 := Tryd.sizeOf0
  v0 := Tryd.zeroValue0
  t3 := Tryd.underlying3
  a3 := Tryd.isAgg3
  z3 := Tryd.sizeOf3
  v3 := Tryd.zeroValue3
  t9 := Tryd.underlying9
  a9 := Tryd.isAgg9
  z9 := Tryd.sizeOf9
  v9 := Tryd.zeroValue9
  t37 := Tryd.underlying60
  a37 := Tryd.isAgg60
  z37 := Tryd.sizeOf60
  v37 := Tryd.zeroValue60
  t70 := Tryd.underlying59
  a70 := Tryd.isAgg59
  z70 := Tryd.sizeOf59
  v70 := Tryd.zeroValue59
  t72 := Tryd.underlying62
  a72 := Tryd.isAgg62
  z72 := Tryd.sizeOf62
  v72 := Tryd.zeroValue62
  t127 := Tryd.underlying80
  a127 := Tryd.isAgg80
  z127 := Tryd.sizeOf80
  v127 := Tryd.zeroValue80 }
theorem Tryd.Extra166 : Builder.Extra Tryd.prog Tryd.lays166_ren where
  sizeBuilder := by kernel_rfl
  liesBuilder := by kernel_rfl
  t5 := Tryd.underlying5
  a5 := Tryd.isAgg5
  z5 := Tryd.sizeOf5
  v5 := Tryd.zeroValue5
  infoByte := by kernel_rfl
  cellsByte := by kernel_rfl
  sizeByte := by kernel_rfl
  neB5 := by decide
theorem Tryd.Extra169 : Builder.Extra Tryd.prog Tryd.lays169_ren where
  sizeBuilder := by kernel_rfl
  liesBuilder := by kernel_rfl
  t5 := Tryd.underlying5
  a5 := Tryd.isAgg5
  z5 := Tryd.sizeOf5
  v5 := Tryd.zeroValue5
  infoByte := by kernel_rfl
  cellsByte := by kernel_rfl
  sizeByte := by kernel_rfl
  neB5 := by decide
end Go.Proofs
namespace Go.Proofs.YtmeplgagpnligaaDoor
open Go.RowKit
/-- the variable of the library's own that Split reads holds some number -/
def MaxL (w : World) : Prop := ∃ m, w.cell? ⟨Tryd.lays146_ren.g 1, 0, none⟩ = some (.int .i64 m)
theorem MaxL.of {w : World} (h : w.ShapedOpen Tryd.prog) : MaxL w := Tryd.lays146.s1_3 w h
theorem MaxL.ext {w w' : World} (h : MaxL w) (e : Ext w w') : MaxL w' := h.imp fun _ hm => e _ _ hm
theorem split_any (s sep : ByteArray) (w : World) (h : MaxL w) (hs : s.size < 4294967281) (h1 : 1 ≤ sep.size) :
    Calls Tryd.prog 28 #[.string s, .string sep] w fun e w' =>
      e = .returned (.slice (some ⟨w.heap.size, 0, none⟩) (Lib.countB s sep + 1) (Lib.countB s sep + 1)) ∧ w' = w.alloc (.cells ((Lib.splitB sep 0 (Lib.countB s sep) s).map Value.string).toArray 9) :=
  let ⟨m, hm⟩ := h
  Any.strings_Split { Tryd.lays146 with } Tryd.lays146.i9 s sep m w hs hm h1
theorem trimSuffix_any (s p : ByteArray) (w : World) (hs : s.size ≤ 9223372036854775807) :
    Calls Tryd.prog 29 #[.string s, .string p] w fun e w' => e = .returned (.string ⟨(Lib.trimSuffix s.data.toList p.data.toList).toArray⟩) ∧ w' = w :=
  Any.strings_TrimSuffix Tryd.lays102 s p w hs
/-- the builder in block b, one of the call's own, holds the bytes l -/
def Bld (b : Nat) (l : List UInt8) (w : World) : Prop := Lib.IsBuilderF 62 5 b b (Lib.byteCells l) w
theorem Bld.new (w : World) : Bld w.heap.size [] (w.alloc (.cells #[.pointer none, .slice none 0 0] 62)) := by
  refine .inl ⟨Nat.le_refl _, .slice none 0 0, Blk.new w _ _, World.ownsRowF_nil _ _ _ _, by simp [Value.ownBlock]⟩
theorem Bld.lt {b : Nat} {l : List UInt8} {w : World} (h : Bld b l w) : b < w.heap.size := by
  rcases h with h | h <;> exact h.lt
theorem Bld.below {b : Nat} {l : List UInt8} {w w' : World} (h : Bld b l w) (hb : Below w.heap.size w w') : Bld b l w' := by
  have key : ∀ p, Lib.BuilderAtF 62 5 b b p (Lib.byteCells l) w → Lib.BuilderAtF 62 5 b b p (Lib.byteCells l) w' := by
    rintro p ⟨h1, v, h2, h3, h4⟩
    refine ⟨h1, v, (hb.block b (Array.getElem?_eq_some_iff.1 h2).1).trans h2, ⟨h3.1, ?_⟩, h4⟩
    rcases h3.2 with hn | ⟨g, cap, cur, fz, e, hg, hh, rest⟩
    · exact .inl hn
    · exact .inr ⟨g, cap, cur, fz, e, hg, (hb.block g (Array.getElem?_eq_some_iff.1 hh).1).trans hh, rest⟩
  rcases h with h | h
  · exact .inl (key _ h)
  · exact .inr (key _ h)
/-- what a call on the builder leaves of the other blocks -/
def Oth (b : Nat) (w w' : World) : Prop := Lib.OthersKept 5 (some b) w w'
theorem Oth.blk {b : Nat} {w w' : World} (h : Oth b w w') {g : Nat} {t : TypeId} {cs : Array Value} (hz : Blk w g t cs) (hg : g ≠ b) (ht : t ≠ 5) : Blk w' g t cs := by
  unfold Blk at hz ⊢
  exact h g _ hz (by simpa using hg) (fun c fz e => ht (by injection e))
theorem write_any (b : Nat) (l : List UInt8) (s : ByteArray) (w : World) (h : Bld b l w) (hl : l.length + s.size ≤ 16777216) :
    Calls Tryd.prog 25 #[.pointer (some ⟨b, 0, none⟩), .string s] w fun e w' => (∃ v, e = .returned v) ∧ Bld b (l ++ s.data.toList) w' ∧ Below b w w' ∧ Oth b w w' := by
  refine (Any.Builder_WriteString_k Tryd.lays166 Tryd.Extra166 b b (Lib.byteCells l) s w h (by simp [Lib.byteCells]; omega) (Nat.le_of_lt h.lt)).mono ?_
  rintro e w' ⟨rfl, h1, h2, h3⟩
  refine ⟨⟨_, rfl⟩, .inr ?_, h2, h3⟩
  have e2 : Lib.byteCells (l ++ s.data.toList) = Lib.byteCells l ++ Lib.strCells s := by simp [Lib.byteCells, Lib.strCells]
  rw [e2]; exact h1
theorem string_any (b : Nat) (l : List UInt8) (w : World) (h : Bld b l w) :
    Calls Tryd.prog 27 #[.pointer (some ⟨b, 0, none⟩)] w fun e w' => e = .returned (.string ⟨l.toArray⟩) ∧ Below b w w' ∧ Oth b w w' := by
  refine (Any.Builder_String_any_k Tryd.lays169 Tryd.Extra169 b b l w h (Nat.le_of_lt h.lt)).mono ?_
  rintro e w' ⟨rfl, _, h2, h3⟩
  exact ⟨rfl, h2, h3⟩
end Go.Proofs.YtmeplgagpnligaaDoor
