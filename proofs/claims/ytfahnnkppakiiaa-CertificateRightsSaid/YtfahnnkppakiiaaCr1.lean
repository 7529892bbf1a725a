/- What a call has made is read in any world that holds the cells that were there and the new ones. No function of the program in sight. -/
import Derived.WalkKit
import Derived.WalkSpells
import Derived.WalkLawsBesides
import Derived.ProofKit
import Derived.LoopTactic
import Derived.Handy
import Derived.Lib.Hide
import Derived.OwnWalk
import Derived.Maps.AppendAt
import Derived.Deep.AppendLies
import Derived.Deep.DeepCutAuto
import Derived.Test.YtfahnnkppakiiaaRows
import Derived.Deep.QuietTactic
import Derived.BigQuiet

/- Words for memory that is only read: integers, strings and structs in slices, each as a plain list. No function of the program in sight. -/
namespace Go.Proofs.Ytfahnnkppakiiaa
open Go.RowKit

theorem ret_int {k : IntKind} {a b : Int} (h : a = b) : Ending.returned (.int k a) = .returned (.int k b) := by rw [h]
theorem ret_bool {a b : Bool} (h : a = b) : Ending.returned (.bool a) = .returned (.bool b) := by rw [h]
theorem ret_str {a b : ByteArray} (h : a = b) : Ending.returned (.string a) = .returned (.string b) := by rw [h]
theorem val_int {k : IntKind} {a b : Int} (h : a = b) : Value.int k a = .int k b := by rw [h]

theorem take_more {α : Type} {xs : List α} {k : Nat} {x : α} (h : xs[k]? = some x) : xs.take (k + 1) = xs.take k ++ [x] := by rw [List.take_add_one, h]; rfl
theorem take_all {α : Type} {xs : List α} {k : Nat} (h : ¬ k < xs.length) : xs.take k = xs := List.take_of_length_le (by omega)
theorem lt_of_get {α : Type} {xs : List α} {k : Nat} {x : α} (h : xs[k]? = some x) : k < xs.length := (List.getElem?_eq_some_iff.1 h).1
theorem get_of_lt {α : Type} {xs : List α} {k : Nat} (h : k < xs.length) : ∃ x, xs[k]? = some x := ⟨_, List.getElem?_eq_getElem h⟩

/-! ### Strings -/
theorem toList_loop (b : ByteArray) : ∀ (n i : Nat) (r : List UInt8), b.size - i = n → ByteArray.toList.loop b i r = r.reverse ++ b.data.toList.drop i := by
  intro n
  induction n with
  | zero =>
    intro i r h
    unfold ByteArray.toList.loop
    rw [if_neg (by omega)]
    have : b.data.toList.length ≤ i := by have : b.data.toList.length = b.size := by rw [Array.length_toList]; rfl
                                          omega
    rw [List.drop_eq_nil_of_le this, List.append_nil]
  | succ n ih =>
    intro i r h
    unfold ByteArray.toList.loop
    rw [if_pos (by omega)]
    have hl : i < b.data.toList.length := by have : b.data.toList.length = b.size := by rw [Array.length_toList]; rfl
                                             omega
    rw [ih (i + 1) _ (by omega), List.drop_eq_getElem_cons hl]
    have : b.get! i = b.data.toList[i] := by
      have hs : i < b.data.size := by simpa using hl
      simp [ByteArray.get!, getElem!_pos b.data i hs]
    simp [this]
theorem toList_data (b : ByteArray) : b.toList = b.data.toList := by
  have h := toList_loop b _ 0 [] rfl
  simpa [ByteArray.toList] using h
theorem str_eq {a b : ByteArray} : a.toList = b.toList ↔ a = b := by
  rw [toList_data, toList_data]
  constructor
  · intro h
    cases a; cases b
    simp at h
    rw [h]
  · intro h; rw [h]
theorem str_beq (a b : ByteArray) : (a.toList == b.toList) = decide (a = b) := by
  rw [Bool.eq_iff_iff]; simp [str_eq]
theorem str_empty {a : ByteArray} : a.toList = [] ↔ a = ⟨#[]⟩ := by
  rw [← str_eq (a := a)]; rw [toList_data ⟨#[]⟩]
theorem str_isEmpty (a : ByteArray) : a.toList.isEmpty = decide (a = ⟨#[]⟩) := by
  rw [Bool.eq_iff_iff]; simp [str_empty]
theorem str_bne (a b : ByteArray) : (a.toList != b.toList) = !decide (a = b) := by
  rw [bne, str_beq]

/-! ### Cells that stay -/
/-- every cell that can be read stays as it is -/
def Ext (w w' : World) : Prop := ∀ (a : Addr) (v : Value), w.cell? a = some v → w'.cell? a = some v
theorem Ext.refl (w : World) : Ext w w := fun _ _ h => h
theorem Ext.trans {a b c : World} (h : Ext a b) (k : Ext b c) : Ext a c := fun p v e => k p v (h p v e)
theorem Ext.alloc {w w' : World} (h : Ext w w') (o : Obj) : Ext w (w'.alloc o) := fun p v e => by
  have e' := h p v e
  rw [World.cell?_alloc_lt w' o p (World.block_lt_of_cell? w' p e')]; exact e'
theorem Ext.drew {w w' : World} (h : Ext w w') : Ext w w'.drew := h
theorem Ext.drewN {w w' : World} (h : Ext w w') (n : Nat) : Ext w (w'.drewN n) := h
theorem Ext.below {w w' : World} (h : Below w.heap.size w w') : Ext w w' := fun p v e => by
  rw [h.cell (World.block_lt_of_cell? w p e)]; exact e
theorem Ext.more {w w' w'' : World} (h : Ext w w') (k : Below w'.heap.size w' w'') : Ext w w'' := h.trans (.below k)
theorem Ext.setCell {w w' : World} (h : Ext w w') {p : Addr} (hp : w.heap.size ≤ p.block) (u : Value) : Ext w (w'.setCell p u) := fun q v e => by
  have hq := World.block_lt_of_cell? w q e
  rw [World.cell?_setCell_other w' p q u (fun e => by subst e; omega)]; exact h q v e

theorem below_then {w w1 w2 : World} (h : Below w.heap.size w w1) (k : Below w1.heap.size w1 w2) : Below w.heap.size w w2 := h.trans (k.mono h.size)
theorem below_then1 {w w1 w2 : World} {o : Obj} (h : Below w.heap.size w w1) (k : Below (w1.alloc o).heap.size (w1.alloc o) w2) : Below w.heap.size w w2 := below_then (h.alloc h.size o) k
theorem ext_alloc2 (w : World) (o o' : Obj) : Ext w ((w.alloc o).alloc o') := ((Ext.refl w).alloc o).alloc o'
theorem below_then2 {w w1 w2 : World} {o o' : Obj} (h : Below w.heap.size w w1) (k : Below ((w1.alloc o).alloc o').heap.size ((w1.alloc o).alloc o') w2) : Below w.heap.size w w2 :=
  below_then ((h.alloc h.size o).alloc (by have := h.size; simp; omega) o') k
theorem ext_alloc (w : World) (o : Obj) : Ext w (w.alloc o) := (Ext.refl w).alloc o

/-- a cell that stays, whatever is laid behind it -/
theorem held {w : World} {a : Addr} {v : Value} (h : w.cell? a = some v) : ∀ w', Below w.heap.size w w' → w'.cell? a = some v := fun _ k => Ext.below k _ _ h

/-! ### Slices that read as lists -/
/-- the slice '.slice a xs.length cap' reads as the list xs: each element has sz cells, and 'E' says what they hold -/
def SlR {α : Type} (sz : Nat) (E : World → Nat → Nat → α → Prop) (w : World) (a : Option Addr) (cap : Nat) (xs : List α) : Prop :=
  xs.length ≤ cap ∧ cap ≤ maxLen ∧ ∀ (k : Nat) (x : α), xs[k]? = some x → ∃ b off, a = some ⟨b, off, none⟩ ∧ E w b (off + k * sz) x

section
variable {α : Type} {sz : Nat} {E E' : World → Nat → Nat → α → Prop} {w w' : World} {a : Option Addr} {cap : Nat} {xs : List α}
theorem SlR.nil : SlR sz E w none 0 [] := ⟨Nat.le_refl _, by simp [maxLen], fun k x h => by simp at h⟩
theorem SlR.mono (h : SlR sz E w a cap xs) (hE : ∀ b o x, x ∈ xs → E w b o x → E' w' b o x) : SlR sz E' w' a cap xs := by
  obtain ⟨h1, h2, h3⟩ := h
  refine ⟨h1, h2, fun k x hx => ?_⟩
  obtain ⟨b, off, ha, he⟩ := h3 k x hx
  exact ⟨b, off, ha, hE _ _ _ (List.mem_of_getElem? hx) he⟩
theorem SlR.len (h : SlR sz E w a cap xs) : xs.length ≤ 9223372036854775807 := by have h1 := h.1; have h2 := h.2.1; unfold maxLen at h2; omega
theorem SlR.at_ (h : SlR sz E w a cap xs) {k : Nat} (hk : k < xs.length) : ∃ b off, a = some ⟨b, off, none⟩ ∧ E w b (off + k * sz) xs[k] :=
  h.2.2 k _ (List.getElem?_eq_getElem hk)
end

def IntE (k : IntKind) (w : World) (b o : Nat) (x : Int) : Prop := w.cell? ⟨b, o, none⟩ = some (.int k x) ∧ (Lit.int k x).wf = true
def StrE (w : World) (b o : Nat) (x : ByteArray) : Prop := w.cell? ⟨b, o, none⟩ = some (.string x)
def BoolE (w : World) (b o : Nat) (x : Bool) : Prop := w.cell? ⟨b, o, none⟩ = some (.bool x)
theorem IntE.ext {k : IntKind} {w w' : World} {b o : Nat} {x : Int} (h : IntE k w b o x) (e : Ext w w') : IntE k w' b o x := ⟨e _ _ h.1, h.2⟩
theorem StrE.ext {w w' : World} {b o : Nat} {x : ByteArray} (h : StrE w b o x) (e : Ext w w') : StrE w' b o x := e _ _ h

def IntsR (w : World) (a : Option Addr) (cap : Nat) (xs : List Int) : Prop := SlR 1 (IntE .i64) w a cap xs
def NatR (w : World) (a : Option Addr) (cap : Nat) (xs : List Int) : Prop := SlR 1 (IntE .u16) w a cap xs
def StrsR (w : World) (a : Option Addr) (cap : Nat) (xs : List ByteArray) : Prop := SlR 1 StrE w a cap xs
section
variable {w w' : World} {a : Option Addr} {cap : Nat}
theorem IntsR.ext {xs : List Int} (h : IntsR w a cap xs) (e : Ext w w') : IntsR w' a cap xs := SlR.mono h fun _ _ _ _ h => h.ext e
theorem NatR.ext {xs : List Int} (h : NatR w a cap xs) (e : Ext w w') : NatR w' a cap xs := SlR.mono h fun _ _ _ _ h => h.ext e
theorem StrsR.ext {xs : List ByteArray} (h : StrsR w a cap xs) (e : Ext w w') : StrsR w' a cap xs := SlR.mono h fun _ _ _ _ h => h.ext e
end

/-- the bounds of Go's int -/
def InInt (x : Int) : Prop := -9223372036854775808 ≤ x ∧ x ≤ 9223372036854775807
theorem inInt_of {x : Int} (h : (Lit.int .i64 x).wf = true) : InInt x := by
  simpa [Lit.wf, IntKind.min, IntKind.max, IntKind.signed, IntKind.bits, InInt] using h
theorem wf_of {x : Int} (h : InInt x) : (Lit.int .i64 x).wf = true := by
  simpa [Lit.wf, IntKind.min, IntKind.max, IntKind.signed, IntKind.bits, InInt] using h
theorem u16_of {x : Int} (h : (Lit.int .u16 x).wf = true) : 0 ≤ x ∧ x ≤ 65535 := by
  simpa [Lit.wf, IntKind.min, IntKind.max, IntKind.signed, IntKind.bits] using h
theorem u16_wf {x : Int} (h : 0 ≤ x ∧ x ≤ 65535) : (Lit.int .u16 x).wf = true := by
  simpa [Lit.wf, IntKind.min, IntKind.max, IntKind.signed, IntKind.bits] using h

end Go.Proofs.Ytfahnnkppakiiaa

/- Figures: steps and facts as they lie in memory. No function of the program in sight. -/
namespace Go.Proofs.Ytfahnnkppakiiaa
open Go.RowKit

/-- a rational number as it lies in memory -/
structure Rt where
  neg : Bool
  num : List Int
  den : List Int
def Rt.val (r : Rt) (na : Option Addr) (nc : Nat) (da : Option Addr) (dc : Nat) : Value := .agg #[.bool r.neg, .slice na r.num.length nc, .slice da r.den.length dc]
structure Step where
  kind : Int
  point : ByteArray
  args : List Int
  ratio : Rt
structure Fct where
  kind : Int
  args : List Int
  ratio : Rt
structure Fig where
  steps : List Step
  goals : List Fct
def Fct.val (f : Fct) (aa : Option Addr) (ac : Nat) (na : Option Addr) (nc : Nat) (da : Option Addr) (dc : Nat) : Value := .agg #[.int .i64 f.kind, .slice aa f.args.length ac, .bool f.ratio.neg, .slice na f.ratio.num.length nc, .slice da f.ratio.den.length dc]
def Step.val (s : Step) (aa : Option Addr) (ac : Nat) (na : Option Addr) (nc : Nat) (da : Option Addr) (dc : Nat) : Value := .agg #[.int .i64 s.kind, .string s.point, .slice aa s.args.length ac, .bool s.ratio.neg, .slice na s.ratio.num.length nc, .slice da s.ratio.den.length dc]
/-- where the slices of a step or a fact lie -/
structure RA where
  aa : Option Addr
  ac : Nat
  na : Option Addr
  nc : Nat
  da : Option Addr
  dc : Nat
/-- what the slices of a step or a fact hold -/
def PartsR (w : World) (p : RA) (args : List Int) (r : Rt) : Prop := IntsR w p.aa p.ac args ∧ NatR w p.na p.nc r.num ∧ NatR w p.da p.dc r.den
theorem PartsR.ext {w w' : World} {p : RA} {args : List Int} {r : Rt} (h : PartsR w p args r) (e : Ext w w') : PartsR w' p args r := ⟨h.1.ext e, h.2.1.ext e, h.2.2.ext e⟩
def StepC (w : World) (b o : Nat) (p : RA) (s : Step) : Prop :=
  w.cell? ⟨b, o, none⟩ = some (.int .i64 s.kind) ∧ w.cell? ⟨b, o + 1, none⟩ = some (.string s.point) ∧ w.cell? ⟨b, o + 2, none⟩ = some (.slice p.aa s.args.length p.ac) ∧
  w.cell? ⟨b, o + 3, none⟩ = some (.bool s.ratio.neg) ∧ w.cell? ⟨b, o + 4, none⟩ = some (.slice p.na s.ratio.num.length p.nc) ∧ w.cell? ⟨b, o + 5, none⟩ = some (.slice p.da s.ratio.den.length p.dc)
def FctC (w : World) (b o : Nat) (p : RA) (s : Fct) : Prop :=
  w.cell? ⟨b, o, none⟩ = some (.int .i64 s.kind) ∧ w.cell? ⟨b, o + 1, none⟩ = some (.slice p.aa s.args.length p.ac) ∧
  w.cell? ⟨b, o + 2, none⟩ = some (.bool s.ratio.neg) ∧ w.cell? ⟨b, o + 3, none⟩ = some (.slice p.na s.ratio.num.length p.nc) ∧ w.cell? ⟨b, o + 4, none⟩ = some (.slice p.da s.ratio.den.length p.dc)
theorem StepC.ext {w w' : World} {b o : Nat} {p : RA} {s : Step} (h : StepC w b o p s) (e : Ext w w') : StepC w' b o p s :=
  ⟨e _ _ h.1, e _ _ h.2.1, e _ _ h.2.2.1, e _ _ h.2.2.2.1, e _ _ h.2.2.2.2.1, e _ _ h.2.2.2.2.2⟩
theorem FctC.ext {w w' : World} {b o : Nat} {p : RA} {s : Fct} (h : FctC w b o p s) (e : Ext w w') : FctC w' b o p s :=
  ⟨e _ _ h.1, e _ _ h.2.1, e _ _ h.2.2.1, e _ _ h.2.2.2.1, e _ _ h.2.2.2.2⟩
def StepE (w : World) (b o : Nat) (s : Step) : Prop := ∃ p, StepC w b o p s ∧ PartsR w p s.args s.ratio ∧ InInt s.kind ∧ s.point.size ≤ 9223372036854775807
def FctE (w : World) (b o : Nat) (s : Fct) : Prop := ∃ p, FctC w b o p s ∧ PartsR w p s.args s.ratio ∧ InInt s.kind
def StepsR (w : World) (a : Option Addr) (c : Nat) (l : List Step) : Prop := SlR 6 StepE w a c l
def FctsR (w : World) (a : Option Addr) (c : Nat) (l : List Fct) : Prop := SlR 5 FctE w a c l
theorem StepsR.ext {w w' : World} {a : Option Addr} {c : Nat} {l : List Step} (h : StepsR w a c l) (e : Ext w w') : StepsR w' a c l :=
  SlR.mono h fun _ _ _ _ ⟨p, h1, h2, h3⟩ => ⟨p, h1.ext e, h2.ext e, h3⟩
theorem FctsR.ext {w w' : World} {a : Option Addr} {c : Nat} {l : List Fct} (h : FctsR w a c l) (e : Ext w w') : FctsR w' a c l :=
  SlR.mono h fun _ _ _ _ ⟨p, h1, h2, h3⟩ => ⟨p, h1.ext e, h2.ext e, h3⟩
def Fig.val (f : Fig) (sa : Option Addr) (sc : Nat) (ga : Option Addr) (gc : Nat) : Value := .agg #[.slice sa f.steps.length sc, .slice ga f.goals.length gc]
def FigR (w : World) (sa : Option Addr) (sc : Nat) (ga : Option Addr) (gc : Nat) (f : Fig) : Prop := StepsR w sa sc f.steps ∧ FctsR w ga gc f.goals
theorem FigR.ext {w w' : World} {sa : Option Addr} {sc : Nat} {ga : Option Addr} {gc : Nat} {f : Fig} (h : FigR w sa sc ga gc f) (e : Ext w w') : FigR w' sa sc ga gc f := ⟨h.1.ext e, h.2.ext e⟩
/-- few limbs -/
def Rt.few (r : Rt) : Prop := r.num.length ≤ 2000000 ∧ r.den.length ≤ 2000000
def Fig.few (f : Fig) : Prop := (∀ s ∈ f.steps, s.ratio.few) ∧ (∀ g ∈ f.goals, g.ratio.few)

end Go.Proofs.Ytfahnnkppakiiaa

/- Words for slices that a call makes itself by append: they are owned, they grow, they read as lists. No function of the program in sight. -/
namespace Go.Proofs.Ytfahnnkppakiiaa
open Go.RowKit

theorem flatMap_at {α : Type} {f : α → List Value} {sz : Nat} (hf : ∀ x, (f x).length = sz) : ∀ (l : List α) (k : Nat) (x : α) (j : Nat), l[k]? = some x → j < sz → (l.flatMap f)[k * sz + j]? = (f x)[j]?
  | [], k, x, j, h, _ => by simp at h
  | y :: l, 0, x, j, h, hj => by
    simp at h; subst h
    simp only [List.flatMap_cons, Nat.zero_mul, Nat.zero_add]
    rw [List.getElem?_append_left (by rw [hf]; exact hj)]
  | y :: l, k + 1, x, j, h, hj => by
    simp only [List.flatMap_cons]
    rw [List.getElem?_append_right (by rw [hf, Nat.add_mul]; omega)]
    have := flatMap_at hf l k x j (by simpa using h) hj
    rw [← this, hf, Nat.add_mul]
    congr 1; omega
theorem flatMap_len {α : Type} {f : α → List Value} {sz : Nat} (hf : ∀ x, (f x).length = sz) (l : List α) : (l.flatMap f).length = l.length * sz := by
  induction l with
  | nil => simp
  | cons x l ih => simp only [List.flatMap_cons, List.length_append, List.length_cons, ih, hf, Nat.add_mul]; omega

/-- the call owns the slice '.slice a l.length c', whose elements are the cells that f gives, in a block from B on -/
def Own {α : Type} (f : α → List Value) (sz : Nat) (t : TypeId) (B : Nat) (w : World) (a : Option Addr) (c : Nat) (l : List α) : Prop :=
  w.ownsRow B t sz (.slice a l.length c) l.length (l.flatMap f)

section
variable {α : Type} {f : α → List Value} {sz : Nat} {t : TypeId} {B : Nat} {w w' : World} {a : Option Addr} {c : Nat} {l : List α}
theorem Own.nil : Own f sz t B w none 0 ([] : List α) := World.ownsRow_nil w B t sz
theorem Own.drew (h : Own f sz t B w a c l) : Own f sz t B w.drew a c l := h
theorem Own.alloc (h : Own f sz t B w a c l) (o : Obj) : Own f sz t B (w.alloc o) a c l := World.ownsRow.alloc h o
theorem Own.grown (h : Own f sz t B w a c l) {row : Option Nat} (hg : w.grownBy w' row) (hne : ∀ g, a = some g → row ≠ some g.block) : Own f sz t B w' a c l := by
  refine World.ownsRow.kept h hg ?_
  cases a with
  | none => exact .inl rfl
  | some g => exact .inr (fun e => hne g rfl (by rw [← e]; rfl))
theorem Own.lt (h : Own f sz t B w a c l) {g : Addr} (e : a = some g) : B ≤ g.block ∧ g.block < w.heap.size := World.ownsRow.lt h g.block (by subst e; rfl)
/-- what lies below a later base is not touched: the row stays -/
theorem Own.below (h : Own f sz t B w a c l) (hb : Below w.heap.size w w') : Own f sz t B w' a c l := by
  refine ⟨h.1, ?_⟩
  rcases h.2 with hn | ⟨g, cap, cur, e, hg, hh, rest⟩
  · exact .inl hn
  · exact .inr ⟨g, cap, cur, e, hg, (hb.block g (Array.getElem?_eq_some_iff.1 hh).1).trans hh, rest⟩
theorem Own.base {B' : Nat} (h : Own f sz t B w a c l) (hB : B' ≤ B) : Own f sz t B' w a c l := by
  refine ⟨h.1, ?_⟩
  rcases h.2 with hn | ⟨g, cap, cur, e, hg, rest⟩
  · exact .inl hn
  · exact .inr ⟨g, cap, cur, e, by omega, rest⟩
theorem Own.cap (h : Own f sz t B w a c l) : l.length ≤ c ∧ c ≤ maxLen := by
  rcases h.2 with ⟨e, hn⟩ | ⟨g, cap, cur, e, _, _, h1, h2, _⟩
  · injection e with _ _ e3
    rw [hn, e3]; exact ⟨Nat.le_refl _, by simp [maxLen]⟩
  · injection e with _ _ e3
    subst e3
    exact ⟨h1, h2⟩
theorem Own.at_ (hf : ∀ x, (f x).length = sz) (h : Own f sz t B w a c l) {k : Nat} {x : α} (hx : l[k]? = some x) :
    ∃ g, a = some ⟨g, 0, none⟩ ∧ B ≤ g ∧ g < w.heap.size ∧ ∀ j u, (f x)[j]? = some u → w.cell? ⟨g, k * sz + j, none⟩ = some u := by
  have hk := lt_of_get hx
  obtain ⟨g, cap, hv, hb, hlt⟩ := h.form (by omega)
  injection hv with h1 h2
  refine ⟨g, h1, hb, hlt, fun j u hu => ?_⟩
  have hj : j < sz := by rw [← hf x]; exact lt_of_get hu
  have := World.ownsRow.cells h (g := g) (by rw [h1]; rfl) (k * sz + j) u (by rw [flatMap_at hf l k x j hx hj]; exact hu)
  rwa [Addr.add_lit, Nat.zero_add] at this
/-- an owned slice reads as its list -/
theorem Own.reads {E : World → Nat → Nat → α → Prop} (hf : ∀ x, (f x).length = sz) (h : Own f sz t B w a c l)
    (hE : ∀ g o x, x ∈ l → (∀ j u, (f x)[j]? = some u → w.cell? ⟨g, o + j, none⟩ = some u) → E w g o x) : SlR sz E w a c l := by
  refine ⟨h.cap.1, h.cap.2, fun k x hx => ?_⟩
  obtain ⟨g, ha, _, _, hc⟩ := h.at_ hf hx
  exact ⟨g, 0, ha, hE _ _ _ (List.mem_of_getElem? hx) (by simpa using hc)⟩
theorem Own.readsM {β : Type} {E : World → Nat → Nat → β → Prop} (g : α → β) (hf : ∀ x, (f x).length = sz) (h : Own f sz t B w a c l)
    (hE : ∀ b o x, x ∈ l → (∀ j u, (f x)[j]? = some u → w.cell? ⟨b, o + j, none⟩ = some u) → E w b o (g x)) : SlR sz E w a c (l.map g) := by
  refine ⟨by simpa using h.cap.1, h.cap.2, fun k y hy => ?_⟩
  rw [List.getElem?_map] at hy
  obtain ⟨x, hx, rfl⟩ := Option.map_eq_some_iff.1 hy
  obtain ⟨b, ha, _, _, hc⟩ := h.at_ hf hx
  exact ⟨b, 0, ha, hE _ _ _ (List.mem_of_getElem? hx) (by simpa using hc)⟩
end

/-- block g is just these cells, none of them shut -/
def Blk (w : World) (g : Nat) (t : TypeId) (cs : Array Value) : Prop := w.heap[g]? = some (.cells cs t (0, 0))
section
variable {w w' : World} {g : Nat} {t : TypeId} {cs : Array Value}
theorem Blk.lt (h : Blk w g t cs) : g < w.heap.size := (Array.getElem?_eq_some_iff.1 h).1
theorem Blk.cell (h : Blk w g t cs) (i : Nat) : w.cell? ⟨g, i, none⟩ = cs[i]? := cell_of_row w g i cs t (0, 0) h
theorem Blk.frozen (h : Blk w g t cs) (i : Nat) : w.frozen? ⟨g, i, none⟩ = false := by
  unfold Blk at h
  simp [World.frozen?, h]
theorem Blk.new (w : World) (t : TypeId) (cs : Array Value) : Blk (w.alloc (.cells cs t)) w.heap.size t cs := heap_alloc_new w _
theorem Blk.drew (h : Blk w g t cs) : Blk w.drew g t cs := h
theorem Blk.alloc (h : Blk w g t cs) (o : Obj) : Blk (w.alloc o) g t cs := (Below.heap_alloc w o g h.lt).trans h
theorem Blk.set_ (h : Blk w g t cs) (i : Nat) (u : Value) : Blk (w.setCell ⟨g, i, none⟩ u) g t (cs.setIfInBounds i u) := by
  unfold Blk at h ⊢
  simp [World.setCell, Array.getElem?_modify, h]
theorem Blk.far (h : Blk w g t cs) {p : Addr} (hp : g ≠ p.block) (u : Value) : Blk (w.setCell p u) g t cs := (Below.heap_setCell w p u g hp).trans h
theorem Blk.below {B : Nat} (h : Blk w g t cs) (hb : Below B w w') (hg : g < B) : Blk w' g t cs := (hb.block g hg).trans h
theorem Blk.below' (h : Blk w g t cs) (hb : Below w.heap.size w w') : Blk w' g t cs := h.below hb h.lt
theorem Blk.grown {row : Option Nat} (h : Blk w g t cs) (hb : w.grownBy w' row) (hg : some g ≠ row) : Blk w' g t cs := (hb.block g h.lt hg).trans h
/-- a block below the base of a row that grows -/
theorem Blk.under {α : Type} {f : α → List Value} {sz : Nat} {te : TypeId} {B : Nat} {w0 : World} {a : Option Addr} {c : Nat} {l : List α} (h : Blk w g t cs) (ho : Own f sz te B w0 a c l) (hg : g < B)
    (hb : w.grownBy w' (Value.ownBlock (.slice a l.length c))) : Blk w' g t cs := h.grown hb (fun e => by
  cases a with
  | none => simp [Value.ownBlock] at e
  | some p => simp [Value.ownBlock] at e; have := (ho.lt rfl).1; omega)
end

section
variable {α : Type} {f : α → List Value} {sz : Nat} {t : TypeId} {B : Nat} {w : World} {l : List α} {P : Program}
/-- 'l = append(l, x)' of one element that lies in a block of its own -/
theorem wp_append_1 {o : Oper} {act : Act} {K : Act → World → Prop} {Q : Exit → Act → World → Prop} (s y : Operand) (ts : TypeId)
    (ho : o.op = .call { callee := .builtin .append, args := #[s, y], argTypes := #[ts, ts] })
    {z : Value} {bytes : Nat} (ht : P.underlying ts = some (.slice t)) (hi : (P.info? t).map (fun i => (i.zero, i.size, i.bytes)) = some (some z, sz, bytes)) (hz : z.cells.size = sz) (hsz : 0 < sz) (hby : bytes ≤ 1024)
    (hf : ∀ x, (f x).length = sz) (a : Option Addr) (c : Nat) (hs : act.eval s = .slice a l.length c) (hown : Own f sz t B w a c l)
    (x : α) (hone : ∀ u ∈ f x, u.oneCell' = true) (b c1 : Nat) (hy : act.eval y = .slice (some ⟨b, 0, none⟩) 1 c1) (hcell : ∀ j u, (f x)[j]? = some u → w.cell? ⟨b, j, none⟩ = some u)
    (l2 : List α) (hl2 : l2 = l ++ [x]) (hlen : l2.length ≤ 16777216) (hB : B ≤ w.heap.size)
    (h : ∀ a' c' w', Own f sz t B w' a' c' l2 → w.grownBy w' (Value.ownBlock (.slice a l.length c)) → ((∃ g, a' = some ⟨g, 0, none⟩ ∧ (a = some ⟨g, 0, none⟩ ∨ g = w.heap.size))) →
      K (act.put o.dst (.slice a' l2.length c')) w') : o.wp P act w K Q := by
  subst hl2
  obtain ⟨i, hi0, hz0, hz1, hz2⟩ := info_parts hi
  simp only [List.length_append, List.length_cons, List.length_nil, Nat.zero_add] at hlen
  obtain ⟨v', w', hr, h2, h3, _, h5⟩ := run_append_own_at (P := P) w B ts o.type t i z sz bytes ht hi0 hz0 hz1 hz2 hz hsz (.slice a l.length c) l.length (l.flatMap f) hown ⟨b, 0, none⟩ 1 c1 (f x) (by rw [hf]; omega)
    (fun j u hu => by rw [Addr.add_lit, Nat.zero_add]; exact hcell j u hu) hone (by unfold maxLen; omega)
    (by have : (l.length + 1) * bytes ≤ 16777216 * 1024 := Nat.mul_le_mul hlen hby
        omega) hB
  unfold Oper.wp execOp
  simp only [ho, resolve, invoke, builtin, Sem.run_bind, Sem.run_pure, Result.andThen_ok, List.map_toArray, List.map_cons, List.map_nil, hs, hy, hr]
  have hf2 : (l ++ [x]).flatMap f = l.flatMap f ++ f x := by simp
  have hn : (l ++ [x]).length = l.length + 1 := by simp
  obtain ⟨g, cap, hv, hb, hlt⟩ := h2.form (by omega)
  subst hv
  rw [← hn]
  refine h _ _ w' (by unfold Own; rw [hf2, hn]; exact h2) h3 ⟨g, rfl, ?_⟩
  rcases h5 with h5 | h5
  · left
    cases a with
    | none => simp [Value.ownBlock] at h5
    | some g' =>
      have hg' : g = g'.block := by simpa [Value.ownBlock] using h5
      rcases hown.2 with ⟨e, _⟩ | ⟨g2, _, _, e, _⟩
      · cases e
      · injection e with e1
        injection e1 with e1
        subst e1
        simp at hg'
        rw [hg']
  · right
    simpa [Value.ownBlock] using h5
theorem wpList_append_1 {ops : Array Oper} {rest : List Oper} {o : Oper} {act : Act} {Q : Exit → Act → World → Prop} (hgd : o.guard = none) (s y : Operand) (ts : TypeId)
    (ho : o.op = .call { callee := .builtin .append, args := #[s, y], argTypes := #[ts, ts] })
    {z : Value} {bytes : Nat} (ht : P.underlying ts = some (.slice t)) (hi : (P.info? t).map (fun i => (i.zero, i.size, i.bytes)) = some (some z, sz, bytes)) (hz : z.cells.size = sz) (hsz : 0 < sz) (hby : bytes ≤ 1024)
    (hf : ∀ x, (f x).length = sz) (a : Option Addr) (c : Nat) (hs : act.eval s = .slice a l.length c) (hown : Own f sz t B w a c l)
    (x : α) (hone : ∀ u ∈ f x, u.oneCell' = true) (b c1 : Nat) (hy : act.eval y = .slice (some ⟨b, 0, none⟩) 1 c1) (hcell : ∀ j u, (f x)[j]? = some u → w.cell? ⟨b, j, none⟩ = some u)
    (l2 : List α) (hl2 : l2 = l ++ [x]) (hlen : l2.length ≤ 16777216) (hB : B ≤ w.heap.size)
    (h : ∀ a' c' w', Own f sz t B w' a' c' l2 → w.grownBy w' (Value.ownBlock (.slice a l.length c)) → ((∃ g, a' = some ⟨g, 0, none⟩ ∧ (a = some ⟨g, 0, none⟩ ∨ g = w.heap.size))) →
      wpList P ops Q rest (act.put o.dst (.slice a' l2.length c')) w') : wpList P ops Q (o :: rest) act w :=
  wpList_plain hgd fun _ hK => wp_append_1 s y ts ho ht hi hz hsz hby hf a c hs hown x hone b c1 hy hcell l2 hl2 hlen hB fun a' c' w' h1 h2 h3 => hK _ _ (h a' c' w' h1 h2 h3)
end

/-- what an append leaves of the blocks below -/
theorem below_append {W w w' : World} {a : Option Addr} {n c : Nat} (h : Below W.heap.size W w) (hg : w.grownBy w' (Value.ownBlock (.slice a n c))) (hr : ∀ g, a = some g → W.heap.size ≤ g.block) : Below W.heap.size W w' :=
  h.grown hg h.size (fun k hk => by
    cases a with
    | none => simp [Value.ownBlock] at hk
    | some g => simp [Value.ownBlock] at hk; subst hk; exact hr g rfl)
theorem below_append' {W w w' : World} {α : Type} {f : α → List Value} {sz : Nat} {t : TypeId} {a : Option Addr} {c : Nat} {l : List α} (h : Below W.heap.size W w) (ho : Own f sz t W.heap.size w a c l)
    (hg : w.grownBy w' (Value.ownBlock (.slice a l.length c))) : Below W.heap.size W w' := below_append h hg fun _ e => (ho.lt e).1

/-- a cell of a block that is younger than the row stays behind an append to the row -/
theorem Own.young {w0 w w' : World} {α : Type} {f : α → List Value} {sz : Nat} {t : TypeId} {B : Nat} {a : Option Addr} {c : Nat} {l : List α} (ho : Own f sz t B w0 a c l)
    (hg : w.grownBy w' (Value.ownBlock (.slice a l.length c))) {p : Addr} {v : Value} (h : w.cell? p = some v) (hp : w0.heap.size ≤ p.block) : w'.cell? p = some v :=
  hg.cell h (fun e => by
    cases a with
    | none => simp [Value.ownBlock] at e
    | some g => simp [Value.ownBlock] at e; have := (ho.lt rfl).2; omega)

end Go.Proofs.Ytfahnnkppakiiaa

/- Slices of strings and of integers that a call makes itself: this program's types. -/
namespace Go.Proofs.Ytfahnnkppakiiaa
open Go.RowKit

def strC (s : ByteArray) : List Value := [.string s]
def intC (x : Int) : List Value := [.int .i64 x]
theorem strC_len (s : ByteArray) : (strC s).length = 1 := rfl
theorem intC_len (s : Int) : (intC s).length = 1 := rfl
theorem strC_one (s : ByteArray) : ∀ u ∈ strC s, u.oneCell' = true := by simp [strC, Value.oneCell']
theorem intC_one (s : Int) : ∀ u ∈ intC s, u.oneCell' = true := by simp [intC, Value.oneCell']
theorem strC_cell {w : World} {b : Nat} {s : ByteArray} (h : w.cell? ⟨b, 0, none⟩ = some (.string s)) : ∀ j u, (strC s)[j]? = some u → w.cell? ⟨b, j, none⟩ = some u := by
  intro j u hu
  match j, hu with
  | 0, hu => simp [strC] at hu; subst hu; exact h
theorem intC_cell {w : World} {b : Nat} {s : Int} (h : w.cell? ⟨b, 0, none⟩ = some (.int .i64 s)) : ∀ j u, (intC s)[j]? = some u → w.cell? ⟨b, j, none⟩ = some u := by
  intro j u hu
  match j, hu with
  | 0, hu => simp [intC] at hu; subst hu; exact h
/-- the call owns a slice of strings -/
abbrev OwnS (B : Nat) (w : World) (a : Option Addr) (c : Nat) (l : List ByteArray) : Prop := Own strC 1 9 B w a c l
/-- the call owns a slice of integers -/
abbrev OwnI (B : Nat) (w : World) (a : Option Addr) (c : Nat) (l : List Int) : Prop := Own intC 1 3 B w a c l
theorem infoS : (Try.prog.info? 9).map (fun i => (i.zero, i.size, i.bytes)) = some (some (.string ⟨#[]⟩), 1, 16) := by kernel_rfl
theorem infoI : (Try.prog.info? 3).map (fun i => (i.zero, i.size, i.bytes)) = some (some (.int .i64 0), 1, 8) := by kernel_rfl
section
variable {B : Nat} {w : World} {a : Option Addr} {c : Nat}
theorem OwnS.at1 {l : List ByteArray} (h : OwnS B w a c l) {k : Nat} {x : ByteArray} (hx : l[k]? = some x) : ∃ g, a = some ⟨g, 0, none⟩ ∧ B ≤ g ∧ g < w.heap.size ∧ w.cell? ⟨g, k, none⟩ = some (.string x) := by
  obtain ⟨g, ha, hb, hlt, hc⟩ := h.at_ strC_len hx
  exact ⟨g, ha, hb, hlt, by simpa using hc 0 _ rfl⟩
theorem OwnI.at1 {l : List Int} (h : OwnI B w a c l) {k : Nat} {x : Int} (hx : l[k]? = some x) : ∃ g, a = some ⟨g, 0, none⟩ ∧ B ≤ g ∧ g < w.heap.size ∧ w.cell? ⟨g, k, none⟩ = some (.int .i64 x) := by
  obtain ⟨g, ha, hb, hlt, hc⟩ := h.at_ intC_len hx
  exact ⟨g, ha, hb, hlt, by simpa using hc 0 _ rfl⟩
theorem OwnS.reads1 {l : List ByteArray} (h : OwnS B w a c l) : StrsR w a c l :=
  Own.reads strC_len h fun g o x hx hc => show w.cell? _ = _ by simpa using hc 0 _ rfl
theorem OwnI.reads1 {l : List Int} (h : OwnI B w a c l) (hs : ∀ s ∈ l, InInt s) : IntsR w a c l :=
  Own.reads intC_len h fun g o x hx hc => ⟨by simpa using hc 0 _ rfl, wf_of (hs x hx)⟩
end

/-- 'l = append(l, s)', s a string -/
theorem append_str {B : Nat} {w : World} {l : List ByteArray} {ops : Array Oper} {rest : List Oper} {o : Oper} {act : Act} {Q : Exit → Act → World → Prop} (hgd : o.guard = none) (s y : Operand)
    (ho : o.op = .call { callee := .builtin .append, args := #[s, y], argTypes := #[111, 111] })
    (a : Option Addr) (c : Nat) (hs : act.eval s = .slice a l.length c) (hown : OwnS B w a c l)
    (x : ByteArray) (b c1 : Nat) (hy : act.eval y = .slice (some ⟨b, 0, none⟩) 1 c1) (hcell : w.cell? ⟨b, 0, none⟩ = some (.string x))
    (l2 : List ByteArray) (hl2 : l2 = l ++ [x]) (hlen : l2.length ≤ 16777216) (hB : B ≤ w.heap.size)
    (h : ∀ a' c' w', OwnS B w' a' c' l2 → w.grownBy w' (Value.ownBlock (.slice a l.length c)) → ((∃ g, a' = some ⟨g, 0, none⟩ ∧ (a = some ⟨g, 0, none⟩ ∨ g = w.heap.size))) →
      wpList Try.prog ops Q rest (act.put o.dst (.slice a' l2.length c')) w') : wpList Try.prog ops Q (o :: rest) act w :=
  wpList_append_1 hgd s y 111 ho Try.underlying111 infoS rfl (by omega) (by omega) strC_len a c hs hown x (strC_one x) b c1 hy (strC_cell hcell) l2 hl2 hlen hB h
/-- 'l = append(l, n)', n an integer -/
theorem append_int {B : Nat} {w : World} {l : List Int} {ops : Array Oper} {rest : List Oper} {o : Oper} {act : Act} {Q : Exit → Act → World → Prop} (hgd : o.guard = none) (s y : Operand)
    (ho : o.op = .call { callee := .builtin .append, args := #[s, y], argTypes := #[23, 23] })
    (a : Option Addr) (c : Nat) (hs : act.eval s = .slice a l.length c) (hown : OwnI B w a c l)
    (x : Int) (b c1 : Nat) (hy : act.eval y = .slice (some ⟨b, 0, none⟩) 1 c1) (hcell : w.cell? ⟨b, 0, none⟩ = some (.int .i64 x))
    (l2 : List Int) (hl2 : l2 = l ++ [x]) (hlen : l2.length ≤ 16777216) (hB : B ≤ w.heap.size)
    (h : ∀ a' c' w', OwnI B w' a' c' l2 → w.grownBy w' (Value.ownBlock (.slice a l.length c)) → ((∃ g, a' = some ⟨g, 0, none⟩ ∧ (a = some ⟨g, 0, none⟩ ∨ g = w.heap.size))) →
      wpList Try.prog ops Q rest (act.put o.dst (.slice a' l2.length c')) w') : wpList Try.prog ops Q (o :: rest) act w :=
  wpList_append_1 hgd s y 23 ho Try.underlying23 infoI rfl (by omega) (by omega) intC_len a c hs hown x (intC_one x) b c1 hy (intC_cell hcell) l2 hl2 hlen hB h

end Go.Proofs.Ytfahnnkppakiiaa

/- What a call has made is read in any world that holds the cells that were there and the new ones. No function of the program in sight. -/
namespace Go.Proofs.Ytfahnnkppakiiaa
open Go.RowKit

/-- V holds the cells of w that lie in blocks from B on -/
def New (B : Nat) (w V : World) : Prop := ∀ p v, B ≤ p.block → w.cell? p = some v → V.cell? p = some v
/-- the same, but for the block of the slice at a -/
def NewBut (B : Nat) (a : Option Addr) (w V : World) : Prop := ∀ p v, B ≤ p.block → (∀ g, a = some g → p.block ≠ g.block) → w.cell? p = some v → V.cell? p = some v
theorem New.refl (B : Nat) (w : World) : New B w w := fun _ _ _ h => h
theorem New.base {B B' : Nat} {w V : World} (h : New B w V) (hB : B ≤ B') : New B' w V := fun p v hp hc => h p v (Nat.le_trans hB hp) hc
theorem New.but {B : Nat} {w V : World} (h : New B w V) (a : Option Addr) : NewBut B a w V := fun p v hp _ hc => h p v hp hc
/-- behind laying blocks and an append to the row at a, which now lies at a' -/
theorem NewBut.back {B : Nat} {w w1 w2 V : World} {a a' : Option Addr} {n c : Nat} (h : NewBut B a' w2 V) (hb : Below w.heap.size w w1) (hg : w1.grownBy w2 (Value.ownBlock (.slice a n c)))
    (ha : ∃ g, a' = some ⟨g, 0, none⟩ ∧ (a = some ⟨g, 0, none⟩ ∨ g = w1.heap.size)) : NewBut B a w V := fun p v hp hne hc => by
  obtain ⟨g, rfl, hga⟩ := ha
  have hlt := World.block_lt_of_cell? w p hc
  have h1 : w1.cell? p = some v := (hb.cell hlt).trans hc
  have hlt1 := World.block_lt_of_cell? w1 p h1
  refine h p v hp (fun g' e => ?_) (hg.cell h1 (fun e => ?_))
  · injection e with e
    subst e
    rcases hga with h2 | h2
    · exact hne _ h2
    · simp; omega
  · cases a with
    | none => simp [Value.ownBlock] at e
    | some g0 => exact hne _ rfl (by simpa [Value.ownBlock] using e)
/-- what a call made ahead of the append -/
theorem NewBut.fresh {B B' : Nat} {w1 w2 w3 V : World} {a a' : Option Addr} {n c : Nat} (h : NewBut B a' w3 V) (hB : B ≤ B') (hb : Below w1.heap.size w1 w2) (hg : w2.grownBy w3 (Value.ownBlock (.slice a n c)))
    (ha : ∃ g, a' = some ⟨g, 0, none⟩ ∧ (a = some ⟨g, 0, none⟩ ∨ g = w2.heap.size)) (hlt : ∀ g, a = some g → g.block < B') : New B' w1 V := fun p v hp hc => by
  refine NewBut.back h hb hg ha p v (Nat.le_trans hB hp) (fun g e => ?_) hc
  have := hlt g e
  omega
section
variable {α : Type} {f : α → List Value} {sz : Nat} {t : TypeId} {B : Nat} {w V : World} {a : Option Addr} {c : Nat} {l : List α}
theorem Own.readsIn {β : Type} {E : World → Nat → Nat → β → Prop} (g : α → β) (hf : ∀ x, (f x).length = sz) (h : Own f sz t B w a c l) (hV : New B w V)
    (hE : ∀ b o x, x ∈ l → (∀ j u, (f x)[j]? = some u → V.cell? ⟨b, o + j, none⟩ = some u) → E V b o (g x)) : SlR sz E V a c (l.map g) := by
  refine ⟨by simpa using h.cap.1, h.cap.2, fun k y hy => ?_⟩
  rw [List.getElem?_map] at hy
  obtain ⟨x, hx, rfl⟩ := Option.map_eq_some_iff.1 hy
  obtain ⟨b, ha, hB, _, hc⟩ := h.at_ hf hx
  exact ⟨b, 0, ha, hE _ _ _ (List.mem_of_getElem? hx) (fun j u hu => hV _ _ hB (by simpa using hc j u hu))⟩
end
section
variable {α : Type} {f : α → List Value} {sz : Nat} {t : TypeId} {B : Nat} {w V : World} {a : Option Addr} {c : Nat} {l : List α}
/-- a cell below the row's base is set -/
theorem Own.far (h : Own f sz t B w a c l) {p : Addr} (hp : p.block < B) (u : Value) : Own f sz t B (w.setCell p u) a c l := by
  refine ⟨h.1, ?_⟩
  rcases h.2 with hn | ⟨g, cap, cur, e, hg, hh, rest⟩
  · exact .inl hn
  · exact .inr ⟨g, cap, cur, e, hg, (Below.heap_setCell w p u _ (by omega)).trans hh, rest⟩
end
theorem NewBut.unset {B : Nat} {a : Option Addr} {w V : World} {p : Addr} {u : Value} (h : NewBut B a (w.setCell p u) V) (hp : p.block < B) : NewBut B a w V := fun q v hq hne hc =>
  h q v hq hne ((World.cell?_setCell_other w p q u (fun e => by subst e; omega)).trans hc)
theorem New.unset {B : Nat} {w V : World} {p : Addr} {u : Value} (h : New B (w.setCell p u) V) (hp : p.block < B) : New B w V := fun q v hq hc =>
  h q v hq ((World.cell?_setCell_other w p q u (fun e => by subst e; omega)).trans hc)
theorem blk_at1 (w : World) (o : Obj) (t : TypeId) (cs : Array Value) : Blk ((w.alloc o).alloc (.cells cs t)) (w.heap.size + 1) t cs := by have := Blk.new (w.alloc o) t cs; simpa using this
theorem blk_at2 (w : World) (o o2 : Obj) (t : TypeId) (cs : Array Value) : Blk (((w.alloc o).alloc o2).alloc (.cells cs t)) (w.heap.size + 1 + 1) t cs := by have := Blk.new ((w.alloc o).alloc o2) t cs; simpa using this
theorem New.below {B : Nat} {w w' V : World} (h : New B w' V) (hb : Below w.heap.size w w') : New B w V := fun p v hp hc => h p v hp ((hb.cell (World.block_lt_of_cell? w p hc)).trans hc)
theorem New.unalloc {B : Nat} {w V : World} {o : Obj} (h : New B (w.alloc o) V) : New B w V := fun p v hp hc => h p v hp ((World.cell?_alloc_lt w o p (World.block_lt_of_cell? w p hc)).trans hc)
end Go.Proofs.Ytfahnnkppakiiaa
