/- Natural numbers as lists of limbs: the value of a list, the list of a value. No function of the program in sight. -/
import Derived.WalkKit
import Derived.WalkSpells
import Derived.WalkLawsBesides
import Derived.ProofKit
import Derived.LoopTactic
import Derived.Handy
import Derived.Lib.Hide
import Derived.OwnWalk
import Derived.Maps.AppendAt
import Derived.Deep.AppendLies
import Derived.Deep.DeepCutAuto

/- Words for memory that is only read: integers, strings and structs in slices, each as a plain list. No function of the program in sight. -/
namespace Go.Proofs.YtaihkpjbnkgmlaaGreat
open Go.RowKit

theorem ret_int {k : IntKind} {a b : Int} (h : a = b) : Ending.returned (.int k a) = .returned (.int k b) := by rw [h]
theorem ret_bool {a b : Bool} (h : a = b) : Ending.returned (.bool a) = .returned (.bool b) := by rw [h]
theorem val_int {k : IntKind} {a b : Int} (h : a = b) : Value.int k a = .int k b := by rw [h]

theorem take_more {α : Type} {xs : List α} {k : Nat} {x : α} (h : xs[k]? = some x) : xs.take (k + 1) = xs.take k ++ [x] := by rw [List.take_add_one, h]; rfl
theorem take_all {α : Type} {xs : List α} {k : Nat} (h : ¬ k < xs.length) : xs.take k = xs := List.take_of_length_le (by omega)
theorem lt_of_get {α : Type} {xs : List α} {k : Nat} {x : α} (h : xs[k]? = some x) : k < xs.length := (List.getElem?_eq_some_iff.1 h).1
theorem get_of_lt {α : Type} {xs : List α} {k : Nat} (h : k < xs.length) : ∃ x, xs[k]? = some x := ⟨_, List.getElem?_eq_getElem h⟩

/-! ### Strings -/
theorem toList_loop (b : ByteArray) : ∀ (n i : Nat) (r : List UInt8), b.size - i = n → ByteArray.toList.loop b i r = r.reverse ++ b.data.toList.drop i := by
 intro n
 induction n with
 | zero =>
  intro i r h
  unfold ByteArray.toList.loop
  rw [if_neg (by omega)]
  have : b.data.toList.length ≤ i := by have : b.data.toList.length = b.size := by rw [Array.length_toList]; rfl
                                        omega
  rw [List.drop_eq_nil_of_le this, List.append_nil]
 | succ n ih =>
  intro i r h
  unfold ByteArray.toList.loop
  rw [if_pos (by omega)]
  have hl : i < b.data.toList.length := by have : b.data.toList.length = b.size := by rw [Array.length_toList]; rfl
                                           omega
  rw [ih (i + 1) _ (by omega), List.drop_eq_getElem_cons hl]
  have : b.get! i = b.data.toList[i] := by
   have hs : i < b.data.size := by simpa using hl
   simp [ByteArray.get!, getElem!_pos b.data i hs]
  simp [this]
theorem toList_data (b : ByteArray) : b.toList = b.data.toList := by
 have h := toList_loop b _ 0 [] rfl
 simpa [ByteArray.toList] using h
theorem str_eq {a b : ByteArray} : a.toList = b.toList ↔ a = b := by
 rw [toList_data, toList_data]
 constructor
 ·
  intro h
  cases a; cases b
  simp at h
  rw [h]
 · intro h; rw [h]
theorem str_beq (a b : ByteArray) : (a.toList == b.toList) = decide (a = b) := by
 rw [Bool.eq_iff_iff]; simp [str_eq]
theorem str_empty {a : ByteArray} : a.toList = [] ↔ a = ⟨#[]⟩ := by
 rw [← str_eq (a := a)]; rw [toList_data ⟨#[]⟩]
theorem str_isEmpty (a : ByteArray) : a.toList.isEmpty = decide (a = ⟨#[]⟩) := by
 rw [Bool.eq_iff_iff]; simp [str_empty]
/-! ### Cells that stay -/
/-- every cell that can be read stays as it is -/
def Ext (w w' : World) : Prop := ∀ (a : Addr) (v : Value), w.cell? a = some v → w'.cell? a = some v
theorem Ext.refl (w : World) : Ext w w := fun _ _ h => h
theorem Ext.alloc {w w' : World} (h : Ext w w') (o : Obj) : Ext w (w'.alloc o) := fun p v e => by
 have e' := h p v e
 rw [World.cell?_alloc_lt w' o p (World.block_lt_of_cell? w' p e')]; exact e'
theorem Ext.below {w w' : World} (h : Below w.heap.size w w') : Ext w w' := fun p v e => by
 rw [h.cell (World.block_lt_of_cell? w p e)]; exact e
theorem below_then {w w1 w2 : World} (h : Below w.heap.size w w1) (k : Below w1.heap.size w1 w2) : Below w.heap.size w w2 := h.trans (k.mono h.size)
theorem ext_alloc (w : World) (o : Obj) : Ext w (w.alloc o) := (Ext.refl w).alloc o

/-- a cell that stays, whatever is laid behind it -/
theorem held {w : World} {a : Addr} {v : Value} (h : w.cell? a = some v) : ∀ w', Below w.heap.size w w' → w'.cell? a = some v := fun _ k => Ext.below k _ _ h

/-! ### Slices that read as lists -/
/-- the slice '.slice a xs.length cap' reads as the list xs: each element has sz cells, and 'E' says what they hold -/
def SlR {α : Type} (sz : Nat) (E : World → Nat → Nat → α → Prop) (w : World) (a : Option Addr) (cap : Nat) (xs : List α) : Prop :=
 xs.length ≤ cap ∧ cap ≤ maxLen ∧ ∀ (k : Nat) (x : α), xs[k]? = some x → ∃ b off, a = some ⟨b, off, none⟩ ∧ E w b (off + k * sz) x

section
variable {α : Type} {sz : Nat} {E E' : World → Nat → Nat → α → Prop} {w w' : World} {a : Option Addr} {cap : Nat} {xs : List α}
theorem SlR.nil : SlR sz E w none 0 [] := ⟨Nat.le_refl _, by simp [maxLen], fun k x h => by simp at h⟩
theorem SlR.mono (h : SlR sz E w a cap xs) (hE : ∀ b o x, x ∈ xs → E w b o x → E' w' b o x) : SlR sz E' w' a cap xs := by
 obtain ⟨h1, h2, h3⟩ := h
 refine ⟨h1, h2, fun k x hx => ?_⟩
 obtain ⟨b, off, ha, he⟩ := h3 k x hx
 exact ⟨b, off, ha, hE _ _ _ (List.mem_of_getElem? hx) he⟩
theorem SlR.len (h : SlR sz E w a cap xs) : xs.length ≤ 9223372036854775807 := by have h1 := h.1; have h2 := h.2.1; unfold maxLen at h2; omega
end

def IntE (k : IntKind) (w : World) (b o : Nat) (x : Int) : Prop := w.cell? ⟨b, o, none⟩ = some (.int k x) ∧ (Lit.int k x).wf = true
theorem IntE.ext {k : IntKind} {w w' : World} {b o : Nat} {x : Int} (h : IntE k w b o x) (e : Ext w w') : IntE k w' b o x := ⟨e _ _ h.1, h.2⟩
def IntsR (w : World) (a : Option Addr) (cap : Nat) (xs : List Int) : Prop := SlR 1 (IntE .i64) w a cap xs
def NatR (w : World) (a : Option Addr) (cap : Nat) (xs : List Int) : Prop := SlR 1 (IntE .u16) w a cap xs
section
variable {w w' : World} {a : Option Addr} {cap : Nat}
theorem IntsR.ext {xs : List Int} (h : IntsR w a cap xs) (e : Ext w w') : IntsR w' a cap xs := SlR.mono h fun _ _ _ _ h => h.ext e
theorem NatR.ext {xs : List Int} (h : NatR w a cap xs) (e : Ext w w') : NatR w' a cap xs := SlR.mono h fun _ _ _ _ h => h.ext e
end

/-- the bounds of Go's int -/
def InInt (x : Int) : Prop := -9223372036854775808 ≤ x ∧ x ≤ 9223372036854775807
theorem inInt_of {x : Int} (h : (Lit.int .i64 x).wf = true) : InInt x := by
 simpa [Lit.wf, IntKind.min, IntKind.max, IntKind.signed, IntKind.bits, InInt] using h
theorem u16_of {x : Int} (h : (Lit.int .u16 x).wf = true) : 0 ≤ x ∧ x ≤ 65535 := by
 simpa [Lit.wf, IntKind.min, IntKind.max, IntKind.signed, IntKind.bits] using h
theorem u16_wf {x : Int} (h : 0 ≤ x ∧ x ≤ 65535) : (Lit.int .u16 x).wf = true := by
 simpa [Lit.wf, IntKind.min, IntKind.max, IntKind.signed, IntKind.bits] using h

end Go.Proofs.YtaihkpjbnkgmlaaGreat

/- Words for slices that a call makes itself by append: they are owned, they grow, they read as lists. No function of the program in sight. -/
namespace Go.Proofs.YtaihkpjbnkgmlaaGreat
open Go.RowKit

theorem flatMap_at {α : Type} {f : α → List Value} {sz : Nat} (hf : ∀ x, (f x).length = sz) : ∀ (l : List α) (k : Nat) (x : α) (j : Nat), l[k]? = some x → j < sz → (l.flatMap f)[k * sz + j]? = (f x)[j]?
 | [], k, x, j, h, _ => by simp at h
 | y :: l, 0, x, j, h, hj => by
  simp at h; subst h
  simp only [List.flatMap_cons, Nat.zero_mul, Nat.zero_add]
  rw [List.getElem?_append_left (by rw [hf]; exact hj)]
 | y :: l, k + 1, x, j, h, hj => by
  simp only [List.flatMap_cons]
  rw [List.getElem?_append_right (by rw [hf, Nat.add_mul]; omega)]
  have := flatMap_at hf l k x j (by simpa using h) hj
  rw [← this, hf, Nat.add_mul]
  congr 1; omega
theorem flatMap_len {α : Type} {f : α → List Value} {sz : Nat} (hf : ∀ x, (f x).length = sz) (l : List α) : (l.flatMap f).length = l.length * sz := by
 induction l with
 | nil => simp
 | cons x l ih => simp only [List.flatMap_cons, List.length_append, List.length_cons, ih, hf, Nat.add_mul]; omega

/-- the call owns the slice '.slice a l.length c', whose elements are the cells that f gives, in a block from B on -/
def Own {α : Type} (f : α → List Value) (sz : Nat) (t : TypeId) (B : Nat) (w : World) (a : Option Addr) (c : Nat) (l : List α) : Prop :=
 w.ownsRow B t sz (.slice a l.length c) l.length (l.flatMap f)

section
variable {α : Type} {f : α → List Value} {sz : Nat} {t : TypeId} {B : Nat} {w w' : World} {a : Option Addr} {c : Nat} {l : List α}
theorem Own.nil : Own f sz t B w none 0 ([] : List α) := World.ownsRow_nil w B t sz
theorem Own.alloc (h : Own f sz t B w a c l) (o : Obj) : Own f sz t B (w.alloc o) a c l := World.ownsRow.alloc h o
theorem Own.lt (h : Own f sz t B w a c l) {g : Addr} (e : a = some g) : B ≤ g.block ∧ g.block < w.heap.size := World.ownsRow.lt h g.block (by subst e; rfl)
theorem Own.cap (h : Own f sz t B w a c l) : l.length ≤ c ∧ c ≤ maxLen := by
 rcases h.2 with ⟨e, hn⟩ | ⟨g, cap, cur, e, _, _, h1, h2, _⟩
 ·
  injection e with _ _ e3
  rw [hn, e3]; exact ⟨Nat.le_refl _, by simp [maxLen]⟩
 ·
  injection e with _ _ e3
  subst e3
  exact ⟨h1, h2⟩
theorem Own.at_ (hf : ∀ x, (f x).length = sz) (h : Own f sz t B w a c l) {k : Nat} {x : α} (hx : l[k]? = some x) :
  ∃ g, a = some ⟨g, 0, none⟩ ∧ B ≤ g ∧ g < w.heap.size ∧ ∀ j u, (f x)[j]? = some u → w.cell? ⟨g, k * sz + j, none⟩ = some u := by
 have hk := lt_of_get hx
 obtain ⟨g, cap, hv, hb, hlt⟩ := h.form (by omega)
 injection hv with h1 h2
 refine ⟨g, h1, hb, hlt, fun j u hu => ?_⟩
 have hj : j < sz := by rw [← hf x]; exact lt_of_get hu
 have := World.ownsRow.cells h (g := g) (by rw [h1]; rfl) (k * sz + j) u (by rw [flatMap_at hf l k x j hx hj]; exact hu)
 rwa [Addr.add_lit, Nat.zero_add] at this
/-- an owned slice reads as its list -/
theorem Own.reads {E : World → Nat → Nat → α → Prop} (hf : ∀ x, (f x).length = sz) (h : Own f sz t B w a c l)
  (hE : ∀ g o x, x ∈ l → (∀ j u, (f x)[j]? = some u → w.cell? ⟨g, o + j, none⟩ = some u) → E w g o x) : SlR sz E w a c l := by
 refine ⟨h.cap.1, h.cap.2, fun k x hx => ?_⟩
 obtain ⟨g, ha, _, _, hc⟩ := h.at_ hf hx
 exact ⟨g, 0, ha, hE _ _ _ (List.mem_of_getElem? hx) (by simpa using hc)⟩
end

/-- block g is just these cells, none of them shut -/
def Blk (w : World) (g : Nat) (t : TypeId) (cs : Array Value) : Prop := w.heap[g]? = some (.cells cs t (0, 0))
section
variable {w w' : World} {g : Nat} {t : TypeId} {cs : Array Value}
theorem Blk.lt (h : Blk w g t cs) : g < w.heap.size := (Array.getElem?_eq_some_iff.1 h).1
theorem Blk.cell (h : Blk w g t cs) (i : Nat) : w.cell? ⟨g, i, none⟩ = cs[i]? := cell_of_row w g i cs t (0, 0) h
theorem Blk.frozen (h : Blk w g t cs) (i : Nat) : w.frozen? ⟨g, i, none⟩ = false := by
 unfold Blk at h
 simp [World.frozen?, h]
theorem Blk.new (w : World) (t : TypeId) (cs : Array Value) : Blk (w.alloc (.cells cs t)) w.heap.size t cs := heap_alloc_new w _
theorem Blk.drew (h : Blk w g t cs) : Blk w.drew g t cs := h
theorem Blk.alloc (h : Blk w g t cs) (o : Obj) : Blk (w.alloc o) g t cs := (Below.heap_alloc w o g h.lt).trans h
theorem Blk.set_ (h : Blk w g t cs) (i : Nat) (u : Value) : Blk (w.setCell ⟨g, i, none⟩ u) g t (cs.setIfInBounds i u) := by
 unfold Blk at h ⊢
 simp [World.setCell, Array.getElem?_modify, h]
theorem Blk.far (h : Blk w g t cs) {p : Addr} (hp : g ≠ p.block) (u : Value) : Blk (w.setCell p u) g t cs := (Below.heap_setCell w p u g hp).trans h
theorem Blk.below {B : Nat} (h : Blk w g t cs) (hb : Below B w w') (hg : g < B) : Blk w' g t cs := (hb.block g hg).trans h
theorem Blk.below' (h : Blk w g t cs) (hb : Below w.heap.size w w') : Blk w' g t cs := h.below hb h.lt
theorem Blk.grown {row : Option Nat} (h : Blk w g t cs) (hb : w.grownBy w' row) (hg : some g ≠ row) : Blk w' g t cs := (hb.block g h.lt hg).trans h
/-- a block below the base of a row that grows -/
theorem Blk.under {α : Type} {f : α → List Value} {sz : Nat} {te : TypeId} {B : Nat} {w0 : World} {a : Option Addr} {c : Nat} {l : List α} (h : Blk w g t cs) (ho : Own f sz te B w0 a c l) (hg : g < B)
  (hb : w.grownBy w' (Value.ownBlock (.slice a l.length c))) : Blk w' g t cs := h.grown hb (fun e => by
 cases a with
 | none => simp [Value.ownBlock] at e
 | some p => simp [Value.ownBlock] at e; have := (ho.lt rfl).1; omega)
end

section
variable {α : Type} {f : α → List Value} {sz : Nat} {t : TypeId} {B : Nat} {w : World} {l : List α} {P : Program}
/-- 'l = append(l, x)' of one element that lies in a block of its own -/
theorem wp_append_1 {o : Oper} {act : Act} {K : Act → World → Prop} {Q : Exit → Act → World → Prop} (s y : Operand) (ts : TypeId)
  (ho : o.op = .call { callee := .builtin .append, args := #[s, y], argTypes := #[ts, ts] })
  {z : Value} {bytes : Nat} (ht : P.underlying ts = some (.slice t)) (hi : (P.info? t).map (fun i => (i.zero, i.size, i.bytes)) = some (some z, sz, bytes)) (hz : z.cells.size = sz) (hsz : 0 < sz) (hby : bytes ≤ 1024)
  (hf : ∀ x, (f x).length = sz) (a : Option Addr) (c : Nat) (hs : act.eval s = .slice a l.length c) (hown : Own f sz t B w a c l)
  (x : α) (hone : ∀ u ∈ f x, u.oneCell' = true) (b c1 : Nat) (hy : act.eval y = .slice (some ⟨b, 0, none⟩) 1 c1) (hcell : ∀ j u, (f x)[j]? = some u → w.cell? ⟨b, j, none⟩ = some u)
  (l2 : List α) (hl2 : l2 = l ++ [x]) (hlen : l2.length ≤ 16777216) (hB : B ≤ w.heap.size)
  (h : ∀ a' c' w', Own f sz t B w' a' c' l2 → w.grownBy w' (Value.ownBlock (.slice a l.length c)) → ((∃ g, a' = some ⟨g, 0, none⟩ ∧ (a = some ⟨g, 0, none⟩ ∨ g = w.heap.size))) →
   K (act.put o.dst (.slice a' l2.length c')) w') : o.wp P act w K Q := by
 subst hl2
 obtain ⟨i, hi0, hz0, hz1, hz2⟩ := info_parts hi
 simp only [List.length_append, List.length_cons, List.length_nil, Nat.zero_add] at hlen
 obtain ⟨v', w', hr, h2, h3, _, h5⟩ := run_append_own_at (P := P) w B ts o.type t i z sz bytes ht hi0 hz0 hz1 hz2 hz hsz (.slice a l.length c) l.length (l.flatMap f) hown ⟨b, 0, none⟩ 1 c1 (f x) (by rw [hf]; omega)
  (fun j u hu => by rw [Addr.add_lit, Nat.zero_add]; exact hcell j u hu) hone (by unfold maxLen; omega)
  (by have : (l.length + 1) * bytes ≤ 16777216 * 1024 := Nat.mul_le_mul hlen hby
      omega) hB
 unfold Oper.wp execOp
 simp only [ho, resolve, invoke, builtin, Sem.run_bind, Sem.run_pure, Result.andThen_ok, List.map_toArray, List.map_cons, List.map_nil, hs, hy, hr]
 have hf2 : (l ++ [x]).flatMap f = l.flatMap f ++ f x := by simp
 have hn : (l ++ [x]).length = l.length + 1 := by simp
 obtain ⟨g, cap, hv, hb, hlt⟩ := h2.form (by omega)
 subst hv
 rw [← hn]
 refine h _ _ w' (by unfold Own; rw [hf2, hn]; exact h2) h3 ⟨g, rfl, ?_⟩
 rcases h5 with h5 | h5
 ·
  left
  cases a with
  | none => simp [Value.ownBlock] at h5
  | some g' =>
   have hg' : g = g'.block := by simpa [Value.ownBlock] using h5
   rcases hown.2 with ⟨e, _⟩ | ⟨g2, _, _, e, _⟩
   · cases e
   ·
    injection e with e1
    injection e1 with e1
    subst e1
    simp at hg'
    rw [hg']
 ·
  right
  simpa [Value.ownBlock] using h5
theorem wpList_append_1 {ops : Array Oper} {rest : List Oper} {o : Oper} {act : Act} {Q : Exit → Act → World → Prop} (hgd : o.guard = none) (s y : Operand) (ts : TypeId)
  (ho : o.op = .call { callee := .builtin .append, args := #[s, y], argTypes := #[ts, ts] })
  {z : Value} {bytes : Nat} (ht : P.underlying ts = some (.slice t)) (hi : (P.info? t).map (fun i => (i.zero, i.size, i.bytes)) = some (some z, sz, bytes)) (hz : z.cells.size = sz) (hsz : 0 < sz) (hby : bytes ≤ 1024)
  (hf : ∀ x, (f x).length = sz) (a : Option Addr) (c : Nat) (hs : act.eval s = .slice a l.length c) (hown : Own f sz t B w a c l)
  (x : α) (hone : ∀ u ∈ f x, u.oneCell' = true) (b c1 : Nat) (hy : act.eval y = .slice (some ⟨b, 0, none⟩) 1 c1) (hcell : ∀ j u, (f x)[j]? = some u → w.cell? ⟨b, j, none⟩ = some u)
  (l2 : List α) (hl2 : l2 = l ++ [x]) (hlen : l2.length ≤ 16777216) (hB : B ≤ w.heap.size)
  (h : ∀ a' c' w', Own f sz t B w' a' c' l2 → w.grownBy w' (Value.ownBlock (.slice a l.length c)) → ((∃ g, a' = some ⟨g, 0, none⟩ ∧ (a = some ⟨g, 0, none⟩ ∨ g = w.heap.size))) →
   wpList P ops Q rest (act.put o.dst (.slice a' l2.length c')) w') : wpList P ops Q (o :: rest) act w :=
 wpList_plain hgd fun _ hK => wp_append_1 s y ts ho ht hi hz hsz hby hf a c hs hown x hone b c1 hy hcell l2 hl2 hlen hB fun a' c' w' h1 h2 h3 => hK _ _ (h a' c' w' h1 h2 h3)
end

/-- what an append leaves of the blocks below -/
theorem below_append {W w w' : World} {a : Option Addr} {n c : Nat} (h : Below W.heap.size W w) (hg : w.grownBy w' (Value.ownBlock (.slice a n c))) (hr : ∀ g, a = some g → W.heap.size ≤ g.block) : Below W.heap.size W w' :=
 h.grown hg h.size (fun k hk => by
  cases a with
  | none => simp [Value.ownBlock] at hk
  | some g => simp [Value.ownBlock] at hk; subst hk; exact hr g rfl)
theorem below_append' {W w w' : World} {α : Type} {f : α → List Value} {sz : Nat} {t : TypeId} {a : Option Addr} {c : Nat} {l : List α} (h : Below W.heap.size W w) (ho : Own f sz t W.heap.size w a c l)
  (hg : w.grownBy w' (Value.ownBlock (.slice a l.length c))) : Below W.heap.size W w' := below_append h hg fun _ e => (ho.lt e).1

end Go.Proofs.YtaihkpjbnkgmlaaGreat

/- What a call has made is read in any world that holds the cells that were there and the new ones. No function of the program in sight. -/
namespace Go.Proofs.YtaihkpjbnkgmlaaGreat
open Go.RowKit

/-- V holds the cells of w that lie in blocks from B on -/
def New (B : Nat) (w V : World) : Prop := ∀ p v, B ≤ p.block → w.cell? p = some v → V.cell? p = some v
/-- the same, but for the block of the slice at a -/
def NewBut (B : Nat) (a : Option Addr) (w V : World) : Prop := ∀ p v, B ≤ p.block → (∀ g, a = some g → p.block ≠ g.block) → w.cell? p = some v → V.cell? p = some v
theorem New.refl (B : Nat) (w : World) : New B w w := fun _ _ _ h => h
theorem New.base {B B' : Nat} {w V : World} (h : New B w V) (hB : B ≤ B') : New B' w V := fun p v hp hc => h p v (Nat.le_trans hB hp) hc
section
variable {α : Type} {f : α → List Value} {sz : Nat} {t : TypeId} {B : Nat} {w V : World} {a : Option Addr} {c : Nat} {l : List α}
theorem Own.readsIn {β : Type} {E : World → Nat → Nat → β → Prop} (g : α → β) (hf : ∀ x, (f x).length = sz) (h : Own f sz t B w a c l) (hV : New B w V)
  (hE : ∀ b o x, x ∈ l → (∀ j u, (f x)[j]? = some u → V.cell? ⟨b, o + j, none⟩ = some u) → E V b o (g x)) : SlR sz E V a c (l.map g) := by
 refine ⟨by simpa using h.cap.1, h.cap.2, fun k y hy => ?_⟩
 rw [List.getElem?_map] at hy
 obtain ⟨x, hx, rfl⟩ := Option.map_eq_some_iff.1 hy
 obtain ⟨b, ha, hB, _, hc⟩ := h.at_ hf hx
 exact ⟨b, 0, ha, hE _ _ _ (List.mem_of_getElem? hx) (fun j u hu => hV _ _ hB (by simpa using hc j u hu))⟩
end
section
variable {α : Type} {f : α → List Value} {sz : Nat} {t : TypeId} {B : Nat} {w V : World} {a : Option Addr} {c : Nat} {l : List α}
end
theorem NewBut.unset {B : Nat} {a : Option Addr} {w V : World} {p : Addr} {u : Value} (h : NewBut B a (w.setCell p u) V) (hp : p.block < B) : NewBut B a w V := fun q v hq hne hc =>
 h q v hq hne ((World.cell?_setCell_other w p q u (fun e => by subst e; omega)).trans hc)
theorem New.unset {B : Nat} {w V : World} {p : Addr} {u : Value} (h : New B (w.setCell p u) V) (hp : p.block < B) : New B w V := fun q v hq hc =>
 h q v hq ((World.cell?_setCell_other w p q u (fun e => by subst e; omega)).trans hc)
theorem blk_at1 (w : World) (o : Obj) (t : TypeId) (cs : Array Value) : Blk ((w.alloc o).alloc (.cells cs t)) (w.heap.size + 1) t cs := by have := Blk.new (w.alloc o) t cs; simpa using this
theorem blk_at2 (w : World) (o o2 : Obj) (t : TypeId) (cs : Array Value) : Blk (((w.alloc o).alloc o2).alloc (.cells cs t)) (w.heap.size + 1 + 1) t cs := by have := Blk.new ((w.alloc o).alloc o2) t cs; simpa using this
theorem New.below {B : Nat} {w w' V : World} (h : New B w' V) (hb : Below w.heap.size w w') : New B w V := fun p v hp hc => h p v hp ((hb.cell (World.block_lt_of_cell? w p hc)).trans hc)
theorem New.unalloc {B : Nat} {w V : World} {o : Obj} (h : New B (w.alloc o) V) : New B w V := fun p v hp hc => h p v hp ((World.cell?_alloc_lt w o p (World.block_lt_of_cell? w p hc)).trans hc)
end Go.Proofs.YtaihkpjbnkgmlaaGreat

/- Natural numbers as lists of limbs: the value of a list, the list of a value. No function of the program in sight. -/
namespace Go.Proofs.YtaihkpjbnkgmlaaGreat

/-- the value of limbs, the least one first -/
def val : List Int → Nat
 | [] => 0
 | x :: l => x.toNat + 65536 * val l
/-- the limbs of a value, without leading zeros -/
def limbs (n : Nat) : List Int := if h : n = 0 then [] else ((n % 65536 : Nat) : Int) :: limbs (n / 65536)
termination_by n
decreasing_by omega
def U16 (l : List Int) : Prop := ∀ x ∈ l, 0 ≤ x ∧ x ≤ 65535

theorem U16.nil : U16 [] := fun _ h => by cases h
theorem U16.cons {x : Int} {l : List Int} (h : 0 ≤ x ∧ x ≤ 65535) (k : U16 l) : U16 (x :: l) := fun y hy => by
 rcases List.mem_cons.1 hy with rfl | hy
 · exact h
 · exact k y hy
theorem U16.head {x : Int} {l : List Int} (h : U16 (x :: l)) : 0 ≤ x ∧ x ≤ 65535 := h x (by simp)
theorem U16.tail {x : Int} {l : List Int} (h : U16 (x :: l)) : U16 l := fun y hy => h y (by simp [hy])
theorem U16.app {l m : List Int} (h : U16 l) (k : U16 m) : U16 (l ++ m) := fun y hy => by
 rcases List.mem_append.1 hy with hy | hy
 · exact h y hy
 · exact k y hy
theorem U16.take {l : List Int} (h : U16 l) (k : Nat) : U16 (l.take k) := fun y hy => h y (List.mem_of_mem_take hy)
theorem U16.drop {l : List Int} (h : U16 l) (k : Nat) : U16 (l.drop k) := fun y hy => h y (List.mem_of_mem_drop hy)
theorem U16.get {l : List Int} (h : U16 l) {k : Nat} {x : Int} (hx : l[k]? = some x) : 0 ≤ x ∧ x ≤ 65535 := h x (List.mem_of_getElem? hx)
theorem U16.set_ {l : List Int} (h : U16 l) {k : Nat} {x : Int} (hx : 0 ≤ x ∧ x ≤ 65535) : U16 (l.set k x) := fun y hy => by
 rcases List.mem_or_eq_of_mem_set hy with hy | rfl
 · exact h y hy
 · exact hx

theorem limbs_zero : limbs 0 = [] := by rw [limbs]; simp
theorem limbs_pos {n : Nat} (h : n ≠ 0) : limbs n = ((n % 65536 : Nat) : Int) :: limbs (n / 65536) := by rw [limbs]; simp [h]
theorem limbs_u16 (n : Nat) : U16 (limbs n) := by
 induction n using Nat.strongRecOn with
 | ind n ih =>
  by_cases h : n = 0
  · subst h; rw [limbs_zero]; exact U16.nil
  · rw [limbs_pos h]; exact U16.cons (by omega) (ih _ (by omega))
theorem val_limbs (n : Nat) : val (limbs n) = n := by
 induction n using Nat.strongRecOn with
 | ind n ih =>
  by_cases h : n = 0
  · subst h; rw [limbs_zero]; rfl
  · rw [limbs_pos h, val, ih _ (by omega)]; omega
theorem val_append (l m : List Int) : val (l ++ m) = val l + 65536 ^ l.length * val m := by
 induction l with
 | nil => simp [val]
 | cons x l ih =>
  simp only [List.cons_append, val, ih, List.length_cons, Nat.pow_succ]
  rw [Nat.mul_add, ← Nat.mul_assoc, Nat.mul_comm 65536 (65536 ^ l.length), Nat.add_assoc]
theorem val_lt {l : List Int} (h : U16 l) : val l < 65536 ^ l.length := by
 induction l with
 | nil => simp [val]
 | cons x l ih =>
  have h1 := ih h.tail
  have h2 := h.head
  simp only [val, List.length_cons, Nat.pow_succ]
  omega
theorem val_snoc (l : List Int) (x : Int) : val (l ++ [x]) = val l + 65536 ^ l.length * x.toNat := by rw [val_append]; simp [val]
theorem val_take {l : List Int} {k : Nat} {x : Int} (h : l[k]? = some x) : val (l.take (k + 1)) = val (l.take k) + 65536 ^ k * x.toNat := by
 rw [take_more h, val_snoc]
 have : (l.take k).length = k := by have := lt_of_get h; simp; omega
 rw [this]
theorem val_drop {l : List Int} {k : Nat} {x : Int} (h : l[k]? = some x) : val (l.drop k) = x.toNat + 65536 * val (l.drop (k + 1)) := by
 have hk := lt_of_get h
 rw [List.drop_eq_getElem_cons hk]
 have : l[k] = x := by rw [List.getElem?_eq_getElem hk] at h; exact Option.some.inj h
 rw [this, val]
theorem val_split (l : List Int) (k : Nat) : val l = val (l.take k) + 65536 ^ (l.take k).length * val (l.drop k) := by
 have := val_append (l.take k) (l.drop k)
 rwa [List.take_append_drop] at this
theorem val_drop_all {l : List Int} {k : Nat} (h : l.length ≤ k) : val (l.drop k) = 0 := by rw [List.drop_eq_nil_of_le h]; rfl
theorem val_take_all {l : List Int} {k : Nat} (h : l.length ≤ k) : val (l.take k) = val l := by rw [List.take_of_length_le h]
/-- what is cut to its first k limbs, the others being zero -/
theorem limbs_canon {l : List Int} (h : U16 l) (hc : ∀ x, l.getLast? = some x → x ≠ 0) : limbs (val l) = l := by
 induction l with
 | nil => exact limbs_zero
 | cons x l ih =>
  have h1 := h.head
  have hv : val (x :: l) = x.toNat + 65536 * val l := rfl
  have hl : limbs (val l) = l := ih h.tail (fun y hy => hc y (by
   cases l with
   | nil => simp at hy
   | cons z l => rw [List.getLast?_cons_cons]; exact hy))
  have hne : val (x :: l) ≠ 0 := by
   intro e
   rw [hv] at e
   cases l with
   | nil => exact hc x (by simp) (by omega)
   | cons z l =>
    have : val (z :: l) = 0 := by omega
    rw [this, limbs_zero] at hl
    cases hl
  rw [limbs_pos hne, hv]
  have e1 : (x.toNat + 65536 * val l) % 65536 = x.toNat := by omega
  have e2 : (x.toNat + 65536 * val l) / 65536 = val l := by omega
  rw [e1, e2, hl]
  congr 1
  omega
theorem limbs_last {n : Nat} {x : Int} (h : (limbs n).getLast? = some x) : x ≠ 0 := by
 induction n using Nat.strongRecOn generalizing x with
 | ind n ih =>
  by_cases h0 : n = 0
  · subst h0; rw [limbs_zero] at h; simp at h
  ·
   rw [limbs_pos h0] at h
   by_cases h1 : n / 65536 = 0
   ·
    rw [h1, limbs_zero] at h
    simp at h
    omega
   ·
    have : limbs (n / 65536) ≠ [] := by rw [limbs_pos h1]; simp
    obtain ⟨y, t, ht⟩ := List.exists_cons_of_ne_nil this
    rw [ht, List.getLast?_cons_cons, ← ht] at h
    exact ih _ (by omega) h
theorem limbs_inj {n m : Nat} : limbs n = limbs m ↔ n = m := by
 constructor
 · intro e; rw [← val_limbs n, ← val_limbs m, e]
 · intro e; rw [e]
theorem limbs_len_le {n k : Nat} (h : n < 65536 ^ k) : (limbs n).length ≤ k := by
 induction k generalizing n with
 | zero => have : n = 0 := by simpa using h
           subst this; simp [limbs_zero]
 | succ k ih =>
  by_cases h0 : n = 0
  · subst h0; simp [limbs_zero]
  ·
   rw [limbs_pos h0]
   have := ih (n := n / 65536) (by rw [Nat.pow_succ] at h; omega)
   simp only [List.length_cons]
   omega
theorem limbs_len_pos {n : Nat} : 0 < (limbs n).length ↔ 0 < n := by
 constructor
 ·
  intro h
  apply Nat.pos_of_ne_zero
  intro e; subst e; simp [limbs_zero] at h
 · intro h; rw [limbs_pos (by omega)]; simp
theorem lt_pow_limbs (n : Nat) : n < 65536 ^ (limbs n).length := by have := val_lt (limbs_u16 n); rwa [val_limbs] at this
theorem limbs_len_mono {n m : Nat} (h : n ≤ m) : (limbs n).length ≤ (limbs m).length := limbs_len_le (Nat.lt_of_le_of_lt h (lt_pow_limbs m))
theorem limbs_len_val {l : List Int} (h : U16 l) : (limbs (val l)).length ≤ l.length := limbs_len_le (val_lt h)
theorem limbs_len_mul (a b : Nat) : (limbs (a * b)).length ≤ (limbs a).length + (limbs b).length := by
 apply limbs_len_le
 rw [Nat.pow_add]
 exact Nat.mul_lt_mul'' (lt_pow_limbs a) (lt_pow_limbs b)
theorem limbs_len_add (a b : Nat) : (limbs (a + b)).length ≤ max (limbs a).length (limbs b).length + 1 := by
 apply limbs_len_le
 rw [Nat.pow_succ]
 have h1 := lt_pow_limbs a
 have h2 := lt_pow_limbs b
 have h3 : 65536 ^ (limbs a).length ≤ 65536 ^ (max (limbs a).length (limbs b).length) := Nat.pow_le_pow_right (by omega) (by omega)
 have h4 : 65536 ^ (limbs b).length ≤ 65536 ^ (max (limbs a).length (limbs b).length) := Nat.pow_le_pow_right (by omega) (by omega)
 omega
/-- the limbs of a value, its first k limbs being l and the others zero -/
theorem limbs_cut {l : List Int} (h : U16 l) {k : Nat} (hk : val (l.drop k) = 0) (hc : ∀ x, k ≠ 0 → l[k - 1]? = some x → x ≠ 0) (hkl : k ≤ l.length) : limbs (val l) = l.take k := by
 have h1 : val l = val (l.take k) := by rw [val_split l k, hk]; omega
 rw [h1]
 apply limbs_canon (h.take k)
 intro x hx
 by_cases h0 : k = 0
 · subst h0; simp at hx
 ·
  refine hc x h0 ?_
  rw [List.getLast?_eq_getElem?, List.length_take, List.getElem?_take] at hx
  have e : min k l.length = k := by omega
  rw [e, if_pos (by omega)] at hx
  exact hx

/-- Go's order of two numbers -/
def cmpN (a b : Nat) : Int := if a < b then -1 else if b < a then 1 else 0
theorem cmpN_lt {a b : Nat} : cmpN a b < 0 ↔ a < b := by unfold cmpN; split <;> (try split) <;> omega
theorem cmpN_le {a b : Nat} : cmpN a b ≤ 0 ↔ a ≤ b := by unfold cmpN; split <;> (try split) <;> omega
theorem cmpN_ge {a b : Nat} : 0 ≤ cmpN a b ↔ b ≤ a := by unfold cmpN; split <;> (try split) <;> omega
theorem cmpN_zero {a b : Nat} : cmpN a b = 0 ↔ a = b := by unfold cmpN; split <;> (try split) <;> omega
/-- limb k, 0 beyond the end -/
def limbAt (l : List Int) (k : Nat) : Int := (l[k]?).getD 0
theorem limbAt_some {l : List Int} {k : Nat} {x : Int} (h : l[k]? = some x) : limbAt l k = x := by simp [limbAt, h]
theorem limbAt_none {l : List Int} {k : Nat} (h : l.length ≤ k) : limbAt l k = 0 := by simp [limbAt, h]
theorem limbAt_in {l : List Int} (h : U16 l) (k : Nat) : 0 ≤ limbAt l k ∧ limbAt l k ≤ 65535 := by
 unfold limbAt
 cases hx : l[k]? with
 | none => simp
 | some x => exact h.get hx
theorem val_drop_at (l : List Int) (k : Nat) : val (l.drop k) = (limbAt l k).toNat + 65536 * val (l.drop (k + 1)) := by
 cases hx : l[k]? with
 | none =>
  have := List.getElem?_eq_none_iff.1 hx
  rw [limbAt_none this, val_drop_all this, val_drop_all (by omega)]; rfl
 | some x => rw [limbAt_some hx]; exact val_drop hx
theorem val_take_at {l : List Int} (k : Nat) : val (l.take (k + 1)) = val (l.take k) + 65536 ^ k * (limbAt l k).toNat := by
 cases hx : l[k]? with
 | none =>
  have := List.getElem?_eq_none_iff.1 hx
  rw [limbAt_none this, val_take_all this, val_take_all (by omega)]; simp
 | some x => rw [limbAt_some hx]; exact val_take hx
theorem val_split_at {l : List Int} (h : U16 l) (k : Nat) : ∃ lo, lo < 65536 ^ k ∧ val l = lo + 65536 ^ k * val (l.drop k) := by
 refine ⟨val (l.take k), ?_, ?_⟩
 · refine Nat.lt_of_lt_of_le (val_lt (h.take k)) (Nat.pow_le_pow_right (by omega) (by simp; omega))
 ·
  by_cases hk : k ≤ l.length
  ·
   have := val_split l k
   have e : (l.take k).length = k := by simp; omega
   rwa [e] at this
  · rw [val_drop_all (by omega), val_take_all (by omega)]; omega
theorem val_lt_of {a b : List Int} (ha : U16 a) (hb : U16 b) (k : Nat) (he : val (a.drop (k + 1)) = val (b.drop (k + 1))) (h : limbAt a k < limbAt b k) : val a < val b := by
 obtain ⟨p, hp, e1⟩ := val_split_at ha k
 obtain ⟨q, hq, e2⟩ := val_split_at hb k
 rw [val_drop_at] at e1 e2
 rw [e1, e2, he]
 have h1 := limbAt_in ha k
 have h2 : (limbAt a k).toNat + 65536 * val (b.drop (k + 1)) + 1 ≤ (limbAt b k).toNat + 65536 * val (b.drop (k + 1)) := by omega
 have h3 := Nat.mul_le_mul_left (65536 ^ k) h2
 rw [Nat.mul_add _ _ 1] at h3
 omega
end Go.Proofs.YtaihkpjbnkgmlaaGreat
