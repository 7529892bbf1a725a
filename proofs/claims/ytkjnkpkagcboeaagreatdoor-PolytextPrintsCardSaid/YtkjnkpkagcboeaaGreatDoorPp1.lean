/- Natural numbers as lists of limbs: the value of a list, the list of a value. No function of the program in sight. -/
import Derived.WalkKit
import Derived.WalkSpells
import Derived.WalkLawsBesides
import Derived.ProofKit
import Derived.LoopTactic
import Derived.Handy
import Derived.Lib.Hide
import Derived.OwnWalk
import Derived.Maps.AppendAt
import Derived.Deep.AppendLies
import Derived.Deep.DeepCutAuto
import Derived.Test.YtkjnkpkagcboeaaGreatDoorRows
import Derived.Deep.QuietTactic
import Derived.BigQuiet
import Derived.Maps.OwnSet
import Derived.Maps.OwnOps
import Derived.StringKeys
import Derived.ChangeMaps5
set_option linter.all false
set_option maxRecDepth 100000
set_option maxHeartbeats 4000000
namespace Go.Proofs.YtkjnkpkagcboeaaGreatDoor
open Go.RowKit
theorem Hd {p : Prop} (h : p) : Hid p := h
theorem ret_int {k : IntKind} {a b : Int} (h : a = b) : Ending.returned (.int k a) = .returned (.int k b) := by rw [h]
theorem ret_bool {a b : Bool} (h : a = b) : Ending.returned (.bool a) = .returned (.bool b) := by rw [h]
theorem ret_str {a b : ByteArray} (h : a = b) : Ending.returned (.string a) = .returned (.string b) := by rw [h]
theorem val_int {k : IntKind} {a b : Int} (h : a = b) : Value.int k a = .int k b := by rw [h]
theorem take_more {α : Type} {xs : List α} {k : Nat} {x : α} (h : xs[k]? = some x) : xs.take (k + 1) = xs.take k ++ [x] := by rw [List.take_add_one, h]; rfl
theorem take_all {α : Type} {xs : List α} {k : Nat} (h : ¬ k < xs.length) : xs.take k = xs := List.take_of_length_le (by omega)
theorem lt_of_get {α : Type} {xs : List α} {k : Nat} {x : α} (h : xs[k]? = some x) : k < xs.length := (List.getElem?_eq_some_iff.1 h).1
theorem get_of_lt {α : Type} {xs : List α} {k : Nat} (h : k < xs.length) : ∃ x, xs[k]? = some x := ⟨_, List.getElem?_eq_getElem h⟩
theorem toList_loop (b : ByteArray) : ∀ (n i : Nat) (r : List UInt8), b.size - i = n -> ByteArray.toList.loop b i r = r.reverse ++ b.data.toList.drop i := by
 intro n
 induction n with
 | zero =>
  intro i r h
  unfold ByteArray.toList.loop
  rw [if_neg (by omega)]
  have : b.data.toList.length ≤ i := by have : b.data.toList.length = b.size := by rw [Array.length_toList]; rfl
                                        omega
  rw [List.drop_eq_nil_of_le this, List.append_nil]
 | succ n ih =>
  intro i r h
  unfold ByteArray.toList.loop
  rw [if_pos (by omega)]
  have hl : i < b.data.toList.length := by have : b.data.toList.length = b.size := by rw [Array.length_toList]; rfl
                                           omega
  rw [ih (i + 1) _ (by omega), List.drop_eq_getElem_cons hl]
  have : b.get! i = b.data.toList[i] := by
   have hs : i < b.data.size := by simpa using hl
   simp [ByteArray.get!, getElem!_pos b.data i hs]
  simp [this]
theorem toList_data (b : ByteArray) : b.toList = b.data.toList := by
 have h := toList_loop b _ 0 [] rfl
 simpa [ByteArray.toList] using h
theorem str_eq {a b : ByteArray} : a.toList = b.toList ↔ a = b := by
 rw [toList_data, toList_data]
 constructor
 ·
  intro h
  cases a; cases b
  simp at h
  rw [h]
 · intro h; rw [h]
theorem str_beq (a b : ByteArray) : (a.toList == b.toList) = decide (a = b) := by
 rw [Bool.eq_iff_iff]; simp [str_eq]
theorem str_empty {a : ByteArray} : a.toList = [] ↔ a = ⟨#[]⟩ := by
 rw [<- str_eq (a := a)]; rw [toList_data ⟨#[]⟩]
theorem str_isEmpty (a : ByteArray) : a.toList.isEmpty = decide (a = ⟨#[]⟩) := by
 rw [Bool.eq_iff_iff]; simp [str_empty]
theorem str_bne (a b : ByteArray) : (a.toList != b.toList) = !decide (a = b) := by
 rw [bne, str_beq]
def Ext (w w' : World) : Prop := ∀ (a : Addr) (v : Value), w.cell? a = some v -> w'.cell? a = some v
theorem Ext.refl (w : World) : Ext w w := fun _ _ h => h
theorem Ext.alloc {w w' : World} (h : Ext w w') (o : Obj) : Ext w (w'.alloc o) := fun p v e => by
 have e' := h p v e
 rw [World.cell?_alloc_lt w' o p (World.block_lt_of_cell? w' p e')]; exact e'
theorem Ext.below {w w' : World} (h : Below w.heap.size w w') : Ext w w' := fun p v e => by
 rw [h.cell (World.block_lt_of_cell? w p e)]; exact e
theorem below_then {w w1 w2 : World} (h : Below w.heap.size w w1) (k : Below w1.heap.size w1 w2) : Below w.heap.size w w2 := h.trans (k.mono h.size)
theorem bth {w w1 w2 : World} (h : Below w.heap.size w w1) (k : Below w1.heap.size w1 w2) : Below w.heap.size w w2 := h.trans (k.mono h.size)
theorem xbw {w w' : World} (h : Below w.heap.size w w') : Ext w w' := fun p v e => by rw [h.cell (World.block_lt_of_cell? w p e)]; exact e
theorem brf {B : Nat} {w : World} : Below B w w := Below.refl _ _
theorem ltl {a b c : Nat} (h : a < b) (k : b <= c) : a < c := by omega
theorem nlr (n : Nat) : n <= n := by omega
theorem ext_alloc (w : World) (o : Obj) : Ext w (w.alloc o) := (Ext.refl w).alloc o
theorem held {w : World} {a : Addr} {v : Value} (h : w.cell? a = some v) : ∀ w', Below w.heap.size w w' -> w'.cell? a = some v := fun _ k => xbw k _ _ h
def SlR {α : Type} (sz : Nat) (E : World -> Nat -> Nat -> α -> Prop) (w : World) (a : Option Addr) (cap : Nat) (xs : List α) : Prop :=
 xs.length <= cap /\ cap <= maxLen /\ ∀ (k : Nat) (x : α), xs[k]? = some x -> ∃ b off, a = some ⟨b, off, none⟩ /\ E w b (off + k * sz) x
section
variable {α : Type} {sz : Nat} {E E' : World -> Nat -> Nat -> α -> Prop} {w w' : World} {a : Option Addr} {cap : Nat} {xs : List α}
theorem SlR.nil : SlR sz E w none 0 [] := ⟨nlr _, by simp [maxLen], fun k x h => by simp at h⟩
theorem SlR.mono (h : SlR sz E w a cap xs) (hE : ∀ b o x, x ∈ xs -> E w b o x -> E' w' b o x) : SlR sz E' w' a cap xs := by
 obtain ⟨h1, h2, h3⟩ := h
 refine ⟨h1, h2, fun k x hx => ?_⟩
 obtain ⟨b, off, ha, he⟩ := h3 k x hx
 exact ⟨b, off, ha, hE _ _ _ (List.mem_of_getElem? hx) he⟩
theorem SlR.len (h : SlR sz E w a cap xs) : xs.length <= 9223372036854775807 := by have h1 := h.1; have h2 := h.2.1; unfold maxLen at h2; omega
end
def IntE (k : IntKind) (w : World) (b o : Nat) (x : Int) : Prop := w.cell? ⟨b, o, none⟩ = some (.int k x) /\ (Lit.int k x).wf = true
def StrE (w : World) (b o : Nat) (x : ByteArray) : Prop := w.cell? ⟨b, o, none⟩ = some (.string x)
theorem IntE.ext {k : IntKind} {w w' : World} {b o : Nat} {x : Int} (h : IntE k w b o x) (e : Ext w w') : IntE k w' b o x := ⟨e _ _ h.1, h.2⟩
theorem StrE.ext {w w' : World} {b o : Nat} {x : ByteArray} (h : StrE w b o x) (e : Ext w w') : StrE w' b o x := e _ _ h
def IntsR (w : World) (a : Option Addr) (cap : Nat) (xs : List Int) : Prop := SlR 1 (IntE .i64) w a cap xs
def NatR (w : World) (a : Option Addr) (cap : Nat) (xs : List Int) : Prop := SlR 1 (IntE .u16) w a cap xs
def StrsR (w : World) (a : Option Addr) (cap : Nat) (xs : List ByteArray) : Prop := SlR 1 StrE w a cap xs
section
variable {w w' : World} {a : Option Addr} {cap : Nat}
theorem IntsR.ext {xs : List Int} (h : IntsR w a cap xs) (e : Ext w w') : IntsR w' a cap xs := SlR.mono h fun _ _ _ _ h => h.ext e
theorem NatR.ext {xs : List Int} (h : NatR w a cap xs) (e : Ext w w') : NatR w' a cap xs := SlR.mono h fun _ _ _ _ h => h.ext e
theorem StrsR.ext {xs : List ByteArray} (h : StrsR w a cap xs) (e : Ext w w') : StrsR w' a cap xs := SlR.mono h fun _ _ _ _ h => h.ext e
end
def InInt (x : Int) : Prop := -9223372036854775808 <= x /\ x <= 9223372036854775807
theorem inInt_of {x : Int} (h : (Lit.int .i64 x).wf = true) : InInt x := by
 simpa [Lit.wf, IntKind.min, IntKind.max, IntKind.signed, IntKind.bits, InInt] using h
theorem wf_of {x : Int} (h : InInt x) : (Lit.int .i64 x).wf = true := by
 simpa [Lit.wf, IntKind.min, IntKind.max, IntKind.signed, IntKind.bits, InInt] using h
theorem u16_of {x : Int} (h : (Lit.int .u16 x).wf = true) : 0 <= x /\ x <= 65535 := by
 simpa [Lit.wf, IntKind.min, IntKind.max, IntKind.signed, IntKind.bits] using h
theorem u16_wf {x : Int} (h : 0 <= x /\ x <= 65535) : (Lit.int .u16 x).wf = true := by
 simpa [Lit.wf, IntKind.min, IntKind.max, IntKind.signed, IntKind.bits] using h
theorem flatMap_at {α : Type} {f : α -> List Value} {sz : Nat} (hf : ∀ x, (f x).length = sz) : ∀ (l : List α) (k : Nat) (x : α) (j : Nat), l[k]? = some x -> j < sz -> (l.flatMap f)[k * sz + j]? = (f x)[j]?
 | [], k, x, j, h, _ => by simp at h
 | y :: l, 0, x, j, h, hj => by
  simp at h; subst h
  simp only [List.flatMap_cons, Nat.zero_mul, Nat.zero_add]
  rw [List.getElem?_append_left (by rw [hf]; exact hj)]
 | y :: l, k + 1, x, j, h, hj => by
  simp only [List.flatMap_cons]
  rw [List.getElem?_append_right (by rw [hf, Nat.add_mul]; omega)]
  have := flatMap_at hf l k x j (by simpa using h) hj
  rw [<- this, hf, Nat.add_mul]
  congr 1; omega
theorem flatMap_len {α : Type} {f : α -> List Value} {sz : Nat} (hf : ∀ x, (f x).length = sz) (l : List α) : (l.flatMap f).length = l.length * sz := by
 induction l with
 | nil => simp
 | cons x l ih => simp only [List.flatMap_cons, List.length_append, List.length_cons, ih, hf, Nat.add_mul]; omega
def Own {α : Type} (f : α -> List Value) (sz : Nat) (t : TypeId) (B : Nat) (w : World) (a : Option Addr) (c : Nat) (l : List α) : Prop :=
 w.ownsRow B t sz (.slice a l.length c) l.length (l.flatMap f)
section
variable {α : Type} {f : α -> List Value} {sz : Nat} {t : TypeId} {B : Nat} {w w' : World} {a : Option Addr} {c : Nat} {l : List α}
theorem Own.nil : Own f sz t B w none 0 ([] : List α) := World.ownsRow_nil w B t sz
theorem Own.alloc (h : Own f sz t B w a c l) (o : Obj) : Own f sz t B (w.alloc o) a c l := World.ownsRow.alloc h o
theorem Own.grown (h : Own f sz t B w a c l) {row : Option Nat} (hg : w.grownBy w' row) (hne : ∀ g, a = some g -> row ≠ some g.block) : Own f sz t B w' a c l := by
 refine World.ownsRow.kept h hg ?_
 cases a with
 | none => exact .inl rfl
 | some g => exact .inr (fun e => hne g rfl (by rw [<- e]; rfl))
theorem Own.lt (h : Own f sz t B w a c l) {g : Addr} (e : a = some g) : B <= g.block /\ g.block < w.heap.size := World.ownsRow.lt h g.block (by subst e; rfl)
theorem Own.below (h : Own f sz t B w a c l) (hb : Below w.heap.size w w') : Own f sz t B w' a c l := by
 refine ⟨h.1, ?_⟩
 rcases h.2 with hn | ⟨g, cap, cur, e, hg, hh, rest⟩
 · exact .inl hn
 · exact .inr ⟨g, cap, cur, e, hg, (hb.block g (Array.getElem?_eq_some_iff.1 hh).1).trans hh, rest⟩
theorem Own.cap (h : Own f sz t B w a c l) : l.length <= c /\ c <= maxLen := by
 rcases h.2 with ⟨e, hn⟩ | ⟨g, cap, cur, e, _, _, h1, h2, _⟩
 ·
  injection e with _ _ e3
  rw [hn, e3]; exact ⟨nlr _, by simp [maxLen]⟩
 ·
  injection e with _ _ e3
  subst e3
  exact ⟨h1, h2⟩
theorem Own.at_ (hf : ∀ x, (f x).length = sz) (h : Own f sz t B w a c l) {k : Nat} {x : α} (hx : l[k]? = some x) :
  ∃ g, a = some ⟨g, 0, none⟩ /\ B <= g /\ g < w.heap.size /\ ∀ j u, (f x)[j]? = some u -> w.cell? ⟨g, k * sz + j, none⟩ = some u := by
 have hk := lt_of_get hx
 obtain ⟨g, cap, hv, hb, hlt⟩ := h.form (by omega)
 injection hv with h1 h2
 refine ⟨g, h1, hb, hlt, fun j u hu => ?_⟩
 have hj : j < sz := by rw [<- hf x]; exact lt_of_get hu
 have := World.ownsRow.cells h (g := g) (by rw [h1]; rfl) (k * sz + j) u (by rw [flatMap_at hf l k x j hx hj]; exact hu)
 rwa [Addr.add_lit, Nat.zero_add] at this
theorem Own.reads {E : World -> Nat -> Nat -> α -> Prop} (hf : ∀ x, (f x).length = sz) (h : Own f sz t B w a c l)
  (hE : ∀ g o x, x ∈ l -> (∀ j u, (f x)[j]? = some u -> w.cell? ⟨g, o + j, none⟩ = some u) -> E w g o x) : SlR sz E w a c l := by
 refine ⟨h.cap.1, h.cap.2, fun k x hx => ?_⟩
 obtain ⟨g, ha, _, _, hc⟩ := h.at_ hf hx
 exact ⟨g, 0, ha, hE _ _ _ (List.mem_of_getElem? hx) (by simpa using hc)⟩
end
def Blk (w : World) (g : Nat) (t : TypeId) (cs : Array Value) : Prop := w.heap[g]? = some (.cells cs t (0, 0))
section
variable {w w' : World} {g : Nat} {t : TypeId} {cs : Array Value}
theorem Blk.lt (h : Blk w g t cs) : g < w.heap.size := (Array.getElem?_eq_some_iff.1 h).1
theorem Blk.cell (h : Blk w g t cs) (i : Nat) : w.cell? ⟨g, i, none⟩ = cs[i]? := cell_of_row w g i cs t (0, 0) h
theorem Blk.frozen (h : Blk w g t cs) (i : Nat) : w.frozen? ⟨g, i, none⟩ = false := by
 unfold Blk at h
 simp [World.frozen?, h]
theorem Blk.new (w : World) (t : TypeId) (cs : Array Value) : Blk (w.alloc (.cells cs t)) w.heap.size t cs := heap_alloc_new w _
theorem Blk.drew (h : Blk w g t cs) : Blk w.drew g t cs := h
theorem Blk.alloc (h : Blk w g t cs) (o : Obj) : Blk (w.alloc o) g t cs := (Below.heap_alloc w o g h.lt).trans h
theorem Blk.set_ (h : Blk w g t cs) (i : Nat) (u : Value) : Blk (w.setCell ⟨g, i, none⟩ u) g t (cs.setIfInBounds i u) := by
 unfold Blk at h ⊢
 simp [World.setCell, Array.getElem?_modify, h]
theorem Blk.far (h : Blk w g t cs) {p : Addr} (hp : g ≠ p.block) (u : Value) : Blk (w.setCell p u) g t cs := (Below.heap_setCell w p u g hp).trans h
theorem Blk.below {B : Nat} (h : Blk w g t cs) (hb : Below B w w') (hg : g < B) : Blk w' g t cs := (hb.block g hg).trans h
theorem Blk.below' (h : Blk w g t cs) (hb : Below w.heap.size w w') : Blk w' g t cs := h.below hb h.lt
theorem Blk.grown {row : Option Nat} (h : Blk w g t cs) (hb : w.grownBy w' row) (hg : some g ≠ row) : Blk w' g t cs := (hb.block g h.lt hg).trans h
theorem Blk.under {α : Type} {f : α -> List Value} {sz : Nat} {te : TypeId} {B : Nat} {w0 : World} {a : Option Addr} {c : Nat} {l : List α} (h : Blk w g t cs) (ho : Own f sz te B w0 a c l) (hg : g < B)
  (hb : w.grownBy w' (Value.ownBlock (.slice a l.length c))) : Blk w' g t cs := h.grown hb (fun e => by
 cases a with
 | none => simp [Value.ownBlock] at e
 | some p => simp [Value.ownBlock] at e; have := (ho.lt rfl).1; omega)
end
section
variable {α : Type} {f : α -> List Value} {sz : Nat} {t : TypeId} {B : Nat} {w : World} {l : List α} {P : Program}
theorem wp_append_1 {o : Oper} {act : Act} {K : Act -> World -> Prop} {Q : Exit -> Act -> World -> Prop} (s y : Operand) (ts : TypeId)
  (ho : o.op = .call { callee := .builtin .append, args := #[s, y], argTypes := #[ts, ts] })
  {z : Value} {bytes : Nat} (ht : P.underlying ts = some (.slice t)) (hi : (P.info? t).map (fun i => (i.zero, i.size, i.bytes)) = some (some z, sz, bytes)) (hz : z.cells.size = sz) (hsz : 0 < sz) (hby : bytes <= 1024)
  (hf : ∀ x, (f x).length = sz) (a : Option Addr) (c : Nat) (hs : act.eval s = .slice a l.length c) (hown : Own f sz t B w a c l)
  (x : α) (hone : ∀ u ∈ f x, u.oneCell' = true) (b c1 : Nat) (hy : act.eval y = .slice (some ⟨b, 0, none⟩) 1 c1) (hcell : ∀ j u, (f x)[j]? = some u -> w.cell? ⟨b, j, none⟩ = some u)
  (l2 : List α) (hl2 : l2 = l ++ [x]) (hlen : l2.length <= 16777216) (hB : B <= w.heap.size)
  (h : ∀ a' c' w', Own f sz t B w' a' c' l2 -> w.grownBy w' (Value.ownBlock (.slice a l.length c)) -> ((∃ g, a' = some ⟨g, 0, none⟩ /\ (a = some ⟨g, 0, none⟩ \/ g = w.heap.size))) ->
   K (act.put o.dst (.slice a' l2.length c')) w') : o.wp P act w K Q := by
 subst hl2
 obtain ⟨i, hi0, hz0, hz1, hz2⟩ := info_parts hi
 simp only [List.length_append, List.length_cons, List.length_nil, Nat.zero_add] at hlen
 obtain ⟨v', w', hr, h2, h3, _, h5⟩ := run_append_own_at (P := P) w B ts o.type t i z sz bytes ht hi0 hz0 hz1 hz2 hz hsz (.slice a l.length c) l.length (l.flatMap f) hown ⟨b, 0, none⟩ 1 c1 (f x) (by rw [hf]; omega)
  (fun j u hu => by rw [Addr.add_lit, Nat.zero_add]; exact hcell j u hu) hone (by unfold maxLen; omega)
  (by have : (l.length + 1) * bytes <= 16777216 * 1024 := Nat.mul_le_mul hlen hby
      omega) hB
 unfold Oper.wp execOp
 simp only [ho, resolve, invoke, builtin, Sem.run_bind, Sem.run_pure, Result.andThen_ok, List.map_toArray, List.map_cons, List.map_nil, hs, hy, hr]
 have hf2 : (l ++ [x]).flatMap f = l.flatMap f ++ f x := by simp
 have hn : (l ++ [x]).length = l.length + 1 := by simp
 obtain ⟨g, cap, hv, hb, hlt⟩ := h2.form (by omega)
 subst hv
 rw [<- hn]
 refine h _ _ w' (by unfold Own; rw [hf2, hn]; exact h2) h3 ⟨g, rfl, ?_⟩
 rcases h5 with h5 | h5
 ·
  left
  cases a with
  | none => simp [Value.ownBlock] at h5
  | some g' =>
   have hg' : g = g'.block := by simpa [Value.ownBlock] using h5
   rcases hown.2 with ⟨e, _⟩ | ⟨g2, _, _, e, _⟩
   · cases e
   ·
    injection e with e1
    injection e1 with e1
    subst e1
    simp at hg'
    rw [hg']
 ·
  right
  simpa [Value.ownBlock] using h5
theorem wpList_append_1 {ops : Array Oper} {rest : List Oper} {o : Oper} {act : Act} {Q : Exit -> Act -> World -> Prop} (hgd : o.guard = none) (s y : Operand) (ts : TypeId)
  (ho : o.op = .call { callee := .builtin .append, args := #[s, y], argTypes := #[ts, ts] })
  {z : Value} {bytes : Nat} (ht : P.underlying ts = some (.slice t)) (hi : (P.info? t).map (fun i => (i.zero, i.size, i.bytes)) = some (some z, sz, bytes)) (hz : z.cells.size = sz) (hsz : 0 < sz) (hby : bytes <= 1024)
  (hf : ∀ x, (f x).length = sz) (a : Option Addr) (c : Nat) (hs : act.eval s = .slice a l.length c) (hown : Own f sz t B w a c l)
  (x : α) (hone : ∀ u ∈ f x, u.oneCell' = true) (b c1 : Nat) (hy : act.eval y = .slice (some ⟨b, 0, none⟩) 1 c1) (hcell : ∀ j u, (f x)[j]? = some u -> w.cell? ⟨b, j, none⟩ = some u)
  (l2 : List α) (hl2 : l2 = l ++ [x]) (hlen : l2.length <= 16777216) (hB : B <= w.heap.size)
  (h : ∀ a' c' w', Own f sz t B w' a' c' l2 -> w.grownBy w' (Value.ownBlock (.slice a l.length c)) -> ((∃ g, a' = some ⟨g, 0, none⟩ /\ (a = some ⟨g, 0, none⟩ \/ g = w.heap.size))) ->
   wpList P ops Q rest (act.put o.dst (.slice a' l2.length c')) w') : wpList P ops Q (o :: rest) act w :=
 wpList_plain hgd fun _ hK => wp_append_1 s y ts ho ht hi hz hsz hby hf a c hs hown x hone b c1 hy hcell l2 hl2 hlen hB fun a' c' w' h1 h2 h3 => hK _ _ (h a' c' w' h1 h2 h3)
end
theorem below_append {W w w' : World} {a : Option Addr} {n c : Nat} (h : Below W.heap.size W w) (hg : w.grownBy w' (Value.ownBlock (.slice a n c))) (hr : ∀ g, a = some g -> W.heap.size <= g.block) : Below W.heap.size W w' :=
 h.grown hg h.size (fun k hk => by
  cases a with
  | none => simp [Value.ownBlock] at hk
  | some g => simp [Value.ownBlock] at hk; subst hk; exact hr g rfl)
theorem below_append' {W w w' : World} {α : Type} {f : α -> List Value} {sz : Nat} {t : TypeId} {a : Option Addr} {c : Nat} {l : List α} (h : Below W.heap.size W w) (ho : Own f sz t W.heap.size w a c l)
  (hg : w.grownBy w' (Value.ownBlock (.slice a l.length c))) : Below W.heap.size W w' := below_append h hg fun _ e => (ho.lt e).1
def strC (s : ByteArray) : List Value := [.string s]
def intC (x : Int) : List Value := [.int .i64 x]
theorem strC_len (s : ByteArray) : (strC s).length = 1 := rfl
theorem intC_len (s : Int) : (intC s).length = 1 := rfl
theorem strC_one (s : ByteArray) : ∀ u ∈ strC s, u.oneCell' = true := by simp [strC, Value.oneCell']
theorem intC_one (s : Int) : ∀ u ∈ intC s, u.oneCell' = true := by simp [intC, Value.oneCell']
theorem strC_cell {w : World} {b : Nat} {s : ByteArray} (h : w.cell? ⟨b, 0, none⟩ = some (.string s)) : ∀ j u, (strC s)[j]? = some u -> w.cell? ⟨b, j, none⟩ = some u := by
 intro j u hu
 match j, hu with
 | 0, hu => simp [strC] at hu; subst hu; exact h
theorem intC_cell {w : World} {b : Nat} {s : Int} (h : w.cell? ⟨b, 0, none⟩ = some (.int .i64 s)) : ∀ j u, (intC s)[j]? = some u -> w.cell? ⟨b, j, none⟩ = some u := by
 intro j u hu
 match j, hu with
 | 0, hu => simp [intC] at hu; subst hu; exact h
abbrev OwnS (B : Nat) (w : World) (a : Option Addr) (c : Nat) (l : List ByteArray) : Prop := Own strC 1 9 B w a c l
abbrev OwnI (B : Nat) (w : World) (a : Option Addr) (c : Nat) (l : List Int) : Prop := Own intC 1 3 B w a c l
theorem infoS : (Tryz.prog.info? 9).map (fun i => (i.zero, i.size, i.bytes)) = some (some (.string ⟨#[]⟩), 1, 16) := by kernel_rfl
theorem infoI : (Tryz.prog.info? 3).map (fun i => (i.zero, i.size, i.bytes)) = some (some (.int .i64 0), 1, 8) := by kernel_rfl
section
variable {B : Nat} {w : World} {a : Option Addr} {c : Nat}
theorem OwnS.reads1 {l : List ByteArray} (h : OwnS B w a c l) : StrsR w a c l :=
 Own.reads strC_len h fun g o x hx hc => show w.cell? _ = _ by simpa using hc 0 _ rfl
theorem OwnI.reads1 {l : List Int} (h : OwnI B w a c l) (hs : ∀ s ∈ l, InInt s) : IntsR w a c l :=
 Own.reads intC_len h fun g o x hx hc => ⟨by simpa using hc 0 _ rfl, wf_of (hs x hx)⟩
end
theorem append_str {B : Nat} {w : World} {l : List ByteArray} {ops : Array Oper} {rest : List Oper} {o : Oper} {act : Act} {Q : Exit -> Act -> World -> Prop} (hgd : o.guard = none) (s y : Operand)
  (ho : o.op = .call { callee := .builtin .append, args := #[s, y], argTypes := #[24, 24] })
  (a : Option Addr) (c : Nat) (hs : act.eval s = .slice a l.length c) (hown : OwnS B w a c l)
  (x : ByteArray) (b c1 : Nat) (hy : act.eval y = .slice (some ⟨b, 0, none⟩) 1 c1) (hcell : w.cell? ⟨b, 0, none⟩ = some (.string x))
  (l2 : List ByteArray) (hl2 : l2 = l ++ [x]) (hlen : l2.length <= 16777216) (hB : B <= w.heap.size)
  (h : ∀ a' c' w', OwnS B w' a' c' l2 -> w.grownBy w' (Value.ownBlock (.slice a l.length c)) -> ((∃ g, a' = some ⟨g, 0, none⟩ /\ (a = some ⟨g, 0, none⟩ \/ g = w.heap.size))) ->
   wpList Tryz.prog ops Q rest (act.put o.dst (.slice a' l2.length c')) w') : wpList Tryz.prog ops Q (o :: rest) act w :=
 wpList_append_1 hgd s y 24 ho Tryz.underlying24 infoS rfl (by omega) (by omega) strC_len a c hs hown x (strC_one x) b c1 hy (strC_cell hcell) l2 hl2 hlen hB h
theorem append_int {B : Nat} {w : World} {l : List Int} {ops : Array Oper} {rest : List Oper} {o : Oper} {act : Act} {Q : Exit -> Act -> World -> Prop} (hgd : o.guard = none) (s y : Operand)
  (ho : o.op = .call { callee := .builtin .append, args := #[s, y], argTypes := #[38, 38] })
  (a : Option Addr) (c : Nat) (hs : act.eval s = .slice a l.length c) (hown : OwnI B w a c l)
  (x : Int) (b c1 : Nat) (hy : act.eval y = .slice (some ⟨b, 0, none⟩) 1 c1) (hcell : w.cell? ⟨b, 0, none⟩ = some (.int .i64 x))
  (l2 : List Int) (hl2 : l2 = l ++ [x]) (hlen : l2.length <= 16777216) (hB : B <= w.heap.size)
  (h : ∀ a' c' w', OwnI B w' a' c' l2 -> w.grownBy w' (Value.ownBlock (.slice a l.length c)) -> ((∃ g, a' = some ⟨g, 0, none⟩ /\ (a = some ⟨g, 0, none⟩ \/ g = w.heap.size))) ->
   wpList Tryz.prog ops Q rest (act.put o.dst (.slice a' l2.length c')) w') : wpList Tryz.prog ops Q (o :: rest) act w :=
 wpList_append_1 hgd s y 38 ho Tryz.underlying38 infoI rfl (by omega) (by omega) intC_len a c hs hown x (intC_one x) b c1 hy (intC_cell hcell) l2 hl2 hlen hB h
def New (B : Nat) (w V : World) : Prop := ∀ p v, B <= p.block -> w.cell? p = some v -> V.cell? p = some v
def NewBut (B : Nat) (a : Option Addr) (w V : World) : Prop := ∀ p v, B <= p.block -> (∀ g, a = some g -> p.block ≠ g.block) -> w.cell? p = some v -> V.cell? p = some v
theorem New.refl (B : Nat) (w : World) : New B w w := fun _ _ _ h => h
theorem New.base {B B' : Nat} {w V : World} (h : New B w V) (hB : B <= B') : New B' w V := fun p v hp hc => h p v (Nat.le_trans hB hp) hc
theorem New.but {B : Nat} {w V : World} (h : New B w V) (a : Option Addr) : NewBut B a w V := fun p v hp _ hc => h p v hp hc
theorem NewBut.back {B : Nat} {w w1 w2 V : World} {a a' : Option Addr} {n c : Nat} (h : NewBut B a' w2 V) (hb : Below w.heap.size w w1) (hg : w1.grownBy w2 (Value.ownBlock (.slice a n c)))
  (ha : ∃ g, a' = some ⟨g, 0, none⟩ /\ (a = some ⟨g, 0, none⟩ \/ g = w1.heap.size)) : NewBut B a w V := fun p v hp hne hc => by
 obtain ⟨g, rfl, hga⟩ := ha
 have hlt := World.block_lt_of_cell? w p hc
 have h1 : w1.cell? p = some v := (hb.cell hlt).trans hc
 have hlt1 := World.block_lt_of_cell? w1 p h1
 refine h p v hp (fun g' e => ?_) (hg.cell h1 (fun e => ?_))
 ·
  injection e with e
  subst e
  rcases hga with h2 | h2
  · exact hne _ h2
  · simp; omega
 ·
  cases a with
  | none => simp [Value.ownBlock] at e
  | some g0 => exact hne _ rfl (by simpa [Value.ownBlock] using e)
theorem NewBut.fresh {B B' : Nat} {w1 w2 w3 V : World} {a a' : Option Addr} {n c : Nat} (h : NewBut B a' w3 V) (hB : B <= B') (hb : Below w1.heap.size w1 w2) (hg : w2.grownBy w3 (Value.ownBlock (.slice a n c)))
  (ha : ∃ g, a' = some ⟨g, 0, none⟩ /\ (a = some ⟨g, 0, none⟩ \/ g = w2.heap.size)) (hlt : ∀ g, a = some g -> g.block < B') : New B' w1 V := fun p v hp hc => by
 refine NewBut.back h hb hg ha p v (Nat.le_trans hB hp) (fun g e => ?_) hc
 have := hlt g e
 omega
section
variable {α : Type} {f : α -> List Value} {sz : Nat} {t : TypeId} {B : Nat} {w V : World} {a : Option Addr} {c : Nat} {l : List α}
theorem Own.readsIn {β : Type} {E : World -> Nat -> Nat -> β -> Prop} (g : α -> β) (hf : ∀ x, (f x).length = sz) (h : Own f sz t B w a c l) (hV : New B w V)
  (hE : ∀ b o x, x ∈ l -> (∀ j u, (f x)[j]? = some u -> V.cell? ⟨b, o + j, none⟩ = some u) -> E V b o (g x)) : SlR sz E V a c (l.map g) := by
 refine ⟨by simpa using h.cap.1, h.cap.2, fun k y hy => ?_⟩
 rw [List.getElem?_map] at hy
 obtain ⟨x, hx, rfl⟩ := Option.map_eq_some_iff.1 hy
 obtain ⟨b, ha, hB, _, hc⟩ := h.at_ hf hx
 exact ⟨b, 0, ha, hE _ _ _ (List.mem_of_getElem? hx) (fun j u hu => hV _ _ hB (by simpa using hc j u hu))⟩
end
section
variable {α : Type} {f : α -> List Value} {sz : Nat} {t : TypeId} {B : Nat} {w V : World} {a : Option Addr} {c : Nat} {l : List α}
end
theorem NewBut.unset {B : Nat} {a : Option Addr} {w V : World} {p : Addr} {u : Value} (h : NewBut B a (w.setCell p u) V) (hp : p.block < B) : NewBut B a w V := fun q v hq hne hc =>
 h q v hq hne ((World.cell?_setCell_other w p q u (fun e => by subst e; omega)).trans hc)
theorem New.unset {B : Nat} {w V : World} {p : Addr} {u : Value} (h : New B (w.setCell p u) V) (hp : p.block < B) : New B w V := fun q v hq hc =>
 h q v hq ((World.cell?_setCell_other w p q u (fun e => by subst e; omega)).trans hc)
theorem blk_at1 (w : World) (o : Obj) (t : TypeId) (cs : Array Value) : Blk ((w.alloc o).alloc (.cells cs t)) (w.heap.size + 1) t cs := by have := Blk.new (w.alloc o) t cs; simpa using this
theorem blk_at2 (w : World) (o o2 : Obj) (t : TypeId) (cs : Array Value) : Blk (((w.alloc o).alloc o2).alloc (.cells cs t)) (w.heap.size + 1 + 1) t cs := by have := Blk.new ((w.alloc o).alloc o2) t cs; simpa using this
theorem New.below {B : Nat} {w w' V : World} (h : New B w' V) (hb : Below w.heap.size w w') : New B w V := fun p v hp hc => h p v hp ((hb.cell (World.block_lt_of_cell? w p hc)).trans hc)
theorem New.unalloc {B : Nat} {w V : World} {o : Obj} (h : New B (w.alloc o) V) : New B w V := fun p v hp hc => h p v hp ((World.cell?_alloc_lt w o p (World.block_lt_of_cell? w p hc)).trans hc)
end Go.Proofs.YtkjnkpkagcboeaaGreatDoor
namespace Go.Proofs.YtkjnkpkagcboeaaGreatDoor
open Go.RowKit Go.Maps Go.WideMaps
theorem keyedS : Keyed Tryz.prog 9 := string_keyed Tryz.underlying9
theorem zeroB (w : World) : (zeroValue 4).run Tryz.prog w = .ok (.bool false) w := by kernel_rfl
def OwnM (w : World) (b n : Nat) (S : ByteArray -> Bool) : Prop :=
 ∃ D : DataW Unit, w.ownsMap Tryz.prog 9 (plainElem Tryz.prog 4) b n D /\ ∀ s : ByteArray, D.atKey (.string s.data.toList) (.lit (.bool false)) = .lit (.bool (S s))
theorem strLit_ne {s t : ByteArray} (h : s ≠ t) : Lit.string s.data.toList ≠ Lit.string t.data.toList := fun e => h (by
 injection e with e
 cases s; cases t
 simp at e
 rw [e])
section
variable {w w' : World} {b n : Nat} {S : ByteArray -> Bool}
theorem OwnM.made (w : World) : OwnM (w.alloc (.map #[] 0)) w.heap.size 0 (fun _ => false) := ⟨.map [], World.ownsMap_made _ _ _ _, fun _ => rfl⟩
theorem OwnM.lt (h : OwnM w b n S) : b < w.heap.size := by obtain ⟨D, h1, _⟩ := h; exact h1.lt
theorem OwnM.look (h : OwnM w b n S) {s : ByteArray} (hs : s.size <= maxLen) : (Instr.lookup 100 (.map (some b)) (.string s) false).run Tryz.prog w = .ok (.bool (S s)) w := by
 obtain ⟨D, h1, h2⟩ := h
 obtain ⟨v, ps, hr, hv⟩ := h1.lookup keyedS Tryz.underlying100 (zeroB w) (plainElem_bool Tryz.underlying4 false) (keyOf_string_mk Tryz.underlying9 hs)
 rw [h2 s] at hv
 rw [hr]
 unfold plainElem at hv
 simp [Tryz.underlying4] at hv
 cases v <;> simp at hv
 rw [hv.1]
end
section
variable {w : World} {b n : Nat} {S : ByteArray -> Bool} {ops : Array Oper} {rest : List Oper} {o : Oper} {a : Act} {Q : Exit -> Act -> World -> Prop}
theorem map_put (hg : o.guard = none) (m x v : Operand) (hop : o.op = Op.mapUpdate 100 m x v) (hm : a.eval m = .map (some b)) (hown : OwnM w b n S) (hn : n < 16777216)
  (s : ByteArray) (hs : s.size <= maxLen) (hx : a.eval x = .string s) (hv : a.eval v = .bool true)
  (hK : ∀ w', OwnM w' b (n + 1) (fun t => decide (t = s) || S t) -> w.grownBy w' (some b) -> wpList Tryz.prog ops Q rest (a.put o.dst undef) w') : wpList Tryz.prog ops Q (o :: rest) a w := by
 obtain ⟨D, h1, h2⟩ := hown
 refine wpList_mapUpdate_own w hg m x v 100 hop 9 4 keyedS Tryz.underlying100 (plainElem Tryz.prog 4) b n D hm h1 (by unfold maxLen; omega) _ _ (.string s.data.toList) hx hv
  (keyOf_string_mk Tryz.underlying9 hs) (.lit (.bool true)) [] (plainElem_bool Tryz.underlying4 true) fun w' r1 r2 => hK w' ⟨_, r1, fun t => ?_⟩ r2
 by_cases he : t = s
 ·
  subst he
  rw [atKey_put_same (h1.isMap) (show WideAt.IsKeyLit (.string _) from trivial)]
  simp
 ·
  rw [atKey_put_other (strLit_ne he), h2 t]
  simp [he]
end
end Go.Proofs.YtkjnkpkagcboeaaGreatDoor
namespace Go.Proofs.YtkjnkpkagcboeaaGreatDoor
open Go.RowKit
def Agr (X : Nat -> Prop) (w V : World) : Prop := ∀ p v, ¬ X p.block -> w.cell? p = some v -> V.cell? p = some v
def Rd (X : Nat -> Prop) (w : World) (R : World -> Prop) : Prop := ∀ V, Agr X w V -> R V
section
variable {X Y : Nat -> Prop} {w w' w'' V : World} {R R' : World -> Prop}
theorem Agr.refl (X : Nat -> Prop) (w : World) : Agr X w w := fun _ _ _ h => h
theorem Agr.trans (h : Agr X w w') (k : Agr X w' w'') : Agr X w w'' := fun p v hp hc => k p v hp (h p v hp hc)
theorem Agr.mono (h : Agr X w w') (e : ∀ b, X b -> Y b) : Agr Y w w' := fun p v hp hc => h p v (fun hx => hp (e _ hx)) hc
theorem Agr.ext (h : Ext w w') : Agr X w w' := fun p v _ hc => h p v hc
theorem Agr.below (h : Below w.heap.size w w') : Agr X w w' := Agr.ext (xbw h)
theorem Agr.alloc (h : Agr X w w') (o : Obj) : Agr X w (w'.alloc o) := fun p v hp hc => by
 have e := h p v hp hc
 exact (World.cell?_alloc_lt w' o p (World.block_lt_of_cell? w' p e)).trans e
theorem Agr.setc {g i : Nat} {u : Value} (hg : X g) (h : Agr X w w') : Agr X w (w'.setCell ⟨g, i, none⟩ u) := fun p v hp hc =>
 (World.cell?_setCell_other w' ⟨g, i, none⟩ p u (fun e => by subst e; exact hp hg)).trans (h p v hp hc)
theorem Agr.grown {a : Option Addr} {n c : Nat} (h : Agr X w w') (hg : w'.grownBy w'' (Value.ownBlock (.slice a n c))) (ha : ∀ g, a = some g -> X g.block) : Agr X w w'' := fun p v hp hc =>
 hg.cell (h p v hp hc) (fun e => by
  cases a with
  | none => simp [Value.ownBlock] at e
  | some g => simp [Value.ownBlock] at e; exact hp (e ▸ ha g rfl))
theorem Rd.less {Y : Nat -> Prop} (h : Rd Y w R) (e : ∀ b, X b -> Y b) : Rd X w R := fun V hV => h V (hV.mono e)
theorem Rd.now (h : Rd X w R) : R w := h w (Agr.refl _ _)
theorem Rd.imp (h : Rd X w R) (e : ∀ V, R V -> R' V) : Rd X w R' := fun V hV => e V (h V hV)
theorem Rd.and (h : Rd X w R) (k : Rd X w R') : Rd X w fun V => R V /\ R' V := fun V hV => ⟨h V hV, k V hV⟩
theorem Rd.step (h : Rd X w R) (hw : Agr X w w') : Rd X w' R := fun V hV => h V (hw.trans hV)
theorem Rd.call (h : Rd X w R) (hb : Below w.heap.size w w') : Rd X w' R := h.step (Agr.below hb)
theorem Rd.alloc (h : Rd X w R) (o : Obj) : Rd X (w.alloc o) R := h.step ((Agr.refl _ _).alloc o)
theorem Rd.more (h : Rd X w R) (e : ∀ b, Y b -> X b \/ w.heap.size <= b) : Rd Y w R := fun V hV => h V fun p v hp hc =>
 hV p v (fun hy => (e _ hy).elim hp fun hl => absurd (World.block_lt_of_cell? w p hc) (by omega)) hc
end
def Sat (S : World -> Prop) (w : World) : Prop := S w
section
variable {α β : Type} {f : α -> List Value} {sz : Nat} {t : TypeId} {B : Nat} {w V : World} {a : Option Addr} {c : Nat} {l : List α} {X : Nat -> Prop}
theorem Own.readsX {E : World -> Nat -> Nat -> β -> Prop} (m : List β) (hlen : m.length = l.length) (hf : ∀ x, (f x).length = sz) (h : Own f sz t B w a c l) (hV : Agr X w V) (hX : ∀ g, a = some g -> ¬ X g.block)
  (hE : ∀ (b o k : Nat) (x : α) (y : β), l[k]? = some x -> m[k]? = some y -> (∀ j u, (f x)[j]? = some u -> V.cell? ⟨b, o + j, none⟩ = some u) -> E V b o y) : SlR sz E V a c m := by
 refine ⟨by rw [hlen]; exact h.cap.1, h.cap.2, fun k y hy => ?_⟩
 obtain ⟨x, hx⟩ := get_of_lt (show k < l.length by have := lt_of_get hy; omega)
 obtain ⟨b, ha, hB, _, hc⟩ := h.at_ hf hx
 exact ⟨b, 0, ha, hE _ _ _ _ _ hx hy (fun j u hu => hV _ _ (fun hx => hX _ ha hx) (by simpa using hc j u hu))⟩
end
structure Fr (Y : Nat -> Prop) (w w' : World) : Prop where
 os : w'.os = w.os
 tape : w'.tape = w.tape
 output : w'.output = w.output
 size : w.heap.size <= w'.heap.size
 block : ∀ k, k < w.heap.size -> ¬ Y k -> w'.heap[k]? = w.heap[k]?
section
variable {Y Z : Nat -> Prop} {w w' w'' : World}
theorem Fr.refl (Y : Nat -> Prop) (w : World) : Fr Y w w := ⟨rfl, rfl, rfl, nlr _, fun _ _ _ => rfl⟩
theorem Fr.trans (h : Fr Y w w') (k : Fr Y w' w'') : Fr Y w w'' := ⟨k.os.trans h.os, k.tape.trans h.tape, k.output.trans h.output, Nat.le_trans h.size k.size, fun n h1 h2 => (k.block n (ltl h1 h.size) h2).trans (h.block n h1 h2)⟩
theorem Fr.then_ (h : Fr Y w w') (k : Fr Z w' w'') (e : ∀ b, Z b -> Y b \/ w.heap.size <= b) : Fr Y w w'' := ⟨k.os.trans h.os, k.tape.trans h.tape, k.output.trans h.output, Nat.le_trans h.size k.size, fun n h1 h2 => (k.block n (ltl h1 h.size) (fun hz => (e n hz).elim h2 (fun h => by omega))).trans (h.block n h1 h2)⟩
theorem Fr.below (h : Below w.heap.size w w') : Fr Y w w' := ⟨h.os, h.tape, h.output, h.size, fun k hk _ => h.block k hk⟩
theorem Fr.call (h : Fr Y w w') (k : Below w'.heap.size w' w'') : Fr Y w w'' := h.trans (Fr.below k)
theorem Fr.alloc (h : Fr Y w w') (o : Obj) : Fr Y w (w'.alloc o) := h.call (brf.alloc (nlr _) _)
theorem Fr.setc (h : Fr Y w w') {g i : Nat} {u : Value} (hg : Y g \/ w.heap.size <= g) : Fr Y w (w'.setCell ⟨g, i, none⟩ u) := ⟨h.os, h.tape, h.output, by have := h.size; simpa [World.setCell] using this, fun k h1 h2 =>
 (Below.heap_setCell _ _ _ _ (fun e => by simp at e; subst e; exact hg.elim h2 (fun h => by omega))).trans (h.block k h1 h2)⟩
theorem Fr.grown (h : Fr Y w w') {a : Option Addr} {n c : Nat} (hg : w'.grownBy w'' (Value.ownBlock (.slice a n c))) (ha : ∀ g, a = some g -> Y g.block \/ w.heap.size <= g.block) : Fr Y w w'' := ⟨hg.os.trans h.os, hg.tape.trans h.tape, hg.output.trans h.output, Nat.le_trans h.size hg.size, fun k h1 h2 =>
 (hg.block k (ltl h1 h.size) (fun e => by
  cases a with
  | none => simp [Value.ownBlock] at e
  | some g => simp [Value.ownBlock] at e; subst e; exact (ha g rfl).elim h2 (fun h => by omega))).trans (h.block k h1 h2)⟩
theorem Fr.agr (h : Fr Y w w') : Agr Y w w' := fun p v hp hc => by
 have := h.block p.block (World.block_lt_of_cell? w p hc) hp
 rw [<- hc]
 unfold World.cell?
 rw [this]
theorem Blk.fr {g : Nat} {t : TypeId} {cs : Array Value} (h : Blk w g t cs) (k : Fr Y w w') (hg : ¬ Y g) : Blk w' g t cs := (k.block g h.lt hg).trans h
theorem Below.fr {B : Nat} {W0 : World} (h : Below B W0 w) (k : Fr Y w w') (hY : ∀ b, Y b -> B <= b) (hB : B <= w.heap.size) : Below B W0 w' :=
 ⟨k.os.trans h.os, k.tape.trans h.tape, k.output.trans h.output, Nat.le_trans h.size k.size, fun n hn => (k.block n (by omega) (fun hy => by have := hY n hy; omega)).trans (h.block n hn)⟩
end
end Go.Proofs.YtkjnkpkagcboeaaGreatDoor
namespace Go.Proofs.YtkjnkpkagcboeaaGreatDoor
open Go.RowKit Go.Maps Go.WideMaps
def whoL (l : List ByteArray) (s : ByteArray) : Option Nat := l.findIdx? fun x => decide (x = s)
theorem whoL_lt {l : List ByteArray} {s : ByteArray} {v : Nat} (h : whoL l s = some v) : v < l.length := by
 unfold whoL at h
 exact (List.findIdx?_eq_some_iff_getElem.1 h).1
theorem whoL_snoc {l : List ByteArray} {x : ByteArray} (hx : whoL l x = none) (s : ByteArray) : whoL (l ++ [x]) s = if s = x then some l.length else whoL l s := by
 unfold whoL at hx ⊢
 rw [List.findIdx?_append]
 by_cases h : s = x
 ·
  subst h
  rw [hx, if_pos rfl]
  simp [List.findIdx?_cons]
 ·
  rw [if_neg h]
  have h2 : ¬ x = s := fun e => h e.symm
  simp [List.findIdx?_cons, h2]
theorem zeroI (w : World) : (zeroValue 3).run Tryz.prog w = .ok (.int .i64 0) w := by kernel_rfl
def OwnV (w : World) (b n : Nat) (l : List ByteArray) : Prop :=
 ∃ D : DataW Unit, w.ownsMap Tryz.prog 9 (plainElem Tryz.prog 3) b n D /\ ∀ s : ByteArray, D.atKey (.string s.data.toList) (.lit (.int .i64 0)) = .lit (.int .i64 ((whoL l s).getD 0 : Nat)) /\ Maps.has D (.string s.data.toList) = (whoL l s).isSome
section
variable {w w' : World} {b n : Nat} {l : List ByteArray}
theorem OwnV.made (w : World) : OwnV (w.alloc (.map #[] 0)) w.heap.size 0 [] := ⟨.map [], World.ownsMap_made _ _ _ _, fun _ => ⟨rfl, rfl⟩⟩
theorem OwnV.kept {row : Option Nat} (h : OwnV w b n l) (hg : w.grownBy w' row) (hne : some b ≠ row) : OwnV w' b n l := by obtain ⟨D, h1, h2⟩ := h; exact ⟨D, h1.kept hg hne, h2⟩
theorem OwnV.alloc (h : OwnV w b n l) (o : Obj) : OwnV (w.alloc o) b n l := by obtain ⟨D, h1, h2⟩ := h; exact ⟨D, h1.alloc o, h2⟩
theorem OwnV.fr {g : Nat} (h : OwnV w b n l) (k : Fr (fun x => x = g) w w') (hg : b ≠ g) : OwnV w' b n l :=
 h.kept (row := some g) ⟨k.os, k.tape, k.output, k.size, fun i hi hne => k.block i hi fun e => hne (by rw [e])⟩ (fun e => hg (by injection e))
theorem plainI {v : Int} (h : (Lit.int .i64 v).wf = true) : plainElem (H := Unit) Tryz.prog 3 (.int .i64 v) = some (.lit (.int .i64 v), []) := plainElem_int Tryz.underlying3 h
theorem OwnV.look (h : OwnV w b n l) {s : ByteArray} (hs : s.size <= maxLen) : (Instr.lookup 71 (.map (some b)) (.string s) true).run Tryz.prog w = .ok (.tuple #[.int .i64 ((whoL l s).getD 0 : Nat), .bool (whoL l s).isSome]) w := by
 obtain ⟨D, h1, h2⟩ := h
 obtain ⟨v, ps, hr, hv⟩ := h1.look_ok keyedS Tryz.underlying71 (zeroI w) (plainI (v := 0) (by decide)) (keyOf_string_mk Tryz.underlying9 hs)
 rw [(h2 s).1] at hv
 obtain ⟨c, rfl, hc, _⟩ := plainElem_int_inv Tryz.underlying3 hv
 simp only [Prod.mk.injEq, DataW.lit.injEq, Lit.int.injEq] at hc
 rw [hr, (h2 s).2, <- hc.1.2]
end
section
variable {w : World} {b n : Nat} {l : List ByteArray} {ops : Array Oper} {rest : List Oper} {o : Oper} {a : Act} {Q : Exit -> Act -> World -> Prop}
theorem mapI_put (hg : o.guard = none) (m x v : Operand) (hop : o.op = Op.mapUpdate 71 m x v) (hm : a.eval m = .map (some b)) (hown : OwnV w b n l) (hn : n < 16777216)
  (s : ByteArray) (hs : s.size <= maxLen) (hx : a.eval x = .string s) (hw : whoL l s = none) (hl : l.length <= 16777216) (hv : a.eval v = .int .i64 l.length)
  (hK : ∀ w', OwnV w' b (n + 1) (l ++ [s]) -> w.grownBy w' (some b) -> wpList Tryz.prog ops Q rest (a.put o.dst undef) w') : wpList Tryz.prog ops Q (o :: rest) a w := by
 obtain ⟨D, h1, h2⟩ := hown
 refine wpList_mapUpdate_own w hg m x v 71 hop 9 3 keyedS Tryz.underlying71 (plainElem Tryz.prog 3) b n D hm h1 (by unfold maxLen; omega) _ _ (.string s.data.toList) hx hv
  (keyOf_string_mk Tryz.underlying9 hs) (.lit (.int .i64 l.length)) [] (plainI (wf_of (by unfold InInt; omega))) fun w' r1 r2 => hK w' ⟨_, r1, fun t => ?_⟩ r2
 rw [whoL_snoc hw]
 by_cases he : t = s
 ·
  subst he
  rw [atKey_put_same (h1.isMap) (show WideAt.IsKeyLit (.string _) from trivial), has_put_same (h1.isMap) (show WideAt.IsKeyLit (.string _) from trivial), if_pos rfl]
  exact ⟨rfl, rfl⟩
 ·
  rw [atKey_put_other (strLit_ne he), has_put_other (strLit_ne he), (h2 t).1, (h2 t).2, if_neg he]
  exact ⟨rfl, rfl⟩
end
end Go.Proofs.YtkjnkpkagcboeaaGreatDoor
namespace Go.Proofs.YtkjnkpkagcboeaaGreatDoor
def val : List Int -> Nat
 | [] => 0
 | x :: l => x.toNat + 65536 * val l
def limbs (n : Nat) : List Int := if h : n = 0 then [] else ((n % 65536 : Nat) : Int) :: limbs (n / 65536)
termination_by n
decreasing_by omega
def U16 (l : List Int) : Prop := ∀ x ∈ l, 0 <= x /\ x <= 65535
theorem U16.nil : U16 [] := fun _ h => by cases h
theorem U16.cons {x : Int} {l : List Int} (h : 0 <= x /\ x <= 65535) (k : U16 l) : U16 (x :: l) := fun y hy => by
 rcases List.mem_cons.1 hy with rfl | hy
 · exact h
 · exact k y hy
theorem U16.head {x : Int} {l : List Int} (h : U16 (x :: l)) : 0 <= x /\ x <= 65535 := h x (by simp)
theorem U16.tail {x : Int} {l : List Int} (h : U16 (x :: l)) : U16 l := fun y hy => h y (by simp [hy])
theorem U16.app {l m : List Int} (h : U16 l) (k : U16 m) : U16 (l ++ m) := fun y hy => by
 rcases List.mem_append.1 hy with hy | hy
 · exact h y hy
 · exact k y hy
theorem U16.take {l : List Int} (h : U16 l) (k : Nat) : U16 (l.take k) := fun y hy => h y (List.mem_of_mem_take hy)
theorem U16.drop {l : List Int} (h : U16 l) (k : Nat) : U16 (l.drop k) := fun y hy => h y (List.mem_of_mem_drop hy)
theorem U16.get {l : List Int} (h : U16 l) {k : Nat} {x : Int} (hx : l[k]? = some x) : 0 <= x /\ x <= 65535 := h x (List.mem_of_getElem? hx)
theorem U16.set_ {l : List Int} (h : U16 l) {k : Nat} {x : Int} (hx : 0 <= x /\ x <= 65535) : U16 (l.set k x) := fun y hy => by
 rcases List.mem_or_eq_of_mem_set hy with hy | rfl
 · exact h y hy
 · exact hx
theorem limbs_zero : limbs 0 = [] := by rw [limbs]; simp
theorem limbs_pos {n : Nat} (h : n ≠ 0) : limbs n = ((n % 65536 : Nat) : Int) :: limbs (n / 65536) := by rw [limbs]; simp [h]
theorem limbs_u16 (n : Nat) : U16 (limbs n) := by
 induction n using Nat.strongRecOn with
 | ind n ih =>
  by_cases h : n = 0
  · subst h; rw [limbs_zero]; exact U16.nil
  · rw [limbs_pos h]; exact U16.cons (by omega) (ih _ (by omega))
theorem val_limbs (n : Nat) : val (limbs n) = n := by
 induction n using Nat.strongRecOn with
 | ind n ih =>
  by_cases h : n = 0
  · subst h; rw [limbs_zero]; rfl
  · rw [limbs_pos h, val, ih _ (by omega)]; omega
theorem val_append (l m : List Int) : val (l ++ m) = val l + 65536 ^ l.length * val m := by
 induction l with
 | nil => simp [val]
 | cons x l ih =>
  simp only [List.cons_append, val, ih, List.length_cons, Nat.pow_succ]
  rw [Nat.mul_add, <- Nat.mul_assoc, Nat.mul_comm 65536 (65536 ^ l.length), Nat.add_assoc]
theorem val_lt {l : List Int} (h : U16 l) : val l < 65536 ^ l.length := by
 induction l with
 | nil => simp [val]
 | cons x l ih =>
  have h1 := ih h.tail
  have h2 := h.head
  simp only [val, List.length_cons, Nat.pow_succ]
  omega
theorem val_snoc (l : List Int) (x : Int) : val (l ++ [x]) = val l + 65536 ^ l.length * x.toNat := by rw [val_append]; simp [val]
theorem val_take {l : List Int} {k : Nat} {x : Int} (h : l[k]? = some x) : val (l.take (k + 1)) = val (l.take k) + 65536 ^ k * x.toNat := by
 rw [take_more h, val_snoc]
 have : (l.take k).length = k := by have := lt_of_get h; simp; omega
 rw [this]
theorem val_drop {l : List Int} {k : Nat} {x : Int} (h : l[k]? = some x) : val (l.drop k) = x.toNat + 65536 * val (l.drop (k + 1)) := by
 have hk := lt_of_get h
 rw [List.drop_eq_getElem_cons hk]
 have : l[k] = x := by rw [List.getElem?_eq_getElem hk] at h; exact Option.some.inj h
 rw [this, val]
theorem val_split (l : List Int) (k : Nat) : val l = val (l.take k) + 65536 ^ (l.take k).length * val (l.drop k) := by
 have := val_append (l.take k) (l.drop k)
 rwa [List.take_append_drop] at this
theorem val_drop_all {l : List Int} {k : Nat} (h : l.length <= k) : val (l.drop k) = 0 := by rw [List.drop_eq_nil_of_le h]; rfl
theorem val_take_all {l : List Int} {k : Nat} (h : l.length <= k) : val (l.take k) = val l := by rw [List.take_of_length_le h]
theorem limbs_canon {l : List Int} (h : U16 l) (hc : ∀ x, l.getLast? = some x -> x ≠ 0) : limbs (val l) = l := by
 induction l with
 | nil => exact limbs_zero
 | cons x l ih =>
  have h1 := h.head
  have hv : val (x :: l) = x.toNat + 65536 * val l := rfl
  have hl : limbs (val l) = l := ih h.tail (fun y hy => hc y (by
   cases l with
   | nil => simp at hy
   | cons z l => rw [List.getLast?_cons_cons]; exact hy))
  have hne : val (x :: l) ≠ 0 := by
   intro e
   rw [hv] at e
   cases l with
   | nil => exact hc x (by simp) (by omega)
   | cons z l =>
    have : val (z :: l) = 0 := by omega
    rw [this, limbs_zero] at hl
    cases hl
  rw [limbs_pos hne, hv]
  have e1 : (x.toNat + 65536 * val l) % 65536 = x.toNat := by omega
  have e2 : (x.toNat + 65536 * val l) / 65536 = val l := by omega
  rw [e1, e2, hl]
  congr 1
  omega
theorem limbs_last {n : Nat} {x : Int} (h : (limbs n).getLast? = some x) : x ≠ 0 := by
 induction n using Nat.strongRecOn generalizing x with
 | ind n ih =>
  by_cases h0 : n = 0
  · subst h0; rw [limbs_zero] at h; simp at h
  ·
   rw [limbs_pos h0] at h
   by_cases h1 : n / 65536 = 0
   ·
    rw [h1, limbs_zero] at h
    simp at h
    omega
   ·
    have : limbs (n / 65536) ≠ [] := by rw [limbs_pos h1]; simp
    obtain ⟨y, t, ht⟩ := List.exists_cons_of_ne_nil this
    rw [ht, List.getLast?_cons_cons, <- ht] at h
    exact ih _ (by omega) h
theorem limbs_inj {n m : Nat} : limbs n = limbs m ↔ n = m := by
 constructor
 · intro e; rw [<- val_limbs n, <- val_limbs m, e]
 · intro e; rw [e]
theorem limbs_len_le {n k : Nat} (h : n < 65536 ^ k) : (limbs n).length <= k := by
 induction k generalizing n with
 | zero => have : n = 0 := by simpa using h
           subst this; simp [limbs_zero]
 | succ k ih =>
  by_cases h0 : n = 0
  · subst h0; simp [limbs_zero]
  ·
   rw [limbs_pos h0]
   have := ih (n := n / 65536) (by rw [Nat.pow_succ] at h; omega)
   simp only [List.length_cons]
   omega
theorem limbs_len_pos {n : Nat} : 0 < (limbs n).length ↔ 0 < n := by
 constructor
 ·
  intro h
  apply Nat.pos_of_ne_zero
  intro e; subst e; simp [limbs_zero] at h
 · intro h; rw [limbs_pos (by omega)]; simp
theorem lt_pow_limbs (n : Nat) : n < 65536 ^ (limbs n).length := by have := val_lt (limbs_u16 n); rwa [val_limbs] at this
theorem limbs_len_mono {n m : Nat} (h : n <= m) : (limbs n).length <= (limbs m).length := limbs_len_le (Nat.lt_of_le_of_lt h (lt_pow_limbs m))
theorem limbs_len_val {l : List Int} (h : U16 l) : (limbs (val l)).length <= l.length := limbs_len_le (val_lt h)
theorem limbs_len_mul (a b : Nat) : (limbs (a * b)).length <= (limbs a).length + (limbs b).length := by
 apply limbs_len_le
 rw [Nat.pow_add]
 exact Nat.mul_lt_mul'' (lt_pow_limbs a) (lt_pow_limbs b)
theorem limbs_len_add (a b : Nat) : (limbs (a + b)).length <= max (limbs a).length (limbs b).length + 1 := by
 apply limbs_len_le
 rw [Nat.pow_succ]
 have h1 := lt_pow_limbs a
 have h2 := lt_pow_limbs b
 have h3 : 65536 ^ (limbs a).length <= 65536 ^ (max (limbs a).length (limbs b).length) := Nat.pow_le_pow_right (by omega) (by omega)
 have h4 : 65536 ^ (limbs b).length <= 65536 ^ (max (limbs a).length (limbs b).length) := Nat.pow_le_pow_right (by omega) (by omega)
 omega
theorem limbs_cut {l : List Int} (h : U16 l) {k : Nat} (hk : val (l.drop k) = 0) (hc : ∀ x, k ≠ 0 -> l[k - 1]? = some x -> x ≠ 0) (hkl : k <= l.length) : limbs (val l) = l.take k := by
 have h1 : val l = val (l.take k) := by rw [val_split l k, hk]; omega
 rw [h1]
 apply limbs_canon (h.take k)
 intro x hx
 by_cases h0 : k = 0
 · subst h0; simp at hx
 ·
  refine hc x h0 ?_
  rw [List.getLast?_eq_getElem?, List.length_take, List.getElem?_take] at hx
  have e : min k l.length = k := by omega
  rw [e, if_pos (by omega)] at hx
  exact hx
def cmpN (a b : Nat) : Int := if a < b then -1 else if b < a then 1 else 0
theorem cmpN_lt {a b : Nat} : cmpN a b < 0 ↔ a < b := by unfold cmpN; split <;> (try split) <;> omega
theorem cmpN_le {a b : Nat} : cmpN a b <= 0 ↔ a <= b := by unfold cmpN; split <;> (try split) <;> omega
theorem cmpN_ge {a b : Nat} : 0 <= cmpN a b ↔ b <= a := by unfold cmpN; split <;> (try split) <;> omega
theorem cmpN_zero {a b : Nat} : cmpN a b = 0 ↔ a = b := by unfold cmpN; split <;> (try split) <;> omega
def limbAt (l : List Int) (k : Nat) : Int := (l[k]?).getD 0
theorem limbAt_some {l : List Int} {k : Nat} {x : Int} (h : l[k]? = some x) : limbAt l k = x := by simp [limbAt, h]
theorem limbAt_none {l : List Int} {k : Nat} (h : l.length <= k) : limbAt l k = 0 := by simp [limbAt, h]
theorem limbAt_in {l : List Int} (h : U16 l) (k : Nat) : 0 <= limbAt l k /\ limbAt l k <= 65535 := by
 unfold limbAt
 cases hx : l[k]? with
 | none => simp
 | some x => exact h.get hx
theorem val_drop_at (l : List Int) (k : Nat) : val (l.drop k) = (limbAt l k).toNat + 65536 * val (l.drop (k + 1)) := by
 cases hx : l[k]? with
 | none =>
  have := List.getElem?_eq_none_iff.1 hx
  rw [limbAt_none this, val_drop_all this, val_drop_all (by omega)]; rfl
 | some x => rw [limbAt_some hx]; exact val_drop hx
theorem val_take_at {l : List Int} (k : Nat) : val (l.take (k + 1)) = val (l.take k) + 65536 ^ k * (limbAt l k).toNat := by
 cases hx : l[k]? with
 | none =>
  have := List.getElem?_eq_none_iff.1 hx
  rw [limbAt_none this, val_take_all this, val_take_all (by omega)]; simp
 | some x => rw [limbAt_some hx]; exact val_take hx
theorem val_split_at {l : List Int} (h : U16 l) (k : Nat) : ∃ lo, lo < 65536 ^ k /\ val l = lo + 65536 ^ k * val (l.drop k) := by
 refine ⟨val (l.take k), ?_, ?_⟩
 · refine ltl (val_lt (h.take k)) (Nat.pow_le_pow_right (by omega) (by simp; omega))
 ·
  by_cases hk : k <= l.length
  ·
   have := val_split l k
   have e : (l.take k).length = k := by simp; omega
   rwa [e] at this
  · rw [val_drop_all (by omega), val_take_all (by omega)]; omega
theorem val_lt_of {a b : List Int} (ha : U16 a) (hb : U16 b) (k : Nat) (he : val (a.drop (k + 1)) = val (b.drop (k + 1))) (h : limbAt a k < limbAt b k) : val a < val b := by
 obtain ⟨p, hp, e1⟩ := val_split_at ha k
 obtain ⟨q, hq, e2⟩ := val_split_at hb k
 rw [val_drop_at] at e1 e2
 rw [e1, e2, he]
 have h1 := limbAt_in ha k
 have h2 : (limbAt a k).toNat + 65536 * val (b.drop (k + 1)) + 1 <= (limbAt b k).toNat + 65536 * val (b.drop (k + 1)) := by omega
 have h3 := Nat.mul_le_mul_left (65536 ^ k) h2
 rw [Nat.mul_add _ _ 1] at h3
 omega
end Go.Proofs.YtkjnkpkagcboeaaGreatDoor
