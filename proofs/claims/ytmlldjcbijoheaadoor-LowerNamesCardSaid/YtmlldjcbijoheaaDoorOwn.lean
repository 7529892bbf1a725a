/- Words for slices that a call makes itself by append: they are owned, they grow, they read as lists. No function of the program in sight. -/
import Derived.Test.YtmlldjcbijoheaaDoorBase
import Derived.OwnWalk
import Derived.Maps.AppendAt
import Derived.Deep.AppendLies
import Derived.Deep.DeepCutAuto
namespace Go.Proofs.YtmlldjcbijoheaaDoor
open Go.RowKit

theorem flatMap_at {α : Type} {f : α → List Value} {sz : Nat} (hf : ∀ x, (f x).length = sz) : ∀ (l : List α) (k : Nat) (x : α) (j : Nat), l[k]? = some x → j < sz → (l.flatMap f)[k * sz + j]? = (f x)[j]?
  | [], k, x, j, h, _ => by simp at h
  | y :: l, 0, x, j, h, hj => by
    simp at h; subst h
    simp only [List.flatMap_cons, Nat.zero_mul, Nat.zero_add]
    rw [List.getElem?_append_left (by rw [hf]; exact hj)]
  | y :: l, k + 1, x, j, h, hj => by
    simp only [List.flatMap_cons]
    rw [List.getElem?_append_right (by rw [hf, Nat.add_mul]; omega)]
    have := flatMap_at hf l k x j (by simpa using h) hj
    rw [← this, hf, Nat.add_mul]
    congr 1; omega
theorem flatMap_len {α : Type} {f : α → List Value} {sz : Nat} (hf : ∀ x, (f x).length = sz) (l : List α) : (l.flatMap f).length = l.length * sz := by
  induction l with
  | nil => simp
  | cons x l ih => simp only [List.flatMap_cons, List.length_append, List.length_cons, ih, hf, Nat.add_mul]; omega

/-- the call owns the slice '.slice a l.length c', whose elements are the cells that f gives, in a block from B on -/
def Own {α : Type} (f : α → List Value) (sz : Nat) (t : TypeId) (B : Nat) (w : World) (a : Option Addr) (c : Nat) (l : List α) : Prop :=
  w.ownsRow B t sz (.slice a l.length c) l.length (l.flatMap f)

section
variable {α : Type} {f : α → List Value} {sz : Nat} {t : TypeId} {B : Nat} {w w' : World} {a : Option Addr} {c : Nat} {l : List α}
theorem Own.nil : Own f sz t B w none 0 ([] : List α) := World.ownsRow_nil w B t sz
theorem Own.drew (h : Own f sz t B w a c l) : Own f sz t B w.drew a c l := h
theorem Own.alloc (h : Own f sz t B w a c l) (o : Obj) : Own f sz t B (w.alloc o) a c l := World.ownsRow.alloc h o
theorem Own.grown (h : Own f sz t B w a c l) {row : Option Nat} (hg : w.grownBy w' row) (hne : ∀ g, a = some g → row ≠ some g.block) : Own f sz t B w' a c l := by
  refine World.ownsRow.kept h hg ?_
  cases a with
  | none => exact .inl rfl
  | some g => exact .inr (fun e => hne g rfl (by rw [← e]; rfl))
theorem Own.lt (h : Own f sz t B w a c l) {g : Addr} (e : a = some g) : B ≤ g.block ∧ g.block < w.heap.size := World.ownsRow.lt h g.block (by subst e; rfl)
/-- what lies below a later base is not touched: the row stays -/
theorem Own.below (h : Own f sz t B w a c l) (hb : Below w.heap.size w w') : Own f sz t B w' a c l := by
  refine ⟨h.1, ?_⟩
  rcases h.2 with hn | ⟨g, cap, cur, e, hg, hh, rest⟩
  · exact .inl hn
  · exact .inr ⟨g, cap, cur, e, hg, (hb.block g (Array.getElem?_eq_some_iff.1 hh).1).trans hh, rest⟩
theorem Own.base {B' : Nat} (h : Own f sz t B w a c l) (hB : B' ≤ B) : Own f sz t B' w a c l := by
  refine ⟨h.1, ?_⟩
  rcases h.2 with hn | ⟨g, cap, cur, e, hg, rest⟩
  · exact .inl hn
  · exact .inr ⟨g, cap, cur, e, by omega, rest⟩
theorem Own.cap (h : Own f sz t B w a c l) : l.length ≤ c ∧ c ≤ maxLen := by
  rcases h.2 with ⟨e, hn⟩ | ⟨g, cap, cur, e, _, _, h1, h2, _⟩
  · injection e with _ _ e3
    rw [hn, e3]; exact ⟨Nat.le_refl _, by simp [maxLen]⟩
  · injection e with _ _ e3
    subst e3
    exact ⟨h1, h2⟩
theorem Own.at_ (hf : ∀ x, (f x).length = sz) (h : Own f sz t B w a c l) {k : Nat} {x : α} (hx : l[k]? = some x) :
    ∃ g, a = some ⟨g, 0, none⟩ ∧ B ≤ g ∧ g < w.heap.size ∧ ∀ j u, (f x)[j]? = some u → w.cell? ⟨g, k * sz + j, none⟩ = some u := by
  have hk := lt_of_get hx
  obtain ⟨g, cap, hv, hb, hlt⟩ := h.form (by omega)
  injection hv with h1 h2
  refine ⟨g, h1, hb, hlt, fun j u hu => ?_⟩
  have hj : j < sz := by rw [← hf x]; exact lt_of_get hu
  have := World.ownsRow.cells h (g := g) (by rw [h1]; rfl) (k * sz + j) u (by rw [flatMap_at hf l k x j hx hj]; exact hu)
  rwa [Addr.add_lit, Nat.zero_add] at this
/-- an owned slice reads as its list -/
theorem Own.reads {E : World → Nat → Nat → α → Prop} (hf : ∀ x, (f x).length = sz) (h : Own f sz t B w a c l)
    (hE : ∀ g o x, x ∈ l → (∀ j u, (f x)[j]? = some u → w.cell? ⟨g, o + j, none⟩ = some u) → E w g o x) : SlR sz E w a c l := by
  refine ⟨h.cap.1, h.cap.2, fun k x hx => ?_⟩
  obtain ⟨g, ha, _, _, hc⟩ := h.at_ hf hx
  exact ⟨g, 0, ha, hE _ _ _ (List.mem_of_getElem? hx) (by simpa using hc)⟩
theorem Own.readsM {β : Type} {E : World → Nat → Nat → β → Prop} (g : α → β) (hf : ∀ x, (f x).length = sz) (h : Own f sz t B w a c l)
    (hE : ∀ b o x, x ∈ l → (∀ j u, (f x)[j]? = some u → w.cell? ⟨b, o + j, none⟩ = some u) → E w b o (g x)) : SlR sz E w a c (l.map g) := by
  refine ⟨by simpa using h.cap.1, h.cap.2, fun k y hy => ?_⟩
  rw [List.getElem?_map] at hy
  obtain ⟨x, hx, rfl⟩ := Option.map_eq_some_iff.1 hy
  obtain ⟨b, ha, _, _, hc⟩ := h.at_ hf hx
  exact ⟨b, 0, ha, hE _ _ _ (List.mem_of_getElem? hx) (by simpa using hc)⟩
end

/-- block g is just these cells, none of them shut -/
def Blk (w : World) (g : Nat) (t : TypeId) (cs : Array Value) : Prop := w.heap[g]? = some (.cells cs t (0, 0))
section
variable {w w' : World} {g : Nat} {t : TypeId} {cs : Array Value}
theorem Blk.lt (h : Blk w g t cs) : g < w.heap.size := (Array.getElem?_eq_some_iff.1 h).1
theorem Blk.cell (h : Blk w g t cs) (i : Nat) : w.cell? ⟨g, i, none⟩ = cs[i]? := cell_of_row w g i cs t (0, 0) h
theorem Blk.frozen (h : Blk w g t cs) (i : Nat) : w.frozen? ⟨g, i, none⟩ = false := by
  unfold Blk at h
  simp [World.frozen?, h]
theorem Blk.new (w : World) (t : TypeId) (cs : Array Value) : Blk (w.alloc (.cells cs t)) w.heap.size t cs := heap_alloc_new w _
theorem Blk.drew (h : Blk w g t cs) : Blk w.drew g t cs := h
theorem Blk.alloc (h : Blk w g t cs) (o : Obj) : Blk (w.alloc o) g t cs := (Below.heap_alloc w o g h.lt).trans h
theorem Blk.set_ (h : Blk w g t cs) (i : Nat) (u : Value) : Blk (w.setCell ⟨g, i, none⟩ u) g t (cs.setIfInBounds i u) := by
  unfold Blk at h ⊢
  simp [World.setCell, Array.getElem?_modify, h]
theorem Blk.far (h : Blk w g t cs) {p : Addr} (hp : g ≠ p.block) (u : Value) : Blk (w.setCell p u) g t cs := (Below.heap_setCell w p u g hp).trans h
theorem Blk.below {B : Nat} (h : Blk w g t cs) (hb : Below B w w') (hg : g < B) : Blk w' g t cs := (hb.block g hg).trans h
theorem Blk.below' (h : Blk w g t cs) (hb : Below w.heap.size w w') : Blk w' g t cs := h.below hb h.lt
theorem Blk.grown {row : Option Nat} (h : Blk w g t cs) (hb : w.grownBy w' row) (hg : some g ≠ row) : Blk w' g t cs := (hb.block g h.lt hg).trans h
/-- a block below the base of a row that grows -/
theorem Blk.under {α : Type} {f : α → List Value} {sz : Nat} {te : TypeId} {B : Nat} {w0 : World} {a : Option Addr} {c : Nat} {l : List α} (h : Blk w g t cs) (ho : Own f sz te B w0 a c l) (hg : g < B)
    (hb : w.grownBy w' (Value.ownBlock (.slice a l.length c))) : Blk w' g t cs := h.grown hb (fun e => by
  cases a with
  | none => simp [Value.ownBlock] at e
  | some p => simp [Value.ownBlock] at e; have := (ho.lt rfl).1; omega)
end

section
variable {α : Type} {f : α → List Value} {sz : Nat} {t : TypeId} {B : Nat} {w : World} {l : List α} {P : Program}
/-- 'l = append(l, x)' of one element that lies in a block of its own -/
theorem wp_append_1 {o : Oper} {act : Act} {K : Act → World → Prop} {Q : Exit → Act → World → Prop} (s y : Operand) (ts : TypeId)
    (ho : o.op = .call { callee := .builtin .append, args := #[s, y], argTypes := #[ts, ts] })
    {z : Value} {bytes : Nat} (ht : P.underlying ts = some (.slice t)) (hi : (P.info? t).map (fun i => (i.zero, i.size, i.bytes)) = some (some z, sz, bytes)) (hz : z.cells.size = sz) (hsz : 0 < sz) (hby : bytes ≤ 1024)
    (hf : ∀ x, (f x).length = sz) (a : Option Addr) (c : Nat) (hs : act.eval s = .slice a l.length c) (hown : Own f sz t B w a c l)
    (x : α) (hone : ∀ u ∈ f x, u.oneCell' = true) (b c1 : Nat) (hy : act.eval y = .slice (some ⟨b, 0, none⟩) 1 c1) (hcell : ∀ j u, (f x)[j]? = some u → w.cell? ⟨b, j, none⟩ = some u)
    (l2 : List α) (hl2 : l2 = l ++ [x]) (hlen : l2.length ≤ 16777216) (hB : B ≤ w.heap.size)
    (h : ∀ a' c' w', Own f sz t B w' a' c' l2 → w.grownBy w' (Value.ownBlock (.slice a l.length c)) → ((∃ g, a' = some ⟨g, 0, none⟩ ∧ (a = some ⟨g, 0, none⟩ ∨ g = w.heap.size))) →
      K (act.put o.dst (.slice a' l2.length c')) w') : o.wp P act w K Q := by
  subst hl2
  obtain ⟨i, hi0, hz0, hz1, hz2⟩ := info_parts hi
  simp only [List.length_append, List.length_cons, List.length_nil, Nat.zero_add] at hlen
  obtain ⟨v', w', hr, h2, h3, _, h5⟩ := run_append_own_at (P := P) w B ts o.type t i z sz bytes ht hi0 hz0 hz1 hz2 hz hsz (.slice a l.length c) l.length (l.flatMap f) hown ⟨b, 0, none⟩ 1 c1 (f x) (by rw [hf]; omega)
    (fun j u hu => by rw [Addr.add_lit, Nat.zero_add]; exact hcell j u hu) hone (by unfold maxLen; omega)
    (by have : (l.length + 1) * bytes ≤ 16777216 * 1024 := Nat.mul_le_mul hlen hby
        omega) hB
  unfold Oper.wp execOp
  simp only [ho, resolve, invoke, builtin, Sem.run_bind, Sem.run_pure, Result.andThen_ok, List.map_toArray, List.map_cons, List.map_nil, hs, hy, hr]
  have hf2 : (l ++ [x]).flatMap f = l.flatMap f ++ f x := by simp
  have hn : (l ++ [x]).length = l.length + 1 := by simp
  obtain ⟨g, cap, hv, hb, hlt⟩ := h2.form (by omega)
  subst hv
  rw [← hn]
  refine h _ _ w' (by unfold Own; rw [hf2, hn]; exact h2) h3 ⟨g, rfl, ?_⟩
  rcases h5 with h5 | h5
  · left
    cases a with
    | none => simp [Value.ownBlock] at h5
    | some g' =>
      have hg' : g = g'.block := by simpa [Value.ownBlock] using h5
      rcases hown.2 with ⟨e, _⟩ | ⟨g2, _, _, e, _⟩
      · cases e
      · injection e with e1
        injection e1 with e1
        subst e1
        simp at hg'
        rw [hg']
  · right
    simpa [Value.ownBlock] using h5
theorem wpList_append_1 {ops : Array Oper} {rest : List Oper} {o : Oper} {act : Act} {Q : Exit → Act → World → Prop} (hgd : o.guard = none) (s y : Operand) (ts : TypeId)
    (ho : o.op = .call { callee := .builtin .append, args := #[s, y], argTypes := #[ts, ts] })
    {z : Value} {bytes : Nat} (ht : P.underlying ts = some (.slice t)) (hi : (P.info? t).map (fun i => (i.zero, i.size, i.bytes)) = some (some z, sz, bytes)) (hz : z.cells.size = sz) (hsz : 0 < sz) (hby : bytes ≤ 1024)
    (hf : ∀ x, (f x).length = sz) (a : Option Addr) (c : Nat) (hs : act.eval s = .slice a l.length c) (hown : Own f sz t B w a c l)
    (x : α) (hone : ∀ u ∈ f x, u.oneCell' = true) (b c1 : Nat) (hy : act.eval y = .slice (some ⟨b, 0, none⟩) 1 c1) (hcell : ∀ j u, (f x)[j]? = some u → w.cell? ⟨b, j, none⟩ = some u)
    (l2 : List α) (hl2 : l2 = l ++ [x]) (hlen : l2.length ≤ 16777216) (hB : B ≤ w.heap.size)
    (h : ∀ a' c' w', Own f sz t B w' a' c' l2 → w.grownBy w' (Value.ownBlock (.slice a l.length c)) → ((∃ g, a' = some ⟨g, 0, none⟩ ∧ (a = some ⟨g, 0, none⟩ ∨ g = w.heap.size))) →
      wpList P ops Q rest (act.put o.dst (.slice a' l2.length c')) w') : wpList P ops Q (o :: rest) act w :=
  wpList_plain hgd fun _ hK => wp_append_1 s y ts ho ht hi hz hsz hby hf a c hs hown x hone b c1 hy hcell l2 hl2 hlen hB fun a' c' w' h1 h2 h3 => hK _ _ (h a' c' w' h1 h2 h3)
end

/-- what an append leaves of the blocks below -/
theorem below_append {W w w' : World} {a : Option Addr} {n c : Nat} (h : Below W.heap.size W w) (hg : w.grownBy w' (Value.ownBlock (.slice a n c))) (hr : ∀ g, a = some g → W.heap.size ≤ g.block) : Below W.heap.size W w' :=
  h.grown hg h.size (fun k hk => by
    cases a with
    | none => simp [Value.ownBlock] at hk
    | some g => simp [Value.ownBlock] at hk; subst hk; exact hr g rfl)
theorem below_append' {W w w' : World} {α : Type} {f : α → List Value} {sz : Nat} {t : TypeId} {a : Option Addr} {c : Nat} {l : List α} (h : Below W.heap.size W w) (ho : Own f sz t W.heap.size w a c l)
    (hg : w.grownBy w' (Value.ownBlock (.slice a l.length c))) : Below W.heap.size W w' := below_append h hg fun _ e => (ho.lt e).1

/-- a cell of a block that is younger than the row stays behind an append to the row -/
theorem Own.young {w0 w w' : World} {α : Type} {f : α → List Value} {sz : Nat} {t : TypeId} {B : Nat} {a : Option Addr} {c : Nat} {l : List α} (ho : Own f sz t B w0 a c l)
    (hg : w.grownBy w' (Value.ownBlock (.slice a l.length c))) {p : Addr} {v : Value} (h : w.cell? p = some v) (hp : w0.heap.size ≤ p.block) : w'.cell? p = some v :=
  hg.cell h (fun e => by
    cases a with
    | none => simp [Value.ownBlock] at e
    | some g => simp [Value.ownBlock] at e; have := (ho.lt rfl).2; omega)

end Go.Proofs.YtmlldjcbijoheaaDoor

