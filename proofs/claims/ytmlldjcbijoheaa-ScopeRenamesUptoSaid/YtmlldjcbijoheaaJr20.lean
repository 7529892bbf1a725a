/- A statement whose order is open, where two operations that are no reads may come up in either order. No function of the program in sight. -/
import Derived.Test.YtmlldjcbijoheaaJr18
import Derived.Lib.SliceRun
import Derived.Test.YtmlldjcbijoheaaJr1
import Derived.Maps.Range
import Derived.Maps.AppendAt
import Derived.Test.YtmlldjcbijoheaaJr10

/- Slices of statements that a call makes itself; slices.Clone over strings. -/
namespace Go.Proofs.Ytmlldjcbijoheaa
open Go.RowKit

/-- a statement with the addresses of its slices -/
structure SQ where
  s : Stmt
  p : SA
def SQ.cs (q : SQ) : List Value := [.int .i64 q.s.kind, .slice q.p.sa q.s.names.length q.p.sc, .int .i64 q.s.expr.kind, .string q.s.expr.name, .bool q.s.expr.neg, .slice q.p.na q.s.expr.num.length q.p.nc, .slice q.p.da q.s.expr.den.length q.p.dc, .slice q.p.aa q.s.expr.args.length q.p.ac, .int .i64 q.s.expr.pos, .int .i64 q.s.pos]
theorem SQ.cs_len (q : SQ) : q.cs.length = 10 := rfl
theorem SQ.cs_one (q : SQ) : ∀ u ∈ q.cs, u.oneCell' = true := by simp [SQ.cs, Value.oneCell']
abbrev OwnQ (B : Nat) (w : World) (a : Option Addr) (c : Nat) (l : List SQ) : Prop := Own SQ.cs 10 49 B w a c l
theorem infoQ : (Try.prog.info? 49).map (fun i => (i.zero, i.size, i.bytes)) = some (some (.agg #[.int .i64 0, .slice none 0 0, .int .i64 0, .string ⟨#[]⟩, .bool false, .slice none 0 0, .slice none 0 0, .slice none 0 0, .int .i64 0, .int .i64 0]), 10, 152) := by kernel_rfl
theorem SQ.cells {w : World} {b o : Nat} {q : SQ} (h : ∀ j u, q.cs[j]? = some u → w.cell? ⟨b, o + j, none⟩ = some u) : StmtC w b o q.p q.s :=
  ⟨by simpa using h 0 _ rfl, h 1 _ rfl, h 2 _ rfl, h 3 _ rfl, h 4 _ rfl, h 5 _ rfl, h 6 _ rfl, h 7 _ rfl, h 8 _ rfl, h 9 _ rfl⟩
def SQ.R (d : Nat) (w : World) (q : SQ) : Prop := StmtR d w q.p q.s
theorem OwnQ.readsIn {B d : Nat} {w V : World} {a : Option Addr} {c : Nat} {l : List SQ} (h : OwnQ B w a c l) (hV : New B w V) (hr : ∀ q ∈ l, q.R d V) : StmtsR d V a c (l.map SQ.s) :=
  Own.readsIn SQ.s SQ.cs_len h hV fun _b _o q hq hc => ⟨q.p, SQ.cells hc, hr q hq⟩
theorem append_stmt {B : Nat} {w : World} {l : List SQ} {ops : Array Oper} {rest : List Oper} {o : Oper} {act : Act} {Q : Exit → Act → World → Prop} (hgd : o.guard = none) (s y : Operand)
    (ho : o.op = .call { callee := .builtin .append, args := #[s, y], argTypes := #[50, 50] })
    (a : Option Addr) (c : Nat) (hs : act.eval s = .slice a l.length c) (hown : OwnQ B w a c l)
    (x : SQ) (b c1 : Nat) (hy : act.eval y = .slice (some ⟨b, 0, none⟩) 1 c1) (hcell : ∀ j u, x.cs[j]? = some u → w.cell? ⟨b, j, none⟩ = some u)
    (l2 : List SQ) (hl2 : l2 = l ++ [x]) (hlen : l2.length ≤ 16777216) (hB : B ≤ w.heap.size)
    (h : ∀ a' c' w', OwnQ B w' a' c' l2 → w.grownBy w' (Value.ownBlock (.slice a l.length c)) → ((∃ g, a' = some ⟨g, 0, none⟩ ∧ (a = some ⟨g, 0, none⟩ ∨ g = w.heap.size))) →
      wpList Try.prog ops Q rest (act.put o.dst (.slice a' l2.length c')) w') : wpList Try.prog ops Q (o :: rest) act w :=
  wpList_append_1 hgd s y 50 ho Try.underlying50 infoQ rfl (by omega) (by omega) SQ.cs_len a c hs hown x (SQ.cs_one x) b c1 hy hcell l2 hl2 hlen hB h
/-- what a call gives that makes a program out of what is read in W0, and an error -/
def RetProg (d : Nat) (W0 w : World) (l : List Stmt) (x : Int) (e : Ending) (w' : World) : Prop :=
  ∃ a c, e = .returned (.tuple #[progVal l.length a c, .int .i64 x]) ∧ Below w.heap.size w w' ∧ ∀ V, Ext W0 V → New w.heap.size w' V → StmtsR d V a c l

theorem OwnS.readsV {B : Nat} {w V : World} {a : Option Addr} {c : Nat} {l : List ByteArray} (h : OwnS B w a c l) (hV : New B w V) : StrsR V a c l := by
  have := Own.readsIn (E := StrE) (β := ByteArray) id strC_len h hV (fun b o x _ hc => show V.cell? _ = _ by simpa using hc 0 _ rfl)
  rwa [List.map_id] at this
/-- a cell of an owned row of strings is set -/
theorem OwnS.set_ {B : Nat} {w : World} {g : Nat} {c : Nat} {l : List ByteArray} (h : OwnS B w (some ⟨g, 0, none⟩) c l) (k : Nat) (s : ByteArray) : OwnS B (w.setCell ⟨g, k, none⟩ (.string s)) (some ⟨g, 0, none⟩) c (l.set k s) := by
  have e : ∀ l : List ByteArray, l.flatMap strC = l.map Value.string := fun l => by
    induction l with
    | nil => rfl
    | cons x l ih => rw [List.flatMap_cons, ih]; rfl
  unfold OwnS Own at h ⊢
  rw [e] at h ⊢
  rcases h with ⟨h1, h2⟩
  refine ⟨by simp, ?_⟩
  rcases h2 with ⟨hv, _⟩ | ⟨g', cap, cur, hv, hg, hh, hn, hm, hc, ht⟩
  · cases hv
  · injection hv with e1 e2 e3
    injection e1 with e1
    injection e1 with e1
    subst e1
    subst e3
    refine .inr ⟨g, c, cur.setIfInBounds k (.string s), by simp, hg, by simp [World.setCell, Array.getElem?_modify, hh], by simpa using hn, hm, by simpa using hc, ?_⟩
    rw [List.map_set, ← ht]
    simp [List.take_set]
theorem OwnS.frozen {B : Nat} {w : World} {g : Nat} {c : Nat} {l : List ByteArray} (h : OwnS B w (some ⟨g, 0, none⟩) c l) (k : Nat) : w.frozen? ⟨g, k, none⟩ = false := by
  rcases h.2 with ⟨hv, _⟩ | ⟨g', cap, cur, hv, hg, hh, _⟩
  · cases hv
  · injection hv with e1
    injection e1 with e1
    injection e1 with e1
    subst e1
    simp [World.frozen?, hh]

set_option maxRecDepth 100000 in
set_option maxHeartbeats 1000000 in
theorem cloneS_any (l : List ByteArray) (a : Option Addr) (c : Nat) (w : World) (h : StrsR w a c l) (hl : l.length ≤ 1000000) :
    Calls Try.prog 70 #[.slice a l.length c] w (RetS19 l w) := by
  cases a with
  | none =>
    have hn : l = [] := by
      cases l with
      | nil => rfl
      | cons x l => obtain ⟨b, off, e, _⟩ := h.2.2 0 x rfl; cases e
    subst hn
    clear h hl
    have q43 : ∀ (w : World) (a : Option Addr) (n c n' c' : Nat), (binOp .eql 43 (.slice a n c) (.slice none n' c')).run Try.prog w = .ok (.bool a.isNone) w := fun w a n c n' c' => Lib.run_eql_slice_nil w _ _ a n c n' c' Try.underlying43
    go_enter Try.func70, Try.ntmps70
    go_wp2
    go_ret
    exact ⟨none, 0, rfl, Own.nil, Below.refl _ _⟩
  | some p =>
    have H := Lib.hid h
    have hlen := h.len
    clear h
    have q43 : ∀ (w : World) (a : Option Addr) (n c n' c' : Nat), (binOp .eql 43 (.slice a n c) (.slice none n' c')).run Try.prog w = .ok (.bool a.isNone) w := fun w a n c n' c' => Lib.run_eql_slice_nil w _ _ a n c n' c' Try.underlying43
    have u43 : ∀ w, Sem.run Try.prog (underlying 43) w = .ok (TypeDesc.slice 9) w := run_underlying Try.underlying43
    have hown : OwnS w.heap.size (w.alloc (.cells #[] 9)) (some ⟨w.heap.size, 0, none⟩) 0 [] := World.ownsRow_made w #[] 0 (Nat.le_refl _) (Nat.zero_le _) rfl
    have hr := H.out.ext (ext_alloc w (.cells #[] 9))
    have hb : Below w.heap.size w (w.alloc (.cells #[] 9)) := by go_grown
    replace hown := Lib.hid hown; replace hr := Lib.hid hr; replace hb := Lib.hid hb
    go_enter Try.func70, Try.ntmps70
    go_wp2_with (at_builtin; go_must (refine append_strs rfl (.tmp 5) (.tmp 6) rfl _ _ rfl hown.out l _ _ rfl hr.out l rfl (by omega) (by simp) ?_; intro a2 c2 w2 ho2 hg2))
    go_ret
    exact ⟨a2, c2, rfl, ho2, hb.out.grown hg2 (by simp) (by simp [Value.ownBlock])⟩
end Go.Proofs.Ytmlldjcbijoheaa

/- A world in which only one block that was there may have turned. No function of the program in sight. -/
namespace Go.Proofs.Ytmlldjcbijoheaa
open Go.RowKit
section
variable {w w' w'' : World} {g : Nat}
theorem but_refl (w : World) (g : Nat) : w.grownBy w (some g) := World.grownBy.refl _ _
theorem but_alloc (h : w.grownBy w' (some g)) (o : Obj) : w.grownBy (w'.alloc o) (some g) := h.trans (World.grownBy_alloc _ _ _)
theorem but_drew (h : w.grownBy w' (some g)) : w.grownBy w'.drew (some g) := ⟨h.os, h.tape, h.output, h.size, h.block⟩
theorem but_drewN (h : w.grownBy w' (some g)) (n : Nat) : w.grownBy (w'.drewN n) (some g) := ⟨h.os, h.tape, h.output, h.size, h.block⟩
theorem but_set (h : w.grownBy w' (some g)) (i : Nat) (u : Value) : w.grownBy (w'.setCell ⟨g, i, none⟩ u) (some g) :=
  h.trans ⟨rfl, rfl, rfl, by simp [World.setCell], fun k _ hk => Below.heap_setCell _ _ _ _ (fun e => hk (by simp at e; rw [e]))⟩
theorem but_set_new (h : w.grownBy w' (some g)) {p : Addr} (hp : w.heap.size ≤ p.block) (u : Value) : w.grownBy (w'.setCell p u) (some g) :=
  ⟨h.os, h.tape, h.output, by have := h.size; simpa [World.setCell] using this, fun k hk hne => (Below.heap_setCell _ _ _ _ (by omega)).trans (h.block k hk hne)⟩
theorem but_below (h : w.grownBy w' (some g)) (hb : Below w'.heap.size w' w'') : w.grownBy w'' (some g) :=
  ⟨hb.os.trans h.os, hb.tape.trans h.tape, hb.output.trans h.output, Nat.le_trans h.size hb.size, fun k hk hne => (hb.block k (Nat.lt_of_lt_of_le hk h.size)).trans (h.block k hk hne)⟩
theorem but_append {α : Type} {f : α → List Value} {sz : Nat} {t : TypeId} {B : Nat} {W : World} {a : Option Addr} {c : Nat} {l : List α} (h : w.grownBy w' (some g)) (ho : Own f sz t B W a c l) (hB : w.heap.size ≤ B)
    (hg : w'.grownBy w'' (Value.ownBlock (.slice a l.length c))) : w.grownBy w'' (some g) :=
  h.andThen hg fun j hj => .inl (by
    cases a with
    | none => simp [Value.ownBlock] at hj
    | some p => simp [Value.ownBlock] at hj; have := (ho.lt rfl).1; omega)
theorem below_but {B : Nat} {w0 : World} (hb : Below B w0 w) (h : w.grownBy w' (some g)) (hg : B ≤ g) (hB : B ≤ w.heap.size) : Below B w0 w' := hb.grown h hB (fun k hk => by injection hk with hk; omega)
theorem New.but_back {B : Nat} {V : World} (h : New B w' V) (hg : w.grownBy w' (some g)) : NewBut B (some ⟨g, 0, none⟩) w V := fun p v hp hne hc =>
  h p v hp (hg.cell hc (fun e => hne _ rfl (by injection e)))
theorem NewBut.but_back {B : Nat} {V : World} (h : NewBut B (some ⟨g, 0, none⟩) w' V) (hg : w.grownBy w' (some g)) : NewBut B (some ⟨g, 0, none⟩) w V := fun p v hp hne hc =>
  h p v hp hne (hg.cell hc (fun e => hne _ rfl (by injection e)))
theorem Own.but {α : Type} {f : α → List Value} {sz : Nat} {t : TypeId} {B : Nat} {a : Option Addr} {c : Nat} {l : List α} (ho : Own f sz t B w a c l) (h : w.grownBy w' (some g)) (hB : g < B) : Own f sz t B w' a c l :=
  ho.grown h fun p hp e => by have := (ho.lt hp).1; injection e with e; omega
theorem Own.but2 {α : Type} {f : α → List Value} {sz : Nat} {t : TypeId} {B : Nat} {a : Option Addr} {c : Nat} {l : List α} (ho : Own f sz t B w a c l) (h : w.grownBy w' (some g)) (hne : ∀ p, a = some p → p.block ≠ g) : Own f sz t B w' a c l :=
  ho.grown h fun p hp e => by have := hne p hp; injection e with e; omega
theorem below_app {α : Type} {f : α → List Value} {sz : Nat} {t : TypeId} {B B' : Nat} {w0 W : World} {a : Option Addr} {c : Nat} {l : List α} (h : Below B w0 w) (ho : Own f sz t B' W a c l) (hB : B ≤ B') (hs : B ≤ w.heap.size)
    (hg : w.grownBy w' (Value.ownBlock (.slice a l.length c))) : Below B w0 w' := h.grown hg hs fun k hk => by
  cases a with
  | none => simp [Value.ownBlock] at hk
  | some p => simp [Value.ownBlock] at hk; have := (ho.lt rfl).1; omega
end
end Go.Proofs.Ytmlldjcbijoheaa

/- A statement whose order is open, where two operations that are no reads may come up in either order. No function of the program in sight. -/
namespace Go.Proofs.Ytmlldjcbijoheaa
open Go.RowKit

/-- the orders, as a tree: what reads (q), any other (l), of the tail (p, t), and two of which either comes first -/
inductive MT where
  | nil
  | q (i : Nat) (r : MT)
  | p (i : Nat) (r : MT)
  | l (i : Nat) (r : MT)
  | t (i : Nat) (r : MT)
  | two (i : Nat) (r : MT) (j : Nat) (r' : MT)
def MT.size : MT → Nat
  | .nil => 0
  | .q _ r => r.size + 1
  | .p _ r => r.size + 1
  | .l _ r => r.size + 1
  | .t _ r => r.size + 1
  | .two _ r _ _ => r.size + 1
section
variable {P : Program} {ops : Array Oper} {Q : Exit → Act → World → Prop} {md : Region.Mode} {S : World → Prop}
def okMT (md : Region.Mode) (ops : Array Oper) (T : List Nat) : MT → Array Bool → Bool → Bool
  | .nil, listed, _ => (Region.ready md ops listed).isEmpty
  | .q i r, listed, late => !late && (!T.contains i && (T.all (fun j => dep md ops ops.size j i) && (Region.free md ops listed i && ((Region.ready md ops listed).contains i && okMT md ops T r (listed.setIfInBounds i true) late))))
  | .p i r, listed, _ => T.contains i && (Region.free md ops listed i && ((Region.ready md ops listed).contains i && okMT md ops T r (listed.setIfInBounds i true) true))
  | .l i r, listed, late => !late && (!T.contains i && ((Region.ready md ops listed == [i]) && okMT md ops T r (listed.setIfInBounds i true) late))
  | .t i r, listed, _ => T.contains i && ((Region.ready md ops listed == [i]) && okMT md ops T r (listed.setIfInBounds i true) true)
  | .two i r j r', listed, late => !late && (!T.contains i && (!T.contains j && ((Region.ready md ops listed == [i, j]) && ((r.size == r'.size) && (okMT md ops T r (listed.setIfInBounds i true) late && okMT md ops T r' (listed.setIfInBounds j true) late)))))
/-- one operation walked -/
def loudly (P : Program) (ops : Array Oper) (Q : Exit → Act → World → Prop) (i : Nat) (K : Act → World → Prop) (a : Act) (w : World) : Prop := match opAt ops i with
  | none => False
  | some o => if Region.wanted o (yielded ops a.tmps) = true then o.wp P a w K Q else K (a.put o.dst undef) w
def wpMT (P : Program) (ops : Array Oper) (Q : Exit → Act → World → Prop) (S : World → Prop) : MT → Act → World → Prop
  | .nil, a, w => Q .normal a w
  | .q i r, a, w => match opAt ops i with
    | none => False
    | some o => if Region.wanted o (yielded ops a.tmps) = true then ∃ v, (∀ w', S w' → (execOp a.eval o).run P w' = .ok (.value v) w') ∧ wpMT P ops Q S r (a.put o.dst v) w
      else wpMT P ops Q S r (a.put o.dst undef) w
  | .p i r, a, w => match opAt ops i with
    | none => False
    | some o => if Region.wanted o (yielded ops a.tmps) = true then ∃ v, (∀ w', (execOp a.eval o).run P w' = .ok (.value v) w') ∧ wpMT P ops Q S r (a.put o.dst v) w
      else wpMT P ops Q S r (a.put o.dst undef) w
  | .l i r, a, w => loudly P ops Q i (fun a' w' => S w' ∧ wpMT P ops Q S r a' w') a w
  | .t i r, a, w => loudly P ops Q i (fun a' w' => wpMT P ops Q S r a' w') a w
  | .two i r j r', a, w => loudly P ops Q i (fun a' w' => S w' ∧ wpMT P ops Q S r a' w') a w ∧ loudly P ops Q j (fun a' w' => S w' ∧ wpMT P ops Q S r' a' w') a w
/-- does a number stand in the tail's list? -/
def inT (T : List Nat) (i : Nat) : Bool := T.contains i

theorem loudly_op {i : Nat} {K K' : Act → World → Prop} {a : Act} {w : World} (h : loudly P ops Q i K a w) (hK : ∀ a' w', K a' w' → K' a' w') : wpOp P ops Q i K' a w := by
  unfold loudly at h
  rw [opAt_eq] at h
  unfold wpOp
  cases ho : ops[i]? with
  | none => rw [ho] at h; exact h.elim
  | some o =>
    rw [ho] at h
    simp only at h ⊢
    by_cases hw : Region.wanted o (yielded ops a.tmps) = true
    · rw [if_pos hw] at h ⊢
      exact .inl (Oper.wp_mono hK h)
    · rw [if_neg hw] at h ⊢
      exact hK _ _ h

theorem wpMT_any (hs : Region.noSelect ops = true) (hQ : ∀ d v c a w, Q (.panic c) (a.put d v) w → Q (.panic c) a w) (T : List Nat) :
    ∀ (l : MT) (listed : Array Bool) (a : Act) (w : World) (late : Bool), okMT md ops T l listed late = true → Closed md ops listed → (late = false → S w) → wpMT P ops Q S l a w →
      wpAnyX P md ops Q S (inT T) l.size listed a w
  | .nil, listed, a, w, _, hB, _, _, h => by
    unfold MT.size wpAnyX
    exact ⟨by simpa [okMT] using hB, h⟩
  | .q i r, listed, a, w, late, hB, hcl, hS, h => by
    simp only [okMT, Bool.and_eq_true, Bool.not_eq_true', List.all_eq_true] at hB
    obtain ⟨hl, hti, htl, h1, h2, h3⟩ := hB
    have h2' : i ∈ Region.ready md ops listed := by simpa using h2
    unfold wpMT at h
    rw [opAt_eq] at h
    cases ho : ops[i]? with
    | none => rw [ho] at h; exact h.elim
    | some o =>
      rw [ho] at h
      simp only at h
      have htl' : ∀ j, inT T j = true → dep md ops ops.size j i = true := fun j hj => htl j (by simpa [inT] using hj)
      by_cases hw : Region.wanted o (yielded ops a.tmps) = true
      · rw [if_pos hw] at h
        obtain ⟨v, hv, hn⟩ := h
        exact wpAnyX_first ho hti (Region.noSelect_spec hs) (fun c a w => hQ _ _ c a w) _ _ _ _ (Region.free_spec ho h1) htl' hcl h2' (.inl ⟨hw, hv⟩) (hS hl) (wpMT_any hs hQ T r _ _ _ late h3 (hcl.set_ h2') hS hn)
      · rw [if_neg hw] at h
        exact wpAnyX_first ho hti (Region.noSelect_spec hs) (fun c a w => hQ _ _ c a w) _ _ _ _ (Region.free_spec ho h1) htl' hcl h2' (.inr ⟨by simpa using hw, rfl⟩) (hS hl) (wpMT_any hs hQ T r _ _ _ late h3 (hcl.set_ h2') hS h)
  | .p i r, listed, a, w, late, hB, hcl, hS, h => by
    simp only [okMT, Bool.and_eq_true] at hB
    obtain ⟨hti, h1, h2, h3⟩ := hB
    have h2' : i ∈ Region.ready md ops listed := by simpa using h2
    unfold wpMT at h
    rw [opAt_eq] at h
    cases ho : ops[i]? with
    | none => rw [ho] at h; exact h.elim
    | some o =>
      rw [ho] at h
      simp only at h
      by_cases hw : Region.wanted o (yielded ops a.tmps) = true
      · rw [if_pos hw] at h
        obtain ⟨v, hv, hn⟩ := h
        exact wpAnyX_pure ho hti (Region.noSelect_spec hs) (fun c a w => hQ _ _ c a w) _ _ _ _ (Region.free_spec ho h1) h2' (.inl ⟨hw, hv⟩) (wpMT_any hs hQ T r _ _ _ true h3 (hcl.set_ h2') (fun h => by cases h) hn)
      · rw [if_neg hw] at h
        exact wpAnyX_pure ho hti (Region.noSelect_spec hs) (fun c a w => hQ _ _ c a w) _ _ _ _ (Region.free_spec ho h1) h2' (.inr ⟨by simpa using hw, rfl⟩) (wpMT_any hs hQ T r _ _ _ true h3 (hcl.set_ h2') (fun h => by cases h) h)
  | .l i r, listed, a, w, late, hB, hcl, hS, h => by
    simp only [okMT, Bool.and_eq_true, Bool.not_eq_true', beq_iff_eq] at hB
    obtain ⟨hl, hti, h1, h3⟩ := hB
    have h2' : i ∈ Region.ready md ops listed := by rw [h1]; simp
    unfold wpMT at h
    unfold MT.size wpAnyX
    refine ⟨(fun h0 => by rw [h1] at h0; cases h0), fun j hj => ?_⟩
    obtain rfl : j = i := by rw [h1] at hj; simpa using hj
    exact loudly_op h fun a' w' hh => ⟨fun _ => hh.1, wpMT_any hs hQ T r _ a' w' late h3 (hcl.set_ h2') (fun _ => hh.1) hh.2⟩
  | .t i r, listed, a, w, late, hB, hcl, hS, h => by
    simp only [okMT, Bool.and_eq_true, beq_iff_eq] at hB
    obtain ⟨hti, h1, h3⟩ := hB
    have h2' : i ∈ Region.ready md ops listed := by rw [h1]; simp
    unfold wpMT at h
    unfold MT.size wpAnyX
    refine ⟨(fun h0 => by rw [h1] at h0; cases h0), fun j hj => ?_⟩
    obtain rfl : j = i := by rw [h1] at hj; simpa using hj
    have hno : inT T j = false → False := fun h => by rw [inT, hti] at h; cases h
    exact loudly_op h fun a' w' hh => ⟨fun h => (hno h).elim, wpMT_any hs hQ T r _ a' w' true h3 (hcl.set_ h2') (fun h => by cases h) hh⟩
  | .two i r j r', listed, a, w, late, hB, hcl, hS, h => by
    simp only [okMT, Bool.and_eq_true, Bool.not_eq_true', beq_iff_eq] at hB
    obtain ⟨hl, hti, htj, h1, hsz, h3, h4⟩ := hB
    have hi' : i ∈ Region.ready md ops listed := by rw [h1]; simp
    have hj' : j ∈ Region.ready md ops listed := by rw [h1]; simp
    unfold wpMT at h
    unfold MT.size wpAnyX
    refine ⟨(fun h0 => by rw [h1] at h0; cases h0), fun k hk => ?_⟩
    rw [h1] at hk
    rcases List.mem_cons.1 hk with rfl | hk
    · exact loudly_op h.1 fun a' w' hh => ⟨fun _ => hh.1, wpMT_any hs hQ T r _ a' w' late h3 (hcl.set_ hi') (fun _ => hh.1) hh.2⟩
    · obtain rfl : k = j := by simpa using hk
      refine loudly_op h.2 fun a' w' hh => ⟨fun _ => hh.1, ?_⟩
      rw [hsz]
      exact wpMT_any hs hQ T r' _ a' w' late h4 (hcl.set_ hj') (fun _ => hh.1) hh.2
attribute [irreducible] wpMT
/-- THE REGION: 'l' is the tree of orders, 'T' the tail; S is what every operation ahead of the tail leaves as it is. -/
theorem wp_region_tree {id : Nat} {a : Act} {w : World} (l : MT) (T : List Nat) (hm : P.follows .mixedOrders = true) (hs : Region.noSelect ops = true)
    (hB : (l.size == ops.size && okMT .any ops T l (Array.replicate ops.size false) false) = true)
    (hQ : ∀ d v c a w, Q (.panic c) (a.put d v) w → Q (.panic c) a w) (hS : S w.drew) (h : wpMT P ops Q S l a w.drew) : (Code.region id ops true).wp P Q a w := by
  simp only [Bool.and_eq_true, beq_iff_eq] at hB
  refine wp_region_any hm (wpAny_of_X (S := S) (tl := inT T) _ _ _ _ ?_)
  have hc : Closed .any ops (Array.replicate ops.size false) := fun k o _ hk => by
    exfalso
    rcases Nat.lt_or_ge k ops.size with h' | h'
    · simp [h'] at hk
    · simp [Nat.not_lt.2 h'] at hk
  have := wpMT_any (md := .any) hs hQ T l _ a w.drew false hB.2 hc (fun _ => hS) h
  rwa [hB.1] at this
theorem wpMT_nil {a : Act} {w : World} (h : Q .normal a w) : wpMT P ops Q S .nil a w := by unfold wpMT; exact h
theorem wpMT_q {i : Nat} {r : MT} {o : Oper} {a : Act} {w : World} (ho : opAt ops i = some o) (hw : Region.wanted o (yielded ops a.tmps) = true)
    (h : ∀ K : Act → World → Prop, (∀ a' w', wpMT P ops Q S r a' w' → K a' w') → ∃ v, (∀ w', S w' → (execOp a.eval o).run P w' = .ok (.value v) w') ∧ K (a.put o.dst v) w) :
    wpMT P ops Q S (.q i r) a w := by
  unfold wpMT
  rw [ho]
  simp only
  rw [if_pos hw]
  exact h _ (fun _ _ h => h)
theorem wpMT_p {i : Nat} {r : MT} {o : Oper} {a : Act} {w : World} (ho : opAt ops i = some o) (hw : Region.wanted o (yielded ops a.tmps) = true)
    (h : ∀ K : Act → World → Prop, (∀ a' w', wpMT P ops Q S r a' w' → K a' w') → ∃ v, (∀ w', (execOp a.eval o).run P w' = .ok (.value v) w') ∧ K (a.put o.dst v) w) :
    wpMT P ops Q S (.p i r) a w := by
  unfold wpMT
  rw [ho]
  simp only
  rw [if_pos hw]
  exact h _ (fun _ _ h => h)
theorem wpMT_l {i : Nat} {r : MT} {o : Oper} {a : Act} {w : World} (ho : opAt ops i = some o) (hw : Region.wanted o (yielded ops a.tmps) = true)
    (h : ∀ K : Act → World → Prop, Hid (∀ a' w', S w' → (S w' → wpMT P ops Q S r a' w') → K a' w') → o.wp P a w K Q) :
    wpMT P ops Q S (.l i r) a w := by
  unfold wpMT loudly
  rw [ho]
  simp only
  rw [if_pos hw]
  exact h _ (fun _ _ h k => ⟨h, k h⟩)
theorem wpMT_t {i : Nat} {r : MT} {o : Oper} {a : Act} {w : World} (ho : opAt ops i = some o) (hw : Region.wanted o (yielded ops a.tmps) = true)
    (h : ∀ K : Act → World → Prop, Hid (∀ a' w', wpMT P ops Q S r a' w' → K a' w') → o.wp P a w K Q) :
    wpMT P ops Q S (.t i r) a w := by
  unfold wpMT loudly
  rw [ho]
  simp only
  rw [if_pos hw]
  exact h _ (fun _ _ h => h)
/-- either may come first -/
theorem wpMT_two {i j : Nat} {r r' : MT} {a : Act} {w : World} (h : wpMT P ops Q S (.l i r) a w) (h' : wpMT P ops Q S (.l j r') a w) : wpMT P ops Q S (.two i r j r') a w := by
  unfold wpMT at h h' ⊢
  exact ⟨h, h'⟩
end
end Go.Proofs.Ytmlldjcbijoheaa
