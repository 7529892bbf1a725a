/- A statement whose order is open, where two operations that are no reads may come up in either order. No function of the program in sight. -/
import Derived.Test.YtdnblkklgdnapaaGreatDoorCt3
set_option linter.all false
set_option maxRecDepth 100000
set_option maxHeartbeats 4000000
namespace Go.Proofs.YtdnblkklgdnapaaGreatDoor
open Go.RowKit
inductive MT where
 | nil
 | q (i : Nat) (r : MT)
 | p (i : Nat) (r : MT)
 | l (i : Nat) (r : MT)
 | t (i : Nat) (r : MT)
 | two (i : Nat) (r : MT) (j : Nat) (r' : MT)
 | three (i : Nat) (r : MT) (j : Nat) (r' : MT) (k : Nat) (r'' : MT)
def MT.size : MT -> Nat
 | .nil => 0
 | .q _ r => r.size + 1
 | .p _ r => r.size + 1
 | .l _ r => r.size + 1
 | .t _ r => r.size + 1
 | .two _ r _ _ => r.size + 1
 | .three _ r _ _ _ _ => r.size + 1
section
variable {P : Program} {ops : Array Oper} {Q : Exit -> Act -> World -> Prop} {md : Region.Mode} {S : World -> Prop}
def okMT (md : Region.Mode) (ops : Array Oper) (T : List Nat) : MT -> Array Bool -> Bool -> Bool
 | .nil, listed, _ => (Region.ready md ops listed).isEmpty
 | .q i r, listed, late => !late && (!T.contains i && (T.all (fun j => dep md ops ops.size j i) && (Region.free md ops listed i && ((Region.ready md ops listed).contains i && okMT md ops T r (listed.setIfInBounds i true) late))))
 | .p i r, listed, _ => T.contains i && (Region.free md ops listed i && ((Region.ready md ops listed).contains i && okMT md ops T r (listed.setIfInBounds i true) true))
 | .l i r, listed, late => !late && (!T.contains i && ((Region.ready md ops listed == [i]) && okMT md ops T r (listed.setIfInBounds i true) late))
 | .t i r, listed, _ => T.contains i && ((Region.ready md ops listed == [i]) && okMT md ops T r (listed.setIfInBounds i true) true)
 | .two i r j r', listed, late => !late && (!T.contains i && (!T.contains j && ((Region.ready md ops listed == [i, j]) && ((r.size == r'.size) && (okMT md ops T r (listed.setIfInBounds i true) late && okMT md ops T r' (listed.setIfInBounds j true) late)))))
 | .three i r j r' k r'', listed, late => !late && (!T.contains i && (!T.contains j && (!T.contains k && ((Region.ready md ops listed == [i, j, k]) && ((r.size == r'.size) && ((r.size == r''.size) && (okMT md ops T r (listed.setIfInBounds i true) late && (okMT md ops T r' (listed.setIfInBounds j true) late && okMT md ops T r'' (listed.setIfInBounds k true) late))))))))
def loudly (P : Program) (ops : Array Oper) (Q : Exit -> Act -> World -> Prop) (i : Nat) (K : Act -> World -> Prop) (a : Act) (w : World) : Prop := match opAt ops i with
 | none => False
 | some o => if Region.wanted o (yielded ops a.tmps) = true then o.wp P a w K Q else K (a.put o.dst undef) w
def wpMT (P : Program) (ops : Array Oper) (Q : Exit -> Act -> World -> Prop) (S : World -> Prop) : MT -> Act -> World -> Prop
 | .nil, a, w => Q .normal a w
 | .q i r, a, w => match opAt ops i with
  | none => False
  | some o => if Region.wanted o (yielded ops a.tmps) = true then ∃ v, (∀ w', S w' -> (execOp a.eval o).run P w' = .ok (.value v) w') /\ wpMT P ops Q S r (a.put o.dst v) w
   else wpMT P ops Q S r (a.put o.dst undef) w
 | .p i r, a, w => match opAt ops i with
  | none => False
  | some o => if Region.wanted o (yielded ops a.tmps) = true then ∃ v, (∀ w', (execOp a.eval o).run P w' = .ok (.value v) w') /\ wpMT P ops Q S r (a.put o.dst v) w
   else wpMT P ops Q S r (a.put o.dst undef) w
 | .l i r, a, w => loudly P ops Q i (fun a' w' => S w' /\ wpMT P ops Q S r a' w') a w
 | .t i r, a, w => loudly P ops Q i (fun a' w' => wpMT P ops Q S r a' w') a w
 | .two i r j r', a, w => loudly P ops Q i (fun a' w' => S w' /\ wpMT P ops Q S r a' w') a w /\ loudly P ops Q j (fun a' w' => S w' /\ wpMT P ops Q S r' a' w') a w
 | .three i r j r' k r'', a, w => loudly P ops Q i (fun a' w' => S w' /\ wpMT P ops Q S r a' w') a w /\ loudly P ops Q j (fun a' w' => S w' /\ wpMT P ops Q S r' a' w') a w /\ loudly P ops Q k (fun a' w' => S w' /\ wpMT P ops Q S r'' a' w') a w
def inT (T : List Nat) (i : Nat) : Bool := T.contains i
theorem loudly_op {i : Nat} {K K' : Act -> World -> Prop} {a : Act} {w : World} (h : loudly P ops Q i K a w) (hK : ∀ a' w', K a' w' -> K' a' w') : wpOp P ops Q i K' a w := by
 unfold loudly at h
 rw [opAt_eq] at h
 unfold wpOp
 cases ho : ops[i]? with
 | none => rw [ho] at h; exact h.elim
 | some o =>
  rw [ho] at h
  simp only at h ⊢
  by_cases hw : Region.wanted o (yielded ops a.tmps) = true
  ·
   rw [if_pos hw] at h ⊢
   exact .inl (Oper.wp_mono hK h)
  ·
   rw [if_neg hw] at h ⊢
   exact hK _ _ h
theorem wpMT_any (hs : Region.noSelect ops = true) (hQ : ∀ d v c a w, Q (.panic c) (a.put d v) w -> Q (.panic c) a w) (T : List Nat) :
  ∀ (l : MT) (listed : Array Bool) (a : Act) (w : World) (late : Bool), okMT md ops T l listed late = true -> Closed md ops listed -> (late = false -> S w) -> wpMT P ops Q S l a w ->
   wpAnyX P md ops Q S (inT T) l.size listed a w
 | .nil, listed, a, w, _, hB, _, _, h => by
  unfold MT.size wpAnyX
  exact ⟨by simpa [okMT] using hB, h⟩
 | .q i r, listed, a, w, late, hB, hcl, hS, h => by
  simp only [okMT, Bool.and_eq_true, Bool.not_eq_true', List.all_eq_true] at hB
  obtain ⟨hl, hti, htl, h1, h2, h3⟩ := hB
  have h2' : i ∈ Region.ready md ops listed := by simpa using h2
  unfold wpMT at h
  rw [opAt_eq] at h
  cases ho : ops[i]? with
  | none => rw [ho] at h; exact h.elim
  | some o =>
   rw [ho] at h
   simp only at h
   have htl' : ∀ j, inT T j = true -> dep md ops ops.size j i = true := fun j hj => htl j (by simpa [inT] using hj)
   by_cases hw : Region.wanted o (yielded ops a.tmps) = true
   ·
    rw [if_pos hw] at h
    obtain ⟨v, hv, hn⟩ := h
    exact wpAnyX_first ho hti (Region.noSelect_spec hs) (fun c a w => hQ _ _ c a w) _ _ _ _ (Region.free_spec ho h1) htl' hcl h2' (.inl ⟨hw, hv⟩) (hS hl) (wpMT_any hs hQ T r _ _ _ late h3 (hcl.set_ h2') hS hn)
   ·
    rw [if_neg hw] at h
    exact wpAnyX_first ho hti (Region.noSelect_spec hs) (fun c a w => hQ _ _ c a w) _ _ _ _ (Region.free_spec ho h1) htl' hcl h2' (.inr ⟨by simpa using hw, rfl⟩) (hS hl) (wpMT_any hs hQ T r _ _ _ late h3 (hcl.set_ h2') hS h)
 | .p i r, listed, a, w, late, hB, hcl, hS, h => by
  simp only [okMT, Bool.and_eq_true] at hB
  obtain ⟨hti, h1, h2, h3⟩ := hB
  have h2' : i ∈ Region.ready md ops listed := by simpa using h2
  unfold wpMT at h
  rw [opAt_eq] at h
  cases ho : ops[i]? with
  | none => rw [ho] at h; exact h.elim
  | some o =>
   rw [ho] at h
   simp only at h
   by_cases hw : Region.wanted o (yielded ops a.tmps) = true
   ·
    rw [if_pos hw] at h
    obtain ⟨v, hv, hn⟩ := h
    exact wpAnyX_pure ho hti (Region.noSelect_spec hs) (fun c a w => hQ _ _ c a w) _ _ _ _ (Region.free_spec ho h1) h2' (.inl ⟨hw, hv⟩) (wpMT_any hs hQ T r _ _ _ true h3 (hcl.set_ h2') (fun h => by cases h) hn)
   ·
    rw [if_neg hw] at h
    exact wpAnyX_pure ho hti (Region.noSelect_spec hs) (fun c a w => hQ _ _ c a w) _ _ _ _ (Region.free_spec ho h1) h2' (.inr ⟨by simpa using hw, rfl⟩) (wpMT_any hs hQ T r _ _ _ true h3 (hcl.set_ h2') (fun h => by cases h) h)
 | .l i r, listed, a, w, late, hB, hcl, hS, h => by
  simp only [okMT, Bool.and_eq_true, Bool.not_eq_true', beq_iff_eq] at hB
  obtain ⟨hl, hti, h1, h3⟩ := hB
  have h2' : i ∈ Region.ready md ops listed := by rw [h1]; simp
  unfold wpMT at h
  unfold MT.size wpAnyX
  refine ⟨(fun h0 => by rw [h1] at h0; cases h0), fun j hj => ?_⟩
  obtain rfl : j = i := by rw [h1] at hj; simpa using hj
  exact loudly_op h fun a' w' hh => ⟨fun _ => hh.1, wpMT_any hs hQ T r _ a' w' late h3 (hcl.set_ h2') (fun _ => hh.1) hh.2⟩
 | .t i r, listed, a, w, late, hB, hcl, hS, h => by
  simp only [okMT, Bool.and_eq_true, beq_iff_eq] at hB
  obtain ⟨hti, h1, h3⟩ := hB
  have h2' : i ∈ Region.ready md ops listed := by rw [h1]; simp
  unfold wpMT at h
  unfold MT.size wpAnyX
  refine ⟨(fun h0 => by rw [h1] at h0; cases h0), fun j hj => ?_⟩
  obtain rfl : j = i := by rw [h1] at hj; simpa using hj
  have hno : inT T j = false -> False := fun h => by rw [inT, hti] at h; cases h
  exact loudly_op h fun a' w' hh => ⟨fun h => (hno h).elim, wpMT_any hs hQ T r _ a' w' true h3 (hcl.set_ h2') (fun h => by cases h) hh⟩
 | .two i r j r', listed, a, w, late, hB, hcl, hS, h => by
  simp only [okMT, Bool.and_eq_true, Bool.not_eq_true', beq_iff_eq] at hB
  obtain ⟨hl, hti, htj, h1, hsz, h3, h4⟩ := hB
  have hi' : i ∈ Region.ready md ops listed := by rw [h1]; simp
  have hj' : j ∈ Region.ready md ops listed := by rw [h1]; simp
  unfold wpMT at h
  unfold MT.size wpAnyX
  refine ⟨(fun h0 => by rw [h1] at h0; cases h0), fun k hk => ?_⟩
  rw [h1] at hk
  rcases List.mem_cons.1 hk with rfl | hk
  · exact loudly_op h.1 fun a' w' hh => ⟨fun _ => hh.1, wpMT_any hs hQ T r _ a' w' late h3 (hcl.set_ hi') (fun _ => hh.1) hh.2⟩
  ·
   obtain rfl : k = j := by simpa using hk
   refine loudly_op h.2 fun a' w' hh => ⟨fun _ => hh.1, ?_⟩
   rw [hsz]
   exact wpMT_any hs hQ T r' _ a' w' late h4 (hcl.set_ hj') (fun _ => hh.1) hh.2
 | .three i r j r' k r'', listed, a, w, late, hB, hcl, hS, h => by
  simp only [okMT, Bool.and_eq_true, Bool.not_eq_true', beq_iff_eq] at hB
  obtain ⟨hl, hti, htj, htk, h1, hsz, hsz2, h3, h4, h5⟩ := hB
  have hi' : i ∈ Region.ready md ops listed := by rw [h1]; simp
  have hj' : j ∈ Region.ready md ops listed := by rw [h1]; simp
  have hk' : k ∈ Region.ready md ops listed := by rw [h1]; simp
  unfold wpMT at h
  unfold MT.size wpAnyX
  refine ⟨(fun h0 => by rw [h1] at h0; cases h0), fun m hm => ?_⟩
  rw [h1] at hm
  rcases List.mem_cons.1 hm with rfl | hm
  · exact loudly_op h.1 fun a' w' hh => ⟨fun _ => hh.1, wpMT_any hs hQ T r _ a' w' late h3 (hcl.set_ hi') (fun _ => hh.1) hh.2⟩
  ·
   rcases List.mem_cons.1 hm with rfl | hm
   ·
    refine loudly_op h.2.1 fun a' w' hh => ⟨fun _ => hh.1, ?_⟩
    rw [hsz]
    exact wpMT_any hs hQ T r' _ a' w' late h4 (hcl.set_ hj') (fun _ => hh.1) hh.2
   ·
    obtain rfl : m = k := by simpa using hm
    refine loudly_op h.2.2 fun a' w' hh => ⟨fun _ => hh.1, ?_⟩
    rw [hsz2]
    exact wpMT_any hs hQ T r'' _ a' w' late h5 (hcl.set_ hk') (fun _ => hh.1) hh.2
attribute [irreducible] wpMT
theorem wp_region_tree {id : Nat} {a : Act} {w : World} (l : MT) (T : List Nat) (hm : P.follows .mixedOrders = true) (hs : Region.noSelect ops = true)
  (hB : (l.size == ops.size && okMT .any ops T l (Array.replicate ops.size false) false) = true)
  (hQ : ∀ d v c a w, Q (.panic c) (a.put d v) w -> Q (.panic c) a w) (hS : S w.drew) (h : wpMT P ops Q S l a w.drew) : (Code.region id ops true).wp P Q a w := by
 simp only [Bool.and_eq_true, beq_iff_eq] at hB
 refine wp_region_any hm (wpAny_of_X (S := S) (tl := inT T) _ _ _ _ ?_)
 have hc : Closed .any ops (Array.replicate ops.size false) := fun k o _ hk => by
  exfalso
  rcases Nat.lt_or_ge k ops.size with h' | h'
  · simp [h'] at hk
  · simp [Nat.not_lt.2 h'] at hk
 have := wpMT_any (md := .any) hs hQ T l _ a w.drew false hB.2 hc (fun _ => hS) h
 rwa [hB.1] at this
theorem wpMT_nil {a : Act} {w : World} (h : Q .normal a w) : wpMT P ops Q S .nil a w := by unfold wpMT; exact h
theorem wpMT_q {i : Nat} {r : MT} {o : Oper} {a : Act} {w : World} (ho : opAt ops i = some o) (hw : Region.wanted o (yielded ops a.tmps) = true)
  (h : ∀ K : Act -> World -> Prop, (∀ a' w', wpMT P ops Q S r a' w' -> K a' w') -> ∃ v, (∀ w', S w' -> (execOp a.eval o).run P w' = .ok (.value v) w') /\ K (a.put o.dst v) w) :
  wpMT P ops Q S (.q i r) a w := by
 unfold wpMT
 rw [ho]
 simp only
 rw [if_pos hw]
 exact h _ (fun _ _ h => h)
theorem wpMT_l {i : Nat} {r : MT} {o : Oper} {a : Act} {w : World} (ho : opAt ops i = some o) (hw : Region.wanted o (yielded ops a.tmps) = true)
  (h : ∀ K : Act -> World -> Prop, Hid (∀ a' w', S w' -> (S w' -> wpMT P ops Q S r a' w') -> K a' w') -> o.wp P a w K Q) :
  wpMT P ops Q S (.l i r) a w := by
 unfold wpMT loudly
 rw [ho]
 simp only
 rw [if_pos hw]
 exact h _ (fun _ _ h k => ⟨h, k h⟩)
theorem wpMT_t {i : Nat} {r : MT} {o : Oper} {a : Act} {w : World} (ho : opAt ops i = some o) (hw : Region.wanted o (yielded ops a.tmps) = true)
  (h : ∀ K : Act -> World -> Prop, Hid (∀ a' w', wpMT P ops Q S r a' w' -> K a' w') -> o.wp P a w K Q) :
  wpMT P ops Q S (.t i r) a w := by
 unfold wpMT loudly
 rw [ho]
 simp only
 rw [if_pos hw]
 exact h _ (fun _ _ h => h)
theorem wpMT_two {i j : Nat} {r r' : MT} {a : Act} {w : World} (h : wpMT P ops Q S (.l i r) a w) (h' : wpMT P ops Q S (.l j r') a w) : wpMT P ops Q S (.two i r j r') a w := by
 unfold wpMT at h h' ⊢
 exact ⟨h, h'⟩
end
end Go.Proofs.YtdnblkklgdnapaaGreatDoor
