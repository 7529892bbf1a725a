/- A statement whose order is open, walked once: what only reads is taken as soon as it may come up; what is left comes up one by one. No function of the program in sight. -/
import Derived.Test.YtmlldjcbijoheaaBase
import Derived.OrdersHeld
import Derived.Deep.RegionWith
namespace Go.Proofs.Ytmlldjcbijoheaa
open Go.RowKit

section
variable {P : Program} {ops : Array Oper} {Q : Exit → Act → World → Prop} {md : Region.Mode} {S : World → Prop}

/-- may the operations come up in this order, those that are marked true being taken first, the others being alone? -/
def mixB (md : Region.Mode) (ops : Array Oper) : List (Nat × Bool) → Array Bool → Bool
  | [], listed => (Region.ready md ops listed).isEmpty
  | (i, true) :: r, listed => Region.free md ops listed i && ((Region.ready md ops listed).contains i && mixB md ops r (listed.setIfInBounds i true))
  | (i, false) :: r, listed => (Region.ready md ops listed == [i]) && mixB md ops r (listed.setIfInBounds i true)

/-- an operation by its number, so that it is read off the list as it is written -/
def opAt (ops : Array Oper) (i : Nat) : Option Oper := (ops.toList.drop i).head?
theorem opAt_eq (ops : Array Oper) (i : Nat) : opAt ops i = ops[i]? := by simp [opAt]
/-- the walk in that order -/
def wpMix (P : Program) (ops : Array Oper) (Q : Exit → Act → World → Prop) (S : World → Prop) : List (Nat × Bool) → Act → World → Prop
  | [], a, w => Q .normal a w
  | (i, q) :: r, a, w => match opAt ops i with
    | none => False
    | some o => if Region.wanted o (yielded ops a.tmps) = true then
        (match q with
          | true => ∃ v, (∀ w', S w' → (execOp a.eval o).run P w' = .ok (.value v) w') ∧ wpMix P ops Q S r (a.put o.dst v) w
          | false => o.wp P a w (fun a' w' => S w' ∧ wpMix P ops Q S r a' w') Q)
      else wpMix P ops Q S r (a.put o.dst undef) w

theorem wpMix_any (hs : Region.noSelect ops = true) (hQ : ∀ d v c a w, Q (.panic c) (a.put d v) w → Q (.panic c) a w) :
    ∀ (l : List (Nat × Bool)) (listed : Array Bool) (a : Act) (w : World), mixB md ops l listed = true → S w → wpMix P ops Q S l a w → wpAnyH P md ops Q S l.length listed a w
  | [], listed, a, w, hB, _, h => wpAnyH_done (by simpa [mixB] using hB) h _
  | (i, q) :: r, listed, a, w, hB, hS, h => by
    unfold wpMix at h
    rw [opAt_eq] at h
    cases ho : ops[i]? with
    | none => rw [ho] at h; exact h.elim
    | some o =>
      rw [ho] at h
      simp only at h
      cases q with
      | true =>
        simp only [mixB, Bool.and_eq_true] at hB
        obtain ⟨h1, h2, h3⟩ := hB
        by_cases hw : Region.wanted o (yielded ops a.tmps) = true
        · rw [if_pos hw] at h
          obtain ⟨v, hv, hn⟩ := h
          exact wpAnyH_take ho hs h1 h2 (fun c a w => hQ _ _ c a w) (.inl ⟨hw, hv⟩) hS (wpMix_any hs hQ r _ _ _ h3 hS hn)
        · rw [if_neg hw] at h
          exact wpAnyH_take ho hs h1 h2 (fun c a w => hQ _ _ c a w) (.inr ⟨by simpa using hw, rfl⟩) hS (wpMix_any hs hQ r _ _ _ h3 hS h)
      | false =>
        simp only [mixB, Bool.and_eq_true, beq_iff_eq] at hB
        obtain ⟨h1, h3⟩ := hB
        refine wpAnyH_all h1 (by simp) (fun j hj => ?_)
        obtain rfl : j = i := by simpa using hj
        unfold wpOp
        rw [ho]
        simp only
        by_cases hw : Region.wanted o (yielded ops a.tmps) = true
        · rw [if_pos hw] at h ⊢
          exact .inl (Oper.wp_mono (fun a' w' hh => ⟨hh.1, wpMix_any hs hQ r _ a' w' h3 hh.1 hh.2⟩) h)
        · rw [if_neg hw] at h ⊢
          exact ⟨hS, wpMix_any hs hQ r _ _ _ h3 hS h⟩

/- a goal with this head is never laid open by the way -/
attribute [irreducible] wpMix

/-- THE REGION: 'l' is the order; S is what every operation leaves as it is. -/
theorem wp_region_mix {id : Nat} {a : Act} {w : World} (l : List (Nat × Bool)) (hm : P.follows .mixedOrders = true) (hs : Region.noSelect ops = true)
    (hB : (l.length == ops.size && mixB .any ops l (Array.replicate ops.size false)) = true)
    (hQ : ∀ d v c a w, Q (.panic c) (a.put d v) w → Q (.panic c) a w) (hS : S w.drew) (h : wpMix P ops Q S l a w.drew) : (Code.region id ops true).wp P Q a w := by
  simp only [Bool.and_eq_true, beq_iff_eq] at hB
  refine wp_region_held (S := S) hm ?_
  have := wpMix_any (md := .any) hs hQ l _ a w.drew hB.2 hS h
  rwa [hB.1] at this

theorem wpMix_nil {a : Act} {w : World} (h : Q .normal a w) : wpMix P ops Q S [] a w := by unfold wpMix; exact h
/-- an operation whose guard is not met -/
theorem wpMix_skip {i : Nat} {q : Bool} {r : List (Nat × Bool)} {o : Oper} {a : Act} {w : World} (ho : opAt ops i = some o) (hw : Region.wanted o (yielded ops a.tmps) = false)
    (h : ∀ K : Act → World → Prop, (∀ a' w', wpMix P ops Q S r a' w' → K a' w') → K (a.put o.dst undef) w) : wpMix P ops Q S ((i, q) :: r) a w := by
  unfold wpMix
  rw [ho]
  simp only
  rw [if_neg (by simp [hw])]
  exact h _ (fun _ _ h => h)
/-- an operation that only reads -/
theorem wpMix_q {i : Nat} {r : List (Nat × Bool)} {o : Oper} {a : Act} {w : World} (ho : opAt ops i = some o) (hw : Region.wanted o (yielded ops a.tmps) = true)
    (h : ∀ K : Act → World → Prop, (∀ a' w', wpMix P ops Q S r a' w' → K a' w') → ∃ v, (∀ w', S w' → (execOp a.eval o).run P w' = .ok (.value v) w') ∧ K (a.put o.dst v) w) :
    wpMix P ops Q S ((i, true) :: r) a w := by
  unfold wpMix
  rw [ho]
  simp only
  rw [if_pos hw]
  exact h _ (fun _ _ h => h)
/-- any other operation -/
theorem wpMix_l {i : Nat} {r : List (Nat × Bool)} {o : Oper} {a : Act} {w : World} (ho : opAt ops i = some o) (hw : Region.wanted o (yielded ops a.tmps) = true)
    (h : ∀ K : Act → World → Prop, Hid (∀ a' w', S w' → (S w' → wpMix P ops Q S r a' w') → K a' w') → o.wp P a w K Q) :
    wpMix P ops Q S ((i, false) :: r) a w := by
  unfold wpMix
  rw [ho]
  simp only
  rw [if_pos hw]
  exact h _ (fun _ _ h1 h2 => ⟨h1, h2 h1⟩)
end

end Go.Proofs.Ytmlldjcbijoheaa
