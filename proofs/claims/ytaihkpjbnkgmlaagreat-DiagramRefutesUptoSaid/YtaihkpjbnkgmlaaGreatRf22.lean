/- The least and the greatest of some rational numbers. No function of the program in sight. -/
import Derived.Test.YtaihkpjbnkgmlaaGreatRf5
import Derived.Test.YtaihkpjbnkgmlaaGreatRf17

/- A statement whose order is open, where many operations may come up in many orders: by an invariant over what has come up. No function of the program in sight. -/
namespace Go.Proofs.YtaihkpjbnkgmlaaGreat
open Go.RowKit
section
variable {P : Program} {ops : Array Oper} {Q : Exit → Act → World → Prop} {md : Region.Mode} {S : World → Prop}
/-- how many have not come up -/
def due (listed : Array Bool) : Nat := (listed.toList.filter fun b => !b).length
theorem due_list : ∀ (l : List Bool) (i : Nat), l[i]? = some false → ((l.set i true).filter fun b => !b).length + 1 = (l.filter fun b => !b).length
 | [], i, h => by simp at h
 | b :: l, 0, h => by simp at h; subst h; simp
 | b :: l, i + 1, h => by
  have := due_list l i (by simpa using h)
  cases b <;> simp <;> omega
theorem due_set {listed : Array Bool} {i : Nat} (h : listed.getD i true = false) : due (listed.setIfInBounds i true) + 1 = due listed := by
 have hi : i < listed.size := by
  apply Nat.lt_of_not_le
  intro hc
  simp [Array.getElem?_eq_none hc] at h
 have hv : listed[i]? = some false := by
  rw [Array.getElem?_eq_getElem hi]
  simpa [hi] using h
 unfold due
 have := due_list listed.toList i (by simpa using hv)
 rw [Array.toList_setIfInBounds]
 exact this
theorem due_none {listed : Array Bool} (h : due listed = 0) : Region.ready md ops listed = [] := by
 rw [List.eq_nil_iff_forall_not_mem]
 intro i hi
 have h1 := (mem_ready.1 hi).1
 have := due_set h1
 omega
/-- J holds of what has come up, the slots and the world; each operation that may come up keeps it -/
theorem wpAnyX_inv {tl : Nat → Bool} (J : Array Bool → Act → World → Prop)
  (hstep : ∀ listed a w i o, J listed a w → ops[i]? = some o → listed.getD i true = false → (∀ e ∈ o.after, Region.binds md e = true → listed.getD e.on false = true) →
   wpOp P ops Q i (fun a' w' => (tl i = false → S w') ∧ J (listed.setIfInBounds i true) a' w') a w)
  (hend : ∀ listed a w, J listed a w → Region.ready md ops listed = [] → Q .normal a w) :
  ∀ (fuel : Nat) (listed : Array Bool) (a : Act) (w : World), due listed ≤ fuel → J listed a w → wpAnyX P md ops Q S tl fuel listed a w
 | 0, listed, a, w, hf, hJ => by
  have h0 : Region.ready md ops listed = [] := due_none (by omega)
  unfold wpAnyX
  exact ⟨h0, hend listed a w hJ h0⟩
 | fuel + 1, listed, a, w, hf, hJ => by
  unfold wpAnyX
  refine ⟨fun h0 => hend listed a w hJ h0, fun i hi => ?_⟩
  obtain ⟨h1, o, ho, hall⟩ := mem_ready.1 hi
  have hd := due_set h1
  exact wpOp_mono (fun a' w' hh => ⟨hh.1, wpAnyX_inv J hstep hend fuel _ a' w' (by omega) hh.2⟩) (hstep listed a w i o hJ ho h1 hall)
/-- the operations that only read are taken first -/
def preB (md : Region.Mode) (ops : Array Oper) (T : List Nat) : List Nat → Array Bool → Bool
 | [], _ => true
 | i :: r, listed => !T.contains i && (T.all (fun j => dep md ops ops.size j i) && (Region.free md ops listed i && ((Region.ready md ops listed).contains i && preB md ops T r (listed.setIfInBounds i true))))
def wpPre (P : Program) (ops : Array Oper) (S : World → Prop) (K : Act → World → Prop) : List Nat → Act → World → Prop
 | [], a, w => K a w
 | i :: r, a, w => match opAt ops i with
  | none => False
  | some o => if Region.wanted o (yielded ops a.tmps) = true then ∃ v, (∀ w', S w' → (execOp a.eval o).run P w' = .ok (.value v) w') ∧ wpPre P ops S K r (a.put o.dst v) w
   else wpPre P ops S K r (a.put o.dst undef) w
def restOf : List Nat → Array Bool → Array Bool
 | [], listed => listed
 | i :: r, listed => restOf r (listed.setIfInBounds i true)
def hasT (T : List Nat) (i : Nat) : Bool := T.contains i
theorem wpPre_any (hs : Region.noSelect ops = true) (hQ : ∀ d v c a w, Q (.panic c) (a.put d v) w → Q (.panic c) a w) (T : List Nat) (n : Nat) (K : Act → World → Prop) :
  ∀ (l : List Nat) (listed : Array Bool) (a : Act) (w : World), preB md ops T l listed = true → Closed md ops listed → S w → (∀ a, K a w → wpAnyX P md ops Q S (hasT T) n (restOf l listed) a w) → wpPre P ops S K l a w →
   wpAnyX P md ops Q S (hasT T) (n + l.length) listed a w
 | [], listed, a, w, _, _, _, hK, h => hK a h
 | i :: r, listed, a, w, hB, hcl, hS, hK, h => by
  simp only [preB, Bool.and_eq_true, Bool.not_eq_true'] at hB
  obtain ⟨h0, h1, h2, h3, h4⟩ := hB
  have h3' : i ∈ Region.ready md ops listed := by simpa using h3
  have hti : hasT T i = false := h0
  have htl : ∀ j, hasT T j = true → dep md ops ops.size j i = true := fun j hj => by
   rw [List.all_eq_true] at h1
   exact h1 j (by simpa [hasT] using hj)
  unfold wpPre at h
  rw [opAt_eq] at h
  cases ho : ops[i]? with
  | none => rw [ho] at h; exact h.elim
  | some o =>
   rw [ho] at h
   simp only at h
   by_cases hw : Region.wanted o (yielded ops a.tmps) = true
   ·
    rw [if_pos hw] at h
    obtain ⟨v, hv, hn⟩ := h
    exact wpAnyX_first ho hti (Region.noSelect_spec hs) (fun c a w => hQ _ _ c a w) _ _ _ _ (Region.free_spec ho h2) htl hcl h3' (.inl ⟨hw, hv⟩) hS (wpPre_any hs hQ T n K r _ _ w h4 (hcl.set_ h3') hS hK hn)
   ·
    rw [if_neg hw] at h
    exact wpAnyX_first ho hti (Region.noSelect_spec hs) (fun c a w => hQ _ _ c a w) _ _ _ _ (Region.free_spec ho h2) htl hcl h3' (.inr ⟨by simpa using hw, rfl⟩) hS (wpPre_any hs hQ T n K r _ _ w h4 (hcl.set_ h3') hS hK h)
attribute [irreducible] wpPre
theorem wpPre_nil {K : Act → World → Prop} {a : Act} {w : World} (h : K a w) : wpPre P ops S K [] a w := by unfold wpPre; exact h
theorem wpPre_q {K0 : Act → World → Prop} {i : Nat} {r : List Nat} {o : Oper} {a : Act} {w : World} (ho : opAt ops i = some o) (hw : Region.wanted o (yielded ops a.tmps) = true)
  (h : ∀ K : Act → World → Prop, (∀ a' w', wpPre P ops S K0 r a' w' → K a' w') → ∃ v, (∀ w', S w' → (execOp a.eval o).run P w' = .ok (.value v) w') ∧ K (a.put o.dst v) w) :
  wpPre P ops S K0 (i :: r) a w := by
 unfold wpPre
 rw [ho]
 simp only
 rw [if_pos hw]
 exact h _ (fun _ _ h => h)
/-- THE REGION: what reads comes first ('l'), 'T' is the tail; the rest by an invariant J -/
theorem wp_region_rest {id : Nat} {a : Act} {w : World} (l : List Nat) (T : List Nat) (J : Array Bool → Act → World → Prop) (hm : P.follows .mixedOrders = true) (hs : Region.noSelect ops = true)
  (hB : (preB .any ops T l (Array.replicate ops.size false) && decide (l.length ≤ ops.size)) = true) (hd : decide (due (restOf l (Array.replicate ops.size false)) ≤ ops.size - l.length) = true)
  (hQ : ∀ d v c a w, Q (.panic c) (a.put d v) w → Q (.panic c) a w) (hS : S w.drew)
  (hstep : ∀ listed a w i o, J listed a w → ops[i]? = some o → listed.getD i true = false → (∀ e ∈ o.after, Region.binds .any e = true → listed.getD e.on false = true) →
   wpOp P ops Q i (fun a' w' => (hasT T i = false → S w') ∧ J (listed.setIfInBounds i true) a' w') a w)
  (hend : ∀ listed a w, J listed a w → Region.ready .any ops listed = [] → Q .normal a w)
  (h : wpPre P ops S (J (restOf l (Array.replicate ops.size false))) l a w.drew) : (Code.region id ops true).wp P Q a w := by
 simp only [Bool.and_eq_true, decide_eq_true_eq] at hB hd
 have hc : Closed .any ops (Array.replicate ops.size false) := fun k o _ hk => by
  exfalso
  rcases Nat.lt_or_ge k ops.size with h' | h'
  · simp [h'] at hk
  · simp [Nat.not_lt.2 h'] at hk
 refine wp_region_any hm (wpAny_of_X (S := S) (tl := hasT T) _ _ _ _ ?_)
 have := wpPre_any (md := .any) (Q := Q) hs hQ T (ops.size - l.length) _ l _ a w.drew hB.1 hc hS (fun a' hJ => wpAnyX_inv J hstep hend _ _ a' w.drew hd hJ) h
 rwa [show ops.size - l.length + l.length = ops.size by omega] at this
end
theorem getD_set_ne {l : Array Bool} {i j : Nat} (h : i ≠ j) : (l.setIfInBounds i true).getD j false = l.getD j false := by
 simp [Array.getD_eq_getD_getElem?, h]
theorem getD_set_eq {l : Array Bool} {i : Nat} (h : i < l.size) : (l.setIfInBounds i true).getD i false = true := by
 simp [Array.getD_eq_getD_getElem?, h]
theorem getD_tf {l : Array Bool} {i : Nat} (h : l.getD i true = false) : l.getD i false = false := by
 rw [Array.getD_eq_getD_getElem?] at h ⊢
 cases e : l[i]? <;> rw [e] at h <;> simp_all
theorem getD_ft {l : Array Bool} {i : Nat} (hi : i < l.size) (h : l.getD i false = false) : l.getD i true = false := by
 rw [Array.getD_eq_getD_getElem?] at h ⊢
 rw [Array.getElem?_eq_getElem hi] at h ⊢
 exact h
theorem wpOp_yes {P : Program} {ops : Array Oper} {Q : Exit → Act → World → Prop} {i : Nat} {o : Oper} {K : Act → World → Prop} {a : Act} {w : World} (ho : opAt ops i = some o) (hw : Region.wanted o (yielded ops a.tmps) = true)
  (h : ∀ K' : Act → World → Prop, Hid (∀ a w, K a w → K' a w) → Oper.wp P o a w K' Q) : wpOp P ops Q i K a w := by
 have := h K (Lib.hid fun _ _ h => h)
 rw [opAt_eq] at ho
 unfold wpOp
 rw [ho]
 simp only
 rw [if_pos hw]
 exact .inl this
end Go.Proofs.YtaihkpjbnkgmlaaGreat

/- The least and the greatest of some rational numbers. No function of the program in sight. -/
namespace Go.Proofs.YtaihkpjbnkgmlaaGreat

def leastQ (p : Rat) (l : List Rat) : Rat := l.foldl (fun m x => if x < m then x else m) p
def greatQ (p : Rat) (l : List Rat) : Rat := l.foldl (fun m x => if m < x then x else m) p
end Go.Proofs.YtaihkpjbnkgmlaaGreat
