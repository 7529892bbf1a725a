/- A statement whose order is open, walked once: what only reads is taken as soon as it may come up; what is left comes up one by one. No function of the program in sight. -/
import Derived.Test.YtmlldjcbijoheaaKs6
import Derived.Deep.LoopGhost
import Derived.Test.YtmlldjcbijoheaaKs1
import Derived.OrdersHeld
import Derived.Deep.RegionWith

/- Walk: whether a string is a name, by the reference. -/
namespace Go.Proofs.Ytmlldjcbijoheaa
open Go.RowKit

theorem keyB_take {s : ByteArray} {k : Nat} {x : ByteArray} (h : keywords[k]? = some x) : ((keywords.take (k + 1)).any fun k => decide (s = k)) = (((keywords.take k).any fun k => decide (s = k)) || decide (s = x)) := by
  rw [take_more h, List.any_append]; simp
theorem keyB_mem {s x : ByteArray} {k : Nat} (h : keywords[k]? = some x) (e : s = x) : keyB s = true := by
  unfold keyB
  rw [List.any_eq_true]
  exact ⟨x, List.mem_of_getElem? h, by simp [e]⟩

set_option maxHeartbeats 1000000 in
theorem isName15_any (s : ByteArray) (w : World) (hs : s.size ≤ 9223372036854775807) :
    Calls Try.prog 72 #[.string s] w fun e w' => e = .returned (.bool (isNameB s)) ∧ Below w.heap.size w w' := by
  obtain ⟨r, hr⟩ : ∃ r, isNameB s = r := ⟨_, rfl⟩
  rw [hr]
  have HR := Lib.hid hr
  clear hr
  by_cases h0 : s.size = 0
  · have e := size_zero.1 h0
    subst e
    have hr : r = false := by rw [← HR.out]; exact isNameB_empty
    subst hr
    clear h0 hs
    go_enter Try.func72, Try.ntmps72
    go_wp2
    go_ret
    exact ⟨rfl, Below.refl _ _⟩
  · have hse : s.toList.isEmpty = false := by rw [str_isEmpty]; simp; exact fun e => h0 (size_zero.2 e)
    have hse2 : s.toList ≠ [] := by intro e; rw [e] at hse; cases hse
    have H0 := Lib.hid h0
    clear h0
    by_cases h20 : s.size ≤ 20
    · have hp : 0 < s.size := by have := H0.out; omega
      have CL := letter15_any ((s[0]'hp).toNat : Nat) w (by omega) (by have := (s[0]'hp).toNat_lt; omega)
      rw [← headB_cons hp] at CL
      obtain ⟨b, hb⟩ : ∃ b, headB s = b := ⟨_, rfl⟩
      rw [hb] at CL
      replace CL := Lib.hid CL
      have HB := Lib.hid hb
      clear hb
      cases b
      · have hr : r = false := by rw [← HR.out]; simp [isNameB, HB.out]
        subst hr
        go_enter Try.func72, Try.ntmps72
        go_wp2_with (go_at_call 104; refine CL.out.mono ?_; rintro e w' ⟨rfl, rfl⟩)
        go_ret
        exact ⟨rfl, Below.refl _ _⟩
      · go_enter Try.func72, Try.ntmps72
        go_wp2_with (go_at_call 104; refine CL.out.mono ?_; rintro e w' ⟨rfl, rfl⟩)
        have hi0 := World.iter_heap w s 0
        have hb0 : Below w.heap.size w (w.iter s 0) := (Below.refl _ w).alloc (Nat.le_refl _) _
        revert hi0 hb0
        generalize w.iter s 0 = w0
        intro hi0 hb0
        clear CL
        go_loopg [3] s.size (fun g _ wr => ∃ pos : Nat, pos + g = s.size ∧ Itr wr w.heap.size s pos ∧ Below w.heap.size w wr ∧ (s.data.toList.take pos).all wordB = true)
        case atStart => exact ⟨0, by omega, hi0, hb0, rfl⟩
        case round =>
          obtain ⟨pos, hpos, hi, hb, hall⟩ := hrel
          clear hi0 hb0
          have HA := Lib.hid hall
          have HP := Lib.hid hpos
          have hsz := hi.lt
          clear hall
          by_cases hlt : pos < s.size
          · obtain ⟨rr, n, hnx, hn1⟩ := run_next_any (P := Try.prog) wr w.heap.size s pos hi hlt
            have CL := fun W => letter15_any ((s[pos]'hlt).toNat : Nat) W (by omega) (by have := (s[pos]'hlt).toNat_lt; omega)
            have CD := fun W => digit15_any ((s[pos]'hlt).toNat : Nat) W (by omega) (by have := (s[pos]'hlt).toNat_lt; omega)
            have hw : wordB (s[pos]'hlt) = (letB ((s[pos]'hlt).toNat : Nat) || digB ((s[pos]'hlt).toNat : Nat)) := rfl
            have hasc : wordB (s[pos]'hlt) = true → (s[pos]'hlt).toNat < 128 := by
              intro h
              simp only [wordB, letB, digB, Bool.or_eq_true, decide_eq_true_eq] at h
              omega
            have hgl := get_list hlt
            have hnot : wordB (s[pos]'hlt) = false → isNameB s = false := by
              intro h
              have : s.data.toList.all wordB = false := by
                rw [List.all_eq_false]
                exact ⟨_, List.mem_of_getElem? hgl, by simp [h]⟩
              simp [isNameB, this]
            obtain ⟨bl, hbl⟩ : ∃ b, letB ((s[pos]'hlt).toNat : Nat) = b := ⟨_, rfl⟩
            obtain ⟨bd, hbd⟩ : ∃ b, digB ((s[pos]'hlt).toNat : Nat) = b := ⟨_, rfl⟩
            rw [hbl, hbd] at hw
            rw [hbl] at CL
            rw [hbd] at CD
            have HW := Lib.hid hw
            have HN1 := Lib.hid hn1
            have HASC := Lib.hid hasc
            have HNOT := Lib.hid hnot
            have HGL := Lib.hid hgl
            replace CL := Lib.hid CL
            replace CD := Lib.hid CD
            have hnb : Below w.heap.size w (setItr wr w.heap.size s (pos + n)) := below_setItr hb (Nat.le_refl _) _ _
            have hni : Itr (setItr wr w.heap.size s (pos + n)) w.heap.size s (pos + n) := hi.set _
            clear hw hn1 hasc hnot hgl hbl hbd hi hb hpos
            revert hnb hni hnx
            generalize setItr wr w.heap.size s (pos + n) = w2
            intro hnx hnb hni
            cases bl
            · cases bd
              · have hr : r = false := by rw [← HR.out]; exact HNOT.out HW.out
                subst hr
                go_wp2_with (first | (go_at_call 104; refine (CL.out _).mono ?_; rintro e w' ⟨rfl, rfl⟩) | (go_at_call 105; refine (CD.out _).mono ?_; rintro e w' ⟨rfl, rfl⟩))
                go_ret
                exact ⟨rfl, hnb⟩
              · go_wp2_with (first | (go_at_call 104; refine (CL.out _).mono ?_; rintro e w' ⟨rfl, rfl⟩) | (go_at_call 105; refine (CD.out _).mono ?_; rintro e w' ⟨rfl, rfl⟩))
                have e1 := HN1.out (HASC.out HW.out)
                subst e1
                go_roundg (gk - 1)
                case rel => exact ⟨pos + 1, by have := HP.out; omega, hni, hnb, by rw [take_more HGL.out, List.all_append, HA.out]; simp [HW.out]⟩
                case measure => have := HP.out; omega
            · go_wp2_with (first | (go_at_call 104; refine (CL.out _).mono ?_; rintro e w' ⟨rfl, rfl⟩) | (go_at_call 105; refine (CD.out _).mono ?_; rintro e w' ⟨rfl, rfl⟩))
              have hwt : wordB (s[pos]'hlt) = true := by rw [HW.out]; rfl
              have e1 := HN1.out (HASC.out hwt)
              subst e1
              go_roundg (gk - 1)
              case rel => exact ⟨pos + 1, by have := HP.out; omega, hni, hnb, by rw [take_more HGL.out, List.all_append, HA.out]; simp [hwt]⟩
              case measure => have := HP.out; omega
          · obtain ⟨wo, rfl⟩ : ∃ wo : World, wo = wr := ⟨_, rfl⟩
            have hnx := fun ty => run_next_stop (P := Try.prog) wo w.heap.size s pos ty hi hlt
            have hall : s.data.toList.all wordB = true := by
              have := HA.out
              rwa [List.take_of_length_le (by simp; omega)] at this
            have HALL := Lib.hid hall
            have HK : r = !keyB s := by rw [← HR.out]; simp [isNameB, HB.out, hall, h20]
            replace HK := Lib.hid HK
            have hk0 := Blk.new wo 9 (keywords.map Value.string).toArray
            have hkb : Below w.heap.size w (wo.alloc (.cells (keywords.map Value.string).toArray 9)) := hb.alloc hb.size _
            have CK := keywords15_any wo
            replace CK := Lib.hid CK
            clear hall hi hpos HA
            go_wp2_with (go_at_call 106; refine CK.out.mono ?_; rintro e w' ⟨rfl, rfl⟩)
            revert hk0 hkb
            generalize wo.alloc (.cells (keywords.map Value.string).toArray 9) = w3
            intro hk0 hkb
            clear CK
            go_loopg [5, 38] 29 (fun g _ i wv => ∃ k : Nat, k + g = 29 ∧ i = .int .i64 k ∧ Blk wv wo.heap.size 9 (keywords.map Value.string).toArray ∧ Below w.heap.size w wv ∧ ((keywords.take k).any fun k => decide (s = k)) = false)
            case atStart => exact ⟨0, by omega, rfl, hk0, hkb, rfl⟩
            case round =>
              obtain ⟨k, hkg, rfl, hk, hbv, hno⟩ := hrel
              have HNO := Lib.hid hno
              have HKG := Lib.hid hkg
              have HKB := Lib.hid hk
              have hsz3 := hk.lt
              clear hk0 hkb hno hkg hk
              by_cases hlt2 : k < 29
              · obtain ⟨x, hx⟩ := get_of_lt (xs := keywords) (k := k) (by rw [keywords_len]; exact hlt2)
                have hc : wr.cell? ⟨wo.heap.size, k, none⟩ = some (.string x) := by rw [HKB.out.cell]; simp [hx]
                have HX := Lib.hid hx
                clear hx
                by_cases he : s = x
                · have hbe : (s.toList == x.toList) = true := by rw [str_beq]; simpa using he
                  have HE := Lib.hid he
                  clear he
                  go_wp2
                  go_ret
                  exact ⟨ret_bool (by rw [HK.out, keyB_mem HX.out HE.out]; rfl), hbv⟩
                · have hbe : (s.toList == x.toList) = false := by rw [str_beq]; simpa using he
                  have HE := Lib.hid he
                  clear he
                  go_wp2
                  go_roundg (gk - 1)
                  case rel => exact ⟨k + 1, by have := HKG.out; omega, by go_num, HKB.out, hbv, by rw [keyB_take HX.out, HNO.out]; simp [HE.out]⟩
                  case measure => have := HKG.out; omega
              · go_wp2
                go_ret
                refine ⟨ret_bool ?_, hbv⟩
                have := HNO.out
                rw [List.take_of_length_le (by rw [keywords_len]; omega)] at this
                rw [HK.out, keyB, this]; rfl
    · have hr : r = false := by rw [← HR.out]; simp [isNameB]; omega
      subst hr
      go_enter Try.func72, Try.ntmps72
      go_wp2
      go_ret
      exact ⟨rfl, Below.refl _ _⟩
end Go.Proofs.Ytmlldjcbijoheaa

/- A statement whose order is open, walked once: what only reads is taken as soon as it may come up; what is left comes up one by one. No function of the program in sight. -/
namespace Go.Proofs.Ytmlldjcbijoheaa
open Go.RowKit

section
variable {P : Program} {ops : Array Oper} {Q : Exit → Act → World → Prop} {md : Region.Mode} {S : World → Prop}

/-- what has come up holds, with each operation, all that it waits for -/
def Closed (md : Region.Mode) (ops : Array Oper) (listed : Array Bool) : Prop :=
  ∀ k o, ops[k]? = some o → listed.getD k false = true → ∀ e ∈ o.after, Region.binds md e = true → listed.getD e.on false = true
theorem Closed.set_ {listed : Array Bool} {j : Nat} (h : Closed md ops listed) (hj : j ∈ Region.ready md ops listed) : Closed md ops (listed.setIfInBounds j true) := by
  intro k o ho hk e he hb
  obtain ⟨_, oj, hoj, hall⟩ := mem_ready.1 hj
  by_cases hkj : j = k
  · subst hkj
    rw [hoj] at ho
    injection ho with ho
    subst ho
    exact getD_set_true (hall e he hb)
  · rw [getD_set_ne false hkj] at hk
    exact getD_set_true (h k o ho hk e he hb)
/-- does operation j wait for i, over at most so many others? -/
def dep (md : Region.Mode) (ops : Array Oper) : Nat → Nat → Nat → Bool
  | 0, _, _ => false
  | n + 1, j, i => match ops[j]? with
    | none => false
    | some o => o.after.any fun e => Region.binds md e && (e.on == i || dep md ops n e.on i)
theorem dep_listed {listed : Array Bool} (h : Closed md ops listed) : ∀ (n j i : Nat) (oj : Oper), ops[j]? = some oj → dep md ops n j i = true →
    (∀ e ∈ oj.after, Region.binds md e = true → listed.getD e.on false = true) → listed.getD i false = true
  | 0, _, _, _, _, hd, _ => by simp [dep] at hd
  | n + 1, j, i, oj, hoj, hd, hall => by
    simp only [dep, hoj] at hd
    obtain ⟨e, he, hb⟩ := Array.any_eq_true'.1 hd
    simp only [Bool.and_eq_true, Bool.or_eq_true, beq_iff_eq] at hb
    rcases hb.2 with h1 | h1
    · rw [← h1]; exact hall e he hb.1
    · have hl := hall e he hb.1
      cases ho : ops[e.on]? with
      | none =>
        cases n with
        | zero => simp [dep] at h1
        | succ n => simp [dep, ho] at h1
      | some oe => exact dep_listed h n e.on i oe ho h1 (fun e' he' hb' => h e.on oe ho hl e' he' hb')

/-- whatever order is picked from here on; behind each operation that is not of the tail S holds -/
def wpAnyX (P : Program) (md : Region.Mode) (ops : Array Oper) (Q : Exit → Act → World → Prop) (S : World → Prop) (tl : Nat → Bool) : Nat → Array Bool → Act → World → Prop
  | 0, listed, a, w => Region.ready md ops listed = [] ∧ Q .normal a w
  | fuel + 1, listed, a, w =>
    (Region.ready md ops listed = [] → Q .normal a w) ∧
    ∀ i ∈ Region.ready md ops listed, wpOp P ops Q i (fun a' w' => (tl i = false → S w') ∧ wpAnyX P md ops Q S tl fuel (listed.setIfInBounds i true) a' w') a w
theorem wpAny_of_X {tl : Nat → Bool} : ∀ (fuel : Nat) (listed : Array Bool) (a : Act) (w : World), wpAnyX P md ops Q S tl fuel listed a w → wpAny P md ops Q fuel listed a w
  | 0, _, _, _, h => h
  | fuel + 1, _, _, _, h => ⟨h.1, fun i hi => wpOp_mono (fun a' w' h' => wpAny_of_X fuel _ a' w' h'.2) (h.2 i hi)⟩

theorem wpAnyX_first {tl : Nat → Bool} {i : Nat} {oi : Oper} {v : Value} (hi : ops[i]? = some oi) (hti : tl i = false) (hsel : ∀ (j : Nat) (o : Oper) cs b, ops[j]? = some o → o.op ≠ .select cs b)
    (hQ : ∀ c a w, Q (.panic c) (a.put oi.dst v) w → Q (.panic c) a w) :
    ∀ (fuel : Nat) (listed : Array Bool) (a : Act) (w : World),
      (∀ j oj, ops[j]? = some oj → j ≠ i → listed.getD j true = false → (∀ e ∈ oj.after, Region.binds md e = true → e.on ≠ i) → oi.apart ops oj = true) →
      (∀ j, tl j = true → dep md ops ops.size j i = true) → Closed md ops listed →
      i ∈ Region.ready md ops listed → YieldsIf P ops S oi v a → S w →
      wpAnyX P md ops Q S tl fuel (listed.setIfInBounds i true) (a.put oi.dst v) w → wpAnyX P md ops Q S tl (fuel + 1) listed a w := by
  intro fuel
  induction fuel with
  | zero =>
    intro listed a w _ _ _ hr hy hS H
    refine ⟨fun h => (by rw [h] at hr; cases hr), fun j hj => ?_⟩
    by_cases hji : j = i
    · subst hji; exact hy.wpOp hi hS ⟨fun _ => hS, H⟩
    · have := ready_mono hj hji
      rw [H.1] at this
      cases this
  | succ fuel ih =>
    intro listed a w hfree htl hcl hr hy hS H
    refine ⟨fun h => (by rw [h] at hr; cases hr), fun j hj => ?_⟩
    by_cases hji : j = i
    · subst hji; exact hy.wpOp hi hS ⟨fun _ => hS, H⟩
    · have h1 := H.2 j (ready_mono hj hji)
      obtain ⟨hjun, oj, hoj, hall⟩ := mem_ready.1 hj
      have hiun := (mem_ready.1 hr).1
      have hnl : listed.getD i false = false := by
        rcases Nat.lt_or_ge i listed.size with h' | h'
        · simp [h'] at hiun ⊢; exact hiun
        · simp [Array.getElem?_eq_none h']
      have htj : tl j = false := by
        cases htj : tl j with
        | false => rfl
        | true =>
          have := dep_listed hcl ops.size j i oj hoj (htl j htj) hall
          rw [hnl] at this; cases this
      have hnot : ∀ e ∈ oj.after, Region.binds md e = true → e.on ≠ i := fun e he hb heq => by
        have h1 := hall e he hb
        rw [heq, hnl] at h1; cases h1
      have h2 := wpOp_putIf hoj (hfree j oj hoj hji hjun hnot) (fun cs b => hsel i oi cs b hi) (fun cs b => hsel j oj cs b hoj) hQ hy h1
      have hfree' : ∀ k ok, ops[k]? = some ok → k ≠ i → (listed.setIfInBounds j true).getD k true = false →
          (∀ e ∈ ok.after, Region.binds md e = true → e.on ≠ i) → oi.apart ops ok = true := fun k ok hk hki hun hno => by
        refine hfree k ok hk hki ?_ hno
        by_cases hjk : j = k
        · subst hjk; exact hjun
        · rw [getD_set_ne true hjk] at hun; exact hun
      refine wpOp_mono (fun a' w' h3 => ⟨h3.2.1, ih (listed.setIfInBounds j true) a' w' hfree' htl (hcl.set_ hj) (ready_mono hr (Ne.symm hji)) h3.1 (h3.2.1 htj) ?_⟩) h2
      rw [Array.setIfInBounds_comm _ _ hji]
      exact h3.2.2

/-- the same for an operation that yields in whatever world: nothing is asked of the tail -/
theorem wpAnyX_pure {tl : Nat → Bool} {i : Nat} {oi : Oper} {v : Value} (hi : ops[i]? = some oi) (hti : tl i = true) (hsel : ∀ (j : Nat) (o : Oper) cs b, ops[j]? = some o → o.op ≠ .select cs b)
    (hQ : ∀ c a w, Q (.panic c) (a.put oi.dst v) w → Q (.panic c) a w) :
    ∀ (fuel : Nat) (listed : Array Bool) (a : Act) (w : World),
      (∀ j oj, ops[j]? = some oj → j ≠ i → listed.getD j true = false → (∀ e ∈ oj.after, Region.binds md e = true → e.on ≠ i) → oi.apart ops oj = true) →
      i ∈ Region.ready md ops listed → Yields P ops oi v a →
      wpAnyX P md ops Q S tl fuel (listed.setIfInBounds i true) (a.put oi.dst v) w → wpAnyX P md ops Q S tl (fuel + 1) listed a w := by
  intro fuel
  induction fuel with
  | zero =>
    intro listed a w _ hr hy H
    refine ⟨fun h => (by rw [h] at hr; cases hr), fun j hj => ?_⟩
    by_cases hji : j = i
    · subst hji; exact hy.wpOp hi ⟨(fun h => by rw [hti] at h; cases h), H⟩
    · have := ready_mono hj hji
      rw [H.1] at this
      cases this
  | succ fuel ih =>
    intro listed a w hfree hr hy H
    refine ⟨fun h => (by rw [h] at hr; cases hr), fun j hj => ?_⟩
    by_cases hji : j = i
    · subst hji; exact hy.wpOp hi ⟨(fun h => by rw [hti] at h; cases h), H⟩
    · have h1 := H.2 j (ready_mono hj hji)
      obtain ⟨hjun, oj, hoj, hall⟩ := mem_ready.1 hj
      have hiun := (mem_ready.1 hr).1
      have hnl : listed.getD i false = false := by
        rcases Nat.lt_or_ge i listed.size with h' | h'
        · simp [h'] at hiun ⊢; exact hiun
        · simp [Array.getElem?_eq_none h']
      have hnot : ∀ e ∈ oj.after, Region.binds md e = true → e.on ≠ i := fun e he hb heq => by
        have h1 := hall e he hb
        rw [heq, hnl] at h1; cases h1
      have h2 := wpOp_put hoj (hfree j oj hoj hji hjun hnot) (fun cs b => hsel i oi cs b hi) (fun cs b => hsel j oj cs b hoj) hQ hy h1
      have hfree' : ∀ k ok, ops[k]? = some ok → k ≠ i → (listed.setIfInBounds j true).getD k true = false →
          (∀ e ∈ ok.after, Region.binds md e = true → e.on ≠ i) → oi.apart ops ok = true := fun k ok hk hki hun hno => by
        refine hfree k ok hk hki ?_ hno
        by_cases hjk : j = k
        · subst hjk; exact hjun
        · rw [getD_set_ne true hjk] at hun; exact hun
      refine wpOp_mono (fun a' w' h3 => ⟨h3.2.1, ih (listed.setIfInBounds j true) a' w' hfree' (ready_mono hr (Ne.symm hji)) h3.1 ?_⟩) h2
      rw [Array.setIfInBounds_comm _ _ hji]
      exact h3.2.2

/-- how an operation is taken: read while S holds · any other while S holds · any other of the tail, where S is asked no more · of the tail, and the same in whatever world -/
inductive Mode4 where
  | q | l | t | p
  deriving DecidableEq

def Mode4.tail : Mode4 → Bool
  | .t => true
  | .p => true
  | _ => false
/-- which numbers are of the tail -/
def tailOf (l : List (Nat × Mode4)) (i : Nat) : Bool := l.any fun x => x.1 == i && x.2.tail

/-- may the operations come up in this order? -/
def mixB (md : Region.Mode) (ops : Array Oper) : List (Nat × Mode4) → Array Bool → Bool
  | [], listed => (Region.ready md ops listed).isEmpty
  | (i, .q) :: r, listed => Region.free md ops listed i && ((Region.ready md ops listed).contains i && mixB md ops r (listed.setIfInBounds i true))
  | (i, .p) :: r, listed => Region.free md ops listed i && ((Region.ready md ops listed).contains i && mixB md ops r (listed.setIfInBounds i true))
  | (i, _) :: r, listed => (Region.ready md ops listed == [i]) && mixB md ops r (listed.setIfInBounds i true)
/-- no number twice; what reads comes ahead of the tail; what is of the tail waits for all that reads -/
def orderB (md : Region.Mode) (ops : Array Oper) (l : List (Nat × Mode4)) : Bool :=
  decide (l.map (·.1)).Nodup && l.all (fun x => match x.2 with
    | .q => l.all fun y => !y.2.tail || dep md ops ops.size y.1 x.1
    | _ => true)
/-- behind the first of the tail nothing reads any more -/
def lateB : List (Nat × Mode4) → Bool → Bool
  | [], _ => true
  | (_, m) :: r, late => (!(late && (m == .q || m == .l))) && lateB r (late || m.tail)

/-- an operation by its number, so that it is read off the list as it is written -/
def opAt (ops : Array Oper) (i : Nat) : Option Oper := (ops.toList.drop i).head?
theorem opAt_eq (ops : Array Oper) (i : Nat) : opAt ops i = ops[i]? := by simp [opAt]
/-- the walk in that order -/
def wpMix (P : Program) (ops : Array Oper) (Q : Exit → Act → World → Prop) (S : World → Prop) : List (Nat × Mode4) → Act → World → Prop
  | [], a, w => Q .normal a w
  | (i, m) :: r, a, w => match opAt ops i with
    | none => False
    | some o => if Region.wanted o (yielded ops a.tmps) = true then
        (match m with
          | .q => ∃ v, (∀ w', S w' → (execOp a.eval o).run P w' = .ok (.value v) w') ∧ wpMix P ops Q S r (a.put o.dst v) w
          | .p => ∃ v, (∀ w', (execOp a.eval o).run P w' = .ok (.value v) w') ∧ wpMix P ops Q S r (a.put o.dst v) w
          | .l => o.wp P a w (fun a' w' => S w' ∧ wpMix P ops Q S r a' w') Q
          | .t => o.wp P a w (fun a' w' => wpMix P ops Q S r a' w') Q)
      else wpMix P ops Q S r (a.put o.dst undef) w

theorem nodup_snd {l : List (Nat × Mode4)} : ∀ {i : Nat} {m m' : Mode4}, (l.map (·.1)).Nodup → (i, m) ∈ l → (i, m') ∈ l → m = m' := by
  induction l with
  | nil => intro i m m' _ h; cases h
  | cons y l ih =>
    intro i m m' hn h h'
    simp only [List.map_cons, List.nodup_cons] at hn
    rcases List.mem_cons.1 h with h1 | h1 <;> rcases List.mem_cons.1 h' with h2 | h2
    · rw [← h1] at h2; injection h2 with _ e; exact e.symm
    · subst h1; exact absurd (List.mem_map.2 ⟨_, h2, rfl⟩) hn.1
    · subst h2; exact absurd (List.mem_map.2 ⟨_, h1, rfl⟩) hn.1
    · exact ih hn.2 h1 h2
theorem tailOf_mem {l : List (Nat × Mode4)} {i : Nat} {m : Mode4} (hn : (l.map (·.1)).Nodup) (h : (i, m) ∈ l) : tailOf l i = m.tail := by
  unfold tailOf
  rw [Bool.eq_iff_iff, List.any_eq_true]
  constructor
  · rintro ⟨⟨j, m'⟩, hj, hb⟩
    simp only [Bool.and_eq_true, beq_iff_eq] at hb
    obtain ⟨rfl, hb⟩ := hb
    have : m' = m := nodup_snd hn hj h
    rw [← this]; exact hb
  · intro hb
    exact ⟨(i, m), h, by simp [hb]⟩
theorem mem_of_tail {l : List (Nat × Mode4)} {j : Nat} (h : tailOf l j = true) : ∃ m, (j, m) ∈ l ∧ m.tail = true := by
  unfold tailOf at h
  obtain ⟨⟨i, m⟩, hm, hb⟩ := List.any_eq_true.1 h
  simp only [Bool.and_eq_true, beq_iff_eq] at hb
  obtain ⟨rfl, hb⟩ := hb
  exact ⟨m, hm, hb⟩

theorem wpMix_any (hs : Region.noSelect ops = true) (hQ : ∀ d v c a w, Q (.panic c) (a.put d v) w → Q (.panic c) a w) (L : List (Nat × Mode4)) (hL : orderB md ops L = true) :
    ∀ (l : List (Nat × Mode4)) (listed : Array Bool) (a : Act) (w : World) (late : Bool), (∀ x ∈ l, x ∈ L) → mixB md ops l listed = true → lateB l late = true → Closed md ops listed → (late = false → S w) → wpMix P ops Q S l a w →
      wpAnyX P md ops Q S (tailOf L) l.length listed a w
  | [], listed, a, w, _, _, hB, _, _, _, h => by
    unfold wpAnyX
    exact ⟨by simpa [mixB] using hB, h⟩
  | (i, m) :: r, listed, a, w, late, hsub, hB, hlate, hcl, hS, h => by
    have hL' := hL
    simp only [orderB, Bool.and_eq_true, decide_eq_true_eq, List.all_eq_true] at hL'
    have hti := tailOf_mem hL'.1 (hsub (i, m) (by simp))
    have hsub' : ∀ x ∈ r, x ∈ L := fun x hx => hsub x (by simp [hx])
    simp only [lateB, Bool.and_eq_true] at hlate
    unfold wpMix at h
    rw [opAt_eq] at h
    cases ho : ops[i]? with
    | none => rw [ho] at h; exact h.elim
    | some o =>
      rw [ho] at h
      simp only at h
      cases m with
      | q =>
        simp only [mixB, Bool.and_eq_true] at hB
        obtain ⟨h1, h2, h3⟩ := hB
        have hnl : late = false := by
          cases late with
          | false => rfl
          | true => simp at hlate
        have h2' : i ∈ Region.ready md ops listed := by simpa using h2
        have htl : ∀ j, tailOf L j = true → dep md ops ops.size j i = true := fun j hj => by
          obtain ⟨mj, hmj, htj⟩ := mem_of_tail hj
          have := hL'.2 (i, .q) (hsub _ (by simp))
          simp only [List.all_eq_true] at this
          have := this (j, mj) hmj
          simpa [htj] using this
        have hlr : lateB r late = true := by simpa [Mode4.tail] using hlate.2
        by_cases hw : Region.wanted o (yielded ops a.tmps) = true
        · rw [if_pos hw] at h
          obtain ⟨v, hv, hn⟩ := h
          exact wpAnyX_first ho hti (Region.noSelect_spec hs) (fun c a w => hQ _ _ c a w) _ _ _ _ (Region.free_spec ho h1) htl hcl h2' (.inl ⟨hw, hv⟩) (hS hnl) (wpMix_any hs hQ L hL r _ _ _ late hsub' h3 hlr (hcl.set_ h2') hS hn)
        · rw [if_neg hw] at h
          exact wpAnyX_first ho hti (Region.noSelect_spec hs) (fun c a w => hQ _ _ c a w) _ _ _ _ (Region.free_spec ho h1) htl hcl h2' (.inr ⟨by simpa using hw, rfl⟩) (hS hnl) (wpMix_any hs hQ L hL r _ _ _ late hsub' h3 hlr (hcl.set_ h2') hS h)
      | p =>
        simp only [mixB, Bool.and_eq_true] at hB
        obtain ⟨h1, h2, h3⟩ := hB
        have h2' : i ∈ Region.ready md ops listed := by simpa using h2
        have hlr : lateB r true = true := by simpa [Mode4.tail] using hlate.2
        by_cases hw : Region.wanted o (yielded ops a.tmps) = true
        · rw [if_pos hw] at h
          obtain ⟨v, hv, hn⟩ := h
          exact wpAnyX_pure ho hti (Region.noSelect_spec hs) (fun c a w => hQ _ _ c a w) _ _ _ _ (Region.free_spec ho h1) h2' (.inl ⟨hw, hv⟩) (wpMix_any hs hQ L hL r _ _ _ true hsub' h3 hlr (hcl.set_ h2') (fun h => by cases h) hn)
        · rw [if_neg hw] at h
          exact wpAnyX_pure ho hti (Region.noSelect_spec hs) (fun c a w => hQ _ _ c a w) _ _ _ _ (Region.free_spec ho h1) h2' (.inr ⟨by simpa using hw, rfl⟩) (wpMix_any hs hQ L hL r _ _ _ true hsub' h3 hlr (hcl.set_ h2') (fun h => by cases h) h)
      | l =>
        simp only [mixB, Bool.and_eq_true, beq_iff_eq] at hB
        obtain ⟨h1, h3⟩ := hB
        have h2' : i ∈ Region.ready md ops listed := by rw [h1]; simp
        have hlr : lateB r late = true := by simpa [Mode4.tail] using hlate.2
        unfold wpAnyX
        refine ⟨(fun h0 => by rw [h1] at h0; cases h0), fun j hj => ?_⟩
        obtain rfl : j = i := by rw [h1] at hj; simpa using hj
        unfold wpOp
        rw [ho]
        simp only
        by_cases hw : Region.wanted o (yielded ops a.tmps) = true
        · rw [if_pos hw] at h ⊢
          exact .inl (Oper.wp_mono (fun a' w' hh => ⟨fun _ => hh.1, wpMix_any hs hQ L hL r _ a' w' late hsub' h3 hlr (hcl.set_ h2') (fun _ => hh.1) hh.2⟩) h)
        · rw [if_neg hw] at h ⊢
          cases late with
          | false => exact ⟨fun _ => hS rfl, wpMix_any hs hQ L hL r _ _ _ false hsub' h3 hlr (hcl.set_ h2') hS h⟩
          | true => simp at hlate
      | t =>
        simp only [mixB, Bool.and_eq_true, beq_iff_eq] at hB
        obtain ⟨h1, h3⟩ := hB
        have h2' : i ∈ Region.ready md ops listed := by rw [h1]; simp
        have hlr : lateB r true = true := by simpa [Mode4.tail] using hlate.2
        unfold wpAnyX
        refine ⟨(fun h0 => by rw [h1] at h0; cases h0), fun j hj => ?_⟩
        obtain rfl : j = i := by rw [h1] at hj; simpa using hj
        unfold wpOp
        rw [ho]
        simp only
        have hno : tailOf L j = false → False := fun h => by rw [hti] at h; cases h
        by_cases hw : Region.wanted o (yielded ops a.tmps) = true
        · rw [if_pos hw] at h ⊢
          exact .inl (Oper.wp_mono (fun a' w' hh => ⟨fun h => (hno h).elim, wpMix_any hs hQ L hL r _ a' w' true hsub' h3 hlr (hcl.set_ h2') (fun h => by cases h) hh⟩) h)
        · rw [if_neg hw] at h ⊢
          exact ⟨fun h => (hno h).elim, wpMix_any hs hQ L hL r _ _ _ true hsub' h3 hlr (hcl.set_ h2') (fun h => by cases h) h⟩

-- a goal with this head is never laid open by the way
attribute [irreducible] wpMix

/-- THE REGION: 'l' is the order; S is what every operation ahead of the tail leaves as it is. -/
theorem wp_region_mix {id : Nat} {a : Act} {w : World} (l : List (Nat × Mode4)) (hm : P.follows .mixedOrders = true) (hs : Region.noSelect ops = true)
    (hB : (l.length == ops.size && (orderB .any ops l && (lateB l false && mixB .any ops l (Array.replicate ops.size false)))) = true)
    (hQ : ∀ d v c a w, Q (.panic c) (a.put d v) w → Q (.panic c) a w) (hS : S w.drew) (h : wpMix P ops Q S l a w.drew) : (Code.region id ops true).wp P Q a w := by
  simp only [Bool.and_eq_true, beq_iff_eq] at hB
  refine wp_region_any hm (wpAny_of_X (S := S) (tl := tailOf l) _ _ _ _ ?_)
  have hc : Closed .any ops (Array.replicate ops.size false) := fun k o _ hk => by
    exfalso
    rcases Nat.lt_or_ge k ops.size with h' | h'
    · simp [h'] at hk
    · simp [Nat.not_lt.2 h'] at hk
  have := wpMix_any (md := .any) hs hQ l hB.2.1 l _ a w.drew false (fun _ h => h) hB.2.2.2 hB.2.2.1 hc (fun _ => hS) h
  rwa [hB.1] at this

theorem wpMix_nil {a : Act} {w : World} (h : Q .normal a w) : wpMix P ops Q S [] a w := by unfold wpMix; exact h
/-- an operation whose guard is not met -/
theorem wpMix_skip {i : Nat} {m : Mode4} {r : List (Nat × Mode4)} {o : Oper} {a : Act} {w : World} (ho : opAt ops i = some o) (hw : Region.wanted o (yielded ops a.tmps) = false)
    (h : ∀ K : Act → World → Prop, (∀ a' w', wpMix P ops Q S r a' w' → K a' w') → K (a.put o.dst undef) w) : wpMix P ops Q S ((i, m) :: r) a w := by
  unfold wpMix
  rw [ho]
  simp only
  rw [if_neg (by simp [hw])]
  exact h _ (fun _ _ h => h)
/-- an operation that only reads -/
theorem wpMix_q {i : Nat} {r : List (Nat × Mode4)} {o : Oper} {a : Act} {w : World} (ho : opAt ops i = some o) (hw : Region.wanted o (yielded ops a.tmps) = true)
    (h : ∀ K : Act → World → Prop, (∀ a' w', wpMix P ops Q S r a' w' → K a' w') → ∃ v, (∀ w', S w' → (execOp a.eval o).run P w' = .ok (.value v) w') ∧ K (a.put o.dst v) w) :
    wpMix P ops Q S ((i, .q) :: r) a w := by
  unfold wpMix
  rw [ho]
  simp only
  rw [if_pos hw]
  exact h _ (fun _ _ h => h)
/-- an operation of the tail that is the same in whatever world -/
theorem wpMix_p {i : Nat} {r : List (Nat × Mode4)} {o : Oper} {a : Act} {w : World} (ho : opAt ops i = some o) (hw : Region.wanted o (yielded ops a.tmps) = true)
    (h : ∀ K : Act → World → Prop, (∀ a' w', wpMix P ops Q S r a' w' → K a' w') → ∃ v, (∀ w', (execOp a.eval o).run P w' = .ok (.value v) w') ∧ K (a.put o.dst v) w) :
    wpMix P ops Q S ((i, .p) :: r) a w := by
  unfold wpMix
  rw [ho]
  simp only
  rw [if_pos hw]
  exact h _ (fun _ _ h => h)
/-- any other operation -/
theorem wpMix_l {i : Nat} {r : List (Nat × Mode4)} {o : Oper} {a : Act} {w : World} (ho : opAt ops i = some o) (hw : Region.wanted o (yielded ops a.tmps) = true)
    (h : ∀ K : Act → World → Prop, Hid (∀ a' w', S w' → (S w' → wpMix P ops Q S r a' w') → K a' w') → o.wp P a w K Q) :
    wpMix P ops Q S ((i, .l) :: r) a w := by
  unfold wpMix
  rw [ho]
  simp only
  rw [if_pos hw]
  exact h _ (fun _ _ h1 h2 => ⟨h1, h2 h1⟩)
/-- any other operation of the tail -/
theorem wpMix_t {i : Nat} {r : List (Nat × Mode4)} {o : Oper} {a : Act} {w : World} (ho : opAt ops i = some o) (hw : Region.wanted o (yielded ops a.tmps) = true)
    (h : ∀ K : Act → World → Prop, Hid (∀ a' w', wpMix P ops Q S r a' w' → K a' w') → o.wp P a w K Q) :
    wpMix P ops Q S ((i, .t) :: r) a w := by
  unfold wpMix
  rw [ho]
  simp only
  rw [if_pos hw]
  exact h _ (fun _ _ h => h)
end

end Go.Proofs.Ytmlldjcbijoheaa
