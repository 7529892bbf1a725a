/- Walks: the program's natural numbers: trim, Norm, Of. -/
import Derived.Test.YtmeplgagpnligaaDoorLx4
import Derived.Test.YtmeplgagpnligaaDoorLx1
import Derived.Test.YtmeplgagpnligaaDoorProg
import Derived.Deep.QuietTactic
import Derived.BigQuiet
import Derived.Deep.OwnRows
import Derived.Laws.CopyOwn

/- Walk: the reference's statements, one a line. -/
namespace Go.Proofs.YtmeplgagpnligaaDoor
open Go.RowKit

def prevS (s : List UInt8) (k : Nat) : Bool := match k with
  | 0 => false
  | j + 1 => ((s[j]?).map (· == 59)).getD false
def linC (p : Bool) (c : UInt8) : List UInt8 := if c == 32 && p then [] else if c == 59 then [59, 10] else [c]
theorem linTo_step (p : Bool) (c : UInt8) (r : List UInt8) : linTo p (c :: r) = linC p c ++ linTo (c == 59) r := by
  unfold linC
  rw [linTo]
  by_cases h : (c == 32 && p) = true
  · rw [if_pos h, if_pos h]
    have hc : c = 32 := by simp at h; exact h.1
    subst hc
    rfl
  · rw [if_neg h, if_neg h]
    by_cases h2 : (c == 59) = true
    · rw [if_pos h2, if_pos h2, h2]
      have hc : c = 59 := by simpa using h2
      subst hc; rfl
    · rw [if_neg h2, if_neg h2]
      have : (c == 59) = false := by simpa using h2
      rw [this]; rfl
theorem linTo_len : ∀ (s : List UInt8) (p : Bool), (linTo p s).length ≤ 2 * s.length
  | [], p => by simp [linTo]
  | c :: r, p => by
    rw [linTo_step, List.length_append]
    have := linTo_len r (c == 59)
    have h2 : (linC p c).length ≤ 2 := by unfold linC; split <;> (try split) <;> simp
    simp; omega
set_option maxHeartbeats 1000000 in
theorem lines_any (l : List UInt8) (hl : l.length ≤ 10000) (w : World) :
    Calls Tryd.prog 21 #[.string (ofL l)] w fun e w' => e = .returned (.string (ofL (linTo false l))) ∧ w = w' := by
  have hsl : (ofL l).size = l.length := ofL_size l
  obtain ⟨R, hR⟩ : ∃ R, linTo false l = R := ⟨_, rfl⟩
  have hRl : R.length ≤ 20000 := by rw [← hR]; have := linTo_len l false; omega
  have HR := Lib.hid hR
  have HSL := Lib.hid hsl
  rw [hR]
  have hb1 : (ofL l).size ≤ 10000 := by omega
  clear hR hsl
  go_enter Tryd.func21, Tryd.ntmps21
  go_wp2
  have e0 : (⟨#[]⟩ : ByteArray) = ofL [] := rfl
  rw [e0]
  clear e0
  go_loopg [3, 4] (ofL l).size (fun g so si wr => ∃ (k : Nat) (o : List UInt8), k + g = (ofL l).size ∧ si = .int .i64 k ∧ so = .string (ofL o) ∧ o ++ linTo (prevS l k) (l.drop k) = R ∧ w = wr)
  case atStart => exact ⟨0, [], by omega, rfl, rfl, HR.out, rfl⟩
  case round =>
    obtain ⟨k, o, hkg, rfl, rfl, ho, rfl⟩ := hrel
    have HKG := Lib.hid hkg
    clear hkg
    by_cases hlt : k < (ofL l).size
    · have hg := get_ofL hlt
      obtain ⟨c, hc⟩ : ∃ c, (ofL l)[k]'hlt = c := ⟨_, rfl⟩
      rw [hc] at hg
      have hx1 := extract_ofL hlt
      rw [hc] at hx1
      have hd : l.drop k = c :: l.drop (k + 1) := by
        have h2 := lt_of_get hg
        rw [List.drop_eq_getElem_cons h2]
        rw [List.getElem?_eq_getElem h2] at hg
        congr 1
      rw [hd, linTo_step] at ho
      have hps : prevS l (k + 1) = (c == 59) := by simp [prevS, hg]
      rw [← hps] at ho
      have hp1 : ∀ h : 0 < k, prevS l k = ((ofL l)[k - 1]'(by omega) == 59) := by
        intro h
        obtain ⟨j, rfl⟩ : ∃ j, k = j + 1 := ⟨k - 1, by omega⟩
        have := get_ofL (l := l) (k := j) (by omega)
        simp [prevS, this]
      obtain ⟨p, hp⟩ : ∃ p, prevS l k = p := ⟨_, rfl⟩
      rw [hp] at hp1 ho
      have hp0 : k = 0 → p = false := by intro h; subst h; rw [← hp]; rfl
      have hol : o.length + (linC p c).length ≤ 20000 := by
        have := congrArg List.length ho
        rw [List.length_append, List.length_append] at this
        omega
      have HO := Lib.hid ho
      have HP1 := Lib.hid hp1; have HP0 := Lib.hid hp0
      have hap : ∀ d, ofL o ++ ofL d = ofL (o ++ d) := fun d => ofL_app _ _
      have HAP := Lib.hid hap
      have hcl := c.toNat_lt
      clear hg hd ho hp hp1 hp0 hap hps
      by_cases h32 : c = 32
      · subst h32
        have hz : (ofL o).size + (ofL [32]).size ≤ 20001 := by rw [ofL_size, ofL_size]; simp; omega
        cases p
        · have HO2 : Hid (o ++ ([32] ++ linTo (prevS l (k + 1)) (l.drop (k + 1))) = R) := Lib.hid HO.out
          by_cases hk0 : k = 0
          · have hk3 : ¬ (0 : Int) < (k : Int) := by omega
            have hk4 : decide (0 < k) = false := by simp; omega
            clear HP0 HP1 HO hol hk0
            go_wp2
            go_roundg (gk - 1)
            case rel => exact ⟨k + 1, o ++ [32], by have := HKG.out; omega, by go_num, by rw [HAP.out], by rw [List.append_assoc]; exact HO2.out, rfl⟩
            case measure => have := HKG.out; omega
          · have e := HP1.out (by omega)
            have hk1 : (0 : Int) ≤ (k : Int) - 1 := by omega
            have hk2 : ((k : Int) - 1).toNat = k - 1 := by omega
            have hk3 : (0 : Int) < (k : Int) := by omega
            have hne : ((((ofL l)[k - 1]'(by omega)).toNat : Int) == 59) = false := by
              rw [beq_eq_false_iff_ne]
              intro h
              have h6 : (ofL l)[k - 1]'(by omega) = 59 := by
                apply UInt8.toNat.inj
                have : ((ofL l)[k - 1]'(by omega)).toNat = 59 := by omega
                rw [this]; rfl
              rw [h6] at e
              cases e
            clear e HP0 HP1 HO hol
            go_wp2
            go_roundg (gk - 1)
            case rel => exact ⟨k + 1, o ++ [32], by have := HKG.out; omega, by go_num, by rw [HAP.out], by rw [List.append_assoc]; exact HO2.out, rfl⟩
            case measure => have := HKG.out; omega
        · have HO2 : Hid (o ++ linTo (prevS l (k + 1)) (l.drop (k + 1)) = R) := Lib.hid HO.out
          have hk0 : 0 < k := by
            rcases Nat.eq_zero_or_pos k with h | h
            · cases HP0.out h
            · exact h
          have e := HP1.out hk0
          have hk1 : (0 : Int) ≤ (k : Int) - 1 := by omega
          have hk2 : ((k : Int) - 1).toNat = k - 1 := by omega
          have hk3 : (0 : Int) < (k : Int) := by omega
          have hne : (((ofL l)[k - 1]'(by omega)).toNat : Int) = 59 := by
            have h6 : (ofL l)[k - 1]'(by omega) = 59 := by simpa using e.symm
            rw [h6]; rfl
          clear e HP0 HP1 HO hol
          go_wp2
          go_roundg (gk - 1)
          case rel => exact ⟨k + 1, o, by have := HKG.out; omega, by go_num, rfl, HO2.out, rfl⟩
          case measure => have := HKG.out; omega
      · have h32b : ((c.toNat : Int) == 32) = false := by
          rw [beq_eq_false_iff_ne]
          intro e
          apply h32
          apply UInt8.toNat.inj
          have : c.toNat = 32 := by omega
          rw [this]; rfl
        by_cases h59 : c = 59
        · subst h59
          have HO2 : Hid (o ++ ([59, 10] ++ linTo (prevS l (k + 1)) (l.drop (k + 1))) = R) := Lib.hid HO.out
          have hol2 : o.length + 2 ≤ 20000 := hol
          have hz : (ofL o).size + (ofL [59]).size ≤ 20000 := by rw [ofL_size, ofL_size]; simp; omega
          have hz2 : (ofL o).size + (ofL [59]).size + 1 ≤ 20000 := by rw [ofL_size, ofL_size]; simp; omega
          have hfin : ofL o ++ ofL [59] ++ ⟨#[10]⟩ = ofL (o ++ [59, 10]) := by
            show ofL o ++ ofL [59] ++ ofL [10] = _
            rw [ofL_app, ofL_app, List.append_assoc]; rfl
          have HF := Lib.hid hfin
          clear HP0 HP1 HO hol hol2 hfin
          go_wp2
          go_roundg (gk - 1)
          case rel => exact ⟨k + 1, o ++ [59, 10], by have := HKG.out; omega, by go_num, by rw [HF.out], by rw [List.append_assoc]; exact HO2.out, rfl⟩
          case measure => have := HKG.out; omega
        · have h59b : ((c.toNat : Int) == 59) = false := by
            rw [beq_eq_false_iff_ne]
            intro e
            apply h59
            apply UInt8.toNat.inj
            have : c.toNat = 59 := by omega
            rw [this]; rfl
          have hlc : linC p c = [c] := by unfold linC; simp [h32, h59]
          rw [hlc] at HO hol
          have hz : (ofL o).size + (ofL [c]).size ≤ 20000 := by rw [ofL_size, ofL_size]; simpa using hol
          clear hlc HP1 HP0 h32 h59 hol
          go_wp2
          go_roundg (gk - 1)
          case rel => exact ⟨k + 1, o ++ [c], by have := HKG.out; omega, by go_num, by rw [HAP.out], by rw [List.append_assoc]; exact HO.out, rfl⟩
          case measure => have := HKG.out; omega
    · obtain rfl : k = (ofL l).size := by have := HKG.out; omega
      have ht : o = R := by rw [← ho, List.drop_eq_nil_of_le (by have := HSL.out; omega), linTo, List.append_nil]
      subst ht
      go_wp2
      go_ret
      exact ⟨rfl, rfl⟩
end Go.Proofs.YtmeplgagpnligaaDoor

/- Natural numbers as lists of limbs: the value of a list, the list of a value. No function of the program in sight. -/
namespace Go.Proofs.YtmeplgagpnligaaDoor

/-- the value of limbs, the least one first -/
def val : List Int → Nat
  | [] => 0
  | x :: l => x.toNat + 65536 * val l
/-- the limbs of a value, without leading zeros -/
def limbs (n : Nat) : List Int := if h : n = 0 then [] else ((n % 65536 : Nat) : Int) :: limbs (n / 65536)
termination_by n
decreasing_by omega
def U16 (l : List Int) : Prop := ∀ x ∈ l, 0 ≤ x ∧ x ≤ 65535

theorem U16.nil : U16 [] := fun _ h => by cases h
theorem U16.cons {x : Int} {l : List Int} (h : 0 ≤ x ∧ x ≤ 65535) (k : U16 l) : U16 (x :: l) := fun y hy => by
  rcases List.mem_cons.1 hy with rfl | hy
  · exact h
  · exact k y hy
theorem U16.head {x : Int} {l : List Int} (h : U16 (x :: l)) : 0 ≤ x ∧ x ≤ 65535 := h x (by simp)
theorem U16.tail {x : Int} {l : List Int} (h : U16 (x :: l)) : U16 l := fun y hy => h y (by simp [hy])
theorem U16.app {l m : List Int} (h : U16 l) (k : U16 m) : U16 (l ++ m) := fun y hy => by
  rcases List.mem_append.1 hy with hy | hy
  · exact h y hy
  · exact k y hy
theorem U16.take {l : List Int} (h : U16 l) (k : Nat) : U16 (l.take k) := fun y hy => h y (List.mem_of_mem_take hy)
theorem U16.drop {l : List Int} (h : U16 l) (k : Nat) : U16 (l.drop k) := fun y hy => h y (List.mem_of_mem_drop hy)
theorem U16.get {l : List Int} (h : U16 l) {k : Nat} {x : Int} (hx : l[k]? = some x) : 0 ≤ x ∧ x ≤ 65535 := h x (List.mem_of_getElem? hx)
theorem U16.set_ {l : List Int} (h : U16 l) {k : Nat} {x : Int} (hx : 0 ≤ x ∧ x ≤ 65535) : U16 (l.set k x) := fun y hy => by
  rcases List.mem_or_eq_of_mem_set hy with hy | rfl
  · exact h y hy
  · exact hx

theorem limbs_zero : limbs 0 = [] := by rw [limbs]; simp
theorem limbs_pos {n : Nat} (h : n ≠ 0) : limbs n = ((n % 65536 : Nat) : Int) :: limbs (n / 65536) := by rw [limbs]; simp [h]
theorem limbs_u16 (n : Nat) : U16 (limbs n) := by
  induction n using Nat.strongRecOn with
  | ind n ih =>
    by_cases h : n = 0
    · subst h; rw [limbs_zero]; exact U16.nil
    · rw [limbs_pos h]; exact U16.cons (by omega) (ih _ (by omega))
theorem val_limbs (n : Nat) : val (limbs n) = n := by
  induction n using Nat.strongRecOn with
  | ind n ih =>
    by_cases h : n = 0
    · subst h; rw [limbs_zero]; rfl
    · rw [limbs_pos h, val, ih _ (by omega)]; omega
theorem val_append (l m : List Int) : val (l ++ m) = val l + 65536 ^ l.length * val m := by
  induction l with
  | nil => simp [val]
  | cons x l ih =>
    simp only [List.cons_append, val, ih, List.length_cons, Nat.pow_succ]
    rw [Nat.mul_add, ← Nat.mul_assoc, Nat.mul_comm 65536 (65536 ^ l.length), Nat.add_assoc]
theorem val_lt {l : List Int} (h : U16 l) : val l < 65536 ^ l.length := by
  induction l with
  | nil => simp [val]
  | cons x l ih =>
    have h1 := ih h.tail
    have h2 := h.head
    simp only [val, List.length_cons, Nat.pow_succ]
    omega
theorem val_snoc (l : List Int) (x : Int) : val (l ++ [x]) = val l + 65536 ^ l.length * x.toNat := by rw [val_append]; simp [val]
theorem val_take {l : List Int} {k : Nat} {x : Int} (h : l[k]? = some x) : val (l.take (k + 1)) = val (l.take k) + 65536 ^ k * x.toNat := by
  rw [take_more h, val_snoc]
  have : (l.take k).length = k := by have := lt_of_get h; simp; omega
  rw [this]
theorem val_drop {l : List Int} {k : Nat} {x : Int} (h : l[k]? = some x) : val (l.drop k) = x.toNat + 65536 * val (l.drop (k + 1)) := by
  have hk := lt_of_get h
  rw [List.drop_eq_getElem_cons hk]
  have : l[k] = x := by rw [List.getElem?_eq_getElem hk] at h; exact Option.some.inj h
  rw [this, val]
theorem val_split (l : List Int) (k : Nat) : val l = val (l.take k) + 65536 ^ (l.take k).length * val (l.drop k) := by
  have := val_append (l.take k) (l.drop k)
  rwa [List.take_append_drop] at this
theorem val_drop_all {l : List Int} {k : Nat} (h : l.length ≤ k) : val (l.drop k) = 0 := by rw [List.drop_eq_nil_of_le h]; rfl
theorem val_take_all {l : List Int} {k : Nat} (h : l.length ≤ k) : val (l.take k) = val l := by rw [List.take_of_length_le h]
/-- what is cut to its first k limbs, the others being zero -/
theorem limbs_canon {l : List Int} (h : U16 l) (hc : ∀ x, l.getLast? = some x → x ≠ 0) : limbs (val l) = l := by
  induction l with
  | nil => exact limbs_zero
  | cons x l ih =>
    have h1 := h.head
    have hv : val (x :: l) = x.toNat + 65536 * val l := rfl
    have hl : limbs (val l) = l := ih h.tail (fun y hy => hc y (by
      cases l with
      | nil => simp at hy
      | cons z l => rw [List.getLast?_cons_cons]; exact hy))
    have hne : val (x :: l) ≠ 0 := by
      intro e
      rw [hv] at e
      cases l with
      | nil => exact hc x (by simp) (by omega)
      | cons z l =>
        have : val (z :: l) = 0 := by omega
        rw [this, limbs_zero] at hl
        cases hl
    rw [limbs_pos hne, hv]
    have e1 : (x.toNat + 65536 * val l) % 65536 = x.toNat := by omega
    have e2 : (x.toNat + 65536 * val l) / 65536 = val l := by omega
    rw [e1, e2, hl]
    congr 1
    omega
theorem limbs_last {n : Nat} {x : Int} (h : (limbs n).getLast? = some x) : x ≠ 0 := by
  induction n using Nat.strongRecOn generalizing x with
  | ind n ih =>
    by_cases h0 : n = 0
    · subst h0; rw [limbs_zero] at h; simp at h
    · rw [limbs_pos h0] at h
      by_cases h1 : n / 65536 = 0
      · rw [h1, limbs_zero] at h
        simp at h
        omega
      · have : limbs (n / 65536) ≠ [] := by rw [limbs_pos h1]; simp
        obtain ⟨y, t, ht⟩ := List.exists_cons_of_ne_nil this
        rw [ht, List.getLast?_cons_cons, ← ht] at h
        exact ih _ (by omega) h
theorem val_inj {l m : List Int} (h : U16 l) (k : U16 m) (hc : ∀ x, l.getLast? = some x → x ≠ 0) (kc : ∀ x, m.getLast? = some x → x ≠ 0) : val l = val m ↔ l = m := by
  constructor
  · intro e; rw [← limbs_canon h hc, ← limbs_canon k kc, e]
  · intro e; rw [e]
theorem limbs_inj {n m : Nat} : limbs n = limbs m ↔ n = m := by
  constructor
  · intro e; rw [← val_limbs n, ← val_limbs m, e]
  · intro e; rw [e]
theorem limbs_nil {n : Nat} : limbs n = [] ↔ n = 0 := by
  rw [← limbs_zero, limbs_inj]
theorem limbs_len_le {n k : Nat} (h : n < 65536 ^ k) : (limbs n).length ≤ k := by
  induction k generalizing n with
  | zero => have : n = 0 := by simpa using h
            subst this; simp [limbs_zero]
  | succ k ih =>
    by_cases h0 : n = 0
    · subst h0; simp [limbs_zero]
    · rw [limbs_pos h0]
      have := ih (n := n / 65536) (by rw [Nat.pow_succ] at h; omega)
      simp only [List.length_cons]
      omega
theorem limbs_len_pos {n : Nat} : 0 < (limbs n).length ↔ 0 < n := by
  constructor
  · intro h
    apply Nat.pos_of_ne_zero
    intro e; subst e; simp [limbs_zero] at h
  · intro h; rw [limbs_pos (by omega)]; simp
theorem lt_pow_limbs (n : Nat) : n < 65536 ^ (limbs n).length := by have := val_lt (limbs_u16 n); rwa [val_limbs] at this
theorem limbs_len_mono {n m : Nat} (h : n ≤ m) : (limbs n).length ≤ (limbs m).length := limbs_len_le (Nat.lt_of_le_of_lt h (lt_pow_limbs m))
theorem limbs_len_val {l : List Int} (h : U16 l) : (limbs (val l)).length ≤ l.length := limbs_len_le (val_lt h)
theorem limbs_len_mul (a b : Nat) : (limbs (a * b)).length ≤ (limbs a).length + (limbs b).length := by
  apply limbs_len_le
  rw [Nat.pow_add]
  exact Nat.mul_lt_mul'' (lt_pow_limbs a) (lt_pow_limbs b)
theorem limbs_len_add (a b : Nat) : (limbs (a + b)).length ≤ max (limbs a).length (limbs b).length + 1 := by
  apply limbs_len_le
  rw [Nat.pow_succ]
  have h1 := lt_pow_limbs a
  have h2 := lt_pow_limbs b
  have h3 : 65536 ^ (limbs a).length ≤ 65536 ^ (max (limbs a).length (limbs b).length) := Nat.pow_le_pow_right (by omega) (by omega)
  have h4 : 65536 ^ (limbs b).length ≤ 65536 ^ (max (limbs a).length (limbs b).length) := Nat.pow_le_pow_right (by omega) (by omega)
  omega
/-- the limbs of a value, its first k limbs being l and the others zero -/
theorem limbs_cut {l : List Int} (h : U16 l) {k : Nat} (hk : val (l.drop k) = 0) (hc : ∀ x, k ≠ 0 → l[k - 1]? = some x → x ≠ 0) (hkl : k ≤ l.length) : limbs (val l) = l.take k := by
  have h1 : val l = val (l.take k) := by rw [val_split l k, hk]; omega
  rw [h1]
  apply limbs_canon (h.take k)
  intro x hx
  by_cases h0 : k = 0
  · subst h0; simp at hx
  · refine hc x h0 ?_
    rw [List.getLast?_eq_getElem?, List.length_take, List.getElem?_take] at hx
    have e : min k l.length = k := by omega
    rw [e, if_pos (by omega)] at hx
    exact hx

/-- Go's order of two numbers -/
def cmpN (a b : Nat) : Int := if a < b then -1 else if b < a then 1 else 0
theorem cmpN_lt {a b : Nat} : cmpN a b < 0 ↔ a < b := by unfold cmpN; split <;> (try split) <;> omega
theorem cmpN_le {a b : Nat} : cmpN a b ≤ 0 ↔ a ≤ b := by unfold cmpN; split <;> (try split) <;> omega
theorem cmpN_ge {a b : Nat} : 0 ≤ cmpN a b ↔ b ≤ a := by unfold cmpN; split <;> (try split) <;> omega
theorem cmpN_zero {a b : Nat} : cmpN a b = 0 ↔ a = b := by unfold cmpN; split <;> (try split) <;> omega
theorem cmpN_in (a b : Nat) : -1 ≤ cmpN a b ∧ cmpN a b ≤ 1 := by unfold cmpN; split <;> (try split) <;> omega

/-- limb k, 0 beyond the end -/
def limbAt (l : List Int) (k : Nat) : Int := (l[k]?).getD 0
theorem limbAt_some {l : List Int} {k : Nat} {x : Int} (h : l[k]? = some x) : limbAt l k = x := by simp [limbAt, h]
theorem limbAt_none {l : List Int} {k : Nat} (h : l.length ≤ k) : limbAt l k = 0 := by simp [limbAt, h]
theorem limbAt_in {l : List Int} (h : U16 l) (k : Nat) : 0 ≤ limbAt l k ∧ limbAt l k ≤ 65535 := by
  unfold limbAt
  cases hx : l[k]? with
  | none => simp
  | some x => exact h.get hx
theorem val_drop_at (l : List Int) (k : Nat) : val (l.drop k) = (limbAt l k).toNat + 65536 * val (l.drop (k + 1)) := by
  cases hx : l[k]? with
  | none =>
    have := List.getElem?_eq_none_iff.1 hx
    rw [limbAt_none this, val_drop_all this, val_drop_all (by omega)]; rfl
  | some x => rw [limbAt_some hx]; exact val_drop hx
theorem val_take_at {l : List Int} (k : Nat) : val (l.take (k + 1)) = val (l.take k) + 65536 ^ k * (limbAt l k).toNat := by
  cases hx : l[k]? with
  | none =>
    have := List.getElem?_eq_none_iff.1 hx
    rw [limbAt_none this, val_take_all this, val_take_all (by omega)]; simp
  | some x => rw [limbAt_some hx]; exact val_take hx
theorem val_split_at {l : List Int} (h : U16 l) (k : Nat) : ∃ lo, lo < 65536 ^ k ∧ val l = lo + 65536 ^ k * val (l.drop k) := by
  refine ⟨val (l.take k), ?_, ?_⟩
  · refine Nat.lt_of_lt_of_le (val_lt (h.take k)) (Nat.pow_le_pow_right (by omega) (by simp; omega))
  · by_cases hk : k ≤ l.length
    · have := val_split l k
      have e : (l.take k).length = k := by simp; omega
      rwa [e] at this
    · rw [val_drop_all (by omega), val_take_all (by omega)]; omega
theorem val_lt_of {a b : List Int} (ha : U16 a) (hb : U16 b) (k : Nat) (he : val (a.drop (k + 1)) = val (b.drop (k + 1))) (h : limbAt a k < limbAt b k) : val a < val b := by
  obtain ⟨p, hp, e1⟩ := val_split_at ha k
  obtain ⟨q, hq, e2⟩ := val_split_at hb k
  rw [val_drop_at] at e1 e2
  rw [e1, e2, he]
  have h1 := limbAt_in ha k
  have h2 : (limbAt a k).toNat + 65536 * val (b.drop (k + 1)) + 1 ≤ (limbAt b k).toNat + 65536 * val (b.drop (k + 1)) := by omega
  have h3 := Nat.mul_le_mul_left (65536 ^ k) h2
  rw [Nat.mul_add _ _ 1] at h3
  omega
end Go.Proofs.YtmeplgagpnligaaDoor

/- Words for slices of limbs: made by append, made whole and written, handed back. -/
namespace Go.Proofs.YtmeplgagpnligaaDoor
open Go.RowKit

def natC (x : Int) : List Value := [.int .u16 x]
theorem natC_len (s : Int) : (natC s).length = 1 := rfl
theorem natC_one (s : Int) : ∀ u ∈ natC s, u.oneCell' = true := by simp [natC, Value.oneCell']
theorem natC_cell {w : World} {b : Nat} {s : Int} (h : w.cell? ⟨b, 0, none⟩ = some (.int .u16 s)) : ∀ j u, (natC s)[j]? = some u → w.cell? ⟨b, j, none⟩ = some u := by
  intro j u hu
  match j, hu with
  | 0, hu => simp [natC] at hu; subst hu; exact h
theorem natC_map (l : List Int) : l.flatMap natC = l.map (Value.int .u16) := by
  induction l with
  | nil => rfl
  | cons x l ih => rw [List.flatMap_cons, ih]; rfl
/-- the call owns a slice of limbs -/
abbrev OwnN (B : Nat) (w : World) (a : Option Addr) (c : Nat) (l : List Int) : Prop := Own natC 1 33 B w a c l
theorem infoN : (Tryd.prog.info? 33).map (fun i => (i.zero, i.size, i.bytes)) = some (some (.int .u16 0), 1, 2) := by kernel_rfl

theorem NatR.u16 {w : World} {a : Option Addr} {c : Nat} {l : List Int} (h : NatR w a c l) : U16 l := fun x hx => by
  obtain ⟨k, hk⟩ := List.mem_iff_getElem?.1 hx
  obtain ⟨b, off, _, he⟩ := h.2.2 k x hk
  exact u16_of he.2
theorem NatR.take {w : World} {a : Option Addr} {c : Nat} {l : List Int} (h : NatR w a c l) (k : Nat) : NatR w a c (l.take k) := by
  refine ⟨by have := h.1; simp; omega, h.2.1, fun j x hx => ?_⟩
  rw [List.getElem?_take] at hx
  split at hx
  · exact h.2.2 j x hx
  · cases hx
theorem NatR.zero {w : World} {a : Option Addr} {c : Nat} {l : List Int} (h : NatR w a c l) : NatR w a c [] := by have := h.take 0; simpa using this
theorem NatR.cell {w : World} {a : Option Addr} {c : Nat} {l : List Int} (h : NatR w a c l) {k : Nat} {x : Int} (hx : l[k]? = some x) : ∃ b off, a = some ⟨b, off, none⟩ ∧ w.cell? ⟨b, off + k, none⟩ = some (.int .u16 x) := by
  obtain ⟨b, off, e, hc⟩ := h.2.2 k x hx
  exact ⟨b, off, e, by simpa using hc.1⟩

theorem OwnN.reads1 {B : Nat} {w : World} {a : Option Addr} {c : Nat} {l : List Int} (h : OwnN B w a c l) (hs : U16 l) : NatR w a c l :=
  Own.reads natC_len h fun g o x hx hc => ⟨by simpa using hc 0 _ rfl, u16_wf (hs x hx)⟩
theorem OwnN.readsV {B : Nat} {w V : World} {a : Option Addr} {c : Nat} {l : List Int} (h : OwnN B w a c l) (hV : New B w V) (hs : U16 l) : NatR V a c l := by
  have := Own.readsIn (E := IntE .u16) (β := Int) id natC_len h hV (fun b o x hx hc => ⟨by simpa using hc 0 _ rfl, u16_wf (hs x hx)⟩)
  rwa [List.map_id] at this

/-- 'l = append(l, x)' of one limb -/
theorem append_nat {B : Nat} {w : World} {l : List Int} {ops : Array Oper} {rest : List Oper} {o : Oper} {act : Act} {Q : Exit → Act → World → Prop} (hgd : o.guard = none) (s y : Operand)
    (ho : o.op = .call { callee := .builtin .append, args := #[s, y], argTypes := #[50, 50] })
    (a : Option Addr) (c : Nat) (hs : act.eval s = .slice a l.length c) (hown : OwnN B w a c l)
    (x : Int) (b c1 : Nat) (hy : act.eval y = .slice (some ⟨b, 0, none⟩) 1 c1) (hcell : w.cell? ⟨b, 0, none⟩ = some (.int .u16 x))
    (l2 : List Int) (hl2 : l2 = l ++ [x]) (hlen : l2.length ≤ 16777216) (hB : B ≤ w.heap.size)
    (h : ∀ a' c' w', OwnN B w' a' c' l2 → w.grownBy w' (Value.ownBlock (.slice a l.length c)) → ((∃ g, a' = some ⟨g, 0, none⟩ ∧ (a = some ⟨g, 0, none⟩ ∨ g = w.heap.size))) →
      wpList Tryd.prog ops Q rest (act.put o.dst (.slice a' l2.length c')) w') : wpList Tryd.prog ops Q (o :: rest) act w :=
  wpList_append_1 hgd s y 50 ho Tryd.underlying50 infoN rfl (by omega) (by omega) natC_len a c hs hown x (natC_one x) b c1 hy (natC_cell hcell) l2 hl2 hlen hB h

section
variable {α : Type} {f : α → List Value} {sz : Nat} {t : TypeId} {B : Nat} {w : World} {l m : List α} {P : Program}
theorem run_append_of_nil (ts ty e : TypeId) (i : TypeInfo) (ht : P.underlying ts = some (.slice e)) (hi : P.info? e = some i)
    (v : Value) (n : Nat) (xs : List Value) (size : Nat) (hown : w.ownsRow B e size v n xs) (c : Nat) : (Builtin.append_ #[ts, ts] ty #[v, .slice none 0 c]).run P w = .ok v w := by
  rcases hown.2 with ⟨rfl, rfl⟩ | ⟨g, cap, cur, rfl, _, _, hnc, _⟩
  · simp [Builtin.append_, run_underlying ht, sizeOf, typeInfo, hi, Builtin.lenOf, Builtin.firstCells]
  · simp [Builtin.append_, run_underlying ht, sizeOf, typeInfo, hi, Builtin.lenOf, Builtin.firstCells, hnc, storeCells]
/-- 'l = append(l, m...)', m read from anywhere -/
theorem wp_append_m {o : Oper} {act : Act} {K : Act → World → Prop} {Q : Exit → Act → World → Prop} (s y : Operand) (ts : TypeId)
    (ho : o.op = .call { callee := .builtin .append, args := #[s, y], argTypes := #[ts, ts] })
    {z : Value} {bytes : Nat} (ht : P.underlying ts = some (.slice t)) (hi : (P.info? t).map (fun i => (i.zero, i.size, i.bytes)) = some (some z, sz, bytes)) (hz : z.cells.size = sz) (hsz : 0 < sz) (hby : bytes ≤ 1024)
    (hf : ∀ x, (f x).length = sz) (a : Option Addr) (c : Nat) (hs : act.eval s = .slice a l.length c) (hown : Own f sz t B w a c l)
    (hone : ∀ x ∈ m, ∀ u ∈ f x, u.oneCell' = true) (am : Option Addr) (cm : Nat) (hy : act.eval y = .slice am m.length cm)
    (hcell : ∀ k x, m[k]? = some x → ∃ b off, am = some ⟨b, off, none⟩ ∧ ∀ j u, (f x)[j]? = some u → w.cell? ⟨b, off + (k * sz + j), none⟩ = some u)
    (l2 : List α) (hl2 : l2 = l ++ m) (hlen : l2.length ≤ 16777216) (hB : B ≤ w.heap.size)
    (h : ∀ a' c' w', Own f sz t B w' a' c' l2 → w.grownBy w' (Value.ownBlock (.slice a l.length c)) → Below B w w' →
      K (act.put o.dst (.slice a' l2.length c')) w') : o.wp P act w K Q := by
  subst hl2
  obtain ⟨i, hi0, hz0, hz1, hz2⟩ := info_parts hi
  simp only [List.length_append] at hlen
  have hf2 : (l ++ m).flatMap f = l.flatMap f ++ m.flatMap f := by simp
  have key : ∃ v' w', (Builtin.append_ #[ts, ts] o.type #[.slice a l.length c, .slice am m.length cm]).run P w = .ok v' w' ∧ w'.ownsRow B t sz v' (l.length + m.length) (l.flatMap f ++ m.flatMap f) ∧ w.grownBy w' (Value.ownBlock (.slice a l.length c)) := by
    cases am with
    | none =>
      have hm : m = [] := by
        cases m with
        | nil => rfl
        | cons x m => obtain ⟨b, off, e, _⟩ := hcell 0 x rfl; cases e
      subst hm
      exact ⟨_, w, run_append_of_nil ts o.type t i ht hi0 _ _ _ sz hown cm, by have := hown; unfold Own at this; simpa using this, World.grownBy.refl w _⟩
    | some ad =>
      obtain ⟨v', w', hr, h2, h3, _, _⟩ := run_append_own_at (P := P) w B ts o.type t i z sz bytes ht hi0 hz0 hz1 hz2 hz hsz (.slice a l.length c) l.length (l.flatMap f) hown ad m.length cm (m.flatMap f) (flatMap_len hf m)
        (fun j u hu => by
          have hj : j < m.length * sz := by rw [← flatMap_len hf m]; exact lt_of_get hu
          have hk : j / sz < m.length := (Nat.div_lt_iff_lt_mul hsz).2 hj
          obtain ⟨x, hx⟩ := get_of_lt hk
          obtain ⟨b, off, e, hc⟩ := hcell _ x hx
          injection e with e
          subst e
          have hd : j = j / sz * sz + j % sz := by have := Nat.div_add_mod j sz; rw [Nat.mul_comm] at this; omega
          have h1 := flatMap_at hf m (j / sz) x (j % sz) hx (Nat.mod_lt _ hsz)
          rw [← hd, hu] at h1
          have := hc _ _ h1.symm
          rw [Addr.add_lit, hd]
          exact this) (fun u hu => by
          obtain ⟨x, hx, hux⟩ := List.mem_flatMap.1 hu
          exact hone x hx u hux) (by unfold maxLen; omega)
        (by have : (l.length + m.length) * bytes ≤ 16777216 * 1024 := Nat.mul_le_mul hlen hby
            omega) hB
      exact ⟨v', w', hr, h2, h3⟩
  obtain ⟨v', w', hr, h2, h3⟩ := key
  have hbel : Below B w w' := (Below.refl _ _).grown h3 hB (fun k hk => by
    cases a with
    | none => simp [Value.ownBlock] at hk
    | some g => simp [Value.ownBlock] at hk; subst hk; exact (hown.lt rfl).1)
  unfold Oper.wp execOp
  simp only [ho, resolve, invoke, builtin, Sem.run_bind, Sem.run_pure, Result.andThen_ok, List.map_toArray, List.map_cons, List.map_nil, hs, hy, hr]
  have hn : (l ++ m).length = l.length + m.length := by simp
  rcases h2.2 with ⟨e, e0⟩ | ⟨g, cap, cur, e, _⟩
  · have hn0 : (l ++ m).length = 0 := by rw [hn, e0]
    subst e
    have := h none 0 w' (by unfold Own; rw [hf2, hn0]; rw [e0] at h2; exact h2) h3 hbel
    rw [hn0] at this
    exact this
  · subst e
    have := h (some ⟨g, 0, none⟩) cap w' (by unfold Own; rw [hf2, hn]; exact h2) h3 hbel
    rw [hn] at this
    exact this
end

/-- 'l = append(l, m...)' of limbs -/
theorem append_nats {B : Nat} {w : World} {l m : List Int} {ops : Array Oper} {rest : List Oper} {o : Oper} {act : Act} {Q : Exit → Act → World → Prop} (hgd : o.guard = none) (s y : Operand)
    (ho : o.op = .call { callee := .builtin .append, args := #[s, y], argTypes := #[50, 50] })
    (a : Option Addr) (c : Nat) (hs : act.eval s = .slice a l.length c) (hown : OwnN B w a c l)
    (am : Option Addr) (cm : Nat) (hy : act.eval y = .slice am m.length cm) (hr : NatR w am cm m)
    (l2 : List Int) (hl2 : l2 = l ++ m) (hlen : l2.length ≤ 16777216) (hB : B ≤ w.heap.size)
    (h : ∀ a' c' w', OwnN B w' a' c' l2 → w.grownBy w' (Value.ownBlock (.slice a l.length c)) → Below B w w' →
      wpList Tryd.prog ops Q rest (act.put o.dst (.slice a' l2.length c')) w') : wpList Tryd.prog ops Q (o :: rest) act w :=
  wpList_plain hgd fun _ hK => wp_append_m s y 50 ho Tryd.underlying50 infoN rfl (by omega) (by omega) natC_len a c hs hown (fun x _ => natC_one x) am cm hy
    (fun k x hx => by
      obtain ⟨b, off, e, hc⟩ := hr.cell hx
      refine ⟨b, off, e, fun j u hu => ?_⟩
      match j, hu with
      | 0, hu => simp [natC] at hu; subst hu; simpa using hc) l2 hl2 hlen hB fun a' c' w' h1 h2 h3 => hK _ _ (h a' c' w' h1 h2 h3)

/-- block g is a row of just these limbs -/
def BlkN (w : World) (g : Nat) (l : List Int) : Prop := Blk w g 33 (l.map (Value.int .u16)).toArray
section
variable {w w' : World} {g : Nat} {l : List Int}
theorem BlkN.lt (h : BlkN w g l) : g < w.heap.size := Blk.lt h
theorem BlkN.cell (h : BlkN w g l) {i : Nat} {x : Int} (hx : l[i]? = some x) : w.cell? ⟨g, i, none⟩ = some (.int .u16 x) := by
  rw [Blk.cell h i]; simp [hx]
theorem BlkN.frozen (h : BlkN w g l) (i : Nat) : w.frozen? ⟨g, i, none⟩ = false := Blk.frozen h i
theorem BlkN.set_ (h : BlkN w g l) (i : Nat) (x : Int) : BlkN (w.setCell ⟨g, i, none⟩ (.int .u16 x)) g (l.set i x) := by
  have := Blk.set_ h i (.int .u16 x)
  unfold BlkN
  rw [List.setIfInBounds_toArray, ← List.map_set] at this
  exact this
theorem BlkN.below (h : BlkN w g l) (hb : Below w.heap.size w w') : BlkN w' g l := Blk.below' h hb
theorem BlkN.alloc (h : BlkN w g l) (o : Obj) : BlkN (w.alloc o) g l := Blk.alloc h o
theorem BlkN.far (h : BlkN w g l) {p : Addr} (hp : g ≠ p.block) (u : Value) : BlkN (w.setCell p u) g l := Blk.far h hp u
theorem BlkN.new (w : World) (n : Nat) : BlkN (w.alloc (.cells (madeCells #[.int .u16 0] n) 33)) w.heap.size (List.replicate n 0) := by
  have := Blk.new w 33 (madeCells #[.int .u16 0] n)
  unfold BlkN
  have e : madeCells #[.int .u16 0] n = ((List.replicate n (0 : Int)).map (Value.int .u16)).toArray := by
    apply Array.ext
    · simp [madeCells]
    · intro i h1 h2
      simp [madeCells, Nat.mod_one]
  rw [e] at this ⊢
  exact this
theorem BlkN.own (h : BlkN w g l) {B : Nat} (hB : B ≤ g) (hl : l.length ≤ maxLen) : OwnN B w (some ⟨g, 0, none⟩) l.length l := by
  refine ⟨by rw [flatMap_len natC_len], .inr ⟨g, l.length, _, rfl, hB, h, Nat.le_refl _, hl, by simp, ?_⟩⟩
  rw [natC_map]
  simp only [Nat.mul_one]
  exact List.take_of_length_le (by simp)
theorem BlkN.readsV (h : BlkN w g l) {B : Nat} {V : World} (hB : B ≤ g) (hV : New B w V) (hs : U16 l) {c : Nat} (hc : l.length ≤ c) (hm : c ≤ maxLen) : NatR V (some ⟨g, 0, none⟩) c l :=
  ⟨hc, hm, fun k x hx => ⟨g, 0, rfl, by simpa using hV _ _ (by simpa using hB) (h.cell hx), u16_wf (hs x (List.mem_of_getElem? hx))⟩⟩
end
/-- 'make(api.Nat, n)' -/
theorem run_make_nat (k : IntKind) (n : Nat) (hn : n ≤ 16777216) (w : World) :
    (Instr.makeSlice 50 (.int k (n : Int)) (.int k (n : Int))).run Tryd.prog w = .ok (.slice (some ⟨w.heap.size, 0, none⟩) n n) (w.alloc (.cells (madeCells #[.int .u16 0] n) 33)) :=
  run_make_row' 50 33 (.int .u16 0) 2 Tryd.underlying50 infoN rfl k k n (by omega) (by omega) w

/-- v is a slice of the limbs l that a call has made from block B on: it reads in each world that holds what was made -/
def NewN (l : List Int) (B : Nat) (w : World) (v : Value) : Prop := ∃ a c, v = .slice a l.length c ∧ ∀ V, New B w V → NatR V a c l
theorem NewN.below {l : List Int} {B : Nat} {w w' : World} {v : Value} (h : NewN l B w v) (hb : Below w.heap.size w w') : NewN l B w' v := by
  obtain ⟨a, c, e, hV⟩ := h
  exact ⟨a, c, e, fun V hn => hV V (hn.below hb)⟩
theorem NewN.base {l : List Int} {B B' : Nat} {w : World} {v : Value} (h : NewN l B w v) (hB : B' ≤ B) : NewN l B' w v := by
  obtain ⟨a, c, e, hV⟩ := h
  exact ⟨a, c, e, fun V hn => hV V (hn.base hB)⟩
theorem NewN.nil (B : Nat) (w : World) : NewN [] B w (.slice none 0 0) := ⟨none, 0, rfl, fun _ _ => SlR.nil⟩
theorem NewN.own {l : List Int} {B : Nat} {w : World} {a : Option Addr} {c : Nat} (h : OwnN B w a c l) (hs : U16 l) : NewN l B w (.slice a l.length c) := ⟨a, c, rfl, fun _ hn => h.readsV hn hs⟩
/-- what a call gives that makes the limbs l -/
def RetN (l : List Int) (w : World) (e : Ending) (w' : World) : Prop := ∃ a c, e = .returned (.slice a l.length c) ∧ (∀ V, New w.heap.size w' V → NatR V a c l) ∧ Below w.heap.size w w'
theorem RetN.mk {l : List Int} {w w' : World} {v : Value} (h : NewN l w.heap.size w' v) (hb : Below w.heap.size w w') : RetN l w (.returned v) w' := by
  obtain ⟨a, c, rfl, hV⟩ := h
  exact ⟨a, c, rfl, hV, hb⟩
theorem RetN.own {l L : List Int} {w w' : World} {a : Option Addr} {c n : Nat} (h : OwnN w.heap.size w' a c l) (hs : U16 l) (hb : Below w.heap.size w w') (hL : L = l) (hn : n = l.length) : RetN L w (.returned (.slice a n c)) w' := by
  subst hL; subst hn; exact RetN.mk (NewN.own h hs) hb
end Go.Proofs.YtmeplgagpnligaaDoor

/- Leading zeros struck off without copying; Euclid's steps. No function of the program in sight. -/
namespace Go.Proofs.YtmeplgagpnligaaDoor

theorem trim_take {l : List Int} (h : U16 l) : ∀ n, n ≤ l.length → val (l.drop n) = 0 → ∃ k, k ≤ n ∧ limbs (val l) = l.take k
  | 0, _, hv => ⟨0, Nat.le_refl _, by rw [List.drop_zero] at hv; rw [hv, limbs_zero, List.take_zero]⟩
  | n + 1, hn, hv => by
    obtain ⟨x, hx⟩ := get_of_lt (xs := l) (k := n) (by omega)
    by_cases hx0 : x = 0
    · obtain ⟨k, hk, e⟩ := trim_take h n (by omega) (by rw [val_drop hx, hv, hx0]; rfl)
      exact ⟨k, by omega, e⟩
    · refine ⟨n + 1, Nat.le_refl _, limbs_cut h hv (fun y _ hy => ?_) hn⟩
      rw [Nat.add_sub_cancel, hx] at hy
      injection hy with hy
      rw [← hy]
      exact hx0
theorem trim_some {l : List Int} (h : U16 l) : ∃ k, k ≤ l.length ∧ limbs (val l) = l.take k := trim_take h l.length (Nat.le_refl _) (by rw [List.drop_length]; rfl)
/-- what is left when the zeros are struck off lies where it lay -/
theorem NatR.trim {w : World} {a : Option Addr} {c : Nat} {l : List Int} (h : NatR w a c l) : NatR w a c (limbs (val l)) := by
  obtain ⟨k, _, e⟩ := trim_some h.u16
  rw [e]
  exact h.take k
/-- the loop of trim: the limbs from n on are zero -/
theorem trim_more {l : List Int} {n : Nat} {x : Int} (hx : l[n]? = some x) (h0 : x = 0) (hv : val (l.drop (n + 1)) = 0) : val (l.drop n) = 0 := by
  rw [val_drop hx, hv, h0]; rfl
theorem trim_stop {l : List Int} (h : U16 l) {n : Nat} {x : Int} (hx : l[n]? = some x) (h0 : x ≠ 0) (hv : val (l.drop (n + 1)) = 0) : limbs (val l) = l.take (n + 1) := by
  refine limbs_cut h hv (fun y _ hy => ?_) (lt_of_get hx)
  rw [Nat.add_sub_cancel, hx] at hy
  injection hy with hy
  rw [← hy]
  exact h0
theorem trim_zero {l : List Int} (hv : val (l.drop 0) = 0) : limbs (val l) = l.take 0 := by
  rw [List.drop_zero] at hv
  rw [hv, limbs_zero, List.take_zero]
/-- a number of at most four limbs -/
theorem small_iff {n : Nat} : (limbs n).length ≤ 4 ↔ n < 18446744073709551616 := by
  constructor
  · intro h
    have h1 := lt_pow_limbs n
    have h2 : 65536 ^ (limbs n).length ≤ 65536 ^ 4 := Nat.pow_le_pow_right (by omega) h
    have h3 : (65536 : Nat) ^ 4 = 18446744073709551616 := by decide
    omega
  · intro h
    exact limbs_len_le (by rw [show (65536 : Nat) ^ 4 = 18446744073709551616 by decide]; exact h)
/-- a limb is put above what lies below it -/
theorem uint_or {n x i : Nat} (h : n < 65536 ^ i) : n ||| x * 65536 ^ i = n + 65536 ^ i * x := by
  have e : (65536 : Nat) ^ i = 2 ^ (16 * i) := by rw [Nat.pow_mul]
  rw [e] at h ⊢
  rw [Nat.or_comm, Nat.mul_comm x, ← Nat.two_pow_add_eq_or_of_lt h, Nat.add_comm]
theorem gcd_step {a b : Nat} : Nat.gcd a b = Nat.gcd b (a % b) := by
  rw [Nat.gcd_comm a b, Nat.gcd_rec b a, Nat.gcd_comm]
end Go.Proofs.YtmeplgagpnligaaDoor

/- Walks: the program's natural numbers: trim, Norm, Of. -/
namespace Go.Proofs.YtmeplgagpnligaaDoor
open Go.RowKit

theorem sizeN : (Tryd.prog.info? 33).map (·.size) = some 1 := by kernel_rfl
end Go.Proofs.YtmeplgagpnligaaDoor
