/- Natural numbers as lists of limbs: the value of a list, the list of a value. No function of the program in sight. -/
import Derived.Test.YtmlldjcbijoheaaJr1
import Derived.Test.YtmlldjcbijoheaaRows
import Derived.Deep.QuietTactic
import Derived.BigQuiet

/- Slices of strings and of integers that a call makes itself: this program's types. -/
namespace Go.Proofs.Ytmlldjcbijoheaa
open Go.RowKit

def strC (s : ByteArray) : List Value := [.string s]
def intC (x : Int) : List Value := [.int .i64 x]
theorem strC_len (s : ByteArray) : (strC s).length = 1 := rfl
theorem intC_len (s : Int) : (intC s).length = 1 := rfl
theorem strC_one (s : ByteArray) : ∀ u ∈ strC s, u.oneCell' = true := by simp [strC, Value.oneCell']
theorem intC_one (s : Int) : ∀ u ∈ intC s, u.oneCell' = true := by simp [intC, Value.oneCell']
theorem strC_cell {w : World} {b : Nat} {s : ByteArray} (h : w.cell? ⟨b, 0, none⟩ = some (.string s)) : ∀ j u, (strC s)[j]? = some u → w.cell? ⟨b, j, none⟩ = some u := by
  intro j u hu
  match j, hu with
  | 0, hu => simp [strC] at hu; subst hu; exact h
theorem intC_cell {w : World} {b : Nat} {s : Int} (h : w.cell? ⟨b, 0, none⟩ = some (.int .i64 s)) : ∀ j u, (intC s)[j]? = some u → w.cell? ⟨b, j, none⟩ = some u := by
  intro j u hu
  match j, hu with
  | 0, hu => simp [intC] at hu; subst hu; exact h
/-- the call owns a slice of strings -/
abbrev OwnS (B : Nat) (w : World) (a : Option Addr) (c : Nat) (l : List ByteArray) : Prop := Own strC 1 9 B w a c l
/-- the call owns a slice of integers -/
abbrev OwnI (B : Nat) (w : World) (a : Option Addr) (c : Nat) (l : List Int) : Prop := Own intC 1 3 B w a c l
theorem infoS : (Try.prog.info? 9).map (fun i => (i.zero, i.size, i.bytes)) = some (some (.string ⟨#[]⟩), 1, 16) := by kernel_rfl
theorem infoI : (Try.prog.info? 3).map (fun i => (i.zero, i.size, i.bytes)) = some (some (.int .i64 0), 1, 8) := by kernel_rfl
section
variable {B : Nat} {w : World} {a : Option Addr} {c : Nat}
theorem OwnS.at1 {l : List ByteArray} (h : OwnS B w a c l) {k : Nat} {x : ByteArray} (hx : l[k]? = some x) : ∃ g, a = some ⟨g, 0, none⟩ ∧ B ≤ g ∧ g < w.heap.size ∧ w.cell? ⟨g, k, none⟩ = some (.string x) := by
  obtain ⟨g, ha, hb, hlt, hc⟩ := h.at_ strC_len hx
  exact ⟨g, ha, hb, hlt, by simpa using hc 0 _ rfl⟩
theorem OwnI.at1 {l : List Int} (h : OwnI B w a c l) {k : Nat} {x : Int} (hx : l[k]? = some x) : ∃ g, a = some ⟨g, 0, none⟩ ∧ B ≤ g ∧ g < w.heap.size ∧ w.cell? ⟨g, k, none⟩ = some (.int .i64 x) := by
  obtain ⟨g, ha, hb, hlt, hc⟩ := h.at_ intC_len hx
  exact ⟨g, ha, hb, hlt, by simpa using hc 0 _ rfl⟩
theorem OwnS.reads1 {l : List ByteArray} (h : OwnS B w a c l) : StrsR w a c l :=
  Own.reads strC_len h fun g o x hx hc => show w.cell? _ = _ by simpa using hc 0 _ rfl
theorem OwnI.reads1 {l : List Int} (h : OwnI B w a c l) (hs : ∀ s ∈ l, InInt s) : IntsR w a c l :=
  Own.reads intC_len h fun g o x hx hc => ⟨by simpa using hc 0 _ rfl, wf_of (hs x hx)⟩
end

/-- 'l = append(l, s)', s a string -/
theorem append_str {B : Nat} {w : World} {l : List ByteArray} {ops : Array Oper} {rest : List Oper} {o : Oper} {act : Act} {Q : Exit → Act → World → Prop} (hgd : o.guard = none) (s y : Operand)
    (ho : o.op = .call { callee := .builtin .append, args := #[s, y], argTypes := #[43, 43] })
    (a : Option Addr) (c : Nat) (hs : act.eval s = .slice a l.length c) (hown : OwnS B w a c l)
    (x : ByteArray) (b c1 : Nat) (hy : act.eval y = .slice (some ⟨b, 0, none⟩) 1 c1) (hcell : w.cell? ⟨b, 0, none⟩ = some (.string x))
    (l2 : List ByteArray) (hl2 : l2 = l ++ [x]) (hlen : l2.length ≤ 16777216) (hB : B ≤ w.heap.size)
    (h : ∀ a' c' w', OwnS B w' a' c' l2 → w.grownBy w' (Value.ownBlock (.slice a l.length c)) → ((∃ g, a' = some ⟨g, 0, none⟩ ∧ (a = some ⟨g, 0, none⟩ ∨ g = w.heap.size))) →
      wpList Try.prog ops Q rest (act.put o.dst (.slice a' l2.length c')) w') : wpList Try.prog ops Q (o :: rest) act w :=
  wpList_append_1 hgd s y 43 ho Try.underlying43 infoS rfl (by omega) (by omega) strC_len a c hs hown x (strC_one x) b c1 hy (strC_cell hcell) l2 hl2 hlen hB h
/-- 'l = append(l, n)', n an integer -/
theorem append_int {B : Nat} {w : World} {l : List Int} {ops : Array Oper} {rest : List Oper} {o : Oper} {act : Act} {Q : Exit → Act → World → Prop} (hgd : o.guard = none) (s y : Operand)
    (ho : o.op = .call { callee := .builtin .append, args := #[s, y], argTypes := #[26, 26] })
    (a : Option Addr) (c : Nat) (hs : act.eval s = .slice a l.length c) (hown : OwnI B w a c l)
    (x : Int) (b c1 : Nat) (hy : act.eval y = .slice (some ⟨b, 0, none⟩) 1 c1) (hcell : w.cell? ⟨b, 0, none⟩ = some (.int .i64 x))
    (l2 : List Int) (hl2 : l2 = l ++ [x]) (hlen : l2.length ≤ 16777216) (hB : B ≤ w.heap.size)
    (h : ∀ a' c' w', OwnI B w' a' c' l2 → w.grownBy w' (Value.ownBlock (.slice a l.length c)) → ((∃ g, a' = some ⟨g, 0, none⟩ ∧ (a = some ⟨g, 0, none⟩ ∨ g = w.heap.size))) →
      wpList Try.prog ops Q rest (act.put o.dst (.slice a' l2.length c')) w') : wpList Try.prog ops Q (o :: rest) act w :=
  wpList_append_1 hgd s y 26 ho Try.underlying26 infoI rfl (by omega) (by omega) intC_len a c hs hown x (intC_one x) b c1 hy (intC_cell hcell) l2 hl2 hlen hB h

end Go.Proofs.Ytmlldjcbijoheaa

/- Natural numbers as lists of limbs: the value of a list, the list of a value. No function of the program in sight. -/
namespace Go.Proofs.Ytmlldjcbijoheaa

/-- the value of limbs, the least one first -/
def val : List Int → Nat
  | [] => 0
  | x :: l => x.toNat + 65536 * val l
/-- the limbs of a value, without leading zeros -/
def limbs (n : Nat) : List Int := if h : n = 0 then [] else ((n % 65536 : Nat) : Int) :: limbs (n / 65536)
termination_by n
decreasing_by omega
def U16 (l : List Int) : Prop := ∀ x ∈ l, 0 ≤ x ∧ x ≤ 65535

theorem U16.nil : U16 [] := fun _ h => by cases h
theorem U16.cons {x : Int} {l : List Int} (h : 0 ≤ x ∧ x ≤ 65535) (k : U16 l) : U16 (x :: l) := fun y hy => by
  rcases List.mem_cons.1 hy with rfl | hy
  · exact h
  · exact k y hy
theorem U16.head {x : Int} {l : List Int} (h : U16 (x :: l)) : 0 ≤ x ∧ x ≤ 65535 := h x (by simp)
theorem U16.tail {x : Int} {l : List Int} (h : U16 (x :: l)) : U16 l := fun y hy => h y (by simp [hy])
theorem U16.app {l m : List Int} (h : U16 l) (k : U16 m) : U16 (l ++ m) := fun y hy => by
  rcases List.mem_append.1 hy with hy | hy
  · exact h y hy
  · exact k y hy
theorem U16.take {l : List Int} (h : U16 l) (k : Nat) : U16 (l.take k) := fun y hy => h y (List.mem_of_mem_take hy)
theorem U16.drop {l : List Int} (h : U16 l) (k : Nat) : U16 (l.drop k) := fun y hy => h y (List.mem_of_mem_drop hy)
theorem U16.get {l : List Int} (h : U16 l) {k : Nat} {x : Int} (hx : l[k]? = some x) : 0 ≤ x ∧ x ≤ 65535 := h x (List.mem_of_getElem? hx)
theorem U16.set_ {l : List Int} (h : U16 l) {k : Nat} {x : Int} (hx : 0 ≤ x ∧ x ≤ 65535) : U16 (l.set k x) := fun y hy => by
  rcases List.mem_or_eq_of_mem_set hy with hy | rfl
  · exact h y hy
  · exact hx

theorem limbs_zero : limbs 0 = [] := by rw [limbs]; simp
theorem limbs_pos {n : Nat} (h : n ≠ 0) : limbs n = ((n % 65536 : Nat) : Int) :: limbs (n / 65536) := by rw [limbs]; simp [h]
theorem limbs_u16 (n : Nat) : U16 (limbs n) := by
  induction n using Nat.strongRecOn with
  | ind n ih =>
    by_cases h : n = 0
    · subst h; rw [limbs_zero]; exact U16.nil
    · rw [limbs_pos h]; exact U16.cons (by omega) (ih _ (by omega))
theorem val_limbs (n : Nat) : val (limbs n) = n := by
  induction n using Nat.strongRecOn with
  | ind n ih =>
    by_cases h : n = 0
    · subst h; rw [limbs_zero]; rfl
    · rw [limbs_pos h, val, ih _ (by omega)]; omega
theorem val_append (l m : List Int) : val (l ++ m) = val l + 65536 ^ l.length * val m := by
  induction l with
  | nil => simp [val]
  | cons x l ih =>
    simp only [List.cons_append, val, ih, List.length_cons, Nat.pow_succ]
    rw [Nat.mul_add, ← Nat.mul_assoc, Nat.mul_comm 65536 (65536 ^ l.length), Nat.add_assoc]
theorem val_lt {l : List Int} (h : U16 l) : val l < 65536 ^ l.length := by
  induction l with
  | nil => simp [val]
  | cons x l ih =>
    have h1 := ih h.tail
    have h2 := h.head
    simp only [val, List.length_cons, Nat.pow_succ]
    omega
theorem val_snoc (l : List Int) (x : Int) : val (l ++ [x]) = val l + 65536 ^ l.length * x.toNat := by rw [val_append]; simp [val]
theorem val_take {l : List Int} {k : Nat} {x : Int} (h : l[k]? = some x) : val (l.take (k + 1)) = val (l.take k) + 65536 ^ k * x.toNat := by
  rw [take_more h, val_snoc]
  have : (l.take k).length = k := by have := lt_of_get h; simp; omega
  rw [this]
theorem val_drop {l : List Int} {k : Nat} {x : Int} (h : l[k]? = some x) : val (l.drop k) = x.toNat + 65536 * val (l.drop (k + 1)) := by
  have hk := lt_of_get h
  rw [List.drop_eq_getElem_cons hk]
  have : l[k] = x := by rw [List.getElem?_eq_getElem hk] at h; exact Option.some.inj h
  rw [this, val]
theorem val_split (l : List Int) (k : Nat) : val l = val (l.take k) + 65536 ^ (l.take k).length * val (l.drop k) := by
  have := val_append (l.take k) (l.drop k)
  rwa [List.take_append_drop] at this
theorem val_drop_all {l : List Int} {k : Nat} (h : l.length ≤ k) : val (l.drop k) = 0 := by rw [List.drop_eq_nil_of_le h]; rfl
theorem val_take_all {l : List Int} {k : Nat} (h : l.length ≤ k) : val (l.take k) = val l := by rw [List.take_of_length_le h]
/-- what is cut to its first k limbs, the others being zero -/
theorem limbs_canon {l : List Int} (h : U16 l) (hc : ∀ x, l.getLast? = some x → x ≠ 0) : limbs (val l) = l := by
  induction l with
  | nil => exact limbs_zero
  | cons x l ih =>
    have h1 := h.head
    have hv : val (x :: l) = x.toNat + 65536 * val l := rfl
    have hl : limbs (val l) = l := ih h.tail (fun y hy => hc y (by
      cases l with
      | nil => simp at hy
      | cons z l => rw [List.getLast?_cons_cons]; exact hy))
    have hne : val (x :: l) ≠ 0 := by
      intro e
      rw [hv] at e
      cases l with
      | nil => exact hc x (by simp) (by omega)
      | cons z l =>
        have : val (z :: l) = 0 := by omega
        rw [this, limbs_zero] at hl
        cases hl
    rw [limbs_pos hne, hv]
    have e1 : (x.toNat + 65536 * val l) % 65536 = x.toNat := by omega
    have e2 : (x.toNat + 65536 * val l) / 65536 = val l := by omega
    rw [e1, e2, hl]
    congr 1
    omega
theorem limbs_last {n : Nat} {x : Int} (h : (limbs n).getLast? = some x) : x ≠ 0 := by
  induction n using Nat.strongRecOn generalizing x with
  | ind n ih =>
    by_cases h0 : n = 0
    · subst h0; rw [limbs_zero] at h; simp at h
    · rw [limbs_pos h0] at h
      by_cases h1 : n / 65536 = 0
      · rw [h1, limbs_zero] at h
        simp at h
        omega
      · have : limbs (n / 65536) ≠ [] := by rw [limbs_pos h1]; simp
        obtain ⟨y, t, ht⟩ := List.exists_cons_of_ne_nil this
        rw [ht, List.getLast?_cons_cons, ← ht] at h
        exact ih _ (by omega) h
theorem val_inj {l m : List Int} (h : U16 l) (k : U16 m) (hc : ∀ x, l.getLast? = some x → x ≠ 0) (kc : ∀ x, m.getLast? = some x → x ≠ 0) : val l = val m ↔ l = m := by
  constructor
  · intro e; rw [← limbs_canon h hc, ← limbs_canon k kc, e]
  · intro e; rw [e]
theorem limbs_inj {n m : Nat} : limbs n = limbs m ↔ n = m := by
  constructor
  · intro e; rw [← val_limbs n, ← val_limbs m, e]
  · intro e; rw [e]
theorem limbs_nil {n : Nat} : limbs n = [] ↔ n = 0 := by
  rw [← limbs_zero, limbs_inj]
theorem limbs_len_le {n k : Nat} (h : n < 65536 ^ k) : (limbs n).length ≤ k := by
  induction k generalizing n with
  | zero => have : n = 0 := by simpa using h
            subst this; simp [limbs_zero]
  | succ k ih =>
    by_cases h0 : n = 0
    · subst h0; simp [limbs_zero]
    · rw [limbs_pos h0]
      have := ih (n := n / 65536) (by rw [Nat.pow_succ] at h; omega)
      simp only [List.length_cons]
      omega
theorem limbs_len_pos {n : Nat} : 0 < (limbs n).length ↔ 0 < n := by
  constructor
  · intro h
    apply Nat.pos_of_ne_zero
    intro e; subst e; simp [limbs_zero] at h
  · intro h; rw [limbs_pos (by omega)]; simp
theorem lt_pow_limbs (n : Nat) : n < 65536 ^ (limbs n).length := by have := val_lt (limbs_u16 n); rwa [val_limbs] at this
theorem limbs_len_mono {n m : Nat} (h : n ≤ m) : (limbs n).length ≤ (limbs m).length := limbs_len_le (Nat.lt_of_le_of_lt h (lt_pow_limbs m))
theorem limbs_len_val {l : List Int} (h : U16 l) : (limbs (val l)).length ≤ l.length := limbs_len_le (val_lt h)
theorem limbs_len_mul (a b : Nat) : (limbs (a * b)).length ≤ (limbs a).length + (limbs b).length := by
  apply limbs_len_le
  rw [Nat.pow_add]
  exact Nat.mul_lt_mul'' (lt_pow_limbs a) (lt_pow_limbs b)
theorem limbs_len_add (a b : Nat) : (limbs (a + b)).length ≤ max (limbs a).length (limbs b).length + 1 := by
  apply limbs_len_le
  rw [Nat.pow_succ]
  have h1 := lt_pow_limbs a
  have h2 := lt_pow_limbs b
  have h3 : 65536 ^ (limbs a).length ≤ 65536 ^ (max (limbs a).length (limbs b).length) := Nat.pow_le_pow_right (by omega) (by omega)
  have h4 : 65536 ^ (limbs b).length ≤ 65536 ^ (max (limbs a).length (limbs b).length) := Nat.pow_le_pow_right (by omega) (by omega)
  omega
/-- the limbs of a value, its first k limbs being l and the others zero -/
theorem limbs_cut {l : List Int} (h : U16 l) {k : Nat} (hk : val (l.drop k) = 0) (hc : ∀ x, k ≠ 0 → l[k - 1]? = some x → x ≠ 0) (hkl : k ≤ l.length) : limbs (val l) = l.take k := by
  have h1 : val l = val (l.take k) := by rw [val_split l k, hk]; omega
  rw [h1]
  apply limbs_canon (h.take k)
  intro x hx
  by_cases h0 : k = 0
  · subst h0; simp at hx
  · refine hc x h0 ?_
    rw [List.getLast?_eq_getElem?, List.length_take, List.getElem?_take] at hx
    have e : min k l.length = k := by omega
    rw [e, if_pos (by omega)] at hx
    exact hx

/-- Go's order of two numbers -/
def cmpN (a b : Nat) : Int := if a < b then -1 else if b < a then 1 else 0
theorem cmpN_lt {a b : Nat} : cmpN a b < 0 ↔ a < b := by unfold cmpN; split <;> (try split) <;> omega
theorem cmpN_le {a b : Nat} : cmpN a b ≤ 0 ↔ a ≤ b := by unfold cmpN; split <;> (try split) <;> omega
theorem cmpN_ge {a b : Nat} : 0 ≤ cmpN a b ↔ b ≤ a := by unfold cmpN; split <;> (try split) <;> omega
theorem cmpN_zero {a b : Nat} : cmpN a b = 0 ↔ a = b := by unfold cmpN; split <;> (try split) <;> omega
theorem cmpN_in (a b : Nat) : -1 ≤ cmpN a b ∧ cmpN a b ≤ 1 := by unfold cmpN; split <;> (try split) <;> omega

/-- limb k, 0 beyond the end -/
def limbAt (l : List Int) (k : Nat) : Int := (l[k]?).getD 0
theorem limbAt_some {l : List Int} {k : Nat} {x : Int} (h : l[k]? = some x) : limbAt l k = x := by simp [limbAt, h]
theorem limbAt_none {l : List Int} {k : Nat} (h : l.length ≤ k) : limbAt l k = 0 := by simp [limbAt, h]
theorem limbAt_in {l : List Int} (h : U16 l) (k : Nat) : 0 ≤ limbAt l k ∧ limbAt l k ≤ 65535 := by
  unfold limbAt
  cases hx : l[k]? with
  | none => simp
  | some x => exact h.get hx
theorem val_drop_at (l : List Int) (k : Nat) : val (l.drop k) = (limbAt l k).toNat + 65536 * val (l.drop (k + 1)) := by
  cases hx : l[k]? with
  | none =>
    have := List.getElem?_eq_none_iff.1 hx
    rw [limbAt_none this, val_drop_all this, val_drop_all (by omega)]; rfl
  | some x => rw [limbAt_some hx]; exact val_drop hx
theorem val_take_at {l : List Int} (k : Nat) : val (l.take (k + 1)) = val (l.take k) + 65536 ^ k * (limbAt l k).toNat := by
  cases hx : l[k]? with
  | none =>
    have := List.getElem?_eq_none_iff.1 hx
    rw [limbAt_none this, val_take_all this, val_take_all (by omega)]; simp
  | some x => rw [limbAt_some hx]; exact val_take hx
theorem val_split_at {l : List Int} (h : U16 l) (k : Nat) : ∃ lo, lo < 65536 ^ k ∧ val l = lo + 65536 ^ k * val (l.drop k) := by
  refine ⟨val (l.take k), ?_, ?_⟩
  · refine Nat.lt_of_lt_of_le (val_lt (h.take k)) (Nat.pow_le_pow_right (by omega) (by simp; omega))
  · by_cases hk : k ≤ l.length
    · have := val_split l k
      have e : (l.take k).length = k := by simp; omega
      rwa [e] at this
    · rw [val_drop_all (by omega), val_take_all (by omega)]; omega
theorem val_lt_of {a b : List Int} (ha : U16 a) (hb : U16 b) (k : Nat) (he : val (a.drop (k + 1)) = val (b.drop (k + 1))) (h : limbAt a k < limbAt b k) : val a < val b := by
  obtain ⟨p, hp, e1⟩ := val_split_at ha k
  obtain ⟨q, hq, e2⟩ := val_split_at hb k
  rw [val_drop_at] at e1 e2
  rw [e1, e2, he]
  have h1 := limbAt_in ha k
  have h2 : (limbAt a k).toNat + 65536 * val (b.drop (k + 1)) + 1 ≤ (limbAt b k).toNat + 65536 * val (b.drop (k + 1)) := by omega
  have h3 := Nat.mul_le_mul_left (65536 ^ k) h2
  rw [Nat.mul_add _ _ 1] at h3
  omega
end Go.Proofs.Ytmlldjcbijoheaa
