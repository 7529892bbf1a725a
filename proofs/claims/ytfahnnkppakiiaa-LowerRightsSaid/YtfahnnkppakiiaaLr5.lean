/- Walks: the program's natural numbers: Of, Uint. -/
import Derived.Test.YtfahnnkppakiiaaLr4
import Derived.Test.YtfahnnkppakiiaaRows
import Derived.Test.YtfahnnkppakiiaaLr2
import Derived.Laws.CopyOwn
import Derived.Test.YtfahnnkppakiiaaLr1
import Derived.Maps.Range
import Derived.Maps.AppendAt
import Derived.Laws.BitsAllLaws
import Derived.Deep.LoopGhost

/- What a name is. No function of the program in sight. -/
namespace Go.Proofs.Ytfahnnkppakiiaa
open Go.RowKit

def letB (c : Int) : Bool := decide (65 ≤ c ∧ c ≤ 90 ∨ 97 ≤ c ∧ c ≤ 122)
def digB (c : Int) : Bool := decide (48 ≤ c ∧ c ≤ 57)
/-- the keywords: angle, apex, bisector, center, circle, circum, collinear, common, concyclic, congruent, cross, cut, divide, foot, line, meet, midpoint, mirror, on, other, parallel, perpendicular, points, prove, ratio, reflect, same, shift, turn -/
def keywords : List ByteArray := [⟨#[97, 110, 103, 108, 101]⟩,
  ⟨#[97, 112, 101, 120]⟩,
  ⟨#[98, 105, 115, 101, 99, 116, 111, 114]⟩,
  ⟨#[99, 101, 110, 116, 101, 114]⟩,
  ⟨#[99, 105, 114, 99, 108, 101]⟩,
  ⟨#[99, 105, 114, 99, 117, 109]⟩,
  ⟨#[99, 111, 108, 108, 105, 110, 101, 97, 114]⟩,
  ⟨#[99, 111, 109, 109, 111, 110]⟩,
  ⟨#[99, 111, 110, 99, 121, 99, 108, 105, 99]⟩,
  ⟨#[99, 111, 110, 103, 114, 117, 101, 110, 116]⟩,
  ⟨#[99, 114, 111, 115, 115]⟩,
  ⟨#[99, 117, 116]⟩,
  ⟨#[100, 105, 118, 105, 100, 101]⟩,
  ⟨#[102, 111, 111, 116]⟩,
  ⟨#[108, 105, 110, 101]⟩,
  ⟨#[109, 101, 101, 116]⟩,
  ⟨#[109, 105, 100, 112, 111, 105, 110, 116]⟩,
  ⟨#[109, 105, 114, 114, 111, 114]⟩,
  ⟨#[111, 110]⟩,
  ⟨#[111, 116, 104, 101, 114]⟩,
  ⟨#[112, 97, 114, 97, 108, 108, 101, 108]⟩,
  ⟨#[112, 101, 114, 112, 101, 110, 100, 105, 99, 117, 108, 97, 114]⟩,
  ⟨#[112, 111, 105, 110, 116, 115]⟩,
  ⟨#[112, 114, 111, 118, 101]⟩,
  ⟨#[114, 97, 116, 105, 111]⟩,
  ⟨#[114, 101, 102, 108, 101, 99, 116]⟩,
  ⟨#[115, 97, 109, 101]⟩,
  ⟨#[115, 104, 105, 102, 116]⟩,
  ⟨#[116, 117, 114, 110]⟩]
def wordB (c : UInt8) : Bool := letB c.toNat || digB c.toNat
/-- does a string begin with a letter? -/
def headB (s : ByteArray) : Bool := match s.data.toList with
  | [] => false
  | c :: _ => letB c.toNat
def keyB (s : ByteArray) : Bool := keywords.any fun k => decide (s = k)
def isNameB (s : ByteArray) : Bool := decide (s.size ≤ 20) && headB s && s.data.toList.all wordB && !keyB s

theorem keywords_len : keywords.length = 29 := rfl
theorem headB_cons {s : ByteArray} (h : 0 < s.size) : headB s = letB ((s[0]'h).toNat : Nat) := by
  unfold headB
  have h' : 0 < s.data.toList.length := by simpa using h
  have e : s.data.toList = s.data.toList[0] :: s.data.toList.drop 1 := by
    have := List.drop_eq_getElem_cons (l := s.data.toList) (i := 0) h'
    simpa using this
  rw [e]
  rfl
theorem headB_nil {s : ByteArray} (h : s.size = 0) : headB s = false := by
  unfold headB
  have : s.data.toList = [] := List.eq_nil_of_length_eq_zero (by simpa using h)
  rw [this]
theorem size_zero {s : ByteArray} : s.size = 0 ↔ s = ⟨#[]⟩ := by
  constructor
  · intro h
    cases s with
    | mk d => congr 1; exact Array.eq_empty_of_size_eq_zero h
  · intro h; subst h; rfl
theorem get_list {s : ByteArray} {k : Nat} (h : k < s.size) : s.data.toList[k]? = some (s[k]'h) := by simp [h]; rfl
theorem isNameB_empty : isNameB ⟨#[]⟩ = false := by decide

/-- one more rune of a string that is ranged over, whatever it is -/
theorem run_next_any {P : Program} (w : World) (g : Nat) (s : ByteArray) (pos : Nat) (hi : Itr w g s pos) (h : pos < s.size) :
    ∃ (r : Int) (n : Nat), (∀ ty : TypeId, (Instr.next (.pointer (some ⟨g, 0, none⟩)) true ty).run P w = .ok (.tuple #[.bool true, .int .i64 pos, .int .i32 r]) (setItr w g s (pos + n))) ∧ ((s[pos]'h).toNat < 128 → n = 1) := by
  by_cases ha : (s[pos]'h).toNat < 128
  · exact ⟨_, 1, fun ty => run_next_at w g s pos ty hi h ha, fun _ => rfl⟩
  · unfold Itr at hi
    refine ⟨((Utf8.decode s pos).1 : Nat), (Utf8.decode s pos).2, fun ty => ?_, fun h => absurd h ha⟩
    simp only [Instr.next, getObj, setObj, Sem.run_bind, Sem.run, hi, Result.andThen, h, if_true]
    simp [goInt, setItr]
end Go.Proofs.Ytfahnnkppakiiaa

/- Figures: steps and facts as they lie in memory, and which are right. No walk. -/
namespace Go.Proofs.Ytfahnnkppakiiaa
open Go.RowKit

/-- is a number the zero value? -/
def Rt.none (r : Rt) : Bool := !r.neg && decide (r.num.length = 0) && decide (r.den.length = 0)
def arity14 (k : Int) : Int := if k = 1 ∨ k = 5 then 3 else if k = 2 ∨ k = 3 ∨ k = 4 ∨ k = 6 ∨ k = 9 then 4 else if k = 7 then 8 else if k = 8 then 2 else 0
def arity20 (k : Int) : Int := if k = 1 then 0 else if k = 2 ∨ k = 5 ∨ k = 6 ∨ k = 14 then 2 else if k = 3 ∨ k = 4 ∨ k = 7 ∨ k = 8 ∨ k = 10 ∨ k = 11 then 3 else if k = 9 ∨ k = 12 ∨ k = 13 then 4 else -1
/-- is an argument no number below n? -/
def badArg (n a : Int) : Bool := decide (a < 0 ∨ n ≤ a)
def errFct (f : Fct) (n : Int) : Int :=
  if arity14 f.kind = 0 then 8
  else if (f.args.length : Int) ≠ arity14 f.kind then 1
  else if f.args.any (badArg n) = true then 2
  else if f.kind = 9 ∧ f.ratio.right = false then 1
  else if f.kind ≠ 9 ∧ f.ratio.none = false then 1
  else 0
def errStep (l : List Step) (s : Step) (i : Nat) : Int :=
  if arity20 s.kind < 0 then 8
  else if (s.args.length : Int) ≠ arity20 s.kind then 1
  else if s.args.any (badArg i) = true then 2
  else if s.kind = 2 ∧ s.ratio.right = false then 1
  else if s.kind ≠ 2 ∧ s.ratio.none = false then 1
  else if s.point = ⟨#[]⟩ then 0
  else if isNameB s.point = false then 6
  else if (l.take i).any (fun t => decide (t.point = s.point)) = true then 7
  else 0
/-- the first error of steps from the one with the number i on -/
def errSteps (l : List Step) : List Step → Nat → Int
  | [], _ => 0
  | s :: r, i => if errStep l s i ≠ 0 then errStep l s i else errSteps l r (i + 1)
def errGoals (n : Int) : List Fct → Int
  | [] => 0
  | f :: r => if errFct f n ≠ 0 then errFct f n else errGoals n r
def Fig.err (f : Fig) : Int := if 40 < f.steps.length ∨ 8 < f.goals.length then 4 else if errSteps f.steps f.steps 0 ≠ 0 then errSteps f.steps f.steps 0 else errGoals f.steps.length f.goals

/-! ### What is right -/
theorem errSteps_at {l : List Step} : ∀ {r : List Step} {i k : Nat} {s : Step}, errSteps l r i = 0 → r[k]? = some s → errStep l s (i + k) = 0
  | [], _, _, _, _, h => by simp at h
  | s :: r, i, 0, t, h, hk => by
    simp at hk; subst hk
    unfold errSteps at h
    by_cases h0 : errStep l s i = 0
    · simpa using h0
    · rw [if_pos h0] at h; exact absurd h h0
  | s :: r, i, k + 1, t, h, hk => by
    unfold errSteps at h
    by_cases h0 : errStep l s i = 0
    · rw [if_neg (by simp [h0])] at h
      have := errSteps_at (k := k) h (by simpa using hk)
      rwa [show i + 1 + k = i + (k + 1) by omega] at this
    · rw [if_pos h0] at h; exact absurd h h0
theorem errStep_args {l : List Step} {s : Step} {i : Nat} (h : errStep l s i = 0) : ∀ a ∈ s.args, 0 ≤ a ∧ a < i := by
  intro a ha
  unfold errStep at h
  split at h
  · omega
  split at h
  · omega
  split at h
  · omega
  · rename_i hno
    simp only [List.any_eq_true, not_exists, not_and, badArg] at hno
    have := hno a ha
    simp at this
    omega
theorem Fig.args_of {f : Fig} (h : f.err = 0) {k : Nat} {s : Step} (hk : f.steps[k]? = some s) : ∀ a ∈ s.args, 0 ≤ a ∧ a < k := by
  unfold Fig.err at h
  split at h
  · omega
  split at h
  · contradiction
  · rename_i h1
    have := errSteps_at (by simpa using h1) hk
    rw [Nat.zero_add] at this
    exact errStep_args this
end Go.Proofs.Ytfahnnkppakiiaa

/- Walks: arities and the zero value, by the reference. -/
namespace Go.Proofs.Ytfahnnkppakiiaa
open Go.RowKit

theorem eqb_false {a b : Int} (h : ¬ a = b) : (a == b) = false := by simpa using h
set_option maxHeartbeats 2000000 in
theorem arity14_any (k : Int) (w : World) : Calls Try.prog 73 #[.int .i64 k] w fun e w' => e = .returned (.int .i64 (arity14 k)) ∧ w = w' := by
  by_cases hk : 1 ≤ k ∧ k ≤ 9
  · have hc : k = 1 ∨ k = 2 ∨ k = 3 ∨ k = 4 ∨ k = 5 ∨ k = 6 ∨ k = 7 ∨ k = 8 ∨ k = 9 := by omega
    clear hk
    rcases hc with rfl | rfl | rfl | rfl | rfl | rfl | rfl | rfl | rfl
    all_goals
      go_enter Try.func73, Try.ntmps73
      go_wp2
      go_ret
      exact ⟨ret_int (by decide), rfl⟩
  · have h1 := eqb_false (a := k) (b := 1) (by omega); have h2 := eqb_false (a := k) (b := 2) (by omega); have h3 := eqb_false (a := k) (b := 3) (by omega)
    have h4 := eqb_false (a := k) (b := 4) (by omega); have h5 := eqb_false (a := k) (b := 5) (by omega); have h6 := eqb_false (a := k) (b := 6) (by omega)
    have h7 := eqb_false (a := k) (b := 7) (by omega); have h8 := eqb_false (a := k) (b := 8) (by omega); have h9 := eqb_false (a := k) (b := 9) (by omega)
    have hr : arity14 k = 0 := by unfold arity14; rw [if_neg (by omega), if_neg (by omega), if_neg (by omega), if_neg (by omega)]
    rw [hr]
    clear hr hk
    go_enter Try.func73, Try.ntmps73
    go_wp2
    go_ret
    exact ⟨rfl, rfl⟩
set_option maxHeartbeats 2000000 in
theorem arity20_any (k : Int) (w : World) : Calls Try.prog 16 #[.int .i64 k] w fun e w' => e = .returned (.int .i64 (arity20 k)) ∧ w = w' := by
  by_cases hk : 1 ≤ k ∧ k ≤ 14
  · have hc : k = 1 ∨ k = 2 ∨ k = 3 ∨ k = 4 ∨ k = 5 ∨ k = 6 ∨ k = 7 ∨ k = 8 ∨ k = 9 ∨ k = 10 ∨ k = 11 ∨ k = 12 ∨ k = 13 ∨ k = 14 := by omega
    clear hk
    rcases hc with rfl | rfl | rfl | rfl | rfl | rfl | rfl | rfl | rfl | rfl | rfl | rfl | rfl | rfl
    all_goals
      go_enter Try.func16, Try.ntmps16
      go_wp2
      go_ret
      exact ⟨ret_int (by decide), rfl⟩
  · have h1 := eqb_false (a := k) (b := 1) (by omega); have h2 := eqb_false (a := k) (b := 2) (by omega); have h3 := eqb_false (a := k) (b := 3) (by omega)
    have h4 := eqb_false (a := k) (b := 4) (by omega); have h5 := eqb_false (a := k) (b := 5) (by omega); have h6 := eqb_false (a := k) (b := 6) (by omega)
    have h7 := eqb_false (a := k) (b := 7) (by omega); have h8 := eqb_false (a := k) (b := 8) (by omega); have h9 := eqb_false (a := k) (b := 9) (by omega)
    have h10 := eqb_false (a := k) (b := 10) (by omega); have h11 := eqb_false (a := k) (b := 11) (by omega); have h12 := eqb_false (a := k) (b := 12) (by omega)
    have h13 := eqb_false (a := k) (b := 13) (by omega); have h14 := eqb_false (a := k) (b := 14) (by omega)
    have hr : arity20 k = -1 := by unfold arity20; rw [if_neg (by omega), if_neg (by omega), if_neg (by omega), if_neg (by omega)]
    rw [hr]
    clear hr hk
    go_enter Try.func16, Try.ntmps16
    go_wp2
    go_ret
    exact ⟨rfl, rfl⟩
theorem arity14_in (k : Int) : 0 ≤ arity14 k ∧ arity14 k ≤ 8 := by unfold arity14; split <;> (try split) <;> (try split) <;> (try split) <;> omega
theorem arity20_in (k : Int) : -1 ≤ arity20 k ∧ arity20 k ≤ 4 := by unfold arity20; split <;> (try split) <;> (try split) <;> (try split) <;> omega

set_option maxHeartbeats 1000000 in
theorem none14_any (r : Rt) (na : Option Addr) (nc : Nat) (da : Option Addr) (dc : Nat) (w : World) (hl : r.num.length ≤ 2000000) (hm : r.den.length ≤ 2000000) :
    Calls Try.prog 74 #[r.val na nc da dc] w fun e w' => e = .returned (.bool r.none) ∧ Below w.heap.size w w' := by
  obtain ⟨neg, num, den⟩ := r
  unfold Rt.val Rt.none
  dsimp only at hl hm ⊢
  by_cases h1 : num.length = 0 <;> by_cases h2 : den.length = 0
  all_goals
    have e1 : ((num.length : Int) == 0) = decide (num.length = 0) := by rw [Bool.eq_iff_iff]; simp
    have e2 : ((den.length : Int) == 0) = decide (den.length = 0) := by rw [Bool.eq_iff_iff]; simp
    have d1 : decide (num.length = 0) = decide (num.length = 0) := rfl
    simp only [h1, h2, decide_true, decide_false] at e1 e2
    have HH : (decide (num.length = 0), decide (den.length = 0)) = (decide (num.length = 0), decide (den.length = 0)) := rfl
    simp only [h1, h2, decide_true, decide_false] at HH ⊢
    clear HH d1
    cases neg
    all_goals
      have H1 := Lib.hid h1
      have H2 := Lib.hid h2
      clear h1 h2
      go_enter Try.func74, Try.ntmps74
      go_wp2
      go_ret
      exact ⟨rfl, (Below.refl _ _).alloc (Nat.le_refl _) _⟩
set_option maxHeartbeats 1000000 in
theorem none20_any (r : Rt) (na : Option Addr) (nc : Nat) (da : Option Addr) (dc : Nat) (w : World) (hl : r.num.length ≤ 2000000) (hm : r.den.length ≤ 2000000) :
    Calls Try.prog 71 #[r.val na nc da dc] w fun e w' => e = .returned (.bool r.none) ∧ Below w.heap.size w w' := by
  obtain ⟨neg, num, den⟩ := r
  unfold Rt.val Rt.none
  dsimp only at hl hm ⊢
  by_cases h1 : num.length = 0 <;> by_cases h2 : den.length = 0
  all_goals
    have e1 : ((num.length : Int) == 0) = decide (num.length = 0) := by rw [Bool.eq_iff_iff]; simp
    have e2 : ((den.length : Int) == 0) = decide (den.length = 0) := by rw [Bool.eq_iff_iff]; simp
    have d1 : decide (num.length = 0) = decide (num.length = 0) := rfl
    simp only [h1, h2, decide_true, decide_false] at e1 e2
    have HH : (decide (num.length = 0), decide (den.length = 0)) = (decide (num.length = 0), decide (den.length = 0)) := rfl
    simp only [h1, h2, decide_true, decide_false] at HH ⊢
    clear HH d1
    cases neg
    all_goals
      have H1 := Lib.hid h1
      have H2 := Lib.hid h2
      clear h1 h2
      go_enter Try.func71, Try.ntmps71
      go_wp2
      go_ret
      exact ⟨rfl, (Below.refl _ _).alloc (Nat.le_refl _) _⟩
end Go.Proofs.Ytfahnnkppakiiaa

/- Leading zeros struck off without copying; Euclid's steps. No function of the program in sight. -/
namespace Go.Proofs.Ytfahnnkppakiiaa

theorem trim_take {l : List Int} (h : U16 l) : ∀ n, n ≤ l.length → val (l.drop n) = 0 → ∃ k, k ≤ n ∧ limbs (val l) = l.take k
  | 0, _, hv => ⟨0, Nat.le_refl _, by rw [List.drop_zero] at hv; rw [hv, limbs_zero, List.take_zero]⟩
  | n + 1, hn, hv => by
    obtain ⟨x, hx⟩ := get_of_lt (xs := l) (k := n) (by omega)
    by_cases hx0 : x = 0
    · obtain ⟨k, hk, e⟩ := trim_take h n (by omega) (by rw [val_drop hx, hv, hx0]; rfl)
      exact ⟨k, by omega, e⟩
    · refine ⟨n + 1, Nat.le_refl _, limbs_cut h hv (fun y _ hy => ?_) hn⟩
      rw [Nat.add_sub_cancel, hx] at hy
      injection hy with hy
      rw [← hy]
      exact hx0
theorem trim_some {l : List Int} (h : U16 l) : ∃ k, k ≤ l.length ∧ limbs (val l) = l.take k := trim_take h l.length (Nat.le_refl _) (by rw [List.drop_length]; rfl)
/-- what is left when the zeros are struck off lies where it lay -/
theorem NatR.trim {w : World} {a : Option Addr} {c : Nat} {l : List Int} (h : NatR w a c l) : NatR w a c (limbs (val l)) := by
  obtain ⟨k, _, e⟩ := trim_some h.u16
  rw [e]
  exact h.take k
/-- the loop of trim: the limbs from n on are zero -/
theorem trim_more {l : List Int} {n : Nat} {x : Int} (hx : l[n]? = some x) (h0 : x = 0) (hv : val (l.drop (n + 1)) = 0) : val (l.drop n) = 0 := by
  rw [val_drop hx, hv, h0]; rfl
theorem trim_stop {l : List Int} (h : U16 l) {n : Nat} {x : Int} (hx : l[n]? = some x) (h0 : x ≠ 0) (hv : val (l.drop (n + 1)) = 0) : limbs (val l) = l.take (n + 1) := by
  refine limbs_cut h hv (fun y _ hy => ?_) (lt_of_get hx)
  rw [Nat.add_sub_cancel, hx] at hy
  injection hy with hy
  rw [← hy]
  exact h0
theorem trim_zero {l : List Int} (hv : val (l.drop 0) = 0) : limbs (val l) = l.take 0 := by
  rw [List.drop_zero] at hv
  rw [hv, limbs_zero, List.take_zero]
/-- a number of at most four limbs -/
theorem small_iff {n : Nat} : (limbs n).length ≤ 4 ↔ n < 18446744073709551616 := by
  constructor
  · intro h
    have h1 := lt_pow_limbs n
    have h2 : 65536 ^ (limbs n).length ≤ 65536 ^ 4 := Nat.pow_le_pow_right (by omega) h
    have h3 : (65536 : Nat) ^ 4 = 18446744073709551616 := by decide
    omega
  · intro h
    exact limbs_len_le (by rw [show (65536 : Nat) ^ 4 = 18446744073709551616 by decide]; exact h)
/-- a limb is put above what lies below it -/
theorem uint_or {n x i : Nat} (h : n < 65536 ^ i) : n ||| x * 65536 ^ i = n + 65536 ^ i * x := by
  have e : (65536 : Nat) ^ i = 2 ^ (16 * i) := by rw [Nat.pow_mul]
  rw [e] at h ⊢
  rw [Nat.or_comm, Nat.mul_comm x, ← Nat.two_pow_add_eq_or_of_lt h, Nat.add_comm]
theorem gcd_step {a b : Nat} : Nat.gcd a b = Nat.gcd b (a % b) := by
  rw [Nat.gcd_comm a b, Nat.gcd_rec b a, Nat.gcd_comm]
end Go.Proofs.Ytfahnnkppakiiaa

/- Walks: the program's natural numbers: trim, Norm, Of. -/
namespace Go.Proofs.Ytfahnnkppakiiaa
open Go.RowKit

set_option maxHeartbeats 1000000 in
theorem trim_any (l : List Int) (a : Option Addr) (c : Nat) (w : World) (h : NatR w a c l) :
    Calls Try.prog 113 #[.slice a l.length c] w fun e w' => e = .returned (.slice a (limbs (val l)).length c) ∧ w = w' := by
  have H := Lib.hid h
  have hlen := SlR.len h
  have hcap := h.1
  have hcap2 := h.2.1
  unfold maxLen at hcap2
  obtain ⟨R, hR⟩ : ∃ q, (limbs (val l)).length = q := ⟨_, rfl⟩
  rw [hR]
  have HR := Lib.hid hR
  clear h hR
  go_enter Try.func113, Try.ntmps113
  go_wp2
  obtain ⟨wo, rfl⟩ : ∃ wo : World, wo = w := ⟨_, rfl⟩
  go_loopg [3] l.length (fun n q wr => n ≤ l.length ∧ q = .int .i64 n ∧ wo = wr ∧ Hid (val (l.drop n) = 0))
  case atStart => exact ⟨Nat.le_refl _, rfl, rfl, by simp [Hid, val]⟩
  case round =>
    obtain ⟨hn, rfl, rfl, hv⟩ := hrel
    by_cases h0 : gk = 0
    · subst h0
      have hr : R = 0 := by rw [← HR.out, trim_zero hv.out]; simp
      subst hr
      have hzc : (0 : Int) ≤ (c : Int) := by omega
      have hz1 : ¬ ((0 : Int) < ((0 : Nat) : Int)) := by omega
      go_wp2
      go_ret
      exact ⟨rfl, rfl⟩
    · obtain ⟨m, rfl⟩ : ∃ m, gk = m + 1 := ⟨gk - 1, by omega⟩
      obtain ⟨x, hx⟩ := get_of_lt (xs := l) (k := m) (by omega)
      obtain ⟨b, off, rfl, hc⟩ := H.out.cell hx
      have e1 : (((m + 1 : Nat) : Int)) = (m : Int) + 1 := by omega
      rw [e1]
      have hml : m < l.length := by omega
      have HX := Lib.hid hx
      by_cases hx0 : x = 0
      · have hxb : (x == 0) = true := by simpa using hx0
        have hv2 := Lib.hid (trim_more HX.out hx0 hv.out)
        clear hx0 hx hv e1
        go_wp2
        go_roundg m
        case rel => exact ⟨by omega, by first | rfl | go_num, rfl, hv2.out⟩
        case measure => omega
      · have hxb : (x == 0) = false := by simpa using hx0
        have hr : R = m + 1 := by rw [← HR.out, trim_stop H.out.u16 HX.out hx0 hv.out, List.length_take]; omega
        subst hr
        have hmc : (m : Int) + 1 ≤ (c : Int) := by omega
        clear hx0 hx hv e1
        go_wp2
        go_ret
        exact ⟨rfl, rfl⟩

theorem sizeN : (Try.prog.info? 80).map (·.size) = some 1 := by kernel_rfl
set_option maxRecDepth 100000 in
set_option maxHeartbeats 1000000 in
theorem norm_any (l : List Int) (a : Option Addr) (c : Nat) (w : World) (h : NatR w a c l) (hl : l.length ≤ 16777216) :
    Calls Try.prog 90 #[.slice a l.length c] w (RetN (limbs (val l)) w) := by
  have CT := trim_any l a c w h
  have hT := h.trim
  have hlT : (limbs (val l)).length ≤ 16777216 := by have := limbs_len_val h.u16; omega
  have huT := limbs_u16 (val l)
  revert CT hT hlT huT
  generalize limbs (val l) = T
  intro CT hT hlT huT
  replace CT := Lib.hid CT
  clear h
  by_cases h0 : T.length = 0
  · obtain rfl : T = [] := List.length_eq_zero_iff.1 h0
    clear h0 hT
    go_enter Try.func90, Try.ntmps90
    go_wp2_with fail
    refine CT.out.mono ?_
    rintro e w1 ⟨rfl, rfl⟩
    go_wp2
    go_ret
    exact ⟨none, 0, rfl, fun _ _ => SlR.nil, Below.refl _ _⟩
  · obtain ⟨x, hx⟩ := get_of_lt (xs := T) (k := 0) (by omega)
    obtain ⟨b, off, rfl, _⟩ := hT.cell hx
    have HT := Lib.hid hT
    have hmk := run_make_nat .i64 T.length hlT w
    have h0i : ((T.length : Int) == 0) = false := by rw [beq_eq_false_iff_ne]; omega
    clear hx hT h0
    go_enter Try.func90, Try.ntmps90
    go_wp2_with fail
    refine CT.out.mono ?_
    rintro e w1 ⟨rfl, rfl⟩
    have hg := Blk.new w 80 (madeCells #[.int .u16 0] T.length)
    have hms : (madeCells #[.int .u16 0] T.length).size = T.length := by simp [madeCells]
    have hsrc : ∀ j v, (T.map (Value.int .u16))[j]? = some v → (w.alloc (.cells (madeCells #[.int .u16 0] T.length) 80)).cell? ((⟨b, off, none⟩ : Addr).add j) = some v := fun j v hv => by
      rw [List.getElem?_map] at hv
      obtain ⟨y, hy, rfl⟩ := Option.map_eq_some_iff.1 hv
      obtain ⟨b2, off2, e2, hc2⟩ := HT.out.cell hy
      injection e2 with e2
      injection e2 with e3 e4
      subst e3
      subst e4
      rw [Addr.add_lit]
      exact Ext.alloc (Ext.refl w) _ _ _ hc2
    have HG := Lib.hid hg
    have HSRC := Lib.hid hsrc
    have HMS := Lib.hid hms
    have HMK := Lib.hid hmk
    clear hg hsrc hms
    have hcp := run_copy_row (P := Try.prog) (w.alloc (.cells (madeCells #[.int .u16 0] T.length) 80)) 29 29 3 80 w.heap.size 0 T.length T.length ⟨b, off, none⟩ T.length c _ 80 (T.map (Value.int .u16)) Try.underlying29 sizeN HG.out (by simp) HSRC.out (by rw [HMS.out]; simp) (by simp [Value.oneCell'])
    have hX : (madeCells #[.int .u16 0] T.length).toList.take 0 ++ T.map (Value.int .u16) ++ (madeCells #[.int .u16 0] T.length).toList.drop (0 + (T.map (Value.int .u16)).length) = T.map (Value.int .u16) := by
      rw [List.take_zero, List.nil_append, List.drop_eq_nil_of_le (by rw [Array.length_toList, HMS.out]; simp), List.append_nil]
    rw [hX] at hcp
    have hF : BlkN ((w.alloc (.cells (madeCells #[.int .u16 0] T.length) 80)).setRow w.heap.size (T.map (Value.int .u16)).toArray) w.heap.size T := setRow_heap _ _ _ _ _ _ HG.out
    have hB : Below w.heap.size w ((w.alloc (.cells (madeCells #[.int .u16 0] T.length) 80)).setRow w.heap.size (T.map (Value.int .u16)).toArray) := below_setRow ((Below.refl _ _).alloc (Nat.le_refl _) _) (Nat.le_refl _) _
    revert hF hB hcp
    generalize (w.alloc (.cells (madeCells #[.int .u16 0] T.length) 80)).setRow w.heap.size (T.map (Value.int .u16)).toArray = w2
    intro hcp hF hB
    go_wp2
    go_ret
    exact ⟨_, _, rfl, fun V hV => hF.readsV (Nat.le_refl _) hV huT (Nat.le_refl _) (by unfold maxLen; omega), hB⟩
end Go.Proofs.Ytfahnnkppakiiaa

/- A world in which only one block that was there may have turned. No function of the program in sight. -/
namespace Go.Proofs.Ytfahnnkppakiiaa
open Go.RowKit
section
variable {w w' w'' : World} {g : Nat}
theorem but_refl (w : World) (g : Nat) : w.grownBy w (some g) := World.grownBy.refl _ _
theorem but_alloc (h : w.grownBy w' (some g)) (o : Obj) : w.grownBy (w'.alloc o) (some g) := h.trans (World.grownBy_alloc _ _ _)
theorem but_drew (h : w.grownBy w' (some g)) : w.grownBy w'.drew (some g) := ⟨h.os, h.tape, h.output, h.size, h.block⟩
theorem but_drewN (h : w.grownBy w' (some g)) (n : Nat) : w.grownBy (w'.drewN n) (some g) := ⟨h.os, h.tape, h.output, h.size, h.block⟩
theorem but_set (h : w.grownBy w' (some g)) (i : Nat) (u : Value) : w.grownBy (w'.setCell ⟨g, i, none⟩ u) (some g) :=
  h.trans ⟨rfl, rfl, rfl, by simp [World.setCell], fun k _ hk => Below.heap_setCell _ _ _ _ (fun e => hk (by simp at e; rw [e]))⟩
theorem but_set_new (h : w.grownBy w' (some g)) {p : Addr} (hp : w.heap.size ≤ p.block) (u : Value) : w.grownBy (w'.setCell p u) (some g) :=
  ⟨h.os, h.tape, h.output, by have := h.size; simpa [World.setCell] using this, fun k hk hne => (Below.heap_setCell _ _ _ _ (by omega)).trans (h.block k hk hne)⟩
theorem but_below (h : w.grownBy w' (some g)) (hb : Below w'.heap.size w' w'') : w.grownBy w'' (some g) :=
  ⟨hb.os.trans h.os, hb.tape.trans h.tape, hb.output.trans h.output, Nat.le_trans h.size hb.size, fun k hk hne => (hb.block k (Nat.lt_of_lt_of_le hk h.size)).trans (h.block k hk hne)⟩
theorem but_append {α : Type} {f : α → List Value} {sz : Nat} {t : TypeId} {B : Nat} {W : World} {a : Option Addr} {c : Nat} {l : List α} (h : w.grownBy w' (some g)) (ho : Own f sz t B W a c l) (hB : w.heap.size ≤ B)
    (hg : w'.grownBy w'' (Value.ownBlock (.slice a l.length c))) : w.grownBy w'' (some g) :=
  h.andThen hg fun j hj => .inl (by
    cases a with
    | none => simp [Value.ownBlock] at hj
    | some p => simp [Value.ownBlock] at hj; have := (ho.lt rfl).1; omega)
theorem below_but {B : Nat} {w0 : World} (hb : Below B w0 w) (h : w.grownBy w' (some g)) (hg : B ≤ g) (hB : B ≤ w.heap.size) : Below B w0 w' := hb.grown h hB (fun k hk => by injection hk with hk; omega)
theorem New.but_back {B : Nat} {V : World} (h : New B w' V) (hg : w.grownBy w' (some g)) : NewBut B (some ⟨g, 0, none⟩) w V := fun p v hp hne hc =>
  h p v hp (hg.cell hc (fun e => hne _ rfl (by injection e)))
theorem NewBut.but_back {B : Nat} {V : World} (h : NewBut B (some ⟨g, 0, none⟩) w' V) (hg : w.grownBy w' (some g)) : NewBut B (some ⟨g, 0, none⟩) w V := fun p v hp hne hc =>
  h p v hp hne (hg.cell hc (fun e => hne _ rfl (by injection e)))
theorem Own.but {α : Type} {f : α → List Value} {sz : Nat} {t : TypeId} {B : Nat} {a : Option Addr} {c : Nat} {l : List α} (ho : Own f sz t B w a c l) (h : w.grownBy w' (some g)) (hB : g < B) : Own f sz t B w' a c l :=
  ho.grown h fun p hp e => by have := (ho.lt hp).1; injection e with e; omega
theorem Own.but2 {α : Type} {f : α → List Value} {sz : Nat} {t : TypeId} {B : Nat} {a : Option Addr} {c : Nat} {l : List α} (ho : Own f sz t B w a c l) (h : w.grownBy w' (some g)) (hne : ∀ p, a = some p → p.block ≠ g) : Own f sz t B w' a c l :=
  ho.grown h fun p hp e => by have := hne p hp; injection e with e; omega
theorem below_app {α : Type} {f : α → List Value} {sz : Nat} {t : TypeId} {B B' : Nat} {w0 W : World} {a : Option Addr} {c : Nat} {l : List α} (h : Below B w0 w) (ho : Own f sz t B' W a c l) (hB : B ≤ B') (hs : B ≤ w.heap.size)
    (hg : w.grownBy w' (Value.ownBlock (.slice a l.length c))) : Below B w0 w' := h.grown hg hs fun k hk => by
  cases a with
  | none => simp [Value.ownBlock] at hk
  | some p => simp [Value.ownBlock] at hk; have := (ho.lt rfl).1; omega
end
end Go.Proofs.Ytfahnnkppakiiaa

/- Rows of limbs in blocks that a call writes itself: the first cells are the limbs, behind them lies anything. No function of the program in sight. -/
namespace Go.Proofs.Ytfahnnkppakiiaa
open Go.RowKit

/-- block g is a row of these limbs, and behind them the cells r -/
def RowN (w : World) (g : Nat) (l : List Int) (r : List Value) : Prop := Blk w g 80 (l.map (Value.int .u16) ++ r).toArray
section
variable {w w' : World} {g : Nat} {l : List Int} {r : List Value}
theorem RowN.lt (h : RowN w g l r) : g < w.heap.size := Blk.lt h
theorem RowN.cell (h : RowN w g l r) {i : Nat} {x : Int} (hx : l[i]? = some x) : w.cell? ⟨g, i, none⟩ = some (.int .u16 x) := by
  have hi := lt_of_get hx
  rw [Blk.cell h i]
  simp only [List.getElem?_toArray]
  rw [List.getElem?_append_left (by simpa using hi), List.getElem?_map, hx]
  rfl
theorem RowN.frozen (h : RowN w g l r) (i : Nat) : w.frozen? ⟨g, i, none⟩ = false := Blk.frozen h i
theorem RowN.set_ (h : RowN w g l r) {i : Nat} (hi : i < l.length) (x : Int) : RowN (w.setCell ⟨g, i, none⟩ (.int .u16 x)) g (l.set i x) r := by
  have := Blk.set_ h i (.int .u16 x)
  unfold RowN
  rw [List.setIfInBounds_toArray, List.set_append_left _ _ (by simpa using hi), ← List.map_set] at this
  exact this
theorem RowN.below (h : RowN w g l r) (hb : Below w.heap.size w w') : RowN w' g l r := Blk.below' h hb
theorem RowN.alloc (h : RowN w g l r) (o : Obj) : RowN (w.alloc o) g l r := Blk.alloc h o
theorem RowN.far (h : RowN w g l r) {p : Addr} (hp : g ≠ p.block) (u : Value) : RowN (w.setCell p u) g l r := Blk.far h hp u
theorem RowN.but {g' : Nat} (h : RowN w g l r) (hg : w.grownBy w' (some g')) (hne : g ≠ g') : RowN w' g l r := Blk.grown h hg (fun e => hne (by injection e))
theorem RowN.cut (h : RowN w g l r) (k : Nat) : RowN w g (l.take k) ((l.drop k).map (Value.int .u16) ++ r) := by
  unfold RowN at h ⊢
  rw [← List.append_assoc, ← List.map_append, List.take_append_drop]
  exact h
theorem RowN.of (h : BlkN w g l) : RowN w g l [] := by
  unfold RowN
  rw [List.append_nil]
  exact h
/-- the row's first limbs are owned -/
theorem RowN.own (h : RowN w g l r) {B : Nat} (hB : B ≤ g) {c : Nat} (hc : c = l.length + r.length) (hm : c ≤ maxLen) (k : Nat) (hk : k ≤ l.length) : OwnN B w (some ⟨g, 0, none⟩) c (l.take k) := by
  subst hc
  have hl : (l.take k).length = k := by simp; omega
  refine ⟨by rw [flatMap_len natC_len], .inr ⟨g, _, _, rfl, hB, h, by omega, hm, by simp, ?_⟩⟩
  rw [natC_map, hl, Nat.mul_one, List.take_append_of_le_length (by simpa using hk), List.map_take]
/-- an owned row lies in a block of its own -/
theorem own_row {B : Nat} {a : Option Addr} {c : Nat} (h : OwnN B w a c l) (h0 : 0 < l.length) : ∃ g r, a = some ⟨g, 0, none⟩ ∧ B ≤ g ∧ c = l.length + r.length ∧ RowN w g l r := by
  rcases h.2 with ⟨_, hn⟩ | ⟨g, cap, cur, e, hg, hh, hc, hm, hs, ht⟩
  · omega
  · injection e with e1 e2 e3
    subst e1
    subst e3
    refine ⟨g, cur.toList.drop l.length, rfl, hg, by simp only [List.length_drop, Array.length_toList, hs]; omega, ?_⟩
    unfold RowN Blk
    rw [hh]
    rw [natC_map, Nat.mul_one] at ht
    rw [← ht, List.take_append_drop]
theorem RowN.readsAt (h : RowN w g l r) (hs : U16 l) (j k c : Nat) (hk : k ≤ c) (hc : c ≤ maxLen) : NatR w (some ⟨g, j, none⟩) c ((l.drop j).take k) := by
  refine ⟨by simp; omega, hc, fun i x hx => ⟨g, j, rfl, ?_⟩⟩
  rw [List.getElem?_take] at hx
  split at hx
  · rw [List.getElem?_drop] at hx
    exact ⟨by simpa using h.cell hx, u16_wf (hs x (List.mem_of_getElem? hx))⟩
  · cases hx
theorem RowN.readsV (h : RowN w g l r) {B : Nat} {V : World} (hB : B ≤ g) (hV : New B w V) (hs : U16 l) {c : Nat} (hc : l.length ≤ c) (hm : c ≤ maxLen) : NatR V (some ⟨g, 0, none⟩) c l :=
  ⟨hc, hm, fun k x hx => ⟨g, 0, rfl, by simpa using hV _ _ (by simpa using hB) (h.cell hx), u16_wf (hs x (List.mem_of_getElem? hx))⟩⟩
/-- limbs that lie in another block stay -/
theorem NatR.other {a : Option Addr} {c : Nat} (h : NatR w a c l) (hg : w.grownBy w' (some g)) (hne : ∀ p, a = some p → p.block ≠ g) : NatR w' a c l := by
  refine ⟨h.1, h.2.1, fun k x hx => ?_⟩
  obtain ⟨b, off, rfl, hc, hw⟩ := h.2.2 k x hx
  exact ⟨b, off, rfl, hg.cell hc (fun e => hne _ rfl (by injection e)), hw⟩
end
/-- 'make(api.Nat, n, c)' -/
theorem run_make_nat2 (k : IntKind) (n c : Nat) (hn : n ≤ c) (hc : c ≤ 16777216) (w : World) :
    (Instr.makeSlice 29 (.int k (n : Int)) (.int k (c : Int))).run Try.prog w = .ok (.slice (some ⟨w.heap.size, 0, none⟩) n c) (w.alloc (.cells (madeCells #[.int .u16 0] c) 80)) := by
  obtain ⟨i, hi, hzz⟩ := Option.map_eq_some_iff.1 infoN
  simp only [Prod.mk.injEq] at hzz
  obtain ⟨hz, hs, hb⟩ := hzz
  have hr := run_make (P := Try.prog) w 29 80 i (.int .u16 0) Try.underlying29 hi hz k k n c (by omega) (by omega) (by rw [hb]; omega) (by omega)
  simp only [Int.toNat_natCast, hs, Nat.mul_one] at hr
  exact hr
end Go.Proofs.Ytfahnnkppakiiaa

/- Walks: the program's natural numbers: Of, Uint. -/
namespace Go.Proofs.Ytfahnnkppakiiaa
open Go.RowKit

theorem uint_bits {n y q z : Nat} (c : Nat) (hn : n < c) (hy : y ≤ 65535) (hc : c ≤ 281474976710656) (hz : n ||| y * c = q) (e : (z : Int) = (y : Int) * (c : Int)) : bits .or .u64 (n : Int) (z : Int) = (q : Int) := by
  have h1 : z = y * c := by
    have : ((z : Nat) : Int) = ((y * c : Nat) : Int) := by rw [e]; simp
    omega
  subst h1
  have h2 : y * c ≤ 65535 * 281474976710656 := Nat.mul_le_mul hy hc
  rw [u64_or_nat _ _ (by omega) (by omega), hz]
theorem wrap16 (n : Nat) : IntKind.u16.wrap (n : Int) = ((n % 65536 : Nat) : Int) := by simp [IntKind.wrap, IntKind.bits, IntKind.signed]
theorem wrap32u (n : Nat) : IntKind.u32.wrap (n : Int) = ((n % 4294967296 : Nat) : Int) := by simp [IntKind.wrap, IntKind.bits, IntKind.signed]
theorem wrap64u (n : Nat) : IntKind.u64.wrap (n : Int) = ((n % 18446744073709551616 : Nat) : Int) := by simp [IntKind.wrap, IntKind.bits, IntKind.signed]
set_option maxHeartbeats 1000000 in
theorem of_any (n : Nat) (w : World) (hn : n < 18446744073709551616) :
    Calls Try.prog 85 #[.int .u64 n] w (RetN (limbs n) w) := by
  go_enter Try.func85, Try.ntmps85
  go_wp2
  go_loopw [0, 3] (fun i s wr => ∃ (m : Nat) (l : List Int) (a : Option Addr) (c : Nat), m ≤ n ∧ i = .int .u64 m ∧ s = .slice a l.length c ∧ OwnN w.heap.size wr a c l ∧ U16 l ∧ l.length ≤ 1000 ∧ Below w.heap.size w wr ∧ Hid (limbs n = l ++ limbs m)) (fun i _ _ => (intOf i).toNat)
  case atStart => exact ⟨n, [], none, 0, Nat.le_refl _, rfl, rfl, Own.nil, U16.nil, by simp, Below.refl _ _, rfl⟩
  case round =>
    obtain ⟨m, l, a, c, hm, rfl, rfl, ho, hU, hlen, hb, hr⟩ := hrel
    have HO := Lib.hid ho
    clear ho
    by_cases h0 : m = 0
    · subst h0
      have HR : limbs n = l := by have := hr.out; rw [limbs_zero] at this; simpa using this
      replace HR := Lib.hid HR
      go_wp2
      go_ret
      exact RetN.own HO.out hU hb HR.out rfl
    · have hgt : decide ((0 : Int) < (m : Int)) = true := by simp; omega
      have hs : limbs m = ((m % 65536 : Nat) : Int) :: limbs (m / 65536) := limbs_pos h0
      have hr2 : limbs n = (l ++ [((m % 65536 : Nat) : Int)]) ++ limbs (m / 65536) := by rw [hr.out, hs]; simp
      have HR := Lib.hid hr2
      clear hs hr2
      have hlt : m < 18446744073709551616 := by omega
      have hm1 : ((m : Int) % 65536) = ((m % 65536 : Nat) : Int) := by omega
      have hm2 : ((m : Int) / 65536) = ((m / 65536 : Nat) : Int) := by omega
      have hw := wrap16 m
      have HM1 := Lib.hid hm1
      have HM2 := Lib.hid hm2
      clear hm1 hm2
      go_wp2_with (at_builtin; go_must (refine append_nat rfl (.tmp 8) (.tmp 11) rfl a c rfl (HO.out.alloc _) ((m % 65536 : Nat) : Int) wr.heap.size 1 rfl (by simp <;> omega) (l ++ [((m % 65536 : Nat) : Int)]) rfl (by simp; omega) (by have := hb.size; simp; omega) ?_); intro a2 c2 w2 ho2 hg2 hx2)
      go_roundw
      case rel =>
        have hb1 : Below w.heap.size w w2 := below_append' (hb.alloc hb.size _) (HO.out.alloc _) hg2
        have hl4 : (l ++ [((m % 65536 : Nat) : Int)]).length ≤ 1000 := by
          have h4 : (limbs n).length ≤ 4 := limbs_len_le (by simpa using hn)
          rw [HR.out] at h4
          simp only [List.length_append] at h4 ⊢
          omega
        exact ⟨m / 65536, l ++ [((m % 65536 : Nat) : Int)], a2, c2, by omega, by rw [HM2.out], by simp, ho2, hU.app (U16.cons (by omega) U16.nil), hl4, hb1, HR.out⟩
      case measure => rw [HM2.out]; simp [intOf]; omega

set_option maxHeartbeats 1000000 in
theorem uint_small (l : List Int) (n : Nat) (a : Option Addr) (c : Nat) (w : World) (h : NatR w a c l) (hn : val l = n) (hs : n < 18446744073709551616) :
    Calls Try.prog 110 #[.slice a l.length c] w fun e w' => e = .returned (.tuple #[.int .u64 n, .bool true]) ∧ w = w' := by
  have CT := trim_any l a c w h
  have hT := h.trim
  have hu := limbs_u16 (val l)
  rw [hn] at CT hT hu
  have hlen : (limbs n).length ≤ 4 := small_iff.2 hs
  have hvT := val_limbs n
  revert CT hT hlen hu hvT
  generalize limbs n = T
  intro CT hT hu hlen hvT
  replace CT := Lib.hid CT
  have HT := Lib.hid hT
  have HV := Lib.hid hvT
  clear h hn hT hvT
  go_enter Try.func110, Try.ntmps110
  go_wp2_with fail
  refine CT.out.mono ?_
  rintro e w1 ⟨rfl, rfl⟩
  go_wp2
  obtain ⟨wo, rfl⟩ : ∃ wo : World, wo = w := ⟨_, rfl⟩
  go_loopg [4, 5, 6, 14] T.length (fun g x _ _ i wr => ∃ k : Nat, k + g = T.length ∧ i = .int .i64 k ∧ wo = wr ∧ x = .int .u64 (val (T.take k) : Nat))
  case atStart => exact ⟨0, by omega, rfl, rfl, by simp [val]⟩
  case round =>
    obtain ⟨k, hkg, rfl, rfl, rfl⟩ := hrel
    have HKG := Lib.hid hkg
    clear hkg
    by_cases hlt : k < T.length
    · obtain ⟨x, hx⟩ := get_of_lt hlt
      obtain ⟨b, off, rfl, hc⟩ := HT.out.cell hx
      obtain ⟨hx0, hx1⟩ := hu.get hx
      obtain ⟨y, rfl⟩ : ∃ y : Nat, x = (y : Int) := ⟨x.toNat, by omega⟩
      have hvt := val_take hx
      have hlt2 : val (T.take k) < 65536 ^ k := by
        have := val_lt (hu.take k)
        have e : (T.take k).length = k := by simp; omega
        rwa [e] at this
      rw [Int.toNat_natCast] at hvt
      have hor := uint_or (x := y) hlt2
      rw [← hvt] at hor
      have hkc : k = 0 ∨ k = 1 ∨ k = 2 ∨ k = 3 := by omega
      have HOR := Lib.hid hor
      revert hlt2
      generalize val (T.take k) = p at *
      intro hlt2
      clear hvt hor hx
      rcases hkc with rfl | rfl | rfl | rfl
      · rw [Nat.add_zero] at hc
        go_wp2
        go_roundg (gk - 1)
        case rel => exact ⟨1, by have := HKG.out; omega, by go_num, rfl, val_int (uint_bits (z := y) (y := y) 1 (by simpa using hlt2) (by omega) (by omega) (by have h := HOR.out; rw [Nat.pow_zero] at h; exact h) (by simp))⟩
        case measure => have := HKG.out; omega
      · go_wp2
        go_roundg (gk - 1)
        case rel => exact ⟨2, by have := HKG.out; omega, by go_num, rfl, val_int (uint_bits (z := y * 65536) 65536 (by simpa using hlt2) (by omega) (by omega) HOR.out (by simp))⟩
        case measure => have := HKG.out; omega
      · go_wp2
        go_roundg (gk - 1)
        case rel => exact ⟨3, by have := HKG.out; omega, by go_num, rfl, val_int (uint_bits (z := y * 4294967296) 4294967296 (by simpa using hlt2) (by omega) (by omega) HOR.out (by simp))⟩
        case measure => have := HKG.out; omega
      · go_wp2
        go_roundg (gk - 1)
        case rel => exact ⟨4, by have := HKG.out; omega, by go_num, rfl, val_int (uint_bits (z := y * 281474976710656) 281474976710656 (by simpa using hlt2) (by omega) (by omega) HOR.out (by simp))⟩
        case measure => have := HKG.out; omega
    · have hr : val (T.take k) = n := by rw [take_all hlt]; exact HV.out
      have HR := Lib.hid hr
      clear hr
      go_wp2
      go_ret2
      refine ⟨?_, rfl⟩
      rw [HR.out]
      rfl
set_option maxHeartbeats 1000000 in
theorem uint_big (l : List Int) (n : Nat) (a : Option Addr) (c : Nat) (w : World) (h : NatR w a c l) (hn : val l = n) (hs : ¬ n < 18446744073709551616) :
    Calls Try.prog 110 #[.slice a l.length c] w fun e w' => e = .returned (.tuple #[.int .u64 0, .bool false]) ∧ w = w' := by
  have CT := trim_any l a c w h
  rw [hn] at CT
  have hlen : ¬ (limbs n).length ≤ 4 := fun e => hs (small_iff.1 e)
  have hmx := h.len
  have hle := limbs_len_val h.u16
  rw [hn] at hle
  revert CT hlen hle
  generalize limbs n = T
  intro CT hlen hle
  replace CT := Lib.hid CT
  clear h hn hs
  go_enter Try.func110, Try.ntmps110
  go_wp2_with fail
  refine CT.out.mono ?_
  rintro e w1 ⟨rfl, rfl⟩
  go_wp2
  go_ret2
  exact ⟨rfl, rfl⟩
end Go.Proofs.Ytfahnnkppakiiaa
