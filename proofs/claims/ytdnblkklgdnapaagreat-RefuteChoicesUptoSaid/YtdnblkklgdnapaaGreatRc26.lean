/- Walk: whether a string is a name, by the reference. -/
import Derived.Test.YtdnblkklgdnapaaGreatRc10
import Derived.Test.YtdnblkklgdnapaaGreatRc25
import Derived.Test.YtdnblkklgdnapaaGreatRc14
import Derived.LoopN
import Derived.Test.YtdnblkklgdnapaaGreatRows
import Derived.Test.YtdnblkklgdnapaaGreatRc6
import Derived.Deep.LoopGhost
set_option linter.all false
set_option maxRecDepth 100000
set_option maxHeartbeats 4000000
namespace Go.Proofs.YtdnblkklgdnapaaGreat
open Go.RowKit
def Rt.none (r : Rt) : Bool := !r.neg && decide (r.num.length = 0) && decide (r.den.length = 0)
def arity14 (k : Int) : Int := if k = 1 \/ k = 5 then 3 else if k = 2 \/ k = 3 \/ k = 4 \/ k = 6 \/ k = 9 then 4 else if k = 7 then 8 else if k = 8 then 2 else 0
def arity20 (k : Int) : Int := if k = 1 then 0 else if k = 2 \/ k = 5 \/ k = 6 \/ k = 14 then 2 else if k = 3 \/ k = 4 \/ k = 7 \/ k = 8 \/ k = 10 \/ k = 11 then 3 else if k = 9 \/ k = 12 \/ k = 13 then 4 else -1
def badArg (n a : Int) : Bool := decide (a < 0 \/ n <= a)
def errFct (f : Fct) (n : Int) : Int :=
 if arity14 f.kind = 0 then 8
 else if (f.args.length : Int) ≠ arity14 f.kind then 1
 else if f.args.any (badArg n) = true then 2
 else if f.kind = 9 /\ f.ratio.right = false then 1
 else if f.kind ≠ 9 /\ f.ratio.none = false then 1
 else 0
def errStep (l : List Step) (s : Step) (i : Nat) : Int :=
 if arity20 s.kind < 0 then 8
 else if (s.args.length : Int) ≠ arity20 s.kind then 1
 else if s.args.any (badArg i) = true then 2
 else if s.kind = 2 /\ s.ratio.right = false then 1
 else if s.kind ≠ 2 /\ s.ratio.none = false then 1
 else if s.point = ⟨#[]⟩ then 0
 else if isNameB s.point = false then 6
 else if (l.take i).any (fun t => decide (t.point = s.point)) = true then 7
 else 0
def errSteps (l : List Step) : List Step -> Nat -> Int
 | [], _ => 0
 | s :: r, i => if errStep l s i ≠ 0 then errStep l s i else errSteps l r (i + 1)
def errGoals (n : Int) : List Fct -> Int
 | [] => 0
 | f :: r => if errFct f n ≠ 0 then errFct f n else errGoals n r
def Fig.err (f : Fig) : Int := if 40 < f.steps.length \/ 8 < f.goals.length then 4 else if errSteps f.steps f.steps 0 ≠ 0 then errSteps f.steps f.steps 0 else errGoals f.steps.length f.goals
def Rt.q (r : Rt) : Rat := qv r.neg (Go.Proofs.YtdnblkklgdnapaaGreat.val r.num) (Go.Proofs.YtdnblkklgdnapaaGreat.val r.den)
def RtZ (w : World) (r : Rt) (z : QA) : Prop := z.neg = r.neg /\ z.n = r.num.length /\ z.m = r.den.length /\ NatR w z.a z.c r.num /\ NatR w z.b z.d r.den
theorem right_trip {r : Rt} (h : r.right = true) : r.neg = decide (r.q.num < 0) /\ limbs r.q.num.natAbs = r.num /\ limbs r.q.den = r.den := by
 unfold Rt.right rightI canonB at h
 simp only [Bool.and_eq_true, decide_eq_true_eq, Bool.not_eq_true', Bool.and_eq_false_iff, decide_eq_false_iff_not] at h
 obtain ⟨⟨⟨⟨h1, h2⟩, h3⟩, h4⟩, h5⟩ := h
 have e := lowest_qv r.neg (Go.Proofs.YtdnblkklgdnapaaGreat.val r.num) (Go.Proofs.YtdnblkklgdnapaaGreat.val r.den)
 have hd : Go.Proofs.YtdnblkklgdnapaaGreat.val r.den ≠ 0 := by
  intro e0
  rw [e0, limbs_zero] at h3
  rw [<- h3] at h5
  simp at h5
 have e2 : lowest r.neg (Go.Proofs.YtdnblkklgdnapaaGreat.val r.num) (Go.Proofs.YtdnblkklgdnapaaGreat.val r.den) = (r.neg, Go.Proofs.YtdnblkklgdnapaaGreat.val r.num, Go.Proofs.YtdnblkklgdnapaaGreat.val r.den) := by
  by_cases h0 : Go.Proofs.YtdnblkklgdnapaaGreat.val r.num = 0
  ·
   have hn : r.num.length = 0 := by rw [<- h1, h0, limbs_zero]; rfl
   have hneg : r.neg = false := by
    rcases h2 with h2 | h2
    · exact h2
    · exact (h2 hn).elim
   have hd1 : Go.Proofs.YtdnblkklgdnapaaGreat.val r.den = 1 := by rw [h0, Nat.gcd_zero_left] at h4; exact h4
   rw [h0, hneg, hd1]
   rfl
  · exact lowest_one h0 hd h4
 rw [e2] at e
 unfold trip at e
 simp only [Prod.mk.injEq] at e
 unfold Rt.q
 refine ⟨e.1, ?_, ?_⟩
 · rw [<- e.2.1, h1]
 · rw [<- e.2.2, h3]
theorem RtZ.qk {w : World} {r : Rt} {z : QA} (h : RtZ w r z) (hr : r.right = true) (h1 : r.num.length <= 2) (h2 : r.den.length <= 2) : QK 2 w z r.q := by
 obtain ⟨e1, e2, e3⟩ := right_trip hr
 obtain ⟨z1, z2, z3, z4, z5⟩ := h
 refine ⟨⟨by rw [z1, e1], by rw [z2, e2], by rw [z3, e3], by rw [e2]; exact z4, by rw [e3]; exact z5⟩, ?_⟩
 unfold qsz
 rw [e2, e3]
 omega
structure Bx where
 a : Rt
 b : Rt
 c : Rt
 d : Rt
structure Pt where
 x : Rt
 y : Rt
section
variable {w w' : World} {a : Option Addr} {c : Nat}
end
def Rt.short (r : Rt) : Bool := r.right && decide (r.num.length <= 2) && decide (r.den.length <= 2)
theorem Rt.short_iff {r : Rt} : r.short = true ↔ r.right = true /\ r.num.length <= 2 /\ r.den.length <= 2 := by unfold Rt.short; simp [and_assoc]
theorem RtZ.sk {w : World} {r : Rt} {z : QA} (h : RtZ w r z) (hr : r.short = true) : QK 2 w z r.q := h.qk (Rt.short_iff.1 hr).1 (Rt.short_iff.1 hr).2.1 (Rt.short_iff.1 hr).2.2
def stepsF (x : Frm) (i : Nat) : List Step -> Option Frm
 | [] => some x
 | s :: r => if bigF (nextF x s.kind s.args s.ratio.q i) = true then none else stepsF (putF x s.kind (nextF x s.kind s.args s.ratio.q i)) (i + 1) r
def StepIn (s : Step) (k : Nat) : Prop := 1 <= s.kind /\ s.kind <= 14 /\ needK s.kind <= s.args.length /\ (∀ x ∈ s.args, 0 <= x /\ x < (k : Int)) /\ (s.kind = 2 -> s.ratio.right = true)
theorem stepIn_of {l : List Step} {s : Step} {k : Nat} (h : errStep l s k = 0) : StepIn s k := by
 unfold errStep at h
 have h1 : ¬ arity20 s.kind < 0 := fun h1 => by rw [if_pos h1] at h; simp at h
 rw [if_neg h1] at h
 have h2 : ¬ (s.args.length : Int) ≠ arity20 s.kind := fun h2 => by rw [if_pos h2] at h; simp at h
 rw [if_neg h2] at h
 have h3 : ¬ s.args.any (badArg k) = true := fun h3 => by rw [if_pos h3] at h; simp at h
 rw [if_neg h3] at h
 have h4 : ¬ (s.kind = 2 /\ s.ratio.right = false) := fun h4 => by rw [if_pos h4] at h; simp at h
 refine ⟨?_, ?_, ?_, fun x hx => ?_, fun hk => ?_⟩
 ·
  apply Int.not_lt.1
  intro hc
  apply h1
  unfold arity20
  repeat rw [if_neg (by omega)]
  decide
 ·
  apply Int.not_lt.1
  intro hc
  apply h1
  unfold arity20
  repeat rw [if_neg (by omega)]
  decide
 ·
  have h5 : (s.args.length : Int) = arity20 s.kind := by omega
  unfold needK
  split
  · next e => rw [arity20, if_neg (by omega), if_pos (by omega)] at h5; omega
  ·
   split
   · next e => rw [arity20, if_neg (by omega), if_neg (by omega), if_pos (by omega)] at h5; omega
   · omega
 ·
  have h6 : badArg k x = false := by
   cases hb : badArg k x with
   | false => rfl
   | true => exact absurd (List.any_eq_true.2 ⟨x, hx, hb⟩) h3
  unfold badArg at h6
  simp at h6
  omega
 ·
  cases hr : s.ratio.right with
  | true => rfl
  | false => exact absurd ⟨hk, hr⟩ h4
theorem errSteps_all {l : List Step} : ∀ (r : List Step) (i : Nat), errSteps l r i = 0 -> ∀ k s, r[k]? = some s -> errStep l s (i + k) = 0
 | [], _, _, k, s, hs => by simp at hs
 | t :: r, i, h, k, s, hs => by
  unfold errSteps at h
  have h0 : errStep l t i = 0 := by
   by_cases h0 : errStep l t i = 0
   · exact h0
   · rw [if_pos h0] at h; exact h
  rw [if_neg (fun e => e h0)] at h
  cases k with
  | zero => cases hs; exact h0
  | succ k =>
   have := errSteps_all r (i + 1) h k s (by simpa using hs)
   rwa [show i + (k + 1) = i + 1 + k by omega]
theorem fig_steps {f : Fig} (h : f.err = 0) : f.steps.length <= 40 /\ ∀ k s, f.steps[k]? = some s -> StepIn s k := by
 unfold Fig.err at h
 have h1 : ¬ (40 < f.steps.length \/ 8 < f.goals.length) := fun h1 => by rw [if_pos h1] at h; simp at h
 rw [if_neg h1] at h
 have h2 : errSteps f.steps f.steps 0 = 0 := by
  by_cases h2 : errSteps f.steps f.steps 0 = 0
  · exact h2
  · rw [if_pos h2] at h; exact h
 exact ⟨by omega, fun k s hs => stepIn_of (l := f.steps) (by have := errSteps_all f.steps 0 h2 k s hs; rwa [Nat.zero_add] at this)⟩
theorem eqb_false {a b : Int} (h : ¬ a = b) : (a == b) = false := by simpa using h
theorem arity14_any (k : Int) (w : World) : Calls Tryz.prog 147 #[.int .i64 k] w fun e w' => e = .returned (.int .i64 (arity14 k)) /\ w = w' := by
 by_cases hk : 1 <= k /\ k <= 9
 ·
  have hc : k = 1 \/ k = 2 \/ k = 3 \/ k = 4 \/ k = 5 \/ k = 6 \/ k = 7 \/ k = 8 \/ k = 9 := by omega
  clear hk
  rcases hc with rfl | rfl | rfl | rfl | rfl | rfl | rfl | rfl | rfl
  all_goals
   go_enter Tryz.func147, Tryz.ntmps147
   go_wp2
   go_ret
   exact ⟨ret_int (by decide), rfl⟩
 ·
  have h1 := eqb_false (a := k) (b := 1) (by omega); have h2 := eqb_false (a := k) (b := 2) (by omega); have h3 := eqb_false (a := k) (b := 3) (by omega)
  have h4 := eqb_false (a := k) (b := 4) (by omega); have h5 := eqb_false (a := k) (b := 5) (by omega); have h6 := eqb_false (a := k) (b := 6) (by omega)
  have h7 := eqb_false (a := k) (b := 7) (by omega); have h8 := eqb_false (a := k) (b := 8) (by omega); have h9 := eqb_false (a := k) (b := 9) (by omega)
  have hr : arity14 k = 0 := by unfold arity14; rw [if_neg (by omega), if_neg (by omega), if_neg (by omega), if_neg (by omega)]
  rw [hr]
  clear hr hk
  go_enter Tryz.func147, Tryz.ntmps147
  go_wp2
  go_ret
  exact ⟨rfl, rfl⟩
theorem arity20_any (k : Int) (w : World) : Calls Tryz.prog 144 #[.int .i64 k] w fun e w' => e = .returned (.int .i64 (arity20 k)) /\ w = w' := by
 by_cases hk : 1 <= k /\ k <= 14
 ·
  have hc : k = 1 \/ k = 2 \/ k = 3 \/ k = 4 \/ k = 5 \/ k = 6 \/ k = 7 \/ k = 8 \/ k = 9 \/ k = 10 \/ k = 11 \/ k = 12 \/ k = 13 \/ k = 14 := by omega
  clear hk
  rcases hc with rfl | rfl | rfl | rfl | rfl | rfl | rfl | rfl | rfl | rfl | rfl | rfl | rfl | rfl
  all_goals
   go_enter Tryz.func144, Tryz.ntmps144
   go_wp2
   go_ret
   exact ⟨ret_int (by decide), rfl⟩
 ·
  have h1 := eqb_false (a := k) (b := 1) (by omega); have h2 := eqb_false (a := k) (b := 2) (by omega); have h3 := eqb_false (a := k) (b := 3) (by omega)
  have h4 := eqb_false (a := k) (b := 4) (by omega); have h5 := eqb_false (a := k) (b := 5) (by omega); have h6 := eqb_false (a := k) (b := 6) (by omega)
  have h7 := eqb_false (a := k) (b := 7) (by omega); have h8 := eqb_false (a := k) (b := 8) (by omega); have h9 := eqb_false (a := k) (b := 9) (by omega)
  have h10 := eqb_false (a := k) (b := 10) (by omega); have h11 := eqb_false (a := k) (b := 11) (by omega); have h12 := eqb_false (a := k) (b := 12) (by omega)
  have h13 := eqb_false (a := k) (b := 13) (by omega); have h14 := eqb_false (a := k) (b := 14) (by omega)
  have hr : arity20 k = -1 := by unfold arity20; rw [if_neg (by omega), if_neg (by omega), if_neg (by omega), if_neg (by omega)]
  rw [hr]
  clear hr hk
  go_enter Tryz.func144, Tryz.ntmps144
  go_wp2
  go_ret
  exact ⟨rfl, rfl⟩
theorem arity14_in (k : Int) : 0 <= arity14 k /\ arity14 k <= 8 := by unfold arity14; split <;> (try split) <;> (try split) <;> (try split) <;> omega
theorem arity20_in (k : Int) : -1 <= arity20 k /\ arity20 k <= 4 := by unfold arity20; split <;> (try split) <;> (try split) <;> (try split) <;> omega
theorem none14_any (r : Rt) (na : Option Addr) (nc : Nat) (da : Option Addr) (dc : Nat) (w : World) (hl : r.num.length <= 2000000) (hm : r.den.length <= 2000000) :
  Calls Tryz.prog 148 #[r.val na nc da dc] w fun e w' => e = .returned (.bool r.none) /\ Below w.heap.size w w' := by
 obtain ⟨neg, num, den⟩ := r
 unfold Rt.val Rt.none
 dsimp only at hl hm ⊢
 by_cases h1 : num.length = 0 <;> by_cases h2 : den.length = 0
 all_goals
  have e1 : ((num.length : Int) == 0) = decide (num.length = 0) := by rw [Bool.eq_iff_iff]; simp
  have e2 : ((den.length : Int) == 0) = decide (den.length = 0) := by rw [Bool.eq_iff_iff]; simp
  have d1 : decide (num.length = 0) = decide (num.length = 0) := rfl
  simp only [h1, h2, decide_true, decide_false] at e1 e2
  have HH : (decide (num.length = 0), decide (den.length = 0)) = (decide (num.length = 0), decide (den.length = 0)) := rfl
  simp only [h1, h2, decide_true, decide_false] at HH ⊢
  clear HH d1
  cases neg
  all_goals
   have H1 := Hd h1
   have H2 := Hd h2
   clear h1 h2
   go_enter Tryz.func148, Tryz.ntmps148
   go_wp2
   go_ret
   exact ⟨rfl, brf.alloc (nlr _) _⟩
theorem none20_any (r : Rt) (na : Option Addr) (nc : Nat) (da : Option Addr) (dc : Nat) (w : World) (hl : r.num.length <= 2000000) (hm : r.den.length <= 2000000) :
  Calls Tryz.prog 145 #[r.val na nc da dc] w fun e w' => e = .returned (.bool r.none) /\ Below w.heap.size w w' := by
 obtain ⟨neg, num, den⟩ := r
 unfold Rt.val Rt.none
 dsimp only at hl hm ⊢
 by_cases h1 : num.length = 0 <;> by_cases h2 : den.length = 0
 all_goals
  have e1 : ((num.length : Int) == 0) = decide (num.length = 0) := by rw [Bool.eq_iff_iff]; simp
  have e2 : ((den.length : Int) == 0) = decide (den.length = 0) := by rw [Bool.eq_iff_iff]; simp
  have d1 : decide (num.length = 0) = decide (num.length = 0) := rfl
  simp only [h1, h2, decide_true, decide_false] at e1 e2
  have HH : (decide (num.length = 0), decide (den.length = 0)) = (decide (num.length = 0), decide (den.length = 0)) := rfl
  simp only [h1, h2, decide_true, decide_false] at HH ⊢
  clear HH d1
  cases neg
  all_goals
   have H1 := Hd h1
   have H2 := Hd h2
   clear h1 h2
   go_enter Tryz.func145, Tryz.ntmps145
   go_wp2
   go_ret
   exact ⟨rfl, brf.alloc (nlr _) _⟩
theorem rightI_any (neg : Bool) (num : List Int) (a : Option Addr) (c : Nat) (w : World) (h : NatR w a c num) :
  Calls Tryz.prog 130 #[.agg #[.bool neg, .slice a num.length c]] w fun e w' => e = .returned (.bool (rightI neg num)) /\ Below w.heap.size w w' := by
 have hlen := h.len
 have hu := h.u16
 have hb0 : Below w.heap.size w (w.alloc (.cells #[.bool neg, .slice a num.length c] 30)) := brf.alloc (nlr _) _
 by_cases h0 : num.length = 0
 ·
  obtain rfl : num = [] := List.length_eq_zero_iff.1 h0
  have hr : rightI neg [] = !neg := by simp [rightI, canonB, val, limbs_zero]
  rw [hr]
  clear h hu h0 hr
  cases neg
  all_goals
   go_enter Tryz.func130, Tryz.ntmps130
   go_wp2
   go_ret
   exact ⟨rfl, hb0⟩
 ·
  obtain ⟨x, hx⟩ := get_of_lt (xs := num) (k := num.length - 1) (by omega)
  obtain ⟨b, off, rfl, hc⟩ := h.cell hx
  have hcan := canonB_last hu hx (by omega)
  have hr : rightI neg num = !(x == 0) := by
   unfold rightI
   rw [hcan]
   simp [h0]
  rw [hr]
  have hk := held hc
  have hbl : b < w.heap.size := by have := World.block_lt_of_cell? w _ hc; simpa using this
  have hbl2 : b < w.heap.size + 1 := by omega
  have hi1 : (0 : Int) <= (num.length : Int) - 1 := by omega
  have hti : ((num.length : Int) - 1).toNat = num.length - 1 := by omega
  have hgt : decide (0 < num.length) = true := by rw [decide_eq_true_eq]; omega
  have hgt2 : decide ((0 : Int) < (num.length : Int)) = true := by rw [decide_eq_true_eq]; omega
  have he : ((num.length : Int) == 0) = false := by rw [beq_eq_false_iff_ne]; omega
  clear h hu hx hc hcan hr
  by_cases hx0 : x = 0
  ·
   subst hx0
   go_enter Tryz.func130, Tryz.ntmps130
   go_wp2
   go_ret
   exact ⟨rfl, hb0⟩
  ·
   have hxb : (x == 0) = false := by simpa using hx0
   have hxn : (x != 0) = true := by simpa using hx0
   rw [hxb]
   clear hx0
   go_enter Tryz.func130, Tryz.ntmps130
   go_wp2
   go_ret
   exact ⟨rfl, hb0⟩
theorem rt_right_one {neg : Bool} {num den : List Int} (hI : rightI neg num = true) (hc : canonB den = true) (h0 : 0 < den.length) (h1 : decide (den.length = 1 /\ limbAt den 0 = 1) = true) : Rt.right ⟨neg, num, den⟩ = true := by
 rw [decide_eq_true_eq] at h1
 obtain ⟨h1, h2⟩ := h1
 match den, h1 with
 | [x], _ =>
  simp [limbAt] at h2
  subst h2
  simp [Rt.right, hI, hc, val]
theorem rt_right_gcd {neg : Bool} {num den : List Int} (hI : rightI neg num = true) (hc : canonB den = true) (h0 : 0 < den.length) : Rt.right ⟨neg, num, den⟩ = decide (Nat.gcd (val num) (val den) = 1) := by
 simp [Rt.right, hI, hc, h0]
theorem rightQ_any (r : Rt) (na : Option Addr) (nc : Nat) (da : Option Addr) (dc : Nat) (w : World) (h : NatR w na nc r.num) (h' : NatR w da dc r.den) (hl : r.num.length <= 2000000) (hm : r.den.length <= 2000000) :
  Calls Tryz.prog 94 #[r.val na nc da dc] w fun e w' => e = .returned (.bool r.right) /\ Below w.heap.size w w' := by
 obtain ⟨neg, num, den⟩ := r
 have CR := fun W (hW : Below w.heap.size w W) => rightI_any neg num na nc W (h.ext (xbw hW))
 have CO := fun W (hW : Below w.heap.size w W) => one_any den da dc W (h'.ext (xbw hW))
 have CG := fun W (hW : Below w.heap.size w W) => gcd_any num den (val num) (val den) na da nc dc W (h.ext (xbw hW)) (h'.ext (xbw hW)) rfl rfl hl hm
 have CO2 := fun n a c W => one_any (limbs n) a c W
 simp only [one_limbs] at CO2
 unfold Rt.val
 dsimp only
 dsimp only at hl hm
 obtain ⟨res, hres⟩ : ∃ q, Rt.right ⟨neg, num, den⟩ = q := ⟨_, rfl⟩
 rw [hres]
 obtain ⟨b1, hb1⟩ : ∃ b, rightI neg num = b := ⟨_, rfl⟩
 rw [hb1] at CR
 replace CR := Hd CR; replace CO := Hd CO; replace CG := Hd CG; replace CO2 := Hd CO2
 have hw0 : Below w.heap.size w (w.alloc (.cells #[.bool neg, .slice na num.length nc, .slice da den.length dc] 32)) := brf.alloc (nlr _) _
 have hz : Blk (w.alloc (.cells #[.bool neg, .slice na num.length nc, .slice da den.length dc] 32)) w.heap.size 32 #[.bool neg, .slice na num.length nc, .slice da den.length dc] := Blk.new w _ _
 cases b1
 ·
  have hr : res = false := by rw [<- hres]; simp [Rt.right, hb1]
  subst hr
  clear hres hb1 h h' hz
  go_enter Tryz.func94, Tryz.ntmps94
  go_wp2_with fail
  refine (CR.out _ hw0).mono ?_
  rintro e w1 ⟨rfl, hb⟩
  have hw1 := bth hw0 hb
  go_wp2
  go_ret
  exact ⟨rfl, hw1⟩
 ·
  by_cases h0 : den.length = 0
  ·
   have hr : res = false := by rw [<- hres]; simp [Rt.right, h0]
   subst hr
   obtain rfl : den = [] := List.length_eq_zero_iff.1 h0
   clear hres hb1 h h' hz h0
   go_enter Tryz.func94, Tryz.ntmps94
   go_wp2_with fail
   refine (CR.out _ hw0).mono ?_
   rintro e w1 ⟨rfl, hb⟩
   have hw1 := bth hw0 hb
   go_wp2
   go_ret
   exact ⟨rfl, hw1⟩
  ·
   obtain ⟨x, hx⟩ := get_of_lt (xs := den) (k := den.length - 1) (by omega)
   obtain ⟨b, off, rfl, hc⟩ := h'.cell hx
   have hcan := canonB_last (l := den) h'.u16 hx (by omega)
   have hk := held hc
   have hi1 : (0 : Int) <= (den.length : Int) - 1 := by omega
   have hti : ((den.length : Int) - 1).toNat = den.length - 1 := by omega
   have hdl : (den.length : Int) <= 2000000 := by omega
   have he : ((den.length : Int) == 0) = false := by rw [beq_eq_false_iff_ne]; omega
   by_cases hx0 : x = 0
   ·
    subst hx0
    have hr : res = false := by rw [<- hres]; simp [Rt.right, hcan]
    subst hr
    clear hres hb1 h h' hx hc hcan h0
    go_enter Tryz.func94, Tryz.ntmps94
    go_wp2_with fail
    revert hw0 hz
    generalize w.alloc (.cells #[.bool neg, .slice na num.length nc, .slice (some ⟨b, off, none⟩) den.length dc] 32) = w0
    intro hw0 hz
    refine (CR.out _ hw0).mono ?_
    rintro e w1 ⟨rfl, hb⟩
    have hw1 := bth hw0 hb
    have hz1 := hz.below' hb
    have z1 := hz1.cell 1; have z2 := hz1.cell 2; have z0 := hz1.cell 0
    have k1 := hk _ hw1
    clear hb hz hw0
    go_wp2
    go_ret
    exact ⟨rfl, hw1⟩
   ·
    have hxb : (x == 0) = false := by simpa using hx0
    have hcan2 : canonB den = true := by rw [hcan, hxb]; rfl
    obtain ⟨bo, hbo⟩ : ∃ q, decide (den.length = 1 /\ limbAt den 0 = 1) = q := ⟨_, rfl⟩
    rw [hbo] at CO
    have HRES := Hd hres
    have HB1 := Hd hb1
    have HC := Hd hcan2
    have HBO := Hd hbo
    have H0 := Hd h0
    clear hres hb1 h h' hx hc hcan hcan2 hbo h0 hx0
    cases bo
    ·
     obtain ⟨g, hg⟩ : ∃ g, Nat.gcd (val num) (val den) = g := ⟨_, rfl⟩
     have hr : decide (g = 1) = res := by rw [<- HRES.out, rt_right_gcd HB1.out HC.out (by have := H0.out; omega)]; simp only [hg]
     rw [hg] at CG
     have CO3 := CO2.out g
     rw [hr] at CO3
     replace CO3 := Hd CO3
     clear hg hr CO2
     go_enter Tryz.func94, Tryz.ntmps94
     go_wp2_with fail
     revert hw0 hz
     generalize w.alloc (.cells #[.bool neg, .slice na num.length nc, .slice (some ⟨b, off, none⟩) den.length dc] 32) = w0
     intro hw0 hz
     refine (CR.out _ hw0).mono ?_
     rintro e w1 ⟨rfl, hb⟩
     have hw1 := bth hw0 hb
     have hz1 := hz.below' hb
     have z1 := hz1.cell 1; have z2 := hz1.cell 2; have z0 := hz1.cell 0
     have k1 := hk _ hw1
     clear hb hz hw0
     go_wp2_with fail
     refine (CO.out _ hw1).mono ?_
     rintro e w2 ⟨rfl, hb⟩
     have hw2 := bth hw1 hb
     have hz2 := hz1.below' hb
     have y1 := hz2.cell 1; have y2 := hz2.cell 2; have y0 := hz2.cell 0
     clear hb hz1 hw1 z0 z1 z2 k1
     go_wp2_with fail
     refine (CG.out _ hw2).mono ?_
     rintro e w3 ⟨a3, c3, rfl, hV, hb⟩
     have hw3 := bth hw2 hb
     have hrd := hV w3 (New.refl _ _)
     clear hb hV y0 y1 y2
     go_wp2_with fail
     refine (CO3.out _ _ _ hrd).mono ?_
     rintro e w4 ⟨rfl, hb⟩
     have hw4 := bth hw3 hb
     clear hrd hb
     go_wp2
     go_ret
     exact ⟨rfl, hw4⟩
    ·
     have hr : res = true := by rw [<- HRES.out]; exact rt_right_one HB1.out HC.out (by have := H0.out; omega) HBO.out
     subst hr
     go_enter Tryz.func94, Tryz.ntmps94
     go_wp2_with fail
     revert hw0 hz
     generalize w.alloc (.cells #[.bool neg, .slice na num.length nc, .slice (some ⟨b, off, none⟩) den.length dc] 32) = w0
     intro hw0 hz
     refine (CR.out _ hw0).mono ?_
     rintro e w1 ⟨rfl, hb⟩
     have hw1 := bth hw0 hb
     have hz1 := hz.below' hb
     have z1 := hz1.cell 1; have z2 := hz1.cell 2; have z0 := hz1.cell 0
     have k1 := hk _ hw1
     clear hb hz hw0
     go_wp2_with fail
     refine (CO.out _ hw1).mono ?_
     rintro e w2 ⟨rfl, hb⟩
     have hw2 := bth hw1 hb
     go_wp2
     go_ret
     exact ⟨rfl, hw2⟩
theorem arityP_any (k : Int) (w : World) : Calls Tryz.prog 99 #[.int .i64 k] w fun e w' => e = .returned (.int .i64 (arity14 k)) /\ w = w' := by
 by_cases hk : 1 <= k /\ k <= 9
 ·
  have hc : k = 1 \/ k = 2 \/ k = 3 \/ k = 4 \/ k = 5 \/ k = 6 \/ k = 7 \/ k = 8 \/ k = 9 := by omega
  clear hk
  rcases hc with rfl | rfl | rfl | rfl | rfl | rfl | rfl | rfl | rfl
  all_goals
   go_enter Tryz.func99, Tryz.ntmps99
   go_wp2
   go_ret
   exact ⟨ret_int (by decide), rfl⟩
 ·
  have h1 := eqb_false (a := k) (b := 1) (by omega); have h2 := eqb_false (a := k) (b := 2) (by omega); have h3 := eqb_false (a := k) (b := 3) (by omega)
  have h4 := eqb_false (a := k) (b := 4) (by omega); have h5 := eqb_false (a := k) (b := 5) (by omega); have h6 := eqb_false (a := k) (b := 6) (by omega)
  have h7 := eqb_false (a := k) (b := 7) (by omega); have h8 := eqb_false (a := k) (b := 8) (by omega); have h9 := eqb_false (a := k) (b := 9) (by omega)
  have hr : arity14 k = 0 := by unfold arity14; rw [if_neg (by omega), if_neg (by omega), if_neg (by omega), if_neg (by omega)]
  rw [hr]
  clear hr hk
  go_enter Tryz.func99, Tryz.ntmps99
  go_wp2
  go_ret
  exact ⟨rfl, rfl⟩
theorem arityL_any (k : Int) (w : World) : Calls Tryz.prog 91 #[.int .i64 k] w fun e w' => e = .returned (.int .i64 (arity20 k)) /\ w = w' := by
 by_cases hk : 1 <= k /\ k <= 14
 ·
  have hc : k = 1 \/ k = 2 \/ k = 3 \/ k = 4 \/ k = 5 \/ k = 6 \/ k = 7 \/ k = 8 \/ k = 9 \/ k = 10 \/ k = 11 \/ k = 12 \/ k = 13 \/ k = 14 := by omega
  clear hk
  rcases hc with rfl | rfl | rfl | rfl | rfl | rfl | rfl | rfl | rfl | rfl | rfl | rfl | rfl | rfl
  all_goals
   go_enter Tryz.func91, Tryz.ntmps91
   go_wp2
   go_ret
   exact ⟨ret_int (by decide), rfl⟩
 ·
  have h1 := eqb_false (a := k) (b := 1) (by omega); have h2 := eqb_false (a := k) (b := 2) (by omega); have h3 := eqb_false (a := k) (b := 3) (by omega)
  have h4 := eqb_false (a := k) (b := 4) (by omega); have h5 := eqb_false (a := k) (b := 5) (by omega); have h6 := eqb_false (a := k) (b := 6) (by omega)
  have h7 := eqb_false (a := k) (b := 7) (by omega); have h8 := eqb_false (a := k) (b := 8) (by omega); have h9 := eqb_false (a := k) (b := 9) (by omega)
  have h10 := eqb_false (a := k) (b := 10) (by omega); have h11 := eqb_false (a := k) (b := 11) (by omega); have h12 := eqb_false (a := k) (b := 12) (by omega)
  have h13 := eqb_false (a := k) (b := 13) (by omega); have h14 := eqb_false (a := k) (b := 14) (by omega)
  have hr : arity20 k = -1 := by unfold arity20; rw [if_neg (by omega), if_neg (by omega), if_neg (by omega), if_neg (by omega)]
  rw [hr]
  clear hr hk
  go_enter Tryz.func91, Tryz.ntmps91
  go_wp2
  go_ret
  exact ⟨rfl, rfl⟩
theorem zeroP_any (r : Rt) (na : Option Addr) (nc : Nat) (da : Option Addr) (dc : Nat) (w : World) (hl : r.num.length <= 2000000) (hm : r.den.length <= 2000000) :
  Calls Tryz.prog 100 #[r.val na nc da dc] w fun e w' => e = .returned (.bool r.none) /\ Below w.heap.size w w' := by
 obtain ⟨neg, num, den⟩ := r
 unfold Rt.val Rt.none
 dsimp only at hl hm ⊢
 by_cases h1 : num.length = 0 <;> by_cases h2 : den.length = 0
 all_goals
  have e1 : ((num.length : Int) == 0) = decide (num.length = 0) := by rw [Bool.eq_iff_iff]; simp
  have e2 : ((den.length : Int) == 0) = decide (den.length = 0) := by rw [Bool.eq_iff_iff]; simp
  have d1 : decide (num.length = 0) = decide (num.length = 0) := rfl
  simp only [h1, h2, decide_true, decide_false] at e1 e2
  have HH : (decide (num.length = 0), decide (den.length = 0)) = (decide (num.length = 0), decide (den.length = 0)) := rfl
  simp only [h1, h2, decide_true, decide_false] at HH ⊢
  clear HH d1
  cases neg
  all_goals
   have H1 := Hd h1
   have H2 := Hd h2
   clear h1 h2
   go_enter Tryz.func100, Tryz.ntmps100
   go_wp2
   go_ret
   exact ⟨rfl, brf.alloc (nlr _) _⟩
theorem noneL_any (r : Rt) (na : Option Addr) (nc : Nat) (da : Option Addr) (dc : Nat) (w : World) (hl : r.num.length <= 2000000) (hm : r.den.length <= 2000000) :
  Calls Tryz.prog 95 #[r.val na nc da dc] w fun e w' => e = .returned (.bool r.none) /\ Below w.heap.size w w' := by
 obtain ⟨neg, num, den⟩ := r
 unfold Rt.val Rt.none
 dsimp only at hl hm ⊢
 by_cases h1 : num.length = 0 <;> by_cases h2 : den.length = 0
 all_goals
  have e1 : ((num.length : Int) == 0) = decide (num.length = 0) := by rw [Bool.eq_iff_iff]; simp
  have e2 : ((den.length : Int) == 0) = decide (den.length = 0) := by rw [Bool.eq_iff_iff]; simp
  have d1 : decide (num.length = 0) = decide (num.length = 0) := rfl
  simp only [h1, h2, decide_true, decide_false] at e1 e2
  have HH : (decide (num.length = 0), decide (den.length = 0)) = (decide (num.length = 0), decide (den.length = 0)) := rfl
  simp only [h1, h2, decide_true, decide_false] at HH ⊢
  clear HH d1
  cases neg
  all_goals
   have H1 := Hd h1
   have H2 := Hd h2
   clear h1 h2
   go_enter Tryz.func95, Tryz.ntmps95
   go_wp2
   go_ret
   exact ⟨rfl, brf.alloc (nlr _) _⟩
theorem any_take {α : Type} {p : α -> Bool} {l : List α} {k : Nat} {x : α} (h : l[k]? = some x) : (l.take (k + 1)).any p = ((l.take k).any p || p x) := by
 rw [take_more h, List.any_append]; simp
theorem any_mem {α : Type} {p : α -> Bool} {l : List α} {k : Nat} {x : α} (h : l[k]? = some x) (e : p x = true) : l.any p = true := by
 rw [List.any_eq_true]; exact ⟨x, List.mem_of_getElem? h, e⟩
theorem right14_any (f : Fct) (n : Int) (p : RA) (w : World) (h : PartsR w p f.args f.ratio) (hq : f.ratio.few) (hn : InInt n) (hk : InInt f.kind) :
  Calls Tryz.prog 120 #[f.val p.aa p.ac p.na p.nc p.da p.dc, .int .i64 n] w fun e w' => e = .returned (.int .i64 (errFct f n)) /\ Below w.heap.size w w' := by
 obtain ⟨kind, args, r⟩ := f
 obtain ⟨aa, ac, na, nc, da, dc⟩ := p
 obtain ⟨hI, hN, hD⟩ := h
 dsimp only at hI hN hD hq hk
 obtain ⟨res, hres⟩ : ∃ x, errFct ⟨kind, args, r⟩ n = x := ⟨_, rfl⟩
 rw [hres]
 unfold errFct at hres
 dsimp only at hres
 have CA := arity14_any kind
 have hA := arity14_in kind
 have CR := fun W (hW : Below w.heap.size w W) => right03_any r na nc da dc W (hN.ext (xbw hW)) (hD.ext (xbw hW)) hq.1 hq.2
 have CN := fun W => none14_any r na nc da dc W hq.1 hq.2
 have hlen := hI.len
 have hIn : ∀ a ∈ args, InInt a := fun a ha => by
  obtain ⟨k, hk⟩ := List.mem_iff_getElem?.1 ha
  obtain ⟨b, off, _, hc, hw⟩ := hI.2.2 k a hk
  exact inInt_of hw
 have HI := Hd hI
 have HIn := Hd hIn
 revert CA hA hres CR CN
 generalize arity14 kind = ar
 generalize r.right = br
 generalize r.none = bn
 intro hres CA hA CR CN
 replace CA := Hd CA; replace CR := Hd CR; replace CN := Hd CN
 have HRES := Hd hres
 obtain ⟨hn1, hn2⟩ := hn
 obtain ⟨hk1, hk2⟩ := hk
 obtain ⟨neg, num, den⟩ := r
 unfold Rt.val at CR CN
 unfold Fct.val
 dsimp only at CR CN ⊢
 clear hres hI hN hD hIn hq
 have hz := Blk.new w 101 #[.int .i64 kind, .slice aa args.length ac, .bool neg, .slice na num.length nc, .slice da den.length dc]
 have hb0 : Below w.heap.size w (w.alloc (.cells #[.int .i64 kind, .slice aa args.length ac, .bool neg, .slice na num.length nc, .slice da den.length dc] 101)) := brf.alloc (nlr _) _
 by_cases h0 : ar = 0
 ·
  have he : (ar == 0) = true := by simpa using h0
  have hr : res = 8 := by rw [<- HRES.out, if_pos h0]
  subst hr
  clear h0 hz
  go_enter Tryz.func120, Tryz.ntmps120
  go_wp2_with (go_at_call 147; refine (CA.out _).mono ?_; rintro e w' ⟨rfl, rfl⟩)
  go_ret
  exact ⟨rfl, hb0⟩
 ·
  have he : (ar == 0) = false := by simpa using h0
  have H0 := Hd h0
  clear h0
  by_cases h1 : (args.length : Int) = ar
  ·
   have he1 : ((args.length : Int) != ar) = false := by simpa using h1
   have H1 := Hd h1
   clear h1
   go_enter Tryz.func120, Tryz.ntmps120
   go_wp2_with fail
   revert hz hb0
   generalize w.alloc (.cells #[.int .i64 kind, .slice aa args.length ac, .bool neg, .slice na num.length nc, .slice da den.length dc] 101) = w0
   intro hz hb0
   have z0 := hz.cell 0; have z1 := hz.cell 1; have z2 := hz.cell 2; have z3 := hz.cell 3; have z4 := hz.cell 4
   refine (CA.out _).mono ?_
   rintro e w' ⟨rfl, rfl⟩
   go_wp2
   go_quiet ((go_at_call 147; exact Calls.quiet_of_same ((CA.out _).mono fun _ _ h => ⟨h.1, h.2.symm⟩)))
   have hz1 : Blk (w0.drewN nq) w.heap.size 101 #[.int .i64 kind, .slice aa args.length ac, .bool neg, .slice na num.length nc, .slice da den.length dc] := hz
   have hb1 := below_drewN hb0 nq
   clear z0 z1 z2 z3 z4 hz hb0 CA
   revert hz1 hb1
   generalize w0.drewN nq = w1
   intro hz1 hb1
   have z0 := hz1.cell 0; have z1 := hz1.cell 1; have z2 := hz1.cell 2; have z3 := hz1.cell 3; have z4 := hz1.cell 4
   go_wp2
   go_loop [6, 21] (fun _ i => ∃ k : Nat, k <= args.length /\ i = .int .i64 k /\ Hid ((args.take k).any (badArg n) = false)) (fun _ i => args.length - (intOf i).toNat)
   case atStart => exact ⟨0, by omega, rfl, rfl⟩
   case round =>
    obtain ⟨k, hk, rfl, hno⟩ := hrel
    by_cases hlt : k < args.length
    ·
     obtain ⟨x, hx⟩ := get_of_lt hlt
     obtain ⟨b, off, rfl, hc⟩ := (HI.out.ext (xbw hb1)).2.2 k x hx
     have hc1 : w1.cell? ⟨b, off + k, none⟩ = some (.int .i64 x) := by simpa using hc.1
     obtain ⟨hx1, hx2⟩ := HIn.out x (List.mem_of_getElem? hx)
     have HX := Hd hx
     clear hc hx
     by_cases hbad : x < 0 \/ n <= x
     ·
      have hr : res = 2 := by
       have hany : args.any (badArg n) = true := any_mem HX.out (by unfold badArg; exact decide_eq_true hbad)
       rw [<- HRES.out, if_neg H0.out, if_neg (by simpa using H1.out), if_pos hany]
      subst hr
      by_cases hx0 : x < 0
      ·
       clear hbad
       go_wp2
       go_ret
       exact ⟨rfl, hb1⟩
      ·
       have hge : n <= x := by omega
       clear hbad
       go_wp2
       go_ret
       exact ⟨rfl, hb1⟩
     ·
      have hx0 : 0 <= x := by omega
      have hxn : x < n := by omega
      have hbf : badArg n x = false := by unfold badArg; exact decide_eq_false hbad
      have HBF := Hd hbf
      clear hbad hbf
      go_wp2
      go_round
      case rel => exact ⟨k + 1, by omega, by go_num, by show _ = _; rw [any_take HX.out, hno.out, HBF.out]; rfl⟩
      case measure => simp [intOf]; omega
    ·
     have hany : args.any (badArg n) = false := by
      have := hno.out
      rwa [take_all hlt] at this
     have hres2 : (if kind = 9 /\ br = false then (1 : Int) else if kind ≠ 9 /\ bn = false then 1 else 0) = res := by
      have := HRES.out
      rw [if_neg H0.out, if_neg (by simpa using H1.out), if_neg (by rw [hany]; simp)] at this
      exact this
     have HR2 := Hd hres2
     clear hres2 hany
     by_cases hk9 : kind = 9
     ·
      have hke : (kind == 9) = true := by simpa using hk9
      have hkn : (kind != 9) = false := by simpa using hk9
      have HK9 := Hd hk9
      clear hk9
      cases br
      ·
       have hr : res = 1 := by rw [<- HR2.out, if_pos ⟨HK9.out, rfl⟩]
       subst hr
       go_wp2_with fail
       refine (CR.out _ hb1).mono ?_
       rintro e w2 ⟨rfl, hb2⟩
       have hb3 := bth hb1 hb2
       go_wp2
       go_ret
       exact ⟨rfl, hb3⟩
      ·
       have hr : res = 0 := by rw [<- HR2.out, if_neg (by simp), if_neg (by simp [HK9.out])]
       subst hr
       go_wp2_with fail
       refine (CR.out _ hb1).mono ?_
       rintro e w2 ⟨rfl, hb2⟩
       have hb3 := bth hb1 hb2
       have hz2 := hz1.below' hb2
       have y0 := hz2.cell 0
       clear hb2 hz2
       go_wp2
       go_ret
       exact ⟨rfl, hb3⟩
     ·
      have hke : (kind == 9) = false := by simpa using hk9
      have hkn : (kind != 9) = true := by simpa using hk9
      have HK9 := Hd hk9
      clear hk9
      cases bn
      ·
       have hr : res = 1 := by rw [<- HR2.out, if_neg (fun h => HK9.out h.1), if_pos ⟨HK9.out, rfl⟩]
       subst hr
       go_wp2_with fail
       refine (CN.out _).mono ?_
       rintro e w2 ⟨rfl, hb2⟩
       have hb3 := bth hb1 hb2
       go_wp2
       go_ret
       exact ⟨rfl, hb3⟩
      ·
       have hr : res = 0 := by rw [<- HR2.out, if_neg (fun h => HK9.out h.1), if_neg (by simp)]
       subst hr
       go_wp2_with fail
       refine (CN.out _).mono ?_
       rintro e w2 ⟨rfl, hb2⟩
       have hb3 := bth hb1 hb2
       go_wp2
       go_ret
       exact ⟨rfl, hb3⟩
  ·
   have he1 : ((args.length : Int) != ar) = true := by simpa using h1
   have hr : res = 1 := by rw [<- HRES.out, if_neg H0.out, if_pos h1]
   subst hr
   clear h1
   go_enter Tryz.func120, Tryz.ntmps120
   go_wp2_with fail
   revert hz hb0
   generalize w.alloc (.cells #[.int .i64 kind, .slice aa args.length ac, .bool neg, .slice na num.length nc, .slice da den.length dc] 101) = w0
   intro hz hb0
   have z0 := hz.cell 0; have z1 := hz.cell 1; have z2 := hz.cell 2; have z3 := hz.cell 3; have z4 := hz.cell 4
   refine (CA.out _).mono ?_
   rintro e w' ⟨rfl, rfl⟩
   go_wp2
   go_quiet ((go_at_call 147; exact Calls.quiet_of_same ((CA.out _).mono fun _ _ h => ⟨h.1, h.2.symm⟩)))
   go_wp2
   go_ret
   exact ⟨rfl, below_drewN hb0 _⟩
theorem rightP_any (f : Fct) (n : Int) (p : RA) (w : World) (h : PartsR w p f.args f.ratio) (hq : f.ratio.few) (hn : InInt n) (hk : InInt f.kind) :
  Calls Tryz.prog 54 #[f.val p.aa p.ac p.na p.nc p.da p.dc, .int .i64 n] w fun e w' => e = .returned (.int .i64 (errFct f n)) /\ Below w.heap.size w w' := by
 obtain ⟨kind, args, r⟩ := f
 obtain ⟨aa, ac, na, nc, da, dc⟩ := p
 obtain ⟨hI, hN, hD⟩ := h
 dsimp only at hI hN hD hq hk
 obtain ⟨res, hres⟩ : ∃ x, errFct ⟨kind, args, r⟩ n = x := ⟨_, rfl⟩
 rw [hres]
 unfold errFct at hres
 dsimp only at hres
 have CA := arityP_any kind
 have hA := arity14_in kind
 have CR := fun W (hW : Below w.heap.size w W) => rightQ_any r na nc da dc W (hN.ext (xbw hW)) (hD.ext (xbw hW)) hq.1 hq.2
 have CN := fun W => zeroP_any r na nc da dc W hq.1 hq.2
 have hlen := hI.len
 have hIn : ∀ a ∈ args, InInt a := fun a ha => by
  obtain ⟨k, hk⟩ := List.mem_iff_getElem?.1 ha
  obtain ⟨b, off, _, hc, hw⟩ := hI.2.2 k a hk
  exact inInt_of hw
 have HI := Hd hI
 have HIn := Hd hIn
 revert CA hA hres CR CN
 generalize arity14 kind = ar
 generalize r.right = br
 generalize r.none = bn
 intro hres CA hA CR CN
 replace CA := Hd CA; replace CR := Hd CR; replace CN := Hd CN
 have HRES := Hd hres
 obtain ⟨hn1, hn2⟩ := hn
 obtain ⟨hk1, hk2⟩ := hk
 obtain ⟨neg, num, den⟩ := r
 unfold Rt.val at CR CN
 unfold Fct.val
 dsimp only at CR CN ⊢
 clear hres hI hN hD hIn hq
 have hz := Blk.new w 101 #[.int .i64 kind, .slice aa args.length ac, .bool neg, .slice na num.length nc, .slice da den.length dc]
 have hb0 : Below w.heap.size w (w.alloc (.cells #[.int .i64 kind, .slice aa args.length ac, .bool neg, .slice na num.length nc, .slice da den.length dc] 101)) := brf.alloc (nlr _) _
 by_cases h0 : ar = 0
 ·
  have he : (ar == 0) = true := by simpa using h0
  have hr : res = 8 := by rw [<- HRES.out, if_pos h0]
  subst hr
  clear h0 hz
  go_enter Tryz.func54, Tryz.ntmps54
  go_wp2_with (go_at_call 99; refine (CA.out _).mono ?_; rintro e w' ⟨rfl, rfl⟩)
  go_ret
  exact ⟨rfl, hb0⟩
 ·
  have he : (ar == 0) = false := by simpa using h0
  have H0 := Hd h0
  clear h0
  by_cases h1 : (args.length : Int) = ar
  ·
   have he1 : ((args.length : Int) != ar) = false := by simpa using h1
   have H1 := Hd h1
   clear h1
   go_enter Tryz.func54, Tryz.ntmps54
   go_wp2_with fail
   revert hz hb0
   generalize w.alloc (.cells #[.int .i64 kind, .slice aa args.length ac, .bool neg, .slice na num.length nc, .slice da den.length dc] 101) = w0
   intro hz hb0
   have z0 := hz.cell 0; have z1 := hz.cell 1; have z2 := hz.cell 2; have z3 := hz.cell 3; have z4 := hz.cell 4
   refine (CA.out _).mono ?_
   rintro e w' ⟨rfl, rfl⟩
   obtain ⟨w1, rfl⟩ : ∃ w1 : World, w1 = w0 := ⟨_, rfl⟩
   have hz1 := hz
   have hb1 := hb0
   clear hz hb0 CA
   go_wp2
   go_loop [7, 21] (fun _ i => ∃ k : Nat, k <= args.length /\ i = .int .i64 k /\ Hid ((args.take k).any (badArg n) = false)) (fun _ i => args.length - (intOf i).toNat)
   case atStart => exact ⟨0, by omega, rfl, rfl⟩
   case round =>
    obtain ⟨k, hk, rfl, hno⟩ := hrel
    by_cases hlt : k < args.length
    ·
     obtain ⟨x, hx⟩ := get_of_lt hlt
     obtain ⟨b, off, rfl, hc⟩ := (HI.out.ext (xbw hb1)).2.2 k x hx
     have hc1 : w1.cell? ⟨b, off + k, none⟩ = some (.int .i64 x) := by simpa using hc.1
     obtain ⟨hx1, hx2⟩ := HIn.out x (List.mem_of_getElem? hx)
     have HX := Hd hx
     clear hc hx
     by_cases hbad : x < 0 \/ n <= x
     ·
      have hr : res = 2 := by
       have hany : args.any (badArg n) = true := any_mem HX.out (by unfold badArg; exact decide_eq_true hbad)
       rw [<- HRES.out, if_neg H0.out, if_neg (by simpa using H1.out), if_pos hany]
      subst hr
      by_cases hx0 : x < 0
      ·
       clear hbad
       go_wp2
       go_ret
       exact ⟨rfl, hb1⟩
      ·
       have hge : n <= x := by omega
       clear hbad
       go_wp2
       go_ret
       exact ⟨rfl, hb1⟩
     ·
      have hx0 : 0 <= x := by omega
      have hxn : x < n := by omega
      have hbf : badArg n x = false := by unfold badArg; exact decide_eq_false hbad
      have HBF := Hd hbf
      clear hbad hbf
      go_wp2
      go_round
      case rel => exact ⟨k + 1, by omega, by go_num, by show _ = _; rw [any_take HX.out, hno.out, HBF.out]; rfl⟩
      case measure => simp [intOf]; omega
    ·
     have hany : args.any (badArg n) = false := by
      have := hno.out
      rwa [take_all hlt] at this
     have hres2 : (if kind = 9 /\ br = false then (1 : Int) else if kind ≠ 9 /\ bn = false then 1 else 0) = res := by
      have := HRES.out
      rw [if_neg H0.out, if_neg (by simpa using H1.out), if_neg (by rw [hany]; simp)] at this
      exact this
     have HR2 := Hd hres2
     clear hres2 hany
     by_cases hk9 : kind = 9
     ·
      have hke : (kind == 9) = true := by simpa using hk9
      have hkn : (kind != 9) = false := by simpa using hk9
      have HK9 := Hd hk9
      clear hk9
      cases br
      ·
       have hr : res = 1 := by rw [<- HR2.out, if_pos ⟨HK9.out, rfl⟩]
       subst hr
       go_wp2_with fail
       refine (CR.out _ hb1).mono ?_
       rintro e w2 ⟨rfl, hb2⟩
       have hb3 := bth hb1 hb2
       go_wp2
       go_ret
       exact ⟨rfl, hb3⟩
      ·
       have hr : res = 0 := by rw [<- HR2.out, if_neg (by simp), if_neg (by simp [HK9.out])]
       subst hr
       go_wp2_with fail
       refine (CR.out _ hb1).mono ?_
       rintro e w2 ⟨rfl, hb2⟩
       have hb3 := bth hb1 hb2
       have hz2 := hz1.below' hb2
       have y0 := hz2.cell 0
       clear hb2 hz2
       go_wp2
       go_ret
       exact ⟨rfl, hb3⟩
     ·
      have hke : (kind == 9) = false := by simpa using hk9
      have hkn : (kind != 9) = true := by simpa using hk9
      have HK9 := Hd hk9
      clear hk9
      cases bn
      ·
       have hr : res = 1 := by rw [<- HR2.out, if_neg (fun h => HK9.out h.1), if_pos ⟨HK9.out, rfl⟩]
       subst hr
       go_wp2_with fail
       refine (CN.out _).mono ?_
       rintro e w2 ⟨rfl, hb2⟩
       have hb3 := bth hb1 hb2
       go_wp2
       go_ret
       exact ⟨rfl, hb3⟩
      ·
       have hr : res = 0 := by rw [<- HR2.out, if_neg (fun h => HK9.out h.1), if_neg (by simp)]
       subst hr
       go_wp2_with fail
       refine (CN.out _).mono ?_
       rintro e w2 ⟨rfl, hb2⟩
       have hb3 := bth hb1 hb2
       go_wp2
       go_ret
       exact ⟨rfl, hb3⟩
  ·
   have he1 : ((args.length : Int) != ar) = true := by simpa using h1
   have hr : res = 1 := by rw [<- HRES.out, if_neg H0.out, if_pos h1]
   subst hr
   clear h1
   go_enter Tryz.func54, Tryz.ntmps54
   go_wp2_with fail
   revert hz hb0
   generalize w.alloc (.cells #[.int .i64 kind, .slice aa args.length ac, .bool neg, .slice na num.length nc, .slice da den.length dc] 101) = w0
   intro hz hb0
   have z0 := hz.cell 0; have z1 := hz.cell 1; have z2 := hz.cell 2; have z3 := hz.cell 3; have z4 := hz.cell 4
   refine (CA.out _).mono ?_
   rintro e w' ⟨rfl, rfl⟩
   go_wp2
   go_ret
   exact ⟨rfl, hb0⟩
theorem letter15_any (c : Int) (w : World) (h0 : 0 <= c) (h1 : c <= 255) :
  Calls Tryz.prog 163 #[.int .u8 c] w fun e w' => e = .returned (.bool (letB c)) /\ w = w' := by
 obtain ⟨b, hb⟩ : ∃ b, letB c = b := ⟨_, rfl⟩
 have hb2 := hb
 unfold letB at hb2
 rw [hb]
 have HB := Hd hb2
 clear hb hb2
 by_cases h2 : 65 <= c <;> by_cases h3 : c <= 90 <;> by_cases h4 : 97 <= c <;> by_cases h5 : c <= 122 <;> first | (exfalso; omega) | skip
 all_goals
  go_enter Tryz.func163, Tryz.ntmps163
  go_wp2
  go_ret
  refine ⟨ret_bool ?_, rfl⟩
  rw [<- HB.out]
  first | (symm; apply decide_eq_true; omega) | (symm; apply decide_eq_false; omega)
theorem digit15_any (c : Int) (w : World) (h0 : 0 <= c) (h1 : c <= 255) :
  Calls Tryz.prog 164 #[.int .u8 c] w fun e w' => e = .returned (.bool (digB c)) /\ w = w' := by
 obtain ⟨b, hb⟩ : ∃ b, digB c = b := ⟨_, rfl⟩
 have hb2 := hb
 unfold digB at hb2
 rw [hb]
 have HB := Hd hb2
 clear hb hb2
 by_cases h2 : 48 <= c <;> by_cases h3 : c <= 57 <;> first | (exfalso; omega) | skip
 all_goals
  go_enter Tryz.func164, Tryz.ntmps164
  go_wp2
  go_ret
  refine ⟨ret_bool ?_, rfl⟩
  rw [<- HB.out]
  first | (symm; apply decide_eq_true; omega) | (symm; apply decide_eq_false; omega)
theorem keywords15_any (w : World) : Calls Tryz.prog 165 #[] w fun e w' => e = .returned (.slice (some ⟨w.heap.size, 0, none⟩) 29 29) /\ w.alloc (.cells (keywords.map Value.string).toArray 9) = w' := by
 go_enter Tryz.func165, Tryz.ntmps165
 go_wp2
 go_ret
 exact ⟨rfl, rfl⟩
theorem keywords_any (w : World) : Calls Tryz.prog 133 #[] w fun e w' => e = .returned (.slice (some ⟨w.heap.size, 0, none⟩) 29 29) /\ w.alloc (.cells (keywords.map Value.string).toArray 9) = w' := by
 go_enter Tryz.func133, Tryz.ntmps133
 go_wp2
 go_ret
 exact ⟨rfl, rfl⟩
theorem keyB_take {s : ByteArray} {k : Nat} {x : ByteArray} (h : keywords[k]? = some x) : ((keywords.take (k + 1)).any fun k => decide (s = k)) = (((keywords.take k).any fun k => decide (s = k)) || decide (s = x)) := by
 rw [take_more h, List.any_append]; simp
theorem keyB_mem {s x : ByteArray} {k : Nat} (h : keywords[k]? = some x) (e : s = x) : keyB s = true := by
 unfold keyB
 rw [List.any_eq_true]
 exact ⟨x, List.mem_of_getElem? h, by simp [e]⟩
theorem isName15_any (s : ByteArray) (w : World) (hs : s.size <= 9223372036854775807) :
  Calls Tryz.prog 146 #[.string s] w fun e w' => e = .returned (.bool (isNameB s)) /\ Below w.heap.size w w' := by
 obtain ⟨r, hr⟩ : ∃ r, isNameB s = r := ⟨_, rfl⟩
 rw [hr]
 have HR := Hd hr
 clear hr
 by_cases h0 : s.size = 0
 ·
  have e := size_zero.1 h0
  subst e
  have hr : r = false := by rw [<- HR.out]; exact isNameB_empty
  subst hr
  clear h0 hs
  go_enter Tryz.func146, Tryz.ntmps146
  go_wp2
  go_ret
  exact ⟨rfl, Below.refl _ _⟩
 ·
  have hse : s.toList.isEmpty = false := by rw [str_isEmpty]; simp; exact fun e => h0 (size_zero.2 e)
  have hse2 : s.toList ≠ [] := by intro e; rw [e] at hse; cases hse
  have H0 := Hd h0
  clear h0
  by_cases h20 : s.size <= 20
  ·
   have hp : 0 < s.size := by have := H0.out; omega
   have CL := letter15_any ((s[0]'hp).toNat : Nat) w (by omega) (by have := (s[0]'hp).toNat_lt; omega)
   rw [<- headB_cons hp] at CL
   obtain ⟨b, hb⟩ : ∃ b, headB s = b := ⟨_, rfl⟩
   rw [hb] at CL
   replace CL := Hd CL
   have HB := Hd hb
   clear hb
   cases b
   ·
    have hr : r = false := by rw [<- HR.out]; simp [isNameB, HB.out]
    subst hr
    go_enter Tryz.func146, Tryz.ntmps146
    go_wp2_with (go_at_call 163; refine CL.out.mono ?_; rintro e w' ⟨rfl, rfl⟩)
    go_ret
    exact ⟨rfl, Below.refl _ _⟩
   ·
    go_enter Tryz.func146, Tryz.ntmps146
    go_wp2_with (go_at_call 163; refine CL.out.mono ?_; rintro e w' ⟨rfl, rfl⟩)
    have hi0 := World.iter_heap w s 0
    have hb0 : Below w.heap.size w (w.iter s 0) := (Below.refl _ w).alloc (nlr _) _
    revert hi0 hb0
    generalize w.iter s 0 = w0
    intro hi0 hb0
    clear CL
    go_loopg [3] s.size (fun g _ wr => ∃ pos : Nat, pos + g = s.size /\ Itr wr w.heap.size s pos /\ Below w.heap.size w wr /\ (s.data.toList.take pos).all wordB = true)
    case atStart => exact ⟨0, by omega, hi0, hb0, rfl⟩
    case round =>
     obtain ⟨pos, hpos, hi, hb, hall⟩ := hrel
     clear hi0 hb0
     have HA := Hd hall
     have HP := Hd hpos
     have hsz := hi.lt
     clear hall
     by_cases hlt : pos < s.size
     ·
      obtain ⟨rr, n, hnx, hn1⟩ := run_next_any (P := Tryz.prog) wr w.heap.size s pos hi hlt
      have CL := fun W => letter15_any ((s[pos]'hlt).toNat : Nat) W (by omega) (by have := (s[pos]'hlt).toNat_lt; omega)
      have CD := fun W => digit15_any ((s[pos]'hlt).toNat : Nat) W (by omega) (by have := (s[pos]'hlt).toNat_lt; omega)
      have hw : wordB (s[pos]'hlt) = (letB ((s[pos]'hlt).toNat : Nat) || digB ((s[pos]'hlt).toNat : Nat)) := rfl
      have hasc : wordB (s[pos]'hlt) = true -> (s[pos]'hlt).toNat < 128 := by
       intro h
       simp only [wordB, letB, digB, Bool.or_eq_true, decide_eq_true_eq] at h
       omega
      have hgl := get_list hlt
      have hnot : wordB (s[pos]'hlt) = false -> isNameB s = false := by
       intro h
       have : s.data.toList.all wordB = false := by
        rw [List.all_eq_false]
        exact ⟨_, List.mem_of_getElem? hgl, by simp [h]⟩
       simp [isNameB, this]
      obtain ⟨bl, hbl⟩ : ∃ b, letB ((s[pos]'hlt).toNat : Nat) = b := ⟨_, rfl⟩
      obtain ⟨bd, hbd⟩ : ∃ b, digB ((s[pos]'hlt).toNat : Nat) = b := ⟨_, rfl⟩
      rw [hbl, hbd] at hw
      rw [hbl] at CL
      rw [hbd] at CD
      have HW := Hd hw
      have HN1 := Hd hn1
      have HASC := Hd hasc
      have HNOT := Hd hnot
      have HGL := Hd hgl
      replace CL := Hd CL
      replace CD := Hd CD
      have hnb : Below w.heap.size w (setItr wr w.heap.size s (pos + n)) := below_setItr hb (nlr _) _ _
      have hni : Itr (setItr wr w.heap.size s (pos + n)) w.heap.size s (pos + n) := hi.set _
      clear hw hn1 hasc hnot hgl hbl hbd hi hb hpos
      revert hnb hni hnx
      generalize setItr wr w.heap.size s (pos + n) = w2
      intro hnx hnb hni
      cases bl
      ·
       cases bd
       ·
        have hr : r = false := by rw [<- HR.out]; exact HNOT.out HW.out
        subst hr
        go_wp2_with (first | (go_at_call 163; refine (CL.out _).mono ?_; rintro e w' ⟨rfl, rfl⟩) | (go_at_call 164; refine (CD.out _).mono ?_; rintro e w' ⟨rfl, rfl⟩))
        go_ret
        exact ⟨rfl, hnb⟩
       ·
        go_wp2_with (first | (go_at_call 163; refine (CL.out _).mono ?_; rintro e w' ⟨rfl, rfl⟩) | (go_at_call 164; refine (CD.out _).mono ?_; rintro e w' ⟨rfl, rfl⟩))
        have e1 := HN1.out (HASC.out HW.out)
        subst e1
        go_roundg (gk - 1)
        case rel => exact ⟨pos + 1, by have := HP.out; omega, hni, hnb, by rw [take_more HGL.out, List.all_append, HA.out]; simp [HW.out]⟩
        case measure => have := HP.out; omega
      ·
       go_wp2_with (first | (go_at_call 163; refine (CL.out _).mono ?_; rintro e w' ⟨rfl, rfl⟩) | (go_at_call 164; refine (CD.out _).mono ?_; rintro e w' ⟨rfl, rfl⟩))
       have hwt : wordB (s[pos]'hlt) = true := by rw [HW.out]; rfl
       have e1 := HN1.out (HASC.out hwt)
       subst e1
       go_roundg (gk - 1)
       case rel => exact ⟨pos + 1, by have := HP.out; omega, hni, hnb, by rw [take_more HGL.out, List.all_append, HA.out]; simp [hwt]⟩
       case measure => have := HP.out; omega
     ·
      obtain ⟨wo, rfl⟩ : ∃ wo : World, wo = wr := ⟨_, rfl⟩
      have hnx := fun ty => run_next_stop (P := Tryz.prog) wo w.heap.size s pos ty hi hlt
      have hall : s.data.toList.all wordB = true := by
       have := HA.out
       rwa [List.take_of_length_le (by simp; omega)] at this
      have HALL := Hd hall
      have HK : r = !keyB s := by rw [<- HR.out]; simp [isNameB, HB.out, hall, h20]
      replace HK := Hd HK
      have hk0 := Blk.new wo 9 (keywords.map Value.string).toArray
      have hkb : Below w.heap.size w (wo.alloc (.cells (keywords.map Value.string).toArray 9)) := hb.alloc hb.size _
      have CK := keywords15_any wo
      replace CK := Hd CK
      clear hall hi hpos HA
      go_wp2_with (go_at_call 165; refine CK.out.mono ?_; rintro e w' ⟨rfl, rfl⟩)
      revert hk0 hkb
      generalize wo.alloc (.cells (keywords.map Value.string).toArray 9) = w3
      intro hk0 hkb
      clear CK
      go_loopg [5, 38] 29 (fun g _ i wv => ∃ k : Nat, k + g = 29 /\ i = .int .i64 k /\ Blk wv wo.heap.size 9 (keywords.map Value.string).toArray /\ Below w.heap.size w wv /\ ((keywords.take k).any fun k => decide (s = k)) = false)
      case atStart => exact ⟨0, by omega, rfl, hk0, hkb, rfl⟩
      case round =>
       obtain ⟨k, hkg, rfl, hk, hbv, hno⟩ := hrel
       have HNO := Hd hno
       have HKG := Hd hkg
       have HKB := Hd hk
       have hsz3 := hk.lt
       clear hk0 hkb hno hkg hk
       by_cases hlt2 : k < 29
       ·
        obtain ⟨x, hx⟩ := get_of_lt (xs := keywords) (k := k) (by rw [keywords_len]; exact hlt2)
        have hc : wr.cell? ⟨wo.heap.size, k, none⟩ = some (.string x) := by rw [HKB.out.cell]; simp [hx]
        have HX := Hd hx
        clear hx
        by_cases he : s = x
        ·
         have hbe : (s.toList == x.toList) = true := by rw [str_beq]; simpa using he
         have HE := Hd he
         clear he
         go_wp2
         go_ret
         exact ⟨ret_bool (by rw [HK.out, keyB_mem HX.out HE.out]; rfl), hbv⟩
        ·
         have hbe : (s.toList == x.toList) = false := by rw [str_beq]; simpa using he
         have HE := Hd he
         clear he
         go_wp2
         go_roundg (gk - 1)
         case rel => exact ⟨k + 1, by have := HKG.out; omega, by go_num, HKB.out, hbv, by rw [keyB_take HX.out, HNO.out]; simp [HE.out]⟩
         case measure => have := HKG.out; omega
       ·
        go_wp2
        go_ret
        refine ⟨ret_bool ?_, hbv⟩
        have := HNO.out
        rw [List.take_of_length_le (by rw [keywords_len]; omega)] at this
        rw [HK.out, keyB, this]; rfl
  ·
   have hr : r = false := by rw [<- HR.out]; simp [isNameB]; omega
   subst hr
   go_enter Tryz.func146, Tryz.ntmps146
   go_wp2
   go_ret
   exact ⟨rfl, Below.refl _ _⟩
end Go.Proofs.YtdnblkklgdnapaaGreat
