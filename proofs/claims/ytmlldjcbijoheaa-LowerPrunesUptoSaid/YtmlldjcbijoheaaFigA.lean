/- Walks: arities and the zero value, by the reference. -/
import Derived.Test.YtmlldjcbijoheaaFigP
import Derived.Test.YtmlldjcbijoheaaRows
namespace Go.Proofs.Ytmlldjcbijoheaa
open Go.RowKit

theorem eqb_false {a b : Int} (h : ¬ a = b) : (a == b) = false := by simpa using h
set_option maxHeartbeats 2000000 in
theorem arity14_any (k : Int) (w : World) : Calls Try.prog 91 #[.int .i64 k] w fun e w' => e = .returned (.int .i64 (arity14 k)) ∧ w = w' := by
  by_cases hk : 1 ≤ k ∧ k ≤ 9
  · have hc : k = 1 ∨ k = 2 ∨ k = 3 ∨ k = 4 ∨ k = 5 ∨ k = 6 ∨ k = 7 ∨ k = 8 ∨ k = 9 := by omega
    clear hk
    rcases hc with rfl | rfl | rfl | rfl | rfl | rfl | rfl | rfl | rfl
    all_goals
      go_enter Try.func91, Try.ntmps91
      go_wp2
      go_ret
      exact ⟨ret_int (by decide), rfl⟩
  · have h1 := eqb_false (a := k) (b := 1) (by omega); have h2 := eqb_false (a := k) (b := 2) (by omega); have h3 := eqb_false (a := k) (b := 3) (by omega)
    have h4 := eqb_false (a := k) (b := 4) (by omega); have h5 := eqb_false (a := k) (b := 5) (by omega); have h6 := eqb_false (a := k) (b := 6) (by omega)
    have h7 := eqb_false (a := k) (b := 7) (by omega); have h8 := eqb_false (a := k) (b := 8) (by omega); have h9 := eqb_false (a := k) (b := 9) (by omega)
    have hr : arity14 k = 0 := by unfold arity14; rw [if_neg (by omega), if_neg (by omega), if_neg (by omega), if_neg (by omega)]
    rw [hr]
    clear hr hk
    go_enter Try.func91, Try.ntmps91
    go_wp2
    go_ret
    exact ⟨rfl, rfl⟩
set_option maxHeartbeats 2000000 in
theorem arity20_any (k : Int) (w : World) : Calls Try.prog 88 #[.int .i64 k] w fun e w' => e = .returned (.int .i64 (arity20 k)) ∧ w = w' := by
  by_cases hk : 1 ≤ k ∧ k ≤ 14
  · have hc : k = 1 ∨ k = 2 ∨ k = 3 ∨ k = 4 ∨ k = 5 ∨ k = 6 ∨ k = 7 ∨ k = 8 ∨ k = 9 ∨ k = 10 ∨ k = 11 ∨ k = 12 ∨ k = 13 ∨ k = 14 := by omega
    clear hk
    rcases hc with rfl | rfl | rfl | rfl | rfl | rfl | rfl | rfl | rfl | rfl | rfl | rfl | rfl | rfl
    all_goals
      go_enter Try.func88, Try.ntmps88
      go_wp2
      go_ret
      exact ⟨ret_int (by decide), rfl⟩
  · have h1 := eqb_false (a := k) (b := 1) (by omega); have h2 := eqb_false (a := k) (b := 2) (by omega); have h3 := eqb_false (a := k) (b := 3) (by omega)
    have h4 := eqb_false (a := k) (b := 4) (by omega); have h5 := eqb_false (a := k) (b := 5) (by omega); have h6 := eqb_false (a := k) (b := 6) (by omega)
    have h7 := eqb_false (a := k) (b := 7) (by omega); have h8 := eqb_false (a := k) (b := 8) (by omega); have h9 := eqb_false (a := k) (b := 9) (by omega)
    have h10 := eqb_false (a := k) (b := 10) (by omega); have h11 := eqb_false (a := k) (b := 11) (by omega); have h12 := eqb_false (a := k) (b := 12) (by omega)
    have h13 := eqb_false (a := k) (b := 13) (by omega); have h14 := eqb_false (a := k) (b := 14) (by omega)
    have hr : arity20 k = -1 := by unfold arity20; rw [if_neg (by omega), if_neg (by omega), if_neg (by omega), if_neg (by omega)]
    rw [hr]
    clear hr hk
    go_enter Try.func88, Try.ntmps88
    go_wp2
    go_ret
    exact ⟨rfl, rfl⟩
theorem arity14_in (k : Int) : 0 ≤ arity14 k ∧ arity14 k ≤ 8 := by unfold arity14; split <;> (try split) <;> (try split) <;> (try split) <;> omega
theorem arity20_in (k : Int) : -1 ≤ arity20 k ∧ arity20 k ≤ 4 := by unfold arity20; split <;> (try split) <;> (try split) <;> (try split) <;> omega

set_option maxHeartbeats 1000000 in
theorem none14_any (r : Rt) (na : Option Addr) (nc : Nat) (da : Option Addr) (dc : Nat) (w : World) (hl : r.num.length ≤ 2000000) (hm : r.den.length ≤ 2000000) :
    Calls Try.prog 92 #[r.val na nc da dc] w fun e w' => e = .returned (.bool r.none) ∧ Below w.heap.size w w' := by
  obtain ⟨neg, num, den⟩ := r
  unfold Rt.val Rt.none
  dsimp only at hl hm ⊢
  by_cases h1 : num.length = 0 <;> by_cases h2 : den.length = 0
  all_goals
    have e1 : ((num.length : Int) == 0) = decide (num.length = 0) := by rw [Bool.eq_iff_iff]; simp
    have e2 : ((den.length : Int) == 0) = decide (den.length = 0) := by rw [Bool.eq_iff_iff]; simp
    have d1 : decide (num.length = 0) = decide (num.length = 0) := rfl
    simp only [h1, h2, decide_true, decide_false, if_true, if_false] at e1 e2
    have HH : (decide (num.length = 0), decide (den.length = 0)) = (decide (num.length = 0), decide (den.length = 0)) := rfl
    simp only [h1, h2, decide_true, decide_false] at HH ⊢
    clear HH d1
    cases neg
    all_goals
      have H1 := Lib.hid h1
      have H2 := Lib.hid h2
      clear h1 h2
      go_enter Try.func92, Try.ntmps92
      go_wp2
      go_ret
      exact ⟨rfl, (Below.refl _ _).alloc (Nat.le_refl _) _⟩
set_option maxHeartbeats 1000000 in
theorem none20_any (r : Rt) (na : Option Addr) (nc : Nat) (da : Option Addr) (dc : Nat) (w : World) (hl : r.num.length ≤ 2000000) (hm : r.den.length ≤ 2000000) :
    Calls Try.prog 90 #[r.val na nc da dc] w fun e w' => e = .returned (.bool r.none) ∧ Below w.heap.size w w' := by
  obtain ⟨neg, num, den⟩ := r
  unfold Rt.val Rt.none
  dsimp only at hl hm ⊢
  by_cases h1 : num.length = 0 <;> by_cases h2 : den.length = 0
  all_goals
    have e1 : ((num.length : Int) == 0) = decide (num.length = 0) := by rw [Bool.eq_iff_iff]; simp
    have e2 : ((den.length : Int) == 0) = decide (den.length = 0) := by rw [Bool.eq_iff_iff]; simp
    have d1 : decide (num.length = 0) = decide (num.length = 0) := rfl
    simp only [h1, h2, decide_true, decide_false, if_true, if_false] at e1 e2
    have HH : (decide (num.length = 0), decide (den.length = 0)) = (decide (num.length = 0), decide (den.length = 0)) := rfl
    simp only [h1, h2, decide_true, decide_false] at HH ⊢
    clear HH d1
    cases neg
    all_goals
      have H1 := Lib.hid h1
      have H2 := Lib.hid h2
      clear h1 h2
      go_enter Try.func90, Try.ntmps90
      go_wp2
      go_ret
      exact ⟨rfl, (Below.refl _ _).alloc (Nat.le_refl _) _⟩
end Go.Proofs.Ytmlldjcbijoheaa
