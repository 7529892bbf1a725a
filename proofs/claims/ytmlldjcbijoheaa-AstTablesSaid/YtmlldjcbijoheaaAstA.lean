/- Walks: ast.Sort, the shapes and the words of kinds compute the plain tables. -/
import Derived.Test.YtmlldjcbijoheaaRows
import Derived.Test.YtmlldjcbijoheaaAstPlain
import Derived.Test.YtmlldjcbijoheaaBase
namespace Go.Proofs.Ytmlldjcbijoheaa
open Go.RowKit

set_option maxHeartbeats 400000 in
theorem sort_any (k : Int) (w : World) :
    Calls Try.prog 30 #[.int .i64 k] w fun e w' => e = .returned (.int .i64 (AstP.sort k)) ∧ w = w' := by
  go_enter Try.func30, Try.ntmps30
  go_wp2
  all_goals go_ret
  all_goals exact ⟨ret_int (by unfold AstP.sort; repeat' split <;> omega), rfl⟩

theorem tup2 {a b : ByteArray} {p : ByteArray × ByteArray} (h : p = (a, b)) : Ending.returned (.tuple #[.string a, .string b]) = .returned (.tuple #[.string p.1, .string p.2]) := by rw [h]

set_option maxHeartbeats 400000 in
theorem pointShape_any (k : Int) (w : World) :
    Calls Try.prog 97 #[.int .i64 k] w fun e w' => e = .returned (.tuple #[.string (AstP.pointShape k).1, .string (AstP.pointShape k).2]) ∧ w = w' := by
  go_enter Try.func97, Try.ntmps97
  go_wp2
  all_goals go_ret2
  all_goals refine ⟨tup2 ?_, rfl⟩
  all_goals simp only [beq_iff_eq, beq_eq_false_iff_ne] at *
  all_goals simp [AstP.pointShape, *]

set_option maxHeartbeats 400000 in
theorem goalShape_any (k : Int) (w : World) :
    Calls Try.prog 98 #[.int .i64 k] w fun e w' => e = .returned (.tuple #[.string (AstP.goalShape k).1, .string (AstP.goalShape k).2]) ∧ w = w' := by
  go_enter Try.func98, Try.ntmps98
  go_wp2
  all_goals go_ret2
  all_goals refine ⟨tup2 ?_, rfl⟩
  all_goals simp only [beq_iff_eq, beq_eq_false_iff_ne] at *
  all_goals simp [AstP.goalShape, *]

set_option maxHeartbeats 400000 in
theorem shape_any (k : Int) (w : World) :
    Calls Try.prog 65 #[.int .i64 k] w fun e w' => e = .returned (.tuple #[.string (AstP.shape k).1, .string (AstP.shape k).2]) ∧ w = w' := by
  by_cases h1 : AstP.sort k = 1
  · go_enter Try.func65, Try.ntmps65
    go_wp2_with (first
      | (go_at_call 30; refine (sort_any _ _).mono ?_; rintro e w' ⟨rfl, rfl⟩)
      | (go_at_call 97; refine (pointShape_any _ _).mono ?_; rintro e w' ⟨rfl, rfl⟩))
    go_ret2
    exact ⟨tup2 (by simp [AstP.shape, h1]), rfl⟩
  · by_cases h4 : AstP.sort k = 4
    · go_enter Try.func65, Try.ntmps65
      go_wp2_with (first
        | (go_at_call 30; refine (sort_any _ _).mono ?_; rintro e w' ⟨rfl, rfl⟩)
        | (go_at_call 98; refine (goalShape_any _ _).mono ?_; rintro e w' ⟨rfl, rfl⟩))
      go_ret2
      exact ⟨tup2 (by simp [AstP.shape, h4]), rfl⟩
    · have e1 : (AstP.sort k == 1) = false := by simpa using h1
      have e4 : (AstP.sort k == 4) = false := by simpa using h4
      go_enter Try.func65, Try.ntmps65
      go_wp2_with (go_at_call 30; refine (sort_any _ _).mono ?_; rintro e w' ⟨rfl, rfl⟩)
      all_goals go_ret2
      all_goals refine ⟨tup2 ?_, rfl⟩
      all_goals rw [AstP.shape, if_neg h1, if_neg h4]
      all_goals simp only [beq_iff_eq, beq_eq_false_iff_ne] at *
      all_goals simp [AstP.lineShape, *]

set_option maxHeartbeats 400000 in
theorem word_any (k : Int) (w : World) :
    Calls Try.prog 28 #[.int .i64 k] w fun e w' => e = .returned (.string (AstP.word k)) ∧ w = w' := by
  go_enter Try.func28, Try.ntmps28
  go_wp2_with (go_at_call 65; refine (shape_any _ _).mono ?_; rintro e w' ⟨rfl, rfl⟩)
  go_ret
  exact ⟨rfl, rfl⟩

end Go.Proofs.Ytmlldjcbijoheaa
