/- Walk of the law AstWords: for all integers a, b the call returns true and changes nothing. -/
import Derived.Test.YtmlldjcbijoheaaAstK
import Derived.Test.YtmlldjcbijoheaaAstWordsLaw
namespace Go.Proofs.Ytmlldjcbijoheaa
open Go.RowKit

set_option maxHeartbeats 400000 in
theorem awake_any (w : World) :
    Calls Try.prog 31 #[] w fun e w' => e = .returned (.bool true) ∧ w = w' := by
  have h1 : AstP.word 10 = ⟨#[109, 105, 100, 112, 111, 105, 110, 116]⟩ := by decide +kernel
  have h2 : AstP.kind ⟨#[109, 105, 100, 112, 111, 105, 110, 116]⟩ = 10 := by decide +kernel
  have h3 : AstP.sort 10 = 1 := by decide +kernel
  go_enter Try.func31, Try.ntmps31
  go_wp2_with (first
    | (go_at_call 28; refine (word_any _ _).mono ?_; rintro e w' ⟨rfl, rfl⟩)
    | (go_at_call 29; refine (kind_any _ _).mono ?_; rintro e w' ⟨rfl, rfl⟩)
    | (go_at_call 30; refine (sort_any _ _).mono ?_; rintro e w' ⟨rfl, rfl⟩))
  go_ret
  exact ⟨rfl, rfl⟩

/-- what a round asks of its kind -/
def OkWord (k : Int) : Prop := (AstP.word k).toList.isEmpty = true ∨
  ((AstP.word k).toList.isEmpty = false ∧ AstP.kind (AstP.word k) ≤ k ∧ Hid (AstP.word (AstP.kind (AstP.word k)) = AstP.word k))
theorem okWord (k : Int) : OkWord k := by
  by_cases h : AstP.word k = ⟨#[]⟩
  · exact .inl (by rw [str_isEmpty]; simp [h])
  · exact .inr ⟨by rw [str_isEmpty]; simp [h], (AstP.kind_word h).1, (AstP.kind_word h).2⟩

/-- what the last line asks -/
theorem lastLine (a b : Int) : (a == b) = true ∨ ((a == b) = false ∧ (AstP.word a).toList.isEmpty = true) ∨
    ((a == b) = false ∧ (AstP.word a).toList.isEmpty = false ∧ ((AstP.word a).toList == (AstP.word b).toList) = false) ∨
    ((a == b) = false ∧ (AstP.word a).toList.isEmpty = false ∧ ((AstP.word a).toList == (AstP.word b).toList) = true ∧ (AstP.sort a == AstP.sort b) = false ∧ (AstP.sort a != AstP.sort b) = true) := by
  by_cases h : a = b
  · exact .inl (by simp [h])
  by_cases h1 : AstP.word a = ⟨#[]⟩
  · exact .inr (.inl ⟨by simp [h], by rw [str_isEmpty]; simp [h1]⟩)
  by_cases h2 : AstP.word a = AstP.word b
  · exact .inr (.inr (.inr ⟨by simp [h], by rw [str_isEmpty]; simp [h1], by rw [str_beq]; simp [h2], by simpa using AstP.sorts_differ h h1 h2, by simpa using AstP.sorts_differ h h1 h2⟩))
  · exact .inr (.inr (.inl ⟨by simp [h], by rw [str_isEmpty]; simp [h1], by rw [str_beq]; simp [h2]⟩))

set_option maxHeartbeats 1000000 in
theorem astWords_any (a b : Int) (w : World) :
    Calls Try.prog 7 #[.int .i64 a, .int .i64 b] w fun e w' => e = .returned (.bool true) ∧ Below w.heap.size w w' := by
  go_enter Try.func7, Try.ntmps7
  go_wp2
  go_loop [13] (fun i => i = .int .i64 0 ∨ i = .int .i64 1 ∨ i = .int .i64 2) (fun i => 2 - (intOf i).toNat)
  case atStart => exact .inl rfl
  case round =>
    rcases hrel with rfl | rfl | rfl
    · rcases okWord a with h | ⟨h, h1, h2⟩
      · go_wp2_with (first
      | (go_at_call 28; refine (word_any _ _).mono ?_; rintro e w' ⟨rfl, rfl⟩)
      | (go_at_call 29; refine (kind_any _ _).mono ?_; rintro e w' ⟨rfl, rfl⟩)
      | (go_at_call 30; refine (sort_any _ _).mono ?_; rintro e w' ⟨rfl, rfl⟩)
      | (go_at_call 31; refine (awake_any _).mono ?_; rintro e w' ⟨rfl, rfl⟩))
        go_round
        case rel => exact .inr (.inl rfl)
        case measure => simp [intOf]
      · have h3 : ((AstP.word (AstP.kind (AstP.word a))).toList == (AstP.word a).toList) = true := by rw [str_beq]; simpa using h2.out
        have h4 : decide (a < AstP.kind (AstP.word a)) = false := by simpa using h1
        go_wp2_with (first
      | (go_at_call 28; refine (word_any _ _).mono ?_; rintro e w' ⟨rfl, rfl⟩)
      | (go_at_call 29; refine (kind_any _ _).mono ?_; rintro e w' ⟨rfl, rfl⟩)
      | (go_at_call 30; refine (sort_any _ _).mono ?_; rintro e w' ⟨rfl, rfl⟩)
      | (go_at_call 31; refine (awake_any _).mono ?_; rintro e w' ⟨rfl, rfl⟩))
        go_round
        case rel => exact .inr (.inl rfl)
        case measure => simp [intOf]
    · rcases okWord b with h | ⟨h, h1, h2⟩
      · go_wp2_with (first
      | (go_at_call 28; refine (word_any _ _).mono ?_; rintro e w' ⟨rfl, rfl⟩)
      | (go_at_call 29; refine (kind_any _ _).mono ?_; rintro e w' ⟨rfl, rfl⟩)
      | (go_at_call 30; refine (sort_any _ _).mono ?_; rintro e w' ⟨rfl, rfl⟩)
      | (go_at_call 31; refine (awake_any _).mono ?_; rintro e w' ⟨rfl, rfl⟩))
        go_round
        case rel => exact .inr (.inr rfl)
        case measure => simp [intOf]
      · have h3 : ((AstP.word (AstP.kind (AstP.word b))).toList == (AstP.word b).toList) = true := by rw [str_beq]; simpa using h2.out
        have h4 : decide (b < AstP.kind (AstP.word b)) = false := by simpa using h1
        go_wp2_with (first
      | (go_at_call 28; refine (word_any _ _).mono ?_; rintro e w' ⟨rfl, rfl⟩)
      | (go_at_call 29; refine (kind_any _ _).mono ?_; rintro e w' ⟨rfl, rfl⟩)
      | (go_at_call 30; refine (sort_any _ _).mono ?_; rintro e w' ⟨rfl, rfl⟩)
      | (go_at_call 31; refine (awake_any _).mono ?_; rintro e w' ⟨rfl, rfl⟩))
        go_round
        case rel => exact .inr (.inr rfl)
        case measure => simp [intOf]
    · rcases lastLine a b with h | ⟨h, h1⟩ | ⟨h, h1, h2⟩ | ⟨h, h1, h2, h3, h4⟩
      all_goals
        go_wp2_with (first
      | (go_at_call 28; refine (word_any _ _).mono ?_; rintro e w' ⟨rfl, rfl⟩)
      | (go_at_call 29; refine (kind_any _ _).mono ?_; rintro e w' ⟨rfl, rfl⟩)
      | (go_at_call 30; refine (sort_any _ _).mono ?_; rintro e w' ⟨rfl, rfl⟩)
      | (go_at_call 31; refine (awake_any _).mono ?_; rintro e w' ⟨rfl, rfl⟩))
        go_ret
        exact ⟨rfl, by go_grown⟩

theorem astWords_law (a : Int) (_wa : (Lit.int .i64 a).wf = true) (b : Int) (_wb : (Lit.int .i64 b).wf = true) (w : World) :
    Calls Try.prog 7 #[.int .i64 a, .int .i64 b] w fun e w' => e = .returned (.bool true) ∧ Below w.heap.size w w' := astWords_any a b w
end Go.Proofs.Ytmlldjcbijoheaa
