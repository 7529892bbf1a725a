/- Walks: whether a string is a name, by the reference and by the program. -/
import Derived.Test.YtmlldjcbijoheaaNameP
import Derived.Test.YtmlldjcbijoheaaStrs
import Derived.Test.YtmlldjcbijoheaaRows
namespace Go.Proofs.Ytmlldjcbijoheaa
open Go.RowKit

set_option maxHeartbeats 1000000 in
theorem letter15_any (c : Int) (w : World) (h0 : 0 ≤ c) (h1 : c ≤ 255) :
    Calls Try.prog 104 #[.int .u8 c] w fun e w' => e = .returned (.bool (letB c)) ∧ w = w' := by
  obtain ⟨b, hb⟩ : ∃ b, letB c = b := ⟨_, rfl⟩
  have hb2 := hb
  unfold letB at hb2
  rw [hb]
  have HB := Lib.hid hb2
  clear hb hb2
  by_cases h2 : 65 ≤ c <;> by_cases h3 : c ≤ 90 <;> by_cases h4 : 97 ≤ c <;> by_cases h5 : c ≤ 122 <;> first | (exfalso; omega) | skip
  all_goals
    go_enter Try.func104, Try.ntmps104
    go_wp2
    go_ret
    refine ⟨ret_bool ?_, rfl⟩
    rw [← HB.out]
    first | (symm; apply decide_eq_true; omega) | (symm; apply decide_eq_false; omega)
set_option maxHeartbeats 1000000 in
theorem digit15_any (c : Int) (w : World) (h0 : 0 ≤ c) (h1 : c ≤ 255) :
    Calls Try.prog 105 #[.int .u8 c] w fun e w' => e = .returned (.bool (digB c)) ∧ w = w' := by
  obtain ⟨b, hb⟩ : ∃ b, digB c = b := ⟨_, rfl⟩
  have hb2 := hb
  unfold digB at hb2
  rw [hb]
  have HB := Lib.hid hb2
  clear hb hb2
  by_cases h2 : 48 ≤ c <;> by_cases h3 : c ≤ 57 <;> first | (exfalso; omega) | skip
  all_goals
    go_enter Try.func105, Try.ntmps105
    go_wp2
    go_ret
    refine ⟨ret_bool ?_, rfl⟩
    rw [← HB.out]
    first | (symm; apply decide_eq_true; omega) | (symm; apply decide_eq_false; omega)

theorem keywords15_any (w : World) : Calls Try.prog 106 #[] w fun e w' => e = .returned (.slice (some ⟨w.heap.size, 0, none⟩) 29 29) ∧ w.alloc (.cells (keywords.map Value.string).toArray 9) = w' := by
  go_enter Try.func106, Try.ntmps106
  go_wp2
  go_ret
  exact ⟨rfl, rfl⟩
theorem keywords_any (w : World) : Calls Try.prog 103 #[] w fun e w' => e = .returned (.slice (some ⟨w.heap.size, 0, none⟩) 29 29) ∧ w.alloc (.cells (keywords.map Value.string).toArray 9) = w' := by
  go_enter Try.func103, Try.ntmps103
  go_wp2
  go_ret
  exact ⟨rfl, rfl⟩
end Go.Proofs.Ytmlldjcbijoheaa
