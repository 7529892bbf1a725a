/- Walk: the table of kinds. -/
import Derived.Test.YtmlldjcbijoheaaTabP
import Derived.Test.YtmlldjcbijoheaaRows
namespace Go.Proofs.Ytmlldjcbijoheaa
open Go.RowKit
set_option maxRecDepth 100000 in
set_option maxHeartbeats 4000000 in
theorem rows16_raw (w : World) :
    Calls Try.prog 87 #[] w fun r w' => r = .returned (.slice (some ⟨w.heap.size + 30, 0, none⟩) 30 30) ∧ w' = tableWorld 3 107 w kindTable := by
  go_enter Try.func87, Try.ntmps87
  go_wp2
  go_ret
  refine ⟨rfl, ?_⟩
  simp only [tableWorld, kindTable, allocs, List.map, rowVals, intObj, List.length]
theorem kindTable_len : kindTable.length = 30 := rfl
theorem kindTable_ok : ∀ r ∈ kindTable, (∀ x ∈ r.params, InInt x) ∧ r.params.length ≤ maxLen := by
  have : ∀ r ∈ kindTable, (∀ x ∈ r.params, 0 ≤ x ∧ x ≤ 4) ∧ r.params.length ≤ 6 := by decide
  intro r hr
  have h := this r hr
  exact ⟨fun x hx => by have := h.1 x hx; unfold InInt; omega, by have := h.2; unfold maxLen; omega⟩
/-- the table of kinds is laid -/
theorem rows16_any (w : World) :
    Calls Try.prog 87 #[] w fun r w' => ∃ a, r = .returned (.slice (some a) 30 30) ∧ SlR 4 KRowE w' (some a) 30 kindTable ∧ Below w.heap.size w w' := by
  refine (rows16_raw w).mono ?_
  rintro r w' ⟨rfl, rfl⟩
  exact ⟨_, rfl, table_reads _ _ w kindTable (by rw [kindTable_len]; unfold maxLen; omega) kindTable_ok, table_below _ _ w kindTable⟩
end Go.Proofs.Ytmlldjcbijoheaa
