/- Walks: what is read off a row of the table. -/
import Derived.Test.YtmlldjcbijoheaaFind
namespace Go.Proofs.Ytmlldjcbijoheaa
open Go.RowKit
theorem row_f1 (k s : Int) (t : ByteArray) (v : Value) (w : World) : (Instr.field 107 (.agg #[.int .i64 k, .int .i64 s, .string t, v]) 1).run Try.prog w = .ok (.int .i64 s) w := by kernel_rfl
theorem row_f2 (k s : Int) (t : ByteArray) (v : Value) (w : World) : (Instr.field 107 (.agg #[.int .i64 k, .int .i64 s, .string t, v]) 2).run Try.prog w = .ok (.string t) w := by kernel_rfl
theorem row_f3 (k s : Int) (t : ByteArray) (v : Value) (w : World) : (Instr.field 107 (.agg #[.int .i64 k, .int .i64 s, .string t, v]) 3).run Try.prog w = .ok v w := by kernel_rfl
theorem row_f0 (k s : Int) (t : ByteArray) (v : Value) (w : World) : (Instr.field 107 (.agg #[.int .i64 k, .int .i64 s, .string t, v]) 0).run Try.prog w = .ok (.int .i64 k) w := by kernel_rfl
def findWord2 (w : ByteArray) : KRow := (kindTable.find? fun r => decide (r.word = w)).getD ⟨0, 0, ⟨#[]⟩, []⟩
set_option maxRecDepth 100000 in
theorem sort16_any (q : Int) (w : World) :
    Calls Try.prog 46 #[.int .i64 q] w fun r w' => r = .returned (.int .i64 (findRow q).sort) ∧ Below w.heap.size w w' := by
  have F := find16_any q w
  revert F
  generalize findRow q = R
  intro F
  go_enter Try.func46, Try.ntmps46
  go_wp2_with fail
  refine F.mono ?_
  clear F
  rintro r w1 ⟨a, c, rfl, hi, hb⟩
  unfold KRow.val
  have hfd := fun w => row_f1 R.kind R.sort R.word (.slice a R.params.length c) w
  go_wp2_with fail
  go_ret
  exact ⟨rfl, hb⟩
set_option maxRecDepth 100000 in
theorem word16_any (q : Int) (w : World) :
    Calls Try.prog 50 #[.int .i64 q] w fun r w' => r = .returned (.string (findRow q).word) ∧ Below w.heap.size w w' := by
  have F := find16_any q w
  revert F
  generalize findRow q = R
  intro F
  go_enter Try.func50, Try.ntmps50
  go_wp2_with fail
  refine F.mono ?_
  clear F
  rintro r w1 ⟨a, c, rfl, hi, hb⟩
  unfold KRow.val
  have hfd := fun w => row_f2 R.kind R.sort R.word (.slice a R.params.length c) w
  go_wp2_with fail
  go_ret
  exact ⟨rfl, hb⟩
set_option maxRecDepth 100000 in
theorem params16_any (q : Int) (w : World) :
    Calls Try.prog 49 #[.int .i64 q] w fun r w' => ∃ a c, r = .returned (.slice a (findRow q).params.length c) ∧ IntsR w' a c (findRow q).params ∧ Below w.heap.size w w' := by
  have F := find16_any q w
  revert F
  generalize findRow q = R
  intro F
  go_enter Try.func49, Try.ntmps49
  go_wp2_with fail
  refine F.mono ?_
  clear F
  rintro r w1 ⟨a, c, rfl, hi, hb⟩
  unfold KRow.val
  have hfd := fun w => row_f3 R.kind R.sort R.word (.slice a R.params.length c) w
  go_wp2_with fail
  go_ret
  exact ⟨a, c, rfl, hi, hb⟩

set_option maxRecDepth 100000 in
set_option maxHeartbeats 1000000 in
theorem kind16_any (q : ByteArray) (w : World) :
    Calls Try.prog 51 #[.string q] w fun r w' => r = .returned (.int .i64 (findWord2 q).kind) ∧ Below w.heap.size w w' := by
  go_enter Try.func51, Try.ntmps51
  go_wp2_with fail
  refine (rows16_new _).mono ?_
  rintro r w1 ⟨ab, rfl, hb1, hT⟩
  have HT := Lib.hid hT
  clear hT
  go_wp2_with fail
  go_loopw [7] (fun i wr => ∃ k : Nat, k ≤ 30 ∧ i = .int .i64 k ∧ Below w.heap.size w wr ∧ Below w1.heap.size w1 wr ∧ Hid (∀ y ∈ kindTable.take k, decide (y.word = q) = false)) (fun i _ => 30 - (intOf i).toNat)
  case atStart => exact ⟨0, by omega, rfl, hb1, Below.refl _ _, by simp [Hid]⟩
  case round =>
    obtain ⟨k, hk, rfl, hb, hb2, hp⟩ := hrel
    clear hb1
    by_cases hlt : k < 30
    · obtain ⟨x, hx⟩ := get_of_lt (xs := kindTable) (k := k) (by rw [kindTable_len]; exact hlt)
      obtain ⟨a, c, hE⟩ := HT.out k x hx
      have hNew : New w.heap.size w1 wr := (New.refl _ wr).below hb2
      obtain ⟨q0, q1, q2, q3, -⟩ := hE wr hNew
      have HXX := Lib.hid hx
      clear hx hE hNew
      by_cases he : x.word = q
      · have hb3 : (x.word.toList == q.toList) = true := by rw [str_beq]; simpa using he
        have hb4 : decide (x.word = q) = true := decide_eq_true he
        have HE := Lib.hid hb4
        clear he hb4
        go_wp2_with fail
        go_ret
        refine ⟨ret_int ?_, hb.alloc hb.size _⟩
        unfold findWord2; rw [find_here HXX.out HE.out hp.out]; rfl
      · have hb3 : (x.word.toList == q.toList) = false := by rw [str_beq]; simpa using he
        have hb4 : decide (x.word = q) = false := decide_eq_false he
        have HE := Lib.hid hb4
        clear he hb4
        go_wp2_with fail
        refine ⟨⟨k + 1, by omega, by go_num, hb.alloc hb.size _, hb2.alloc hb2.size _, ?_⟩, by simp [intOf]; omega⟩
        intro y hy
        rw [take_more HXX.out] at hy
        rcases List.mem_append.1 hy with hy | hy
        · exact hp.out y hy
        · simp at hy; subst hy; exact HE.out
    · have hl30 : decide ((k : Int) < 30) = false := by simp; omega
      go_wp2_with fail
      go_ret
      refine ⟨ret_int ?_, hb⟩
      have := hp.out
      rw [take_all (by rw [kindTable_len]; exact hlt)] at this
      unfold findWord2; rw [find_none this]; rfl
end Go.Proofs.Ytmlldjcbijoheaa
