/- Walk: decimal digits of small numbers, by the reference. -/
import Derived.Test.YtmlldjcbijoheaaDoorDec
import Derived.Laws.IdiomStrings
namespace Go.Proofs.YtmlldjcbijoheaaDoor
open Go.RowKit

theorem conv_one (w : World) (c : UInt8) : (convert 45 9 (.slice (some ⟨w.heap.size, 0, none⟩) 1 1)).run Tryd.prog (w.alloc (.cells #[.int .u8 (c.toNat : Int)] 5)) = .ok (.string ⟨#[c]⟩) (w.alloc (.cells #[.int .u8 (c.toNat : Int)] 5)) := by
  refine run_convert_bytes_back (P := Tryd.prog) (w.alloc (.cells #[.int .u8 (c.toNat : Int)] 5)) 45 9 5 ⟨w.heap.size, 0, none⟩ 1 [c] Tryd.underlying45 Tryd.underlying5 Tryd.underlying9 ?_
  intro j hj
  obtain rfl : j = 0 := by simpa using hj
  rw [Addr.add_lit]
  simp
set_option maxRecDepth 100000 in
set_option maxHeartbeats 8000000 in
theorem digit_one (i : Nat) (w : World) (h : i < 10) : Calls Tryd.prog 11 #[.int .i64 i] w fun e w' => e = .returned (.string (decS i)) ∧ Below w.heap.size w w' := by
  have hc : i = 0 ∨ i = 1 ∨ i = 2 ∨ i = 3 ∨ i = 4 ∨ i = 5 ∨ i = 6 ∨ i = 7 ∨ i = 8 ∨ i = 9 := by omega
  have hk := conv_one w (48 + i).toUInt8
  clear h
  rcases hc with rfl | rfl | rfl | rfl | rfl | rfl | rfl | rfl | rfl | rfl
  all_goals
    simp at hk
    go_enter Tryd.func11, Tryd.ntmps11
    go_wp2
    go_ret
    exact ⟨ret_str (by decide), (Below.refl _ _).alloc (Nat.le_refl _) _⟩
theorem decS_size (i : Nat) : (decS i).size ≤ 2 := by
  unfold decS
  split <;> simp [ByteArray.size]
set_option maxRecDepth 100000 in
set_option maxHeartbeats 16000000 in
theorem digits_any (i : Nat) (w : World) (h : i < 60) : Calls Tryd.prog 11 #[.int .i64 i] w fun e w' => e = .returned (.string (decS i)) ∧ Below w.heap.size w w' := by
  by_cases h10 : i < 10
  · exact digit_one i w h10
  · have hk := conv_one w (48 + i % 10).toUInt8
    have C := fun W => digit_one (i / 10) W (by omega)
    have hd : decS i = decS (i / 10) ++ ⟨#[(48 + i % 10).toUInt8]⟩ := by
      unfold decS
      rw [if_neg h10, if_pos (by omega)]
      rfl
    rw [hd]
    have hd2 : (48 + i % 10).toUInt8.toNat = 48 + i % 10 := by simp; omega
    rw [hd2] at hk
    obtain ⟨c, hc⟩ : ∃ c, (48 + i % 10).toUInt8 = c := ⟨_, rfl⟩
    rw [hc] at hk ⊢
    have hc1 : ((48 + i % 10 : Nat) : Int) = 48 + (i : Int) % 10 := by omega
    have hc2 : ((i : Int) / 10) = ((i / 10 : Nat) : Int) := by omega
    rw [hc1] at hk
    have HC2 := Lib.hid hc2
    replace C := Lib.hid C
    have hb0 : Below w.heap.size w (w.alloc (.cells #[.int .u8 (48 + (i : Int) % 10)] 5)) := (Below.refl _ _).alloc (Nat.le_refl _) _
    have hm0 : 0 ≤ (i : Int) % 10 := by omega
    have hm1 : (i : Int) % 10 ≤ 9 := by omega
    have hi0 : 0 ≤ (i : Int) := by omega
    have hi1 : 10 ≤ (i : Int) := by omega
    have hi2 : (i : Int) < 60 := by omega
    have hsz := decS_size (i / 10)
    have hdec : decide ((i : Int) < 10) = false := by simp; omega
    have hdec2 : decide (i < 10) = false := by simp; omega
    clear hd hd2 hc hc1 hc2 h h10
    go_enter Tryd.func11, Tryd.ntmps11
    go_wp2_with fail
    rw [HC2.out]
    refine (C.out _).mono ?_
    rintro e w1 ⟨rfl, hb1⟩
    have hw := below_then hb0 hb1
    go_wp2
    go_ret
    exact ⟨rfl, hw⟩
end Go.Proofs.YtmlldjcbijoheaaDoor

