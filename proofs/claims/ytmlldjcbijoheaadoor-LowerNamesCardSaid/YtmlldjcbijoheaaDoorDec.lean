/- Walks: decimal digits of small numbers, by the library and by the reference. -/
import Derived.Test.YtmlldjcbijoheaaDoorStrs
import Derived.Test.YtmlldjcbijoheaaDoorRows
namespace Go.Proofs.YtmlldjcbijoheaaDoor
open Go.RowKit

/-- the decimal digits of a number below 100 -/
def decS (i : Nat) : ByteArray := if i < 10 then ⟨#[(48 + i).toUInt8]⟩ else ⟨#[(48 + i / 10).toUInt8, (48 + i % 10).toUInt8]⟩
theorem below60 {i : Nat} (h : i < 60) : i = 0 ∨ i = 1 ∨ i = 2 ∨ i = 3 ∨ i = 4 ∨ i = 5 ∨ i = 6 ∨ i = 7 ∨ i = 8 ∨ i = 9 ∨ i = 10 ∨ i = 11 ∨ i = 12 ∨ i = 13 ∨ i = 14 ∨ i = 15 ∨ i = 16 ∨ i = 17 ∨ i = 18 ∨ i = 19 ∨ i = 20 ∨ i = 21 ∨ i = 22 ∨ i = 23 ∨ i = 24 ∨ i = 25 ∨ i = 26 ∨ i = 27 ∨ i = 28 ∨ i = 29 ∨
    i = 30 ∨ i = 31 ∨ i = 32 ∨ i = 33 ∨ i = 34 ∨ i = 35 ∨ i = 36 ∨ i = 37 ∨ i = 38 ∨ i = 39 ∨ i = 40 ∨ i = 41 ∨ i = 42 ∨ i = 43 ∨ i = 44 ∨ i = 45 ∨ i = 46 ∨ i = 47 ∨ i = 48 ∨ i = 49 ∨ i = 50 ∨ i = 51 ∨ i = 52 ∨ i = 53 ∨ i = 54 ∨ i = 55 ∨ i = 56 ∨ i = 57 ∨ i = 58 ∨ i = 59 := by omega
set_option maxRecDepth 100000 in
set_option maxHeartbeats 8000000 in
theorem small_any (i : Nat) (w : World) (h : i < 60) : Calls Tryd.prog 15 #[.int .i64 i] w fun e w' => e = .returned (.string (decS i)) ∧ w = w' := by
  rcases below60 h with rfl | rfl | rfl | rfl | rfl | rfl | rfl | rfl | rfl | rfl | rfl | rfl | rfl | rfl | rfl | rfl | rfl | rfl | rfl | rfl | rfl | rfl | rfl | rfl | rfl | rfl | rfl | rfl | rfl | rfl | rfl | rfl | rfl | rfl | rfl | rfl | rfl | rfl | rfl | rfl | rfl | rfl | rfl | rfl | rfl | rfl | rfl | rfl | rfl | rfl | rfl | rfl | rfl | rfl | rfl | rfl | rfl | rfl | rfl | rfl
  all_goals
    clear h
    go_enter Tryd.func15, Tryd.ntmps15
    go_wp2
    go_ret
    exact ⟨ret_str (by decide), rfl⟩
set_option maxHeartbeats 400000 in
theorem itoa_any (i : Nat) (w : World) (h : i < 60) : Calls Tryd.prog 10 #[.int .i64 i] w fun e w' => e = .returned (.string (decS i)) ∧ w = w' := by
  have CS := fun W => small_any i W h
  replace CS := Lib.hid CS
  have C1 : ∀ w, Calls Tryd.prog 14 #[.int .i64 i, .int .i64 10] w fun e w' => e = .returned (.string (decS i)) ∧ w = w' := by
    intro w
    go_enter Tryd.func14, Tryd.ntmps14
    go_wp2_with fail
    refine (CS.out _).mono ?_
    rintro e w' ⟨rfl, rfl⟩
    go_wp2
    go_ret
    exact ⟨rfl, rfl⟩
  replace C1 := Lib.hid C1
  have C2 : ∀ w, Calls Tryd.prog 13 #[.int .i64 i] w fun e w' => e = .returned (.string (decS i)) ∧ w = w' := by
    intro w
    go_enter Tryd.func13, Tryd.ntmps13
    go_wp2_with fail
    refine (C1.out _).mono ?_
    rintro e w' ⟨rfl, rfl⟩
    go_wp2
    go_ret
    exact ⟨rfl, rfl⟩
  replace C2 := Lib.hid C2
  go_enter Tryd.func10, Tryd.ntmps10
  go_wp2_with fail
  refine (C2.out _).mono ?_
  rintro e w' ⟨rfl, rfl⟩
  go_wp2
  go_ret
  exact ⟨rfl, rfl⟩
end Go.Proofs.YtmlldjcbijoheaaDoor

