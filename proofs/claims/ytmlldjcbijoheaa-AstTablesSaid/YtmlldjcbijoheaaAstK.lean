/- Walk: ast.Kind finds the least kind of a word. -/
import Derived.Test.YtmlldjcbijoheaaAstA
namespace Go.Proofs.Ytmlldjcbijoheaa
open Go.RowKit

set_option maxHeartbeats 400000 in
theorem kind_any (s : ByteArray) (w : World) :
    Calls Try.prog 29 #[.string s] w fun e w' => e = .returned (.int .i64 (AstP.kind s)) ∧ w = w' := by
  by_cases hs : s = ⟨#[]⟩
  · have he : s.toList.isEmpty = true := by rw [str_isEmpty]; simp [hs]
    have hk : AstP.kind s = 0 := by simp [AstP.kind, hs]
    have HK := Lib.hid hk
    clear hk hs
    go_enter Try.func29, Try.ntmps29
    go_wp2
    refine wp_loop_rounds 1 ?_
    rw [rounds_succ]
    go_wp2
    go_ret
    exact ⟨ret_int HK.out.symm, rfl⟩
  have he : s.toList.isEmpty = false := by rw [str_isEmpty]; simp [hs]
  have HS := Lib.hid hs
  clear hs
  go_enter Try.func29, Try.ntmps29
  go_wp2
  go_loop [3] (fun i => ∃ k : Nat, 1 ≤ k ∧ k ≤ 69 ∧ i = .int .i64 k ∧ Hid (AstP.kindFrom s (69 - k) k = AstP.kind s)) (fun i => 69 - (intOf i).toNat)
  case atStart => exact ⟨1, by omega, by omega, rfl, by have h := HS.out; simp [Hid, AstP.kind, h]⟩
  case round =>
    obtain ⟨k, h1, h2, rfl, hk⟩ := hrel
    go_wp2_with (go_at_call 28; refine (word_any _ _).mono ?_; rintro e w' ⟨rfl, rfl⟩)
    · go_ret
      have hk' := hk.out
      have e : 69 - k = (68 - k) + 1 := by omega
      have hw : ((AstP.word k).toList == s.toList) = true := by assumption
      rw [str_beq] at hw
      rw [e, AstP.kindFrom, if_pos (by simpa using hw)] at hk'
      exact ⟨ret_int hk', rfl⟩
    · have hw : ((AstP.word k).toList == s.toList) = false := by assumption
      rw [str_beq] at hw
      go_round
      case rel =>
        have hk' := hk.out
        have e : 69 - k = (68 - k) + 1 := by omega
        rw [e, AstP.kindFrom, if_neg (by simpa using hw)] at hk'
        refine ⟨k + 1, by omega, by omega, by go_num, ?_⟩
        rw [show 69 - (k + 1) = 68 - k by omega]
        exact hk'
      case measure => simp [intOf]; omega
    · go_ret
      have hk' := hk.out
      have e : 69 - k = 0 := by omega
      rw [e] at hk'
      exact ⟨ret_int hk', rfl⟩
end Go.Proofs.Ytmlldjcbijoheaa
