/- The plain law of AstWords: the kind of a word is the least one, and two kinds with one word have different sorts. No program in sight. -/
import Derived.Test.YtmlldjcbijoheaaAstPlain
namespace Go.Proofs.Ytmlldjcbijoheaa.AstP

theorem word_range {k : Int} (h : word k ≠ ⟨#[]⟩) : ∃ n : Fin 69, k = ((n : Nat) : Int) := by
  have : 0 ≤ k ∧ k ≤ 68 := by
    refine Classical.byContradiction fun hn => h ?_
    have h0 : sort k = 0 := by unfold sort; repeat' split <;> omega
    have : shape k = (⟨#[]⟩, ⟨#[]⟩) := by
      unfold shape
      rw [if_neg (by omega), if_neg (by omega)]
      unfold lineShape
      repeat rw [if_neg (by omega)]
    simp [word, this]
  exact ⟨⟨k.toNat, by omega⟩, by simp; omega⟩
set_option maxRecDepth 100000 in
theorem kind_fin : ∀ n : Fin 69, word ((n : Nat) : Int) ≠ ⟨#[]⟩ → kind (word ((n : Nat) : Int)) ≤ ((n : Nat) : Int) ∧ word (kind (word ((n : Nat) : Int))) = word ((n : Nat) : Int) := by
  decide +kernel
theorem kind_word {k : Int} (h : word k ≠ ⟨#[]⟩) : kind (word k) ≤ k ∧ word (kind (word k)) = word k := by
  obtain ⟨n, rfl⟩ := word_range h
  exact kind_fin n h
set_option maxRecDepth 100000 in
theorem sort_fin : ∀ n m : Fin 69, n ≠ m → word ((n : Nat) : Int) ≠ ⟨#[]⟩ → word ((n : Nat) : Int) = word ((m : Nat) : Int) → sort ((n : Nat) : Int) ≠ sort ((m : Nat) : Int) := by
  decide +kernel
theorem sorts_differ {a b : Int} (hab : a ≠ b) (h : word a ≠ ⟨#[]⟩) (e : word a = word b) : sort a ≠ sort b := by
  obtain ⟨n, rfl⟩ := word_range h
  obtain ⟨m, rfl⟩ := word_range (e ▸ h)
  exact sort_fin n m (fun e => hab (by rw [e])) h e
end Go.Proofs.Ytmlldjcbijoheaa.AstP
