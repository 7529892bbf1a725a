/- The two tables of kinds agree. No program is walked here. -/
import Derived.Test.YtmlldjcbijoheaaAstPlain
import Derived.Test.YtmlldjcbijoheaaRow16
import Derived.Test.YtmlldjcbijoheaaParams
namespace Go.Proofs.Ytmlldjcbijoheaa
open Go.RowKit
theorem kinds_in : ∀ r ∈ kindTable, 0 ≤ r.kind ∧ r.kind ≤ 68 := by decide
theorem findRow_out {k : Int} (h : ¬ (0 ≤ k ∧ k ≤ 68)) : findRow k = ⟨0, 0, ⟨#[]⟩, []⟩ := by
  unfold findRow
  rw [find_none (fun r hr => ?_)]
  · rfl
  · have := kinds_in r hr
    simp; omega
theorem shape_out {k : Int} (h : ¬ (0 ≤ k ∧ k ≤ 68)) : AstP.sort k = 0 ∧ AstP.word k = ⟨#[]⟩ ∧ AstP.letters k = ⟨#[]⟩ := by
  have h0 : AstP.sort k = 0 := by unfold AstP.sort; repeat' split <;> omega
  have : AstP.shape k = (⟨#[]⟩, ⟨#[]⟩) := by
    unfold AstP.shape
    rw [if_neg (by omega), if_neg (by omega)]
    unfold AstP.lineShape
    repeat rw [if_neg (by omega)]
  exact ⟨h0, by simp [AstP.word, this], by simp [AstP.letters, this]⟩
set_option maxRecDepth 100000 in
theorem table_fin : ∀ n : Fin 69, AstP.sort ((n : Nat) : Int) = (findRow ((n : Nat) : Int)).sort ∧ AstP.word ((n : Nat) : Int) = (findRow ((n : Nat) : Int)).word ∧ codes (AstP.letters ((n : Nat) : Int)) = (findRow ((n : Nat) : Int)).params ∧
    (AstP.letters ((n : Nat) : Int)).size ≤ 100 ∧ ((AstP.letters ((n : Nat) : Int)).data.toList.all fun b => decide (b.toNat < 128)) = true := by
  decide +kernel
theorem table_all (k : Int) : AstP.sort k = (findRow k).sort ∧ AstP.word k = (findRow k).word ∧ codes (AstP.letters k) = (findRow k).params ∧
    (AstP.letters k).size ≤ 100 ∧ ((AstP.letters k).data.toList.all fun b => decide (b.toNat < 128)) = true := by
  by_cases h : 0 ≤ k ∧ k ≤ 68
  · have := table_fin ⟨k.toNat, by omega⟩
    have e : ((k.toNat : Nat) : Int) = k := by omega
    simp only [e] at this
    exact this
  · obtain ⟨h1, h2, h3⟩ := shape_out h
    rw [findRow_out h, h1, h2, h3]
    exact ⟨rfl, rfl, rfl, by decide, by decide⟩
theorem letters_ascii (k : Int) : ∀ i (h : i < (AstP.letters k).size), ((AstP.letters k)[i]'h).toNat < 128 := by
  intro i h
  have := (table_all k).2.2.2.2
  rw [List.all_eq_true] at this
  have h2 := this ((AstP.letters k)[i]'h) (by
    show (AstP.letters k).data[i] ∈ _
    simp)
  simpa using h2
theorem codes_int (s : ByteArray) : ∀ x ∈ codes s, InInt x := by
  intro x hx
  obtain ⟨b, _, rfl⟩ := List.mem_map.1 hx
  have h1 := Lib.indexByte_ge [42, 80, 76, 67] b
  have h2 : Lib.indexByte [42, 80, 76, 67] b ≤ 3 := by
    simp only [Lib.indexByte]
    repeat' split
    all_goals omega
  unfold InInt; omega
set_option maxRecDepth 100000 in
theorem words_fin : ∀ s ∈ kindTable.map (·.word), AstP.kind s = (findWord2 s).kind ∧ s ≠ ⟨#[]⟩ := by decide +kernel
theorem word_mem (k : Int) : AstP.word k = ⟨#[]⟩ ∨ AstP.word k ∈ kindTable.map (·.word) := by
  rw [(table_all k).2.1]
  unfold findRow
  cases h : kindTable.find? (fun r => r.kind == k) with
  | none => left; rfl
  | some r => right; exact List.mem_map.2 ⟨r, List.mem_of_find?_eq_some h, rfl⟩
theorem kindFrom_none {s : ByteArray} (h : ∀ k, AstP.word k ≠ s) : ∀ n k, AstP.kindFrom s n k = 0
  | 0, _ => rfl
  | n + 1, k => by rw [AstP.kindFrom, if_neg (h k)]; exact kindFrom_none h n (k + 1)
theorem kind_all (s : ByteArray) : AstP.kind s = (findWord2 s).kind := by
  by_cases h : s ∈ kindTable.map (·.word)
  · exact (words_fin s h).1
  · have e : findWord2 s = ⟨0, 0, ⟨#[]⟩, []⟩ := by
      unfold findWord2
      rw [find_none (fun r hr => ?_)]
      · rfl
      · exact decide_eq_false (fun e => h (List.mem_map.2 ⟨r, hr, e⟩))
    rw [e]
    unfold AstP.kind
    by_cases h0 : s = ⟨#[]⟩
    · rw [if_pos h0]
    · rw [if_neg h0]
      refine kindFrom_none (fun k e => ?_) _ _
      rcases word_mem k with h1 | h1
      · exact h0 (e.symm.trans h1)
      · exact h (e ▸ h1)
end Go.Proofs.Ytmlldjcbijoheaa
