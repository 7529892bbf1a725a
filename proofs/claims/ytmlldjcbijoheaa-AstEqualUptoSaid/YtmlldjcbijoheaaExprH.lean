/- Walks: a string in a list, two lists of strings, the number of expressions. -/
import Derived.Test.YtmlldjcbijoheaaStrs
import Derived.Test.YtmlldjcbijoheaaExprR
namespace Go.Proofs.Ytmlldjcbijoheaa
open Go.RowKit

set_option maxHeartbeats 400000 in
theorem has_any (l : List ByteArray) (a : Option Addr) (c : Nat) (s : ByteArray) (w : World) (h : StrsR w a c l) :
    Calls Try.prog 57 #[.slice a l.length c, .string s] w fun r w' => r = .returned (.bool (hasName l s)) ∧ w = w' := by
  have H := Lib.hid h
  have hl := h.len
  clear h
  go_enter Try.func57, Try.ntmps57
  go_wp2
  go_loop [9] (fun i => ∃ k : Nat, k ≤ l.length ∧ i = .int .i64 k ∧ Hid (hasName (l.take k) s = false)) (fun i => l.length - (intOf i).toNat)
  case atStart => exact ⟨0, by omega, rfl, by simp [Hid, hasName]⟩
  case round =>
    obtain ⟨k, hk, rfl, hf⟩ := hrel
    by_cases hlt : k < l.length
    · obtain ⟨x, hx⟩ := get_of_lt hlt
      obtain ⟨b, off, rfl, hE⟩ := H.out.2.2 k x hx
      have hc : w.cell? ⟨b, off + k, none⟩ = some (.string x) := by simpa [StrE] using hE
      have HXX := Lib.hid hx
      clear hx hE
      by_cases he : x = s
      · have hb : (x.toList == s.toList) = true := by rw [str_beq]; simpa using he
        have HE := Lib.hid he
        clear he
        go_wp2
        go_ret
        refine ⟨ret_bool ?_, rfl⟩
        have : hasName (l.take (k + 1)) s = true := by rw [take_more HXX.out, hasName_more, hf.out, HE.out]; simp
        have h2 : s ∈ l.take (k + 1) := hasName_iff.1 this
        exact (hasName_iff.2 (List.mem_of_mem_take h2)).symm
      · have hb : (x.toList == s.toList) = false := by rw [str_beq]; simpa using he
        have HE := Lib.hid he
        clear he
        go_wp2
        refine ⟨⟨k + 1, by omega, by go_num, ?_⟩, by simp [intOf]; omega⟩
        rw [take_more HXX.out, hasName_more, hf.out]
        simpa [Hid] using HE.out
    · go_wp2
      go_ret
      refine ⟨ret_bool ?_, rfl⟩
      have := hf.out
      rw [take_all hlt] at this
      exact this.symm

set_option maxHeartbeats 400000 in
theorem sameStrings16_any (l : List ByteArray) (a a' : Option Addr) (c c' : Nat) (w : World) (h : StrsR w a c l) (h' : StrsR w a' c' l) :
    Calls Try.prog 16 #[.slice a l.length c, .slice a' l.length c'] w fun r w' => r = .returned (.bool true) ∧ Below w.heap.size w w' := by
  have H := Lib.hid h
  have H' := Lib.hid h'
  have hl := h.len
  clear h h'
  go_enter Try.func16, Try.ntmps16
  go_wp2
  go_loopw [13] (fun i wr => ∃ k : Nat, k ≤ l.length ∧ i = .int .i64 k ∧ Below w.heap.size w wr) (fun i _ => l.length - (intOf i).toNat)
  case atStart => exact ⟨0, by omega, rfl, Below.refl _ _⟩
  case round =>
    obtain ⟨k, hk, rfl, hb⟩ := hrel
    by_cases hlt : k < l.length
    · obtain ⟨x, hx⟩ := get_of_lt hlt
      obtain ⟨b, off, rfl, hE⟩ := H.out.2.2 k x hx
      obtain ⟨b', off', rfl, hE'⟩ := H'.out.2.2 k x hx
      have hc : wr.cell? ⟨b, off + k, none⟩ = some (.string x) := by have := hE.ext (Ext.below hb); simpa [StrE] using this
      have hc' : wr.cell? ⟨b', off' + k, none⟩ = some (.string x) := by have := hE'.ext (Ext.below hb); simpa [StrE] using this
      clear hx hE hE'
      go_wp2
      go_quiet (fail)
      go_wp2
      exact ⟨⟨k + 1, by omega, by go_num, below_drewN hb _⟩, by simp [intOf]; omega⟩
    · go_wp2
      go_ret
      exact ⟨rfl, hb⟩
end Go.Proofs.Ytmlldjcbijoheaa
