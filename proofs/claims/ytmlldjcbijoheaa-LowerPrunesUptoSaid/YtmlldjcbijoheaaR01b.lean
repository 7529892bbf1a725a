/- Walks of the reference's natural numbers: Valid, Same, Sub, Mul. -/
import Derived.Test.YtmlldjcbijoheaaR01a
import Derived.Test.YtmlldjcbijoheaaNumStep
import Derived.Deep.DeepCutAuto
namespace Go.Proofs.Ytmlldjcbijoheaa
open Go.RowKit

/-- without leading zeros -/
def canonB (l : List Int) : Bool := decide (limbs (val l) = l)
theorem canonB_last {l : List Int} (h : U16 l) {x : Int} (hx : l[l.length - 1]? = some x) (h0 : 0 < l.length) : canonB l = !(x == 0) := by
  unfold canonB
  by_cases hx0 : x = 0
  · subst hx0
    simp only [beq_self_eq_true, Bool.not_true, decide_eq_false_iff_not]
    intro e
    have : (limbs (val l)).getLast? = some 0 := by rw [e, List.getLast?_eq_getElem?]; exact hx
    exact limbs_last this rfl
  · have e : (x == 0) = false := by simpa using hx0
    rw [e]
    simp only [Bool.not_false, decide_eq_true_eq]
    refine limbs_canon h fun y hy => ?_
    rw [List.getLast?_eq_getElem?, hx] at hy
    injection hy with hy
    rw [← hy]; exact hx0
set_option maxHeartbeats 400000 in
theorem valid01_any (l : List Int) (a : Option Addr) (c : Nat) (w : World) (h : NatR w a c l) :
    Calls Try.prog 113 #[.slice a l.length c] w fun r w' => r = .returned (.bool (canonB l)) ∧ w = w' := by
  have hlen := h.len
  have H := Lib.hid h
  clear h
  by_cases h0 : l.length = 0
  · have hl : l = [] := List.eq_nil_of_length_eq_zero h0
    subst hl
    have hc : canonB [] = true := by simp [canonB, val, limbs_zero]
    rw [hc]
    clear hc h0
    go_enter Try.func113, Try.ntmps113
    go_wp2
    go_ret
    exact ⟨rfl, rfl⟩
  · obtain ⟨x, hx⟩ := get_of_lt (xs := l) (k := l.length - 1) (by omega)
    obtain ⟨b, off, rfl, hc⟩ := H.out.cell hx
    have hcan := canonB_last H.out.u16 hx (by omega)
    have HC := Lib.hid hcan
    have hb : ((l.length : Int) == 0) = false := by simp; exact fun e => h0 (by simp [e])
    have hge : (0 : Int) ≤ (l.length : Int) - 1 := by omega
    clear hcan hx
    by_cases hx0 : x = 0
    · subst hx0
      go_enter Try.func113, Try.ntmps113
      go_wp2
      go_ret
      exact ⟨ret_bool (by rw [HC.out]; rfl), rfl⟩
    · have e0 : (x == 0) = false := by simpa using hx0
      have e1 : (x != 0) = true := by simpa using hx0
      go_enter Try.func113, Try.ntmps113
      go_wp2
      go_ret
      exact ⟨ret_bool (by rw [HC.out, e0]; rfl), rfl⟩

set_option maxHeartbeats 400000 in
theorem same01_any (xs ys : List Int) (a a' : Option Addr) (c c' : Nat) (w : World) (h : NatR w a c xs) (h' : NatR w a' c' ys) :
    Calls Try.prog 114 #[.slice a xs.length c, .slice a' ys.length c'] w fun r w' => r = .returned (.bool (decide (xs = ys))) ∧ Below w.heap.size w w' := by
  have H := Lib.hid h
  have H' := Lib.hid h'
  have hl := h.len
  have hl' := h'.len
  clear h h'
  by_cases hlen : xs.length = ys.length
  · have hlb : ((xs.length : Int) != (ys.length : Int)) = false := by simp; omega
    have HL := Lib.hid hlen
    clear hlen
    go_enter Try.func114, Try.ntmps114
    go_wp2
    go_loopw [5] (fun i wr => ∃ k : Nat, k ≤ xs.length ∧ i = .int .i64 k ∧ Below w.heap.size w wr ∧ Hid (xs.take k = ys.take k)) (fun i _ => xs.length - (intOf i).toNat)
    case atStart => exact ⟨0, by omega, rfl, Below.refl _ _, by simp [Hid]⟩
    case round =>
      obtain ⟨k, hk, rfl, hb, hp⟩ := hrel
      by_cases hlt : k < xs.length
      · obtain ⟨x, hx⟩ := get_of_lt hlt
        obtain ⟨y, hy⟩ := get_of_lt (xs := ys) (k := k) (by have := HL.out; omega)
        obtain ⟨b, off, rfl, hE⟩ := H.out.2.2 k x hx
        obtain ⟨b', off', rfl, hE'⟩ := H'.out.2.2 k y hy
        have hc : wr.cell? ⟨b, off + k, none⟩ = some (.int .u16 x) := by have := (hE.ext (Ext.below hb)).1; simpa using this
        have hc' : wr.cell? ⟨b', off' + k, none⟩ = some (.int .u16 y) := by have := (hE'.ext (Ext.below hb)).1; simpa using this
        have hky : (k : Int) < (ys.length : Int) := by have := HL.out; omega
        have HX := Lib.hid hx
        have HY := Lib.hid hy
        clear hx hy hE hE'
        by_cases he : x = y
        · have hbe : (x != y) = false := by simpa using he
          have HE := Lib.hid he
          clear he
          go_wp2
          go_quiet (fail)
          go_wp2
          refine ⟨⟨k + 1, by omega, by go_num, below_drewN hb _, ?_⟩, by simp [intOf]; omega⟩
          rw [take_more HX.out, take_more HY.out, hp.out, HE.out]; rfl
        · have hbe : (x != y) = true := by simpa using he
          have HE := Lib.hid he
          clear he
          go_wp2
          go_quiet (fail)
          go_wp2
          go_ret
          refine ⟨ret_bool ?_, below_drewN hb _⟩
          refine (decide_eq_false (fun e => HE.out ?_)).symm
          have h1 := HX.out
          have h2 := HY.out
          rw [e, h2] at h1
          exact (Option.some.inj h1).symm
      · go_wp2
        go_ret
        refine ⟨ret_bool ?_, hb⟩
        have := hp.out
        rw [take_all hlt, List.take_of_length_le (by have := HL.out; omega)] at this
        rw [this]; simp
  · have hlb : ((xs.length : Int) != (ys.length : Int)) = true := by simp; omega
    have hd : decide (xs = ys) = false := decide_eq_false (fun e => hlen (by rw [e]))
    rw [hd]
    clear hlen hd
    go_enter Try.func114, Try.ntmps114
    go_wp2
    go_ret
    exact ⟨rfl, Below.refl _ _⟩
end Go.Proofs.Ytmlldjcbijoheaa
