/- Walk: whether two slices of ints are equal. -/
import Derived.Test.YtmlldjcbijoheaaRows
import Derived.Test.YtmlldjcbijoheaaStrs
namespace Go.Proofs.Ytmlldjcbijoheaa
open Go.RowKit
set_option maxHeartbeats 1000000 in
theorem sameInts16_any (xs ys : List Int) (a a' : Option Addr) (c c' : Nat) (w : World) (h : IntsR w a c xs) (h' : IntsR w a' c' ys) :
    Calls Try.prog 47 #[.slice a xs.length c, .slice a' ys.length c'] w fun r w' => r = .returned (.bool (decide (xs = ys))) ∧ Below w.heap.size w w' := by
  have H := Lib.hid h
  have H' := Lib.hid h'
  have hl := h.len
  have hl' := h'.len
  clear h h'
  by_cases hlen : xs.length = ys.length
  · have hlb : ((xs.length : Int) == (ys.length : Int)) = true := by rw [beq_iff_eq]; omega
    have hlb2 : ((xs.length : Int) != (ys.length : Int)) = false := by rw [bne, hlb]; rfl
    have HL := Lib.hid hlen
    clear hlen
    go_enter Try.func47, Try.ntmps47
    go_wp2
    go_loopw [13] (fun i wr => ∃ k : Nat, k ≤ xs.length ∧ i = .int .i64 k ∧ Below w.heap.size w wr ∧ Hid (xs.take k = ys.take k)) (fun i _ => xs.length - (intOf i).toNat)
    case atStart => exact ⟨0, by omega, rfl, Below.refl _ _, by simp [Hid]⟩
    case round =>
      obtain ⟨k, hk, rfl, hb, hp⟩ := hrel
      by_cases hlt : k < xs.length
      · obtain ⟨x, hx⟩ := get_of_lt hlt
        obtain ⟨y, hy⟩ := get_of_lt (xs := ys) (k := k) (by have := HL.out; omega)
        obtain ⟨b, off, rfl, hE⟩ := H.out.2.2 k x hx
        obtain ⟨b', off', rfl, hE'⟩ := H'.out.2.2 k y hy
        have hc : wr.cell? ⟨b, off + k, none⟩ = some (.int .i64 x) := by have := (hE.ext (Ext.below hb)).1; simpa using this
        have hc' : wr.cell? ⟨b', off' + k, none⟩ = some (.int .i64 y) := by have := (hE'.ext (Ext.below hb)).1; simpa using this
        have hky : (k : Int) < (ys.length : Int) := by have := HL.out; omega
        have HX := Lib.hid hx
        have HY := Lib.hid hy
        clear hx hy hE hE'
        by_cases he : x = y
        · have hbe : (x == y) = true := by simpa using he
          have hbe2 := congrArg not hbe
          simp only [Bool.not_true, Bool.not_false] at hbe2
          have hbe3 : (x != y) = _ := hbe2
          clear hbe2
          have HE := Lib.hid he
          clear he
          go_wp2
          go_quiet (fail)
          go_wp2
          refine ⟨⟨k + 1, by omega, by go_num, below_drewN hb _, ?_⟩, by simp [intOf]; omega⟩
          rw [take_more HX.out, take_more HY.out, hp.out, HE.out]; rfl
        · have hbe : (x == y) = false := by simpa using he
          have hbe2 := congrArg not hbe
          simp only [Bool.not_true, Bool.not_false] at hbe2
          have hbe3 : (x != y) = _ := hbe2
          clear hbe2
          have HE := Lib.hid he
          clear he
          go_wp2
          go_quiet (fail)
          go_wp2
          go_ret
          refine ⟨ret_bool ?_, below_drewN hb _⟩
          refine (decide_eq_false (fun e => HE.out ?_)).symm
          have h1 := HX.out
          have h2 := HY.out
          rw [e, h2] at h1
          exact (Option.some.inj h1).symm
      · go_wp2
        go_ret
        refine ⟨ret_bool ?_, hb⟩
        have := hp.out
        rw [take_all hlt, take_all (by have := HL.out; omega)] at this
        exact (decide_eq_true this).symm
  · have hlb : ((xs.length : Int) == (ys.length : Int)) = false := by simp; omega
    have hlb2 : ((xs.length : Int) != (ys.length : Int)) = true := by rw [bne, hlb]; rfl
    have hne : xs ≠ ys := fun e => hlen (by rw [e])
    have HN := Lib.hid hne
    clear hne hlen
    go_enter Try.func47, Try.ntmps47
    go_wp2
    go_ret
    exact ⟨ret_bool (decide_eq_false HN.out).symm, Below.refl _ _⟩
end Go.Proofs.Ytmlldjcbijoheaa
