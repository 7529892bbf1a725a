/- Walks: whether two rational numbers have the same parts. -/
import Derived.Test.YtmlldjcbijoheaaNatEq
namespace Go.Proofs.Ytmlldjcbijoheaa
open Go.RowKit

set_option maxHeartbeats 400000 in
theorem sameRat16_any (p q : Bool) (xs ys xd yd : List Int) (a a' e e' : Option Addr) (c c' g g' : Nat) (w : World) (h : NatR w a c xs) (h' : NatR w a' c' ys) (hd : NatR w e g xd) (hd' : NatR w e' g' yd) :
    Calls Try.prog 58 #[.agg #[.bool p, .slice a xs.length c, .slice e xd.length g], .agg #[.bool q, .slice a' ys.length c', .slice e' yd.length g']] w
      fun r w' => r = .returned (.bool (decide (p = q ∧ xs = ys ∧ xd = yd))) ∧ Below w.heap.size w w' := by
  have H := Lib.hid h
  have H' := Lib.hid h'
  have D := Lib.hid hd
  have D' := Lib.hid hd'
  clear h h' hd hd'
  by_cases hp : p = q
  · subst hp
    by_cases hx : xs = ys
    · have hxb : decide (xs = ys) = true := by simpa using hx
      have HX := Lib.hid hx
      clear hx
      go_enter Try.func58, Try.ntmps58
      go_wp2_with fail
      refine (sameNat16_any xs ys a a' c c' _ (H.out.ext (ext_alloc2 _ _ _)) (H'.out.ext (ext_alloc2 _ _ _))).mono ?_
      rintro r w1 ⟨rfl, hb1⟩
      have hw := below_then2 (Below.refl _ w) hb1
      have k0 := hb1.cell (p := ⟨w.heap.size, 2, none⟩) (by simp; omega)
      have k1 := hb1.cell (p := ⟨w.heap.size + 1, 2, none⟩) (by simp)
      simp at k0 k1
      clear hb1
      go_wp2_with fail
      refine (sameNat16_any xd yd e e' g g' _ (D.out.ext (Ext.below hw)) (D'.out.ext (Ext.below hw))).mono ?_
      rintro r w2 ⟨rfl, hb2⟩
      go_wp2_with fail
      go_ret
      exact ⟨ret_bool (by simp [HX.out]), below_then hw hb2⟩
    · have hxb : decide (xs = ys) = false := by simpa using hx
      have HX := Lib.hid hx
      clear hx
      go_enter Try.func58, Try.ntmps58
      go_wp2_with fail
      refine (sameNat16_any xs ys a a' c c' _ (H.out.ext (ext_alloc2 _ _ _)) (H'.out.ext (ext_alloc2 _ _ _))).mono ?_
      rintro r w1 ⟨rfl, hb1⟩
      have hw := below_then2 (Below.refl _ w) hb1
      clear hb1
      go_wp2_with fail
      go_ret
      exact ⟨ret_bool (by simp [HX.out]), hw⟩
  · have hpb : (p == q) = false := by simpa using hp
    have HP := Lib.hid hp
    clear hp
    go_enter Try.func58, Try.ntmps58
    go_wp2_with fail
    go_ret
    exact ⟨ret_bool (by simp [HP.out]), by go_grown⟩

set_option maxHeartbeats 400000 in
theorem equalRat_any (p q : Bool) (xs ys xd yd : List Int) (a a' e e' : Option Addr) (c c' g g' : Nat) (w : World) (h : NatR w a c xs) (h' : NatR w a' c' ys) (hd : NatR w e g xd) (hd' : NatR w e' g' yd) :
    Calls Try.prog 59 #[.agg #[.bool p, .slice a xs.length c, .slice e xd.length g], .agg #[.bool q, .slice a' ys.length c', .slice e' yd.length g']] w
      fun r w' => r = .returned (.bool (decide (p = q ∧ xs = ys ∧ xd = yd))) ∧ Below w.heap.size w w' := by
  have H := Lib.hid h
  have H' := Lib.hid h'
  have D := Lib.hid hd
  have D' := Lib.hid hd'
  clear h h' hd hd'
  by_cases hp : p = q
  · subst hp
    by_cases hx : xs = ys
    · have hxb : decide (xs = ys) = true := by simpa using hx
      have HX := Lib.hid hx
      clear hx
      go_enter Try.func59, Try.ntmps59
      go_wp2_with fail
      refine (equalNat_any xs ys a a' c c' _ (H.out.ext (ext_alloc2 _ _ _)) (H'.out.ext (ext_alloc2 _ _ _))).mono ?_
      rintro r w1 ⟨rfl, hb1⟩
      have hw := below_then2 (Below.refl _ w) hb1
      have k0 := hb1.cell (p := ⟨w.heap.size, 2, none⟩) (by simp; omega)
      have k1 := hb1.cell (p := ⟨w.heap.size + 1, 2, none⟩) (by simp)
      simp at k0 k1
      clear hb1
      go_wp2_with fail
      refine (equalNat_any xd yd e e' g g' _ (D.out.ext (Ext.below hw)) (D'.out.ext (Ext.below hw))).mono ?_
      rintro r w2 ⟨rfl, hb2⟩
      go_wp2_with fail
      go_ret
      exact ⟨ret_bool (by simp [HX.out]), below_then hw hb2⟩
    · have hxb : decide (xs = ys) = false := by simpa using hx
      have HX := Lib.hid hx
      clear hx
      go_enter Try.func59, Try.ntmps59
      go_wp2_with fail
      refine (equalNat_any xs ys a a' c c' _ (H.out.ext (ext_alloc2 _ _ _)) (H'.out.ext (ext_alloc2 _ _ _))).mono ?_
      rintro r w1 ⟨rfl, hb1⟩
      have hw := below_then2 (Below.refl _ w) hb1
      clear hb1
      go_wp2_with fail
      go_ret
      exact ⟨ret_bool (by simp [HX.out]), hw⟩
  · have hpb : (p == q) = false := by simpa using hp
    have HP := Lib.hid hp
    clear hp
    go_enter Try.func59, Try.ntmps59
    go_wp2_with fail
    go_ret
    exact ⟨ret_bool (by simp [HP.out]), by go_grown⟩

end Go.Proofs.Ytmlldjcbijoheaa
