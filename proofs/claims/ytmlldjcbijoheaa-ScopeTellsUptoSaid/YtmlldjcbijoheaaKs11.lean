/- Walk: R19.Check. -/
import Derived.Test.YtmlldjcbijoheaaKs2
import Derived.Test.YtmlldjcbijoheaaKs7
import Derived.Test.YtmlldjcbijoheaaKs9
import Derived.Test.YtmlldjcbijoheaaKs10

/- Walks: whether two lists of limbs are equal. -/
namespace Go.Proofs.Ytmlldjcbijoheaa
open Go.RowKit

set_option maxHeartbeats 400000 in
theorem sameNat16_any (xs ys : List Int) (a a' : Option Addr) (c c' : Nat) (w : World) (h : NatR w a c xs) (h' : NatR w a' c' ys) :
    Calls Try.prog 93 #[.slice a xs.length c, .slice a' ys.length c'] w fun r w' => r = .returned (.bool (decide (xs = ys))) ∧ Below w.heap.size w w' := by
  have H := Lib.hid h
  have H' := Lib.hid h'
  have hl := h.len
  have hl' := h'.len
  clear h h'
  by_cases hlen : xs.length = ys.length
  · have hlb : ((xs.length : Int) == (ys.length : Int)) = true := by rw [beq_iff_eq]; omega
    have HL := Lib.hid hlen
    clear hlen
    go_enter Try.func93, Try.ntmps93
    go_wp2
    go_loopw [13] (fun i wr => ∃ k : Nat, k ≤ xs.length ∧ i = .int .i64 k ∧ Below w.heap.size w wr ∧ Hid (xs.take k = ys.take k)) (fun i _ => xs.length - (intOf i).toNat)
    case atStart => exact ⟨0, by omega, rfl, Below.refl _ _, by simp [Hid]⟩
    case round =>
      obtain ⟨k, hk, rfl, hb, hp⟩ := hrel
      by_cases hlt : k < xs.length
      · obtain ⟨x, hx⟩ := get_of_lt hlt
        obtain ⟨y, hy⟩ := get_of_lt (xs := ys) (k := k) (by have := HL.out; omega)
        obtain ⟨b, off, rfl, hE⟩ := H.out.2.2 k x hx
        obtain ⟨b', off', rfl, hE'⟩ := H'.out.2.2 k y hy
        have hc : wr.cell? ⟨b, off + k, none⟩ = some (.int .u16 x) := by have := (hE.ext (Ext.below hb)).1; simpa using this
        have hc' : wr.cell? ⟨b', off' + k, none⟩ = some (.int .u16 y) := by have := (hE'.ext (Ext.below hb)).1; simpa using this
        have hky : (k : Int) < (ys.length : Int) := by have := HL.out; omega
        have HX := Lib.hid hx
        have HY := Lib.hid hy
        clear hx hy hE hE'
        by_cases he : x = y
        · have hbe : (x == y) = true := by simpa using he
          have HE := Lib.hid he
          clear he
          go_wp2
          go_quiet (fail)
          go_wp2
          refine ⟨⟨k + 1, by omega, by go_num, below_drewN hb _, ?_⟩, by simp [intOf]; omega⟩
          rw [take_more HX.out, take_more HY.out, hp.out, HE.out]; rfl
        · have hbe : (x == y) = false := by simpa using he
          have HE := Lib.hid he
          clear he
          go_wp2
          go_quiet (fail)
          go_wp2
          go_ret
          refine ⟨ret_bool ?_, below_drewN hb _⟩
          refine (decide_eq_false (fun e => HE.out ?_)).symm
          have h1 := HX.out
          have h2 := HY.out
          rw [e, h2] at h1
          exact (Option.some.inj h1).symm
      · go_wp2
        go_ret
        refine ⟨ret_bool ?_, hb⟩
        have := hp.out
        rw [take_all hlt, take_all (by have := HL.out; omega)] at this
        exact (decide_eq_true this).symm
  · have hlb : ((xs.length : Int) == (ys.length : Int)) = false := by simp; omega
    have hne : xs ≠ ys := fun e => hlen (by rw [e])
    have HN := Lib.hid hne
    clear hne hlen
    go_enter Try.func93, Try.ntmps93
    go_wp2
    go_ret
    exact ⟨ret_bool (decide_eq_false HN.out).symm, Below.refl _ _⟩

set_option maxHeartbeats 400000 in
theorem equalNat_any (xs ys : List Int) (a a' : Option Addr) (c c' : Nat) (w : World) (h : NatR w a c xs) (h' : NatR w a' c' ys) :
    Calls Try.prog 94 #[.slice a xs.length c, .slice a' ys.length c'] w fun r w' => r = .returned (.bool (decide (xs = ys))) ∧ Below w.heap.size w w' := by
  have H := Lib.hid h
  have H' := Lib.hid h'
  have hl := h.len
  have hl' := h'.len
  clear h h'
  by_cases hlen : xs.length = ys.length
  · have hlb : ((xs.length : Int) == (ys.length : Int)) = true := by rw [beq_iff_eq]; omega
    have HL := Lib.hid hlen
    clear hlen
    go_enter Try.func94, Try.ntmps94
    go_wp2
    go_loopw [13] (fun i wr => ∃ k : Nat, k ≤ xs.length ∧ i = .int .i64 k ∧ Below w.heap.size w wr ∧ Hid (xs.take k = ys.take k)) (fun i _ => xs.length - (intOf i).toNat)
    case atStart => exact ⟨0, by omega, rfl, Below.refl _ _, by simp [Hid]⟩
    case round =>
      obtain ⟨k, hk, rfl, hb, hp⟩ := hrel
      by_cases hlt : k < xs.length
      · obtain ⟨x, hx⟩ := get_of_lt hlt
        obtain ⟨y, hy⟩ := get_of_lt (xs := ys) (k := k) (by have := HL.out; omega)
        obtain ⟨b, off, rfl, hE⟩ := H.out.2.2 k x hx
        obtain ⟨b', off', rfl, hE'⟩ := H'.out.2.2 k y hy
        have hc : wr.cell? ⟨b, off + k, none⟩ = some (.int .u16 x) := by have := (hE.ext (Ext.below hb)).1; simpa using this
        have hc' : wr.cell? ⟨b', off' + k, none⟩ = some (.int .u16 y) := by have := (hE'.ext (Ext.below hb)).1; simpa using this
        have hky : (k : Int) < (ys.length : Int) := by have := HL.out; omega
        have HX := Lib.hid hx
        have HY := Lib.hid hy
        clear hx hy hE hE'
        by_cases he : x = y
        · have hbe : (x == y) = true := by simpa using he
          have HE := Lib.hid he
          clear he
          go_wp2
          go_quiet (fail)
          go_wp2
          refine ⟨⟨k + 1, by omega, by go_num, below_drewN hb _, ?_⟩, by simp [intOf]; omega⟩
          rw [take_more HX.out, take_more HY.out, hp.out, HE.out]; rfl
        · have hbe : (x == y) = false := by simpa using he
          have HE := Lib.hid he
          clear he
          go_wp2
          go_quiet (fail)
          go_wp2
          go_ret
          refine ⟨ret_bool ?_, below_drewN hb _⟩
          refine (decide_eq_false (fun e => HE.out ?_)).symm
          have h1 := HX.out
          have h2 := HY.out
          rw [e, h2] at h1
          exact (Option.some.inj h1).symm
      · go_wp2
        go_ret
        refine ⟨ret_bool ?_, hb⟩
        have := hp.out
        rw [take_all hlt, take_all (by have := HL.out; omega)] at this
        exact (decide_eq_true this).symm
  · have hlb : ((xs.length : Int) == (ys.length : Int)) = false := by simp; omega
    have hne : xs ≠ ys := fun e => hlen (by rw [e])
    have HN := Lib.hid hne
    clear hne hlen
    go_enter Try.func94, Try.ntmps94
    go_wp2
    go_ret
    exact ⟨ret_bool (decide_eq_false HN.out).symm, Below.refl _ _⟩

end Go.Proofs.Ytmlldjcbijoheaa

/- Walks: whether two rational numbers have the same parts. -/
namespace Go.Proofs.Ytmlldjcbijoheaa
open Go.RowKit

set_option maxHeartbeats 400000 in
theorem sameRat16_any (p q : Bool) (xs ys xd yd : List Int) (a a' e e' : Option Addr) (c c' g g' : Nat) (w : World) (h : NatR w a c xs) (h' : NatR w a' c' ys) (hd : NatR w e g xd) (hd' : NatR w e' g' yd) :
    Calls Try.prog 58 #[.agg #[.bool p, .slice a xs.length c, .slice e xd.length g], .agg #[.bool q, .slice a' ys.length c', .slice e' yd.length g']] w
      fun r w' => r = .returned (.bool (decide (p = q ∧ xs = ys ∧ xd = yd))) ∧ Below w.heap.size w w' := by
  have H := Lib.hid h
  have H' := Lib.hid h'
  have D := Lib.hid hd
  have D' := Lib.hid hd'
  clear h h' hd hd'
  by_cases hp : p = q
  · subst hp
    by_cases hx : xs = ys
    · have hxb : decide (xs = ys) = true := by simpa using hx
      have HX := Lib.hid hx
      clear hx
      go_enter Try.func58, Try.ntmps58
      go_wp2_with fail
      refine (sameNat16_any xs ys a a' c c' _ (H.out.ext (ext_alloc2 _ _ _)) (H'.out.ext (ext_alloc2 _ _ _))).mono ?_
      rintro r w1 ⟨rfl, hb1⟩
      have hw := below_then2 (Below.refl _ w) hb1
      have k0 := hb1.cell (p := ⟨w.heap.size, 2, none⟩) (by simp; omega)
      have k1 := hb1.cell (p := ⟨w.heap.size + 1, 2, none⟩) (by simp)
      simp at k0 k1
      clear hb1
      go_wp2_with fail
      refine (sameNat16_any xd yd e e' g g' _ (D.out.ext (Ext.below hw)) (D'.out.ext (Ext.below hw))).mono ?_
      rintro r w2 ⟨rfl, hb2⟩
      go_wp2_with fail
      go_ret
      exact ⟨ret_bool (by simp [HX.out]), below_then hw hb2⟩
    · have hxb : decide (xs = ys) = false := by simpa using hx
      have HX := Lib.hid hx
      clear hx
      go_enter Try.func58, Try.ntmps58
      go_wp2_with fail
      refine (sameNat16_any xs ys a a' c c' _ (H.out.ext (ext_alloc2 _ _ _)) (H'.out.ext (ext_alloc2 _ _ _))).mono ?_
      rintro r w1 ⟨rfl, hb1⟩
      have hw := below_then2 (Below.refl _ w) hb1
      clear hb1
      go_wp2_with fail
      go_ret
      exact ⟨ret_bool (by simp [HX.out]), hw⟩
  · have hpb : (p == q) = false := by simpa using hp
    have HP := Lib.hid hp
    clear hp
    go_enter Try.func58, Try.ntmps58
    go_wp2_with fail
    go_ret
    exact ⟨ret_bool (by simp [HP.out]), by go_grown⟩

set_option maxHeartbeats 400000 in
theorem equalRat_any (p q : Bool) (xs ys xd yd : List Int) (a a' e e' : Option Addr) (c c' g g' : Nat) (w : World) (h : NatR w a c xs) (h' : NatR w a' c' ys) (hd : NatR w e g xd) (hd' : NatR w e' g' yd) :
    Calls Try.prog 59 #[.agg #[.bool p, .slice a xs.length c, .slice e xd.length g], .agg #[.bool q, .slice a' ys.length c', .slice e' yd.length g']] w
      fun r w' => r = .returned (.bool (decide (p = q ∧ xs = ys ∧ xd = yd))) ∧ Below w.heap.size w w' := by
  have H := Lib.hid h
  have H' := Lib.hid h'
  have D := Lib.hid hd
  have D' := Lib.hid hd'
  clear h h' hd hd'
  by_cases hp : p = q
  · subst hp
    by_cases hx : xs = ys
    · have hxb : decide (xs = ys) = true := by simpa using hx
      have HX := Lib.hid hx
      clear hx
      go_enter Try.func59, Try.ntmps59
      go_wp2_with fail
      refine (equalNat_any xs ys a a' c c' _ (H.out.ext (ext_alloc2 _ _ _)) (H'.out.ext (ext_alloc2 _ _ _))).mono ?_
      rintro r w1 ⟨rfl, hb1⟩
      have hw := below_then2 (Below.refl _ w) hb1
      have k0 := hb1.cell (p := ⟨w.heap.size, 2, none⟩) (by simp; omega)
      have k1 := hb1.cell (p := ⟨w.heap.size + 1, 2, none⟩) (by simp)
      simp at k0 k1
      clear hb1
      go_wp2_with fail
      refine (equalNat_any xd yd e e' g g' _ (D.out.ext (Ext.below hw)) (D'.out.ext (Ext.below hw))).mono ?_
      rintro r w2 ⟨rfl, hb2⟩
      go_wp2_with fail
      go_ret
      exact ⟨ret_bool (by simp [HX.out]), below_then hw hb2⟩
    · have hxb : decide (xs = ys) = false := by simpa using hx
      have HX := Lib.hid hx
      clear hx
      go_enter Try.func59, Try.ntmps59
      go_wp2_with fail
      refine (equalNat_any xs ys a a' c c' _ (H.out.ext (ext_alloc2 _ _ _)) (H'.out.ext (ext_alloc2 _ _ _))).mono ?_
      rintro r w1 ⟨rfl, hb1⟩
      have hw := below_then2 (Below.refl _ w) hb1
      clear hb1
      go_wp2_with fail
      go_ret
      exact ⟨ret_bool (by simp [HX.out]), hw⟩
  · have hpb : (p == q) = false := by simpa using hp
    have HP := Lib.hid hp
    clear hp
    go_enter Try.func59, Try.ntmps59
    go_wp2_with fail
    go_ret
    exact ⟨ret_bool (by simp [HP.out]), by go_grown⟩

end Go.Proofs.Ytmlldjcbijoheaa

/- Walks: whether two expressions are equal, apart from positions. -/
namespace Go.Proofs.Ytmlldjcbijoheaa
open Go.RowKit

set_option maxRecDepth 100000 in
set_option maxHeartbeats 2000000 in
theorem equalExpr_any (d : Nat) : ∀ (e f : Expr) (na : Option Addr) (nc : Nat) (da : Option Addr) (dc : Nat) (aa : Option Addr) (ac : Nat) (na' : Option Addr) (nc' : Nat) (da' : Option Addr) (dc' : Nat) (aa' : Option Addr) (ac' : Nat) (w : World),
    ExprR d w na nc da dc aa ac e → ExprR d w na' nc' da' dc' aa' ac' f →
    Calls Try.prog 22 #[e.val na nc da dc aa ac, f.val na' nc' da' dc' aa' ac'] w fun r w' => r = .returned (.bool (e.eqv f)) ∧ Below w.heap.size w w' := by
  induction d with
  | zero => intro e f na nc da dc aa ac na' nc' da' dc' aa' ac' w h; exact h.elim
  | succ d ih =>
    intro e f na nc da dc aa ac na' nc' da' dc' aa' ac' w h h'
    obtain ⟨-, -, -, n1, n2, hx⟩ := h.of_succ
    obtain ⟨-, -, -, n1', n2', hx'⟩ := h'.of_succ
    have IH := Lib.hid ih
    have HX := Lib.hid hx
    have HX' := Lib.hid hx'
    have HN := Lib.hid (And.intro n1 (And.intro n2 (And.intro n1' n2')))
    have hl := hx.len
    have hl' := hx'.len
    clear ih hx hx' n1 n2 n1' n2'
    unfold Expr.val
    by_cases hk : e.kind = f.kind
    case neg =>
      have hb : (e.kind == f.kind) = false := by simpa using hk
      have HK := Lib.hid hk
      clear hk
      go_enter Try.func22, Try.ntmps22
      go_wp2_with fail
      go_ret
      exact ⟨ret_bool (by rw [Expr.eqv_eq, decide_eq_false HK.out]; rfl), by go_grown⟩
    have hkb : (e.kind == f.kind) = true := by simpa using hk
    have HK := Lib.hid hk
    clear hk
    by_cases hn : e.name = f.name
    case neg =>
      have hb : (e.name.toList == f.name.toList) = false := by rw [str_beq]; simpa using hn
      have HNN := Lib.hid hn
      clear hn
      go_enter Try.func22, Try.ntmps22
      go_wp2_with fail
      go_ret
      exact ⟨ret_bool (by rw [Expr.eqv_eq, decide_eq_true HK.out, decide_eq_false HNN.out]; rfl), by go_grown⟩
    have hnb : (e.name.toList == f.name.toList) = true := by rw [str_beq]; simpa using hn
    have HNN := Lib.hid hn
    clear hn
    by_cases hr : e.neg = f.neg ∧ e.num = f.num ∧ e.den = f.den
    case neg =>
      have hb : decide (e.neg = f.neg ∧ e.num = f.num ∧ e.den = f.den) = false := decide_eq_false hr
      have HR := Lib.hid hr
      clear hr
      go_enter Try.func22, Try.ntmps22
      go_wp2_with fail
      refine (equalRat_any e.neg f.neg e.num f.num e.den f.den na na' da da' nc nc' dc dc' _ (HN.out.1.ext (ext_alloc2 _ _ _)) (HN.out.2.2.1.ext (ext_alloc2 _ _ _)) (HN.out.2.1.ext (ext_alloc2 _ _ _)) (HN.out.2.2.2.ext (ext_alloc2 _ _ _))).mono ?_
      rintro r w1 ⟨rfl, hb1⟩
      rw [hb]
      have hw := below_then2 (Below.refl _ w) hb1
      clear hb1
      go_wp2_with fail
      go_ret
      exact ⟨ret_bool (by rw [Expr.eqv_eq, decide_eq_true HK.out, decide_eq_true HNN.out, decide_eq_false (p := e.sameRat f) HR.out]; rfl), hw⟩
    have hrb : decide (e.neg = f.neg ∧ e.num = f.num ∧ e.den = f.den) = true := decide_eq_true hr
    have HR := Lib.hid hr
    clear hr
    by_cases hlen : e.args.length = f.args.length
    case neg =>
      have hlb : ((e.args.length : Int) == (f.args.length : Int)) = false := by rw [beq_eq_false_iff_ne]; omega
      have HL := Lib.hid hlen
      clear hlen
      go_enter Try.func22, Try.ntmps22
      go_wp2_with fail
      refine (equalRat_any e.neg f.neg e.num f.num e.den f.den na na' da da' nc nc' dc dc' _ (HN.out.1.ext (ext_alloc2 _ _ _)) (HN.out.2.2.1.ext (ext_alloc2 _ _ _)) (HN.out.2.1.ext (ext_alloc2 _ _ _)) (HN.out.2.2.2.ext (ext_alloc2 _ _ _))).mono ?_
      rintro r w1 ⟨rfl, hb1⟩
      rw [hrb]
      have hw := below_then2 (Below.refl _ w) hb1
      have k0 := hb1.cell (p := ⟨w.heap.size, 5, none⟩) (by simp; omega)
      have k1 := hb1.cell (p := ⟨w.heap.size + 1, 5, none⟩) (by simp)
      simp at k0 k1
      clear hb1
      go_wp2_with fail
      go_ret
      exact ⟨ret_bool (by rw [Expr.eqv_eq, decide_eq_true HK.out, decide_eq_true HNN.out, decide_eq_true (p := e.sameRat f) HR.out, decide_eq_false HL.out]; rfl), hw⟩
    have hlb : ((e.args.length : Int) == (f.args.length : Int)) = true := by rw [beq_iff_eq]; omega
    have hlb' : ((e.args.length : Int) != (f.args.length : Int)) = false := by rw [bne, hlb]; rfl
    have HL := Lib.hid hlen
    clear hlen
    go_enter Try.func22, Try.ntmps22
    go_wp2_with fail
    refine (equalRat_any e.neg f.neg e.num f.num e.den f.den na na' da da' nc nc' dc dc' _ (HN.out.1.ext (ext_alloc2 _ _ _)) (HN.out.2.2.1.ext (ext_alloc2 _ _ _)) (HN.out.2.1.ext (ext_alloc2 _ _ _)) (HN.out.2.2.2.ext (ext_alloc2 _ _ _))).mono ?_
    rintro r w1 ⟨rfl, hb1⟩
    rw [hrb]
    have hw := below_then2 (Below.refl _ w) hb1
    have k0 := hb1.cell (p := ⟨w.heap.size, 5, none⟩) (by simp; omega)
    have k1 := hb1.cell (p := ⟨w.heap.size + 1, 5, none⟩) (by simp)
    simp at k0 k1
    clear hb1
    go_wp2_with fail
    have hgoal : e.eqv f = Expr.eqvs e.args f.args := by
      rw [Expr.eqv_eq, decide_eq_true HK.out, decide_eq_true HNN.out, decide_eq_true (p := e.sameRat f) HR.out, decide_eq_true HL.out]; rfl
    have HG := Lib.hid hgoal
    clear hgoal
    go_loopw [38] (fun i wr => ∃ k : Nat, k ≤ e.args.length ∧ i = .int .i64 k ∧ Below w.heap.size w wr ∧ wr.cell? ⟨w.heap.size, 5, none⟩ = some (.slice aa e.args.length ac) ∧ wr.cell? ⟨w.heap.size + 1, 5, none⟩ = some (.slice aa' f.args.length ac') ∧
      Hid (Expr.eqvs (e.args.take k) (f.args.take k) = true)) (fun i _ => e.args.length - (intOf i).toNat)
    case atStart => exact ⟨0, by omega, rfl, hw, k0, k1, by simp [Hid, Expr.eqvs]⟩
    case round =>
      obtain ⟨k, hk, rfl, hb, g0, g1, hp⟩ := hrel
      clear hw k0 k1
      by_cases hlt : k < e.args.length
      · obtain ⟨x, hx⟩ := get_of_lt hlt
        obtain ⟨y, hy⟩ := get_of_lt (xs := f.args) (k := k) (by have := HL.out; omega)
        have hky : (k : Int) < (f.args.length : Int) := by have := HL.out; omega
        obtain ⟨b, off, rfl, hE⟩ := HX.out.2.2 k x hx
        obtain ⟨b', off', rfl, hE'⟩ := HX'.out.2.2 k y hy
        obtain ⟨ma, mc, ea, ec, ba, bc, ⟨q0, q1, q2, q3, q4, q5, q6⟩, hr⟩ := hE.ext (Ext.below hb)
        obtain ⟨ma', mc', ea', ec', ba', bc', ⟨q0', q1', q2', q3', q4', q5', q6'⟩, hr'⟩ := hE'.ext (Ext.below hb)
        replace q0 := held q0; replace q1 := held q1; replace q2 := held q2; replace q3 := held q3; replace q4 := held q4; replace q5 := held q5; replace q6 := held q6
        replace q0' := held q0'; replace q1' := held q1'; replace q2' := held q2'; replace q3' := held q3'; replace q4' := held q4'; replace q5' := held q5'; replace q6' := held q6'
        have G0 := held g0
        have G1 := held g1
        have HXX := Lib.hid hx
        have HYY := Lib.hid hy
        have s0 : Below wr.heap.size wr wr.drew := (Below.refl _ _).drew
        clear hx hy hE hE' g0 g1
        go_wp2_with fail
        refine wp_region_mix (S := Below wr.heap.size wr) [(0, .q), (1, .q), (2, .q), (3, .q), (4, .q), (5, .q), (6, .q), (7, .q), (8, .q), (9, .q), (10, .l), (11, .q)] (by kernel_rfl) (by kernel_rfl) (by kernel_rfl) (fun d _ _ _ _ h => by cases d <;> exact h) (s0) ?_
        iterate 10 (refine wpMix_q rfl rfl (fun K hK => ?_); apply Exists.intro; refine ⟨fun w' hw' => ?_, ?_⟩; (focus (go_simp; try rfl)); go_simp; refine hK _ _ ?_; clear hK K)
        by_cases hxy : x.eqv y = true
        · have IHX := IH.out x y ma mc ea ec ba bc ma' mc' ea' ec' ba' bc' wr.drew (hr.ext (Ext.below s0)) (hr'.ext (Ext.below s0))
          rw [hxy] at IHX
          have HXY := Lib.hid hxy
          clear hxy
          refine wpMix_l rfl rfl (fun K hK => ?_)
          go_simp
          refine (IHX).mono ?_
          rintro r w2 ⟨rfl, hb2⟩
          dsimp only
          refine hK.out _ _ (below_then s0 hb2) (fun _ => ?_)
          clear hK K
          have s1 := below_then s0 hb2
          have j0 := G0 w2 s1
          have j1 := G1 w2 s1
          iterate 1 (refine wpMix_q rfl rfl (fun K hK => ?_); apply Exists.intro; refine ⟨fun w' hw' => ?_, ?_⟩; (focus (go_simp; try rfl)); go_simp; refine hK _ _ ?_; clear hK K)
          refine wpMix_nil ?_
          clear IHX
          go_wp2
          refine ⟨⟨k + 1, by omega, by go_num, below_then hb s1, j0, j1, ?_⟩, by simp [intOf]; omega⟩
          have e1 := eqvs_snoc _ _ k x y HXX.out HYY.out
          rw [hp.out, HXY.out] at e1
          exact e1
        · have hxf : x.eqv y = false := by simpa using hxy
          clear hxy
          have IHX := IH.out x y ma mc ea ec ba bc ma' mc' ea' ec' ba' bc' wr.drew (hr.ext (Ext.below s0)) (hr'.ext (Ext.below s0))
          rw [hxf] at IHX
          have HXY := Lib.hid hxf
          clear hxf
          refine wpMix_l rfl rfl (fun K hK => ?_)
          go_simp
          refine (IHX).mono ?_
          rintro r w2 ⟨rfl, hb2⟩
          dsimp only
          refine hK.out _ _ (below_then s0 hb2) (fun _ => ?_)
          clear hK K
          have s1 := below_then s0 hb2
          iterate 1 (refine wpMix_q rfl rfl (fun K hK => ?_); apply Exists.intro; refine ⟨fun w' hw' => ?_, ?_⟩; (focus (go_simp; try rfl)); go_simp; refine hK _ _ ?_; clear hK K)
          refine wpMix_nil ?_
          clear IHX
          go_wp2
          go_ret
          exact ⟨ret_bool (by rw [HG.out, eqvs_false _ _ k x y HXX.out HYY.out HXY.out]), below_then hb s1⟩
      · go_wp2_with fail
        go_ret
        refine ⟨ret_bool ?_, hb⟩
        have := hp.out
        rw [take_all hlt, take_all (by have := HL.out; omega)] at this
        rw [HG.out, this]

end Go.Proofs.Ytmlldjcbijoheaa

/- Walks: whether two programs are equal, apart from positions. -/
namespace Go.Proofs.Ytmlldjcbijoheaa
open Go.RowKit

set_option maxRecDepth 100000 in
set_option maxHeartbeats 2000000 in
theorem equalStmt_any (d : Nat) (s t : Stmt) (p q : SA) (w : World) (h : StmtR d w p s) (h' : StmtR d w q t) :
    Calls Try.prog 60 #[s.val p, t.val q] w fun r w' => r = .returned (.bool (s.eqv t)) ∧ Below w.heap.size w w' := by
  have H := Lib.hid h
  have H' := Lib.hid h'
  have hl := h.names.len
  have hl' := h'.names.len
  clear h h'
  unfold Stmt.val
  by_cases hk : s.kind = t.kind
  case neg =>
    have hb : (s.kind != t.kind) = true := by simpa using hk
    have HK := Lib.hid hk
    clear hk
    go_enter Try.func60, Try.ntmps60
    go_wp2_with fail
    go_ret
    exact ⟨ret_bool (by rw [Stmt.eqv, decide_eq_false HK.out]; rfl), by go_grown⟩
  have hkb : (s.kind != t.kind) = false := by simpa using hk
  have HK := Lib.hid hk
  clear hk
  by_cases hn : s.names.length = t.names.length
  case neg =>
    have hb : ((s.names.length : Int) != (t.names.length : Int)) = true := by rw [bne_iff_ne]; omega
    have HNN := Lib.hid hn
    clear hn
    go_enter Try.func60, Try.ntmps60
    go_wp2_with fail
    go_ret
    exact ⟨ret_bool (by rw [Stmt.eqv, decide_eq_true HK.out, decide_eq_false HNN.out]; rfl), by go_grown⟩
  have hnb : ((s.names.length : Int) != (t.names.length : Int)) = false := by rw [bne_eq_false_iff_eq]; omega
  have HNN := Lib.hid hn
  clear hn
  by_cases he : s.expr.eqv t.expr = true
  case neg =>
    have hb : s.expr.eqv t.expr = false := by simpa using he
    have HE := Lib.hid hb
    have IH := fun (w' : World) (x : Ext w w') => equalExpr_any d s.expr t.expr p.na p.nc p.da p.dc p.aa p.ac q.na q.nc q.da q.dc q.aa q.ac w' (H.out.expr.ext x) (H'.out.expr.ext x)
    simp only [hb, Expr.val] at IH
    clear he hb
    go_enter Try.func60, Try.ntmps60
    go_wp2_with fail
    refine (IH _ (ext_alloc2 _ _ _)).mono ?_
    rintro r w1 ⟨rfl, hb1⟩
    have hw := below_then2 (Below.refl _ w) hb1
    clear hb1
    go_wp2_with fail
    go_ret
    exact ⟨ret_bool (by rw [Stmt.eqv, decide_eq_true HK.out, decide_eq_true HNN.out, HE.out]; rfl), hw⟩
  have HE := Lib.hid he
  have IH := fun (w' : World) (x : Ext w w') => equalExpr_any d s.expr t.expr p.na p.nc p.da p.dc p.aa p.ac q.na q.nc q.da q.dc q.aa q.ac w' (H.out.expr.ext x) (H'.out.expr.ext x)
  simp only [he, Expr.val] at IH
  clear he
  go_enter Try.func60, Try.ntmps60
  go_wp2_with fail
  refine (IH _ (ext_alloc2 _ _ _)).mono ?_
  clear IH
  rintro r w1 ⟨rfl, hb1⟩
  have hw := below_then2 (Below.refl _ w) hb1
  have k0 := hb1.cell (p := ⟨w.heap.size, 1, none⟩) (by simp; omega)
  have k1 := hb1.cell (p := ⟨w.heap.size + 1, 1, none⟩) (by simp)
  simp at k0 k1
  clear hb1
  go_wp2_with fail
  have hg : s.eqv t = decide (s.names = t.names) := by rw [Stmt.eqv, decide_eq_true HK.out, decide_eq_true HNN.out, HE.out]; rfl
  have HG := Lib.hid hg
  have hnl := HNN.out
  clear hg
  go_loopw [31] (fun i wr => ∃ k : Nat, k ≤ s.names.length ∧ i = .int .i64 k ∧ Below w.heap.size w wr ∧ wr.cell? ⟨w.heap.size, 1, none⟩ = some (.slice p.sa s.names.length p.sc) ∧ wr.cell? ⟨w.heap.size + 1, 1, none⟩ = some (.slice q.sa t.names.length q.sc) ∧
    Hid (s.names.take k = t.names.take k)) (fun i _ => s.names.length - (intOf i).toNat)
  case atStart => exact ⟨0, by omega, rfl, hw, k0, k1, by simp [Hid]⟩
  case round =>
    obtain ⟨k, hk, rfl, hb, g0, g1, hp⟩ := hrel
    clear hw k0 k1
    by_cases hlt : k < s.names.length
    · obtain ⟨x, hx⟩ := get_of_lt hlt
      obtain ⟨y, hy⟩ := get_of_lt (xs := t.names) (k := k) (by omega)
      have hky : (k : Int) < (t.names.length : Int) := by omega
      obtain ⟨b, off, ha, hE⟩ := H.out.names.2.2 k x hx
      obtain ⟨b', off', ha', hE'⟩ := H'.out.names.2.2 k y hy
      rw [ha] at g0
      rw [ha'] at g1
      have hc : wr.cell? ⟨b, off + k, none⟩ = some (.string x) := by have := hE.ext (Ext.below hb); simpa [StrE] using this
      have hc' : wr.cell? ⟨b', off' + k, none⟩ = some (.string y) := by have := hE'.ext (Ext.below hb); simpa [StrE] using this
      have HXX := Lib.hid hx
      have HYY := Lib.hid hy
      have HA := Lib.hid ha
      have HA' := Lib.hid ha'
      clear hx hy hE hE' ha ha'
      by_cases hxy : x = y
      · subst hxy
        go_wp2
        go_quiet (fail)
        go_wp2
        refine ⟨⟨k + 1, by omega, by go_num, below_drewN hb _, by rw [HA.out]; simpa using g0, by rw [HA'.out]; simpa using g1, take_snoc_eq HXX.out HYY.out hp.out⟩, by simp [intOf]; omega⟩
      · have hxb : (x.toList != y.toList) = true := by rw [bne, str_beq]; simpa using hxy
        have hxb2 : (x.toList == y.toList) = false := by rw [str_beq]; simpa using hxy
        have HXY := Lib.hid hxy
        clear hxy
        go_wp2
        go_quiet (fail)
        go_wp2
        go_ret
        exact ⟨ret_bool (by rw [HG.out, decide_eq_false (take_snoc_ne HXX.out HYY.out HXY.out)]), below_drewN hb _⟩
    · go_wp2_with fail
      go_ret
      refine ⟨ret_bool ?_, hb⟩
      have := hp.out
      rw [take_all hlt, take_all (by omega)] at this
      rw [HG.out, decide_eq_true this]

/-- a program's value: its one slice -/
def progVal (n : Nat) (a : Option Addr) (c : Nat) : Value := .agg #[.slice a n c]

set_option maxRecDepth 100000 in
set_option maxHeartbeats 2000000 in
theorem equalProg_any (d : Nat) (l m : List Stmt) (a a' : Option Addr) (c c' : Nat) (w : World) (h : StmtsR d w a c l) (h' : StmtsR d w a' c' m) :
    Calls Try.prog 24 #[progVal l.length a c, progVal m.length a' c'] w fun r w' => r = .returned (.bool (progEqv l m)) ∧ Below w.heap.size w w' := by
  have H := Lib.hid h
  have H' := Lib.hid h'
  have hl := SlR.len h
  have hl' := SlR.len h'
  clear h h'
  unfold progVal
  by_cases hn : l.length = m.length
  case neg =>
    have hb : ((l.length : Int) != (m.length : Int)) = true := by rw [bne_iff_ne]; omega
    have HNN := Lib.hid hn
    clear hn
    go_enter Try.func24, Try.ntmps24
    go_wp2_with fail
    go_ret
    exact ⟨ret_bool (by rw [progEqv, decide_eq_false HNN.out]; rfl), by go_grown⟩
  have hnb : ((l.length : Int) != (m.length : Int)) = false := by rw [bne_eq_false_iff_eq]; omega
  have HNN := Lib.hid hn
  clear hn
  have hg : progEqv l m = (l.zip m).all fun x => x.1.eqv x.2 := by rw [progEqv, decide_eq_true HNN.out]; rfl
  have HG := Lib.hid hg
  clear hg
  go_enter Try.func24, Try.ntmps24
  go_wp2_with fail
  go_loopw [16] (fun i wr => ∃ k : Nat, k ≤ l.length ∧ i = .int .i64 k ∧ Below w.heap.size w wr ∧ wr.cell? ⟨w.heap.size, 0, none⟩ = some (.slice a l.length c) ∧ wr.cell? ⟨w.heap.size + 1, 0, none⟩ = some (.slice a' m.length c') ∧
    Hid (((l.take k).zip (m.take k)).all (fun x => x.1.eqv x.2) = true)) (fun i _ => l.length - (intOf i).toNat)
  case atStart => exact ⟨0, by omega, rfl, by go_grown, by simp, by simp, by simp [Hid]⟩
  case round =>
    obtain ⟨k, hk, rfl, hb, g0, g1, hp⟩ := hrel
    by_cases hlt : k < l.length
    · obtain ⟨x, hx⟩ := get_of_lt hlt
      obtain ⟨y, hy⟩ := get_of_lt (xs := m) (k := k) (by have := HNN.out; omega)
      have hky : (k : Int) < (m.length : Int) := by have := HNN.out; omega
      obtain ⟨b, off, rfl, hE⟩ := H.out.2.2 k x hx
      obtain ⟨b', off', rfl, hE'⟩ := H'.out.2.2 k y hy
      obtain ⟨p, ⟨q0, q1, q2, q3, q4, q5, q6, q7, q8, q9⟩, hr⟩ := hE.ext (Ext.below hb)
      obtain ⟨p', ⟨q0', q1', q2', q3', q4', q5', q6', q7', q8', q9'⟩, hr'⟩ := hE'.ext (Ext.below hb)
      replace q0 := held q0; replace q1 := held q1; replace q2 := held q2; replace q3 := held q3; replace q4 := held q4; replace q5 := held q5; replace q6 := held q6; replace q7 := held q7; replace q8 := held q8; replace q9 := held q9
      replace q0' := held q0'; replace q1' := held q1'; replace q2' := held q2'; replace q3' := held q3'; replace q4' := held q4'; replace q5' := held q5'; replace q6' := held q6'; replace q7' := held q7'; replace q8' := held q8'; replace q9' := held q9'
      have G0 := held g0
      have G1 := held g1
      have HXX := Lib.hid hx
      have HYY := Lib.hid hy
      have s0 : Below wr.heap.size wr wr.drew := (Below.refl _ _).drew
      clear hx hy hE hE' g0 g1
      go_wp2_with fail
      refine wp_region_mix (S := Below wr.heap.size wr) [(0, .q), (1, .q), (2, .q), (3, .q), (4, .q), (5, .q), (6, .q), (7, .q), (8, .q), (9, .q), (10, .l), (11, .q)] (by kernel_rfl) (by kernel_rfl) (by kernel_rfl) (fun d _ _ _ _ h => by cases d <;> exact h) (s0) ?_
      iterate 10 (refine wpMix_q rfl rfl (fun K hK => ?_); apply Exists.intro; refine ⟨fun w' hw' => ?_, ?_⟩; (focus (go_simp; try rfl)); go_simp; refine hK _ _ ?_; clear hK K)
      by_cases hxy : x.eqv y = true
      · have IHX := equalStmt_any d x y p p' wr.drew (hr.ext (Ext.below s0)) (hr'.ext (Ext.below s0))
        rw [hxy] at IHX
        have HXY := Lib.hid hxy
        clear hxy
        refine wpMix_l rfl rfl (fun K hK => ?_)
        go_simp
        refine (IHX).mono ?_
        rintro r w2 ⟨rfl, hb2⟩
        dsimp only
        refine hK.out _ _ (below_then s0 hb2) (fun _ => ?_)
        clear hK K
        have s1 := below_then s0 hb2
        have j0 := G0 w2 s1
        have j1 := G1 w2 s1
        iterate 1 (refine wpMix_q rfl rfl (fun K hK => ?_); apply Exists.intro; refine ⟨fun w' hw' => ?_, ?_⟩; (focus (go_simp; try rfl)); go_simp; refine hK _ _ ?_; clear hK K)
        refine wpMix_nil ?_
        clear IHX
        go_wp2
        refine ⟨⟨k + 1, by omega, by go_num, below_then hb s1, j0, j1, ?_⟩, by simp [intOf]; omega⟩
        have e1 := zip_all_snoc (f := fun x => x.1.eqv x.2) _ _ k x y HXX.out HYY.out
        rw [hp.out, HXY.out] at e1
        exact e1
      · have hxf : x.eqv y = false := by simpa using hxy
        clear hxy
        have IHX := equalStmt_any d x y p p' wr.drew (hr.ext (Ext.below s0)) (hr'.ext (Ext.below s0))
        rw [hxf] at IHX
        have HXY := Lib.hid hxf
        clear hxf
        refine wpMix_l rfl rfl (fun K hK => ?_)
        go_simp
        refine (IHX).mono ?_
        rintro r w2 ⟨rfl, hb2⟩
        dsimp only
        refine hK.out _ _ (below_then s0 hb2) (fun _ => ?_)
        clear hK K
        have s1 := below_then s0 hb2
        iterate 1 (refine wpMix_q rfl rfl (fun K hK => ?_); apply Exists.intro; refine ⟨fun w' hw' => ?_, ?_⟩; (focus (go_simp; try rfl)); go_simp; refine hK _ _ ?_; clear hK K)
        refine wpMix_nil ?_
        clear IHX
        go_wp2
        go_ret
        exact ⟨ret_bool (by rw [HG.out, zip_all_false l m k x y HXX.out HYY.out HXY.out]), below_then hb s1⟩
    · go_wp2_with fail
      go_ret
      refine ⟨ret_bool ?_, hb⟩
      have := hp.out
      rw [take_all hlt, take_all (by have := HNN.out; omega)] at this
      rw [HG.out, this]
end Go.Proofs.Ytmlldjcbijoheaa

/- Walk: R19.Check. -/
namespace Go.Proofs.Ytmlldjcbijoheaa
open Go.RowKit

/-- what a program's walk asks of each statement -/
def Stmt.small (s : Stmt) : Prop := s.expr.few ∧ s.expr.count ≤ 1048576 ∧ ∀ n ∈ s.names, n.size ≤ 1048576

set_option maxRecDepth 100000 in
set_option maxHeartbeats 4000000 in
theorem check19_any (d : Nat) (l : List Stmt) (la : Option Addr) (lc : Nat) (w : World) (h : StmtsR d w la lc l) (hs : ∀ s ∈ l, s.small) :
    Calls Try.prog 67 #[progVal l.length la lc] w fun r w' => r = .returned (.tuple #[.int .i64 (progAt l 0 l), .int .i64 (progErr l 0 l)]) ∧ Below w.heap.size w w' := by
  have HL := Lib.hid h
  have HS := Lib.hid hs
  have hlen := h.len
  have hlc := h.1
  obtain ⟨ra, hra⟩ : ∃ x, progAt l 0 l = x := ⟨_, rfl⟩
  obtain ⟨re, hre⟩ : ∃ x, progErr l 0 l = x := ⟨_, rfl⟩
  rw [hra, hre]
  have HRA : Hid (progAt l 0 (l.drop 0) = ra) := Lib.hid (by simpa using hra)
  have HRE : Hid (progErr l 0 (l.drop 0) = re) := Lib.hid (by simpa using hre)
  unfold progVal
  clear h hs hra hre
  have hz := Blk.new w 52 #[.slice la l.length lc]
  have hb0 : Below w.heap.size w (w.alloc (.cells #[.slice la l.length lc] 52)) := (Below.refl _ _).alloc (Nat.le_refl _) _
  go_enter Try.func67, Try.ntmps67
  go_wp2
  revert hz hb0
  generalize w.alloc (.cells #[.slice la l.length lc] 52) = w0
  intro hz hb0
  obtain ⟨wo, rfl⟩ : ∃ wo : World, wo = w0 := ⟨_, rfl⟩
  go_loopg [4, 5, 6, 10] l.length (fun g _ _ _ q wr => ∃ k : Nat, k + g = l.length ∧ q = .int .i64 k ∧ Below w.heap.size w wr ∧ Blk wr w.heap.size 52 #[.slice la l.length lc] ∧ progAt l k (l.drop k) = ra ∧ progErr l k (l.drop k) = re)
  case atStart => exact ⟨0, by omega, rfl, hb0, hz, HRA.out, HRE.out⟩
  case round =>
    clear hz hb0
    obtain ⟨k, hkg, rfl, hwr, hzr, ha, he⟩ := hrel
    have HKG := Lib.hid hkg
    have HA := Lib.hid ha
    have HE := Lib.hid he
    have hzl := hzr.lt
    have z0 := hzr.cell 0
    clear hkg ha he
    by_cases hlt : k < l.length
    · obtain ⟨x, hx⟩ := get_of_lt hlt
      have hxs := HS.out x (List.mem_of_getElem? hx)
      obtain ⟨bx, ox, rfl, p, hC, hR⟩ := (HL.out.ext (Ext.below hwr)).2.2 k x hx
      have CST := fun W (hW : Below wr.heap.size wr W) => statement19_arg d (l.take k) (some ⟨bx, ox, none⟩) lc d x p.sa p.sc p.na p.nc p.da p.dc p.aa p.ac W ((HL.out.ext (Ext.below (below_then hwr hW))).take k) (hR.names.ext (Ext.below hW)) (hR.expr.ext (Ext.below hW)) hxs.1 hxs.2.1 hxs.2.2
      have hlk : (l.take k).length = k := by simp only [List.length_take]; omega
      simp only [hlk] at CST
      obtain ⟨c0, c1, c2, c3, c4, c5, c6, c7, c8, c9⟩ := hC
      have hea := HA.out
      have hee := HE.out
      rw [progAt_at hx] at hea
      rw [progErr_at hx] at hee
      obtain ⟨ev, hev⟩ : ∃ b, x.behind (l.take k) = b := ⟨_, rfl⟩
      rw [hev] at hea hee CST
      have HEA := Lib.hid hea; have HEE := Lib.hid hee
      replace CST := Lib.hid CST
      have hkc : k ≤ lc := by omega
      have hkn : k ≤ l.length := by omega
      have hxz := Blk.new wr 49 #[.int .i64 x.kind, .slice p.sa x.names.length p.sc, .int .i64 x.expr.kind, .string x.expr.name, .bool x.expr.neg, .slice p.na x.expr.num.length p.nc, .slice p.da x.expr.den.length p.dc, .slice p.aa x.expr.args.length p.ac, .int .i64 x.expr.pos, .int .i64 x.pos]
      have hbz : Below wr.heap.size wr (wr.alloc (.cells #[.int .i64 x.kind, .slice p.sa x.names.length p.sc, .int .i64 x.expr.kind, .string x.expr.name, .bool x.expr.neg, .slice p.na x.expr.num.length p.nc, .slice p.da x.expr.den.length p.dc, .slice p.aa x.expr.args.length p.ac, .int .i64 x.expr.pos, .int .i64 x.pos] 49)) := by go_grown
      clear hx hR hea hee hev HA HE hxs hlk
      go_wp2_with fail
      revert hbz hxz
      generalize wr.alloc (.cells #[.int .i64 x.kind, .slice p.sa x.names.length p.sc, .int .i64 x.expr.kind, .string x.expr.name, .bool x.expr.neg, .slice p.na x.expr.num.length p.nc, .slice p.da x.expr.den.length p.dc, .slice p.aa x.expr.args.length p.ac, .int .i64 x.expr.pos, .int .i64 x.pos] 49) = wz
      intro hxz hbz
      have k0 := held (hxz.cell 0); have k1 := held (hxz.cell 1); have k2 := held (hxz.cell 2); have k3 := held (hxz.cell 3); have k4 := held (hxz.cell 4); have k5 := held (hxz.cell 5); have k6 := held (hxz.cell 6); have k7 := held (hxz.cell 7); have k8 := held (hxz.cell 8); have k9 := held (hxz.cell 9)
      have hzz := hzr.below' hbz
      have y0 := held (hzz.cell 0)
      have s0 : Below wz.heap.size wz wz.drew := (Below.refl _ _).drew
      clear c0 c1 c2 c3 c4 c5 c6 c7 c8 c9 z0
      refine wp_region_mix (S := Below wz.heap.size wz) [(0, .q), (1, .q), (2, .q), (3, .q), (4, .q), (5, .t), (6, .p)] (by kernel_rfl) (by kernel_rfl) (by kernel_rfl) (fun d _ _ _ _ h => by cases d <;> exact h) (s0) ?_
      iterate 5 (refine wpMix_q rfl rfl (fun K hK => ?_); apply Exists.intro; refine ⟨fun w' hw' => ?_, ?_⟩; (focus (go_simp; try rfl)); go_simp; refine hK _ _ ?_; clear hK K)
      refine wpMix_t rfl rfl (fun K hK => ?_)
      go_simp
      refine (CST.out _ (below_then hbz s0)).mono ?_
      rintro r w6 ⟨rfl, hb6⟩
      dsimp only
      refine hK.out _ _ ?_
      clear hK K
      have s6 := below_then s0 hb6
      have hw6 := below_then hwr (below_then hbz s6)
      have hz6 := hzz.below' s6
      iterate 1 (refine wpMix_p rfl rfl (fun K hK => ?_); apply Exists.intro; refine ⟨fun w' => ?_, ?_⟩; (focus (go_simp; try rfl)); go_simp; refine hK _ _ ?_; clear hK K)
      refine wpMix_nil ?_
      clear s0 hb6 s6 k0 k1 k2 k3 k4 k5 k6 k7 k8 k9 y0 hzz hxz hbz hzl hzr hwr
      by_cases h0 : ev = 0
      · have hb : (ev != 0) = false := by simpa using h0
        have ha2 := HEA.out
        have he2 := HEE.out
        rw [if_neg (by simp [h0])] at ha2 he2
        have HA2 := Lib.hid ha2; have HE2 := Lib.hid he2
        clear h0 ha2 he2 HEA HEE
        go_wp2
        go_roundg (gk - 1)
        case rel => exact ⟨k + 1, by have := HKG.out; omega, by go_num, hw6, hz6, HA2.out, HE2.out⟩
        case measure => have := HKG.out; omega
      · have hb : (ev != 0) = true := by simpa using h0
        have ha2 := HEA.out
        have he2 := HEE.out
        rw [if_pos h0] at ha2 he2
        subst ha2
        subst he2
        clear h0 HEA HEE
        go_wp2
        go_ret2
        exact ⟨rfl, hw6⟩
    · have ha2 : ra = 0 := by rw [← HA.out, List.drop_eq_nil_of_le (by omega)]; rfl
      have he2 : re = 0 := by rw [← HE.out, List.drop_eq_nil_of_le (by omega)]; rfl
      subst ha2
      subst he2
      go_wp2
      go_ret2
      exact ⟨rfl, hwr⟩
end Go.Proofs.Ytmlldjcbijoheaa
