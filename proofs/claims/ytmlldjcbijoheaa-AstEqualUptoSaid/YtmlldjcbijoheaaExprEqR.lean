/- Walks: whether two expressions are equal, apart from positions. -/
import Derived.Test.YtmlldjcbijoheaaExprEq
import Derived.Test.YtmlldjcbijoheaaRegion
import Derived.Test.YtmlldjcbijoheaaExprR
import Derived.Test.YtmlldjcbijoheaaExprEqP
namespace Go.Proofs.Ytmlldjcbijoheaa
open Go.RowKit

set_option maxRecDepth 100000 in
set_option maxHeartbeats 2000000 in
theorem equalExprR_any (d : Nat) : ∀ (e f : Expr) (na : Option Addr) (nc : Nat) (da : Option Addr) (dc : Nat) (aa : Option Addr) (ac : Nat) (na' : Option Addr) (nc' : Nat) (da' : Option Addr) (dc' : Nat) (aa' : Option Addr) (ac' : Nat) (w : World),
    ExprR d w na nc da dc aa ac e → ExprR d w na' nc' da' dc' aa' ac' f →
    Calls Try.prog 21 #[e.val na nc da dc aa ac, f.val na' nc' da' dc' aa' ac'] w fun r w' => r = .returned (.bool (e.eqv f)) ∧ Below w.heap.size w w' := by
  induction d with
  | zero => intro e f na nc da dc aa ac na' nc' da' dc' aa' ac' w h; exact h.elim
  | succ d ih =>
    intro e f na nc da dc aa ac na' nc' da' dc' aa' ac' w h h'
    obtain ⟨-, -, -, n1, n2, hx⟩ := h.of_succ
    obtain ⟨-, -, -, n1', n2', hx'⟩ := h'.of_succ
    have IH := Lib.hid ih
    have HX := Lib.hid hx
    have HX' := Lib.hid hx'
    have HN := Lib.hid (And.intro n1 (And.intro n2 (And.intro n1' n2')))
    have hl := hx.len
    have hl' := hx'.len
    clear ih hx hx' n1 n2 n1' n2'
    unfold Expr.val
    by_cases hk : e.kind = f.kind
    case neg =>
      have hb : (e.kind == f.kind) = false := by simpa using hk
      have HK := Lib.hid hk
      clear hk
      go_enter Try.func21, Try.ntmps21
      go_wp2_with fail
      go_ret
      exact ⟨ret_bool (by rw [Expr.eqv_eq, decide_eq_false HK.out]; rfl), by go_grown⟩
    have hkb : (e.kind == f.kind) = true := by simpa using hk
    have HK := Lib.hid hk
    clear hk
    by_cases hn : e.name = f.name
    case neg =>
      have hb : (e.name.toList == f.name.toList) = false := by rw [str_beq]; simpa using hn
      have HNN := Lib.hid hn
      clear hn
      go_enter Try.func21, Try.ntmps21
      go_wp2_with fail
      go_ret
      exact ⟨ret_bool (by rw [Expr.eqv_eq, decide_eq_true HK.out, decide_eq_false HNN.out]; rfl), by go_grown⟩
    have hnb : (e.name.toList == f.name.toList) = true := by rw [str_beq]; simpa using hn
    have HNN := Lib.hid hn
    clear hn
    by_cases hr : e.neg = f.neg ∧ e.num = f.num ∧ e.den = f.den
    case neg =>
      have hb : decide (e.neg = f.neg ∧ e.num = f.num ∧ e.den = f.den) = false := decide_eq_false hr
      have HR := Lib.hid hr
      clear hr
      go_enter Try.func21, Try.ntmps21
      go_wp2_with fail
      refine (sameRat16_any e.neg f.neg e.num f.num e.den f.den na na' da da' nc nc' dc dc' _ (HN.out.1.ext (ext_alloc2 _ _ _)) (HN.out.2.2.1.ext (ext_alloc2 _ _ _)) (HN.out.2.1.ext (ext_alloc2 _ _ _)) (HN.out.2.2.2.ext (ext_alloc2 _ _ _))).mono ?_
      rintro r w1 ⟨rfl, hb1⟩
      rw [hb]
      have hw := below_then2 (Below.refl _ w) hb1
      clear hb1
      go_wp2_with fail
      go_ret
      exact ⟨ret_bool (by rw [Expr.eqv_eq, decide_eq_true HK.out, decide_eq_true HNN.out, decide_eq_false (p := e.sameRat f) HR.out]; rfl), hw⟩
    have hrb : decide (e.neg = f.neg ∧ e.num = f.num ∧ e.den = f.den) = true := decide_eq_true hr
    have HR := Lib.hid hr
    clear hr
    by_cases hlen : e.args.length = f.args.length
    case neg =>
      have hlb : ((e.args.length : Int) == (f.args.length : Int)) = false := by rw [beq_eq_false_iff_ne]; omega
      have HL := Lib.hid hlen
      clear hlen
      go_enter Try.func21, Try.ntmps21
      go_wp2_with fail
      refine (sameRat16_any e.neg f.neg e.num f.num e.den f.den na na' da da' nc nc' dc dc' _ (HN.out.1.ext (ext_alloc2 _ _ _)) (HN.out.2.2.1.ext (ext_alloc2 _ _ _)) (HN.out.2.1.ext (ext_alloc2 _ _ _)) (HN.out.2.2.2.ext (ext_alloc2 _ _ _))).mono ?_
      rintro r w1 ⟨rfl, hb1⟩
      rw [hrb]
      have hw := below_then2 (Below.refl _ w) hb1
      have k0 := hb1.cell (p := ⟨w.heap.size, 5, none⟩) (by simp; omega)
      have k1 := hb1.cell (p := ⟨w.heap.size + 1, 5, none⟩) (by simp)
      simp at k0 k1
      clear hb1
      go_wp2_with fail
      go_ret
      exact ⟨ret_bool (by rw [Expr.eqv_eq, decide_eq_true HK.out, decide_eq_true HNN.out, decide_eq_true (p := e.sameRat f) HR.out, decide_eq_false HL.out]; rfl), hw⟩
    have hlb : ((e.args.length : Int) == (f.args.length : Int)) = true := by rw [beq_iff_eq]; omega
    have hlb' : ((e.args.length : Int) != (f.args.length : Int)) = false := by rw [bne, hlb]; rfl
    have HL := Lib.hid hlen
    clear hlen
    go_enter Try.func21, Try.ntmps21
    go_wp2_with fail
    refine (sameRat16_any e.neg f.neg e.num f.num e.den f.den na na' da da' nc nc' dc dc' _ (HN.out.1.ext (ext_alloc2 _ _ _)) (HN.out.2.2.1.ext (ext_alloc2 _ _ _)) (HN.out.2.1.ext (ext_alloc2 _ _ _)) (HN.out.2.2.2.ext (ext_alloc2 _ _ _))).mono ?_
    rintro r w1 ⟨rfl, hb1⟩
    rw [hrb]
    have hw := below_then2 (Below.refl _ w) hb1
    have k0 := hb1.cell (p := ⟨w.heap.size, 5, none⟩) (by simp; omega)
    have k1 := hb1.cell (p := ⟨w.heap.size + 1, 5, none⟩) (by simp)
    simp at k0 k1
    clear hb1
    go_wp2_with fail
    have hgoal : e.eqv f = Expr.eqvs e.args f.args := by
      rw [Expr.eqv_eq, decide_eq_true HK.out, decide_eq_true HNN.out, decide_eq_true (p := e.sameRat f) HR.out, decide_eq_true HL.out]; rfl
    have HG := Lib.hid hgoal
    clear hgoal
    go_loopw [38] (fun i wr => ∃ k : Nat, k ≤ e.args.length ∧ i = .int .i64 k ∧ Below w.heap.size w wr ∧ wr.cell? ⟨w.heap.size, 5, none⟩ = some (.slice aa e.args.length ac) ∧ wr.cell? ⟨w.heap.size + 1, 5, none⟩ = some (.slice aa' f.args.length ac') ∧
      Hid (Expr.eqvs (e.args.take k) (f.args.take k) = true)) (fun i _ => e.args.length - (intOf i).toNat)
    case atStart => exact ⟨0, by omega, rfl, hw, k0, k1, by simp [Hid, Expr.eqvs]⟩
    case round =>
      obtain ⟨k, hk, rfl, hb, g0, g1, hp⟩ := hrel
      clear hw k0 k1
      by_cases hlt : k < e.args.length
      · obtain ⟨x, hx⟩ := get_of_lt hlt
        obtain ⟨y, hy⟩ := get_of_lt (xs := f.args) (k := k) (by have := HL.out; omega)
        have hky : (k : Int) < (f.args.length : Int) := by have := HL.out; omega
        obtain ⟨b, off, rfl, hE⟩ := HX.out.2.2 k x hx
        obtain ⟨b', off', rfl, hE'⟩ := HX'.out.2.2 k y hy
        obtain ⟨ma, mc, ea, ec, ba, bc, ⟨q0, q1, q2, q3, q4, q5, q6⟩, hr⟩ := hE.ext (Ext.below hb)
        obtain ⟨ma', mc', ea', ec', ba', bc', ⟨q0', q1', q2', q3', q4', q5', q6'⟩, hr'⟩ := hE'.ext (Ext.below hb)
        replace q0 := held q0; replace q1 := held q1; replace q2 := held q2; replace q3 := held q3; replace q4 := held q4; replace q5 := held q5; replace q6 := held q6
        replace q0' := held q0'; replace q1' := held q1'; replace q2' := held q2'; replace q3' := held q3'; replace q4' := held q4'; replace q5' := held q5'; replace q6' := held q6'
        have G0 := held g0
        have G1 := held g1
        have HXX := Lib.hid hx
        have HYY := Lib.hid hy
        have s0 : Below wr.heap.size wr wr.drew := (Below.refl _ _).drew
        clear hx hy hE hE' g0 g1
        go_wp2_with fail
        refine wp_region_mix (S := Below wr.heap.size wr) [(0, .q), (1, .q), (2, .q), (3, .q), (4, .q), (5, .q), (6, .q), (7, .q), (8, .q), (9, .q), (10, .l), (11, .q)] (by kernel_rfl) (by kernel_rfl) (by kernel_rfl) (fun d _ _ _ _ h => by cases d <;> exact h) (s0) ?_
        iterate 10 (refine wpMix_q rfl rfl (fun K hK => ?_); apply Exists.intro; refine ⟨fun w' hw' => ?_, ?_⟩; (focus (go_simp; try rfl)); go_simp; refine hK _ _ ?_; clear hK K)
        by_cases hxy : x.eqv y = true
        · have IHX := IH.out x y ma mc ea ec ba bc ma' mc' ea' ec' ba' bc' wr.drew (hr.ext (Ext.below s0)) (hr'.ext (Ext.below s0))
          rw [hxy] at IHX
          have HXY := Lib.hid hxy
          clear hxy
          refine wpMix_l rfl rfl (fun K hK => ?_)
          go_simp
          refine (IHX).mono ?_
          rintro r w2 ⟨rfl, hb2⟩
          dsimp only
          refine hK.out _ _ (below_then s0 hb2) (fun _ => ?_)
          clear hK K
          have s1 := below_then s0 hb2
          have j0 := G0 w2 s1
          have j1 := G1 w2 s1
          iterate 1 (refine wpMix_q rfl rfl (fun K hK => ?_); apply Exists.intro; refine ⟨fun w' hw' => ?_, ?_⟩; (focus (go_simp; try rfl)); go_simp; refine hK _ _ ?_; clear hK K)
          refine wpMix_nil ?_
          clear IHX
          go_wp2
          refine ⟨⟨k + 1, by omega, by go_num, below_then hb s1, j0, j1, ?_⟩, by simp [intOf]; omega⟩
          have e1 := eqvs_snoc _ _ k x y HXX.out HYY.out
          rw [hp.out, HXY.out] at e1
          exact e1
        · have hxf : x.eqv y = false := by simpa using hxy
          clear hxy
          have IHX := IH.out x y ma mc ea ec ba bc ma' mc' ea' ec' ba' bc' wr.drew (hr.ext (Ext.below s0)) (hr'.ext (Ext.below s0))
          rw [hxf] at IHX
          have HXY := Lib.hid hxf
          clear hxf
          refine wpMix_l rfl rfl (fun K hK => ?_)
          go_simp
          refine (IHX).mono ?_
          rintro r w2 ⟨rfl, hb2⟩
          dsimp only
          refine hK.out _ _ (below_then s0 hb2) (fun _ => ?_)
          clear hK K
          have s1 := below_then s0 hb2
          iterate 1 (refine wpMix_q rfl rfl (fun K hK => ?_); apply Exists.intro; refine ⟨fun w' hw' => ?_, ?_⟩; (focus (go_simp; try rfl)); go_simp; refine hK _ _ ?_; clear hK K)
          refine wpMix_nil ?_
          clear IHX
          go_wp2
          go_ret
          exact ⟨ret_bool (by rw [HG.out, eqvs_false _ _ k x y HXX.out HYY.out HXY.out]), below_then hb s1⟩
      · go_wp2_with fail
        go_ret
        refine ⟨ret_bool ?_, hb⟩
        have := hp.out
        rw [take_all hlt, take_all (by have := HL.out; omega)] at this
        rw [HG.out, this]

end Go.Proofs.Ytmlldjcbijoheaa
