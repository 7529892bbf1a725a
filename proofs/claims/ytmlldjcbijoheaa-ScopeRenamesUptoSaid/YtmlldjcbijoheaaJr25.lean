/- Walks: the reference's comparisons of two places that read as the same program. -/
import Derived.Test.YtmlldjcbijoheaaJr16
import Derived.Test.YtmlldjcbijoheaaJr10
import Derived.Test.YtmlldjcbijoheaaJr2
import Derived.Test.YtmlldjcbijoheaaJr1

/- Walks: whether two expressions are equal, apart from positions. -/
namespace Go.Proofs.Ytmlldjcbijoheaa
open Go.RowKit

set_option maxRecDepth 100000 in
set_option maxHeartbeats 2000000 in
theorem equalExprR_any (d : Nat) : ∀ (e f : Expr) (na : Option Addr) (nc : Nat) (da : Option Addr) (dc : Nat) (aa : Option Addr) (ac : Nat) (na' : Option Addr) (nc' : Nat) (da' : Option Addr) (dc' : Nat) (aa' : Option Addr) (ac' : Nat) (w : World),
    ExprR d w na nc da dc aa ac e → ExprR d w na' nc' da' dc' aa' ac' f →
    Calls Try.prog 21 #[e.val na nc da dc aa ac, f.val na' nc' da' dc' aa' ac'] w fun r w' => r = .returned (.bool (e.eqv f)) ∧ Below w.heap.size w w' := by
  induction d with
  | zero => intro e f na nc da dc aa ac na' nc' da' dc' aa' ac' w h; exact h.elim
  | succ d ih =>
    intro e f na nc da dc aa ac na' nc' da' dc' aa' ac' w h h'
    obtain ⟨-, -, -, n1, n2, hx⟩ := h.of_succ
    obtain ⟨-, -, -, n1', n2', hx'⟩ := h'.of_succ
    have IH := Lib.hid ih
    have HX := Lib.hid hx
    have HX' := Lib.hid hx'
    have HN := Lib.hid (And.intro n1 (And.intro n2 (And.intro n1' n2')))
    have hl := hx.len
    have hl' := hx'.len
    clear ih hx hx' n1 n2 n1' n2'
    unfold Expr.val
    by_cases hk : e.kind = f.kind
    case neg =>
      have hb : (e.kind == f.kind) = false := by simpa using hk
      have HK := Lib.hid hk
      clear hk
      go_enter Try.func21, Try.ntmps21
      go_wp2_with fail
      go_ret
      exact ⟨ret_bool (by rw [Expr.eqv_eq, decide_eq_false HK.out]; rfl), by go_grown⟩
    have hkb : (e.kind == f.kind) = true := by simpa using hk
    have HK := Lib.hid hk
    clear hk
    by_cases hn : e.name = f.name
    case neg =>
      have hb : (e.name.toList == f.name.toList) = false := by rw [str_beq]; simpa using hn
      have HNN := Lib.hid hn
      clear hn
      go_enter Try.func21, Try.ntmps21
      go_wp2_with fail
      go_ret
      exact ⟨ret_bool (by rw [Expr.eqv_eq, decide_eq_true HK.out, decide_eq_false HNN.out]; rfl), by go_grown⟩
    have hnb : (e.name.toList == f.name.toList) = true := by rw [str_beq]; simpa using hn
    have HNN := Lib.hid hn
    clear hn
    by_cases hr : e.neg = f.neg ∧ e.num = f.num ∧ e.den = f.den
    case neg =>
      have hb : decide (e.neg = f.neg ∧ e.num = f.num ∧ e.den = f.den) = false := decide_eq_false hr
      have HR := Lib.hid hr
      clear hr
      go_enter Try.func21, Try.ntmps21
      go_wp2_with fail
      refine (sameRat16_any e.neg f.neg e.num f.num e.den f.den na na' da da' nc nc' dc dc' _ (HN.out.1.ext (ext_alloc2 _ _ _)) (HN.out.2.2.1.ext (ext_alloc2 _ _ _)) (HN.out.2.1.ext (ext_alloc2 _ _ _)) (HN.out.2.2.2.ext (ext_alloc2 _ _ _))).mono ?_
      rintro r w1 ⟨rfl, hb1⟩
      rw [hb]
      have hw := below_then2 (Below.refl _ w) hb1
      clear hb1
      go_wp2_with fail
      go_ret
      exact ⟨ret_bool (by rw [Expr.eqv_eq, decide_eq_true HK.out, decide_eq_true HNN.out, decide_eq_false (p := e.sameRat f) HR.out]; rfl), hw⟩
    have hrb : decide (e.neg = f.neg ∧ e.num = f.num ∧ e.den = f.den) = true := decide_eq_true hr
    have HR := Lib.hid hr
    clear hr
    by_cases hlen : e.args.length = f.args.length
    case neg =>
      have hlb : ((e.args.length : Int) == (f.args.length : Int)) = false := by rw [beq_eq_false_iff_ne]; omega
      have HL := Lib.hid hlen
      clear hlen
      go_enter Try.func21, Try.ntmps21
      go_wp2_with fail
      refine (sameRat16_any e.neg f.neg e.num f.num e.den f.den na na' da da' nc nc' dc dc' _ (HN.out.1.ext (ext_alloc2 _ _ _)) (HN.out.2.2.1.ext (ext_alloc2 _ _ _)) (HN.out.2.1.ext (ext_alloc2 _ _ _)) (HN.out.2.2.2.ext (ext_alloc2 _ _ _))).mono ?_
      rintro r w1 ⟨rfl, hb1⟩
      rw [hrb]
      have hw := below_then2 (Below.refl _ w) hb1
      have k0 := hb1.cell (p := ⟨w.heap.size, 5, none⟩) (by simp; omega)
      have k1 := hb1.cell (p := ⟨w.heap.size + 1, 5, none⟩) (by simp)
      simp at k0 k1
      clear hb1
      go_wp2_with fail
      go_ret
      exact ⟨ret_bool (by rw [Expr.eqv_eq, decide_eq_true HK.out, decide_eq_true HNN.out, decide_eq_true (p := e.sameRat f) HR.out, decide_eq_false HL.out]; rfl), hw⟩
    have hlb : ((e.args.length : Int) == (f.args.length : Int)) = true := by rw [beq_iff_eq]; omega
    have hlb' : ((e.args.length : Int) != (f.args.length : Int)) = false := by rw [bne, hlb]; rfl
    have HL := Lib.hid hlen
    clear hlen
    go_enter Try.func21, Try.ntmps21
    go_wp2_with fail
    refine (sameRat16_any e.neg f.neg e.num f.num e.den f.den na na' da da' nc nc' dc dc' _ (HN.out.1.ext (ext_alloc2 _ _ _)) (HN.out.2.2.1.ext (ext_alloc2 _ _ _)) (HN.out.2.1.ext (ext_alloc2 _ _ _)) (HN.out.2.2.2.ext (ext_alloc2 _ _ _))).mono ?_
    rintro r w1 ⟨rfl, hb1⟩
    rw [hrb]
    have hw := below_then2 (Below.refl _ w) hb1
    have k0 := hb1.cell (p := ⟨w.heap.size, 5, none⟩) (by simp; omega)
    have k1 := hb1.cell (p := ⟨w.heap.size + 1, 5, none⟩) (by simp)
    simp at k0 k1
    clear hb1
    go_wp2_with fail
    have hgoal : e.eqv f = Expr.eqvs e.args f.args := by
      rw [Expr.eqv_eq, decide_eq_true HK.out, decide_eq_true HNN.out, decide_eq_true (p := e.sameRat f) HR.out, decide_eq_true HL.out]; rfl
    have HG := Lib.hid hgoal
    clear hgoal
    go_loopw [38] (fun i wr => ∃ k : Nat, k ≤ e.args.length ∧ i = .int .i64 k ∧ Below w.heap.size w wr ∧ wr.cell? ⟨w.heap.size, 5, none⟩ = some (.slice aa e.args.length ac) ∧ wr.cell? ⟨w.heap.size + 1, 5, none⟩ = some (.slice aa' f.args.length ac') ∧
      Hid (Expr.eqvs (e.args.take k) (f.args.take k) = true)) (fun i _ => e.args.length - (intOf i).toNat)
    case atStart => exact ⟨0, by omega, rfl, hw, k0, k1, by simp [Hid, Expr.eqvs]⟩
    case round =>
      obtain ⟨k, hk, rfl, hb, g0, g1, hp⟩ := hrel
      clear hw k0 k1
      by_cases hlt : k < e.args.length
      · obtain ⟨x, hx⟩ := get_of_lt hlt
        obtain ⟨y, hy⟩ := get_of_lt (xs := f.args) (k := k) (by have := HL.out; omega)
        have hky : (k : Int) < (f.args.length : Int) := by have := HL.out; omega
        obtain ⟨b, off, rfl, hE⟩ := HX.out.2.2 k x hx
        obtain ⟨b', off', rfl, hE'⟩ := HX'.out.2.2 k y hy
        obtain ⟨ma, mc, ea, ec, ba, bc, ⟨q0, q1, q2, q3, q4, q5, q6⟩, hr⟩ := hE.ext (Ext.below hb)
        obtain ⟨ma', mc', ea', ec', ba', bc', ⟨q0', q1', q2', q3', q4', q5', q6'⟩, hr'⟩ := hE'.ext (Ext.below hb)
        replace q0 := held q0; replace q1 := held q1; replace q2 := held q2; replace q3 := held q3; replace q4 := held q4; replace q5 := held q5; replace q6 := held q6
        replace q0' := held q0'; replace q1' := held q1'; replace q2' := held q2'; replace q3' := held q3'; replace q4' := held q4'; replace q5' := held q5'; replace q6' := held q6'
        have G0 := held g0
        have G1 := held g1
        have HXX := Lib.hid hx
        have HYY := Lib.hid hy
        have s0 : Below wr.heap.size wr wr.drew := (Below.refl _ _).drew
        clear hx hy hE hE' g0 g1
        go_wp2_with fail
        refine wp_region_mix (S := Below wr.heap.size wr) [(0, .q), (1, .q), (2, .q), (3, .q), (4, .q), (5, .q), (6, .q), (7, .q), (8, .q), (9, .q), (10, .l), (11, .q)] (by kernel_rfl) (by kernel_rfl) (by kernel_rfl) (fun d _ _ _ _ h => by cases d <;> exact h) (s0) ?_
        iterate 10 (refine wpMix_q rfl rfl (fun K hK => ?_); apply Exists.intro; refine ⟨fun w' hw' => ?_, ?_⟩; (focus (go_simp; try rfl)); go_simp; refine hK _ _ ?_; clear hK K)
        by_cases hxy : x.eqv y = true
        · have IHX := IH.out x y ma mc ea ec ba bc ma' mc' ea' ec' ba' bc' wr.drew (hr.ext (Ext.below s0)) (hr'.ext (Ext.below s0))
          rw [hxy] at IHX
          have HXY := Lib.hid hxy
          clear hxy
          refine wpMix_l rfl rfl (fun K hK => ?_)
          go_simp
          refine (IHX).mono ?_
          rintro r w2 ⟨rfl, hb2⟩
          dsimp only
          refine hK.out _ _ (below_then s0 hb2) (fun _ => ?_)
          clear hK K
          have s1 := below_then s0 hb2
          have j0 := G0 w2 s1
          have j1 := G1 w2 s1
          iterate 1 (refine wpMix_q rfl rfl (fun K hK => ?_); apply Exists.intro; refine ⟨fun w' hw' => ?_, ?_⟩; (focus (go_simp; try rfl)); go_simp; refine hK _ _ ?_; clear hK K)
          refine wpMix_nil ?_
          clear IHX
          go_wp2
          refine ⟨⟨k + 1, by omega, by go_num, below_then hb s1, j0, j1, ?_⟩, by simp [intOf]; omega⟩
          have e1 := eqvs_snoc _ _ k x y HXX.out HYY.out
          rw [hp.out, HXY.out] at e1
          exact e1
        · have hxf : x.eqv y = false := by simpa using hxy
          clear hxy
          have IHX := IH.out x y ma mc ea ec ba bc ma' mc' ea' ec' ba' bc' wr.drew (hr.ext (Ext.below s0)) (hr'.ext (Ext.below s0))
          rw [hxf] at IHX
          have HXY := Lib.hid hxf
          clear hxf
          refine wpMix_l rfl rfl (fun K hK => ?_)
          go_simp
          refine (IHX).mono ?_
          rintro r w2 ⟨rfl, hb2⟩
          dsimp only
          refine hK.out _ _ (below_then s0 hb2) (fun _ => ?_)
          clear hK K
          have s1 := below_then s0 hb2
          iterate 1 (refine wpMix_q rfl rfl (fun K hK => ?_); apply Exists.intro; refine ⟨fun w' hw' => ?_, ?_⟩; (focus (go_simp; try rfl)); go_simp; refine hK _ _ ?_; clear hK K)
          refine wpMix_nil ?_
          clear IHX
          go_wp2
          go_ret
          exact ⟨ret_bool (by rw [HG.out, eqvs_false _ _ k x y HXX.out HYY.out HXY.out]), below_then hb s1⟩
      · go_wp2_with fail
        go_ret
        refine ⟨ret_bool ?_, hb⟩
        have := hp.out
        rw [take_all hlt, take_all (by have := HL.out; omega)] at this
        rw [HG.out, this]

end Go.Proofs.Ytmlldjcbijoheaa

/- Walks: the reference's comparisons with positions, of two places that read as the same expression or program. -/
namespace Go.Proofs.Ytmlldjcbijoheaa
open Go.RowKit

set_option maxRecDepth 100000 in
set_option maxHeartbeats 4000000 in
theorem sameExpr17_any (d : Nat) : ∀ (e : Expr) (na : Option Addr) (nc : Nat) (da : Option Addr) (dc : Nat) (aa : Option Addr) (ac : Nat) (na' : Option Addr) (nc' : Nat) (da' : Option Addr) (dc' : Nat) (aa' : Option Addr) (ac' : Nat) (w : World),
    ExprR d w na nc da dc aa ac e → ExprR d w na' nc' da' dc' aa' ac' e →
    Calls Try.prog 76 #[e.val na nc da dc aa ac, e.val na' nc' da' dc' aa' ac'] w fun r w' => r = .returned (.bool true) ∧ Below w.heap.size w w' := by
  induction d with
  | zero => intro e na nc da dc aa ac na' nc' da' dc' aa' ac' w h; exact h.elim
  | succ d ih =>
    intro e na nc da dc aa ac na' nc' da' dc' aa' ac' w h h'
    have CE := fun W (hW : Below w.heap.size w W) => equalExprR_any (d + 1) e e na nc da dc aa ac na' nc' da' dc' aa' ac' W (h.ext (Ext.below hW)) (h'.ext (Ext.below hW))
    simp only [eqv_refl] at CE
    obtain ⟨-, -, -, n1, n2, hx⟩ := h.of_succ
    obtain ⟨-, -, -, n1', n2', hx'⟩ := h'.of_succ
    have IH := Lib.hid ih
    have HX := Lib.hid hx
    have HX' := Lib.hid hx'
    have hl := hx.len
    clear ih hx hx' n1 n2 n1' n2' h h'
    unfold Expr.val at CE ⊢
    replace CE := Lib.hid CE
    have hz := (Blk.new w 40 #[.int .i64 e.kind, .string e.name, .bool e.neg, .slice na e.num.length nc, .slice da e.den.length dc, .slice aa e.args.length ac, .int .i64 e.pos]).alloc (.cells #[.int .i64 e.kind, .string e.name, .bool e.neg, .slice na' e.num.length nc', .slice da' e.den.length dc', .slice aa' e.args.length ac', .int .i64 e.pos] 40)
    have hy := blk_at1 w (.cells #[.int .i64 e.kind, .string e.name, .bool e.neg, .slice na e.num.length nc, .slice da e.den.length dc, .slice aa e.args.length ac, .int .i64 e.pos] 40) 40 #[.int .i64 e.kind, .string e.name, .bool e.neg, .slice na' e.num.length nc', .slice da' e.den.length dc', .slice aa' e.args.length ac', .int .i64 e.pos]
    have hb0 : Below w.heap.size w ((w.alloc (.cells #[.int .i64 e.kind, .string e.name, .bool e.neg, .slice na e.num.length nc, .slice da e.den.length dc, .slice aa e.args.length ac, .int .i64 e.pos] 40)).alloc (.cells #[.int .i64 e.kind, .string e.name, .bool e.neg, .slice na' e.num.length nc', .slice da' e.den.length dc', .slice aa' e.args.length ac', .int .i64 e.pos] 40)) := by go_grown
    go_enter Try.func76, Try.ntmps76
    go_wp2_with fail
    revert hz hy hb0
    generalize (w.alloc (.cells #[.int .i64 e.kind, .string e.name, .bool e.neg, .slice na e.num.length nc, .slice da e.den.length dc, .slice aa e.args.length ac, .int .i64 e.pos] 40)).alloc (.cells #[.int .i64 e.kind, .string e.name, .bool e.neg, .slice na' e.num.length nc', .slice da' e.den.length dc', .slice aa' e.args.length ac', .int .i64 e.pos] 40) = w0
    intro hz hy hb0
    refine (CE.out _ hb0).mono ?_
    rintro r w1 ⟨rfl, hb1⟩
    have hw1 := below_then hb0 hb1
    have k0 := (hz.below' hb1).cell 5
    have k1 := (hy.below' hb1).cell 5
    clear hz hy hb0 hb1
    simp only [List.getElem?_toArray, List.getElem?_cons_zero, List.getElem?_cons_succ] at k0 k1
    go_wp2_with fail
    go_loopw [20] (fun i wr => ∃ k : Nat, k ≤ e.args.length ∧ i = .int .i64 k ∧ Below w.heap.size w wr ∧ wr.cell? ⟨w.heap.size, 5, none⟩ = some (.slice aa e.args.length ac) ∧ wr.cell? ⟨w.heap.size + 1, 5, none⟩ = some (.slice aa' e.args.length ac')) (fun i _ => e.args.length - (intOf i).toNat)
    case atStart => exact ⟨0, by omega, rfl, hw1, k0, k1⟩
    case round =>
      obtain ⟨k, hk, rfl, hb, g0, g1⟩ := hrel
      clear hw1 k0 k1
      by_cases hlt : k < e.args.length
      · obtain ⟨x, hx⟩ := get_of_lt hlt
        obtain ⟨b, off, rfl, hE⟩ := HX.out.2.2 k x hx
        obtain ⟨b', off', rfl, hE'⟩ := HX'.out.2.2 k x hx
        obtain ⟨ma, mc, ea, ec, ba, bc, ⟨q0, q1, q2, q3, q4, q5, q6⟩, hr⟩ := hE.ext (Ext.below hb)
        obtain ⟨ma', mc', ea', ec', ba', bc', ⟨q0', q1', q2', q3', q4', q5', q6'⟩, hr'⟩ := hE'.ext (Ext.below hb)
        replace q0 := held q0; replace q1 := held q1; replace q2 := held q2; replace q3 := held q3; replace q4 := held q4; replace q5 := held q5; replace q6 := held q6
        replace q0' := held q0'; replace q1' := held q1'; replace q2' := held q2'; replace q3' := held q3'; replace q4' := held q4'; replace q5' := held q5'; replace q6' := held q6'
        have G0 := held g0
        have G1 := held g1
        have s0 : Below wr.heap.size wr wr.drew := (Below.refl _ _).drew
        have IHX := IH.out x ma mc ea ec ba bc ma' mc' ea' ec' ba' bc' wr.drew (hr.ext (Ext.below s0)) (hr'.ext (Ext.below s0))
        unfold Expr.val at IHX
        replace IHX := Lib.hid IHX
        clear hx hE hE' hr hr'
        go_wp2_with fail
        refine wp_region_mix (S := Below wr.heap.size wr) [(0, .q), (1, .q), (2, .q), (3, .q), (4, .q), (5, .q), (6, .q), (7, .q), (8, .q), (9, .q), (10, .l), (11, .q)] (by kernel_rfl) (by kernel_rfl) (by kernel_rfl) (fun d _ _ _ _ h => by cases d <;> exact h) (s0) ?_
        iterate 10 (refine wpMix_q rfl rfl (fun K hK => ?_); apply Exists.intro; refine ⟨fun w' hw' => ?_, ?_⟩; (focus (go_simp; try rfl)); go_simp; refine hK _ _ ?_; clear hK K)
        refine wpMix_l rfl rfl (fun K hK => ?_)
        go_simp
        refine (IHX.out).mono ?_
        rintro r w2 ⟨rfl, hb2⟩
        dsimp only
        refine hK.out _ _ (below_then s0 hb2) (fun _ => ?_)
        clear hK K
        have s1 := below_then s0 hb2
        have j0 := G0 w2 s1
        have j1 := G1 w2 s1
        iterate 1 (refine wpMix_q rfl rfl (fun K hK => ?_); apply Exists.intro; refine ⟨fun w' hw' => ?_, ?_⟩; (focus (go_simp; try rfl)); go_simp; refine hK _ _ ?_; clear hK K)
        refine wpMix_nil ?_
        clear IHX
        go_wp2
        exact ⟨⟨k + 1, by omega, by go_num, below_then hb s1, j0, j1⟩, by simp [intOf]; omega⟩
      · go_wp2_with fail
        go_ret
        exact ⟨rfl, hb⟩
end Go.Proofs.Ytmlldjcbijoheaa

/- Walks: the reference's comparisons of two places that read as the same program. -/
namespace Go.Proofs.Ytmlldjcbijoheaa
open Go.RowKit

set_option maxRecDepth 100000 in
set_option maxHeartbeats 4000000 in
theorem equal16_same (d : Nat) (l : List Stmt) (a : Option Addr) (c : Nat) (a' : Option Addr) (c' : Nat) (w : World) (h : StmtsR d w a c l) (h' : StmtsR d w a' c' l) :
    Calls Try.prog 75 #[progVal l.length a c, progVal l.length a' c'] w fun r w' => r = .returned (.bool true) ∧ Below w.heap.size w w' := by
  have H := Lib.hid h
  have H' := Lib.hid h'
  have hll := h.len
  unfold progVal
  clear h h'
  have hz := (Blk.new w 52 #[.slice a l.length c]).alloc (.cells #[.slice a' l.length c'] 52)
  have hy := blk_at1 w (.cells #[.slice a l.length c] 52) 52 #[.slice a' l.length c']
  have hb0 : Below w.heap.size w ((w.alloc (.cells #[.slice a l.length c] 52)).alloc (.cells #[.slice a' l.length c'] 52)) := by go_grown
  go_enter Try.func75, Try.ntmps75
  go_wp2
  revert hz hy hb0
  generalize (w.alloc (.cells #[.slice a l.length c] 52)).alloc (.cells #[.slice a' l.length c'] 52) = w0
  intro hz hy hb0
  go_loopw [19] (fun i wr => ∃ k : Nat, k ≤ l.length ∧ i = .int .i64 k ∧ Below w.heap.size w wr ∧ Blk wr w.heap.size 52 #[.slice a l.length c] ∧ Blk wr (w.heap.size + 1) 52 #[.slice a' l.length c']) (fun i _ => l.length - (intOf i).toNat)
  case atStart => exact ⟨0, by omega, rfl, hb0, hz, hy⟩
  case round =>
    clear hz hy hb0
    obtain ⟨k, hk, rfl, hb, hz, hy⟩ := hrel
    have z0 := hz.cell 0
    have y0 := hy.cell 0
    have hzl := hz.lt
    have hyl := hy.lt
    have hzl2 : w.heap.size < wr.heap.size + 1 := by omega
    have hyl2 : w.heap.size + 1 < wr.heap.size + 1 := by omega
    by_cases hlt : k < l.length
    · obtain ⟨x, hx⟩ := get_of_lt hlt
      obtain ⟨b, off, rfl, hE⟩ := H.out.2.2 k x hx
      obtain ⟨b', off', rfl, hE'⟩ := H'.out.2.2 k x hx
      obtain ⟨p, ⟨c0, c1, c2, c3, c4, c5, c6, c7, c8, c9⟩, hr⟩ := hE.ext (Ext.below hb)
      obtain ⟨q, ⟨e0, e1, e2, e3, e4, e5, e6, e7, e8, e9⟩, hr'⟩ := hE'.ext (Ext.below hb)
      have hbz : Below wr.heap.size wr ((wr.alloc (.cells #[.int .i64 x.kind, .slice p.sa x.names.length p.sc, .int .i64 x.expr.kind, .string x.expr.name, .bool x.expr.neg, .slice p.na x.expr.num.length p.nc, .slice p.da x.expr.den.length p.dc, .slice p.aa x.expr.args.length p.ac, .int .i64 x.expr.pos, .int .i64 x.pos] 49)).alloc (.cells #[.int .i64 x.kind, .slice q.sa x.names.length q.sc, .int .i64 x.expr.kind, .string x.expr.name, .bool x.expr.neg, .slice q.na x.expr.num.length q.nc, .slice q.da x.expr.den.length q.dc, .slice q.aa x.expr.args.length q.ac, .int .i64 x.expr.pos, .int .i64 x.pos] 49)) := by go_grown
      have hxz := (Blk.new wr 49 #[.int .i64 x.kind, .slice p.sa x.names.length p.sc, .int .i64 x.expr.kind, .string x.expr.name, .bool x.expr.neg, .slice p.na x.expr.num.length p.nc, .slice p.da x.expr.den.length p.dc, .slice p.aa x.expr.args.length p.ac, .int .i64 x.expr.pos, .int .i64 x.pos]).alloc (.cells #[.int .i64 x.kind, .slice q.sa x.names.length q.sc, .int .i64 x.expr.kind, .string x.expr.name, .bool x.expr.neg, .slice q.na x.expr.num.length q.nc, .slice q.da x.expr.den.length q.dc, .slice q.aa x.expr.args.length q.ac, .int .i64 x.expr.pos, .int .i64 x.pos] 49)
      have hxy := blk_at1 wr (.cells #[.int .i64 x.kind, .slice p.sa x.names.length p.sc, .int .i64 x.expr.kind, .string x.expr.name, .bool x.expr.neg, .slice p.na x.expr.num.length p.nc, .slice p.da x.expr.den.length p.dc, .slice p.aa x.expr.args.length p.ac, .int .i64 x.expr.pos, .int .i64 x.pos] 49) 49 #[.int .i64 x.kind, .slice q.sa x.names.length q.sc, .int .i64 x.expr.kind, .string x.expr.name, .bool x.expr.neg, .slice q.na x.expr.num.length q.nc, .slice q.da x.expr.den.length q.dc, .slice q.aa x.expr.args.length q.ac, .int .i64 x.expr.pos, .int .i64 x.pos]
      have g0 : b < wr.heap.size := World.block_lt_of_cell? _ _ c0
      have g1 : b' < wr.heap.size := World.block_lt_of_cell? _ _ e0
      have g2 : b' < wr.heap.size + 1 := by omega
      have CE := fun W (hW : Below wr.heap.size wr W) => equalExprR_any d x.expr x.expr p.na p.nc p.da p.dc p.aa p.ac q.na q.nc q.da q.dc q.aa q.ac W (hr.expr.ext (Ext.below hW)) (hr'.expr.ext (Ext.below hW))
      simp only [eqv_refl] at CE
      unfold Expr.val at CE
      replace CE := Lib.hid CE
      have HN := Lib.hid hr.names
      have HN' := Lib.hid hr'.names
      have hnl := hr.names.len
      clear hx hE hE' hr hr'
      go_wp2_with fail
      revert hbz hxz hxy
      generalize (wr.alloc (.cells #[.int .i64 x.kind, .slice p.sa x.names.length p.sc, .int .i64 x.expr.kind, .string x.expr.name, .bool x.expr.neg, .slice p.na x.expr.num.length p.nc, .slice p.da x.expr.den.length p.dc, .slice p.aa x.expr.args.length p.ac, .int .i64 x.expr.pos, .int .i64 x.pos] 49)).alloc (.cells #[.int .i64 x.kind, .slice q.sa x.names.length q.sc, .int .i64 x.expr.kind, .string x.expr.name, .bool x.expr.neg, .slice q.na x.expr.num.length q.nc, .slice q.da x.expr.den.length q.dc, .slice q.aa x.expr.args.length q.ac, .int .i64 x.expr.pos, .int .i64 x.pos] 49) = wz
      intro hbz hxz hxy
      refine (CE.out _ hbz).mono ?_
      rintro r w1 ⟨rfl, hb1⟩
      have hbr1 := below_then hbz hb1
      have k0 := (hxz.below' hb1).cell 1
      have k1 := (hxy.below' hb1).cell 1
      simp only [List.getElem?_toArray, List.getElem?_cons_zero, List.getElem?_cons_succ] at k0 k1
      clear c0 c1 c2 c3 c4 c5 c6 c7 c8 c9 e0 e1 e2 e3 e4 e5 e6 e7 e8 e9 hbz hxz hxy hb1 g0 g1 g2 z0 y0
      go_wp2_with fail
      obtain ⟨wq, rfl⟩ : ∃ q : World, q = wr := ⟨_, rfl⟩
      go_loopw [54] (fun i wr => ∃ j : Nat, j ≤ x.names.length ∧ i = .int .i64 j ∧ Below wq.heap.size wq wr ∧ wr.cell? ⟨wq.heap.size, 1, none⟩ = some (.slice p.sa x.names.length p.sc) ∧ wr.cell? ⟨wq.heap.size + 1, 1, none⟩ = some (.slice q.sa x.names.length q.sc)) (fun i _ => x.names.length - (intOf i).toNat)
      case atStart => exact ⟨0, by omega, rfl, hbr1, k0, k1⟩
      case round =>
        clear hbr1 k0 k1
        obtain ⟨j, hj, rfl, hbj, j0, j1⟩ := hrel
        by_cases hjl : j < x.names.length
        · obtain ⟨n, hn⟩ := get_of_lt hjl
          obtain ⟨ba, oa, hpa, hca⟩ := HN.out.2.2 j n hn
          obtain ⟨bb, ob, hpb, hcb⟩ := HN'.out.2.2 j n hn
          rw [hpa] at j0
          rw [hpb] at j1
          have u0 : wr.cell? ⟨ba, oa + j, none⟩ = some (.string n) := by have := hca.ext (Ext.below hbj); simpa [StrE] using this
          have u1 : wr.cell? ⟨bb, ob + j, none⟩ = some (.string n) := by have := hcb.ext (Ext.below hbj); simpa [StrE] using this
          have HPA := Lib.hid hpa
          have HPB := Lib.hid hpb
          have hne : (n.toList != n.toList) = false := by simp
          clear hn hca hcb hpa hpb
          go_wp2
          go_quiet (fail)
          go_wp2
          refine ⟨⟨j + 1, by omega, by go_num, below_drewN hbj _, by rw [HPA.out]; simpa using j0, by rw [HPB.out]; simpa using j1⟩, by simp [intOf]; omega⟩
        · go_wp2
          refine ⟨⟨k + 1, by omega, by go_num, below_then hb hbj, hz.below' hbj, hy.below' hbj⟩, by simp [intOf]; omega⟩
    · go_wp2_with fail
      go_ret
      exact ⟨rfl, hb⟩

set_option maxRecDepth 100000 in
set_option maxHeartbeats 4000000 in
theorem same17_any (d : Nat) (l : List Stmt) (a : Option Addr) (c : Nat) (a' : Option Addr) (c' : Nat) (w : World) (h : StmtsR d w a c l) (h' : StmtsR d w a' c' l) :
    Calls Try.prog 35 #[progVal l.length a c, progVal l.length a' c'] w fun r w' => r = .returned (.bool true) ∧ Below w.heap.size w w' := by
  have CE := fun W (hW : Below w.heap.size w W) => equal16_same d l a c a' c' W (h.ext (Ext.below hW)) (h'.ext (Ext.below hW))
  have H := Lib.hid h
  have H' := Lib.hid h'
  have hll := h.len
  unfold progVal at CE ⊢
  replace CE := Lib.hid CE
  clear h h'
  have hz := (Blk.new w 52 #[.slice a l.length c]).alloc (.cells #[.slice a' l.length c'] 52)
  have hy := blk_at1 w (.cells #[.slice a l.length c] 52) 52 #[.slice a' l.length c']
  have hb0 : Below w.heap.size w ((w.alloc (.cells #[.slice a l.length c] 52)).alloc (.cells #[.slice a' l.length c'] 52)) := by go_grown
  go_enter Try.func35, Try.ntmps35
  go_wp2_with fail
  revert hz hy hb0
  generalize (w.alloc (.cells #[.slice a l.length c] 52)).alloc (.cells #[.slice a' l.length c'] 52) = w0
  intro hz hy hb0
  refine (CE.out _ hb0).mono ?_
  rintro r w1 ⟨rfl, hb1⟩
  have hw1 := below_then hb0 hb1
  have hz1 := hz.below' hb1
  have hy1 := hy.below' hb1
  have z0 := hz1.cell 0
  clear hz hy hb0 hb1
  simp only [List.getElem?_toArray, List.getElem?_cons_zero, List.getElem?_cons_succ] at z0
  go_wp2_with fail
  go_loopw [13] (fun i wr => ∃ k : Nat, k ≤ l.length ∧ i = .int .i64 k ∧ Below w.heap.size w wr ∧ Blk wr w.heap.size 52 #[.slice a l.length c] ∧ Blk wr (w.heap.size + 1) 52 #[.slice a' l.length c']) (fun i _ => l.length - (intOf i).toNat)
  case atStart => exact ⟨0, by omega, rfl, hw1, hz1, hy1⟩
  case round =>
    clear hz1 hy1 hw1 z0
    obtain ⟨k, hk, rfl, hb, hz, hy⟩ := hrel
    by_cases hlt : k < l.length
    · obtain ⟨x, hx⟩ := get_of_lt hlt
      obtain ⟨b, off, rfl, hE⟩ := H.out.2.2 k x hx
      obtain ⟨b', off', rfl, hE'⟩ := H'.out.2.2 k x hx
      obtain ⟨p, ⟨c0, c1, c2, c3, c4, c5, c6, c7, c8, c9⟩, hr⟩ := hE.ext (Ext.below hb)
      obtain ⟨q, ⟨e0, e1, e2, e3, e4, e5, e6, e7, e8, e9⟩, hr'⟩ := hE'.ext (Ext.below hb)
      have z0 := held (hz.cell 0)
      have y0 := held (hy.cell 0)
      have s0 : Below wr.heap.size wr wr.drew := (Below.refl _ _).drew
      have CX := sameExpr17_any d x.expr p.na p.nc p.da p.dc p.aa p.ac q.na q.nc q.da q.dc q.aa q.ac wr.drew (hr.expr.ext (Ext.below s0)) (hr'.expr.ext (Ext.below s0))
      unfold Expr.val at CX
      replace CX := Lib.hid CX
      replace c2 := held c2; replace c3 := held c3; replace c4 := held c4; replace c5 := held c5; replace c6 := held c6; replace c7 := held c7; replace c8 := held c8; replace c9 := held c9
      replace e2 := held e2; replace e3 := held e3; replace e4 := held e4; replace e5 := held e5; replace e6 := held e6; replace e7 := held e7; replace e8 := held e8; replace e9 := held e9
      have hpb : (x.pos != x.pos) = false := by simp
      clear hx hE hE' hr hr' c0 c1 e0 e1
      go_wp2_with fail
      refine wp_region_mix (S := Below wr.heap.size wr) [(0, .q), (1, .q), (2, .q), (3, .q), (4, .q), (5, .q), (6, .q), (7, .q), (8, .q), (9, .q), (10, .q), (11, .q), (12, .q), (13, .q), (14, .q), (15, .q), (16, .q), (17, .q), (18, .q), (19, .q), (20, .q), (21, .q), (22, .q), (23, .q), (24, .q), (25, .q), (26, .t), (27, .p), (28, .p)] (by kernel_rfl) (by kernel_rfl) (by kernel_rfl) (fun d _ _ _ _ h => by cases d <;> exact h) (s0) ?_
      iterate 26 (refine wpMix_q rfl rfl (fun K hK => ?_); apply Exists.intro; refine ⟨fun w' hw' => ?_, ?_⟩; (focus (go_simp; try rfl)); go_simp; refine hK _ _ ?_; clear hK K)
      refine wpMix_t rfl rfl (fun K hK => ?_)
      go_simp
      refine (CX.out).mono ?_
      rintro r w2 ⟨rfl, hb2⟩
      dsimp only
      refine hK.out _ _ ?_
      clear hK K
      iterate 2 (refine wpMix_p rfl rfl (fun K hK => ?_); apply Exists.intro; refine ⟨fun w' => ?_, ?_⟩; (focus (go_simp; try rfl)); go_simp; refine hK _ _ ?_; clear hK K)
      refine wpMix_nil ?_
      have s1 := below_then s0 hb2
      go_wp2
      exact ⟨⟨k + 1, by omega, by go_num, below_then hb s1, hz.below' s1, hy.below' s1⟩, by simp [intOf]; omega⟩
    · go_wp2_with fail
      go_ret
      exact ⟨rfl, hb⟩
end Go.Proofs.Ytmlldjcbijoheaa
