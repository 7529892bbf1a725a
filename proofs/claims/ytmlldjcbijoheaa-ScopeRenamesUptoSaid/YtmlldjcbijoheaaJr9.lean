/- Walk: whether a string is a name, by the reference. -/
import Derived.Test.YtmlldjcbijoheaaJr7
import Derived.Test.YtmlldjcbijoheaaJr8
import Derived.Test.YtmlldjcbijoheaaRows
import Derived.Test.YtmlldjcbijoheaaJr2
import Derived.Test.YtmlldjcbijoheaaJr3
import Derived.Deep.LoopGhost

/- Walks: small questions about kinds and sorts, by the reference. -/
namespace Go.Proofs.Ytmlldjcbijoheaa
open Go.RowKit

set_option maxHeartbeats 1000000 in
theorem hasRatio16_any (k : Int) (w : World) : Calls Try.prog 137 #[.int .i64 k] w fun e w' => e = .returned (.bool (hasRatioB k)) ∧ w = w' := by
  by_cases h1 : k = 11
  · subst h1
    go_enter Try.func137, Try.ntmps137
    go_wp2
    go_ret
    exact ⟨ret_bool (by decide), rfl⟩
  · by_cases h2 : k = 68
    · subst h2
      go_enter Try.func137, Try.ntmps137
      go_wp2
      go_ret
      exact ⟨ret_bool (by decide), rfl⟩
    · have e1 := eqb_false h1
      have e2 := eqb_false h2
      have hr : hasRatioB k = false := by unfold hasRatioB; exact decide_eq_false (by omega)
      rw [hr]
      clear hr h1 h2
      go_enter Try.func137, Try.ntmps137
      go_wp2
      go_ret
      exact ⟨rfl, rfl⟩
set_option maxHeartbeats 1000000 in
theorem stmtSort16_any (k : Int) (w : World) : Calls Try.prog 120 #[.int .i64 k] w fun e w' => e = .returned (.int .i64 (stmtSort k)) ∧ w = w' := by
  by_cases hk : 2 ≤ k ∧ k ≤ 5
  · have hc : k = 2 ∨ k = 3 ∨ k = 4 ∨ k = 5 := by omega
    clear hk
    rcases hc with rfl | rfl | rfl | rfl
    all_goals
      go_enter Try.func120, Try.ntmps120
      go_wp2
      go_ret
      exact ⟨ret_int (by decide), rfl⟩
  · have h2 := eqb_false (a := k) (b := 2) (by omega); have h3 := eqb_false (a := k) (b := 3) (by omega)
    have h4 := eqb_false (a := k) (b := 4) (by omega); have h5 := eqb_false (a := k) (b := 5) (by omega)
    have hr : stmtSort k = 0 := by unfold stmtSort; rw [if_neg (by omega), if_neg (by omega), if_neg (by omega), if_neg (by omega)]
    rw [hr]
    clear hr hk
    go_enter Try.func120, Try.ntmps120
    go_wp2
    go_ret
    exact ⟨rfl, rfl⟩
set_option maxHeartbeats 1000000 in
theorem sortOf19_any (k : Int) (w : World) : Calls Try.prog 78 #[.int .i64 k] w fun e w' => e = .returned (.int .i64 (sortOf k)) ∧ w = w' := by
  by_cases hk : 1 ≤ k ∧ k ≤ 4
  · have hc : k = 1 ∨ k = 2 ∨ k = 3 ∨ k = 4 := by omega
    clear hk
    rcases hc with rfl | rfl | rfl | rfl
    all_goals
      go_enter Try.func78, Try.ntmps78
      go_wp2
      go_ret
      exact ⟨ret_int (by decide), rfl⟩
  · have h2 := eqb_false (a := k) (b := 2) (by omega); have h3 := eqb_false (a := k) (b := 3) (by omega)
    have h4 := eqb_false (a := k) (b := 4) (by omega); have h1 := eqb_false (a := k) (b := 1) (by omega)
    have hr : sortOf k = 0 := by unfold sortOf; rw [if_neg (by omega), if_neg (by omega), if_neg (by omega)]
    rw [hr]
    clear hr hk
    go_enter Try.func78, Try.ntmps78
    go_wp2
    go_ret
    exact ⟨rfl, rfl⟩

set_option maxHeartbeats 1000000 in
theorem none16_any (r : Rt) (na : Option Addr) (nc : Nat) (da : Option Addr) (dc : Nat) (w : World) (hl : r.num.length ≤ 2000000) (hm : r.den.length ≤ 2000000) :
    Calls Try.prog 132 #[r.val na nc da dc] w fun e w' => e = .returned (.bool r.none) ∧ Below w.heap.size w w' := by
  obtain ⟨neg, num, den⟩ := r
  unfold Rt.val Rt.none
  dsimp only at hl hm ⊢
  by_cases h1 : num.length = 0 <;> by_cases h2 : den.length = 0
  all_goals
    have e1 : ((num.length : Int) == 0) = decide (num.length = 0) := by rw [Bool.eq_iff_iff]; simp
    have e2 : ((den.length : Int) == 0) = decide (den.length = 0) := by rw [Bool.eq_iff_iff]; simp
    have d1 : decide (num.length = 0) = decide (num.length = 0) := rfl
    simp only [h1, h2, decide_true, decide_false] at e1 e2
    have HH : (decide (num.length = 0), decide (den.length = 0)) = (decide (num.length = 0), decide (den.length = 0)) := rfl
    simp only [h1, h2, decide_true, decide_false] at HH ⊢
    clear HH d1
    cases neg
    all_goals
      have H1 := Lib.hid h1
      have H2 := Lib.hid h2
      clear h1 h2
      go_enter Try.func132, Try.ntmps132
      go_wp2
      go_ret
      exact ⟨rfl, (Below.refl _ _).alloc (Nat.le_refl _) _⟩
set_option maxRecDepth 100000 in
set_option maxHeartbeats 1000000 in
/-- 'of' at a sort other than 0 -/
theorem of16_one (e : Expr) (s : Int) (na : Option Addr) (nc : Nat) (da : Option Addr) (dc : Nat) (aa : Option Addr) (ac : Nat) (w : World) (h0 : s ≠ 0) :
    Calls Try.prog 136 #[e.val na nc da dc aa ac, .int .i64 s] w fun r w' => r = .returned (.bool (sortB e.kind s)) ∧ Below w.heap.size w w' := by
  have CF := fun W => find16_any e.kind W
  have CS := fun W => sort16_any e.kind W
  obtain ⟨b, hb⟩ : ∃ b, sortB e.kind s = b := ⟨_, rfl⟩
  rw [hb]
  unfold sortB at hb
  revert CF CS hb
  generalize findRow e.kind = R
  intro CF CS hb
  have HB := Lib.hid hb
  replace CF := Lib.hid CF; replace CS := Lib.hid CS
  have hs := eqb_false h0
  unfold Expr.val
  have hz := Blk.new w 40 #[.int .i64 e.kind, .string e.name, .bool e.neg, .slice na e.num.length nc, .slice da e.den.length dc, .slice aa e.args.length ac, .int .i64 e.pos]
  have hb0 : Below w.heap.size w (w.alloc (.cells #[.int .i64 e.kind, .string e.name, .bool e.neg, .slice na e.num.length nc, .slice da e.den.length dc, .slice aa e.args.length ac, .int .i64 e.pos] 40)) := by go_grown
  clear hb h0
  by_cases hk : e.kind = 1
  · have hk1 : (e.kind == 1) = true := by simpa using hk
    have HK := Lib.hid hk
    clear hk hz
    by_cases h4 : s = 4
    · have e4 : (s != 4) = false := by simpa using h4
      have hbv : b = false := by rw [← HB.out, if_pos HK.out]; simp [h4]
      subst hbv
      clear h4
      go_enter Try.func136, Try.ntmps136
      go_wp2
      go_ret
      exact ⟨rfl, hb0⟩
    · have e4 : (s != 4) = true := by simpa using h4
      have hbv : b = true := by rw [← HB.out, if_pos HK.out]; simp [h4]
      subst hbv
      clear h4
      go_enter Try.func136, Try.ntmps136
      go_wp2
      go_ret
      exact ⟨rfl, hb0⟩
  · have hk1 := eqb_false hk
    have HB2 := HB.out
    rw [if_neg hk] at HB2
    replace HB2 := Lib.hid HB2
    clear hk HB
    go_enter Try.func136, Try.ntmps136
    go_wp2_with fail
    revert hz hb0
    generalize w.alloc (.cells _ _) = w0
    intro hz hb0
    refine (CF.out _).mono ?_
    rintro r w1 ⟨a, c, rfl, hi, hb1⟩
    unfold KRow.val
    have hfd := fun w => row_f0 R.kind R.sort R.word (.slice a R.params.length c) w
    have hw1 := below_then hb0 hb1
    have hz1 := hz.below' hb1
    have z0 := hz1.cell 0
    clear hi hb1 hb0 hz
    by_cases hr0 : R.kind = 0
    · have er : (R.kind != 0) = false := by simpa using hr0
      have hbv : b = false := by rw [← HB2.out]; simp [hr0]
      subst hbv
      clear hr0
      go_wp2
      go_ret
      exact ⟨rfl, hw1⟩
    · have er : (R.kind != 0) = true := by simpa using hr0
      have hbv : b = decide (R.sort = s) := by rw [← HB2.out]; simp [hr0]
      have HBV := Lib.hid hbv
      clear hr0 hbv
      go_wp2_with fail
      refine (CS.out _).mono ?_
      rintro r w2 ⟨rfl, hb2⟩
      have hw2 := below_then hw1 hb2
      go_wp2
      go_ret
      exact ⟨ret_bool (by rw [HBV.out]; rw [Bool.eq_iff_iff]; simp), hw2⟩
set_option maxRecDepth 100000 in
set_option maxHeartbeats 1000000 in
theorem of16_any (e : Expr) (s : Int) (na : Option Addr) (nc : Nat) (da : Option Addr) (dc : Nat) (aa : Option Addr) (ac : Nat) (w : World) :
    Calls Try.prog 136 #[e.val na nc da dc aa ac, .int .i64 s] w fun r w' => r = .returned (.bool (ofB e.kind s)) ∧ Below w.heap.size w w' := by
  unfold ofB
  by_cases h0 : s = 0
  · subst h0
    rw [if_pos rfl]
    have C2 := fun W => of16_one e 2 na nc da dc aa ac W (by omega)
    have C3 := fun W => of16_one e 3 na nc da dc aa ac W (by omega)
    revert C2 C3
    generalize sortB e.kind 2 = b2
    generalize sortB e.kind 3 = b3
    intro C2 C3
    unfold Expr.val at C2 C3 ⊢
    replace C2 := Lib.hid C2; replace C3 := Lib.hid C3
    have hz := Blk.new w 40 #[.int .i64 e.kind, .string e.name, .bool e.neg, .slice na e.num.length nc, .slice da e.den.length dc, .slice aa e.args.length ac, .int .i64 e.pos]
    have hb0 : Below w.heap.size w (w.alloc (.cells #[.int .i64 e.kind, .string e.name, .bool e.neg, .slice na e.num.length nc, .slice da e.den.length dc, .slice aa e.args.length ac, .int .i64 e.pos] 40)) := by go_grown
    cases b2
    · go_enter Try.func136, Try.ntmps136
      go_wp2_with fail
      revert hz hb0
      generalize w.alloc (.cells _ _) = w0
      intro hz hb0
      refine (C2.out _).mono ?_
      rintro r w1 ⟨rfl, hb1⟩
      have hw1 := below_then hb0 hb1
      have hz1 := hz.below' hb1
      have z0 := hz1.cell 0; have z1 := hz1.cell 1; have z2 := hz1.cell 2; have z3 := hz1.cell 3; have z4 := hz1.cell 4; have z5 := hz1.cell 5; have z6 := hz1.cell 6
      clear hb1 hb0 hz
      go_wp2_with fail
      refine (C3.out _).mono ?_
      rintro r w2 ⟨rfl, hb2⟩
      have hw2 := below_then hw1 hb2
      go_wp2
      go_ret
      exact ⟨ret_bool (by simp), hw2⟩
    · go_enter Try.func136, Try.ntmps136
      go_wp2_with fail
      refine (C2.out _).mono ?_
      rintro r w1 ⟨rfl, hb1⟩
      have hw1 := below_then hb0 hb1
      go_wp2
      go_ret
      exact ⟨rfl, hw1⟩
  · rw [if_neg h0]
    exact of16_one e s na nc da dc aa ac w h0
end Go.Proofs.Ytmlldjcbijoheaa

/- Walks: the measures of expressions. -/
namespace Go.Proofs.Ytmlldjcbijoheaa
open Go.RowKit

set_option maxHeartbeats 400000 in
theorem depth_any (d : Nat) : ∀ (e : Expr) (na : Option Addr) (nc : Nat) (da : Option Addr) (dc : Nat) (aa : Option Addr) (ac : Nat) (w : World), ExprR d w na nc da dc aa ac e → e.count ≤ 1048576 →
    Calls Try.prog 19 #[e.val na nc da dc aa ac] w fun r w' => r = .returned (.int .i64 (e.depth : Nat)) ∧ Below w.heap.size w w' := by
  induction d with
  | zero => intro e na nc da dc aa ac w h; exact h.elim
  | succ d ih =>
    intro e na nc da dc aa ac w h hc
    obtain ⟨-, -, -, -, -, hx⟩ := h.of_succ
    have IH := Lib.hid ih
    clear ih
    have HX := Lib.hid hx
    have hl := hx.len
    clear hx
    unfold Expr.val
    go_enter Try.func19, Try.ntmps19
    go_wp2
    go_loopw [3, 9] (fun m i wr => ∃ k : Nat, k ≤ e.args.length ∧ i = .int .i64 k ∧ m = .int .i64 (Expr.depths (e.args.take k) : Nat) ∧ Below w.heap.size w wr) (fun _ i _ => e.args.length - (intOf i).toNat)
    case atStart => exact ⟨0, by omega, rfl, by simp [Expr.depths], by go_grown⟩
    case round =>
      obtain ⟨k, hk, rfl, rfl, hb⟩ := hrel
      by_cases hlt : k < e.args.length
      · obtain ⟨x, hx⟩ := get_of_lt hlt
        obtain ⟨b, off, rfl, hE⟩ := HX.out.2.2 k x hx
        obtain ⟨na', nc', da', dc', aa', ac', ⟨c0, c1, c2, c3, c4, c5, c6⟩, hr⟩ := hE.ext (Ext.below hb)
        have hcx := count_arg (List.mem_of_getElem? hx)
        have HXX := Lib.hid hx
        clear hx
        go_wp2_with fail
        refine (IH.out x na' nc' da' dc' aa' ac' _ (hr.ext (ext_alloc _ _)) (by omega)).mono ?_
        rintro r w' ⟨rfl, hb'⟩
        go_wp2_with fail
        refine ⟨⟨k + 1, by omega, by go_num, val_int ?_, below_then1 hb hb'⟩, by simp [intOf]; omega⟩
        rw [take_more HXX.out, depths_append]
        simp only [Expr.depths]
        split <;> omega
      · have hT : Expr.depths (e.args.take k) + 1 ≤ 1048576 := by
          have := depth_le_count e
          rw [take_all hlt, ← Expr.depth_eq]; omega
        go_wp2_with fail
        go_ret
        refine ⟨ret_int ?_, hb⟩
        rw [Expr.depth_eq, take_all hlt]
        omega
set_option maxHeartbeats 400000 in
theorem depthR_any (d : Nat) : ∀ (e : Expr) (na : Option Addr) (nc : Nat) (da : Option Addr) (dc : Nat) (aa : Option Addr) (ac : Nat) (w : World), ExprR d w na nc da dc aa ac e → e.count ≤ 1048576 →
    Calls Try.prog 20 #[e.val na nc da dc aa ac] w fun r w' => r = .returned (.int .i64 (e.depth : Nat)) ∧ Below w.heap.size w w' := by
  induction d with
  | zero => intro e na nc da dc aa ac w h; exact h.elim
  | succ d ih =>
    intro e na nc da dc aa ac w h hc
    obtain ⟨-, -, -, -, -, hx⟩ := h.of_succ
    have IH := Lib.hid ih
    clear ih
    have HX := Lib.hid hx
    have hl := hx.len
    clear hx
    unfold Expr.val
    go_enter Try.func20, Try.ntmps20
    go_wp2
    go_loopw [3, 9] (fun m i wr => ∃ k : Nat, k ≤ e.args.length ∧ i = .int .i64 k ∧ m = .int .i64 (Expr.depths (e.args.take k) : Nat) ∧ Below w.heap.size w wr) (fun _ i _ => e.args.length - (intOf i).toNat)
    case atStart => exact ⟨0, by omega, rfl, by simp [Expr.depths], by go_grown⟩
    case round =>
      obtain ⟨k, hk, rfl, rfl, hb⟩ := hrel
      by_cases hlt : k < e.args.length
      · obtain ⟨x, hx⟩ := get_of_lt hlt
        obtain ⟨b, off, rfl, hE⟩ := HX.out.2.2 k x hx
        obtain ⟨na', nc', da', dc', aa', ac', ⟨c0, c1, c2, c3, c4, c5, c6⟩, hr⟩ := hE.ext (Ext.below hb)
        have hcx := count_arg (List.mem_of_getElem? hx)
        have HXX := Lib.hid hx
        clear hx
        go_wp2_with fail
        refine (IH.out x na' nc' da' dc' aa' ac' _ (hr.ext (ext_alloc _ _)) (by omega)).mono ?_
        rintro r w' ⟨rfl, hb'⟩
        go_wp2_with fail
        refine ⟨⟨k + 1, by omega, by go_num, val_int ?_, below_then1 hb hb'⟩, by simp [intOf]; omega⟩
        rw [take_more HXX.out, depths_append]
        simp only [Expr.depths]
        split <;> omega
      · have hT : Expr.depths (e.args.take k) + 1 ≤ 1048576 := by
          have := depth_le_count e
          rw [take_all hlt, ← Expr.depth_eq]; omega
        go_wp2_with fail
        go_ret
        refine ⟨ret_int ?_, hb⟩
        rw [Expr.depth_eq, take_all hlt]
        omega
set_option maxHeartbeats 400000 in
theorem count_any (d : Nat) : ∀ (e : Expr) (na : Option Addr) (nc : Nat) (da : Option Addr) (dc : Nat) (aa : Option Addr) (ac : Nat) (w : World), ExprR d w na nc da dc aa ac e → e.count ≤ 1048576 →
    Calls Try.prog 55 #[e.val na nc da dc aa ac] w fun r w' => r = .returned (.int .i64 (e.count : Nat)) ∧ Below w.heap.size w w' := by
  induction d with
  | zero => intro e na nc da dc aa ac w h; exact h.elim
  | succ d ih =>
    intro e na nc da dc aa ac w h hc
    obtain ⟨-, -, -, -, -, hx⟩ := h.of_succ
    have IH := Lib.hid ih
    clear ih
    have HX := Lib.hid hx
    have hl := hx.len
    clear hx
    unfold Expr.val
    go_enter Try.func55, Try.ntmps55
    go_wp2
    go_loopw [3, 9] (fun m i wr => ∃ k : Nat, k ≤ e.args.length ∧ i = .int .i64 k ∧ m = .int .i64 (1 + Expr.counts (e.args.take k) : Nat) ∧ Below w.heap.size w wr) (fun _ i _ => e.args.length - (intOf i).toNat)
    case atStart => exact ⟨0, by omega, rfl, by simp [Expr.counts], by go_grown⟩
    case round =>
      obtain ⟨k, hk, rfl, rfl, hb⟩ := hrel
      by_cases hlt : k < e.args.length
      · obtain ⟨x, hx⟩ := get_of_lt hlt
        obtain ⟨b, off, rfl, hE⟩ := HX.out.2.2 k x hx
        obtain ⟨na', nc', da', dc', aa', ac', ⟨c0, c1, c2, c3, c4, c5, c6⟩, hr⟩ := hE.ext (Ext.below hb)
        have hcx := count_arg (List.mem_of_getElem? hx)
        have hcs : 1 + Expr.counts (e.args.take k) + x.count ≤ 1048576 := by
          have h2 := counts_append (e.args.take k) [x]
          have h3 := counts_append (e.args.take (k + 1)) (e.args.drop (k + 1))
          rw [List.take_append_drop, take_more hx, h2] at h3
          have h4 := Expr.count_eq e
          simp only [Expr.counts] at h3
          omega
        have HXX := Lib.hid hx
        clear hx
        go_wp2_with fail
        refine (IH.out x na' nc' da' dc' aa' ac' _ (hr.ext (ext_alloc _ _)) (by omega)).mono ?_
        rintro r w' ⟨rfl, hb'⟩
        go_wp2_with fail
        refine ⟨⟨k + 1, by omega, by go_num, val_int ?_, below_then1 hb hb'⟩, by simp [intOf]; omega⟩
        rw [take_more HXX.out, counts_append]
        simp only [Expr.counts]
        omega
      · go_wp2_with fail
        go_ret
        refine ⟨ret_int ?_, hb⟩
        rw [Expr.count_eq, take_all hlt]
end Go.Proofs.Ytmlldjcbijoheaa

/- Walks: whether a string is a name, by the reference and by the program. -/
namespace Go.Proofs.Ytmlldjcbijoheaa
open Go.RowKit

set_option maxHeartbeats 1000000 in
theorem letter15_any (c : Int) (w : World) (h0 : 0 ≤ c) (h1 : c ≤ 255) :
    Calls Try.prog 104 #[.int .u8 c] w fun e w' => e = .returned (.bool (letB c)) ∧ w = w' := by
  obtain ⟨b, hb⟩ : ∃ b, letB c = b := ⟨_, rfl⟩
  have hb2 := hb
  unfold letB at hb2
  rw [hb]
  have HB := Lib.hid hb2
  clear hb hb2
  by_cases h2 : 65 ≤ c <;> by_cases h3 : c ≤ 90 <;> by_cases h4 : 97 ≤ c <;> by_cases h5 : c ≤ 122 <;> first | (exfalso; omega) | skip
  all_goals
    go_enter Try.func104, Try.ntmps104
    go_wp2
    go_ret
    refine ⟨ret_bool ?_, rfl⟩
    rw [← HB.out]
    first | (symm; apply decide_eq_true; omega) | (symm; apply decide_eq_false; omega)
set_option maxHeartbeats 1000000 in
theorem digit15_any (c : Int) (w : World) (h0 : 0 ≤ c) (h1 : c ≤ 255) :
    Calls Try.prog 105 #[.int .u8 c] w fun e w' => e = .returned (.bool (digB c)) ∧ w = w' := by
  obtain ⟨b, hb⟩ : ∃ b, digB c = b := ⟨_, rfl⟩
  have hb2 := hb
  unfold digB at hb2
  rw [hb]
  have HB := Lib.hid hb2
  clear hb hb2
  by_cases h2 : 48 ≤ c <;> by_cases h3 : c ≤ 57 <;> first | (exfalso; omega) | skip
  all_goals
    go_enter Try.func105, Try.ntmps105
    go_wp2
    go_ret
    refine ⟨ret_bool ?_, rfl⟩
    rw [← HB.out]
    first | (symm; apply decide_eq_true; omega) | (symm; apply decide_eq_false; omega)

theorem keywords15_any (w : World) : Calls Try.prog 106 #[] w fun e w' => e = .returned (.slice (some ⟨w.heap.size, 0, none⟩) 29 29) ∧ w.alloc (.cells (keywords.map Value.string).toArray 9) = w' := by
  go_enter Try.func106, Try.ntmps106
  go_wp2
  go_ret
  exact ⟨rfl, rfl⟩
theorem keywords_any (w : World) : Calls Try.prog 103 #[] w fun e w' => e = .returned (.slice (some ⟨w.heap.size, 0, none⟩) 29 29) ∧ w.alloc (.cells (keywords.map Value.string).toArray 9) = w' := by
  go_enter Try.func103, Try.ntmps103
  go_wp2
  go_ret
  exact ⟨rfl, rfl⟩
end Go.Proofs.Ytmlldjcbijoheaa

/- Walk: whether a string is a name, by the reference. -/
namespace Go.Proofs.Ytmlldjcbijoheaa
open Go.RowKit

theorem keyB_take {s : ByteArray} {k : Nat} {x : ByteArray} (h : keywords[k]? = some x) : ((keywords.take (k + 1)).any fun k => decide (s = k)) = (((keywords.take k).any fun k => decide (s = k)) || decide (s = x)) := by
  rw [take_more h, List.any_append]; simp
theorem keyB_mem {s x : ByteArray} {k : Nat} (h : keywords[k]? = some x) (e : s = x) : keyB s = true := by
  unfold keyB
  rw [List.any_eq_true]
  exact ⟨x, List.mem_of_getElem? h, by simp [e]⟩

set_option maxHeartbeats 1000000 in
theorem isName15_any (s : ByteArray) (w : World) (hs : s.size ≤ 9223372036854775807) :
    Calls Try.prog 72 #[.string s] w fun e w' => e = .returned (.bool (isNameB s)) ∧ Below w.heap.size w w' := by
  obtain ⟨r, hr⟩ : ∃ r, isNameB s = r := ⟨_, rfl⟩
  rw [hr]
  have HR := Lib.hid hr
  clear hr
  by_cases h0 : s.size = 0
  · have e := size_zero.1 h0
    subst e
    have hr : r = false := by rw [← HR.out]; exact isNameB_empty
    subst hr
    clear h0 hs
    go_enter Try.func72, Try.ntmps72
    go_wp2
    go_ret
    exact ⟨rfl, Below.refl _ _⟩
  · have hse : s.toList.isEmpty = false := by rw [str_isEmpty]; simp; exact fun e => h0 (size_zero.2 e)
    have hse2 : s.toList ≠ [] := by intro e; rw [e] at hse; cases hse
    have H0 := Lib.hid h0
    clear h0
    by_cases h20 : s.size ≤ 20
    · have hp : 0 < s.size := by have := H0.out; omega
      have CL := letter15_any ((s[0]'hp).toNat : Nat) w (by omega) (by have := (s[0]'hp).toNat_lt; omega)
      rw [← headB_cons hp] at CL
      obtain ⟨b, hb⟩ : ∃ b, headB s = b := ⟨_, rfl⟩
      rw [hb] at CL
      replace CL := Lib.hid CL
      have HB := Lib.hid hb
      clear hb
      cases b
      · have hr : r = false := by rw [← HR.out]; simp [isNameB, HB.out]
        subst hr
        go_enter Try.func72, Try.ntmps72
        go_wp2_with (go_at_call 104; refine CL.out.mono ?_; rintro e w' ⟨rfl, rfl⟩)
        go_ret
        exact ⟨rfl, Below.refl _ _⟩
      · go_enter Try.func72, Try.ntmps72
        go_wp2_with (go_at_call 104; refine CL.out.mono ?_; rintro e w' ⟨rfl, rfl⟩)
        have hi0 := World.iter_heap w s 0
        have hb0 : Below w.heap.size w (w.iter s 0) := (Below.refl _ w).alloc (Nat.le_refl _) _
        revert hi0 hb0
        generalize w.iter s 0 = w0
        intro hi0 hb0
        clear CL
        go_loopg [3] s.size (fun g _ wr => ∃ pos : Nat, pos + g = s.size ∧ Itr wr w.heap.size s pos ∧ Below w.heap.size w wr ∧ (s.data.toList.take pos).all wordB = true)
        case atStart => exact ⟨0, by omega, hi0, hb0, rfl⟩
        case round =>
          obtain ⟨pos, hpos, hi, hb, hall⟩ := hrel
          clear hi0 hb0
          have HA := Lib.hid hall
          have HP := Lib.hid hpos
          have hsz := hi.lt
          clear hall
          by_cases hlt : pos < s.size
          · obtain ⟨rr, n, hnx, hn1⟩ := run_next_any (P := Try.prog) wr w.heap.size s pos hi hlt
            have CL := fun W => letter15_any ((s[pos]'hlt).toNat : Nat) W (by omega) (by have := (s[pos]'hlt).toNat_lt; omega)
            have CD := fun W => digit15_any ((s[pos]'hlt).toNat : Nat) W (by omega) (by have := (s[pos]'hlt).toNat_lt; omega)
            have hw : wordB (s[pos]'hlt) = (letB ((s[pos]'hlt).toNat : Nat) || digB ((s[pos]'hlt).toNat : Nat)) := rfl
            have hasc : wordB (s[pos]'hlt) = true → (s[pos]'hlt).toNat < 128 := by
              intro h
              simp only [wordB, letB, digB, Bool.or_eq_true, decide_eq_true_eq] at h
              omega
            have hgl := get_list hlt
            have hnot : wordB (s[pos]'hlt) = false → isNameB s = false := by
              intro h
              have : s.data.toList.all wordB = false := by
                rw [List.all_eq_false]
                exact ⟨_, List.mem_of_getElem? hgl, by simp [h]⟩
              simp [isNameB, this]
            obtain ⟨bl, hbl⟩ : ∃ b, letB ((s[pos]'hlt).toNat : Nat) = b := ⟨_, rfl⟩
            obtain ⟨bd, hbd⟩ : ∃ b, digB ((s[pos]'hlt).toNat : Nat) = b := ⟨_, rfl⟩
            rw [hbl, hbd] at hw
            rw [hbl] at CL
            rw [hbd] at CD
            have HW := Lib.hid hw
            have HN1 := Lib.hid hn1
            have HASC := Lib.hid hasc
            have HNOT := Lib.hid hnot
            have HGL := Lib.hid hgl
            replace CL := Lib.hid CL
            replace CD := Lib.hid CD
            have hnb : Below w.heap.size w (setItr wr w.heap.size s (pos + n)) := below_setItr hb (Nat.le_refl _) _ _
            have hni : Itr (setItr wr w.heap.size s (pos + n)) w.heap.size s (pos + n) := hi.set _
            clear hw hn1 hasc hnot hgl hbl hbd hi hb hpos
            revert hnb hni hnx
            generalize setItr wr w.heap.size s (pos + n) = w2
            intro hnx hnb hni
            cases bl
            · cases bd
              · have hr : r = false := by rw [← HR.out]; exact HNOT.out HW.out
                subst hr
                go_wp2_with (first | (go_at_call 104; refine (CL.out _).mono ?_; rintro e w' ⟨rfl, rfl⟩) | (go_at_call 105; refine (CD.out _).mono ?_; rintro e w' ⟨rfl, rfl⟩))
                go_ret
                exact ⟨rfl, hnb⟩
              · go_wp2_with (first | (go_at_call 104; refine (CL.out _).mono ?_; rintro e w' ⟨rfl, rfl⟩) | (go_at_call 105; refine (CD.out _).mono ?_; rintro e w' ⟨rfl, rfl⟩))
                have e1 := HN1.out (HASC.out HW.out)
                subst e1
                go_roundg (gk - 1)
                case rel => exact ⟨pos + 1, by have := HP.out; omega, hni, hnb, by rw [take_more HGL.out, List.all_append, HA.out]; simp [HW.out]⟩
                case measure => have := HP.out; omega
            · go_wp2_with (first | (go_at_call 104; refine (CL.out _).mono ?_; rintro e w' ⟨rfl, rfl⟩) | (go_at_call 105; refine (CD.out _).mono ?_; rintro e w' ⟨rfl, rfl⟩))
              have hwt : wordB (s[pos]'hlt) = true := by rw [HW.out]; rfl
              have e1 := HN1.out (HASC.out hwt)
              subst e1
              go_roundg (gk - 1)
              case rel => exact ⟨pos + 1, by have := HP.out; omega, hni, hnb, by rw [take_more HGL.out, List.all_append, HA.out]; simp [hwt]⟩
              case measure => have := HP.out; omega
          · obtain ⟨wo, rfl⟩ : ∃ wo : World, wo = wr := ⟨_, rfl⟩
            have hnx := fun ty => run_next_stop (P := Try.prog) wo w.heap.size s pos ty hi hlt
            have hall : s.data.toList.all wordB = true := by
              have := HA.out
              rwa [List.take_of_length_le (by simp; omega)] at this
            have HALL := Lib.hid hall
            have HK : r = !keyB s := by rw [← HR.out]; simp [isNameB, HB.out, hall, h20]
            replace HK := Lib.hid HK
            have hk0 := Blk.new wo 9 (keywords.map Value.string).toArray
            have hkb : Below w.heap.size w (wo.alloc (.cells (keywords.map Value.string).toArray 9)) := hb.alloc hb.size _
            have CK := keywords15_any wo
            replace CK := Lib.hid CK
            clear hall hi hpos HA
            go_wp2_with (go_at_call 106; refine CK.out.mono ?_; rintro e w' ⟨rfl, rfl⟩)
            revert hk0 hkb
            generalize wo.alloc (.cells (keywords.map Value.string).toArray 9) = w3
            intro hk0 hkb
            clear CK
            go_loopg [5, 38] 29 (fun g _ i wv => ∃ k : Nat, k + g = 29 ∧ i = .int .i64 k ∧ Blk wv wo.heap.size 9 (keywords.map Value.string).toArray ∧ Below w.heap.size w wv ∧ ((keywords.take k).any fun k => decide (s = k)) = false)
            case atStart => exact ⟨0, by omega, rfl, hk0, hkb, rfl⟩
            case round =>
              obtain ⟨k, hkg, rfl, hk, hbv, hno⟩ := hrel
              have HNO := Lib.hid hno
              have HKG := Lib.hid hkg
              have HKB := Lib.hid hk
              have hsz3 := hk.lt
              clear hk0 hkb hno hkg hk
              by_cases hlt2 : k < 29
              · obtain ⟨x, hx⟩ := get_of_lt (xs := keywords) (k := k) (by rw [keywords_len]; exact hlt2)
                have hc : wr.cell? ⟨wo.heap.size, k, none⟩ = some (.string x) := by rw [HKB.out.cell]; simp [hx]
                have HX := Lib.hid hx
                clear hx
                by_cases he : s = x
                · have hbe : (s.toList == x.toList) = true := by rw [str_beq]; simpa using he
                  have HE := Lib.hid he
                  clear he
                  go_wp2
                  go_ret
                  exact ⟨ret_bool (by rw [HK.out, keyB_mem HX.out HE.out]; rfl), hbv⟩
                · have hbe : (s.toList == x.toList) = false := by rw [str_beq]; simpa using he
                  have HE := Lib.hid he
                  clear he
                  go_wp2
                  go_roundg (gk - 1)
                  case rel => exact ⟨k + 1, by have := HKG.out; omega, by go_num, HKB.out, hbv, by rw [keyB_take HX.out, HNO.out]; simp [HE.out]⟩
                  case measure => have := HKG.out; omega
              · go_wp2
                go_ret
                refine ⟨ret_bool ?_, hbv⟩
                have := HNO.out
                rw [List.take_of_length_le (by rw [keywords_len]; omega)] at this
                rw [HK.out, keyB, this]; rfl
    · have hr : r = false := by rw [← HR.out]; simp [isNameB]; omega
      subst hr
      go_enter Try.func72, Try.ntmps72
      go_wp2
      go_ret
      exact ⟨rfl, Below.refl _ _⟩
end Go.Proofs.Ytmlldjcbijoheaa
