/- Walks: whether a string is a name, by the program. -/
import Derived.Test.YtgbnadckhjfebaaRRLs15
import Derived.Test.YtgbnadckhjfebaaRRLs5
import Derived.Test.YtgbnadckhjfebaaRRLs9

/- Walk: the program's rational numbers: Right. -/
namespace Go.Proofs.YtgbnadckhjfebaaRR
open Go.RowKit

theorem rt_right_one {neg : Bool} {num den : List Int} (hI : rightI neg num = true) (hc : canonB den = true) (h0 : 0 < den.length) (h1 : decide (den.length = 1 ∧ limbAt den 0 = 1) = true) : Rt.right ⟨neg, num, den⟩ = true := by
  rw [decide_eq_true_eq] at h1
  obtain ⟨h1, h2⟩ := h1
  match den, h1 with
  | [x], _ =>
    simp [limbAt] at h2
    subst h2
    simp [Rt.right, hI, hc, val]
theorem rt_right_gcd {neg : Bool} {num den : List Int} (hI : rightI neg num = true) (hc : canonB den = true) (h0 : 0 < den.length) : Rt.right ⟨neg, num, den⟩ = decide (Nat.gcd (val num) (val den) = 1) := by
  simp [Rt.right, hI, hc, h0]

set_option maxRecDepth 100000 in
set_option maxHeartbeats 2000000 in
theorem rightQ_any (r : Rt) (na : Option Addr) (nc : Nat) (da : Option Addr) (dc : Nat) (w : World) (h : NatR w na nc r.num) (h' : NatR w da dc r.den) (hl : r.num.length ≤ 2000000) (hm : r.den.length ≤ 2000000) :
    Calls Try.prog 25 #[r.val na nc da dc] w fun e w' => e = .returned (.bool r.right) ∧ Below w.heap.size w w' := by
  obtain ⟨neg, num, den⟩ := r
  have CR := fun W (hW : Below w.heap.size w W) => rightI_any neg num na nc W (h.ext (Ext.below hW))
  have CO := fun W (hW : Below w.heap.size w W) => one_any den da dc W (h'.ext (Ext.below hW))
  have CG := fun W (hW : Below w.heap.size w W) => gcd_any num den (val num) (val den) na da nc dc W (h.ext (Ext.below hW)) (h'.ext (Ext.below hW)) rfl rfl hl hm
  have CO2 := fun n a c W => one_any (limbs n) a c W
  simp only [one_limbs] at CO2
  unfold Rt.val
  dsimp only
  dsimp only at hl hm
  obtain ⟨res, hres⟩ : ∃ q, Rt.right ⟨neg, num, den⟩ = q := ⟨_, rfl⟩
  rw [hres]
  obtain ⟨b1, hb1⟩ : ∃ b, rightI neg num = b := ⟨_, rfl⟩
  rw [hb1] at CR
  replace CR := Lib.hid CR; replace CO := Lib.hid CO; replace CG := Lib.hid CG; replace CO2 := Lib.hid CO2
  have hw0 : Below w.heap.size w (w.alloc (.cells #[.bool neg, .slice na num.length nc, .slice da den.length dc] 37)) := (Below.refl _ _).alloc (Nat.le_refl _) _
  have hz : Blk (w.alloc (.cells #[.bool neg, .slice na num.length nc, .slice da den.length dc] 37)) w.heap.size 37 #[.bool neg, .slice na num.length nc, .slice da den.length dc] := Blk.new w _ _
  cases b1
  · have hr : res = false := by rw [← hres]; simp [Rt.right, hb1]
    subst hr
    clear hres hb1 h h' hz
    go_enter Try.func25, Try.ntmps25
    go_wp2_with fail
    refine (CR.out _ hw0).mono ?_
    rintro e w1 ⟨rfl, hb⟩
    have hw1 := below_then hw0 hb
    go_wp2
    go_ret
    exact ⟨rfl, hw1⟩
  · by_cases h0 : den.length = 0
    · have hr : res = false := by rw [← hres]; simp [Rt.right, h0]
      subst hr
      obtain rfl : den = [] := List.length_eq_zero_iff.1 h0
      clear hres hb1 h h' hz h0
      go_enter Try.func25, Try.ntmps25
      go_wp2_with fail
      refine (CR.out _ hw0).mono ?_
      rintro e w1 ⟨rfl, hb⟩
      have hw1 := below_then hw0 hb
      go_wp2
      go_ret
      exact ⟨rfl, hw1⟩
    · obtain ⟨x, hx⟩ := get_of_lt (xs := den) (k := den.length - 1) (by omega)
      obtain ⟨b, off, rfl, hc⟩ := h'.cell hx
      have hcan := canonB_last (l := den) h'.u16 hx (by omega)
      have hk := held hc
      have hi1 : (0 : Int) ≤ (den.length : Int) - 1 := by omega
      have hti : ((den.length : Int) - 1).toNat = den.length - 1 := by omega
      have hdl : (den.length : Int) ≤ 2000000 := by omega
      have he : ((den.length : Int) == 0) = false := by rw [beq_eq_false_iff_ne]; omega
      by_cases hx0 : x = 0
      · subst hx0
        have hr : res = false := by rw [← hres]; simp [Rt.right, hcan]
        subst hr
        clear hres hb1 h h' hx hc hcan h0
        go_enter Try.func25, Try.ntmps25
        go_wp2_with fail
        revert hw0 hz
        generalize w.alloc (.cells #[.bool neg, .slice na num.length nc, .slice (some ⟨b, off, none⟩) den.length dc] 37) = w0
        intro hw0 hz
        refine (CR.out _ hw0).mono ?_
        rintro e w1 ⟨rfl, hb⟩
        have hw1 := below_then hw0 hb
        have hz1 := hz.below' hb
        have z1 := hz1.cell 1; have z2 := hz1.cell 2; have z0 := hz1.cell 0
        have k1 := hk _ hw1
        clear hb hz hw0
        go_wp2
        go_ret
        exact ⟨rfl, hw1⟩
      · have hxb : (x == 0) = false := by simpa using hx0
        have hcan2 : canonB den = true := by rw [hcan, hxb]; rfl
        obtain ⟨bo, hbo⟩ : ∃ q, decide (den.length = 1 ∧ limbAt den 0 = 1) = q := ⟨_, rfl⟩
        rw [hbo] at CO
        have HRES := Lib.hid hres
        have HB1 := Lib.hid hb1
        have HC := Lib.hid hcan2
        have HBO := Lib.hid hbo
        have H0 := Lib.hid h0
        clear hres hb1 h h' hx hc hcan hcan2 hbo h0 hx0
        cases bo
        · obtain ⟨g, hg⟩ : ∃ g, Nat.gcd (val num) (val den) = g := ⟨_, rfl⟩
          have hr : decide (g = 1) = res := by rw [← HRES.out, rt_right_gcd HB1.out HC.out (by have := H0.out; omega)]; simp only [hg]
          rw [hg] at CG
          have CO3 := CO2.out g
          rw [hr] at CO3
          replace CO3 := Lib.hid CO3
          clear hg hr CO2
          go_enter Try.func25, Try.ntmps25
          go_wp2_with fail
          revert hw0 hz
          generalize w.alloc (.cells #[.bool neg, .slice na num.length nc, .slice (some ⟨b, off, none⟩) den.length dc] 37) = w0
          intro hw0 hz
          refine (CR.out _ hw0).mono ?_
          rintro e w1 ⟨rfl, hb⟩
          have hw1 := below_then hw0 hb
          have hz1 := hz.below' hb
          have z1 := hz1.cell 1; have z2 := hz1.cell 2; have z0 := hz1.cell 0
          have k1 := hk _ hw1
          clear hb hz hw0
          go_wp2_with fail
          refine (CO.out _ hw1).mono ?_
          rintro e w2 ⟨rfl, hb⟩
          have hw2 := below_then hw1 hb
          have hz2 := hz1.below' hb
          have y1 := hz2.cell 1; have y2 := hz2.cell 2; have y0 := hz2.cell 0
          clear hb hz1 hw1 z0 z1 z2 k1
          go_wp2_with fail
          refine (CG.out _ hw2).mono ?_
          rintro e w3 ⟨a3, c3, rfl, hV, hb⟩
          have hw3 := below_then hw2 hb
          have hrd := hV w3 (New.refl _ _)
          clear hb hV y0 y1 y2
          go_wp2_with fail
          refine (CO3.out _ _ _ hrd).mono ?_
          rintro e w4 ⟨rfl, hb⟩
          have hw4 := below_then hw3 hb
          clear hrd hb
          go_wp2
          go_ret
          exact ⟨rfl, hw4⟩
        · have hr : res = true := by rw [← HRES.out]; exact rt_right_one HB1.out HC.out (by have := H0.out; omega) HBO.out
          subst hr
          go_enter Try.func25, Try.ntmps25
          go_wp2_with fail
          revert hw0 hz
          generalize w.alloc (.cells #[.bool neg, .slice na num.length nc, .slice (some ⟨b, off, none⟩) den.length dc] 37) = w0
          intro hw0 hz
          refine (CR.out _ hw0).mono ?_
          rintro e w1 ⟨rfl, hb⟩
          have hw1 := below_then hw0 hb
          have hz1 := hz.below' hb
          have z1 := hz1.cell 1; have z2 := hz1.cell 2; have z0 := hz1.cell 0
          have k1 := hk _ hw1
          clear hb hz hw0
          go_wp2_with fail
          refine (CO.out _ hw1).mono ?_
          rintro e w2 ⟨rfl, hb⟩
          have hw2 := below_then hw1 hb
          go_wp2
          go_ret
          exact ⟨rfl, hw2⟩
end Go.Proofs.YtgbnadckhjfebaaRR

/- Walks: arities and the zero value, by the program. -/
namespace Go.Proofs.YtgbnadckhjfebaaRR
open Go.RowKit

set_option maxHeartbeats 2000000 in
theorem arityP_any (k : Int) (w : World) : Calls Try.prog 30 #[.int .i64 k] w fun e w' => e = .returned (.int .i64 (arity14 k)) ∧ w = w' := by
  by_cases hk : 1 ≤ k ∧ k ≤ 9
  · have hc : k = 1 ∨ k = 2 ∨ k = 3 ∨ k = 4 ∨ k = 5 ∨ k = 6 ∨ k = 7 ∨ k = 8 ∨ k = 9 := by omega
    clear hk
    rcases hc with rfl | rfl | rfl | rfl | rfl | rfl | rfl | rfl | rfl
    all_goals
      go_enter Try.func30, Try.ntmps30
      go_wp2
      go_ret
      exact ⟨ret_int (by decide), rfl⟩
  · have h1 := eqb_false (a := k) (b := 1) (by omega); have h2 := eqb_false (a := k) (b := 2) (by omega); have h3 := eqb_false (a := k) (b := 3) (by omega)
    have h4 := eqb_false (a := k) (b := 4) (by omega); have h5 := eqb_false (a := k) (b := 5) (by omega); have h6 := eqb_false (a := k) (b := 6) (by omega)
    have h7 := eqb_false (a := k) (b := 7) (by omega); have h8 := eqb_false (a := k) (b := 8) (by omega); have h9 := eqb_false (a := k) (b := 9) (by omega)
    have hr : arity14 k = 0 := by unfold arity14; rw [if_neg (by omega), if_neg (by omega), if_neg (by omega), if_neg (by omega)]
    rw [hr]
    clear hr hk
    go_enter Try.func30, Try.ntmps30
    go_wp2
    go_ret
    exact ⟨rfl, rfl⟩
set_option maxHeartbeats 2000000 in
theorem arityL_any (k : Int) (w : World) : Calls Try.prog 22 #[.int .i64 k] w fun e w' => e = .returned (.int .i64 (arity20 k)) ∧ w = w' := by
  by_cases hk : 1 ≤ k ∧ k ≤ 14
  · have hc : k = 1 ∨ k = 2 ∨ k = 3 ∨ k = 4 ∨ k = 5 ∨ k = 6 ∨ k = 7 ∨ k = 8 ∨ k = 9 ∨ k = 10 ∨ k = 11 ∨ k = 12 ∨ k = 13 ∨ k = 14 := by omega
    clear hk
    rcases hc with rfl | rfl | rfl | rfl | rfl | rfl | rfl | rfl | rfl | rfl | rfl | rfl | rfl | rfl
    all_goals
      go_enter Try.func22, Try.ntmps22
      go_wp2
      go_ret
      exact ⟨ret_int (by decide), rfl⟩
  · have h1 := eqb_false (a := k) (b := 1) (by omega); have h2 := eqb_false (a := k) (b := 2) (by omega); have h3 := eqb_false (a := k) (b := 3) (by omega)
    have h4 := eqb_false (a := k) (b := 4) (by omega); have h5 := eqb_false (a := k) (b := 5) (by omega); have h6 := eqb_false (a := k) (b := 6) (by omega)
    have h7 := eqb_false (a := k) (b := 7) (by omega); have h8 := eqb_false (a := k) (b := 8) (by omega); have h9 := eqb_false (a := k) (b := 9) (by omega)
    have h10 := eqb_false (a := k) (b := 10) (by omega); have h11 := eqb_false (a := k) (b := 11) (by omega); have h12 := eqb_false (a := k) (b := 12) (by omega)
    have h13 := eqb_false (a := k) (b := 13) (by omega); have h14 := eqb_false (a := k) (b := 14) (by omega)
    have hr : arity20 k = -1 := by unfold arity20; rw [if_neg (by omega), if_neg (by omega), if_neg (by omega), if_neg (by omega)]
    rw [hr]
    clear hr hk
    go_enter Try.func22, Try.ntmps22
    go_wp2
    go_ret
    exact ⟨rfl, rfl⟩

set_option maxHeartbeats 1000000 in
theorem zeroP_any (r : Rt) (na : Option Addr) (nc : Nat) (da : Option Addr) (dc : Nat) (w : World) (hl : r.num.length ≤ 2000000) (hm : r.den.length ≤ 2000000) :
    Calls Try.prog 31 #[r.val na nc da dc] w fun e w' => e = .returned (.bool r.none) ∧ Below w.heap.size w w' := by
  obtain ⟨neg, num, den⟩ := r
  unfold Rt.val Rt.none
  dsimp only at hl hm ⊢
  by_cases h1 : num.length = 0 <;> by_cases h2 : den.length = 0
  all_goals
    have e1 : ((num.length : Int) == 0) = decide (num.length = 0) := by rw [Bool.eq_iff_iff]; simp
    have e2 : ((den.length : Int) == 0) = decide (den.length = 0) := by rw [Bool.eq_iff_iff]; simp
    have d1 : decide (num.length = 0) = decide (num.length = 0) := rfl
    simp only [h1, h2, decide_true, decide_false] at e1 e2
    have HH : (decide (num.length = 0), decide (den.length = 0)) = (decide (num.length = 0), decide (den.length = 0)) := rfl
    simp only [h1, h2, decide_true, decide_false] at HH ⊢
    clear HH d1
    cases neg
    all_goals
      have H1 := Lib.hid h1
      have H2 := Lib.hid h2
      clear h1 h2
      go_enter Try.func31, Try.ntmps31
      go_wp2
      go_ret
      exact ⟨rfl, (Below.refl _ _).alloc (Nat.le_refl _) _⟩
set_option maxHeartbeats 1000000 in
theorem noneL_any (r : Rt) (na : Option Addr) (nc : Nat) (da : Option Addr) (dc : Nat) (w : World) (hl : r.num.length ≤ 2000000) (hm : r.den.length ≤ 2000000) :
    Calls Try.prog 26 #[r.val na nc da dc] w fun e w' => e = .returned (.bool r.none) ∧ Below w.heap.size w w' := by
  obtain ⟨neg, num, den⟩ := r
  unfold Rt.val Rt.none
  dsimp only at hl hm ⊢
  by_cases h1 : num.length = 0 <;> by_cases h2 : den.length = 0
  all_goals
    have e1 : ((num.length : Int) == 0) = decide (num.length = 0) := by rw [Bool.eq_iff_iff]; simp
    have e2 : ((den.length : Int) == 0) = decide (den.length = 0) := by rw [Bool.eq_iff_iff]; simp
    have d1 : decide (num.length = 0) = decide (num.length = 0) := rfl
    simp only [h1, h2, decide_true, decide_false] at e1 e2
    have HH : (decide (num.length = 0), decide (den.length = 0)) = (decide (num.length = 0), decide (den.length = 0)) := rfl
    simp only [h1, h2, decide_true, decide_false] at HH ⊢
    clear HH d1
    cases neg
    all_goals
      have H1 := Lib.hid h1
      have H2 := Lib.hid h2
      clear h1 h2
      go_enter Try.func26, Try.ntmps26
      go_wp2
      go_ret
      exact ⟨rfl, (Below.refl _ _).alloc (Nat.le_refl _) _⟩
end Go.Proofs.YtgbnadckhjfebaaRR

/- Walk: whether a fact is right, by the program. -/
namespace Go.Proofs.YtgbnadckhjfebaaRR
open Go.RowKit

set_option maxRecDepth 100000 in
set_option maxHeartbeats 2000000 in
theorem rightP_any (f : Fct) (n : Int) (p : RA) (w : World) (h : PartsR w p f.args f.ratio) (hq : f.ratio.few) (hn : InInt n) (hk : InInt f.kind) :
    Calls Try.prog 14 #[f.val p.aa p.ac p.na p.nc p.da p.dc, .int .i64 n] w fun e w' => e = .returned (.int .i64 (errFct f n)) ∧ Below w.heap.size w w' := by
  obtain ⟨kind, args, r⟩ := f
  obtain ⟨aa, ac, na, nc, da, dc⟩ := p
  obtain ⟨hI, hN, hD⟩ := h
  dsimp only at hI hN hD hq hk
  obtain ⟨res, hres⟩ : ∃ x, errFct ⟨kind, args, r⟩ n = x := ⟨_, rfl⟩
  rw [hres]
  unfold errFct at hres
  dsimp only at hres
  have CA := arityP_any kind
  have hA := arity14_in kind
  have CR := fun W (hW : Below w.heap.size w W) => rightQ_any r na nc da dc W (hN.ext (Ext.below hW)) (hD.ext (Ext.below hW)) hq.1 hq.2
  have CN := fun W => zeroP_any r na nc da dc W hq.1 hq.2
  have hlen := hI.len
  have hIn : ∀ a ∈ args, InInt a := fun a ha => by
    obtain ⟨k, hk⟩ := List.mem_iff_getElem?.1 ha
    obtain ⟨b, off, _, hc, hw⟩ := hI.2.2 k a hk
    exact inInt_of hw
  have HI := Lib.hid hI
  have HIn := Lib.hid hIn
  revert CA hA hres CR CN
  generalize arity14 kind = ar
  generalize r.right = br
  generalize r.none = bn
  intro hres CA hA CR CN
  replace CA := Lib.hid CA; replace CR := Lib.hid CR; replace CN := Lib.hid CN
  have HRES := Lib.hid hres
  obtain ⟨hn1, hn2⟩ := hn
  obtain ⟨hk1, hk2⟩ := hk
  obtain ⟨neg, num, den⟩ := r
  unfold Rt.val at CR CN
  unfold Fct.val
  dsimp only at CR CN ⊢
  clear hres hI hN hD hIn hq
  have hz := Blk.new w 39 #[.int .i64 kind, .slice aa args.length ac, .bool neg, .slice na num.length nc, .slice da den.length dc]
  have hb0 : Below w.heap.size w (w.alloc (.cells #[.int .i64 kind, .slice aa args.length ac, .bool neg, .slice na num.length nc, .slice da den.length dc] 39)) := (Below.refl _ _).alloc (Nat.le_refl _) _
  by_cases h0 : ar = 0
  · have he : (ar == 0) = true := by simpa using h0
    have hr : res = 8 := by rw [← HRES.out, if_pos h0]
    subst hr
    clear h0 hz
    go_enter Try.func14, Try.ntmps14
    go_wp2_with (go_at_call 30; refine (CA.out _).mono ?_; rintro e w' ⟨rfl, rfl⟩)
    go_ret
    exact ⟨rfl, hb0⟩
  · have he : (ar == 0) = false := by simpa using h0
    have H0 := Lib.hid h0
    clear h0
    by_cases h1 : (args.length : Int) = ar
    · have he1 : ((args.length : Int) != ar) = false := by simpa using h1
      have H1 := Lib.hid h1
      clear h1
      go_enter Try.func14, Try.ntmps14
      go_wp2_with fail
      revert hz hb0
      generalize w.alloc (.cells #[.int .i64 kind, .slice aa args.length ac, .bool neg, .slice na num.length nc, .slice da den.length dc] 39) = w0
      intro hz hb0
      have z0 := hz.cell 0; have z1 := hz.cell 1; have z2 := hz.cell 2; have z3 := hz.cell 3; have z4 := hz.cell 4
      refine (CA.out _).mono ?_
      rintro e w' ⟨rfl, rfl⟩
      obtain ⟨w1, rfl⟩ : ∃ w1 : World, w1 = w0 := ⟨_, rfl⟩
      have hz1 := hz
      have hb1 := hb0
      clear hz hb0 CA
      go_wp2
      go_loop [7, 21] (fun _ i => ∃ k : Nat, k ≤ args.length ∧ i = .int .i64 k ∧ Hid ((args.take k).any (badArg n) = false)) (fun _ i => args.length - (intOf i).toNat)
      case atStart => exact ⟨0, by omega, rfl, rfl⟩
      case round =>
        obtain ⟨k, hk, rfl, hno⟩ := hrel
        by_cases hlt : k < args.length
        · obtain ⟨x, hx⟩ := get_of_lt hlt
          obtain ⟨b, off, rfl, hc⟩ := (HI.out.ext (Ext.below hb1)).2.2 k x hx
          have hc1 : w1.cell? ⟨b, off + k, none⟩ = some (.int .i64 x) := by simpa using hc.1
          obtain ⟨hx1, hx2⟩ := HIn.out x (List.mem_of_getElem? hx)
          have HX := Lib.hid hx
          clear hc hx
          by_cases hbad : x < 0 ∨ n ≤ x
          · have hr : res = 2 := by
              have hany : args.any (badArg n) = true := any_mem HX.out (by unfold badArg; exact decide_eq_true hbad)
              rw [← HRES.out, if_neg H0.out, if_neg (by simpa using H1.out), if_pos hany]
            subst hr
            by_cases hx0 : x < 0
            · clear hbad
              go_wp2
              go_ret
              exact ⟨rfl, hb1⟩
            · have hge : n ≤ x := by omega
              clear hbad
              go_wp2
              go_ret
              exact ⟨rfl, hb1⟩
          · have hx0 : 0 ≤ x := by omega
            have hxn : x < n := by omega
            have hbf : badArg n x = false := by unfold badArg; exact decide_eq_false hbad
            have HBF := Lib.hid hbf
            clear hbad hbf
            go_wp2
            go_round
            case rel => exact ⟨k + 1, by omega, by go_num, by show _ = _; rw [any_take HX.out, hno.out, HBF.out]; rfl⟩
            case measure => simp [intOf]; omega
        · have hany : args.any (badArg n) = false := by
            have := hno.out
            rwa [take_all hlt] at this
          have hres2 : (if kind = 9 ∧ br = false then (1 : Int) else if kind ≠ 9 ∧ bn = false then 1 else 0) = res := by
            have := HRES.out
            rw [if_neg H0.out, if_neg (by simpa using H1.out), if_neg (by rw [hany]; simp)] at this
            exact this
          have HR2 := Lib.hid hres2
          clear hres2 hany
          by_cases hk9 : kind = 9
          · have hke : (kind == 9) = true := by simpa using hk9
            have hkn : (kind != 9) = false := by simpa using hk9
            have HK9 := Lib.hid hk9
            clear hk9
            cases br
            · have hr : res = 1 := by rw [← HR2.out, if_pos ⟨HK9.out, rfl⟩]
              subst hr
              go_wp2_with fail
              refine (CR.out _ hb1).mono ?_
              rintro e w2 ⟨rfl, hb2⟩
              have hb3 := below_then hb1 hb2
              go_wp2
              go_ret
              exact ⟨rfl, hb3⟩
            · have hr : res = 0 := by rw [← HR2.out, if_neg (by simp), if_neg (by simp [HK9.out])]
              subst hr
              go_wp2_with fail
              refine (CR.out _ hb1).mono ?_
              rintro e w2 ⟨rfl, hb2⟩
              have hb3 := below_then hb1 hb2
              have hz2 := hz1.below' hb2
              have y0 := hz2.cell 0
              clear hb2 hz2
              go_wp2
              go_ret
              exact ⟨rfl, hb3⟩
          · have hke : (kind == 9) = false := by simpa using hk9
            have hkn : (kind != 9) = true := by simpa using hk9
            have HK9 := Lib.hid hk9
            clear hk9
            cases bn
            · have hr : res = 1 := by rw [← HR2.out, if_neg (fun h => HK9.out h.1), if_pos ⟨HK9.out, rfl⟩]
              subst hr
              go_wp2_with fail
              refine (CN.out _).mono ?_
              rintro e w2 ⟨rfl, hb2⟩
              have hb3 := below_then hb1 hb2
              go_wp2
              go_ret
              exact ⟨rfl, hb3⟩
            · have hr : res = 0 := by rw [← HR2.out, if_neg (fun h => HK9.out h.1), if_neg (by simp)]
              subst hr
              go_wp2_with fail
              refine (CN.out _).mono ?_
              rintro e w2 ⟨rfl, hb2⟩
              have hb3 := below_then hb1 hb2
              go_wp2
              go_ret
              exact ⟨rfl, hb3⟩
    · have he1 : ((args.length : Int) != ar) = true := by simpa using h1
      have hr : res = 1 := by rw [← HRES.out, if_neg H0.out, if_pos h1]
      subst hr
      clear h1
      go_enter Try.func14, Try.ntmps14
      go_wp2_with fail
      revert hz hb0
      generalize w.alloc (.cells #[.int .i64 kind, .slice aa args.length ac, .bool neg, .slice na num.length nc, .slice da den.length dc] 39) = w0
      intro hz hb0
      have z0 := hz.cell 0; have z1 := hz.cell 1; have z2 := hz.cell 2; have z3 := hz.cell 3; have z4 := hz.cell 4
      refine (CA.out _).mono ?_
      rintro e w' ⟨rfl, rfl⟩
      go_wp2
      go_ret
      exact ⟨rfl, hb0⟩
end Go.Proofs.YtgbnadckhjfebaaRR

/- Walks: whether a string is a name, by the program. -/
namespace Go.Proofs.YtgbnadckhjfebaaRR
open Go.RowKit

/-- the kind of a byte -/
def kindB (c : Int) : Int := if c = 32 ∨ c = 9 ∨ c = 13 ∨ c = 10 then 1 else if letB c = true then 2 else if digB c = true then 3 else if c = 40 ∨ c = 41 ∨ c = 44 ∨ c = 59 ∨ c = 47 ∨ c = 45 then 4 else if c = 58 then 5 else if c = 35 then 6 else 0
theorem kindB_let (c : Int) : (kindB c = 2) ↔ letB c = true := by
  unfold kindB letB
  constructor
  · intro h
    split at h
    · omega
    split at h
    · assumption
    split at h
    · omega
    split at h
    · omega
    split at h
    · omega
    split at h <;> omega
  · intro h
    simp only [decide_eq_true_eq] at h
    rw [if_neg (by omega), if_pos (by simpa using h)]
theorem kindB_dig (c : Int) : (kindB c = 3) ↔ digB c = true := by
  unfold kindB letB digB
  constructor
  · intro h
    split at h
    · omega
    split at h
    · omega
    split at h
    · assumption
    split at h
    · omega
    split at h
    · omega
    split at h <;> omega
  · intro h
    simp only [decide_eq_true_eq] at h
    rw [if_neg (by omega), if_neg (by simp only [decide_eq_true_eq]; omega), if_pos (by simpa using h)]
theorem eqb_no {a b : Int} (h : ¬ a = b) : (a == b) = false := by simpa using h
set_option maxHeartbeats 4000000 in
theorem kindOf_any (c : Int) (w : World) (h0 : 0 ≤ c) (h1 : c ≤ 255) :
    Calls Try.prog 45 #[.int .u8 c] w fun e w' => e = .returned (.int .i64 (kindB c)) ∧ w = w' := by
  by_cases hlit : c = 32 ∨ c = 9 ∨ c = 13 ∨ c = 10 ∨ c = 40 ∨ c = 41 ∨ c = 44 ∨ c = 59 ∨ c = 47 ∨ c = 45 ∨ c = 58 ∨ c = 35
  · clear h0 h1
    rcases hlit with rfl | rfl | rfl | rfl | rfl | rfl | rfl | rfl | rfl | rfl | rfl | rfl
    all_goals
      go_enter Try.func45, Try.ntmps45
      go_wp2
      go_ret
      exact ⟨ret_int (by decide), rfl⟩
  · have e1 := eqb_no (a := c) (b := 32) (by omega); have e2 := eqb_no (a := c) (b := 9) (by omega); have e3 := eqb_no (a := c) (b := 13) (by omega); have e4 := eqb_no (a := c) (b := 10) (by omega)
    have e5 := eqb_no (a := c) (b := 40) (by omega); have e6 := eqb_no (a := c) (b := 41) (by omega); have e7 := eqb_no (a := c) (b := 44) (by omega); have e8 := eqb_no (a := c) (b := 59) (by omega)
    have e9 := eqb_no (a := c) (b := 47) (by omega); have e10 := eqb_no (a := c) (b := 45) (by omega); have e11 := eqb_no (a := c) (b := 58) (by omega); have e12 := eqb_no (a := c) (b := 35) (by omega)
    obtain ⟨r, hr⟩ : ∃ r, kindB c = r := ⟨_, rfl⟩
    have hr2 := hr
    unfold kindB letB digB at hr2
    rw [hr]
    have HR := Lib.hid hr2
    have HLIT := Lib.hid hlit
    clear hr hr2 hlit
    have hc : c < 48 ∨ (48 ≤ c ∧ c ≤ 57) ∨ (58 ≤ c ∧ c < 65) ∨ (65 ≤ c ∧ c ≤ 90) ∨ (91 ≤ c ∧ c < 97) ∨ (97 ≤ c ∧ c ≤ 122) ∨ 122 < c := by omega
    rcases hc with hc | ⟨hc, hd⟩ | ⟨hc, hd⟩ | ⟨hc, hd⟩ | ⟨hc, hd⟩ | ⟨hc, hd⟩ | hc
    all_goals
      go_enter Try.func45, Try.ntmps45
      go_wp2
      go_ret
      refine ⟨ret_int ?_, rfl⟩
      rw [← HR.out]
      have hl := HLIT.out
      simp only [decide_eq_true_eq]
      repeat (first | rw [if_neg (by omega)] | rw [if_pos (by omega)])

/-- the first byte at or behind k that is neither a letter nor a digit -/
def wordEnd (s : ByteArray) (k : Nat) : Nat := k + ((s.data.toList.drop k).takeWhile wordB).length
theorem wordEnd_yes {s : ByteArray} {k : Nat} (h : k < s.size) (hw : wordB (s[k]'h) = true) : wordEnd s k = wordEnd s (k + 1) := by
  have hg := get_list h
  have hk : k < s.data.toList.length := by simpa using h
  unfold wordEnd
  rw [List.drop_eq_getElem_cons hk]
  have e : s.data.toList[k] = s[k]'h := by rw [List.getElem?_eq_getElem hk] at hg; exact Option.some.inj hg
  rw [e, List.takeWhile_cons, if_pos hw, List.length_cons]
  omega
theorem wordEnd_no {s : ByteArray} {k : Nat} (h : k < s.size) (hw : wordB (s[k]'h) = false) : wordEnd s k = k := by
  have hg := get_list h
  have hk : k < s.data.toList.length := by simpa using h
  unfold wordEnd
  rw [List.drop_eq_getElem_cons hk]
  have e : s.data.toList[k] = s[k]'h := by rw [List.getElem?_eq_getElem hk] at hg; exact Option.some.inj hg
  rw [e, List.takeWhile_cons, if_neg (by simp [hw])]
  rfl
theorem wordEnd_end {s : ByteArray} {k : Nat} (h : ¬ k < s.size) : wordEnd s k = k := by
  unfold wordEnd
  rw [List.drop_eq_nil_of_le (by simp; omega)]
  rfl
theorem wordEnd_all (s : ByteArray) : wordEnd s 0 = s.size ↔ s.data.toList.all wordB = true := by
  unfold wordEnd
  have hl : s.data.toList.length = s.size := by simp
  rw [List.drop_zero, Nat.zero_add, ← hl]
  generalize s.data.toList = l
  induction l with
  | nil => simp
  | cons x l ih =>
    rw [List.takeWhile_cons, List.all_cons]
    cases hw : wordB x
    · simp
    · simp [ih]
theorem wordEnd_le (s : ByteArray) (k : Nat) (h : k ≤ s.size) : wordEnd s k ≤ s.size := by
  unfold wordEnd
  have := (List.takeWhile_prefix wordB (l := s.data.toList.drop k)).length_le
  have hl : s.data.toList.length = s.size := by simp
  rw [List.length_drop, hl] at this
  omega
set_option maxHeartbeats 2000000 in
theorem wordEnd_any (s : ByteArray) (k0 : Nat) (w : World) (hs : s.size ≤ 9223372036854775806) (hk0 : k0 ≤ s.size) :
    Calls Try.prog 46 #[.string s, .int .i64 k0, .bool true] w fun e w' => e = .returned (.int .i64 (wordEnd s k0 : Nat)) ∧ w = w' := by
  obtain ⟨r, hr⟩ : ∃ r, wordEnd s k0 = r := ⟨_, rfl⟩
  rw [hr]
  have HR := Lib.hid hr
  clear hr
  go_enter Try.func46, Try.ntmps46
  go_wp2
  go_loop [1] (fun q => ∃ k : Nat, k ≤ s.size ∧ q = .int .i64 k ∧ Hid (wordEnd s k = r)) (fun q => s.size - (intOf q).toNat)
  case atStart => exact ⟨k0, hk0, rfl, HR.out⟩
  case round =>
    obtain ⟨k, hk, rfl, hw⟩ := hrel
    by_cases hlt : k < s.size
    · have C := kindOf_any ((s[k]'hlt).toNat : Nat) w (by omega) (by have := (s[k]'hlt).toNat_lt; omega)
      have h2 := kindB_let ((s[k]'hlt).toNat : Nat)
      have h3 := kindB_dig ((s[k]'hlt).toNat : Nat)
      have hwb : wordB (s[k]'hlt) = (letB ((s[k]'hlt).toNat : Nat) || digB ((s[k]'hlt).toNat : Nat)) := rfl
      have hy := fun h => wordEnd_yes hlt h
      have hn := fun h => wordEnd_no hlt h
      revert C h2 h3
      generalize kindB ((s[k]'hlt).toNat : Nat) = q
      intro C h2 h3
      replace C := Lib.hid C
      by_cases hq3 : q = 3
      · have e3 : (q == 3) = true := by simpa using hq3
        have hnx : wordEnd s (k + 1) = r := by rw [← hy (by rw [hwb, h3.1 hq3]; simp)]; exact hw.out
        have HNX := Lib.hid hnx
        clear hq3 h2 h3 hwb hy hn hnx
        go_wp2_with (go_at_call 45; refine C.out.mono ?_; rintro e w' ⟨rfl, rfl⟩)
        go_round
        case rel => exact ⟨k + 1, by omega, by go_num, HNX.out⟩
        case measure => simp [intOf]; omega
      · have e3 : (q == 3) = false := by simpa using hq3
        by_cases hq2 : q = 2
        · have e2 : (q == 2) = true := by simpa using hq2
          have hnx : wordEnd s (k + 1) = r := by rw [← hy (by rw [hwb, h2.1 hq2]; simp)]; exact hw.out
          have HNX := Lib.hid hnx
          clear hq3 hq2 h2 h3 hwb hy hn hnx
          go_wp2_with (go_at_call 45; refine C.out.mono ?_; rintro e w' ⟨rfl, rfl⟩)
          go_round
          case rel => exact ⟨k + 1, by omega, by go_num, HNX.out⟩
          case measure => simp [intOf]; omega
        · have e2 : (q == 2) = false := by simpa using hq2
          have hfin : k = r := by
            rw [← hw.out, hn]
            rw [hwb]
            have n2 : letB ((s[k]'hlt).toNat : Nat) = false := by
              cases hb : letB ((s[k]'hlt).toNat : Nat)
              · rfl
              · exact absurd (h2.2 hb) hq2
            have n3 : digB ((s[k]'hlt).toNat : Nat) = false := by
              cases hb : digB ((s[k]'hlt).toNat : Nat)
              · rfl
              · exact absurd (h3.2 hb) hq3
            rw [n2, n3]; rfl
          have HF := Lib.hid hfin
          clear hq3 hq2 h2 h3 hwb hy hn hfin
          go_wp2_with (go_at_call 45; refine C.out.mono ?_; rintro e w' ⟨rfl, rfl⟩)
          go_ret
          exact ⟨ret_int (by have := HF.out; omega), rfl⟩
    · have hfin : k = r := by rw [← hw.out, wordEnd_end hlt]
      have HF := Lib.hid hfin
      clear hfin
      go_wp2
      go_ret
      exact ⟨ret_int (by have := HF.out; omega), rfl⟩

set_option maxHeartbeats 2000000 in
theorem isName_any (s : ByteArray) (w : World) (hs : s.size ≤ 9223372036854775807) :
    Calls Try.prog 27 #[.string s] w fun e w' => e = .returned (.bool (isNameB s)) ∧ Below w.heap.size w w' := by
  obtain ⟨r, hr⟩ : ∃ r, isNameB s = r := ⟨_, rfl⟩
  rw [hr]
  have HR := Lib.hid hr
  clear hr
  by_cases h0 : s.size = 0
  · have e := size_zero.1 h0
    subst e
    have hr : r = false := by rw [← HR.out]; exact isNameB_empty
    subst hr
    clear h0 hs
    go_enter Try.func27, Try.ntmps27
    go_wp2
    go_ret
    exact ⟨rfl, Below.refl _ _⟩
  · have hse : s.toList.isEmpty = false := by rw [str_isEmpty]; simp; exact fun e => h0 (size_zero.2 e)
    have hse2 : s.toList ≠ [] := by intro e; rw [e] at hse; cases hse
    have H0 := Lib.hid h0
    clear h0
    by_cases h20 : s.size ≤ 20
    · have hp : 0 < s.size := by have := H0.out; omega
      have CK := kindOf_any ((s[0]'hp).toNat : Nat) w (by omega) (by have := (s[0]'hp).toNat_lt; omega)
      have h2 := kindB_let ((s[0]'hp).toNat : Nat)
      rw [← headB_cons hp] at h2
      have CE := wordEnd_any s 0 w (by omega) (by omega)
      have hend := wordEnd_all s
      have hle := wordEnd_le s 0 (by omega)
      revert CK h2 CE hend hle
      generalize kindB ((s[0]'hp).toNat : Nat) = q
      generalize wordEnd s 0 = en
      intro CK h2 CE hend hle
      replace CK := Lib.hid CK; replace CE := Lib.hid CE
      have HEND := Lib.hid hend
      by_cases hq : q = 2
      · have eq : (q != 2) = false := by simpa using hq
        have hb := h2.1 hq
        have HB := Lib.hid hb
        clear h2 hq hb hend
        by_cases hlt : en < s.size
        · have hall : s.data.toList.all wordB = false := by
            cases h : s.data.toList.all wordB
            · rfl
            · have := HEND.out.2 h; omega
          have hr : r = false := by rw [← HR.out]; simp [isNameB, hall]
          subst hr
          clear hall
          go_enter Try.func27, Try.ntmps27
          go_wp2_with (first | (go_at_call 45; refine CK.out.mono ?_; rintro e w' ⟨rfl, rfl⟩) | (go_at_call 46; refine CE.out.mono ?_; rintro e w' ⟨rfl, rfl⟩))
          go_ret
          exact ⟨rfl, Below.refl _ _⟩
        · have hall : s.data.toList.all wordB = true := HEND.out.1 (by omega)
          have HK : r = !keyB s := by rw [← HR.out]; simp [isNameB, HB.out, hall, h20]
          replace HK := Lib.hid HK
          have CW := keywords_any w
          replace CW := Lib.hid CW
          have hk0 := Blk.new w 9 (keywords.map Value.string).toArray
          have hkb : Below w.heap.size w (w.alloc (.cells (keywords.map Value.string).toArray 9)) := (Below.refl _ _).alloc (Nat.le_refl _) _
          clear hall
          go_enter Try.func27, Try.ntmps27
          go_wp2_with (first | (go_at_call 45; refine CK.out.mono ?_; rintro e w' ⟨rfl, rfl⟩) | (go_at_call 46; refine CE.out.mono ?_; rintro e w' ⟨rfl, rfl⟩) | (go_at_call 47; refine CW.out.mono ?_; rintro e w' ⟨rfl, rfl⟩))
          revert hk0 hkb
          generalize w.alloc (.cells (keywords.map Value.string).toArray 9) = w3
          intro hk0 hkb
          clear CK CE CW
          go_loopg [4, 27] 29 (fun g _ i wv => ∃ k : Nat, k + g = 29 ∧ i = .int .i64 k ∧ Blk wv w.heap.size 9 (keywords.map Value.string).toArray ∧ Below w.heap.size w wv ∧ ((keywords.take k).any fun k => decide (s = k)) = false)
          case atStart => exact ⟨0, by omega, rfl, hk0, hkb, rfl⟩
          case round =>
            obtain ⟨k, hkg, rfl, hk, hbv, hno⟩ := hrel
            have HNO := Lib.hid hno
            have HKG := Lib.hid hkg
            have HKB := Lib.hid hk
            have hsz3 := hk.lt
            clear hk0 hkb hno hkg hk
            by_cases hlt2 : k < 29
            · obtain ⟨x, hx⟩ := get_of_lt (xs := keywords) (k := k) (by rw [keywords_len]; exact hlt2)
              have hc : wr.cell? ⟨w.heap.size, k, none⟩ = some (.string x) := by rw [HKB.out.cell]; simp [hx]
              have HX := Lib.hid hx
              clear hx
              by_cases he : s = x
              · have hbe : (x.toList == s.toList) = true := by rw [str_beq]; simpa using he.symm
                have HE := Lib.hid he
                clear he
                go_wp2
                go_ret
                exact ⟨ret_bool (by rw [HK.out, keyB_mem HX.out HE.out]; rfl), hbv⟩
              · have hbe : (x.toList == s.toList) = false := by rw [str_beq]; simpa using fun e => he e.symm
                have HE := Lib.hid he
                clear he
                go_wp2
                go_roundg (gk - 1)
                case rel => exact ⟨k + 1, by have := HKG.out; omega, by go_num, HKB.out, hbv, by rw [keyB_take HX.out, HNO.out]; simp [HE.out]⟩
                case measure => have := HKG.out; omega
            · go_wp2
              go_ret
              refine ⟨ret_bool ?_, hbv⟩
              have := HNO.out
              rw [List.take_of_length_le (by rw [keywords_len]; omega)] at this
              rw [HK.out, keyB, this]; rfl
      · have eq : (q != 2) = true := by simpa using hq
        have hb : headB s = false := by
          cases h : headB s
          · rfl
          · exact absurd (h2.2 h) hq
        have hr : r = false := by rw [← HR.out]; simp [isNameB, hb]
        subst hr
        clear h2 hq hb hend
        go_enter Try.func27, Try.ntmps27
        go_wp2_with (go_at_call 45; refine CK.out.mono ?_; rintro e w' ⟨rfl, rfl⟩)
        go_ret
        exact ⟨rfl, Below.refl _ _⟩
    · have hr : r = false := by rw [← HR.out]; simp [isNameB]; omega
      subst hr
      go_enter Try.func27, Try.ntmps27
      go_wp2
      go_ret
      exact ⟨rfl, Below.refl _ _⟩
end Go.Proofs.YtgbnadckhjfebaaRR
