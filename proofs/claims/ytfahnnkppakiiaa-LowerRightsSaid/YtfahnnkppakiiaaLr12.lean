/- Walks: whether a string is a name, by the reference and by the program. -/
import Derived.Test.YtfahnnkppakiiaaLr11
import Derived.Test.YtfahnnkppakiiaaLr5
import Derived.Test.YtfahnnkppakiiaaLr1
import Derived.Test.YtfahnnkppakiiaaRows

/- Walk: the program's rational numbers: Right. -/
namespace Go.Proofs.Ytfahnnkppakiiaa
open Go.RowKit

theorem rt_right_one {neg : Bool} {num den : List Int} (hI : rightI neg num = true) (hc : canonB den = true) (h0 : 0 < den.length) (h1 : decide (den.length = 1 ∧ limbAt den 0 = 1) = true) : Rt.right ⟨neg, num, den⟩ = true := by
  rw [decide_eq_true_eq] at h1
  obtain ⟨h1, h2⟩ := h1
  match den, h1 with
  | [x], _ =>
    simp [limbAt] at h2
    subst h2
    simp [Rt.right, hI, hc, val]
theorem rt_right_gcd {neg : Bool} {num den : List Int} (hI : rightI neg num = true) (hc : canonB den = true) (h0 : 0 < den.length) : Rt.right ⟨neg, num, den⟩ = decide (Nat.gcd (val num) (val den) = 1) := by
  simp [Rt.right, hI, hc, h0]

set_option maxRecDepth 100000 in
set_option maxHeartbeats 2000000 in
theorem rightQ_any (r : Rt) (na : Option Addr) (nc : Nat) (da : Option Addr) (dc : Nat) (w : World) (h : NatR w na nc r.num) (h' : NatR w da dc r.den) (hl : r.num.length ≤ 2000000) (hm : r.den.length ≤ 2000000) :
    Calls Try.prog 39 #[r.val na nc da dc] w fun e w' => e = .returned (.bool r.right) ∧ Below w.heap.size w w' := by
  obtain ⟨neg, num, den⟩ := r
  have CR := fun W (hW : Below w.heap.size w W) => rightI_any neg num na nc W (h.ext (Ext.below hW))
  have CO := fun W (hW : Below w.heap.size w W) => one_any den da dc W (h'.ext (Ext.below hW))
  have CG := fun W (hW : Below w.heap.size w W) => gcd_any num den (val num) (val den) na da nc dc W (h.ext (Ext.below hW)) (h'.ext (Ext.below hW)) rfl rfl hl hm
  have CO2 := fun n a c W => one_any (limbs n) a c W
  simp only [one_limbs] at CO2
  unfold Rt.val
  dsimp only
  dsimp only at hl hm
  obtain ⟨res, hres⟩ : ∃ q, Rt.right ⟨neg, num, den⟩ = q := ⟨_, rfl⟩
  rw [hres]
  obtain ⟨b1, hb1⟩ : ∃ b, rightI neg num = b := ⟨_, rfl⟩
  rw [hb1] at CR
  replace CR := Lib.hid CR; replace CO := Lib.hid CO; replace CG := Lib.hid CG; replace CO2 := Lib.hid CO2
  have hw0 : Below w.heap.size w (w.alloc (.cells #[.bool neg, .slice na num.length nc, .slice da den.length dc] 33)) := (Below.refl _ _).alloc (Nat.le_refl _) _
  have hz : Blk (w.alloc (.cells #[.bool neg, .slice na num.length nc, .slice da den.length dc] 33)) w.heap.size 33 #[.bool neg, .slice na num.length nc, .slice da den.length dc] := Blk.new w _ _
  cases b1
  · have hr : res = false := by rw [← hres]; simp [Rt.right, hb1]
    subst hr
    clear hres hb1 h h' hz
    go_enter Try.func39, Try.ntmps39
    go_wp2_with fail
    refine (CR.out _ hw0).mono ?_
    rintro e w1 ⟨rfl, hb⟩
    have hw1 := below_then hw0 hb
    go_wp2
    go_ret
    exact ⟨rfl, hw1⟩
  · by_cases h0 : den.length = 0
    · have hr : res = false := by rw [← hres]; simp [Rt.right, h0]
      subst hr
      obtain rfl : den = [] := List.length_eq_zero_iff.1 h0
      clear hres hb1 h h' hz h0
      go_enter Try.func39, Try.ntmps39
      go_wp2_with fail
      refine (CR.out _ hw0).mono ?_
      rintro e w1 ⟨rfl, hb⟩
      have hw1 := below_then hw0 hb
      go_wp2
      go_ret
      exact ⟨rfl, hw1⟩
    · obtain ⟨x, hx⟩ := get_of_lt (xs := den) (k := den.length - 1) (by omega)
      obtain ⟨b, off, rfl, hc⟩ := h'.cell hx
      have hcan := canonB_last (l := den) h'.u16 hx (by omega)
      have hk := held hc
      have hi1 : (0 : Int) ≤ (den.length : Int) - 1 := by omega
      have hti : ((den.length : Int) - 1).toNat = den.length - 1 := by omega
      have hdl : (den.length : Int) ≤ 2000000 := by omega
      have he : ((den.length : Int) == 0) = false := by rw [beq_eq_false_iff_ne]; omega
      by_cases hx0 : x = 0
      · subst hx0
        have hr : res = false := by rw [← hres]; simp [Rt.right, hcan]
        subst hr
        clear hres hb1 h h' hx hc hcan h0
        go_enter Try.func39, Try.ntmps39
        go_wp2_with fail
        revert hw0 hz
        generalize w.alloc (.cells #[.bool neg, .slice na num.length nc, .slice (some ⟨b, off, none⟩) den.length dc] 33) = w0
        intro hw0 hz
        refine (CR.out _ hw0).mono ?_
        rintro e w1 ⟨rfl, hb⟩
        have hw1 := below_then hw0 hb
        have hz1 := hz.below' hb
        have z1 := hz1.cell 1; have z2 := hz1.cell 2; have z0 := hz1.cell 0
        have k1 := hk _ hw1
        clear hb hz hw0
        go_wp2
        go_ret
        exact ⟨rfl, hw1⟩
      · have hxb : (x == 0) = false := by simpa using hx0
        have hcan2 : canonB den = true := by rw [hcan, hxb]; rfl
        obtain ⟨bo, hbo⟩ : ∃ q, decide (den.length = 1 ∧ limbAt den 0 = 1) = q := ⟨_, rfl⟩
        rw [hbo] at CO
        have HRES := Lib.hid hres
        have HB1 := Lib.hid hb1
        have HC := Lib.hid hcan2
        have HBO := Lib.hid hbo
        have H0 := Lib.hid h0
        clear hres hb1 h h' hx hc hcan hcan2 hbo h0 hx0
        cases bo
        · obtain ⟨g, hg⟩ : ∃ g, Nat.gcd (val num) (val den) = g := ⟨_, rfl⟩
          have hr : decide (g = 1) = res := by rw [← HRES.out, rt_right_gcd HB1.out HC.out (by have := H0.out; omega)]; simp only [hg]
          rw [hg] at CG
          have CO3 := CO2.out g
          rw [hr] at CO3
          replace CO3 := Lib.hid CO3
          clear hg hr CO2
          go_enter Try.func39, Try.ntmps39
          go_wp2_with fail
          revert hw0 hz
          generalize w.alloc (.cells #[.bool neg, .slice na num.length nc, .slice (some ⟨b, off, none⟩) den.length dc] 33) = w0
          intro hw0 hz
          refine (CR.out _ hw0).mono ?_
          rintro e w1 ⟨rfl, hb⟩
          have hw1 := below_then hw0 hb
          have hz1 := hz.below' hb
          have z1 := hz1.cell 1; have z2 := hz1.cell 2; have z0 := hz1.cell 0
          have k1 := hk _ hw1
          clear hb hz hw0
          go_wp2_with fail
          refine (CO.out _ hw1).mono ?_
          rintro e w2 ⟨rfl, hb⟩
          have hw2 := below_then hw1 hb
          have hz2 := hz1.below' hb
          have y1 := hz2.cell 1; have y2 := hz2.cell 2; have y0 := hz2.cell 0
          clear hb hz1 hw1 z0 z1 z2 k1
          go_wp2_with fail
          refine (CG.out _ hw2).mono ?_
          rintro e w3 ⟨a3, c3, rfl, hV, hb⟩
          have hw3 := below_then hw2 hb
          have hrd := hV w3 (New.refl _ _)
          clear hb hV y0 y1 y2
          go_wp2_with fail
          refine (CO3.out _ _ _ hrd).mono ?_
          rintro e w4 ⟨rfl, hb⟩
          have hw4 := below_then hw3 hb
          clear hrd hb
          go_wp2
          go_ret
          exact ⟨rfl, hw4⟩
        · have hr : res = true := by rw [← HRES.out]; exact rt_right_one HB1.out HC.out (by have := H0.out; omega) HBO.out
          subst hr
          go_enter Try.func39, Try.ntmps39
          go_wp2_with fail
          revert hw0 hz
          generalize w.alloc (.cells #[.bool neg, .slice na num.length nc, .slice (some ⟨b, off, none⟩) den.length dc] 33) = w0
          intro hw0 hz
          refine (CR.out _ hw0).mono ?_
          rintro e w1 ⟨rfl, hb⟩
          have hw1 := below_then hw0 hb
          have hz1 := hz.below' hb
          have z1 := hz1.cell 1; have z2 := hz1.cell 2; have z0 := hz1.cell 0
          have k1 := hk _ hw1
          clear hb hz hw0
          go_wp2_with fail
          refine (CO.out _ hw1).mono ?_
          rintro e w2 ⟨rfl, hb⟩
          have hw2 := below_then hw1 hb
          go_wp2
          go_ret
          exact ⟨rfl, hw2⟩
end Go.Proofs.Ytfahnnkppakiiaa

/- Walks: arities and the zero value, by the program. -/
namespace Go.Proofs.Ytfahnnkppakiiaa
open Go.RowKit

set_option maxHeartbeats 2000000 in
theorem arityP_any (k : Int) (w : World) : Calls Try.prog 69 #[.int .i64 k] w fun e w' => e = .returned (.int .i64 (arity14 k)) ∧ w = w' := by
  by_cases hk : 1 ≤ k ∧ k ≤ 9
  · have hc : k = 1 ∨ k = 2 ∨ k = 3 ∨ k = 4 ∨ k = 5 ∨ k = 6 ∨ k = 7 ∨ k = 8 ∨ k = 9 := by omega
    clear hk
    rcases hc with rfl | rfl | rfl | rfl | rfl | rfl | rfl | rfl | rfl
    all_goals
      go_enter Try.func69, Try.ntmps69
      go_wp2
      go_ret
      exact ⟨ret_int (by decide), rfl⟩
  · have h1 := eqb_false (a := k) (b := 1) (by omega); have h2 := eqb_false (a := k) (b := 2) (by omega); have h3 := eqb_false (a := k) (b := 3) (by omega)
    have h4 := eqb_false (a := k) (b := 4) (by omega); have h5 := eqb_false (a := k) (b := 5) (by omega); have h6 := eqb_false (a := k) (b := 6) (by omega)
    have h7 := eqb_false (a := k) (b := 7) (by omega); have h8 := eqb_false (a := k) (b := 8) (by omega); have h9 := eqb_false (a := k) (b := 9) (by omega)
    have hr : arity14 k = 0 := by unfold arity14; rw [if_neg (by omega), if_neg (by omega), if_neg (by omega), if_neg (by omega)]
    rw [hr]
    clear hr hk
    go_enter Try.func69, Try.ntmps69
    go_wp2
    go_ret
    exact ⟨rfl, rfl⟩
set_option maxHeartbeats 2000000 in
theorem arityL_any (k : Int) (w : World) : Calls Try.prog 15 #[.int .i64 k] w fun e w' => e = .returned (.int .i64 (arity20 k)) ∧ w = w' := by
  by_cases hk : 1 ≤ k ∧ k ≤ 14
  · have hc : k = 1 ∨ k = 2 ∨ k = 3 ∨ k = 4 ∨ k = 5 ∨ k = 6 ∨ k = 7 ∨ k = 8 ∨ k = 9 ∨ k = 10 ∨ k = 11 ∨ k = 12 ∨ k = 13 ∨ k = 14 := by omega
    clear hk
    rcases hc with rfl | rfl | rfl | rfl | rfl | rfl | rfl | rfl | rfl | rfl | rfl | rfl | rfl | rfl
    all_goals
      go_enter Try.func15, Try.ntmps15
      go_wp2
      go_ret
      exact ⟨ret_int (by decide), rfl⟩
  · have h1 := eqb_false (a := k) (b := 1) (by omega); have h2 := eqb_false (a := k) (b := 2) (by omega); have h3 := eqb_false (a := k) (b := 3) (by omega)
    have h4 := eqb_false (a := k) (b := 4) (by omega); have h5 := eqb_false (a := k) (b := 5) (by omega); have h6 := eqb_false (a := k) (b := 6) (by omega)
    have h7 := eqb_false (a := k) (b := 7) (by omega); have h8 := eqb_false (a := k) (b := 8) (by omega); have h9 := eqb_false (a := k) (b := 9) (by omega)
    have h10 := eqb_false (a := k) (b := 10) (by omega); have h11 := eqb_false (a := k) (b := 11) (by omega); have h12 := eqb_false (a := k) (b := 12) (by omega)
    have h13 := eqb_false (a := k) (b := 13) (by omega); have h14 := eqb_false (a := k) (b := 14) (by omega)
    have hr : arity20 k = -1 := by unfold arity20; rw [if_neg (by omega), if_neg (by omega), if_neg (by omega), if_neg (by omega)]
    rw [hr]
    clear hr hk
    go_enter Try.func15, Try.ntmps15
    go_wp2
    go_ret
    exact ⟨rfl, rfl⟩

set_option maxHeartbeats 1000000 in
theorem zeroP_any (r : Rt) (na : Option Addr) (nc : Nat) (da : Option Addr) (dc : Nat) (w : World) (hl : r.num.length ≤ 2000000) (hm : r.den.length ≤ 2000000) :
    Calls Try.prog 70 #[r.val na nc da dc] w fun e w' => e = .returned (.bool r.none) ∧ Below w.heap.size w w' := by
  obtain ⟨neg, num, den⟩ := r
  unfold Rt.val Rt.none
  dsimp only at hl hm ⊢
  by_cases h1 : num.length = 0 <;> by_cases h2 : den.length = 0
  all_goals
    have e1 : ((num.length : Int) == 0) = decide (num.length = 0) := by rw [Bool.eq_iff_iff]; simp
    have e2 : ((den.length : Int) == 0) = decide (den.length = 0) := by rw [Bool.eq_iff_iff]; simp
    have d1 : decide (num.length = 0) = decide (num.length = 0) := rfl
    simp only [h1, h2, decide_true, decide_false] at e1 e2
    have HH : (decide (num.length = 0), decide (den.length = 0)) = (decide (num.length = 0), decide (den.length = 0)) := rfl
    simp only [h1, h2, decide_true, decide_false] at HH ⊢
    clear HH d1
    cases neg
    all_goals
      have H1 := Lib.hid h1
      have H2 := Lib.hid h2
      clear h1 h2
      go_enter Try.func70, Try.ntmps70
      go_wp2
      go_ret
      exact ⟨rfl, (Below.refl _ _).alloc (Nat.le_refl _) _⟩
set_option maxHeartbeats 1000000 in
theorem noneL_any (r : Rt) (na : Option Addr) (nc : Nat) (da : Option Addr) (dc : Nat) (w : World) (hl : r.num.length ≤ 2000000) (hm : r.den.length ≤ 2000000) :
    Calls Try.prog 65 #[r.val na nc da dc] w fun e w' => e = .returned (.bool r.none) ∧ Below w.heap.size w w' := by
  obtain ⟨neg, num, den⟩ := r
  unfold Rt.val Rt.none
  dsimp only at hl hm ⊢
  by_cases h1 : num.length = 0 <;> by_cases h2 : den.length = 0
  all_goals
    have e1 : ((num.length : Int) == 0) = decide (num.length = 0) := by rw [Bool.eq_iff_iff]; simp
    have e2 : ((den.length : Int) == 0) = decide (den.length = 0) := by rw [Bool.eq_iff_iff]; simp
    have d1 : decide (num.length = 0) = decide (num.length = 0) := rfl
    simp only [h1, h2, decide_true, decide_false] at e1 e2
    have HH : (decide (num.length = 0), decide (den.length = 0)) = (decide (num.length = 0), decide (den.length = 0)) := rfl
    simp only [h1, h2, decide_true, decide_false] at HH ⊢
    clear HH d1
    cases neg
    all_goals
      have H1 := Lib.hid h1
      have H2 := Lib.hid h2
      clear h1 h2
      go_enter Try.func65, Try.ntmps65
      go_wp2
      go_ret
      exact ⟨rfl, (Below.refl _ _).alloc (Nat.le_refl _) _⟩
end Go.Proofs.Ytfahnnkppakiiaa

/- Walk: whether a fact is right, by the reference. -/
namespace Go.Proofs.Ytfahnnkppakiiaa
open Go.RowKit

theorem any_take {α : Type} {p : α → Bool} {l : List α} {k : Nat} {x : α} (h : l[k]? = some x) : (l.take (k + 1)).any p = ((l.take k).any p || p x) := by
  rw [take_more h, List.any_append]; simp
theorem any_mem {α : Type} {p : α → Bool} {l : List α} {k : Nat} {x : α} (h : l[k]? = some x) (e : p x = true) : l.any p = true := by
  rw [List.any_eq_true]; exact ⟨x, List.mem_of_getElem? h, e⟩

set_option maxRecDepth 100000 in
set_option maxHeartbeats 2000000 in
theorem right14_any (f : Fct) (n : Int) (p : RA) (w : World) (h : PartsR w p f.args f.ratio) (hq : f.ratio.few) (hn : InInt n) (hk : InInt f.kind) :
    Calls Try.prog 38 #[f.val p.aa p.ac p.na p.nc p.da p.dc, .int .i64 n] w fun e w' => e = .returned (.int .i64 (errFct f n)) ∧ Below w.heap.size w w' := by
  obtain ⟨kind, args, r⟩ := f
  obtain ⟨aa, ac, na, nc, da, dc⟩ := p
  obtain ⟨hI, hN, hD⟩ := h
  dsimp only at hI hN hD hq hk
  obtain ⟨res, hres⟩ : ∃ x, errFct ⟨kind, args, r⟩ n = x := ⟨_, rfl⟩
  rw [hres]
  unfold errFct at hres
  dsimp only at hres
  have CA := arity14_any kind
  have hA := arity14_in kind
  have CR := fun W (hW : Below w.heap.size w W) => right03_any r na nc da dc W (hN.ext (Ext.below hW)) (hD.ext (Ext.below hW)) hq.1 hq.2
  have CN := fun W => none14_any r na nc da dc W hq.1 hq.2
  have hlen := hI.len
  have hIn : ∀ a ∈ args, InInt a := fun a ha => by
    obtain ⟨k, hk⟩ := List.mem_iff_getElem?.1 ha
    obtain ⟨b, off, _, hc, hw⟩ := hI.2.2 k a hk
    exact inInt_of hw
  have HI := Lib.hid hI
  have HIn := Lib.hid hIn
  revert CA hA hres CR CN
  generalize arity14 kind = ar
  generalize r.right = br
  generalize r.none = bn
  intro hres CA hA CR CN
  replace CA := Lib.hid CA; replace CR := Lib.hid CR; replace CN := Lib.hid CN
  have HRES := Lib.hid hres
  obtain ⟨hn1, hn2⟩ := hn
  obtain ⟨hk1, hk2⟩ := hk
  obtain ⟨neg, num, den⟩ := r
  unfold Rt.val at CR CN
  unfold Fct.val
  dsimp only at CR CN ⊢
  clear hres hI hN hD hIn hq
  have hz := Blk.new w 62 #[.int .i64 kind, .slice aa args.length ac, .bool neg, .slice na num.length nc, .slice da den.length dc]
  have hb0 : Below w.heap.size w (w.alloc (.cells #[.int .i64 kind, .slice aa args.length ac, .bool neg, .slice na num.length nc, .slice da den.length dc] 62)) := (Below.refl _ _).alloc (Nat.le_refl _) _
  by_cases h0 : ar = 0
  · have he : (ar == 0) = true := by simpa using h0
    have hr : res = 8 := by rw [← HRES.out, if_pos h0]
    subst hr
    clear h0 hz
    go_enter Try.func38, Try.ntmps38
    go_wp2_with (go_at_call 73; refine (CA.out _).mono ?_; rintro e w' ⟨rfl, rfl⟩)
    go_ret
    exact ⟨rfl, hb0⟩
  · have he : (ar == 0) = false := by simpa using h0
    have H0 := Lib.hid h0
    clear h0
    by_cases h1 : (args.length : Int) = ar
    · have he1 : ((args.length : Int) != ar) = false := by simpa using h1
      have H1 := Lib.hid h1
      clear h1
      go_enter Try.func38, Try.ntmps38
      go_wp2_with fail
      revert hz hb0
      generalize w.alloc (.cells #[.int .i64 kind, .slice aa args.length ac, .bool neg, .slice na num.length nc, .slice da den.length dc] 62) = w0
      intro hz hb0
      have z0 := hz.cell 0; have z1 := hz.cell 1; have z2 := hz.cell 2; have z3 := hz.cell 3; have z4 := hz.cell 4
      refine (CA.out _).mono ?_
      rintro e w' ⟨rfl, rfl⟩
      go_wp2
      go_quiet ((go_at_call 73; exact Calls.quiet_of_same ((CA.out _).mono fun _ _ h => ⟨h.1, h.2.symm⟩)))
      have hz1 : Blk (w0.drewN nq) w.heap.size 62 #[.int .i64 kind, .slice aa args.length ac, .bool neg, .slice na num.length nc, .slice da den.length dc] := hz
      have hb1 := below_drewN hb0 nq
      clear z0 z1 z2 z3 z4 hz hb0 CA
      revert hz1 hb1
      generalize w0.drewN nq = w1
      intro hz1 hb1
      have z0 := hz1.cell 0; have z1 := hz1.cell 1; have z2 := hz1.cell 2; have z3 := hz1.cell 3; have z4 := hz1.cell 4
      go_wp2
      go_loop [6, 21] (fun _ i => ∃ k : Nat, k ≤ args.length ∧ i = .int .i64 k ∧ Hid ((args.take k).any (badArg n) = false)) (fun _ i => args.length - (intOf i).toNat)
      case atStart => exact ⟨0, by omega, rfl, rfl⟩
      case round =>
        obtain ⟨k, hk, rfl, hno⟩ := hrel
        by_cases hlt : k < args.length
        · obtain ⟨x, hx⟩ := get_of_lt hlt
          obtain ⟨b, off, rfl, hc⟩ := (HI.out.ext (Ext.below hb1)).2.2 k x hx
          have hc1 : w1.cell? ⟨b, off + k, none⟩ = some (.int .i64 x) := by simpa using hc.1
          obtain ⟨hx1, hx2⟩ := HIn.out x (List.mem_of_getElem? hx)
          have HX := Lib.hid hx
          clear hc hx
          by_cases hbad : x < 0 ∨ n ≤ x
          · have hr : res = 2 := by
              have hany : args.any (badArg n) = true := any_mem HX.out (by unfold badArg; exact decide_eq_true hbad)
              rw [← HRES.out, if_neg H0.out, if_neg (by simpa using H1.out), if_pos hany]
            subst hr
            by_cases hx0 : x < 0
            · clear hbad
              go_wp2
              go_ret
              exact ⟨rfl, hb1⟩
            · have hge : n ≤ x := by omega
              clear hbad
              go_wp2
              go_ret
              exact ⟨rfl, hb1⟩
          · have hx0 : 0 ≤ x := by omega
            have hxn : x < n := by omega
            have hbf : badArg n x = false := by unfold badArg; exact decide_eq_false hbad
            have HBF := Lib.hid hbf
            clear hbad hbf
            go_wp2
            go_round
            case rel => exact ⟨k + 1, by omega, by go_num, by show _ = _; rw [any_take HX.out, hno.out, HBF.out]; rfl⟩
            case measure => simp [intOf]; omega
        · have hany : args.any (badArg n) = false := by
            have := hno.out
            rwa [take_all hlt] at this
          have hres2 : (if kind = 9 ∧ br = false then (1 : Int) else if kind ≠ 9 ∧ bn = false then 1 else 0) = res := by
            have := HRES.out
            rw [if_neg H0.out, if_neg (by simpa using H1.out), if_neg (by rw [hany]; simp)] at this
            exact this
          have HR2 := Lib.hid hres2
          clear hres2 hany
          by_cases hk9 : kind = 9
          · have hke : (kind == 9) = true := by simpa using hk9
            have hkn : (kind != 9) = false := by simpa using hk9
            have HK9 := Lib.hid hk9
            clear hk9
            cases br
            · have hr : res = 1 := by rw [← HR2.out, if_pos ⟨HK9.out, rfl⟩]
              subst hr
              go_wp2_with fail
              refine (CR.out _ hb1).mono ?_
              rintro e w2 ⟨rfl, hb2⟩
              have hb3 := below_then hb1 hb2
              go_wp2
              go_ret
              exact ⟨rfl, hb3⟩
            · have hr : res = 0 := by rw [← HR2.out, if_neg (by simp), if_neg (by simp [HK9.out])]
              subst hr
              go_wp2_with fail
              refine (CR.out _ hb1).mono ?_
              rintro e w2 ⟨rfl, hb2⟩
              have hb3 := below_then hb1 hb2
              have hz2 := hz1.below' hb2
              have y0 := hz2.cell 0
              clear hb2 hz2
              go_wp2
              go_ret
              exact ⟨rfl, hb3⟩
          · have hke : (kind == 9) = false := by simpa using hk9
            have hkn : (kind != 9) = true := by simpa using hk9
            have HK9 := Lib.hid hk9
            clear hk9
            cases bn
            · have hr : res = 1 := by rw [← HR2.out, if_neg (fun h => HK9.out h.1), if_pos ⟨HK9.out, rfl⟩]
              subst hr
              go_wp2_with fail
              refine (CN.out _).mono ?_
              rintro e w2 ⟨rfl, hb2⟩
              have hb3 := below_then hb1 hb2
              go_wp2
              go_ret
              exact ⟨rfl, hb3⟩
            · have hr : res = 0 := by rw [← HR2.out, if_neg (fun h => HK9.out h.1), if_neg (by simp)]
              subst hr
              go_wp2_with fail
              refine (CN.out _).mono ?_
              rintro e w2 ⟨rfl, hb2⟩
              have hb3 := below_then hb1 hb2
              go_wp2
              go_ret
              exact ⟨rfl, hb3⟩
    · have he1 : ((args.length : Int) != ar) = true := by simpa using h1
      have hr : res = 1 := by rw [← HRES.out, if_neg H0.out, if_pos h1]
      subst hr
      clear h1
      go_enter Try.func38, Try.ntmps38
      go_wp2_with fail
      revert hz hb0
      generalize w.alloc (.cells #[.int .i64 kind, .slice aa args.length ac, .bool neg, .slice na num.length nc, .slice da den.length dc] 62) = w0
      intro hz hb0
      have z0 := hz.cell 0; have z1 := hz.cell 1; have z2 := hz.cell 2; have z3 := hz.cell 3; have z4 := hz.cell 4
      refine (CA.out _).mono ?_
      rintro e w' ⟨rfl, rfl⟩
      go_wp2
      go_quiet ((go_at_call 73; exact Calls.quiet_of_same ((CA.out _).mono fun _ _ h => ⟨h.1, h.2.symm⟩)))
      go_wp2
      go_ret
      exact ⟨rfl, below_drewN hb0 _⟩
end Go.Proofs.Ytfahnnkppakiiaa

/- Walk: whether a fact is right, by the program. -/
namespace Go.Proofs.Ytfahnnkppakiiaa
open Go.RowKit

set_option maxRecDepth 100000 in
set_option maxHeartbeats 2000000 in
theorem rightP_any (f : Fct) (n : Int) (p : RA) (w : World) (h : PartsR w p f.args f.ratio) (hq : f.ratio.few) (hn : InInt n) (hk : InInt f.kind) :
    Calls Try.prog 36 #[f.val p.aa p.ac p.na p.nc p.da p.dc, .int .i64 n] w fun e w' => e = .returned (.int .i64 (errFct f n)) ∧ Below w.heap.size w w' := by
  obtain ⟨kind, args, r⟩ := f
  obtain ⟨aa, ac, na, nc, da, dc⟩ := p
  obtain ⟨hI, hN, hD⟩ := h
  dsimp only at hI hN hD hq hk
  obtain ⟨res, hres⟩ : ∃ x, errFct ⟨kind, args, r⟩ n = x := ⟨_, rfl⟩
  rw [hres]
  unfold errFct at hres
  dsimp only at hres
  have CA := arityP_any kind
  have hA := arity14_in kind
  have CR := fun W (hW : Below w.heap.size w W) => rightQ_any r na nc da dc W (hN.ext (Ext.below hW)) (hD.ext (Ext.below hW)) hq.1 hq.2
  have CN := fun W => zeroP_any r na nc da dc W hq.1 hq.2
  have hlen := hI.len
  have hIn : ∀ a ∈ args, InInt a := fun a ha => by
    obtain ⟨k, hk⟩ := List.mem_iff_getElem?.1 ha
    obtain ⟨b, off, _, hc, hw⟩ := hI.2.2 k a hk
    exact inInt_of hw
  have HI := Lib.hid hI
  have HIn := Lib.hid hIn
  revert CA hA hres CR CN
  generalize arity14 kind = ar
  generalize r.right = br
  generalize r.none = bn
  intro hres CA hA CR CN
  replace CA := Lib.hid CA; replace CR := Lib.hid CR; replace CN := Lib.hid CN
  have HRES := Lib.hid hres
  obtain ⟨hn1, hn2⟩ := hn
  obtain ⟨hk1, hk2⟩ := hk
  obtain ⟨neg, num, den⟩ := r
  unfold Rt.val at CR CN
  unfold Fct.val
  dsimp only at CR CN ⊢
  clear hres hI hN hD hIn hq
  have hz := Blk.new w 62 #[.int .i64 kind, .slice aa args.length ac, .bool neg, .slice na num.length nc, .slice da den.length dc]
  have hb0 : Below w.heap.size w (w.alloc (.cells #[.int .i64 kind, .slice aa args.length ac, .bool neg, .slice na num.length nc, .slice da den.length dc] 62)) := (Below.refl _ _).alloc (Nat.le_refl _) _
  by_cases h0 : ar = 0
  · have he : (ar == 0) = true := by simpa using h0
    have hr : res = 8 := by rw [← HRES.out, if_pos h0]
    subst hr
    clear h0 hz
    go_enter Try.func36, Try.ntmps36
    go_wp2_with (go_at_call 69; refine (CA.out _).mono ?_; rintro e w' ⟨rfl, rfl⟩)
    go_ret
    exact ⟨rfl, hb0⟩
  · have he : (ar == 0) = false := by simpa using h0
    have H0 := Lib.hid h0
    clear h0
    by_cases h1 : (args.length : Int) = ar
    · have he1 : ((args.length : Int) != ar) = false := by simpa using h1
      have H1 := Lib.hid h1
      clear h1
      go_enter Try.func36, Try.ntmps36
      go_wp2_with fail
      revert hz hb0
      generalize w.alloc (.cells #[.int .i64 kind, .slice aa args.length ac, .bool neg, .slice na num.length nc, .slice da den.length dc] 62) = w0
      intro hz hb0
      have z0 := hz.cell 0; have z1 := hz.cell 1; have z2 := hz.cell 2; have z3 := hz.cell 3; have z4 := hz.cell 4
      refine (CA.out _).mono ?_
      rintro e w' ⟨rfl, rfl⟩
      obtain ⟨w1, rfl⟩ : ∃ w1 : World, w1 = w0 := ⟨_, rfl⟩
      have hz1 := hz
      have hb1 := hb0
      clear hz hb0 CA
      go_wp2
      go_loop [7, 21] (fun _ i => ∃ k : Nat, k ≤ args.length ∧ i = .int .i64 k ∧ Hid ((args.take k).any (badArg n) = false)) (fun _ i => args.length - (intOf i).toNat)
      case atStart => exact ⟨0, by omega, rfl, rfl⟩
      case round =>
        obtain ⟨k, hk, rfl, hno⟩ := hrel
        by_cases hlt : k < args.length
        · obtain ⟨x, hx⟩ := get_of_lt hlt
          obtain ⟨b, off, rfl, hc⟩ := (HI.out.ext (Ext.below hb1)).2.2 k x hx
          have hc1 : w1.cell? ⟨b, off + k, none⟩ = some (.int .i64 x) := by simpa using hc.1
          obtain ⟨hx1, hx2⟩ := HIn.out x (List.mem_of_getElem? hx)
          have HX := Lib.hid hx
          clear hc hx
          by_cases hbad : x < 0 ∨ n ≤ x
          · have hr : res = 2 := by
              have hany : args.any (badArg n) = true := any_mem HX.out (by unfold badArg; exact decide_eq_true hbad)
              rw [← HRES.out, if_neg H0.out, if_neg (by simpa using H1.out), if_pos hany]
            subst hr
            by_cases hx0 : x < 0
            · clear hbad
              go_wp2
              go_ret
              exact ⟨rfl, hb1⟩
            · have hge : n ≤ x := by omega
              clear hbad
              go_wp2
              go_ret
              exact ⟨rfl, hb1⟩
          · have hx0 : 0 ≤ x := by omega
            have hxn : x < n := by omega
            have hbf : badArg n x = false := by unfold badArg; exact decide_eq_false hbad
            have HBF := Lib.hid hbf
            clear hbad hbf
            go_wp2
            go_round
            case rel => exact ⟨k + 1, by omega, by go_num, by show _ = _; rw [any_take HX.out, hno.out, HBF.out]; rfl⟩
            case measure => simp [intOf]; omega
        · have hany : args.any (badArg n) = false := by
            have := hno.out
            rwa [take_all hlt] at this
          have hres2 : (if kind = 9 ∧ br = false then (1 : Int) else if kind ≠ 9 ∧ bn = false then 1 else 0) = res := by
            have := HRES.out
            rw [if_neg H0.out, if_neg (by simpa using H1.out), if_neg (by rw [hany]; simp)] at this
            exact this
          have HR2 := Lib.hid hres2
          clear hres2 hany
          by_cases hk9 : kind = 9
          · have hke : (kind == 9) = true := by simpa using hk9
            have hkn : (kind != 9) = false := by simpa using hk9
            have HK9 := Lib.hid hk9
            clear hk9
            cases br
            · have hr : res = 1 := by rw [← HR2.out, if_pos ⟨HK9.out, rfl⟩]
              subst hr
              go_wp2_with fail
              refine (CR.out _ hb1).mono ?_
              rintro e w2 ⟨rfl, hb2⟩
              have hb3 := below_then hb1 hb2
              go_wp2
              go_ret
              exact ⟨rfl, hb3⟩
            · have hr : res = 0 := by rw [← HR2.out, if_neg (by simp), if_neg (by simp [HK9.out])]
              subst hr
              go_wp2_with fail
              refine (CR.out _ hb1).mono ?_
              rintro e w2 ⟨rfl, hb2⟩
              have hb3 := below_then hb1 hb2
              have hz2 := hz1.below' hb2
              have y0 := hz2.cell 0
              clear hb2 hz2
              go_wp2
              go_ret
              exact ⟨rfl, hb3⟩
          · have hke : (kind == 9) = false := by simpa using hk9
            have hkn : (kind != 9) = true := by simpa using hk9
            have HK9 := Lib.hid hk9
            clear hk9
            cases bn
            · have hr : res = 1 := by rw [← HR2.out, if_neg (fun h => HK9.out h.1), if_pos ⟨HK9.out, rfl⟩]
              subst hr
              go_wp2_with fail
              refine (CN.out _).mono ?_
              rintro e w2 ⟨rfl, hb2⟩
              have hb3 := below_then hb1 hb2
              go_wp2
              go_ret
              exact ⟨rfl, hb3⟩
            · have hr : res = 0 := by rw [← HR2.out, if_neg (fun h => HK9.out h.1), if_neg (by simp)]
              subst hr
              go_wp2_with fail
              refine (CN.out _).mono ?_
              rintro e w2 ⟨rfl, hb2⟩
              have hb3 := below_then hb1 hb2
              go_wp2
              go_ret
              exact ⟨rfl, hb3⟩
    · have he1 : ((args.length : Int) != ar) = true := by simpa using h1
      have hr : res = 1 := by rw [← HRES.out, if_neg H0.out, if_pos h1]
      subst hr
      clear h1
      go_enter Try.func36, Try.ntmps36
      go_wp2_with fail
      revert hz hb0
      generalize w.alloc (.cells #[.int .i64 kind, .slice aa args.length ac, .bool neg, .slice na num.length nc, .slice da den.length dc] 62) = w0
      intro hz hb0
      have z0 := hz.cell 0; have z1 := hz.cell 1; have z2 := hz.cell 2; have z3 := hz.cell 3; have z4 := hz.cell 4
      refine (CA.out _).mono ?_
      rintro e w' ⟨rfl, rfl⟩
      go_wp2
      go_ret
      exact ⟨rfl, hb0⟩
end Go.Proofs.Ytfahnnkppakiiaa

/- Walks: whether a string is a name, by the reference and by the program. -/
namespace Go.Proofs.Ytfahnnkppakiiaa
open Go.RowKit

set_option maxHeartbeats 1000000 in
theorem letter15_any (c : Int) (w : World) (h0 : 0 ≤ c) (h1 : c ≤ 255) :
    Calls Try.prog 107 #[.int .u8 c] w fun e w' => e = .returned (.bool (letB c)) ∧ w = w' := by
  obtain ⟨b, hb⟩ : ∃ b, letB c = b := ⟨_, rfl⟩
  have hb2 := hb
  unfold letB at hb2
  rw [hb]
  have HB := Lib.hid hb2
  clear hb hb2
  by_cases h2 : 65 ≤ c <;> by_cases h3 : c ≤ 90 <;> by_cases h4 : 97 ≤ c <;> by_cases h5 : c ≤ 122 <;> first | (exfalso; omega) | skip
  all_goals
    go_enter Try.func107, Try.ntmps107
    go_wp2
    go_ret
    refine ⟨ret_bool ?_, rfl⟩
    rw [← HB.out]
    first | (symm; apply decide_eq_true; omega) | (symm; apply decide_eq_false; omega)
set_option maxHeartbeats 1000000 in
theorem digit15_any (c : Int) (w : World) (h0 : 0 ≤ c) (h1 : c ≤ 255) :
    Calls Try.prog 108 #[.int .u8 c] w fun e w' => e = .returned (.bool (digB c)) ∧ w = w' := by
  obtain ⟨b, hb⟩ : ∃ b, digB c = b := ⟨_, rfl⟩
  have hb2 := hb
  unfold digB at hb2
  rw [hb]
  have HB := Lib.hid hb2
  clear hb hb2
  by_cases h2 : 48 ≤ c <;> by_cases h3 : c ≤ 57 <;> first | (exfalso; omega) | skip
  all_goals
    go_enter Try.func108, Try.ntmps108
    go_wp2
    go_ret
    refine ⟨ret_bool ?_, rfl⟩
    rw [← HB.out]
    first | (symm; apply decide_eq_true; omega) | (symm; apply decide_eq_false; omega)

theorem keywords15_any (w : World) : Calls Try.prog 109 #[] w fun e w' => e = .returned (.slice (some ⟨w.heap.size, 0, none⟩) 29 29) ∧ w.alloc (.cells (keywords.map Value.string).toArray 9) = w' := by
  go_enter Try.func109, Try.ntmps109
  go_wp2
  go_ret
  exact ⟨rfl, rfl⟩
theorem keywords_any (w : World) : Calls Try.prog 105 #[] w fun e w' => e = .returned (.slice (some ⟨w.heap.size, 0, none⟩) 29 29) ∧ w.alloc (.cells (keywords.map Value.string).toArray 9) = w' := by
  go_enter Try.func105, Try.ntmps105
  go_wp2
  go_ret
  exact ⟨rfl, rfl⟩
end Go.Proofs.Ytfahnnkppakiiaa
