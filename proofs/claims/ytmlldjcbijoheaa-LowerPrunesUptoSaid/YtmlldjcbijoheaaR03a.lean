/- Walks of the reference's rational numbers: Right. -/
import Derived.Test.YtmlldjcbijoheaaR01f
namespace Go.Proofs.Ytmlldjcbijoheaa
open Go.RowKit

/-- a rational number as it lies in memory -/
structure Rt where
  neg : Bool
  num : List Int
  den : List Int
def Rt.val (r : Rt) (na : Option Addr) (nc : Nat) (da : Option Addr) (dc : Nat) : Value := .agg #[.bool r.neg, .slice na r.num.length nc, .slice da r.den.length dc]
/-- is an integer valid? -/
def rightI (neg : Bool) (num : List Int) : Bool := canonB num && !(neg && decide (num.length = 0))
/-- is a rational number valid? -/
def Rt.right (r : Rt) : Bool := rightI r.neg r.num && canonB r.den && decide (Nat.gcd (Go.Proofs.Ytmlldjcbijoheaa.val r.num) (Go.Proofs.Ytmlldjcbijoheaa.val r.den) = 1) && decide (0 < r.den.length)

set_option maxHeartbeats 400000 in
theorem right02_any (neg : Bool) (num : List Int) (a : Option Addr) (c : Nat) (w : World) (h : NatR w a c num) :
    Calls Try.prog 112 #[.agg #[.bool neg, .slice a num.length c]] w fun r w' => r = .returned (.bool (rightI neg num)) ∧ Below w.heap.size w w' := by
  have CV := fun W (hW : Below w.heap.size w W) => valid01_any num a c W (h.ext (Ext.below hW))
  obtain ⟨b1, hb1⟩ : ∃ b, canonB num = b := ⟨_, rfl⟩
  rw [hb1] at CV
  replace CV := Lib.hid CV
  unfold rightI
  rw [hb1]
  clear hb1 h
  by_cases h0 : num.length = 0
  · have e0 : ((num.length : Int) == 0) = true := by simp [h0]
    have H0 := Lib.hid h0
    clear h0
    cases b1 <;> cases neg
    all_goals
      go_enter Try.func112, Try.ntmps112
      go_wp2_with (go_at_call 113; refine (CV.out _ ((Below.refl _ _).alloc (Nat.le_refl _) _)).mono ?_; rintro e w' ⟨rfl, rfl⟩)
      go_ret
      refine ⟨ret_bool ?_, (Below.refl _ _).alloc (Nat.le_refl _) _⟩
      simp [H0.out]
  · have e0 : ((num.length : Int) == 0) = false := by simp; exact fun e => h0 (by simp [e])
    have H0 := Lib.hid h0
    clear h0
    cases b1 <;> cases neg
    all_goals
      go_enter Try.func112, Try.ntmps112
      go_wp2_with (go_at_call 113; refine (CV.out _ ((Below.refl _ _).alloc (Nat.le_refl _) _)).mono ?_; rintro e w' ⟨rfl, rfl⟩)
      go_ret
      refine ⟨ret_bool ?_, (Below.refl _ _).alloc (Nat.le_refl _) _⟩
      simp [H0.out]

set_option maxRecDepth 100000 in
set_option maxHeartbeats 1000000 in
theorem right03_any (r : Rt) (na : Option Addr) (nc : Nat) (da : Option Addr) (dc : Nat) (w : World) (h : NatR w na nc r.num) (h' : NatR w da dc r.den) (hl : r.num.length ≤ 2000000) (hm : r.den.length ≤ 2000000) :
    Calls Try.prog 89 #[r.val na nc da dc] w fun e w' => e = .returned (.bool r.right) ∧ Below w.heap.size w w' := by
  obtain ⟨neg, num, den⟩ := r
  have CR := fun W (hW : Below w.heap.size w W) => right02_any neg num na nc W (h.ext (Ext.below hW))
  have CV := fun W (hW : Below w.heap.size w W) => valid01_any den da dc W (h'.ext (Ext.below hW))
  have CG := fun W (hW : Below w.heap.size w W) => gcd01_any num den (val num) (val den) na da nc dc W (h.ext (Ext.below hW)) (h'.ext (Ext.below hW)) rfl rfl hl hm
  have CS := fun (xs ys : List Int) (a a' : Option Addr) (c c' : Nat) W => same01_any xs ys a a' c c' W
  have CO := fun W => of01_any 1 W (by omega)
  obtain ⟨b1, hb1⟩ : ∃ b, rightI neg num = b := ⟨_, rfl⟩
  obtain ⟨b2, hb2⟩ : ∃ b, canonB den = b := ⟨_, rfl⟩
  obtain ⟨b3, hb3⟩ : ∃ b, decide (Nat.gcd (val num) (val den) = 1) = b := ⟨_, rfl⟩
  obtain ⟨b4, hb4⟩ : ∃ b, decide (0 < den.length) = b := ⟨_, rfl⟩
  have hb4' : decide ((0 : Int) < (den.length : Int)) = b4 := by rw [← hb4]; simp
  have hs : decide (limbs (Nat.gcd (val num) (val den)) = limbs 1) = b3 := by rw [← hb3]; simp [limbs_inj]
  rw [hb1] at CR
  rw [hb2] at CV
  have hres : Rt.right ⟨neg, num, den⟩ = (b1 && b2 && b3 && b4) := by simp only [Rt.right, hb1, hb2, hb3, hb4]
  rw [hres]
  unfold Rt.val
  dsimp only
  dsimp only at hl hm
  generalize Nat.gcd (val num) (val den) = g at CG hs
  replace CR := Lib.hid CR; replace CV := Lib.hid CV; replace CG := Lib.hid CG; replace CS := Lib.hid CS; replace CO := Lib.hid CO
  have HS := Lib.hid hs
  have H4 := Lib.hid hb4
  clear hb1 hb2 hb3 hs hres h h' hb4
  cases b1
  · clear hb4' H4 HS
    go_enter Try.func89, Try.ntmps89
    go_wp2_with fail
    refine (CR.out _ ((Below.refl _ _).alloc (Nat.le_refl _) _)).mono ?_
    rintro e w1 ⟨rfl, hb⟩
    have hw := ((Below.refl _ w).alloc (Nat.le_refl _) _).trans (hb.mono (by simp))
    go_wp2
    go_ret
    exact ⟨rfl, hw⟩
  · cases b2
    · clear hb4' H4 HS
      go_enter Try.func89, Try.ntmps89
      have hz : Blk (w.alloc (.cells #[.bool neg, .slice na num.length nc, .slice da den.length dc] 37)) w.heap.size 37 #[.bool neg, .slice na num.length nc, .slice da den.length dc] := Blk.new w _ _
      have hw0 : Below w.heap.size w (w.alloc (.cells #[.bool neg, .slice na num.length nc, .slice da den.length dc] 37)) := (Below.refl _ _).alloc (Nat.le_refl _) _
      go_wp2_with fail
      revert hz hw0
      generalize w.alloc (.cells #[.bool neg, .slice na num.length nc, .slice da den.length dc] 37) = w0
      intro hz hw0
      refine (CR.out _ hw0).mono ?_
      rintro e w1 ⟨rfl, hb⟩
      have hw1 := hw0.trans (hb.mono hw0.size)
      replace hz := hz.below' hb
      have z0 := hz.cell 0; have z1 := hz.cell 1; have z2 := hz.cell 2
      clear hb hz hw0
      go_wp2_with fail
      refine (CV.out _ hw1).mono ?_
      rintro e w2 ⟨rfl, rfl⟩
      go_wp2
      go_ret
      exact ⟨rfl, hw1⟩
    · have hz : Blk (w.alloc (.cells #[.bool neg, .slice na num.length nc, .slice da den.length dc] 37)) w.heap.size 37 #[.bool neg, .slice na num.length nc, .slice da den.length dc] := Blk.new w _ _
      have hw0 : Below w.heap.size w (w.alloc (.cells #[.bool neg, .slice na num.length nc, .slice da den.length dc] 37)) := (Below.refl _ _).alloc (Nat.le_refl _) _
      cases b3 <;> cases b4
      all_goals
        go_enter Try.func89, Try.ntmps89
        go_wp2_with fail
        revert hz hw0
        generalize w.alloc (.cells #[.bool neg, .slice na num.length nc, .slice da den.length dc] 37) = w0
        intro hz hw0
        refine (CR.out _ hw0).mono ?_
        rintro e w1 ⟨rfl, hb⟩
        have hw1 := hw0.trans (hb.mono hw0.size)
        replace hz := hz.below' hb
        have z0 := hz.cell 0; have z1 := hz.cell 1; have z2 := hz.cell 2
        clear hb hw0
        go_wp2_with fail
        refine (CV.out _ hw1).mono ?_
        rintro e w2 ⟨rfl, rfl⟩
        go_wp2_with fail
        refine (CG.out _ hw1).mono ?_
        rintro e w2 ⟨a2, c2, rfl, hV2, hb2⟩
        have hw2 := hw1.trans (hb2.mono hw1.size)
        replace hz := hz.below' hb2
        replace z0 := hz.cell 0; replace z1 := hz.cell 1; replace z2 := hz.cell 2
        have HV2 := Lib.hid hV2
        clear hV2
        go_wp2_with fail
        refine (CO.out _).mono ?_
        rintro e w3 ⟨a3, c3, rfl, hV3, hb3⟩
        have hw3 := hw2.trans (hb3.mono hw2.size)
        replace hz := hz.below' hb3
        replace z0 := hz.cell 0; replace z1 := hz.cell 1; replace z2 := hz.cell 2
        have CS2 := CS.out (limbs g) (limbs 1) a2 a3 c2 c3 w3 (HV2.out w3 ((New.refl _ _).below hb3)) (hV3 w3 (New.refl _ _))
        rw [HS.out] at CS2
        replace CS2 := Lib.hid CS2
        clear hV3
        go_wp2_with fail
        refine CS2.out.mono ?_
        rintro e w4 ⟨rfl, hb4⟩
        have hw4 := hw3.trans (hb4.mono hw3.size)
        replace hz := hz.below' hb4
        replace z0 := hz.cell 0; replace z1 := hz.cell 1; replace z2 := hz.cell 2
        clear hb4 hb3 hb2 CS2
        go_wp2
        go_ret
        exact ⟨ret_bool (by first | rfl | (rw [H4.out]; rfl)), hw4⟩
end Go.Proofs.Ytmlldjcbijoheaa
