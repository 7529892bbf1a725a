/- Walks: sums of the reference; integers out of int. -/
import Derived.Test.YtfahnnkppakiiaaCr11
import Derived.Deep.CutRange
import Derived.Test.YtfahnnkppakiiaaProg
import Derived.Ground.NamesProg
import Derived.Shelf.Lays
import Derived.Shelf.Small.Bits

/- Walk: the program's rational numbers: Right. -/
namespace Go.Proofs.Ytfahnnkppakiiaa
open Go.RowKit

theorem rt_right_one {neg : Bool} {num den : List Int} (hI : rightI neg num = true) (hc : canonB den = true) (h0 : 0 < den.length) (h1 : decide (den.length = 1 ∧ limbAt den 0 = 1) = true) : Rt.right ⟨neg, num, den⟩ = true := by
  rw [decide_eq_true_eq] at h1
  obtain ⟨h1, h2⟩ := h1
  match den, h1 with
  | [x], _ =>
    simp [limbAt] at h2
    subst h2
    simp [Rt.right, hI, hc, val]
theorem rt_right_gcd {neg : Bool} {num den : List Int} (hI : rightI neg num = true) (hc : canonB den = true) (h0 : 0 < den.length) : Rt.right ⟨neg, num, den⟩ = decide (Nat.gcd (val num) (val den) = 1) := by
  simp [Rt.right, hI, hc, h0]

set_option maxRecDepth 100000 in
set_option maxHeartbeats 2000000 in
theorem rightQ_any (r : Rt) (na : Option Addr) (nc : Nat) (da : Option Addr) (dc : Nat) (w : World) (h : NatR w na nc r.num) (h' : NatR w da dc r.den) (hl : r.num.length ≤ 2000000) (hm : r.den.length ≤ 2000000) :
    Calls Try.prog 39 #[r.val na nc da dc] w fun e w' => e = .returned (.bool r.right) ∧ Below w.heap.size w w' := by
  obtain ⟨neg, num, den⟩ := r
  have CR := fun W (hW : Below w.heap.size w W) => rightI_any neg num na nc W (h.ext (Ext.below hW))
  have CO := fun W (hW : Below w.heap.size w W) => one_any den da dc W (h'.ext (Ext.below hW))
  have CG := fun W (hW : Below w.heap.size w W) => gcd_any num den (val num) (val den) na da nc dc W (h.ext (Ext.below hW)) (h'.ext (Ext.below hW)) rfl rfl hl hm
  have CO2 := fun n a c W => one_any (limbs n) a c W
  simp only [one_limbs] at CO2
  unfold Rt.val
  dsimp only
  dsimp only at hl hm
  obtain ⟨res, hres⟩ : ∃ q, Rt.right ⟨neg, num, den⟩ = q := ⟨_, rfl⟩
  rw [hres]
  obtain ⟨b1, hb1⟩ : ∃ b, rightI neg num = b := ⟨_, rfl⟩
  rw [hb1] at CR
  replace CR := Lib.hid CR; replace CO := Lib.hid CO; replace CG := Lib.hid CG; replace CO2 := Lib.hid CO2
  have hw0 : Below w.heap.size w (w.alloc (.cells #[.bool neg, .slice na num.length nc, .slice da den.length dc] 33)) := (Below.refl _ _).alloc (Nat.le_refl _) _
  have hz : Blk (w.alloc (.cells #[.bool neg, .slice na num.length nc, .slice da den.length dc] 33)) w.heap.size 33 #[.bool neg, .slice na num.length nc, .slice da den.length dc] := Blk.new w _ _
  cases b1
  · have hr : res = false := by rw [← hres]; simp [Rt.right, hb1]
    subst hr
    clear hres hb1 h h' hz
    go_enter Try.func39, Try.ntmps39
    go_wp2_with fail
    refine (CR.out _ hw0).mono ?_
    rintro e w1 ⟨rfl, hb⟩
    have hw1 := below_then hw0 hb
    go_wp2
    go_ret
    exact ⟨rfl, hw1⟩
  · by_cases h0 : den.length = 0
    · have hr : res = false := by rw [← hres]; simp [Rt.right, h0]
      subst hr
      obtain rfl : den = [] := List.length_eq_zero_iff.1 h0
      clear hres hb1 h h' hz h0
      go_enter Try.func39, Try.ntmps39
      go_wp2_with fail
      refine (CR.out _ hw0).mono ?_
      rintro e w1 ⟨rfl, hb⟩
      have hw1 := below_then hw0 hb
      go_wp2
      go_ret
      exact ⟨rfl, hw1⟩
    · obtain ⟨x, hx⟩ := get_of_lt (xs := den) (k := den.length - 1) (by omega)
      obtain ⟨b, off, rfl, hc⟩ := h'.cell hx
      have hcan := canonB_last (l := den) h'.u16 hx (by omega)
      have hk := held hc
      have hi1 : (0 : Int) ≤ (den.length : Int) - 1 := by omega
      have hti : ((den.length : Int) - 1).toNat = den.length - 1 := by omega
      have hdl : (den.length : Int) ≤ 2000000 := by omega
      have he : ((den.length : Int) == 0) = false := by rw [beq_eq_false_iff_ne]; omega
      by_cases hx0 : x = 0
      · subst hx0
        have hr : res = false := by rw [← hres]; simp [Rt.right, hcan]
        subst hr
        clear hres hb1 h h' hx hc hcan h0
        go_enter Try.func39, Try.ntmps39
        go_wp2_with fail
        revert hw0 hz
        generalize w.alloc (.cells #[.bool neg, .slice na num.length nc, .slice (some ⟨b, off, none⟩) den.length dc] 33) = w0
        intro hw0 hz
        refine (CR.out _ hw0).mono ?_
        rintro e w1 ⟨rfl, hb⟩
        have hw1 := below_then hw0 hb
        have hz1 := hz.below' hb
        have z1 := hz1.cell 1; have z2 := hz1.cell 2; have z0 := hz1.cell 0
        have k1 := hk _ hw1
        clear hb hz hw0
        go_wp2
        go_ret
        exact ⟨rfl, hw1⟩
      · have hxb : (x == 0) = false := by simpa using hx0
        have hcan2 : canonB den = true := by rw [hcan, hxb]; rfl
        obtain ⟨bo, hbo⟩ : ∃ q, decide (den.length = 1 ∧ limbAt den 0 = 1) = q := ⟨_, rfl⟩
        rw [hbo] at CO
        have HRES := Lib.hid hres
        have HB1 := Lib.hid hb1
        have HC := Lib.hid hcan2
        have HBO := Lib.hid hbo
        have H0 := Lib.hid h0
        clear hres hb1 h h' hx hc hcan hcan2 hbo h0 hx0
        cases bo
        · obtain ⟨g, hg⟩ : ∃ g, Nat.gcd (val num) (val den) = g := ⟨_, rfl⟩
          have hr : decide (g = 1) = res := by rw [← HRES.out, rt_right_gcd HB1.out HC.out (by have := H0.out; omega)]; simp only [hg]
          rw [hg] at CG
          have CO3 := CO2.out g
          rw [hr] at CO3
          replace CO3 := Lib.hid CO3
          clear hg hr CO2
          go_enter Try.func39, Try.ntmps39
          go_wp2_with fail
          revert hw0 hz
          generalize w.alloc (.cells #[.bool neg, .slice na num.length nc, .slice (some ⟨b, off, none⟩) den.length dc] 33) = w0
          intro hw0 hz
          refine (CR.out _ hw0).mono ?_
          rintro e w1 ⟨rfl, hb⟩
          have hw1 := below_then hw0 hb
          have hz1 := hz.below' hb
          have z1 := hz1.cell 1; have z2 := hz1.cell 2; have z0 := hz1.cell 0
          have k1 := hk _ hw1
          clear hb hz hw0
          go_wp2_with fail
          refine (CO.out _ hw1).mono ?_
          rintro e w2 ⟨rfl, hb⟩
          have hw2 := below_then hw1 hb
          have hz2 := hz1.below' hb
          have y1 := hz2.cell 1; have y2 := hz2.cell 2; have y0 := hz2.cell 0
          clear hb hz1 hw1 z0 z1 z2 k1
          go_wp2_with fail
          refine (CG.out _ hw2).mono ?_
          rintro e w3 ⟨a3, c3, rfl, hV, hb⟩
          have hw3 := below_then hw2 hb
          have hrd := hV w3 (New.refl _ _)
          clear hb hV y0 y1 y2
          go_wp2_with fail
          refine (CO3.out _ _ _ hrd).mono ?_
          rintro e w4 ⟨rfl, hb⟩
          have hw4 := below_then hw3 hb
          clear hrd hb
          go_wp2
          go_ret
          exact ⟨rfl, hw4⟩
        · have hr : res = true := by rw [← HRES.out]; exact rt_right_one HB1.out HC.out (by have := H0.out; omega) HBO.out
          subst hr
          go_enter Try.func39, Try.ntmps39
          go_wp2_with fail
          revert hw0 hz
          generalize w.alloc (.cells #[.bool neg, .slice na num.length nc, .slice (some ⟨b, off, none⟩) den.length dc] 33) = w0
          intro hw0 hz
          refine (CR.out _ hw0).mono ?_
          rintro e w1 ⟨rfl, hb⟩
          have hw1 := below_then hw0 hb
          have hz1 := hz.below' hb
          have z1 := hz1.cell 1; have z2 := hz1.cell 2; have z0 := hz1.cell 0
          have k1 := hk _ hw1
          clear hb hz hw0
          go_wp2_with fail
          refine (CO.out _ hw1).mono ?_
          rintro e w2 ⟨rfl, hb⟩
          have hw2 := below_then hw1 hb
          go_wp2
          go_ret
          exact ⟨rfl, hw2⟩
end Go.Proofs.Ytfahnnkppakiiaa

/- Walks: integers: of, made, Norm, Of; by the program and by the reference. -/
namespace Go.Proofs.Ytfahnnkppakiiaa
open Go.RowKit

/-- what a call gives that makes an integer -/
def RetZ (neg : Bool) (n : Nat) (w : World) (e : Ending) (w' : World) : Prop := ∃ a c, e = .returned (.agg #[.bool neg, .slice a (limbs n).length c]) ∧ (∀ V, New w.heap.size w' V → NatR V a c (limbs n)) ∧ Below w.heap.size w w'
theorem dec_pos (n : Nat) : decide (0 < (limbs n).length) = decide (0 < n) := by
  have := limbs_len_pos (n := n)
  rw [decide_eq_decide]
  omega
section
variable {w V : World} {g B B' : Nat} {t : TypeId} {x y z u v r : Value}
theorem back2 (h : New B ((w.setCell ⟨g, 0, none⟩ x).setCell ⟨g, 1, none⟩ y) V) (hB : B ≤ B') (hg : g < B') : New B' w V := ((h.base hB).unset hg).unset hg
theorem back3 (h : New B (((w.setCell ⟨g, 0, none⟩ x).setCell ⟨g, 1, none⟩ y).setCell ⟨g, 2, none⟩ z) V) (hB : B ≤ B') (hg : g < B') : New B' w V := (((h.base hB).unset hg).unset hg).unset hg
theorem blk2 (h : Blk w g t #[u, v]) : Blk ((w.setCell ⟨g, 0, none⟩ x).setCell ⟨g, 1, none⟩ y) g t #[x, y] := by have := (h.set_ 0 x).set_ 1 y; simpa using this
theorem blk3 (h : Blk w g t #[u, v, r]) : Blk (((w.setCell ⟨g, 0, none⟩ x).setCell ⟨g, 1, none⟩ y).setCell ⟨g, 2, none⟩ z) g t #[x, y, z] := by have := ((h.set_ 0 x).set_ 1 y).set_ 2 z; simpa using this
theorem below2 {w0 : World} (h : Below B w0 w) (hg : B ≤ g) : Below B w0 ((w.setCell ⟨g, 0, none⟩ x).setCell ⟨g, 1, none⟩ y) := (h.setCell (p := ⟨g, 0, none⟩) hg x).setCell (p := ⟨g, 1, none⟩) hg y
theorem below3 {w0 : World} (h : Below B w0 w) (hg : B ≤ g) : Below B w0 (((w.setCell ⟨g, 0, none⟩ x).setCell ⟨g, 1, none⟩ y).setCell ⟨g, 2, none⟩ z) := ((h.setCell (p := ⟨g, 0, none⟩) hg x).setCell (p := ⟨g, 1, none⟩) hg y).setCell (p := ⟨g, 2, none⟩) hg z
end

set_option maxRecDepth 100000 in
set_option maxHeartbeats 1000000 in
theorem zof_any (neg : Bool) (l : List Int) (n : Nat) (a : Option Addr) (c : Nat) (w : World) (h : NatR w a c l) (hn : val l = n) (hl : l.length ≤ 16777216) :
    Calls Try.prog 115 #[.bool neg, .slice a l.length c] w (RetZ (neg && decide (0 < n)) n w) := by
  have CN := fun W (hW : Below w.heap.size w W) => norm_any l a c W (h.ext (Ext.below hW)) hl
  rw [hn] at CN
  replace CN := Lib.hid CN
  have hd := dec_pos n
  obtain ⟨b, hb⟩ : ∃ b, decide (0 < n) = b := ⟨_, rfl⟩
  rw [hb] at hd ⊢
  have hz : Blk (w.alloc (.cells #[.bool false, .slice none 0 0] 31)) w.heap.size 31 #[.bool false, .slice none 0 0] := Blk.new w _ _
  have hb0 : Below w.heap.size w (w.alloc (.cells #[.bool false, .slice none 0 0] 31)) := (Below.refl _ _).alloc (Nat.le_refl _) _
  clear h hb
  cases neg
  · rw [Bool.false_and]
    go_enter Try.func115, Try.ntmps115
    go_wp2_with fail
    have hgl := hz.lt
    revert hz hb0 hgl
    generalize w.alloc (.cells #[.bool false, .slice none 0 0] 31) = w0
    intro hz hb0 hgl
    refine (CN.out _ hb0).mono ?_
    rintro e w1 ⟨a1, c1, rfl, hV, hb1⟩
    have hw1 := below_then hb0 hb1
    have HV := Lib.hid hV
    have hz1 := hz.below' hb1
    have z0 := hz1.cell 0; have z1 := hz1.cell 1; have f0 := hz1.frozen 0; have f1 := hz1.frozen 1
    have hs0 := hb0.size
    clear hV hb0 hz
    go_wp2
    have hF := blk2 (x := .bool false) (y := .slice a1 (limbs n).length c1) hz1
    have e0 := hF.cell 0; have e1 := hF.cell 1
    refine bodyPost_ret (v := .agg #[.bool false, .slice a1 (limbs n).length c1]) (by simp [results, Try.results115, go_sem, e0, e1]) rfl ?_
    exact ⟨a1, c1, rfl, fun V hV => HV.out V (back2 hV hs0 hgl), below2 hw1 (Nat.le_refl _)⟩
  · rw [Bool.true_and]
    go_enter Try.func115, Try.ntmps115
    go_wp2_with fail
    have hgl := hz.lt
    revert hz hb0 hgl
    generalize w.alloc (.cells #[.bool false, .slice none 0 0] 31) = w0
    intro hz hb0 hgl
    refine (CN.out _ hb0).mono ?_
    rintro e w1 ⟨a1, c1, rfl, hV, hb1⟩
    have hw1 := below_then hb0 hb1
    have HV := Lib.hid hV
    have hz1 := hz.below' hb1
    have z0 := hz1.cell 0; have z1 := hz1.cell 1; have f0 := hz1.frozen 0; have f1 := hz1.frozen 1
    have hs0 := hb0.size
    clear hV hb0 hz
    go_wp2
    have hF := blk2 (x := .bool b) (y := .slice a1 (limbs n).length c1) hz1
    have e0 := hF.cell 0; have e1 := hF.cell 1
    refine bodyPost_ret (v := .agg #[.bool b, .slice a1 (limbs n).length c1]) (by simp [results, Try.results115, go_sem, e0, e1]) rfl ?_
    exact ⟨a1, c1, rfl, fun V hV => HV.out V (back2 hV hs0 hgl), below2 hw1 (Nat.le_refl _)⟩
set_option maxRecDepth 100000 in
set_option maxHeartbeats 1000000 in
theorem zofR_any (neg : Bool) (l : List Int) (n : Nat) (a : Option Addr) (c : Nat) (w : World) (h : NatR w a c l) (hn : val l = n) (hl : l.length ≤ 16777216) :
    Calls Try.prog 99 #[.bool neg, .slice a l.length c] w (RetZ (neg && decide (0 < n)) n w) := by
  have CN := fun W (hW : Below w.heap.size w W) => norm01_any l a c W (h.ext (Ext.below hW)) hl
  rw [hn] at CN
  replace CN := Lib.hid CN
  have hd := dec_pos n
  obtain ⟨b, hb⟩ : ∃ b, decide (0 < n) = b := ⟨_, rfl⟩
  rw [hb] at hd ⊢
  have hz : Blk (w.alloc (.cells #[.bool false, .slice none 0 0] 31)) w.heap.size 31 #[.bool false, .slice none 0 0] := Blk.new w _ _
  have hb0 : Below w.heap.size w (w.alloc (.cells #[.bool false, .slice none 0 0] 31)) := (Below.refl _ _).alloc (Nat.le_refl _) _
  clear h hb
  cases neg
  · rw [Bool.false_and]
    go_enter Try.func99, Try.ntmps99
    go_wp2_with fail
    have hgl := hz.lt
    revert hz hb0 hgl
    generalize w.alloc (.cells #[.bool false, .slice none 0 0] 31) = w0
    intro hz hb0 hgl
    refine (CN.out _ hb0).mono ?_
    rintro e w1 ⟨a1, c1, rfl, hV, hb1⟩
    have hw1 := below_then hb0 hb1
    have HV := Lib.hid hV
    have hz1 := hz.below' hb1
    have z0 := hz1.cell 0; have z1 := hz1.cell 1; have f0 := hz1.frozen 0; have f1 := hz1.frozen 1
    have hs0 := hb0.size
    clear hV hb0 hz
    go_wp2
    have hF := blk2 (x := .bool false) (y := .slice a1 (limbs n).length c1) hz1
    have e0 := hF.cell 0; have e1 := hF.cell 1
    refine bodyPost_ret (v := .agg #[.bool false, .slice a1 (limbs n).length c1]) (by simp [results, Try.results99, go_sem, e0, e1]) rfl ?_
    exact ⟨a1, c1, rfl, fun V hV => HV.out V (back2 hV hs0 hgl), below2 hw1 (Nat.le_refl _)⟩
  · rw [Bool.true_and]
    go_enter Try.func99, Try.ntmps99
    go_wp2_with fail
    have hgl := hz.lt
    revert hz hb0 hgl
    generalize w.alloc (.cells #[.bool false, .slice none 0 0] 31) = w0
    intro hz hb0 hgl
    refine (CN.out _ hb0).mono ?_
    rintro e w1 ⟨a1, c1, rfl, hV, hb1⟩
    have hw1 := below_then hb0 hb1
    have HV := Lib.hid hV
    have hz1 := hz.below' hb1
    have z0 := hz1.cell 0; have z1 := hz1.cell 1; have f0 := hz1.frozen 0; have f1 := hz1.frozen 1
    have hs0 := hb0.size
    clear hV hb0 hz
    go_wp2
    have hF := blk2 (x := .bool b) (y := .slice a1 (limbs n).length c1) hz1
    have e0 := hF.cell 0; have e1 := hF.cell 1
    refine bodyPost_ret (v := .agg #[.bool b, .slice a1 (limbs n).length c1]) (by simp [results, Try.results99, go_sem, e0, e1]) rfl ?_
    exact ⟨a1, c1, rfl, fun V hV => HV.out V (back2 hV hs0 hgl), below2 hw1 (Nat.le_refl _)⟩
set_option maxRecDepth 100000 in
set_option maxHeartbeats 1000000 in
/-- the sign and the limbs as they are -/
theorem made_any (neg : Bool) (n : Nat) (a : Option Addr) (c : Nat) (w : World) :
    Calls Try.prog 84 #[.bool neg, .slice a (limbs n).length c] w fun e w' => e = .returned (.agg #[.bool (neg && decide (0 < n)), .slice a (limbs n).length c]) ∧ Below w.heap.size w w' := by
  have hd := dec_pos n
  obtain ⟨b, hb⟩ : ∃ b, decide (0 < n) = b := ⟨_, rfl⟩
  rw [hb] at hd ⊢
  clear hb
  cases neg
  · rw [Bool.false_and]
    go_enter Try.func84, Try.ntmps84
    go_wp2
    have hF := Blk.new w 31 #[.bool false, .slice a (limbs n).length c]
    have e0 := hF.cell 0; have e1 := hF.cell 1
    refine bodyPost_ret (v := .agg #[.bool false, .slice a (limbs n).length c]) (by simp [results, Try.results84, go_sem]) rfl ?_
    exact ⟨rfl, (Below.refl _ _).alloc (Nat.le_refl _) _⟩
  · rw [Bool.true_and]
    go_enter Try.func84, Try.ntmps84
    go_wp2
    have hF := Blk.new w 31 #[.bool b, .slice a (limbs n).length c]
    have e0 := hF.cell 0; have e1 := hF.cell 1
    refine bodyPost_ret (v := .agg #[.bool b, .slice a (limbs n).length c]) (by simp [results, Try.results84, go_sem]) rfl ?_
    exact ⟨rfl, (Below.refl _ _).alloc (Nat.le_refl _) _⟩
set_option maxRecDepth 100000 in
set_option maxHeartbeats 1000000 in
theorem znorm_any (neg : Bool) (l : List Int) (n : Nat) (a : Option Addr) (c : Nat) (w : World) (h : NatR w a c l) (hn : val l = n) (hl : l.length ≤ 16777216) :
    Calls Try.prog 91 #[.agg #[.bool neg, .slice a l.length c]] w (RetZ (neg && decide (0 < n)) n w) := by
  have CN := fun W (hW : Below w.heap.size w W) => zof_any neg l n a c W (h.ext (Ext.below hW)) hn hl
  replace CN := Lib.hid CN
  have hz : Blk ((w.alloc (.cells #[.bool neg, .slice a l.length c] 31)).alloc (.cells #[.bool false, .slice none 0 0] 31)) (w.heap.size + 1) 31 #[.bool false, .slice none 0 0] := blk_at1 w _ _ _
  have hb0 : Below w.heap.size w ((w.alloc (.cells #[.bool neg, .slice a l.length c] 31)).alloc (.cells #[.bool false, .slice none 0 0] 31)) := ((Below.refl _ _).alloc (Nat.le_refl _) _).alloc (by simp) _
  have hgB : w.heap.size ≤ w.heap.size + 1 := by omega
  have hgl := hz.lt
  clear h hn
  go_enter Try.func91, Try.ntmps91
  go_wp2_with fail
  revert hz hb0 hgl hgB
  generalize (w.alloc (.cells #[.bool neg, .slice a l.length c] 31)).alloc (.cells #[.bool false, .slice none 0 0] 31) = w0
  generalize w.heap.size + 1 = g
  intro hz hb0 hgB hgl
  refine (CN.out _ hb0).mono ?_
  rintro e w1 ⟨a1, c1, rfl, hV, hb1⟩
  have hw1 := below_then hb0 hb1
  have HV := Lib.hid hV
  have hz1 := hz.below' hb1
  have z0 := hz1.cell 0; have z1 := hz1.cell 1; have f0 := hz1.frozen 0; have f1 := hz1.frozen 1
  have hs0 := hb0.size
  clear hV hb0 hz
  go_wp2
  have hF := blk2 (x := .bool (neg && decide (0 < n))) (y := .slice a1 (limbs n).length c1) hz1
  have e0 := hF.cell 0; have e1 := hF.cell 1
  refine bodyPost_ret (v := .agg #[.bool (neg && decide (0 < n)), .slice a1 (limbs n).length c1]) (by simp [results, Try.results91, go_sem, e0, e1]) rfl ?_
  exact ⟨a1, c1, rfl, fun V hV => HV.out V (back2 hV hs0 hgl), below2 hw1 hgB⟩
set_option maxRecDepth 100000 in
set_option maxHeartbeats 1000000 in
theorem znormR_any (neg : Bool) (l : List Int) (n : Nat) (a : Option Addr) (c : Nat) (w : World) (h : NatR w a c l) (hn : val l = n) (hl : l.length ≤ 16777216) :
    Calls Try.prog 97 #[.agg #[.bool neg, .slice a l.length c]] w (RetZ (neg && decide (0 < n)) n w) := by
  have CN := fun W (hW : Below w.heap.size w W) => zofR_any neg l n a c W (h.ext (Ext.below hW)) hn hl
  replace CN := Lib.hid CN
  have hz : Blk ((w.alloc (.cells #[.bool neg, .slice a l.length c] 31)).alloc (.cells #[.bool false, .slice none 0 0] 31)) (w.heap.size + 1) 31 #[.bool false, .slice none 0 0] := blk_at1 w _ _ _
  have hb0 : Below w.heap.size w ((w.alloc (.cells #[.bool neg, .slice a l.length c] 31)).alloc (.cells #[.bool false, .slice none 0 0] 31)) := ((Below.refl _ _).alloc (Nat.le_refl _) _).alloc (by simp) _
  have hgB : w.heap.size ≤ w.heap.size + 1 := by omega
  have hgl := hz.lt
  clear h hn
  go_enter Try.func97, Try.ntmps97
  go_wp2_with fail
  revert hz hb0 hgl hgB
  generalize (w.alloc (.cells #[.bool neg, .slice a l.length c] 31)).alloc (.cells #[.bool false, .slice none 0 0] 31) = w0
  generalize w.heap.size + 1 = g
  intro hz hb0 hgB hgl
  refine (CN.out _ hb0).mono ?_
  rintro e w1 ⟨a1, c1, rfl, hV, hb1⟩
  have hw1 := below_then hb0 hb1
  have HV := Lib.hid hV
  have hz1 := hz.below' hb1
  have z0 := hz1.cell 0; have z1 := hz1.cell 1; have f0 := hz1.frozen 0; have f1 := hz1.frozen 1
  have hs0 := hb0.size
  clear hV hb0 hz
  go_wp2
  have hF := blk2 (x := .bool (neg && decide (0 < n))) (y := .slice a1 (limbs n).length c1) hz1
  have e0 := hF.cell 0; have e1 := hF.cell 1
  refine bodyPost_ret (v := .agg #[.bool (neg && decide (0 < n)), .slice a1 (limbs n).length c1]) (by simp [results, Try.results97, go_sem, e0, e1]) rfl ?_
  exact ⟨a1, c1, rfl, fun V hV => HV.out V (back2 hV hs0 hgl), below2 hw1 hgB⟩
set_option maxRecDepth 100000 in
set_option maxHeartbeats 1000000 in
theorem znegR_any (neg : Bool) (l : List Int) (n : Nat) (a : Option Addr) (c : Nat) (w : World) (h : NatR w a c l) (hn : val l = n) (hl : l.length ≤ 16777216) :
    Calls Try.prog 62 #[.agg #[.bool neg, .slice a l.length c]] w (RetZ (!neg && decide (0 < n)) n w) := by
  have CN := fun W (hW : Below w.heap.size w W) => zofR_any (!neg) l n a c W (h.ext (Ext.below hW)) hn hl
  replace CN := Lib.hid CN
  have hz : Blk ((w.alloc (.cells #[.bool neg, .slice a l.length c] 31)).alloc (.cells #[.bool false, .slice none 0 0] 31)) (w.heap.size + 1) 31 #[.bool false, .slice none 0 0] := blk_at1 w _ _ _
  have hb0 : Below w.heap.size w ((w.alloc (.cells #[.bool neg, .slice a l.length c] 31)).alloc (.cells #[.bool false, .slice none 0 0] 31)) := ((Below.refl _ _).alloc (Nat.le_refl _) _).alloc (by simp) _
  have hgB : w.heap.size ≤ w.heap.size + 1 := by omega
  have hgl := hz.lt
  clear h hn
  go_enter Try.func62, Try.ntmps62
  go_wp2_with fail
  revert hz hb0 hgl hgB
  generalize (w.alloc (.cells #[.bool neg, .slice a l.length c] 31)).alloc (.cells #[.bool false, .slice none 0 0] 31) = w0
  generalize w.heap.size + 1 = g
  intro hz hb0 hgB hgl
  refine (CN.out _ hb0).mono ?_
  rintro e w1 ⟨a1, c1, rfl, hV, hb1⟩
  have hw1 := below_then hb0 hb1
  have HV := Lib.hid hV
  have hz1 := hz.below' hb1
  have z0 := hz1.cell 0; have z1 := hz1.cell 1; have f0 := hz1.frozen 0; have f1 := hz1.frozen 1
  have hs0 := hb0.size
  clear hV hb0 hz
  go_wp2
  have hF := blk2 (x := .bool ((!neg) && decide (0 < n))) (y := .slice a1 (limbs n).length c1) hz1
  have e0 := hF.cell 0; have e1 := hF.cell 1
  refine bodyPost_ret (v := .agg #[.bool ((!neg) && decide (0 < n)), .slice a1 (limbs n).length c1]) (by simp [results, Try.results62, go_sem, e0, e1]) rfl ?_
  exact ⟨a1, c1, rfl, fun V hV => HV.out V (back2 hV hs0 hgl), below2 hw1 hgB⟩
end Go.Proofs.Ytfahnnkppakiiaa

/- math/bits.Len16, laid at this program. -/
namespace Go.Proofs
open Go.Shelf
def Try.lays127_ren : Go.Shelf.Ren := ⟨fun | 127 => 114 | n => n, fun | 49 => 80 | 3 => 3 | 4 => 4 | 46 => 75 | 5 => 5 | 9 => 9 | n => n, fun | n => n⟩
theorem Try.lays127 : Go.Proofs.Lays.n127 Try.prog Try.lays127_ren := {
  mixed := by kernel_rfl
  f127 := Try.func114.trans (congrArg some (by kernel_rfl))
  t3 := Try.underlying3
  a3 := Try.isAgg3
  z3 := Try.sizeOf3
  v3 := Try.zeroValue3
  t4 := Try.underlying4
  a4 := Try.isAgg4
  z4 := Try.sizeOf4
  v4 := Try.zeroValue4
  t5 := Try.underlying5
  a5 := Try.isAgg5
  z5 := Try.sizeOf5
  v5 := Try.zeroValue5
  t9 := Try.underlying9
  a9 := Try.isAgg9
  z9 := Try.sizeOf9
  v9 := Try.zeroValue9
  t46 := Try.underlying75
  a46 := Try.isAgg75
  z46 := Try.sizeOf75
  v46 := Try.zeroValue75
  t49 := Try.underlying80
  a49 := Try.isAgg80
  z49 := Try.sizeOf80
  v49 := Try.zeroValue80 }
end Go.Proofs
namespace Go.Proofs.Ytfahnnkppakiiaa
theorem len16_any (x : Nat) (w : World) (h1 : x ≤ 65535) :
    Calls Try.prog 114 #[.int .u16 x] w fun e w' => e = .returned (.int .i64 (Lib.bitLen x : Int)) ∧ w' = w := by
  have := Any.bits_Len16 Try.lays127 (x : Int) w (by omega) (by omega)
  rw [Int.toNat_natCast] at this
  exact this
end Go.Proofs.Ytfahnnkppakiiaa

/- Walks: bits of a number, signs, sums of the reference, integers out of int. -/
namespace Go.Proofs.Ytfahnnkppakiiaa
open Go.RowKit

theorem bits_of {n k x : Nat} (hl : (limbs n).length = k + 1) (hx : limbAt (limbs n) k = x) (hx0 : x ≠ 0) (hx1 : x ≤ 65535) : 1 ≤ Lib.bitLen x ∧ Lib.bitLen x ≤ 16 ∧ 2 ^ (16 * k + Lib.bitLen x - 1) ≤ n ∧ n < 2 ^ (16 * k + Lib.bitLen x) := by
  obtain ⟨h2, h3, h4⟩ := Lib.bitLenAux_bounds 64 x (by omega) hx0
  change 1 ≤ Lib.bitLen x at h2
  change 2 ^ (Lib.bitLen x - 1) ≤ x at h3
  change x < 2 ^ Lib.bitLen x at h4
  obtain ⟨q1, q2, _, _⟩ := norm_shift hx0 hx1
  obtain ⟨lo, hlo, e⟩ := val_split_at (limbs_u16 n) k
  rw [val_limbs, val_drop_at, hx, val_drop_all (by omega), Int.toNat_natCast] at e
  simp only [Nat.mul_zero, Nat.add_zero] at e
  have hp : (65536 : Nat) ^ k = 2 ^ (16 * k) := by rw [Nat.pow_mul]
  rw [hp] at e hlo
  generalize Lib.bitLen x = b at *
  refine ⟨q1, q2, ?_, ?_⟩
  · rw [show 16 * k + b - 1 = 16 * k + (b - 1) by omega, Nat.pow_add]
    have := Nat.mul_le_mul_left (2 ^ (16 * k)) h3
    omega
  · rw [Nat.pow_add]
    have := Nat.mul_le_mul_left (2 ^ (16 * k)) (show x + 1 ≤ 2 ^ b by omega)
    rw [Nat.mul_add, Nat.mul_one] at this
    omega
set_option maxHeartbeats 1000000 in
/-- the number of binary digits -/
theorem bits_any (l : List Int) (n : Nat) (a : Option Addr) (c : Nat) (w : World) (h : NatR w a c l) (hn : val l = n) (hl : l.length ≤ 16777216) :
    Calls Try.prog 89 #[.slice a l.length c] w fun e w' => ∃ b : Nat, e = .returned (.int .i64 b) ∧ Hid ((n = 0 → b = 0) ∧ (0 < n → 1 ≤ b ∧ 2 ^ (b - 1) ≤ n ∧ n < 2 ^ b) ∧ b ≤ 16 * (limbs n).length) ∧ w = w' := by
  have CT := trim_any l a c w h
  have hT := h.trim
  have hll := limbs_len_val h.u16
  rw [hn] at CT hT hll
  by_cases h0 : n = 0
  · subst h0
    rw [limbs_zero] at CT
    replace CT := Lib.hid CT
    clear h hn hT hll
    go_enter Try.func89, Try.ntmps89
    go_wp2_with fail
    refine CT.out.mono ?_
    rintro e w1 ⟨rfl, rfl⟩
    go_wp2
    go_ret
    exact ⟨0, rfl, Lib.hid ⟨fun _ => rfl, fun h => by omega, by omega⟩, rfl⟩
  · have hp := limbs_len_pos.2 (show 0 < n by omega)
    obtain ⟨k, hk⟩ : ∃ k, (limbs n).length = k + 1 := ⟨(limbs n).length - 1, by omega⟩
    obtain ⟨xi, hxi⟩ := get_of_lt (xs := limbs n) (k := k) (by omega)
    obtain ⟨b, off, rfl, hc⟩ := hT.cell hxi
    have hxb := (limbs_u16 n).get hxi
    have hx0 : xi ≠ 0 := limbs_last (n := n) (by rw [List.getLast?_eq_getElem?, hk]; exact hxi)
    obtain ⟨x, rfl⟩ : ∃ x : Nat, xi = (x : Int) := ⟨xi.toNat, by omega⟩
    have hb := bits_of hk (limbAt_some hxi) (by omega) (by omega)
    have CL := fun w => len16_any x w (by omega)
    have hkl : k ≤ 16777216 := by omega
    have HK := Lib.hid hk
    rw [hk] at CT
    revert hb CL
    generalize Lib.bitLen x = bl
    intro hb CL
    have hbl : (bl : Int) ≤ 16 := by omega
    have hbl0 : (0 : Int) ≤ (bl : Int) := by omega
    have HB := Lib.hid hb
    replace CT := Lib.hid CT
    replace CL := Lib.hid CL
    have hkI : (k : Int) ≤ 16777216 := by omega
    have hne : ((k : Int) + 1 == 0) = false := by rw [beq_eq_false_iff_ne]; omega
    have hx2 : (x : Int) ≤ 65535 := by omega
    clear h hn hT hll hp hk hxi hxb hx0 hb hkl
    go_enter Try.func89, Try.ntmps89
    go_wp2_with fail
    refine CT.out.mono ?_
    rintro e w1 ⟨rfl, rfl⟩
    go_wp2_with fail
    refine (CL.out _).mono ?_
    rintro e w1 ⟨rfl, rfl⟩
    go_wp2
    go_ret
    refine ⟨16 * k + bl, ?_, Lib.hid ⟨fun e => absurd e h0, fun _ => ⟨by have := HB.out; omega, HB.out.2.2.1, HB.out.2.2.2⟩, by have := HB.out; have := HK.out; omega⟩, rfl⟩
    exact ret_int (by simp <;> omega)

/-- the sign of an integer -/
def sgnZ (neg : Bool) (n : Nat) : Int := if n = 0 then 0 else if neg = true then -1 else 1
set_option maxRecDepth 100000 in
set_option maxHeartbeats 1000000 in
theorem zsign_any (neg : Bool) (l : List Int) (n : Nat) (a : Option Addr) (c : Nat) (w : World) (h : NatR w a c l) (hn : val l = n) (hl : l.length ≤ 16777216) :
    Calls Try.prog 78 #[.agg #[.bool neg, .slice a l.length c]] w fun e w' => e = .returned (.int .i64 (sgnZ neg n)) ∧ Below w.heap.size w w' := by
  have CB := fun W (hW : Below w.heap.size w W) => bits_any l n a c W (h.ext (Ext.below hW)) hn hl
  replace CB := Lib.hid CB
  have hz : Blk (w.alloc (.cells #[.bool neg, .slice a l.length c] 31)) w.heap.size 31 #[.bool neg, .slice a l.length c] := Blk.new w _ _
  have hb0 : Below w.heap.size w (w.alloc (.cells #[.bool neg, .slice a l.length c] 31)) := (Below.refl _ _).alloc (Nat.le_refl _) _
  obtain ⟨R, hR⟩ : ∃ q, sgnZ neg n = q := ⟨_, rfl⟩
  rw [hR]
  have HR := Lib.hid hR
  clear h hn hR
  go_enter Try.func78, Try.ntmps78
  go_wp2_with fail
  revert hz hb0
  generalize w.alloc (.cells #[.bool neg, .slice a l.length c] 31) = w0
  intro hz hb0
  refine (CB.out _ hb0).mono ?_
  rintro e w1 ⟨b, rfl, hb, rfl⟩
  have z0 := hz.cell 0; have z1 := hz.cell 1
  by_cases h0 : n = 0
  · have e0 := hb.out.1 h0
    subst e0
    have hs : R = 0 := by rw [← HR.out]; unfold sgnZ; rw [if_pos h0]
    subst hs
    clear h0
    go_wp2
    go_ret
    exact ⟨rfl, hb0⟩
  · have e0 : ((b : Int) == 0) = false := by rw [beq_eq_false_iff_ne]; have := hb.out.2.1 (by omega); omega
    have hs : R = if neg = true then -1 else 1 := by rw [← HR.out]; unfold sgnZ; rw [if_neg h0]
    clear h0
    cases neg
    · obtain rfl : R = 1 := by simpa using hs
      clear hs
      go_wp2
      go_ret
      exact ⟨rfl, hb0⟩
    · obtain rfl : R = -1 := by simpa using hs
      clear hs
      go_wp2
      go_ret
      exact ⟨rfl, hb0⟩
set_option maxRecDepth 100000 in
set_option maxHeartbeats 1000000 in
theorem zsignR_any (neg : Bool) (l : List Int) (n : Nat) (a : Option Addr) (c : Nat) (w : World) (h : NatR w a c l) (hn : val l = n) (hl : l.length ≤ 16777216) :
    Calls Try.prog 80 #[.agg #[.bool neg, .slice a l.length c]] w fun e w' => e = .returned (.int .i64 (sgnZ neg n)) ∧ Below w.heap.size w w' := by
  have CN := fun W (hW : Below w.heap.size w W) => znormR_any neg l n a c W (h.ext (Ext.below hW)) hn hl
  replace CN := Lib.hid CN
  have hz : Blk (w.alloc (.cells #[.bool neg, .slice a l.length c] 31)) w.heap.size 31 #[.bool neg, .slice a l.length c] := Blk.new w _ _
  have hb0 : Below w.heap.size w (w.alloc (.cells #[.bool neg, .slice a l.length c] 31)) := (Below.refl _ _).alloc (Nat.le_refl _) _
  have hp := limbs_len_pos (n := n)
  obtain ⟨R, hR⟩ : ∃ q, sgnZ neg n = q := ⟨_, rfl⟩
  rw [hR]
  have HR := Lib.hid hR
  clear h hn hR
  go_enter Try.func80, Try.ntmps80
  go_wp2_with fail
  revert hz hb0
  generalize w.alloc (.cells #[.bool neg, .slice a l.length c] 31) = w0
  intro hz hb0
  refine (CN.out _ hb0).mono ?_
  rintro e w1 ⟨a1, c1, rfl, _, hb1⟩
  obtain ⟨T, hT⟩ : ∃ T, (limbs n).length = T := ⟨_, rfl⟩
  rw [hT] at hp ⊢
  clear hT
  have hw1 := below_then hb0 hb1
  have hz1 := hz.below' hb1
  have z0 := hz1.cell 0; have z1 := hz1.cell 1; have f0 := hz1.frozen 0; have f1 := hz1.frozen 1
  have hF := blk2 (x := .bool (neg && decide (0 < n))) (y := .slice a1 T c1) hz1
  have hwF := below2 (x := .bool (neg && decide (0 < n))) (y := .slice a1 T c1) hw1 (Nat.le_refl _)
  have e0 := hF.cell 0; have e1 := hF.cell 1
  clear hz hb0 hb1 hw1
  by_cases h0 : n = 0
  · have hs : R = 0 := by rw [← HR.out]; unfold sgnZ; rw [if_pos h0]
    subst hs
    obtain rfl : T = 0 := by omega
    clear h0 hp
    go_wp2
    go_ret
    exact ⟨rfl, hwF⟩
  · have hs : R = if neg = true then -1 else 1 := by rw [← HR.out]; unfold sgnZ; rw [if_neg h0]
    have hd : decide (0 < n) = true := by rw [decide_eq_true_eq]; omega
    have hl0 : ((T : Int) == 0) = false := by rw [beq_eq_false_iff_ne]; omega
    simp only [hd, Bool.and_true] at hwF e0 e1 ⊢
    clear h0 hp hd
    cases neg
    · obtain rfl : R = 1 := by simpa using hs
      clear hs
      go_wp2
      go_ret
      exact ⟨rfl, hwF⟩
    · obtain rfl : R = -1 := by simpa using hs
      clear hs
      go_wp2
      go_ret
      exact ⟨rfl, hwF⟩
end Go.Proofs.Ytfahnnkppakiiaa

/- Walks: sums of the reference; integers out of int. -/
namespace Go.Proofs.Ytfahnnkppakiiaa
open Go.RowKit

set_option maxRecDepth 100000 in
set_option maxHeartbeats 4000000 in
theorem add01_any (l m : List Int) (n1 n2 : Nat) (a a' : Option Addr) (c c' : Nat) (w : World) (h : NatR w a c l) (h' : NatR w a' c' m) (hn : val l = n1) (hk : val m = n2) (hl : l.length ≤ 4000000) (hm : m.length ≤ 4000000) :
    Calls Try.prog 100 #[.slice a l.length c, .slice a' m.length c'] w (RetN (limbs (n1 + n2)) w) := by
  have H := Lib.hid h
  have H' := Lib.hid h'
  have HN := Lib.hid hn
  have HK := Lib.hid hk
  have hu := h.u16
  have hu' := h'.u16
  obtain ⟨M, hM⟩ : ∃ M, M = max l.length m.length + 1 := ⟨_, rfl⟩
  have hMl : l.length < M := by omega
  have hMm : m.length < M := by omega
  have hM2 : M ≤ 4000001 := by omega
  have HM := Lib.hid hM
  clear h h' hn hk hM
  go_enter Try.func100, Try.ntmps100
  go_wp2
  go_loopg [5, 6, 7, 8] M (fun g s5 s6 s7 _ wr => ∃ (k cc : Nat) (o : List Int) (ao : Option Addr) (co : Nat), k + g = M ∧ s5 = .slice ao o.length co ∧ s6 = .int .i64 cc ∧ s7 = .int .i64 k ∧ cc ≤ 1 ∧ Hid (k = M → cc = 0) ∧ Hid (o.length = k) ∧ U16 o ∧ OwnN w.heap.size wr ao co o ∧ Below w.heap.size w wr ∧
    Hid (val o + 65536 ^ k * cc = val (l.take k) + val (m.take k)))
  case atStart => exact ⟨0, 0, [], none, 0, by omega, rfl, rfl, rfl, by omega, fun _ => rfl, rfl, U16.nil, Own.nil, Below.refl _ _, by show _ = _; simp [val]⟩
  case round =>
    obtain ⟨k, cc, o, ao, co, hkg, rfl, rfl, rfl, hc1, hcz, hol, hou, ho, hw, hv⟩ := hrel
    have HO := Lib.hid ho
    have HKG := Lib.hid hkg
    clear ho
    by_cases hstop : ¬ k < l.length ∧ ¬ k < m.length ∧ cc = 0
    · obtain ⟨h1, h2, rfl⟩ := hstop
      have hval : val o = n1 + n2 := by
        have := hv.out
        rw [val_take_all (by omega), val_take_all (by omega), HN.out, HK.out] at this
        omega
      have CN := norm01_any o ao co wr (HO.out.reads1 hou) (by rw [hol.out]; omega)
      rw [hval] at CN
      replace CN := Lib.hid CN
      have g1 : decide (k < l.length) = false := by rw [decide_eq_false_iff_not]; omega
      have g2 : decide (k < m.length) = false := by rw [decide_eq_false_iff_not]; omega
      clear hval hkg
      go_wp2_with fail
      refine CN.out.mono ?_
      rintro e w1 ⟨a1, c1, rfl, hV, hb1⟩
      have HV := Lib.hid hV
      have hb2 := below_then hw hb1
      clear hV
      go_wp2
      go_ret
      exact ⟨a1, c1, rfl, fun V hV => HV.out V (hV.base hw.size), hb2⟩
    · have hkM : k < M := by
        apply Nat.lt_of_not_le
        intro hc
        have : k = M := by omega
        have := hcz.out this
        omega
      have hx := limbAt_in hu k
      have hy := limbAt_in hu' k
      have CX := fun W (hW : Below w.heap.size w W) => limb01_any l k a c W (H.out.ext (Ext.below hW))
      have CY := fun W (hW : Below w.heap.size w W) => limb01_any m k a' c' W (H'.out.ext (Ext.below hW))
      have hstep := fun c2 d h1 => add_step l m o k cc c2 d hol.out hv.out h1
      have hx0 : ¬ k < l.length → limbAt l k = 0 := fun e => limbAt_none (by omega)
      have hy0 : ¬ k < m.length → limbAt m k = 0 := fun e => limbAt_none (by omega)
      revert CX CY hx hy hstep hx0 hy0
      generalize limbAt l k = xi
      generalize limbAt m k = yi
      intro hx hy CX CY hstep hx0 hy0
      obtain ⟨x, rfl⟩ : ∃ x : Nat, xi = (x : Int) := ⟨xi.toNat, by omega⟩
      obtain ⟨y, rfl⟩ : ∃ y : Nat, yi = (y : Int) := ⟨yi.toNat, by omega⟩
      simp only [Int.toNat_natCast] at hstep
      obtain ⟨lo, hlo⟩ : ∃ lo, (x + y + cc) % 65536 = lo := ⟨_, rfl⟩
      obtain ⟨c2, hc2⟩ : ∃ c2, (x + y + cc) / 65536 = c2 := ⟨_, rfl⟩
      have hs := hstep c2 lo (by omega)
      have hc21 : c2 ≤ 1 := by omega
      have hlo1 : lo ≤ 65535 := by omega
      have hcz2 : k + 1 = M → c2 = 0 := fun e => by
        have h1 := hx0 (by have := HM.out; omega)
        have h2 := hy0 (by have := HM.out; omega)
        omega
      have w1 : ((x : Int) + (y : Int) + (cc : Int)).tmod 65536 = (lo : Int) := by
        have : (((x + y + cc : Nat) : Int)).tmod ((65536 : Nat) : Int) = (((x + y + cc) % 65536 : Nat) : Int) := rfl
        rw [hlo] at this
        simpa using this
      have w2 : ((x : Int) + (y : Int) + (cc : Int)).tdiv 65536 = (c2 : Int) := by
        have : (((x + y + cc : Nat) : Int)).tdiv ((65536 : Nat) : Int) = (((x + y + cc) / 65536 : Nat) : Int) := rfl
        rw [hc2] at this
        simpa using this
      have HS := Lib.hid hs
      have HCZ2 := Lib.hid hcz2
      have hkI : (k : Int) ≤ 4000001 := by omega
      replace CX := Lib.hid CX
      replace CY := Lib.hid CY
      have HLEN : Hid (o.length + 1 ≤ 16777216) := Lib.hid (by rw [hol.out]; omega)
      have HKM := Lib.hid hkM
      have hgB := hw.size
      by_cases h1 : k < l.length
      · have g1 : decide (k < l.length) = true := by rw [decide_eq_true_eq]; omega
        clear hstop hkg hstep hs hcz2 hlo hc2 hx0 hy0 h1 hkM
        go_wp2_with fail
        refine (CX.out _ hw).mono ?_
        rintro e w3 ⟨rfl, rfl⟩
        go_wp2_with fail
        refine (CY.out _ hw).mono ?_
        rintro e w3 ⟨rfl, rfl⟩
        go_wp2_with (at_builtin; go_must (refine append_nat rfl (.tmp 34) (.tmp 38) rfl ao co rfl (HO.out.alloc _) (lo : Int) wr.heap.size 1 rfl (by simp) (o ++ [(lo : Int)]) rfl (by have := HLEN.out; simpa using this) (by simp; omega) ?_); intro a2 c2' w2' ho2 hg2 hx2)
        go_roundg (gk - 1)
        case rel => exact ⟨k + 1, c2, o ++ [(lo : Int)], a2, c2', by have := HKG.out; have := HKM.out; omega, by first | rfl | simp, rfl, by go_num, by omega, HCZ2.out, by show _ = _; rw [List.length_append, hol.out]; rfl, hou.app (U16.cons (by omega) U16.nil), ho2, below_append' (hw.alloc hw.size _) (HO.out.alloc _) hg2, HS.out⟩
        case measure => have := HKG.out; have := HKM.out; omega
      · have g1 : decide (k < l.length) = false := by rw [decide_eq_false_iff_not]; omega
        by_cases h2 : k < m.length
        · have g2 : decide (k < m.length) = true := by rw [decide_eq_true_eq]; omega
          clear hstop hkg hstep hs hcz2 hlo hc2 hx0 hy0 h1 h2 hkM
          go_wp2_with fail
          refine (CX.out _ hw).mono ?_
          rintro e w3 ⟨rfl, rfl⟩
          go_wp2_with fail
          refine (CY.out _ hw).mono ?_
          rintro e w3 ⟨rfl, rfl⟩
          go_wp2_with (at_builtin; go_must (refine append_nat rfl (.tmp 34) (.tmp 38) rfl ao co rfl (HO.out.alloc _) (lo : Int) wr.heap.size 1 rfl (by simp) (o ++ [(lo : Int)]) rfl (by have := HLEN.out; simpa using this) (by simp; omega) ?_); intro a2 c2' w2' ho2 hg2 hx2)
          go_roundg (gk - 1)
          case rel => exact ⟨k + 1, c2, o ++ [(lo : Int)], a2, c2', by have := HKG.out; have := HKM.out; omega, by first | rfl | simp, rfl, by go_num, by omega, HCZ2.out, by show _ = _; rw [List.length_append, hol.out]; rfl, hou.app (U16.cons (by omega) U16.nil), ho2, below_append' (hw.alloc hw.size _) (HO.out.alloc _) hg2, HS.out⟩
          case measure => have := HKG.out; have := HKM.out; omega
        · have g2 : decide (k < m.length) = false := by rw [decide_eq_false_iff_not]; omega
          have g3 : decide (0 < cc) = true := by rw [decide_eq_true_eq]; omega
          clear hstop hkg hstep hs hcz2 hlo hc2 hx0 hy0 h1 h2 hkM
          go_wp2_with fail
          refine (CX.out _ hw).mono ?_
          rintro e w3 ⟨rfl, rfl⟩
          go_wp2_with fail
          refine (CY.out _ hw).mono ?_
          rintro e w3 ⟨rfl, rfl⟩
          go_wp2_with (at_builtin; go_must (refine append_nat rfl (.tmp 34) (.tmp 38) rfl ao co rfl (HO.out.alloc _) (lo : Int) wr.heap.size 1 rfl (by simp) (o ++ [(lo : Int)]) rfl (by have := HLEN.out; simpa using this) (by simp; omega) ?_); intro a2 c2' w2' ho2 hg2 hx2)
          go_roundg (gk - 1)
          case rel => exact ⟨k + 1, c2, o ++ [(lo : Int)], a2, c2', by have := HKG.out; have := HKM.out; omega, by first | rfl | simp, rfl, by go_num, by omega, HCZ2.out, by show _ = _; rw [List.length_append, hol.out]; rfl, hou.app (U16.cons (by omega) U16.nil), ho2, below_append' (hw.alloc hw.size _) (HO.out.alloc _) hg2, HS.out⟩
          case measure => have := HKG.out; have := HKM.out; omega
end Go.Proofs.Ytfahnnkppakiiaa
