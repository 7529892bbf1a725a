/- Walks: the sign of a fraction whose denominator is not 0, by the program. -/
import Derived.Test.YtckfemfbpnieaaaDt16
import Derived.Test.YtckfemfbpnieaaaDt15

/- Walks: the program's rational numbers: reduced, Make, Of. -/
namespace Go.Proofs.Ytckfemfbpnieaaa
open Go.RowKit

theorem reduced_any (neg : Bool) (l m : List Int) (n d : Nat) (a a' : Option Addr) (c c' : Nat) (w : World) (h : NatR w a c l) (h' : NatR w a' c' m) (hn : val l = n) (hk : val m = d) (hl : l.length ≤ 2000000) (hm : m.length ≤ 2000000) :
    Calls Try.prog 35 #[.agg #[.bool neg, .slice a l.length c], .slice a' m.length c'] w (RetF (lowest neg n d) w) := by
  have hll := limbs_len_val h.u16
  rw [hn] at hll
  have hlm := limbs_len_val h'.u16
  rw [hk] at hlm
  by_cases hd : d = 0
  · rw [hd, lowest_nil]
    exact reduced_nil neg l m n d a a' c c' w h h' hn hk hl hm (.inl hd)
  · by_cases h0 : n = 0
    · rw [h0, lowest_null _ hd]
      exact reduced_nil neg l m n d a a' c c' w h h' hn hk hl hm (.inr h0)
    · by_cases h1 : d = 1
      · rw [lowest_one h0 hd (by rw [h1, Nat.gcd_one_right])]
        exact reduced_unit neg l m n d a a' c c' w h h' hn hk hl hm h0 h1
      · by_cases hg : Nat.gcd n d = 1
        · rw [lowest_one h0 hd hg]
          exact reduced_prime neg l m n d a a' c c' w h h' hn hk hl hm h0 hd h1 (by omega) (by omega) hg
        · rw [lowest_full h0 hd]
          exact reduced_common neg l m n d a a' c c' w h h' hn hk hl hm h0 hd h1 (by omega) (by omega) hg
theorem lowest_int (z : Int) : lowest (decide (z < 0)) z.natAbs 1 = (decide (z < 0), z.natAbs, 1) := by
  unfold lowest
  rw [if_neg (by omega), Nat.gcd_one_right, Nat.div_one]
  by_cases hz : z < 0
  · have : decide (0 < z.natAbs) = true := by rw [decide_eq_true_eq]; omega
    rw [this, Bool.and_true]
  · rw [decide_eq_false hz, Bool.false_and]
set_option maxRecDepth 100000 in
set_option maxHeartbeats 2000000 in
theorem qmake_any (neg1 neg2 : Bool) (l m : List Int) (n1 n2 : Nat) (a a' : Option Addr) (c c' : Nat) (w : World) (h : NatR w a c l) (h' : NatR w a' c' m) (hn : val l = n1) (hk : val m = n2) (hl : l.length ≤ 2000000) (hm : m.length ≤ 2000000) (h0 : n2 ≠ 0) :
    Calls Try.prog 38 #[.agg #[.bool neg1, .slice a l.length c], .agg #[.bool neg2, .slice a' m.length c']] w (RetM (lowest (neg1 != neg2) n1 n2) w) := by
  have CS := fun W (hW : Below w.heap.size w W) => zsign_any neg2 m n2 a' c' W (h'.ext (Ext.below hW)) hk (by omega)
  have CO1 := fun W (hW : Below w.heap.size w W) => reduced_any (neg1 != neg2) l m n1 n2 a a' c c' W (h.ext (Ext.below hW)) (h'.ext (Ext.below hW)) hn hk hl hm
  have hsg : sgnZ neg2 n2 ≠ 0 := by
    unfold sgnZ
    rw [if_neg h0]
    split <;> decide
  obtain ⟨sg, hsg2⟩ : ∃ q, sgnZ neg2 n2 = q := ⟨_, rfl⟩
  rw [hsg2] at CS hsg
  have hne : (sg == 0) = false := by rw [beq_eq_false_iff_ne]; exact hsg
  have hz : Blk (((w.alloc (.cells #[.bool neg1, .slice a l.length c] 32)).alloc (.cells #[.bool neg2, .slice a' m.length c'] 32)).alloc (.cells #[.bool false, .slice none 0 0, .slice none 0 0] 34)) (w.heap.size + 1 + 1) 34 #[.bool false, .slice none 0 0, .slice none 0 0] := blk_at2 w _ _ _ _
  have hx1 : Blk (((w.alloc (.cells #[.bool neg1, .slice a l.length c] 32)).alloc (.cells #[.bool neg2, .slice a' m.length c'] 32)).alloc (.cells #[.bool false, .slice none 0 0, .slice none 0 0] 34)) w.heap.size 32 #[.bool neg1, .slice a l.length c] := ((Blk.new w _ _).alloc _).alloc _
  have hx2 : Blk (((w.alloc (.cells #[.bool neg1, .slice a l.length c] 32)).alloc (.cells #[.bool neg2, .slice a' m.length c'] 32)).alloc (.cells #[.bool false, .slice none 0 0, .slice none 0 0] 34)) (w.heap.size + 1) 32 #[.bool neg2, .slice a' m.length c'] := (blk_at1 w _ _ _).alloc _
  have hb0 : Below w.heap.size w (((w.alloc (.cells #[.bool neg1, .slice a l.length c] 32)).alloc (.cells #[.bool neg2, .slice a' m.length c'] 32)).alloc (.cells #[.bool false, .slice none 0 0, .slice none 0 0] 34)) := by go_grown
  have hgB : w.heap.size < w.heap.size + 1 + 1 := by omega
  have hgB2 : w.heap.size + 1 < w.heap.size + 1 + 1 := by omega
  have hgC : w.heap.size < w.heap.size + 1 := by omega
  obtain ⟨t, ht⟩ : ∃ t, lowest (neg1 != neg2) n1 n2 = t := ⟨_, rfl⟩
  rw [ht] at CO1 ⊢
  obtain ⟨s, N, D⟩ := t
  unfold RetF at CO1
  unfold RetM
  dsimp only at CO1 ⊢
  replace CS := Lib.hid CS; replace CO1 := Lib.hid CO1
  clear h h' hn hk hsg hsg2 h0 ht
  go_enter Try.func38, Try.ntmps38
  go_wp2_with fail
  have hgl := hz.lt
  revert hz hx1 hx2 hb0 hgB hgB2 hgC hgl
  generalize ((w.alloc (.cells #[.bool neg1, .slice a l.length c] 32)).alloc (.cells #[.bool neg2, .slice a' m.length c'] 32)).alloc (.cells #[.bool false, .slice none 0 0, .slice none 0 0] 34) = w0
  generalize w.heap.size + 1 + 1 = g
  generalize w.heap.size + 1 = g2
  intro hz hx1 hx2 hb0 hgB hgB2 hgC hgl
  refine (CS.out _ hb0).mono ?_
  rintro e w1 ⟨rfl, hb1⟩
  have hw1 := below_then hb0 hb1
  have hz1 := hz.below' hb1
  have hy1 := hx1.below' hb1
  have hy2 := hx2.below' hb1
  have z0 := hy1.cell 0; have z1 := hy1.cell 1; have z2 := hy2.cell 0; have z3 := hy2.cell 1
  go_wp2_with fail
  refine (CO1.out _ hw1).mono ?_
  rintro e w2 ⟨a1, c1, a2, c2, rfl, hV1, hV2, hb2⟩
  have hw2 := below_then hw1 hb2
  have hz2 := hz1.below' hb2
  have HV1 := Lib.hid hV1
  have HV2 := Lib.hid hV2
  have z4 := hz2.cell 0; have z5 := hz2.cell 1; have z6 := hz2.cell 2; have f0 := hz2.frozen 0; have f1 := hz2.frozen 1; have f2 := hz2.frozen 2
  have hs1 := hw1.size
  have hgl2 := hz1.lt
  clear hV1 hV2
  go_wp2
  have hF := blk3 (x := .bool s) (y := .slice a1 (limbs N).length c1) (z := .slice a2 (limbs D).length c2) hz2
  have e0 := hF.cell 0; have e1 := hF.cell 1; have e2 := hF.cell 2
  refine bodyPost_ret (v := .tuple #[.agg #[.bool s, .slice a1 (limbs N).length c1, .slice a2 (limbs D).length c2], .int .i64 0]) (by simp [results, Try.results38, go_sem, e0, e1, e2]) rfl ?_
  exact ⟨a1, c1, a2, c2, rfl, fun V hV => HV1.out V (back3 hV hs1 hgl2), fun V hV => HV2.out V (back3 hV hs1 hgl2), below3 hw2 (Nat.le_of_lt hgB)⟩
set_option maxRecDepth 100000 in
set_option maxHeartbeats 1000000 in
theorem qint_any (z : Int) (w : World) (hi : InInt z) :
    Calls Try.prog 18 #[.int .i64 z] w (RetF (lowest (decide (z < 0)) z.natAbs 1) w) := by
  have CZ := fun W => zint_any z W hi
  have C1 := fun W => unit_any W
  rw [lowest_int]
  obtain ⟨s, hng⟩ : ∃ q, decide (z < 0) = q := ⟨_, rfl⟩
  obtain ⟨N, hnz⟩ : ∃ q, z.natAbs = q := ⟨_, rfl⟩
  simp only [hng, hnz] at CZ ⊢
  unfold RetF RetQ
  dsimp only
  replace CZ := Lib.hid CZ; replace C1 := Lib.hid C1
  have hz : Blk (w.alloc (.cells #[.bool false, .slice none 0 0, .slice none 0 0] 34)) w.heap.size 34 #[.bool false, .slice none 0 0, .slice none 0 0] := Blk.new w _ _
  have hb0 : Below w.heap.size w (w.alloc (.cells #[.bool false, .slice none 0 0, .slice none 0 0] 34)) := (Below.refl _ _).alloc (Nat.le_refl _) _
  clear hng hnz
  go_enter Try.func18, Try.ntmps18
  go_wp2_with fail
  revert hz hb0
  generalize w.alloc (.cells #[.bool false, .slice none 0 0, .slice none 0 0] 34) = w0
  intro hz hb0
  refine (CZ.out _).mono ?_
  rintro e w1 ⟨a1, c1, rfl, hV1, hb1⟩
  have hw1 := below_then hb0 hb1
  have hz1 := hz.below' hb1
  have HV1 := Lib.hid hV1
  clear hV1
  go_wp2_with fail
  refine (C1.out _).mono ?_
  rintro e w2 ⟨a2, c2, rfl, hV2, hb2⟩
  have hw2 := below_then hw1 hb2
  have hz2 := hz1.below' hb2
  have HV2 := Lib.hid hV2
  have hs0 := hb0.size
  have hgl0 := hz.lt
  have hs1 := hw1.size
  have hgl1 := hz1.lt
  have z0 := hz2.cell 0; have z1 := hz2.cell 1; have z2 := hz2.cell 2; have f0 := hz2.frozen 0; have f1 := hz2.frozen 1; have f2 := hz2.frozen 2
  clear hV2 hz hz1
  go_wp2
  have hF := blk3 (x := .bool s) (y := .slice a1 (limbs N).length c1) (z := .slice a2 (limbs 1).length c2) hz2
  have e0 := hF.cell 0; have e1 := hF.cell 1; have e2 := hF.cell 2
  refine bodyPost_ret (v := .agg #[.bool s, .slice a1 (limbs N).length c1, .slice a2 (limbs 1).length c2]) (by simp [results, Try.results18, go_sem, e0, e1, e2]) rfl ?_
  exact ⟨a1, c1, a2, c2, rfl, fun V hV => HV1.out V ((back3 hV hs0 hgl0).below hb2), fun V hV => HV2.out V (back3 hV hs1 hgl1), below3 hw2 (Nat.le_refl _)⟩
end Go.Proofs.Ytckfemfbpnieaaa

/- Fractions as rational numbers: the value of a sign, a numerator and a denominator. No function of the program in sight. -/
namespace Go.Proofs.Ytckfemfbpnieaaa

/-- the value of a fraction, 0 where the denominator is 0 -/
def qv (neg : Bool) (n d : Nat) : Rat := mkRat (zval neg n) d
/-- sign, numerator and denominator of a rational number -/
def trip (q : Rat) : Bool × Nat × Nat := (decide (q.num < 0), q.num.natAbs, q.den)
/-- Go's order of two rational numbers -/
def cmpQ (p q : Rat) : Int := if p < q then -1 else if q < p then 1 else 0
theorem zval_abs (neg : Bool) (n : Nat) : (zval neg n).natAbs = n := by unfold zval; split <;> omega
theorem zval_neg (neg : Bool) (n : Nat) : zval (!neg) n = -zval neg n := by unfold zval; cases neg <;> simp
theorem zval_mul (a b : Bool) (n m : Nat) : zval (a != b) (n * m) = zval a n * zval b m := by
  unfold zval; cases a <;> cases b <;> simp [Int.neg_mul, Int.mul_neg]
theorem zval_cast (n : Nat) : zval false n = n := by simp [zval]
theorem zval_self (z : Int) : zval (decide (z < 0)) z.natAbs = z := by
  unfold zval; split
  · next h => simp at h; omega
  · next h => simp at h; omega
theorem zval_div {neg : Bool} {n g : Nat} (hg : g ∣ n) : zval neg n / (g : Int) = zval neg (n / g) := by
  obtain ⟨k, rfl⟩ := hg
  by_cases h0 : g = 0
  · subst h0; unfold zval; cases neg <;> simp
  · have hp : (g : Int) ≠ 0 := by omega
    rw [Nat.mul_div_cancel_left _ (by omega)]
    unfold zval
    cases neg
    · simp; rw [Int.mul_ediv_cancel_left _ hp]
    · simp only [if_true, Int.natCast_mul]
      rw [← Int.mul_neg, Int.mul_ediv_cancel_left _ hp]
theorem zval_lt (neg : Bool) (n : Nat) : decide (zval neg n < 0) = (neg && decide (0 < n)) := by
  unfold zval; cases neg <;> simp
theorem lowest_qv (neg : Bool) (n d : Nat) : lowest neg n d = trip (qv neg n d) := by
  unfold lowest trip qv
  rw [Rat.num_mkRat, Rat.den_mkRat]
  by_cases h0 : d = 0
  · simp [h0]
  · rw [if_neg h0, if_neg h0, if_neg h0, zval_abs, Nat.gcd_comm d n, zval_div (Nat.gcd_dvd_left n d), zval_lt, zval_abs]
theorem qv_trip (q : Rat) : qv (trip q).1 (trip q).2.1 (trip q).2.2 = q := by
  unfold qv trip
  dsimp only
  rw [zval_self, Rat.mkRat_self]
theorem qv_parts (q : Rat) : qv (decide (q.num < 0)) q.num.natAbs q.den = q := qv_trip q
theorem zval_scale (a : Bool) (n m : Nat) : zval a (n * m) = zval a n * m := by unfold zval; cases a <;> simp [Int.neg_mul]
theorem crossed_trip (p q : Rat) : crossed (trip p) (trip q) = cmpQ p q := by
  unfold crossed trip cmpQ cmpI
  dsimp only
  rw [zval_scale, zval_scale, zval_self, zval_self]
  simp only [Rat.lt_iff]
theorem crossed_lowest (a b : Bool) (n d m c : Nat) : crossed (lowest a n d) (lowest b m c) = cmpQ (qv a n d) (qv b m c) := by rw [lowest_qv, lowest_qv, crossed_trip]
theorem qv_nil (neg : Bool) (n : Nat) : qv neg n 0 = 0 := by simp [qv]
theorem qv_zero (neg : Bool) (d : Nat) : qv neg 0 d = 0 := by unfold qv zval; cases neg <;> simp
theorem qv_add (a b : Bool) (n d m c : Nat) (hd : d ≠ 0) (hc : c ≠ 0) : mkRat (zval a n * c + zval b m * d) (d * c) = qv a n d + qv b m c := by
  unfold qv; rw [Rat.mkRat_add_mkRat _ _ hd hc]
theorem qv_mul (a b : Bool) (n d m c : Nat) : qv (a != b) (n * m) (d * c) = qv a n d * qv b m c := by
  unfold qv; rw [Rat.mkRat_mul_mkRat, zval_mul]
theorem qv_neg (a : Bool) (n d : Nat) : qv (!a) n d = - qv a n d := by
  unfold qv; rw [Rat.neg_mkRat, zval_neg]
theorem cmpQ_lt {p q : Rat} : cmpQ p q < 0 ↔ p < q := by
  unfold cmpQ; split
  · simp [*]
  · split <;> simp [*]
theorem cmpQ_gt {p q : Rat} : 0 < cmpQ p q ↔ q < p := by
  unfold cmpQ; split
  · next h => simp; exact Rat.not_lt.2 (Rat.le_of_lt h)
  · split <;> simp [*]
theorem cmpQ_le {p q : Rat} : cmpQ p q ≤ 0 ↔ p ≤ q := by
  rw [← Int.not_lt, cmpQ_gt, Rat.not_lt]
theorem cmpQ_ge {p q : Rat} : 0 ≤ cmpQ p q ↔ q ≤ p := by
  rw [← Int.not_lt, cmpQ_lt, Rat.not_lt]
theorem cmpQ_zero {p q : Rat} : cmpQ p q = 0 ↔ p = q := by
  constructor
  · intro h
    exact Rat.le_antisymm (cmpQ_le.1 (by omega)) (cmpQ_ge.1 (by omega))
  · rintro rfl
    have h1 := (cmpQ_le (p := p) (q := p)).2 Rat.le_refl
    have h2 := (cmpQ_ge (p := p) (q := p)).2 Rat.le_refl
    omega
theorem cmpQ_in (p q : Rat) : -1 ≤ cmpQ p q ∧ cmpQ p q ≤ 1 := by unfold cmpQ; split <;> (try split) <;> omega
theorem qv_sign (neg : Bool) (n d : Nat) (hd : d ≠ 0) : (qv neg n d < 0 ↔ zval neg n < 0) ∧ (0 < qv neg n d ↔ 0 < zval neg n) := by
  have hg : 0 < Nat.gcd d (zval neg n).natAbs := Nat.gcd_pos_of_pos_left _ (by omega)
  have hdv : ((Nat.gcd d (zval neg n).natAbs : Nat) : Int) ∣ zval neg n := by
    exact Int.ofNat_dvd_left.2 (Nat.gcd_dvd_right _ _)
  obtain ⟨k, hk⟩ := hdv
  have e : (qv neg n d).num = k := by
    unfold qv
    rw [Rat.num_mkRat, if_neg hd]
    generalize Nat.gcd d (zval neg n).natAbs = g at *
    rw [hk, Int.mul_ediv_cancel_left _ (by omega)]
  rw [Rat.lt_iff, Rat.lt_iff, e]
  generalize Nat.gcd d (zval neg n).natAbs = g at *
  rw [hk]
  have hg' : (0 : Int) < g := by omega
  simp
  constructor
  · constructor
    · intro h; exact Int.mul_neg_of_pos_of_neg hg' h
    · intro h; apply Int.lt_of_not_ge; intro hc; have := Int.mul_nonneg (Int.le_of_lt hg') hc; omega
  · constructor
    · intro h; exact Int.mul_pos hg' h
    · intro h; apply Int.lt_of_not_ge; intro hc; have := Int.mul_nonneg (Int.le_of_lt hg') (show 0 ≤ -k by omega); rw [Int.mul_neg] at this; omega
end Go.Proofs.Ytckfemfbpnieaaa

/- Words for rational numbers as they lie in memory: a sign and two slices of limbs, read as one number. -/
namespace Go.Proofs.Ytckfemfbpnieaaa
open Go.RowKit

/-- a rational number as it lies in memory: sign, and where the limbs of both numbers lie -/
structure QA where
  neg : Bool
  n : Nat
  a : Option Addr
  c : Nat
  m : Nat
  b : Option Addr
  d : Nat
def QA.cs (x : QA) : Array Value := #[.bool x.neg, .slice x.a x.n x.c, .slice x.b x.m x.d]
def QA.val (x : QA) : Value := .agg #[.bool x.neg, .slice x.a x.n x.c, .slice x.b x.m x.d]
/-- x reads as q, with at most k limbs above and below the line -/
def QAt (k : Nat) (w : World) (x : QA) (q : Rat) : Prop := ∃ l m, l.length = x.n ∧ m.length = x.m ∧ NatR w x.a x.c l ∧ NatR w x.b x.d m ∧ qv x.neg (val l) (val m) = q ∧ x.n ≤ k ∧ x.m ≤ k
/-- x is the valid form of q -/
def QAc (w : World) (x : QA) (q : Rat) : Prop := x.neg = decide (q.num < 0) ∧ x.n = (limbs q.num.natAbs).length ∧ x.m = (limbs q.den).length ∧ NatR w x.a x.c (limbs q.num.natAbs) ∧ NatR w x.b x.d (limbs q.den)
theorem QAt.ext {k : Nat} {w w' : World} {x : QA} {q : Rat} (h : QAt k w x q) (e : Ext w w') : QAt k w' x q := by
  obtain ⟨l, m, h1, h2, h3, h4, h5⟩ := h
  exact ⟨l, m, h1, h2, h3.ext e, h4.ext e, h5⟩
theorem QAt.below {k : Nat} {w w' : World} {x : QA} {q : Rat} (h : QAt k w x q) (e : Below w.heap.size w w') : QAt k w' x q := h.ext (Ext.below e)
theorem QAt.more {k k' : Nat} {w : World} {x : QA} {q : Rat} (h : QAt k w x q) (e : k ≤ k') : QAt k' w x q := by
  obtain ⟨l, m, h1, h2, h3, h4, h5, h6, h7⟩ := h
  exact ⟨l, m, h1, h2, h3, h4, h5, by omega, by omega⟩
theorem QAc.ext {w w' : World} {x : QA} {q : Rat} (h : QAc w x q) (e : Ext w w') : QAc w' x q := ⟨h.1, h.2.1, h.2.2.1, h.2.2.2.1.ext e, h.2.2.2.2.ext e⟩
/-- limbs above and below the line -/
def qsz (q : Rat) : Nat := max (limbs q.num.natAbs).length (limbs q.den).length
theorem QAc.at_ {k : Nat} {w : World} {x : QA} {q : Rat} (h : QAc w x q) (hk : qsz q ≤ k) : QAt k w x q := by
  obtain ⟨h1, h2, h3, h4, h5⟩ := h
  unfold qsz at hk
  refine ⟨_, _, h2.symm, h3.symm, h4, h5, ?_, by omega, by omega⟩
  rw [val_limbs, val_limbs, h1]
  exact qv_parts q
/-- what a call gives that makes the rational number q -/
def RetR (q : Rat) (w : World) (e : Ending) (w' : World) : Prop := ∃ x : QA, e = .returned (.agg #[.bool x.neg, .slice x.a x.n x.c, .slice x.b x.m x.d]) ∧ (∀ V, New w.heap.size w' V → QAc V x q) ∧ Below w.heap.size w w'
theorem retF_retR {q : Rat} {w : World} {e : Ending} {w' : World} (h : RetF (trip q) w e w') : RetR q w e w' := by
  obtain ⟨na, nc, da, dc, rfl, h1, h2, hb⟩ := h
  exact ⟨⟨decide (q.num < 0), (limbs q.num.natAbs).length, na, nc, (limbs q.den).length, da, dc⟩, rfl, fun V hV => ⟨rfl, rfl, rfl, h1 V hV, h2 V hV⟩, hb⟩

/-! ### Sizes -/
theorem limbs_len_sum {a b c : Nat} (h : a ≤ b + c) : (limbs a).length ≤ max (limbs b).length (limbs c).length + 1 := Nat.le_trans (limbs_len_mono h) (limbs_len_add b c)
theorem qv_num_le (neg : Bool) (n d : Nat) : (qv neg n d).num.natAbs ≤ n ∧ (qv neg n d).den ≤ d + 1 := by
  have h1 := lowest_num neg n d
  have h2 := lowest_den neg n d
  rw [lowest_qv] at h1 h2
  exact ⟨h1, h2⟩
theorem mk_num_le (z : Int) (d : Nat) (hd : d ≠ 0) : (mkRat z d).num.natAbs ≤ z.natAbs ∧ (mkRat z d).den ≤ d := by
  rw [Rat.num_mkRat, Rat.den_mkRat, if_neg hd, if_neg hd]
  exact ⟨Int.natAbs_ediv_le_natAbs _ _, Nat.div_le_self _ _⟩
theorem qsz_le {q : Rat} {k : Nat} (h1 : (limbs q.num.natAbs).length ≤ k) (h2 : (limbs q.den).length ≤ k) : qsz q ≤ k := by unfold qsz; omega
theorem qsz_num (q : Rat) : (limbs q.num.natAbs).length ≤ qsz q := Nat.le_max_left _ _
theorem qsz_den (q : Rat) : (limbs q.den).length ≤ qsz q := Nat.le_max_right _ _
theorem qsz_mul (p q : Rat) : qsz (p * q) ≤ qsz p + qsz q := by
  rw [Rat.mul_def']
  have h0 : p.den * q.den ≠ 0 := Nat.mul_ne_zero p.den_nz q.den_nz
  obtain ⟨h1, h2⟩ := mk_num_le (p.num * q.num) (p.den * q.den) h0
  rw [Int.natAbs_mul] at h1
  have a1 := limbs_len_mul p.num.natAbs q.num.natAbs
  have a2 := limbs_len_mul p.den q.den
  have b1 := limbs_len_mono h1
  have b2 := limbs_len_mono h2
  have c1 := qsz_num p
  have c2 := qsz_num q
  have c3 := qsz_den p
  have c4 := qsz_den q
  exact qsz_le (by omega) (by omega)
theorem qsz_neg (q : Rat) : qsz (-q) = qsz q := by unfold qsz; simp
theorem qsz_add (p q : Rat) : qsz (p + q) ≤ qsz p + qsz q + 1 := by
  rw [Rat.add_def']
  have h0 : p.den * q.den ≠ 0 := Nat.mul_ne_zero p.den_nz q.den_nz
  obtain ⟨h1, h2⟩ := mk_num_le (p.num * q.den + q.num * p.den) (p.den * q.den) h0
  have h3 : (p.num * q.den + q.num * p.den).natAbs ≤ p.num.natAbs * q.den + q.num.natAbs * p.den := by
    refine Nat.le_trans (Int.natAbs_add_le _ _) ?_
    rw [Int.natAbs_mul, Int.natAbs_mul]
    exact Nat.le_refl _
  have a1 := limbs_len_mul p.num.natAbs q.den
  have a2 := limbs_len_mul q.num.natAbs p.den
  have a3 := limbs_len_mul p.den q.den
  have a4 := limbs_len_sum (Nat.le_trans h1 h3)
  have b2 := limbs_len_mono h2
  have c1 := qsz_num p
  have c2 := qsz_num q
  have c3 := qsz_den p
  have c4 := qsz_den q
  exact qsz_le (by omega) (by omega)
theorem qsz_sub (p q : Rat) : qsz (p - q) ≤ qsz p + qsz q + 1 := by
  rw [Rat.sub_eq_add_neg]
  have := qsz_add p (-q)
  rw [qsz_neg] at this
  exact this
theorem QAt.sz {k : Nat} {w : World} {x : QA} {q : Rat} (h : QAt k w x q) : qsz q ≤ k + 1 := by
  obtain ⟨l, m, h1, h2, h3, h4, rfl, h6, h7⟩ := h
  obtain ⟨a, b⟩ := qv_num_le x.neg (val l) (val m)
  have a1 := limbs_len_mono a
  have b1 := limbs_len_mono b
  have b2 := limbs_len_succ (val m)
  have c1 := limbs_len_val h3.u16
  have c2 := limbs_len_val h4.u16
  exact qsz_le (by omega) (by omega)
end Go.Proofs.Ytckfemfbpnieaaa

/- Walks: the sign of a fraction whose denominator is not 0, by the program. -/
namespace Go.Proofs.Ytckfemfbpnieaaa
open Go.RowKit

theorem lowest_sgn (neg : Bool) (n d : Nat) (h0 : d ≠ 0) : sgnZ (lowest neg n d).1 (lowest neg n d).2.1 = sgnZ neg n := by
  unfold lowest
  rw [if_neg h0]
  dsimp only
  unfold sgnZ
  by_cases hn : n = 0
  · subst hn; simp
  · have hg : 0 < Nat.gcd n d := Nat.gcd_pos_of_pos_left _ (by omega)
    have hq : 0 < n / Nat.gcd n d := Nat.div_pos (Nat.le_of_dvd (by omega) (Nat.gcd_dvd_left n d)) hg
    rw [if_neg (by omega), if_neg hn, decide_eq_true hq, Bool.and_true]
theorem rat_num (s : Bool) (a1 : Option Addr) (k1 c1 : Nat) (a2 : Option Addr) (k2 c2 : Nat) (w : World) : (Instr.field 34 (.agg #[.bool s, .slice a1 k1 c1, .slice a2 k2 c2]) 0).run Try.prog w = .ok (.agg #[.bool s, .slice a1 k1 c1]) w := by kernel_rfl
set_option maxRecDepth 100000 in
set_option maxHeartbeats 1000000 in
theorem qsign_any (neg : Bool) (l m : List Int) (n : Nat) (a a' : Option Addr) (c c' : Nat) (w : World) (h : NatR w a c l) (h' : NatR w a' c' m) (hn : val l = n) (h0 : val m ≠ 0) (hl : l.length ≤ 2000000) (hm : m.length ≤ 2000000) :
    Calls Try.prog 54 #[.agg #[.bool neg, .slice a l.length c, .slice a' m.length c']] w fun e w' => e = .returned (.int .i64 (sgnZ neg n)) ∧ Below w.heap.size w w' := by
  have CP := fun W (hW : Below w.heap.size w W) => parts_any neg l m a a' c c' W (h'.ext (Ext.below hW)) h0 (by omega)
  have CS := fun W (hW : Below w.heap.size w W) => zsign_any neg l n a c W (h.ext (Ext.below hW)) hn (by omega)
  obtain ⟨R, hR⟩ : ∃ q, sgnZ neg n = q := ⟨_, rfl⟩
  rw [hR] at CS ⊢
  replace CP := Lib.hid CP; replace CS := Lib.hid CS
  have hz : Blk (w.alloc (.cells #[.bool neg, .slice a l.length c, .slice a' m.length c'] 34)) w.heap.size 34 #[.bool neg, .slice a l.length c, .slice a' m.length c'] := Blk.new w _ _
  have hb0 : Below w.heap.size w (w.alloc (.cells #[.bool neg, .slice a l.length c, .slice a' m.length c'] 34)) := (Below.refl _ _).alloc (Nat.le_refl _) _
  clear h h' hn h0 hR
  go_enter Try.func54, Try.ntmps54
  go_wp2_with fail
  revert hz hb0
  generalize w.alloc (.cells #[.bool neg, .slice a l.length c, .slice a' m.length c'] 34) = w0
  intro hz hb0
  have z0 := hz.cell 0; have z1 := hz.cell 1; have z2 := hz.cell 2
  go_wp2_with fail
  refine (CP.out _ hb0).mono ?_
  rintro e w1 ⟨rfl, hb1⟩
  have hw1 := below_then hb0 hb1
  clear z0 z1 z2 hz hb0 hb1
  have hy : Blk (w1.alloc (.cells #[.bool neg, .slice a l.length c] 32)) w1.heap.size 32 #[.bool neg, .slice a l.length c] := Blk.new w1 _ _
  have hw2 := hw1.alloc hw1.size (.cells #[.bool neg, .slice a l.length c] 32)
  go_wp2_with fail
  refine (CS.out _ hw2).mono ?_
  rintro e w2 ⟨rfl, hb2⟩
  go_wp2
  go_ret
  exact ⟨rfl, below_then hw2 hb2⟩
end Go.Proofs.Ytckfemfbpnieaaa
