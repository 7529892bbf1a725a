/- Walks: the program's rational numbers: the sum of two integers. -/
import Derived.Test.YtaihkpjbnkgmlaaGreatRf15
import Derived.Test.YtaihkpjbnkgmlaaGreatRf14
import Derived.Test.YtaihkpjbnkgmlaaGreatRf16
import Derived.LoopN

/- Fractions as rational numbers: the value of a sign, a numerator and a denominator. No function of the program in sight. -/
namespace Go.Proofs.YtaihkpjbnkgmlaaGreat

/-- the value of a fraction, 0 where the denominator is 0 -/
def qv (neg : Bool) (n d : Nat) : Rat := mkRat (zval neg n) d
/-- sign, numerator and denominator of a rational number -/
def trip (q : Rat) : Bool × Nat × Nat := (decide (q.num < 0), q.num.natAbs, q.den)
/-- Go's order of two rational numbers -/
def cmpQ (p q : Rat) : Int := if p < q then -1 else if q < p then 1 else 0
theorem zval_abs (neg : Bool) (n : Nat) : (zval neg n).natAbs = n := by unfold zval; split <;> omega
theorem zval_neg (neg : Bool) (n : Nat) : zval (!neg) n = -zval neg n := by unfold zval; cases neg <;> simp
theorem zval_mul (a b : Bool) (n m : Nat) : zval (a != b) (n * m) = zval a n * zval b m := by
 unfold zval; cases a <;> cases b <;> simp [Int.neg_mul, Int.mul_neg]
theorem zval_self (z : Int) : zval (decide (z < 0)) z.natAbs = z := by
 unfold zval; split
 · next h => simp at h; omega
 · next h => simp at h; omega
theorem zval_div {neg : Bool} {n g : Nat} (hg : g ∣ n) : zval neg n / (g : Int) = zval neg (n / g) := by
 obtain ⟨k, rfl⟩ := hg
 by_cases h0 : g = 0
 · subst h0; unfold zval; cases neg <;> simp
 ·
  have hp : (g : Int) ≠ 0 := by omega
  rw [Nat.mul_div_cancel_left _ (by omega)]
  unfold zval
  cases neg
  · simp; rw [Int.mul_ediv_cancel_left _ hp]
  ·
   simp only [if_true, Int.natCast_mul]
   rw [← Int.mul_neg, Int.mul_ediv_cancel_left _ hp]
theorem zval_lt (neg : Bool) (n : Nat) : decide (zval neg n < 0) = (neg && decide (0 < n)) := by
 unfold zval; cases neg <;> simp
theorem lowest_qv (neg : Bool) (n d : Nat) : lowest neg n d = trip (qv neg n d) := by
 unfold lowest trip qv
 rw [Rat.num_mkRat, Rat.den_mkRat]
 by_cases h0 : d = 0
 · simp [h0]
 · rw [if_neg h0, if_neg h0, if_neg h0, zval_abs, Nat.gcd_comm d n, zval_div (Nat.gcd_dvd_left n d), zval_lt, zval_abs]
theorem qv_trip (q : Rat) : qv (trip q).1 (trip q).2.1 (trip q).2.2 = q := by
 unfold qv trip
 dsimp only
 rw [zval_self, Rat.mkRat_self]
theorem qv_parts (q : Rat) : qv (decide (q.num < 0)) q.num.natAbs q.den = q := qv_trip q
theorem zval_scale (a : Bool) (n m : Nat) : zval a (n * m) = zval a n * m := by unfold zval; cases a <;> simp [Int.neg_mul]
theorem crossed_trip (p q : Rat) : crossed (trip p) (trip q) = cmpQ p q := by
 unfold crossed trip cmpQ cmpI
 dsimp only
 rw [zval_scale, zval_scale, zval_self, zval_self]
 simp only [Rat.lt_iff]
theorem crossed_lowest (a b : Bool) (n d m c : Nat) : crossed (lowest a n d) (lowest b m c) = cmpQ (qv a n d) (qv b m c) := by rw [lowest_qv, lowest_qv, crossed_trip]
theorem qv_add (a b : Bool) (n d m c : Nat) (hd : d ≠ 0) (hc : c ≠ 0) : mkRat (zval a n * c + zval b m * d) (d * c) = qv a n d + qv b m c := by
 unfold qv; rw [Rat.mkRat_add_mkRat _ _ hd hc]
theorem qv_mul (a b : Bool) (n d m c : Nat) : qv (a != b) (n * m) (d * c) = qv a n d * qv b m c := by
 unfold qv; rw [Rat.mkRat_mul_mkRat, zval_mul]
theorem qv_neg (a : Bool) (n d : Nat) : qv (!a) n d = - qv a n d := by
 unfold qv; rw [Rat.neg_mkRat, zval_neg]
theorem cmpQ_lt {p q : Rat} : cmpQ p q < 0 ↔ p < q := by
 unfold cmpQ; split
 · simp [*]
 · split <;> simp [*]
theorem cmpQ_gt {p q : Rat} : 0 < cmpQ p q ↔ q < p := by
 unfold cmpQ; split
 · next h => simp; exact Rat.not_lt.2 (Rat.le_of_lt h)
 · split <;> simp [*]
theorem cmpQ_le {p q : Rat} : cmpQ p q ≤ 0 ↔ p ≤ q := by
 rw [← Int.not_lt, cmpQ_gt, Rat.not_lt]
end Go.Proofs.YtaihkpjbnkgmlaaGreat

/- Words for rational numbers as they lie in memory: a sign and two slices of limbs, read as one number. -/
namespace Go.Proofs.YtaihkpjbnkgmlaaGreat
open Go.RowKit

/-- a rational number as it lies in memory: sign, and where the limbs of both numbers lie -/
structure QA where
 neg : Bool
 n : Nat
 a : Option Addr
 c : Nat
 m : Nat
 b : Option Addr
 d : Nat
def QA.cs (x : QA) : Array Value := #[.bool x.neg, .slice x.a x.n x.c, .slice x.b x.m x.d]
/-- x is the valid form of q -/
def QAc (w : World) (x : QA) (q : Rat) : Prop := x.neg = decide (q.num < 0) ∧ x.n = (limbs q.num.natAbs).length ∧ x.m = (limbs q.den).length ∧ NatR w x.a x.c (limbs q.num.natAbs) ∧ NatR w x.b x.d (limbs q.den)
theorem QAc.ext {w w' : World} {x : QA} {q : Rat} (h : QAc w x q) (e : Ext w w') : QAc w' x q := ⟨h.1, h.2.1, h.2.2.1, h.2.2.2.1.ext e, h.2.2.2.2.ext e⟩
/-- limbs above and below the line -/
def qsz (q : Rat) : Nat := max (limbs q.num.natAbs).length (limbs q.den).length
/-! ### Sizes -/
theorem limbs_len_sum {a b c : Nat} (h : a ≤ b + c) : (limbs a).length ≤ max (limbs b).length (limbs c).length + 1 := Nat.le_trans (limbs_len_mono h) (limbs_len_add b c)
theorem mk_num_le (z : Int) (d : Nat) (hd : d ≠ 0) : (mkRat z d).num.natAbs ≤ z.natAbs ∧ (mkRat z d).den ≤ d := by
 rw [Rat.num_mkRat, Rat.den_mkRat, if_neg hd, if_neg hd]
 exact ⟨Int.natAbs_ediv_le_natAbs _ _, Nat.div_le_self _ _⟩
theorem qsz_le {q : Rat} {k : Nat} (h1 : (limbs q.num.natAbs).length ≤ k) (h2 : (limbs q.den).length ≤ k) : qsz q ≤ k := by unfold qsz; omega
theorem qsz_num (q : Rat) : (limbs q.num.natAbs).length ≤ qsz q := Nat.le_max_left _ _
theorem qsz_den (q : Rat) : (limbs q.den).length ≤ qsz q := Nat.le_max_right _ _
theorem qsz_mul (p q : Rat) : qsz (p * q) ≤ qsz p + qsz q := by
 rw [Rat.mul_def']
 have h0 : p.den * q.den ≠ 0 := Nat.mul_ne_zero p.den_nz q.den_nz
 obtain ⟨h1, h2⟩ := mk_num_le (p.num * q.num) (p.den * q.den) h0
 rw [Int.natAbs_mul] at h1
 have a1 := limbs_len_mul p.num.natAbs q.num.natAbs
 have a2 := limbs_len_mul p.den q.den
 have b1 := limbs_len_mono h1
 have b2 := limbs_len_mono h2
 have c1 := qsz_num p
 have c2 := qsz_num q
 have c3 := qsz_den p
 have c4 := qsz_den q
 exact qsz_le (by omega) (by omega)
theorem qsz_neg (q : Rat) : qsz (-q) = qsz q := by unfold qsz; simp
theorem qsz_add (p q : Rat) : qsz (p + q) ≤ qsz p + qsz q + 1 := by
 rw [Rat.add_def']
 have h0 : p.den * q.den ≠ 0 := Nat.mul_ne_zero p.den_nz q.den_nz
 obtain ⟨h1, h2⟩ := mk_num_le (p.num * q.den + q.num * p.den) (p.den * q.den) h0
 have h3 : (p.num * q.den + q.num * p.den).natAbs ≤ p.num.natAbs * q.den + q.num.natAbs * p.den := by
  refine Nat.le_trans (Int.natAbs_add_le _ _) ?_
  rw [Int.natAbs_mul, Int.natAbs_mul]
  exact Nat.le_refl _
 have a1 := limbs_len_mul p.num.natAbs q.den
 have a2 := limbs_len_mul q.num.natAbs p.den
 have a3 := limbs_len_mul p.den q.den
 have a4 := limbs_len_sum (Nat.le_trans h1 h3)
 have b2 := limbs_len_mono h2
 have c1 := qsz_num p
 have c2 := qsz_num q
 have c3 := qsz_den p
 have c4 := qsz_den q
 exact qsz_le (by omega) (by omega)
theorem qsz_sub (p q : Rat) : qsz (p - q) ≤ qsz p + qsz q + 1 := by
 rw [Rat.sub_eq_add_neg]
 have := qsz_add p (-q)
 rw [qsz_neg] at this
 exact this
end Go.Proofs.YtaihkpjbnkgmlaaGreat

/- Walks: the sign of a fraction whose denominator is not 0, by the program. -/
namespace Go.Proofs.YtaihkpjbnkgmlaaGreat
open Go.RowKit

set_option maxRecDepth 100000 in
set_option maxHeartbeats 1000000 in
theorem qsign_any (neg : Bool) (l m : List Int) (n : Nat) (a a' : Option Addr) (c c' : Nat) (w : World) (h : NatR w a c l) (h' : NatR w a' c' m) (hn : val l = n) (h0 : val m ≠ 0) (hl : l.length ≤ 2000000) (hm : m.length ≤ 2000000) :
  Calls Tryz.prog 65 #[.agg #[.bool neg, .slice a l.length c, .slice a' m.length c']] w fun e w' => e = .returned (.int .i64 (sgnZ neg n)) ∧ Below w.heap.size w w' := by
 have CP := fun W (hW : Below w.heap.size w W) => parts_any neg l m a a' c c' W (h'.ext (Ext.below hW)) h0 (by omega)
 have CS := fun W (hW : Below w.heap.size w W) => zsign_any neg l n a c W (h.ext (Ext.below hW)) hn (by omega)
 obtain ⟨R, hR⟩ : ∃ q, sgnZ neg n = q := ⟨_, rfl⟩
 rw [hR] at CS ⊢
 replace CP := Lib.hid CP; replace CS := Lib.hid CS
 have hz : Blk (w.alloc (.cells #[.bool neg, .slice a l.length c, .slice a' m.length c'] 43)) w.heap.size 43 #[.bool neg, .slice a l.length c, .slice a' m.length c'] := Blk.new w _ _
 have hb0 : Below w.heap.size w (w.alloc (.cells #[.bool neg, .slice a l.length c, .slice a' m.length c'] 43)) := (Below.refl _ _).alloc (Nat.le_refl _) _
 clear h h' hn h0 hR
 go_enter Tryz.func65, Tryz.ntmps65
 go_wp2_with fail
 revert hz hb0
 generalize w.alloc (.cells #[.bool neg, .slice a l.length c, .slice a' m.length c'] 43) = w0
 intro hz hb0
 have z0 := hz.cell 0; have z1 := hz.cell 1; have z2 := hz.cell 2
 go_wp2_with fail
 refine (CP.out _ hb0).mono ?_
 rintro e w1 ⟨rfl, hb1⟩
 have hw1 := below_then hb0 hb1
 clear z0 z1 z2 hz hb0 hb1
 have hy : Blk (w1.alloc (.cells #[.bool neg, .slice a l.length c] 41)) w1.heap.size 41 #[.bool neg, .slice a l.length c] := Blk.new w1 _ _
 have hw2 := hw1.alloc hw1.size (.cells #[.bool neg, .slice a l.length c] 41)
 go_wp2_with fail
 refine (CS.out _ hw2).mono ?_
 rintro e w2 ⟨rfl, hb2⟩
 go_wp2
 go_ret
 exact ⟨rfl, below_then hw2 hb2⟩
end Go.Proofs.YtaihkpjbnkgmlaaGreat

/- Walks: the program's rational numbers: Mul, Cmp. -/
namespace Go.Proofs.YtaihkpjbnkgmlaaGreat
open Go.RowKit

set_option maxRecDepth 100000 in
set_option maxHeartbeats 2000000 in
theorem qmul_any (s1 s2 : Bool) (P1 D1 P2 D2 : Nat) (a1 b1 a2 b2 : Option Addr) (c1 d1 c2 d2 : Nat) (w : World) (r1 : NatR w a1 c1 (limbs P1)) (r2 : NatR w b1 d1 (limbs D1)) (r3 : NatR w a2 c2 (limbs P2)) (r4 : NatR w b2 d2 (limbs D2))
  (hD1 : D1 ≠ 0) (hD2 : D2 ≠ 0) (l1 : (limbs P1).length ≤ 400000) (l2 : (limbs D1).length ≤ 400000) (l3 : (limbs P2).length ≤ 400000) (l4 : (limbs D2).length ≤ 400000) : Calls Tryz.prog 162 #[.agg #[.bool s1, .slice a1 (limbs P1).length c1, .slice b1 (limbs D1).length d1], .agg #[.bool s2, .slice a2 (limbs P2).length c2, .slice b2 (limbs D2).length d2]] w (RetF (lowest (s1 != s2) (P1 * P2) (D1 * D2)) w) := by
 have m1 := limbs_len_mul P1 P2
 have m2 := limbs_len_mul D1 D2
 have CP1 := fun W (hW : Below w.heap.size w W) => parts_any s1 (limbs P1) (limbs D1) a1 b1 c1 d1 W (r2.ext (Ext.below hW)) (by rw [val_limbs]; exact hD1) (by omega)
 have CP2 := fun W (hW : Below w.heap.size w W) => parts_any s2 (limbs P2) (limbs D2) a2 b2 c2 d2 W (r4.ext (Ext.below hW)) (by rw [val_limbs]; exact hD2) (by omega)
 have CZ := fun W (hW : Below w.heap.size w W) => zmul_any s1 s2 (limbs P1) (limbs P2) P1 P2 a1 a2 c1 c2 W (r1.ext (Ext.below hW)) (r3.ext (Ext.below hW)) (val_limbs _) (val_limbs _) (by omega) (by omega)
 have CN := fun W (hW : Below w.heap.size w W) => nmul_any (limbs D1) (limbs D2) D1 D2 b1 b2 d1 d2 W (r2.ext (Ext.below hW)) (r4.ext (Ext.below hW)) (val_limbs _) (val_limbs _) (by omega) (by omega)
 have CR := fun a b c d W h h' => reduced_any ((s1 != s2) && decide (0 < P1 * P2)) (limbs (P1 * P2)) (limbs (D1 * D2)) (P1 * P2) (D1 * D2) a b c d W h h' (val_limbs _) (val_limbs _) (by omega) (by omega)
 rw [lowest_pos] at CR
 obtain ⟨R, hR⟩ : ∃ q, ((s1 != s2) && decide (0 < P1 * P2)) = q := ⟨_, rfl⟩
 rw [hR] at CZ CR
 obtain ⟨t, ht⟩ : ∃ t, lowest (s1 != s2) (P1 * P2) (D1 * D2) = t := ⟨_, rfl⟩
 rw [ht] at CR ⊢
 obtain ⟨s, N, D⟩ := t
 clear m1 m2 hR ht hD1 hD2
 revert CZ CN CR
 generalize P1 * P2 = PP
 generalize D1 * D2 = DD
 intro CN CZ CR
 unfold RetF at CR ⊢
 dsimp only at CR ⊢
 replace CP1 := Lib.hid CP1; replace CP2 := Lib.hid CP2; replace CZ := Lib.hid CZ; replace CN := Lib.hid CN; replace CR := Lib.hid CR
 clear r1 r2 r3 r4
 go_enter Tryz.func162, Tryz.ntmps162
 go_wp2_with fail
 refine calls_gen (fun W => Blk W w.heap.size 43 #[.bool s1, .slice a1 (limbs P1).length c1, .slice b1 (limbs D1).length d1] ∧ Blk W (w.heap.size + 1) 43 #[.bool s2, .slice a2 (limbs P2).length c2, .slice b2 (limbs D2).length d2] ∧ Blk W (w.heap.size + 1 + 1) 43 #[.bool false, .slice none 0 0, .slice none 0 0] ∧ Below w.heap.size w W ∧ w.heap.size < w.heap.size + 1 ∧ w.heap.size + 1 < w.heap.size + 1 + 1 ∧ w.heap.size + 1 + 1 < W.heap.size) ⟨((Blk.new w _ _).alloc _).alloc _, (blk_at1 w _ _ _).alloc _, blk_at2 w _ _ _ _, by go_grown, by omega, by omega, by simp⟩ ?_
 rintro w0 ⟨hx, hy, hz, hw0, hg1, hg2, hg3⟩
 revert hx hy hz hg1 hg2 hg3
 generalize w.heap.size + 1 + 1 = g3
 generalize w.heap.size + 1 = g2
 intro hx hy hz hg1 hg2 hg3
 refine (CP1.out _ hw0).mono ?_
 rintro e w1 ⟨rfl, hb1⟩
 replace hy := hy.below' hb1
 replace hz := hz.below' hb1
 have hw1 := below_then hw0 hb1
 have hs1 := hb1.size
 clear hx
 have z0 := hy.cell 0; have z1 := hy.cell 1; have z2 := hy.cell 2; have lt2 := hy.lt; have lt3 := hz.lt
 go_wp2_with fail
 refine calls_gen (fun W => Blk W w1.heap.size 41 #[.bool s1, .slice a1 (limbs P1).length c1] ∧ Blk W g3 43 #[.bool false, .slice none 0 0, .slice none 0 0] ∧ Below w.heap.size w W ∧ w1.heap.size < W.heap.size) ⟨by ((repeat first|with_reducible assumption|((with_reducible apply Blk.farAt);focus omega)|with_reducible apply Blk.setb|((with_reducible apply Blk.newAt);focus (simp;done))|with_reducible apply Blk.alloc|with_reducible apply Blk.drew);all_goals (show @Eq (Array Value) _ _;rfl)), by ((repeat first|with_reducible assumption|((with_reducible apply Blk.farAt);focus omega)|with_reducible apply Blk.setb|((with_reducible apply Blk.newAt);focus (simp;done))|with_reducible apply Blk.alloc|with_reducible apply Blk.drew);all_goals (show @Eq (Array Value) _ _;rfl)), by go_grown, by simp⟩ ?_
 clear z0 z1 z2 lt2 lt3 hy hz
 rintro w2 ⟨hu, hz, hw2, hs2⟩
 refine (CP2.out _ hw2).mono ?_
 rintro e w3 ⟨rfl, hb3⟩
 replace hu := hu.below' hb3
 replace hz := hz.below' hb3
 have hw3 := below_then hw2 hb3
 have hs3 := hb3.size
 have z0 := hu.cell 0; have z1 := hu.cell 1
 have hlt3 : w1.heap.size < w3.heap.size := by omega
 go_wp2_with fail
 refine calls_gen (fun W => Blk W g3 43 #[.bool false, .slice none 0 0, .slice none 0 0] ∧ Below w.heap.size w W ∧ w3.heap.size ≤ W.heap.size) ⟨by ((repeat first|with_reducible assumption|((with_reducible apply Blk.farAt);focus omega)|with_reducible apply Blk.setb|((with_reducible apply Blk.newAt);focus (simp;done))|with_reducible apply Blk.alloc|with_reducible apply Blk.drew);all_goals (show @Eq (Array Value) _ _;rfl)), by go_grown, by simp⟩ ?_
 clear z0 z1 hu hz
 rintro w4 ⟨hz, hw4, hs4⟩
 refine (CZ.out _ hw4).mono ?_
 rintro e w5 ⟨a5, c5, rfl, hV, hb5⟩
 replace hz := hz.below' hb5
 have hw5 := below_then hw4 hb5
 have hs5 := hb5.size
 have hr5 := hV w5 (New.refl _ _)
 clear hV
 have HR5 := Lib.hid hr5
 clear hr5
 go_wp2_with fail
 refine (CN.out _ hw5).mono ?_
 rintro e w6 ⟨a6, c6, rfl, hV, hb6⟩
 replace hz := hz.below' hb6
 have hw6 := below_then hw5 hb6
 have hs6 := hb6.size
 have CG := CR.out a5 a6 c5 c6 w6 (HR5.out.ext (Ext.below hb6)) (hV w6 (New.refl _ _))
 replace CG := Lib.hid CG
 clear hV
 go_wp2_with fail
 refine CG.out.mono ?_
 rintro e w7 ⟨a8, c8, b8, d8, rfl, hV1, hV2, hb7⟩
 replace hz := hz.below' hb7
 have hw8 := below_then hw6 hb7
 have hwB := hw6.size
 have HV1 := Lib.hid hV1
 have HV2 := Lib.hid hV2
 clear hV1 hV2
 have z0 := hz.cell 0; have z1 := hz.cell 1; have z2 := hz.cell 2; have f0 := hz.frozen 0; have f1 := hz.frozen 1; have f2 := hz.frozen 2
 go_wp2
 have hF := blk3 (x := .bool s) (y := .slice a8 (limbs N).length c8) (z := .slice b8 (limbs D).length d8) hz
 have e0 := hF.cell 0; have e1 := hF.cell 1; have e2 := hF.cell 2
 refine bodyPost_ret (v := .agg #[.bool s, .slice a8 (limbs N).length c8, .slice b8 (limbs D).length d8]) (by simp [results, Tryz.results162, go_sem, e0, e1, e2]) rfl ?_
 exact ⟨a8, c8, b8, d8, rfl, fun V hV => HV1.out V (back3 hV hwB (by omega)), fun V hV => HV2.out V (back3 hV hwB (by omega)), below3 hw8 (by omega)⟩
set_option maxRecDepth 100000 in
set_option maxHeartbeats 1000000 in
theorem wholeP_any (n : Nat) (a : Option Addr) (c : Nat) (w : World) :
  Calls Tryz.prog 165 #[.slice a n c] w fun e w' => e = .returned (.agg #[.bool false, .slice a n c]) ∧ Below w.heap.size w w' := by
 go_enter Tryz.func165, Tryz.ntmps165
 go_wp2
 have hF := Blk.new w 41 #[.bool false, .slice a n c]
 have e0 := hF.cell 0; have e1 := hF.cell 1
 refine bodyPost_ret (v := .agg #[.bool false, .slice a n c]) (by simp [results, Tryz.results165, go_sem]) rfl ?_
 exact ⟨rfl, (Below.refl _ _).alloc (Nat.le_refl _) _⟩
theorem qv_cmp (s1 s2 : Bool) (P1 D1 P2 D2 : Nat) (hD1 : D1 ≠ 0) (hD2 : D2 ≠ 0) : cmpI (zval s1 (P1 * D2)) (zval s2 (P2 * D1)) = cmpQ (qv s1 P1 D1) (qv s2 P2 D2) := by
 have h1 : ∀ (z1 z2 : Int) (e1 e2 : Nat), e1 ≠ 0 → e2 ≠ 0 → (mkRat z1 e1 < mkRat z2 e2 ↔ z1 * e2 < z2 * e1) := by
  intro z1 z2 e1 e2 n1 n2
  have p1 : (0 : Rat) < ((e1 : Nat) : Rat) := by exact_mod_cast (show 0 < e1 by omega)
  have p2 : (0 : Rat) < ((e2 : Nat) : Rat) := by exact_mod_cast (show 0 < e2 by omega)
  rw [Rat.mkRat_eq_div, Rat.mkRat_eq_div, Rat.div_lt_iff p1]
  have e3 : (z2 : Rat) / ((e2 : Nat) : Rat) * ((e1 : Nat) : Rat) = ((z2 : Rat) * ((e1 : Nat) : Rat)) / ((e2 : Nat) : Rat) := by
   rw [Rat.div_def, Rat.div_def, Rat.mul_assoc, Rat.mul_comm (((e2 : Nat) : Rat)⁻¹), ← Rat.mul_assoc]
  rw [e3, Rat.lt_div_iff p2]
  exact_mod_cast Iff.rfl
 unfold cmpI cmpQ qv
 rw [zval_scale, zval_scale]
 simp only [h1 _ _ _ _ hD1 hD2, h1 _ _ _ _ hD2 hD1]
theorem sgn_qv (s1 s2 : Bool) (P1 D1 P2 D2 : Nat) (hD1 : D1 ≠ 0) (hD2 : D2 ≠ 0) : (sgnZ s1 P1 < sgnZ s2 P2 → cmpQ (qv s1 P1 D1) (qv s2 P2 D2) = -1) ∧ (sgnZ s2 P2 < sgnZ s1 P1 → cmpQ (qv s1 P1 D1) (qv s2 P2 D2) = 1) := by
 rw [← qv_cmp s1 s2 P1 D1 P2 D2 hD1 hD2, zcmp_sgn]
 have e : ∀ (s : Bool) (a b : Nat), b ≠ 0 → sgnZ s (a * b) = sgnZ s a := by
  intro s a b hb
  unfold sgnZ
  by_cases ha : a = 0
  · subst ha; simp
  · rw [if_neg (Nat.mul_ne_zero ha hb), if_neg ha]
 rw [e _ _ _ hD2, e _ _ _ hD1]
 constructor
 · intro h; rw [if_pos h]
 · intro h; rw [if_neg (by omega), if_pos h]
set_option maxRecDepth 100000 in
set_option maxHeartbeats 2000000 in
theorem qcmp_any (s1 s2 : Bool) (P1 D1 P2 D2 : Nat) (a1 b1 a2 b2 : Option Addr) (c1 d1 c2 d2 : Nat) (w : World) (r1 : NatR w a1 c1 (limbs P1)) (r2 : NatR w b1 d1 (limbs D1)) (r3 : NatR w a2 c2 (limbs P2)) (r4 : NatR w b2 d2 (limbs D2))
  (hD1 : D1 ≠ 0) (hD2 : D2 ≠ 0) (l1 : (limbs P1).length ≤ 400000) (l2 : (limbs D1).length ≤ 400000) (l3 : (limbs P2).length ≤ 400000) (l4 : (limbs D2).length ≤ 400000) : Calls Tryz.prog 81 #[.agg #[.bool s1, .slice a1 (limbs P1).length c1, .slice b1 (limbs D1).length d1], .agg #[.bool s2, .slice a2 (limbs P2).length c2, .slice b2 (limbs D2).length d2]] w fun e w' => e = .returned (.int .i64 (cmpQ (qv s1 P1 D1) (qv s2 P2 D2))) ∧ Below w.heap.size w w' := by
 have m1 := limbs_len_mul P1 D2
 have m2 := limbs_len_mul P2 D1
 have CS1 := fun W (hW : Below w.heap.size w W) => qsign_any s1 (limbs P1) (limbs D1) P1 a1 b1 c1 d1 W (r1.ext (Ext.below hW)) (r2.ext (Ext.below hW)) (val_limbs _) (by rw [val_limbs]; exact hD1) (by omega) (by omega)
 have CS2 := fun W (hW : Below w.heap.size w W) => qsign_any s2 (limbs P2) (limbs D2) P2 a2 b2 c2 d2 W (r3.ext (Ext.below hW)) (r4.ext (Ext.below hW)) (val_limbs _) (by rw [val_limbs]; exact hD2) (by omega) (by omega)
 have CP1 := fun W (hW : Below w.heap.size w W) => parts_any s1 (limbs P1) (limbs D1) a1 b1 c1 d1 W (r2.ext (Ext.below hW)) (by rw [val_limbs]; exact hD1) (by omega)
 have CP2 := fun W (hW : Below w.heap.size w W) => parts_any s2 (limbs P2) (limbs D2) a2 b2 c2 d2 W (r4.ext (Ext.below hW)) (by rw [val_limbs]; exact hD2) (by omega)
 have CZ1 := fun W (hW : Below w.heap.size w W) => zmul_any s1 false (limbs P1) (limbs D2) P1 D2 a1 b2 c1 d2 W (r1.ext (Ext.below hW)) (r4.ext (Ext.below hW)) (val_limbs _) (val_limbs _) (by omega) (by omega)
 have CZ2 := fun W (hW : Below w.heap.size w W) => zmul_any s2 false (limbs P2) (limbs D1) P2 D1 a2 b1 c2 d1 W (r3.ext (Ext.below hW)) (r2.ext (Ext.below hW)) (val_limbs _) (val_limbs _) (by omega) (by omega)
 have x1 : (s1 != false) = s1 := by cases s1 <;> rfl
 have x2 : (s2 != false) = s2 := by cases s2 <;> rfl
 simp only [x1] at CZ1
 simp only [x2] at CZ2
 have CC := fun a b c d W h h' => zcmp_any (s1 && decide (0 < P1 * D2)) (s2 && decide (0 < P2 * D1)) (limbs (P1 * D2)) (limbs (P2 * D1)) (P1 * D2) (P2 * D1) a b c d W h h' (val_limbs _) (val_limbs _) (by omega) (by omega)
 simp only [zval_pos, qv_cmp s1 s2 P1 D1 P2 D2 hD1 hD2] at CC
 have hsg := sgn_qv s1 s2 P1 D1 P2 D2 hD1 hD2
 obtain ⟨R, hR⟩ : ∃ q, cmpQ (qv s1 P1 D1) (qv s2 P2 D2) = q := ⟨_, rfl⟩
 rw [hR] at hsg ⊢
 simp only [hR] at CC
 obtain ⟨p1, hp1⟩ : ∃ q, (s1 && decide (0 < P1 * D2)) = q := ⟨_, rfl⟩
 obtain ⟨p2, hp2⟩ : ∃ q, (s2 && decide (0 < P2 * D1)) = q := ⟨_, rfl⟩
 simp only [hp1] at CZ1 CC
 simp only [hp2] at CZ2 CC
 have HSG := Lib.hid hsg
 clear hsg hR hp1 hp2 x1 x2 m1 m2 hD1 hD2
 revert CZ1 CZ2 CC
 generalize P1 * D2 = PP
 generalize P2 * D1 = DD
 intro CZ1 CZ2 CC
 revert CS1 CS2 HSG
 generalize sgnZ s1 P1 = s
 generalize sgnZ s2 P2 = t
 intro CS1 CS2 HSG
 replace CS1 := Lib.hid CS1; replace CS2 := Lib.hid CS2; replace CP1 := Lib.hid CP1; replace CP2 := Lib.hid CP2; replace CZ1 := Lib.hid CZ1; replace CZ2 := Lib.hid CZ2; replace CC := Lib.hid CC
 have W1 := fun W => wholeP_any (limbs D2).length b2 d2 W
 have W2 := fun W => wholeP_any (limbs D1).length b1 d1 W
 replace W1 := Lib.hid W1; replace W2 := Lib.hid W2
 clear r1 r2 r3 r4
 go_enter Tryz.func81, Tryz.ntmps81
 go_wp2
 refine world_gen (fun W => Blk W w.heap.size 43 #[.bool s1, .slice a1 (limbs P1).length c1, .slice b1 (limbs D1).length d1] ∧ Blk W (w.heap.size + 1) 43 #[.bool s2, .slice a2 (limbs P2).length c2, .slice b2 (limbs D2).length d2] ∧ Below w.heap.size w W ∧ w.heap.size < w.heap.size + 1 ∧ w.heap.size + 1 < W.heap.size) ⟨(Blk.new w _ _).alloc _, blk_at1 w _ _ _, by go_grown, by omega, by simp⟩ ?_
 rintro w0 ⟨hx, hy, hw0, hg1, hg2⟩
 revert hx hy hg1 hg2
 generalize w.heap.size + 1 = g2
 intro hx hy hg1 hg2
 have k0 := held (hx.cell 0); have k1 := held (hx.cell 1); have k2 := held (hx.cell 2); have k3 := held (hy.cell 0); have k4 := held (hy.cell 1); have k5 := held (hy.cell 2)
 have s0 : Below w0.heap.size w0 w0.drew := (Below.refl _ _).drew
 refine wp_region_mix (S := Below w0.heap.size w0) [(0, .q), (2, .q), (1, .l), (3, .t), (4, .p), (5, .p)] (by kernel_rfl) (by kernel_rfl) (by kernel_rfl) (fun d _ _ _ _ h => by cases d <;> exact h) (s0) ?_
 iterate 2 (refine wpMix_q rfl rfl (fun K hK => ?_); apply Exists.intro; refine ⟨fun w' hw' => ?_, ?_⟩; (focus (go_simp; try rfl)); go_simp; refine hK _ _ ?_; clear hK K)
 refine wpMix_l rfl rfl (fun K hK => ?_)
 go_simp
 refine (CS1.out _ (below_then hw0 s0)).mono ?_
 rintro r w1 ⟨rfl, hb1⟩
 dsimp only
 refine hK.out _ _ (below_then s0 hb1) (fun _ => ?_)
 clear hK K
 have t1 := below_then s0 hb1
 refine wpMix_t rfl rfl (fun K hK => ?_)
 go_simp
 refine (CS2.out _ (below_then hw0 t1)).mono ?_
 rintro r w2 ⟨rfl, hb2⟩
 dsimp only
 refine hK.out _ _ ?_
 clear hK K
 have t2 := below_then t1 hb2
 iterate 2 (refine wpMix_p rfl rfl (fun K hK => ?_); apply Exists.intro; refine ⟨fun w' => ?_, ?_⟩; (focus (go_simp; try rfl)); go_simp; refine hK _ _ ?_; clear hK K)
 refine wpMix_nil ?_
 replace hx := hx.below' t2
 replace hy := hy.below' t2
 have hw2 := below_then hw0 t2
 have hs2 := t2.size
 clear k0 k1 k2 k3 k4 k5 s0 t1 t2 hb1 hb2 CS1 CS2
 by_cases h1 : s < t
 ·
  obtain rfl : R = -1 := HSG.out.1 h1
  have hne : (s != t) = true := by simp; omega
  go_wp2
  go_ret
  exact ⟨rfl, hw2⟩
 ·
  by_cases h2 : t < s
  ·
   obtain rfl : R = 1 := HSG.out.2 h2
   have hne : (s != t) = true := by simp; omega
   go_wp2
   go_ret
   exact ⟨rfl, hw2⟩
  ·
   have hne : (s != t) = false := by simp; omega
   clear HSG
   have z0 := hx.cell 0; have z1 := hx.cell 1; have z2 := hx.cell 2
   go_wp2_with fail
   refine (CP1.out _ hw2).mono ?_
   rintro e w3 ⟨rfl, hb3⟩
   replace hy := hy.below' hb3
   have hw3 := below_then hw2 hb3
   have hs3 := hb3.size
   clear z0 z1 z2 hx hne h1 h2
   have z0 := hy.cell 0; have z1 := hy.cell 1; have z2 := hy.cell 2; have lt2 := hy.lt
   go_wp2_with fail
   refine calls_gen (fun W => Blk W w3.heap.size 41 #[.bool s1, .slice a1 (limbs P1).length c1] ∧ Below w.heap.size w W ∧ w3.heap.size < W.heap.size) ⟨by ((repeat first|with_reducible assumption|((with_reducible apply Blk.farAt);focus omega)|with_reducible apply Blk.setb|((with_reducible apply Blk.newAt);focus (simp;done))|with_reducible apply Blk.alloc|with_reducible apply Blk.drew);all_goals (show @Eq (Array Value) _ _;rfl)), by go_grown, by simp⟩ ?_
   clear z0 z1 z2 lt2 hy
   rintro w4 ⟨hu, hw4, hs4⟩
   refine (CP2.out _ hw4).mono ?_
   rintro e w5 ⟨rfl, hb5⟩
   replace hu := hu.below' hb5
   have hw5 := below_then hw4 hb5
   have hs5 := hb5.size
   have hlt5 : w3.heap.size < w5.heap.size := by omega
   go_wp2
   refine world_gen (fun W => Blk W w3.heap.size 41 #[.bool s1, .slice a1 (limbs P1).length c1] ∧ Blk W w5.heap.size 41 #[.bool s2, .slice a2 (limbs P2).length c2] ∧ Below w.heap.size w W) ⟨by ((repeat first|with_reducible assumption|((with_reducible apply Blk.farAt);focus omega)|with_reducible apply Blk.setb|((with_reducible apply Blk.newAt);focus (simp;done))|with_reducible apply Blk.alloc|with_reducible apply Blk.drew);all_goals (show @Eq (Array Value) _ _;rfl)), by ((repeat first|with_reducible assumption|((with_reducible apply Blk.farAt);focus omega)|with_reducible apply Blk.setb|((with_reducible apply Blk.newAt);focus (simp;done))|with_reducible apply Blk.alloc|with_reducible apply Blk.drew);all_goals (show @Eq (Array Value) _ _;rfl)), by go_grown⟩ ?_
   clear hu
   rintro w6 ⟨hu, hv, hw6⟩
   have k0 := held (hu.cell 0); have k1 := held (hu.cell 1); have k2 := held (hv.cell 0); have k3 := held (hv.cell 1)
   have s0 : Below w6.heap.size w6 w6.drew := (Below.refl _ _).drew
   refine wp_region_mix (S := Below w6.heap.size w6) [(0, .q), (1, .q), (4, .q), (5, .q), (2, .l), (3, .l), (6, .l), (7, .t), (8, .t), (9, .p)] (by kernel_rfl) (by kernel_rfl) (by kernel_rfl) (fun d _ _ _ _ h => by cases d <;> exact h) (s0) ?_
   iterate 4 (refine wpMix_q rfl rfl (fun K hK => ?_); apply Exists.intro; refine ⟨fun w' hw' => ?_, ?_⟩; (focus (go_simp; try rfl)); go_simp; refine hK _ _ ?_; clear hK K)
   refine wpMix_l rfl rfl (fun K hK => ?_)
   go_simp
   refine (W1.out _).mono ?_
   rintro r w7 ⟨rfl, hb7⟩
   dsimp only
   refine hK.out _ _ (below_then s0 hb7) (fun _ => ?_)
   clear hK K
   have t3 := below_then s0 hb7
   refine wpMix_l rfl rfl (fun K hK => ?_)
   go_simp
   refine (CZ1.out _ (below_then hw6 t3)).mono ?_
   rintro r w8 ⟨a8, c8, rfl, hV8, hb8⟩
   dsimp only
   refine hK.out _ _ (below_then t3 hb8) (fun _ => ?_)
   clear hK K
   have t4 := below_then t3 hb8
   have HV8 := Lib.hid hV8
   clear hV8
   refine wpMix_l rfl rfl (fun K hK => ?_)
   go_simp
   refine (W2.out _).mono ?_
   rintro r w9 ⟨rfl, hb9⟩
   dsimp only
   refine hK.out _ _ (below_then t4 hb9) (fun _ => ?_)
   clear hK K
   have t5 := below_then t4 hb9
   refine wpMix_t rfl rfl (fun K hK => ?_)
   go_simp
   refine (CZ2.out _ (below_then hw6 t5)).mono ?_
   rintro r w10 ⟨a9, c9, rfl, hV9, hb10⟩
   dsimp only
   refine hK.out _ _ ?_
   clear hK K
   have t6 := below_then t5 hb10
   have CD := CC.out a8 a9 c8 c9 w10 (HV8.out w10 (((New.refl _ _).below hb10).below hb9)) (hV9 w10 (New.refl _ _))
   replace CD := Lib.hid CD
   clear hV9
   refine wpMix_t rfl rfl (fun K hK => ?_)
   go_simp
   refine (CD.out).mono ?_
   rintro r w11 ⟨rfl, hb11⟩
   dsimp only
   refine hK.out _ _ ?_
   clear hK K
   have t7 := below_then t6 hb11
   iterate 1 (refine wpMix_p rfl rfl (fun K hK => ?_); apply Exists.intro; refine ⟨fun w' => ?_, ?_⟩; (focus (go_simp; try rfl)); go_simp; refine hK _ _ ?_; clear hK K)
   refine wpMix_nil ?_
   go_wp2
   go_ret
   exact ⟨rfl, below_then hw6 t7⟩
end Go.Proofs.YtaihkpjbnkgmlaaGreat

/- Walks: the program's rational numbers: the sum of two integers. -/
namespace Go.Proofs.YtaihkpjbnkgmlaaGreat
open Go.RowKit

set_option maxRecDepth 100000 in
set_option maxHeartbeats 2000000 in
theorem sum2_any (s1 s2 : Bool) (n1 n2 : Nat) (a1 a2 : Option Addr) (c1 c2 g cp : Nat) (w : World) (r1 : NatR w a1 c1 (limbs n1)) (r2 : NatR w a2 c2 (limbs n2)) (l1 : (limbs n1).length ≤ 2000000) (l2 : (limbs n2).length ≤ 2000000)
  (k0 : w.cell? ⟨g, 0, none⟩ = some (.bool s1)) (k1 : w.cell? ⟨g, 1, none⟩ = some (.slice a1 (limbs n1).length c1)) (k2 : w.cell? ⟨g, 2, none⟩ = some (.bool s2)) (k3 : w.cell? ⟨g, 3, none⟩ = some (.slice a2 (limbs n2).length c2)) :
  Calls Tryz.prog 306 #[.slice (some ⟨g, 0, none⟩) 2 cp] w (RetI (zval s1 n1 + zval s2 n2) w) := by
 have hg := World.block_lt_of_cell? w _ k0
 simp only at hg
 have C1 := fun a c W (hW : Below w.heap.size w W) (h : NatR W a c (limbs 0)) => zadd_any false s1 (limbs 0) (limbs n1) 0 n1 a a1 c c1 W h (r1.ext (Ext.below hW)) (val_limbs _) (val_limbs _) (by rw [limbs_zero]; decide) (by omega)
 have e0 : zval false 0 + zval s1 n1 = zval s1 n1 := by simp [zval]
 simp only [e0, limbs_zero] at C1
 have C2 := fun a c W (hW : Below w.heap.size w W) h => zadd_any (decide (zval s1 n1 < 0)) s2 (limbs (zval s1 n1).natAbs) (limbs n2) (zval s1 n1).natAbs n2 a a2 c c2 W h (r2.ext (Ext.below hW)) (val_limbs _) (val_limbs _) (by rw [zval_abs]; omega) (by omega)
 simp only [zval_self] at C2
 revert C1 C2
 generalize zval s1 n1 = zz
 obtain ⟨z, hz⟩ : ∃ z, zz + zval s2 n2 = z := ⟨_, rfl⟩
 rw [hz]
 intro C1 C2
 unfold RetI RetZ at C1 C2 ⊢
 replace C1 := Lib.hid C1; replace C2 := Lib.hid C2
 have K0 := Lib.hid (fun W (hW : Below w.heap.size w W) => held k0 W hW); have K1 := Lib.hid (fun W (hW : Below w.heap.size w W) => held k1 W hW); have K2 := Lib.hid (fun W (hW : Below w.heap.size w W) => held k2 W hW); have K3 := Lib.hid (fun W (hW : Below w.heap.size w W) => held k3 W hW)
 clear r1 r2 l1 l2 k0 k1 k2 k3 hz e0
 go_enter Tryz.func306, Tryz.ntmps306
 go_wp2
 refine world_gen (fun W => Blk W w.heap.size 41 #[.bool false, .slice none 0 0] ∧ Blk W (w.heap.size + 1) 41 #[.bool false, .slice none 0 0] ∧ Below w.heap.size w W ∧ w.heap.size < w.heap.size + 1 ∧ w.heap.size + 1 < W.heap.size) ⟨(Blk.new w _ _).alloc _, blk_at1 w _ _ _, by go_grown, by omega, by simp⟩ ?_
 rintro w0 ⟨hx, hy, hw0, hg1, hg2⟩
 revert hx hy hg1 hg2
 generalize w.heap.size + 1 = g2
 intro hx hy hg1 hg2
 refine wp_loop_rounds 3 ?_
 rw [rounds_succ]
 have z0 := K0.out _ hw0; have z1 := K1.out _ hw0; have y0 := hy.cell 0; have y1 := hy.cell 1; have ltg : g < w0.heap.size := by omega
 have lt2 := hy.lt
 go_wp2_with fail
 refine calls_gen (fun W => Blk W w.heap.size 41 #[.bool false, .slice none 0 0] ∧ Blk W g2 41 #[.bool false, .slice none 0 0] ∧ Below w.heap.size w W ∧ w0.heap.size < W.heap.size) ⟨by ((repeat first|with_reducible assumption|((with_reducible apply Blk.farAt);focus omega)|with_reducible apply Blk.setb|((with_reducible apply Blk.newAt);focus (simp;done))|with_reducible apply Blk.alloc|with_reducible apply Blk.drew);all_goals (show @Eq (Array Value) _ _;rfl)), by ((repeat first|with_reducible assumption|((with_reducible apply Blk.farAt);focus omega)|with_reducible apply Blk.setb|((with_reducible apply Blk.newAt);focus (simp;done))|with_reducible apply Blk.alloc|with_reducible apply Blk.drew);all_goals (show @Eq (Array Value) _ _;rfl)), by go_grown, by simp⟩ ?_
 clear z0 z1 y0 y1 ltg lt2 hx hy
 rintro w1 ⟨hx, hy, hw1, hs1⟩
 refine (C1.out none 0 _ hw1 SlR.nil).mono ?_
 rintro e w2 ⟨a5, c5, rfl, hV, hb2⟩
 replace hx := hx.below' hb2
 replace hy := hy.below' hb2
 have hw2 := below_then hw1 hb2
 have hs2 := hb2.size
 have H5 : Kp (fun V => NatR V a5 c5 (limbs zz.natAbs)) w1.heap.size w2.heap.size w2 := Kp.made hV
 replace H5 := Lib.hid H5
 clear hV
 obtain ⟨b1, hb1⟩ : ∃ b, decide (zz < 0) = b := ⟨_, rfl⟩
 rw [hb1]
 have C3 := C2.out
 rw [hb1] at C3
 replace C3 := Lib.hid C3
 clear C2 hb1
 have f0 := hy.frozen 0; have f1 := hy.frozen 1; have y0 := hy.cell 0; have y1 := hy.cell 1
 go_wp2
 rw [rounds_succ]
 refine world_gen (fun W => Blk W w.heap.size 41 #[.bool false, .slice none 0 0] ∧ Blk W g2 41 #[.bool b1, .slice a5 (limbs zz.natAbs).length c5] ∧ Below w.heap.size w W ∧ w2.heap.size ≤ W.heap.size ∧ Kp (fun V => NatR V a5 c5 (limbs zz.natAbs)) w1.heap.size w2.heap.size W) ⟨by ((repeat first|with_reducible assumption|((with_reducible apply Blk.farAt);focus omega)|with_reducible apply Blk.setb|((with_reducible apply Blk.newAt);focus (simp;done))|with_reducible apply Blk.alloc|with_reducible apply Blk.drew);all_goals (show @Eq (Array Value) _ _;rfl)), by ((repeat first|with_reducible assumption|((with_reducible apply Blk.farAt);focus omega)|with_reducible apply Blk.setb|((with_reducible apply Blk.newAt);focus (simp;done))|with_reducible apply Blk.alloc|with_reducible apply Blk.drew);all_goals (show @Eq (Array Value) _ _;rfl)), by go_grown, by simp, by (repeat (first | (with_reducible exact H5.out) | ((with_reducible refine Kp.setc ?_ ?_); (focus omega)) | (with_reducible refine Kp.alloc ?_) | (with_reducible refine Kp.drew ?_)))⟩ ?_
 clear f0 f1 y0 y1 hx hy H5
 rintro w3 ⟨hx, hy, hw3, hs3, H5⟩
 replace H5 := Lib.hid H5
 have z0 := K2.out _ hw3; have z1 := K3.out _ hw3; have y0 := hy.cell 0; have y1 := hy.cell 1; have ltg : g < w3.heap.size := by omega
 have lt2 := hy.lt
 go_wp2_with fail
 refine calls_gen (fun W => Blk W w.heap.size 41 #[.bool false, .slice none 0 0] ∧ Blk W g2 41 #[.bool b1, .slice a5 (limbs zz.natAbs).length c5] ∧ Below w.heap.size w W ∧ w3.heap.size < W.heap.size ∧ Kp (fun V => NatR V a5 c5 (limbs zz.natAbs)) w1.heap.size w2.heap.size W) ⟨by ((repeat first|with_reducible assumption|((with_reducible apply Blk.farAt);focus omega)|with_reducible apply Blk.setb|((with_reducible apply Blk.newAt);focus (simp;done))|with_reducible apply Blk.alloc|with_reducible apply Blk.drew);all_goals (show @Eq (Array Value) _ _;rfl)), by ((repeat first|with_reducible assumption|((with_reducible apply Blk.farAt);focus omega)|with_reducible apply Blk.setb|((with_reducible apply Blk.newAt);focus (simp;done))|with_reducible apply Blk.alloc|with_reducible apply Blk.drew);all_goals (show @Eq (Array Value) _ _;rfl)), by go_grown, by simp, by (repeat (first | (with_reducible exact H5.out) | ((with_reducible refine Kp.setc ?_ ?_); (focus omega)) | (with_reducible refine Kp.alloc ?_) | (with_reducible refine Kp.drew ?_)))⟩ ?_
 clear z0 z1 y0 y1 ltg lt2 hx hy H5
 rintro w4 ⟨hx, hy, hw4, hs4, H5⟩
 refine (C3.out a5 c5 _ hw4 H5.now).mono ?_
 rintro e w5 ⟨a6, c6, rfl, hV, hb5⟩
 replace hx := hx.below' hb5
 replace hy := hy.below' hb5
 have hw5 := below_then hw4 hb5
 have hs5 := hb5.size
 have H6 : Kp (fun V => NatR V a6 c6 (limbs z.natAbs)) w4.heap.size w5.heap.size w5 := Kp.made hV
 replace H6 := Lib.hid H6
 obtain ⟨b2, hb2⟩ : ∃ b, decide (z < 0) = b := ⟨_, rfl⟩
 rw [hb2]
 have HB2 := Lib.hid hb2
 clear hV H5 hb2 C1 C3 K0 K1 K2 K3
 have f0 := hy.frozen 0; have f1 := hy.frozen 1; have y0 := hy.cell 0; have y1 := hy.cell 1
 go_wp2
 rw [rounds_succ]
 refine world_gen (fun W => Blk W w.heap.size 41 #[.bool false, .slice none 0 0] ∧ Blk W g2 41 #[.bool b2, .slice a6 (limbs z.natAbs).length c6] ∧ Below w.heap.size w W ∧ w5.heap.size ≤ W.heap.size ∧ Kp (fun V => NatR V a6 c6 (limbs z.natAbs)) w4.heap.size w5.heap.size W) ⟨by ((repeat first|with_reducible assumption|((with_reducible apply Blk.farAt);focus omega)|with_reducible apply Blk.setb|((with_reducible apply Blk.newAt);focus (simp;done))|with_reducible apply Blk.alloc|with_reducible apply Blk.drew);all_goals (show @Eq (Array Value) _ _;rfl)), by ((repeat first|with_reducible assumption|((with_reducible apply Blk.farAt);focus omega)|with_reducible apply Blk.setb|((with_reducible apply Blk.newAt);focus (simp;done))|with_reducible apply Blk.alloc|with_reducible apply Blk.drew);all_goals (show @Eq (Array Value) _ _;rfl)), by go_grown, by simp, by (repeat (first | (with_reducible exact H6.out) | ((with_reducible refine Kp.setc ?_ ?_); (focus omega)) | (with_reducible refine Kp.alloc ?_) | (with_reducible refine Kp.drew ?_)))⟩ ?_
 clear f0 f1 y0 y1 hx hy H6
 rintro w6 ⟨hx, hy, hw6, hs6, H6⟩
 replace H6 := Lib.hid H6
 have x0 := hx.cell 0; have x1 := hx.cell 1; have f0 := hx.frozen 0; have f1 := hx.frozen 1; have y0 := hy.cell 0; have y1 := hy.cell 1
 go_wp2
 refine world_gen (fun W => Blk W w.heap.size 41 #[.bool b2, .slice a6 (limbs z.natAbs).length c6] ∧ Below w.heap.size w W ∧ Kp (fun V => NatR V a6 c6 (limbs z.natAbs)) w4.heap.size w5.heap.size W) ⟨by ((repeat first|with_reducible assumption|((with_reducible apply Blk.farAt);focus omega)|with_reducible apply Blk.setb|((with_reducible apply Blk.newAt);focus (simp;done))|with_reducible apply Blk.alloc|with_reducible apply Blk.drew);all_goals (show @Eq (Array Value) _ _;rfl)), by go_grown, by (repeat (first | (with_reducible exact H6.out) | ((with_reducible refine Kp.setc ?_ ?_); (focus omega)) | (with_reducible refine Kp.alloc ?_) | (with_reducible refine Kp.drew ?_)))⟩ ?_
 rintro w7 ⟨hF, hw7, H7⟩
 have e0 := hF.cell 0; have e1 := hF.cell 1
 refine bodyPost_ret (v := .agg #[.bool b2, .slice a6 (limbs z.natAbs).length c6]) (by simp [results, Tryz.results306, go_sem, e0, e1]) rfl ?_
 exact ⟨a6, c6, by rw [HB2.out], H7.fin hw4.size, hw7⟩
end Go.Proofs.YtaihkpjbnkgmlaaGreat
