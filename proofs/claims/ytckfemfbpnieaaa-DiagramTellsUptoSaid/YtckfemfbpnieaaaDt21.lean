/- Walks: the greatest and the least of two numbers, by the reference. -/
import Derived.Test.YtckfemfbpnieaaaDt20
import Derived.Test.YtckfemfbpnieaaaDt18
import Derived.Test.YtckfemfbpnieaaaDt17
import Derived.LoopN

/- Rational numbers in their valid form, as handles: the contracts of both sides. -/
namespace Go.Proofs.Ytckfemfbpnieaaa
open Go.RowKit

/-- x is the valid form of q, of at most k limbs above and below the line -/
def QK (k : Nat) (w : World) (x : QA) (q : Rat) : Prop := QAc w x q ∧ qsz q ≤ k
theorem QK.ext {k : Nat} {w w' : World} {x : QA} {q : Rat} (h : QK k w x q) (e : Ext w w') : QK k w' x q := ⟨h.1.ext e, h.2⟩
theorem QK.more {k k' : Nat} {w : World} {x : QA} {q : Rat} (h : QK k w x q) (e : k ≤ k') : QK k' w x q := ⟨h.1, Nat.le_trans h.2 e⟩
theorem QK.arg {k : Nat} {w : World} {x : QA} {q : Rat} (h : QK k w x q) : Kp (fun V => QK k V x q) 0 w.heap.size w := Kp.arg fun _ e => h.ext e
/-- what a call gives that makes the rational number q -/
def RetQK (k : Nat) (q : Rat) (w : World) (e : Ending) (w' : World) : Prop := ∃ x : QA, e = .returned (.agg #[.bool x.neg, .slice x.a x.n x.c, .slice x.b x.m x.d]) ∧ Kp (fun V => QK k V x q) w.heap.size w'.heap.size w' ∧ Below w.heap.size w w'
theorem retF_q {k : Nat} {q : Rat} {w : World} {e : Ending} {w' : World} (hk : qsz q ≤ k) (h : RetF (trip q) w e w') : RetQK k q w e w' := by
  obtain ⟨na, nc, da, dc, rfl, h1, h2, hb⟩ := h
  exact ⟨⟨decide (q.num < 0), (limbs q.num.natAbs).length, na, nc, (limbs q.den).length, da, dc⟩, rfl, Kp.made fun V hV => ⟨⟨rfl, rfl, rfl, h1 V hV, h2 V hV⟩, hk⟩, hb⟩
theorem cmp_q (x y : QA) (p q : Rat) (k1 k2 : Nat) (w : World) (H1 : QK k1 w x p) (H2 : QK k2 w y q) (h1 : k1 ≤ 100000) (h2 : k2 ≤ 100000) : Calls Try.prog 27 #[.agg #[.bool x.neg, .slice x.a x.n x.c, .slice x.b x.m x.d], .agg #[.bool y.neg, .slice y.a y.n y.c, .slice y.b y.m y.d]] w fun e w' => e = .returned (.int .i64 (cmpQ p q)) ∧ Below w.heap.size w w' := by
  obtain ⟨s1, n1, a1, c1, m1, b1, d1⟩ := x
  obtain ⟨s2, n2, a2, c2, m2, b2, d2⟩ := y
  obtain ⟨⟨e1, e2, e3, r1, r2⟩, z1⟩ := H1
  obtain ⟨⟨e4, e5, e6, r3, r4⟩, z2⟩ := H2
  dsimp only at e1 e2 e3 e4 e5 e6 r1 r2 r3 r4 ⊢
  subst e1 e2 e3 e4 e5 e6
  have l1 := qsz_num p
  have l2 := qsz_den p
  have l3 := qsz_num q
  have l4 := qsz_den q
  have := qcmp_any (decide (p.num < 0)) (decide (q.num < 0)) p.num.natAbs p.den q.num.natAbs q.den a1 b1 a2 b2 c1 d1 c2 d2 w r1 r2 r3 r4 p.den_nz q.den_nz (by omega) (by omega) (by omega) (by omega)
  rwa [qv_parts, qv_parts] at this
theorem cmpR_q (x y : QA) (p q : Rat) (k1 k2 : Nat) (w : World) (H1 : QK k1 w x p) (H2 : QK k2 w y q) (h1 : k1 ≤ 100000) (h2 : k2 ≤ 100000) : Calls Try.prog 23 #[.agg #[.bool x.neg, .slice x.a x.n x.c, .slice x.b x.m x.d], .agg #[.bool y.neg, .slice y.a y.n y.c, .slice y.b y.m y.d]] w fun e w' => e = .returned (.int .i64 (cmpQ p q)) ∧ Below w.heap.size w w' := by
  obtain ⟨s1, n1, a1, c1, m1, b1, d1⟩ := x
  obtain ⟨s2, n2, a2, c2, m2, b2, d2⟩ := y
  obtain ⟨⟨e1, e2, e3, r1, r2⟩, z1⟩ := H1
  obtain ⟨⟨e4, e5, e6, r3, r4⟩, z2⟩ := H2
  dsimp only at e1 e2 e3 e4 e5 e6 r1 r2 r3 r4 ⊢
  subst e1 e2 e3 e4 e5 e6
  have l1 := qsz_num p
  have l2 := qsz_den p
  have l3 := qsz_num q
  have l4 := qsz_den q
  have := qcmpR_any (decide (p.num < 0)) (decide (q.num < 0)) (limbs p.num.natAbs) (limbs p.den) (limbs q.num.natAbs) (limbs q.den) p.num.natAbs p.den q.num.natAbs q.den a1 b1 a2 b2 c1 d1 c2 d2 w r1 r2 r3 r4 (val_limbs _) (val_limbs _) (val_limbs _) (val_limbs _) (by omega) (by omega) (by omega) (by omega)
  rwa [crossed_lowest, qv_parts, qv_parts] at this
theorem add_q (x y : QA) (p q : Rat) (k1 k2 : Nat) (w : World) (H1 : QK k1 w x p) (H2 : QK k2 w y q) (h1 : k1 ≤ 100000) (h2 : k2 ≤ 100000) : Calls Try.prog 67 #[.agg #[.bool x.neg, .slice x.a x.n x.c, .slice x.b x.m x.d], .agg #[.bool y.neg, .slice y.a y.n y.c, .slice y.b y.m y.d]] w (RetQK (k1 + k2 + 1) (p + q) w) := by
  have hs := qsz_add p q
  have g1 := H1.2
  have g2 := H2.2
  obtain ⟨s1, n1, a1, c1, m1, b1, d1⟩ := x
  obtain ⟨s2, n2, a2, c2, m2, b2, d2⟩ := y
  obtain ⟨⟨e1, e2, e3, r1, r2⟩, z1⟩ := H1
  obtain ⟨⟨e4, e5, e6, r3, r4⟩, z2⟩ := H2
  dsimp only at e1 e2 e3 e4 e5 e6 r1 r2 r3 r4 ⊢
  subst e1 e2 e3 e4 e5 e6
  have l1 := qsz_num p
  have l2 := qsz_den p
  have l3 := qsz_num q
  have l4 := qsz_den q
  have := qadd_any (decide (p.num < 0)) (decide (q.num < 0)) p.num.natAbs p.den q.num.natAbs q.den a1 b1 a2 b2 c1 d1 c2 d2 w r1 r2 r3 r4 p.den_nz q.den_nz (by omega) (by omega) (by omega) (by omega)
  rw [qv_parts, qv_parts] at this
  exact this.mono fun _ _ h => retF_q (by omega) h
theorem sub_q (x y : QA) (p q : Rat) (k1 k2 : Nat) (w : World) (H1 : QK k1 w x p) (H2 : QK k2 w y q) (h1 : k1 ≤ 100000) (h2 : k2 ≤ 100000) : Calls Try.prog 39 #[.agg #[.bool x.neg, .slice x.a x.n x.c, .slice x.b x.m x.d], .agg #[.bool y.neg, .slice y.a y.n y.c, .slice y.b y.m y.d]] w (RetQK (k1 + k2 + 1) (p - q) w) := by
  have hs := qsz_sub p q
  have g1 := H1.2
  have g2 := H2.2
  obtain ⟨s1, n1, a1, c1, m1, b1, d1⟩ := x
  obtain ⟨s2, n2, a2, c2, m2, b2, d2⟩ := y
  obtain ⟨⟨e1, e2, e3, r1, r2⟩, z1⟩ := H1
  obtain ⟨⟨e4, e5, e6, r3, r4⟩, z2⟩ := H2
  dsimp only at e1 e2 e3 e4 e5 e6 r1 r2 r3 r4 ⊢
  subst e1 e2 e3 e4 e5 e6
  have l1 := qsz_num p
  have l2 := qsz_den p
  have l3 := qsz_num q
  have l4 := qsz_den q
  have := qsub_any (decide (p.num < 0)) (decide (q.num < 0)) p.num.natAbs p.den q.num.natAbs q.den a1 b1 a2 b2 c1 d1 c2 d2 w r1 r2 r3 r4 p.den_nz q.den_nz (by omega) (by omega) (by omega) (by omega)
  rw [qv_parts, qv_parts] at this
  exact this.mono fun _ _ h => retF_q (by omega) h
theorem subR_q (x y : QA) (p q : Rat) (k1 k2 : Nat) (w : World) (H1 : QK k1 w x p) (H2 : QK k2 w y q) (h1 : k1 ≤ 100000) (h2 : k2 ≤ 100000) : Calls Try.prog 24 #[.agg #[.bool x.neg, .slice x.a x.n x.c, .slice x.b x.m x.d], .agg #[.bool y.neg, .slice y.a y.n y.c, .slice y.b y.m y.d]] w (RetQK (k1 + k2 + 1) (p - q) w) := by
  have hs := qsz_sub p q
  have g1 := H1.2
  have g2 := H2.2
  obtain ⟨s1, n1, a1, c1, m1, b1, d1⟩ := x
  obtain ⟨s2, n2, a2, c2, m2, b2, d2⟩ := y
  obtain ⟨⟨e1, e2, e3, r1, r2⟩, z1⟩ := H1
  obtain ⟨⟨e4, e5, e6, r3, r4⟩, z2⟩ := H2
  dsimp only at e1 e2 e3 e4 e5 e6 r1 r2 r3 r4 ⊢
  subst e1 e2 e3 e4 e5 e6
  have l1 := qsz_num p
  have l2 := qsz_den p
  have l3 := qsz_num q
  have l4 := qsz_den q
  have := qsubR_any (decide (p.num < 0)) (decide (q.num < 0)) p.num.natAbs p.den q.num.natAbs q.den a1 b1 a2 b2 c1 d1 c2 d2 w r1 r2 r3 r4 p.den_nz q.den_nz (by omega) (by omega) (by omega) (by omega)
  rw [qv_parts, qv_parts] at this
  exact this.mono fun _ _ h => retF_q (by omega) h
theorem addR_q (x y : QA) (p q : Rat) (k1 k2 : Nat) (w : World) (H1 : QK k1 w x p) (H2 : QK k2 w y q) (h1 : k1 ≤ 100000) (h2 : k2 ≤ 100000) : Calls Try.prog 47 #[.agg #[.bool x.neg, .slice x.a x.n x.c, .slice x.b x.m x.d], .agg #[.bool y.neg, .slice y.a y.n y.c, .slice y.b y.m y.d]] w (RetQK (k1 + k2 + 1) (p + q) w) := by
  have hs := qsz_add p q
  have g1 := H1.2
  have g2 := H2.2
  obtain ⟨s1, n1, a1, c1, m1, b1, d1⟩ := x
  obtain ⟨s2, n2, a2, c2, m2, b2, d2⟩ := y
  obtain ⟨⟨e1, e2, e3, r1, r2⟩, z1⟩ := H1
  obtain ⟨⟨e4, e5, e6, r3, r4⟩, z2⟩ := H2
  dsimp only at e1 e2 e3 e4 e5 e6 r1 r2 r3 r4 ⊢
  subst e1 e2 e3 e4 e5 e6
  have l1 := qsz_num p
  have l2 := qsz_den p
  have l3 := qsz_num q
  have l4 := qsz_den q
  have := qaddR_any (decide (p.num < 0)) (decide (q.num < 0)) p.num.natAbs p.den q.num.natAbs q.den a1 b1 a2 b2 c1 d1 c2 d2 w r1 r2 r3 r4 p.den_nz q.den_nz (by omega) (by omega) (by omega) (by omega)
  rw [qv_parts, qv_parts] at this
  exact this.mono fun _ _ h => retF_q (by omega) h
theorem mul_q (x y : QA) (p q : Rat) (k1 k2 : Nat) (w : World) (H1 : QK k1 w x p) (H2 : QK k2 w y q) (h1 : k1 ≤ 100000) (h2 : k2 ≤ 100000) : Calls Try.prog 19 #[.agg #[.bool x.neg, .slice x.a x.n x.c, .slice x.b x.m x.d], .agg #[.bool y.neg, .slice y.a y.n y.c, .slice y.b y.m y.d]] w (RetQK (k1 + k2) (p * q) w) := by
  have hs := qsz_mul p q
  have g1 := H1.2
  have g2 := H2.2
  obtain ⟨s1, n1, a1, c1, m1, b1, d1⟩ := x
  obtain ⟨s2, n2, a2, c2, m2, b2, d2⟩ := y
  obtain ⟨⟨e1, e2, e3, r1, r2⟩, z1⟩ := H1
  obtain ⟨⟨e4, e5, e6, r3, r4⟩, z2⟩ := H2
  dsimp only at e1 e2 e3 e4 e5 e6 r1 r2 r3 r4 ⊢
  subst e1 e2 e3 e4 e5 e6
  have l1 := qsz_num p
  have l2 := qsz_den p
  have l3 := qsz_num q
  have l4 := qsz_den q
  have := qmul_any (decide (p.num < 0)) (decide (q.num < 0)) p.num.natAbs p.den q.num.natAbs q.den a1 b1 a2 b2 c1 d1 c2 d2 w r1 r2 r3 r4 p.den_nz q.den_nz (by omega) (by omega) (by omega) (by omega)
  rw [lowest_qv, qv_mul, qv_parts, qv_parts] at this
  exact this.mono fun _ _ h => retF_q (by omega) h
theorem mulR_q (x y : QA) (p q : Rat) (k1 k2 : Nat) (w : World) (H1 : QK k1 w x p) (H2 : QK k2 w y q) (h1 : k1 ≤ 100000) (h2 : k2 ≤ 100000) : Calls Try.prog 41 #[.agg #[.bool x.neg, .slice x.a x.n x.c, .slice x.b x.m x.d], .agg #[.bool y.neg, .slice y.a y.n y.c, .slice y.b y.m y.d]] w (RetQK (k1 + k2) (p * q) w) := by
  have hs := qsz_mul p q
  have g1 := H1.2
  have g2 := H2.2
  obtain ⟨s1, n1, a1, c1, m1, b1, d1⟩ := x
  obtain ⟨s2, n2, a2, c2, m2, b2, d2⟩ := y
  obtain ⟨⟨e1, e2, e3, r1, r2⟩, z1⟩ := H1
  obtain ⟨⟨e4, e5, e6, r3, r4⟩, z2⟩ := H2
  dsimp only at e1 e2 e3 e4 e5 e6 r1 r2 r3 r4 ⊢
  subst e1 e2 e3 e4 e5 e6
  have l1 := qsz_num p
  have l2 := qsz_den p
  have l3 := qsz_num q
  have l4 := qsz_den q
  have := qmulR_any (decide (p.num < 0)) (decide (q.num < 0)) p.num.natAbs p.den q.num.natAbs q.den a1 b1 a2 b2 c1 d1 c2 d2 w r1 r2 r3 r4 p.den_nz q.den_nz (by omega) (by omega) (by omega) (by omega)
  rw [lowest_qv, qv_mul, qv_parts, qv_parts] at this
  exact this.mono fun _ _ h => retF_q (by omega) h
end Go.Proofs.Ytckfemfbpnieaaa

/- Walks: intervals by the program and by the reference: Has, the greatest and the least of two numbers. -/
namespace Go.Proofs.Ytckfemfbpnieaaa
open Go.RowKit

def qmax (p q : Rat) : Rat := if p < q then q else p
def qmin (p q : Rat) : Rat := if q < p then q else p
set_option maxRecDepth 100000 in
set_option maxHeartbeats 2000000 in
theorem ihas_q (x1 x2 y : QA) (a b q : Rat) (k1 k2 : Nat) (w : World) (H1 : QK k1 w x1 a) (H2 : QK k1 w x2 b) (H3 : QK k2 w y q) (h1 : k1 ≤ 100000) (h2 : k2 ≤ 100000) :
    Calls Try.prog 14 #[.agg #[.bool x1.neg, .slice x1.a x1.n x1.c, .slice x1.b x1.m x1.d, .bool x2.neg, .slice x2.a x2.n x2.c, .slice x2.b x2.m x2.d], .agg #[.bool y.neg, .slice y.a y.n y.c, .slice y.b y.m y.d]] w fun e w' => e = .returned (.bool (decide (a ≤ q ∧ q ≤ b))) ∧ Below w.heap.size w w' := by
  have C1 := fun W (hW : Below w.heap.size w W) => cmp_q x1 y a q k1 k2 W (H1.ext (Ext.below hW)) (H3.ext (Ext.below hW)) h1 h2
  have C2 := fun W (hW : Below w.heap.size w W) => cmp_q y x2 q b k2 k1 W (H3.ext (Ext.below hW)) (H2.ext (Ext.below hW)) h2 h1
  have e1 := cmpQ_le (p := a) (q := q)
  have e2 := cmpQ_le (p := q) (q := b)
  revert C1 C2 e1 e2
  generalize cmpQ a q = u
  generalize cmpQ q b = v
  intro C1 C2 e1 e2
  replace C1 := Lib.hid C1; replace C2 := Lib.hid C2
  replace e1 := Lib.hid e1; replace e2 := Lib.hid e2
  obtain ⟨R, hR⟩ : ∃ R, decide (a ≤ q ∧ q ≤ b) = R := ⟨_, rfl⟩
  rw [hR]
  replace hR := Lib.hid hR
  clear H1 H2 H3
  by_cases g1 : u ≤ 0
  all_goals
    go_enter Try.func14, Try.ntmps14
    go_wp2_with fail
    refine calls_gen (fun W => Blk W w.heap.size 36 #[.bool x1.neg, .slice x1.a x1.n x1.c, .slice x1.b x1.m x1.d, .bool x2.neg, .slice x2.a x2.n x2.c, .slice x2.b x2.m x2.d] ∧ Blk W (w.heap.size + 1) 34 #[.bool y.neg, .slice y.a y.n y.c, .slice y.b y.m y.d] ∧ Below w.heap.size w W) ⟨(Blk.new w _ _).alloc _, blk_at1 w _ _ _, by go_grown⟩ ?_
    rintro w0 ⟨hx, hy, hw0⟩
    revert hx hy
    generalize w.heap.size + 1 = g2
    intro hx hy
    refine (C1.out _ hw0).mono ?_
    rintro e w1 ⟨rfl, hb1⟩
    replace hx := hx.below' hb1
    replace hy := hy.below' hb1
    have hw1 := below_then hw0 hb1
    have z0 := hx.cell 3; have z1 := hx.cell 4; have z2 := hx.cell 5; have y0 := hy.cell 0; have y1 := hy.cell 1; have y2 := hy.cell 2
  · go_wp2_with fail
    refine (C2.out _ hw1).mono ?_
    rintro e w2 ⟨rfl, hb2⟩
    go_wp2
    go_ret
    refine ⟨ret_bool ?_, below_then hw1 hb2⟩
    rw [← hR.out, decide_eq_decide, e2.out, ← e1.out]
    simp [g1]
  · go_wp2
    go_ret
    refine ⟨ret_bool ?_, hw1⟩
    rw [← hR.out, eq_comm, decide_eq_false_iff_not, ← e1.out]
    exact fun h => by have := h.1; omega
set_option maxRecDepth 100000 in
set_option maxHeartbeats 2000000 in
theorem ihasR_q (x1 x2 y : QA) (a b q : Rat) (k1 k2 : Nat) (w : World) (H1 : QK k1 w x1 a) (H2 : QK k1 w x2 b) (H3 : QK k2 w y q) (h1 : k1 ≤ 100000) (h2 : k2 ≤ 100000) :
    Calls Try.prog 15 #[.agg #[.bool x1.neg, .slice x1.a x1.n x1.c, .slice x1.b x1.m x1.d, .bool x2.neg, .slice x2.a x2.n x2.c, .slice x2.b x2.m x2.d], .agg #[.bool y.neg, .slice y.a y.n y.c, .slice y.b y.m y.d]] w fun e w' => e = .returned (.bool (decide (a ≤ q ∧ q ≤ b))) ∧ Below w.heap.size w w' := by
  have C1 := fun W (hW : Below w.heap.size w W) => cmpR_q x1 y a q k1 k2 W (H1.ext (Ext.below hW)) (H3.ext (Ext.below hW)) h1 h2
  have C2 := fun W (hW : Below w.heap.size w W) => cmpR_q y x2 q b k2 k1 W (H3.ext (Ext.below hW)) (H2.ext (Ext.below hW)) h2 h1
  have e1 := cmpQ_le (p := a) (q := q)
  have e2 := cmpQ_le (p := q) (q := b)
  revert C1 C2 e1 e2
  generalize cmpQ a q = u
  generalize cmpQ q b = v
  intro C1 C2 e1 e2
  replace C1 := Lib.hid C1; replace C2 := Lib.hid C2
  replace e1 := Lib.hid e1; replace e2 := Lib.hid e2
  obtain ⟨R, hR⟩ : ∃ R, decide (a ≤ q ∧ q ≤ b) = R := ⟨_, rfl⟩
  rw [hR]
  replace hR := Lib.hid hR
  clear H1 H2 H3
  by_cases g1 : u ≤ 0
  all_goals
    go_enter Try.func15, Try.ntmps15
    go_wp2_with fail
    refine calls_gen (fun W => Blk W w.heap.size 36 #[.bool x1.neg, .slice x1.a x1.n x1.c, .slice x1.b x1.m x1.d, .bool x2.neg, .slice x2.a x2.n x2.c, .slice x2.b x2.m x2.d] ∧ Blk W (w.heap.size + 1) 34 #[.bool y.neg, .slice y.a y.n y.c, .slice y.b y.m y.d] ∧ Below w.heap.size w W) ⟨(Blk.new w _ _).alloc _, blk_at1 w _ _ _, by go_grown⟩ ?_
    rintro w0 ⟨hx, hy, hw0⟩
    revert hx hy
    generalize w.heap.size + 1 = g2
    intro hx hy
    refine (C1.out _ hw0).mono ?_
    rintro e w1 ⟨rfl, hb1⟩
    replace hx := hx.below' hb1
    replace hy := hy.below' hb1
    have hw1 := below_then hw0 hb1
    have z0 := hx.cell 3; have z1 := hx.cell 4; have z2 := hx.cell 5; have y0 := hy.cell 0; have y1 := hy.cell 1; have y2 := hy.cell 2
  · go_wp2_with fail
    refine (C2.out _ hw1).mono ?_
    rintro e w2 ⟨rfl, hb2⟩
    go_wp2
    go_ret
    refine ⟨ret_bool ?_, below_then hw1 hb2⟩
    rw [← hR.out, decide_eq_decide, e2.out, ← e1.out]
    simp [g1]
  · go_wp2
    go_ret
    refine ⟨ret_bool ?_, hw1⟩
    rw [← hR.out, eq_comm, decide_eq_false_iff_not, ← e1.out]
    exact fun h => by have := h.1; omega
/-- one of two numbers -/
def Pick (x y : QA) (p q r : Rat) (e : Ending) : Prop := ∃ z : QA, e = .returned (.agg #[.bool z.neg, .slice z.a z.n z.c, .slice z.b z.m z.d]) ∧ Hid (∀ k W, QK k W x p → QK k W y q → QK k W z r)
theorem qmax_yes {p q : Rat} (h : p < q) : qmax p q = q := if_pos h
theorem qmax_no {p q : Rat} (h : ¬ p < q) : qmax p q = p := if_neg h
theorem qmin_yes {p q : Rat} (h : q < p) : qmin p q = q := if_pos h
theorem qmin_no {p q : Rat} (h : ¬ q < p) : qmin p q = p := if_neg h
set_option maxRecDepth 100000 in
set_option maxHeartbeats 2000000 in
theorem great_q (x y : QA) (p q : Rat) (k g cp : Nat) (w : World) (H1 : QK k w x p) (H2 : QK k w y q) (h1 : k ≤ 100000) (k0 : w.cell? ⟨g, 0, none⟩ = some (.bool y.neg)) (k1 : w.cell? ⟨g, 1, none⟩ = some (.slice y.a y.n y.c)) (k2 : w.cell? ⟨g, 2, none⟩ = some (.slice y.b y.m y.d)) :
    Calls Try.prog 28 #[.agg #[.bool x.neg, .slice x.a x.n x.c, .slice x.b x.m x.d], .slice (some ⟨g, 0, none⟩) 1 cp] w fun e w' => Pick x y p q (qmax p q) e ∧ Below w.heap.size w w' := by
  have C1 := fun W (hW : Below w.heap.size w W) => cmp_q y x q p k k W (H2.ext (Ext.below hW)) (H1.ext (Ext.below hW)) h1 h1
  have e1 := cmpQ_gt (p := q) (q := p)
  revert C1 e1
  generalize cmpQ q p = u
  intro C1 e1
  replace C1 := Lib.hid C1
  replace e1 := Lib.hid e1
  have K0 := Lib.hid (fun W (hW : Below w.heap.size w W) => held k0 W hW); have K1 := Lib.hid (fun W (hW : Below w.heap.size w W) => held k1 W hW); have K2 := Lib.hid (fun W (hW : Below w.heap.size w W) => held k2 W hW)
  have hg := World.block_lt_of_cell? w _ k0
  simp only at hg
  clear H1 H2 k0 k1 k2
  unfold Pick
  by_cases g1 : 0 < u
  all_goals
    go_enter Try.func28, Try.ntmps28
    go_wp2
    refine world_gen (fun W => Blk W w.heap.size 34 #[.bool x.neg, .slice x.a x.n x.c, .slice x.b x.m x.d] ∧ Blk W (w.heap.size + 1) 34 #[.bool false, .slice none 0 0, .slice none 0 0] ∧ Below w.heap.size w W ∧ w.heap.size < w.heap.size + 1 ∧ w.heap.size + 1 < W.heap.size) ⟨(Blk.new w _ _).alloc _, blk_at1 w _ _ _, by go_grown, by omega, by simp⟩ ?_
    rintro w0 ⟨hx, hz, hw0, hg1, hg2⟩
    revert hx hz hg1 hg2
    generalize w.heap.size + 1 = g2
    intro hx hz hg1 hg2
    refine wp_loop_rounds 2 ?_
    rw [rounds_succ]
    have y0 := K0.out _ hw0; have y1 := K1.out _ hw0; have y2 := K2.out _ hw0; have x0 := hx.cell 0; have x1 := hx.cell 1; have x2 := hx.cell 2
    have ltg : g < w0.heap.size := by omega
    have lt1 := hx.lt
    go_wp2_with fail
    refine calls_gen (fun W => Blk W w.heap.size 34 #[.bool x.neg, .slice x.a x.n x.c, .slice x.b x.m x.d] ∧ Blk W g2 34 #[.bool false, .slice none 0 0, .slice none 0 0] ∧ Blk W w0.heap.size 34 #[.bool y.neg, .slice y.a y.n y.c, .slice y.b y.m y.d] ∧ Below w.heap.size w W ∧ w0.heap.size < W.heap.size) ⟨by ((repeat (first | (with_reducible assumption) | ((with_reducible apply Blk.farAt); (focus omega)) | (with_reducible apply Blk.setb) | ((with_reducible apply Blk.newAt); (focus (simp; done))) | (with_reducible apply Blk.alloc) | (with_reducible apply Blk.drew))); all_goals (show @Eq (Array Value) _ _; rfl)), by ((repeat (first | (with_reducible assumption) | ((with_reducible apply Blk.farAt); (focus omega)) | (with_reducible apply Blk.setb) | ((with_reducible apply Blk.newAt); (focus (simp; done))) | (with_reducible apply Blk.alloc) | (with_reducible apply Blk.drew))); all_goals (show @Eq (Array Value) _ _; rfl)), by ((repeat (first | (with_reducible assumption) | ((with_reducible apply Blk.farAt); (focus omega)) | (with_reducible apply Blk.setb) | ((with_reducible apply Blk.newAt); (focus (simp; done))) | (with_reducible apply Blk.alloc) | (with_reducible apply Blk.drew))); all_goals (show @Eq (Array Value) _ _; rfl)), by go_grown, by simp⟩ ?_
    clear y0 y1 y2 x0 x1 x2 ltg lt1 hx hz
    rintro w1 ⟨hx, hz, hu, hw1, hs1⟩
    refine (C1.out _ hw1).mono ?_
    rintro e w2 ⟨rfl, hb2⟩
    replace hx := hx.below' hb2
    replace hz := hz.below' hb2
    replace hu := hu.below' hb2
    have hw2 := below_then hw1 hb2
    have hs2 := hb2.size
    have x0 := hx.cell 0; have x1 := hx.cell 1; have x2 := hx.cell 2; have f0 := hx.frozen 0; have f1 := hx.frozen 1; have f2 := hx.frozen 2; have u0 := hu.cell 0; have u1 := hu.cell 1; have u2 := hu.cell 2
    have hn1 : ¬ w0.heap.size = w.heap.size := by omega
  · go_wp2
    rw [rounds_succ]
    refine world_gen (fun W => Blk W w.heap.size 34 #[.bool y.neg, .slice y.a y.n y.c, .slice y.b y.m y.d] ∧ Blk W g2 34 #[.bool false, .slice none 0 0, .slice none 0 0] ∧ Below w.heap.size w W) ⟨by ((repeat (first | (with_reducible assumption) | ((with_reducible apply Blk.farAt); (focus omega)) | (with_reducible apply Blk.setb) | ((with_reducible apply Blk.newAt); (focus (simp; done))) | (with_reducible apply Blk.alloc) | (with_reducible apply Blk.drew))); all_goals (show @Eq (Array Value) _ _; rfl)), by ((repeat (first | (with_reducible assumption) | ((with_reducible apply Blk.farAt); (focus omega)) | (with_reducible apply Blk.setb) | ((with_reducible apply Blk.newAt); (focus (simp; done))) | (with_reducible apply Blk.alloc) | (with_reducible apply Blk.drew))); all_goals (show @Eq (Array Value) _ _; rfl)), by go_grown⟩ ?_
    clear x0 x1 x2 f0 f1 f2 u0 u1 u2 hx hz hu
    rintro w3 ⟨hx, hz, hw3⟩
    have x0 := hx.cell 0; have x1 := hx.cell 1; have x2 := hx.cell 2; have z0 := hz.cell 0; have z1 := hz.cell 1; have z2 := hz.cell 2; have f0 := hz.frozen 0; have f1 := hz.frozen 1; have f2 := hz.frozen 2
    go_wp2
    have hF := blk3 (x := .bool y.neg) (y := .slice y.a y.n y.c) (z := .slice y.b y.m y.d) hz
    have e0 := hF.cell 0; have e1' := hF.cell 1; have e2 := hF.cell 2
    refine bodyPost_ret (v := .agg #[.bool y.neg, .slice y.a y.n y.c, .slice y.b y.m y.d]) (by simp [results, Try.results28, go_sem, e0, e1', e2]) rfl ?_
    exact ⟨⟨y, rfl, fun k W _ h2 => by rw [qmax_yes (e1.out.1 g1)]; exact h2⟩, below3 hw3 (by omega)⟩
  · go_wp2
    rw [rounds_succ]
    have z0 := hz.cell 0; have z1 := hz.cell 1; have z2 := hz.cell 2; have q0 := hz.frozen 0; have q1 := hz.frozen 1; have q2 := hz.frozen 2
    go_wp2
    have hF := blk3 (x := .bool x.neg) (y := .slice x.a x.n x.c) (z := .slice x.b x.m x.d) hz
    have e0 := hF.cell 0; have e1' := hF.cell 1; have e2 := hF.cell 2
    refine bodyPost_ret (v := .agg #[.bool x.neg, .slice x.a x.n x.c, .slice x.b x.m x.d]) (by simp [results, Try.results28, go_sem, e0, e1', e2]) rfl ?_
    exact ⟨⟨x, rfl, fun k W h1 _ => by rw [qmax_no (fun h => by have := e1.out.2 h; omega)]; exact h1⟩, below3 hw2 (by omega)⟩
set_option maxRecDepth 100000 in
set_option maxHeartbeats 2000000 in
theorem least_q (x y : QA) (p q : Rat) (k g cp : Nat) (w : World) (H1 : QK k w x p) (H2 : QK k w y q) (h1 : k ≤ 100000) (k0 : w.cell? ⟨g, 0, none⟩ = some (.bool y.neg)) (k1 : w.cell? ⟨g, 1, none⟩ = some (.slice y.a y.n y.c)) (k2 : w.cell? ⟨g, 2, none⟩ = some (.slice y.b y.m y.d)) :
    Calls Try.prog 29 #[.agg #[.bool x.neg, .slice x.a x.n x.c, .slice x.b x.m x.d], .slice (some ⟨g, 0, none⟩) 1 cp] w fun e w' => Pick x y p q (qmin p q) e ∧ Below w.heap.size w w' := by
  have C1 := fun W (hW : Below w.heap.size w W) => cmp_q y x q p k k W (H2.ext (Ext.below hW)) (H1.ext (Ext.below hW)) h1 h1
  have e1 := cmpQ_lt (p := q) (q := p)
  revert C1 e1
  generalize cmpQ q p = u
  intro C1 e1
  replace C1 := Lib.hid C1
  replace e1 := Lib.hid e1
  have K0 := Lib.hid (fun W (hW : Below w.heap.size w W) => held k0 W hW); have K1 := Lib.hid (fun W (hW : Below w.heap.size w W) => held k1 W hW); have K2 := Lib.hid (fun W (hW : Below w.heap.size w W) => held k2 W hW)
  have hg := World.block_lt_of_cell? w _ k0
  simp only at hg
  clear H1 H2 k0 k1 k2
  unfold Pick
  by_cases g1 : u < 0
  all_goals
    go_enter Try.func29, Try.ntmps29
    go_wp2
    refine world_gen (fun W => Blk W w.heap.size 34 #[.bool x.neg, .slice x.a x.n x.c, .slice x.b x.m x.d] ∧ Blk W (w.heap.size + 1) 34 #[.bool false, .slice none 0 0, .slice none 0 0] ∧ Below w.heap.size w W ∧ w.heap.size < w.heap.size + 1 ∧ w.heap.size + 1 < W.heap.size) ⟨(Blk.new w _ _).alloc _, blk_at1 w _ _ _, by go_grown, by omega, by simp⟩ ?_
    rintro w0 ⟨hx, hz, hw0, hg1, hg2⟩
    revert hx hz hg1 hg2
    generalize w.heap.size + 1 = g2
    intro hx hz hg1 hg2
    refine wp_loop_rounds 2 ?_
    rw [rounds_succ]
    have y0 := K0.out _ hw0; have y1 := K1.out _ hw0; have y2 := K2.out _ hw0; have x0 := hx.cell 0; have x1 := hx.cell 1; have x2 := hx.cell 2
    have ltg : g < w0.heap.size := by omega
    have lt1 := hx.lt
    go_wp2_with fail
    refine calls_gen (fun W => Blk W w.heap.size 34 #[.bool x.neg, .slice x.a x.n x.c, .slice x.b x.m x.d] ∧ Blk W g2 34 #[.bool false, .slice none 0 0, .slice none 0 0] ∧ Blk W w0.heap.size 34 #[.bool y.neg, .slice y.a y.n y.c, .slice y.b y.m y.d] ∧ Below w.heap.size w W ∧ w0.heap.size < W.heap.size) ⟨by ((repeat (first | (with_reducible assumption) | ((with_reducible apply Blk.farAt); (focus omega)) | (with_reducible apply Blk.setb) | ((with_reducible apply Blk.newAt); (focus (simp; done))) | (with_reducible apply Blk.alloc) | (with_reducible apply Blk.drew))); all_goals (show @Eq (Array Value) _ _; rfl)), by ((repeat (first | (with_reducible assumption) | ((with_reducible apply Blk.farAt); (focus omega)) | (with_reducible apply Blk.setb) | ((with_reducible apply Blk.newAt); (focus (simp; done))) | (with_reducible apply Blk.alloc) | (with_reducible apply Blk.drew))); all_goals (show @Eq (Array Value) _ _; rfl)), by ((repeat (first | (with_reducible assumption) | ((with_reducible apply Blk.farAt); (focus omega)) | (with_reducible apply Blk.setb) | ((with_reducible apply Blk.newAt); (focus (simp; done))) | (with_reducible apply Blk.alloc) | (with_reducible apply Blk.drew))); all_goals (show @Eq (Array Value) _ _; rfl)), by go_grown, by simp⟩ ?_
    clear y0 y1 y2 x0 x1 x2 ltg lt1 hx hz
    rintro w1 ⟨hx, hz, hu, hw1, hs1⟩
    refine (C1.out _ hw1).mono ?_
    rintro e w2 ⟨rfl, hb2⟩
    replace hx := hx.below' hb2
    replace hz := hz.below' hb2
    replace hu := hu.below' hb2
    have hw2 := below_then hw1 hb2
    have hs2 := hb2.size
    have x0 := hx.cell 0; have x1 := hx.cell 1; have x2 := hx.cell 2; have f0 := hx.frozen 0; have f1 := hx.frozen 1; have f2 := hx.frozen 2; have u0 := hu.cell 0; have u1 := hu.cell 1; have u2 := hu.cell 2
    have hn1 : ¬ w0.heap.size = w.heap.size := by omega
  · go_wp2
    rw [rounds_succ]
    refine world_gen (fun W => Blk W w.heap.size 34 #[.bool y.neg, .slice y.a y.n y.c, .slice y.b y.m y.d] ∧ Blk W g2 34 #[.bool false, .slice none 0 0, .slice none 0 0] ∧ Below w.heap.size w W) ⟨by ((repeat (first | (with_reducible assumption) | ((with_reducible apply Blk.farAt); (focus omega)) | (with_reducible apply Blk.setb) | ((with_reducible apply Blk.newAt); (focus (simp; done))) | (with_reducible apply Blk.alloc) | (with_reducible apply Blk.drew))); all_goals (show @Eq (Array Value) _ _; rfl)), by ((repeat (first | (with_reducible assumption) | ((with_reducible apply Blk.farAt); (focus omega)) | (with_reducible apply Blk.setb) | ((with_reducible apply Blk.newAt); (focus (simp; done))) | (with_reducible apply Blk.alloc) | (with_reducible apply Blk.drew))); all_goals (show @Eq (Array Value) _ _; rfl)), by go_grown⟩ ?_
    clear x0 x1 x2 f0 f1 f2 u0 u1 u2 hx hz hu
    rintro w3 ⟨hx, hz, hw3⟩
    have x0 := hx.cell 0; have x1 := hx.cell 1; have x2 := hx.cell 2; have z0 := hz.cell 0; have z1 := hz.cell 1; have z2 := hz.cell 2; have f0 := hz.frozen 0; have f1 := hz.frozen 1; have f2 := hz.frozen 2
    go_wp2
    have hF := blk3 (x := .bool y.neg) (y := .slice y.a y.n y.c) (z := .slice y.b y.m y.d) hz
    have e0 := hF.cell 0; have e1' := hF.cell 1; have e2 := hF.cell 2
    refine bodyPost_ret (v := .agg #[.bool y.neg, .slice y.a y.n y.c, .slice y.b y.m y.d]) (by simp [results, Try.results29, go_sem, e0, e1', e2]) rfl ?_
    exact ⟨⟨y, rfl, fun k W _ h2 => by rw [qmin_yes (e1.out.1 g1)]; exact h2⟩, below3 hw3 (by omega)⟩
  · go_wp2
    rw [rounds_succ]
    have z0 := hz.cell 0; have z1 := hz.cell 1; have z2 := hz.cell 2; have q0 := hz.frozen 0; have q1 := hz.frozen 1; have q2 := hz.frozen 2
    go_wp2
    have hF := blk3 (x := .bool x.neg) (y := .slice x.a x.n x.c) (z := .slice x.b x.m x.d) hz
    have e0 := hF.cell 0; have e1' := hF.cell 1; have e2 := hF.cell 2
    refine bodyPost_ret (v := .agg #[.bool x.neg, .slice x.a x.n x.c, .slice x.b x.m x.d]) (by simp [results, Try.results29, go_sem, e0, e1', e2]) rfl ?_
    exact ⟨⟨x, rfl, fun k W h1 _ => by rw [qmin_no (fun h => by have := e1.out.2 h; omega)]; exact h1⟩, below3 hw2 (by omega)⟩
end Go.Proofs.Ytckfemfbpnieaaa

/- Walks: the greatest and the least of two numbers, by the reference. -/
namespace Go.Proofs.Ytckfemfbpnieaaa
open Go.RowKit

set_option maxRecDepth 100000 in
set_option maxHeartbeats 2000000 in
theorem greatR_q (x y : QA) (p q : Rat) (k g cp : Nat) (w : World) (H1 : QK k w x p) (H2 : QK k w y q) (h1 : k ≤ 100000) (k0 : w.cell? ⟨g, 0, none⟩ = some (.bool x.neg)) (k1 : w.cell? ⟨g, 1, none⟩ = some (.slice x.a x.n x.c)) (k2 : w.cell? ⟨g, 2, none⟩ = some (.slice x.b x.m x.d)) (k3 : w.cell? ⟨g, 3, none⟩ = some (.bool y.neg)) (k4 : w.cell? ⟨g, 4, none⟩ = some (.slice y.a y.n y.c)) (k5 : w.cell? ⟨g, 5, none⟩ = some (.slice y.b y.m y.d)) :
    Calls Try.prog 30 #[.slice (some ⟨g, 0, none⟩) 2 cp] w fun e w' => Pick x y p q (qmax p q) e ∧ Below w.heap.size w w' := by
  have C1 := fun W (hW : Below w.heap.size w W) => cmpR_q y x q p k k W (H2.ext (Ext.below hW)) (H1.ext (Ext.below hW)) h1 h1
  have e1 := cmpQ_gt (p := q) (q := p)
  revert C1 e1
  generalize cmpQ q p = u
  intro C1 e1
  replace C1 := Lib.hid C1
  replace e1 := Lib.hid e1
  have K0 := Lib.hid (fun W (hW : Below w.heap.size w W) => held k0 W hW); have K1 := Lib.hid (fun W (hW : Below w.heap.size w W) => held k1 W hW); have K2 := Lib.hid (fun W (hW : Below w.heap.size w W) => held k2 W hW)
  have K3 := Lib.hid (fun W (hW : Below w.heap.size w W) => held k3 W hW); have K4 := Lib.hid (fun W (hW : Below w.heap.size w W) => held k4 W hW); have K5 := Lib.hid (fun W (hW : Below w.heap.size w W) => held k5 W hW)
  have hg := World.block_lt_of_cell? w _ k0
  simp only at hg
  clear H1 H2 k3 k4 k5
  unfold Pick
  by_cases g1 : 0 < u
  all_goals
    go_enter Try.func30, Try.ntmps30
    go_wp2
    refine world_gen (fun W => Blk W w.heap.size 34 #[.bool false, .slice none 0 0, .slice none 0 0] ∧ Blk W (w.heap.size + 1) 34 #[.bool x.neg, .slice x.a x.n x.c, .slice x.b x.m x.d] ∧ Below w.heap.size w W ∧ w.heap.size < w.heap.size + 1 ∧ w.heap.size + 1 < W.heap.size) ⟨(Blk.new w _ _).alloc _, blk_at1 w _ _ _, by go_grown, by omega, by simp⟩ ?_
    rintro w0 ⟨hz, hx, hw0, hg1, hg2⟩
    clear k0 k1 k2
    revert hx hz hg1 hg2
    generalize w.heap.size + 1 = g2
    intro hz hx hg1 hg2
    refine wp_loop_rounds 2 ?_
    rw [rounds_succ]
    go_wp2
    have y0 := held (K3.out _ hw0); have y1 := held (K4.out _ hw0); have y2 := held (K5.out _ hw0); have x0 := held (hx.cell 0); have x1 := held (hx.cell 1); have x2 := held (hx.cell 2)
    have s0 : Below w0.heap.size w0 w0.drew := (Below.refl _ _).drew
    refine wp_region_mix (S := Below w0.heap.size w0) [(0, .q), (1, .q), (2, .q), (3, .q), (4, .q), (5, .t), (6, .p)] (by kernel_rfl) (by kernel_rfl) (by kernel_rfl) (fun d _ _ _ _ h => by cases d <;> exact h) (s0) ?_
    iterate 5 (refine wpMix_q rfl rfl (fun K hK => ?_); apply Exists.intro; refine ⟨fun w' hw' => ?_, ?_⟩; (focus (go_simp; try rfl)); go_simp; refine hK _ _ ?_; clear hK K)
    refine wpMix_t rfl rfl (fun K hK => ?_)
    go_simp
    refine (C1.out _ (below_then hw0 s0)).mono ?_
    rintro r w2 ⟨rfl, hb2⟩
    dsimp only
    refine hK.out _ _ ?_
    clear hK K
    have t2 := below_then s0 hb2
    iterate 1 (refine wpMix_p rfl rfl (fun K hK => ?_); apply Exists.intro; refine ⟨fun w' => ?_, ?_⟩; (focus (go_simp; try rfl)); go_simp; refine hK _ _ ?_; clear hK K)
    refine wpMix_nil ?_
    replace hx := hx.below' t2
    replace hz := hz.below' t2
    have hw2 := below_then hw0 t2
    clear y0 y1 y2 x0 x1 x2 s0 hw0
    have y0 := K3.out _ hw2; have y1 := K4.out _ hw2; have y2 := K5.out _ hw2
    have x0 := hx.cell 0; have x1 := hx.cell 1; have x2 := hx.cell 2; have f0 := hx.frozen 0; have f1 := hx.frozen 1; have f2 := hx.frozen 2
  · go_wp2
    rw [rounds_succ]
    refine world_gen (fun W => Blk W g2 34 #[.bool y.neg, .slice y.a y.n y.c, .slice y.b y.m y.d] ∧ Blk W w.heap.size 34 #[.bool false, .slice none 0 0, .slice none 0 0] ∧ Below w.heap.size w W) ⟨by ((repeat (first | (with_reducible assumption) | ((with_reducible apply Blk.farAt); (focus omega)) | (with_reducible apply Blk.setb) | ((with_reducible apply Blk.newAt); (focus (simp; done))) | (with_reducible apply Blk.alloc) | (with_reducible apply Blk.drew))); all_goals (show @Eq (Array Value) _ _; rfl)), by ((repeat (first | (with_reducible assumption) | ((with_reducible apply Blk.farAt); (focus omega)) | (with_reducible apply Blk.setb) | ((with_reducible apply Blk.newAt); (focus (simp; done))) | (with_reducible apply Blk.alloc) | (with_reducible apply Blk.drew))); all_goals (show @Eq (Array Value) _ _; rfl)), by go_grown⟩ ?_
    clear y0 y1 y2 x0 x1 x2 f0 f1 f2 hx hz
    rintro w3 ⟨hx, hz, hw3⟩
    have x0 := hx.cell 0; have x1 := hx.cell 1; have x2 := hx.cell 2; have z0 := hz.cell 0; have z1 := hz.cell 1; have z2 := hz.cell 2; have f0 := hz.frozen 0; have f1 := hz.frozen 1; have f2 := hz.frozen 2
    go_wp2
    have hF := blk3 (x := .bool y.neg) (y := .slice y.a y.n y.c) (z := .slice y.b y.m y.d) hz
    have e0 := hF.cell 0; have e1' := hF.cell 1; have e2 := hF.cell 2
    refine bodyPost_ret (v := .agg #[.bool y.neg, .slice y.a y.n y.c, .slice y.b y.m y.d]) (by simp [results, Try.results30, go_sem, e0, e1', e2]) rfl ?_
    exact ⟨⟨y, rfl, fun k W _ h2 => by rw [qmax_yes (e1.out.1 g1)]; exact h2⟩, below3 hw3 (by omega)⟩
  · clear y0 y1 y2
    go_wp2
    rw [rounds_succ]
    have z0 := hz.cell 0; have z1 := hz.cell 1; have z2 := hz.cell 2; have q0 := hz.frozen 0; have q1 := hz.frozen 1; have q2 := hz.frozen 2
    go_wp2
    have hF := blk3 (x := .bool x.neg) (y := .slice x.a x.n x.c) (z := .slice x.b x.m x.d) hz
    have e0 := hF.cell 0; have e1' := hF.cell 1; have e2 := hF.cell 2
    refine bodyPost_ret (v := .agg #[.bool x.neg, .slice x.a x.n x.c, .slice x.b x.m x.d]) (by simp [results, Try.results30, go_sem, e0, e1', e2]) rfl ?_
    exact ⟨⟨x, rfl, fun k W h1 _ => by rw [qmax_no (fun h => by have := e1.out.2 h; omega)]; exact h1⟩, below3 hw2 (by omega)⟩
set_option maxRecDepth 100000 in
set_option maxHeartbeats 2000000 in
theorem leastR_q (x y : QA) (p q : Rat) (k g cp : Nat) (w : World) (H1 : QK k w x p) (H2 : QK k w y q) (h1 : k ≤ 100000) (k0 : w.cell? ⟨g, 0, none⟩ = some (.bool x.neg)) (k1 : w.cell? ⟨g, 1, none⟩ = some (.slice x.a x.n x.c)) (k2 : w.cell? ⟨g, 2, none⟩ = some (.slice x.b x.m x.d)) (k3 : w.cell? ⟨g, 3, none⟩ = some (.bool y.neg)) (k4 : w.cell? ⟨g, 4, none⟩ = some (.slice y.a y.n y.c)) (k5 : w.cell? ⟨g, 5, none⟩ = some (.slice y.b y.m y.d)) :
    Calls Try.prog 31 #[.slice (some ⟨g, 0, none⟩) 2 cp] w fun e w' => Pick x y p q (qmin p q) e ∧ Below w.heap.size w w' := by
  have C1 := fun W (hW : Below w.heap.size w W) => cmpR_q y x q p k k W (H2.ext (Ext.below hW)) (H1.ext (Ext.below hW)) h1 h1
  have e1 := cmpQ_lt (p := q) (q := p)
  revert C1 e1
  generalize cmpQ q p = u
  intro C1 e1
  replace C1 := Lib.hid C1
  replace e1 := Lib.hid e1
  have K0 := Lib.hid (fun W (hW : Below w.heap.size w W) => held k0 W hW); have K1 := Lib.hid (fun W (hW : Below w.heap.size w W) => held k1 W hW); have K2 := Lib.hid (fun W (hW : Below w.heap.size w W) => held k2 W hW)
  have K3 := Lib.hid (fun W (hW : Below w.heap.size w W) => held k3 W hW); have K4 := Lib.hid (fun W (hW : Below w.heap.size w W) => held k4 W hW); have K5 := Lib.hid (fun W (hW : Below w.heap.size w W) => held k5 W hW)
  have hg := World.block_lt_of_cell? w _ k0
  simp only at hg
  clear H1 H2 k3 k4 k5
  unfold Pick
  by_cases g1 : u < 0
  all_goals
    go_enter Try.func31, Try.ntmps31
    go_wp2
    refine world_gen (fun W => Blk W w.heap.size 34 #[.bool false, .slice none 0 0, .slice none 0 0] ∧ Blk W (w.heap.size + 1) 34 #[.bool x.neg, .slice x.a x.n x.c, .slice x.b x.m x.d] ∧ Below w.heap.size w W ∧ w.heap.size < w.heap.size + 1 ∧ w.heap.size + 1 < W.heap.size) ⟨(Blk.new w _ _).alloc _, blk_at1 w _ _ _, by go_grown, by omega, by simp⟩ ?_
    rintro w0 ⟨hz, hx, hw0, hg1, hg2⟩
    clear k0 k1 k2
    revert hx hz hg1 hg2
    generalize w.heap.size + 1 = g2
    intro hz hx hg1 hg2
    refine wp_loop_rounds 2 ?_
    rw [rounds_succ]
    go_wp2
    have y0 := held (K3.out _ hw0); have y1 := held (K4.out _ hw0); have y2 := held (K5.out _ hw0); have x0 := held (hx.cell 0); have x1 := held (hx.cell 1); have x2 := held (hx.cell 2)
    have s0 : Below w0.heap.size w0 w0.drew := (Below.refl _ _).drew
    refine wp_region_mix (S := Below w0.heap.size w0) [(0, .q), (1, .q), (2, .q), (3, .q), (4, .q), (5, .t), (6, .p)] (by kernel_rfl) (by kernel_rfl) (by kernel_rfl) (fun d _ _ _ _ h => by cases d <;> exact h) (s0) ?_
    iterate 5 (refine wpMix_q rfl rfl (fun K hK => ?_); apply Exists.intro; refine ⟨fun w' hw' => ?_, ?_⟩; (focus (go_simp; try rfl)); go_simp; refine hK _ _ ?_; clear hK K)
    refine wpMix_t rfl rfl (fun K hK => ?_)
    go_simp
    refine (C1.out _ (below_then hw0 s0)).mono ?_
    rintro r w2 ⟨rfl, hb2⟩
    dsimp only
    refine hK.out _ _ ?_
    clear hK K
    have t2 := below_then s0 hb2
    iterate 1 (refine wpMix_p rfl rfl (fun K hK => ?_); apply Exists.intro; refine ⟨fun w' => ?_, ?_⟩; (focus (go_simp; try rfl)); go_simp; refine hK _ _ ?_; clear hK K)
    refine wpMix_nil ?_
    replace hx := hx.below' t2
    replace hz := hz.below' t2
    have hw2 := below_then hw0 t2
    clear y0 y1 y2 x0 x1 x2 s0 hw0
    have y0 := K3.out _ hw2; have y1 := K4.out _ hw2; have y2 := K5.out _ hw2
    have x0 := hx.cell 0; have x1 := hx.cell 1; have x2 := hx.cell 2; have f0 := hx.frozen 0; have f1 := hx.frozen 1; have f2 := hx.frozen 2
  · go_wp2
    rw [rounds_succ]
    refine world_gen (fun W => Blk W g2 34 #[.bool y.neg, .slice y.a y.n y.c, .slice y.b y.m y.d] ∧ Blk W w.heap.size 34 #[.bool false, .slice none 0 0, .slice none 0 0] ∧ Below w.heap.size w W) ⟨by ((repeat (first | (with_reducible assumption) | ((with_reducible apply Blk.farAt); (focus omega)) | (with_reducible apply Blk.setb) | ((with_reducible apply Blk.newAt); (focus (simp; done))) | (with_reducible apply Blk.alloc) | (with_reducible apply Blk.drew))); all_goals (show @Eq (Array Value) _ _; rfl)), by ((repeat (first | (with_reducible assumption) | ((with_reducible apply Blk.farAt); (focus omega)) | (with_reducible apply Blk.setb) | ((with_reducible apply Blk.newAt); (focus (simp; done))) | (with_reducible apply Blk.alloc) | (with_reducible apply Blk.drew))); all_goals (show @Eq (Array Value) _ _; rfl)), by go_grown⟩ ?_
    clear y0 y1 y2 x0 x1 x2 f0 f1 f2 hx hz
    rintro w3 ⟨hx, hz, hw3⟩
    have x0 := hx.cell 0; have x1 := hx.cell 1; have x2 := hx.cell 2; have z0 := hz.cell 0; have z1 := hz.cell 1; have z2 := hz.cell 2; have f0 := hz.frozen 0; have f1 := hz.frozen 1; have f2 := hz.frozen 2
    go_wp2
    have hF := blk3 (x := .bool y.neg) (y := .slice y.a y.n y.c) (z := .slice y.b y.m y.d) hz
    have e0 := hF.cell 0; have e1' := hF.cell 1; have e2 := hF.cell 2
    refine bodyPost_ret (v := .agg #[.bool y.neg, .slice y.a y.n y.c, .slice y.b y.m y.d]) (by simp [results, Try.results31, go_sem, e0, e1', e2]) rfl ?_
    exact ⟨⟨y, rfl, fun k W _ h2 => by rw [qmin_yes (e1.out.1 g1)]; exact h2⟩, below3 hw3 (by omega)⟩
  · clear y0 y1 y2
    go_wp2
    rw [rounds_succ]
    have z0 := hz.cell 0; have z1 := hz.cell 1; have z2 := hz.cell 2; have q0 := hz.frozen 0; have q1 := hz.frozen 1; have q2 := hz.frozen 2
    go_wp2
    have hF := blk3 (x := .bool x.neg) (y := .slice x.a x.n x.c) (z := .slice x.b x.m x.d) hz
    have e0 := hF.cell 0; have e1' := hF.cell 1; have e2 := hF.cell 2
    refine bodyPost_ret (v := .agg #[.bool x.neg, .slice x.a x.n x.c, .slice x.b x.m x.d]) (by simp [results, Try.results31, go_sem, e0, e1', e2]) rfl ?_
    exact ⟨⟨x, rfl, fun k W h1 _ => by rw [qmin_no (fun h => by have := e1.out.2 h; omega)]; exact h1⟩, below3 hw2 (by omega)⟩
end Go.Proofs.Ytckfemfbpnieaaa
