/- Natural, whole and rational numbers that came in, opened. -/
import Derived.Test.YtckfemfbpnieaaaDt25
import Derived.Test.YtckfemfbpnieaaaDt1
import Derived.Test.YtckfemfbpnieaaaRows

/- Walks: whether boxes have small sides, by the program and by the reference. -/
namespace Go.Proofs.Ytckfemfbpnieaaa
open Go.RowKit

def fineB (n : Nat) (x : Bx) : Bool := decide (x.b.q - x.a.q ≤ halfPow n) && decide (x.d.q - x.c.q ≤ halfPow n)
def withinB (l : List Bx) (bits : Int) : Bool := if bits < 0 ∨ 200 < bits then false else l.all (fineB bits.toNat)
theorem fine_eq (n : Nat) (x : Bx) : fineB n x = (decide (x.b.q - x.a.q ≤ halfPow n) && decide (x.d.q - x.c.q ≤ halfPow n)) := rfl
set_option maxRecDepth 100000 in
set_option maxHeartbeats 8000000 in
theorem withinP_any (l : List Bx) (bits : Int) (a : Option Addr) (c : Nat) (w : World) (h : BoxesR w a c l) (hs : l.all Bx.short = true) (hi : InInt bits) :
    Calls Try.prog 10 #[.slice a l.length c, .int .i64 bits] w fun e w' => e = .returned (.bool (withinB l bits)) ∧ Below w.heap.size w w' := by
  obtain ⟨hi1, hi2⟩ := hi
  by_cases b1 : bits < 0
  · skip
    have hr : withinB l bits = false := by unfold withinB; rw [if_pos (by omega)]
    rw [hr]
    clear h hs hr
    go_enter Try.func10, Try.ntmps10
    go_wp2
    go_ret
    exact ⟨rfl, Below.refl _ _⟩
  by_cases b2 : 200 < bits
  · skip
    have hr : withinB l bits = false := by unfold withinB; rw [if_pos (by omega)]
    rw [hr]
    clear h hs hr
    go_enter Try.func10, Try.ntmps10
    go_wp2
    go_ret
    exact ⟨rfl, Below.refl _ _⟩
  have HL := Lib.hid h
  have hlen := SlR.len h
  have HS := Lib.hid hs
  obtain ⟨n, rfl⟩ : ∃ n : Nat, bits = (n : Int) := ⟨bits.toNat, by omega⟩
  have hn : n ≤ 200 := by omega
  obtain ⟨R, hR⟩ : ∃ R, withinB l n = R := ⟨_, rfl⟩
  rw [hR]
  unfold withinB at hR
  rw [if_neg (by omega), Int.toNat_natCast] at hR
  replace hR := Lib.hid hR
  clear h hs b1 b2
  go_enter Try.func10, Try.ntmps10
  go_wp2_with fail
  refine (one_q _).mono ?_
  rintro e w1 ⟨x, rfl, hX, hb1⟩
  have hs1 := hb1.size
  replace hX := Lib.hid hX
  go_wp2
  refine world_gen (fun W => Blk W w1.heap.size 34 #[.bool x.neg, .slice x.a x.n x.c, .slice x.b x.m x.d] ∧ Below w.heap.size w W ∧ w1.heap.size < W.heap.size ∧ Kp (fun V => QK 1 V x 1) w.heap.size w1.heap.size W) ⟨by ((repeat (first | (with_reducible assumption) | ((with_reducible apply Blk.farAt); (focus omega)) | (with_reducible apply Blk.setb) | ((with_reducible apply Blk.newAt); (focus (simp; done))) | (with_reducible apply Blk.alloc) | (with_reducible apply Blk.drew))); all_goals (show @Eq (Array Value) _ _; rfl)), by go_grown, by simp, by (repeat (first | (with_reducible exact hX.out) | ((with_reducible refine Kp.setc ?_ ?_); (focus omega)) | (with_reducible refine Kp.alloc ?_) | (with_reducible refine Kp.drew ?_)))⟩ ?_
  clear hX
  rintro w2 ⟨hx, hw2, hg2, hK⟩
  obtain ⟨g3, hg3⟩ : ∃ g3, w1.heap.size = g3 := ⟨_, rfl⟩
  rw [hg3] at hx hg2 hs1 ⊢
  replace hg3 := Lib.hid hg3
  go_loopg [16] n (fun g s16 wr => ∃ (k : Nat) (x : QA) (B T : Nat), k + g = n ∧ s16 = .int .i64 k ∧ Blk wr g3 34 #[.bool x.neg, .slice x.a x.n x.c, .slice x.b x.m x.d] ∧ Below w.heap.size w wr ∧ Kp (fun V => QK (k + 1) V x (halfPow k)) B T wr ∧ T ≤ wr.heap.size ∧ (g3 < B ∨ T ≤ g3))
  case atStart => exact ⟨0, x, w.heap.size, w1.heap.size, by omega, rfl, hx, hw2, hK, by rw [hg3.out]; omega, by right; rw [hg3.out]; exact Nat.le_refl _⟩
  case round =>
    clear hx hw2 hK
    obtain ⟨k, x, B, T, hkg, rfl, hx, hwr, hK, hT, hgB⟩ := hrel
    have HKG := Lib.hid hkg
    clear hkg
    by_cases hlt : k < n
    · have hkI : (k : Int) < n := by omega
      have hlr := hx.lt
      have k0 := held (hx.cell 0); have k1 := held (hx.cell 1); have k2 := held (hx.cell 2)
      have s0 : Below wr.heap.size wr wr.drew := (Below.refl _ _).drew
      replace hK := Lib.hid hK
      go_wp2
      refine wp_region_mix (S := Below wr.heap.size wr) [(0, .q), (1, .l), (2, .t), (3, .t)] (by kernel_rfl) (by kernel_rfl) (by kernel_rfl) (fun d _ _ _ _ h => by cases d <;> exact h) (s0) ?_
      iterate 1 (refine wpMix_q rfl rfl (fun K hK => ?_); apply Exists.intro; refine ⟨fun w' hw' => ?_, ?_⟩; (focus (go_simp; try rfl)); go_simp; refine hK _ _ ?_; clear hK K)
      refine wpMix_l rfl rfl (fun K hK => ?_)
      go_simp
      refine (half_q _).mono ?_
      rintro r w3 ⟨y, rfl, hY, hb1⟩
      dsimp only
      refine hK.out _ _ (below_then s0 hb1) (fun _ => ?_)
      clear hK K
      have t1 := below_then s0 hb1
      have CM := mul_q x y (halfPow k) half (k + 1) 1 w3 ((hK.out.call t1).now) hY.now (by omega) (by omega)
      replace CM := Lib.hid CM
      refine wpMix_t rfl rfl (fun K hK => ?_)
      go_simp
      refine (CM.out).mono ?_
      rintro r w4 ⟨z, rfl, hZ, hb2⟩
      dsimp only
      refine hK.out _ _ ?_
      clear hK K
      have t2 := below_then t1 hb2
      replace hx := hx.below' t2
      have hwr2 := below_then hwr t2
      have hs3 := t1.size
      replace hZ := Lib.hid hZ
      have hsz := t2.size
      have hlx := hx.lt
      have hsz2 := hwr.size
      clear hY hK k0 k1 k2
      have x0 := hx.cell 0; have x1 := hx.cell 1; have x2 := hx.cell 2; have f0 := hx.frozen 0; have f1 := hx.frozen 1; have f2 := hx.frozen 2
      refine wpMix_t rfl rfl (fun K hK => ?_)
      go_simp
      refine hK.out _ _ ?_
      clear hK K
      refine wpMix_nil ?_
      go_wp2
      refine world_gen (fun W => Blk W g3 34 #[.bool z.neg, .slice z.a z.n z.c, .slice z.b z.m z.d] ∧ Below w.heap.size w W ∧ w4.heap.size ≤ W.heap.size ∧ Kp (fun V => QK (k + 1 + 1) V z (halfPow k * half)) w3.heap.size w4.heap.size W) ⟨by ((repeat (first | (with_reducible assumption) | ((with_reducible apply Blk.farAt); (focus omega)) | (with_reducible apply Blk.setb) | ((with_reducible apply Blk.newAt); (focus (simp; done))) | (with_reducible apply Blk.alloc) | (with_reducible apply Blk.drew))); all_goals (show @Eq (Array Value) _ _; rfl)), by go_grown, by simp, by (repeat (first | (with_reducible exact hZ.out) | ((with_reducible refine Kp.setc ?_ ?_); (focus omega)) | (with_reducible refine Kp.alloc ?_) | (with_reducible refine Kp.drew ?_)))⟩ ?_
      clear x0 x1 x2 f0 f1 f2
      rintro w5 ⟨hx, hw3, hs5, hK⟩
      go_roundg (gk - 1)
      case rel => exact ⟨k + 1, z, _, _, by have := HKG.out; omega, by go_num, hx, hw3, hK, hs5, by left; omega⟩
      case measure => have := HKG.out; omega
    · obtain rfl : k = n := by have := HKG.out; omega
      have HX := Lib.hid (fun W (hW : Below wr.heap.size wr W) => (hK.call hW).now)
      clear hK
      go_wp2
      obtain ⟨wp, rfl⟩ : ∃ wp : World, wp = wr := ⟨_, rfl⟩
      obtain ⟨gk0, rfl⟩ : ∃ gk0 : Nat, gk0 = gk := ⟨_, rfl⟩
      obtain ⟨n, rfl⟩ : ∃ n, n = k := ⟨_, rfl⟩
      obtain ⟨y, rfl⟩ : ∃ y, y = x := ⟨_, rfl⟩
      have hwp := hwr
      clear hwr
      go_loopg [7, 24] l.length (fun g _ s24 wr => ∃ k : Nat, k + g = l.length ∧ s24 = .int .i64 k ∧ Blk wr g3 34 #[.bool y.neg, .slice y.a y.n y.c, .slice y.b y.m y.d] ∧ Below wp.heap.size wp wr ∧ Hid (R = (l.drop k).all (fineB n)))
      case atStart => exact ⟨0, by omega, rfl, hx, Below.refl _ _, by show _ = _; rw [← hR.out]; rfl⟩
      case round =>
        clear hx
        obtain ⟨k, hkg, rfl, hg, hwq, hv⟩ := hrel
        have hwr := below_then hwp hwq
        have HKG := Lib.hid hkg
        clear hkg
        by_cases hlt : k < l.length
        · skip
          obtain ⟨x, hx⟩ := get_of_lt hlt
          have hv2 := hv.out
          rw [all_split hx, fine_eq] at hv2
          obtain ⟨s1, s2, s3, s4⟩ := short_of HS.out hx
          obtain ⟨bb, off, rfl, z1, z2, z3, z4, q1, q2, q3, q4, r1, r2, r3, r4⟩ := (HL.out.ext (Ext.below hwr)).2.2 k x hx
          obtain ⟨q1, q1', q1''⟩ := q1
          obtain ⟨q2, q2', q2''⟩ := q2
          obtain ⟨q3, q3', q3''⟩ := q3
          obtain ⟨q4, q4', q4''⟩ := q4
          have hkI : (k : Int) < l.length := by omega
          have C1 := fun W (hW : Below wr.heap.size wr W) => narrow_q z1 z2 y x.a.q x.b.q (halfPow n) 2 (n + 1) W ((r1.ext (Ext.below hW)).sk s1) ((r2.ext (Ext.below hW)).sk s2) (HX.out W (below_then hwq hW)) (by omega) (by omega)
          have C2 := fun W (hW : Below wr.heap.size wr W) => narrow_q z3 z4 y x.c.q x.d.q (halfPow n) 2 (n + 1) W ((r3.ext (Ext.below hW)).sk s3) ((r4.ext (Ext.below hW)).sk s4) (HX.out W (below_then hwq hW)) (by omega) (by omega)
          revert C1 C2 hv2
          generalize decide (x.b.q - x.a.q ≤ halfPow n) = u1
          generalize decide (x.d.q - x.c.q ≤ halfPow n) = u2
          intro hv2 C1 C2
          have HV2 := Lib.hid hv2
          replace C1 := Lib.hid C1; replace C2 := Lib.hid C2
          have y0 := hg.cell 0; have y1 := hg.cell 1; have y2 := hg.cell 2; have hlg := hg.lt
          clear hx s1 s2 s3 s4 r1 r2 r3 r4 hv2 hv
          go_wp2_with fail
          refine calls_gen (fun W => Blk W wr.heap.size 38 #[.bool z1.neg, .slice z1.a z1.n z1.c, .slice z1.b z1.m z1.d, .bool z2.neg, .slice z2.a z2.n z2.c, .slice z2.b z2.m z2.d, .bool z3.neg, .slice z3.a z3.n z3.c, .slice z3.b z3.m z3.d, .bool z4.neg, .slice z4.a z4.n z4.c, .slice z4.b z4.m z4.d] ∧ Blk W g3 34 #[.bool y.neg, .slice y.a y.n y.c, .slice y.b y.m y.d] ∧ Below wr.heap.size wr W) ⟨by ((repeat (first | (with_reducible assumption) | ((with_reducible apply Blk.farAt); (focus omega)) | (with_reducible apply Blk.setb) | ((with_reducible apply Blk.newAt); (focus (simp; done))) | (with_reducible apply Blk.alloc) | (with_reducible apply Blk.drew))); all_goals (show @Eq (Array Value) _ _; rfl)), by ((repeat (first | (with_reducible assumption) | ((with_reducible apply Blk.farAt); (focus omega)) | (with_reducible apply Blk.setb) | ((with_reducible apply Blk.newAt); (focus (simp; done))) | (with_reducible apply Blk.alloc) | (with_reducible apply Blk.drew))); all_goals (show @Eq (Array Value) _ _; rfl)), by go_grown⟩ ?_
          clear q1 q1' q1'' q2 q2' q2'' q3 q3' q3'' q4 q4' q4'' y0 y1 y2 hg
          rintro w5 ⟨hb, hg, hw5⟩
          refine (C1.out _ hw5).mono ?_
          rintro e w6 ⟨rfl, hb6⟩
          have hw6 := below_then hw5 hb6
          replace hb := hb.below' hb6
          replace hg := hg.below' hb6
          cases u1
          · have hr : R = false := by rw [HV2.out]; rfl
            subst hr
            go_wp2
            go_ret
            exact ⟨rfl, below_then hwr hw6⟩
          · have y0 := hg.cell 0; have y1 := hg.cell 1; have y2 := hg.cell 2
            have v6 := hb.cell 6; have v7 := hb.cell 7; have v8 := hb.cell 8; have v9 := hb.cell 9; have v10 := hb.cell 10; have v11 := hb.cell 11
            go_wp2_with fail
            refine (C2.out _ hw6).mono ?_
            rintro e w7 ⟨rfl, hb7⟩
            have hw7 := below_then hw6 hb7
            replace hg := hg.below' hb7
            clear v6 v7 v8 v9 v10 v11 y0 y1 y2
            cases u2
            · have hr : R = false := by rw [HV2.out]; rfl
              subst hr
              go_wp2
              go_ret
              exact ⟨rfl, below_then hwr hw7⟩
            · go_wp2
              go_roundg (gk - 1)
              case rel => exact ⟨k + 1, by have := HKG.out; omega, by go_num, hg, below_then hwq hw7, by show _ = _; rw [HV2.out]; rfl⟩
              case measure => have := HKG.out; omega
        · have hr : R = true := by rw [hv.out, all_end hlt]
          subst hr
          go_wp2
          go_ret
          exact ⟨rfl, hwr⟩
set_option maxRecDepth 100000 in
set_option maxHeartbeats 8000000 in
theorem withinR_any (l : List Bx) (bits : Int) (a : Option Addr) (c : Nat) (w : World) (h : BoxesR w a c l) (hs : l.all Bx.short = true) (hi : InInt bits) :
    Calls Try.prog 11 #[.slice a l.length c, .int .i64 bits] w fun e w' => e = .returned (.bool (withinB l bits)) ∧ Below w.heap.size w w' := by
  obtain ⟨hi1, hi2⟩ := hi
  by_cases b1 : bits < 0
  · skip
    have hr : withinB l bits = false := by unfold withinB; rw [if_pos (by omega)]
    rw [hr]
    clear h hs hr
    go_enter Try.func11, Try.ntmps11
    go_wp2
    go_ret
    exact ⟨rfl, Below.refl _ _⟩
  by_cases b2 : 200 < bits
  · skip
    have hr : withinB l bits = false := by unfold withinB; rw [if_pos (by omega)]
    rw [hr]
    clear h hs hr
    go_enter Try.func11, Try.ntmps11
    go_wp2
    go_ret
    exact ⟨rfl, Below.refl _ _⟩
  have HL := Lib.hid h
  have hlen := SlR.len h
  have HS := Lib.hid hs
  obtain ⟨n, rfl⟩ : ∃ n : Nat, bits = (n : Int) := ⟨bits.toNat, by omega⟩
  have hn : n ≤ 200 := by omega
  obtain ⟨R, hR⟩ : ∃ R, withinB l n = R := ⟨_, rfl⟩
  rw [hR]
  unfold withinB at hR
  rw [if_neg (by omega), Int.toNat_natCast] at hR
  replace hR := Lib.hid hR
  clear h hs b1 b2
  have CS := fun W => small_q n W hn
  replace CS := Lib.hid CS
  go_enter Try.func11, Try.ntmps11
  go_wp2_with fail
  refine (CS.out _).mono ?_
  rintro e w1 ⟨y, rfl, hX, hb1⟩
  have hs1 := hb1.size
  replace hX := Lib.hid hX
  go_wp2
  refine world_gen (fun W => Blk W w1.heap.size 34 #[.bool y.neg, .slice y.a y.n y.c, .slice y.b y.m y.d] ∧ Below w.heap.size w W ∧ w1.heap.size < W.heap.size ∧ Kp (fun V => QK (n + 1) V y (halfPow n)) w.heap.size w1.heap.size W) ⟨by ((repeat (first | (with_reducible assumption) | ((with_reducible apply Blk.farAt); (focus omega)) | (with_reducible apply Blk.setb) | ((with_reducible apply Blk.newAt); (focus (simp; done))) | (with_reducible apply Blk.alloc) | (with_reducible apply Blk.drew))); all_goals (show @Eq (Array Value) _ _; rfl)), by go_grown, by simp, by (repeat (first | (with_reducible exact hX.out) | ((with_reducible refine Kp.setc ?_ ?_); (focus omega)) | (with_reducible refine Kp.alloc ?_) | (with_reducible refine Kp.drew ?_)))⟩ ?_
  clear hX
  rintro wp ⟨hg, hwp, hg2, hK⟩
  obtain ⟨g3, hg3⟩ : ∃ g3, w1.heap.size = g3 := ⟨_, rfl⟩
  rw [hg3] at hg hg2 ⊢
  replace hg3 := Lib.hid hg3
  have HX := Lib.hid (fun W (hW : Below wp.heap.size wp W) => (hK.call hW).now)
  clear hK CS
  go_loopg [7, 18] l.length (fun g _ s18 wr => ∃ k : Nat, k + g = l.length ∧ s18 = .int .i64 k ∧ Blk wr g3 34 #[.bool y.neg, .slice y.a y.n y.c, .slice y.b y.m y.d] ∧ Below wp.heap.size wp wr ∧ Hid (R = (l.drop k).all (fineB n)))
  case atStart => exact ⟨0, by omega, rfl, hg, Below.refl _ _, by show _ = _; rw [← hR.out]; rfl⟩
  case round =>
    clear hg
    obtain ⟨k, hkg, rfl, hg, hwq, hv⟩ := hrel
    have hwr := below_then hwp hwq
    have HKG := Lib.hid hkg
    clear hkg
    by_cases hlt : k < l.length
    · skip
      obtain ⟨x, hx⟩ := get_of_lt hlt
      have hv2 := hv.out
      rw [all_split hx, fine_eq] at hv2
      obtain ⟨s1, s2, s3, s4⟩ := short_of HS.out hx
      obtain ⟨bb, off, rfl, z1, z2, z3, z4, q1, q2, q3, q4, r1, r2, r3, r4⟩ := (HL.out.ext (Ext.below hwr)).2.2 k x hx
      obtain ⟨q1, q1', q1''⟩ := q1
      obtain ⟨q2, q2', q2''⟩ := q2
      obtain ⟨q3, q3', q3''⟩ := q3
      obtain ⟨q4, q4', q4''⟩ := q4
      have hkI : (k : Int) < l.length := by omega
      have C1 := fun W (hW : Below wr.heap.size wr W) => subR_q z2 z1 x.b.q x.a.q 2 2 W ((r2.ext (Ext.below hW)).sk s2) ((r1.ext (Ext.below hW)).sk s1) (by omega) (by omega)
      have C2 := fun W (hW : Below wr.heap.size wr W) => subR_q z4 z3 x.d.q x.c.q 2 2 W ((r4.ext (Ext.below hW)).sk s4) ((r3.ext (Ext.below hW)).sk s3) (by omega) (by omega)
      have D1 := fun v W (hW : Below wr.heap.size wr W) hv => cmpR_q v y (x.b.q - x.a.q) (halfPow n) (2 + 2 + 1) (n + 1) W hv (HX.out W (below_then hwq hW)) (by omega) (by omega)
      have D2 := fun v W (hW : Below wr.heap.size wr W) hv => cmpR_q v y (x.d.q - x.c.q) (halfPow n) (2 + 2 + 1) (n + 1) W hv (HX.out W (below_then hwq hW)) (by omega) (by omega)
      have e1 := cmpQ_le (p := x.b.q - x.a.q) (q := halfPow n)
      have e2 := cmpQ_le (p := x.d.q - x.c.q) (q := halfPow n)
      have d1 : decide (x.b.q - x.a.q ≤ halfPow n) = decide (cmpQ (x.b.q - x.a.q) (halfPow n) ≤ 0) := decide_eq_decide.2 e1.symm
      have d2 : decide (x.d.q - x.c.q ≤ halfPow n) = decide (cmpQ (x.d.q - x.c.q) (halfPow n) ≤ 0) := decide_eq_decide.2 e2.symm
      rw [d1, d2] at hv2
      clear e1 e2 d1 d2
      revert D1 D2 hv2
      generalize cmpQ (x.b.q - x.a.q) (halfPow n) = u1
      generalize cmpQ (x.d.q - x.c.q) (halfPow n) = u2
      intro hv2 D1 D2
      have HV2 := Lib.hid hv2
      replace C1 := Lib.hid C1; replace C2 := Lib.hid C2; replace D1 := Lib.hid D1; replace D2 := Lib.hid D2
      have hlg := hg.lt
      clear hx s1 s2 s3 s4 r1 r2 r3 r4 hv2 hv
      go_wp2
      refine world_gen (fun W => Blk W wr.heap.size 38 #[.bool z1.neg, .slice z1.a z1.n z1.c, .slice z1.b z1.m z1.d, .bool z2.neg, .slice z2.a z2.n z2.c, .slice z2.b z2.m z2.d, .bool z3.neg, .slice z3.a z3.n z3.c, .slice z3.b z3.m z3.d, .bool z4.neg, .slice z4.a z4.n z4.c, .slice z4.b z4.m z4.d] ∧ Blk W g3 34 #[.bool y.neg, .slice y.a y.n y.c, .slice y.b y.m y.d] ∧ Below wr.heap.size wr W) ⟨by ((repeat (first | (with_reducible assumption) | ((with_reducible apply Blk.farAt); (focus omega)) | (with_reducible apply Blk.setb) | ((with_reducible apply Blk.newAt); (focus (simp; done))) | (with_reducible apply Blk.alloc) | (with_reducible apply Blk.drew))); all_goals (show @Eq (Array Value) _ _; rfl)), by ((repeat (first | (with_reducible assumption) | ((with_reducible apply Blk.farAt); (focus omega)) | (with_reducible apply Blk.setb) | ((with_reducible apply Blk.newAt); (focus (simp; done))) | (with_reducible apply Blk.alloc) | (with_reducible apply Blk.drew))); all_goals (show @Eq (Array Value) _ _; rfl)), by go_grown⟩ ?_
      clear q1 q1' q1'' q2 q2' q2'' q3 q3' q3'' q4 q4' q4'' hg
      rintro w5 ⟨hb, hg, hw5⟩
      have v0 := held (hb.cell 0); have v1 := held (hb.cell 1); have v2 := held (hb.cell 2); have v3 := held (hb.cell 3); have v4 := held (hb.cell 4); have v5 := held (hb.cell 5); have v6 := held (hb.cell 6); have v7 := held (hb.cell 7); have v8 := held (hb.cell 8); have v9 := held (hb.cell 9); have v10 := held (hb.cell 10); have v11 := held (hb.cell 11)
      have y0 := held (hg.cell 0); have y1 := held (hg.cell 1); have y2 := held (hg.cell 2)
      have s0 : Below w5.heap.size w5 w5.drew := (Below.refl _ _).drew
      by_cases g1 : 0 < u1
      · have hr : R = false := by rw [HV2.out, decide_eq_false (by omega)]; rfl
        subst hr
        refine wp_region_mix (S := Below w5.heap.size w5) [(0, .q), (1, .q), (2, .q), (3, .q), (4, .q), (5, .q), (7, .q), (6, .l), (8, .l), (9, .q), (10, .q), (11, .q), (12, .q), (13, .q), (14, .q), (15, .q), (16, .q), (18, .q), (17, .l), (19, .t), (20, .p), (21, .p)] (by kernel_rfl) (by kernel_rfl) (by kernel_rfl) (fun d _ _ _ _ h => by cases d <;> exact h) (s0) ?_
        iterate 7 (refine wpMix_q rfl rfl (fun K hK => ?_); apply Exists.intro; refine ⟨fun w' hw' => ?_, ?_⟩; (focus (go_simp; try rfl)); go_simp; refine hK _ _ ?_; clear hK K)
        refine wpMix_l rfl rfl (fun K hK => ?_)
        go_simp
        refine (C1.out _ (below_then hw5 s0)).mono ?_
        rintro r w6 ⟨v, rfl, hV, hb6⟩
        dsimp only
        refine hK.out _ _ (below_then s0 hb6) (fun _ => ?_)
        clear hK K
        have t6 := below_then s0 hb6
        have CD := D1.out v w6 (below_then hw5 t6) hV.now
        replace CD := Lib.hid CD
        clear hV
        refine wpMix_l rfl rfl (fun K hK => ?_)
        go_simp
        refine (CD.out).mono ?_
        rintro r w7 ⟨rfl, hb7⟩
        dsimp only
        refine hK.out _ _ (below_then t6 hb7) (fun _ => ?_)
        clear hK K
        have t7 := below_then t6 hb7
        iterate 2 (refine wpMix_q rfl rfl (fun K hK => ?_); apply Exists.intro; refine ⟨fun w' hw' => ?_, ?_⟩; (focus (go_simp; try rfl)); go_simp; refine hK _ _ ?_; clear hK K)
        iterate 10 (refine wpMix_skip rfl rfl (fun K hK => ?_); go_simp; refine hK _ _ ?_; clear hK K)
        iterate 1 (refine wpMix_p rfl rfl (fun K hK => ?_); apply Exists.intro; refine ⟨fun w' => ?_, ?_⟩; (focus (go_simp; try rfl)); go_simp; refine hK _ _ ?_; clear hK K)
        refine wpMix_nil ?_
        go_wp2
        go_ret
        exact ⟨rfl, below_then hwr (below_then hw5 t7)⟩
      · skip
        refine wp_region_mix (S := Below w5.heap.size w5) [(0, .q), (1, .q), (2, .q), (3, .q), (4, .q), (5, .q), (7, .q), (6, .l), (8, .l), (9, .q), (10, .q), (11, .q), (12, .q), (13, .q), (14, .q), (15, .q), (16, .q), (18, .q), (17, .l), (19, .t), (20, .p), (21, .p)] (by kernel_rfl) (by kernel_rfl) (by kernel_rfl) (fun d _ _ _ _ h => by cases d <;> exact h) (s0) ?_
        iterate 7 (refine wpMix_q rfl rfl (fun K hK => ?_); apply Exists.intro; refine ⟨fun w' hw' => ?_, ?_⟩; (focus (go_simp; try rfl)); go_simp; refine hK _ _ ?_; clear hK K)
        refine wpMix_l rfl rfl (fun K hK => ?_)
        go_simp
        refine (C1.out _ (below_then hw5 s0)).mono ?_
        rintro r w6 ⟨v, rfl, hV, hb6⟩
        dsimp only
        refine hK.out _ _ (below_then s0 hb6) (fun _ => ?_)
        clear hK K
        have t6 := below_then s0 hb6
        have CD := D1.out v w6 (below_then hw5 t6) hV.now
        replace CD := Lib.hid CD
        clear hV
        refine wpMix_l rfl rfl (fun K hK => ?_)
        go_simp
        refine (CD.out).mono ?_
        rintro r w7 ⟨rfl, hb7⟩
        dsimp only
        refine hK.out _ _ (below_then t6 hb7) (fun _ => ?_)
        clear hK K
        have t7 := below_then t6 hb7
        iterate 9 (refine wpMix_q rfl rfl (fun K hK => ?_); apply Exists.intro; refine ⟨fun w' hw' => ?_, ?_⟩; (focus (go_simp; try rfl)); go_simp; refine hK _ _ ?_; clear hK K)
        refine wpMix_l rfl rfl (fun K hK => ?_)
        go_simp
        refine (C2.out _ (below_then hw5 t7)).mono ?_
        rintro r w8 ⟨v', rfl, hV, hb8⟩
        dsimp only
        refine hK.out _ _ (below_then t7 hb8) (fun _ => ?_)
        clear hK K
        have t8 := below_then t7 hb8
        have CE := D2.out v' w8 (below_then hw5 t8) hV.now
        replace CE := Lib.hid CE
        clear hV
        refine wpMix_t rfl rfl (fun K hK => ?_)
        go_simp
        refine (CE.out).mono ?_
        rintro r w9 ⟨rfl, hb9⟩
        dsimp only
        refine hK.out _ _ ?_
        clear hK K
        have t9 := below_then t8 hb9
        iterate 2 (refine wpMix_p rfl rfl (fun K hK => ?_); apply Exists.intro; refine ⟨fun w' => ?_, ?_⟩; (focus (go_simp; try rfl)); go_simp; refine hK _ _ ?_; clear hK K)
        refine wpMix_nil ?_
        replace hg := hg.below' t9
        have hw9 := below_then hw5 t9
        clear v0 v1 v2 v3 v4 v5 v6 v7 v8 v9 v10 v11 y0 y1 y2
        by_cases g2 : 0 < u2
        · have hr : R = false := by rw [HV2.out, decide_eq_false (show ¬ u2 ≤ 0 by omega)]; simp
          subst hr
          go_wp2
          go_ret
          exact ⟨rfl, below_then hwr hw9⟩
        · go_wp2
          go_roundg (gk - 1)
          case rel => exact ⟨k + 1, by have := HKG.out; omega, by go_num, hg, below_then hwq hw9, by show _ = _; rw [HV2.out, decide_eq_true (show u1 ≤ 0 by omega), decide_eq_true (show u2 ≤ 0 by omega)]; rfl⟩
          case measure => have := HKG.out; omega
    · have hr : R = true := by rw [hv.out, all_end hlt]
      subst hr
      go_wp2
      go_ret
      exact ⟨rfl, hwr⟩
end Go.Proofs.Ytckfemfbpnieaaa

/- How an argument that came in is opened: slices of whatever elements, and what they weigh. -/
namespace Go.Proofs.Ytckfemfbpnieaaa
open Go.ChangeShapes Go.WideShapes Go.ChangeAt Go.RowKit

theorem len1 {α : Type} {l : List α} (h : l.length = 1) : ∃ x0, l = [x0] := by
  match l, h with
  | [x0], _ => exact ⟨x0, rfl⟩
theorem len2 {α : Type} {l : List α} (h : l.length = 2) : ∃ x0 x1, l = [x0, x1] := by
  match l, h with
  | [x0, x1], _ => exact ⟨x0, x1, rfl⟩
theorem len3 {α : Type} {l : List α} (h : l.length = 3) : ∃ x0 x1 x2, l = [x0, x1, x2] := by
  match l, h with
  | [x0, x1, x2], _ => exact ⟨x0, x1, x2, rfl⟩
theorem len4 {α : Type} {l : List α} (h : l.length = 4) : ∃ x0 x1 x2 x3, l = [x0, x1, x2, x3] := by
  match l, h with
  | [x0, x1, x2, x3], _ => exact ⟨x0, x1, x2, x3, rfl⟩
theorem len5 {α : Type} {l : List α} (h : l.length = 5) : ∃ x0 x1 x2 x3 x4, l = [x0, x1, x2, x3, x4] := by
  match l, h with
  | [x0, x1, x2, x3, x4], _ => exact ⟨x0, x1, x2, x3, x4, rfl⟩
theorem len6 {α : Type} {l : List α} (h : l.length = 6) : ∃ x0 x1 x2 x3 x4 x5, l = [x0, x1, x2, x3, x4, x5] := by
  match l, h with
  | [x0, x1, x2, x3, x4, x5], _ => exact ⟨x0, x1, x2, x3, x4, x5, rfl⟩
theorem len7 {α : Type} {l : List α} (h : l.length = 7) : ∃ x0 x1 x2 x3 x4 x5 x6, l = [x0, x1, x2, x3, x4, x5, x6] := by
  match l, h with
  | [x0, x1, x2, x3, x4, x5, x6], _ => exact ⟨x0, x1, x2, x3, x4, x5, x6, rfl⟩
theorem list_choose {α β : Type} {p : Nat → β → α → Prop} (l : List β) (h : ∀ i y, l[i]? = some y → ∃ z, p i y z) :
    ∃ zs : List α, zs.length = l.length ∧ ∀ (i : Nat) (z : α), zs[i]? = some z → ∃ y, l[i]? = some y ∧ p i y z := by
  induction l generalizing p with
  | nil => exact ⟨[], rfl, fun i z hz => by simp at hz⟩
  | cons x l ih =>
    obtain ⟨z0, h0⟩ := h 0 x rfl
    obtain ⟨zs, hl, hz⟩ := ih (p := fun i => p (i + 1)) (fun i y hy => h (i + 1) y (by simpa using hy))
    refine ⟨z0 :: zs, by simp [hl], fun i z hi => ?_⟩
    cases i with
    | zero => simp at hi; subst hi; exact ⟨x, rfl, h0⟩
    | succ i => simpa using hz i z (by simpa using hi)

theorem sum_le_bulk {H α : Type} (size : α → Nat) : ∀ (ds : List (DataW H)) (zs : List α), zs.length = ds.length → (∀ (i : Nat) (z : α) (d : DataW H), zs[i]? = some z → ds[i]? = some d → size z ≤ Rows.uptoBulk d) →
    (zs.map size).sum ≤ Rows.uptoBulkAll ds
  | [], zs, hl, _ => by
    have : zs = [] := List.eq_nil_of_length_eq_zero (by simpa using hl)
    subst this; simp
  | d :: ds, [], hl, _ => by simp at hl
  | d :: ds, z :: zs, hl, h => by
    have h0 := h 0 z d rfl rfl
    have h1 := sum_le_bulk size ds zs (by simpa using hl) (fun i z d hz hd => h (i + 1) z d (by simpa using hz) (by simpa using hd))
    simp only [List.map_cons, List.sum_cons, Rows.uptoBulkAll]
    omega

section
variable {H : Type} {enc : TypeId × Value → H} {P : Program} {W : World} {sp : Nat → Bool} {held : Bool}
/-- A SLICE OPENED: its elements as a list, what each is read as being told by 'conv' -/
theorem open_sl {t e : TypeId} {sz fuel : Nat} {cs : List Value} {x : DataW H × List MemPlace} (ht : P.underlying t = some (.slice e)) (hc : P.cellsOf e = sz) (hs : 0 < sz)
    (h : DataW.trod enc P W 0 sp held fuel t cs = some x) {α : Type} (E : World → Nat → Nat → α → Prop) (size : α → Nat)
    (conv : ∀ n cs' y b o, n < fuel → DataW.trod enc P W 0 sp held n e cs' = some y → cs'.length = sz → (∀ j, j < sz → W.cell? ⟨b, o + j, none⟩ = cs'[j]?) → ∃ z, E W b o z ∧ size z ≤ Rows.uptoBulk y.1) :
    ∃ (a : Option Addr) (cap : Nat) (zs : List α), cs = [.slice a zs.length cap] ∧ SlR sz E W a cap zs ∧ (zs.map size).sum + 1 ≤ Rows.uptoBulk x.1 := by
  rcases DataW.trod_slice ht h with ⟨rfl, rfl⟩ | ⟨a, len, cap, elems, rest, n, hn, rfl, rfl, _, hl, hm, hlen, hel, _, _⟩
  · exact ⟨none, 0, [], rfl, SlR.nil, by simp [Rows.uptoBulk]⟩
  · rw [hc] at hel
    have key : ∀ i y, elems[i]? = some y → ∃ z, (∃ b off, a = ⟨b, off, none⟩ ∧ E W b (off + i * sz) z) ∧ size z ≤ Rows.uptoBulk y.1 := by
      intro i y hy
      have hi : i < len := by rw [← hlen]; exact lt_of_get hy
      have h1 := hel i hi
      rw [hy] at h1
      obtain ⟨cs', hcs, hty⟩ := Option.bind_eq_some_iff.1 h1
      obtain ⟨_, hl', hcell⟩ := World.cells?_some hcs
      have hspot : ∃ b off, a = ⟨b, off, none⟩ := by
        have h0 := hcell 0 hs
        rw [List.getElem?_eq_getElem (by omega)] at h0
        have := World.cell?_spot h0
        obtain ⟨b, off, spot⟩ := a
        by_cases hi0 : i * sz = 0
        · simp [Addr.add, hi0] at this
          subst this
          exact ⟨b, off, rfl⟩
        · have h2 := hel 0 (by omega)
          obtain ⟨y0, hy0⟩ := get_of_lt (xs := elems) (k := 0) (by omega)
          rw [hy0] at h2
          obtain ⟨cs0, hcs0, _⟩ := Option.bind_eq_some_iff.1 h2
          obtain ⟨_, hl0, hcell0⟩ := World.cells?_some hcs0
          have h3 := hcell0 0 hs
          rw [List.getElem?_eq_getElem (by omega)] at h3
          have := World.cell?_spot h3
          simp [Addr.add] at this
          subst this
          exact ⟨b, off, rfl⟩
      obtain ⟨b, off, rfl⟩ := hspot
      obtain ⟨z, hz, hsz⟩ := conv n cs' y b (off + i * sz) (by omega) hty hl' (fun j hj => by
        rw [← hcell j hj, add_plain, add_plain])
      exact ⟨z, ⟨b, off, rfl, hz⟩, hsz⟩
    obtain ⟨zs, hzl, hz⟩ := list_choose (p := fun i y z => (∃ b off, a = ⟨b, off, none⟩ ∧ E W b (off + i * sz) z) ∧ size z ≤ Rows.uptoBulk y.1) elems key
    refine ⟨some a, cap, zs, by rw [hzl, hlen], ⟨by omega, hm, fun k z hk => ?_⟩, ?_⟩
    · obtain ⟨y, hy, ⟨b, off, rfl, he⟩, _⟩ := hz k z hk
      exact ⟨b, off, rfl, he⟩
    · have h1 := sum_le_bulk size (elems.map (·.1)) zs (by simpa using hzl) (fun i z d hzi hd => by
        obtain ⟨y, hy, _, hs⟩ := hz i z hzi
        rw [List.getElem?_map, hy] at hd
        simp at hd; subst hd; exact hs)
      simp only [Rows.uptoBulk]
      omega
end

/-- one cell that holds an integer -/
theorem conv_int {H : Type} {enc : TypeId × Value → H} {P : Program} {W : World} {sp : Nat → Bool} {held : Bool} {e : TypeId} {k : IntKind} (he : P.underlying e = some (.int k)) (n : Nat) (cs' : List Value) (y : DataW H × List MemPlace) (b o : Nat)
    (h : DataW.trod enc P W 0 sp held n e cs' = some y) (hc : ∀ j, j < 1 → W.cell? ⟨b, o + j, none⟩ = cs'[j]?) : ∃ z, IntE k W b o z ∧ 1 ≤ Rows.uptoBulk y.1 := by
  obtain ⟨z, rfl, rfl, hw⟩ := DataW.trod_int he h
  exact ⟨z, ⟨by have := hc 0 (by omega); simpa using this, hw⟩, by simp [Rows.uptoBulk]⟩
theorem conv_str {H : Type} {enc : TypeId × Value → H} {P : Program} {W : World} {sp : Nat → Bool} {held : Bool} {e : TypeId} (he : P.underlying e = some .string) (n : Nat) (cs' : List Value) (y : DataW H × List MemPlace) (b o : Nat)
    (h : DataW.trod enc P W 0 sp held n e cs' = some y) (hc : ∀ j, j < 1 → W.cell? ⟨b, o + j, none⟩ = cs'[j]?) : ∃ z : ByteArray, StrE W b o z ∧ z.size + 1 ≤ Rows.uptoBulk y.1 := by
  obtain ⟨z, rfl, rfl, hw⟩ := DataW.trod_string he h
  exact ⟨z, by have := hc 0 (by omega); simpa [StrE] using this, by simp [Rows.uptoBulk]⟩

end Go.Proofs.Ytckfemfbpnieaaa

/- Natural, whole and rational numbers that came in, opened. -/
namespace Go.Proofs.Ytckfemfbpnieaaa
open Go.ChangeShapes Go.WideShapes Go.ChangeAt Go.RowKit

theorem cellsRat : Try.prog.cellsOf 34 = 3 := by kernel_rfl
theorem cellsInt : Try.prog.cellsOf 32 = 2 := by kernel_rfl
theorem cellsNat : Try.prog.cellsOf 30 = 1 := by kernel_rfl
theorem cellsB : Try.prog.cellsOf 4 = 1 := by kernel_rfl
theorem cellsU16 : Try.prog.cellsOf 73 = 1 := by kernel_rfl

theorem list_sum_ones {α : Type} (l : List α) : (l.map fun _ => 1).sum = l.length := by induction l with
  | nil => rfl
  | cons x l ih => simp only [List.map_cons, List.sum_cons, ih, List.length_cons]; omega

section
variable {H : Type} {enc : TypeId × Value → H} {W : World} {sp : Nat → Bool} {held : Bool} {n : Nat}
theorem open_nat {cs : List Value} {y : DataW H × List MemPlace} (h : DataW.trod enc Try.prog W 0 sp held n 30 cs = some y) :
    ∃ a c zs, cs = [.slice a (List.length zs) c] ∧ NatR W a c zs ∧ zs.length + 1 ≤ Rows.uptoBulk y.1 := by
  obtain ⟨a, c, zs, h1, h2, h3⟩ := open_sl Try.underlying30 cellsU16 (by omega) h (IntE .u16) (fun _ => 1) (fun m cs' y b o _ ht _ hc => conv_int Try.underlying73 m cs' y b o ht hc)
  rw [list_sum_ones] at h3
  exact ⟨a, c, zs, h1, h2, h3⟩
theorem open_intst {cs : List Value} {y : DataW H × List MemPlace} (h : DataW.trod enc Try.prog W 0 sp held n 32 cs = some y) :
    ∃ b a c zs, cs = [.bool b, .slice a (List.length zs) c] ∧ NatR W a c zs ∧ zs.length + 2 ≤ Rows.uptoBulk y.1 := by
  obtain ⟨xs, m, rfl, rfl, hcl, hxl, hf⟩ := DataW.trod_struct Try.underlying32 h
  rw [cellsInt] at hcl
  obtain ⟨c0, c1, rfl⟩ := len2 hcl
  obtain ⟨y0, y1, rfl⟩ := len2 (show xs.length = 2 from hxl)
  · have h0 := hf 0 _ rfl
    have h1 := hf 1 _ rfl
    simp [cellsB, cellsNat] at h0 h1
    obtain ⟨b, e0, rfl⟩ := DataW.trod_bool Try.underlying4 h0
    obtain ⟨a, c, zs, e1, h2, h3⟩ := open_nat h1
    simp at e0 e1; subst e0; subst e1
    refine ⟨b, a, c, zs, rfl, h2, ?_⟩
    simp [Rows.uptoBulk, Rows.uptoBulkAll] at h3 ⊢
    omega
theorem open_rat {cs : List Value} {y : DataW H × List MemPlace} (h : DataW.trod enc Try.prog W 0 sp held n 34 cs = some y) :
    ∃ b na nc num da dc den, cs = [.bool b, .slice na (List.length num) nc, .slice da (List.length den) dc] ∧ NatR W na nc num ∧ NatR W da dc den ∧ num.length + den.length + 2 ≤ Rows.uptoBulk y.1 := by
  obtain ⟨xs, m, rfl, rfl, hcl, hxl, hf⟩ := DataW.trod_struct Try.underlying34 h
  rw [cellsRat] at hcl
  obtain ⟨c0, c1, c2, rfl⟩ := len3 hcl
  obtain ⟨y0, y1, rfl⟩ := len2 (show xs.length = 2 from hxl)
  · have h0 := hf 0 _ rfl
    have h1 := hf 1 _ rfl
    simp [cellsInt, cellsNat] at h0 h1
    obtain ⟨b, na, nc, num, e0, h2, h3⟩ := open_intst h0
    obtain ⟨da, dc, den, e1, h4, h5⟩ := open_nat h1
    simp at e0 e1
    obtain ⟨rfl, rfl⟩ := e0
    subst e1
    refine ⟨b, na, nc, num, da, dc, den, rfl, h2, h4, ?_⟩
    simp [Rows.uptoBulk, Rows.uptoBulkAll] at h3 h5 ⊢
    omega
end
end Go.Proofs.Ytckfemfbpnieaaa
