/- Rational numbers in their valid form, as handles: the contracts of both sides. -/
import Derived.Test.YtaihkpjbnkgmlaaGreatRf18
import Derived.Test.YtaihkpjbnkgmlaaGreatRf17

/- Walks: the reference's rational numbers: Mul, Add, Sub. -/
namespace Go.Proofs.YtaihkpjbnkgmlaaGreat
open Go.RowKit

set_option maxRecDepth 100000 in
set_option maxHeartbeats 2000000 in
theorem qmulR_any (s1 s2 : Bool) (P1 D1 P2 D2 : Nat) (a1 b1 a2 b2 : Option Addr) (c1 d1 c2 d2 : Nat) (w : World) (r1 : NatR w a1 c1 (limbs P1)) (r2 : NatR w b1 d1 (limbs D1)) (r3 : NatR w a2 c2 (limbs P2)) (r4 : NatR w b2 d2 (limbs D2))
  (hD1 : D1 ≠ 0) (hD2 : D2 ≠ 0) (l1 : (limbs P1).length ≤ 400000) (l2 : (limbs D1).length ≤ 400000) (l3 : (limbs P2).length ≤ 400000) (l4 : (limbs D2).length ≤ 400000) : Calls Tryz.prog 171 #[.agg #[.bool s1, .slice a1 (limbs P1).length c1, .slice b1 (limbs D1).length d1], .agg #[.bool s2, .slice a2 (limbs P2).length c2, .slice b2 (limbs D2).length d2]] w (RetF (lowest (s1 != s2) (P1 * P2) (D1 * D2)) w) := by
 have m1 := limbs_len_mul P1 P2
 have m2 := limbs_len_mul D1 D2
 have CZ := fun W (hW : Below w.heap.size w W) => zmulR_any s1 s2 (limbs P1) (limbs P2) P1 P2 a1 a2 c1 c2 W (r1.ext (Ext.below hW)) (r3.ext (Ext.below hW)) (val_limbs _) (val_limbs _) (by omega) (by omega)
 have CN := fun W (hW : Below w.heap.size w W) => mul01_any (limbs D1) (limbs D2) D1 D2 b1 b2 d1 d2 W (r2.ext (Ext.below hW)) (r4.ext (Ext.below hW)) (val_limbs _) (val_limbs _) (by omega) (by omega)
 have CR := fun a b c d W h h' => over_all ((s1 != s2) && decide (0 < P1 * P2)) (limbs (P1 * P2)) (limbs (D1 * D2)) (P1 * P2) (D1 * D2) a b c d W h h' (val_limbs _) (val_limbs _) (by omega) (by omega)
 rw [lowest_pos] at CR
 obtain ⟨R, hR⟩ : ∃ q, ((s1 != s2) && decide (0 < P1 * P2)) = q := ⟨_, rfl⟩
 rw [hR] at CZ CR
 obtain ⟨t, ht⟩ : ∃ t, lowest (s1 != s2) (P1 * P2) (D1 * D2) = t := ⟨_, rfl⟩
 rw [ht] at CR ⊢
 obtain ⟨s, N, D⟩ := t
 clear m1 m2 hR ht hD1 hD2
 revert CZ CN CR
 generalize P1 * P2 = PP
 generalize D1 * D2 = DD
 intro CN CZ CR
 unfold RetF at CR ⊢
 dsimp only at CR ⊢
 replace CZ := Lib.hid CZ; replace CN := Lib.hid CN; replace CR := Lib.hid CR
 clear r1 r2 r3 r4
 go_enter Tryz.func171, Tryz.ntmps171
 go_wp2
 refine world_gen (fun W => Blk W w.heap.size 43 #[.bool s1, .slice a1 (limbs P1).length c1, .slice b1 (limbs D1).length d1] ∧ Blk W (w.heap.size + 1) 43 #[.bool s2, .slice a2 (limbs P2).length c2, .slice b2 (limbs D2).length d2] ∧ Blk W (w.heap.size + 1 + 1) 43 #[.bool false, .slice none 0 0, .slice none 0 0] ∧ Below w.heap.size w W ∧ w.heap.size < w.heap.size + 1 ∧ w.heap.size + 1 < w.heap.size + 1 + 1 ∧ w.heap.size + 1 + 1 < W.heap.size) ⟨((Blk.new w _ _).alloc _).alloc _, (blk_at1 w _ _ _).alloc _, blk_at2 w _ _ _ _, by go_grown, by omega, by omega, by simp⟩ ?_
 rintro w0 ⟨hx, hy, hz, hw0, hg1, hg2, hg3⟩
 revert hx hy hz hg1 hg2 hg3
 generalize w.heap.size + 1 + 1 = g3
 generalize w.heap.size + 1 = g2
 intro hx hy hz hg1 hg2 hg3
 have k0 := held (hx.cell 0); have k1 := held (hx.cell 1); have k2 := held (hx.cell 2); have k3 := held (hy.cell 0); have k4 := held (hy.cell 1); have k5 := held (hy.cell 2)
 have s0 : Below w0.heap.size w0 w0.drew := (Below.refl _ _).drew
 refine wp_region_mix (S := Below w0.heap.size w0) [(0, .q), (1, .q), (2, .q), (3, .q), (5, .q), (6, .q), (7, .q), (8, .q), (4, .l), (9, .t), (10, .t), (11, .t)] (by kernel_rfl) (by kernel_rfl) (by kernel_rfl) (fun d _ _ _ _ h => by cases d <;> exact h) (s0) ?_
 iterate 8 (refine wpMix_q rfl rfl (fun K hK => ?_); apply Exists.intro; refine ⟨fun w' hw' => ?_, ?_⟩; (focus (go_simp; try rfl)); go_simp; refine hK _ _ ?_; clear hK K)
 refine wpMix_l rfl rfl (fun K hK => ?_)
 go_simp
 refine (CZ.out _ (below_then hw0 s0)).mono ?_
 rintro r w1 ⟨a5, c5, rfl, hV5, hb1⟩
 dsimp only
 refine hK.out _ _ (below_then s0 hb1) (fun _ => ?_)
 clear hK K
 have t6 := below_then s0 hb1
 have hr5 := hV5 w1 (New.refl _ _)
 have HR5 := Lib.hid hr5
 clear hr5 hV5
 refine wpMix_t rfl rfl (fun K hK => ?_)
 go_simp
 refine (CN.out _ (below_then hw0 t6)).mono ?_
 rintro r w2 ⟨a6, c6, rfl, hV6, hb2⟩
 dsimp only
 refine hK.out _ _ ?_
 clear hK K
 have t7 := below_then t6 hb2
 have CG := CR.out a5 a6 c5 c6 w2 (HR5.out.ext (Ext.below hb2)) (hV6 w2 (New.refl _ _))
 replace CG := Lib.hid CG
 clear hV6
 refine wpMix_t rfl rfl (fun K hK => ?_)
 go_simp
 refine (CG.out).mono ?_
 rintro r w3 ⟨a8, c8, b8, d8, rfl, hV1, hV2, hb3⟩
 dsimp only
 refine hK.out _ _ ?_
 clear hK K
 have t8 := below_then t7 hb3
 replace hz := hz.below' t8
 have hw8 := below_then hw0 t8
 have hwB := (below_then hw0 t7).size
 have hwG := t7.size
 have ltz := hz.lt
 have HV1 := Lib.hid hV1
 have HV2 := Lib.hid hV2
 clear hV1 hV2 k0 k1 k2 k3 k4 k5
 have z0 := hz.cell 0; have z1 := hz.cell 1; have z2 := hz.cell 2; have f0 := hz.frozen 0; have f1 := hz.frozen 1; have f2 := hz.frozen 2
 refine wpMix_t rfl rfl (fun K hK => ?_)
 go_simp
 refine hK.out _ _ ?_
 clear hK K
 refine wpMix_nil ?_
 go_wp2
 have hF := blk3 (x := .bool s) (y := .slice a8 (limbs N).length c8) (z := .slice b8 (limbs D).length d8) hz
 have e0 := hF.cell 0; have e1 := hF.cell 1; have e2 := hF.cell 2
 refine bodyPost_ret (v := .agg #[.bool s, .slice a8 (limbs N).length c8, .slice b8 (limbs D).length d8]) (by simp [results, Tryz.results171, go_sem, e0, e1, e2]) rfl ?_
 exact ⟨a8, c8, b8, d8, rfl, fun V hV => HV1.out V (back3 hV hwB (by omega)), fun V hV => HV2.out V (back3 hV hwB (by omega)), below3 hw8 (by omega)⟩
set_option maxRecDepth 100000 in
set_option maxHeartbeats 4000000 in
/-- the sum, the arguments brought to lowest terms first -/
theorem qaddR_low (s1 s2 : Bool) (P1 D1 P2 D2 : Nat) (a1 b1 a2 b2 : Option Addr) (c1 d1 c2 d2 : Nat) (w : World) (r1 : NatR w a1 c1 (limbs P1)) (r2 : NatR w b1 d1 (limbs D1)) (r3 : NatR w a2 c2 (limbs P2)) (r4 : NatR w b2 d2 (limbs D2))
  (S1 S2 : Bool) (N1 M1 N2 M2 : Nat) (h1 : lowest s1 P1 D1 = (S1, N1, M1)) (h2 : lowest s2 P2 D2 = (S2, N2, M2)) (hD1 : D1 ≠ 0) (hD2 : D2 ≠ 0) (l1 : (limbs P1).length ≤ 400000) (l2 : (limbs D1).length ≤ 400000) (l3 : (limbs P2).length ≤ 400000) (l4 : (limbs D2).length ≤ 400000) :
  Calls Tryz.prog 205 #[.agg #[.bool s1, .slice a1 (limbs P1).length c1, .slice b1 (limbs D1).length d1], .agg #[.bool s2, .slice a2 (limbs P2).length c2, .slice b2 (limbs D2).length d2]] w (RetF (lowest (decide (zval S1 (N1 * M2) + zval S2 (N2 * M1) < 0)) (zval S1 (N1 * M2) + zval S2 (N2 * M1)).natAbs (M1 * M2)) w) := by
 have r1' := limbs_len_mono (lowest_num s1 P1 D1)
 have r2' := limbs_len_mono (lowest_den s1 P1 D1)
 have r3' := limbs_len_mono (lowest_num s2 P2 D2)
 have r4' := limbs_len_mono (lowest_den s2 P2 D2)
 have t2 := limbs_len_succ D1
 have t4 := limbs_len_succ D2
 have C1 := fun W (hW : Below w.heap.size w W) => qnormR_any s1 (limbs P1) (limbs D1) P1 D1 a1 b1 c1 d1 W (r1.ext (Ext.below hW)) (r2.ext (Ext.below hW)) (val_limbs _) (val_limbs _) (by omega) (by omega)
 have C2 := fun W (hW : Below w.heap.size w W) => qnormR_any s2 (limbs P2) (limbs D2) P2 D2 a2 b2 c2 d2 W (r3.ext (Ext.below hW)) (r4.ext (Ext.below hW)) (val_limbs _) (val_limbs _) (by omega) (by omega)
 rw [h1] at C1 r1' r2'
 rw [h2] at C2 r3' r4'
 unfold RetF at C1 C2
 dsimp only at C1 C2 r1' r2' r3' r4'
 have m1 := limbs_len_mul N1 M2
 have m2 := limbs_len_mul N2 M1
 have m3 := limbs_len_mul M1 M2
 have m4 := Nat.le_trans (limbs_len_mono (qsum_nat S1 S2 N1 M1 N2 M2)) (limbs_len_add _ _)
 have CZ1 := fun a1 a2 c1 c2 W g1 g2 => zmulR_any S1 false (limbs N1) (limbs M2) N1 M2 a1 a2 c1 c2 W g1 g2 (val_limbs _) (val_limbs _) (by omega) (by omega)
 have CZ2 := fun a1 a2 c1 c2 W g1 g2 => zmulR_any S2 false (limbs N2) (limbs M1) N2 M1 a1 a2 c1 c2 W g1 g2 (val_limbs _) (val_limbs _) (by omega) (by omega)
 have x1 : (S1 != false) = S1 := by cases S1 <;> rfl
 have x2 : (S2 != false) = S2 := by cases S2 <;> rfl
 simp only [x1] at CZ1
 simp only [x2] at CZ2
 have CS := fun a b c d W h h' => zaddR_any (S1 && decide (0 < N1 * M2)) (S2 && decide (0 < N2 * M1)) (limbs (N1 * M2)) (limbs (N2 * M1)) (N1 * M2) (N2 * M1) a b c d W h h' (val_limbs _) (val_limbs _) (by omega) (by omega)
 simp only [zval_pos] at CS
 have CN := fun a b c d W h h' => mul01_any (limbs M1) (limbs M2) M1 M2 a b c d W h h' (val_limbs _) (val_limbs _) (by omega) (by omega)
 revert CS m4
 generalize zval S1 (N1 * M2) + zval S2 (N2 * M1) = z
 intro m4 CS
 have CR := fun a b c d W h h' => over_all (decide (z < 0)) (limbs z.natAbs) (limbs (M1 * M2)) z.natAbs (M1 * M2) a b c d W h h' (val_limbs _) (val_limbs _) (by omega) (by omega)
 obtain ⟨t, ht⟩ : ∃ t, lowest (decide (z < 0)) z.natAbs (M1 * M2) = t := ⟨_, rfl⟩
 rw [ht] at CR ⊢
 obtain ⟨s, N, D⟩ := t
 unfold RetI RetZ at CS
 obtain ⟨R, hR⟩ : ∃ R, decide (z < 0) = R := ⟨_, rfl⟩
 rw [hR] at CR
 simp only [hR] at CS
 obtain ⟨p1, hp1⟩ : ∃ q, (S1 && decide (0 < N1 * M2)) = q := ⟨_, rfl⟩
 obtain ⟨p2, hp2⟩ : ∃ q, (S2 && decide (0 < N2 * M1)) = q := ⟨_, rfl⟩
 simp only [hp1] at CZ1 CS
 simp only [hp2] at CZ2 CS
 unfold RetF at CR ⊢
 dsimp only at CR ⊢
 clear ht hR hp1 hp2 x1 x2 m1 m2 m3 m4 r1' r2' r3' r4' t2 t4 h1 h2 hD1 hD2
 obtain ⟨PP, hPP⟩ : ∃ q, N1 * M2 = q := ⟨_, rfl⟩
 obtain ⟨DD, hDD⟩ : ∃ q, N2 * M1 = q := ⟨_, rfl⟩
 obtain ⟨MM, hMM⟩ : ∃ q, M1 * M2 = q := ⟨_, rfl⟩
 simp only [hPP] at CZ1 CS
 simp only [hDD] at CZ2 CS
 simp only [hMM] at CN CR
 clear hPP hDD hMM
 replace C1 := Lib.hid C1; replace C2 := Lib.hid C2; replace CZ1 := Lib.hid CZ1; replace CZ2 := Lib.hid CZ2; replace CS := Lib.hid CS; replace CN := Lib.hid CN; replace CR := Lib.hid CR
 clear r1 r2 r3 r4
 go_enter Tryz.func205, Tryz.ntmps205
 go_wp2
 refine world_gen (fun W => Blk W w.heap.size 43 #[.bool s1, .slice a1 (limbs P1).length c1, .slice b1 (limbs D1).length d1] ∧ Blk W (w.heap.size + 1) 43 #[.bool s2, .slice a2 (limbs P2).length c2, .slice b2 (limbs D2).length d2] ∧ Blk W (w.heap.size + 1 + 1) 43 #[.bool false, .slice none 0 0, .slice none 0 0] ∧ Below w.heap.size w W ∧ w.heap.size < w.heap.size + 1 ∧ w.heap.size + 1 < w.heap.size + 1 + 1 ∧ w.heap.size + 1 + 1 < W.heap.size) ⟨((Blk.new w _ _).alloc _).alloc _, (blk_at1 w _ _ _).alloc _, blk_at2 w _ _ _ _, by go_grown, by omega, by omega, by simp⟩ ?_
 rintro w0 ⟨hx, hy, hz, hw0, hg1, hg2, hg3⟩
 revert hx hy hz hg1 hg2 hg3
 generalize w.heap.size + 1 + 1 = g3
 generalize w.heap.size + 1 = g2
 intro hx hy hz hg1 hg2 hg3
 have k0 := held (hx.cell 0); have k1 := held (hx.cell 1); have k2 := held (hx.cell 2); have k3 := held (hy.cell 0); have k4 := held (hy.cell 1); have k5 := held (hy.cell 2)
 have s0 : Below w0.heap.size w0 w0.drew := (Below.refl _ _).drew
 refine wp_region_mix (S := Below w0.heap.size w0) [(0, .q), (2, .q), (1, .l), (3, .t), (4, .t), (5, .t)] (by kernel_rfl) (by kernel_rfl) (by kernel_rfl) (fun d _ _ _ _ h => by cases d <;> exact h) (s0) ?_
 iterate 2 (refine wpMix_q rfl rfl (fun K hK => ?_); apply Exists.intro; refine ⟨fun w' hw' => ?_, ?_⟩; (focus (go_simp; try rfl)); go_simp; refine hK _ _ ?_; clear hK K)
 refine wpMix_l rfl rfl (fun K hK => ?_)
 go_simp
 refine (C1.out _ (below_then hw0 s0)).mono ?_
 rintro r w1 ⟨u1, e1, v1, f1, rfl, hV1, hV2, hb1⟩
 dsimp only
 refine hK.out _ _ (below_then s0 hb1) (fun _ => ?_)
 clear hK K
 have s1' := below_then s0 hb1
 refine wpMix_t rfl rfl (fun K hK => ?_)
 go_simp
 refine (C2.out _ (below_then hw0 s1')).mono ?_
 rintro r w2 ⟨u2, e2, v2, f2, rfl, hV3, hV4, hb2⟩
 dsimp only
 refine hK.out _ _ ?_
 clear hK K
 have s2' := below_then s1' hb2
 have H1 : Kp (fun V => NatR V u1 e1 (limbs N1)) w0.heap.size w1.heap.size w2 := (Kp.made hV1).call hb2
 have H2 : Kp (fun V => NatR V v1 f1 (limbs M1)) w0.heap.size w1.heap.size w2 := (Kp.made hV2).call hb2
 have H3 : Kp (fun V => NatR V u2 e2 (limbs N2)) w1.heap.size w2.heap.size w2 := Kp.made hV3
 have H4 : Kp (fun V => NatR V v2 f2 (limbs M2)) w1.heap.size w2.heap.size w2 := Kp.made hV4
 replace H1 := Lib.hid H1; replace H2 := Lib.hid H2; replace H3 := Lib.hid H3; replace H4 := Lib.hid H4
 replace hx := hx.below' s2'
 replace hy := hy.below' s2'
 replace hz := hz.below' s2'
 have hw2 := below_then hw0 s2'
 have hs1 := s1'.size
 have hs2 := hb2.size
 clear hV1 hV2 hV3 hV4 k0 k1 k2 k3 k4 k5 s0 C1 C2
 have k0 := hx.cell 0; have k1 := hx.cell 1; have k2 := hx.cell 2; have k3 := hy.cell 0; have k4 := hy.cell 1; have k5 := hy.cell 2
 have f0' := hx.frozen 0; have f1' := hx.frozen 1; have f2' := hx.frozen 2; have f3' := hy.frozen 0; have f4' := hy.frozen 1; have f5' := hy.frozen 2
 have hne : ¬ g2 = w.heap.size := by omega
 have hne2 : ¬ w.heap.size = g2 := by omega
 refine wpMix_t rfl rfl (fun K hK => ?_)
 go_simp
 refine hK.out _ _ ?_
 clear hK K
 refine wpMix_t rfl rfl (fun K hK => ?_)
 go_simp
 refine hK.out _ _ ?_
 clear hK K
 refine wpMix_nil ?_
 go_wp2
 refine world_gen (fun W => Blk W w.heap.size 43 #[.bool S1, .slice u1 (limbs N1).length e1, .slice v1 (limbs M1).length f1] ∧ Blk W g2 43 #[.bool S2, .slice u2 (limbs N2).length e2, .slice v2 (limbs M2).length f2] ∧ Blk W g3 43 #[.bool false, .slice none 0 0, .slice none 0 0] ∧ Below w.heap.size w W ∧ w2.heap.size ≤ W.heap.size ∧ NatR W u1 e1 (limbs N1) ∧ NatR W v1 f1 (limbs M1) ∧ NatR W u2 e2 (limbs N2) ∧ NatR W v2 f2 (limbs M2))
  ⟨by ((repeat first|with_reducible assumption|((with_reducible apply Blk.farAt);focus omega)|with_reducible apply Blk.setb|((with_reducible apply Blk.newAt);focus (simp;done))|with_reducible apply Blk.alloc|with_reducible apply Blk.drew);all_goals (show @Eq (Array Value) _ _;rfl)), by ((repeat first|with_reducible assumption|((with_reducible apply Blk.farAt);focus omega)|with_reducible apply Blk.setb|((with_reducible apply Blk.newAt);focus (simp;done))|with_reducible apply Blk.alloc|with_reducible apply Blk.drew);all_goals (show @Eq (Array Value) _ _;rfl)), by ((repeat first|with_reducible assumption|((with_reducible apply Blk.farAt);focus omega)|with_reducible apply Blk.setb|((with_reducible apply Blk.newAt);focus (simp;done))|with_reducible apply Blk.alloc|with_reducible apply Blk.drew);all_goals (show @Eq (Array Value) _ _;rfl)), by go_grown, by simp, Kp.now (R := fun V => NatR V u1 e1 (limbs N1)) (B := w0.heap.size) (T := w1.heap.size) (by (repeat (first | (with_reducible exact H1.out) | ((with_reducible refine Kp.setc ?_ ?_); (focus omega)) | (with_reducible refine Kp.alloc ?_) | (with_reducible refine Kp.drew ?_)))), Kp.now (R := fun V => NatR V v1 f1 (limbs M1)) (B := w0.heap.size) (T := w1.heap.size) (by (repeat (first | (with_reducible exact H2.out) | ((with_reducible refine Kp.setc ?_ ?_); (focus omega)) | (with_reducible refine Kp.alloc ?_) | (with_reducible refine Kp.drew ?_)))), Kp.now (R := fun V => NatR V u2 e2 (limbs N2)) (B := w1.heap.size) (T := w2.heap.size) (by (repeat (first | (with_reducible exact H3.out) | ((with_reducible refine Kp.setc ?_ ?_); (focus omega)) | (with_reducible refine Kp.alloc ?_) | (with_reducible refine Kp.drew ?_)))), Kp.now (R := fun V => NatR V v2 f2 (limbs M2)) (B := w1.heap.size) (T := w2.heap.size) (by (repeat (first | (with_reducible exact H4.out) | ((with_reducible refine Kp.setc ?_ ?_); (focus omega)) | (with_reducible refine Kp.alloc ?_) | (with_reducible refine Kp.drew ?_))))⟩ ?_
 clear hx hy hz k0 k1 k2 k3 k4 k5 f0' f1' f2' f3' f4' f5' H1 H2 H3 H4 hne hne2
 rintro w3 ⟨hx, hy, hz, hw3, hs3, q1, q2, q3, q4⟩
 replace q1 := Lib.hid q1; replace q2 := Lib.hid q2; replace q3 := Lib.hid q3; replace q4 := Lib.hid q4
 have W1 := fun W => whole_any (limbs M2).length v2 f2 W
 have W2 := fun W => whole_any (limbs M1).length v1 f1 W
 replace W1 := Lib.hid W1; replace W2 := Lib.hid W2
 clear hw0 s1' s2' hb1 hb2 hw2
 have k0 := held (hx.cell 0); have k1 := held (hx.cell 1); have k2 := held (hx.cell 2); have k3 := held (hy.cell 0); have k4 := held (hy.cell 1); have k5 := held (hy.cell 2)
 have s0 : Below w3.heap.size w3 w3.drew := (Below.refl _ _).drew
 refine wp_region_mix (S := Below w3.heap.size w3) [(0, .q), (1, .q), (2, .q), (3, .q), (6, .q), (7, .q), (8, .q), (9, .q), (13, .q), (14, .q), (15, .q), (16, .q), (4, .l), (5, .l), (10, .l), (11, .l), (12, .l), (17, .t), (18, .t), (19, .t)] (by kernel_rfl) (by kernel_rfl) (by kernel_rfl) (fun d _ _ _ _ h => by cases d <;> exact h) (s0) ?_
 iterate 12 (refine wpMix_q rfl rfl (fun K hK => ?_); apply Exists.intro; refine ⟨fun w' hw' => ?_, ?_⟩; (focus (go_simp; try rfl)); go_simp; refine hK _ _ ?_; clear hK K)
 refine wpMix_l rfl rfl (fun K hK => ?_)
 go_simp
 refine (W1.out _).mono ?_
 rintro r w4 ⟨rfl, hb4⟩
 dsimp only
 refine hK.out _ _ (below_then s0 hb4) (fun _ => ?_)
 clear hK K
 have t3 := below_then s0 hb4
 have CA := CZ1.out u1 v2 e1 f2 w4 (q1.out.ext (Ext.below t3)) (q4.out.ext (Ext.below t3))
 replace CA := Lib.hid CA
 refine wpMix_l rfl rfl (fun K hK => ?_)
 go_simp
 refine (CA.out).mono ?_
 rintro r w5 ⟨a5, c5, rfl, hV5, hb5⟩
 dsimp only
 refine hK.out _ _ (below_then t3 hb5) (fun _ => ?_)
 clear hK K
 have t4 := below_then t3 hb5
 have HV5 := Lib.hid hV5
 clear hV5
 refine wpMix_l rfl rfl (fun K hK => ?_)
 go_simp
 refine (W2.out _).mono ?_
 rintro r w6 ⟨rfl, hb6⟩
 dsimp only
 refine hK.out _ _ (below_then t4 hb6) (fun _ => ?_)
 clear hK K
 have t5 := below_then t4 hb6
 have CB := CZ2.out u2 v1 e2 f1 w6 (q3.out.ext (Ext.below t5)) (q2.out.ext (Ext.below t5))
 replace CB := Lib.hid CB
 refine wpMix_l rfl rfl (fun K hK => ?_)
 go_simp
 refine (CB.out).mono ?_
 rintro r w7 ⟨a7, c7, rfl, hV7, hb7⟩
 dsimp only
 refine hK.out _ _ (below_then t5 hb7) (fun _ => ?_)
 clear hK K
 have t6 := below_then t5 hb7
 have CD := CS.out a5 a7 c5 c7 w7 (HV5.out w7 (((New.refl _ _).below hb7).below hb6)) (hV7 w7 (New.refl _ _))
 replace CD := Lib.hid CD
 clear hV7
 refine wpMix_l rfl rfl (fun K hK => ?_)
 go_simp
 refine (CD.out).mono ?_
 rintro r w8 ⟨a9, c9, rfl, hV9, hb8⟩
 dsimp only
 refine hK.out _ _ (below_then t6 hb8) (fun _ => ?_)
 clear hK K
 have t6' := below_then t6 hb8
 have HV9 := Lib.hid hV9
 have CE := CN.out v1 v2 f1 f2 w8 (q2.out.ext (Ext.below t6')) (q4.out.ext (Ext.below t6'))
 replace CE := Lib.hid CE
 clear hV9
 refine wpMix_t rfl rfl (fun K hK => ?_)
 go_simp
 refine (CE.out).mono ?_
 rintro r w9 ⟨a10, c10, rfl, hV10, hb9⟩
 dsimp only
 refine hK.out _ _ ?_
 clear hK K
 have t7 := below_then t6' hb9
 have CG := CR.out a9 a10 c9 c10 w9 (HV9.out w9 ((New.refl _ _).below hb9)) (hV10 w9 (New.refl _ _))
 replace CG := Lib.hid CG
 clear hV10
 refine wpMix_t rfl rfl (fun K hK => ?_)
 go_simp
 refine (CG.out).mono ?_
 rintro r w10 ⟨a8, c8, b8, d8, rfl, hV1, hV2, hb10⟩
 dsimp only
 refine hK.out _ _ ?_
 clear hK K
 have t8 := below_then t7 hb10
 obtain ⟨hw0⟩ : Nonempty (Below w.heap.size w w3) := ⟨hw3⟩
 replace hz := hz.below' t8
 have hw8 := below_then hw0 t8
 have hwB := (below_then hw0 t7).size
 have hwG := t7.size
 have ltz := hz.lt
 have HV1 := Lib.hid hV1
 have HV2 := Lib.hid hV2
 clear hV1 hV2 k0 k1 k2 k3 k4 k5
 have z0 := hz.cell 0; have z1 := hz.cell 1; have z2 := hz.cell 2; have f0 := hz.frozen 0; have f1 := hz.frozen 1; have f2 := hz.frozen 2
 refine wpMix_t rfl rfl (fun K hK => ?_)
 go_simp
 refine hK.out _ _ ?_
 clear hK K
 refine wpMix_nil ?_
 go_wp2
 have hF := blk3 (x := .bool s) (y := .slice a8 (limbs N).length c8) (z := .slice b8 (limbs D).length d8) hz
 have e0 := hF.cell 0; have e1 := hF.cell 1; have e2 := hF.cell 2
 refine bodyPost_ret (v := .agg #[.bool s, .slice a8 (limbs N).length c8, .slice b8 (limbs D).length d8]) (by simp [results, Tryz.results205, go_sem, e0, e1, e2]) rfl ?_
 exact ⟨a8, c8, b8, d8, rfl, fun V hV => HV1.out V (back3 hV hwB (by omega)), fun V hV => HV2.out V (back3 hV hwB (by omega)), below3 hw8 (by omega)⟩
end Go.Proofs.YtaihkpjbnkgmlaaGreat

/- Walks: the program's rational numbers: sums and differences as rational numbers. -/
namespace Go.Proofs.YtaihkpjbnkgmlaaGreat
open Go.RowKit

theorem lowest_z (z : Int) (d : Nat) : lowest (decide (z < 0)) z.natAbs d = trip (mkRat z d) := by
 rw [lowest_qv]
 unfold qv
 rw [zval_self]
theorem qv_sum (s1 s2 : Bool) (P1 D1 P2 D2 : Nat) (hD1 : D1 ≠ 0) (hD2 : D2 ≠ 0) : mkRat (zval s1 (P1 * D2) + zval s2 (P2 * D1)) (D1 * D2) = qv s1 P1 D1 + qv s2 P2 D2 := by
 rw [zval_scale, zval_scale]
 exact qv_add s1 s2 P1 D1 P2 D2 hD1 hD2
theorem qadd_any (s1 s2 : Bool) (P1 D1 P2 D2 : Nat) (a1 b1 a2 b2 : Option Addr) (c1 d1 c2 d2 : Nat) (w : World) (r1 : NatR w a1 c1 (limbs P1)) (r2 : NatR w b1 d1 (limbs D1)) (r3 : NatR w a2 c2 (limbs P2)) (r4 : NatR w b2 d2 (limbs D2))
  (hD1 : D1 ≠ 0) (hD2 : D2 ≠ 0) (l1 : (limbs P1).length ≤ 400000) (l2 : (limbs D1).length ≤ 400000) (l3 : (limbs P2).length ≤ 400000) (l4 : (limbs D2).length ≤ 400000) : Calls Tryz.prog 225 #[.agg #[.bool s1, .slice a1 (limbs P1).length c1, .slice b1 (limbs D1).length d1], .agg #[.bool s2, .slice a2 (limbs P2).length c2, .slice b2 (limbs D2).length d2]] w (RetF (trip (qv s1 P1 D1 + qv s2 P2 D2)) w) := by
 rw [← qv_sum s1 s2 P1 D1 P2 D2 hD1 hD2, ← lowest_z]
 by_cases h : D1 = 1 ∧ D2 = 1
 ·
  have := qadd_ones s1 s2 P1 D1 P2 D2 a1 b1 a2 b2 c1 d1 c2 d2 w r1 r2 r3 r4 h.1 h.2 l1 l3
  obtain ⟨rfl, rfl⟩ := h
  simpa using this
 · exact qadd_cross s1 s2 P1 D1 P2 D2 a1 b1 a2 b2 c1 d1 c2 d2 w r1 r2 r3 r4 hD1 hD2 l1 l2 l3 l4 h
set_option maxRecDepth 100000 in
set_option maxHeartbeats 2000000 in
theorem qsub_any (s1 s2 : Bool) (P1 D1 P2 D2 : Nat) (a1 b1 a2 b2 : Option Addr) (c1 d1 c2 d2 : Nat) (w : World) (r1 : NatR w a1 c1 (limbs P1)) (r2 : NatR w b1 d1 (limbs D1)) (r3 : NatR w a2 c2 (limbs P2)) (r4 : NatR w b2 d2 (limbs D2))
  (hD1 : D1 ≠ 0) (hD2 : D2 ≠ 0) (l1 : (limbs P1).length ≤ 400000) (l2 : (limbs D1).length ≤ 400000) (l3 : (limbs P2).length ≤ 400000) (l4 : (limbs D2).length ≤ 400000) : Calls Tryz.prog 159 #[.agg #[.bool s1, .slice a1 (limbs P1).length c1, .slice b1 (limbs D1).length d1], .agg #[.bool s2, .slice a2 (limbs P2).length c2, .slice b2 (limbs D2).length d2]] w (RetF (trip (qv s1 P1 D1 - qv s2 P2 D2)) w) := by
 have CA := fun W (hW : Below w.heap.size w W) => qadd_any s1 (!s2) P1 D1 P2 D2 a1 b1 a2 b2 c1 d1 c2 d2 W (r1.ext (Ext.below hW)) (r2.ext (Ext.below hW)) (r3.ext (Ext.below hW)) (r4.ext (Ext.below hW)) hD1 hD2 l1 l2 l3 l4
 rw [qv_neg, ← Rat.sub_eq_add_neg] at CA
 obtain ⟨t, ht⟩ : ∃ t, trip (qv s1 P1 D1 - qv s2 P2 D2) = t := ⟨_, rfl⟩
 rw [ht] at CA ⊢
 obtain ⟨s, N, D⟩ := t
 unfold RetF at CA ⊢
 dsimp only at CA ⊢
 replace CA := Lib.hid CA
 clear r1 r2 r3 r4 ht hD1 hD2
 go_enter Tryz.func159, Tryz.ntmps159
 go_wp2_with fail
 refine calls_gen (fun W => Blk W (w.heap.size + 1 + 1) 43 #[.bool false, .slice none 0 0, .slice none 0 0] ∧ Below w.heap.size w W ∧ w.heap.size < w.heap.size + 1 + 1) ⟨blk_at2 w _ _ _ _, by go_grown, by omega⟩ ?_
 rintro w0 ⟨hz, hw0, hg3⟩
 revert hz hg3
 generalize w.heap.size + 1 + 1 = g3
 generalize w.heap.size + 1 = g2
 intro hz hg3
 have ltz := hz.lt
 have hwB := hw0.size
 refine (CA.out _ hw0).mono ?_
 rintro e w1 ⟨a8, c8, b8, d8, rfl, hV1, hV2, hb1⟩
 replace hz := hz.below' hb1
 have hw8 := below_then hw0 hb1
 have HV1 := Lib.hid hV1
 have HV2 := Lib.hid hV2
 clear hV1 hV2
 have z0 := hz.cell 0; have z1 := hz.cell 1; have z2 := hz.cell 2; have f0 := hz.frozen 0; have f1 := hz.frozen 1; have f2 := hz.frozen 2
 go_wp2
 have hF := blk3 (x := .bool s) (y := .slice a8 (limbs N).length c8) (z := .slice b8 (limbs D).length d8) hz
 have e0 := hF.cell 0; have e1 := hF.cell 1; have e2 := hF.cell 2
 refine bodyPost_ret (v := .agg #[.bool s, .slice a8 (limbs N).length c8, .slice b8 (limbs D).length d8]) (by simp [results, Tryz.results159, go_sem, e0, e1, e2]) rfl ?_
 exact ⟨a8, c8, b8, d8, rfl, fun V hV => HV1.out V (back3 hV hwB (by omega)), fun V hV => HV2.out V (back3 hV hwB (by omega)), below3 hw8 (by omega)⟩
end Go.Proofs.YtaihkpjbnkgmlaaGreat

/- Walks: the reference's rational numbers: sums and differences as rational numbers. -/
namespace Go.Proofs.YtaihkpjbnkgmlaaGreat
open Go.RowKit

theorem lowest_back {s S : Bool} {P D N M : Nat} (h : lowest s P D = (S, N, M)) : qv S N M = qv s P D ∧ M ≠ 0 := by
 have h1 := lowest_den_pos s P D
 rw [lowest_qv] at h
 have h2 := qv_trip (qv s P D)
 rw [h] at h2
 rw [lowest_qv, h] at h1
 exact ⟨h2, by dsimp only at h1; omega⟩
theorem qaddR_any (s1 s2 : Bool) (P1 D1 P2 D2 : Nat) (a1 b1 a2 b2 : Option Addr) (c1 d1 c2 d2 : Nat) (w : World) (r1 : NatR w a1 c1 (limbs P1)) (r2 : NatR w b1 d1 (limbs D1)) (r3 : NatR w a2 c2 (limbs P2)) (r4 : NatR w b2 d2 (limbs D2))
  (hD1 : D1 ≠ 0) (hD2 : D2 ≠ 0) (l1 : (limbs P1).length ≤ 400000) (l2 : (limbs D1).length ≤ 400000) (l3 : (limbs P2).length ≤ 400000) (l4 : (limbs D2).length ≤ 400000) : Calls Tryz.prog 205 #[.agg #[.bool s1, .slice a1 (limbs P1).length c1, .slice b1 (limbs D1).length d1], .agg #[.bool s2, .slice a2 (limbs P2).length c2, .slice b2 (limbs D2).length d2]] w (RetF (trip (qv s1 P1 D1 + qv s2 P2 D2)) w) := by
 obtain ⟨⟨S1, N1, M1⟩, h1⟩ : ∃ t, lowest s1 P1 D1 = t := ⟨_, rfl⟩
 obtain ⟨⟨S2, N2, M2⟩, h2⟩ : ∃ t, lowest s2 P2 D2 = t := ⟨_, rfl⟩
 obtain ⟨e1, n1⟩ := lowest_back h1
 obtain ⟨e2, n2⟩ := lowest_back h2
 rw [← e1, ← e2, ← qv_sum S1 S2 N1 M1 N2 M2 n1 n2, ← lowest_z]
 exact qaddR_low s1 s2 P1 D1 P2 D2 a1 b1 a2 b2 c1 d1 c2 d2 w r1 r2 r3 r4 S1 S2 N1 M1 N2 M2 h1 h2 hD1 hD2 l1 l2 l3 l4
set_option maxRecDepth 100000 in
set_option maxHeartbeats 2000000 in
theorem qsubR_any (s1 s2 : Bool) (P1 D1 P2 D2 : Nat) (a1 b1 a2 b2 : Option Addr) (c1 d1 c2 d2 : Nat) (w : World) (r1 : NatR w a1 c1 (limbs P1)) (r2 : NatR w b1 d1 (limbs D1)) (r3 : NatR w a2 c2 (limbs P2)) (r4 : NatR w b2 d2 (limbs D2))
  (hD1 : D1 ≠ 0) (hD2 : D2 ≠ 0) (l1 : (limbs P1).length ≤ 400000) (l2 : (limbs D1).length ≤ 400000) (l3 : (limbs P2).length ≤ 399999) (l4 : (limbs D2).length ≤ 399999) :
  Calls Tryz.prog 168 #[.agg #[.bool s1, .slice a1 (limbs P1).length c1, .slice b1 (limbs D1).length d1], .agg #[.bool s2, .slice a2 (limbs P2).length c2, .slice b2 (limbs D2).length d2]] w (RetF (trip (qv s1 P1 D1 - qv s2 P2 D2)) w) := by
 have r3' := limbs_len_mono (lowest_num (!s2) P2 D2)
 have r4' := limbs_len_mono (lowest_den (!s2) P2 D2)
 have t4 := limbs_len_succ D2
 have CN := fun W (hW : Below w.heap.size w W) => qnegR_any s2 (limbs P2) (limbs D2) P2 D2 a2 b2 c2 d2 W (r3.ext (Ext.below hW)) (r4.ext (Ext.below hW)) (val_limbs _) (val_limbs _) (by omega) (by omega)
 obtain ⟨⟨S2, N2, M2⟩, h2⟩ : ∃ t, lowest (!s2) P2 D2 = t := ⟨_, rfl⟩
 obtain ⟨e2, n2⟩ := lowest_back h2
 rw [h2] at CN r3' r4'
 dsimp only at r3' r4'
 have CA := fun a b c d W (hW : Below w.heap.size w W) h h' => qaddR_any s1 S2 P1 D1 N2 M2 a1 b1 a b c1 d1 c d W (r1.ext (Ext.below hW)) (r2.ext (Ext.below hW)) h h' hD1 n2 l1 l2 (by omega) (by omega)
 rw [e2, qv_neg, ← Rat.sub_eq_add_neg] at CA
 obtain ⟨t, ht⟩ : ∃ t, trip (qv s1 P1 D1 - qv s2 P2 D2) = t := ⟨_, rfl⟩
 rw [ht] at CA ⊢
 obtain ⟨s, N, D⟩ := t
 unfold RetF at CA CN ⊢
 dsimp only at CA CN ⊢
 replace CA := Lib.hid CA; replace CN := Lib.hid CN
 clear r1 r2 r3 r4 ht hD1 hD2 h2 e2 n2 r3' r4' t4
 go_enter Tryz.func168, Tryz.ntmps168
 go_wp2
 refine world_gen (fun W => Blk W w.heap.size 43 #[.bool s1, .slice a1 (limbs P1).length c1, .slice b1 (limbs D1).length d1] ∧ Blk W (w.heap.size + 1) 43 #[.bool s2, .slice a2 (limbs P2).length c2, .slice b2 (limbs D2).length d2] ∧ Blk W (w.heap.size + 1 + 1) 43 #[.bool false, .slice none 0 0, .slice none 0 0] ∧ Below w.heap.size w W ∧ w.heap.size < w.heap.size + 1 + 1) ⟨((Blk.new w _ _).alloc _).alloc _, (blk_at1 w _ _ _).alloc _, blk_at2 w _ _ _ _, by go_grown, by omega⟩ ?_
 rintro w0 ⟨hx, hy, hz, hw0, hg3⟩
 revert hx hy hz hg3
 generalize w.heap.size + 1 + 1 = g3
 generalize w.heap.size + 1 = g2
 intro hx hy hz hg3
 have k0 := held (hx.cell 0); have k1 := held (hx.cell 1); have k2 := held (hx.cell 2); have k3 := held (hy.cell 0); have k4 := held (hy.cell 1); have k5 := held (hy.cell 2)
 have s0 : Below w0.heap.size w0 w0.drew := (Below.refl _ _).drew
 refine wp_region_mix (S := Below w0.heap.size w0) [(0, .q), (1, .q), (2, .l), (3, .t), (4, .t)] (by kernel_rfl) (by kernel_rfl) (by kernel_rfl) (fun d _ _ _ _ h => by cases d <;> exact h) (s0) ?_
 iterate 2 (refine wpMix_q rfl rfl (fun K hK => ?_); apply Exists.intro; refine ⟨fun w' hw' => ?_, ?_⟩; (focus (go_simp; try rfl)); go_simp; refine hK _ _ ?_; clear hK K)
 refine wpMix_l rfl rfl (fun K hK => ?_)
 go_simp
 refine (CN.out _ (below_then hw0 s0)).mono ?_
 rintro r w1 ⟨a5, c5, b5, d5, rfl, hV5, hV6, hb1⟩
 dsimp only
 refine hK.out _ _ (below_then s0 hb1) (fun _ => ?_)
 clear hK K
 have t7 := below_then s0 hb1
 have CG := CA.out a5 b5 c5 d5 w1 (below_then hw0 t7) (hV5 w1 (New.refl _ _)) (hV6 w1 (New.refl _ _))
 replace CG := Lib.hid CG
 clear hV5 hV6
 refine wpMix_t rfl rfl (fun K hK => ?_)
 go_simp
 refine (CG.out).mono ?_
 rintro r w3 ⟨a8, c8, b8, d8, rfl, hV1, hV2, hb3⟩
 dsimp only
 refine hK.out _ _ ?_
 clear hK K
 have t8 := below_then t7 hb3
 have ltz := hz.lt
 have hwG := t7.size
 replace hz := hz.below' t8
 have hw8 := below_then hw0 t8
 have hwB := (below_then hw0 t7).size
 have HV1 := Lib.hid hV1
 have HV2 := Lib.hid hV2
 clear hV1 hV2 k0 k1 k2 k3 k4 k5
 have z0 := hz.cell 0; have z1 := hz.cell 1; have z2 := hz.cell 2; have f0 := hz.frozen 0; have f1 := hz.frozen 1; have f2 := hz.frozen 2
 refine wpMix_t rfl rfl (fun K hK => ?_)
 go_simp
 refine hK.out _ _ ?_
 clear hK K
 refine wpMix_nil ?_
 go_wp2
 have hF := blk3 (x := .bool s) (y := .slice a8 (limbs N).length c8) (z := .slice b8 (limbs D).length d8) hz
 have e0 := hF.cell 0; have e1 := hF.cell 1; have e2 := hF.cell 2
 refine bodyPost_ret (v := .agg #[.bool s, .slice a8 (limbs N).length c8, .slice b8 (limbs D).length d8]) (by simp [results, Tryz.results168, go_sem, e0, e1, e2]) rfl ?_
 exact ⟨a8, c8, b8, d8, rfl, fun V hV => HV1.out V (back3 hV hwB (by omega)), fun V hV => HV2.out V (back3 hV hwB (by omega)), below3 hw8 (by omega)⟩
end Go.Proofs.YtaihkpjbnkgmlaaGreat

/- Rational numbers in their valid form, as handles: the contracts of both sides. -/
namespace Go.Proofs.YtaihkpjbnkgmlaaGreat
open Go.RowKit

/-- x is the valid form of q, of at most k limbs above and below the line -/
def QK (k : Nat) (w : World) (x : QA) (q : Rat) : Prop := QAc w x q ∧ qsz q ≤ k
theorem QK.ext {k : Nat} {w w' : World} {x : QA} {q : Rat} (h : QK k w x q) (e : Ext w w') : QK k w' x q := ⟨h.1.ext e, h.2⟩
theorem QK.more {k k' : Nat} {w : World} {x : QA} {q : Rat} (h : QK k w x q) (e : k ≤ k') : QK k' w x q := ⟨h.1, Nat.le_trans h.2 e⟩
/-- what a call gives that makes the rational number q -/
def RetQK (k : Nat) (q : Rat) (w : World) (e : Ending) (w' : World) : Prop := ∃ x : QA, e = .returned (.agg #[.bool x.neg, .slice x.a x.n x.c, .slice x.b x.m x.d]) ∧ Kp (fun V => QK k V x q) w.heap.size w'.heap.size w' ∧ Below w.heap.size w w'
theorem retF_q {k : Nat} {q : Rat} {w : World} {e : Ending} {w' : World} (hk : qsz q ≤ k) (h : RetF (trip q) w e w') : RetQK k q w e w' := by
 obtain ⟨na, nc, da, dc, rfl, h1, h2, hb⟩ := h
 exact ⟨⟨decide (q.num < 0), (limbs q.num.natAbs).length, na, nc, (limbs q.den).length, da, dc⟩, rfl, Kp.made fun V hV => ⟨⟨rfl, rfl, rfl, h1 V hV, h2 V hV⟩, hk⟩, hb⟩
theorem cmp_q (x y : QA) (p q : Rat) (k1 k2 : Nat) (w : World) (H1 : QK k1 w x p) (H2 : QK k2 w y q) (h1 : k1 ≤ 100000) (h2 : k2 ≤ 100000) : Calls Tryz.prog 81 #[.agg #[.bool x.neg, .slice x.a x.n x.c, .slice x.b x.m x.d], .agg #[.bool y.neg, .slice y.a y.n y.c, .slice y.b y.m y.d]] w fun e w' => e = .returned (.int .i64 (cmpQ p q)) ∧ Below w.heap.size w w' := by
 obtain ⟨s1, n1, a1, c1, m1, b1, d1⟩ := x
 obtain ⟨s2, n2, a2, c2, m2, b2, d2⟩ := y
 obtain ⟨⟨e1, e2, e3, r1, r2⟩, z1⟩ := H1
 obtain ⟨⟨e4, e5, e6, r3, r4⟩, z2⟩ := H2
 dsimp only at e1 e2 e3 e4 e5 e6 r1 r2 r3 r4 ⊢
 subst e1 e2 e3 e4 e5 e6
 have l1 := qsz_num p
 have l2 := qsz_den p
 have l3 := qsz_num q
 have l4 := qsz_den q
 have := qcmp_any (decide (p.num < 0)) (decide (q.num < 0)) p.num.natAbs p.den q.num.natAbs q.den a1 b1 a2 b2 c1 d1 c2 d2 w r1 r2 r3 r4 p.den_nz q.den_nz (by omega) (by omega) (by omega) (by omega)
 rwa [qv_parts, qv_parts] at this
theorem cmpR_q (x y : QA) (p q : Rat) (k1 k2 : Nat) (w : World) (H1 : QK k1 w x p) (H2 : QK k2 w y q) (h1 : k1 ≤ 100000) (h2 : k2 ≤ 100000) : Calls Tryz.prog 47 #[.agg #[.bool x.neg, .slice x.a x.n x.c, .slice x.b x.m x.d], .agg #[.bool y.neg, .slice y.a y.n y.c, .slice y.b y.m y.d]] w fun e w' => e = .returned (.int .i64 (cmpQ p q)) ∧ Below w.heap.size w w' := by
 obtain ⟨s1, n1, a1, c1, m1, b1, d1⟩ := x
 obtain ⟨s2, n2, a2, c2, m2, b2, d2⟩ := y
 obtain ⟨⟨e1, e2, e3, r1, r2⟩, z1⟩ := H1
 obtain ⟨⟨e4, e5, e6, r3, r4⟩, z2⟩ := H2
 dsimp only at e1 e2 e3 e4 e5 e6 r1 r2 r3 r4 ⊢
 subst e1 e2 e3 e4 e5 e6
 have l1 := qsz_num p
 have l2 := qsz_den p
 have l3 := qsz_num q
 have l4 := qsz_den q
 have := qcmpR_any (decide (p.num < 0)) (decide (q.num < 0)) (limbs p.num.natAbs) (limbs p.den) (limbs q.num.natAbs) (limbs q.den) p.num.natAbs p.den q.num.natAbs q.den a1 b1 a2 b2 c1 d1 c2 d2 w r1 r2 r3 r4 (val_limbs _) (val_limbs _) (val_limbs _) (val_limbs _) (by omega) (by omega) (by omega) (by omega)
 rwa [crossed_lowest, qv_parts, qv_parts] at this
theorem add_q (x y : QA) (p q : Rat) (k1 k2 : Nat) (w : World) (H1 : QK k1 w x p) (H2 : QK k2 w y q) (h1 : k1 ≤ 100000) (h2 : k2 ≤ 100000) : Calls Tryz.prog 225 #[.agg #[.bool x.neg, .slice x.a x.n x.c, .slice x.b x.m x.d], .agg #[.bool y.neg, .slice y.a y.n y.c, .slice y.b y.m y.d]] w (RetQK (k1 + k2 + 1) (p + q) w) := by
 have hs := qsz_add p q
 have g1 := H1.2
 have g2 := H2.2
 obtain ⟨s1, n1, a1, c1, m1, b1, d1⟩ := x
 obtain ⟨s2, n2, a2, c2, m2, b2, d2⟩ := y
 obtain ⟨⟨e1, e2, e3, r1, r2⟩, z1⟩ := H1
 obtain ⟨⟨e4, e5, e6, r3, r4⟩, z2⟩ := H2
 dsimp only at e1 e2 e3 e4 e5 e6 r1 r2 r3 r4 ⊢
 subst e1 e2 e3 e4 e5 e6
 have l1 := qsz_num p
 have l2 := qsz_den p
 have l3 := qsz_num q
 have l4 := qsz_den q
 have := qadd_any (decide (p.num < 0)) (decide (q.num < 0)) p.num.natAbs p.den q.num.natAbs q.den a1 b1 a2 b2 c1 d1 c2 d2 w r1 r2 r3 r4 p.den_nz q.den_nz (by omega) (by omega) (by omega) (by omega)
 rw [qv_parts, qv_parts] at this
 exact this.mono fun _ _ h => retF_q (by omega) h
theorem sub_q (x y : QA) (p q : Rat) (k1 k2 : Nat) (w : World) (H1 : QK k1 w x p) (H2 : QK k2 w y q) (h1 : k1 ≤ 100000) (h2 : k2 ≤ 100000) : Calls Tryz.prog 159 #[.agg #[.bool x.neg, .slice x.a x.n x.c, .slice x.b x.m x.d], .agg #[.bool y.neg, .slice y.a y.n y.c, .slice y.b y.m y.d]] w (RetQK (k1 + k2 + 1) (p - q) w) := by
 have hs := qsz_sub p q
 have g1 := H1.2
 have g2 := H2.2
 obtain ⟨s1, n1, a1, c1, m1, b1, d1⟩ := x
 obtain ⟨s2, n2, a2, c2, m2, b2, d2⟩ := y
 obtain ⟨⟨e1, e2, e3, r1, r2⟩, z1⟩ := H1
 obtain ⟨⟨e4, e5, e6, r3, r4⟩, z2⟩ := H2
 dsimp only at e1 e2 e3 e4 e5 e6 r1 r2 r3 r4 ⊢
 subst e1 e2 e3 e4 e5 e6
 have l1 := qsz_num p
 have l2 := qsz_den p
 have l3 := qsz_num q
 have l4 := qsz_den q
 have := qsub_any (decide (p.num < 0)) (decide (q.num < 0)) p.num.natAbs p.den q.num.natAbs q.den a1 b1 a2 b2 c1 d1 c2 d2 w r1 r2 r3 r4 p.den_nz q.den_nz (by omega) (by omega) (by omega) (by omega)
 rw [qv_parts, qv_parts] at this
 exact this.mono fun _ _ h => retF_q (by omega) h
theorem subR_q (x y : QA) (p q : Rat) (k1 k2 : Nat) (w : World) (H1 : QK k1 w x p) (H2 : QK k2 w y q) (h1 : k1 ≤ 100000) (h2 : k2 ≤ 100000) : Calls Tryz.prog 168 #[.agg #[.bool x.neg, .slice x.a x.n x.c, .slice x.b x.m x.d], .agg #[.bool y.neg, .slice y.a y.n y.c, .slice y.b y.m y.d]] w (RetQK (k1 + k2 + 1) (p - q) w) := by
 have hs := qsz_sub p q
 have g1 := H1.2
 have g2 := H2.2
 obtain ⟨s1, n1, a1, c1, m1, b1, d1⟩ := x
 obtain ⟨s2, n2, a2, c2, m2, b2, d2⟩ := y
 obtain ⟨⟨e1, e2, e3, r1, r2⟩, z1⟩ := H1
 obtain ⟨⟨e4, e5, e6, r3, r4⟩, z2⟩ := H2
 dsimp only at e1 e2 e3 e4 e5 e6 r1 r2 r3 r4 ⊢
 subst e1 e2 e3 e4 e5 e6
 have l1 := qsz_num p
 have l2 := qsz_den p
 have l3 := qsz_num q
 have l4 := qsz_den q
 have := qsubR_any (decide (p.num < 0)) (decide (q.num < 0)) p.num.natAbs p.den q.num.natAbs q.den a1 b1 a2 b2 c1 d1 c2 d2 w r1 r2 r3 r4 p.den_nz q.den_nz (by omega) (by omega) (by omega) (by omega)
 rw [qv_parts, qv_parts] at this
 exact this.mono fun _ _ h => retF_q (by omega) h
theorem addR_q (x y : QA) (p q : Rat) (k1 k2 : Nat) (w : World) (H1 : QK k1 w x p) (H2 : QK k2 w y q) (h1 : k1 ≤ 100000) (h2 : k2 ≤ 100000) : Calls Tryz.prog 205 #[.agg #[.bool x.neg, .slice x.a x.n x.c, .slice x.b x.m x.d], .agg #[.bool y.neg, .slice y.a y.n y.c, .slice y.b y.m y.d]] w (RetQK (k1 + k2 + 1) (p + q) w) := by
 have hs := qsz_add p q
 have g1 := H1.2
 have g2 := H2.2
 obtain ⟨s1, n1, a1, c1, m1, b1, d1⟩ := x
 obtain ⟨s2, n2, a2, c2, m2, b2, d2⟩ := y
 obtain ⟨⟨e1, e2, e3, r1, r2⟩, z1⟩ := H1
 obtain ⟨⟨e4, e5, e6, r3, r4⟩, z2⟩ := H2
 dsimp only at e1 e2 e3 e4 e5 e6 r1 r2 r3 r4 ⊢
 subst e1 e2 e3 e4 e5 e6
 have l1 := qsz_num p
 have l2 := qsz_den p
 have l3 := qsz_num q
 have l4 := qsz_den q
 have := qaddR_any (decide (p.num < 0)) (decide (q.num < 0)) p.num.natAbs p.den q.num.natAbs q.den a1 b1 a2 b2 c1 d1 c2 d2 w r1 r2 r3 r4 p.den_nz q.den_nz (by omega) (by omega) (by omega) (by omega)
 rw [qv_parts, qv_parts] at this
 exact this.mono fun _ _ h => retF_q (by omega) h
theorem mul_q (x y : QA) (p q : Rat) (k1 k2 : Nat) (w : World) (H1 : QK k1 w x p) (H2 : QK k2 w y q) (h1 : k1 ≤ 100000) (h2 : k2 ≤ 100000) : Calls Tryz.prog 162 #[.agg #[.bool x.neg, .slice x.a x.n x.c, .slice x.b x.m x.d], .agg #[.bool y.neg, .slice y.a y.n y.c, .slice y.b y.m y.d]] w (RetQK (k1 + k2) (p * q) w) := by
 have hs := qsz_mul p q
 have g1 := H1.2
 have g2 := H2.2
 obtain ⟨s1, n1, a1, c1, m1, b1, d1⟩ := x
 obtain ⟨s2, n2, a2, c2, m2, b2, d2⟩ := y
 obtain ⟨⟨e1, e2, e3, r1, r2⟩, z1⟩ := H1
 obtain ⟨⟨e4, e5, e6, r3, r4⟩, z2⟩ := H2
 dsimp only at e1 e2 e3 e4 e5 e6 r1 r2 r3 r4 ⊢
 subst e1 e2 e3 e4 e5 e6
 have l1 := qsz_num p
 have l2 := qsz_den p
 have l3 := qsz_num q
 have l4 := qsz_den q
 have := qmul_any (decide (p.num < 0)) (decide (q.num < 0)) p.num.natAbs p.den q.num.natAbs q.den a1 b1 a2 b2 c1 d1 c2 d2 w r1 r2 r3 r4 p.den_nz q.den_nz (by omega) (by omega) (by omega) (by omega)
 rw [lowest_qv, qv_mul, qv_parts, qv_parts] at this
 exact this.mono fun _ _ h => retF_q (by omega) h
theorem mulR_q (x y : QA) (p q : Rat) (k1 k2 : Nat) (w : World) (H1 : QK k1 w x p) (H2 : QK k2 w y q) (h1 : k1 ≤ 100000) (h2 : k2 ≤ 100000) : Calls Tryz.prog 171 #[.agg #[.bool x.neg, .slice x.a x.n x.c, .slice x.b x.m x.d], .agg #[.bool y.neg, .slice y.a y.n y.c, .slice y.b y.m y.d]] w (RetQK (k1 + k2) (p * q) w) := by
 have hs := qsz_mul p q
 have g1 := H1.2
 have g2 := H2.2
 obtain ⟨s1, n1, a1, c1, m1, b1, d1⟩ := x
 obtain ⟨s2, n2, a2, c2, m2, b2, d2⟩ := y
 obtain ⟨⟨e1, e2, e3, r1, r2⟩, z1⟩ := H1
 obtain ⟨⟨e4, e5, e6, r3, r4⟩, z2⟩ := H2
 dsimp only at e1 e2 e3 e4 e5 e6 r1 r2 r3 r4 ⊢
 subst e1 e2 e3 e4 e5 e6
 have l1 := qsz_num p
 have l2 := qsz_den p
 have l3 := qsz_num q
 have l4 := qsz_den q
 have := qmulR_any (decide (p.num < 0)) (decide (q.num < 0)) p.num.natAbs p.den q.num.natAbs q.den a1 b1 a2 b2 c1 d1 c2 d2 w r1 r2 r3 r4 p.den_nz q.den_nz (by omega) (by omega) (by omega) (by omega)
 rw [lowest_qv, qv_mul, qv_parts, qv_parts] at this
 exact this.mono fun _ _ h => retF_q (by omega) h
end Go.Proofs.YtaihkpjbnkgmlaaGreat
