/- A candidate's values and branches: how they lie in memory. No walk. -/
import Derived.Test.YtdnblkklgdnapaaGreatRc13
import Derived.Test.YtdnblkklgdnapaaGreatRc12
import Derived.Test.YtdnblkklgdnapaaGreatRc3
import Derived.Test.YtdnblkklgdnapaaGreatRc10
import Derived.Test.YtdnblkklgdnapaaGreatRc1
import Derived.Test.YtdnblkklgdnapaaGreatRows
import Derived.Deep.QuietTactic
import Derived.BigQuiet
import Derived.Deep.Upon
import Derived.Test.YtdnblkklgdnapaaGreatRc11
set_option linter.all false
set_option maxRecDepth 100000
set_option maxHeartbeats 4000000
namespace Go.Proofs.YtdnblkklgdnapaaGreat
open Go.RowKit
theorem qmulR_any (s1 s2 : Bool) (P1 D1 P2 D2 : Nat) (a1 b1 a2 b2 : Option Addr) (c1 d1 c2 d2 : Nat) (w : World) (r1 : NatR w a1 c1 (limbs P1)) (r2 : NatR w b1 d1 (limbs D1)) (r3 : NatR w a2 c2 (limbs P2)) (r4 : NatR w b2 d2 (limbs D2))
  (hD1 : D1 ≠ 0) (hD2 : D2 ≠ 0) (l1 : (limbs P1).length <= 400000) (l2 : (limbs D1).length <= 400000) (l3 : (limbs P2).length <= 400000) (l4 : (limbs D2).length <= 400000) : Calls Tryz.prog 176 #[.agg #[.bool s1, .slice a1 (limbs P1).length c1, .slice b1 (limbs D1).length d1], .agg #[.bool s2, .slice a2 (limbs P2).length c2, .slice b2 (limbs D2).length d2]] w (RetF (lowest (s1 != s2) (P1 * P2) (D1 * D2)) w) := by
 have m1 := limbs_len_mul P1 P2
 have m2 := limbs_len_mul D1 D2
 have CZ := fun W (hW : Below w.heap.size w W) => zmulR_any s1 s2 (limbs P1) (limbs P2) P1 P2 a1 a2 c1 c2 W (r1.ext (xbw hW)) (r3.ext (xbw hW)) (val_limbs _) (val_limbs _) (by omega) (by omega)
 have CN := fun W (hW : Below w.heap.size w W) => mul01_any (limbs D1) (limbs D2) D1 D2 b1 b2 d1 d2 W (r2.ext (xbw hW)) (r4.ext (xbw hW)) (val_limbs _) (val_limbs _) (by omega) (by omega)
 have CR := fun a b c d W h h' => over_all ((s1 != s2) && decide (0 < P1 * P2)) (limbs (P1 * P2)) (limbs (D1 * D2)) (P1 * P2) (D1 * D2) a b c d W h h' (val_limbs _) (val_limbs _) (by omega) (by omega)
 rw [lowest_pos] at CR
 obtain ⟨R, hR⟩ : ∃ q, ((s1 != s2) && decide (0 < P1 * P2)) = q := ⟨_, rfl⟩
 rw [hR] at CZ CR
 obtain ⟨t, ht⟩ : ∃ t, lowest (s1 != s2) (P1 * P2) (D1 * D2) = t := ⟨_, rfl⟩
 rw [ht] at CR ⊢
 obtain ⟨s, N, D⟩ := t
 clear m1 m2 hR ht hD1 hD2
 revert CZ CN CR
 generalize P1 * P2 = PP
 generalize D1 * D2 = DD
 intro CN CZ CR
 unfold RetF at CR ⊢
 dsimp only at CR ⊢
 replace CZ := Hd CZ; replace CN := Hd CN; replace CR := Hd CR
 clear r1 r2 r3 r4
 go_enter Tryz.func176, Tryz.ntmps176
 go_wp2
 refine world_gen (fun W => Blk W w.heap.size 32 #[.bool s1, .slice a1 (limbs P1).length c1, .slice b1 (limbs D1).length d1] /\ Blk W (w.heap.size + 1) 32 #[.bool s2, .slice a2 (limbs P2).length c2, .slice b2 (limbs D2).length d2] /\ Blk W (w.heap.size + 1 + 1) 32 #[.bool false, .slice none 0 0, .slice none 0 0] /\ Below w.heap.size w W /\ w.heap.size < w.heap.size + 1 /\ w.heap.size + 1 < w.heap.size + 1 + 1 /\ w.heap.size + 1 + 1 < W.heap.size) ⟨((Blk.new w _ _).alloc _).alloc _, (blk_at1 w _ _ _).alloc _, blk_at2 w _ _ _ _, by go_grown, by omega, by omega, by simp⟩ ?_
 rintro w0 ⟨hx, hy, hz, hw0, hg1, hg2, hg3⟩
 revert hx hy hz hg1 hg2 hg3
 generalize w.heap.size + 1 + 1 = g3
 generalize w.heap.size + 1 = g2
 intro hx hy hz hg1 hg2 hg3
 have k0 := held (hx.cell 0); have k1 := held (hx.cell 1); have k2 := held (hx.cell 2); have k3 := held (hy.cell 0); have k4 := held (hy.cell 1); have k5 := held (hy.cell 2)
 have s0 : Below w0.heap.size w0 w0.drew := brf.drew
 refine wp_region_mix (S := Below w0.heap.size w0) [(0, .q), (1, .q), (2, .q), (3, .q), (5, .q), (6, .q), (7, .q), (8, .q), (4, .l), (9, .t), (10, .t), (11, .t)] (by kernel_rfl) (by kernel_rfl) (by kernel_rfl) (fun d _ _ _ _ h => by cases d <;> exact h) (s0) ?_
 iterate 8 (refine wpMix_q rfl rfl (fun K hK => ?_); apply Exists.intro; refine ⟨fun w' hw' => ?_, ?_⟩; (focus (go_simp; try rfl)); go_simp; refine hK _ _ ?_; clear hK K)
 refine wpMix_l rfl rfl (fun K hK => ?_)
 go_simp
 refine (CZ.out _ (bth hw0 s0)).mono ?_
 rintro r w1 ⟨a5, c5, rfl, hV5, hb1⟩
 dsimp only
 refine hK.out _ _ (bth s0 hb1) (fun _ => ?_)
 clear hK K
 have t6 := bth s0 hb1
 have hr5 := hV5 w1 (New.refl _ _)
 have HR5 := Hd hr5
 clear hr5 hV5
 refine wpMix_t rfl rfl (fun K hK => ?_)
 go_simp
 refine (CN.out _ (bth hw0 t6)).mono ?_
 rintro r w2 ⟨a6, c6, rfl, hV6, hb2⟩
 dsimp only
 refine hK.out _ _ ?_
 clear hK K
 have t7 := bth t6 hb2
 have CG := CR.out a5 a6 c5 c6 w2 (HR5.out.ext (xbw hb2)) (hV6 w2 (New.refl _ _))
 replace CG := Hd CG
 clear hV6
 refine wpMix_t rfl rfl (fun K hK => ?_)
 go_simp
 refine (CG.out).mono ?_
 rintro r w3 ⟨a8, c8, b8, d8, rfl, hV1, hV2, hb3⟩
 dsimp only
 refine hK.out _ _ ?_
 clear hK K
 have t8 := bth t7 hb3
 replace hz := hz.below' t8
 have hw8 := bth hw0 t8
 have hwB := (bth hw0 t7).size
 have hwG := t7.size
 have ltz := hz.lt
 have HV1 := Hd hV1
 have HV2 := Hd hV2
 clear hV1 hV2 k0 k1 k2 k3 k4 k5
 have z0 := hz.cell 0; have z1 := hz.cell 1; have z2 := hz.cell 2; have f0 := hz.frozen 0; have f1 := hz.frozen 1; have f2 := hz.frozen 2
 refine wpMix_t rfl rfl (fun K hK => ?_)
 go_simp
 refine hK.out _ _ ?_
 clear hK K
 refine wpMix_nil ?_
 go_wp2
 have hF := blk3 (x := .bool s) (y := .slice a8 (limbs N).length c8) (z := .slice b8 (limbs D).length d8) hz
 have e0 := hF.cell 0; have e1 := hF.cell 1; have e2 := hF.cell 2
 refine bodyPost_ret (v := .agg #[.bool s, .slice a8 (limbs N).length c8, .slice b8 (limbs D).length d8]) (by simp [results, Tryz.results176, go_sem, e0, e1, e2]) rfl ?_
 exact ⟨a8, c8, b8, d8, rfl, fun V hV => HV1.out V (back3 hV hwB (by omega)), fun V hV => HV2.out V (back3 hV hwB (by omega)), below3 hw8 (by omega)⟩
theorem qaddR_low (s1 s2 : Bool) (P1 D1 P2 D2 : Nat) (a1 b1 a2 b2 : Option Addr) (c1 d1 c2 d2 : Nat) (w : World) (r1 : NatR w a1 c1 (limbs P1)) (r2 : NatR w b1 d1 (limbs D1)) (r3 : NatR w a2 c2 (limbs P2)) (r4 : NatR w b2 d2 (limbs D2))
  (S1 S2 : Bool) (N1 M1 N2 M2 : Nat) (h1 : lowest s1 P1 D1 = (S1, N1, M1)) (h2 : lowest s2 P2 D2 = (S2, N2, M2)) (hD1 : D1 ≠ 0) (hD2 : D2 ≠ 0) (l1 : (limbs P1).length <= 400000) (l2 : (limbs D1).length <= 400000) (l3 : (limbs P2).length <= 400000) (l4 : (limbs D2).length <= 400000) :
  Calls Tryz.prog 167 #[.agg #[.bool s1, .slice a1 (limbs P1).length c1, .slice b1 (limbs D1).length d1], .agg #[.bool s2, .slice a2 (limbs P2).length c2, .slice b2 (limbs D2).length d2]] w (RetF (lowest (decide (zval S1 (N1 * M2) + zval S2 (N2 * M1) < 0)) (zval S1 (N1 * M2) + zval S2 (N2 * M1)).natAbs (M1 * M2)) w) := by
 have r1' := limbs_len_mono (lowest_num s1 P1 D1)
 have r2' := limbs_len_mono (lowest_den s1 P1 D1)
 have r3' := limbs_len_mono (lowest_num s2 P2 D2)
 have r4' := limbs_len_mono (lowest_den s2 P2 D2)
 have t2 := limbs_len_succ D1
 have t4 := limbs_len_succ D2
 have C1 := fun W (hW : Below w.heap.size w W) => qnormR_any s1 (limbs P1) (limbs D1) P1 D1 a1 b1 c1 d1 W (r1.ext (xbw hW)) (r2.ext (xbw hW)) (val_limbs _) (val_limbs _) (by omega) (by omega)
 have C2 := fun W (hW : Below w.heap.size w W) => qnormR_any s2 (limbs P2) (limbs D2) P2 D2 a2 b2 c2 d2 W (r3.ext (xbw hW)) (r4.ext (xbw hW)) (val_limbs _) (val_limbs _) (by omega) (by omega)
 rw [h1] at C1 r1' r2'
 rw [h2] at C2 r3' r4'
 unfold RetF at C1 C2
 dsimp only at C1 C2 r1' r2' r3' r4'
 have m1 := limbs_len_mul N1 M2
 have m2 := limbs_len_mul N2 M1
 have m3 := limbs_len_mul M1 M2
 have m4 := Nat.le_trans (limbs_len_mono (qsum_nat S1 S2 N1 M1 N2 M2)) (limbs_len_add _ _)
 have CZ1 := fun a1 a2 c1 c2 W g1 g2 => zmulR_any S1 false (limbs N1) (limbs M2) N1 M2 a1 a2 c1 c2 W g1 g2 (val_limbs _) (val_limbs _) (by omega) (by omega)
 have CZ2 := fun a1 a2 c1 c2 W g1 g2 => zmulR_any S2 false (limbs N2) (limbs M1) N2 M1 a1 a2 c1 c2 W g1 g2 (val_limbs _) (val_limbs _) (by omega) (by omega)
 have x1 : (S1 != false) = S1 := by cases S1 <;> rfl
 have x2 : (S2 != false) = S2 := by cases S2 <;> rfl
 simp only [x1] at CZ1
 simp only [x2] at CZ2
 have CS := fun a b c d W h h' => zaddR_any (S1 && decide (0 < N1 * M2)) (S2 && decide (0 < N2 * M1)) (limbs (N1 * M2)) (limbs (N2 * M1)) (N1 * M2) (N2 * M1) a b c d W h h' (val_limbs _) (val_limbs _) (by omega) (by omega)
 simp only [zval_pos] at CS
 have CN := fun a b c d W h h' => mul01_any (limbs M1) (limbs M2) M1 M2 a b c d W h h' (val_limbs _) (val_limbs _) (by omega) (by omega)
 revert CS m4
 generalize zval S1 (N1 * M2) + zval S2 (N2 * M1) = z
 intro m4 CS
 have CR := fun a b c d W h h' => over_all (decide (z < 0)) (limbs z.natAbs) (limbs (M1 * M2)) z.natAbs (M1 * M2) a b c d W h h' (val_limbs _) (val_limbs _) (by omega) (by omega)
 obtain ⟨t, ht⟩ : ∃ t, lowest (decide (z < 0)) z.natAbs (M1 * M2) = t := ⟨_, rfl⟩
 rw [ht] at CR ⊢
 obtain ⟨s, N, D⟩ := t
 unfold RetI RetZ at CS
 obtain ⟨R, hR⟩ : ∃ R, decide (z < 0) = R := ⟨_, rfl⟩
 rw [hR] at CR
 simp only [hR] at CS
 obtain ⟨p1, hp1⟩ : ∃ q, (S1 && decide (0 < N1 * M2)) = q := ⟨_, rfl⟩
 obtain ⟨p2, hp2⟩ : ∃ q, (S2 && decide (0 < N2 * M1)) = q := ⟨_, rfl⟩
 simp only [hp1] at CZ1 CS
 simp only [hp2] at CZ2 CS
 unfold RetF at CR ⊢
 dsimp only at CR ⊢
 clear ht hR hp1 hp2 x1 x2 m1 m2 m3 m4 r1' r2' r3' r4' t2 t4 h1 h2 hD1 hD2
 obtain ⟨PP, hPP⟩ : ∃ q, N1 * M2 = q := ⟨_, rfl⟩
 obtain ⟨DD, hDD⟩ : ∃ q, N2 * M1 = q := ⟨_, rfl⟩
 obtain ⟨MM, hMM⟩ : ∃ q, M1 * M2 = q := ⟨_, rfl⟩
 simp only [hPP] at CZ1 CS
 simp only [hDD] at CZ2 CS
 simp only [hMM] at CN CR
 clear hPP hDD hMM
 replace C1 := Hd C1; replace C2 := Hd C2; replace CZ1 := Hd CZ1; replace CZ2 := Hd CZ2; replace CS := Hd CS; replace CN := Hd CN; replace CR := Hd CR
 clear r1 r2 r3 r4
 go_enter Tryz.func167, Tryz.ntmps167
 go_wp2
 refine world_gen (fun W => Blk W w.heap.size 32 #[.bool s1, .slice a1 (limbs P1).length c1, .slice b1 (limbs D1).length d1] /\ Blk W (w.heap.size + 1) 32 #[.bool s2, .slice a2 (limbs P2).length c2, .slice b2 (limbs D2).length d2] /\ Blk W (w.heap.size + 1 + 1) 32 #[.bool false, .slice none 0 0, .slice none 0 0] /\ Below w.heap.size w W /\ w.heap.size < w.heap.size + 1 /\ w.heap.size + 1 < w.heap.size + 1 + 1 /\ w.heap.size + 1 + 1 < W.heap.size) ⟨((Blk.new w _ _).alloc _).alloc _, (blk_at1 w _ _ _).alloc _, blk_at2 w _ _ _ _, by go_grown, by omega, by omega, by simp⟩ ?_
 rintro w0 ⟨hx, hy, hz, hw0, hg1, hg2, hg3⟩
 revert hx hy hz hg1 hg2 hg3
 generalize w.heap.size + 1 + 1 = g3
 generalize w.heap.size + 1 = g2
 intro hx hy hz hg1 hg2 hg3
 have k0 := held (hx.cell 0); have k1 := held (hx.cell 1); have k2 := held (hx.cell 2); have k3 := held (hy.cell 0); have k4 := held (hy.cell 1); have k5 := held (hy.cell 2)
 have s0 : Below w0.heap.size w0 w0.drew := brf.drew
 refine wp_region_mix (S := Below w0.heap.size w0) [(0, .q), (2, .q), (1, .l), (3, .t), (4, .t), (5, .t)] (by kernel_rfl) (by kernel_rfl) (by kernel_rfl) (fun d _ _ _ _ h => by cases d <;> exact h) (s0) ?_
 iterate 2 (refine wpMix_q rfl rfl (fun K hK => ?_); apply Exists.intro; refine ⟨fun w' hw' => ?_, ?_⟩; (focus (go_simp; try rfl)); go_simp; refine hK _ _ ?_; clear hK K)
 refine wpMix_l rfl rfl (fun K hK => ?_)
 go_simp
 refine (C1.out _ (bth hw0 s0)).mono ?_
 rintro r w1 ⟨u1, e1, v1, f1, rfl, hV1, hV2, hb1⟩
 dsimp only
 refine hK.out _ _ (bth s0 hb1) (fun _ => ?_)
 clear hK K
 have s1' := bth s0 hb1
 refine wpMix_t rfl rfl (fun K hK => ?_)
 go_simp
 refine (C2.out _ (bth hw0 s1')).mono ?_
 rintro r w2 ⟨u2, e2, v2, f2, rfl, hV3, hV4, hb2⟩
 dsimp only
 refine hK.out _ _ ?_
 clear hK K
 have s2' := bth s1' hb2
 have H1 : Kp (fun V => NatR V u1 e1 (limbs N1)) w0.heap.size w1.heap.size w2 := (Kp.made hV1).call hb2
 have H2 : Kp (fun V => NatR V v1 f1 (limbs M1)) w0.heap.size w1.heap.size w2 := (Kp.made hV2).call hb2
 have H3 : Kp (fun V => NatR V u2 e2 (limbs N2)) w1.heap.size w2.heap.size w2 := Kp.made hV3
 have H4 : Kp (fun V => NatR V v2 f2 (limbs M2)) w1.heap.size w2.heap.size w2 := Kp.made hV4
 replace H1 := Hd H1; replace H2 := Hd H2; replace H3 := Hd H3; replace H4 := Hd H4
 replace hx := hx.below' s2'
 replace hy := hy.below' s2'
 replace hz := hz.below' s2'
 have hw2 := bth hw0 s2'
 have hs1 := s1'.size
 have hs2 := hb2.size
 clear hV1 hV2 hV3 hV4 k0 k1 k2 k3 k4 k5 s0 C1 C2
 have k0 := hx.cell 0; have k1 := hx.cell 1; have k2 := hx.cell 2; have k3 := hy.cell 0; have k4 := hy.cell 1; have k5 := hy.cell 2
 have f0' := hx.frozen 0; have f1' := hx.frozen 1; have f2' := hx.frozen 2; have f3' := hy.frozen 0; have f4' := hy.frozen 1; have f5' := hy.frozen 2
 have hne : ¬ g2 = w.heap.size := by omega
 have hne2 : ¬ w.heap.size = g2 := by omega
 refine wpMix_t rfl rfl (fun K hK => ?_)
 go_simp
 refine hK.out _ _ ?_
 clear hK K
 refine wpMix_t rfl rfl (fun K hK => ?_)
 go_simp
 refine hK.out _ _ ?_
 clear hK K
 refine wpMix_nil ?_
 go_wp2
 refine world_gen (fun W => Blk W w.heap.size 32 #[.bool S1, .slice u1 (limbs N1).length e1, .slice v1 (limbs M1).length f1] /\ Blk W g2 32 #[.bool S2, .slice u2 (limbs N2).length e2, .slice v2 (limbs M2).length f2] /\ Blk W g3 32 #[.bool false, .slice none 0 0, .slice none 0 0] /\ Below w.heap.size w W /\ w2.heap.size <= W.heap.size /\ NatR W u1 e1 (limbs N1) /\ NatR W v1 f1 (limbs M1) /\ NatR W u2 e2 (limbs N2) /\ NatR W v2 f2 (limbs M2))
  ⟨by ((with_reducible repeat first|assumption|(apply bF;focus omega)|apply bS|(apply bN;focus (simp;done))|apply bA|apply bD);all_goals rfl), by ((with_reducible repeat first|assumption|(apply bF;focus omega)|apply bS|(apply bN;focus (simp;done))|apply bA|apply bD);all_goals rfl), by ((with_reducible repeat first|assumption|(apply bF;focus omega)|apply bS|(apply bN;focus (simp;done))|apply bA|apply bD);all_goals rfl), by go_grown, by simp, Kp.now (R := fun V => NatR V u1 e1 (limbs N1)) (B := w0.heap.size) (T := w1.heap.size) (by (with_reducible repeat first | exact H1.out | (refine Kp.setc ?_ ?_; focus omega) | refine Kp.alloc ?_ | refine Kp.drew ?_)), Kp.now (R := fun V => NatR V v1 f1 (limbs M1)) (B := w0.heap.size) (T := w1.heap.size) (by (with_reducible repeat first | exact H2.out | (refine Kp.setc ?_ ?_; focus omega) | refine Kp.alloc ?_ | refine Kp.drew ?_)), Kp.now (R := fun V => NatR V u2 e2 (limbs N2)) (B := w1.heap.size) (T := w2.heap.size) (by (with_reducible repeat first | exact H3.out | (refine Kp.setc ?_ ?_; focus omega) | refine Kp.alloc ?_ | refine Kp.drew ?_)), Kp.now (R := fun V => NatR V v2 f2 (limbs M2)) (B := w1.heap.size) (T := w2.heap.size) (by (with_reducible repeat first | exact H4.out | (refine Kp.setc ?_ ?_; focus omega) | refine Kp.alloc ?_ | refine Kp.drew ?_))⟩ ?_
 clear hx hy hz k0 k1 k2 k3 k4 k5 f0' f1' f2' f3' f4' f5' H1 H2 H3 H4 hne hne2
 rintro w3 ⟨hx, hy, hz, hw3, hs3, q1, q2, q3, q4⟩
 replace q1 := Hd q1; replace q2 := Hd q2; replace q3 := Hd q3; replace q4 := Hd q4
 have W1 := fun W => whole_any (limbs M2).length v2 f2 W
 have W2 := fun W => whole_any (limbs M1).length v1 f1 W
 replace W1 := Hd W1; replace W2 := Hd W2
 clear hw0 s1' s2' hb1 hb2 hw2
 have k0 := held (hx.cell 0); have k1 := held (hx.cell 1); have k2 := held (hx.cell 2); have k3 := held (hy.cell 0); have k4 := held (hy.cell 1); have k5 := held (hy.cell 2)
 have s0 : Below w3.heap.size w3 w3.drew := brf.drew
 refine wp_region_mix (S := Below w3.heap.size w3) [(0, .q), (1, .q), (2, .q), (3, .q), (6, .q), (7, .q), (8, .q), (9, .q), (13, .q), (14, .q), (15, .q), (16, .q), (4, .l), (5, .l), (10, .l), (11, .l), (12, .l), (17, .t), (18, .t), (19, .t)] (by kernel_rfl) (by kernel_rfl) (by kernel_rfl) (fun d _ _ _ _ h => by cases d <;> exact h) (s0) ?_
 iterate 12 (refine wpMix_q rfl rfl (fun K hK => ?_); apply Exists.intro; refine ⟨fun w' hw' => ?_, ?_⟩; (focus (go_simp; try rfl)); go_simp; refine hK _ _ ?_; clear hK K)
 refine wpMix_l rfl rfl (fun K hK => ?_)
 go_simp
 refine (W1.out _).mono ?_
 rintro r w4 ⟨rfl, hb4⟩
 dsimp only
 refine hK.out _ _ (bth s0 hb4) (fun _ => ?_)
 clear hK K
 have t3 := bth s0 hb4
 have CA := CZ1.out u1 v2 e1 f2 w4 (q1.out.ext (xbw t3)) (q4.out.ext (xbw t3))
 replace CA := Hd CA
 refine wpMix_l rfl rfl (fun K hK => ?_)
 go_simp
 refine (CA.out).mono ?_
 rintro r w5 ⟨a5, c5, rfl, hV5, hb5⟩
 dsimp only
 refine hK.out _ _ (bth t3 hb5) (fun _ => ?_)
 clear hK K
 have t4 := bth t3 hb5
 have HV5 := Hd hV5
 clear hV5
 refine wpMix_l rfl rfl (fun K hK => ?_)
 go_simp
 refine (W2.out _).mono ?_
 rintro r w6 ⟨rfl, hb6⟩
 dsimp only
 refine hK.out _ _ (bth t4 hb6) (fun _ => ?_)
 clear hK K
 have t5 := bth t4 hb6
 have CB := CZ2.out u2 v1 e2 f1 w6 (q3.out.ext (xbw t5)) (q2.out.ext (xbw t5))
 replace CB := Hd CB
 refine wpMix_l rfl rfl (fun K hK => ?_)
 go_simp
 refine (CB.out).mono ?_
 rintro r w7 ⟨a7, c7, rfl, hV7, hb7⟩
 dsimp only
 refine hK.out _ _ (bth t5 hb7) (fun _ => ?_)
 clear hK K
 have t6 := bth t5 hb7
 have CD := CS.out a5 a7 c5 c7 w7 (HV5.out w7 (((New.refl _ _).below hb7).below hb6)) (hV7 w7 (New.refl _ _))
 replace CD := Hd CD
 clear hV7
 refine wpMix_l rfl rfl (fun K hK => ?_)
 go_simp
 refine (CD.out).mono ?_
 rintro r w8 ⟨a9, c9, rfl, hV9, hb8⟩
 dsimp only
 refine hK.out _ _ (bth t6 hb8) (fun _ => ?_)
 clear hK K
 have t6' := bth t6 hb8
 have HV9 := Hd hV9
 have CE := CN.out v1 v2 f1 f2 w8 (q2.out.ext (xbw t6')) (q4.out.ext (xbw t6'))
 replace CE := Hd CE
 clear hV9
 refine wpMix_t rfl rfl (fun K hK => ?_)
 go_simp
 refine (CE.out).mono ?_
 rintro r w9 ⟨a10, c10, rfl, hV10, hb9⟩
 dsimp only
 refine hK.out _ _ ?_
 clear hK K
 have t7 := bth t6' hb9
 have CG := CR.out a9 a10 c9 c10 w9 (HV9.out w9 ((New.refl _ _).below hb9)) (hV10 w9 (New.refl _ _))
 replace CG := Hd CG
 clear hV10
 refine wpMix_t rfl rfl (fun K hK => ?_)
 go_simp
 refine (CG.out).mono ?_
 rintro r w10 ⟨a8, c8, b8, d8, rfl, hV1, hV2, hb10⟩
 dsimp only
 refine hK.out _ _ ?_
 clear hK K
 have t8 := bth t7 hb10
 obtain ⟨hw0⟩ : Nonempty (Below w.heap.size w w3) := ⟨hw3⟩
 replace hz := hz.below' t8
 have hw8 := bth hw0 t8
 have hwB := (bth hw0 t7).size
 have hwG := t7.size
 have ltz := hz.lt
 have HV1 := Hd hV1
 have HV2 := Hd hV2
 clear hV1 hV2 k0 k1 k2 k3 k4 k5
 have z0 := hz.cell 0; have z1 := hz.cell 1; have z2 := hz.cell 2; have f0 := hz.frozen 0; have f1 := hz.frozen 1; have f2 := hz.frozen 2
 refine wpMix_t rfl rfl (fun K hK => ?_)
 go_simp
 refine hK.out _ _ ?_
 clear hK K
 refine wpMix_nil ?_
 go_wp2
 have hF := blk3 (x := .bool s) (y := .slice a8 (limbs N).length c8) (z := .slice b8 (limbs D).length d8) hz
 have e0 := hF.cell 0; have e1 := hF.cell 1; have e2 := hF.cell 2
 refine bodyPost_ret (v := .agg #[.bool s, .slice a8 (limbs N).length c8, .slice b8 (limbs D).length d8]) (by simp [results, Tryz.results167, go_sem, e0, e1, e2]) rfl ?_
 exact ⟨a8, c8, b8, d8, rfl, fun V hV => HV1.out V (back3 hV hwB (by omega)), fun V hV => HV2.out V (back3 hV hwB (by omega)), below3 hw8 (by omega)⟩
theorem lowest_z (z : Int) (d : Nat) : lowest (decide (z < 0)) z.natAbs d = trip (mkRat z d) := by
 rw [lowest_qv]
 unfold qv
 rw [zval_self]
theorem qv_sum (s1 s2 : Bool) (P1 D1 P2 D2 : Nat) (hD1 : D1 ≠ 0) (hD2 : D2 ≠ 0) : mkRat (zval s1 (P1 * D2) + zval s2 (P2 * D1)) (D1 * D2) = qv s1 P1 D1 + qv s2 P2 D2 := by
 rw [zval_scale, zval_scale]
 exact qv_add s1 s2 P1 D1 P2 D2 hD1 hD2
theorem qadd_any (s1 s2 : Bool) (P1 D1 P2 D2 : Nat) (a1 b1 a2 b2 : Option Addr) (c1 d1 c2 d2 : Nat) (w : World) (r1 : NatR w a1 c1 (limbs P1)) (r2 : NatR w b1 d1 (limbs D1)) (r3 : NatR w a2 c2 (limbs P2)) (r4 : NatR w b2 d2 (limbs D2))
  (hD1 : D1 ≠ 0) (hD2 : D2 ≠ 0) (l1 : (limbs P1).length <= 400000) (l2 : (limbs D1).length <= 400000) (l3 : (limbs P2).length <= 400000) (l4 : (limbs D2).length <= 400000) : Calls Tryz.prog 136 #[.agg #[.bool s1, .slice a1 (limbs P1).length c1, .slice b1 (limbs D1).length d1], .agg #[.bool s2, .slice a2 (limbs P2).length c2, .slice b2 (limbs D2).length d2]] w (RetF (trip (qv s1 P1 D1 + qv s2 P2 D2)) w) := by
 rw [<- qv_sum s1 s2 P1 D1 P2 D2 hD1 hD2, <- lowest_z]
 by_cases h : D1 = 1 /\ D2 = 1
 ·
  have := qadd_ones s1 s2 P1 D1 P2 D2 a1 b1 a2 b2 c1 d1 c2 d2 w r1 r2 r3 r4 h.1 h.2 l1 l3
  obtain ⟨rfl, rfl⟩ := h
  simpa using this
 · exact qadd_cross s1 s2 P1 D1 P2 D2 a1 b1 a2 b2 c1 d1 c2 d2 w r1 r2 r3 r4 hD1 hD2 l1 l2 l3 l4 h
theorem lowest_back {s S : Bool} {P D N M : Nat} (h : lowest s P D = (S, N, M)) : qv S N M = qv s P D /\ M ≠ 0 := by
 have h1 := lowest_den_pos s P D
 rw [lowest_qv] at h
 have h2 := qv_trip (qv s P D)
 rw [h] at h2
 rw [lowest_qv, h] at h1
 exact ⟨h2, by dsimp only at h1; omega⟩
theorem qaddR_any (s1 s2 : Bool) (P1 D1 P2 D2 : Nat) (a1 b1 a2 b2 : Option Addr) (c1 d1 c2 d2 : Nat) (w : World) (r1 : NatR w a1 c1 (limbs P1)) (r2 : NatR w b1 d1 (limbs D1)) (r3 : NatR w a2 c2 (limbs P2)) (r4 : NatR w b2 d2 (limbs D2))
  (hD1 : D1 ≠ 0) (hD2 : D2 ≠ 0) (l1 : (limbs P1).length <= 400000) (l2 : (limbs D1).length <= 400000) (l3 : (limbs P2).length <= 400000) (l4 : (limbs D2).length <= 400000) : Calls Tryz.prog 167 #[.agg #[.bool s1, .slice a1 (limbs P1).length c1, .slice b1 (limbs D1).length d1], .agg #[.bool s2, .slice a2 (limbs P2).length c2, .slice b2 (limbs D2).length d2]] w (RetF (trip (qv s1 P1 D1 + qv s2 P2 D2)) w) := by
 obtain ⟨⟨S1, N1, M1⟩, h1⟩ : ∃ t, lowest s1 P1 D1 = t := ⟨_, rfl⟩
 obtain ⟨⟨S2, N2, M2⟩, h2⟩ : ∃ t, lowest s2 P2 D2 = t := ⟨_, rfl⟩
 obtain ⟨e1, n1⟩ := lowest_back h1
 obtain ⟨e2, n2⟩ := lowest_back h2
 rw [<- e1, <- e2, <- qv_sum S1 S2 N1 M1 N2 M2 n1 n2, <- lowest_z]
 exact qaddR_low s1 s2 P1 D1 P2 D2 a1 b1 a2 b2 c1 d1 c2 d2 w r1 r2 r3 r4 S1 S2 N1 M1 N2 M2 h1 h2 hD1 hD2 l1 l2 l3 l4
def QK (k : Nat) (w : World) (x : QA) (q : Rat) : Prop := QAc w x q /\ qsz q <= k
theorem QK.ext {k : Nat} {w w' : World} {x : QA} {q : Rat} (h : QK k w x q) (e : Ext w w') : QK k w' x q := ⟨h.1.ext e, h.2⟩
def RetQK (k : Nat) (q : Rat) (w : World) (e : Ending) (w' : World) : Prop := ∃ x : QA, e = .returned (.agg #[.bool x.neg, .slice x.a x.n x.c, .slice x.b x.m x.d]) /\ Kp (fun V => QK k V x q) w.heap.size w'.heap.size w' /\ Below w.heap.size w w'
theorem retF_q {k : Nat} {q : Rat} {w : World} {e : Ending} {w' : World} (hk : qsz q <= k) (h : RetF (trip q) w e w') : RetQK k q w e w' := by
 obtain ⟨na, nc, da, dc, rfl, h1, h2, hb⟩ := h
 exact ⟨⟨decide (q.num < 0), (limbs q.num.natAbs).length, na, nc, (limbs q.den).length, da, dc⟩, rfl, Kp.made fun V hV => ⟨⟨rfl, rfl, rfl, h1 V hV, h2 V hV⟩, hk⟩, hb⟩
theorem add_q (x y : QA) (p q : Rat) (k1 k2 : Nat) (w : World) (H1 : QK k1 w x p) (H2 : QK k2 w y q) (h1 : k1 <= 100000) (h2 : k2 <= 100000) : Calls Tryz.prog 136 #[.agg #[.bool x.neg, .slice x.a x.n x.c, .slice x.b x.m x.d], .agg #[.bool y.neg, .slice y.a y.n y.c, .slice y.b y.m y.d]] w (RetQK (k1 + k2 + 1) (p + q) w) := by
 have hs := qsz_add p q
 have g1 := H1.2
 have g2 := H2.2
 obtain ⟨s1, n1, a1, c1, m1, b1, d1⟩ := x
 obtain ⟨s2, n2, a2, c2, m2, b2, d2⟩ := y
 obtain ⟨⟨e1, e2, e3, r1, r2⟩, z1⟩ := H1
 obtain ⟨⟨e4, e5, e6, r3, r4⟩, z2⟩ := H2
 dsimp only at e1 e2 e3 e4 e5 e6 r1 r2 r3 r4 ⊢
 subst e1 e2 e3 e4 e5 e6
 have l1 := qsz_num p
 have l2 := qsz_den p
 have l3 := qsz_num q
 have l4 := qsz_den q
 have := qadd_any (decide (p.num < 0)) (decide (q.num < 0)) p.num.natAbs p.den q.num.natAbs q.den a1 b1 a2 b2 c1 d1 c2 d2 w r1 r2 r3 r4 p.den_nz q.den_nz (by omega) (by omega) (by omega) (by omega)
 rw [qv_parts, qv_parts] at this
 exact this.mono fun _ _ h => retF_q (by omega) h
theorem addR_q (x y : QA) (p q : Rat) (k1 k2 : Nat) (w : World) (H1 : QK k1 w x p) (H2 : QK k2 w y q) (h1 : k1 <= 100000) (h2 : k2 <= 100000) : Calls Tryz.prog 167 #[.agg #[.bool x.neg, .slice x.a x.n x.c, .slice x.b x.m x.d], .agg #[.bool y.neg, .slice y.a y.n y.c, .slice y.b y.m y.d]] w (RetQK (k1 + k2 + 1) (p + q) w) := by
 have hs := qsz_add p q
 have g1 := H1.2
 have g2 := H2.2
 obtain ⟨s1, n1, a1, c1, m1, b1, d1⟩ := x
 obtain ⟨s2, n2, a2, c2, m2, b2, d2⟩ := y
 obtain ⟨⟨e1, e2, e3, r1, r2⟩, z1⟩ := H1
 obtain ⟨⟨e4, e5, e6, r3, r4⟩, z2⟩ := H2
 dsimp only at e1 e2 e3 e4 e5 e6 r1 r2 r3 r4 ⊢
 subst e1 e2 e3 e4 e5 e6
 have l1 := qsz_num p
 have l2 := qsz_den p
 have l3 := qsz_num q
 have l4 := qsz_den q
 have := qaddR_any (decide (p.num < 0)) (decide (q.num < 0)) p.num.natAbs p.den q.num.natAbs q.den a1 b1 a2 b2 c1 d1 c2 d2 w r1 r2 r3 r4 p.den_nz q.den_nz (by omega) (by omega) (by omega) (by omega)
 rw [qv_parts, qv_parts] at this
 exact this.mono fun _ _ h => retF_q (by omega) h
theorem mul_q (x y : QA) (p q : Rat) (k1 k2 : Nat) (w : World) (H1 : QK k1 w x p) (H2 : QK k2 w y q) (h1 : k1 <= 100000) (h2 : k2 <= 100000) : Calls Tryz.prog 137 #[.agg #[.bool x.neg, .slice x.a x.n x.c, .slice x.b x.m x.d], .agg #[.bool y.neg, .slice y.a y.n y.c, .slice y.b y.m y.d]] w (RetQK (k1 + k2) (p * q) w) := by
 have hs := qsz_mul p q
 have g1 := H1.2
 have g2 := H2.2
 obtain ⟨s1, n1, a1, c1, m1, b1, d1⟩ := x
 obtain ⟨s2, n2, a2, c2, m2, b2, d2⟩ := y
 obtain ⟨⟨e1, e2, e3, r1, r2⟩, z1⟩ := H1
 obtain ⟨⟨e4, e5, e6, r3, r4⟩, z2⟩ := H2
 dsimp only at e1 e2 e3 e4 e5 e6 r1 r2 r3 r4 ⊢
 subst e1 e2 e3 e4 e5 e6
 have l1 := qsz_num p
 have l2 := qsz_den p
 have l3 := qsz_num q
 have l4 := qsz_den q
 have := qmul_any (decide (p.num < 0)) (decide (q.num < 0)) p.num.natAbs p.den q.num.natAbs q.den a1 b1 a2 b2 c1 d1 c2 d2 w r1 r2 r3 r4 p.den_nz q.den_nz (by omega) (by omega) (by omega) (by omega)
 rw [lowest_qv, qv_mul, qv_parts, qv_parts] at this
 exact this.mono fun _ _ h => retF_q (by omega) h
theorem mulR_q (x y : QA) (p q : Rat) (k1 k2 : Nat) (w : World) (H1 : QK k1 w x p) (H2 : QK k2 w y q) (h1 : k1 <= 100000) (h2 : k2 <= 100000) : Calls Tryz.prog 176 #[.agg #[.bool x.neg, .slice x.a x.n x.c, .slice x.b x.m x.d], .agg #[.bool y.neg, .slice y.a y.n y.c, .slice y.b y.m y.d]] w (RetQK (k1 + k2) (p * q) w) := by
 have hs := qsz_mul p q
 have g1 := H1.2
 have g2 := H2.2
 obtain ⟨s1, n1, a1, c1, m1, b1, d1⟩ := x
 obtain ⟨s2, n2, a2, c2, m2, b2, d2⟩ := y
 obtain ⟨⟨e1, e2, e3, r1, r2⟩, z1⟩ := H1
 obtain ⟨⟨e4, e5, e6, r3, r4⟩, z2⟩ := H2
 dsimp only at e1 e2 e3 e4 e5 e6 r1 r2 r3 r4 ⊢
 subst e1 e2 e3 e4 e5 e6
 have l1 := qsz_num p
 have l2 := qsz_den p
 have l3 := qsz_num q
 have l4 := qsz_den q
 have := qmulR_any (decide (p.num < 0)) (decide (q.num < 0)) p.num.natAbs p.den q.num.natAbs q.den a1 b1 a2 b2 c1 d1 c2 d2 w r1 r2 r3 r4 p.den_nz q.den_nz (by omega) (by omega) (by omega) (by omega)
 rw [lowest_qv, qv_mul, qv_parts, qv_parts] at this
 exact this.mono fun _ _ h => retF_q (by omega) h
theorem qsignR_any (neg : Bool) (l m : List Int) (n : Nat) (a a' : Option Addr) (c c' : Nat) (w : World) (h : NatR w a c l) (h' : NatR w a' c' m) (hn : val l = n) (h0 : val m ≠ 0) (hl : l.length <= 2000000) (hm : m.length <= 2000000) :
  Calls Tryz.prog 168 #[.agg #[.bool neg, .slice a l.length c, .slice a' m.length c']] w fun e w' => e = .returned (.int .i64 (sgnZ neg n)) /\ Below w.heap.size w w' := by
 have CN := fun W (hW : Below w.heap.size w W) => qnormR_any neg l m n (val m) a a' c c' W (h.ext (xbw hW)) (h'.ext (xbw hW)) hn rfl hl hm
 have hs := lowest_sgn neg n (val m) h0
 have q1 := limbs_len_val h.u16
 rw [hn] at q1
 have r1 := limbs_len_mono (lowest_num neg n (val m))
 obtain ⟨t, ht⟩ : ∃ t, lowest neg n (val m) = t := ⟨_, rfl⟩
 rw [ht] at CN hs r1
 obtain ⟨s, N, D⟩ := t
 unfold RetF at CN
 dsimp only at CN hs r1
 have CS := fun b cb W (hV : NatR W b cb (limbs N)) => zsignR_any s (limbs N) N b cb W hV (val_limbs _) (by omega)
 rw [hs] at CS
 obtain ⟨R, hR⟩ : ∃ q, sgnZ neg n = q := ⟨_, rfl⟩
 rw [hR] at CS ⊢
 replace CN := Hd CN; replace CS := Hd CS
 have hz : Blk (w.alloc (.cells #[.bool neg, .slice a l.length c, .slice a' m.length c'] 32)) w.heap.size 32 #[.bool neg, .slice a l.length c, .slice a' m.length c'] := Blk.new w _ _
 have hb0 : Below w.heap.size w (w.alloc (.cells #[.bool neg, .slice a l.length c, .slice a' m.length c'] 32)) := brf.alloc (nlr _) _
 have hfl := fun a1 a2 c1 c2 W => rat_num s a1 (limbs N).length c1 a2 (limbs D).length c2 W
 clear h h' hn h0 hR ht hs r1 q1
 go_enter Tryz.func168, Tryz.ntmps168
 go_wp2_with fail
 revert hz hb0
 generalize w.alloc (.cells #[.bool neg, .slice a l.length c, .slice a' m.length c'] 32) = w0
 intro hz hb0
 have z0 := hz.cell 0; have z1 := hz.cell 1; have z2 := hz.cell 2
 go_wp2_with fail
 refine (CN.out _ hb0).mono ?_
 rintro e w1 ⟨a1, c1, a2, c2, rfl, hV1, hV2, hb1⟩
 have hw1 := bth hb0 hb1
 have CS1 := CS.out a1 c1 w1 (hV1 w1 (New.refl _ _))
 replace CS1 := Hd CS1
 have hf := hfl a1 a2 c1 c2 w1
 clear hV1 hV2 hb1 z0 z1 z2 hz hb0 hfl
 go_wp2_with fail
 refine CS1.out.mono ?_
 rintro e w2 ⟨rfl, hb2⟩
 go_wp2
 go_ret
 exact ⟨rfl, bth hw1 hb2⟩
def maskAt (acc : List Nat) (j : Nat) : Nat := if j < acc.length then acc.getD (acc.length - 1 - j) 0 else 0
def maskOf (md : Region.Mode) (acc : List Nat) (o : Oper) : Nat := o.after.toList.foldl (fun m e => if Region.binds md e then m ||| (2 ^ e.on ||| maskAt acc e.on) else m) 0
def goM (md : Region.Mode) (k : List Nat -> Bool) : List Oper -> List Nat -> Bool
 | [], acc => k acc
 | o :: r, acc => match maskOf md acc o with
  | 0 => goM md k r (0 :: acc)
  | m + 1 => goM md k r ((m + 1) :: acc)
def orderM (md : Region.Mode) (ops : Array Oper) (l : List (Nat × Mode4)) : Bool :=
 goM md (fun acc => l.all fun x => match x.2 with
  | .q => l.all fun y => !y.2.tail || (maskAt acc y.1).testBit x.1
  | _ => true) ops.toList []
def GoodM (md : Region.Mode) (ops : Array Oper) (acc : List Nat) : Prop := ∀ j i, (maskAt acc j).testBit i = true -> ∀ n, j < n -> dep md ops n j i = true
theorem fold_bit {md : Region.Mode} {acc : List Nat} {i : Nat} : ∀ (l : List Edge) (m : Nat), (l.foldl (fun m e => if Region.binds md e then m ||| (2 ^ e.on ||| maskAt acc e.on) else m) m).testBit i = true ->
  m.testBit i = true \/ ∃ e ∈ l, Region.binds md e = true /\ (e.on = i \/ (maskAt acc e.on).testBit i = true)
 | [], m, h => .inl h
 | e :: l, m, h => by
  rw [List.foldl_cons] at h
  rcases fold_bit l _ h with h1 | ⟨e', he, h2⟩
  ·
   by_cases hb : Region.binds md e = true
   ·
    rw [if_pos hb, Nat.testBit_or, Bool.or_eq_true] at h1
    rcases h1 with h1 | h1
    · exact .inl h1
    ·
     rw [Nat.testBit_or, Bool.or_eq_true] at h1
     refine .inr ⟨e, by simp, hb, ?_⟩
     rcases h1 with h1 | h1
     · left; rw [Nat.testBit_two_pow] at h1; simpa using h1
     · exact .inr h1
   ·
    rw [if_neg hb] at h1
    exact .inl h1
  · exact .inr ⟨e', by simp [he], h2⟩
theorem GoodM.step {md : Region.Mode} {ops : Array Oper} {acc : List Nat} {o : Oper} (h : GoodM md ops acc) (ho : ops[acc.length]? = some o) : GoodM md ops (maskOf md acc o :: acc) := by
 intro j i hj n hn
 unfold maskAt at hj
 split at hj
 ·
  next hlt =>
  rw [List.length_cons] at hlt
  by_cases hje : j = acc.length
  ·
   subst hje
   have : (maskOf md acc o :: acc).getD ((maskOf md acc o :: acc).length - 1 - acc.length) 0 = maskOf md acc o := by simp
   rw [this] at hj
   rcases fold_bit _ _ hj with h1 | ⟨e, he, hb, h1⟩
   · simp at h1
   ·
    cases n with
    | zero => omega
    | succ n =>
     unfold dep
     rw [ho]
     dsimp only
     rw [Array.any_eq_true']
     refine ⟨e, by simpa using he, ?_⟩
     rw [hb, Bool.true_and, Bool.or_eq_true]
     rcases h1 with h1 | h1
     · left; simpa using h1
     ·
      right
      have hlt2 : e.on < acc.length := by
       unfold maskAt at h1
       split at h1
       · assumption
       · simp at h1
      exact h _ _ h1 n (by omega)
  ·
   have : (maskOf md acc o :: acc).getD ((maskOf md acc o :: acc).length - 1 - j) 0 = maskAt acc j := by
    unfold maskAt
    rw [if_pos (by omega), List.length_cons, show acc.length + 1 - 1 - j = (acc.length - 1 - j) + 1 by omega, List.getD_cons_succ]
   rw [this] at hj
   exact h _ _ hj n hn
 · simp at hj
theorem goM_good {md : Region.Mode} {ops : Array Oper} {k : List Nat -> Bool} : ∀ (r : List Oper) (acc : List Nat), GoodM md ops acc -> (∀ j, r[j]? = ops[acc.length + j]?) -> goM md k r acc = true ->
  ∃ acc', GoodM md ops acc' /\ k acc' = true
 | [], acc, hg, _, h => ⟨acc, hg, h⟩
 | o :: r, acc, hg, hr, h => by
  have ho : ops[acc.length]? = some o := by have := hr 0; simpa using this.symm
  have hs := hg.step ho
  unfold goM at h
  have hr' : ∀ j, r[j]? = ops[acc.length + 1 + j]? := fun j => by have := hr (j + 1); rw [List.getElem?_cons_succ] at this; rw [this]; congr 1; omega
  split at h
  ·
   next hm =>
   rw [hm] at hs
   exact goM_good r _ hs hr' h
  ·
   next m hm =>
   rw [hm] at hs
   exact goM_good r _ hs hr' h
theorem orderB_of_M {md : Region.Mode} {ops : Array Oper} {l : List (Nat × Mode4)} (hd : decide (l.map (·.1)).Nodup = true) (hin : (l.all fun x => decide (x.1 < ops.size)) = true) (h : orderM md ops l = true) : orderB md ops l = true := by
 obtain ⟨acc, hg, hk⟩ := goM_good (ops := ops) ops.toList [] (fun j i hj => by simp [maskAt] at hj) (fun j => by simp) h
 unfold orderB
 rw [hd, Bool.true_and, List.all_eq_true]
 rw [List.all_eq_true] at hk hin
 intro x hx
 have h1 := hk x hx
 obtain ⟨xi, xm⟩ := x
 cases xm with
 | q =>
  dsimp only at h1 ⊢
  rw [List.all_eq_true] at h1 ⊢
  intro y hy
  have h2 := h1 y hy
  rw [Bool.or_eq_true] at h2 ⊢
  rcases h2 with h2 | h2
  · exact .inl h2
  · exact .inr (hg _ _ h2 _ (by simpa using hin y hy))
 | p => rfl
 | l => rfl
 | t => rfl
section
variable {P : Program} {ops : Array Oper} {Q : Exit -> Act -> World -> Prop} {S : World -> Prop}
theorem wp_region_mixM {id : Nat} {a : Act} {w : World} (l : List (Nat × Mode4)) (hm : P.follows .mixedOrders = true) (hs : Region.noSelect ops = true)
  (hB : ((l.length == ops.size && (decide (l.map (·.1)).Nodup && l.all fun x => decide (x.1 < ops.size))) && (orderM .any ops l && (lateB l false && mixB .any ops l (Array.replicate ops.size false)))) = true)
  (hQ : ∀ d v c a w, Q (.panic c) (a.put d v) w -> Q (.panic c) a w) (hS : S w.drew) (h : wpMix P ops Q S l a w.drew) : (Code.region id ops true).wp P Q a w := by
 simp only [Bool.and_eq_true] at hB
 obtain ⟨⟨h1, h2, h3⟩, h4, h5, h6⟩ := hB
 refine wp_region_mix l hm hs ?_ hQ hS h
 rw [h1, orderB_of_M h2 h3 h4, h5, h6]; rfl
end
theorem lex_any (s t : Trm) (p q : RA) (w : World) (h : IntsR w p.aa p.ac s.mono) (h' : IntsR w q.aa q.ac t.mono) :
  Calls Tryz.prog 103 #[s.val p, t.val q] w fun e w' => e = .returned (.int .i64 (lexI s.mono t.mono)) /\ Below w.heap.size w w' := by
 have CC := fun W (hW : Below w.heap.size w W) => cmpP5_any s.mono t.mono p.aa q.aa p.ac q.ac W (h.ext (xbw hW)) (h'.ext (xbw hW))
 revert CC
 generalize lexI s.mono t.mono = R
 intro CC
 replace CC := Hd CC
 unfold Trm.val
 have hx : Blk ((w.alloc (.cells #[.bool s.coef.neg, .slice p.na s.coef.num.length p.nc, .slice p.da s.coef.den.length p.dc, .slice p.aa s.mono.length p.ac] 136)).alloc (.cells #[.bool t.coef.neg, .slice q.na t.coef.num.length q.nc, .slice q.da t.coef.den.length q.dc, .slice q.aa t.mono.length q.ac] 136)) w.heap.size 136 #[.bool s.coef.neg, .slice p.na s.coef.num.length p.nc, .slice p.da s.coef.den.length p.dc, .slice p.aa s.mono.length p.ac] := (Blk.new w _ _).alloc _
 have hy : Blk ((w.alloc (.cells #[.bool s.coef.neg, .slice p.na s.coef.num.length p.nc, .slice p.da s.coef.den.length p.dc, .slice p.aa s.mono.length p.ac] 136)).alloc (.cells #[.bool t.coef.neg, .slice q.na t.coef.num.length q.nc, .slice q.da t.coef.den.length q.dc, .slice q.aa t.mono.length q.ac] 136)) (w.heap.size + 1) 136 #[.bool t.coef.neg, .slice q.na t.coef.num.length q.nc, .slice q.da t.coef.den.length q.dc, .slice q.aa t.mono.length q.ac] := blk_at1 w _ _ _
 have hb0 : Below w.heap.size w ((w.alloc (.cells #[.bool s.coef.neg, .slice p.na s.coef.num.length p.nc, .slice p.da s.coef.den.length p.dc, .slice p.aa s.mono.length p.ac] 136)).alloc (.cells #[.bool t.coef.neg, .slice q.na t.coef.num.length q.nc, .slice q.da t.coef.den.length q.dc, .slice q.aa t.mono.length q.ac] 136)) := by go_grown
 clear h h'
 go_enter Tryz.func103, Tryz.ntmps103
 go_wp2_with fail
 revert hx hy hb0
 generalize (w.alloc (.cells #[.bool s.coef.neg, .slice p.na s.coef.num.length p.nc, .slice p.da s.coef.den.length p.dc, .slice p.aa s.mono.length p.ac] 136)).alloc (.cells #[.bool t.coef.neg, .slice q.na t.coef.num.length q.nc, .slice q.da t.coef.den.length q.dc, .slice q.aa t.mono.length q.ac] 136) = w0
 intro hx hy hb0
 have z3 := hx.cell 3; have y3 := hy.cell 3
 go_wp2_with fail
 refine (CC.out _ hb0).mono ?_
 rintro e w1 ⟨rfl, rfl⟩
 go_wp2
 go_ret
 exact ⟨rfl, hb0⟩
def intC (x : Int) : List Value := [.int .i64 x]
theorem intC_len (s : Int) : (intC s).length = 1 := rfl
theorem intC_one (s : Int) : ∀ u ∈ intC s, u.oneCell' = true := by simp [intC, Value.oneCell']
theorem intC_cell {w : World} {b : Nat} {s : Int} (h : w.cell? ⟨b, 0, none⟩ = some (.int .i64 s)) : ∀ j u, (intC s)[j]? = some u -> w.cell? ⟨b, j, none⟩ = some u := by
 intro j u hu
 match j, hu with
 | 0, hu => simp [intC] at hu; subst hu; exact h
abbrev OwnI (B : Nat) (w : World) (a : Option Addr) (c : Nat) (l : List Int) : Prop := Own intC 1 3 B w a c l
theorem infoI : (Tryz.prog.info? 3).map (fun i => (i.zero, i.size, i.bytes)) = some (some (.int .i64 0), 1, 8) := by kernel_rfl
section
variable {B : Nat} {w : World} {a : Option Addr} {c : Nat}
end
theorem append_int {B : Nat} {w : World} {l : List Int} {ops : Array Oper} {rest : List Oper} {o : Oper} {act : Act} {Q : Exit -> Act -> World -> Prop} (hgd : o.guard = none) (s y : Operand)
  (ho : o.op = .call { callee := .builtin .append, args := #[s, y], argTypes := #[26, 26] })
  (a : Option Addr) (c : Nat) (hs : act.eval s = .slice a l.length c) (hown : OwnI B w a c l)
  (x : Int) (b c1 : Nat) (hy : act.eval y = .slice (some ⟨b, 0, none⟩) 1 c1) (hcell : w.cell? ⟨b, 0, none⟩ = some (.int .i64 x))
  (l2 : List Int) (hl2 : l2 = l ++ [x]) (hlen : l2.length <= 16777216) (hB : B <= w.heap.size)
  (h : ∀ a' c' w', OwnI B w' a' c' l2 -> w.grownBy w' (Value.ownBlock (.slice a l.length c)) -> ((∃ g, a' = some ⟨g, 0, none⟩ /\ (a = some ⟨g, 0, none⟩ \/ g = w.heap.size))) ->
   wpList Tryz.prog ops Q rest (act.put o.dst (.slice a' l2.length c')) w') : wpList Tryz.prog ops Q (o :: rest) act w :=
 wpList_append_1 hgd s y 26 ho Tryz.underlying26 infoI rfl (by omega) (by omega) intC_len a c hs hown x (intC_one x) b c1 hy (intC_cell hcell) l2 hl2 hlen hB h
section
variable {α : Type} {f : α -> List Value} {sz : Nat} {t : TypeId} {B : Nat} {w : World} {l : List α} {P : Program}
theorem wp_append_n {o : Oper} {act : Act} {K : Act -> World -> Prop} {Q : Exit -> Act -> World -> Prop} (s y : Operand) (ts : TypeId)
  (ho : o.op = .call { callee := .builtin .append, args := #[s, y], argTypes := #[ts, ts] })
  {z : Value} {bytes : Nat} (ht : P.underlying ts = some (.slice t)) (hi : (P.info? t).map (fun i => (i.zero, i.size, i.bytes)) = some (some z, sz, bytes)) (hz : z.cells.size = sz) (hsz : 0 < sz) (hby : bytes <= 1024)
  (hf : ∀ x, (f x).length = sz) (a : Option Addr) (c : Nat) (hs : act.eval s = .slice a l.length c) (hown : Own f sz t B w a c l)
  (m : List α) (hm : m ≠ []) (hone : ∀ u ∈ m.flatMap f, u.oneCell' = true) (p : Addr) (c1 : Nat) (hy : act.eval y = .slice (some p) m.length c1) (hcell : ∀ j u, (m.flatMap f)[j]? = some u -> w.cell? (p.add j) = some u)
  (l2 : List α) (hl2 : l2 = l ++ m) (hlen : l2.length <= 16777216) (hB : B <= w.heap.size)
  (h : ∀ a' c' w', Own f sz t B w' a' c' l2 -> w.grownBy w' (Value.ownBlock (.slice a l.length c)) -> ((∃ g, a' = some ⟨g, 0, none⟩ /\ (a = some ⟨g, 0, none⟩ \/ g = w.heap.size))) ->
   K (act.put o.dst (.slice a' l2.length c')) w') : o.wp P act w K Q := by
 subst hl2
 obtain ⟨i, hi0, hz0, hz1, hz2⟩ := info_parts hi
 simp only [List.length_append] at hlen
 have hml : 0 < m.length := List.length_pos_iff.2 hm
 have hfl : (m.flatMap f).length = m.length * sz := by
  clear hone hcell hm hy hlen hml h
  induction m with
  | nil => simp
  | cons x m ih => simp only [List.flatMap_cons, List.length_append, List.length_cons, ih, hf, Nat.add_mul]; omega
 obtain ⟨v', w', hr, h2, h3, _, h5⟩ := run_append_own_at (P := P) w B ts o.type t i z sz bytes ht hi0 hz0 hz1 hz2 hz hsz (.slice a l.length c) l.length (l.flatMap f) hown p m.length c1 (m.flatMap f) hfl
  hcell hone (by unfold maxLen; omega)
  (by have : (l.length + m.length) * bytes <= 16777216 * 1024 := Nat.mul_le_mul hlen hby
      omega) hB
 unfold Oper.wp execOp
 simp only [ho, resolve, invoke, builtin, Sem.run_bind, Sem.run_pure, Result.andThen_ok, List.map_toArray, List.map_cons, List.map_nil, hs, hy, hr]
 have hf2 : (l ++ m).flatMap f = l.flatMap f ++ m.flatMap f := by simp
 have hn : (l ++ m).length = l.length + m.length := by simp
 obtain ⟨g, cap, hv, hb, hlt⟩ := h2.form (by omega)
 subst hv
 rw [<- hn]
 refine h _ _ w' (by unfold Own; rw [hf2, hn]; exact h2) h3 ⟨g, rfl, ?_⟩
 rcases h5 with h5 | h5
 ·
  left
  cases a with
  | none => simp [Value.ownBlock] at h5
  | some g' =>
   have hg' : g = g'.block := by simpa [Value.ownBlock] using h5
   rcases hown.2 with ⟨e, _⟩ | ⟨g2, _, _, e, _⟩
   · cases e
   ·
    injection e with e1
    injection e1 with e1
    subst e1
    simp at hg'
    rw [hg']
 ·
  right
  simpa [Value.ownBlock] using h5
theorem wp_append_0 {o : Oper} {act : Act} {K : Act -> World -> Prop} {Q : Exit -> Act -> World -> Prop} (s y : Operand) (ts : TypeId)
  (ho : o.op = .call { callee := .builtin .append, args := #[s, y], argTypes := #[ts, ts] })
  (ht : P.underlying ts = some (.slice t)) {i : TypeInfo} (hi : P.info? t = some i)
  (a : Option Addr) (n c : Nat) (hnc : n <= c) (hs : act.eval s = .slice a n c) (b : Option Addr) (c1 : Nat) (hy : act.eval y = .slice b 0 c1)
  (h : K (act.put o.dst (.slice a n c)) w) : o.wp P act w K Q := by
 have hsrc : Src P i.size ts (.slice b 0 c1) 0 [] w := by
  cases b with
  | none => exact Src.ofNil w ht c1
  | some p => exact Src.ofSlice w ht p 0 c1 [] (by simp) (fun j u hu => by simp at hu) (fun u hu => by cases hu)
 have hr := run_append_nothing (P := P) w ts ts o.type t i ht hi a n c hnc _ hsrc
 unfold Oper.wp execOp
 simp only [ho, resolve, invoke, builtin, Sem.run_bind, Sem.run_pure, Result.andThen_ok, List.map_toArray, List.map_cons, List.map_nil, hs, hy, hr]
 exact h
end
def FineT (u : Tm) : Prop := Mok 100000 u.2 /\ u.1 ≠ 0 /\ qsz u.1 <= 1000
def FineP (p : List Tm) : Prop := p.length <= 100000 /\ ∀ u ∈ p, FineT u
structure TQ where
 x : QA
 n : Nat
 a : Option Addr
 c : Nat
def TQ.cs (t : TQ) : List Value := [.bool t.x.neg, .slice t.x.a t.x.n t.x.c, .slice t.x.b t.x.m t.x.d, .slice t.a t.n t.c]
theorem TQ.cs_len (t : TQ) : t.cs.length = 4 := rfl
theorem TQ.cs_one (t : TQ) : ∀ u ∈ t.cs, u.oneCell' = true := by simp [TQ.cs, Value.oneCell']
def TQ.R (t : TQ) (u : Tm) (V : World) : Prop := QAc V t.x u.1 /\ IntsR V t.a t.c u.2 /\ t.n = u.2.length
theorem TQ.R.qk {t : TQ} {u : Tm} {V : World} (h : t.R u V) (hf : FineT u) : QK 1000 V t.x u.1 := ⟨h.1, hf.2.2⟩
def TQ.At (t : TQ) (V : World) (b o : Nat) : Prop := V.cell? ⟨b, o, none⟩ = some (.bool t.x.neg) /\ V.cell? ⟨b, o + 1, none⟩ = some (.slice t.x.a t.x.n t.x.c) /\ V.cell? ⟨b, o + 2, none⟩ = some (.slice t.x.b t.x.m t.x.d) /\ V.cell? ⟨b, o + 3, none⟩ = some (.slice t.a t.n t.c)
theorem TQ.at_of {t : TQ} {V : World} {b o : Nat} (h : ∀ j v, t.cs[j]? = some v -> V.cell? ⟨b, o + j, none⟩ = some v) : t.At V b o := ⟨by simpa using h 0 _ rfl, h 1 _ rfl, h 2 _ rfl, h 3 _ rfl⟩
theorem TQ.At.cs {t : TQ} {V : World} {b o : Nat} (h : t.At V b o) : ∀ j v, t.cs[j]? = some v -> V.cell? ⟨b, o + j, none⟩ = some v := fun j v hj => by
 match j, hj with
 | 0, hj => simp [TQ.cs] at hj; subst hj; exact h.1
 | 1, hj => simp [TQ.cs] at hj; subst hj; exact h.2.1
 | 2, hj => simp [TQ.cs] at hj; subst hj; exact h.2.2.1
 | 3, hj => simp [TQ.cs] at hj; subst hj; exact h.2.2.2
 | j + 4, hj => simp [TQ.cs] at hj
def AllT (X : Nat -> Prop) (w : World) (l : List TQ) (p : List Tm) : Prop := l.length = p.length /\ ∀ (k : Nat) (t : TQ) (u : Tm), l[k]? = some t -> p[k]? = some u -> Rd X w (t.R u)
def RowT (a : Option Addr) (c : Nat) (l : List TQ) (V : World) : Prop := SlR 4 (fun V b o (t : TQ) => t.At V b o) V a c l
def PolX (X : Nat -> Prop) (w : World) (a : Option Addr) (c : Nat) (p : List Tm) : Prop := ∃ l : List TQ, Rd X w (RowT a c l) /\ AllT X w l p
section
variable {X Y : Nat -> Prop} {w w' : World} {a : Option Addr} {c : Nat} {p q : List Tm} {l l' : List TQ}
theorem AllT.nil : AllT X w [] [] := ⟨rfl, fun k t u h => by simp at h⟩
theorem AllT.map (h : AllT X w l p) (e : ∀ t u, Rd X w (TQ.R t u) -> Rd Y w' (TQ.R t u)) : AllT Y w' l p := ⟨h.1, fun k t u h1 h2 => e _ _ (h.2 k t u h1 h2)⟩
theorem AllT.call (h : AllT X w l p) (e : Below w.heap.size w w') : AllT X w' l p := h.map fun _ _ k => k.call e
theorem AllT.append (h : AllT X w l p) (k : AllT X w l' q) : AllT X w (l ++ l') (p ++ q) := ⟨by rw [List.length_append, List.length_append, h.1, k.1], fun i t u h1 h2 => by
 rcases Nat.lt_or_ge i l.length with e | e
 ·
  rw [List.getElem?_append_left e] at h1
  rw [List.getElem?_append_left (by rw [<- h.1]; exact e)] at h2
  exact h.2 i t u h1 h2
 ·
  rw [List.getElem?_append_right e] at h1
  rw [List.getElem?_append_right (by rw [<- h.1]; exact e), <- h.1] at h2
  exact k.2 _ t u h1 h2⟩
theorem AllT.one {t : TQ} {u : Tm} (h : Rd X w (t.R u)) : AllT X w [t] [u] := ⟨rfl, fun k t' u' h1 h2 => by
 cases k with
 | zero => simp at h1 h2; subst h1 h2; exact h
 | succ k => simp at h1⟩
theorem AllT.drop (h : AllT X w l p) (n : Nat) : AllT X w (l.drop n) (p.drop n) := ⟨by simp [h.1], fun k t u h1 h2 => h.2 (n + k) t u (by simpa using h1) (by simpa using h2)⟩
theorem PolX.nil : PolX X w none 0 [] := ⟨[], fun _ _ => SlR.nil, AllT.nil⟩
theorem PolX.map (h : PolX X w a c p) (e : ∀ R, Rd X w R -> Rd Y w' R) : PolX Y w' a c p := by
 obtain ⟨l, h1, h2⟩ := h
 exact ⟨l, e _ h1, h2.map fun _ _ k => e _ k⟩
theorem PolX.step (h : PolX X w a c p) (e : Agr X w w') : PolX X w' a c p := h.map fun _ k => k.step e
theorem PolX.call (h : PolX X w a c p) (e : Below w.heap.size w w') : PolX X w' a c p := h.map fun _ k => k.call e
theorem PolX.more (h : PolX X w a c p) (e : ∀ b, Y b -> X b \/ w.heap.size <= b) : PolX Y w a c p := h.map fun _ k => k.more e
theorem PolX.cap (h : PolX X w a c p) : p.length <= c /\ c <= maxLen := by
 obtain ⟨l, h1, h2⟩ := h
 rw [<- h2.1]
 exact ⟨h1.now.1, h1.now.2.1⟩
theorem PolX.len (h : PolX X w a c p) : p.length <= 9223372036854775807 := by have h1 := h.cap; unfold maxLen at h1; omega
theorem PolX.get (h : PolX X w a c p) {k : Nat} {u : Tm} (hk : p[k]? = some u) : ∃ (b off : Nat) (t : TQ), a = some ⟨b, off, none⟩ /\ t.At w b (off + k * 4) /\ Rd X w (t.R u) := by
 obtain ⟨l, h1, h2⟩ := h
 obtain ⟨t, ht⟩ := get_of_lt (show k < l.length by have := lt_of_get hk; rw [h2.1]; exact this)
 obtain ⟨b, off, ha, hA⟩ := h1.now.2.2 k t ht
 exact ⟨b, off, t, ha, hA, h2.2 k t u ht hk⟩
theorem Rd.kp {R : World -> Prop} {B T : Nat} (h : Kp R B T w) (hX : ∀ b, X b -> b < B \/ T <= b) : Rd X w R := fun V hV => h V fun p v h1 h2 h3 => hV p v (fun hx => by have := hX _ hx; omega) h3
end
abbrev OwnT (B : Nat) (w : World) (a : Option Addr) (c : Nat) (l : List TQ) : Prop := Own TQ.cs 4 136 B w a c l
theorem infoTm : (Tryz.prog.info? 136).map (fun i => (i.zero, i.size, i.bytes)) = some (some (.agg #[.bool false, .slice none 0 0, .slice none 0 0, .slice none 0 0]), 4, 80) := by kernel_rfl
def Xr (X : Nat -> Prop) (a : Option Addr) : Nat -> Prop := fun b => X b \/ ∃ g : Addr, a = some g /\ b = g.block
section
variable {X : Nat -> Prop} {w w' w'' : World} {B : Nat} {a a' : Option Addr} {c n : Nat} {p : List Tm} {l : List TQ} {R : World -> Prop}
theorem Rd.row (h : Rd X w R) (ha : ∀ g, a = some g -> w.heap.size <= g.block) : Rd (Xr X a) w R := h.more fun b hb => by
 rcases hb with hb | ⟨g, hg, rfl⟩
 · exact .inl hb
 · exact .inr (ha g hg)
theorem Rd.app (h : Rd (Xr X a) w R) (hg : w.grownBy w' (Value.ownBlock (.slice a n c))) (ha : ∃ g, a' = some ⟨g, 0, none⟩ /\ (a = some ⟨g, 0, none⟩ \/ g = w.heap.size)) : Rd (Xr X a') w' R := by
 obtain ⟨g, rfl, h2⟩ := ha
 have h1 : Rd (fun b => Xr X a b \/ b = g) w R := h.more fun b hb => by
  rcases hb with hb | rfl
  · exact .inl hb
  ·
   rcases h2 with h2 | h2
   · exact .inl (.inr ⟨_, h2, rfl⟩)
   · exact .inr (by omega)
 have h3 : Rd (fun b => Xr X a b \/ b = g) w' R := h1.step ((Agr.refl _ _).grown hg fun g hg => .inl (.inr ⟨g, hg, rfl⟩))
 intro V hV
 exact h3 V (hV.mono fun b hb => by
  rcases hb with hb | ⟨g', hg', rfl⟩
  · exact .inl (.inl hb)
  ·
   injection hg' with hg'
   subst hg'
   exact .inr rfl)
theorem Rd.less {Y : Nat -> Prop} (h : Rd Y w R) (e : ∀ b, X b -> Y b) : Rd X w R := fun V hV => h V (hV.mono e)
theorem AllT.app {lo : List TQ} (h : AllT (Xr X a) w lo p) (hg : w.grownBy w' (Value.ownBlock (.slice a n c))) (ha : ∃ g, a' = some ⟨g, 0, none⟩ /\ (a = some ⟨g, 0, none⟩ \/ g = w.heap.size)) : AllT (Xr X a') w' lo p := h.map fun _ _ k => k.app hg ha
theorem OwnT.pol (ho : OwnT B w a c l) (hA : AllT (Xr X a) w l p) (hX : ∀ b, X b -> b < B) : PolX X w a c p := by
 refine ⟨l, fun V hV => ?_, hA.map fun _ _ k => k.less fun b hb => .inl hb⟩
 refine ho.readsX l rfl TQ.cs_len hV (fun g hg hx => ?_) fun b o k x y h1 h2 hc => ?_
 ·
  have := hX _ hx
  have := (ho.lt hg).1
  omega
 ·
  rw [h1] at h2
  injection h2 with h2
  subst h2
  exact TQ.at_of hc
end
def RetP (X : Nat -> Prop) (p : List Tm) (w : World) (e : Ending) (w' : World) : Prop := ∃ a c, e = .returned (.slice a p.length c) /\ PolX X w' a c p /\ Below w.heap.size w w'
theorem append_tm {B : Nat} {w : World} {l : List TQ} {ops : Array Oper} {rest : List Oper} {o : Oper} {act : Act} {Q : Exit -> Act -> World -> Prop} (hgd : o.guard = none) (s y : Operand) (ts : TypeId)
  (ho : o.op = .call { callee := .builtin .append, args := #[s, y], argTypes := #[ts, ts] }) (hu : Tryz.prog.underlying ts = some (.slice 136))
  (a : Option Addr) (c : Nat) (hs : act.eval s = .slice a l.length c) (hown : OwnT B w a c l)
  (x : TQ) (b c1 : Nat) (hy : act.eval y = .slice (some ⟨b, 0, none⟩) 1 c1) (hcell : x.At w b 0)
  (l2 : List TQ) (hl2 : l2 = l ++ [x]) (hlen : l2.length <= 16777216) (hB : B <= w.heap.size)
  (h : ∀ a' c' w', OwnT B w' a' c' l2 -> w.grownBy w' (Value.ownBlock (.slice a l.length c)) -> ((∃ g, a' = some ⟨g, 0, none⟩ /\ (a = some ⟨g, 0, none⟩ \/ g = w.heap.size))) ->
   wpList Tryz.prog ops Q rest (act.put o.dst (.slice a' l2.length c')) w') : wpList Tryz.prog ops Q (o :: rest) act w :=
 wpList_append_1 hgd s y ts ho hu infoTm rfl (by omega) (by omega) TQ.cs_len a c hs hown x (TQ.cs_one x) b c1 hy (by have := hcell.cs; simpa using this) l2 hl2 hlen hB h
theorem cs_flat (m : List TQ) (j : Nat) : (m.flatMap TQ.cs)[j]? = (m[j / 4]?).bind fun t => t.cs[j % 4]? := by
 induction m generalizing j with
 | nil => simp
 | cons t m ih =>
  rw [List.flatMap_cons]
  rcases Nat.lt_or_ge j 4 with h | h
  ·
   rw [List.getElem?_append_left (by rw [TQ.cs_len]; exact h), Nat.div_eq_of_lt h, Nat.mod_eq_of_lt h]
   rfl
  ·
   rw [List.getElem?_append_right (by rw [TQ.cs_len]; exact h), TQ.cs_len, ih]
   obtain ⟨k, rfl⟩ : ∃ k, j = k + 4 := ⟨j - 4, by omega⟩
   rw [Nat.add_sub_cancel, Nat.add_div_right _ (by omega), Nat.add_mod_right]
   rfl
theorem append_tms {B : Nat} {w : World} {l : List TQ} {ops : Array Oper} {rest : List Oper} {o : Oper} {act : Act} {Q : Exit -> Act -> World -> Prop} (hgd : o.guard = none) (s y : Operand) (ts : TypeId)
  (ho : o.op = .call { callee := .builtin .append, args := #[s, y], argTypes := #[ts, ts] }) (hu : Tryz.prog.underlying ts = some (.slice 136))
  (a : Option Addr) (c : Nat) (hs : act.eval s = .slice a l.length c) (hown : OwnT B w a c l) (m : List TQ) (b : Option Addr) (n c1 : Nat) (hn : n = m.length) (hy : act.eval y = .slice b n c1) (hm : RowT b c1 m w)
  (l2 : List TQ) (hl2 : l2 = l ++ m) (hlen : l2.length <= 16777216) (hB : B <= w.heap.size)
  (h : ∀ a' c' w', OwnT B w' a' c' l2 -> w.grownBy w' (Value.ownBlock (.slice a l.length c)) -> (m = [] /\ a' = a /\ w' = w \/ (∃ g, a' = some ⟨g, 0, none⟩ /\ (a = some ⟨g, 0, none⟩ \/ g = w.heap.size))) ->
   wpList Tryz.prog ops Q rest (act.put o.dst (.slice a' l2.length c')) w') : wpList Tryz.prog ops Q (o :: rest) act w := by
 subst hl2 hn
 refine wpList_plain hgd fun _ hK => ?_
 cases m with
 | nil =>
  obtain ⟨i, hi, _⟩ := info_parts infoTm
  refine wp_append_0 s y ts ho hu hi a l.length c hown.cap.1 hs b c1 hy ?_
  have := h a c w (by simpa using hown) (World.grownBy.refl _ _) (.inl ⟨rfl, rfl, rfl⟩)
  simp only [List.append_nil] at this
  exact hK _ _ this
 | cons x m =>
  obtain ⟨bb, off, hb, _⟩ := hm.2.2 0 x rfl
  refine wp_append_n s y ts ho hu infoTm rfl (by omega) (by omega) TQ.cs_len a c hs hown (x :: m) (by simp) ?_ ⟨bb, off, none⟩ c1 (by rw [hy, hb]) ?_ _ rfl hlen hB
   fun a' c' w' h1 h2 h3 => hK _ _ (h a' c' w' h1 h2 (.inr h3))
  ·
   intro u hu
   simp only [List.mem_flatMap] at hu
   obtain ⟨z, _, hz⟩ := hu
   exact TQ.cs_one z u hz
  ·
   intro j u hu
   rw [cs_flat] at hu
   obtain ⟨z, hz, hj⟩ := Option.bind_eq_some_iff.1 hu
   obtain ⟨b2, off2, hb2, hc⟩ := hm.2.2 (j / 4) z hz
   rw [hb] at hb2
   have e1 : bb = b2 := congrArg (fun o : Option Addr => (o.getD default).block) hb2
   have e2 : off = off2 := congrArg (fun o : Option Addr => (o.getD default).off) hb2
   subst e1
   subst e2
   have := hc.cs (j % 4) u hj
   rw [Addr.add_lit]
   rwa [show off + j / 4 * 4 + j % 4 = off + j by omega] at this
theorem valQ_trip (k : Int) : ∃ q : Rat, valQ k = trip q := by
 obtain ⟨s, n, d, h⟩ := valQ_lowest k
 exact ⟨qv s n d, by rw [h, lowest_qv]⟩
noncomputable def valR (k : Int) : Rat := Classical.choose (valQ_trip k)
theorem valR_spec (k : Int) : valQ k = trip (valR k) := Classical.choose_spec (valQ_trip k)
theorem valR_sz {k : Int} (hi : InInt k) : qsz (valR k) <= 5 := by
 have := valQ_small hi
 rw [valR_spec] at this
 exact qsz_le this.1 this.2
def brN (k n : Nat) : List Bool := (List.range n).map fun i => decide (k / 2 ^ i % 2 = 1)
noncomputable def vaN (k c p : Nat) : List Rat := (List.range p).map fun i => valR ((dealN k p 63 (c + i) ^^^ (i + 1) : Nat) : Int)
theorem brN_len (k n : Nat) : (brN k n).length = n := by simp [brN]
theorem vaN_len (k c p : Nat) : (vaN k c p).length = p := by simp [vaN]
theorem brN_take {k n i : Nat} (h : i < n) : (brN k n).take (i + 1) = (brN k n).take i ++ [decide (k / 2 ^ i % 2 = 1)] := take_more (by simp [brN, h])
theorem vaN_get {k c p i : Nat} (h : i < p) : (vaN k c p)[i]? = some (valR ((dealN k p 63 (c + i) ^^^ (i + 1) : Nat) : Int)) := by simp [vaN, h]
def boC (b : Bool) : List Value := [.bool b]
theorem boC_len (b : Bool) : (boC b).length = 1 := rfl
theorem boC_one (b : Bool) : ∀ u ∈ boC b, u.oneCell' = true := by simp [boC, Value.oneCell']
def qaC (x : QA) : List Value := [.bool x.neg, .slice x.a x.n x.c, .slice x.b x.m x.d]
theorem qaC_len (x : QA) : (qaC x).length = 3 := rfl
theorem qaC_one (x : QA) : ∀ u ∈ qaC x, u.oneCell' = true := by simp [qaC, Value.oneCell']
abbrev OwnB (B : Nat) (w : World) (a : Option Addr) (c : Nat) (l : List Bool) : Prop := Own boC 1 4 B w a c l
abbrev OwnQ (B : Nat) (w : World) (a : Option Addr) (c : Nat) (l : List QA) : Prop := Own qaC 3 32 B w a c l
theorem infoBo : (Tryz.prog.info? 4).map (fun i => (i.zero, i.size, i.bytes)) = some (some (.bool false), 1, 1) := by kernel_rfl
theorem infoQa : (Tryz.prog.info? 32).map (fun i => (i.zero, i.size, i.bytes)) = some (some (.agg #[.bool false, .slice none 0 0, .slice none 0 0]), 3, 56) := by kernel_rfl
def AllQ (X : Nat -> Prop) (w : World) (l : List QA) (p : List Rat) : Prop := l.length = p.length /\ ∀ (k : Nat) (t : QA) (u : Rat), l[k]? = some t -> p[k]? = some u -> Rd X w fun V => QAc V t u
theorem AllQ.nil {X : Nat -> Prop} {w : World} : AllQ X w [] [] := ⟨rfl, fun k t u h => by simp at h⟩
theorem AllQ.call {X : Nat -> Prop} {w w' : World} {l : List QA} {p : List Rat} (h : AllQ X w l p) (e : Below w.heap.size w w') : AllQ X w' l p := ⟨h.1, fun k t u h1 h2 => (h.2 k t u h1 h2).call e⟩
theorem AllQ.push {X Y : Nat -> Prop} {w w' : World} {l : List QA} {p : List Rat} {x : QA} {q : Rat} (h : AllQ X w l p) (hx : Rd X w fun V => QAc V x q) (e : ∀ R, Rd X w R -> Rd Y w' R) : AllQ Y w' (l ++ [x]) (p ++ [q]) := by
 refine ⟨by simp [h.1], fun k t u h1 h2 => ?_⟩
 rcases Nat.lt_or_ge k l.length with e1 | e1
 ·
  rw [List.getElem?_append_left e1] at h1
  rw [List.getElem?_append_left (by rw [<- h.1]; exact e1)] at h2
  exact e _ (h.2 k t u h1 h2)
 ·
  rw [List.getElem?_append_right e1] at h1
  rw [List.getElem?_append_right (by rw [<- h.1]; exact e1), <- h.1] at h2
  cases hk : k - l.length with
  | zero =>
   rw [hk] at h1 h2
   simp at h1 h2
   subst h1 h2
   exact e _ hx
  | succ j => rw [hk] at h1; simp at h1
def BosR (w : World) (a : Option Addr) (c : Nat) (l : List Bool) : Prop := SlR 1 BoolE w a c l
def QE (w : World) (b o : Nat) (q : Rat) : Prop := ∃ x : QA, w.cell? ⟨b, o, none⟩ = some (.bool x.neg) /\ w.cell? ⟨b, o + 1, none⟩ = some (.slice x.a x.n x.c) /\ w.cell? ⟨b, o + 2, none⟩ = some (.slice x.b x.m x.d) /\ QAc w x q
def QsR (w : World) (a : Option Addr) (c : Nat) (l : List Rat) : Prop := SlR 3 QE w a c l
theorem BosR.ext {w w' : World} {a : Option Addr} {c : Nat} {l : List Bool} (h : BosR w a c l) (e : Ext w w') : BosR w' a c l := SlR.mono h fun _ _ _ _ h => e _ _ h
theorem QsR.ext {w w' : World} {a : Option Addr} {c : Nat} {l : List Rat} (h : QsR w a c l) (e : Ext w w') : QsR w' a c l := SlR.mono h fun _ _ _ _ ⟨x, h1, h2, h3, h4⟩ => ⟨x, e _ _ h1, e _ _ h2, e _ _ h3, h4.ext e⟩
theorem OwnB.bos {B : Nat} {w : World} {a : Option Addr} {c : Nat} {l : List Bool} (h : OwnB B w a c l) : BosR w a c l := Own.reads boC_len h fun g o x _ hc => by have e := hc 0 _ rfl; rw [Nat.add_zero] at e; exact e
theorem OwnQ.qs {B : Nat} {X : Nat -> Prop} {w : World} {a : Option Addr} {c : Nat} {l : List QA} {p : List Rat} (h : OwnQ B w a c l) (hA : AllQ X w l p) : QsR w a c p :=
 Own.readsX (X := fun _ => False) p hA.1.symm qaC_len h (Agr.refl _ _) (fun _ _ h => h) fun b o k x y h1 h2 hc => ⟨x, by simpa using hc 0 _ rfl, hc 1 _ rfl, hc 2 _ rfl, (hA.2 k x y h1 h2).now⟩
def RetNthE (er : Int) (w : World) (e : Ending) (w' : World) : Prop := Below w.heap.size w w' /\ e = .returned (.tuple #[.slice none 0 0, .slice none 0 0, .int .i64 er])
def RetNthG (t1 t2 k : Nat) (w : World) (e : Ending) (w' : World) : Prop := Below w.heap.size w w' /\
 ∃ a c b d, e = .returned (.tuple #[.slice a t1 c, .slice b t2 d, .int .i64 0]) /\ QsR w' a c (vaN k t2 t1) /\ BosR w' b d (brN k t2)
end Go.Proofs.YtdnblkklgdnapaaGreat
