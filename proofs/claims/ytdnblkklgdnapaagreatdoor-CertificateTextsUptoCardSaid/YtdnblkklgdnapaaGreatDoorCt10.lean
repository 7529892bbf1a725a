/- What is read stays readable in every world that has the same cells but for some blocks of the caller's own. No function of the program in sight. -/
import Derived.Test.YtdnblkklgdnapaaGreatDoorCt8
import Derived.Test.YtdnblkklgdnapaaGreatDoorCt9
import Derived.LoopN
import Derived.Test.YtdnblkklgdnapaaGreatDoorCt1
import Derived.Test.YtdnblkklgdnapaaGreatDoorCt7
set_option linter.all false
set_option maxRecDepth 100000
set_option maxHeartbeats 4000000
namespace Go.Proofs.YtdnblkklgdnapaaGreatDoor
open Go.RowKit
theorem qmul_any (s1 s2 : Bool) (P1 D1 P2 D2 : Nat) (a1 b1 a2 b2 : Option Addr) (c1 d1 c2 d2 : Nat) (w : World) (r1 : NatR w a1 c1 (limbs P1)) (r2 : NatR w b1 d1 (limbs D1)) (r3 : NatR w a2 c2 (limbs P2)) (r4 : NatR w b2 d2 (limbs D2))
  (hD1 : D1 ≠ 0) (hD2 : D2 ≠ 0) (l1 : (limbs P1).length <= 400000) (l2 : (limbs D1).length <= 400000) (l3 : (limbs P2).length <= 400000) (l4 : (limbs D2).length <= 400000) : Calls Tryz.prog 143 #[.agg #[.bool s1, .slice a1 (limbs P1).length c1, .slice b1 (limbs D1).length d1], .agg #[.bool s2, .slice a2 (limbs P2).length c2, .slice b2 (limbs D2).length d2]] w (RetF (lowest (s1 != s2) (P1 * P2) (D1 * D2)) w) := by
 have m1 := limbs_len_mul P1 P2
 have m2 := limbs_len_mul D1 D2
 have CP1 := fun W (hW : Below w.heap.size w W) => parts_any s1 (limbs P1) (limbs D1) a1 b1 c1 d1 W (r2.ext (xbw hW)) (by rw [val_limbs]; exact hD1) (by omega)
 have CP2 := fun W (hW : Below w.heap.size w W) => parts_any s2 (limbs P2) (limbs D2) a2 b2 c2 d2 W (r4.ext (xbw hW)) (by rw [val_limbs]; exact hD2) (by omega)
 have CZ := fun W (hW : Below w.heap.size w W) => zmul_any s1 s2 (limbs P1) (limbs P2) P1 P2 a1 a2 c1 c2 W (r1.ext (xbw hW)) (r3.ext (xbw hW)) (val_limbs _) (val_limbs _) (by omega) (by omega)
 have CN := fun W (hW : Below w.heap.size w W) => nmul_any (limbs D1) (limbs D2) D1 D2 b1 b2 d1 d2 W (r2.ext (xbw hW)) (r4.ext (xbw hW)) (val_limbs _) (val_limbs _) (by omega) (by omega)
 have CR := fun a b c d W h h' => reduced_any ((s1 != s2) && decide (0 < P1 * P2)) (limbs (P1 * P2)) (limbs (D1 * D2)) (P1 * P2) (D1 * D2) a b c d W h h' (val_limbs _) (val_limbs _) (by omega) (by omega)
 rw [lowest_pos] at CR
 obtain ⟨R, hR⟩ : ∃ q, ((s1 != s2) && decide (0 < P1 * P2)) = q := ⟨_, rfl⟩
 rw [hR] at CZ CR
 obtain ⟨t, ht⟩ : ∃ t, lowest (s1 != s2) (P1 * P2) (D1 * D2) = t := ⟨_, rfl⟩
 rw [ht] at CR ⊢
 obtain ⟨s, N, D⟩ := t
 clear m1 m2 hR ht hD1 hD2
 revert CZ CN CR
 generalize P1 * P2 = PP
 generalize D1 * D2 = DD
 intro CN CZ CR
 unfold RetF at CR ⊢
 dsimp only at CR ⊢
 replace CP1 := Hd CP1; replace CP2 := Hd CP2; replace CZ := Hd CZ; replace CN := Hd CN; replace CR := Hd CR
 clear r1 r2 r3 r4
 go_enter Tryz.func143, Tryz.ntmps143
 go_wp2_with fail
 refine calls_gen (fun W => Blk W w.heap.size 64 #[.bool s1, .slice a1 (limbs P1).length c1, .slice b1 (limbs D1).length d1] /\ Blk W (w.heap.size + 1) 64 #[.bool s2, .slice a2 (limbs P2).length c2, .slice b2 (limbs D2).length d2] /\ Blk W (w.heap.size + 1 + 1) 64 #[.bool false, .slice none 0 0, .slice none 0 0] /\ Below w.heap.size w W /\ w.heap.size < w.heap.size + 1 /\ w.heap.size + 1 < w.heap.size + 1 + 1 /\ w.heap.size + 1 + 1 < W.heap.size) ⟨((Blk.new w _ _).alloc _).alloc _, (blk_at1 w _ _ _).alloc _, blk_at2 w _ _ _ _, by go_grown, by omega, by omega, by simp⟩ ?_
 rintro w0 ⟨hx, hy, hz, hw0, hg1, hg2, hg3⟩
 revert hx hy hz hg1 hg2 hg3
 generalize w.heap.size + 1 + 1 = g3
 generalize w.heap.size + 1 = g2
 intro hx hy hz hg1 hg2 hg3
 refine (CP1.out _ hw0).mono ?_
 rintro e w1 ⟨rfl, hb1⟩
 replace hy := hy.below' hb1
 replace hz := hz.below' hb1
 have hw1 := bth hw0 hb1
 have hs1 := hb1.size
 clear hx
 have z0 := hy.cell 0; have z1 := hy.cell 1; have z2 := hy.cell 2; have lt2 := hy.lt; have lt3 := hz.lt
 go_wp2_with fail
 refine calls_gen (fun W => Blk W w1.heap.size 62 #[.bool s1, .slice a1 (limbs P1).length c1] /\ Blk W g3 64 #[.bool false, .slice none 0 0, .slice none 0 0] /\ Below w.heap.size w W /\ w1.heap.size < W.heap.size) ⟨by ((with_reducible repeat first|assumption|(apply bF;focus omega)|apply bS|(apply bN;focus (simp;done))|apply bA|apply bD);all_goals rfl), by ((with_reducible repeat first|assumption|(apply bF;focus omega)|apply bS|(apply bN;focus (simp;done))|apply bA|apply bD);all_goals rfl), by go_grown, by simp⟩ ?_
 clear z0 z1 z2 lt2 lt3 hy hz
 rintro w2 ⟨hu, hz, hw2, hs2⟩
 refine (CP2.out _ hw2).mono ?_
 rintro e w3 ⟨rfl, hb3⟩
 replace hu := hu.below' hb3
 replace hz := hz.below' hb3
 have hw3 := bth hw2 hb3
 have hs3 := hb3.size
 have z0 := hu.cell 0; have z1 := hu.cell 1
 have hlt3 : w1.heap.size < w3.heap.size := by omega
 go_wp2_with fail
 refine calls_gen (fun W => Blk W g3 64 #[.bool false, .slice none 0 0, .slice none 0 0] /\ Below w.heap.size w W /\ w3.heap.size <= W.heap.size) ⟨by ((with_reducible repeat first|assumption|(apply bF;focus omega)|apply bS|(apply bN;focus (simp;done))|apply bA|apply bD);all_goals rfl), by go_grown, by simp⟩ ?_
 clear z0 z1 hu hz
 rintro w4 ⟨hz, hw4, hs4⟩
 refine (CZ.out _ hw4).mono ?_
 rintro e w5 ⟨a5, c5, rfl, hV, hb5⟩
 replace hz := hz.below' hb5
 have hw5 := bth hw4 hb5
 have hs5 := hb5.size
 have hr5 := hV w5 (New.refl _ _)
 clear hV
 have HR5 := Hd hr5
 clear hr5
 go_wp2_with fail
 refine (CN.out _ hw5).mono ?_
 rintro e w6 ⟨a6, c6, rfl, hV, hb6⟩
 replace hz := hz.below' hb6
 have hw6 := bth hw5 hb6
 have hs6 := hb6.size
 have CG := CR.out a5 a6 c5 c6 w6 (HR5.out.ext (xbw hb6)) (hV w6 (New.refl _ _))
 replace CG := Hd CG
 clear hV
 go_wp2_with fail
 refine CG.out.mono ?_
 rintro e w7 ⟨a8, c8, b8, d8, rfl, hV1, hV2, hb7⟩
 replace hz := hz.below' hb7
 have hw8 := bth hw6 hb7
 have hwB := hw6.size
 have HV1 := Hd hV1
 have HV2 := Hd hV2
 clear hV1 hV2
 have z0 := hz.cell 0; have z1 := hz.cell 1; have z2 := hz.cell 2; have f0 := hz.frozen 0; have f1 := hz.frozen 1; have f2 := hz.frozen 2
 go_wp2
 have hF := blk3 (x := .bool s) (y := .slice a8 (limbs N).length c8) (z := .slice b8 (limbs D).length d8) hz
 have e0 := hF.cell 0; have e1 := hF.cell 1; have e2 := hF.cell 2
 refine bodyPost_ret (v := .agg #[.bool s, .slice a8 (limbs N).length c8, .slice b8 (limbs D).length d8]) (by simp [results, Tryz.results143, go_sem, e0, e1, e2]) rfl ?_
 exact ⟨a8, c8, b8, d8, rfl, fun V hV => HV1.out V (back3 hV hwB (by omega)), fun V hV => HV2.out V (back3 hV hwB (by omega)), below3 hw8 (by omega)⟩
theorem wholeP_any (n : Nat) (a : Option Addr) (c : Nat) (w : World) :
  Calls Tryz.prog 232 #[.slice a n c] w fun e w' => e = .returned (.agg #[.bool false, .slice a n c]) /\ Below w.heap.size w w' := by
 go_enter Tryz.func232, Tryz.ntmps232
 go_wp2
 have hF := Blk.new w 62 #[.bool false, .slice a n c]
 have e0 := hF.cell 0; have e1 := hF.cell 1
 refine bodyPost_ret (v := .agg #[.bool false, .slice a n c]) (by simp [results, Tryz.results232, go_sem]) rfl ?_
 exact ⟨rfl, brf.alloc (nlr _) _⟩
theorem qv_cmp (s1 s2 : Bool) (P1 D1 P2 D2 : Nat) (hD1 : D1 ≠ 0) (hD2 : D2 ≠ 0) : cmpI (zval s1 (P1 * D2)) (zval s2 (P2 * D1)) = cmpQ (qv s1 P1 D1) (qv s2 P2 D2) := by
 have h1 : ∀ (z1 z2 : Int) (e1 e2 : Nat), e1 ≠ 0 -> e2 ≠ 0 -> (mkRat z1 e1 < mkRat z2 e2 ↔ z1 * e2 < z2 * e1) := by
  intro z1 z2 e1 e2 n1 n2
  have p1 : (0 : Rat) < ((e1 : Nat) : Rat) := by exact_mod_cast (show 0 < e1 by omega)
  have p2 : (0 : Rat) < ((e2 : Nat) : Rat) := by exact_mod_cast (show 0 < e2 by omega)
  rw [Rat.mkRat_eq_div, Rat.mkRat_eq_div, Rat.div_lt_iff p1]
  have e3 : (z2 : Rat) / ((e2 : Nat) : Rat) * ((e1 : Nat) : Rat) = ((z2 : Rat) * ((e1 : Nat) : Rat)) / ((e2 : Nat) : Rat) := by
   rw [Rat.div_def, Rat.div_def, Rat.mul_assoc, Rat.mul_comm (((e2 : Nat) : Rat)⁻¹), <- Rat.mul_assoc]
  rw [e3, Rat.lt_div_iff p2]
  exact_mod_cast Iff.rfl
 unfold cmpI cmpQ qv
 rw [zval_scale, zval_scale]
 simp only [h1 _ _ _ _ hD1 hD2, h1 _ _ _ _ hD2 hD1]
theorem sgn_qv (s1 s2 : Bool) (P1 D1 P2 D2 : Nat) (hD1 : D1 ≠ 0) (hD2 : D2 ≠ 0) : (sgnZ s1 P1 < sgnZ s2 P2 -> cmpQ (qv s1 P1 D1) (qv s2 P2 D2) = -1) /\ (sgnZ s2 P2 < sgnZ s1 P1 -> cmpQ (qv s1 P1 D1) (qv s2 P2 D2) = 1) := by
 rw [<- qv_cmp s1 s2 P1 D1 P2 D2 hD1 hD2, zcmp_sgn]
 have e : ∀ (s : Bool) (a b : Nat), b ≠ 0 -> sgnZ s (a * b) = sgnZ s a := by
  intro s a b hb
  unfold sgnZ
  by_cases ha : a = 0
  · subst ha; simp
  · rw [if_neg (Nat.mul_ne_zero ha hb), if_neg ha]
 rw [e _ _ _ hD2, e _ _ _ hD1]
 constructor
 · intro h; rw [if_pos h]
 · intro h; rw [if_neg (by omega), if_pos h]
theorem qcmp_any (s1 s2 : Bool) (P1 D1 P2 D2 : Nat) (a1 b1 a2 b2 : Option Addr) (c1 d1 c2 d2 : Nat) (w : World) (r1 : NatR w a1 c1 (limbs P1)) (r2 : NatR w b1 d1 (limbs D1)) (r3 : NatR w a2 c2 (limbs P2)) (r4 : NatR w b2 d2 (limbs D2))
  (hD1 : D1 ≠ 0) (hD2 : D2 ≠ 0) (l1 : (limbs P1).length <= 400000) (l2 : (limbs D1).length <= 400000) (l3 : (limbs P2).length <= 400000) (l4 : (limbs D2).length <= 400000) : Calls Tryz.prog 190 #[.agg #[.bool s1, .slice a1 (limbs P1).length c1, .slice b1 (limbs D1).length d1], .agg #[.bool s2, .slice a2 (limbs P2).length c2, .slice b2 (limbs D2).length d2]] w fun e w' => e = .returned (.int .i64 (cmpQ (qv s1 P1 D1) (qv s2 P2 D2))) /\ Below w.heap.size w w' := by
 have m1 := limbs_len_mul P1 D2
 have m2 := limbs_len_mul P2 D1
 have CS1 := fun W (hW : Below w.heap.size w W) => qsign_any s1 (limbs P1) (limbs D1) P1 a1 b1 c1 d1 W (r1.ext (xbw hW)) (r2.ext (xbw hW)) (val_limbs _) (by rw [val_limbs]; exact hD1) (by omega) (by omega)
 have CS2 := fun W (hW : Below w.heap.size w W) => qsign_any s2 (limbs P2) (limbs D2) P2 a2 b2 c2 d2 W (r3.ext (xbw hW)) (r4.ext (xbw hW)) (val_limbs _) (by rw [val_limbs]; exact hD2) (by omega) (by omega)
 have CP1 := fun W (hW : Below w.heap.size w W) => parts_any s1 (limbs P1) (limbs D1) a1 b1 c1 d1 W (r2.ext (xbw hW)) (by rw [val_limbs]; exact hD1) (by omega)
 have CP2 := fun W (hW : Below w.heap.size w W) => parts_any s2 (limbs P2) (limbs D2) a2 b2 c2 d2 W (r4.ext (xbw hW)) (by rw [val_limbs]; exact hD2) (by omega)
 have CZ1 := fun W (hW : Below w.heap.size w W) => zmul_any s1 false (limbs P1) (limbs D2) P1 D2 a1 b2 c1 d2 W (r1.ext (xbw hW)) (r4.ext (xbw hW)) (val_limbs _) (val_limbs _) (by omega) (by omega)
 have CZ2 := fun W (hW : Below w.heap.size w W) => zmul_any s2 false (limbs P2) (limbs D1) P2 D1 a2 b1 c2 d1 W (r3.ext (xbw hW)) (r2.ext (xbw hW)) (val_limbs _) (val_limbs _) (by omega) (by omega)
 have x1 : (s1 != false) = s1 := by cases s1 <;> rfl
 have x2 : (s2 != false) = s2 := by cases s2 <;> rfl
 simp only [x1] at CZ1
 simp only [x2] at CZ2
 have CC := fun a b c d W h h' => zcmp_any (s1 && decide (0 < P1 * D2)) (s2 && decide (0 < P2 * D1)) (limbs (P1 * D2)) (limbs (P2 * D1)) (P1 * D2) (P2 * D1) a b c d W h h' (val_limbs _) (val_limbs _) (by omega) (by omega)
 simp only [zval_pos, qv_cmp s1 s2 P1 D1 P2 D2 hD1 hD2] at CC
 have hsg := sgn_qv s1 s2 P1 D1 P2 D2 hD1 hD2
 obtain ⟨R, hR⟩ : ∃ q, cmpQ (qv s1 P1 D1) (qv s2 P2 D2) = q := ⟨_, rfl⟩
 rw [hR] at hsg ⊢
 simp only [hR] at CC
 obtain ⟨p1, hp1⟩ : ∃ q, (s1 && decide (0 < P1 * D2)) = q := ⟨_, rfl⟩
 obtain ⟨p2, hp2⟩ : ∃ q, (s2 && decide (0 < P2 * D1)) = q := ⟨_, rfl⟩
 simp only [hp1] at CZ1 CC
 simp only [hp2] at CZ2 CC
 have HSG := Hd hsg
 clear hsg hR hp1 hp2 x1 x2 m1 m2 hD1 hD2
 revert CZ1 CZ2 CC
 generalize P1 * D2 = PP
 generalize P2 * D1 = DD
 intro CZ1 CZ2 CC
 revert CS1 CS2 HSG
 generalize sgnZ s1 P1 = s
 generalize sgnZ s2 P2 = t
 intro CS1 CS2 HSG
 replace CS1 := Hd CS1; replace CS2 := Hd CS2; replace CP1 := Hd CP1; replace CP2 := Hd CP2; replace CZ1 := Hd CZ1; replace CZ2 := Hd CZ2; replace CC := Hd CC
 have W1 := fun W => wholeP_any (limbs D2).length b2 d2 W
 have W2 := fun W => wholeP_any (limbs D1).length b1 d1 W
 replace W1 := Hd W1; replace W2 := Hd W2
 clear r1 r2 r3 r4
 go_enter Tryz.func190, Tryz.ntmps190
 go_wp2
 refine world_gen (fun W => Blk W w.heap.size 64 #[.bool s1, .slice a1 (limbs P1).length c1, .slice b1 (limbs D1).length d1] /\ Blk W (w.heap.size + 1) 64 #[.bool s2, .slice a2 (limbs P2).length c2, .slice b2 (limbs D2).length d2] /\ Below w.heap.size w W /\ w.heap.size < w.heap.size + 1 /\ w.heap.size + 1 < W.heap.size) ⟨(Blk.new w _ _).alloc _, blk_at1 w _ _ _, by go_grown, by omega, by simp⟩ ?_
 rintro w0 ⟨hx, hy, hw0, hg1, hg2⟩
 revert hx hy hg1 hg2
 generalize w.heap.size + 1 = g2
 intro hx hy hg1 hg2
 have k0 := held (hx.cell 0); have k1 := held (hx.cell 1); have k2 := held (hx.cell 2); have k3 := held (hy.cell 0); have k4 := held (hy.cell 1); have k5 := held (hy.cell 2)
 have s0 : Below w0.heap.size w0 w0.drew := brf.drew
 refine wp_region_mix (S := Below w0.heap.size w0) [(0, .q), (2, .q), (1, .l), (3, .t), (4, .p), (5, .p)] (by kernel_rfl) (by kernel_rfl) (by kernel_rfl) (fun d _ _ _ _ h => by cases d <;> exact h) (s0) ?_
 iterate 2 (refine wpMix_q rfl rfl (fun K hK => ?_); apply Exists.intro; refine ⟨fun w' hw' => ?_, ?_⟩; (focus (go_simp; try rfl)); go_simp; refine hK _ _ ?_; clear hK K)
 refine wpMix_l rfl rfl (fun K hK => ?_)
 go_simp
 refine (CS1.out _ (bth hw0 s0)).mono ?_
 rintro r w1 ⟨rfl, hb1⟩
 dsimp only
 refine hK.out _ _ (bth s0 hb1) (fun _ => ?_)
 clear hK K
 have t1 := bth s0 hb1
 refine wpMix_t rfl rfl (fun K hK => ?_)
 go_simp
 refine (CS2.out _ (bth hw0 t1)).mono ?_
 rintro r w2 ⟨rfl, hb2⟩
 dsimp only
 refine hK.out _ _ ?_
 clear hK K
 have t2 := bth t1 hb2
 iterate 2 (refine wpMix_p rfl rfl (fun K hK => ?_); apply Exists.intro; refine ⟨fun w' => ?_, ?_⟩; (focus (go_simp; try rfl)); go_simp; refine hK _ _ ?_; clear hK K)
 refine wpMix_nil ?_
 replace hx := hx.below' t2
 replace hy := hy.below' t2
 have hw2 := bth hw0 t2
 have hs2 := t2.size
 clear k0 k1 k2 k3 k4 k5 s0 t1 t2 hb1 hb2 CS1 CS2
 by_cases h1 : s < t
 ·
  obtain rfl : R = -1 := HSG.out.1 h1
  have hne : (s != t) = true := by simp; omega
  go_wp2
  go_ret
  exact ⟨rfl, hw2⟩
 ·
  by_cases h2 : t < s
  ·
   obtain rfl : R = 1 := HSG.out.2 h2
   have hne : (s != t) = true := by simp; omega
   go_wp2
   go_ret
   exact ⟨rfl, hw2⟩
  ·
   have hne : (s != t) = false := by simp; omega
   clear HSG
   have z0 := hx.cell 0; have z1 := hx.cell 1; have z2 := hx.cell 2
   go_wp2_with fail
   refine (CP1.out _ hw2).mono ?_
   rintro e w3 ⟨rfl, hb3⟩
   replace hy := hy.below' hb3
   have hw3 := bth hw2 hb3
   have hs3 := hb3.size
   clear z0 z1 z2 hx hne h1 h2
   have z0 := hy.cell 0; have z1 := hy.cell 1; have z2 := hy.cell 2; have lt2 := hy.lt
   go_wp2_with fail
   refine calls_gen (fun W => Blk W w3.heap.size 62 #[.bool s1, .slice a1 (limbs P1).length c1] /\ Below w.heap.size w W /\ w3.heap.size < W.heap.size) ⟨by ((with_reducible repeat first|assumption|(apply bF;focus omega)|apply bS|(apply bN;focus (simp;done))|apply bA|apply bD);all_goals rfl), by go_grown, by simp⟩ ?_
   clear z0 z1 z2 lt2 hy
   rintro w4 ⟨hu, hw4, hs4⟩
   refine (CP2.out _ hw4).mono ?_
   rintro e w5 ⟨rfl, hb5⟩
   replace hu := hu.below' hb5
   have hw5 := bth hw4 hb5
   have hs5 := hb5.size
   have hlt5 : w3.heap.size < w5.heap.size := by omega
   go_wp2
   refine world_gen (fun W => Blk W w3.heap.size 62 #[.bool s1, .slice a1 (limbs P1).length c1] /\ Blk W w5.heap.size 62 #[.bool s2, .slice a2 (limbs P2).length c2] /\ Below w.heap.size w W) (by refine ⟨?_,?_,?_⟩<;>first|((with_reducible repeat first|assumption|(apply bF;focus omega)|apply bS|(apply bN;focus (simp;done))|apply bA|apply bD);all_goals rfl)|go_grown) ?_
   clear hu
   rintro w6 ⟨hu, hv, hw6⟩
   have k0 := held (hu.cell 0); have k1 := held (hu.cell 1); have k2 := held (hv.cell 0); have k3 := held (hv.cell 1)
   have s0 : Below w6.heap.size w6 w6.drew := brf.drew
   refine wp_region_mix (S := Below w6.heap.size w6) [(0, .q), (1, .q), (4, .q), (5, .q), (2, .l), (3, .l), (6, .l), (7, .t), (8, .t), (9, .p)] (by kernel_rfl) (by kernel_rfl) (by kernel_rfl) (fun d _ _ _ _ h => by cases d <;> exact h) (s0) ?_
   iterate 4 (refine wpMix_q rfl rfl (fun K hK => ?_); apply Exists.intro; refine ⟨fun w' hw' => ?_, ?_⟩; (focus (go_simp; try rfl)); go_simp; refine hK _ _ ?_; clear hK K)
   refine wpMix_l rfl rfl (fun K hK => ?_)
   go_simp
   refine (W1.out _).mono ?_
   rintro r w7 ⟨rfl, hb7⟩
   dsimp only
   refine hK.out _ _ (bth s0 hb7) (fun _ => ?_)
   clear hK K
   have t3 := bth s0 hb7
   refine wpMix_l rfl rfl (fun K hK => ?_)
   go_simp
   refine (CZ1.out _ (bth hw6 t3)).mono ?_
   rintro r w8 ⟨a8, c8, rfl, hV8, hb8⟩
   dsimp only
   refine hK.out _ _ (bth t3 hb8) (fun _ => ?_)
   clear hK K
   have t4 := bth t3 hb8
   have HV8 := Hd hV8
   clear hV8
   refine wpMix_l rfl rfl (fun K hK => ?_)
   go_simp
   refine (W2.out _).mono ?_
   rintro r w9 ⟨rfl, hb9⟩
   dsimp only
   refine hK.out _ _ (bth t4 hb9) (fun _ => ?_)
   clear hK K
   have t5 := bth t4 hb9
   refine wpMix_t rfl rfl (fun K hK => ?_)
   go_simp
   refine (CZ2.out _ (bth hw6 t5)).mono ?_
   rintro r w10 ⟨a9, c9, rfl, hV9, hb10⟩
   dsimp only
   refine hK.out _ _ ?_
   clear hK K
   have t6 := bth t5 hb10
   have CD := CC.out a8 a9 c8 c9 w10 (HV8.out w10 (((New.refl _ _).below hb10).below hb9)) (hV9 w10 (New.refl _ _))
   replace CD := Hd CD
   clear hV9
   refine wpMix_t rfl rfl (fun K hK => ?_)
   go_simp
   refine (CD.out).mono ?_
   rintro r w11 ⟨rfl, hb11⟩
   dsimp only
   refine hK.out _ _ ?_
   clear hK K
   have t7 := bth t6 hb11
   iterate 1 (refine wpMix_p rfl rfl (fun K hK => ?_); apply Exists.intro; refine ⟨fun w' => ?_, ?_⟩; (focus (go_simp; try rfl)); go_simp; refine hK _ _ ?_; clear hK K)
   refine wpMix_nil ?_
   go_wp2
   go_ret
   exact ⟨rfl, bth hw6 t7⟩
theorem lowest_z (z : Int) (d : Nat) : lowest (decide (z < 0)) z.natAbs d = trip (mkRat z d) := by
 rw [lowest_qv]
 unfold qv
 rw [zval_self]
def QK (k : Nat) (w : World) (x : QA) (q : Rat) : Prop := QAc w x q /\ qsz q <= k
theorem QK.ext {k : Nat} {w w' : World} {x : QA} {q : Rat} (h : QK k w x q) (e : Ext w w') : QK k w' x q := ⟨h.1.ext e, h.2⟩
theorem QK.more {k k' : Nat} {w : World} {x : QA} {q : Rat} (h : QK k w x q) (e : k <= k') : QK k' w x q := ⟨h.1, Nat.le_trans h.2 e⟩
def RetQK (k : Nat) (q : Rat) (w : World) (e : Ending) (w' : World) : Prop := ∃ x : QA, e = .returned (.agg #[.bool x.neg, .slice x.a x.n x.c, .slice x.b x.m x.d]) /\ Kp (fun V => QK k V x q) w.heap.size w'.heap.size w' /\ Below w.heap.size w w'
theorem retF_q {k : Nat} {q : Rat} {w : World} {e : Ending} {w' : World} (hk : qsz q <= k) (h : RetF (trip q) w e w') : RetQK k q w e w' := by
 obtain ⟨na, nc, da, dc, rfl, h1, h2, hb⟩ := h
 exact ⟨⟨decide (q.num < 0), (limbs q.num.natAbs).length, na, nc, (limbs q.den).length, da, dc⟩, rfl, Kp.made fun V hV => ⟨⟨rfl, rfl, rfl, h1 V hV, h2 V hV⟩, hk⟩, hb⟩
theorem cmp_q (x y : QA) (p q : Rat) (k1 k2 : Nat) (w : World) (H1 : QK k1 w x p) (H2 : QK k2 w y q) (h1 : k1 <= 100000) (h2 : k2 <= 100000) : Calls Tryz.prog 190 #[.agg #[.bool x.neg, .slice x.a x.n x.c, .slice x.b x.m x.d], .agg #[.bool y.neg, .slice y.a y.n y.c, .slice y.b y.m y.d]] w fun e w' => e = .returned (.int .i64 (cmpQ p q)) /\ Below w.heap.size w w' := by
 obtain ⟨s1, n1, a1, c1, m1, b1, d1⟩ := x
 obtain ⟨s2, n2, a2, c2, m2, b2, d2⟩ := y
 obtain ⟨⟨e1, e2, e3, r1, r2⟩, z1⟩ := H1
 obtain ⟨⟨e4, e5, e6, r3, r4⟩, z2⟩ := H2
 dsimp only at e1 e2 e3 e4 e5 e6 r1 r2 r3 r4 ⊢
 subst e1 e2 e3 e4 e5 e6
 have l1 := qsz_num p
 have l2 := qsz_den p
 have l3 := qsz_num q
 have l4 := qsz_den q
 have := qcmp_any (decide (p.num < 0)) (decide (q.num < 0)) p.num.natAbs p.den q.num.natAbs q.den a1 b1 a2 b2 c1 d1 c2 d2 w r1 r2 r3 r4 p.den_nz q.den_nz (by omega) (by omega) (by omega) (by omega)
 rwa [qv_parts, qv_parts] at this
theorem cmpR_q (x y : QA) (p q : Rat) (k1 k2 : Nat) (w : World) (H1 : QK k1 w x p) (H2 : QK k2 w y q) (h1 : k1 <= 100000) (h2 : k2 <= 100000) : Calls Tryz.prog 167 #[.agg #[.bool x.neg, .slice x.a x.n x.c, .slice x.b x.m x.d], .agg #[.bool y.neg, .slice y.a y.n y.c, .slice y.b y.m y.d]] w fun e w' => e = .returned (.int .i64 (cmpQ p q)) /\ Below w.heap.size w w' := by
 obtain ⟨s1, n1, a1, c1, m1, b1, d1⟩ := x
 obtain ⟨s2, n2, a2, c2, m2, b2, d2⟩ := y
 obtain ⟨⟨e1, e2, e3, r1, r2⟩, z1⟩ := H1
 obtain ⟨⟨e4, e5, e6, r3, r4⟩, z2⟩ := H2
 dsimp only at e1 e2 e3 e4 e5 e6 r1 r2 r3 r4 ⊢
 subst e1 e2 e3 e4 e5 e6
 have l1 := qsz_num p
 have l2 := qsz_den p
 have l3 := qsz_num q
 have l4 := qsz_den q
 have := qcmpR_any (decide (p.num < 0)) (decide (q.num < 0)) (limbs p.num.natAbs) (limbs p.den) (limbs q.num.natAbs) (limbs q.den) p.num.natAbs p.den q.num.natAbs q.den a1 b1 a2 b2 c1 d1 c2 d2 w r1 r2 r3 r4 (val_limbs _) (val_limbs _) (val_limbs _) (val_limbs _) (by omega) (by omega) (by omega) (by omega)
 rwa [crossed_lowest, qv_parts, qv_parts] at this
structure Rt where
 neg : Bool
 num : List Int
 den : List Int
def Rt.val (r : Rt) (na : Option Addr) (nc : Nat) (da : Option Addr) (dc : Nat) : Value := .agg #[.bool r.neg, .slice na r.num.length nc, .slice da r.den.length dc]
structure Step where
 kind : Int
 point : ByteArray
 args : List Int
 ratio : Rt
structure Fct where
 kind : Int
 args : List Int
 ratio : Rt
structure Fig where
 steps : List Step
 goals : List Fct
structure RA where
 aa : Option Addr
 ac : Nat
 na : Option Addr
 nc : Nat
 da : Option Addr
 dc : Nat
def PartsR (w : World) (p : RA) (args : List Int) (r : Rt) : Prop := IntsR w p.aa p.ac args /\ NatR w p.na p.nc r.num /\ NatR w p.da p.dc r.den
theorem PartsR.ext {w w' : World} {p : RA} {args : List Int} {r : Rt} (h : PartsR w p args r) (e : Ext w w') : PartsR w' p args r := ⟨h.1.ext e, h.2.1.ext e, h.2.2.ext e⟩
def rightI (neg : Bool) (num : List Int) : Bool := canonB num && !(neg && decide (num.length = 0))
def Rt.right (r : Rt) : Bool := rightI r.neg r.num && canonB r.den && decide (Nat.gcd (Go.Proofs.YtdnblkklgdnapaaGreatDoor.val r.num) (Go.Proofs.YtdnblkklgdnapaaGreatDoor.val r.den) = 1) && decide (0 < r.den.length)
theorem right02_any (neg : Bool) (num : List Int) (a : Option Addr) (c : Nat) (w : World) (h : NatR w a c num) :
  Calls Tryz.prog 135 #[.agg #[.bool neg, .slice a num.length c]] w fun r w' => r = .returned (.bool (rightI neg num)) /\ Below w.heap.size w w' := by
 have CV := fun W (hW : Below w.heap.size w W) => valid01_any num a c W (h.ext (xbw hW))
 obtain ⟨b1, hb1⟩ : ∃ b, canonB num = b := ⟨_, rfl⟩
 rw [hb1] at CV
 replace CV := Hd CV
 unfold rightI
 rw [hb1]
 clear hb1 h
 by_cases h0 : num.length = 0
 ·
  have e0 : ((num.length : Int) == 0) = true := by simp [h0]
  have H0 := Hd h0
  clear h0
  cases b1 <;> cases neg
  all_goals
   go_enter Tryz.func135, Tryz.ntmps135
   go_wp2_with (go_at_call 136; refine (CV.out _ (brf.alloc (nlr _) _)).mono ?_; rintro e w' ⟨rfl, rfl⟩)
   go_ret
   refine ⟨ret_bool ?_, brf.alloc (nlr _) _⟩
   simp [H0.out]
 ·
  have e0 : ((num.length : Int) == 0) = false := by simp; exact fun e => h0 (by simp [e])
  have H0 := Hd h0
  clear h0
  cases b1 <;> cases neg
  all_goals
   go_enter Tryz.func135, Tryz.ntmps135
   go_wp2_with (go_at_call 136; refine (CV.out _ (brf.alloc (nlr _) _)).mono ?_; rintro e w' ⟨rfl, rfl⟩)
   go_ret
   refine ⟨ret_bool ?_, brf.alloc (nlr _) _⟩
   simp [H0.out]
theorem right03_any (r : Rt) (na : Option Addr) (nc : Nat) (da : Option Addr) (dc : Nat) (w : World) (h : NatR w na nc r.num) (h' : NatR w da dc r.den) (hl : r.num.length <= 2000000) (hm : r.den.length <= 2000000) :
  Calls Tryz.prog 67 #[r.val na nc da dc] w fun e w' => e = .returned (.bool r.right) /\ Below w.heap.size w w' := by
 obtain ⟨neg, num, den⟩ := r
 have CR := fun W (hW : Below w.heap.size w W) => right02_any neg num na nc W (h.ext (xbw hW))
 have CV := fun W (hW : Below w.heap.size w W) => valid01_any den da dc W (h'.ext (xbw hW))
 have CG := fun W (hW : Below w.heap.size w W) => gcd01_any num den (val num) (val den) na da nc dc W (h.ext (xbw hW)) (h'.ext (xbw hW)) rfl rfl hl hm
 have CS := fun (xs ys : List Int) (a a' : Option Addr) (c c' : Nat) W => same01_any xs ys a a' c c' W
 have CO := fun W => of01_any 1 W (by omega)
 obtain ⟨b1, hb1⟩ : ∃ b, rightI neg num = b := ⟨_, rfl⟩
 obtain ⟨b2, hb2⟩ : ∃ b, canonB den = b := ⟨_, rfl⟩
 obtain ⟨b3, hb3⟩ : ∃ b, decide (Nat.gcd (val num) (val den) = 1) = b := ⟨_, rfl⟩
 obtain ⟨b4, hb4⟩ : ∃ b, decide (0 < den.length) = b := ⟨_, rfl⟩
 have hb4' : decide ((0 : Int) < (den.length : Int)) = b4 := by rw [<- hb4]; simp
 have hs : decide (limbs (Nat.gcd (val num) (val den)) = limbs 1) = b3 := by rw [<- hb3]; simp [limbs_inj]
 rw [hb1] at CR
 rw [hb2] at CV
 have hres : Rt.right ⟨neg, num, den⟩ = (b1 && b2 && b3 && b4) := by simp only [Rt.right, hb1, hb2, hb3, hb4]
 rw [hres]
 unfold Rt.val
 dsimp only
 dsimp only at hl hm
 generalize Nat.gcd (val num) (val den) = g at CG hs
 replace CR := Hd CR; replace CV := Hd CV; replace CG := Hd CG; replace CS := Hd CS; replace CO := Hd CO
 have HS := Hd hs
 have H4 := Hd hb4
 clear hb1 hb2 hb3 hs hres h h' hb4
 cases b1
 ·
  clear hb4' H4 HS
  go_enter Tryz.func67, Tryz.ntmps67
  go_wp2_with fail
  refine (CR.out _ (brf.alloc (nlr _) _)).mono ?_
  rintro e w1 ⟨rfl, hb⟩
  have hw := ((Below.refl _ w).alloc (nlr _) _).trans (hb.mono (by simp))
  go_wp2
  go_ret
  exact ⟨rfl, hw⟩
 ·
  cases b2
  ·
   clear hb4' H4 HS
   go_enter Tryz.func67, Tryz.ntmps67
   have hz : Blk (w.alloc (.cells #[.bool neg, .slice na num.length nc, .slice da den.length dc] 64)) w.heap.size 64 #[.bool neg, .slice na num.length nc, .slice da den.length dc] := Blk.new w _ _
   have hw0 : Below w.heap.size w (w.alloc (.cells #[.bool neg, .slice na num.length nc, .slice da den.length dc] 64)) := brf.alloc (nlr _) _
   go_wp2_with fail
   revert hz hw0
   generalize w.alloc (.cells #[.bool neg, .slice na num.length nc, .slice da den.length dc] 64) = w0
   intro hz hw0
   refine (CR.out _ hw0).mono ?_
   rintro e w1 ⟨rfl, hb⟩
   have hw1 := hw0.trans (hb.mono hw0.size)
   replace hz := hz.below' hb
   have z0 := hz.cell 0; have z1 := hz.cell 1; have z2 := hz.cell 2
   clear hb hz hw0
   go_wp2_with fail
   refine (CV.out _ hw1).mono ?_
   rintro e w2 ⟨rfl, rfl⟩
   go_wp2
   go_ret
   exact ⟨rfl, hw1⟩
  ·
   have hz : Blk (w.alloc (.cells #[.bool neg, .slice na num.length nc, .slice da den.length dc] 64)) w.heap.size 64 #[.bool neg, .slice na num.length nc, .slice da den.length dc] := Blk.new w _ _
   have hw0 : Below w.heap.size w (w.alloc (.cells #[.bool neg, .slice na num.length nc, .slice da den.length dc] 64)) := brf.alloc (nlr _) _
   cases b3 <;> cases b4
   all_goals
    go_enter Tryz.func67, Tryz.ntmps67
    go_wp2_with fail
    revert hz hw0
    generalize w.alloc (.cells #[.bool neg, .slice na num.length nc, .slice da den.length dc] 64) = w0
    intro hz hw0
    refine (CR.out _ hw0).mono ?_
    rintro e w1 ⟨rfl, hb⟩
    have hw1 := hw0.trans (hb.mono hw0.size)
    replace hz := hz.below' hb
    have z0 := hz.cell 0; have z1 := hz.cell 1; have z2 := hz.cell 2
    clear hb hw0
    go_wp2_with fail
    refine (CV.out _ hw1).mono ?_
    rintro e w2 ⟨rfl, rfl⟩
    go_wp2_with fail
    refine (CG.out _ hw1).mono ?_
    rintro e w2 ⟨a2, c2, rfl, hV2, hb2⟩
    have hw2 := hw1.trans (hb2.mono hw1.size)
    replace hz := hz.below' hb2
    replace z0 := hz.cell 0; replace z1 := hz.cell 1; replace z2 := hz.cell 2
    have HV2 := Hd hV2
    clear hV2
    go_wp2_with fail
    refine (CO.out _).mono ?_
    rintro e w3 ⟨a3, c3, rfl, hV3, hb3⟩
    have hw3 := hw2.trans (hb3.mono hw2.size)
    replace hz := hz.below' hb3
    replace z0 := hz.cell 0; replace z1 := hz.cell 1; replace z2 := hz.cell 2
    have CS2 := CS.out (limbs g) (limbs 1) a2 a3 c2 c3 w3 (HV2.out w3 ((New.refl _ _).below hb3)) (hV3 w3 (New.refl _ _))
    rw [HS.out] at CS2
    replace CS2 := Hd CS2
    clear hV3
    go_wp2_with fail
    refine CS2.out.mono ?_
    rintro e w4 ⟨rfl, hb4⟩
    have hw4 := hw3.trans (hb4.mono hw3.size)
    replace hz := hz.below' hb4
    replace z0 := hz.cell 0; replace z1 := hz.cell 1; replace z2 := hz.cell 2
    clear hb4 hb3 hb2 CS2
    go_wp2
    go_ret
    exact ⟨ret_bool (by first | rfl | (rw [H4.out]; rfl)), hw4⟩
structure Trm where
 coef : Rt
 mono : List Int
def Trm.val (t : Trm) (p : RA) : Value := .agg #[.bool t.coef.neg, .slice p.na t.coef.num.length p.nc, .slice p.da t.coef.den.length p.dc, .slice p.aa t.mono.length p.ac]
def TrmC (w : World) (b o : Nat) (p : RA) (t : Trm) : Prop :=
 w.cell? ⟨b, o, none⟩ = some (.bool t.coef.neg) /\ w.cell? ⟨b, o + 1, none⟩ = some (.slice p.na t.coef.num.length p.nc) /\
 w.cell? ⟨b, o + 2, none⟩ = some (.slice p.da t.coef.den.length p.dc) /\ w.cell? ⟨b, o + 3, none⟩ = some (.slice p.aa t.mono.length p.ac)
theorem TrmC.ext {w w' : World} {b o : Nat} {p : RA} {t : Trm} (h : TrmC w b o p t) (e : Ext w w') : TrmC w' b o p t :=
 ⟨e _ _ h.1, e _ _ h.2.1, e _ _ h.2.2.1, e _ _ h.2.2.2⟩
def TrmE (w : World) (b o : Nat) (t : Trm) : Prop := ∃ p, TrmC w b o p t /\ PartsR w p t.mono t.coef
def PolyR (w : World) (a : Option Addr) (c : Nat) (l : List Trm) : Prop := SlR 4 TrmE w a c l
theorem PolyR.ext {w w' : World} {a : Option Addr} {c : Nat} {l : List Trm} (h : PolyR w a c l) (e : Ext w w') : PolyR w' a c l :=
 SlR.mono h fun _ _ _ _ ⟨p, h1, h2⟩ => ⟨p, h1.ext e, h2.ext e⟩
def PolyE (w : World) (b o : Nat) (p : List Trm) : Prop := ∃ a c, w.cell? ⟨b, o, none⟩ = some (.slice a p.length c) /\ PolyR w a c p
def PolysR (w : World) (a : Option Addr) (c : Nat) (l : List (List Trm)) : Prop := SlR 1 PolyE w a c l
theorem PolysR.ext {w w' : World} {a : Option Addr} {c : Nat} {l : List (List Trm)} (h : PolysR w a c l) (e : Ext w w') : PolysR w' a c l :=
 SlR.mono h fun _ _ _ _ ⟨p, q, h1, h2⟩ => ⟨p, q, e _ _ h1, h2.ext e⟩
structure Crt where
 factors : List (List Trm)
 powers : List Int
 power : Int
 cofactors : List (List Trm)
structure CA where
 fa : Option Addr
 fc : Nat
 wa : Option Addr
 wc : Nat
 ca : Option Addr
 cc : Nat
def Crt.val (c : Crt) (p : CA) : Value := .agg #[.slice p.fa c.factors.length p.fc, .slice p.wa c.powers.length p.wc, .int .i64 c.power, .slice p.ca c.cofactors.length p.cc]
def CrtR (w : World) (p : CA) (c : Crt) : Prop := PolysR w p.fa p.fc c.factors /\ IntsR w p.wa p.wc c.powers /\ PolysR w p.ca p.cc c.cofactors /\ InInt c.power
def monoB (l : List Int) : Bool := decide (l.length <= 64) && !(decide (l[l.length - 1]? = some 0)) && l.all fun x => decide (0 <= x /\ x <= 1048576)
theorem monoB_long {l : List Int} (h : 64 < l.length) : monoB l = false := by unfold monoB; rw [decide_eq_false (by omega)]; rfl
theorem monoB_last {l : List Int} (h : l[l.length - 1]? = some 0) : monoB l = false := by unfold monoB; rw [decide_eq_true h]; simp
theorem monoB_bad {l : List Int} {k : Nat} {x : Int} (h : l[k]? = some x) (hx : ¬ (0 <= x /\ x <= 1048576)) : monoB l = false := by
 unfold monoB
 rw [show (l.all fun x => decide (0 <= x /\ x <= 1048576)) = false from ?_]
 · simp
 · rw [List.all_eq_false]; exact ⟨x, List.mem_of_getElem? h, by simpa using hx⟩
theorem monoB_good {l : List Int} (h1 : l.length <= 64) (h2 : l[l.length - 1]? ≠ some 0) (h3 : (l.all fun x => decide (0 <= x /\ x <= 1048576)) = true) : monoB l = true := by
 unfold monoB; rw [decide_eq_true h1, decide_eq_false h2, h3]; rfl
theorem monoB_mem {l : List Int} (h : monoB l = true) : l.length <= 64 /\ ∀ x ∈ l, 0 <= x /\ x <= 1048576 := by
 unfold monoB at h
 simp only [Bool.and_eq_true, decide_eq_true_eq, List.all_eq_true] at h
 exact ⟨h.1.1, h.2⟩
def expAt (l : List Int) (v : Nat) : Int := l.getD v 0
theorem expAt_in {l : List Int} (h : ∀ x ∈ l, 0 <= x /\ x <= 1048576) (v : Nat) : 0 <= expAt l v /\ expAt l v <= 1048576 := by
 unfold expAt
 rw [List.getD_eq_getElem?_getD]
 cases hx : l[v]? with
 | none => simp
 | some x => exact h x (List.mem_of_getElem? hx)
def lexDown (a b : List Int) : Nat -> Int
 | 0 => 0
 | v + 1 => if expAt a v = expAt b v then lexDown a b v else if expAt a v < expAt b v then -1 else 1
def lexI (a b : List Int) : Int := lexDown a b (max a.length b.length)
def okT (t : Trm) : Bool := t.coef.right && !(decide (val t.coef.num = 0)) && monoB t.mono
def badAt (l : List Trm) (i : Nat) : Bool :=
 match l[i]? with
 | none => false
 | some t => !(okT t) || (match i with
  | 0 => false
  | j + 1 => match l[j]? with
   | none => false
   | some s => decide (lexI s.mono t.mono <= 0))
def polyB (l : List Trm) : Bool := (List.range l.length).all fun i => !(badAt l i)
theorem polyB_bad {l : List Trm} {i : Nat} (hi : i < l.length) (h : badAt l i = true) : polyB l = false := by
 unfold polyB; rw [List.all_eq_false]; exact ⟨i, List.mem_range.2 hi, by simp [h]⟩
theorem polyB_good {l : List Trm} (h : ∀ i, i < l.length -> badAt l i = false) : polyB l = true := by
 unfold polyB; rw [List.all_eq_true]; intro i hi; simp [h i (List.mem_range.1 hi)]
theorem badAt_term {l : List Trm} {i : Nat} {t : Trm} (h : l[i]? = some t) (ho : okT t = false) : badAt l i = true := by
 unfold badAt; rw [h]; simp [ho]
theorem badAt_zero {l : List Trm} {t : Trm} (h : l[0]? = some t) (ho : okT t = true) : badAt l 0 = false := by
 unfold badAt; rw [h]; simp [ho]
theorem badAt_succ {l : List Trm} {j : Nat} {s t : Trm} (h : l[j + 1]? = some t) (hs : l[j]? = some s) (ho : okT t = true) : badAt l (j + 1) = decide (lexI s.mono t.mono <= 0) := by
 unfold badAt; rw [h]; dsimp only; rw [hs]; simp [ho]
theorem badAt_ok {l : List Trm} {i : Nat} {t : Trm} (h : l[i]? = some t) (hb : badAt l i = false) : okT t = true := by
 cases ho : okT t
 · rw [badAt_term h ho] at hb; cases hb
 · rfl
def facB (c : Crt) (k : Nat) : Bool :=
 match c.powers[k]?, c.factors[k]? with
 | some x, some f => decide (0 <= x /\ x <= 64) && !(decide (f.length = 0)) && polyB f
 | _, _ => false
theorem facB_of {c : Crt} {k : Nat} {x : Int} {f : List Trm} (hx : c.powers[k]? = some x) (hf : c.factors[k]? = some f) : facB c k = (decide (0 <= x /\ x <= 64) && !(decide (f.length = 0)) && polyB f) := by
 unfold facB; rw [hx, hf]
def crtB (c : Crt) : Bool :=
 decide (c.powers.length = c.factors.length) && decide (1 <= c.power /\ c.power <= 64) && ((List.range c.factors.length).all (facB c)) && c.cofactors.all polyB
theorem crtB_len {c : Crt} (h : c.powers.length ≠ c.factors.length) : crtB c = false := by unfold crtB; rw [decide_eq_false h]; rfl
theorem crtB_pow {c : Crt} (h : ¬ (1 <= c.power /\ c.power <= 64)) : crtB c = false := by unfold crtB; rw [decide_eq_false h]; simp
theorem crtB_fac {c : Crt} {k : Nat} (hk : k < c.factors.length) (h : facB c k = false) : crtB c = false := by
 unfold crtB
 rw [show ((List.range c.factors.length).all (facB c)) = false from ?_]
 · simp
 · rw [List.all_eq_false]; exact ⟨k, List.mem_range.2 hk, by simp [h]⟩
theorem crtB_cof {c : Crt} {k : Nat} {q : List Trm} (hk : c.cofactors[k]? = some q) (h : polyB q = false) : crtB c = false := by
 unfold crtB
 rw [show (c.cofactors.all polyB) = false from ?_]
 · simp
 · rw [List.all_eq_false]; exact ⟨q, List.mem_of_getElem? hk, by simp [h]⟩
theorem crtB_good {c : Crt} (h1 : c.powers.length = c.factors.length) (h2 : 1 <= c.power /\ c.power <= 64) (h3 : ∀ k, k < c.factors.length -> facB c k = true) (h4 : (c.cofactors.take c.cofactors.length).all polyB = true) : crtB c = true := by
 unfold crtB
 rw [List.take_length] at h4
 rw [decide_eq_true h1, decide_eq_true h2, h4]
 simp only [Bool.and_eq_true, List.all_eq_true, Bool.true_and, Bool.and_true]
 exact fun k hk => h3 k (List.mem_range.1 hk)
def fitT (t : Trm) : Bool := decide (t.mono.length <= 6) && decide (t.coef.num.length <= 4) && decide (t.coef.den.length <= 4)
def fitP (p : List Trm) : Bool := p.all fitT && decide (p.length <= 8)
def fitL (l : List (List Trm)) : Bool := l.all fitP && decide (l.length <= 6)
theorem fitL_mem {l : List (List Trm)} (h : fitL l = true) : l.length <= 6 /\ ∀ p ∈ l, p.length <= 8 /\ ∀ t ∈ p, t.mono.length <= 6 /\ t.coef.num.length <= 4 /\ t.coef.den.length <= 4 := by
 unfold fitL fitP fitT at h
 simp only [Bool.and_eq_true, decide_eq_true_eq, List.all_eq_true] at h
 exact ⟨h.2, fun p hp => ⟨(h.1 p hp).2, fun t ht => by have := (h.1 p hp).1 t ht; omega⟩⟩
theorem fitL_term {l : List (List Trm)} {k j : Nat} {p : List Trm} {t : Trm} (hp : l[k]? = some p) (ht : p[j]? = some t) (h : fitT t = false) : fitL l = false := by
 unfold fitL fitP
 rw [show (l.all fun p => p.all fitT && decide (p.length <= 8)) = false from ?_]
 · rfl
 ·
  rw [List.all_eq_false]
  refine ⟨p, List.mem_of_getElem? hp, ?_⟩
  rw [show p.all fitT = false from ?_]
  · simp
  · rw [List.all_eq_false]; exact ⟨t, List.mem_of_getElem? ht, by simp [h]⟩
theorem fitL_long {l : List (List Trm)} {k : Nat} {p : List Trm} (hp : l[k]? = some p) (h : 8 < p.length) : fitL l = false := by
 unfold fitL fitP
 rw [show (l.all fun p => p.all fitT && decide (p.length <= 8)) = false from ?_]
 · rfl
 ·
  rw [List.all_eq_false]
  refine ⟨p, List.mem_of_getElem? hp, ?_⟩
  rw [decide_eq_false (by omega)]; simp
theorem fitL_end {l : List (List Trm)} (h : (l.take l.length).all fitP = true) : fitL l = decide (l.length <= 6) := by
 rw [List.take_length] at h
 unfold fitL; rw [h]; rfl
theorem fitP_end {p : List Trm} (h : (p.take p.length).all fitT = true) (h8 : p.length <= 8) : fitP p = true := by
 rw [List.take_length] at h
 unfold fitP; rw [h, decide_eq_true h8]; rfl
theorem all_take {α : Type} {f : α -> Bool} {l : List α} {k : Nat} {x : α} (h : (l.take k).all f = true) (hx : l[k]? = some x) (hf : f x = true) : (l.take (k + 1)).all f = true := by
 rw [take_more hx, List.all_append, h]; simp [hf]
theorem ints_cell {w : World} {a : Option Addr} {c : Nat} {l : List Int} (h : IntsR w a c l) {k : Nat} {x : Int} (hx : l[k]? = some x) : ∃ b off, a = some ⟨b, off, none⟩ /\ w.cell? ⟨b, off + k, none⟩ = some (.int .i64 x) /\ InInt x := by
 obtain ⟨b, off, ha, hc⟩ := h.2.2 k x hx
 exact ⟨b, off, ha, by simpa using hc.1, inInt_of hc.2⟩
theorem monoP_any (l : List Int) (a : Option Addr) (c : Nat) (w : World) (h : IntsR w a c l) :
  Calls Tryz.prog 100 #[.slice a l.length c] w fun e w' => e = .returned (.bool (monoB l)) /\ w = w' := by
 have hlen := h.len
 by_cases h64 : 64 < l.length
 ·
  rw [monoB_long h64]
  go_enter Tryz.func100, Tryz.ntmps100
  go_wp2
  go_ret
  exact ⟨rfl, rfl⟩
 ·
  have HI := Hd h
  clear h
  have hloop : ∀ k, k < l.length -> ∃ x, l[k]? = some x := fun k hk => get_of_lt hk
  by_cases h0 : 0 < l.length
  ·
   obtain ⟨y, hy⟩ := hloop (l.length - 1) (by omega)
   obtain ⟨b, off, rfl, hcy, hiy⟩ := ints_cell HI.out hy
   have HY := Hd hy
   have HL := Hd hloop
   clear hloop hy
   by_cases hy0 : y = 0
   ·
    rw [monoB_last (by rw [HY.out, hy0])]
    subst hy0
    clear hiy
    go_enter Tryz.func100, Tryz.ntmps100
    go_wp2
    go_ret
    exact ⟨rfl, rfl⟩
   ·
    have hye : (y == 0) = false := by simpa using hy0
    have HY0 := Hd hy0
    obtain ⟨hy1, hy2⟩ := hiy
    clear hy0
    obtain ⟨res, hres⟩ : ∃ x, monoB l = x := ⟨_, rfl⟩
    rw [hres]
    have HRES := Hd hres
    clear hres
    go_enter Tryz.func100, Tryz.ntmps100
    go_wp2
    clear hcy hye hy1 hy2
    go_loop [4, 24] (fun _ q => ∃ k : Nat, k <= l.length /\ q = .int .i64 k /\ Hid (((l.take k).all fun x => decide (0 <= x /\ x <= 1048576)) = true)) (fun _ q => l.length - (intOf q).toNat)
    case atStart => exact ⟨0, by omega, rfl, rfl⟩
    case round =>
     obtain ⟨k, hk, rfl, hall⟩ := hrel
     by_cases hlt : k < l.length
     ·
      obtain ⟨x, hx⟩ := HL.out k hlt
      obtain ⟨b2, off2, hbo, hcx, hix⟩ := ints_cell HI.out hx
      injection hbo with hbo
      injection hbo with hbo1 hbo2
      subst hbo1 hbo2
      obtain ⟨hx1, hx2⟩ := hix
      have HX := Hd hx
      clear hx
      by_cases hin : 0 <= x /\ x <= 1048576
      ·
       obtain ⟨hin1, hin2⟩ := hin
       go_wp2
       go_round
       case rel => exact ⟨k + 1, by omega, by go_num, by show _ = _; rw [take_more HX.out, List.all_append, hall.out]; simp [hin1, hin2]⟩
       case measure => simp [intOf]; omega
      ·
       have hr : res = false := by rw [<- HRES.out, monoB_bad HX.out hin]
       subst hr
       by_cases hneg : x < 0
       ·
        clear hin
        go_wp2
        go_ret
        exact ⟨rfl, rfl⟩
       ·
        have hbig : 1048576 < x := by omega
        clear hin
        go_wp2
        go_ret
        exact ⟨rfl, rfl⟩
     ·
      have hr : res = true := by
       rw [<- HRES.out]
       refine monoB_good (by omega) (by rw [HY.out]; intro h; injection h with h; exact HY0.out h) ?_
       have := hall.out
       rwa [take_all hlt] at this
      subst hr
      go_wp2
      go_ret
      exact ⟨rfl, rfl⟩
  ·
   have hnil : l = [] := List.eq_nil_of_length_eq_zero (by omega)
   subst hnil
   rw [show monoB [] = true from rfl]
   clear HI hloop
   go_enter Tryz.func100, Tryz.ntmps100
   go_wp2
   go_loop [4, 24] (fun _ q => q = .int .i64 0) (fun _ q => 0)
   case atStart => rfl
   case round =>
    obtain rfl := hrel
    go_wp2
    go_ret
    exact ⟨rfl, rfl⟩
theorem monoR_any (l : List Int) (a : Option Addr) (c : Nat) (w : World) (h : IntsR w a c l) :
  Calls Tryz.prog 108 #[.slice a l.length c] w fun e w' => e = .returned (.bool (monoB l)) /\ w = w' := by
 have hlen := h.len
 by_cases h64 : 64 < l.length
 ·
  rw [monoB_long h64]
  go_enter Tryz.func108, Tryz.ntmps108
  go_wp2
  go_ret
  exact ⟨rfl, rfl⟩
 ·
  have HI := Hd h
  clear h
  have hloop : ∀ k, k < l.length -> ∃ x, l[k]? = some x := fun k hk => get_of_lt hk
  by_cases h0 : 0 < l.length
  ·
   obtain ⟨y, hy⟩ := hloop (l.length - 1) (by omega)
   obtain ⟨b, off, rfl, hcy, hiy⟩ := ints_cell HI.out hy
   have HY := Hd hy
   have HL := Hd hloop
   clear hloop hy
   by_cases hy0 : y = 0
   ·
    rw [monoB_last (by rw [HY.out, hy0])]
    subst hy0
    clear hiy
    go_enter Tryz.func108, Tryz.ntmps108
    go_wp2
    go_ret
    exact ⟨rfl, rfl⟩
   ·
    have hye : (y == 0) = false := by simpa using hy0
    have HY0 := Hd hy0
    obtain ⟨hy1, hy2⟩ := hiy
    clear hy0
    obtain ⟨res, hres⟩ : ∃ x, monoB l = x := ⟨_, rfl⟩
    rw [hres]
    have HRES := Hd hres
    clear hres
    go_enter Tryz.func108, Tryz.ntmps108
    go_wp2
    clear hcy hye hy1 hy2
    go_loop [3] (fun q => ∃ k : Nat, k <= l.length /\ q = .int .i64 k /\ Hid (((l.take k).all fun x => decide (0 <= x /\ x <= 1048576)) = true)) (fun q => l.length - (intOf q).toNat)
    case atStart => exact ⟨0, by omega, rfl, rfl⟩
    case round =>
     obtain ⟨k, hk, rfl, hall⟩ := hrel
     by_cases hlt : k < l.length
     ·
      obtain ⟨x, hx⟩ := HL.out k hlt
      obtain ⟨b2, off2, hbo, hcx, hix⟩ := ints_cell HI.out hx
      injection hbo with hbo
      injection hbo with hbo1 hbo2
      subst hbo1 hbo2
      obtain ⟨hx1, hx2⟩ := hix
      have HX := Hd hx
      clear hx
      by_cases hin : 0 <= x /\ x <= 1048576
      ·
       obtain ⟨hin1, hin2⟩ := hin
       go_wp2
       go_round
       case rel => exact ⟨k + 1, by omega, by go_num, by show _ = _; rw [take_more HX.out, List.all_append, hall.out]; simp [hin1, hin2]⟩
       case measure => simp [intOf]; omega
      ·
       have hr : res = false := by rw [<- HRES.out, monoB_bad HX.out hin]
       subst hr
       by_cases hneg : x < 0
       ·
        clear hin
        go_wp2
        go_ret
        exact ⟨rfl, rfl⟩
       ·
        have hbig : 1048576 < x := by omega
        clear hin
        go_wp2
        go_ret
        exact ⟨rfl, rfl⟩
     ·
      have hr : res = true := by
       rw [<- HRES.out]
       refine monoB_good (by omega) (by rw [HY.out]; intro h; injection h with h; exact HY0.out h) ?_
       have := hall.out
       rwa [take_all hlt] at this
      subst hr
      go_wp2
      go_ret
      exact ⟨rfl, rfl⟩
  ·
   have hnil : l = [] := List.eq_nil_of_length_eq_zero (by omega)
   subst hnil
   rw [show monoB [] = true from rfl]
   clear HI hloop
   go_enter Tryz.func108, Tryz.ntmps108
   go_wp2
   go_loop [3] (fun q => q = .int .i64 0) (fun q => 0)
   case atStart => rfl
   case round =>
    obtain rfl := hrel
    go_wp2
    go_ret
    exact ⟨rfl, rfl⟩
theorem expAt_get {l : List Int} {v : Nat} {x : Int} (h : l[v]? = some x) : expAt l v = x := by
 unfold expAt; rw [List.getD_eq_getElem?_getD, h]; rfl
theorem expAt_far {l : List Int} {v : Nat} (h : l.length <= v) : expAt l v = 0 := by
 unfold expAt; rw [List.getD_eq_getElem?_getD, List.getElem?_eq_none h]; rfl
theorem expP_any (l : List Int) (v : Nat) (a : Option Addr) (c : Nat) (w : World) (h : IntsR w a c l) :
  Calls Tryz.prog 262 #[.slice a l.length c, .int .i64 v] w fun e w' => e = .returned (.int .i64 (expAt l v)) /\ w = w' := by
 have hlen := h.len
 by_cases hv : v < l.length
 ·
  obtain ⟨x, hx⟩ := get_of_lt hv
  obtain ⟨b, off, rfl, hc, _⟩ := ints_cell h hx
  rw [expAt_get hx]
  clear hx h
  go_enter Tryz.func262, Tryz.ntmps262
  go_wp2
  go_ret
  exact ⟨rfl, rfl⟩
 ·
  rw [expAt_far (by omega)]
  clear h
  go_enter Tryz.func262, Tryz.ntmps262
  go_wp2
  go_ret
  exact ⟨rfl, rfl⟩
theorem expR_any (l : List Int) (v : Nat) (a : Option Addr) (c : Nat) (w : World) (h : IntsR w a c l) :
  Calls Tryz.prog 195 #[.slice a l.length c, .int .i64 v] w fun e w' => e = .returned (.int .i64 (expAt l v)) /\ w = w' := by
 have hlen := h.len
 by_cases hv : v < l.length
 ·
  obtain ⟨x, hx⟩ := get_of_lt hv
  obtain ⟨b, off, rfl, hc, _⟩ := ints_cell h hx
  rw [expAt_get hx]
  clear hx h
  go_enter Tryz.func195, Tryz.ntmps195
  go_wp2
  go_ret
  exact ⟨rfl, rfl⟩
 ·
  rw [expAt_far (by omega)]
  clear h
  go_enter Tryz.func195, Tryz.ntmps195
  go_wp2
  go_ret
  exact ⟨rfl, rfl⟩
theorem sign05_any (n : Int) (w : World) :
  Calls Tryz.prog 194 #[.int .i64 n] w fun e w' => e = .returned (.int .i64 (if n < 0 then -1 else if 0 < n then 1 else 0)) /\ w = w' := by
 by_cases h : n < 0
 ·
  rw [if_pos h]
  go_enter Tryz.func194, Tryz.ntmps194
  go_wp2
  go_ret
  exact ⟨rfl, rfl⟩
 ·
  by_cases h2 : 0 < n
  ·
   rw [if_neg h, if_pos h2]
   go_enter Tryz.func194, Tryz.ntmps194
   go_wp2
   go_ret
   exact ⟨rfl, rfl⟩
  ·
   rw [if_neg h, if_neg h2]
   go_enter Tryz.func194, Tryz.ntmps194
   go_wp2
   go_ret
   exact ⟨rfl, rfl⟩
theorem expAt_int {w : World} {a : Option Addr} {c : Nat} {l : List Int} (h : IntsR w a c l) (v : Nat) : InInt (expAt l v) := by
 by_cases hv : v < l.length
 ·
  obtain ⟨x, hx⟩ := get_of_lt hv
  obtain ⟨b, off, _, _, hi⟩ := ints_cell h hx
  rw [expAt_get hx]; exact hi
 · rw [expAt_far (by omega)]; unfold InInt; omega
theorem cmpP5_any (l m : List Int) (a a' : Option Addr) (c c' : Nat) (w : World) (h : IntsR w a c l) (h' : IntsR w a' c' m) :
  Calls Tryz.prog 183 #[.slice a l.length c, .slice a' m.length c', .int .i64 0] w fun e w' => e = .returned (.int .i64 (lexI l m)) /\ w = w' := by
 have hlen := h.len
 have hlen' := h'.len
 have C1 := fun v : Nat => expP_any l v a c w h
 have C2 := fun v : Nat => expP_any m v a' c' w h'
 have I1 := expAt_int h
 have I2 := expAt_int h'
 replace C1 := Hd C1; replace C2 := Hd C2; replace I1 := Hd I1; replace I2 := Hd I2
 clear h h'
 obtain ⟨res, hres⟩ : ∃ x, lexI l m = x := ⟨_, rfl⟩
 rw [hres]
 unfold lexI at hres
 by_cases hlm : l.length < m.length
 ·
  rw [show max l.length m.length = m.length by omega] at hres
  have HRES := Hd hres
  clear hres
  go_enter Tryz.func183, Tryz.ntmps183
  go_wp2
  have HLM := Hd hlm
  clear hlm
  go_loop [9] (fun q => (q = .int .i64 (-1) /\ Hid (0 = res)) \/ ∃ v : Nat, v < m.length /\ q = .int .i64 v /\ Hid (lexDown l m (v + 1) = res)) (fun q => (intOf q + 1).toNat)
  case atStart =>
   have HR := HRES.out
   have hlm := HLM.out
   cases hn : m.length with
   | zero => rw [hn] at HR; exact .inl ⟨by go_num, HR⟩
   | succ k => rw [hn] at HR; exact .inr ⟨k, by omega, by go_num, HR⟩
  case round =>
   rcases hrel with ⟨rfl, hr⟩ | ⟨v, hv, rfl, hr⟩
   ·
    have hr := hr.out
    subst hr
    go_wp2
    go_ret
    exact ⟨rfl, rfl⟩
   ·
    have I1v := I1.out v; have I2v := I2.out v
    obtain ⟨x, hx⟩ : ∃ x, expAt l v = x := ⟨_, rfl⟩
    obtain ⟨y, hy⟩ : ∃ y, expAt m v = y := ⟨_, rfl⟩
    have E1 := C1.out v; have E2 := C2.out v
    rw [hx] at E1 I1v
    rw [hy] at E2 I2v
    obtain ⟨i1, i2⟩ := I1v
    obtain ⟨i3, i4⟩ := I2v
    have hr := hr.out
    unfold lexDown at hr
    rw [hx, hy] at hr
    have HR := Hd hr
    replace E1 := Hd E1; replace E2 := Hd E2
    clear hr hx hy
    go_wp2_with fail
    refine E1.out.mono ?_
    rintro e w1 ⟨rfl, rfl⟩
    go_wp2_with fail
    refine E2.out.mono ?_
    rintro e w1 ⟨rfl, rfl⟩
    by_cases hxy : x = y
    ·
     subst hxy
     have HR2 := Hd ((if_pos rfl).symm.trans HR.out)
     go_wp2
     go_round
     case rel =>
      cases v with
      | zero => exact .inl ⟨by go_num, by have := HR2.out; rw [<- this]; rfl⟩
      | succ k => exact .inr ⟨k, by omega, by go_num, HR2.out⟩
     case measure => simp [intOf]
    ·
     have hb : (x == y) = false := by simpa using hxy
     have HR2 := HR.out
     rw [if_neg hxy] at HR2
     by_cases hlt : x < y
     ·
      rw [if_pos hlt] at HR2
      subst HR2
      clear hxy HR
      go_wp2
      go_ret
      exact ⟨rfl, rfl⟩
     ·
      rw [if_neg hlt] at HR2
      subst HR2
      clear hxy HR
      go_wp2
      go_ret
      exact ⟨rfl, rfl⟩
 ·
  rw [show max l.length m.length = l.length by omega] at hres
  have HRES := Hd hres
  clear hres
  go_enter Tryz.func183, Tryz.ntmps183
  go_wp2
  have HLM := Hd hlm
  clear hlm
  go_loop [9] (fun q => (q = .int .i64 (-1) /\ Hid (0 = res)) \/ ∃ v : Nat, v < l.length /\ q = .int .i64 v /\ Hid (lexDown l m (v + 1) = res)) (fun q => (intOf q + 1).toNat)
  case atStart =>
   have HR := HRES.out
   have hlm := HLM.out
   cases hn : l.length with
   | zero => rw [hn] at HR; exact .inl ⟨by go_num, HR⟩
   | succ k => rw [hn] at HR; exact .inr ⟨k, by omega, by go_num, HR⟩
  case round =>
   rcases hrel with ⟨rfl, hr⟩ | ⟨v, hv, rfl, hr⟩
   ·
    have hr := hr.out
    subst hr
    go_wp2
    go_ret
    exact ⟨rfl, rfl⟩
   ·
    have I1v := I1.out v; have I2v := I2.out v
    obtain ⟨x, hx⟩ : ∃ x, expAt l v = x := ⟨_, rfl⟩
    obtain ⟨y, hy⟩ : ∃ y, expAt m v = y := ⟨_, rfl⟩
    have E1 := C1.out v; have E2 := C2.out v
    rw [hx] at E1 I1v
    rw [hy] at E2 I2v
    obtain ⟨i1, i2⟩ := I1v
    obtain ⟨i3, i4⟩ := I2v
    have hr := hr.out
    unfold lexDown at hr
    rw [hx, hy] at hr
    have HR := Hd hr
    replace E1 := Hd E1; replace E2 := Hd E2
    clear hr hx hy
    go_wp2_with fail
    refine E1.out.mono ?_
    rintro e w1 ⟨rfl, rfl⟩
    go_wp2_with fail
    refine E2.out.mono ?_
    rintro e w1 ⟨rfl, rfl⟩
    by_cases hxy : x = y
    ·
     subst hxy
     have HR2 := Hd ((if_pos rfl).symm.trans HR.out)
     go_wp2
     go_round
     case rel =>
      cases v with
      | zero => exact .inl ⟨by go_num, by have := HR2.out; rw [<- this]; rfl⟩
      | succ k => exact .inr ⟨k, by omega, by go_num, HR2.out⟩
     case measure => simp [intOf]
    ·
     have hb : (x == y) = false := by simpa using hxy
     have HR2 := HR.out
     rw [if_neg hxy] at HR2
     by_cases hlt : x < y
     ·
      rw [if_pos hlt] at HR2
      subst HR2
      clear hxy HR
      go_wp2
      go_ret
      exact ⟨rfl, rfl⟩
     ·
      rw [if_neg hlt] at HR2
      subst HR2
      clear hxy HR
      go_wp2
      go_ret
      exact ⟨rfl, rfl⟩
theorem cmpR5_any (l m : List Int) (a a' : Option Addr) (c c' : Nat) (w : World) (h : IntsR w a c l) (h' : IntsR w a' c' m) (hi : ∀ x ∈ l, 0 <= x /\ x <= 1048576) (hi' : ∀ x ∈ m, 0 <= x /\ x <= 1048576) :
  Calls Tryz.prog 109 #[.slice a l.length c, .slice a' m.length c', .int .i64 0] w fun e w' => e = .returned (.int .i64 (lexI l m)) /\ w = w' := by
 have hlen := h.len
 have hlen' := h'.len
 have C1 := fun v : Nat => expR_any l v a c w h
 have C2 := fun v : Nat => expR_any m v a' c' w h'
 have CS := fun z : Int => sign05_any z w
 have I1 : ∀ v, 0 <= expAt l v /\ expAt l v <= 1048576 := expAt_in hi
 have I2 : ∀ v, 0 <= expAt m v /\ expAt m v <= 1048576 := expAt_in hi'
 replace C1 := Hd C1; replace C2 := Hd C2; replace CS := Hd CS; replace I1 := Hd I1; replace I2 := Hd I2
 clear hi hi'
 clear h h'
 obtain ⟨res, hres⟩ : ∃ x, lexI l m = x := ⟨_, rfl⟩
 rw [hres]
 unfold lexI at hres
 by_cases hlm : l.length < m.length
 ·
  rw [show max l.length m.length = m.length by omega] at hres
  have HRES := Hd hres
  clear hres
  go_enter Tryz.func109, Tryz.ntmps109
  go_wp2
  have HLM := Hd hlm
  clear hlm
  go_loop [7] (fun q => (q = .int .i64 (-1) /\ Hid (0 = res)) \/ ∃ v : Nat, v < m.length /\ q = .int .i64 v /\ Hid (lexDown l m (v + 1) = res)) (fun q => (intOf q + 1).toNat)
  case atStart =>
   have HR := HRES.out
   have hlm := HLM.out
   cases hn : m.length with
   | zero => rw [hn] at HR; exact .inl ⟨by go_num, HR⟩
   | succ k => rw [hn] at HR; exact .inr ⟨k, by omega, by go_num, HR⟩
  case round =>
   rcases hrel with ⟨rfl, hr⟩ | ⟨v, hv, rfl, hr⟩
   ·
    have hr := hr.out
    subst hr
    go_wp2
    go_ret
    exact ⟨rfl, rfl⟩
   ·
    have I1v := I1.out v; have I2v := I2.out v
    obtain ⟨x, hx⟩ : ∃ x, expAt l v = x := ⟨_, rfl⟩
    obtain ⟨y, hy⟩ : ∃ y, expAt m v = y := ⟨_, rfl⟩
    have E1 := C1.out v; have E2 := C2.out v
    rw [hx] at E1 I1v
    rw [hy] at E2 I2v
    obtain ⟨i1, i2⟩ := I1v
    obtain ⟨i3, i4⟩ := I2v
    have hr := hr.out
    unfold lexDown at hr
    rw [hx, hy] at hr
    have HR := Hd hr
    replace E1 := Hd E1; replace E2 := Hd E2
    clear hr hx hy
    go_wp2_with fail
    refine E1.out.mono ?_
    rintro e w1 ⟨rfl, rfl⟩
    go_wp2_with fail
    refine E2.out.mono ?_
    rintro e w1 ⟨rfl, rfl⟩
    by_cases hxy : x = y
    ·
     subst hxy
     have HR2 := Hd ((if_pos rfl).symm.trans HR.out)
     go_wp2
     go_round
     case rel =>
      cases v with
      | zero => exact .inl ⟨by go_num, by have := HR2.out; rw [<- this]; rfl⟩
      | succ k => exact .inr ⟨k, by omega, by go_num, HR2.out⟩
     case measure => simp [intOf]
    ·
     have hb : (x == y) = false := by simpa using hxy
     have HR2 := HR.out
     rw [if_neg hxy] at HR2
     have E3 := CS.out (x - y)
     have hsg : (if x - y < 0 then (-1 : Int) else if 0 < x - y then 1 else 0) = res := by rw [<- HR2]; split <;> split <;> first | rfl | omega | (split <;> omega)
     rw [hsg] at E3
     replace E3 := Hd E3
     clear HR HR2 hsg hxy
     go_wp2_with fail
     refine E1.out.mono ?_
     rintro e w1 ⟨rfl, rfl⟩
     go_wp2_with fail
     refine E2.out.mono ?_
     rintro e w1 ⟨rfl, rfl⟩
     go_wp2_with fail
     refine E3.out.mono ?_
     rintro e w1 ⟨rfl, rfl⟩
     go_wp2
     go_ret
     exact ⟨rfl, rfl⟩
 ·
  rw [show max l.length m.length = l.length by omega] at hres
  have HRES := Hd hres
  clear hres
  go_enter Tryz.func109, Tryz.ntmps109
  go_wp2
  have HLM := Hd hlm
  clear hlm
  go_loop [7] (fun q => (q = .int .i64 (-1) /\ Hid (0 = res)) \/ ∃ v : Nat, v < l.length /\ q = .int .i64 v /\ Hid (lexDown l m (v + 1) = res)) (fun q => (intOf q + 1).toNat)
  case atStart =>
   have HR := HRES.out
   have hlm := HLM.out
   cases hn : l.length with
   | zero => rw [hn] at HR; exact .inl ⟨by go_num, HR⟩
   | succ k => rw [hn] at HR; exact .inr ⟨k, by omega, by go_num, HR⟩
  case round =>
   rcases hrel with ⟨rfl, hr⟩ | ⟨v, hv, rfl, hr⟩
   ·
    have hr := hr.out
    subst hr
    go_wp2
    go_ret
    exact ⟨rfl, rfl⟩
   ·
    have I1v := I1.out v; have I2v := I2.out v
    obtain ⟨x, hx⟩ : ∃ x, expAt l v = x := ⟨_, rfl⟩
    obtain ⟨y, hy⟩ : ∃ y, expAt m v = y := ⟨_, rfl⟩
    have E1 := C1.out v; have E2 := C2.out v
    rw [hx] at E1 I1v
    rw [hy] at E2 I2v
    obtain ⟨i1, i2⟩ := I1v
    obtain ⟨i3, i4⟩ := I2v
    have hr := hr.out
    unfold lexDown at hr
    rw [hx, hy] at hr
    have HR := Hd hr
    replace E1 := Hd E1; replace E2 := Hd E2
    clear hr hx hy
    go_wp2_with fail
    refine E1.out.mono ?_
    rintro e w1 ⟨rfl, rfl⟩
    go_wp2_with fail
    refine E2.out.mono ?_
    rintro e w1 ⟨rfl, rfl⟩
    by_cases hxy : x = y
    ·
     subst hxy
     have HR2 := Hd ((if_pos rfl).symm.trans HR.out)
     go_wp2
     go_round
     case rel =>
      cases v with
      | zero => exact .inl ⟨by go_num, by have := HR2.out; rw [<- this]; rfl⟩
      | succ k => exact .inr ⟨k, by omega, by go_num, HR2.out⟩
     case measure => simp [intOf]
    ·
     have hb : (x == y) = false := by simpa using hxy
     have HR2 := HR.out
     rw [if_neg hxy] at HR2
     have E3 := CS.out (x - y)
     have hsg : (if x - y < 0 then (-1 : Int) else if 0 < x - y then 1 else 0) = res := by rw [<- HR2]; split <;> split <;> first | rfl | omega | (split <;> omega)
     rw [hsg] at E3
     replace E3 := Hd E3
     clear HR HR2 hsg hxy
     go_wp2_with fail
     refine E1.out.mono ?_
     rintro e w1 ⟨rfl, rfl⟩
     go_wp2_with fail
     refine E2.out.mono ?_
     rintro e w1 ⟨rfl, rfl⟩
     go_wp2_with fail
     refine E3.out.mono ?_
     rintro e w1 ⟨rfl, rfl⟩
     go_wp2
     go_ret
     exact ⟨rfl, rfl⟩
abbrev Tm := Rat × List Int
section
variable {X Y : Nat -> Prop} {w w' w'' V : World} {R R' : World -> Prop}
end
section
variable {α β : Type} {f : α -> List Value} {sz : Nat} {t : TypeId} {B : Nat} {w V : World} {a : Option Addr} {c : Nat} {l : List α} {X : Nat -> Prop}
end
end Go.Proofs.YtdnblkklgdnapaaGreatDoor
