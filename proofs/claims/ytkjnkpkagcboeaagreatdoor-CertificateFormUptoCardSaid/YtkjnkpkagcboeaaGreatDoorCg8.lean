/- Walks: monomials: Right, Exp, Cmp, by the program and by the reference. -/
import Derived.Test.YtkjnkpkagcboeaaGreatDoorCg7
import Derived.LoopN
import Derived.Test.YtkjnkpkagcboeaaGreatDoorCg1
import Derived.Test.YtkjnkpkagcboeaaGreatDoorCg5
set_option linter.all false
set_option maxRecDepth 100000
set_option maxHeartbeats 4000000
namespace Go.Proofs.YtkjnkpkagcboeaaGreatDoor
open Go.RowKit
theorem sum2_any (s1 s2 : Bool) (n1 n2 : Nat) (a1 a2 : Option Addr) (c1 c2 g cp : Nat) (w : World) (r1 : NatR w a1 c1 (limbs n1)) (r2 : NatR w a2 c2 (limbs n2)) (l1 : (limbs n1).length <= 2000000) (l2 : (limbs n2).length <= 2000000)
  (k0 : w.cell? ⟨g, 0, none⟩ = some (.bool s1)) (k1 : w.cell? ⟨g, 1, none⟩ = some (.slice a1 (limbs n1).length c1)) (k2 : w.cell? ⟨g, 2, none⟩ = some (.bool s2)) (k3 : w.cell? ⟨g, 3, none⟩ = some (.slice a2 (limbs n2).length c2)) :
  Calls Tryz.prog 122 #[.slice (some ⟨g, 0, none⟩) 2 cp] w (RetI (zval s1 n1 + zval s2 n2) w) := by
 have hg := World.block_lt_of_cell? w _ k0
 simp only at hg
 have C1 := fun a c W (hW : Below w.heap.size w W) (h : NatR W a c (limbs 0)) => zadd_any false s1 (limbs 0) (limbs n1) 0 n1 a a1 c c1 W h (r1.ext (xbw hW)) (val_limbs _) (val_limbs _) (by rw [limbs_zero]; decide) (by omega)
 have e0 : zval false 0 + zval s1 n1 = zval s1 n1 := by simp [zval]
 simp only [e0, limbs_zero] at C1
 have C2 := fun a c W (hW : Below w.heap.size w W) h => zadd_any (decide (zval s1 n1 < 0)) s2 (limbs (zval s1 n1).natAbs) (limbs n2) (zval s1 n1).natAbs n2 a a2 c c2 W h (r2.ext (xbw hW)) (val_limbs _) (val_limbs _) (by rw [zval_abs]; omega) (by omega)
 simp only [zval_self] at C2
 revert C1 C2
 generalize zval s1 n1 = zz
 obtain ⟨z, hz⟩ : ∃ z, zz + zval s2 n2 = z := ⟨_, rfl⟩
 rw [hz]
 intro C1 C2
 unfold RetI RetZ at C1 C2 ⊢
 replace C1 := Hd C1; replace C2 := Hd C2
 have K0 := Hd (fun W (hW : Below w.heap.size w W) => held k0 W hW); have K1 := Hd (fun W (hW : Below w.heap.size w W) => held k1 W hW); have K2 := Hd (fun W (hW : Below w.heap.size w W) => held k2 W hW); have K3 := Hd (fun W (hW : Below w.heap.size w W) => held k3 W hW)
 clear r1 r2 l1 l2 k0 k1 k2 k3 hz e0
 go_enter Tryz.func122, Tryz.ntmps122
 go_wp2
 refine world_gen (fun W => Blk W w.heap.size 52 #[.bool false, .slice none 0 0] /\ Blk W (w.heap.size + 1) 52 #[.bool false, .slice none 0 0] /\ Below w.heap.size w W /\ w.heap.size < w.heap.size + 1 /\ w.heap.size + 1 < W.heap.size) ⟨(Blk.new w _ _).alloc _, blk_at1 w _ _ _, by go_grown, by omega, by simp⟩ ?_
 rintro w0 ⟨hx, hy, hw0, hg1, hg2⟩
 revert hx hy hg1 hg2
 generalize w.heap.size + 1 = g2
 intro hx hy hg1 hg2
 refine wp_loop_rounds 3 ?_
 rw [rounds_succ]
 have z0 := K0.out _ hw0; have z1 := K1.out _ hw0; have y0 := hy.cell 0; have y1 := hy.cell 1; have ltg : g < w0.heap.size := by omega
 have lt2 := hy.lt
 go_wp2_with fail
 refine calls_gen (fun W => Blk W w.heap.size 52 #[.bool false, .slice none 0 0] /\ Blk W g2 52 #[.bool false, .slice none 0 0] /\ Below w.heap.size w W /\ w0.heap.size < W.heap.size) ⟨by ((with_reducible repeat first|assumption|(apply bF;focus omega)|apply bS|(apply bN;focus (simp;done))|apply bA|apply bD);all_goals rfl), by ((with_reducible repeat first|assumption|(apply bF;focus omega)|apply bS|(apply bN;focus (simp;done))|apply bA|apply bD);all_goals rfl), by go_grown, by simp⟩ ?_
 clear z0 z1 y0 y1 ltg lt2 hx hy
 rintro w1 ⟨hx, hy, hw1, hs1⟩
 refine (C1.out none 0 _ hw1 SlR.nil).mono ?_
 rintro e w2 ⟨a5, c5, rfl, hV, hb2⟩
 replace hx := hx.below' hb2
 replace hy := hy.below' hb2
 have hw2 := bth hw1 hb2
 have hs2 := hb2.size
 have H5 : Kp (fun V => NatR V a5 c5 (limbs zz.natAbs)) w1.heap.size w2.heap.size w2 := Kp.made hV
 replace H5 := Hd H5
 clear hV
 obtain ⟨b1, hb1⟩ : ∃ b, decide (zz < 0) = b := ⟨_, rfl⟩
 rw [hb1]
 have C3 := C2.out
 rw [hb1] at C3
 replace C3 := Hd C3
 clear C2 hb1
 have f0 := hy.frozen 0; have f1 := hy.frozen 1; have y0 := hy.cell 0; have y1 := hy.cell 1
 go_wp2
 rw [rounds_succ]
 refine world_gen (fun W => Blk W w.heap.size 52 #[.bool false, .slice none 0 0] /\ Blk W g2 52 #[.bool b1, .slice a5 (limbs zz.natAbs).length c5] /\ Below w.heap.size w W /\ w2.heap.size <= W.heap.size /\ Kp (fun V => NatR V a5 c5 (limbs zz.natAbs)) w1.heap.size w2.heap.size W) ⟨by ((with_reducible repeat first|assumption|(apply bF;focus omega)|apply bS|(apply bN;focus (simp;done))|apply bA|apply bD);all_goals rfl), by ((with_reducible repeat first|assumption|(apply bF;focus omega)|apply bS|(apply bN;focus (simp;done))|apply bA|apply bD);all_goals rfl), by go_grown, by simp, by (with_reducible repeat first | exact H5.out | (refine Kp.setc ?_ ?_; focus omega) | refine Kp.alloc ?_ | refine Kp.drew ?_)⟩ ?_
 clear f0 f1 y0 y1 hx hy H5
 rintro w3 ⟨hx, hy, hw3, hs3, H5⟩
 replace H5 := Hd H5
 have z0 := K2.out _ hw3; have z1 := K3.out _ hw3; have y0 := hy.cell 0; have y1 := hy.cell 1; have ltg : g < w3.heap.size := by omega
 have lt2 := hy.lt
 go_wp2_with fail
 refine calls_gen (fun W => Blk W w.heap.size 52 #[.bool false, .slice none 0 0] /\ Blk W g2 52 #[.bool b1, .slice a5 (limbs zz.natAbs).length c5] /\ Below w.heap.size w W /\ w3.heap.size < W.heap.size /\ Kp (fun V => NatR V a5 c5 (limbs zz.natAbs)) w1.heap.size w2.heap.size W) ⟨by ((with_reducible repeat first|assumption|(apply bF;focus omega)|apply bS|(apply bN;focus (simp;done))|apply bA|apply bD);all_goals rfl), by ((with_reducible repeat first|assumption|(apply bF;focus omega)|apply bS|(apply bN;focus (simp;done))|apply bA|apply bD);all_goals rfl), by go_grown, by simp, by (with_reducible repeat first | exact H5.out | (refine Kp.setc ?_ ?_; focus omega) | refine Kp.alloc ?_ | refine Kp.drew ?_)⟩ ?_
 clear z0 z1 y0 y1 ltg lt2 hx hy H5
 rintro w4 ⟨hx, hy, hw4, hs4, H5⟩
 refine (C3.out a5 c5 _ hw4 H5.now).mono ?_
 rintro e w5 ⟨a6, c6, rfl, hV, hb5⟩
 replace hx := hx.below' hb5
 replace hy := hy.below' hb5
 have hw5 := bth hw4 hb5
 have hs5 := hb5.size
 have H6 : Kp (fun V => NatR V a6 c6 (limbs z.natAbs)) w4.heap.size w5.heap.size w5 := Kp.made hV
 replace H6 := Hd H6
 obtain ⟨b2, hb2⟩ : ∃ b, decide (z < 0) = b := ⟨_, rfl⟩
 rw [hb2]
 have HB2 := Hd hb2
 clear hV H5 hb2 C1 C3 K0 K1 K2 K3
 have f0 := hy.frozen 0; have f1 := hy.frozen 1; have y0 := hy.cell 0; have y1 := hy.cell 1
 go_wp2
 rw [rounds_succ]
 refine world_gen (fun W => Blk W w.heap.size 52 #[.bool false, .slice none 0 0] /\ Blk W g2 52 #[.bool b2, .slice a6 (limbs z.natAbs).length c6] /\ Below w.heap.size w W /\ w5.heap.size <= W.heap.size /\ Kp (fun V => NatR V a6 c6 (limbs z.natAbs)) w4.heap.size w5.heap.size W) ⟨by ((with_reducible repeat first|assumption|(apply bF;focus omega)|apply bS|(apply bN;focus (simp;done))|apply bA|apply bD);all_goals rfl), by ((with_reducible repeat first|assumption|(apply bF;focus omega)|apply bS|(apply bN;focus (simp;done))|apply bA|apply bD);all_goals rfl), by go_grown, by simp, by (with_reducible repeat first | exact H6.out | (refine Kp.setc ?_ ?_; focus omega) | refine Kp.alloc ?_ | refine Kp.drew ?_)⟩ ?_
 clear f0 f1 y0 y1 hx hy H6
 rintro w6 ⟨hx, hy, hw6, hs6, H6⟩
 replace H6 := Hd H6
 have x0 := hx.cell 0; have x1 := hx.cell 1; have f0 := hx.frozen 0; have f1 := hx.frozen 1; have y0 := hy.cell 0; have y1 := hy.cell 1
 go_wp2
 refine world_gen (fun W => Blk W w.heap.size 52 #[.bool b2, .slice a6 (limbs z.natAbs).length c6] /\ Below w.heap.size w W /\ Kp (fun V => NatR V a6 c6 (limbs z.natAbs)) w4.heap.size w5.heap.size W) ⟨by ((with_reducible repeat first|assumption|(apply bF;focus omega)|apply bS|(apply bN;focus (simp;done))|apply bA|apply bD);all_goals rfl), by go_grown, by (with_reducible repeat first | exact H6.out | (refine Kp.setc ?_ ?_; focus omega) | refine Kp.alloc ?_ | refine Kp.drew ?_)⟩ ?_
 rintro w7 ⟨hF, hw7, H7⟩
 have e0 := hF.cell 0; have e1 := hF.cell 1
 refine bodyPost_ret (v := .agg #[.bool b2, .slice a6 (limbs z.natAbs).length c6]) (by simp [results, Tryz.results122, go_sem, e0, e1]) rfl ?_
 exact ⟨a6, c6, by rw [HB2.out], H7.fin hw4.size, hw7⟩
theorem one_at (d : Nat) (b : Option Addr) (c : Nat) (w : World) (h : NatR w b c (limbs d)) (f : Bool) (hf : decide (d = 1) = f) :
  Calls Tryz.prog 98 #[.slice b (limbs d).length c] w fun e w' => e = .returned (.bool f) /\ Below w.heap.size w w' := by
 subst hf
 have := one_any (limbs d) b c w h
 rw [one_limbs] at this
 exact this
theorem qsum_nat (s1 s2 : Bool) (P1 D1 P2 D2 : Nat) : (zval s1 (P1 * D2) + zval s2 (P2 * D1)).natAbs <= P1 * D2 + P2 * D1 := by
 have h1 := zval_abs s1 (P1 * D2)
 have h2 := zval_abs s2 (P2 * D1)
 omega
theorem qadd_ones (s1 s2 : Bool) (P1 D1 P2 D2 : Nat) (a1 b1 a2 b2 : Option Addr) (c1 d1 c2 d2 : Nat) (w : World) (r1 : NatR w a1 c1 (limbs P1)) (r2 : NatR w b1 d1 (limbs D1)) (r3 : NatR w a2 c2 (limbs P2)) (r4 : NatR w b2 d2 (limbs D2))
  (hD1 : D1 = 1) (hD2 : D2 = 1) (l1 : (limbs P1).length <= 400000) (l3 : (limbs P2).length <= 400000) :
  Calls Tryz.prog 75 #[.agg #[.bool s1, .slice a1 (limbs P1).length c1, .slice b1 (limbs D1).length d1], .agg #[.bool s2, .slice a2 (limbs P2).length c2, .slice b2 (limbs D2).length d2]] w (RetF (lowest (decide (zval s1 P1 + zval s2 P2 < 0)) (zval s1 P1 + zval s2 P2).natAbs D1) w) := by
 have lo : (limbs 1).length <= 400000 := Nat.le_trans (limbs_len_le (k := 1) (by decide)) (by decide)
 have l2 : (limbs D1).length <= 400000 := by rw [hD1]; exact lo
 have l4 : (limbs D2).length <= 400000 := by rw [hD2]; exact lo
 have CP1 := fun W (hW : Below w.heap.size w W) => parts_any s1 (limbs P1) (limbs D1) a1 b1 c1 d1 W (r2.ext (xbw hW)) (by rw [val_limbs]; omega) (by omega)
 have CP2 := fun W (hW : Below w.heap.size w W) => parts_any s2 (limbs P2) (limbs D2) a2 b2 c2 d2 W (r4.ext (xbw hW)) (by rw [val_limbs]; omega) (by omega)
 have CO1 := fun W (hW : Below w.heap.size w W) => one_at D1 b1 d1 W (r2.ext (xbw hW)) true (by simpa using hD1)
 have CO2 := fun W (hW : Below w.heap.size w W) => one_at D2 b2 d2 W (r4.ext (xbw hW)) true (by simpa using hD2)
 have CS := fun g W (hW : Below w.heap.size w W) => sum2_any s1 s2 P1 P2 a1 a2 c1 c2 g 2 W (r1.ext (xbw hW)) (r3.ext (xbw hW)) (by omega) (by omega)
 have hsz := Nat.le_trans (limbs_len_mono (show (zval s1 P1 + zval s2 P2).natAbs <= P1 + P2 by have := zval_abs s1 P1; have := zval_abs s2 P2; omega)) (limbs_len_add P1 P2)
 revert CS hsz
 generalize zval s1 P1 + zval s2 P2 = z
 intro CS hsz
 have CR := fun a c W (hW : Below w.heap.size w W) h => reduced_any (decide (z < 0)) (limbs z.natAbs) (limbs D1) z.natAbs D1 a b1 c d1 W h (r2.ext (xbw hW)) (val_limbs _) (val_limbs _) (by omega) (by omega)
 obtain ⟨t, ht⟩ : ∃ t, lowest (decide (z < 0)) z.natAbs D1 = t := ⟨_, rfl⟩
 rw [ht] at CR ⊢
 obtain ⟨s, N, D⟩ := t
 unfold RetI RetZ at CS
 obtain ⟨R, hR⟩ : ∃ R, decide (z < 0) = R := ⟨_, rfl⟩
 rw [hR] at CR CS
 unfold RetF at CR ⊢
 dsimp only at CR ⊢
 replace CP1 := Hd CP1; replace CP2 := Hd CP2; replace CO1 := Hd CO1; replace CO2 := Hd CO2; replace CR := Hd CR; replace CS := Hd CS
 clear r1 r2 r3 r4 hD1 hD2 ht hR hsz lo l2 l4
 go_enter Tryz.func75, Tryz.ntmps75
 go_wp2_with fail
 refine calls_gen (fun W => Blk W w.heap.size 54 #[.bool s1, .slice a1 (limbs P1).length c1, .slice b1 (limbs D1).length d1] /\ Blk W (w.heap.size + 1) 54 #[.bool s2, .slice a2 (limbs P2).length c2, .slice b2 (limbs D2).length d2] /\ Blk W (w.heap.size + 1 + 1) 54 #[.bool false, .slice none 0 0, .slice none 0 0] /\ Below w.heap.size w W /\ w.heap.size < w.heap.size + 1 /\ w.heap.size + 1 < w.heap.size + 1 + 1 /\ w.heap.size + 1 + 1 < W.heap.size) ⟨((Blk.new w _ _).alloc _).alloc _, (blk_at1 w _ _ _).alloc _, blk_at2 w _ _ _ _, by go_grown, by omega, by omega, by simp⟩ ?_
 rintro w0 ⟨hx, hy, hz, hw0, hg1, hg2, hg3⟩
 revert hx hy hz hg1 hg2 hg3
 generalize w.heap.size + 1 + 1 = g3
 generalize w.heap.size + 1 = g2
 intro hx hy hz hg1 hg2 hg3
 refine (CP1.out _ hw0).mono ?_
 rintro e w1 ⟨rfl, hb1⟩
 replace hy := hy.below' hb1
 replace hz := hz.below' hb1
 have hw1 := bth hw0 hb1
 have hs1 := hb1.size
 clear hx
 have z0 := hy.cell 0; have z1 := hy.cell 1; have z2 := hy.cell 2; have lt2 := hy.lt; have lt3 := hz.lt
 go_wp2_with fail
 refine calls_gen (fun W => Blk W w1.heap.size 52 #[.bool s1, .slice a1 (limbs P1).length c1] /\ Blk W g3 54 #[.bool false, .slice none 0 0, .slice none 0 0] /\ Below w.heap.size w W /\ w1.heap.size < W.heap.size) ⟨by ((with_reducible repeat first|assumption|(apply bF;focus omega)|apply bS|(apply bN;focus (simp;done))|apply bA|apply bD);all_goals rfl), by ((with_reducible repeat first|assumption|(apply bF;focus omega)|apply bS|(apply bN;focus (simp;done))|apply bA|apply bD);all_goals rfl), by go_grown, by simp⟩ ?_
 clear z0 z1 z2 lt2 lt3 hy hz
 rintro w2 ⟨hu, hz, hw2, hs2⟩
 refine (CP2.out _ hw2).mono ?_
 rintro e w3 ⟨rfl, hb3⟩
 replace hu := hu.below' hb3
 replace hz := hz.below' hb3
 have hw3 := bth hw2 hb3
 have hs3 := hb3.size
 have hlt3 : w1.heap.size < w3.heap.size := by omega
 go_wp2_with fail
 refine calls_gen (fun W => Blk W w1.heap.size 52 #[.bool s1, .slice a1 (limbs P1).length c1] /\ Blk W w3.heap.size 52 #[.bool s2, .slice a2 (limbs P2).length c2] /\ Blk W g3 54 #[.bool false, .slice none 0 0, .slice none 0 0] /\ Below w.heap.size w W /\ w3.heap.size < W.heap.size) ⟨by ((with_reducible repeat first|assumption|(apply bF;focus omega)|apply bS|(apply bN;focus (simp;done))|apply bA|apply bD);all_goals rfl), by ((with_reducible repeat first|assumption|(apply bF;focus omega)|apply bS|(apply bN;focus (simp;done))|apply bA|apply bD);all_goals rfl), by ((with_reducible repeat first|assumption|(apply bF;focus omega)|apply bS|(apply bN;focus (simp;done))|apply bA|apply bD);all_goals rfl), by go_grown, by simp⟩ ?_
 clear hu hz
 rintro w4 ⟨hu, hv, hz, hw4, hs4⟩
 refine (CO1.out _ hw4).mono ?_
 rintro e w5 ⟨rfl, hb5⟩
 replace hu := hu.below' hb5
 replace hv := hv.below' hb5
 replace hz := hz.below' hb5
 have hw5 := bth hw4 hb5
 have hs5 := hb5.size
 go_wp2_with fail
 refine (CO2.out _ hw5).mono ?_
 rintro e w6 ⟨rfl, hb6⟩
 replace hu := hu.below' hb6
 replace hv := hv.below' hb6
 replace hz := hz.below' hb6
 have hw6 := bth hw5 hb6
 have hs6 := hb6.size
 have z0 := hu.cell 0; have z1 := hu.cell 1; have z2 := hv.cell 0; have z3 := hv.cell 1; have lt1 := hu.lt; have lt2 := hv.lt
 go_wp2_with fail
 refine calls_gen (fun W => W.cell? ⟨w6.heap.size, 0, none⟩ = some (.bool s1) /\ W.cell? ⟨w6.heap.size, 1, none⟩ = some (.slice a1 (limbs P1).length c1) /\ W.cell? ⟨w6.heap.size, 2, none⟩ = some (.bool s2) /\ W.cell? ⟨w6.heap.size, 3, none⟩ = some (.slice a2 (limbs P2).length c2) /\ Blk W g3 54 #[.bool false, .slice none 0 0, .slice none 0 0] /\ Below w.heap.size w W /\ w6.heap.size < W.heap.size)
  ⟨(Blk.new w6 _ _).cell 0, (Blk.new w6 _ _).cell 1, (Blk.new w6 _ _).cell 2, (Blk.new w6 _ _).cell 3, by ((with_reducible repeat first|assumption|(apply bF;focus omega)|apply bS|(apply bN;focus (simp;done))|apply bA|apply bD);all_goals rfl), by go_grown, by simp⟩ ?_
 clear z0 z1 z2 z3 lt1 lt2 hu hv hz
 rintro w7 ⟨k0, k1, k2, k3, hz, hw7, hs7⟩
 refine (CS.out w6.heap.size w7 hw7 k0 k1 k2 k3).mono ?_
 rintro e w8 ⟨a7, c7, rfl, hV, hb8⟩
 replace hz := hz.below' hb8
 have hw8' := bth hw7 hb8
 have hs8 := hb8.size
 have CG := CR.out a7 c7 w8 hw8' (hV w8 (New.refl _ _))
 replace CG := Hd CG
 clear hV k0 k1 k2 k3
 go_wp2_with fail
 refine CG.out.mono ?_
 rintro e w9 ⟨a8, c8, b8, d8, rfl, hV1, hV2, hb9⟩
 replace hz := hz.below' hb9
 have hw8 := bth hw8' hb9
 have hwB := hw8'.size
 have HV1 := Hd hV1
 have HV2 := Hd hV2
 clear hV1 hV2
 have z0 := hz.cell 0; have z1 := hz.cell 1; have z2 := hz.cell 2; have f0 := hz.frozen 0; have f1 := hz.frozen 1; have f2 := hz.frozen 2
 go_wp2
 have hF := blk3 (x := .bool s) (y := .slice a8 (limbs N).length c8) (z := .slice b8 (limbs D).length d8) hz
 have e0 := hF.cell 0; have e1 := hF.cell 1; have e2 := hF.cell 2
 refine bodyPost_ret (v := .agg #[.bool s, .slice a8 (limbs N).length c8, .slice b8 (limbs D).length d8]) (by simp [results, Tryz.results75, go_sem, e0, e1, e2]) rfl ?_
 exact ⟨a8, c8, b8, d8, rfl, fun V hV => HV1.out V (back3 hV hwB (by omega)), fun V hV => HV2.out V (back3 hV hwB (by omega)), below3 hw8 (by omega)⟩
theorem qadd_cross (s1 s2 : Bool) (P1 D1 P2 D2 : Nat) (a1 b1 a2 b2 : Option Addr) (c1 d1 c2 d2 : Nat) (w : World) (r1 : NatR w a1 c1 (limbs P1)) (r2 : NatR w b1 d1 (limbs D1)) (r3 : NatR w a2 c2 (limbs P2)) (r4 : NatR w b2 d2 (limbs D2))
  (hD1 : D1 ≠ 0) (hD2 : D2 ≠ 0) (l1 : (limbs P1).length <= 400000) (l2 : (limbs D1).length <= 400000) (l3 : (limbs P2).length <= 400000) (l4 : (limbs D2).length <= 400000) (hne : ¬ (D1 = 1 /\ D2 = 1)) :
  Calls Tryz.prog 75 #[.agg #[.bool s1, .slice a1 (limbs P1).length c1, .slice b1 (limbs D1).length d1], .agg #[.bool s2, .slice a2 (limbs P2).length c2, .slice b2 (limbs D2).length d2]] w (RetF (lowest (decide (zval s1 (P1 * D2) + zval s2 (P2 * D1) < 0)) (zval s1 (P1 * D2) + zval s2 (P2 * D1)).natAbs (D1 * D2)) w) := by
 have m1 := limbs_len_mul P1 D2
 have m2 := limbs_len_mul P2 D1
 have m3 := limbs_len_mul D1 D2
 have m4 := Nat.le_trans (limbs_len_mono (qsum_nat s1 s2 P1 D1 P2 D2)) (limbs_len_add _ _)
 have CP1 := fun W (hW : Below w.heap.size w W) => parts_any s1 (limbs P1) (limbs D1) a1 b1 c1 d1 W (r2.ext (xbw hW)) (by rw [val_limbs]; exact hD1) (by omega)
 have CP2 := fun W (hW : Below w.heap.size w W) => parts_any s2 (limbs P2) (limbs D2) a2 b2 c2 d2 W (r4.ext (xbw hW)) (by rw [val_limbs]; exact hD2) (by omega)
 have CO1 := fun f hf W (hW : Below w.heap.size w W) => one_at D1 b1 d1 W (r2.ext (xbw hW)) f hf
 have CO2 := fun f hf W (hW : Below w.heap.size w W) => one_at D2 b2 d2 W (r4.ext (xbw hW)) f hf
 have CZ1 := fun W (hW : Below w.heap.size w W) => zmul_any s1 false (limbs P1) (limbs D2) P1 D2 a1 b2 c1 d2 W (r1.ext (xbw hW)) (r4.ext (xbw hW)) (val_limbs _) (val_limbs _) (by omega) (by omega)
 have CZ2 := fun W (hW : Below w.heap.size w W) => zmul_any s2 false (limbs P2) (limbs D1) P2 D1 a2 b1 c2 d1 W (r3.ext (xbw hW)) (r2.ext (xbw hW)) (val_limbs _) (val_limbs _) (by omega) (by omega)
 have x1 : (s1 != false) = s1 := by cases s1 <;> rfl
 have x2 : (s2 != false) = s2 := by cases s2 <;> rfl
 simp only [x1] at CZ1
 simp only [x2] at CZ2
 have CS := fun g a b c d W h h' => sum2_any (s1 && decide (0 < P1 * D2)) (s2 && decide (0 < P2 * D1)) (P1 * D2) (P2 * D1) a b c d g 2 W h h' (by omega) (by omega)
 simp only [zval_pos] at CS
 have CN := fun W (hW : Below w.heap.size w W) => nmul_any (limbs D1) (limbs D2) D1 D2 b1 b2 d1 d2 W (r2.ext (xbw hW)) (r4.ext (xbw hW)) (val_limbs _) (val_limbs _) (by omega) (by omega)
 revert CS m4
 generalize zval s1 (P1 * D2) + zval s2 (P2 * D1) = z
 intro m4 CS
 have CR := fun a b c d W h h' => reduced_any (decide (z < 0)) (limbs z.natAbs) (limbs (D1 * D2)) z.natAbs (D1 * D2) a b c d W h h' (val_limbs _) (val_limbs _) (by omega) (by omega)
 obtain ⟨t, ht⟩ : ∃ t, lowest (decide (z < 0)) z.natAbs (D1 * D2) = t := ⟨_, rfl⟩
 rw [ht] at CR ⊢
 obtain ⟨s, N, D⟩ := t
 unfold RetI RetZ at CS
 obtain ⟨R, hR⟩ : ∃ R, decide (z < 0) = R := ⟨_, rfl⟩
 rw [hR] at CR
 simp only [hR] at CS
 obtain ⟨p1, hp1⟩ : ∃ q, (s1 && decide (0 < P1 * D2)) = q := ⟨_, rfl⟩
 obtain ⟨p2, hp2⟩ : ∃ q, (s2 && decide (0 < P2 * D1)) = q := ⟨_, rfl⟩
 simp only [hp1] at CZ1 CS
 simp only [hp2] at CZ2 CS
 unfold RetF at CR ⊢
 dsimp only at CR ⊢
 have W1 := fun W => wholeP_any (limbs D2).length b2 d2 W
 have W2 := fun W => wholeP_any (limbs D1).length b1 d1 W
 clear ht hR hp1 hp2 x1 x2 m1 m2 m3 m4 hD1 hD2
 obtain ⟨PP, hPP⟩ : ∃ q, P1 * D2 = q := ⟨_, rfl⟩
 obtain ⟨DD, hDD⟩ : ∃ q, P2 * D1 = q := ⟨_, rfl⟩
 obtain ⟨MM, hMM⟩ : ∃ q, D1 * D2 = q := ⟨_, rfl⟩
 simp only [hPP] at CZ1 CS
 simp only [hDD] at CZ2 CS
 simp only [hMM] at CN CR
 clear hPP hDD hMM
 replace W1 := Hd W1; replace W2 := Hd W2
 replace CP1 := Hd CP1; replace CP2 := Hd CP2; replace CZ1 := Hd CZ1; replace CZ2 := Hd CZ2; replace CR := Hd CR; replace CS := Hd CS; replace CN := Hd CN
 by_cases ho1 : D1 = 1
 ·
  replace CO1 := Hd (CO1 true (by simpa using ho1)); replace CO2 := Hd (CO2 false (by rw [decide_eq_false_iff_not]; intro e; exact hne ⟨ho1, e⟩))
  clear r1 r2 r3 r4 hne ho1
  go_enter Tryz.func75, Tryz.ntmps75
  go_wp2_with fail
  refine calls_gen (fun W => Blk W w.heap.size 54 #[.bool s1, .slice a1 (limbs P1).length c1, .slice b1 (limbs D1).length d1] /\ Blk W (w.heap.size + 1) 54 #[.bool s2, .slice a2 (limbs P2).length c2, .slice b2 (limbs D2).length d2] /\ Blk W (w.heap.size + 1 + 1) 54 #[.bool false, .slice none 0 0, .slice none 0 0] /\ Below w.heap.size w W /\ w.heap.size < w.heap.size + 1 /\ w.heap.size + 1 < w.heap.size + 1 + 1 /\ w.heap.size + 1 + 1 < W.heap.size) ⟨((Blk.new w _ _).alloc _).alloc _, (blk_at1 w _ _ _).alloc _, blk_at2 w _ _ _ _, by go_grown, by omega, by omega, by simp⟩ ?_
  rintro w0 ⟨hx, hy, hz, hw0, hg1, hg2, hg3⟩
  revert hx hy hz hg1 hg2 hg3
  generalize w.heap.size + 1 + 1 = g3
  generalize w.heap.size + 1 = g2
  intro hx hy hz hg1 hg2 hg3
  refine (CP1.out _ hw0).mono ?_
  rintro e w1 ⟨rfl, hb1⟩
  replace hy := hy.below' hb1
  replace hz := hz.below' hb1
  have hw1 := bth hw0 hb1
  have hs1 := hb1.size
  clear hx
  have z0 := hy.cell 0; have z1 := hy.cell 1; have z2 := hy.cell 2; have lt2 := hy.lt; have lt3 := hz.lt
  go_wp2_with fail
  refine calls_gen (fun W => Blk W w1.heap.size 52 #[.bool s1, .slice a1 (limbs P1).length c1] /\ Blk W g3 54 #[.bool false, .slice none 0 0, .slice none 0 0] /\ Below w.heap.size w W /\ w1.heap.size < W.heap.size) ⟨by ((with_reducible repeat first|assumption|(apply bF;focus omega)|apply bS|(apply bN;focus (simp;done))|apply bA|apply bD);all_goals rfl), by ((with_reducible repeat first|assumption|(apply bF;focus omega)|apply bS|(apply bN;focus (simp;done))|apply bA|apply bD);all_goals rfl), by go_grown, by simp⟩ ?_
  clear z0 z1 z2 lt2 lt3 hy hz
  rintro w2 ⟨hu, hz, hw2, hs2⟩
  refine (CP2.out _ hw2).mono ?_
  rintro e w3 ⟨rfl, hb3⟩
  replace hu := hu.below' hb3
  replace hz := hz.below' hb3
  have hw3 := bth hw2 hb3
  have hs3 := hb3.size
  have hlt3 : w1.heap.size < w3.heap.size := by omega
  go_wp2_with fail
  refine calls_gen (fun W => Blk W w1.heap.size 52 #[.bool s1, .slice a1 (limbs P1).length c1] /\ Blk W w3.heap.size 52 #[.bool s2, .slice a2 (limbs P2).length c2] /\ Blk W g3 54 #[.bool false, .slice none 0 0, .slice none 0 0] /\ Below w.heap.size w W /\ w3.heap.size < W.heap.size) ⟨by ((with_reducible repeat first|assumption|(apply bF;focus omega)|apply bS|(apply bN;focus (simp;done))|apply bA|apply bD);all_goals rfl), by ((with_reducible repeat first|assumption|(apply bF;focus omega)|apply bS|(apply bN;focus (simp;done))|apply bA|apply bD);all_goals rfl), by ((with_reducible repeat first|assumption|(apply bF;focus omega)|apply bS|(apply bN;focus (simp;done))|apply bA|apply bD);all_goals rfl), by go_grown, by simp⟩ ?_
  clear hu hz
  rintro w4 ⟨hu, hv, hz, hw4, hs4⟩
  refine (CO1.out _ hw4).mono ?_
  rintro e w5 ⟨rfl, hb5⟩
  replace hu := hu.below' hb5
  replace hv := hv.below' hb5
  replace hz := hz.below' hb5
  have hw5 := bth hw4 hb5
  have hs5 := hb5.size
  go_wp2_with fail
  refine (CO2.out _ hw5).mono ?_
  rintro e w6 ⟨rfl, hb6⟩
  replace hu := hu.below' hb6
  replace hv := hv.below' hb6
  replace hz := hz.below' hb6
  have hw6 := bth hw5 hb6
  have hs6 := hb6.size
  go_wp2
  refine world_gen (fun W => Blk W w1.heap.size 52 #[.bool s1, .slice a1 (limbs P1).length c1] /\ Blk W w3.heap.size 52 #[.bool s2, .slice a2 (limbs P2).length c2] /\ Blk W g3 54 #[.bool false, .slice none 0 0, .slice none 0 0] /\ Below w.heap.size w W /\ w6.heap.size <= W.heap.size) ⟨by ((with_reducible repeat first|assumption|(apply bF;focus omega)|apply bS|(apply bN;focus (simp;done))|apply bA|apply bD);all_goals rfl), by ((with_reducible repeat first|assumption|(apply bF;focus omega)|apply bS|(apply bN;focus (simp;done))|apply bA|apply bD);all_goals rfl), by ((with_reducible repeat first|assumption|(apply bF;focus omega)|apply bS|(apply bN;focus (simp;done))|apply bA|apply bD);all_goals rfl), by go_grown, by simp⟩ ?_
  clear hu hv hz
  rintro w7 ⟨hu, hv, hz, hw7, hs7⟩
  have k0 := held (hu.cell 0); have k1 := held (hu.cell 1); have k2 := held (hv.cell 0); have k3 := held (hv.cell 1)
  have s0 : Below w7.heap.size w7 w7.drew := brf.drew
  refine wp_region_mix (S := Below w7.heap.size w7) [(0, .q), (1, .q), (4, .q), (5, .q), (10, .q), (11, .q), (2, .l), (3, .l), (6, .l), (7, .l), (8, .l), (9, .l), (12, .t), (13, .t), (14, .t)] (by kernel_rfl) (by kernel_rfl) (by kernel_rfl) (fun d _ _ _ _ h => by cases d <;> exact h) (s0) ?_
  iterate 6 (refine wpMix_q rfl rfl (fun K hK => ?_); apply Exists.intro; refine ⟨fun w' hw' => ?_, ?_⟩; (focus (go_simp; try rfl)); go_simp; refine hK _ _ ?_; clear hK K)
  refine wpMix_l rfl rfl (fun K hK => ?_)
  go_simp
  refine (W1.out _).mono ?_
  rintro r w8 ⟨rfl, hb8⟩
  dsimp only
  refine hK.out _ _ (bth s0 hb8) (fun _ => ?_)
  clear hK K
  have t1 := bth s0 hb8
  refine wpMix_l rfl rfl (fun K hK => ?_)
  go_simp
  refine (CZ1.out _ (bth hw7 t1)).mono ?_
  rintro r w9 ⟨a9, c9, rfl, hV9, hb9⟩
  dsimp only
  refine hK.out _ _ (bth t1 hb9) (fun _ => ?_)
  clear hK K
  have t2 := bth t1 hb9
  have H9 : Kp (fun V => NatR V a9 c9 (limbs PP)) w8.heap.size w9.heap.size w9 := Kp.made hV9
  replace H9 := Hd H9
  clear hV9
  refine wpMix_l rfl rfl (fun K hK => ?_)
  go_simp
  refine (W2.out _).mono ?_
  rintro r w10 ⟨rfl, hb10⟩
  dsimp only
  refine hK.out _ _ (bth t2 hb10) (fun _ => ?_)
  clear hK K
  have t3 := bth t2 hb10
  refine wpMix_l rfl rfl (fun K hK => ?_)
  go_simp
  refine (CZ2.out _ (bth hw7 t3)).mono ?_
  rintro r w11 ⟨a11, c11, rfl, hV11, hb11⟩
  dsimp only
  refine hK.out _ _ (bth t3 hb11) (fun _ => ?_)
  clear hK K
  have t4 := bth t3 hb11
  have H11 : Kp (fun V => NatR V a11 c11 (limbs DD)) w10.heap.size w11.heap.size w11 := Kp.made hV11
  replace H11 := Hd H11
  clear hV11
  refine wpMix_l rfl rfl (fun K hK => ?_)
  go_simp
  refine hK.out _ _ (t4.alloc t4.size _) (fun _ => ?_)
  clear hK K
  refine wpMix_l rfl rfl (fun K hK => ?_)
  go_simp
  refine calls_gen (fun W => W.cell? ⟨w11.heap.size, 0, none⟩ = some (.bool p1) /\ W.cell? ⟨w11.heap.size, 1, none⟩ = some (.slice a9 (limbs PP).length c9) /\ W.cell? ⟨w11.heap.size, 2, none⟩ = some (.bool p2) /\ W.cell? ⟨w11.heap.size, 3, none⟩ = some (.slice a11 (limbs DD).length c11) /\ Below w7.heap.size w7 W /\ w11.heap.size < W.heap.size /\ NatR W a9 c9 (limbs PP) /\ NatR W a11 c11 (limbs DD))
   ⟨(Blk.new w11 _ _).cell 0, (Blk.new w11 _ _).cell 1, (Blk.new w11 _ _).cell 2, (Blk.new w11 _ _).cell 3, t4.alloc t4.size _, by simp, (((H9.out.call hb10).call hb11).alloc).now, (H11.out.alloc).now⟩ ?_
  rintro w12 ⟨q0, q1, q2, q3, t5, hs12, m1, m2⟩
  refine (CS.out w11.heap.size a9 a11 c9 c11 w12 m1 m2 q0 q1 q2 q3).mono ?_
  rintro r w13 ⟨a13, c13, rfl, hV13, hb13⟩
  dsimp only
  have t6 := bth t5 hb13
  refine hK.out _ _ t6 (fun _ => ?_)
  clear hK K
  have H13 : Kp (fun V => NatR V a13 c13 (limbs z.natAbs)) w12.heap.size w13.heap.size w13 := Kp.made hV13
  replace H13 := Hd H13
  clear hV13 q0 q1 q2 q3 m1 m2 H9 H11
  refine wpMix_t rfl rfl (fun K hK => ?_)
  go_simp
  refine (CN.out _ (bth hw7 t6)).mono ?_
  rintro r w14 ⟨a14, c14, rfl, hV14, hb14⟩
  dsimp only
  refine hK.out _ _ ?_
  clear hK K
  have t7 := bth t6 hb14
  have CG := CR.out a13 a14 c13 c14 w14 ((H13.out.call hb14).now) (hV14 w14 (New.refl _ _))
  replace CG := Hd CG
  clear hV14
  refine wpMix_t rfl rfl (fun K hK => ?_)
  go_simp
  refine (CG.out).mono ?_
  rintro r w15 ⟨a8, c8, b8, d8, rfl, hV1, hV2, hb15⟩
  dsimp only
  refine hK.out _ _ ?_
  clear hK K
  have t8 := bth t7 hb15
  replace hz := hz.below' t8
  have hw8 := bth hw7 t8
  have hwB := (bth hw7 t7).size
  have hwG := t7.size
  have ltz := hz.lt
  have HV1 := Hd hV1
  have HV2 := Hd hV2
  clear hV1 hV2 k0 k1 k2 k3
  have z0 := hz.cell 0; have z1 := hz.cell 1; have z2 := hz.cell 2; have f0 := hz.frozen 0; have f1 := hz.frozen 1; have f2 := hz.frozen 2
  refine wpMix_t rfl rfl (fun K hK => ?_)
  go_simp
  refine hK.out _ _ ?_
  clear hK K
  refine wpMix_nil ?_
  go_wp2
  have hF := blk3 (x := .bool s) (y := .slice a8 (limbs N).length c8) (z := .slice b8 (limbs D).length d8) hz
  have e0 := hF.cell 0; have e1 := hF.cell 1; have e2 := hF.cell 2
  refine bodyPost_ret (v := .agg #[.bool s, .slice a8 (limbs N).length c8, .slice b8 (limbs D).length d8]) (by simp [results, Tryz.results75, go_sem, e0, e1, e2]) rfl ?_
  exact ⟨a8, c8, b8, d8, rfl, fun V hV => HV1.out V (back3 hV hwB (by omega)), fun V hV => HV2.out V (back3 hV hwB (by omega)), below3 hw8 (by omega)⟩
 ·
  replace CO1 := Hd (CO1 false (by simpa using ho1))
  clear r1 r2 r3 r4 hne ho1 CO2
  go_enter Tryz.func75, Tryz.ntmps75
  go_wp2_with fail
  refine calls_gen (fun W => Blk W w.heap.size 54 #[.bool s1, .slice a1 (limbs P1).length c1, .slice b1 (limbs D1).length d1] /\ Blk W (w.heap.size + 1) 54 #[.bool s2, .slice a2 (limbs P2).length c2, .slice b2 (limbs D2).length d2] /\ Blk W (w.heap.size + 1 + 1) 54 #[.bool false, .slice none 0 0, .slice none 0 0] /\ Below w.heap.size w W /\ w.heap.size < w.heap.size + 1 /\ w.heap.size + 1 < w.heap.size + 1 + 1 /\ w.heap.size + 1 + 1 < W.heap.size) ⟨((Blk.new w _ _).alloc _).alloc _, (blk_at1 w _ _ _).alloc _, blk_at2 w _ _ _ _, by go_grown, by omega, by omega, by simp⟩ ?_
  rintro w0 ⟨hx, hy, hz, hw0, hg1, hg2, hg3⟩
  revert hx hy hz hg1 hg2 hg3
  generalize w.heap.size + 1 + 1 = g3
  generalize w.heap.size + 1 = g2
  intro hx hy hz hg1 hg2 hg3
  refine (CP1.out _ hw0).mono ?_
  rintro e w1 ⟨rfl, hb1⟩
  replace hy := hy.below' hb1
  replace hz := hz.below' hb1
  have hw1 := bth hw0 hb1
  have hs1 := hb1.size
  clear hx
  have z0 := hy.cell 0; have z1 := hy.cell 1; have z2 := hy.cell 2; have lt2 := hy.lt; have lt3 := hz.lt
  go_wp2_with fail
  refine calls_gen (fun W => Blk W w1.heap.size 52 #[.bool s1, .slice a1 (limbs P1).length c1] /\ Blk W g3 54 #[.bool false, .slice none 0 0, .slice none 0 0] /\ Below w.heap.size w W /\ w1.heap.size < W.heap.size) ⟨by ((with_reducible repeat first|assumption|(apply bF;focus omega)|apply bS|(apply bN;focus (simp;done))|apply bA|apply bD);all_goals rfl), by ((with_reducible repeat first|assumption|(apply bF;focus omega)|apply bS|(apply bN;focus (simp;done))|apply bA|apply bD);all_goals rfl), by go_grown, by simp⟩ ?_
  clear z0 z1 z2 lt2 lt3 hy hz
  rintro w2 ⟨hu, hz, hw2, hs2⟩
  refine (CP2.out _ hw2).mono ?_
  rintro e w3 ⟨rfl, hb3⟩
  replace hu := hu.below' hb3
  replace hz := hz.below' hb3
  have hw3 := bth hw2 hb3
  have hs3 := hb3.size
  have hlt3 : w1.heap.size < w3.heap.size := by omega
  go_wp2_with fail
  refine calls_gen (fun W => Blk W w1.heap.size 52 #[.bool s1, .slice a1 (limbs P1).length c1] /\ Blk W w3.heap.size 52 #[.bool s2, .slice a2 (limbs P2).length c2] /\ Blk W g3 54 #[.bool false, .slice none 0 0, .slice none 0 0] /\ Below w.heap.size w W /\ w3.heap.size < W.heap.size) ⟨by ((with_reducible repeat first|assumption|(apply bF;focus omega)|apply bS|(apply bN;focus (simp;done))|apply bA|apply bD);all_goals rfl), by ((with_reducible repeat first|assumption|(apply bF;focus omega)|apply bS|(apply bN;focus (simp;done))|apply bA|apply bD);all_goals rfl), by ((with_reducible repeat first|assumption|(apply bF;focus omega)|apply bS|(apply bN;focus (simp;done))|apply bA|apply bD);all_goals rfl), by go_grown, by simp⟩ ?_
  clear hu hz
  rintro w4 ⟨hu, hv, hz, hw4, hs4⟩
  refine (CO1.out _ hw4).mono ?_
  rintro e w5 ⟨rfl, hb5⟩
  replace hu := hu.below' hb5
  replace hv := hv.below' hb5
  replace hz := hz.below' hb5
  have hw5 := bth hw4 hb5
  have hs5 := hb5.size
  go_wp2
  refine world_gen (fun W => Blk W w1.heap.size 52 #[.bool s1, .slice a1 (limbs P1).length c1] /\ Blk W w3.heap.size 52 #[.bool s2, .slice a2 (limbs P2).length c2] /\ Blk W g3 54 #[.bool false, .slice none 0 0, .slice none 0 0] /\ Below w.heap.size w W /\ w5.heap.size <= W.heap.size) ⟨by ((with_reducible repeat first|assumption|(apply bF;focus omega)|apply bS|(apply bN;focus (simp;done))|apply bA|apply bD);all_goals rfl), by ((with_reducible repeat first|assumption|(apply bF;focus omega)|apply bS|(apply bN;focus (simp;done))|apply bA|apply bD);all_goals rfl), by ((with_reducible repeat first|assumption|(apply bF;focus omega)|apply bS|(apply bN;focus (simp;done))|apply bA|apply bD);all_goals rfl), by go_grown, by simp⟩ ?_
  clear hu hv hz
  rintro w7 ⟨hu, hv, hz, hw7, hs7⟩
  have k0 := held (hu.cell 0); have k1 := held (hu.cell 1); have k2 := held (hv.cell 0); have k3 := held (hv.cell 1)
  have s0 : Below w7.heap.size w7 w7.drew := brf.drew
  refine wp_region_mix (S := Below w7.heap.size w7) [(0, .q), (1, .q), (4, .q), (5, .q), (10, .q), (11, .q), (2, .l), (3, .l), (6, .l), (7, .l), (8, .l), (9, .l), (12, .t), (13, .t), (14, .t)] (by kernel_rfl) (by kernel_rfl) (by kernel_rfl) (fun d _ _ _ _ h => by cases d <;> exact h) (s0) ?_
  iterate 6 (refine wpMix_q rfl rfl (fun K hK => ?_); apply Exists.intro; refine ⟨fun w' hw' => ?_, ?_⟩; (focus (go_simp; try rfl)); go_simp; refine hK _ _ ?_; clear hK K)
  refine wpMix_l rfl rfl (fun K hK => ?_)
  go_simp
  refine (W1.out _).mono ?_
  rintro r w8 ⟨rfl, hb8⟩
  dsimp only
  refine hK.out _ _ (bth s0 hb8) (fun _ => ?_)
  clear hK K
  have t1 := bth s0 hb8
  refine wpMix_l rfl rfl (fun K hK => ?_)
  go_simp
  refine (CZ1.out _ (bth hw7 t1)).mono ?_
  rintro r w9 ⟨a9, c9, rfl, hV9, hb9⟩
  dsimp only
  refine hK.out _ _ (bth t1 hb9) (fun _ => ?_)
  clear hK K
  have t2 := bth t1 hb9
  have H9 : Kp (fun V => NatR V a9 c9 (limbs PP)) w8.heap.size w9.heap.size w9 := Kp.made hV9
  replace H9 := Hd H9
  clear hV9
  refine wpMix_l rfl rfl (fun K hK => ?_)
  go_simp
  refine (W2.out _).mono ?_
  rintro r w10 ⟨rfl, hb10⟩
  dsimp only
  refine hK.out _ _ (bth t2 hb10) (fun _ => ?_)
  clear hK K
  have t3 := bth t2 hb10
  refine wpMix_l rfl rfl (fun K hK => ?_)
  go_simp
  refine (CZ2.out _ (bth hw7 t3)).mono ?_
  rintro r w11 ⟨a11, c11, rfl, hV11, hb11⟩
  dsimp only
  refine hK.out _ _ (bth t3 hb11) (fun _ => ?_)
  clear hK K
  have t4 := bth t3 hb11
  have H11 : Kp (fun V => NatR V a11 c11 (limbs DD)) w10.heap.size w11.heap.size w11 := Kp.made hV11
  replace H11 := Hd H11
  clear hV11
  refine wpMix_l rfl rfl (fun K hK => ?_)
  go_simp
  refine hK.out _ _ (t4.alloc t4.size _) (fun _ => ?_)
  clear hK K
  refine wpMix_l rfl rfl (fun K hK => ?_)
  go_simp
  refine calls_gen (fun W => W.cell? ⟨w11.heap.size, 0, none⟩ = some (.bool p1) /\ W.cell? ⟨w11.heap.size, 1, none⟩ = some (.slice a9 (limbs PP).length c9) /\ W.cell? ⟨w11.heap.size, 2, none⟩ = some (.bool p2) /\ W.cell? ⟨w11.heap.size, 3, none⟩ = some (.slice a11 (limbs DD).length c11) /\ Below w7.heap.size w7 W /\ w11.heap.size < W.heap.size /\ NatR W a9 c9 (limbs PP) /\ NatR W a11 c11 (limbs DD))
   ⟨(Blk.new w11 _ _).cell 0, (Blk.new w11 _ _).cell 1, (Blk.new w11 _ _).cell 2, (Blk.new w11 _ _).cell 3, t4.alloc t4.size _, by simp, (((H9.out.call hb10).call hb11).alloc).now, (H11.out.alloc).now⟩ ?_
  rintro w12 ⟨q0, q1, q2, q3, t5, hs12, m1, m2⟩
  refine (CS.out w11.heap.size a9 a11 c9 c11 w12 m1 m2 q0 q1 q2 q3).mono ?_
  rintro r w13 ⟨a13, c13, rfl, hV13, hb13⟩
  dsimp only
  have t6 := bth t5 hb13
  refine hK.out _ _ t6 (fun _ => ?_)
  clear hK K
  have H13 : Kp (fun V => NatR V a13 c13 (limbs z.natAbs)) w12.heap.size w13.heap.size w13 := Kp.made hV13
  replace H13 := Hd H13
  clear hV13 q0 q1 q2 q3 m1 m2 H9 H11
  refine wpMix_t rfl rfl (fun K hK => ?_)
  go_simp
  refine (CN.out _ (bth hw7 t6)).mono ?_
  rintro r w14 ⟨a14, c14, rfl, hV14, hb14⟩
  dsimp only
  refine hK.out _ _ ?_
  clear hK K
  have t7 := bth t6 hb14
  have CG := CR.out a13 a14 c13 c14 w14 ((H13.out.call hb14).now) (hV14 w14 (New.refl _ _))
  replace CG := Hd CG
  clear hV14
  refine wpMix_t rfl rfl (fun K hK => ?_)
  go_simp
  refine (CG.out).mono ?_
  rintro r w15 ⟨a8, c8, b8, d8, rfl, hV1, hV2, hb15⟩
  dsimp only
  refine hK.out _ _ ?_
  clear hK K
  have t8 := bth t7 hb15
  replace hz := hz.below' t8
  have hw8 := bth hw7 t8
  have hwB := (bth hw7 t7).size
  have hwG := t7.size
  have ltz := hz.lt
  have HV1 := Hd hV1
  have HV2 := Hd hV2
  clear hV1 hV2 k0 k1 k2 k3
  have z0 := hz.cell 0; have z1 := hz.cell 1; have z2 := hz.cell 2; have f0 := hz.frozen 0; have f1 := hz.frozen 1; have f2 := hz.frozen 2
  refine wpMix_t rfl rfl (fun K hK => ?_)
  go_simp
  refine hK.out _ _ ?_
  clear hK K
  refine wpMix_nil ?_
  go_wp2
  have hF := blk3 (x := .bool s) (y := .slice a8 (limbs N).length c8) (z := .slice b8 (limbs D).length d8) hz
  have e0 := hF.cell 0; have e1 := hF.cell 1; have e2 := hF.cell 2
  refine bodyPost_ret (v := .agg #[.bool s, .slice a8 (limbs N).length c8, .slice b8 (limbs D).length d8]) (by simp [results, Tryz.results75, go_sem, e0, e1, e2]) rfl ?_
  exact ⟨a8, c8, b8, d8, rfl, fun V hV => HV1.out V (back3 hV hwB (by omega)), fun V hV => HV2.out V (back3 hV hwB (by omega)), below3 hw8 (by omega)⟩
theorem lowest_z (z : Int) (d : Nat) : lowest (decide (z < 0)) z.natAbs d = trip (mkRat z d) := by
 rw [lowest_qv]
 unfold qv
 rw [zval_self]
theorem qv_sum (s1 s2 : Bool) (P1 D1 P2 D2 : Nat) (hD1 : D1 ≠ 0) (hD2 : D2 ≠ 0) : mkRat (zval s1 (P1 * D2) + zval s2 (P2 * D1)) (D1 * D2) = qv s1 P1 D1 + qv s2 P2 D2 := by
 rw [zval_scale, zval_scale]
 exact qv_add s1 s2 P1 D1 P2 D2 hD1 hD2
theorem qadd_any (s1 s2 : Bool) (P1 D1 P2 D2 : Nat) (a1 b1 a2 b2 : Option Addr) (c1 d1 c2 d2 : Nat) (w : World) (r1 : NatR w a1 c1 (limbs P1)) (r2 : NatR w b1 d1 (limbs D1)) (r3 : NatR w a2 c2 (limbs P2)) (r4 : NatR w b2 d2 (limbs D2))
  (hD1 : D1 ≠ 0) (hD2 : D2 ≠ 0) (l1 : (limbs P1).length <= 400000) (l2 : (limbs D1).length <= 400000) (l3 : (limbs P2).length <= 400000) (l4 : (limbs D2).length <= 400000) : Calls Tryz.prog 75 #[.agg #[.bool s1, .slice a1 (limbs P1).length c1, .slice b1 (limbs D1).length d1], .agg #[.bool s2, .slice a2 (limbs P2).length c2, .slice b2 (limbs D2).length d2]] w (RetF (trip (qv s1 P1 D1 + qv s2 P2 D2)) w) := by
 rw [<- qv_sum s1 s2 P1 D1 P2 D2 hD1 hD2, <- lowest_z]
 by_cases h : D1 = 1 /\ D2 = 1
 ·
  have := qadd_ones s1 s2 P1 D1 P2 D2 a1 b1 a2 b2 c1 d1 c2 d2 w r1 r2 r3 r4 h.1 h.2 l1 l3
  obtain ⟨rfl, rfl⟩ := h
  simpa using this
 · exact qadd_cross s1 s2 P1 D1 P2 D2 a1 b1 a2 b2 c1 d1 c2 d2 w r1 r2 r3 r4 hD1 hD2 l1 l2 l3 l4 h
def QK (k : Nat) (w : World) (x : QA) (q : Rat) : Prop := QAc w x q /\ qsz q <= k
theorem QK.ext {k : Nat} {w w' : World} {x : QA} {q : Rat} (h : QK k w x q) (e : Ext w w') : QK k w' x q := ⟨h.1.ext e, h.2⟩
theorem QK.more {k k' : Nat} {w : World} {x : QA} {q : Rat} (h : QK k w x q) (e : k <= k') : QK k' w x q := ⟨h.1, Nat.le_trans h.2 e⟩
def RetQK (k : Nat) (q : Rat) (w : World) (e : Ending) (w' : World) : Prop := ∃ x : QA, e = .returned (.agg #[.bool x.neg, .slice x.a x.n x.c, .slice x.b x.m x.d]) /\ Kp (fun V => QK k V x q) w.heap.size w'.heap.size w' /\ Below w.heap.size w w'
theorem retF_q {k : Nat} {q : Rat} {w : World} {e : Ending} {w' : World} (hk : qsz q <= k) (h : RetF (trip q) w e w') : RetQK k q w e w' := by
 obtain ⟨na, nc, da, dc, rfl, h1, h2, hb⟩ := h
 exact ⟨⟨decide (q.num < 0), (limbs q.num.natAbs).length, na, nc, (limbs q.den).length, da, dc⟩, rfl, Kp.made fun V hV => ⟨⟨rfl, rfl, rfl, h1 V hV, h2 V hV⟩, hk⟩, hb⟩
theorem cmp_q (x y : QA) (p q : Rat) (k1 k2 : Nat) (w : World) (H1 : QK k1 w x p) (H2 : QK k2 w y q) (h1 : k1 <= 100000) (h2 : k2 <= 100000) : Calls Tryz.prog 106 #[.agg #[.bool x.neg, .slice x.a x.n x.c, .slice x.b x.m x.d], .agg #[.bool y.neg, .slice y.a y.n y.c, .slice y.b y.m y.d]] w fun e w' => e = .returned (.int .i64 (cmpQ p q)) /\ Below w.heap.size w w' := by
 obtain ⟨s1, n1, a1, c1, m1, b1, d1⟩ := x
 obtain ⟨s2, n2, a2, c2, m2, b2, d2⟩ := y
 obtain ⟨⟨e1, e2, e3, r1, r2⟩, z1⟩ := H1
 obtain ⟨⟨e4, e5, e6, r3, r4⟩, z2⟩ := H2
 dsimp only at e1 e2 e3 e4 e5 e6 r1 r2 r3 r4 ⊢
 subst e1 e2 e3 e4 e5 e6
 have l1 := qsz_num p
 have l2 := qsz_den p
 have l3 := qsz_num q
 have l4 := qsz_den q
 have := qcmp_any (decide (p.num < 0)) (decide (q.num < 0)) p.num.natAbs p.den q.num.natAbs q.den a1 b1 a2 b2 c1 d1 c2 d2 w r1 r2 r3 r4 p.den_nz q.den_nz (by omega) (by omega) (by omega) (by omega)
 rwa [qv_parts, qv_parts] at this
theorem add_q (x y : QA) (p q : Rat) (k1 k2 : Nat) (w : World) (H1 : QK k1 w x p) (H2 : QK k2 w y q) (h1 : k1 <= 100000) (h2 : k2 <= 100000) : Calls Tryz.prog 75 #[.agg #[.bool x.neg, .slice x.a x.n x.c, .slice x.b x.m x.d], .agg #[.bool y.neg, .slice y.a y.n y.c, .slice y.b y.m y.d]] w (RetQK (k1 + k2 + 1) (p + q) w) := by
 have hs := qsz_add p q
 have g1 := H1.2
 have g2 := H2.2
 obtain ⟨s1, n1, a1, c1, m1, b1, d1⟩ := x
 obtain ⟨s2, n2, a2, c2, m2, b2, d2⟩ := y
 obtain ⟨⟨e1, e2, e3, r1, r2⟩, z1⟩ := H1
 obtain ⟨⟨e4, e5, e6, r3, r4⟩, z2⟩ := H2
 dsimp only at e1 e2 e3 e4 e5 e6 r1 r2 r3 r4 ⊢
 subst e1 e2 e3 e4 e5 e6
 have l1 := qsz_num p
 have l2 := qsz_den p
 have l3 := qsz_num q
 have l4 := qsz_den q
 have := qadd_any (decide (p.num < 0)) (decide (q.num < 0)) p.num.natAbs p.den q.num.natAbs q.den a1 b1 a2 b2 c1 d1 c2 d2 w r1 r2 r3 r4 p.den_nz q.den_nz (by omega) (by omega) (by omega) (by omega)
 rw [qv_parts, qv_parts] at this
 exact this.mono fun _ _ h => retF_q (by omega) h
structure Rt where
 neg : Bool
 num : List Int
 den : List Int
def Rt.val (r : Rt) (na : Option Addr) (nc : Nat) (da : Option Addr) (dc : Nat) : Value := .agg #[.bool r.neg, .slice na r.num.length nc, .slice da r.den.length dc]
structure Step where
 kind : Int
 point : ByteArray
 args : List Int
 ratio : Rt
structure Fct where
 kind : Int
 args : List Int
 ratio : Rt
structure Fig where
 steps : List Step
 goals : List Fct
structure RA where
 aa : Option Addr
 ac : Nat
 na : Option Addr
 nc : Nat
 da : Option Addr
 dc : Nat
def PartsR (w : World) (p : RA) (args : List Int) (r : Rt) : Prop := IntsR w p.aa p.ac args /\ NatR w p.na p.nc r.num /\ NatR w p.da p.dc r.den
theorem PartsR.ext {w w' : World} {p : RA} {args : List Int} {r : Rt} (h : PartsR w p args r) (e : Ext w w') : PartsR w' p args r := ⟨h.1.ext e, h.2.1.ext e, h.2.2.ext e⟩
def rightI (neg : Bool) (num : List Int) : Bool := canonB num && !(neg && decide (num.length = 0))
def Rt.right (r : Rt) : Bool := rightI r.neg r.num && canonB r.den && decide (Nat.gcd (Go.Proofs.YtkjnkpkagcboeaaGreatDoor.val r.num) (Go.Proofs.YtkjnkpkagcboeaaGreatDoor.val r.den) = 1) && decide (0 < r.den.length)
structure Trm where
 coef : Rt
 mono : List Int
def Trm.val (t : Trm) (p : RA) : Value := .agg #[.bool t.coef.neg, .slice p.na t.coef.num.length p.nc, .slice p.da t.coef.den.length p.dc, .slice p.aa t.mono.length p.ac]
def TrmC (w : World) (b o : Nat) (p : RA) (t : Trm) : Prop :=
 w.cell? ⟨b, o, none⟩ = some (.bool t.coef.neg) /\ w.cell? ⟨b, o + 1, none⟩ = some (.slice p.na t.coef.num.length p.nc) /\
 w.cell? ⟨b, o + 2, none⟩ = some (.slice p.da t.coef.den.length p.dc) /\ w.cell? ⟨b, o + 3, none⟩ = some (.slice p.aa t.mono.length p.ac)
theorem TrmC.ext {w w' : World} {b o : Nat} {p : RA} {t : Trm} (h : TrmC w b o p t) (e : Ext w w') : TrmC w' b o p t :=
 ⟨e _ _ h.1, e _ _ h.2.1, e _ _ h.2.2.1, e _ _ h.2.2.2⟩
def TrmE (w : World) (b o : Nat) (t : Trm) : Prop := ∃ p, TrmC w b o p t /\ PartsR w p t.mono t.coef
def PolyR (w : World) (a : Option Addr) (c : Nat) (l : List Trm) : Prop := SlR 4 TrmE w a c l
theorem PolyR.ext {w w' : World} {a : Option Addr} {c : Nat} {l : List Trm} (h : PolyR w a c l) (e : Ext w w') : PolyR w' a c l :=
 SlR.mono h fun _ _ _ _ ⟨p, h1, h2⟩ => ⟨p, h1.ext e, h2.ext e⟩
def PolyE (w : World) (b o : Nat) (p : List Trm) : Prop := ∃ a c, w.cell? ⟨b, o, none⟩ = some (.slice a p.length c) /\ PolyR w a c p
def PolysR (w : World) (a : Option Addr) (c : Nat) (l : List (List Trm)) : Prop := SlR 1 PolyE w a c l
theorem PolysR.ext {w w' : World} {a : Option Addr} {c : Nat} {l : List (List Trm)} (h : PolysR w a c l) (e : Ext w w') : PolysR w' a c l :=
 SlR.mono h fun _ _ _ _ ⟨p, q, h1, h2⟩ => ⟨p, q, e _ _ h1, h2.ext e⟩
structure Crt where
 factors : List (List Trm)
 powers : List Int
 power : Int
 cofactors : List (List Trm)
structure CA where
 fa : Option Addr
 fc : Nat
 wa : Option Addr
 wc : Nat
 ca : Option Addr
 cc : Nat
def monoB (l : List Int) : Bool := decide (l.length <= 64) && !(decide (l[l.length - 1]? = some 0)) && l.all fun x => decide (0 <= x /\ x <= 1048576)
theorem monoB_long {l : List Int} (h : 64 < l.length) : monoB l = false := by unfold monoB; rw [decide_eq_false (by omega)]; rfl
theorem monoB_last {l : List Int} (h : l[l.length - 1]? = some 0) : monoB l = false := by unfold monoB; rw [decide_eq_true h]; simp
theorem monoB_bad {l : List Int} {k : Nat} {x : Int} (h : l[k]? = some x) (hx : ¬ (0 <= x /\ x <= 1048576)) : monoB l = false := by
 unfold monoB
 rw [show (l.all fun x => decide (0 <= x /\ x <= 1048576)) = false from ?_]
 · simp
 · rw [List.all_eq_false]; exact ⟨x, List.mem_of_getElem? h, by simpa using hx⟩
theorem monoB_good {l : List Int} (h1 : l.length <= 64) (h2 : l[l.length - 1]? ≠ some 0) (h3 : (l.all fun x => decide (0 <= x /\ x <= 1048576)) = true) : monoB l = true := by
 unfold monoB; rw [decide_eq_true h1, decide_eq_false h2, h3]; rfl
theorem monoB_mem {l : List Int} (h : monoB l = true) : l.length <= 64 /\ ∀ x ∈ l, 0 <= x /\ x <= 1048576 := by
 unfold monoB at h
 simp only [Bool.and_eq_true, decide_eq_true_eq, List.all_eq_true] at h
 exact ⟨h.1.1, h.2⟩
def expAt (l : List Int) (v : Nat) : Int := l.getD v 0
theorem expAt_in {l : List Int} (h : ∀ x ∈ l, 0 <= x /\ x <= 1048576) (v : Nat) : 0 <= expAt l v /\ expAt l v <= 1048576 := by
 unfold expAt
 rw [List.getD_eq_getElem?_getD]
 cases hx : l[v]? with
 | none => simp
 | some x => exact h x (List.mem_of_getElem? hx)
def lexDown (a b : List Int) : Nat -> Int
 | 0 => 0
 | v + 1 => if expAt a v = expAt b v then lexDown a b v else if expAt a v < expAt b v then -1 else 1
def lexI (a b : List Int) : Int := lexDown a b (max a.length b.length)
def okT (t : Trm) : Bool := t.coef.right && !(decide (val t.coef.num = 0)) && monoB t.mono
def badAt (l : List Trm) (i : Nat) : Bool :=
 match l[i]? with
 | none => false
 | some t => !(okT t) || (match i with
  | 0 => false
  | j + 1 => match l[j]? with
   | none => false
   | some s => decide (lexI s.mono t.mono <= 0))
def polyB (l : List Trm) : Bool := (List.range l.length).all fun i => !(badAt l i)
theorem polyB_bad {l : List Trm} {i : Nat} (hi : i < l.length) (h : badAt l i = true) : polyB l = false := by
 unfold polyB; rw [List.all_eq_false]; exact ⟨i, List.mem_range.2 hi, by simp [h]⟩
theorem polyB_good {l : List Trm} (h : ∀ i, i < l.length -> badAt l i = false) : polyB l = true := by
 unfold polyB; rw [List.all_eq_true]; intro i hi; simp [h i (List.mem_range.1 hi)]
theorem badAt_term {l : List Trm} {i : Nat} {t : Trm} (h : l[i]? = some t) (ho : okT t = false) : badAt l i = true := by
 unfold badAt; rw [h]; simp [ho]
theorem badAt_zero {l : List Trm} {t : Trm} (h : l[0]? = some t) (ho : okT t = true) : badAt l 0 = false := by
 unfold badAt; rw [h]; simp [ho]
theorem badAt_succ {l : List Trm} {j : Nat} {s t : Trm} (h : l[j + 1]? = some t) (hs : l[j]? = some s) (ho : okT t = true) : badAt l (j + 1) = decide (lexI s.mono t.mono <= 0) := by
 unfold badAt; rw [h]; dsimp only; rw [hs]; simp [ho]
theorem badAt_ok {l : List Trm} {i : Nat} {t : Trm} (h : l[i]? = some t) (hb : badAt l i = false) : okT t = true := by
 cases ho : okT t
 · rw [badAt_term h ho] at hb; cases hb
 · rfl
def facB (c : Crt) (k : Nat) : Bool :=
 match c.powers[k]?, c.factors[k]? with
 | some x, some f => decide (0 <= x /\ x <= 64) && !(decide (f.length = 0)) && polyB f
 | _, _ => false
theorem facB_of {c : Crt} {k : Nat} {x : Int} {f : List Trm} (hx : c.powers[k]? = some x) (hf : c.factors[k]? = some f) : facB c k = (decide (0 <= x /\ x <= 64) && !(decide (f.length = 0)) && polyB f) := by
 unfold facB; rw [hx, hf]
def crtB (c : Crt) : Bool :=
 decide (c.powers.length = c.factors.length) && decide (1 <= c.power /\ c.power <= 64) && ((List.range c.factors.length).all (facB c)) && c.cofactors.all polyB
theorem crtB_len {c : Crt} (h : c.powers.length ≠ c.factors.length) : crtB c = false := by unfold crtB; rw [decide_eq_false h]; rfl
theorem crtB_pow {c : Crt} (h : ¬ (1 <= c.power /\ c.power <= 64)) : crtB c = false := by unfold crtB; rw [decide_eq_false h]; simp
theorem crtB_fac {c : Crt} {k : Nat} (hk : k < c.factors.length) (h : facB c k = false) : crtB c = false := by
 unfold crtB
 rw [show ((List.range c.factors.length).all (facB c)) = false from ?_]
 · simp
 · rw [List.all_eq_false]; exact ⟨k, List.mem_range.2 hk, by simp [h]⟩
theorem crtB_cof {c : Crt} {k : Nat} {q : List Trm} (hk : c.cofactors[k]? = some q) (h : polyB q = false) : crtB c = false := by
 unfold crtB
 rw [show (c.cofactors.all polyB) = false from ?_]
 · simp
 · rw [List.all_eq_false]; exact ⟨q, List.mem_of_getElem? hk, by simp [h]⟩
theorem crtB_good {c : Crt} (h1 : c.powers.length = c.factors.length) (h2 : 1 <= c.power /\ c.power <= 64) (h3 : ∀ k, k < c.factors.length -> facB c k = true) (h4 : (c.cofactors.take c.cofactors.length).all polyB = true) : crtB c = true := by
 unfold crtB
 rw [List.take_length] at h4
 rw [decide_eq_true h1, decide_eq_true h2, h4]
 simp only [Bool.and_eq_true, List.all_eq_true, Bool.true_and, Bool.and_true]
 exact fun k hk => h3 k (List.mem_range.1 hk)
theorem all_take {α : Type} {f : α -> Bool} {l : List α} {k : Nat} {x : α} (h : (l.take k).all f = true) (hx : l[k]? = some x) (hf : f x = true) : (l.take (k + 1)).all f = true := by
 rw [take_more hx, List.all_append, h]; simp [hf]
theorem ints_cell {w : World} {a : Option Addr} {c : Nat} {l : List Int} (h : IntsR w a c l) {k : Nat} {x : Int} (hx : l[k]? = some x) : ∃ b off, a = some ⟨b, off, none⟩ /\ w.cell? ⟨b, off + k, none⟩ = some (.int .i64 x) /\ InInt x := by
 obtain ⟨b, off, ha, hc⟩ := h.2.2 k x hx
 exact ⟨b, off, ha, by simpa using hc.1, inInt_of hc.2⟩
theorem monoP_any (l : List Int) (a : Option Addr) (c : Nat) (w : World) (h : IntsR w a c l) :
  Calls Tryz.prog 52 #[.slice a l.length c] w fun e w' => e = .returned (.bool (monoB l)) /\ w = w' := by
 have hlen := h.len
 by_cases h64 : 64 < l.length
 ·
  rw [monoB_long h64]
  go_enter Tryz.func52, Tryz.ntmps52
  go_wp2
  go_ret
  exact ⟨rfl, rfl⟩
 ·
  have HI := Hd h
  clear h
  have hloop : ∀ k, k < l.length -> ∃ x, l[k]? = some x := fun k hk => get_of_lt hk
  by_cases h0 : 0 < l.length
  ·
   obtain ⟨y, hy⟩ := hloop (l.length - 1) (by omega)
   obtain ⟨b, off, rfl, hcy, hiy⟩ := ints_cell HI.out hy
   have HY := Hd hy
   have HL := Hd hloop
   clear hloop hy
   by_cases hy0 : y = 0
   ·
    rw [monoB_last (by rw [HY.out, hy0])]
    subst hy0
    clear hiy
    go_enter Tryz.func52, Tryz.ntmps52
    go_wp2
    go_ret
    exact ⟨rfl, rfl⟩
   ·
    have hye : (y == 0) = false := by simpa using hy0
    have HY0 := Hd hy0
    obtain ⟨hy1, hy2⟩ := hiy
    clear hy0
    obtain ⟨res, hres⟩ : ∃ x, monoB l = x := ⟨_, rfl⟩
    rw [hres]
    have HRES := Hd hres
    clear hres
    go_enter Tryz.func52, Tryz.ntmps52
    go_wp2
    clear hcy hye hy1 hy2
    go_loop [4, 24] (fun _ q => ∃ k : Nat, k <= l.length /\ q = .int .i64 k /\ Hid (((l.take k).all fun x => decide (0 <= x /\ x <= 1048576)) = true)) (fun _ q => l.length - (intOf q).toNat)
    case atStart => exact ⟨0, by omega, rfl, rfl⟩
    case round =>
     obtain ⟨k, hk, rfl, hall⟩ := hrel
     by_cases hlt : k < l.length
     ·
      obtain ⟨x, hx⟩ := HL.out k hlt
      obtain ⟨b2, off2, hbo, hcx, hix⟩ := ints_cell HI.out hx
      injection hbo with hbo
      injection hbo with hbo1 hbo2
      subst hbo1 hbo2
      obtain ⟨hx1, hx2⟩ := hix
      have HX := Hd hx
      clear hx
      by_cases hin : 0 <= x /\ x <= 1048576
      ·
       obtain ⟨hin1, hin2⟩ := hin
       go_wp2
       go_round
       case rel => exact ⟨k + 1, by omega, by go_num, by show _ = _; rw [take_more HX.out, List.all_append, hall.out]; simp [hin1, hin2]⟩
       case measure => simp [intOf]; omega
      ·
       have hr : res = false := by rw [<- HRES.out, monoB_bad HX.out hin]
       subst hr
       by_cases hneg : x < 0
       ·
        clear hin
        go_wp2
        go_ret
        exact ⟨rfl, rfl⟩
       ·
        have hbig : 1048576 < x := by omega
        clear hin
        go_wp2
        go_ret
        exact ⟨rfl, rfl⟩
     ·
      have hr : res = true := by
       rw [<- HRES.out]
       refine monoB_good (by omega) (by rw [HY.out]; intro h; injection h with h; exact HY0.out h) ?_
       have := hall.out
       rwa [take_all hlt] at this
      subst hr
      go_wp2
      go_ret
      exact ⟨rfl, rfl⟩
  ·
   have hnil : l = [] := List.eq_nil_of_length_eq_zero (by omega)
   subst hnil
   rw [show monoB [] = true from rfl]
   clear HI hloop
   go_enter Tryz.func52, Tryz.ntmps52
   go_wp2
   go_loop [4, 24] (fun _ q => q = .int .i64 0) (fun _ q => 0)
   case atStart => rfl
   case round =>
    obtain rfl := hrel
    go_wp2
    go_ret
    exact ⟨rfl, rfl⟩
end Go.Proofs.YtkjnkpkagcboeaaGreatDoor
