/- Walks: the program's rational numbers: unit, parts. -/
import Derived.Test.YtaihkpjbnkgmlaaGreatRf14

/- Walks: rational numbers by the reference: Of, Frac. -/
namespace Go.Proofs.YtaihkpjbnkgmlaaGreat
open Go.RowKit

theorem limbs_int {z : Int} (hi : InInt z) : (limbs z.natAbs).length ≤ 4 := by
 obtain ⟨h1, h2⟩ := hi
 have : (65536 : Nat) ^ 4 = 18446744073709551616 := by decide
 exact limbs_len_le (by omega)
set_option maxRecDepth 100000 in
set_option maxHeartbeats 1000000 in
theorem qintR_any (z : Int) (w : World) (hi : InInt z) :
  Calls Tryz.prog 39 #[.int .i64 z] w (RetF (lowest (decide (z < 0)) z.natAbs 1) w) := by
 have hl4 := limbs_int hi
 have hl1 : (limbs 1).length ≤ 4 := limbs_len_le (by decide)
 have CZ := fun W => zintR_any z W hi
 have C1 := fun W => of01_any 1 W (by omega)
 have CO := fun a a' c c' W h h' => over_all (decide (z < 0)) (limbs z.natAbs) (limbs 1) z.natAbs 1 a a' c c' W h h' (val_limbs _) (val_limbs _) (by omega) (by omega)
 obtain ⟨t, ht⟩ : ∃ t, lowest (decide (z < 0)) z.natAbs 1 = t := ⟨_, rfl⟩
 obtain ⟨ng, hng⟩ : ∃ q, decide (z < 0) = q := ⟨_, rfl⟩
 obtain ⟨nz, hnz⟩ : ∃ q, z.natAbs = q := ⟨_, rfl⟩
 rw [ht] at CO ⊢
 simp only [hng, hnz] at CO CZ
 obtain ⟨s, N, D⟩ := t
 unfold RetF at CO ⊢
 dsimp only at CO ⊢
 replace CZ := Lib.hid CZ; replace C1 := Lib.hid C1; replace CO := Lib.hid CO
 have hz : Blk (w.alloc (.cells #[.bool false, .slice none 0 0, .slice none 0 0] 43)) w.heap.size 43 #[.bool false, .slice none 0 0, .slice none 0 0] := Blk.new w _ _
 have hb0 : Below w.heap.size w (w.alloc (.cells #[.bool false, .slice none 0 0, .slice none 0 0] 43)) := (Below.refl _ _).alloc (Nat.le_refl _) _
 clear ht hng hnz hl4 hl1
 go_enter Tryz.func39, Tryz.ntmps39
 go_wp2_with fail
 revert hz hb0
 generalize w.alloc (.cells #[.bool false, .slice none 0 0, .slice none 0 0] 43) = w0
 intro hz hb0
 refine (CZ.out _).mono ?_
 rintro e w1 ⟨a1, c1, rfl, hV1, hb1⟩
 have hw1 := below_then hb0 hb1
 have hz1 := hz.below' hb1
 have HV1 := Lib.hid hV1
 clear hV1
 go_wp2_with fail
 refine (C1.out _).mono ?_
 rintro e w2 ⟨a2, c2, rfl, hV2, hb2⟩
 have hw2 := below_then hw1 hb2
 have hz2 := hz1.below' hb2
 have CF := CO.out a1 a2 c1 c2 w2 (HV1.out w2 ((New.refl _ _).below hb2)) (hV2 w2 (New.refl _ _))
 replace CF := Lib.hid CF
 clear hV2
 go_wp2_with fail
 refine CF.out.mono ?_
 rintro e w3 ⟨a3, c3, a4, c4, rfl, hV3, hV4, hb3⟩
 have hw3 := below_then hw2 hb3
 have hz3 := hz2.below' hb3
 have HV3 := Lib.hid hV3
 have HV4 := Lib.hid hV4
 have hs2 := hw2.size
 have hgl2 := hz2.lt
 have z0 := hz3.cell 0; have z1 := hz3.cell 1; have z2 := hz3.cell 2; have f0 := hz3.frozen 0; have f1 := hz3.frozen 1; have f2 := hz3.frozen 2
 clear hV3 hV4
 go_wp2
 have hF := blk3 (x := .bool s) (y := .slice a3 (limbs N).length c3) (z := .slice a4 (limbs D).length c4) hz3
 have e0 := hF.cell 0; have e1 := hF.cell 1; have e2 := hF.cell 2
 refine bodyPost_ret (v := .agg #[.bool s, .slice a3 (limbs N).length c3, .slice a4 (limbs D).length c4]) (by simp [results, Tryz.results39, go_sem, e0, e1, e2]) rfl ?_
 exact ⟨a3, c3, a4, c4, rfl, fun V hV => HV3.out V (back3 hV hs2 hgl2), fun V hV => HV4.out V (back3 hV hs2 hgl2), below3 hw3 (Nat.le_refl _)⟩
set_option maxRecDepth 100000 in
set_option maxHeartbeats 1000000 in
/-- a fraction of two integers -/
theorem qfracR_any (z y : Int) (w : World) (hi : InInt z) (hj : InInt y) (h0 : y ≠ 0) :
  Calls Tryz.prog 61 #[.int .i64 z, .int .i64 y] w (RetF (lowest (decide (z < 0) != decide (y < 0)) z.natAbs y.natAbs) w) := by
 have hl4 := limbs_int hi
 have hl5 := limbs_int hj
 have CZ := fun W => zintR_any z W hi
 have CY := fun W => zintR_any y W hj
 have CO := fun a a' c c' W h h' => qmakeR_any (decide (z < 0)) (decide (y < 0)) (limbs z.natAbs) (limbs y.natAbs) z.natAbs y.natAbs a a' c c' W h h' (val_limbs _) (val_limbs _) (by omega) (by omega) (by omega)
 obtain ⟨t, ht⟩ : ∃ t, lowest (decide (z < 0) != decide (y < 0)) z.natAbs y.natAbs = t := ⟨_, rfl⟩
 obtain ⟨ng, hng⟩ : ∃ q, decide (z < 0) = q := ⟨_, rfl⟩
 obtain ⟨nz, hnz⟩ : ∃ q, z.natAbs = q := ⟨_, rfl⟩
 obtain ⟨mg, hmg⟩ : ∃ q, decide (y < 0) = q := ⟨_, rfl⟩
 obtain ⟨mz, hmz⟩ : ∃ q, y.natAbs = q := ⟨_, rfl⟩
 rw [ht] at CO ⊢
 simp only [hng, hnz] at CO CZ
 simp only [hmg, hmz] at CO CY
 obtain ⟨s, N, D⟩ := t
 unfold RetM at CO
 unfold RetF
 dsimp only at CO ⊢
 replace CZ := Lib.hid CZ; replace CY := Lib.hid CY; replace CO := Lib.hid CO
 have hz : Blk (w.alloc (.cells #[.bool false, .slice none 0 0, .slice none 0 0] 43)) w.heap.size 43 #[.bool false, .slice none 0 0, .slice none 0 0] := Blk.new w _ _
 have hb0 : Below w.heap.size w (w.alloc (.cells #[.bool false, .slice none 0 0, .slice none 0 0] 43)) := (Below.refl _ _).alloc (Nat.le_refl _) _
 clear ht hng hnz hl4 hl5 hmg hmz h0
 go_enter Tryz.func61, Tryz.ntmps61
 go_wp2_with fail
 revert hz hb0
 generalize w.alloc (.cells #[.bool false, .slice none 0 0, .slice none 0 0] 43) = w0
 intro hz hb0
 refine (CZ.out _).mono ?_
 rintro e w1 ⟨a1, c1, rfl, hV1, hb1⟩
 have hw1 := below_then hb0 hb1
 have hz1 := hz.below' hb1
 have HV1 := Lib.hid hV1
 clear hV1
 go_wp2_with fail
 refine (CY.out _).mono ?_
 rintro e w2 ⟨a2, c2, rfl, hV2, hb2⟩
 have hw2 := below_then hw1 hb2
 have hz2 := hz1.below' hb2
 have CF := CO.out a1 a2 c1 c2 w2 (HV1.out w2 ((New.refl _ _).below hb2)) (hV2 w2 (New.refl _ _))
 replace CF := Lib.hid CF
 clear hV2
 go_wp2_with fail
 refine CF.out.mono ?_
 rintro e w3 ⟨a3, c3, a4, c4, rfl, hV3, hV4, hb3⟩
 have hw3 := below_then hw2 hb3
 have hz3 := hz2.below' hb3
 have HV3 := Lib.hid hV3
 have HV4 := Lib.hid hV4
 have hs2 := hw2.size
 have hgl2 := hz2.lt
 have hz4 := hz3.alloc (.cells #[.bool s, .slice a3 (limbs N).length c3, .slice a4 (limbs D).length c4] 43)
 have hw4 := hw3.alloc hw3.size (.cells #[.bool s, .slice a3 (limbs N).length c3, .slice a4 (limbs D).length c4] 43)
 have z0 := hz4.cell 0; have z1 := hz4.cell 1; have z2 := hz4.cell 2; have f0 := hz4.frozen 0; have f1 := hz4.frozen 1; have f2 := hz4.frozen 2
 clear hV3 hV4
 go_wp2
 have hF := blk3 (x := .bool s) (y := .slice a3 (limbs N).length c3) (z := .slice a4 (limbs D).length c4) hz4
 have e0 := hF.cell 0; have e1 := hF.cell 1; have e2 := hF.cell 2
 refine bodyPost_ret (v := .agg #[.bool s, .slice a3 (limbs N).length c3, .slice a4 (limbs D).length c4]) (by simp [results, Tryz.results61, go_sem, e0, e1, e2]) rfl ?_
 exact ⟨a3, c3, a4, c4, rfl, fun V hV => HV3.out V (back3 hV hs2 hgl2).unalloc, fun V hV => HV4.out V (back3 hV hs2 hgl2).unalloc, below3 hw4 (Nat.le_refl _)⟩
end Go.Proofs.YtaihkpjbnkgmlaaGreat

/- Walks: rational numbers by the reference: Neg. -/
namespace Go.Proofs.YtaihkpjbnkgmlaaGreat
open Go.RowKit

set_option maxRecDepth 100000 in
set_option maxHeartbeats 2000000 in
theorem qnegR_any (neg : Bool) (l m : List Int) (n d : Nat) (a a' : Option Addr) (c c' : Nat) (w : World) (h : NatR w a c l) (h' : NatR w a' c' m) (hn : val l = n) (hk : val m = d) (hl : l.length ≤ 2000000) (hm : m.length ≤ 2000000) :
  Calls Tryz.prog 101 #[.agg #[.bool neg, .slice a l.length c, .slice a' m.length c']] w (RetF (lowest (!neg) n d) w) := by
 have hll := limbs_len_val h.u16
 rw [hn] at hll
 have CN := fun W (hW : Below w.heap.size w W) => znegR_any neg l n a c W (h.ext (Ext.below hW)) hn (by omega)
 have CO := fun a1 c1 W h1 (hW : Below w.heap.size w W) => over_all (!neg && decide (0 < n)) (limbs n) m n d a1 a' c1 c' W h1 (h'.ext (Ext.below hW)) (val_limbs _) hk (by omega) hm
 simp only [lowest_pos] at CO
 obtain ⟨t, ht⟩ : ∃ t, lowest (!neg) n d = t := ⟨_, rfl⟩
 obtain ⟨ng, hng⟩ : ∃ q, (!neg && decide (0 < n)) = q := ⟨_, rfl⟩
 rw [ht] at CO ⊢
 rw [hng] at CO CN
 obtain ⟨s, N, D⟩ := t
 unfold RetF at CO ⊢
 dsimp only at CO ⊢
 replace CN := Lib.hid CN; replace CO := Lib.hid CO
 have hx : Blk ((w.alloc (.cells #[.bool neg, .slice a l.length c, .slice a' m.length c'] 43)).alloc (.cells #[.bool false, .slice none 0 0, .slice none 0 0] 43)) w.heap.size 43 #[.bool neg, .slice a l.length c, .slice a' m.length c'] := (Blk.new w _ _).alloc _
 have hz : Blk ((w.alloc (.cells #[.bool neg, .slice a l.length c, .slice a' m.length c'] 43)).alloc (.cells #[.bool false, .slice none 0 0, .slice none 0 0] 43)) (w.heap.size + 1) 43 #[.bool false, .slice none 0 0, .slice none 0 0] := blk_at1 w _ _ _
 have hb0 : Below w.heap.size w ((w.alloc (.cells #[.bool neg, .slice a l.length c, .slice a' m.length c'] 43)).alloc (.cells #[.bool false, .slice none 0 0, .slice none 0 0] 43)) := by go_grown
 have hgB : w.heap.size ≤ w.heap.size + 1 := by omega
 have hgl := hz.lt
 clear h h' hn hk ht hll hng
 go_enter Tryz.func101, Tryz.ntmps101
 go_wp2
 revert hx hz hb0 hgB hgl
 generalize (w.alloc (.cells #[.bool neg, .slice a l.length c, .slice a' m.length c'] 43)).alloc (.cells #[.bool false, .slice none 0 0, .slice none 0 0] 43) = w0
 generalize w.heap.size + 1 = g
 intro hx hz hb0 hgB hgl
 have k0 := held (hx.cell 0); have k1 := held (hx.cell 1); have k2 := held (hx.cell 2)
 have s0 : Below w0.heap.size w0 w0.drew := (Below.refl _ _).drew
 refine wp_region_mix (S := Below w0.heap.size w0) [(0, .q), (1, .q), (3, .q), (4, .q), (2, .l), (5, .t), (6, .t)] (by kernel_rfl) (by kernel_rfl) (by kernel_rfl) (fun d _ _ _ _ h => by cases d <;> exact h) (s0) ?_
 iterate 4 (refine wpMix_q rfl rfl (fun K hK => ?_); apply Exists.intro; refine ⟨fun w' hw' => ?_, ?_⟩; (focus (go_simp; try rfl)); go_simp; refine hK _ _ ?_; clear hK K)
 refine wpMix_l rfl rfl (fun K hK => ?_)
 go_simp
 refine (CN.out _ (below_then hb0 s0)).mono ?_
 rintro r w1 ⟨a3, c3, rfl, hV3, hb1⟩
 dsimp only
 refine hK.out _ _ (below_then s0 hb1) (fun _ => ?_)
 clear hK K
 have s1 := below_then s0 hb1
 have CF := CO.out a3 c3 w1 (hV3 w1 (New.refl _ _)) (below_then hb0 s1)
 replace CF := Lib.hid CF
 clear hV3
 refine wpMix_t rfl rfl (fun K hK => ?_)
 go_simp
 refine (CF.out).mono ?_
 rintro r w2 ⟨a1, c1, a2, c2, rfl, hV1, hV2, hb2⟩
 dsimp only
 refine hK.out _ _ ?_
 clear hK K
 have s2 := below_then s1 hb2
 have hz3 := hz.below' s2
 have z0 := hz3.cell 0; have z1 := hz3.cell 1; have z2 := hz3.cell 2; have f0 := hz3.frozen 0; have f1 := hz3.frozen 1; have f2 := hz3.frozen 2
 have hw2 := below_then hb0 s2
 have hs1 := (below_then hb0 s1).size
 have hg1 : g < w1.heap.size := Nat.lt_of_lt_of_le hgl s1.size
 have HV1 := Lib.hid hV1
 have HV2 := Lib.hid hV2
 clear hV1 hV2 k0 k1 k2
 refine wpMix_t rfl rfl (fun K hK => ?_)
 go_simp
 refine hK.out _ _ ?_
 clear hK K
 refine wpMix_nil ?_
 go_wp2
 have hF := blk3 (x := .bool s) (y := .slice a1 (limbs N).length c1) (z := .slice a2 (limbs D).length c2) hz3
 have e0 := hF.cell 0; have e1 := hF.cell 1; have e2 := hF.cell 2
 refine bodyPost_ret (v := .agg #[.bool s, .slice a1 (limbs N).length c1, .slice a2 (limbs D).length c2]) (by simp [results, Tryz.results101, go_sem, e0, e1, e2]) rfl ?_
 exact ⟨a1, c1, a2, c2, rfl, fun V hV => HV1.out V (back3 hV hs1 hg1), fun V hV => HV2.out V (back3 hV hs1 hg1), below3 hw2 hgB⟩
end Go.Proofs.YtaihkpjbnkgmlaaGreat

/- Walks: comparison of rational numbers by the reference. -/
namespace Go.Proofs.YtaihkpjbnkgmlaaGreat
open Go.RowKit

theorem zval_pos (neg : Bool) (n : Nat) : zval (neg && decide (0 < n)) n = zval neg n := by
 by_cases hn : n = 0
 ·
  subst hn
  simp [zval]
 ·
  have : decide (0 < n) = true := by rw [decide_eq_true_eq]; omega
  rw [this, Bool.and_true]
theorem lowest_num (neg : Bool) (n d : Nat) : (lowest neg n d).2.1 ≤ n := by
 unfold lowest
 split
 · exact Nat.zero_le _
 · exact Nat.div_le_self _ _
theorem lowest_den (neg : Bool) (n d : Nat) : (lowest neg n d).2.2 ≤ d + 1 := by
 unfold lowest
 split
 · show 1 ≤ d + 1; omega
 · exact Nat.le_succ_of_le (Nat.div_le_self _ _)
theorem lowest_den_pos (neg : Bool) (n d : Nat) : 0 < (lowest neg n d).2.2 := by
 unfold lowest
 split
 · decide
 · next h0 => exact Nat.div_pos (Nat.le_of_dvd (by omega) (Nat.gcd_dvd_right n d)) (Nat.gcd_pos_of_pos_right n (by omega))
theorem limbs_len_succ (d : Nat) : (limbs (d + 1)).length ≤ (limbs d).length + 1 := by
 apply limbs_len_le
 have := lt_pow_limbs d
 rw [Nat.pow_succ]
 have h1 : 0 < 65536 ^ (limbs d).length := Nat.pow_pos (by decide)
 omega
/-- the order of two fractions, each a sign, a numerator and a denominator -/
def crossed (t u : Bool × Nat × Nat) : Int := cmpI (zval t.1 (t.2.1 * u.2.2)) (zval u.1 (u.2.1 * t.2.2))
set_option maxRecDepth 100000 in
set_option maxHeartbeats 4000000 in
theorem qcmpR_any (neg1 neg2 : Bool) (l m l' m' : List Int) (n1 d1 n2 d2 : Nat) (a b a' b' : Option Addr) (c cb c' cb' : Nat) (w : World) (h1 : NatR w a c l) (h2 : NatR w b cb m) (h3 : NatR w a' c' l') (h4 : NatR w b' cb' m')
  (e1 : val l = n1) (e2 : val m = d1) (e3 : val l' = n2) (e4 : val m' = d2) (b1 : l.length ≤ 900000) (b2 : m.length ≤ 900000) (b3 : l'.length ≤ 900000) (b4 : m'.length ≤ 900000) :
  Calls Tryz.prog 47 #[.agg #[.bool neg1, .slice a l.length c, .slice b m.length cb], .agg #[.bool neg2, .slice a' l'.length c', .slice b' m'.length cb']] w fun e w' =>
   e = .returned (.int .i64 (crossed (lowest neg1 n1 d1) (lowest neg2 n2 d2))) ∧ Below w.heap.size w w' := by
 have q1 := limbs_len_val h1.u16
 have q2 := limbs_len_val h2.u16
 have q3 := limbs_len_val h3.u16
 have q4 := limbs_len_val h4.u16
 rw [e1] at q1
 rw [e2] at q2
 rw [e3] at q3
 rw [e4] at q4
 have r1 := limbs_len_mono (lowest_num neg1 n1 d1)
 have r2 := limbs_len_mono (lowest_den neg1 n1 d1)
 have r3 := limbs_len_mono (lowest_num neg2 n2 d2)
 have r4 := limbs_len_mono (lowest_den neg2 n2 d2)
 have t2 := limbs_len_succ d1
 have t4 := limbs_len_succ d2
 have C1 := fun W (hW : Below w.heap.size w W) => qnormR_any neg1 l m n1 d1 a b c cb W (h1.ext (Ext.below hW)) (h2.ext (Ext.below hW)) e1 e2 (by omega) (by omega)
 have C2 := fun W (hW : Below w.heap.size w W) => qnormR_any neg2 l' m' n2 d2 a' b' c' cb' W (h3.ext (Ext.below hW)) (h4.ext (Ext.below hW)) e3 e4 (by omega) (by omega)
 obtain ⟨u1, hu1⟩ : ∃ u, lowest neg1 n1 d1 = u := ⟨_, rfl⟩
 obtain ⟨u2, hu2⟩ : ∃ u, lowest neg2 n2 d2 = u := ⟨_, rfl⟩
 rw [hu1] at C1 r1 r2 ⊢
 rw [hu2] at C2 r3 r4 ⊢
 obtain ⟨s1, N1, D1⟩ := u1
 obtain ⟨s2, N2, D2⟩ := u2
 unfold RetF at C1 C2
 unfold crossed
 dsimp only at C1 C2 r1 r2 r3 r4 ⊢
 have m1 := limbs_len_mul N1 D2
 have m2 := limbs_len_mul N2 D1
 have CM1 := fun a1 a2 c1 c2 W g1 g2 => zmulR_any s1 false (limbs N1) (limbs D2) N1 D2 a1 a2 c1 c2 W g1 g2 (val_limbs _) (val_limbs _) (by omega) (by omega)
 have CM2 := fun a1 a2 c1 c2 W g1 g2 => zmulR_any s2 false (limbs N2) (limbs D1) N2 D1 a1 a2 c1 c2 W g1 g2 (val_limbs _) (val_limbs _) (by omega) (by omega)
 have x1 : (s1 != false) = s1 := by cases s1 <;> rfl
 have x2 : (s2 != false) = s2 := by cases s2 <;> rfl
 simp only [x1] at CM1
 simp only [x2] at CM2
 have CC := fun a1 a2 c1 c2 W g1 g2 => zcmpR_any (s1 && decide (0 < N1 * D2)) (s2 && decide (0 < N2 * D1)) (limbs (N1 * D2)) (limbs (N2 * D1)) (N1 * D2) (N2 * D1) a1 a2 c1 c2 W g1 g2 (val_limbs _) (val_limbs _) (by omega) (by omega)
 simp only [zval_pos] at CC
 obtain ⟨R, hR⟩ : ∃ q, cmpI (zval s1 (N1 * D2)) (zval s2 (N2 * D1)) = q := ⟨_, rfl⟩
 obtain ⟨p1, hp1⟩ : ∃ q, (s1 && decide (0 < N1 * D2)) = q := ⟨_, rfl⟩
 obtain ⟨p2, hp2⟩ : ∃ q, (s2 && decide (0 < N2 * D1)) = q := ⟨_, rfl⟩
 simp only [hR, hp1, hp2] at CM1 CM2 CC ⊢
 clear hR hp1 hp2 x1 x2 m1 m2 t2 t4 r1 r2 r3 r4 hu1 hu2 q1 q2 q3 q4
 revert CM1 CM2 CC
 generalize N1 * D2 = P1
 generalize N2 * D1 = P2
 intro CM1 CM2 CC
 replace C1 := Lib.hid C1; replace C2 := Lib.hid C2; replace CM1 := Lib.hid CM1; replace CM2 := Lib.hid CM2; replace CC := Lib.hid CC
 have hx1 : Blk ((w.alloc (.cells #[.bool neg1, .slice a l.length c, .slice b m.length cb] 43)).alloc (.cells #[.bool neg2, .slice a' l'.length c', .slice b' m'.length cb'] 43)) w.heap.size 43 #[.bool neg1, .slice a l.length c, .slice b m.length cb] := (Blk.new w _ _).alloc _
 have hx2 : Blk ((w.alloc (.cells #[.bool neg1, .slice a l.length c, .slice b m.length cb] 43)).alloc (.cells #[.bool neg2, .slice a' l'.length c', .slice b' m'.length cb'] 43)) (w.heap.size + 1) 43 #[.bool neg2, .slice a' l'.length c', .slice b' m'.length cb'] := blk_at1 w _ _ _
 have hb0 : Below w.heap.size w ((w.alloc (.cells #[.bool neg1, .slice a l.length c, .slice b m.length cb] 43)).alloc (.cells #[.bool neg2, .slice a' l'.length c', .slice b' m'.length cb'] 43)) := by go_grown
 have hgB : w.heap.size < w.heap.size + 1 := by omega
 clear h1 h2 h3 h4 e1 e2 e3 e4
 go_enter Tryz.func47, Tryz.ntmps47
 go_wp2
 revert hx1 hx2 hb0 hgB
 generalize (w.alloc (.cells #[.bool neg1, .slice a l.length c, .slice b m.length cb] 43)).alloc (.cells #[.bool neg2, .slice a' l'.length c', .slice b' m'.length cb'] 43) = w0
 generalize w.heap.size + 1 = g
 intro hx1 hx2 hb0 hgB
 have k0 := held (hx1.cell 0); have k1 := held (hx1.cell 1); have k2 := held (hx1.cell 2); have k3 := held (hx2.cell 0); have k4 := held (hx2.cell 1); have k5 := held (hx2.cell 2)
 have s0 : Below w0.heap.size w0 w0.drew := (Below.refl _ _).drew
 have hgl := hx2.lt
 refine wp_region_mix (S := Below w0.heap.size w0) [(0, .q), (2, .q), (1, .l), (3, .t), (4, .t), (5, .t)] (by kernel_rfl) (by kernel_rfl) (by kernel_rfl) (fun d _ _ _ _ h => by cases d <;> exact h) (s0) ?_
 iterate 2 (refine wpMix_q rfl rfl (fun K hK => ?_); apply Exists.intro; refine ⟨fun w' hw' => ?_, ?_⟩; (focus (go_simp; try rfl)); go_simp; refine hK _ _ ?_; clear hK K)
 refine wpMix_l rfl rfl (fun K hK => ?_)
 go_simp
 refine (C1.out _ (below_then hb0 s0)).mono ?_
 rintro r w1 ⟨a1, c1, a2, c2, rfl, hV1, hV2, hb1⟩
 dsimp only
 refine hK.out _ _ (below_then s0 hb1) (fun _ => ?_)
 clear hK K
 have s1' := below_then s0 hb1
 refine wpMix_t rfl rfl (fun K hK => ?_)
 go_simp
 refine (C2.out _ (below_then hb0 s1')).mono ?_
 rintro r w2 ⟨a3, c3, a4, c4, rfl, hV3, hV4, hb2⟩
 dsimp only
 refine hK.out _ _ ?_
 clear hK K
 have s2' := below_then s1' hb2
 have hy1 := hx1.below' s2'
 have hy2 := hx2.below' s2'
 have z0 := hy1.cell 0; have z1 := hy1.cell 1; have z2 := hy1.cell 2; have z3 := hy2.cell 0; have z4 := hy2.cell 1; have z5 := hy2.cell 2
 have f0 := hy1.frozen 0; have f1 := hy1.frozen 1; have f2 := hy1.frozen 2; have f3 := hy2.frozen 0; have f4 := hy2.frozen 1; have f5 := hy2.frozen 2
 have hne : ¬ g = w.heap.size := by omega
 have hne2 : ¬ w.heap.size = g := by omega
 have HV1 := Lib.hid hV1
 have HV2 := Lib.hid hV2
 have HV3 := Lib.hid hV3
 have HV4 := Lib.hid hV4
 have hw2 := below_then hb0 s2'
 have hs1 := s1'.size
 have hs0 := hb1.size
 clear hV1 hV2 hV3 hV4 k0 k1 k2 k3 k4 k5
 refine wpMix_t rfl rfl (fun K hK => ?_)
 go_simp
 refine hK.out _ _ ?_
 clear hK K
 refine wpMix_t rfl rfl (fun K hK => ?_)
 go_simp
 refine hK.out _ _ ?_
 clear hK K
 refine wpMix_nil ?_
 have hF1 := (((blk3 (x := .bool s1) (y := .slice a1 (limbs N1).length c1) (z := .slice a2 (limbs D1).length c2) hy1).far (p := ⟨g, 0, none⟩) hne2 (.bool s2)).far (p := ⟨g, 1, none⟩) hne2 (.slice a3 (limbs N2).length c3)).far (p := ⟨g, 2, none⟩) hne2 (.slice a4 (limbs D2).length c4)
 have hF2 := blk3 (x := .bool s2) (y := .slice a3 (limbs N2).length c3) (z := .slice a4 (limbs D2).length c4) (((hy2.far (p := ⟨w.heap.size, 0, none⟩) hne (.bool s1)).far (p := ⟨w.heap.size, 1, none⟩) hne (.slice a1 (limbs N1).length c1)).far (p := ⟨w.heap.size, 2, none⟩) hne (.slice a2 (limbs D1).length c2))
 have hwF := below3 (x := .bool s2) (y := .slice a3 (limbs N2).length c3) (z := .slice a4 (limbs D2).length c4) (below3 (x := .bool s1) (y := .slice a1 (limbs N1).length c1) (z := .slice a2 (limbs D1).length c2) hw2 (Nat.le_refl _)) (Nat.le_of_lt hgB)
 have hN := New.refl w0.heap.size (((((((w2.setCell ⟨w.heap.size, 0, none⟩ (.bool s1)).setCell ⟨w.heap.size, 1, none⟩ (.slice a1 (limbs N1).length c1)).setCell ⟨w.heap.size, 2, none⟩ (.slice a2 (limbs D1).length c2)).setCell ⟨g, 0, none⟩ (.bool s2)).setCell ⟨g, 1, none⟩ (.slice a3 (limbs N2).length c3)).setCell ⟨g, 2, none⟩ (.slice a4 (limbs D2).length c4)))
 have hN2 := back3 (back3 hN (Nat.le_refl _) hgl) (Nat.le_refl _) hx1.lt
 revert hF1 hF2 hwF hN2
 generalize ((((((w2.setCell ⟨w.heap.size, 0, none⟩ (.bool s1)).setCell ⟨w.heap.size, 1, none⟩ (.slice a1 (limbs N1).length c1)).setCell ⟨w.heap.size, 2, none⟩ (.slice a2 (limbs D1).length c2)).setCell ⟨g, 0, none⟩ (.bool s2)).setCell ⟨g, 1, none⟩ (.slice a3 (limbs N2).length c3)).setCell ⟨g, 2, none⟩ (.slice a4 (limbs D2).length c4)) = wF
 intro hF1 hF2 hwF hN2
 have r1 := HV1.out wF (hN2.below hb2)
 have r2 := HV2.out wF (hN2.below hb2)
 have r3 := HV3.out wF (hN2.base hs1)
 have r4 := HV4.out wF (hN2.base hs1)
 clear hN hy1 hy2 z0 z1 z2 z3 z4 z5 f0 f1 f2 f3 f4 f5 hx1 hx2 HV1 HV2 HV3 HV4 s0 s1' s2' hb1 hb2 hw2 hb0 hs1 hs0
 have k0 := held (hF1.cell 0); have k1 := held (hF1.cell 1); have k2 := held (hF1.cell 2); have k3 := held (hF2.cell 0); have k4 := held (hF2.cell 1); have k5 := held (hF2.cell 2)
 have s0 : Below wF.heap.size wF wF.drew := (Below.refl _ _).drew
 have W1 := fun W => whole_any (limbs D2).length a4 c4 W
 have W2 := fun W => whole_any (limbs D1).length a2 c2 W
 replace W1 := Lib.hid W1; replace W2 := Lib.hid W2
 go_wp2
 refine wp_region_mix (S := Below wF.heap.size wF) [(0, .q), (1, .q), (2, .q), (3, .q), (6, .q), (7, .q), (8, .q), (9, .q), (4, .l), (5, .l), (10, .l), (11, .t), (12, .t), (13, .p)] (by kernel_rfl) (by kernel_rfl) (by kernel_rfl) (fun d _ _ _ _ h => by cases d <;> exact h) (s0) ?_
 iterate 8 (refine wpMix_q rfl rfl (fun K hK => ?_); apply Exists.intro; refine ⟨fun w' hw' => ?_, ?_⟩; (focus (go_simp; try rfl)); go_simp; refine hK _ _ ?_; clear hK K)
 refine wpMix_l rfl rfl (fun K hK => ?_)
 go_simp
 refine (W1.out _).mono ?_
 rintro r w3 ⟨rfl, hb3⟩
 dsimp only
 refine hK.out _ _ (below_then s0 hb3) (fun _ => ?_)
 clear hK K
 have t3 := below_then s0 hb3
 have CA := CM1.out a1 a4 c1 c4 w3 (r1.ext (Ext.below t3)) (r4.ext (Ext.below t3))
 replace CA := Lib.hid CA
 refine wpMix_l rfl rfl (fun K hK => ?_)
 go_simp
 refine (CA.out).mono ?_
 rintro r w4 ⟨a5, c5, rfl, hV5, hb4⟩
 dsimp only
 refine hK.out _ _ (below_then t3 hb4) (fun _ => ?_)
 clear hK K
 have t4 := below_then t3 hb4
 have HV5 := Lib.hid hV5
 clear hV5
 refine wpMix_l rfl rfl (fun K hK => ?_)
 go_simp
 refine (W2.out _).mono ?_
 rintro r w5 ⟨rfl, hb5⟩
 dsimp only
 refine hK.out _ _ (below_then t4 hb5) (fun _ => ?_)
 clear hK K
 have t5 := below_then t4 hb5
 have CB := CM2.out a3 a2 c3 c2 w5 (r3.ext (Ext.below t5)) (r2.ext (Ext.below t5))
 replace CB := Lib.hid CB
 refine wpMix_t rfl rfl (fun K hK => ?_)
 go_simp
 refine (CB.out).mono ?_
 rintro r w6 ⟨a6, c6, rfl, hV6, hb6⟩
 dsimp only
 refine hK.out _ _ ?_
 clear hK K
 have t6 := below_then t5 hb6
 have CD := CC.out a5 a6 c5 c6 w6 (HV5.out w6 (((New.refl _ _).below hb6).below hb5)) (hV6 w6 (New.refl _ _))
 replace CD := Lib.hid CD
 clear hV6
 refine wpMix_t rfl rfl (fun K hK => ?_)
 go_simp
 refine (CD.out).mono ?_
 rintro r w7 ⟨rfl, hb7⟩
 dsimp only
 refine hK.out _ _ ?_
 clear hK K
 have t7 := below_then t6 hb7
 iterate 1 (refine wpMix_p rfl rfl (fun K hK => ?_); apply Exists.intro; refine ⟨fun w' => ?_, ?_⟩; (focus (go_simp; try rfl)); go_simp; refine hK _ _ ?_; clear hK K)
 refine wpMix_nil ?_
 go_wp2
 go_ret
 exact ⟨rfl, below_then hwF t7⟩
end Go.Proofs.YtaihkpjbnkgmlaaGreat

/- Walks: the program's rational numbers: unit, parts. -/
namespace Go.Proofs.YtaihkpjbnkgmlaaGreat
open Go.RowKit

theorem limbs_one : limbs 1 = [1] := by rw [limbs_pos (by omega)]; simp [limbs_zero]
set_option maxHeartbeats 1000000 in
theorem unit_any (w : World) : Calls Tryz.prog 83 #[] w (RetN (limbs 1) w) := by
 rw [limbs_one]
 go_enter Tryz.func83, Tryz.ntmps83
 go_wp2
 go_ret
 refine ⟨some ⟨w.heap.size, 0, none⟩, 1, rfl, fun V hV => ?_, (Below.refl _ _).alloc (Nat.le_refl _) _⟩
 exact BlkN.readsV (l := [1]) (B := w.heap.size) (Blk.new w _ _) (Nat.le_refl _) hV (by intro x hx; simp at hx; omega) (by simp) (by simp [maxLen])
set_option maxRecDepth 100000 in
set_option maxHeartbeats 2000000 in
/-- a fraction whose denominator is not 0, in its parts -/
theorem parts_any (neg : Bool) (l m : List Int) (a a' : Option Addr) (c c' : Nat) (w : World) (h' : NatR w a' c' m) (h0 : val m ≠ 0) (hm : m.length ≤ 16777216) :
  Calls Tryz.prog 112 #[.agg #[.bool neg, .slice a l.length c, .slice a' m.length c']] w fun e w' =>
   e = .returned (.tuple #[.agg #[.bool neg, .slice a l.length c], .slice a' m.length c']) ∧ Below w.heap.size w w' := by
 have CB := fun W (hW : Below w.heap.size w W) => bits_any m (val m) a' c' W (h'.ext (Ext.below hW)) rfl hm
 replace CB := Lib.hid CB
 have hx : Blk ((w.alloc (.cells #[.bool neg, .slice a l.length c, .slice a' m.length c'] 43)).alloc (.cells #[.bool false, .slice none 0 0] 41)) w.heap.size 43 #[.bool neg, .slice a l.length c, .slice a' m.length c'] := (Blk.new w _ _).alloc _
 have hz : Blk ((w.alloc (.cells #[.bool neg, .slice a l.length c, .slice a' m.length c'] 43)).alloc (.cells #[.bool false, .slice none 0 0] 41)) (w.heap.size + 1) 41 #[.bool false, .slice none 0 0] := blk_at1 w _ _ _
 have hb0 : Below w.heap.size w ((w.alloc (.cells #[.bool neg, .slice a l.length c, .slice a' m.length c'] 43)).alloc (.cells #[.bool false, .slice none 0 0] 41)) := by go_grown
 have hgB : w.heap.size < w.heap.size + 1 := by omega
 have hgl := hz.lt
 clear h'
 go_enter Tryz.func112, Tryz.ntmps112
 go_wp2_with fail
 revert hx hz hb0 hgB hgl
 generalize (w.alloc (.cells #[.bool neg, .slice a l.length c, .slice a' m.length c'] 43)).alloc (.cells #[.bool false, .slice none 0 0] 41) = w0
 generalize w.heap.size + 1 = g
 intro hx hz hb0 hgB hgl
 have z0 := hx.cell 0; have z1 := hx.cell 1; have z2 := hx.cell 2
 go_wp2_with fail
 refine (CB.out _ hb0).mono ?_
 rintro e w1 ⟨b, rfl, hb, rfl⟩
 have e0 : ((b : Int) == 0) = false := by rw [beq_eq_false_iff_ne]; have := hb.out.2.1 (by omega); omega
 clear hb h0
 have y0 := hz.cell 0; have y1 := hz.cell 1; have f0 := hz.frozen 0; have f1 := hz.frozen 1
 have k0 : ∀ W, Blk W w.heap.size 43 #[.bool neg, .slice a l.length c, .slice a' m.length c'] → W.cell? ⟨w.heap.size, 0, none⟩ = some (.bool neg) := fun W h => h.cell 0
 have k1 : ∀ W, Blk W w.heap.size 43 #[.bool neg, .slice a l.length c, .slice a' m.length c'] → W.cell? ⟨w.heap.size, 1, none⟩ = some (.slice a l.length c) := fun W h => h.cell 1
 have k2 : ∀ W, Blk W w.heap.size 43 #[.bool neg, .slice a l.length c, .slice a' m.length c'] → W.cell? ⟨w.heap.size, 2, none⟩ = some (.slice a' m.length c') := fun W h => h.cell 2
 have s0 := hx.drew
 have hne : ¬ w.heap.size = g := by omega
 go_wp2
 refine wp_region_mix (S := (fun W => Blk W w.heap.size 43 #[.bool neg, .slice a l.length c, .slice a' m.length c'])) [(0, .q), (1, .q), (2, .q), (3, .q), (4, .l), (5, .p)] (by kernel_rfl) (by kernel_rfl) (by kernel_rfl) (fun d _ _ _ _ h => by cases d <;> exact h) (s0) ?_
 iterate 4 (refine wpMix_q rfl rfl (fun K hK => ?_); apply Exists.intro; refine ⟨fun w' hw' => ?_, ?_⟩; (focus (go_simp; try rfl)); go_simp; refine hK _ _ ?_; clear hK K)
 refine wpMix_l rfl rfl (fun K hK => ?_)
 go_simp
 refine hK.out _ _ (((hx.far (p := ⟨g, 0, none⟩) hne (.bool neg)).far (p := ⟨g, 1, none⟩) hne (.slice a l.length c)).drew) (fun _ => ?_)
 clear hK K
 iterate 1 (refine wpMix_p rfl rfl (fun K hK => ?_); apply Exists.intro; refine ⟨fun w' => ?_, ?_⟩; (focus (go_simp; try rfl)); go_simp; refine hK _ _ ?_; clear hK K)
 refine wpMix_nil ?_
 go_wp2
 have hF := (blk2 (x := .bool neg) (y := .slice a l.length c) hz).drew
 have q0 := hF.cell 0; have q1 := hF.cell 1
 refine bodyPost_ret (v := .tuple #[.agg #[.bool neg, .slice a l.length c], .slice a' m.length c']) (by simp [results, Tryz.results112, go_sem, q0, q1]) rfl ?_
 exact ⟨rfl, (below2 hb0 (Nat.le_of_lt hgB)).drew⟩
end Go.Proofs.YtaihkpjbnkgmlaaGreat
