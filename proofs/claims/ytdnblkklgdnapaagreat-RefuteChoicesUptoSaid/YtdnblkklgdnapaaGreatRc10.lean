/- Walks: monomials: Exp, Cmp, by the program and by the reference. -/
import Derived.Test.YtdnblkklgdnapaaGreatRc9
import Derived.Test.YtdnblkklgdnapaaGreatRc8
import Derived.Test.YtdnblkklgdnapaaGreatRc1
import Derived.Deep.LoopGhost
import Derived.Laws.EntriesVeiled
import Derived.Test.YtdnblkklgdnapaaGreatRc7
set_option linter.all false
set_option maxRecDepth 100000
set_option maxHeartbeats 4000000
namespace Go.Proofs.YtdnblkklgdnapaaGreat
open Go.RowKit
theorem digit_any (j k : Nat) (w : World) (h1 : j <= 4611686018427387904) (hk : k <= 62) :
  Calls Tryz.prog 11 #[.int .i64 j, .int .i64 k] w fun e w' => e = .returned (.int .i64 ((j / 2 ^ k % 2 : Nat) : Int)) /\ w = w' := by
 have hd := digit_bits j k (by omega)
 have hk62 : (k : Int) <= 62 := by omega
 have hj2 : (j : Int) <= 4611686018427387904 := by omega
 obtain ⟨R, hR⟩ : ∃ R, ((j / 2 ^ k % 2 : Nat) : Int) = R := ⟨_, rfl⟩
 rw [hR] at hd ⊢
 clear hR
 go_enter Tryz.func11, Tryz.ntmps11
 go_wp2
 go_ret
 exact ⟨rfl, rfl⟩
theorem digit_high {j t g : Nat} (h : j < 2 ^ (t + 1)) (hg : t < g) : j / 2 ^ g % 2 = 0 := by
 have : (2 : Nat) ^ (t + 1) <= 2 ^ g := Nat.pow_le_pow_right (by omega) hg
 rw [Nat.div_eq_of_lt (by omega)]
theorem digit_top {j t : Nat} (h1 : 2 ^ t <= j) (h2 : j < 2 ^ (t + 1)) : j / 2 ^ t % 2 = 1 := by
 have h3 : 0 < 2 ^ t := Nat.pow_pos (by omega)
 have h4 : j / 2 ^ t < 2 := by rw [Nat.div_lt_iff_lt_mul h3]; rw [Nat.pow_succ] at h2; omega
 have h5 := div_pow_pos h1 (nlr t)
 omega
theorem positiveR_any (j : Nat) (w : World) (h0 : 0 < j) (h1 : j <= 4611686018427387904) :
  Calls Tryz.prog 24 #[.int .i64 j] w (RetF (posQ j) w) := by
 obtain ⟨t, hb, ht, hlo, hhi⟩ := top_bits h0 h1
 have CDG := fun k W hk => digit_any j k W h1 hk
 have CF := fun W => qfracR_any ((sb j).1 : Int) ((sb j).2 : Int) W (by have := sb_in h1 0; simp at this; unfold InInt; omega) (by have := sb_in h1 0; simp at this; unfold InInt; omega) (by have := sb_in h1 0; simp at this; omega)
 have hs := sb_in h1
 have hn1 : ∀ x : Nat, decide ((x : Int) < 0) = false := fun x => by rw [decide_eq_false_iff_not]; omega
 simp only [hn1, Int.natAbs_natCast] at CF
 have hq : lowest (false != false) (sb j).1 (sb j).2 = posQ j := rfl
 rw [hq] at CF
 obtain ⟨q, hq2⟩ : ∃ q, posQ j = q := ⟨_, rfl⟩
 rw [hq2] at CF ⊢
 obtain ⟨s, N, D⟩ := q
 unfold RetF at CF ⊢
 dsimp only at CF ⊢
 have HLO := Hd hlo; have HHI := Hd hhi; have HS := Hd hs
 replace CDG := Hd CDG; replace CF := Hd CF
 have hz : Blk (w.alloc (.cells #[.bool false, .slice none 0 0, .slice none 0 0] 32)) w.heap.size 32 #[.bool false, .slice none 0 0, .slice none 0 0] := Blk.new w _ _
 have hb0 : Below w.heap.size w (w.alloc (.cells #[.bool false, .slice none 0 0, .slice none 0 0] 32)) := brf.alloc (nlr _) _
 have hj2 : (j : Int) <= 4611686018427387904 := by omega
 clear hq2 hn1 hs hlo hhi hb hq
 go_enter Tryz.func24, Tryz.ntmps24
 go_wp2
 revert hz hb0
 generalize w.alloc (.cells #[.bool false, .slice none 0 0, .slice none 0 0] 32) = w0
 intro hz hb0
 go_loopg [5] 62 (fun g i wr => t <= g /\ g <= 62 /\ i = .int .i64 (g : Int) /\ wr = w0)
 case atStart => exact ⟨ht, nlr _, rfl, rfl⟩
 case round =>
  obtain ⟨hg, hg2, rfl, rfl⟩ := hrel
  have CD := CDG.out gk wr hg2
  by_cases hgt : gk = t
  ·
   obtain ⟨tt, rfl⟩ : ∃ tt, tt = gk := ⟨_, rfl⟩
   subst hgt
   rw [digit_top HLO.out HHI.out] at CD
   replace CD := Hd CD
   clear hg
   go_wp2_with fail
   refine CD.out.mono ?_
   rintro e w1 ⟨rfl, rfl⟩
   obtain ⟨w1, rfl⟩ : ∃ w1 : World, w1 = wr := ⟨_, rfl⟩
   go_wp2
   go_loopg [3, 4, 6] tt (fun g x y i wr => g <= tt /\ i = .int .i64 ((g : Int) - 1) /\ x = .int .i64 ((sb (j / 2 ^ g)).1 : Int) /\ y = .int .i64 ((sb (j / 2 ^ g)).2 : Int) /\ wr = w1)
   case atStart =>
    refine ⟨nlr _, ?_, ?_, ?_, rfl⟩
    · exact val_int (by omega)
    · rw [sb_top HLO.out HHI.out]; rfl
    · rw [sb_top HLO.out HHI.out]; rfl
   case round =>
    obtain ⟨hg, rfl, rfl, rfl, rfl⟩ := hrel
    by_cases h0' : gk = 0
    ·
     subst h0'
     have e0 : j / 2 ^ 0 = j := by rw [Nat.pow_zero, Nat.div_one]
     rw [e0]
     clear e0
     go_wp2_with fail
     refine (CF.out _).mono ?_
     rintro e w2 ⟨a3, c3, a4, c4, rfl, hV3, hV4, hb3⟩
     have hw3 := bth hb0 hb3
     have hz3 := hz.below' hb3
     have HV3 := Hd hV3
     have HV4 := Hd hV4
     have hs2 := hb0.size
     have hgl2 := hz.lt
     have z0 := hz3.cell 0; have z1 := hz3.cell 1; have z2 := hz3.cell 2; have f0 := hz3.frozen 0; have f1 := hz3.frozen 1; have f2 := hz3.frozen 2
     clear hV3 hV4 hz
     go_wp2
     have hF := blk3 (x := .bool s) (y := .slice a3 (limbs N).length c3) (z := .slice a4 (limbs D).length c4) hz3
     have e0 := hF.cell 0; have e1 := hF.cell 1; have e2 := hF.cell 2
     refine bodyPost_ret (v := .agg #[.bool s, .slice a3 (limbs N).length c3, .slice a4 (limbs D).length c4]) (by simp [results, Tryz.results24, go_sem, e0, e1, e2]) rfl ?_
     exact ⟨a3, c3, a4, c4, rfl, fun V hV => HV3.out V (back3 hV hs2 hgl2), fun V hV => HV4.out V (back3 hV hs2 hgl2), below3 hw3 (nlr _)⟩
    ·
     obtain ⟨k, rfl⟩ : ∃ k, gk = k + 1 := ⟨gk - 1, by omega⟩
     have e1 : (((k + 1 : Nat) : Int) - 1) = (k : Int) := by omega
     rw [e1]
     have hk62 : (k : Int) <= 62 := by omega
     have hst := sb_step (div_pow_pos HLO.out hg)
     obtain ⟨b1, b2, b3, b4⟩ := HS.out (k + 1)
     obtain ⟨c1, c2, _, _⟩ := HS.out k
     have HK := Hd (show k <= tt by omega)
     revert hst b1 b2 b3 b4 c1 c2
     generalize (sb (j / 2 ^ (k + 1))).1 = x
     generalize (sb (j / 2 ^ (k + 1))).2 = y
     intro hst b1 b2 b3 b4 c1 c2
     rw [hst] at c1 c2
     have HST := Hd hst
     clear e1 h0' hg hst
     have CD2 := CDG.out k wr (by have := HK.out; omega)
     by_cases ho : j / 2 ^ k % 2 = 1
     ·
      rw [ho] at CD2; replace CD2 := Hd CD2
      rw [if_pos ho] at c1 c2
      dsimp only at c1 c2
      have HO := Hd ho
      clear ho
      go_wp2_with fail
      refine CD2.out.mono ?_
      rintro e w2 ⟨rfl, rfl⟩
      go_wp2
      go_roundg k
      case measure => omega
      case rel => exact ⟨HK.out, by simp, by rw [HST.out, if_pos HO.out]; rfl, by rw [HST.out, if_pos HO.out], rfl⟩
     ·
      have ho2 : j / 2 ^ k % 2 = 0 := by omega
      rw [ho2] at CD2; replace CD2 := Hd CD2
      rw [if_neg ho] at c1 c2
      dsimp only at c1 c2
      have HO := Hd ho
      clear ho ho2
      go_wp2_with fail
      refine CD2.out.mono ?_
      rintro e w2 ⟨rfl, rfl⟩
      go_wp2
      go_roundg k
      case measure => omega
      case rel => exact ⟨HK.out, by simp, by rw [HST.out, if_neg HO.out], by rw [HST.out, if_neg HO.out]; exact val_int (by dsimp only; omega), rfl⟩
  ·
   rw [digit_high HHI.out (by omega)] at CD
   replace CD := Hd CD
   obtain ⟨k, rfl⟩ : ∃ k, gk = k + 1 := ⟨gk - 1, by omega⟩
   have HK := Hd (show t <= k /\ k <= 62 by omega)
   have hk3 : (k : Int) <= 62 := by omega
   clear hg hgt hg2
   go_wp2_with fail
   refine CD.out.mono ?_
   rintro e w1 ⟨rfl, rfl⟩
   go_wp2
   go_roundg k
   case measure => omega
   case rel => exact ⟨HK.out.1, HK.out.2, val_int (by omega), rfl⟩
def negQ (t : Bool × Nat × Nat) : Bool × Nat × Nat := lowest (!t.1) t.2.1 t.2.2
def valQ (k : Int) : Bool × Nat × Nat := if k <= 0 then lowest false 0 1 else if k.toNat % 2 = 1 then posQ (k.toNat / 2 + 1) else negQ (posQ (k.toNat / 2))
theorem posQ_small {j : Nat} (h1 : j <= 4611686018427387904) : (limbs (posQ j).2.1).length <= 4 /\ (limbs (posQ j).2.2).length <= 4 := by
 have h := sb_in h1 0
 simp at h
 have h2 := lowest_num false (sb j).1 (sb j).2
 have h3 := lowest_den false (sb j).1 (sb j).2
 have : (65536 : Nat) ^ 4 = 18446744073709551616 := by decide
 exact ⟨limbs_len_le (by unfold posQ; omega), limbs_len_le (by unfold posQ; omega)⟩
theorem value_any (k : Int) (w : World) (hi : InInt k) :
  Calls Tryz.prog 8 #[.int .i64 k] w (RetF (valQ k) w) := by
 have CNEG := fun t M E a1 a2 c1 c2 W (g1 : NatR W a1 c1 (limbs M)) (g2 : NatR W a2 c2 (limbs E)) (hM : (limbs M).length <= 4) (hE : (limbs E).length <= 4) (hp : 0 < E) => qneg_any t (limbs M) (limbs E) M E a1 a2 c1 c2 W g1 g2 (val_limbs _) (val_limbs _) (by omega) (by omega) (by omega)
 replace CNEG := Hd CNEG
 have C0 := fun W => qint_any 0 W (by unfold InInt; omega)
 have e0 : lowest (decide ((0 : Int) < 0)) (0 : Int).natAbs 1 = lowest false 0 1 := rfl
 rw [e0] at C0
 obtain ⟨q, hq⟩ : ∃ q, valQ k = q := ⟨_, rfl⟩
 rw [hq]
 have hz : Blk (w.alloc (.cells #[.bool false, .slice none 0 0, .slice none 0 0] 32)) w.heap.size 32 #[.bool false, .slice none 0 0, .slice none 0 0] := Blk.new w _ _
 have hb0 : Below w.heap.size w (w.alloc (.cells #[.bool false, .slice none 0 0, .slice none 0 0] 32)) := brf.alloc (nlr _) _
 obtain ⟨hi1, hi2⟩ := hi
 by_cases hk : k <= 0
 ·
  have hq0 : lowest false 0 1 = q := by rw [<- hq, valQ, if_pos hk]
  rw [hq0] at C0
  obtain ⟨s, N, D⟩ := q
  unfold RetF at C0 ⊢
  dsimp only at C0 ⊢
  replace C0 := Hd C0
  have hd := decide_eq_true hk
  clear hq hq0 hk e0
  go_enter Tryz.func8, Tryz.ntmps8
  go_wp2_with fail
  revert hz hb0
  generalize w.alloc (.cells #[.bool false, .slice none 0 0, .slice none 0 0] 32) = w0
  intro hz hb0
  refine (C0.out _).mono ?_
  rintro e w3 ⟨a3, c3, a4, c4, rfl, hV3, hV4, hb3⟩
  have hw2 := hb0
  have hz2 := hz
  have hw3 := bth hw2 hb3
  have hz3 := hz2.below' hb3
  have HV3 := Hd hV3
  have HV4 := Hd hV4
  have hs2 := hw2.size
  have hgl2 := hz2.lt
  have z0 := hz3.cell 0; have z1 := hz3.cell 1; have z2 := hz3.cell 2; have f0 := hz3.frozen 0; have f1 := hz3.frozen 1; have f2 := hz3.frozen 2
  clear hV3 hV4 hz2
  go_wp2
  have hF := blk3 (x := .bool s) (y := .slice a3 (limbs N).length c3) (z := .slice a4 (limbs D).length c4) hz3
  have e0 := hF.cell 0; have e1 := hF.cell 1; have e2 := hF.cell 2
  refine bodyPost_ret (v := .agg #[.bool s, .slice a3 (limbs N).length c3, .slice a4 (limbs D).length c4]) (by simp [results, Tryz.results8, go_sem, e0, e1, e2]) rfl ?_
  exact ⟨a3, c3, a4, c4, rfl, fun V hV => HV3.out V (back3 hV hs2 hgl2), fun V hV => HV4.out V (back3 hV hs2 hgl2), below3 hw3 (nlr _)⟩
 ·
  obtain ⟨n, rfl⟩ : ∃ n : Nat, k = (n : Int) := ⟨k.toNat, by omega⟩
  by_cases ho : n % 2 = 1
  ·
   have C1 := fun W => positive_any (n / 2 + 1) W (by omega) (by omega)
   have hq0 : posQ (n / 2 + 1) = q := by rw [<- hq, valQ, if_neg hk, Int.toNat_natCast, if_pos ho]
   rw [hq0] at C1
   obtain ⟨s, N, D⟩ := q
   unfold RetF at C1 ⊢
   dsimp only at C1 ⊢
   replace C1 := Hd C1
   have hd : decide (n = 0) = false := by rw [decide_eq_false_iff_not]; omega
   have hm : ((n : Int) % 2 == 1) = true := by rw [beq_iff_eq]; omega
   have hn2 : (n : Int) <= 9223372036854775807 := by omega
   clear hq hq0 hk e0 C0 ho
   go_enter Tryz.func8, Tryz.ntmps8
   go_wp2_with fail
   revert hz hb0
   generalize w.alloc (.cells #[.bool false, .slice none 0 0, .slice none 0 0] 32) = w0
   intro hz hb0
   refine (C1.out _).mono ?_
   rintro e w3 ⟨a3, c3, a4, c4, rfl, hV3, hV4, hb3⟩
   have hw2 := hb0
   have hz2 := hz
   have hw3 := bth hw2 hb3
   have hz3 := hz2.below' hb3
   have HV3 := Hd hV3
   have HV4 := Hd hV4
   have hs2 := hw2.size
   have hgl2 := hz2.lt
   have z0 := hz3.cell 0; have z1 := hz3.cell 1; have z2 := hz3.cell 2; have f0 := hz3.frozen 0; have f1 := hz3.frozen 1; have f2 := hz3.frozen 2
   clear hV3 hV4 hz2
   go_wp2
   have hF := blk3 (x := .bool s) (y := .slice a3 (limbs N).length c3) (z := .slice a4 (limbs D).length c4) hz3
   have e0 := hF.cell 0; have e1 := hF.cell 1; have e2 := hF.cell 2
   refine bodyPost_ret (v := .agg #[.bool s, .slice a3 (limbs N).length c3, .slice a4 (limbs D).length c4]) (by simp [results, Tryz.results8, go_sem, e0, e1, e2]) rfl ?_
   exact ⟨a3, c3, a4, c4, rfl, fun V hV => HV3.out V (back3 hV hs2 hgl2), fun V hV => HV4.out V (back3 hV hs2 hgl2), below3 hw3 (nlr _)⟩
  ·
   have C1 := fun W => positive_any (n / 2) W (by omega) (by omega)
   have hq0 : negQ (posQ (n / 2)) = q := by rw [<- hq, valQ, if_neg hk, Int.toNat_natCast, if_neg ho]
   have hsm := posQ_small (j := n / 2) (by omega)
   have hdp : 0 < (posQ (n / 2)).2.2 := lowest_den_pos _ _ _
   obtain ⟨u, hu⟩ : ∃ u, posQ (n / 2) = u := ⟨_, rfl⟩
   rw [hu] at C1 hq0 hsm hdp
   obtain ⟨t, M, E⟩ := u
   dsimp only at hsm hdp
   have C2 := fun a1 a2 c1 c2 W g1 g2 => (CNEG.out t M E a1 a2 c1 c2 W g1 g2 hsm.1 hsm.2 hdp)
   have hq1 : lowest (!t) M E = q := hq0
   rw [hq1] at C2
   obtain ⟨s, N, D⟩ := q
   unfold RetF at C1 C2 ⊢
   dsimp only at C1 C2 ⊢
   replace C1 := Hd C1
   replace C2 := Hd C2
   have hd : decide (n = 0) = false := by rw [decide_eq_false_iff_not]; omega
   have hm : ((n : Int) % 2 == 1) = false := by rw [beq_eq_false_iff_ne]; omega
   have hn2 : (n : Int) <= 9223372036854775807 := by omega
   clear hq hq0 hq1 hk e0 C0 ho hsm hdp hu
   go_enter Tryz.func8, Tryz.ntmps8
   go_wp2_with fail
   revert hz hb0
   generalize w.alloc (.cells #[.bool false, .slice none 0 0, .slice none 0 0] 32) = w0
   intro hz hb0
   refine (C1.out _).mono ?_
   rintro e w2 ⟨a1, c1, a2, c2, rfl, hV1, hV2, hb2⟩
   have hw2 := bth hb0 hb2
   have hz2 := hz.below' hb2
   have CF := C2.out a1 a2 c1 c2 w2 (hV1 w2 (New.refl _ _)) (hV2 w2 (New.refl _ _))
   replace CF := Hd CF
   clear hV1 hV2 hz
   go_wp2_with fail
   refine CF.out.mono ?_
   rintro e w3 ⟨a3, c3, a4, c4, rfl, hV3, hV4, hb3⟩
   have hw3 := bth hw2 hb3
   have hz3 := hz2.below' hb3
   have HV3 := Hd hV3
   have HV4 := Hd hV4
   have hs2 := hw2.size
   have hgl2 := hz2.lt
   have z0 := hz3.cell 0; have z1 := hz3.cell 1; have z2 := hz3.cell 2; have f0 := hz3.frozen 0; have f1 := hz3.frozen 1; have f2 := hz3.frozen 2
   clear hV3 hV4 hz2
   go_wp2
   have hF := blk3 (x := .bool s) (y := .slice a3 (limbs N).length c3) (z := .slice a4 (limbs D).length c4) hz3
   have e0 := hF.cell 0; have e1 := hF.cell 1; have e2 := hF.cell 2
   refine bodyPost_ret (v := .agg #[.bool s, .slice a3 (limbs N).length c3, .slice a4 (limbs D).length c4]) (by simp [results, Tryz.results8, go_sem, e0, e1, e2]) rfl ?_
   exact ⟨a3, c3, a4, c4, rfl, fun V hV => HV3.out V (back3 hV hs2 hgl2), fun V hV => HV4.out V (back3 hV hs2 hgl2), below3 hw3 (nlr _)⟩
theorem valueR_any (k : Int) (w : World) (hi : InInt k) :
  Calls Tryz.prog 12 #[.int .i64 k] w (RetF (valQ k) w) := by
 have CNEG := fun t M E a1 a2 c1 c2 W (g1 : NatR W a1 c1 (limbs M)) (g2 : NatR W a2 c2 (limbs E)) (hM : (limbs M).length <= 4) (hE : (limbs E).length <= 4) (hp : 0 < E) => qnegR_any t (limbs M) (limbs E) M E a1 a2 c1 c2 W g1 g2 (val_limbs _) (val_limbs _) (by omega) (by omega)
 replace CNEG := Hd CNEG
 have C0 := fun W => qintR_any 0 W (by unfold InInt; omega)
 have e0 : lowest (decide ((0 : Int) < 0)) (0 : Int).natAbs 1 = lowest false 0 1 := rfl
 rw [e0] at C0
 obtain ⟨q, hq⟩ : ∃ q, valQ k = q := ⟨_, rfl⟩
 rw [hq]
 have hz : Blk (w.alloc (.cells #[.bool false, .slice none 0 0, .slice none 0 0] 32)) w.heap.size 32 #[.bool false, .slice none 0 0, .slice none 0 0] := Blk.new w _ _
 have hb0 : Below w.heap.size w (w.alloc (.cells #[.bool false, .slice none 0 0, .slice none 0 0] 32)) := brf.alloc (nlr _) _
 obtain ⟨hi1, hi2⟩ := hi
 by_cases hk : k <= 0
 ·
  have hq0 : lowest false 0 1 = q := by rw [<- hq, valQ, if_pos hk]
  rw [hq0] at C0
  obtain ⟨s, N, D⟩ := q
  unfold RetF at C0 ⊢
  dsimp only at C0 ⊢
  replace C0 := Hd C0
  have hd := decide_eq_true hk
  clear hq hq0 hk e0
  go_enter Tryz.func12, Tryz.ntmps12
  go_wp2_with fail
  revert hz hb0
  generalize w.alloc (.cells #[.bool false, .slice none 0 0, .slice none 0 0] 32) = w0
  intro hz hb0
  refine (C0.out _).mono ?_
  rintro e w3 ⟨a3, c3, a4, c4, rfl, hV3, hV4, hb3⟩
  have hw2 := hb0
  have hz2 := hz
  have hw3 := bth hw2 hb3
  have hz3 := hz2.below' hb3
  have HV3 := Hd hV3
  have HV4 := Hd hV4
  have hs2 := hw2.size
  have hgl2 := hz2.lt
  have z0 := hz3.cell 0; have z1 := hz3.cell 1; have z2 := hz3.cell 2; have f0 := hz3.frozen 0; have f1 := hz3.frozen 1; have f2 := hz3.frozen 2
  clear hV3 hV4 hz2
  go_wp2
  have hF := blk3 (x := .bool s) (y := .slice a3 (limbs N).length c3) (z := .slice a4 (limbs D).length c4) hz3
  have e0 := hF.cell 0; have e1 := hF.cell 1; have e2 := hF.cell 2
  refine bodyPost_ret (v := .agg #[.bool s, .slice a3 (limbs N).length c3, .slice a4 (limbs D).length c4]) (by simp [results, Tryz.results12, go_sem, e0, e1, e2]) rfl ?_
  exact ⟨a3, c3, a4, c4, rfl, fun V hV => HV3.out V (back3 hV hs2 hgl2), fun V hV => HV4.out V (back3 hV hs2 hgl2), below3 hw3 (nlr _)⟩
 ·
  obtain ⟨n, rfl⟩ : ∃ n : Nat, k = (n : Int) := ⟨k.toNat, by omega⟩
  by_cases ho : n % 2 = 1
  ·
   have C1 := fun W => positiveR_any (n / 2 + 1) W (by omega) (by omega)
   have hq0 : posQ (n / 2 + 1) = q := by rw [<- hq, valQ, if_neg hk, Int.toNat_natCast, if_pos ho]
   rw [hq0] at C1
   obtain ⟨s, N, D⟩ := q
   unfold RetF at C1 ⊢
   dsimp only at C1 ⊢
   replace C1 := Hd C1
   have hd : decide (n = 0) = false := by rw [decide_eq_false_iff_not]; omega
   have hm : ((n : Int) % 2 == 1) = true := by rw [beq_iff_eq]; omega
   have hn2 : (n : Int) <= 9223372036854775807 := by omega
   clear hq hq0 hk e0 C0 ho
   go_enter Tryz.func12, Tryz.ntmps12
   go_wp2_with fail
   revert hz hb0
   generalize w.alloc (.cells #[.bool false, .slice none 0 0, .slice none 0 0] 32) = w0
   intro hz hb0
   refine (C1.out _).mono ?_
   rintro e w3 ⟨a3, c3, a4, c4, rfl, hV3, hV4, hb3⟩
   have hw2 := hb0
   have hz2 := hz
   have hw3 := bth hw2 hb3
   have hz3 := hz2.below' hb3
   have HV3 := Hd hV3
   have HV4 := Hd hV4
   have hs2 := hw2.size
   have hgl2 := hz2.lt
   have z0 := hz3.cell 0; have z1 := hz3.cell 1; have z2 := hz3.cell 2; have f0 := hz3.frozen 0; have f1 := hz3.frozen 1; have f2 := hz3.frozen 2
   clear hV3 hV4 hz2
   go_wp2
   have hF := blk3 (x := .bool s) (y := .slice a3 (limbs N).length c3) (z := .slice a4 (limbs D).length c4) hz3
   have e0 := hF.cell 0; have e1 := hF.cell 1; have e2 := hF.cell 2
   refine bodyPost_ret (v := .agg #[.bool s, .slice a3 (limbs N).length c3, .slice a4 (limbs D).length c4]) (by simp [results, Tryz.results12, go_sem, e0, e1, e2]) rfl ?_
   exact ⟨a3, c3, a4, c4, rfl, fun V hV => HV3.out V (back3 hV hs2 hgl2), fun V hV => HV4.out V (back3 hV hs2 hgl2), below3 hw3 (nlr _)⟩
  ·
   have C1 := fun W => positiveR_any (n / 2) W (by omega) (by omega)
   have hq0 : negQ (posQ (n / 2)) = q := by rw [<- hq, valQ, if_neg hk, Int.toNat_natCast, if_neg ho]
   have hsm := posQ_small (j := n / 2) (by omega)
   have hdp : 0 < (posQ (n / 2)).2.2 := lowest_den_pos _ _ _
   obtain ⟨u, hu⟩ : ∃ u, posQ (n / 2) = u := ⟨_, rfl⟩
   rw [hu] at C1 hq0 hsm hdp
   obtain ⟨t, M, E⟩ := u
   dsimp only at hsm hdp
   have C2 := fun a1 a2 c1 c2 W g1 g2 => (CNEG.out t M E a1 a2 c1 c2 W g1 g2 hsm.1 hsm.2 hdp)
   have hq1 : lowest (!t) M E = q := hq0
   rw [hq1] at C2
   obtain ⟨s, N, D⟩ := q
   unfold RetF at C1 C2 ⊢
   dsimp only at C1 C2 ⊢
   replace C1 := Hd C1
   replace C2 := Hd C2
   have hd : decide (n = 0) = false := by rw [decide_eq_false_iff_not]; omega
   have hm : ((n : Int) % 2 == 1) = false := by rw [beq_eq_false_iff_ne]; omega
   have hn2 : (n : Int) <= 9223372036854775807 := by omega
   clear hq hq0 hq1 hk e0 C0 ho hsm hdp hu
   go_enter Tryz.func12, Tryz.ntmps12
   go_wp2_with fail
   revert hz hb0
   generalize w.alloc (.cells #[.bool false, .slice none 0 0, .slice none 0 0] 32) = w0
   intro hz hb0
   refine (C1.out _).mono ?_
   rintro e w2 ⟨a1, c1, a2, c2, rfl, hV1, hV2, hb2⟩
   have hw2 := bth hb0 hb2
   have hz2 := hz.below' hb2
   have CF := C2.out a1 a2 c1 c2 w2 (hV1 w2 (New.refl _ _)) (hV2 w2 (New.refl _ _))
   replace CF := Hd CF
   clear hV1 hV2 hz
   go_wp2_with fail
   refine CF.out.mono ?_
   rintro e w3 ⟨a3, c3, a4, c4, rfl, hV3, hV4, hb3⟩
   have hw3 := bth hw2 hb3
   have hz3 := hz2.below' hb3
   have HV3 := Hd hV3
   have HV4 := Hd hV4
   have hs2 := hw2.size
   have hgl2 := hz2.lt
   have z0 := hz3.cell 0; have z1 := hz3.cell 1; have z2 := hz3.cell 2; have f0 := hz3.frozen 0; have f1 := hz3.frozen 1; have f2 := hz3.frozen 2
   clear hV3 hV4 hz2
   go_wp2
   have hF := blk3 (x := .bool s) (y := .slice a3 (limbs N).length c3) (z := .slice a4 (limbs D).length c4) hz3
   have e0 := hF.cell 0; have e1 := hF.cell 1; have e2 := hF.cell 2
   refine bodyPost_ret (v := .agg #[.bool s, .slice a3 (limbs N).length c3, .slice a4 (limbs D).length c4]) (by simp [results, Tryz.results12, go_sem, e0, e1, e2]) rfl ?_
   exact ⟨a3, c3, a4, c4, rfl, fun V hV => HV3.out V (back3 hV hs2 hgl2), fun V hV => HV4.out V (back3 hV hs2 hgl2), below3 hw3 (nlr _)⟩
theorem wrap64_nat (n : Nat) (h : n < 9223372036854775808) : wrap64 (n : Int) = n := IntWalk.wrap64_in _ (by omega)
theorem every_bit {m s i n : Nat} (hm : m < 9223372036854775808) (hs : s < 2 ^ n) (hn : n < 63) : bits .or .i64 (s : Int) (wrap64 (bits .and .i64 ((m : Int) / 2 ^ i) 1 * 2 ^ min n 64)) = ((s + m / 2 ^ i % 2 * 2 ^ n : Nat) : Int) := by
 have e1 : (m : Int) / 2 ^ i = ((m / 2 ^ i : Nat) : Int) := by push_cast; rfl
 have h1 : m / 2 ^ i <= m := Nat.div_le_self _ _
 have hb : m / 2 ^ i % 2 < 2 := Nat.mod_lt _ (by omega)
 rw [e1, i64_and1 _ (by omega), Nat.min_eq_left (by omega)]
 generalize m / 2 ^ i % 2 = b at hb
 have e2 : (b : Int) * 2 ^ n = ((b * 2 ^ n : Nat) : Int) := by push_cast; rfl
 rw [e2, wrap64_nat _ (shift_i64_bit b n hb hn)]
 exact i64_or_bit s b n hs hb hn
theorem every_any (m first step : Nat) (w : World) (hm : m < 9223372036854775808) (hs : 0 < step) (hs2 : step <= 1000) (hf : first <= 1000) :
  Calls Tryz.prog 9 #[.int .i64 m, .int .i64 first, .int .i64 step] w fun e w' => e = .returned (.int .i64 (dealN m step 63 first)) /\ Below w.heap.size w w' := by
 obtain ⟨res, hres⟩ : ∃ res, dealN m step 63 first = res := ⟨_, rfl⟩
 rw [hres]
 replace hres := Hd hres
 have HM := Hd hm
 clear hm
 go_enter Tryz.func9, Tryz.ntmps9
 go_wp2
 go_loopg [7, 8, 9] 63 (fun g o q p wr => ∃ (n i s : Nat), Hid (63 <= i + g /\ i = first + n * step /\ s < 2 ^ n /\ s + 2 ^ n * dealN m step 63 i = res) /\ o = .int .i64 s /\ q = .int .i64 n /\ p = .int .i64 i /\ Below w.heap.size w wr)
 case atStart => exact ⟨0, first, 0, ⟨by omega, by omega, by decide, by rw [hres.out]; omega⟩, rfl, rfl, rfl, Below.refl _ _⟩
 case round =>
  obtain ⟨n, i, s, hh, rfl, rfl, rfl, hwr⟩ := hrel
  by_cases hi : i < 63
  ·
   have hi2 : ((i : Int) < 63) := by omega
   go_wp2
   obtain ⟨h1, h2, h3, h4⟩ := hh.out
   have hni : n <= n * step := Nat.le_mul_of_pos_right _ hs
   have e1 := every_bit (i := i) HM.out h3 (show n < 63 by omega)
   have e2 : wrap64 ((n : Int) + 1) = ((n + 1 : Nat) : Int) := wrap64_nat (n + 1) (by omega)
   have e3 := dealN_next m step hs hi
   have hb : m / 2 ^ i % 2 < 2 := Nat.mod_lt _ (by omega)
   go_roundg (gk - 1)
   case rel =>
    refine ⟨n + 1, i + step, s + m / 2 ^ i % 2 * 2 ^ n, ⟨by omega, by rw [Nat.add_mul, Nat.one_mul]; omega, ?_, ?_⟩, congrArg _ e1, congrArg _ e2, congrArg _ (by simp), hwr⟩
    ·
     rw [Nat.pow_succ]
     have : m / 2 ^ i % 2 * 2 ^ n <= 1 * 2 ^ n := Nat.mul_le_mul (by omega) (nlr _)
     omega
    ·
     rw [e3] at h4
     rw [<- h4, Nat.pow_succ]
     generalize dealN m step 63 (i + step) = d
     generalize m / 2 ^ i % 2 = b
     generalize 2 ^ n = P
     rw [Nat.mul_add, Nat.mul_comm b P, Nat.add_assoc, Nat.mul_assoc]
   case measure => omega
  ·
   have hi2 : ¬ ((i : Int) < 63) := by omega
   go_wp2
   obtain ⟨h1, h2, h3, h4⟩ := hh.out
   rw [dealN_far _ _ _ _ (by omega)] at h4
   go_ret
   exact ⟨by rw [<- h4]; simp, hwr⟩
theorem and_bit {m i : Nat} (hm : m < 9223372036854775808) : bits .and .i64 ((m : Int) / 2 ^ i) 1 = ((m / 2 ^ i % 2 : Nat) : Int) := by
 have e1 : (m : Int) / 2 ^ i = ((m / 2 ^ i : Nat) : Int) := by push_cast; rfl
 have h1 : m / 2 ^ i <= m := Nat.div_le_self _ _
 rw [e1, i64_and1 _ (by omega)]
theorem digit27_any (k i : Nat) (w : World) (hk : k < 9223372036854775808) (hi : i <= 62) :
  Calls Tryz.prog 11 #[.int .i64 k, .int .i64 i] w fun e w' => e = .returned (.int .i64 ((k / 2 ^ i % 2 : Nat) : Int)) /\ Below w.heap.size w w' := by
 have HK := Hd (and_bit (i := i) hk)
 clear hk
 have h1 : ¬ ((62 : Int) < (i : Int)) := by omega
 have h2 : min i 64 = i := by omega
 revert HK
 generalize k / 2 ^ i % 2 = r
 intro HK
 go_enter Tryz.func11, Tryz.ntmps11
 go_wp2
 go_ret
 exact ⟨congrArg (fun z => Ending.returned (.int .i64 z)) HK.out, Below.refl _ _⟩
theorem shl_bit {b n : Nat} (hb : b < 2) (hn : n < 63) : wrap64 ((b : Int) * 2 ^ min n 64) = ((b * 2 ^ n : Nat) : Int) := by
 rw [Nat.min_eq_left (by omega)]
 have e2 : (b : Int) * 2 ^ n = ((b * 2 ^ n : Nat) : Int) := by push_cast; rfl
 rw [e2, wrap64_nat _ (shift_i64_bit b n hb hn)]
theorem dealt27_any (m first step : Nat) (w : World) (hm : m < 9223372036854775808) (hs : 0 < step) (hs2 : step <= 1000) (hf : first <= 1000) :
  Calls Tryz.prog 13 #[.int .i64 m, .int .i64 first, .int .i64 step] w fun e w' => e = .returned (.int .i64 (dealN m step 63 first)) /\ Below w.heap.size w w' := by
 obtain ⟨res, hres⟩ : ∃ res, dealN m step 63 first = res := ⟨_, rfl⟩
 rw [hres]
 replace hres := Hd hres
 have HM := Hd hm
 clear hm
 go_enter Tryz.func13, Tryz.ntmps13
 go_wp2
 go_loopg [7, 8] 63 (fun g o q wr => ∃ (n s : Nat), Hid (63 <= first + n * step + g /\ s < 2 ^ n /\ n <= 63 /\ s + 2 ^ n * dealN m step 63 (first + n * step) = res) /\ o = .int .i64 s /\ q = .int .i64 n /\ Below w.heap.size w wr)
 case atStart => exact ⟨0, 0, ⟨by omega, by decide, by omega, by rw [Nat.zero_mul, Nat.add_zero, hres.out]; omega⟩, rfl, rfl, Below.refl _ _⟩
 case round =>
  obtain ⟨n, s, hh, rfl, rfl, hwr⟩ := hrel
  have hn63 := hh.out.2.2.1
  have hns : n * step <= 63 * 1000 := Nat.mul_le_mul hn63 hs2
  by_cases hi : first + n * step < 63
  ·
   have hi2 : ((first : Int) + (n : Int) * (step : Int) <= 62) := by rw [<- Int.natCast_mul, <- Int.natCast_add]; omega
   have hni : n <= n * step := Nat.le_mul_of_pos_right _ hs
   have hn62 : n < 63 := by omega
   have D := digit27_any m (first + n * step) wr HM.out (by omega)
   rw [show ((first + n * step : Nat) : Int) = (first : Int) + (n : Int) * (step : Int) by push_cast; rfl] at D
   have hb : m / 2 ^ (first + n * step) % 2 < 2 := Nat.mod_lt _ (by omega)
   have hh2 := hh.out
   have e3 := dealN_next m step hs hi
   rw [e3] at hh2
   rw [show first + n * step + step = first + (n + 1) * step by rw [Nat.add_mul, Nat.one_mul]; omega] at hh2
   revert D hb hh2
   generalize m / 2 ^ (first + n * step) % 2 = b
   intro D hb hh2
   have hsh := shl_bit hb hn62
   rw [Nat.min_eq_left (show n <= 64 by omega)] at hsh
   have hsb := shift_i64_bit b n hb hn62
   have hbP : b * 2 ^ n <= 1 * 2 ^ n := Nat.mul_le_mul (by omega) (nlr _)
   have h2P : (2 : Nat) ^ n * 2 <= 2 ^ 63 := by rw [<- Nat.pow_succ]; exact Nat.pow_le_pow_right (by omega) (by omega)
   have e4 : wrap64 ((s : Int) + ((b * 2 ^ n : Nat) : Int)) = ((s + b * 2 ^ n : Nat) : Int) := by rw [<- Int.natCast_add]; exact wrap64_nat _ (by omega)
   replace D := Hd D; replace hh2 := Hd hh2; replace hsh := Hd hsh; replace e4 := Hd e4; replace hbP := Hd hbP; replace h2P := Hd h2P; replace hsb := Hd hsb
   clear hi e3 hh hb
   go_wp2_with fail
   refine D.out.mono ?_
   rintro e w1 ⟨rfl, hb1⟩
   go_wp2
   have hh3 := hh2.out
   have P1 := hbP.out; have P2 := h2P.out
   go_roundg (gk - 1)
   case rel =>
    refine ⟨n + 1, s + b * 2 ^ n, ⟨by rw [Nat.add_mul, Nat.one_mul]; omega, ?_, by omega, ?_⟩, congrArg _ (by rw [hsh.out, e4.out]), congrArg _ (by simp), bth hwr hb1⟩
    ·
     rw [Nat.pow_succ]
     omega
    ·
     rw [<- hh3.2.2.2, Nat.pow_succ]
     generalize dealN m step 63 (first + (n + 1) * step) = d
     generalize 2 ^ n = P
     rw [Nat.mul_add, Nat.mul_comm b P, Nat.add_assoc, Nat.mul_assoc]
   case measure => have := hh3.1; omega
  ·
   have hi2 : ¬ ((first : Int) + (n : Int) * (step : Int) <= 62) := by rw [<- Int.natCast_mul, <- Int.natCast_add]; omega
   go_wp2
   obtain ⟨h1, h2, h3, h4⟩ := hh.out
   rw [dealN_far _ _ _ _ (by omega)] at h4
   go_ret
   exact ⟨by rw [<- h4]; simp, hwr⟩
structure Rt where
 neg : Bool
 num : List Int
 den : List Int
def Rt.val (r : Rt) (na : Option Addr) (nc : Nat) (da : Option Addr) (dc : Nat) : Value := .agg #[.bool r.neg, .slice na r.num.length nc, .slice da r.den.length dc]
structure Step where
 kind : Int
 point : ByteArray
 args : List Int
 ratio : Rt
structure Fct where
 kind : Int
 args : List Int
 ratio : Rt
structure Fig where
 steps : List Step
 goals : List Fct
def Fct.val (f : Fct) (aa : Option Addr) (ac : Nat) (na : Option Addr) (nc : Nat) (da : Option Addr) (dc : Nat) : Value := .agg #[.int .i64 f.kind, .slice aa f.args.length ac, .bool f.ratio.neg, .slice na f.ratio.num.length nc, .slice da f.ratio.den.length dc]
def Step.val (s : Step) (aa : Option Addr) (ac : Nat) (na : Option Addr) (nc : Nat) (da : Option Addr) (dc : Nat) : Value := .agg #[.int .i64 s.kind, .string s.point, .slice aa s.args.length ac, .bool s.ratio.neg, .slice na s.ratio.num.length nc, .slice da s.ratio.den.length dc]
structure RA where
 aa : Option Addr
 ac : Nat
 na : Option Addr
 nc : Nat
 da : Option Addr
 dc : Nat
def PartsR (w : World) (p : RA) (args : List Int) (r : Rt) : Prop := IntsR w p.aa p.ac args /\ NatR w p.na p.nc r.num /\ NatR w p.da p.dc r.den
theorem PartsR.ext {w w' : World} {p : RA} {args : List Int} {r : Rt} (h : PartsR w p args r) (e : Ext w w') : PartsR w' p args r := ⟨h.1.ext e, h.2.1.ext e, h.2.2.ext e⟩
def StepC (w : World) (b o : Nat) (p : RA) (s : Step) : Prop :=
 w.cell? ⟨b, o, none⟩ = some (.int .i64 s.kind) /\ w.cell? ⟨b, o + 1, none⟩ = some (.string s.point) /\ w.cell? ⟨b, o + 2, none⟩ = some (.slice p.aa s.args.length p.ac) /\
 w.cell? ⟨b, o + 3, none⟩ = some (.bool s.ratio.neg) /\ w.cell? ⟨b, o + 4, none⟩ = some (.slice p.na s.ratio.num.length p.nc) /\ w.cell? ⟨b, o + 5, none⟩ = some (.slice p.da s.ratio.den.length p.dc)
def FctC (w : World) (b o : Nat) (p : RA) (s : Fct) : Prop :=
 w.cell? ⟨b, o, none⟩ = some (.int .i64 s.kind) /\ w.cell? ⟨b, o + 1, none⟩ = some (.slice p.aa s.args.length p.ac) /\
 w.cell? ⟨b, o + 2, none⟩ = some (.bool s.ratio.neg) /\ w.cell? ⟨b, o + 3, none⟩ = some (.slice p.na s.ratio.num.length p.nc) /\ w.cell? ⟨b, o + 4, none⟩ = some (.slice p.da s.ratio.den.length p.dc)
theorem StepC.ext {w w' : World} {b o : Nat} {p : RA} {s : Step} (h : StepC w b o p s) (e : Ext w w') : StepC w' b o p s :=
 ⟨e _ _ h.1, e _ _ h.2.1, e _ _ h.2.2.1, e _ _ h.2.2.2.1, e _ _ h.2.2.2.2.1, e _ _ h.2.2.2.2.2⟩
theorem FctC.ext {w w' : World} {b o : Nat} {p : RA} {s : Fct} (h : FctC w b o p s) (e : Ext w w') : FctC w' b o p s :=
 ⟨e _ _ h.1, e _ _ h.2.1, e _ _ h.2.2.1, e _ _ h.2.2.2.1, e _ _ h.2.2.2.2⟩
def StepE (w : World) (b o : Nat) (s : Step) : Prop := ∃ p, StepC w b o p s /\ PartsR w p s.args s.ratio /\ InInt s.kind /\ s.point.size <= 9223372036854775807
def FctE (w : World) (b o : Nat) (s : Fct) : Prop := ∃ p, FctC w b o p s /\ PartsR w p s.args s.ratio /\ InInt s.kind
def StepsR (w : World) (a : Option Addr) (c : Nat) (l : List Step) : Prop := SlR 6 StepE w a c l
def FctsR (w : World) (a : Option Addr) (c : Nat) (l : List Fct) : Prop := SlR 5 FctE w a c l
theorem StepsR.ext {w w' : World} {a : Option Addr} {c : Nat} {l : List Step} (h : StepsR w a c l) (e : Ext w w') : StepsR w' a c l :=
 SlR.mono h fun _ _ _ _ ⟨p, h1, h2, h3⟩ => ⟨p, h1.ext e, h2.ext e, h3⟩
theorem FctsR.ext {w w' : World} {a : Option Addr} {c : Nat} {l : List Fct} (h : FctsR w a c l) (e : Ext w w') : FctsR w' a c l :=
 SlR.mono h fun _ _ _ _ ⟨p, h1, h2, h3⟩ => ⟨p, h1.ext e, h2.ext e, h3⟩
def Fig.val (f : Fig) (sa : Option Addr) (sc : Nat) (ga : Option Addr) (gc : Nat) : Value := .agg #[.slice sa f.steps.length sc, .slice ga f.goals.length gc]
def FigR (w : World) (sa : Option Addr) (sc : Nat) (ga : Option Addr) (gc : Nat) (f : Fig) : Prop := StepsR w sa sc f.steps /\ FctsR w ga gc f.goals
def Rt.few (r : Rt) : Prop := r.num.length <= 2000000 /\ r.den.length <= 2000000
def Fig.few (f : Fig) : Prop := (∀ s ∈ f.steps, s.ratio.few) /\ (∀ g ∈ f.goals, g.ratio.few)
def rightI (neg : Bool) (num : List Int) : Bool := canonB num && !(neg && decide (num.length = 0))
def Rt.right (r : Rt) : Bool := rightI r.neg r.num && canonB r.den && decide (Nat.gcd (Go.Proofs.YtdnblkklgdnapaaGreat.val r.num) (Go.Proofs.YtdnblkklgdnapaaGreat.val r.den) = 1) && decide (0 < r.den.length)
theorem right02_any (neg : Bool) (num : List Int) (a : Option Addr) (c : Nat) (w : World) (h : NatR w a c num) :
  Calls Tryz.prog 26 #[.agg #[.bool neg, .slice a num.length c]] w fun r w' => r = .returned (.bool (rightI neg num)) /\ Below w.heap.size w w' := by
 have CV := fun W (hW : Below w.heap.size w W) => valid01_any num a c W (h.ext (xbw hW))
 obtain ⟨b1, hb1⟩ : ∃ b, canonB num = b := ⟨_, rfl⟩
 rw [hb1] at CV
 replace CV := Hd CV
 unfold rightI
 rw [hb1]
 clear hb1 h
 by_cases h0 : num.length = 0
 ·
  have e0 : ((num.length : Int) == 0) = true := by simp [h0]
  have H0 := Hd h0
  clear h0
  cases b1 <;> cases neg
  all_goals
   go_enter Tryz.func26, Tryz.ntmps26
   go_wp2_with (go_at_call 27; refine (CV.out _ (brf.alloc (nlr _) _)).mono ?_; rintro e w' ⟨rfl, rfl⟩)
   go_ret
   refine ⟨ret_bool ?_, brf.alloc (nlr _) _⟩
   simp [H0.out]
 ·
  have e0 : ((num.length : Int) == 0) = false := by simp; exact fun e => h0 (by simp [e])
  have H0 := Hd h0
  clear h0
  cases b1 <;> cases neg
  all_goals
   go_enter Tryz.func26, Tryz.ntmps26
   go_wp2_with (go_at_call 27; refine (CV.out _ (brf.alloc (nlr _) _)).mono ?_; rintro e w' ⟨rfl, rfl⟩)
   go_ret
   refine ⟨ret_bool ?_, brf.alloc (nlr _) _⟩
   simp [H0.out]
theorem right03_any (r : Rt) (na : Option Addr) (nc : Nat) (da : Option Addr) (dc : Nat) (w : World) (h : NatR w na nc r.num) (h' : NatR w da dc r.den) (hl : r.num.length <= 2000000) (hm : r.den.length <= 2000000) :
  Calls Tryz.prog 14 #[r.val na nc da dc] w fun e w' => e = .returned (.bool r.right) /\ Below w.heap.size w w' := by
 obtain ⟨neg, num, den⟩ := r
 have CR := fun W (hW : Below w.heap.size w W) => right02_any neg num na nc W (h.ext (xbw hW))
 have CV := fun W (hW : Below w.heap.size w W) => valid01_any den da dc W (h'.ext (xbw hW))
 have CG := fun W (hW : Below w.heap.size w W) => gcd01_any num den (val num) (val den) na da nc dc W (h.ext (xbw hW)) (h'.ext (xbw hW)) rfl rfl hl hm
 have CS := fun (xs ys : List Int) (a a' : Option Addr) (c c' : Nat) W => same01_any xs ys a a' c c' W
 have CO := fun W => of01_any 1 W (by omega)
 obtain ⟨b1, hb1⟩ : ∃ b, rightI neg num = b := ⟨_, rfl⟩
 obtain ⟨b2, hb2⟩ : ∃ b, canonB den = b := ⟨_, rfl⟩
 obtain ⟨b3, hb3⟩ : ∃ b, decide (Nat.gcd (val num) (val den) = 1) = b := ⟨_, rfl⟩
 obtain ⟨b4, hb4⟩ : ∃ b, decide (0 < den.length) = b := ⟨_, rfl⟩
 have hb4' : decide ((0 : Int) < (den.length : Int)) = b4 := by rw [<- hb4]; simp
 have hs : decide (limbs (Nat.gcd (val num) (val den)) = limbs 1) = b3 := by rw [<- hb3]; simp [limbs_inj]
 rw [hb1] at CR
 rw [hb2] at CV
 have hres : Rt.right ⟨neg, num, den⟩ = (b1 && b2 && b3 && b4) := by simp only [Rt.right, hb1, hb2, hb3, hb4]
 rw [hres]
 unfold Rt.val
 dsimp only
 dsimp only at hl hm
 generalize Nat.gcd (val num) (val den) = g at CG hs
 replace CR := Hd CR; replace CV := Hd CV; replace CG := Hd CG; replace CS := Hd CS; replace CO := Hd CO
 have HS := Hd hs
 have H4 := Hd hb4
 clear hb1 hb2 hb3 hs hres h h' hb4
 cases b1
 ·
  clear hb4' H4 HS
  go_enter Tryz.func14, Tryz.ntmps14
  go_wp2_with fail
  refine (CR.out _ (brf.alloc (nlr _) _)).mono ?_
  rintro e w1 ⟨rfl, hb⟩
  have hw := ((Below.refl _ w).alloc (nlr _) _).trans (hb.mono (by simp))
  go_wp2
  go_ret
  exact ⟨rfl, hw⟩
 ·
  cases b2
  ·
   clear hb4' H4 HS
   go_enter Tryz.func14, Tryz.ntmps14
   have hz : Blk (w.alloc (.cells #[.bool neg, .slice na num.length nc, .slice da den.length dc] 32)) w.heap.size 32 #[.bool neg, .slice na num.length nc, .slice da den.length dc] := Blk.new w _ _
   have hw0 : Below w.heap.size w (w.alloc (.cells #[.bool neg, .slice na num.length nc, .slice da den.length dc] 32)) := brf.alloc (nlr _) _
   go_wp2_with fail
   revert hz hw0
   generalize w.alloc (.cells #[.bool neg, .slice na num.length nc, .slice da den.length dc] 32) = w0
   intro hz hw0
   refine (CR.out _ hw0).mono ?_
   rintro e w1 ⟨rfl, hb⟩
   have hw1 := hw0.trans (hb.mono hw0.size)
   replace hz := hz.below' hb
   have z0 := hz.cell 0; have z1 := hz.cell 1; have z2 := hz.cell 2
   clear hb hz hw0
   go_wp2_with fail
   refine (CV.out _ hw1).mono ?_
   rintro e w2 ⟨rfl, rfl⟩
   go_wp2
   go_ret
   exact ⟨rfl, hw1⟩
  ·
   have hz : Blk (w.alloc (.cells #[.bool neg, .slice na num.length nc, .slice da den.length dc] 32)) w.heap.size 32 #[.bool neg, .slice na num.length nc, .slice da den.length dc] := Blk.new w _ _
   have hw0 : Below w.heap.size w (w.alloc (.cells #[.bool neg, .slice na num.length nc, .slice da den.length dc] 32)) := brf.alloc (nlr _) _
   cases b3 <;> cases b4
   all_goals
    go_enter Tryz.func14, Tryz.ntmps14
    go_wp2_with fail
    revert hz hw0
    generalize w.alloc (.cells #[.bool neg, .slice na num.length nc, .slice da den.length dc] 32) = w0
    intro hz hw0
    refine (CR.out _ hw0).mono ?_
    rintro e w1 ⟨rfl, hb⟩
    have hw1 := hw0.trans (hb.mono hw0.size)
    replace hz := hz.below' hb
    have z0 := hz.cell 0; have z1 := hz.cell 1; have z2 := hz.cell 2
    clear hb hw0
    go_wp2_with fail
    refine (CV.out _ hw1).mono ?_
    rintro e w2 ⟨rfl, rfl⟩
    go_wp2_with fail
    refine (CG.out _ hw1).mono ?_
    rintro e w2 ⟨a2, c2, rfl, hV2, hb2⟩
    have hw2 := hw1.trans (hb2.mono hw1.size)
    replace hz := hz.below' hb2
    replace z0 := hz.cell 0; replace z1 := hz.cell 1; replace z2 := hz.cell 2
    have HV2 := Hd hV2
    clear hV2
    go_wp2_with fail
    refine (CO.out _).mono ?_
    rintro e w3 ⟨a3, c3, rfl, hV3, hb3⟩
    have hw3 := hw2.trans (hb3.mono hw2.size)
    replace hz := hz.below' hb3
    replace z0 := hz.cell 0; replace z1 := hz.cell 1; replace z2 := hz.cell 2
    have CS2 := CS.out (limbs g) (limbs 1) a2 a3 c2 c3 w3 (HV2.out w3 ((New.refl _ _).below hb3)) (hV3 w3 (New.refl _ _))
    rw [HS.out] at CS2
    replace CS2 := Hd CS2
    clear hV3
    go_wp2_with fail
    refine CS2.out.mono ?_
    rintro e w4 ⟨rfl, hb4⟩
    have hw4 := hw3.trans (hb4.mono hw3.size)
    replace hz := hz.below' hb4
    replace z0 := hz.cell 0; replace z1 := hz.cell 1; replace z2 := hz.cell 2
    clear hb4 hb3 hb2 CS2
    go_wp2
    go_ret
    exact ⟨ret_bool (by first | rfl | (rw [H4.out]; rfl)), hw4⟩
theorem lowest_right (neg : Bool) (n d : Nat) : Rt.right ⟨(lowest neg n d).1, limbs (lowest neg n d).2.1, limbs (lowest neg n d).2.2⟩ = true := by
 have hc : ∀ k, canonB (limbs k) = true := fun k => by simp [canonB, val_limbs]
 unfold Rt.right rightI
 simp only [hc, val_limbs, Bool.true_and, Bool.and_true]
 unfold lowest
 split
 ·
  simp [limbs_zero]
  exact limbs_len_pos.2 (by omega)
 ·
  next h0 =>
  have hg := Nat.gcd_pos_of_pos_right n (show 0 < d by omega)
  have h1 : Nat.gcd (n / Nat.gcd n d) (d / Nat.gcd n d) = 1 := by
   rw [Nat.gcd_div (Nat.gcd_dvd_left n d) (Nat.gcd_dvd_right n d)]
   exact Nat.div_self hg
  have h2 : 0 < d / Nat.gcd n d := Nat.div_pos (Nat.le_of_dvd (by omega) (Nat.gcd_dvd_right n d)) hg
  dsimp only
  simp only [h1]
  have h3 := limbs_len_pos.2 h2
  have h4 := limbs_len_pos (n := n / Nat.gcd n d)
  by_cases h5 : 0 < n / Nat.gcd n d
  ·
   have h6 := h4.2 h5
   simp [h3]
   right
   intro e
   rw [e] at h6
   simp at h6
  · simp [h5, h3]
theorem valQ_lowest (k : Int) : ∃ s n d, valQ k = lowest s n d := by
 unfold valQ
 split
 · exact ⟨_, _, _, rfl⟩
 ·
  split
  · exact ⟨_, _, _, rfl⟩
  · exact ⟨_, _, _, rfl⟩
theorem valQ_small {k : Int} (hi : InInt k) : (limbs (valQ k).2.1).length <= 5 /\ (limbs (valQ k).2.2).length <= 5 := by
 obtain ⟨hi1, hi2⟩ := hi
 have h5 : (65536 : Nat) ^ 5 = 1208925819614629174706176 := by decide
 unfold valQ
 split
 · exact ⟨limbs_len_le (by have := lowest_num false 0 1; omega), limbs_len_le (by have := lowest_den false 0 1; omega)⟩
 ·
  split
  ·
   have := posQ_small (j := k.toNat / 2 + 1) (by omega)
   omega
  ·
   have h := sb_in (j := k.toNat / 2) (by omega) 0
   simp at h
   have h2 := lowest_num false (sb (k.toNat / 2)).1 (sb (k.toNat / 2)).2
   have h3 := lowest_den false (sb (k.toNat / 2)).1 (sb (k.toNat / 2)).2
   have h6 := lowest_num (!(posQ (k.toNat / 2)).1) (posQ (k.toNat / 2)).2.1 (posQ (k.toNat / 2)).2.2
   have h7 := lowest_den (!(posQ (k.toNat / 2)).1) (posQ (k.toNat / 2)).2.1 (posQ (k.toNat / 2)).2.2
   unfold posQ at h6 h7
   unfold negQ posQ
   exact ⟨limbs_len_le (by omega), limbs_len_le (by omega)⟩
theorem crossed_self (t : Bool × Nat × Nat) : crossed t t = 0 := cmpI_zero.2 rfl
theorem qeqR_any (neg1 neg2 : Bool) (l m l' m' : List Int) (n1 d1 n2 d2 : Nat) (a b a' b' : Option Addr) (c cb c' cb' : Nat) (w : World) (h1 : NatR w a c l) (h2 : NatR w b cb m) (h3 : NatR w a' c' l') (h4 : NatR w b' cb' m')
  (e1 : val l = n1) (e2 : val m = d1) (e3 : val l' = n2) (e4 : val m' = d2) (b1 : l.length <= 900000) (b2 : m.length <= 900000) (b3 : l'.length <= 900000) (b4 : m'.length <= 900000) :
  Calls Tryz.prog 15 #[.agg #[.bool neg1, .slice a l.length c, .slice b m.length cb], .agg #[.bool neg2, .slice a' l'.length c', .slice b' m'.length cb']] w fun e w' =>
   e = .returned (.bool (crossed (lowest neg1 n1 d1) (lowest neg2 n2 d2) == 0)) /\ Below w.heap.size w w' := by
 have CC := fun W (hW : Below w.heap.size w W) => qcmpR_any neg1 neg2 l m l' m' n1 d1 n2 d2 a b a' b' c cb c' cb' W (h1.ext (xbw hW)) (h2.ext (xbw hW)) (h3.ext (xbw hW)) (h4.ext (xbw hW)) e1 e2 e3 e4 b1 b2 b3 b4
 obtain ⟨R, hR⟩ : ∃ R, crossed (lowest neg1 n1 d1) (lowest neg2 n2 d2) = R := ⟨_, rfl⟩
 rw [hR] at CC ⊢
 replace CC := Hd CC
 have hx1 : Blk ((w.alloc (.cells #[.bool neg1, .slice a l.length c, .slice b m.length cb] 32)).alloc (.cells #[.bool neg2, .slice a' l'.length c', .slice b' m'.length cb'] 32)) w.heap.size 32 #[.bool neg1, .slice a l.length c, .slice b m.length cb] := (Blk.new w _ _).alloc _
 have hx2 : Blk ((w.alloc (.cells #[.bool neg1, .slice a l.length c, .slice b m.length cb] 32)).alloc (.cells #[.bool neg2, .slice a' l'.length c', .slice b' m'.length cb'] 32)) (w.heap.size + 1) 32 #[.bool neg2, .slice a' l'.length c', .slice b' m'.length cb'] := blk_at1 w _ _ _
 have hb0 : Below w.heap.size w ((w.alloc (.cells #[.bool neg1, .slice a l.length c, .slice b m.length cb] 32)).alloc (.cells #[.bool neg2, .slice a' l'.length c', .slice b' m'.length cb'] 32)) := by go_grown
 clear h1 h2 h3 h4 e1 e2 e3 e4 hR
 go_enter Tryz.func15, Tryz.ntmps15
 go_wp2_with fail
 revert hx1 hx2 hb0
 generalize (w.alloc (.cells #[.bool neg1, .slice a l.length c, .slice b m.length cb] 32)).alloc (.cells #[.bool neg2, .slice a' l'.length c', .slice b' m'.length cb'] 32) = w0
 generalize w.heap.size + 1 = g
 intro hx1 hx2 hb0
 have k0 := hx1.cell 0; have k1 := hx1.cell 1; have k2 := hx1.cell 2; have k3 := hx2.cell 0; have k4 := hx2.cell 1; have k5 := hx2.cell 2
 go_wp2_with fail
 refine (CC.out _ hb0).mono ?_
 rintro e w1 ⟨rfl, hb1⟩
 have hw1 := bth hb0 hb1
 go_wp2
 go_ret
 exact ⟨rfl, hw1⟩
structure Trm where
 coef : Rt
 mono : List Int
def Trm.val (t : Trm) (p : RA) : Value := .agg #[.bool t.coef.neg, .slice p.na t.coef.num.length p.nc, .slice p.da t.coef.den.length p.dc, .slice p.aa t.mono.length p.ac]
structure Crt where
 factors : List (List Trm)
 powers : List Int
 power : Int
 cofactors : List (List Trm)
structure CA where
 fa : Option Addr
 fc : Nat
 wa : Option Addr
 wc : Nat
 ca : Option Addr
 cc : Nat
def expAt (l : List Int) (v : Nat) : Int := l.getD v 0
theorem expAt_in {l : List Int} (h : ∀ x ∈ l, 0 <= x /\ x <= 1048576) (v : Nat) : 0 <= expAt l v /\ expAt l v <= 1048576 := by
 unfold expAt
 rw [List.getD_eq_getElem?_getD]
 cases hx : l[v]? with
 | none => simp
 | some x => exact h x (List.mem_of_getElem? hx)
def lexDown (a b : List Int) : Nat -> Int
 | 0 => 0
 | v + 1 => if expAt a v = expAt b v then lexDown a b v else if expAt a v < expAt b v then -1 else 1
def lexI (a b : List Int) : Int := lexDown a b (max a.length b.length)
theorem ints_cell {w : World} {a : Option Addr} {c : Nat} {l : List Int} (h : IntsR w a c l) {k : Nat} {x : Int} (hx : l[k]? = some x) : ∃ b off, a = some ⟨b, off, none⟩ /\ w.cell? ⟨b, off + k, none⟩ = some (.int .i64 x) /\ InInt x := by
 obtain ⟨b, off, ha, hc⟩ := h.2.2 k x hx
 exact ⟨b, off, ha, by simpa using hc.1, inInt_of hc.2⟩
theorem expAt_get {l : List Int} {v : Nat} {x : Int} (h : l[v]? = some x) : expAt l v = x := by
 unfold expAt; rw [List.getD_eq_getElem?_getD, h]; rfl
theorem expAt_far {l : List Int} {v : Nat} (h : l.length <= v) : expAt l v = 0 := by
 unfold expAt; rw [List.getD_eq_getElem?_getD, List.getElem?_eq_none h]; rfl
theorem expP_any (l : List Int) (v : Nat) (a : Option Addr) (c : Nat) (w : World) (h : IntsR w a c l) :
  Calls Tryz.prog 155 #[.slice a l.length c, .int .i64 v] w fun e w' => e = .returned (.int .i64 (expAt l v)) /\ w = w' := by
 have hlen := h.len
 by_cases hv : v < l.length
 ·
  obtain ⟨x, hx⟩ := get_of_lt hv
  obtain ⟨b, off, rfl, hc, _⟩ := ints_cell h hx
  rw [expAt_get hx]
  clear hx h
  go_enter Tryz.func155, Tryz.ntmps155
  go_wp2
  go_ret
  exact ⟨rfl, rfl⟩
 ·
  rw [expAt_far (by omega)]
  clear h
  go_enter Tryz.func155, Tryz.ntmps155
  go_wp2
  go_ret
  exact ⟨rfl, rfl⟩
theorem expR_any (l : List Int) (v : Nat) (a : Option Addr) (c : Nat) (w : World) (h : IntsR w a c l) :
  Calls Tryz.prog 174 #[.slice a l.length c, .int .i64 v] w fun e w' => e = .returned (.int .i64 (expAt l v)) /\ w = w' := by
 have hlen := h.len
 by_cases hv : v < l.length
 ·
  obtain ⟨x, hx⟩ := get_of_lt hv
  obtain ⟨b, off, rfl, hc, _⟩ := ints_cell h hx
  rw [expAt_get hx]
  clear hx h
  go_enter Tryz.func174, Tryz.ntmps174
  go_wp2
  go_ret
  exact ⟨rfl, rfl⟩
 ·
  rw [expAt_far (by omega)]
  clear h
  go_enter Tryz.func174, Tryz.ntmps174
  go_wp2
  go_ret
  exact ⟨rfl, rfl⟩
theorem sign05_any (n : Int) (w : World) :
  Calls Tryz.prog 173 #[.int .i64 n] w fun e w' => e = .returned (.int .i64 (if n < 0 then -1 else if 0 < n then 1 else 0)) /\ w = w' := by
 by_cases h : n < 0
 ·
  rw [if_pos h]
  go_enter Tryz.func173, Tryz.ntmps173
  go_wp2
  go_ret
  exact ⟨rfl, rfl⟩
 ·
  by_cases h2 : 0 < n
  ·
   rw [if_neg h, if_pos h2]
   go_enter Tryz.func173, Tryz.ntmps173
   go_wp2
   go_ret
   exact ⟨rfl, rfl⟩
  ·
   rw [if_neg h, if_neg h2]
   go_enter Tryz.func173, Tryz.ntmps173
   go_wp2
   go_ret
   exact ⟨rfl, rfl⟩
theorem expAt_int {w : World} {a : Option Addr} {c : Nat} {l : List Int} (h : IntsR w a c l) (v : Nat) : InInt (expAt l v) := by
 by_cases hv : v < l.length
 ·
  obtain ⟨x, hx⟩ := get_of_lt hv
  obtain ⟨b, off, _, _, hi⟩ := ints_cell h hx
  rw [expAt_get hx]; exact hi
 · rw [expAt_far (by omega)]; unfold InInt; omega
theorem cmpP5_any (l m : List Int) (a a' : Option Addr) (c c' : Nat) (w : World) (h : IntsR w a c l) (h' : IntsR w a' c' m) :
  Calls Tryz.prog 135 #[.slice a l.length c, .slice a' m.length c', .int .i64 0] w fun e w' => e = .returned (.int .i64 (lexI l m)) /\ w = w' := by
 have hlen := h.len
 have hlen' := h'.len
 have C1 := fun v : Nat => expP_any l v a c w h
 have C2 := fun v : Nat => expP_any m v a' c' w h'
 have I1 := expAt_int h
 have I2 := expAt_int h'
 replace C1 := Hd C1; replace C2 := Hd C2; replace I1 := Hd I1; replace I2 := Hd I2
 clear h h'
 obtain ⟨res, hres⟩ : ∃ x, lexI l m = x := ⟨_, rfl⟩
 rw [hres]
 unfold lexI at hres
 by_cases hlm : l.length < m.length
 ·
  rw [show max l.length m.length = m.length by omega] at hres
  have HRES := Hd hres
  clear hres
  go_enter Tryz.func135, Tryz.ntmps135
  go_wp2
  have HLM := Hd hlm
  clear hlm
  go_loop [9] (fun q => (q = .int .i64 (-1) /\ Hid (0 = res)) \/ ∃ v : Nat, v < m.length /\ q = .int .i64 v /\ Hid (lexDown l m (v + 1) = res)) (fun q => (intOf q + 1).toNat)
  case atStart =>
   have HR := HRES.out
   have hlm := HLM.out
   cases hn : m.length with
   | zero => rw [hn] at HR; exact .inl ⟨by go_num, HR⟩
   | succ k => rw [hn] at HR; exact .inr ⟨k, by omega, by go_num, HR⟩
  case round =>
   rcases hrel with ⟨rfl, hr⟩ | ⟨v, hv, rfl, hr⟩
   ·
    have hr := hr.out
    subst hr
    go_wp2
    go_ret
    exact ⟨rfl, rfl⟩
   ·
    have I1v := I1.out v; have I2v := I2.out v
    obtain ⟨x, hx⟩ : ∃ x, expAt l v = x := ⟨_, rfl⟩
    obtain ⟨y, hy⟩ : ∃ y, expAt m v = y := ⟨_, rfl⟩
    have E1 := C1.out v; have E2 := C2.out v
    rw [hx] at E1 I1v
    rw [hy] at E2 I2v
    obtain ⟨i1, i2⟩ := I1v
    obtain ⟨i3, i4⟩ := I2v
    have hr := hr.out
    unfold lexDown at hr
    rw [hx, hy] at hr
    have HR := Hd hr
    replace E1 := Hd E1; replace E2 := Hd E2
    clear hr hx hy
    go_wp2_with fail
    refine E1.out.mono ?_
    rintro e w1 ⟨rfl, rfl⟩
    go_wp2_with fail
    refine E2.out.mono ?_
    rintro e w1 ⟨rfl, rfl⟩
    by_cases hxy : x = y
    ·
     subst hxy
     have HR2 := Hd ((if_pos rfl).symm.trans HR.out)
     go_wp2
     go_round
     case rel =>
      cases v with
      | zero => exact .inl ⟨by go_num, by have := HR2.out; rw [<- this]; rfl⟩
      | succ k => exact .inr ⟨k, by omega, by go_num, HR2.out⟩
     case measure => simp [intOf]
    ·
     have hb : (x == y) = false := by simpa using hxy
     have HR2 := HR.out
     rw [if_neg hxy] at HR2
     by_cases hlt : x < y
     ·
      rw [if_pos hlt] at HR2
      subst HR2
      clear hxy HR
      go_wp2
      go_ret
      exact ⟨rfl, rfl⟩
     ·
      rw [if_neg hlt] at HR2
      subst HR2
      clear hxy HR
      go_wp2
      go_ret
      exact ⟨rfl, rfl⟩
 ·
  rw [show max l.length m.length = l.length by omega] at hres
  have HRES := Hd hres
  clear hres
  go_enter Tryz.func135, Tryz.ntmps135
  go_wp2
  have HLM := Hd hlm
  clear hlm
  go_loop [9] (fun q => (q = .int .i64 (-1) /\ Hid (0 = res)) \/ ∃ v : Nat, v < l.length /\ q = .int .i64 v /\ Hid (lexDown l m (v + 1) = res)) (fun q => (intOf q + 1).toNat)
  case atStart =>
   have HR := HRES.out
   have hlm := HLM.out
   cases hn : l.length with
   | zero => rw [hn] at HR; exact .inl ⟨by go_num, HR⟩
   | succ k => rw [hn] at HR; exact .inr ⟨k, by omega, by go_num, HR⟩
  case round =>
   rcases hrel with ⟨rfl, hr⟩ | ⟨v, hv, rfl, hr⟩
   ·
    have hr := hr.out
    subst hr
    go_wp2
    go_ret
    exact ⟨rfl, rfl⟩
   ·
    have I1v := I1.out v; have I2v := I2.out v
    obtain ⟨x, hx⟩ : ∃ x, expAt l v = x := ⟨_, rfl⟩
    obtain ⟨y, hy⟩ : ∃ y, expAt m v = y := ⟨_, rfl⟩
    have E1 := C1.out v; have E2 := C2.out v
    rw [hx] at E1 I1v
    rw [hy] at E2 I2v
    obtain ⟨i1, i2⟩ := I1v
    obtain ⟨i3, i4⟩ := I2v
    have hr := hr.out
    unfold lexDown at hr
    rw [hx, hy] at hr
    have HR := Hd hr
    replace E1 := Hd E1; replace E2 := Hd E2
    clear hr hx hy
    go_wp2_with fail
    refine E1.out.mono ?_
    rintro e w1 ⟨rfl, rfl⟩
    go_wp2_with fail
    refine E2.out.mono ?_
    rintro e w1 ⟨rfl, rfl⟩
    by_cases hxy : x = y
    ·
     subst hxy
     have HR2 := Hd ((if_pos rfl).symm.trans HR.out)
     go_wp2
     go_round
     case rel =>
      cases v with
      | zero => exact .inl ⟨by go_num, by have := HR2.out; rw [<- this]; rfl⟩
      | succ k => exact .inr ⟨k, by omega, by go_num, HR2.out⟩
     case measure => simp [intOf]
    ·
     have hb : (x == y) = false := by simpa using hxy
     have HR2 := HR.out
     rw [if_neg hxy] at HR2
     by_cases hlt : x < y
     ·
      rw [if_pos hlt] at HR2
      subst HR2
      clear hxy HR
      go_wp2
      go_ret
      exact ⟨rfl, rfl⟩
     ·
      rw [if_neg hlt] at HR2
      subst HR2
      clear hxy HR
      go_wp2
      go_ret
      exact ⟨rfl, rfl⟩
theorem cmpR5_any (l m : List Int) (a a' : Option Addr) (c c' : Nat) (w : World) (h : IntsR w a c l) (h' : IntsR w a' c' m) (hi : ∀ x ∈ l, 0 <= x /\ x <= 1048576) (hi' : ∀ x ∈ m, 0 <= x /\ x <= 1048576) :
  Calls Tryz.prog 166 #[.slice a l.length c, .slice a' m.length c', .int .i64 0] w fun e w' => e = .returned (.int .i64 (lexI l m)) /\ w = w' := by
 have hlen := h.len
 have hlen' := h'.len
 have C1 := fun v : Nat => expR_any l v a c w h
 have C2 := fun v : Nat => expR_any m v a' c' w h'
 have CS := fun z : Int => sign05_any z w
 have I1 : ∀ v, 0 <= expAt l v /\ expAt l v <= 1048576 := expAt_in hi
 have I2 : ∀ v, 0 <= expAt m v /\ expAt m v <= 1048576 := expAt_in hi'
 replace C1 := Hd C1; replace C2 := Hd C2; replace CS := Hd CS; replace I1 := Hd I1; replace I2 := Hd I2
 clear hi hi'
 clear h h'
 obtain ⟨res, hres⟩ : ∃ x, lexI l m = x := ⟨_, rfl⟩
 rw [hres]
 unfold lexI at hres
 by_cases hlm : l.length < m.length
 ·
  rw [show max l.length m.length = m.length by omega] at hres
  have HRES := Hd hres
  clear hres
  go_enter Tryz.func166, Tryz.ntmps166
  go_wp2
  have HLM := Hd hlm
  clear hlm
  go_loop [7] (fun q => (q = .int .i64 (-1) /\ Hid (0 = res)) \/ ∃ v : Nat, v < m.length /\ q = .int .i64 v /\ Hid (lexDown l m (v + 1) = res)) (fun q => (intOf q + 1).toNat)
  case atStart =>
   have HR := HRES.out
   have hlm := HLM.out
   cases hn : m.length with
   | zero => rw [hn] at HR; exact .inl ⟨by go_num, HR⟩
   | succ k => rw [hn] at HR; exact .inr ⟨k, by omega, by go_num, HR⟩
  case round =>
   rcases hrel with ⟨rfl, hr⟩ | ⟨v, hv, rfl, hr⟩
   ·
    have hr := hr.out
    subst hr
    go_wp2
    go_ret
    exact ⟨rfl, rfl⟩
   ·
    have I1v := I1.out v; have I2v := I2.out v
    obtain ⟨x, hx⟩ : ∃ x, expAt l v = x := ⟨_, rfl⟩
    obtain ⟨y, hy⟩ : ∃ y, expAt m v = y := ⟨_, rfl⟩
    have E1 := C1.out v; have E2 := C2.out v
    rw [hx] at E1 I1v
    rw [hy] at E2 I2v
    obtain ⟨i1, i2⟩ := I1v
    obtain ⟨i3, i4⟩ := I2v
    have hr := hr.out
    unfold lexDown at hr
    rw [hx, hy] at hr
    have HR := Hd hr
    replace E1 := Hd E1; replace E2 := Hd E2
    clear hr hx hy
    go_wp2_with fail
    refine E1.out.mono ?_
    rintro e w1 ⟨rfl, rfl⟩
    go_wp2_with fail
    refine E2.out.mono ?_
    rintro e w1 ⟨rfl, rfl⟩
    by_cases hxy : x = y
    ·
     subst hxy
     have HR2 := Hd ((if_pos rfl).symm.trans HR.out)
     go_wp2
     go_round
     case rel =>
      cases v with
      | zero => exact .inl ⟨by go_num, by have := HR2.out; rw [<- this]; rfl⟩
      | succ k => exact .inr ⟨k, by omega, by go_num, HR2.out⟩
     case measure => simp [intOf]
    ·
     have hb : (x == y) = false := by simpa using hxy
     have HR2 := HR.out
     rw [if_neg hxy] at HR2
     have E3 := CS.out (x - y)
     have hsg : (if x - y < 0 then (-1 : Int) else if 0 < x - y then 1 else 0) = res := by rw [<- HR2]; split <;> split <;> first | rfl | omega | (split <;> omega)
     rw [hsg] at E3
     replace E3 := Hd E3
     clear HR HR2 hsg hxy
     go_wp2_with fail
     refine E1.out.mono ?_
     rintro e w1 ⟨rfl, rfl⟩
     go_wp2_with fail
     refine E2.out.mono ?_
     rintro e w1 ⟨rfl, rfl⟩
     go_wp2_with fail
     refine E3.out.mono ?_
     rintro e w1 ⟨rfl, rfl⟩
     go_wp2
     go_ret
     exact ⟨rfl, rfl⟩
 ·
  rw [show max l.length m.length = l.length by omega] at hres
  have HRES := Hd hres
  clear hres
  go_enter Tryz.func166, Tryz.ntmps166
  go_wp2
  have HLM := Hd hlm
  clear hlm
  go_loop [7] (fun q => (q = .int .i64 (-1) /\ Hid (0 = res)) \/ ∃ v : Nat, v < l.length /\ q = .int .i64 v /\ Hid (lexDown l m (v + 1) = res)) (fun q => (intOf q + 1).toNat)
  case atStart =>
   have HR := HRES.out
   have hlm := HLM.out
   cases hn : l.length with
   | zero => rw [hn] at HR; exact .inl ⟨by go_num, HR⟩
   | succ k => rw [hn] at HR; exact .inr ⟨k, by omega, by go_num, HR⟩
  case round =>
   rcases hrel with ⟨rfl, hr⟩ | ⟨v, hv, rfl, hr⟩
   ·
    have hr := hr.out
    subst hr
    go_wp2
    go_ret
    exact ⟨rfl, rfl⟩
   ·
    have I1v := I1.out v; have I2v := I2.out v
    obtain ⟨x, hx⟩ : ∃ x, expAt l v = x := ⟨_, rfl⟩
    obtain ⟨y, hy⟩ : ∃ y, expAt m v = y := ⟨_, rfl⟩
    have E1 := C1.out v; have E2 := C2.out v
    rw [hx] at E1 I1v
    rw [hy] at E2 I2v
    obtain ⟨i1, i2⟩ := I1v
    obtain ⟨i3, i4⟩ := I2v
    have hr := hr.out
    unfold lexDown at hr
    rw [hx, hy] at hr
    have HR := Hd hr
    replace E1 := Hd E1; replace E2 := Hd E2
    clear hr hx hy
    go_wp2_with fail
    refine E1.out.mono ?_
    rintro e w1 ⟨rfl, rfl⟩
    go_wp2_with fail
    refine E2.out.mono ?_
    rintro e w1 ⟨rfl, rfl⟩
    by_cases hxy : x = y
    ·
     subst hxy
     have HR2 := Hd ((if_pos rfl).symm.trans HR.out)
     go_wp2
     go_round
     case rel =>
      cases v with
      | zero => exact .inl ⟨by go_num, by have := HR2.out; rw [<- this]; rfl⟩
      | succ k => exact .inr ⟨k, by omega, by go_num, HR2.out⟩
     case measure => simp [intOf]
    ·
     have hb : (x == y) = false := by simpa using hxy
     have HR2 := HR.out
     rw [if_neg hxy] at HR2
     have E3 := CS.out (x - y)
     have hsg : (if x - y < 0 then (-1 : Int) else if 0 < x - y then 1 else 0) = res := by rw [<- HR2]; split <;> split <;> first | rfl | omega | (split <;> omega)
     rw [hsg] at E3
     replace E3 := Hd E3
     clear HR HR2 hsg hxy
     go_wp2_with fail
     refine E1.out.mono ?_
     rintro e w1 ⟨rfl, rfl⟩
     go_wp2_with fail
     refine E2.out.mono ?_
     rintro e w1 ⟨rfl, rfl⟩
     go_wp2_with fail
     refine E3.out.mono ?_
     rintro e w1 ⟨rfl, rfl⟩
     go_wp2
     go_ret
     exact ⟨rfl, rfl⟩
end Go.Proofs.YtdnblkklgdnapaaGreat
