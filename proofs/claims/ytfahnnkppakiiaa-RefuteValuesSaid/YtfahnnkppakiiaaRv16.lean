/- The row of the law RefuteValues: for every input the call returns true, and each argument reads behind the call as it read before. Condition: none. -/
import Derived.Test.YtfahnnkppakiiaaRv15
import Derived.Test.YtfahnnkppakiiaaRv13
import Derived.Test.YtfahnnkppakiiaaRv10
import Derived.Test.YtfahnnkppakiiaaRv1
import Derived.JoinedCond
import Derived.ChangeMaps5

/- Walks: the fraction of any number, by the program and by the reference. -/
namespace Go.Proofs.Ytfahnnkppakiiaa
open Go.RowKit

def negQ (t : Bool × Nat × Nat) : Bool × Nat × Nat := lowest (!t.1) t.2.1 t.2.2
def valQ (k : Int) : Bool × Nat × Nat := if k ≤ 0 then lowest false 0 1 else if k.toNat % 2 = 1 then posQ (k.toNat / 2 + 1) else negQ (posQ (k.toNat / 2))
theorem posQ_small {j : Nat} (h1 : j ≤ 4611686018427387904) : (limbs (posQ j).2.1).length ≤ 4 ∧ (limbs (posQ j).2.2).length ≤ 4 := by
  have h := sb_in h1 0
  simp at h
  have h2 := lowest_num false (sb j).1 (sb j).2
  have h3 := lowest_den false (sb j).1 (sb j).2
  have : (65536 : Nat) ^ 4 = 18446744073709551616 := by decide
  exact ⟨limbs_len_le (by unfold posQ; omega), limbs_len_le (by unfold posQ; omega)⟩


set_option maxRecDepth 100000 in
set_option maxHeartbeats 4000000 in
theorem value_any (k : Int) (w : World) (hi : InInt k) :
    Calls Try.prog 11 #[.int .i64 k] w (RetF (valQ k) w) := by
  have CNEG := fun t M E a1 a2 c1 c2 W (g1 : NatR W a1 c1 (limbs M)) (g2 : NatR W a2 c2 (limbs E)) (hM : (limbs M).length ≤ 4) (hE : (limbs E).length ≤ 4) (hp : 0 < E) => qneg_any t (limbs M) (limbs E) M E a1 a2 c1 c2 W g1 g2 (val_limbs _) (val_limbs _) (by omega) (by omega) (by omega)
  replace CNEG := Lib.hid CNEG
  have C0 := fun W => qint_any 0 W (by unfold InInt; omega)
  have e0 : lowest (decide ((0 : Int) < 0)) (0 : Int).natAbs 1 = lowest false 0 1 := rfl
  rw [e0] at C0
  obtain ⟨q, hq⟩ : ∃ q, valQ k = q := ⟨_, rfl⟩
  rw [hq]
  have hz : Blk (w.alloc (.cells #[.bool false, .slice none 0 0, .slice none 0 0] 33)) w.heap.size 33 #[.bool false, .slice none 0 0, .slice none 0 0] := Blk.new w _ _
  have hb0 : Below w.heap.size w (w.alloc (.cells #[.bool false, .slice none 0 0, .slice none 0 0] 33)) := (Below.refl _ _).alloc (Nat.le_refl _) _
  obtain ⟨hi1, hi2⟩ := hi
  by_cases hk : k ≤ 0
  · have hq0 : lowest false 0 1 = q := by rw [← hq, valQ, if_pos hk]
    rw [hq0] at C0
    obtain ⟨s, N, D⟩ := q
    unfold RetF at C0 ⊢
    dsimp only at C0 ⊢
    replace C0 := Lib.hid C0
    have hd := decide_eq_true hk
    clear hq hq0 hk e0
    go_enter Try.func11, Try.ntmps11
    go_wp2_with fail
    revert hz hb0
    generalize w.alloc (.cells #[.bool false, .slice none 0 0, .slice none 0 0] 33) = w0
    intro hz hb0
    refine (C0.out _).mono ?_
    rintro e w3 ⟨a3, c3, a4, c4, rfl, hV3, hV4, hb3⟩
    have hw2 := hb0
    have hz2 := hz
    have hw3 := below_then hw2 hb3
    have hz3 := hz2.below' hb3
    have HV3 := Lib.hid hV3
    have HV4 := Lib.hid hV4
    have hs2 := hw2.size
    have hgl2 := hz2.lt
    have z0 := hz3.cell 0; have z1 := hz3.cell 1; have z2 := hz3.cell 2; have f0 := hz3.frozen 0; have f1 := hz3.frozen 1; have f2 := hz3.frozen 2
    clear hV3 hV4 hz2
    go_wp2
    have hF := blk3 (x := .bool s) (y := .slice a3 (limbs N).length c3) (z := .slice a4 (limbs D).length c4) hz3
    have e0 := hF.cell 0; have e1 := hF.cell 1; have e2 := hF.cell 2
    refine bodyPost_ret (v := .agg #[.bool s, .slice a3 (limbs N).length c3, .slice a4 (limbs D).length c4]) (by simp [results, Try.results11, go_sem, e0, e1, e2]) rfl ?_
    exact ⟨a3, c3, a4, c4, rfl, fun V hV => HV3.out V (back3 hV hs2 hgl2), fun V hV => HV4.out V (back3 hV hs2 hgl2), below3 hw3 (Nat.le_refl _)⟩
  · obtain ⟨n, rfl⟩ : ∃ n : Nat, k = (n : Int) := ⟨k.toNat, by omega⟩
    by_cases ho : n % 2 = 1
    · have C1 := fun W => positive_any (n / 2 + 1) W (by omega) (by omega)
      have hq0 : posQ (n / 2 + 1) = q := by rw [← hq, valQ, if_neg hk, Int.toNat_natCast, if_pos ho]
      rw [hq0] at C1
      obtain ⟨s, N, D⟩ := q
      unfold RetF at C1 ⊢
      dsimp only at C1 ⊢
      replace C1 := Lib.hid C1
      have hd : decide (n = 0) = false := by rw [decide_eq_false_iff_not]; omega
      have hm : ((n : Int) % 2 == 1) = true := by rw [beq_iff_eq]; omega
      have hn2 : (n : Int) ≤ 9223372036854775807 := by omega
      clear hq hq0 hk e0 C0 ho
      go_enter Try.func11, Try.ntmps11
      go_wp2_with fail
      revert hz hb0
      generalize w.alloc (.cells #[.bool false, .slice none 0 0, .slice none 0 0] 33) = w0
      intro hz hb0
      refine (C1.out _).mono ?_
      rintro e w3 ⟨a3, c3, a4, c4, rfl, hV3, hV4, hb3⟩
      have hw2 := hb0
      have hz2 := hz
      have hw3 := below_then hw2 hb3
      have hz3 := hz2.below' hb3
      have HV3 := Lib.hid hV3
      have HV4 := Lib.hid hV4
      have hs2 := hw2.size
      have hgl2 := hz2.lt
      have z0 := hz3.cell 0; have z1 := hz3.cell 1; have z2 := hz3.cell 2; have f0 := hz3.frozen 0; have f1 := hz3.frozen 1; have f2 := hz3.frozen 2
      clear hV3 hV4 hz2
      go_wp2
      have hF := blk3 (x := .bool s) (y := .slice a3 (limbs N).length c3) (z := .slice a4 (limbs D).length c4) hz3
      have e0 := hF.cell 0; have e1 := hF.cell 1; have e2 := hF.cell 2
      refine bodyPost_ret (v := .agg #[.bool s, .slice a3 (limbs N).length c3, .slice a4 (limbs D).length c4]) (by simp [results, Try.results11, go_sem, e0, e1, e2]) rfl ?_
      exact ⟨a3, c3, a4, c4, rfl, fun V hV => HV3.out V (back3 hV hs2 hgl2), fun V hV => HV4.out V (back3 hV hs2 hgl2), below3 hw3 (Nat.le_refl _)⟩
    · have C1 := fun W => positive_any (n / 2) W (by omega) (by omega)
      have hq0 : negQ (posQ (n / 2)) = q := by rw [← hq, valQ, if_neg hk, Int.toNat_natCast, if_neg ho]
      have hsm := posQ_small (j := n / 2) (by omega)
      have hdp : 0 < (posQ (n / 2)).2.2 := lowest_den_pos _ _ _
      obtain ⟨u, hu⟩ : ∃ u, posQ (n / 2) = u := ⟨_, rfl⟩
      rw [hu] at C1 hq0 hsm hdp
      obtain ⟨t, M, E⟩ := u
      dsimp only at hsm hdp
      have C2 := fun a1 a2 c1 c2 W g1 g2 => (CNEG.out t M E a1 a2 c1 c2 W g1 g2 hsm.1 hsm.2 hdp)
      have hq1 : lowest (!t) M E = q := hq0
      rw [hq1] at C2
      obtain ⟨s, N, D⟩ := q
      unfold RetF at C1 C2 ⊢
      dsimp only at C1 C2 ⊢
      replace C1 := Lib.hid C1
      replace C2 := Lib.hid C2
      have hd : decide (n = 0) = false := by rw [decide_eq_false_iff_not]; omega
      have hm : ((n : Int) % 2 == 1) = false := by rw [beq_eq_false_iff_ne]; omega
      have hn2 : (n : Int) ≤ 9223372036854775807 := by omega
      clear hq hq0 hq1 hk e0 C0 ho hsm hdp hu
      go_enter Try.func11, Try.ntmps11
      go_wp2_with fail
      revert hz hb0
      generalize w.alloc (.cells #[.bool false, .slice none 0 0, .slice none 0 0] 33) = w0
      intro hz hb0
      refine (C1.out _).mono ?_
      rintro e w2 ⟨a1, c1, a2, c2, rfl, hV1, hV2, hb2⟩
      have hw2 := below_then hb0 hb2
      have hz2 := hz.below' hb2
      have CF := C2.out a1 a2 c1 c2 w2 (hV1 w2 (New.refl _ _)) (hV2 w2 (New.refl _ _))
      replace CF := Lib.hid CF
      clear hV1 hV2 hz
      go_wp2_with fail
      refine CF.out.mono ?_
      rintro e w3 ⟨a3, c3, a4, c4, rfl, hV3, hV4, hb3⟩
      have hw3 := below_then hw2 hb3
      have hz3 := hz2.below' hb3
      have HV3 := Lib.hid hV3
      have HV4 := Lib.hid hV4
      have hs2 := hw2.size
      have hgl2 := hz2.lt
      have z0 := hz3.cell 0; have z1 := hz3.cell 1; have z2 := hz3.cell 2; have f0 := hz3.frozen 0; have f1 := hz3.frozen 1; have f2 := hz3.frozen 2
      clear hV3 hV4 hz2
      go_wp2
      have hF := blk3 (x := .bool s) (y := .slice a3 (limbs N).length c3) (z := .slice a4 (limbs D).length c4) hz3
      have e0 := hF.cell 0; have e1 := hF.cell 1; have e2 := hF.cell 2
      refine bodyPost_ret (v := .agg #[.bool s, .slice a3 (limbs N).length c3, .slice a4 (limbs D).length c4]) (by simp [results, Try.results11, go_sem, e0, e1, e2]) rfl ?_
      exact ⟨a3, c3, a4, c4, rfl, fun V hV => HV3.out V (back3 hV hs2 hgl2), fun V hV => HV4.out V (back3 hV hs2 hgl2), below3 hw3 (Nat.le_refl _)⟩
set_option maxRecDepth 100000 in
set_option maxHeartbeats 4000000 in
theorem valueR_any (k : Int) (w : World) (hi : InInt k) :
    Calls Try.prog 14 #[.int .i64 k] w (RetF (valQ k) w) := by
  have CNEG := fun t M E a1 a2 c1 c2 W (g1 : NatR W a1 c1 (limbs M)) (g2 : NatR W a2 c2 (limbs E)) (hM : (limbs M).length ≤ 4) (hE : (limbs E).length ≤ 4) (hp : 0 < E) => qnegR_any t (limbs M) (limbs E) M E a1 a2 c1 c2 W g1 g2 (val_limbs _) (val_limbs _) (by omega) (by omega)
  replace CNEG := Lib.hid CNEG
  have C0 := fun W => qintR_any 0 W (by unfold InInt; omega)
  have e0 : lowest (decide ((0 : Int) < 0)) (0 : Int).natAbs 1 = lowest false 0 1 := rfl
  rw [e0] at C0
  obtain ⟨q, hq⟩ : ∃ q, valQ k = q := ⟨_, rfl⟩
  rw [hq]
  have hz : Blk (w.alloc (.cells #[.bool false, .slice none 0 0, .slice none 0 0] 33)) w.heap.size 33 #[.bool false, .slice none 0 0, .slice none 0 0] := Blk.new w _ _
  have hb0 : Below w.heap.size w (w.alloc (.cells #[.bool false, .slice none 0 0, .slice none 0 0] 33)) := (Below.refl _ _).alloc (Nat.le_refl _) _
  obtain ⟨hi1, hi2⟩ := hi
  by_cases hk : k ≤ 0
  · have hq0 : lowest false 0 1 = q := by rw [← hq, valQ, if_pos hk]
    rw [hq0] at C0
    obtain ⟨s, N, D⟩ := q
    unfold RetF at C0 ⊢
    dsimp only at C0 ⊢
    replace C0 := Lib.hid C0
    have hd := decide_eq_true hk
    clear hq hq0 hk e0
    go_enter Try.func14, Try.ntmps14
    go_wp2_with fail
    revert hz hb0
    generalize w.alloc (.cells #[.bool false, .slice none 0 0, .slice none 0 0] 33) = w0
    intro hz hb0
    refine (C0.out _).mono ?_
    rintro e w3 ⟨a3, c3, a4, c4, rfl, hV3, hV4, hb3⟩
    have hw2 := hb0
    have hz2 := hz
    have hw3 := below_then hw2 hb3
    have hz3 := hz2.below' hb3
    have HV3 := Lib.hid hV3
    have HV4 := Lib.hid hV4
    have hs2 := hw2.size
    have hgl2 := hz2.lt
    have z0 := hz3.cell 0; have z1 := hz3.cell 1; have z2 := hz3.cell 2; have f0 := hz3.frozen 0; have f1 := hz3.frozen 1; have f2 := hz3.frozen 2
    clear hV3 hV4 hz2
    go_wp2
    have hF := blk3 (x := .bool s) (y := .slice a3 (limbs N).length c3) (z := .slice a4 (limbs D).length c4) hz3
    have e0 := hF.cell 0; have e1 := hF.cell 1; have e2 := hF.cell 2
    refine bodyPost_ret (v := .agg #[.bool s, .slice a3 (limbs N).length c3, .slice a4 (limbs D).length c4]) (by simp [results, Try.results14, go_sem, e0, e1, e2]) rfl ?_
    exact ⟨a3, c3, a4, c4, rfl, fun V hV => HV3.out V (back3 hV hs2 hgl2), fun V hV => HV4.out V (back3 hV hs2 hgl2), below3 hw3 (Nat.le_refl _)⟩
  · obtain ⟨n, rfl⟩ : ∃ n : Nat, k = (n : Int) := ⟨k.toNat, by omega⟩
    by_cases ho : n % 2 = 1
    · have C1 := fun W => positiveR_any (n / 2 + 1) W (by omega) (by omega)
      have hq0 : posQ (n / 2 + 1) = q := by rw [← hq, valQ, if_neg hk, Int.toNat_natCast, if_pos ho]
      rw [hq0] at C1
      obtain ⟨s, N, D⟩ := q
      unfold RetF at C1 ⊢
      dsimp only at C1 ⊢
      replace C1 := Lib.hid C1
      have hd : decide (n = 0) = false := by rw [decide_eq_false_iff_not]; omega
      have hm : ((n : Int) % 2 == 1) = true := by rw [beq_iff_eq]; omega
      have hn2 : (n : Int) ≤ 9223372036854775807 := by omega
      clear hq hq0 hk e0 C0 ho
      go_enter Try.func14, Try.ntmps14
      go_wp2_with fail
      revert hz hb0
      generalize w.alloc (.cells #[.bool false, .slice none 0 0, .slice none 0 0] 33) = w0
      intro hz hb0
      refine (C1.out _).mono ?_
      rintro e w3 ⟨a3, c3, a4, c4, rfl, hV3, hV4, hb3⟩
      have hw2 := hb0
      have hz2 := hz
      have hw3 := below_then hw2 hb3
      have hz3 := hz2.below' hb3
      have HV3 := Lib.hid hV3
      have HV4 := Lib.hid hV4
      have hs2 := hw2.size
      have hgl2 := hz2.lt
      have z0 := hz3.cell 0; have z1 := hz3.cell 1; have z2 := hz3.cell 2; have f0 := hz3.frozen 0; have f1 := hz3.frozen 1; have f2 := hz3.frozen 2
      clear hV3 hV4 hz2
      go_wp2
      have hF := blk3 (x := .bool s) (y := .slice a3 (limbs N).length c3) (z := .slice a4 (limbs D).length c4) hz3
      have e0 := hF.cell 0; have e1 := hF.cell 1; have e2 := hF.cell 2
      refine bodyPost_ret (v := .agg #[.bool s, .slice a3 (limbs N).length c3, .slice a4 (limbs D).length c4]) (by simp [results, Try.results14, go_sem, e0, e1, e2]) rfl ?_
      exact ⟨a3, c3, a4, c4, rfl, fun V hV => HV3.out V (back3 hV hs2 hgl2), fun V hV => HV4.out V (back3 hV hs2 hgl2), below3 hw3 (Nat.le_refl _)⟩
    · have C1 := fun W => positiveR_any (n / 2) W (by omega) (by omega)
      have hq0 : negQ (posQ (n / 2)) = q := by rw [← hq, valQ, if_neg hk, Int.toNat_natCast, if_neg ho]
      have hsm := posQ_small (j := n / 2) (by omega)
      have hdp : 0 < (posQ (n / 2)).2.2 := lowest_den_pos _ _ _
      obtain ⟨u, hu⟩ : ∃ u, posQ (n / 2) = u := ⟨_, rfl⟩
      rw [hu] at C1 hq0 hsm hdp
      obtain ⟨t, M, E⟩ := u
      dsimp only at hsm hdp
      have C2 := fun a1 a2 c1 c2 W g1 g2 => (CNEG.out t M E a1 a2 c1 c2 W g1 g2 hsm.1 hsm.2 hdp)
      have hq1 : lowest (!t) M E = q := hq0
      rw [hq1] at C2
      obtain ⟨s, N, D⟩ := q
      unfold RetF at C1 C2 ⊢
      dsimp only at C1 C2 ⊢
      replace C1 := Lib.hid C1
      replace C2 := Lib.hid C2
      have hd : decide (n = 0) = false := by rw [decide_eq_false_iff_not]; omega
      have hm : ((n : Int) % 2 == 1) = false := by rw [beq_eq_false_iff_ne]; omega
      have hn2 : (n : Int) ≤ 9223372036854775807 := by omega
      clear hq hq0 hq1 hk e0 C0 ho hsm hdp hu
      go_enter Try.func14, Try.ntmps14
      go_wp2_with fail
      revert hz hb0
      generalize w.alloc (.cells #[.bool false, .slice none 0 0, .slice none 0 0] 33) = w0
      intro hz hb0
      refine (C1.out _).mono ?_
      rintro e w2 ⟨a1, c1, a2, c2, rfl, hV1, hV2, hb2⟩
      have hw2 := below_then hb0 hb2
      have hz2 := hz.below' hb2
      have CF := C2.out a1 a2 c1 c2 w2 (hV1 w2 (New.refl _ _)) (hV2 w2 (New.refl _ _))
      replace CF := Lib.hid CF
      clear hV1 hV2 hz
      go_wp2_with fail
      refine CF.out.mono ?_
      rintro e w3 ⟨a3, c3, a4, c4, rfl, hV3, hV4, hb3⟩
      have hw3 := below_then hw2 hb3
      have hz3 := hz2.below' hb3
      have HV3 := Lib.hid hV3
      have HV4 := Lib.hid hV4
      have hs2 := hw2.size
      have hgl2 := hz2.lt
      have z0 := hz3.cell 0; have z1 := hz3.cell 1; have z2 := hz3.cell 2; have f0 := hz3.frozen 0; have f1 := hz3.frozen 1; have f2 := hz3.frozen 2
      clear hV3 hV4 hz2
      go_wp2
      have hF := blk3 (x := .bool s) (y := .slice a3 (limbs N).length c3) (z := .slice a4 (limbs D).length c4) hz3
      have e0 := hF.cell 0; have e1 := hF.cell 1; have e2 := hF.cell 2
      refine bodyPost_ret (v := .agg #[.bool s, .slice a3 (limbs N).length c3, .slice a4 (limbs D).length c4]) (by simp [results, Try.results14, go_sem, e0, e1, e2]) rfl ?_
      exact ⟨a3, c3, a4, c4, rfl, fun V hV => HV3.out V (back3 hV hs2 hgl2), fun V hV => HV4.out V (back3 hV hs2 hgl2), below3 hw3 (Nat.le_refl _)⟩
end Go.Proofs.Ytfahnnkppakiiaa

/- Walks: equality of fractions by the reference. Plain: a fraction in lowest terms is valid. -/
namespace Go.Proofs.Ytfahnnkppakiiaa
open Go.RowKit

theorem lowest_right (neg : Bool) (n d : Nat) : Rt.right ⟨(lowest neg n d).1, limbs (lowest neg n d).2.1, limbs (lowest neg n d).2.2⟩ = true := by
  have hc : ∀ k, canonB (limbs k) = true := fun k => by simp [canonB, val_limbs]
  unfold Rt.right rightI
  simp only [hc, val_limbs, Bool.true_and, Bool.and_true]
  unfold lowest
  split
  · simp [limbs_zero]
    exact limbs_len_pos.2 (by omega)
  · next h0 =>
    have hg := Nat.gcd_pos_of_pos_right n (show 0 < d by omega)
    have h1 : Nat.gcd (n / Nat.gcd n d) (d / Nat.gcd n d) = 1 := by
      rw [Nat.gcd_div (Nat.gcd_dvd_left n d) (Nat.gcd_dvd_right n d)]
      exact Nat.div_self hg
    have h2 : 0 < d / Nat.gcd n d := Nat.div_pos (Nat.le_of_dvd (by omega) (Nat.gcd_dvd_right n d)) hg
    dsimp only
    simp only [h1]
    have h3 := limbs_len_pos.2 h2
    have h4 := limbs_len_pos (n := n / Nat.gcd n d)
    by_cases h5 : 0 < n / Nat.gcd n d
    · have h6 := h4.2 h5
      simp [h3]
      right
      intro e
      rw [e] at h6
      simp at h6
    · simp [h5, h3]
theorem valQ_lowest (k : Int) : ∃ s n d, valQ k = lowest s n d := by
  unfold valQ
  split
  · exact ⟨_, _, _, rfl⟩
  · split
    · exact ⟨_, _, _, rfl⟩
    · exact ⟨_, _, _, rfl⟩
theorem valQ_small {k : Int} (hi : InInt k) : (limbs (valQ k).2.1).length ≤ 5 ∧ (limbs (valQ k).2.2).length ≤ 5 := by
  obtain ⟨hi1, hi2⟩ := hi
  have h5 : (65536 : Nat) ^ 5 = 1208925819614629174706176 := by decide
  unfold valQ
  split
  · exact ⟨limbs_len_le (by have := lowest_num false 0 1; omega), limbs_len_le (by have := lowest_den false 0 1; omega)⟩
  · split
    · have := posQ_small (j := k.toNat / 2 + 1) (by omega)
      omega
    · have h := sb_in (j := k.toNat / 2) (by omega) 0
      simp at h
      have h2 := lowest_num false (sb (k.toNat / 2)).1 (sb (k.toNat / 2)).2
      have h3 := lowest_den false (sb (k.toNat / 2)).1 (sb (k.toNat / 2)).2
      have h6 := lowest_num (!(posQ (k.toNat / 2)).1) (posQ (k.toNat / 2)).2.1 (posQ (k.toNat / 2)).2.2
      have h7 := lowest_den (!(posQ (k.toNat / 2)).1) (posQ (k.toNat / 2)).2.1 (posQ (k.toNat / 2)).2.2
      unfold posQ at h6 h7
      unfold negQ posQ
      exact ⟨limbs_len_le (by omega), limbs_len_le (by omega)⟩
theorem crossed_self (t : Bool × Nat × Nat) : crossed t t = 0 := cmpI_zero.2 rfl
set_option maxRecDepth 100000 in
set_option maxHeartbeats 4000000 in
theorem qeqR_any (neg1 neg2 : Bool) (l m l' m' : List Int) (n1 d1 n2 d2 : Nat) (a b a' b' : Option Addr) (c cb c' cb' : Nat) (w : World) (h1 : NatR w a c l) (h2 : NatR w b cb m) (h3 : NatR w a' c' l') (h4 : NatR w b' cb' m')
    (e1 : val l = n1) (e2 : val m = d1) (e3 : val l' = n2) (e4 : val m' = d2) (b1 : l.length ≤ 900000) (b2 : m.length ≤ 900000) (b3 : l'.length ≤ 900000) (b4 : m'.length ≤ 900000) :
    Calls Try.prog 13 #[.agg #[.bool neg1, .slice a l.length c, .slice b m.length cb], .agg #[.bool neg2, .slice a' l'.length c', .slice b' m'.length cb']] w fun e w' =>
      e = .returned (.bool (crossed (lowest neg1 n1 d1) (lowest neg2 n2 d2) == 0)) ∧ Below w.heap.size w w' := by
  have CC := fun W (hW : Below w.heap.size w W) => qcmpR_any neg1 neg2 l m l' m' n1 d1 n2 d2 a b a' b' c cb c' cb' W (h1.ext (Ext.below hW)) (h2.ext (Ext.below hW)) (h3.ext (Ext.below hW)) (h4.ext (Ext.below hW)) e1 e2 e3 e4 b1 b2 b3 b4
  obtain ⟨R, hR⟩ : ∃ R, crossed (lowest neg1 n1 d1) (lowest neg2 n2 d2) = R := ⟨_, rfl⟩
  rw [hR] at CC ⊢
  replace CC := Lib.hid CC
  have hx1 : Blk ((w.alloc (.cells #[.bool neg1, .slice a l.length c, .slice b m.length cb] 33)).alloc (.cells #[.bool neg2, .slice a' l'.length c', .slice b' m'.length cb'] 33)) w.heap.size 33 #[.bool neg1, .slice a l.length c, .slice b m.length cb] := (Blk.new w _ _).alloc _
  have hx2 : Blk ((w.alloc (.cells #[.bool neg1, .slice a l.length c, .slice b m.length cb] 33)).alloc (.cells #[.bool neg2, .slice a' l'.length c', .slice b' m'.length cb'] 33)) (w.heap.size + 1) 33 #[.bool neg2, .slice a' l'.length c', .slice b' m'.length cb'] := blk_at1 w _ _ _
  have hb0 : Below w.heap.size w ((w.alloc (.cells #[.bool neg1, .slice a l.length c, .slice b m.length cb] 33)).alloc (.cells #[.bool neg2, .slice a' l'.length c', .slice b' m'.length cb'] 33)) := by go_grown
  clear h1 h2 h3 h4 e1 e2 e3 e4 hR
  go_enter Try.func13, Try.ntmps13
  go_wp2_with fail
  revert hx1 hx2 hb0
  generalize (w.alloc (.cells #[.bool neg1, .slice a l.length c, .slice b m.length cb] 33)).alloc (.cells #[.bool neg2, .slice a' l'.length c', .slice b' m'.length cb'] 33) = w0
  generalize w.heap.size + 1 = g
  intro hx1 hx2 hb0
  have k0 := hx1.cell 0; have k1 := hx1.cell 1; have k2 := hx1.cell 2; have k3 := hx2.cell 0; have k4 := hx2.cell 1; have k5 := hx2.cell 2
  go_wp2_with fail
  refine (CC.out _ hb0).mono ?_
  rintro e w1 ⟨rfl, hb1⟩
  have hw1 := below_then hb0 hb1
  go_wp2
  go_ret
  exact ⟨rfl, hw1⟩
end Go.Proofs.Ytfahnnkppakiiaa

/- The law RefuteValues, walked. -/
namespace Go.Proofs.Ytfahnnkppakiiaa
open Go.RowKit

set_option maxRecDepth 100000 in
set_option maxHeartbeats 4000000 in
theorem refuteValues_law (k : Int) (wk : (Lit.int .i64 k).wf = true) (w : World) :
    Calls Try.prog 4 #[.int .i64 k] w fun e w' => e = .returned (.bool true) ∧ Below w.heap.size w w' := by
  have hi := inInt_of wk
  have C1 := fun W => value_any k W hi
  have C2 := fun W => valueR_any k W hi
  obtain ⟨s0, n0, d0, hq⟩ := valQ_lowest k
  have hr := lowest_right s0 n0 d0
  rw [← hq] at hr
  obtain ⟨hs1, hs2⟩ := valQ_small hi
  have hself := crossed_self
  obtain ⟨q, hq2⟩ : ∃ q, valQ k = q := ⟨_, rfl⟩
  rw [hq2] at C1 C2 hr hs1 hs2
  obtain ⟨s, N, D⟩ := q
  unfold RetF at C1 C2
  dsimp only at C1 C2 hr hs1 hs2
  have CR := fun na nc da dc W (h : NatR W na nc (limbs N)) (h' : NatR W da dc (limbs D)) => right03_any ⟨s, limbs N, limbs D⟩ na nc da dc W h h' (by dsimp only; omega) (by dsimp only; omega)
  unfold Rt.val at CR
  dsimp only at CR
  rw [hr] at CR
  have CE := fun a b a' b' c cb c' cb' W (h1 : NatR W a c (limbs N)) (h2 : NatR W b cb (limbs D)) (h3 : NatR W a' c' (limbs N)) (h4 : NatR W b' cb' (limbs D)) => qeqR_any s s (limbs N) (limbs D) (limbs N) (limbs D) N D N D a b a' b' c cb c' cb' W h1 h2 h3 h4 (val_limbs _) (val_limbs _) (val_limbs _) (val_limbs _) (by omega) (by omega) (by omega) (by omega)
  simp only [crossed_self] at CE
  have CE2 : ∀ a b a' b' c cb c' cb' W (h1 : NatR W a c (limbs N)) (h2 : NatR W b cb (limbs D)) (h3 : NatR W a' c' (limbs N)) (h4 : NatR W b' cb' (limbs D)), Calls Try.prog 13 #[.agg #[.bool s, .slice a (limbs N).length c, .slice b (limbs D).length cb], .agg #[.bool s, .slice a' (limbs N).length c', .slice b' (limbs D).length cb']] W fun e w' => e = .returned (.bool true) ∧ Below W.heap.size W w' := CE
  replace C1 := Lib.hid C1; replace C2 := Lib.hid C2; replace CR := Lib.hid CR; replace CE2 := Lib.hid CE2
  clear CE hself hq hq2 hr hs1 hs2 hi wk
  go_enter Try.func4, Try.ntmps4
  go_wp2_with fail
  refine (C1.out _).mono ?_
  rintro e w1 ⟨a1, c1, a2, c2, rfl, hV1, hV2, hb1⟩
  have HV1 := Lib.hid hV1; have HV2 := Lib.hid hV2
  clear hV1 hV2
  go_wp2
  have hx := Blk.new w1 33 #[.bool s, .slice a1 (limbs N).length c1, .slice a2 (limbs D).length c2]
  have hw2 := hb1.alloc hb1.size (.cells #[.bool s, .slice a1 (limbs N).length c1, .slice a2 (limbs D).length c2] 33)
  have r1 := HV1.out (w1.alloc (.cells #[.bool s, .slice a1 (limbs N).length c1, .slice a2 (limbs D).length c2] 33)) (New.refl _ _).unalloc
  have r2 := HV2.out (w1.alloc (.cells #[.bool s, .slice a1 (limbs N).length c1, .slice a2 (limbs D).length c2] 33)) (New.refl _ _).unalloc
  revert hx hw2 r1 r2
  generalize w1.alloc (.cells #[.bool s, .slice a1 (limbs N).length c1, .slice a2 (limbs D).length c2] 33) = w2
  generalize w1.heap.size = g
  intro hx hw2 r1 r2
  have R1 := Lib.hid r1; have R2 := Lib.hid r2
  clear r1 r2
  have s0 : Below w2.heap.size w2 w2.drew := (Below.refl _ _).drew
  have k0 := held (hx.cell 0); have k1 := held (hx.cell 1); have k2 := held (hx.cell 2)
  refine wp_region_mix (S := Below w2.heap.size w2) [(0, .q), (1, .l), (2, .q), (3, .q), (4, .q), (5, .l), (6, .t), (7, .p), (8, .p)] (by kernel_rfl) (by kernel_rfl) (by kernel_rfl) (fun d _ _ _ _ h => by cases d <;> exact h) (s0) ?_
  iterate 1 (refine wpMix_q rfl rfl (fun K hK => ?_); apply Exists.intro; refine ⟨fun w' hw' => ?_, ?_⟩; (focus (go_simp; try rfl)); go_simp; refine hK _ _ ?_; clear hK K)
  refine wpMix_l rfl rfl (fun K hK => ?_)
  go_simp
  refine (CR.out a1 c1 a2 c2 w2.drew (R1.out.ext (Ext.below s0)) (R2.out.ext (Ext.below s0))).mono ?_
  rintro r w3 ⟨rfl, hb3⟩
  dsimp only
  refine hK.out _ _ (below_then s0 hb3) (fun _ => ?_)
  clear hK K
  have s1 := below_then s0 hb3
  iterate 3 (refine wpMix_q rfl rfl (fun K hK => ?_); apply Exists.intro; refine ⟨fun w' hw' => ?_, ?_⟩; (focus (go_simp; try rfl)); go_simp; refine hK _ _ ?_; clear hK K)
  refine wpMix_l rfl rfl (fun K hK => ?_)
  go_simp
  refine (C2.out _).mono ?_
  rintro r w4 ⟨a3, c3, a4, c4, rfl, hV3, hV4, hb4⟩
  dsimp only
  refine hK.out _ _ (below_then s1 hb4) (fun _ => ?_)
  clear hK K
  have s2 := below_then s1 hb4
  have CF := CE2.out a1 a2 a3 a4 c1 c2 c3 c4 w4 (R1.out.ext (Ext.below s2)) (R2.out.ext (Ext.below s2)) (hV3 w4 (New.refl _ _)) (hV4 w4 (New.refl _ _))
  replace CF := Lib.hid CF
  clear hV3 hV4
  refine wpMix_t rfl rfl (fun K hK => ?_)
  go_simp
  refine (CF.out).mono ?_
  rintro r w5 ⟨rfl, hb5⟩
  dsimp only
  refine hK.out _ _ ?_
  clear hK K
  iterate 2 (refine wpMix_p rfl rfl (fun K hK => ?_); apply Exists.intro; refine ⟨fun w' => ?_, ?_⟩; (focus (go_simp; try rfl)); go_simp; refine hK _ _ ?_; clear hK K)
  refine wpMix_nil ?_
  go_wp2
  go_ret
  exact ⟨rfl, below_then hw2 (below_then s2 hb5)⟩
end Go.Proofs.Ytfahnnkppakiiaa

/- How a law's row is closed: the call answers true and turns nothing that was there before, so each argument reads as it did. No function of the program in sight. -/
namespace Go.Proofs.Ytfahnnkppakiiaa
open Go.ChangeShapes Go.WideShapes Go.ChangeAt Go.RowKit

theorem trodAll_below {H : Type} {enc : TypeId × Value → H} {P : Program} (hl : laidOutB P = true) {W W' : World} (hB : Below W.heap.size W W') :
    ∀ (ts : List TypeId) (vs : List Value) (ds : List (DataW H)) (p : List MemPlace), (ts.all fun t => P.readableRec t && decide (t < P.types.size)) = true →
      (∀ x ∈ p, x.block < W.heap.size) → DataW.TrodAll enc P W 0 (fun _ => true) true ts vs ds p → DataW.TrodAll enc P W' 0 (fun b => decide (b < W.heap.size)) true ts vs ds p := by
  intro ts
  induction ts with
  | nil => intro vs ds p _ _ h; cases vs <;> cases ds <;> first | exact h | exact h.elim
  | cons t ts ih =>
    intro vs ds p ha hp h
    cases vs with
    | nil => exact h.elim
    | cons v vs =>
      cases ds with
      | nil => exact h.elim
      | cons d ds =>
        obtain ⟨p1, q1, h1, h2, rfl⟩ := h
        simp only [List.all_cons, Bool.and_eq_true, decide_eq_true_eq] at ha
        exact ⟨p1, q1, Below.trod hl ha.1.1 ha.1.2 h1 hB (fun x hx => hp x (by simp [hx])), ih vs ds q1 ha.2 (fun x hx => hp x (by simp [hx])) h2, rfl⟩

theorem law_post {H : Type} {enc : TypeId × Value → H} {P : Program} {f : Func} {s : ChangeSpec} {W W' : World} {args : Array Value} {ds gs : List (DataW H)} {before : List MemPlace} {tb : TypeId}
    (hl : laidOutB P = true) (hts : (f.params.toList.all fun t => P.readableRec t && decide (t < P.types.size)) = true) (hr : f.resultTypes = #[tb]) (hb : P.underlying tb = some .bool) (hv : s.vars = [])
    (hW : DataW.Whole enc P f.params.toList s.vars false W args.toList ds gs before) (hfn : s.fn H (ds ++ gs) = { results := [.lit (.bool true)], args := ds, vars := [] })
    (hB : Below W.heap.size W W') : s.post enc P f false true false false W args (.bool true) W' := by
  have hlt := hW.lt
  have hW0 := hW
  obtain ⟨p, q, hA, hV, rfl, _, _⟩ := hW
  rw [hv] at hV
  obtain ⟨rfl, rfl⟩ := trodVars_none hV
  refine ⟨ds, _, _, [], p, [], hW0, ?_, ?_, ?_, hB.frame _, fun h => by cases h⟩
  · rw [hfn, hr]
    exact trodAll_mk1 (shut_bool hb true)
  · rw [hfn]
    exact trodAll_below hl hB _ _ _ _ hts (fun x hx => by simpa using hlt x (by simp [hx])) hA
  · rw [hfn, hv]
    rfl
end Go.Proofs.Ytfahnnkppakiiaa

/- The row of the law RefuteValues: for every input the call returns true, and each argument reads behind the call as it read before. Condition: none. -/
namespace Go.Proofs.Ytfahnnkppakiiaa.refuteValues
open Go.ChangeShapes Go.WideShapes Go.ChangeAt Go.RowKit
set_option linter.unusedVariables false

theorem own : ownKnob Try.prog.godebug = none := by kernel_rfl
theorem laidOut : laidOutB Try.prog = true := by kernel_rfl
theorem readable : (Try.f4.params.toList.all fun t => Try.prog.readableRec t && decide (t < Try.prog.types.size)) = true := by kernel_rfl

set_option maxRecDepth 100000 in
theorem contract (H : Type) (enc : TypeId × Value → H) (W : World) (base : Nat) (args : Array Value) (ds gs : List (DataW H)) (before : List MemPlace)
    (hval : ∀ (j : Nat) t v, Try.f4.params[j]? = some t → args[j]? = some v → Value.okWide Try.prog W .any base t v)
    (hW : DataW.Whole enc Try.prog Try.f4.params.toList Rows.refuteValuesSpec.vars false W args.toList ds gs before) :
    Calls Try.prog 4 args W fun e W' => ∃ v, e = .returned v ∧ Rows.refuteValuesSpec.post enc Try.prog Try.f4 false true false false W args v W' := by
  have hW' := hW
  obtain ⟨p, q, hA0, hV, rfl, hfz, hnd⟩ := hW
  have hA : DataW.TrodAll enc Try.prog W 0 (fun _ => true) true Try.f4.params.toList args.toList ds p := hA0
  rw [Try.params4] at hA hval
  obtain ⟨v0, vs0, d0, ds0, p0, q0, hargs, rfl, rfl, h0, r0⟩ := trodAll_cons hA
  obtain ⟨rfl, rfl, rfl⟩ := trodAll_nil r0
  obtain rfl : args = #[v0] := by cases args; simp_all
  obtain ⟨rfl, rfl⟩ := trodVars_none hV
  clear hA0 hA r0
  obtain ⟨a0, rfl, rfl, rfl, wa0⟩ := open_int Try.underlying3 (hval 0 3 v0 rfl rfl) h0
  refine (refuteValues_law a0 wa0 W).mono fun e W' ⟨he, hg⟩ => ?_
  subst he
  exact ⟨_, rfl, law_post laidOut readable (by kernel_rfl) Try.underlying4 rfl hW' (by rfl) hg⟩

set_option maxRecDepth 100000 in
theorem lifted (os : Os) (started : os.Started) (H : Type) (enc : TypeId × Value → H) :
    ReturnsInHanded {} Try.checked os 4 .any (Rows.refuteValuesSpec.pre6 enc Try.prog Try.f4 Rows.refuteValuesRow.domain false) (Rows.refuteValuesSpec.post enc Try.prog Try.f4 false true false false) := by
  refine returnsInHanded_of_change (C := Try.checked) own started (by kernel_rfl) Try.func4
    (ChangeSpec.witness6 (enc := enc) (C := Try.checked) false ⟨#[], #[.int .i64 0], []⟩ 8 (by kernel_rfl) (by kernel_rfl) (by kernel_rfl) (by kernel_rfl)) ?_
  intro W base args ds gs before hval hW _ _
  exact contract H enc W base args ds gs before hval hW

theorem proved : Rows.RefuteValuesSaid :=
  OpenClaim.holds_of_wide 4 Try.f4 rfl rfl rfl rfl rfl rfl rfl ⟨rfl, rfl, rfl, rfl, rfl⟩ rfl rfl rfl rfl rfl (by kernel_rfl) Try.func4 (by kernel_rfl)
    (of_decide_eq_true (by kernel_rfl)) (by unfold Func.isWrapper; first | (rw [if_pos (by decide +kernel)]; kernel_rfl) | (rw [if_neg (by decide +kernel)]; exact ⟨rfl, rfl⟩))
    (fun os started H enc _ => lifted os started H enc)
#print axioms proved
end Go.Proofs.Ytfahnnkppakiiaa.refuteValues
