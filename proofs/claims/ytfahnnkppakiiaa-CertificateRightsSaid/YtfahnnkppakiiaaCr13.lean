/- Walks: rational numbers: Norm of the reference. -/
import Derived.Test.YtfahnnkppakiiaaCr12
import Derived.Test.YtfahnnkppakiiaaCr8

/- Walks: integers out of int, by the program and by the reference. -/
namespace Go.Proofs.Ytfahnnkppakiiaa
open Go.RowKit

set_option maxRecDepth 100000 in
set_option maxHeartbeats 1000000 in
theorem zint_any (z : Int) (w : World) (hi : InInt z) :
    Calls Try.prog 46 #[.int .i64 z] w (RetZ (decide (z < 0)) z.natAbs w) := by
  obtain ⟨hi1, hi2⟩ := hi
  by_cases hneg : z < 0
  · obtain ⟨m, rfl⟩ : ∃ m : Nat, z = -((m : Int) + 1) := ⟨(-(z + 1)).toNat, by omega⟩
    have hna : (-((m : Int) + 1)).natAbs = m + 1 := by omega
    have hd : decide (-((m : Int) + 1) < 0) = true := by rw [decide_eq_true_eq]; omega
    rw [hna, hd]
    have CO := fun W => of_any (m + 1) W (by omega)
    have e1 : ((m + 1 : Nat) : Int) = (m : Int) + 1 := by omega
    simp only [e1] at CO
    have CM := fun a c W => made_any true (m + 1) a c W
    have hd2 : decide (0 < m + 1) = true := by rw [decide_eq_true_eq]; omega
    simp only [hd2, Bool.and_true] at CM
    replace CO := Lib.hid CO; replace CM := Lib.hid CM
    have f1 : -(-((m : Int) + 1) + 1) = (m : Int) := by omega
    have hm : (m : Int) ≤ 9223372036854775807 := by omega
    have hlt : decide (-((m : Int) + 1) < 0) = true := hd
    clear hna hd hd2 e1 hneg
    have hz : Blk (w.alloc (.cells #[.bool false, .slice none 0 0] 31)) w.heap.size 31 #[.bool false, .slice none 0 0] := Blk.new w _ _
    have hb0 : Below w.heap.size w (w.alloc (.cells #[.bool false, .slice none 0 0] 31)) := (Below.refl _ _).alloc (Nat.le_refl _) _
    have hgl := hz.lt
    go_enter Try.func46, Try.ntmps46
    go_wp2_with fail
    revert hz hb0 hgl
    generalize w.alloc (.cells #[.bool false, .slice none 0 0] 31) = w0
    intro hz hb0 hgl
    have hs0 := hb0.size
    refine (CO.out _).mono ?_
    rintro e w1 ⟨a1, c1, rfl, hV, hb1⟩
    have hw1 := below_then hb0 hb1
    have hz1 := hz.below' hb1
    have HV := Lib.hid hV
    clear hV
    go_wp2_with fail
    refine (CM.out _ _ _).mono ?_
    rintro e w3 ⟨rfl, hb3⟩
    have hw3 := below_then hw1 hb3
    have hz3 := hz1.below' hb3
    have z0 := hz3.cell 0; have z1 := hz3.cell 1; have f0 := hz3.frozen 0; have f1 := hz3.frozen 1
    go_wp2
    have hF := blk2 (x := .bool true) (y := .slice a1 (limbs (m+1)).length c1) hz3
    have e0 := hF.cell 0; have e1 := hF.cell 1
    refine bodyPost_ret (v := .agg #[.bool true, .slice a1 (limbs (m+1)).length c1]) (by simp [results, Try.results46, go_sem, e0, e1]) rfl ?_
    exact ⟨a1, c1, rfl, fun V hV => HV.out V ((back2 hV hs0 hgl).below hb3), below2 hw3 (Nat.le_refl _)⟩
  · obtain ⟨m, rfl⟩ : ∃ m : Nat, z = (m : Int) := ⟨z.toNat, by omega⟩
    have hna : ((m : Nat) : Int).natAbs = m := by omega
    have hd : decide (((m : Nat) : Int) < 0) = false := by rw [decide_eq_false_iff_not]; omega
    rw [hna, hd]
    have CO := fun W => of_any m W (by omega)
    have CM := fun a c W => made_any false m a c W
    simp only [Bool.false_and] at CM
    replace CO := Lib.hid CO; replace CM := Lib.hid CM
    clear hna hneg
    have hz : Blk (w.alloc (.cells #[.bool false, .slice none 0 0] 31)) w.heap.size 31 #[.bool false, .slice none 0 0] := Blk.new w _ _
    have hb0 : Below w.heap.size w (w.alloc (.cells #[.bool false, .slice none 0 0] 31)) := (Below.refl _ _).alloc (Nat.le_refl _) _
    have hgl := hz.lt
    go_enter Try.func46, Try.ntmps46
    go_wp2_with fail
    revert hz hb0 hgl
    generalize w.alloc (.cells #[.bool false, .slice none 0 0] 31) = w0
    intro hz hb0 hgl
    have hs0 := hb0.size
    refine (CO.out _).mono ?_
    rintro e w1 ⟨a1, c1, rfl, hV, hb1⟩
    have hw1 := below_then hb0 hb1
    have hz1 := hz.below' hb1
    have HV := Lib.hid hV
    clear hV
    go_wp2_with fail
    refine (CM.out _ _ _).mono ?_
    rintro e w3 ⟨rfl, hb3⟩
    have hw3 := below_then hw1 hb3
    have hz3 := hz1.below' hb3
    have z0 := hz3.cell 0; have z1 := hz3.cell 1; have f0 := hz3.frozen 0; have f1 := hz3.frozen 1
    go_wp2
    have hF := blk2 (x := .bool false) (y := .slice a1 (limbs m).length c1) hz3
    have e0 := hF.cell 0; have e1 := hF.cell 1
    refine bodyPost_ret (v := .agg #[.bool false, .slice a1 (limbs m).length c1]) (by simp [results, Try.results46, go_sem, e0, e1]) rfl ?_
    exact ⟨a1, c1, rfl, fun V hV => HV.out V ((back2 hV hs0 hgl).below hb3), below2 hw3 (Nat.le_refl _)⟩
set_option maxRecDepth 100000 in
set_option maxHeartbeats 1000000 in
theorem zintR_any (z : Int) (w : World) (hi : InInt z) :
    Calls Try.prog 59 #[.int .i64 z] w (RetZ (decide (z < 0)) z.natAbs w) := by
  obtain ⟨hi1, hi2⟩ := hi
  by_cases hneg : z < 0
  · obtain ⟨m, rfl⟩ : ∃ m : Nat, z = -((m : Int) + 1) := ⟨(-(z + 1)).toNat, by omega⟩
    have hna : (-((m : Int) + 1)).natAbs = m + 1 := by omega
    have hd : decide (-((m : Int) + 1) < 0) = true := by rw [decide_eq_true_eq]; omega
    rw [hna, hd]
    have CO := fun W => of01_any m W (by omega)
    have CO1 := fun W => of01_any 1 W (by omega)
    have hml : (limbs m).length ≤ 4 := limbs_len_le (by have : (65536 : Nat) ^ 4 = 18446744073709551616 := by decide
                                                        omega)
    have hml1 : (limbs 1).length ≤ 4 := limbs_len_le (by decide)
    have hml2 : (limbs (m + 1)).length ≤ 5 := limbs_len_le (by have : (65536 : Nat) ^ 5 = 1208925819614629174706176 := by decide
                                                               omega)
    have CA := fun a1 a2 c1 c2 W h1 h2 => add01_any (limbs m) (limbs 1) m 1 a1 a2 c1 c2 W h1 h2 (val_limbs _) (val_limbs _) (by omega) (by omega)
    have CF := fun a c W h => zofR_any true (limbs (m + 1)) (m + 1) a c W h (val_limbs _) (by omega)
    have hd2 : decide (0 < m + 1) = true := by rw [decide_eq_true_eq]; omega
    simp only [hd2, Bool.and_true] at CF
    replace CO := Lib.hid CO; replace CO1 := Lib.hid CO1; replace CA := Lib.hid CA; replace CF := Lib.hid CF
    have f1 : -(-((m : Int) + 1) + 1) = (m : Int) := by omega
    have hm : (m : Int) ≤ 9223372036854775807 := by omega
    clear hna hd2 hneg hml hml1 hml2
    have hz : Blk (w.alloc (.cells #[.bool false, .slice none 0 0] 31)) w.heap.size 31 #[.bool false, .slice none 0 0] := Blk.new w _ _
    have hb0 : Below w.heap.size w (w.alloc (.cells #[.bool false, .slice none 0 0] 31)) := (Below.refl _ _).alloc (Nat.le_refl _) _
    have hgl := hz.lt
    go_enter Try.func59, Try.ntmps59
    go_wp2_with fail
    revert hz hb0 hgl
    generalize w.alloc (.cells #[.bool false, .slice none 0 0] 31) = w0
    intro hz hb0 hgl
    have hs0 := hb0.size
    refine (CO.out _).mono ?_
    rintro e w1 ⟨a3, c3, rfl, hV3, hb1⟩
    have hw1 := below_then hb0 hb1
    have hz1 := hz.below' hb1
    have HV3 := Lib.hid hV3
    clear hV3
    go_wp2_with fail
    refine (CO1.out _).mono ?_
    rintro e w2 ⟨a4, c4, rfl, hV4, hb2⟩
    have hw2 := below_then hw1 hb2
    have hz2 := hz1.below' hb2
    have CA2 := CA.out _ _ _ _ w2 (HV3.out w2 ((New.refl _ _).below hb2)) (hV4 w2 (New.refl _ _))
    replace CA2 := Lib.hid CA2
    clear hV4
    go_wp2_with fail
    refine CA2.out.mono ?_
    rintro e w4 ⟨a5, c5, rfl, hV5, hb4⟩
    have hw4 := below_then hw2 hb4
    have hz4 := hz2.below' hb4
    have CF2 := CF.out _ _ w4 (hV5 w4 (New.refl _ _))
    replace CF2 := Lib.hid CF2
    clear hV5
    go_wp2_with fail
    refine CF2.out.mono ?_
    rintro e w3 ⟨a1, c1, rfl, hV, hb3⟩
    have hw3 := below_then hw4 hb3
    have hz3 := hz4.below' hb3
    have hg4 := hz4.lt
    have HV := Lib.hid hV
    clear hV
    have z0 := hz3.cell 0; have z1 := hz3.cell 1; have f0 := hz3.frozen 0; have f1 := hz3.frozen 1
    go_wp2
    have hF := blk2 (x := .bool true) (y := .slice a1 (limbs (m+1)).length c1) hz3
    have e0 := hF.cell 0; have e1 := hF.cell 1
    refine bodyPost_ret (v := .agg #[.bool true, .slice a1 (limbs (m+1)).length c1]) (by simp [results, Try.results59, go_sem, e0, e1]) rfl ?_
    exact ⟨a1, c1, rfl, fun V hV => HV.out V (back2 hV hw4.size hg4), below2 hw3 (Nat.le_refl _)⟩
  · obtain ⟨m, rfl⟩ : ∃ m : Nat, z = (m : Int) := ⟨z.toNat, by omega⟩
    have hna : ((m : Nat) : Int).natAbs = m := by omega
    have hd : decide (((m : Nat) : Int) < 0) = false := by rw [decide_eq_false_iff_not]; omega
    rw [hna, hd]
    have hml : (limbs m).length ≤ 4 := limbs_len_le (by have : (65536 : Nat) ^ 4 = 18446744073709551616 := by decide
                                                        omega)
    have CO := fun W => of01_any m W (by omega)
    have CF := fun a c W h => zofR_any false (limbs m) m a c W h (val_limbs _) (by omega)
    simp only [Bool.false_and] at CF
    replace CO := Lib.hid CO; replace CF := Lib.hid CF
    clear hna hneg hml
    have hz : Blk (w.alloc (.cells #[.bool false, .slice none 0 0] 31)) w.heap.size 31 #[.bool false, .slice none 0 0] := Blk.new w _ _
    have hb0 : Below w.heap.size w (w.alloc (.cells #[.bool false, .slice none 0 0] 31)) := (Below.refl _ _).alloc (Nat.le_refl _) _
    have hgl := hz.lt
    go_enter Try.func59, Try.ntmps59
    go_wp2_with fail
    revert hz hb0 hgl
    generalize w.alloc (.cells #[.bool false, .slice none 0 0] 31) = w0
    intro hz hb0 hgl
    have hs0 := hb0.size
    refine (CO.out _).mono ?_
    rintro e w4 ⟨a3, c3, rfl, hV3, hb1⟩
    have hw4 := below_then hb0 hb1
    have hz4 := hz.below' hb1
    have CF2 := CF.out _ _ w4 (hV3 w4 (New.refl _ _))
    replace CF2 := Lib.hid CF2
    clear hV3
    go_wp2_with fail
    refine CF2.out.mono ?_
    rintro e w3 ⟨a1, c1, rfl, hV, hb3⟩
    have hw3 := below_then hw4 hb3
    have hz3 := hz4.below' hb3
    have hg4 := hz4.lt
    have HV := Lib.hid hV
    clear hV
    have z0 := hz3.cell 0; have z1 := hz3.cell 1; have f0 := hz3.frozen 0; have f1 := hz3.frozen 1
    go_wp2
    have hF := blk2 (x := .bool false) (y := .slice a1 (limbs m).length c1) hz3
    have e0 := hF.cell 0; have e1 := hF.cell 1
    refine bodyPost_ret (v := .agg #[.bool false, .slice a1 (limbs m).length c1]) (by simp [results, Try.results59, go_sem, e0, e1]) rfl ?_
    exact ⟨a1, c1, rfl, fun V hV => HV.out V (back2 hV hw4.size hg4), below2 hw3 (Nat.le_refl _)⟩
end Go.Proofs.Ytfahnnkppakiiaa

/- Walks: products and comparisons of integers, by the reference. -/
namespace Go.Proofs.Ytfahnnkppakiiaa
open Go.RowKit

/-- an integer out of sign and size -/
def zval (neg : Bool) (n : Nat) : Int := if neg = true then -(n : Int) else n
/-- Go's order of two integers -/
def cmpI (a b : Int) : Int := if a < b then -1 else if b < a then 1 else 0
theorem cmpI_zero {a b : Int} : cmpI a b = 0 ↔ a = b := by unfold cmpI; split <;> (try split) <;> omega

set_option maxRecDepth 100000 in
set_option maxHeartbeats 2000000 in
theorem zmulR_any (neg1 neg2 : Bool) (l m : List Int) (n1 n2 : Nat) (a a' : Option Addr) (c c' : Nat) (w : World) (h : NatR w a c l) (h' : NatR w a' c' m) (hn : val l = n1) (hk : val m = n2) (hl : l.length ≤ 2000000) (hm : m.length ≤ 2000000) :
    Calls Try.prog 56 #[.agg #[.bool neg1, .slice a l.length c], .agg #[.bool neg2, .slice a' m.length c']] w (RetZ ((neg1 != neg2) && decide (0 < n1 * n2)) (n1 * n2) w) := by
  have hll := limbs_len_val h.u16
  have hlm := limbs_len_val h'.u16
  rw [hn] at hll
  rw [hk] at hlm
  have hp := limbs_len_mul n1 n2
  have CM := fun W (hW : Below w.heap.size w W) => mul01_any l m n1 n2 a a' c c' W (h.ext (Ext.below hW)) (h'.ext (Ext.below hW)) hn hk (by omega) (by omega)
  have CF := fun a c W h => zofR_any (neg1 != neg2) (limbs (n1 * n2)) (n1 * n2) a c W h (val_limbs _) (by omega)
  obtain ⟨R, hR⟩ : ∃ q, ((neg1 != neg2) && decide (0 < n1 * n2)) = q := ⟨_, rfl⟩
  rw [hR] at CF ⊢
  have hR0 : True := trivial
  revert CM CF
  generalize n1 * n2 = n
  intro CM CF
  replace CM := Lib.hid CM; replace CF := Lib.hid CF
  have hz : Blk (((w.alloc (.cells #[.bool neg1, .slice a l.length c] 31)).alloc (.cells #[.bool neg2, .slice a' m.length c'] 31)).alloc (.cells #[.bool false, .slice none 0 0] 31)) (w.heap.size + 1 + 1) 31 #[.bool false, .slice none 0 0] := blk_at2 w _ _ _ _
  have hx1 : Blk (((w.alloc (.cells #[.bool neg1, .slice a l.length c] 31)).alloc (.cells #[.bool neg2, .slice a' m.length c'] 31)).alloc (.cells #[.bool false, .slice none 0 0] 31)) w.heap.size 31 #[.bool neg1, .slice a l.length c] := ((Blk.new w _ _).alloc _).alloc _
  have hx2 : Blk (((w.alloc (.cells #[.bool neg1, .slice a l.length c] 31)).alloc (.cells #[.bool neg2, .slice a' m.length c'] 31)).alloc (.cells #[.bool false, .slice none 0 0] 31)) (w.heap.size + 1) 31 #[.bool neg2, .slice a' m.length c'] := (blk_at1 w _ _ _).alloc _
  have hb0 : Below w.heap.size w (((w.alloc (.cells #[.bool neg1, .slice a l.length c] 31)).alloc (.cells #[.bool neg2, .slice a' m.length c'] 31)).alloc (.cells #[.bool false, .slice none 0 0] 31)) := by go_grown
  have hgB : w.heap.size ≤ w.heap.size + 1 + 1 := by omega
  clear h h' hn hk hll hlm hp hR
  go_enter Try.func56, Try.ntmps56
  go_wp2
  revert hz hx1 hx2 hb0 hgB
  generalize ((w.alloc (.cells #[.bool neg1, .slice a l.length c] 31)).alloc (.cells #[.bool neg2, .slice a' m.length c'] 31)).alloc (.cells #[.bool false, .slice none 0 0] 31) = w0
  generalize w.heap.size + 1 + 1 = g
  intro hz hx1 hx2 hb0 hgB
  have k0 := held (hx1.cell 0); have k1 := held (hx1.cell 1); have k2 := held (hx2.cell 0); have k3 := held (hx2.cell 1)
  have s0 : Below w0.heap.size w0 w0.drew := (Below.refl _ _).drew
  have hgl := hz.lt
  have HR := Lib.hid hR0
  clear hR0
  cases neg1 <;> cases neg2
  all_goals
    refine wp_region_mix (S := Below w0.heap.size w0) [(0, .q), (1, .q), (2, .q), (3, .q), (4, .q), (5, .q), (6, .q), (7, .q), (8, .q), (9, .l), (10, .t), (11, .t)] (by kernel_rfl) (by kernel_rfl) (by kernel_rfl) (fun d _ _ _ _ h => by cases d <;> exact h) (s0) ?_
    iterate 9 (refine wpMix_q rfl rfl (fun K hK => ?_); apply Exists.intro; refine ⟨fun w' hw' => ?_, ?_⟩; (focus (go_simp; try rfl)); go_simp; refine hK _ _ ?_; clear hK K)
    refine wpMix_l rfl rfl (fun K hK => ?_)
    go_simp
    refine (CM.out _ (below_then hb0 s0)).mono ?_
    rintro r w1 ⟨a3, c3, rfl, hV3, hb1⟩
    dsimp only
    refine hK.out _ _ (below_then s0 hb1) (fun _ => ?_)
    clear hK K
    have s1 := below_then s0 hb1
    have hr3 := hV3 w1 (New.refl _ _)
    clear hV3
    refine wpMix_t rfl rfl (fun K hK => ?_)
    go_simp
    refine (CF.out _ _ _ hr3).mono ?_
    rintro r w2 ⟨a1, c1, rfl, hV, hb2⟩
    dsimp only
    refine hK.out _ _ ?_
    clear hK K
    have s2 := below_then s1 hb2
    have hz3 := hz.below' s2
    have z0 := hz3.cell 0; have z1 := hz3.cell 1; have f0 := hz3.frozen 0; have f1 := hz3.frozen 1
    have hw2 := below_then hb0 s2
    have hs1 := (below_then hb0 s1).size
    have hg1 : g < w1.heap.size := Nat.lt_of_lt_of_le hgl s1.size
    have HV := Lib.hid hV
    clear hV hr3 k0 k1 k2 k3
    refine wpMix_t rfl rfl (fun K hK => ?_)
    go_simp
    refine hK.out _ _ ?_
    clear hK K
    refine wpMix_nil ?_
    go_wp2
    have hF := blk2 (x := .bool R) (y := .slice a1 (limbs n).length c1) hz3
    have e0 := hF.cell 0; have e1 := hF.cell 1
    refine bodyPost_ret (v := .agg #[.bool R, .slice a1 (limbs n).length c1]) (by simp [results, Try.results56, go_sem, e0, e1]) rfl ?_
    exact ⟨a1, c1, rfl, fun V hV => HV.out V (back2 hV hs1 hg1), below2 hw2 hgB⟩
end Go.Proofs.Ytfahnnkppakiiaa

/- Walk: comparison of integers, by the reference. -/
namespace Go.Proofs.Ytfahnnkppakiiaa
open Go.RowKit

theorem zcmp_cases (neg1 neg2 : Bool) (n1 n2 : Nat) {b1 b2 : Bool} (h1 : (neg1 && decide (0 < n1)) = b1) (h2 : (neg2 && decide (0 < n2)) = b2) :
    cmpI (zval neg1 n1) (zval neg2 n2) = if (b1 && !b2) = true then -1 else if (b2 && !b1) = true then 1 else if b1 = true then cmpN n2 n1 else cmpN n1 n2 := by
  subst h1 h2
  unfold cmpI zval cmpN
  cases neg1 <;> cases neg2 <;> by_cases p1 : 0 < n1 <;> by_cases p2 : 0 < n2 <;> simp [p1, p2]
  all_goals (repeat' split) <;> omega

set_option maxRecDepth 100000 in
set_option maxHeartbeats 2000000 in
theorem zcmpR_any (neg1 neg2 : Bool) (l m : List Int) (n1 n2 : Nat) (a a' : Option Addr) (c c' : Nat) (w : World) (h : NatR w a c l) (h' : NatR w a' c' m) (hn : val l = n1) (hk : val m = n2) (hl : l.length ≤ 4000000) (hm : m.length ≤ 4000000) :
    Calls Try.prog 55 #[.agg #[.bool neg1, .slice a l.length c], .agg #[.bool neg2, .slice a' m.length c']] w fun e w' => e = .returned (.int .i64 (cmpI (zval neg1 n1) (zval neg2 n2))) ∧ Below w.heap.size w w' := by
  have hll := limbs_len_val h.u16
  have hlm := limbs_len_val h'.u16
  rw [hn] at hll
  rw [hk] at hlm
  have C1 := fun W (hW : Below w.heap.size w W) => znormR_any neg1 l n1 a c W (h.ext (Ext.below hW)) hn (by omega)
  have C2 := fun W (hW : Below w.heap.size w W) => znormR_any neg2 m n2 a' c' W (h'.ext (Ext.below hW)) hk (by omega)
  have CA := fun a1 a2 c1 c2 W h1 h2 => cmp01_any (limbs n1) (limbs n2) a1 a2 c1 c2 W h1 h2 (by omega) (by omega)
  have CB := fun a1 a2 c1 c2 W h1 h2 => cmp01_any (limbs n2) (limbs n1) a1 a2 c1 c2 W h1 h2 (by omega) (by omega)
  simp only [val_limbs] at CA CB
  obtain ⟨b1, hb1'⟩ : ∃ q, (neg1 && decide (0 < n1)) = q := ⟨_, rfl⟩
  obtain ⟨b2, hb2'⟩ : ∃ q, (neg2 && decide (0 < n2)) = q := ⟨_, rfl⟩
  have hres := zcmp_cases neg1 neg2 n1 n2 hb1' hb2'
  rw [hb1'] at C1
  rw [hb2'] at C2
  obtain ⟨R, hR⟩ : ∃ q, cmpI (zval neg1 n1) (zval neg2 n2) = q := ⟨_, rfl⟩
  rw [hR] at hres ⊢
  have HRES := Lib.hid hres
  replace C1 := Lib.hid C1; replace C2 := Lib.hid C2; replace CA := Lib.hid CA; replace CB := Lib.hid CB
  have hx1 : Blk ((w.alloc (.cells #[.bool neg1, .slice a l.length c] 31)).alloc (.cells #[.bool neg2, .slice a' m.length c'] 31)) w.heap.size 31 #[.bool neg1, .slice a l.length c] := (Blk.new w _ _).alloc _
  have hx2 : Blk ((w.alloc (.cells #[.bool neg1, .slice a l.length c] 31)).alloc (.cells #[.bool neg2, .slice a' m.length c'] 31)) (w.heap.size + 1) 31 #[.bool neg2, .slice a' m.length c'] := blk_at1 w _ _ _
  have hb0 : Below w.heap.size w ((w.alloc (.cells #[.bool neg1, .slice a l.length c] 31)).alloc (.cells #[.bool neg2, .slice a' m.length c'] 31)) := by go_grown
  have hgB : w.heap.size < w.heap.size + 1 := by omega
  clear h h' hn hk hll hlm hR hres hb1' hb2'
  go_enter Try.func55, Try.ntmps55
  go_wp2
  revert hx1 hx2 hb0 hgB
  generalize (w.alloc (.cells #[.bool neg1, .slice a l.length c] 31)).alloc (.cells #[.bool neg2, .slice a' m.length c'] 31) = w0
  generalize w.heap.size + 1 = g
  intro hx1 hx2 hb0 hgB
  have k0 := held (hx1.cell 0); have k1 := held (hx1.cell 1); have k2 := held (hx2.cell 0); have k3 := held (hx2.cell 1)
  have s0 : Below w0.heap.size w0 w0.drew := (Below.refl _ _).drew
  have hgl := hx2.lt
  refine wp_region_mix (S := Below w0.heap.size w0) [(0, .q), (2, .q), (1, .l), (3, .t), (4, .t), (5, .t)] (by kernel_rfl) (by kernel_rfl) (by kernel_rfl) (fun d _ _ _ _ h => by cases d <;> exact h) (s0) ?_
  iterate 2 (refine wpMix_q rfl rfl (fun K hK => ?_); apply Exists.intro; refine ⟨fun w' hw' => ?_, ?_⟩; (focus (go_simp; try rfl)); go_simp; refine hK _ _ ?_; clear hK K)
  refine wpMix_l rfl rfl (fun K hK => ?_)
  go_simp
  refine (C1.out _ (below_then hb0 s0)).mono ?_
  rintro r w1 ⟨a1, c1, rfl, hV1, hb1⟩
  dsimp only
  refine hK.out _ _ (below_then s0 hb1) (fun _ => ?_)
  clear hK K
  have s1 := below_then s0 hb1
  refine wpMix_t rfl rfl (fun K hK => ?_)
  go_simp
  refine (C2.out _ (below_then hb0 s1)).mono ?_
  rintro r w2 ⟨a2, c2, rfl, hV2, hb2⟩
  dsimp only
  refine hK.out _ _ ?_
  clear hK K
  have s2 := below_then s1 hb2
  have hy1 := hx1.below' s2
  have hy2 := hx2.below' s2
  have z0 := hy1.cell 0; have z1 := hy1.cell 1; have z2 := hy2.cell 0; have z3 := hy2.cell 1
  have f0 := hy1.frozen 0; have f1 := hy1.frozen 1; have f2 := hy2.frozen 0; have f3 := hy2.frozen 1
  have hne : ¬ g = w.heap.size := by omega
  have hne2 : ¬ w.heap.size = g := by omega
  have HV1 := Lib.hid hV1
  have HV2 := Lib.hid hV2
  have hw2 := below_then hb0 s2
  have hs1 := s1.size
  have hs2 := s2.size
  clear hV1 hV2 k0 k1 k2 k3
  refine wpMix_t rfl rfl (fun K hK => ?_)
  go_simp
  refine hK.out _ _ ?_
  clear hK K
  refine wpMix_t rfl rfl (fun K hK => ?_)
  go_simp
  refine hK.out _ _ ?_
  clear hK K
  refine wpMix_nil ?_
  have hF1 := ((blk2 (x := .bool b1) (y := .slice a1 (limbs n1).length c1) hy1).far (p := ⟨g, 0, none⟩) hne2 (.bool b2)).far (p := ⟨g, 1, none⟩) hne2 (.slice a2 (limbs n2).length c2)
  have hF2 := blk2 (x := .bool b2) (y := .slice a2 (limbs n2).length c2) ((hy2.far (p := ⟨w.heap.size, 0, none⟩) hne (.bool b1)).far (p := ⟨w.heap.size, 1, none⟩) hne (.slice a1 (limbs n1).length c1))
  have hwF := below2 (x := .bool b2) (y := .slice a2 (limbs n2).length c2) (below2 (x := .bool b1) (y := .slice a1 (limbs n1).length c1) hw2 (Nat.le_refl _)) (Nat.le_of_lt hgB)
  have hN := New.refl w0.heap.size ((((w2.setCell ⟨w.heap.size, 0, none⟩ (.bool b1)).setCell ⟨w.heap.size, 1, none⟩ (.slice a1 (limbs n1).length c1)).setCell ⟨g, 0, none⟩ (.bool b2)).setCell ⟨g, 1, none⟩ (.slice a2 (limbs n2).length c2))
  have hN2 := back2 (back2 hN (Nat.le_refl _) hgl) (Nat.le_refl _) hx1.lt
  revert hF1 hF2 hwF hN2
  generalize (((w2.setCell ⟨w.heap.size, 0, none⟩ (.bool b1)).setCell ⟨w.heap.size, 1, none⟩ (.slice a1 (limbs n1).length c1)).setCell ⟨g, 0, none⟩ (.bool b2)).setCell ⟨g, 1, none⟩ (.slice a2 (limbs n2).length c2) = wF
  intro hF1 hF2 hwF hN2
  have r2 := HV2.out wF (hN2.base hs1)
  have r1 := HV1.out wF (hN2.below hb2)
  clear hN hy1 hy2 z0 z1 z2 z3 f0 f1 f2 f3 hx1 hx2 HV1 HV2 s0 s1 s2 hb1 hb2
  have z0 := hF1.cell 0; have z1 := hF1.cell 1; have z2 := hF2.cell 0; have z3 := hF2.cell 1
  have CA2 := CA.out _ _ _ _ wF r1 r2
  have CB2 := CB.out _ _ _ _ wF r2 r1
  replace CA2 := Lib.hid CA2
  replace CB2 := Lib.hid CB2
  clear r1 r2
  cases b1 <;> cases b2
  · obtain rfl : R = cmpN n1 n2 := by simpa using HRES.out
    go_wp2_with fail
    refine CA2.out.mono ?_
    rintro e w5 ⟨rfl, rfl⟩
    go_wp2
    go_ret
    exact ⟨rfl, hwF⟩
  · obtain rfl : R = 1 := by simpa using HRES.out
    go_wp2
    go_ret
    exact ⟨rfl, hwF⟩
  · obtain rfl : R = -1 := by simpa using HRES.out
    go_wp2
    go_ret
    exact ⟨rfl, hwF⟩
  · obtain rfl : R = cmpN n2 n1 := by simpa using HRES.out
    go_wp2_with fail
    refine CB2.out.mono ?_
    rintro e w5 ⟨rfl, rfl⟩
    go_wp2
    go_ret
    exact ⟨rfl, hwF⟩
end Go.Proofs.Ytfahnnkppakiiaa

/- Walks: fractions in lowest terms, by the reference. -/
namespace Go.Proofs.Ytfahnnkppakiiaa
open Go.RowKit

/-- what a call gives that makes a rational number -/
def RetQ (neg : Bool) (n d : Nat) (w : World) (e : Ending) (w' : World) : Prop := ∃ na nc da dc, e = .returned (.agg #[.bool neg, .slice na (limbs n).length nc, .slice da (limbs d).length dc]) ∧
  (∀ V, New w.heap.size w' V → NatR V na nc (limbs n)) ∧ (∀ V, New w.heap.size w' V → NatR V da dc (limbs d)) ∧ Below w.heap.size w w'
set_option maxRecDepth 100000 in
set_option maxHeartbeats 2000000 in
theorem over_zero (neg : Bool) (l m : List Int) (a a' : Option Addr) (c c' : Nat) (w : World) (h' : NatR w a' c' m) (hk : val m = 0) (hm : m.length ≤ 2000000) :
    Calls Try.prog 58 #[.agg #[.bool neg, .slice a l.length c], .slice a' m.length c'] w (RetQ false 0 1 w) := by
  have CN := fun W (hW : Below w.heap.size w W) => norm01_any m a' c' W (h'.ext (Ext.below hW)) (by omega)
  rw [hk, limbs_zero] at CN
  have CO := fun W => of01_any 1 W (by omega)
  replace CN := Lib.hid CN; replace CO := Lib.hid CO
  have hz : Blk ((w.alloc (.cells #[.bool neg, .slice a l.length c] 31)).alloc (.cells #[.bool false, .slice none 0 0, .slice none 0 0] 33)) (w.heap.size + 1) 33 #[.bool false, .slice none 0 0, .slice none 0 0] := blk_at1 w _ _ _
  have hb0 : Below w.heap.size w ((w.alloc (.cells #[.bool neg, .slice a l.length c] 31)).alloc (.cells #[.bool false, .slice none 0 0, .slice none 0 0] 33)) := by go_grown
  have hgB : w.heap.size ≤ w.heap.size + 1 := by omega
  unfold RetQ
  rw [limbs_zero]
  clear h' hk
  go_enter Try.func58, Try.ntmps58
  go_wp2_with fail
  have hgl := hz.lt
  revert hz hb0 hgB hgl
  generalize (w.alloc (.cells #[.bool neg, .slice a l.length c] 31)).alloc (.cells #[.bool false, .slice none 0 0, .slice none 0 0] 33) = w0
  generalize w.heap.size + 1 = g
  intro hz hb0 hgB hgl
  refine (CN.out _ hb0).mono ?_
  rintro e w1 ⟨a3, c3, rfl, _, hb1⟩
  have hw1 := below_then hb0 hb1
  have hz1 := hz.below' hb1
  go_wp2_with fail
  refine (CO.out _).mono ?_
  rintro e w2 ⟨a1, c1, rfl, hV, hb2⟩
  have hw2 := below_then hw1 hb2
  have hz2 := hz1.below' hb2
  have hg1 := hz1.lt
  have HV := Lib.hid hV
  have z0 := hz2.cell 0; have z1 := hz2.cell 1; have z2 := hz2.cell 2; have f0 := hz2.frozen 0; have f1 := hz2.frozen 1; have f2 := hz2.frozen 2
  clear hV
  go_wp2
  have hF := blk3 (x := .bool false) (y := .slice none 0 0) (z := .slice a1 (limbs 1).length c1) hz2
  have e0 := hF.cell 0; have e1 := hF.cell 1; have e2 := hF.cell 2
  refine bodyPost_ret (v := .agg #[.bool false, .slice none 0 0, .slice a1 (limbs 1).length c1]) (by simp [results, Try.results58, go_sem, e0, e1, e2]) rfl ?_
  exact ⟨none, 0, a1, c1, rfl, fun _ _ => SlR.nil, fun V hV => HV.out V (back3 hV hw1.size hg1), below3 hw2 hgB⟩
set_option maxRecDepth 100000 in
set_option maxHeartbeats 4000000 in
theorem over_any (neg : Bool) (l m : List Int) (n d : Nat) (a a' : Option Addr) (c c' : Nat) (w : World) (h : NatR w a c l) (h' : NatR w a' c' m) (hn : val l = n) (hk : val m = d) (hl : l.length ≤ 2000000) (hm : m.length ≤ 2000000) (h0 : 0 < d) :
    Calls Try.prog 58 #[.agg #[.bool neg, .slice a l.length c], .slice a' m.length c'] w (RetQ (neg && decide (0 < n / Nat.gcd n d)) (n / Nat.gcd n d) (d / Nat.gcd n d) w) := by
  have hll := limbs_len_val h.u16
  have hlm := limbs_len_val h'.u16
  rw [hn] at hll
  rw [hk] at hlm
  have hgp : 0 < Nat.gcd n d := Nat.gcd_pos_of_pos_right n h0
  have hgd : Nat.gcd n d ≤ d := Nat.le_of_dvd h0 (Nat.gcd_dvd_right n d)
  have hgl0 := limbs_len_mono hgd
  have hnl := limbs_len_mono (Nat.div_le_self n (Nat.gcd n d))
  have CN := fun W (hW : Below w.heap.size w W) => norm01_any m a' c' W (h'.ext (Ext.below hW)) (by omega)
  rw [hk] at CN
  have CG := fun W (hW : Below w.heap.size w W) => gcd01_any l m n d a a' c c' W (h.ext (Ext.below hW)) (h'.ext (Ext.below hW)) hn hk hl hm
  have CD1 := fun ag cg W (hW : Below w.heap.size w W) hr => divMod01_any l (limbs (Nat.gcd n d)) n (Nat.gcd n d) a ag c cg W (h.ext (Ext.below hW)) hr hn (val_limbs _) hl (by omega) hgp
  have CD2 := fun ag cg W (hW : Below w.heap.size w W) hr => divMod01_any m (limbs (Nat.gcd n d)) d (Nat.gcd n d) a' ag c' cg W (h'.ext (Ext.below hW)) hr hk (val_limbs _) hm (by omega) hgp
  have CZ := fun ag cg W hr => znormR_any neg (limbs (n / Nat.gcd n d)) (n / Nat.gcd n d) ag cg W hr (val_limbs _) (by omega)
  have hne : (((limbs d).length : Int) == 0) = false := by rw [beq_eq_false_iff_ne]; have := limbs_len_pos.2 h0; omega
  obtain ⟨R, hR⟩ : ∃ q, (neg && decide (0 < n / Nat.gcd n d)) = q := ⟨_, rfl⟩
  rw [hR] at CZ ⊢
  unfold RetDM at CD1 CD2
  obtain ⟨gg, hgg⟩ : ∃ q, Nat.gcd n d = q := ⟨_, rfl⟩
  simp only [hgg] at CG CD1 CD2 CZ ⊢
  obtain ⟨N, hN⟩ : ∃ q, n / gg = q := ⟨_, rfl⟩
  obtain ⟨D, hD⟩ : ∃ q, d / gg = q := ⟨_, rfl⟩
  simp only [hN] at CD1 CZ ⊢
  simp only [hD] at CD2 ⊢
  replace CN := Lib.hid CN; replace CG := Lib.hid CG; replace CD1 := Lib.hid CD1; replace CD2 := Lib.hid CD2; replace CZ := Lib.hid CZ
  have hz : Blk ((w.alloc (.cells #[.bool neg, .slice a l.length c] 31)).alloc (.cells #[.bool false, .slice none 0 0, .slice none 0 0] 33)) (w.heap.size + 1) 33 #[.bool false, .slice none 0 0, .slice none 0 0] := blk_at1 w _ _ _
  have hx : Blk ((w.alloc (.cells #[.bool neg, .slice a l.length c] 31)).alloc (.cells #[.bool false, .slice none 0 0, .slice none 0 0] 33)) w.heap.size 31 #[.bool neg, .slice a l.length c] := (Blk.new w _ _).alloc _
  have hb0 : Below w.heap.size w ((w.alloc (.cells #[.bool neg, .slice a l.length c] 31)).alloc (.cells #[.bool false, .slice none 0 0, .slice none 0 0] 33)) := by go_grown
  have hgB : w.heap.size ≤ w.heap.size + 1 := by omega
  clear h h' hn hk hll hlm hgp hgd hgl0 hnl hR hgg hN hD
  go_enter Try.func58, Try.ntmps58
  go_wp2_with fail
  have hgl := hz.lt
  revert hz hx hb0 hgB hgl
  generalize (w.alloc (.cells #[.bool neg, .slice a l.length c] 31)).alloc (.cells #[.bool false, .slice none 0 0, .slice none 0 0] 33) = w0
  generalize w.heap.size + 1 = g
  intro hz hx hb0 hgB hgl
  refine (CN.out _ hb0).mono ?_
  rintro e w1 ⟨a3, c3, rfl, _, hb1⟩
  have hw1 := below_then hb0 hb1
  have hx1 := hx.below' hb1
  have hz1 := hz.below' hb1
  have z0 := hx1.cell 0; have z1 := hx1.cell 1
  clear hz hx hb1 hgl
  go_wp2_with fail
  refine (CG.out _ hw1).mono ?_
  rintro e w2 ⟨a4, c4, rfl, hV4, hb2⟩
  have hw2 := below_then hw1 hb2
  have hx2 := hx1.below' hb2
  have hz2 := hz1.below' hb2
  have hr4 := hV4 w2 (New.refl _ _)
  have CE1 := CD1.out a4 c4 w2 hw2 hr4
  replace CE1 := Lib.hid CE1
  clear z0 z1 hV4 hx1 hz1
  have z0 := hx2.cell 0; have z1 := hx2.cell 1
  go_wp2_with fail
  refine CE1.out.mono ?_
  rintro e w3 ⟨a5, c5, _, _, rfl, hV5, _, hb3⟩
  have hw3 := below_then hw2 hb3
  have hx3 := hx2.below' hb3
  have hz3 := hz2.below' hb3
  have hg3 := hz3.lt
  have HV5 := Lib.hid hV5
  have CE2 := CD2.out a4 c4 w3 hw3 (hr4.ext (Ext.below hb3))
  replace CE2 := Lib.hid CE2
  clear z0 z1 hV5 hx2 hz2 hr4 CE1
  have z0 := hx3.cell 0; have z1 := hx3.cell 1
  go_wp2_with fail
  refine CE2.out.mono ?_
  rintro e w4 ⟨a6, c6, _, _, rfl, hV6, _, hb4⟩
  have hw4 := below_then hw3 hb4
  have hx4 := hx3.below' hb4
  have hz4 := hz3.below' hb4
  have HV6 := Lib.hid hV6
  have CF := CZ.out a5 c5 w4 (HV5.out w4 ((New.refl _ _).below hb4))
  replace CF := Lib.hid CF
  clear z0 z1 hV6 hx3 hz3 CE2
  have z0 := hx4.cell 0; have z1 := hx4.cell 1
  go_wp2_with fail
  refine CF.out.mono ?_
  rintro e w5 ⟨a7, c7, rfl, hV7, hb5⟩
  have hw5 := below_then hw4 hb5
  have hz5 := hz4.below' hb5
  have HV7 := Lib.hid hV7
  have hg4 := hz4.lt
  clear z0 z1 hV7 hx4 CF
  have z0 := hz5.cell 0; have z1 := hz5.cell 1; have z2 := hz5.cell 2; have f0 := hz5.frozen 0; have f1 := hz5.frozen 1; have f2 := hz5.frozen 2
  go_wp2
  have hF := blk3 (x := .bool R) (y := .slice a7 (limbs N).length c7) (z := .slice a6 (limbs D).length c6) hz5
  have e0 := hF.cell 0; have e1 := hF.cell 1; have e2 := hF.cell 2
  refine bodyPost_ret (v := .agg #[.bool R, .slice a7 (limbs N).length c7, .slice a6 (limbs D).length c6]) (by simp [results, Try.results58, go_sem, e0, e1, e2]) rfl ?_
  exact ⟨a7, c7, a6, c6, rfl, fun V hV => HV7.out V (back3 hV hw4.size hg4), fun V hV => HV6.out V ((back3 hV hw3.size hg3).below hb5), below3 hw5 hgB⟩
end Go.Proofs.Ytfahnnkppakiiaa

/- Walks: rational numbers: Norm of the reference. -/
namespace Go.Proofs.Ytfahnnkppakiiaa
open Go.RowKit

/-- a fraction in lowest terms: sign, numerator, denominator -/
def lowest (neg : Bool) (n d : Nat) : Bool × Nat × Nat := if d = 0 then (false, 0, 1) else (neg && decide (0 < n / Nat.gcd n d), n / Nat.gcd n d, d / Nat.gcd n d)
def RetF (t : Bool × Nat × Nat) (w : World) (e : Ending) (w' : World) : Prop := RetQ t.1 t.2.1 t.2.2 w e w'
theorem over_all (neg : Bool) (l m : List Int) (n d : Nat) (a a' : Option Addr) (c c' : Nat) (w : World) (h : NatR w a c l) (h' : NatR w a' c' m) (hn : val l = n) (hk : val m = d) (hl : l.length ≤ 2000000) (hm : m.length ≤ 2000000) :
    Calls Try.prog 58 #[.agg #[.bool neg, .slice a l.length c], .slice a' m.length c'] w (RetF (lowest neg n d) w) := by
  unfold RetF lowest
  by_cases h0 : d = 0
  · rw [if_pos h0]
    exact over_zero neg l m a a' c c' w h' (by rw [hk, h0]) hm
  · rw [if_neg h0]
    exact over_any neg l m n d a a' c c' w h h' hn hk hl hm (by omega)
set_option maxRecDepth 100000 in
set_option maxHeartbeats 2000000 in
theorem qnormR_any (neg : Bool) (l m : List Int) (n d : Nat) (a a' : Option Addr) (c c' : Nat) (w : World) (h : NatR w a c l) (h' : NatR w a' c' m) (hn : val l = n) (hk : val m = d) (hl : l.length ≤ 2000000) (hm : m.length ≤ 2000000) :
    Calls Try.prog 54 #[.agg #[.bool neg, .slice a l.length c, .slice a' m.length c']] w (RetF (lowest neg n d) w) := by
  have CO := fun W (hW : Below w.heap.size w W) => over_all neg l m n d a a' c c' W (h.ext (Ext.below hW)) (h'.ext (Ext.below hW)) hn hk hl hm
  obtain ⟨t, ht⟩ : ∃ t, lowest neg n d = t := ⟨_, rfl⟩
  rw [ht] at CO ⊢
  obtain ⟨s, N, D⟩ := t
  unfold RetF at CO ⊢
  dsimp only at CO ⊢
  replace CO := Lib.hid CO
  have hz : Blk ((w.alloc (.cells #[.bool neg, .slice a l.length c, .slice a' m.length c'] 33)).alloc (.cells #[.bool false, .slice none 0 0, .slice none 0 0] 33)) (w.heap.size + 1) 33 #[.bool false, .slice none 0 0, .slice none 0 0] := blk_at1 w _ _ _
  have hb0 : Below w.heap.size w ((w.alloc (.cells #[.bool neg, .slice a l.length c, .slice a' m.length c'] 33)).alloc (.cells #[.bool false, .slice none 0 0, .slice none 0 0] 33)) := by go_grown
  have hgB : w.heap.size ≤ w.heap.size + 1 := by omega
  have hgl := hz.lt
  clear h h' hn hk ht
  go_enter Try.func54, Try.ntmps54
  go_wp2_with fail
  revert hz hb0 hgB hgl
  generalize (w.alloc (.cells #[.bool neg, .slice a l.length c, .slice a' m.length c'] 33)).alloc (.cells #[.bool false, .slice none 0 0, .slice none 0 0] 33) = w0
  generalize w.heap.size + 1 = g
  intro hz hb0 hgB hgl
  refine (CO.out _ hb0).mono ?_
  rintro e w1 ⟨a1, c1, a2, c2, rfl, hV1, hV2, hb1⟩
  have hw1 := below_then hb0 hb1
  have hz1 := hz.below' hb1
  have HV1 := Lib.hid hV1
  have HV2 := Lib.hid hV2
  have z0 := hz1.cell 0; have z1 := hz1.cell 1; have z2 := hz1.cell 2; have f0 := hz1.frozen 0; have f1 := hz1.frozen 1; have f2 := hz1.frozen 2
  have hs0 := hb0.size
  clear hV1 hV2 hb0
  go_wp2
  have hF := blk3 (x := .bool s) (y := .slice a1 (limbs N).length c1) (z := .slice a2 (limbs D).length c2) hz1
  have e0 := hF.cell 0; have e1 := hF.cell 1; have e2 := hF.cell 2
  refine bodyPost_ret (v := .agg #[.bool s, .slice a1 (limbs N).length c1, .slice a2 (limbs D).length c2]) (by simp [results, Try.results54, go_sem, e0, e1, e2]) rfl ?_
  exact ⟨a1, c1, a2, c2, rfl, fun V hV => HV1.out V (back3 hV hs0 hgl), fun V hV => HV2.out V (back3 hV hs0 hgl), below3 hw1 hgB⟩
end Go.Proofs.Ytfahnnkppakiiaa
