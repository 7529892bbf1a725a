/- Walks: sums of integers, by the program and by the reference. -/
import Derived.Test.YtaihkpjbnkgmlaaGreatRf11
import Derived.Test.YtaihkpjbnkgmlaaGreatRf12
import Derived.Test.YtaihkpjbnkgmlaaGreatRf3
import Derived.Test.YtaihkpjbnkgmlaaGreatRf9
import Derived.Test.YtaihkpjbnkgmlaaGreatRf1

/- Walks: the program's integers: Mul, Cmp. -/
namespace Go.Proofs.YtaihkpjbnkgmlaaGreat
open Go.RowKit

set_option maxRecDepth 100000 in
set_option maxHeartbeats 2000000 in
theorem zmul_any (neg1 neg2 : Bool) (l m : List Int) (n1 n2 : Nat) (a a' : Option Addr) (c c' : Nat) (w : World) (h : NatR w a c l) (h' : NatR w a' c' m) (hn : val l = n1) (hk : val m = n2) (hl : l.length ≤ 2000000) (hm : m.length ≤ 2000000) :
  Calls Tryz.prog 164 #[.agg #[.bool neg1, .slice a l.length c], .agg #[.bool neg2, .slice a' m.length c']] w (RetZ ((neg1 != neg2) && decide (0 < n1 * n2)) (n1 * n2) w) := by
 have CM := fun W (hW : Below w.heap.size w W) => nmul_any l m n1 n2 a a' c c' W (h.ext (Ext.below hW)) (h'.ext (Ext.below hW)) hn hk (by omega) (by omega)
 have CF := fun a c W => made_any (neg1 != neg2) (n1 * n2) a c W
 obtain ⟨R, hR⟩ : ∃ q, ((neg1 != neg2) && decide (0 < n1 * n2)) = q := ⟨_, rfl⟩
 rw [hR] at CF ⊢
 have hR0 : True := trivial
 revert CM CF
 generalize n1 * n2 = n
 intro CM CF
 replace CM := Lib.hid CM; replace CF := Lib.hid CF
 have hz : Blk (((w.alloc (.cells #[.bool neg1, .slice a l.length c] 41)).alloc (.cells #[.bool neg2, .slice a' m.length c'] 41)).alloc (.cells #[.bool false, .slice none 0 0] 41)) (w.heap.size + 1 + 1) 41 #[.bool false, .slice none 0 0] := blk_at2 w _ _ _ _
 have hx1 : Blk (((w.alloc (.cells #[.bool neg1, .slice a l.length c] 41)).alloc (.cells #[.bool neg2, .slice a' m.length c'] 41)).alloc (.cells #[.bool false, .slice none 0 0] 41)) w.heap.size 41 #[.bool neg1, .slice a l.length c] := ((Blk.new w _ _).alloc _).alloc _
 have hx2 : Blk (((w.alloc (.cells #[.bool neg1, .slice a l.length c] 41)).alloc (.cells #[.bool neg2, .slice a' m.length c'] 41)).alloc (.cells #[.bool false, .slice none 0 0] 41)) (w.heap.size + 1) 41 #[.bool neg2, .slice a' m.length c'] := (blk_at1 w _ _ _).alloc _
 have hb0 : Below w.heap.size w (((w.alloc (.cells #[.bool neg1, .slice a l.length c] 41)).alloc (.cells #[.bool neg2, .slice a' m.length c'] 41)).alloc (.cells #[.bool false, .slice none 0 0] 41)) := by go_grown
 have hgB : w.heap.size ≤ w.heap.size + 1 + 1 := by omega
 clear h h' hn hk hR
 go_enter Tryz.func164, Tryz.ntmps164
 go_wp2
 revert hz hx1 hx2 hb0 hgB
 generalize ((w.alloc (.cells #[.bool neg1, .slice a l.length c] 41)).alloc (.cells #[.bool neg2, .slice a' m.length c'] 41)).alloc (.cells #[.bool false, .slice none 0 0] 41) = w0
 generalize w.heap.size + 1 + 1 = g
 intro hz hx1 hx2 hb0 hgB
 have k0 := held (hx1.cell 0); have k1 := held (hx1.cell 1); have k2 := held (hx2.cell 0); have k3 := held (hx2.cell 1)
 have s0 : Below w0.heap.size w0 w0.drew := (Below.refl _ _).drew
 have hgl := hz.lt
 have hs0 := hb0.size
 have HR := Lib.hid hR0
 clear hR0
 cases neg1 <;> cases neg2
 all_goals
  refine wp_region_mix (S := Below w0.heap.size w0) [(0, .q), (1, .q), (2, .q), (3, .q), (4, .q), (5, .q), (6, .q), (7, .q), (8, .q), (9, .l), (10, .t), (11, .t)] (by kernel_rfl) (by kernel_rfl) (by kernel_rfl) (fun d _ _ _ _ h => by cases d <;> exact h) (s0) ?_
  iterate 9 (refine wpMix_q rfl rfl (fun K hK => ?_); apply Exists.intro; refine ⟨fun w' hw' => ?_, ?_⟩; (focus (go_simp; try rfl)); go_simp; refine hK _ _ ?_; clear hK K)
  refine wpMix_l rfl rfl (fun K hK => ?_)
  go_simp
  refine (CM.out _ (below_then hb0 s0)).mono ?_
  rintro r w1 ⟨a3, c3, rfl, hV3, hb1⟩
  dsimp only
  refine hK.out _ _ (below_then s0 hb1) (fun _ => ?_)
  clear hK K
  have s1 := below_then s0 hb1
  have HV := Lib.hid hV3
  clear hV3
  refine wpMix_t rfl rfl (fun K hK => ?_)
  go_simp
  refine (CF.out _ _ _).mono ?_
  rintro r w2 ⟨rfl, hb2⟩
  dsimp only
  refine hK.out _ _ ?_
  clear hK K
  have s2 := below_then s1 hb2
  have hz3 := hz.below' s2
  have z0 := hz3.cell 0; have z1 := hz3.cell 1; have f0 := hz3.frozen 0; have f1 := hz3.frozen 1
  have hw2 := below_then hb0 s2
  clear k0 k1 k2 k3
  refine wpMix_t rfl rfl (fun K hK => ?_)
  go_simp
  refine hK.out _ _ ?_
  clear hK K
  refine wpMix_nil ?_
  go_wp2
  have hF := blk2 (x := .bool R) (y := .slice a3 (limbs n).length c3) hz3
  have e0 := hF.cell 0; have e1 := hF.cell 1
  refine bodyPost_ret (v := .agg #[.bool R, .slice a3 (limbs n).length c3]) (by simp [results, Tryz.results164, go_sem, e0, e1]) rfl ?_
  exact ⟨a3, c3, rfl, fun V hV => HV.out V ((back2 hV hs0 hgl).below hb2), below2 hw2 hgB⟩

theorem byValue_any (l m : List Int) (n1 n2 : Nat) (a a' : Option Addr) (c c' : Nat) (w : World) (h : NatR w a c l) (h' : NatR w a' c' m) (hn : val l = n1) (hk : val m = n2) :
  Calls Tryz.prog 235 #[.slice a l.length c, .slice a' m.length c'] w fun e w' => e = .returned (.int .i64 (cmpN n1 n2)) ∧ Below w.heap.size w w' := by
 have C := cmp_any l m n1 n2 a a' c c' w h h' hn hk
 replace C := Lib.hid C
 clear h h' hn hk
 go_enter Tryz.func235, Tryz.ntmps235
 go_wp2_with fail
 refine C.out.mono ?_
 rintro e w1 ⟨rfl, hb⟩
 go_wp2
 go_ret
 exact ⟨rfl, hb⟩
theorem zcmp_sgn (neg1 neg2 : Bool) (n1 n2 : Nat) : cmpI (zval neg1 n1) (zval neg2 n2) = if sgnZ neg1 n1 < sgnZ neg2 n2 then -1 else if sgnZ neg2 n2 < sgnZ neg1 n1 then 1 else if sgnZ neg1 n1 < 0 then cmpN n2 n1 else cmpN n1 n2 := by
 unfold cmpI zval cmpN sgnZ
 cases neg1 <;> cases neg2 <;> by_cases p1 : n1 = 0 <;> by_cases p2 : n2 = 0 <;> simp [p1, p2]
 all_goals (repeat' split) <;> omega
theorem sgnZ_in (neg : Bool) (n : Nat) : -1 ≤ sgnZ neg n ∧ sgnZ neg n ≤ 1 := by unfold sgnZ; split <;> (try split) <;> omega
set_option maxRecDepth 100000 in
set_option maxHeartbeats 2000000 in
theorem zcmp_any (neg1 neg2 : Bool) (l m : List Int) (n1 n2 : Nat) (a a' : Option Addr) (c c' : Nat) (w : World) (h : NatR w a c l) (h' : NatR w a' c' m) (hn : val l = n1) (hk : val m = n2) (hl : l.length ≤ 4000000) (hm : m.length ≤ 4000000) :
  Calls Tryz.prog 163 #[.agg #[.bool neg1, .slice a l.length c], .agg #[.bool neg2, .slice a' m.length c']] w fun e w' => e = .returned (.int .i64 (cmpI (zval neg1 n1) (zval neg2 n2))) ∧ Below w.heap.size w w' := by
 have C1 := fun W (hW : Below w.heap.size w W) => zsign_any neg1 l n1 a c W (h.ext (Ext.below hW)) hn (by omega)
 have C2 := fun W (hW : Below w.heap.size w W) => zsign_any neg2 m n2 a' c' W (h'.ext (Ext.below hW)) hk (by omega)
 have CA := fun W (hW : Below w.heap.size w W) => byValue_any l m n1 n2 a a' c c' W (h.ext (Ext.below hW)) (h'.ext (Ext.below hW)) hn hk
 have CB := fun W (hW : Below w.heap.size w W) => byValue_any m l n2 n1 a' a c' c W (h'.ext (Ext.below hW)) (h.ext (Ext.below hW)) hk hn
 have hres := zcmp_sgn neg1 neg2 n1 n2
 have i1 := sgnZ_in neg1 n1
 have i2 := sgnZ_in neg2 n2
 revert C1 C2 hres i1 i2
 generalize sgnZ neg1 n1 = s
 generalize sgnZ neg2 n2 = t
 intro C1 C2 hres i1 i2
 obtain ⟨R, hR⟩ : ∃ q, cmpI (zval neg1 n1) (zval neg2 n2) = q := ⟨_, rfl⟩
 rw [hR] at hres ⊢
 have HRES := Lib.hid hres
 replace C1 := Lib.hid C1; replace C2 := Lib.hid C2; replace CA := Lib.hid CA; replace CB := Lib.hid CB
 have hx1 : Blk ((w.alloc (.cells #[.bool neg1, .slice a l.length c] 41)).alloc (.cells #[.bool neg2, .slice a' m.length c'] 41)) w.heap.size 41 #[.bool neg1, .slice a l.length c] := (Blk.new w _ _).alloc _
 have hx2 : Blk ((w.alloc (.cells #[.bool neg1, .slice a l.length c] 41)).alloc (.cells #[.bool neg2, .slice a' m.length c'] 41)) (w.heap.size + 1) 41 #[.bool neg2, .slice a' m.length c'] := blk_at1 w _ _ _
 have hb0 : Below w.heap.size w ((w.alloc (.cells #[.bool neg1, .slice a l.length c] 41)).alloc (.cells #[.bool neg2, .slice a' m.length c'] 41)) := by go_grown
 clear h h' hn hk hR hres
 go_enter Tryz.func163, Tryz.ntmps163
 go_wp2
 revert hx1 hx2 hb0
 generalize (w.alloc (.cells #[.bool neg1, .slice a l.length c] 41)).alloc (.cells #[.bool neg2, .slice a' m.length c'] 41) = w0
 generalize w.heap.size + 1 = g
 intro hx1 hx2 hb0
 have k0 := held (hx1.cell 0); have k1 := held (hx1.cell 1); have k2 := held (hx2.cell 0); have k3 := held (hx2.cell 1)
 have s0 : Below w0.heap.size w0 w0.drew := (Below.refl _ _).drew
 refine wp_region_mix (S := Below w0.heap.size w0) [(0, .q), (2, .q), (1, .l), (3, .t), (4, .p), (5, .p)] (by kernel_rfl) (by kernel_rfl) (by kernel_rfl) (fun d _ _ _ _ h => by cases d <;> exact h) (s0) ?_
 iterate 2 (refine wpMix_q rfl rfl (fun K hK => ?_); apply Exists.intro; refine ⟨fun w' hw' => ?_, ?_⟩; (focus (go_simp; try rfl)); go_simp; refine hK _ _ ?_; clear hK K)
 refine wpMix_l rfl rfl (fun K hK => ?_)
 go_simp
 refine (C1.out _ (below_then hb0 s0)).mono ?_
 rintro r w1 ⟨rfl, hb1⟩
 dsimp only
 refine hK.out _ _ (below_then s0 hb1) (fun _ => ?_)
 clear hK K
 have s1 := below_then s0 hb1
 refine wpMix_t rfl rfl (fun K hK => ?_)
 go_simp
 refine (C2.out _ (below_then hb0 s1)).mono ?_
 rintro r w2 ⟨rfl, hb2⟩
 dsimp only
 refine hK.out _ _ ?_
 clear hK K
 have s2 := below_then s1 hb2
 iterate 2 (refine wpMix_p rfl rfl (fun K hK => ?_); apply Exists.intro; refine ⟨fun w' => ?_, ?_⟩; (focus (go_simp; try rfl)); go_simp; refine hK _ _ ?_; clear hK K)
 refine wpMix_nil ?_
 have hy1 := hx1.below' s2
 have hy2 := hx2.below' s2
 have z0 := hy1.cell 0; have z1 := hy1.cell 1; have z2 := hy2.cell 0; have z3 := hy2.cell 1
 have hw2 := below_then hb0 s2
 clear k0 k1 k2 k3 s0 s1 s2 hb1 hb2 C1 C2
 by_cases h1 : s < t
 ·
  obtain rfl : R = -1 := by rw [HRES.out, if_pos h1]
  go_wp2
  go_ret
  exact ⟨rfl, hw2⟩
 ·
  by_cases h2 : t < s
  ·
   obtain rfl : R = 1 := by rw [HRES.out, if_neg h1, if_pos h2]
   go_wp2
   go_ret
   exact ⟨rfl, hw2⟩
  ·
   by_cases h3 : s < 0
   ·
    obtain rfl : R = cmpN n2 n1 := by rw [HRES.out, if_neg h1, if_neg h2, if_pos h3]
    go_wp2_with fail
    refine (CB.out _ hw2).mono ?_
    rintro e w5 ⟨rfl, hb5⟩
    go_wp2
    go_ret
    exact ⟨rfl, below_then hw2 hb5⟩
   ·
    obtain rfl : R = cmpN n1 n2 := by rw [HRES.out, if_neg h1, if_neg h2, if_neg h3]
    go_wp2_with fail
    refine (CA.out _ hw2).mono ?_
    rintro e w5 ⟨rfl, hb5⟩
    go_wp2
    go_ret
    exact ⟨rfl, below_then hw2 hb5⟩
end Go.Proofs.YtaihkpjbnkgmlaaGreat

/- Walks: the program's natural numbers: Sub. -/
namespace Go.Proofs.YtaihkpjbnkgmlaaGreat
open Go.RowKit

set_option maxRecDepth 100000 in
set_option maxHeartbeats 4000000 in
theorem nsub_any (l m : List Int) (n k : Nat) (a a' : Option Addr) (c c' : Nat) (w : World) (h : NatR w a c l) (h' : NatR w a' c' m) (hn : val l = n) (hk : val m = k) (hl : l.length ≤ 16777215) (hm : m.length ≤ 16777216) (hge : k ≤ n) :
  Calls Tryz.prog 326 #[.slice a l.length c, .slice a' m.length c'] w (RetNE (limbs (n - k)) 0 w) := by
 have C := cmp_any l m n k a a' c c' w h h' hn hk
 have hc : 0 ≤ cmpN n k := cmpN_ge.2 hge
 have C1 := fun W (hW : Below w.heap.size w W) => trim_any l a c W (h.ext (Ext.below hW))
 have C2 := fun W (hW : Below w.heap.size w W) => trim_any m a' c' W (h'.ext (Ext.below hW))
 have hP := h.trim
 have hQ := h'.trim
 have hl1 := limbs_len_val h.u16
 have hl2 := limbs_len_val h'.u16
 rw [hn] at C1 hP hl1
 rw [hk] at C2 hQ hl2
 have hup := limbs_u16 n
 have huq := limbs_u16 k
 have hvp := val_limbs n
 have hvq := val_limbs k
 revert C hc
 generalize cmpN n k = q
 intro C hc
 have hcf : decide (q < 0) = false := by simp; omega
 obtain ⟨M, hM⟩ : ∃ M, n - k = M := ⟨_, rfl⟩
 rw [hM]
 have HM := Lib.hid hM
 have HGE := Lib.hid hge
 have hT0 : (limbs n).length ≤ 16777215 := by omega
 clear hl1 hl2 h h' hn hk hM hc hge
 revert C1 C2 hP hQ hup huq hvp hvq hT0
 generalize limbs n = T
 generalize limbs k = U
 intro C1 C2 hP hQ hup huq hvp hvq hT0
 have HP := Lib.hid hP
 have HQ := Lib.hid hQ
 have HVP := Lib.hid hvp
 have HVQ := Lib.hid hvq
 replace C := Lib.hid C; replace C1 := Lib.hid C1; replace C2 := Lib.hid C2
 clear hP hQ hvp hvq
 go_enter Tryz.func326, Tryz.ntmps326
 go_wp2_with fail
 refine C.out.mono ?_
 rintro e w1 ⟨rfl, hb1⟩
 go_wp2_with fail
 refine (C1.out _ hb1).mono ?_
 rintro e w2 ⟨rfl, rfl⟩
 go_wp2_with fail
 refine (C2.out _ hb1).mono ?_
 rintro e w2 ⟨rfl, rfl⟩
 have hmk := run_make_nat .i64 T.length (by omega) w1
 go_wp2
 clear hmk C C1 C2 hcf
 have hz := BlkN.new w1 T.length
 have hw1s := hb1.size
 have hb0 : Below w.heap.size w (w1.alloc (.cells (madeCells #[.int .u16 0] T.length) 205)) := hb1.alloc hb1.size _
 revert hz hb0
 generalize w1.alloc (.cells (madeCells #[.int .u16 0] T.length) 205) = w0
 obtain ⟨B, hB⟩ : ∃ B, B = w1.heap.size := ⟨_, rfl⟩
 rw [← hB] at hw1s ⊢
 clear hB
 intro hz hb0
 go_loopg [7, 8, 9, 10, 24] T.length (fun g s7 _ _ _ s24 wr => ∃ (j bo : Nat) (O : List Int), j + g = T.length ∧ bo ≤ 1 ∧ s24 = .int .i64 j ∧ s7 = .int .i32 bo ∧ Hid (O.length = T.length) ∧ U16 O ∧ BlkN wr B O ∧ Below w.heap.size w wr ∧
  Hid (val (T.take j) + 65536 ^ j * bo = val (U.take j) + val (O.take j)))
 case atStart => exact ⟨0, 0, _, by omega, by omega, rfl, rfl, by show _ = _; simp, u16_replicate _, hz, hb0, by show _ = _; simp [val]⟩
 case round =>
  clear hz hb0
  obtain ⟨j, bo, O, hjg, hbo, rfl, rfl, hol, hou, hrow, hwr, hval⟩ := hrel
  have HROW := Lib.hid hrow
  have HJG := Lib.hid hjg
  clear hrow hjg
  by_cases hlt : j < T.length
  ·
   obtain ⟨x, hx⟩ := get_of_lt hlt
   obtain ⟨hx0, hx1⟩ := hup.get hx
   obtain ⟨bp, op, rfl, hcp⟩ := (HP.out.ext (Ext.below hwr)).cell hx
   have hkO : j < O.length := by rw [hol.out]; exact hlt
   obtain ⟨z, hz⟩ := get_of_lt hkO
   have hcell := HROW.out.cell hz
   have hfr := HROW.out.frozen j
   have hsx := limbAt_some hx
   have hset := fun q : Int => HROW.out.set_ j q
   have HSET := Lib.hid hset
   have htk := fun q : Int => take_set_snoc hkO q
   have hstep := fun bo2 d h1 => sub_step T U (O.take j) j bo bo2 d (by rw [List.length_take]; omega) hval.out h1
   rw [hsx] at hstep
   obtain ⟨y, rfl⟩ : ∃ y : Nat, x = (y : Int) := ⟨x.toNat, by omega⟩
   rw [Int.toNat_natCast] at hstep
   have HTK := Lib.hid htk
   have HSTEP := Lib.hid hstep
   clear hset hstep htk hval hx hsx hz
   by_cases hkn : j < U.length
   ·
    obtain ⟨t, ht⟩ := get_of_lt hkn
    obtain ⟨bq, oq, rfl, hcq⟩ := (HQ.out.ext (Ext.below hwr)).cell ht
    obtain ⟨ht0, ht1⟩ := huq.get ht
    obtain ⟨t, rfl⟩ : ∃ s : Nat, t = (s : Int) := ⟨t.toNat, by omega⟩
    have HST := HSTEP.out
    rw [limbAt_some ht, Int.toNat_natCast] at HST
    clear ht HSTEP
    by_cases hneg : (y : Int) - bo - t < 0
    ·
     obtain ⟨d, hd⟩ : ∃ d : Nat, (y : Int) - bo - t + 65536 = (d : Int) := ⟨((y : Int) - bo - t + 65536).toNat, by omega⟩
     have hd65 : d ≤ 65535 := by omega
     replace HST := Lib.hid (HST 1 d (by omega))
     go_wp2
     go_roundg (gk - 1)
     case rel => exact ⟨j + 1, 1, O.set j (d : Int), by have := HJG.out; omega, by omega, by go_num, rfl, by show _ = _; rw [List.length_set]; exact hol.out, hou.set_ (by omega), HSET.out d, hwr.setCell hw1s _, by show _ = _; rw [HTK.out]; exact HST.out⟩
     case measure => have := HJG.out; omega
    ·
     obtain ⟨d, hd⟩ : ∃ d : Nat, (y : Int) - bo - t = (d : Int) := ⟨((y : Int) - bo - t).toNat, by omega⟩
     have hd65 : d ≤ 65535 := by omega
     replace HST := Lib.hid (HST 0 d (by omega))
     go_wp2
     go_roundg (gk - 1)
     case rel => exact ⟨j + 1, 0, O.set j (d : Int), by have := HJG.out; omega, by omega, by go_num, rfl, by show _ = _; rw [List.length_set]; exact hol.out, hou.set_ (by omega), HSET.out d, hwr.setCell hw1s _, by show _ = _; rw [HTK.out]; exact HST.out⟩
     case measure => have := HJG.out; omega
   ·
    have HST := HSTEP.out
    rw [limbAt_none (by omega)] at HST
    clear HSTEP
    by_cases hneg : (y : Int) - bo < 0
    ·
     obtain ⟨d, hd⟩ : ∃ d : Nat, (y : Int) - bo + 65536 = (d : Int) := ⟨((y : Int) - bo + 65536).toNat, by omega⟩
     have hd65 : d ≤ 65535 := by omega
     replace HST := Lib.hid (HST 1 d (by simp; omega))
     go_wp2
     go_roundg (gk - 1)
     case rel => exact ⟨j + 1, 1, O.set j (d : Int), by have := HJG.out; omega, by omega, by go_num, rfl, by show _ = _; rw [List.length_set]; exact hol.out, hou.set_ (by omega), HSET.out d, hwr.setCell hw1s _, by show _ = _; rw [HTK.out]; exact HST.out⟩
     case measure => have := HJG.out; omega
    ·
     obtain ⟨d, hd⟩ : ∃ d : Nat, (y : Int) - bo = (d : Int) := ⟨((y : Int) - bo).toNat, by omega⟩
     have hd65 : d ≤ 65535 := by omega
     replace HST := Lib.hid (HST 0 d (by simp; omega))
     go_wp2
     go_roundg (gk - 1)
     case rel => exact ⟨j + 1, 0, O.set j (d : Int), by have := HJG.out; omega, by omega, by go_num, rfl, by show _ = _; rw [List.length_set]; exact hol.out, hou.set_ (by omega), HSET.out d, hwr.setCell hw1s _, by show _ = _; rw [HTK.out]; exact HST.out⟩
     case measure => have := HJG.out; omega
  ·
   obtain rfl : j = T.length := by have := HJG.out; omega
   have hvO : val O = M := by
    have h1 := sub_end (o := O) hup huq hou hol.out (by have := hval.out; rw [val_take_all (l := O) (by rw [hol.out]; omega)] at this; exact this) (by rw [HVP.out, HVQ.out]; exact HGE.out)
    rw [h1, HVP.out, HVQ.out]
    exact HM.out
   have hcap : T.length ≤ maxLen := by unfold maxLen; omega
   have CT := trim_any O (some ⟨B, 0, none⟩) T.length wr (HROW.out.readsV (Nat.le_refl _) (New.refl _ _) hou (by rw [hol.out]; omega) hcap)
   have hread : ∀ V, New w.heap.size wr V → NatR V (some ⟨B, 0, none⟩) T.length (limbs M) := fun V hV => by
    rw [← hvO]
    exact (HROW.out.readsV hw1s hV hou (by rw [hol.out]; omega) hcap).trim
   rw [hvO, hol.out] at CT
   have HRD := Lib.hid hread
   replace CT := Lib.hid CT
   clear hread hvO hval
   go_wp2_with fail
   refine CT.out.mono ?_
   rintro e w3 ⟨rfl, rfl⟩
   go_wp2
   go_ret2
   exact ⟨_, _, rfl, HRD.out, hwr⟩
end Go.Proofs.YtaihkpjbnkgmlaaGreat

/- What a call has made, or what came in, keeps its reading while the caller writes cells of its own. No function of the program in sight. -/
namespace Go.Proofs.YtaihkpjbnkgmlaaGreat
open Go.RowKit

/-- the cells of w in the blocks from B on and below T are those of V -/
def NewIn (B T : Nat) (w V : World) : Prop := ∀ p v, B ≤ p.block → p.block < T → w.cell? p = some v → V.cell? p = some v
/-- R holds in every world with these cells -/
def Kp (R : World → Prop) (B T : Nat) (w : World) : Prop := ∀ V, NewIn B T w V → R V
section
variable {R R' : World → Prop} {B T : Nat} {w w' : World}
theorem Kp.now (h : Kp R B T w) : R w := h w fun _ _ _ _ h => h
theorem Kp.imp (h : Kp R B T w) (e : ∀ V, R V → R' V) : Kp R' B T w := fun V hV => e V (h V hV)
theorem Kp.alloc (h : Kp R B T w) {o : Obj} : Kp R B T (w.alloc o) := fun V hV => h V fun p v h1 h2 h3 => hV p v h1 h2 ((World.cell?_alloc_lt w o p (World.block_lt_of_cell? w p h3)).trans h3)
theorem Kp.drew (h : Kp R B T w) : Kp R B T w.drew := h
theorem Kp.setc {g i : Nat} {u : Value} (hg : g < B ∨ T ≤ g) (h : Kp R B T w) : Kp R B T (w.setCell ⟨g, i, none⟩ u) := fun V hV => h V fun p v h1 h2 h3 =>
 hV p v h1 h2 ((World.cell?_setCell_other w ⟨g, i, none⟩ p u (fun e => by subst e; simp at h1 h2; omega)).trans h3)
theorem Kp.call (h : Kp R B T w) (hb : Below w.heap.size w w') : Kp R B T w' := fun V hV => h V fun p v h1 h2 h3 => hV p v h1 h2 ((hb.cell (World.block_lt_of_cell? w p h3)).trans h3)
/-- what a call has made -/
theorem Kp.made (h : ∀ V, New B w V → R V) : Kp R B w.heap.size w := fun V hV => h V fun p v h1 h2 => hV p v h1 (World.block_lt_of_cell? w p h2) h2
/-- what came in -/
theorem Kp.arg (hR : ∀ V, Ext w V → R V) : Kp R 0 w.heap.size w := fun V hV => hR V fun p v h => hV p v (Nat.zero_le _) (World.block_lt_of_cell? w p h) h
/-- handed back by the caller itself -/
theorem Kp.fin (h : Kp R B T w) {B' : Nat} (hB : B' ≤ B) : ∀ V, New B' w V → R V := fun V hV => h V fun p v h1 _ h3 => hV p v (Nat.le_trans hB h1) h3
end
section
variable {w w' : World} {g g2 i : Nat} {t : TypeId} {cs cs' : Array Value} {u : Value}
theorem Blk.newAt (h : g = w.heap.size) : Blk (w.alloc (.cells cs t)) g t cs := by subst h; exact Blk.new w t cs
theorem Blk.farAt (hg : g ≠ g2) (h : Blk w g t cs) : Blk (w.setCell ⟨g2, i, none⟩ u) g t cs := h.far (p := ⟨g2, i, none⟩) hg u
theorem Blk.setb (h : Blk w g t cs') (e : cs'.setIfInBounds i u = cs) : Blk (w.setCell ⟨g, i, none⟩ u) g t cs := e ▸ h.set_ i u
end
/-- the world in front of a call under one name -/
theorem calls_gen {P : Program} {f : Nat} {args : Array Value} {W : World} {Q : Ending → World → Prop} (R : World → Prop) (hR : R W) (h : ∀ W', R W' → Calls P f args W' Q) : Calls P f args W Q := h W hR
/-- the world at the end under one name -/
theorem world_gen {G : World → Prop} {W : World} (R : World → Prop) (hR : R W) (h : ∀ W', R W' → G W') : G W := h W hR
end Go.Proofs.YtaihkpjbnkgmlaaGreat

/- Walks: sums of integers, by the program and by the reference. -/
namespace Go.Proofs.YtaihkpjbnkgmlaaGreat
open Go.RowKit

theorem zsum_same (neg : Bool) (n1 n2 : Nat) : zval neg n1 + zval neg n2 = zval neg (n1 + n2) := by unfold zval; cases neg <;> simp; omega
theorem zsum_other {neg1 neg2 : Bool} (h : neg1 ≠ neg2) (n1 n2 : Nat) : (n2 ≤ n1 → zval neg1 n1 + zval neg2 n2 = zval neg1 (n1 - n2)) ∧ (n1 ≤ n2 → zval neg1 n1 + zval neg2 n2 = zval neg2 (n2 - n1)) := by
 unfold zval; cases neg1 <;> cases neg2 <;> simp at h ⊢ <;> omega
theorem zval_lt0 (neg : Bool) (n : Nat) : decide (zval neg n < 0) = (neg && decide (0 < n)) := by
 unfold zval; cases neg <;> simp
theorem zval_abs0 (neg : Bool) (n : Nat) : (zval neg n).natAbs = n := by unfold zval; split <;> omega
/-- what a call gives that makes the integer z -/
def RetI (z : Int) (w : World) (e : Ending) (w' : World) : Prop := RetZ (decide (z < 0)) z.natAbs w e w'
theorem retI_of {neg : Bool} {n : Nat} {z : Int} {w : World} {e : Ending} {w' : World} (hz : z = zval neg n) (h : RetZ (neg && decide (0 < n)) n w e w') : RetI z w e w' := by
 subst hz
 unfold RetI
 rw [zval_lt0, zval_abs0]
 exact h
set_option maxRecDepth 100000 in
set_option maxHeartbeats 2000000 in
theorem zadd_same (neg1 : Bool) (l m : List Int) (n1 n2 : Nat) (a a' : Option Addr) (c c' : Nat) (w : World) (h : NatR w a c l) (h' : NatR w a' c' m) (hn : val l = n1) (hk : val m = n2) (hl : l.length ≤ 4000000) (hm : m.length ≤ 4000000) :
  Calls Tryz.prog 284 #[.agg #[.bool neg1, .slice a l.length c], .agg #[.bool neg1, .slice a' m.length c']] w (RetI (zval neg1 n1 + zval neg1 n2) w) := by
 have CA := fun W (hW : Below w.heap.size w W) => nadd_any l m n1 n2 a a' c c' W (h.ext (Ext.below hW)) (h'.ext (Ext.below hW)) hn hk (by omega) (by omega)
 have CF := fun a c W => made_any neg1 (n1 + n2) a c W
 refine Calls.mono ?_ fun _ _ => retI_of (zsum_same neg1 n1 n2)
 obtain ⟨R, hR⟩ : ∃ q, (neg1 && decide (0 < n1 + n2)) = q := ⟨_, rfl⟩
 rw [hR] at CF ⊢
 revert CA CF
 generalize n1 + n2 = n
 intro CA CF
 replace CA := Lib.hid CA; replace CF := Lib.hid CF
 clear h h' hn hk hR
 have hx1 := blk_at2 w (.cells #[.bool neg1, .slice a l.length c] 41) (.cells #[.bool neg1, .slice a' m.length c'] 41) 41 #[.bool false, .slice none 0 0]
 have hz : Blk (((w.alloc (.cells #[.bool neg1, .slice a l.length c] 41)).alloc (.cells #[.bool neg1, .slice a' m.length c'] 41)).alloc (.cells #[.bool false, .slice none 0 0] 41)) (w.heap.size + 1 + 1) 41 #[.bool false, .slice none 0 0] := hx1
 have hx1 : Blk (((w.alloc (.cells #[.bool neg1, .slice a l.length c] 41)).alloc (.cells #[.bool neg1, .slice a' m.length c'] 41)).alloc (.cells #[.bool false, .slice none 0 0] 41)) w.heap.size 41 #[.bool neg1, .slice a l.length c] := ((Blk.new w _ _).alloc _).alloc _
 have hx2 : Blk (((w.alloc (.cells #[.bool neg1, .slice a l.length c] 41)).alloc (.cells #[.bool neg1, .slice a' m.length c'] 41)).alloc (.cells #[.bool false, .slice none 0 0] 41)) (w.heap.size + 1) 41 #[.bool neg1, .slice a' m.length c'] := (blk_at1 w _ _ _).alloc _
 have hb0 : Below w.heap.size w (((w.alloc (.cells #[.bool neg1, .slice a l.length c] 41)).alloc (.cells #[.bool neg1, .slice a' m.length c'] 41)).alloc (.cells #[.bool false, .slice none 0 0] 41)) := by go_grown
 have hg2 : w.heap.size < w.heap.size + 1 + 1 := by omega
 go_enter Tryz.func284, Tryz.ntmps284
 go_wp2
 revert hz hx1 hx2 hb0 hg2
 generalize ((w.alloc (.cells #[.bool neg1, .slice a l.length c] 41)).alloc (.cells #[.bool neg1, .slice a' m.length c'] 41)).alloc (.cells #[.bool false, .slice none 0 0] 41) = w0
 generalize w.heap.size + 1 + 1 = g3
 generalize w.heap.size + 1 = g2
 intro hz hx1 hx2 hb0 hg2
 have hs0 := hb0.size
 have hgl := hz.lt
 have k0 := held (hx1.cell 0); have k1 := held (hx1.cell 1); have k2 := held (hx2.cell 1)
 have s0 : Below w0.heap.size w0 w0.drew := (Below.refl _ _).drew
 refine wp_region_mix (S := Below w0.heap.size w0) [(0, .q), (1, .q), (2, .q), (3, .q), (4, .q), (5, .q), (6, .l), (7, .t), (8, .t)] (by kernel_rfl) (by kernel_rfl) (by kernel_rfl) (fun d _ _ _ _ h => by cases d <;> exact h) (s0) ?_
 iterate 6 (refine wpMix_q rfl rfl (fun K hK => ?_); apply Exists.intro; refine ⟨fun w' hw' => ?_, ?_⟩; (focus (go_simp; try rfl)); go_simp; refine hK _ _ ?_; clear hK K)
 refine wpMix_l rfl rfl (fun K hK => ?_)
 go_simp
 refine (CA.out _ (below_then hb0 s0)).mono ?_
 rintro r w1 ⟨a3, c3, rfl, hV3, hb1⟩
 dsimp only
 refine hK.out _ _ (below_then s0 hb1) (fun _ => ?_)
 clear hK K
 have s1 := below_then s0 hb1
 have HV := Lib.hid hV3
 clear hV3
 refine wpMix_t rfl rfl (fun K hK => ?_)
 go_simp
 refine (CF.out a3 c3 _).mono ?_
 rintro r w2 ⟨rfl, hb2⟩
 dsimp only
 refine hK.out _ _ ?_
 clear hK K
 obtain ⟨a4, rfl⟩ : ∃ a4, a4 = a3 := ⟨_, rfl⟩
 obtain ⟨c4, rfl⟩ : ∃ c4, c4 = c3 := ⟨_, rfl⟩
 have s2 := below_then s1 hb2
 have hz3 := hz.below' s2
 have z0 := hz3.cell 0; have z1 := hz3.cell 1; have f0 := hz3.frozen 0; have f1 := hz3.frozen 1
 have hw2 := below_then hb0 s2
 clear k0 k1 k2
 refine wpMix_t rfl rfl (fun K hK => ?_)
 go_simp
 refine hK.out _ _ ?_
 clear hK K
 refine wpMix_nil ?_
 go_wp2
 have hF := blk2 (x := .bool R) (y := .slice a4 (limbs n).length c4) hz3
 have e0 := hF.cell 0; have e1 := hF.cell 1
 refine bodyPost_ret (v := .agg #[.bool R, .slice a4 (limbs n).length c4]) (by simp [results, Tryz.results284, go_sem, e0, e1]) rfl ?_
 exact ⟨a4, c4, rfl, fun V hV => HV.out V ((back2 hV hs0 hgl).below hb2), below2 hw2 (Nat.le_of_lt hg2)⟩
set_option maxRecDepth 100000 in
set_option maxHeartbeats 2000000 in
theorem zaddR_same (neg1 : Bool) (l m : List Int) (n1 n2 : Nat) (a a' : Option Addr) (c c' : Nat) (w : World) (h : NatR w a c l) (h' : NatR w a' c' m) (hn : val l = n1) (hk : val m = n2) (hl : l.length ≤ 4000000) (hm : m.length ≤ 4000000) :
  Calls Tryz.prog 285 #[.agg #[.bool neg1, .slice a l.length c], .agg #[.bool neg1, .slice a' m.length c']] w (RetI (zval neg1 n1 + zval neg1 n2) w) := by
 have hll := limbs_len_val h.u16
 have hlm := limbs_len_val h'.u16
 rw [hn] at hll
 rw [hk] at hlm
 have hp := limbs_len_add n1 n2
 have hsum : (limbs (n1 + n2)).length ≤ 4000001 := by omega
 have CA := fun W (hW : Below w.heap.size w W) => add01_any l m n1 n2 a a' c c' W (h.ext (Ext.below hW)) (h'.ext (Ext.below hW)) hn hk (by omega) (by omega)
 have CF := fun a c W h => zofR_any neg1 (limbs (n1 + n2)) (n1 + n2) a c W h (val_limbs _) (by omega)
 refine Calls.mono ?_ fun _ _ => retI_of (zsum_same neg1 n1 n2)
 obtain ⟨R, hR⟩ : ∃ q, (neg1 && decide (0 < n1 + n2)) = q := ⟨_, rfl⟩
 rw [hR] at CF ⊢
 revert CA CF
 generalize n1 + n2 = n
 intro CA CF
 replace CA := Lib.hid CA; replace CF := Lib.hid CF
 clear h h' hn hk hR
 have hx1 := blk_at2 w (.cells #[.bool neg1, .slice a l.length c] 41) (.cells #[.bool neg1, .slice a' m.length c'] 41) 41 #[.bool false, .slice none 0 0]
 have hz : Blk (((w.alloc (.cells #[.bool neg1, .slice a l.length c] 41)).alloc (.cells #[.bool neg1, .slice a' m.length c'] 41)).alloc (.cells #[.bool false, .slice none 0 0] 41)) (w.heap.size + 1 + 1) 41 #[.bool false, .slice none 0 0] := hx1
 have hx1 : Blk (((w.alloc (.cells #[.bool neg1, .slice a l.length c] 41)).alloc (.cells #[.bool neg1, .slice a' m.length c'] 41)).alloc (.cells #[.bool false, .slice none 0 0] 41)) w.heap.size 41 #[.bool neg1, .slice a l.length c] := ((Blk.new w _ _).alloc _).alloc _
 have hx2 : Blk (((w.alloc (.cells #[.bool neg1, .slice a l.length c] 41)).alloc (.cells #[.bool neg1, .slice a' m.length c'] 41)).alloc (.cells #[.bool false, .slice none 0 0] 41)) (w.heap.size + 1) 41 #[.bool neg1, .slice a' m.length c'] := (blk_at1 w _ _ _).alloc _
 have hb0 : Below w.heap.size w (((w.alloc (.cells #[.bool neg1, .slice a l.length c] 41)).alloc (.cells #[.bool neg1, .slice a' m.length c'] 41)).alloc (.cells #[.bool false, .slice none 0 0] 41)) := by go_grown
 have hg2 : w.heap.size < w.heap.size + 1 + 1 := by omega
 go_enter Tryz.func285, Tryz.ntmps285
 go_wp2
 revert hz hx1 hx2 hb0 hg2
 generalize ((w.alloc (.cells #[.bool neg1, .slice a l.length c] 41)).alloc (.cells #[.bool neg1, .slice a' m.length c'] 41)).alloc (.cells #[.bool false, .slice none 0 0] 41) = w0
 generalize w.heap.size + 1 + 1 = g3
 generalize w.heap.size + 1 = g2
 intro hz hx1 hx2 hb0 hg2
 have hs0 := hb0.size
 have hgl := hz.lt
 have k0 := held (hx1.cell 0); have k1 := held (hx1.cell 1); have k2 := held (hx2.cell 1)
 have s0 : Below w0.heap.size w0 w0.drew := (Below.refl _ _).drew
 refine wp_region_mix (S := Below w0.heap.size w0) [(0, .q), (1, .q), (2, .q), (3, .q), (4, .q), (5, .q), (6, .l), (7, .t), (8, .t)] (by kernel_rfl) (by kernel_rfl) (by kernel_rfl) (fun d _ _ _ _ h => by cases d <;> exact h) (s0) ?_
 iterate 6 (refine wpMix_q rfl rfl (fun K hK => ?_); apply Exists.intro; refine ⟨fun w' hw' => ?_, ?_⟩; (focus (go_simp; try rfl)); go_simp; refine hK _ _ ?_; clear hK K)
 refine wpMix_l rfl rfl (fun K hK => ?_)
 go_simp
 refine (CA.out _ (below_then hb0 s0)).mono ?_
 rintro r w1 ⟨a3, c3, rfl, hV3, hb1⟩
 dsimp only
 refine hK.out _ _ (below_then s0 hb1) (fun _ => ?_)
 clear hK K
 have s1 := below_then s0 hb1
 have hr3 := hV3 w1 (New.refl _ _)
 clear hV3
 refine wpMix_t rfl rfl (fun K hK => ?_)
 go_simp
 refine (CF.out _ _ _ hr3).mono ?_
 rintro r w2 ⟨a4, c4, rfl, hV, hb2⟩
 dsimp only
 refine hK.out _ _ ?_
 clear hK K
 have HV := Lib.hid hV
 clear hV hr3
 have hs1 := (below_then hb0 s1).size
 have hg1 : g3 < w1.heap.size := Nat.lt_of_lt_of_le hgl s1.size
 have s2 := below_then s1 hb2
 have hz3 := hz.below' s2
 have z0 := hz3.cell 0; have z1 := hz3.cell 1; have f0 := hz3.frozen 0; have f1 := hz3.frozen 1
 have hw2 := below_then hb0 s2
 clear k0 k1 k2
 refine wpMix_t rfl rfl (fun K hK => ?_)
 go_simp
 refine hK.out _ _ ?_
 clear hK K
 refine wpMix_nil ?_
 go_wp2
 have hF := blk2 (x := .bool R) (y := .slice a4 (limbs n).length c4) hz3
 have e0 := hF.cell 0; have e1 := hF.cell 1
 refine bodyPost_ret (v := .agg #[.bool R, .slice a4 (limbs n).length c4]) (by simp [results, Tryz.results285, go_sem, e0, e1]) rfl ?_
 exact ⟨a4, c4, rfl, fun V hV => HV.out V (back2 hV hs1 hg1), below2 hw2 (Nat.le_of_lt hg2)⟩
end Go.Proofs.YtaihkpjbnkgmlaaGreat
