/- Walks: the program's rational numbers: unit, parts. -/
import Derived.Test.YtkjnkpkagcboeaaGreatDoorCe5
import Derived.Test.YtkjnkpkagcboeaaGreatDoorCe2
import Derived.Test.YtkjnkpkagcboeaaGreatDoorCe1
set_option linter.all false
set_option maxRecDepth 100000
set_option maxHeartbeats 4000000
namespace Go.Proofs.YtkjnkpkagcboeaaGreatDoor
open Go.RowKit
theorem nmul_zero (l m : List Int) (n1 n2 : Nat) (a a' : Option Addr) (c c' : Nat) (w : World) (h : NatR w a c l) (h' : NatR w a' c' m) (hn : val l = n1) (hk : val m = n2) (h0 : n1 = 0 \/ n2 = 0) :
  Calls Tryz.prog 125 #[.slice a l.length c, .slice a' m.length c'] w (RetN [] w) := by
 have C1 := trim_any l a c w h
 have C2 := trim_any m a' c' w h'
 rw [hn] at C1
 rw [hk] at C2
 have hp1 := limbs_len_pos (n := n1)
 have hp2 := limbs_len_pos (n := n2)
 have hle := h'.len
 have hle2 := limbs_len_val h'.u16
 rw [hk] at hle2
 clear h h' hn hk
 revert C1 C2 hp1 hp2 hle2
 generalize (limbs n1).length = T
 generalize (limbs n2).length = U
 intro C1 C2 hp1 hp2 hle2
 replace C1 := Hd C1; replace C2 := Hd C2
 by_cases hT : T = 0
 ·
  have hT1 : ((T : Int) == 0) = true := by rw [beq_iff_eq]; omega
  clear hp1 hp2 h0 hT
  go_enter Tryz.func125, Tryz.ntmps125
  go_wp2_with fail
  refine C1.out.mono ?_
  rintro e w1 ⟨rfl, rfl⟩
  go_wp2_with fail
  refine C2.out.mono ?_
  rintro e w1 ⟨rfl, rfl⟩
  go_wp2
  go_ret
  exact ⟨none, 0, rfl, fun _ _ => SlR.nil, Below.refl _ _⟩
 ·
  have hT1 : ((T : Int) == 0) = false := by rw [beq_eq_false_iff_ne]; omega
  have hU1 : ((U : Int) == 0) = true := by rw [beq_iff_eq]; omega
  clear hp1 hp2 h0 hT
  go_enter Tryz.func125, Tryz.ntmps125
  go_wp2_with fail
  refine C1.out.mono ?_
  rintro e w1 ⟨rfl, rfl⟩
  go_wp2_with fail
  refine C2.out.mono ?_
  rintro e w1 ⟨rfl, rfl⟩
  go_wp2
  go_ret
  exact ⟨none, 0, rfl, fun _ _ => SlR.nil, Below.refl _ _⟩
theorem nmul_pos (l m : List Int) (n1 n2 : Nat) (a a' : Option Addr) (c c' : Nat) (w : World) (h : NatR w a c l) (h' : NatR w a' c' m) (hn : val l = n1) (hk : val m = n2) (hl : l.length <= 8000000) (hm : m.length <= 8000000) (h1 : n1 ≠ 0) (h2 : n2 ≠ 0) :
  Calls Tryz.prog 125 #[.slice a l.length c, .slice a' m.length c'] w (RetN (limbs (n1 * n2)) w) := by
 have C1 := trim_any l a c w h
 have C2 := trim_any m a' c' w h'
 have hP := h.trim
 have hQ := h'.trim
 have hl1 := limbs_len_val h.u16
 have hl2 := limbs_len_val h'.u16
 rw [hn] at C1 hP hl1
 rw [hk] at C2 hQ hl2
 have hup := limbs_u16 n1
 have huq := limbs_u16 n2
 have hvp := val_limbs n1
 have hvq := val_limbs n2
 have hp1 := limbs_len_pos.2 (show 0 < n1 by omega)
 have hp2 := limbs_len_pos.2 (show 0 < n2 by omega)
 obtain ⟨M, hM⟩ : ∃ M, n1 * n2 = M := ⟨_, rfl⟩
 rw [hM]
 have HM := Hd hM
 have hT0 : (limbs n1).length <= 8000000 := by omega
 have hU0 : (limbs n2).length <= 8000000 := by omega
 clear hl1 hl2 h h' hn hk hM h1 h2
 revert C1 C2 hP hQ hup huq hvp hvq hp1 hp2 hT0 hU0
 generalize limbs n1 = T
 generalize limbs n2 = U
 intro C1 C2 hP hQ hup huq hvp hvq hp1 hp2 hT0 hU0
 have HP := Hd hP
 have HQ := Hd hQ
 have HVP := Hd hvp
 have HVQ := Hd hvq
 have HUP := Hd hup
 have HUQ := Hd huq
 replace C1 := Hd C1; replace C2 := Hd C2
 have hT1 : ((T.length : Int) == 0) = false := by rw [beq_eq_false_iff_ne]; omega
 have hU1 : ((U.length : Int) == 0) = false := by rw [beq_eq_false_iff_ne]; omega
 have hmk : ∀ w, (Instr.makeSlice 50 (.int .i64 ((T.length : Int) + U.length)) (.int .i64 ((T.length : Int) + U.length))).run Tryz.prog w = .ok (.slice (some ⟨w.heap.size, 0, none⟩) (T.length + U.length) (T.length + U.length)) (w.alloc (.cells (madeCells #[.int .u16 0] (T.length + U.length)) 47)) := fun w => by
  have := run_make_nat .i64 (T.length + U.length) (by omega) w
  simpa using this
 clear hP hQ hvp hvq hup huq
 go_enter Tryz.func125, Tryz.ntmps125
 go_wp2_with fail
 refine C1.out.mono ?_
 rintro e w1 ⟨rfl, rfl⟩
 go_wp2_with fail
 refine C2.out.mono ?_
 rintro e w1 ⟨rfl, rfl⟩
 go_wp2
 clear hmk C1 C2 hT1 hU1
 have hz := BlkN.new w (T.length + U.length)
 have hb0 : Below w.heap.size w (w.alloc (.cells (madeCells #[.int .u16 0] (T.length + U.length)) 47)) := brf.alloc (nlr _) _
 revert hz hb0
 generalize w.alloc (.cells (madeCells #[.int .u16 0] (T.length + U.length)) 47) = w0
 intro hz hb0
 go_loopg [6, 7, 8, 9, 10, 31] T.length (fun g _ _ _ _ _ s31 wr => ∃ (i : Nat) (O : List Int), i + g = T.length /\ s31 = .int .i64 i /\ Hid (MulR T U O i) /\ BlkN wr w.heap.size O /\ Below w.heap.size w wr)
 case atStart => exact ⟨0, _, by omega, rfl, MulR.start T U, hz, hb0⟩
 case round =>
  clear hz hb0
  obtain ⟨i, O, hig, rfl, hR, hrow, hwr⟩ := hrel
  have HROW := Hd hrow
  have HIG := Hd hig
  clear hrow hig
  by_cases hlt : i < T.length
  ·
   obtain ⟨x, hx⟩ := get_of_lt hlt
   obtain ⟨hx0, hx1⟩ := HUP.out.get hx
   obtain ⟨bp, op, rfl, hcp⟩ := (HP.out.ext (xbw hwr)).cell hx
   have hI := hR.out.row x
   have HX := Hd hx
   have HI := Hd hI
   clear hx hI hR
   go_wp2
   clear hcp
   obtain ⟨wo, rfl⟩ : ∃ wo : World, wo = wr := ⟨_, rfl⟩
   obtain ⟨gk0, rfl⟩ : ∃ gk0 : Nat, gk0 = gk := ⟨_, rfl⟩
   go_loopg [8, 9, 10, 38] U.length (fun g s8 _ _ s38 w2 => ∃ (k cc : Nat) (O2 : List Int), k + g = U.length /\ s38 = .int .i64 k /\ s8 = .int .u32 cc /\ cc <= 65535 /\ Hid (MulI T U O2 i k cc x) /\ BlkN w2 w.heap.size O2 /\ Below w.heap.size w w2)
   case atStart => exact ⟨0, 0, O, by omega, rfl, rfl, by omega, HI.out, HROW.out, hwr⟩
   case round =>
    clear HI HROW hwr O
    obtain ⟨k, cc, O, hkg, rfl, rfl, hcc, hI, hrow, hwr⟩ := hrel
    have HROW := Hd hrow
    have HKG := Hd hkg
    clear hrow hkg
    by_cases hkn : k < U.length
    ·
     obtain ⟨y, hy⟩ := get_of_lt hkn
     obtain ⟨hy0, hy1⟩ := HUQ.out.get hy
     obtain ⟨bq, oq, rfl, hcq⟩ := (HQ.out.ext (xbw hwr)).cell hy
     obtain ⟨z, hz⟩ := get_of_lt (xs := O) (k := i + k) (by rw [hI.out.len]; omega)
     obtain ⟨hz0, hz1⟩ := hI.out.u16.get hz
     have hcell := HROW.out.cell hz
     have hfr := HROW.out.frozen (i + k)
     have hset := fun q : Int => HROW.out.set_ (i + k) q
     have HSET := Hd hset
     have hstep := fun (c2 d : Nat) => hI.out.next ⟨hx0, hx1⟩ hkn hz hy ⟨hy0, hy1⟩ (c2 := c2) (d := d)
     have hI2 : (i : Int) + k < (T.length : Int) + U.length := by omega
     have hxy : 0 <= x * y := Int.mul_nonneg hx0 hy0
     have hxy2 : x * y <= 4294836225 := by
      have := Int.mul_le_mul hx1 hy1 hy0 (by omega)
      omega
     obtain ⟨s, hs⟩ : ∃ s : Nat, (cc : Int) + (z + x * y) = (s : Int) := ⟨((cc : Int) + (z + x * y)).toNat, by omega⟩
     have hs2 : s = z.toNat + x.toNat * y.toNat + cc := by
      have ex : (x.toNat : Int) = x := by omega
      have ey : (y.toNat : Int) = y := by omega
      have ez : (z.toNat : Int) = z := by omega
      have : ((z.toNat + x.toNat * y.toNat + cc : Nat) : Int) = z + x * y + cc := by
       rw [Int.natCast_add, Int.natCast_add, Int.natCast_mul, ex, ey, ez]
      omega
     have hslt : s < 4294967296 := by omega
     obtain ⟨lo, hlo⟩ : ∃ lo, s % 65536 = lo := ⟨_, rfl⟩
     obtain ⟨c2, hc2⟩ : ∃ c2, s / 65536 = c2 := ⟨_, rfl⟩
     have HST := Hd (hstep c2 lo (by omega) (by omega))
     have hw16 : IntKind.u16.wrap (s : Int) = (lo : Int) := by rw [wrap16, hlo]
     have hdv : (s : Int) / 65536 = (c2 : Int) := by omega
     have hlo2 : lo <= 65535 := by omega
     have hc22 : c2 <= 65535 := by omega
     clear hset hstep hz hy hs2 hlo hc2 hI
     go_wp2
     go_roundg (gk - 1)
     case rel => exact ⟨k + 1, c2, O.set (i + k) (lo : Int), by have := HKG.out; omega, by go_num, rfl, by omega, HST.out, HSET.out lo, hwr.setCell (nlr _) _⟩
     case measure => have := HKG.out; omega
    ·
     obtain rfl : k = U.length := by have := HKG.out; omega
     have hdone := hI.out.done HX.out
     have HD := Hd hdone
     obtain ⟨z, hz⟩ := get_of_lt (xs := O) (k := i + U.length) (by rw [hI.out.len]; omega)
     have hcell := HROW.out.cell hz
     have hfr := HROW.out.frozen (i + U.length)
     have hset := fun q : Int => HROW.out.set_ (i + U.length) q
     have HSET := Hd hset
     have hI2 : (i : Int) + U.length < (T.length : Int) + U.length := by omega
     have hw16 : IntKind.u16.wrap (cc : Int) = (cc : Int) := by rw [wrap16, Nat.mod_eq_of_lt (by omega)]
     clear hset hz hdone hI
     go_wp2
     go_roundg (gk0 - 1)
     case rel => exact ⟨i + 1, O.set (i + U.length) (cc : Int), by have := HIG.out; omega, by go_num, HD.out, HSET.out cc, hwr.setCell (nlr _) _⟩
     case measure => have := HIG.out; omega
  ·
   obtain rfl : i = T.length := by have := HIG.out; omega
   have hvO : val O = M := by rw [hR.out.done, HVP.out, HVQ.out]; exact HM.out
   have hol := hR.out.len
   have hou := hR.out.u16
   have hcap : T.length + U.length <= maxLen := by unfold maxLen; omega
   have CT := trim_any O (some ⟨w.heap.size, 0, none⟩) (T.length + U.length) wr (HROW.out.readsV (nlr _) (New.refl _ _) hou (by rw [hol]; omega) hcap)
   have hread : ∀ V, New w.heap.size wr V -> NatR V (some ⟨w.heap.size, 0, none⟩) (T.length + U.length) (limbs M) := fun V hV => by
    rw [<- hvO]
    exact (HROW.out.readsV (nlr _) hV hou (by rw [hol]; omega) hcap).trim
   rw [hvO, hol] at CT
   have HRD := Hd hread
   replace CT := Hd CT
   clear hread hvO hR hol
   go_wp2_with fail
   refine CT.out.mono ?_
   rintro e w3 ⟨rfl, rfl⟩
   go_wp2
   go_ret
   exact ⟨_, _, rfl, HRD.out, hwr⟩
theorem nmul_any (l m : List Int) (n1 n2 : Nat) (a a' : Option Addr) (c c' : Nat) (w : World) (h : NatR w a c l) (h' : NatR w a' c' m) (hn : val l = n1) (hk : val m = n2) (hl : l.length <= 8000000) (hm : m.length <= 8000000) :
  Calls Tryz.prog 125 #[.slice a l.length c, .slice a' m.length c'] w (RetN (limbs (n1 * n2)) w) := by
 by_cases h1 : n1 = 0
 ·
  rw [h1, Nat.zero_mul, limbs_zero]
  exact nmul_zero l m n1 n2 a a' c c' w h h' hn hk (.inl h1)
 ·
  by_cases h2 : n2 = 0
  ·
   rw [h2, Nat.mul_zero, limbs_zero]
   exact nmul_zero l m n1 n2 a a' c c' w h h' hn hk (.inr h2)
  · exact nmul_pos l m n1 n2 a a' c c' w h h' hn hk hl hm h1 h2
theorem zmul_any (neg1 neg2 : Bool) (l m : List Int) (n1 n2 : Nat) (a a' : Option Addr) (c c' : Nat) (w : World) (h : NatR w a c l) (h' : NatR w a' c' m) (hn : val l = n1) (hk : val m = n2) (hl : l.length <= 2000000) (hm : m.length <= 2000000) :
  Calls Tryz.prog 123 #[.agg #[.bool neg1, .slice a l.length c], .agg #[.bool neg2, .slice a' m.length c']] w (RetZ ((neg1 != neg2) && decide (0 < n1 * n2)) (n1 * n2) w) := by
 have CM := fun W (hW : Below w.heap.size w W) => nmul_any l m n1 n2 a a' c c' W (h.ext (xbw hW)) (h'.ext (xbw hW)) hn hk (by omega) (by omega)
 have CF := fun a c W => made_any (neg1 != neg2) (n1 * n2) a c W
 obtain ⟨R, hR⟩ : ∃ q, ((neg1 != neg2) && decide (0 < n1 * n2)) = q := ⟨_, rfl⟩
 rw [hR] at CF ⊢
 have hR0 : True := trivial
 revert CM CF
 generalize n1 * n2 = n
 intro CM CF
 replace CM := Hd CM; replace CF := Hd CF
 have hz : Blk (((w.alloc (.cells #[.bool neg1, .slice a l.length c] 52)).alloc (.cells #[.bool neg2, .slice a' m.length c'] 52)).alloc (.cells #[.bool false, .slice none 0 0] 52)) (w.heap.size + 1 + 1) 52 #[.bool false, .slice none 0 0] := blk_at2 w _ _ _ _
 have hx1 : Blk (((w.alloc (.cells #[.bool neg1, .slice a l.length c] 52)).alloc (.cells #[.bool neg2, .slice a' m.length c'] 52)).alloc (.cells #[.bool false, .slice none 0 0] 52)) w.heap.size 52 #[.bool neg1, .slice a l.length c] := ((Blk.new w _ _).alloc _).alloc _
 have hx2 : Blk (((w.alloc (.cells #[.bool neg1, .slice a l.length c] 52)).alloc (.cells #[.bool neg2, .slice a' m.length c'] 52)).alloc (.cells #[.bool false, .slice none 0 0] 52)) (w.heap.size + 1) 52 #[.bool neg2, .slice a' m.length c'] := (blk_at1 w _ _ _).alloc _
 have hb0 : Below w.heap.size w (((w.alloc (.cells #[.bool neg1, .slice a l.length c] 52)).alloc (.cells #[.bool neg2, .slice a' m.length c'] 52)).alloc (.cells #[.bool false, .slice none 0 0] 52)) := by go_grown
 have hgB : w.heap.size <= w.heap.size + 1 + 1 := by omega
 clear h h' hn hk hR
 go_enter Tryz.func123, Tryz.ntmps123
 go_wp2
 revert hz hx1 hx2 hb0 hgB
 generalize ((w.alloc (.cells #[.bool neg1, .slice a l.length c] 52)).alloc (.cells #[.bool neg2, .slice a' m.length c'] 52)).alloc (.cells #[.bool false, .slice none 0 0] 52) = w0
 generalize w.heap.size + 1 + 1 = g
 intro hz hx1 hx2 hb0 hgB
 have k0 := held (hx1.cell 0); have k1 := held (hx1.cell 1); have k2 := held (hx2.cell 0); have k3 := held (hx2.cell 1)
 have s0 : Below w0.heap.size w0 w0.drew := brf.drew
 have hgl := hz.lt
 have hs0 := hb0.size
 have HR := Hd hR0
 clear hR0
 cases neg1 <;> cases neg2
 all_goals
  refine wp_region_mix (S := Below w0.heap.size w0) [(0, .q), (1, .q), (2, .q), (3, .q), (4, .q), (5, .q), (6, .q), (7, .q), (8, .q), (9, .l), (10, .t), (11, .t)] (by kernel_rfl) (by kernel_rfl) (by kernel_rfl) (fun d _ _ _ _ h => by cases d <;> exact h) (s0) ?_
  iterate 9 (refine wpMix_q rfl rfl (fun K hK => ?_); apply Exists.intro; refine ⟨fun w' hw' => ?_, ?_⟩; (focus (go_simp; try rfl)); go_simp; refine hK _ _ ?_; clear hK K)
  refine wpMix_l rfl rfl (fun K hK => ?_)
  go_simp
  refine (CM.out _ (bth hb0 s0)).mono ?_
  rintro r w1 ⟨a3, c3, rfl, hV3, hb1⟩
  dsimp only
  refine hK.out _ _ (bth s0 hb1) (fun _ => ?_)
  clear hK K
  have s1 := bth s0 hb1
  have HV := Hd hV3
  clear hV3
  refine wpMix_t rfl rfl (fun K hK => ?_)
  go_simp
  refine (CF.out _ _ _).mono ?_
  rintro r w2 ⟨rfl, hb2⟩
  dsimp only
  refine hK.out _ _ ?_
  clear hK K
  have s2 := bth s1 hb2
  have hz3 := hz.below' s2
  have z0 := hz3.cell 0; have z1 := hz3.cell 1; have f0 := hz3.frozen 0; have f1 := hz3.frozen 1
  have hw2 := bth hb0 s2
  clear k0 k1 k2 k3
  refine wpMix_t rfl rfl (fun K hK => ?_)
  go_simp
  refine hK.out _ _ ?_
  clear hK K
  refine wpMix_nil ?_
  go_wp2
  have hF := blk2 (x := .bool R) (y := .slice a3 (limbs n).length c3) hz3
  have e0 := hF.cell 0; have e1 := hF.cell 1
  refine bodyPost_ret (v := .agg #[.bool R, .slice a3 (limbs n).length c3]) (by simp [results, Tryz.results123, go_sem, e0, e1]) rfl ?_
  exact ⟨a3, c3, rfl, fun V hV => HV.out V ((back2 hV hs0 hgl).below hb2), below2 hw2 hgB⟩
theorem byValue_any (l m : List Int) (n1 n2 : Nat) (a a' : Option Addr) (c c' : Nat) (w : World) (h : NatR w a c l) (h' : NatR w a' c' m) (hn : val l = n1) (hk : val m = n2) :
  Calls Tryz.prog 187 #[.slice a l.length c, .slice a' m.length c'] w fun e w' => e = .returned (.int .i64 (cmpN n1 n2)) /\ Below w.heap.size w w' := by
 have C := cmp_any l m n1 n2 a a' c c' w h h' hn hk
 replace C := Hd C
 clear h h' hn hk
 go_enter Tryz.func187, Tryz.ntmps187
 go_wp2_with fail
 refine C.out.mono ?_
 rintro e w1 ⟨rfl, hb⟩
 go_wp2
 go_ret
 exact ⟨rfl, hb⟩
theorem zcmp_sgn (neg1 neg2 : Bool) (n1 n2 : Nat) : cmpI (zval neg1 n1) (zval neg2 n2) = if sgnZ neg1 n1 < sgnZ neg2 n2 then -1 else if sgnZ neg2 n2 < sgnZ neg1 n1 then 1 else if sgnZ neg1 n1 < 0 then cmpN n2 n1 else cmpN n1 n2 := by
 unfold cmpI zval cmpN sgnZ
 cases neg1 <;> cases neg2 <;> by_cases p1 : n1 = 0 <;> by_cases p2 : n2 = 0 <;> simp [p1, p2]
 all_goals (repeat' split) <;> omega
theorem sgnZ_in (neg : Bool) (n : Nat) : -1 <= sgnZ neg n /\ sgnZ neg n <= 1 := by unfold sgnZ; split <;> (try split) <;> omega
theorem zcmp_any (neg1 neg2 : Bool) (l m : List Int) (n1 n2 : Nat) (a a' : Option Addr) (c c' : Nat) (w : World) (h : NatR w a c l) (h' : NatR w a' c' m) (hn : val l = n1) (hk : val m = n2) (hl : l.length <= 4000000) (hm : m.length <= 4000000) :
  Calls Tryz.prog 147 #[.agg #[.bool neg1, .slice a l.length c], .agg #[.bool neg2, .slice a' m.length c']] w fun e w' => e = .returned (.int .i64 (cmpI (zval neg1 n1) (zval neg2 n2))) /\ Below w.heap.size w w' := by
 have C1 := fun W (hW : Below w.heap.size w W) => zsign_any neg1 l n1 a c W (h.ext (xbw hW)) hn (by omega)
 have C2 := fun W (hW : Below w.heap.size w W) => zsign_any neg2 m n2 a' c' W (h'.ext (xbw hW)) hk (by omega)
 have CA := fun W (hW : Below w.heap.size w W) => byValue_any l m n1 n2 a a' c c' W (h.ext (xbw hW)) (h'.ext (xbw hW)) hn hk
 have CB := fun W (hW : Below w.heap.size w W) => byValue_any m l n2 n1 a' a c' c W (h'.ext (xbw hW)) (h.ext (xbw hW)) hk hn
 have hres := zcmp_sgn neg1 neg2 n1 n2
 have i1 := sgnZ_in neg1 n1
 have i2 := sgnZ_in neg2 n2
 revert C1 C2 hres i1 i2
 generalize sgnZ neg1 n1 = s
 generalize sgnZ neg2 n2 = t
 intro C1 C2 hres i1 i2
 obtain ⟨R, hR⟩ : ∃ q, cmpI (zval neg1 n1) (zval neg2 n2) = q := ⟨_, rfl⟩
 rw [hR] at hres ⊢
 have HRES := Hd hres
 replace C1 := Hd C1; replace C2 := Hd C2; replace CA := Hd CA; replace CB := Hd CB
 have hx1 : Blk ((w.alloc (.cells #[.bool neg1, .slice a l.length c] 52)).alloc (.cells #[.bool neg2, .slice a' m.length c'] 52)) w.heap.size 52 #[.bool neg1, .slice a l.length c] := (Blk.new w _ _).alloc _
 have hx2 : Blk ((w.alloc (.cells #[.bool neg1, .slice a l.length c] 52)).alloc (.cells #[.bool neg2, .slice a' m.length c'] 52)) (w.heap.size + 1) 52 #[.bool neg2, .slice a' m.length c'] := blk_at1 w _ _ _
 have hb0 : Below w.heap.size w ((w.alloc (.cells #[.bool neg1, .slice a l.length c] 52)).alloc (.cells #[.bool neg2, .slice a' m.length c'] 52)) := by go_grown
 clear h h' hn hk hR hres
 go_enter Tryz.func147, Tryz.ntmps147
 go_wp2
 revert hx1 hx2 hb0
 generalize (w.alloc (.cells #[.bool neg1, .slice a l.length c] 52)).alloc (.cells #[.bool neg2, .slice a' m.length c'] 52) = w0
 generalize w.heap.size + 1 = g
 intro hx1 hx2 hb0
 have k0 := held (hx1.cell 0); have k1 := held (hx1.cell 1); have k2 := held (hx2.cell 0); have k3 := held (hx2.cell 1)
 have s0 : Below w0.heap.size w0 w0.drew := brf.drew
 refine wp_region_mix (S := Below w0.heap.size w0) [(0, .q), (2, .q), (1, .l), (3, .t), (4, .p), (5, .p)] (by kernel_rfl) (by kernel_rfl) (by kernel_rfl) (fun d _ _ _ _ h => by cases d <;> exact h) (s0) ?_
 iterate 2 (refine wpMix_q rfl rfl (fun K hK => ?_); apply Exists.intro; refine ⟨fun w' hw' => ?_, ?_⟩; (focus (go_simp; try rfl)); go_simp; refine hK _ _ ?_; clear hK K)
 refine wpMix_l rfl rfl (fun K hK => ?_)
 go_simp
 refine (C1.out _ (bth hb0 s0)).mono ?_
 rintro r w1 ⟨rfl, hb1⟩
 dsimp only
 refine hK.out _ _ (bth s0 hb1) (fun _ => ?_)
 clear hK K
 have s1 := bth s0 hb1
 refine wpMix_t rfl rfl (fun K hK => ?_)
 go_simp
 refine (C2.out _ (bth hb0 s1)).mono ?_
 rintro r w2 ⟨rfl, hb2⟩
 dsimp only
 refine hK.out _ _ ?_
 clear hK K
 have s2 := bth s1 hb2
 iterate 2 (refine wpMix_p rfl rfl (fun K hK => ?_); apply Exists.intro; refine ⟨fun w' => ?_, ?_⟩; (focus (go_simp; try rfl)); go_simp; refine hK _ _ ?_; clear hK K)
 refine wpMix_nil ?_
 have hy1 := hx1.below' s2
 have hy2 := hx2.below' s2
 have z0 := hy1.cell 0; have z1 := hy1.cell 1; have z2 := hy2.cell 0; have z3 := hy2.cell 1
 have hw2 := bth hb0 s2
 clear k0 k1 k2 k3 s0 s1 s2 hb1 hb2 C1 C2
 by_cases h1 : s < t
 ·
  obtain rfl : R = -1 := by rw [HRES.out, if_pos h1]
  go_wp2
  go_ret
  exact ⟨rfl, hw2⟩
 ·
  by_cases h2 : t < s
  ·
   obtain rfl : R = 1 := by rw [HRES.out, if_neg h1, if_pos h2]
   go_wp2
   go_ret
   exact ⟨rfl, hw2⟩
  ·
   by_cases h3 : s < 0
   ·
    obtain rfl : R = cmpN n2 n1 := by rw [HRES.out, if_neg h1, if_neg h2, if_pos h3]
    go_wp2_with fail
    refine (CB.out _ hw2).mono ?_
    rintro e w5 ⟨rfl, hb5⟩
    go_wp2
    go_ret
    exact ⟨rfl, bth hw2 hb5⟩
   ·
    obtain rfl : R = cmpN n1 n2 := by rw [HRES.out, if_neg h1, if_neg h2, if_neg h3]
    go_wp2_with fail
    refine (CA.out _ hw2).mono ?_
    rintro e w5 ⟨rfl, hb5⟩
    go_wp2
    go_ret
    exact ⟨rfl, bth hw2 hb5⟩
theorem nsub_any (l m : List Int) (n k : Nat) (a a' : Option Addr) (c c' : Nat) (w : World) (h : NatR w a c l) (h' : NatR w a' c' m) (hn : val l = n) (hk : val m = k) (hl : l.length <= 16777215) (hm : m.length <= 16777216) (hge : k <= n) :
  Calls Tryz.prog 191 #[.slice a l.length c, .slice a' m.length c'] w (RetNE (limbs (n - k)) 0 w) := by
 have C := cmp_any l m n k a a' c c' w h h' hn hk
 have hc : 0 <= cmpN n k := cmpN_ge.2 hge
 have C1 := fun W (hW : Below w.heap.size w W) => trim_any l a c W (h.ext (xbw hW))
 have C2 := fun W (hW : Below w.heap.size w W) => trim_any m a' c' W (h'.ext (xbw hW))
 have hP := h.trim
 have hQ := h'.trim
 have hl1 := limbs_len_val h.u16
 have hl2 := limbs_len_val h'.u16
 rw [hn] at C1 hP hl1
 rw [hk] at C2 hQ hl2
 have hup := limbs_u16 n
 have huq := limbs_u16 k
 have hvp := val_limbs n
 have hvq := val_limbs k
 revert C hc
 generalize cmpN n k = q
 intro C hc
 have hcf : decide (q < 0) = false := by simp; omega
 obtain ⟨M, hM⟩ : ∃ M, n - k = M := ⟨_, rfl⟩
 rw [hM]
 have HM := Hd hM
 have HGE := Hd hge
 have hT0 : (limbs n).length <= 16777215 := by omega
 clear hl1 hl2 h h' hn hk hM hc hge
 revert C1 C2 hP hQ hup huq hvp hvq hT0
 generalize limbs n = T
 generalize limbs k = U
 intro C1 C2 hP hQ hup huq hvp hvq hT0
 have HP := Hd hP
 have HQ := Hd hQ
 have HVP := Hd hvp
 have HVQ := Hd hvq
 replace C := Hd C; replace C1 := Hd C1; replace C2 := Hd C2
 clear hP hQ hvp hvq
 go_enter Tryz.func191, Tryz.ntmps191
 go_wp2_with fail
 refine C.out.mono ?_
 rintro e w1 ⟨rfl, hb1⟩
 go_wp2_with fail
 refine (C1.out _ hb1).mono ?_
 rintro e w2 ⟨rfl, rfl⟩
 go_wp2_with fail
 refine (C2.out _ hb1).mono ?_
 rintro e w2 ⟨rfl, rfl⟩
 have hmk := run_make_nat .i64 T.length (by omega) w1
 go_wp2
 clear hmk C C1 C2 hcf
 have hz := BlkN.new w1 T.length
 have hw1s := hb1.size
 have hb0 : Below w.heap.size w (w1.alloc (.cells (madeCells #[.int .u16 0] T.length) 47)) := hb1.alloc hb1.size _
 revert hz hb0
 generalize w1.alloc (.cells (madeCells #[.int .u16 0] T.length) 47) = w0
 obtain ⟨B, hB⟩ : ∃ B, B = w1.heap.size := ⟨_, rfl⟩
 rw [<- hB] at hw1s ⊢
 clear hB
 intro hz hb0
 go_loopg [7, 8, 9, 10, 24] T.length (fun g s7 _ _ _ s24 wr => ∃ (j bo : Nat) (O : List Int), j + g = T.length /\ bo <= 1 /\ s24 = .int .i64 j /\ s7 = .int .i32 bo /\ Hid (O.length = T.length) /\ U16 O /\ BlkN wr B O /\ Below w.heap.size w wr /\
  Hid (val (T.take j) + 65536 ^ j * bo = val (U.take j) + val (O.take j)))
 case atStart => exact ⟨0, 0, _, by omega, by omega, rfl, rfl, by show _ = _; simp, u16_replicate _, hz, hb0, by show _ = _; simp [val]⟩
 case round =>
  clear hz hb0
  obtain ⟨j, bo, O, hjg, hbo, rfl, rfl, hol, hou, hrow, hwr, hval⟩ := hrel
  have HROW := Hd hrow
  have HJG := Hd hjg
  clear hrow hjg
  by_cases hlt : j < T.length
  ·
   obtain ⟨x, hx⟩ := get_of_lt hlt
   obtain ⟨hx0, hx1⟩ := hup.get hx
   obtain ⟨bp, op, rfl, hcp⟩ := (HP.out.ext (xbw hwr)).cell hx
   have hkO : j < O.length := by rw [hol.out]; exact hlt
   obtain ⟨z, hz⟩ := get_of_lt hkO
   have hcell := HROW.out.cell hz
   have hfr := HROW.out.frozen j
   have hsx := limbAt_some hx
   have hset := fun q : Int => HROW.out.set_ j q
   have HSET := Hd hset
   have htk := fun q : Int => take_set_snoc hkO q
   have hstep := fun bo2 d h1 => sub_step T U (O.take j) j bo bo2 d (by rw [List.length_take]; omega) hval.out h1
   rw [hsx] at hstep
   obtain ⟨y, rfl⟩ : ∃ y : Nat, x = (y : Int) := ⟨x.toNat, by omega⟩
   rw [Int.toNat_natCast] at hstep
   have HTK := Hd htk
   have HSTEP := Hd hstep
   clear hset hstep htk hval hx hsx hz
   by_cases hkn : j < U.length
   ·
    obtain ⟨t, ht⟩ := get_of_lt hkn
    obtain ⟨bq, oq, rfl, hcq⟩ := (HQ.out.ext (xbw hwr)).cell ht
    obtain ⟨ht0, ht1⟩ := huq.get ht
    obtain ⟨t, rfl⟩ : ∃ s : Nat, t = (s : Int) := ⟨t.toNat, by omega⟩
    have HST := HSTEP.out
    rw [limbAt_some ht, Int.toNat_natCast] at HST
    clear ht HSTEP
    by_cases hneg : (y : Int) - bo - t < 0
    ·
     obtain ⟨d, hd⟩ : ∃ d : Nat, (y : Int) - bo - t + 65536 = (d : Int) := ⟨((y : Int) - bo - t + 65536).toNat, by omega⟩
     have hd65 : d <= 65535 := by omega
     replace HST := Hd (HST 1 d (by omega))
     go_wp2
     go_roundg (gk - 1)
     case rel => exact ⟨j + 1, 1, O.set j (d : Int), by have := HJG.out; omega, by omega, by go_num, rfl, by show _ = _; rw [List.length_set]; exact hol.out, hou.set_ (by omega), HSET.out d, hwr.setCell hw1s _, by show _ = _; rw [HTK.out]; exact HST.out⟩
     case measure => have := HJG.out; omega
    ·
     obtain ⟨d, hd⟩ : ∃ d : Nat, (y : Int) - bo - t = (d : Int) := ⟨((y : Int) - bo - t).toNat, by omega⟩
     have hd65 : d <= 65535 := by omega
     replace HST := Hd (HST 0 d (by omega))
     go_wp2
     go_roundg (gk - 1)
     case rel => exact ⟨j + 1, 0, O.set j (d : Int), by have := HJG.out; omega, by omega, by go_num, rfl, by show _ = _; rw [List.length_set]; exact hol.out, hou.set_ (by omega), HSET.out d, hwr.setCell hw1s _, by show _ = _; rw [HTK.out]; exact HST.out⟩
     case measure => have := HJG.out; omega
   ·
    have HST := HSTEP.out
    rw [limbAt_none (by omega)] at HST
    clear HSTEP
    by_cases hneg : (y : Int) - bo < 0
    ·
     obtain ⟨d, hd⟩ : ∃ d : Nat, (y : Int) - bo + 65536 = (d : Int) := ⟨((y : Int) - bo + 65536).toNat, by omega⟩
     have hd65 : d <= 65535 := by omega
     replace HST := Hd (HST 1 d (by simp; omega))
     go_wp2
     go_roundg (gk - 1)
     case rel => exact ⟨j + 1, 1, O.set j (d : Int), by have := HJG.out; omega, by omega, by go_num, rfl, by show _ = _; rw [List.length_set]; exact hol.out, hou.set_ (by omega), HSET.out d, hwr.setCell hw1s _, by show _ = _; rw [HTK.out]; exact HST.out⟩
     case measure => have := HJG.out; omega
    ·
     obtain ⟨d, hd⟩ : ∃ d : Nat, (y : Int) - bo = (d : Int) := ⟨((y : Int) - bo).toNat, by omega⟩
     have hd65 : d <= 65535 := by omega
     replace HST := Hd (HST 0 d (by simp; omega))
     go_wp2
     go_roundg (gk - 1)
     case rel => exact ⟨j + 1, 0, O.set j (d : Int), by have := HJG.out; omega, by omega, by go_num, rfl, by show _ = _; rw [List.length_set]; exact hol.out, hou.set_ (by omega), HSET.out d, hwr.setCell hw1s _, by show _ = _; rw [HTK.out]; exact HST.out⟩
     case measure => have := HJG.out; omega
  ·
   obtain rfl : j = T.length := by have := HJG.out; omega
   have hvO : val O = M := by
    have h1 := sub_end (o := O) hup huq hou hol.out (by have := hval.out; rw [val_take_all (l := O) (by rw [hol.out]; omega)] at this; exact this) (by rw [HVP.out, HVQ.out]; exact HGE.out)
    rw [h1, HVP.out, HVQ.out]
    exact HM.out
   have hcap : T.length <= maxLen := by unfold maxLen; omega
   have CT := trim_any O (some ⟨B, 0, none⟩) T.length wr (HROW.out.readsV (nlr _) (New.refl _ _) hou (by rw [hol.out]; omega) hcap)
   have hread : ∀ V, New w.heap.size wr V -> NatR V (some ⟨B, 0, none⟩) T.length (limbs M) := fun V hV => by
    rw [<- hvO]
    exact (HROW.out.readsV hw1s hV hou (by rw [hol.out]; omega) hcap).trim
   rw [hvO, hol.out] at CT
   have HRD := Hd hread
   replace CT := Hd CT
   clear hread hvO hval
   go_wp2_with fail
   refine CT.out.mono ?_
   rintro e w3 ⟨rfl, rfl⟩
   go_wp2
   go_ret2
   exact ⟨_, _, rfl, HRD.out, hwr⟩
def NewIn (B T : Nat) (w V : World) : Prop := ∀ p v, B <= p.block -> p.block < T -> w.cell? p = some v -> V.cell? p = some v
def Kp (R : World -> Prop) (B T : Nat) (w : World) : Prop := ∀ V, NewIn B T w V -> R V
section
variable {R R' : World -> Prop} {B T : Nat} {w w' : World}
theorem Kp.now (h : Kp R B T w) : R w := h w fun _ _ _ _ h => h
theorem Kp.imp (h : Kp R B T w) (e : ∀ V, R V -> R' V) : Kp R' B T w := fun V hV => e V (h V hV)
theorem Kp.alloc (h : Kp R B T w) {o : Obj} : Kp R B T (w.alloc o) := fun V hV => h V fun p v h1 h2 h3 => hV p v h1 h2 ((World.cell?_alloc_lt w o p (World.block_lt_of_cell? w p h3)).trans h3)
theorem Kp.drew (h : Kp R B T w) : Kp R B T w.drew := h
theorem Kp.setc {g i : Nat} {u : Value} (hg : g < B \/ T <= g) (h : Kp R B T w) : Kp R B T (w.setCell ⟨g, i, none⟩ u) := fun V hV => h V fun p v h1 h2 h3 =>
 hV p v h1 h2 ((World.cell?_setCell_other w ⟨g, i, none⟩ p u (fun e => by subst e; simp at h1 h2; omega)).trans h3)
theorem Kp.call (h : Kp R B T w) (hb : Below w.heap.size w w') : Kp R B T w' := fun V hV => h V fun p v h1 h2 h3 => hV p v h1 h2 ((hb.cell (World.block_lt_of_cell? w p h3)).trans h3)
theorem Kp.made (h : ∀ V, New B w V -> R V) : Kp R B w.heap.size w := fun V hV => h V fun p v h1 h2 => hV p v h1 (World.block_lt_of_cell? w p h2) h2
theorem Kp.fin (h : Kp R B T w) {B' : Nat} (hB : B' <= B) : ∀ V, New B' w V -> R V := fun V hV => h V fun p v h1 _ h3 => hV p v (Nat.le_trans hB h1) h3
end
section
variable {w w' : World} {g g2 i : Nat} {t : TypeId} {cs cs' : Array Value} {u : Value}
theorem Blk.newAt (h : g = w.heap.size) : Blk (w.alloc (.cells cs t)) g t cs := by subst h; exact Blk.new w t cs
theorem Blk.farAt (hg : g ≠ g2) (h : Blk w g t cs) : Blk (w.setCell ⟨g2, i, none⟩ u) g t cs := h.far (p := ⟨g2, i, none⟩) hg u
theorem Blk.setb (h : Blk w g t cs') (e : cs'.setIfInBounds i u = cs) : Blk (w.setCell ⟨g, i, none⟩ u) g t cs := e ▸ h.set_ i u
theorem bF (hg : g ≠ g2) (h : Blk w g t cs) : Blk (w.setCell ⟨g2, i, none⟩ u) g t cs := h.farAt hg
theorem bS (h : Blk w g t cs') (e : cs'.setIfInBounds i u = cs) : Blk (w.setCell ⟨g, i, none⟩ u) g t cs := h.setb e
theorem bN (h : g = w.heap.size) : Blk (w.alloc (.cells cs t)) g t cs := Blk.newAt h
theorem bA {o : Obj} (h : Blk w g t cs) : Blk (w.alloc o) g t cs := h.alloc o
theorem bD (h : Blk w g t cs) : Blk w.drew g t cs := h.drew
end
theorem calls_gen {P : Program} {f : Nat} {args : Array Value} {W : World} {Q : Ending -> World -> Prop} (R : World -> Prop) (hR : R W) (h : ∀ W', R W' -> Calls P f args W' Q) : Calls P f args W Q := h W hR
theorem world_gen {G : World -> Prop} {W : World} (R : World -> Prop) (hR : R W) (h : ∀ W', R W' -> G W') : G W := h W hR
theorem zsum_same (neg : Bool) (n1 n2 : Nat) : zval neg n1 + zval neg n2 = zval neg (n1 + n2) := by unfold zval; cases neg <;> simp; omega
theorem zsum_other {neg1 neg2 : Bool} (h : neg1 ≠ neg2) (n1 n2 : Nat) : (n2 <= n1 -> zval neg1 n1 + zval neg2 n2 = zval neg1 (n1 - n2)) /\ (n1 <= n2 -> zval neg1 n1 + zval neg2 n2 = zval neg2 (n2 - n1)) := by
 unfold zval; cases neg1 <;> cases neg2 <;> simp at h ⊢ <;> omega
theorem zval_lt0 (neg : Bool) (n : Nat) : decide (zval neg n < 0) = (neg && decide (0 < n)) := by
 unfold zval; cases neg <;> simp
theorem zval_abs0 (neg : Bool) (n : Nat) : (zval neg n).natAbs = n := by unfold zval; split <;> omega
def RetI (z : Int) (w : World) (e : Ending) (w' : World) : Prop := RetZ (decide (z < 0)) z.natAbs w e w'
theorem retI_of {neg : Bool} {n : Nat} {z : Int} {w : World} {e : Ending} {w' : World} (hz : z = zval neg n) (h : RetZ (neg && decide (0 < n)) n w e w') : RetI z w e w' := by
 subst hz
 unfold RetI
 rw [zval_lt0, zval_abs0]
 exact h
theorem zadd_same (neg1 : Bool) (l m : List Int) (n1 n2 : Nat) (a a' : Option Addr) (c c' : Nat) (w : World) (h : NatR w a c l) (h' : NatR w a' c' m) (hn : val l = n1) (hk : val m = n2) (hl : l.length <= 4000000) (hm : m.length <= 4000000) :
  Calls Tryz.prog 163 #[.agg #[.bool neg1, .slice a l.length c], .agg #[.bool neg1, .slice a' m.length c']] w (RetI (zval neg1 n1 + zval neg1 n2) w) := by
 have CA := fun W (hW : Below w.heap.size w W) => nadd_any l m n1 n2 a a' c c' W (h.ext (xbw hW)) (h'.ext (xbw hW)) hn hk (by omega) (by omega)
 have CF := fun a c W => made_any neg1 (n1 + n2) a c W
 refine Calls.mono ?_ fun _ _ => retI_of (zsum_same neg1 n1 n2)
 obtain ⟨R, hR⟩ : ∃ q, (neg1 && decide (0 < n1 + n2)) = q := ⟨_, rfl⟩
 rw [hR] at CF ⊢
 revert CA CF
 generalize n1 + n2 = n
 intro CA CF
 replace CA := Hd CA; replace CF := Hd CF
 clear h h' hn hk hR
 have hx1 := blk_at2 w (.cells #[.bool neg1, .slice a l.length c] 52) (.cells #[.bool neg1, .slice a' m.length c'] 52) 52 #[.bool false, .slice none 0 0]
 have hz : Blk (((w.alloc (.cells #[.bool neg1, .slice a l.length c] 52)).alloc (.cells #[.bool neg1, .slice a' m.length c'] 52)).alloc (.cells #[.bool false, .slice none 0 0] 52)) (w.heap.size + 1 + 1) 52 #[.bool false, .slice none 0 0] := hx1
 have hx1 : Blk (((w.alloc (.cells #[.bool neg1, .slice a l.length c] 52)).alloc (.cells #[.bool neg1, .slice a' m.length c'] 52)).alloc (.cells #[.bool false, .slice none 0 0] 52)) w.heap.size 52 #[.bool neg1, .slice a l.length c] := ((Blk.new w _ _).alloc _).alloc _
 have hx2 : Blk (((w.alloc (.cells #[.bool neg1, .slice a l.length c] 52)).alloc (.cells #[.bool neg1, .slice a' m.length c'] 52)).alloc (.cells #[.bool false, .slice none 0 0] 52)) (w.heap.size + 1) 52 #[.bool neg1, .slice a' m.length c'] := (blk_at1 w _ _ _).alloc _
 have hb0 : Below w.heap.size w (((w.alloc (.cells #[.bool neg1, .slice a l.length c] 52)).alloc (.cells #[.bool neg1, .slice a' m.length c'] 52)).alloc (.cells #[.bool false, .slice none 0 0] 52)) := by go_grown
 have hg2 : w.heap.size < w.heap.size + 1 + 1 := by omega
 go_enter Tryz.func163, Tryz.ntmps163
 go_wp2
 revert hz hx1 hx2 hb0 hg2
 generalize ((w.alloc (.cells #[.bool neg1, .slice a l.length c] 52)).alloc (.cells #[.bool neg1, .slice a' m.length c'] 52)).alloc (.cells #[.bool false, .slice none 0 0] 52) = w0
 generalize w.heap.size + 1 + 1 = g3
 generalize w.heap.size + 1 = g2
 intro hz hx1 hx2 hb0 hg2
 have hs0 := hb0.size
 have hgl := hz.lt
 have k0 := held (hx1.cell 0); have k1 := held (hx1.cell 1); have k2 := held (hx2.cell 1)
 have s0 : Below w0.heap.size w0 w0.drew := brf.drew
 refine wp_region_mix (S := Below w0.heap.size w0) [(0, .q), (1, .q), (2, .q), (3, .q), (4, .q), (5, .q), (6, .l), (7, .t), (8, .t)] (by kernel_rfl) (by kernel_rfl) (by kernel_rfl) (fun d _ _ _ _ h => by cases d <;> exact h) (s0) ?_
 iterate 6 (refine wpMix_q rfl rfl (fun K hK => ?_); apply Exists.intro; refine ⟨fun w' hw' => ?_, ?_⟩; (focus (go_simp; try rfl)); go_simp; refine hK _ _ ?_; clear hK K)
 refine wpMix_l rfl rfl (fun K hK => ?_)
 go_simp
 refine (CA.out _ (bth hb0 s0)).mono ?_
 rintro r w1 ⟨a3, c3, rfl, hV3, hb1⟩
 dsimp only
 refine hK.out _ _ (bth s0 hb1) (fun _ => ?_)
 clear hK K
 have s1 := bth s0 hb1
 have HV := Hd hV3
 clear hV3
 refine wpMix_t rfl rfl (fun K hK => ?_)
 go_simp
 refine (CF.out a3 c3 _).mono ?_
 rintro r w2 ⟨rfl, hb2⟩
 dsimp only
 refine hK.out _ _ ?_
 clear hK K
 obtain ⟨a4, rfl⟩ : ∃ a4, a4 = a3 := ⟨_, rfl⟩
 obtain ⟨c4, rfl⟩ : ∃ c4, c4 = c3 := ⟨_, rfl⟩
 have s2 := bth s1 hb2
 have hz3 := hz.below' s2
 have z0 := hz3.cell 0; have z1 := hz3.cell 1; have f0 := hz3.frozen 0; have f1 := hz3.frozen 1
 have hw2 := bth hb0 s2
 clear k0 k1 k2
 refine wpMix_t rfl rfl (fun K hK => ?_)
 go_simp
 refine hK.out _ _ ?_
 clear hK K
 refine wpMix_nil ?_
 go_wp2
 have hF := blk2 (x := .bool R) (y := .slice a4 (limbs n).length c4) hz3
 have e0 := hF.cell 0; have e1 := hF.cell 1
 refine bodyPost_ret (v := .agg #[.bool R, .slice a4 (limbs n).length c4]) (by simp [results, Tryz.results163, go_sem, e0, e1]) rfl ?_
 exact ⟨a4, c4, rfl, fun V hV => HV.out V ((back2 hV hs0 hgl).below hb2), below2 hw2 (Nat.le_of_lt hg2)⟩
theorem zadd_other (neg1 neg2 : Bool) (l m : List Int) (n1 n2 : Nat) (a a' : Option Addr) (c c' : Nat) (w : World) (h : NatR w a c l) (h' : NatR w a' c' m) (hn : val l = n1) (hk : val m = n2) (hl : l.length <= 4000000) (hm : m.length <= 4000000) (hne : neg1 ≠ neg2) :
  Calls Tryz.prog 163 #[.agg #[.bool neg1, .slice a l.length c], .agg #[.bool neg2, .slice a' m.length c']] w (RetI (zval neg1 n1 + zval neg2 n2) w) := by
 have hsum := zsum_other hne n1 n2
 have hbe : (neg1 == neg2) = false := by simpa using hne
 have CC := fun W (hW : Below w.heap.size w W) => cmp_any l m n1 n2 a a' c c' W (h.ext (xbw hW)) (h'.ext (xbw hW)) hn hk
 by_cases hlt : n1 < n2
 ·
  have CS := fun W (hW : Below w.heap.size w W) => nsub_any m l n2 n1 a' a c' c W (h'.ext (xbw hW)) (h.ext (xbw hW)) hk hn (by omega) (by omega) (by omega)
  have CF := fun a c W => made_any neg2 (n2 - n1) a c W
  refine Calls.mono ?_ fun _ _ => retI_of (hsum.2 (by omega))
  have hc : cmpN n1 n2 = -1 := by unfold cmpN; rw [if_pos hlt]
  rw [hc] at CC
  obtain ⟨R, hR⟩ : ∃ q, (neg2 && decide (0 < n2 - n1)) = q := ⟨_, rfl⟩
  rw [hR] at CF ⊢
  unfold RetNE at CS
  revert CS CF
  generalize n2 - n1 = n
  intro CS CF
  replace CC := Hd CC; replace CS := Hd CS; replace CF := Hd CF
  clear h h' hn hk hR hsum hne hc hlt
  go_enter Tryz.func163, Tryz.ntmps163
  go_wp2_with fail
  refine calls_gen (fun W => Blk W w.heap.size 52 #[.bool neg1, .slice a l.length c] /\ Blk W (w.heap.size + 1) 52 #[.bool neg2, .slice a' m.length c'] /\ Blk W (w.heap.size + 1 + 1) 52 #[.bool false, .slice none 0 0] /\ Below w.heap.size w W /\ w.heap.size < w.heap.size + 1 /\ w.heap.size + 1 < w.heap.size + 1 + 1 /\ w.heap.size + 1 + 1 < W.heap.size) ⟨((Blk.new w _ _).alloc _).alloc _, (blk_at1 w _ _ _).alloc _, blk_at2 w _ _ _ _, by go_grown, by omega, by omega, by simp⟩ ?_
  rintro w0 ⟨hx1, hx2, hz, hw0, hg1, hg2, hg3⟩
  revert hx1 hx2 hz hg1 hg2 hg3
  generalize w.heap.size + 1 + 1 = g3
  generalize w.heap.size + 1 = g2
  intro hx1 hx2 hz hg1 hg2 hg3
  have z0 := hx1.cell 0; have z1 := hx1.cell 1; have z2 := hx2.cell 0; have z3 := hx2.cell 1
  refine (CC.out _ hw0).mono ?_
  rintro e w1 ⟨rfl, hb1⟩
  replace hx1 := hx1.below' hb1
  replace hx2 := hx2.below' hb1
  replace hz := hz.below' hb1
  have hw1 := bth hw0 hb1
  have hs1 := hb1.size
  clear z0 z1 z2 z3
  have z0 := hx1.cell 0; have z1 := hx1.cell 1; have z2 := hx2.cell 0; have z3 := hx2.cell 1; have f0 := hx1.frozen 0; have f1 := hx1.frozen 1; have f2 := hx2.frozen 0; have f3 := hx2.frozen 1
  have hn1 : ¬ g2 = w.heap.size := by omega
  have hn2 : ¬ w.heap.size = g2 := by omega
  go_wp2_with fail
  refine calls_gen (fun W => Blk W w.heap.size 52 #[.bool neg2, .slice a' m.length c'] /\ Blk W g3 52 #[.bool false, .slice none 0 0] /\ Below w.heap.size w W /\ w1.heap.size <= W.heap.size) ⟨by ((with_reducible repeat first|assumption|(apply bF;focus omega)|apply bS|(apply bN;focus (simp;done))|apply bA|apply bD);all_goals rfl), by ((with_reducible repeat first|assumption|(apply bF;focus omega)|apply bS|(apply bN;focus (simp;done))|apply bA|apply bD);all_goals rfl), by go_grown, by simp⟩ ?_
  rintro w2 ⟨hx, hy, hw2, hs2⟩
  clear z0 z1 z2 z3 f0 f1 f2 f3 hx1 hx2 hz
  refine (CS.out _ hw2).mono ?_
  rintro e w3 ⟨a3, c3, rfl, hV, hb3⟩
  have HV := Hd hV
  replace hx := hx.below' hb3
  replace hy := hy.below' hb3
  have hw3 := bth hw2 hb3
  have hs3 := hb3.size
  have z0 := hx.cell 0
  clear hV
  go_wp2_with fail
  refine (CF.out a3 c3 _).mono ?_
  rintro e w4 ⟨rfl, hb4⟩
  replace hy := hy.below' hb4
  have hw4 := bth hw3 hb4
  clear z0 hx
  have z0 := hy.cell 0; have z1 := hy.cell 1; have f0 := hy.frozen 0; have f1 := hy.frozen 1
  go_wp2
  have hF := blk2 (x := .bool R) (y := .slice a3 (limbs n).length c3) hy
  have e0 := hF.cell 0; have e1 := hF.cell 1
  refine bodyPost_ret (v := .agg #[.bool R, .slice a3 (limbs n).length c3]) (by simp [results, Tryz.results163, go_sem, e0, e1]) rfl ?_
  exact ⟨a3, c3, rfl, fun V hV => HV.out V ((back2 hV hw2.size (show g3 < w2.heap.size by omega)).below hb4), below2 hw4 (by omega)⟩
 ·
  have CS := fun W (hW : Below w.heap.size w W) => nsub_any l m n1 n2 a a' c c' W (h.ext (xbw hW)) (h'.ext (xbw hW)) hn hk (by omega) (by omega) (by omega)
  have CF := fun a c W => made_any neg1 (n1 - n2) a c W
  refine Calls.mono ?_ fun _ _ => retI_of (hsum.1 (by omega))
  have hc : 0 <= cmpN n1 n2 := cmpN_ge.2 (by omega)
  revert CC hc
  generalize cmpN n1 n2 = q
  intro CC hc
  have hq : ¬ q < 0 := by omega
  obtain ⟨R, hR⟩ : ∃ q, (neg1 && decide (0 < n1 - n2)) = q := ⟨_, rfl⟩
  rw [hR] at CF ⊢
  unfold RetNE at CS
  revert CS CF
  generalize n1 - n2 = n
  intro CS CF
  replace CC := Hd CC; replace CS := Hd CS; replace CF := Hd CF
  clear h h' hn hk hR hsum hne hc hlt
  go_enter Tryz.func163, Tryz.ntmps163
  go_wp2_with fail
  refine calls_gen (fun W => Blk W w.heap.size 52 #[.bool neg1, .slice a l.length c] /\ Blk W (w.heap.size + 1) 52 #[.bool neg2, .slice a' m.length c'] /\ Blk W (w.heap.size + 1 + 1) 52 #[.bool false, .slice none 0 0] /\ Below w.heap.size w W /\ w.heap.size < w.heap.size + 1 /\ w.heap.size + 1 < w.heap.size + 1 + 1 /\ w.heap.size + 1 + 1 < W.heap.size) ⟨((Blk.new w _ _).alloc _).alloc _, (blk_at1 w _ _ _).alloc _, blk_at2 w _ _ _ _, by go_grown, by omega, by omega, by simp⟩ ?_
  rintro w0 ⟨hx1, hx2, hz, hw0, hg1, hg2, hg3⟩
  revert hx1 hx2 hz hg1 hg2 hg3
  generalize w.heap.size + 1 + 1 = g3
  generalize w.heap.size + 1 = g2
  intro hx1 hx2 hz hg1 hg2 hg3
  have z0 := hx1.cell 0; have z1 := hx1.cell 1; have z2 := hx2.cell 0; have z3 := hx2.cell 1
  refine (CC.out _ hw0).mono ?_
  rintro e w1 ⟨rfl, hb1⟩
  replace hx1 := hx1.below' hb1
  replace hx2 := hx2.below' hb1
  replace hz := hz.below' hb1
  have hw1 := bth hw0 hb1
  have hs1 := hb1.size
  clear z0 z1 z2 z3
  have z0 := hx1.cell 0; have z1 := hx1.cell 1; have z2 := hx2.cell 0; have z3 := hx2.cell 1
  go_wp2_with fail
  refine (CS.out _ hw1).mono ?_
  rintro e w3 ⟨a3, c3, rfl, hV, hb3⟩
  have HV := Hd hV
  replace hx1 := hx1.below' hb3
  replace hz := hz.below' hb3
  have hw3 := bth hw1 hb3
  have hs3 := hb3.size
  clear hV z0 z1 z2 z3 hx2
  have z0 := hx1.cell 0
  go_wp2_with fail
  refine (CF.out a3 c3 _).mono ?_
  rintro e w4 ⟨rfl, hb4⟩
  replace hz := hz.below' hb4
  have hw4 := bth hw3 hb4
  clear z0 hx1
  have z0 := hz.cell 0; have z1 := hz.cell 1; have f0 := hz.frozen 0; have f1 := hz.frozen 1
  go_wp2
  have hF := blk2 (x := .bool R) (y := .slice a3 (limbs n).length c3) hz
  have e0 := hF.cell 0; have e1 := hF.cell 1
  refine bodyPost_ret (v := .agg #[.bool R, .slice a3 (limbs n).length c3]) (by simp [results, Tryz.results163, go_sem, e0, e1]) rfl ?_
  exact ⟨a3, c3, rfl, fun V hV => HV.out V ((back2 hV hw1.size (show g3 < w1.heap.size by omega)).below hb4), below2 hw4 (by omega)⟩
theorem zadd_any (neg1 neg2 : Bool) (l m : List Int) (n1 n2 : Nat) (a a' : Option Addr) (c c' : Nat) (w : World) (h : NatR w a c l) (h' : NatR w a' c' m) (hn : val l = n1) (hk : val m = n2) (hl : l.length <= 4000000) (hm : m.length <= 4000000) :
  Calls Tryz.prog 163 #[.agg #[.bool neg1, .slice a l.length c], .agg #[.bool neg2, .slice a' m.length c']] w (RetI (zval neg1 n1 + zval neg2 n2) w) := by
 by_cases hne : neg1 = neg2
 ·
  subst hne
  exact zadd_same neg1 l m n1 n2 a a' c c' w h h' hn hk hl hm
 · exact zadd_other neg1 neg2 l m n1 n2 a a' c c' w h h' hn hk hl hm hne
def RetQ (neg : Bool) (n d : Nat) (w : World) (e : Ending) (w' : World) : Prop := ∃ na nc da dc, e = .returned (.agg #[.bool neg, .slice na (limbs n).length nc, .slice da (limbs d).length dc]) /\
 (∀ V, New w.heap.size w' V -> NatR V na nc (limbs n)) /\ (∀ V, New w.heap.size w' V -> NatR V da dc (limbs d)) /\ Below w.heap.size w w'
def lowest (neg : Bool) (n d : Nat) : Bool × Nat × Nat := if d = 0 then (false, 0, 1) else (neg && decide (0 < n / Nat.gcd n d), n / Nat.gcd n d, d / Nat.gcd n d)
def RetF (t : Bool × Nat × Nat) (w : World) (e : Ending) (w' : World) : Prop := RetQ t.1 t.2.1 t.2.2 w e w'
def RetM (t : Bool × Nat × Nat) (w : World) (e : Ending) (w' : World) : Prop := ∃ na nc da dc, e = .returned (.tuple #[.agg #[.bool t.1, .slice na (limbs t.2.1).length nc, .slice da (limbs t.2.2).length dc], .int .i64 0]) /\
 (∀ V, New w.heap.size w' V -> NatR V na nc (limbs t.2.1)) /\ (∀ V, New w.heap.size w' V -> NatR V da dc (limbs t.2.2)) /\ Below w.heap.size w w'
theorem zval_pos (neg : Bool) (n : Nat) : zval (neg && decide (0 < n)) n = zval neg n := by
 by_cases hn : n = 0
 ·
  subst hn
  simp [zval]
 ·
  have : decide (0 < n) = true := by rw [decide_eq_true_eq]; omega
  rw [this, Bool.and_true]
theorem lowest_num (neg : Bool) (n d : Nat) : (lowest neg n d).2.1 <= n := by
 unfold lowest
 split
 · exact Nat.zero_le _
 · exact Nat.div_le_self _ _
theorem lowest_den (neg : Bool) (n d : Nat) : (lowest neg n d).2.2 <= d + 1 := by
 unfold lowest
 split
 · show 1 <= d + 1; omega
 · exact Nat.le_succ_of_le (Nat.div_le_self _ _)
theorem limbs_one : limbs 1 = [1] := by rw [limbs_pos (by omega)]; simp [limbs_zero]
theorem unit_any (w : World) : Calls Tryz.prog 104 #[] w (RetN (limbs 1) w) := by
 rw [limbs_one]
 go_enter Tryz.func104, Tryz.ntmps104
 go_wp2
 go_ret
 refine ⟨some ⟨w.heap.size, 0, none⟩, 1, rfl, fun V hV => ?_, brf.alloc (nlr _) _⟩
 exact BlkN.readsV (l := [1]) (B := w.heap.size) (Blk.new w _ _) (nlr _) hV (by intro x hx; simp at hx; omega) (by simp) (by simp [maxLen])
theorem parts_any (neg : Bool) (l m : List Int) (a a' : Option Addr) (c c' : Nat) (w : World) (h' : NatR w a' c' m) (h0 : val m ≠ 0) (hm : m.length <= 16777216) :
  Calls Tryz.prog 55 #[.agg #[.bool neg, .slice a l.length c, .slice a' m.length c']] w fun e w' =>
   e = .returned (.tuple #[.agg #[.bool neg, .slice a l.length c], .slice a' m.length c']) /\ Below w.heap.size w w' := by
 have CB := fun W (hW : Below w.heap.size w W) => bits_any m (val m) a' c' W (h'.ext (xbw hW)) rfl hm
 replace CB := Hd CB
 have hx : Blk ((w.alloc (.cells #[.bool neg, .slice a l.length c, .slice a' m.length c'] 54)).alloc (.cells #[.bool false, .slice none 0 0] 52)) w.heap.size 54 #[.bool neg, .slice a l.length c, .slice a' m.length c'] := (Blk.new w _ _).alloc _
 have hz : Blk ((w.alloc (.cells #[.bool neg, .slice a l.length c, .slice a' m.length c'] 54)).alloc (.cells #[.bool false, .slice none 0 0] 52)) (w.heap.size + 1) 52 #[.bool false, .slice none 0 0] := blk_at1 w _ _ _
 have hb0 : Below w.heap.size w ((w.alloc (.cells #[.bool neg, .slice a l.length c, .slice a' m.length c'] 54)).alloc (.cells #[.bool false, .slice none 0 0] 52)) := by go_grown
 have hgB : w.heap.size < w.heap.size + 1 := by omega
 have hgl := hz.lt
 clear h'
 go_enter Tryz.func55, Tryz.ntmps55
 go_wp2_with fail
 revert hx hz hb0 hgB hgl
 generalize (w.alloc (.cells #[.bool neg, .slice a l.length c, .slice a' m.length c'] 54)).alloc (.cells #[.bool false, .slice none 0 0] 52) = w0
 generalize w.heap.size + 1 = g
 intro hx hz hb0 hgB hgl
 have z0 := hx.cell 0; have z1 := hx.cell 1; have z2 := hx.cell 2
 go_wp2_with fail
 refine (CB.out _ hb0).mono ?_
 rintro e w1 ⟨b, rfl, hb, rfl⟩
 have e0 : ((b : Int) == 0) = false := by rw [beq_eq_false_iff_ne]; have := hb.out.2.1 (by omega); omega
 clear hb h0
 have y0 := hz.cell 0; have y1 := hz.cell 1; have f0 := hz.frozen 0; have f1 := hz.frozen 1
 have k0 : ∀ W, Blk W w.heap.size 54 #[.bool neg, .slice a l.length c, .slice a' m.length c'] -> W.cell? ⟨w.heap.size, 0, none⟩ = some (.bool neg) := fun W h => h.cell 0
 have k1 : ∀ W, Blk W w.heap.size 54 #[.bool neg, .slice a l.length c, .slice a' m.length c'] -> W.cell? ⟨w.heap.size, 1, none⟩ = some (.slice a l.length c) := fun W h => h.cell 1
 have k2 : ∀ W, Blk W w.heap.size 54 #[.bool neg, .slice a l.length c, .slice a' m.length c'] -> W.cell? ⟨w.heap.size, 2, none⟩ = some (.slice a' m.length c') := fun W h => h.cell 2
 have s0 := hx.drew
 have hne : ¬ w.heap.size = g := by omega
 go_wp2
 refine wp_region_mix (S := (fun W => Blk W w.heap.size 54 #[.bool neg, .slice a l.length c, .slice a' m.length c'])) [(0, .q), (1, .q), (2, .q), (3, .q), (4, .l), (5, .p)] (by kernel_rfl) (by kernel_rfl) (by kernel_rfl) (fun d _ _ _ _ h => by cases d <;> exact h) (s0) ?_
 iterate 4 (refine wpMix_q rfl rfl (fun K hK => ?_); apply Exists.intro; refine ⟨fun w' hw' => ?_, ?_⟩; (focus (go_simp; try rfl)); go_simp; refine hK _ _ ?_; clear hK K)
 refine wpMix_l rfl rfl (fun K hK => ?_)
 go_simp
 refine hK.out _ _ (((hx.far (p := ⟨g, 0, none⟩) hne (.bool neg)).far (p := ⟨g, 1, none⟩) hne (.slice a l.length c)).drew) (fun _ => ?_)
 clear hK K
 iterate 1 (refine wpMix_p rfl rfl (fun K hK => ?_); apply Exists.intro; refine ⟨fun w' => ?_, ?_⟩; (focus (go_simp; try rfl)); go_simp; refine hK _ _ ?_; clear hK K)
 refine wpMix_nil ?_
 go_wp2
 have hF := (blk2 (x := .bool neg) (y := .slice a l.length c) hz).drew
 have q0 := hF.cell 0; have q1 := hF.cell 1
 refine bodyPost_ret (v := .tuple #[.agg #[.bool neg, .slice a l.length c], .slice a' m.length c']) (by simp [results, Tryz.results55, go_sem, q0, q1]) rfl ?_
 exact ⟨rfl, (below2 hb0 (Nat.le_of_lt hgB)).drew⟩
end Go.Proofs.YtkjnkpkagcboeaaGreatDoor
