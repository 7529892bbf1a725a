/- Walk: the reference's comparison of two candidates (layer 27: Same), where they are alike. -/
import Derived.Test.YtdnblkklgdnapaaGreatRc14
import Derived.Test.YtdnblkklgdnapaaGreatRc17
set_option linter.all false
set_option maxRecDepth 100000
set_option maxHeartbeats 4000000
namespace Go.Proofs.YtdnblkklgdnapaaGreat
open Go.RowKit
theorem nthS_bad (f : Fig) (k : Int) (t : Nat × Nat × Int) (sa : Option Addr) (sc : Nat) (ga : Option Addr) (gc : Nat) (w : World) (hne : t.2.2 ≠ 0)
  (C : ∀ W, Below w.heap.size w W -> Calls Tryz.prog 7 #[f.val sa sc ga gc] W (RetCh t W)) :
  Calls Tryz.prog 4 #[f.val sa sc ga gc, .int .i64 k] w (RetNthE t.2.2 w) := by
 unfold Fig.val at C ⊢
 unfold RetNthE
 have hb : (t.2.2 != 0) = true := by simpa using hne
 obtain ⟨t1, t2, t3⟩ := t
 dsimp only at C hb ⊢
 unfold RetCh at C
 dsimp only at C
 replace C := Hd C; replace hne := Hd hne
 go_enter Tryz.func4, Tryz.ntmps4
 go_wp2_with fail
 refine calls_gen (fun W => Below w.heap.size w W) (by go_grown) ?_
 intro w0 hw0
 refine (C.out w0 hw0).mono ?_
 rintro e w1 ⟨rfl, hb1⟩
 have hw1 := bth hw0 hb1
 clear hw0 hb1 C
 go_wp2
 refine bodyPost_ret (v := .tuple #[.slice none 0 0, .slice none 0 0, .int .i64 t3]) (by simp [results, Tryz.results4, go_sem]) rfl ?_
 exact ⟨hw1, rfl⟩
theorem nthS_neg (f : Fig) (k : Int) (t1 t2 : Nat) (sa : Option Addr) (sc : Nat) (ga : Option Addr) (gc : Nat) (w : World) (hk : k < 0)
  (C : ∀ W, Below w.heap.size w W -> Calls Tryz.prog 7 #[f.val sa sc ga gc] W (RetCh (t1, t2, 0) W)) :
  Calls Tryz.prog 4 #[f.val sa sc ga gc, .int .i64 k] w (RetNthE 2 w) := by
 unfold Fig.val at C ⊢
 unfold RetNthE
 unfold RetCh at C
 dsimp only at C
 replace C := Hd C
 go_enter Tryz.func4, Tryz.ntmps4
 go_wp2_with fail
 refine calls_gen (fun W => Below w.heap.size w W) (by go_grown) ?_
 intro w0 hw0
 refine (C.out w0 hw0).mono ?_
 rintro e w1 ⟨rfl, hb1⟩
 have hw1 := bth hw0 hb1
 clear hw0 hb1 C
 go_wp2
 refine bodyPost_ret (v := .tuple #[.slice none 0 0, .slice none 0 0, .int .i64 2]) (by simp [results, Tryz.results4, go_sem]) rfl ?_
 exact ⟨hw1, rfl⟩
theorem nthR_bad (f : Fig) (k : Int) (t : Nat × Nat × Int) (sa : Option Addr) (sc : Nat) (ga : Option Addr) (gc : Nat) (w : World) (hne : t.2.2 ≠ 0)
  (C : ∀ W, Below w.heap.size w W -> Calls Tryz.prog 10 #[f.val sa sc ga gc] W (RetCh t W)) :
  Calls Tryz.prog 5 #[f.val sa sc ga gc, .int .i64 k] w (RetNthE t.2.2 w) := by
 unfold Fig.val at C ⊢
 unfold RetNthE
 have hb : (t.2.2 != 0) = true := by simpa using hne
 obtain ⟨t1, t2, t3⟩ := t
 dsimp only at C hb ⊢
 unfold RetCh at C
 dsimp only at C
 replace C := Hd C; replace hne := Hd hne
 go_enter Tryz.func5, Tryz.ntmps5
 go_wp2_with fail
 refine calls_gen (fun W => Below w.heap.size w W) (by go_grown) ?_
 intro w0 hw0
 refine (C.out w0 hw0).mono ?_
 rintro e w1 ⟨rfl, hb1⟩
 have hw1 := bth hw0 hb1
 clear hw0 hb1 C
 go_wp2
 refine bodyPost_ret (v := .tuple #[.slice none 0 0, .slice none 0 0, .int .i64 t3]) (by simp [results, Tryz.results5, go_sem]) rfl ?_
 exact ⟨hw1, rfl⟩
theorem nthR_neg (f : Fig) (k : Int) (t1 t2 : Nat) (sa : Option Addr) (sc : Nat) (ga : Option Addr) (gc : Nat) (w : World) (hk : k < 0)
  (C : ∀ W, Below w.heap.size w W -> Calls Tryz.prog 10 #[f.val sa sc ga gc] W (RetCh (t1, t2, 0) W)) :
  Calls Tryz.prog 5 #[f.val sa sc ga gc, .int .i64 k] w (RetNthE 2 w) := by
 unfold Fig.val at C ⊢
 unfold RetNthE
 unfold RetCh at C
 dsimp only at C
 replace C := Hd C
 go_enter Tryz.func5, Tryz.ntmps5
 go_wp2_with fail
 refine calls_gen (fun W => Below w.heap.size w W) (by go_grown) ?_
 intro w0 hw0
 refine (C.out w0 hw0).mono ?_
 rintro e w1 ⟨rfl, hb1⟩
 have hw1 := bth hw0 hb1
 clear hw0 hb1 C
 go_wp2
 refine bodyPost_ret (v := .tuple #[.slice none 0 0, .slice none 0 0, .int .i64 2]) (by simp [results, Tryz.results5, go_sem]) rfl ?_
 exact ⟨hw1, rfl⟩
theorem half_pow (k i : Nat) : k / 2 ^ i / 2 = k / 2 ^ (i + 1) := by rw [Nat.div_div_eq_div_mul, Nat.pow_succ]
theorem int_half (M : Nat) : (M : Int) / 2 = ((M / 2 : Nat) : Int) := by push_cast; rfl
theorem nthS_good (f : Fig) (k t1 t2 : Nat) (sa : Option Addr) (sc : Nat) (ga : Option Addr) (gc : Nat) (w : World) (hk : k < 9223372036854775808) (h1 : t1 <= 64) (h2 : t2 <= 100)
  (C : ∀ W, Below w.heap.size w W -> Calls Tryz.prog 7 #[f.val sa sc ga gc] W (RetCh (t1, t2, 0) W)) :
  Calls Tryz.prog 4 #[f.val sa sc ga gc, .int .i64 k] w (RetNthG t1 t2 k w) := by
 unfold Fig.val at C ⊢
 unfold RetNthG
 unfold RetCh at C
 dsimp only at C ⊢
 replace C := Hd C
 obtain ⟨BR, hBR⟩ : ∃ l, l = brN k t2 := ⟨_, rfl⟩
 obtain ⟨VA, hVA⟩ : ∃ l, l = vaN k t2 t1 := ⟨_, rfl⟩
 rw [<- hBR, <- hVA]
 replace hBR := Hd hBR; replace hVA := Hd hVA
 have HK := Hd hk
 have hk0 : ¬ ((k : Int) < 0) := by omega
 clear hk
 go_enter Tryz.func4, Tryz.ntmps4
 go_wp2_with fail
 refine calls_gen (fun W => Below w.heap.size w W) (by go_grown) ?_
 intro w0 hw0
 refine (C.out w0 hw0).mono ?_
 rintro e w1 ⟨rfl, hb1⟩
 have hw1 := bth hw0 hb1
 clear hw0 hb1 C
 go_wp2
 go_loopg [5, 9, 24] t2 (fun m br mm idx wr => ∃ (i M : Nat) (b : Option Addr) (d : Nat), Hid (i + m = t2) /\ br = .slice b i d /\ mm = .int .i64 M /\ Hid (M = k / 2 ^ i) /\ idx = .int .i64 i /\ Hid (OwnB w.heap.size wr b d (BR.take i)) /\ Hid (Below w.heap.size w wr))
 case atStart => exact ⟨0, k, none, 0, by show _ = _; omega, rfl, rfl, by show _ = _; simp, rfl, Own.nil, hw1⟩
 case round =>
  obtain ⟨i, M, b, d, hm, rfl, rfl, hM, rfl, hO, hwr⟩ := hrel
  have hMk : M < 9223372036854775808 := by rw [hM.out]; have := Nat.div_le_self k (2 ^ i); have := HK.out; omega
  by_cases hlt : i < t2
  ·
   have hi := hm.out
   have eb : bits .and .i64 (M : Int) 1 = ((M % 2 : Nat) : Int) := i64_and1 M hMk
   have hlen2 : (BR.take i).length = i := by rw [List.length_take, hBR.out, brN_len]; omega
   have hbr : BR.take (i + 1) = BR.take i ++ [decide (M % 2 = 1)] := by rw [hBR.out, hM.out]; exact brN_take hlt
   have hMn : ((M : Int) / 2) = ((k / 2 ^ (i + 1) : Nat) : Int) := by rw [int_half, hM.out, half_pow]
   have hbe : ((M % 2 : Nat) : Int) = 1 ↔ M % 2 = 1 := by omega
   replace hlen2 := Hd hlen2; replace hbr := Hd hbr; replace hMn := Hd hMn; replace hbe := Hd hbe; replace hMk := Hd hMk
   have hdx : (bits .and .i64 (M : Int) 1 == 1) = decide (M % 2 = 1) := by rw [eb, Bool.eq_iff_iff]; simp; omega
   replace hdx := Hd hdx
   clear eb
   go_wp2_with (at_builtin; go_must (refine world_gen (fun W => Blk W wr.heap.size 4 #[.bool (bits .and .i64 (M : Int) 1 == 1)] /\ Below wr.heap.size wr W) ⟨by ((with_reducible repeat first|assumption|(apply bF;focus omega)|apply bS|(apply bN;focus (simp;done))|apply bA|apply bD);all_goals rfl), by go_grown⟩ ?_); rintro w2 ⟨hr, hb2⟩; have hO2 := hO.out.below hb2; go_must (refine wpList_append_1 (B := w.heap.size) rfl (.tmp 26) (.tmp 30) 36 rfl Tryz.underlying36 infoBo rfl (by omega) (by omega) boC_len b d (by rw [hlen2.out]; rfl) hO2 (decide (M % 2 = 1)) (boC_one _) wr.heap.size 1 rfl (fun j u hu => by have e := hr.cell j; rw [e, hdx.out]; simpa [boC] using hu) (BR.take i ++ [decide (M % 2 = 1)]) rfl (by rw [List.length_append, hlen2.out]; simp; omega) (by have := hwr.out.size; have := hb2.size; omega) ?_); intro a3 c3 w3 ho3 hg3 ha3; have hb3 := below_append' (bth hwr.out hb2) hO2 hg3; replace hO2 := Hd hO2; replace ho3 := Hd ho3; replace hb3 := Hd hb3; clear hr hb2 hg3 ha3)
   have hmin : (BR.take i ++ [decide (M % 2 = 1)]).length = i + 1 := by rw [List.length_append, hlen2.out]; rfl
   go_roundg (gk - 1)
   case rel => exact ⟨i + 1, k / 2 ^ (i + 1), a3, c3, by have := hm.out; show _ = _; omega, by first | rfl | (congr 1; simpa using hmin), congrArg _ hMn.out, rfl, by go_num, by have e := ho3.out; rw [<- hbr.out] at e; exact e, hb3⟩
   case measure => have := hm.out; omega
  ·
   have hi : i = t2 := by have := hm.out; omega
   rw [hi] at hM
   subst i
   rw [List.take_of_length_le (by rw [hBR.out, brN_len]; omega)] at hO
   have hM2 := hM.out
   have hMk2 := Hd hMk
   replace hM2 := Hd hM2
   clear hM hMk
   go_wp2
   replace hO := Hd hO; replace hwr := Hd hwr
   clear hm
   obtain ⟨gk0, rfl⟩ : ∃ n, n = gk := ⟨_, rfl⟩
   obtain ⟨wz, hwz⟩ : ∃ z : World, z = wr := ⟨_, rfl⟩
   rw [<- hwz]
   replace hO : Hid (OwnB w.heap.size wz b d BR) := by rw [hwz]; exact hO
   replace hwr : Hid (Below w.heap.size w wz) := by rw [hwz]; exact hwr
   clear hwz
   go_loopg [4, 10, 36] t1 (fun m vs _ idx wr => ∃ (j : Nat) (a : Option Addr) (c : Nat) (hs : List QA), Hid (j + m = t1) /\ vs = .slice a j c /\ idx = .int .i64 j /\ Hid (OwnQ w.heap.size wr a c hs) /\ Hid (AllQ (Xr (fun _ => False) a) wr hs (VA.take j)) /\ Hid (OwnB w.heap.size wr b d BR) /\ Hid (Below w.heap.size w wr))
   case atStart => exact ⟨0, none, 0, [], by show _ = _; omega, rfl, rfl, Own.nil, AllQ.nil, hO.out, hwr.out⟩
   case round =>
    clear hO hwr
    obtain ⟨j, a, c, hs, hm, rfl, rfl, hQ, hA, hO, hwr⟩ := hrel
    have hvl : VA.length = t1 := by rw [hVA.out, vaN_len]
    have hsl : hs.length = j := by rw [hA.out.1, List.length_take, hvl]; have := hm.out; omega
    replace hvl := Hd hvl; replace hsl := Hd hsl
    by_cases hlt : j < t1
    ·
     have ht0 : 0 < t1 := by omega
     have hDl := dealN_lt k t1 ht0 63 (t2 + j)
     have hp63 : (2 : Nat) ^ (63 - (t2 + j)) <= 2 ^ 63 := Nat.pow_le_pow_right (by omega) (by omega)
     have hva := vaN_get (k := k) (c := t2) hlt
     rw [<- hVA.out] at hva
     have CE := every_any M j t1 wr hMk2.out ht0 (by omega) (by omega); rw [show dealN M t1 63 j = dealN k t1 63 (t2 + j) by rw [hM2.out]; exact dealN_down (by have := HK.out; omega) t2 t1 63 j] at CE
     revert hDl hva CE
     generalize dealN k t1 63 (t2 + j) = D
     intro hDl hva CE
     have hD63 : D < 2 ^ 63 := ltl hDl hp63
     have hxl : D ^^^ (j + 1) < 2 ^ 63 := Nat.xor_lt_two_pow hD63 (by omega)
     have hxor : bits .xor .i64 (D : Int) ((j : Int) + 1) = ((D ^^^ (j + 1) : Nat) : Int) := by
      rw [show ((j : Int) + 1) = ((j + 1 : Nat) : Int) by push_cast; rfl]
      exact i64_xor_nat D (j + 1) (by omega) (by omega)
     revert hva hxl hxor
     generalize D ^^^ (j + 1) = z
     intro hva hxl hxor
     have hzi : InInt (z : Int) := ⟨by omega, by omega⟩
     have hsz := valR_sz hzi
     have CV := fun W => (value_any (z : Int) W hzi)
     rw [valR_spec] at CV
     revert hva hsz CV
     generalize valR (z : Int) = q
     intro hva hsz CV
     have htk : VA.take (j + 1) = VA.take j ++ [q] := take_more hva
     replace CV := Hd CV; replace CE := Hd CE; replace hsz := Hd hsz; replace htk := Hd htk
     clear hDl hp63 hD63 hxl hva hzi
     go_wp2_with fail
     refine CE.out.mono ?_
     rintro e w2 ⟨rfl, hb2⟩
     clear CE
     go_wp2_with fail
     refine (CV.out w2).mono ?_
     intro e w3 hret
     obtain ⟨x, rfl, HK3, hb3⟩ := retF_q (k := 5) hsz.out hret
     have hb23 := bth hb2 hb3
     have hwy3 := bth hwr.out hb23
     have hQ3 := hQ.out.below hb23
     have hA3 := hA.out.call hb23
     have hO3 := hO.out.below hb23
     have hx3 : Rd (Xr (fun _ => False) a) w3 fun V => QAc V x q := Rd.kp (HK3.imp fun V h => h.1) fun b hb => by
      rcases hb with hb | ⟨g, hg, rfl⟩
      · exact hb.elim
      ·
       have := (hQ.out.lt hg).2
       have := hb2.size
       exact .inl (by omega)
     replace hQ3 := Hd hQ3; replace hA3 := Hd hA3; replace hO3 := Hd hO3; replace hx3 := Hd hx3; replace hwy3 := Hd hwy3
     clear CV HK3 hb2 hb3 hb23 hret hQ hA hO hwr hxor
     go_wp2_with (at_builtin; go_must (refine world_gen (fun W => Blk W w3.heap.size 32 #[.bool x.neg, .slice x.a x.n x.c, .slice x.b x.m x.d] /\ Below w3.heap.size w3 W) ⟨by ((with_reducible repeat first|assumption|(apply bF;focus omega)|apply bS|(apply bN;focus (simp;done))|apply bA|apply bD);all_goals rfl), by go_grown⟩ ?_); rintro w4 ⟨hr, hb4⟩; have hQ4 := hQ3.out.below hb4; go_must (refine wpList_append_1 (B := w.heap.size) rfl (.tmp 39) (.tmp 48) 35 rfl Tryz.underlying35 infoQa rfl (by omega) (by omega) qaC_len a c (by rw [hsl.out]; rfl) hQ4 x (qaC_one _) w3.heap.size 1 rfl (fun j u hu => by have e := hr.cell j; rw [e]; simpa [qaC] using hu) (hs ++ [x]) rfl (by rw [List.length_append, hsl.out]; simp; omega) (by have := hwy3.out.size; have := hb4.size; omega) ?_); intro a5 c5 w5 ho5 hg5 ha5; have hb5 := below_append' (bth hwy3.out hb4) hQ4 hg5; have hA5 := (hA3.out.call hb4).push (hx3.out.call hb4) (fun R h => h.app hg5 ha5); have hO5 := (hO3.out.below hb4).grown hg5 (fun g hg e => by (cases hv : a with | none => (rw [hv] at e; simp [Value.ownBlock] at e) | some g' => (rw [hv] at e; simp [Value.ownBlock] at e; exact own_apart hQ4 (hO3.out.below hb4) (by decide) g' g hv hg e))); replace ho5 := Hd ho5; replace hb5 := Hd hb5; replace hA5 := Hd hA5; replace hO5 := Hd hO5; clear hr hb4 hg5 ha5 hQ4)
     have hln : (hs ++ [x]).length = j + 1 := by rw [List.length_append, hsl.out]; rfl
     go_roundg (gk - 1)
     case rel => exact ⟨j + 1, a5, c5, hs ++ [x], by have := hm.out; show _ = _; omega, by first | rfl | (congr 1; simpa using hln), by go_num, ho5.out, by have e := hA5.out; rw [<- htk.out] at e; exact e, hO5.out, hb5.out⟩
     case measure => have := hm.out; omega
    ·
     have hj : j = t1 := by have := hm.out; omega
     have hA2 := hA.out
     rw [List.take_of_length_le (by rw [hvl.out]; omega)] at hA2
     subst hj
     replace hA2 := Hd hA2
     clear hA hm
     go_wp2
     refine bodyPost_ret (v := .tuple #[.slice a j c, .slice b t2 d, .int .i64 0]) (by simp [results, Tryz.results4, go_sem]) rfl ?_
     exact ⟨hwr.out, a, c, b, d, rfl, hQ.out.qs hA2.out, hO.out.bos⟩
theorem nthR_good (f : Fig) (k t1 t2 : Nat) (sa : Option Addr) (sc : Nat) (ga : Option Addr) (gc : Nat) (w : World) (hk : k < 9223372036854775808) (h1 : t1 <= 64) (h2 : t2 <= 60)
  (C : ∀ W, Below w.heap.size w W -> Calls Tryz.prog 10 #[f.val sa sc ga gc] W (RetCh (t1, t2, 0) W)) :
  Calls Tryz.prog 5 #[f.val sa sc ga gc, .int .i64 k] w (RetNthG t1 t2 k w) := by
 unfold Fig.val at C ⊢
 unfold RetNthG
 unfold RetCh at C
 dsimp only at C ⊢
 replace C := Hd C
 obtain ⟨BR, hBR⟩ : ∃ l, l = brN k t2 := ⟨_, rfl⟩
 obtain ⟨VA, hVA⟩ : ∃ l, l = vaN k t2 t1 := ⟨_, rfl⟩
 rw [<- hBR, <- hVA]
 replace hBR := Hd hBR; replace hVA := Hd hVA
 have HK := Hd hk
 have hk0 : ¬ ((k : Int) < 0) := by omega
 clear hk
 go_enter Tryz.func5, Tryz.ntmps5
 go_wp2_with fail
 refine calls_gen (fun W => Below w.heap.size w W) (by go_grown) ?_
 intro w0 hw0
 refine (C.out w0 hw0).mono ?_
 rintro e w1 ⟨rfl, hb1⟩
 have hw1 := bth hw0 hb1
 clear hw0 hb1 C
 go_wp2
 go_loopg [5, 9, 23] t2 (fun m br _ idx wr => ∃ (i : Nat) (b : Option Addr) (d : Nat), Hid (i + m = t2) /\ br = .slice b i d /\ idx = .int .i64 i /\ Hid (OwnB w.heap.size wr b d (BR.take i)) /\ Hid (Below w.heap.size w wr))
 case atStart => exact ⟨0, none, 0, by show _ = _; omega, rfl, rfl, Own.nil, hw1⟩
 case round =>
  obtain ⟨i, b, d, hm, rfl, rfl, hO, hwr⟩ := hrel
  by_cases hlt : i < t2
  ·
   have hi := hm.out
   have hlen2 : (BR.take i).length = i := by rw [List.length_take, hBR.out, brN_len]; omega
   have hbr : BR.take (i + 1) = BR.take i ++ [decide (k / 2 ^ i % 2 = 1)] := by rw [hBR.out]; exact brN_take hlt
   have D := digit27_any k i wr HK.out (by omega)
   revert hbr D
   generalize k / 2 ^ i % 2 = z
   intro hbr D
   have hdx : (((z : Nat) : Int) == 1) = decide (z = 1) := by rw [Bool.eq_iff_iff]; simp; omega
   replace hlen2 := Hd hlen2; replace hbr := Hd hbr; replace hdx := Hd hdx; replace D := Hd D
   go_wp2_with fail
   refine D.out.mono ?_
   rintro e w2 ⟨rfl, hb2⟩
   have hwr2 := bth hwr.out hb2
   have hO2 := hO.out.below hb2
   replace hO2 := Hd hO2; replace hwr2 := Hd hwr2
   clear D hb2 hO hwr
   go_wp2_with (at_builtin; go_must (refine world_gen (fun W => Blk W w2.heap.size 4 #[.bool ((z : Int) == 1)] /\ Below w2.heap.size w2 W) ⟨by ((with_reducible repeat first|assumption|(apply bF;focus omega)|apply bS|(apply bN;focus (simp;done))|apply bA|apply bD);all_goals rfl), by go_grown⟩ ?_); rintro w3 ⟨hr, hb3⟩; have hO3 := hO2.out.below hb3; go_must (refine wpList_append_1 (B := w.heap.size) rfl (.tmp 26) (.tmp 31) 36 rfl Tryz.underlying36 infoBo rfl (by omega) (by omega) boC_len b d (by rw [hlen2.out]; rfl) hO3 (decide (z = 1)) (boC_one _) w2.heap.size 1 rfl (fun j u hu => by have e := hr.cell j; rw [e, hdx.out]; simpa [boC] using hu) (BR.take i ++ [decide (z = 1)]) rfl (by rw [List.length_append, hlen2.out]; simp; omega) (by have := hwr2.out.size; have := hb3.size; omega) ?_); intro a3 c3 w4 ho4 hg4 ha4; have hb4 := below_append' (bth hwr2.out hb3) hO3 hg4; replace ho4 := Hd ho4; replace hb4 := Hd hb4; clear hr hb3 hg4 ha4 hO3)
   have hmin : (BR.take i ++ [decide (z = 1)]).length = i + 1 := by rw [List.length_append, hlen2.out]; rfl
   go_roundg (gk - 1)
   case rel => exact ⟨i + 1, a3, c3, by have := hm.out; show _ = _; omega, by first | rfl | (congr 1; simpa using hmin), by go_num, by have e := ho4.out; rw [<- hbr.out] at e; exact e, hb4⟩
   case measure => have := hm.out; omega
  ·
   have hi : i = t2 := by have := hm.out; omega
   subst i
   rw [List.take_of_length_le (by rw [hBR.out, brN_len]; omega)] at hO
   go_wp2
   replace hO := Hd hO; replace hwr := Hd hwr
   clear hm
   obtain ⟨gk0, rfl⟩ : ∃ n, n = gk := ⟨_, rfl⟩
   obtain ⟨wz, hwz⟩ : ∃ z : World, z = wr := ⟨_, rfl⟩
   rw [<- hwz]
   replace hO : Hid (OwnB w.heap.size wz b d BR) := by rw [hwz]; exact hO
   replace hwr : Hid (Below w.heap.size w wz) := by rw [hwz]; exact hwr
   clear hwz
   go_loopg [4, 10, 35] t1 (fun m vs _ idx wr => ∃ (j : Nat) (a : Option Addr) (c : Nat) (hs : List QA), Hid (j + m = t1) /\ vs = .slice a j c /\ idx = .int .i64 j /\ Hid (OwnQ w.heap.size wr a c hs) /\ Hid (AllQ (Xr (fun _ => False) a) wr hs (VA.take j)) /\ Hid (OwnB w.heap.size wr b d BR) /\ Hid (Below w.heap.size w wr))
   case atStart => exact ⟨0, none, 0, [], by show _ = _; omega, rfl, rfl, Own.nil, AllQ.nil, hO.out, hwr.out⟩
   case round =>
    clear hO hwr
    obtain ⟨j, a, c, hs, hm, rfl, rfl, hQ, hA, hO, hwr⟩ := hrel
    have hvl : VA.length = t1 := by rw [hVA.out, vaN_len]
    have hsl : hs.length = j := by rw [hA.out.1, List.length_take, hvl]; have := hm.out; omega
    replace hvl := Hd hvl; replace hsl := Hd hsl
    by_cases hlt : j < t1
    ·
     have ht0 : 0 < t1 := by omega
     have hDl := dealN_lt k t1 ht0 63 (t2 + j)
     have hp63 : (2 : Nat) ^ (63 - (t2 + j)) <= 2 ^ 63 := Nat.pow_le_pow_right (by omega) (by omega)
     have hva := vaN_get (k := k) (c := t2) hlt
     rw [<- hVA.out] at hva
     have CE := dealt27_any k (t2 + j) t1 wr HK.out ht0 (by omega) (by omega); rw [show ((t2 + j : Nat) : Int) = (t2 : Int) + (j : Int) by push_cast; rfl] at CE
     revert hDl hva CE
     generalize dealN k t1 63 (t2 + j) = D
     intro hDl hva CE
     have hD63 : D < 2 ^ 63 := ltl hDl hp63
     have hxl : D ^^^ (j + 1) < 2 ^ 63 := Nat.xor_lt_two_pow hD63 (by omega)
     have hxor : bits .xor .i64 (D : Int) ((j : Int) + 1) = ((D ^^^ (j + 1) : Nat) : Int) := by
      rw [show ((j : Int) + 1) = ((j + 1 : Nat) : Int) by push_cast; rfl]
      exact i64_xor_nat D (j + 1) (by omega) (by omega)
     revert hva hxl hxor
     generalize D ^^^ (j + 1) = z
     intro hva hxl hxor
     have hzi : InInt (z : Int) := ⟨by omega, by omega⟩
     have hsz := valR_sz hzi
     have CV := fun W => (valueR_any (z : Int) W hzi)
     rw [valR_spec] at CV
     revert hva hsz CV
     generalize valR (z : Int) = q
     intro hva hsz CV
     have htk : VA.take (j + 1) = VA.take j ++ [q] := take_more hva
     replace CV := Hd CV; replace CE := Hd CE; replace hsz := Hd hsz; replace htk := Hd htk
     clear hDl hp63 hD63 hxl hva hzi
     go_wp2_with fail
     refine CE.out.mono ?_
     rintro e w2 ⟨rfl, hb2⟩
     clear CE
     go_wp2_with fail
     refine (CV.out w2).mono ?_
     intro e w3 hret
     obtain ⟨x, rfl, HK3, hb3⟩ := retF_q (k := 5) hsz.out hret
     have hb23 := bth hb2 hb3
     have hwy3 := bth hwr.out hb23
     have hQ3 := hQ.out.below hb23
     have hA3 := hA.out.call hb23
     have hO3 := hO.out.below hb23
     have hx3 : Rd (Xr (fun _ => False) a) w3 fun V => QAc V x q := Rd.kp (HK3.imp fun V h => h.1) fun b hb => by
      rcases hb with hb | ⟨g, hg, rfl⟩
      · exact hb.elim
      ·
       have := (hQ.out.lt hg).2
       have := hb2.size
       exact .inl (by omega)
     replace hQ3 := Hd hQ3; replace hA3 := Hd hA3; replace hO3 := Hd hO3; replace hx3 := Hd hx3; replace hwy3 := Hd hwy3
     clear CV HK3 hb2 hb3 hb23 hret hQ hA hO hwr hxor
     go_wp2_with (at_builtin; go_must (refine world_gen (fun W => Blk W w3.heap.size 32 #[.bool x.neg, .slice x.a x.n x.c, .slice x.b x.m x.d] /\ Below w3.heap.size w3 W) ⟨by ((with_reducible repeat first|assumption|(apply bF;focus omega)|apply bS|(apply bN;focus (simp;done))|apply bA|apply bD);all_goals rfl), by go_grown⟩ ?_); rintro w4 ⟨hr, hb4⟩; have hQ4 := hQ3.out.below hb4; go_must (refine wpList_append_1 (B := w.heap.size) rfl (.tmp 38) (.tmp 49) 35 rfl Tryz.underlying35 infoQa rfl (by omega) (by omega) qaC_len a c (by rw [hsl.out]; rfl) hQ4 x (qaC_one _) w3.heap.size 1 rfl (fun j u hu => by have e := hr.cell j; rw [e]; simpa [qaC] using hu) (hs ++ [x]) rfl (by rw [List.length_append, hsl.out]; simp; omega) (by have := hwy3.out.size; have := hb4.size; omega) ?_); intro a5 c5 w5 ho5 hg5 ha5; have hb5 := below_append' (bth hwy3.out hb4) hQ4 hg5; have hA5 := (hA3.out.call hb4).push (hx3.out.call hb4) (fun R h => h.app hg5 ha5); have hO5 := (hO3.out.below hb4).grown hg5 (fun g hg e => by (cases hv : a with | none => (rw [hv] at e; simp [Value.ownBlock] at e) | some g' => (rw [hv] at e; simp [Value.ownBlock] at e; exact own_apart hQ4 (hO3.out.below hb4) (by decide) g' g hv hg e))); replace ho5 := Hd ho5; replace hb5 := Hd hb5; replace hA5 := Hd hA5; replace hO5 := Hd hO5; clear hr hb4 hg5 ha5 hQ4)
     have hln : (hs ++ [x]).length = j + 1 := by rw [List.length_append, hsl.out]; rfl
     go_roundg (gk - 1)
     case rel => exact ⟨j + 1, a5, c5, hs ++ [x], by have := hm.out; show _ = _; omega, by first | rfl | (congr 1; simpa using hln), by go_num, ho5.out, by have e := hA5.out; rw [<- htk.out] at e; exact e, hO5.out, hb5.out⟩
     case measure => have := hm.out; omega
    ·
     have hj : j = t1 := by have := hm.out; omega
     have hA2 := hA.out
     rw [List.take_of_length_le (by rw [hvl.out]; omega)] at hA2
     subst hj
     replace hA2 := Hd hA2
     clear hA hm
     go_wp2
     refine bodyPost_ret (v := .tuple #[.slice a j c, .slice b t2 d, .int .i64 0]) (by simp [results, Tryz.results5, go_sem]) rfl ?_
     exact ⟨hwr.out, a, c, b, d, rfl, hQ.out.qs hA2.out, hO.out.bos⟩
theorem rightR_q (x : QA) (q : Rat) (w : World) (H : QAc w x q) (hq : qsz q <= 1000) : Calls Tryz.prog 14 #[.agg #[.bool x.neg, .slice x.a x.n x.c, .slice x.b x.m x.d]] w fun e w' => e = .returned (.bool true) /\ Below w.heap.size w w' := by
 obtain ⟨s1, n1, a1, c1, m1, b1, d1⟩ := x
 obtain ⟨e1, e2, e3, r1, r2⟩ := H
 dsimp only at e1 e2 e3 r1 r2 ⊢
 subst e1 e2 e3
 have l1 := qsz_num q
 have l2 := qsz_den q
 have hr := lowest_right (decide (q.num < 0)) q.num.natAbs q.den
 rw [lowest_qv, qv_parts] at hr
 have := right03_any ⟨decide (q.num < 0), limbs q.num.natAbs, limbs q.den⟩ a1 c1 b1 d1 w r1 r2 (by dsimp only; omega) (by dsimp only; omega)
 unfold Rt.val at this
 dsimp only at this
 unfold trip at hr
 dsimp only at hr
 rw [hr] at this
 exact this
theorem eqR_self (x y : QA) (q : Rat) (w : World) (H1 : QAc w x q) (H2 : QAc w y q) (hq : qsz q <= 1000) : Calls Tryz.prog 15 #[.agg #[.bool x.neg, .slice x.a x.n x.c, .slice x.b x.m x.d], .agg #[.bool y.neg, .slice y.a y.n y.c, .slice y.b y.m y.d]] w fun e w' => e = .returned (.bool true) /\ Below w.heap.size w w' := by
 obtain ⟨s1, n1, a1, c1, m1, b1, d1⟩ := x
 obtain ⟨s2, n2, a2, c2, m2, b2, d2⟩ := y
 obtain ⟨e1, e2, e3, r1, r2⟩ := H1
 obtain ⟨e4, e5, e6, r3, r4⟩ := H2
 dsimp only at e1 e2 e3 r1 r2 e4 e5 e6 r3 r4 ⊢
 subst e1 e2 e3 e4 e5 e6
 have l1 := qsz_num q
 have l2 := qsz_den q
 have := qeqR_any (decide (q.num < 0)) (decide (q.num < 0)) (limbs q.num.natAbs) (limbs q.den) (limbs q.num.natAbs) (limbs q.den) q.num.natAbs q.den q.num.natAbs q.den a1 b1 a2 b2 c1 d1 c2 d2 w r1 r2 r3 r4 (val_limbs _) (val_limbs _) (val_limbs _) (val_limbs _) (by omega) (by omega) (by omega) (by omega)
 rw [crossed_self] at this
 exact this
theorem same27_any (qs : List Rat) (bs : List Bool) (a a' b b' : Option Addr) (c c' d d' : Nat) (w : World) (h1 : QsR w a c qs) (h2 : QsR w a' c' qs) (h3 : BosR w b d bs) (h4 : BosR w b' d' bs) (hl : qs.length <= 1000) (hl2 : bs.length <= 1000) (hsz : ∀ q ∈ qs, qsz q <= 1000) :
  Calls Tryz.prog 6 #[.agg #[.slice a qs.length c, .slice b bs.length d, .slice none 0 0], .agg #[.slice a' qs.length c', .slice b' bs.length d', .slice none 0 0]] w fun e w' => e = .returned (.bool true) /\ Below w.heap.size w w' := by
 have H1 := Hd h1; have H2 := Hd h2; have H3 := Hd h3; have H4 := Hd h4; have HZ := Hd hsz
 clear h1 h2 h3 h4 hsz
 go_enter Tryz.func6, Tryz.ntmps6
 go_wp2
 refine world_gen (fun W => Blk W w.heap.size 43 #[.slice a qs.length c, .slice b bs.length d, .slice none 0 0] /\ Blk W (w.heap.size + 1) 43 #[.slice a' qs.length c', .slice b' bs.length d', .slice none 0 0] /\ Below w.heap.size w W) (by refine ⟨?_,?_,?_⟩<;>first|((with_reducible repeat first|assumption|(apply bF;focus omega)|apply bS|(apply bN;focus (simp;done))|apply bA|apply bD);all_goals rfl)|go_grown) ?_
 rintro w1 ⟨k1, k2, hw1⟩
 have x0 := k1.cell 0; have x1 := k1.cell 1; have x2 := k1.cell 2; have y0 := k2.cell 0; have y1 := k2.cell 1; have y2 := k2.cell 2
 go_wp2
 go_loopg [5, 38] qs.length (fun m _ idx wr => ∃ k : Nat, Hid (k + m = qs.length) /\ idx = .int .i64 k /\ Below w1.heap.size w1 wr)
 case atStart => exact ⟨0, by show _ = _; omega, rfl, Below.refl _ _⟩
 case round =>
  obtain ⟨k, hm, rfl, hwr⟩ := hrel
  by_cases hlt : k < qs.length
  ·
   obtain ⟨q, hq⟩ := get_of_lt hlt
   have hqz := HZ.out q (List.mem_of_getElem? hq)
   have hww := bth hw1 hwr
   obtain ⟨v1, o1, rfl, z1, p0, p1, p2, r1⟩ := (H1.out.ext (xbw hww)).2.2 k q hq
   obtain ⟨v2, o2, rfl, z2, p3, p4, p5, r2⟩ := (H2.out.ext (xbw hww)).2.2 k q hq
   have u0 := held p0; have u1 := held p1; have u2 := held p2; have u3 := held p3; have u4 := held p4; have u5 := held p5
   have f0 := held ((k1.below' hwr).cell 0); have f1 := held ((k2.below' hwr).cell 0)
   have s0 : Below wr.heap.size wr wr.drew := brf.drew
   have CR := fun W (hW : Below wr.heap.size wr W) => rightR_q z1 q W ⟨r1.1, r1.2.1, r1.2.2.1, r1.2.2.2.1.ext (xbw hW), r1.2.2.2.2.ext (xbw hW)⟩ hqz
   have CE := fun W (hW : Below wr.heap.size wr W) => eqR_self z1 z2 q W ⟨r1.1, r1.2.1, r1.2.2.1, r1.2.2.2.1.ext (xbw hW), r1.2.2.2.2.ext (xbw hW)⟩ ⟨r2.1, r2.2.1, r2.2.2.1, r2.2.2.2.1.ext (xbw hW), r2.2.2.2.2.ext (xbw hW)⟩ hqz
   replace CR := Hd CR; replace CE := Hd CE; replace hq := Hd hq; replace r1 := Hd r1; replace r2 := Hd r2
   have hli : ((k : Int) < (qs.length : Int)) := by omega
   clear x0 x1 x2 y0 y1 y2 p0 p1 p2 p3 p4 p5 hqz
   go_wp2
   refine wp_region_mix (S := Below wr.heap.size wr) [(0, .q), (1, .q), (2, .q), (3, .q), (4, .q), (5, .l), (6, .q), (7, .q), (8, .q), (9, .q), (10, .q), (11, .q), (12, .q), (13, .q), (14, .q), (15, .q), (16, .q), (17, .q), (18, .t), (19, .p), (20, .p)] (by kernel_rfl) (by kernel_rfl) (by kernel_rfl) (fun d _ _ _ _ h => by cases d <;> exact h) (s0) ?_
   iterate 5 (refine wpMix_q rfl rfl (fun K hK => ?_); apply Exists.intro; refine ⟨fun w' hw' => ?_, ?_⟩; (focus (go_simp; try rfl)); go_simp; refine hK _ _ ?_; clear hK K)
   refine wpMix_l rfl rfl (fun K hK => ?_)
   go_simp
   refine (CR.out _ s0).mono ?_
   rintro r w3 ⟨rfl, hb3⟩
   dsimp only
   refine hK.out _ _ (bth s0 hb3) (fun _ => ?_)
   clear hK K
   have s1 := bth s0 hb3
   iterate 12 (refine wpMix_q rfl rfl (fun K hK => ?_); apply Exists.intro; refine ⟨fun w' hw' => ?_, ?_⟩; (focus (go_simp; try rfl)); go_simp; refine hK _ _ ?_; clear hK K)
   refine wpMix_t rfl rfl (fun K hK => ?_)
   go_simp
   refine (CE.out _ s1).mono ?_
   rintro r w4 ⟨rfl, hb4⟩
   dsimp only
   refine hK.out _ _ ?_
   clear hK K
   have s2 := bth s1 hb4
   have hnx := bth hwr s2
   iterate 2 (refine wpMix_p rfl rfl (fun K hK => ?_); apply Exists.intro; refine ⟨fun w' => ?_, ?_⟩; (focus (go_simp; try rfl)); go_simp; refine hK _ _ ?_; clear hK K)
   refine wpMix_nil ?_
   clear s0 s1 s2 CR CE u0 u1 u2 u3 u4 u5 f0 f1 hb3 hb4
   go_wp2
   go_roundg (gk - 1)
   case rel => exact ⟨k + 1, by have := hm.out; show _ = _; omega, by go_num, hnx⟩
   case measure => have := hm.out; omega
  ·
   clear hm x0 x1 x2 y0 y1 y2
   have k1' := k1.below' hwr
   have k2' := k2.below' hwr
   have x0 := k1'.cell 0; have x1 := k1'.cell 1; have x2 := k1'.cell 2; have y0 := k2'.cell 0; have y1 := k2'.cell 1; have y2 := k2'.cell 2
   have hww := bth hw1 hwr
   obtain ⟨gk0, rfl⟩ : ∃ n, n = gk := ⟨_, rfl⟩
   obtain ⟨wz, hwz⟩ : ∃ z : World, z = wr := ⟨_, rfl⟩
   rw [<- hwz] at k1' k2' x0 x1 x2 y0 y1 y2 hww ⊢
   clear hwz hwr k1 k2 hw1
   go_wp2
   go_loopg [6, 66] bs.length (fun m _ idx wr => ∃ k : Nat, Hid (k + m = bs.length) /\ idx = .int .i64 k /\ Below wz.heap.size wz wr)
   case atStart => exact ⟨0, by show _ = _; omega, rfl, Below.refl _ _⟩
   case round =>
    obtain ⟨k, hm, rfl, hwr⟩ := hrel
    by_cases hlt : k < bs.length
    ·
     obtain ⟨q, hq⟩ := get_of_lt hlt
     have hww2 := bth hww hwr
     obtain ⟨v1, o1, rfl, p0⟩ := (H3.out.ext (xbw hww2)).2.2 k q hq
     obtain ⟨v2, o2, rfl, p3⟩ := (H4.out.ext (xbw hww2)).2.2 k q hq
     unfold BoolE at p0 p3
     rw [Nat.mul_one] at p0 p3
     have u0 := held p0; have u3 := held p3
     have f0 := held ((k1'.below' hwr).cell 1); have f1 := held ((k2'.below' hwr).cell 1)
     have s0 : Below wr.heap.size wr wr.drew := brf.drew
     have hli : ((k : Int) < (bs.length : Int)) := by omega
     replace hq := Hd hq
     clear x0 x1 x2 y0 y1 y2 p0 p3
     go_wp2
     refine wp_region_mix (S := Below wr.heap.size wr) [(0, .q), (1, .q), (2, .q), (3, .q), (4, .q), (5, .q), (6, .q), (7, .q), (8, .q), (9, .q), (10, .p)] (by kernel_rfl) (by kernel_rfl) (by kernel_rfl) (fun d _ _ _ _ h => by cases d <;> exact h) (s0) ?_
     iterate 10 (refine wpMix_q rfl rfl (fun K hK => ?_); apply Exists.intro; refine ⟨fun w' hw' => ?_, ?_⟩; (focus (go_simp; try rfl)); go_simp; refine hK _ _ ?_; clear hK K)
     iterate 1 (refine wpMix_p rfl rfl (fun K hK => ?_); apply Exists.intro; refine ⟨fun w' => ?_, ?_⟩; (focus (go_simp; try rfl)); go_simp; refine hK _ _ ?_; clear hK K)
     refine wpMix_nil ?_
     clear u0 u3 f0 f1
     go_wp2
     go_roundg (gk - 1)
     case rel => exact ⟨k + 1, by have := hm.out; show _ = _; omega, by go_num, bth hwr s0⟩
     case measure => have := hm.out; omega
    ·
     clear hm x0 x1 x2 y0 y1 y2
     have k1'' := k1'.below' hwr
     have x2 := k1''.cell 2
     have hww2 := bth hww hwr
     obtain ⟨gk1, rfl⟩ : ∃ n, n = gk := ⟨_, rfl⟩
     obtain ⟨wq, hwq⟩ : ∃ z : World, z = wr := ⟨_, rfl⟩
     rw [<- hwq] at x2 hww2 ⊢
     clear hwq hwr k1' k2' hww k1''
     go_wp2
     go_loopg [7, 8, 9, 84] 0 (fun m _ _ _ idx wr => idx = .int .i64 0 /\ wr = wq)
     case atStart => exact ⟨rfl, rfl⟩
     case round =>
      obtain ⟨rfl, rfl⟩ := hrel
      go_wp2
      go_ret
      exact ⟨rfl, hww2⟩
end Go.Proofs.YtdnblkklgdnapaaGreat
