/- Walks of the reference's natural numbers: Mul. -/
import Derived.Test.YtkjnkpkagcboeaaGreatDoorPp5
import Derived.Deep.LoopGhost
import Derived.Test.YtkjnkpkagcboeaaGreatDoorPp2
import Derived.Deep.DeepCutAuto
set_option linter.all false
set_option maxRecDepth 100000
set_option maxHeartbeats 4000000
namespace Go.Proofs.YtkjnkpkagcboeaaGreatDoor
open Go.RowKit
theorem shift_back (l : List Int) (R s : Nat) (a : Option Addr) (c : Nat) (w : World) (h : NatR w a c l) (hv : val l = R * 2 ^ s) (hl : l.length <= 10000000) (hs : s <= 15) :
  Calls Tryz.prog 185 #[.slice a l.length c, .int .i64 (-(s : Int))] w (RetN (limbs R) w) := by
 by_cases hR : R = 0
 ·
  subst hR
  rw [limbs_zero]
  exact (shift_zero l _ a c w h (by simpa using hv) (by omega)).mono fun e w' ⟨he, hw⟩ => by subst he; subst hw; exact ⟨none, 0, rfl, fun _ _ => SlR.nil, Below.refl _ _⟩
 ·
  by_cases hs0 : s = 0
  ·
   subst hs0
   have e : R * 2 ^ 0 = R := by simp
   have C := shift_any l R 0 a c w h (by rw [hv, e]) (by omega) hl (by omega)
   rw [e] at C
   have e2 : (-((0 : Nat) : Int)) = ((0 : Nat) : Int) := by simp
   rw [e2]
   exact C.mono fun e w' ⟨a1, c1, he, ho, hb⟩ => by subst he; exact RetN.own ho (limbs_u16 _) hb rfl rfl
  ·
   have hp : 0 < R * 2 ^ s := Nat.mul_pos (by omega) (Nat.two_pow_pos s)
   have C := shift_neg l (R * 2 ^ s) s a c w h hv hp hl (by omega) (by omega)
   rw [Nat.mul_div_cancel _ (Nat.two_pow_pos s)] at C
   exact C
theorem zeros2 (w : World) : NatR (w.alloc (.cells #[.int .u16 0, .int .u16 0] 47)) (some ⟨w.heap.size, 0, none⟩) 2 [0, 0] :=
 BlkN.readsV (l := [0, 0]) (B := w.heap.size) (Blk.new w _ _) (nlr _) (New.refl _ _) (by intro x hx; simp at hx; omega) (by simp) (by simp [maxLen])
theorem divMod_big (l m : List Int) (n1 n2 n : Nat) (a a' : Option Addr) (c c' : Nat) (w : World) (h : NatR w a c l) (h' : NatR w a' c' m) (hn : val l = n1) (hk : val m = n2) (hl : l.length <= 4000000) (hm : m.length <= 4000000) (hge : n2 <= n1) (h2 : (limbs n2).length = n + 2) :
  Calls Tryz.prog 142 #[.slice a l.length c, .slice a' m.length c'] w (RetQR n1 n2 w) := by
 have hlen := limbs_len_val h.u16
 rw [hn] at hlen
 have hlen2 := limbs_len_val h'.u16
 rw [hk] at hlen2
 have hle := limbs_len_mono hge
 have h0 : 0 < n2 := limbs_len_pos.1 (by omega)
 have C1 := trim_any l a c w h
 have C2 := trim_any m a' c' w h'
 have hT1 := h.trim
 have hT2 := h'.trim
 rw [hn] at C1 hT1
 rw [hk] at C2 hT2
 have CC := cmp_any (limbs n1) (limbs n2) n1 n2 a a' c c' w hT1 hT2 (val_limbs _) (val_limbs _)
 have hcv : decide (cmpN n1 n2 < 0) = false := by
  have := cmpN_lt (a := n1) (b := n2)
  simp
  have h3 : ¬ cmpN n1 n2 < 0 := fun e => by have := this.1 e; omega
  omega
 obtain ⟨xi, hxi⟩ := get_of_lt (xs := limbs n2) (k := n + 1) (by omega)
 obtain ⟨b2, off2, rfl, hcx⟩ := hT2.cell hxi
 have hxb := (limbs_u16 n2).get hxi
 have hx0 : xi ≠ 0 := limbs_last (n := n2) (by rw [List.getLast?_eq_getElem?, h2]; exact hxi)
 obtain ⟨x, rfl⟩ : ∃ x : Nat, xi = (x : Int) := ⟨xi.toNat, by omega⟩
 obtain ⟨q1, q2, q3, q4⟩ := norm_shift (x := x) (by omega) (by omega)
 have CL := fun w => lead16_any x w (by omega)
 have hsi : (16 : Int) - (Lib.bitLen x : Int) = ((16 - Lib.bitLen x : Nat) : Int) := by omega
 have hs : 16 - Lib.bitLen x <= 15 := by omega
 revert CL q3 q4 hsi hs
 generalize 16 - Lib.bitLen x = s
 intro q3 q4 CL hsi hs
 simp only [hsi] at CL
 obtain ⟨r1, r2, r3⟩ := norm_len h2 (limbAt_some hxi) q3 q4
 have hn1 : 0 < n1 := by omega
 have CS1 := fun W (hW : Below w.heap.size w W) => shift_any (limbs n1) n1 s a c W (hT1.ext (xbw hW)) (val_limbs _) hn1 (by omega) (by omega)
 have CS2 := fun W (hW : Below w.heap.size w W) => shift_any (limbs n2) n2 s (some ⟨b2, off2, none⟩) c' W (hT2.ext (xbw hW)) (val_limbs _) h0 (by omega) (by omega)
 obtain ⟨s1, s2⟩ := shl_lens (n1 := n1) hs
 have hfst := fun (L : List Int) hL hv hl => long_first (n1 := n1) (m := n2 * 2 ^ s) (s := s) (n := n) (L := L) hL hv hs hl (by omega) r3
 have hdq : n1 * 2 ^ s / (n2 * 2 ^ s) = n1 / n2 := Nat.mul_div_mul_right _ _ (Nat.two_pow_pos s)
 have hdr : n1 * 2 ^ s % (n2 * 2 ^ s) = n1 % n2 * 2 ^ s := Nat.mul_mod_mul_right _ _ _
 have hla : n + 2 <= (limbs n1).length := by omega
 have hla2 : (limbs n1).length <= 4000000 := by omega
 have hk3 := held (by simpa using hcx : w.cell? ⟨b2, off2 + (n + 1), none⟩ = some (.int .u16 x))
 have hvS := val_limbs (n1 * 2 ^ s)
 have huS := limbs_u16 (n1 * 2 ^ s)
 have hvV := val_limbs (n2 * 2 ^ s)
 have huV := limbs_u16 (n2 * 2 ^ s)
 simp only [h2, r1] at C2 CC CS2
 obtain ⟨cv, hcv0⟩ : ∃ cv, cmpN n1 n2 = cv := ⟨_, rfl⟩
 obtain ⟨S, hS0⟩ : ∃ S, limbs (n1 * 2 ^ s) = S := ⟨_, rfl⟩
 obtain ⟨V2, hV0⟩ : ∃ V2, limbs (n2 * 2 ^ s) = V2 := ⟨_, rfl⟩
 obtain ⟨la, hla0⟩ : ∃ la, (limbs n1).length = la := ⟨_, rfl⟩
 simp only [hcv0, hS0, hV0, hla0] at C1 CC CS1 CS2 s1 s2 hfst hla hla2 hcv hvS huS hvV huV r1 r2
 clear hcv0 hS0 hV0 hla0
 replace C1 := Hd C1
 replace C2 := Hd C2
 replace CC := Hd CC
 replace CL := Hd CL
 replace CS1 := Hd CS1
 replace CS2 := Hd CS2
 have HF := Hd hfst
 have HR1 := Hd r1
 have HR2 := Hd r2
 have HDQ := Hd hdq
 have HDR := Hd hdr
 have HVS := Hd hvS
 have HVV := Hd hvV
 have HS1 := Hd s1
 have HS2 := Hd s2
 have hxi' : (x : Int) <= 65535 := by omega
 have hsI : (s : Int) <= 15 := by omega
 have hnI : (n : Int) <= 16777216 := by omega
 have hne1 : ((n : Int) + 2 == 0) = false := by rw [beq_eq_false_iff_ne]; omega
 have hne2 : ((n : Int) + 2 == 1) = false := by rw [beq_eq_false_iff_ne]; omega
 clear h h' hn hk hT1 hT2 hlen hlen2 hle hxi hcx hxb hx0 q1 q2 q3 q4 hsi r1 r2 r3 hdq hdr hvS hvV s1 s2 hfst h2 hge
 go_enter Tryz.func142, Tryz.ntmps142
 go_wp2_with fail
 refine C1.out.mono ?_
 rintro e w1 ⟨rfl, rfl⟩
 go_wp2_with fail
 refine C2.out.mono ?_
 rintro e w1 ⟨rfl, rfl⟩
 go_wp2_with fail
 refine CC.out.mono ?_
 rintro e w1 ⟨rfl, hb1⟩
 have k4 := hk3 _ hb1
 go_wp2_with fail
 refine (CL.out _).mono ?_
 rintro e w1' ⟨rfl, rfl⟩
 go_wp2_with fail
 refine (CS1.out _ hb1).mono ?_
 rintro e w2 ⟨a1, c1, rfl, ho2, hb2⟩
 have hb3 := bth hb1 hb2
 clear k4
 have HO2 := Hd ho2
 clear ho2
 go_wp2_with (at_builtin; go_must (refine append_nats (B := w1'.heap.size) rfl (.tmp 52) (.tmp 53) rfl a1 c1 (l := S) rfl (HO2.out.alloc _) (some ⟨w2.heap.size, 0, none⟩) 2 (m := [0, 0]) rfl (zeros2 w2) (S ++ [0, 0]) rfl (by have := HS2.out; simp; omega) (by have := hb2.size; simp; omega) ?_); intro a3 c3 w3 hown3 hg3 hbb3; have hcap3 : la + 1 <= c3 := (by have h1 := hown3.cap.1; have h2 := HS1.out; simp only [List.length_append, List.length_cons, List.length_nil] at h1; omega))
 obtain ⟨g, r, rfl, hBg, hc3, hrow⟩ := own_row hown3 (by simp)
 have hc3b := hown3.cap.2
 have hb4 : Below w1'.heap.size w1' w3 := hb2.trans (((Below.refl _ w2).alloc (nlr _) _).mono hb2.size |>.trans hbb3)
 have hgl := hrow.lt
 have hb5 := bth hb1 hb4
 obtain ⟨p1, p2⟩ := pad_val (S := S) (k := la + 1) HS2.out (by have := HS1.out; omega)
 have hrow2 := hrow.cut (la + 1)
 have hUL : U16 ((S ++ [0, 0]).take (la + 1)) := (huS.app (by intro x hx; simp at hx; omega)).take _
 rw [HVS.out] at p2
 obtain ⟨L, hL⟩ : ∃ L, (S ++ [0, 0]).take (la + 1) = L := ⟨_, rfl⟩
 obtain ⟨r2, hr2⟩ : ∃ r2, ((S ++ [0, 0]).drop (la + 1)).map (Value.int .u16) ++ r = r2 := ⟨_, rfl⟩
 rw [hL] at p1 p2 hrow2 hUL
 rw [hr2] at hrow2
 have HP1 := Hd p1
 have HP2 := Hd p2
 have HROW := Hd hrow2
 have HC3B := Hd hc3b
 clear hL hr2 hrow hrow2 p1 p2 hown3 hg3 hbb3 hc3 hc3b HO2 hb2 hb3
 refine (CS2.out _ hb5).mono ?_
 rintro e w4 ⟨a5, c5, rfl, ho4, hb6⟩
 have hb7 := bth hb5 hb6
 have hvr := ho4.reads1 huV
 have hvg : ∀ p, a5 = some p -> p.block ≠ g := fun p e => by have := (ho4.lt e).1; omega
 have hwg : w.heap.size <= g := Nat.le_trans hb1.size hBg
 have CLG := long_any L V2 r2 g n c3 c5 a5 w4 (HROW.out.below hb6) hUL (by rw [HP1.out]; omega) hvr HR1.out hvg (by rw [HP1.out]; omega) HR2.out (by rw [HVV.out]; exact HF.out L hUL HP2.out HP1.out) (by rw [HP1.out]; exact hcap3) HC3B.out
 rw [HP1.out, HR1.out, HP2.out, HVV.out, HDQ.out, HDR.out] at CLG
 replace CLG := Hd CLG
 clear hvr ho4 hvg
 go_wp2_with fail
 refine CLG.out.mono ?_
 rintro e w5 ⟨L', a6, c6, rfl, hq6, hrow6, hU6, hl6, hv6, hg6⟩
 have hb8 := below_but hb7 hg6 hwg hb7.size
 have hrd := hrow6.readsAt hU6 0 L'.length c3 (by omega) HC3B.out
 rw [List.drop_zero, List.take_length] at hrd
 have CTR := trim_any L' _ _ w5 hrd
 have hrd2 := hrd.trim
 rw [hv6, hl6] at CTR
 rw [hv6] at hrd2
 have hll := limbs_len_val hU6
 rw [hv6, hl6] at hll
 have CB := shift_back (limbs (n1 % n2 * 2 ^ s)) (n1 % n2) s _ _ w5 hrd2 (val_limbs _) (by omega) hs
 replace CB := Hd CB
 replace CTR := Hd CTR
 have HQ6 := Hd hq6
 clear hrd hrd2 hv6 hl6 hrow6 hg6 hll hq6 CLG hU6
 go_wp2_with fail
 refine CTR.out.mono ?_
 rintro e w6 ⟨rfl, rfl⟩
 go_wp2_with fail
 refine CB.out.mono ?_
 rintro e w6 ⟨a7, c7, rfl, hV7, hb9⟩
 have HV7 := Hd hV7
 have hbf := bth hb8 hb9
 clear hV7
 go_wp2
 go_ret3
 exact ⟨a6, c6, a7, c7, rfl, fun V hV => HQ6.out V ((hV.below hb9).base hb7.size), fun V hV => HV7.out V (hV.base hb8.size), hbf⟩
theorem divMod_any (l m : List Int) (n1 n2 : Nat) (a a' : Option Addr) (c c' : Nat) (w : World) (h : NatR w a c l) (h' : NatR w a' c' m) (hn : val l = n1) (hk : val m = n2) (hl : l.length <= 4000000) (hm : m.length <= 4000000) (h0 : 0 < n2) :
  Calls Tryz.prog 142 #[.slice a l.length c, .slice a' m.length c'] w (RetQR n1 n2 w) := by
 by_cases hlt : n1 < n2
 · exact divMod_less l m n1 n2 a a' c c' w h h' hn hk (by omega) hlt
 ·
  by_cases h1 : n2 <= 65535
  · exact divMod_one l m n1 n2 a a' c c' w h h' hn hk (by omega) (by omega) h0 h1
  ·
   obtain ⟨n, h2⟩ : ∃ n, (limbs n2).length = n + 2 := by
    refine ⟨(limbs n2).length - 2, ?_⟩
    have h3 : ¬ (limbs n2).length <= 1 := fun e => by
     have h4 := lt_pow_limbs n2
     have h5 : 65536 ^ (limbs n2).length <= 65536 ^ 1 := Nat.pow_le_pow_right (by omega) e
     omega
    omega
   exact divMod_big l m n1 n2 n a a' c c' w h h' hn hk hl hm (by omega) h2
theorem uint_any (l : List Int) (n : Nat) (a : Option Addr) (c : Nat) (w : World) (h : NatR w a c l) (hn : val l = n) :
  Calls Tryz.prog 140 #[.slice a l.length c] w fun e w' => ∃ (u : Nat) (b : Bool), e = .returned (.tuple #[.int .u64 u, .bool b]) /\ (b = true -> u = n) /\ Hid (u < 18446744073709551616) /\ w = w' := by
 by_cases hs : n < 18446744073709551616
 · exact (uint_small l n a c w h hn hs).mono fun e w' ⟨he, hw⟩ => ⟨n, true, he, fun _ => rfl, hs, hw⟩
 · exact (uint_big l n a c w h hn hs).mono fun e w' ⟨he, hw⟩ => ⟨0, false, he, (fun h => by cases h), Hd (by omega), hw⟩
theorem gcd_any (l m : List Int) (n1 n2 : Nat) (a a' : Option Addr) (c c' : Nat) (w : World) (h : NatR w a c l) (h' : NatR w a' c' m) (hn : val l = n1) (hk : val m = n2) (hl : l.length <= 2000000) (hm : m.length <= 2000000) :
  Calls Tryz.prog 99 #[.slice a l.length c, .slice a' m.length c'] w (RetN (limbs (Nat.gcd n1 n2)) w) := by
 have H := Hd h
 have H' := Hd h'
 have C1 := norm_any l a c w h (by omega)
 rw [hn] at C1
 replace C1 := Hd C1
 have hL1 : (limbs n1).length <= 2000000 := by have := limbs_len_val h.u16; rw [hn] at this; omega
 have hL2 : (limbs n2).length <= 2000000 := by have := limbs_len_val h'.u16; rw [hk] at this; omega
 have HK := Hd hk
 clear h h' hn hk
 go_enter Tryz.func99, Tryz.ntmps99
 go_wp2_with fail
 refine C1.out.mono ?_
 rintro e w1 ⟨a1, c1, rfl, hV1, hb1⟩
 have C2 := norm_any m a' c' w1 (H'.out.ext (xbw hb1)) (by omega)
 rw [HK.out] at C2
 replace C2 := Hd C2
 have HV1 := Hd hV1
 clear hV1 C1
 go_wp2_with fail
 refine C2.out.mono ?_
 rintro e w2 ⟨a2, c2, rfl, hV2, hb2⟩
 have hb := bth hb1 hb2
 have HV2 := Hd hV2
 clear hV2 C2 H H' HK
 go_wp2
 go_loopg [0, 1, 5, 6, 7, 8, 9, 10, 11] n2 (fun g sx sy _ _ _ _ _ _ _ wr => ∃ (x : Nat) (ax : Option Addr) (cx : Nat) (ay : Option Addr) (cy : Nat), sx = .slice ax (limbs x).length cx /\ sy = .slice ay (limbs g).length cy /\ (∀ V, New w.heap.size wr V -> NatR V ax cx (limbs x)) /\
  (∀ V, New w.heap.size wr V -> NatR V ay cy (limbs g)) /\ (limbs x).length <= 2000000 /\ (limbs g).length <= 2000000 /\ Below w.heap.size w wr /\ Nat.gcd x g = Nat.gcd n1 n2)
 case atStart => exact ⟨n1, a1, c1, a2, c2, rfl, rfl, fun V hV => HV1.out V (hV.below hb2), fun V hV => HV2.out V (hV.base hb1.size), hL1, hL2, hb, rfl⟩
 case round =>
  obtain ⟨x, ax, cx, ay, cy, rfl, rfl, hx, hy, hlx, hly, hb', hg⟩ := hrel
  have HX := Hd hx
  have HY := Hd hy
  have HG := Hd hg
  clear hx hy hg hb1 hb2 hb
  by_cases h0 : gk = 0
  ·
   subst h0
   have hgz : decide (0 < (limbs 0).length) = false := by rw [limbs_zero]; rfl
   have hX := HX.out
   have hgc : limbs (Nat.gcd n1 n2) = limbs x := by rw [<- HG.out, Nat.gcd_zero_right]
   have HGC := Hd hgc
   clear hgc
   replace hX := Hd hX
   go_wp2
   go_ret
   rw [HGC.out]
   exact ⟨ax, cx, rfl, hX.out, hb'⟩
  ·
   have hgz : decide (0 < (limbs gk).length) = true := by have := limbs_len_pos (n := gk); simp; omega
   have CU1 := uint_any (limbs x) x ax cx wr (HX.out wr (New.refl _ _)) (val_limbs _)
   have CU2 := uint_any (limbs gk) gk ay cy wr (HY.out wr (New.refl _ _)) (val_limbs _)
   have CD := divMod_any (limbs x) (limbs gk) x gk ax ay cx cy wr (HX.out wr (New.refl _ _)) (HY.out wr (New.refl _ _)) (val_limbs _) (val_limbs _) (by omega) (by omega) (by omega)
   have hr : x % gk < gk := Nat.mod_lt _ (by omega)
   have hgr : Nat.gcd gk (x % gk) = Nat.gcd n1 n2 := by rw [<- HG.out, Nat.gcd_comm x gk, Nat.gcd_rec gk x, Nat.gcd_comm]
   have HGR := Hd hgr
   have HR := Hd hr
   have hlr : (limbs (x % gk)).length <= 2000000 := Nat.le_trans (limbs_len_mono (Nat.le_of_lt hr)) hly
   unfold RetQR at CD
   replace CU1 := Hd CU1
   replace CU2 := Hd CU2
   replace CD := Hd CD
   clear hgr hr
   go_wp2_with fail
   refine CU1.out.mono ?_
   rintro e w3 ⟨u1, s1, rfl, hu1, hu1b, rfl⟩
   go_wp2_with fail
   refine CU2.out.mono ?_
   rintro e w3 ⟨u2, s2, rfl, hu2, hu2b, rfl⟩
   cases s1
   ·
    clear hu1 hu2
    go_wp2_with fail
    refine CD.out.mono ?_
    rintro e w3 ⟨a3, c3, a4, c4, rfl, hV3, hV4, hb3⟩
    have HV4 := Hd hV4
    clear hV3 hV4 CD
    go_wp2
    go_roundg (x % gk)
    case rel => exact ⟨gk, ay, cy, a4, c4, rfl, rfl, fun V hV => HY.out V (hV.below hb3), fun V hV => HV4.out V (hV.base hb'.size), hly, hlr, bth hb' hb3, HGR.out⟩
    case measure => exact HR.out
   ·
    cases s2
    ·
     clear hu1 hu2
     go_wp2_with fail
     refine CD.out.mono ?_
     rintro e w3 ⟨a3, c3, a4, c4, rfl, hV3, hV4, hb3⟩
     have HV4 := Hd hV4
     clear hV3 hV4 CD
     go_wp2
     go_roundg (x % gk)
     case rel => exact ⟨gk, ay, cy, a4, c4, rfl, rfl, fun V hV => HY.out V (hV.below hb3), fun V hV => HV4.out V (hV.base hb'.size), hly, hlr, bth hb' hb3, HGR.out⟩
     case measure => exact HR.out
    ·
     obtain rfl := hu1 rfl
     obtain rfl := hu2 rfl
     clear CD CU1 CU2 HGR HR hlr hu1 hu2
     go_wp2
     go_loopg [5, 7] u2 (fun y s5 s7 wi => ∃ z : Nat, s5 = .int .u64 z /\ s7 = .int .u64 y /\ Hid (z < 18446744073709551616) /\ Hid (y < 18446744073709551616) /\ Hid (Nat.gcd z y = Nat.gcd n1 n2) /\ Below w.heap.size w wi)
     case atStart => exact ⟨u1, rfl, rfl, hu1b, hu2b, HG.out, hb'⟩
     case round =>
      clear hb'
      obtain ⟨z, rfl, rfl, hz, hy, hzy, hwi⟩ := hrel
      by_cases hy0 : gk = 0
      ·
       subst hy0
       have hgc : Nat.gcd n1 n2 = z := by rw [<- hzy.out, Nat.gcd_zero_right]
       have HGC2 := Hd hgc
       have CO := fun W => of_any z W hz.out
       replace CO := Hd CO
       clear hgc
       go_wp2_with fail
       refine (CO.out _).mono ?_
       rintro e w3 ⟨a3, c3, rfl, hV3, hb3⟩
       have HV3 := Hd hV3
       have hb4 := bth hwi hb3
       clear hV3
       go_wp2
       go_ret
       rw [HGC2.out]
       exact ⟨a3, c3, rfl, fun V hV => HV3.out V (hV.base hwi.size), hb4⟩
      ·
       have hmod : (z : Int).tmod (gk : Int) = ((z % gk : Nat) : Int) := rfl
       have hne : ¬ gk = 0 := hy0
       have hpos : decide ((0 : Int) < (gk : Int)) = true := by simp; omega
       have hlt : z % gk < gk := Nat.mod_lt _ (by omega)
       have hgc : Nat.gcd gk (z % gk) = Nat.gcd n1 n2 := by rw [<- hzy.out, Nat.gcd_comm z gk, Nat.gcd_rec gk z, Nat.gcd_comm]
       have hb5 : z % gk < 18446744073709551616 := by have := hy.out; omega
       have HB5 := Hd hb5
       have HLT := Hd hlt
       have HGC := Hd hgc
       have w1' : IntKind.u64.wrap ((z % gk : Nat) : Int) = ((z % gk : Nat) : Int) := by rw [wrap64u, Nat.mod_eq_of_lt hb5]
       clear hlt hgc hb5 hy0
       go_wp2
       go_region
       go_wp2
       go_roundg (z % gk)
       case rel => exact ⟨gk, rfl, rfl, hy, HB5.out, HGC.out, hwi.drew⟩
       case measure => exact HLT.out
theorem one_any (l : List Int) (a : Option Addr) (c : Nat) (w : World) (h : NatR w a c l) :
  Calls Tryz.prog 98 #[.slice a l.length c] w fun e w' => e = .returned (.bool (decide (l.length = 1 /\ limbAt l 0 = 1))) /\ Below w.heap.size w w' := by
 have hlen := h.len
 have hu := h.u16
 by_cases h0 : l.length = 0
 ·
  obtain rfl : l = [] := List.length_eq_zero_iff.1 h0
  clear h hu h0
  go_enter Tryz.func98, Tryz.ntmps98
  go_wp2
  go_ret
  exact ⟨rfl, brf.alloc (nlr _) _⟩
 ·
  obtain ⟨x, hx⟩ := get_of_lt (xs := l) (k := 0) (by omega)
  obtain ⟨b, off, rfl, hc⟩ := h.cell hx
  obtain ⟨hx0, hx1⟩ := hu.get hx
  rw [limbAt_some hx]
  have hc2 : w.cell? ⟨b, off, none⟩ = some (.int .u16 x) := by simpa using hc
  have hk := held hc2
  have hgt : decide ((0 : Int) < (l.length : Int)) = true := by rw [decide_eq_true_eq]; omega
  have hbl : b < w.heap.size + 1 := by have := World.block_lt_of_cell? w _ hc2; simp at this; omega
  have hb2 : b < w.heap.size := by have := World.block_lt_of_cell? w _ hc2; simpa using this
  clear h hu hx hc
  go_enter Tryz.func98, Tryz.ntmps98
  go_wp2
  all_goals go_ret
  all_goals refine ⟨ret_bool ?_, brf.alloc (nlr _) _⟩
  all_goals (simp <;> omega)
theorem one_limbs (n : Nat) : decide ((limbs n).length = 1 /\ limbAt (limbs n) 0 = 1) = decide (n = 1) := by
 rw [decide_eq_decide]
 constructor
 ·
  rintro ⟨h1, h2⟩
  match hl : limbs n, h1 with
  | [x], _ =>
   rw [hl] at h2
   have hv := val_limbs n
   rw [hl] at hv
   simp [limbAt] at h2
   subst h2
   simp [val] at hv
   exact hv.symm
 ·
  rintro rfl
  have e : limbs 1 = [1] := by rw [limbs_pos (by omega)]; simp [limbs_zero]
  rw [e]
  exact ⟨rfl, rfl⟩
theorem limb01_any (l : List Int) (k : Nat) (a : Option Addr) (c : Nat) (w : World) (h : NatR w a c l) :
  Calls Tryz.prog 189 #[.slice a l.length c, .int .i64 k] w fun r w' => r = .returned (.int .i64 (limbAt l k)) /\ w = w' := by
 have hl := h.len
 have hU := h.u16
 by_cases hlt : k < l.length
 ·
  obtain ⟨x, hx⟩ := get_of_lt hlt
  obtain ⟨b, off, rfl, hc⟩ := h.cell hx
  have hxr := hU.get hx
  have he : limbAt l k = x := limbAt_some hx
  rw [he]
  clear h hU he hx
  obtain ⟨hx0, hx1⟩ := hxr
  go_enter Tryz.func189, Tryz.ntmps189
  go_wp2
  go_ret
  exact ⟨rfl, rfl⟩
 ·
  have he : limbAt l k = 0 := limbAt_none (by omega)
  rw [he]
  clear h hU he
  go_enter Tryz.func189, Tryz.ntmps189
  go_wp2
  go_ret
  exact ⟨rfl, rfl⟩
theorem limb01_quiet (l : List Int) (k : Nat) (a : Option Addr) (c : Nat) (w : World) (h : NatR w a c l) :
  Calls Tryz.prog 189 #[.slice a l.length c, .int .i64 k] w fun r w' => r = .returned (.int .i64 (limbAt l k)) /\ w' = w :=
 (limb01_any l k a c w h).mono fun _ _ h => ⟨h.1, h.2.symm⟩
theorem norm01_any (l : List Int) (a : Option Addr) (c : Nat) (w : World) (h : NatR w a c l) (hl : l.length <= 16777216) :
  Calls Tryz.prog 116 #[.slice a l.length c] w (RetN (limbs (val l)) w) := by
 have hcap := h.1
 have hmx := h.2.1
 have H := Hd h
 clear h
 unfold maxLen at hmx
 go_enter Tryz.func116, Tryz.ntmps116
 go_wp2
 go_loop [3] (fun n => ∃ k : Nat, k <= l.length /\ n = .int .i64 k /\ Hid (val (l.drop k) = 0)) (fun n => (intOf n).toNat)
 case atStart => exact ⟨l.length, nlr _, rfl, val_drop_all (nlr _)⟩
 case round =>
  obtain ⟨k, hk, rfl, hz⟩ := hrel
  by_cases h0 : k = 0
  ·
   subst h0
   have hg : decide ((0 : Int) < ((0 : Nat) : Int)) = false := by simp
   have hcut : limbs (val l) = [] := by
    have : val l = 0 := by simpa using hz.out
    rw [this, limbs_zero]
   go_wp2_with (at_builtin; go_must (refine append_nats (B := w.heap.size) rfl (.tmp 19) (.tmp 22) rfl none 0 (l := []) rfl Own.nil a c (m := []) rfl H.out.zero [] rfl (by simp) (nlr _) ?_); intro a' c' w1 hown hg1 hb1)
   go_ret
   exact RetN.own hown U16.nil hb1 rfl rfl
  ·
   have hgt : decide ((0 : Int) < (k : Int)) = true := by simp; omega
   have hk1 : (k : Int) - 1 = ((k - 1 : Nat) : Int) := by omega
   obtain ⟨x, hx⟩ := get_of_lt (xs := l) (k := k - 1) (by omega)
   obtain ⟨b, off, rfl, hc⟩ := H.out.cell hx
   have hr := H.out.u16.get hx
   have hge : (0 : Int) <= (k : Int) - 1 := by omega
   have hvd := val_drop hx
   have ek : k - 1 + 1 = k := by omega
   rw [ek] at hvd
   have HV := Hd hvd
   have HX := Hd hx
   have HK := Hd hk1
   have hc' : w.cell? ⟨b, off + (k - 1), none⟩ = some (.int .u16 x) := hc
   clear hvd hx hc ek hk1
   by_cases hx0 : x = 0
   ·
    subst hx0
    have e0 : ((0 : Int) == 0) = true := rfl
    go_wp2
    all_goals
     go_round
     case rel => exact ⟨k - 1, by omega, by rw [HK.out], by show val _ = 0; rw [HV.out, hz.out]; rfl⟩
     case measure => simp [intOf]; omega
   ·
    have e0 : (x == 0) = false := by simpa using hx0
    have hcut : limbs (val l) = l.take k := limbs_cut H.out.u16 hz.out (fun y _ hy => by
     rw [HX.out] at hy
     injection hy with hy
     rw [<- hy]; exact hx0) hk
    have HC := Hd hcut
    clear hcut
    have hlen : (l.take k).length = k := by simp; omega
    have HL := Hd hlen
    clear hlen
    go_wp2_with (at_builtin; go_must (refine append_nats (B := w.heap.size) rfl (.tmp 19) (.tmp 22) rfl none 0 (l := []) rfl Own.nil (some ⟨b, off, none⟩) c (m := l.take k) (by rw [HL.out]; rfl) (H.out.take k) (l.take k) rfl (by rw [HL.out]; omega) (nlr _) ?_); intro a' c' w1 hown hg1 hb1)
    go_ret
    exact RetN.own hown (H.out.u16.take k) hb1 HC.out HL.out.symm
theorem of01_any (n : Nat) (w : World) (hn : n < 18446744073709551616) :
  Calls Tryz.prog 68 #[.int .u64 n] w (RetN (limbs n) w) := by
 go_enter Tryz.func68, Tryz.ntmps68
 go_wp2
 go_loopw [0, 3] (fun i s wr => ∃ (m : Nat) (l : List Int) (a : Option Addr) (c : Nat), m <= n /\ i = .int .u64 m /\ s = .slice a l.length c /\ OwnN w.heap.size wr a c l /\ U16 l /\ l.length <= 1000 /\ Below w.heap.size w wr /\ Hid (limbs n = l ++ limbs m)) (fun i _ _ => (intOf i).toNat)
 case atStart => exact ⟨n, [], none, 0, nlr _, rfl, rfl, Own.nil, U16.nil, by simp, Below.refl _ _, rfl⟩
 case round =>
  obtain ⟨m, l, a, c, hm, rfl, rfl, ho, hU, hlen, hb, hr⟩ := hrel
  have HO := Hd ho
  clear ho
  by_cases h0 : m = 0
  ·
   subst h0
   have HR : limbs n = l := by have := hr.out; rw [limbs_zero] at this; simpa using this
   replace HR := Hd HR
   go_wp2
   go_ret
   exact RetN.own HO.out hU hb HR.out rfl
  ·
   have hgt : decide ((0 : Int) < (m : Int)) = true := by simp; omega
   have hs : limbs m = ((m % 65536 : Nat) : Int) :: limbs (m / 65536) := limbs_pos h0
   have hr2 : limbs n = (l ++ [((m % 65536 : Nat) : Int)]) ++ limbs (m / 65536) := by rw [hr.out, hs]; simp
   have HR := Hd hr2
   clear hs hr2
   have hlt : m < 18446744073709551616 := by omega
   have hm1 : ((m : Int) % 65536) = ((m % 65536 : Nat) : Int) := by omega
   have hm2 : ((m : Int) / 65536) = ((m / 65536 : Nat) : Int) := by omega
   have HM1 := Hd hm1
   have HM2 := Hd hm2
   clear hm1 hm2
   go_wp2_with (at_builtin; go_must (refine append_nat rfl (.tmp 6) (.tmp 10) rfl a c rfl (HO.out.alloc _) ((m % 65536 : Nat) : Int) wr.heap.size 1 rfl (by simp <;> omega) (l ++ [((m % 65536 : Nat) : Int)]) rfl (by simp; omega) (by have := hb.size; simp; omega) ?_); intro a2 c2 w2 ho2 hg2 hx2)
   go_roundw
   case rel =>
    have hb1 : Below w.heap.size w w2 := below_append' (hb.alloc hb.size _) (HO.out.alloc _) hg2
    have hl4 : (l ++ [((m % 65536 : Nat) : Int)]).length <= 1000 := by
     have h4 : (limbs n).length <= 4 := limbs_len_le (by simpa using hn)
     rw [HR.out] at h4
     simp only [List.length_append] at h4 ⊢
     omega
    exact ⟨m / 65536, l ++ [((m % 65536 : Nat) : Int)], a2, c2, by omega, by rw [HM2.out], by simp, ho2, hU.app (U16.cons (by omega) U16.nil), hl4, hb1, HR.out⟩
   case measure => rw [HM2.out]; simp [intOf]; omega
theorem val_drop_le (l : List Int) (k : Nat) : val (l.drop k) <= val l := by
 by_cases hk : k <= l.length
 ·
  have := val_split l k
  have h1 : 1 <= 65536 ^ (l.take k).length := Nat.one_le_pow _ _ (by omega)
  have h2 := Nat.mul_le_mul_right (val (l.drop k)) h1
  omega
 · rw [val_drop_all (by omega)]; omega
theorem short01_any (l : List Int) (a : Option Addr) (c : Nat) (w : World) (h : NatR w a c l) (hv : val l < 18446744073709551616) :
  Calls Tryz.prog 118 #[.slice a l.length c] w fun r w' => r = .returned (.int .u64 (val l)) /\ w = w' := by
 have hlen := h.len
 have H := Hd h
 clear h
 go_enter Tryz.func118, Tryz.ntmps118
 go_wp2
 go_loop [3, 4] (fun n i => ∃ k : Nat, k <= l.length /\ i = .int .i64 ((k : Int) - 1) /\ n = .int .u64 (val (l.drop k) : Nat)) (fun _ i => (intOf i + 1).toNat)
 case atStart => exact ⟨l.length, nlr _, rfl, by rw [val_drop_all (nlr _)]; rfl⟩
 case round =>
  obtain ⟨k, hk, rfl, rfl⟩ := hrel
  by_cases h0 : k = 0
  ·
   subst h0
   go_wp2
   go_ret
   exact ⟨by simp, rfl⟩
  ·
   have hgt : decide ((0 : Int) <= (k : Int) - 1) = true := by simp; omega
   have hge : (0 : Int) <= (k : Int) - 1 := by omega
   obtain ⟨x, hx⟩ := get_of_lt (xs := l) (k := k - 1) (by omega)
   obtain ⟨b, off, rfl, hc⟩ := H.out.cell hx
   obtain ⟨hx0, hx1⟩ := H.out.u16.get hx
   have hvd := val_drop hx
   have ek : k - 1 + 1 = k := by omega
   rw [ek] at hvd
   have hle := val_drop_le l (k - 1)
   have HV := Hd hvd
   have hb1 : (val (l.drop k) : Int) * 65536 + x <= 18446744073709551615 := by omega
   have hb0 : 0 <= (val (l.drop k) : Int) * 65536 := by omega
   have hb2 : (val (l.drop k) : Int) * 65536 <= 18446744073709551615 := by omega
   clear hvd ek hx hle
   go_wp2
   all_goals
    go_round
    case rel => exact ⟨k - 1, by omega, by first | (congr 1; omega) | rfl, val_int (by rw [HV.out]; omega)⟩
    case measure => simp [intOf]; omega
theorem cmp01_any (l m : List Int) (a a' : Option Addr) (c c' : Nat) (w : World) (h : NatR w a c l) (h' : NatR w a' c' m) (hl : l.length <= 16777216) (hm : m.length <= 16777216) :
  Calls Tryz.prog 166 #[.slice a l.length c, .slice a' m.length c'] w fun r w' => r = .returned (.int .i64 (cmpN (val l) (val m))) /\ w = w' := by
 have hU := h.u16
 have hU' := h'.u16
 have H := Hd h
 have H' := Hd h'
 clear h h'
 go_enter Tryz.func166, Tryz.ntmps166
 go_wp2
 all_goals
  go_loop [5] (fun i => ∃ k : Nat, k <= 16777216 /\ i = .int .i64 ((k : Int) - 1) /\ Hid (val (l.drop k) = val (m.drop k))) (fun i => (intOf i + 1).toNat)
  case atStart => first
    | exact ⟨m.length, hm, rfl, by show _ = _; rw [val_drop_all (by omega), val_drop_all (by omega)]⟩
    | exact ⟨l.length, hl, rfl, by show _ = _; rw [val_drop_all (by omega), val_drop_all (by omega)]⟩
    | exact ⟨max l.length m.length, by omega, val_int (by omega), by show _ = _; rw [val_drop_all (by omega), val_drop_all (by omega)]⟩
  case round =>
   obtain ⟨k, hk, rfl, he⟩ := hrel
   by_cases h0 : k = 0
   ·
    subst h0
    have hz : cmpN (val l) (val m) = 0 := by have := he.out; simp at this; rw [this]; simp [cmpN]
    replace hz := Hd hz
    go_wp2
    go_ret
    exact ⟨ret_int hz.out.symm, rfl⟩
   ·
    have hgt : decide ((0 : Int) <= (k : Int) - 1) = true := by simp; omega
    have hge : (0 : Int) <= (k : Int) - 1 := by omega
    have ek : k - 1 + 1 = k := by omega
    have hkk : (k : Int) - 1 = ((k - 1 : Nat) : Int) := by omega
    have CX := limb01_any l (k - 1) a c w H.out
    have CY := limb01_any m (k - 1) a' c' w H'.out
    have hlx := limbAt_in hU (k - 1)
    have hly := limbAt_in hU' (k - 1)
    have hL : val (l.drop k) = val (m.drop k) -> limbAt l (k - 1) < limbAt m (k - 1) -> val l < val m := fun e => val_lt_of hU hU' (k - 1) (by rw [ek]; exact e)
    have hG : val (l.drop k) = val (m.drop k) -> limbAt m (k - 1) < limbAt l (k - 1) -> val m < val l := fun e => val_lt_of hU' hU (k - 1) (by rw [ek]; exact e.symm)
    have hE : val (l.drop k) = val (m.drop k) -> limbAt l (k - 1) = limbAt m (k - 1) -> val (l.drop (k - 1)) = val (m.drop (k - 1)) := fun e e2 => by rw [val_drop_at, val_drop_at (l := m), ek, e, e2]
    rw [<- hkk] at CX CY
    revert CX CY hlx hly hL hG hE
    generalize limbAt l (k - 1) = x
    generalize limbAt m (k - 1) = y
    intro CX CY hlx hly hL hG hE
    replace CX := Hd CX
    replace CY := Hd CY
    replace hL := hL he.out
    replace hG := hG he.out
    have HE := Hd (hE he.out)
    clear hE hkk
    by_cases hlt : x < y
    ·
     have hv := hL hlt
     clear hL hG HE
     go_wp2_with (go_at_call 189; (first | ((with_reducible refine CX.out.mono ?_); rintro e w' ⟨rfl, rfl⟩) | ((with_reducible refine CY.out.mono ?_); rintro e w' ⟨rfl, rfl⟩)))
     go_ret
     exact ⟨ret_int (by unfold cmpN; rw [if_pos hv]), rfl⟩
    ·
     by_cases hgt2 : y < x
     ·
      have hv := hG hgt2
      clear hL hG HE
      go_wp2_with (go_at_call 189; (first | ((with_reducible refine CX.out.mono ?_); rintro e w' ⟨rfl, rfl⟩) | ((with_reducible refine CY.out.mono ?_); rintro e w' ⟨rfl, rfl⟩)))
      go_ret
      exact ⟨ret_int (by unfold cmpN; rw [if_neg (by omega), if_pos hv]), rfl⟩
     ·
      clear hL hG
      go_wp2_with (go_at_call 189; (first | ((with_reducible refine CX.out.mono ?_); rintro e w' ⟨rfl, rfl⟩) | ((with_reducible refine CY.out.mono ?_); rintro e w' ⟨rfl, rfl⟩)))
      all_goals
       go_round
       case rel => exact ⟨k - 1, by omega, by first | (congr 1; omega) | rfl, HE.out (by omega)⟩
       case measure => simp [intOf]; omega
def canonB (l : List Int) : Bool := decide (limbs (val l) = l)
theorem canonB_last {l : List Int} (h : U16 l) {x : Int} (hx : l[l.length - 1]? = some x) (_ : 0 < l.length) : canonB l = !(x == 0) := by
 unfold canonB
 by_cases hx0 : x = 0
 ·
  subst hx0
  simp only [beq_self_eq_true, Bool.not_true, decide_eq_false_iff_not]
  intro e
  have : (limbs (val l)).getLast? = some 0 := by rw [e, List.getLast?_eq_getElem?]; exact hx
  exact limbs_last this rfl
 ·
  have e : (x == 0) = false := by simpa using hx0
  rw [e]
  simp only [Bool.not_false, decide_eq_true_eq]
  refine limbs_canon h fun y hy => ?_
  rw [List.getLast?_eq_getElem?, hx] at hy
  injection hy with hy
  rw [<- hy]; exact hx0
theorem valid01_any (l : List Int) (a : Option Addr) (c : Nat) (w : World) (h : NatR w a c l) :
  Calls Tryz.prog 80 #[.slice a l.length c] w fun r w' => r = .returned (.bool (canonB l)) /\ w = w' := by
 have hlen := h.len
 have H := Hd h
 clear h
 by_cases h0 : l.length = 0
 ·
  have hl : l = [] := List.eq_nil_of_length_eq_zero h0
  subst hl
  have hc : canonB [] = true := by simp [canonB, val, limbs_zero]
  rw [hc]
  clear hc h0
  go_enter Tryz.func80, Tryz.ntmps80
  go_wp2
  go_ret
  exact ⟨rfl, rfl⟩
 ·
  obtain ⟨x, hx⟩ := get_of_lt (xs := l) (k := l.length - 1) (by omega)
  obtain ⟨b, off, rfl, hc⟩ := H.out.cell hx
  have hcan := canonB_last H.out.u16 hx (by omega)
  have HC := Hd hcan
  have hb : ((l.length : Int) == 0) = false := by simp; exact fun e => h0 (by simp [e])
  have hge : (0 : Int) <= (l.length : Int) - 1 := by omega
  clear hcan hx
  by_cases hx0 : x = 0
  ·
   subst hx0
   go_enter Tryz.func80, Tryz.ntmps80
   go_wp2
   go_ret
   exact ⟨ret_bool (by rw [HC.out]; rfl), rfl⟩
  ·
   have e0 : (x == 0) = false := by simpa using hx0
   have e1 : (x != 0) = true := by simpa using hx0
   go_enter Tryz.func80, Tryz.ntmps80
   go_wp2
   go_ret
   exact ⟨ret_bool (by rw [HC.out, e0]; rfl), rfl⟩
theorem same01_any (xs ys : List Int) (a a' : Option Addr) (c c' : Nat) (w : World) (h : NatR w a c xs) (h' : NatR w a' c' ys) :
  Calls Tryz.prog 81 #[.slice a xs.length c, .slice a' ys.length c'] w fun r w' => r = .returned (.bool (decide (xs = ys))) /\ Below w.heap.size w w' := by
 have H := Hd h
 have H' := Hd h'
 have hl := h.len
 have hl' := h'.len
 clear h h'
 by_cases hlen : xs.length = ys.length
 ·
  have hlb : ((xs.length : Int) != (ys.length : Int)) = false := by simp; omega
  have HL := Hd hlen
  clear hlen
  go_enter Tryz.func81, Tryz.ntmps81
  go_wp2
  go_loopw [5] (fun i wr => ∃ k : Nat, k <= xs.length /\ i = .int .i64 k /\ Below w.heap.size w wr /\ Hid (xs.take k = ys.take k)) (fun i _ => xs.length - (intOf i).toNat)
  case atStart => exact ⟨0, by omega, rfl, Below.refl _ _, by simp [Hid]⟩
  case round =>
   obtain ⟨k, hk, rfl, hb, hp⟩ := hrel
   by_cases hlt : k < xs.length
   ·
    obtain ⟨x, hx⟩ := get_of_lt hlt
    obtain ⟨y, hy⟩ := get_of_lt (xs := ys) (k := k) (by have := HL.out; omega)
    obtain ⟨b, off, rfl, hE⟩ := H.out.2.2 k x hx
    obtain ⟨b', off', rfl, hE'⟩ := H'.out.2.2 k y hy
    have hc : wr.cell? ⟨b, off + k, none⟩ = some (.int .u16 x) := by have := (hE.ext (xbw hb)).1; simpa using this
    have hc' : wr.cell? ⟨b', off' + k, none⟩ = some (.int .u16 y) := by have := (hE'.ext (xbw hb)).1; simpa using this
    have hky : (k : Int) < (ys.length : Int) := by have := HL.out; omega
    have HX := Hd hx
    have HY := Hd hy
    clear hx hy hE hE'
    by_cases he : x = y
    ·
     have hbe : (x != y) = false := by simpa using he
     have HE := Hd he
     clear he
     go_wp2
     go_quiet (fail)
     go_wp2
     refine ⟨⟨k + 1, by omega, by go_num, below_drewN hb _, ?_⟩, by simp [intOf]; omega⟩
     rw [take_more HX.out, take_more HY.out, hp.out, HE.out]; rfl
    ·
     have hbe : (x != y) = true := by simpa using he
     have HE := Hd he
     clear he
     go_wp2
     go_quiet (fail)
     go_wp2
     go_ret
     refine ⟨ret_bool ?_, below_drewN hb _⟩
     refine (decide_eq_false (fun e => HE.out ?_)).symm
     have h1 := HX.out
     have h2 := HY.out
     rw [e, h2] at h1
     exact (Option.some.inj h1).symm
   ·
    go_wp2
    go_ret
    refine ⟨ret_bool ?_, hb⟩
    have := hp.out
    rw [take_all hlt, List.take_of_length_le (by have := HL.out; omega)] at this
    rw [this]; simp
 ·
  have hlb : ((xs.length : Int) != (ys.length : Int)) = true := by simp; omega
  have hd : decide (xs = ys) = false := decide_eq_false (fun e => hlen (by rw [e]))
  rw [hd]
  clear hlen hd
  go_enter Tryz.func81, Tryz.ntmps81
  go_wp2
  go_ret
  exact ⟨rfl, Below.refl _ _⟩
def RetNE (l : List Int) (x : Int) (w : World) (e : Ending) (w' : World) : Prop := ∃ a c, e = .returned (.tuple #[.slice a l.length c, .int .i64 x]) /\ (∀ V, New w.heap.size w' V -> NatR V a c l) /\ Below w.heap.size w w'
theorem sub01_less (l m : List Int) (n k : Nat) (a a' : Option Addr) (c c' : Nat) (w : World) (h : NatR w a c l) (h' : NatR w a' c' m) (hn : val l = n) (hk : val m = k) (hl : l.length <= 16777216) (hm : m.length <= 16777216) (hlt : n < k) :
  Calls Tryz.prog 156 #[.slice a l.length c, .slice a' m.length c'] w (RetNE [] 2 w) := by
 have C := cmp01_any l m a a' c c' w h h' hl hm
 have hc : cmpN (val l) (val m) = -1 := by subst hn; subst hk; unfold cmpN; rw [if_pos hlt]
 rw [hc] at C
 replace C := Hd C
 clear h h' hn hk hc hlt
 go_enter Tryz.func156, Tryz.ntmps156
 go_wp2_with (go_at_call 166; refine C.out.mono ?_; rintro e w' ⟨rfl, rfl⟩)
 go_ret2
 exact ⟨none, 0, rfl, fun _ _ => SlR.nil, Below.refl _ _⟩
theorem sub01_any (l m : List Int) (n k : Nat) (a a' : Option Addr) (c c' : Nat) (w : World) (h : NatR w a c l) (h' : NatR w a' c' m) (hn : val l = n) (hk : val m = k) (hl : l.length <= 16777215) (hm : m.length <= 16777216) (hge : k <= n) :
  Calls Tryz.prog 156 #[.slice a l.length c, .slice a' m.length c'] w (RetNE (limbs (n - k)) 0 w) := by
 have C := cmp01_any l m a a' c c' w h h' (by omega) hm
 have hc : 0 <= cmpN (val l) (val m) := by subst hn; subst hk; exact cmpN_ge.2 hge
 have hU := h.u16
 have hU' := h'.u16
 have H := Hd h
 have H' := Hd h'
 have HN := Hd hn
 have HK := Hd hk
 have HU := Hd hU
 have HU' := Hd hU'
 revert C hc
 generalize cmpN (val l) (val m) = q
 intro C hc
 replace C := Hd C
 have hcf : decide (q < 0) = false := by simp; omega
 clear h h' hn hk hU hU' hc
 go_enter Tryz.func156, Tryz.ntmps156
 go_wp2_with (go_at_call 166; refine C.out.mono ?_; rintro e w' ⟨rfl, rfl⟩)
 clear C hcf
 go_loopw [6, 7, 8, 9] (fun s b i _ wr => ∃ (j bo : Nat) (o : List Int) (ao : Option Addr) (co : Nat), j <= l.length /\ bo <= 1 /\ i = .int .i64 j /\ b = .int .i64 bo /\ s = .slice ao o.length co /\ OwnN w.heap.size wr ao co o /\ U16 o /\ Below w.heap.size w wr /\
  Hid (o.length = j) /\ Hid (val (l.take j) + 65536 ^ j * bo = val (m.take j) + val o)) (fun _ _ i _ _ => l.length - (intOf i).toNat)
 case atStart => exact ⟨0, 0, [], none, 0, by omega, by omega, rfl, rfl, rfl, Own.nil, U16.nil, Below.refl _ _, rfl, by simp [Hid, val]⟩
 case round =>
  obtain ⟨j, bo, o, ao, co, hj, hbo, rfl, rfl, rfl, ho, hUo, hb, hlen, hv⟩ := hrel
  have HO := Hd ho
  have HUO := Hd hUo
  clear ho hUo
  by_cases hlt : j < l.length
  ·
   have CX := limb01_any l j a c wr (H.out.ext (xbw hb))
   have CY := limb01_any m j a' c' wr (H'.out.ext (xbw hb))
   obtain ⟨hx0, hx1⟩ := limbAt_in HU.out j
   obtain ⟨hy0, hy1⟩ := limbAt_in HU'.out j
   have hstep := fun bo2 d => sub_step l m o j bo bo2 d hlen.out hv.out
   revert CX CY hx0 hx1 hy0 hy1 hstep
   generalize limbAt l j = x
   generalize limbAt m j = y
   intro CX CY hx0 hx1 hy0 hy1 hstep
   replace CX := Hd CX
   replace CY := Hd CY
   have HS := Hd hstep
   clear hstep
   by_cases hd : x - y - bo < 0
   ·
    have HS2 := HS.out 1 (x - y - bo + 65536).toNat (by omega)
    have ed : ((x - y - (bo : Int) + 65536).toNat : Int) = x - y - bo + 65536 := by omega
    rw [ed] at HS2
    replace HS2 := Hd HS2
    clear ed
    go_wp2_with (first
     | (go_at_call 189; (first | ((with_reducible refine CX.out.mono ?_); rintro e w' ⟨rfl, rfl⟩) | ((with_reducible refine CY.out.mono ?_); rintro e w' ⟨rfl, rfl⟩)))
     | (at_builtin; go_must (refine append_nat rfl (.tmp 33) (.tmp 36) rfl ao co rfl (HO.out.alloc _) (x - y - bo + 65536) wr.heap.size 1 rfl (by simp) (o ++ [x - y - bo + 65536]) rfl (by have := hlen.out; simp; omega) (by have := hb.size; simp; omega) ?_); intro a2 c2 w2 ho2 hg2 hx2))
    go_roundw
    case rel =>
     have hb1 : Below w.heap.size w w2 := below_append' (hb.alloc hb.size _) (HO.out.alloc _) hg2
     exact ⟨j + 1, 1, _, a2, c2, by omega, by omega, by go_num, rfl, by simp, ho2, HUO.out.app (U16.cons (by omega) U16.nil), hb1, by show _ = _; rw [List.length_append, hlen.out]; rfl, HS2.out⟩
    case measure => simp [intOf]; omega
   ·
    have HS2 := HS.out 0 (x - y - bo).toNat (by omega)
    have ed : ((x - y - (bo : Int)).toNat : Int) = x - y - bo := by omega
    rw [ed] at HS2
    replace HS2 := Hd HS2
    clear ed
    go_wp2_with (first
     | (go_at_call 189; (first | ((with_reducible refine CX.out.mono ?_); rintro e w' ⟨rfl, rfl⟩) | ((with_reducible refine CY.out.mono ?_); rintro e w' ⟨rfl, rfl⟩)))
     | (at_builtin; go_must (refine append_nat rfl (.tmp 33) (.tmp 36) rfl ao co rfl (HO.out.alloc _) (x - y - bo) wr.heap.size 1 rfl (by simp) (o ++ [x - y - bo]) rfl (by have := hlen.out; simp; omega) (by have := hb.size; simp; omega) ?_); intro a2 c2 w2 ho2 hg2 hx2))
    go_roundw
    case rel =>
     have hb1 : Below w.heap.size w w2 := below_append' (hb.alloc hb.size _) (HO.out.alloc _) hg2
     exact ⟨j + 1, 0, _, a2, c2, by omega, by omega, by go_num, rfl, by simp, ho2, HUO.out.app (U16.cons (by omega) U16.nil), hb1, by show _ = _; rw [List.length_append, hlen.out]; rfl, HS2.out⟩
    case measure => simp [intOf]; omega
  ·
   obtain rfl : j = l.length := by omega
   have hval : val o = n - k := by
    have := sub_end HU.out HU'.out HUO.out hlen.out hv.out (by rw [HN.out, HK.out]; exact hge)
    rw [this, HN.out, HK.out]
   have CN := norm01_any o ao co wr (HO.out.reads1 HUO.out) (by have := hlen.out; omega)
   rw [hval] at CN
   replace CN := Hd CN
   clear hval
   go_wp2_with (go_at_call 116; refine CN.out.mono ?_; rintro e w2 ⟨a2, c2, rfl, hV, hb2⟩)
   go_ret2
   exact ⟨a2, c2, rfl, fun V hV' => hV V (hV'.base hb.size), bth hb hb2⟩
theorem mul01_any (l m : List Int) (n1 n2 : Nat) (a a' : Option Addr) (c c' : Nat) (w : World) (h : NatR w a c l) (h' : NatR w a' c' m) (hn : val l = n1) (hk : val m = n2) (hl : l.length <= 8000000) (hm : m.length <= 8000000) :
  Calls Tryz.prog 157 #[.slice a l.length c, .slice a' m.length c'] w (RetN (limbs (n1 * n2)) w) := by
 have hU := h.u16
 have hU' := h'.u16
 have H := Hd h
 have H' := Hd h'
 have HN := Hd hn
 have HK := Hd hk
 have HU := Hd hU
 have HU' := Hd hU'
 have hmk : ∀ w, (Instr.makeSlice 50 (.int .i64 ((l.length : Int) + m.length + 1)) (.int .i64 ((l.length : Int) + m.length + 1))).run Tryz.prog w = .ok (.slice (some ⟨w.heap.size, 0, none⟩) (l.length + m.length + 1) (l.length + m.length + 1)) (w.alloc (.cells (madeCells #[.int .u16 0] (l.length + m.length + 1)) 47)) := fun w => by
  have := run_make_nat .i64 (l.length + m.length + 1) (by omega) w
  simpa using this
 clear h h' hn hk hU hU'
 go_enter Tryz.func157, Tryz.ntmps157
 go_wp2
 have hB0 := BlkN.new w (l.length + m.length + 1)
 have hb0 : Below w.heap.size w (w.alloc (.cells (madeCells #[.int .u16 0] (l.length + m.length + 1)) 47)) := brf.alloc (nlr _) _
 revert hB0 hb0
 generalize w.alloc (.cells (madeCells #[.int .u16 0] (l.length + m.length + 1)) 47) = w0
 intro hB0 hb0
 clear hmk
 go_loopw [6, 7, 8, 9] (fun i _ _ _ wr => ∃ (j : Nat) (o : List Int), j <= l.length /\ i = .int .i64 j /\ BlkN wr w.heap.size o /\ U16 o /\ Below w.heap.size w wr /\ Hid (o.length = l.length + m.length + 1) /\ Hid (val o = val (l.take j) * val m)) (fun i _ _ _ _ => l.length - (intOf i).toNat)
 case atStart => exact ⟨0, _, by omega, rfl, hB0, u16_replicate _, hb0, by simp [Hid], by show _ = _; rw [val_replicate]; simp [val]⟩
 case round =>
  obtain ⟨j, o, hj, rfl, hB, hUo, hb, hlen, hv⟩ := hrel
  clear hB0 hb0
  by_cases hlt : j < l.length
  ·
   obtain ⟨x, hx⟩ := get_of_lt hlt
   have hxr := HU.out.get hx
   have HX := Hd hx
   obtain ⟨ba, oa, rfl, hcx⟩ := H.out.cell hx
   have HCX := Hd hcx
   have HB := Hd hB
   have HUO := Hd hUo
   clear hx hcx hB hUo
   obtain ⟨hx0, hx1⟩ := hxr
   go_wp2
   go_loopw [7, 8, 9] (fun ca k _ w2 => ∃ (cy kk : Nat) (o2 : List Int), kk <= m.length + 1 /\ cy <= 65535 /\ ca = .int .u64 cy /\ k = .int .i64 kk /\ BlkN w2 w.heap.size o2 /\ U16 o2 /\ Below w.heap.size w w2 /\ Hid (o2.length = l.length + m.length + 1) /\
    Hid (val o2 + 65536 ^ (j + kk) * cy = val (l.take j) * val m + 65536 ^ j * (x.toNat * val (m.take kk)))) (fun _ k _ _ => m.length + 2 - (intOf k).toNat)
   case atStart => exact ⟨0, 0, o, by omega, by omega, rfl, rfl, HB.out, HUO.out, hb, hlen.out, by show _ = _; rw [hv.out]; simp [val]⟩
   case round =>
    clear HB HUO hlen hv hb o
    obtain ⟨cy, kk, o, hkk, hcy, rfl, rfl, hB, hUo, hb, hlen, hv⟩ := hrel
    have HB := Hd hB
    have HUO := Hd hUo
    clear hB hUo
    by_cases hA : kk < m.length \/ 0 < cy
    ·
     have hk2 : kk <= m.length := by
      rcases Nat.lt_or_ge kk m.length with h1 | h1
      · omega
      · exact mul_far HU.out HU'.out HX.out h1 (by omega) hv.out
     obtain ⟨z, hz⟩ := get_of_lt (xs := o) (k := j + kk) (by have := hlen.out; omega)
     obtain ⟨hz0, hz1⟩ := HUO.out.get hz
     have CY := fun n => limb01_quiet m kk a' c' (wr.drewN n) (H'.out.ext (xbw (below_drewN hb n)))
     obtain ⟨hy0, hy1⟩ := limbAt_in HU'.out kk
     have hstep := fun c2 d y e => mul_step l m o j kk cy c2 d z x y hz e hv.out
     have hcar := fun (c2 d : Nat) (y : Int) (hy0 : 0 <= y) (hy1 : y <= 65535) => carry_lt (z := z.toNat) (x := x.toNat) (y := y.toNat) (c := cy) (d := d) (c2 := c2) (by omega) (by omega) (by omega) hcy
     have cx := xbw hb _ _ HCX.out
     have cz := HB.out.cell hz
     have fz := HB.out.frozen (j + kk)
     have hgl := HB.out.lt
     replace hstep := fun c2 d => hstep c2 d _ rfl
     revert CY hy0 hy1 hstep
     generalize limbAt m kk = y
     intro CY hy0 hy1 hstep
     have HZ := Hd hz
     have HS := Hd hstep
     have HC := Hd hcar
     clear hz hstep hcar
     have hxy : 0 <= x * y := Int.mul_nonneg hx0 hy0
     have hxy2 : x * y <= 4294836225 := by
      have := Int.mul_le_mul hx1 hy1 hy0 (by omega)
      omega
     have wi1 : IntKind.i64.wrap ((j : Int) + kk) = (j : Int) + kk := IntWalk.i64_in _ (by omega)
     have wu1 : IntKind.u64.wrap (x * y) = x * y := IntWalk.u64_in _ (by omega)
     have wu2 : IntKind.u64.wrap (z + x * y) = z + x * y := IntWalk.u64_in _ (by omega)
     have wu3 : IntKind.u64.wrap (z + x * y + cy) = z + x * y + cy := IntWalk.u64_in _ (by omega)
     have wx : IntKind.u64.wrap x = x := IntWalk.u64_in _ (by omega)
     have wz : IntKind.u64.wrap z = z := IntWalk.u64_in _ (by omega)
     have wy : IntKind.u64.wrap y = y := IntWalk.u64_in _ (by omega)
     have hji : (0 : Int) <= (j : Int) + kk := by omega
     have hjt : ((j : Int) + kk).toNat = j + kk := by omega
     have hsl : (j : Int) + kk < (l.length : Int) + m.length + 1 := by omega
     replace CY := Hd CY
     by_cases hkl : kk < m.length
     all_goals
      go_wp2
      go_quiet ((go_at_call 189; exact Calls.quiet_of_same (CY.out _)))
      clear wi1 wu1 wu2 wu3 wy wx wz hjt
      go_wp2
      go_roundw
      case rel =>
       obtain ⟨s, es⟩ : ∃ s : Nat, (s : Int) = z + x * y + cy := ⟨(z + x * y + cy).toNat, by omega⟩
       have es2 : s = z.toNat + x.toNat * y.toNat + cy := by
        have ex : (x.toNat : Int) = x := by omega
        have ey : (y.toNat : Int) = y := by omega
        have ez : (z.toNat : Int) = z := by omega
        have : ((z.toNat + x.toNat * y.toNat + cy : Nat) : Int) = z + x * y + cy := by
         rw [Int.natCast_add, Int.natCast_add, Int.natCast_mul, ex, ey, ez]
        omega
       have em : (z + x * y + (cy : Int)) % 65536 = ((s % 65536 : Nat) : Int) := by omega
       have ed : (z + x * y + (cy : Int)) / 65536 = ((s / 65536 : Nat) : Int) := by omega
       have hd : s % 65536 + 65536 * (s / 65536) = z.toNat + x.toNat * y.toNat + cy := by omega
       have hset : BlkN ((wr.drewN nq).setCell ⟨w.heap.size, j + kk, none⟩ (.int .u16 ((z + x * y + (cy : Int)) % 65536))) w.heap.size (o.set (j + kk) ((s % 65536 : Nat) : Int)) := by
        rw [em]
        exact BlkN.set_ (show BlkN (wr.drewN nq) w.heap.size o from HB.out) _ _
       exact ⟨s / 65536, kk + 1, o.set (j + kk) ((s % 65536 : Nat) : Int), by omega, HC.out _ _ y hy0 hy1 hd, by rw [ed], by go_num, hset, HUO.out.set_ (by omega),
        (below_drewN hb nq).setCell (p := ⟨w.heap.size, j + kk, none⟩) (nlr _) _, by show _ = _; rw [List.length_set, hlen.out], HS.out _ _ hd⟩
      case measure => simp [intOf]; omega
    ·
     obtain rfl : cy = 0 := by omega
     have hk2 : m.length <= kk := by omega
     have hfin : val o = val (l.take (j + 1)) * val m := by
      have := hv.out
      rw [val_take_all hk2, mul_end l m j x HX.out] at this
      simpa using this
     replace hfin := Hd hfin
     go_wp2
     go_roundw
     case rel => exact ⟨j + 1, o, by omega, by go_num, HB.out, HUO.out, hb, hlen.out, hfin.out⟩
     case measure => simp [intOf]; omega
  ·
   obtain rfl : j = l.length := by omega
   have hval : val o = n1 * n2 := by
    have := hv.out
    rw [this, val_take_all (nlr _), HN.out, HK.out]
   have hol := hlen.out
   have CN := norm01_any o (some ⟨w.heap.size, 0, none⟩) (l.length + m.length + 1) wr (hB.readsV (nlr _) (New.refl _ _) hUo (by omega) (by simp [maxLen]; omega)) (by omega)
   rw [hval, hlen.out] at CN
   replace CN := Hd CN
   clear hval hol
   go_wp2_with (go_at_call 116; refine CN.out.mono ?_; rintro e w2 ⟨a2, c2, rfl, hV, hb2⟩)
   go_ret
   exact ⟨a2, c2, rfl, fun V hV' => hV V (hV'.base hb.size), bth hb hb2⟩
end Go.Proofs.YtkjnkpkagcboeaaGreatDoor
