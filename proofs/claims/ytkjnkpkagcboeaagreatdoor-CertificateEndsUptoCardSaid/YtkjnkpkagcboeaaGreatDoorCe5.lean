/- Walks: the program's natural numbers: Add. -/
import Derived.Test.YtkjnkpkagcboeaaGreatDoorCe4
import Derived.Deep.LoopGhost
import Derived.Test.YtkjnkpkagcboeaaGreatDoorCe1
import Derived.Test.YtkjnkpkagcboeaaGreatDoorCe2
import Derived.Deep.DeepCutAuto
import Derived.Deep.CutRange
import Derived.Test.YtkjnkpkagcboeaaGreatDoorProg
import Derived.Ground.NamesProg
import Derived.Shelf.Lays
import Derived.Shelf.Small.Bits
import Derived.Test.YtkjnkpkagcboeaaGreatDoorCe3
set_option linter.all false
set_option maxRecDepth 100000
set_option maxHeartbeats 4000000
namespace Go.Proofs.YtkjnkpkagcboeaaGreatDoor
open Go.RowKit
theorem shift_back (l : List Int) (R s : Nat) (a : Option Addr) (c : Nat) (w : World) (h : NatR w a c l) (hv : val l = R * 2 ^ s) (hl : l.length <= 10000000) (hs : s <= 15) :
  Calls Tryz.prog 185 #[.slice a l.length c, .int .i64 (-(s : Int))] w (RetN (limbs R) w) := by
 by_cases hR : R = 0
 ·
  subst hR
  rw [limbs_zero]
  exact (shift_zero l _ a c w h (by simpa using hv) (by omega)).mono fun e w' ⟨he, hw⟩ => by subst he; subst hw; exact ⟨none, 0, rfl, fun _ _ => SlR.nil, Below.refl _ _⟩
 ·
  by_cases hs0 : s = 0
  ·
   subst hs0
   have e : R * 2 ^ 0 = R := by simp
   have C := shift_any l R 0 a c w h (by rw [hv, e]) (by omega) hl (by omega)
   rw [e] at C
   have e2 : (-((0 : Nat) : Int)) = ((0 : Nat) : Int) := by simp
   rw [e2]
   exact C.mono fun e w' ⟨a1, c1, he, ho, hb⟩ => by subst he; exact RetN.own ho (limbs_u16 _) hb rfl rfl
  ·
   have hp : 0 < R * 2 ^ s := Nat.mul_pos (by omega) (Nat.two_pow_pos s)
   have C := shift_neg l (R * 2 ^ s) s a c w h hv hp hl (by omega) (by omega)
   rw [Nat.mul_div_cancel _ (Nat.two_pow_pos s)] at C
   exact C
theorem zeros2 (w : World) : NatR (w.alloc (.cells #[.int .u16 0, .int .u16 0] 47)) (some ⟨w.heap.size, 0, none⟩) 2 [0, 0] :=
 BlkN.readsV (l := [0, 0]) (B := w.heap.size) (Blk.new w _ _) (nlr _) (New.refl _ _) (by intro x hx; simp at hx; omega) (by simp) (by simp [maxLen])
theorem divMod_big (l m : List Int) (n1 n2 n : Nat) (a a' : Option Addr) (c c' : Nat) (w : World) (h : NatR w a c l) (h' : NatR w a' c' m) (hn : val l = n1) (hk : val m = n2) (hl : l.length <= 4000000) (hm : m.length <= 4000000) (hge : n2 <= n1) (h2 : (limbs n2).length = n + 2) :
  Calls Tryz.prog 142 #[.slice a l.length c, .slice a' m.length c'] w (RetQR n1 n2 w) := by
 have hlen := limbs_len_val h.u16
 rw [hn] at hlen
 have hlen2 := limbs_len_val h'.u16
 rw [hk] at hlen2
 have hle := limbs_len_mono hge
 have h0 : 0 < n2 := limbs_len_pos.1 (by omega)
 have C1 := trim_any l a c w h
 have C2 := trim_any m a' c' w h'
 have hT1 := h.trim
 have hT2 := h'.trim
 rw [hn] at C1 hT1
 rw [hk] at C2 hT2
 have CC := cmp_any (limbs n1) (limbs n2) n1 n2 a a' c c' w hT1 hT2 (val_limbs _) (val_limbs _)
 have hcv : decide (cmpN n1 n2 < 0) = false := by
  have := cmpN_lt (a := n1) (b := n2)
  simp
  have h3 : ¬ cmpN n1 n2 < 0 := fun e => by have := this.1 e; omega
  omega
 obtain ⟨xi, hxi⟩ := get_of_lt (xs := limbs n2) (k := n + 1) (by omega)
 obtain ⟨b2, off2, rfl, hcx⟩ := hT2.cell hxi
 have hxb := (limbs_u16 n2).get hxi
 have hx0 : xi ≠ 0 := limbs_last (n := n2) (by rw [List.getLast?_eq_getElem?, h2]; exact hxi)
 obtain ⟨x, rfl⟩ : ∃ x : Nat, xi = (x : Int) := ⟨xi.toNat, by omega⟩
 obtain ⟨q1, q2, q3, q4⟩ := norm_shift (x := x) (by omega) (by omega)
 have CL := fun w => lead16_any x w (by omega)
 have hsi : (16 : Int) - (Lib.bitLen x : Int) = ((16 - Lib.bitLen x : Nat) : Int) := by omega
 have hs : 16 - Lib.bitLen x <= 15 := by omega
 revert CL q3 q4 hsi hs
 generalize 16 - Lib.bitLen x = s
 intro q3 q4 CL hsi hs
 simp only [hsi] at CL
 obtain ⟨r1, r2, r3⟩ := norm_len h2 (limbAt_some hxi) q3 q4
 have hn1 : 0 < n1 := by omega
 have CS1 := fun W (hW : Below w.heap.size w W) => shift_any (limbs n1) n1 s a c W (hT1.ext (xbw hW)) (val_limbs _) hn1 (by omega) (by omega)
 have CS2 := fun W (hW : Below w.heap.size w W) => shift_any (limbs n2) n2 s (some ⟨b2, off2, none⟩) c' W (hT2.ext (xbw hW)) (val_limbs _) h0 (by omega) (by omega)
 obtain ⟨s1, s2⟩ := shl_lens (n1 := n1) hs
 have hfst := fun (L : List Int) hL hv hl => long_first (n1 := n1) (m := n2 * 2 ^ s) (s := s) (n := n) (L := L) hL hv hs hl (by omega) r3
 have hdq : n1 * 2 ^ s / (n2 * 2 ^ s) = n1 / n2 := Nat.mul_div_mul_right _ _ (Nat.two_pow_pos s)
 have hdr : n1 * 2 ^ s % (n2 * 2 ^ s) = n1 % n2 * 2 ^ s := Nat.mul_mod_mul_right _ _ _
 have hla : n + 2 <= (limbs n1).length := by omega
 have hla2 : (limbs n1).length <= 4000000 := by omega
 have hk3 := held (by simpa using hcx : w.cell? ⟨b2, off2 + (n + 1), none⟩ = some (.int .u16 x))
 have hvS := val_limbs (n1 * 2 ^ s)
 have huS := limbs_u16 (n1 * 2 ^ s)
 have hvV := val_limbs (n2 * 2 ^ s)
 have huV := limbs_u16 (n2 * 2 ^ s)
 simp only [h2, r1] at C2 CC CS2
 obtain ⟨cv, hcv0⟩ : ∃ cv, cmpN n1 n2 = cv := ⟨_, rfl⟩
 obtain ⟨S, hS0⟩ : ∃ S, limbs (n1 * 2 ^ s) = S := ⟨_, rfl⟩
 obtain ⟨V2, hV0⟩ : ∃ V2, limbs (n2 * 2 ^ s) = V2 := ⟨_, rfl⟩
 obtain ⟨la, hla0⟩ : ∃ la, (limbs n1).length = la := ⟨_, rfl⟩
 simp only [hcv0, hS0, hV0, hla0] at C1 CC CS1 CS2 s1 s2 hfst hla hla2 hcv hvS huS hvV huV r1 r2
 clear hcv0 hS0 hV0 hla0
 replace C1 := Hd C1
 replace C2 := Hd C2
 replace CC := Hd CC
 replace CL := Hd CL
 replace CS1 := Hd CS1
 replace CS2 := Hd CS2
 have HF := Hd hfst
 have HR1 := Hd r1
 have HR2 := Hd r2
 have HDQ := Hd hdq
 have HDR := Hd hdr
 have HVS := Hd hvS
 have HVV := Hd hvV
 have HS1 := Hd s1
 have HS2 := Hd s2
 have hxi' : (x : Int) <= 65535 := by omega
 have hsI : (s : Int) <= 15 := by omega
 have hnI : (n : Int) <= 16777216 := by omega
 have hne1 : ((n : Int) + 2 == 0) = false := by rw [beq_eq_false_iff_ne]; omega
 have hne2 : ((n : Int) + 2 == 1) = false := by rw [beq_eq_false_iff_ne]; omega
 clear h h' hn hk hT1 hT2 hlen hlen2 hle hxi hcx hxb hx0 q1 q2 q3 q4 hsi r1 r2 r3 hdq hdr hvS hvV s1 s2 hfst h2 hge
 go_enter Tryz.func142, Tryz.ntmps142
 go_wp2_with fail
 refine C1.out.mono ?_
 rintro e w1 ⟨rfl, rfl⟩
 go_wp2_with fail
 refine C2.out.mono ?_
 rintro e w1 ⟨rfl, rfl⟩
 go_wp2_with fail
 refine CC.out.mono ?_
 rintro e w1 ⟨rfl, hb1⟩
 have k4 := hk3 _ hb1
 go_wp2_with fail
 refine (CL.out _).mono ?_
 rintro e w1' ⟨rfl, rfl⟩
 go_wp2_with fail
 refine (CS1.out _ hb1).mono ?_
 rintro e w2 ⟨a1, c1, rfl, ho2, hb2⟩
 have hb3 := bth hb1 hb2
 clear k4
 have HO2 := Hd ho2
 clear ho2
 go_wp2_with (at_builtin; go_must (refine append_nats (B := w1'.heap.size) rfl (.tmp 52) (.tmp 53) rfl a1 c1 (l := S) rfl (HO2.out.alloc _) (some ⟨w2.heap.size, 0, none⟩) 2 (m := [0, 0]) rfl (zeros2 w2) (S ++ [0, 0]) rfl (by have := HS2.out; simp; omega) (by have := hb2.size; simp; omega) ?_); intro a3 c3 w3 hown3 hg3 hbb3; have hcap3 : la + 1 <= c3 := (by have h1 := hown3.cap.1; have h2 := HS1.out; simp only [List.length_append, List.length_cons, List.length_nil] at h1; omega))
 obtain ⟨g, r, rfl, hBg, hc3, hrow⟩ := own_row hown3 (by simp)
 have hc3b := hown3.cap.2
 have hb4 : Below w1'.heap.size w1' w3 := hb2.trans (((Below.refl _ w2).alloc (nlr _) _).mono hb2.size |>.trans hbb3)
 have hgl := hrow.lt
 have hb5 := bth hb1 hb4
 obtain ⟨p1, p2⟩ := pad_val (S := S) (k := la + 1) HS2.out (by have := HS1.out; omega)
 have hrow2 := hrow.cut (la + 1)
 have hUL : U16 ((S ++ [0, 0]).take (la + 1)) := (huS.app (by intro x hx; simp at hx; omega)).take _
 rw [HVS.out] at p2
 obtain ⟨L, hL⟩ : ∃ L, (S ++ [0, 0]).take (la + 1) = L := ⟨_, rfl⟩
 obtain ⟨r2, hr2⟩ : ∃ r2, ((S ++ [0, 0]).drop (la + 1)).map (Value.int .u16) ++ r = r2 := ⟨_, rfl⟩
 rw [hL] at p1 p2 hrow2 hUL
 rw [hr2] at hrow2
 have HP1 := Hd p1
 have HP2 := Hd p2
 have HROW := Hd hrow2
 have HC3B := Hd hc3b
 clear hL hr2 hrow hrow2 p1 p2 hown3 hg3 hbb3 hc3 hc3b HO2 hb2 hb3
 refine (CS2.out _ hb5).mono ?_
 rintro e w4 ⟨a5, c5, rfl, ho4, hb6⟩
 have hb7 := bth hb5 hb6
 have hvr := ho4.reads1 huV
 have hvg : ∀ p, a5 = some p -> p.block ≠ g := fun p e => by have := (ho4.lt e).1; omega
 have hwg : w.heap.size <= g := Nat.le_trans hb1.size hBg
 have CLG := long_any L V2 r2 g n c3 c5 a5 w4 (HROW.out.below hb6) hUL (by rw [HP1.out]; omega) hvr HR1.out hvg (by rw [HP1.out]; omega) HR2.out (by rw [HVV.out]; exact HF.out L hUL HP2.out HP1.out) (by rw [HP1.out]; exact hcap3) HC3B.out
 rw [HP1.out, HR1.out, HP2.out, HVV.out, HDQ.out, HDR.out] at CLG
 replace CLG := Hd CLG
 clear hvr ho4 hvg
 go_wp2_with fail
 refine CLG.out.mono ?_
 rintro e w5 ⟨L', a6, c6, rfl, hq6, hrow6, hU6, hl6, hv6, hg6⟩
 have hb8 := below_but hb7 hg6 hwg hb7.size
 have hrd := hrow6.readsAt hU6 0 L'.length c3 (by omega) HC3B.out
 rw [List.drop_zero, List.take_length] at hrd
 have CTR := trim_any L' _ _ w5 hrd
 have hrd2 := hrd.trim
 rw [hv6, hl6] at CTR
 rw [hv6] at hrd2
 have hll := limbs_len_val hU6
 rw [hv6, hl6] at hll
 have CB := shift_back (limbs (n1 % n2 * 2 ^ s)) (n1 % n2) s _ _ w5 hrd2 (val_limbs _) (by omega) hs
 replace CB := Hd CB
 replace CTR := Hd CTR
 have HQ6 := Hd hq6
 clear hrd hrd2 hv6 hl6 hrow6 hg6 hll hq6 CLG hU6
 go_wp2_with fail
 refine CTR.out.mono ?_
 rintro e w6 ⟨rfl, rfl⟩
 go_wp2_with fail
 refine CB.out.mono ?_
 rintro e w6 ⟨a7, c7, rfl, hV7, hb9⟩
 have HV7 := Hd hV7
 have hbf := bth hb8 hb9
 clear hV7
 go_wp2
 go_ret3
 exact ⟨a6, c6, a7, c7, rfl, fun V hV => HQ6.out V ((hV.below hb9).base hb7.size), fun V hV => HV7.out V (hV.base hb8.size), hbf⟩
theorem divMod_any (l m : List Int) (n1 n2 : Nat) (a a' : Option Addr) (c c' : Nat) (w : World) (h : NatR w a c l) (h' : NatR w a' c' m) (hn : val l = n1) (hk : val m = n2) (hl : l.length <= 4000000) (hm : m.length <= 4000000) (h0 : 0 < n2) :
  Calls Tryz.prog 142 #[.slice a l.length c, .slice a' m.length c'] w (RetQR n1 n2 w) := by
 by_cases hlt : n1 < n2
 · exact divMod_less l m n1 n2 a a' c c' w h h' hn hk (by omega) hlt
 ·
  by_cases h1 : n2 <= 65535
  · exact divMod_one l m n1 n2 a a' c c' w h h' hn hk (by omega) (by omega) h0 h1
  ·
   obtain ⟨n, h2⟩ : ∃ n, (limbs n2).length = n + 2 := by
    refine ⟨(limbs n2).length - 2, ?_⟩
    have h3 : ¬ (limbs n2).length <= 1 := fun e => by
     have h4 := lt_pow_limbs n2
     have h5 : 65536 ^ (limbs n2).length <= 65536 ^ 1 := Nat.pow_le_pow_right (by omega) e
     omega
    omega
   exact divMod_big l m n1 n2 n a a' c c' w h h' hn hk hl hm (by omega) h2
theorem uint_any (l : List Int) (n : Nat) (a : Option Addr) (c : Nat) (w : World) (h : NatR w a c l) (hn : val l = n) :
  Calls Tryz.prog 140 #[.slice a l.length c] w fun e w' => ∃ (u : Nat) (b : Bool), e = .returned (.tuple #[.int .u64 u, .bool b]) /\ (b = true -> u = n) /\ Hid (u < 18446744073709551616) /\ w = w' := by
 by_cases hs : n < 18446744073709551616
 · exact (uint_small l n a c w h hn hs).mono fun e w' ⟨he, hw⟩ => ⟨n, true, he, fun _ => rfl, hs, hw⟩
 · exact (uint_big l n a c w h hn hs).mono fun e w' ⟨he, hw⟩ => ⟨0, false, he, (fun h => by cases h), Hd (by omega), hw⟩
theorem gcd_any (l m : List Int) (n1 n2 : Nat) (a a' : Option Addr) (c c' : Nat) (w : World) (h : NatR w a c l) (h' : NatR w a' c' m) (hn : val l = n1) (hk : val m = n2) (hl : l.length <= 2000000) (hm : m.length <= 2000000) :
  Calls Tryz.prog 99 #[.slice a l.length c, .slice a' m.length c'] w (RetN (limbs (Nat.gcd n1 n2)) w) := by
 have H := Hd h
 have H' := Hd h'
 have C1 := norm_any l a c w h (by omega)
 rw [hn] at C1
 replace C1 := Hd C1
 have hL1 : (limbs n1).length <= 2000000 := by have := limbs_len_val h.u16; rw [hn] at this; omega
 have hL2 : (limbs n2).length <= 2000000 := by have := limbs_len_val h'.u16; rw [hk] at this; omega
 have HK := Hd hk
 clear h h' hn hk
 go_enter Tryz.func99, Tryz.ntmps99
 go_wp2_with fail
 refine C1.out.mono ?_
 rintro e w1 ⟨a1, c1, rfl, hV1, hb1⟩
 have C2 := norm_any m a' c' w1 (H'.out.ext (xbw hb1)) (by omega)
 rw [HK.out] at C2
 replace C2 := Hd C2
 have HV1 := Hd hV1
 clear hV1 C1
 go_wp2_with fail
 refine C2.out.mono ?_
 rintro e w2 ⟨a2, c2, rfl, hV2, hb2⟩
 have hb := bth hb1 hb2
 have HV2 := Hd hV2
 clear hV2 C2 H H' HK
 go_wp2
 go_loopg [0, 1, 5, 6, 7, 8, 9, 10, 11] n2 (fun g sx sy _ _ _ _ _ _ _ wr => ∃ (x : Nat) (ax : Option Addr) (cx : Nat) (ay : Option Addr) (cy : Nat), sx = .slice ax (limbs x).length cx /\ sy = .slice ay (limbs g).length cy /\ (∀ V, New w.heap.size wr V -> NatR V ax cx (limbs x)) /\
  (∀ V, New w.heap.size wr V -> NatR V ay cy (limbs g)) /\ (limbs x).length <= 2000000 /\ (limbs g).length <= 2000000 /\ Below w.heap.size w wr /\ Nat.gcd x g = Nat.gcd n1 n2)
 case atStart => exact ⟨n1, a1, c1, a2, c2, rfl, rfl, fun V hV => HV1.out V (hV.below hb2), fun V hV => HV2.out V (hV.base hb1.size), hL1, hL2, hb, rfl⟩
 case round =>
  obtain ⟨x, ax, cx, ay, cy, rfl, rfl, hx, hy, hlx, hly, hb', hg⟩ := hrel
  have HX := Hd hx
  have HY := Hd hy
  have HG := Hd hg
  clear hx hy hg hb1 hb2 hb
  by_cases h0 : gk = 0
  ·
   subst h0
   have hgz : decide (0 < (limbs 0).length) = false := by rw [limbs_zero]; rfl
   have hX := HX.out
   have hgc : limbs (Nat.gcd n1 n2) = limbs x := by rw [<- HG.out, Nat.gcd_zero_right]
   have HGC := Hd hgc
   clear hgc
   replace hX := Hd hX
   go_wp2
   go_ret
   rw [HGC.out]
   exact ⟨ax, cx, rfl, hX.out, hb'⟩
  ·
   have hgz : decide (0 < (limbs gk).length) = true := by have := limbs_len_pos (n := gk); simp; omega
   have CU1 := uint_any (limbs x) x ax cx wr (HX.out wr (New.refl _ _)) (val_limbs _)
   have CU2 := uint_any (limbs gk) gk ay cy wr (HY.out wr (New.refl _ _)) (val_limbs _)
   have CD := divMod_any (limbs x) (limbs gk) x gk ax ay cx cy wr (HX.out wr (New.refl _ _)) (HY.out wr (New.refl _ _)) (val_limbs _) (val_limbs _) (by omega) (by omega) (by omega)
   have hr : x % gk < gk := Nat.mod_lt _ (by omega)
   have hgr : Nat.gcd gk (x % gk) = Nat.gcd n1 n2 := by rw [<- HG.out, Nat.gcd_comm x gk, Nat.gcd_rec gk x, Nat.gcd_comm]
   have HGR := Hd hgr
   have HR := Hd hr
   have hlr : (limbs (x % gk)).length <= 2000000 := Nat.le_trans (limbs_len_mono (Nat.le_of_lt hr)) hly
   unfold RetQR at CD
   replace CU1 := Hd CU1
   replace CU2 := Hd CU2
   replace CD := Hd CD
   clear hgr hr
   go_wp2_with fail
   refine CU1.out.mono ?_
   rintro e w3 ⟨u1, s1, rfl, hu1, hu1b, rfl⟩
   go_wp2_with fail
   refine CU2.out.mono ?_
   rintro e w3 ⟨u2, s2, rfl, hu2, hu2b, rfl⟩
   cases s1
   ·
    clear hu1 hu2
    go_wp2_with fail
    refine CD.out.mono ?_
    rintro e w3 ⟨a3, c3, a4, c4, rfl, hV3, hV4, hb3⟩
    have HV4 := Hd hV4
    clear hV3 hV4 CD
    go_wp2
    go_roundg (x % gk)
    case rel => exact ⟨gk, ay, cy, a4, c4, rfl, rfl, fun V hV => HY.out V (hV.below hb3), fun V hV => HV4.out V (hV.base hb'.size), hly, hlr, bth hb' hb3, HGR.out⟩
    case measure => exact HR.out
   ·
    cases s2
    ·
     clear hu1 hu2
     go_wp2_with fail
     refine CD.out.mono ?_
     rintro e w3 ⟨a3, c3, a4, c4, rfl, hV3, hV4, hb3⟩
     have HV4 := Hd hV4
     clear hV3 hV4 CD
     go_wp2
     go_roundg (x % gk)
     case rel => exact ⟨gk, ay, cy, a4, c4, rfl, rfl, fun V hV => HY.out V (hV.below hb3), fun V hV => HV4.out V (hV.base hb'.size), hly, hlr, bth hb' hb3, HGR.out⟩
     case measure => exact HR.out
    ·
     obtain rfl := hu1 rfl
     obtain rfl := hu2 rfl
     clear CD CU1 CU2 HGR HR hlr hu1 hu2
     go_wp2
     go_loopg [5, 7] u2 (fun y s5 s7 wi => ∃ z : Nat, s5 = .int .u64 z /\ s7 = .int .u64 y /\ Hid (z < 18446744073709551616) /\ Hid (y < 18446744073709551616) /\ Hid (Nat.gcd z y = Nat.gcd n1 n2) /\ Below w.heap.size w wi)
     case atStart => exact ⟨u1, rfl, rfl, hu1b, hu2b, HG.out, hb'⟩
     case round =>
      clear hb'
      obtain ⟨z, rfl, rfl, hz, hy, hzy, hwi⟩ := hrel
      by_cases hy0 : gk = 0
      ·
       subst hy0
       have hgc : Nat.gcd n1 n2 = z := by rw [<- hzy.out, Nat.gcd_zero_right]
       have HGC2 := Hd hgc
       have CO := fun W => of_any z W hz.out
       replace CO := Hd CO
       clear hgc
       go_wp2_with fail
       refine (CO.out _).mono ?_
       rintro e w3 ⟨a3, c3, rfl, hV3, hb3⟩
       have HV3 := Hd hV3
       have hb4 := bth hwi hb3
       clear hV3
       go_wp2
       go_ret
       rw [HGC2.out]
       exact ⟨a3, c3, rfl, fun V hV => HV3.out V (hV.base hwi.size), hb4⟩
      ·
       have hmod : (z : Int).tmod (gk : Int) = ((z % gk : Nat) : Int) := rfl
       have hne : ¬ gk = 0 := hy0
       have hpos : decide ((0 : Int) < (gk : Int)) = true := by simp; omega
       have hlt : z % gk < gk := Nat.mod_lt _ (by omega)
       have hgc : Nat.gcd gk (z % gk) = Nat.gcd n1 n2 := by rw [<- hzy.out, Nat.gcd_comm z gk, Nat.gcd_rec gk z, Nat.gcd_comm]
       have hb5 : z % gk < 18446744073709551616 := by have := hy.out; omega
       have HB5 := Hd hb5
       have HLT := Hd hlt
       have HGC := Hd hgc
       have w1' : IntKind.u64.wrap ((z % gk : Nat) : Int) = ((z % gk : Nat) : Int) := by rw [wrap64u, Nat.mod_eq_of_lt hb5]
       clear hlt hgc hb5 hy0
       go_wp2
       go_region
       go_wp2
       go_roundg (z % gk)
       case rel => exact ⟨gk, rfl, rfl, hy, HB5.out, HGC.out, hwi.drew⟩
       case measure => exact HLT.out
theorem one_any (l : List Int) (a : Option Addr) (c : Nat) (w : World) (h : NatR w a c l) :
  Calls Tryz.prog 98 #[.slice a l.length c] w fun e w' => e = .returned (.bool (decide (l.length = 1 /\ limbAt l 0 = 1))) /\ Below w.heap.size w w' := by
 have hlen := h.len
 have hu := h.u16
 by_cases h0 : l.length = 0
 ·
  obtain rfl : l = [] := List.length_eq_zero_iff.1 h0
  clear h hu h0
  go_enter Tryz.func98, Tryz.ntmps98
  go_wp2
  go_ret
  exact ⟨rfl, brf.alloc (nlr _) _⟩
 ·
  obtain ⟨x, hx⟩ := get_of_lt (xs := l) (k := 0) (by omega)
  obtain ⟨b, off, rfl, hc⟩ := h.cell hx
  obtain ⟨hx0, hx1⟩ := hu.get hx
  rw [limbAt_some hx]
  have hc2 : w.cell? ⟨b, off, none⟩ = some (.int .u16 x) := by simpa using hc
  have hk := held hc2
  have hgt : decide ((0 : Int) < (l.length : Int)) = true := by rw [decide_eq_true_eq]; omega
  have hbl : b < w.heap.size + 1 := by have := World.block_lt_of_cell? w _ hc2; simp at this; omega
  have hb2 : b < w.heap.size := by have := World.block_lt_of_cell? w _ hc2; simpa using this
  clear h hu hx hc
  go_enter Tryz.func98, Tryz.ntmps98
  go_wp2
  all_goals go_ret
  all_goals refine ⟨ret_bool ?_, brf.alloc (nlr _) _⟩
  all_goals (simp <;> omega)
theorem one_limbs (n : Nat) : decide ((limbs n).length = 1 /\ limbAt (limbs n) 0 = 1) = decide (n = 1) := by
 rw [decide_eq_decide]
 constructor
 ·
  rintro ⟨h1, h2⟩
  match hl : limbs n, h1 with
  | [x], _ =>
   rw [hl] at h2
   have hv := val_limbs n
   rw [hl] at hv
   simp [limbAt] at h2
   subst h2
   simp [val] at hv
   exact hv.symm
 ·
  rintro rfl
  have e : limbs 1 = [1] := by rw [limbs_pos (by omega)]; simp [limbs_zero]
  rw [e]
  exact ⟨rfl, rfl⟩
def canonB (l : List Int) : Bool := decide (limbs (val l) = l)
theorem canonB_last {l : List Int} (h : U16 l) {x : Int} (hx : l[l.length - 1]? = some x) (_ : 0 < l.length) : canonB l = !(x == 0) := by
 unfold canonB
 by_cases hx0 : x = 0
 ·
  subst hx0
  simp only [beq_self_eq_true, Bool.not_true, decide_eq_false_iff_not]
  intro e
  have : (limbs (val l)).getLast? = some 0 := by rw [e, List.getLast?_eq_getElem?]; exact hx
  exact limbs_last this rfl
 ·
  have e : (x == 0) = false := by simpa using hx0
  rw [e]
  simp only [Bool.not_false, decide_eq_true_eq]
  refine limbs_canon h fun y hy => ?_
  rw [List.getLast?_eq_getElem?, hx] at hy
  injection hy with hy
  rw [<- hy]; exact hx0
def RetNE (l : List Int) (x : Int) (w : World) (e : Ending) (w' : World) : Prop := ∃ a c, e = .returned (.tuple #[.slice a l.length c, .int .i64 x]) /\ (∀ V, New w.heap.size w' V -> NatR V a c l) /\ Below w.heap.size w w'
def RetZ (neg : Bool) (n : Nat) (w : World) (e : Ending) (w' : World) : Prop := ∃ a c, e = .returned (.agg #[.bool neg, .slice a (limbs n).length c]) /\ (∀ V, New w.heap.size w' V -> NatR V a c (limbs n)) /\ Below w.heap.size w w'
theorem dec_pos (n : Nat) : decide (0 < (limbs n).length) = decide (0 < n) := by
 have := limbs_len_pos (n := n)
 rw [decide_eq_decide]
 omega
section
variable {w V : World} {g B B' : Nat} {t : TypeId} {x y z u v r : Value}
theorem back2 (h : New B ((w.setCell ⟨g, 0, none⟩ x).setCell ⟨g, 1, none⟩ y) V) (hB : B <= B') (hg : g < B') : New B' w V := ((h.base hB).unset hg).unset hg
theorem back3 (h : New B (((w.setCell ⟨g, 0, none⟩ x).setCell ⟨g, 1, none⟩ y).setCell ⟨g, 2, none⟩ z) V) (hB : B <= B') (hg : g < B') : New B' w V := (((h.base hB).unset hg).unset hg).unset hg
theorem blk2 (h : Blk w g t #[u, v]) : Blk ((w.setCell ⟨g, 0, none⟩ x).setCell ⟨g, 1, none⟩ y) g t #[x, y] := by have := (h.set_ 0 x).set_ 1 y; simpa using this
theorem blk3 (h : Blk w g t #[u, v, r]) : Blk (((w.setCell ⟨g, 0, none⟩ x).setCell ⟨g, 1, none⟩ y).setCell ⟨g, 2, none⟩ z) g t #[x, y, z] := by have := ((h.set_ 0 x).set_ 1 y).set_ 2 z; simpa using this
theorem below2 {w0 : World} (h : Below B w0 w) (hg : B <= g) : Below B w0 ((w.setCell ⟨g, 0, none⟩ x).setCell ⟨g, 1, none⟩ y) := (h.setCell (p := ⟨g, 0, none⟩) hg x).setCell (p := ⟨g, 1, none⟩) hg y
theorem below3 {w0 : World} (h : Below B w0 w) (hg : B <= g) : Below B w0 (((w.setCell ⟨g, 0, none⟩ x).setCell ⟨g, 1, none⟩ y).setCell ⟨g, 2, none⟩ z) := ((h.setCell (p := ⟨g, 0, none⟩) hg x).setCell (p := ⟨g, 1, none⟩) hg y).setCell (p := ⟨g, 2, none⟩) hg z
end
theorem zof_any (neg : Bool) (l : List Int) (n : Nat) (a : Option Addr) (c : Nat) (w : World) (h : NatR w a c l) (hn : val l = n) (hl : l.length <= 16777216) :
  Calls Tryz.prog 188 #[.bool neg, .slice a l.length c] w (RetZ (neg && decide (0 < n)) n w) := by
 have CN := fun W (hW : Below w.heap.size w W) => norm_any l a c W (h.ext (xbw hW)) hl
 rw [hn] at CN
 replace CN := Hd CN
 have hd := dec_pos n
 obtain ⟨b, hb⟩ : ∃ b, decide (0 < n) = b := ⟨_, rfl⟩
 rw [hb] at hd ⊢
 have hz : Blk (w.alloc (.cells #[.bool false, .slice none 0 0] 52)) w.heap.size 52 #[.bool false, .slice none 0 0] := Blk.new w _ _
 have hb0 : Below w.heap.size w (w.alloc (.cells #[.bool false, .slice none 0 0] 52)) := brf.alloc (nlr _) _
 clear h hb
 cases neg
 ·
  rw [Bool.false_and]
  go_enter Tryz.func188, Tryz.ntmps188
  go_wp2_with fail
  have hgl := hz.lt
  revert hz hb0 hgl
  generalize w.alloc (.cells #[.bool false, .slice none 0 0] 52) = w0
  intro hz hb0 hgl
  refine (CN.out _ hb0).mono ?_
  rintro e w1 ⟨a1, c1, rfl, hV, hb1⟩
  have hw1 := bth hb0 hb1
  have HV := Hd hV
  have hz1 := hz.below' hb1
  have z0 := hz1.cell 0; have z1 := hz1.cell 1; have f0 := hz1.frozen 0; have f1 := hz1.frozen 1
  have hs0 := hb0.size
  clear hV hb0 hz
  go_wp2
  have hF := blk2 (x := .bool false) (y := .slice a1 (limbs n).length c1) hz1
  have e0 := hF.cell 0; have e1 := hF.cell 1
  refine bodyPost_ret (v := .agg #[.bool false, .slice a1 (limbs n).length c1]) (by simp [results, Tryz.results188, go_sem, e0, e1]) rfl ?_
  exact ⟨a1, c1, rfl, fun V hV => HV.out V (back2 hV hs0 hgl), below2 hw1 (nlr _)⟩
 ·
  rw [Bool.true_and]
  go_enter Tryz.func188, Tryz.ntmps188
  go_wp2_with fail
  have hgl := hz.lt
  revert hz hb0 hgl
  generalize w.alloc (.cells #[.bool false, .slice none 0 0] 52) = w0
  intro hz hb0 hgl
  refine (CN.out _ hb0).mono ?_
  rintro e w1 ⟨a1, c1, rfl, hV, hb1⟩
  have hw1 := bth hb0 hb1
  have HV := Hd hV
  have hz1 := hz.below' hb1
  have z0 := hz1.cell 0; have z1 := hz1.cell 1; have f0 := hz1.frozen 0; have f1 := hz1.frozen 1
  have hs0 := hb0.size
  clear hV hb0 hz
  go_wp2
  have hF := blk2 (x := .bool b) (y := .slice a1 (limbs n).length c1) hz1
  have e0 := hF.cell 0; have e1 := hF.cell 1
  refine bodyPost_ret (v := .agg #[.bool b, .slice a1 (limbs n).length c1]) (by simp [results, Tryz.results188, go_sem, e0, e1]) rfl ?_
  exact ⟨a1, c1, rfl, fun V hV => HV.out V (back2 hV hs0 hgl), below2 hw1 (nlr _)⟩
theorem made_any (neg : Bool) (n : Nat) (a : Option Addr) (c : Nat) (w : World) :
  Calls Tryz.prog 148 #[.bool neg, .slice a (limbs n).length c] w fun e w' => e = .returned (.agg #[.bool (neg && decide (0 < n)), .slice a (limbs n).length c]) /\ Below w.heap.size w w' := by
 have hd := dec_pos n
 obtain ⟨b, hb⟩ : ∃ b, decide (0 < n) = b := ⟨_, rfl⟩
 rw [hb] at hd ⊢
 clear hb
 cases neg
 ·
  rw [Bool.false_and]
  go_enter Tryz.func148, Tryz.ntmps148
  go_wp2
  have hF := Blk.new w 52 #[.bool false, .slice a (limbs n).length c]
  have e0 := hF.cell 0; have e1 := hF.cell 1
  refine bodyPost_ret (v := .agg #[.bool false, .slice a (limbs n).length c]) (by simp [results, Tryz.results148, go_sem]) rfl ?_
  exact ⟨rfl, brf.alloc (nlr _) _⟩
 ·
  rw [Bool.true_and]
  go_enter Tryz.func148, Tryz.ntmps148
  go_wp2
  have hF := Blk.new w 52 #[.bool b, .slice a (limbs n).length c]
  have e0 := hF.cell 0; have e1 := hF.cell 1
  refine bodyPost_ret (v := .agg #[.bool b, .slice a (limbs n).length c]) (by simp [results, Tryz.results148, go_sem]) rfl ?_
  exact ⟨rfl, brf.alloc (nlr _) _⟩
theorem znorm_any (neg : Bool) (l : List Int) (n : Nat) (a : Option Addr) (c : Nat) (w : World) (h : NatR w a c l) (hn : val l = n) (hl : l.length <= 16777216) :
  Calls Tryz.prog 149 #[.agg #[.bool neg, .slice a l.length c]] w (RetZ (neg && decide (0 < n)) n w) := by
 have CN := fun W (hW : Below w.heap.size w W) => zof_any neg l n a c W (h.ext (xbw hW)) hn hl
 replace CN := Hd CN
 have hz : Blk ((w.alloc (.cells #[.bool neg, .slice a l.length c] 52)).alloc (.cells #[.bool false, .slice none 0 0] 52)) (w.heap.size + 1) 52 #[.bool false, .slice none 0 0] := blk_at1 w _ _ _
 have hb0 : Below w.heap.size w ((w.alloc (.cells #[.bool neg, .slice a l.length c] 52)).alloc (.cells #[.bool false, .slice none 0 0] 52)) := (brf.alloc (nlr _) _).alloc (by simp) _
 have hgB : w.heap.size <= w.heap.size + 1 := by omega
 have hgl := hz.lt
 clear h hn
 go_enter Tryz.func149, Tryz.ntmps149
 go_wp2_with fail
 revert hz hb0 hgl hgB
 generalize (w.alloc (.cells #[.bool neg, .slice a l.length c] 52)).alloc (.cells #[.bool false, .slice none 0 0] 52) = w0
 generalize w.heap.size + 1 = g
 intro hz hb0 hgB hgl
 refine (CN.out _ hb0).mono ?_
 rintro e w1 ⟨a1, c1, rfl, hV, hb1⟩
 have hw1 := bth hb0 hb1
 have HV := Hd hV
 have hz1 := hz.below' hb1
 have z0 := hz1.cell 0; have z1 := hz1.cell 1; have f0 := hz1.frozen 0; have f1 := hz1.frozen 1
 have hs0 := hb0.size
 clear hV hb0 hz
 go_wp2
 have hF := blk2 (x := .bool (neg && decide (0 < n))) (y := .slice a1 (limbs n).length c1) hz1
 have e0 := hF.cell 0; have e1 := hF.cell 1
 refine bodyPost_ret (v := .agg #[.bool (neg && decide (0 < n)), .slice a1 (limbs n).length c1]) (by simp [results, Tryz.results149, go_sem, e0, e1]) rfl ?_
 exact ⟨a1, c1, rfl, fun V hV => HV.out V (back2 hV hs0 hgl), below2 hw1 hgB⟩
end Go.Proofs.YtkjnkpkagcboeaaGreatDoor
namespace Go.Proofs
open Go.Shelf
def Tryz.lays127_ren : Go.Shelf.Ren := ⟨fun | 127 => 146 | n => n, fun | 49 => 47 | 3 => 3 | 4 => 4 | 46 => 181 | 5 => 5 | 9 => 9 | n => n, fun | n => n⟩
theorem Tryz.lays127 : Go.Proofs.Lays.n127 Tryz.prog Tryz.lays127_ren := {
  mixed := by kernel_rfl
  f127 := Tryz.func146.trans (congrArg some (by kernel_rfl))
  t3 := Tryz.underlying3
  a3 := Tryz.isAgg3
  z3 := Tryz.sizeOf3
  v3 := Tryz.zeroValue3
  t4 := Tryz.underlying4
  a4 := Tryz.isAgg4
  z4 := Tryz.sizeOf4
  v4 := Tryz.zeroValue4
  t5 := Tryz.underlying5
  a5 := Tryz.isAgg5
  z5 := Tryz.sizeOf5
  v5 := Tryz.zeroValue5
  t9 := Tryz.underlying9
  a9 := Tryz.isAgg9
  z9 := Tryz.sizeOf9
  v9 := Tryz.zeroValue9
  t46 := Tryz.underlying181
  a46 := Tryz.isAgg181
  z46 := Tryz.sizeOf181
  v46 := Tryz.zeroValue181
  t49 := Tryz.underlying47
  a49 := Tryz.isAgg47
  z49 := Tryz.sizeOf47
  v49 := Tryz.zeroValue47 }
end Go.Proofs
namespace Go.Proofs.YtkjnkpkagcboeaaGreatDoor
theorem len16_any (x : Nat) (w : World) (h1 : x <= 65535) :
  Calls Tryz.prog 146 #[.int .u16 x] w fun e w' => e = .returned (.int .i64 (Lib.bitLen x : Int)) /\ w' = w := by
 have := Any.bits_Len16 Tryz.lays127 (x : Int) w (by omega) (by omega)
 rw [Int.toNat_natCast] at this
 exact this
end Go.Proofs.YtkjnkpkagcboeaaGreatDoor
namespace Go.Proofs.YtkjnkpkagcboeaaGreatDoor
open Go.RowKit
theorem bits_of {n k x : Nat} (hl : (limbs n).length = k + 1) (hx : limbAt (limbs n) k = x) (hx0 : x ≠ 0) (hx1 : x <= 65535) : 1 <= Lib.bitLen x /\ Lib.bitLen x <= 16 /\ 2 ^ (16 * k + Lib.bitLen x - 1) <= n /\ n < 2 ^ (16 * k + Lib.bitLen x) := by
 obtain ⟨h2, h3, h4⟩ := Lib.bitLenAux_bounds 64 x (by omega) hx0
 change 1 <= Lib.bitLen x at h2
 change 2 ^ (Lib.bitLen x - 1) <= x at h3
 change x < 2 ^ Lib.bitLen x at h4
 obtain ⟨q1, q2, _, _⟩ := norm_shift hx0 hx1
 obtain ⟨lo, hlo, e⟩ := val_split_at (limbs_u16 n) k
 rw [val_limbs, val_drop_at, hx, val_drop_all (by omega), Int.toNat_natCast] at e
 simp only [Nat.mul_zero, Nat.add_zero] at e
 have hp : (65536 : Nat) ^ k = 2 ^ (16 * k) := by rw [Nat.pow_mul]
 rw [hp] at e hlo
 generalize Lib.bitLen x = b at *
 refine ⟨q1, q2, ?_, ?_⟩
 ·
  rw [show 16 * k + b - 1 = 16 * k + (b - 1) by omega, Nat.pow_add]
  have := Nat.mul_le_mul_left (2 ^ (16 * k)) h3
  omega
 ·
  rw [Nat.pow_add]
  have := Nat.mul_le_mul_left (2 ^ (16 * k)) (show x + 1 <= 2 ^ b by omega)
  rw [Nat.mul_add, Nat.mul_one] at this
  omega
theorem bits_any (l : List Int) (n : Nat) (a : Option Addr) (c : Nat) (w : World) (h : NatR w a c l) (hn : val l = n) (hl : l.length <= 16777216) :
  Calls Tryz.prog 103 #[.slice a l.length c] w fun e w' => ∃ b : Nat, e = .returned (.int .i64 b) /\ Hid ((n = 0 -> b = 0) /\ (0 < n -> 1 <= b /\ 2 ^ (b - 1) <= n /\ n < 2 ^ b) /\ b <= 16 * (limbs n).length) /\ w = w' := by
 have CT := trim_any l a c w h
 have hT := h.trim
 have hll := limbs_len_val h.u16
 rw [hn] at CT hT hll
 by_cases h0 : n = 0
 ·
  subst h0
  rw [limbs_zero] at CT
  replace CT := Hd CT
  clear h hn hT hll
  go_enter Tryz.func103, Tryz.ntmps103
  go_wp2_with fail
  refine CT.out.mono ?_
  rintro e w1 ⟨rfl, rfl⟩
  go_wp2
  go_ret
  exact ⟨0, rfl, Hd ⟨fun _ => rfl, fun h => by omega, by omega⟩, rfl⟩
 ·
  have hp := limbs_len_pos.2 (show 0 < n by omega)
  obtain ⟨k, hk⟩ : ∃ k, (limbs n).length = k + 1 := ⟨(limbs n).length - 1, by omega⟩
  obtain ⟨xi, hxi⟩ := get_of_lt (xs := limbs n) (k := k) (by omega)
  obtain ⟨b, off, rfl, hc⟩ := hT.cell hxi
  have hxb := (limbs_u16 n).get hxi
  have hx0 : xi ≠ 0 := limbs_last (n := n) (by rw [List.getLast?_eq_getElem?, hk]; exact hxi)
  obtain ⟨x, rfl⟩ : ∃ x : Nat, xi = (x : Int) := ⟨xi.toNat, by omega⟩
  have hb := bits_of hk (limbAt_some hxi) (by omega) (by omega)
  have CL := fun w => len16_any x w (by omega)
  have hkl : k <= 16777216 := by omega
  have HK := Hd hk
  rw [hk] at CT
  revert hb CL
  generalize Lib.bitLen x = bl
  intro hb CL
  have hbl : (bl : Int) <= 16 := by omega
  have hbl0 : (0 : Int) <= (bl : Int) := by omega
  have HB := Hd hb
  replace CT := Hd CT
  replace CL := Hd CL
  have hkI : (k : Int) <= 16777216 := by omega
  have hne : ((k : Int) + 1 == 0) = false := by rw [beq_eq_false_iff_ne]; omega
  have hx2 : (x : Int) <= 65535 := by omega
  clear h hn hT hll hp hk hxi hxb hx0 hb hkl
  go_enter Tryz.func103, Tryz.ntmps103
  go_wp2_with fail
  refine CT.out.mono ?_
  rintro e w1 ⟨rfl, rfl⟩
  go_wp2_with fail
  refine (CL.out _).mono ?_
  rintro e w1 ⟨rfl, rfl⟩
  go_wp2
  go_ret
  refine ⟨16 * k + bl, ?_, Hd ⟨fun e => absurd e h0, fun _ => ⟨by have := HB.out; omega, HB.out.2.2.1, HB.out.2.2.2⟩, by have := HB.out; have := HK.out; omega⟩, rfl⟩
  exact ret_int (by simp <;> omega)
def sgnZ (neg : Bool) (n : Nat) : Int := if n = 0 then 0 else if neg = true then -1 else 1
theorem zsign_any (neg : Bool) (l : List Int) (n : Nat) (a : Option Addr) (c : Nat) (w : World) (h : NatR w a c l) (hn : val l = n) (hl : l.length <= 16777216) :
  Calls Tryz.prog 56 #[.agg #[.bool neg, .slice a l.length c]] w fun e w' => e = .returned (.int .i64 (sgnZ neg n)) /\ Below w.heap.size w w' := by
 have CB := fun W (hW : Below w.heap.size w W) => bits_any l n a c W (h.ext (xbw hW)) hn hl
 replace CB := Hd CB
 have hz : Blk (w.alloc (.cells #[.bool neg, .slice a l.length c] 52)) w.heap.size 52 #[.bool neg, .slice a l.length c] := Blk.new w _ _
 have hb0 : Below w.heap.size w (w.alloc (.cells #[.bool neg, .slice a l.length c] 52)) := brf.alloc (nlr _) _
 obtain ⟨R, hR⟩ : ∃ q, sgnZ neg n = q := ⟨_, rfl⟩
 rw [hR]
 have HR := Hd hR
 clear h hn hR
 go_enter Tryz.func56, Tryz.ntmps56
 go_wp2_with fail
 revert hz hb0
 generalize w.alloc (.cells #[.bool neg, .slice a l.length c] 52) = w0
 intro hz hb0
 refine (CB.out _ hb0).mono ?_
 rintro e w1 ⟨b, rfl, hb, rfl⟩
 have z0 := hz.cell 0; have z1 := hz.cell 1
 by_cases h0 : n = 0
 ·
  have e0 := hb.out.1 h0
  subst e0
  have hs : R = 0 := by rw [<- HR.out]; unfold sgnZ; rw [if_pos h0]
  subst hs
  clear h0
  go_wp2
  go_ret
  exact ⟨rfl, hb0⟩
 ·
  have e0 : ((b : Int) == 0) = false := by rw [beq_eq_false_iff_ne]; have := hb.out.2.1 (by omega); omega
  have hs : R = if neg = true then -1 else 1 := by rw [<- HR.out]; unfold sgnZ; rw [if_neg h0]
  clear h0
  cases neg
  ·
   obtain rfl : R = 1 := by simpa using hs
   clear hs
   go_wp2
   go_ret
   exact ⟨rfl, hb0⟩
  ·
   obtain rfl : R = -1 := by simpa using hs
   clear hs
   go_wp2
   go_ret
   exact ⟨rfl, hb0⟩
theorem zint_any (z : Int) (w : World) (hi : InInt z) :
  Calls Tryz.prog 107 #[.int .i64 z] w (RetZ (decide (z < 0)) z.natAbs w) := by
 obtain ⟨hi1, hi2⟩ := hi
 by_cases hneg : z < 0
 ·
  obtain ⟨m, rfl⟩ : ∃ m : Nat, z = -((m : Int) + 1) := ⟨(-(z + 1)).toNat, by omega⟩
  have hna : (-((m : Int) + 1)).natAbs = m + 1 := by omega
  have hd : decide (-((m : Int) + 1) < 0) = true := by rw [decide_eq_true_eq]; omega
  rw [hna, hd]
  have CO := fun W => of_any (m + 1) W (by omega)
  have e1 : ((m + 1 : Nat) : Int) = (m : Int) + 1 := by omega
  simp only [e1] at CO
  have CM := fun a c W => made_any true (m + 1) a c W
  have hd2 : decide (0 < m + 1) = true := by rw [decide_eq_true_eq]; omega
  simp only [hd2, Bool.and_true] at CM
  replace CO := Hd CO; replace CM := Hd CM
  have f1 : -(-((m : Int) + 1) + 1) = (m : Int) := by omega
  have hm : (m : Int) <= 9223372036854775807 := by omega
  have hlt : decide (-((m : Int) + 1) < 0) = true := hd
  clear hna hd hd2 e1 hneg
  have hz : Blk (w.alloc (.cells #[.bool false, .slice none 0 0] 52)) w.heap.size 52 #[.bool false, .slice none 0 0] := Blk.new w _ _
  have hb0 : Below w.heap.size w (w.alloc (.cells #[.bool false, .slice none 0 0] 52)) := brf.alloc (nlr _) _
  have hgl := hz.lt
  go_enter Tryz.func107, Tryz.ntmps107
  go_wp2_with fail
  revert hz hb0 hgl
  generalize w.alloc (.cells #[.bool false, .slice none 0 0] 52) = w0
  intro hz hb0 hgl
  have hs0 := hb0.size
  refine (CO.out _).mono ?_
  rintro e w1 ⟨a1, c1, rfl, hV, hb1⟩
  have hw1 := bth hb0 hb1
  have hz1 := hz.below' hb1
  have HV := Hd hV
  clear hV
  go_wp2_with fail
  refine (CM.out _ _ _).mono ?_
  rintro e w3 ⟨rfl, hb3⟩
  have hw3 := bth hw1 hb3
  have hz3 := hz1.below' hb3
  have z0 := hz3.cell 0; have z1 := hz3.cell 1; have f0 := hz3.frozen 0; have f1 := hz3.frozen 1
  go_wp2
  have hF := blk2 (x := .bool true) (y := .slice a1 (limbs (m+1)).length c1) hz3
  have e0 := hF.cell 0; have e1 := hF.cell 1
  refine bodyPost_ret (v := .agg #[.bool true, .slice a1 (limbs (m+1)).length c1]) (by simp [results, Tryz.results107, go_sem, e0, e1]) rfl ?_
  exact ⟨a1, c1, rfl, fun V hV => HV.out V ((back2 hV hs0 hgl).below hb3), below2 hw3 (nlr _)⟩
 ·
  obtain ⟨m, rfl⟩ : ∃ m : Nat, z = (m : Int) := ⟨z.toNat, by omega⟩
  have hna : ((m : Nat) : Int).natAbs = m := by omega
  have hd : decide (((m : Nat) : Int) < 0) = false := by rw [decide_eq_false_iff_not]; omega
  rw [hna, hd]
  have CO := fun W => of_any m W (by omega)
  have CM := fun a c W => made_any false m a c W
  simp only [Bool.false_and] at CM
  replace CO := Hd CO; replace CM := Hd CM
  clear hna hneg
  have hz : Blk (w.alloc (.cells #[.bool false, .slice none 0 0] 52)) w.heap.size 52 #[.bool false, .slice none 0 0] := Blk.new w _ _
  have hb0 : Below w.heap.size w (w.alloc (.cells #[.bool false, .slice none 0 0] 52)) := brf.alloc (nlr _) _
  have hgl := hz.lt
  go_enter Tryz.func107, Tryz.ntmps107
  go_wp2_with fail
  revert hz hb0 hgl
  generalize w.alloc (.cells #[.bool false, .slice none 0 0] 52) = w0
  intro hz hb0 hgl
  have hs0 := hb0.size
  refine (CO.out _).mono ?_
  rintro e w1 ⟨a1, c1, rfl, hV, hb1⟩
  have hw1 := bth hb0 hb1
  have hz1 := hz.below' hb1
  have HV := Hd hV
  clear hV
  go_wp2_with fail
  refine (CM.out _ _ _).mono ?_
  rintro e w3 ⟨rfl, hb3⟩
  have hw3 := bth hw1 hb3
  have hz3 := hz1.below' hb3
  have z0 := hz3.cell 0; have z1 := hz3.cell 1; have f0 := hz3.frozen 0; have f1 := hz3.frozen 1
  go_wp2
  have hF := blk2 (x := .bool false) (y := .slice a1 (limbs m).length c1) hz3
  have e0 := hF.cell 0; have e1 := hF.cell 1
  refine bodyPost_ret (v := .agg #[.bool false, .slice a1 (limbs m).length c1]) (by simp [results, Tryz.results107, go_sem, e0, e1]) rfl ?_
  exact ⟨a1, c1, rfl, fun V hV => HV.out V ((back2 hV hs0 hgl).below hb3), below2 hw3 (nlr _)⟩
def zval (neg : Bool) (n : Nat) : Int := if neg = true then -(n : Int) else n
def cmpI (a b : Int) : Int := if a < b then -1 else if b < a then 1 else 0
end Go.Proofs.YtkjnkpkagcboeaaGreatDoor
namespace Go.Proofs.YtkjnkpkagcboeaaGreatDoor
theorem canon_len {l : List Int} (h : U16 l) (hl : l.length <= (limbs (val l)).length) : limbs (val l) = l := by
 obtain ⟨k, hk, e⟩ := trim_some h
 have h1 := congrArg List.length e
 rw [List.length_take] at h1
 rw [e, List.take_of_length_le (by omega)]
theorem sum_none {o : List Int} {n1 n2 : Nat} (hou : U16 o) (hl : o.length = (limbs n1).length) (h : val o = n1 + n2) : limbs (n1 + n2) = o := by
 have h1 := limbs_len_mono (show n1 <= n1 + n2 by omega)
 rw [<- h] at h1 ⊢
 exact canon_len hou (by omega)
theorem sum_carry {o : List Int} {n1 n2 c : Nat} (hou : U16 o) (hc : 0 < c) (hc2 : c <= 65535) (h : val o + 65536 ^ o.length * c = n1 + n2) : limbs (n1 + n2) = o ++ [(c : Int)] := by
 have hv : val (o ++ [(c : Int)]) = n1 + n2 := by rw [val_snoc, <- h]; simp
 rw [<- hv]
 refine limbs_canon (hou.app (U16.cons (by omega) U16.nil)) fun x hx => ?_
 rw [List.getLast?_append] at hx
 simp at hx
 omega
structure MulR (T U O : List Int) (i : Nat) : Prop where
 len : O.length = T.length + U.length
 u16 : U16 O
 sum : val O = val (T.take i) * val U
 far : ∀ j, i + U.length <= j -> j < O.length -> O[j]? = some 0
structure MulI (T U O : List Int) (i k c : Nat) (x : Int) : Prop where
 len : O.length = T.length + U.length
 u16 : U16 O
 car : c <= 65535
 sum : val O + 65536 ^ (i + k) * c = val (T.take i) * val U + 65536 ^ i * (x.toNat * val (U.take k))
 far : ∀ j, i + U.length <= j -> j < O.length -> O[j]? = some 0
theorem MulR.start (T U : List Int) : MulR T U (List.replicate (T.length + U.length) 0) 0 :=
 ⟨by simp, u16_replicate _, by simp [val_replicate, val], fun j _ hl => by simp at hl; rw [List.getElem?_replicate, if_pos hl]⟩
theorem MulR.row {T U O : List Int} {i : Nat} (h : MulR T U O i) (x : Int) : MulI T U O i 0 0 x := ⟨h.len, h.u16, by omega, by simp [h.sum, val], h.far⟩
theorem MulI.next {T U O : List Int} {i k c : Nat} {x z y : Int} (h : MulI T U O i k c x) (hx : 0 <= x /\ x <= 65535) (hk : k < U.length) (hz : O[i + k]? = some z) (hy : U[k]? = some y) (hy2 : 0 <= y /\ y <= 65535)
  {c2 d : Nat} (hd : d + 65536 * c2 = z.toNat + x.toNat * y.toNat + c) (hd2 : d <= 65535) : MulI T U (O.set (i + k) (d : Int)) i (k + 1) c2 x := by
 have hz2 := h.u16.get hz
 refine ⟨by rw [List.length_set]; exact h.len, h.u16.set_ ⟨by omega, by omega⟩, carry_lt (z := z.toNat) (x := x.toNat) (y := y.toNat) (c := c) (d := d) (by omega) (by omega) (by omega) h.car hd, mul_step T U O i k c c2 d z x y hz (limbAt_some hy) h.sum hd, fun j hj hl => ?_⟩
 rw [List.getElem?_set_ne (by omega)]
 exact h.far j hj (by simpa using hl)
theorem MulI.done {T U O : List Int} {i c : Nat} {x : Int} (h : MulI T U O i U.length c x) (hx : T[i]? = some x) : MulR T U (O.set (i + U.length) (c : Int)) (i + 1) := by
 have hi := lt_of_get hx
 have hz := h.far (i + U.length) (nlr _) (by rw [h.len]; omega)
 have h1 := val_set hz (c : Int)
 have h2 := h.sum
 rw [val_take_all (nlr _), mul_end T U i x hx] at h2
 have hc := h.car
 refine ⟨by rw [List.length_set]; exact h.len, h.u16.set_ ⟨by omega, by omega⟩, ?_, fun j hj hl => ?_⟩
 ·
  have e : ((c : Int)).toNat = c := by omega
  rw [e] at h1
  simp only [Int.toNat_zero, Nat.mul_zero, Nat.add_zero] at h1
  omega
 ·
  rw [List.getElem?_set_ne (by omega)]
  exact h.far j (by omega) (by simpa using hl)
theorem MulR.done {T U O : List Int} (h : MulR T U O T.length) : val O = val T * val U := by rw [h.sum, val_take_all (nlr _)]
end Go.Proofs.YtkjnkpkagcboeaaGreatDoor
namespace Go.Proofs.YtkjnkpkagcboeaaGreatDoor
open Go.RowKit
theorem take_set_snoc {O : List Int} {k : Nat} (hk : k < O.length) (d : Int) : (O.set k d).take (k + 1) = O.take k ++ [d] := by
 rw [take_more (xs := O.set k d) (x := d) (by simp [hk]), List.take_set_of_le (nlr _)]
theorem nadd_any (l m : List Int) (n1 n2 : Nat) (a a' : Option Addr) (c c' : Nat) (w : World) (h : NatR w a c l) (h' : NatR w a' c' m) (hn : val l = n1) (hk : val m = n2) (hl : l.length <= 10000000) (hm : m.length <= 10000000) :
  Calls Tryz.prog 190 #[.slice a l.length c, .slice a' m.length c'] w (RetN (limbs (n1 + n2)) w) := by
 have C1 := trim_any l a c w h
 have C2 := trim_any m a' c' w h'
 have hP := h.trim
 have hQ := h'.trim
 have hl1 := limbs_len_val h.u16
 have hl2 := limbs_len_val h'.u16
 rw [hn] at C1 hP hl1
 rw [hk] at C2 hQ hl2
 have hup := limbs_u16 n1
 have huq := limbs_u16 n2
 have hvp := val_limbs n1
 have hvq := val_limbs n2
 obtain ⟨M, hM⟩ : ∃ M, n1 + n2 = M := ⟨_, rfl⟩
 rw [hM]
 have HSUM0 := Hd hM
 have hT0 : (limbs n1).length <= 10000000 := by omega
 have hU0 : (limbs n2).length <= 10000000 := by omega
 clear hl1 hl2 h h' hn hk hM
 obtain ⟨T, hT⟩ : ∃ T, limbs n1 = T := ⟨_, rfl⟩
 obtain ⟨U, hU⟩ : ∃ U, limbs n2 = U := ⟨_, rfl⟩
 have HT := Hd hT
 have HU := Hd hU
 rw [hT] at C1 hP hup hvp hT0
 rw [hU] at C2 hQ huq hvq hU0
 replace C1 := Hd C1; replace C2 := Hd C2
 clear hT hU
 by_cases hcmp : T.length < U.length
 ·
  have HP := Hd hQ
  have HQ := Hd hP
  have HVP := Hd hvq
  have HVQ := Hd hvp
  have HLP : Hid (U.length = (limbs n2).length) := Hd (by rw [HU.out])
  have HSUM : Hid (M = n2 + n1) := Hd (by rw [<- HSUM0.out, Nat.add_comm])
  clear hP hQ hvp hvq
  obtain ⟨hup, huq⟩ := And.intro huq hup
  have hmk := run_make_nat2 .i64 U.length (U.length + 1) (by omega) (by omega) w
  simp only [Int.natCast_add, Int.cast_ofNat_Int] at hmk
  go_enter Tryz.func190, Tryz.ntmps190
  go_wp2_with fail
  refine C1.out.mono ?_
  rintro e w1 ⟨rfl, rfl⟩
  go_wp2_with fail
  refine C2.out.mono ?_
  rintro e w1 ⟨rfl, rfl⟩
  go_wp2
  clear hmk C1 C2
  have hz0 := BlkN.new w (U.length + 1)
  have hb0 : Below w.heap.size w (w.alloc (.cells (madeCells #[.int .u16 0] (U.length + 1)) 47)) := brf.alloc (nlr _) _
  have hz : RowN (w.alloc (.cells (madeCells #[.int .u16 0] (U.length + 1)) 47)) w.heap.size (List.replicate U.length 0) [.int .u16 0] := by
   have h1 := (RowN.of hz0).cut U.length
   have e1 : (List.replicate (U.length + 1) (0 : Int)).take U.length = List.replicate U.length 0 := by rw [List.take_replicate]; congr 1; omega
   have e2 : (List.replicate (U.length + 1) (0 : Int)).drop U.length = [0] := by rw [List.drop_replicate, show U.length + 1 - U.length = 1 by omega]; rfl
   rw [e1, e2] at h1
   exact h1
  clear hz0
  revert hz hb0
  generalize w.alloc (.cells (madeCells #[.int .u16 0] (U.length + 1)) 47) = w0
  intro hb0 hz
  go_loopg [6, 7, 8, 28] U.length (fun g s6 _ _ s28 wr => ∃ (k cc : Nat) (O : List Int), k + g = U.length /\ s28 = .int .i64 k /\ s6 = .int .u32 cc /\ cc <= 1 /\ Hid (O.length = U.length) /\ U16 O /\ RowN wr w.heap.size O [.int .u16 0] /\ Below w.heap.size w wr /\
   Hid (val (O.take k) + 65536 ^ k * cc = val (U.take k) + val (T.take k)))
  case atStart => exact ⟨0, 0, _, by omega, rfl, rfl, by omega, by show _ = _; simp, u16_replicate _, hz, hb0, by show _ = _; simp [val]⟩
  case round =>
   clear hz hb0
   obtain ⟨k, cc, O, hkg, rfl, rfl, hc1, hol, hou, hrow, hwr, hval⟩ := hrel
   have HROW := Hd hrow
   have HKG := Hd hkg
   clear hrow hkg
   by_cases hlt : k < U.length
   ·
    obtain ⟨x, hx⟩ := get_of_lt hlt
    obtain ⟨hx0, hx1⟩ := hup.get hx
    obtain ⟨bp, op, rfl, hcp⟩ := (HP.out.ext (xbw hwr)).cell hx
    have hkO : k < O.length := by rw [hol.out]; exact hlt
    obtain ⟨z, hz⟩ := get_of_lt hkO
    have hcell := HROW.out.cell hz
    have hfr := HROW.out.frozen k
    have hsx := limbAt_some hx
    have hset := fun q : Int => HROW.out.set_ hkO q
    have HSET := Hd hset
    have htk := fun q : Int => take_set_snoc hkO q
    have hstep := fun c2 d h1 => add_step U T (O.take k) k cc c2 d (by rw [List.length_take]; omega) hval.out h1
    rw [hsx] at hstep
    obtain ⟨y, rfl⟩ : ∃ y : Nat, x = (y : Int) := ⟨x.toNat, by omega⟩
    rw [Int.toNat_natCast] at hstep
    have HTK := Hd htk
    have HSTEP := Hd hstep
    clear hset hstep htk hval hx hsx hz
    by_cases hkn : k < T.length
    ·
     obtain ⟨t, ht⟩ := get_of_lt hkn
     obtain ⟨bq, oq, rfl, hcq⟩ := (HQ.out.ext (xbw hwr)).cell ht
     obtain ⟨ht0, ht1⟩ := huq.get ht
     obtain ⟨t, rfl⟩ : ∃ s : Nat, t = (s : Int) := ⟨t.toNat, by omega⟩
     have HST := HSTEP.out
     rw [limbAt_some ht, Int.toNat_natCast] at HST
     obtain ⟨lo, hlo⟩ : ∃ lo, (cc + y + t) % 65536 = lo := ⟨_, rfl⟩
     obtain ⟨c2, hc2⟩ : ∃ c2, (cc + y + t) / 65536 = c2 := ⟨_, rfl⟩
     have hw1 : IntKind.u16.wrap ((cc : Int) + (y : Int) + (t : Int)) = (lo : Int) := by
      have := wrap16 (cc + y + t)
      rw [hlo] at this
      rw [<- this]
      simp
     have hw2 : ((cc : Int) + (y : Int) + (t : Int)) / 65536 = (c2 : Int) := by omega
     have hlo1 : lo <= 65535 := by omega
     have hc21 : c2 <= 1 := by omega
     replace HST := Hd (HST c2 lo (by omega))
     clear ht hlo hc2 HSTEP
     go_wp2
     go_roundg (gk - 1)
     case rel => exact ⟨k + 1, c2, O.set k (lo : Int), by have := HKG.out; omega, by go_num, rfl, by omega, by show _ = _; rw [List.length_set]; exact hol.out, hou.set_ (by omega), HSET.out lo, hwr.setCell (nlr _) _, by show _ = _; rw [HTK.out]; exact HST.out⟩
     case measure => have := HKG.out; omega
    ·
     have HST := HSTEP.out
     rw [limbAt_none (by omega)] at HST
     obtain ⟨lo, hlo⟩ : ∃ lo, (cc + y) % 65536 = lo := ⟨_, rfl⟩
     obtain ⟨c2, hc2⟩ : ∃ c2, (cc + y) / 65536 = c2 := ⟨_, rfl⟩
     have hw1 : IntKind.u16.wrap ((cc : Int) + (y : Int)) = (lo : Int) := by
      have := wrap16 (cc + y)
      rw [hlo] at this
      rw [<- this]
      simp
     have hw2 : ((cc : Int) + (y : Int)) / 65536 = (c2 : Int) := by omega
     have hlo1 : lo <= 65535 := by omega
     have hc21 : c2 <= 1 := by omega
     replace HST := Hd (HST c2 lo (by simp; omega))
     clear hlo hc2 HSTEP
     go_wp2
     go_roundg (gk - 1)
     case rel => exact ⟨k + 1, c2, O.set k (lo : Int), by have := HKG.out; omega, by go_num, rfl, by omega, by show _ = _; rw [List.length_set]; exact hol.out, hou.set_ (by omega), HSET.out lo, hwr.setCell (nlr _) _, by show _ = _; rw [HTK.out]; exact HST.out⟩
     case measure => have := HKG.out; omega
   ·
    obtain rfl : k = U.length := by have := HKG.out; omega
    have hfin : val O + 65536 ^ O.length * cc = n2 + n1 := by
     have h1 := hval.out
     rw [val_take_all (by rw [hol.out]; omega), val_take_all (nlr _), val_take_all (by omega), HVP.out, HVQ.out] at h1
     rw [hol.out]
     exact h1
    have hown : OwnN w.heap.size wr (some ⟨w.heap.size, 0, none⟩) (U.length + 1) O := by
     have h1 := HROW.out.own (nlr _) (c := U.length + 1) (by rw [hol.out]; rfl) (by unfold maxLen; omega) O.length (nlr _)
     rwa [List.take_length] at h1
    have HOWN := Hd hown
    have HFIN := Hd hfin
    clear hown hfin hval
    by_cases hcz : cc = 0
    ·
     subst hcz
     have hres : limbs (n2 + n1) = O := by
      have h1 := HFIN.out
      rw [Nat.mul_zero, Nat.add_zero] at h1
      exact sum_none hou (by rw [hol.out, HLP.out]) h1
     have HRES := Hd hres
     clear hres
     go_wp2
     go_ret
     refine RetN.own (l := O) HOWN.out hou hwr (by rw [HSUM.out]; exact HRES.out) (hol.out.symm)
    ·
     have hres : limbs (n2 + n1) = O ++ [(cc : Int)] := sum_carry hou (by omega) (by omega) HFIN.out
     have HRES := Hd hres
     have HLO : Hid ((O ++ [(cc : Int)]).length <= 16777216) := Hd (by rw [List.length_append, hol.out]; simp; omega)
     obtain rfl : cc = 1 := by omega
     have hown2 := HOWN.out
     have hoL := hol.out
     have hltO : ¬ O.length < O.length := Nat.lt_irrefl _
     rw [<- hoL] at hown2 ⊢
     obtain ⟨cO, hcO⟩ : ∃ q, O.length + 1 = q := ⟨_, rfl⟩
     rw [hcO] at hown2 ⊢
     replace HOWN := Hd hown2
     replace hoL := Hd hoL
     clear hres hown2 hcz hcO
     go_wp2_with (at_builtin; go_must (refine append_nat rfl (.tmp 58) (.tmp 61) rfl (some ⟨w.heap.size, 0, none⟩) cO rfl (HOWN.out.alloc _) ((1 : Nat) : Int) wr.heap.size 1 rfl (by simp) (O ++ [((1 : Nat) : Int)]) rfl HLO.out (by have := hwr.size; simp; omega) ?_); intro a2 c2 w2 ho2 hg2 hx2)
     go_ret
     exact RetN.own ho2 (hou.app (U16.cons (by omega) U16.nil)) (below_append' (hwr.alloc hwr.size _) (HOWN.out.alloc _) hg2) (by rw [HSUM.out]; exact HRES.out) (by simp)
 ·
  have HP := Hd hP
  have HQ := Hd hQ
  have HVP := Hd hvp
  have HVQ := Hd hvq
  have HLP : Hid (T.length = (limbs n1).length) := Hd (by rw [HT.out])
  have HSUM : Hid (M = n1 + n2) := Hd HSUM0.out.symm
  clear hP hQ hvp hvq
  have hmk := run_make_nat2 .i64 T.length (T.length + 1) (by omega) (by omega) w
  simp only [Int.natCast_add, Int.cast_ofNat_Int] at hmk
  go_enter Tryz.func190, Tryz.ntmps190
  go_wp2_with fail
  refine C1.out.mono ?_
  rintro e w1 ⟨rfl, rfl⟩
  go_wp2_with fail
  refine C2.out.mono ?_
  rintro e w1 ⟨rfl, rfl⟩
  go_wp2
  clear hmk C1 C2
  have hz0 := BlkN.new w (T.length + 1)
  have hb0 : Below w.heap.size w (w.alloc (.cells (madeCells #[.int .u16 0] (T.length + 1)) 47)) := brf.alloc (nlr _) _
  have hz : RowN (w.alloc (.cells (madeCells #[.int .u16 0] (T.length + 1)) 47)) w.heap.size (List.replicate T.length 0) [.int .u16 0] := by
   have h1 := (RowN.of hz0).cut T.length
   have e1 : (List.replicate (T.length + 1) (0 : Int)).take T.length = List.replicate T.length 0 := by rw [List.take_replicate]; congr 1; omega
   have e2 : (List.replicate (T.length + 1) (0 : Int)).drop T.length = [0] := by rw [List.drop_replicate, show T.length + 1 - T.length = 1 by omega]; rfl
   rw [e1, e2] at h1
   exact h1
  clear hz0
  revert hz hb0
  generalize w.alloc (.cells (madeCells #[.int .u16 0] (T.length + 1)) 47) = w0
  intro hb0 hz
  go_loopg [6, 7, 8, 28] T.length (fun g s6 _ _ s28 wr => ∃ (k cc : Nat) (O : List Int), k + g = T.length /\ s28 = .int .i64 k /\ s6 = .int .u32 cc /\ cc <= 1 /\ Hid (O.length = T.length) /\ U16 O /\ RowN wr w.heap.size O [.int .u16 0] /\ Below w.heap.size w wr /\
   Hid (val (O.take k) + 65536 ^ k * cc = val (T.take k) + val (U.take k)))
  case atStart => exact ⟨0, 0, _, by omega, rfl, rfl, by omega, by show _ = _; simp, u16_replicate _, hz, hb0, by show _ = _; simp [val]⟩
  case round =>
   clear hz hb0
   obtain ⟨k, cc, O, hkg, rfl, rfl, hc1, hol, hou, hrow, hwr, hval⟩ := hrel
   have HROW := Hd hrow
   have HKG := Hd hkg
   clear hrow hkg
   by_cases hlt : k < T.length
   ·
    obtain ⟨x, hx⟩ := get_of_lt hlt
    obtain ⟨hx0, hx1⟩ := hup.get hx
    obtain ⟨bp, op, rfl, hcp⟩ := (HP.out.ext (xbw hwr)).cell hx
    have hkO : k < O.length := by rw [hol.out]; exact hlt
    obtain ⟨z, hz⟩ := get_of_lt hkO
    have hcell := HROW.out.cell hz
    have hfr := HROW.out.frozen k
    have hsx := limbAt_some hx
    have hset := fun q : Int => HROW.out.set_ hkO q
    have HSET := Hd hset
    have htk := fun q : Int => take_set_snoc hkO q
    have hstep := fun c2 d h1 => add_step T U (O.take k) k cc c2 d (by rw [List.length_take]; omega) hval.out h1
    rw [hsx] at hstep
    obtain ⟨y, rfl⟩ : ∃ y : Nat, x = (y : Int) := ⟨x.toNat, by omega⟩
    rw [Int.toNat_natCast] at hstep
    have HTK := Hd htk
    have HSTEP := Hd hstep
    clear hset hstep htk hval hx hsx hz
    by_cases hkn : k < U.length
    ·
     obtain ⟨t, ht⟩ := get_of_lt hkn
     obtain ⟨bq, oq, rfl, hcq⟩ := (HQ.out.ext (xbw hwr)).cell ht
     obtain ⟨ht0, ht1⟩ := huq.get ht
     obtain ⟨t, rfl⟩ : ∃ s : Nat, t = (s : Int) := ⟨t.toNat, by omega⟩
     have HST := HSTEP.out
     rw [limbAt_some ht, Int.toNat_natCast] at HST
     obtain ⟨lo, hlo⟩ : ∃ lo, (cc + y + t) % 65536 = lo := ⟨_, rfl⟩
     obtain ⟨c2, hc2⟩ : ∃ c2, (cc + y + t) / 65536 = c2 := ⟨_, rfl⟩
     have hw1 : IntKind.u16.wrap ((cc : Int) + (y : Int) + (t : Int)) = (lo : Int) := by
      have := wrap16 (cc + y + t)
      rw [hlo] at this
      rw [<- this]
      simp
     have hw2 : ((cc : Int) + (y : Int) + (t : Int)) / 65536 = (c2 : Int) := by omega
     have hlo1 : lo <= 65535 := by omega
     have hc21 : c2 <= 1 := by omega
     replace HST := Hd (HST c2 lo (by omega))
     clear ht hlo hc2 HSTEP
     go_wp2
     go_roundg (gk - 1)
     case rel => exact ⟨k + 1, c2, O.set k (lo : Int), by have := HKG.out; omega, by go_num, rfl, by omega, by show _ = _; rw [List.length_set]; exact hol.out, hou.set_ (by omega), HSET.out lo, hwr.setCell (nlr _) _, by show _ = _; rw [HTK.out]; exact HST.out⟩
     case measure => have := HKG.out; omega
    ·
     have HST := HSTEP.out
     rw [limbAt_none (by omega)] at HST
     obtain ⟨lo, hlo⟩ : ∃ lo, (cc + y) % 65536 = lo := ⟨_, rfl⟩
     obtain ⟨c2, hc2⟩ : ∃ c2, (cc + y) / 65536 = c2 := ⟨_, rfl⟩
     have hw1 : IntKind.u16.wrap ((cc : Int) + (y : Int)) = (lo : Int) := by
      have := wrap16 (cc + y)
      rw [hlo] at this
      rw [<- this]
      simp
     have hw2 : ((cc : Int) + (y : Int)) / 65536 = (c2 : Int) := by omega
     have hlo1 : lo <= 65535 := by omega
     have hc21 : c2 <= 1 := by omega
     replace HST := Hd (HST c2 lo (by simp; omega))
     clear hlo hc2 HSTEP
     go_wp2
     go_roundg (gk - 1)
     case rel => exact ⟨k + 1, c2, O.set k (lo : Int), by have := HKG.out; omega, by go_num, rfl, by omega, by show _ = _; rw [List.length_set]; exact hol.out, hou.set_ (by omega), HSET.out lo, hwr.setCell (nlr _) _, by show _ = _; rw [HTK.out]; exact HST.out⟩
     case measure => have := HKG.out; omega
   ·
    obtain rfl : k = T.length := by have := HKG.out; omega
    have hfin : val O + 65536 ^ O.length * cc = n1 + n2 := by
     have h1 := hval.out
     rw [val_take_all (by rw [hol.out]; omega), val_take_all (nlr _), val_take_all (by omega), HVP.out, HVQ.out] at h1
     rw [hol.out]
     exact h1
    have hown : OwnN w.heap.size wr (some ⟨w.heap.size, 0, none⟩) (T.length + 1) O := by
     have h1 := HROW.out.own (nlr _) (c := T.length + 1) (by rw [hol.out]; rfl) (by unfold maxLen; omega) O.length (nlr _)
     rwa [List.take_length] at h1
    have HOWN := Hd hown
    have HFIN := Hd hfin
    clear hown hfin hval
    by_cases hcz : cc = 0
    ·
     subst hcz
     have hres : limbs (n1 + n2) = O := by
      have h1 := HFIN.out
      rw [Nat.mul_zero, Nat.add_zero] at h1
      exact sum_none hou (by rw [hol.out, HLP.out]) h1
     have HRES := Hd hres
     clear hres
     go_wp2
     go_ret
     refine RetN.own (l := O) HOWN.out hou hwr (by rw [HSUM.out]; exact HRES.out) (hol.out.symm)
    ·
     have hres : limbs (n1 + n2) = O ++ [(cc : Int)] := sum_carry hou (by omega) (by omega) HFIN.out
     have HRES := Hd hres
     have HLO : Hid ((O ++ [(cc : Int)]).length <= 16777216) := Hd (by rw [List.length_append, hol.out]; simp; omega)
     obtain rfl : cc = 1 := by omega
     have hown2 := HOWN.out
     have hoL := hol.out
     have hltO : ¬ O.length < O.length := Nat.lt_irrefl _
     rw [<- hoL] at hown2 ⊢
     obtain ⟨cO, hcO⟩ : ∃ q, O.length + 1 = q := ⟨_, rfl⟩
     rw [hcO] at hown2 ⊢
     replace HOWN := Hd hown2
     replace hoL := Hd hoL
     clear hres hown2 hcz hcO
     go_wp2_with (at_builtin; go_must (refine append_nat rfl (.tmp 58) (.tmp 61) rfl (some ⟨w.heap.size, 0, none⟩) cO rfl (HOWN.out.alloc _) ((1 : Nat) : Int) wr.heap.size 1 rfl (by simp) (O ++ [((1 : Nat) : Int)]) rfl HLO.out (by have := hwr.size; simp; omega) ?_); intro a2 c2 w2 ho2 hg2 hx2)
     go_ret
     exact RetN.own ho2 (hou.app (U16.cons (by omega) U16.nil)) (below_append' (hwr.alloc hwr.size _) (HOWN.out.alloc _) hg2) (by rw [HSUM.out]; exact HRES.out) (by simp)
end Go.Proofs.YtkjnkpkagcboeaaGreatDoor
