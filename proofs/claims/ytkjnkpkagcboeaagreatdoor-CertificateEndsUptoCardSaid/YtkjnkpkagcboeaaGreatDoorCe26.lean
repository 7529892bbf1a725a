/- The row of CertificateEnds and its card: for each input the call returns true, and each argument reads behind the call as it read before. The row lists tables and errors of Go's library as its text lays them. Condition: the arguments hold together at most 1048576 values and letters. -/
import Derived.Test.YtkjnkpkagcboeaaGreatDoorCe13
import Derived.Test.YtkjnkpkagcboeaaGreatDoorCe23
import Derived.Test.YtkjnkpkagcboeaaGreatDoorCe25
import Derived.Test.YtkjnkpkagcboeaaGreatDoorCe14
import Derived.Test.YtkjnkpkagcboeaaGreatDoorCe24
import Derived.Test.YtkjnkpkagcboeaaGreatDoorCe1
import Derived.Test.YtkjnkpkagcboeaaGreatDoorCe10
import Derived.Lib.Strings
import Derived.JoinedCond
import Derived.Test.YtkjnkpkagcboeaaGreatDoorCards
import Derived.Test.YtkjnkpkagcboeaaGreatDoorTie
import Derived.ChangeMaps5
import Derived.WalkKit
import Derived.ProofKit
import Derived.OpenShut
import Derived.Deep.DeepHandedRow
import Derived.Lib.LaidTab
import Derived.Lay
set_option linter.all false
set_option maxRecDepth 100000
set_option maxHeartbeats 4000000
namespace Go.Proofs.YtkjnkpkagcboeaaGreatDoor
open Go.RowKit
theorem own_one {w : World} {g B : Nat} {x : ByteArray} (h : Blk w g 9 #[.string x]) (hB : B <= g) : OwnS B w (some ⟨g, 0, none⟩) 1 [x] := by
 refine ⟨by rw [flatMap_len strC_len], .inr ⟨g, 1, _, rfl, hB, h, nlr _, by simp [maxLen], by simp, ?_⟩⟩
 simp [strC]
structure FineL (l : List (List Trm)) : Prop where
 right : ∀ p ∈ l, polyB p = true
 few : ∀ p ∈ l, p.length <= 1000
 small : ∀ p ∈ l, ∀ t ∈ p, t.coef.num.length <= 1000 /\ t.coef.den.length <= 1000
theorem FineL.size {l : List (List Trm)} (h : FineL l) {names : List ByteArray} (hn : ∀ s ∈ names, s.size <= 1048576) {p : List Trm} (hp : p ∈ l) : (printP p names).1.size <= 1400000003000 :=
 printP_size (fun t ht => by
  obtain ⟨h1, h2⟩ := polyB_terms (h.right p hp) t ht
  obtain ⟨h3, h4⟩ := h.small p hp t ht
  exact termB_size hn (fun x hx => ((monoB_mem h2).2 x hx).2) (textT_len h1 h3 h4) (monoB_mem h2).1) (h.few p hp)
theorem crtB_fine {F C : List (List Trm)} {P : List Int} {n : Int} (h : crtB ⟨F, P, n, C⟩ = true) : P.length = F.length /\ (1 <= n /\ n <= 64) /\ (∀ p ∈ F, polyB p = true) /\ (∀ p ∈ C, polyB p = true) /\ ∀ x ∈ P, 0 <= x /\ x <= 64 := by
 unfold crtB at h
 simp only [Bool.and_eq_true, decide_eq_true_eq, List.all_eq_true] at h
 obtain ⟨⟨⟨h1, h2⟩, h3⟩, h4⟩ := h
 have key : ∀ (k : Nat) (p : List Trm) (x : Int), F[k]? = some p -> P[k]? = some x -> (0 <= x /\ x <= 64) /\ polyB p = true := fun k p x hp hx => by
  have := h3 k (List.mem_range.2 (lt_of_get hp))
  rw [facB_of hx hp] at this
  simp only [Bool.and_eq_true, decide_eq_true_eq] at this
  exact ⟨this.1.1, this.2⟩
 refine ⟨h1, h2, fun p hp => ?_, h4, fun x hx => ?_⟩
 ·
  obtain ⟨k, hk⟩ := List.getElem?_of_mem hp
  obtain ⟨x, hx⟩ := get_of_lt (xs := P) (k := k) (by have := lt_of_get hk; omega)
  exact (key k p x hk hx).2
 ·
  obtain ⟨k, hk⟩ := List.getElem?_of_mem hx
  obtain ⟨p, hp⟩ := get_of_lt (xs := F) (k := k) (by have := lt_of_get hk; omega)
  exact (key k p x hp hk).1
theorem certSM_any (M : Nat) (F C : List (List Trm)) (P : List Int) (n : Int) (names : List ByteArray) (fa wa ca na : Option Addr) (fc wc cc nc : Nat) (w : World) (h1 : PolysR w fa fc F) (h2 : IntsR w wa wc P) (h3 : PolysR w ca cc C) (hn : InInt n)
  (hF : ∀ p ∈ F, p.length <= 1000 /\ ∀ t ∈ p, t.coef.num.length <= 1000 /\ t.coef.den.length <= 1000) (hC : ∀ p ∈ C, p.length <= 1000 /\ ∀ t ∈ p, t.coef.num.length <= 1000 /\ t.coef.den.length <= 1000) (hMF : ∀ p ∈ F, (printP p names).1.size <= M) (hMC : ∀ p ∈ C, (printP p names).1.size <= M) (hlF : F.length <= 1000000) (hlC : C.length <= 1000000) (hMZ : (F.length + 1 + C.length) * (M + 100 + 1) <= 140737488355000)
  (hN : StrsR w na nc names) (hnl : names.length <= 1000) (hnz : ∀ s ∈ names, s.size <= 1048576) (ht : TabW w) :
  Calls Tryz.prog 23 #[.agg #[.slice fa F.length fc, .slice wa P.length wc, .int .i64 n, .slice ca C.length cc], .slice na names.length nc] w fun e w' => e = .returned (.tuple #[.string (textC names F C P n (crtB ⟨F, P, n, C⟩)).1, .int .i64 (textC names F C P n (crtB ⟨F, P, n, C⟩)).2]) /\ Below w.heap.size w w' := by
 have CR := fun W (hW : Below w.heap.size w W) => crtP_any F C P n fa wa ca fc wc cc W (h1.ext (xbw hW)) (h2.ext (xbw hW)) (h3.ext (xbw hW)) hn (fun p hp t ht => by have := (hF p hp).2 t ht; omega) (fun p hp t ht => by have := (hC p hp).2 t ht; omega)
 have HF := Hd (fun W (hW : Below w.heap.size w W) => h1.ext (xbw hW))
 have HP := Hd (fun W (hW : Below w.heap.size w W) => h2.ext (xbw hW))
 have HC := Hd (fun W (hW : Below w.heap.size w W) => h3.ext (xbw hW))
 have HN := Hd (fun W (hW : Below w.heap.size w W) => hN.ext (xbw hW))
 have HT := Hd (fun W (hW : Below w.heap.size w W) => ht.below hW)
 have HNZ := Hd hnz
 have HMF := Hd hMF; have HMC := Hd hMC; have HMZ := Hd hMZ
 clear hMF hMC hMZ
 obtain ⟨bc, hbc⟩ : ∃ b, crtB ⟨F, P, n, C⟩ = b := ⟨_, rfl⟩
 rw [hbc]
 simp only [hbc] at CR
 obtain ⟨R, hR⟩ : ∃ r, textC names F C P n bc = r := ⟨_, rfl⟩
 rw [hR]
 unfold textC at hR
 have hfine := fun (h : bc = true) => crtB_fine (hbc.trans h)
 replace CR := Hd CR; replace hfine := Hd hfine
 have HFQ := Hd hF; have HCQ := Hd hC
 clear h1 h2 h3 hN hnz ht hbc hF hC
 go_enter Tryz.func23, Tryz.ntmps23
 go_wp2_with fail
 refine calls_gen (fun W => Blk W w.heap.size 40 #[.slice fa F.length fc, .slice wa P.length wc, .int .i64 n, .slice ca C.length cc] /\ Below w.heap.size w W) ⟨by ((with_reducible repeat first|assumption|(apply bF;focus omega)|apply bS|(apply bN;focus (simp;done))|apply bA|apply bD);all_goals rfl), by go_grown⟩ ?_
 rintro w0 ⟨h0, hw0⟩
 refine (CR.out w0 hw0).mono ?_
 rintro e w1 ⟨rfl, hb1⟩
 have hw1 := bth hw0 hb1
 replace h0 := h0.below' hb1
 clear hw0 hb1 CR
 cases bc
 ·
  have hfin := Hd (show R = (⟨#[]⟩, 1) from hR.symm)
  clear hR hfine h0
  go_wp2
  go_ret2
  exact ⟨by rw [hfin.out]; rfl, hw1⟩
 obtain ⟨hPF0, ⟨hn1, hn2⟩, hrF, hrC, hPx⟩ := hfine.out rfl
 have hPF := Hd hPF0
 clear hPF0
 have FF := Hd (FineL.mk hrF (fun p hp => (HFQ.out p hp).1) (fun p hp => (HFQ.out p hp).2))
 have FC := Hd (FineL.mk hrC (fun p hp => (HCQ.out p hp).1) (fun p hp => (HCQ.out p hp).2))
 have HPX := Hd hPx
 rw [if_pos rfl] at hR
 obtain ⟨pn, rfl⟩ : ∃ pn : Nat, n = (pn : Int) := ⟨n.toNat, by omega⟩
 clear hrF hrC hPx hfine HFQ HCQ hn
 have x2 := h0.cell 2
 have hl0 := digs_1m (pn : Int) (by omega)
 rw [Int.toNat_natCast, <- ofL_size] at hl0
 have hz1 : (6 : Nat) + (ofL (textN pn)).size <= 20 := by omega
 have CI := Hd (itoaN_any pn w1 (HT.out w1 hw1) (by omega))
 go_wp2_with fail
 refine CI.out.mono ?_
 rintro e w2 ⟨rfl, hb2⟩
 have hw2 := bth hw1 hb2
 replace h0 := h0.below' hb2
 have y0 := h0.cell 0
 clear x2 CI hb2 hw1
 have gl0 := h0.lt
 have hs2 := hw2.size
 go_wp2
 refine world_gen (fun W => Blk W w2.heap.size 9 #[.string (⟨#[112, 111, 119, 101, 114, 32]⟩ ++ ofL (textN pn))] /\ Blk W w.heap.size 40 #[.slice fa F.length fc, .slice wa P.length wc, .int .i64 (pn : Int), .slice ca C.length cc] /\ Below w.heap.size w W) (by refine ⟨?_,?_,?_⟩<;>first|((with_reducible repeat first|assumption|(apply bF;focus omega)|apply bS|(apply bN;focus (simp;done))|apply bA|apply bD);all_goals rfl)|go_grown) ?_
 rintro w3 ⟨hr, h1, hw3⟩
 have hO0 := own_one (x := ln0 (pn : Int)) (B := w.heap.size + 1) hr (by omega)
 clear h0 y0 hr gl0 hs2 hw2
 have hlF1 : lnsF names F P (pn : Int) 0 = [ln0 (pn : Int)] := by simp [lnsF]
 replace hlF1 := Hd hlF1
 obtain ⟨g2, hg2⟩ : ∃ q, w2.heap.size = q := ⟨_, rfl⟩
 rw [hg2] at hO0 ⊢
 clear hg2 hl0 hz1
 go_loopg [6, 7, 8, 9, 10, 26, 31] F.length (fun g s6 _ _ _ _ s26 _ wr => ∃ (k : Nat) (a2 : Option Addr) (c2 : Nat), Hid (k + g = F.length) /\ s26 = .int .i64 k /\ s6 = .slice a2 (lnsF names F P (pn : Int) k).length c2 /\ OwnS (w.heap.size + 1) wr a2 c2 (lnsF names F P (pn : Int) k) /\ Blk wr w.heap.size 40 #[.slice fa F.length fc, .slice wa P.length wc, .int .i64 (pn : Int), .slice ca C.length cc] /\ Hid (errL names F = errL names (F.drop k)) /\ Below w.heap.size w wr)
 case atStart => exact ⟨0, some ⟨g2, 0, none⟩, 1, by show _ = _; omega, rfl, by rw [hlF1.out]; rfl, by rw [hlF1.out]; exact hO0, h1, rfl, hw3⟩
 case round =>
  clear hO0 h1 hw3
  obtain ⟨k, a2, c2, hk, rfl, rfl, hO, h0, her, hwr⟩ := hrel
  have HO := Hd hO
  clear hO
  by_cases hlt : k < F.length
  ·
   obtain ⟨p, hp⟩ := get_of_lt hlt
   have hpm := List.mem_of_getElem? hp
   obtain ⟨x, hx⟩ := get_of_lt (xs := P) (k := k) (by have := hPF.out; omega)
   obtain ⟨hx0, hx1⟩ := HPX.out x (List.mem_of_getElem? hx)
   obtain ⟨bf, of, rfl, ap, cp, hcf, hPR⟩ := (HF.out wr hwr).2.2 k p hp
   simp only [Nat.mul_one] at hcf
   obtain ⟨bx, ox, rfl, hcx, hxw⟩ := (HP.out wr hwr).2.2 k x hx
   simp only [Nat.mul_one] at hcx
   obtain ⟨xn, rfl⟩ : ∃ xn : Nat, x = (xn : Int) := ⟨x.toNat, by omega⟩
   have CP := printS_any p names ap na cp nc wr hPR (FF.out.small p hpm) (FF.out.few p hpm) (HN.out wr hwr) hnl HNZ.out (HT.out wr hwr)
   have hps := FF.out.size HNZ.out hpm
   have hel := errL_at (names := names) hp
   have hls := lnsF_succ (names := names) (n := (pn : Int)) hp hx
   unfold lnF at hls
   obtain ⟨pr, hpr⟩ : ∃ r, printP p names = r := ⟨_, rfl⟩
   rw [hpr] at CP hps hel hls
   obtain ⟨ts, te⟩ := pr
   dsimp only at CP hps hel hls
   replace CP := Hd CP; replace hel := Hd (her.out.trans hel); replace hls := Hd hls
   have hkx : k < P.length := by have := hPF.out; omega
   clear hpr hp hx hxw hPR hpm her
   go_wp2_with fail
   refine CP.out.mono ?_
   rintro e w4 ⟨rfl, hb4⟩
   have hw4 := bth hwr hb4
   have HO4 := Hd (HO.out.below hb4)
   replace h0 := h0.below' hb4
   have hcx4 := held hcx w4 hb4
   have y1 := h0.cell 1
   clear CP HO hcx hcf
   by_cases he : te = 0
   ·
    subst he
    have hne : ((0 : Int) != 0) = false := rfl
    have HE := Hd (show errL names F = errL names (F.drop (k + 1)) from hel.out.trans (if_pos rfl))
    have CI := Hd (itoaN_any xn w4 (HT.out w4 hw4) (by omega))
    have hl0 := digs_1m (xn : Int) (by omega)
    rw [Int.toNat_natCast, <- ofL_size] at hl0
    clear hel
    go_wp2_with fail
    refine CI.out.mono ?_
    rintro e w5 ⟨rfl, hb5⟩
    have hw5 := bth hw4 hb5
    have HO5 := Hd (HO4.out.below hb5)
    replace h0 := h0.below' hb5
    obtain ⟨T, hT⟩ : ∃ T, ofL (textN xn) = T := ⟨_, rfl⟩
    rw [Int.toNat_natCast, hT] at hls
    rw [hT] at hl0 ⊢
    have z1 : 7 + T.size <= 17 := by omega
    have z2 : 7 + T.size + 1 <= 18 := by omega
    have z3 : 7 + T.size + 1 + ts.size <= 1400000003018 := by omega
    have z4 : ¬ 9223372036854775807 < 7 + T.size := by omega
    have z5 : ¬ 9223372036854775807 < 7 + T.size + 1 := by omega
    have z6 : ¬ 9223372036854775807 < 7 + T.size + 1 + ts.size := by omega
    have hln := Hd (lnsF_len names F P (pn : Int) k)
    clear CI HO4 hb5 hT
    have HLE : Hid ((lnsF names F P (pn : Int) k ++ [⟨#[102, 97, 99, 116, 111, 114, 32]⟩ ++ T ++ ⟨#[32]⟩ ++ ts]).length <= 16777216) := Hd (by rw [List.length_append, hln.out]; simp; omega)
    go_wp2_with (at_builtin; go_must (refine append_str rfl (.tmp 40) (.tmp 51) rfl a2 c2 rfl (HO5.out.alloc _) (⟨#[102, 97, 99, 116, 111, 114, 32]⟩ ++ T ++ ⟨#[32]⟩ ++ ts) w5.heap.size 1 rfl (by simp) (lnsF names F P (pn : Int) k ++ [⟨#[102, 97, 99, 116, 111, 114, 32]⟩ ++ T ++ ⟨#[32]⟩ ++ ts]) rfl HLE.out (by have := h0.lt; simp; omega) ?_); intro a3 c3 w6 ho3 hg3 hx3)
    have hw6 := below_append' (hw5.alloc hw5.size _) ((HO5.out.alloc _).base (Nat.le_succ _)) hg3
    have h6 := (h0.alloc (.cells #[.string (⟨#[102, 97, 99, 116, 111, 114, 32]⟩ ++ T ++ ⟨#[32]⟩ ++ ts)] 9)).under HO5.out (Nat.lt_succ_self _) hg3
    rw [<- hls.out] at ho3
    replace ho3 := Hd ho3
    clear hx3 hg3 HO5 h0 hw5
    go_roundg (gk - 1)
    case rel => exact ⟨k + 1, a3, c3, by have := hk.out; show _ = _; omega, by go_num, by rw [hls.out, List.length_append]; rfl, ho3.out, h6, HE, hw6⟩
    case measure => have := hk.out; omega
   ·
    have hne : (te != 0) = true := by simpa using he
    have HE : errL names F ≠ 0 := by rw [hel.out, if_neg he]; exact he
    have hfin := Hd (show R = (⟨#[]⟩, te) by rw [<- hR, if_neg HE, hel.out, if_neg he])
    clear hR HE he hel
    go_wp2
    go_ret2
    exact ⟨by rw [hfin.out]; rfl, hw4⟩
  ·
   have hkl : k = F.length := by have := hk.out; omega
   subst hkl
   rw [errL_end] at her
   rw [if_pos her.out] at hR
   obtain ⟨w3, rfl⟩ : ∃ W, W = wr := ⟨_, rfl⟩
   have x3 := h0.cell 3
   have HE0 := Hd (lnsC_zero names F C P (pn : Int))
   clear hk her
   go_wp2
   go_loopg [6, 12, 13, 14, 57, 61] C.length (fun g s6 _ _ _ s57 _ wr => ∃ (k : Nat) (a2 : Option Addr) (c2 : Nat), Hid (k + g = C.length) /\ s57 = .int .i64 k /\ s6 = .slice a2 (lnsC names F C P (pn : Int) k).length c2 /\ OwnS w.heap.size wr a2 c2 (lnsC names F C P (pn : Int) k) /\ Hid (errL names C = errL names (C.drop k)) /\ Below w.heap.size w wr)
   case atStart => exact ⟨0, a2, c2, by show _ = _; omega, rfl, by rw [HE0.out], by rw [HE0.out]; exact HO.out.base (Nat.le_succ _), rfl, hwr⟩
   case round =>
    clear HO h0 x3 hwr
    obtain ⟨k, a2, c2, hk, rfl, rfl, hO, her, hwr⟩ := hrel
    have HO := Hd hO
    clear hO
    by_cases hlt : k < C.length
    ·
     obtain ⟨p, hp⟩ := get_of_lt hlt
     have hpm := List.mem_of_getElem? hp
     obtain ⟨bf, of, rfl, ap, cp, hcf, hPR⟩ := (HC.out wr hwr).2.2 k p hp
     simp only [Nat.mul_one] at hcf
     have CP := printS_any p names ap na cp nc wr hPR (FC.out.small p hpm) (FC.out.few p hpm) (HN.out wr hwr) hnl HNZ.out (HT.out wr hwr)
     have hps := FC.out.size HNZ.out hpm
     have hel := errL_at (names := names) hp
     have hls := lnsC_succ (names := names) (F := F) (P := P) (n := (pn : Int)) hp
     unfold lnC at hls
     obtain ⟨pr, hpr⟩ : ∃ r, printP p names = r := ⟨_, rfl⟩
     rw [hpr] at CP hps hel hls
     obtain ⟨ts, te⟩ := pr
     dsimp only at CP hps hel hls
     replace CP := Hd CP; replace hel := Hd (her.out.trans hel); replace hls := Hd hls
     clear hpr hp hPR hpm her
     go_wp2_with fail
     refine CP.out.mono ?_
     rintro e w4 ⟨rfl, hb4⟩
     have hw4 := bth hwr hb4
     have HO4 := Hd (HO.out.below hb4)
     clear CP HO hcf
     by_cases he : te = 0
     ·
      subst he
      have hne : ((0 : Int) != 0) = false := rfl
      have HE := Hd (show errL names C = errL names (C.drop (k + 1)) from hel.out.trans (if_pos rfl))
      have z1 : 9 + ts.size <= 1400000003018 := by omega
      have z2 : ¬ 9223372036854775807 < 9 + ts.size := by omega
      have hln := Hd (lnsC_len names F C P (pn : Int) k)
      have HLE : Hid ((lnsC names F C P (pn : Int) k ++ [⟨#[99, 111, 102, 97, 99, 116, 111, 114, 32]⟩ ++ ts]).length <= 16777216) := Hd (by rw [List.length_append, hln.out]; simp; omega)
      clear hel
      go_wp2_with (at_builtin; go_must (refine append_str rfl (.tmp 70) (.tmp 73) rfl a2 c2 rfl (HO4.out.alloc _) (⟨#[99, 111, 102, 97, 99, 116, 111, 114, 32]⟩ ++ ts) w4.heap.size 1 rfl (by simp) (lnsC names F C P (pn : Int) k ++ [⟨#[99, 111, 102, 97, 99, 116, 111, 114, 32]⟩ ++ ts]) rfl HLE.out (by have := hw4.size; simp; omega) ?_); intro a3 c3 w6 ho3 hg3 hx3)
      have hw6 := below_append' (hw4.alloc hw4.size _) (HO4.out.alloc _) hg3
      rw [<- hls.out] at ho3
      replace ho3 := Hd ho3
      clear hx3 hg3 HO4 hw4
      go_roundg (gk - 1)
      case rel => exact ⟨k + 1, a3, c3, by have := hk.out; show _ = _; omega, by go_num, by rw [hls.out, List.length_append]; rfl, ho3.out, HE, hw6⟩
      case measure => have := hk.out; omega
     ·
      have hne : (te != 0) = true := by simpa using he
      have HE : errL names C ≠ 0 := by rw [hel.out, if_neg he]; exact he
      have hfin := Hd (show R = (⟨#[]⟩, te) by rw [<- hR, if_neg HE, hel.out, if_neg he])
      clear hR HE he hel
      go_wp2
      go_ret2
      exact ⟨by rw [hfin.out]; rfl, hw4⟩
    ·
     have hkl : k = C.length := by have := hk.out; omega
     subst hkl
     rw [errL_end] at her
     rw [if_pos her.out] at hR
     have hsh := lnsC_short (names := names) (F := F) (C := C) (P := P) (n := (pn : Int)) HMF.out HMC.out (fun x hx => (HPX.out x hx).2) hPF.out (by omega) C.length (nlr _)
     have hcs := catL_size hsh
     have hln := lnsC_len names F C P (pn : Int) C.length
     have hcj := catL_join (lnsC names F C P (pn : Int) C.length) (by intro e; rw [e] at hln; simp at hln; omega)
     have hcz : (catL (lnsC names F C P (pn : Int) C.length)).size <= 140737488355000 := Nat.le_trans hcs (by rw [hln]; exact HMZ.out)
     rw [<- hcj, ByteArray.size_append] at hcz
     have CJ := Hd (join_any (lnsC names F C P (pn : Int) C.length) nlB a2 c2 wr HO.out.reads1 (by omega) (by omega))
     obtain ⟨J, hJ⟩ : ∃ J, joinB (lnsC names F C P (pn : Int) C.length) nlB = J := ⟨_, rfl⟩
     rw [hJ] at CJ hcj hcz
     have z1 : J.size + 5 <= 140737488355005 := by omega
     have z2 : ¬ 9223372036854775807 < J.size + 5 := by omega
     have hfin := Hd (show R = (J ++ ⟨#[10, 101, 110, 100, 10]⟩, 0) by
      rw [<- hR, <- hcj, ba_assoc]; rfl)
     clear hR hcj hcz hcs hsh hln hJ her
     go_wp2_with fail
     refine CJ.out.mono ?_
     rintro e w4 ⟨rfl, hb4⟩
     have hw4 := bth hwr hb4
     clear CJ
     go_wp2
     go_ret2
     exact ⟨by rw [hfin.out]; rfl, hw4⟩
theorem print_big {p : List Trm} {names : List ByteArray} (hn : ∀ s ∈ names, s.size <= 1048576) (hp : p.length <= 1000 /\ ∀ t ∈ p, t.coef.num.length <= 1000 /\ t.coef.den.length <= 1000) : (printP p names).1.size <= 1400000003000 := by
 by_cases h : polyB p = true
 · exact FineL.size (l := [p]) ⟨by simpa using h, by simpa using hp.1, by simpa using hp.2⟩ hn (by simp)
 · unfold printP; rw [if_neg h]; exact Nat.zero_le _
theorem certS_any (F C : List (List Trm)) (P : List Int) (n : Int) (names : List ByteArray) (fa wa ca na : Option Addr) (fc wc cc nc : Nat) (w : World) (h1 : PolysR w fa fc F) (h2 : IntsR w wa wc P) (h3 : PolysR w ca cc C) (hn : InInt n)
  (hF : ∀ p ∈ F, p.length <= 1000 /\ ∀ t ∈ p, t.coef.num.length <= 1000 /\ t.coef.den.length <= 1000) (hC : ∀ p ∈ C, p.length <= 1000 /\ ∀ t ∈ p, t.coef.num.length <= 1000 /\ t.coef.den.length <= 1000) (hlF : F.length <= 10) (hlC : C.length <= 10)
  (hN : StrsR w na nc names) (hnl : names.length <= 1000) (hnz : ∀ s ∈ names, s.size <= 1048576) (ht : TabW w) :
  Calls Tryz.prog 23 #[.agg #[.slice fa F.length fc, .slice wa P.length wc, .int .i64 n, .slice ca C.length cc], .slice na names.length nc] w fun e w' => e = .returned (.tuple #[.string (textC names F C P n (crtB ⟨F, P, n, C⟩)).1, .int .i64 (textC names F C P n (crtB ⟨F, P, n, C⟩)).2]) /\ Below w.heap.size w w' :=
 certSM_any 1400000003000 F C P n names fa wa ca na fc wc cc nc w h1 h2 h3 hn hF hC (fun p hp => print_big hnz (hF p hp)) (fun p hp => print_big hnz (hC p hp)) (by omega) (by omega) (Nat.le_trans (Nat.mul_le_mul_right _ (show F.length + 1 + C.length <= 21 by omega)) (by decide)) hN hnl hnz ht
end Go.Proofs.YtkjnkpkagcboeaaGreatDoor
namespace Go.Proofs.YtkjnkpkagcboeaaGreatDoor
open Go.ChangeShapes Go.WideShapes Go.ChangeAt Go.RowKit
theorem fitL_fine {l : List (List Trm)} (h : fitL l = true) : ∀ p ∈ l, p.length <= 1000 /\ ∀ t ∈ p, t.coef.num.length <= 1000 /\ t.coef.den.length <= 1000 := fun p hp => by
 have h1 := (fitL_mem h).2 p hp
 exact ⟨by omega, fun t ht => by have := h1.2 t ht; omega⟩
section
variable {H : Type} {enc : TypeId × Value -> H} {W : World} {sp : Nat -> Bool} {held : Bool}
theorem open_strsa {r : Reach} {b0 : Nat} {v : Value} {d : DataW H} {p : List MemPlace} (hv : Value.okWide Tryz.prog W r b0 24 v) (h : DataW.Trod enc Tryz.prog W 0 sp held 24 v d p) :
  ∃ (l : List ByteArray) (a : Option Addr) (c : Nat), v = .slice a l.length c /\ StrsR W a c l /\ (l.map fun s => s.size + 1).sum + 1 <= Rows.uptoBulk d := by
 obtain ⟨n, hn⟩ := h
 obtain ⟨a, c, zs, h1, h2, h3⟩ := open_strsl hn
 obtain ⟨a', l', c', rfl⟩ := okWide_slice Tryz.underlying24 hv
 refine ⟨zs, a, c, ?_, h2, h3⟩
 simpa [Value.cells] using h1
end
theorem sum_mem {l : List ByteArray} {m : Nat} (h : (l.map fun s => s.size + 1).sum <= m) : ∀ s ∈ l, s.size <= m := by
 induction l generalizing m with
 | nil => intro s hs; cases hs
 | cons x r ih =>
  intro s hs
  rw [List.map_cons, List.sum_cons] at h
  rcases List.mem_cons.1 hs with rfl | hs
  · omega
  · exact Nat.le_trans (ih (nlr _) s hs) (by omega)
end Go.Proofs.YtkjnkpkagcboeaaGreatDoor
namespace Go.Proofs.YtkjnkpkagcboeaaGreatDoor
open Go.RowKit
theorem fit_print {p : List Trm} {names : List ByteArray} (hn : ∀ s ∈ names, s.size <= 1048576) (hp : p.length <= 8) (ht : ∀ t ∈ p, t.mono.length <= 6 /\ t.coef.num.length <= 4 /\ t.coef.den.length <= 4) : (printP p names).1.size <= 58833008 := by
 by_cases hb : polyB p = true
 ·
  have key : ∀ t ∈ p, (termB t.coef.q t.mono names).size <= 7354123 := fun t hm => by
   have hok := polyB_terms hb t hm
   obtain ⟨a1, a2, a3⟩ := ht t hm
   have hsq := short_right hok.1 (show t.coef.num.length <= 6 by omega) (show t.coef.den.length <= 6 by omega)
   have htl : (textQ (absQ t.coef.q)).length <= 2001 := by
    obtain ⟨b1, b2⟩ := hsq
    rw [textQ_pos (absQ_nonneg _)]
    split
    · omega
    · rw [List.length_append, List.length_cons]; omega
   have hsh := joinB_size (partsT_short (q := t.coef.q) (m := t.mono) (names := names) (N := 1048576) (T := 2001) hn (fun x hx => ((monoB_mem hok.2).2 x hx).2) htl t.mono.length)
   have hpl := partsT_len t.coef.q t.mono names t.mono.length
   exact Nat.le_trans hsh (Nat.le_trans (Nat.mul_le_mul_right _ (show _ <= 7 by omega)) (by omega))
  unfold printP
  rw [if_pos hb]
  split
  ·
   split
   · exact Nat.zero_le _
   ·
    split
    · show 1 <= _; omega
    · exact Nat.le_trans (polyTo_size key _) (Nat.le_trans (Nat.mul_le_mul_right _ hp) (by omega))
  · exact Nat.zero_le _
 · unfold printP; rw [if_neg hb]; exact Nat.zero_le _
theorem fit_text {F C : List (List Trm)} {P : List Int} {n : Int} {names : List ByteArray} {b : Bool} (hn : ∀ s ∈ names, s.size <= 1048576) (hF : fitL F = true) (hC : fitL C = true) (hb : crtB ⟨F, P, n, C⟩ = true) : (textC names F C P n b).1.size <= 800000000 := by
 obtain ⟨h1, h2, _, _, h5⟩ := crtB_fine hb
 obtain ⟨l1, m1⟩ := fitL_mem hF
 obtain ⟨l2, m2⟩ := fitL_mem hC
 unfold textC
 split
 ·
  split
  ·
   split
   ·
    have hs := catL_size (lnsC_short (M := 58833008) (names := names) (F := F) (C := C) (P := P) (n := n) (fun p hp => fit_print hn (m1 p hp).1 (m1 p hp).2) (fun p hp => fit_print hn (m2 p hp).1 (m2 p hp).2) (fun x hx => (h5 x hx).2) h1 (by omega) C.length (nlr _))
    rw [lnsC_len] at hs
    have h6 : (F.length + 1 + C.length) * (58833008 + 100 + 1) <= 13 * (58833008 + 100 + 1) := Nat.mul_le_mul_right _ (by omega)
    show (catL (lnsC names F C P n C.length) ++ endB).size <= _
    rw [ByteArray.size_append]
    have h7 : endB.size = 4 := rfl
    omega
   · exact Nat.zero_le _
  · exact Nat.zero_le _
 · exact Nat.zero_le _
theorem textC_ok {F C : List (List Trm)} {P : List Int} {n : Int} {names : List ByteArray} {b : Bool} (h : (textC names F C P n b).2 = 0) : b = true := by
 unfold textC at h
 split at h
 · next hb => exact hb
 · cases h
theorem crtB_ne {F C : List (List Trm)} {P : List Int} {n : Int} (h : crtB ⟨F, P, n, C⟩ = true) : ∀ p ∈ F, p ≠ [] := fun p hp => by
 have hP := (crtB_fine h).1
 unfold crtB at h
 simp only [Bool.and_eq_true, decide_eq_true_eq, List.all_eq_true] at h
 obtain ⟨k, hk⟩ := List.getElem?_of_mem hp
 obtain ⟨x, hx⟩ := get_of_lt (xs := P) (k := k) (by have := lt_of_get hk; omega)
 have := h.1.2 k (List.mem_range.2 (lt_of_get hk))
 rw [facB_of hx hk] at this
 simp only [Bool.and_eq_true, Bool.not_eq_true', decide_eq_false_iff_not] at this
 exact fun e => this.1.2 (by rw [e]; rfl)
theorem fit_mod {l : List (List Trm)} (h : fitL l = true) : ∀ p ∈ l, ModP p := fun p hp => by
 obtain ⟨h1, h2⟩ := (fitL_mem h).2 p hp
 exact ⟨by omega, fun t ht => by have := h2 t ht; omega⟩
theorem take_ext (s : ByteArray) (a : Nat) : (s.extract 0 a).data.toList = s.data.toList.take a := by rw [Lib.extract_data]; simp
theorem ext_size {s : ByteArray} {a : Nat} (h : a <= s.size) : (s.extract 0 a).size = a := by rw [ByteArray.size_extract]; omega
theorem slice_str_h (s : ByteArray) (a : Nat) (h : a <= s.size) (w : World) : (Instr.slice 9 (.string s) none (some (.int .i64 (a : Int))) none).run Tryz.prog w = .ok (.string (s.extract 0 a)) w := by
 have := run_slice_string_h (P := Tryz.prog) w 9 s Tryz.underlying9 .i64 (a : Int) (by omega) (by omega)
 rw [this]
 rfl
theorem count_take_le (l : List UInt8) (k : Nat) : (l.take k).count 10 <= l.count 10 := by
 conv => rhs; rw [<- List.take_append_drop k l]
 rw [List.count_append]; omega
theorem certificateEnds_crt (F C : List (List Trm)) (P : List Int) (n : Int) (names : List ByteArray) (kv : Nat) (fa wa ca na : Option Addr) (fc wc cc nc : Nat) (w : World) (hkv : kv < 65536) (h1 : PolysR w fa fc F) (h2 : IntsR w wa wc P) (h3 : PolysR w ca cc C) (hn : InInt n)
  (hE : ∀ W, Below w.heap.size w W -> EnvC names na nc W) (hnz : ∀ s ∈ names, s.size <= 1048576) :
  Calls Tryz.prog 10 #[.agg #[.slice fa F.length fc, .slice wa P.length wc, .int .i64 n, .slice ca C.length cc], .slice na names.length nc, .int .u16 (kv : Int)] w fun e w' => e = .returned (.bool true) /\ Below w.heap.size w w' := by
 have CF := fun W (hW : Below w.heap.size w W) => fits30_any F C P n fa wa ca fc wc cc W (h1.ext (xbw hW)) (h2.ext (xbw hW)) (h3.ext (xbw hW))
 obtain ⟨b, hb⟩ : ∃ x, (fitL F && fitL C && decide (P.length <= 6)) = x := ⟨_, rfl⟩
 simp only [hb] at CF
 replace CF := Hd CF
 have C1 := fun (hf : fitL F = true) (hg : fitL C = true) (hl : names.length <= 1000) W (hW : Below w.heap.size w W) => certS_any F C P n names fa wa ca na fc wc cc nc W (h1.ext (xbw hW)) (h2.ext (xbw hW)) (h3.ext (xbw hW)) hn (fitL_fine hf) (fitL_fine hg) (by have := (fitL_mem hf).1; omega) (by have := (fitL_mem hg).1; omega) (hE W hW).1 hl hnz (hE W hW).2.2.2.2
 obtain ⟨cb, hcb⟩ : ∃ x, crtB ⟨F, P, n, C⟩ = x := ⟨_, rfl⟩
 simp only [hcb] at C1
 obtain ⟨T, hT⟩ : ∃ T, textC names F C P n cb = T := ⟨_, rfl⟩
 simp only [hT] at C1
 obtain ⟨s, er⟩ := T
 dsimp only at C1
 have hfin : er = 0 -> fitL F = true -> fitL C = true -> crtB ⟨F, P, n, C⟩ = true /\ s.size <= 800000000 := fun e hf hg => by
  have h0 : (textC names F C P n cb).2 = 0 := by rw [hT]; exact e
  have hcc := hcb.trans (textC_ok h0)
  have := fit_text (b := cb) hnz hf hg hcc
  rw [hT] at this
  exact ⟨hcc, this⟩
 replace C1 := Hd C1; replace hfin := Hd hfin
 have hfit : b = true -> fitL F = true /\ fitL C = true := fun h => by
  rw [<- hb] at h
  simp only [Bool.and_eq_true] at h
  exact h.1
 replace hfit := Hd hfit
 have hlN := (hE w brf).1.len
 have HE := Hd hE; have HNZ := Hd hnz
 replace hT := Hd hT
 clear h1 h2 h3 hE hb hnz hn hcb
 go_enter Tryz.func10, Tryz.ntmps10
 go_wp2_with fail
 refine calls_gen (fun W => Blk W w.heap.size 40 #[.slice fa F.length fc, .slice wa P.length wc, .int .i64 n, .slice ca C.length cc] /\ Below w.heap.size w W) ⟨by ((with_reducible repeat first|assumption|(apply bF;focus omega)|apply bS|(apply bN;focus (simp;done))|apply bA|apply bD);all_goals rfl), by go_grown⟩ ?_
 rintro w0 ⟨h0, hw0⟩
 refine (CF.out w0 hw0).mono ?_
 rintro e w1 ⟨rfl, hb1⟩
 have hw1 := bth hw0 hb1
 replace h0 := h0.below' hb1
 clear hw0 hb1 CF
 cases b
 ·
  go_wp2
  go_ret
  exact ⟨rfl, hw1⟩
 by_cases h8 : 8 < names.length
 ·
  have d8 : decide (8 < names.length) = true := decide_eq_true h8
  go_wp2
  go_ret
  exact ⟨rfl, hw1⟩
 have d8 : decide (8 < names.length) = false := decide_eq_false h8
 obtain ⟨hfF, hfC⟩ := hfit.out rfl
 have D1 := Hd (C1.out hfF hfC (by omega))
 have hfin2 := Hd (fun e => hfin.out e hfF hfC)
 have hfF' := Hd hfF; have hfC' := Hd hfC
 have x0 := h0.cell 0; have x1 := h0.cell 1; have x2 := h0.cell 2; have x3 := h0.cell 3
 clear C1 hfF hfC hfit hfin
 go_wp2_with fail
 refine (D1.out w1 hw1).mono ?_
 rintro e w2 ⟨rfl, hb2⟩
 have hw2 := bth hw1 hb2
 replace h0 := h0.below' hb2
 clear x0 x1 x2 x3 D1 hb2 hw1
 by_cases he : er = 0
 case neg =>
  have hne : (er != 0) = true := by simpa using he
  replace he := Hd he
  clear h0
  go_wp2
  go_ret
  exact ⟨rfl, hw2⟩
 subst he
 obtain ⟨hcr, hss⟩ := hfin2.out rfl
 obtain ⟨c1, c2, c3, c4, c5⟩ := crtB_fine hcr
 have hT0 : (textC names F C P n cb).2 = 0 := by rw [hT.out]
 obtain ⟨ln1, ln2⟩ := textC_lines hT0 (fit_mod hfF'.out) (fit_mod hfC'.out)
 rw [hT.out] at ln1 ln2
 dsimp only at ln1 ln2
 have lf := (fitL_mem hfF'.out).1; have lc := (fitL_mem hfC'.out).1
 obtain ⟨hpos, hrd⟩ := readQ_ends hT0 c2 c1 c5 (crtB_ne hcr) (fun p hp => ⟨by have := (fit_mod hfF'.out p hp).1; omega, short_poly (c3 p hp) (fit_mod hfF'.out p hp).2⟩) (fun p hp => ⟨by have := (fit_mod hfC'.out p hp).1; omega, short_poly (c4 p hp) (fit_mod hfC'.out p hp).2⟩)
 rw [hT.out] at hpos hrd
 dsimp only at hpos hrd
 have hsl : s.data.toList.length = s.size := Array.length_toList
 rw [hsl] at hpos hrd
 have hse : (s.toList == []) = false := by
  rw [toList_data, beq_eq_false_iff_ne]
  intro e
  rw [e] at hsl
  simp at hsl
  omega
 obtain ⟨j, hj⟩ : ∃ j, kv % s.size = j := ⟨_, rfl⟩
 have hjl : j < s.size := by rw [<- hj]; exact Nat.mod_lt _ hpos
 have hmod : (kv : Int).tmod (s.size : Int) = (j : Int) := by rw [<- hj]; rfl
 have hslice := fun W => slice_str_h s j (by omega) W
 have l1 := take_ext s j
 have z1 := ext_size (s := s) (a := j) (by omega)
 have hpre := fun i (hi : i + 1 < (linesL (s.data.toList.take j)).length) => linesL_pre (s.data.toList.take j) (s.data.toList.drop j) i hi
 rw [List.take_append_drop] at hpre
 have hcl := linesL_count (s.data.toList.take j)
 have hcl2 := linesL_count s.data.toList
 have hct := count_take_le s.data.toList j
 have hrj := hrd j hjl
 obtain ⟨t, ht⟩ : ∃ t, s.extract 0 j = t := ⟨_, rfl⟩
 rw [ht] at hslice l1 z1
 rw [<- l1] at hpre hcl hct hrj
 have hfl : (linesL t.data.toList).length <= 16000000 := by omega
 have CR := fun W (hW : Below w.heap.size w W) => certRead_any t names na nc W (fun V hV => HE.out V (bth hW hV)) HNZ.out (by omega) (by omega) hfl (fun i u hu hi => ln1 u (List.mem_of_getElem? ((hpre i hi).trans hu)))
 simp only [hrj] at CR
 have htl : t.data.toList.length = t.size := Array.length_toList
 have hts : t.size <= 800000000 := by omega
 obtain ⟨cnt, hcnt⟩ : ∃ q, t.data.toList.count 10 = q := ⟨_, rfl⟩
 simp only [hcnt] at CR
 have hcm : ∀ i, (t.data.toList.take i).count 10 <= 800000000 := fun i => by
  have := List.count_le_length (a := (10 : UInt8)) (l := t.data.toList.take i)
  rw [List.length_take] at this
  omega
 replace CR := Hd CR; replace hcm := Hd hcm; replace hcnt := Hd hcnt; replace htl := Hd htl; replace z1 := Hd z1
 clear h0 hfin2 ln1 ln2 lf lc c1 c2 c3 c4 c5 hT0 hcr hT hrd hrj hpre hcl hcl2 hct hfl l1 hsl ht hj
 go_wp2
 obtain ⟨wo, hwo⟩ : ∃ W : World, W = w2 := ⟨_, rfl⟩
 rw [<- hwo] at hw2 ⊢
 clear hwo hslice hmod hse
 go_loopg [9, 10, 40] t.size (fun gk s9 _ s40 wr => ∃ k : Nat, Hid (k + gk = t.size) /\ s40 = .int .i64 k /\ s9 = .int .i64 ((1 + (t.data.toList.take k).count 10 : Nat) : Int) /\ Below w.heap.size w wr)
 case atStart => exact ⟨0, by show _ = _; omega, rfl, rfl, hw2⟩
 case round =>
  clear hw2
  obtain ⟨k, hk, rfl, rfl, hwr⟩ := hrel
  by_cases hlt : k < t.size
  ·
   obtain ⟨x, hx⟩ : ∃ x, t[k]'hlt = x := ⟨_, rfl⟩
   have hg : t.data.toList[k]? = some x := by
    rw [<- hx]
    have : k < t.data.toList.length := by rw [htl.out]; exact hlt
    rw [List.getElem?_eq_getElem this]
    rfl
   have hm := take_more hg
   obtain ⟨y, hy⟩ : ∃ y, x.toNat = y := ⟨_, rfl⟩
   have hk0 := hcm.out k
   obtain ⟨q, hq⟩ : ∃ q, (t.data.toList.take k).count 10 = q := ⟨_, rfl⟩
   have hq1 : (t.data.toList.take (k + 1)).count 10 = q + if y = 10 then 1 else 0 := by
    rw [hm, List.count_append, hq]
    congr 1
    by_cases h10 : x = 10
    · subst h10; rw [<- hy]; rfl
    ·
     rw [if_neg (fun e => h10 (UInt8.toNat.inj (by rw [hy, e]; rfl)))]
     simp [List.count_cons, h10]
   rw [hq] at hk0 ⊢
   have hyi : ((t[k]'hlt).toNat : Int) = (y : Int) := by rw [hx, hy]
   by_cases h10 : y = 10
   ·
    rw [if_pos h10] at hq1
    have hyb : ((y : Int) == 10) = true := by rw [beq_iff_eq]; omega
    have hyb2 : (((t[k]'hlt).toNat : Int) == 10) = true := by rw [hyi]; exact hyb
    have hyb3 : ((t[k]'hlt).toNat : Int) = 10 := by omega
    replace hq1 := Hd hq1
    clear hx hg hm hy hq h10 hyi hyb
    go_wp2
    go_roundg (gk - 1)
    case rel => exact ⟨k + 1, by have := hk.out; show _ = _; omega, by go_num, by rw [hq1.out]; go_num, hwr⟩
    case measure => have := hk.out; omega
   ·
    rw [if_neg h10] at hq1
    have hyb2 : (((t[k]'hlt).toNat : Int) == 10) = false := by rw [hyi, beq_eq_false_iff_ne]; omega
    have hyb3 : ¬ ((t[k]'hlt).toNat : Int) = 10 := by omega
    replace hq1 := Hd hq1
    clear hx hg hm hy hq h10 hyi
    go_wp2
    go_roundg (gk - 1)
    case rel => exact ⟨k + 1, by have := hk.out; show _ = _; omega, by go_num, by rw [hq1.out]; go_num, hwr⟩
    case measure => have := hk.out; omega
  ·
   have hkl : k = t.size := by have := hk.out; omega
   subst hkl
   have htk : t.data.toList.take t.size = t.data.toList := List.take_of_length_le (by rw [htl.out]; omega)
   rw [htk, hcnt.out]
   obtain ⟨M, hM⟩ : ∃ M, 1 + cnt = M := ⟨_, rfl⟩
   have CR' := CR.out
   simp only [hM] at CR'
   rw [hM]
   replace CR' := Hd CR'
   clear htk hM CR
   go_wp2_with fail
   refine (CR'.out wr hwr).mono ?_
   rintro e w3 ⟨fb, wb, cb', fd, wd, cd, rfl, hb3, _, _, _⟩
   have hw3 := bth hwr hb3
   clear CR' hb3
   go_wp2
   go_ret
   exact ⟨rfl, hw3.alloc hw3.size _⟩
end Go.Proofs.YtkjnkpkagcboeaaGreatDoor
namespace Go.Proofs.YtkjnkpkagcboeaaGreatDoor
open Go.RowKit Go.WideShapes Go.ChangeAt
theorem certificateEnds_law {v u : Value} {w : World} {m k : Nat} (hk : k < 65536) (h : ∃ (c : Crt) (p : CA), v = c.val p /\ CrtR w p c) (h' : InS30 w u m) (hm : m <= 1048576) (hM : MaxL w) (he : ErrW w) (hy : ErrS w) (ht : TabW w) :
  Calls Tryz.prog 10 #[v, u, .int .u16 (k : Int)] w fun r w' => r = .returned (.bool true) /\ Below w.heap.size w w' := by
 obtain ⟨⟨F, P, n, C⟩, ⟨fa, fc, wa, wc, ca, cc⟩, rfl, h1, h2, h3, h4⟩ := h
 obtain ⟨l, a, c, rfl, h5, h6⟩ := h'
 exact certificateEnds_crt F C P n l k fa wa ca a fc wc cc c w hk h1 h2 h3 h4 (envC_of h5 hM he hy ht) (sum_mem (by omega))
end Go.Proofs.YtkjnkpkagcboeaaGreatDoor
namespace Go.Proofs.YtkjnkpkagcboeaaGreatDoor
open Go.ChangeShapes Go.WideShapes Go.ChangeAt Go.RowKit
theorem trodAll_below {H : Type} {enc : TypeId × Value -> H} {P : Program} (hl : laidOutB P = true) {W W' : World} (hB : Below W.heap.size W W') :
  ∀ (ts : List TypeId) (vs : List Value) (ds : List (DataW H)) (p : List MemPlace), (ts.all fun t => P.readableRec t && decide (t < P.types.size)) = true ->
   (∀ x ∈ p, x.block < W.heap.size) -> DataW.TrodAll enc P W 0 (fun _ => true) true ts vs ds p -> DataW.TrodAll enc P W' 0 (fun b => decide (b < W.heap.size)) true ts vs ds p := by
 intro ts
 induction ts with
 | nil => intro vs ds p _ _ h; cases vs <;> cases ds <;> first | exact h | exact h.elim
 | cons t ts ih =>
  intro vs ds p ha hp h
  cases vs with
  | nil => exact h.elim
  | cons v vs =>
   cases ds with
   | nil => exact h.elim
   | cons d ds =>
    obtain ⟨p1, q1, h1, h2, rfl⟩ := h
    simp only [List.all_cons, Bool.and_eq_true, decide_eq_true_eq] at ha
    exact ⟨p1, q1, Below.trod hl ha.1.1 ha.1.2 h1 hB (fun x hx => hp x (by simp [hx])), ih vs ds q1 ha.2 (fun x hx => hp x (by simp [hx])) h2, rfl⟩
theorem law_post {H : Type} {enc : TypeId × Value -> H} {P : Program} {f : Func} {s : ChangeSpec} {W W' : World} {args : Array Value} {ds gs : List (DataW H)} {before : List MemPlace} {tb : TypeId}
  (hl : laidOutB P = true) (hts : (f.params.toList.all fun t => P.readableRec t && decide (t < P.types.size)) = true) (hr : f.resultTypes = #[tb]) (hb : P.underlying tb = some .bool) (hv : s.vars = [])
  (hW : DataW.Whole enc P f.params.toList s.vars false W args.toList ds gs before) (hfn : s.fn H (ds ++ gs) = { results := [.lit (.bool true)], args := ds, vars := [] })
  (hB : Below W.heap.size W W') : s.post enc P f false true false false W args (.bool true) W' := by
 have hlt := hW.lt
 have hW0 := hW
 obtain ⟨p, q, hA, hV, rfl, _, _⟩ := hW
 rw [hv] at hV
 obtain ⟨rfl, rfl⟩ := trodVars_none hV
 refine ⟨ds, _, _, [], p, [], hW0, ?_, ?_, ?_, hB.frame _, fun h => by cases h⟩
 ·
  rw [hfn, hr]
  exact trodAll_mk1 (shut_bool hb true)
 ·
  rw [hfn]
  exact trodAll_below hl hB _ _ _ _ hts (fun x hx => by simpa using hlt x (by simp [hx])) hA
 ·
  rw [hfn, hv]
  rfl
end Go.Proofs.YtkjnkpkagcboeaaGreatDoor
namespace Go.Proofs.YtkjnkpkagcboeaaGreatDoor.certificateEndsUpto
open Go.ChangeShapes Go.WideShapes Go.ChangeAt Go.RowKit
set_option linter.unusedVariables false
theorem own : ownKnob Tryz.prog.godebug = none := by kernel_rfl
theorem laidOut : laidOutB Tryz.prog = true := by kernel_rfl
theorem readable : (Tryz.f10.params.toList.all fun t => Tryz.prog.readableRec t && decide (t < Tryz.prog.types.size)) = true := by kernel_rfl
theorem table {W : World} (h : laidMetH Tryz.prog Rows.certificateEndsUptoRow.laid W) : TabW W := by
 obtain ⟨ps, ⟨_, _, _, _, _, _, _, _, _, _, h1, _⟩, _⟩ := (show laidMet Tryz.prog Rows.certificateEndsUptoRow.laid W from h)
 obtain ⟨_, _, _, _, _, _, _, _, _, _, h2, _⟩ := h1
 obtain ⟨g', t', cs, fuel, p, q, hg', ht', hvar, hd, _, _⟩ := h2
 obtain rfl := Option.some.inj ((show Tryz.prog.globalNamed "internal/strconv.uint64pow10" = some 1 by kernel_rfl).symm.trans hg')
 obtain rfl := Option.some.inj ((show (Tryz.prog.globals[1]?).map (·.type) = some 213 by kernel_rfl).symm.trans ht')
 unfold TabW Lib.TabIs
 rw [hvar, <- Lib.cells_of_tab (zs := Lib.pow10Tab) (k := .u64) Tryz.underlying213 Tryz.underlying112 (by kernel_rfl) (by kernel_rfl) hd]
theorem errw {W : World} (h : laidMetH Tryz.prog Rows.certificateEndsUptoRow.laid W) : ErrW W := by
 obtain ⟨ps, ⟨_, _, _, _, _, _, _, _, _, _, h1, _⟩, _⟩ := (show laidMet Tryz.prog Rows.certificateEndsUptoRow.laid W from h)
 obtain ⟨_, _, _, _, _, _, _, _, _, _, h2, _⟩ := h1
 obtain ⟨_, _, _, _, _, _, _, _, _, _, h3, _⟩ := h2
 obtain ⟨_, _, _, _, _, _, _, _, _, _, h4, _⟩ := h3
 obtain ⟨g', t', cs, fuel, p, q, hg', ht', hvar, hd, _, _⟩ := h4
 obtain rfl := Option.some.inj ((show Tryz.prog.globalNamed "strconv.ErrRange" = some 5 by kernel_rfl).symm.trans hg')
 obtain rfl := Option.some.inj ((show (Tryz.prog.globals[5]?).map (·.type) = some 65 by kernel_rfl).symm.trans ht')
 obtain ⟨_, u, v, hcs, _, _⟩ := iface_of_trod (name := "*errors.errorString") Tryz.underlying65 hd
 have h0 := World.var?_cell Tryz.lays172.m16 hvar 0
 have h1 : cs[0]? = some (.iface u v) := by rw [<- Array.getElem?_toList, hcs]; rfl
 exact ⟨u, v, h0.trans h1⟩
theorem errs {W : World} (h : laidMetH Tryz.prog Rows.certificateEndsUptoRow.laid W) : ErrS W := by
 obtain ⟨ps, ⟨_, _, _, _, _, _, _, _, _, _, h1, _⟩, _⟩ := (show laidMet Tryz.prog Rows.certificateEndsUptoRow.laid W from h)
 obtain ⟨_, _, _, _, _, _, _, _, _, _, h2, _⟩ := h1
 obtain ⟨_, _, _, _, _, _, _, _, _, _, h3, _⟩ := h2
 obtain ⟨_, _, _, _, _, _, _, _, _, _, h4, _⟩ := h3
 obtain ⟨_, _, _, _, _, _, _, _, _, _, h5, _⟩ := h4
 obtain ⟨g', t', cs, fuel, p, q, hg', ht', hvar, hd, _, _⟩ := h5
 obtain rfl := Option.some.inj ((show Tryz.prog.globalNamed "strconv.ErrSyntax" = some 4 by kernel_rfl).symm.trans hg')
 obtain rfl := Option.some.inj ((show (Tryz.prog.globals[4]?).map (·.type) = some 65 by kernel_rfl).symm.trans ht')
 obtain ⟨_, u, v, hcs, _, _⟩ := iface_of_trod (name := "*errors.errorString") Tryz.underlying65 hd
 have h0 := World.var?_cell Tryz.lays172.m15 hvar 0
 have h1 : cs[0]? = some (.iface u v) := by rw [<- Array.getElem?_toList, hcs]; rfl
 exact ⟨u, v, h0.trans h1⟩
theorem contract (H : Type) (enc : TypeId × Value -> H) (W : World) (base : Nat) (args : Array Value) (ds gs : List (DataW H)) (before : List MemPlace)
  (hval : ∀ (j : Nat) t v, Tryz.f10.params[j]? = some t -> args[j]? = some v -> Value.okWide Tryz.prog W .any base t v)
  (hW : DataW.Whole enc Tryz.prog Tryz.f10.params.toList Rows.certificateEndsSpec.vars false W args.toList ds gs before) (hk : Rows.uptoSmall H (ds ++ gs) = true) (hL : laidMetH Tryz.prog Rows.certificateEndsUptoRow.laid W) (hsh : W.ShapedOpen Tryz.prog) :
  Calls Tryz.prog 10 args W fun e W' => ∃ v, e = .returned v /\ Rows.certificateEndsSpec.post enc Tryz.prog Tryz.f10 false true false false W args v W' := by
 have hW' := hW
 obtain ⟨p, q, hA0, hV, rfl, hfz, hnd⟩ := hW
 have hA : DataW.TrodAll enc Tryz.prog W 0 (fun _ => true) true Tryz.f10.params.toList args.toList ds p := hA0
 rw [Tryz.params10] at hA hval
 obtain ⟨v0, vs0, d0, ds0, p0, q0, hargs, rfl, rfl, h0, r0⟩ := trodAll_cons hA
 obtain ⟨v1, vs1, d1, ds1, p1, q1, rfl, rfl, rfl, h1, r1⟩ := trodAll_cons r0
 obtain ⟨v2, vs2, d2, ds2, p2, q2, rfl, rfl, rfl, h2, r2⟩ := trodAll_cons r1
 obtain ⟨rfl, rfl, rfl⟩ := trodAll_nil r2
 obtain rfl : args = #[v0, v1, v2] := by cases args; simp_all
 obtain ⟨rfl, rfl⟩ := trodVars_none hV
 clear hA0 hA r0 r1 r2
 have hbulk := of_decide_eq_true hk
 simp only [List.cons_append, List.nil_append, Rows.uptoBulkAll] at hbulk
 have hx0 := open_certificate (hval 0 40 v0 rfl rfl) h0
 have hx1 := open_strsa (hval 1 24 v1 rfl rfl) h1
 obtain ⟨a2, rfl, rfl, rfl, wa2⟩ := open_int Tryz.underlying47 (hval 2 47 v2 rfl rfl) h2
 have wb2 := u16_of wa2
 obtain ⟨n2, rfl⟩ : ∃ n : Nat, a2 = n := ⟨a2.toNat, by omega⟩
 refine (certificateEnds_law (show n2 < 65536 by omega) hx0 hx1 (by omega) (MaxL.of hsh) (errw hL) (errs hL) (table hL)).mono fun e W' ⟨he, hg⟩ => ?_
 subst he
 exact ⟨_, rfl, law_post laidOut readable (by kernel_rfl) Tryz.underlying4 rfl hW' (by rfl) hg⟩
noncomputable def laidWorld (os : Os) : World := World.laidAll Tryz.prog os Rows.certificateEndsUptoRow.laid
def wargs : Array Value := #[.agg #[.slice none 0 0, .slice none 0 0, .int .i64 0, .slice none 0 0], .slice none 0 0, .int .u16 0]
theorem laid_met (os : Os) : laidMet Tryz.prog Rows.certificateEndsUptoRow.laid ((laidWorld os).forCall (fun _ _ => 0) ⟨#[], wargs, []⟩).memory :=
 laidMet_laidAll wargs (by kernel_rfl) (by kernel_rfl)
theorem reads (os : Os) {H : Type} (enc : TypeId × Value -> H) : ∃ places, DataW.whole enc Tryz.prog ((laidWorld os).forCall (fun _ _ => 0) ⟨#[], wargs, []⟩).memory Tryz.f10.params.toList Rows.certificateEndsSpec.vars false wargs.toList 8 = some ([.agg [.nil, .nil, .lit (.int .i64 0), .nil], .nil, .lit (.int .u16 0)], [], places) :=
 ⟨[], by kernel_rfl⟩
theorem lifted (os : Os) (started : os.Started) (H : Type) (enc : TypeId × Value -> H) (F : Stop.Interp) :
  ReturnsInHanded {} Tryz.checked os 10 .any ((Rows.OpenSpec.upto Rows.certificateEndsSpec).preRow enc Tryz.prog Tryz.f10 Rows.certificateEndsUptoRow.domain false Rows.certificateEndsUptoRow.laid) (((Rows.OpenSpec.upto Rows.certificateEndsSpec).at F).post enc Tryz.prog Tryz.f10 false true false false) := by
 obtain ⟨places, hx⟩ := reads os enc
 refine returnsInHanded_of_row (C := Tryz.checked) (s := Rows.OpenSpec.upto Rows.certificateEndsSpec) own started (by kernel_rfl) Tryz.func10
  (witness_row_at (enc := enc) (C := Tryz.checked) false (laidWorld os) wargs (World.laidAll_os _ _ _) (by kernel_rfl) (by kernel_rfl) (by kernel_rfl)
   (OpenSpec.preRow_of_cond 8 hx (by kernel_rfl) (fun k hk => by cases hk; kernel_rfl) (by kernel_rfl) (laid_met os))) ?_
 intro W base args ds gs before hval hW _ hcond _ hL hsh _
 exact contract H enc W base args ds gs before hval hW (hcond _ rfl) hL hsh
theorem said : Rows.CertificateEndsUptoSaid :=
 OpenClaim.holds_of_cond 10 Tryz.f10 rfl rfl rfl rfl rfl rfl rfl ⟨rfl, rfl, rfl, rfl, rfl⟩ rfl rfl rfl rfl rfl (by kernel_rfl) Tryz.func10 (by kernel_rfl)
  (of_decide_eq_true (by kernel_rfl)) (by unfold Func.isWrapper; first | (rw [if_pos (by decide +kernel)]; kernel_rfl) | (rw [if_neg (by decide +kernel)]; exact ⟨rfl, rfl⟩))
  (fun os started H enc _ F => by rw [OpenClaim.pre_eq_preRow]; exact lifted os started H enc F)
theorem plain (f : FuncId) (fn : Func) (hf : Tryz.pinned.checked.prog.funcNamed "geoprover/geoproverlaw30.CertificateEnds" = some f) (hfn : Tryz.pinned.checked.prog.funcs[f]? = some fn) :
  true = Tryz.pinned.checked.prog.looks [] /\ ∀ (j : Nat) t, fn.params[j]? = some t -> Tryz.pinned.checked.prog.wantsStandIn t = false := by
 obtain rfl : f = 10 := Option.some.inj ((show Tryz.prog.funcNamed "geoprover/geoproverlaw30.CertificateEnds" = some 10 by kernel_rfl).symm.trans hf) |>.symm
 obtain rfl : fn = Tryz.f10 := (Option.some.inj (Tryz.func10.symm.trans hfn)).symm
 refine ⟨by kernel_rfl, fun j t ht => ?_⟩
 rw [Tryz.params10] at ht
 obtain rfl | rfl | rfl : t = 40 \/ t = 24 \/ t = 47 := by simpa using Array.mem_of_getElem? ht
 · exact (show Tryz.prog.wantsStandIn 40 = false by kernel_rfl)
 · exact (show Tryz.prog.wantsStandIn 24 = false by kernel_rfl)
 · exact (show Tryz.prog.wantsStandIn 47 = false by kernel_rfl)
theorem card : Rows.CertificateEndsUptoCardSaid :=
 Claim7.holds_tied_plain_at .later [] _ _ _ _ said (fun _ h => by cases h) (by kernel_rfl) (fun _ h => by cases h) certificateEndsUpto_row_tie rfl ⟨rfl, rfl⟩ (by kernel_rfl) rfl plain (by kernel_rfl)
#print axioms said
#print axioms card
end Go.Proofs.YtkjnkpkagcboeaaGreatDoor.certificateEndsUpto
