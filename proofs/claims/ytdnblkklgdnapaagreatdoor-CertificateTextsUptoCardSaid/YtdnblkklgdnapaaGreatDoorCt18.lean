/- How an argument that came in is opened: slices of whatever elements, and what they weigh. -/
import Derived.Test.YtdnblkklgdnapaaGreatDoorCt13
import Derived.Test.YtdnblkklgdnapaaGreatDoorCt15
import Derived.Test.YtdnblkklgdnapaaGreatDoorCt16
import Derived.Test.YtdnblkklgdnapaaGreatDoorCt17
import Derived.Test.YtdnblkklgdnapaaGreatDoorCt10
import Derived.Test.YtdnblkklgdnapaaGreatDoorCt1
import Derived.LoopTactic
import Derived.Deep.LoopGhost
import Derived.Test.YtdnblkklgdnapaaGreatDoorRows
set_option linter.all false
set_option maxRecDepth 100000
set_option maxHeartbeats 4000000
namespace Go.Proofs.YtdnblkklgdnapaaGreatDoor
open Go.RowKit
theorem own_one {w : World} {g B : Nat} {x : ByteArray} (h : Blk w g 9 #[.string x]) (hB : B <= g) : OwnS B w (some ⟨g, 0, none⟩) 1 [x] := by
 refine ⟨by rw [flatMap_len strC_len], .inr ⟨g, 1, _, rfl, hB, h, nlr _, by simp [maxLen], by simp, ?_⟩⟩
 simp [strC]
structure FineL (l : List (List Trm)) : Prop where
 right : ∀ p ∈ l, polyB p = true
 few : ∀ p ∈ l, p.length <= 1000
 small : ∀ p ∈ l, ∀ t ∈ p, t.coef.num.length <= 1000 /\ t.coef.den.length <= 1000
theorem FineL.size {l : List (List Trm)} (h : FineL l) {names : List ByteArray} (hn : ∀ s ∈ names, s.size <= 1048576) {p : List Trm} (hp : p ∈ l) : (printP p names).1.size <= 1400000003000 :=
 printP_size (fun t ht => by
  obtain ⟨h1, h2⟩ := polyB_terms (h.right p hp) t ht
  obtain ⟨h3, h4⟩ := h.small p hp t ht
  exact termB_size hn (fun x hx => ((monoB_mem h2).2 x hx).2) (textT_len h1 h3 h4) (monoB_mem h2).1) (h.few p hp)
theorem crtB_fine {F C : List (List Trm)} {P : List Int} {n : Int} (h : crtB ⟨F, P, n, C⟩ = true) : P.length = F.length /\ (1 <= n /\ n <= 64) /\ (∀ p ∈ F, polyB p = true) /\ (∀ p ∈ C, polyB p = true) /\ ∀ x ∈ P, 0 <= x /\ x <= 64 := by
 unfold crtB at h
 simp only [Bool.and_eq_true, decide_eq_true_eq, List.all_eq_true] at h
 obtain ⟨⟨⟨h1, h2⟩, h3⟩, h4⟩ := h
 have key : ∀ (k : Nat) (p : List Trm) (x : Int), F[k]? = some p -> P[k]? = some x -> (0 <= x /\ x <= 64) /\ polyB p = true := fun k p x hp hx => by
  have := h3 k (List.mem_range.2 (lt_of_get hp))
  rw [facB_of hx hp] at this
  simp only [Bool.and_eq_true, decide_eq_true_eq] at this
  exact ⟨this.1.1, this.2⟩
 refine ⟨h1, h2, fun p hp => ?_, h4, fun x hx => ?_⟩
 ·
  obtain ⟨k, hk⟩ := List.getElem?_of_mem hp
  obtain ⟨x, hx⟩ := get_of_lt (xs := P) (k := k) (by have := lt_of_get hk; omega)
  exact (key k p x hk hx).2
 ·
  obtain ⟨k, hk⟩ := List.getElem?_of_mem hx
  obtain ⟨p, hp⟩ := get_of_lt (xs := F) (k := k) (by have := lt_of_get hk; omega)
  exact (key k p x hp hk).1
theorem certS_any (F C : List (List Trm)) (P : List Int) (n : Int) (names : List ByteArray) (fa wa ca na : Option Addr) (fc wc cc nc : Nat) (w : World) (h1 : PolysR w fa fc F) (h2 : IntsR w wa wc P) (h3 : PolysR w ca cc C) (hn : InInt n)
  (hF : ∀ p ∈ F, p.length <= 1000 /\ ∀ t ∈ p, t.coef.num.length <= 1000 /\ t.coef.den.length <= 1000) (hC : ∀ p ∈ C, p.length <= 1000 /\ ∀ t ∈ p, t.coef.num.length <= 1000 /\ t.coef.den.length <= 1000) (hlF : F.length <= 10) (hlC : C.length <= 10)
  (hN : StrsR w na nc names) (hnl : names.length <= 1000) (hnz : ∀ s ∈ names, s.size <= 1048576) (ht : TabW w) :
  Calls Tryz.prog 8 #[.agg #[.slice fa F.length fc, .slice wa P.length wc, .int .i64 n, .slice ca C.length cc], .slice na names.length nc] w fun e w' => e = .returned (.tuple #[.string (textC names F C P n (crtB ⟨F, P, n, C⟩)).1, .int .i64 (textC names F C P n (crtB ⟨F, P, n, C⟩)).2]) /\ Below w.heap.size w w' := by
 have CR := fun W (hW : Below w.heap.size w W) => crtP_any F C P n fa wa ca fc wc cc W (h1.ext (xbw hW)) (h2.ext (xbw hW)) (h3.ext (xbw hW)) hn (fun p hp t ht => by have := (hF p hp).2 t ht; omega) (fun p hp t ht => by have := (hC p hp).2 t ht; omega)
 have HF := Hd (fun W (hW : Below w.heap.size w W) => h1.ext (xbw hW))
 have HP := Hd (fun W (hW : Below w.heap.size w W) => h2.ext (xbw hW))
 have HC := Hd (fun W (hW : Below w.heap.size w W) => h3.ext (xbw hW))
 have HN := Hd (fun W (hW : Below w.heap.size w W) => hN.ext (xbw hW))
 have HT := Hd (fun W (hW : Below w.heap.size w W) => ht.below hW)
 have HNZ := Hd hnz
 obtain ⟨bc, hbc⟩ : ∃ b, crtB ⟨F, P, n, C⟩ = b := ⟨_, rfl⟩
 rw [hbc]
 simp only [hbc] at CR
 obtain ⟨R, hR⟩ : ∃ r, textC names F C P n bc = r := ⟨_, rfl⟩
 rw [hR]
 unfold textC at hR
 have hfine := fun (h : bc = true) => crtB_fine (hbc.trans h)
 replace CR := Hd CR; replace hfine := Hd hfine
 have HFQ := Hd hF; have HCQ := Hd hC
 clear h1 h2 h3 hN hnz ht hbc hF hC
 go_enter Tryz.func8, Tryz.ntmps8
 go_wp2_with fail
 refine calls_gen (fun W => Blk W w.heap.size 25 #[.slice fa F.length fc, .slice wa P.length wc, .int .i64 n, .slice ca C.length cc] /\ Below w.heap.size w W) ⟨by ((with_reducible repeat first|assumption|(apply bF;focus omega)|apply bS|(apply bN;focus (simp;done))|apply bA|apply bD);all_goals rfl), by go_grown⟩ ?_
 rintro w0 ⟨h0, hw0⟩
 refine (CR.out w0 hw0).mono ?_
 rintro e w1 ⟨rfl, hb1⟩
 have hw1 := bth hw0 hb1
 replace h0 := h0.below' hb1
 clear hw0 hb1 CR
 cases bc
 ·
  have hfin := Hd (show R = (⟨#[]⟩, 1) from hR.symm)
  clear hR hfine h0
  go_wp2
  go_ret2
  exact ⟨by rw [hfin.out]; rfl, hw1⟩
 obtain ⟨hPF0, ⟨hn1, hn2⟩, hrF, hrC, hPx⟩ := hfine.out rfl
 have hPF := Hd hPF0
 clear hPF0
 have FF := Hd (FineL.mk hrF (fun p hp => (HFQ.out p hp).1) (fun p hp => (HFQ.out p hp).2))
 have FC := Hd (FineL.mk hrC (fun p hp => (HCQ.out p hp).1) (fun p hp => (HCQ.out p hp).2))
 have HPX := Hd hPx
 rw [if_pos rfl] at hR
 obtain ⟨pn, rfl⟩ : ∃ pn : Nat, n = (pn : Int) := ⟨n.toNat, by omega⟩
 clear hrF hrC hPx hfine HFQ HCQ hn
 have x2 := h0.cell 2
 have hl0 := digs_1m (pn : Int) (by omega)
 rw [Int.toNat_natCast, <- ofL_size] at hl0
 have hz1 : (6 : Nat) + (ofL (textN pn)).size <= 20 := by omega
 have CI := Hd (itoaN_any pn w1 (HT.out w1 hw1) (by omega))
 go_wp2_with fail
 refine CI.out.mono ?_
 rintro e w2 ⟨rfl, hb2⟩
 have hw2 := bth hw1 hb2
 replace h0 := h0.below' hb2
 have y0 := h0.cell 0
 clear x2 CI hb2 hw1
 have gl0 := h0.lt
 have hs2 := hw2.size
 go_wp2
 refine world_gen (fun W => Blk W w2.heap.size 9 #[.string (⟨#[112, 111, 119, 101, 114, 32]⟩ ++ ofL (textN pn))] /\ Blk W w.heap.size 25 #[.slice fa F.length fc, .slice wa P.length wc, .int .i64 (pn : Int), .slice ca C.length cc] /\ Below w.heap.size w W) (by refine ⟨?_,?_,?_⟩<;>first|((with_reducible repeat first|assumption|(apply bF;focus omega)|apply bS|(apply bN;focus (simp;done))|apply bA|apply bD);all_goals rfl)|go_grown) ?_
 rintro w3 ⟨hr, h1, hw3⟩
 have hO0 := own_one (x := ln0 (pn : Int)) (B := w.heap.size + 1) hr (by omega)
 clear h0 y0 hr gl0 hs2 hw2
 have hlF1 : lnsF names F P (pn : Int) 0 = [ln0 (pn : Int)] := by simp [lnsF]
 replace hlF1 := Hd hlF1
 obtain ⟨g2, hg2⟩ : ∃ q, w2.heap.size = q := ⟨_, rfl⟩
 rw [hg2] at hO0 ⊢
 clear hg2 hl0 hz1
 go_loopg [6, 7, 8, 9, 10, 26, 31] F.length (fun g s6 _ _ _ _ s26 _ wr => ∃ (k : Nat) (a2 : Option Addr) (c2 : Nat), Hid (k + g = F.length) /\ s26 = .int .i64 k /\ s6 = .slice a2 (lnsF names F P (pn : Int) k).length c2 /\ OwnS (w.heap.size + 1) wr a2 c2 (lnsF names F P (pn : Int) k) /\ Blk wr w.heap.size 25 #[.slice fa F.length fc, .slice wa P.length wc, .int .i64 (pn : Int), .slice ca C.length cc] /\ Hid (errL names F = errL names (F.drop k)) /\ Below w.heap.size w wr)
 case atStart => exact ⟨0, some ⟨g2, 0, none⟩, 1, by show _ = _; omega, rfl, by rw [hlF1.out]; rfl, by rw [hlF1.out]; exact hO0, h1, rfl, hw3⟩
 case round =>
  clear hO0 h1 hw3
  obtain ⟨k, a2, c2, hk, rfl, rfl, hO, h0, her, hwr⟩ := hrel
  have HO := Hd hO
  clear hO
  by_cases hlt : k < F.length
  ·
   obtain ⟨p, hp⟩ := get_of_lt hlt
   have hpm := List.mem_of_getElem? hp
   obtain ⟨x, hx⟩ := get_of_lt (xs := P) (k := k) (by have := hPF.out; omega)
   obtain ⟨hx0, hx1⟩ := HPX.out x (List.mem_of_getElem? hx)
   obtain ⟨bf, of, rfl, ap, cp, hcf, hPR⟩ := (HF.out wr hwr).2.2 k p hp
   simp only [Nat.mul_one] at hcf
   obtain ⟨bx, ox, rfl, hcx, hxw⟩ := (HP.out wr hwr).2.2 k x hx
   simp only [Nat.mul_one] at hcx
   obtain ⟨xn, rfl⟩ : ∃ xn : Nat, x = (xn : Int) := ⟨x.toNat, by omega⟩
   have CP := printS_any p names ap na cp nc wr hPR (FF.out.small p hpm) (FF.out.few p hpm) (HN.out wr hwr) hnl HNZ.out (HT.out wr hwr)
   have hps := FF.out.size HNZ.out hpm
   have hel := errL_at (names := names) hp
   have hls := lnsF_succ (names := names) (n := (pn : Int)) hp hx
   unfold lnF at hls
   obtain ⟨pr, hpr⟩ : ∃ r, printP p names = r := ⟨_, rfl⟩
   rw [hpr] at CP hps hel hls
   obtain ⟨ts, te⟩ := pr
   dsimp only at CP hps hel hls
   replace CP := Hd CP; replace hel := Hd (her.out.trans hel); replace hls := Hd hls
   have hkx : k < P.length := by have := hPF.out; omega
   clear hpr hp hx hxw hPR hpm her
   go_wp2_with fail
   refine CP.out.mono ?_
   rintro e w4 ⟨rfl, hb4⟩
   have hw4 := bth hwr hb4
   have HO4 := Hd (HO.out.below hb4)
   replace h0 := h0.below' hb4
   have hcx4 := held hcx w4 hb4
   have y1 := h0.cell 1
   clear CP HO hcx hcf
   by_cases he : te = 0
   ·
    subst he
    have hne : ((0 : Int) != 0) = false := rfl
    have HE := Hd (show errL names F = errL names (F.drop (k + 1)) from hel.out.trans (if_pos rfl))
    have CI := Hd (itoaN_any xn w4 (HT.out w4 hw4) (by omega))
    have hl0 := digs_1m (xn : Int) (by omega)
    rw [Int.toNat_natCast, <- ofL_size] at hl0
    clear hel
    go_wp2_with fail
    refine CI.out.mono ?_
    rintro e w5 ⟨rfl, hb5⟩
    have hw5 := bth hw4 hb5
    have HO5 := Hd (HO4.out.below hb5)
    replace h0 := h0.below' hb5
    obtain ⟨T, hT⟩ : ∃ T, ofL (textN xn) = T := ⟨_, rfl⟩
    rw [Int.toNat_natCast, hT] at hls
    rw [hT] at hl0 ⊢
    have z1 : 7 + T.size <= 17 := by omega
    have z2 : 7 + T.size + 1 <= 18 := by omega
    have z3 : 7 + T.size + 1 + ts.size <= 1400000003018 := by omega
    have z4 : ¬ 9223372036854775807 < 7 + T.size := by omega
    have z5 : ¬ 9223372036854775807 < 7 + T.size + 1 := by omega
    have z6 : ¬ 9223372036854775807 < 7 + T.size + 1 + ts.size := by omega
    have hln := Hd (lnsF_len names F P (pn : Int) k)
    clear CI HO4 hb5 hT
    have HLE : Hid ((lnsF names F P (pn : Int) k ++ [⟨#[102, 97, 99, 116, 111, 114, 32]⟩ ++ T ++ ⟨#[32]⟩ ++ ts]).length <= 16777216) := Hd (by rw [List.length_append, hln.out]; simp; omega)
    go_wp2_with (at_builtin; go_must (refine append_str rfl (.tmp 40) (.tmp 51) rfl a2 c2 rfl (HO5.out.alloc _) (⟨#[102, 97, 99, 116, 111, 114, 32]⟩ ++ T ++ ⟨#[32]⟩ ++ ts) w5.heap.size 1 rfl (by simp) (lnsF names F P (pn : Int) k ++ [⟨#[102, 97, 99, 116, 111, 114, 32]⟩ ++ T ++ ⟨#[32]⟩ ++ ts]) rfl HLE.out (by have := h0.lt; simp; omega) ?_); intro a3 c3 w6 ho3 hg3 hx3)
    have hw6 := below_append' (hw5.alloc hw5.size _) ((HO5.out.alloc _).base (Nat.le_succ _)) hg3
    have h6 := (h0.alloc (.cells #[.string (⟨#[102, 97, 99, 116, 111, 114, 32]⟩ ++ T ++ ⟨#[32]⟩ ++ ts)] 9)).under HO5.out (Nat.lt_succ_self _) hg3
    rw [<- hls.out] at ho3
    replace ho3 := Hd ho3
    clear hx3 hg3 HO5 h0 hw5
    go_roundg (gk - 1)
    case rel => exact ⟨k + 1, a3, c3, by have := hk.out; show _ = _; omega, by go_num, by rw [hls.out, List.length_append]; rfl, ho3.out, h6, HE, hw6⟩
    case measure => have := hk.out; omega
   ·
    have hne : (te != 0) = true := by simpa using he
    have HE : errL names F ≠ 0 := by rw [hel.out, if_neg he]; exact he
    have hfin := Hd (show R = (⟨#[]⟩, te) by rw [<- hR, if_neg HE, hel.out, if_neg he])
    clear hR HE he hel
    go_wp2
    go_ret2
    exact ⟨by rw [hfin.out]; rfl, hw4⟩
  ·
   have hkl : k = F.length := by have := hk.out; omega
   subst hkl
   rw [errL_end] at her
   rw [if_pos her.out] at hR
   obtain ⟨w3, rfl⟩ : ∃ W, W = wr := ⟨_, rfl⟩
   have x3 := h0.cell 3
   have HE0 := Hd (lnsC_zero names F C P (pn : Int))
   clear hk her
   go_wp2
   go_loopg [6, 12, 13, 14, 57, 61] C.length (fun g s6 _ _ _ s57 _ wr => ∃ (k : Nat) (a2 : Option Addr) (c2 : Nat), Hid (k + g = C.length) /\ s57 = .int .i64 k /\ s6 = .slice a2 (lnsC names F C P (pn : Int) k).length c2 /\ OwnS w.heap.size wr a2 c2 (lnsC names F C P (pn : Int) k) /\ Hid (errL names C = errL names (C.drop k)) /\ Below w.heap.size w wr)
   case atStart => exact ⟨0, a2, c2, by show _ = _; omega, rfl, by rw [HE0.out], by rw [HE0.out]; exact HO.out.base (Nat.le_succ _), rfl, hwr⟩
   case round =>
    clear HO h0 x3 hwr
    obtain ⟨k, a2, c2, hk, rfl, rfl, hO, her, hwr⟩ := hrel
    have HO := Hd hO
    clear hO
    by_cases hlt : k < C.length
    ·
     obtain ⟨p, hp⟩ := get_of_lt hlt
     have hpm := List.mem_of_getElem? hp
     obtain ⟨bf, of, rfl, ap, cp, hcf, hPR⟩ := (HC.out wr hwr).2.2 k p hp
     simp only [Nat.mul_one] at hcf
     have CP := printS_any p names ap na cp nc wr hPR (FC.out.small p hpm) (FC.out.few p hpm) (HN.out wr hwr) hnl HNZ.out (HT.out wr hwr)
     have hps := FC.out.size HNZ.out hpm
     have hel := errL_at (names := names) hp
     have hls := lnsC_succ (names := names) (F := F) (P := P) (n := (pn : Int)) hp
     unfold lnC at hls
     obtain ⟨pr, hpr⟩ : ∃ r, printP p names = r := ⟨_, rfl⟩
     rw [hpr] at CP hps hel hls
     obtain ⟨ts, te⟩ := pr
     dsimp only at CP hps hel hls
     replace CP := Hd CP; replace hel := Hd (her.out.trans hel); replace hls := Hd hls
     clear hpr hp hPR hpm her
     go_wp2_with fail
     refine CP.out.mono ?_
     rintro e w4 ⟨rfl, hb4⟩
     have hw4 := bth hwr hb4
     have HO4 := Hd (HO.out.below hb4)
     clear CP HO hcf
     by_cases he : te = 0
     ·
      subst he
      have hne : ((0 : Int) != 0) = false := rfl
      have HE := Hd (show errL names C = errL names (C.drop (k + 1)) from hel.out.trans (if_pos rfl))
      have z1 : 9 + ts.size <= 1400000003018 := by omega
      have z2 : ¬ 9223372036854775807 < 9 + ts.size := by omega
      have hln := Hd (lnsC_len names F C P (pn : Int) k)
      have HLE : Hid ((lnsC names F C P (pn : Int) k ++ [⟨#[99, 111, 102, 97, 99, 116, 111, 114, 32]⟩ ++ ts]).length <= 16777216) := Hd (by rw [List.length_append, hln.out]; simp; omega)
      clear hel
      go_wp2_with (at_builtin; go_must (refine append_str rfl (.tmp 70) (.tmp 73) rfl a2 c2 rfl (HO4.out.alloc _) (⟨#[99, 111, 102, 97, 99, 116, 111, 114, 32]⟩ ++ ts) w4.heap.size 1 rfl (by simp) (lnsC names F C P (pn : Int) k ++ [⟨#[99, 111, 102, 97, 99, 116, 111, 114, 32]⟩ ++ ts]) rfl HLE.out (by have := hw4.size; simp; omega) ?_); intro a3 c3 w6 ho3 hg3 hx3)
      have hw6 := below_append' (hw4.alloc hw4.size _) (HO4.out.alloc _) hg3
      rw [<- hls.out] at ho3
      replace ho3 := Hd ho3
      clear hx3 hg3 HO4 hw4
      go_roundg (gk - 1)
      case rel => exact ⟨k + 1, a3, c3, by have := hk.out; show _ = _; omega, by go_num, by rw [hls.out, List.length_append]; rfl, ho3.out, HE, hw6⟩
      case measure => have := hk.out; omega
     ·
      have hne : (te != 0) = true := by simpa using he
      have HE : errL names C ≠ 0 := by rw [hel.out, if_neg he]; exact he
      have hfin := Hd (show R = (⟨#[]⟩, te) by rw [<- hR, if_neg HE, hel.out, if_neg he])
      clear hR HE he hel
      go_wp2
      go_ret2
      exact ⟨by rw [hfin.out]; rfl, hw4⟩
    ·
     have hkl : k = C.length := by have := hk.out; omega
     subst hkl
     rw [errL_end] at her
     rw [if_pos her.out] at hR
     have hsh := lnsC_short (names := names) (F := F) (C := C) (P := P) (n := (pn : Int)) (fun p hp => FF.out.size HNZ.out hp) (fun p hp => FC.out.size HNZ.out hp) (fun x hx => (HPX.out x hx).2) hPF.out (by omega) C.length (nlr _)
     have hcs := catL_size hsh
     have hln := lnsC_len names F C P (pn : Int) C.length
     have hcj := catL_join (lnsC names F C P (pn : Int) C.length) (by intro e; rw [e] at hln; simp at hln; omega)
     have hcz : (catL (lnsC names F C P (pn : Int) C.length)).size <= 21 * 1400000003101 := Nat.le_trans hcs (Nat.mul_le_mul_right _ (by omega))
     rw [<- hcj, ByteArray.size_append] at hcz
     have CJ := Hd (join_any (lnsC names F C P (pn : Int) C.length) nlB a2 c2 wr HO.out.reads1 (by omega) (by omega))
     obtain ⟨J, hJ⟩ : ∃ J, joinB (lnsC names F C P (pn : Int) C.length) nlB = J := ⟨_, rfl⟩
     rw [hJ] at CJ hcj hcz
     have z1 : J.size + 5 <= 29400000065200 := by omega
     have z2 : ¬ 9223372036854775807 < J.size + 5 := by omega
     have hfin := Hd (show R = (J ++ ⟨#[10, 101, 110, 100, 10]⟩, 0) by
      rw [<- hR, <- hcj, ba_assoc]; rfl)
     clear hR hcj hcz hcs hsh hln hJ her
     go_wp2_with fail
     refine CJ.out.mono ?_
     rintro e w4 ⟨rfl, hb4⟩
     have hw4 := bth hwr hb4
     clear CJ
     go_wp2
     go_ret2
     exact ⟨by rw [hfin.out]; rfl, hw4⟩
theorem errNm_ne {names : List ByteArray} (h : errNm names = 0) : ∀ s ∈ names, s.size ≠ 0 := fun s hs h0 => by
 unfold errNm at h
 split at h
 ·
  next ha =>
  rw [List.all_eq_true] at ha
  have h1 := ha s hs
  rw [size_zero.1 h0] at h1
  cases h1
 · cases h
theorem bigB_succ {l : List Trm} {n k : Nat} {t : Trm} (ht : l[k]? = some t) : bigB (l.take (k + 1)) n = (bigB (l.take k) n || decide (n < t.mono.length)) := by
 unfold bigB; rw [take_more ht, List.any_append]; simp
theorem printR_any (l : List Trm) (names : List ByteArray) (a na : Option Addr) (c nc : Nat) (w : World) (h : PolyR w a c l) (hq : ∀ t ∈ l, t.coef.num.length <= 1000 /\ t.coef.den.length <= 1000) (hl : l.length <= 1000)
  (hn : StrsR w na nc names) (hnl : names.length <= 1000) (hnz : ∀ s ∈ names, s.size <= 1048576) :
  Calls Tryz.prog 28 #[.slice a l.length c, .slice na names.length nc] w fun e w' => e = .returned (.tuple #[.string (printP l names).1, .int .i64 (printP l names).2]) /\ Below w.heap.size w w' := by
 have CR := polyR_any l a c w h (fun t ht => by have := hq t ht; omega)
 have CK := fun W (hW : Below w.heap.size w W) => checkR_any names na nc W (hn.ext (xbw hW)) hnz (by omega)
 have HP := Hd (fun W (hW : Below w.heap.size w W) => h.ext (xbw hW))
 have HN := Hd (fun W (hW : Below w.heap.size w W) => hn.ext (xbw hW))
 have HQ := Hd hq; have HNZ := Hd hnz
 obtain ⟨R, hR⟩ : ∃ r, printP l names = r := ⟨_, rfl⟩
 rw [hR]
 unfold printP at hR
 clear h hq hn hnz
 cases hpb : polyB l
 ·
  rw [hpb] at CR hR
  have hfin := Hd (show R = (⟨#[]⟩, 1) from hR.symm)
  replace CR := Hd CR
  clear hpb hR CK
  go_enter Tryz.func28, Tryz.ntmps28
  go_wp2_with fail
  refine CR.out.mono ?_
  rintro e w1 ⟨rfl, hb1⟩
  go_wp2
  go_ret2
  exact ⟨by rw [hfin.out]; rfl, hb1⟩
 rw [hpb] at CR hR
 have HPB := Hd (polyB_terms hpb)
 rw [if_pos rfl] at hR
 replace CR := Hd CR
 clear hpb
 obtain ⟨er, her⟩ : ∃ e, errNm names = e := ⟨_, rfl⟩
 simp only [her] at CK hR
 replace CK := Hd CK
 by_cases he : er = 0
 ·
  subst he
  rw [if_pos rfl] at hR
  have HNE := Hd (errNm_ne her)
  replace hR := Hd hR
  clear her
  go_enter Tryz.func28, Tryz.ntmps28
  go_wp2_with fail
  refine CR.out.mono ?_
  rintro e w1 ⟨rfl, hb1⟩
  go_wp2_with fail
  refine (CK.out w1 hb1).mono ?_
  rintro e w2 ⟨rfl, hb2⟩
  have hw2 := bth hb1 hb2
  clear CR CK hb1 hb2
  go_wp2
  go_loopg [7] l.length (fun g s7 wr => ∃ k : Nat, Hid (k + g = l.length) /\ s7 = .int .i64 k /\ Hid (bigB (l.take k) names.length = false) /\ Below w.heap.size w wr)
  case atStart => exact ⟨0, by show _ = _; omega, rfl, rfl, hw2⟩
  case round =>
   clear hw2
   obtain ⟨k, hk, rfl, hbk, hwr⟩ := hrel
   by_cases hlt : k < l.length
   ·
    obtain ⟨t, ht⟩ := get_of_lt hlt
    have hp0 := HP.out w brf
    obtain ⟨b, o, rfl, p, hC0, hR0⟩ := hp0.2.2 k t ht
    have d3 := held hC0.2.2.2 wr hwr
    have hsu := bigB_succ (n := names.length) ht
    rw [hbk.out, Bool.false_or] at hsu
    have hbig := fun (h : names.length < t.mono.length) => (show bigB l names.length = true by unfold bigB; rw [List.any_eq_true]; exact ⟨t, List.mem_of_getElem? ht, by simpa using h⟩)
    replace hsu := Hd hsu
    clear hp0 hC0 hR0 ht
    by_cases hbg : names.length < t.mono.length
    ·
     have hd : decide (names.length < t.mono.length) = true := decide_eq_true hbg
     have hfin := Hd (show R = (⟨#[]⟩, 6) by rw [<- hR.out, if_pos (hbig hbg)])
     clear hbig hbg hsu
     go_wp2
     go_ret2
     exact ⟨by rw [hfin.out]; rfl, hwr⟩
    ·
     have hd : decide (names.length < t.mono.length) = false := decide_eq_false hbg
     have hs2 := Hd (show bigB (l.take (k + 1)) names.length = false by rw [hsu.out, hd])
     clear hbig hbg hsu
     go_wp2
     go_roundg (gk - 1)
     case rel => exact ⟨k + 1, by have := hk.out; show _ = _; omega, by go_num, hs2.out, hwr⟩
     case measure => have := hk.out; omega
   ·
    have hbg : bigB l names.length = false := by have := hbk.out; rwa [take_all hlt] at this
    have hR2 := hR.out
    rw [if_neg (by rw [hbg]; simp)] at hR2
    replace hbg := Hd hbg
    clear hR hbk hk
    obtain ⟨w3, rfl⟩ : ∃ W, W = wr := ⟨_, rfl⟩
    by_cases hl0 : l.length = 0
    ·
     have hl1 : ((l.length : Int) == 0) = true := by rw [beq_iff_eq]; omega
     have hfin := Hd (show R = (⟨#[48]⟩, 0) by rw [<- hR2, if_pos hl0])
     clear hR2 hl0
     go_wp2
     go_ret2
     exact ⟨by rw [hfin.out]; rfl, hwr⟩
    have hl1 : ((l.length : Int) == 0) = false := by rw [beq_eq_false_iff_ne]; omega
    have hfin := Hd (show R = (polyTo l names l.length, 0) by rw [<- hR2, if_neg hl0])
    clear hR2 hl0
    go_wp2
    go_loopg [8, 9, 10] l.length (fun g s8 s9 _ w4 => ∃ k : Nat, Hid (k + g = l.length) /\ s9 = .int .i64 k /\ s8 = .string (polyTo l names k) /\ Below w.heap.size w w4)
    case atStart => exact ⟨0, by show _ = _; omega, rfl, rfl, hwr⟩
    case round =>
     clear hwr
     obtain ⟨k, hk, rfl, rfl, hwr⟩ := hrel
     by_cases hlt : k < l.length
     ·
      obtain ⟨t, ht⟩ := get_of_lt hlt
      have htl := List.mem_of_getElem? ht
      have hp0 := HP.out w brf
      obtain ⟨b, o, rfl, p, hC0, hR0⟩ := hp0.2.2 k t ht
      obtain ⟨c0, c1, c2, c3⟩ := hC0
      have HR := Hd (fun W (hW : Below w.heap.size w W) => PartsR.ext hR0 (xbw hW))
      have HC := Hd (fun W (hW : Below w.heap.size w W) => cofA_qk (HR.out W hW) (HPB.out t htl).1 (HQ.out t htl).1 (HQ.out t htl).2)
      have htm := monoB_mem (HPB.out t htl).2
      have htn := bigB_le hbg.out htl
      have HTS := Hd (termB_size HNZ.out (fun x hx => (htm.2 x hx).2) (textT_len (HPB.out t htl).1 (HQ.out t htl).1 (HQ.out t htl).2) htm.1)
      have hplen : (polyTo l names k).size <= 1000 * (1400000000 + 3) := by
       have e1 := polyTo_size (l := l) (names := names) (M := 1400000000) (fun u hu => termB_size HNZ.out (fun x hx => ((monoB_mem (HPB.out u hu).2).2 x hx).2) (textT_len (HPB.out u hu).1 (HQ.out u hu).1 (HQ.out u hu).2) (monoB_mem (HPB.out u hu).2).1) k
       exact Nat.le_trans e1 (Nat.mul_le_mul_right _ (by omega))
      have ht2 := Hd ht
      have hsl := sgnQ_lt2 t.coef.q
      have htm2 := Hd htm
      have d0 := held c0 wr hwr; have d1 := held c1 wr hwr; have d2 := held c2 wr hwr; have d3 := held c3 wr hwr
      clear hp0 hR0 ht htl htm
      go_wp2_with fail
      refine (signR_q (cofA t p) t.coef.q 1000 wr (HC.out wr hwr) (by omega)).mono ?_
      rintro e w4 ⟨rfl, hb4⟩
      have hw4 := bth hwr hb4
      have k0 := held c0 w4 hw4; have k1 := held c1 w4 hw4; have k2 := held c2 w4 hw4; have k3 := held c3 w4 hw4
      obtain ⟨sg, hsg2⟩ : ∃ r, sgnQ t.coef.q = r := ⟨_, rfl⟩
      rw [hsg2] at hsl ⊢
      obtain ⟨P, hP⟩ : ∃ P, polyTo l names k = P := ⟨_, rfl⟩
      rw [hP] at hplen ⊢
      have hn3 : ¬ 9223372036854775807 < P.size + 3 := by omega
      have hn4 : ¬ 9223372036854775807 < P.size + 1 := by omega
      have hn3' : P.size + 3 <= 1400000004000 := by omega
      have hn4' : P.size + 1 <= 1400000004000 := by omega
      clear d0 d1 d2 d3 c0 c1 c2 c3 hb4 hwr hsg2
      by_cases hq : t.coef.q < 0
      ·
       rw [decide_eq_true hq] at hsl
       have hsi : sg < 0 := of_decide_eq_true hsl
       by_cases h0 : k = 0
       ·
        have hk1 : decide (0 < k) = false := by rw [decide_eq_false]; omega
        have hsg := Hd (show signP k t.coef.q = ⟨#[45]⟩ by unfold signP; rw [if_pos h0, if_pos hq])
        clear hsl hq h0
        have CT := Hd (termR_any (cofA t p) t.coef.q t.mono names p.aa na p.ac nc 1000 w4 (HC.out w4 hw4) (by omega) (HR.out w4 hw4).1 (HN.out w4 hw4) htn htm2.out.1 htm2.out.2 HNZ.out HNE.out)
        go_wp2_with fail
        refine CT.out.mono ?_
        rintro e w6 ⟨rfl, hb6⟩
        have hw6 := bth hw4 hb6
        obtain ⟨tb, htb⟩ : ∃ x, termB t.coef.q t.mono names = x := ⟨_, rfl⟩
        have hts := HTS.out
        rw [htb] at hts ⊢
        have hps2 : polyTo l names k ++ signP k t.coef.q ++ tb = polyTo l names (k + 1) := by rw [<- htb]; exact (polyTo_succ ht2.out).symm
        rw [hsg.out, hP] at hps2
        have hn5 : ¬ 9223372036854775807 < P.size + 1 + tb.size := by omega
        have hn6 : P.size + 1 + tb.size <= 1401400004000 := by omega
        replace hps2 := Hd hps2
        clear CT hb6 htb
        go_wp2
        go_roundg (gk - 1)
        case rel => exact ⟨k + 1, by have := hk.out; show _ = _; omega, by go_num, by rw [hps2.out], hw6⟩
        case measure => have := hk.out; omega
       ·
        have hk1 : decide (0 < k) = true := by rw [decide_eq_true_eq]; omega
        have hsg := Hd (show signP k t.coef.q = ⟨#[32, 45, 32]⟩ by unfold signP; rw [if_neg h0, if_pos hq])
        clear hsl hq h0
        have CT := Hd (termR_any (cofA t p) t.coef.q t.mono names p.aa na p.ac nc 1000 w4 (HC.out w4 hw4) (by omega) (HR.out w4 hw4).1 (HN.out w4 hw4) htn htm2.out.1 htm2.out.2 HNZ.out HNE.out)
        go_wp2_with fail
        refine CT.out.mono ?_
        rintro e w6 ⟨rfl, hb6⟩
        have hw6 := bth hw4 hb6
        obtain ⟨tb, htb⟩ : ∃ x, termB t.coef.q t.mono names = x := ⟨_, rfl⟩
        have hts := HTS.out
        rw [htb] at hts ⊢
        have hps2 : polyTo l names k ++ signP k t.coef.q ++ tb = polyTo l names (k + 1) := by rw [<- htb]; exact (polyTo_succ ht2.out).symm
        rw [hsg.out, hP] at hps2
        have hn5 : ¬ 9223372036854775807 < P.size + 3 + tb.size := by omega
        have hn6 : P.size + 3 + tb.size <= 1401400004000 := by omega
        replace hps2 := Hd hps2
        clear CT hb6 htb
        go_wp2
        go_roundg (gk - 1)
        case rel => exact ⟨k + 1, by have := hk.out; show _ = _; omega, by go_num, by rw [hps2.out], hw6⟩
        case measure => have := hk.out; omega
      ·
       rw [decide_eq_false hq] at hsl
       have hsi : ¬ sg < 0 := of_decide_eq_false hsl
       by_cases h0 : k = 0
       ·
        have hk1 : decide (0 < k) = false := by rw [decide_eq_false]; omega
        have hsg := Hd (show signP k t.coef.q = ⟨#[]⟩ by unfold signP; rw [if_pos h0, if_neg hq])
        clear hsl hq h0
        have CT := Hd (termR_any (cofA t p) t.coef.q t.mono names p.aa na p.ac nc 1000 w4 (HC.out w4 hw4) (by omega) (HR.out w4 hw4).1 (HN.out w4 hw4) htn htm2.out.1 htm2.out.2 HNZ.out HNE.out)
        go_wp2_with fail
        refine CT.out.mono ?_
        rintro e w6 ⟨rfl, hb6⟩
        have hw6 := bth hw4 hb6
        obtain ⟨tb, htb⟩ : ∃ x, termB t.coef.q t.mono names = x := ⟨_, rfl⟩
        have hts := HTS.out
        rw [htb] at hts ⊢
        have hps2 : polyTo l names k ++ signP k t.coef.q ++ tb = polyTo l names (k + 1) := by rw [<- htb]; exact (polyTo_succ ht2.out).symm
        rw [hsg.out, hP] at hps2
        have hn5 : ¬ 9223372036854775807 < P.size + 0 + tb.size := by omega
        have hn6 : P.size + 0 + tb.size <= 1401400004000 := by omega
        replace hps2 := Hd hps2
        clear CT hb6 htb
        go_wp2
        go_roundg (gk - 1)
        case rel => exact ⟨k + 1, by have := hk.out; show _ = _; omega, by go_num, by rw [<- hps2.out]; congr 2; apply ba_ext; simp [ByteArray.data_append], hw6⟩
        case measure => have := hk.out; omega
       ·
        have hk1 : decide (0 < k) = true := by rw [decide_eq_true_eq]; omega
        have hsg := Hd (show signP k t.coef.q = ⟨#[32, 43, 32]⟩ by unfold signP; rw [if_neg h0, if_neg hq])
        clear hsl hq h0
        have CT := Hd (termR_any (cofA t p) t.coef.q t.mono names p.aa na p.ac nc 1000 w4 (HC.out w4 hw4) (by omega) (HR.out w4 hw4).1 (HN.out w4 hw4) htn htm2.out.1 htm2.out.2 HNZ.out HNE.out)
        go_wp2_with fail
        refine CT.out.mono ?_
        rintro e w6 ⟨rfl, hb6⟩
        have hw6 := bth hw4 hb6
        obtain ⟨tb, htb⟩ : ∃ x, termB t.coef.q t.mono names = x := ⟨_, rfl⟩
        have hts := HTS.out
        rw [htb] at hts ⊢
        have hps2 : polyTo l names k ++ signP k t.coef.q ++ tb = polyTo l names (k + 1) := by rw [<- htb]; exact (polyTo_succ ht2.out).symm
        rw [hsg.out, hP] at hps2
        have hn5 : ¬ 9223372036854775807 < P.size + 3 + tb.size := by omega
        have hn6 : P.size + 3 + tb.size <= 1401400004000 := by omega
        replace hps2 := Hd hps2
        clear CT hb6 htb
        go_wp2
        go_roundg (gk - 1)
        case rel => exact ⟨k + 1, by have := hk.out; show _ = _; omega, by go_num, by rw [hps2.out], hw6⟩
        case measure => have := hk.out; omega
     ·
      have hkl : k = l.length := by have := hk.out; omega
      have hfin2 : R = (polyTo l names k, 0) := by rw [hfin.out, hkl]
      clear hfin hkl
      have hfin := Hd hfin2
      clear hfin2
      go_wp2
      go_ret2
      exact ⟨by rw [hfin.out]; rfl, hwr⟩
 ·
  rw [if_neg he] at hR
  have hfin := Hd hR.symm
  have hne : (er != 0) = true := by simpa using he
  clear hR he her
  go_enter Tryz.func28, Tryz.ntmps28
  go_wp2_with fail
  refine CR.out.mono ?_
  rintro e w1 ⟨rfl, hb1⟩
  go_wp2_with fail
  refine (CK.out w1 hb1).mono ?_
  rintro e w2 ⟨rfl, hb2⟩
  go_wp2
  go_ret2
  exact ⟨by rw [hfin.out]; rfl, bth hb1 hb2⟩
theorem textQ_nat (n : Nat) : textQ ((n : Int) : Rat) = textN n := by
 unfold textQ trip textF
 rw [Rat.num_intCast, Rat.den_intCast]
 simp [textZ]
theorem digits30_any (n : Nat) (w : World) (hn : n <= 1000) : Calls Tryz.prog 27 #[.int .i64 n] w fun e w' => e = .returned (.string (ofL (textN n))) /\ Below w.heap.size w w' := by
 have CO := qintR_any (n : Int) w ⟨by omega, by omega⟩
 have hz : lowest (decide ((n : Int) < 0)) (n : Int).natAbs 1 = trip ((n : Int) : Rat) := by
  rw [lowest_z, Rat.mkRat_one]
 rw [hz] at CO
 have hq : qsz ((n : Int) : Rat) <= 2 := by
  unfold qsz
  rw [Rat.num_intCast, Rat.den_intCast]
  have h1 : (limbs (n : Int).natAbs).length <= 2 := limbs_len_le (by rw [Int.natAbs_natCast]; omega)
  have h2 : (limbs 1).length <= 2 := limbs_len_le (by omega)
  omega
 have CO2 := Hd (CO.mono fun _ _ h => retF_q hq h)
 have CT := Hd (fun (x : QA) W (h : QK 2 W x ((n : Int) : Rat)) => textR_q x _ 2 W h (by omega))
 rw [textQ_nat] at CT
 clear CO hz hq
 go_enter Tryz.func27, Tryz.ntmps27
 go_wp2_with fail
 refine CO2.out.mono ?_
 rintro e w1 ⟨x, rfl, K, hb1⟩
 have CT2 := Hd (CT.out x w1 K.now)
 clear K CT CO2
 go_wp2_with fail
 refine CT2.out.mono ?_
 rintro e w2 ⟨rfl, hb2⟩
 go_wp2
 go_ret
 exact ⟨rfl, bth hb1 hb2⟩
theorem lnsF_more {names : List ByteArray} {F : List (List Trm)} {P : List Int} {n : Int} {k m : Nat} (h : k <= m) {s : ByteArray} (hs : s ∈ lnsF names F P n k) : s ∈ lnsF names F P n m := by
 unfold lnsF at hs ⊢
 simp only [List.mem_cons, List.mem_map, List.mem_range] at hs ⊢
 rcases hs with rfl | ⟨i, hi, rfl⟩
 · exact .inl rfl
 · exact .inr ⟨i, by omega, rfl⟩
theorem certR_any (F C : List (List Trm)) (P : List Int) (n : Int) (names : List ByteArray) (fa wa ca na : Option Addr) (fc wc cc nc : Nat) (w : World) (h1 : PolysR w fa fc F) (h2 : IntsR w wa wc P) (h3 : PolysR w ca cc C) (hn : InInt n)
  (hF : ∀ p ∈ F, p.length <= 1000 /\ ∀ t ∈ p, t.coef.num.length <= 1000 /\ t.coef.den.length <= 1000) (hC : ∀ p ∈ C, p.length <= 1000 /\ ∀ t ∈ p, t.coef.num.length <= 1000 /\ t.coef.den.length <= 1000) (hlF : F.length <= 10) (hlC : C.length <= 10)
  (hN : StrsR w na nc names) (hnl : names.length <= 1000) (hnz : ∀ s ∈ names, s.size <= 1048576) :
  Calls Tryz.prog 9 #[.agg #[.slice fa F.length fc, .slice wa P.length wc, .int .i64 n, .slice ca C.length cc], .slice na names.length nc] w fun e w' => e = .returned (.tuple #[.string (textC names F C P n (crtB ⟨F, P, n, C⟩)).1, .int .i64 (textC names F C P n (crtB ⟨F, P, n, C⟩)).2]) /\ Below w.heap.size w w' := by
 have CR := fun W (hW : Below w.heap.size w W) => crtR_any F C P n fa wa ca fc wc cc W (h1.ext (xbw hW)) (h2.ext (xbw hW)) (h3.ext (xbw hW)) hn (fun p hp t ht => by have := (hF p hp).2 t ht; omega) (fun p hp t ht => by have := (hC p hp).2 t ht; omega)
 have HF := Hd (fun W (hW : Below w.heap.size w W) => h1.ext (xbw hW))
 have HP := Hd (fun W (hW : Below w.heap.size w W) => h2.ext (xbw hW))
 have HC := Hd (fun W (hW : Below w.heap.size w W) => h3.ext (xbw hW))
 have HN := Hd (fun W (hW : Below w.heap.size w W) => hN.ext (xbw hW))
 have HNZ := Hd hnz
 obtain ⟨bc, hbc⟩ : ∃ b, crtB ⟨F, P, n, C⟩ = b := ⟨_, rfl⟩
 rw [hbc]
 simp only [hbc] at CR
 obtain ⟨R, hR⟩ : ∃ r, textC names F C P n bc = r := ⟨_, rfl⟩
 rw [hR]
 unfold textC at hR
 have hfine := fun (h : bc = true) => crtB_fine (hbc.trans h)
 replace CR := Hd CR; replace hfine := Hd hfine
 have HFQ := Hd hF; have HCQ := Hd hC
 clear h1 h2 h3 hN hnz hbc hF hC
 go_enter Tryz.func9, Tryz.ntmps9
 go_wp2_with fail
 refine calls_gen (fun W => Blk W w.heap.size 25 #[.slice fa F.length fc, .slice wa P.length wc, .int .i64 n, .slice ca C.length cc] /\ Below w.heap.size w W) ⟨by ((with_reducible repeat first|assumption|(apply bF;focus omega)|apply bS|(apply bN;focus (simp;done))|apply bA|apply bD);all_goals rfl), by go_grown⟩ ?_
 rintro w0 ⟨h0, hw0⟩
 refine (CR.out w0 hw0).mono ?_
 rintro e w1 ⟨rfl, hb1⟩
 have hw1 := bth hw0 hb1
 replace h0 := h0.below' hb1
 clear hw0 hb1 CR
 cases bc
 ·
  have hfin := Hd (show R = (⟨#[]⟩, 1) from hR.symm)
  clear hR hfine h0
  go_wp2
  go_ret2
  exact ⟨by rw [hfin.out]; rfl, hw1⟩
 obtain ⟨hPF0, ⟨hn1, hn2⟩, hrF, hrC, hPx⟩ := hfine.out rfl
 have hPF := Hd hPF0
 clear hPF0
 have FF := Hd (FineL.mk hrF (fun p hp => (HFQ.out p hp).1) (fun p hp => (HFQ.out p hp).2))
 have FC := Hd (FineL.mk hrC (fun p hp => (HCQ.out p hp).1) (fun p hp => (HCQ.out p hp).2))
 have HPX := Hd hPx
 rw [if_pos rfl] at hR
 obtain ⟨pn, rfl⟩ : ∃ pn : Nat, n = (pn : Int) := ⟨n.toNat, by omega⟩
 have HSH := Hd (fun k hk => lnsC_short (names := names) (F := F) (C := C) (P := P) (n := (pn : Int)) (fun p hp => FF.out.size HNZ.out hp) (fun p hp => FC.out.size HNZ.out hp) (fun x hx => (HPX.out x hx).2) hPF.out (by omega) k hk)
 have HSF := Hd (fun k (hk : k <= F.length) => show (catL (lnsF names F P (pn : Int) k)).size <= 21 * 1400000003101 from
  Nat.le_trans (catL_size (L := 1400000003100) (fun s hs => HSH.out 0 (Nat.zero_le _) s (by rw [lnsC_zero]; exact lnsF_more hk hs))) (Nat.mul_le_mul_right _ (by rw [lnsF_len]; omega)))
 have HSC := Hd (fun k (hk : k <= C.length) => show (catL (lnsC names F C P (pn : Int) k)).size <= 21 * 1400000003101 from
  Nat.le_trans (catL_size (HSH.out k hk)) (Nat.mul_le_mul_right _ (by rw [lnsC_len]; omega)))
 clear hrF hrC hPx hfine HFQ HCQ hn HSH
 have x2 := h0.cell 2
 have hl0 := digs_1m (pn : Int) (by omega)
 rw [Int.toNat_natCast, <- ofL_size] at hl0
 have hz1 : (6 : Nat) + (ofL (textN pn)).size <= 20 := by omega
 have hz2 : (6 : Nat) + (ofL (textN pn)).size + 1 <= 21 := by omega
 have CI := Hd (digits30_any pn w1 (by omega))
 go_wp2_with fail
 refine CI.out.mono ?_
 rintro e w2 ⟨rfl, hb2⟩
 have hw2 := bth hw1 hb2
 have H0 := Hd (h0.below' hb2)
 have y0 := H0.out.cell 0
 clear x2 CI hb2 hw1 h0
 have hlF1 : ⟨#[112, 111, 119, 101, 114, 32]⟩ ++ ofL (textN pn) ++ ⟨#[10]⟩ = catL (lnsF names F P (pn : Int) 0) := by
  rw [show lnsF names F P (pn : Int) 0 = [] ++ [ln0 (pn : Int)] by simp [lnsF], catL_snoc]
  unfold ln0
  rw [Int.toNat_natCast]
  apply ba_ext
  simp [catL, ofL, nlB, ByteArray.data_append]
 replace hlF1 := Hd hlF1
 go_wp2
 go_loopg [6, 7, 8, 9, 10, 26, 31] F.length (fun g s6 _ _ _ _ s26 _ wr => ∃ (k : Nat), Hid (k + g = F.length) /\ s26 = .int .i64 k /\ s6 = .string (catL (lnsF names F P (pn : Int) k)) /\ Hid (errL names F = errL names (F.drop k)) /\ Below w2.heap.size w2 wr)
 case atStart => exact ⟨0, by show _ = _; omega, rfl, by rw [hlF1.out], rfl, Below.refl _ _⟩
 case round =>
  obtain ⟨k, hk, rfl, rfl, her, hwr⟩ := hrel
  have hww := bth hw2 hwr
  have h0 := H0.out.below' hwr
  clear y0
  by_cases hlt : k < F.length
  ·
   obtain ⟨p, hp⟩ := get_of_lt hlt
   have hpm := List.mem_of_getElem? hp
   obtain ⟨x, hx⟩ := get_of_lt (xs := P) (k := k) (by have := hPF.out; omega)
   obtain ⟨hx0, hx1⟩ := HPX.out x (List.mem_of_getElem? hx)
   obtain ⟨bf, of, rfl, ap, cp, hcf, hPR⟩ := (HF.out wr hww).2.2 k p hp
   simp only [Nat.mul_one] at hcf
   obtain ⟨bx, ox, rfl, hcx, hxw⟩ := (HP.out wr hww).2.2 k x hx
   simp only [Nat.mul_one] at hcx
   obtain ⟨xn, rfl⟩ : ∃ xn : Nat, x = (xn : Int) := ⟨x.toNat, by omega⟩
   have CP := printR_any p names ap na cp nc wr hPR (FF.out.small p hpm) (FF.out.few p hpm) (HN.out wr hww) hnl HNZ.out
   have hps := FF.out.size HNZ.out hpm
   have hel := errL_at (names := names) hp
   have hls := lnsF_succ (names := names) (n := (pn : Int)) hp hx
   unfold lnF at hls
   obtain ⟨pr, hpr⟩ : ∃ r, printP p names = r := ⟨_, rfl⟩
   rw [hpr] at CP hps hel hls
   obtain ⟨ts, te⟩ := pr
   dsimp only at CP hps hel hls
   replace CP := Hd CP; replace hel := Hd (her.out.trans hel); replace hls := Hd hls
   have hkx : k < P.length := by have := hPF.out; omega
   have hcz := HSF.out k (by omega)
   obtain ⟨L, hL⟩ : ∃ L, catL (lnsF names F P (pn : Int) k) = L := ⟨_, rfl⟩
   rw [hL] at hcz ⊢
   replace hL := Hd hL
   clear hpr hp hx hxw hPR hpm her
   go_wp2_with fail
   refine CP.out.mono ?_
   rintro e w4 ⟨rfl, hb4⟩
   have hw4 := bth hwr hb4
   replace h0 := h0.below' hb4
   have hcx4 := held hcx w4 hb4
   have y1 := h0.cell 1
   clear CP hcx hcf
   by_cases he : te = 0
   ·
    subst he
    have hne : ((0 : Int) != 0) = false := rfl
    have HE := Hd (show errL names F = errL names (F.drop (k + 1)) from hel.out.trans (if_pos rfl))
    have CI := Hd (digits30_any xn w4 (by omega))
    have hl0 := digs_1m (xn : Int) (by omega)
    rw [Int.toNat_natCast, <- ofL_size] at hl0
    clear hel
    go_wp2_with fail
    refine CI.out.mono ?_
    rintro e w5 ⟨rfl, hb5⟩
    have hw5 := bth hw4 hb5
    obtain ⟨T, hT⟩ : ∃ T, ofL (textN xn) = T := ⟨_, rfl⟩
    rw [Int.toNat_natCast, hT] at hls
    rw [hT] at hl0 ⊢
    have z1 : 7 + T.size <= 17 := by omega
    have z2 : 7 + T.size + 1 <= 18 := by omega
    have z3 : 7 + T.size + 1 + ts.size <= 1400000003018 := by omega
    have z7 : 7 + T.size + 1 + ts.size + 1 <= 1400000003019 := by omega
    have z8 : L.size + (7 + T.size + 1 + ts.size + 1) <= 40000000000000 := by omega
    have z4 : ¬ 9223372036854775807 < 7 + T.size := by omega
    have z5 : ¬ 9223372036854775807 < 7 + T.size + 1 := by omega
    have z6 : ¬ 9223372036854775807 < 7 + T.size + 1 + ts.size := by omega
    have z9 : ¬ 9223372036854775807 < 7 + T.size + 1 + ts.size + 1 := by omega
    have z10 : ¬ 9223372036854775807 < L.size + (7 + T.size + 1 + ts.size + 1) := by omega
    have hln : L ++ (⟨#[102, 97, 99, 116, 111, 114, 32]⟩ ++ T ++ ⟨#[32]⟩ ++ ts ++ ⟨#[10]⟩) = catL (lnsF names F P (pn : Int) (k + 1)) := by rw [hls.out, catL_snoc, hL.out]; rfl
    replace hln := Hd hln
    clear CI hb5 hT
    go_wp2
    go_roundg (gk - 1)
    case rel => exact ⟨k + 1, by have := hk.out; show _ = _; omega, by go_num, by rw [hln.out], HE, hw5⟩
    case measure => have := hk.out; omega
   ·
    have hne : (te != 0) = true := by simpa using he
    have HE : errL names F ≠ 0 := by rw [hel.out, if_neg he]; exact he
    have hfin := Hd (show R = (⟨#[]⟩, te) by rw [<- hR, if_neg HE, hel.out, if_neg he])
    clear hR HE he hel
    go_wp2
    go_ret2
    exact ⟨by rw [hfin.out]; rfl, bth hw2 hw4⟩
  ·
   have hkl : k = F.length := by have := hk.out; omega
   subst hkl
   rw [errL_end] at her
   rw [if_pos her.out] at hR
   obtain ⟨w3, rfl⟩ : ∃ W, W = wr := ⟨_, rfl⟩
   have x3 := h0.cell 3
   have HE0 := Hd (lnsC_zero names F C P (pn : Int))
   clear hk her
   go_wp2
   go_loopg [6, 12, 13, 14, 57, 61] C.length (fun g s6 _ _ _ s57 _ wr => ∃ (k : Nat), Hid (k + g = C.length) /\ s57 = .int .i64 k /\ s6 = .string (catL (lnsC names F C P (pn : Int) k)) /\ Hid (errL names C = errL names (C.drop k)) /\ Below w.heap.size w wr)
   case atStart => exact ⟨0, by show _ = _; omega, rfl, by rw [HE0.out], rfl, hww⟩
   case round =>
    clear h0 x3 hwr hww
    obtain ⟨k, hk, rfl, rfl, her, hwr⟩ := hrel
    have hcz := HSC.out k (by have := hk.out; omega)
    obtain ⟨L, hL⟩ : ∃ L, catL (lnsC names F C P (pn : Int) k) = L := ⟨_, rfl⟩
    rw [hL] at hcz ⊢
    replace hL := Hd hL
    by_cases hlt : k < C.length
    ·
     obtain ⟨p, hp⟩ := get_of_lt hlt
     have hpm := List.mem_of_getElem? hp
     obtain ⟨bf, of, rfl, ap, cp, hcf, hPR⟩ := (HC.out wr hwr).2.2 k p hp
     simp only [Nat.mul_one] at hcf
     have CP := printR_any p names ap na cp nc wr hPR (FC.out.small p hpm) (FC.out.few p hpm) (HN.out wr hwr) hnl HNZ.out
     have hps := FC.out.size HNZ.out hpm
     have hel := errL_at (names := names) hp
     have hls := lnsC_succ (names := names) (F := F) (P := P) (n := (pn : Int)) hp
     unfold lnC at hls
     obtain ⟨pr, hpr⟩ : ∃ r, printP p names = r := ⟨_, rfl⟩
     rw [hpr] at CP hps hel hls
     obtain ⟨ts, te⟩ := pr
     dsimp only at CP hps hel hls
     replace CP := Hd CP; replace hel := Hd (her.out.trans hel); replace hls := Hd hls
     clear hpr hp hPR hpm her
     go_wp2_with fail
     refine CP.out.mono ?_
     rintro e w4 ⟨rfl, hb4⟩
     have hw4 := bth hwr hb4
     clear CP hcf
     by_cases he : te = 0
     ·
      subst he
      have hne : ((0 : Int) != 0) = false := rfl
      have HE := Hd (show errL names C = errL names (C.drop (k + 1)) from hel.out.trans (if_pos rfl))
      have z1 : 9 + ts.size <= 1400000003018 := by omega
      have z2 : 9 + ts.size + 1 <= 1400000003019 := by omega
      have z3 : L.size + (9 + ts.size + 1) <= 40000000000000 := by omega
      have z4 : ¬ 9223372036854775807 < 9 + ts.size := by omega
      have z5 : ¬ 9223372036854775807 < 9 + ts.size + 1 := by omega
      have z6 : ¬ 9223372036854775807 < L.size + (9 + ts.size + 1) := by omega
      have hln : L ++ (⟨#[99, 111, 102, 97, 99, 116, 111, 114, 32]⟩ ++ ts ++ ⟨#[10]⟩) = catL (lnsC names F C P (pn : Int) (k + 1)) := by rw [hls.out, catL_snoc, hL.out]; rfl
      replace hln := Hd hln
      clear hel
      go_wp2
      go_roundg (gk - 1)
      case rel => exact ⟨k + 1, by have := hk.out; show _ = _; omega, by go_num, by rw [hln.out], HE, hw4⟩
      case measure => have := hk.out; omega
     ·
      have hne : (te != 0) = true := by simpa using he
      have HE : errL names C ≠ 0 := by rw [hel.out, if_neg he]; exact he
      have hfin := Hd (show R = (⟨#[]⟩, te) by rw [<- hR, if_neg HE, hel.out, if_neg he])
      clear hR HE he hel
      go_wp2
      go_ret2
      exact ⟨by rw [hfin.out]; rfl, hw4⟩
    ·
     have hkl : k = C.length := by have := hk.out; omega
     subst hkl
     rw [errL_end] at her
     rw [if_pos her.out, hL.out] at hR
     have z1 : L.size + 4 <= 40000000000000 := by omega
     have z2 : ¬ 9223372036854775807 < L.size + 4 := by omega
     have hfin := Hd (show R = (L ++ ⟨#[101, 110, 100, 10]⟩, 0) from hR.symm)
     clear hR her hL
     go_wp2
     go_ret2
     exact ⟨by rw [hfin.out]; rfl, hwr⟩
theorem fitsPolys_any (l : List (List Trm)) (a : Option Addr) (c : Nat) (w : World) (h : PolysR w a c l) :
  Calls Tryz.prog 21 #[.slice a l.length c] w fun e w' => e = .returned (.bool (fitL l)) /\ Below w.heap.size w w' := by
 have hlen := h.len
 obtain ⟨res, hres⟩ : ∃ x, fitL l = x := ⟨_, rfl⟩
 rw [hres]
 have HRES := Hd hres
 have HP := Hd h
 clear hres h
 go_enter Tryz.func21, Tryz.ntmps21
 go_wp2
 go_loopg [9] l.length (fun g q wr => ∃ k : Nat, k + g = l.length /\ q = .int .i64 k /\ Below w.heap.size w wr /\ (l.take k).all fitP = true)
 case atStart => exact ⟨0, by omega, rfl, Below.refl _ _, rfl⟩
 case round =>
  obtain ⟨k, hkg, rfl, hwr, hall⟩ := hrel
  have HKG := Hd hkg
  have HA := Hd hall
  clear hkg hall
  obtain ⟨gko, rfl⟩ : ∃ x : Nat, x = gk := ⟨_, rfl⟩
  obtain ⟨wo, rfl⟩ : ∃ wo : World, wo = wr := ⟨_, rfl⟩
  by_cases hlt : k < l.length
  ·
   obtain ⟨p, hp⟩ := get_of_lt hlt
   obtain ⟨b, off, hao, pa, pc, hc0, hPP⟩ := (HP.out.ext (xbw hwr)).2.2 k p hp
   subst hao
   have HPK := Hd hp
   have HPP := Hd hPP
   have hpl := hPP.len
   have hbl : b < wo.heap.size := World.block_lt_of_cell? wo _ hc0
   simp only [Nat.mul_one] at hc0
   clear hp hPP
   go_wp2
   go_loopg [15] p.length (fun g q wr => ∃ j : Nat, j + g = p.length /\ q = .int .i64 j /\ Below wo.heap.size wo wr /\ (p.take j).all fitT = true)
   case atStart => exact ⟨0, by omega, rfl, Below.refl _ _, rfl⟩
   case round =>
    obtain ⟨j, hjg, rfl, hwj, hall⟩ := hrel
    have HJG := Hd hjg
    have HJ := Hd hall
    clear hjg hall
    by_cases hjl : j < p.length
    ·
     obtain ⟨t, ht⟩ := get_of_lt hjl
     obtain ⟨b2, off2, hao2, q, hC, _⟩ := (HPP.out.ext (xbw hwj)).2.2 j t ht
     subst hao2
     obtain ⟨c0, c1, c2, c3⟩ := hC
     obtain ⟨aa, ac, na, nc, da, dc⟩ := q
     obtain ⟨⟨neg, num, den⟩, mono⟩ := t
     have HT := Hd ht
     dsimp only at c0 c1 c2 c3
     have hbl2 : b2 < wr.heap.size := World.block_lt_of_cell? wr _ c0
     have hw2 := bth hwr (hwj.alloc hwj.size (.cells #[.bool neg, .slice na num.length nc, .slice da den.length dc, .slice aa mono.length ac] 98))
     have hwj2 := hwj.alloc hwj.size (.cells #[.bool neg, .slice na num.length nc, .slice da den.length dc, .slice aa mono.length ac] 98)
     clear ht
     by_cases hm6 : 6 < mono.length
     ·
      obtain rfl : res = false := by rw [<- HRES.out]; exact fitL_term HPK.out HT.out (by unfold fitT; dsimp only; rw [decide_eq_false (by omega)]; simp)
      go_wp2
      go_ret
      exact ⟨rfl, hw2⟩
     ·
      by_cases hn4 : 4 < num.length
      ·
       obtain rfl : res = false := by rw [<- HRES.out]; exact fitL_term HPK.out HT.out (by unfold fitT; dsimp only; rw [decide_eq_false (show ¬ num.length <= 4 by omega)]; simp)
       go_wp2
       go_ret
       exact ⟨rfl, hw2⟩
      ·
       by_cases hd4 : 4 < den.length
       ·
        obtain rfl : res = false := by rw [<- HRES.out]; exact fitL_term HPK.out HT.out (by unfold fitT; dsimp only; rw [decide_eq_false (show ¬ den.length <= 4 by omega)]; simp)
        go_wp2
        go_ret
        exact ⟨rfl, hw2⟩
       ·
        have hft : fitT ⟨⟨neg, num, den⟩, mono⟩ = true := by unfold fitT; dsimp only; simp only [Bool.and_eq_true, decide_eq_true_eq]; omega
        have HF := Hd hft
        clear hft
        go_wp2
        go_roundg (gk - 1)
        case rel => exact ⟨j + 1, by have := HJG.out; omega, by go_num, hwj2, all_take HJ.out HT.out HF.out⟩
        case measure => have := HJG.out; omega
    ·
     have HJ2 := HJ.out
     rw [show j = p.length by have := HJG.out; omega] at HJ2
     by_cases h8 : 8 < p.length
     ·
      obtain rfl : res = false := by rw [<- HRES.out]; exact fitL_long HPK.out h8
      clear HJ2
      go_wp2
      go_ret
      exact ⟨rfl, bth hwr hwj⟩
     ·
      have HF := Hd (fitP_end HJ2 (by omega))
      have hwn := bth hwr hwj
      clear HJ2
      go_wp2
      go_roundg (gko - 1)
      case rel => exact ⟨k + 1, by have := HKG.out; omega, by go_num, hwn, all_take HA.out HPK.out HF.out⟩
      case measure => have := HKG.out; omega
  ·
   have HA2 := HA.out
   rw [show k = l.length by have := HKG.out; omega] at HA2
   have hr := HRES.out
   rw [fitL_end HA2] at hr
   clear HA2
   by_cases h6 : l.length <= 6
   ·
    obtain rfl : res = true := by rw [<- hr, decide_eq_true h6]
    clear hr
    go_wp2
    go_ret
    exact ⟨ret_bool (decide_eq_true (by omega)), hwr⟩
   ·
    obtain rfl : res = false := by rw [<- hr, decide_eq_false h6]
    clear hr
    go_wp2
    go_ret
    exact ⟨ret_bool (decide_eq_false (by omega)), hwr⟩
theorem fits30_any (F C : List (List Trm)) (P : List Int) (n : Int) (fa wa ca : Option Addr) (fc wc cc : Nat) (w : World) (h1 : PolysR w fa fc F) (h2 : IntsR w wa wc P) (h3 : PolysR w ca cc C) :
  Calls Tryz.prog 7 #[.agg #[.slice fa F.length fc, .slice wa P.length wc, .int .i64 n, .slice ca C.length cc]] w fun e w' => e = .returned (.bool (fitL F && fitL C && decide (P.length <= 6))) /\ Below w.heap.size w w' := by
 have C1 := fun W (hW : Below w.heap.size w W) => fitsPolys_any F fa fc W (h1.ext (xbw hW))
 have C2 := fun W (hW : Below w.heap.size w W) => fitsPolys_any C ca cc W (h3.ext (xbw hW))
 have hl := h2.len
 revert C1 C2
 generalize fitL F = b1
 generalize fitL C = b2
 intro C1 C2
 replace C1 := Hd C1; replace C2 := Hd C2
 have hx := Blk.new w 25 #[.slice fa F.length fc, .slice wa P.length wc, .int .i64 n, .slice ca C.length cc]
 have hw0 : Below w.heap.size w (w.alloc (.cells #[.slice fa F.length fc, .slice wa P.length wc, .int .i64 n, .slice ca C.length cc] 25)) := brf.alloc (nlr _) _
 clear h1 h2 h3
 cases b1
 ·
  go_enter Tryz.func7, Tryz.ntmps7
  go_wp2_with fail
  revert hx hw0
  generalize w.alloc (.cells #[.slice fa F.length fc, .slice wa P.length wc, .int .i64 n, .slice ca C.length cc] 25) = w0
  intro hx hw0
  have z0 := hx.cell 0
  go_wp2_with fail
  refine (C1.out _ hw0).mono ?_
  rintro e w1 ⟨rfl, hb1⟩
  have hw1 := bth hw0 hb1
  go_wp2
  go_ret
  exact ⟨rfl, hw1⟩
 ·
  cases b2
  ·
   go_enter Tryz.func7, Tryz.ntmps7
   go_wp2_with fail
   revert hx hw0
   generalize w.alloc (.cells #[.slice fa F.length fc, .slice wa P.length wc, .int .i64 n, .slice ca C.length cc] 25) = w0
   intro hx hw0
   have z0 := hx.cell 0
   go_wp2_with fail
   refine (C1.out _ hw0).mono ?_
   rintro e w1 ⟨rfl, hb1⟩
   have hw1 := bth hw0 hb1
   have z3 := (hx.below' hb1).cell 3
   go_wp2_with fail
   refine (C2.out _ hw1).mono ?_
   rintro e w2 ⟨rfl, hb2⟩
   have hw2 := bth hw1 hb2
   go_wp2
   go_ret
   exact ⟨rfl, hw2⟩
  ·
   have hd : decide ((P.length : Int) <= 6) = decide (P.length <= 6) := by rw [decide_eq_decide]; omega
   obtain ⟨b, hb⟩ : ∃ b, decide (P.length <= 6) = b := ⟨_, rfl⟩
   rw [hb] at hd ⊢
   have HD := Hd hd
   clear hb hd
   ·
    skip
    go_enter Tryz.func7, Tryz.ntmps7
    go_wp2_with fail
    revert hx hw0
    generalize w.alloc (.cells #[.slice fa F.length fc, .slice wa P.length wc, .int .i64 n, .slice ca C.length cc] 25) = w0
    intro hx hw0
    have z0 := hx.cell 0
    go_wp2_with fail
    refine (C1.out _ hw0).mono ?_
    rintro e w1 ⟨rfl, hb1⟩
    have hw1 := bth hw0 hb1
    have hx1 := hx.below' hb1
    have z3 := hx1.cell 3
    go_wp2_with fail
    refine (C2.out _ hw1).mono ?_
    rintro e w2 ⟨rfl, hb2⟩
    have hw2 := bth hw1 hb2
    have z1 := (hx1.below' hb2).cell 1
    go_wp2
    go_ret
    exact ⟨ret_bool (by rw [HD.out]; rfl), hw2⟩
end Go.Proofs.YtdnblkklgdnapaaGreatDoor
namespace Go.Proofs.YtdnblkklgdnapaaGreatDoor
open Go.ChangeShapes Go.WideShapes Go.ChangeAt Go.RowKit
theorem len2 {α : Type} {l : List α} (h : l.length = 2) : ∃ x0 x1, l = [x0, x1] := by
 match l, h with
 | [x0, x1], _ => exact ⟨x0, x1, rfl⟩
theorem len3 {α : Type} {l : List α} (h : l.length = 3) : ∃ x0 x1 x2, l = [x0, x1, x2] := by
 match l, h with
 | [x0, x1, x2], _ => exact ⟨x0, x1, x2, rfl⟩
theorem len4 {α : Type} {l : List α} (h : l.length = 4) : ∃ x0 x1 x2 x3, l = [x0, x1, x2, x3] := by
 match l, h with
 | [x0, x1, x2, x3], _ => exact ⟨x0, x1, x2, x3, rfl⟩
theorem list_choose {α β : Type} {p : Nat -> β -> α -> Prop} (l : List β) (h : ∀ i y, l[i]? = some y -> ∃ z, p i y z) :
  ∃ zs : List α, zs.length = l.length /\ ∀ (i : Nat) (z : α), zs[i]? = some z -> ∃ y, l[i]? = some y /\ p i y z := by
 induction l generalizing p with
 | nil => exact ⟨[], rfl, fun i z hz => by simp at hz⟩
 | cons x l ih =>
  obtain ⟨z0, h0⟩ := h 0 x rfl
  obtain ⟨zs, hl, hz⟩ := ih (p := fun i => p (i + 1)) (fun i y hy => h (i + 1) y (by simpa using hy))
  refine ⟨z0 :: zs, by simp [hl], fun i z hi => ?_⟩
  cases i with
  | zero => simp at hi; subst hi; exact ⟨x, rfl, h0⟩
  | succ i => simpa using hz i z (by simpa using hi)
theorem sum_le_bulk {H α : Type} (size : α -> Nat) : ∀ (ds : List (DataW H)) (zs : List α), zs.length = ds.length -> (∀ (i : Nat) (z : α) (d : DataW H), zs[i]? = some z -> ds[i]? = some d -> size z <= Rows.uptoBulk d) ->
  (zs.map size).sum <= Rows.uptoBulkAll ds
 | [], zs, hl, _ => by
  have : zs = [] := List.eq_nil_of_length_eq_zero (by simpa using hl)
  subst this; simp
 | d :: ds, [], hl, _ => by simp at hl
 | d :: ds, z :: zs, hl, h => by
  have h0 := h 0 z d rfl rfl
  have h1 := sum_le_bulk size ds zs (by simpa using hl) (fun i z d hz hd => h (i + 1) z d (by simpa using hz) (by simpa using hd))
  simp only [List.map_cons, List.sum_cons, Rows.uptoBulkAll]
  omega
section
variable {H : Type} {enc : TypeId × Value -> H} {P : Program} {W : World} {sp : Nat -> Bool} {held : Bool}
theorem open_sl {t e : TypeId} {sz fuel : Nat} {cs : List Value} {x : DataW H × List MemPlace} (ht : P.underlying t = some (.slice e)) (hc : P.cellsOf e = sz) (hs : 0 < sz)
  (h : DataW.trod enc P W 0 sp held fuel t cs = some x) {α : Type} (E : World -> Nat -> Nat -> α -> Prop) (size : α -> Nat)
  (conv : ∀ n cs' y b o, n < fuel -> DataW.trod enc P W 0 sp held n e cs' = some y -> cs'.length = sz -> (∀ j, j < sz -> W.cell? ⟨b, o + j, none⟩ = cs'[j]?) -> ∃ z, E W b o z /\ size z <= Rows.uptoBulk y.1) :
  ∃ (a : Option Addr) (cap : Nat) (zs : List α), cs = [.slice a zs.length cap] /\ SlR sz E W a cap zs /\ (zs.map size).sum + 1 <= Rows.uptoBulk x.1 := by
 rcases DataW.trod_slice ht h with ⟨rfl, rfl⟩ | ⟨a, len, cap, elems, rest, n, hn, rfl, rfl, _, hl, hm, hlen, hel, _, _⟩
 · exact ⟨none, 0, [], rfl, SlR.nil, by simp [Rows.uptoBulk]⟩
 ·
  rw [hc] at hel
  have key : ∀ i y, elems[i]? = some y -> ∃ z, (∃ b off, a = ⟨b, off, none⟩ /\ E W b (off + i * sz) z) /\ size z <= Rows.uptoBulk y.1 := by
   intro i y hy
   have hi : i < len := by rw [<- hlen]; exact lt_of_get hy
   have h1 := hel i hi
   rw [hy] at h1
   obtain ⟨cs', hcs, hty⟩ := Option.bind_eq_some_iff.1 h1
   obtain ⟨_, hl', hcell⟩ := World.cells?_some hcs
   have hspot : ∃ b off, a = ⟨b, off, none⟩ := by
    have h0 := hcell 0 hs
    rw [List.getElem?_eq_getElem (by omega)] at h0
    have := World.cell?_spot h0
    obtain ⟨b, off, spot⟩ := a
    by_cases hi0 : i * sz = 0
    ·
     simp [Addr.add, hi0] at this
     subst this
     exact ⟨b, off, rfl⟩
    ·
     have h2 := hel 0 (by omega)
     obtain ⟨y0, hy0⟩ := get_of_lt (xs := elems) (k := 0) (by omega)
     rw [hy0] at h2
     obtain ⟨cs0, hcs0, _⟩ := Option.bind_eq_some_iff.1 h2
     obtain ⟨_, hl0, hcell0⟩ := World.cells?_some hcs0
     have h3 := hcell0 0 hs
     rw [List.getElem?_eq_getElem (by omega)] at h3
     have := World.cell?_spot h3
     simp [Addr.add] at this
     subst this
     exact ⟨b, off, rfl⟩
   obtain ⟨b, off, rfl⟩ := hspot
   obtain ⟨z, hz, hsz⟩ := conv n cs' y b (off + i * sz) (by omega) hty hl' (fun j hj => by
    rw [<- hcell j hj, add_plain, add_plain])
   exact ⟨z, ⟨b, off, rfl, hz⟩, hsz⟩
  obtain ⟨zs, hzl, hz⟩ := list_choose (p := fun i y z => (∃ b off, a = ⟨b, off, none⟩ /\ E W b (off + i * sz) z) /\ size z <= Rows.uptoBulk y.1) elems key
  refine ⟨some a, cap, zs, by rw [hzl, hlen], ⟨by omega, hm, fun k z hk => ?_⟩, ?_⟩
  ·
   obtain ⟨y, hy, ⟨b, off, rfl, he⟩, _⟩ := hz k z hk
   exact ⟨b, off, rfl, he⟩
  ·
   have h1 := sum_le_bulk size (elems.map (·.1)) zs (by simpa using hzl) (fun i z d hzi hd => by
    obtain ⟨y, hy, _, hs⟩ := hz i z hzi
    rw [List.getElem?_map, hy] at hd
    simp at hd; subst hd; exact hs)
   simp only [Rows.uptoBulk]
   omega
end
theorem conv_int {H : Type} {enc : TypeId × Value -> H} {P : Program} {W : World} {sp : Nat -> Bool} {held : Bool} {e : TypeId} {k : IntKind} (he : P.underlying e = some (.int k)) (n : Nat) (cs' : List Value) (y : DataW H × List MemPlace) (b o : Nat)
  (h : DataW.trod enc P W 0 sp held n e cs' = some y) (hc : ∀ j, j < 1 -> W.cell? ⟨b, o + j, none⟩ = cs'[j]?) : ∃ z, IntE k W b o z /\ 1 <= Rows.uptoBulk y.1 := by
 obtain ⟨z, rfl, rfl, hw⟩ := DataW.trod_int he h
 exact ⟨z, ⟨by have := hc 0 (by omega); simpa using this, hw⟩, by simp [Rows.uptoBulk]⟩
theorem conv_str {H : Type} {enc : TypeId × Value -> H} {P : Program} {W : World} {sp : Nat -> Bool} {held : Bool} {e : TypeId} (he : P.underlying e = some .string) (n : Nat) (cs' : List Value) (y : DataW H × List MemPlace) (b o : Nat)
  (h : DataW.trod enc P W 0 sp held n e cs' = some y) (hc : ∀ j, j < 1 -> W.cell? ⟨b, o + j, none⟩ = cs'[j]?) : ∃ z : ByteArray, StrE W b o z /\ z.size + 1 <= Rows.uptoBulk y.1 := by
 obtain ⟨z, rfl, rfl, hw⟩ := DataW.trod_string he h
 exact ⟨z, by have := hc 0 (by omega); simpa [StrE] using this, by simp [Rows.uptoBulk]⟩
end Go.Proofs.YtdnblkklgdnapaaGreatDoor
