/- Rational numbers, integers and strings that came in, opened. -/
import Derived.Test.YtkjnkpkagcboeaaGreatDoorCe22
import Derived.Test.YtkjnkpkagcboeaaGreatDoorCe12
import Derived.Test.YtkjnkpkagcboeaaGreatDoorCe10
import Derived.Test.YtkjnkpkagcboeaaGreatDoorCe13
import Derived.Test.YtkjnkpkagcboeaaGreatDoorCe9
import Derived.Test.YtkjnkpkagcboeaaGreatDoorCe3
import Derived.Test.YtkjnkpkagcboeaaGreatDoorCe14
import Derived.Test.YtkjnkpkagcboeaaGreatDoorCe21
import Derived.Test.YtkjnkpkagcboeaaGreatDoorCe15
import Derived.Test.YtkjnkpkagcboeaaGreatDoorCe1
import Derived.Test.YtkjnkpkagcboeaaGreatDoorRows
set_option linter.all false
set_option maxRecDepth 100000
set_option maxHeartbeats 4000000
namespace Go.Proofs.YtkjnkpkagcboeaaGreatDoor
open Go.RowKit
def cofA (t : Trm) (p : RA) : QA := ⟨t.coef.neg, t.coef.num.length, p.na, p.nc, t.coef.den.length, p.da, p.dc⟩
theorem cofA_qk {w : World} {t : Trm} {p : RA} (h : PartsR w p t.mono t.coef) (hr : t.coef.right = true) (h1 : t.coef.num.length <= 1000) (h2 : t.coef.den.length <= 1000) : QK 1000 w (cofA t p) t.coef.q := by
 obtain ⟨a, b⟩ := RtZ.qac (w := w) (r := t.coef) (z := cofA t p) ⟨rfl, rfl, rfl, h.2.1, h.2.2⟩ hr
 exact ⟨a, by omega⟩
theorem termB_size {q : Rat} {m : List Int} {names : List ByteArray} (hn : ∀ s ∈ names, s.size <= 1048576) (hm : ∀ x ∈ m, x <= 1048576) (ht : (textQ (absQ q)).length <= 20000002) (hml : m.length <= 64) : (termB q m names).size <= 1400000000 := by
 have hsh := joinB_size (partsT_short (q := q) (m := m) (names := names) (N := 1048576) (T := 20000002) hn hm ht m.length)
 have hpl := partsT_len q m names m.length
 exact Nat.le_trans hsh (Nat.le_trans (Nat.mul_le_mul_right _ (show _ <= 65 by omega)) (by omega))
theorem absQ_sz (q : Rat) : qsz (absQ q) = qsz q := by unfold absQ; split; exact qsz_neg q; rfl
theorem textT_len {t : Trm} (hr : t.coef.right = true) (h1 : t.coef.num.length <= 1000) (h2 : t.coef.den.length <= 1000) : (textQ (absQ t.coef.q)).length <= 20000002 := by
 obtain ⟨e1, e2, e3⟩ := right_trip hr
 refine textQ_len (k := 1000) _ ?_ (by omega)
 rw [absQ_sz]
 unfold qsz
 rw [e2, e3]
 omega
theorem sgnQ_lt2 (q : Rat) : decide (sgnQ q < 0) = decide (q < 0) := by
 unfold sgnQ
 by_cases h : q = 0
 · subst h; rw [if_pos rfl]; rfl
 ·
  rw [if_neg h]
  by_cases h2 : q < 0
  · rw [if_pos h2]; simp [h2]
  · rw [if_neg h2]; simp [h2]
theorem bigB_le {l : List Trm} {n : Nat} {t : Trm} (h : bigB l n = false) (ht : t ∈ l) : t.mono.length <= n := by
 apply Nat.le_of_not_lt
 intro hc
 have : bigB l n = true := by unfold bigB; rw [List.any_eq_true]; exact ⟨t, ht, by simpa using hc⟩
 rw [h] at this; cases this
theorem printS_any (l : List Trm) (names : List ByteArray) (a na : Option Addr) (c nc : Nat) (w : World) (h : PolyR w a c l) (hq : ∀ t ∈ l, t.coef.num.length <= 1000 /\ t.coef.den.length <= 1000) (hl : l.length <= 1000)
  (hn : StrsR w na nc names) (hnl : names.length <= 1000) (hnz : ∀ s ∈ names, s.size <= 1048576) (ht : TabW w) :
  Calls Tryz.prog 13 #[.slice a l.length c, .slice na names.length nc] w fun e w' => e = .returned (.tuple #[.string (printP l names).1, .int .i64 (printP l names).2]) /\ Below w.heap.size w w' := by
 have CR := polyP_any l a c w h (fun t ht => by have := hq t ht; omega)
 have CK := fun W (hW : Below w.heap.size w W) => checkS_any names na nc W (hn.ext (xbw hW)) hnz (by omega)
 have CV := fun W (hW : Below w.heap.size w W) hm => vars_any l a c W (h.ext (xbw hW)) (by omega) hm
 have HP := Hd (fun W (hW : Below w.heap.size w W) => h.ext (xbw hW))
 have HN := Hd (fun W (hW : Below w.heap.size w W) => hn.ext (xbw hW))
 have HT := Hd (fun W (hW : Below w.heap.size w W) => ht.below hW)
 have HQ := Hd hq; have HNZ := Hd hnz
 obtain ⟨R, hR⟩ : ∃ r, printP l names = r := ⟨_, rfl⟩
 rw [hR]
 unfold printP at hR
 clear h hq hn hnz ht
 replace CV := Hd CV
 cases hpb : polyB l
 ·
  rw [hpb] at CR hR
  have hfin := Hd (show R = (⟨#[]⟩, 1) from hR.symm)
  replace CR := Hd CR
  clear hpb hR CK
  go_enter Tryz.func13, Tryz.ntmps13
  go_wp2_with fail
  refine CR.out.mono ?_
  rintro e w1 ⟨rfl, hb1⟩
  go_wp2
  go_ret2
  exact ⟨by rw [hfin.out]; rfl, hb1⟩
 rw [hpb] at CR hR
 have HPB := Hd (polyB_terms hpb)
 rw [if_pos rfl] at hR
 replace CR := Hd CR
 clear hpb
 obtain ⟨er, her⟩ : ∃ e, errNm names = e := ⟨_, rfl⟩
 simp only [her] at CK hR
 replace CK := Hd CK
 by_cases he : er = 0
 ·
  subst he
  rw [if_pos rfl] at hR
  have hm64 : ∀ t ∈ l, t.mono.length <= 64 := fun t ht => (monoB_mem (HPB.out t ht).2).1
  have hbl := fun v h => bigB_last (l := l) (n := names.length) (v := v) (fun t ht => (HPB.out t ht).2) h
  have hbn := fun h => bigB_none (l := l) (n := names.length) (fun t ht => (HPB.out t ht).2) h
  have CV2 := fun W hW => CV.out W hW hm64
  replace CV2 := Hd CV2; replace hbl := Hd hbl; replace hbn := Hd hbn; replace hm64 := Hd hm64; replace her := Hd her
  clear CV
  obtain ⟨bg, hbg⟩ : ∃ b, bigB l names.length = b := ⟨_, rfl⟩
  rw [hbg] at hR
  replace hbg := Hd hbg
  go_enter Tryz.func13, Tryz.ntmps13
  go_wp2_with fail
  refine CR.out.mono ?_
  rintro e w1 ⟨rfl, hb1⟩
  go_wp2_with fail
  refine (CK.out w1 hb1).mono ?_
  rintro e w2 ⟨rfl, hb2⟩
  have hw2 := bth hb1 hb2
  go_wp2_with fail
  refine (CV2.out w2 hw2).mono ?_
  rintro e w3 ⟨av, cv, rfl, hV, hb3⟩
  have hw3 := bth hw2 hb3
  have hvl := varsI_len l 64
  clear CR CK CV2 hb1 hb2 hb3 hw2
  by_cases hv0 : (varsI l 64).length = 0
  ·
   have hbf : bg = false := by rw [<- hbg.out]; exact hbn.out hv0
   subst hbf
   rw [if_neg (by simp)] at hR
   have hv1 : decide (0 < (varsI l 64).length) = false := by rw [decide_eq_false]; omega
   replace hR := Hd hR
   clear hbn hbl hV hv0
   by_cases hl0 : l.length = 0
   ·
    have hl1 : ((l.length : Int) == 0) = true := by rw [beq_iff_eq]; omega
    have hfin := Hd (show R = (⟨#[48]⟩, 0) by rw [<- hR.out, if_pos hl0])
    clear hR hl0
    go_wp2
    go_ret2
    exact ⟨by rw [hfin.out]; rfl, hw3⟩
   have hl1 : ((l.length : Int) == 0) = false := by rw [beq_eq_false_iff_ne]; omega
   have hfin := Hd (show R = (polyTo l names l.length, 0) by rw [<- hR.out, if_neg hl0])
   clear hR hl0
   go_wp2
   have hB0 := Bld.new w3
   have hb0 : Below w3.heap.size w3 (w3.alloc (.cells #[.pointer none, .slice none 0 0] 62)) := brf.alloc (nlr _) _
   revert hB0 hb0
   generalize w3.alloc (.cells #[.pointer none, .slice none 0 0] 62) = w4
   intro hB0 hb0
   go_loopg [9, 10, 11, 41] l.length (fun g _ _ _ s41 wr => ∃ (k : Nat) (L : List UInt8), Hid (k + g = l.length) /\ s41 = .int .i64 k /\ Bld w3.heap.size L wr /\ Hid (ofL L = polyTo l names k) /\ Below w3.heap.size w3 wr)
   case atStart => exact ⟨0, [], by show _ = _; omega, rfl, hB0, rfl, hb0⟩
   case round =>
    clear hB0 hb0
    obtain ⟨k, L, hk, rfl, hB, hL, hwr⟩ := hrel
    by_cases hlt : k < l.length
    ·
     obtain ⟨t, ht⟩ := get_of_lt hlt
     have htl := List.mem_of_getElem? ht
     have hp0 := HP.out w brf
     obtain ⟨b, o, rfl, p, hC0, hR0⟩ := hp0.2.2 k t ht
     obtain ⟨c0, c1, c2, c3⟩ := hC0
     have hww := bth hw3 hwr
     have d0 := held c0 wr hww; have d1 := held c1 wr hww; have d2 := held c2 wr hww; have d3 := held c3 wr hww
     have hbl : b < wr.heap.size := World.block_lt_of_cell? wr _ d0
     have HR := Hd (fun W (hW : Below w.heap.size w W) => PartsR.ext hR0 (xbw hW))
     have HC := Hd (fun W (hW : Below w.heap.size w W) => cofA_qk (HR.out W hW) (HPB.out t htl).1 (HQ.out t htl).1 (HQ.out t htl).2)
     have htm := monoB_mem (HPB.out t htl).2
     have htn := bigB_le hbg.out htl
     have HTS := Hd (termB_size HNZ.out (fun x hx => (htm.2 x hx).2) (textT_len (HPB.out t htl).1 (HQ.out t htl).1 (HQ.out t htl).2) htm.1)
     have hplen : L.length <= 1000 * (1400000000 + 3) := by
      have e1 := polyTo_size (l := l) (names := names) (M := 1400000000) (fun u hu => termB_size HNZ.out (fun x hx => ((monoB_mem (HPB.out u hu).2).2 x hx).2) (textT_len (HPB.out u hu).1 (HQ.out u hu).1 (HQ.out u hu).2) (monoB_mem (HPB.out u hu).2).1) k
      rw [<- hL.out, ofL_size] at e1
      exact Nat.le_trans e1 (Nat.mul_le_mul_right _ (by omega))
     have ht2 := Hd ht
     have hsl := sgnQ_lt2 t.coef.q
     have htm2 := Hd htm
     clear c0 c1 c2 c3 hp0 hR0 ht htl hww htm
     go_wp2_with fail
     refine calls_gen (fun W => Blk W wr.heap.size 57 #[.bool t.coef.neg, .slice p.na t.coef.num.length p.nc, .slice p.da t.coef.den.length p.dc, .slice p.aa t.mono.length p.ac] /\ Below wr.heap.size wr W) ⟨by ((with_reducible repeat first|assumption|(apply bF;focus omega)|apply bS|(apply bN;focus (simp;done))|apply bA|apply bD);all_goals rfl), by go_grown⟩ ?_
     rintro w4 ⟨hC4, hb4⟩
     have hB4 := hB.below hb4
     have hw4 := bth hwr hb4
     have hgb : wr.heap.size ≠ w3.heap.size := by have := hB.lt; omega
     obtain ⟨gC, hgC⟩ : ∃ q, wr.heap.size = q := ⟨_, rfl⟩
     rw [hgC] at hC4 hgb hbl ⊢
     replace hgC := Hd hgC
     refine (sign_q (cofA t p) t.coef.q 1000 w4 (HC.out w4 (bth hw3 hw4)) (by omega)).mono ?_
     rintro e w5 ⟨rfl, hb5⟩
     replace hB4 := hB4.below hb5; replace hC4 := hC4.below' hb5; replace hw4 := bth hw4 hb5
     obtain ⟨w4, rfl⟩ : ∃ W, W = w5 := ⟨_, rfl⟩
     obtain ⟨sg, hsg2⟩ : ∃ r, sgnQ t.coef.q = r := ⟨_, rfl⟩
     rw [hsg2] at hsl ⊢
     clear d0 d1 d2 d3 hb4 hb5 hB hwr hsg2
     by_cases hq : t.coef.q < 0
     ·
      rw [decide_eq_true hq] at hsl
      have hsi : sg < 0 := of_decide_eq_true hsl
      by_cases h0 : k = 0
      ·
       have hk0 : ((k : Int) == 0) = true := by rw [beq_iff_eq]; omega
       have hk1 : decide (0 < k) = false := by rw [decide_eq_false]; omega
       have hsg := Hd (show signP k t.coef.q = ofL [45] by unfold signP; rw [if_pos h0, if_pos hq]; rfl)
       clear hsl hq h0
       have CW := Hd (write_any w3.heap.size L (⟨#[45]⟩:ByteArray) w4 hB4 (by show L.length + 1 <= _; omega))
       go_wp2_with fail
       refine CW.out.mono ?_
       rintro e w5 ⟨⟨vv, rfl⟩, hB5, hb5, ho5⟩
       have hC5 := ho5.blk hC4 hgb (by decide)
       have hw5 := hw4.trans hb5
       have hL5 : ofL (L ++ (⟨#[45]⟩:ByteArray).data.toList) = polyTo l names k ++ signP k t.coef.q := by rw [hsg.out, <- hL.out]; exact (ofL_app _ _).symm
       clear hB4 hC4 hb5 ho5 hw4 CW
       have gC5 := hC5.lt
       have k0 := hC5.cell 0; have k1 := hC5.cell 1; have k2' := hC5.cell 2; have k3 := hC5.cell 3
       have CT := Hd (termS_any (cofA t p) t.coef.q t.mono names p.aa na p.ac nc 1000 w5 (HC.out w5 (bth hw3 hw5)) (by omega) (HR.out w5 (bth hw3 hw5)).1 (HN.out w5 (bth hw3 hw5)) htn htm2.out.1 htm2.out.2 HNZ.out (HT.out w5 (bth hw3 hw5)))
       replace hL5 := Hd hL5
       go_wp2_with fail
       refine CT.out.mono ?_
       rintro e w6 ⟨rfl, hb6⟩
       have hB6 := hB5.below hb6
       have hw6 := bth hw5 hb6
       obtain ⟨tb, htb⟩ : ∃ x, termB t.coef.q t.mono names = x := ⟨_, rfl⟩
       have hts := HTS.out
       rw [htb] at hts ⊢
       have hps2 : (polyTo l names (k + 1)) = polyTo l names k ++ signP k t.coef.q ++ tb := by rw [<- htb]; exact polyTo_succ ht2.out
       obtain ⟨L5, hL5e⟩ : ∃ x, L ++ (⟨#[45]⟩ : ByteArray).data.toList = x := ⟨_, rfl⟩
       rw [hL5e] at hL5 hB6
       have hlen5 : L5.length <= 1400000004000 := by
        have e2 := congrArg ByteArray.size hL.out
        rw [ofL_size] at e2
        have e1 := congrArg ByteArray.size hL5.out
        rw [ofL_size, ByteArray.size_append] at e1
        have := signP_size k t.coef.q
        omega
       have CW2 := Hd (write_any w3.heap.size L5 tb w6 hB6 (by omega))
       clear k0 k1 k2' k3 CT hb6 hB5 hC5 gC5 hw5 htb hL5e
       replace hps2 := Hd hps2
       go_wp2_with fail
       refine CW2.out.mono ?_
       rintro e w7 ⟨⟨vv2, rfl⟩, hB7, hb7, ho7⟩
       have hw7 := hw6.trans hb7
       have hL7 : ofL (L5 ++ tb.data.toList) = polyTo l names (k + 1) := by rw [hps2.out, <- hL5.out, <- ofL_app]; rfl
       replace hL7 := Hd hL7
       clear CW2 hB6 hb7 ho7 hw6
       go_wp2
       go_roundg (gk - 1)
       case rel => exact ⟨k + 1, _, by have := hk.out; show _ = _; omega, by go_num, hB7, hL7.out, hw7⟩
       case measure => have := hk.out; omega
      ·
       have hk0 : ((k : Int) == 0) = false := by rw [beq_eq_false_iff_ne]; omega
       have hk1 : decide (0 < k) = true := by rw [decide_eq_true_eq]; omega
       have hsg := Hd (show signP k t.coef.q = ofL [32, 45, 32] by unfold signP; rw [if_neg h0, if_pos hq]; rfl)
       clear hsl hq h0
       have CW := Hd (write_any w3.heap.size L (⟨#[32, 45, 32]⟩:ByteArray) w4 hB4 (by show L.length + 3 <= _; omega))
       go_wp2_with fail
       refine CW.out.mono ?_
       rintro e w5 ⟨⟨vv, rfl⟩, hB5, hb5, ho5⟩
       have hC5 := ho5.blk hC4 hgb (by decide)
       have hw5 := hw4.trans hb5
       have hL5 : ofL (L ++ (⟨#[32, 45, 32]⟩:ByteArray).data.toList) = polyTo l names k ++ signP k t.coef.q := by rw [hsg.out, <- hL.out]; exact (ofL_app _ _).symm
       clear hB4 hC4 hb5 ho5 hw4 CW
       have gC5 := hC5.lt
       have k0 := hC5.cell 0; have k1 := hC5.cell 1; have k2' := hC5.cell 2; have k3 := hC5.cell 3
       have CT := Hd (termS_any (cofA t p) t.coef.q t.mono names p.aa na p.ac nc 1000 w5 (HC.out w5 (bth hw3 hw5)) (by omega) (HR.out w5 (bth hw3 hw5)).1 (HN.out w5 (bth hw3 hw5)) htn htm2.out.1 htm2.out.2 HNZ.out (HT.out w5 (bth hw3 hw5)))
       replace hL5 := Hd hL5
       go_wp2_with fail
       refine CT.out.mono ?_
       rintro e w6 ⟨rfl, hb6⟩
       have hB6 := hB5.below hb6
       have hw6 := bth hw5 hb6
       obtain ⟨tb, htb⟩ : ∃ x, termB t.coef.q t.mono names = x := ⟨_, rfl⟩
       have hts := HTS.out
       rw [htb] at hts ⊢
       have hps2 : (polyTo l names (k + 1)) = polyTo l names k ++ signP k t.coef.q ++ tb := by rw [<- htb]; exact polyTo_succ ht2.out
       obtain ⟨L5, hL5e⟩ : ∃ x, L ++ (⟨#[32, 45, 32]⟩ : ByteArray).data.toList = x := ⟨_, rfl⟩
       rw [hL5e] at hL5 hB6
       have hlen5 : L5.length <= 1400000004000 := by
        have e2 := congrArg ByteArray.size hL.out
        rw [ofL_size] at e2
        have e1 := congrArg ByteArray.size hL5.out
        rw [ofL_size, ByteArray.size_append] at e1
        have := signP_size k t.coef.q
        omega
       have CW2 := Hd (write_any w3.heap.size L5 tb w6 hB6 (by omega))
       clear k0 k1 k2' k3 CT hb6 hB5 hC5 gC5 hw5 htb hL5e
       replace hps2 := Hd hps2
       go_wp2_with fail
       refine CW2.out.mono ?_
       rintro e w7 ⟨⟨vv2, rfl⟩, hB7, hb7, ho7⟩
       have hw7 := hw6.trans hb7
       have hL7 : ofL (L5 ++ tb.data.toList) = polyTo l names (k + 1) := by rw [hps2.out, <- hL5.out, <- ofL_app]; rfl
       replace hL7 := Hd hL7
       clear CW2 hB6 hb7 ho7 hw6
       go_wp2
       go_roundg (gk - 1)
       case rel => exact ⟨k + 1, _, by have := hk.out; show _ = _; omega, by go_num, hB7, hL7.out, hw7⟩
       case measure => have := hk.out; omega
     ·
      rw [decide_eq_false hq] at hsl
      have hsi : ¬ sg < 0 := of_decide_eq_false hsl
      by_cases h0 : k = 0
      ·
       have hk0 : ((k : Int) == 0) = true := by rw [beq_iff_eq]; omega
       have hk1 : decide (0 < k) = false := by rw [decide_eq_false]; omega
       have hsg := Hd (show signP k t.coef.q = ⟨#[]⟩ by unfold signP; rw [if_pos h0, if_neg hq])
       have hL5 : ofL L = polyTo l names k ++ signP k t.coef.q := by rw [hsg.out, <- hL.out]; apply ba_ext; simp [ByteArray.data_append]
       clear hsl hq h0
       obtain ⟨w5, rfl⟩ : ∃ W, W = w4 := ⟨_, rfl⟩
       have hC5 := hC4; have hB5 := hB4; have hw5 := hw4
       clear hC4 hB4 hw4
       have gC5 := hC5.lt
       have k0 := hC5.cell 0; have k1 := hC5.cell 1; have k2' := hC5.cell 2; have k3 := hC5.cell 3
       have CT := Hd (termS_any (cofA t p) t.coef.q t.mono names p.aa na p.ac nc 1000 w5 (HC.out w5 (bth hw3 hw5)) (by omega) (HR.out w5 (bth hw3 hw5)).1 (HN.out w5 (bth hw3 hw5)) htn htm2.out.1 htm2.out.2 HNZ.out (HT.out w5 (bth hw3 hw5)))
       replace hL5 := Hd hL5
       go_wp2_with fail
       refine CT.out.mono ?_
       rintro e w6 ⟨rfl, hb6⟩
       have hB6 := hB5.below hb6
       have hw6 := bth hw5 hb6
       obtain ⟨tb, htb⟩ : ∃ x, termB t.coef.q t.mono names = x := ⟨_, rfl⟩
       have hts := HTS.out
       rw [htb] at hts ⊢
       have hps2 : (polyTo l names (k + 1)) = polyTo l names k ++ signP k t.coef.q ++ tb := by rw [<- htb]; exact polyTo_succ ht2.out
       obtain ⟨L5, hL5e⟩ : ∃ x, L = x := ⟨_, rfl⟩
       rw [hL5e] at hL5 hB6
       have hlen5 : L5.length <= 1400000004000 := by
        have e2 := congrArg ByteArray.size hL.out
        rw [ofL_size] at e2
        have e1 := congrArg ByteArray.size hL5.out
        rw [ofL_size, ByteArray.size_append] at e1
        have := signP_size k t.coef.q
        omega
       have CW2 := Hd (write_any w3.heap.size L5 tb w6 hB6 (by omega))
       clear k0 k1 k2' k3 CT hb6 hB5 hC5 gC5 hw5 htb hL5e
       replace hps2 := Hd hps2
       go_wp2_with fail
       refine CW2.out.mono ?_
       rintro e w7 ⟨⟨vv2, rfl⟩, hB7, hb7, ho7⟩
       have hw7 := hw6.trans hb7
       have hL7 : ofL (L5 ++ tb.data.toList) = polyTo l names (k + 1) := by rw [hps2.out, <- hL5.out, <- ofL_app]; rfl
       replace hL7 := Hd hL7
       clear CW2 hB6 hb7 ho7 hw6
       go_wp2
       go_roundg (gk - 1)
       case rel => exact ⟨k + 1, _, by have := hk.out; show _ = _; omega, by go_num, hB7, hL7.out, hw7⟩
       case measure => have := hk.out; omega
      ·
       have hk0 : ((k : Int) == 0) = false := by rw [beq_eq_false_iff_ne]; omega
       have hk1 : decide (0 < k) = true := by rw [decide_eq_true_eq]; omega
       have hsg := Hd (show signP k t.coef.q = ofL [32, 43, 32] by unfold signP; rw [if_neg h0, if_neg hq]; rfl)
       clear hsl hq h0
       have CW := Hd (write_any w3.heap.size L (⟨#[32, 43, 32]⟩:ByteArray) w4 hB4 (by show L.length + 3 <= _; omega))
       go_wp2_with fail
       refine CW.out.mono ?_
       rintro e w5 ⟨⟨vv, rfl⟩, hB5, hb5, ho5⟩
       have hC5 := ho5.blk hC4 hgb (by decide)
       have hw5 := hw4.trans hb5
       have hL5 : ofL (L ++ (⟨#[32, 43, 32]⟩:ByteArray).data.toList) = polyTo l names k ++ signP k t.coef.q := by rw [hsg.out, <- hL.out]; exact (ofL_app _ _).symm
       clear hB4 hC4 hb5 ho5 hw4 CW
       have gC5 := hC5.lt
       have k0 := hC5.cell 0; have k1 := hC5.cell 1; have k2' := hC5.cell 2; have k3 := hC5.cell 3
       have CT := Hd (termS_any (cofA t p) t.coef.q t.mono names p.aa na p.ac nc 1000 w5 (HC.out w5 (bth hw3 hw5)) (by omega) (HR.out w5 (bth hw3 hw5)).1 (HN.out w5 (bth hw3 hw5)) htn htm2.out.1 htm2.out.2 HNZ.out (HT.out w5 (bth hw3 hw5)))
       replace hL5 := Hd hL5
       go_wp2_with fail
       refine CT.out.mono ?_
       rintro e w6 ⟨rfl, hb6⟩
       have hB6 := hB5.below hb6
       have hw6 := bth hw5 hb6
       obtain ⟨tb, htb⟩ : ∃ x, termB t.coef.q t.mono names = x := ⟨_, rfl⟩
       have hts := HTS.out
       rw [htb] at hts ⊢
       have hps2 : (polyTo l names (k + 1)) = polyTo l names k ++ signP k t.coef.q ++ tb := by rw [<- htb]; exact polyTo_succ ht2.out
       obtain ⟨L5, hL5e⟩ : ∃ x, L ++ (⟨#[32, 43, 32]⟩ : ByteArray).data.toList = x := ⟨_, rfl⟩
       rw [hL5e] at hL5 hB6
       have hlen5 : L5.length <= 1400000004000 := by
        have e2 := congrArg ByteArray.size hL.out
        rw [ofL_size] at e2
        have e1 := congrArg ByteArray.size hL5.out
        rw [ofL_size, ByteArray.size_append] at e1
        have := signP_size k t.coef.q
        omega
       have CW2 := Hd (write_any w3.heap.size L5 tb w6 hB6 (by omega))
       clear k0 k1 k2' k3 CT hb6 hB5 hC5 gC5 hw5 htb hL5e
       replace hps2 := Hd hps2
       go_wp2_with fail
       refine CW2.out.mono ?_
       rintro e w7 ⟨⟨vv2, rfl⟩, hB7, hb7, ho7⟩
       have hw7 := hw6.trans hb7
       have hL7 : ofL (L5 ++ tb.data.toList) = polyTo l names (k + 1) := by rw [hps2.out, <- hL5.out, <- ofL_app]; rfl
       replace hL7 := Hd hL7
       clear CW2 hB6 hb7 ho7 hw6
       go_wp2
       go_roundg (gk - 1)
       case rel => exact ⟨k + 1, _, by have := hk.out; show _ = _; omega, by go_num, hB7, hL7.out, hw7⟩
       case measure => have := hk.out; omega
    ·
     have hkl : k = l.length := by have := hk.out; omega
     have CS := Hd (string_any _ L wr hB)
     have hfin2 : R = (ofL L, 0) := by rw [hfin.out, hL.out, hkl]
     clear hfin hL hkl
     go_wp2_with fail
     refine CS.out.mono ?_
     rintro e w5 ⟨rfl, hb5, _⟩
     have hfin := Hd hfin2
     clear hfin2 CS
     go_wp2
     go_ret2
     exact ⟨by rw [hfin.out]; rfl, bth hw3 (hwr.trans hb5)⟩
  ·
   obtain ⟨v, hv⟩ := get_of_lt (xs := varsI l 64) (k := (varsI l 64).length - 1) (by omega)
   have hv1 : decide (0 < (varsI l 64).length) = true := by rw [decide_eq_true_eq]; omega
   have hbv := hbl.out v hv
   rw [hbg.out] at hbv
   obtain ⟨bv, ov, rfl, hcv, hvw⟩ := hV.2.2 _ v hv
   simp only [Nat.mul_one] at hcv
   have hvi := inInt_of hvw
   have hle : (varsI l 64).length - 1 < (varsI l 64).length := by omega
   have hcl : (((varsI l 64).length : Int) - 1) = (((varsI l 64).length - 1 : Nat) : Int) := by omega
   clear hvw hbn hbl hv hV
   by_cases hbig : (names.length : Int) <= v
   ·
    have hbt : bg = true := by rw [hbv]; exact decide_eq_true hbig
    subst hbt
    rw [if_pos rfl] at hR
    have hfin := Hd hR.symm
    clear hR hbv
    go_wp2
    go_ret2
    exact ⟨by rw [hfin.out]; rfl, hw3⟩
   ·
    have hbt : bg = false := by rw [hbv]; exact decide_eq_false hbig
    subst hbt
    rw [if_neg (by simp)] at hR
    replace hR := Hd hR
    clear hbv
    by_cases hl0 : l.length = 0
    ·
     have hl1 : ((l.length : Int) == 0) = true := by rw [beq_iff_eq]; omega
     have hfin := Hd (show R = (⟨#[48]⟩, 0) by rw [<- hR.out, if_pos hl0])
     clear hR hl0
     go_wp2
     go_ret2
     exact ⟨by rw [hfin.out]; rfl, hw3⟩
    have hl1 : ((l.length : Int) == 0) = false := by rw [beq_eq_false_iff_ne]; omega
    have hfin := Hd (show R = (polyTo l names l.length, 0) by rw [<- hR.out, if_neg hl0])
    clear hR hl0
    go_wp2
    have hB0 := Bld.new w3
    have hb0 : Below w3.heap.size w3 (w3.alloc (.cells #[.pointer none, .slice none 0 0] 62)) := brf.alloc (nlr _) _
    revert hB0 hb0
    generalize w3.alloc (.cells #[.pointer none, .slice none 0 0] 62) = w4
    intro hB0 hb0
    go_loopg [9, 10, 11, 41] l.length (fun g _ _ _ s41 wr => ∃ (k : Nat) (L : List UInt8), Hid (k + g = l.length) /\ s41 = .int .i64 k /\ Bld w3.heap.size L wr /\ Hid (ofL L = polyTo l names k) /\ Below w3.heap.size w3 wr)
    case atStart => exact ⟨0, [], by show _ = _; omega, rfl, hB0, rfl, hb0⟩
    case round =>
     clear hB0 hb0
     obtain ⟨k, L, hk, rfl, hB, hL, hwr⟩ := hrel
     by_cases hlt : k < l.length
     ·
      obtain ⟨t, ht⟩ := get_of_lt hlt
      have htl := List.mem_of_getElem? ht
      have hp0 := HP.out w brf
      obtain ⟨b, o, rfl, p, hC0, hR0⟩ := hp0.2.2 k t ht
      obtain ⟨c0, c1, c2, c3⟩ := hC0
      have hww := bth hw3 hwr
      have d0 := held c0 wr hww; have d1 := held c1 wr hww; have d2 := held c2 wr hww; have d3 := held c3 wr hww
      have hbl : b < wr.heap.size := World.block_lt_of_cell? wr _ d0
      have HR := Hd (fun W (hW : Below w.heap.size w W) => PartsR.ext hR0 (xbw hW))
      have HC := Hd (fun W (hW : Below w.heap.size w W) => cofA_qk (HR.out W hW) (HPB.out t htl).1 (HQ.out t htl).1 (HQ.out t htl).2)
      have htm := monoB_mem (HPB.out t htl).2
      have htn := bigB_le hbg.out htl
      have HTS := Hd (termB_size HNZ.out (fun x hx => (htm.2 x hx).2) (textT_len (HPB.out t htl).1 (HQ.out t htl).1 (HQ.out t htl).2) htm.1)
      have hplen : L.length <= 1000 * (1400000000 + 3) := by
       have e1 := polyTo_size (l := l) (names := names) (M := 1400000000) (fun u hu => termB_size HNZ.out (fun x hx => ((monoB_mem (HPB.out u hu).2).2 x hx).2) (textT_len (HPB.out u hu).1 (HQ.out u hu).1 (HQ.out u hu).2) (monoB_mem (HPB.out u hu).2).1) k
       rw [<- hL.out, ofL_size] at e1
       exact Nat.le_trans e1 (Nat.mul_le_mul_right _ (by omega))
      have ht2 := Hd ht
      have hsl := sgnQ_lt2 t.coef.q
      have htm2 := Hd htm
      clear c0 c1 c2 c3 hp0 hR0 ht htl hww htm
      go_wp2_with fail
      refine calls_gen (fun W => Blk W wr.heap.size 57 #[.bool t.coef.neg, .slice p.na t.coef.num.length p.nc, .slice p.da t.coef.den.length p.dc, .slice p.aa t.mono.length p.ac] /\ Below wr.heap.size wr W) ⟨by ((with_reducible repeat first|assumption|(apply bF;focus omega)|apply bS|(apply bN;focus (simp;done))|apply bA|apply bD);all_goals rfl), by go_grown⟩ ?_
      rintro w4 ⟨hC4, hb4⟩
      have hB4 := hB.below hb4
      have hw4 := bth hwr hb4
      have hgb : wr.heap.size ≠ w3.heap.size := by have := hB.lt; omega
      obtain ⟨gC, hgC⟩ : ∃ q, wr.heap.size = q := ⟨_, rfl⟩
      rw [hgC] at hC4 hgb hbl ⊢
      replace hgC := Hd hgC
      refine (sign_q (cofA t p) t.coef.q 1000 w4 (HC.out w4 (bth hw3 hw4)) (by omega)).mono ?_
      rintro e w5 ⟨rfl, hb5⟩
      replace hB4 := hB4.below hb5; replace hC4 := hC4.below' hb5; replace hw4 := bth hw4 hb5
      obtain ⟨w4, rfl⟩ : ∃ W, W = w5 := ⟨_, rfl⟩
      obtain ⟨sg, hsg2⟩ : ∃ r, sgnQ t.coef.q = r := ⟨_, rfl⟩
      rw [hsg2] at hsl ⊢
      clear d0 d1 d2 d3 hb4 hb5 hB hwr hsg2
      by_cases hq : t.coef.q < 0
      ·
       rw [decide_eq_true hq] at hsl
       have hsi : sg < 0 := of_decide_eq_true hsl
       by_cases h0 : k = 0
       ·
        have hk0 : ((k : Int) == 0) = true := by rw [beq_iff_eq]; omega
        have hk1 : decide (0 < k) = false := by rw [decide_eq_false]; omega
        have hsg := Hd (show signP k t.coef.q = ofL [45] by unfold signP; rw [if_pos h0, if_pos hq]; rfl)
        clear hsl hq h0
        have CW := Hd (write_any w3.heap.size L (⟨#[45]⟩:ByteArray) w4 hB4 (by show L.length + 1 <= _; omega))
        go_wp2_with fail
        refine CW.out.mono ?_
        rintro e w5 ⟨⟨vv, rfl⟩, hB5, hb5, ho5⟩
        have hC5 := ho5.blk hC4 hgb (by decide)
        have hw5 := hw4.trans hb5
        have hL5 : ofL (L ++ (⟨#[45]⟩:ByteArray).data.toList) = polyTo l names k ++ signP k t.coef.q := by rw [hsg.out, <- hL.out]; exact (ofL_app _ _).symm
        clear hB4 hC4 hb5 ho5 hw4 CW
        have gC5 := hC5.lt
        have k0 := hC5.cell 0; have k1 := hC5.cell 1; have k2' := hC5.cell 2; have k3 := hC5.cell 3
        have CT := Hd (termS_any (cofA t p) t.coef.q t.mono names p.aa na p.ac nc 1000 w5 (HC.out w5 (bth hw3 hw5)) (by omega) (HR.out w5 (bth hw3 hw5)).1 (HN.out w5 (bth hw3 hw5)) htn htm2.out.1 htm2.out.2 HNZ.out (HT.out w5 (bth hw3 hw5)))
        replace hL5 := Hd hL5
        go_wp2_with fail
        refine CT.out.mono ?_
        rintro e w6 ⟨rfl, hb6⟩
        have hB6 := hB5.below hb6
        have hw6 := bth hw5 hb6
        obtain ⟨tb, htb⟩ : ∃ x, termB t.coef.q t.mono names = x := ⟨_, rfl⟩
        have hts := HTS.out
        rw [htb] at hts ⊢
        have hps2 : (polyTo l names (k + 1)) = polyTo l names k ++ signP k t.coef.q ++ tb := by rw [<- htb]; exact polyTo_succ ht2.out
        obtain ⟨L5, hL5e⟩ : ∃ x, L ++ (⟨#[45]⟩ : ByteArray).data.toList = x := ⟨_, rfl⟩
        rw [hL5e] at hL5 hB6
        have hlen5 : L5.length <= 1400000004000 := by
         have e2 := congrArg ByteArray.size hL.out
         rw [ofL_size] at e2
         have e1 := congrArg ByteArray.size hL5.out
         rw [ofL_size, ByteArray.size_append] at e1
         have := signP_size k t.coef.q
         omega
        have CW2 := Hd (write_any w3.heap.size L5 tb w6 hB6 (by omega))
        clear k0 k1 k2' k3 CT hb6 hB5 hC5 gC5 hw5 htb hL5e
        replace hps2 := Hd hps2
        go_wp2_with fail
        refine CW2.out.mono ?_
        rintro e w7 ⟨⟨vv2, rfl⟩, hB7, hb7, ho7⟩
        have hw7 := hw6.trans hb7
        have hL7 : ofL (L5 ++ tb.data.toList) = polyTo l names (k + 1) := by rw [hps2.out, <- hL5.out, <- ofL_app]; rfl
        replace hL7 := Hd hL7
        clear CW2 hB6 hb7 ho7 hw6
        go_wp2
        go_roundg (gk - 1)
        case rel => exact ⟨k + 1, _, by have := hk.out; show _ = _; omega, by go_num, hB7, hL7.out, hw7⟩
        case measure => have := hk.out; omega
       ·
        have hk0 : ((k : Int) == 0) = false := by rw [beq_eq_false_iff_ne]; omega
        have hk1 : decide (0 < k) = true := by rw [decide_eq_true_eq]; omega
        have hsg := Hd (show signP k t.coef.q = ofL [32, 45, 32] by unfold signP; rw [if_neg h0, if_pos hq]; rfl)
        clear hsl hq h0
        have CW := Hd (write_any w3.heap.size L (⟨#[32, 45, 32]⟩:ByteArray) w4 hB4 (by show L.length + 3 <= _; omega))
        go_wp2_with fail
        refine CW.out.mono ?_
        rintro e w5 ⟨⟨vv, rfl⟩, hB5, hb5, ho5⟩
        have hC5 := ho5.blk hC4 hgb (by decide)
        have hw5 := hw4.trans hb5
        have hL5 : ofL (L ++ (⟨#[32, 45, 32]⟩:ByteArray).data.toList) = polyTo l names k ++ signP k t.coef.q := by rw [hsg.out, <- hL.out]; exact (ofL_app _ _).symm
        clear hB4 hC4 hb5 ho5 hw4 CW
        have gC5 := hC5.lt
        have k0 := hC5.cell 0; have k1 := hC5.cell 1; have k2' := hC5.cell 2; have k3 := hC5.cell 3
        have CT := Hd (termS_any (cofA t p) t.coef.q t.mono names p.aa na p.ac nc 1000 w5 (HC.out w5 (bth hw3 hw5)) (by omega) (HR.out w5 (bth hw3 hw5)).1 (HN.out w5 (bth hw3 hw5)) htn htm2.out.1 htm2.out.2 HNZ.out (HT.out w5 (bth hw3 hw5)))
        replace hL5 := Hd hL5
        go_wp2_with fail
        refine CT.out.mono ?_
        rintro e w6 ⟨rfl, hb6⟩
        have hB6 := hB5.below hb6
        have hw6 := bth hw5 hb6
        obtain ⟨tb, htb⟩ : ∃ x, termB t.coef.q t.mono names = x := ⟨_, rfl⟩
        have hts := HTS.out
        rw [htb] at hts ⊢
        have hps2 : (polyTo l names (k + 1)) = polyTo l names k ++ signP k t.coef.q ++ tb := by rw [<- htb]; exact polyTo_succ ht2.out
        obtain ⟨L5, hL5e⟩ : ∃ x, L ++ (⟨#[32, 45, 32]⟩ : ByteArray).data.toList = x := ⟨_, rfl⟩
        rw [hL5e] at hL5 hB6
        have hlen5 : L5.length <= 1400000004000 := by
         have e2 := congrArg ByteArray.size hL.out
         rw [ofL_size] at e2
         have e1 := congrArg ByteArray.size hL5.out
         rw [ofL_size, ByteArray.size_append] at e1
         have := signP_size k t.coef.q
         omega
        have CW2 := Hd (write_any w3.heap.size L5 tb w6 hB6 (by omega))
        clear k0 k1 k2' k3 CT hb6 hB5 hC5 gC5 hw5 htb hL5e
        replace hps2 := Hd hps2
        go_wp2_with fail
        refine CW2.out.mono ?_
        rintro e w7 ⟨⟨vv2, rfl⟩, hB7, hb7, ho7⟩
        have hw7 := hw6.trans hb7
        have hL7 : ofL (L5 ++ tb.data.toList) = polyTo l names (k + 1) := by rw [hps2.out, <- hL5.out, <- ofL_app]; rfl
        replace hL7 := Hd hL7
        clear CW2 hB6 hb7 ho7 hw6
        go_wp2
        go_roundg (gk - 1)
        case rel => exact ⟨k + 1, _, by have := hk.out; show _ = _; omega, by go_num, hB7, hL7.out, hw7⟩
        case measure => have := hk.out; omega
      ·
       rw [decide_eq_false hq] at hsl
       have hsi : ¬ sg < 0 := of_decide_eq_false hsl
       by_cases h0 : k = 0
       ·
        have hk0 : ((k : Int) == 0) = true := by rw [beq_iff_eq]; omega
        have hk1 : decide (0 < k) = false := by rw [decide_eq_false]; omega
        have hsg := Hd (show signP k t.coef.q = ⟨#[]⟩ by unfold signP; rw [if_pos h0, if_neg hq])
        have hL5 : ofL L = polyTo l names k ++ signP k t.coef.q := by rw [hsg.out, <- hL.out]; apply ba_ext; simp [ByteArray.data_append]
        clear hsl hq h0
        obtain ⟨w5, rfl⟩ : ∃ W, W = w4 := ⟨_, rfl⟩
        have hC5 := hC4; have hB5 := hB4; have hw5 := hw4
        clear hC4 hB4 hw4
        have gC5 := hC5.lt
        have k0 := hC5.cell 0; have k1 := hC5.cell 1; have k2' := hC5.cell 2; have k3 := hC5.cell 3
        have CT := Hd (termS_any (cofA t p) t.coef.q t.mono names p.aa na p.ac nc 1000 w5 (HC.out w5 (bth hw3 hw5)) (by omega) (HR.out w5 (bth hw3 hw5)).1 (HN.out w5 (bth hw3 hw5)) htn htm2.out.1 htm2.out.2 HNZ.out (HT.out w5 (bth hw3 hw5)))
        replace hL5 := Hd hL5
        go_wp2_with fail
        refine CT.out.mono ?_
        rintro e w6 ⟨rfl, hb6⟩
        have hB6 := hB5.below hb6
        have hw6 := bth hw5 hb6
        obtain ⟨tb, htb⟩ : ∃ x, termB t.coef.q t.mono names = x := ⟨_, rfl⟩
        have hts := HTS.out
        rw [htb] at hts ⊢
        have hps2 : (polyTo l names (k + 1)) = polyTo l names k ++ signP k t.coef.q ++ tb := by rw [<- htb]; exact polyTo_succ ht2.out
        obtain ⟨L5, hL5e⟩ : ∃ x, L = x := ⟨_, rfl⟩
        rw [hL5e] at hL5 hB6
        have hlen5 : L5.length <= 1400000004000 := by
         have e2 := congrArg ByteArray.size hL.out
         rw [ofL_size] at e2
         have e1 := congrArg ByteArray.size hL5.out
         rw [ofL_size, ByteArray.size_append] at e1
         have := signP_size k t.coef.q
         omega
        have CW2 := Hd (write_any w3.heap.size L5 tb w6 hB6 (by omega))
        clear k0 k1 k2' k3 CT hb6 hB5 hC5 gC5 hw5 htb hL5e
        replace hps2 := Hd hps2
        go_wp2_with fail
        refine CW2.out.mono ?_
        rintro e w7 ⟨⟨vv2, rfl⟩, hB7, hb7, ho7⟩
        have hw7 := hw6.trans hb7
        have hL7 : ofL (L5 ++ tb.data.toList) = polyTo l names (k + 1) := by rw [hps2.out, <- hL5.out, <- ofL_app]; rfl
        replace hL7 := Hd hL7
        clear CW2 hB6 hb7 ho7 hw6
        go_wp2
        go_roundg (gk - 1)
        case rel => exact ⟨k + 1, _, by have := hk.out; show _ = _; omega, by go_num, hB7, hL7.out, hw7⟩
        case measure => have := hk.out; omega
       ·
        have hk0 : ((k : Int) == 0) = false := by rw [beq_eq_false_iff_ne]; omega
        have hk1 : decide (0 < k) = true := by rw [decide_eq_true_eq]; omega
        have hsg := Hd (show signP k t.coef.q = ofL [32, 43, 32] by unfold signP; rw [if_neg h0, if_neg hq]; rfl)
        clear hsl hq h0
        have CW := Hd (write_any w3.heap.size L (⟨#[32, 43, 32]⟩:ByteArray) w4 hB4 (by show L.length + 3 <= _; omega))
        go_wp2_with fail
        refine CW.out.mono ?_
        rintro e w5 ⟨⟨vv, rfl⟩, hB5, hb5, ho5⟩
        have hC5 := ho5.blk hC4 hgb (by decide)
        have hw5 := hw4.trans hb5
        have hL5 : ofL (L ++ (⟨#[32, 43, 32]⟩:ByteArray).data.toList) = polyTo l names k ++ signP k t.coef.q := by rw [hsg.out, <- hL.out]; exact (ofL_app _ _).symm
        clear hB4 hC4 hb5 ho5 hw4 CW
        have gC5 := hC5.lt
        have k0 := hC5.cell 0; have k1 := hC5.cell 1; have k2' := hC5.cell 2; have k3 := hC5.cell 3
        have CT := Hd (termS_any (cofA t p) t.coef.q t.mono names p.aa na p.ac nc 1000 w5 (HC.out w5 (bth hw3 hw5)) (by omega) (HR.out w5 (bth hw3 hw5)).1 (HN.out w5 (bth hw3 hw5)) htn htm2.out.1 htm2.out.2 HNZ.out (HT.out w5 (bth hw3 hw5)))
        replace hL5 := Hd hL5
        go_wp2_with fail
        refine CT.out.mono ?_
        rintro e w6 ⟨rfl, hb6⟩
        have hB6 := hB5.below hb6
        have hw6 := bth hw5 hb6
        obtain ⟨tb, htb⟩ : ∃ x, termB t.coef.q t.mono names = x := ⟨_, rfl⟩
        have hts := HTS.out
        rw [htb] at hts ⊢
        have hps2 : (polyTo l names (k + 1)) = polyTo l names k ++ signP k t.coef.q ++ tb := by rw [<- htb]; exact polyTo_succ ht2.out
        obtain ⟨L5, hL5e⟩ : ∃ x, L ++ (⟨#[32, 43, 32]⟩ : ByteArray).data.toList = x := ⟨_, rfl⟩
        rw [hL5e] at hL5 hB6
        have hlen5 : L5.length <= 1400000004000 := by
         have e2 := congrArg ByteArray.size hL.out
         rw [ofL_size] at e2
         have e1 := congrArg ByteArray.size hL5.out
         rw [ofL_size, ByteArray.size_append] at e1
         have := signP_size k t.coef.q
         omega
        have CW2 := Hd (write_any w3.heap.size L5 tb w6 hB6 (by omega))
        clear k0 k1 k2' k3 CT hb6 hB5 hC5 gC5 hw5 htb hL5e
        replace hps2 := Hd hps2
        go_wp2_with fail
        refine CW2.out.mono ?_
        rintro e w7 ⟨⟨vv2, rfl⟩, hB7, hb7, ho7⟩
        have hw7 := hw6.trans hb7
        have hL7 : ofL (L5 ++ tb.data.toList) = polyTo l names (k + 1) := by rw [hps2.out, <- hL5.out, <- ofL_app]; rfl
        replace hL7 := Hd hL7
        clear CW2 hB6 hb7 ho7 hw6
        go_wp2
        go_roundg (gk - 1)
        case rel => exact ⟨k + 1, _, by have := hk.out; show _ = _; omega, by go_num, hB7, hL7.out, hw7⟩
        case measure => have := hk.out; omega
     ·
      have hkl : k = l.length := by have := hk.out; omega
      have CS := Hd (string_any _ L wr hB)
      have hfin2 : R = (ofL L, 0) := by rw [hfin.out, hL.out, hkl]
      clear hfin hL hkl
      go_wp2_with fail
      refine CS.out.mono ?_
      rintro e w5 ⟨rfl, hb5, _⟩
      have hfin := Hd hfin2
      clear hfin2 CS
      go_wp2
      go_ret2
      exact ⟨by rw [hfin.out]; rfl, bth hw3 (hwr.trans hb5)⟩
 ·
  rw [if_neg he] at hR
  have hfin := Hd hR.symm
  have hne : (er != 0) = true := by simpa using he
  clear hR he her
  go_enter Tryz.func13, Tryz.ntmps13
  go_wp2_with fail
  refine CR.out.mono ?_
  rintro e w1 ⟨rfl, hb1⟩
  go_wp2_with fail
  refine (CK.out w1 hb1).mono ?_
  rintro e w2 ⟨rfl, hb2⟩
  go_wp2
  go_ret2
  exact ⟨by rw [hfin.out]; rfl, bth hb1 hb2⟩
def trmOf (u : Tm) : Trm := ⟨⟨decide (u.1.num < 0), limbs u.1.num.natAbs, limbs u.1.den⟩, u.2⟩
theorem trmQ_of (u : Tm) : trmQ (trmOf u) = u := by
 unfold trmQ trmOf Rt.q
 dsimp only
 rw [val_limbs, val_limbs, qv_parts]
theorem right_of (q : Rat) : (Rt.mk (decide (q.num < 0)) (limbs q.num.natAbs) (limbs q.den)).right = true := by
 unfold Rt.right rightI canonB
 simp only [Bool.and_eq_true, decide_eq_true_eq, Bool.not_eq_true', Bool.and_eq_false_iff, decide_eq_false_iff_not]
 rw [val_limbs, val_limbs]
 have hd := limbs_len_pos.2 (Nat.pos_of_ne_zero q.den_nz)
 refine ⟨⟨⟨⟨rfl, ?_⟩, rfl⟩, q.reduced⟩, by omega⟩
 by_cases h : q.num < 0
 ·
  right
  have := limbs_len_pos.2 (show 0 < q.num.natAbs by omega)
  omega
 · left; exact h
theorem okT_of {u : Tm} (h : Mok 1048576 u.2) (h0 : u.1 ≠ 0) : okT (trmOf u) = true := by
 unfold okT
 have h1 : (trmOf u).coef.right = true := right_of u.1
 have h2 : ¬ val (trmOf u).coef.num = 0 := by
  show ¬ val (limbs u.1.num.natAbs) = 0
  rw [val_limbs]
  intro e
  exact h0 (Rat.num_eq_zero.1 (by omega))
 have h3 : monoB (trmOf u).mono = true := by
  show monoB u.2 = true
  refine monoB_good h.2.2 h.2.1 ?_
  rw [List.all_eq_true]
  exact fun x hx => by simpa using h.1 x hx
 rw [h1, h3, decide_eq_false h2]
 rfl
theorem polyB_of {p : List Tm} (h : Pok 1048576 p) : polyB (p.map trmOf) = true := by
 refine polyB_good fun i hi => ?_
 rw [List.length_map] at hi
 have hu := List.getElem?_eq_getElem hi
 have ht : (p.map trmOf)[i]? = some (trmOf p[i]) := by rw [List.getElem?_map, hu]; rfl
 have hok := okT_of (h.1 _ (List.getElem_mem hi)).1 (h.1 _ (List.getElem_mem hi)).2
 cases i with
 | zero => exact badAt_zero ht hok
 | succ j =>
  have hj : j < p.length := by omega
  have hs : (p.map trmOf)[j]? = some (trmOf p[j]) := by rw [List.getElem?_map, List.getElem?_eq_getElem hj]; rfl
  rw [badAt_succ ht hs hok, decide_eq_false_iff_not]
  have := (List.pairwise_iff_getElem.1 h.2) j (j + 1) hj hi (Nat.lt_succ_self _)
  have := lexI_pos.2 this
  show ¬ lexI p[j].2 p[j + 1].2 <= 0
  omega
theorem map_of (p : List Tm) : (p.map trmOf).map trmQ = p := by
 rw [List.map_map]
 conv => rhs; rw [<- List.map_id p]
 exact List.map_congr_left fun u _ => trmQ_of u
theorem PolX.list {X : Nat -> Prop} {w : World} {a : Option Addr} {c : Nat} {p : List Tm} (h : PolX X w a c p) : PolyR w a c (p.map trmOf) := by
 obtain ⟨l, h1, h2⟩ := h
 have hr := h1.now
 refine ⟨by rw [List.length_map, <- h2.1]; exact hr.1, hr.2.1, fun k x hx => ?_⟩
 rw [List.getElem?_map] at hx
 obtain ⟨u, hu, rfl⟩ := Option.map_eq_some_iff.1 hx
 obtain ⟨t, ht⟩ := get_of_lt (xs := l) (k := k) (by rw [h2.1]; exact lt_of_get hu)
 obtain ⟨b, off, ha, c0, c1, c2, c3⟩ := hr.2.2 k t ht
 obtain ⟨⟨e1, e2, e3, n1, n2⟩, hi, hn⟩ := (h2.2 k t u ht hu).now
 refine ⟨b, off, ha, ⟨⟨t.a, t.c, t.x.a, t.x.c, t.x.b, t.x.d⟩, ⟨?_, ?_, ?_, ?_⟩, ?_⟩⟩
 · rw [c0, e1]; rfl
 · rw [c1, e2]; rfl
 · rw [c2, e3]; rfl
 · rw [c3, hn]; rfl
 · exact ⟨hi, n1, n2⟩
def FewT (l : List Trm) : Prop := ∀ t ∈ l, t.coef.num.length <= 1000 /\ t.coef.den.length <= 1000
theorem few_of {p : List Tm} (h : FineP p) : FewT (p.map trmOf) := fun t ht => by
 obtain ⟨u, hu, rfl⟩ := List.mem_map.1 ht
 have := (h.2 u hu).2.2
 have h1 := qsz_num u.1
 have h2 := qsz_den u.1
 exact ⟨by show (limbs _).length <= _; omega, by show (limbs _).length <= _; omega⟩
def EnvC (names : List ByteArray) (na : Option Addr) (nc : Nat) (W : World) : Prop := StrsR W na nc names /\ MaxL W /\ ErrW W /\ ErrS W /\ TabW W
theorem normP_len (l : List Tm) : (normP l).length <= l.length := by
 have key : ∀ (l p : List Tm), (l.foldl (fun p t => addP p (oneP t)) p).length <= p.length + l.length := by
  intro l
  induction l with
  | nil => intro p; simp
  | cons t l ih =>
   intro p
   rw [List.foldl_cons, List.length_cons]
   have h1 := ih (addP p (oneP t))
   have h2 := addP_len p (oneP t)
   have h3 : (oneP t).length <= 1 := by unfold oneP; split <;> simp
   omega
 have := key l []
 simpa [normP] using this
theorem wtP_len2 (l : List Tm) : 2 * l.length <= wtP l := by
 unfold wtP
 induction l with
 | nil => simp
 | cons t l ih =>
  rw [List.map_cons, List.sum_cons, List.length_cons]
  have : 1 <= qsz t.1 := by
   have := qsz_den t.1
   have := limbs_len_pos.2 (Nat.pos_of_ne_zero t.1.den_nz)
   omega
  omega
theorem readP_few {names : List ByteArray} {l : List UInt8} {p : List Tm} {r : List UInt8} (hW : Wok names l) (h : readP names l = .ok p r) : p.length <= 500 /\ Pok 1048576 p := by
 unfold readP at h
 obtain ⟨L, s, h1, h2⟩ := bnd_ok h
 injection h2 with h2 _
 have h3 := hW L s h1
 have h4 := wtP_len2 L
 have h5 := normP_len L
 rw [h2] at h5
 have h6 := (normP_ok (reaG_ok h1).2).1
 rw [h2] at h6
 exact ⟨by omega, h6⟩
def RetCp (X : Nat -> Prop) (G : Option (List Tm) × Int) (w : World) (e : Ending) (w' : World) : Prop := ∃ (a : Option Addr) (n c : Nat) (er : Int), e = .returned (.tuple #[.slice a n c, .int .i64 er]) /\ Below w.heap.size w w' /\
 (∀ p x, G = (some p, x) -> n = p.length /\ PolX X w' a c p /\ er = 0) /\ (∀ x, G = (none, x) -> er = x /\ x ≠ 0)
theorem polyC_any (X : Nat -> Prop) (g : Nat) (names : List ByteArray) (na : Option Addr) (nc : Nat) (s : ByteArray) (v1 v2 v3 v4 v5 : Value) (w : World) (hX : ∀ b, X b -> b < w.heap.size)
  (hg : Blk w g 87 #[.slice na names.length nc, v1, v2, v3, v4, v5]) (hE : ∀ W, Below w.heap.size w W -> EnvC names na nc W) (hnz : ∀ x ∈ names, x.size <= 1048576) (hnl : names.length <= 1000) (hs : s.size <= 281474976710656) (hW : Wok names s.data.toList) :
  Calls Tryz.prog 92 #[.pointer (some ⟨g, 0, none⟩), .string s] w (RetCp X (polC names s.data.toList) w) := by
 have CR := Hd (readX_any X s names na nc w (hE w brf).1 hnz hnl hs hW (hE w brf).2.2.1 hX)
 have HN := Hd (fun W (hW : Below w.heap.size w W) => (hE W hW).1)
 have HT := Hd (fun W (hW : Below w.heap.size w W) => (hE W hW).2.2.2.2)
 have HNZ := Hd hnz
 have HW := Hd hW
 obtain ⟨G, hG⟩ : ∃ G, polC names s.data.toList = G := ⟨_, rfl⟩
 rw [hG]
 unfold polC at hG
 have z0 := hg.cell 0
 have hl := hg.lt
 have HB := Hd hg
 clear hE hnz hW hg
 go_enter Tryz.func92, Tryz.ntmps92
 go_wp2_with fail
 refine CR.out.mono ?_
 rintro e w1 ⟨a, n, c, at_, er, rfl, hb1, hbad, hok⟩
 clear CR
 by_cases hn0 : errNm names = 0
 ·
  have hok1 := hok hn0
  rw [if_pos hn0] at hG
  replace hn0 := Hd hn0
  clear hok hbad
  cases hR : readP names s.data.toList with
  | bad k er2 =>
   rw [hR] at hok1 hG
   obtain ⟨rfl, rfl, rfl, rfl, he0, hk⟩ := hok1
   subst hG
   have hne : (er != 0) = true := by simpa using he0
   replace he0 := Hd he0
   clear hR hk
   go_wp2
   go_ret2
   exact ⟨none, 0, 0, er, rfl, hb1, (fun p x e => by injection e with e; cases e), fun x e => by injection e with _ e; exact ⟨e, by rw [<- e]; exact he0.out⟩⟩
  | ok p r =>
   rw [hR] at hok1 hG
   obtain ⟨rfl, hP, rfl, rfl, hF⟩ := hok1
   obtain ⟨hpl, hpk⟩ := readP_few HW.out hR
   have hq := hP.list
   have hlm : (p.map trmOf).length = p.length := List.length_map _
   have hqb := polyB_of hpk
   have hpt := printT_of (names := names) hqb
   rw [map_of] at hpt
   have CP := fun W (hW : Below w1.heap.size w1 W) => printS_any (p.map trmOf) names a na c nc W (hq.ext (xbw hW)) (few_of hF) (by rw [hlm]; omega) (HN.out W (bth hb1 hW)) hnl HNZ.out (HT.out W (bth hb1 hW))
   rw [hpt, hlm] at CP
   dsimp only at hG
   obtain ⟨T, hT⟩ : ∃ T, printT names p = T := ⟨_, rfl⟩
   rw [hT] at CP hG
   obtain ⟨t, te⟩ := T
   dsimp only at CP
   replace CP := Hd CP
   have z1 := (HB.out.below' hb1).cell 0
   have hl1 := (HB.out.below' hb1).lt
   replace hP := Hd hP
   obtain ⟨n, hn⟩ : ∃ n, p.length = n := ⟨_, rfl⟩
   rw [hn] at CP ⊢
   have hn' := Hd hn
   clear z0 hl hR hF hpl hpk hq hlm hqb hpt hT hn
   go_wp2_with fail
   refine (CP.out w1 brf).mono ?_
   rintro e w2 ⟨rfl, hb2⟩
   clear CP
   by_cases he0 : te = 0
   ·
    subst he0
    obtain ⟨b, hb⟩ : ∃ b, ((ofL t).toList == s.toList) = b := ⟨_, rfl⟩
    have hb' := hb
    rw [str_beq] at hb'
    cases b
    ·
     have hbn : ((ofL t).toList != s.toList) = true := by rw [bne, hb]; rfl
     rw [decide_eq_false_iff_not] at hb'
     rw [if_neg (fun e => hb' (by injection e with e _; rw [e, ofL_data]))] at hG
     subst hG
     replace hb' := Hd hb'
     go_wp2
     go_ret2
     exact ⟨none, 0, 0, 9, rfl, bth hb1 hb2, (fun p x e => by injection e with e; cases e), fun x e => by injection e with _ e; exact ⟨e, by rw [<- e]; decide⟩⟩
    ·
     have hbn : ((ofL t).toList != s.toList) = false := by rw [bne, hb]; rfl
     rw [decide_eq_true_iff] at hb'
     rw [if_pos (show (t, (0 : Int)) = (s.data.toList, 0) by rw [<- hb', data_ofL])] at hG
     subst hG
     replace hb' := Hd hb'
     have hP2 := Hd (hP.out.call hb2)
     go_wp2
     go_ret2
     exact ⟨a, n, c, 0, rfl, bth hb1 hb2, (fun q x e => by injection e with e _; injection e with e; subst e; exact ⟨hn'.out.symm, hP2.out, rfl⟩), fun x e => by injection e with e _; cases e⟩
   ·
    have hne : (te != 0) = true := by simpa using he0
    rw [if_neg (fun e => he0 (by injection e))] at hG
    subst hG
    replace he0 := Hd he0
    go_wp2
    go_ret2
    exact ⟨none, 0, 0, 9, rfl, bth hb1 hb2, (fun p x e => by injection e with e; cases e), fun x e => by injection e with _ e; exact ⟨e, by rw [<- e]; decide⟩⟩
 ·
  obtain ⟨rfl, rfl, rfl, rfl⟩ := hbad hn0
  rw [if_neg hn0] at hG
  subst hG
  obtain ⟨er, her⟩ : ∃ er, errNm names = er := ⟨_, rfl⟩
  simp only [her] at hn0 ⊢
  have hne : (er != 0) = true := by simpa using hn0
  replace hn0 := Hd hn0; replace her := Hd her
  clear hok hbad
  go_wp2
  go_ret2
  exact ⟨none, 0, 0, er, rfl, hb1, (fun p x e => by injection e with e; cases e), fun x e => by injection e with _ e; have e2 := her.out.symm.trans e; exact ⟨e2, by rw [<- e2]; exact hn0.out⟩⟩
end Go.Proofs.YtkjnkpkagcboeaaGreatDoor
namespace Go.Proofs.YtkjnkpkagcboeaaGreatDoor
open Go.ChangeShapes Go.WideShapes Go.ChangeAt Go.RowKit
theorem len2 {α : Type} {l : List α} (h : l.length = 2) : ∃ x0 x1, l = [x0, x1] := by
 match l, h with
 | [x0, x1], _ => exact ⟨x0, x1, rfl⟩
theorem len3 {α : Type} {l : List α} (h : l.length = 3) : ∃ x0 x1 x2, l = [x0, x1, x2] := by
 match l, h with
 | [x0, x1, x2], _ => exact ⟨x0, x1, x2, rfl⟩
theorem len4 {α : Type} {l : List α} (h : l.length = 4) : ∃ x0 x1 x2 x3, l = [x0, x1, x2, x3] := by
 match l, h with
 | [x0, x1, x2, x3], _ => exact ⟨x0, x1, x2, x3, rfl⟩
theorem list_choose {α β : Type} {p : Nat -> β -> α -> Prop} (l : List β) (h : ∀ i y, l[i]? = some y -> ∃ z, p i y z) :
  ∃ zs : List α, zs.length = l.length /\ ∀ (i : Nat) (z : α), zs[i]? = some z -> ∃ y, l[i]? = some y /\ p i y z := by
 induction l generalizing p with
 | nil => exact ⟨[], rfl, fun i z hz => by simp at hz⟩
 | cons x l ih =>
  obtain ⟨z0, h0⟩ := h 0 x rfl
  obtain ⟨zs, hl, hz⟩ := ih (p := fun i => p (i + 1)) (fun i y hy => h (i + 1) y (by simpa using hy))
  refine ⟨z0 :: zs, by simp [hl], fun i z hi => ?_⟩
  cases i with
  | zero => simp at hi; subst hi; exact ⟨x, rfl, h0⟩
  | succ i => simpa using hz i z (by simpa using hi)
theorem sum_le_bulk {H α : Type} (size : α -> Nat) : ∀ (ds : List (DataW H)) (zs : List α), zs.length = ds.length -> (∀ (i : Nat) (z : α) (d : DataW H), zs[i]? = some z -> ds[i]? = some d -> size z <= Rows.uptoBulk d) ->
  (zs.map size).sum <= Rows.uptoBulkAll ds
 | [], zs, hl, _ => by
  have : zs = [] := List.eq_nil_of_length_eq_zero (by simpa using hl)
  subst this; simp
 | d :: ds, [], hl, _ => by simp at hl
 | d :: ds, z :: zs, hl, h => by
  have h0 := h 0 z d rfl rfl
  have h1 := sum_le_bulk size ds zs (by simpa using hl) (fun i z d hz hd => h (i + 1) z d (by simpa using hz) (by simpa using hd))
  simp only [List.map_cons, List.sum_cons, Rows.uptoBulkAll]
  omega
section
variable {H : Type} {enc : TypeId × Value -> H} {P : Program} {W : World} {sp : Nat -> Bool} {held : Bool}
theorem open_sl {t e : TypeId} {sz fuel : Nat} {cs : List Value} {x : DataW H × List MemPlace} (ht : P.underlying t = some (.slice e)) (hc : P.cellsOf e = sz) (hs : 0 < sz)
  (h : DataW.trod enc P W 0 sp held fuel t cs = some x) {α : Type} (E : World -> Nat -> Nat -> α -> Prop) (size : α -> Nat)
  (conv : ∀ n cs' y b o, n < fuel -> DataW.trod enc P W 0 sp held n e cs' = some y -> cs'.length = sz -> (∀ j, j < sz -> W.cell? ⟨b, o + j, none⟩ = cs'[j]?) -> ∃ z, E W b o z /\ size z <= Rows.uptoBulk y.1) :
  ∃ (a : Option Addr) (cap : Nat) (zs : List α), cs = [.slice a zs.length cap] /\ SlR sz E W a cap zs /\ (zs.map size).sum + 1 <= Rows.uptoBulk x.1 := by
 rcases DataW.trod_slice ht h with ⟨rfl, rfl⟩ | ⟨a, len, cap, elems, rest, n, hn, rfl, rfl, _, hl, hm, hlen, hel, _, _⟩
 · exact ⟨none, 0, [], rfl, SlR.nil, by simp [Rows.uptoBulk]⟩
 ·
  rw [hc] at hel
  have key : ∀ i y, elems[i]? = some y -> ∃ z, (∃ b off, a = ⟨b, off, none⟩ /\ E W b (off + i * sz) z) /\ size z <= Rows.uptoBulk y.1 := by
   intro i y hy
   have hi : i < len := by rw [<- hlen]; exact lt_of_get hy
   have h1 := hel i hi
   rw [hy] at h1
   obtain ⟨cs', hcs, hty⟩ := Option.bind_eq_some_iff.1 h1
   obtain ⟨_, hl', hcell⟩ := World.cells?_some hcs
   have hspot : ∃ b off, a = ⟨b, off, none⟩ := by
    have h0 := hcell 0 hs
    rw [List.getElem?_eq_getElem (by omega)] at h0
    have := World.cell?_spot h0
    obtain ⟨b, off, spot⟩ := a
    by_cases hi0 : i * sz = 0
    ·
     simp [Addr.add, hi0] at this
     subst this
     exact ⟨b, off, rfl⟩
    ·
     have h2 := hel 0 (by omega)
     obtain ⟨y0, hy0⟩ := get_of_lt (xs := elems) (k := 0) (by omega)
     rw [hy0] at h2
     obtain ⟨cs0, hcs0, _⟩ := Option.bind_eq_some_iff.1 h2
     obtain ⟨_, hl0, hcell0⟩ := World.cells?_some hcs0
     have h3 := hcell0 0 hs
     rw [List.getElem?_eq_getElem (by omega)] at h3
     have := World.cell?_spot h3
     simp [Addr.add] at this
     subst this
     exact ⟨b, off, rfl⟩
   obtain ⟨b, off, rfl⟩ := hspot
   obtain ⟨z, hz, hsz⟩ := conv n cs' y b (off + i * sz) (by omega) hty hl' (fun j hj => by
    rw [<- hcell j hj, add_plain, add_plain])
   exact ⟨z, ⟨b, off, rfl, hz⟩, hsz⟩
  obtain ⟨zs, hzl, hz⟩ := list_choose (p := fun i y z => (∃ b off, a = ⟨b, off, none⟩ /\ E W b (off + i * sz) z) /\ size z <= Rows.uptoBulk y.1) elems key
  refine ⟨some a, cap, zs, by rw [hzl, hlen], ⟨by omega, hm, fun k z hk => ?_⟩, ?_⟩
  ·
   obtain ⟨y, hy, ⟨b, off, rfl, he⟩, _⟩ := hz k z hk
   exact ⟨b, off, rfl, he⟩
  ·
   have h1 := sum_le_bulk size (elems.map (·.1)) zs (by simpa using hzl) (fun i z d hzi hd => by
    obtain ⟨y, hy, _, hs⟩ := hz i z hzi
    rw [List.getElem?_map, hy] at hd
    simp at hd; subst hd; exact hs)
   simp only [Rows.uptoBulk]
   omega
end
theorem conv_int {H : Type} {enc : TypeId × Value -> H} {P : Program} {W : World} {sp : Nat -> Bool} {held : Bool} {e : TypeId} {k : IntKind} (he : P.underlying e = some (.int k)) (n : Nat) (cs' : List Value) (y : DataW H × List MemPlace) (b o : Nat)
  (h : DataW.trod enc P W 0 sp held n e cs' = some y) (hc : ∀ j, j < 1 -> W.cell? ⟨b, o + j, none⟩ = cs'[j]?) : ∃ z, IntE k W b o z /\ 1 <= Rows.uptoBulk y.1 := by
 obtain ⟨z, rfl, rfl, hw⟩ := DataW.trod_int he h
 exact ⟨z, ⟨by have := hc 0 (by omega); simpa using this, hw⟩, by simp [Rows.uptoBulk]⟩
theorem conv_str {H : Type} {enc : TypeId × Value -> H} {P : Program} {W : World} {sp : Nat -> Bool} {held : Bool} {e : TypeId} (he : P.underlying e = some .string) (n : Nat) (cs' : List Value) (y : DataW H × List MemPlace) (b o : Nat)
  (h : DataW.trod enc P W 0 sp held n e cs' = some y) (hc : ∀ j, j < 1 -> W.cell? ⟨b, o + j, none⟩ = cs'[j]?) : ∃ z : ByteArray, StrE W b o z /\ z.size + 1 <= Rows.uptoBulk y.1 := by
 obtain ⟨z, rfl, rfl, hw⟩ := DataW.trod_string he h
 exact ⟨z, by have := hc 0 (by omega); simpa [StrE] using this, by simp [Rows.uptoBulk]⟩
end Go.Proofs.YtkjnkpkagcboeaaGreatDoor
namespace Go.Proofs.YtkjnkpkagcboeaaGreatDoor
open Go.ChangeShapes Go.WideShapes Go.ChangeAt Go.RowKit
theorem cellsRat : Tryz.prog.cellsOf 54 = 3 := by kernel_rfl
theorem cellsInt : Tryz.prog.cellsOf 52 = 2 := by kernel_rfl
theorem cellsNat : Tryz.prog.cellsOf 50 = 1 := by kernel_rfl
theorem cellsB : Tryz.prog.cellsOf 4 = 1 := by kernel_rfl
theorem cellsU16 : Tryz.prog.cellsOf 47 = 1 := by kernel_rfl
theorem list_sum_ones {α : Type} (l : List α) : (l.map fun _ => 1).sum = l.length := by induction l with
 | nil => rfl
 | cons x l ih => simp only [List.map_cons, List.sum_cons, ih, List.length_cons]; omega
section
variable {H : Type} {enc : TypeId × Value -> H} {W : World} {sp : Nat -> Bool} {held : Bool} {n : Nat}
theorem open_nat {cs : List Value} {y : DataW H × List MemPlace} (h : DataW.trod enc Tryz.prog W 0 sp held n 50 cs = some y) :
  ∃ a c zs, cs = [.slice a (List.length zs) c] /\ NatR W a c zs /\ zs.length + 1 <= Rows.uptoBulk y.1 := by
 obtain ⟨a, c, zs, h1, h2, h3⟩ := open_sl Tryz.underlying50 cellsU16 (by omega) h (IntE .u16) (fun _ => 1) (fun m cs' y b o _ ht _ hc => conv_int Tryz.underlying47 m cs' y b o ht hc)
 rw [list_sum_ones] at h3
 exact ⟨a, c, zs, h1, h2, h3⟩
theorem open_intst {cs : List Value} {y : DataW H × List MemPlace} (h : DataW.trod enc Tryz.prog W 0 sp held n 52 cs = some y) :
  ∃ b a c zs, cs = [.bool b, .slice a (List.length zs) c] /\ NatR W a c zs /\ zs.length + 2 <= Rows.uptoBulk y.1 := by
 obtain ⟨xs, m, rfl, rfl, hcl, hxl, hf⟩ := DataW.trod_struct Tryz.underlying52 h
 rw [cellsInt] at hcl
 obtain ⟨c0, c1, rfl⟩ := len2 hcl
 obtain ⟨y0, y1, rfl⟩ := len2 (show xs.length = 2 from hxl)
 ·
  have h0 := hf 0 _ rfl
  have h1 := hf 1 _ rfl
  simp [cellsB, cellsNat] at h0 h1
  obtain ⟨b, e0, rfl⟩ := DataW.trod_bool Tryz.underlying4 h0
  obtain ⟨a, c, zs, e1, h2, h3⟩ := open_nat h1
  simp at e0 e1; subst e0; subst e1
  refine ⟨b, a, c, zs, rfl, h2, ?_⟩
  simp [Rows.uptoBulk, Rows.uptoBulkAll] at h3 ⊢
  omega
theorem open_rat {cs : List Value} {y : DataW H × List MemPlace} (h : DataW.trod enc Tryz.prog W 0 sp held n 54 cs = some y) :
  ∃ b na nc num da dc den, cs = [.bool b, .slice na (List.length num) nc, .slice da (List.length den) dc] /\ NatR W na nc num /\ NatR W da dc den /\ num.length + den.length + 2 <= Rows.uptoBulk y.1 := by
 obtain ⟨xs, m, rfl, rfl, hcl, hxl, hf⟩ := DataW.trod_struct Tryz.underlying54 h
 rw [cellsRat] at hcl
 obtain ⟨c0, c1, c2, rfl⟩ := len3 hcl
 obtain ⟨y0, y1, rfl⟩ := len2 (show xs.length = 2 from hxl)
 ·
  have h0 := hf 0 _ rfl
  have h1 := hf 1 _ rfl
  simp [cellsInt, cellsNat] at h0 h1
  obtain ⟨b, na, nc, num, e0, h2, h3⟩ := open_intst h0
  obtain ⟨da, dc, den, e1, h4, h5⟩ := open_nat h1
  simp at e0 e1
  obtain ⟨rfl, rfl⟩ := e0
  subst e1
  refine ⟨b, na, nc, num, da, dc, den, rfl, h2, h4, ?_⟩
  simp [Rows.uptoBulk, Rows.uptoBulkAll] at h3 h5 ⊢
  omega
end
end Go.Proofs.YtkjnkpkagcboeaaGreatDoor
namespace Go.Proofs.YtkjnkpkagcboeaaGreatDoor
open Go.ChangeShapes Go.WideShapes Go.ChangeAt Go.RowKit
theorem cellsInts : Tryz.prog.cellsOf 38 = 1 := by kernel_rfl
theorem cellsI : Tryz.prog.cellsOf 3 = 1 := by kernel_rfl
theorem cellsS : Tryz.prog.cellsOf 9 = 1 := by kernel_rfl
section
variable {H : Type} {enc : TypeId × Value -> H} {W : World} {sp : Nat -> Bool} {held : Bool} {n : Nat}
theorem open_intsl {cs : List Value} {y : DataW H × List MemPlace} (h : DataW.trod enc Tryz.prog W 0 sp held n 38 cs = some y) :
  ∃ a c zs, cs = [.slice a (List.length zs) c] /\ IntsR W a c zs /\ zs.length + 1 <= Rows.uptoBulk y.1 := by
 obtain ⟨a, c, zs, h1, h2, h3⟩ := open_sl Tryz.underlying38 cellsI (by omega) h (IntE .i64) (fun _ => 1) (fun m cs' y b o _ ht _ hc => conv_int Tryz.underlying3 m cs' y b o ht hc)
 rw [list_sum_ones] at h3
 exact ⟨a, c, zs, h1, h2, h3⟩
theorem open_strsl {cs : List Value} {y : DataW H × List MemPlace} (h : DataW.trod enc Tryz.prog W 0 sp held n 24 cs = some y) :
  ∃ a c zs, cs = [.slice a (List.length zs) c] /\ StrsR W a c zs /\ (zs.map fun s => s.size + 1).sum + 1 <= Rows.uptoBulk y.1 :=
 open_sl Tryz.underlying24 cellsS (by omega) h StrE (fun s => s.size + 1) (fun m cs' y b o _ ht _ hc => conv_str Tryz.underlying9 m cs' y b o ht hc)
end
end Go.Proofs.YtkjnkpkagcboeaaGreatDoor
