/- What is read of a text of at most 2000 bytes has numbers of moderate size, plain. -/
import Derived.Test.YtkjnkpkagcboeaaGreatDoorPp24
import Derived.Test.YtkjnkpkagcboeaaGreatDoorPp15
import Derived.Test.YtkjnkpkagcboeaaGreatDoorPp13
import Derived.Test.YtkjnkpkagcboeaaGreatDoorPp17
import Derived.Test.YtkjnkpkagcboeaaGreatDoorPp12
import Derived.Test.YtkjnkpkagcboeaaGreatDoorPp4
import Derived.Test.YtkjnkpkagcboeaaGreatDoorPp23
set_option linter.all false
set_option maxRecDepth 100000
set_option maxHeartbeats 4000000
namespace Go.Proofs.YtkjnkpkagcboeaaGreatDoor
open Go.RowKit
def cofA (t : Trm) (p : RA) : QA := ⟨t.coef.neg, t.coef.num.length, p.na, p.nc, t.coef.den.length, p.da, p.dc⟩
theorem cofA_qk {w : World} {t : Trm} {p : RA} (h : PartsR w p t.mono t.coef) (hr : t.coef.right = true) (h1 : t.coef.num.length <= 1000) (h2 : t.coef.den.length <= 1000) : QK 1000 w (cofA t p) t.coef.q := by
 obtain ⟨a, b⟩ := RtZ.qac (w := w) (r := t.coef) (z := cofA t p) ⟨rfl, rfl, rfl, h.2.1, h.2.2⟩ hr
 exact ⟨a, by omega⟩
theorem termB_size {q : Rat} {m : List Int} {names : List ByteArray} (hn : ∀ s ∈ names, s.size <= 1048576) (hm : ∀ x ∈ m, x <= 1048576) (ht : (textQ (absQ q)).length <= 20000002) (hml : m.length <= 64) : (termB q m names).size <= 1400000000 := by
 have hsh := joinB_size (partsT_short (q := q) (m := m) (names := names) (N := 1048576) (T := 20000002) hn hm ht m.length)
 have hpl := partsT_len q m names m.length
 exact Nat.le_trans hsh (Nat.le_trans (Nat.mul_le_mul_right _ (show _ <= 65 by omega)) (by omega))
theorem absQ_sz (q : Rat) : qsz (absQ q) = qsz q := by unfold absQ; split; exact qsz_neg q; rfl
theorem textT_len {t : Trm} (hr : t.coef.right = true) (h1 : t.coef.num.length <= 1000) (h2 : t.coef.den.length <= 1000) : (textQ (absQ t.coef.q)).length <= 20000002 := by
 obtain ⟨e1, e2, e3⟩ := right_trip hr
 refine textQ_len (k := 1000) _ ?_ (by omega)
 rw [absQ_sz]
 unfold qsz
 rw [e2, e3]
 omega
theorem sgnQ_lt2 (q : Rat) : decide (sgnQ q < 0) = decide (q < 0) := by
 unfold sgnQ
 by_cases h : q = 0
 · subst h; rw [if_pos rfl]; rfl
 ·
  rw [if_neg h]
  by_cases h2 : q < 0
  · rw [if_pos h2]; simp [h2]
  · rw [if_neg h2]; simp [h2]
theorem bigB_le {l : List Trm} {n : Nat} {t : Trm} (h : bigB l n = false) (ht : t ∈ l) : t.mono.length <= n := by
 apply Nat.le_of_not_lt
 intro hc
 have : bigB l n = true := by unfold bigB; rw [List.any_eq_true]; exact ⟨t, ht, by simpa using hc⟩
 rw [h] at this; cases this
theorem printS_any (l : List Trm) (names : List ByteArray) (a na : Option Addr) (c nc : Nat) (w : World) (h : PolyR w a c l) (hq : ∀ t ∈ l, t.coef.num.length <= 1000 /\ t.coef.den.length <= 1000) (hl : l.length <= 1000)
  (hn : StrsR w na nc names) (hnl : names.length <= 1000) (hnz : ∀ s ∈ names, s.size <= 1048576) (ht : TabW w) :
  Calls Tryz.prog 13 #[.slice a l.length c, .slice na names.length nc] w fun e w' => e = .returned (.tuple #[.string (printP l names).1, .int .i64 (printP l names).2]) /\ Below w.heap.size w w' := by
 have CR := polyP_any l a c w h (fun t ht => by have := hq t ht; omega)
 have CK := fun W (hW : Below w.heap.size w W) => checkS_any names na nc W (hn.ext (xbw hW)) hnz (by omega)
 have CV := fun W (hW : Below w.heap.size w W) hm => vars_any l a c W (h.ext (xbw hW)) (by omega) hm
 have HP := Hd (fun W (hW : Below w.heap.size w W) => h.ext (xbw hW))
 have HN := Hd (fun W (hW : Below w.heap.size w W) => hn.ext (xbw hW))
 have HT := Hd (fun W (hW : Below w.heap.size w W) => ht.below hW)
 have HQ := Hd hq; have HNZ := Hd hnz
 obtain ⟨R, hR⟩ : ∃ r, printP l names = r := ⟨_, rfl⟩
 rw [hR]
 unfold printP at hR
 clear h hq hn hnz ht
 replace CV := Hd CV
 cases hpb : polyB l
 ·
  rw [hpb] at CR hR
  have hfin := Hd (show R = (⟨#[]⟩, 1) from hR.symm)
  replace CR := Hd CR
  clear hpb hR CK
  go_enter Tryz.func13, Tryz.ntmps13
  go_wp2_with fail
  refine CR.out.mono ?_
  rintro e w1 ⟨rfl, hb1⟩
  go_wp2
  go_ret2
  exact ⟨by rw [hfin.out]; rfl, hb1⟩
 rw [hpb] at CR hR
 have HPB := Hd (polyB_terms hpb)
 rw [if_pos rfl] at hR
 replace CR := Hd CR
 clear hpb
 obtain ⟨er, her⟩ : ∃ e, errNm names = e := ⟨_, rfl⟩
 simp only [her] at CK hR
 replace CK := Hd CK
 by_cases he : er = 0
 ·
  subst he
  rw [if_pos rfl] at hR
  have hm64 : ∀ t ∈ l, t.mono.length <= 64 := fun t ht => (monoB_mem (HPB.out t ht).2).1
  have hbl := fun v h => bigB_last (l := l) (n := names.length) (v := v) (fun t ht => (HPB.out t ht).2) h
  have hbn := fun h => bigB_none (l := l) (n := names.length) (fun t ht => (HPB.out t ht).2) h
  have CV2 := fun W hW => CV.out W hW hm64
  replace CV2 := Hd CV2; replace hbl := Hd hbl; replace hbn := Hd hbn; replace hm64 := Hd hm64; replace her := Hd her
  clear CV
  obtain ⟨bg, hbg⟩ : ∃ b, bigB l names.length = b := ⟨_, rfl⟩
  rw [hbg] at hR
  replace hbg := Hd hbg
  go_enter Tryz.func13, Tryz.ntmps13
  go_wp2_with fail
  refine CR.out.mono ?_
  rintro e w1 ⟨rfl, hb1⟩
  go_wp2_with fail
  refine (CK.out w1 hb1).mono ?_
  rintro e w2 ⟨rfl, hb2⟩
  have hw2 := bth hb1 hb2
  go_wp2_with fail
  refine (CV2.out w2 hw2).mono ?_
  rintro e w3 ⟨av, cv, rfl, hV, hb3⟩
  have hw3 := bth hw2 hb3
  have hvl := varsI_len l 64
  clear CR CK CV2 hb1 hb2 hb3 hw2
  by_cases hv0 : (varsI l 64).length = 0
  ·
   have hbf : bg = false := by rw [<- hbg.out]; exact hbn.out hv0
   subst hbf
   rw [if_neg (by simp)] at hR
   have hv1 : decide (0 < (varsI l 64).length) = false := by rw [decide_eq_false]; omega
   replace hR := Hd hR
   clear hbn hbl hV hv0
   by_cases hl0 : l.length = 0
   ·
    have hl1 : ((l.length : Int) == 0) = true := by rw [beq_iff_eq]; omega
    have hfin := Hd (show R = (⟨#[48]⟩, 0) by rw [<- hR.out, if_pos hl0])
    clear hR hl0
    go_wp2
    go_ret2
    exact ⟨by rw [hfin.out]; rfl, hw3⟩
   have hl1 : ((l.length : Int) == 0) = false := by rw [beq_eq_false_iff_ne]; omega
   have hfin := Hd (show R = (polyTo l names l.length, 0) by rw [<- hR.out, if_neg hl0])
   clear hR hl0
   go_wp2
   have hB0 := Bld.new w3
   have hb0 : Below w3.heap.size w3 (w3.alloc (.cells #[.pointer none, .slice none 0 0] 62)) := brf.alloc (nlr _) _
   revert hB0 hb0
   generalize w3.alloc (.cells #[.pointer none, .slice none 0 0] 62) = w4
   intro hB0 hb0
   go_loopg [9, 10, 11, 41] l.length (fun g _ _ _ s41 wr => ∃ (k : Nat) (L : List UInt8), Hid (k + g = l.length) /\ s41 = .int .i64 k /\ Bld w3.heap.size L wr /\ Hid (ofL L = polyTo l names k) /\ Below w3.heap.size w3 wr)
   case atStart => exact ⟨0, [], by show _ = _; omega, rfl, hB0, rfl, hb0⟩
   case round =>
    clear hB0 hb0
    obtain ⟨k, L, hk, rfl, hB, hL, hwr⟩ := hrel
    by_cases hlt : k < l.length
    ·
     obtain ⟨t, ht⟩ := get_of_lt hlt
     have htl := List.mem_of_getElem? ht
     have hp0 := HP.out w brf
     obtain ⟨b, o, rfl, p, hC0, hR0⟩ := hp0.2.2 k t ht
     obtain ⟨c0, c1, c2, c3⟩ := hC0
     have hww := bth hw3 hwr
     have d0 := held c0 wr hww; have d1 := held c1 wr hww; have d2 := held c2 wr hww; have d3 := held c3 wr hww
     have hbl : b < wr.heap.size := World.block_lt_of_cell? wr _ d0
     have HR := Hd (fun W (hW : Below w.heap.size w W) => PartsR.ext hR0 (xbw hW))
     have HC := Hd (fun W (hW : Below w.heap.size w W) => cofA_qk (HR.out W hW) (HPB.out t htl).1 (HQ.out t htl).1 (HQ.out t htl).2)
     have htm := monoB_mem (HPB.out t htl).2
     have htn := bigB_le hbg.out htl
     have HTS := Hd (termB_size HNZ.out (fun x hx => (htm.2 x hx).2) (textT_len (HPB.out t htl).1 (HQ.out t htl).1 (HQ.out t htl).2) htm.1)
     have hplen : L.length <= 1000 * (1400000000 + 3) := by
      have e1 := polyTo_size (l := l) (names := names) (M := 1400000000) (fun u hu => termB_size HNZ.out (fun x hx => ((monoB_mem (HPB.out u hu).2).2 x hx).2) (textT_len (HPB.out u hu).1 (HQ.out u hu).1 (HQ.out u hu).2) (monoB_mem (HPB.out u hu).2).1) k
      rw [<- hL.out, ofL_size] at e1
      exact Nat.le_trans e1 (Nat.mul_le_mul_right _ (by omega))
     have ht2 := Hd ht
     have hsl := sgnQ_lt2 t.coef.q
     have htm2 := Hd htm
     clear c0 c1 c2 c3 hp0 hR0 ht htl hww htm
     go_wp2_with fail
     refine calls_gen (fun W => Blk W wr.heap.size 57 #[.bool t.coef.neg, .slice p.na t.coef.num.length p.nc, .slice p.da t.coef.den.length p.dc, .slice p.aa t.mono.length p.ac] /\ Below wr.heap.size wr W) ⟨by ((with_reducible repeat first|assumption|(apply bF;focus omega)|apply bS|(apply bN;focus (simp;done))|apply bA|apply bD);all_goals rfl), by go_grown⟩ ?_
     rintro w4 ⟨hC4, hb4⟩
     have hB4 := hB.below hb4
     have hw4 := bth hwr hb4
     have hgb : wr.heap.size ≠ w3.heap.size := by have := hB.lt; omega
     obtain ⟨gC, hgC⟩ : ∃ q, wr.heap.size = q := ⟨_, rfl⟩
     rw [hgC] at hC4 hgb hbl ⊢
     replace hgC := Hd hgC
     refine (sign_q (cofA t p) t.coef.q 1000 w4 (HC.out w4 (bth hw3 hw4)) (by omega)).mono ?_
     rintro e w5 ⟨rfl, hb5⟩
     replace hB4 := hB4.below hb5; replace hC4 := hC4.below' hb5; replace hw4 := bth hw4 hb5
     obtain ⟨w4, rfl⟩ : ∃ W, W = w5 := ⟨_, rfl⟩
     obtain ⟨sg, hsg2⟩ : ∃ r, sgnQ t.coef.q = r := ⟨_, rfl⟩
     rw [hsg2] at hsl ⊢
     clear d0 d1 d2 d3 hb4 hb5 hB hwr hsg2
     by_cases hq : t.coef.q < 0
     ·
      rw [decide_eq_true hq] at hsl
      have hsi : sg < 0 := of_decide_eq_true hsl
      by_cases h0 : k = 0
      ·
       have hk0 : ((k : Int) == 0) = true := by rw [beq_iff_eq]; omega
       have hk1 : decide (0 < k) = false := by rw [decide_eq_false]; omega
       have hsg := Hd (show signP k t.coef.q = ofL [45] by unfold signP; rw [if_pos h0, if_pos hq]; rfl)
       clear hsl hq h0
       have CW := Hd (write_any w3.heap.size L (⟨#[45]⟩:ByteArray) w4 hB4 (by show L.length + 1 <= _; omega))
       go_wp2_with fail
       refine CW.out.mono ?_
       rintro e w5 ⟨⟨vv, rfl⟩, hB5, hb5, ho5⟩
       have hC5 := ho5.blk hC4 hgb (by decide)
       have hw5 := hw4.trans hb5
       have hL5 : ofL (L ++ (⟨#[45]⟩:ByteArray).data.toList) = polyTo l names k ++ signP k t.coef.q := by rw [hsg.out, <- hL.out]; exact (ofL_app _ _).symm
       clear hB4 hC4 hb5 ho5 hw4 CW
       have gC5 := hC5.lt
       have k0 := hC5.cell 0; have k1 := hC5.cell 1; have k2' := hC5.cell 2; have k3 := hC5.cell 3
       have CT := Hd (termS_any (cofA t p) t.coef.q t.mono names p.aa na p.ac nc 1000 w5 (HC.out w5 (bth hw3 hw5)) (by omega) (HR.out w5 (bth hw3 hw5)).1 (HN.out w5 (bth hw3 hw5)) htn htm2.out.1 htm2.out.2 HNZ.out (HT.out w5 (bth hw3 hw5)))
       replace hL5 := Hd hL5
       go_wp2_with fail
       refine CT.out.mono ?_
       rintro e w6 ⟨rfl, hb6⟩
       have hB6 := hB5.below hb6
       have hw6 := bth hw5 hb6
       obtain ⟨tb, htb⟩ : ∃ x, termB t.coef.q t.mono names = x := ⟨_, rfl⟩
       have hts := HTS.out
       rw [htb] at hts ⊢
       have hps2 : (polyTo l names (k + 1)) = polyTo l names k ++ signP k t.coef.q ++ tb := by rw [<- htb]; exact polyTo_succ ht2.out
       obtain ⟨L5, hL5e⟩ : ∃ x, L ++ (⟨#[45]⟩ : ByteArray).data.toList = x := ⟨_, rfl⟩
       rw [hL5e] at hL5 hB6
       have hlen5 : L5.length <= 1400000004000 := by
        have e2 := congrArg ByteArray.size hL.out
        rw [ofL_size] at e2
        have e1 := congrArg ByteArray.size hL5.out
        rw [ofL_size, ByteArray.size_append] at e1
        have := signP_size k t.coef.q
        omega
       have CW2 := Hd (write_any w3.heap.size L5 tb w6 hB6 (by omega))
       clear k0 k1 k2' k3 CT hb6 hB5 hC5 gC5 hw5 htb hL5e
       replace hps2 := Hd hps2
       go_wp2_with fail
       refine CW2.out.mono ?_
       rintro e w7 ⟨⟨vv2, rfl⟩, hB7, hb7, ho7⟩
       have hw7 := hw6.trans hb7
       have hL7 : ofL (L5 ++ tb.data.toList) = polyTo l names (k + 1) := by rw [hps2.out, <- hL5.out, <- ofL_app]; rfl
       replace hL7 := Hd hL7
       clear CW2 hB6 hb7 ho7 hw6
       go_wp2
       go_roundg (gk - 1)
       case rel => exact ⟨k + 1, _, by have := hk.out; show _ = _; omega, by go_num, hB7, hL7.out, hw7⟩
       case measure => have := hk.out; omega
      ·
       have hk0 : ((k : Int) == 0) = false := by rw [beq_eq_false_iff_ne]; omega
       have hk1 : decide (0 < k) = true := by rw [decide_eq_true_eq]; omega
       have hsg := Hd (show signP k t.coef.q = ofL [32, 45, 32] by unfold signP; rw [if_neg h0, if_pos hq]; rfl)
       clear hsl hq h0
       have CW := Hd (write_any w3.heap.size L (⟨#[32, 45, 32]⟩:ByteArray) w4 hB4 (by show L.length + 3 <= _; omega))
       go_wp2_with fail
       refine CW.out.mono ?_
       rintro e w5 ⟨⟨vv, rfl⟩, hB5, hb5, ho5⟩
       have hC5 := ho5.blk hC4 hgb (by decide)
       have hw5 := hw4.trans hb5
       have hL5 : ofL (L ++ (⟨#[32, 45, 32]⟩:ByteArray).data.toList) = polyTo l names k ++ signP k t.coef.q := by rw [hsg.out, <- hL.out]; exact (ofL_app _ _).symm
       clear hB4 hC4 hb5 ho5 hw4 CW
       have gC5 := hC5.lt
       have k0 := hC5.cell 0; have k1 := hC5.cell 1; have k2' := hC5.cell 2; have k3 := hC5.cell 3
       have CT := Hd (termS_any (cofA t p) t.coef.q t.mono names p.aa na p.ac nc 1000 w5 (HC.out w5 (bth hw3 hw5)) (by omega) (HR.out w5 (bth hw3 hw5)).1 (HN.out w5 (bth hw3 hw5)) htn htm2.out.1 htm2.out.2 HNZ.out (HT.out w5 (bth hw3 hw5)))
       replace hL5 := Hd hL5
       go_wp2_with fail
       refine CT.out.mono ?_
       rintro e w6 ⟨rfl, hb6⟩
       have hB6 := hB5.below hb6
       have hw6 := bth hw5 hb6
       obtain ⟨tb, htb⟩ : ∃ x, termB t.coef.q t.mono names = x := ⟨_, rfl⟩
       have hts := HTS.out
       rw [htb] at hts ⊢
       have hps2 : (polyTo l names (k + 1)) = polyTo l names k ++ signP k t.coef.q ++ tb := by rw [<- htb]; exact polyTo_succ ht2.out
       obtain ⟨L5, hL5e⟩ : ∃ x, L ++ (⟨#[32, 45, 32]⟩ : ByteArray).data.toList = x := ⟨_, rfl⟩
       rw [hL5e] at hL5 hB6
       have hlen5 : L5.length <= 1400000004000 := by
        have e2 := congrArg ByteArray.size hL.out
        rw [ofL_size] at e2
        have e1 := congrArg ByteArray.size hL5.out
        rw [ofL_size, ByteArray.size_append] at e1
        have := signP_size k t.coef.q
        omega
       have CW2 := Hd (write_any w3.heap.size L5 tb w6 hB6 (by omega))
       clear k0 k1 k2' k3 CT hb6 hB5 hC5 gC5 hw5 htb hL5e
       replace hps2 := Hd hps2
       go_wp2_with fail
       refine CW2.out.mono ?_
       rintro e w7 ⟨⟨vv2, rfl⟩, hB7, hb7, ho7⟩
       have hw7 := hw6.trans hb7
       have hL7 : ofL (L5 ++ tb.data.toList) = polyTo l names (k + 1) := by rw [hps2.out, <- hL5.out, <- ofL_app]; rfl
       replace hL7 := Hd hL7
       clear CW2 hB6 hb7 ho7 hw6
       go_wp2
       go_roundg (gk - 1)
       case rel => exact ⟨k + 1, _, by have := hk.out; show _ = _; omega, by go_num, hB7, hL7.out, hw7⟩
       case measure => have := hk.out; omega
     ·
      rw [decide_eq_false hq] at hsl
      have hsi : ¬ sg < 0 := of_decide_eq_false hsl
      by_cases h0 : k = 0
      ·
       have hk0 : ((k : Int) == 0) = true := by rw [beq_iff_eq]; omega
       have hk1 : decide (0 < k) = false := by rw [decide_eq_false]; omega
       have hsg := Hd (show signP k t.coef.q = ⟨#[]⟩ by unfold signP; rw [if_pos h0, if_neg hq])
       have hL5 : ofL L = polyTo l names k ++ signP k t.coef.q := by rw [hsg.out, <- hL.out]; apply ba_ext; simp [ByteArray.data_append]
       clear hsl hq h0
       obtain ⟨w5, rfl⟩ : ∃ W, W = w4 := ⟨_, rfl⟩
       have hC5 := hC4; have hB5 := hB4; have hw5 := hw4
       clear hC4 hB4 hw4
       have gC5 := hC5.lt
       have k0 := hC5.cell 0; have k1 := hC5.cell 1; have k2' := hC5.cell 2; have k3 := hC5.cell 3
       have CT := Hd (termS_any (cofA t p) t.coef.q t.mono names p.aa na p.ac nc 1000 w5 (HC.out w5 (bth hw3 hw5)) (by omega) (HR.out w5 (bth hw3 hw5)).1 (HN.out w5 (bth hw3 hw5)) htn htm2.out.1 htm2.out.2 HNZ.out (HT.out w5 (bth hw3 hw5)))
       replace hL5 := Hd hL5
       go_wp2_with fail
       refine CT.out.mono ?_
       rintro e w6 ⟨rfl, hb6⟩
       have hB6 := hB5.below hb6
       have hw6 := bth hw5 hb6
       obtain ⟨tb, htb⟩ : ∃ x, termB t.coef.q t.mono names = x := ⟨_, rfl⟩
       have hts := HTS.out
       rw [htb] at hts ⊢
       have hps2 : (polyTo l names (k + 1)) = polyTo l names k ++ signP k t.coef.q ++ tb := by rw [<- htb]; exact polyTo_succ ht2.out
       obtain ⟨L5, hL5e⟩ : ∃ x, L = x := ⟨_, rfl⟩
       rw [hL5e] at hL5 hB6
       have hlen5 : L5.length <= 1400000004000 := by
        have e2 := congrArg ByteArray.size hL.out
        rw [ofL_size] at e2
        have e1 := congrArg ByteArray.size hL5.out
        rw [ofL_size, ByteArray.size_append] at e1
        have := signP_size k t.coef.q
        omega
       have CW2 := Hd (write_any w3.heap.size L5 tb w6 hB6 (by omega))
       clear k0 k1 k2' k3 CT hb6 hB5 hC5 gC5 hw5 htb hL5e
       replace hps2 := Hd hps2
       go_wp2_with fail
       refine CW2.out.mono ?_
       rintro e w7 ⟨⟨vv2, rfl⟩, hB7, hb7, ho7⟩
       have hw7 := hw6.trans hb7
       have hL7 : ofL (L5 ++ tb.data.toList) = polyTo l names (k + 1) := by rw [hps2.out, <- hL5.out, <- ofL_app]; rfl
       replace hL7 := Hd hL7
       clear CW2 hB6 hb7 ho7 hw6
       go_wp2
       go_roundg (gk - 1)
       case rel => exact ⟨k + 1, _, by have := hk.out; show _ = _; omega, by go_num, hB7, hL7.out, hw7⟩
       case measure => have := hk.out; omega
      ·
       have hk0 : ((k : Int) == 0) = false := by rw [beq_eq_false_iff_ne]; omega
       have hk1 : decide (0 < k) = true := by rw [decide_eq_true_eq]; omega
       have hsg := Hd (show signP k t.coef.q = ofL [32, 43, 32] by unfold signP; rw [if_neg h0, if_neg hq]; rfl)
       clear hsl hq h0
       have CW := Hd (write_any w3.heap.size L (⟨#[32, 43, 32]⟩:ByteArray) w4 hB4 (by show L.length + 3 <= _; omega))
       go_wp2_with fail
       refine CW.out.mono ?_
       rintro e w5 ⟨⟨vv, rfl⟩, hB5, hb5, ho5⟩
       have hC5 := ho5.blk hC4 hgb (by decide)
       have hw5 := hw4.trans hb5
       have hL5 : ofL (L ++ (⟨#[32, 43, 32]⟩:ByteArray).data.toList) = polyTo l names k ++ signP k t.coef.q := by rw [hsg.out, <- hL.out]; exact (ofL_app _ _).symm
       clear hB4 hC4 hb5 ho5 hw4 CW
       have gC5 := hC5.lt
       have k0 := hC5.cell 0; have k1 := hC5.cell 1; have k2' := hC5.cell 2; have k3 := hC5.cell 3
       have CT := Hd (termS_any (cofA t p) t.coef.q t.mono names p.aa na p.ac nc 1000 w5 (HC.out w5 (bth hw3 hw5)) (by omega) (HR.out w5 (bth hw3 hw5)).1 (HN.out w5 (bth hw3 hw5)) htn htm2.out.1 htm2.out.2 HNZ.out (HT.out w5 (bth hw3 hw5)))
       replace hL5 := Hd hL5
       go_wp2_with fail
       refine CT.out.mono ?_
       rintro e w6 ⟨rfl, hb6⟩
       have hB6 := hB5.below hb6
       have hw6 := bth hw5 hb6
       obtain ⟨tb, htb⟩ : ∃ x, termB t.coef.q t.mono names = x := ⟨_, rfl⟩
       have hts := HTS.out
       rw [htb] at hts ⊢
       have hps2 : (polyTo l names (k + 1)) = polyTo l names k ++ signP k t.coef.q ++ tb := by rw [<- htb]; exact polyTo_succ ht2.out
       obtain ⟨L5, hL5e⟩ : ∃ x, L ++ (⟨#[32, 43, 32]⟩ : ByteArray).data.toList = x := ⟨_, rfl⟩
       rw [hL5e] at hL5 hB6
       have hlen5 : L5.length <= 1400000004000 := by
        have e2 := congrArg ByteArray.size hL.out
        rw [ofL_size] at e2
        have e1 := congrArg ByteArray.size hL5.out
        rw [ofL_size, ByteArray.size_append] at e1
        have := signP_size k t.coef.q
        omega
       have CW2 := Hd (write_any w3.heap.size L5 tb w6 hB6 (by omega))
       clear k0 k1 k2' k3 CT hb6 hB5 hC5 gC5 hw5 htb hL5e
       replace hps2 := Hd hps2
       go_wp2_with fail
       refine CW2.out.mono ?_
       rintro e w7 ⟨⟨vv2, rfl⟩, hB7, hb7, ho7⟩
       have hw7 := hw6.trans hb7
       have hL7 : ofL (L5 ++ tb.data.toList) = polyTo l names (k + 1) := by rw [hps2.out, <- hL5.out, <- ofL_app]; rfl
       replace hL7 := Hd hL7
       clear CW2 hB6 hb7 ho7 hw6
       go_wp2
       go_roundg (gk - 1)
       case rel => exact ⟨k + 1, _, by have := hk.out; show _ = _; omega, by go_num, hB7, hL7.out, hw7⟩
       case measure => have := hk.out; omega
    ·
     have hkl : k = l.length := by have := hk.out; omega
     have CS := Hd (string_any _ L wr hB)
     have hfin2 : R = (ofL L, 0) := by rw [hfin.out, hL.out, hkl]
     clear hfin hL hkl
     go_wp2_with fail
     refine CS.out.mono ?_
     rintro e w5 ⟨rfl, hb5, _⟩
     have hfin := Hd hfin2
     clear hfin2 CS
     go_wp2
     go_ret2
     exact ⟨by rw [hfin.out]; rfl, bth hw3 (hwr.trans hb5)⟩
  ·
   obtain ⟨v, hv⟩ := get_of_lt (xs := varsI l 64) (k := (varsI l 64).length - 1) (by omega)
   have hv1 : decide (0 < (varsI l 64).length) = true := by rw [decide_eq_true_eq]; omega
   have hbv := hbl.out v hv
   rw [hbg.out] at hbv
   obtain ⟨bv, ov, rfl, hcv, hvw⟩ := hV.2.2 _ v hv
   simp only [Nat.mul_one] at hcv
   have hvi := inInt_of hvw
   have hle : (varsI l 64).length - 1 < (varsI l 64).length := by omega
   have hcl : (((varsI l 64).length : Int) - 1) = (((varsI l 64).length - 1 : Nat) : Int) := by omega
   clear hvw hbn hbl hv hV
   by_cases hbig : (names.length : Int) <= v
   ·
    have hbt : bg = true := by rw [hbv]; exact decide_eq_true hbig
    subst hbt
    rw [if_pos rfl] at hR
    have hfin := Hd hR.symm
    clear hR hbv
    go_wp2
    go_ret2
    exact ⟨by rw [hfin.out]; rfl, hw3⟩
   ·
    have hbt : bg = false := by rw [hbv]; exact decide_eq_false hbig
    subst hbt
    rw [if_neg (by simp)] at hR
    replace hR := Hd hR
    clear hbv
    by_cases hl0 : l.length = 0
    ·
     have hl1 : ((l.length : Int) == 0) = true := by rw [beq_iff_eq]; omega
     have hfin := Hd (show R = (⟨#[48]⟩, 0) by rw [<- hR.out, if_pos hl0])
     clear hR hl0
     go_wp2
     go_ret2
     exact ⟨by rw [hfin.out]; rfl, hw3⟩
    have hl1 : ((l.length : Int) == 0) = false := by rw [beq_eq_false_iff_ne]; omega
    have hfin := Hd (show R = (polyTo l names l.length, 0) by rw [<- hR.out, if_neg hl0])
    clear hR hl0
    go_wp2
    have hB0 := Bld.new w3
    have hb0 : Below w3.heap.size w3 (w3.alloc (.cells #[.pointer none, .slice none 0 0] 62)) := brf.alloc (nlr _) _
    revert hB0 hb0
    generalize w3.alloc (.cells #[.pointer none, .slice none 0 0] 62) = w4
    intro hB0 hb0
    go_loopg [9, 10, 11, 41] l.length (fun g _ _ _ s41 wr => ∃ (k : Nat) (L : List UInt8), Hid (k + g = l.length) /\ s41 = .int .i64 k /\ Bld w3.heap.size L wr /\ Hid (ofL L = polyTo l names k) /\ Below w3.heap.size w3 wr)
    case atStart => exact ⟨0, [], by show _ = _; omega, rfl, hB0, rfl, hb0⟩
    case round =>
     clear hB0 hb0
     obtain ⟨k, L, hk, rfl, hB, hL, hwr⟩ := hrel
     by_cases hlt : k < l.length
     ·
      obtain ⟨t, ht⟩ := get_of_lt hlt
      have htl := List.mem_of_getElem? ht
      have hp0 := HP.out w brf
      obtain ⟨b, o, rfl, p, hC0, hR0⟩ := hp0.2.2 k t ht
      obtain ⟨c0, c1, c2, c3⟩ := hC0
      have hww := bth hw3 hwr
      have d0 := held c0 wr hww; have d1 := held c1 wr hww; have d2 := held c2 wr hww; have d3 := held c3 wr hww
      have hbl : b < wr.heap.size := World.block_lt_of_cell? wr _ d0
      have HR := Hd (fun W (hW : Below w.heap.size w W) => PartsR.ext hR0 (xbw hW))
      have HC := Hd (fun W (hW : Below w.heap.size w W) => cofA_qk (HR.out W hW) (HPB.out t htl).1 (HQ.out t htl).1 (HQ.out t htl).2)
      have htm := monoB_mem (HPB.out t htl).2
      have htn := bigB_le hbg.out htl
      have HTS := Hd (termB_size HNZ.out (fun x hx => (htm.2 x hx).2) (textT_len (HPB.out t htl).1 (HQ.out t htl).1 (HQ.out t htl).2) htm.1)
      have hplen : L.length <= 1000 * (1400000000 + 3) := by
       have e1 := polyTo_size (l := l) (names := names) (M := 1400000000) (fun u hu => termB_size HNZ.out (fun x hx => ((monoB_mem (HPB.out u hu).2).2 x hx).2) (textT_len (HPB.out u hu).1 (HQ.out u hu).1 (HQ.out u hu).2) (monoB_mem (HPB.out u hu).2).1) k
       rw [<- hL.out, ofL_size] at e1
       exact Nat.le_trans e1 (Nat.mul_le_mul_right _ (by omega))
      have ht2 := Hd ht
      have hsl := sgnQ_lt2 t.coef.q
      have htm2 := Hd htm
      clear c0 c1 c2 c3 hp0 hR0 ht htl hww htm
      go_wp2_with fail
      refine calls_gen (fun W => Blk W wr.heap.size 57 #[.bool t.coef.neg, .slice p.na t.coef.num.length p.nc, .slice p.da t.coef.den.length p.dc, .slice p.aa t.mono.length p.ac] /\ Below wr.heap.size wr W) ⟨by ((with_reducible repeat first|assumption|(apply bF;focus omega)|apply bS|(apply bN;focus (simp;done))|apply bA|apply bD);all_goals rfl), by go_grown⟩ ?_
      rintro w4 ⟨hC4, hb4⟩
      have hB4 := hB.below hb4
      have hw4 := bth hwr hb4
      have hgb : wr.heap.size ≠ w3.heap.size := by have := hB.lt; omega
      obtain ⟨gC, hgC⟩ : ∃ q, wr.heap.size = q := ⟨_, rfl⟩
      rw [hgC] at hC4 hgb hbl ⊢
      replace hgC := Hd hgC
      refine (sign_q (cofA t p) t.coef.q 1000 w4 (HC.out w4 (bth hw3 hw4)) (by omega)).mono ?_
      rintro e w5 ⟨rfl, hb5⟩
      replace hB4 := hB4.below hb5; replace hC4 := hC4.below' hb5; replace hw4 := bth hw4 hb5
      obtain ⟨w4, rfl⟩ : ∃ W, W = w5 := ⟨_, rfl⟩
      obtain ⟨sg, hsg2⟩ : ∃ r, sgnQ t.coef.q = r := ⟨_, rfl⟩
      rw [hsg2] at hsl ⊢
      clear d0 d1 d2 d3 hb4 hb5 hB hwr hsg2
      by_cases hq : t.coef.q < 0
      ·
       rw [decide_eq_true hq] at hsl
       have hsi : sg < 0 := of_decide_eq_true hsl
       by_cases h0 : k = 0
       ·
        have hk0 : ((k : Int) == 0) = true := by rw [beq_iff_eq]; omega
        have hk1 : decide (0 < k) = false := by rw [decide_eq_false]; omega
        have hsg := Hd (show signP k t.coef.q = ofL [45] by unfold signP; rw [if_pos h0, if_pos hq]; rfl)
        clear hsl hq h0
        have CW := Hd (write_any w3.heap.size L (⟨#[45]⟩:ByteArray) w4 hB4 (by show L.length + 1 <= _; omega))
        go_wp2_with fail
        refine CW.out.mono ?_
        rintro e w5 ⟨⟨vv, rfl⟩, hB5, hb5, ho5⟩
        have hC5 := ho5.blk hC4 hgb (by decide)
        have hw5 := hw4.trans hb5
        have hL5 : ofL (L ++ (⟨#[45]⟩:ByteArray).data.toList) = polyTo l names k ++ signP k t.coef.q := by rw [hsg.out, <- hL.out]; exact (ofL_app _ _).symm
        clear hB4 hC4 hb5 ho5 hw4 CW
        have gC5 := hC5.lt
        have k0 := hC5.cell 0; have k1 := hC5.cell 1; have k2' := hC5.cell 2; have k3 := hC5.cell 3
        have CT := Hd (termS_any (cofA t p) t.coef.q t.mono names p.aa na p.ac nc 1000 w5 (HC.out w5 (bth hw3 hw5)) (by omega) (HR.out w5 (bth hw3 hw5)).1 (HN.out w5 (bth hw3 hw5)) htn htm2.out.1 htm2.out.2 HNZ.out (HT.out w5 (bth hw3 hw5)))
        replace hL5 := Hd hL5
        go_wp2_with fail
        refine CT.out.mono ?_
        rintro e w6 ⟨rfl, hb6⟩
        have hB6 := hB5.below hb6
        have hw6 := bth hw5 hb6
        obtain ⟨tb, htb⟩ : ∃ x, termB t.coef.q t.mono names = x := ⟨_, rfl⟩
        have hts := HTS.out
        rw [htb] at hts ⊢
        have hps2 : (polyTo l names (k + 1)) = polyTo l names k ++ signP k t.coef.q ++ tb := by rw [<- htb]; exact polyTo_succ ht2.out
        obtain ⟨L5, hL5e⟩ : ∃ x, L ++ (⟨#[45]⟩ : ByteArray).data.toList = x := ⟨_, rfl⟩
        rw [hL5e] at hL5 hB6
        have hlen5 : L5.length <= 1400000004000 := by
         have e2 := congrArg ByteArray.size hL.out
         rw [ofL_size] at e2
         have e1 := congrArg ByteArray.size hL5.out
         rw [ofL_size, ByteArray.size_append] at e1
         have := signP_size k t.coef.q
         omega
        have CW2 := Hd (write_any w3.heap.size L5 tb w6 hB6 (by omega))
        clear k0 k1 k2' k3 CT hb6 hB5 hC5 gC5 hw5 htb hL5e
        replace hps2 := Hd hps2
        go_wp2_with fail
        refine CW2.out.mono ?_
        rintro e w7 ⟨⟨vv2, rfl⟩, hB7, hb7, ho7⟩
        have hw7 := hw6.trans hb7
        have hL7 : ofL (L5 ++ tb.data.toList) = polyTo l names (k + 1) := by rw [hps2.out, <- hL5.out, <- ofL_app]; rfl
        replace hL7 := Hd hL7
        clear CW2 hB6 hb7 ho7 hw6
        go_wp2
        go_roundg (gk - 1)
        case rel => exact ⟨k + 1, _, by have := hk.out; show _ = _; omega, by go_num, hB7, hL7.out, hw7⟩
        case measure => have := hk.out; omega
       ·
        have hk0 : ((k : Int) == 0) = false := by rw [beq_eq_false_iff_ne]; omega
        have hk1 : decide (0 < k) = true := by rw [decide_eq_true_eq]; omega
        have hsg := Hd (show signP k t.coef.q = ofL [32, 45, 32] by unfold signP; rw [if_neg h0, if_pos hq]; rfl)
        clear hsl hq h0
        have CW := Hd (write_any w3.heap.size L (⟨#[32, 45, 32]⟩:ByteArray) w4 hB4 (by show L.length + 3 <= _; omega))
        go_wp2_with fail
        refine CW.out.mono ?_
        rintro e w5 ⟨⟨vv, rfl⟩, hB5, hb5, ho5⟩
        have hC5 := ho5.blk hC4 hgb (by decide)
        have hw5 := hw4.trans hb5
        have hL5 : ofL (L ++ (⟨#[32, 45, 32]⟩:ByteArray).data.toList) = polyTo l names k ++ signP k t.coef.q := by rw [hsg.out, <- hL.out]; exact (ofL_app _ _).symm
        clear hB4 hC4 hb5 ho5 hw4 CW
        have gC5 := hC5.lt
        have k0 := hC5.cell 0; have k1 := hC5.cell 1; have k2' := hC5.cell 2; have k3 := hC5.cell 3
        have CT := Hd (termS_any (cofA t p) t.coef.q t.mono names p.aa na p.ac nc 1000 w5 (HC.out w5 (bth hw3 hw5)) (by omega) (HR.out w5 (bth hw3 hw5)).1 (HN.out w5 (bth hw3 hw5)) htn htm2.out.1 htm2.out.2 HNZ.out (HT.out w5 (bth hw3 hw5)))
        replace hL5 := Hd hL5
        go_wp2_with fail
        refine CT.out.mono ?_
        rintro e w6 ⟨rfl, hb6⟩
        have hB6 := hB5.below hb6
        have hw6 := bth hw5 hb6
        obtain ⟨tb, htb⟩ : ∃ x, termB t.coef.q t.mono names = x := ⟨_, rfl⟩
        have hts := HTS.out
        rw [htb] at hts ⊢
        have hps2 : (polyTo l names (k + 1)) = polyTo l names k ++ signP k t.coef.q ++ tb := by rw [<- htb]; exact polyTo_succ ht2.out
        obtain ⟨L5, hL5e⟩ : ∃ x, L ++ (⟨#[32, 45, 32]⟩ : ByteArray).data.toList = x := ⟨_, rfl⟩
        rw [hL5e] at hL5 hB6
        have hlen5 : L5.length <= 1400000004000 := by
         have e2 := congrArg ByteArray.size hL.out
         rw [ofL_size] at e2
         have e1 := congrArg ByteArray.size hL5.out
         rw [ofL_size, ByteArray.size_append] at e1
         have := signP_size k t.coef.q
         omega
        have CW2 := Hd (write_any w3.heap.size L5 tb w6 hB6 (by omega))
        clear k0 k1 k2' k3 CT hb6 hB5 hC5 gC5 hw5 htb hL5e
        replace hps2 := Hd hps2
        go_wp2_with fail
        refine CW2.out.mono ?_
        rintro e w7 ⟨⟨vv2, rfl⟩, hB7, hb7, ho7⟩
        have hw7 := hw6.trans hb7
        have hL7 : ofL (L5 ++ tb.data.toList) = polyTo l names (k + 1) := by rw [hps2.out, <- hL5.out, <- ofL_app]; rfl
        replace hL7 := Hd hL7
        clear CW2 hB6 hb7 ho7 hw6
        go_wp2
        go_roundg (gk - 1)
        case rel => exact ⟨k + 1, _, by have := hk.out; show _ = _; omega, by go_num, hB7, hL7.out, hw7⟩
        case measure => have := hk.out; omega
      ·
       rw [decide_eq_false hq] at hsl
       have hsi : ¬ sg < 0 := of_decide_eq_false hsl
       by_cases h0 : k = 0
       ·
        have hk0 : ((k : Int) == 0) = true := by rw [beq_iff_eq]; omega
        have hk1 : decide (0 < k) = false := by rw [decide_eq_false]; omega
        have hsg := Hd (show signP k t.coef.q = ⟨#[]⟩ by unfold signP; rw [if_pos h0, if_neg hq])
        have hL5 : ofL L = polyTo l names k ++ signP k t.coef.q := by rw [hsg.out, <- hL.out]; apply ba_ext; simp [ByteArray.data_append]
        clear hsl hq h0
        obtain ⟨w5, rfl⟩ : ∃ W, W = w4 := ⟨_, rfl⟩
        have hC5 := hC4; have hB5 := hB4; have hw5 := hw4
        clear hC4 hB4 hw4
        have gC5 := hC5.lt
        have k0 := hC5.cell 0; have k1 := hC5.cell 1; have k2' := hC5.cell 2; have k3 := hC5.cell 3
        have CT := Hd (termS_any (cofA t p) t.coef.q t.mono names p.aa na p.ac nc 1000 w5 (HC.out w5 (bth hw3 hw5)) (by omega) (HR.out w5 (bth hw3 hw5)).1 (HN.out w5 (bth hw3 hw5)) htn htm2.out.1 htm2.out.2 HNZ.out (HT.out w5 (bth hw3 hw5)))
        replace hL5 := Hd hL5
        go_wp2_with fail
        refine CT.out.mono ?_
        rintro e w6 ⟨rfl, hb6⟩
        have hB6 := hB5.below hb6
        have hw6 := bth hw5 hb6
        obtain ⟨tb, htb⟩ : ∃ x, termB t.coef.q t.mono names = x := ⟨_, rfl⟩
        have hts := HTS.out
        rw [htb] at hts ⊢
        have hps2 : (polyTo l names (k + 1)) = polyTo l names k ++ signP k t.coef.q ++ tb := by rw [<- htb]; exact polyTo_succ ht2.out
        obtain ⟨L5, hL5e⟩ : ∃ x, L = x := ⟨_, rfl⟩
        rw [hL5e] at hL5 hB6
        have hlen5 : L5.length <= 1400000004000 := by
         have e2 := congrArg ByteArray.size hL.out
         rw [ofL_size] at e2
         have e1 := congrArg ByteArray.size hL5.out
         rw [ofL_size, ByteArray.size_append] at e1
         have := signP_size k t.coef.q
         omega
        have CW2 := Hd (write_any w3.heap.size L5 tb w6 hB6 (by omega))
        clear k0 k1 k2' k3 CT hb6 hB5 hC5 gC5 hw5 htb hL5e
        replace hps2 := Hd hps2
        go_wp2_with fail
        refine CW2.out.mono ?_
        rintro e w7 ⟨⟨vv2, rfl⟩, hB7, hb7, ho7⟩
        have hw7 := hw6.trans hb7
        have hL7 : ofL (L5 ++ tb.data.toList) = polyTo l names (k + 1) := by rw [hps2.out, <- hL5.out, <- ofL_app]; rfl
        replace hL7 := Hd hL7
        clear CW2 hB6 hb7 ho7 hw6
        go_wp2
        go_roundg (gk - 1)
        case rel => exact ⟨k + 1, _, by have := hk.out; show _ = _; omega, by go_num, hB7, hL7.out, hw7⟩
        case measure => have := hk.out; omega
       ·
        have hk0 : ((k : Int) == 0) = false := by rw [beq_eq_false_iff_ne]; omega
        have hk1 : decide (0 < k) = true := by rw [decide_eq_true_eq]; omega
        have hsg := Hd (show signP k t.coef.q = ofL [32, 43, 32] by unfold signP; rw [if_neg h0, if_neg hq]; rfl)
        clear hsl hq h0
        have CW := Hd (write_any w3.heap.size L (⟨#[32, 43, 32]⟩:ByteArray) w4 hB4 (by show L.length + 3 <= _; omega))
        go_wp2_with fail
        refine CW.out.mono ?_
        rintro e w5 ⟨⟨vv, rfl⟩, hB5, hb5, ho5⟩
        have hC5 := ho5.blk hC4 hgb (by decide)
        have hw5 := hw4.trans hb5
        have hL5 : ofL (L ++ (⟨#[32, 43, 32]⟩:ByteArray).data.toList) = polyTo l names k ++ signP k t.coef.q := by rw [hsg.out, <- hL.out]; exact (ofL_app _ _).symm
        clear hB4 hC4 hb5 ho5 hw4 CW
        have gC5 := hC5.lt
        have k0 := hC5.cell 0; have k1 := hC5.cell 1; have k2' := hC5.cell 2; have k3 := hC5.cell 3
        have CT := Hd (termS_any (cofA t p) t.coef.q t.mono names p.aa na p.ac nc 1000 w5 (HC.out w5 (bth hw3 hw5)) (by omega) (HR.out w5 (bth hw3 hw5)).1 (HN.out w5 (bth hw3 hw5)) htn htm2.out.1 htm2.out.2 HNZ.out (HT.out w5 (bth hw3 hw5)))
        replace hL5 := Hd hL5
        go_wp2_with fail
        refine CT.out.mono ?_
        rintro e w6 ⟨rfl, hb6⟩
        have hB6 := hB5.below hb6
        have hw6 := bth hw5 hb6
        obtain ⟨tb, htb⟩ : ∃ x, termB t.coef.q t.mono names = x := ⟨_, rfl⟩
        have hts := HTS.out
        rw [htb] at hts ⊢
        have hps2 : (polyTo l names (k + 1)) = polyTo l names k ++ signP k t.coef.q ++ tb := by rw [<- htb]; exact polyTo_succ ht2.out
        obtain ⟨L5, hL5e⟩ : ∃ x, L ++ (⟨#[32, 43, 32]⟩ : ByteArray).data.toList = x := ⟨_, rfl⟩
        rw [hL5e] at hL5 hB6
        have hlen5 : L5.length <= 1400000004000 := by
         have e2 := congrArg ByteArray.size hL.out
         rw [ofL_size] at e2
         have e1 := congrArg ByteArray.size hL5.out
         rw [ofL_size, ByteArray.size_append] at e1
         have := signP_size k t.coef.q
         omega
        have CW2 := Hd (write_any w3.heap.size L5 tb w6 hB6 (by omega))
        clear k0 k1 k2' k3 CT hb6 hB5 hC5 gC5 hw5 htb hL5e
        replace hps2 := Hd hps2
        go_wp2_with fail
        refine CW2.out.mono ?_
        rintro e w7 ⟨⟨vv2, rfl⟩, hB7, hb7, ho7⟩
        have hw7 := hw6.trans hb7
        have hL7 : ofL (L5 ++ tb.data.toList) = polyTo l names (k + 1) := by rw [hps2.out, <- hL5.out, <- ofL_app]; rfl
        replace hL7 := Hd hL7
        clear CW2 hB6 hb7 ho7 hw6
        go_wp2
        go_roundg (gk - 1)
        case rel => exact ⟨k + 1, _, by have := hk.out; show _ = _; omega, by go_num, hB7, hL7.out, hw7⟩
        case measure => have := hk.out; omega
     ·
      have hkl : k = l.length := by have := hk.out; omega
      have CS := Hd (string_any _ L wr hB)
      have hfin2 : R = (ofL L, 0) := by rw [hfin.out, hL.out, hkl]
      clear hfin hL hkl
      go_wp2_with fail
      refine CS.out.mono ?_
      rintro e w5 ⟨rfl, hb5, _⟩
      have hfin := Hd hfin2
      clear hfin2 CS
      go_wp2
      go_ret2
      exact ⟨by rw [hfin.out]; rfl, bth hw3 (hwr.trans hb5)⟩
 ·
  rw [if_neg he] at hR
  have hfin := Hd hR.symm
  have hne : (er != 0) = true := by simpa using he
  clear hR he her
  go_enter Tryz.func13, Tryz.ntmps13
  go_wp2_with fail
  refine CR.out.mono ?_
  rintro e w1 ⟨rfl, hb1⟩
  go_wp2_with fail
  refine (CK.out w1 hb1).mono ?_
  rintro e w2 ⟨rfl, hb2⟩
  go_wp2
  go_ret2
  exact ⟨by rw [hfin.out]; rfl, bth hb1 hb2⟩
def trmOf (u : Tm) : Trm := ⟨⟨decide (u.1.num < 0), limbs u.1.num.natAbs, limbs u.1.den⟩, u.2⟩
theorem trmQ_of (u : Tm) : trmQ (trmOf u) = u := by
 unfold trmQ trmOf Rt.q
 dsimp only
 rw [val_limbs, val_limbs, qv_parts]
theorem right_of (q : Rat) : (Rt.mk (decide (q.num < 0)) (limbs q.num.natAbs) (limbs q.den)).right = true := by
 unfold Rt.right rightI canonB
 simp only [Bool.and_eq_true, decide_eq_true_eq, Bool.not_eq_true', Bool.and_eq_false_iff, decide_eq_false_iff_not]
 rw [val_limbs, val_limbs]
 have hd := limbs_len_pos.2 (Nat.pos_of_ne_zero q.den_nz)
 refine ⟨⟨⟨⟨rfl, ?_⟩, rfl⟩, q.reduced⟩, by omega⟩
 by_cases h : q.num < 0
 ·
  right
  have := limbs_len_pos.2 (show 0 < q.num.natAbs by omega)
  omega
 · left; exact h
theorem okT_of {u : Tm} (h : Mok 1048576 u.2) (h0 : u.1 ≠ 0) : okT (trmOf u) = true := by
 unfold okT
 have h1 : (trmOf u).coef.right = true := right_of u.1
 have h2 : ¬ val (trmOf u).coef.num = 0 := by
  show ¬ val (limbs u.1.num.natAbs) = 0
  rw [val_limbs]
  intro e
  exact h0 (Rat.num_eq_zero.1 (by omega))
 have h3 : monoB (trmOf u).mono = true := by
  show monoB u.2 = true
  refine monoB_good h.2.2 h.2.1 ?_
  rw [List.all_eq_true]
  exact fun x hx => by simpa using h.1 x hx
 rw [h1, h3, decide_eq_false h2]
 rfl
theorem polyB_of {p : List Tm} (h : Pok 1048576 p) : polyB (p.map trmOf) = true := by
 refine polyB_good fun i hi => ?_
 rw [List.length_map] at hi
 have hu := List.getElem?_eq_getElem hi
 have ht : (p.map trmOf)[i]? = some (trmOf p[i]) := by rw [List.getElem?_map, hu]; rfl
 have hok := okT_of (h.1 _ (List.getElem_mem hi)).1 (h.1 _ (List.getElem_mem hi)).2
 cases i with
 | zero => exact badAt_zero ht hok
 | succ j =>
  have hj : j < p.length := by omega
  have hs : (p.map trmOf)[j]? = some (trmOf p[j]) := by rw [List.getElem?_map, List.getElem?_eq_getElem hj]; rfl
  rw [badAt_succ ht hs hok, decide_eq_false_iff_not]
  have := (List.pairwise_iff_getElem.1 h.2) j (j + 1) hj hi (Nat.lt_succ_self _)
  have := lexI_pos.2 this
  show ¬ lexI p[j].2 p[j + 1].2 <= 0
  omega
theorem map_of (p : List Tm) : (p.map trmOf).map trmQ = p := by
 rw [List.map_map]
 conv => rhs; rw [<- List.map_id p]
 exact List.map_congr_left fun u _ => trmQ_of u
theorem PolX.list {X : Nat -> Prop} {w : World} {a : Option Addr} {c : Nat} {p : List Tm} (h : PolX X w a c p) : PolyR w a c (p.map trmOf) := by
 obtain ⟨l, h1, h2⟩ := h
 have hr := h1.now
 refine ⟨by rw [List.length_map, <- h2.1]; exact hr.1, hr.2.1, fun k x hx => ?_⟩
 rw [List.getElem?_map] at hx
 obtain ⟨u, hu, rfl⟩ := Option.map_eq_some_iff.1 hx
 obtain ⟨t, ht⟩ := get_of_lt (xs := l) (k := k) (by rw [h2.1]; exact lt_of_get hu)
 obtain ⟨b, off, ha, c0, c1, c2, c3⟩ := hr.2.2 k t ht
 obtain ⟨⟨e1, e2, e3, n1, n2⟩, hi, hn⟩ := (h2.2 k t u ht hu).now
 refine ⟨b, off, ha, ⟨⟨t.a, t.c, t.x.a, t.x.c, t.x.b, t.x.d⟩, ⟨?_, ?_, ?_, ?_⟩, ?_⟩⟩
 · rw [c0, e1]; rfl
 · rw [c1, e2]; rfl
 · rw [c2, e3]; rfl
 · rw [c3, hn]; rfl
 · exact ⟨hi, n1, n2⟩
def FewT (l : List Trm) : Prop := ∀ t ∈ l, t.coef.num.length <= 1000 /\ t.coef.den.length <= 1000
theorem few_of {p : List Tm} (h : FineP p) : FewT (p.map trmOf) := fun t ht => by
 obtain ⟨u, hu, rfl⟩ := List.mem_map.1 ht
 have := (h.2 u hu).2.2
 have h1 := qsz_num u.1
 have h2 := qsz_den u.1
 exact ⟨by show (limbs _).length <= _; omega, by show (limbs _).length <= _; omega⟩
def xyB : List ByteArray := [⟨#[120]⟩, ⟨#[121]⟩]
def txtA : List UInt8 := [45, 121, 94, 50, 32, 43, 32, 49, 47, 50, 42, 120, 94, 50, 32, 45, 32, 49]
def txtX : List UInt8 := [120, 43, 49]
def polA : List Tm := [(-1, [0, 2]), (qv false 1 2, [2]), (-(qv false 1 1), [])]
theorem readA : reaG xyB txtA = .ok polA [] := by rfl
theorem readX : reaG xyB txtX = .bad 2 9 := by rfl
theorem qv_one : qv false 1 1 = 1 := by decide
theorem qv_half : absQ (qv false 1 2) = qv false 1 2 /\ qv false 1 2 ≠ 1 /\ textQ (qv false 1 2) = [49, 47, 50] /\ ¬ qv false 1 2 < 0 := by
 have h1 : (qv false 1 2).num = 1 := by decide
 have h2 : (qv false 1 2).den = 2 := by decide
 have h3 : ¬ qv false 1 2 < 0 := by decide
 refine ⟨by unfold absQ; rw [if_neg h3], by decide, ?_, h3⟩
 rw [textQ_pos (Rat.not_lt.1 h3), h1, h2, if_neg (by decide)]
 rw [textN_small (by decide), textN_small (by decide)]
 rfl
theorem neg_one : absQ (-1) = 1 /\ (-1 : Rat) < 0 /\ -(qv false 1 1) = -1 := by
 have h : (-1 : Rat) < 0 := by decide
 refine ⟨by unfold absQ; rw [if_pos h]; decide, h, by rw [qv_one]⟩
theorem polA_ok : Pok 1048576 polA := by
 have hx : ∀ m : List Int, monoB m = true -> Mok 1048576 m := fun m h => monoB_ok h
 have hg1 : gtM [0, 2] [2] := ⟨1, by decide, fun u hu => by rw [expAt_far (by simp; omega), expAt_far (by simp; omega)]⟩
 have hg2 : ∀ x y : List Int, y = [] -> (∃ v, 0 < expAt x v /\ ∀ u, v < u -> expAt x u = 0) -> gtM x y := fun x y e h => by
  subst e
  obtain ⟨v, h1, h2⟩ := h
  have he : ∀ u, expAt ([] : List Int) u = 0 := fun u => expAt_far (by simp)
  exact ⟨v, by rw [he]; exact h1, fun u hu => by rw [he]; exact h2 u hu⟩
 have a2 : gtM [0, 2] [] := hg2 _ _ rfl ⟨1, by decide, fun u hu => expAt_far (by simp; omega)⟩
 have a3 : gtM [2] [] := hg2 _ _ rfl ⟨0, by decide, fun u hu => expAt_far (by simp; omega)⟩
 have c1 : (-1 : Rat) ≠ 0 := by decide
 have c2 : qv false 1 2 ≠ 0 := by decide
 have c3 : -(qv false 1 1) ≠ 0 := by rw [neg_one.2.2]; exact c1
 refine ⟨fun t ht => ?_, ?_⟩
 ·
  simp only [polA, List.mem_cons, List.not_mem_nil, or_false] at ht
  rcases ht with rfl | rfl | rfl
  · exact ⟨hx _ (by decide), c1⟩
  · exact ⟨hx _ (by decide), c2⟩
  · exact ⟨hx _ (by decide), c3⟩
 ·
  simp only [polA, List.pairwise_cons, List.mem_cons, List.not_mem_nil, or_false]
  refine ⟨fun t ht => ?_, fun t ht => ?_, fun t ht => (by cases ht), List.Pairwise.nil⟩
  ·
   rcases ht with rfl | rfl
   · exact hg1
   · exact a2
  · subst ht; exact a3
theorem readA' : readP xyB txtA = .ok polA [] := by
 unfold readP
 rw [readA]
 show Got.ok (normP polA) [] = _
 rw [normP_self polA_ok]
theorem termA1 : termL xyB (-1) [0, 2] = [121, 94, 50] := by
 have h1 : prsM [0, 2] = [(1, 2)] := by decide
 have h2 : textN 2 = [50] := textN_small (by decide)
 unfold termL
 rw [neg_one.1, if_neg (by simp), h1]
 show (if (2 : Int) = 1 then _ else _ ++ 94 :: textN 2) ++ [] = _
 rw [if_neg (by decide), h2]
 rfl
theorem termA2 : termL xyB (qv false 1 2) [2] = [49, 47, 50, 42, 120, 94, 50] := by
 have h1 : prsM [2] = [(0, 2)] := by decide
 have h2 : textN 2 = [50] := textN_small (by decide)
 unfold termL
 rw [qv_half.1, if_pos (.inr qv_half.2.1), h1, qv_half.2.2.1]
 show _ ++ (42 :: (if (2 : Int) = 1 then _ else _ ++ 94 :: textN 2) ++ []) = _
 rw [if_neg (by decide), h2]
 rfl
theorem termA3 : termL xyB (-(qv false 1 1)) [] = [49] := by
 have h1 : textN 1 = [49] := textN_small (by decide)
 unfold termL
 rw [neg_one.2.2, neg_one.1, if_pos (.inl rfl), textQ_pos (by decide), if_pos (by decide)]
 show textN 1 ++ [] = _
 rw [h1]; rfl
theorem bodyA {l : List Trm} (h : l.map trmQ = polA) : bodyL xyB l = txtA := by
 match l, h with
 | [a, b, c], h =>
  simp only [List.map_cons, List.map_nil, polA, List.cons.injEq, and_true, trmQ, Prod.mk.injEq] at h
  obtain ⟨⟨a1, a2⟩, ⟨b1, b2⟩, c1, c2⟩ := h
  rw [bodyL]
  unfold tailL sepL
  simp only [List.flatMap_cons, List.flatMap_nil, a1, a2, b1, b2, c1, c2, termA1, termA2, termA3]
  rw [if_pos neg_one.2.1, if_neg qv_half.2.2.2, if_pos (by rw [neg_one.2.2]; exact neg_one.2.1)]
  rfl
 | [], h => have := congrArg List.length h; simp [polA] at this
 | [_], h => have := congrArg List.length h; simp [polA] at this
 | [_, _], h => have := congrArg List.length h; simp [polA] at this
 | _ :: _ :: _ :: _ :: _, h => have := congrArg List.length h; simp [polA] at this
theorem printA {l : List Trm} (h : l.map trmQ = polA) (hp : polyB l = true) : printP l xyB = (ofL txtA, 0) := by
 have hl : l.length = 3 := by have := congrArg List.length h; simpa [polA] using this
 have hn : errNm xyB = 0 := by decide
 have hb : bigB l xyB.length = false := by
  unfold bigB
  rw [List.any_eq_false]
  intro t ht
  have hm : trmQ t ∈ polA := by rw [<- h]; exact List.mem_map.2 ⟨t, ht, rfl⟩
  simp only [polA, List.mem_cons, List.not_mem_nil, or_false] at hm
  have hle : (trmQ t).2.length <= 2 := by rcases hm with e | e | e <;> rw [e] <;> decide
  have hle' : t.mono.length <= 2 := hle
  have h2 : xyB.length = 2 := rfl
  simp; omega
 unfold printP
 rw [if_pos hp, if_pos hn, hb, if_neg (by decide), if_neg (by omega)]
 refine Prod.ext ?_ rfl
 apply ba_ext
 rw [polyTo_all, bodyA h, ofL_list]
theorem qsz_small {n d : Nat} (hn : n < 65536) (hd : d + 1 < 65536) : qsz (qv false n d) <= 1 := by
 obtain ⟨h1, h2⟩ := qv_num_le false n d
 exact qsz_le (limbs_len_le (by rw [Nat.pow_one]; omega)) (limbs_len_le (by rw [Nat.pow_one]; omega))
theorem wokA : Wok xyB (⟨#[45, 121, 94, 50, 32, 43, 32, 49, 47, 50, 42, 120, 94, 50, 32, 45, 32, 49]⟩ : ByteArray).data.toList := fun L r h => by
 have h2 : reaG xyB txtA = .ok L r := h
 rw [readA] at h2
 injection h2 with h3 h4
 subst h3
 unfold wtP polA
 have a1 : qsz (-1) <= 1 := by rw [qsz_neg]; exact qsz_unit
 have a2 := qsz_small (n := 1) (d := 2) (by decide) (by decide)
 have a3 : qsz (-(qv false 1 1)) <= 1 := by rw [qsz_neg]; exact qsz_small (by decide) (by decide)
 simp only [List.map_cons, List.map_nil, List.sum_cons, List.sum_nil]
 omega
theorem wokX : Wok xyB (⟨#[120, 43, 49]⟩ : ByteArray).data.toList := fun L r h => by
 have h2 : reaG xyB txtX = .ok L r := h
 rw [readX] at h2
 cases h2
theorem xyB_err : errNm xyB = 0 := by decide
theorem xyB_row (w : World) : StrsR (w.alloc (.cells #[.string ⟨#[120]⟩, .string ⟨#[121]⟩] 9)) (some ⟨w.heap.size, 0, none⟩) 2 xyB := by
 have hB := Blk.new w 9 #[.string ⟨#[120]⟩, .string ⟨#[121]⟩]
 refine ⟨by decide, by simp [maxLen], fun k x hx => ⟨w.heap.size, 0, rfl, ?_⟩⟩
 match k, hx with
 | 0, hx => injection hx with hx; subst hx; exact hB.cell 0
 | 1, hx => injection hx with hx; subst hx; exact hB.cell 1
theorem alive_any (w : World) (he : ErrW w) (ht : TabW w) : Calls Tryz.prog 12 #[] w fun e w' => e = .returned (.bool true) /\ Below w.heap.size w w' := by
 have HE := Hd (fun W (hW : Below w.heap.size w W) => he.below hW)
 have HT := Hd (fun W (hW : Below w.heap.size w W) => ht.below hW)
 have hz : ∀ x ∈ xyB, x.size <= 1048576 := by decide
 have C1 := Hd (fun W a c (h : StrsR W a c xyB) (he : ErrW W) => readS_any (⟨#[45, 121, 94, 50, 32, 43, 32, 49, 47, 50, 42, 120, 94, 50, 32, 45, 32, 49]⟩ : ByteArray) xyB a c W h hz (by decide) (by decide) wokA he)
 have C2 := Hd (fun W a c (h : StrsR W a c xyB) (he : ErrW W) => readS_any (⟨#[120, 43, 49]⟩ : ByteArray) xyB a c W h hz (by decide) (by decide) wokX he)
 clear he ht
 go_enter Tryz.func12, Tryz.ntmps12
 go_wp2_with fail
 refine calls_gen (fun W => StrsR W (some ⟨w.heap.size, 0, none⟩) 2 xyB /\ Below w.heap.size w W) ⟨xyB_row w, by go_grown⟩ ?_
 rintro w0 ⟨hn0, hw0⟩
 refine (C1.out w0 _ _ hn0 (HE.out w0 hw0)).mono ?_
 rintro e w1 ⟨a, n, c, at_, er, rfl, hb1, _, hok⟩
 have hok2 := hok xyB_err
 rw [show readP xyB (⟨#[45, 121, 94, 50, 32, 43, 32, 49, 47, 50, 42, 120, 94, 50, 32, 45, 32, 49]⟩ : ByteArray).data.toList = .ok polA [] from readA'] at hok2
 obtain ⟨rfl, hP, rfl, rfl, hF⟩ := hok2
 have hw1 := bth hw0 hb1
 have hn1 : StrsR w1 (some ⟨w.heap.size, 0, none⟩) 2 xyB := hn0.ext (xbw hb1)
 have hl := hP.list
 obtain ⟨l, hle⟩ : ∃ l, polA.map trmOf = l := ⟨_, rfl⟩
 have hfew := few_of hF
 have hpb := polyB_of polA_ok
 have hmap := map_of polA
 rw [hle] at hl hfew hpb hmap
 have hlen : l.length = polA.length := by rw [<- hle, List.length_map]
 have hp3 : polA.length = 3 := rfl
 have CP := printS_any l xyB a (some ⟨w.heap.size, 0, none⟩) c 2 w1 hl hfew (by omega) hn1 (by decide) hz (HT.out w1 hw1)
 rw [printA hmap hpb, hlen, hp3] at CP
 replace CP := Hd CP
 rw [hp3]
 clear C1 hok hP hF hl hle hfew hpb hmap hlen hp3 hn0 hw0 hb1
 go_wp2_with fail
 refine CP.out.mono ?_
 rintro e w2 ⟨rfl, hb2⟩
 have hw2 := bth hw1 hb2
 have hn2 := hn1.ext (xbw hb2)
 clear CP hn1 hb2
 go_wp2_with fail
 refine (C2.out w2 _ _ hn2 (HE.out w2 hw2)).mono ?_
 rintro e w3 ⟨a3, n3, c3, at3, er3, rfl, hb3, _, hok3⟩
 have hok4 := hok3 xyB_err
 rw [show readP xyB (⟨#[120, 43, 49]⟩ : ByteArray).data.toList = .bad 2 9 from by unfold readP; rw [show reaG xyB (⟨#[120, 43, 49]⟩ : ByteArray).data.toList = .bad 2 9 from readX]; rfl] at hok4
 obtain ⟨_, _, hat, rfl, _, _⟩ := hok4
 have hat1 : at3 = 1 := hat
 subst hat1
 have hw3 := bth hw2 hb3
 have hstr : ofL txtA = (⟨#[45, 121, 94, 50, 32, 43, 32, 49, 47, 50, 42, 120, 94, 50, 32, 45, 32, 49]⟩ : ByteArray) := rfl
 rw [hstr]
 clear C2 hok3 hn2 hb3 hat
 go_wp2
 go_ret
 exact ⟨rfl, hw3⟩
def SmlT (t : Trm) : Prop := t.mono.length <= 70 /\ t.coef.num.length <= 6 /\ t.coef.den.length <= 6
def SmlP (l : List Trm) (names : List ByteArray) : Prop := l.length <= 12 /\ names.length <= 70 /\ (∀ t ∈ l, SmlT t) /\ ∀ x ∈ names, x.size <= 30
def RetSml (l : List Trm) (names : List ByteArray) (w : World) (e : Ending) (w' : World) : Prop := ∃ q : Bool, e = .returned (.bool q) /\ (q = true -> SmlP l names) /\ w = w'
theorem small_any (l : List Trm) (names : List ByteArray) (a b : Option Addr) (ca cb : Nat) (w : World) (h : PolyR w a ca l) (h' : StrsR w b cb names) :
  Calls Tryz.prog 11 #[.slice a l.length ca, .slice b names.length cb] w (RetSml l names w) := by
 have ll := h.len; have ln := h'.len
 have HP := Hd h; have HN := Hd h'
 clear h h'
 go_enter Tryz.func11, Tryz.ntmps11
 by_cases h1 : 12 < l.length
 ·
  have d1 : decide (12 < l.length) = true := by simpa using h1
  go_wp2
  go_ret
  exact ⟨false, rfl, (fun h => by cases h), rfl⟩
 have d1 : decide (12 < l.length) = false := by simpa using h1
 by_cases h2 : 70 < names.length
 ·
  have d2 : decide (70 < names.length) = true := by simpa using h2
  go_wp2
  go_ret
  exact ⟨false, rfl, (fun h => by cases h), rfl⟩
 have d2 : decide (70 < names.length) = false := by simpa using h2
 go_wp2
 go_loopg [5] l.length (fun gk i wr => ∃ k : Nat, Hid (k + gk = l.length) /\ i = .int .i64 k /\ Hid (∀ t ∈ l.take k, SmlT t) /\ w = wr)
 case atStart => exact ⟨0, by show _ = _; omega, rfl, fun t ht => by simp at ht, rfl⟩
 case round =>
  obtain ⟨k, hk, rfl, hA, rfl⟩ := hrel
  by_cases hlt : k < l.length
  ·
   obtain ⟨t, ht⟩ := get_of_lt hlt
   obtain ⟨bs, os, rfl, ps, cs, rs⟩ := HP.out.2.2 k t ht
   obtain ⟨s0, s1, s2, s3⟩ := cs
   have hm := Hd (take_more ht)
   clear ht rs
   by_cases q1 : 70 < t.mono.length
   ·
    have e1 : decide (70 < t.mono.length) = true := by simpa using q1
    go_wp2
    go_ret
    exact ⟨false, rfl, (fun h => by cases h), rfl⟩
   have e1 : decide (70 < t.mono.length) = false := by simpa using q1
   by_cases q2 : 6 < t.coef.num.length
   ·
    have e2 : decide (6 < t.coef.num.length) = true := by simpa using q2
    go_wp2
    go_ret
    exact ⟨false, rfl, (fun h => by cases h), rfl⟩
   have e2 : decide (6 < t.coef.num.length) = false := by simpa using q2
   by_cases q3 : 6 < t.coef.den.length
   ·
    have e3 : decide (6 < t.coef.den.length) = true := by simpa using q3
    go_wp2
    go_ret
    exact ⟨false, rfl, (fun h => by cases h), rfl⟩
   have e3 : decide (6 < t.coef.den.length) = false := by simpa using q3
   have hA2 := Hd (show ∀ u ∈ l.take (k + 1), SmlT u from fun u hu => by
    rw [hm.out] at hu
    rcases List.mem_append.1 hu with hu | hu
    · exact hA.out u hu
    · rw [List.mem_singleton] at hu; subst hu; exact ⟨by omega, by omega, by omega⟩)
   go_wp2
   go_roundg (gk - 1)
   case rel => exact ⟨k + 1, by have := hk.out; show _ = _; omega, by go_num, hA2.out, rfl⟩
   case measure => have := hk.out; omega
  ·
   have hkl : k = l.length := by have := hk.out; omega
   have hAll := Hd (show ∀ t ∈ l, SmlT t from fun t ht => hA.out t (by rw [hkl, List.take_length]; exact ht))
   clear hkl
   go_wp2
   go_loopg [6] names.length (fun gk i wr => ∃ k : Nat, Hid (k + gk = names.length) /\ i = .int .i64 k /\ Hid (∀ x ∈ names.take k, x.size <= 30) /\ w = wr)
   case atStart => exact ⟨0, by show _ = _; omega, rfl, fun t ht => by simp at ht, rfl⟩
   case round =>
    clear hA hk hlt
    obtain ⟨k, hk, rfl, hA, rfl⟩ := hrel
    by_cases hlt : k < names.length
    ·
     obtain ⟨x, hx⟩ := get_of_lt hlt
     obtain ⟨bs, os, rfl, hc⟩ := HN.out.2.2 k x hx
     simp only [Nat.mul_one] at hc
     have hc2 : w.cell? ⟨bs, os + k, none⟩ = some (.string x) := hc
     have hm := Hd (take_more hx)
     clear hx hc
     by_cases q1 : 30 < x.size
     ·
      have e1 : decide (30 < x.size) = true := by simpa using q1
      go_wp2
      go_ret
      exact ⟨false, rfl, (fun h => by cases h), rfl⟩
     have e1 : decide (30 < x.size) = false := by simpa using q1
     have hA2 := Hd (show ∀ u ∈ names.take (k + 1), u.size <= 30 from fun u hu => by
      rw [hm.out] at hu
      rcases List.mem_append.1 hu with hu | hu
      · exact hA.out u hu
      · rw [List.mem_singleton] at hu; subst hu; omega)
     go_wp2
     go_roundg (gk - 1)
     case rel => exact ⟨k + 1, by have := hk.out; show _ = _; omega, by go_num, hA2.out, rfl⟩
     case measure => have := hk.out; omega
    ·
     have hkl : k = names.length := by have := hk.out; omega
     have hN2 := Hd (show ∀ x ∈ names, x.size <= 30 from fun t ht => hA.out t (by rw [hkl, List.take_length]; exact ht))
     clear hkl
     go_wp2
     go_ret
     exact ⟨true, rfl, fun _ => ⟨by omega, by omega, hAll.out, hN2.out⟩, rfl⟩
theorem sml_few {l : List Trm} {names : List ByteArray} (h : SmlP l names) : FewT l := fun t ht => by have := h.2.2.1 t ht; exact ⟨by have := this.2.1; omega, by have := this.2.2; omega⟩
theorem sml_names {l : List Trm} {names : List ByteArray} (h : SmlP l names) : ∀ s ∈ names, s.size <= 1048576 := fun s hs => by have := h.2.2.2 s hs; omega
end Go.Proofs.YtkjnkpkagcboeaaGreatDoor
