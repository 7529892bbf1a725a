/- Walks: whether a polynomial is right, by the reference. -/
import Derived.Test.YtdnblkklgdnapaaGreatDoorCt14
import Derived.Test.YtdnblkklgdnapaaGreatDoorCt13
import Derived.Test.YtdnblkklgdnapaaGreatDoorCt11
set_option linter.all false
set_option maxRecDepth 100000
set_option maxHeartbeats 4000000
namespace Go.Proofs.YtdnblkklgdnapaaGreatDoor
open Go.RowKit
def cofA (t : Trm) (p : RA) : QA := ⟨t.coef.neg, t.coef.num.length, p.na, p.nc, t.coef.den.length, p.da, p.dc⟩
theorem cofA_qk {w : World} {t : Trm} {p : RA} (h : PartsR w p t.mono t.coef) (hr : t.coef.right = true) (h1 : t.coef.num.length <= 1000) (h2 : t.coef.den.length <= 1000) : QK 1000 w (cofA t p) t.coef.q := by
 obtain ⟨a, b⟩ := RtZ.qac (w := w) (r := t.coef) (z := cofA t p) ⟨rfl, rfl, rfl, h.2.1, h.2.2⟩ hr
 exact ⟨a, by omega⟩
theorem termB_size {q : Rat} {m : List Int} {names : List ByteArray} (hn : ∀ s ∈ names, s.size <= 1048576) (hm : ∀ x ∈ m, x <= 1048576) (ht : (textQ (absQ q)).length <= 20000002) (hml : m.length <= 64) : (termB q m names).size <= 1400000000 := by
 have hsh := joinB_size (partsT_short (q := q) (m := m) (names := names) (N := 1048576) (T := 20000002) hn hm ht m.length)
 have hpl := partsT_len q m names m.length
 exact Nat.le_trans hsh (Nat.le_trans (Nat.mul_le_mul_right _ (show _ <= 65 by omega)) (by omega))
theorem absQ_sz (q : Rat) : qsz (absQ q) = qsz q := by unfold absQ; split; exact qsz_neg q; rfl
theorem textT_len {t : Trm} (hr : t.coef.right = true) (h1 : t.coef.num.length <= 1000) (h2 : t.coef.den.length <= 1000) : (textQ (absQ t.coef.q)).length <= 20000002 := by
 obtain ⟨e1, e2, e3⟩ := right_trip hr
 refine textQ_len (k := 1000) _ ?_ (by omega)
 rw [absQ_sz]
 unfold qsz
 rw [e2, e3]
 omega
theorem sgnQ_lt2 (q : Rat) : decide (sgnQ q < 0) = decide (q < 0) := by
 unfold sgnQ
 by_cases h : q = 0
 · subst h; rw [if_pos rfl]; rfl
 ·
  rw [if_neg h]
  by_cases h2 : q < 0
  · rw [if_pos h2]; simp [h2]
  · rw [if_neg h2]; simp [h2]
theorem bigB_le {l : List Trm} {n : Nat} {t : Trm} (h : bigB l n = false) (ht : t ∈ l) : t.mono.length <= n := by
 apply Nat.le_of_not_lt
 intro hc
 have : bigB l n = true := by unfold bigB; rw [List.any_eq_true]; exact ⟨t, ht, by simpa using hc⟩
 rw [h] at this; cases this
theorem printS_any (l : List Trm) (names : List ByteArray) (a na : Option Addr) (c nc : Nat) (w : World) (h : PolyR w a c l) (hq : ∀ t ∈ l, t.coef.num.length <= 1000 /\ t.coef.den.length <= 1000) (hl : l.length <= 1000)
  (hn : StrsR w na nc names) (hnl : names.length <= 1000) (hnz : ∀ s ∈ names, s.size <= 1048576) (ht : TabW w) :
  Calls Tryz.prog 24 #[.slice a l.length c, .slice na names.length nc] w fun e w' => e = .returned (.tuple #[.string (printP l names).1, .int .i64 (printP l names).2]) /\ Below w.heap.size w w' := by
 have CR := polyP_any l a c w h (fun t ht => by have := hq t ht; omega)
 have CK := fun W (hW : Below w.heap.size w W) => checkS_any names na nc W (hn.ext (xbw hW)) hnz (by omega)
 have CV := fun W (hW : Below w.heap.size w W) hm => vars_any l a c W (h.ext (xbw hW)) (by omega) hm
 have HP := Hd (fun W (hW : Below w.heap.size w W) => h.ext (xbw hW))
 have HN := Hd (fun W (hW : Below w.heap.size w W) => hn.ext (xbw hW))
 have HT := Hd (fun W (hW : Below w.heap.size w W) => ht.below hW)
 have HQ := Hd hq; have HNZ := Hd hnz
 obtain ⟨R, hR⟩ : ∃ r, printP l names = r := ⟨_, rfl⟩
 rw [hR]
 unfold printP at hR
 clear h hq hn hnz ht
 replace CV := Hd CV
 cases hpb : polyB l
 ·
  rw [hpb] at CR hR
  have hfin := Hd (show R = (⟨#[]⟩, 1) from hR.symm)
  replace CR := Hd CR
  clear hpb hR CK
  go_enter Tryz.func24, Tryz.ntmps24
  go_wp2_with fail
  refine CR.out.mono ?_
  rintro e w1 ⟨rfl, hb1⟩
  go_wp2
  go_ret2
  exact ⟨by rw [hfin.out]; rfl, hb1⟩
 rw [hpb] at CR hR
 have HPB := Hd (polyB_terms hpb)
 rw [if_pos rfl] at hR
 replace CR := Hd CR
 clear hpb
 obtain ⟨er, her⟩ : ∃ e, errNm names = e := ⟨_, rfl⟩
 simp only [her] at CK hR
 replace CK := Hd CK
 by_cases he : er = 0
 ·
  subst he
  rw [if_pos rfl] at hR
  have hm64 : ∀ t ∈ l, t.mono.length <= 64 := fun t ht => (monoB_mem (HPB.out t ht).2).1
  have hbl := fun v h => bigB_last (l := l) (n := names.length) (v := v) (fun t ht => (HPB.out t ht).2) h
  have hbn := fun h => bigB_none (l := l) (n := names.length) (fun t ht => (HPB.out t ht).2) h
  have CV2 := fun W hW => CV.out W hW hm64
  replace CV2 := Hd CV2; replace hbl := Hd hbl; replace hbn := Hd hbn; replace hm64 := Hd hm64; replace her := Hd her
  clear CV
  obtain ⟨bg, hbg⟩ : ∃ b, bigB l names.length = b := ⟨_, rfl⟩
  rw [hbg] at hR
  replace hbg := Hd hbg
  go_enter Tryz.func24, Tryz.ntmps24
  go_wp2_with fail
  refine CR.out.mono ?_
  rintro e w1 ⟨rfl, hb1⟩
  go_wp2_with fail
  refine (CK.out w1 hb1).mono ?_
  rintro e w2 ⟨rfl, hb2⟩
  have hw2 := bth hb1 hb2
  go_wp2_with fail
  refine (CV2.out w2 hw2).mono ?_
  rintro e w3 ⟨av, cv, rfl, hV, hb3⟩
  have hw3 := bth hw2 hb3
  have hvl := varsI_len l 64
  clear CR CK CV2 hb1 hb2 hb3 hw2
  by_cases hv0 : (varsI l 64).length = 0
  ·
   have hbf : bg = false := by rw [<- hbg.out]; exact hbn.out hv0
   subst hbf
   rw [if_neg (by simp)] at hR
   have hv1 : decide (0 < (varsI l 64).length) = false := by rw [decide_eq_false]; omega
   replace hR := Hd hR
   clear hbn hbl hV hv0
   by_cases hl0 : l.length = 0
   ·
    have hl1 : ((l.length : Int) == 0) = true := by rw [beq_iff_eq]; omega
    have hfin := Hd (show R = (⟨#[48]⟩, 0) by rw [<- hR.out, if_pos hl0])
    clear hR hl0
    go_wp2
    go_ret2
    exact ⟨by rw [hfin.out]; rfl, hw3⟩
   have hl1 : ((l.length : Int) == 0) = false := by rw [beq_eq_false_iff_ne]; omega
   have hfin := Hd (show R = (polyTo l names l.length, 0) by rw [<- hR.out, if_neg hl0])
   clear hR hl0
   go_wp2
   have hB0 := Bld.new w3
   have hb0 : Below w3.heap.size w3 (w3.alloc (.cells #[.pointer none, .slice none 0 0] 88)) := brf.alloc (nlr _) _
   revert hB0 hb0
   generalize w3.alloc (.cells #[.pointer none, .slice none 0 0] 88) = w4
   intro hB0 hb0
   go_loopg [9, 10, 11, 41] l.length (fun g _ _ _ s41 wr => ∃ (k : Nat) (L : List UInt8), Hid (k + g = l.length) /\ s41 = .int .i64 k /\ Bld w3.heap.size L wr /\ Hid (ofL L = polyTo l names k) /\ Below w3.heap.size w3 wr)
   case atStart => exact ⟨0, [], by show _ = _; omega, rfl, hB0, rfl, hb0⟩
   case round =>
    clear hB0 hb0
    obtain ⟨k, L, hk, rfl, hB, hL, hwr⟩ := hrel
    by_cases hlt : k < l.length
    ·
     obtain ⟨t, ht⟩ := get_of_lt hlt
     have htl := List.mem_of_getElem? ht
     have hp0 := HP.out w brf
     obtain ⟨b, o, rfl, p, hC0, hR0⟩ := hp0.2.2 k t ht
     obtain ⟨c0, c1, c2, c3⟩ := hC0
     have hww := bth hw3 hwr
     have d0 := held c0 wr hww; have d1 := held c1 wr hww; have d2 := held c2 wr hww; have d3 := held c3 wr hww
     have hbl : b < wr.heap.size := World.block_lt_of_cell? wr _ d0
     have HR := Hd (fun W (hW : Below w.heap.size w W) => PartsR.ext hR0 (xbw hW))
     have HC := Hd (fun W (hW : Below w.heap.size w W) => cofA_qk (HR.out W hW) (HPB.out t htl).1 (HQ.out t htl).1 (HQ.out t htl).2)
     have htm := monoB_mem (HPB.out t htl).2
     have htn := bigB_le hbg.out htl
     have HTS := Hd (termB_size HNZ.out (fun x hx => (htm.2 x hx).2) (textT_len (HPB.out t htl).1 (HQ.out t htl).1 (HQ.out t htl).2) htm.1)
     have hplen : L.length <= 1000 * (1400000000 + 3) := by
      have e1 := polyTo_size (l := l) (names := names) (M := 1400000000) (fun u hu => termB_size HNZ.out (fun x hx => ((monoB_mem (HPB.out u hu).2).2 x hx).2) (textT_len (HPB.out u hu).1 (HQ.out u hu).1 (HQ.out u hu).2) (monoB_mem (HPB.out u hu).2).1) k
      rw [<- hL.out, ofL_size] at e1
      exact Nat.le_trans e1 (Nat.mul_le_mul_right _ (by omega))
     have ht2 := Hd ht
     have hsl := sgnQ_lt2 t.coef.q
     have htm2 := Hd htm
     clear c0 c1 c2 c3 hp0 hR0 ht htl hww htm
     go_wp2_with fail
     refine calls_gen (fun W => Blk W wr.heap.size 98 #[.bool t.coef.neg, .slice p.na t.coef.num.length p.nc, .slice p.da t.coef.den.length p.dc, .slice p.aa t.mono.length p.ac] /\ Below wr.heap.size wr W) ⟨by ((with_reducible repeat first|assumption|(apply bF;focus omega)|apply bS|(apply bN;focus (simp;done))|apply bA|apply bD);all_goals rfl), by go_grown⟩ ?_
     rintro w4 ⟨hC4, hb4⟩
     have hB4 := hB.below hb4
     have hw4 := bth hwr hb4
     have hgb : wr.heap.size ≠ w3.heap.size := by have := hB.lt; omega
     obtain ⟨gC, hgC⟩ : ∃ q, wr.heap.size = q := ⟨_, rfl⟩
     rw [hgC] at hC4 hgb hbl ⊢
     replace hgC := Hd hgC
     refine (sign_q (cofA t p) t.coef.q 1000 w4 (HC.out w4 (bth hw3 hw4)) (by omega)).mono ?_
     rintro e w5 ⟨rfl, hb5⟩
     replace hB4 := hB4.below hb5; replace hC4 := hC4.below' hb5; replace hw4 := bth hw4 hb5
     obtain ⟨w4, rfl⟩ : ∃ W, W = w5 := ⟨_, rfl⟩
     obtain ⟨sg, hsg2⟩ : ∃ r, sgnQ t.coef.q = r := ⟨_, rfl⟩
     rw [hsg2] at hsl ⊢
     clear d0 d1 d2 d3 hb4 hb5 hB hwr hsg2
     by_cases hq : t.coef.q < 0
     ·
      rw [decide_eq_true hq] at hsl
      have hsi : sg < 0 := of_decide_eq_true hsl
      by_cases h0 : k = 0
      ·
       have hk0 : ((k : Int) == 0) = true := by rw [beq_iff_eq]; omega
       have hk1 : decide (0 < k) = false := by rw [decide_eq_false]; omega
       have hsg := Hd (show signP k t.coef.q = ofL [45] by unfold signP; rw [if_pos h0, if_pos hq]; rfl)
       clear hsl hq h0
       have CW := Hd (write_any w3.heap.size L (⟨#[45]⟩:ByteArray) w4 hB4 (by show L.length + 1 <= _; omega))
       go_wp2_with fail
       refine CW.out.mono ?_
       rintro e w5 ⟨⟨vv, rfl⟩, hB5, hb5, ho5⟩
       have hC5 := ho5.blk hC4 hgb (by decide)
       have hw5 := hw4.trans hb5
       have hL5 : ofL (L ++ (⟨#[45]⟩:ByteArray).data.toList) = polyTo l names k ++ signP k t.coef.q := by rw [hsg.out, <- hL.out]; exact (ofL_app _ _).symm
       clear hB4 hC4 hb5 ho5 hw4 CW
       have gC5 := hC5.lt
       have k0 := hC5.cell 0; have k1 := hC5.cell 1; have k2' := hC5.cell 2; have k3 := hC5.cell 3
       have CT := Hd (termS_any (cofA t p) t.coef.q t.mono names p.aa na p.ac nc 1000 w5 (HC.out w5 (bth hw3 hw5)) (by omega) (HR.out w5 (bth hw3 hw5)).1 (HN.out w5 (bth hw3 hw5)) htn htm2.out.1 htm2.out.2 HNZ.out (HT.out w5 (bth hw3 hw5)))
       replace hL5 := Hd hL5
       go_wp2_with fail
       refine CT.out.mono ?_
       rintro e w6 ⟨rfl, hb6⟩
       have hB6 := hB5.below hb6
       have hw6 := bth hw5 hb6
       obtain ⟨tb, htb⟩ : ∃ x, termB t.coef.q t.mono names = x := ⟨_, rfl⟩
       have hts := HTS.out
       rw [htb] at hts ⊢
       have hps2 : (polyTo l names (k + 1)) = polyTo l names k ++ signP k t.coef.q ++ tb := by rw [<- htb]; exact polyTo_succ ht2.out
       obtain ⟨L5, hL5e⟩ : ∃ x, L ++ (⟨#[45]⟩ : ByteArray).data.toList = x := ⟨_, rfl⟩
       rw [hL5e] at hL5 hB6
       have hlen5 : L5.length <= 1400000004000 := by
        have e2 := congrArg ByteArray.size hL.out
        rw [ofL_size] at e2
        have e1 := congrArg ByteArray.size hL5.out
        rw [ofL_size, ByteArray.size_append] at e1
        have := signP_size k t.coef.q
        omega
       have CW2 := Hd (write_any w3.heap.size L5 tb w6 hB6 (by omega))
       clear k0 k1 k2' k3 CT hb6 hB5 hC5 gC5 hw5 htb hL5e
       replace hps2 := Hd hps2
       go_wp2_with fail
       refine CW2.out.mono ?_
       rintro e w7 ⟨⟨vv2, rfl⟩, hB7, hb7, ho7⟩
       have hw7 := hw6.trans hb7
       have hL7 : ofL (L5 ++ tb.data.toList) = polyTo l names (k + 1) := by rw [hps2.out, <- hL5.out, <- ofL_app]; rfl
       replace hL7 := Hd hL7
       clear CW2 hB6 hb7 ho7 hw6
       go_wp2
       go_roundg (gk - 1)
       case rel => exact ⟨k + 1, _, by have := hk.out; show _ = _; omega, by go_num, hB7, hL7.out, hw7⟩
       case measure => have := hk.out; omega
      ·
       have hk0 : ((k : Int) == 0) = false := by rw [beq_eq_false_iff_ne]; omega
       have hk1 : decide (0 < k) = true := by rw [decide_eq_true_eq]; omega
       have hsg := Hd (show signP k t.coef.q = ofL [32, 45, 32] by unfold signP; rw [if_neg h0, if_pos hq]; rfl)
       clear hsl hq h0
       have CW := Hd (write_any w3.heap.size L (⟨#[32, 45, 32]⟩:ByteArray) w4 hB4 (by show L.length + 3 <= _; omega))
       go_wp2_with fail
       refine CW.out.mono ?_
       rintro e w5 ⟨⟨vv, rfl⟩, hB5, hb5, ho5⟩
       have hC5 := ho5.blk hC4 hgb (by decide)
       have hw5 := hw4.trans hb5
       have hL5 : ofL (L ++ (⟨#[32, 45, 32]⟩:ByteArray).data.toList) = polyTo l names k ++ signP k t.coef.q := by rw [hsg.out, <- hL.out]; exact (ofL_app _ _).symm
       clear hB4 hC4 hb5 ho5 hw4 CW
       have gC5 := hC5.lt
       have k0 := hC5.cell 0; have k1 := hC5.cell 1; have k2' := hC5.cell 2; have k3 := hC5.cell 3
       have CT := Hd (termS_any (cofA t p) t.coef.q t.mono names p.aa na p.ac nc 1000 w5 (HC.out w5 (bth hw3 hw5)) (by omega) (HR.out w5 (bth hw3 hw5)).1 (HN.out w5 (bth hw3 hw5)) htn htm2.out.1 htm2.out.2 HNZ.out (HT.out w5 (bth hw3 hw5)))
       replace hL5 := Hd hL5
       go_wp2_with fail
       refine CT.out.mono ?_
       rintro e w6 ⟨rfl, hb6⟩
       have hB6 := hB5.below hb6
       have hw6 := bth hw5 hb6
       obtain ⟨tb, htb⟩ : ∃ x, termB t.coef.q t.mono names = x := ⟨_, rfl⟩
       have hts := HTS.out
       rw [htb] at hts ⊢
       have hps2 : (polyTo l names (k + 1)) = polyTo l names k ++ signP k t.coef.q ++ tb := by rw [<- htb]; exact polyTo_succ ht2.out
       obtain ⟨L5, hL5e⟩ : ∃ x, L ++ (⟨#[32, 45, 32]⟩ : ByteArray).data.toList = x := ⟨_, rfl⟩
       rw [hL5e] at hL5 hB6
       have hlen5 : L5.length <= 1400000004000 := by
        have e2 := congrArg ByteArray.size hL.out
        rw [ofL_size] at e2
        have e1 := congrArg ByteArray.size hL5.out
        rw [ofL_size, ByteArray.size_append] at e1
        have := signP_size k t.coef.q
        omega
       have CW2 := Hd (write_any w3.heap.size L5 tb w6 hB6 (by omega))
       clear k0 k1 k2' k3 CT hb6 hB5 hC5 gC5 hw5 htb hL5e
       replace hps2 := Hd hps2
       go_wp2_with fail
       refine CW2.out.mono ?_
       rintro e w7 ⟨⟨vv2, rfl⟩, hB7, hb7, ho7⟩
       have hw7 := hw6.trans hb7
       have hL7 : ofL (L5 ++ tb.data.toList) = polyTo l names (k + 1) := by rw [hps2.out, <- hL5.out, <- ofL_app]; rfl
       replace hL7 := Hd hL7
       clear CW2 hB6 hb7 ho7 hw6
       go_wp2
       go_roundg (gk - 1)
       case rel => exact ⟨k + 1, _, by have := hk.out; show _ = _; omega, by go_num, hB7, hL7.out, hw7⟩
       case measure => have := hk.out; omega
     ·
      rw [decide_eq_false hq] at hsl
      have hsi : ¬ sg < 0 := of_decide_eq_false hsl
      by_cases h0 : k = 0
      ·
       have hk0 : ((k : Int) == 0) = true := by rw [beq_iff_eq]; omega
       have hk1 : decide (0 < k) = false := by rw [decide_eq_false]; omega
       have hsg := Hd (show signP k t.coef.q = ⟨#[]⟩ by unfold signP; rw [if_pos h0, if_neg hq])
       have hL5 : ofL L = polyTo l names k ++ signP k t.coef.q := by rw [hsg.out, <- hL.out]; apply ba_ext; simp [ByteArray.data_append]
       clear hsl hq h0
       obtain ⟨w5, rfl⟩ : ∃ W, W = w4 := ⟨_, rfl⟩
       have hC5 := hC4; have hB5 := hB4; have hw5 := hw4
       clear hC4 hB4 hw4
       have gC5 := hC5.lt
       have k0 := hC5.cell 0; have k1 := hC5.cell 1; have k2' := hC5.cell 2; have k3 := hC5.cell 3
       have CT := Hd (termS_any (cofA t p) t.coef.q t.mono names p.aa na p.ac nc 1000 w5 (HC.out w5 (bth hw3 hw5)) (by omega) (HR.out w5 (bth hw3 hw5)).1 (HN.out w5 (bth hw3 hw5)) htn htm2.out.1 htm2.out.2 HNZ.out (HT.out w5 (bth hw3 hw5)))
       replace hL5 := Hd hL5
       go_wp2_with fail
       refine CT.out.mono ?_
       rintro e w6 ⟨rfl, hb6⟩
       have hB6 := hB5.below hb6
       have hw6 := bth hw5 hb6
       obtain ⟨tb, htb⟩ : ∃ x, termB t.coef.q t.mono names = x := ⟨_, rfl⟩
       have hts := HTS.out
       rw [htb] at hts ⊢
       have hps2 : (polyTo l names (k + 1)) = polyTo l names k ++ signP k t.coef.q ++ tb := by rw [<- htb]; exact polyTo_succ ht2.out
       obtain ⟨L5, hL5e⟩ : ∃ x, L = x := ⟨_, rfl⟩
       rw [hL5e] at hL5 hB6
       have hlen5 : L5.length <= 1400000004000 := by
        have e2 := congrArg ByteArray.size hL.out
        rw [ofL_size] at e2
        have e1 := congrArg ByteArray.size hL5.out
        rw [ofL_size, ByteArray.size_append] at e1
        have := signP_size k t.coef.q
        omega
       have CW2 := Hd (write_any w3.heap.size L5 tb w6 hB6 (by omega))
       clear k0 k1 k2' k3 CT hb6 hB5 hC5 gC5 hw5 htb hL5e
       replace hps2 := Hd hps2
       go_wp2_with fail
       refine CW2.out.mono ?_
       rintro e w7 ⟨⟨vv2, rfl⟩, hB7, hb7, ho7⟩
       have hw7 := hw6.trans hb7
       have hL7 : ofL (L5 ++ tb.data.toList) = polyTo l names (k + 1) := by rw [hps2.out, <- hL5.out, <- ofL_app]; rfl
       replace hL7 := Hd hL7
       clear CW2 hB6 hb7 ho7 hw6
       go_wp2
       go_roundg (gk - 1)
       case rel => exact ⟨k + 1, _, by have := hk.out; show _ = _; omega, by go_num, hB7, hL7.out, hw7⟩
       case measure => have := hk.out; omega
      ·
       have hk0 : ((k : Int) == 0) = false := by rw [beq_eq_false_iff_ne]; omega
       have hk1 : decide (0 < k) = true := by rw [decide_eq_true_eq]; omega
       have hsg := Hd (show signP k t.coef.q = ofL [32, 43, 32] by unfold signP; rw [if_neg h0, if_neg hq]; rfl)
       clear hsl hq h0
       have CW := Hd (write_any w3.heap.size L (⟨#[32, 43, 32]⟩:ByteArray) w4 hB4 (by show L.length + 3 <= _; omega))
       go_wp2_with fail
       refine CW.out.mono ?_
       rintro e w5 ⟨⟨vv, rfl⟩, hB5, hb5, ho5⟩
       have hC5 := ho5.blk hC4 hgb (by decide)
       have hw5 := hw4.trans hb5
       have hL5 : ofL (L ++ (⟨#[32, 43, 32]⟩:ByteArray).data.toList) = polyTo l names k ++ signP k t.coef.q := by rw [hsg.out, <- hL.out]; exact (ofL_app _ _).symm
       clear hB4 hC4 hb5 ho5 hw4 CW
       have gC5 := hC5.lt
       have k0 := hC5.cell 0; have k1 := hC5.cell 1; have k2' := hC5.cell 2; have k3 := hC5.cell 3
       have CT := Hd (termS_any (cofA t p) t.coef.q t.mono names p.aa na p.ac nc 1000 w5 (HC.out w5 (bth hw3 hw5)) (by omega) (HR.out w5 (bth hw3 hw5)).1 (HN.out w5 (bth hw3 hw5)) htn htm2.out.1 htm2.out.2 HNZ.out (HT.out w5 (bth hw3 hw5)))
       replace hL5 := Hd hL5
       go_wp2_with fail
       refine CT.out.mono ?_
       rintro e w6 ⟨rfl, hb6⟩
       have hB6 := hB5.below hb6
       have hw6 := bth hw5 hb6
       obtain ⟨tb, htb⟩ : ∃ x, termB t.coef.q t.mono names = x := ⟨_, rfl⟩
       have hts := HTS.out
       rw [htb] at hts ⊢
       have hps2 : (polyTo l names (k + 1)) = polyTo l names k ++ signP k t.coef.q ++ tb := by rw [<- htb]; exact polyTo_succ ht2.out
       obtain ⟨L5, hL5e⟩ : ∃ x, L ++ (⟨#[32, 43, 32]⟩ : ByteArray).data.toList = x := ⟨_, rfl⟩
       rw [hL5e] at hL5 hB6
       have hlen5 : L5.length <= 1400000004000 := by
        have e2 := congrArg ByteArray.size hL.out
        rw [ofL_size] at e2
        have e1 := congrArg ByteArray.size hL5.out
        rw [ofL_size, ByteArray.size_append] at e1
        have := signP_size k t.coef.q
        omega
       have CW2 := Hd (write_any w3.heap.size L5 tb w6 hB6 (by omega))
       clear k0 k1 k2' k3 CT hb6 hB5 hC5 gC5 hw5 htb hL5e
       replace hps2 := Hd hps2
       go_wp2_with fail
       refine CW2.out.mono ?_
       rintro e w7 ⟨⟨vv2, rfl⟩, hB7, hb7, ho7⟩
       have hw7 := hw6.trans hb7
       have hL7 : ofL (L5 ++ tb.data.toList) = polyTo l names (k + 1) := by rw [hps2.out, <- hL5.out, <- ofL_app]; rfl
       replace hL7 := Hd hL7
       clear CW2 hB6 hb7 ho7 hw6
       go_wp2
       go_roundg (gk - 1)
       case rel => exact ⟨k + 1, _, by have := hk.out; show _ = _; omega, by go_num, hB7, hL7.out, hw7⟩
       case measure => have := hk.out; omega
    ·
     have hkl : k = l.length := by have := hk.out; omega
     have CS := Hd (string_any _ L wr hB)
     have hfin2 : R = (ofL L, 0) := by rw [hfin.out, hL.out, hkl]
     clear hfin hL hkl
     go_wp2_with fail
     refine CS.out.mono ?_
     rintro e w5 ⟨rfl, hb5, _⟩
     have hfin := Hd hfin2
     clear hfin2 CS
     go_wp2
     go_ret2
     exact ⟨by rw [hfin.out]; rfl, bth hw3 (hwr.trans hb5)⟩
  ·
   obtain ⟨v, hv⟩ := get_of_lt (xs := varsI l 64) (k := (varsI l 64).length - 1) (by omega)
   have hv1 : decide (0 < (varsI l 64).length) = true := by rw [decide_eq_true_eq]; omega
   have hbv := hbl.out v hv
   rw [hbg.out] at hbv
   obtain ⟨bv, ov, rfl, hcv, hvw⟩ := hV.2.2 _ v hv
   simp only [Nat.mul_one] at hcv
   have hvi := inInt_of hvw
   have hle : (varsI l 64).length - 1 < (varsI l 64).length := by omega
   have hcl : (((varsI l 64).length : Int) - 1) = (((varsI l 64).length - 1 : Nat) : Int) := by omega
   clear hvw hbn hbl hv hV
   by_cases hbig : (names.length : Int) <= v
   ·
    have hbt : bg = true := by rw [hbv]; exact decide_eq_true hbig
    subst hbt
    rw [if_pos rfl] at hR
    have hfin := Hd hR.symm
    clear hR hbv
    go_wp2
    go_ret2
    exact ⟨by rw [hfin.out]; rfl, hw3⟩
   ·
    have hbt : bg = false := by rw [hbv]; exact decide_eq_false hbig
    subst hbt
    rw [if_neg (by simp)] at hR
    replace hR := Hd hR
    clear hbv
    by_cases hl0 : l.length = 0
    ·
     have hl1 : ((l.length : Int) == 0) = true := by rw [beq_iff_eq]; omega
     have hfin := Hd (show R = (⟨#[48]⟩, 0) by rw [<- hR.out, if_pos hl0])
     clear hR hl0
     go_wp2
     go_ret2
     exact ⟨by rw [hfin.out]; rfl, hw3⟩
    have hl1 : ((l.length : Int) == 0) = false := by rw [beq_eq_false_iff_ne]; omega
    have hfin := Hd (show R = (polyTo l names l.length, 0) by rw [<- hR.out, if_neg hl0])
    clear hR hl0
    go_wp2
    have hB0 := Bld.new w3
    have hb0 : Below w3.heap.size w3 (w3.alloc (.cells #[.pointer none, .slice none 0 0] 88)) := brf.alloc (nlr _) _
    revert hB0 hb0
    generalize w3.alloc (.cells #[.pointer none, .slice none 0 0] 88) = w4
    intro hB0 hb0
    go_loopg [9, 10, 11, 41] l.length (fun g _ _ _ s41 wr => ∃ (k : Nat) (L : List UInt8), Hid (k + g = l.length) /\ s41 = .int .i64 k /\ Bld w3.heap.size L wr /\ Hid (ofL L = polyTo l names k) /\ Below w3.heap.size w3 wr)
    case atStart => exact ⟨0, [], by show _ = _; omega, rfl, hB0, rfl, hb0⟩
    case round =>
     clear hB0 hb0
     obtain ⟨k, L, hk, rfl, hB, hL, hwr⟩ := hrel
     by_cases hlt : k < l.length
     ·
      obtain ⟨t, ht⟩ := get_of_lt hlt
      have htl := List.mem_of_getElem? ht
      have hp0 := HP.out w brf
      obtain ⟨b, o, rfl, p, hC0, hR0⟩ := hp0.2.2 k t ht
      obtain ⟨c0, c1, c2, c3⟩ := hC0
      have hww := bth hw3 hwr
      have d0 := held c0 wr hww; have d1 := held c1 wr hww; have d2 := held c2 wr hww; have d3 := held c3 wr hww
      have hbl : b < wr.heap.size := World.block_lt_of_cell? wr _ d0
      have HR := Hd (fun W (hW : Below w.heap.size w W) => PartsR.ext hR0 (xbw hW))
      have HC := Hd (fun W (hW : Below w.heap.size w W) => cofA_qk (HR.out W hW) (HPB.out t htl).1 (HQ.out t htl).1 (HQ.out t htl).2)
      have htm := monoB_mem (HPB.out t htl).2
      have htn := bigB_le hbg.out htl
      have HTS := Hd (termB_size HNZ.out (fun x hx => (htm.2 x hx).2) (textT_len (HPB.out t htl).1 (HQ.out t htl).1 (HQ.out t htl).2) htm.1)
      have hplen : L.length <= 1000 * (1400000000 + 3) := by
       have e1 := polyTo_size (l := l) (names := names) (M := 1400000000) (fun u hu => termB_size HNZ.out (fun x hx => ((monoB_mem (HPB.out u hu).2).2 x hx).2) (textT_len (HPB.out u hu).1 (HQ.out u hu).1 (HQ.out u hu).2) (monoB_mem (HPB.out u hu).2).1) k
       rw [<- hL.out, ofL_size] at e1
       exact Nat.le_trans e1 (Nat.mul_le_mul_right _ (by omega))
      have ht2 := Hd ht
      have hsl := sgnQ_lt2 t.coef.q
      have htm2 := Hd htm
      clear c0 c1 c2 c3 hp0 hR0 ht htl hww htm
      go_wp2_with fail
      refine calls_gen (fun W => Blk W wr.heap.size 98 #[.bool t.coef.neg, .slice p.na t.coef.num.length p.nc, .slice p.da t.coef.den.length p.dc, .slice p.aa t.mono.length p.ac] /\ Below wr.heap.size wr W) ⟨by ((with_reducible repeat first|assumption|(apply bF;focus omega)|apply bS|(apply bN;focus (simp;done))|apply bA|apply bD);all_goals rfl), by go_grown⟩ ?_
      rintro w4 ⟨hC4, hb4⟩
      have hB4 := hB.below hb4
      have hw4 := bth hwr hb4
      have hgb : wr.heap.size ≠ w3.heap.size := by have := hB.lt; omega
      obtain ⟨gC, hgC⟩ : ∃ q, wr.heap.size = q := ⟨_, rfl⟩
      rw [hgC] at hC4 hgb hbl ⊢
      replace hgC := Hd hgC
      refine (sign_q (cofA t p) t.coef.q 1000 w4 (HC.out w4 (bth hw3 hw4)) (by omega)).mono ?_
      rintro e w5 ⟨rfl, hb5⟩
      replace hB4 := hB4.below hb5; replace hC4 := hC4.below' hb5; replace hw4 := bth hw4 hb5
      obtain ⟨w4, rfl⟩ : ∃ W, W = w5 := ⟨_, rfl⟩
      obtain ⟨sg, hsg2⟩ : ∃ r, sgnQ t.coef.q = r := ⟨_, rfl⟩
      rw [hsg2] at hsl ⊢
      clear d0 d1 d2 d3 hb4 hb5 hB hwr hsg2
      by_cases hq : t.coef.q < 0
      ·
       rw [decide_eq_true hq] at hsl
       have hsi : sg < 0 := of_decide_eq_true hsl
       by_cases h0 : k = 0
       ·
        have hk0 : ((k : Int) == 0) = true := by rw [beq_iff_eq]; omega
        have hk1 : decide (0 < k) = false := by rw [decide_eq_false]; omega
        have hsg := Hd (show signP k t.coef.q = ofL [45] by unfold signP; rw [if_pos h0, if_pos hq]; rfl)
        clear hsl hq h0
        have CW := Hd (write_any w3.heap.size L (⟨#[45]⟩:ByteArray) w4 hB4 (by show L.length + 1 <= _; omega))
        go_wp2_with fail
        refine CW.out.mono ?_
        rintro e w5 ⟨⟨vv, rfl⟩, hB5, hb5, ho5⟩
        have hC5 := ho5.blk hC4 hgb (by decide)
        have hw5 := hw4.trans hb5
        have hL5 : ofL (L ++ (⟨#[45]⟩:ByteArray).data.toList) = polyTo l names k ++ signP k t.coef.q := by rw [hsg.out, <- hL.out]; exact (ofL_app _ _).symm
        clear hB4 hC4 hb5 ho5 hw4 CW
        have gC5 := hC5.lt
        have k0 := hC5.cell 0; have k1 := hC5.cell 1; have k2' := hC5.cell 2; have k3 := hC5.cell 3
        have CT := Hd (termS_any (cofA t p) t.coef.q t.mono names p.aa na p.ac nc 1000 w5 (HC.out w5 (bth hw3 hw5)) (by omega) (HR.out w5 (bth hw3 hw5)).1 (HN.out w5 (bth hw3 hw5)) htn htm2.out.1 htm2.out.2 HNZ.out (HT.out w5 (bth hw3 hw5)))
        replace hL5 := Hd hL5
        go_wp2_with fail
        refine CT.out.mono ?_
        rintro e w6 ⟨rfl, hb6⟩
        have hB6 := hB5.below hb6
        have hw6 := bth hw5 hb6
        obtain ⟨tb, htb⟩ : ∃ x, termB t.coef.q t.mono names = x := ⟨_, rfl⟩
        have hts := HTS.out
        rw [htb] at hts ⊢
        have hps2 : (polyTo l names (k + 1)) = polyTo l names k ++ signP k t.coef.q ++ tb := by rw [<- htb]; exact polyTo_succ ht2.out
        obtain ⟨L5, hL5e⟩ : ∃ x, L ++ (⟨#[45]⟩ : ByteArray).data.toList = x := ⟨_, rfl⟩
        rw [hL5e] at hL5 hB6
        have hlen5 : L5.length <= 1400000004000 := by
         have e2 := congrArg ByteArray.size hL.out
         rw [ofL_size] at e2
         have e1 := congrArg ByteArray.size hL5.out
         rw [ofL_size, ByteArray.size_append] at e1
         have := signP_size k t.coef.q
         omega
        have CW2 := Hd (write_any w3.heap.size L5 tb w6 hB6 (by omega))
        clear k0 k1 k2' k3 CT hb6 hB5 hC5 gC5 hw5 htb hL5e
        replace hps2 := Hd hps2
        go_wp2_with fail
        refine CW2.out.mono ?_
        rintro e w7 ⟨⟨vv2, rfl⟩, hB7, hb7, ho7⟩
        have hw7 := hw6.trans hb7
        have hL7 : ofL (L5 ++ tb.data.toList) = polyTo l names (k + 1) := by rw [hps2.out, <- hL5.out, <- ofL_app]; rfl
        replace hL7 := Hd hL7
        clear CW2 hB6 hb7 ho7 hw6
        go_wp2
        go_roundg (gk - 1)
        case rel => exact ⟨k + 1, _, by have := hk.out; show _ = _; omega, by go_num, hB7, hL7.out, hw7⟩
        case measure => have := hk.out; omega
       ·
        have hk0 : ((k : Int) == 0) = false := by rw [beq_eq_false_iff_ne]; omega
        have hk1 : decide (0 < k) = true := by rw [decide_eq_true_eq]; omega
        have hsg := Hd (show signP k t.coef.q = ofL [32, 45, 32] by unfold signP; rw [if_neg h0, if_pos hq]; rfl)
        clear hsl hq h0
        have CW := Hd (write_any w3.heap.size L (⟨#[32, 45, 32]⟩:ByteArray) w4 hB4 (by show L.length + 3 <= _; omega))
        go_wp2_with fail
        refine CW.out.mono ?_
        rintro e w5 ⟨⟨vv, rfl⟩, hB5, hb5, ho5⟩
        have hC5 := ho5.blk hC4 hgb (by decide)
        have hw5 := hw4.trans hb5
        have hL5 : ofL (L ++ (⟨#[32, 45, 32]⟩:ByteArray).data.toList) = polyTo l names k ++ signP k t.coef.q := by rw [hsg.out, <- hL.out]; exact (ofL_app _ _).symm
        clear hB4 hC4 hb5 ho5 hw4 CW
        have gC5 := hC5.lt
        have k0 := hC5.cell 0; have k1 := hC5.cell 1; have k2' := hC5.cell 2; have k3 := hC5.cell 3
        have CT := Hd (termS_any (cofA t p) t.coef.q t.mono names p.aa na p.ac nc 1000 w5 (HC.out w5 (bth hw3 hw5)) (by omega) (HR.out w5 (bth hw3 hw5)).1 (HN.out w5 (bth hw3 hw5)) htn htm2.out.1 htm2.out.2 HNZ.out (HT.out w5 (bth hw3 hw5)))
        replace hL5 := Hd hL5
        go_wp2_with fail
        refine CT.out.mono ?_
        rintro e w6 ⟨rfl, hb6⟩
        have hB6 := hB5.below hb6
        have hw6 := bth hw5 hb6
        obtain ⟨tb, htb⟩ : ∃ x, termB t.coef.q t.mono names = x := ⟨_, rfl⟩
        have hts := HTS.out
        rw [htb] at hts ⊢
        have hps2 : (polyTo l names (k + 1)) = polyTo l names k ++ signP k t.coef.q ++ tb := by rw [<- htb]; exact polyTo_succ ht2.out
        obtain ⟨L5, hL5e⟩ : ∃ x, L ++ (⟨#[32, 45, 32]⟩ : ByteArray).data.toList = x := ⟨_, rfl⟩
        rw [hL5e] at hL5 hB6
        have hlen5 : L5.length <= 1400000004000 := by
         have e2 := congrArg ByteArray.size hL.out
         rw [ofL_size] at e2
         have e1 := congrArg ByteArray.size hL5.out
         rw [ofL_size, ByteArray.size_append] at e1
         have := signP_size k t.coef.q
         omega
        have CW2 := Hd (write_any w3.heap.size L5 tb w6 hB6 (by omega))
        clear k0 k1 k2' k3 CT hb6 hB5 hC5 gC5 hw5 htb hL5e
        replace hps2 := Hd hps2
        go_wp2_with fail
        refine CW2.out.mono ?_
        rintro e w7 ⟨⟨vv2, rfl⟩, hB7, hb7, ho7⟩
        have hw7 := hw6.trans hb7
        have hL7 : ofL (L5 ++ tb.data.toList) = polyTo l names (k + 1) := by rw [hps2.out, <- hL5.out, <- ofL_app]; rfl
        replace hL7 := Hd hL7
        clear CW2 hB6 hb7 ho7 hw6
        go_wp2
        go_roundg (gk - 1)
        case rel => exact ⟨k + 1, _, by have := hk.out; show _ = _; omega, by go_num, hB7, hL7.out, hw7⟩
        case measure => have := hk.out; omega
      ·
       rw [decide_eq_false hq] at hsl
       have hsi : ¬ sg < 0 := of_decide_eq_false hsl
       by_cases h0 : k = 0
       ·
        have hk0 : ((k : Int) == 0) = true := by rw [beq_iff_eq]; omega
        have hk1 : decide (0 < k) = false := by rw [decide_eq_false]; omega
        have hsg := Hd (show signP k t.coef.q = ⟨#[]⟩ by unfold signP; rw [if_pos h0, if_neg hq])
        have hL5 : ofL L = polyTo l names k ++ signP k t.coef.q := by rw [hsg.out, <- hL.out]; apply ba_ext; simp [ByteArray.data_append]
        clear hsl hq h0
        obtain ⟨w5, rfl⟩ : ∃ W, W = w4 := ⟨_, rfl⟩
        have hC5 := hC4; have hB5 := hB4; have hw5 := hw4
        clear hC4 hB4 hw4
        have gC5 := hC5.lt
        have k0 := hC5.cell 0; have k1 := hC5.cell 1; have k2' := hC5.cell 2; have k3 := hC5.cell 3
        have CT := Hd (termS_any (cofA t p) t.coef.q t.mono names p.aa na p.ac nc 1000 w5 (HC.out w5 (bth hw3 hw5)) (by omega) (HR.out w5 (bth hw3 hw5)).1 (HN.out w5 (bth hw3 hw5)) htn htm2.out.1 htm2.out.2 HNZ.out (HT.out w5 (bth hw3 hw5)))
        replace hL5 := Hd hL5
        go_wp2_with fail
        refine CT.out.mono ?_
        rintro e w6 ⟨rfl, hb6⟩
        have hB6 := hB5.below hb6
        have hw6 := bth hw5 hb6
        obtain ⟨tb, htb⟩ : ∃ x, termB t.coef.q t.mono names = x := ⟨_, rfl⟩
        have hts := HTS.out
        rw [htb] at hts ⊢
        have hps2 : (polyTo l names (k + 1)) = polyTo l names k ++ signP k t.coef.q ++ tb := by rw [<- htb]; exact polyTo_succ ht2.out
        obtain ⟨L5, hL5e⟩ : ∃ x, L = x := ⟨_, rfl⟩
        rw [hL5e] at hL5 hB6
        have hlen5 : L5.length <= 1400000004000 := by
         have e2 := congrArg ByteArray.size hL.out
         rw [ofL_size] at e2
         have e1 := congrArg ByteArray.size hL5.out
         rw [ofL_size, ByteArray.size_append] at e1
         have := signP_size k t.coef.q
         omega
        have CW2 := Hd (write_any w3.heap.size L5 tb w6 hB6 (by omega))
        clear k0 k1 k2' k3 CT hb6 hB5 hC5 gC5 hw5 htb hL5e
        replace hps2 := Hd hps2
        go_wp2_with fail
        refine CW2.out.mono ?_
        rintro e w7 ⟨⟨vv2, rfl⟩, hB7, hb7, ho7⟩
        have hw7 := hw6.trans hb7
        have hL7 : ofL (L5 ++ tb.data.toList) = polyTo l names (k + 1) := by rw [hps2.out, <- hL5.out, <- ofL_app]; rfl
        replace hL7 := Hd hL7
        clear CW2 hB6 hb7 ho7 hw6
        go_wp2
        go_roundg (gk - 1)
        case rel => exact ⟨k + 1, _, by have := hk.out; show _ = _; omega, by go_num, hB7, hL7.out, hw7⟩
        case measure => have := hk.out; omega
       ·
        have hk0 : ((k : Int) == 0) = false := by rw [beq_eq_false_iff_ne]; omega
        have hk1 : decide (0 < k) = true := by rw [decide_eq_true_eq]; omega
        have hsg := Hd (show signP k t.coef.q = ofL [32, 43, 32] by unfold signP; rw [if_neg h0, if_neg hq]; rfl)
        clear hsl hq h0
        have CW := Hd (write_any w3.heap.size L (⟨#[32, 43, 32]⟩:ByteArray) w4 hB4 (by show L.length + 3 <= _; omega))
        go_wp2_with fail
        refine CW.out.mono ?_
        rintro e w5 ⟨⟨vv, rfl⟩, hB5, hb5, ho5⟩
        have hC5 := ho5.blk hC4 hgb (by decide)
        have hw5 := hw4.trans hb5
        have hL5 : ofL (L ++ (⟨#[32, 43, 32]⟩:ByteArray).data.toList) = polyTo l names k ++ signP k t.coef.q := by rw [hsg.out, <- hL.out]; exact (ofL_app _ _).symm
        clear hB4 hC4 hb5 ho5 hw4 CW
        have gC5 := hC5.lt
        have k0 := hC5.cell 0; have k1 := hC5.cell 1; have k2' := hC5.cell 2; have k3 := hC5.cell 3
        have CT := Hd (termS_any (cofA t p) t.coef.q t.mono names p.aa na p.ac nc 1000 w5 (HC.out w5 (bth hw3 hw5)) (by omega) (HR.out w5 (bth hw3 hw5)).1 (HN.out w5 (bth hw3 hw5)) htn htm2.out.1 htm2.out.2 HNZ.out (HT.out w5 (bth hw3 hw5)))
        replace hL5 := Hd hL5
        go_wp2_with fail
        refine CT.out.mono ?_
        rintro e w6 ⟨rfl, hb6⟩
        have hB6 := hB5.below hb6
        have hw6 := bth hw5 hb6
        obtain ⟨tb, htb⟩ : ∃ x, termB t.coef.q t.mono names = x := ⟨_, rfl⟩
        have hts := HTS.out
        rw [htb] at hts ⊢
        have hps2 : (polyTo l names (k + 1)) = polyTo l names k ++ signP k t.coef.q ++ tb := by rw [<- htb]; exact polyTo_succ ht2.out
        obtain ⟨L5, hL5e⟩ : ∃ x, L ++ (⟨#[32, 43, 32]⟩ : ByteArray).data.toList = x := ⟨_, rfl⟩
        rw [hL5e] at hL5 hB6
        have hlen5 : L5.length <= 1400000004000 := by
         have e2 := congrArg ByteArray.size hL.out
         rw [ofL_size] at e2
         have e1 := congrArg ByteArray.size hL5.out
         rw [ofL_size, ByteArray.size_append] at e1
         have := signP_size k t.coef.q
         omega
        have CW2 := Hd (write_any w3.heap.size L5 tb w6 hB6 (by omega))
        clear k0 k1 k2' k3 CT hb6 hB5 hC5 gC5 hw5 htb hL5e
        replace hps2 := Hd hps2
        go_wp2_with fail
        refine CW2.out.mono ?_
        rintro e w7 ⟨⟨vv2, rfl⟩, hB7, hb7, ho7⟩
        have hw7 := hw6.trans hb7
        have hL7 : ofL (L5 ++ tb.data.toList) = polyTo l names (k + 1) := by rw [hps2.out, <- hL5.out, <- ofL_app]; rfl
        replace hL7 := Hd hL7
        clear CW2 hB6 hb7 ho7 hw6
        go_wp2
        go_roundg (gk - 1)
        case rel => exact ⟨k + 1, _, by have := hk.out; show _ = _; omega, by go_num, hB7, hL7.out, hw7⟩
        case measure => have := hk.out; omega
     ·
      have hkl : k = l.length := by have := hk.out; omega
      have CS := Hd (string_any _ L wr hB)
      have hfin2 : R = (ofL L, 0) := by rw [hfin.out, hL.out, hkl]
      clear hfin hL hkl
      go_wp2_with fail
      refine CS.out.mono ?_
      rintro e w5 ⟨rfl, hb5, _⟩
      have hfin := Hd hfin2
      clear hfin2 CS
      go_wp2
      go_ret2
      exact ⟨by rw [hfin.out]; rfl, bth hw3 (hwr.trans hb5)⟩
 ·
  rw [if_neg he] at hR
  have hfin := Hd hR.symm
  have hne : (er != 0) = true := by simpa using he
  clear hR he her
  go_enter Tryz.func24, Tryz.ntmps24
  go_wp2_with fail
  refine CR.out.mono ?_
  rintro e w1 ⟨rfl, hb1⟩
  go_wp2_with fail
  refine (CK.out w1 hb1).mono ?_
  rintro e w2 ⟨rfl, hb2⟩
  go_wp2
  go_ret2
  exact ⟨by rw [hfin.out]; rfl, bth hb1 hb2⟩
theorem polyR_any (l : List Trm) (a : Option Addr) (c : Nat) (w : World) (h : PolyR w a c l) (hq : ∀ t ∈ l, t.coef.num.length <= 2000000 /\ t.coef.den.length <= 2000000) :
  Calls Tryz.prog 55 #[.slice a l.length c] w fun e w' => e = .returned (.bool (polyB l)) /\ Below w.heap.size w w' := by
 have hlen := h.len
 obtain ⟨res, hres⟩ : ∃ x, polyB l = x := ⟨_, rfl⟩
 rw [hres]
 have HRES := Hd hres
 have HP := Hd h
 have HQ := Hd hq
 clear hres h hq
 go_enter Tryz.func55, Tryz.ntmps55
 go_wp2
 go_loopg [3] l.length (fun g q wr => ∃ k : Nat, k + g = l.length /\ q = .int .i64 k /\ Below w.heap.size w wr /\ ∀ j, j < k -> badAt l j = false)
 case atStart => exact ⟨0, by omega, rfl, Below.refl _ _, fun j hj => by omega⟩
 case round =>
  obtain ⟨k, hkg, rfl, hwr, hall⟩ := hrel
  have HKG := Hd hkg
  have HA := Hd hall
  clear hkg hall
  by_cases hlt : k < l.length
  ·
   obtain ⟨t, ht⟩ := get_of_lt hlt
   have hPr := HP.out.ext (xbw hwr)
   have htq := HQ.out t (List.mem_of_getElem? ht)
   obtain ⟨b, off, hao, p, hC, hP⟩ := hPr.2.2 k t ht
   subst hao
   obtain ⟨c0, c1, c2, c3⟩ := hC
   obtain ⟨hP1, hP2, hP3⟩ := hP
   have HT := Hd ht
   have HPR := Hd hPr
   obtain ⟨⟨neg, num, den⟩, mono⟩ := t
   dsimp only at c0 c1 c2 c3 hP1 hP2 hP3 htq
   have CR := fun W (hW : Below wr.heap.size wr W) => right03_any ⟨neg, num, den⟩ p.na p.nc p.da p.dc W (hP2.ext (xbw hW)) (hP3.ext (xbw hW)) htq.1 htq.2
   unfold Rt.val at CR
   dsimp only at CR
   replace CR := Hd CR
   have HP1 := Hd hP1; have HP2 := Hd hP2; have HP3 := Hd hP3; have HTQ := Hd htq
   have hbl : b < wr.heap.size := World.block_lt_of_cell? wr _ c0
   clear ht hPr hP1 hP2 hP3 htq
   have d0 := held c0; have d1 := held c1; have d2 := held c2; have d3 := held c3
   have hw0 := Below.refl wr.heap.size wr
   cases hr : Rt.right ⟨neg, num, den⟩ with
   | false =>
    rw [hr] at CR
    obtain rfl : res = false := by rw [<- HRES.out]; exact polyB_bad hlt (badAt_term HT.out (okT_coef hr))
    clear hr
    go_wp2_with fail
    refine (CR.out _ hw0).mono ?_
    rintro e w3 ⟨rfl, hb3⟩
    have hw3 := bth hw0 hb3
    go_wp2
    go_ret
    exact ⟨rfl, bth hwr hb3⟩
   | true =>
    rw [hr] at CR
    have h0 : val den ≠ 0 := right_pos hr
    have CS := fun W (hW : Below wr.heap.size wr W) => qsignR_any neg num den (val num) p.na p.da p.nc p.dc W (HP2.out.ext (xbw hW)) (HP3.out.ext (xbw hW)) rfl h0 HTQ.out.1 HTQ.out.2
    have CM := fun W (hW : Below wr.heap.size wr W) => monoR_any mono p.aa p.ac W (HP1.out.ext (xbw hW))
    have hsg := sgnZ_eq neg (val num)
    have HR := Hd hr
    clear h0 hr
    by_cases hn0 : val num = 0
    ·
     rw [decide_eq_true hn0] at hsg
     obtain rfl : res = false := by rw [<- HRES.out]; exact polyB_bad hlt (badAt_term HT.out (okT_zero hn0))
     revert CS hsg
     generalize sgnZ neg (val num) = sg
     intro CS hsg
     replace CS := Hd CS; replace CM := Hd CM
     clear hn0
     go_wp2_with fail
     refine (CR.out _ hw0).mono ?_
     rintro e w3 ⟨rfl, hb3⟩
     have hw3 := bth hw0 hb3
     go_wp2_with fail
     refine (CS.out _ hw3).mono ?_
     rintro e w4 ⟨rfl, hb4⟩
     have hw4 := bth hw3 hb4
     go_wp2
     go_ret
     exact ⟨rfl, bth hwr hw4⟩
    ·
     rw [decide_eq_false hn0] at hsg
     have HN0 := Hd hn0
     revert CS hsg
     generalize sgnZ neg (val num) = sg
     intro CS hsg
     replace CS := Hd CS
     clear hn0
     cases hm : monoB mono with
     | false =>
      rw [hm] at CM
      replace CM := Hd CM
      obtain rfl : res = false := by rw [<- HRES.out]; exact polyB_bad hlt (badAt_term HT.out (okT_mono hm))
      clear hm
      go_wp2_with fail
      refine (CR.out _ hw0).mono ?_
      rintro e w3 ⟨rfl, hb3⟩
      have hw3 := bth hw0 hb3
      go_wp2_with fail
      refine (CS.out _ hw3).mono ?_
      rintro e w4 ⟨rfl, hb4⟩
      have hw4 := bth hw3 hb4
      go_wp2_with fail
      refine (CM.out _ hw4).mono ?_
      rintro e w5 ⟨rfl, rfl⟩
      go_wp2
      go_ret
      exact ⟨rfl, bth hwr hw4⟩
     | true =>
      rw [hm] at CM
      replace CM := Hd CM
      have hok : okT ⟨⟨neg, num, den⟩, mono⟩ = true := okT_all HR.out HN0.out hm
      have HOK := Hd hok
      clear hm hok
      go_wp2_with fail
      refine (CR.out _ hw0).mono ?_
      rintro e w3 ⟨rfl, hb3⟩
      have hw3 := bth hw0 hb3
      go_wp2_with fail
      refine (CS.out _ hw3).mono ?_
      rintro e w4 ⟨rfl, hb4⟩
      have hw4 := bth hw3 hb4
      go_wp2_with fail
      refine (CM.out _ hw4).mono ?_
      rintro e w5 ⟨rfl, rfl⟩
      go_wp2
      have s0 : Below wr.heap.size wr w4.drew := hw4.drew
      cases k with
      | zero =>
       have hbad := badAt_zero HT.out HOK.out
       have HB := Hd hbad
       clear hbad
       refine wp_region_mixM (S := Below wr.heap.size wr) [(0, .q), (1, .q), (2, .q), (3, .q), (4, .q), (5, .q), (6, .q), (7, .q), (8, .q), (9, .q), (10, .q), (11, .q), (12, .q), (13, .q), (14, .t), (15, .p), (16, .p)] (by kernel_rfl) (by kernel_rfl) (by kernel_rfl) (fun d _ _ _ _ h => by cases d <;> exact h) (s0) ?_
       iterate 3 (refine wpMix_q rfl rfl (fun K hK => ?_); apply Exists.intro; refine ⟨fun w' hw' => ?_, ?_⟩; (focus (go_simp; try rfl)); go_simp; refine hK _ _ ?_; clear hK K)
       iterate 13 (refine wpMix_skip rfl rfl (fun K hK => ?_); go_simp; refine hK _ _ ?_; clear hK K)
       iterate 1 (refine wpMix_p rfl rfl (fun K hK => ?_); apply Exists.intro; refine ⟨fun w' => ?_, ?_⟩; (focus (go_simp; try rfl)); go_simp; refine hK _ _ ?_; clear hK K)
       refine wpMix_nil ?_
       go_wp2
       go_roundg (gk - 1)
       case rel => exact ⟨1, by have := HKG.out; omega, by go_num, bth hwr s0, all_succ HA.out HB.out⟩
       case measure => have := HKG.out; omega
      | succ j =>
       obtain ⟨s, hs⟩ := get_of_lt (xs := l) (k := j) (by omega)
       obtain ⟨b', off', hao, p', hC', hP'⟩ := HPR.out.2.2 j s hs
       injection hao with hao
       injection hao with hao1 hao2
       subst hao1 hao2
       obtain ⟨y0, y1, y2, y3⟩ := hC'
       have hbad := badAt_succ HT.out hs HOK.out
       have e3 := held y3
       have hpv : okT s = true := badAt_ok hs (HA.out j (by omega))
       have CL := fun W (hW : Below wr.heap.size wr W) => cmpR5_any s.mono mono p'.aa p.aa p'.ac p.ac W (hP'.1.ext (xbw hW)) (HP1.out.ext (xbw hW)) (okT_range hpv) (okT_range HOK.out)
       dsimp only at hbad
       revert CL hbad
       generalize lexI s.mono mono = lx
       intro hbad CL
       have hwk : IntKind.i64.wrap (j : Int) = (j : Int) := by rw [IntKind.wrap_i64]; omega
       replace CL := Hd CL
       have HBD := Hd hbad
       have hjl : j < l.length := by omega
       have hj0 : (0 : Int) <= (j : Int) + 1 := by omega
       have hj1 : (j : Int) + 1 < (l.length : Int) := by omega
       clear hbad hP' hs y0 y1 y2 y3 hpv
       by_cases hlx : lx <= 0
       ·
        have hle : decide (lx <= 0) = true := by simpa using hlx
        obtain rfl : res = false := by rw [<- HRES.out]; exact polyB_bad hlt (HBD.out.trans hle)
        clear hlx HBD
        refine wp_region_mixM (S := Below wr.heap.size wr) [(0, .q), (1, .q), (2, .q), (3, .q), (4, .q), (5, .q), (6, .q), (7, .q), (8, .q), (9, .q), (10, .q), (11, .q), (12, .q), (13, .q), (14, .t), (15, .p), (16, .p)] (by kernel_rfl) (by kernel_rfl) (by kernel_rfl) (fun d _ _ _ _ h => by cases d <;> exact h) (s0) ?_
        iterate 14 (refine wpMix_q rfl rfl (fun K hK => ?_); apply Exists.intro; refine ⟨fun w' hw' => ?_, ?_⟩; (focus (go_simp; try rfl)); go_simp; refine hK _ _ ?_; clear hK K)
        refine wpMix_t rfl rfl (fun K hK => ?_)
        go_simp
        refine (CL.out _ s0).mono ?_
        rintro r w6 ⟨rfl, rfl⟩
        dsimp only
        refine hK.out _ _ ?_
        clear hK K
        iterate 2 (refine wpMix_p rfl rfl (fun K hK => ?_); apply Exists.intro; refine ⟨fun w' => ?_, ?_⟩; (focus (go_simp; try rfl)); go_simp; refine hK _ _ ?_; clear hK K)
        refine wpMix_nil ?_
        go_wp2
        go_ret
        exact ⟨rfl, bth hwr s0⟩
       ·
        have hle : decide (lx <= 0) = false := by simpa using hlx
        have HB := Hd (HBD.out.trans hle)
        clear hlx HBD
        refine wp_region_mixM (S := Below wr.heap.size wr) [(0, .q), (1, .q), (2, .q), (3, .q), (4, .q), (5, .q), (6, .q), (7, .q), (8, .q), (9, .q), (10, .q), (11, .q), (12, .q), (13, .q), (14, .t), (15, .p), (16, .p)] (by kernel_rfl) (by kernel_rfl) (by kernel_rfl) (fun d _ _ _ _ h => by cases d <;> exact h) (s0) ?_
        iterate 14 (refine wpMix_q rfl rfl (fun K hK => ?_); apply Exists.intro; refine ⟨fun w' hw' => ?_, ?_⟩; (focus (go_simp; try rfl)); go_simp; refine hK _ _ ?_; clear hK K)
        refine wpMix_t rfl rfl (fun K hK => ?_)
        go_simp
        refine (CL.out _ s0).mono ?_
        rintro r w6 ⟨rfl, rfl⟩
        dsimp only
        refine hK.out _ _ ?_
        clear hK K
        iterate 2 (refine wpMix_p rfl rfl (fun K hK => ?_); apply Exists.intro; refine ⟨fun w' => ?_, ?_⟩; (focus (go_simp; try rfl)); go_simp; refine hK _ _ ?_; clear hK K)
        refine wpMix_nil ?_
        go_wp2
        go_roundg (gk - 1)
        case rel => exact ⟨j + 1 + 1, by have := HKG.out; omega, by go_num, bth hwr s0, all_succ HA.out HB.out⟩
        case measure => have := HKG.out; omega
  ·
   obtain rfl : res = true := by rw [<- HRES.out]; exact polyB_good fun i hi => HA.out i (by omega)
   go_wp2
   go_ret
   exact ⟨rfl, hwr⟩
end Go.Proofs.YtdnblkklgdnapaaGreatDoor
