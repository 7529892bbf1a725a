/- Walk: a line of a certificate (the program). -/
import Derived.Test.YtkjnkpkagcboeaaGreatDoorCa13
import Derived.Test.YtkjnkpkagcboeaaGreatDoorCa8
import Derived.Test.YtkjnkpkagcboeaaGreatDoorCa7
import Derived.Test.YtkjnkpkagcboeaaGreatDoorCa6
import Derived.Test.YtkjnkpkagcboeaaGreatDoorCa2
import Derived.Test.YtkjnkpkagcboeaaGreatDoorCa9
import Derived.Test.YtkjnkpkagcboeaaGreatDoorCa10
import Derived.Test.YtkjnkpkagcboeaaGreatDoorCa1
import Derived.Test.YtkjnkpkagcboeaaGreatDoorRows
import Derived.Test.YtkjnkpkagcboeaaGreatDoorCa12
set_option linter.all false
set_option maxRecDepth 100000
set_option maxHeartbeats 4000000
namespace Go.Proofs.YtkjnkpkagcboeaaGreatDoor
open Go.RowKit
def cofA (t:Trm) (p:RA):QA:=⟨t.coef.neg,t.coef.num.length,p.na,p.nc,t.coef.den.length,p.da,p.dc⟩
theorem cofA_qk {w:World} {t:Trm} {p:RA} (h:PartsR w p t.mono t.coef) (hr:t.coef.right = true) (h1:t.coef.num.length <= 1000) (h2:t.coef.den.length <= 1000):QK 1000 w (cofA t p) t.coef.q:=by
 obtain ⟨a,b⟩:=RtZ.qac (w:=w) (r:=t.coef) (z:=cofA t p) ⟨rfl,rfl,rfl,h.2.1,h.2.2⟩ hr;exact ⟨a,by omega⟩
theorem termB_size {q:Rat} {m:List Int} {names:List ByteArray} (hn:∀ s ∈ names,s.size <= 1048576) (hm:∀ x ∈ m,x <= 1048576) (ht:(textQ (absQ q)).length <= 20000002) (hml:m.length <= 64):(termB q m names).size <= 1400000000:=by
 have hsh:=joinB_size (partsT_short (q:=q) (m:=m) (names:=names) (N:=1048576) (T:=20000002) hn hm ht m.length);have hpl:=partsT_len q m names m.length;exact Nat.le_trans hsh (Nat.le_trans (Nat.mul_le_mul_right _ (show _ <= 65 by omega)) (by omega))
theorem absQ_sz (q:Rat):qsz (absQ q) = qsz q:=by unfold absQ; split; exact qsz_neg q; rfl
theorem textT_len {t:Trm} (hr:t.coef.right = true) (h1:t.coef.num.length <= 1000) (h2:t.coef.den.length <= 1000):(textQ (absQ t.coef.q)).length <= 20000002:=by
 obtain ⟨e1,e2,e3⟩:=right_trip hr;refine textQ_len (k:=1000) _ ?_ (by omega);rw [absQ_sz];unfold qsz;rw [e2,e3]
 omega
theorem sgnQ_lt2 (q:Rat):decide (sgnQ q < 0) = decide (q < 0):=by
 unfold sgnQ;by_cases h:q = 0
 · subst h; rw [if_pos rfl]; rfl
 ·
  rw [if_neg h];by_cases h2:q < 0
  · rw [if_pos h2]; simp [h2]
  · rw [if_neg h2]; simp [h2]
theorem bigB_le {l:List Trm} {n:Nat} {t:Trm} (h:bigB l n = false) (ht:t ∈ l):t.mono.length <= n:=by
 apply Nat.le_of_not_lt;intro hc;have:bigB l n = true:=by unfold bigB; rw [List.any_eq_true]; exact ⟨t,ht,by simpa using hc⟩
 rw [h] at this; cases this
theorem printS_any (l:List Trm) (names:List ByteArray) (a na:Option Addr) (c nc:Nat) (w:World) (h:PolyR w a c l) (hq:∀ t ∈ l,t.coef.num.length <= 1000 /\ t.coef.den.length <= 1000) (hl:l.length <= 1000)
  (hn:StrsR w na nc names) (hnl:names.length <= 1000) (hnz:∀ s ∈ names,s.size <= 1048576) (ht:TabW w) :
  Calls Tryz.prog 13 #[.slice a l.length c,.slice na names.length nc] w fun e w'=>e = .returned (.tuple #[.string (printP l names).1,.int .i64 (printP l names).2]) /\ Below w.heap.size w w':=by
 have CR:=polyP_any l a c w h (fun t ht=>by have:=hq t ht; omega);have CK:=fun W (hW:Below w.heap.size w W)=>checkS_any names na nc W (hn.ext (xbw hW)) hnz (by omega)
 have CV:=fun W (hW:Below w.heap.size w W) hm=>vars_any l a c W (h.ext (xbw hW)) (by omega) hm
 have HP:=Hd (fun W (hW:Below w.heap.size w W)=>h.ext (xbw hW));have HN:=Hd (fun W (hW:Below w.heap.size w W)=>hn.ext (xbw hW));have HT:=Hd (fun W (hW:Below w.heap.size w W)=>ht.below hW);have HQ:=Hd hq; have HNZ:=Hd hnz;obtain ⟨R,hR⟩:∃ r,printP l names = r:=⟨_,rfl⟩
 rw [hR];unfold printP at hR;clear h hq hn hnz ht;replace CV:=Hd CV
 cases hpb:polyB l
 ·
  rw [hpb] at CR hR;have hfin:=Hd (show R = (⟨#[]⟩,1) from hR.symm);replace CR:=Hd CR;clear hpb hR CK;go_enter Tryz.func13,Tryz.ntmps13;go_wp2_with fail;refine CR.out.mono ?_;rintro e w1 ⟨rfl,hb1⟩;go_wp2;go_ret2;exact ⟨by rw [hfin.out]; rfl,hb1⟩
 rw [hpb] at CR hR;have HPB:=Hd (polyB_terms hpb);rw [if_pos rfl] at hR;replace CR:=Hd CR;clear hpb;obtain ⟨er,her⟩:∃ e,errNm names = e:=⟨_,rfl⟩
 simp only [her] at CK hR;replace CK:=Hd CK;by_cases he:er = 0
 ·
  subst he;rw [if_pos rfl] at hR;have hm64:∀ t ∈ l,t.mono.length <= 64:=fun t ht=>(monoB_mem (HPB.out t ht).2).1
  have hbl:=fun v h=>bigB_last (l:=l) (n:=names.length) (v:=v) (fun t ht=>(HPB.out t ht).2) h
  have hbn:=fun h=>bigB_none (l:=l) (n:=names.length) (fun t ht=>(HPB.out t ht).2) h
  have CV2:=fun W hW=>CV.out W hW hm64
  replace CV2:=Hd CV2; replace hbl:=Hd hbl; replace hbn:=Hd hbn; replace hm64:=Hd hm64; replace her:=Hd her;clear CV;obtain ⟨bg,hbg⟩:∃ b,bigB l names.length = b:=⟨_,rfl⟩
  rw [hbg] at hR;replace hbg:=Hd hbg;go_enter Tryz.func13,Tryz.ntmps13;go_wp2_with fail;refine CR.out.mono ?_;rintro e w1 ⟨rfl,hb1⟩;go_wp2_with fail;refine (CK.out w1 hb1).mono ?_;rintro e w2 ⟨rfl,hb2⟩;have hw2:=bth hb1 hb2;go_wp2_with fail;refine (CV2.out w2 hw2).mono ?_;rintro e w3 ⟨av,cv,rfl,hV,hb3⟩;have hw3:=bth hw2 hb3;have hvl:=varsI_len l 64;clear CR CK CV2 hb1 hb2 hb3 hw2;by_cases hv0:(varsI l 64).length = 0
  ·
   have hbf:bg = false:=by rw [<- hbg.out]; exact hbn.out hv0
   subst hbf;rw [if_neg (by simp)] at hR;have hv1:decide (0 < (varsI l 64).length) = false:=by rw [decide_eq_false]; omega
   replace hR:=Hd hR;clear hbn hbl hV hv0;by_cases hl0:l.length = 0
   ·
    have hl1:((l.length:Int) == 0) = true:=by rw [beq_iff_eq]; omega
    have hfin:=Hd (show R = (⟨#[48]⟩,0) by rw [<- hR.out,if_pos hl0]);clear hR hl0;go_wp2;go_ret2;exact ⟨by rw [hfin.out]; rfl,hw3⟩
   have hl1:((l.length:Int) == 0) = false:=by rw [beq_eq_false_iff_ne]; omega
   have hfin:=Hd (show R = (polyTo l names l.length,0) by rw [<- hR.out,if_neg hl0]);clear hR hl0;go_wp2;have hB0:=Bld.new w3;have hb0:Below w3.heap.size w3 (w3.alloc (.cells #[.pointer none,.slice none 0 0] 62)):=brf.alloc (nlr _) _;revert hB0 hb0;generalize w3.alloc (.cells #[.pointer none,.slice none 0 0] 62) = w4;intro hB0 hb0
   go_loopg [9,10,11,41] l.length (fun g _ _ _ s41 wr=>∃ (k:Nat) (L:List UInt8),Hid (k + g = l.length) /\ s41 = .int .i64 k /\ Bld w3.heap.size L wr /\ Hid (ofL L = polyTo l names k) /\ Below w3.heap.size w3 wr)
   case atStart=>exact ⟨0,[],by show _ = _; omega,rfl,hB0,rfl,hb0⟩
   case round =>
    clear hB0 hb0;obtain ⟨k,L,hk,rfl,hB,hL,hwr⟩:=hrel;by_cases hlt:k < l.length
    ·
     obtain ⟨t,ht⟩:=get_of_lt hlt;have htl:=List.mem_of_getElem? ht;have hp0:=HP.out w brf;obtain ⟨b,o,rfl,p,hC0,hR0⟩:=hp0.2.2 k t ht;obtain ⟨c0,c1,c2,c3⟩:=hC0;have hww:=bth hw3 hwr;have d0:=held c0 wr hww; have d1:=held c1 wr hww; have d2:=held c2 wr hww; have d3:=held c3 wr hww;have hbl:b < wr.heap.size:=World.block_lt_of_cell? wr _ d0;have HR:=Hd (fun W (hW:Below w.heap.size w W)=>PartsR.ext hR0 (xbw hW));have HC:=Hd (fun W (hW:Below w.heap.size w W)=>cofA_qk (HR.out W hW) (HPB.out t htl).1 (HQ.out t htl).1 (HQ.out t htl).2);have htm:=monoB_mem (HPB.out t htl).2;have htn:=bigB_le hbg.out htl;have HTS:=Hd (termB_size HNZ.out (fun x hx=>(htm.2 x hx).2) (textT_len (HPB.out t htl).1 (HQ.out t htl).1 (HQ.out t htl).2) htm.1);have hplen:L.length <= 1000 * (1400000000 + 3):=by
      have e1:=polyTo_size (l:=l) (names:=names) (M:=1400000000) (fun u hu=>termB_size HNZ.out (fun x hx=>((monoB_mem (HPB.out u hu).2).2 x hx).2) (textT_len (HPB.out u hu).1 (HQ.out u hu).1 (HQ.out u hu).2) (monoB_mem (HPB.out u hu).2).1) k;rw [<- hL.out,ofL_size] at e1;exact Nat.le_trans e1 (Nat.mul_le_mul_right _ (by omega))
     have ht2:=Hd ht;have hsl:=sgnQ_lt2 t.coef.q;have htm2:=Hd htm;clear c0 c1 c2 c3 hp0 hR0 ht htl hww htm;go_wp2_with fail;refine calls_gen (fun W=>Blk W wr.heap.size 57 #[.bool t.coef.neg,.slice p.na t.coef.num.length p.nc,.slice p.da t.coef.den.length p.dc,.slice p.aa t.mono.length p.ac] /\ Below wr.heap.size wr W) ⟨by ((with_reducible repeat first|assumption|(apply bF;focus omega)|apply bS|(apply bN;focus (simp;done))|apply bA|apply bD);all_goals rfl),by go_grown⟩ ?_;rintro w4 ⟨hC4,hb4⟩;have hB4:=hB.below hb4;have hw4:=bth hwr hb4;have hgb:wr.heap.size ≠ w3.heap.size:=by have:=hB.lt; omega
     obtain ⟨gC,hgC⟩:∃ q,wr.heap.size = q:=⟨_,rfl⟩
     rw [hgC] at hC4 hgb hbl ⊢;replace hgC:=Hd hgC;refine (sign_q (cofA t p) t.coef.q 1000 w4 (HC.out w4 (bth hw3 hw4)) (by omega)).mono ?_;rintro e w5 ⟨rfl,hb5⟩;replace hB4:=hB4.below hb5; replace hC4:=hC4.below' hb5; replace hw4:=bth hw4 hb5;obtain ⟨w4,rfl⟩:∃ W,W = w5:=⟨_,rfl⟩
     obtain ⟨sg,hsg2⟩:∃ r,sgnQ t.coef.q = r:=⟨_,rfl⟩
     rw [hsg2] at hsl ⊢;clear d0 d1 d2 d3 hb4 hb5 hB hwr hsg2;by_cases hq:t.coef.q < 0
     ·
      rw [decide_eq_true hq] at hsl;have hsi:sg < 0:=of_decide_eq_true hsl;by_cases h0:k = 0
      ·
       have hk0:((k:Int) == 0) = true:=by rw [beq_iff_eq]; omega
       have hk1:decide (0 < k) = false:=by rw [decide_eq_false]; omega
       have hsg:=Hd (show signP k t.coef.q = ofL [45] by unfold signP; rw [if_pos h0,if_pos hq]; rfl);clear hsl hq h0;have CW:=Hd (write_any w3.heap.size L (⟨#[45]⟩:ByteArray) w4 hB4 (by show L.length + 1 <= _; omega));go_wp2_with fail;refine CW.out.mono ?_;rintro e w5 ⟨⟨vv,rfl⟩,hB5,hb5,ho5⟩;have hC5:=ho5.blk hC4 hgb (by decide);have hw5:=hw4.trans hb5;have hL5:ofL (L ++ (⟨#[45]⟩:ByteArray).data.toList) = polyTo l names k ++ signP k t.coef.q:=by rw [hsg.out,<- hL.out]; exact (ofL_app _ _).symm
       clear hB4 hC4 hb5 ho5 hw4 CW;have gC5:=hC5.lt;have k0:=hC5.cell 0; have k1:=hC5.cell 1; have k2':=hC5.cell 2; have k3:=hC5.cell 3;have CT:=Hd (termS_any (cofA t p) t.coef.q t.mono names p.aa na p.ac nc 1000 w5 (HC.out w5 (bth hw3 hw5)) (by omega) (HR.out w5 (bth hw3 hw5)).1 (HN.out w5 (bth hw3 hw5)) htn htm2.out.1 htm2.out.2 HNZ.out (HT.out w5 (bth hw3 hw5)));replace hL5:=Hd hL5;go_wp2_with fail;refine CT.out.mono ?_;rintro e w6 ⟨rfl,hb6⟩;have hB6:=hB5.below hb6;have hw6:=bth hw5 hb6;obtain ⟨tb,htb⟩:∃ x,termB t.coef.q t.mono names = x:=⟨_,rfl⟩
       have hts:=HTS.out;rw [htb] at hts ⊢;have hps2:(polyTo l names (k + 1)) = polyTo l names k ++ signP k t.coef.q ++ tb:=by rw [<- htb]; exact polyTo_succ ht2.out
       obtain ⟨L5,hL5e⟩:∃ x,L ++ (⟨#[45]⟩:ByteArray).data.toList = x:=⟨_,rfl⟩
       rw [hL5e] at hL5 hB6;have hlen5:L5.length <= 1400000004000:=by
        have e2:=congrArg ByteArray.size hL.out;rw [ofL_size] at e2;have e1:=congrArg ByteArray.size hL5.out;rw [ofL_size,ByteArray.size_append] at e1;have:=signP_size k t.coef.q
        omega
       have CW2:=Hd (write_any w3.heap.size L5 tb w6 hB6 (by omega));clear k0 k1 k2' k3 CT hb6 hB5 hC5 gC5 hw5 htb hL5e;replace hps2:=Hd hps2;go_wp2_with fail;refine CW2.out.mono ?_;rintro e w7 ⟨⟨vv2,rfl⟩,hB7,hb7,ho7⟩;have hw7:=hw6.trans hb7;have hL7:ofL (L5 ++ tb.data.toList) = polyTo l names (k + 1):=by rw [hps2.out,<- hL5.out,<- ofL_app]; rfl
       replace hL7:=Hd hL7;clear CW2 hB6 hb7 ho7 hw6;go_wp2;go_roundg (gk - 1)
       case rel=>exact ⟨k + 1,_,by have:=hk.out; show _ = _; omega,by go_num,hB7,hL7.out,hw7⟩
       case measure=>have:=hk.out; omega
      ·
       have hk0:((k:Int) == 0) = false:=by rw [beq_eq_false_iff_ne]; omega
       have hk1:decide (0 < k) = true:=by rw [decide_eq_true_eq]; omega
       have hsg:=Hd (show signP k t.coef.q = ofL [32,45,32] by unfold signP; rw [if_neg h0,if_pos hq]; rfl);clear hsl hq h0;have CW:=Hd (write_any w3.heap.size L (⟨#[32,45,32]⟩:ByteArray) w4 hB4 (by show L.length + 3 <= _; omega));go_wp2_with fail;refine CW.out.mono ?_;rintro e w5 ⟨⟨vv,rfl⟩,hB5,hb5,ho5⟩;have hC5:=ho5.blk hC4 hgb (by decide);have hw5:=hw4.trans hb5;have hL5:ofL (L ++ (⟨#[32,45,32]⟩:ByteArray).data.toList) = polyTo l names k ++ signP k t.coef.q:=by rw [hsg.out,<- hL.out]; exact (ofL_app _ _).symm
       clear hB4 hC4 hb5 ho5 hw4 CW;have gC5:=hC5.lt;have k0:=hC5.cell 0; have k1:=hC5.cell 1; have k2':=hC5.cell 2; have k3:=hC5.cell 3;have CT:=Hd (termS_any (cofA t p) t.coef.q t.mono names p.aa na p.ac nc 1000 w5 (HC.out w5 (bth hw3 hw5)) (by omega) (HR.out w5 (bth hw3 hw5)).1 (HN.out w5 (bth hw3 hw5)) htn htm2.out.1 htm2.out.2 HNZ.out (HT.out w5 (bth hw3 hw5)));replace hL5:=Hd hL5;go_wp2_with fail;refine CT.out.mono ?_;rintro e w6 ⟨rfl,hb6⟩;have hB6:=hB5.below hb6;have hw6:=bth hw5 hb6;obtain ⟨tb,htb⟩:∃ x,termB t.coef.q t.mono names = x:=⟨_,rfl⟩
       have hts:=HTS.out;rw [htb] at hts ⊢;have hps2:(polyTo l names (k + 1)) = polyTo l names k ++ signP k t.coef.q ++ tb:=by rw [<- htb]; exact polyTo_succ ht2.out
       obtain ⟨L5,hL5e⟩:∃ x,L ++ (⟨#[32,45,32]⟩:ByteArray).data.toList = x:=⟨_,rfl⟩
       rw [hL5e] at hL5 hB6;have hlen5:L5.length <= 1400000004000:=by
        have e2:=congrArg ByteArray.size hL.out;rw [ofL_size] at e2;have e1:=congrArg ByteArray.size hL5.out;rw [ofL_size,ByteArray.size_append] at e1;have:=signP_size k t.coef.q
        omega
       have CW2:=Hd (write_any w3.heap.size L5 tb w6 hB6 (by omega));clear k0 k1 k2' k3 CT hb6 hB5 hC5 gC5 hw5 htb hL5e;replace hps2:=Hd hps2;go_wp2_with fail;refine CW2.out.mono ?_;rintro e w7 ⟨⟨vv2,rfl⟩,hB7,hb7,ho7⟩;have hw7:=hw6.trans hb7;have hL7:ofL (L5 ++ tb.data.toList) = polyTo l names (k + 1):=by rw [hps2.out,<- hL5.out,<- ofL_app]; rfl
       replace hL7:=Hd hL7;clear CW2 hB6 hb7 ho7 hw6;go_wp2;go_roundg (gk - 1)
       case rel=>exact ⟨k + 1,_,by have:=hk.out; show _ = _; omega,by go_num,hB7,hL7.out,hw7⟩
       case measure=>have:=hk.out; omega
     ·
      rw [decide_eq_false hq] at hsl;have hsi:¬ sg < 0:=of_decide_eq_false hsl;by_cases h0:k = 0
      ·
       have hk0:((k:Int) == 0) = true:=by rw [beq_iff_eq]; omega
       have hk1:decide (0 < k) = false:=by rw [decide_eq_false]; omega
       have hsg:=Hd (show signP k t.coef.q = ⟨#[]⟩ by unfold signP; rw [if_pos h0,if_neg hq]);have hL5:ofL L = polyTo l names k ++ signP k t.coef.q:=by rw [hsg.out,<- hL.out]; apply ba_ext; simp [ByteArray.data_append]
       clear hsl hq h0;obtain ⟨w5,rfl⟩:∃ W,W = w4:=⟨_,rfl⟩
       have hC5:=hC4; have hB5:=hB4; have hw5:=hw4;clear hC4 hB4 hw4;have gC5:=hC5.lt;have k0:=hC5.cell 0; have k1:=hC5.cell 1; have k2':=hC5.cell 2; have k3:=hC5.cell 3;have CT:=Hd (termS_any (cofA t p) t.coef.q t.mono names p.aa na p.ac nc 1000 w5 (HC.out w5 (bth hw3 hw5)) (by omega) (HR.out w5 (bth hw3 hw5)).1 (HN.out w5 (bth hw3 hw5)) htn htm2.out.1 htm2.out.2 HNZ.out (HT.out w5 (bth hw3 hw5)));replace hL5:=Hd hL5;go_wp2_with fail;refine CT.out.mono ?_;rintro e w6 ⟨rfl,hb6⟩;have hB6:=hB5.below hb6;have hw6:=bth hw5 hb6;obtain ⟨tb,htb⟩:∃ x,termB t.coef.q t.mono names = x:=⟨_,rfl⟩
       have hts:=HTS.out;rw [htb] at hts ⊢;have hps2:(polyTo l names (k + 1)) = polyTo l names k ++ signP k t.coef.q ++ tb:=by rw [<- htb]; exact polyTo_succ ht2.out
       obtain ⟨L5,hL5e⟩:∃ x,L = x:=⟨_,rfl⟩
       rw [hL5e] at hL5 hB6;have hlen5:L5.length <= 1400000004000:=by
        have e2:=congrArg ByteArray.size hL.out;rw [ofL_size] at e2;have e1:=congrArg ByteArray.size hL5.out;rw [ofL_size,ByteArray.size_append] at e1;have:=signP_size k t.coef.q
        omega
       have CW2:=Hd (write_any w3.heap.size L5 tb w6 hB6 (by omega));clear k0 k1 k2' k3 CT hb6 hB5 hC5 gC5 hw5 htb hL5e;replace hps2:=Hd hps2;go_wp2_with fail;refine CW2.out.mono ?_;rintro e w7 ⟨⟨vv2,rfl⟩,hB7,hb7,ho7⟩;have hw7:=hw6.trans hb7;have hL7:ofL (L5 ++ tb.data.toList) = polyTo l names (k + 1):=by rw [hps2.out,<- hL5.out,<- ofL_app]; rfl
       replace hL7:=Hd hL7;clear CW2 hB6 hb7 ho7 hw6;go_wp2;go_roundg (gk - 1)
       case rel=>exact ⟨k + 1,_,by have:=hk.out; show _ = _; omega,by go_num,hB7,hL7.out,hw7⟩
       case measure=>have:=hk.out; omega
      ·
       have hk0:((k:Int) == 0) = false:=by rw [beq_eq_false_iff_ne]; omega
       have hk1:decide (0 < k) = true:=by rw [decide_eq_true_eq]; omega
       have hsg:=Hd (show signP k t.coef.q = ofL [32,43,32] by unfold signP; rw [if_neg h0,if_neg hq]; rfl);clear hsl hq h0;have CW:=Hd (write_any w3.heap.size L (⟨#[32,43,32]⟩:ByteArray) w4 hB4 (by show L.length + 3 <= _; omega));go_wp2_with fail;refine CW.out.mono ?_;rintro e w5 ⟨⟨vv,rfl⟩,hB5,hb5,ho5⟩;have hC5:=ho5.blk hC4 hgb (by decide);have hw5:=hw4.trans hb5;have hL5:ofL (L ++ (⟨#[32,43,32]⟩:ByteArray).data.toList) = polyTo l names k ++ signP k t.coef.q:=by rw [hsg.out,<- hL.out]; exact (ofL_app _ _).symm
       clear hB4 hC4 hb5 ho5 hw4 CW;have gC5:=hC5.lt;have k0:=hC5.cell 0; have k1:=hC5.cell 1; have k2':=hC5.cell 2; have k3:=hC5.cell 3;have CT:=Hd (termS_any (cofA t p) t.coef.q t.mono names p.aa na p.ac nc 1000 w5 (HC.out w5 (bth hw3 hw5)) (by omega) (HR.out w5 (bth hw3 hw5)).1 (HN.out w5 (bth hw3 hw5)) htn htm2.out.1 htm2.out.2 HNZ.out (HT.out w5 (bth hw3 hw5)));replace hL5:=Hd hL5;go_wp2_with fail;refine CT.out.mono ?_;rintro e w6 ⟨rfl,hb6⟩;have hB6:=hB5.below hb6;have hw6:=bth hw5 hb6;obtain ⟨tb,htb⟩:∃ x,termB t.coef.q t.mono names = x:=⟨_,rfl⟩
       have hts:=HTS.out;rw [htb] at hts ⊢;have hps2:(polyTo l names (k + 1)) = polyTo l names k ++ signP k t.coef.q ++ tb:=by rw [<- htb]; exact polyTo_succ ht2.out
       obtain ⟨L5,hL5e⟩:∃ x,L ++ (⟨#[32,43,32]⟩:ByteArray).data.toList = x:=⟨_,rfl⟩
       rw [hL5e] at hL5 hB6;have hlen5:L5.length <= 1400000004000:=by
        have e2:=congrArg ByteArray.size hL.out;rw [ofL_size] at e2;have e1:=congrArg ByteArray.size hL5.out;rw [ofL_size,ByteArray.size_append] at e1;have:=signP_size k t.coef.q
        omega
       have CW2:=Hd (write_any w3.heap.size L5 tb w6 hB6 (by omega));clear k0 k1 k2' k3 CT hb6 hB5 hC5 gC5 hw5 htb hL5e;replace hps2:=Hd hps2;go_wp2_with fail;refine CW2.out.mono ?_;rintro e w7 ⟨⟨vv2,rfl⟩,hB7,hb7,ho7⟩;have hw7:=hw6.trans hb7;have hL7:ofL (L5 ++ tb.data.toList) = polyTo l names (k + 1):=by rw [hps2.out,<- hL5.out,<- ofL_app]; rfl
       replace hL7:=Hd hL7;clear CW2 hB6 hb7 ho7 hw6;go_wp2;go_roundg (gk - 1)
       case rel=>exact ⟨k + 1,_,by have:=hk.out; show _ = _; omega,by go_num,hB7,hL7.out,hw7⟩
       case measure=>have:=hk.out; omega
    ·
     have hkl:k = l.length:=by have:=hk.out; omega
     have CS:=Hd (string_any _ L wr hB);have hfin2:R = (ofL L,0):=by rw [hfin.out,hL.out,hkl]
     clear hfin hL hkl;go_wp2_with fail;refine CS.out.mono ?_;rintro e w5 ⟨rfl,hb5,_⟩;have hfin:=Hd hfin2;clear hfin2 CS;go_wp2;go_ret2;exact ⟨by rw [hfin.out]; rfl,bth hw3 (hwr.trans hb5)⟩
  ·
   obtain ⟨v,hv⟩:=get_of_lt (xs:=varsI l 64) (k:=(varsI l 64).length - 1) (by omega);have hv1:decide (0 < (varsI l 64).length) = true:=by rw [decide_eq_true_eq]; omega
   have hbv:=hbl.out v hv;rw [hbg.out] at hbv;obtain ⟨bv,ov,rfl,hcv,hvw⟩:=hV.2.2 _ v hv;simp only [Nat.mul_one] at hcv;have hvi:=inInt_of hvw;have hle:(varsI l 64).length - 1 < (varsI l 64).length:=by omega
   have hcl:(((varsI l 64).length:Int) - 1) = (((varsI l 64).length - 1:Nat):Int):=by omega
   clear hvw hbn hbl hv hV;by_cases hbig:(names.length:Int) <= v
   ·
    have hbt:bg = true:=by rw [hbv]; exact decide_eq_true hbig
    subst hbt;rw [if_pos rfl] at hR;have hfin:=Hd hR.symm;clear hR hbv;go_wp2;go_ret2;exact ⟨by rw [hfin.out]; rfl,hw3⟩
   ·
    have hbt:bg = false:=by rw [hbv]; exact decide_eq_false hbig
    subst hbt;rw [if_neg (by simp)] at hR;replace hR:=Hd hR;clear hbv;by_cases hl0:l.length = 0
    ·
     have hl1:((l.length:Int) == 0) = true:=by rw [beq_iff_eq]; omega
     have hfin:=Hd (show R = (⟨#[48]⟩,0) by rw [<- hR.out,if_pos hl0]);clear hR hl0;go_wp2;go_ret2;exact ⟨by rw [hfin.out]; rfl,hw3⟩
    have hl1:((l.length:Int) == 0) = false:=by rw [beq_eq_false_iff_ne]; omega
    have hfin:=Hd (show R = (polyTo l names l.length,0) by rw [<- hR.out,if_neg hl0]);clear hR hl0;go_wp2;have hB0:=Bld.new w3;have hb0:Below w3.heap.size w3 (w3.alloc (.cells #[.pointer none,.slice none 0 0] 62)):=brf.alloc (nlr _) _;revert hB0 hb0;generalize w3.alloc (.cells #[.pointer none,.slice none 0 0] 62) = w4;intro hB0 hb0
    go_loopg [9,10,11,41] l.length (fun g _ _ _ s41 wr=>∃ (k:Nat) (L:List UInt8),Hid (k + g = l.length) /\ s41 = .int .i64 k /\ Bld w3.heap.size L wr /\ Hid (ofL L = polyTo l names k) /\ Below w3.heap.size w3 wr)
    case atStart=>exact ⟨0,[],by show _ = _; omega,rfl,hB0,rfl,hb0⟩
    case round =>
     clear hB0 hb0;obtain ⟨k,L,hk,rfl,hB,hL,hwr⟩:=hrel;by_cases hlt:k < l.length
     ·
      obtain ⟨t,ht⟩:=get_of_lt hlt;have htl:=List.mem_of_getElem? ht;have hp0:=HP.out w brf;obtain ⟨b,o,rfl,p,hC0,hR0⟩:=hp0.2.2 k t ht;obtain ⟨c0,c1,c2,c3⟩:=hC0;have hww:=bth hw3 hwr;have d0:=held c0 wr hww; have d1:=held c1 wr hww; have d2:=held c2 wr hww; have d3:=held c3 wr hww;have hbl:b < wr.heap.size:=World.block_lt_of_cell? wr _ d0;have HR:=Hd (fun W (hW:Below w.heap.size w W)=>PartsR.ext hR0 (xbw hW));have HC:=Hd (fun W (hW:Below w.heap.size w W)=>cofA_qk (HR.out W hW) (HPB.out t htl).1 (HQ.out t htl).1 (HQ.out t htl).2);have htm:=monoB_mem (HPB.out t htl).2;have htn:=bigB_le hbg.out htl;have HTS:=Hd (termB_size HNZ.out (fun x hx=>(htm.2 x hx).2) (textT_len (HPB.out t htl).1 (HQ.out t htl).1 (HQ.out t htl).2) htm.1);have hplen:L.length <= 1000 * (1400000000 + 3):=by
       have e1:=polyTo_size (l:=l) (names:=names) (M:=1400000000) (fun u hu=>termB_size HNZ.out (fun x hx=>((monoB_mem (HPB.out u hu).2).2 x hx).2) (textT_len (HPB.out u hu).1 (HQ.out u hu).1 (HQ.out u hu).2) (monoB_mem (HPB.out u hu).2).1) k;rw [<- hL.out,ofL_size] at e1;exact Nat.le_trans e1 (Nat.mul_le_mul_right _ (by omega))
      have ht2:=Hd ht;have hsl:=sgnQ_lt2 t.coef.q;have htm2:=Hd htm;clear c0 c1 c2 c3 hp0 hR0 ht htl hww htm;go_wp2_with fail;refine calls_gen (fun W=>Blk W wr.heap.size 57 #[.bool t.coef.neg,.slice p.na t.coef.num.length p.nc,.slice p.da t.coef.den.length p.dc,.slice p.aa t.mono.length p.ac] /\ Below wr.heap.size wr W) ⟨by ((with_reducible repeat first|assumption|(apply bF;focus omega)|apply bS|(apply bN;focus (simp;done))|apply bA|apply bD);all_goals rfl),by go_grown⟩ ?_;rintro w4 ⟨hC4,hb4⟩;have hB4:=hB.below hb4;have hw4:=bth hwr hb4;have hgb:wr.heap.size ≠ w3.heap.size:=by have:=hB.lt; omega
      obtain ⟨gC,hgC⟩:∃ q,wr.heap.size = q:=⟨_,rfl⟩
      rw [hgC] at hC4 hgb hbl ⊢;replace hgC:=Hd hgC;refine (sign_q (cofA t p) t.coef.q 1000 w4 (HC.out w4 (bth hw3 hw4)) (by omega)).mono ?_;rintro e w5 ⟨rfl,hb5⟩;replace hB4:=hB4.below hb5; replace hC4:=hC4.below' hb5; replace hw4:=bth hw4 hb5;obtain ⟨w4,rfl⟩:∃ W,W = w5:=⟨_,rfl⟩
      obtain ⟨sg,hsg2⟩:∃ r,sgnQ t.coef.q = r:=⟨_,rfl⟩
      rw [hsg2] at hsl ⊢;clear d0 d1 d2 d3 hb4 hb5 hB hwr hsg2;by_cases hq:t.coef.q < 0
      ·
       rw [decide_eq_true hq] at hsl;have hsi:sg < 0:=of_decide_eq_true hsl;by_cases h0:k = 0
       ·
        have hk0:((k:Int) == 0) = true:=by rw [beq_iff_eq]; omega
        have hk1:decide (0 < k) = false:=by rw [decide_eq_false]; omega
        have hsg:=Hd (show signP k t.coef.q = ofL [45] by unfold signP; rw [if_pos h0,if_pos hq]; rfl);clear hsl hq h0;have CW:=Hd (write_any w3.heap.size L (⟨#[45]⟩:ByteArray) w4 hB4 (by show L.length + 1 <= _; omega));go_wp2_with fail;refine CW.out.mono ?_;rintro e w5 ⟨⟨vv,rfl⟩,hB5,hb5,ho5⟩;have hC5:=ho5.blk hC4 hgb (by decide);have hw5:=hw4.trans hb5;have hL5:ofL (L ++ (⟨#[45]⟩:ByteArray).data.toList) = polyTo l names k ++ signP k t.coef.q:=by rw [hsg.out,<- hL.out]; exact (ofL_app _ _).symm
        clear hB4 hC4 hb5 ho5 hw4 CW;have gC5:=hC5.lt;have k0:=hC5.cell 0; have k1:=hC5.cell 1; have k2':=hC5.cell 2; have k3:=hC5.cell 3;have CT:=Hd (termS_any (cofA t p) t.coef.q t.mono names p.aa na p.ac nc 1000 w5 (HC.out w5 (bth hw3 hw5)) (by omega) (HR.out w5 (bth hw3 hw5)).1 (HN.out w5 (bth hw3 hw5)) htn htm2.out.1 htm2.out.2 HNZ.out (HT.out w5 (bth hw3 hw5)));replace hL5:=Hd hL5;go_wp2_with fail;refine CT.out.mono ?_;rintro e w6 ⟨rfl,hb6⟩;have hB6:=hB5.below hb6;have hw6:=bth hw5 hb6;obtain ⟨tb,htb⟩:∃ x,termB t.coef.q t.mono names = x:=⟨_,rfl⟩
        have hts:=HTS.out;rw [htb] at hts ⊢;have hps2:(polyTo l names (k + 1)) = polyTo l names k ++ signP k t.coef.q ++ tb:=by rw [<- htb]; exact polyTo_succ ht2.out
        obtain ⟨L5,hL5e⟩:∃ x,L ++ (⟨#[45]⟩:ByteArray).data.toList = x:=⟨_,rfl⟩
        rw [hL5e] at hL5 hB6;have hlen5:L5.length <= 1400000004000:=by
         have e2:=congrArg ByteArray.size hL.out;rw [ofL_size] at e2;have e1:=congrArg ByteArray.size hL5.out;rw [ofL_size,ByteArray.size_append] at e1;have:=signP_size k t.coef.q
         omega
        have CW2:=Hd (write_any w3.heap.size L5 tb w6 hB6 (by omega));clear k0 k1 k2' k3 CT hb6 hB5 hC5 gC5 hw5 htb hL5e;replace hps2:=Hd hps2;go_wp2_with fail;refine CW2.out.mono ?_;rintro e w7 ⟨⟨vv2,rfl⟩,hB7,hb7,ho7⟩;have hw7:=hw6.trans hb7;have hL7:ofL (L5 ++ tb.data.toList) = polyTo l names (k + 1):=by rw [hps2.out,<- hL5.out,<- ofL_app]; rfl
        replace hL7:=Hd hL7;clear CW2 hB6 hb7 ho7 hw6;go_wp2;go_roundg (gk - 1)
        case rel=>exact ⟨k + 1,_,by have:=hk.out; show _ = _; omega,by go_num,hB7,hL7.out,hw7⟩
        case measure=>have:=hk.out; omega
       ·
        have hk0:((k:Int) == 0) = false:=by rw [beq_eq_false_iff_ne]; omega
        have hk1:decide (0 < k) = true:=by rw [decide_eq_true_eq]; omega
        have hsg:=Hd (show signP k t.coef.q = ofL [32,45,32] by unfold signP; rw [if_neg h0,if_pos hq]; rfl);clear hsl hq h0;have CW:=Hd (write_any w3.heap.size L (⟨#[32,45,32]⟩:ByteArray) w4 hB4 (by show L.length + 3 <= _; omega));go_wp2_with fail;refine CW.out.mono ?_;rintro e w5 ⟨⟨vv,rfl⟩,hB5,hb5,ho5⟩;have hC5:=ho5.blk hC4 hgb (by decide);have hw5:=hw4.trans hb5;have hL5:ofL (L ++ (⟨#[32,45,32]⟩:ByteArray).data.toList) = polyTo l names k ++ signP k t.coef.q:=by rw [hsg.out,<- hL.out]; exact (ofL_app _ _).symm
        clear hB4 hC4 hb5 ho5 hw4 CW;have gC5:=hC5.lt;have k0:=hC5.cell 0; have k1:=hC5.cell 1; have k2':=hC5.cell 2; have k3:=hC5.cell 3;have CT:=Hd (termS_any (cofA t p) t.coef.q t.mono names p.aa na p.ac nc 1000 w5 (HC.out w5 (bth hw3 hw5)) (by omega) (HR.out w5 (bth hw3 hw5)).1 (HN.out w5 (bth hw3 hw5)) htn htm2.out.1 htm2.out.2 HNZ.out (HT.out w5 (bth hw3 hw5)));replace hL5:=Hd hL5;go_wp2_with fail;refine CT.out.mono ?_;rintro e w6 ⟨rfl,hb6⟩;have hB6:=hB5.below hb6;have hw6:=bth hw5 hb6;obtain ⟨tb,htb⟩:∃ x,termB t.coef.q t.mono names = x:=⟨_,rfl⟩
        have hts:=HTS.out;rw [htb] at hts ⊢;have hps2:(polyTo l names (k + 1)) = polyTo l names k ++ signP k t.coef.q ++ tb:=by rw [<- htb]; exact polyTo_succ ht2.out
        obtain ⟨L5,hL5e⟩:∃ x,L ++ (⟨#[32,45,32]⟩:ByteArray).data.toList = x:=⟨_,rfl⟩
        rw [hL5e] at hL5 hB6;have hlen5:L5.length <= 1400000004000:=by
         have e2:=congrArg ByteArray.size hL.out;rw [ofL_size] at e2;have e1:=congrArg ByteArray.size hL5.out;rw [ofL_size,ByteArray.size_append] at e1;have:=signP_size k t.coef.q
         omega
        have CW2:=Hd (write_any w3.heap.size L5 tb w6 hB6 (by omega));clear k0 k1 k2' k3 CT hb6 hB5 hC5 gC5 hw5 htb hL5e;replace hps2:=Hd hps2;go_wp2_with fail;refine CW2.out.mono ?_;rintro e w7 ⟨⟨vv2,rfl⟩,hB7,hb7,ho7⟩;have hw7:=hw6.trans hb7;have hL7:ofL (L5 ++ tb.data.toList) = polyTo l names (k + 1):=by rw [hps2.out,<- hL5.out,<- ofL_app]; rfl
        replace hL7:=Hd hL7;clear CW2 hB6 hb7 ho7 hw6;go_wp2;go_roundg (gk - 1)
        case rel=>exact ⟨k + 1,_,by have:=hk.out; show _ = _; omega,by go_num,hB7,hL7.out,hw7⟩
        case measure=>have:=hk.out; omega
      ·
       rw [decide_eq_false hq] at hsl;have hsi:¬ sg < 0:=of_decide_eq_false hsl;by_cases h0:k = 0
       ·
        have hk0:((k:Int) == 0) = true:=by rw [beq_iff_eq]; omega
        have hk1:decide (0 < k) = false:=by rw [decide_eq_false]; omega
        have hsg:=Hd (show signP k t.coef.q = ⟨#[]⟩ by unfold signP; rw [if_pos h0,if_neg hq]);have hL5:ofL L = polyTo l names k ++ signP k t.coef.q:=by rw [hsg.out,<- hL.out]; apply ba_ext; simp [ByteArray.data_append]
        clear hsl hq h0;obtain ⟨w5,rfl⟩:∃ W,W = w4:=⟨_,rfl⟩
        have hC5:=hC4; have hB5:=hB4; have hw5:=hw4;clear hC4 hB4 hw4;have gC5:=hC5.lt;have k0:=hC5.cell 0; have k1:=hC5.cell 1; have k2':=hC5.cell 2; have k3:=hC5.cell 3;have CT:=Hd (termS_any (cofA t p) t.coef.q t.mono names p.aa na p.ac nc 1000 w5 (HC.out w5 (bth hw3 hw5)) (by omega) (HR.out w5 (bth hw3 hw5)).1 (HN.out w5 (bth hw3 hw5)) htn htm2.out.1 htm2.out.2 HNZ.out (HT.out w5 (bth hw3 hw5)));replace hL5:=Hd hL5;go_wp2_with fail;refine CT.out.mono ?_;rintro e w6 ⟨rfl,hb6⟩;have hB6:=hB5.below hb6;have hw6:=bth hw5 hb6;obtain ⟨tb,htb⟩:∃ x,termB t.coef.q t.mono names = x:=⟨_,rfl⟩
        have hts:=HTS.out;rw [htb] at hts ⊢;have hps2:(polyTo l names (k + 1)) = polyTo l names k ++ signP k t.coef.q ++ tb:=by rw [<- htb]; exact polyTo_succ ht2.out
        obtain ⟨L5,hL5e⟩:∃ x,L = x:=⟨_,rfl⟩
        rw [hL5e] at hL5 hB6;have hlen5:L5.length <= 1400000004000:=by
         have e2:=congrArg ByteArray.size hL.out;rw [ofL_size] at e2;have e1:=congrArg ByteArray.size hL5.out;rw [ofL_size,ByteArray.size_append] at e1;have:=signP_size k t.coef.q
         omega
        have CW2:=Hd (write_any w3.heap.size L5 tb w6 hB6 (by omega));clear k0 k1 k2' k3 CT hb6 hB5 hC5 gC5 hw5 htb hL5e;replace hps2:=Hd hps2;go_wp2_with fail;refine CW2.out.mono ?_;rintro e w7 ⟨⟨vv2,rfl⟩,hB7,hb7,ho7⟩;have hw7:=hw6.trans hb7;have hL7:ofL (L5 ++ tb.data.toList) = polyTo l names (k + 1):=by rw [hps2.out,<- hL5.out,<- ofL_app]; rfl
        replace hL7:=Hd hL7;clear CW2 hB6 hb7 ho7 hw6;go_wp2;go_roundg (gk - 1)
        case rel=>exact ⟨k + 1,_,by have:=hk.out; show _ = _; omega,by go_num,hB7,hL7.out,hw7⟩
        case measure=>have:=hk.out; omega
       ·
        have hk0:((k:Int) == 0) = false:=by rw [beq_eq_false_iff_ne]; omega
        have hk1:decide (0 < k) = true:=by rw [decide_eq_true_eq]; omega
        have hsg:=Hd (show signP k t.coef.q = ofL [32,43,32] by unfold signP; rw [if_neg h0,if_neg hq]; rfl);clear hsl hq h0;have CW:=Hd (write_any w3.heap.size L (⟨#[32,43,32]⟩:ByteArray) w4 hB4 (by show L.length + 3 <= _; omega));go_wp2_with fail;refine CW.out.mono ?_;rintro e w5 ⟨⟨vv,rfl⟩,hB5,hb5,ho5⟩;have hC5:=ho5.blk hC4 hgb (by decide);have hw5:=hw4.trans hb5;have hL5:ofL (L ++ (⟨#[32,43,32]⟩:ByteArray).data.toList) = polyTo l names k ++ signP k t.coef.q:=by rw [hsg.out,<- hL.out]; exact (ofL_app _ _).symm
        clear hB4 hC4 hb5 ho5 hw4 CW;have gC5:=hC5.lt;have k0:=hC5.cell 0; have k1:=hC5.cell 1; have k2':=hC5.cell 2; have k3:=hC5.cell 3;have CT:=Hd (termS_any (cofA t p) t.coef.q t.mono names p.aa na p.ac nc 1000 w5 (HC.out w5 (bth hw3 hw5)) (by omega) (HR.out w5 (bth hw3 hw5)).1 (HN.out w5 (bth hw3 hw5)) htn htm2.out.1 htm2.out.2 HNZ.out (HT.out w5 (bth hw3 hw5)));replace hL5:=Hd hL5;go_wp2_with fail;refine CT.out.mono ?_;rintro e w6 ⟨rfl,hb6⟩;have hB6:=hB5.below hb6;have hw6:=bth hw5 hb6;obtain ⟨tb,htb⟩:∃ x,termB t.coef.q t.mono names = x:=⟨_,rfl⟩
        have hts:=HTS.out;rw [htb] at hts ⊢;have hps2:(polyTo l names (k + 1)) = polyTo l names k ++ signP k t.coef.q ++ tb:=by rw [<- htb]; exact polyTo_succ ht2.out
        obtain ⟨L5,hL5e⟩:∃ x,L ++ (⟨#[32,43,32]⟩:ByteArray).data.toList = x:=⟨_,rfl⟩
        rw [hL5e] at hL5 hB6;have hlen5:L5.length <= 1400000004000:=by
         have e2:=congrArg ByteArray.size hL.out;rw [ofL_size] at e2;have e1:=congrArg ByteArray.size hL5.out;rw [ofL_size,ByteArray.size_append] at e1;have:=signP_size k t.coef.q
         omega
        have CW2:=Hd (write_any w3.heap.size L5 tb w6 hB6 (by omega));clear k0 k1 k2' k3 CT hb6 hB5 hC5 gC5 hw5 htb hL5e;replace hps2:=Hd hps2;go_wp2_with fail;refine CW2.out.mono ?_;rintro e w7 ⟨⟨vv2,rfl⟩,hB7,hb7,ho7⟩;have hw7:=hw6.trans hb7;have hL7:ofL (L5 ++ tb.data.toList) = polyTo l names (k + 1):=by rw [hps2.out,<- hL5.out,<- ofL_app]; rfl
        replace hL7:=Hd hL7;clear CW2 hB6 hb7 ho7 hw6;go_wp2;go_roundg (gk - 1)
        case rel=>exact ⟨k + 1,_,by have:=hk.out; show _ = _; omega,by go_num,hB7,hL7.out,hw7⟩
        case measure=>have:=hk.out; omega
     ·
      have hkl:k = l.length:=by have:=hk.out; omega
      have CS:=Hd (string_any _ L wr hB);have hfin2:R = (ofL L,0):=by rw [hfin.out,hL.out,hkl]
      clear hfin hL hkl;go_wp2_with fail;refine CS.out.mono ?_;rintro e w5 ⟨rfl,hb5,_⟩;have hfin:=Hd hfin2;clear hfin2 CS;go_wp2;go_ret2;exact ⟨by rw [hfin.out]; rfl,bth hw3 (hwr.trans hb5)⟩
 ·
  rw [if_neg he] at hR;have hfin:=Hd hR.symm;have hne:(er != 0) = true:=by simpa using he
  clear hR he her;go_enter Tryz.func13,Tryz.ntmps13;go_wp2_with fail;refine CR.out.mono ?_;rintro e w1 ⟨rfl,hb1⟩;go_wp2_with fail;refine (CK.out w1 hb1).mono ?_;rintro e w2 ⟨rfl,hb2⟩;go_wp2;go_ret2;exact ⟨by rw [hfin.out]; rfl,bth hb1 hb2⟩
def trmOf (u:Tm):Trm:=⟨⟨decide (u.1.num < 0),limbs u.1.num.natAbs,limbs u.1.den⟩,u.2⟩
theorem trmQ_of (u:Tm):trmQ (trmOf u) = u:=by
 unfold trmQ trmOf Rt.q;dsimp only;rw [val_limbs,val_limbs,qv_parts]
theorem right_of (q:Rat):(Rt.mk (decide (q.num < 0)) (limbs q.num.natAbs) (limbs q.den)).right = true:=by
 unfold Rt.right rightI canonB;simp only [Bool.and_eq_true,decide_eq_true_eq,Bool.not_eq_true',Bool.and_eq_false_iff,decide_eq_false_iff_not];rw [val_limbs,val_limbs];have hd:=limbs_len_pos.2 (Nat.pos_of_ne_zero q.den_nz);refine ⟨⟨⟨⟨rfl,?_⟩,rfl⟩,q.reduced⟩,by omega⟩;by_cases h:q.num < 0
 ·
  right;have:=limbs_len_pos.2 (show 0 < q.num.natAbs by omega)
  omega
 · left; exact h
theorem okT_of {u:Tm} (h:Mok 1048576 u.2) (h0:u.1 ≠ 0):okT (trmOf u) = true:=by
 unfold okT;have h1:(trmOf u).coef.right = true:=right_of u.1;have h2:¬ val (trmOf u).coef.num = 0:=by
  show ¬ val (limbs u.1.num.natAbs) = 0
  rw [val_limbs];intro e;exact h0 (Rat.num_eq_zero.1 (by omega))
 have h3:monoB (trmOf u).mono = true:=by
  show monoB u.2 = true
  refine monoB_good h.2.2 h.2.1 ?_;rw [List.all_eq_true];exact fun x hx=>by simpa using h.1 x hx
 rw [h1,h3,decide_eq_false h2]
 rfl
theorem polyB_of {p:List Tm} (h:Pok 1048576 p):polyB (p.map trmOf) = true:=by
 refine polyB_good fun i hi=>?_
 rw [List.length_map] at hi;have hu:=List.getElem?_eq_getElem hi;have ht:(p.map trmOf)[i]? = some (trmOf p[i]):=by rw [List.getElem?_map,hu]; rfl
 have hok:=okT_of (h.1 _ (List.getElem_mem hi)).1 (h.1 _ (List.getElem_mem hi)).2
 cases i with
 | zero=>exact badAt_zero ht hok
 | succ j =>
  have hj:j < p.length:=by omega
  have hs:(p.map trmOf)[j]? = some (trmOf p[j]):=by rw [List.getElem?_map,List.getElem?_eq_getElem hj]; rfl
  rw [badAt_succ ht hs hok,decide_eq_false_iff_not];have:=(List.pairwise_iff_getElem.1 h.2) j (j + 1) hj hi (Nat.lt_succ_self _);have:=lexI_pos.2 this
  show ¬ lexI p[j].2 p[j + 1].2 <= 0
  omega
theorem map_of (p:List Tm):(p.map trmOf).map trmQ = p:=by
 rw [List.map_map]
 conv=>rhs; rw [<- List.map_id p]
 exact List.map_congr_left fun u _=>trmQ_of u
theorem PolX.list {X:Nat -> Prop} {w:World} {a:Option Addr} {c:Nat} {p:List Tm} (h:PolX X w a c p):PolyR w a c (p.map trmOf):=by
 obtain ⟨l,h1,h2⟩:=h;have hr:=h1.now;refine ⟨by rw [List.length_map,<- h2.1]; exact hr.1,hr.2.1,fun k x hx=>?_⟩;rw [List.getElem?_map] at hx;obtain ⟨u,hu,rfl⟩:=Option.map_eq_some_iff.1 hx;obtain ⟨t,ht⟩:=get_of_lt (xs:=l) (k:=k) (by rw [h2.1]; exact lt_of_get hu);obtain ⟨b,off,ha,c0,c1,c2,c3⟩:=hr.2.2 k t ht;obtain ⟨⟨e1,e2,e3,n1,n2⟩,hi,hn⟩:=(h2.2 k t u ht hu).now;refine ⟨b,off,ha,⟨⟨t.a,t.c,t.x.a,t.x.c,t.x.b,t.x.d⟩,⟨?_,?_,?_,?_⟩,?_⟩⟩
 · rw [c0,e1]; rfl
 · rw [c1,e2]; rfl
 · rw [c2,e3]; rfl
 · rw [c3,hn]; rfl
 · exact ⟨hi,n1,n2⟩
def FewT (l:List Trm):Prop:=∀ t ∈ l,t.coef.num.length <= 1000 /\ t.coef.den.length <= 1000
theorem few_of {p:List Tm} (h:FineP p):FewT (p.map trmOf):=fun t ht=>by
 obtain ⟨u,hu,rfl⟩:=List.mem_map.1 ht;have:=(h.2 u hu).2.2;have h1:=qsz_num u.1;have h2:=qsz_den u.1;exact ⟨by show (limbs _).length <= _; omega,by show (limbs _).length <= _; omega⟩
theorem cmpR6_any (l m:List Trm) (a b:Option Addr) (ca cb:Nat) (w:World) (h:PolyR w a ca l) (h':PolyR w b cb m) (hl:polyB l = true) (hm:polyB m = true) (fl:FewT l) (fm:FewT m) :
  Calls Tryz.prog 36 #[.slice a l.length ca,.slice b m.length cb] w fun e w'=>∃ z:Int,e = .returned (.int .i64 z) /\ (z = 0 ↔ l = m) /\ Below w.heap.size w w':=by
 have ll:=h.len; have lm:=h'.len;have HP:=Hd (fun W (hW:Below w.heap.size w W)=>h.ext (xbw hW));have HQ:=Hd (fun W (hW:Below w.heap.size w W)=>h'.ext (xbw hW));have HL:=Hd (polyB_ok hl); have HM:=Hd (polyB_ok hm); have FL:=Hd fl; have FM:=Hd fm;clear h h' hl hm fl fm;go_enter Tryz.func36,Tryz.ntmps36;go_wp2;obtain ⟨wo,rfl⟩:∃ wo:World,wo = w:=⟨_,rfl⟩
 go_loopg [5,6,7] (min l.length m.length) (fun gk i _ _ wr=>∃ k:Nat,Hid (k + gk = min l.length m.length) /\ i = .int .i64 k /\ Hid (l.take k = m.take k) /\ Below wo.heap.size wo wr)
 case atStart=>exact ⟨0,by show _ = _; omega,rfl,by show _ = _; simp,Below.refl _ _⟩
 case round =>
  obtain ⟨k,hk,rfl,htk,hwr⟩:=hrel;by_cases hlt:k < min l.length m.length
  ·
   have k1:k < l.length:=by omega
   have k2:k < m.length:=by omega
   obtain ⟨s,hs⟩:=get_of_lt k1;obtain ⟨t,ht⟩:=get_of_lt k2;have hsn:=take_more hs;have htn:=take_more ht;obtain ⟨bs,os,rfl,ps,cs,rs⟩:=(HP.out wr hwr).2.2 k s hs;obtain ⟨bt,ot,rfl,pt,ct,rt⟩:=(HQ.out wr hwr).2.2 k t ht;obtain ⟨s0,s1,s2,s3⟩:=cs;obtain ⟨t0,t1,t2,t3⟩:=ct;obtain ⟨a1,a2,a3⟩:=okT_fine (HL.out s (List.mem_of_getElem? hs));obtain ⟨b1,b2,b3⟩:=okT_fine (HM.out t (List.mem_of_getElem? ht));have f1:=FL.out s (List.mem_of_getElem? hs);have f2:=FM.out t (List.mem_of_getElem? ht);have d0:=held s0; have d1:=held s1; have d2:=held s2; have d3:=held s3;have e0:=held t0; have e1:=held t1; have e2:=held t2; have e3:=held t3;have CL:=Hd (fun W (hW:Below wr.heap.size wr W)=>cmpR5_any s.mono t.mono ps.aa pt.aa ps.ac pt.ac W (rs.1.ext (xbw hW)) (rt.1.ext (xbw hW)) (monoB_mem a2).2 (monoB_mem b2).2)
   have CQ:=Hd (fun W (hW:Below wr.heap.size wr W)=>cmpR_q (cofA s ps) (cofA t pt) s.coef.q t.coef.q 1000 1000 W (cofA_qk (PartsR.ext rs (xbw hW)) a1 f1.1 f1.2) (cofA_qk (PartsR.ext rt (xbw hW)) b1 f2.1 f2.2) (by omega) (by omega));have hne:=Hd (fun (e:s ≠ t)=>(show l ≠ m from fun h=>by subst h; rw [hs] at ht; injection ht with ht; exact e ht));have hmo:=Hd (fun (e:lexI s.mono t.mono = 0)=>lexI_eq (monoB_ok a2) (monoB_ok b2) (by omega) (by omega));have hmz:=Hd (fun (e:lexI s.mono t.mono ≠ 0) (h:s = t)=>e (by rw [h]; exact lexI_self _));have hex:=Hd (fun (e1:s.mono = t.mono) (e2:s.coef.q = t.coef.q)=>trmQ_ext (HL.out s (List.mem_of_getElem? hs)) (HM.out t (List.mem_of_getElem? ht)) (show trmQ s = trmQ t by unfold trmQ; rw [e1,e2]));obtain ⟨z1,hz1⟩:∃ z,lexI s.mono t.mono = z:=⟨_,rfl⟩
   obtain ⟨z2,hz2⟩:∃ z,cmpQ s.coef.q t.coef.q = z:=⟨_,rfl⟩
   rw [hz1] at hmo hmz;have CL2:=Hd (by have:=CL.out; simp only [hz1] at this; exact this);have CQ2:=Hd (by have:=CQ.out; simp only [hz2] at this; exact this);have hqz:=Hd (show z2 = 0 ↔ s.coef.q = t.coef.q by rw [<- hz2]; exact cmpQ_zero);have b0:Below wr.heap.size wr wr.drew:=brf.drew;have hsn2:=Hd hsn; have htn2:=Hd htn;replace hz1:=Hd hz1; replace hz2:=Hd hz2;clear s0 s1 s2 s3 t0 t1 t2 t3 CL CQ hs ht hsn htn rs rt a1 a2 a3 b1 b2 b3 f1 f2;by_cases h1:z1 = 0
   ·
    have hmono:=Hd (hmo.out h1);subst h1;go_wp2;refine wp_region_mix (S:=(fun W=>Below wr.heap.size wr W)) [(0,.q),(1,.q),(2,.q),(3,.q),(4,.q),(5,.q),(6,.q),(7,.q),(8,.q),(9,.q),(10,.t),(11,.p)] (by kernel_rfl) (by kernel_rfl) (by kernel_rfl) (fun d _ _ _ _ h=>by cases d <;> exact h) (b0) ?_
    iterate 10 (refine wpMix_q rfl rfl (fun K hK=>?_); apply Exists.intro; refine ⟨fun w' hw'=>?_,?_⟩; (focus (go_simp; try rfl)); go_simp; refine hK _ _ ?_; clear hK K)
    refine wpMix_t rfl rfl (fun K hK=>?_);go_simp;refine (CL2.out wr.drew b0).mono ?_;rintro e w' ⟨rfl,rfl⟩;dsimp only;refine hK.out _ _ ?_;clear hK K
    iterate 1 (refine wpMix_p rfl rfl (fun K hK=>?_); apply Exists.intro; refine ⟨fun w'=>?_,?_⟩; (focus (go_simp; try rfl)); go_simp; refine hK _ _ ?_; clear hK K)
    refine wpMix_nil ?_;have b1:Below wr.heap.size wr wr.drew.drew:=b0.drew;go_wp2;refine wp_region_mix (S:=(fun W=>Below wr.heap.size wr W)) [(0,.q),(1,.q),(2,.q),(3,.q),(4,.q),(5,.q),(6,.q),(7,.q),(8,.q),(9,.q),(10,.t),(11,.p)] (by kernel_rfl) (by kernel_rfl) (by kernel_rfl) (fun d _ _ _ _ h=>by cases d <;> exact h) (b1) ?_
    iterate 10 (refine wpMix_q rfl rfl (fun K hK=>?_); apply Exists.intro; refine ⟨fun w' hw'=>?_,?_⟩; (focus (go_simp; try rfl)); go_simp; refine hK _ _ ?_; clear hK K)
    refine wpMix_t rfl rfl (fun K hK=>?_);go_simp;refine (CQ2.out wr.drew.drew b1).mono ?_;rintro e w5 ⟨rfl,hb5⟩;dsimp only;refine hK.out _ _ ?_;clear hK K
    iterate 1 (refine wpMix_p rfl rfl (fun K hK=>?_); apply Exists.intro; refine ⟨fun w'=>?_,?_⟩; (focus (go_simp; try rfl)); go_simp; refine hK _ _ ?_; clear hK K)
    refine wpMix_nil ?_;have hw5:=Hd (bth hwr (bth b1 hb5));by_cases h2:z2 = 0
    ·
     have hst:=hex.out hmono.out (hqz.out.1 h2);have htk2:=Hd (show l.take (k + 1) = m.take (k + 1) by rw [hsn2.out,htn2.out,htk.out,hst]);subst h2;clear hst b0 b1 hb5;go_wp2;go_roundg (gk - 1)
     case rel=>exact ⟨k + 1,by have:=hk.out; show _ = _; omega,by go_num,htk2.out,hw5.out⟩
     case measure=>have:=hk.out; omega
    ·
     have hnst:s ≠ t:=fun e=>h2 (hqz.out.2 (by rw [e]))
     have hzz:(z2 != 0) = true:=by simpa using h2
     have hfin:=Hd (show z2 = 0 ↔ l = m from ⟨fun e=>absurd e h2,fun e=>absurd e (hne.out hnst)⟩);clear hnst b0 b1 hb5;replace h2:=Hd h2;go_wp2;go_ret;exact ⟨z2,rfl,hfin.out,hw5.out⟩
   ·
    have hzz:(z1 != 0) = true:=by simpa using h1
    have hfin:=Hd (show z1 = 0 ↔ l = m from ⟨fun e=>absurd e h1,fun e=>absurd e (hne.out (fun e=>hmz.out h1 e))⟩);replace h1:=Hd h1;go_wp2;refine wp_region_mix (S:=(fun W=>Below wr.heap.size wr W)) [(0,.q),(1,.q),(2,.q),(3,.q),(4,.q),(5,.q),(6,.q),(7,.q),(8,.q),(9,.q),(10,.t),(11,.p)] (by kernel_rfl) (by kernel_rfl) (by kernel_rfl) (fun d _ _ _ _ h=>by cases d <;> exact h) (b0) ?_
    iterate 10 (refine wpMix_q rfl rfl (fun K hK=>?_); apply Exists.intro; refine ⟨fun w' hw'=>?_,?_⟩; (focus (go_simp; try rfl)); go_simp; refine hK _ _ ?_; clear hK K)
    refine wpMix_t rfl rfl (fun K hK=>?_);go_simp;refine (CL2.out wr.drew b0).mono ?_;rintro e w' ⟨rfl,rfl⟩;dsimp only;refine hK.out _ _ ?_;clear hK K
    iterate 1 (refine wpMix_p rfl rfl (fun K hK=>?_); apply Exists.intro; refine ⟨fun w'=>?_,?_⟩; (focus (go_simp; try rfl)); go_simp; refine hK _ _ ?_; clear hK K)
    refine wpMix_nil ?_;go_wp2;go_ret;exact ⟨z1,rfl,hfin.out,bth hwr b0⟩
  ·
   have hkk:k = min l.length m.length:=by have:=hk.out; omega
   have hF:Hid (∀ z:Int,(z = -1 /\ l.length < m.length \/ z = 1 /\ m.length < l.length \/ z = 0 /\ l.length = m.length) -> (z = 0 ↔ l = m)):=Hd (by
    intro z hz;rcases hz with ⟨rfl,h⟩ | ⟨rfl,h⟩ | ⟨rfl,h⟩
    · exact ⟨fun e=>absurd e (by decide),fun e=>by subst e; omega⟩
    · exact ⟨fun e=>absurd e (by decide),fun e=>by subst e; omega⟩
    ·
     have:=htk.out;rw [List.take_of_length_le (by omega),List.take_of_length_le (by omega)] at this;exact ⟨fun _=>this,fun _=>rfl⟩)
   have hkl:¬ (k < l.length /\ k < m.length):=by omega
   clear hkk;by_cases c1:k < l.length
   ·
    have c2:¬ k < m.length:=fun h=>hkl ⟨c1,h⟩
    by_cases q1:l.length < m.length
    ·
     have q1d:decide (l.length < m.length) = true:=by simpa using q1
     have hz:=Hd (hF.out (-1) (.inl ⟨rfl,q1⟩));go_wp2;go_ret;exact ⟨-1,rfl,hz.out,hwr⟩
    ·
     have q1d:decide (l.length < m.length) = false:=by simpa using q1
     by_cases q2:m.length < l.length
     ·
      have q2d:decide (m.length < l.length) = true:=by simpa using q2
      have hz:=Hd (hF.out 1 (.inr (.inl ⟨rfl,q2⟩)));go_wp2;go_ret;exact ⟨1,rfl,hz.out,hwr⟩
     ·
      have q2d:decide (m.length < l.length) = false:=by simpa using q2
      have hz:=Hd ((hF.out 0 (.inr (.inr ⟨rfl,by omega⟩))).1 rfl);go_wp2;go_ret;exact ⟨0,rfl,⟨fun _=>hz.out,fun _=>rfl⟩,hwr⟩
   ·
    have c2:=c1;by_cases q1:l.length < m.length
    ·
     have q1d:decide (l.length < m.length) = true:=by simpa using q1
     have hz:=Hd (hF.out (-1) (.inl ⟨rfl,q1⟩));go_wp2;go_ret;exact ⟨-1,rfl,hz.out,hwr⟩
    ·
     have q1d:decide (l.length < m.length) = false:=by simpa using q1
     by_cases q2:m.length < l.length
     ·
      have q2d:decide (m.length < l.length) = true:=by simpa using q2
      have hz:=Hd (hF.out 1 (.inr (.inl ⟨rfl,q2⟩)));go_wp2;go_ret;exact ⟨1,rfl,hz.out,hwr⟩
     ·
      have q2d:decide (m.length < l.length) = false:=by simpa using q2
      have hz:=Hd ((hF.out 0 (.inr (.inr ⟨rfl,by omega⟩))).1 rfl);go_wp2;go_ret;exact ⟨0,rfl,⟨fun _=>hz.out,fun _=>rfl⟩,hwr⟩
theorem equalR6_any (l m:List Trm) (a b:Option Addr) (ca cb:Nat) (w:World) (h:PolyR w a ca l) (h':PolyR w b cb m) (hl:polyB l = true) (hm:polyB m = true) (fl:FewT l) (fm:FewT m) :
  Calls Tryz.prog 16 #[.slice a l.length ca,.slice b m.length cb] w fun e w'=>∃ q:Bool,e = .returned (.bool q) /\ (q = true ↔ l = m) /\ Below w.heap.size w w':=by
 have C:=Hd (cmpR6_any l m a b ca cb w h h' hl hm fl fm);clear h h' hl hm fl fm;go_enter Tryz.func16,Tryz.ntmps16;go_wp2_with fail;refine C.out.mono ?_;rintro e w1 ⟨z,rfl,hz,hb⟩;have hq:=Hd (show (z == 0) = true ↔ l = m by rw [beq_iff_eq]; exact hz);obtain ⟨q,hqe⟩:∃ q,(z == 0) = q:=⟨_,rfl⟩
 rw [hqe] at hq;clear hz;go_wp2;go_ret;exact ⟨q,rfl,hq.out,hb⟩
def EnvC (names:List ByteArray) (na:Option Addr) (nc:Nat) (W:World):Prop:=StrsR W na nc names /\ MaxL W /\ ErrW W /\ ErrS W /\ TabW W
theorem normP_len (l:List Tm):(normP l).length <= l.length:=by
 have key:∀ (l p:List Tm),(l.foldl (fun p t=>addP p (oneP t)) p).length <= p.length + l.length:=by
  intro l
  induction l with
  | nil=>intro p; simp
  | cons t l ih =>
   intro p;rw [List.foldl_cons,List.length_cons];have h1:=ih (addP p (oneP t));have h2:=addP_len p (oneP t);have h3:(oneP t).length <= 1:=by unfold oneP; split <;> simp
   omega
 have:=key l [];simpa [normP] using this
theorem wtP_len2 (l:List Tm):2 * l.length <= wtP l:=by
 unfold wtP
 induction l with
 | nil=>simp
 | cons t l ih =>
  rw [List.map_cons,List.sum_cons,List.length_cons];have:1 <= qsz t.1:=by
   have:=qsz_den t.1;have:=limbs_len_pos.2 (Nat.pos_of_ne_zero t.1.den_nz)
   omega
  omega
theorem readP_few {names:List ByteArray} {l:List UInt8} {p:List Tm} {r:List UInt8} (hW:Wok names l) (h:readP names l = .ok p r):p.length <= 500 /\ Pok 1048576 p:=by
 unfold readP at h;obtain ⟨L,s,h1,h2⟩:=bnd_ok h;injection h2 with h2 _
 have h3:=hW L s h1;have h4:=wtP_len2 L;have h5:=normP_len L;rw [h2] at h5;have h6:=(normP_ok (reaG_ok h1).2).1;rw [h2] at h6;exact ⟨by omega,h6⟩
def RetCp (X:Nat -> Prop) (G:Option (List Tm) × Int) (w:World) (e:Ending) (w':World):Prop:=∃ (a:Option Addr) (n c:Nat) (er:Int),e = .returned (.tuple #[.slice a n c,.int .i64 er]) /\ Below w.heap.size w w' /\
 (∀ p x,G = (some p,x) -> n = p.length /\ PolX X w' a c p /\ er = 0) /\ (∀ x,G = (none,x) -> er = x /\ x ≠ 0)
theorem polyC_any (X:Nat -> Prop) (g:Nat) (names:List ByteArray) (na:Option Addr) (nc:Nat) (s:ByteArray) (v1 v2 v3 v4 v5:Value) (w:World) (hX:∀ b,X b -> b < w.heap.size)
  (hg:Blk w g 87 #[.slice na names.length nc,v1,v2,v3,v4,v5]) (hE:∀ W,Below w.heap.size w W -> EnvC names na nc W) (hnz:∀ x ∈ names,x.size <= 1048576) (hnl:names.length <= 1000) (hs:s.size <= 281474976710656) (hW:Wok names s.data.toList) :
  Calls Tryz.prog 92 #[.pointer (some ⟨g,0,none⟩),.string s] w (RetCp X (polC names s.data.toList) w):=by
 have CR:=Hd (readX_any X s names na nc w (hE w brf).1 hnz hnl hs hW (hE w brf).2.2.1 hX);have HN:=Hd (fun W (hW:Below w.heap.size w W)=>(hE W hW).1);have HT:=Hd (fun W (hW:Below w.heap.size w W)=>(hE W hW).2.2.2.2);have HNZ:=Hd hnz;have HW:=Hd hW;obtain ⟨G,hG⟩:∃ G,polC names s.data.toList = G:=⟨_,rfl⟩
 rw [hG];unfold polC at hG;have z0:=hg.cell 0;have hl:=hg.lt;have HB:=Hd hg;clear hE hnz hW hg;go_enter Tryz.func92,Tryz.ntmps92;go_wp2_with fail;refine CR.out.mono ?_;rintro e w1 ⟨a,n,c,at_,er,rfl,hb1,hbad,hok⟩;clear CR;by_cases hn0:errNm names = 0
 ·
  have hok1:=hok hn0;rw [if_pos hn0] at hG;replace hn0:=Hd hn0;clear hok hbad
  cases hR:readP names s.data.toList with
  | bad k er2 =>
   rw [hR] at hok1 hG;obtain ⟨rfl,rfl,rfl,rfl,he0,hk⟩:=hok1;subst hG;have hne:(er != 0) = true:=by simpa using he0
   replace he0:=Hd he0;clear hR hk;go_wp2;go_ret2;exact ⟨none,0,0,er,rfl,hb1,(fun p x e=>by injection e with e; cases e),fun x e=>by injection e with _ e; exact ⟨e,by rw [<- e]; exact he0.out⟩⟩
  | ok p r =>
   rw [hR] at hok1 hG;obtain ⟨rfl,hP,rfl,rfl,hF⟩:=hok1;obtain ⟨hpl,hpk⟩:=readP_few HW.out hR;have hq:=hP.list;have hlm:(p.map trmOf).length = p.length:=List.length_map _;have hqb:=polyB_of hpk;have hpt:=printT_of (names:=names) hqb;rw [map_of] at hpt;have CP:=fun W (hW:Below w1.heap.size w1 W)=>printS_any (p.map trmOf) names a na c nc W (hq.ext (xbw hW)) (few_of hF) (by rw [hlm]; omega) (HN.out W (bth hb1 hW)) hnl HNZ.out (HT.out W (bth hb1 hW))
   rw [hpt,hlm] at CP;dsimp only at hG;obtain ⟨T,hT⟩:∃ T,printT names p = T:=⟨_,rfl⟩
   rw [hT] at CP hG;obtain ⟨t,te⟩:=T;dsimp only at CP;replace CP:=Hd CP;have z1:=(HB.out.below' hb1).cell 0;have hl1:=(HB.out.below' hb1).lt;replace hP:=Hd hP;obtain ⟨n,hn⟩:∃ n,p.length = n:=⟨_,rfl⟩
   rw [hn] at CP ⊢;have hn':=Hd hn;clear z0 hl hR hF hpl hpk hq hlm hqb hpt hT hn;go_wp2_with fail;refine (CP.out w1 brf).mono ?_;rintro e w2 ⟨rfl,hb2⟩;clear CP;by_cases he0:te = 0
   ·
    subst he0;obtain ⟨b,hb⟩:∃ b,((ofL t).toList == s.toList) = b:=⟨_,rfl⟩
    have hb':=hb;rw [str_beq] at hb'
    cases b
    ·
     have hbn:((ofL t).toList != s.toList) = true:=by rw [bne,hb]; rfl
     rw [decide_eq_false_iff_not] at hb';rw [if_neg (fun e=>hb' (by injection e with e _; rw [e,ofL_data]))] at hG;subst hG;replace hb':=Hd hb';go_wp2;go_ret2;exact ⟨none,0,0,9,rfl,bth hb1 hb2,(fun p x e=>by injection e with e; cases e),fun x e=>by injection e with _ e; exact ⟨e,by rw [<- e]; decide⟩⟩
    ·
     have hbn:((ofL t).toList != s.toList) = false:=by rw [bne,hb]; rfl
     rw [decide_eq_true_iff] at hb';rw [if_pos (show (t,(0:Int)) = (s.data.toList,0) by rw [<- hb',data_ofL])] at hG;subst hG;replace hb':=Hd hb';have hP2:=Hd (hP.out.call hb2);go_wp2;go_ret2;exact ⟨a,n,c,0,rfl,bth hb1 hb2,(fun q x e=>by injection e with e _; injection e with e; subst e; exact ⟨hn'.out.symm,hP2.out,rfl⟩),fun x e=>by injection e with e _; cases e⟩
   ·
    have hne:(te != 0) = true:=by simpa using he0
    rw [if_neg (fun e=>he0 (by injection e))] at hG;subst hG;replace he0:=Hd he0;go_wp2;go_ret2;exact ⟨none,0,0,9,rfl,bth hb1 hb2,(fun p x e=>by injection e with e; cases e),fun x e=>by injection e with _ e; exact ⟨e,by rw [<- e]; decide⟩⟩
 ·
  obtain ⟨rfl,rfl,rfl,rfl⟩:=hbad hn0;rw [if_neg hn0] at hG;subst hG;obtain ⟨er,her⟩:∃ er,errNm names = er:=⟨_,rfl⟩
  simp only [her] at hn0 ⊢;have hne:(er != 0) = true:=by simpa using hn0
  replace hn0:=Hd hn0; replace her:=Hd her;clear hok hbad;go_wp2;go_ret2;exact ⟨none,0,0,er,rfl,hb1,(fun p x e=>by injection e with e; cases e),fun x e=>by injection e with _ e; have e2:=her.out.symm.trans e; exact ⟨e2,by rw [<- e2]; exact hn0.out⟩⟩
end Go.Proofs.YtkjnkpkagcboeaaGreatDoor
namespace Go.Proofs.YtkjnkpkagcboeaaGreatDoor
open Go.ChangeShapes Go.WideShapes Go.ChangeAt Go.RowKit
theorem len2 {α:Type} {l:List α} (h:l.length = 2):∃ x0 x1,l = [x0,x1]:=by
 match l,h with
 | [x0,x1],_=>exact ⟨x0,x1,rfl⟩
theorem len3 {α:Type} {l:List α} (h:l.length = 3):∃ x0 x1 x2,l = [x0,x1,x2]:=by
 match l,h with
 | [x0,x1,x2],_=>exact ⟨x0,x1,x2,rfl⟩
theorem len4 {α:Type} {l:List α} (h:l.length = 4):∃ x0 x1 x2 x3,l = [x0,x1,x2,x3]:=by
 match l,h with
 | [x0,x1,x2,x3],_=>exact ⟨x0,x1,x2,x3,rfl⟩
theorem list_choose {α β:Type} {p:Nat -> β -> α -> Prop} (l:List β) (h:∀ i y,l[i]? = some y -> ∃ z,p i y z) :
  ∃ zs:List α,zs.length = l.length /\ ∀ (i:Nat) (z:α),zs[i]? = some z -> ∃ y,l[i]? = some y /\ p i y z:=by
 induction l generalizing p with
 | nil=>exact ⟨[],rfl,fun i z hz=>by simp at hz⟩
 | cons x l ih =>
  obtain ⟨z0,h0⟩:=h 0 x rfl;obtain ⟨zs,hl,hz⟩:=ih (p:=fun i=>p (i + 1)) (fun i y hy=>h (i + 1) y (by simpa using hy));refine ⟨z0 :: zs,by simp [hl],fun i z hi=>?_⟩
  cases i with
  | zero=>simp at hi; subst hi; exact ⟨x,rfl,h0⟩
  | succ i=>simpa using hz i z (by simpa using hi)
theorem sum_le_bulk {H α:Type} (size:α -> Nat):∀ (ds:List (DataW H)) (zs:List α),zs.length = ds.length -> (∀ (i:Nat) (z:α) (d:DataW H),zs[i]? = some z -> ds[i]? = some d -> size z <= Rows.uptoBulk d) ->
  (zs.map size).sum <= Rows.uptoBulkAll ds
 | [],zs,hl,_=>by
  have:zs = []:=List.eq_nil_of_length_eq_zero (by simpa using hl);subst this; simp
 | d :: ds,[],hl,_=>by simp at hl
 | d :: ds,z :: zs,hl,h=>by
  have h0:=h 0 z d rfl rfl;have h1:=sum_le_bulk size ds zs (by simpa using hl) (fun i z d hz hd=>h (i + 1) z d (by simpa using hz) (by simpa using hd));simp only [List.map_cons,List.sum_cons,Rows.uptoBulkAll]
  omega
section
variable {H : Type} {enc : TypeId × Value -> H} {P : Program} {W : World} {sp : Nat -> Bool} {held : Bool}
theorem open_sl {t e:TypeId} {sz fuel:Nat} {cs:List Value} {x:DataW H × List MemPlace} (ht:P.underlying t = some (.slice e)) (hc:P.cellsOf e = sz) (hs:0 < sz)
  (h:DataW.trod enc P W 0 sp held fuel t cs = some x) {α:Type} (E:World -> Nat -> Nat -> α -> Prop) (size:α -> Nat)
  (conv:∀ n cs' y b o,n < fuel -> DataW.trod enc P W 0 sp held n e cs' = some y -> cs'.length = sz -> (∀ j,j < sz -> W.cell? ⟨b,o + j,none⟩ = cs'[j]?) -> ∃ z,E W b o z /\ size z <= Rows.uptoBulk y.1) :
  ∃ (a:Option Addr) (cap:Nat) (zs:List α),cs = [.slice a zs.length cap] /\ SlR sz E W a cap zs /\ (zs.map size).sum + 1 <= Rows.uptoBulk x.1:=by
 rcases DataW.trod_slice ht h with ⟨rfl,rfl⟩ | ⟨a,len,cap,elems,rest,n,hn,rfl,rfl,_,hl,hm,hlen,hel,_,_⟩
 · exact ⟨none,0,[],rfl,SlR.nil,by simp [Rows.uptoBulk]⟩
 ·
  rw [hc] at hel;have key:∀ i y,elems[i]? = some y -> ∃ z,(∃ b off,a = ⟨b,off,none⟩ /\ E W b (off + i * sz) z) /\ size z <= Rows.uptoBulk y.1:=by
   intro i y hy;have hi:i < len:=by rw [<- hlen]; exact lt_of_get hy
   have h1:=hel i hi;rw [hy] at h1;obtain ⟨cs',hcs,hty⟩:=Option.bind_eq_some_iff.1 h1;obtain ⟨_,hl',hcell⟩:=World.cells?_some hcs;have hspot:∃ b off,a = ⟨b,off,none⟩:=by
    have h0:=hcell 0 hs;rw [List.getElem?_eq_getElem (by omega)] at h0;have:=World.cell?_spot h0;obtain ⟨b,off,spot⟩:=a;by_cases hi0:i * sz = 0
    ·
     simp [Addr.add,hi0] at this;subst this;exact ⟨b,off,rfl⟩
    ·
     have h2:=hel 0 (by omega);obtain ⟨y0,hy0⟩:=get_of_lt (xs:=elems) (k:=0) (by omega);rw [hy0] at h2;obtain ⟨cs0,hcs0,_⟩:=Option.bind_eq_some_iff.1 h2;obtain ⟨_,hl0,hcell0⟩:=World.cells?_some hcs0;have h3:=hcell0 0 hs;rw [List.getElem?_eq_getElem (by omega)] at h3;have:=World.cell?_spot h3;simp [Addr.add] at this;subst this;exact ⟨b,off,rfl⟩
   obtain ⟨b,off,rfl⟩:=hspot;obtain ⟨z,hz,hsz⟩:=conv n cs' y b (off + i * sz) (by omega) hty hl' (fun j hj=>by
    rw [<- hcell j hj,add_plain,add_plain])
   exact ⟨z,⟨b,off,rfl,hz⟩,hsz⟩
  obtain ⟨zs,hzl,hz⟩:=list_choose (p:=fun i y z=>(∃ b off,a = ⟨b,off,none⟩ /\ E W b (off + i * sz) z) /\ size z <= Rows.uptoBulk y.1) elems key;refine ⟨some a,cap,zs,by rw [hzl,hlen],⟨by omega,hm,fun k z hk=>?_⟩,?_⟩
  ·
   obtain ⟨y,hy,⟨b,off,rfl,he⟩,_⟩:=hz k z hk;exact ⟨b,off,rfl,he⟩
  ·
   have h1:=sum_le_bulk size (elems.map (·.1)) zs (by simpa using hzl) (fun i z d hzi hd=>by
    obtain ⟨y,hy,_,hs⟩:=hz i z hzi;rw [List.getElem?_map,hy] at hd;simp at hd; subst hd; exact hs)
   simp only [Rows.uptoBulk]
   omega
end
theorem conv_int {H:Type} {enc:TypeId × Value -> H} {P:Program} {W:World} {sp:Nat -> Bool} {held:Bool} {e:TypeId} {k:IntKind} (he:P.underlying e = some (.int k)) (n:Nat) (cs':List Value) (y:DataW H × List MemPlace) (b o:Nat)
  (h:DataW.trod enc P W 0 sp held n e cs' = some y) (hc:∀ j,j < 1 -> W.cell? ⟨b,o + j,none⟩ = cs'[j]?):∃ z,IntE k W b o z /\ 1 <= Rows.uptoBulk y.1:=by
 obtain ⟨z,rfl,rfl,hw⟩:=DataW.trod_int he h;exact ⟨z,⟨by have:=hc 0 (by omega); simpa using this,hw⟩,by simp [Rows.uptoBulk]⟩
theorem conv_str {H:Type} {enc:TypeId × Value -> H} {P:Program} {W:World} {sp:Nat -> Bool} {held:Bool} {e:TypeId} (he:P.underlying e = some .string) (n:Nat) (cs':List Value) (y:DataW H × List MemPlace) (b o:Nat)
  (h:DataW.trod enc P W 0 sp held n e cs' = some y) (hc:∀ j,j < 1 -> W.cell? ⟨b,o + j,none⟩ = cs'[j]?):∃ z:ByteArray,StrE W b o z /\ z.size + 1 <= Rows.uptoBulk y.1:=by
 obtain ⟨z,rfl,rfl,hw⟩:=DataW.trod_string he h;exact ⟨z,by have:=hc 0 (by omega); simpa [StrE] using this,by simp [Rows.uptoBulk]⟩
end Go.Proofs.YtkjnkpkagcboeaaGreatDoor
namespace Go.Proofs.YtkjnkpkagcboeaaGreatDoor
open Go.ChangeShapes Go.WideShapes Go.ChangeAt Go.RowKit
theorem cellsRat:Tryz.prog.cellsOf 54 = 3:=by kernel_rfl
theorem cellsInt:Tryz.prog.cellsOf 52 = 2:=by kernel_rfl
theorem cellsNat:Tryz.prog.cellsOf 50 = 1:=by kernel_rfl
theorem cellsB:Tryz.prog.cellsOf 4 = 1:=by kernel_rfl
theorem cellsU16:Tryz.prog.cellsOf 47 = 1:=by kernel_rfl
theorem list_sum_ones {α:Type} (l:List α):(l.map fun _=>1).sum = l.length:=by induction l with
 | nil=>rfl
 | cons x l ih=>simp only [List.map_cons,List.sum_cons,ih,List.length_cons]; omega
section
variable {H : Type} {enc : TypeId × Value -> H} {W : World} {sp : Nat -> Bool} {held : Bool} {n : Nat}
theorem open_nat {cs:List Value} {y:DataW H × List MemPlace} (h:DataW.trod enc Tryz.prog W 0 sp held n 50 cs = some y) :
  ∃ a c zs,cs = [.slice a (List.length zs) c] /\ NatR W a c zs /\ zs.length + 1 <= Rows.uptoBulk y.1:=by
 obtain ⟨a,c,zs,h1,h2,h3⟩:=open_sl Tryz.underlying50 cellsU16 (by omega) h (IntE .u16) (fun _=>1) (fun m cs' y b o _ ht _ hc=>conv_int Tryz.underlying47 m cs' y b o ht hc);rw [list_sum_ones] at h3;exact ⟨a,c,zs,h1,h2,h3⟩
theorem open_intst {cs:List Value} {y:DataW H × List MemPlace} (h:DataW.trod enc Tryz.prog W 0 sp held n 52 cs = some y) :
  ∃ b a c zs,cs = [.bool b,.slice a (List.length zs) c] /\ NatR W a c zs /\ zs.length + 2 <= Rows.uptoBulk y.1:=by
 obtain ⟨xs,m,rfl,rfl,hcl,hxl,hf⟩:=DataW.trod_struct Tryz.underlying52 h;rw [cellsInt] at hcl;obtain ⟨c0,c1,rfl⟩:=len2 hcl;obtain ⟨y0,y1,rfl⟩:=len2 (show xs.length = 2 from hxl)
 ·
  have h0:=hf 0 _ rfl;have h1:=hf 1 _ rfl;simp [cellsB,cellsNat] at h0 h1;obtain ⟨b,e0,rfl⟩:=DataW.trod_bool Tryz.underlying4 h0;obtain ⟨a,c,zs,e1,h2,h3⟩:=open_nat h1;simp at e0 e1; subst e0; subst e1;refine ⟨b,a,c,zs,rfl,h2,?_⟩;simp [Rows.uptoBulk,Rows.uptoBulkAll] at h3 ⊢
  omega
theorem open_rat {cs:List Value} {y:DataW H × List MemPlace} (h:DataW.trod enc Tryz.prog W 0 sp held n 54 cs = some y) :
  ∃ b na nc num da dc den,cs = [.bool b,.slice na (List.length num) nc,.slice da (List.length den) dc] /\ NatR W na nc num /\ NatR W da dc den /\ num.length + den.length + 2 <= Rows.uptoBulk y.1:=by
 obtain ⟨xs,m,rfl,rfl,hcl,hxl,hf⟩:=DataW.trod_struct Tryz.underlying54 h;rw [cellsRat] at hcl;obtain ⟨c0,c1,c2,rfl⟩:=len3 hcl;obtain ⟨y0,y1,rfl⟩:=len2 (show xs.length = 2 from hxl)
 ·
  have h0:=hf 0 _ rfl;have h1:=hf 1 _ rfl;simp [cellsInt,cellsNat] at h0 h1;obtain ⟨b,na,nc,num,e0,h2,h3⟩:=open_intst h0;obtain ⟨da,dc,den,e1,h4,h5⟩:=open_nat h1;simp at e0 e1;obtain ⟨rfl,rfl⟩:=e0;subst e1;refine ⟨b,na,nc,num,da,dc,den,rfl,h2,h4,?_⟩;simp [Rows.uptoBulk,Rows.uptoBulkAll] at h3 h5 ⊢
  omega
end
end Go.Proofs.YtkjnkpkagcboeaaGreatDoor
namespace Go.Proofs.YtkjnkpkagcboeaaGreatDoor
open Go.ChangeShapes Go.WideShapes Go.ChangeAt Go.RowKit
theorem cellsInts:Tryz.prog.cellsOf 38 = 1:=by kernel_rfl
theorem cellsI:Tryz.prog.cellsOf 3 = 1:=by kernel_rfl
theorem cellsS:Tryz.prog.cellsOf 9 = 1:=by kernel_rfl
section
variable {H : Type} {enc : TypeId × Value -> H} {W : World} {sp : Nat -> Bool} {held : Bool} {n : Nat}
theorem open_intsl {cs:List Value} {y:DataW H × List MemPlace} (h:DataW.trod enc Tryz.prog W 0 sp held n 38 cs = some y) :
  ∃ a c zs,cs = [.slice a (List.length zs) c] /\ IntsR W a c zs /\ zs.length + 1 <= Rows.uptoBulk y.1:=by
 obtain ⟨a,c,zs,h1,h2,h3⟩:=open_sl Tryz.underlying38 cellsI (by omega) h (IntE .i64) (fun _=>1) (fun m cs' y b o _ ht _ hc=>conv_int Tryz.underlying3 m cs' y b o ht hc);rw [list_sum_ones] at h3;exact ⟨a,c,zs,h1,h2,h3⟩
theorem open_strsl {cs:List Value} {y:DataW H × List MemPlace} (h:DataW.trod enc Tryz.prog W 0 sp held n 24 cs = some y) :
  ∃ a c zs,cs = [.slice a (List.length zs) c] /\ StrsR W a c zs /\ (zs.map fun s=>s.size + 1).sum + 1 <= Rows.uptoBulk y.1 :=
 open_sl Tryz.underlying24 cellsS (by omega) h StrE (fun s=>s.size + 1) (fun m cs' y b o _ ht _ hc=>conv_str Tryz.underlying9 m cs' y b o ht hc)
end
end Go.Proofs.YtkjnkpkagcboeaaGreatDoor
namespace Go.Proofs.YtkjnkpkagcboeaaGreatDoor
open Go.ChangeShapes Go.WideShapes Go.ChangeAt Go.RowKit
theorem cellsTerm:Tryz.prog.cellsOf 57 = 4:=by kernel_rfl
theorem cellsMono:Tryz.prog.cellsOf 55 = 1:=by kernel_rfl
theorem cellsPoly:Tryz.prog.cellsOf 23 = 1:=by kernel_rfl
theorem cellsPolys:Tryz.prog.cellsOf 37 = 1:=by kernel_rfl
theorem cellsCrt:Tryz.prog.cellsOf 40 = 4:=by kernel_rfl
section
variable {H : Type} {enc : TypeId × Value -> H} {W : World} {sp : Nat -> Bool} {held : Bool}
theorem open_mono {n:Nat} {cs:List Value} {y:DataW H × List MemPlace} (h:DataW.trod enc Tryz.prog W 0 sp held n 55 cs = some y) :
  ∃ a c zs,cs = [.slice a (List.length zs) c] /\ IntsR W a c zs:=by
 obtain ⟨a,c,zs,h1,h2,_⟩:=open_sl Tryz.underlying55 cellsI (by omega) h (IntE .i64) (fun _=>1) (fun m cs' y b o _ ht _ hc=>conv_int Tryz.underlying3 m cs' y b o ht hc);exact ⟨a,c,zs,h1,h2⟩
theorem open_term {n:Nat} {cs:List Value} {y:DataW H × List MemPlace} (h:DataW.trod enc Tryz.prog W 0 sp held n 57 cs = some y) :
  ∃ (t:Trm) (p:RA),cs = [.bool t.coef.neg,.slice p.na t.coef.num.length p.nc,.slice p.da t.coef.den.length p.dc,.slice p.aa t.mono.length p.ac] /\ PartsR W p t.mono t.coef:=by
 obtain ⟨xs,m,rfl,rfl,hcl,hxl,hf⟩:=DataW.trod_struct Tryz.underlying57 h;rw [cellsTerm] at hcl;obtain ⟨c0,c1,c2,c3,rfl⟩:=len4 hcl;obtain ⟨y0,y1,rfl⟩:=len2 (show xs.length = 2 from hxl)
 ·
  have h0:=hf 0 _ rfl;have h1:=hf 1 _ rfl;simp [cellsRat,cellsMono] at h0 h1;obtain ⟨neg,na,nc,num,da,dc,den,e0,r3,r4,_⟩:=open_rat h0;obtain ⟨aa,ac,mono,e1,r2⟩:=open_mono h1;simp at e0 e1;obtain ⟨rfl,rfl,rfl⟩:=e0;subst e1;exact ⟨⟨⟨neg,num,den⟩,mono⟩,⟨aa,ac,na,nc,da,dc⟩,rfl,r2,r3,r4⟩
theorem open_poly {n:Nat} {cs:List Value} {y:DataW H × List MemPlace} (h:DataW.trod enc Tryz.prog W 0 sp held n 23 cs = some y) :
  ∃ a c zs,cs = [.slice a (List.length zs) c] /\ PolyR W a c zs:=by
 obtain ⟨a,c,zs,h1,h2,_⟩:=open_sl Tryz.underlying23 cellsTerm (by omega) h TrmE (fun _=>0) (fun m cs' y b o _ ht _ hc=>by
   obtain ⟨t,p,rfl,hP⟩:=open_term ht;refine ⟨t,⟨p,⟨?_,?_,?_,?_⟩,hP⟩,by omega⟩
   · have:=hc 0 (by omega); simpa using this
   · have:=hc 1 (by omega); simpa using this
   · have:=hc 2 (by omega); simpa using this
   · have:=hc 3 (by omega); simpa using this)
 exact ⟨a,c,zs,h1,h2⟩
theorem open_polys {n:Nat} {cs:List Value} {y:DataW H × List MemPlace} (h:DataW.trod enc Tryz.prog W 0 sp held n 37 cs = some y) :
  ∃ a c zs,cs = [.slice a (List.length zs) c] /\ PolysR W a c zs:=by
 obtain ⟨a,c,zs,h1,h2,_⟩:=open_sl Tryz.underlying37 cellsPoly (by omega) h PolyE (fun _=>0) (fun m cs' y b o _ ht _ hc=>by
   obtain ⟨a,c,zs,rfl,hP⟩:=open_poly ht;exact ⟨zs,⟨a,c,by have:=hc 0 (by omega); simpa using this,hP⟩,by omega⟩)
 exact ⟨a,c,zs,h1,h2⟩
theorem open_certificate {r:Reach} {b0:Nat} {v:Value} {d:DataW H} {p:List MemPlace} (hv:Value.okWide Tryz.prog W r b0 40 v) (h:DataW.Trod enc Tryz.prog W 0 sp held 40 v d p) :
  ∃ (c:Crt) (p:CA),v = c.val p /\ CrtR W p c:=by
 obtain ⟨cs,rfl,_⟩:=okWide_struct Tryz.underlying40 hv;obtain ⟨n,hn⟩:=h;obtain ⟨l⟩:=cs;obtain ⟨xs,m,rfl,_,hcl,hxl,hf⟩:=DataW.trod_struct Tryz.underlying40 hn;rw [cellsCrt] at hcl;obtain ⟨c0,c1,c2,c3,hcs⟩:=len4 hcl;simp only [Value.cells] at hcs;have hcs':l = [c0,c1,c2,c3]:=by simpa using hcs
 subst hcs';obtain ⟨y0,y1,y2,y3,rfl⟩:=len4 (show xs.length = 4 from hxl)
 ·
  have h0:=hf 0 _ rfl;have h1:=hf 1 _ rfl;have h2:=hf 2 _ rfl;have h3:=hf 3 _ rfl;simp [Value.cells,cellsPolys,cellsInts,cellsI] at h0 h1 h2 h3;obtain ⟨fa,fc,F,e0,r0⟩:=open_polys h0;obtain ⟨wa,wc,P,e1,r1,_⟩:=open_intsl h1;obtain ⟨pw,e2,rfl,w2⟩:=DataW.trod_int Tryz.underlying3 h2;obtain ⟨ca,cc,C,e3,r3⟩:=open_polys h3;simp at e0 e1 e2 e3;subst e0 e1 e2 e3;exact ⟨⟨F,P,pw,C⟩,⟨fa,fc,wa,wc,ca,cc⟩,rfl,r0,r1,r3,inInt_of w2⟩
end
end Go.Proofs.YtkjnkpkagcboeaaGreatDoor
namespace Go.Proofs.YtkjnkpkagcboeaaGreatDoor
open Go.RowKit Go.WideShapes Go.ChangeAt
abbrev InS30 (w:World) (u:Value) (m:Nat):Prop:=∃ (l:List ByteArray) (a:Option Addr) (c:Nat),u = .slice a l.length c /\ StrsR w a c l /\ (l.map fun s=>s.size + 1).sum + 1 <= m
theorem envC_of {w:World} {names:List ByteArray} {na:Option Addr} {nc:Nat} (h:StrsR w na nc names) (hM:MaxL w) (he:ErrW w) (hy:ErrS w) (ht:TabW w):∀ W,Below w.heap.size w W -> EnvC names na nc W :=
 fun W hW=>⟨h.ext (xbw hW),hM.ext (xbw hW),he.below hW,hy.below hW,ht.below hW⟩
end Go.Proofs.YtkjnkpkagcboeaaGreatDoor
namespace Go.Proofs.YtkjnkpkagcboeaaGreatDoor
open Go.RowKit
def Bk (a:Option Addr) (b:Nat):Prop:=∃ q:Addr,a = some q /\ b = q.block
def Dj (a a':Option Addr):Prop:=∀ b,Bk a b -> ¬ Bk a' b
def Xc (g:Nat) (fa wa ca:Option Addr):Nat -> Prop:=fun b=>b <= g \/ Bk fa b \/ Bk wa b \/ Bk ca b
theorem AllP.less {X Y:Nat -> Prop} {w:World} {hs:List PQ} {ps:List (List Tm)} (h:AllP X w hs ps) (e:∀ b,Y b -> X b):AllP Y w hs ps :=
 ⟨h.1,fun k s p h1 h2=>⟨(h.2 k s p h1 h2).1,(h.2 k s p h1 h2).2.map fun _ r=>r.less e⟩⟩
structure CrRows (g : Nat) (w : World) (F : List (List Tm)) (P : List Int) (C : List (List Tm)) (fa : Option Addr) (fc : Nat) (hf : List PQ) (wa : Option Addr) (wc : Nat) (ca : Option Addr) (cc : Nat) (hc : List PQ) : Prop where
 oF:OwnPq (g + 1) w fa fc hf
 oP:OwnI (g + 1) w wa wc P
 oC:OwnPq (g + 1) w ca cc hc
 aF:AllP (Xc g fa wa ca) w hf F
 aC:AllP (Xc g fa wa ca) w hc C
 dFP:Dj fa wa
 dFC:Dj fa ca
 dPC:Dj wa ca
theorem own_le {α:Type} {f:α -> List Value} {sz:Nat} {ty:TypeId} {B g:Nat} {w w':World} {a:Option Addr} {c:Nat} {l:List α} (h:Own f sz ty B w a c l) (k:Fr (fun b=>b <= g) w w') (hg:g < B):Own f sz ty B w' a c l:=by
 refine ⟨h.1,?_⟩;rcases h.2 with hn | ⟨q,cap,cur,e,hq,hh,rest⟩
 · exact .inl hn
 · exact .inr ⟨q,cap,cur,e,hq,(k.block q (Array.getElem?_eq_some_iff.1 hh).1 (by show ¬ q <= g; omega)).trans hh,rest⟩
theorem dj_none (a:Option Addr):Dj none a:=by rintro b ⟨q,h,_⟩; cases h
theorem Dj.symm {a a':Option Addr} (h:Dj a a'):Dj a' a:=fun b h1 h2=>h b h2 h1
theorem own_ne {a a':Option Addr} (h:Dj a a') {n c:Nat}:∀ q:Addr,a' = some q -> Value.ownBlock (.slice a n c) ≠ some q.block:=by
 rintro q rfl e
 cases a with
 | none=>simp [Value.ownBlock] at e
 | some p=>simp [Value.ownBlock] at e; exact h p.block ⟨p,rfl,rfl⟩ ⟨q,rfl,e⟩
theorem dj_app {w:World} {α:Type} {f:α -> List Value} {sz:Nat} {t:TypeId} {B c:Nat} {l:List α} {a a' b:Option Addr} (h:Dj a b) (ho:Own f sz t B w b c l) (ha:∃ g,a' = some ⟨g,0,none⟩ /\ (a = some ⟨g,0,none⟩ \/ g = w.heap.size)):Dj a' b:=by
 obtain ⟨k,rfl,h2⟩:=ha;rintro x ⟨q,hq,rfl⟩ ⟨p,hp,e⟩;injection hq with hq
 subst hq;rcases h2 with h2 | h2
 · exact h k ⟨_,h2,rfl⟩ ⟨p,hp,e⟩
 ·
  have:=(ho.lt hp).2;have e:k = p.block:=e
  omega
section
variable {g : Nat} {w w' : World} {F C : List (List Tm)} {P : List Int} {fa fa' wa wa' ca ca' : Option Addr} {fc fc' wc wc' cc cc' n : Nat} {hf hc : List PQ}
theorem xc_f {b:Nat}:Xr (fun b=>b <= g \/ Bk wa b \/ Bk ca b) fa b ↔ Xc g fa wa ca b:=by
 constructor
 ·
  rintro ((h | h | h) | h)
  · exact .inl h
  · exact .inr (.inr (.inl h))
  · exact .inr (.inr (.inr h))
  · exact .inr (.inl h)
 ·
  rintro (h | h | h | h)
  · exact .inl (.inl h)
  · exact .inr h
  · exact .inl (.inr (.inl h))
  · exact .inl (.inr (.inr h))
theorem xc_p {b:Nat}:Xr (fun b=>b <= g \/ Bk fa b \/ Bk ca b) wa b ↔ Xc g fa wa ca b:=by
 constructor
 ·
  rintro ((h | h | h) | h)
  · exact .inl h
  · exact .inr (.inl h)
  · exact .inr (.inr (.inr h))
  · exact .inr (.inr (.inl h))
 ·
  rintro (h | h | h | h)
  · exact .inl (.inl h)
  · exact .inl (.inr (.inl h))
  · exact .inr h
  · exact .inl (.inr (.inr h))
theorem xc_c {b:Nat}:Xr (fun b=>b <= g \/ Bk fa b \/ Bk wa b) ca b ↔ Xc g fa wa ca b:=by
 constructor
 ·
  rintro ((h | h | h) | h)
  · exact .inl h
  · exact .inr (.inl h)
  · exact .inr (.inr (.inl h))
  · exact .inr (.inr (.inr h))
 ·
  rintro (h | h | h | h)
  · exact .inl (.inl h)
  · exact .inl (.inr (.inl h))
  · exact .inl (.inr (.inr h))
  · exact .inr h
theorem CrRows.nil:CrRows g w [] [] [] none 0 [] none 0 none 0 []:=⟨Own.nil,Own.nil,Own.nil,⟨rfl,fun k s p h=>by simp at h⟩,⟨rfl,fun k s p h=>by simp at h⟩,dj_none _,dj_none _,dj_none _⟩
variable (h : CrRows g w F P C fa fc hf wa wc ca cc hc)
include h
theorem CrRows.call (hb:Below w.heap.size w w'):CrRows g w' F P C fa fc hf wa wc ca cc hc:=⟨h.oF.below hb,h.oP.below hb,h.oC.below hb,h.aF.call hb,h.aC.call hb,h.dFP,h.dFC,h.dPC⟩
theorem CrRows.fr (k:Fg g w w'):CrRows g w' F P C fa fc hf wa wc ca cc hc :=
 ⟨own_fr h.oF k (Nat.lt_succ_self _),own_fr h.oP k (Nat.lt_succ_self _),own_fr h.oC k (Nat.lt_succ_self _),h.aF.step (k.agr.mono fun b hb=>.inl (Nat.le_of_eq hb)),h.aC.step (k.agr.mono fun b hb=>.inl (Nat.le_of_eq hb)),h.dFP,h.dFC,h.dPC⟩
theorem CrRows.fr2 (k:Fr (fun b=>b <= g) w w'):CrRows g w' F P C fa fc hf wa wc ca cc hc :=
 ⟨own_le h.oF k (Nat.lt_succ_self _),own_le h.oP k (Nat.lt_succ_self _),own_le h.oC k (Nat.lt_succ_self _),h.aF.step (k.agr.mono fun b hb=>.inl hb),h.aC.step (k.agr.mono fun b hb=>.inl hb),h.dFP,h.dFC,h.dPC⟩
theorem CrRows.xlt (hg:g < w.heap.size):∀ b,Xc g fa wa ca b -> b < w.heap.size:=by
 rintro b (hb | ⟨q,hq,rfl⟩ | ⟨q,hq,rfl⟩ | ⟨q,hq,rfl⟩)
 · exact Nat.lt_of_le_of_lt hb hg
 · exact (h.oF.lt hq).2
 · exact (h.oP.lt hq).2
 · exact (h.oC.lt hq).2
theorem CrRows.pushF {s:PQ} {p:List Tm} (hg:w.grownBy w' (Value.ownBlock (.slice fa n fc))) (ho:OwnPq (g + 1) w' fa' fc' (hf ++ [s])) (ha:∃ g,fa' = some ⟨g,0,none⟩ /\ (fa = some ⟨g,0,none⟩ \/ g = w.heap.size)) (hp:PolX (Xc g fa wa ca) w s.a s.c p) (hn:s.n = p.length) :
  CrRows g w' (F ++ [p]) P C fa' fc' (hf ++ [s]) wa wc ca cc hc :=
 ⟨ho,h.oP.grown hg (own_ne h.dFP),h.oC.grown hg (own_ne h.dFC),
  (((h.aF.push hn hp).less fun b hb=>xc_f.1 hb).app hg ha).less fun b hb=>xc_f.2 hb,
  ((h.aC.less fun b hb=>xc_f.1 hb).app hg ha).less fun b hb=>xc_f.2 hb,dj_app h.dFP h.oP ha,dj_app h.dFC h.oC ha,h.dPC⟩
theorem CrRows.pushP {x:Int} (hg:w.grownBy w' (Value.ownBlock (.slice wa n wc))) (ho:OwnI (g + 1) w' wa' wc' (P ++ [x])) (ha:∃ g,wa' = some ⟨g,0,none⟩ /\ (wa = some ⟨g,0,none⟩ \/ g = w.heap.size)) :
  CrRows g w' F (P ++ [x]) C fa fc hf wa' wc' ca cc hc :=
 ⟨h.oF.grown hg (own_ne h.dFP.symm),ho,h.oC.grown hg (own_ne h.dPC),
  ((h.aF.less fun b hb=>xc_p.1 hb).app hg ha).less fun b hb=>xc_p.2 hb,
  ((h.aC.less fun b hb=>xc_p.1 hb).app hg ha).less fun b hb=>xc_p.2 hb,(dj_app h.dFP.symm h.oF ha).symm,h.dFC,dj_app h.dPC h.oC ha⟩
theorem CrRows.pushC {s:PQ} {p:List Tm} (hg:w.grownBy w' (Value.ownBlock (.slice ca n cc))) (ho:OwnPq (g + 1) w' ca' cc' (hc ++ [s])) (ha:∃ g,ca' = some ⟨g,0,none⟩ /\ (ca = some ⟨g,0,none⟩ \/ g = w.heap.size)) (hp:PolX (Xc g fa wa ca) w s.a s.c p) (hn:s.n = p.length) :
  CrRows g w' F P (C ++ [p]) fa fc hf wa wc ca' cc' (hc ++ [s]) :=
 ⟨h.oF.grown hg (own_ne h.dFC.symm),h.oP.grown hg (own_ne h.dPC.symm),ho,
  ((h.aF.less fun b hb=>xc_c.1 hb).app hg ha).less fun b hb=>xc_c.2 hb,
  (((h.aC.push hn hp).less fun b hb=>xc_c.1 hb).app hg ha).less fun b hb=>xc_c.2 hb,h.dFP,(dj_app h.dFC.symm h.oF ha).symm,(dj_app h.dPC.symm h.oP ha).symm⟩
end
def CrSt (g:Nat) (nv:Value) (m:Nat) (w:World) (c:CrQ) (part:Nat):Prop:=∃ (fa:Option Addr) (fc:Nat) (hf:List PQ) (wa:Option Addr) (wc:Nat) (ca:Option Addr) (cc:Nat) (hc:List PQ),
 Blk w g 87 #[nv,.slice fa hf.length fc,.slice wa c.P.length wc,.int .i64 c.n,.slice ca hc.length cc,.int .i64 part] /\ CrRows g w c.F c.P c.C fa fc hf wa wc ca cc hc /\ hf.length <= m /\ c.P.length <= m /\ hc.length <= m
theorem CrSt.call {g:Nat} {nv:Value} {m:Nat} {w w':World} {c:CrQ} {part:Nat} (h:CrSt g nv m w c part) (hb:Below w.heap.size w w'):CrSt g nv m w' c part:=by
 obtain ⟨fa,fc,hf,wa,wc,ca,cc,hc,h1,h2,h3⟩:=h;exact ⟨fa,fc,hf,wa,wc,ca,cc,hc,h1.below' hb,h2.call hb,h3⟩
theorem CrSt.fg {g q:Nat} {nv:Value} {m:Nat} {w w':World} {c:CrQ} {part:Nat} (h:CrSt g nv m w c part) (k:Fg q w w') (hq:q < g):CrSt g nv m w' c part:=by
 obtain ⟨fa,fc,hf,wa,wc,ca,cc,hc,h1,h2,h3⟩:=h;exact ⟨fa,fc,hf,wa,wc,ca,cc,hc,h1.fr k (by omega),h2.fr2 (k.mono fun b hb=>by subst hb; exact Nat.le_of_lt hq),h3⟩
theorem below_own {α:Type} {f:α -> List Value} {sz:Nat} {t:TypeId} {g n c:Nat} {l:List α} {w0 w w':World} {a:Option Addr} (hb:Below g w0 w) (ho:Own f sz t (g + 1) w a c l) (hs:g <= w.heap.size) (hg:w.grownBy w' (Value.ownBlock (.slice a n c))):Below g w0 w' :=
 hb.grown hg hs fun k hk=>by
  cases a with
  | none=>simp [Value.ownBlock] at hk
  | some p=>simp [Value.ownBlock] at hk; have:=(ho.lt rfl).1; omega
theorem polysR_of {X:Nat -> Prop} {B:Nat} {w:World} {a:Option Addr} {c:Nat} {hs:List PQ} {ps:List (List Tm)} (ho:OwnPq B w a c hs) (hA:AllP X w hs ps):PolysR w a c (ps.map (·.map trmOf)):=by
 refine ho.readsX (X:=fun _=>False) (ps.map (·.map trmOf)) (by rw [List.length_map]; exact hA.1.symm) PQ.cs_len (Agr.refl _ w) (fun g hg hx=>hx) fun b o k x y h1 h2 hc=>?_
 rw [List.getElem?_map] at h2;obtain ⟨p,hp,rfl⟩:=Option.map_eq_some_iff.1 h2;obtain ⟨e,hx⟩:=hA.2 k x p h1 hp;refine ⟨x.a,x.c,?_,hx.list⟩;have:=hc 0 _ rfl;rw [List.length_map,<- e];simpa using this
theorem park {p:Prop} (h:Hid p):p:=h.out
def facLn (names:List ByteArray) (part:Nat) (c:CrQ) (s:List UInt8):Option (Nat × CrQ) × Int:=match cutL 32 s with
 | none=>(none,9)
 | some (d,x)=>match numC 0 d with
  | none=>(none,9)
  | some k=>if part = 1 then match polC names x with
    | (some p,_)=>if p = [] then (none,3) else (some (1,{ c with F:=c.F ++ [p],P:=c.P ++ [(k:Int)] }),0)
    | (none,e)=>(none,e)
   else (none,9)
def RetFa (g:Nat) (nv:Value) (m:Nat) (G:Option (Nat × CrQ) × Int) (w:World) (e:Ending) (w':World):Prop:=∃ er:Int,e = .returned (.int .i64 er) /\ Below g w w' /\
 (∀ q c' x,G = (some (q,c'),x) -> er = 0 /\ CrSt g nv m w' c' q) /\ (∀ x,G = (none,x) -> er = x /\ x ≠ 0)
theorem retFa_bad {g m:Nat} {nv:Value} {G:Option (Nat × CrQ) × Int} {er:Int} {w w':World} (hG:G = (none,er)) (h0:er ≠ 0) (hb:Below g w w'):RetFa g nv m G w (.returned (.int .i64 er)) w' :=
 ⟨er,rfl,hb,(fun q c' x e=>by rw [hG] at e; injection e with e; cases e),fun x e=>by rw [hG] at e; injection e with _ e; exact ⟨e,by rw [<- e]; exact h0⟩⟩
theorem retFa_ok {g m q:Nat} {nv:Value} {c':CrQ} {G:Option (Nat × CrQ) × Int} {w w':World} (hG:G = (some (q,c'),0)) (hb:Below g w w') (h:CrSt g nv m w' c' q):RetFa g nv m G w (.returned (.int .i64 0)) w' :=
 ⟨0,rfl,hb,(fun q c'' x e=>by rw [hG] at e; injection e with e _; injection e with e; injection e with e1 e2; subst e1 e2; exact ⟨rfl,h⟩),fun x e=>by rw [hG] at e; injection e with e; cases e⟩
theorem factor_any (g:Nat) (names:List ByteArray) (na:Option Addr) (nc:Nat) (s:ByteArray) (c:CrQ) (part m:Nat) (w:World) (hst:CrSt g (.slice na names.length nc) m w c part) (hm:m <= 16000000)
  (hE:∀ W,Below g w W -> EnvC names na nc W) (hnz:∀ x ∈ names,x.size <= 1048576) (hnl:names.length <= 1000) (hs:s.size < 4294967281) (hW:∀ d x,cutL 32 s.data.toList = some (d,x) -> Wok names x) :
  Calls Tryz.prog 91 #[.pointer (some ⟨g,0,none⟩),.string s] w (RetFa g (.slice na names.length nc) (m + 1) (facLn names part c s.data.toList) w):=by
 obtain ⟨fa,fc,hf,wa,wc,ca,cc,hc,hb,hr,hm1,hm2,hm3⟩:=hst;have hl:=hb.lt;have HE:=Hd (fun W (hW:Below w.heap.size w W)=>hE W (hW.mono (Nat.le_of_lt hl)));have CC:=cut_any s w (HE.out w brf).2.1 hs;obtain ⟨G,hG⟩:∃ G,facLn names part c s.data.toList = G:=⟨_,rfl⟩
 rw [hG];unfold facLn at hG;have hlen:s.data.toList.length = s.size:=Array.length_toList;have HB:=Hd hb; have HR:=Hd hr; have HM:=Hd (And.intro hm1 (And.intro hm2 hm3)); have HNZ:=Hd hnz;unfold cutC at CC;clear hE hb hr hm1 hm2 hm3 hnz
 cases hcut:cutL 32 s.data.toList with
 | none =>
  rw [hcut] at hG CC;have CN:=fun W (hW:Below w.heap.size w W)=>number_any (ofL s.data.toList) W (by rw [ofL_size]; omega) (HE.out W hW).2.2.1 (HE.out W hW).2.2.2.1 (HE.out W hW).2.2.2.2
  dsimp only at CC hG;obtain ⟨S1,hS1⟩:∃ z,ofL s.data.toList = z:=⟨_,rfl⟩
  obtain ⟨S2,hS2⟩:∃ z,ofL [] = z:=⟨_,rfl⟩
  obtain ⟨NG,hNG⟩:∃ z,numC 0 S1.data.toList = z:=⟨_,rfl⟩
  rw [hS1] at CC CN;rw [hNG] at CN;rw [hS2] at CC;replace CN:=Hd CN; replace CC:=Hd CC;clear hW hcut hlen hS1 hS2 hNG;go_enter Tryz.func91,Tryz.ntmps91;go_wp2_with fail;refine CC.out.mono ?_;rintro e w1 ⟨rfl,hb1⟩;go_wp2_with fail;refine (CN.out w1 hb1).mono ?_;rintro e w2 ⟨n,b,rfl,hb2,_,_⟩;go_wp2;go_ret;exact retFa_bad hG.symm (by decide) ((bth hb1 hb2).mono (Nat.le_of_lt hl))
 | some dx =>
  obtain ⟨d,x⟩:=dx;have hWk:=hW d x hcut;obtain ⟨hcs,_⟩:=cutL_some 32 _ _ _ hcut;have hll:=congrArg List.length hcs;rw [List.length_append,List.length_cons,hlen] at hll;rw [hcut] at hG CC;dsimp only at hG CC;have CN:=fun W (hW:Below w.heap.size w W)=>number_any (ofL d) W (by rw [ofL_size]; omega) (HE.out W hW).2.2.1 (HE.out W hW).2.2.2.1 (HE.out W hW).2.2.2.2
  rw [data_ofL] at CN;have hxs:(ofL x).size <= 281474976710656:=by rw [ofL_size]; omega
  obtain ⟨S1,hS1⟩:∃ z,ofL d = z:=⟨_,rfl⟩
  rw [hS1] at CC CN;obtain ⟨S2,hS2⟩:∃ z,ofL x = z:=⟨_,rfl⟩
  have hx2:x = S2.data.toList:=by rw [<- hS2,data_ofL]
  rw [hS2] at CC hxs;rw [hx2] at hG hWk;have CP:=fun W (hW:Below w.heap.size w W)=>polyC_any (Xc g fa wa ca) g names na nc S2 _ _ _ _ _ W (fun b hb=>ltl (HR.out.xlt hl b hb) hW.size) (HB.out.below' hW) (fun V hV=>HE.out V (bth hW hV)) HNZ.out hnl hxs hWk
  obtain ⟨NG,hNG⟩:∃ z,numC 0 d = z:=⟨_,rfl⟩
  rw [hNG] at CN hG;obtain ⟨PG,hPG⟩:∃ z,polC names S2.data.toList = z:=⟨_,rfl⟩
  rw [hPG] at CP hG;replace CN:=Hd CN; replace CC:=Hd CC; replace CP:=Hd CP;clear hW hcut hlen hS1 hNG hWk hcs hll hxs hx2 hS2 hPG
  cases NG with
  | none =>
   dsimp only at hG;go_enter Tryz.func91,Tryz.ntmps91;go_wp2_with fail;refine CC.out.mono ?_;rintro e w1 ⟨rfl,hb1⟩;go_wp2_with fail;refine (CN.out w1 hb1).mono ?_;rintro e w2 ⟨n,b,rfl,hb2,_,hbn⟩;obtain rfl:=hbn rfl;clear hbn;go_wp2;go_ret;exact retFa_bad hG.symm (by decide) ((bth hb1 hb2).mono (Nat.le_of_lt hl))
  | some k =>
   dsimp only at hG;by_cases hp1:part = 1
   ·
    subst hp1;rw [if_pos rfl] at hG;have hgw:=Hd (Nat.le_of_lt hl);go_enter Tryz.func91,Tryz.ntmps91;go_wp2_with fail;refine CC.out.mono ?_;rintro e w1 ⟨rfl,hb1⟩;go_wp2_with fail;refine (CN.out w1 hb1).mono ?_;rintro e w2 ⟨n,b,rfl,hb2,hnk,_⟩;obtain ⟨rfl,rfl⟩:=hnk k rfl;have hw2:=bth hb1 hb2;have hB2:=HB.out.below' hw2;have z5:=hB2.cell 5;have hl2:=hB2.lt;clear hnk CC CN;go_wp2_with fail;refine (CP.out w2 hw2).mono ?_;rintro e w3 ⟨a,n,cp,er,rfl,hb3,hok,hbad⟩;have hw3:=bth hw2 hb3;clear CP z5 hl2 hB2;obtain ⟨o,er'⟩:=PG
    cases o with
    | none =>
     obtain ⟨rfl,h0⟩:=hbad er' rfl;dsimp only at hG;have hne:(er != 0) = true:=by simpa using h0
     have h0':=Hd h0;clear h0 hok hbad;go_wp2;go_ret;exact retFa_bad hG.symm h0'.out (hw3.mono hgw.out)
    | some p =>
     obtain ⟨rfl,hP,rfl⟩:=hok p er' rfl;dsimp only at hG;clear hok hbad;by_cases hpe:p = []
     ·
      rw [if_pos hpe] at hG;subst hpe;clear hP;go_wp2;go_ret;exact retFa_bad hG.symm (by decide) (hw3.mono hgw.out)
     ·
      rw [if_neg hpe] at hG;have hpl:((p.length:Int) == 0) = false:=by
       rw [beq_eq_false_iff_ne];intro e;exact hpe (List.eq_nil_of_length_eq_zero (by omega))
      have hpl2:(p.length == 0) = false:=by
       rw [beq_eq_false_iff_ne];intro e;exact hpe (List.eq_nil_of_length_eq_zero e)
      obtain ⟨n,hn⟩:∃ n,p.length = n:=⟨_,rfl⟩
      rw [hn] at hpl hpl2 ⊢;have hr3:=HR.out.call hw3;have hB3:=HB.out.below' hw3;have z1:=hB3.cell 1;have hl3:=hB3.lt;have hB4:=Hd (bA (o:=.cells #[.slice a n cp] 23) hB3);have hr4:=Hd (hr3.call (brf.alloc (nlr _) (.cells #[.slice a n cp] 23)));have hP4:=Hd (show PolX (Xc g fa wa ca) (w3.alloc (.cells #[.slice a n cp] 23)) a cp p from hP.step ((Agr.refl _ _).alloc _));have hw4:=Hd (show Below g w (w3.alloc (.cells #[.slice a n cp] 23)) from (hw3.mono hgw.out).alloc (Nat.le_of_lt hl3) _);have hcl:Hid (∀ j v,(PQ.cs ⟨n,a,cp⟩)[j]? = some v -> (w3.alloc (.cells #[.slice a n cp] 23)).cell? ⟨w3.heap.size,j,none⟩ = some v):=Hd fun j v hj=>by
       cases j with
       | zero=>simp [PQ.cs] at hj; subst hj; exact (Blk.new w3 23 #[.slice a n cp]).cell 0
       | succ j=>simp [PQ.cs] at hj
      have hl4:=Hd (show g < w3.heap.size from hl3);have hn':=Hd hn; have hpe':=Hd hpe;have hG':=Hd hG;clear hP hr3 hB3 hw3 hn hpe hG hw2 hb3;go_wp2_with (at_builtin; go_must (refine wpList_append_1 (B:=g + 1) rfl (.tmp 53) (.tmp 55) 37 rfl Tryz.underlying37 infoPq rfl (by omega) (by omega) PQ.cs_len fa fc (l:=hf) rfl hr4.out.oF ⟨n,a,cp⟩ (PQ.cs_one _) w3.heap.size 1 rfl hcl.out (hf ++ [⟨n,a,cp⟩]) rfl (by have:=HM.out.1; rw [List.length_append]; simp; omega) (by have:=hl4.out; simp; omega) ?_); intro fa2 fc2 w5 ho5 hg5 ha5; refine park ?_);refine Hd ?_;have hB5:=hB4.out.under hr4.out.oF (Nat.lt_succ_self _) hg5;have hr5:=Hd (hr4.out.pushF hg5 ho5 ha5 hP4.out hn'.out.symm);have hw5:=Hd (below_own hw4.out hr4.out.oF (by have:=hl4.out; simp; omega) hg5);have hll:(hf ++ [(⟨n,a,cp⟩:PQ)]).length = hf.length + 1:=by simp
      have y1:=hB5.cell 1;have y2:=hB5.cell 2;have f1:=hB5.frozen 1;have hl5:=hB5.lt;have hB5':=Hd hB5;clear z1 hl3 hB4 hr4 hP4 hw4 hcl hl4 ho5 hg5 ha5 hB5;obtain ⟨hf2,hhf2⟩:∃ z,hf ++ [(⟨n,a,cp⟩:PQ)] = z:=⟨_,rfl⟩
      rw [hhf2] at hr5 hll;rw [<- hll];have hll':=Hd hll;clear hhf2 hll;go_wp2_with (at_builtin; go_must (refine world_gen (fun W=>Blk W g 87 #[.slice na names.length nc,.slice fa2 hf2.length fc2,.slice wa c.P.length wc,.int .i64 c.n,.slice ca hc.length cc,.int .i64 ((1:Nat):Int)] /\ Blk W w5.heap.size 3 #[.int .i64 (k:Int)] /\ CrRows g W (c.F ++ [p]) c.P c.C fa2 fc2 hf2 wa wc ca cc hc /\ Below g w W) ⟨bA (bS hB5'.out rfl),bN (by simp),(hr5.out.fr ((Fr.refl _ _).setc (.inl rfl))).call (brf.alloc (nlr _) _),(hw5.out.setCell (nlr _) _).alloc (by have:=hl5; simp; omega) _⟩ ?_); rintro w7 ⟨hB7,hb7,hr7,hw7⟩; refine park ?_);refine Hd ?_;have x7:=hb7.cell 0;have hl7:=hB7.lt;have hB7':=Hd hB7; have hr7':=Hd hr7; have hw7':=Hd hw7; have hl7':=Hd hl7;clear y1 y2 f1 hl5 hB5' hr5 hw5 hB7 hb7 hr7 hw7 hl7
      go_wp2_with (at_builtin; go_must (refine append_int rfl (.tmp 65) (.tmp 67) rfl wa wc rfl hr7'.out.oP (k:Int) w5.heap.size 1 rfl x7 (c.P ++ [(k:Int)]) rfl (by have:=HM.out.2.1; rw [List.length_append]; simp; omega) (by have:=hl7'.out; omega) ?_); intro wa2 wc2 w8 ho8 hg8 ha8; refine park ?_);refine Hd ?_;have hB8:=hB7'.out.under hr7'.out.oP (Nat.lt_succ_self _) hg8;have hr8:=Hd (hr7'.out.pushP hg8 ho8 ha8);have hw8:=Hd (below_own hw7'.out hr7'.out.oP (Nat.le_of_lt hl7'.out) hg8);have f2:=hB8.frozen 2;have x2:=hB8.cell 2;have hl8:=hB8.lt;have hB8':=Hd hB8;have hPl:(c.P ++ [(k:Int)]).length = c.P.length + 1:=by simp
      replace hPl:=Hd hPl;clear x7 hB7' hr7' hw7' hl7' ho8 hg8 ha8 hB8;go_wp2;go_ret;refine retFa_ok hG'.out.symm (hw8.out.setCell (nlr _) _) ⟨fa2,fc2,hf2,wa2,wc2,ca,cc,hc,bS hB8'.out (by rw [<- hPl.out]; rfl),hr8.out.fr ((Fr.refl _ _).setc (.inl rfl)),?_,?_,?_⟩
      · have:=HM.out.1; have:=hll'.out; omega
      · have:=HM.out.2.1; have:=hPl.out; show (c.P ++ [(k:Int)]).length <= _; omega
      · have:=HM.out.2.2; omega
   ·
    have hpb:(((part:Int)) != 1) = true:=by
     rw [bne_iff_ne]; omega
    rw [if_neg hp1] at hG;replace hp1:=Hd hp1;go_enter Tryz.func91,Tryz.ntmps91;go_wp2_with fail;refine CC.out.mono ?_;rintro e w1 ⟨rfl,hb1⟩;go_wp2_with fail;refine (CN.out w1 hb1).mono ?_;rintro e w2 ⟨n,b,rfl,hb2,hnk,_⟩;obtain ⟨rfl,rfl⟩:=hnk k rfl;have hw2:=bth hb1 hb2;have hB2:=HB.out.below' hw2;have z5:=hB2.cell 5;have hl2:=hB2.lt;clear hnk CC CN CP hB2;go_wp2;go_ret;exact retFa_bad hG.symm (by decide) (hw2.mono (Nat.le_of_lt hl))
theorem linP_fac {names:List ByteArray} {part:Nat} {c:CrQ} {t r:List UInt8} (hp:part = partQ c) (he:t ≠ wEnd) (hc:cutL 32 t = some (wFactor,r)):linP names part c t = facLn names part c r:=by
 have h0:part ≠ 0:=by rw [hp]; unfold partQ; split <;> decide
 have h3:part ≠ 3:=by rw [hp]; unfold partQ; split <;> decide
 have h1:part = 1 ↔ c.C = []:=by
  rw [hp]; unfold partQ;by_cases h:c.C = []
  · rw [if_pos h]; exact ⟨fun _=>h,fun _=>rfl⟩
  · rw [if_neg h]; exact ⟨fun e=>(by cases e),fun e=>absurd e h⟩
 unfold linP facLn lineQ;rw [if_neg h0,if_neg h3,if_neg he,hc];dsimp only;rw [if_neg (by decide),if_pos rfl]
 cases cutL 32 r with
 | none=>rfl
 | some q =>
  obtain ⟨d,x⟩:=q;dsimp only
  cases numC 0 d with
  | none=>rfl
  | some k =>
   dsimp only;by_cases hC:c.C = []
   ·
    rw [if_pos hC,if_pos (h1.2 hC)];rcases polC names x with ⟨_ | p,e⟩
    · rfl
    ·
     dsimp only;by_cases hpe:p = []
     · rw [if_pos hpe,if_pos hpe]
     ·
      rw [if_neg hpe,if_neg hpe];dsimp only;rw [if_pos hC]
   · rw [if_neg hC,if_neg fun e=>hC (h1.1 e)]
theorem linP_cof {names:List ByteArray} {part:Nat} {c:CrQ} {t r:List UInt8} (hp:part = partQ c) (he:t ≠ wEnd) (hc:cutL 32 t = some (wCof,r)):linP names part c t = match polC names r with
  | (some p,_)=>(some (2,{ c with C:=c.C ++ [p] }),0)
  | (none,e)=>(none,e):=by
 have h0:part ≠ 0:=by rw [hp]; unfold partQ; split <;> decide
 have h3:part ≠ 3:=by rw [hp]; unfold partQ; split <;> decide
 unfold linP lineQ;rw [if_neg h0,if_neg h3,if_neg he,hc];dsimp only;rw [if_pos rfl];rcases polC names r with ⟨_ | p,e⟩
 · rfl
 ·
  dsimp only;rw [if_neg (by simp)]
theorem linP_end {names:List ByteArray} {part:Nat} {c:CrQ} (hp:part = partQ c):linP names part c wEnd = (some (3,c),0):=by
 have h0:part ≠ 0:=by rw [hp]; unfold partQ; split <;> decide
 have h3:part ≠ 3:=by rw [hp]; unfold partQ; split <;> decide
 unfold linP;rw [if_neg h0,if_neg h3,if_pos rfl]
theorem linP_bad {names:List ByteArray} {part:Nat} {c:CrQ} {t:List UInt8} (hp:part = partQ c) (he:t ≠ wEnd) (hc:∀ w r,cutL 32 t = some (w,r) -> w ≠ wCof /\ w ≠ wFactor):linP names part c t = (none,9):=by
 have h0:part ≠ 0:=by rw [hp]; unfold partQ; split <;> decide
 have h3:part ≠ 3:=by rw [hp]; unfold partQ; split <;> decide
 unfold linP lineQ;rw [if_neg h0,if_neg h3,if_neg he]
 cases h:cutL 32 t with
 | none=>rfl
 | some q =>
  obtain ⟨w,r⟩:=q;obtain ⟨h1,h2⟩:=hc w r h;dsimp only;rw [if_neg h1,if_neg h2]
theorem linP_0 (names:List ByteArray) (t:List UInt8):linP names 0 noQ t = match cutL 32 t with
  | none=>(none,9)
  | some (w,r)=>if w = wPower then match numC 0 r with
    | none=>(none,9)
    | some n=>if n = 0 then (none,9) else (some (1,⟨[],[],n,[]⟩),0)
   else (none,9):=by
 unfold linP firstQ;rw [if_pos rfl]
 cases cutL 32 t with
 | none=>rfl
 | some q =>
  obtain ⟨w,r⟩:=q;dsimp only;by_cases hw:w = wPower
  ·
   rw [if_pos hw,if_pos hw,numC_one]
   cases numC 0 r with
   | none=>rfl
   | some n =>
    by_cases h0:n = 0
    · subst h0; rfl
    ·
     rw [if_neg (by simpa using h0)];dsimp only;rw [if_neg h0]; rfl
  · rw [if_neg hw,if_neg hw]
def WokL (names:List ByteArray) (t:List UInt8):Prop:=∀ w r,cutL 32 t = some (w,r) -> (w = wCof -> Wok names r) /\ (w = wFactor -> ∀ d x,cutL 32 r = some (d,x) -> Wok names x)
theorem line3_any (g:Nat) (names:List ByteArray) (na:Option Addr) (nc:Nat) (s:ByteArray) (c:CrQ) (m:Nat) (w:World) (hst:CrSt g (.slice na names.length nc) m w c 3)
  (hE:∀ W,Below g w W -> EnvC names na nc W) (hs:s.size < 4294967281) :
  Calls Tryz.prog 43 #[.pointer (some ⟨g,0,none⟩),.string s] w (RetFa g (.slice na names.length nc) (m + 1) (linP names 3 c s.data.toList) w):=by
 obtain ⟨fa,fc,hf,wa,wc,ca,cc,hc,hb,hr,hm1,hm2,hm3⟩:=hst;have hl:=hb.lt;have CC:=cut_any s w (hE w brf).2.1 hs;obtain ⟨⟨c1,c2,c3⟩,hcc⟩:∃ z,cutC s.data.toList = z:=⟨_,rfl⟩
 rw [hcc] at CC;dsimp only at CC;replace CC:=Hd CC;have HB:=Hd hb;clear hE hb hr hcc;go_enter Tryz.func43,Tryz.ntmps43;go_wp2_with fail;refine CC.out.mono ?_;rintro e w1 ⟨rfl,hb1⟩;have hB1:=HB.out.below' hb1;have z5:=hB1.cell 5;have hl1:=hB1.lt;clear hB1;go_wp2;go_ret;exact retFa_bad (by unfold linP; rw [if_neg (by decide),if_pos rfl]) (by decide) (hb1.mono (Nat.le_of_lt hl))
theorem line0_any (g:Nat) (names:List ByteArray) (na:Option Addr) (nc:Nat) (s:ByteArray) (m:Nat) (w:World) (hst:CrSt g (.slice na names.length nc) m w noQ 0)
  (hE:∀ W,Below g w W -> EnvC names na nc W) (hs:s.size < 4294967281) :
  Calls Tryz.prog 43 #[.pointer (some ⟨g,0,none⟩),.string s] w (RetFa g (.slice na names.length nc) (m + 1) (linP names 0 noQ s.data.toList) w):=by
 obtain ⟨fa,fc,hf,wa,wc,ca,cc,hc,hb,hr,hm1,hm2,hm3⟩:=hst;have hl:=hb.lt;have HE:=Hd (fun W (hW:Below w.heap.size w W)=>hE W (hW.mono (Nat.le_of_lt hl)));have CC:=cut_any s w (HE.out w brf).2.1 hs;have hG0:=linP_0 names s.data.toList;obtain ⟨G,hG⟩:∃ G,linP names 0 noQ s.data.toList = G:=⟨_,rfl⟩
 rw [hG] at hG0 ⊢;replace hG0:=hG0.symm;have hlen:s.data.toList.length = s.size:=Array.length_toList;have HB:=Hd hb; have HR:=Hd hr; have HM:=Hd (And.intro hm1 (And.intro hm2 hm3));unfold cutC at CC;have hgw:=Hd (Nat.le_of_lt hl);clear hE hb hr hm1 hm2 hm3 hG
 cases hcut:cutL 32 s.data.toList with
 | none =>
  rw [hcut] at hG0 CC;dsimp only at CC hG0;have CN:=fun W (hW:Below w.heap.size w W)=>number_any (ofL []) W (by decide) (HE.out W hW).2.2.1 (HE.out W hW).2.2.2.1 (HE.out W hW).2.2.2.2
  obtain ⟨S1,hS1⟩:∃ z,ofL s.data.toList = z:=⟨_,rfl⟩
  obtain ⟨S2,hS2⟩:∃ z,ofL [] = z:=⟨_,rfl⟩
  rw [hS2] at CN;rw [hS1,hS2] at CC;obtain ⟨bw,hbw⟩:∃ b,(S1.toList == [112,111,119,101,114]) = b:=⟨_,rfl⟩
  have hbn:(S1.toList != [112,111,119,101,114]) = !bw:=by rw [bne,hbw]
  replace CN:=Hd CN; replace CC:=Hd CC;clear hcut hlen hS1 hS2
  cases bw
  ·
   skip
   go_enter Tryz.func43,Tryz.ntmps43;go_wp2_with fail;refine CC.out.mono ?_;rintro e w1 ⟨rfl,hb1⟩;have hB1:=HB.out.below' hb1;have z5:=hB1.cell 5;have hl1:=hB1.lt;go_wp2_with fail;refine (CN.out w1 hb1).mono ?_;rintro e w2 ⟨n,b,rfl,hb2,_⟩;clear hB1;go_wp2;go_ret;exact retFa_bad hG0.symm (by decide) ((bth hb1 hb2).mono hgw.out)
  ·
   skip
   go_enter Tryz.func43,Tryz.ntmps43;go_wp2_with fail;refine CC.out.mono ?_;rintro e w1 ⟨rfl,hb1⟩;have hB1:=HB.out.below' hb1;have z5:=hB1.cell 5;have hl1:=hB1.lt;go_wp2_with fail;refine (CN.out w1 hb1).mono ?_;rintro e w2 ⟨n,b,rfl,hb2,_⟩;clear hB1;go_wp2;go_ret;exact retFa_bad hG0.symm (by decide) ((bth hb1 hb2).mono hgw.out)
 | some dx =>
  obtain ⟨d,x⟩:=dx;obtain ⟨hcs,_⟩:=cutL_some 32 _ _ _ hcut;have hll:=congrArg List.length hcs;rw [List.length_append,List.length_cons,hlen] at hll;rw [hcut] at hG0 CC;dsimp only at hG0 CC;have CN:=fun W (hW:Below w.heap.size w W)=>number_any (ofL x) W (by rw [ofL_size]; omega) (HE.out W hW).2.2.1 (HE.out W hW).2.2.2.1 (HE.out W hW).2.2.2.2
  rw [data_ofL] at CN;obtain ⟨S1,hS1⟩:∃ z,ofL d = z:=⟨_,rfl⟩
  obtain ⟨S2,hS2⟩:∃ z,ofL x = z:=⟨_,rfl⟩
  rw [hS2] at CN;rw [hS1,hS2] at CC;obtain ⟨bw,hbw⟩:∃ b,(S1.toList == [112,111,119,101,114]) = b:=⟨_,rfl⟩
  have hbn:(S1.toList != [112,111,119,101,114]) = !bw:=by rw [bne,hbw]
  have hdw:d = wPower ↔ bw = true:=by
   rw [<- hbw,<- hS1,toList_data,data_ofL,beq_iff_eq]; exact Iff.rfl
  obtain ⟨NG,hNG⟩:∃ z,numC 0 x = z:=⟨_,rfl⟩
  rw [hNG] at CN hG0;replace CN:=Hd CN; replace CC:=Hd CC;clear hcut hlen hcs hll hS1 hS2 hNG
  cases bw
  ·
   rw [if_neg fun e=>by cases hdw.1 e] at hG0;clear hdw;go_enter Tryz.func43,Tryz.ntmps43;go_wp2_with fail;refine CC.out.mono ?_;rintro e w1 ⟨rfl,hb1⟩;have hB1:=HB.out.below' hb1;have z5:=hB1.cell 5;have hl1:=hB1.lt;go_wp2_with fail;refine (CN.out w1 hb1).mono ?_;rintro e w2 ⟨n,b,rfl,hb2,_⟩;clear hB1;go_wp2;go_ret;exact retFa_bad hG0.symm (by decide) ((bth hb1 hb2).mono hgw.out)
  ·
   rw [if_pos (hdw.2 rfl)] at hG0;clear hdw
   cases NG with
   | none =>
    dsimp only at hG0;go_enter Tryz.func43,Tryz.ntmps43;go_wp2_with fail;refine CC.out.mono ?_;rintro e w1 ⟨rfl,hb1⟩;have hB1:=HB.out.below' hb1;have z5:=hB1.cell 5;have hl1:=hB1.lt;go_wp2_with fail;refine (CN.out w1 hb1).mono ?_;rintro e w2 ⟨n,b,rfl,hb2,hnk⟩;obtain rfl:=hnk.2 rfl;clear hB1 hnk;go_wp2;go_ret;exact retFa_bad hG0.symm (by decide) ((bth hb1 hb2).mono hgw.out)
   | some k =>
    dsimp only at hG0;by_cases hk0:k = 0
    ·
     subst hk0;rw [if_pos rfl] at hG0;go_enter Tryz.func43,Tryz.ntmps43;go_wp2_with fail;refine CC.out.mono ?_;rintro e w1 ⟨rfl,hb1⟩;have hB1:=HB.out.below' hb1;have z5:=hB1.cell 5;have hl1:=hB1.lt;go_wp2_with fail;refine (CN.out w1 hb1).mono ?_;rintro e w2 ⟨n,b,rfl,hb2,hnk⟩;obtain ⟨rfl,rfl⟩:=hnk.1 0 rfl;clear hB1 hnk;go_wp2;go_ret;exact retFa_bad hG0.symm (by decide) ((bth hb1 hb2).mono hgw.out)
    ·
     rw [if_neg hk0] at hG0;have hkz:((k:Int) == 0) = false:=by rw [beq_eq_false_iff_ne]; omega
     have hkz2:(k == 0) = false:=by rw [beq_eq_false_iff_ne]; exact hk0
     replace hk0:=Hd hk0;go_enter Tryz.func43,Tryz.ntmps43;go_wp2_with fail;refine CC.out.mono ?_;rintro e w1 ⟨rfl,hb1⟩;have hB1:=HB.out.below' hb1;have z5:=hB1.cell 5;have hl1:=hB1.lt;go_wp2_with fail;refine (CN.out w1 hb1).mono ?_;rintro e w2 ⟨n,b,rfl,hb2,hnk⟩;obtain ⟨rfl,rfl⟩:=hnk.1 k rfl;have hw2:=bth hb1 hb2;have hB2:=HB.out.below' hw2;have f3:=hB2.frozen 3; have f5:=hB2.frozen 5;have y3:=hB2.cell 3; have y5:=hB2.cell 5;have hl2:=hB2.lt;have hB2':=Hd hB2;have hr2:=Hd (HR.out.call hw2);have hw2':=Hd (hw2.mono hgw.out);clear hB1 hnk z5 hl1 hb1 hb2 hw2 hB2;go_wp2;go_ret;refine retFa_ok hG0.symm ((hw2'.out.setCell (nlr _) _).setCell (nlr _) _) ⟨fa,fc,hf,wa,wc,ca,cc,hc,bS (bS hB2'.out rfl) rfl,(hr2.out.fr ((Fr.refl _ _).setc (.inl rfl))).fr ((Fr.refl _ _).setc (.inl rfl)),?_,?_,?_⟩
     · have:=HM.out.1; omega
     · have:=HM.out.2.1; show _ <= m + 1; simp
     · have:=HM.out.2.2; omega
end Go.Proofs.YtkjnkpkagcboeaaGreatDoor
