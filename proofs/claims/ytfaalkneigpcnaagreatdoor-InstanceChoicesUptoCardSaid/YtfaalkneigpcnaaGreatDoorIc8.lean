/- Walks: the program's rational numbers: the sum of two integers. -/
import Derived.Test.YtfaalkneigpcnaaGreatDoorIc7
import Derived.LoopN
set_option linter.all false
set_option maxRecDepth 100000
set_option maxHeartbeats 4000000
namespace Go.Proofs.YtfaalkneigpcnaaGreatDoor
open Go.RowKit
theorem ql3 (neg:Bool) (l m:List Int) (n d:Nat) (a a':Option Addr) (c c':Nat) (w:World) (h:NatR w a c l) (h':NatR w a' c' m) (hn:val l=n) (hk:val m=d) (hl:l.length<=2000000) (hm:m.length<=2000000) (h0:n≠0) (hd1:d≠0) (hd:d≠1)
  (hnl:(limbs n).length<=2000000) (hdl:(limbs d).length<=2000000) (hg1:Nat.gcd n d=1) :
  Calls Tryz.prog 67 #[.agg #[.bool neg,.slice a l.length c],.slice a' m.length c'] w (RetF (neg,n,d) w):=by
 have hd0:d≠0:=by omega
 have CN:=fun W (hW:Below w.heap.size w W)=>qc2 m a' c' W (h'.ext (xbw hW)) (by omega)
 rw [hk] at CN;have CZ:=fun W (hW:Below w.heap.size w W)=>qfw neg l n a c W (h.ext (xbw hW)) hn (by omega)
 have hp:(neg&&decide (0<n))=neg:=by rw [decide_eq_true (by omega:0<n),Bool.and_true]
 rw [hp] at CZ;have CO:=fun a2 c2 W (h2:NatR W a2 c2 (limbs d))=>qdj (limbs d) a2 c2 W h2
 rw [qc0] at CO;have he1:(((limbs d).length:Int)==0)=false:=by rw [beq_eq_false_iff_ne];have:=qar (n:=d);omega
 have he2:(((limbs n).length:Int)==0)=false:=by rw [beq_eq_false_iff_ne];have:=qar (n:=n);omega
 have ho:decide (d=1)=false:=by simp [hd]
 rw [ho] at CO;have CG:=fun a1 c1 a2 c2 W (h1:NatR W a1 c1 (limbs n)) (h2:NatR W a2 c2 (limbs d))=>qkl (limbs n) (limbs d) n d a1 a2 c1 c2 W h1 h2 (qaa _) (qaa _) hnl hdl
 obtain ⟨gg,hgg⟩:∃ q,Nat.gcd n d=q:=⟨_,rfl⟩
 rw [hgg] at CG;have CO4:=fun a2 c2 W (h2:NatR W a2 c2 (limbs gg))=>qdj (limbs gg) a2 c2 W h2
 rw [qc0] at CO4;have ho4:decide (gg=1)=true:=by rw [<- hgg,hg1];rfl
 rw [ho4] at CO4;unfold RetF RetQ;dsimp only;clear hp ho h0 hd hd0 hd1 hnl hdl hg1 hgg ho4;replace CN:=Hd CN;replace CZ:=Hd CZ;replace CO:=Hd CO;replace CG:=Hd CG;replace CO4:=Hd CO4;have hz:Blk ((w.alloc (.cells #[.bool neg,.slice a l.length c] 49)).alloc (.cells #[.bool false,.slice none 0 0,.slice none 0 0] 51)) (w.heap.size+1) 51 #[.bool false,.slice none 0 0,.slice none 0 0]:=qa4 w _ _ _;have hx:Blk ((w.alloc (.cells #[.bool neg,.slice a l.length c] 49)).alloc (.cells #[.bool false,.slice none 0 0,.slice none 0 0] 51)) w.heap.size 49 #[.bool neg,.slice a l.length c]:=(Blk.new w _ _).alloc _;have hb0:Below w.heap.size w ((w.alloc (.cells #[.bool neg,.slice a l.length c] 49)).alloc (.cells #[.bool false,.slice none 0 0,.slice none 0 0] 51)):=by go_grown
 have hgB:w.heap.size<w.heap.size+1:=by omega
 have hgl:=hz.lt;clear h h' hn hk;go_enter Tryz.func67,Tryz.ntmps67;go_wp2_with fail;revert hz hx hb0 hgB hgl;generalize (w.alloc (.cells #[.bool neg,.slice a l.length c] 49)).alloc (.cells #[.bool false,.slice none 0 0,.slice none 0 0] 51)=w0;generalize w.heap.size+1=g;intro hz hx hb0 hgB hgl;refine (CN.out _ hb0).mono ?_;rintro e w1 ⟨a2,c2,rfl,hV2,hb1⟩;have hw1:=bth hb0 hb1;have hx1:=hx.below' hb1;have hz1:=hz.below' hb1;have HV2:=Hd hV2;obtain ⟨z0,z1⟩:=cq2 hx1;have hs1:=hb1.size;clear hz hx hV2;go_wp2_with fail;refine (CZ.out _ hw1).mono ?_;rintro e w2 ⟨a1,c1,rfl,hV1,hb2⟩;have hw2:=bth hw1 hb2;have hx2:=hx1.below' hb2;have hz2:=hz1.below' hb2;have HV1:=Hd hV1;have hne:¬ g=w.heap.size:=by omega
 have hxl:w.heap.size<w0.heap.size:=by omega
 have hs0:=hb0.size;have hxS:=blk2 (x:=.bool neg) (y:=.slice a1 (limbs n).length c1) hx2;have hzS:=(hz2.far (p:=⟨w.heap.size,0,none⟩) hne (.bool neg)).far (p:=⟨w.heap.size,1,none⟩) hne (.slice a1 (limbs n).length c1);have hwS:=qbr (g:=w.heap.size) (x:=.bool neg) (y:=.slice a1 (limbs n).length c1) hw2 (nlr _);have K1:∀ V,New w0.heap.size ((w2.setCell ⟨w.heap.size,0,none⟩ (.bool neg)).setCell ⟨w.heap.size,1,none⟩ (.slice a1 (limbs n).length c1)) V->NatR V a1 c1 (limbs n):=fun V hV=>HV1.out V ((back2 hV (nlr _) hxl).base hs1)
 have K2:∀ V,New w0.heap.size ((w2.setCell ⟨w.heap.size,0,none⟩ (.bool neg)).setCell ⟨w.heap.size,1,none⟩ (.slice a1 (limbs n).length c1)) V->NatR V a2 c2 (limbs d):=fun V hV=>HV2.out V ((back2 hV (nlr _) hxl).below hb2)
 clear z0 z1 hV1 hx1 hz1 HV1 HV2 CN CZ;obtain ⟨z0,z1⟩:=cq2 hx2;obtain ⟨f0,f1⟩:=fq2 hx2;obtain ⟨y0,y1,y2⟩:=cq3 hz2;obtain ⟨yf0,yf1,yf2⟩:=fq3 hz2;have hbS:w0.heap.size<=((w2.setCell ⟨w.heap.size,0,none⟩ (.bool neg)).setCell ⟨w.heap.size,1,none⟩ (.slice a1 (limbs n).length c1)).heap.size:=by simp;exact Nat.le_trans hs1 hb2.size
 replace hs1:=hw2.size;clear hx2 hz2 hw2 hb2 hw1 hb1 hb0;go_wp2_with fail;revert hxS hzS hwS K1 K2 hbS;generalize (w2.setCell ⟨w.heap.size,0,none⟩ (.bool neg)).setCell ⟨w.heap.size,1,none⟩ (.slice a1 (limbs n).length c1)=wS;intro hxS hzS hwS K1 K2 hbS;have CO2:=CO.out a2 c2 wS (K2 wS (New.refl _ _));replace CO2:=Hd CO2;replace K1:=Hd K1;replace K2:=Hd K2;refine CO2.out.mono ?_;rintro e w3 ⟨rfl,hb3⟩;have hw3:=bth hwS hb3;have hz3:=hzS.below' hb3;have hx3:=hxS.below' hb3;clear z0 z1 f0 f1 y0 y1 y2 yf0 yf1 yf2 hxS hzS CO2;obtain ⟨z0,z1⟩:=cq2 hx3;have r1:=K1.out w3 ((New.refl _ _).below hb3);have r2:=K2.out w3 ((New.refl _ _).below hb3);have CG2:=CG.out a1 c1 a2 c2 w3 r1 r2;replace CG2:=Hd CG2;clear r1 r2;go_wp2_with fail;refine CG2.out.mono ?_;rintro e w4 ⟨a4,c4,rfl,hV4,hb4⟩;have hw4:=bth hw3 hb4;have hz4:=hz3.below' hb4;have hx4:=hx3.below' hb4;have r4:=hV4 w4 (New.refl _ _)
 have CO5:=CO4.out a4 c4 w4 r4;replace CO5:=Hd CO5;clear z0 z1 hz3 hx3 CG2;have R4:=Hd r4;have R4V:=Hd hV4;have hs3:=hb3.size;clear r4 hV4;go_wp2_with fail;refine CO5.out.mono ?_;rintro e w5 ⟨rfl,hb5⟩;have hw5:=bth hw4 hb5;have hz5:=hz4.below' hb5;have hx5:=hx4.below' hb5;clear CO5 hz4 hx4;obtain ⟨z0,z1⟩:=cq2 hx5;obtain ⟨f0,f1⟩:=fq2 hx5;obtain ⟨y0,y1,y2⟩:=cq3 hz5;obtain ⟨yf0,yf1,yf2⟩:=fq3 hz5;go_wp2;have hF:=blk3 (x:=.bool neg) (y:=.slice a1 (limbs n).length c1) (z:=.slice a2 (limbs d).length c2) hz5;obtain ⟨e0,e1,e2⟩:=cq3 hF;refine bodyPost_ret (v:=.agg #[.bool neg,.slice a1 (limbs n).length c1,.slice a2 (limbs d).length c2]) (by simp [results,Tryz.results67,go_sem,e0,e1,e2]) rfl ?_;exact ⟨a1,c1,a2,c2,rfl,fun V hV=>K1.out V ((((back3 hV hs0 hgl).below hb5).below hb4).below hb3),fun V hV=>K2.out V ((((back3 hV hs0 hgl).below hb5).below hb4).below hb3),qbm hw5 (Nat.le_of_lt hgB)⟩
theorem qkz (neg:Bool) (l m:List Int) (n d:Nat) (a a':Option Addr) (c c':Nat) (w:World) (h:NatR w a c l) (h':NatR w a' c' m) (hn:val l=n) (hk:val m=d) (hl:l.length<=2000000) (hm:m.length<=2000000) (h0:n≠0) (hd1:d≠0) (hd:d≠1)
  (hnl:(limbs n).length<=2000000) (hdl:(limbs d).length<=2000000) (hg1:Nat.gcd n d≠1) :
  Calls Tryz.prog 67 #[.agg #[.bool neg,.slice a l.length c],.slice a' m.length c'] w (RetF (neg,n / Nat.gcd n d,d / Nat.gcd n d) w):=by
 have hgp:0<Nat.gcd n d:=Nat.gcd_pos_of_pos_right n (by omega);have hgd:Nat.gcd n d<=d:=Nat.le_of_dvd (by omega) (Nat.gcd_dvd_right n d);have hgl0:=qap hgd;have hd0:d≠0:=by omega
 have CN:=fun W (hW:Below w.heap.size w W)=>qc2 m a' c' W (h'.ext (xbw hW)) (by omega)
 rw [hk] at CN;have CZ:=fun W (hW:Below w.heap.size w W)=>qfw neg l n a c W (h.ext (xbw hW)) hn (by omega)
 have hp:(neg&&decide (0<n))=neg:=by rw [decide_eq_true (by omega:0<n),Bool.and_true]
 rw [hp] at CZ;have CO:=fun a2 c2 W (h2:NatR W a2 c2 (limbs d))=>qdj (limbs d) a2 c2 W h2
 rw [qc0] at CO;have he1:(((limbs d).length:Int)==0)=false:=by rw [beq_eq_false_iff_ne];have:=qar (n:=d);omega
 have he2:(((limbs n).length:Int)==0)=false:=by rw [beq_eq_false_iff_ne];have:=qar (n:=n);omega
 have ho:decide (d=1)=false:=by simp [hd]
 rw [ho] at CO;have CG:=fun a1 c1 a2 c2 W (h1:NatR W a1 c1 (limbs n)) (h2:NatR W a2 c2 (limbs d))=>qkl (limbs n) (limbs d) n d a1 a2 c1 c2 W h1 h2 (qaa _) (qaa _) hnl hdl
 obtain ⟨gg,hgg⟩:∃ q,Nat.gcd n d=q:=⟨_,rfl⟩
 rw [hgg] at CG;have CO4:=fun a2 c2 W (h2:NatR W a2 c2 (limbs gg))=>qdj (limbs gg) a2 c2 W h2
 rw [qc0] at CO4;rw [hgg] at hgp hgl0 ⊢;have ho4:decide (gg=1)=false:=by rw [decide_eq_false_iff_not,<- hgg];exact hg1
 rw [ho4] at CO4;have CD1:=fun a1 c1 a4 c4 W (h1:NatR W a1 c1 (limbs n)) (h4:NatR W a4 c4 (limbs gg))=>qgx (limbs n) (limbs gg) n gg a1 a4 c1 c4 W h1 h4 (qaa _) (qaa _) (by omega) (by omega) hgp
 have CD2:=fun a2 c2 a4 c4 W (h2:NatR W a2 c2 (limbs d)) (h4:NatR W a4 c4 (limbs gg))=>qgx (limbs d) (limbs gg) d gg a2 a4 c2 c4 W h2 h4 (qaa _) (qaa _) (by omega) (by omega) hgp
 unfold RetQR at CD1 CD2;unfold RetF RetQ;dsimp only;obtain ⟨N,hN⟩:∃ q,n / gg=q:=⟨_,rfl⟩
 obtain ⟨D,hD⟩:∃ q,d / gg=q:=⟨_,rfl⟩
 simp only [hN] at CD1 ⊢;simp only [hD] at CD2 ⊢;clear hp ho h0 hd hd0 hd1 hnl hdl hg1 hgg ho4 hN hD hgp hgl0 hgd;replace CD1:=Hd CD1;replace CD2:=Hd CD2;replace CN:=Hd CN;replace CZ:=Hd CZ;replace CO:=Hd CO;replace CG:=Hd CG;replace CO4:=Hd CO4;have hz:Blk ((w.alloc (.cells #[.bool neg,.slice a l.length c] 49)).alloc (.cells #[.bool false,.slice none 0 0,.slice none 0 0] 51)) (w.heap.size+1) 51 #[.bool false,.slice none 0 0,.slice none 0 0]:=qa4 w _ _ _;have hx:Blk ((w.alloc (.cells #[.bool neg,.slice a l.length c] 49)).alloc (.cells #[.bool false,.slice none 0 0,.slice none 0 0] 51)) w.heap.size 49 #[.bool neg,.slice a l.length c]:=(Blk.new w _ _).alloc _;have hb0:Below w.heap.size w ((w.alloc (.cells #[.bool neg,.slice a l.length c] 49)).alloc (.cells #[.bool false,.slice none 0 0,.slice none 0 0] 51)):=by go_grown
 have hgB:w.heap.size<w.heap.size+1:=by omega
 have hgl:=hz.lt;clear h h' hn hk;go_enter Tryz.func67,Tryz.ntmps67;go_wp2_with fail;revert hz hx hb0 hgB hgl;generalize (w.alloc (.cells #[.bool neg,.slice a l.length c] 49)).alloc (.cells #[.bool false,.slice none 0 0,.slice none 0 0] 51)=w0;generalize w.heap.size+1=g;intro hz hx hb0 hgB hgl;refine (CN.out _ hb0).mono ?_;rintro e w1 ⟨a2,c2,rfl,hV2,hb1⟩;have hw1:=bth hb0 hb1;have hx1:=hx.below' hb1;have hz1:=hz.below' hb1;have HV2:=Hd hV2;obtain ⟨z0,z1⟩:=cq2 hx1;have hs1:=hb1.size;clear hz hx hV2;go_wp2_with fail;refine (CZ.out _ hw1).mono ?_;rintro e w2 ⟨a1,c1,rfl,hV1,hb2⟩;have hw2:=bth hw1 hb2;have hx2:=hx1.below' hb2;have hz2:=hz1.below' hb2;have HV1:=Hd hV1;have hne:¬ g=w.heap.size:=by omega
 have hxl:w.heap.size<w0.heap.size:=by omega
 have hs0:=hb0.size;have hxS:=blk2 (x:=.bool neg) (y:=.slice a1 (limbs n).length c1) hx2;have hzS:=(hz2.far (p:=⟨w.heap.size,0,none⟩) hne (.bool neg)).far (p:=⟨w.heap.size,1,none⟩) hne (.slice a1 (limbs n).length c1);have hwS:=qbr (g:=w.heap.size) (x:=.bool neg) (y:=.slice a1 (limbs n).length c1) hw2 (nlr _);have K1:∀ V,New w0.heap.size ((w2.setCell ⟨w.heap.size,0,none⟩ (.bool neg)).setCell ⟨w.heap.size,1,none⟩ (.slice a1 (limbs n).length c1)) V->NatR V a1 c1 (limbs n):=fun V hV=>HV1.out V ((back2 hV (nlr _) hxl).base hs1)
 have K2:∀ V,New w0.heap.size ((w2.setCell ⟨w.heap.size,0,none⟩ (.bool neg)).setCell ⟨w.heap.size,1,none⟩ (.slice a1 (limbs n).length c1)) V->NatR V a2 c2 (limbs d):=fun V hV=>HV2.out V ((back2 hV (nlr _) hxl).below hb2)
 clear z0 z1 hV1 hx1 hz1 HV1 HV2 CN CZ;obtain ⟨z0,z1⟩:=cq2 hx2;obtain ⟨f0,f1⟩:=fq2 hx2;obtain ⟨y0,y1,y2⟩:=cq3 hz2;obtain ⟨yf0,yf1,yf2⟩:=fq3 hz2;have hbS:w0.heap.size<=((w2.setCell ⟨w.heap.size,0,none⟩ (.bool neg)).setCell ⟨w.heap.size,1,none⟩ (.slice a1 (limbs n).length c1)).heap.size:=by simp;exact Nat.le_trans hs1 hb2.size
 replace hs1:=hw2.size;clear hx2 hz2 hw2 hb2 hw1 hb1 hb0;go_wp2_with fail;revert hxS hzS hwS K1 K2 hbS;generalize (w2.setCell ⟨w.heap.size,0,none⟩ (.bool neg)).setCell ⟨w.heap.size,1,none⟩ (.slice a1 (limbs n).length c1)=wS;intro hxS hzS hwS K1 K2 hbS;have CO2:=CO.out a2 c2 wS (K2 wS (New.refl _ _));replace CO2:=Hd CO2;replace K1:=Hd K1;replace K2:=Hd K2;refine CO2.out.mono ?_;rintro e w3 ⟨rfl,hb3⟩;have hw3:=bth hwS hb3;have hz3:=hzS.below' hb3;have hx3:=hxS.below' hb3;clear z0 z1 f0 f1 y0 y1 y2 yf0 yf1 yf2 hxS hzS CO2;obtain ⟨z0,z1⟩:=cq2 hx3;have r1:=K1.out w3 ((New.refl _ _).below hb3);have r2:=K2.out w3 ((New.refl _ _).below hb3);have CG2:=CG.out a1 c1 a2 c2 w3 r1 r2;replace CG2:=Hd CG2;clear r1 r2;go_wp2_with fail;refine CG2.out.mono ?_;rintro e w4 ⟨a4,c4,rfl,hV4,hb4⟩;have hw4:=bth hw3 hb4;have hz4:=hz3.below' hb4;have hx4:=hx3.below' hb4;have r4:=hV4 w4 (New.refl _ _)
 have CO5:=CO4.out a4 c4 w4 r4;replace CO5:=Hd CO5;clear z0 z1 hz3 hx3 CG2;have R4:=Hd r4;have R4V:=Hd hV4;have hs3:=hb3.size;clear r4 hV4;go_wp2_with fail;refine CO5.out.mono ?_;rintro e w5 ⟨rfl,hb5⟩;have hw5:=bth hw4 hb5;have hz5:=hz4.below' hb5;have hx5:=hx4.below' hb5;clear CO5 hz4 hx4;obtain ⟨z0,z1⟩:=cq2 hx5;obtain ⟨f0,f1⟩:=fq2 hx5;obtain ⟨y0,y1,y2⟩:=cq3 hz5;obtain ⟨yf0,yf1,yf2⟩:=fq3 hz5;have CE1:=CD1.out a1 c1 a4 c4 w5 (K1.out w5 ((((New.refl _ _).below hb5).below hb4).below hb3)) (R4.out.ext (xbw hb5));replace CE1:=Hd CE1;go_wp2_with fail;refine CE1.out.mono ?_;rintro e w6 ⟨a6,c6,_,_,rfl,hV6,_,hb6⟩;have hw6:=bth hw5 hb6;have hz6:=hz5.below' hb6;have hx6:=hx5.below' hb6;have hxF:=hx6.set_ 1 (.slice a6 (limbs N).length c6);have hzF:=hz6.far (p:=⟨w.heap.size,1,none⟩) hne (.slice a6 (limbs N).length c6)
 have hwF:=hw6.setCell (p:=⟨w.heap.size,1,none⟩) (nlr _) (.slice a6 (limbs N).length c6);have hN6:∀ {V},New w0.heap.size (w6.setCell ⟨w.heap.size,1,none⟩ (.slice a6 (limbs N).length c6)) V->New w0.heap.size w6 V:=fun hV=>hV.unset hxl
 have hs5:w0.heap.size<=w5.heap.size:=by have:=hbS;have:=hb3.size;have:=hb4.size;have:=hb5.size;omega
 clear CE1 z0 z1 f0 f1 y0 y1 y2 yf0 yf1 yf2 hz5 hx5 hz6;obtain ⟨z0,z1⟩:=cq2 hx6;obtain ⟨f0,f1⟩:=fq2 hx6;go_wp2_with fail;revert hxF hzF hwF hN6;generalize w6.setCell ⟨w.heap.size,1,none⟩ (.slice a6 (limbs N).length c6)=wF;intro hxF hzF hwF hN6;have hk:∀ {V},New w0.heap.size wF V->New w0.heap.size wS V:=fun hV=>((((hN6 hV).below hb6).below hb5).below hb4).below hb3
 have CE2:=CD2.out a2 c2 a4 c4 wF (K2.out wF (hk (New.refl _ _))) (R4V.out wF ((((hN6 (New.refl _ _)).below hb6).below hb5).base (Nat.le_trans hbS hs3)));replace CE2:=Hd CE2;refine CE2.out.mono ?_;rintro e w7 ⟨a7,c7,_,_,rfl,hV7,_,hb7⟩;have hw7:=bth hwF hb7;have hz7:=hzF.below' hb7;have hx7:=hxF.below' hb7;have HV6:=Hd hV6;have HV7:=Hd hV7;have hs6:=hwF.size;have hg6:=hzF.lt;clear CE2 z0 z1 f0 f1 hzF hxF hx6 hV6 hV7;obtain ⟨z0,z1⟩:=cq2 hx7;obtain ⟨y0,y1,y2⟩:=cq3 hz7;obtain ⟨yf0,yf1,yf2⟩:=fq3 hz7;go_wp2;have hF:=blk3 (x:=.bool neg) (y:=.slice a6 (limbs N).length c6) (z:=.slice a7 (limbs D).length c7) hz7;obtain ⟨e0,e1,e2⟩:=cq3 hF;refine bodyPost_ret (v:=.agg #[.bool neg,.slice a6 (limbs N).length c6,.slice a7 (limbs D).length c7]) (by simp [results,Tryz.results67,go_sem,e0,e1,e2]) rfl ?_
 exact ⟨a6,c6,a7,c7,rfl,fun V hV=>HV6.out V ((hN6 ((back3 hV hs0 hgl).below hb7)).base hs5),fun V hV=>HV7.out V (back3 hV hs6 hg6),qbm hw7 (Nat.le_of_lt hgB)⟩
theorem qdo (neg:Bool) (l m:List Int) (n d:Nat) (a a':Option Addr) (c c':Nat) (w:World) (h:NatR w a c l) (h':NatR w a' c' m) (hn:val l=n) (hk:val m=d) (hl:l.length<=2000000) (hm:m.length<=2000000) :
  Calls Tryz.prog 67 #[.agg #[.bool neg,.slice a l.length c],.slice a' m.length c'] w (RetF (qao neg n d) w):=by
 have hll:=qah h.u16;rw [hn] at hll;have hlm:=qah h'.u16;rw [hk] at hlm;by_cases hd:d=0
 ·
  rw [hd,qrq];exact qh9 neg l m n d a a' c c' w h h' hn hk hl hm (.inl hd)
 ·
  by_cases h0:n=0
  ·
   rw [h0,qo0 _ hd];exact qh9 neg l m n d a a' c c' w h h' hn hk hl hm (.inr h0)
  ·
   by_cases h1:d=1
   ·
    rw [qgp h0 hd (by rw [h1,Nat.gcd_one_right])];exact qny neg l m n d a a' c c' w h h' hn hk hl hm h0 h1
   ·
    by_cases hg:Nat.gcd n d=1
    ·
     rw [qgp h0 hd hg];exact ql3 neg l m n d a a' c c' w h h' hn hk hl hm h0 hd h1 (by omega) (by omega) hg
    ·
     rw [qik h0 hd];exact qkz neg l m n d a a' c c' w h h' hn hk hl hm h0 hd h1 (by omega) (by omega) hg
theorem qqc (z:Int):qao (decide (z<0)) z.natAbs 1=(decide (z<0),z.natAbs,1):=by
 unfold qao;rw [if_neg (by omega),Nat.gcd_one_right,Nat.div_one];by_cases hz:z<0
 ·
  have:decide (0<z.natAbs)=true:=by rw [decide_eq_true_eq];omega
  rw [this,Bool.and_true]
 · rw [decide_eq_false hz,Bool.false_and]
theorem qtn (neg1 neg2:Bool) (l m:List Int) (n1 n2:Nat) (a a':Option Addr) (c c':Nat) (w:World) (h:NatR w a c l) (h':NatR w a' c' m) (hn:val l=n1) (hk:val m=n2) (hl:l.length<=2000000) (hm:m.length<=2000000) (h0:n2≠0) :
  Calls Tryz.prog 237 #[.agg #[.bool neg1,.slice a l.length c],.agg #[.bool neg2,.slice a' m.length c']] w (RetM (qao (neg1 != neg2) n1 n2) w):=by
 have CS:=fun W (hW:Below w.heap.size w W)=>qes neg2 m n2 a' c' W (h'.ext (xbw hW)) hk (by omega)
 have CO1:=fun W (hW:Below w.heap.size w W)=>qdo (neg1 != neg2) l m n1 n2 a a' c c' W (h.ext (xbw hW)) (h'.ext (xbw hW)) hn hk hl hm
 have hsg:sgnZ neg2 n2≠0:=by
  unfold sgnZ;rw [if_neg h0]
  split <;> decide
 obtain ⟨sg,hsg2⟩:∃ q,sgnZ neg2 n2=q:=⟨_,rfl⟩
 rw [hsg2] at CS hsg;have hne:(sg==0)=false:=by rw [beq_eq_false_iff_ne];exact hsg
 have hz:Blk (((w.alloc (.cells #[.bool neg1,.slice a l.length c] 49)).alloc (.cells #[.bool neg2,.slice a' m.length c'] 49)).alloc (.cells #[.bool false,.slice none 0 0,.slice none 0 0] 51)) (w.heap.size+1+1) 51 #[.bool false,.slice none 0 0,.slice none 0 0]:=qbv w _ _ _ _;have hx1:Blk (((w.alloc (.cells #[.bool neg1,.slice a l.length c] 49)).alloc (.cells #[.bool neg2,.slice a' m.length c'] 49)).alloc (.cells #[.bool false,.slice none 0 0,.slice none 0 0] 51)) w.heap.size 49 #[.bool neg1,.slice a l.length c]:=((Blk.new w _ _).alloc _).alloc _;have hx2:Blk (((w.alloc (.cells #[.bool neg1,.slice a l.length c] 49)).alloc (.cells #[.bool neg2,.slice a' m.length c'] 49)).alloc (.cells #[.bool false,.slice none 0 0,.slice none 0 0] 51)) (w.heap.size+1) 49 #[.bool neg2,.slice a' m.length c']:=(qa4 w _ _ _).alloc _
 have hb0:Below w.heap.size w (((w.alloc (.cells #[.bool neg1,.slice a l.length c] 49)).alloc (.cells #[.bool neg2,.slice a' m.length c'] 49)).alloc (.cells #[.bool false,.slice none 0 0,.slice none 0 0] 51)):=by go_grown
 have hgB:w.heap.size<w.heap.size+1+1:=by omega
 have hgB2:w.heap.size+1<w.heap.size+1+1:=by omega
 have hgC:w.heap.size<w.heap.size+1:=by omega
 obtain ⟨t,ht⟩:∃ t,qao (neg1 != neg2) n1 n2=t:=⟨_,rfl⟩
 rw [ht] at CO1 ⊢;obtain ⟨s,N,D⟩:=t;unfold RetF at CO1;unfold RetM;dsimp only at CO1 ⊢;replace CS:=Hd CS;replace CO1:=Hd CO1;clear h h' hn hk hsg hsg2 h0 ht;go_enter Tryz.func237,Tryz.ntmps237;go_wp2_with fail;have hgl:=hz.lt;revert hz hx1 hx2 hb0 hgB hgB2 hgC hgl;generalize ((w.alloc (.cells #[.bool neg1,.slice a l.length c] 49)).alloc (.cells #[.bool neg2,.slice a' m.length c'] 49)).alloc (.cells #[.bool false,.slice none 0 0,.slice none 0 0] 51)=w0;generalize w.heap.size+1+1=g;generalize w.heap.size+1=g2;intro hz hx1 hx2 hb0 hgB hgB2 hgC hgl;refine (CS.out _ hb0).mono ?_;rintro e w1 ⟨rfl,hb1⟩;have hw1:=bth hb0 hb1;have hz1:=hz.below' hb1;have hy1:=hx1.below' hb1;have hy2:=hx2.below' hb1;obtain ⟨z0,z1⟩:=cq2 hy1;obtain ⟨z2,z3⟩:=cq2 hy2;go_wp2_with fail;refine (CO1.out _ hw1).mono ?_;rintro e w2 ⟨a1,c1,a2,c2,rfl,hV1,hV2,hb2⟩;have hw2:=bth hw1 hb2;have hz2:=hz1.below' hb2
 have HV1:=Hd hV1;have HV2:=Hd hV2;obtain ⟨z4,z5,z6⟩:=cq3 hz2;obtain ⟨f0,f1,f2⟩:=fq3 hz2;have hs1:=hw1.size;have hgl2:=hz1.lt;clear hV1 hV2;go_wp2;have hF:=blk3 (x:=.bool s) (y:=.slice a1 (limbs N).length c1) (z:=.slice a2 (limbs D).length c2) hz2;obtain ⟨e0,e1,e2⟩:=cq3 hF;refine bodyPost_ret (v:=.tuple #[.agg #[.bool s,.slice a1 (limbs N).length c1,.slice a2 (limbs D).length c2],.int .i64 0]) (by simp [results,Tryz.results237,go_sem,e0,e1,e2]) rfl ?_;exact ⟨a1,c1,a2,c2,rfl,fun V hV=>HV1.out V (back3 hV hs1 hgl2),fun V hV=>HV2.out V (back3 hV hs1 hgl2),qbm hw2 (Nat.le_of_lt hgB)⟩
theorem qi2 (z:Int) (w:World) (hi:InInt z) :
  Calls Tryz.prog 102 #[.int .i64 z] w (RetF (qao (decide (z<0)) z.natAbs 1) w):=by
 have CZ:=fun W=>qwu z W hi
 have C1:=fun W=>qnv W
 rw [qqc];obtain ⟨s,hng⟩:∃ q,decide (z<0)=q:=⟨_,rfl⟩
 obtain ⟨N,hnz⟩:∃ q,z.natAbs=q:=⟨_,rfl⟩
 simp only [hng,hnz] at CZ ⊢;unfold RetF RetQ;dsimp only;replace CZ:=Hd CZ;replace C1:=Hd C1;have hz:Blk (w.alloc (.cells #[.bool false,.slice none 0 0,.slice none 0 0] 51)) w.heap.size 51 #[.bool false,.slice none 0 0,.slice none 0 0]:=Blk.new w _ _;have hb0:Below w.heap.size w (w.alloc (.cells #[.bool false,.slice none 0 0,.slice none 0 0] 51)):=brf.alloc (nlr _) _;clear hng hnz;go_enter Tryz.func102,Tryz.ntmps102;go_wp2_with fail;revert hz hb0;generalize w.alloc (.cells #[.bool false,.slice none 0 0,.slice none 0 0] 51)=w0;intro hz hb0;refine (CZ.out _).mono ?_;rintro e w1 ⟨a1,c1,rfl,hV1,hb1⟩;have hw1:=bth hb0 hb1;have hz1:=hz.below' hb1;have HV1:=Hd hV1;clear hV1;go_wp2_with fail;refine (C1.out _).mono ?_;rintro e w2 ⟨a2,c2,rfl,hV2,hb2⟩;have hw2:=bth hw1 hb2;have hz2:=hz1.below' hb2;have HV2:=Hd hV2;have hs0:=hb0.size;have hgl0:=hz.lt;have hs1:=hw1.size;have hgl1:=hz1.lt
 obtain ⟨z0,z1,z2⟩:=cq3 hz2;obtain ⟨f0,f1,f2⟩:=fq3 hz2;clear hV2 hz hz1;go_wp2;have hF:=blk3 (x:=.bool s) (y:=.slice a1 (limbs N).length c1) (z:=.slice a2 (limbs 1).length c2) hz2;obtain ⟨e0,e1,e2⟩:=cq3 hF;refine bodyPost_ret (v:=.agg #[.bool s,.slice a1 (limbs N).length c1,.slice a2 (limbs 1).length c2]) (by simp [results,Tryz.results102,go_sem,e0,e1,e2]) rfl ?_;exact ⟨a1,c1,a2,c2,rfl,fun V hV=>HV1.out V ((back3 hV hs0 hgl0).below hb2),fun V hV=>HV2.out V (back3 hV hs1 hgl1),qbm hw2 (nlr _)⟩
end Go.Proofs.YtfaalkneigpcnaaGreatDoor
namespace Go.Proofs.YtfaalkneigpcnaaGreatDoor
def qv (neg:Bool) (n d:Nat):Rat:=mkRat (zval neg n) d
def trip (q:Rat):Bool × Nat × Nat:=(decide (q.num<0),q.num.natAbs,q.den)
def cmpQ (p q:Rat):Int:=if p<q then -1 else if q<p then 1 else 0
theorem qdv (neg:Bool) (n:Nat):(zval neg n).natAbs=n:=by unfold zval;split <;> omega
theorem qu8 (neg:Bool) (n:Nat):zval (!neg) n = -zval neg n:=by unfold zval;cases neg <;> simp
theorem qve (a b:Bool) (n m:Nat):zval (a != b) (n*m)=zval a n*zval b m:=by
 unfold zval;cases a <;> cases b <;> simp [Int.neg_mul,Int.mul_neg]
theorem qhl (z:Int):zval (decide (z<0)) z.natAbs=z:=by
 unfold zval;split
 · next h=>simp at h;omega
 · next h=>simp at h;omega
theorem qvk {neg:Bool} {n g:Nat} (hg:g∣n):zval neg n / (g:Int)=zval neg (n / g):=by
 obtain ⟨k,rfl⟩:=hg;by_cases h0:g=0
 · subst h0;unfold zval;cases neg <;> simp
 ·
  have hp:(g:Int)≠0:=by omega
  rw [Nat.mul_div_cancel_left _ (by omega)];unfold zval
  cases neg
  · simp;rw [Int.mul_ediv_cancel_left _ hp]
  ·
   simp only [if_true,Int.natCast_mul];rw [<- Int.mul_neg,Int.mul_ediv_cancel_left _ hp]
theorem qxe (neg:Bool) (n:Nat):decide (zval neg n<0)=(neg&&decide (0<n)):=by
 unfold zval;cases neg <;> simp
theorem qcl (neg:Bool) (n d:Nat):qao neg n d=trip (qv neg n d):=by
 unfold qao trip qv;rw [Rat.num_mkRat,Rat.den_mkRat];by_cases h0:d=0
 · simp [h0]
 · rw [if_neg h0,if_neg h0,if_neg h0,qdv,Nat.gcd_comm d n,qvk (Nat.gcd_dvd_left n d),qxe,qdv]
theorem qp8 (q:Rat):qv (trip q).1 (trip q).2.1 (trip q).2.2=q:=by
 unfold qv trip;dsimp only;rw [qhl,Rat.mkRat_self]
theorem qb7 (q:Rat):qv (decide (q.num<0)) q.num.natAbs q.den=q:=qp8 q
theorem qd5 (a:Bool) (n m:Nat):zval a (n*m)=zval a n*m:=by unfold zval;cases a <;> simp [Int.neg_mul]
theorem qyk (a b:Bool) (n d m c:Nat) (hd:d≠0) (hc:c≠0):mkRat (zval a n*c+zval b m*d) (d*c)=qv a n d+qv b m c:=by
 unfold qv;rw [Rat.mkRat_add_mkRat _ _ hd hc]
theorem qnt (a b:Bool) (n d m c:Nat):qv (a != b) (n*m) (d*c)=qv a n d*qv b m c:=by
 unfold qv;rw [Rat.mkRat_mul_mkRat,qve]
theorem qyn (a:Bool) (n d:Nat):qv (!a) n d = - qv a n d:=by
 unfold qv;rw [Rat.neg_mkRat,qu8]
theorem qwv {p q:Rat}:cmpQ p q<0↔p<q:=by
 unfold cmpQ;split
 · simp [*]
 · split <;> simp [*]
theorem qxd {p q:Rat}:0<cmpQ p q↔q<p:=by
 unfold cmpQ;split
 · next h=>simp;exact Rat.not_lt.2 (Rat.le_of_lt h)
 · split <;> simp [*]
theorem qpy {p q:Rat}:cmpQ p q<=0↔p<=q:=by
 rw [<- Int.not_lt,qxd,Rat.not_lt]
theorem qpm {p q:Rat}:0<=cmpQ p q↔q<=p:=by
 rw [<- Int.not_lt,qwv,Rat.not_lt]
theorem qsp {p q:Rat}:cmpQ p q=0↔p=q:=by
 constructor
 ·
  intro h;exact Rat.le_antisymm (qpy.1 (by omega)) (qpm.1 (by omega))
 ·
  rintro rfl;have h1:=(qpy (p:=p) (q:=p)).2 Rat.le_refl;have h2:=(qpm (p:=p) (q:=p)).2 Rat.le_refl
  omega
end Go.Proofs.YtfaalkneigpcnaaGreatDoor
namespace Go.Proofs.YtfaalkneigpcnaaGreatDoor
open Go.RowKit
structure QA where
 neg:Bool
 n:Nat
 a:Option Addr
 c:Nat
 m:Nat
 b:Option Addr
 d:Nat
def QAc (w:World) (x:QA) (q:Rat):Prop:=x.neg=decide (q.num<0)/\x.n=(limbs q.num.natAbs).length/\x.m=(limbs q.den).length/\NatR w x.a x.c (limbs q.num.natAbs)/\NatR w x.b x.d (limbs q.den)
theorem QAc.ext {w w':World} {x:QA} {q:Rat} (h:QAc w x q) (e:Ext w w'):QAc w' x q:=⟨h.1,h.2.1,h.2.2.1,h.2.2.2.1.ext e,h.2.2.2.2.ext e⟩
def qsz (q:Rat):Nat:=max (limbs q.num.natAbs).length (limbs q.den).length
def RetR (q:Rat) (w:World) (e:Ending) (w':World):Prop:=∃ x:QA,e=.returned (.agg #[.bool x.neg,.slice x.a x.n x.c,.slice x.b x.m x.d])/\(∀ V,New w.heap.size w' V->QAc V x q)/\Below w.heap.size w w'
theorem qtr {q:Rat} {w:World} {e:Ending} {w':World} (h:RetF (trip q) w e w'):RetR q w e w':=by
 obtain ⟨na,nc,da,dc,rfl,h1,h2,hb⟩:=h;exact ⟨⟨decide (q.num<0),(limbs q.num.natAbs).length,na,nc,(limbs q.den).length,da,dc⟩,rfl,fun V hV=>⟨rfl,rfl,rfl,h1 V hV,h2 V hV⟩,hb⟩
theorem qma {a b c:Nat} (h:a<=b+c):(limbs a).length<=max (limbs b).length (limbs c).length+1:=Nat.le_trans (qap h) (qcf b c)
theorem qk1 (z:Int) (d:Nat) (hd:d≠0):(mkRat z d).num.natAbs<=z.natAbs/\(mkRat z d).den<=d:=by
 rw [Rat.num_mkRat,Rat.den_mkRat,if_neg hd,if_neg hd];exact ⟨Int.natAbs_ediv_le_natAbs _ _,Nat.div_le_self _ _⟩
theorem qfj {q:Rat} {k:Nat} (h1:(limbs q.num.natAbs).length<=k) (h2:(limbs q.den).length<=k):qsz q<=k:=by unfold qsz;omega
theorem qbb (q:Rat):(limbs q.num.natAbs).length<=qsz q:=Nat.le_max_left _ _
theorem qba (q:Rat):(limbs q.den).length<=qsz q:=Nat.le_max_right _ _
theorem zz23 {P:Prop} (h:P:=by
 have b2:=qap h2;have c1:=qbb p;have c2:=qbb q;have c3:=qba p;have c4:=qba q;exact qfj (by omega) (by omega)
 ):P:=h
theorem qkv (p q:Rat):qsz (p*q)<=qsz p+qsz q:=by
 rw [Rat.mul_def'];have h0:p.den*q.den≠0:=Nat.mul_ne_zero p.den_nz q.den_nz;obtain ⟨h1,h2⟩:=qk1 (p.num*q.num) (p.den*q.den) h0;rw [Int.natAbs_mul] at h1;have a1:=qav p.num.natAbs q.num.natAbs;have a2:=qav p.den q.den;have b1:=qap h1;exact zz23
theorem qpj (q:Rat):qsz (-q)=qsz q:=by unfold qsz;simp
theorem qkq (p q:Rat):qsz (p+q)<=qsz p+qsz q+1:=by
 rw [Rat.add_def'];have h0:p.den*q.den≠0:=Nat.mul_ne_zero p.den_nz q.den_nz;obtain ⟨h1,h2⟩:=qk1 (p.num*q.den+q.num*p.den) (p.den*q.den) h0;have h3:(p.num*q.den+q.num*p.den).natAbs<=p.num.natAbs*q.den+q.num.natAbs*p.den:=by
  refine Nat.le_trans (Int.natAbs_add_le _ _) ?_;rw [Int.natAbs_mul,Int.natAbs_mul];exact nlr _
 have a1:=qav p.num.natAbs q.den;have a2:=qav q.num.natAbs p.den;have a3:=qav p.den q.den;have a4:=qma (Nat.le_trans h1 h3);exact zz23
theorem qwy (p q:Rat):qsz (p-q)<=qsz p+qsz q+1:=by
 rw [Rat.sub_eq_add_neg];have:=qkq p (-q);rw [qpj] at this;exact this
theorem qrr (neg:Bool) (n d:Nat) (h0:d≠0):sgnZ (qao neg n d).1 (qao neg n d).2.1=sgnZ neg n:=by
 unfold qao;rw [if_neg h0];dsimp only;unfold sgnZ;by_cases hn:n=0
 · subst hn;simp
 ·
  have hg:0<Nat.gcd n d:=Nat.gcd_pos_of_pos_left _ (by omega);have hq:0<n / Nat.gcd n d:=Nat.div_pos (Nat.le_of_dvd (by omega) (Nat.gcd_dvd_left n d)) hg;rw [if_neg (by omega),if_neg hn,decide_eq_true hq,Bool.and_true]
theorem qxp (s:Bool) (a1:Option Addr) (k1 c1:Nat) (a2:Option Addr) (k2 c2:Nat) (w:World):(Instr.field 51 (.agg #[.bool s,.slice a1 k1 c1,.slice a2 k2 c2]) 0).run Tryz.prog w=.ok (.agg #[.bool s,.slice a1 k1 c1]) w:=by kernel_rfl
theorem qhm (neg:Bool) (l m:List Int) (n:Nat) (a a':Option Addr) (c c':Nat) (w:World) (h:NatR w a c l) (h':NatR w a' c' m) (hn:val l=n) (h0:val m≠0) (hl:l.length<=2000000) (hm:m.length<=2000000) :
  Calls Tryz.prog 113 #[.agg #[.bool neg,.slice a l.length c,.slice a' m.length c']] w fun e w'=>e=.returned (.int .i64 (sgnZ neg n))/\Below w.heap.size w w':=by
 have CP:=fun W (hW:Below w.heap.size w W)=>qby neg l m a a' c c' W (h'.ext (xbw hW)) h0 (by omega)
 have CS:=fun W (hW:Below w.heap.size w W)=>qes neg l n a c W (h.ext (xbw hW)) hn (by omega)
 obtain ⟨R,hR⟩:∃ q,sgnZ neg n=q:=⟨_,rfl⟩
 rw [hR] at CS ⊢;replace CP:=Hd CP;replace CS:=Hd CS;have hz:Blk (w.alloc (.cells #[.bool neg,.slice a l.length c,.slice a' m.length c'] 51)) w.heap.size 51 #[.bool neg,.slice a l.length c,.slice a' m.length c']:=Blk.new w _ _;have hb0:Below w.heap.size w (w.alloc (.cells #[.bool neg,.slice a l.length c,.slice a' m.length c'] 51)):=brf.alloc (nlr _) _;clear h h' hn h0 hR;go_enter Tryz.func113,Tryz.ntmps113;go_wp2_with fail;revert hz hb0;generalize w.alloc (.cells #[.bool neg,.slice a l.length c,.slice a' m.length c'] 51)=w0;intro hz hb0;obtain ⟨z0,z1,z2⟩:=cq3 hz;go_wp2_with fail;refine (CP.out _ hb0).mono ?_;rintro e w1 ⟨rfl,hb1⟩;have hw1:=bth hb0 hb1;clear z0 z1 z2 hz hb0 hb1;have hy:Blk (w1.alloc (.cells #[.bool neg,.slice a l.length c] 49)) w1.heap.size 49 #[.bool neg,.slice a l.length c]:=Blk.new w1 _ _;have hw2:=hw1.alloc hw1.size (.cells #[.bool neg,.slice a l.length c] 49)
 go_wp2_with fail;refine (CS.out _ hw2).mono ?_;rintro e w2 ⟨rfl,hb2⟩;go_wp2;go_ret;exact ⟨rfl,bth hw2 hb2⟩
theorem qwp (s1 s2:Bool) (P1 D1 P2 D2:Nat) (a1 b1 a2 b2:Option Addr) (c1 d1 c2 d2:Nat) (w:World) (r1:NatR w a1 c1 (limbs P1)) (r2:NatR w b1 d1 (limbs D1)) (r3:NatR w a2 c2 (limbs P2)) (r4:NatR w b2 d2 (limbs D2))
  (hD1:D1≠0) (hD2:D2≠0) (l1:(limbs P1).length<=400000) (l2:(limbs D1).length<=400000) (l3:(limbs P2).length<=400000) (l4:(limbs D2).length<=400000):Calls Tryz.prog 108 #[.agg #[.bool s1,.slice a1 (limbs P1).length c1,.slice b1 (limbs D1).length d1],.agg #[.bool s2,.slice a2 (limbs P2).length c2,.slice b2 (limbs D2).length d2]] w (RetF (qao (s1 != s2) (P1*P2) (D1*D2)) w):=by
 have m1:=qav P1 P2;have m2:=qav D1 D2;have CP1:=fun W (hW:Below w.heap.size w W)=>qby s1 (limbs P1) (limbs D1) a1 b1 c1 d1 W (r2.ext (xbw hW)) (by rw [qaa];exact hD1) (by omega)
 have CP2:=fun W (hW:Below w.heap.size w W)=>qby s2 (limbs P2) (limbs D2) a2 b2 c2 d2 W (r4.ext (xbw hW)) (by rw [qaa];exact hD2) (by omega)
 have CZ:=fun W (hW:Below w.heap.size w W)=>qdr s1 s2 (limbs P1) (limbs P2) P1 P2 a1 a2 c1 c2 W (r1.ext (xbw hW)) (r3.ext (xbw hW)) (qaa _) (qaa _) (by omega) (by omega)
 have CN:=fun W (hW:Below w.heap.size w W)=>qiu (limbs D1) (limbs D2) D1 D2 b1 b2 d1 d2 W (r2.ext (xbw hW)) (r4.ext (xbw hW)) (qaa _) (qaa _) (by omega) (by omega)
 have CR:=fun a b c d W h h'=>qdo ((s1 != s2)&&decide (0<P1*P2)) (limbs (P1*P2)) (limbs (D1*D2)) (P1*P2) (D1*D2) a b c d W h h' (qaa _) (qaa _) (by omega) (by omega)
 rw [qjb] at CR;obtain ⟨R,hR⟩:∃ q,((s1 != s2)&&decide (0<P1*P2))=q:=⟨_,rfl⟩
 rw [hR] at CZ CR;obtain ⟨t,ht⟩:∃ t,qao (s1 != s2) (P1*P2) (D1*D2)=t:=⟨_,rfl⟩
 rw [ht] at CR ⊢;obtain ⟨s,N,D⟩:=t;clear m1 m2 hR ht hD1 hD2;revert CZ CN CR;generalize P1*P2=PP;generalize D1*D2=DD;intro CN CZ CR;unfold RetF at CR ⊢;dsimp only at CR ⊢;replace CP1:=Hd CP1;replace CP2:=Hd CP2;replace CZ:=Hd CZ;replace CN:=Hd CN;replace CR:=Hd CR;clear r1 r2 r3 r4;go_enter Tryz.func108,Tryz.ntmps108;go_wp2_with fail;refine qad (fun W=>Blk W w.heap.size 51 #[.bool s1,.slice a1 (limbs P1).length c1,.slice b1 (limbs D1).length d1]/\Blk W (w.heap.size+1) 51 #[.bool s2,.slice a2 (limbs P2).length c2,.slice b2 (limbs D2).length d2]/\Blk W (w.heap.size+1+1) 51 #[.bool false,.slice none 0 0,.slice none 0 0]/\Below w.heap.size w W/\w.heap.size<w.heap.size+1/\w.heap.size+1<w.heap.size+1+1/\w.heap.size+1+1<W.heap.size) ⟨((Blk.new w _ _).alloc _).alloc _,(qa4 w _ _ _).alloc _,qbv w _ _ _ _,by go_grown,by omega,by omega,by simp⟩ ?_;rintro w0 ⟨hx,hy,hz,hw0,hg1,hg2,hg3⟩
 revert hx hy hz hg1 hg2 hg3;generalize w.heap.size+1+1=g3;generalize w.heap.size+1=g2;intro hx hy hz hg1 hg2 hg3;refine (CP1.out _ hw0).mono ?_;rintro e w1 ⟨rfl,hb1⟩;replace hy:=hy.below' hb1;replace hz:=hz.below' hb1;have hw1:=bth hw0 hb1;have hs1:=hb1.size;clear hx;obtain ⟨z0,z1,z2⟩:=cq3 hy;have lt2:=hy.lt;have lt3:=hz.lt;go_wp2_with fail;refine qad (fun W=>Blk W w1.heap.size 49 #[.bool s1,.slice a1 (limbs P1).length c1]/\Blk W g3 51 #[.bool false,.slice none 0 0,.slice none 0 0]/\Below w.heap.size w W/\w1.heap.size<W.heap.size) ⟨by ((with_reducible repeat first|assumption|(apply bF;focus omega)|apply bS|(apply bN;focus (simp;done))|apply bA|apply bD);all_goals rfl),by ((with_reducible repeat first|assumption|(apply bF;focus omega)|apply bS|(apply bN;focus (simp;done))|apply bA|apply bD);all_goals rfl),by go_grown,by simp⟩ ?_;clear z0 z1 z2 lt2 lt3 hy hz;rintro w2 ⟨hu,hz,hw2,hs2⟩
 refine (CP2.out _ hw2).mono ?_;rintro e w3 ⟨rfl,hb3⟩;replace hu:=hu.below' hb3;replace hz:=hz.below' hb3;have hw3:=bth hw2 hb3;have hs3:=hb3.size;obtain ⟨z0,z1⟩:=cq2 hu;have hlt3:w1.heap.size<w3.heap.size:=by omega
 go_wp2_with fail;refine qad (fun W=>Blk W g3 51 #[.bool false,.slice none 0 0,.slice none 0 0]/\Below w.heap.size w W/\w3.heap.size<=W.heap.size) ⟨by ((with_reducible repeat first|assumption|(apply bF;focus omega)|apply bS|(apply bN;focus (simp;done))|apply bA|apply bD);all_goals rfl),by go_grown,by simp⟩ ?_;clear z0 z1 hu hz;rintro w4 ⟨hz,hw4,hs4⟩;refine (CZ.out _ hw4).mono ?_;rintro e w5 ⟨a5,c5,rfl,hV,hb5⟩;replace hz:=hz.below' hb5;have hw5:=bth hw4 hb5;have hs5:=hb5.size;have hr5:=hV w5 (New.refl _ _);clear hV;have HR5:=Hd hr5;clear hr5;go_wp2_with fail;refine (CN.out _ hw5).mono ?_;rintro e w6 ⟨a6,c6,rfl,hV,hb6⟩;replace hz:=hz.below' hb6;have hw6:=bth hw5 hb6;have hs6:=hb6.size;have CG:=CR.out a5 a6 c5 c6 w6 (HR5.out.ext (xbw hb6)) (hV w6 (New.refl _ _));replace CG:=Hd CG;clear hV;go_wp2_with fail;refine CG.out.mono ?_;rintro e w7 ⟨a8,c8,b8,d8,rfl,hV1,hV2,hb7⟩
 replace hz:=hz.below' hb7;have hw8:=bth hw6 hb7;have hwB:=hw6.size;have HV1:=Hd hV1;have HV2:=Hd hV2;clear hV1 hV2;obtain ⟨z0,z1,z2⟩:=cq3 hz;obtain ⟨f0,f1,f2⟩:=fq3 hz;go_wp2;have hF:=blk3 (x:=.bool s) (y:=.slice a8 (limbs N).length c8) (z:=.slice b8 (limbs D).length d8) hz;obtain ⟨e0,e1,e2⟩:=cq3 hF;refine bodyPost_ret (v:=.agg #[.bool s,.slice a8 (limbs N).length c8,.slice b8 (limbs D).length d8]) (by simp [results,Tryz.results108,go_sem,e0,e1,e2]) rfl ?_;exact ⟨a8,c8,b8,d8,rfl,fun V hV=>HV1.out V (back3 hV hwB (by omega)),fun V hV=>HV2.out V (back3 hV hwB (by omega)),qbm hw8 (by omega)⟩
theorem qdk (n:Nat) (a:Option Addr) (c:Nat) (w:World) :
  Calls Tryz.prog 187 #[.slice a n c] w fun e w'=>e=.returned (.agg #[.bool false,.slice a n c])/\Below w.heap.size w w':=by
 go_enter Tryz.func187,Tryz.ntmps187;go_wp2;have hF:=Blk.new w 49 #[.bool false,.slice a n c];obtain ⟨e0,e1⟩:=cq2 hF;refine bodyPost_ret (v:=.agg #[.bool false,.slice a n c]) (by simp [results,Tryz.results187,go_sem]) rfl ?_;exact ⟨rfl,brf.alloc (nlr _) _⟩
theorem qr3 (s1 s2:Bool) (P1 D1 P2 D2:Nat) (hD1:D1≠0) (hD2:D2≠0):cmpI (zval s1 (P1*D2)) (zval s2 (P2*D1))=cmpQ (qv s1 P1 D1) (qv s2 P2 D2):=by
 have h1:∀ (z1 z2:Int) (e1 e2:Nat),e1≠0->e2≠0->(mkRat z1 e1<mkRat z2 e2↔z1*e2<z2*e1):=by
  intro z1 z2 e1 e2 n1 n2;have p1:(0:Rat)<((e1:Nat):Rat):=by exact_mod_cast (show 0<e1 by omega)
  have p2:(0:Rat)<((e2:Nat):Rat):=by exact_mod_cast (show 0<e2 by omega)
  rw [Rat.mkRat_eq_div,Rat.mkRat_eq_div,Rat.div_lt_iff p1];have e3:(z2:Rat) / ((e2:Nat):Rat)*((e1:Nat):Rat)=((z2:Rat)*((e1:Nat):Rat)) / ((e2:Nat):Rat):=by
   rw [Rat.div_def,Rat.div_def,Rat.mul_assoc,Rat.mul_comm (((e2:Nat):Rat)⁻¹),<- Rat.mul_assoc]
  rw [e3,Rat.lt_div_iff p2]
  exact_mod_cast Iff.rfl
 unfold cmpI cmpQ qv;rw [qd5,qd5];simp only [h1 _ _ _ _ hD1 hD2,h1 _ _ _ _ hD2 hD1]
theorem qyp (s1 s2:Bool) (P1 D1 P2 D2:Nat) (hD1:D1≠0) (hD2:D2≠0):(sgnZ s1 P1<sgnZ s2 P2->cmpQ (qv s1 P1 D1) (qv s2 P2 D2) = -1)/\(sgnZ s2 P2<sgnZ s1 P1->cmpQ (qv s1 P1 D1) (qv s2 P2 D2)=1):=by
 rw [<- qr3 s1 s2 P1 D1 P2 D2 hD1 hD2,qnd];have e:∀ (s:Bool) (a b:Nat),b≠0->sgnZ s (a*b)=sgnZ s a:=by
  intro s a b hb;unfold sgnZ;by_cases ha:a=0
  · subst ha;simp
  · rw [if_neg (Nat.mul_ne_zero ha hb),if_neg ha]
 rw [e _ _ _ hD2,e _ _ _ hD1]
 constructor
 · intro h;rw [if_pos h]
 · intro h;rw [if_neg (by omega),if_pos h]
theorem qvm (s1 s2:Bool) (P1 D1 P2 D2:Nat) (a1 b1 a2 b2:Option Addr) (c1 d1 c2 d2:Nat) (w:World) (r1:NatR w a1 c1 (limbs P1)) (r2:NatR w b1 d1 (limbs D1)) (r3:NatR w a2 c2 (limbs P2)) (r4:NatR w b2 d2 (limbs D2))
  (hD1:D1≠0) (hD2:D2≠0) (l1:(limbs P1).length<=400000) (l2:(limbs D1).length<=400000) (l3:(limbs P2).length<=400000) (l4:(limbs D2).length<=400000):Calls Tryz.prog 238 #[.agg #[.bool s1,.slice a1 (limbs P1).length c1,.slice b1 (limbs D1).length d1],.agg #[.bool s2,.slice a2 (limbs P2).length c2,.slice b2 (limbs D2).length d2]] w fun e w'=>e=.returned (.int .i64 (cmpQ (qv s1 P1 D1) (qv s2 P2 D2)))/\Below w.heap.size w w':=by
 have m1:=qav P1 D2;have m2:=qav P2 D1;have CS1:=fun W (hW:Below w.heap.size w W)=>qhm s1 (limbs P1) (limbs D1) P1 a1 b1 c1 d1 W (r1.ext (xbw hW)) (r2.ext (xbw hW)) (qaa _) (by rw [qaa];exact hD1) (by omega) (by omega)
 have CS2:=fun W (hW:Below w.heap.size w W)=>qhm s2 (limbs P2) (limbs D2) P2 a2 b2 c2 d2 W (r3.ext (xbw hW)) (r4.ext (xbw hW)) (qaa _) (by rw [qaa];exact hD2) (by omega) (by omega)
 have CP1:=fun W (hW:Below w.heap.size w W)=>qby s1 (limbs P1) (limbs D1) a1 b1 c1 d1 W (r2.ext (xbw hW)) (by rw [qaa];exact hD1) (by omega)
 have CP2:=fun W (hW:Below w.heap.size w W)=>qby s2 (limbs P2) (limbs D2) a2 b2 c2 d2 W (r4.ext (xbw hW)) (by rw [qaa];exact hD2) (by omega)
 have CZ1:=fun W (hW:Below w.heap.size w W)=>qdr s1 false (limbs P1) (limbs D2) P1 D2 a1 b2 c1 d2 W (r1.ext (xbw hW)) (r4.ext (xbw hW)) (qaa _) (qaa _) (by omega) (by omega)
 have CZ2:=fun W (hW:Below w.heap.size w W)=>qdr s2 false (limbs P2) (limbs D1) P2 D1 a2 b1 c2 d1 W (r3.ext (xbw hW)) (r2.ext (xbw hW)) (qaa _) (qaa _) (by omega) (by omega)
 have x1:(s1 != false)=s1:=by cases s1 <;> rfl
 have x2:(s2 != false)=s2:=by cases s2 <;> rfl
 simp only [x1] at CZ1;simp only [x2] at CZ2;have CC:=fun a b c d W h h'=>qwb (s1&&decide (0<P1*D2)) (s2&&decide (0<P2*D1)) (limbs (P1*D2)) (limbs (P2*D1)) (P1*D2) (P2*D1) a b c d W h h' (qaa _) (qaa _) (by omega) (by omega)
 simp only [qiv,qr3 s1 s2 P1 D1 P2 D2 hD1 hD2] at CC;have hsg:=qyp s1 s2 P1 D1 P2 D2 hD1 hD2;obtain ⟨R,hR⟩:∃ q,cmpQ (qv s1 P1 D1) (qv s2 P2 D2)=q:=⟨_,rfl⟩
 rw [hR] at hsg ⊢;simp only [hR] at CC;obtain ⟨p1,hp1⟩:∃ q,(s1&&decide (0<P1*D2))=q:=⟨_,rfl⟩
 obtain ⟨p2,hp2⟩:∃ q,(s2&&decide (0<P2*D1))=q:=⟨_,rfl⟩
 simp only [hp1] at CZ1 CC;simp only [hp2] at CZ2 CC;have HSG:=Hd hsg;clear hsg hR hp1 hp2 x1 x2 m1 m2 hD1 hD2;revert CZ1 CZ2 CC;generalize P1*D2=PP;generalize P2*D1=DD;intro CZ1 CZ2 CC;revert CS1 CS2 HSG;generalize sgnZ s1 P1=s;generalize sgnZ s2 P2=t;intro CS1 CS2 HSG;replace CS1:=Hd CS1;replace CS2:=Hd CS2;replace CP1:=Hd CP1;replace CP2:=Hd CP2;replace CZ1:=Hd CZ1;replace CZ2:=Hd CZ2;replace CC:=Hd CC;have W1:=fun W=>qdk (limbs D2).length b2 d2 W
 have W2:=fun W=>qdk (limbs D1).length b1 d1 W
 replace W1:=Hd W1;replace W2:=Hd W2;clear r1 r2 r3 r4;go_enter Tryz.func238,Tryz.ntmps238;go_wp2;refine qab (fun W=>Blk W w.heap.size 51 #[.bool s1,.slice a1 (limbs P1).length c1,.slice b1 (limbs D1).length d1]/\Blk W (w.heap.size+1) 51 #[.bool s2,.slice a2 (limbs P2).length c2,.slice b2 (limbs D2).length d2]/\Below w.heap.size w W/\w.heap.size<w.heap.size+1/\w.heap.size+1<W.heap.size) ⟨(Blk.new w _ _).alloc _,qa4 w _ _ _,by go_grown,by omega,by simp⟩ ?_;rintro w0 ⟨hx,hy,hw0,hg1,hg2⟩;revert hx hy hg1 hg2;generalize w.heap.size+1=g2;intro hx hy hg1 hg2;have k0:=held (hx.cell 0);have k1:=held (hx.cell 1);have k2:=held (hx.cell 2);have k3:=held (hy.cell 0);have k4:=held (hy.cell 1);have k5:=held (hy.cell 2);have s0:Below w0.heap.size w0 w0.drew:=brf.drew;refine wrx (S:=Below w0.heap.size w0) [(0,.q),(2,.q),(1,.l),(3,.t),(4,.p),(5,.p)] (s0) ?_
 iterate 2 (refine qaj rfl rfl fun K hK=>xq ?_;go_simp;refine hK _ _ ?_;clear hK K)
 refine qag rfl rfl (fun K hK=>?_);go_simp;refine (CS1.out _ (bth hw0 s0)).mono ?_;rintro r w1 ⟨rfl,hb1⟩;dsimp only;refine hK.out _ _ (bth s0 hb1) (fun _=>?_);clear hK K;have t1:=bth s0 hb1;refine qae rfl rfl (fun K hK=>?_);go_simp;refine (CS2.out _ (bth hw0 t1)).mono ?_;rintro r w2 ⟨rfl,hb2⟩;dsimp only;refine hK.out _ _ ?_;clear hK K;have t2:=bth t1 hb2
 iterate 2 (refine qaz rfl rfl fun K hK=>xp ?_;go_simp;refine hK _ _ ?_;clear hK K)
 refine qai ?_;replace hx:=hx.below' t2;replace hy:=hy.below' t2;have hw2:=bth hw0 t2;have hs2:=t2.size;clear k0 k1 k2 k3 k4 k5 s0 t1 t2 hb1 hb2 CS1 CS2;by_cases h1:s<t
 ·
  obtain rfl:R = -1:=HSG.out.1 h1;have hne:(s != t)=true:=by simp;omega
  go_wp2;go_ret;exact ⟨rfl,hw2⟩
 ·
  by_cases h2:t<s
  ·
   obtain rfl:R=1:=HSG.out.2 h2;have hne:(s != t)=true:=by simp;omega
   go_wp2;go_ret;exact ⟨rfl,hw2⟩
  ·
   have hne:(s != t)=false:=by simp;omega
   clear HSG;obtain ⟨z0,z1,z2⟩:=cq3 hx;go_wp2_with fail;refine (CP1.out _ hw2).mono ?_;rintro e w3 ⟨rfl,hb3⟩;replace hy:=hy.below' hb3;have hw3:=bth hw2 hb3;have hs3:=hb3.size;clear z0 z1 z2 hx hne h1 h2;obtain ⟨z0,z1,z2⟩:=cq3 hy;have lt2:=hy.lt;go_wp2_with fail;refine qad (fun W=>Blk W w3.heap.size 49 #[.bool s1,.slice a1 (limbs P1).length c1]/\Below w.heap.size w W/\w3.heap.size<W.heap.size) ⟨by ((with_reducible repeat first|assumption|(apply bF;focus omega)|apply bS|(apply bN;focus (simp;done))|apply bA|apply bD);all_goals rfl),by go_grown,by simp⟩ ?_;clear z0 z1 z2 lt2 hy;rintro w4 ⟨hu,hw4,hs4⟩;refine (CP2.out _ hw4).mono ?_;rintro e w5 ⟨rfl,hb5⟩;replace hu:=hu.below' hb5;have hw5:=bth hw4 hb5;have hs5:=hb5.size;have hlt5:w3.heap.size<w5.heap.size:=by omega
   go_wp2;refine qab (fun W=>Blk W w3.heap.size 49 #[.bool s1,.slice a1 (limbs P1).length c1]/\Blk W w5.heap.size 49 #[.bool s2,.slice a2 (limbs P2).length c2]/\Below w.heap.size w W) (by refine ⟨?_,?_,?_⟩<;>first|((with_reducible repeat first|assumption|(apply bF;focus omega)|apply bS|(apply bN;focus (simp;done))|apply bA|apply bD);all_goals rfl)|go_grown) ?_;clear hu;rintro w6 ⟨hu,hv,hw6⟩;have k0:=held (hu.cell 0);have k1:=held (hu.cell 1);have k2:=held (hv.cell 0);have k3:=held (hv.cell 1);have s0:Below w6.heap.size w6 w6.drew:=brf.drew;refine wrx (S:=Below w6.heap.size w6) [(0,.q),(1,.q),(4,.q),(5,.q),(2,.l),(3,.l),(6,.l),(7,.t),(8,.t),(9,.p)] (s0) ?_
   iterate 4 (refine qaj rfl rfl fun K hK=>xq ?_;go_simp;refine hK _ _ ?_;clear hK K)
   refine qag rfl rfl (fun K hK=>?_);go_simp;refine (W1.out _).mono ?_;rintro r w7 ⟨rfl,hb7⟩;dsimp only;refine hK.out _ _ (bth s0 hb7) (fun _=>?_);clear hK K;have t3:=bth s0 hb7;refine qag rfl rfl (fun K hK=>?_);go_simp;refine (CZ1.out _ (bth hw6 t3)).mono ?_;rintro r w8 ⟨a8,c8,rfl,hV8,hb8⟩;dsimp only;refine hK.out _ _ (bth t3 hb8) (fun _=>?_);clear hK K;have t4:=bth t3 hb8;have HV8:=Hd hV8;clear hV8;refine qag rfl rfl (fun K hK=>?_);go_simp;refine (W2.out _).mono ?_;rintro r w9 ⟨rfl,hb9⟩;dsimp only;refine hK.out _ _ (bth t4 hb9) (fun _=>?_);clear hK K;have t5:=bth t4 hb9;refine qae rfl rfl (fun K hK=>?_);go_simp;refine (CZ2.out _ (bth hw6 t5)).mono ?_;rintro r w10 ⟨a9,c9,rfl,hV9,hb10⟩;dsimp only;refine hK.out _ _ ?_;clear hK K;have t6:=bth t5 hb10;have CD:=CC.out a8 a9 c8 c9 w10 (HV8.out w10 (((New.refl _ _).below hb10).below hb9)) (hV9 w10 (New.refl _ _));replace CD:=Hd CD;clear hV9
   refine qae rfl rfl (fun K hK=>?_);go_simp;refine (CD.out).mono ?_;rintro r w11 ⟨rfl,hb11⟩;dsimp only;refine hK.out _ _ ?_;clear hK K;have t7:=bth t6 hb11
   iterate 1 (refine qaz rfl rfl fun K hK=>xp ?_;go_simp;refine hK _ _ ?_;clear hK K)
   refine qai ?_;go_wp2;go_ret;exact ⟨rfl,bth hw6 t7⟩
theorem qno (s1 s2:Bool) (n1 n2:Nat) (a1 a2:Option Addr) (c1 c2 g cp:Nat) (w:World) (r1:NatR w a1 c1 (limbs n1)) (r2:NatR w a2 c2 (limbs n2)) (l1:(limbs n1).length<=2000000) (l2:(limbs n2).length<=2000000)
  (k0:w.cell? ⟨g,0,none⟩=some (.bool s1)) (k1:w.cell? ⟨g,1,none⟩=some (.slice a1 (limbs n1).length c1)) (k2:w.cell? ⟨g,2,none⟩=some (.bool s2)) (k3:w.cell? ⟨g,3,none⟩=some (.slice a2 (limbs n2).length c2)) :
  Calls Tryz.prog 186 #[.slice (some ⟨g,0,none⟩) 2 cp] w (RetI (zval s1 n1+zval s2 n2) w):=by
 have hg:=World.block_lt_of_cell? w _ k0;simp only at hg;have C1:=fun a c W (hW:Below w.heap.size w W) (h:NatR W a c (limbs 0))=>qmy false s1 (limbs 0) (limbs n1) 0 n1 a a1 c c1 W h (r1.ext (xbw hW)) (qaa _) (qaa _) (by rw [qal];decide) (by omega)
 have e0:zval false 0+zval s1 n1=zval s1 n1:=by simp [zval]
 simp only [e0,qal] at C1;have C2:=fun a c W (hW:Below w.heap.size w W) h=>qmy (decide (zval s1 n1<0)) s2 (limbs (zval s1 n1).natAbs) (limbs n2) (zval s1 n1).natAbs n2 a a2 c c2 W h (r2.ext (xbw hW)) (qaa _) (qaa _) (by rw [qdv];omega) (by omega)
 simp only [qhl] at C2;revert C1 C2;generalize zval s1 n1=zz;obtain ⟨z,hz⟩:∃ z,zz+zval s2 n2=z:=⟨_,rfl⟩
 rw [hz];intro C1 C2;unfold RetI RetZ at C1 C2 ⊢;replace C1:=Hd C1;replace C2:=Hd C2;have K0:=Hd (fun W (hW:Below w.heap.size w W)=>held k0 W hW);have K1:=Hd (fun W (hW:Below w.heap.size w W)=>held k1 W hW);have K2:=Hd (fun W (hW:Below w.heap.size w W)=>held k2 W hW);have K3:=Hd (fun W (hW:Below w.heap.size w W)=>held k3 W hW);clear r1 r2 l1 l2 k0 k1 k2 k3 hz e0;go_enter Tryz.func186,Tryz.ntmps186;go_wp2;refine qab (fun W=>Blk W w.heap.size 49 #[.bool false,.slice none 0 0]/\Blk W (w.heap.size+1) 49 #[.bool false,.slice none 0 0]/\Below w.heap.size w W/\w.heap.size<w.heap.size+1/\w.heap.size+1<W.heap.size) ⟨(Blk.new w _ _).alloc _,qa4 w _ _ _,by go_grown,by omega,by simp⟩ ?_;rintro w0 ⟨hx,hy,hw0,hg1,hg2⟩;revert hx hy hg1 hg2;generalize w.heap.size+1=g2;intro hx hy hg1 hg2;refine wp_loop_rounds 3 ?_;rw [rounds_succ]
 have z0:=K0.out _ hw0;have z1:=K1.out _ hw0;have y0:=hy.cell 0;have y1:=hy.cell 1;have ltg:g<w0.heap.size:=by omega
 have lt2:=hy.lt;go_wp2_with fail;refine qad (fun W=>Blk W w.heap.size 49 #[.bool false,.slice none 0 0]/\Blk W g2 49 #[.bool false,.slice none 0 0]/\Below w.heap.size w W/\w0.heap.size<W.heap.size) ⟨by ((with_reducible repeat first|assumption|(apply bF;focus omega)|apply bS|(apply bN;focus (simp;done))|apply bA|apply bD);all_goals rfl),by ((with_reducible repeat first|assumption|(apply bF;focus omega)|apply bS|(apply bN;focus (simp;done))|apply bA|apply bD);all_goals rfl),by go_grown,by simp⟩ ?_;clear z0 z1 y0 y1 ltg lt2 hx hy;rintro w1 ⟨hx,hy,hw1,hs1⟩;refine (C1.out none 0 _ hw1 SlR.nil).mono ?_;rintro e w2 ⟨a5,c5,rfl,hV,hb2⟩;replace hx:=hx.below' hb2;replace hy:=hy.below' hb2;have hw2:=bth hw1 hb2;have hs2:=hb2.size;have H5:Kp (fun V=>NatR V a5 c5 (limbs zz.natAbs)) w1.heap.size w2.heap.size w2:=Kp.made hV;replace H5:=Hd H5;clear hV;obtain ⟨b1,hb1⟩:∃ b,decide (zz<0)=b:=⟨_,rfl⟩
 rw [hb1];have C3:=C2.out;rw [hb1] at C3;replace C3:=Hd C3;clear C2 hb1;obtain ⟨f0,f1⟩:=fq2 hy;obtain ⟨y0,y1⟩:=cq2 hy;go_wp2;rw [rounds_succ];refine qab (fun W=>Blk W w.heap.size 49 #[.bool false,.slice none 0 0]/\Blk W g2 49 #[.bool b1,.slice a5 (limbs zz.natAbs).length c5]/\Below w.heap.size w W/\w2.heap.size<=W.heap.size/\Kp (fun V=>NatR V a5 c5 (limbs zz.natAbs)) w1.heap.size w2.heap.size W) ⟨by ((with_reducible repeat first|assumption|(apply bF;focus omega)|apply bS|(apply bN;focus (simp;done))|apply bA|apply bD);all_goals rfl),by ((with_reducible repeat first|assumption|(apply bF;focus omega)|apply bS|(apply bN;focus (simp;done))|apply bA|apply bD);all_goals rfl),by go_grown,by simp,by (with_reducible repeat first | exact H5.out | (refine Kp.setc ?_ ?_;focus omega) | refine Kp.alloc ?_ | refine Kp.drew ?_)⟩ ?_;clear f0 f1 y0 y1 hx hy H5;rintro w3 ⟨hx,hy,hw3,hs3,H5⟩
 replace H5:=Hd H5;have z0:=K2.out _ hw3;have z1:=K3.out _ hw3;have y0:=hy.cell 0;have y1:=hy.cell 1;have ltg:g<w3.heap.size:=by omega
 have lt2:=hy.lt;go_wp2_with fail;refine qad (fun W=>Blk W w.heap.size 49 #[.bool false,.slice none 0 0]/\Blk W g2 49 #[.bool b1,.slice a5 (limbs zz.natAbs).length c5]/\Below w.heap.size w W/\w3.heap.size<W.heap.size/\Kp (fun V=>NatR V a5 c5 (limbs zz.natAbs)) w1.heap.size w2.heap.size W) ⟨by ((with_reducible repeat first|assumption|(apply bF;focus omega)|apply bS|(apply bN;focus (simp;done))|apply bA|apply bD);all_goals rfl),by ((with_reducible repeat first|assumption|(apply bF;focus omega)|apply bS|(apply bN;focus (simp;done))|apply bA|apply bD);all_goals rfl),by go_grown,by simp,by (with_reducible repeat first | exact H5.out | (refine Kp.setc ?_ ?_;focus omega) | refine Kp.alloc ?_ | refine Kp.drew ?_)⟩ ?_;clear z0 z1 y0 y1 ltg lt2 hx hy H5;rintro w4 ⟨hx,hy,hw4,hs4,H5⟩;refine (C3.out a5 c5 _ hw4 H5.now).mono ?_;rintro e w5 ⟨a6,c6,rfl,hV,hb5⟩;replace hx:=hx.below' hb5
 replace hy:=hy.below' hb5;have hw5:=bth hw4 hb5;have hs5:=hb5.size;have H6:Kp (fun V=>NatR V a6 c6 (limbs z.natAbs)) w4.heap.size w5.heap.size w5:=Kp.made hV;replace H6:=Hd H6;obtain ⟨b2,hb2⟩:∃ b,decide (z<0)=b:=⟨_,rfl⟩
 rw [hb2];have HB2:=Hd hb2;clear hV H5 hb2 C1 C3 K0 K1 K2 K3;obtain ⟨f0,f1⟩:=fq2 hy;obtain ⟨y0,y1⟩:=cq2 hy;go_wp2;rw [rounds_succ];refine qab (fun W=>Blk W w.heap.size 49 #[.bool false,.slice none 0 0]/\Blk W g2 49 #[.bool b2,.slice a6 (limbs z.natAbs).length c6]/\Below w.heap.size w W/\w5.heap.size<=W.heap.size/\Kp (fun V=>NatR V a6 c6 (limbs z.natAbs)) w4.heap.size w5.heap.size W) ⟨by ((with_reducible repeat first|assumption|(apply bF;focus omega)|apply bS|(apply bN;focus (simp;done))|apply bA|apply bD);all_goals rfl),by ((with_reducible repeat first|assumption|(apply bF;focus omega)|apply bS|(apply bN;focus (simp;done))|apply bA|apply bD);all_goals rfl),by go_grown,by simp,by (with_reducible repeat first | exact H6.out | (refine Kp.setc ?_ ?_;focus omega) | refine Kp.alloc ?_ | refine Kp.drew ?_)⟩ ?_;clear f0 f1 y0 y1 hx hy H6;rintro w6 ⟨hx,hy,hw6,hs6,H6⟩;replace H6:=Hd H6
 obtain ⟨x0,x1⟩:=cq2 hx;obtain ⟨f0,f1⟩:=fq2 hx;obtain ⟨y0,y1⟩:=cq2 hy;go_wp2;refine qab (fun W=>Blk W w.heap.size 49 #[.bool b2,.slice a6 (limbs z.natAbs).length c6]/\Below w.heap.size w W/\Kp (fun V=>NatR V a6 c6 (limbs z.natAbs)) w4.heap.size w5.heap.size W) ⟨by ((with_reducible repeat first|assumption|(apply bF;focus omega)|apply bS|(apply bN;focus (simp;done))|apply bA|apply bD);all_goals rfl),by go_grown,by (with_reducible repeat first | exact H6.out | (refine Kp.setc ?_ ?_;focus omega) | refine Kp.alloc ?_ | refine Kp.drew ?_)⟩ ?_;rintro w7 ⟨hF,hw7,H7⟩;obtain ⟨e0,e1⟩:=cq2 hF;refine bodyPost_ret (v:=.agg #[.bool b2,.slice a6 (limbs z.natAbs).length c6]) (by simp [results,Tryz.results186,go_sem,e0,e1]) rfl ?_;exact ⟨a6,c6,by rw [HB2.out],H7.fin hw4.size,hw7⟩
end Go.Proofs.YtfaalkneigpcnaaGreatDoor
