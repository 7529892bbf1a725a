/- Fractions as rational numbers: the value of a sign, a numerator and a denominator. No function of the program in sight. -/
import Derived.Test.YtfaalkneigpcnaaGreatDoorIt6
set_option linter.all false
set_option maxRecDepth 100000
set_option maxHeartbeats 4000000
namespace Go.Proofs.YtfaalkneigpcnaaGreatDoor
open Go.RowKit
theorem qo7 (neg1 neg2:Bool) (l m:List Int) (n1 n2:Nat) (a a':Option Addr) (c c':Nat) (w:World) (h:NatR w a c l) (h':NatR w a' c' m) (hn:val l=n1) (hk:val m=n2) (hl:l.length<=4000000) (hm:m.length<=4000000) (hne:neg1≠neg2) :
  Calls Tryz.prog 240 #[.agg #[.bool neg1,.slice a l.length c],.agg #[.bool neg2,.slice a' m.length c']] w (RetI (zval neg1 n1+zval neg2 n2) w):=by
 have hsum:=qpt hne n1 n2;have hbe:(neg1==neg2)=false:=by simpa using hne
 have CC:=fun W (hW:Below w.heap.size w W)=>qem l m n1 n2 a a' c c' W (h.ext (xbw hW)) (h'.ext (xbw hW)) hn hk
 by_cases hlt:n1<n2
 ·
  have CS:=fun W (hW:Below w.heap.size w W)=>qle m l n2 n1 a' a c' c W (h'.ext (xbw hW)) (h.ext (xbw hW)) hk hn (by omega) (by omega) (by omega)
  have CF:=fun a c W=>qd3 neg2 (n2-n1) a c W
  refine Calls.mono ?_ fun _ _=>qjk (hsum.2 (by omega))
  have hc:cmpN n1 n2 = -1:=by unfold cmpN;rw [if_pos hlt]
  rw [hc] at CC;obtain ⟨R,hR⟩:∃ q,(neg2&&decide (0<n2-n1))=q:=⟨_,rfl⟩
  rw [hR] at CF ⊢;unfold RetNE at CS;revert CS CF;generalize n2-n1=n;intro CS CF;replace CC:=Hd CC;replace CS:=Hd CS;replace CF:=Hd CF;clear h h' hn hk hR hsum hne hc hlt;go_enter Tryz.func240,Tryz.ntmps240;go_wp2_with fail;refine qad (fun W=>Blk W w.heap.size 49 #[.bool neg1,.slice a l.length c]/\Blk W (w.heap.size+1) 49 #[.bool neg2,.slice a' m.length c']/\Blk W (w.heap.size+1+1) 49 #[.bool false,.slice none 0 0]/\Below w.heap.size w W/\w.heap.size<w.heap.size+1/\w.heap.size+1<w.heap.size+1+1/\w.heap.size+1+1<W.heap.size) ⟨((Blk.new w _ _).alloc _).alloc _,(qa5 w _ _ _).alloc _,qcn w _ _ _ _,by go_grown,by omega,by omega,by simp⟩ ?_;rintro w0 ⟨hx1,hx2,hz,hw0,hg1,hg2,hg3⟩;revert hx1 hx2 hz hg1 hg2 hg3;generalize w.heap.size+1+1=g3;generalize w.heap.size+1=g2;intro hx1 hx2 hz hg1 hg2 hg3;obtain ⟨z0,z1⟩:=cq2 hx1;obtain ⟨z2,z3⟩:=cq2 hx2;refine (CC.out _ hw0).mono ?_;rintro e w1 ⟨rfl,hb1⟩
  replace hx1:=hx1.below' hb1;replace hx2:=hx2.below' hb1;replace hz:=hz.below' hb1;have hw1:=bth hw0 hb1;have hs1:=hb1.size;clear z0 z1 z2 z3;obtain ⟨z0,z1⟩:=cq2 hx1;obtain ⟨z2,z3⟩:=cq2 hx2;obtain ⟨f0,f1⟩:=fq2 hx1;obtain ⟨f2,f3⟩:=fq2 hx2;have hn1:¬ g2=w.heap.size:=by omega
  have hn2:¬ w.heap.size=g2:=by omega
  go_wp2_with fail;refine qad (fun W=>Blk W w.heap.size 49 #[.bool neg2,.slice a' m.length c']/\Blk W g3 49 #[.bool false,.slice none 0 0]/\Below w.heap.size w W/\w1.heap.size<=W.heap.size) ⟨by ((with_reducible repeat first|assumption|(apply bF;focus omega)|apply bS|(apply bN;focus (simp;done))|apply bA|apply bD);all_goals rfl),by ((with_reducible repeat first|assumption|(apply bF;focus omega)|apply bS|(apply bN;focus (simp;done))|apply bA|apply bD);all_goals rfl),by go_grown,by simp⟩ ?_;rintro w2 ⟨hx,hy,hw2,hs2⟩;clear z0 z1 z2 z3 f0 f1 f2 f3 hx1 hx2 hz;refine (CS.out _ hw2).mono ?_;rintro e w3 ⟨a3,c3,rfl,hV,hb3⟩;have HV:=Hd hV;replace hx:=hx.below' hb3;replace hy:=hy.below' hb3;have hw3:=bth hw2 hb3;have hs3:=hb3.size;have z0:=hx.cell 0;clear hV;go_wp2_with fail;refine (CF.out a3 c3 _).mono ?_;rintro e w4 ⟨rfl,hb4⟩;replace hy:=hy.below' hb4;have hw4:=bth hw3 hb4;clear z0 hx
  obtain ⟨z0,z1⟩:=cq2 hy;obtain ⟨f0,f1⟩:=fq2 hy;go_wp2;have hF:=blk2 (x:=.bool R) (y:=.slice a3 (limbs n).length c3) hy;obtain ⟨e0,e1⟩:=cq2 hF;refine bodyPost_ret (v:=.agg #[.bool R,.slice a3 (limbs n).length c3]) (by simp [results,Tryz.results240,go_sem,e0,e1]) rfl ?_;exact ⟨a3,c3,rfl,fun V hV=>HV.out V ((back2 hV hw2.size (show g3<w2.heap.size by omega)).below hb4),qbu hw4 (by omega)⟩
 ·
  have CS:=fun W (hW:Below w.heap.size w W)=>qle l m n1 n2 a a' c c' W (h.ext (xbw hW)) (h'.ext (xbw hW)) hn hk (by omega) (by omega) (by omega)
  have CF:=fun a c W=>qd3 neg1 (n1-n2) a c W
  refine Calls.mono ?_ fun _ _=>qjk (hsum.1 (by omega))
  have hc:0<=cmpN n1 n2:=qi8.2 (by omega);revert CC hc;generalize cmpN n1 n2=q;intro CC hc;have hq:¬ q<0:=by omega
  obtain ⟨R,hR⟩:∃ q,(neg1&&decide (0<n1-n2))=q:=⟨_,rfl⟩
  rw [hR] at CF ⊢;unfold RetNE at CS;revert CS CF;generalize n1-n2=n;intro CS CF;replace CC:=Hd CC;replace CS:=Hd CS;replace CF:=Hd CF;clear h h' hn hk hR hsum hne hc hlt;go_enter Tryz.func240,Tryz.ntmps240;go_wp2_with fail;refine qad (fun W=>Blk W w.heap.size 49 #[.bool neg1,.slice a l.length c]/\Blk W (w.heap.size+1) 49 #[.bool neg2,.slice a' m.length c']/\Blk W (w.heap.size+1+1) 49 #[.bool false,.slice none 0 0]/\Below w.heap.size w W/\w.heap.size<w.heap.size+1/\w.heap.size+1<w.heap.size+1+1/\w.heap.size+1+1<W.heap.size) ⟨((Blk.new w _ _).alloc _).alloc _,(qa5 w _ _ _).alloc _,qcn w _ _ _ _,by go_grown,by omega,by omega,by simp⟩ ?_;rintro w0 ⟨hx1,hx2,hz,hw0,hg1,hg2,hg3⟩;revert hx1 hx2 hz hg1 hg2 hg3;generalize w.heap.size+1+1=g3;generalize w.heap.size+1=g2;intro hx1 hx2 hz hg1 hg2 hg3;obtain ⟨z0,z1⟩:=cq2 hx1;obtain ⟨z2,z3⟩:=cq2 hx2;refine (CC.out _ hw0).mono ?_;rintro e w1 ⟨rfl,hb1⟩
  replace hx1:=hx1.below' hb1;replace hx2:=hx2.below' hb1;replace hz:=hz.below' hb1;have hw1:=bth hw0 hb1;have hs1:=hb1.size;clear z0 z1 z2 z3;obtain ⟨z0,z1⟩:=cq2 hx1;obtain ⟨z2,z3⟩:=cq2 hx2;go_wp2_with fail;refine (CS.out _ hw1).mono ?_;rintro e w3 ⟨a3,c3,rfl,hV,hb3⟩;have HV:=Hd hV;replace hx1:=hx1.below' hb3;replace hz:=hz.below' hb3;have hw3:=bth hw1 hb3;have hs3:=hb3.size;clear hV z0 z1 z2 z3 hx2;have z0:=hx1.cell 0;go_wp2_with fail;refine (CF.out a3 c3 _).mono ?_;rintro e w4 ⟨rfl,hb4⟩;replace hz:=hz.below' hb4;have hw4:=bth hw3 hb4;clear z0 hx1;obtain ⟨z0,z1⟩:=cq2 hz;obtain ⟨f0,f1⟩:=fq2 hz;go_wp2;have hF:=blk2 (x:=.bool R) (y:=.slice a3 (limbs n).length c3) hz;obtain ⟨e0,e1⟩:=cq2 hF;refine bodyPost_ret (v:=.agg #[.bool R,.slice a3 (limbs n).length c3]) (by simp [results,Tryz.results240,go_sem,e0,e1]) rfl ?_
  exact ⟨a3,c3,rfl,fun V hV=>HV.out V ((back2 hV hw1.size (show g3<w1.heap.size by omega)).below hb4),qbu hw4 (by omega)⟩
theorem qk9 (neg1 neg2:Bool) (l m:List Int) (n1 n2:Nat) (a a':Option Addr) (c c':Nat) (w:World) (h:NatR w a c l) (h':NatR w a' c' m) (hn:val l=n1) (hk:val m=n2) (hl:l.length<=4000000) (hm:m.length<=4000000) :
  Calls Tryz.prog 240 #[.agg #[.bool neg1,.slice a l.length c],.agg #[.bool neg2,.slice a' m.length c']] w (RetI (zval neg1 n1+zval neg2 n2) w):=by
 by_cases hne:neg1=neg2
 ·
  subst hne;exact qro neg1 l m n1 n2 a a' c c' w h h' hn hk hl hm
 · exact qo7 neg1 neg2 l m n1 n2 a a' c c' w h h' hn hk hl hm hne
def RetQ (neg:Bool) (n d:Nat) (w:World) (e:Ending) (w':World):Prop:=∃ na nc da dc,e=.returned (.agg #[.bool neg,.slice na (limbs n).length nc,.slice da (limbs d).length dc]) /\
 (∀ V,New w.heap.size w' V->NatR V na nc (limbs n))/\(∀ V,New w.heap.size w' V->NatR V da dc (limbs d))/\Below w.heap.size w w'
theorem qsw (neg:Bool) (l m:List Int) (a a':Option Addr) (c c':Nat) (w:World) (h':NatR w a' c' m) (hk:val m=0) (hm:m.length<=2000000) :
  Calls Tryz.prog 80 #[.agg #[.bool neg,.slice a l.length c],.slice a' m.length c'] w (RetQ false 0 1 w):=by
 have CN:=fun W (hW:Below w.heap.size w W)=>qbb m a' c' W (h'.ext (xbw hW)) (by omega)
 rw [hk,qag] at CN;have CO:=fun W=>qb1 1 W (by omega)
 replace CN:=Hd CN;replace CO:=Hd CO;have hz:Blk ((w.alloc (.cells #[.bool neg,.slice a l.length c] 49)).alloc (.cells #[.bool false,.slice none 0 0,.slice none 0 0] 51)) (w.heap.size+1) 51 #[.bool false,.slice none 0 0,.slice none 0 0]:=qa5 w _ _ _;have hb0:Below w.heap.size w ((w.alloc (.cells #[.bool neg,.slice a l.length c] 49)).alloc (.cells #[.bool false,.slice none 0 0,.slice none 0 0] 51)):=by go_grown
 have hgB:w.heap.size<=w.heap.size+1:=by omega
 unfold RetQ;rw [qag];clear h' hk;go_enter Tryz.func80,Tryz.ntmps80;go_wp2_with fail;have hgl:=hz.lt;revert hz hb0 hgB hgl;generalize (w.alloc (.cells #[.bool neg,.slice a l.length c] 49)).alloc (.cells #[.bool false,.slice none 0 0,.slice none 0 0] 51)=w0;generalize w.heap.size+1=g;intro hz hb0 hgB hgl;refine (CN.out _ hb0).mono ?_;rintro e w1 ⟨a3,c3,rfl,_,hb1⟩;have hw1:=bth hb0 hb1;have hz1:=hz.below' hb1;go_wp2_with fail;refine (CO.out _).mono ?_;rintro e w2 ⟨a1,c1,rfl,hV,hb2⟩;have hw2:=bth hw1 hb2;have hz2:=hz1.below' hb2;have hg1:=hz1.lt;have HV:=Hd hV;obtain ⟨z0,z1,z2⟩:=cq3 hz2;obtain ⟨f0,f1,f2⟩:=fq3 hz2;clear hV;go_wp2;have hF:=blk3 (x:=.bool false) (y:=.slice none 0 0) (z:=.slice a1 (limbs 1).length c1) hz2;obtain ⟨e0,e1,e2⟩:=cq3 hF;refine bodyPost_ret (v:=.agg #[.bool false,.slice none 0 0,.slice a1 (limbs 1).length c1]) (by simp [results,Tryz.results80,go_sem,e0,e1,e2]) rfl ?_
 exact ⟨none,0,a1,c1,rfl,fun _ _=>SlR.nil,fun V hV=>HV.out V (back3 hV hw1.size hg1),qbd hw2 hgB⟩
theorem qtp (neg:Bool) (l m:List Int) (n d:Nat) (a a':Option Addr) (c c':Nat) (w:World) (h:NatR w a c l) (h':NatR w a' c' m) (hn:val l=n) (hk:val m=d) (hl:l.length<=2000000) (hm:m.length<=2000000) (h0:0<d) :
  Calls Tryz.prog 80 #[.agg #[.bool neg,.slice a l.length c],.slice a' m.length c'] w (RetQ (neg&&decide (0<n / Nat.gcd n d)) (n / Nat.gcd n d) (d / Nat.gcd n d) w):=by
 have hll:=qaf h.u16;have hlm:=qaf h'.u16;rw [hn] at hll;rw [hk] at hlm;have hgp:0<Nat.gcd n d:=Nat.gcd_pos_of_pos_right n h0;have hgd:Nat.gcd n d<=d:=Nat.le_of_dvd h0 (Nat.gcd_dvd_right n d);have hgl0:=qap hgd;have hnl:=qap (Nat.div_le_self n (Nat.gcd n d));have CN:=fun W (hW:Below w.heap.size w W)=>qbb m a' c' W (h'.ext (xbw hW)) (by omega)
 rw [hk] at CN;have CG:=fun W (hW:Below w.heap.size w W)=>qj0 l m n d a a' c c' W (h.ext (xbw hW)) (h'.ext (xbw hW)) hn hk hl hm
 have CD1:=fun ag cg W (hW:Below w.heap.size w W) hr=>qds l (limbs (Nat.gcd n d)) n (Nat.gcd n d) a ag c cg W (h.ext (xbw hW)) hr hn (qaa _) hl (by omega) hgp
 have CD2:=fun ag cg W (hW:Below w.heap.size w W) hr=>qds m (limbs (Nat.gcd n d)) d (Nat.gcd n d) a' ag c' cg W (h'.ext (xbw hW)) hr hk (qaa _) hm (by omega) hgp
 have CZ:=fun ag cg W hr=>qiw neg (limbs (n / Nat.gcd n d)) (n / Nat.gcd n d) ag cg W hr (qaa _) (by omega)
 have hne:(((limbs d).length:Int)==0)=false:=by rw [beq_eq_false_iff_ne];have:=qan.2 h0;omega
 obtain ⟨R,hR⟩:∃ q,(neg&&decide (0<n / Nat.gcd n d))=q:=⟨_,rfl⟩
 rw [hR] at CZ ⊢;unfold RetDM at CD1 CD2;obtain ⟨gg,hgg⟩:∃ q,Nat.gcd n d=q:=⟨_,rfl⟩
 simp only [hgg] at CG CD1 CD2 CZ ⊢;obtain ⟨N,hN⟩:∃ q,n / gg=q:=⟨_,rfl⟩
 obtain ⟨D,hD⟩:∃ q,d / gg=q:=⟨_,rfl⟩
 simp only [hN] at CD1 CZ ⊢;simp only [hD] at CD2 ⊢;replace CN:=Hd CN;replace CG:=Hd CG;replace CD1:=Hd CD1;replace CD2:=Hd CD2;replace CZ:=Hd CZ;have hz:Blk ((w.alloc (.cells #[.bool neg,.slice a l.length c] 49)).alloc (.cells #[.bool false,.slice none 0 0,.slice none 0 0] 51)) (w.heap.size+1) 51 #[.bool false,.slice none 0 0,.slice none 0 0]:=qa5 w _ _ _;have hx:Blk ((w.alloc (.cells #[.bool neg,.slice a l.length c] 49)).alloc (.cells #[.bool false,.slice none 0 0,.slice none 0 0] 51)) w.heap.size 49 #[.bool neg,.slice a l.length c]:=(Blk.new w _ _).alloc _;have hb0:Below w.heap.size w ((w.alloc (.cells #[.bool neg,.slice a l.length c] 49)).alloc (.cells #[.bool false,.slice none 0 0,.slice none 0 0] 51)):=by go_grown
 have hgB:w.heap.size<=w.heap.size+1:=by omega
 clear h h' hn hk hll hlm hgp hgd hgl0 hnl hR hgg hN hD;go_enter Tryz.func80,Tryz.ntmps80;go_wp2_with fail;have hgl:=hz.lt;revert hz hx hb0 hgB hgl;generalize (w.alloc (.cells #[.bool neg,.slice a l.length c] 49)).alloc (.cells #[.bool false,.slice none 0 0,.slice none 0 0] 51)=w0;generalize w.heap.size+1=g;intro hz hx hb0 hgB hgl;refine (CN.out _ hb0).mono ?_;rintro e w1 ⟨a3,c3,rfl,_,hb1⟩;have hw1:=bth hb0 hb1;have hx1:=hx.below' hb1;have hz1:=hz.below' hb1;obtain ⟨z0,z1⟩:=cq2 hx1;clear hz hx hb1 hgl;go_wp2_with fail;refine (CG.out _ hw1).mono ?_;rintro e w2 ⟨a4,c4,rfl,hV4,hb2⟩;have hw2:=bth hw1 hb2;have hx2:=hx1.below' hb2;have hz2:=hz1.below' hb2;have hr4:=hV4 w2 (New.refl _ _);have CE1:=CD1.out a4 c4 w2 hw2 hr4;replace CE1:=Hd CE1;clear z0 z1 hV4 hx1 hz1;obtain ⟨z0,z1⟩:=cq2 hx2;go_wp2_with fail;refine CE1.out.mono ?_;rintro e w3 ⟨a5,c5,_,_,rfl,hV5,_,hb3⟩;have hw3:=bth hw2 hb3
 have hx3:=hx2.below' hb3;have hz3:=hz2.below' hb3;have hg3:=hz3.lt;have HV5:=Hd hV5;have CE2:=CD2.out a4 c4 w3 hw3 (hr4.ext (xbw hb3));replace CE2:=Hd CE2;clear z0 z1 hV5 hx2 hz2 hr4 CE1;obtain ⟨z0,z1⟩:=cq2 hx3;go_wp2_with fail;refine CE2.out.mono ?_;rintro e w4 ⟨a6,c6,_,_,rfl,hV6,_,hb4⟩;have hw4:=bth hw3 hb4;have hx4:=hx3.below' hb4;have hz4:=hz3.below' hb4;have HV6:=Hd hV6;have CF:=CZ.out a5 c5 w4 (HV5.out w4 ((New.refl _ _).below hb4));replace CF:=Hd CF;clear z0 z1 hV6 hx3 hz3 CE2;obtain ⟨z0,z1⟩:=cq2 hx4;go_wp2_with fail;refine CF.out.mono ?_;rintro e w5 ⟨a7,c7,rfl,hV7,hb5⟩;have hw5:=bth hw4 hb5;have hz5:=hz4.below' hb5;have HV7:=Hd hV7;have hg4:=hz4.lt;clear z0 z1 hV7 hx4 CF;obtain ⟨z0,z1,z2⟩:=cq3 hz5;obtain ⟨f0,f1,f2⟩:=fq3 hz5;go_wp2;have hF:=blk3 (x:=.bool R) (y:=.slice a7 (limbs N).length c7) (z:=.slice a6 (limbs D).length c6) hz5;obtain ⟨e0,e1,e2⟩:=cq3 hF
 refine bodyPost_ret (v:=.agg #[.bool R,.slice a7 (limbs N).length c7,.slice a6 (limbs D).length c6]) (by simp [results,Tryz.results80,go_sem,e0,e1,e2]) rfl ?_;exact ⟨a7,c7,a6,c6,rfl,fun V hV=>HV7.out V (back3 hV hw4.size hg4),fun V hV=>HV6.out V ((back3 hV hw3.size hg3).below hb5),qbd hw5 hgB⟩
def qat (neg:Bool) (n d:Nat):Bool × Nat × Nat:=if d=0 then (false,0,1) else (neg&&decide (0<n / Nat.gcd n d),n / Nat.gcd n d,d / Nat.gcd n d)
def RetF (t:Bool × Nat × Nat) (w:World) (e:Ending) (w':World):Prop:=RetQ t.1 t.2.1 t.2.2 w e w'
theorem qme (neg:Bool) (l m:List Int) (n d:Nat) (a a':Option Addr) (c c':Nat) (w:World) (h:NatR w a c l) (h':NatR w a' c' m) (hn:val l=n) (hk:val m=d) (hl:l.length<=2000000) (hm:m.length<=2000000) :
  Calls Tryz.prog 80 #[.agg #[.bool neg,.slice a l.length c],.slice a' m.length c'] w (RetF (qat neg n d) w):=by
 unfold RetF qat;by_cases h0:d=0
 ·
  rw [if_pos h0];exact qsw neg l m a a' c c' w h' (by rw [hk,h0]) hm
 ·
  rw [if_neg h0];exact qtp neg l m n d a a' c c' w h h' hn hk hl hm (by omega)
theorem qow (neg:Bool) (l m:List Int) (n d:Nat) (a a':Option Addr) (c c':Nat) (w:World) (h:NatR w a c l) (h':NatR w a' c' m) (hn:val l=n) (hk:val m=d) (hl:l.length<=2000000) (hm:m.length<=2000000) :
  Calls Tryz.prog 72 #[.agg #[.bool neg,.slice a l.length c,.slice a' m.length c']] w (RetF (qat neg n d) w):=by
 have CO:=fun W (hW:Below w.heap.size w W)=>qme neg l m n d a a' c c' W (h.ext (xbw hW)) (h'.ext (xbw hW)) hn hk hl hm
 obtain ⟨t,ht⟩:∃ t,qat neg n d=t:=⟨_,rfl⟩
 rw [ht] at CO ⊢;obtain ⟨s,N,D⟩:=t;unfold RetF at CO ⊢;dsimp only at CO ⊢;replace CO:=Hd CO;have hz:Blk ((w.alloc (.cells #[.bool neg,.slice a l.length c,.slice a' m.length c'] 51)).alloc (.cells #[.bool false,.slice none 0 0,.slice none 0 0] 51)) (w.heap.size+1) 51 #[.bool false,.slice none 0 0,.slice none 0 0]:=qa5 w _ _ _;have hb0:Below w.heap.size w ((w.alloc (.cells #[.bool neg,.slice a l.length c,.slice a' m.length c'] 51)).alloc (.cells #[.bool false,.slice none 0 0,.slice none 0 0] 51)):=by go_grown
 have hgB:w.heap.size<=w.heap.size+1:=by omega
 have hgl:=hz.lt;clear h h' hn hk ht;go_enter Tryz.func72,Tryz.ntmps72;go_wp2_with fail;revert hz hb0 hgB hgl;generalize (w.alloc (.cells #[.bool neg,.slice a l.length c,.slice a' m.length c'] 51)).alloc (.cells #[.bool false,.slice none 0 0,.slice none 0 0] 51)=w0;generalize w.heap.size+1=g;intro hz hb0 hgB hgl;refine (CO.out _ hb0).mono ?_;rintro e w1 ⟨a1,c1,a2,c2,rfl,hV1,hV2,hb1⟩;have hw1:=bth hb0 hb1;have hz1:=hz.below' hb1;have HV1:=Hd hV1;have HV2:=Hd hV2;obtain ⟨z0,z1,z2⟩:=cq3 hz1;obtain ⟨f0,f1,f2⟩:=fq3 hz1;have hs0:=hb0.size;clear hV1 hV2 hb0;go_wp2;have hF:=blk3 (x:=.bool s) (y:=.slice a1 (limbs N).length c1) (z:=.slice a2 (limbs D).length c2) hz1;obtain ⟨e0,e1,e2⟩:=cq3 hF;refine bodyPost_ret (v:=.agg #[.bool s,.slice a1 (limbs N).length c1,.slice a2 (limbs D).length c2]) (by simp [results,Tryz.results72,go_sem,e0,e1,e2]) rfl ?_
 exact ⟨a1,c1,a2,c2,rfl,fun V hV=>HV1.out V (back3 hV hs0 hgl),fun V hV=>HV2.out V (back3 hV hs0 hgl),qbd hw1 hgB⟩
theorem qo2 (neg:Bool) (n d:Nat):qat (neg&&decide (0<n)) n d=qat neg n d:=by
 unfold qat
 split
 · rfl
 ·
  next h0 =>
  by_cases hn:n=0
  ·
   subst hn;simp
  ·
   have:decide (0<n)=true:=by rw [decide_eq_true_eq];omega
   rw [this,Bool.and_true]
def RetM (t:Bool × Nat × Nat) (w:World) (e:Ending) (w':World):Prop:=∃ na nc da dc,e=.returned (.tuple #[.agg #[.bool t.1,.slice na (limbs t.2.1).length nc,.slice da (limbs t.2.2).length dc],.int .i64 0]) /\
 (∀ V,New w.heap.size w' V->NatR V na nc (limbs t.2.1))/\(∀ V,New w.heap.size w' V->NatR V da dc (limbs t.2.2))/\Below w.heap.size w w'
theorem qq1 {z:Int} (hi:InInt z):(limbs z.natAbs).length<=4:=by
 obtain ⟨h1,h2⟩:=hi;have:(65536:Nat) ^ 4=18446744073709551616:=by decide
 exact qal (by omega)
theorem qrl (z:Int) (w:World) (hi:InInt z) :
  Calls Tryz.prog 38 #[.int .i64 z] w (RetF (qat (decide (z<0)) z.natAbs 1) w):=by
 have hl4:=qq1 hi;have hl1:(limbs 1).length<=4:=qal (by decide);have CZ:=fun W=>qqs z W hi
 have C1:=fun W=>qb1 1 W (by omega)
 have CO:=fun a a' c c' W h h'=>qme (decide (z<0)) (limbs z.natAbs) (limbs 1) z.natAbs 1 a a' c c' W h h' (qaa _) (qaa _) (by omega) (by omega)
 obtain ⟨t,ht⟩:∃ t,qat (decide (z<0)) z.natAbs 1=t:=⟨_,rfl⟩
 obtain ⟨ng,hng⟩:∃ q,decide (z<0)=q:=⟨_,rfl⟩
 obtain ⟨nz,hnz⟩:∃ q,z.natAbs=q:=⟨_,rfl⟩
 rw [ht] at CO ⊢;simp only [hng,hnz] at CO CZ;obtain ⟨s,N,D⟩:=t;unfold RetF at CO ⊢;dsimp only at CO ⊢;replace CZ:=Hd CZ;replace C1:=Hd C1;replace CO:=Hd CO;have hz:Blk (w.alloc (.cells #[.bool false,.slice none 0 0,.slice none 0 0] 51)) w.heap.size 51 #[.bool false,.slice none 0 0,.slice none 0 0]:=Blk.new w _ _;have hb0:Below w.heap.size w (w.alloc (.cells #[.bool false,.slice none 0 0,.slice none 0 0] 51)):=brf.alloc (nlr _) _;clear ht hng hnz hl4 hl1;go_enter Tryz.func38,Tryz.ntmps38;go_wp2_with fail;revert hz hb0;generalize w.alloc (.cells #[.bool false,.slice none 0 0,.slice none 0 0] 51)=w0;intro hz hb0;refine (CZ.out _).mono ?_;rintro e w1 ⟨a1,c1,rfl,hV1,hb1⟩;have hw1:=bth hb0 hb1;have hz1:=hz.below' hb1;have HV1:=Hd hV1;clear hV1;go_wp2_with fail;refine (C1.out _).mono ?_;rintro e w2 ⟨a2,c2,rfl,hV2,hb2⟩;have hw2:=bth hw1 hb2;have hz2:=hz1.below' hb2
 have CF:=CO.out a1 a2 c1 c2 w2 (HV1.out w2 ((New.refl _ _).below hb2)) (hV2 w2 (New.refl _ _));replace CF:=Hd CF;clear hV2;go_wp2_with fail;refine CF.out.mono ?_;rintro e w3 ⟨a3,c3,a4,c4,rfl,hV3,hV4,hb3⟩;have hw3:=bth hw2 hb3;have hz3:=hz2.below' hb3;have HV3:=Hd hV3;have HV4:=Hd hV4;have hs2:=hw2.size;have hgl2:=hz2.lt;obtain ⟨z0,z1,z2⟩:=cq3 hz3;obtain ⟨f0,f1,f2⟩:=fq3 hz3;clear hV3 hV4;go_wp2;have hF:=blk3 (x:=.bool s) (y:=.slice a3 (limbs N).length c3) (z:=.slice a4 (limbs D).length c4) hz3;obtain ⟨e0,e1,e2⟩:=cq3 hF;refine bodyPost_ret (v:=.agg #[.bool s,.slice a3 (limbs N).length c3,.slice a4 (limbs D).length c4]) (by simp [results,Tryz.results38,go_sem,e0,e1,e2]) rfl ?_;exact ⟨a3,c3,a4,c4,rfl,fun V hV=>HV3.out V (back3 hV hs2 hgl2),fun V hV=>HV4.out V (back3 hV hs2 hgl2),qbd hw3 (nlr _)⟩
theorem qln (neg:Bool) (n:Nat):zval (neg&&decide (0<n)) n=zval neg n:=by
 by_cases hn:n=0
 ·
  subst hn;simp [zval]
 ·
  have:decide (0<n)=true:=by rw [decide_eq_true_eq];omega
  rw [this,Bool.and_true]
theorem qqv:limbs 1=[1]:=by rw [qbq (by omega)];simp [qag]
theorem qmn (w:World):Calls Tryz.prog 137 #[] w (RetN (limbs 1) w):=by
 rw [qqv];go_enter Tryz.func137,Tryz.ntmps137;go_wp2;go_ret;refine ⟨some ⟨w.heap.size,0,none⟩,1,rfl,fun V hV=>?_,brf.alloc (nlr _) _⟩;exact BlkN.readsV (l:=[1]) (B:=w.heap.size) (Blk.new w _ _) (nlr _) hV (by intro x hx;simp at hx;omega) (by simp) (by simp [maxLen])
theorem qbs (neg:Bool) (l m:List Int) (a a':Option Addr) (c c':Nat) (w:World) (h':NatR w a' c' m) (h0:val m≠0) (hm:m.length<=16777216) :
  Calls Tryz.prog 66 #[.agg #[.bool neg,.slice a l.length c,.slice a' m.length c']] w fun e w' =>
   e=.returned (.tuple #[.agg #[.bool neg,.slice a l.length c],.slice a' m.length c'])/\Below w.heap.size w w':=by
 have CB:=fun W (hW:Below w.heap.size w W)=>ql2 m (val m) a' c' W (h'.ext (xbw hW)) rfl hm
 replace CB:=Hd CB;have hx:Blk ((w.alloc (.cells #[.bool neg,.slice a l.length c,.slice a' m.length c'] 51)).alloc (.cells #[.bool false,.slice none 0 0] 49)) w.heap.size 51 #[.bool neg,.slice a l.length c,.slice a' m.length c']:=(Blk.new w _ _).alloc _;have hz:Blk ((w.alloc (.cells #[.bool neg,.slice a l.length c,.slice a' m.length c'] 51)).alloc (.cells #[.bool false,.slice none 0 0] 49)) (w.heap.size+1) 49 #[.bool false,.slice none 0 0]:=qa5 w _ _ _;have hb0:Below w.heap.size w ((w.alloc (.cells #[.bool neg,.slice a l.length c,.slice a' m.length c'] 51)).alloc (.cells #[.bool false,.slice none 0 0] 49)):=by go_grown
 have hgB:w.heap.size<w.heap.size+1:=by omega
 have hgl:=hz.lt;clear h';go_enter Tryz.func66,Tryz.ntmps66;go_wp2_with fail;revert hx hz hb0 hgB hgl;generalize (w.alloc (.cells #[.bool neg,.slice a l.length c,.slice a' m.length c'] 51)).alloc (.cells #[.bool false,.slice none 0 0] 49)=w0;generalize w.heap.size+1=g;intro hx hz hb0 hgB hgl;obtain ⟨z0,z1,z2⟩:=cq3 hx;go_wp2_with fail;refine (CB.out _ hb0).mono ?_;rintro e w1 ⟨b,rfl,hb,rfl⟩;have e0:((b:Int)==0)=false:=by rw [beq_eq_false_iff_ne];have:=hb.out.2.1 (by omega);omega
 clear hb h0;obtain ⟨y0,y1⟩:=cq2 hz;obtain ⟨f0,f1⟩:=fq2 hz;have k0:∀ W,Blk W w.heap.size 51 #[.bool neg,.slice a l.length c,.slice a' m.length c']->W.cell? ⟨w.heap.size,0,none⟩=some (.bool neg):=fun W h=>h.cell 0
 have k1:∀ W,Blk W w.heap.size 51 #[.bool neg,.slice a l.length c,.slice a' m.length c']->W.cell? ⟨w.heap.size,1,none⟩=some (.slice a l.length c):=fun W h=>h.cell 1
 have k2:∀ W,Blk W w.heap.size 51 #[.bool neg,.slice a l.length c,.slice a' m.length c']->W.cell? ⟨w.heap.size,2,none⟩=some (.slice a' m.length c'):=fun W h=>h.cell 2
 have s0:=hx.drew;have hne:¬ w.heap.size=g:=by omega
 go_wp2;refine wrx (S:=(fun W=>Blk W w.heap.size 51 #[.bool neg,.slice a l.length c,.slice a' m.length c'])) [(0,.q),(1,.q),(2,.q),(3,.q),(4,.l),(5,.p)] (s0) ?_
 iterate 4 (refine qam rfl rfl fun K hK=>xq ?_;go_simp;refine hK _ _ ?_;clear hK K)
 refine qaj rfl rfl (fun K hK=>?_);go_simp;refine hK.out _ _ (((hx.far (p:=⟨g,0,none⟩) hne (.bool neg)).far (p:=⟨g,1,none⟩) hne (.slice a l.length c)).drew) (fun _=>?_);clear hK K
 iterate 1 (refine qav rfl rfl fun K hK=>xp ?_;go_simp;refine hK _ _ ?_;clear hK K)
 refine qak ?_;go_wp2;have hF:=(blk2 (x:=.bool neg) (y:=.slice a l.length c) hz).drew;obtain ⟨q0,q1⟩:=cq2 hF;refine bodyPost_ret (v:=.tuple #[.agg #[.bool neg,.slice a l.length c],.slice a' m.length c']) (by simp [results,Tryz.results66,go_sem,q0,q1]) rfl ?_;exact ⟨rfl,(qbu hb0 (Nat.le_of_lt hgB)).drew⟩
theorem qhj {neg:Bool} {n d:Nat} (hn:n≠0) (hd:d≠0):qat neg n d=(neg,n / Nat.gcd n d,d / Nat.gcd n d):=by
 unfold qat;rw [if_neg hd];have h1:0<Nat.gcd n d:=Nat.gcd_pos_of_pos_right n (by omega);have h2:0<n / Nat.gcd n d:=Nat.div_pos (Nat.le_of_dvd (by omega) (Nat.gcd_dvd_left n d)) h1;have h3:decide (0<n / Nat.gcd n d)=true:=by rw [decide_eq_true_eq];exact h2
 rw [h3,Bool.and_true]
theorem qf7 {neg:Bool} {n d:Nat} (hn:n≠0) (hd:d≠0) (hg:Nat.gcd n d=1):qat neg n d=(neg,n,d):=by
 rw [qhj hn hd,hg,Nat.div_one,Nat.div_one]
theorem qpj (neg:Bool) (n:Nat):qat neg n 0=(false,0,1):=by simp [qat]
theorem qm5 (neg:Bool) {d:Nat} (hd:d≠0):qat neg 0 d=(false,0,1):=by
 unfold qat;rw [if_neg hd];simp;exact Nat.div_self (by omega)
theorem zz21 {P:Prop} (h:P:=by
 have hz:Blk ((w.alloc (.cells #[.bool neg,.slice a l.length c] 49)).alloc (.cells #[.bool false,.slice none 0 0,.slice none 0 0] 51)) (w.heap.size+1) 51 #[.bool false,.slice none 0 0,.slice none 0 0]:=qa5 w _ _ _;have hx:Blk ((w.alloc (.cells #[.bool neg,.slice a l.length c] 49)).alloc (.cells #[.bool false,.slice none 0 0,.slice none 0 0] 51)) w.heap.size 49 #[.bool neg,.slice a l.length c]:=(Blk.new w _ _).alloc _;have hb0:Below w.heap.size w ((w.alloc (.cells #[.bool neg,.slice a l.length c] 49)).alloc (.cells #[.bool false,.slice none 0 0,.slice none 0 0] 51)):=by go_grown
 have hgB:w.heap.size<w.heap.size+1:=by omega
 have hgl:=hz.lt;clear h h' hn hk;go_enter Tryz.func67,Tryz.ntmps67;go_wp2_with fail;revert hz hx hb0 hgB hgl;generalize (w.alloc (.cells #[.bool neg,.slice a l.length c] 49)).alloc (.cells #[.bool false,.slice none 0 0,.slice none 0 0] 51)=w0;generalize w.heap.size+1=g;intro hz hx hb0 hgB hgl;refine (CN.out _ hb0).mono ?_;rintro e w1 ⟨a2,c2,rfl,hV2,hb1⟩;have hw1:=bth hb0 hb1;have hx1:=hx.below' hb1;have hz1:=hz.below' hb1;have HV2:=Hd hV2;obtain ⟨z0,z1⟩:=cq2 hx1;have hs1:=hb1.size;clear hz hx hV2;go_wp2_with fail;refine (CZ.out _ hw1).mono ?_;rintro e w2 ⟨a1,c1,rfl,hV1,hb2⟩;have hw2:=bth hw1 hb2;have hx2:=hx1.below' hb2;have hz2:=hz1.below' hb2;have HV1:=Hd hV1;have hne:¬ g=w.heap.size:=by omega
 have hxl:w.heap.size<w0.heap.size:=by omega
 have hs0:=hb0.size;have hxS:=blk2 (x:=.bool p) (y:=.slice a1 (limbs n).length c1) hx2;have hzS:=(hz2.far (p:=⟨w.heap.size,0,none⟩) hne (.bool p)).far (p:=⟨w.heap.size,1,none⟩) hne (.slice a1 (limbs n).length c1);have hwS:=qbu (g:=w.heap.size) (x:=.bool p) (y:=.slice a1 (limbs n).length c1) hw2 (nlr _);have K1:∀ V,New w0.heap.size ((w2.setCell ⟨w.heap.size,0,none⟩ (.bool p)).setCell ⟨w.heap.size,1,none⟩ (.slice a1 (limbs n).length c1)) V->NatR V a1 c1 (limbs n):=fun V hV=>HV1.out V ((back2 hV (nlr _) hxl).base hs1)
 have K2:∀ V,New w0.heap.size ((w2.setCell ⟨w.heap.size,0,none⟩ (.bool p)).setCell ⟨w.heap.size,1,none⟩ (.slice a1 (limbs n).length c1)) V->NatR V a2 c2 (limbs d):=fun V hV=>HV2.out V ((back2 hV (nlr _) hxl).below hb2)
 clear z0 z1 hV1 hx1 hz1 HV1 HV2 CN CZ;obtain ⟨z0,z1⟩:=cq2 hx2;obtain ⟨f0,f1⟩:=fq2 hx2;obtain ⟨y0,y1,y2⟩:=cq3 hz2;obtain ⟨yf0,yf1,yf2⟩:=fq3 hz2;have hbS:=hwS.size;replace hs1:=hw2.size;clear hx2 hz2 hw2 hb2 hw1 hb1 hb0;go_wp2_with fail;revert hxS hzS hwS K1 K2 hbS;generalize (w2.setCell ⟨w.heap.size,0,none⟩ (.bool p)).setCell ⟨w.heap.size,1,none⟩ (.slice a1 (limbs n).length c1)=wS;intro hxS hzS hwS K1 K2 hbS;refine (CU.out _).mono ?_;rintro e w3 ⟨a5,c5,rfl,hV5,hb3⟩;have hw3:=bth hwS hb3;have hz3:=hzS.below' hb3;have HV5:=Hd hV5;have hs3:=hwS.size;have hgl3:=hzS.lt;clear hV5 z0 z1 f0 f1 y0 y1 y2 yf0 yf1 yf2 hxS hzS K1 K2;obtain ⟨y0,y1,y2⟩:=cq3 hz3;obtain ⟨yf0,yf1,yf2⟩:=fq3 hz3;go_wp2;have hF:=blk3 (x:=.bool false) (y:=.slice none 0 0) (z:=.slice a5 (limbs 1).length c5) hz3;obtain ⟨e0,e1,e2⟩:=cq3 hF
 refine bodyPost_ret (v:=.agg #[.bool false,.slice none 0 0,.slice a5 (limbs 1).length c5]) (by simp [results,Tryz.results67,go_sem,e0,e1,e2]) rfl ?_;exact ⟨none,0,a5,c5,rfl,fun _ _=>SlR.nil,fun V hV=>HV5.out V (back3 hV hs3 hgl3),qbd hw3 (Nat.le_of_lt hgB)⟩
 ):P:=h
theorem qhh (neg:Bool) (l m:List Int) (n d:Nat) (a a':Option Addr) (c c':Nat) (w:World) (h:NatR w a c l) (h':NatR w a' c' m) (hn:val l=n) (hk:val m=d) (hl:l.length<=2000000) (hm:m.length<=2000000) (h0:d=0\/n=0) :
  Calls Tryz.prog 67 #[.agg #[.bool neg,.slice a l.length c],.slice a' m.length c'] w (RetF (false,0,1) w):=by
 have CN:=fun W (hW:Below w.heap.size w W)=>qcs m a' c' W (h'.ext (xbw hW)) (by omega)
 rw [hk] at CN;have CZ:=fun W (hW:Below w.heap.size w W)=>qe3 neg l n a c W (h.ext (xbw hW)) hn (by omega)
 obtain ⟨p,hp⟩:∃ q,(neg&&decide (0<n))=q:=⟨_,rfl⟩
 rw [hp] at CZ;have CU:=fun W=>qmn W
 replace CN:=Hd CN;replace CZ:=Hd CZ;replace CU:=Hd CU;unfold RetF RetQ;dsimp only;rw [qag];clear hp;by_cases hd:d=0
 ·
  have he1:(((limbs d).length:Int)==0)=true:=by rw [hd,qag];rfl
  clear hd h0;exact zz21
 ·
  have hn0:n=0:=by omega
  have he1:(((limbs d).length:Int)==0)=false:=by rw [beq_eq_false_iff_ne];have:=qan (n:=d);omega
  have he2:(((limbs n).length:Int)==0)=true:=by rw [hn0,qag];rfl
  clear hd h0 hn0;exact zz21
theorem qkz (neg:Bool) (l m:List Int) (n d:Nat) (a a':Option Addr) (c c':Nat) (w:World) (h:NatR w a c l) (h':NatR w a' c' m) (hn:val l=n) (hk:val m=d) (hl:l.length<=2000000) (hm:m.length<=2000000) (h0:n≠0) (hd:d=1) :
  Calls Tryz.prog 67 #[.agg #[.bool neg,.slice a l.length c],.slice a' m.length c'] w (RetF (neg,n,d) w):=by
 have hd0:d≠0:=by omega
 have CN:=fun W (hW:Below w.heap.size w W)=>qcs m a' c' W (h'.ext (xbw hW)) (by omega)
 rw [hk] at CN;have CZ:=fun W (hW:Below w.heap.size w W)=>qe3 neg l n a c W (h.ext (xbw hW)) hn (by omega)
 have hp:(neg&&decide (0<n))=neg:=by rw [decide_eq_true (by omega:0<n),Bool.and_true]
 rw [hp] at CZ;have CO:=fun a2 c2 W (h2:NatR W a2 c2 (limbs d))=>qdb (limbs d) a2 c2 W h2
 rw [qcp] at CO;have he1:(((limbs d).length:Int)==0)=false:=by rw [beq_eq_false_iff_ne];have:=qan (n:=d);omega
 have he2:(((limbs n).length:Int)==0)=false:=by rw [beq_eq_false_iff_ne];have:=qan (n:=n);omega
 have ho:decide (d=1)=true:=by simp [hd]
 rw [ho] at CO;unfold RetF RetQ;dsimp only;replace CN:=Hd CN;replace CZ:=Hd CZ;replace CO:=Hd CO;clear hp ho h0 hd hd0;have hz:Blk ((w.alloc (.cells #[.bool neg,.slice a l.length c] 49)).alloc (.cells #[.bool false,.slice none 0 0,.slice none 0 0] 51)) (w.heap.size+1) 51 #[.bool false,.slice none 0 0,.slice none 0 0]:=qa5 w _ _ _;have hx:Blk ((w.alloc (.cells #[.bool neg,.slice a l.length c] 49)).alloc (.cells #[.bool false,.slice none 0 0,.slice none 0 0] 51)) w.heap.size 49 #[.bool neg,.slice a l.length c]:=(Blk.new w _ _).alloc _;have hb0:Below w.heap.size w ((w.alloc (.cells #[.bool neg,.slice a l.length c] 49)).alloc (.cells #[.bool false,.slice none 0 0,.slice none 0 0] 51)):=by go_grown
 have hgB:w.heap.size<w.heap.size+1:=by omega
 have hgl:=hz.lt;clear h h' hn hk;go_enter Tryz.func67,Tryz.ntmps67;go_wp2_with fail;revert hz hx hb0 hgB hgl;generalize (w.alloc (.cells #[.bool neg,.slice a l.length c] 49)).alloc (.cells #[.bool false,.slice none 0 0,.slice none 0 0] 51)=w0;generalize w.heap.size+1=g;intro hz hx hb0 hgB hgl;refine (CN.out _ hb0).mono ?_;rintro e w1 ⟨a2,c2,rfl,hV2,hb1⟩;have hw1:=bth hb0 hb1;have hx1:=hx.below' hb1;have hz1:=hz.below' hb1;have HV2:=Hd hV2;obtain ⟨z0,z1⟩:=cq2 hx1;have hs1:=hb1.size;clear hz hx hV2;go_wp2_with fail;refine (CZ.out _ hw1).mono ?_;rintro e w2 ⟨a1,c1,rfl,hV1,hb2⟩;have hw2:=bth hw1 hb2;have hx2:=hx1.below' hb2;have hz2:=hz1.below' hb2;have HV1:=Hd hV1;have hne:¬ g=w.heap.size:=by omega
 have hxl:w.heap.size<w0.heap.size:=by omega
 have hs0:=hb0.size;have hxS:=blk2 (x:=.bool neg) (y:=.slice a1 (limbs n).length c1) hx2;have hzS:=(hz2.far (p:=⟨w.heap.size,0,none⟩) hne (.bool neg)).far (p:=⟨w.heap.size,1,none⟩) hne (.slice a1 (limbs n).length c1);have hwS:=qbu (g:=w.heap.size) (x:=.bool neg) (y:=.slice a1 (limbs n).length c1) hw2 (nlr _);have K1:∀ V,New w0.heap.size ((w2.setCell ⟨w.heap.size,0,none⟩ (.bool neg)).setCell ⟨w.heap.size,1,none⟩ (.slice a1 (limbs n).length c1)) V->NatR V a1 c1 (limbs n):=fun V hV=>HV1.out V ((back2 hV (nlr _) hxl).base hs1)
 have K2:∀ V,New w0.heap.size ((w2.setCell ⟨w.heap.size,0,none⟩ (.bool neg)).setCell ⟨w.heap.size,1,none⟩ (.slice a1 (limbs n).length c1)) V->NatR V a2 c2 (limbs d):=fun V hV=>HV2.out V ((back2 hV (nlr _) hxl).below hb2)
 clear z0 z1 hV1 hx1 hz1 HV1 HV2 CN CZ;obtain ⟨z0,z1⟩:=cq2 hx2;obtain ⟨f0,f1⟩:=fq2 hx2;obtain ⟨y0,y1,y2⟩:=cq3 hz2;obtain ⟨yf0,yf1,yf2⟩:=fq3 hz2;have hbS:=hwS.size;replace hs1:=hw2.size;clear hx2 hz2 hw2 hb2 hw1 hb1 hb0;go_wp2_with fail;revert hxS hzS hwS K1 K2 hbS;generalize (w2.setCell ⟨w.heap.size,0,none⟩ (.bool neg)).setCell ⟨w.heap.size,1,none⟩ (.slice a1 (limbs n).length c1)=wS;intro hxS hzS hwS K1 K2 hbS;have CO2:=CO.out a2 c2 wS (K2 wS (New.refl _ _));replace CO2:=Hd CO2;replace K1:=Hd K1;replace K2:=Hd K2;refine CO2.out.mono ?_;rintro e w3 ⟨rfl,hb3⟩;have hw3:=bth hwS hb3;have hz3:=hzS.below' hb3;have hx3:=hxS.below' hb3;clear z0 z1 f0 f1 y0 y1 y2 yf0 yf1 yf2 hxS hzS CO2;obtain ⟨z0,z1⟩:=cq2 hx3;obtain ⟨y0,y1,y2⟩:=cq3 hz3;obtain ⟨yf0,yf1,yf2⟩:=fq3 hz3;go_wp2;have hF:=blk3 (x:=.bool neg) (y:=.slice a1 (limbs n).length c1) (z:=.slice a2 (limbs d).length c2) hz3
 obtain ⟨e0,e1,e2⟩:=cq3 hF;refine bodyPost_ret (v:=.agg #[.bool neg,.slice a1 (limbs n).length c1,.slice a2 (limbs d).length c2]) (by simp [results,Tryz.results67,go_sem,e0,e1,e2]) rfl ?_;exact ⟨a1,c1,a2,c2,rfl,fun V hV=>K1.out V ((back3 hV hs0 hgl).below (hb3)),fun V hV=>K2.out V ((back3 hV hs0 hgl).below hb3),qbd hw3 (Nat.le_of_lt hgB)⟩
theorem qkw (neg:Bool) (l m:List Int) (n d:Nat) (a a':Option Addr) (c c':Nat) (w:World) (h:NatR w a c l) (h':NatR w a' c' m) (hn:val l=n) (hk:val m=d) (hl:l.length<=2000000) (hm:m.length<=2000000) (h0:n≠0) (hd1:d≠0) (hd:d≠1)
  (hnl:(limbs n).length<=2000000) (hdl:(limbs d).length<=2000000) (hg1:Nat.gcd n d=1) :
  Calls Tryz.prog 67 #[.agg #[.bool neg,.slice a l.length c],.slice a' m.length c'] w (RetF (neg,n,d) w):=by
 have hd0:d≠0:=by omega
 have CN:=fun W (hW:Below w.heap.size w W)=>qcs m a' c' W (h'.ext (xbw hW)) (by omega)
 rw [hk] at CN;have CZ:=fun W (hW:Below w.heap.size w W)=>qe3 neg l n a c W (h.ext (xbw hW)) hn (by omega)
 have hp:(neg&&decide (0<n))=neg:=by rw [decide_eq_true (by omega:0<n),Bool.and_true]
 rw [hp] at CZ;have CO:=fun a2 c2 W (h2:NatR W a2 c2 (limbs d))=>qdb (limbs d) a2 c2 W h2
 rw [qcp] at CO;have he1:(((limbs d).length:Int)==0)=false:=by rw [beq_eq_false_iff_ne];have:=qan (n:=d);omega
 have he2:(((limbs n).length:Int)==0)=false:=by rw [beq_eq_false_iff_ne];have:=qan (n:=n);omega
 have ho:decide (d=1)=false:=by simp [hd]
 rw [ho] at CO;have CG:=fun a1 c1 a2 c2 W (h1:NatR W a1 c1 (limbs n)) (h2:NatR W a2 c2 (limbs d))=>qjl (limbs n) (limbs d) n d a1 a2 c1 c2 W h1 h2 (qaa _) (qaa _) hnl hdl
 obtain ⟨gg,hgg⟩:∃ q,Nat.gcd n d=q:=⟨_,rfl⟩
 rw [hgg] at CG;have CO4:=fun a2 c2 W (h2:NatR W a2 c2 (limbs gg))=>qdb (limbs gg) a2 c2 W h2
 rw [qcp] at CO4;have ho4:decide (gg=1)=true:=by rw [<- hgg,hg1];rfl
 rw [ho4] at CO4;unfold RetF RetQ;dsimp only;clear hp ho h0 hd hd0 hd1 hnl hdl hg1 hgg ho4;replace CN:=Hd CN;replace CZ:=Hd CZ;replace CO:=Hd CO;replace CG:=Hd CG;replace CO4:=Hd CO4;have hz:Blk ((w.alloc (.cells #[.bool neg,.slice a l.length c] 49)).alloc (.cells #[.bool false,.slice none 0 0,.slice none 0 0] 51)) (w.heap.size+1) 51 #[.bool false,.slice none 0 0,.slice none 0 0]:=qa5 w _ _ _;have hx:Blk ((w.alloc (.cells #[.bool neg,.slice a l.length c] 49)).alloc (.cells #[.bool false,.slice none 0 0,.slice none 0 0] 51)) w.heap.size 49 #[.bool neg,.slice a l.length c]:=(Blk.new w _ _).alloc _;have hb0:Below w.heap.size w ((w.alloc (.cells #[.bool neg,.slice a l.length c] 49)).alloc (.cells #[.bool false,.slice none 0 0,.slice none 0 0] 51)):=by go_grown
 have hgB:w.heap.size<w.heap.size+1:=by omega
 have hgl:=hz.lt;clear h h' hn hk;go_enter Tryz.func67,Tryz.ntmps67;go_wp2_with fail;revert hz hx hb0 hgB hgl;generalize (w.alloc (.cells #[.bool neg,.slice a l.length c] 49)).alloc (.cells #[.bool false,.slice none 0 0,.slice none 0 0] 51)=w0;generalize w.heap.size+1=g;intro hz hx hb0 hgB hgl;refine (CN.out _ hb0).mono ?_;rintro e w1 ⟨a2,c2,rfl,hV2,hb1⟩;have hw1:=bth hb0 hb1;have hx1:=hx.below' hb1;have hz1:=hz.below' hb1;have HV2:=Hd hV2;obtain ⟨z0,z1⟩:=cq2 hx1;have hs1:=hb1.size;clear hz hx hV2;go_wp2_with fail;refine (CZ.out _ hw1).mono ?_;rintro e w2 ⟨a1,c1,rfl,hV1,hb2⟩;have hw2:=bth hw1 hb2;have hx2:=hx1.below' hb2;have hz2:=hz1.below' hb2;have HV1:=Hd hV1;have hne:¬ g=w.heap.size:=by omega
 have hxl:w.heap.size<w0.heap.size:=by omega
 have hs0:=hb0.size;have hxS:=blk2 (x:=.bool neg) (y:=.slice a1 (limbs n).length c1) hx2;have hzS:=(hz2.far (p:=⟨w.heap.size,0,none⟩) hne (.bool neg)).far (p:=⟨w.heap.size,1,none⟩) hne (.slice a1 (limbs n).length c1);have hwS:=qbu (g:=w.heap.size) (x:=.bool neg) (y:=.slice a1 (limbs n).length c1) hw2 (nlr _);have K1:∀ V,New w0.heap.size ((w2.setCell ⟨w.heap.size,0,none⟩ (.bool neg)).setCell ⟨w.heap.size,1,none⟩ (.slice a1 (limbs n).length c1)) V->NatR V a1 c1 (limbs n):=fun V hV=>HV1.out V ((back2 hV (nlr _) hxl).base hs1)
 have K2:∀ V,New w0.heap.size ((w2.setCell ⟨w.heap.size,0,none⟩ (.bool neg)).setCell ⟨w.heap.size,1,none⟩ (.slice a1 (limbs n).length c1)) V->NatR V a2 c2 (limbs d):=fun V hV=>HV2.out V ((back2 hV (nlr _) hxl).below hb2)
 clear z0 z1 hV1 hx1 hz1 HV1 HV2 CN CZ;obtain ⟨z0,z1⟩:=cq2 hx2;obtain ⟨f0,f1⟩:=fq2 hx2;obtain ⟨y0,y1,y2⟩:=cq3 hz2;obtain ⟨yf0,yf1,yf2⟩:=fq3 hz2;have hbS:w0.heap.size<=((w2.setCell ⟨w.heap.size,0,none⟩ (.bool neg)).setCell ⟨w.heap.size,1,none⟩ (.slice a1 (limbs n).length c1)).heap.size:=by simp;exact Nat.le_trans hs1 hb2.size
 replace hs1:=hw2.size;clear hx2 hz2 hw2 hb2 hw1 hb1 hb0;go_wp2_with fail;revert hxS hzS hwS K1 K2 hbS;generalize (w2.setCell ⟨w.heap.size,0,none⟩ (.bool neg)).setCell ⟨w.heap.size,1,none⟩ (.slice a1 (limbs n).length c1)=wS;intro hxS hzS hwS K1 K2 hbS;have CO2:=CO.out a2 c2 wS (K2 wS (New.refl _ _));replace CO2:=Hd CO2;replace K1:=Hd K1;replace K2:=Hd K2;refine CO2.out.mono ?_;rintro e w3 ⟨rfl,hb3⟩;have hw3:=bth hwS hb3;have hz3:=hzS.below' hb3;have hx3:=hxS.below' hb3;clear z0 z1 f0 f1 y0 y1 y2 yf0 yf1 yf2 hxS hzS CO2;obtain ⟨z0,z1⟩:=cq2 hx3;have r1:=K1.out w3 ((New.refl _ _).below hb3);have r2:=K2.out w3 ((New.refl _ _).below hb3);have CG2:=CG.out a1 c1 a2 c2 w3 r1 r2;replace CG2:=Hd CG2;clear r1 r2;go_wp2_with fail;refine CG2.out.mono ?_;rintro e w4 ⟨a4,c4,rfl,hV4,hb4⟩;have hw4:=bth hw3 hb4;have hz4:=hz3.below' hb4;have hx4:=hx3.below' hb4;have r4:=hV4 w4 (New.refl _ _)
 have CO5:=CO4.out a4 c4 w4 r4;replace CO5:=Hd CO5;clear z0 z1 hz3 hx3 CG2;have R4:=Hd r4;have R4V:=Hd hV4;have hs3:=hb3.size;clear r4 hV4;go_wp2_with fail;refine CO5.out.mono ?_;rintro e w5 ⟨rfl,hb5⟩;have hw5:=bth hw4 hb5;have hz5:=hz4.below' hb5;have hx5:=hx4.below' hb5;clear CO5 hz4 hx4;obtain ⟨z0,z1⟩:=cq2 hx5;obtain ⟨f0,f1⟩:=fq2 hx5;obtain ⟨y0,y1,y2⟩:=cq3 hz5;obtain ⟨yf0,yf1,yf2⟩:=fq3 hz5;go_wp2;have hF:=blk3 (x:=.bool neg) (y:=.slice a1 (limbs n).length c1) (z:=.slice a2 (limbs d).length c2) hz5;obtain ⟨e0,e1,e2⟩:=cq3 hF;refine bodyPost_ret (v:=.agg #[.bool neg,.slice a1 (limbs n).length c1,.slice a2 (limbs d).length c2]) (by simp [results,Tryz.results67,go_sem,e0,e1,e2]) rfl ?_;exact ⟨a1,c1,a2,c2,rfl,fun V hV=>K1.out V ((((back3 hV hs0 hgl).below hb5).below hb4).below hb3),fun V hV=>K2.out V ((((back3 hV hs0 hgl).below hb5).below hb4).below hb3),qbd hw5 (Nat.le_of_lt hgB)⟩
theorem qi4 (neg:Bool) (l m:List Int) (n d:Nat) (a a':Option Addr) (c c':Nat) (w:World) (h:NatR w a c l) (h':NatR w a' c' m) (hn:val l=n) (hk:val m=d) (hl:l.length<=2000000) (hm:m.length<=2000000) (h0:n≠0) (hd1:d≠0) (hd:d≠1)
  (hnl:(limbs n).length<=2000000) (hdl:(limbs d).length<=2000000) (hg1:Nat.gcd n d≠1) :
  Calls Tryz.prog 67 #[.agg #[.bool neg,.slice a l.length c],.slice a' m.length c'] w (RetF (neg,n / Nat.gcd n d,d / Nat.gcd n d) w):=by
 have hgp:0<Nat.gcd n d:=Nat.gcd_pos_of_pos_right n (by omega);have hgd:Nat.gcd n d<=d:=Nat.le_of_dvd (by omega) (Nat.gcd_dvd_right n d);have hgl0:=qap hgd;have hd0:d≠0:=by omega
 have CN:=fun W (hW:Below w.heap.size w W)=>qcs m a' c' W (h'.ext (xbw hW)) (by omega)
 rw [hk] at CN;have CZ:=fun W (hW:Below w.heap.size w W)=>qe3 neg l n a c W (h.ext (xbw hW)) hn (by omega)
 have hp:(neg&&decide (0<n))=neg:=by rw [decide_eq_true (by omega:0<n),Bool.and_true]
 rw [hp] at CZ;have CO:=fun a2 c2 W (h2:NatR W a2 c2 (limbs d))=>qdb (limbs d) a2 c2 W h2
 rw [qcp] at CO;have he1:(((limbs d).length:Int)==0)=false:=by rw [beq_eq_false_iff_ne];have:=qan (n:=d);omega
 have he2:(((limbs n).length:Int)==0)=false:=by rw [beq_eq_false_iff_ne];have:=qan (n:=n);omega
 have ho:decide (d=1)=false:=by simp [hd]
 rw [ho] at CO;have CG:=fun a1 c1 a2 c2 W (h1:NatR W a1 c1 (limbs n)) (h2:NatR W a2 c2 (limbs d))=>qjl (limbs n) (limbs d) n d a1 a2 c1 c2 W h1 h2 (qaa _) (qaa _) hnl hdl
 obtain ⟨gg,hgg⟩:∃ q,Nat.gcd n d=q:=⟨_,rfl⟩
 rw [hgg] at CG;have CO4:=fun a2 c2 W (h2:NatR W a2 c2 (limbs gg))=>qdb (limbs gg) a2 c2 W h2
 rw [qcp] at CO4;rw [hgg] at hgp hgl0 ⊢;have ho4:decide (gg=1)=false:=by rw [decide_eq_false_iff_not,<- hgg];exact hg1
 rw [ho4] at CO4;have CD1:=fun a1 c1 a4 c4 W (h1:NatR W a1 c1 (limbs n)) (h4:NatR W a4 c4 (limbs gg))=>qfw (limbs n) (limbs gg) n gg a1 a4 c1 c4 W h1 h4 (qaa _) (qaa _) (by omega) (by omega) hgp
 have CD2:=fun a2 c2 a4 c4 W (h2:NatR W a2 c2 (limbs d)) (h4:NatR W a4 c4 (limbs gg))=>qfw (limbs d) (limbs gg) d gg a2 a4 c2 c4 W h2 h4 (qaa _) (qaa _) (by omega) (by omega) hgp
 unfold RetQR at CD1 CD2;unfold RetF RetQ;dsimp only;obtain ⟨N,hN⟩:∃ q,n / gg=q:=⟨_,rfl⟩
 obtain ⟨D,hD⟩:∃ q,d / gg=q:=⟨_,rfl⟩
 simp only [hN] at CD1 ⊢;simp only [hD] at CD2 ⊢;clear hp ho h0 hd hd0 hd1 hnl hdl hg1 hgg ho4 hN hD hgp hgl0 hgd;replace CD1:=Hd CD1;replace CD2:=Hd CD2;replace CN:=Hd CN;replace CZ:=Hd CZ;replace CO:=Hd CO;replace CG:=Hd CG;replace CO4:=Hd CO4;have hz:Blk ((w.alloc (.cells #[.bool neg,.slice a l.length c] 49)).alloc (.cells #[.bool false,.slice none 0 0,.slice none 0 0] 51)) (w.heap.size+1) 51 #[.bool false,.slice none 0 0,.slice none 0 0]:=qa5 w _ _ _;have hx:Blk ((w.alloc (.cells #[.bool neg,.slice a l.length c] 49)).alloc (.cells #[.bool false,.slice none 0 0,.slice none 0 0] 51)) w.heap.size 49 #[.bool neg,.slice a l.length c]:=(Blk.new w _ _).alloc _;have hb0:Below w.heap.size w ((w.alloc (.cells #[.bool neg,.slice a l.length c] 49)).alloc (.cells #[.bool false,.slice none 0 0,.slice none 0 0] 51)):=by go_grown
 have hgB:w.heap.size<w.heap.size+1:=by omega
 have hgl:=hz.lt;clear h h' hn hk;go_enter Tryz.func67,Tryz.ntmps67;go_wp2_with fail;revert hz hx hb0 hgB hgl;generalize (w.alloc (.cells #[.bool neg,.slice a l.length c] 49)).alloc (.cells #[.bool false,.slice none 0 0,.slice none 0 0] 51)=w0;generalize w.heap.size+1=g;intro hz hx hb0 hgB hgl;refine (CN.out _ hb0).mono ?_;rintro e w1 ⟨a2,c2,rfl,hV2,hb1⟩;have hw1:=bth hb0 hb1;have hx1:=hx.below' hb1;have hz1:=hz.below' hb1;have HV2:=Hd hV2;obtain ⟨z0,z1⟩:=cq2 hx1;have hs1:=hb1.size;clear hz hx hV2;go_wp2_with fail;refine (CZ.out _ hw1).mono ?_;rintro e w2 ⟨a1,c1,rfl,hV1,hb2⟩;have hw2:=bth hw1 hb2;have hx2:=hx1.below' hb2;have hz2:=hz1.below' hb2;have HV1:=Hd hV1;have hne:¬ g=w.heap.size:=by omega
 have hxl:w.heap.size<w0.heap.size:=by omega
 have hs0:=hb0.size;have hxS:=blk2 (x:=.bool neg) (y:=.slice a1 (limbs n).length c1) hx2;have hzS:=(hz2.far (p:=⟨w.heap.size,0,none⟩) hne (.bool neg)).far (p:=⟨w.heap.size,1,none⟩) hne (.slice a1 (limbs n).length c1);have hwS:=qbu (g:=w.heap.size) (x:=.bool neg) (y:=.slice a1 (limbs n).length c1) hw2 (nlr _);have K1:∀ V,New w0.heap.size ((w2.setCell ⟨w.heap.size,0,none⟩ (.bool neg)).setCell ⟨w.heap.size,1,none⟩ (.slice a1 (limbs n).length c1)) V->NatR V a1 c1 (limbs n):=fun V hV=>HV1.out V ((back2 hV (nlr _) hxl).base hs1)
 have K2:∀ V,New w0.heap.size ((w2.setCell ⟨w.heap.size,0,none⟩ (.bool neg)).setCell ⟨w.heap.size,1,none⟩ (.slice a1 (limbs n).length c1)) V->NatR V a2 c2 (limbs d):=fun V hV=>HV2.out V ((back2 hV (nlr _) hxl).below hb2)
 clear z0 z1 hV1 hx1 hz1 HV1 HV2 CN CZ;obtain ⟨z0,z1⟩:=cq2 hx2;obtain ⟨f0,f1⟩:=fq2 hx2;obtain ⟨y0,y1,y2⟩:=cq3 hz2;obtain ⟨yf0,yf1,yf2⟩:=fq3 hz2;have hbS:w0.heap.size<=((w2.setCell ⟨w.heap.size,0,none⟩ (.bool neg)).setCell ⟨w.heap.size,1,none⟩ (.slice a1 (limbs n).length c1)).heap.size:=by simp;exact Nat.le_trans hs1 hb2.size
 replace hs1:=hw2.size;clear hx2 hz2 hw2 hb2 hw1 hb1 hb0;go_wp2_with fail;revert hxS hzS hwS K1 K2 hbS;generalize (w2.setCell ⟨w.heap.size,0,none⟩ (.bool neg)).setCell ⟨w.heap.size,1,none⟩ (.slice a1 (limbs n).length c1)=wS;intro hxS hzS hwS K1 K2 hbS;have CO2:=CO.out a2 c2 wS (K2 wS (New.refl _ _));replace CO2:=Hd CO2;replace K1:=Hd K1;replace K2:=Hd K2;refine CO2.out.mono ?_;rintro e w3 ⟨rfl,hb3⟩;have hw3:=bth hwS hb3;have hz3:=hzS.below' hb3;have hx3:=hxS.below' hb3;clear z0 z1 f0 f1 y0 y1 y2 yf0 yf1 yf2 hxS hzS CO2;obtain ⟨z0,z1⟩:=cq2 hx3;have r1:=K1.out w3 ((New.refl _ _).below hb3);have r2:=K2.out w3 ((New.refl _ _).below hb3);have CG2:=CG.out a1 c1 a2 c2 w3 r1 r2;replace CG2:=Hd CG2;clear r1 r2;go_wp2_with fail;refine CG2.out.mono ?_;rintro e w4 ⟨a4,c4,rfl,hV4,hb4⟩;have hw4:=bth hw3 hb4;have hz4:=hz3.below' hb4;have hx4:=hx3.below' hb4;have r4:=hV4 w4 (New.refl _ _)
 have CO5:=CO4.out a4 c4 w4 r4;replace CO5:=Hd CO5;clear z0 z1 hz3 hx3 CG2;have R4:=Hd r4;have R4V:=Hd hV4;have hs3:=hb3.size;clear r4 hV4;go_wp2_with fail;refine CO5.out.mono ?_;rintro e w5 ⟨rfl,hb5⟩;have hw5:=bth hw4 hb5;have hz5:=hz4.below' hb5;have hx5:=hx4.below' hb5;clear CO5 hz4 hx4;obtain ⟨z0,z1⟩:=cq2 hx5;obtain ⟨f0,f1⟩:=fq2 hx5;obtain ⟨y0,y1,y2⟩:=cq3 hz5;obtain ⟨yf0,yf1,yf2⟩:=fq3 hz5;have CE1:=CD1.out a1 c1 a4 c4 w5 (K1.out w5 ((((New.refl _ _).below hb5).below hb4).below hb3)) (R4.out.ext (xbw hb5));replace CE1:=Hd CE1;go_wp2_with fail;refine CE1.out.mono ?_;rintro e w6 ⟨a6,c6,_,_,rfl,hV6,_,hb6⟩;have hw6:=bth hw5 hb6;have hz6:=hz5.below' hb6;have hx6:=hx5.below' hb6;have hxF:=hx6.set_ 1 (.slice a6 (limbs N).length c6);have hzF:=hz6.far (p:=⟨w.heap.size,1,none⟩) hne (.slice a6 (limbs N).length c6)
 have hwF:=hw6.setCell (p:=⟨w.heap.size,1,none⟩) (nlr _) (.slice a6 (limbs N).length c6);have hN6:∀ {V},New w0.heap.size (w6.setCell ⟨w.heap.size,1,none⟩ (.slice a6 (limbs N).length c6)) V->New w0.heap.size w6 V:=fun hV=>hV.unset hxl
 have hs5:w0.heap.size<=w5.heap.size:=by have:=hbS;have:=hb3.size;have:=hb4.size;have:=hb5.size;omega
 clear CE1 z0 z1 f0 f1 y0 y1 y2 yf0 yf1 yf2 hz5 hx5 hz6;obtain ⟨z0,z1⟩:=cq2 hx6;obtain ⟨f0,f1⟩:=fq2 hx6;go_wp2_with fail;revert hxF hzF hwF hN6;generalize w6.setCell ⟨w.heap.size,1,none⟩ (.slice a6 (limbs N).length c6)=wF;intro hxF hzF hwF hN6;have hk:∀ {V},New w0.heap.size wF V->New w0.heap.size wS V:=fun hV=>((((hN6 hV).below hb6).below hb5).below hb4).below hb3
 have CE2:=CD2.out a2 c2 a4 c4 wF (K2.out wF (hk (New.refl _ _))) (R4V.out wF ((((hN6 (New.refl _ _)).below hb6).below hb5).base (Nat.le_trans hbS hs3)));replace CE2:=Hd CE2;refine CE2.out.mono ?_;rintro e w7 ⟨a7,c7,_,_,rfl,hV7,_,hb7⟩;have hw7:=bth hwF hb7;have hz7:=hzF.below' hb7;have hx7:=hxF.below' hb7;have HV6:=Hd hV6;have HV7:=Hd hV7;have hs6:=hwF.size;have hg6:=hzF.lt;clear CE2 z0 z1 f0 f1 hzF hxF hx6 hV6 hV7;obtain ⟨z0,z1⟩:=cq2 hx7;obtain ⟨y0,y1,y2⟩:=cq3 hz7;obtain ⟨yf0,yf1,yf2⟩:=fq3 hz7;go_wp2;have hF:=blk3 (x:=.bool neg) (y:=.slice a6 (limbs N).length c6) (z:=.slice a7 (limbs D).length c7) hz7;obtain ⟨e0,e1,e2⟩:=cq3 hF;refine bodyPost_ret (v:=.agg #[.bool neg,.slice a6 (limbs N).length c6,.slice a7 (limbs D).length c7]) (by simp [results,Tryz.results67,go_sem,e0,e1,e2]) rfl ?_
 exact ⟨a6,c6,a7,c7,rfl,fun V hV=>HV6.out V ((hN6 ((back3 hV hs0 hgl).below hb7)).base hs5),fun V hV=>HV7.out V (back3 hV hs6 hg6),qbd hw7 (Nat.le_of_lt hgB)⟩
theorem qdd (neg:Bool) (l m:List Int) (n d:Nat) (a a':Option Addr) (c c':Nat) (w:World) (h:NatR w a c l) (h':NatR w a' c' m) (hn:val l=n) (hk:val m=d) (hl:l.length<=2000000) (hm:m.length<=2000000) :
  Calls Tryz.prog 67 #[.agg #[.bool neg,.slice a l.length c],.slice a' m.length c'] w (RetF (qat neg n d) w):=by
 have hll:=qaf h.u16;rw [hn] at hll;have hlm:=qaf h'.u16;rw [hk] at hlm;by_cases hd:d=0
 ·
  rw [hd,qpj];exact qhh neg l m n d a a' c c' w h h' hn hk hl hm (.inl hd)
 ·
  by_cases h0:n=0
  ·
   rw [h0,qm5 _ hd];exact qhh neg l m n d a a' c c' w h h' hn hk hl hm (.inr h0)
  ·
   by_cases h1:d=1
   ·
    rw [qf7 h0 hd (by rw [h1,Nat.gcd_one_right])];exact qkz neg l m n d a a' c c' w h h' hn hk hl hm h0 h1
   ·
    by_cases hg:Nat.gcd n d=1
    ·
     rw [qf7 h0 hd hg];exact qkw neg l m n d a a' c c' w h h' hn hk hl hm h0 hd h1 (by omega) (by omega) hg
    ·
     rw [qhj h0 hd];exact qi4 neg l m n d a a' c c' w h h' hn hk hl hm h0 hd h1 (by omega) (by omega) hg
theorem qox (z:Int):qat (decide (z<0)) z.natAbs 1=(decide (z<0),z.natAbs,1):=by
 unfold qat;rw [if_neg (by omega),Nat.gcd_one_right,Nat.div_one];by_cases hz:z<0
 ·
  have:decide (0<z.natAbs)=true:=by rw [decide_eq_true_eq];omega
  rw [this,Bool.and_true]
 · rw [decide_eq_false hz,Bool.false_and]
theorem qsl (neg1 neg2:Bool) (l m:List Int) (n1 n2:Nat) (a a':Option Addr) (c c':Nat) (w:World) (h:NatR w a c l) (h':NatR w a' c' m) (hn:val l=n1) (hk:val m=n2) (hl:l.length<=2000000) (hm:m.length<=2000000) (h0:n2≠0) :
  Calls Tryz.prog 237 #[.agg #[.bool neg1,.slice a l.length c],.agg #[.bool neg2,.slice a' m.length c']] w (RetM (qat (neg1 != neg2) n1 n2) w):=by
 have CS:=fun W (hW:Below w.heap.size w W)=>qea neg2 m n2 a' c' W (h'.ext (xbw hW)) hk (by omega)
 have CO1:=fun W (hW:Below w.heap.size w W)=>qdd (neg1 != neg2) l m n1 n2 a a' c c' W (h.ext (xbw hW)) (h'.ext (xbw hW)) hn hk hl hm
 have hsg:sgnZ neg2 n2≠0:=by
  unfold sgnZ;rw [if_neg h0]
  split <;> decide
 obtain ⟨sg,hsg2⟩:∃ q,sgnZ neg2 n2=q:=⟨_,rfl⟩
 rw [hsg2] at CS hsg;have hne:(sg==0)=false:=by rw [beq_eq_false_iff_ne];exact hsg
 have hz:Blk (((w.alloc (.cells #[.bool neg1,.slice a l.length c] 49)).alloc (.cells #[.bool neg2,.slice a' m.length c'] 49)).alloc (.cells #[.bool false,.slice none 0 0,.slice none 0 0] 51)) (w.heap.size+1+1) 51 #[.bool false,.slice none 0 0,.slice none 0 0]:=qcn w _ _ _ _;have hx1:Blk (((w.alloc (.cells #[.bool neg1,.slice a l.length c] 49)).alloc (.cells #[.bool neg2,.slice a' m.length c'] 49)).alloc (.cells #[.bool false,.slice none 0 0,.slice none 0 0] 51)) w.heap.size 49 #[.bool neg1,.slice a l.length c]:=((Blk.new w _ _).alloc _).alloc _;have hx2:Blk (((w.alloc (.cells #[.bool neg1,.slice a l.length c] 49)).alloc (.cells #[.bool neg2,.slice a' m.length c'] 49)).alloc (.cells #[.bool false,.slice none 0 0,.slice none 0 0] 51)) (w.heap.size+1) 49 #[.bool neg2,.slice a' m.length c']:=(qa5 w _ _ _).alloc _
 have hb0:Below w.heap.size w (((w.alloc (.cells #[.bool neg1,.slice a l.length c] 49)).alloc (.cells #[.bool neg2,.slice a' m.length c'] 49)).alloc (.cells #[.bool false,.slice none 0 0,.slice none 0 0] 51)):=by go_grown
 have hgB:w.heap.size<w.heap.size+1+1:=by omega
 have hgB2:w.heap.size+1<w.heap.size+1+1:=by omega
 have hgC:w.heap.size<w.heap.size+1:=by omega
 obtain ⟨t,ht⟩:∃ t,qat (neg1 != neg2) n1 n2=t:=⟨_,rfl⟩
 rw [ht] at CO1 ⊢;obtain ⟨s,N,D⟩:=t;unfold RetF at CO1;unfold RetM;dsimp only at CO1 ⊢;replace CS:=Hd CS;replace CO1:=Hd CO1;clear h h' hn hk hsg hsg2 h0 ht;go_enter Tryz.func237,Tryz.ntmps237;go_wp2_with fail;have hgl:=hz.lt;revert hz hx1 hx2 hb0 hgB hgB2 hgC hgl;generalize ((w.alloc (.cells #[.bool neg1,.slice a l.length c] 49)).alloc (.cells #[.bool neg2,.slice a' m.length c'] 49)).alloc (.cells #[.bool false,.slice none 0 0,.slice none 0 0] 51)=w0;generalize w.heap.size+1+1=g;generalize w.heap.size+1=g2;intro hz hx1 hx2 hb0 hgB hgB2 hgC hgl;refine (CS.out _ hb0).mono ?_;rintro e w1 ⟨rfl,hb1⟩;have hw1:=bth hb0 hb1;have hz1:=hz.below' hb1;have hy1:=hx1.below' hb1;have hy2:=hx2.below' hb1;obtain ⟨z0,z1⟩:=cq2 hy1;obtain ⟨z2,z3⟩:=cq2 hy2;go_wp2_with fail;refine (CO1.out _ hw1).mono ?_;rintro e w2 ⟨a1,c1,a2,c2,rfl,hV1,hV2,hb2⟩;have hw2:=bth hw1 hb2;have hz2:=hz1.below' hb2
 have HV1:=Hd hV1;have HV2:=Hd hV2;obtain ⟨z4,z5,z6⟩:=cq3 hz2;obtain ⟨f0,f1,f2⟩:=fq3 hz2;have hs1:=hw1.size;have hgl2:=hz1.lt;clear hV1 hV2;go_wp2;have hF:=blk3 (x:=.bool s) (y:=.slice a1 (limbs N).length c1) (z:=.slice a2 (limbs D).length c2) hz2;obtain ⟨e0,e1,e2⟩:=cq3 hF;refine bodyPost_ret (v:=.tuple #[.agg #[.bool s,.slice a1 (limbs N).length c1,.slice a2 (limbs D).length c2],.int .i64 0]) (by simp [results,Tryz.results237,go_sem,e0,e1,e2]) rfl ?_;exact ⟨a1,c1,a2,c2,rfl,fun V hV=>HV1.out V (back3 hV hs1 hgl2),fun V hV=>HV2.out V (back3 hV hs1 hgl2),qbd hw2 (Nat.le_of_lt hgB)⟩
theorem qh3 (z:Int) (w:World) (hi:InInt z) :
  Calls Tryz.prog 102 #[.int .i64 z] w (RetF (qat (decide (z<0)) z.natAbs 1) w):=by
 have CZ:=fun W=>quu z W hi
 have C1:=fun W=>qmn W
 rw [qox];obtain ⟨s,hng⟩:∃ q,decide (z<0)=q:=⟨_,rfl⟩
 obtain ⟨N,hnz⟩:∃ q,z.natAbs=q:=⟨_,rfl⟩
 simp only [hng,hnz] at CZ ⊢;unfold RetF RetQ;dsimp only;replace CZ:=Hd CZ;replace C1:=Hd C1;have hz:Blk (w.alloc (.cells #[.bool false,.slice none 0 0,.slice none 0 0] 51)) w.heap.size 51 #[.bool false,.slice none 0 0,.slice none 0 0]:=Blk.new w _ _;have hb0:Below w.heap.size w (w.alloc (.cells #[.bool false,.slice none 0 0,.slice none 0 0] 51)):=brf.alloc (nlr _) _;clear hng hnz;go_enter Tryz.func102,Tryz.ntmps102;go_wp2_with fail;revert hz hb0;generalize w.alloc (.cells #[.bool false,.slice none 0 0,.slice none 0 0] 51)=w0;intro hz hb0;refine (CZ.out _).mono ?_;rintro e w1 ⟨a1,c1,rfl,hV1,hb1⟩;have hw1:=bth hb0 hb1;have hz1:=hz.below' hb1;have HV1:=Hd hV1;clear hV1;go_wp2_with fail;refine (C1.out _).mono ?_;rintro e w2 ⟨a2,c2,rfl,hV2,hb2⟩;have hw2:=bth hw1 hb2;have hz2:=hz1.below' hb2;have HV2:=Hd hV2;have hs0:=hb0.size;have hgl0:=hz.lt;have hs1:=hw1.size;have hgl1:=hz1.lt
 obtain ⟨z0,z1,z2⟩:=cq3 hz2;obtain ⟨f0,f1,f2⟩:=fq3 hz2;clear hV2 hz hz1;go_wp2;have hF:=blk3 (x:=.bool s) (y:=.slice a1 (limbs N).length c1) (z:=.slice a2 (limbs 1).length c2) hz2;obtain ⟨e0,e1,e2⟩:=cq3 hF;refine bodyPost_ret (v:=.agg #[.bool s,.slice a1 (limbs N).length c1,.slice a2 (limbs 1).length c2]) (by simp [results,Tryz.results102,go_sem,e0,e1,e2]) rfl ?_;exact ⟨a1,c1,a2,c2,rfl,fun V hV=>HV1.out V ((back3 hV hs0 hgl0).below hb2),fun V hV=>HV2.out V (back3 hV hs1 hgl1),qbd hw2 (nlr _)⟩
end Go.Proofs.YtfaalkneigpcnaaGreatDoor
namespace Go.Proofs.YtfaalkneigpcnaaGreatDoor
def qv (neg:Bool) (n d:Nat):Rat:=mkRat (zval neg n) d
def trip (q:Rat):Bool × Nat × Nat:=(decide (q.num<0),q.num.natAbs,q.den)
def cmpQ (p q:Rat):Int:=if p<q then -1 else if q<p then 1 else 0
theorem qdg (neg:Bool) (n:Nat):(zval neg n).natAbs=n:=by unfold zval;split <;> omega
theorem quk (neg:Bool) (n:Nat):zval (!neg) n = -zval neg n:=by unfold zval;cases neg <;> simp
theorem qt0 (a b:Bool) (n m:Nat):zval (a != b) (n*m)=zval a n*zval b m:=by
 unfold zval;cases a <;> cases b <;> simp [Int.neg_mul,Int.mul_neg]
theorem qgw (z:Int):zval (decide (z<0)) z.natAbs=z:=by
 unfold zval;split
 · next h=>simp at h;omega
 · next h=>simp at h;omega
theorem qtt {neg:Bool} {n g:Nat} (hg:g∣n):zval neg n / (g:Int)=zval neg (n / g):=by
 obtain ⟨k,rfl⟩:=hg;by_cases h0:g=0
 · subst h0;unfold zval;cases neg <;> simp
 ·
  have hp:(g:Int)≠0:=by omega
  rw [Nat.mul_div_cancel_left _ (by omega)];unfold zval
  cases neg
  · simp;rw [Int.mul_ediv_cancel_left _ hp]
  ·
   simp only [if_true,Int.natCast_mul];rw [<- Int.mul_neg,Int.mul_ediv_cancel_left _ hp]
theorem qvw (neg:Bool) (n:Nat):decide (zval neg n<0)=(neg&&decide (0<n)):=by
 unfold zval;cases neg <;> simp
theorem qd8 (neg:Bool) (n d:Nat):qat neg n d=trip (qv neg n d):=by
 unfold qat trip qv;rw [Rat.num_mkRat,Rat.den_mkRat];by_cases h0:d=0
 · simp [h0]
 · rw [if_neg h0,if_neg h0,if_neg h0,qdg,Nat.gcd_comm d n,qtt (Nat.gcd_dvd_left n d),qvw,qdg]
theorem qv8 (q:Rat):qv (trip q).1 (trip q).2.1 (trip q).2.2=q:=by
 unfold qv trip;dsimp only;rw [qgw,Rat.mkRat_self]
theorem qb7 (q:Rat):qv (decide (q.num<0)) q.num.natAbs q.den=q:=qv8 q
theorem qdq (a:Bool) (n m:Nat):zval a (n*m)=zval a n*m:=by unfold zval;cases a <;> simp [Int.neg_mul]
theorem qw6 (a b:Bool) (n d m c:Nat) (hd:d≠0) (hc:c≠0):mkRat (zval a n*c+zval b m*d) (d*c)=qv a n d+qv b m c:=by
 unfold qv;rw [Rat.mkRat_add_mkRat _ _ hd hc]
theorem qsr (a b:Bool) (n d m c:Nat):qv (a != b) (n*m) (d*c)=qv a n d*qv b m c:=by
 unfold qv;rw [Rat.mkRat_mul_mkRat,qt0]
theorem qwz (a:Bool) (n d:Nat):qv (!a) n d = - qv a n d:=by
 unfold qv;rw [Rat.neg_mkRat,quk]
theorem qvv {p q:Rat}:cmpQ p q<0↔p<q:=by
 unfold cmpQ;split
 · simp [*]
 · split <;> simp [*]
theorem qvm {p q:Rat}:0<cmpQ p q↔q<p:=by
 unfold cmpQ;split
 · next h=>simp;exact Rat.not_lt.2 (Rat.le_of_lt h)
 · split <;> simp [*]
theorem qoc {p q:Rat}:cmpQ p q<=0↔p<=q:=by
 rw [<- Int.not_lt,qvm,Rat.not_lt]
theorem qol {p q:Rat}:0<=cmpQ p q↔q<=p:=by
 rw [<- Int.not_lt,qvv,Rat.not_lt]
theorem qri {p q:Rat}:cmpQ p q=0↔p=q:=by
 constructor
 ·
  intro h;exact Rat.le_antisymm (qoc.1 (by omega)) (qol.1 (by omega))
 ·
  rintro rfl;have h1:=(qoc (p:=p) (q:=p)).2 Rat.le_refl;have h2:=(qol (p:=p) (q:=p)).2 Rat.le_refl
  omega
end Go.Proofs.YtfaalkneigpcnaaGreatDoor
