/- Walks: monomials: Right, Exp, Cmp, by the program and by the reference. -/
import Derived.Test.YtnilkimcdgmgkaaGreatDoorCr8
import Derived.Test.YtnilkimcdgmgkaaGreatDoorCr1
import Derived.Test.YtnilkimcdgmgkaaGreatDoorCr5
set_option linter.all false
set_option maxRecDepth 100000
set_option maxHeartbeats 4000000
namespace Go.Proofs.YtnilkimcdgmgkaaGreatDoor
open Go.RowKit
theorem qls (d:Nat) (b:Option Addr) (c:Nat) (w:World) (h:NatR w b c (limbs d)) (f:Bool) (hf:decide (d=1)=f) :
  Calls Tryz.prog 145 #[.slice b (limbs d).length c] w fun e w'=>e=.returned (.bool f)/\Below w.heap.size w w':=by
 subst hf;have:=qd1 (limbs d) b c w h;rw [qc7] at this;exact this
theorem qp6 (s1 s2:Bool) (P1 D1 P2 D2:Nat):(zval s1 (P1*D2)+zval s2 (P2*D1)).natAbs<=P1*D2+P2*D1:=by
 have h1:=qec s1 (P1*D2);have h2:=qec s2 (P2*D1)
 omega
theorem qv5 (s1 s2:Bool) (P1 D1 P2 D2:Nat) (a1 b1 a2 b2:Option Addr) (c1 d1 c2 d2:Nat) (w:World) (r1:NatR w a1 c1 (limbs P1)) (r2:NatR w b1 d1 (limbs D1)) (r3:NatR w a2 c2 (limbs P2)) (r4:NatR w b2 d2 (limbs D2))
  (hD1:D1=1) (hD2:D2=1) (l1:(limbs P1).length<=400000) (l3:(limbs P2).length<=400000) :
  Calls Tryz.prog 98 #[.agg #[.bool s1,.slice a1 (limbs P1).length c1,.slice b1 (limbs D1).length d1],.agg #[.bool s2,.slice a2 (limbs P2).length c2,.slice b2 (limbs D2).length d2]] w (RetF (qao (decide (zval s1 P1+zval s2 P2<0)) (zval s1 P1+zval s2 P2).natAbs D1) w):=by
 have lo:(limbs 1).length<=400000:=Nat.le_trans (qan (k:=1) (by decide)) (by decide);have l2:(limbs D1).length<=400000:=by rw [hD1];exact lo
 have l4:(limbs D2).length<=400000:=by rw [hD2];exact lo
 have CP1:=fun W (hW:Below w.heap.size w W)=>qcs s1 (limbs P1) (limbs D1) a1 b1 c1 d1 W (r2.ext (xbw hW)) (by rw [qaa];omega) (by omega)
 have CP2:=fun W (hW:Below w.heap.size w W)=>qcs s2 (limbs P2) (limbs D2) a2 b2 c2 d2 W (r4.ext (xbw hW)) (by rw [qaa];omega) (by omega)
 have CO1:=fun W (hW:Below w.heap.size w W)=>qls D1 b1 d1 W (r2.ext (xbw hW)) true (by simpa using hD1)
 have CO2:=fun W (hW:Below w.heap.size w W)=>qls D2 b2 d2 W (r4.ext (xbw hW)) true (by simpa using hD2)
 have CS:=fun g W (hW:Below w.heap.size w W)=>qp3 s1 s2 P1 P2 a1 a2 c1 c2 g 2 W (r1.ext (xbw hW)) (r3.ext (xbw hW)) (by omega) (by omega)
 have hsz:=Nat.le_trans (qaj (show (zval s1 P1+zval s2 P2).natAbs<=P1+P2 by have:=qec s1 P1;have:=qec s2 P2;omega)) (qcm P1 P2);revert CS hsz;generalize zval s1 P1+zval s2 P2=z;intro CS hsz;have CR:=fun a c W (hW:Below w.heap.size w W) h=>qdi (decide (z<0)) (limbs z.natAbs) (limbs D1) z.natAbs D1 a b1 c d1 W h (r2.ext (xbw hW)) (qaa _) (qaa _) (by omega) (by omega)
 obtain ⟨t,ht⟩:∃ t,qao (decide (z<0)) z.natAbs D1=t:=⟨_,rfl⟩
 rw [ht] at CR ⊢;obtain ⟨s,N,D⟩:=t;unfold RetI RetZ at CS;obtain ⟨R,hR⟩:∃ R,decide (z<0)=R:=⟨_,rfl⟩
 rw [hR] at CR CS;unfold RetF at CR ⊢;dsimp only at CR ⊢;replace CP1:=Hd CP1;replace CP2:=Hd CP2;replace CO1:=Hd CO1;replace CO2:=Hd CO2;replace CR:=Hd CR;replace CS:=Hd CS;clear r1 r2 r3 r4 hD1 hD2 ht hR hsz lo l2 l4;go_enter Tryz.func98,Tryz.ntmps98;go_wp2_with fail;refine qah (fun W=>Blk W w.heap.size 76 #[.bool s1,.slice a1 (limbs P1).length c1,.slice b1 (limbs D1).length d1]/\Blk W (w.heap.size+1) 76 #[.bool s2,.slice a2 (limbs P2).length c2,.slice b2 (limbs D2).length d2]/\Blk W (w.heap.size+1+1) 76 #[.bool false,.slice none 0 0,.slice none 0 0]/\Below w.heap.size w W/\w.heap.size<w.heap.size+1/\w.heap.size+1<w.heap.size+1+1/\w.heap.size+1+1<W.heap.size) ⟨((Blk.new w _ _).alloc _).alloc _,(qay w _ _ _).alloc _,qb1 w _ _ _ _,by go_grown,by omega,by omega,by simp⟩ ?_;rintro w0 ⟨hx,hy,hz,hw0,hg1,hg2,hg3⟩;revert hx hy hz hg1 hg2 hg3;generalize w.heap.size+1+1=g3
 generalize w.heap.size+1=g2;intro hx hy hz hg1 hg2 hg3;refine (CP1.out _ hw0).mono ?_;rintro e w1 ⟨rfl,hb1⟩;replace hy:=hy.below' hb1;replace hz:=hz.below' hb1;have hw1:=bth hw0 hb1;have hs1:=hb1.size;clear hx;obtain ⟨z0,z1,z2⟩:=cq3 hy;have lt2:=hy.lt;have lt3:=hz.lt;go_wp2_with fail;refine qah (fun W=>Blk W w1.heap.size 74 #[.bool s1,.slice a1 (limbs P1).length c1]/\Blk W g3 76 #[.bool false,.slice none 0 0,.slice none 0 0]/\Below w.heap.size w W/\w1.heap.size<W.heap.size) ⟨by ((with_reducible repeat first|assumption|(apply bF;focus omega)|apply bS|(apply bN;focus (simp;done))|apply bA|apply bD);all_goals rfl),by ((with_reducible repeat first|assumption|(apply bF;focus omega)|apply bS|(apply bN;focus (simp;done))|apply bA|apply bD);all_goals rfl),by go_grown,by simp⟩ ?_;clear z0 z1 z2 lt2 lt3 hy hz;rintro w2 ⟨hu,hz,hw2,hs2⟩;refine (CP2.out _ hw2).mono ?_;rintro e w3 ⟨rfl,hb3⟩
 replace hu:=hu.below' hb3;replace hz:=hz.below' hb3;have hw3:=bth hw2 hb3;have hs3:=hb3.size;have hlt3:w1.heap.size<w3.heap.size:=by omega
 go_wp2_with fail;refine qah (fun W=>Blk W w1.heap.size 74 #[.bool s1,.slice a1 (limbs P1).length c1]/\Blk W w3.heap.size 74 #[.bool s2,.slice a2 (limbs P2).length c2]/\Blk W g3 76 #[.bool false,.slice none 0 0,.slice none 0 0]/\Below w.heap.size w W/\w3.heap.size<W.heap.size) ⟨by ((with_reducible repeat first|assumption|(apply bF;focus omega)|apply bS|(apply bN;focus (simp;done))|apply bA|apply bD);all_goals rfl),by ((with_reducible repeat first|assumption|(apply bF;focus omega)|apply bS|(apply bN;focus (simp;done))|apply bA|apply bD);all_goals rfl),by ((with_reducible repeat first|assumption|(apply bF;focus omega)|apply bS|(apply bN;focus (simp;done))|apply bA|apply bD);all_goals rfl),by go_grown,by simp⟩ ?_;clear hu hz;rintro w4 ⟨hu,hv,hz,hw4,hs4⟩;refine (CO1.out _ hw4).mono ?_;rintro e w5 ⟨rfl,hb5⟩;replace hu:=hu.below' hb5;replace hv:=hv.below' hb5;replace hz:=hz.below' hb5
 have hw5:=bth hw4 hb5;have hs5:=hb5.size;go_wp2_with fail;refine (CO2.out _ hw5).mono ?_;rintro e w6 ⟨rfl,hb6⟩;replace hu:=hu.below' hb6;replace hv:=hv.below' hb6;replace hz:=hz.below' hb6;have hw6:=bth hw5 hb6;have hs6:=hb6.size;obtain ⟨z0,z1⟩:=cq2 hu;obtain ⟨z2,z3⟩:=cq2 hv;have lt1:=hu.lt;have lt2:=hv.lt;go_wp2_with fail;refine qah (fun W=>W.cell? ⟨w6.heap.size,0,none⟩=some (.bool s1)/\W.cell? ⟨w6.heap.size,1,none⟩=some (.slice a1 (limbs P1).length c1)/\W.cell? ⟨w6.heap.size,2,none⟩=some (.bool s2)/\W.cell? ⟨w6.heap.size,3,none⟩=some (.slice a2 (limbs P2).length c2)/\Blk W g3 76 #[.bool false,.slice none 0 0,.slice none 0 0]/\Below w.heap.size w W/\w6.heap.size<W.heap.size)
  ⟨(Blk.new w6 _ _).cell 0,(Blk.new w6 _ _).cell 1,(Blk.new w6 _ _).cell 2,(Blk.new w6 _ _).cell 3,by ((with_reducible repeat first|assumption|(apply bF;focus omega)|apply bS|(apply bN;focus (simp;done))|apply bA|apply bD);all_goals rfl),by go_grown,by simp⟩ ?_
 clear z0 z1 z2 z3 lt1 lt2 hu hv hz;rintro w7 ⟨k0,k1,k2,k3,hz,hw7,hs7⟩;refine (CS.out w6.heap.size w7 hw7 k0 k1 k2 k3).mono ?_;rintro e w8 ⟨a7,c7,rfl,hV,hb8⟩;replace hz:=hz.below' hb8;have hw8':=bth hw7 hb8;have hs8:=hb8.size;have CG:=CR.out a7 c7 w8 hw8' (hV w8 (New.refl _ _));replace CG:=Hd CG;clear hV k0 k1 k2 k3;go_wp2_with fail;refine CG.out.mono ?_;rintro e w9 ⟨a8,c8,b8,d8,rfl,hV1,hV2,hb9⟩;replace hz:=hz.below' hb9;have hw8:=bth hw8' hb9;have hwB:=hw8'.size;have HV1:=Hd hV1;have HV2:=Hd hV2;clear hV1 hV2;obtain ⟨z0,z1,z2⟩:=cq3 hz;obtain ⟨f0,f1,f2⟩:=fq3 hz;go_wp2;have hF:=blk3 (x:=.bool s) (y:=.slice a8 (limbs N).length c8) (z:=.slice b8 (limbs D).length d8) hz;obtain ⟨e0,e1,e2⟩:=cq3 hF;refine bodyPost_ret (v:=.agg #[.bool s,.slice a8 (limbs N).length c8,.slice b8 (limbs D).length d8]) (by simp [results,Tryz.results98,go_sem,e0,e1,e2]) rfl ?_
 exact ⟨a8,c8,b8,d8,rfl,fun V hV=>HV1.out V (back3 hV hwB (by omega)),fun V hV=>HV2.out V (back3 hV hwB (by omega)),qbw hw8 (by omega)⟩
theorem zz23 {P:Prop} (h:P:=by
 clear hu hv hz;rintro w7 ⟨hu,hv,hz,hw7,hs7⟩;have k0:=held (hu.cell 0);have k1:=held (hu.cell 1);have k2:=held (hv.cell 0);have k3:=held (hv.cell 1);have s0:Below w7.heap.size w7 w7.drew:=brf.drew;refine wrx (S:=Below w7.heap.size w7) [(0,.q),(1,.q),(4,.q),(5,.q),(10,.q),(11,.q),(2,.l),(3,.l),(6,.l),(7,.l),(8,.l),(9,.l),(12,.t),(13,.t),(14,.t)] (s0) ?_
 iterate 6 (refine qab rfl rfl fun K hK=>xq ?_;go_simp;refine hK _ _ ?_;clear hK K)
 refine qal rfl rfl (fun K hK=>?_);go_simp;refine (W1.out _).mono ?_;rintro r w8 ⟨rfl,hb8⟩;dsimp only;refine hK.out _ _ (bth s0 hb8) (fun _=>?_);clear hK K;have t1:=bth s0 hb8;refine qal rfl rfl (fun K hK=>?_);go_simp;refine (CZ1.out _ (bth hw7 t1)).mono ?_;rintro r w9 ⟨a9,c9,rfl,hV9,hb9⟩;dsimp only;refine hK.out _ _ (bth t1 hb9) (fun _=>?_);clear hK K;have t2:=bth t1 hb9;have H9:Kp (fun V=>NatR V a9 c9 (limbs PP)) w8.heap.size w9.heap.size w9:=Kp.made hV9;replace H9:=Hd H9;clear hV9;refine qal rfl rfl (fun K hK=>?_);go_simp;refine (W2.out _).mono ?_;rintro r w10 ⟨rfl,hb10⟩;dsimp only;refine hK.out _ _ (bth t2 hb10) (fun _=>?_);clear hK K;have t3:=bth t2 hb10;refine qal rfl rfl (fun K hK=>?_);go_simp;refine (CZ2.out _ (bth hw7 t3)).mono ?_;rintro r w11 ⟨a11,c11,rfl,hV11,hb11⟩;dsimp only;refine hK.out _ _ (bth t3 hb11) (fun _=>?_);clear hK K;have t4:=bth t3 hb11
 have H11:Kp (fun V=>NatR V a11 c11 (limbs DD)) w10.heap.size w11.heap.size w11:=Kp.made hV11;replace H11:=Hd H11;clear hV11;refine qal rfl rfl (fun K hK=>?_);go_simp;refine hK.out _ _ (t4.alloc t4.size _) (fun _=>?_);clear hK K;refine qal rfl rfl (fun K hK=>?_);go_simp;refine qah (fun W=>W.cell? ⟨w11.heap.size,0,none⟩=some (.bool p1)/\W.cell? ⟨w11.heap.size,1,none⟩=some (.slice a9 (limbs PP).length c9)/\W.cell? ⟨w11.heap.size,2,none⟩=some (.bool p2)/\W.cell? ⟨w11.heap.size,3,none⟩=some (.slice a11 (limbs DD).length c11)/\Below w7.heap.size w7 W/\w11.heap.size<W.heap.size/\NatR W a9 c9 (limbs PP)/\NatR W a11 c11 (limbs DD))
  ⟨(Blk.new w11 _ _).cell 0,(Blk.new w11 _ _).cell 1,(Blk.new w11 _ _).cell 2,(Blk.new w11 _ _).cell 3,t4.alloc t4.size _,by simp,(((H9.out.call hb10).call hb11).alloc).now,(H11.out.alloc).now⟩ ?_
 rintro w12 ⟨q0,q1,q2,q3,t5,hs12,m1,m2⟩;refine (CS.out w11.heap.size a9 a11 c9 c11 w12 m1 m2 q0 q1 q2 q3).mono ?_;rintro r w13 ⟨a13,c13,rfl,hV13,hb13⟩;dsimp only;have t6:=bth t5 hb13;refine hK.out _ _ t6 (fun _=>?_);clear hK K;have H13:Kp (fun V=>NatR V a13 c13 (limbs z.natAbs)) w12.heap.size w13.heap.size w13:=Kp.made hV13;replace H13:=Hd H13;clear hV13 q0 q1 q2 q3 m1 m2 H9 H11;refine qam rfl rfl (fun K hK=>?_);go_simp;refine (CN.out _ (bth hw7 t6)).mono ?_;rintro r w14 ⟨a14,c14,rfl,hV14,hb14⟩;dsimp only;refine hK.out _ _ ?_;clear hK K;have t7:=bth t6 hb14;have CG:=CR.out a13 a14 c13 c14 w14 ((H13.out.call hb14).now) (hV14 w14 (New.refl _ _));replace CG:=Hd CG;clear hV14;refine qam rfl rfl (fun K hK=>?_);go_simp;refine (CG.out).mono ?_;rintro r w15 ⟨a8,c8,b8,d8,rfl,hV1,hV2,hb15⟩;dsimp only;refine hK.out _ _ ?_;clear hK K;have t8:=bth t7 hb15;replace hz:=hz.below' t8
 have hw8:=bth hw7 t8;have hwB:=(bth hw7 t7).size;have hwG:=t7.size;have ltz:=hz.lt;have HV1:=Hd hV1;have HV2:=Hd hV2;clear hV1 hV2 k0 k1 k2 k3;obtain ⟨z0,z1,z2⟩:=cq3 hz;obtain ⟨f0,f1,f2⟩:=fq3 hz;refine qam rfl rfl (fun K hK=>?_);go_simp;refine hK.out _ _ ?_;clear hK K;refine qac ?_;go_wp2;have hF:=blk3 (x:=.bool s) (y:=.slice a8 (limbs N).length c8) (z:=.slice b8 (limbs D).length d8) hz;obtain ⟨e0,e1,e2⟩:=cq3 hF;refine bodyPost_ret (v:=.agg #[.bool s,.slice a8 (limbs N).length c8,.slice b8 (limbs D).length d8]) (by simp [results,Tryz.results98,go_sem,e0,e1,e2]) rfl ?_;exact ⟨a8,c8,b8,d8,rfl,fun V hV=>HV1.out V (back3 hV hwB (by omega)),fun V hV=>HV2.out V (back3 hV hwB (by omega)),qbw hw8 (by omega)⟩
 ):P:=h
theorem qt3 (s1 s2:Bool) (P1 D1 P2 D2:Nat) (a1 b1 a2 b2:Option Addr) (c1 d1 c2 d2:Nat) (w:World) (r1:NatR w a1 c1 (limbs P1)) (r2:NatR w b1 d1 (limbs D1)) (r3:NatR w a2 c2 (limbs P2)) (r4:NatR w b2 d2 (limbs D2))
  (hD1:D1≠0) (hD2:D2≠0) (l1:(limbs P1).length<=400000) (l2:(limbs D1).length<=400000) (l3:(limbs P2).length<=400000) (l4:(limbs D2).length<=400000) (hne:¬ (D1=1/\D2=1)) :
  Calls Tryz.prog 98 #[.agg #[.bool s1,.slice a1 (limbs P1).length c1,.slice b1 (limbs D1).length d1],.agg #[.bool s2,.slice a2 (limbs P2).length c2,.slice b2 (limbs D2).length d2]] w (RetF (qao (decide (zval s1 (P1*D2)+zval s2 (P2*D1)<0)) (zval s1 (P1*D2)+zval s2 (P2*D1)).natAbs (D1*D2)) w):=by
 have m1:=qa5 P1 D2;have m2:=qa5 P2 D1;have m3:=qa5 D1 D2;have m4:=Nat.le_trans (qaj (qp6 s1 s2 P1 D1 P2 D2)) (qcm _ _);have CP1:=fun W (hW:Below w.heap.size w W)=>qcs s1 (limbs P1) (limbs D1) a1 b1 c1 d1 W (r2.ext (xbw hW)) (by rw [qaa];exact hD1) (by omega)
 have CP2:=fun W (hW:Below w.heap.size w W)=>qcs s2 (limbs P2) (limbs D2) a2 b2 c2 d2 W (r4.ext (xbw hW)) (by rw [qaa];exact hD2) (by omega)
 have CO1:=fun f hf W (hW:Below w.heap.size w W)=>qls D1 b1 d1 W (r2.ext (xbw hW)) f hf
 have CO2:=fun f hf W (hW:Below w.heap.size w W)=>qls D2 b2 d2 W (r4.ext (xbw hW)) f hf
 have CZ1:=fun W (hW:Below w.heap.size w W)=>qie s1 false (limbs P1) (limbs D2) P1 D2 a1 b2 c1 d2 W (r1.ext (xbw hW)) (r4.ext (xbw hW)) (qaa _) (qaa _) (by omega) (by omega)
 have CZ2:=fun W (hW:Below w.heap.size w W)=>qie s2 false (limbs P2) (limbs D1) P2 D1 a2 b1 c2 d1 W (r3.ext (xbw hW)) (r2.ext (xbw hW)) (qaa _) (qaa _) (by omega) (by omega)
 have x1:(s1 != false)=s1:=by cases s1 <;> rfl
 have x2:(s2 != false)=s2:=by cases s2 <;> rfl
 simp only [x1] at CZ1;simp only [x2] at CZ2;have CS:=fun g a b c d W h h'=>qp3 (s1&&decide (0<P1*D2)) (s2&&decide (0<P2*D1)) (P1*D2) (P2*D1) a b c d g 2 W h h' (by omega) (by omega)
 simp only [qiw] at CS;have CN:=fun W (hW:Below w.heap.size w W)=>qqk (limbs D1) (limbs D2) D1 D2 b1 b2 d1 d2 W (r2.ext (xbw hW)) (r4.ext (xbw hW)) (qaa _) (qaa _) (by omega) (by omega)
 revert CS m4;generalize zval s1 (P1*D2)+zval s2 (P2*D1)=z;intro m4 CS;have CR:=fun a b c d W h h'=>qdi (decide (z<0)) (limbs z.natAbs) (limbs (D1*D2)) z.natAbs (D1*D2) a b c d W h h' (qaa _) (qaa _) (by omega) (by omega)
 obtain ⟨t,ht⟩:∃ t,qao (decide (z<0)) z.natAbs (D1*D2)=t:=⟨_,rfl⟩
 rw [ht] at CR ⊢;obtain ⟨s,N,D⟩:=t;unfold RetI RetZ at CS;obtain ⟨R,hR⟩:∃ R,decide (z<0)=R:=⟨_,rfl⟩
 rw [hR] at CR;simp only [hR] at CS;obtain ⟨p1,hp1⟩:∃ q,(s1&&decide (0<P1*D2))=q:=⟨_,rfl⟩
 obtain ⟨p2,hp2⟩:∃ q,(s2&&decide (0<P2*D1))=q:=⟨_,rfl⟩
 simp only [hp1] at CZ1 CS;simp only [hp2] at CZ2 CS;unfold RetF at CR ⊢;dsimp only at CR ⊢;have W1:=fun W=>qf2 (limbs D2).length b2 d2 W
 have W2:=fun W=>qf2 (limbs D1).length b1 d1 W
 clear ht hR hp1 hp2 x1 x2 m1 m2 m3 m4 hD1 hD2;obtain ⟨PP,hPP⟩:∃ q,P1*D2=q:=⟨_,rfl⟩
 obtain ⟨DD,hDD⟩:∃ q,P2*D1=q:=⟨_,rfl⟩
 obtain ⟨MM,hMM⟩:∃ q,D1*D2=q:=⟨_,rfl⟩
 simp only [hPP] at CZ1 CS;simp only [hDD] at CZ2 CS;simp only [hMM] at CN CR;clear hPP hDD hMM;replace W1:=Hd W1;replace W2:=Hd W2;replace CP1:=Hd CP1;replace CP2:=Hd CP2;replace CZ1:=Hd CZ1;replace CZ2:=Hd CZ2;replace CR:=Hd CR;replace CS:=Hd CS;replace CN:=Hd CN;by_cases ho1:D1=1
 ·
  replace CO1:=Hd (CO1 true (by simpa using ho1));replace CO2:=Hd (CO2 false (by rw [decide_eq_false_iff_not];intro e;exact hne ⟨ho1,e⟩));clear r1 r2 r3 r4 hne ho1;go_enter Tryz.func98,Tryz.ntmps98;go_wp2_with fail;refine qah (fun W=>Blk W w.heap.size 76 #[.bool s1,.slice a1 (limbs P1).length c1,.slice b1 (limbs D1).length d1]/\Blk W (w.heap.size+1) 76 #[.bool s2,.slice a2 (limbs P2).length c2,.slice b2 (limbs D2).length d2]/\Blk W (w.heap.size+1+1) 76 #[.bool false,.slice none 0 0,.slice none 0 0]/\Below w.heap.size w W/\w.heap.size<w.heap.size+1/\w.heap.size+1<w.heap.size+1+1/\w.heap.size+1+1<W.heap.size) ⟨((Blk.new w _ _).alloc _).alloc _,(qay w _ _ _).alloc _,qb1 w _ _ _ _,by go_grown,by omega,by omega,by simp⟩ ?_;rintro w0 ⟨hx,hy,hz,hw0,hg1,hg2,hg3⟩;revert hx hy hz hg1 hg2 hg3;generalize w.heap.size+1+1=g3;generalize w.heap.size+1=g2;intro hx hy hz hg1 hg2 hg3
  refine (CP1.out _ hw0).mono ?_;rintro e w1 ⟨rfl,hb1⟩;replace hy:=hy.below' hb1;replace hz:=hz.below' hb1;have hw1:=bth hw0 hb1;have hs1:=hb1.size;clear hx;obtain ⟨z0,z1,z2⟩:=cq3 hy;have lt2:=hy.lt;have lt3:=hz.lt;go_wp2_with fail;refine qah (fun W=>Blk W w1.heap.size 74 #[.bool s1,.slice a1 (limbs P1).length c1]/\Blk W g3 76 #[.bool false,.slice none 0 0,.slice none 0 0]/\Below w.heap.size w W/\w1.heap.size<W.heap.size) ⟨by ((with_reducible repeat first|assumption|(apply bF;focus omega)|apply bS|(apply bN;focus (simp;done))|apply bA|apply bD);all_goals rfl),by ((with_reducible repeat first|assumption|(apply bF;focus omega)|apply bS|(apply bN;focus (simp;done))|apply bA|apply bD);all_goals rfl),by go_grown,by simp⟩ ?_;clear z0 z1 z2 lt2 lt3 hy hz;rintro w2 ⟨hu,hz,hw2,hs2⟩;refine (CP2.out _ hw2).mono ?_;rintro e w3 ⟨rfl,hb3⟩;replace hu:=hu.below' hb3;replace hz:=hz.below' hb3
  have hw3:=bth hw2 hb3;have hs3:=hb3.size;have hlt3:w1.heap.size<w3.heap.size:=by omega
  go_wp2_with fail;refine qah (fun W=>Blk W w1.heap.size 74 #[.bool s1,.slice a1 (limbs P1).length c1]/\Blk W w3.heap.size 74 #[.bool s2,.slice a2 (limbs P2).length c2]/\Blk W g3 76 #[.bool false,.slice none 0 0,.slice none 0 0]/\Below w.heap.size w W/\w3.heap.size<W.heap.size) ⟨by ((with_reducible repeat first|assumption|(apply bF;focus omega)|apply bS|(apply bN;focus (simp;done))|apply bA|apply bD);all_goals rfl),by ((with_reducible repeat first|assumption|(apply bF;focus omega)|apply bS|(apply bN;focus (simp;done))|apply bA|apply bD);all_goals rfl),by ((with_reducible repeat first|assumption|(apply bF;focus omega)|apply bS|(apply bN;focus (simp;done))|apply bA|apply bD);all_goals rfl),by go_grown,by simp⟩ ?_;clear hu hz;rintro w4 ⟨hu,hv,hz,hw4,hs4⟩;refine (CO1.out _ hw4).mono ?_;rintro e w5 ⟨rfl,hb5⟩;replace hu:=hu.below' hb5;replace hv:=hv.below' hb5;replace hz:=hz.below' hb5
  have hw5:=bth hw4 hb5;have hs5:=hb5.size;go_wp2_with fail;refine (CO2.out _ hw5).mono ?_;rintro e w6 ⟨rfl,hb6⟩;replace hu:=hu.below' hb6;replace hv:=hv.below' hb6;replace hz:=hz.below' hb6;have hw6:=bth hw5 hb6;have hs6:=hb6.size;go_wp2
  refine qak (fun W=>Blk W w1.heap.size 74 #[.bool s1,.slice a1 (limbs P1).length c1]/\Blk W w3.heap.size 74 #[.bool s2,.slice a2 (limbs P2).length c2]/\Blk W g3 76 #[.bool false,.slice none 0 0,.slice none 0 0]/\Below w.heap.size w W/\w6.heap.size<=W.heap.size) ⟨by ((with_reducible repeat first|assumption|(apply bF;focus omega)|apply bS|(apply bN;focus (simp;done))|apply bA|apply bD);all_goals rfl),by ((with_reducible repeat first|assumption|(apply bF;focus omega)|apply bS|(apply bN;focus (simp;done))|apply bA|apply bD);all_goals rfl),by ((with_reducible repeat first|assumption|(apply bF;focus omega)|apply bS|(apply bN;focus (simp;done))|apply bA|apply bD);all_goals rfl),by go_grown,by simp⟩ ?_;exact zz23
 ·
  replace CO1:=Hd (CO1 false (by simpa using ho1));clear r1 r2 r3 r4 hne ho1 CO2;go_enter Tryz.func98,Tryz.ntmps98;go_wp2_with fail;refine qah (fun W=>Blk W w.heap.size 76 #[.bool s1,.slice a1 (limbs P1).length c1,.slice b1 (limbs D1).length d1]/\Blk W (w.heap.size+1) 76 #[.bool s2,.slice a2 (limbs P2).length c2,.slice b2 (limbs D2).length d2]/\Blk W (w.heap.size+1+1) 76 #[.bool false,.slice none 0 0,.slice none 0 0]/\Below w.heap.size w W/\w.heap.size<w.heap.size+1/\w.heap.size+1<w.heap.size+1+1/\w.heap.size+1+1<W.heap.size) ⟨((Blk.new w _ _).alloc _).alloc _,(qay w _ _ _).alloc _,qb1 w _ _ _ _,by go_grown,by omega,by omega,by simp⟩ ?_;rintro w0 ⟨hx,hy,hz,hw0,hg1,hg2,hg3⟩;revert hx hy hz hg1 hg2 hg3;generalize w.heap.size+1+1=g3;generalize w.heap.size+1=g2;intro hx hy hz hg1 hg2 hg3;refine (CP1.out _ hw0).mono ?_;rintro e w1 ⟨rfl,hb1⟩;replace hy:=hy.below' hb1
  replace hz:=hz.below' hb1;have hw1:=bth hw0 hb1;have hs1:=hb1.size;clear hx;obtain ⟨z0,z1,z2⟩:=cq3 hy;have lt2:=hy.lt;have lt3:=hz.lt;go_wp2_with fail;refine qah (fun W=>Blk W w1.heap.size 74 #[.bool s1,.slice a1 (limbs P1).length c1]/\Blk W g3 76 #[.bool false,.slice none 0 0,.slice none 0 0]/\Below w.heap.size w W/\w1.heap.size<W.heap.size) ⟨by ((with_reducible repeat first|assumption|(apply bF;focus omega)|apply bS|(apply bN;focus (simp;done))|apply bA|apply bD);all_goals rfl),by ((with_reducible repeat first|assumption|(apply bF;focus omega)|apply bS|(apply bN;focus (simp;done))|apply bA|apply bD);all_goals rfl),by go_grown,by simp⟩ ?_;clear z0 z1 z2 lt2 lt3 hy hz;rintro w2 ⟨hu,hz,hw2,hs2⟩;refine (CP2.out _ hw2).mono ?_;rintro e w3 ⟨rfl,hb3⟩;replace hu:=hu.below' hb3;replace hz:=hz.below' hb3;have hw3:=bth hw2 hb3;have hs3:=hb3.size;have hlt3:w1.heap.size<w3.heap.size:=by omega
  go_wp2_with fail;refine qah (fun W=>Blk W w1.heap.size 74 #[.bool s1,.slice a1 (limbs P1).length c1]/\Blk W w3.heap.size 74 #[.bool s2,.slice a2 (limbs P2).length c2]/\Blk W g3 76 #[.bool false,.slice none 0 0,.slice none 0 0]/\Below w.heap.size w W/\w3.heap.size<W.heap.size) ⟨by ((with_reducible repeat first|assumption|(apply bF;focus omega)|apply bS|(apply bN;focus (simp;done))|apply bA|apply bD);all_goals rfl),by ((with_reducible repeat first|assumption|(apply bF;focus omega)|apply bS|(apply bN;focus (simp;done))|apply bA|apply bD);all_goals rfl),by ((with_reducible repeat first|assumption|(apply bF;focus omega)|apply bS|(apply bN;focus (simp;done))|apply bA|apply bD);all_goals rfl),by go_grown,by simp⟩ ?_;clear hu hz;rintro w4 ⟨hu,hv,hz,hw4,hs4⟩;refine (CO1.out _ hw4).mono ?_;rintro e w5 ⟨rfl,hb5⟩;replace hu:=hu.below' hb5;replace hv:=hv.below' hb5;replace hz:=hz.below' hb5
  have hw5:=bth hw4 hb5;have hs5:=hb5.size;go_wp2;refine qak (fun W=>Blk W w1.heap.size 74 #[.bool s1,.slice a1 (limbs P1).length c1]/\Blk W w3.heap.size 74 #[.bool s2,.slice a2 (limbs P2).length c2]/\Blk W g3 76 #[.bool false,.slice none 0 0,.slice none 0 0]/\Below w.heap.size w W/\w5.heap.size<=W.heap.size) ⟨by ((with_reducible repeat first|assumption|(apply bF;focus omega)|apply bS|(apply bN;focus (simp;done))|apply bA|apply bD);all_goals rfl),by ((with_reducible repeat first|assumption|(apply bF;focus omega)|apply bS|(apply bN;focus (simp;done))|apply bA|apply bD);all_goals rfl),by ((with_reducible repeat first|assumption|(apply bF;focus omega)|apply bS|(apply bN;focus (simp;done))|apply bA|apply bD);all_goals rfl),by go_grown,by simp⟩ ?_;exact zz23
theorem qxc (s1 s2:Bool) (P1 D1 P2 D2:Nat) (a1 b1 a2 b2:Option Addr) (c1 d1 c2 d2:Nat) (w:World) (r1:NatR w a1 c1 (limbs P1)) (r2:NatR w b1 d1 (limbs D1)) (r3:NatR w a2 c2 (limbs P2)) (r4:NatR w b2 d2 (limbs D2))
  (S1 S2:Bool) (N1 M1 N2 M2:Nat) (h1:qao s1 P1 D1=(S1,N1,M1)) (h2:qao s2 P2 D2=(S2,N2,M2)) (hD1:D1≠0) (hD2:D2≠0) (l1:(limbs P1).length<=400000) (l2:(limbs D1).length<=400000) (l3:(limbs P2).length<=400000) (l4:(limbs D2).length<=400000) :
  Calls Tryz.prog 171 #[.agg #[.bool s1,.slice a1 (limbs P1).length c1,.slice b1 (limbs D1).length d1],.agg #[.bool s2,.slice a2 (limbs P2).length c2,.slice b2 (limbs D2).length d2]] w (RetF (qao (decide (zval S1 (N1*M2)+zval S2 (N2*M1)<0)) (zval S1 (N1*M2)+zval S2 (N2*M1)).natAbs (M1*M2)) w):=by
 have r1':=qaj (qd2 s1 P1 D1);have r2':=qaj (qez s1 P1 D1);have r3':=qaj (qd2 s2 P2 D2);have r4':=qaj (qez s2 P2 D2);have t2:=qdy D1;have t4:=qdy D2;have C1:=fun W (hW:Below w.heap.size w W)=>qcw s1 (limbs P1) (limbs D1) P1 D1 a1 b1 c1 d1 W (r1.ext (xbw hW)) (r2.ext (xbw hW)) (qaa _) (qaa _) (by omega) (by omega)
 have C2:=fun W (hW:Below w.heap.size w W)=>qcw s2 (limbs P2) (limbs D2) P2 D2 a2 b2 c2 d2 W (r3.ext (xbw hW)) (r4.ext (xbw hW)) (qaa _) (qaa _) (by omega) (by omega)
 rw [h1] at C1 r1' r2';rw [h2] at C2 r3' r4';unfold RetF at C1 C2;dsimp only at C1 C2 r1' r2' r3' r4';have m1:=qa5 N1 M2;have m2:=qa5 N2 M1;have m3:=qa5 M1 M2;have m4:=Nat.le_trans (qaj (qp6 S1 S2 N1 M1 N2 M2)) (qcm _ _);have CZ1:=fun a1 a2 c1 c2 W g1 g2=>qhj S1 false (limbs N1) (limbs M2) N1 M2 a1 a2 c1 c2 W g1 g2 (qaa _) (qaa _) (by omega) (by omega)
 have CZ2:=fun a1 a2 c1 c2 W g1 g2=>qhj S2 false (limbs N2) (limbs M1) N2 M1 a1 a2 c1 c2 W g1 g2 (qaa _) (qaa _) (by omega) (by omega)
 have x1:(S1 != false)=S1:=by cases S1 <;> rfl
 have x2:(S2 != false)=S2:=by cases S2 <;> rfl
 simp only [x1] at CZ1;simp only [x2] at CZ2;have CS:=fun a b c d W h h'=>qwk (S1&&decide (0<N1*M2)) (S2&&decide (0<N2*M1)) (limbs (N1*M2)) (limbs (N2*M1)) (N1*M2) (N2*M1) a b c d W h h' (qaa _) (qaa _) (by omega) (by omega)
 simp only [qiw] at CS;have CN:=fun a b c d W h h'=>qfr (limbs M1) (limbs M2) M1 M2 a b c d W h h' (qaa _) (qaa _) (by omega) (by omega)
 revert CS m4;generalize zval S1 (N1*M2)+zval S2 (N2*M1)=z;intro m4 CS;have CR:=fun a b c d W h h'=>qiv (decide (z<0)) (limbs z.natAbs) (limbs (M1*M2)) z.natAbs (M1*M2) a b c d W h h' (qaa _) (qaa _) (by omega) (by omega)
 obtain ⟨t,ht⟩:∃ t,qao (decide (z<0)) z.natAbs (M1*M2)=t:=⟨_,rfl⟩
 rw [ht] at CR ⊢;obtain ⟨s,N,D⟩:=t;unfold RetI RetZ at CS;obtain ⟨R,hR⟩:∃ R,decide (z<0)=R:=⟨_,rfl⟩
 rw [hR] at CR;simp only [hR] at CS;obtain ⟨p1,hp1⟩:∃ q,(S1&&decide (0<N1*M2))=q:=⟨_,rfl⟩
 obtain ⟨p2,hp2⟩:∃ q,(S2&&decide (0<N2*M1))=q:=⟨_,rfl⟩
 simp only [hp1] at CZ1 CS;simp only [hp2] at CZ2 CS;unfold RetF at CR ⊢;dsimp only at CR ⊢;clear ht hR hp1 hp2 x1 x2 m1 m2 m3 m4 r1' r2' r3' r4' t2 t4 h1 h2 hD1 hD2;obtain ⟨PP,hPP⟩:∃ q,N1*M2=q:=⟨_,rfl⟩
 obtain ⟨DD,hDD⟩:∃ q,N2*M1=q:=⟨_,rfl⟩
 obtain ⟨MM,hMM⟩:∃ q,M1*M2=q:=⟨_,rfl⟩
 simp only [hPP] at CZ1 CS;simp only [hDD] at CZ2 CS;simp only [hMM] at CN CR;clear hPP hDD hMM;replace C1:=Hd C1;replace C2:=Hd C2;replace CZ1:=Hd CZ1;replace CZ2:=Hd CZ2;replace CS:=Hd CS;replace CN:=Hd CN;replace CR:=Hd CR;clear r1 r2 r3 r4;go_enter Tryz.func171,Tryz.ntmps171;go_wp2;refine qak (fun W=>Blk W w.heap.size 76 #[.bool s1,.slice a1 (limbs P1).length c1,.slice b1 (limbs D1).length d1]/\Blk W (w.heap.size+1) 76 #[.bool s2,.slice a2 (limbs P2).length c2,.slice b2 (limbs D2).length d2]/\Blk W (w.heap.size+1+1) 76 #[.bool false,.slice none 0 0,.slice none 0 0]/\Below w.heap.size w W/\w.heap.size<w.heap.size+1/\w.heap.size+1<w.heap.size+1+1/\w.heap.size+1+1<W.heap.size) ⟨((Blk.new w _ _).alloc _).alloc _,(qay w _ _ _).alloc _,qb1 w _ _ _ _,by go_grown,by omega,by omega,by simp⟩ ?_;rintro w0 ⟨hx,hy,hz,hw0,hg1,hg2,hg3⟩;revert hx hy hz hg1 hg2 hg3;generalize w.heap.size+1+1=g3
 generalize w.heap.size+1=g2;intro hx hy hz hg1 hg2 hg3;have k0:=held (hx.cell 0);have k1:=held (hx.cell 1);have k2:=held (hx.cell 2);have k3:=held (hy.cell 0);have k4:=held (hy.cell 1);have k5:=held (hy.cell 2);have s0:Below w0.heap.size w0 w0.drew:=brf.drew;refine wrx (S:=Below w0.heap.size w0) [(0,.q),(2,.q),(1,.l),(3,.t),(4,.t),(5,.t)] (s0) ?_
 iterate 2 (refine qab rfl rfl fun K hK=>xq ?_;go_simp;refine hK _ _ ?_;clear hK K)
 refine qal rfl rfl (fun K hK=>?_);go_simp;refine (C1.out _ (bth hw0 s0)).mono ?_;rintro r w1 ⟨u1,e1,v1,f1,rfl,hV1,hV2,hb1⟩;dsimp only;refine hK.out _ _ (bth s0 hb1) (fun _=>?_);clear hK K;have s1':=bth s0 hb1;refine qam rfl rfl (fun K hK=>?_);go_simp;refine (C2.out _ (bth hw0 s1')).mono ?_;rintro r w2 ⟨u2,e2,v2,f2,rfl,hV3,hV4,hb2⟩;dsimp only;refine hK.out _ _ ?_;clear hK K;have s2':=bth s1' hb2;have H1:Kp (fun V=>NatR V u1 e1 (limbs N1)) w0.heap.size w1.heap.size w2:=(Kp.made hV1).call hb2;have H2:Kp (fun V=>NatR V v1 f1 (limbs M1)) w0.heap.size w1.heap.size w2:=(Kp.made hV2).call hb2;have H3:Kp (fun V=>NatR V u2 e2 (limbs N2)) w1.heap.size w2.heap.size w2:=Kp.made hV3;have H4:Kp (fun V=>NatR V v2 f2 (limbs M2)) w1.heap.size w2.heap.size w2:=Kp.made hV4;replace H1:=Hd H1;replace H2:=Hd H2;replace H3:=Hd H3;replace H4:=Hd H4;replace hx:=hx.below' s2';replace hy:=hy.below' s2'
 replace hz:=hz.below' s2';have hw2:=bth hw0 s2';have hs1:=s1'.size;have hs2:=hb2.size;clear hV1 hV2 hV3 hV4 k0 k1 k2 k3 k4 k5 s0 C1 C2;obtain ⟨k0,k1,k2⟩:=cq3 hx;obtain ⟨k3,k4,k5⟩:=cq3 hy;obtain ⟨f0',f1',f2'⟩:=fq3 hx;obtain ⟨f3',f4',f5'⟩:=fq3 hy;have hne:¬ g2=w.heap.size:=by omega
 have hne2:¬ w.heap.size=g2:=by omega
 refine qam rfl rfl (fun K hK=>?_);go_simp;refine hK.out _ _ ?_;clear hK K;refine qam rfl rfl (fun K hK=>?_);go_simp;refine hK.out _ _ ?_;clear hK K;refine qac ?_;go_wp2;refine qak (fun W=>Blk W w.heap.size 76 #[.bool S1,.slice u1 (limbs N1).length e1,.slice v1 (limbs M1).length f1]/\Blk W g2 76 #[.bool S2,.slice u2 (limbs N2).length e2,.slice v2 (limbs M2).length f2]/\Blk W g3 76 #[.bool false,.slice none 0 0,.slice none 0 0]/\Below w.heap.size w W/\w2.heap.size<=W.heap.size/\NatR W u1 e1 (limbs N1)/\NatR W v1 f1 (limbs M1)/\NatR W u2 e2 (limbs N2)/\NatR W v2 f2 (limbs M2))
  ⟨by ((with_reducible repeat first|assumption|(apply bF;focus omega)|apply bS|(apply bN;focus (simp;done))|apply bA|apply bD);all_goals rfl),by ((with_reducible repeat first|assumption|(apply bF;focus omega)|apply bS|(apply bN;focus (simp;done))|apply bA|apply bD);all_goals rfl),by ((with_reducible repeat first|assumption|(apply bF;focus omega)|apply bS|(apply bN;focus (simp;done))|apply bA|apply bD);all_goals rfl),by go_grown,by simp,Kp.now (R:=fun V=>NatR V u1 e1 (limbs N1)) (B:=w0.heap.size) (T:=w1.heap.size) (by (with_reducible repeat first | exact H1.out | (refine Kp.setc ?_ ?_;focus omega) | refine Kp.alloc ?_ | refine Kp.drew ?_)),Kp.now (R:=fun V=>NatR V v1 f1 (limbs M1)) (B:=w0.heap.size) (T:=w1.heap.size) (by (with_reducible repeat first | exact H2.out | (refine Kp.setc ?_ ?_;focus omega) | refine Kp.alloc ?_ | refine Kp.drew ?_)),Kp.now (R:=fun V=>NatR V u2 e2 (limbs N2)) (B:=w1.heap.size) (T:=w2.heap.size) (by (with_reducible repeat first | exact H3.out | (refine Kp.setc ?_ ?_;focus omega) | refine Kp.alloc ?_ | refine Kp.drew ?_)),Kp.now (R:=fun V=>NatR V v2 f2 (limbs M2)) (B:=w1.heap.size) (T:=w2.heap.size) (by (with_reducible repeat first | exact H4.out | (refine Kp.setc ?_ ?_;focus omega) | refine Kp.alloc ?_ | refine Kp.drew ?_))⟩ ?_
 clear hx hy hz k0 k1 k2 k3 k4 k5 f0' f1' f2' f3' f4' f5' H1 H2 H3 H4 hne hne2;rintro w3 ⟨hx,hy,hz,hw3,hs3,q1,q2,q3,q4⟩;replace q1:=Hd q1;replace q2:=Hd q2;replace q3:=Hd q3;replace q4:=Hd q4;have W1:=fun W=>qhe (limbs M2).length v2 f2 W
 have W2:=fun W=>qhe (limbs M1).length v1 f1 W
 replace W1:=Hd W1;replace W2:=Hd W2;clear hw0 s1' s2' hb1 hb2 hw2;have k0:=held (hx.cell 0);have k1:=held (hx.cell 1);have k2:=held (hx.cell 2);have k3:=held (hy.cell 0);have k4:=held (hy.cell 1);have k5:=held (hy.cell 2);have s0:Below w3.heap.size w3 w3.drew:=brf.drew;refine wrx (S:=Below w3.heap.size w3) [(0,.q),(1,.q),(2,.q),(3,.q),(6,.q),(7,.q),(8,.q),(9,.q),(13,.q),(14,.q),(15,.q),(16,.q),(4,.l),(5,.l),(10,.l),(11,.l),(12,.l),(17,.t),(18,.t),(19,.t)] (s0) ?_
 iterate 12 (refine qab rfl rfl fun K hK=>xq ?_;go_simp;refine hK _ _ ?_;clear hK K)
 refine qal rfl rfl (fun K hK=>?_);go_simp;refine (W1.out _).mono ?_;rintro r w4 ⟨rfl,hb4⟩;dsimp only;refine hK.out _ _ (bth s0 hb4) (fun _=>?_);clear hK K;have t3:=bth s0 hb4;have CA:=CZ1.out u1 v2 e1 f2 w4 (q1.out.ext (xbw t3)) (q4.out.ext (xbw t3));replace CA:=Hd CA;refine qal rfl rfl (fun K hK=>?_);go_simp;refine (CA.out).mono ?_;rintro r w5 ⟨a5,c5,rfl,hV5,hb5⟩;dsimp only;refine hK.out _ _ (bth t3 hb5) (fun _=>?_);clear hK K;have t4:=bth t3 hb5;have HV5:=Hd hV5;clear hV5;refine qal rfl rfl (fun K hK=>?_);go_simp;refine (W2.out _).mono ?_;rintro r w6 ⟨rfl,hb6⟩;dsimp only;refine hK.out _ _ (bth t4 hb6) (fun _=>?_);clear hK K;have t5:=bth t4 hb6;have CB:=CZ2.out u2 v1 e2 f1 w6 (q3.out.ext (xbw t5)) (q2.out.ext (xbw t5));replace CB:=Hd CB;refine qal rfl rfl (fun K hK=>?_);go_simp;refine (CB.out).mono ?_;rintro r w7 ⟨a7,c7,rfl,hV7,hb7⟩;dsimp only
 refine hK.out _ _ (bth t5 hb7) (fun _=>?_);clear hK K;have t6:=bth t5 hb7;have CD:=CS.out a5 a7 c5 c7 w7 (HV5.out w7 (((New.refl _ _).below hb7).below hb6)) (hV7 w7 (New.refl _ _));replace CD:=Hd CD;clear hV7;refine qal rfl rfl (fun K hK=>?_);go_simp;refine (CD.out).mono ?_;rintro r w8 ⟨a9,c9,rfl,hV9,hb8⟩;dsimp only;refine hK.out _ _ (bth t6 hb8) (fun _=>?_);clear hK K;have t6':=bth t6 hb8;have HV9:=Hd hV9;have CE:=CN.out v1 v2 f1 f2 w8 (q2.out.ext (xbw t6')) (q4.out.ext (xbw t6'));replace CE:=Hd CE;clear hV9;refine qam rfl rfl (fun K hK=>?_);go_simp;refine (CE.out).mono ?_;rintro r w9 ⟨a10,c10,rfl,hV10,hb9⟩;dsimp only;refine hK.out _ _ ?_;clear hK K;have t7:=bth t6' hb9;have CG:=CR.out a9 a10 c9 c10 w9 (HV9.out w9 ((New.refl _ _).below hb9)) (hV10 w9 (New.refl _ _));replace CG:=Hd CG;clear hV10;refine qam rfl rfl (fun K hK=>?_);go_simp;refine (CG.out).mono ?_
 rintro r w10 ⟨a8,c8,b8,d8,rfl,hV1,hV2,hb10⟩;dsimp only;refine hK.out _ _ ?_;clear hK K;have t8:=bth t7 hb10;obtain ⟨hw0⟩:Nonempty (Below w.heap.size w w3):=⟨hw3⟩
 replace hz:=hz.below' t8;have hw8:=bth hw0 t8;have hwB:=(bth hw0 t7).size;have hwG:=t7.size;have ltz:=hz.lt;have HV1:=Hd hV1;have HV2:=Hd hV2;clear hV1 hV2 k0 k1 k2 k3 k4 k5;obtain ⟨z0,z1,z2⟩:=cq3 hz;obtain ⟨f0,f1,f2⟩:=fq3 hz;refine qam rfl rfl (fun K hK=>?_);go_simp;refine hK.out _ _ ?_;clear hK K;refine qac ?_;go_wp2;have hF:=blk3 (x:=.bool s) (y:=.slice a8 (limbs N).length c8) (z:=.slice b8 (limbs D).length d8) hz;obtain ⟨e0,e1,e2⟩:=cq3 hF;refine bodyPost_ret (v:=.agg #[.bool s,.slice a8 (limbs N).length c8,.slice b8 (limbs D).length d8]) (by simp [results,Tryz.results171,go_sem,e0,e1,e2]) rfl ?_;exact ⟨a8,c8,b8,d8,rfl,fun V hV=>HV1.out V (back3 hV hwB (by omega)),fun V hV=>HV2.out V (back3 hV hwB (by omega)),qbw hw8 (by omega)⟩
theorem qgv (z:Int) (d:Nat):qao (decide (z<0)) z.natAbs d=trip (mkRat z d):=by
 rw [qbo];unfold qv;rw [qfn]
theorem qyf (s1 s2:Bool) (P1 D1 P2 D2:Nat) (hD1:D1≠0) (hD2:D2≠0):mkRat (zval s1 (P1*D2)+zval s2 (P2*D1)) (D1*D2)=qv s1 P1 D1+qv s2 P2 D2:=by
 rw [qd3,qd3];exact qaj2 s1 s2 P1 D1 P2 D2 hD1 hD2
theorem qaa0 (s1 s2:Bool) (P1 D1 P2 D2:Nat) (a1 b1 a2 b2:Option Addr) (c1 d1 c2 d2:Nat) (w:World) (r1:NatR w a1 c1 (limbs P1)) (r2:NatR w b1 d1 (limbs D1)) (r3:NatR w a2 c2 (limbs P2)) (r4:NatR w b2 d2 (limbs D2))
  (hD1:D1≠0) (hD2:D2≠0) (l1:(limbs P1).length<=400000) (l2:(limbs D1).length<=400000) (l3:(limbs P2).length<=400000) (l4:(limbs D2).length<=400000):Calls Tryz.prog 98 #[.agg #[.bool s1,.slice a1 (limbs P1).length c1,.slice b1 (limbs D1).length d1],.agg #[.bool s2,.slice a2 (limbs P2).length c2,.slice b2 (limbs D2).length d2]] w (RetF (trip (qv s1 P1 D1+qv s2 P2 D2)) w):=by
 rw [<- qyf s1 s2 P1 D1 P2 D2 hD1 hD2,<- qgv];by_cases h:D1=1/\D2=1
 ·
  have:=qv5 s1 s2 P1 D1 P2 D2 a1 b1 a2 b2 c1 d1 c2 d2 w r1 r2 r3 r4 h.1 h.2 l1 l3;obtain ⟨rfl,rfl⟩:=h;simpa using this
 · exact qt3 s1 s2 P1 D1 P2 D2 a1 b1 a2 b2 c1 d1 c2 d2 w r1 r2 r3 r4 hD1 hD2 l1 l2 l3 l4 h
theorem qkz {s S:Bool} {P D N M:Nat} (h:qao s P D=(S,N,M)):qv S N M=qv s P D/\M≠0:=by
 have h1:=qnc s P D;rw [qbo] at h;have h2:=qsp (qv s P D);rw [h] at h2;rw [qbo,h] at h1;exact ⟨h2,by dsimp only at h1;omega⟩
theorem qwn (s1 s2:Bool) (P1 D1 P2 D2:Nat) (a1 b1 a2 b2:Option Addr) (c1 d1 c2 d2:Nat) (w:World) (r1:NatR w a1 c1 (limbs P1)) (r2:NatR w b1 d1 (limbs D1)) (r3:NatR w a2 c2 (limbs P2)) (r4:NatR w b2 d2 (limbs D2))
  (hD1:D1≠0) (hD2:D2≠0) (l1:(limbs P1).length<=400000) (l2:(limbs D1).length<=400000) (l3:(limbs P2).length<=400000) (l4:(limbs D2).length<=400000):Calls Tryz.prog 171 #[.agg #[.bool s1,.slice a1 (limbs P1).length c1,.slice b1 (limbs D1).length d1],.agg #[.bool s2,.slice a2 (limbs P2).length c2,.slice b2 (limbs D2).length d2]] w (RetF (trip (qv s1 P1 D1+qv s2 P2 D2)) w):=by
 obtain ⟨⟨S1,N1,M1⟩,h1⟩:∃ t,qao s1 P1 D1=t:=⟨_,rfl⟩
 obtain ⟨⟨S2,N2,M2⟩,h2⟩:∃ t,qao s2 P2 D2=t:=⟨_,rfl⟩
 obtain ⟨e1,n1⟩:=qkz h1;obtain ⟨e2,n2⟩:=qkz h2;rw [<- e1,<- e2,<- qyf S1 S2 N1 M1 N2 M2 n1 n2,<- qgv];exact qxc s1 s2 P1 D1 P2 D2 a1 b1 a2 b2 c1 d1 c2 d2 w r1 r2 r3 r4 S1 S2 N1 M1 N2 M2 h1 h2 hD1 hD2 l1 l2 l3 l4
def QK (k:Nat) (w:World) (x:QA) (q:Rat):Prop:=QAc w x q/\qsz q<=k
theorem QK.ext {k:Nat} {w w':World} {x:QA} {q:Rat} (h:QK k w x q) (e:Ext w w'):QK k w' x q:=⟨h.1.ext e,h.2⟩
theorem QK.more {k k':Nat} {w:World} {x:QA} {q:Rat} (h:QK k w x q) (e:k<=k'):QK k' w x q:=⟨h.1,Nat.le_trans h.2 e⟩
def RetQK (k:Nat) (q:Rat) (w:World) (e:Ending) (w':World):Prop:=∃ x:QA,e=.returned (.agg #[.bool x.neg,.slice x.a x.n x.c,.slice x.b x.m x.d])/\Kp (fun V=>QK k V x q) w.heap.size w'.heap.size w'/\Below w.heap.size w w'
theorem qd6 {k:Nat} {q:Rat} {w:World} {e:Ending} {w':World} (hk:qsz q<=k) (h:RetF (trip q) w e w'):RetQK k q w e w':=by
 obtain ⟨na,nc,da,dc,rfl,h1,h2,hb⟩:=h;exact ⟨⟨decide (q.num<0),(limbs q.num.natAbs).length,na,nc,(limbs q.den).length,da,dc⟩,rfl,Kp.made fun V hV=>⟨⟨rfl,rfl,rfl,h1 V hV,h2 V hV⟩,hk⟩,hb⟩
theorem cmp_q (x y:QA) (p q:Rat) (k1 k2:Nat) (w:World) (H1:QK k1 w x p) (H2:QK k2 w y q) (h1:k1<=100000) (h2:k2<=100000):Calls Tryz.prog 159 #[.agg #[.bool x.neg,.slice x.a x.n x.c,.slice x.b x.m x.d],.agg #[.bool y.neg,.slice y.a y.n y.c,.slice y.b y.m y.d]] w fun e w'=>e=.returned (.int .i64 (cmpQ p q))/\Below w.heap.size w w':=by
 obtain ⟨s1,n1,a1,c1,m1,b1,d1⟩:=x;obtain ⟨s2,n2,a2,c2,m2,b2,d2⟩:=y;obtain ⟨⟨e1,e2,e3,r1,r2⟩,z1⟩:=H1;obtain ⟨⟨e4,e5,e6,r3,r4⟩,z2⟩:=H2;dsimp only at e1 e2 e3 e4 e5 e6 r1 r2 r3 r4 ⊢;subst e1 e2 e3 e4 e5 e6;have l1:=qbm p;have l2:=qbj p;have l3:=qbm q;have l4:=qbj q;have:=qy7 (decide (p.num<0)) (decide (q.num<0)) p.num.natAbs p.den q.num.natAbs q.den a1 b1 a2 b2 c1 d1 c2 d2 w r1 r2 r3 r4 p.den_nz q.den_nz (by omega) (by omega) (by omega) (by omega)
 rwa [qb2,qb2] at this
theorem qxd (x y:QA) (p q:Rat) (k1 k2:Nat) (w:World) (H1:QK k1 w x p) (H2:QK k2 w y q) (h1:k1<=100000) (h2:k2<=100000):Calls Tryz.prog 78 #[.agg #[.bool x.neg,.slice x.a x.n x.c,.slice x.b x.m x.d],.agg #[.bool y.neg,.slice y.a y.n y.c,.slice y.b y.m y.d]] w fun e w'=>e=.returned (.int .i64 (cmpQ p q))/\Below w.heap.size w w':=by
 obtain ⟨s1,n1,a1,c1,m1,b1,d1⟩:=x;obtain ⟨s2,n2,a2,c2,m2,b2,d2⟩:=y;obtain ⟨⟨e1,e2,e3,r1,r2⟩,z1⟩:=H1;obtain ⟨⟨e4,e5,e6,r3,r4⟩,z2⟩:=H2;dsimp only at e1 e2 e3 e4 e5 e6 r1 r2 r3 r4 ⊢;subst e1 e2 e3 e4 e5 e6;have l1:=qbm p;have l2:=qbj p;have l3:=qbm q;have l4:=qbj q;have:=qwg (decide (p.num<0)) (decide (q.num<0)) (limbs p.num.natAbs) (limbs p.den) (limbs q.num.natAbs) (limbs q.den) p.num.natAbs p.den q.num.natAbs q.den a1 b1 a2 b2 c1 d1 c2 d2 w r1 r2 r3 r4 (qaa _) (qaa _) (qaa _) (qaa _) (by omega) (by omega) (by omega) (by omega)
 rwa [qmx,qb2,qb2] at this
theorem add_q (x y:QA) (p q:Rat) (k1 k2:Nat) (w:World) (H1:QK k1 w x p) (H2:QK k2 w y q) (h1:k1<=100000) (h2:k2<=100000):Calls Tryz.prog 98 #[.agg #[.bool x.neg,.slice x.a x.n x.c,.slice x.b x.m x.d],.agg #[.bool y.neg,.slice y.a y.n y.c,.slice y.b y.m y.d]] w (RetQK (k1+k2+1) (p+q) w):=by
 have hs:=qm5 p q;have g1:=H1.2;have g2:=H2.2;obtain ⟨s1,n1,a1,c1,m1,b1,d1⟩:=x;obtain ⟨s2,n2,a2,c2,m2,b2,d2⟩:=y;obtain ⟨⟨e1,e2,e3,r1,r2⟩,z1⟩:=H1;obtain ⟨⟨e4,e5,e6,r3,r4⟩,z2⟩:=H2;dsimp only at e1 e2 e3 e4 e5 e6 r1 r2 r3 r4 ⊢;subst e1 e2 e3 e4 e5 e6;have l1:=qbm p;have l2:=qbj p;have l3:=qbm q;have l4:=qbj q;have:=qaa0 (decide (p.num<0)) (decide (q.num<0)) p.num.natAbs p.den q.num.natAbs q.den a1 b1 a2 b2 c1 d1 c2 d2 w r1 r2 r3 r4 p.den_nz q.den_nz (by omega) (by omega) (by omega) (by omega);rw [qb2,qb2] at this;exact this.mono fun _ _ h=>qd6 (by omega) h
theorem qaj3 (x y:QA) (p q:Rat) (k1 k2:Nat) (w:World) (H1:QK k1 w x p) (H2:QK k2 w y q) (h1:k1<=100000) (h2:k2<=100000):Calls Tryz.prog 171 #[.agg #[.bool x.neg,.slice x.a x.n x.c,.slice x.b x.m x.d],.agg #[.bool y.neg,.slice y.a y.n y.c,.slice y.b y.m y.d]] w (RetQK (k1+k2+1) (p+q) w):=by
 have hs:=qm5 p q;have g1:=H1.2;have g2:=H2.2;obtain ⟨s1,n1,a1,c1,m1,b1,d1⟩:=x;obtain ⟨s2,n2,a2,c2,m2,b2,d2⟩:=y;obtain ⟨⟨e1,e2,e3,r1,r2⟩,z1⟩:=H1;obtain ⟨⟨e4,e5,e6,r3,r4⟩,z2⟩:=H2;dsimp only at e1 e2 e3 e4 e5 e6 r1 r2 r3 r4 ⊢;subst e1 e2 e3 e4 e5 e6;have l1:=qbm p;have l2:=qbj p;have l3:=qbm q;have l4:=qbj q;have:=qwn (decide (p.num<0)) (decide (q.num<0)) p.num.natAbs p.den q.num.natAbs q.den a1 b1 a2 b2 c1 d1 c2 d2 w r1 r2 r3 r4 p.den_nz q.den_nz (by omega) (by omega) (by omega) (by omega);rw [qb2,qb2] at this;exact this.mono fun _ _ h=>qd6 (by omega) h
structure Rt where
 neg:Bool
 num:List Int
 den:List Int
def Rt.val (r:Rt) (na:Option Addr) (nc:Nat) (da:Option Addr) (dc:Nat):Value:=.agg #[.bool r.neg,.slice na r.num.length nc,.slice da r.den.length dc]
structure Step where
 kind:Int
 point:ByteArray
 args:List Int
 ratio:Rt
structure Fct where
 kind:Int
 args:List Int
 ratio:Rt
structure Fig where
 steps:List Step
 goals:List Fct
structure RA where
 aa:Option Addr
 ac:Nat
 na:Option Addr
 nc:Nat
 da:Option Addr
 dc:Nat
def qeq (w:World) (p:RA) (args:List Int) (r:Rt):Prop:=IntsR w p.aa p.ac args/\NatR w p.na p.nc r.num/\NatR w p.da p.dc r.den
theorem qeq.ext {w w':World} {p:RA} {args:List Int} {r:Rt} (h:qeq w p args r) (e:Ext w w'):qeq w' p args r:=⟨h.1.ext e,h.2.1.ext e,h.2.2.ext e⟩
def qcn (neg:Bool) (num:List Int):Bool:=qcb num && !(neg&&decide (num.length=0))
def Rt.right (r:Rt):Bool:=qcn r.neg r.num&&qcb r.den&&decide (Nat.gcd (Go.Proofs.YtnilkimcdgmgkaaGreatDoor.val r.num) (Go.Proofs.YtnilkimcdgmgkaaGreatDoor.val r.den)=1)&&decide (0<r.den.length)
theorem qsa (neg:Bool) (num:List Int) (a:Option Addr) (c:Nat) (w:World) (h:NatR w a c num) :
  Calls Tryz.prog 71 #[.agg #[.bool neg,.slice a num.length c]] w fun r w'=>r=.returned (.bool (qcn neg num))/\Below w.heap.size w w':=by
 have CV:=fun W (hW:Below w.heap.size w W)=>qks num a c W (h.ext (xbw hW))
 obtain ⟨b1,hb1⟩:∃ b,qcb num=b:=⟨_,rfl⟩
 rw [hb1] at CV;replace CV:=Hd CV;unfold qcn;rw [hb1];clear hb1 h;by_cases h0:num.length=0
 ·
  have e0:((num.length:Int)==0)=true:=by simp [h0]
  have H0:=Hd h0;clear h0
  cases b1 <;> cases neg
  all_goals
   go_enter Tryz.func71,Tryz.ntmps71;go_wp2_with (go_at_call 72;refine (CV.out _ (brf.alloc (nlr _) _)).mono ?_;rintro e w' ⟨rfl,rfl⟩);go_ret;refine ⟨qbg ?_,brf.alloc (nlr _) _⟩;simp [H0.out]
 ·
  have e0:((num.length:Int)==0)=false:=by simp;exact fun e=>h0 (by simp [e])
  have H0:=Hd h0;clear h0
  cases b1 <;> cases neg
  all_goals
   go_enter Tryz.func71,Tryz.ntmps71;go_wp2_with (go_at_call 72;refine (CV.out _ (brf.alloc (nlr _) _)).mono ?_;rintro e w' ⟨rfl,rfl⟩);go_ret;refine ⟨qbg ?_,brf.alloc (nlr _) _⟩;simp [H0.out]
theorem qrq (r:Rt) (na:Option Addr) (nc:Nat) (da:Option Addr) (dc:Nat) (w:World) (h:NatR w na nc r.num) (h':NatR w da dc r.den) (hl:r.num.length<=2000000) (hm:r.den.length<=2000000) :
  Calls Tryz.prog 35 #[r.val na nc da dc] w fun e w'=>e=.returned (.bool r.right)/\Below w.heap.size w w':=by
 obtain ⟨neg,num,den⟩:=r;have CR:=fun W (hW:Below w.heap.size w W)=>qsa neg num na nc W (h.ext (xbw hW))
 have CV:=fun W (hW:Below w.heap.size w W)=>qks den da dc W (h'.ext (xbw hW))
 have CG:=fun W (hW:Below w.heap.size w W)=>qon num den (val num) (val den) na da nc dc W (h.ext (xbw hW)) (h'.ext (xbw hW)) rfl rfl hl hm
 have CS:=fun (xs ys:List Int) (a a':Option Addr) (c c':Nat) W=>ql8 xs ys a a' c c' W
 have CO:=fun W=>qbs 1 W (by omega)
 obtain ⟨b1,hb1⟩:∃ b,qcn neg num=b:=⟨_,rfl⟩
 obtain ⟨b2,hb2⟩:∃ b,qcb den=b:=⟨_,rfl⟩
 obtain ⟨b3,hb3⟩:∃ b,decide (Nat.gcd (val num) (val den)=1)=b:=⟨_,rfl⟩
 obtain ⟨b4,hb4⟩:∃ b,decide (0<den.length)=b:=⟨_,rfl⟩
 have hb4':decide ((0:Int)<(den.length:Int))=b4:=by rw [<- hb4];simp
 have hs:decide (limbs (Nat.gcd (val num) (val den))=limbs 1)=b3:=by rw [<- hb3];simp [qoe]
 rw [hb1] at CR;rw [hb2] at CV;have hres:Rt.right ⟨neg,num,den⟩=(b1&&b2&&b3&&b4):=by simp only [Rt.right,hb1,hb2,hb3,hb4]
 rw [hres];unfold Rt.val;dsimp only;dsimp only at hl hm;generalize Nat.gcd (val num) (val den)=g at CG hs;replace CR:=Hd CR;replace CV:=Hd CV;replace CG:=Hd CG;replace CS:=Hd CS;replace CO:=Hd CO;have HS:=Hd hs;have H4:=Hd hb4;clear hb1 hb2 hb3 hs hres h h' hb4
 cases b1
 ·
  clear hb4' H4 HS;go_enter Tryz.func35,Tryz.ntmps35;go_wp2_with fail;refine (CR.out _ (brf.alloc (nlr _) _)).mono ?_;rintro e w1 ⟨rfl,hb⟩;have hw:=((Below.refl _ w).alloc (nlr _) _).trans (hb.mono (by simp));go_wp2;go_ret;exact ⟨rfl,hw⟩
 ·
  cases b2
  ·
   clear hb4' H4 HS;go_enter Tryz.func35,Tryz.ntmps35;have hz:Blk (w.alloc (.cells #[.bool neg,.slice na num.length nc,.slice da den.length dc] 76)) w.heap.size 76 #[.bool neg,.slice na num.length nc,.slice da den.length dc]:=Blk.new w _ _;have hw0:Below w.heap.size w (w.alloc (.cells #[.bool neg,.slice na num.length nc,.slice da den.length dc] 76)):=brf.alloc (nlr _) _;go_wp2_with fail;revert hz hw0;generalize w.alloc (.cells #[.bool neg,.slice na num.length nc,.slice da den.length dc] 76)=w0;intro hz hw0;refine (CR.out _ hw0).mono ?_;rintro e w1 ⟨rfl,hb⟩;have hw1:=hw0.trans (hb.mono hw0.size);replace hz:=hz.below' hb;obtain ⟨z0,z1,z2⟩:=cq3 hz;clear hb hz hw0;go_wp2_with fail;refine (CV.out _ hw1).mono ?_;rintro e w2 ⟨rfl,rfl⟩;go_wp2;go_ret;exact ⟨rfl,hw1⟩
  ·
   have hz:Blk (w.alloc (.cells #[.bool neg,.slice na num.length nc,.slice da den.length dc] 76)) w.heap.size 76 #[.bool neg,.slice na num.length nc,.slice da den.length dc]:=Blk.new w _ _;have hw0:Below w.heap.size w (w.alloc (.cells #[.bool neg,.slice na num.length nc,.slice da den.length dc] 76)):=brf.alloc (nlr _) _
   cases b3 <;> cases b4
   all_goals
    go_enter Tryz.func35,Tryz.ntmps35;go_wp2_with fail;revert hz hw0;generalize w.alloc (.cells #[.bool neg,.slice na num.length nc,.slice da den.length dc] 76)=w0;intro hz hw0;refine (CR.out _ hw0).mono ?_;rintro e w1 ⟨rfl,hb⟩;have hw1:=hw0.trans (hb.mono hw0.size);replace hz:=hz.below' hb;obtain ⟨z0,z1,z2⟩:=cq3 hz;clear hb hw0;go_wp2_with fail;refine (CV.out _ hw1).mono ?_;rintro e w2 ⟨rfl,rfl⟩;go_wp2_with fail;refine (CG.out _ hw1).mono ?_;rintro e w2 ⟨a2,c2,rfl,hV2,hb2⟩;have hw2:=hw1.trans (hb2.mono hw1.size);replace hz:=hz.below' hb2;replace z0:=hz.cell 0;replace z1:=hz.cell 1;replace z2:=hz.cell 2;have HV2:=Hd hV2;clear hV2;go_wp2_with fail;refine (CO.out _).mono ?_;rintro e w3 ⟨a3,c3,rfl,hV3,hb3⟩;have hw3:=hw2.trans (hb3.mono hw2.size);replace hz:=hz.below' hb3;replace z0:=hz.cell 0;replace z1:=hz.cell 1;replace z2:=hz.cell 2
    have CS2:=CS.out (limbs g) (limbs 1) a2 a3 c2 c3 w3 (HV2.out w3 ((New.refl _ _).below hb3)) (hV3 w3 (New.refl _ _));rw [HS.out] at CS2;replace CS2:=Hd CS2;clear hV3;go_wp2_with fail;refine CS2.out.mono ?_;rintro e w4 ⟨rfl,hb4⟩;have hw4:=hw3.trans (hb4.mono hw3.size);replace hz:=hz.below' hb4;replace z0:=hz.cell 0;replace z1:=hz.cell 1;replace z2:=hz.cell 2;clear hb4 hb3 hb2 CS2;go_wp2;go_ret;exact ⟨qbg (by first | rfl | (rw [H4.out];rfl)),hw4⟩
structure Trm where
 coef:Rt
 mono:List Int
def Trm.val (t:Trm) (p:RA):Value:=.agg #[.bool t.coef.neg,.slice p.na t.coef.num.length p.nc,.slice p.da t.coef.den.length p.dc,.slice p.aa t.mono.length p.ac]
def TrmC (w:World) (b o:Nat) (p:RA) (t:Trm):Prop :=
 w.cell? ⟨b,o,none⟩=some (.bool t.coef.neg)/\w.cell? ⟨b,o+1,none⟩=some (.slice p.na t.coef.num.length p.nc) /\
 w.cell? ⟨b,o+2,none⟩=some (.slice p.da t.coef.den.length p.dc)/\w.cell? ⟨b,o+3,none⟩=some (.slice p.aa t.mono.length p.ac)
theorem TrmC.ext {w w':World} {b o:Nat} {p:RA} {t:Trm} (h:TrmC w b o p t) (e:Ext w w'):TrmC w' b o p t :=
 ⟨e _ _ h.1,e _ _ h.2.1,e _ _ h.2.2.1,e _ _ h.2.2.2⟩
def TrmE (w:World) (b o:Nat) (t:Trm):Prop:=∃ p,TrmC w b o p t/\qeq w p t.mono t.coef
def PolyR (w:World) (a:Option Addr) (c:Nat) (l:List Trm):Prop:=SlR 4 TrmE w a c l
theorem PolyR.ext {w w':World} {a:Option Addr} {c:Nat} {l:List Trm} (h:PolyR w a c l) (e:Ext w w'):PolyR w' a c l :=
 SlR.mono h fun _ _ _ _ ⟨p,h1,h2⟩=>⟨p,h1.ext e,h2.ext e⟩
def PolyE (w:World) (b o:Nat) (p:List Trm):Prop:=∃ a c,w.cell? ⟨b,o,none⟩=some (.slice a p.length c)/\PolyR w a c p
def qdh (w:World) (a:Option Addr) (c:Nat) (l:List (List Trm)):Prop:=SlR 1 PolyE w a c l
theorem qdh.ext {w w':World} {a:Option Addr} {c:Nat} {l:List (List Trm)} (h:qdh w a c l) (e:Ext w w'):qdh w' a c l :=
 SlR.mono h fun _ _ _ _ ⟨p,q,h1,h2⟩=>⟨p,q,e _ _ h1,h2.ext e⟩
structure Crt where
 factors:List (List Trm)
 powers:List Int
 power:Int
 cofactors:List (List Trm)
structure CA where
 fa:Option Addr
 fc:Nat
 wa:Option Addr
 wc:Nat
 ca:Option Addr
 cc:Nat
def monoB (l:List Int):Bool:=decide (l.length<=64) && !(decide (l[l.length-1]? = some 0))&&l.all fun x=>decide (0<=x/\x<=1048576)
theorem qmi {l:List Int} (h:64<l.length):monoB l=false:=by unfold monoB;rw [decide_eq_false (by omega)];rfl
theorem qf6 {l:List Int} (h:l[l.length-1]? = some 0):monoB l=false:=by unfold monoB;rw [decide_eq_true h];simp
theorem qw9 {l:List Int} {k:Nat} {x:Int} (h:l[k]? = some x) (hx:¬ (0<=x/\x<=1048576)):monoB l=false:=by
 unfold monoB;rw [show (l.all fun x=>decide (0<=x/\x<=1048576))=false from ?_]
 · simp
 · rw [List.all_eq_false];exact ⟨x,List.mem_of_getElem? h,by simpa using hx⟩
theorem qf5 {l:List Int} (h1:l.length<=64) (h2:l[l.length-1]? ≠ some 0) (h3:(l.all fun x=>decide (0<=x/\x<=1048576))=true):monoB l=true:=by
 unfold monoB;rw [decide_eq_true h1,decide_eq_false h2,h3];rfl
theorem qbv {l:List Int} (h:monoB l=true):l.length<=64/\∀ x∈l,0<=x/\x<=1048576:=by
 unfold monoB at h;simp only [Bool.and_eq_true,decide_eq_true_eq,List.all_eq_true] at h;exact ⟨h.1.1,h.2⟩
def expAt (l:List Int) (v:Nat):Int:=l.getD v 0
theorem qlj {l:List Int} (h:∀ x∈l,0<=x/\x<=1048576) (v:Nat):0<=expAt l v/\expAt l v<=1048576:=by
 unfold expAt;rw [List.getD_eq_getElem?_getD]
 cases hx:l[v]? with
 | none=>simp
 | some x=>exact h x (List.mem_of_getElem? hx)
def qcl (a b:List Int):Nat->Int
 | 0=>0
 | v+1=>if expAt a v=expAt b v then qcl a b v else if expAt a v<expAt b v then -1 else 1
def lexI (a b:List Int):Int:=qcl a b (max a.length b.length)
def okT (t:Trm):Bool:=t.coef.right && !(decide (val t.coef.num=0))&&monoB t.mono
def badAt (l:List Trm) (i:Nat):Bool :=
 match l[i]? with
 | none=>false
 | some t=>!(okT t)||(match i with
  | 0=>false
  | j+1=>match l[j]? with
   | none=>false
   | some s=>decide (lexI s.mono t.mono<=0))
def polyB (l:List Trm):Bool:=(List.range l.length).all fun i=>!(badAt l i)
theorem qc8 {l:List Trm} {i:Nat} (hi:i<l.length) (h:badAt l i=true):polyB l=false:=by
 unfold polyB;rw [List.all_eq_false];exact ⟨i,List.mem_range.2 hi,by simp [h]⟩
theorem qij {l:List Trm} (h:∀ i,i<l.length->badAt l i=false):polyB l=true:=by
 unfold polyB;rw [List.all_eq_true];intro i hi;simp [h i (List.mem_range.1 hi)]
theorem qde {l:List Trm} {i:Nat} {t:Trm} (h:l[i]? = some t) (ho:okT t=false):badAt l i=true:=by
 unfold badAt;rw [h];simp [ho]
theorem qib {l:List Trm} {t:Trm} (h:l[0]? = some t) (ho:okT t=true):badAt l 0=false:=by
 unfold badAt;rw [h];simp [ho]
theorem qiq {l:List Trm} {j:Nat} {s t:Trm} (h:l[j+1]? = some t) (hs:l[j]? = some s) (ho:okT t=true):badAt l (j+1)=decide (lexI s.mono t.mono<=0):=by
 unfold badAt;rw [h];dsimp only;rw [hs];simp [ho]
theorem qla {l:List Trm} {i:Nat} {t:Trm} (h:l[i]? = some t) (hb:badAt l i=false):okT t=true:=by
 cases ho:okT t
 · rw [qde h ho] at hb;cases hb
 · rfl
theorem qbx {w:World} {a:Option Addr} {c:Nat} {l:List Int} (h:IntsR w a c l) {k:Nat} {x:Int} (hx:l[k]? = some x):∃ b off,a=some ⟨b,off,none⟩/\w.cell? ⟨b,off+k,none⟩=some (.int .i64 x)/\InInt x:=by
 obtain ⟨b,off,ha,hc⟩:=h.2.2 k x hx;exact ⟨b,off,ha,by simpa using hc.1,qln hc.2⟩
theorem zz24 {P:Prop} (h:P:=by
 obtain ⟨k,hk,rfl,hall⟩:=hrel;by_cases hlt:k<l.length
 ·
  obtain ⟨x,hx⟩:=HL.out k hlt;obtain ⟨b2,off2,hbo,hcx,hix⟩:=qbx HI.out hx;injection hbo with hbo
  injection hbo with hbo1 hbo2
  subst hbo1 hbo2;obtain ⟨hx1,hx2⟩:=hix;have HX:=Hd hx;clear hx;by_cases hin:0<=x/\x<=1048576
  ·
   obtain ⟨hin1,hin2⟩:=hin;go_wp2
   go_round
   case rel=>exact ⟨k+1,by omega,by go_num,by show _=_;rw [qbc HX.out,List.all_append,hall.out];simp [hin1,hin2]⟩
   case measure=>simp [intOf];omega
  ·
   have hr:res=false:=by rw [<- HRES.out,qw9 HX.out hin]
   subst hr;by_cases hneg:x<0
   ·
    clear hin;go_wp2;go_ret;exact ⟨rfl,rfl⟩
   ·
    have hbig:1048576<x:=by omega
    clear hin;go_wp2;go_ret;exact ⟨rfl,rfl⟩
 ·
  have hr:res=true:=by
   rw [<- HRES.out];refine qf5 (by omega) (by rw [HY.out];intro h;injection h with h;exact HY0.out h) ?_;have:=hall.out
   rwa [qfc hlt] at this
  subst hr;go_wp2;go_ret;exact ⟨rfl,rfl⟩
 ):P:=h
theorem qjq (l:List Int) (a:Option Addr) (c:Nat) (w:World) (h:IntsR w a c l) :
  Calls Tryz.prog 96 #[.slice a l.length c] w fun e w'=>e=.returned (.bool (monoB l))/\w=w':=by
 have hlen:=h.len;by_cases h64:64<l.length
 ·
  rw [qmi h64];go_enter Tryz.func96,Tryz.ntmps96;go_wp2;go_ret;exact ⟨rfl,rfl⟩
 ·
  have HI:=Hd h;clear h;have hloop:∀ k,k<l.length->∃ x,l[k]? = some x:=fun k hk=>qad hk
  by_cases h0:0<l.length
  ·
   obtain ⟨y,hy⟩:=hloop (l.length-1) (by omega);obtain ⟨b,off,rfl,hcy,hiy⟩:=qbx HI.out hy;have HY:=Hd hy;have HL:=Hd hloop;clear hloop hy;by_cases hy0:y=0
   ·
    rw [qf6 (by rw [HY.out,hy0])];subst hy0;clear hiy;go_enter Tryz.func96,Tryz.ntmps96;go_wp2;go_ret;exact ⟨rfl,rfl⟩
   ·
    have hye:(y==0)=false:=by simpa using hy0
    have HY0:=Hd hy0;obtain ⟨hy1,hy2⟩:=hiy;clear hy0;obtain ⟨res,hres⟩:∃ x,monoB l=x:=⟨_,rfl⟩
    rw [hres];have HRES:=Hd hres;clear hres;go_enter Tryz.func96,Tryz.ntmps96;go_wp2;clear hcy hye hy1 hy2
    go_loop [4,24] (fun _ q=>∃ k:Nat,k<=l.length/\q=.int .i64 k/\Hid (((l.take k).all fun x=>decide (0<=x/\x<=1048576))=true)) (fun _ q=>l.length-(intOf q).toNat)
    case atStart=>exact ⟨0,by omega,rfl,rfl⟩
    case round =>
     exact zz24
  ·
   have hnil:l=[]:=List.eq_nil_of_length_eq_zero (by omega);subst hnil;rw [show monoB []=true from rfl];clear HI hloop;go_enter Tryz.func96,Tryz.ntmps96;go_wp2
   go_loop [4,24] (fun _ q=>q=.int .i64 0) (fun _ q=>0)
   case atStart=>rfl
   case round =>
    obtain rfl:=hrel;go_wp2;go_ret;exact ⟨rfl,rfl⟩
theorem qot (l:List Int) (a:Option Addr) (c:Nat) (w:World) (h:IntsR w a c l) :
  Calls Tryz.prog 37 #[.slice a l.length c] w fun e w'=>e=.returned (.bool (monoB l))/\w=w':=by
 have hlen:=h.len;by_cases h64:64<l.length
 ·
  rw [qmi h64];go_enter Tryz.func37,Tryz.ntmps37;go_wp2;go_ret;exact ⟨rfl,rfl⟩
 ·
  have HI:=Hd h;clear h;have hloop:∀ k,k<l.length->∃ x,l[k]? = some x:=fun k hk=>qad hk
  by_cases h0:0<l.length
  ·
   obtain ⟨y,hy⟩:=hloop (l.length-1) (by omega);obtain ⟨b,off,rfl,hcy,hiy⟩:=qbx HI.out hy;have HY:=Hd hy;have HL:=Hd hloop;clear hloop hy;by_cases hy0:y=0
   ·
    rw [qf6 (by rw [HY.out,hy0])];subst hy0;clear hiy;go_enter Tryz.func37,Tryz.ntmps37;go_wp2;go_ret;exact ⟨rfl,rfl⟩
   ·
    have hye:(y==0)=false:=by simpa using hy0
    have HY0:=Hd hy0;obtain ⟨hy1,hy2⟩:=hiy;clear hy0;obtain ⟨res,hres⟩:∃ x,monoB l=x:=⟨_,rfl⟩
    rw [hres];have HRES:=Hd hres;clear hres;go_enter Tryz.func37,Tryz.ntmps37;go_wp2;clear hcy hye hy1 hy2
    go_loop [3] (fun q=>∃ k:Nat,k<=l.length/\q=.int .i64 k/\Hid (((l.take k).all fun x=>decide (0<=x/\x<=1048576))=true)) (fun q=>l.length-(intOf q).toNat)
    case atStart=>exact ⟨0,by omega,rfl,rfl⟩
    case round =>
     exact zz24
  ·
   have hnil:l=[]:=List.eq_nil_of_length_eq_zero (by omega);subst hnil;rw [show monoB []=true from rfl];clear HI hloop;go_enter Tryz.func37,Tryz.ntmps37;go_wp2
   go_loop [3] (fun q=>q=.int .i64 0) (fun q=>0)
   case atStart=>rfl
   case round =>
    obtain rfl:=hrel;go_wp2;go_ret;exact ⟨rfl,rfl⟩
end Go.Proofs.YtnilkimcdgmgkaaGreatDoor
