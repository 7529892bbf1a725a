/- Walks: the program's rational numbers: Right; integer.Right. -/
import Derived.Test.YtfaalkneigpcnaaGreatDoorIt8
import Derived.Test.YtfaalkneigpcnaaGreatDoorIt7
import Derived.Test.YtfaalkneigpcnaaGreatDoorIt6
import Derived.Test.YtfaalkneigpcnaaGreatDoorIt1
import Derived.Laws.BitsAllLaws
import Derived.Lib.RabinKarpLaws
import Derived.Test.YtfaalkneigpcnaaGreatDoorProg
import Derived.Ground.NamesProg
import Derived.Shelf.Lay
import Derived.Shelf.Small.Bits
import Derived.Deep.LoopGhost
import Derived.Laws.EntriesVeiled
import Derived.Test.YtfaalkneigpcnaaGreatDoorIt5
import Derived.Test.YtfaalkneigpcnaaGreatDoorIt3
import Derived.Test.YtfaalkneigpcnaaGreatDoorIt4
set_option linter.all false
set_option maxRecDepth 100000
set_option maxHeartbeats 4000000
namespace Go.Proofs.YtfaalkneigpcnaaGreatDoor
open Go.RowKit
theorem qv_ne (s:Bool) (n d:Nat) (hn:n≠0) (hd:d≠0):qv s n d≠0:=by
 unfold qv;rw [Rat.mkRat_ne_zero hd];unfold zval;cases s <;> simp <;> omega
theorem quy (s:Bool) (n d c:Nat) (hc:c≠0):qv s (n*c) (d*c)=qv s n d:=by
 unfold qv;rw [qdq];exact Rat.mkRat_mul_right hc
theorem qww (s1 s2:Bool) (P1 D1 P2 D2:Nat) (hP:P2≠0) (hD2:D2≠0):qv (s1 != s2) (P1*D2) (P2*D1)=qv s1 P1 D1 / qv s2 P2 D2:=by
 have hne:=qv_ne s2 P2 D2 hP hD2;have h:qv (s1 != s2) (P1*D2) (P2*D1)*qv s2 P2 D2=qv s1 P1 D1:=by
  rw [<- qsr];have e:((s1 != s2) != s2)=s1:=by cases s1 <;> cases s2 <;> rfl
  rw [e,show P1*D2*P2=P1*(D2*P2) from Nat.mul_assoc _ _ _,show P2*D1*D2=D1*(D2*P2) by rw [Nat.mul_comm P2 D1,Nat.mul_assoc,Nat.mul_comm P2 D2]];exact quy _ _ _ _ (Nat.mul_ne_zero hD2 hP)
 rw [<- h,Rat.div_def,Rat.mul_assoc,Rat.mul_inv_cancel _ hne,Rat.mul_one]
theorem qvy (s t:Bool) (n d:Nat):qv ((s&&decide (0<n)) != t) n d=qv (s != t) n d:=by
 rcases Nat.eq_zero_or_pos n with h | h
 · subst h;unfold qv zval;cases s <;> cases t <;> simp
 · simp [h]
theorem qvu (q:Rat):qsz q⁻¹<=qsz q:=by
 by_cases h0:q=0
 · subst h0;simp
 ·
  have hn:q.num≠0:=fun e=>h0 (Rat.num_eq_zero.mp e)
  unfold qsz;rw [Rat.num_inv,Rat.den_inv,if_neg hn,Int.natAbs_mul,Int.natAbs_sign_of_ne_zero hn,Nat.one_mul,Int.natAbs_natCast]
  omega
theorem qv2 (p q:Rat):qsz (p / q)<=qsz p+qsz q:=by
 have h1:=qvu q;have h2:=qof p q⁻¹;rw [Rat.div_def]
 omega
theorem qtc (s1 s2:Bool) (P1 D1 P2 D2:Nat) (a1 b1 a2 b2:Option Addr) (c1 d1 c2 d2:Nat) (w:World) (r1:NatR w a1 c1 (limbs P1)) (r2:NatR w b1 d1 (limbs D1)) (r3:NatR w a2 c2 (limbs P2)) (r4:NatR w b2 d2 (limbs D2))
  (hD1:D1≠0) (hD2:D2≠0) (l1:(limbs P1).length<=400000) (l2:(limbs D1).length<=400000) (l3:(limbs P2).length<=400000) (l4:(limbs D2).length<=400000) (hP:P2≠0):Calls Tryz.prog 181 #[.agg #[.bool s1,.slice a1 (limbs P1).length c1,.slice b1 (limbs D1).length d1],.agg #[.bool s2,.slice a2 (limbs P2).length c2,.slice b2 (limbs D2).length d2]] w (RetM (trip (qv s1 P1 D1 / qv s2 P2 D2)) w):=by
 have m1:=qaz P1 D2;have m2:=qaz P2 D1;have hN0:P2*D1≠0:=Nat.mul_ne_zero hP hD1;have CP1:=fun W (hW:Below w.heap.size w W)=>qbs s1 (limbs P1) (limbs D1) a1 b1 c1 d1 W (r2.ext (xbw hW)) (by rw [qaa];exact hD1) (by omega)
 have CP2:=fun W (hW:Below w.heap.size w W)=>qbs s2 (limbs P2) (limbs D2) a2 b2 c2 d2 W (r4.ext (xbw hW)) (by rw [qaa];exact hD2) (by omega)
 have CZ1:=fun W (hW:Below w.heap.size w W)=>qdh s1 false (limbs P1) (limbs D2) P1 D2 a1 b2 c1 d2 W (r1.ext (xbw hW)) (r4.ext (xbw hW)) (qaa _) (qaa _) (by omega) (by omega)
 have CZ2:=fun W (hW:Below w.heap.size w W)=>qdh s2 false (limbs P2) (limbs D1) P2 D1 a2 b1 c2 d1 W (r3.ext (xbw hW)) (r2.ext (xbw hW)) (qaa _) (qaa _) (by omega) (by omega)
 have x1:(s1 != false)=s1:=by cases s1 <;> rfl
 have x2:(s2 != false)=s2:=by cases s2 <;> rfl
 simp only [x1] at CZ1;simp only [x2] at CZ2;have CC:=fun a b c d W h h'=>qsl (s1&&decide (0<P1*D2)) (s2&&decide (0<P2*D1)) (limbs (P1*D2)) (limbs (P2*D1)) (P1*D2) (P2*D1) a b c d W h h' (qaa _) (qaa _) (by omega) (by omega) hN0
 have el:qat ((s1&&decide (0<P1*D2)) != (s2&&decide (0<P2*D1))) (P1*D2) (P2*D1)=trip (qv s1 P1 D1 / qv s2 P2 D2):=by
  rw [qd8,decide_eq_true (Nat.pos_of_ne_zero hN0),Bool.and_true,qvy,qww _ _ _ _ _ _ hP hD2]
 simp only [el] at CC;obtain ⟨t,ht⟩:∃ t,trip (qv s1 P1 D1 / qv s2 P2 D2)=t:=⟨_,rfl⟩
 rw [ht];simp only [ht] at CC;obtain ⟨s,NN,DD⟩:=t;obtain ⟨p1,hp1⟩:∃ q,(s1&&decide (0<P1*D2))=q:=⟨_,rfl⟩
 obtain ⟨p2,hp2⟩:∃ q,(s2&&decide (0<P2*D1))=q:=⟨_,rfl⟩
 simp only [hp1] at CZ1 CC;simp only [hp2] at CZ2 CC;clear hp1 hp2 x1 x2 m1 m2 hD1 hD2 el ht hN0 hP;revert CZ1 CZ2 CC;generalize P1*D2=PP;generalize P2*D1=QQ;intro CZ1 CZ2 CC;unfold RetM at CC ⊢;dsimp only at CC ⊢;replace CP1:=Hd CP1;replace CP2:=Hd CP2;replace CZ1:=Hd CZ1;replace CZ2:=Hd CZ2;replace CC:=Hd CC;have W1:=fun W=>qc8 (limbs D2).length b2 d2 W
 have W2:=fun W=>qc8 (limbs D1).length b1 d1 W
 replace W1:=Hd W1;replace W2:=Hd W2;clear r1 r2 r3 r4;go_enter Tryz.func181,Tryz.ntmps181;go_wp2_with fail
 refine qad (fun W=>Blk W w.heap.size 51 #[.bool s1,.slice a1 (limbs P1).length c1,.slice b1 (limbs D1).length d1]/\Blk W (w.heap.size+1) 51 #[.bool s2,.slice a2 (limbs P2).length c2,.slice b2 (limbs D2).length d2]/\Blk W (w.heap.size+1+1) 51 #[.bool false,.slice none 0 0,.slice none 0 0]/\Below w.heap.size w W/\w.heap.size<w.heap.size+1/\w.heap.size+1<w.heap.size+1+1/\w.heap.size+1+1<W.heap.size) ⟨by ((with_reducible repeat first|assumption|(apply bF;focus omega)|apply bS|(apply bN;focus (simp;done))|apply bA|apply bD);all_goals rfl),by ((with_reducible repeat first|assumption|(apply bF;focus omega)|apply bS|(apply bN;focus (simp;done))|apply bA|apply bD);all_goals rfl),by ((with_reducible repeat first|assumption|(apply bF;focus omega)|apply bS|(apply bN;focus (simp;done))|apply bA|apply bD);all_goals rfl),by go_grown,by omega,by omega,by simp⟩ ?_;rintro w0 ⟨hx,hy,hz,hw0,hg1,hg2,hg3⟩
 revert hx hy hz hg1 hg2 hg3;generalize w.heap.size+1+1=g3;generalize w.heap.size+1=g2;intro hx hy hz hg1 hg2 hg3;refine (CP1.out _ hw0).mono ?_;rintro e w1 ⟨rfl,hb1⟩;replace hy:=hy.below' hb1;replace hz:=hz.below' hb1;have hw1:=bth hw0 hb1;have hs1:=hb1.size;clear hx;obtain ⟨z0,z1,z2⟩:=cq3 hy;have lt2:=hy.lt;have lt3:=hz.lt;go_wp2_with fail;refine qad (fun W=>Blk W w1.heap.size 49 #[.bool s1,.slice a1 (limbs P1).length c1]/\Blk W g3 51 #[.bool false,.slice none 0 0,.slice none 0 0]/\Below w.heap.size w W/\w1.heap.size<W.heap.size) ⟨by ((with_reducible repeat first|assumption|(apply bF;focus omega)|apply bS|(apply bN;focus (simp;done))|apply bA|apply bD);all_goals rfl),by ((with_reducible repeat first|assumption|(apply bF;focus omega)|apply bS|(apply bN;focus (simp;done))|apply bA|apply bD);all_goals rfl),by go_grown,by simp⟩ ?_;clear z0 z1 z2 lt2 lt3 hy hz;rintro w2 ⟨hu,hz,hw2,hs2⟩
 refine (CP2.out _ hw2).mono ?_;rintro e w3 ⟨rfl,hb3⟩;replace hu:=hu.below' hb3;replace hz:=hz.below' hb3;have hw3:=bth hw2 hb3;have hs3:=hb3.size;have hlt3:w1.heap.size<w3.heap.size:=by omega
 have lt3:=hz.lt;go_wp2;refine qab (fun W=>Blk W w1.heap.size 49 #[.bool s1,.slice a1 (limbs P1).length c1]/\Blk W w3.heap.size 49 #[.bool s2,.slice a2 (limbs P2).length c2]/\Blk W g3 51 #[.bool false,.slice none 0 0,.slice none 0 0]/\Below w.heap.size w W) (by refine ⟨?_,?_,?_,?_⟩<;>first|((with_reducible repeat first|assumption|(apply bF;focus omega)|apply bS|(apply bN;focus (simp;done))|apply bA|apply bD);all_goals rfl)|go_grown) ?_;clear hu hz;rintro w6 ⟨hu,hv,hz,hw6⟩;have k0:=held (hu.cell 0);have k1:=held (hu.cell 1);have k2:=held (hv.cell 0);have k3:=held (hv.cell 1);have s0:Below w6.heap.size w6 w6.drew:=brf.drew;have lt6:=hz.lt;refine wrx (S:=Below w6.heap.size w6) [(0,.q),(1,.q),(4,.q),(5,.q),(2,.l),(3,.l),(6,.l),(7,.t),(8,.t),(9,.p),(10,.p),(11,.t),(12,.p)] (s0) ?_
 iterate 4 (refine qam rfl rfl fun K hK=>xq ?_;go_simp;refine hK _ _ ?_;clear hK K)
 refine qaj rfl rfl (fun K hK=>?_);go_simp;refine (W1.out _).mono ?_;rintro r w7 ⟨rfl,hb7⟩;dsimp only;refine hK.out _ _ (bth s0 hb7) (fun _=>?_);clear hK K;have t3:=bth s0 hb7;refine qaj rfl rfl (fun K hK=>?_);go_simp;refine (CZ1.out _ (bth hw6 t3)).mono ?_;rintro r w8 ⟨a8,c8,rfl,hV8,hb8⟩;dsimp only;refine hK.out _ _ (bth t3 hb8) (fun _=>?_);clear hK K;have t4:=bth t3 hb8;have HV8:=Hd hV8;clear hV8;refine qaj rfl rfl (fun K hK=>?_);go_simp;refine (W2.out _).mono ?_;rintro r w9 ⟨rfl,hb9⟩;dsimp only;refine hK.out _ _ (bth t4 hb9) (fun _=>?_);clear hK K;have t5:=bth t4 hb9;refine qah rfl rfl (fun K hK=>?_);go_simp;refine (CZ2.out _ (bth hw6 t5)).mono ?_;rintro r w10 ⟨a9,c9,rfl,hV9,hb10⟩;dsimp only;refine hK.out _ _ ?_;clear hK K;have t6:=bth t5 hb10;have CD:=CC.out a8 a9 c8 c9 w10 (HV8.out w10 (((New.refl _ _).below hb10).below hb9)) (hV9 w10 (New.refl _ _));replace CD:=Hd CD;clear hV9
 refine qah rfl rfl (fun K hK=>?_);go_simp;refine (CD.out).mono ?_;rintro r w11 ⟨a5,c5,a6,c6,rfl,hV1,hV2,hb11⟩;dsimp only;refine hK.out _ _ ?_;clear hK K;have t7:=bth t6 hb11;have HV1:=Hd hV1;have HV2:=Hd hV2;clear hV1 hV2
 iterate 2 (refine qav rfl rfl fun K hK=>xp ?_;go_simp;refine hK _ _ ?_;clear hK K)
 replace hz:=hz.below' t7;have hwz:=bth hw6 t7;have hwB:=(bth hw6 t6).size;clear k0 k1 k2 k3;obtain ⟨y0,y1,y2⟩:=cq3 hz;obtain ⟨f0,f1,f2⟩:=fq3 hz;refine qah rfl rfl (fun K hK=>?_);go_simp;refine hK.out _ _ ?_;clear hK K
 iterate 1 (refine qav rfl rfl fun K hK=>xp ?_;go_simp;refine hK _ _ ?_;clear hK K)
 refine qak ?_;go_wp2;have hF:=blk3 (x:=.bool s) (y:=.slice a5 (limbs NN).length c5) (z:=.slice a6 (limbs DD).length c6) hz;obtain ⟨e0,e1,e2⟩:=cq3 hF;refine bodyPost_ret (v:=.tuple #[.agg #[.bool s,.slice a5 (limbs NN).length c5,.slice a6 (limbs DD).length c6],.int .i64 0]) (by simp [results,Tryz.results181,go_sem,e0,e1,e2]) rfl ?_;exact ⟨a5,c5,a6,c6,rfl,fun V hV=>HV1.out V (back3 hV hwB (by have:=t6.size;omega)),fun V hV=>HV2.out V (back3 hV hwB (by have:=t6.size;omega)),qbd hwz (by omega)⟩
def RetDQ (k:Nat) (q:Rat) (w:World) (e:Ending) (w':World):Prop:=∃ x:QA,e=.returned (.tuple #[.agg #[.bool x.neg,.slice x.a x.n x.c,.slice x.b x.m x.d],.int .i64 0])/\Kp (fun V=>QK k V x q) w.heap.size w'.heap.size w'/\Below w.heap.size w w'
theorem qwn {q:Rat} (h:q≠0):q.num.natAbs≠0:=fun e=>h (Rat.num_eq_zero.1 (Int.natAbs_eq_zero.1 e))
theorem div_q (x y:QA) (p q:Rat) (k1 k2:Nat) (w:World) (H1:QK k1 w x p) (H2:QK k2 w y q) (h1:k1<=100000) (h2:k2<=100000) (hq:q≠0):Calls Tryz.prog 181 #[.agg #[.bool x.neg,.slice x.a x.n x.c,.slice x.b x.m x.d],.agg #[.bool y.neg,.slice y.a y.n y.c,.slice y.b y.m y.d]] w (RetDQ (k1+k2) (p / q) w):=by
 have hs:=qv2 p q;have g1:=H1.2;have g2:=H2.2;obtain ⟨s1,n1,a1,c1,m1,b1,d1⟩:=x;obtain ⟨s2,n2,a2,c2,m2,b2,d2⟩:=y;obtain ⟨⟨e1,e2,e3,r1,r2⟩,z1⟩:=H1;obtain ⟨⟨e4,e5,e6,r3,r4⟩,z2⟩:=H2;dsimp only at e1 e2 e3 e4 e5 e6 r1 r2 r3 r4 ⊢;subst e1 e2 e3 e4 e5 e6;have l1:=qbi p;have l2:=qbj p;have l3:=qbi q;have l4:=qbj q;have:=qtc (decide (p.num<0)) (decide (q.num<0)) p.num.natAbs p.den q.num.natAbs q.den a1 b1 a2 b2 c1 d1 c2 d2 w r1 r2 r3 r4 p.den_nz q.den_nz (by omega) (by omega) (by omega) (by omega) (qwn hq);rw [qb7,qb7] at this;refine this.mono fun _ _ h=>?_
 obtain ⟨na,nc,da,dc,rfl,h1,h2,hb⟩:=h;exact ⟨⟨decide ((p / q).num<0),(limbs (p / q).num.natAbs).length,na,nc,(limbs (p / q).den).length,da,dc⟩,rfl,Kp.made fun V hV=>⟨⟨rfl,rfl,rfl,h1 V hV,h2 V hV⟩,by omega⟩,hb⟩
theorem qwl (x y:QA) (p q:Rat) (k1 k2:Nat) (w:World) (H1:QK k1 w x p) (H2:QK k2 w y q) (h1:k1<=100000) (h2:k2<=100000) (hq:q≠0):Calls Tryz.prog 107 #[.agg #[.bool x.neg,.slice x.a x.n x.c,.slice x.b x.m x.d],.agg #[.bool y.neg,.slice y.a y.n y.c,.slice y.b y.m y.d]] w (RetQK (k1+k2) (p / q) w):=by
 have CD:=fun W (hW:Below w.heap.size w W)=>div_q x y p q k1 k2 W (H1.ext (xbw hW)) (H2.ext (xbw hW)) h1 h2 hq
 obtain ⟨t,ht⟩:∃ t,p / q=t:=⟨_,rfl⟩
 rw [ht];simp only [ht] at CD;replace CD:=Hd CD;clear H1 H2 ht hq;go_enter Tryz.func107,Tryz.ntmps107;go_wp2_with fail;refine qad (fun W=>Blk W (w.heap.size+1+1) 51 #[.bool false,.slice none 0 0,.slice none 0 0]/\Below w.heap.size w W) ⟨by ((with_reducible repeat first|assumption|(apply bF;focus omega)|apply bS|(apply bN;focus (simp;done))|apply bA|apply bD);all_goals rfl),by go_grown⟩ ?_;rintro w0 ⟨hz,hw0⟩;obtain ⟨g,hg⟩:∃ g,w.heap.size+1+1=g:=⟨_,rfl⟩
 have hgB:w.heap.size<=g:=by omega
 rw [hg] at hz ⊢;replace hg:=Hd hg;refine (CD.out w0 hw0).mono ?_;rintro e w1 ⟨z,rfl,K1,hb1⟩;have hw1:=bth hw0 hb1;have hg0:=hz.lt;replace hz:=hz.below' hb1;obtain ⟨y0,y1,y2⟩:=cq3 hz;obtain ⟨f0,f1,f2⟩:=fq3 hz;have hgl:=hz.lt;have hs0:=hw0.size;replace K1:=Hd K1;clear CD hb1 hw0;go_wp2;refine qab (fun W=>Blk W g 51 #[.bool z.neg,.slice z.a z.n z.c,.slice z.b z.m z.d]/\Below w.heap.size w W/\Kp (fun V=>QK (k1+k2) V z t) w0.heap.size w1.heap.size W) ⟨by ((with_reducible repeat first|assumption|(apply bF;focus omega)|apply bS|(apply bN;focus (simp;done))|apply bA|apply bD);all_goals rfl),by go_grown,by (with_reducible repeat first | exact K1.out | (refine Kp.setc ?_ ?_;focus omega) | refine Kp.alloc ?_ | refine Kp.drew ?_)⟩ ?_;rintro w2 ⟨hF,hw2,K2⟩;obtain ⟨e0,e1,e2⟩:=cq3 hF
 refine bodyPost_ret (v:=.agg #[.bool z.neg,.slice z.a z.n z.c,.slice z.b z.m z.d]) (by simp [results,Tryz.results107,go_sem,e0,e1,e2]) rfl ?_;exact ⟨z,rfl,Kp.made (K2.fin hs0),hw2⟩
end Go.Proofs.YtfaalkneigpcnaaGreatDoor
namespace Go.Proofs
open Go.Shelf
end Go.Proofs
namespace Go.Proofs.YtfaalkneigpcnaaGreatDoor
end Go.Proofs.YtfaalkneigpcnaaGreatDoor
namespace Go.Proofs.YtfaalkneigpcnaaGreatDoor
open Go.RowKit
structure Rt where
 neg:Bool
 num:List Int
 den:List Int
def Rt.val (r:Rt) (na:Option Addr) (nc:Nat) (da:Option Addr) (dc:Nat):Value:=.agg #[.bool r.neg,.slice na r.num.length nc,.slice da r.den.length dc]
structure Step where
 kind:Int
 point:ByteArray
 args:List Int
 ratio:Rt
structure Fct where
 kind:Int
 args:List Int
 ratio:Rt
structure Fig where
 steps:List Step
 goals:List Fct
def Fct.val (f:Fct) (aa:Option Addr) (ac:Nat) (na:Option Addr) (nc:Nat) (da:Option Addr) (dc:Nat):Value:=.agg #[.int .i64 f.kind,.slice aa f.args.length ac,.bool f.ratio.neg,.slice na f.ratio.num.length nc,.slice da f.ratio.den.length dc]
def Step.val (s:Step) (aa:Option Addr) (ac:Nat) (na:Option Addr) (nc:Nat) (da:Option Addr) (dc:Nat):Value:=.agg #[.int .i64 s.kind,.string s.point,.slice aa s.args.length ac,.bool s.ratio.neg,.slice na s.ratio.num.length nc,.slice da s.ratio.den.length dc]
structure RA where
 aa:Option Addr
 ac:Nat
 na:Option Addr
 nc:Nat
 da:Option Addr
 dc:Nat
def qb4 (w:World) (p:RA) (args:List Int) (r:Rt):Prop:=IntsR w p.aa p.ac args/\NatR w p.na p.nc r.num/\NatR w p.da p.dc r.den
theorem qb4.ext {w w':World} {p:RA} {args:List Int} {r:Rt} (h:qb4 w p args r) (e:Ext w w'):qb4 w' p args r:=⟨h.1.ext e,h.2.1.ext e,h.2.2.ext e⟩
def StepC (w:World) (b o:Nat) (p:RA) (s:Step):Prop :=
 w.cell? ⟨b,o,none⟩=some (.int .i64 s.kind)/\w.cell? ⟨b,o+1,none⟩=some (.string s.point)/\w.cell? ⟨b,o+2,none⟩=some (.slice p.aa s.args.length p.ac) /\
 w.cell? ⟨b,o+3,none⟩=some (.bool s.ratio.neg)/\w.cell? ⟨b,o+4,none⟩=some (.slice p.na s.ratio.num.length p.nc)/\w.cell? ⟨b,o+5,none⟩=some (.slice p.da s.ratio.den.length p.dc)
def FctC (w:World) (b o:Nat) (p:RA) (s:Fct):Prop :=
 w.cell? ⟨b,o,none⟩=some (.int .i64 s.kind)/\w.cell? ⟨b,o+1,none⟩=some (.slice p.aa s.args.length p.ac) /\
 w.cell? ⟨b,o+2,none⟩=some (.bool s.ratio.neg)/\w.cell? ⟨b,o+3,none⟩=some (.slice p.na s.ratio.num.length p.nc)/\w.cell? ⟨b,o+4,none⟩=some (.slice p.da s.ratio.den.length p.dc)
theorem StepC.ext {w w':World} {b o:Nat} {p:RA} {s:Step} (h:StepC w b o p s) (e:Ext w w'):StepC w' b o p s :=
 ⟨e _ _ h.1,e _ _ h.2.1,e _ _ h.2.2.1,e _ _ h.2.2.2.1,e _ _ h.2.2.2.2.1,e _ _ h.2.2.2.2.2⟩
theorem FctC.ext {w w':World} {b o:Nat} {p:RA} {s:Fct} (h:FctC w b o p s) (e:Ext w w'):FctC w' b o p s :=
 ⟨e _ _ h.1,e _ _ h.2.1,e _ _ h.2.2.1,e _ _ h.2.2.2.1,e _ _ h.2.2.2.2⟩
def StepE (w:World) (b o:Nat) (s:Step):Prop:=∃ p,StepC w b o p s/\qb4 w p s.args s.ratio/\InInt s.kind/\s.point.size<=9223372036854775807
def FctE (w:World) (b o:Nat) (s:Fct):Prop:=∃ p,FctC w b o p s/\qb4 w p s.args s.ratio/\InInt s.kind
def qcl (w:World) (a:Option Addr) (c:Nat) (l:List Step):Prop:=SlR 6 StepE w a c l
def FctsR (w:World) (a:Option Addr) (c:Nat) (l:List Fct):Prop:=SlR 5 FctE w a c l
theorem qcl.ext {w w':World} {a:Option Addr} {c:Nat} {l:List Step} (h:qcl w a c l) (e:Ext w w'):qcl w' a c l :=
 SlR.mono h fun _ _ _ _ ⟨p,h1,h2,h3⟩=>⟨p,h1.ext e,h2.ext e,h3⟩
theorem FctsR.ext {w w':World} {a:Option Addr} {c:Nat} {l:List Fct} (h:FctsR w a c l) (e:Ext w w'):FctsR w' a c l :=
 SlR.mono h fun _ _ _ _ ⟨p,h1,h2,h3⟩=>⟨p,h1.ext e,h2.ext e,h3⟩
def Fig.val (f:Fig) (sa:Option Addr) (sc:Nat) (ga:Option Addr) (gc:Nat):Value:=.agg #[.slice sa f.steps.length sc,.slice ga f.goals.length gc]
def FigR (w:World) (sa:Option Addr) (sc:Nat) (ga:Option Addr) (gc:Nat) (f:Fig):Prop:=qcl w sa sc f.steps/\FctsR w ga gc f.goals
theorem FigR.ext {w w':World} {sa:Option Addr} {sc:Nat} {ga:Option Addr} {gc:Nat} {f:Fig} (h:FigR w sa sc ga gc f) (e:Ext w w'):FigR w' sa sc ga gc f:=⟨h.1.ext e,h.2.ext e⟩
def Rt.few (r:Rt):Prop:=r.num.length<=2000000/\r.den.length<=2000000
def Fig.few (f:Fig):Prop:=(∀ s∈f.steps,s.ratio.few)/\(∀ g∈f.goals,g.ratio.few)
def qcm (neg:Bool) (num:List Int):Bool:=qcf num && !(neg&&decide (num.length=0))
def Rt.right (r:Rt):Bool:=qcm r.neg r.num&&qcf r.den&&decide (Nat.gcd (Go.Proofs.YtfaalkneigpcnaaGreatDoor.val r.num) (Go.Proofs.YtfaalkneigpcnaaGreatDoor.val r.den)=1)&&decide (0<r.den.length)
theorem qng (neg:Bool) (num:List Int) (a:Option Addr) (c:Nat) (w:World) (h:NatR w a c num) :
  Calls Tryz.prog 99 #[.agg #[.bool neg,.slice a num.length c]] w fun r w'=>r=.returned (.bool (qcm neg num))/\Below w.heap.size w w':=by
 have CV:=fun W (hW:Below w.heap.size w W)=>qhp num a c W (h.ext (xbw hW))
 obtain ⟨b1,hb1⟩:∃ b,qcf num=b:=⟨_,rfl⟩
 rw [hb1] at CV;replace CV:=Hd CV;unfold qcm;rw [hb1];clear hb1 h;by_cases h0:num.length=0
 ·
  have e0:((num.length:Int)==0)=true:=by simp [h0]
  have H0:=Hd h0;clear h0
  cases b1 <;> cases neg
  all_goals
   go_enter Tryz.func99,Tryz.ntmps99;go_wp2_with (go_at_call 100;refine (CV.out _ (brf.alloc (nlr _) _)).mono ?_;rintro e w' ⟨rfl,rfl⟩);go_ret;refine ⟨qbf ?_,brf.alloc (nlr _) _⟩;simp [H0.out]
 ·
  have e0:((num.length:Int)==0)=false:=by simp;exact fun e=>h0 (by simp [e])
  have H0:=Hd h0;clear h0
  cases b1 <;> cases neg
  all_goals
   go_enter Tryz.func99,Tryz.ntmps99;go_wp2_with (go_at_call 100;refine (CV.out _ (brf.alloc (nlr _) _)).mono ?_;rintro e w' ⟨rfl,rfl⟩);go_ret;refine ⟨qbf ?_,brf.alloc (nlr _) _⟩;simp [H0.out]
theorem qfd (r:Rt) (na:Option Addr) (nc:Nat) (da:Option Addr) (dc:Nat) (w:World) (h:NatR w na nc r.num) (h':NatR w da dc r.den) (hl:r.num.length<=2000000) (hm:r.den.length<=2000000) :
  Calls Tryz.prog 44 #[r.val na nc da dc] w fun e w'=>e=.returned (.bool r.right)/\Below w.heap.size w w':=by
 obtain ⟨neg,num,den⟩:=r;have CR:=fun W (hW:Below w.heap.size w W)=>qng neg num na nc W (h.ext (xbw hW))
 have CV:=fun W (hW:Below w.heap.size w W)=>qhp den da dc W (h'.ext (xbw hW))
 have CG:=fun W (hW:Below w.heap.size w W)=>qj0 num den (val num) (val den) na da nc dc W (h.ext (xbw hW)) (h'.ext (xbw hW)) rfl rfl hl hm
 have CS:=fun (xs ys:List Int) (a a':Option Addr) (c c':Nat) W=>qiq xs ys a a' c c' W
 have CO:=fun W=>qb1 1 W (by omega)
 obtain ⟨b1,hb1⟩:∃ b,qcm neg num=b:=⟨_,rfl⟩
 obtain ⟨b2,hb2⟩:∃ b,qcf den=b:=⟨_,rfl⟩
 obtain ⟨b3,hb3⟩:∃ b,decide (Nat.gcd (val num) (val den)=1)=b:=⟨_,rfl⟩
 obtain ⟨b4,hb4⟩:∃ b,decide (0<den.length)=b:=⟨_,rfl⟩
 have hb4':decide ((0:Int)<(den.length:Int))=b4:=by rw [<- hb4];simp
 have hs:decide (limbs (Nat.gcd (val num) (val den))=limbs 1)=b3:=by rw [<- hb3];simp [qjz]
 rw [hb1] at CR;rw [hb2] at CV;have hres:Rt.right ⟨neg,num,den⟩=(b1&&b2&&b3&&b4):=by simp only [Rt.right,hb1,hb2,hb3,hb4]
 rw [hres];unfold Rt.val;dsimp only;dsimp only at hl hm;generalize Nat.gcd (val num) (val den)=g at CG hs;replace CR:=Hd CR;replace CV:=Hd CV;replace CG:=Hd CG;replace CS:=Hd CS;replace CO:=Hd CO;have HS:=Hd hs;have H4:=Hd hb4;clear hb1 hb2 hb3 hs hres h h' hb4
 cases b1
 ·
  clear hb4' H4 HS;go_enter Tryz.func44,Tryz.ntmps44;go_wp2_with fail;refine (CR.out _ (brf.alloc (nlr _) _)).mono ?_;rintro e w1 ⟨rfl,hb⟩;have hw:=((Below.refl _ w).alloc (nlr _) _).trans (hb.mono (by simp));go_wp2;go_ret;exact ⟨rfl,hw⟩
 ·
  cases b2
  ·
   clear hb4' H4 HS;go_enter Tryz.func44,Tryz.ntmps44;have hz:Blk (w.alloc (.cells #[.bool neg,.slice na num.length nc,.slice da den.length dc] 51)) w.heap.size 51 #[.bool neg,.slice na num.length nc,.slice da den.length dc]:=Blk.new w _ _;have hw0:Below w.heap.size w (w.alloc (.cells #[.bool neg,.slice na num.length nc,.slice da den.length dc] 51)):=brf.alloc (nlr _) _;go_wp2_with fail;revert hz hw0;generalize w.alloc (.cells #[.bool neg,.slice na num.length nc,.slice da den.length dc] 51)=w0;intro hz hw0;refine (CR.out _ hw0).mono ?_;rintro e w1 ⟨rfl,hb⟩;have hw1:=hw0.trans (hb.mono hw0.size);replace hz:=hz.below' hb;obtain ⟨z0,z1,z2⟩:=cq3 hz;clear hb hz hw0;go_wp2_with fail;refine (CV.out _ hw1).mono ?_;rintro e w2 ⟨rfl,rfl⟩;go_wp2;go_ret;exact ⟨rfl,hw1⟩
  ·
   have hz:Blk (w.alloc (.cells #[.bool neg,.slice na num.length nc,.slice da den.length dc] 51)) w.heap.size 51 #[.bool neg,.slice na num.length nc,.slice da den.length dc]:=Blk.new w _ _;have hw0:Below w.heap.size w (w.alloc (.cells #[.bool neg,.slice na num.length nc,.slice da den.length dc] 51)):=brf.alloc (nlr _) _
   cases b3 <;> cases b4
   all_goals
    go_enter Tryz.func44,Tryz.ntmps44;go_wp2_with fail;revert hz hw0;generalize w.alloc (.cells #[.bool neg,.slice na num.length nc,.slice da den.length dc] 51)=w0;intro hz hw0;refine (CR.out _ hw0).mono ?_;rintro e w1 ⟨rfl,hb⟩;have hw1:=hw0.trans (hb.mono hw0.size);replace hz:=hz.below' hb;obtain ⟨z0,z1,z2⟩:=cq3 hz;clear hb hw0;go_wp2_with fail;refine (CV.out _ hw1).mono ?_;rintro e w2 ⟨rfl,rfl⟩;go_wp2_with fail;refine (CG.out _ hw1).mono ?_;rintro e w2 ⟨a2,c2,rfl,hV2,hb2⟩;have hw2:=hw1.trans (hb2.mono hw1.size);replace hz:=hz.below' hb2;replace z0:=hz.cell 0;replace z1:=hz.cell 1;replace z2:=hz.cell 2;have HV2:=Hd hV2;clear hV2;go_wp2_with fail;refine (CO.out _).mono ?_;rintro e w3 ⟨a3,c3,rfl,hV3,hb3⟩;have hw3:=hw2.trans (hb3.mono hw2.size);replace hz:=hz.below' hb3;replace z0:=hz.cell 0;replace z1:=hz.cell 1;replace z2:=hz.cell 2
    have CS2:=CS.out (limbs g) (limbs 1) a2 a3 c2 c3 w3 (HV2.out w3 ((New.refl _ _).below hb3)) (hV3 w3 (New.refl _ _));rw [HS.out] at CS2;replace CS2:=Hd CS2;clear hV3;go_wp2_with fail;refine CS2.out.mono ?_;rintro e w4 ⟨rfl,hb4⟩;have hw4:=hw3.trans (hb4.mono hw3.size);replace hz:=hz.below' hb4;replace z0:=hz.cell 0;replace z1:=hz.cell 1;replace z2:=hz.cell 2;clear hb4 hb3 hb2 CS2;go_wp2;go_ret;exact ⟨qbf (by first | rfl | (rw [H4.out];rfl)),hw4⟩
structure Trm where
 coef:Rt
 mono:List Int
def Trm.val (t:Trm) (p:RA):Value:=.agg #[.bool t.coef.neg,.slice p.na t.coef.num.length p.nc,.slice p.da t.coef.den.length p.dc,.slice p.aa t.mono.length p.ac]
structure Crt where
 factors:List (List Trm)
 powers:List Int
 power:Int
 cofactors:List (List Trm)
structure CA where
 fa:Option Addr
 fc:Nat
 wa:Option Addr
 wc:Nat
 ca:Option Addr
 cc:Nat
def expAt (l:List Int) (v:Nat):Int:=l.getD v 0
def qc7 (a b:List Int):Nat->Int
 | 0=>0
 | v+1=>if expAt a v=expAt b v then qc7 a b v else if expAt a v<expAt b v then -1 else 1
def lexI (a b:List Int):Int:=qc7 a b (max a.length b.length)
theorem qkd {w:World} {a:Option Addr} {c:Nat} {l:List Int} (h:IntsR w a c l) {k:Nat} {x:Int} (hx:l[k]? = some x):∃ b off,a=some ⟨b,off,none⟩/\w.cell? ⟨b,off+k,none⟩=some (.int .i64 x)/\InInt x:=by
 obtain ⟨b,off,ha,hc⟩:=h.2.2 k x hx;exact ⟨b,off,ha,by simpa using hc.1,qd1 hc.2⟩
theorem qbz {l:List Int} {v:Nat} {x:Int} (h:l[v]? = some x):expAt l v=x:=by
 unfold expAt;rw [List.getD_eq_getElem?_getD,h];rfl
theorem qb0 {l:List Int} {v:Nat} (h:l.length<=v):expAt l v=0:=by
 unfold expAt;rw [List.getD_eq_getElem?_getD,List.getElem?_eq_none h];rfl
theorem qmf (l:List Int) (v:Nat) (a:Option Addr) (c:Nat) (w:World) (h:IntsR w a c l) :
  Calls Tryz.prog 256 #[.slice a l.length c,.int .i64 v] w fun e w'=>e=.returned (.int .i64 (expAt l v))/\w=w':=by
 have hlen:=h.len;by_cases hv:v<l.length
 ·
  obtain ⟨x,hx⟩:=qac hv;obtain ⟨b,off,rfl,hc,_⟩:=qkd h hx;rw [qbz hx];clear hx h;go_enter Tryz.func256,Tryz.ntmps256;go_wp2;go_ret;exact ⟨rfl,rfl⟩
 ·
  rw [qb0 (by omega)];clear h;go_enter Tryz.func256,Tryz.ntmps256;go_wp2;go_ret;exact ⟨rfl,rfl⟩
theorem qjv {w:World} {a:Option Addr} {c:Nat} {l:List Int} (h:IntsR w a c l) (v:Nat):InInt (expAt l v):=by
 by_cases hv:v<l.length
 ·
  obtain ⟨x,hx⟩:=qac hv;obtain ⟨b,off,_,_,hi⟩:=qkd h hx;rw [qbz hx];exact hi
 · rw [qb0 (by omega)];unfold InInt;omega
theorem zz24 {P:Prop} (h:P:=by
 rcases hrel with ⟨rfl,hr⟩ | ⟨v,hv,rfl,hr⟩
 ·
  have hr:=hr.out;subst hr;go_wp2;go_ret;exact ⟨rfl,rfl⟩
 ·
  have I1v:=I1.out v;have I2v:=I2.out v;obtain ⟨x,hx⟩:∃ x,expAt l v=x:=⟨_,rfl⟩
  obtain ⟨y,hy⟩:∃ y,expAt m v=y:=⟨_,rfl⟩
  have E1:=C1.out v;have E2:=C2.out v;rw [hx] at E1 I1v;rw [hy] at E2 I2v;obtain ⟨i1,i2⟩:=I1v;obtain ⟨i3,i4⟩:=I2v;have hr:=hr.out;unfold qc7 at hr;rw [hx,hy] at hr;have HR:=Hd hr;replace E1:=Hd E1;replace E2:=Hd E2;clear hr hx hy;go_wp2_with fail;refine E1.out.mono ?_;rintro e w1 ⟨rfl,rfl⟩;go_wp2_with fail;refine E2.out.mono ?_;rintro e w1 ⟨rfl,rfl⟩;by_cases hxy:x=y
  ·
   subst hxy;have HR2:=Hd ((if_pos rfl).symm.trans HR.out);go_wp2
   go_round
   case rel =>
    cases v with
    | zero=>exact .inl ⟨by go_num,by have:=HR2.out;rw [<- this];rfl⟩
    | succ k=>exact .inr ⟨k,by omega,by go_num,HR2.out⟩
   case measure=>simp [intOf]
  ·
   have hb:(x==y)=false:=by simpa using hxy
   have HR2:=HR.out;rw [if_neg hxy] at HR2;by_cases hlt:x<y
   ·
    rw [if_pos hlt] at HR2;subst HR2;clear hxy HR;go_wp2;go_ret;exact ⟨rfl,rfl⟩
   ·
    rw [if_neg hlt] at HR2;subst HR2;clear hxy HR;go_wp2;go_ret;exact ⟨rfl,rfl⟩
 ):P:=h
theorem qsx (l m:List Int) (a a':Option Addr) (c c':Nat) (w:World) (h:IntsR w a c l) (h':IntsR w a' c' m) :
  Calls Tryz.prog 228 #[.slice a l.length c,.slice a' m.length c',.int .i64 0] w fun e w'=>e=.returned (.int .i64 (lexI l m))/\w=w':=by
 have hlen:=h.len;have hlen':=h'.len;have C1:=fun v:Nat=>qmf l v a c w h
 have C2:=fun v:Nat=>qmf m v a' c' w h'
 have I1:=qjv h;have I2:=qjv h';replace C1:=Hd C1;replace C2:=Hd C2;replace I1:=Hd I1;replace I2:=Hd I2;clear h h';obtain ⟨res,hres⟩:∃ x,lexI l m=x:=⟨_,rfl⟩
 rw [hres];unfold lexI at hres;by_cases hlm:l.length<m.length
 ·
  rw [show max l.length m.length=m.length by omega] at hres;have HRES:=Hd hres;clear hres;go_enter Tryz.func228,Tryz.ntmps228;go_wp2;have HLM:=Hd hlm;clear hlm
  go_loop [9] (fun q=>(q=.int .i64 (-1)/\Hid (0=res))\/∃ v:Nat,v<m.length/\q=.int .i64 v/\Hid (qc7 l m (v+1)=res)) (fun q=>(intOf q+1).toNat)
  case atStart =>
   have HR:=HRES.out;have hlm:=HLM.out
   cases hn:m.length with
   | zero=>rw [hn] at HR;exact .inl ⟨by go_num,HR⟩
   | succ k=>rw [hn] at HR;exact .inr ⟨k,by omega,by go_num,HR⟩
  case round =>
   exact zz24
 ·
  rw [show max l.length m.length=l.length by omega] at hres;have HRES:=Hd hres;clear hres;go_enter Tryz.func228,Tryz.ntmps228;go_wp2;have HLM:=Hd hlm;clear hlm
  go_loop [9] (fun q=>(q=.int .i64 (-1)/\Hid (0=res))\/∃ v:Nat,v<l.length/\q=.int .i64 v/\Hid (qc7 l m (v+1)=res)) (fun q=>(intOf q+1).toNat)
  case atStart =>
   have HR:=HRES.out;have hlm:=HLM.out
   cases hn:l.length with
   | zero=>rw [hn] at HR;exact .inl ⟨by go_num,HR⟩
   | succ k=>rw [hn] at HR;exact .inr ⟨k,by omega,by go_num,HR⟩
  case round =>
   exact zz24
def Mok (B:Int) (m:List Int):Prop:=(∀ x∈m,0<=x/\x<=B)/\m[m.length-1]? ≠ some 0/\m.length<=64
theorem Mok.nil (B:Int):Mok B []:=⟨fun x h=>(by cases h),by simp,by simp⟩
theorem Mok.more {B B':Int} {m:List Int} (h:Mok B m) (hB:B<=B'):Mok B' m:=⟨fun x hx=>⟨(h.1 x hx).1,Int.le_trans (h.1 x hx).2 hB⟩,h.2⟩
theorem Mok.exp {B:Int} {m:List Int} (h:Mok B m) (hB:0<=B) (v:Nat):0<=expAt m v/\expAt m v<=B:=by
 unfold expAt;rw [List.getD_eq_getElem?_getD]
 cases hx:m[v]? with
 | none=>simpa using hB
 | some x=>exact h.1 x (List.mem_of_getElem? hx)
theorem qij {B:Int} {a b:List Int} (hb:Mok B b) (h:∀ v,expAt a v=expAt b v):b.length<=a.length:=by
 rcases Nat.lt_or_ge a.length b.length with hl | hl
 ·
  exfalso;obtain ⟨x,hx⟩:=qac (show b.length-1<b.length by omega);have h1:=h (b.length-1);rw [qb0 (by omega),qbz hx] at h1;exact hb.2.1 (by rw [hx,<- h1])
 · exact hl
theorem qn7 {B B':Int} {a b:List Int} (ha:Mok B a) (hb:Mok B' b) (h:∀ v,expAt a v=expAt b v):a=b:=by
 have h1:=qij hb h;have h2:=qij ha fun v=>(h v).symm
 apply List.ext_getElem (by omega);intro i hi1 hi2;have:=h i
 rwa [qbz (List.getElem?_eq_getElem hi1),qbz (List.getElem?_eq_getElem hi2)] at this
def gtM (a b:List Int):Prop:=∃ v,expAt b v<expAt a v/\∀ u,v<u->expAt a u=expAt b u
theorem qeb {a b c:List Int} (h:gtM a b) (k:gtM b c):gtM a c:=by
 obtain ⟨v,h1,h2⟩:=h;obtain ⟨u,k1,k2⟩:=k;rcases Nat.lt_trichotomy v u with e | e | e
 · exact ⟨u,by rw [h2 u e];exact k1,fun x hx=>(h2 x (by omega)).trans (k2 x hx)⟩
 · subst e;exact ⟨v,by omega,fun x hx=>(h2 x hx).trans (k2 x hx)⟩
 · exact ⟨v,by rw [<- k2 v e];exact h1,fun x hx=>(h2 x hx).trans (k2 x (by omega))⟩
theorem qek {a b:List Int} (h:gtM a b):¬ ∀ v,expAt a v=expAt b v:=fun e=>by
 obtain ⟨v,h1,_⟩:=h;rw [e v] at h1
 omega
theorem qjw {a b:List Int} (h:gtM a b) (k:gtM b a):False:=qek (qeb h k) fun _=>rfl
theorem qgf (a b:List Int):∀ n,(∀ v,n<=v->expAt a v=expAt b v) ->
  (qc7 a b n=0/\∀ v,expAt a v=expAt b v)\/(qc7 a b n=1/\gtM a b)\/(qc7 a b n = -1/\gtM b a)
 | 0,h=>.inl ⟨rfl,fun v=>h v (Nat.zero_le _)⟩
 | n+1,h=>by
  unfold qc7;by_cases e:expAt a n=expAt b n
  ·
   rw [if_pos e];exact qgf a b n fun v hv=>by
    rcases Nat.eq_or_lt_of_le hv with e' | e'
    · subst e';exact e
    · exact h v e'
  ·
   rw [if_neg e];by_cases l:expAt a n<expAt b n
   ·
    rw [if_pos l];exact .inr (.inr ⟨rfl,n,l,fun u hu=>(h u hu).symm⟩)
   ·
    rw [if_neg l];exact .inr (.inl ⟨rfl,n,by omega,fun u hu=>h u hu⟩)
theorem qej (a b:List Int):(lexI a b=0/\∀ v,expAt a v=expAt b v)\/(lexI a b=1/\gtM a b)\/(lexI a b = -1/\gtM b a) :=
 qgf a b _ fun v hv=>by rw [qb0 (by omega),qb0 (by omega)]
theorem qta {a b:List Int}:0<lexI a b↔gtM a b:=by
 rcases qej a b with ⟨h,e⟩ | ⟨h,e⟩ | ⟨h,e⟩ <;> rw [h]
 · exact ⟨fun h=>by omega,fun h=>(qek h e).elim⟩
 · exact ⟨fun _=>e,fun _=>by omega⟩
 · exact ⟨fun h=>by omega,fun h=>(qjw h e).elim⟩
theorem qub {a b:List Int}:lexI a b<0↔gtM b a:=by
 rcases qej a b with ⟨h,e⟩ | ⟨h,e⟩ | ⟨h,e⟩ <;> rw [h]
 · exact ⟨fun h=>by omega,fun h=>(qek h fun v=>(e v).symm).elim⟩
 · exact ⟨fun h=>by omega,fun h=>(qjw h e).elim⟩
 · exact ⟨fun _=>e,fun _=>by omega⟩
theorem qoa {B B':Int} {a b:List Int} (ha:Mok B a) (hb:Mok B' b) (h1:¬ 0<lexI a b) (h2:¬ lexI a b<0):a=b:=by
 rcases qej a b with ⟨h,e⟩ | ⟨h,e⟩ | ⟨h,e⟩
 · exact qn7 ha hb e
 · omega
 · omega
theorem qsj {B B':Int} {a b:List Int} (ha:Mok B a) (hb:Mok B' b):a=b\/gtM a b\/gtM b a:=by
 rcases qej a b with ⟨_,e⟩ | ⟨_,e⟩ | ⟨_,e⟩
 · exact .inl (qn7 ha hb e)
 · exact .inr (.inl e)
 · exact .inr (.inr e)
def mulM (a b:List Int):List Int:=(List.range (max a.length b.length)).map fun v=>expAt a v+expAt b v
theorem qdw (a b:List Int):(mulM a b).length=max a.length b.length:=by simp [mulM]
theorem qhy (a b:List Int) {v:Nat} (h:v<max a.length b.length):(mulM a b)[v]? = some (expAt a v+expAt b v):=by
 unfold mulM;rw [List.getElem?_map,List.getElem?_range h]
 rfl
theorem qfb (a b:List Int) (v:Nat):expAt (mulM a b) v=expAt a v+expAt b v:=by
 rcases Nat.lt_or_ge v (max a.length b.length) with h | h
 · exact qbz (qhy a b h)
 · rw [qb0 (by rw [qdw];exact h),qb0 (l:=a) (by omega),qb0 (l:=b) (by omega)];rfl
theorem qn2 {B B':Int} {a b:List Int} (ha:Mok B a) (hb:Mok B' b) (hB:0<=B) (hB':0<=B'):Mok (B+B') (mulM a b):=by
 refine ⟨?_,?_,by rw [qdw];have:=ha.2.2;have:=hb.2.2;omega⟩
 ·
  intro x hx;obtain ⟨v,hv,rfl⟩:=List.mem_map.1 hx;have h1:=ha.exp hB v;have h2:=hb.exp hB' v
  omega
 ·
  rw [qdw];rcases Nat.eq_zero_or_pos (max a.length b.length) with h | h
  ·
   have:mulM a b=[]:=List.eq_nil_of_length_eq_zero (by rw [qdw,h]);rw [this];simp
  ·
   rw [qhy a b (by omega)];intro e;injection e with e
   have h1:=ha.exp hB (max a.length b.length-1);have h2:=hb.exp hB' (max a.length b.length-1);rcases Nat.le_total a.length b.length with l | l
   ·
    obtain ⟨x,hx⟩:=qac (show b.length-1<b.length by omega);rw [show max a.length b.length=b.length by omega] at e h1 h2;rw [qbz hx] at e h2;exact hb.2.1 (by rw [hx,show x=0 by omega])
   ·
    obtain ⟨x,hx⟩:=qac (show a.length-1<a.length by omega);rw [show max a.length b.length=a.length by omega] at e h1 h2;rw [qbz hx] at e h1;exact ha.2.1 (by rw [hx,show x=0 by omega])
theorem qsp (a b:List Int):mulM a b=mulM b a:=by
 unfold mulM;rw [Nat.max_comm];exact List.map_congr_left fun v _=>Int.add_comm _ _
theorem qu2 {a b:List Int} (h:gtM a b) (c:List Int):gtM (mulM a c) (mulM b c):=by
 obtain ⟨v,h1,h2⟩:=h;refine ⟨v,by rw [qfb,qfb];omega,fun u hu=>by rw [qfb,qfb,h2 u hu]⟩
theorem qux {a:List Int}:mulM a []=a:=by
 apply List.ext_getElem?;intro i;rcases Nat.lt_or_ge i a.length with h | h
 ·
  rw [qhy a [] (by simpa using h),List.getElem?_eq_getElem h,qbz (List.getElem?_eq_getElem h),qb0 (l:=[]) (by simp)];simp
 · rw [List.getElem?_eq_none h,List.getElem?_eq_none (by rw [qdw];simpa using h)]
abbrev Tm:=Rat × List Int
def coefP:List Tm->List Int->Rat
 | [],_=>0
 | t :: p,m=>(if t.2=m then t.1 else 0)+coefP p m
def Tok (B:Int) (p:List Tm):Prop:=∀ t∈p,Mok B t.2/\t.1≠0
def Pok (B:Int) (p:List Tm):Prop:=Tok B p/\p.Pairwise fun s t=>gtM s.2 t.2
theorem Pok.nil (B:Int):Pok B []:=⟨fun t h=>(by cases h),List.Pairwise.nil⟩
theorem Pok.more {B B':Int} {p:List Tm} (h:Pok B p) (hB:B<=B'):Pok B' p:=⟨fun t ht=>⟨(h.1 t ht).1.more hB,(h.1 t ht).2⟩,h.2⟩
theorem Pok.tail {B:Int} {t:Tm} {p:List Tm} (h:Pok B (t :: p)):Pok B p:=⟨fun s hs=>h.1 s (List.mem_cons_of_mem _ hs),h.2.tail⟩
theorem Pok.head {B:Int} {t:Tm} {p:List Tm} (h:Pok B (t :: p)):Mok B t.2/\t.1≠0:=h.1 t (List.mem_cons_self)
theorem Pok.gt {B:Int} {t:Tm} {p:List Tm} (h:Pok B (t :: p)):∀ s∈p,gtM t.2 s.2:=(List.pairwise_cons.1 h.2).1
theorem Pok.cons {B:Int} {t:Tm} {p:List Tm} (h:Pok B p) (h1:Mok B t.2) (h2:t.1≠0) (h3:∀ s∈p,gtM t.2 s.2):Pok B (t :: p) :=
 ⟨fun s hs => (by rcases List.mem_cons.1 hs with rfl | hs
                  · exact ⟨h1,h2⟩
                  · exact h.1 s hs),List.pairwise_cons.2 ⟨h3,h.2⟩⟩
theorem qii {p:List Tm} {m:List Int} (h:∀ s∈p,s.2≠m):coefP p m=0:=by
 induction p with
 | nil=>rfl
 | cons t p ih =>
  unfold coefP;rw [if_neg (h t (List.mem_cons_self)),ih fun s hs=>h s (List.mem_cons_of_mem _ hs)]
  grind
theorem ql9 {a b:List Int} (h:gtM a b):a≠b:=fun e=>qek h fun v=>by rw [e]
theorem qc6 {B:Int} {t:Tm} {p:List Tm} (h:Pok B (t :: p)):coefP (t :: p) t.2=t.1:=by
 unfold coefP;rw [if_pos rfl,qii fun s hs e=>ql9 (h.gt s hs) e.symm]
 grind
theorem qhk {B:Int} {t:Tm} {p:List Tm} {m:List Int} (h:Pok B (t :: p)) (hm:gtM m t.2):coefP (t :: p) m=0 :=
 qii fun s hs e=>by
  rcases List.mem_cons.1 hs with rfl | hs
  · exact ql9 hm e.symm
  · exact ql9 (qeb hm (h.gt s hs)) e.symm
theorem qi2 {B B':Int}:∀ {p q:List Tm},Pok B p->Pok B' q->(∀ m,coefP p m=coefP q m)->p=q
 | [],[],_,_,_=>rfl
 | [],t :: q,_,hq,h=>by
  have:=h t.2;rw [qc6 hq] at this;exact absurd this.symm hq.head.2
 | s :: p,[],hp,_,h=>by
  have:=h s.2;rw [qc6 hp] at this;exact absurd this hp.head.2
 | s :: p,t :: q,hp,hq,h=>by
  rcases qsj hp.head.1 hq.head.1 with e | e | e
  ·
   have h1:s.1=t.1:=by
    have:=h s.2;rw [qc6 hp,e,qc6 hq] at this;exact this
   have h2:s=t:=Prod.ext h1 e;subst h2;rw [qi2 hp.tail hq.tail fun m=>by
    have:=h m;unfold coefP at this
    grind]
  ·
   have:=h s.2;rw [qc6 hp,qhk hq e] at this;exact absurd this hp.head.2
  ·
   have:=h t.2;rw [qc6 hq,qhk hp e] at this;exact absurd this.symm hq.head.2
def addP:List Tm->List Tm->List Tm
 | [],q=>q
 | s :: p,[]=>s :: p
 | s :: p,t :: q =>
  if 0<lexI s.2 t.2 then s :: addP p (t :: q)
  else if lexI s.2 t.2<0 then t :: addP (s :: p) q
  else if s.1+t.1=0 then addP p q
  else (s.1+t.1,s.2) :: addP p q
termination_by p q=>p.length+q.length
theorem qes (p:List Tm):addP p []=p:=by cases p <;> unfold addP <;> rfl
theorem qdi (p:List Tm):addP [] p=p:=by unfold addP;rfl
theorem qg9 {s t:Tm} {p q:List Tm} (h:0<lexI s.2 t.2):addP (s :: p) (t :: q)=s :: addP p (t :: q):=by rw [addP,if_pos h]
theorem qg7 {s t:Tm} {p q:List Tm} (h:lexI s.2 t.2<0):addP (s :: p) (t :: q)=t :: addP (s :: p) q:=by rw [addP,if_neg (by omega),if_pos h]
theorem qfa {s t:Tm} {p q:List Tm} (h:lexI s.2 t.2=0) (h0:s.1+t.1=0):addP (s :: p) (t :: q)=addP p q:=by rw [addP,if_neg (by omega),if_neg (by omega),if_pos h0]
theorem qg8 {s t:Tm} {p q:List Tm} (h:lexI s.2 t.2=0) (h0:s.1+t.1≠0):addP (s :: p) (t :: q)=(s.1+t.1,s.2) :: addP p q:=by rw [addP,if_neg (by omega),if_neg (by omega),if_neg h0]
theorem qex:∀ (p q:List Tm),(addP p q).length<=p.length+q.length
 | [],q=>by rw [qdi];simp
 | s :: p,[]=>by rw [qes];simp
 | s :: p,t :: q=>by
  rw [addP]
  split
  · have:=qex p (t :: q);simp at this ⊢;omega
  ·
   split
   · have:=qex (s :: p) q;simp at this ⊢;omega
   ·
    split
    · have:=qex p q;simp at this ⊢;omega
    · have:=qex p q;simp at this ⊢;omega
termination_by p q=>p.length+q.length
theorem qc1:∀ (p q:List Tm) (u:Tm),u∈addP p q->u∈p\/u∈q\/∃ s∈p,∃ t∈q,u=(s.1+t.1,s.2)/\lexI s.2 t.2=0/\s.1+t.1≠0
 | [],q,u,h=>by rw [qdi] at h;exact .inr (.inl h)
 | s :: p,[],u,h=>by rw [qes] at h;exact .inl h
 | s :: p,t :: q,u,h=>by
  have fix:∀ {p' q':List Tm},(∀ x∈p',x∈s :: p)->(∀ x∈q',x∈t :: q)->(u∈p'\/u∈q'\/∃ s∈p',∃ t∈q',u=(s.1+t.1,s.2)/\lexI s.2 t.2=0/\s.1+t.1≠0) ->
    (u∈s :: p\/u∈t :: q\/∃ s'∈s :: p,∃ t'∈t :: q,u=(s'.1+t'.1,s'.2)/\lexI s'.2 t'.2=0/\s'.1+t'.1≠0):=fun h1 h2 h3=>by
   rcases h3 with h | h | ⟨a,ha,b,hb,e⟩
   · exact .inl (h1 _ h)
   · exact .inr (.inl (h2 _ h))
   · exact .inr (.inr ⟨a,h1 _ ha,b,h2 _ hb,e⟩)
  have m1:∀ x∈p,x∈s :: p:=fun x hx=>List.mem_cons_of_mem _ hx
  have m2:∀ x∈q,x∈t :: q:=fun x hx=>List.mem_cons_of_mem _ hx
  by_cases c1:0<lexI s.2 t.2
  ·
   rw [qg9 c1] at h;rcases List.mem_cons.1 h with rfl | h
   · exact .inl (List.mem_cons_self)
   · exact fix m1 (fun _ h=>h) (qc1 p (t :: q) u h)
  ·
   by_cases c2:lexI s.2 t.2<0
   ·
    rw [qg7 c2] at h;rcases List.mem_cons.1 h with rfl | h
    · exact .inr (.inl (List.mem_cons_self))
    · exact fix (fun _ h=>h) m2 (qc1 (s :: p) q u h)
   ·
    by_cases c3:s.1+t.1=0
    ·
     rw [qfa (by omega) c3] at h;exact fix m1 m2 (qc1 p q u h)
    ·
     rw [qg8 (by omega) c3] at h;rcases List.mem_cons.1 h with rfl | h
     · exact .inr (.inr ⟨s,List.mem_cons_self,t,List.mem_cons_self,rfl,by omega,c3⟩)
     · exact fix m1 m2 (qc1 p q u h)
termination_by p q=>p.length+q.length
theorem qec {B B':Int}:∀ {p q:List Tm},Tok B p->Tok B' q->∀ m,coefP (addP p q) m=coefP p m+coefP q m
 | [],q,_,_,m=>by rw [qdi];unfold coefP;grind
 | s :: p,[],_,_,m=>by rw [qes,coefP.eq_1 m];grind
 | s :: p,t :: q,hp,hq,m=>by
  have hp':Tok B p:=fun x hx=>hp x (List.mem_cons_of_mem _ hx)
  have hq':Tok B' q:=fun x hx=>hq x (List.mem_cons_of_mem _ hx)
  by_cases c1:0<lexI s.2 t.2
  ·
   have:=qec hp' hq m;rw [qg9 c1,coefP,this,coefP.eq_2 m s p];grind
  ·
   by_cases c2:lexI s.2 t.2<0
   ·
    have:=qec hp hq' m;rw [qg7 c2,coefP,this,coefP.eq_2 m t q];grind
   ·
    have e:=qoa (hp s List.mem_cons_self).1 (hq t List.mem_cons_self).1 c1 c2;have:=qec hp' hq' m;by_cases c3:s.1+t.1=0
    · rw [qfa (by omega) c3,this,coefP.eq_2 m t q,coefP.eq_2 m s p,e];grind
    · rw [qg8 (by omega) c3,coefP,this,coefP.eq_2 m t q,coefP.eq_2 m s p,e];dsimp only;grind
termination_by p q=>p.length+q.length
theorem qc9 {B:Int}:∀ {p q:List Tm},Pok B p->Pok B q->Pok B (addP p q)
 | [],q,_,hq=>by rw [qdi];exact hq
 | s :: p,[],hp,_=>by rw [qes];exact hp
 | s :: p,t :: q,hp,hq=>by
  by_cases c1:0<lexI s.2 t.2
  ·
   rw [qg9 c1];refine (qc9 hp.tail hq).cons hp.head.1 hp.head.2 fun u hu=>?_
   have g:gtM s.2 t.2:=qta.1 c1;rcases qc1 _ _ _ hu with h | h | ⟨a,ha,b,_,rfl,_⟩
   · exact hp.gt u h
   ·
    rcases List.mem_cons.1 h with rfl | h
    · exact g
    · exact qeb g (hq.gt u h)
   · exact hp.gt a ha
  ·
   by_cases c2:lexI s.2 t.2<0
   ·
    rw [qg7 c2];refine (qc9 hp hq.tail).cons hq.head.1 hq.head.2 fun u hu=>?_
    have g:gtM t.2 s.2:=qub.1 c2;rcases qc1 _ _ _ hu with h | h | ⟨a,ha,b,_,rfl,_⟩
    ·
     rcases List.mem_cons.1 h with rfl | h
     · exact g
     · exact qeb g (hp.gt u h)
    · exact hq.gt u h
    ·
     rcases List.mem_cons.1 ha with rfl | ha
     · exact g
     · exact qeb g (hp.gt a ha)
   ·
    have e:=qoa hp.head.1 hq.head.1 c1 c2;by_cases c3:s.1+t.1=0
    · rw [qfa (by omega) c3];exact qc9 hp.tail hq.tail
    ·
     rw [qg8 (by omega) c3];refine (qc9 hp.tail hq.tail).cons hp.head.1 c3 fun u hu=>?_
     rcases qc1 _ _ _ hu with h | h | ⟨a,ha,b,_,rfl,_⟩
     · exact hp.gt u h
     · rw [e];exact hq.gt u h
     · exact hp.gt a ha
termination_by p q=>p.length+q.length
def qa1 (p:List Tm) (a:Rat):List Tm:=if a=0 then [] else p.map fun t=>(t.1*a,t.2)
def negP (p:List Tm):List Tm:=qa1 p (-1)
def subP (p q:List Tm):List Tm:=addP p (negP q)
theorem qrj {f:Rat->Rat} (h0:f 0=0) (ha:∀ x y,f (x+y)=f x+f y) (p:List Tm) (m:List Int):coefP (p.map fun t=>(f t.1,t.2)) m=f (coefP p m):=by
 induction p with
 | nil=>simp [coefP,h0]
 | cons t p ih =>
  rw [List.map_cons,coefP,ih,coefP,ha];dsimp only
  split
  · rfl
  · rw [h0]
theorem qm8 (p:List Tm) (a:Rat) (m:List Int):coefP (qa1 p a) m=coefP p m*a:=by
 unfold qa1
 split
 · next h=>rw [h];unfold coefP;grind
 · exact qrj (f:=fun x=>x*a) (by grind) (by grind) p m
theorem qjr (p:List Tm) (m:List Int):coefP (negP p) m = - coefP p m:=by unfold negP;rw [qm8];grind
theorem qg1 {B:Int} {p:List Tm} {a:Rat} (h:Pok B p):Pok B (qa1 p a):=by
 unfold qa1
 split
 · exact Pok.nil _
 ·
  next ha =>
  refine ⟨fun t ht=>?_,?_⟩
  ·
   obtain ⟨s,hs,rfl⟩:=List.mem_map.1 ht;exact ⟨(h.1 s hs).1,by have:=(h.1 s hs).2;dsimp only;grind⟩
  ·
   rw [List.pairwise_map];exact h.2
theorem qjm {B:Int} {p:List Tm} (h:Pok B p):Pok B (negP p):=qg1 h
theorem qdj {B:Int} {p q:List Tm} (hp:Pok B p) (hq:Pok B q):Pok B (subP p q):=qc9 hp (qjm hq)
theorem qj4 {B:Int} {p q:List Tm} (hp:Pok B p) (hq:Pok B q) (m:List Int):coefP (subP p q) m=coefP p m-coefP q m:=by
 unfold subP;rw [qec hp.1 (qjm hq).1,qjr];grind
theorem qoy (p:List Tm) (a:Rat):(qa1 p a).length<=p.length:=by unfold qa1;split <;> simp
theorem quc (p:List Tm):(negP p).length=p.length:=by
 unfold negP qa1;rw [if_neg (by decide)];simp
theorem qh1 (p q:List Tm):(subP p q).length<=p.length+q.length:=by
 have:=qex p (negP q);rw [quc] at this;exact this
def qa6 (p:List Tm) (t:Tm):List Tm:=p.map fun s=>(s.1*t.1,mulM s.2 t.2)
theorem qrm {B B':Int} {p:List Tm} {t:Tm} (h:Pok B p) (ht:Mok B' t.2) (h0:t.1≠0) (hB:0<=B) (hB':0<=B'):Pok (B+B') (qa6 p t):=by
 refine ⟨fun u hu=>?_,?_⟩
 ·
  obtain ⟨s,hs,rfl⟩:=List.mem_map.1 hu;exact ⟨qn2 (h.1 s hs).1 ht hB hB',by have:=(h.1 s hs).2;dsimp only;grind⟩
 ·
  unfold qa6;rw [List.pairwise_map];exact h.2.imp fun hg=>qu2 hg _
theorem qo8 {p:List Tm} {c:Rat}:qa6 p (c,[])=p.map fun t=>(t.1*c,t.2):=by
 unfold qa6;exact List.map_congr_left fun t _=>by rw [qux]
theorem qlm {p:List Tm} {c:Rat} (h0:c≠0):qa6 p (c,[])=qa1 p c:=by
 unfold qa1;rw [if_neg h0,qo8]
def mulP (p q:List Tm):List Tm:=q.foldl (fun out t=>addP out (qa6 p t)) []
def pairC (p q:List Tm) (m:List Int):Rat:=match q with
 | []=>0
 | t :: q=>coefP (qa6 p t) m+pairC p q m
theorem qh4 {B B':Int} {p:List Tm} (hp:Pok B p) (hB:0<=B) (hB':0<=B'):∀ (q out:List Tm),Tok B' q->Pok (B+B') out ->
  Pok (B+B') (q.foldl (fun out t=>addP out (qa6 p t)) out)/\∀ m,coefP (q.foldl (fun out t=>addP out (qa6 p t)) out) m=coefP out m+pairC p q m
 | [],out,_,ho=>⟨ho,fun m=>by unfold pairC;rw [List.foldl_nil];grind⟩
 | t :: q,out,hq,ho=>by
  have ht:=hq t List.mem_cons_self;have h1:=qrm hp ht.1 ht.2 hB hB';obtain ⟨h2,h3⟩:=qh4 hp hB hB' q _ (fun x hx=>hq x (List.mem_cons_of_mem _ hx)) (qc9 ho h1);refine ⟨h2,fun m=>?_⟩;rw [List.foldl_cons,h3 m,qec ho.1 h1.1];rw [pairC]
  grind
theorem qje {B B':Int} {p q:List Tm} (hp:Pok B p) (hq:Tok B' q) (hB:0<=B) (hB':0<=B'):Pok (B+B') (mulP p q):=(qh4 hp hB hB' q [] hq (Pok.nil _)).1
theorem qjs {B B':Int} {p q:List Tm} (hp:Pok B p) (hq:Tok B' q) (hB:0<=B) (hB':0<=B') (m:List Int):coefP (mulP p q) m=pairC p q m:=by
 have:=(qh4 hp hB hB' q [] hq (Pok.nil _)).2 m;unfold mulP;rw [this];unfold coefP
 grind
theorem qis (t:Tm) (p:List Tm) (m:List Int):coefP (t :: p) m=(if t.2=m then t.1 else 0)+coefP p m:=rfl
theorem qpr (s:Tm) (p q:List Tm) (m:List Int):pairC (s :: p) q m=coefP (qa6 q s) m+pairC p q m:=by
 induction q with
 | nil=>unfold pairC qa6 coefP;grind
 | cons t q ih =>
  rw [pairC,ih,pairC];unfold qa6;rw [List.map_cons,List.map_cons,qis,qis];dsimp only;rw [qsp s.2 t.2,Rat.mul_comm s.1 t.1]
  grind
theorem qip (p:List Tm):∀ (q:List Tm) (m:List Int),pairC p q m=pairC q p m
 | [],m=>by
  induction p with
  | nil=>rfl
  | cons s p ih =>
   have h1:pairC p [] m=0:=rfl;have h2:coefP (qa6 [] s) m=0:=rfl
   show (0:Rat)=coefP (qa6 [] s) m+pairC [] p m
   rw [<- ih,h1,h2]
   grind
 | t :: q,m=>by rw [pairC,qpr,qip p q m]
theorem qru {B B':Int} {p q:List Tm} (hp:Pok B p) (hq:Pok B' q) (hB:0<=B) (hB':0<=B'):mulP p q=mulP q p :=
 qi2 (qje hp hq.1 hB hB') (qje hq hp.1 hB' hB) fun m=>by rw [qjs hp hq.1 hB hB',qjs hq hp.1 hB' hB,qip]
theorem qev {p:List Tm} {t:Tm}:mulP p [t]=qa6 p t:=by unfold mulP;rw [List.foldl_cons,List.foldl_nil,qdi]
theorem qjo {p:List Tm}:mulP p []=[]:=rfl
def Over (D M:Nat) (x:Rat):Prop:=∃ z:Int,x*D=z/\z.natAbs<=M
def PolyO (D M:Nat) (p:List Tm):Prop:=∀ t∈p,Over D M t.1
theorem Over.add {D M M':Nat} {x y:Rat} (h:Over D M x) (k:Over D M' y):Over D (M+M') (x+y):=by
 obtain ⟨z,h1,h2⟩:=h;obtain ⟨u,k1,k2⟩:=k;refine ⟨z+u,?_,by omega⟩;rw [Rat.add_mul,h1,k1,Rat.intCast_add]
theorem Over.more {D M M':Nat} {x:Rat} (h:Over D M x) (e:M<=M'):Over D M' x:=by
 obtain ⟨z,h1,h2⟩:=h;exact ⟨z,h1,by omega⟩
theorem Over.wide {D M:Nat} {x:Rat} (h:Over D M x) (d:Nat):Over (D*d) (M*d) x:=by
 obtain ⟨z,h1,h2⟩:=h;refine ⟨z*d,?_,?_⟩
 · rw [Rat.natCast_mul,<- Rat.mul_assoc,h1,Rat.intCast_mul,Rat.intCast_natCast]
 · rw [Int.natAbs_mul];exact Nat.mul_le_mul h2 (by simp)
theorem Over.scale {D M:Nat} {x:Rat} (h:Over D M x) (q:Rat):Over (D*q.den) (M*q.num.natAbs) (x*q):=by
 obtain ⟨z,h1,h2⟩:=h;refine ⟨z*q.num,?_,?_⟩
 ·
  have h3:q=(q.num:Rat) / (q.den:Rat):=by rw [<- Rat.mkRat_eq_div,Rat.mkRat_self]
  have h4:(q.den:Rat)≠0:=fun h=>q.den_nz (Rat.natCast_eq_zero_iff.1 h)
  have e:q*(q.den:Rat)=(q.num:Rat):=by
   revert h3 h4;generalize (q.den:Rat)=d;generalize (q.num:Rat)=n;intro h3 h4
   grind
  rw [Rat.natCast_mul,Rat.intCast_mul,<- h1,<- e]
  grind
 · rw [Int.natAbs_mul];exact Nat.mul_le_mul h2 (nlr _)
theorem Over.neg {D M:Nat} {x:Rat} (h:Over D M x):Over D M (x*(-1)):=by
 obtain ⟨z,h1,h2⟩:=h;refine ⟨-z,?_,by omega⟩;rw [Rat.intCast_neg,<- h1];grind
theorem PolyO.more {D M M':Nat} {p:List Tm} (h:PolyO D M p) (e:M<=M'):PolyO D M' p:=fun t ht=>(h t ht).more e
theorem PolyO.wide {D M:Nat} {p:List Tm} (h:PolyO D M p) (d:Nat):PolyO (D*d) (M*d) p:=fun t ht=>(h t ht).wide d
theorem PolyO.nil (D M:Nat):PolyO D M []:=fun t h=>(by cases h)
theorem PolyO.add {D M M':Nat} {p q:List Tm} (h:PolyO D M p) (k:PolyO D M' q):PolyO D (M+M') (addP p q):=fun u hu=>by
 rcases qc1 _ _ _ hu with e | e | ⟨s,hs,t,ht,rfl,_⟩
 · exact (h u e).more (by omega)
 · exact (k u e).more (by omega)
 · exact (h s hs).add (k t ht)
theorem PolyO.scale {D M:Nat} {p:List Tm} (h:PolyO D M p) (q:Rat):PolyO (D*q.den) (M*q.num.natAbs) (qa1 p q):=fun u hu=>by
 unfold qa1 at hu
 split at hu
 · cases hu
 ·
  obtain ⟨s,hs,rfl⟩:=List.mem_map.1 hu;exact (h s hs).scale q
theorem PolyO.neg {D M:Nat} {p:List Tm} (h:PolyO D M p):PolyO D M (negP p):=fun u hu=>by
 unfold negP qa1 at hu
 split at hu
 · cases hu
 ·
  obtain ⟨s,hs,rfl⟩:=List.mem_map.1 hu;exact (h s hs).neg
theorem PolyO.sub {D M M':Nat} {p q:List Tm} (h:PolyO D M p) (k:PolyO D M' q):PolyO D (M+M') (subP p q):=h.add k.neg
theorem PolyO.times1 {D M:Nat} {p:List Tm} (h:PolyO D M p) (m:List Int):PolyO D M (qa6 p (1,m)):=fun u hu=>by
 obtain ⟨s,hs,rfl⟩:=List.mem_map.1 hu;dsimp only;rw [Rat.mul_one];exact h s hs
theorem Over.parts {D M:Nat} {x:Rat} (h:Over D M x) (hD:0<D):x.num.natAbs<=M/\x.den<=D:=by
 obtain ⟨z,h1,h2⟩:=h;have e:x=mkRat z D:=by
  rw [Rat.mkRat_eq_div];have:(D:Rat)≠0:=by
   intro h;have:=Rat.natCast_eq_zero_iff.1 h
   omega
  grind
 rw [e,Rat.num_mkRat,Rat.den_mkRat,if_neg (by omega),if_neg (by omega)];exact ⟨Nat.le_trans (Int.natAbs_ediv_le_natAbs _ _) h2,Nat.div_le_self _ _⟩
def Agr (X:Nat->Prop) (w V:World):Prop:=∀ p v,¬ X p.block->w.cell? p=some v->V.cell? p=some v
def Rd (X:Nat->Prop) (w:World) (R:World->Prop):Prop:=∀ V,Agr X w V->R V
section
variable {X Y : Nat -> Prop} {w w' w'' V : World} {R R' : World -> Prop}
theorem Agr.refl (X:Nat->Prop) (w:World):Agr X w w:=fun _ _ _ h=>h
theorem Agr.trans (h:Agr X w w') (k:Agr X w' w''):Agr X w w'':=fun p v hp hc=>k p v hp (h p v hp hc)
theorem Agr.mono (h:Agr X w w') (e:∀ b,X b->Y b):Agr Y w w':=fun p v hp hc=>h p v (fun hx=>hp (e _ hx)) hc
theorem Agr.ext (h:Ext w w'):Agr X w w':=fun p v _ hc=>h p v hc
theorem Agr.below (h:Below w.heap.size w w'):Agr X w w':=Agr.ext (xbw h)
theorem Agr.alloc (h:Agr X w w') (o:Obj):Agr X w (w'.alloc o):=fun p v hp hc=>by
 have e:=h p v hp hc;exact (World.cell?_alloc_lt w' o p (World.block_lt_of_cell? w' p e)).trans e
theorem Agr.setc {g i:Nat} {u:Value} (hg:X g) (h:Agr X w w'):Agr X w (w'.setCell ⟨g,i,none⟩ u):=fun p v hp hc =>
 (World.cell?_setCell_other w' ⟨g,i,none⟩ p u (fun e=>by subst e;exact hp hg)).trans (h p v hp hc)
theorem Agr.grown {a:Option Addr} {n c:Nat} (h:Agr X w w') (hg:w'.grownBy w'' (Value.ownBlock (.slice a n c))) (ha:∀ g,a=some g->X g.block):Agr X w w'':=fun p v hp hc =>
 hg.cell (h p v hp hc) (fun e=>by
  cases a with
  | none=>simp [Value.ownBlock] at e
  | some g=>simp [Value.ownBlock] at e;exact hp (e ▸ ha g rfl))
theorem Rd.less {Y:Nat->Prop} (h:Rd Y w R) (e:∀ b,X b->Y b):Rd X w R:=fun V hV=>h V (hV.mono e)
theorem Rd.now (h:Rd X w R):R w:=h w (Agr.refl _ _)
theorem Rd.imp (h:Rd X w R) (e:∀ V,R V->R' V):Rd X w R':=fun V hV=>e V (h V hV)
theorem Rd.and (h:Rd X w R) (k:Rd X w R'):Rd X w fun V=>R V/\R' V:=fun V hV=>⟨h V hV,k V hV⟩
theorem Rd.step (h:Rd X w R) (hw:Agr X w w'):Rd X w' R:=fun V hV=>h V (hw.trans hV)
theorem Rd.call (h:Rd X w R) (hb:Below w.heap.size w w'):Rd X w' R:=h.step (Agr.below hb)
theorem Rd.alloc (h:Rd X w R) (o:Obj):Rd X (w.alloc o) R:=h.step ((Agr.refl _ _).alloc o)
theorem Rd.drew (h:Rd X w R):Rd X w.drew R:=h
theorem Rd.setc {g i:Nat} {u:Value} (hg:X g) (h:Rd X w R):Rd X (w.setCell ⟨g,i,none⟩ u) R:=h.step (Agr.setc hg (Agr.refl _ _))
theorem Rd.more (h:Rd X w R) (e:∀ b,Y b->X b\/w.heap.size<=b):Rd Y w R:=fun V hV=>h V fun p v hp hc =>
 hV p v (fun hy=>(e _ hy).elim hp fun hl=>absurd (World.block_lt_of_cell? w p hc) (by omega)) hc
theorem Rd.arg (e:∀ V,Ext w V->R V) (hX:∀ b,X b->w.heap.size<=b):Rd X w R:=fun V hV=>e V fun p v hc =>
 hV p v (fun hx=>absurd (World.block_lt_of_cell? w p hc) (by have:=hX _ hx;omega)) hc
theorem Rd.made (h:∀ V,New w.heap.size w' V->R V) (hX:∀ b,X b->b<w.heap.size\/w'.heap.size<=b):Rd X w' R:=fun V hV=>h V fun p v hb hc =>
 hV p v (fun hx=>by have:=World.block_lt_of_cell? w' p hc;have:=hX _ hx;omega) hc
end
def Sat (S:World->Prop) (w:World):Prop:=S w
section
variable {α β : Type} {f : α -> List Value} {sz : Nat} {t : TypeId} {B : Nat} {w V : World} {a : Option Addr} {c : Nat} {l : List α} {X : Nat -> Prop}
theorem Own.readsX {E:World->Nat->Nat->β->Prop} (m:List β) (hlen:m.length=l.length) (hf:∀ x,(f x).length=sz) (h:Own f sz t B w a c l) (hV:Agr X w V) (hX:∀ g,a=some g->¬ X g.block)
  (hE:∀ (b o k:Nat) (x:α) (y:β),l[k]? = some x->m[k]? = some y->(∀ j u,(f x)[j]? = some u->V.cell? ⟨b,o+j,none⟩=some u)->E V b o y):SlR sz E V a c m:=by
 refine ⟨by rw [hlen];exact h.cap.1,h.cap.2,fun k y hy=>?_⟩;obtain ⟨x,hx⟩:=qac (show k<l.length by have:=qaw hy;omega);obtain ⟨b,ha,hB,_,hc⟩:=h.at_ hf hx;exact ⟨b,0,ha,hE _ _ _ _ _ hx hy (fun j u hu=>hV _ _ (fun hx=>hX _ ha hx) (by simpa using hc j u hu))⟩
end
section
variable {P : Program} {ops : Array Oper} {Q : Exit -> Act -> World -> Prop} {S : World -> Prop}
end
section
variable {P : Program} {ops : Array Oper} {Q : Exit -> Act -> World -> Prop} {S : World -> Prop}
end
theorem qpw (neg:Bool) (num:List Int) (a:Option Addr) (c:Nat) (w:World) (h:NatR w a c num) :
  Calls Tryz.prog 223 #[.agg #[.bool neg,.slice a num.length c]] w fun e w'=>e=.returned (.bool (qcm neg num))/\Below w.heap.size w w':=by
 have hlen:=h.len;have hu:=h.u16;have hb0:Below w.heap.size w (w.alloc (.cells #[.bool neg,.slice a num.length c] 49)):=brf.alloc (nlr _) _;by_cases h0:num.length=0
 ·
  obtain rfl:num=[]:=List.length_eq_zero_iff.1 h0;have hr:qcm neg [] = !neg:=by simp [qcm,qcf,val,qag]
  rw [hr];clear h hu h0 hr
  cases neg
  all_goals
   go_enter Tryz.func223,Tryz.ntmps223;go_wp2;go_ret;exact ⟨rfl,hb0⟩
 ·
  obtain ⟨x,hx⟩:=qac (xs:=num) (k:=num.length-1) (by omega);obtain ⟨b,off,rfl,hc⟩:=h.cell hx;have hcan:=qfh hu hx (by omega);have hr:qcm neg num = !(x==0):=by
   unfold qcm;rw [hcan];simp [h0]
  rw [hr];have hk:=held hc;have hbl:b<w.heap.size:=by have:=World.block_lt_of_cell? w _ hc;simpa using this
  have hbl2:b<w.heap.size+1:=by omega
  have hi1:(0:Int)<=(num.length:Int)-1:=by omega
  have hti:((num.length:Int)-1).toNat=num.length-1:=by omega
  have hgt:decide (0<num.length)=true:=by rw [decide_eq_true_eq];omega
  have hgt2:decide ((0:Int)<(num.length:Int))=true:=by rw [decide_eq_true_eq];omega
  have he:((num.length:Int)==0)=false:=by rw [beq_eq_false_iff_ne];omega
  clear h hu hx hc hcan hr;by_cases hx0:x=0
  ·
   subst hx0;go_enter Tryz.func223,Tryz.ntmps223;go_wp2;go_ret;exact ⟨rfl,hb0⟩
  ·
   have hxb:(x==0)=false:=by simpa using hx0
   have hxn:(x != 0)=true:=by simpa using hx0
   rw [hxb];clear hx0;go_enter Tryz.func223,Tryz.ntmps223;go_wp2;go_ret;exact ⟨rfl,hb0⟩
end Go.Proofs.YtfaalkneigpcnaaGreatDoor
