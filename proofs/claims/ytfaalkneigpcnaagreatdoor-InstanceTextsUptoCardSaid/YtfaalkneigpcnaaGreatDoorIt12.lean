/- Walk: two polynomials merged (the program's sum). -/
import Derived.Test.YtfaalkneigpcnaaGreatDoorIt10
import Derived.Test.YtfaalkneigpcnaaGreatDoorIt11
import Derived.Test.YtfaalkneigpcnaaGreatDoorIt9
import Derived.Deep.LoopGhost
import Derived.Test.YtfaalkneigpcnaaGreatDoorIt3
set_option linter.all false
set_option maxRecDepth 100000
set_option maxHeartbeats 4000000
namespace Go.Proofs.YtfaalkneigpcnaaGreatDoor
open Go.RowKit
theorem sq_nn (x:Rat):0<=x*x:=by
 rcases Rat.le_total (a:=0) (b:=x) with h | h
 · exact Rat.mul_nonneg h h
 ·
  have h2:0 <= -x:=by grind
  have:=Rat.mul_nonneg h2 h2
  grind
theorem qs9 {u:P2} (h:dotQ u u=0):u.1=0/\u.2=0:=by
 unfold dotQ at h;have h1:=sq_nn u.1;have h2:=sq_nn u.2;have e1:u.1*u.1=0:=by grind
 have e2:u.2*u.2=0:=by grind
 exact ⟨by rcases Rat.mul_eq_zero.1 e1 with h | h <;> exact h,by rcases Rat.mul_eq_zero.1 e2 with h | h <;> exact h⟩
theorem qtn {a b:P2} (h:vecQ a b=(0,0)):a=b:=by
 obtain ⟨a1,a2⟩:=a;obtain ⟨b1,b2⟩:=b;unfold vecQ at h;injection h with h1 h2
 dsimp only at h1 h2;have e1:a1=b1:=by grind
 have e2:a2=b2:=by grind
 rw [e1,e2]
theorem qvd {a b:P2} (h:a≠b):dotQ (vecQ a b) (vecQ a b)≠0:=fun e=>h (qtn (by
 obtain ⟨h1,h2⟩:=qs9 e;exact Prod.ext h1 h2))
theorem qsc (x1 x2 y1 y2:QA) (a b:P2) (k:Nat) (w:World) (H1:QK k w x1 a.1) (H2:QK k w x2 a.2) (H3:QK k w y1 b.1) (H4:QK k w y2 b.2) (hk:k<=100000) :
  Calls Tryz.prog 111 #[.agg #[.bool x1.neg,.slice x1.a x1.n x1.c,.slice x1.b x1.m x1.d,.bool x2.neg,.slice x2.a x2.n x2.c,.slice x2.b x2.m x2.d],.agg #[.bool y1.neg,.slice y1.a y1.n y1.c,.slice y1.b y1.m y1.d,.bool y2.neg,.slice y2.a y2.n y2.c,.slice y2.b y2.m y2.d]] w fun e w'=>e=.returned (.bool (decide (a=b)))/\Below w.heap.size w w':=by
 have C1:=fun W (hW:Below w.heap.size w W)=>qn5 x1 y1 a.1 b.1 k W (H1.ext (xbw hW)) (H3.ext (xbw hW)) hk
 have C2:=fun W (hW:Below w.heap.size w W)=>qn5 x2 y2 a.2 b.2 k W (H2.ext (xbw hW)) (H4.ext (xbw hW)) hk
 have hd:decide (a=b)=(decide (a.1=b.1)&&decide (a.2=b.2)):=by
  rw [Bool.eq_iff_iff,Bool.and_eq_true,decide_eq_true_eq,decide_eq_true_eq,decide_eq_true_eq];exact Prod.ext_iff
 rw [hd];obtain ⟨b1,h1⟩:∃ q,decide (a.1=b.1)=q:=⟨_,rfl⟩
 obtain ⟨b2,h2⟩:∃ q,decide (a.2=b.2)=q:=⟨_,rfl⟩
 rw [h1] at C1 ⊢;rw [h2] at C2 ⊢;replace C1:=Hd C1;replace C2:=Hd C2;clear H1 H2 H3 H4 hd h1 h2;go_enter Tryz.func111,Tryz.ntmps111;go_wp2_with fail;refine qad (fun W=>Blk W w.heap.size 69 #[.bool x1.neg,.slice x1.a x1.n x1.c,.slice x1.b x1.m x1.d,.bool x2.neg,.slice x2.a x2.n x2.c,.slice x2.b x2.m x2.d]/\Blk W (w.heap.size+1) 69 #[.bool y1.neg,.slice y1.a y1.n y1.c,.slice y1.b y1.m y1.d,.bool y2.neg,.slice y2.a y2.n y2.c,.slice y2.b y2.m y2.d]/\Below w.heap.size w W) (by refine ⟨?_,?_,?_⟩<;>first|((with_reducible repeat first|assumption|(apply bF;focus omega)|apply bS|(apply bN;focus (simp;done))|apply bA|apply bD);all_goals rfl)|go_grown) ?_;rintro w0 ⟨h0,h1,hw0⟩;refine (C1.out w0 hw0).mono ?_;rintro e w1 ⟨rfl,hb1⟩;have hw1:=bth hw0 hb1;replace h0:=h0.below' hb1;replace h1:=h1.below' hb1;have k0:=h0.cell 3;have k1:=h0.cell 4;have k2:=h0.cell 5
 have j0:=h1.cell 3;have j1:=h1.cell 4;have j2:=h1.cell 5;have l0:=h0.lt;have l1:=h1.lt;clear hw0 hb1 C1
 cases b1
 ·
  clear C2;go_wp2;go_ret;exact ⟨rfl,hw1⟩
 ·
  go_wp2_with fail;refine (C2.out w1 hw1).mono ?_;rintro e w2 ⟨rfl,hb2⟩;have hw2:=bth hw1 hb2;clear C2;go_wp2;go_ret;exact ⟨by simp,hw2⟩
def RetTK (k:Nat) (p:P2) (w:World) (e:Ending) (w':World):Prop:=∃ x:PH,e=.returned (.tuple #[.agg #[.bool x.1.neg,.slice x.1.a x.1.n x.1.c,.slice x.1.b x.1.m x.1.d,.bool x.2.neg,.slice x.2.a x.2.n x.2.c,.slice x.2.b x.2.m x.2.d],.int .i64 0])/\Kp (fun V=>PK k V x p) w.heap.size w'.heap.size w'/\Below w.heap.size w w'
def RetTE (er:Int) (w:World) (e:Ending) (w':World):Prop:=e=.returned (.tuple #[.agg #[.bool false,.slice none 0 0,.slice none 0 0,.bool false,.slice none 0 0,.slice none 0 0],.int .i64 er])/\Below w.heap.size w w'
theorem qul (p1 p2 x1 x2 y1 y2:QA) (p a b:P2) (k:Nat) (w:World) (G1:QK k w p1 p.1) (G2:QK k w p2 p.2) (H1:QK k w x1 a.1) (H2:QK k w x2 a.2) (H3:QK k w y1 b.1) (H4:QK k w y2 b.2) (hk:k<=100) (hab:a=b):Calls Tryz.prog 52 #[.agg #[.bool p1.neg,.slice p1.a p1.n p1.c,.slice p1.b p1.m p1.d,.bool p2.neg,.slice p2.a p2.n p2.c,.slice p2.b p2.m p2.d],.agg #[.bool x1.neg,.slice x1.a x1.n x1.c,.slice x1.b x1.m x1.d,.bool x2.neg,.slice x2.a x2.n x2.c,.slice x2.b x2.m x2.d],.agg #[.bool y1.neg,.slice y1.a y1.n y1.c,.slice y1.b y1.m y1.d,.bool y2.neg,.slice y2.a y2.n y2.c,.slice y2.b y2.m y2.d]] w (RetTE 11 w):=by
 have CE:=fun W (hW:Below w.heap.size w W)=>qsc x1 x2 y1 y2 a b k W (H1.ext (xbw hW)) (H2.ext (xbw hW)) (H3.ext (xbw hW)) (H4.ext (xbw hW)) (by omega)
 rw [decide_eq_true hab] at CE;replace CE:=Hd CE;clear G1 G2 H1 H2 H3 H4 hab;go_enter Tryz.func52,Tryz.ntmps52;go_wp2_with fail;refine qad (fun W=>Blk W (w.heap.size+1+1+1) 69 #[.bool false,.slice none 0 0,.slice none 0 0,.bool false,.slice none 0 0,.slice none 0 0]/\Below w.heap.size w W) ⟨by ((with_reducible repeat first|assumption|(apply bF;focus omega)|apply bS|(apply bN;focus (simp;done))|apply bA|apply bD);all_goals rfl),by go_grown⟩ ?_;rintro w0 ⟨hz,hw0⟩;obtain ⟨g,hg⟩:∃ g,w.heap.size+1+1+1=g:=⟨_,rfl⟩
 have hgB:w.heap.size<=g:=by omega
 rw [hg] at hz ⊢;replace hg:=Hd hg;refine (CE.out w0 hw0).mono ?_;rintro e w1 ⟨rfl,hb1⟩;have hw1:=bth hw0 hb1;replace hz:=hz.below' hb1;obtain ⟨y0,y1,y2,y3,y4,y5⟩:=cq6 hz;obtain ⟨f0,f1,f2,f3,f4,f5⟩:=fq6 hz;clear CE hw0 hb1;go_wp2;refine qab (fun W=>Blk W g 69 #[.bool false,.slice none 0 0,.slice none 0 0,.bool false,.slice none 0 0,.slice none 0 0]/\Below w.heap.size w W) ⟨Blk.set6 hz,by go_grown⟩ ?_;rintro wF ⟨hF,hwF⟩;obtain ⟨e0,e1,e2,e3,e4,e5⟩:=cq6 hF;refine bodyPost_ret (v:=.tuple #[.agg #[.bool false,.slice none 0 0,.slice none 0 0,.bool false,.slice none 0 0,.slice none 0 0],.int .i64 11]) (by simp [results,Tryz.results52,go_sem,e0,e1,e2,e3,e4,e5]) rfl ?_;exact ⟨rfl,hwF⟩
theorem qvx (p1 p2 x1 x2 y1 y2:QA) (p a b:P2) (k:Nat) (w:World) (G1:QK k w p1 p.1) (G2:QK k w p2 p.2) (H1:QK k w x1 a.1) (H2:QK k w x2 a.2) (H3:QK k w y1 b.1) (H4:QK k w y2 b.2) (hk:k<=100) (hab:a≠b):Calls Tryz.prog 52 #[.agg #[.bool p1.neg,.slice p1.a p1.n p1.c,.slice p1.b p1.m p1.d,.bool p2.neg,.slice p2.a p2.n p2.c,.slice p2.b p2.m p2.d],.agg #[.bool x1.neg,.slice x1.a x1.n x1.c,.slice x1.b x1.m x1.d,.bool x2.neg,.slice x2.a x2.n x2.c,.slice x2.b x2.m x2.d],.agg #[.bool y1.neg,.slice y1.a y1.n y1.c,.slice y1.b y1.m y1.d,.bool y2.neg,.slice y2.a y2.n y2.c,.slice y2.b y2.m y2.d]] w (RetTK 8000 (footQ p a b) w):=by
 have CE:=fun W (hW:Below w.heap.size w W)=>qsc x1 x2 y1 y2 a b k W (H1.ext (xbw hW)) (H2.ext (xbw hW)) (H3.ext (xbw hW)) (H4.ext (xbw hW)) (by omega)
 rw [decide_eq_false hab] at CE;have CV:=fun W (hW:Below w.heap.size w W)=>qrs x1 x2 y1 y2 a b k W (H1.ext (xbw hW)) (H2.ext (xbw hW)) (H3.ext (xbw hW)) (H4.ext (xbw hW)) (by omega)
 have CW:=fun W (hW:Below w.heap.size w W)=>qrs x1 x2 p1 p2 a p k W (H1.ext (xbw hW)) (H2.ext (xbw hW)) (G1.ext (xbw hW)) (G2.ext (xbw hW)) (by omega)
 have R1:=fun W (hW:Below w.heap.size w W)=>QK.more (H1.ext (xbw hW)) (show k<=3500 by omega)
 have R2:=fun W (hW:Below w.heap.size w W)=>QK.more (H2.ext (xbw hW)) (show k<=3500 by omega)
 have hn:=qvd hab;have hfq:footQ p a b=plusQ a (qgp (vecQ a b) (dotQ (vecQ a b) (vecQ a p) / dotQ (vecQ a b) (vecQ a b))):=rfl;rw [hfq];revert CV CW hn;generalize vecQ a b=u;generalize vecQ a p=v;intro CV CW hn;replace CE:=Hd CE;replace CV:=Hd CV;replace CW:=Hd CW;replace R1:=Hd R1;replace R2:=Hd R2;replace hn:=Hd hn;clear G1 G2 H1 H2 H3 H4 hab hfq;go_enter Tryz.func52,Tryz.ntmps52;go_wp2_with fail
 refine qad (fun W=>Blk W w.heap.size 69 #[.bool p1.neg,.slice p1.a p1.n p1.c,.slice p1.b p1.m p1.d,.bool p2.neg,.slice p2.a p2.n p2.c,.slice p2.b p2.m p2.d]/\Blk W (w.heap.size+1) 69 #[.bool x1.neg,.slice x1.a x1.n x1.c,.slice x1.b x1.m x1.d,.bool x2.neg,.slice x2.a x2.n x2.c,.slice x2.b x2.m x2.d]/\Blk W (w.heap.size+1+1) 69 #[.bool y1.neg,.slice y1.a y1.n y1.c,.slice y1.b y1.m y1.d,.bool y2.neg,.slice y2.a y2.n y2.c,.slice y2.b y2.m y2.d]/\Blk W (w.heap.size+1+1+1) 69 #[.bool false,.slice none 0 0,.slice none 0 0,.bool false,.slice none 0 0,.slice none 0 0]/\Below w.heap.size w W) (by refine ⟨?_,?_,?_,?_,?_⟩<;>first|((with_reducible repeat first|assumption|(apply bF;focus omega)|apply bS|(apply bN;focus (simp;done))|apply bA|apply bD);all_goals rfl)|go_grown) ?_;rintro w0 ⟨hp,hx,hy,hz,hw0⟩;obtain ⟨gp,hgp⟩:∃ g,w.heap.size=g:=⟨_,rfl⟩
 obtain ⟨gx,hgx⟩:∃ g,w.heap.size+1=g:=⟨_,rfl⟩
 obtain ⟨gy,hgy⟩:∃ g,w.heap.size+1+1=g:=⟨_,rfl⟩
 obtain ⟨gz,hgz⟩:∃ g,w.heap.size+1+1+1=g:=⟨_,rfl⟩
 have hgB:w.heap.size<=gz:=by omega
 have hgC:w.heap.size<w0.heap.size:=by have:=hz.lt;omega
 rw [hgz] at hz;rw [hgy] at hy;rw [hgx] at hx;have hp':Blk w0 gp 69 #[.bool p1.neg,.slice p1.a p1.n p1.c,.slice p1.b p1.m p1.d,.bool p2.neg,.slice p2.a p2.n p2.c,.slice p2.b p2.m p2.d]:=hgp ▸ hp;have hnz1:gp≠gz:=by omega
 have hnz2:gx≠gz:=by omega
 simp only [hgz];simp only [hgy];simp only [hgx];simp only [hgp];replace hgp:=Hd hgp;replace hgx:=Hd hgx;replace hgy:=Hd hgy;replace hgz:=Hd hgz;clear hp;refine (CE.out w0 hw0).mono ?_;rintro e w1 ⟨rfl,hb1⟩;have hw1:=bth hw0 hb1;replace hp':=hp'.below' hb1;replace hx:=hx.below' hb1;replace hy:=hy.below' hb1;replace hz:=hz.below' hb1;obtain ⟨x0,x1',x2',x3,x4,x5⟩:=cq6 hx;obtain ⟨y0,y1',y2',y3,y4,y5⟩:=cq6 hy;clear CE hw0 hb1;go_wp2_with fail;refine (CV.out w1 hw1).mono ?_;rintro e w2 ⟨⟨z1,z2⟩,rfl,K1,hb2⟩;have hw2:=bth hw1 hb2;have hs1:=hw1.size;replace hp':=hp'.below' hb2;replace hx:=hx.below' hb2;replace hz:=hz.below' hb2;replace K1:=Hd K1;clear x0 x1' x2' x3 x4 x5 y0 y1' y2' y3 y4 y5 hy CV hb2;have lp:=hp'.lt;have lx:=hx.lt;have lz:=hz.lt;go_wp2
 refine qab (fun W=>Blk W gp 69 #[.bool p1.neg,.slice p1.a p1.n p1.c,.slice p1.b p1.m p1.d,.bool p2.neg,.slice p2.a p2.n p2.c,.slice p2.b p2.m p2.d]/\Blk W gx 69 #[.bool x1.neg,.slice x1.a x1.n x1.c,.slice x1.b x1.m x1.d,.bool x2.neg,.slice x2.a x2.n x2.c,.slice x2.b x2.m x2.d]/\Blk W gz 69 #[.bool false,.slice none 0 0,.slice none 0 0,.bool false,.slice none 0 0,.slice none 0 0]/\Blk W w2.heap.size 151 #[.bool z1.neg,.slice z1.a z1.n z1.c,.slice z1.b z1.m z1.d,.bool z2.neg,.slice z2.a z2.n z2.c,.slice z2.b z2.m z2.d]/\Below w.heap.size w W/\Kp (fun V=>PK (k+k+1) V (z1,z2) u) w1.heap.size w2.heap.size W) ⟨by ((with_reducible repeat first|assumption|(apply bF;focus omega)|apply bS|(apply bN;focus (simp;done))|apply bA|apply bD);all_goals rfl),by ((with_reducible repeat first|assumption|(apply bF;focus omega)|apply bS|(apply bN;focus (simp;done))|apply bA|apply bD);all_goals rfl),by ((with_reducible repeat first|assumption|(apply bF;focus omega)|apply bS|(apply bN;focus (simp;done))|apply bA|apply bD);all_goals rfl),by ((with_reducible repeat first|assumption|(apply bF;focus omega)|apply bS|(apply bN;focus (simp;done))|apply bA|apply bD);all_goals rfl),by go_grown,by (with_reducible repeat first | exact K1.out | (refine Kp.setc ?_ ?_;focus omega) | refine Kp.alloc ?_ | refine Kp.drew ?_)⟩ ?_
 rintro w3 ⟨hp3,hx3,hz3,hv3,hw3,K3⟩;obtain ⟨gv,hgv⟩:∃ g,w2.heap.size=g:=⟨_,rfl⟩
 rw [hgv] at hv3 K3 ⊢;replace hgv:=Hd hgv;have hs3:=hw3.size;have hls:=hz3.lt;clear hp' hx hz lp lx lz hw2 K1;have p0:=held (hp3.cell 0);have p1':=held (hp3.cell 1);have p2':=held (hp3.cell 2);have p3:=held (hp3.cell 3);have p4:=held (hp3.cell 4);have p5:=held (hp3.cell 5);have x0:=held (hx3.cell 0);have x1':=held (hx3.cell 1);have x2':=held (hx3.cell 2);have x3:=held (hx3.cell 3);have x4:=held (hx3.cell 4);have x5:=held (hx3.cell 5);have v0:=held (hv3.cell 0);have v1:=held (hv3.cell 1);have v2:=held (hv3.cell 2);have v3:=held (hv3.cell 3);have v4:=held (hv3.cell 4);have v5:=held (hv3.cell 5);have s0:Below w3.heap.size w3 w3.drew:=brf.drew;replace K3:=Hd K3;refine wrx (S:=Below w3.heap.size w3) [(0,.q),(1,.q),(2,.q),(3,.q),(4,.q),(7,.q),(5,.l),(6,.l),(8,.l),(9,.l),(10,.l),(11,.t),(12,.t),(13,.p)] (s0) ?_
 iterate 6 (refine qam rfl rfl fun K hK=>xq ?_;go_simp;refine hK _ _ ?_;clear hK K)
 refine qaj rfl rfl (fun K hK=>?_);go_simp;refine (CW.out _ (bth hw3 s0)).mono ?_;rintro r w4 ⟨⟨t1,t2⟩,rfl,K4,hb4⟩;dsimp only;refine hK.out _ _ (bth s0 hb4) (fun _=>?_);clear hK K;have s4:=bth s0 hb4;replace K4:=Hd K4;refine qaj rfl rfl (fun K hK=>?_);go_simp;refine (dot_p z1 z2 t1 t2 u v (k+k+1) _ (K3.out.call s4).now.1 (K3.out.call s4).now.2 K4.out.now.1 K4.out.now.2 (by omega)).mono ?_;rintro r w5 ⟨t3,rfl,K5,hb5⟩;dsimp only;refine hK.out _ _ (bth s4 hb5) (fun _=>?_);clear hK K;have s5:=bth s4 hb5;replace K5:=Hd K5;refine qaj rfl rfl (fun K hK=>?_);go_simp;refine (qtw z1 z2 u (k+k+1) _ (K3.out.call s5).now.1 (K3.out.call s5).now.2 (by omega)).mono ?_;rintro r w6 ⟨t4,rfl,K6,hb6⟩;dsimp only;refine hK.out _ _ (bth s5 hb6) (fun _=>?_);clear hK K;have s6:=bth s5 hb6;replace K6:=Hd K6;refine qaj rfl rfl (fun K hK=>?_);go_simp
 refine (qwl t3 t4 (dotQ u v) (dotQ u u) _ _ _ (K5.out.call hb6).now K6.out.now (by omega) (by omega) hn.out).mono ?_;rintro r w7 ⟨t5,rfl,K7,hb7⟩;dsimp only;refine hK.out _ _ (bth s6 hb7) (fun _=>?_);clear hK K;have s7:=bth s6 hb7;replace K7:=Hd K7;refine qaj rfl rfl (fun K hK=>?_);go_simp;refine (qv0 z1 z2 t5 u (dotQ u v / dotQ u u) 1700 _ (QK.more (K3.out.call s7).now.1 (by omega)) (QK.more (K3.out.call s7).now.2 (by omega)) (QK.more K7.out.now (by omega)) (by omega)).mono ?_;rintro r w8 ⟨⟨t6,t7⟩,rfl,K8,hb8⟩;dsimp only;refine hK.out _ _ (bth s7 hb8) (fun _=>?_);clear hK K;have s8:=bth s7 hb8;replace K8:=Hd K8;refine qah rfl rfl (fun K hK=>?_);go_simp;refine (qwh x1 x2 t6 t7 a (qgp u (dotQ u v / dotQ u u)) 3500 _ (R1.out _ (bth hw3 s8)) (R2.out _ (bth hw3 s8)) (QK.more K8.out.now.1 (by omega)) (QK.more K8.out.now.2 (by omega)) (by omega)).mono ?_;rintro r w9 ⟨⟨t8,t9⟩,rfl,K9,hb9⟩
 dsimp only;refine hK.out _ _ ?_;clear hK K;have s9:=bth s8 hb9;replace K9:=Hd K9;have hz:=hz3.below' s9;have hw9:=bth hw3 s9;have hs8:=(bth hw3 s8).size;clear p0 p1' p2' p3 p4 p5 x0 x1' x2' x3 x4 x5 v0 v1 v2 v3 v4 v5;obtain ⟨q0,q1,q2,q3,q4,q5⟩:=cq6 hz;obtain ⟨f0,f1,f2,f3,f4,f5⟩:=fq6 hz;have hgl8:gz<w8.heap.size:=by have:=s8.size;omega
 refine qah rfl rfl (fun K hK=>?_);go_simp;refine hK.out _ _ ?_;clear hK K
 iterate 1 (refine qav rfl rfl fun K hK=>xp ?_;go_simp;refine hK _ _ ?_;clear hK K)
 refine qak ?_;go_wp2;refine qab (fun W=>Blk W gz 69 #[.bool t8.neg,.slice t8.a t8.n t8.c,.slice t8.b t8.m t8.d,.bool t9.neg,.slice t9.a t9.n t9.c,.slice t9.b t9.m t9.d]/\Below w.heap.size w W/\Kp (fun V=>PK (3500+3500+1) V (t8,t9) (plusQ a (qgp u (dotQ u v / dotQ u u)))) w8.heap.size w9.heap.size W) ⟨Blk.set6 hz,by go_grown,by (with_reducible repeat first | exact K9.out | (refine Kp.setc ?_ ?_;focus omega) | refine Kp.alloc ?_ | refine Kp.drew ?_)⟩ ?_;rintro wF ⟨hF,hwF,KF⟩;obtain ⟨e0,e1,e2,e3,e4,e5⟩:=cq6 hF;refine bodyPost_ret (v:=.tuple #[.agg #[.bool t8.neg,.slice t8.a t8.n t8.c,.slice t8.b t8.m t8.d,.bool t9.neg,.slice t9.a t9.n t9.c,.slice t9.b t9.m t9.d],.int .i64 0]) (by simp [results,Tryz.results52,go_sem,e0,e1,e2,e3,e4,e5]) rfl ?_;exact ⟨(t8,t9),rfl,Kp.made ((KF.imp fun _ h=>⟨QK.more h.1 (by omega),QK.more h.2 (by omega)⟩).fin hs8),hwF⟩
structure Fr (Y : Nat -> Prop) (w w' : World) : Prop where
 os:w'.os=w.os
 tape:w'.tape=w.tape
 output:w'.output=w.output
 size:w.heap.size<=w'.heap.size
 block:∀ k,k<w.heap.size->¬ Y k->w'.heap[k]? = w.heap[k]?
section
variable {Y Z : Nat -> Prop} {w w' w'' : World}
theorem Fr.refl (Y:Nat->Prop) (w:World):Fr Y w w:=⟨rfl,rfl,rfl,nlr _,fun _ _ _=>rfl⟩
theorem Fr.trans (h:Fr Y w w') (k:Fr Y w' w''):Fr Y w w'':=⟨k.os.trans h.os,k.tape.trans h.tape,k.output.trans h.output,Nat.le_trans h.size k.size,fun n h1 h2=>(k.block n (ltl h1 h.size) h2).trans (h.block n h1 h2)⟩
theorem Fr.then_ (h:Fr Y w w') (k:Fr Z w' w'') (e:∀ b,Z b->Y b\/w.heap.size<=b):Fr Y w w'':=⟨k.os.trans h.os,k.tape.trans h.tape,k.output.trans h.output,Nat.le_trans h.size k.size,fun n h1 h2=>(k.block n (ltl h1 h.size) (fun hz=>(e n hz).elim h2 (fun h=>by omega))).trans (h.block n h1 h2)⟩
theorem Fr.mono (h:Fr Y w w') (e:∀ b,Y b->Z b):Fr Z w w':=⟨h.os,h.tape,h.output,h.size,fun k h1 h2=>h.block k h1 fun hy=>h2 (e _ hy)⟩
theorem Fr.below (h:Below w.heap.size w w'):Fr Y w w':=⟨h.os,h.tape,h.output,h.size,fun k hk _=>h.block k hk⟩
theorem Fr.call (h:Fr Y w w') (k:Below w'.heap.size w' w''):Fr Y w w'':=h.trans (Fr.below k)
theorem Fr.alloc (h:Fr Y w w') (o:Obj):Fr Y w (w'.alloc o):=h.call (brf.alloc (nlr _) _)
theorem Fr.setc (h:Fr Y w w') {g i:Nat} {u:Value} (hg:Y g\/w.heap.size<=g):Fr Y w (w'.setCell ⟨g,i,none⟩ u):=⟨h.os,h.tape,h.output,by have:=h.size;simpa [World.setCell] using this,fun k h1 h2 =>
 (Below.heap_setCell _ _ _ _ (fun e=>by simp at e;subst e;exact hg.elim h2 (fun h=>by omega))).trans (h.block k h1 h2)⟩
theorem Fr.grown (h:Fr Y w w') {a:Option Addr} {n c:Nat} (hg:w'.grownBy w'' (Value.ownBlock (.slice a n c))) (ha:∀ g,a=some g->Y g.block\/w.heap.size<=g.block):Fr Y w w'':=⟨hg.os.trans h.os,hg.tape.trans h.tape,hg.output.trans h.output,Nat.le_trans h.size hg.size,fun k h1 h2 =>
 (hg.block k (ltl h1 h.size) (fun e=>by
  cases a with
  | none=>simp [Value.ownBlock] at e
  | some g=>simp [Value.ownBlock] at e;subst e;exact (ha g rfl).elim h2 (fun h=>by omega))).trans (h.block k h1 h2)⟩
theorem Fr.agr (h:Fr Y w w'):Agr Y w w':=fun p v hp hc=>by
 have:=h.block p.block (World.block_lt_of_cell? w p hc) hp;rw [<- hc];unfold World.cell?;rw [this]
theorem Blk.fr {g:Nat} {t:TypeId} {cs:Array Value} (h:Blk w g t cs) (k:Fr Y w w') (hg:¬ Y g):Blk w' g t cs:=(k.block g h.lt hg).trans h
theorem Below.fr {B:Nat} {W0:World} (h:Below B W0 w) (k:Fr Y w w') (hY:∀ b,Y b->B<=b) (hB:B<=w.heap.size):Below B W0 w' :=
 ⟨k.os.trans h.os,k.tape.trans h.tape,k.output.trans h.output,Nat.le_trans h.size k.size,fun n hn=>(k.block n (by omega) (fun hy=>by have:=hY n hy;omega)).trans (h.block n hn)⟩
end
theorem Rd.move {Y Z:Nat->Prop} {w w':World} {R:World->Prop} (h:Rd Y w R) (e:∀ b,Z b->Y b\/w.heap.size<=b) (k:Fr Y w w'):Rd Z w' R:=fun V hV =>
 (((h.more (Y:=fun b=>Y b\/Z b) fun b hb=>hb.elim .inl (e b)).step (k.agr.mono fun b hb=>.inl hb)).less (fun b hb=>.inr hb):Rd Z w' R) V hV
theorem qwy (ts:TypeId) (hu:Tryz.prog.underlying ts=some (.slice 191)) (n:Nat) (hn:n<=1000000) (w:World) :
  ∃ cur:Array Value,cur.size=n*4/\(Instr.makeSlice ts (.int .i64 0) (.int .i64 (n:Int))).run Tryz.prog w=.ok (.slice (some ⟨w.heap.size,0,none⟩) 0 n) (w.alloc (.cells cur 191)):=by
 obtain ⟨i,hi,hz,hsz,hby⟩:=info_parts qeu;have:=run_makeSlice (w:=w) ts 191 i _ hu hi hz .i64 .i64 0 n (by omega) (by omega) (by rw [hsz];simp;omega) (by rw [hby];omega) (by omega);rw [hsz] at this;simp only [Int.toNat_zero,Int.toNat_natCast] at this;exact ⟨_,size_madeCells _ _,this⟩
theorem qkg {p q:List Tm} (h:p=[]\/q=[]):addP p q=p++q:=by
 rcases h with rfl | rfl
 · rw [qdi];rfl
 · rw [qes];simp
theorem qe1 {α:Type} {l:List α} {k:Nat} {x:α} (h:l[k]? = some x):l.drop k=x :: l.drop (k+1):=by
 rw [List.drop_eq_getElem_cons (qaw h)];rw [List.getElem?_eq_getElem (qaw h)] at h;injection h with h
 rw [h]
theorem PolX.rest {X:Nat->Prop} {w:World} {a:Option Addr} {c:Nat} {p:List Tm} (h:PolX X w a c p) (k:Nat) :
  ∃ l:List TQ,p.length-k=l.length/\AllT X w l (p.drop k)/\Rd X w (RowT (if c=k then a else a.map (·.add (k*4))) (c-k) l):=by
 obtain ⟨l,h1,h2⟩:=h;refine ⟨l.drop k,by rw [List.length_drop,h2.1],h2.drop k,h1.imp fun V hR=>?_⟩;refine ⟨by have:=hR.1;rw [List.length_drop];omega,by have:=hR.2.1;omega,fun j t ht=>?_⟩;rw [List.getElem?_drop] at ht;obtain ⟨b,off,rfl,hA⟩:=hR.2.2 (k+j) t ht;have hlt:=qaw ht;have hc:=hR.1;rw [if_neg (by omega)];refine ⟨b,off+k*4,by rw [Option.map_some,Addr.add_lit],?_⟩
 rwa [show off+k*4+j*4=off+(k+j)*4 by omega]
theorem AllT.appN {X:Nat->Prop} {w w':World} {a a':Option Addr} {c n:Nat} {p:List Tm} {m lo:List TQ} (h:AllT (Xr X a) w lo p) (hg:w.grownBy w' (Value.ownBlock (.slice a n c))) (ha:m=[]/\a'=a/\w'=w\/∃ g,a'=some ⟨g,0,none⟩/\(a=some ⟨g,0,none⟩\/g=w.heap.size)):AllT (Xr X a') w' lo p:=by
 rcases ha with ⟨_,rfl,rfl⟩ | ha
 · exact h
 · exact h.app hg ha
theorem qmq (ts:TypeId) (hu:Tryz.prog.underlying ts=some (.slice 191)) (a:Option Addr) (n c i:Nat) (hi:i<=n) (w:World) :
  (Instr.slice ts (.slice a n c) (some (.int .i64 (i:Int))) none none).run Tryz.prog w=.ok (.slice (if c=i then a else a.map (·.add (i*4))) (n-i) (c-i)) w:=by
 obtain ⟨d,hd,hz,hsz,hby⟩:=info_parts qeu;have he:Tryz.prog.elem ts=191:=by unfold Program.elem;rw [hu]
 have:=run_slice_l (P:=Tryz.prog) (w:=w) ts a n c (by rw [hu,he]) .i64 i (by omega) (by omega);rw [this,he];simp [sizeOf,typeInfo,hd,hsz,sliced]
theorem qg5 {X:Nat->Prop} {wr w4 w5 w6:World} {ra ra2:Option Addr} {rc n:Nat} {lo:List TQ} {po:List Tm} {s:TQ} {u:Tm} (hA:AllT (Xr X ra) wr lo po) (hb4:Below wr.heap.size wr w4) (h5:Below w4.heap.size w4 w5)
  (hsR:Rd (Xr X ra) w5 (s.R u)) (hg:w5.grownBy w6 (Value.ownBlock (.slice ra n rc))) (ha:∃ g,ra2=some ⟨g,0,none⟩/\(ra=some ⟨g,0,none⟩\/g=w5.heap.size)):AllT (Xr X ra2) w6 (lo++[s]) (po++[u]) :=
 (((hA.call hb4).call h5).append (AllT.one hsR)).app hg ha
theorem qdy {X:Nat->Prop} {w wr:World} {ra:Option Addr} {R:World->Prop} (h:Rd X w R) (ha:∀ g,ra=some g->w.heap.size<=g.block) (hb:Below w.heap.size w wr):Rd (Xr X ra) wr R:=(h.row ha).call hb
theorem qwv {X:Nat->Prop} {ra:Option Addr} {W:World} {x:QA} {q:Rat} {B T:Nat} {s:TQ} {u:Tm} (h:Kp (fun V=>QK 2001 V x q) B T W) (hX:∀ b,Xr X ra b->b<B) (hs:Rd (Xr X ra) W (s.R u)):Rd (Xr X ra) W (TQ.R ⟨x,s.n,s.a,s.c⟩ (q,u.2)) :=
 ((Rd.kp h fun b hb=>.inl (hX b hb)).and hs).imp fun _ ⟨h1,h2⟩=>⟨h1.1,h2.2.1,h2.2.2⟩
theorem Xr_lt {X:Nat->Prop} {w wr:World} {ra:Option Addr} {rc:Nat} {lo:List TQ} (hX:∀ b,X b->b<w.heap.size) (ho:OwnT w.heap.size wr ra rc lo) (hb:w.heap.size<=wr.heap.size):∀ b,Xr X ra b->b<wr.heap.size:=fun b h=>by
 rcases h with h | ⟨g,hg,rfl⟩
 · have:=hX b h;omega
 · exact (ho.lt hg).2
theorem zz28 {P:Prop} (h:P:=by
 rw [<- hge] at hg ⊢;clear hge;obtain ⟨sn,hsn⟩:∃ sn:TQ,sn=⟨x,s.n,s.a,s.c⟩:=⟨_,rfl⟩
 have hRS:Rd (Xr X ra) wz (sn.R (u.1+v.1,u.2)):=by rw [hsn];exact qwv HK (fun b hb=>by have:=hlx.out b hb;have:=s4.size;omega) ((hsr.out.call s4).call sz)
 have z0:wz.cell? ⟨g,0,none⟩=some (.bool sn.x.neg):=by rw [hsn];exact hg.cell 0
 have z1:wz.cell? ⟨g,1,none⟩=some (.slice sn.x.a sn.x.n sn.x.c):=by rw [hsn];exact hg.cell 1
 have z2:wz.cell? ⟨g,2,none⟩=some (.slice sn.x.b sn.x.m sn.x.d):=by rw [hsn];exact hg.cell 2
 have z3:wz.cell? ⟨g,3,none⟩=some (.slice sn.a sn.n sn.c):=by rw [hsn];exact hg.cell 3
 have hgl:=hg.lt;replace hRS:=Hd hRS;replace hL0:=hL0.out;obtain ⟨nb,hnb⟩:∃ nb:Bool,(!decide (u.1+v.1=0))=nb:=⟨_,rfl⟩
 rw [hnb];clear hg HK hb5 s5 s0 j0 j1 j2 j3 n0 n1 n2 n3 CA hsn hL g1 g2
 cases nb
 ·
  have hz:u.1+v.1=0:=by simpa using hnb
  have ho3:=ho2.out;rw [qfa hL0 hz] at ho3;replace ho3:=Hd ho3;have hA6:=hA.out.call (bth s4 sz);have ho6:=ho.out.below (bth s4 sz);have hwo6:=bth hwr (bth s4 sz);replace ho6:=Hd ho6;replace hA6:=Hd hA6;clear z0 z1 z2 z3 hRS ho2 hnb hz hL0;go_wp2;go_roundg (gk-2)
  case rel=>exact ⟨i+1,k+1,lo,po,ra,rc,by have:=hm.out;show _=_;omega,by omega,by omega,rfl,by go_num,by go_num,ho6.out,hA6.out,hwo6,ho3.out,by have:=hll.out;show _<=_;omega⟩
  case measure=>have:=hm.out;omega
 ·
  have hz:¬ (u.1+v.1=0):=by simpa using hnb
  have ho3:=ho2.out;rw [qg8 hL0 hz] at ho3;replace ho3:=Hd ho3;have szz:=bth s4 sz;clear ho2 hnb hz hL0
  -- the element is copied
  have hb5:Below wz.heap.size wz (wz.alloc (.cells #[.bool sn.x.neg,.slice sn.x.a sn.x.n sn.x.c,.slice sn.x.b sn.x.m sn.x.d,.slice sn.a sn.n sn.c] 191)):=by go_grown
  have howc:=((ho.out.below szz).alloc (.cells #[.bool sn.x.neg,.slice sn.x.a sn.x.n sn.x.c,.slice sn.x.b sn.x.m sn.x.d,.slice sn.a sn.n sn.c] 191))
  have hel:TQ.At sn (wz.alloc (.cells #[.bool sn.x.neg,.slice sn.x.a sn.x.n sn.x.c,.slice sn.x.b sn.x.m sn.x.d,.slice sn.a sn.n sn.c] 191)) wz.heap.size 0:=⟨(Blk.new wz 191 #[.bool sn.x.neg,.slice sn.x.a sn.x.n sn.x.c,.slice sn.x.b sn.x.m sn.x.d,.slice sn.a sn.n sn.c]).cell 0,(Blk.new wz 191 #[.bool sn.x.neg,.slice sn.x.a sn.x.n sn.x.c,.slice sn.x.b sn.x.m sn.x.d,.slice sn.a sn.n sn.c]).cell 1,(Blk.new wz 191 #[.bool sn.x.neg,.slice sn.x.a sn.x.n sn.x.c,.slice sn.x.b sn.x.m sn.x.d,.slice sn.a sn.n sn.c]).cell 2,(Blk.new wz 191 #[.bool sn.x.neg,.slice sn.x.a sn.x.n sn.x.c,.slice sn.x.b sn.x.m sn.x.d,.slice sn.a sn.n sn.c]).cell 3⟩
  have hwo4:=bth hwr (bth szz hb5);replace howc:=Hd howc;replace hel:=Hd hel;go_wp2_with (at_builtin;go_must (refine qgg (B:=wo.heap.size) rfl (.tmp 55) (.tmp 57) 91 rfl Tryz.underlying91 ra rc rfl howc.out sn wz.heap.size 1 rfl hel.out (lo++[sn]) rfl (by have:=hll.out;simp;omega) (by have:=hwo4.size;simpa using this) ?_);intro ra2 rc2 w6 ho6 hg6 ha6);have hA6:=qg5 hA.out szz hb5 (hRS.out.call hb5) hg6 ha6;have hwo6:Below wo.heap.size wo w6:=qaq hwo4 howc.out hg6;replace ho6:=Hd ho6;replace hA6:=Hd hA6;clear hg6 ha6 howc hel hb5 hwo4;go_wp2;go_roundg (gk-2)
  case rel=>exact ⟨i+1,k+1,lo++[_],po++[_],ra2,rc2,by have:=hm.out;show _=_;omega,by omega,by omega,by simp,by go_num,by go_num,ho6.out,hA6.out,hwo6,by rw [<- ho3.out];show _=_;simp,by have:=hll.out;show _<=_;simp;omega⟩
  case measure=>have:=hm.out;omega
 ):P:=h
theorem zz29 {P:Prop} (h:P:=by
 replace ho3:=Hd ho3;clear hout;obtain ⟨l1,hn1,hA1,hR1⟩:=HP.out.rest i;obtain ⟨l2,hn2,hA2,hR2⟩:=HQ.out.rest k;have hs1:=fun W=>qmq 91 Tryz.underlying91 a p.length ca i hi W
 have hs2:=fun W=>qmq 91 Tryz.underlying91 b q.length cb k hk W
 rw [hn1] at hs1;rw [hn2] at hs2;obtain ⟨a1,ha1⟩:∃ x,(if ca=i then a else a.map (·.add (i*4)))=x:=⟨_,rfl⟩
 obtain ⟨a2,ha2⟩:∃ x,(if cb=k then b else b.map (·.add (k*4)))=x:=⟨_,rfl⟩
 obtain ⟨c1,hc1⟩:∃ x,ca-i=x:=⟨_,rfl⟩
 obtain ⟨c2,hc2⟩:∃ x,cb-k=x:=⟨_,rfl⟩
 rw [ha1,hc1] at hs1 hR1;rw [ha2,hc2] at hs2 hR2;have hB1:=qdy hR1 hro.out hwr;have hlen1:(lo++l1).length<=16777216:=by have:=hll.out;rw [List.length_append,<- hn1];omega
 have hlen2:(lo++l1++l2).length<=16777216:=by have:=hll.out;rw [List.length_append,List.length_append,<- hn1,<- hn2];omega
 have hAA:AllT X wo (l1++l2) (p.drop i++q.drop k):=hA1.append hA2;have hAr:=(hA.out.append (hA1.map (Y:=Xr X ra) (w':=wr) fun _ _ h=>qdy h hro.out hwr))
 replace hn1:=Hd hn1;replace hn2:=Hd hn2;replace hA1:=Hd hA1;replace hA2:=Hd hA2;replace hR1:=Hd hR1;replace hR2:=Hd hR2;replace hB1:=Hd hB1;replace hlen1:=Hd hlen1;replace hlen2:=Hd hlen2;replace hAA:=Hd hAA;replace hAr:=Hd hAr;clear ha1 ha2 hc1 hc2;obtain ⟨lx,hlx⟩:∃ lx,lx=lo++l1:=⟨_,rfl⟩
 obtain ⟨ly,hly⟩:∃ ly,ly=lo++l1++l2:=⟨_,rfl⟩
 rw [<- hly] at hlen2;rw [<- hlx] at hlen1 hAr hly;replace hlx:=Hd hlx;replace hly:=Hd hly;go_wp2_with (first
  | (at_builtin
     refine qiz (B:=wo.heap.size) rfl (.tmp 87) (.tmp 90) 91 rfl Tryz.underlying91 ra rc rfl ho.out l1 a1 _ c1 rfl rfl hB1.out.now lx hlx.out hlen1.out hwr.size ?_;intro ra2 rc2 w5 ho5 hg5 ha5;have hA5:=AllT.appN hAr.out hg5 ha5;have hw5:=qaq hwr ho.out hg5;have hB2:=qdy (ra:=ra2) hR2.out (fun g hg=>(ho5.lt hg).1) hw5;replace hA5:=Hd hA5;replace ho5:=Hd ho5;replace hB2:=Hd hB2;clear hg5 ha5)
  | (at_builtin
     go_must (refine qiz (B:=wo.heap.size) rfl (.tmp 92) (.tmp 95) 91 rfl Tryz.underlying91 ra2 rc2 rfl ho5.out l2 a2 _ c2 rfl rfl hB2.out.now ly hly.out hlen2.out hw5.size ?_)
     intro ra3 rc3 w6 ho6 hg6 ha6))
 have hA6:=AllT.appN (hA5.out.append (hA2.out.map (Y:=Xr X ra2) (w':=w5) fun _ _ h=>qdy h (fun g hg=>(ho5.out.lt hg).1) hw5)) hg6 ha6;have hw6:=qaq hw5 ho5.out hg6;rw [<- hly.out] at hA6;have hP6:=ho6.pol hA6 HX.out;have hRl:ly.length=R.length:=by rw [hA6.1,<- ho3.out];simp
 go_ret;refine ⟨ra3,rc3,by rw [hRl];rfl,?_,hw6⟩;rw [<- ho3.out,<- List.append_assoc];exact hP6
 ):P:=h
theorem qvl (X:Nat->Prop) (p q:List Tm) (a b:Option Addr) (ca cb:Nat) (w:World) (hX:∀ b,X b->b<w.heap.size) (hp:PolX X w a ca p) (hq:PolX X w b cb q) (fp:FineP p) (fq:FineP q) :
  Calls Tryz.prog 168 #[.slice a p.length ca,.slice b q.length cb,.func (Fn.func 169) #[] #[],.func (Fn.func 170) #[] #[]] w (RetP X (addP p q) w):=by
 have lp:=hp.len;have lq:=hq.len;have l1:=fp.1;have l2:=fq.1;obtain ⟨cur,hcs,hmk⟩:=qwy 91 Tryz.underlying91 (p.length+q.length) (by omega) w;have how:OwnT w.heap.size (w.alloc (.cells cur 191)) (some ⟨w.heap.size,0,none⟩) (p.length+q.length) []:=World.ownsRow_made w cur _ (nlr _) (by unfold maxLen;omega) hcs;have hb0:Below w.heap.size w (w.alloc (.cells cur 191)):=by go_grown
 rw [Int.natCast_add] at hmk;obtain ⟨R,hR⟩:∃ R,addP p q=R:=⟨_,rfl⟩
 rw [hR];have HP:=Hd hp;have HQ:=Hd hq;have FP:=Hd fp.2;have FQ:=Hd fq.2;have HX:=Hd hX;have HR:=Hd hR;replace how:=Hd how;clear hp hq fp fq hX hR hcs;go_enter Tryz.func168,Tryz.ntmps168;go_wp2;obtain ⟨wo,rfl⟩:∃ wo:World,wo=w:=⟨_,rfl⟩
 go_loopg [9,10,11,12,13,14] (p.length+q.length) (fun m o qi qk _ _ _ wr=>∃ (i k:Nat) (lo:List TQ) (po:List Tm) (ra:Option Addr) (rc:Nat),Hid (i+k+m=p.length+q.length)/\i<=p.length/\k<=q.length/\o=.slice ra lo.length rc/\qi=.int .i64 i/\qk=.int .i64 k/\Hid (OwnT wo.heap.size wr ra rc lo)/\Hid (AllT (Xr X ra) wr lo po)/\Below wo.heap.size wo wr/\Hid (po++addP (p.drop i) (q.drop k)=R)/\Hid (lo.length<=i+k))
 case atStart=>exact ⟨0,0,[],[],some ⟨wo.heap.size,0,none⟩,p.length+q.length,by show _=_;omega,by omega,by omega,rfl,rfl,rfl,how.out,AllT.nil,hb0,HR.out,nlr _⟩
 case round =>
  clear hmk how hb0;obtain ⟨i,k,lo,po,ra,rc,hm,hi,hk,rfl,rfl,rfl,ho,hA,hwr,hout,hll⟩:=hrel;have hro:Hid (∀ g,ra=some g->wo.heap.size<=g.block):=Hd fun g hg=>(ho.out.lt hg).1
  by_cases h1:i<p.length
  ·
   by_cases h2:k<q.length
   ·
    obtain ⟨u,hu⟩:=qac h1;obtain ⟨v,hv⟩:=qac h2;obtain ⟨b1,o1,s,rfl,hs,hsR⟩:=HP.out.get hu;obtain ⟨b2,o2,t,rfl,ht,htR⟩:=HQ.out.get hv;have fu:=FP.out u (List.mem_of_getElem? hu);have fv:=FQ.out v (List.mem_of_getElem? hv);have ho2:=hout.out;rw [qe1 hu,qe1 hv] at ho2;have hdp:=Hd (qe1 hu);have hdq:=Hd (qe1 hv);have hsr:=qdy hsR hro.out hwr;have htr:=qdy htR hro.out hwr;have CL:=fun W (hW:Below wr.heap.size wr W)=>qtr s t u.2 v.2 W ((hsR.call (bth hwr hW)).now.2.1) ((htR.call (bth hwr hW)).now.2.1) (hsR.now.2.2) (htR.now.2.2)
    have CA:=fun W (hW:Below wr.heap.size wr W)=>qvn s t u.1 v.1 W ((hsR.call (bth hwr hW)).now.qk fu) ((htR.call (bth hwr hW)).now.qk fv)
    obtain ⟨c0,c1,c2,c3⟩:=hs;obtain ⟨d0,d1,d2,d3⟩:=ht;have k0:=held (held c0 wr hwr);have k1:=held (held c1 wr hwr);have k2:=held (held c2 wr hwr);have k3:=held (held c3 wr hwr);have y0:=held (held d0 wr hwr);have y1:=held (held d1 wr hwr);have y2:=held (held d2 wr hwr);have y3:=held (held d3 wr hwr);have s0:Below wr.heap.size wr wr.drew:=brf.drew;obtain ⟨L,hL⟩:∃ L,lexI u.2 v.2=L:=⟨_,rfl⟩
    rw [hL] at CL;replace hL:=Hd hL;replace CL:=Hd CL;replace CA:=Hd CA;replace hsR:=Hd hsR;replace htR:=Hd htR;replace fu:=Hd fu;replace fv:=Hd fv;replace ho2:=Hd ho2;replace hsr:=Hd hsr;replace htr:=Hd htr;clear hu hv c0 c1 c2 c3 d0 d1 d2 d3 hout;go_wp2;refine wrx (S:=Below wr.heap.size wr) [(0,.q),(1,.q),(2,.q),(3,.q),(4,.q),(5,.q),(6,.q),(7,.q),(8,.q),(9,.t),(10,.p)] (s0) ?_
    iterate 9 (refine qam rfl rfl fun K hK=>xq ?_;go_simp;refine hK _ _ ?_;clear hK K)
    refine qah rfl rfl (fun K hK=>?_);go_simp;refine (CL.out _ s0).mono ?_;rintro r w4 ⟨rfl,hb4⟩;dsimp only;refine hK.out _ _ ?_;clear hK K
    iterate 1 (refine qav rfl rfl fun K hK=>xp ?_;go_simp;refine hK _ _ ?_;clear hK K)
    refine qak ?_;have s4:=bth s0 hb4;clear hb4 s0;have e0:=k0 w4 s4;have e1:=k1 w4 s4;have e2:=k2 w4 s4;have e3:=k3 w4 s4;have f0:=y0 w4 s4;have f1:=y1 w4 s4;have f2:=y2 w4 s4;have f3:=y3 w4 s4;clear k0 k1 k2 k3 y0 y1 y2 y3;by_cases g1:0<L
    ·
     have ho3:=ho2.out;rw [qg9 (by rw [hL.out];exact g1)] at ho3;replace ho3:=Hd ho3;clear CA CL hsR htR fu fv htr ho2
     -- the element is copied
     have hb5:Below w4.heap.size w4 (w4.alloc (.cells #[.bool s.x.neg,.slice s.x.a s.x.n s.x.c,.slice s.x.b s.x.m s.x.d,.slice s.a s.n s.c] 191)):=by go_grown
     have howc:=((ho.out.below s4).alloc (.cells #[.bool s.x.neg,.slice s.x.a s.x.n s.x.c,.slice s.x.b s.x.m s.x.d,.slice s.a s.n s.c] 191))
     have hel:TQ.At s (w4.alloc (.cells #[.bool s.x.neg,.slice s.x.a s.x.n s.x.c,.slice s.x.b s.x.m s.x.d,.slice s.a s.n s.c] 191)) w4.heap.size 0:=⟨(Blk.new w4 191 #[.bool s.x.neg,.slice s.x.a s.x.n s.x.c,.slice s.x.b s.x.m s.x.d,.slice s.a s.n s.c]).cell 0,(Blk.new w4 191 #[.bool s.x.neg,.slice s.x.a s.x.n s.x.c,.slice s.x.b s.x.m s.x.d,.slice s.a s.n s.c]).cell 1,(Blk.new w4 191 #[.bool s.x.neg,.slice s.x.a s.x.n s.x.c,.slice s.x.b s.x.m s.x.d,.slice s.a s.n s.c]).cell 2,(Blk.new w4 191 #[.bool s.x.neg,.slice s.x.a s.x.n s.x.c,.slice s.x.b s.x.m s.x.d,.slice s.a s.n s.c]).cell 3⟩
     have hwo4:=bth hwr (bth s4 hb5);replace howc:=Hd howc;replace hel:=Hd hel;go_wp2_with (at_builtin;go_must (refine qgg (B:=wo.heap.size) rfl (.tmp 66) (.tmp 71) 91 rfl Tryz.underlying91 ra rc rfl howc.out s w4.heap.size 1 rfl hel.out (lo++[s]) rfl (by have:=hll.out;simp;omega) (by have:=hwo4.size;simpa using this) ?_);intro ra2 rc2 w6 ho6 hg6 ha6);have hA6:=qg5 hA.out s4 hb5 ((hsr.out.call s4).call hb5) hg6 ha6;have hwo6:Below wo.heap.size wo w6:=qaq hwo4 howc.out hg6;replace ho6:=Hd ho6;replace hA6:=Hd hA6;clear hg6 ha6 howc hel hb5 hwo4;go_wp2;go_roundg (gk-1)
     case rel=>exact ⟨i+1,k,lo++[s],po++[u],ra2,rc2,by have:=hm.out;show _=_;omega,by omega,by omega,by simp,by go_num,rfl,ho6.out,hA6.out,hwo6,by rw [<- ho3.out,hdq.out];show _=_;simp,by have:=hll.out;show _<=_;simp;omega⟩
     case measure=>have:=hm.out;omega
    ·
     by_cases g2:L<0
     ·
      have ho3:=ho2.out;rw [qg7 (by rw [hL.out];exact g2)] at ho3;replace ho3:=Hd ho3;clear CA CL hsR htR fu fv hsr ho2
      -- the element is copied
      have hb5:Below w4.heap.size w4 (w4.alloc (.cells #[.bool t.x.neg,.slice t.x.a t.x.n t.x.c,.slice t.x.b t.x.m t.x.d,.slice t.a t.n t.c] 191)):=by go_grown
      have howc:=((ho.out.below s4).alloc (.cells #[.bool t.x.neg,.slice t.x.a t.x.n t.x.c,.slice t.x.b t.x.m t.x.d,.slice t.a t.n t.c] 191))
      have hel:TQ.At t (w4.alloc (.cells #[.bool t.x.neg,.slice t.x.a t.x.n t.x.c,.slice t.x.b t.x.m t.x.d,.slice t.a t.n t.c] 191)) w4.heap.size 0:=⟨(Blk.new w4 191 #[.bool t.x.neg,.slice t.x.a t.x.n t.x.c,.slice t.x.b t.x.m t.x.d,.slice t.a t.n t.c]).cell 0,(Blk.new w4 191 #[.bool t.x.neg,.slice t.x.a t.x.n t.x.c,.slice t.x.b t.x.m t.x.d,.slice t.a t.n t.c]).cell 1,(Blk.new w4 191 #[.bool t.x.neg,.slice t.x.a t.x.n t.x.c,.slice t.x.b t.x.m t.x.d,.slice t.a t.n t.c]).cell 2,(Blk.new w4 191 #[.bool t.x.neg,.slice t.x.a t.x.n t.x.c,.slice t.x.b t.x.m t.x.d,.slice t.a t.n t.c]).cell 3⟩
      have hwo4:=bth hwr (bth s4 hb5);replace howc:=Hd howc;replace hel:=Hd hel;go_wp2_with (at_builtin;go_must (refine qgg (B:=wo.heap.size) rfl (.tmp 78) (.tmp 83) 91 rfl Tryz.underlying91 ra rc rfl howc.out t w4.heap.size 1 rfl hel.out (lo++[t]) rfl (by have:=hll.out;simp;omega) (by have:=hwo4.size;simpa using this) ?_);intro ra2 rc2 w6 ho6 hg6 ha6);have hA6:=qg5 hA.out s4 hb5 ((htr.out.call s4).call hb5) hg6 ha6;have hwo6:Below wo.heap.size wo w6:=qaq hwo4 howc.out hg6;replace ho6:=Hd ho6;replace hA6:=Hd hA6;clear hg6 ha6 howc hel hb5 hwo4;go_wp2;go_roundg (gk-1)
      case rel=>exact ⟨i,k+1,lo++[t],po++[v],ra2,rc2,by have:=hm.out;show _=_;omega,by omega,by omega,by simp,rfl,by go_num,ho6.out,hA6.out,hwo6,by rw [<- ho3.out,hdp.out];show _=_;simp,by have:=hll.out;show _<=_;simp;omega⟩
      case measure=>have:=hm.out;omega
     ·
      have hL0:lexI u.2 v.2=0:=by rw [hL.out];omega
      have hlx:=Hd (Xr_lt HX.out ho.out hwr.size);have j0:=held e0;have j1:=held e1;have j2:=held e2;have j3:=held e3;have n0:=held f0;have n1:=held f1;have n2:=held f2;have n3:=held f3;have s0:Below w4.heap.size w4 w4.drew:=brf.drew;replace hL0:=Hd hL0;clear CL hsR htR fu fv htr hdp hdq e0 e1 e2 e3 f0 f1 f2 f3;go_wp2;refine qbx (S:=Below w4.heap.size w4) (.q 0 (.q 1 (.q 2 (.q 3 (.q 4 (.q 5 (.q 6 (.q 7 (.q 8 (.two 9 (.q 10 (.q 11 (.q 12 (.l 13 (.l 14 (.p 15 .nil)))))) 13 (.l 9 (.q 10 (.q 11 (.q 12 (.l 14 (.p 15 .nil)))))))))))))))) [15] (by kernel_rfl) (by kernel_rfl) (by kernel_rfl) (fun d _ _ _ _ h=>by cases d <;> exact h) s0 ?_
      iterate 9 (refine qb6 rfl rfl fun K hK=>xq ?_;go_simp;refine hK _ _ ?_;clear hK K)
      refine qbm ?_ ?_
      ·
       skip
       refine qao rfl rfl (fun K hK=>?_);go_simp;refine (CA.out _ (bth s4 s0)).mono ?_;rintro r w5 ⟨x,rfl,HK,hb5⟩;dsimp only;refine hK.out _ _ (bth s0 hb5) (fun _=>?_);clear hK K
       iterate 3 (refine qb6 rfl rfl fun K hK=>xq ?_;go_simp;refine hK _ _ ?_;clear hK K)
       have s5:Below w4.heap.size w4 w5:=bth s0 hb5;have sA:Below w4.heap.size w4 (w5.alloc (.cells #[.bool false,.slice none 0 0,.slice none 0 0,.slice none 0 0] 191)):=s5.alloc s5.size _;refine qao rfl rfl (fun K hK=>?_);go_simp;refine hK.out _ _ (sA) (fun _=>?_);clear hK K;have hzz:Blk (w5.alloc (.cells #[.bool false,.slice none 0 0,.slice none 0 0,.slice none 0 0] 191)) w5.heap.size 191 #[.bool false,.slice none 0 0,.slice none 0 0,.slice none 0 0]:=Blk.new w5 _ _;obtain ⟨z0,z1,z2,z3⟩:=cq4 hzz;obtain ⟨x0,x1,x2,x3⟩:=fq4 hzz;refine qao rfl rfl (fun K hK=>?_);go_simp;refine hK.out _ _ ((s5.alloc s5.size _)) (fun _=>?_);clear hK K
       iterate 1 (refine qir rfl rfl fun K hK=>xp ?_;go_simp;refine hK _ _ ?_;clear hK K)
       refine qcq ?_;replace HK:=Hd (show Kp (fun V=>QK 2001 V x (u.1+v.1)) w4.heap.size w5.heap.size w5 from HK);refine qab (fun W=>Blk W w5.heap.size 191 #[.bool x.neg,.slice x.a x.n x.c,.slice x.b x.m x.d,.slice s.a s.n s.c]/\Kp (fun V=>QK 2001 V x (u.1+v.1)) w4.heap.size w5.heap.size W/\Below w4.heap.size w4 W) ⟨by ((with_reducible repeat first|assumption|(apply bF;focus omega)|apply bS|(apply bN;focus (simp;done))|apply bA|apply bD);all_goals rfl),by (with_reducible repeat first | exact HK.out | (refine Kp.setc ?_ ?_;focus omega) | refine Kp.alloc ?_ | refine Kp.drew ?_),s5.alloc s5.size _⟩ ?_;clear z0 z1 z2 z3 x0 x1 x2 x3 hzz sA;rintro wz ⟨hg,HK,sz⟩;obtain ⟨g,hge⟩:∃ g,g=w5.heap.size:=⟨_,rfl⟩
       exact zz28
      ·
       skip
       have sA:Below w4.heap.size w4 (w4.alloc (.cells #[.bool false,.slice none 0 0,.slice none 0 0,.slice none 0 0] 191)).drew:=(brf.alloc (nlr _) _).drew;refine qao rfl rfl (fun K hK=>?_);go_simp;refine hK.out _ _ sA (fun _=>?_);clear hK K;refine qao rfl rfl (fun K hK=>?_);go_simp;refine (CA.out _ (bth s4 sA)).mono ?_;rintro r w5 ⟨x,rfl,HK,hb5⟩;dsimp only;refine hK.out _ _ (bth sA hb5) (fun _=>?_);clear hK K;have s5:=bth sA hb5;have hle4:w4.heap.size<=w4.heap.size:=nlr _
       iterate 3 (refine qb6 rfl rfl fun K hK=>xq ?_;go_simp;refine hK _ _ ?_;clear hK K)
       have hzz:Blk w5 w4.heap.size 191 #[.bool false,.slice none 0 0,.slice none 0 0,.slice none 0 0]:=(show Blk (w4.alloc (.cells #[.bool false,.slice none 0 0,.slice none 0 0,.slice none 0 0] 191)).drew w4.heap.size 191 #[.bool false,.slice none 0 0,.slice none 0 0,.slice none 0 0] from Blk.new w4 _ _).below' hb5;obtain ⟨z0,z1,z2,z3⟩:=cq4 hzz;obtain ⟨x0,x1,x2,x3⟩:=fq4 hzz;have hle:w4.heap.size<(w4.alloc (.cells #[.bool false,.slice none 0 0,.slice none 0 0,.slice none 0 0] 191)).drew.heap.size:=by simp
       refine qao rfl rfl (fun K hK=>?_);go_simp;refine hK.out _ _ (((((s5.setCell hle4 _).setCell hle4 _).setCell hle4 _).setCell hle4 _)) (fun _=>?_);clear hK K
       iterate 1 (refine qir rfl rfl fun K hK=>xp ?_;go_simp;refine hK _ _ ?_;clear hK K)
       refine qcq ?_;replace HK:=Hd (Kp.broad (B':=w4.heap.size+1) HK (by simp) (nlr _));refine qab (fun W=>Blk W w4.heap.size 191 #[.bool x.neg,.slice x.a x.n x.c,.slice x.b x.m x.d,.slice s.a s.n s.c]/\Kp (fun V=>QK 2001 V x (u.1+v.1)) (w4.heap.size+1) w5.heap.size W/\Below w4.heap.size w4 W) ⟨by ((with_reducible repeat first|assumption|(apply bF;focus omega)|apply bS|(apply bN;focus (simp;done))|apply bA|apply bD);all_goals rfl),by (with_reducible repeat first | exact HK.out | (refine Kp.setc ?_ ?_;focus omega) | refine Kp.alloc ?_ | refine Kp.drew ?_),((((s5.setCell hle4 _).setCell hle4 _).setCell hle4 _).setCell hle4 _)⟩ ?_;clear z0 z1 z2 z3 x0 x1 x2 x3 hzz sA hle;rintro wz ⟨hg,HK,sz⟩;replace HK:=HK.broad (B':=w4.heap.size+1) (nlr _) (nlr _);obtain ⟨g,hge⟩:∃ g,g=w4.heap.size:=⟨_,rfl⟩
       exact zz28
   ·
    have ho3:=hout.out;rw [qkg (.inr (List.drop_eq_nil_of_le (by omega)))] at ho3;exact zz29
  ·
   have ho3:=hout.out;rw [qkg (.inl (List.drop_eq_nil_of_le (by omega)))] at ho3;exact zz29
end Go.Proofs.YtfaalkneigpcnaaGreatDoor
