/- The reference's frame (layer 21) in memory; walk: param. -/
import Derived.Test.YtmdlbpibipnapaaGreatRd15
import Derived.Test.YtmdlbpibipnapaaGreatRd13
import Derived.Test.YtmdlbpibipnapaaGreatRd1
set_option linter.all false
set_option maxRecDepth 100000
set_option maxHeartbeats 4000000
namespace Go.Proofs.YtmdlbpibipnapaaGreat
open Go.RowKit
theorem zz49 {P:Prop} (h:P:=by
 intro ra2 rc2 w6 ho6 hg6 ha6;go_simp;refine hK.out _ _ ?_;clear hK K
 refine qaj rfl rfl fun K hK=>xp ?_;go_simp;refine hK _ _ ?_;clear hK K
 refine qad ?_;have hA6:=qc8 hA.out hb5' (brf.alloc (nlr _) (.cells #[.bool sn.x.neg,.slice sn.x.a sn.x.n sn.x.c,.slice sn.x.b sn.x.m sn.x.d,.slice sn.a sn.n sn.c] 193)) (hRS.out.alloc _) hg6 ha6;have hw6:Below w.heap.size w w6:=qal (hw5.alloc hw5.size (.cells #[.bool sn.x.neg,.slice sn.x.a sn.x.n sn.x.c,.slice sn.x.b sn.x.m sn.x.d,.slice sn.a sn.n sn.c] 193)) (Own.base ho5.out oo) hg6;have hz6:=((hz.below' hb5').alloc (.cells #[.bool sn.x.neg,.slice sn.x.a sn.x.n sn.x.c,.slice sn.x.b sn.x.m sn.x.d,.slice sn.a sn.n sn.c] 193)).under ho5.out oo hg6;rw [<- hnx.out] at hA6;replace ho6:=Hd ho6;replace hA6:=Hd hA6;clear hg6 ha6 ho5 hel;go_wp2;go_roundg (gk-1)
 case rel=>exact ⟨k+1,lo++[sn],ra2,rc2,by have:=hm.out;show _=_;omega,by simp,by go_num,ho6.out,hA6.out,hw6,hz6⟩
 case measure=>have:=hm.out;omega
 ):P:=h
theorem zz50 {P:Prop} (h:P:=by
 have hkp:k=p.length:=by have:=hm.out;omega
 have hA2:=hA.out;rw [hkp,<- hln.out,List.take_length] at hA2;have hP:=OwnT.pol (Own.base (B':=w.heap.size) ho.out oo) hA2 HX.out;have hRl:=hA2.1;replace hP:=Hd hP;replace hRl:=Hd hRl;clear hA hA2 hkp hz;go_wp2;go_ret;exact ⟨ra,rc,by rw [<- hRl.out];rfl,hP.out,hwr⟩
 ):P:=h
theorem qzc (X:Nat->Prop) (p:List Tm) (q:Rat) (m:List Int) (t:TQ) (a:Option Addr) (ca:Nat) (w:World) (hX:∀ b,X b->b<w.heap.size) (hp:PolX X w a ca p) (fp:FineP p) (ht:Rd X w (t.R (q,m))) (ft:FineT (q,m)) :
  Calls Tryz.prog 140 #[.slice a p.length ca,.agg #[.bool t.x.neg,.slice t.x.a t.x.n t.x.c,.slice t.x.b t.x.m t.x.d,.slice t.a t.n t.c]] w (RetP X (qaq p (q,m)) w):=by
 have lp:=hp.len;have l1:=fp.1;have hln:=qks p (q,m);have HP:=Hd hp;have FP:=Hd fp.2;have HX:=Hd hX;have HT:=Hd ht;have FT:=Hd ft;replace hln:=Hd hln;clear hp fp hX ht ft;go_enter Tryz.func140,Tryz.ntmps140;go_wp2;refine qaa (fun W=>Blk W w.heap.size 193 #[.bool t.x.neg,.slice t.x.a t.x.n t.x.c,.slice t.x.b t.x.m t.x.d,.slice t.a t.n t.c]/\Below w.heap.size w W) ⟨bk,zg⟩ ?_;rintro w0 ⟨hz,hw0⟩
 go_loopg [5,6] p.length (fun n o qi wr=>∃ (k:Nat) (lo:List TQ) (ra:Option Addr) (rc:Nat),Hid (k+n=p.length)/\o=.slice ra lo.length rc/\qi=.int .i64 k/\Hid (OwnT (w.heap.size+1) wr ra rc lo)/\Hid (AllT (Xr X ra) wr lo ((qaq p (q,m)).take k))/\Below w.heap.size w wr/\Blk wr w.heap.size 193 #[.bool t.x.neg,.slice t.x.a t.x.n t.x.c,.slice t.x.b t.x.m t.x.d,.slice t.a t.n t.c])
 case atStart=>exact ⟨0,[],none,0,by show _=_;omega,rfl,rfl,Own.nil,by show AllT _ _ _ _;rw [List.take_zero];exact AllT.nil,hw0,hz⟩
 case round =>
  clear hw0 hz;obtain ⟨k,lo,ra,rc,hm,rfl,rfl,ho,hA,hwr,hz⟩:=hrel;have hro:Hid (∀ g,ra=some g->w.heap.size<=g.block):=Hd fun g hg=>by have:=(ho.out.lt hg).1;omega
  by_cases hk:k<p.length
  ·
   obtain ⟨u,hu⟩:=qab hk;obtain ⟨b1,o1,s,rfl,hs,hsR⟩:=HP.out.get hu;have fu:=FP.out u (List.mem_of_getElem? hu);have hnx:=qkx (t:=(q,m)) hu;have hll:lo.length=k:=by rw [hA.out.1,List.length_take,hln.out];omega
   have hlx:=Xr_lt (w:=w) HX.out (Own.base ho.out oo) hwr.size;have CM:=fun W (hW:Below wr.heap.size wr W)=>quu s.x t.x u.1 q 1000 1000 W ((hsR.call (bth hwr hW)).now.qk fu) ((HT.out.call (bth hwr hW)).now.qk FT.out) oo oo
   have CN:=fun W (hW:Below wr.heap.size wr W)=>qu9 u.2 m s.a t.a s.c t.c W (hsR.call (bth hwr hW)).now.2.1 (HT.out.call (bth hwr hW)).now.2.1 1048576 oo fu.1 FT.out.1
   have en:s.n=u.2.length:=hsR.now.2.2;have em:t.n=m.length:=HT.out.now.2.2;rw [<- en,<- em] at CN;obtain ⟨c0,c1,c2,c3⟩:=hs;have k0:=held (held c0 wr hwr);have k1:=held (held c1 wr hwr);have k2:=held (held c2 wr hwr);have k3:=held (held c3 wr hwr);have z0:=held (hz.cell 0);have z1:=held (hz.cell 1);have z2:=held (hz.cell 2);have z3:=held (hz.cell 3);have hzl:=Hd hz.lt;replace CM:=Hd CM;replace CN:=Hd CN;replace hsR:=Hd hsR;replace fu:=Hd fu;replace hnx:=Hd hnx;replace hlx:=Hd hlx;replace en:=Hd en;replace em:=Hd em;replace hll:=Hd hll;clear hu c0 c1 c2 c3;have s0:Below wr.heap.size wr wr.drew:=brf.drew;go_wp2;refine wrx (S:=Below wr.heap.size wr) [(0,.q),(1,.q),(2,.q),(3,.q),(4,.q),(5,.q),(6,.q),(7,.q),(9,.q),(10,.q),(11,.q),(12,.q),(13,.q),(14,.q),(15,.q),(8,.l),(16,.l),(17,.q),(18,.l),(19,.t),(20,.p)] (s0) ?_
   iterate 15 (refine qaf rfl rfl fun K hK=>xq ?_;go_simp;refine hK _ _ ?_;clear hK K)
   refine vl fun K hK=>?_
   go_simp;refine (CM.out _ s0).mono ?_;rintro r w3 ⟨x,rfl,HK,hb3⟩;dsimp only;refine hK.out _ _ (bth s0 hb3) (fun _=>?_);clear hK K;have s3:=bth s0 hb3;refine vl fun K hK=>?_
   go_simp;refine (CN.out _ s3).mono ?_;rintro r w5 ⟨a5,c5,rfl,HM,hb5⟩;dsimp only;refine hK.out _ _ (bth s3 hb5) (fun _=>?_);clear hK K;have hb5':=bth s3 hb5;have s5:=hb5';obtain ⟨sn,hsn⟩:∃ sn:TQ,sn=⟨x,(mulM u.2 m).length,a5,c5⟩:=⟨_,rfl⟩
   have ex:x=sn.x:=by rw [hsn]
   have e5:(mulM u.2 m).length=sn.n:=by rw [hsn]
   have e6:a5=sn.a:=by rw [hsn]
   have e7:c5=sn.c:=by rw [hsn]
   have hRS:Rd (Xr X ra) w5 (sn.R (u.1*q,mulM u.2 m)):=by rw [hsn];exact qq6 (HK.call hb5) HM fun b hb=>by have:=hlx.out b hb;have:=s3.size;exact ⟨ltl (hlx.out b hb) s0.size,oo⟩
   rw [ex,e5,e6,e7];replace hRS:=Hd hRS;replace hsn:=Hd hsn;clear HM HK ex e5 e6 e7 z0 z1 z2 z3 k0 k1 k2 k3
   refine qaf rfl rfl fun K hK=>xq ?_;go_simp;refine hK _ _ ?_;clear hK K
   refine vl fun K hK=>?_
   go_simp;refine hK.out _ _ (s5.alloc s5.size _) (fun _=>?_);clear hK K;have ho5:=(ho.out.below hb5').alloc (.cells #[.bool sn.x.neg,.slice sn.x.a sn.x.n sn.x.c,.slice sn.x.b sn.x.m sn.x.d,.slice sn.a sn.n sn.c] 193);have hw5:=bth hwr hb5';have hel:sn.At (w5.alloc (.cells #[.bool sn.x.neg,.slice sn.x.a sn.x.n sn.x.c,.slice sn.x.b sn.x.m sn.x.d,.slice sn.a sn.n sn.c] 193)) w5.heap.size 0:=At.new;replace ho5:=Hd ho5;replace hel:=Hd hel;refine vt fun K hK=>?_
   refine qe0 (B:=w.heap.size+1) (.tmp 13) (.tmp 31) 75 rfl Tryz.underlying75 ra rc rfl ho5.out sn w5.heap.size 1 rfl hel.out (lo++[sn]) rfl (by have:=hll.out;simp;omega) (by have:=hzl.out;have:=hb5'.size;simp;omega) ?_;exact zz49
  ·
   exact zz50
theorem qr1 {p:List Tm} {q:Rat} {u:Tm} {k:Nat} (h:p[k]? = some u) (h0:q≠0):(qau p q).take (k+1)=(qau p q).take k++[(u.1*q,u.2)]:=by
 unfold qau;rw [if_neg h0];exact qbb (by rw [List.getElem?_map,h];rfl)
theorem qou (X:Nat->Prop) (p:List Tm) (x:QA) (q:Rat) (a:Option Addr) (ca:Nat) (w:World) (hX:∀ b,X b->b<w.heap.size) (hp:PolX X w a ca p) (fp:FineP p) (hx:Rd X w fun V=>QAc V x q) (hq:qsz q<=1000) (h0:q≠0) :
  Calls Tryz.prog 108 #[.slice a p.length ca,.agg #[.bool x.neg,.slice x.a x.n x.c,.slice x.b x.m x.d]] w (RetP X (qau p q) w):=by
 have lp:=hp.len;have l1:=fp.1;have hln:(qau p q).length=p.length:=by unfold qau;rw [if_neg h0];simp
 have CS:=fun W (hW:bw w W)=>qji x q 1000 W ⟨(hx.call hW).now,hq⟩ oo
 have hsg:=qhs q;rw [decide_eq_false h0] at hsg;obtain ⟨S0,hS0⟩:=nm (sgnQ q)
 rw [hS0] at CS hsg;have HP:=Hd hp;have FP:=Hd fp.2;have HX:=Hd hX;have HT:=Hd hx;have H0:=Hd h0;have hqs:=hq;replace hln:=Hd hln;replace CS:=Hd CS;clear hp fp hX hx h0 hS0 hq;go_enter Tryz.func108,Tryz.ntmps108;go_wp2;refine qaa (fun W=>Blk W w.heap.size 32 #[.bool x.neg,.slice x.a x.n x.c,.slice x.b x.m x.d]/\Below w.heap.size w W) ⟨bk,zg⟩ ?_;rintro w0 ⟨hz,hw0⟩
 go_loopg [5,6] p.length (fun n o qi wr=>∃ (k:Nat) (lo:List TQ) (ra:Option Addr) (rc:Nat),Hid (k+n=p.length)/\o=.slice ra lo.length rc/\qi=.int .i64 k/\Hid (OwnT (w.heap.size+1) wr ra rc lo)/\Hid (AllT (Xr X ra) wr lo ((qau p q).take k))/\Below w.heap.size w wr/\Blk wr w.heap.size 32 #[.bool x.neg,.slice x.a x.n x.c,.slice x.b x.m x.d])
 case atStart=>exact ⟨0,[],none,0,by show _=_;omega,rfl,rfl,Own.nil,by show AllT _ _ _ _;rw [List.take_zero];exact AllT.nil,hw0,hz⟩
 case round =>
  clear hw0 hz;obtain ⟨k,lo,ra,rc,hm,rfl,rfl,ho,hA,hwr,hz⟩:=hrel;have hro:Hid (∀ g,ra=some g->w.heap.size<=g.block):=Hd fun g hg=>by have:=(ho.out.lt hg).1;omega
  by_cases hk:k<p.length
  ·
   obtain ⟨u,hu⟩:=qab hk;obtain ⟨b1,o1,s,rfl,hs,hsR⟩:=HP.out.get hu;have fu:=FP.out u (List.mem_of_getElem? hu);have hnx:=qr1 hu H0.out;have hll:lo.length=k:=by rw [hA.out.1,List.length_take,hln.out];omega
   have hlx:=Xr_lt (w:=w) HX.out (Own.base ho.out oo) hwr.size;have CM:=fun W (hW:bw w W)=>quu s.x x u.1 q 1000 1000 W ((hsR.call hW).now.qk fu) ⟨(HT.out.call hW).now,hqs⟩ oo oo
   have en:s.n=u.2.length:=hsR.now.2.2;have hsr:=qc1 hsR hro.out hwr;obtain ⟨c0,c1,c2,c3⟩:=hs;have k0:=held c0;have k1:=held c1;have k2:=held c2;have k3:=held c3;obtain ⟨z0,z1,z2⟩:=cq3 hz;have hzl:=Hd hz.lt;replace CM:=Hd CM;replace hsR:=Hd hsR;replace fu:=Hd fu;replace hnx:=Hd hnx;replace hlx:=Hd hlx;replace en:=Hd en;replace hll:=Hd hll;replace hsr:=Hd hsr;clear hu c0 c1 c2 c3;go_wp2_with fail;refine (CS.out wr hwr).mono ?_;rintro e w1 ⟨rfl,hb1⟩;have hw1:=bth hwr hb1;have hz1:=hz.below' hb1;clear z0 z1 z2;have i0:=held (k0 w1 hw1);have i1:=held (k1 w1 hw1);have i2:=held (k2 w1 hw1);have i3:=held (k3 w1 hw1);have z0:=held (hz1.cell 0);have z1:=held (hz1.cell 1);have z2:=held (hz1.cell 2);have s0:Below w1.heap.size w1 w1.drew:=brf.drew;clear k0 k1 k2 k3 hz1;go_wp2
   refine wrx (S:=Below w1.heap.size w1) [(0,.q),(1,.q),(2,.q),(3,.q),(4,.q),(5,.q),(6,.q),(8,.q),(9,.q),(10,.q),(11,.q),(12,.q),(7,.l),(13,.q),(14,.l),(15,.t),(16,.p)] (s0) ?_
   iterate 12 (refine qaf rfl rfl fun K hK=>xq ?_;go_simp;refine hK _ _ ?_;clear hK K)
   refine vl fun K hK=>?_
   go_simp;refine (CM.out _ (bth hw1 s0)).mono ?_;rintro r w5 ⟨x5,rfl,HK,hb5⟩;dsimp only;refine hK.out _ _ (bth s0 hb5) (fun _=>?_);clear hK K;have s5:=bth s0 hb5;have hb5':=bth hb1 s5;obtain ⟨sn,hsn⟩:∃ sn:TQ,sn=⟨x5,s.n,s.a,s.c⟩:=⟨_,rfl⟩
   have ex:x5=sn.x:=by rw [hsn]
   have e5:s.n=sn.n:=by rw [hsn]
   have e6:s.a=sn.a:=by rw [hsn]
   have e7:s.c=sn.c:=by rw [hsn]
   have hRS:Rd (Xr X ra) w5 (sn.R (u.1*q,u.2)):=by
    rw [hsn];exact ((Rd.kp HK fun b hb=>.inl (ltl (hlx.out b hb) (bth hb1 s0).size)).and (hsr.out.call hb5')).imp fun V h=>⟨h.1.1,h.2.2.1,h.2.2.2⟩
   replace ex:=Hd ex;replace e5:=Hd e5;replace e6:=Hd e6;replace e7:=Hd e7;rw [ex.out,e5.out,e6.out,e7.out];replace hRS:=Hd hRS;replace hsn:=Hd hsn;clear HK z0 z1 z2 i0 i1 i2 i3
   refine qaf rfl rfl fun K hK=>xq ?_;go_simp;refine hK _ _ ?_;clear hK K
   refine vl fun K hK=>?_
   go_simp;refine hK.out _ _ (s5.alloc s5.size _) (fun _=>?_);clear hK K;have ho5:=(ho.out.below hb5').alloc (.cells #[.bool sn.x.neg,.slice sn.x.a sn.x.n sn.x.c,.slice sn.x.b sn.x.m sn.x.d,.slice sn.a sn.n sn.c] 193);have hw5:=bth hwr hb5';have hel:sn.At (w5.alloc (.cells #[.bool sn.x.neg,.slice sn.x.a sn.x.n sn.x.c,.slice sn.x.b sn.x.m sn.x.d,.slice sn.a sn.n sn.c] 193)) w5.heap.size 0:=At.new;replace ho5:=Hd ho5;replace hel:=Hd hel;refine vt fun K hK=>?_
   refine qe0 (B:=w.heap.size+1) (.tmp 18) (.tmp 32) 75 rfl Tryz.underlying75 ra rc rfl ho5.out sn w5.heap.size 1 rfl hel.out (lo++[sn]) rfl (by have:=hll.out;simp;omega) (by have:=hzl.out;have:=hb5'.size;simp;omega) ?_;exact zz49
  ·
   exact zz50
theorem qab7 (X:Nat->Prop) (p:List Tm) (a:Option Addr) (ca:Nat) (w:World) (hX:∀ b,X b->b<w.heap.size) (hp:PolX X w a ca p) (fp:FineP p) :
  Calls Tryz.prog 139 #[.slice a p.length ca] w (RetP X (negP p) w):=by
 have CT:=fun x W (hW:bw w W) hx=>qou X p x (-1) a ca W (fun b hb=>ltl (hX b hb) hW.size) (hp.call hW) fp hx (Nat.le_trans qib oo) dd
 have hXl:=Hd hX;replace CT:=Hd CT;unfold negP;revert CT;generalize qau p (-1)=res;intro CT;clear hX hp fp;go_enter Tryz.func139,Tryz.ntmps139;go_wp2_with fail;refine (qz1 w).mono ?_;rintro e w1 ⟨x,rfl,HK,hb1⟩;go_wp2_with fail;refine (CT.out x w1 hb1 (Rd.kp (HK.imp fun V h=>h.1) fun b hb=>.inl (hXl.out b hb))).mono ?_;rintro e w2 ⟨a2,c2,rfl,hP,hb2⟩;clear HK;go_wp2;go_ret;exact ⟨a2,c2,rfl,hP,bth hb1 hb2⟩
theorem qa6 (X:Nat->Prop) (p q:List Tm) (a b:Option Addr) (ca cb:Nat) (w:World) (hX:∀ b,X b->b<w.heap.size) (hp:PolX X w a ca p) (hq:PolX X w b cb q) (fp:FineP p) (fq:FineP q) :
  Calls Tryz.prog 101 #[.slice a p.length ca,.slice b q.length cb] w (RetP X (subP p q) w):=by
 have C1:=qab7 X q b cb w hX hq fq;have C2:=fun b' cb' W (hW:bw w W) h=>qcu X p (negP q) a b' ca cb' W (fun b hb=>ltl (hX b hb) hW.size) (hp.call hW) h fp (qj5 fq)
 unfold subP;revert C1 C2;generalize negP q=nq;generalize addP p nq=res;intro C1 C2;replace C1:=Hd C1;replace C2:=Hd C2;clear hX hp hq fp fq;go_enter Tryz.func101,Tryz.ntmps101;go_wp2_with fail;refine C1.out.mono ?_;rintro e w1 ⟨a1,c1,rfl,hP1,hb1⟩;replace hP1:=Hd hP1;go_wp2_with fail;refine (C2.out a1 c1 w1 hb1 hP1.out).mono ?_;rintro e w2 ⟨a2,c2,rfl,hP,hb2⟩;go_wp2;go_ret;exact ⟨a2,c2,rfl,hP,bth hb1 hb2⟩
theorem qvc {p q:List Tm} {k:Nat} {t:Tm} (h:q[k]? = some t):mulP p (q.take (k+1))=addP (mulP p (q.take k)) (qaq p t):=by
 unfold mulP;rw [qbb h,List.foldl_append,List.foldl_cons,List.foldl_nil]
theorem qcc (X:Nat->Prop) (p q:List Tm) (a b:Option Addr) (ca cb:Nat) (w:World) (hX:∀ b,X b->b<w.heap.size) (hp:PolX X w a ca p) (hq:PolX X w b cb q) (fp:FineP p) (fq:FineP q) (f1:∀ k,FineP (mulP p (q.take k))) (f2:∀ t∈q,FineP (qaq p t)) :
  Calls Tryz.prog 102 #[.slice a p.length ca,.slice b q.length cb] w (RetP X (mulP p q) w):=by
 have lq:=hq.len;have l1:=fq.1;have HP:=Hd hp;have HQ:=Hd hq;have FP:=Hd fp;have FQ:=Hd fq.2;have HX:=Hd hX;have F1:=Hd f1;have F2:=Hd f2;clear hp hq fp fq hX f1 f2;go_enter Tryz.func102,Tryz.ntmps102;go_wp2;obtain ⟨wo,rfl⟩:∃ wo:World,wo=w:=⟨_,rfl⟩
 go_loopg [5,6] q.length (fun n o qi wr=>∃ (k:Nat) (a2:Option Addr) (c2:Nat) (r:List Tm),Hid (k+n=q.length)/\o=.slice a2 r.length c2/\qi=.int .i64 k/\Hid (PolX X wr a2 c2 r)/\Hid (r=mulP p (q.take k))/\Below wo.heap.size wo wr)
 case atStart=>exact ⟨0,none,0,[],by show _=_;omega,rfl,rfl,PolX.nil,rfl,Below.refl _ _⟩
 case round =>
  obtain ⟨k,a2,c2,r,hm,rfl,rfl,hr,hrr,hwr⟩:=hrel;by_cases hk:k<q.length
  ·
   obtain ⟨t,ht⟩:=qab hk;obtain ⟨b1,o1,s,rfl,hs,hsR⟩:=HQ.out.get ht;have hnx:=qvc (p:=p) ht;rw [<- hrr.out] at hnx;have hXr:=fun W (hW:Below wr.heap.size wr W)=>(fun b hb=>ltl (HX.out b hb) (bth hwr hW).size:∀ b,X b->b<W.heap.size)
   have CT:=qzc X p t.1 t.2 s a ca wr (hXr wr brf) (HP.out.call hwr) FP.out (hsR.call hwr) (FQ.out t (List.mem_of_getElem? ht));have CA:=fun a3 c3 W (hW:Below wr.heap.size wr W) h3=>qcu X r (qaq p t) a2 a3 c2 c3 W (hXr W hW) (hr.out.call hW) h3 (by rw [hrr.out];exact F1.out k) (F2.out t (List.mem_of_getElem? ht))
   rw [show (t.1,t.2)=t from rfl] at CT;obtain ⟨res,hres⟩:=nm (qaq p t)
   rw [hres] at CT CA hnx;obtain ⟨c0,c1,c2',c3'⟩:=hs;have k0:=held c0 wr hwr;have k1:=held c1 wr hwr;have k2:=held c2' wr hwr;have k3:=held c3' wr hwr;replace CT:=Hd CT;replace CA:=Hd CA;replace hnx:=Hd hnx;replace hsR:=Hd hsR;clear ht c0 c1 c2' c3' hres hXr;go_wp2_with fail;refine CT.out.mono ?_;rintro e w1 ⟨a3,c3,rfl,hP3,hb1⟩;replace hP3:=Hd hP3;go_wp2_with fail;refine (CA.out a3 c3 w1 hb1 hP3.out).mono ?_;rintro e w2 ⟨a4,c4,rfl,hP4,hb2⟩;have hw2:=bth hwr (bth hb1 hb2);replace hP4:=Hd hP4;clear k0 k1 k2 k3;go_wp2;go_roundg (gk-1)
   case rel=>exact ⟨k+1,a4,c4,_,by have:=hm.out;show _=_;omega,rfl,by go_num,hP4.out,hnx.out.symm,hw2⟩
   case measure=>have:=hm.out;omega
  ·
   have hkq:k=q.length:=by have:=hm.out;omega
   obtain rfl:r=mulP p q:=by rw [hrr.out,hkq,List.take_length]
   clear hrr hkq;go_wp2;go_ret;exact ⟨a2,c2,rfl,hr.out,hwr⟩
theorem qzh (x:QA) (q:Rat) (w:World) (H:QK 1000 w x q):Calls Tryz.prog 18 #[.agg #[.bool x.neg,.slice x.a x.n x.c,.slice x.b x.m x.d]] w (RetQK 1000 q w):=by
 obtain ⟨s1,n1,a1,c1,m1,b1,d1⟩:=x;obtain ⟨⟨e1,e2,e3,r1,r2⟩,z1⟩:=H;dsimp only at e1 e2 e3 r1 r2 ⊢;subst e1 e2 e3;have l1:=qbs q;have l2:=qbq q;have:=qd6 (decide (q.num<0)) (limbs q.num.natAbs) (limbs q.den) q.num.natAbs q.den a1 b1 c1 d1 w r1 r2 (qac _) (qac _) oo oo;rw [qcb,qcg] at this;exact this.mono fun _ _ h=>qdl z1 h
theorem qoa (w:World):(Instr.slice 75 (.slice none 0 0) none (some (.int .i64 0)) none).run Tryz.prog w=.ok (.slice none 0 0) w:=by
 have hu:=Tryz.underlying75;have he:Tryz.prog.elem 75=193:=by unfold Program.elem;rw [hu]
 obtain ⟨d,hd,hz,hsz,hby⟩:=info_parts qeu;have:=run_slice_h (P:=Tryz.prog) (w:=w) 75 none 0 0 (by rw [hu,he]) .i64 0 oo oo;rw [this,he];simp [sizeOf,typeInfo,hd,hsz,sliced]
theorem qpz (w:World):(Instr.slice 75 (.slice none 0 0) (some (.int .i64 0)) none none).run Tryz.prog w=.ok (.slice none 0 0) w:=by
 have:=qka 75 Tryz.underlying75 none 0 0 0 oo w;exact this
theorem qgu {w:World} {ops:Array Oper} {rest:List Oper} {o:Oper} {act:Act} {Q:Exit->Act->World->Prop} (hgd:o.guard=none) (s y:Operand) (ts:TypeId)
  (ho:o.op=.call { callee:=.builtin .append,args:=#[s,y],argTypes:=#[ts,ts] }) (hu:Tryz.prog.underlying ts=some (.slice 193))
  (a:Option Addr) (n c:Nat) (hnc:n<=c) (hs:act.eval s=.slice a n c) (b:Option Addr) (c1:Nat) (hy:act.eval y=.slice b 0 c1)
  (h:wpList Tryz.prog ops Q rest (act.put o.dst (.slice a n c)) w):wpList Tryz.prog ops Q (o :: rest) act w:=by
 obtain ⟨i,hi,_⟩:=info_parts qeu;exact wpList_plain hgd fun _ hK=>qfh s y ts ho hu hi a n c hnc hs b c1 hy (hK _ _ h)
def qgt (q:Rat) (m:List Int):List Tm:=if q=0 then [] else [(q,m)]
theorem qvv (X:Nat->Prop) (x:QA) (q:Rat) (m:List Int) (a:Option Addr) (ca:Nat) (w:World) (hX:∀ b,X b->b<w.heap.size) (hx:Rd X w fun V=>QAc V x q) (hq:qsz q<=1000) (hm:Rd X w fun V=>IntsR V a ca m) :
  Calls Tryz.prog 138 #[.slice none 0 0,.agg #[.bool x.neg,.slice x.a x.n x.c,.slice x.b x.m x.d],.slice a m.length ca] w (RetP X (qgt q m) w):=by
 have CS:=fun W (hW:bw w W)=>qji x q 1000 W ⟨(hx.call hW).now,hq⟩ oo
 have CN:=fun W (hW:bw w W)=>qzh x q W ⟨(hx.call hW).now,hq⟩
 have hsg:=qhs q;obtain ⟨S0,hS0⟩:=nm (sgnQ q)
 rw [hS0] at CS hsg;have hs1:=qoa;have hs2:=qpz;have HX:=Hd hX;have HM:=Hd hm;replace CS:=Hd CS;replace CN:=Hd CN;clear hX hx hS0 hq hm;by_cases h0:q=0
 ·
  have e:qgt q m=[]:=by unfold qgt;rw [if_pos h0]
  rw [e];rw [decide_eq_true h0] at hsg;clear h0 e CN;go_enter Tryz.func138,Tryz.ntmps138;go_wp2;refine qaa (fun W=>Blk W w.heap.size 32 #[.bool x.neg,.slice x.a x.n x.c,.slice x.b x.m x.d]/\Below w.heap.size w W) ⟨bk,zg⟩ ?_;rintro w0 ⟨hz,hw0⟩;refine wp_loop_rounds 1 ?_;rw [rounds_succ];obtain ⟨z0,z1,z2⟩:=cq3 hz;go_wp2_with (at_builtin;go_must (refine qgu rfl (.tmp 68) (.tmp 71) 75 rfl Tryz.underlying75 none 0 0 (nlr _) rfl none 0 rfl ?_));refine (CS.out w0 hw0).mono ?_;rintro e w1 ⟨rfl,hb1⟩;have hw1:=bth hw0 hb1;go_wp2_with (at_builtin;go_must (refine qgu rfl (.tmp 83) (.tmp 86) 75 rfl Tryz.underlying75 none 0 0 (nlr _) rfl none 0 rfl ?_));go_ret;exact ⟨none,0,rfl,PolX.nil,hw1⟩
 ·
  have e:qgt q m=[(q,m)]:=by unfold qgt;rw [if_neg h0]
  rw [e];rw [decide_eq_false h0] at hsg;clear h0 e;go_enter Tryz.func138,Tryz.ntmps138;go_wp2;refine qaa (fun W=>Blk W w.heap.size 32 #[.bool x.neg,.slice x.a x.n x.c,.slice x.b x.m x.d]/\Below w.heap.size w W) ⟨bk,zg⟩ ?_;rintro w0 ⟨hz,hw0⟩;refine wp_loop_rounds 1 ?_;rw [rounds_succ];obtain ⟨z0,z1,z2⟩:=cq3 hz;go_wp2_with (at_builtin;go_must (refine qgu rfl (.tmp 68) (.tmp 71) 75 rfl Tryz.underlying75 none 0 0 (nlr _) rfl none 0 rfl ?_));refine (CS.out w0 hw0).mono ?_;rintro e w1 ⟨rfl,hb1⟩;have hw1:=bth hw0 hb1;replace hz:=hz.below' hb1;clear z0 z1 z2;obtain ⟨z0,z1,z2⟩:=cq3 hz;go_wp2_with fail;refine (CN.out w1 hw1).mono ?_;rintro e w2 ⟨x2,rfl,HK,hb2⟩;have hw2:=bth hw1 hb2;obtain ⟨sn,hsn⟩:∃ sn:TQ,sn=⟨x2,m.length,a,ca⟩:=⟨_,rfl⟩
  have ex:x2=sn.x:=by rw [hsn]
  have e5:m.length=sn.n:=by rw [hsn]
  have e6:a=sn.a:=by rw [hsn]
  have e7:ca=sn.c:=by rw [hsn]
  have hRS:Rd X w2 (sn.R (q,m)):=by
   rw [hsn];exact ((Rd.kp HK fun b hb=>.inl (ltl (HX.out b hb) hw1.size)).and (HM.out.call hw2)).imp fun V h=>⟨h.1.1,h.2,rfl⟩
  have hel:sn.At (w2.alloc (.cells #[.bool sn.x.neg,.slice sn.x.a sn.x.n sn.x.c,.slice sn.x.b sn.x.m sn.x.d,.slice sn.a sn.n sn.c] 193)) w2.heap.size 0:=At.new;replace ex:=Hd ex;replace e5:=Hd e5;replace e6:=Hd e6;replace e7:=Hd e7;replace hRS:=Hd hRS;replace hel:=Hd hel;replace hsn:=Hd hsn;rw [ex.out,e5.out,e6.out,e7.out];clear HK z0 z1 z2 hz;go_wp2_with (first
   | (at_builtin
      refine qdc (B:=w.heap.size) rfl (.tmp 76) (.tmp 81) 75 rfl Tryz.underlying75 none 0 (l:=[]) rfl Own.nil sn w2.heap.size 1 rfl hel.out [sn] rfl (by simp) (by have:=hw2.size;simp;omega) ?_;intro ra2 rc2 w6 ho6 hg6 ha6)
   | (at_builtin
      go_must (refine qgu rfl (.tmp 83) (.tmp 86) 75 rfl Tryz.underlying75 ra2 1 rc2 (by have:=ho6.cap.1;simpa using this) rfl none 0 rfl ?_)))
  have hA6:=qc8 (ra:=none) (lo:=[]) (po:=[]) (wr:=w2) AllT.nil brf (brf.alloc (nlr _) (.cells #[.bool sn.x.neg,.slice sn.x.a sn.x.n sn.x.c,.slice sn.x.b sn.x.m sn.x.d,.slice sn.a sn.n sn.c] 193)) ((hRS.out.row (fun g hg=>by cases hg)).alloc _) hg6 ha6;have hP:=OwnT.pol ho6 hA6 HX.out;have hw6:Below w.heap.size w w6:=qio (hw2.alloc hw2.size (.cells #[.bool sn.x.neg,.slice sn.x.a sn.x.n sn.x.c,.slice sn.x.b sn.x.m sn.x.d,.slice sn.a sn.n sn.c] 193)) hg6 (fun g hg=>by cases hg);go_ret;exact ⟨ra2,rc2,rfl,hP,hw6⟩
theorem qn1 (X:Nat->Prop) (x:QA) (q:Rat) (w:World) (hX:∀ b,X b->b<w.heap.size) (hx:Rd X w fun V=>QAc V x q) (hq:qsz q<=1000) :
  Calls Tryz.prog 95 #[.agg #[.bool x.neg,.slice x.a x.n x.c,.slice x.b x.m x.d]] w (RetP X (qbg q) w):=by
 have C1:=fun W (hW:bw w W)=>qvv X x q [] none 0 W (fun b hb=>ltl (hX b hb) hW.size) (hx.call hW) hq (fun _ _=>SlR.nil)
 rw [show qgt q []=qbg q from rfl] at C1;revert C1;generalize qbg q=res;intro C1;replace C1:=Hd C1;clear hX hx hq;go_enter Tryz.func95,Tryz.ntmps95;go_wp2_with fail;refine qae (fun W=>Below w.heap.size w W) (by go_grown) ?_;intro w0 hw0;refine (C1.out w0 hw0).mono ?_;rintro e w1 ⟨a1,c1,rfl,hP,hb⟩;replace hP:=Hd hP;go_wp2;go_ret;exact ⟨a1,c1,rfl,hP.out,bth hw0 hb⟩
theorem qy4 (X:Nat->Prop) (x:QA) (m:List Int) (a:Option Addr) (ca:Nat) (w:World) (hX:∀ b,X b->b<w.heap.size) (hx:Rd X w fun V=>QAc V x 1) (hm:Rd X w fun V=>IntsR V a ca m) :
  Calls Tryz.prog 138 #[.slice none 0 0,.agg #[.bool x.neg,.slice x.a x.n x.c,.slice x.b x.m x.d],.slice a m.length ca] w (RetP X [(1,m)] w):=by
 have:=qvv X x 1 m a ca w hX hx (Nat.le_trans qgr oo) hm
 rwa [show qgt 1 m=[(1,m)] from if_neg dd] at this
theorem qxg (X:Nat->Prop) (n:Nat) (w:World) (hX:∀ b,X b->b<w.heap.size) (hn63:n<=1000000):Calls Tryz.prog 103 #[.int .i64 n] w (RetP X (varP n) w):=by
 by_cases hn:n<64
 ·
  have hmk:=ql0 191 Tryz.underlying191 (n+1) oo w;rw [show ((n+1:Nat):Int)=(n:Int)+1 by omega] at hmk;have e:varP n=[(1,List.replicate n 0++[1])]:=by unfold varP;rw [if_pos hn]
  rw [e];have hr0:RowZ (w.alloc (.cells (((List.replicate (n+1) (0:Int)).map (Value.int .i64)).toArray) 3)) w.heap.size (List.replicate (n+1) 0):=Blk.new w _ _;have c0:=hr0.cell (show (List.replicate (n+1) (0:Int))[n]? = some 0 by simp);have f0:=hr0.frozen n;have HX:=Hd hX;clear hX hr0 e;go_enter Tryz.func103,Tryz.ntmps103;go_wp2_with fail;refine qae (fun W=>RowZ W w.heap.size (List.replicate n 0++[1])/\Below w.heap.size w W) ⟨by unfold RowZ;rw [<- qrr];exact Blk.new w _ _,zg⟩ ?_;clear c0 f0 hmk;rintro w1 ⟨hR,hw1⟩;refine (qrz w1).mono ?_;rintro e w2 ⟨x,rfl,HK,hb2⟩;have hw2:=bth hw1 hb2;have hm:=(hR.below hb2).reads (qri n) (by simp;unfold maxLen;omega) (B:=w.heap.size) (T:=w.heap.size+1) (nlr _) (Nat.lt_succ_self _);have hln:(List.replicate n (0:Int)++[1]).length=n+1:=by simp
  rw [hln] at hm;have C1:=qy4 X x (List.replicate n 0++[1]) (some ⟨w.heap.size,0,none⟩) (n+1) w2 (fun b hb=>by have:=HX.out b hb;have:=hw2.size;omega) (Rd.kp (HK.imp fun V h=>h.1) fun b hb=>by have:=HX.out b hb;have:=hw1.size;omega) (Rd.kp hm fun b hb=>by have:=HX.out b hb;omega);rw [hln] at C1;replace C1:=Hd C1;clear HK hm hln hR hw1;go_wp2_with fail;refine C1.out.mono ?_;rintro e w3 ⟨a3,c3,rfl,hP,hb3⟩;go_wp2;go_ret;exact ⟨a3,c3,rfl,hP,bth hw2 hb3⟩
 ·
  have e:varP n=[]:=by unfold varP;rw [if_neg hn]
  rw [e];clear hX e;have hge:(64:Int)<=n:=oo
  go_enter Tryz.func103,Tryz.ntmps103;go_wp2;go_ret;exact ⟨none,0,rfl,PolX.nil,Below.refl _ _⟩
theorem qjf (X:Nat->Prop) (p q r:List Tm) (a b c:Option Addr) (ca cb cc:Nat) (w:World) (hX:∀ b,X b->b<w.heap.size) (hp:PolX X w a ca p) (hq:PolX X w b cb q) (hr:PolX X w c cc r) (fp:FineP p) (fq:FineP q) (fr:FineP r) (fd:FineP (subP q r)) :
  Calls Tryz.prog 96 #[.slice a p.length ca,.slice b q.length cb,.slice c r.length cc] w (RetP X (addP p (subP q r)) w):=by
 have C1:=qa6 X q r b c cb cc w hX hq hr fq fr;have C2:=fun b' cb' W (hW:bw w W) h=>qcu X p (subP q r) a b' ca cb' W (fun b hb=>ltl (hX b hb) hW.size) (hp.call hW) h fp fd
 revert C1 C2;generalize subP q r=nq;generalize addP p nq=res;intro C1 C2;replace C1:=Hd C1;replace C2:=Hd C2;clear hX hp hq hr fp fq fr fd;go_enter Tryz.func96,Tryz.ntmps96;go_wp2_with fail;refine C1.out.mono ?_;rintro e w1 ⟨a1,c1,rfl,hP1,hb1⟩;replace hP1:=Hd hP1;go_wp2_with fail;refine (C2.out a1 c1 w1 hb1 hP1.out).mono ?_;rintro e w2 ⟨a2,c2,rfl,hP,hb2⟩;go_wp2;go_ret;exact ⟨a2,c2,rfl,hP,bth hb1 hb2⟩
theorem qop (X:Nat->Prop) (u v:Vec) (m:List Tm) (s t:VQ) (ma:Option Addr) (mc:Nat) (w:World) (hX:∀ b,X b->b<w.heap.size) (hu:VecX X w s u) (hv:VecX X w t v) (hm:PolX X w ma mc m) (fu:FineV u) (fv:FineV v) (fm:FineP m)
  (fd:FineV (subP v.1 u.1,subP v.2 u.2)) (f1:∀ k,FineP (mulP m ((subP v.1 u.1).take k))) (f2:∀ t∈subP v.1 u.1,FineP (qaq m t)) (f3:∀ k,FineP (mulP m ((subP v.2 u.2).take k))) (f4:∀ t∈subP v.2 u.2,FineP (qaq m t)) :
  Calls Tryz.prog 94 #[.agg #[.slice s.a u.1.length s.c,.slice s.b u.2.length s.d],.agg #[.slice t.a v.1.length t.c,.slice t.b v.2.length t.d],.slice ma m.length mc] w (qfj X (addP u.1 (mulP m (subP v.1 u.1)),addP u.2 (mulP m (subP v.2 u.2))) w):=by
 have f5:=f1 (subP v.1 u.1).length;have f6:=f3 (subP v.2 u.2).length;rw [List.take_length] at f5 f6;have A1:=fun (Y:Nat->Prop) W (h1:∀ b,Y b->X b\/w.heap.size<=b) (h2:∀ b,Y b->b<W.heap.size) (hW:bw w W)=>qa6 Y v.1 u.1 t.a s.a t.c s.c W h2 ((hv.1.more h1).call hW) ((hu.1.more h1).call hW) fv.1 fu.1
 have A2:=fun (Y:Nat->Prop) W (h1:∀ b,Y b->X b\/w.heap.size<=b) (h2:∀ b,Y b->b<W.heap.size) (hW:bw w W)=>qa6 Y v.2 u.2 t.b s.b t.d s.d W h2 ((hv.2.more h1).call hW) ((hu.2.more h1).call hW) fv.2 fu.2
 have M1:=fun (Y:Nat->Prop) W a c (h1:∀ b,Y b->X b\/w.heap.size<=b) (h2:∀ b,Y b->b<W.heap.size) (hW:bw w W) hd=>qcc Y m (subP v.1 u.1) ma a mc c W h2 ((hm.more h1).call hW) hd fm fd.1 f1 f2
 have M2:=fun (Y:Nat->Prop) W a c (h1:∀ b,Y b->X b\/w.heap.size<=b) (h2:∀ b,Y b->b<W.heap.size) (hW:bw w W) hd=>qcc Y m (subP v.2 u.2) ma a mc c W h2 ((hm.more h1).call hW) hd fm fd.2 f3 f4
 have B1:=fun (Y:Nat->Prop) W a c (h1:∀ b,Y b->X b\/w.heap.size<=b) (h2:∀ b,Y b->b<W.heap.size) (hW:bw w W) hd=>qcu Y u.1 (mulP m (subP v.1 u.1)) s.a a s.c c W h2 ((hu.1.more h1).call hW) hd fu.1 f5
 have B2:=fun (Y:Nat->Prop) W a c (h1:∀ b,Y b->X b\/w.heap.size<=b) (h2:∀ b,Y b->b<W.heap.size) (hW:bw w W) hd=>qcu Y u.2 (mulP m (subP v.2 u.2)) s.b a s.d c W h2 ((hu.2.more h1).call hW) hd fu.2 f6
 revert A1 A2 M1 M2 B1 B2;clear hu hv hm fu fv fm fd f1 f2 f3 f4 f5 f6;generalize subP v.1 u.1=d1;generalize subP v.2 u.2=d2;generalize mulP m d1=p1;generalize mulP m d2=p2;generalize addP u.1 p1=r1;generalize addP u.2 p2=r2;intro A1 A2 M1 M2 B1 B2;replace A1:=Hd A1;replace A2:=Hd A2;replace M1:=Hd M1;replace M2:=Hd M2;replace B1:=Hd B1;replace B2:=Hd B2;have HX:=Hd hX;clear hX;go_enter Tryz.func94,Tryz.ntmps94;go_wp2
 refine qaa (fun W=>Blk W w.heap.size 120 #[.slice s.a u.1.length s.c,.slice s.b u.2.length s.d]/\Blk W (w.heap.size+1) 120 #[.slice t.a v.1.length t.c,.slice t.b v.2.length t.d]/\Blk W (w.heap.size+1+1) 120 #[.slice none 0 0,.slice none 0 0]/\Below w.heap.size w W) ⟨bk,bk,bk,zg⟩ ?_;rintro w0 ⟨hx,hy,hz,hw0⟩;obtain ⟨g2,hg2⟩:∃ g,g=w.heap.size+1+1:=⟨_,rfl⟩
 rw [<- hg2] at hz ⊢;have hgw:w.heap.size<=g2:=oo
 have hgl:=hz.lt;have hY1:=qcy (X:=X) hgw;have hY2:=Xg_lt HX.out hw0.size hgl;replace hg2:=Hd hg2;replace hY1:=Hd hY1;replace hY2:=Hd hY2;have x0:=held (hx.cell 0);have x1:=held (hx.cell 1);have y0:=held (hy.cell 0);have y1:=held (hy.cell 1);have s0:Below w0.heap.size w0 w0.drew:=brf.drew;clear hx hy;refine wrx (S:=Below w0.heap.size w0) [(0,.q),(1,.q),(2,.q),(3,.q),(4,.q),(5,.q),(6,.q),(10,.q),(11,.q),(12,.q),(13,.q),(14,.q),(15,.q),(16,.q),(7,.l),(8,.l),(9,.l),(17,.l),(18,.l),(19,.t),(20,.p),(21,.t)] (s0) ?_
 iterate 14 (refine qaf rfl rfl fun K hK=>xq ?_;go_simp;refine hK _ _ ?_;clear hK K)
 refine vl fun K hK=>?_
 go_simp;refine (A1.out (Xg X g2) w0.drew hY1.out hY2.out (bth hw0 s0)).mono ?_;rintro r w1 ⟨a1,c1,rfl,hP1,hb1⟩;dsimp only;refine hK.out _ _ (bth s0 hb1) (fun _=>?_);clear hK K;have s1:=bth s0 hb1;refine vl fun K hK=>?_
 go_simp;refine (M1.out (Xg X g2) w1 a1 c1 hY1.out (fun b hb=>ltl (hY2.out b hb) s1.size) (bth hw0 s1) hP1).mono ?_;rintro r w2 ⟨a2,c2,rfl,hP2,hb2⟩;dsimp only;refine hK.out _ _ (bth s1 hb2) (fun _=>?_);clear hK K;have s2:=bth s1 hb2;refine vl fun K hK=>?_
 go_simp;refine (B1.out (Xg X g2) w2 a2 c2 hY1.out (fun b hb=>ltl (hY2.out b hb) s2.size) (bth hw0 s2) hP2).mono ?_;rintro r w3 ⟨a3,c3,rfl,hP3,hb3⟩;dsimp only;refine hK.out _ _ (bth s2 hb3) (fun _=>?_);clear hK K;have s3:=bth s2 hb3;replace hP3:=Hd hP3;clear hP1 hP2 hb1 hb2 hb3;refine vl fun K hK=>?_
 go_simp;refine (A2.out (Xg X g2) w3 hY1.out (fun b hb=>ltl (hY2.out b hb) s3.size) (bth hw0 s3)).mono ?_;rintro r w4 ⟨a4,c4,rfl,hP4,hb4⟩;dsimp only;refine hK.out _ _ (bth s3 hb4) (fun _=>?_);clear hK K;have s4:=bth s3 hb4;refine vl fun K hK=>?_
 go_simp;refine (M2.out (Xg X g2) w4 a4 c4 hY1.out (fun b hb=>ltl (hY2.out b hb) s4.size) (bth hw0 s4) hP4).mono ?_;rintro r w5 ⟨a5,c5,rfl,hP5,hb5⟩;dsimp only;refine hK.out _ _ (bth s4 hb5) (fun _=>?_);clear hK K;have s5:=bth s4 hb5;have hP3':=Hd ((hP3.out.call hb4).call hb5);refine vt fun K hK=>?_
 go_simp;refine (B2.out (Xg X g2) w5 a5 c5 hY1.out (fun b hb=>ltl (hY2.out b hb) s5.size) (bth hw0 s5) hP5).mono ?_;rintro r w6 ⟨a6,c6,rfl,hP6,hb6⟩;dsimp only;refine hK.out _ _ ?_;clear hK K;have s6:=bth s5 hb6;have hz2:=hz.below' s6;obtain ⟨z0,z1⟩:=cq2 hz2;obtain ⟨f0,f1⟩:=fq2 hz2;have hP3'':=Hd (hP3'.out.call hb6);replace hP6:=Hd hP6;clear hP4 hP5 hb4 hb5 hb6 hP3 hP3'
 refine qaj rfl rfl fun K hK=>xp ?_;go_simp;refine hK _ _ ?_;clear hK K
 refine vt fun K hK=>?_
 go_simp;refine hK.out _ _ ?_;clear hK K;refine qad ?_;have hw2:=bth hw0 s6;clear z0 z1 f0 f1 s0 s1 s2 s3 s4 s5 s6;go_wp2;refine qaa (fun W=>Blk W g2 120 #[.slice a3 r1.length c3,.slice a6 r2.length c6]/\PolX (Xg X g2) W a3 c3 r1/\PolX (Xg X g2) W a6 c6 r2/\Below w.heap.size w W) ⟨bk,?_,?_,(hw2.setCell hgw _).setCell hgw _⟩ ?_
 · exact hP3''.out.step (Agr.setc (.inr rfl) (Agr.setc (.inr rfl) (Agr.refl _ _)))
 · exact hP6.out.step (Agr.setc (.inr rfl) (Agr.setc (.inr rfl) (Agr.refl _ _)))
 rintro w7 ⟨hF,hQ1,hQ2,hw7⟩;obtain ⟨e0,e1⟩:=cq2 hF;refine bodyPost_ret (v:=.agg #[.slice a3 r1.length c3,.slice a6 r2.length c6]) (by simp [results,Tryz.results94,go_sem,e0,e1]) rfl ?_;exact ⟨⟨a3,c3,a6,c6⟩,rfl,⟨hQ1.less fun b hb=>.inl hb,hQ2.less fun b hb=>.inl hb⟩,hw7⟩
def Yv (ra va:Option Addr):Nat->Prop:=fun b=>(∃ g:Addr,ra=some g/\b=g.block)\/(∃ g:Addr,va=some g/\b=g.block)
def Yr (Z:Nat->Prop) (ra va:Option Addr):Nat->Prop:=fun b=>Yv ra va b\/Z b
def Zk (Z:Nat->Prop) (g k:Nat):Nat->Prop:=fun b=>Z b\/(g<=b/\b<g+k)
structure Rst (Z : Nat -> Prop) (w : World) (B : Nat) (x : Frm) (hs : List (VQ × Vec)) (ra : Option Addr) (rc : Nat) (va : Option Addr) (vc : Nat) : Prop where
 eq:hs.map Prod.snd=x.coords
 co:OwnCo B w ra rc hs
 vr:OwnVr B w va vc x.vars
 all:AllV (Yr Z ra va) w hs
section
variable {Z Y : Nat -> Prop} {w w' w2 : World} {B : Nat} {x : Frm} {hs : List (VQ × Vec)} {ra va va' ra2 va2 : Option Addr} {rc vc rc2 vc2 : Nat}
theorem Rst.lt (h:Rst Z w B x hs ra rc va vc):∀ b,Yv ra va b->b<w.heap.size:=fun b hb=>by
 rcases hb with ⟨g,hg,rfl⟩ | ⟨g,hg,rfl⟩
 · exact (h.co.lt hg).2
 · exact (h.vr.lt hg).2
theorem Rst.ge (h:Rst Z w B x hs ra rc va vc):∀ b,Yv ra va b->B<=b:=fun b hb=>by
 rcases hb with ⟨g,hg,rfl⟩ | ⟨g,hg,rfl⟩
 · exact (h.co.lt hg).1
 · exact (h.vr.lt hg).1
theorem Rst.call (h:Rst Z w B x hs ra rc va vc) (e:Below w.heap.size w w'):Rst Z w' B x hs ra rc va vc:=⟨h.eq,h.co.below e,h.vr.below e,h.all.call e⟩
theorem Rst.more (h:Rst Z w B x hs ra rc va vc) (e:∀ b,Y b->Z b\/w.heap.size<=b):Rst Y w B x hs ra rc va vc:=⟨h.eq,h.co,h.vr,fun z hz=>(h.all z hz).more fun b hb=>by
 rcases hb with hb | hb
 · exact .inl (.inl hb)
 · exact (e b hb).imp .inr id⟩
theorem Rst.less (h:Rst Y w B x hs ra rc va vc) (e:∀ b,Z b->Y b):Rst Z w B x hs ra rc va vc:=⟨h.eq,h.co,h.vr,fun z hz=>(h.all z hz).less fun b hb=>hb.imp id (e b)⟩
theorem Rst.set_ (h:Rst Z w B x hs ra rc va vc) {g i:Nat} {u:Value} (hg:Z g) (hn:¬ Yv ra va g):Rst Z (w.setCell ⟨g,i,none⟩ u) B x hs ra rc va vc:=by
 have e:w.grownBy (w.setCell ⟨g,i,none⟩ u) (some g):=⟨rfl,rfl,rfl,by simp [World.setCell],fun k _ hk=>Below.heap_setCell _ _ _ _ (fun e=>hk (by simp at e;rw [e]))⟩
 refine ⟨h.eq,h.co.grown e fun p hp e=>?_,h.vr.grown e fun p hp e=>?_,fun z hz=>?_⟩
 · injection e with e;exact hn (.inl ⟨p,hp,e⟩)
 · injection e with e;exact hn (.inr ⟨p,hp,e⟩)
 · exact (h.all z hz).step (Agr.setc (.inr hg) (Agr.refl _ _))
theorem qed {g k:Nat} (hg:w.heap.size<=g):∀ b,Zk Z g k b->Z b\/w.heap.size<=b:=fun b hb=>hb.imp id fun h=>by omega
theorem zk_lt {g k:Nat} (hZ:∀ b,Z b->b<w.heap.size) (hw:w.heap.size<=w'.heap.size) (hg:g+k<=w'.heap.size):∀ b,Zk Z g k b->b<w'.heap.size:=fun b hb=>by
 rcases hb with hb | hb
 · exact ltl (hZ b hb) hw
 · omega
theorem zz51 {P:Prop} (h:P:=by
 obtain ⟨g',e1,e2⟩:=ha;rw [e1] at hg;injection hg with hg
 subst hg;rcases e2 with e2 | e2
 · exact .inl e2
 · right;show _<=g';omega
 ):P:=h
theorem Rst.var (h:Rst Z w B x hs ra rc va vc) (v:Vr) (ho:OwnVr B w2 va2 vc2 (x.vars++[v])) (hg:w.grownBy w2 (Value.ownBlock (.slice va x.vars.length vc))) (ha:∃ g,va2=some ⟨g,0,none⟩/\(va=some ⟨g,0,none⟩\/g=w.heap.size)) :
  Rst Z w2 B ⟨x.vars++[v],x.coords,x.free⟩ hs ra rc va2 vc2/\Fr (Yv ra va) w w2/\(∀ g,va2=some g->va=some g\/w.heap.size<=g.block):=by
 have hne:∀ g,ra=some g->Value.ownBlock (.slice va x.vars.length vc)≠some g.block:=fun g hg e=>by
  cases hv:va with
  | none=>rw [hv] at e;simp [Value.ownBlock] at e
  | some g' =>
   rw [hv] at e;simp [Value.ownBlock] at e;exact qfp h.co h.vr dd g g' hg hv e.symm
 have hfr:Fr (Yv ra va) w w2:=(Fr.refl (Yv ra va) w).grown hg fun g hg=>.inl (.inr ⟨g,hg,rfl⟩)
 have hva:∀ g,va2=some g->va=some g\/w.heap.size<=g.block:=fun g hg=>by
  exact zz51
 refine ⟨⟨h.eq,h.co.grown hg hne,ho,fun z hz=>?_⟩,hfr,hva⟩;refine (h.all z hz).move (fun b hb=>?_) (hfr.mono fun b hb=>.inl hb);rcases hb with (hb | ⟨g,hg,rfl⟩) | hb
 · exact .inl (.inl (.inl hb))
 ·
  rcases hva g hg with e | e
  · exact .inl (.inl (.inr ⟨g,e,rfl⟩))
  · exact .inr e
 · exact .inl (.inr hb)
theorem Rst.push (h:Rst Z w B x hs ra rc va vc) (z:VQ × Vec) (hz:VecX (Yr Z ra va) w z.1 z.2) (ho:OwnCo B w2 ra2 rc2 (hs++[z])) (hg:w.grownBy w2 (Value.ownBlock (.slice ra hs.length rc)))
  (ha:∃ g,ra2=some ⟨g,0,none⟩/\(ra=some ⟨g,0,none⟩\/g=w.heap.size)) :
  Rst Z w2 B ⟨x.vars,x.coords++[z.2],x.free⟩ (hs++[z]) ra2 rc2 va vc/\Fr (Yv ra va) w w2/\(∀ g,ra2=some g->ra=some g\/w.heap.size<=g.block):=by
 have hne:∀ g,va=some g->Value.ownBlock (.slice ra hs.length rc)≠some g.block:=fun g hg e=>by
  cases hv:ra with
  | none=>rw [hv] at e;simp [Value.ownBlock] at e
  | some g' =>
   rw [hv] at e;simp [Value.ownBlock] at e;exact qfp h.co h.vr dd g' g hv hg e
 have hfr:Fr (Yv ra va) w w2:=(Fr.refl (Yv ra va) w).grown hg fun g hg=>.inl (.inl ⟨g,hg,rfl⟩)
 have hra:∀ g,ra2=some g->ra=some g\/w.heap.size<=g.block:=fun g hg=>by
  exact zz51
 have hm:∀ b,Yr Z ra2 va b->Yr Z ra va b\/w.heap.size<=b:=fun b hb=>by
  rcases hb with (⟨g,hg,rfl⟩ | hb) | hb
  ·
   rcases hra g hg with e | e
   · exact .inl (.inl (.inl ⟨g,e,rfl⟩))
   · exact .inr e
  · exact .inl (.inl (.inr hb))
  · exact .inl (.inr hb)
 refine ⟨⟨by simp [h.eq],ho,h.vr.grown hg hne,fun u hu=>?_⟩,hfr,hra⟩;rcases List.mem_append.1 hu with e | e
 · exact (h.all u e).move hm (hfr.mono fun b hb=>.inl hb)
 ·
  rw [List.mem_singleton] at e;subst e;exact hz.move hm (hfr.mono fun b hb=>.inl hb)
theorem qce {g:Nat} (h:¬ Yv ra va g) (hv:∀ p,va'=some p->va=some p\/w.heap.size<=p.block) (hg:g<w.heap.size):¬ Yv ra va' g:=fun hy=>by
 rcases hy with hy | ⟨p,hp,e⟩
 · exact h (.inl hy)
 ·
  rcases hv p hp with e2 | e2
  · exact h (.inr ⟨p,e2,e⟩)
  · omega
end
def qpi (Z:Nat->Prop) (B:Nat) (x:Frm) (v:Vr) (hs:List (VQ × Vec)) (ra:Option Addr) (rc:Nat) (va:Option Addr) (w:World) (e:Ending) (w':World):Prop :=
 ∃ va' vc' a c,e=.returned (.tuple #[.agg #[.slice ra hs.length rc,.slice va' (x.vars.length+1) vc'],.slice a (varP x.vars.length).length c]) /\
  Rst Z w' B ⟨x.vars++[v],x.coords,x.free⟩ hs ra rc va' vc'/\PolX (Yr Z ra va') w' a c (varP x.vars.length)/\Fr (Yv ra va) w w'/\(∀ g,va'=some g->va=some g\/w.heap.size<=g.block)
theorem qdj (Z:Nat->Prop) (B:Nat) (x:Frm) (hs:List (VQ × Vec)) (ra va:Option Addr) (rc vc:Nat) (kind step number:Int) (w:World) (hR:Rst Z w B x hs ra rc va vc) (hl:x.vars.length<=1000) (hZ:∀ b,Z b->b<w.heap.size) (hBw:B<=w.heap.size) :
  Calls Tryz.prog 97 #[.agg #[.slice ra hs.length rc,.slice va x.vars.length vc],.int .i64 kind,.int .i64 step,.int .i64 number] w (qpi Z B x (kind,step,number) hs ra rc va w):=by
 have HR:=Hd hR;have HZ:=Hd hZ;have hn0:∀ g,w.heap.size<=g->¬ Yv ra va g:=fun g hg h=>by have:=hR.lt _ h;omega
 replace hn0:=Hd hn0;clear hR hZ;go_enter Tryz.func97,Tryz.ntmps97;have hvl:x.vars.length+1-1=x.vars.length:=oo
 obtain ⟨vr,hvr⟩:∃ v:Vr,v=(kind,step,number):=⟨_,rfl⟩
 rw [<- hvr];have hcv:vrC vr=[.int .i64 kind,.int .i64 step,.int .i64 number]:=by rw [hvr];rfl
 replace hvr:=Hd hvr;replace hcv:=Hd hcv
 go_wp2_with (at_builtin;go_must (refine qaa (fun W=>Blk W w.heap.size 37 #[.slice ra hs.length rc,.slice va x.vars.length vc]/\Blk W (w.heap.size+1) 37 #[.slice none 0 0,.slice none 0 0]/\Blk W (w.heap.size+1+1) 138 #[.int .i64 kind,.int .i64 step,.int .i64 number]/\Below w.heap.size w W) ⟨bk,bk,bk,zg⟩ ?_);rintro w2 ⟨h0,h1,h2,hw2⟩;have HR2:Rst (Zk Z w.heap.size 3) w2 B x hs ra rc va vc:=(HR.out.more (qed (nlr _))).call hw2;go_must (refine qay (B:=B) rfl (.tmp 11) (.tmp 16) 35 rfl Tryz.underlying35 qus rfl oo oo qje va vc rfl HR2.vr vr (qro _) (w.heap.size+1+1) 1 rfl (fun j u hu=>by rw [hcv.out] at hu;have e:=h2.cell j;rw [e];simpa using hu) (x.vars++[vr]) rfl (by simp;omega) (by have:=hw2.size;omega) ?_);intro va2 vc2 w3 ho3 hg3 ha3;have hv3:=HR2.var vr ho3 hg3 ha3;have hlt2:=Hd h2.lt;have h03:=h0.grown hg3 (Own.ne_blk HR2.vr h0 dd);have h13:=h1.grown hg3 (Own.ne_blk HR2.vr h1 dd);obtain ⟨y0,y1⟩:=cq2 h03;have f1:=h03.frozen 1;have hl13:=h13.lt;replace hv3:=Hd hv3;replace hw2:=Hd hw2;have h03h:=Hd h03;have h13h:=Hd h13;clear h0 h1 h2 HR2 ho3 hg3 ha3 h03 h13)
 refine qaa (fun W=>Blk W w.heap.size 37 #[.slice ra hs.length rc,.slice va2 (x.vars.length+1) vc2]/\Blk W (w.heap.size+1) 37 #[.slice none 0 0,.slice none 0 0]/\Rst (Zk Z w.heap.size 3) W B ⟨x.vars++[vr],x.coords,x.free⟩ hs ra rc va2 vc2/\Fr (Yv ra va) w W/\w.heap.size+3<=W.heap.size) ⟨by have a:=h03h.out;exact bk,by have a:=h13h.out;exact bk,?_,?_,?_⟩ ?_
 · refine hv3.out.1.set_ (.inr ⟨nlr _,oo⟩) (qce (hn0.out _ (nlr _)) hv3.out.2.2 (by have:=hlt2.out;omega))
 · exact ((Fr.below hw2.out).trans hv3.out.2.1).setc (.inr (nlr _))
 · have e1:=hv3.out.2.1.size;have e2:=hlt2.out;simp only [World.size_setCell];omega
 have hvv:∀ g,va2=some g->va=some g\/w.heap.size<=g.block:=fun g hg=>by
  have:=hw2.out.size;rcases hv3.out.2.2 g hg with e | e
  · exact .inl e
  · exact .inr oo
 replace hvv:=Hd hvv;have hn1':¬ Yv ra va2 (w.heap.size+1):=qce (hn0.out (w.heap.size+1) oo) hv3.out.2.2 (by have:=hlt2.out;omega);replace hn1':=Hd hn1';clear y0 y1 f1 hl13 hv3 hw2 h03h h13h;rintro w4 ⟨h0,h1,hR4,hf4,hs4⟩;obtain ⟨g1,hg1⟩:∃ g,g=w.heap.size+1:=⟨_,rfl⟩
 rw [<- hg1] at h1 ⊢;have hgl:=h1.lt;have hgw:w.heap.size<=g1:=oo
 have hZ1:Zk Z w.heap.size 3 g1:=.inr oo;have hYl:∀ b,Yr (Zk Z w.heap.size 3) ra va2 b->b<w4.heap.size:=fun b hb=>by
  rcases hb with hb | hb | hb
  · exact hR4.lt b hb
  · have:=HZ.out b hb;have:=hf4.size;omega
  · omega
 have hn1:¬ Yv ra va2 g1:=by rw [hg1];exact hn1'.out
 have x0:=held (h0.cell 0);have x1:=held (h0.cell 1);have s0:Below w4.heap.size w4 w4.drew:=brf.drew;replace hYl:=Hd hYl;replace hR4:=Hd hR4;replace hf4:=Hd hf4;replace hg1:=Hd hg1;replace hZ1:=Hd hZ1;replace hn1:=Hd hn1;have hwrp:IntKind.i64.wrap (x.vars.length:Int)=x.vars.length:=(IntWalk.i64_left _).trans (IntWalk.wrap64_in _ oo);clear h0;refine wrx (S:=Below w4.heap.size w4) [(0,.q),(1,.q),(2,.q),(3,.q),(4,.q),(5,.l),(6,.t),(7,.p)] (s0) ?_
 iterate 5 (refine qaf rfl rfl fun K hK=>xq ?_;go_simp;refine hK _ _ ?_;clear hK K)
 refine vl fun K hK=>?_
 go_simp;refine (qxg (Yr (Zk Z w.heap.size 3) ra va2) x.vars.length w4.drew hYl.out oo).mono ?_;rintro r w5 ⟨a5,c5,rfl,hP5,hb5⟩;dsimp only;refine hK.out _ _ (bth s0 hb5) (fun _=>?_);clear hK K;have s5:=bth s0 hb5;have h15:=h1.below' s5;obtain ⟨z0,z1⟩:=cq2 h15;obtain ⟨f0,f1⟩:=fq2 h15;have zl:=h15.lt;replace hP5:=Hd hP5;refine vt fun K hK=>?_
 go_simp;refine hK.out _ _ ?_;clear hK K
 refine qaj rfl rfl fun K hK=>xp ?_;go_simp;refine hK _ _ ?_;clear hK K
 refine qad ?_;clear x0 x1 s0 z0 z1 f0 f1 zl;go_wp2;refine qaa (fun W=>Blk W g1 37 #[.slice ra hs.length rc,.slice va2 (x.vars.length+1) vc2]/\Rst Z W B ⟨x.vars++[vr],x.coords,x.free⟩ hs ra rc va2 vc2/\PolX (Yr Z ra va2) W a5 c5 (varP x.vars.length)/\Fr (Yv ra va) w W) ⟨bk,?_,?_,?_⟩ ?_
 · exact (((hR4.out.call s5).set_ hZ1.out hn1.out).set_ hZ1.out hn1.out).less fun b hb=>.inl hb
 · exact (((hP5.out.step (Agr.setc (.inr hZ1.out) (Agr.refl _ _))).step (Agr.setc (.inr hZ1.out) (Agr.refl _ _)))).less fun b hb=>hb.imp id .inl
 · exact ((hf4.out.call s5).setc (.inr hgw)).setc (.inr hgw)
 rintro w6 ⟨hF,hR6,hP6,hf6⟩;obtain ⟨e0,e1⟩:=cq2 hF;refine bodyPost_ret (v:=.tuple #[.agg #[.slice ra hs.length rc,.slice va2 (x.vars.length+1) vc2],.slice a5 (varP x.vars.length).length c5]) (by simp [results,Tryz.results97,go_sem,e0,e1]) rfl ?_;exact ⟨va2,vc2,a5,c5,rfl,hR6,hP6,hf6,hvv.out⟩
end Go.Proofs.YtmdlbpibipnapaaGreat
