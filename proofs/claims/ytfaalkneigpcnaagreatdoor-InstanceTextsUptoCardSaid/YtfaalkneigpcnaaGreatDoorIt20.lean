/- Walk: the example that the statements on instances check (awake). (Printed by awk.py.) -/
import Derived.Test.YtfaalkneigpcnaaGreatDoorIt18
import Derived.Test.YtfaalkneigpcnaaGreatDoorIt19
import Derived.Test.YtfaalkneigpcnaaGreatDoorIt15
import Derived.Test.YtfaalkneigpcnaaGreatDoorIt16
import Derived.Test.YtfaalkneigpcnaaGreatDoorIt3
set_option linter.all false
set_option maxRecDepth 100000
set_option maxHeartbeats 4000000
namespace Go.Proofs.YtfaalkneigpcnaaGreatDoor
open Go.RowKit
def qrb (X:Nat->Prop) (x:Frm) (e:Ending) (w':World):Prop:=∃ (hs:List (VQ × Vec)) (ra va:Option Addr) (rc vc B:Nat),e=.returned (.tuple #[.agg #[.slice ra hs.length rc,.slice va x.vars.length vc],.int .i64 0])/\hs.map Prod.snd=x.coords/\OwnCo B w' ra rc hs/\OwnVr B w' va vc x.vars/\AllV X w' hs
theorem qk3 {a:Option Addr} {n c k:Nat} (h:∀ g:Addr,a=some g->g.block≠k):some k≠Value.ownBlock (.slice a n c):=fun e=>by
 cases a with
 | none=>simp [Value.ownBlock] at e
 | some p=>simp [Value.ownBlock] at e;exact h p rfl e.symm
def Cl3 (p q r:Addr) (u v x:Value) (W:World):Prop:=W.cell? p=some u/\W.cell? q=some v/\W.cell? r=some x
theorem Cl3.alloc {p q r:Addr} {u v x:Value} {W:World} (h:Cl3 p q r u v x W) {o:Obj}:Cl3 p q r u v x (W.alloc o) :=
 ⟨(qco W o) _ _ h.1,(qco W o) _ _ h.2.1,(qco W o) _ _ h.2.2⟩
theorem zz49 {P:Prop} (h:P:=by
 rw [if_pos hb1] at hst2;subst hst2;clear hB4 hV4;obtain ⟨y0,y1⟩:=cq2 hz4;obtain ⟨f0,f1⟩:=fq2 hz4;go_wp2;refine qab (fun W=>Blk W g2 58 #[.slice none 0 0,.slice none 0 0]/\Below w.heap.size w W) ⟨by ((with_reducible repeat first|assumption|(apply bF;focus omega)|apply bS|(apply bN;focus (simp;done))|apply bA|apply bD);all_goals rfl),by go_grown⟩ ?_;rintro wF ⟨hF4,hwF⟩;obtain ⟨e0,e1⟩:=cq2 hF4;refine bodyPost_ret (v:=.tuple #[.agg #[.slice none 0 0,.slice none 0 0],.int .i64 4]) (by simp [results,Tryz.results19,go_sem,e0,e1]) rfl ?_;exact ⟨hwF,rfl⟩
 ):P:=h
theorem qrc (X:Nat->Prop) (f:Fig) (sa:Option Addr) (sc:Nat) (ga:Option Addr) (gc:Nat) (W0 w:World) (h:FigR W0 sa sc ga gc f) (hW0:Below W0.heap.size W0 w) (hq:f.few) (he:f.err=0) (hX:∀ b,X b->W0.heap.size<=b/\b<w.heap.size) (hr:∀ s∈f.steps,s.kind=2->s.ratio.short=true) :
  Calls Tryz.prog 19 #[f.val sa sc ga gc] w fun e w'=>Below w.heap.size w w'/\match qc3 ⟨[],[],0⟩ 0 f.steps with
   | some x=>qrb X x e w'
   | none=>e=.returned (.tuple #[.agg #[.slice none 0 0,.slice none 0 0],.int .i64 4]):=by
 obtain ⟨hl,hS⟩:=qe2 he;have C:=fun W (hW:Below w.heap.size w W)=>qih f sa sc ga gc W ⟨h.1.ext (xbw (bth hW0 hW)),h.2.ext (xbw (bth hW0 hW))⟩ hq
 rw [he] at C;unfold Fig.val at C ⊢;have HS:=Hd h.1;replace hS:=Hd hS;replace C:=Hd C;have HX:=Hd hX;have HW:=Hd hW0;replace hr:=Hd hr;clear h hq he hX hW0;obtain ⟨res,hres⟩:∃ res,qc3 ⟨[],[],0⟩ 0 f.steps=res:=⟨_,rfl⟩
 rw [hres];replace hres:=Hd hres;obtain ⟨steps,goals⟩:=f;dsimp only at HS hS C hl hr hres ⊢;go_enter Tryz.func19,Tryz.ntmps19;go_wp2_with fail;refine qad (fun W=>Blk W w.heap.size 25 #[.slice sa steps.length sc,.slice ga goals.length gc]/\Blk W (w.heap.size+1) 58 #[.slice none 0 0,.slice none 0 0]/\Below w.heap.size w W) (by refine ⟨?_,?_,?_⟩<;>first|((with_reducible repeat first|assumption|(apply bF;focus omega)|apply bS|(apply bN;focus (simp;done))|apply bA|apply bD);all_goals rfl)|go_grown) ?_;rintro w0 ⟨hF,hz,hw0⟩;refine (C.out w0 hw0).mono ?_;rintro e w1 ⟨rfl,hb1⟩;have hw1:=bth hw0 hb1;replace hF:=hF.below' hb1;replace hz:=hz.below' hb1;obtain ⟨z0,z1⟩:=cq2 hF;have hzl:=hz.lt;have hfl:=hF.lt;clear hw0 hb1;go_wp2
 refine qab (fun W=>Blk W w.heap.size 25 #[.slice sa steps.length sc,.slice ga goals.length gc]/\Blk W (w.heap.size+1) 58 #[.slice none 0 0,.slice none 0 0]/\Blk W w1.heap.size 90 #[.slice none 0 0,.slice none 0 0,.int .i64 0]/\Below w.heap.size w W) (by refine ⟨?_,?_,?_,?_⟩<;>first|((with_reducible repeat first|assumption|(apply bF;focus omega)|apply bS|(apply bN;focus (simp;done))|apply bA|apply bD);all_goals rfl)|go_grown) ?_;rintro w2 ⟨hF2,hz2,hB2,hw2⟩;obtain ⟨gB,hgB⟩:∃ g,g=w1.heap.size:=⟨_,rfl⟩
 obtain ⟨g2,hg2⟩:∃ g,g=w.heap.size+1:=⟨_,rfl⟩
 have hwg:w.heap.size+1<w1.heap.size:=hzl;rw [<- hgB] at hB2 ⊢;rw [<- hg2] at hz2 ⊢;have hgw:w.heap.size<=g2:=by omega
 have hgg:g2<gB:=by omega
 have hgl:=hz2.lt;replace hgB:=Hd hgB;replace hg2:=Hd hg2;clear hF hz z0 z1 hzl hfl hwg hw1
 go_loopg [6,7,8,20] steps.length (fun m _ _ _ q wr=>∃ (k:Nat) (x:Frm) (hs:List (VQ × Vec)) (ra va:Option Addr) (rc vc D M:Nat),Hid (k+m=steps.length)/\q=.int .i64 k/\Below w.heap.size w wr/\Blk wr g2 58 #[.slice none 0 0,.slice none 0 0]/\Hid (Bst (Xg X g2) wr gB x hs ra rc va vc)/\Hid (FrmOk k D M x)/\Hid (qc3 x k (steps.drop k)=res))
 case atStart=>exact ⟨0,⟨[],[],0⟩,[],none,none,0,0,1,1,by show _=_;omega,rfl,hw2,hz2,⟨rfl,hB2,Own.nil,Own.nil,fun z hz=>by cases hz⟩,by simp [FrmOk,Hid],hres.out⟩
 case round =>
  obtain ⟨k,x,hs,ra,va,rc,vc,D,M,hm,rfl,hwr,hzr,hB,hok,hst⟩:=hrel;by_cases hlt:k<steps.length
  ·
   obtain ⟨s,hs_⟩:=qac hlt;have hsi:=hS.out k s hs_;have hsr:=hr.out s (List.mem_of_getElem? hs_);obtain ⟨b,o,rfl,p,hC,hP,hin,hsz⟩:=HS.out.2.2 k s hs_;have hl0:=HS.out.len;have hwr0:=bth HW.out hwr;obtain ⟨c0,c1,c2,c3,c4,c5⟩:=hC;have d0:=held c0 wr hwr0;have d1:=held c1 wr hwr0;have d2:=held c2 wr hwr0;have d3:=held c3 wr hwr0;have d4:=held c4 wr hwr0;have d5:=held c5 wr hwr0;replace hsi:=Hd hsi;replace hsr:=Hd hsr;replace hP:=Hd hP;replace hin:=Hd hin;replace hs_:=Hd hs_;clear c0 c1 c2 c3 c4 c5;go_wp2_with fail;refine qad (fun W=>Below wr.heap.size wr W) (by go_grown) ?_;intro w3 hb3;have hgl3:g2<w3.heap.size:=ltl hzr.lt hb3.size;have hwW:=bth hwr0 hb3;have hBW:=hB.out.call hb3;have hge:=hBW.ge;have hYge:∀ b,Yz (Xg X g2) gB ra va b->W0.heap.size<=b:=fun b hb=>by
    have:=HW.out.size;rcases hb with hb | hb | rfl
    · have:=hge b hb;omega
    · exact (HX.out b hb).1
    · omega
   have hI:Rd (Yz (Xg X g2) gB ra va) w3 fun V=>IntsR V p.aa p.ac s.args:=(Rd.arg (w:=W0) (fun V e=>hP.out.1.ext e) hYge).call hwW
   have hx:s.kind=2->Rd (Yz (Xg X g2) gB ra va) w3 fun V=>QAc V ⟨s.ratio.neg,s.ratio.num.length,p.na,p.nc,s.ratio.den.length,p.da,p.dc⟩ s.ratio.q:=fun hk=>(Rd.arg (w:=W0) (fun V e=>(RtZ.sk (r:=s.ratio) ⟨rfl,rfl,rfl,(hP.out.2.1).ext e,(hP.out.2.2).ext e⟩ (hsr.out hk)).1) hYge).call hwW
   have hqb:s.kind=2->s.ratio.q.num.natAbs<=2 ^ 32/\s.ratio.q.den<=2 ^ 32:=fun hk=>by
    have h2:=(RtZ.sk (show RtZ W0 s.ratio ⟨s.ratio.neg,s.ratio.num.length,p.na,p.nc,s.ratio.den.length,p.da,p.dc⟩ from ⟨rfl,rfl,rfl,hP.out.2.1,hP.out.2.2⟩) (hsr.out hk)).2;have e1:=qbi s.ratio.q;have e2:=qbj s.ratio.q;exact ⟨Nat.le_of_lt (ltl (qa2 _) (Nat.le_trans (Nat.pow_le_pow_right (by decide) (Nat.le_trans e1 h2)) (by decide))),Nat.le_of_lt (ltl (qa2 _) (Nat.le_trans (Nat.pow_le_pow_right (by decide) (Nat.le_trans e2 h2)) (by decide)))⟩
   have hX3:∀ b,Xg X g2 b->b<w3.heap.size:=fun b hb=>hb.elim (fun h=>by have:=(HX.out b h).2;have:=hwr.size;have:=hb3.size;omega) fun e=>by rw [e];exact hgl3
   have CS:=qtf (Xg X g2) gB x hs ra va rc vc s.point p.aa p.ac ⟨s.ratio.neg,s.ratio.num.length,p.na,p.nc,s.ratio.den.length,p.da,p.dc⟩ k D M w3 hBW hX3 hok.out (by omega) s.kind hsi.out.1 hsi.out.2.1 s.args s.ratio.q hsi.out.2.2.1 hsi.out.2.2.2.1 hI hx hqb;refine CS.mono ?_;clear CS;rintro e w4 ⟨va4,vc4,t,rfl,hB4,hV4,hf4,hv4⟩;have hdr:steps.drop k=s :: steps.drop (k+1):=by
    rw [List.drop_eq_getElem_cons hlt];congr 1;have:=hs_.out;rw [List.getElem?_eq_getElem hlt] at this;exact Option.some.inj this
   have hst2:=hst.out;rw [hdr,qc3] at hst2;have hnx:=FrmOk.next hok.out s.kind s.args s.ratio.q hqb;revert hB4 hV4 hst2 hnx;generalize nextF x s.kind s.args s.ratio.q k=P;intro hB4 hV4 hst2 hnx;have hz4:Blk w4 g2 58 #[.slice none 0 0,.slice none 0 0]:=(hzr.below' hb3).fr hf4 fun h=>by have:=hge _ h;omega
   have hgBw:w.heap.size<=gB:=by omega
   have hb4:Below w.heap.size w w4:=Go.Proofs.YtfaalkneigpcnaaGreatDoor.Below.fr (bth hwr hb3) hf4 (fun b hb=>by have:=hge b hb;omega) (by have:=hwr.size;have:=hb3.size;omega);have q1:=hB4.blk.cell 1;have q0:=hB4.blk.cell 0;have qf0:=hB4.blk.frozen 0;have ql:=hB4.blk.lt;have zl4:=hz4.lt;by_cases c1:64<P.1.length
   ·
    have d1:decide (64<P.1.length)=true:=decide_eq_true c1;have hb1:bigF P=true:=by unfold bigF;simp [c1]
    exact zz49
   ·
    have d1:decide (64<P.1.length)=false:=decide_eq_false c1;by_cases c2:4000<P.2.1.length
    ·
     have d2:decide (4000<P.2.1.length)=true:=decide_eq_true c2;have hb1:bigF P=true:=by unfold bigF;simp [c2]
     exact zz49
    ·
     have d2:decide (4000<P.2.1.length)=false:=decide_eq_false c2;by_cases c3:4000<P.2.2.length
     ·
      have d3:decide (4000<P.2.2.length)=true:=decide_eq_true c3;have hb1:bigF P=true:=by unfold bigF;simp [c3]
      exact zz49
     ·
      have d3:decide (4000<P.2.2.length)=false:=decide_eq_false c3;have hb1:¬ bigF P=true:=by unfold bigF;simp;omega
      rw [if_neg hb1] at hst2;obtain ⟨D',M',hok2⟩:=hnx (by simpa using hb1);replace hst2:=Hd hst2;replace hok2:=Hd hok2;have hlh:hs.length<=100:=by
       have e1:=congrArg List.length hB4.eq;have e2:=hok.out.1;simp at e1
       omega
      have hB4h:=Hd hB4;have hV4h:=Hd hV4;have hf4h:=Hd hf4;have hzh:=Hd hz4;have hlhh:=Hd hlh;have hgeh:=Hd hge;have hvh:=Hd hv4;clear hB4 hV4 hnx hf4 hz4 hlh hb1 hge hv4;go_wp2;refine qab (fun W=>Blk W w4.heap.size 94 #[.slice t.a P.2.1.length t.c,.slice t.b P.2.2.length t.d]/\Below w4.heap.size w4 W) ⟨by ((with_reducible repeat first|assumption|(apply bF;focus omega)|apply bS|(apply bN;focus (simp;done))|apply bA|apply bD);all_goals rfl),by go_grown⟩ ?_;rintro w5 ⟨hv5,hb5⟩;obtain ⟨gv,hgv⟩:∃ g,g=w4.heap.size:=⟨_,rfl⟩
      rw [<- hgv] at hv5 ⊢;have hl5:=hv5.lt;have hB5:=hB4h.out.call hb5;have hV5:=hV4h.out.call hb5;have nv:¬ Yb gB ra va4 gv:=fun h=>by have:=hB4h.out.lt _ h;omega
      replace hgv:=Hd hgv;have y0:∀ W,Cl3 ⟨gB,0,none⟩ ⟨gv,0,none⟩ ⟨gv,1,none⟩ (.slice ra hs.length rc) (.slice t.a P.2.1.length t.c) (.slice t.b P.2.2.length t.d) W->W.cell? ⟨gB,0,none⟩=some (.slice ra hs.length rc):=fun W h=>h.1
      have y1:∀ W,Cl3 ⟨gB,0,none⟩ ⟨gv,0,none⟩ ⟨gv,1,none⟩ (.slice ra hs.length rc) (.slice t.a P.2.1.length t.c) (.slice t.b P.2.2.length t.d) W->W.cell? ⟨gv,0,none⟩=some (.slice t.a P.2.1.length t.c):=fun W h=>h.2.1
      have y2:∀ W,Cl3 ⟨gB,0,none⟩ ⟨gv,0,none⟩ ⟨gv,1,none⟩ (.slice ra hs.length rc) (.slice t.a P.2.1.length t.c) (.slice t.b P.2.2.length t.d) W->W.cell? ⟨gv,1,none⟩=some (.slice t.b P.2.2.length t.d):=fun W h=>h.2.2
      have s0:Cl3 ⟨gB,0,none⟩ ⟨gv,0,none⟩ ⟨gv,1,none⟩ (.slice ra hs.length rc) (.slice t.a P.2.1.length t.c) (.slice t.b P.2.2.length t.d) w5.drew:=⟨hB5.blk.cell 0,hv5.cell 0,hv5.cell 1⟩
      have hv5h:=Hd hv5;have hB5h:=Hd hB5;have hV5h:=Hd hV5;have nvh:=Hd nv;clear hv5 hB5 hV5 nv q0 q1 qf0 ql zl4;refine wrx (S:=Cl3 ⟨gB,0,none⟩ ⟨gv,0,none⟩ ⟨gv,1,none⟩ (.slice ra hs.length rc) (.slice t.a P.2.1.length t.c) (.slice t.b P.2.2.length t.d)) [(0,.q),(1,.q),(2,.q),(3,.q),(4,.q),(5,.q),(6,.q),(7,.q),(8,.q),(9,.q),(10,.q),(11,.l),(12,.l),(13,.p),(14,.p),(15,.p),(16,.t)] (s0) ?_
      iterate 11 (refine qam rfl rfl fun K hK=>xq ?_;go_simp;refine hK _ _ ?_;clear hK K)
      refine qaj rfl rfl (fun K hK=>?_);go_simp;refine hK.out _ _ (s0.alloc) (fun _=>?_);clear hK K;have hal:Below w5.heap.size w5 (w5.alloc (.cells #[.slice t.a P.2.1.length t.c,.slice t.b P.2.2.length t.d] 97)).drew:=(brf.alloc (nlr _) _).drew;have hB6:=hB5h.out.call hal;have hV6:=hV5h.out.call hal;have hrow:Blk (w5.alloc (.cells #[.slice t.a P.2.1.length t.c,.slice t.b P.2.2.length t.d] 97)).drew w5.heap.size 97 #[.slice t.a P.2.1.length t.c,.slice t.b P.2.2.length t.d]:=(Blk.new w5 _ _).drew;have sA:Cl3 ⟨gB,0,none⟩ ⟨gv,0,none⟩ ⟨gv,1,none⟩ (.slice ra hs.length rc) (.slice t.a P.2.1.length t.c) (.slice t.b P.2.2.length t.d) (w5.alloc (.cells #[.slice t.a P.2.1.length t.c,.slice t.b P.2.2.length t.d] 97)).drew:=s0.alloc
      have hz6:Blk (w5.alloc (.cells #[.slice t.a P.2.1.length t.c,.slice t.b P.2.2.length t.d] 97)).drew g2 58 #[.slice none 0 0,.slice none 0 0]:=(hzh.out.below' hb5).below' hal;have hb6:Below w.heap.size w (w5.alloc (.cells #[.slice t.a P.2.1.length t.c,.slice t.b P.2.2.length t.d] 97)).drew:=bth (bth hb4 hb5) hal;replace hB6:=Hd hB6;replace hV6:=Hd hV6;replace hrow:=Hd hrow;replace hz6:=Hd hz6;replace hb6:=Hd hb6;clear hal;refine qaj rfl rfl (fun K hK=>?_);refine qlk (B:=gB+1) (.tmp 54) (.tmp 60) 55 rfl Tryz.underlying55 ra rc rfl hB6.out.co (t,P.2) w5.heap.size 1 rfl (fun j u hu=>by have e:=hrow.out.cell j;rw [e];simpa [coC] using hu) (hs++[(t,P.2)]) rfl (by have:=hlhh.out;simp;omega) (by have:=hB6.out.blk.lt;omega) ?_;intro ra2 rc2 w6 ho6 hg6 ha6;have hp6:=hB6.out.push (t,P.2) hV6.out ho6 hg6 ha6
      have s6:Cl3 ⟨gB,0,none⟩ ⟨gv,0,none⟩ ⟨gv,1,none⟩ (.slice ra hs.length rc) (.slice t.a P.2.1.length t.c) (.slice t.b P.2.2.length t.d) w6 :=
       ⟨hg6.cell sA.1 (qk3 fun g hg=>by have:=(hB6.out.co.lt hg).1;dsimp only;omega),hg6.cell sA.2.1 (qk3 fun g hg e=>nvh.out (.inr (.inl ⟨g,hg,e.symm⟩))),hg6.cell sA.2.2 (qk3 fun g hg e=>nvh.out (.inr (.inl ⟨g,hg,e.symm⟩)))⟩
      have hzB:=hB6.out.blk.under hB6.out.co (Nat.lt_succ_self gB) hg6;have u0:=hzB.cell 0;have uf:=hzB.frozen 0;have ul:=hzB.lt;replace hp6:=Hd hp6;go_simp;refine hK.out _ _ s6 (fun _=>?_);clear hK K s6 sA s0 ho6 hg6 ha6 hzB
      iterate 3 (refine qav rfl rfl fun K hK=>xp ?_;go_simp;refine hK _ _ ?_;clear hK K)
      refine qah rfl rfl (fun K hK=>?_);go_simp;refine hK.out _ _ ?_;clear hK K;refine qak ?_;clear u0 uf ul y0 y1 y2 d0 d1 d2 d3 d4 d5;go_wp2;have hYg:∀ b,Yb gB ra va4 b->gB<=b:=hB6.out.ge;have hgq:g2<gB:=hgg;have hwB:=hgBw;have hm2:=hm.out;go_roundg (gk-1)
      case rel =>
       have hF:=hp6.out.2.1;have hsz:=hb6.out.size;exact ⟨k+1,putF x s.kind P,hs++[(t,P.2)],ra2,va4,rc2,vc4,D',M',by show _=_;omega,by go_num,Go.Proofs.YtfaalkneigpcnaaGreatDoor.Below.fr hb6.out hF (fun b hb=>by have:=hYg b hb;omega) (by omega),hz6.out.fr hF (fun h=>by have:=hYg _ h;omega),hp6.out.1,hok2.out,hst2.out⟩
      case measure=>have:=hm.out;omega
  ·
   have hst2:=hst.out;rw [List.drop_eq_nil_of_le (by omega),qc3] at hst2;subst hst2;have hg1:g2<gB+1:=by omega
   have hb:=hB.out;obtain ⟨q0,q1⟩:=cq2 hb.blk;have ql:=hb.blk.lt;obtain ⟨y0,y1⟩:=cq2 hzr;obtain ⟨f0,f1⟩:=fq2 hzr;have zl:=hzr.lt;replace hb:=Hd hb;go_wp2;refine qab (fun W=>Blk W g2 58 #[.slice ra hs.length rc,.slice va x.vars.length vc]/\Below w.heap.size w W/\OwnCo (gB+1) W ra rc hs/\OwnVr (gB+1) W va vc x.vars/\AllV X W hs) ⟨by ((with_reducible repeat first|assumption|(apply bF;focus omega)|apply bS|(apply bN;focus (simp;done))|apply bA|apply bD);all_goals rfl),by go_grown,(hb.out.co.far hg1 _).far hg1 _,(hb.out.vr.far hg1 _).far hg1 _,fun z hz=>?_⟩ ?_
   · exact (qa4 (qa4 ((hb.out.all z hz).less fun b hb=>.inr hb) (.inr rfl)) (.inr rfl)).less fun b hb=>.inl hb
   rintro wF ⟨hF4,hwF,ho1,ho2,hA⟩;obtain ⟨e0,e1⟩:=cq2 hF4;refine bodyPost_ret (v:=.tuple #[.agg #[.slice ra hs.length rc,.slice va x.vars.length vc],.int .i64 0]) (by simp [results,Tryz.results19,go_sem,e0,e1]) rfl ?_;exact ⟨hwF,hs,ra,va,rc,vc,gB+1,rfl,hb.out.eq,ho1,ho2,hA⟩
def nTwo (l:List Step):Nat:=(l.filter fun s=>twoK s.kind).length
theorem qq9 {l:List Step} {k:Nat} {s:Step} (h:l[k]? = some s):nTwo (l.take (k+1))=nTwo (l.take k)+if twoK s.kind=true then 1 else 0:=by
 unfold nTwo;rw [qbh h,List.filter_append,List.length_append];by_cases h1:twoK s.kind=true <;> simp [h1]
theorem qvf (l:List Step):nTwo l<=l.length:=List.length_filter_le _ _
def chF (f:Fig):Nat × Nat × Int :=
 if f.err=0 then match qc3 ⟨[],[],0⟩ 0 f.steps with
  | some x=>(nPar x.vars,nTwo f.steps,0)
  | none=>(0,0,4)
 else (0,0,f.err)
theorem qho:∀ (l:List Step) (x y:Frm) (i:Nat),x.vars.length<=64->qc3 x i l=some y->y.vars.length<=64
 | [],x,y,i,h,e=>by simp [qc3] at e;subst e;exact h
 | s :: r,x,y,i,h,e=>by
  rw [qc3] at e
  split at e
  · cases e
  ·
   next hb =>
   refine qho r _ y (i+1) ?_ e;unfold bigF at hb;simp only [Bool.or_eq_true,decide_eq_true_eq] at hb
   show (nextF x s.kind s.args s.ratio.q i).1.length<=64
   omega
theorem qst (f:Fig) (sa:Option Addr) (sc:Nat) (ga:Option Addr) (gc:Nat) (w:World) (h:FigR w sa sc ga gc f) (hq:f.few) (he:f.err≠0) :
  Calls Tryz.prog 19 #[f.val sa sc ga gc] w fun e w'=>Below w.heap.size w w'/\e=.returned (.tuple #[.agg #[.slice none 0 0,.slice none 0 0],.int .i64 f.err]):=by
 have C:=fun W (hW:Below w.heap.size w W)=>qih f sa sc ga gc W ⟨h.1.ext (xbw hW),h.2.ext (xbw hW)⟩ hq
 obtain ⟨er,her⟩:∃ er,er=f.err:=⟨_,rfl⟩
 rw [<- her] at C he ⊢;have hne:(er != 0)=true:=by simpa using he
 unfold Fig.val at C ⊢;replace C:=Hd C;replace her:=Hd her;replace he:=Hd he;clear h hq;go_enter Tryz.func19,Tryz.ntmps19;go_wp2_with fail;refine qad (fun W=>Blk W (w.heap.size+1) 58 #[.slice none 0 0,.slice none 0 0]/\Below w.heap.size w W) ⟨by ((with_reducible repeat first|assumption|(apply bF;focus omega)|apply bS|(apply bN;focus (simp;done))|apply bA|apply bD);all_goals rfl),by go_grown⟩ ?_;rintro w0 ⟨hz,hw0⟩;refine (C.out w0 hw0).mono ?_;rintro e w1 ⟨rfl,hb1⟩;have hw1:=bth hw0 hb1;replace hz:=hz.below' hb1;obtain ⟨y0,y1⟩:=cq2 hz;obtain ⟨f0,f1⟩:=fq2 hz;have zl:=hz.lt;clear hw0 hb1 C;go_wp2;refine qab (fun W=>Blk W (w.heap.size+1) 58 #[.slice none 0 0,.slice none 0 0]/\Below w.heap.size w W) ⟨by ((with_reducible repeat first|assumption|(apply bF;focus omega)|apply bS|(apply bN;focus (simp;done))|apply bA|apply bD);all_goals rfl),by go_grown⟩ ?_;rintro wF ⟨hF4,hwF⟩
 obtain ⟨e0,e1⟩:=cq2 hF4;refine bodyPost_ret (v:=.tuple #[.agg #[.slice none 0 0,.slice none 0 0],.int .i64 er]) (by simp [results,Tryz.results19,go_sem,e0,e1]) rfl ?_;exact ⟨hwF,rfl⟩
theorem qgt (f:Fig) (er:Int) (sa:Option Addr) (sc:Nat) (ga:Option Addr) (gc:Nat) (w:World) (hne:(er != 0)=true)
  (C:∀ W,Below w.heap.size w W->Calls Tryz.prog 19 #[f.val sa sc ga gc] W fun e w'=>Below W.heap.size W w'/\e=.returned (.tuple #[.agg #[.slice none 0 0,.slice none 0 0],.int .i64 er])) :
  Calls Tryz.prog 8 #[f.val sa sc ga gc] w (RetCh (0,0,er) w):=by
 unfold Fig.val at C ⊢;replace C:=Hd C;go_enter Tryz.func8,Tryz.ntmps8;go_wp2_with fail;refine qad (fun W=>Below w.heap.size w W) (by go_grown) ?_;intro w0 hw0;refine (C.out w0 hw0).mono ?_;rintro e w1 ⟨hb1,rfl⟩;have hw1:=bth hw0 hb1;clear hw0 hb1 C;go_wp2;refine bodyPost_ret (v:=.tuple #[.int .i64 0,.int .i64 0,.int .i64 er]) (by simp [results,Tryz.results8,go_sem]) rfl ?_;exact ⟨rfl,hw1.alloc hw1.size _⟩
theorem zz50 {P:Prop} (h:P:=by
 go_wp2;go_roundg (gk-1)
 case rel=>exact ⟨k+1,by have:=hm.out;show _=_;omega,congrArg _ (by rw [hn2.out];simp),by go_num,hnx.out⟩
 case measure=>have:=hm.out;omega
 ):P:=h
theorem qkp (x:Frm) (steps:List Step) (goals:List Fct) (sa:Option Addr) (sc:Nat) (ga:Option Addr) (gc:Nat) (w:World) (hS:qcl w sa sc steps) (hsl:steps.length<=100) (hxl:x.vars.length<=64)
  (C:∀ W,Below w.heap.size w W->Calls Tryz.prog 19 #[.agg #[.slice sa steps.length sc,.slice ga goals.length gc]] W fun e w'=>Below W.heap.size W w'/\qrb (fun _=>False) x e w') :
  Calls Tryz.prog 8 #[.agg #[.slice sa steps.length sc,.slice ga goals.length gc]] w (RetCh (nPar x.vars,nTwo steps,0) w):=by
 have HS:=Hd hS;replace C:=Hd C;obtain ⟨np,hnp⟩:∃ n,n=nPar x.vars:=⟨_,rfl⟩
 have hnp64:np<=64:=by have:=qnt x.vars;omega
 rw [<- hnp];replace hnp:=Hd hnp;clear hS;go_enter Tryz.func8,Tryz.ntmps8;go_wp2_with fail;refine qad (fun W=>Blk W w.heap.size 25 #[.slice sa steps.length sc,.slice ga goals.length gc]/\Below w.heap.size w W) ⟨by ((with_reducible repeat first|assumption|(apply bF;focus omega)|apply bS|(apply bN;focus (simp;done))|apply bA|apply bD);all_goals rfl),by go_grown⟩ ?_;rintro w0 ⟨h0,hw0⟩;refine (C.out w0 hw0).mono ?_;rintro e w1 ⟨hb1,hs,ra,va,rc,vc,B,rfl,_,_,hvr,_⟩;have hw1:=bth hw0 hb1;replace h0:=h0.below' hb1;replace hvr:=Hd hvr;obtain ⟨k0,k1⟩:=cq2 h0;have kl:=h0.lt;clear hw0 hb1 C;go_wp2
 refine qab (fun W=>Blk W w.heap.size 25 #[.slice sa steps.length sc,.slice ga goals.length gc]/\Blk W w1.heap.size 58 #[.slice ra hs.length rc,.slice va x.vars.length vc]/\Below w1.heap.size w1 W) (by refine ⟨?_,?_,?_⟩<;>first|((with_reducible repeat first|assumption|(apply bF;focus omega)|apply bS|(apply bN;focus (simp;done))|apply bA|apply bD);all_goals rfl)|go_grown) ?_;rintro w2 ⟨h2,hF,hb2⟩;have hw2:=bth hw1 hb2;have hvr2:=Hd (hvr.out.below hb2);obtain ⟨z0,z1⟩:=cq2 h2;obtain ⟨gF,hgF⟩:∃ g,g=w1.heap.size:=⟨_,rfl⟩
 rw [<- hgF] at hF ⊢;replace hgF:=Hd hgF;clear h0 k0 k1 kl hb2 hvr hw1;go_wp2
 go_loopg [3,7,19] steps.length (fun m ct _ q wr=>∃ k:Nat,Hid (k+m=steps.length)/\ct=.int .i64 (nTwo (steps.take k))/\q=.int .i64 k/\Below w2.heap.size w2 wr)
 case atStart=>exact ⟨0,by show _=_;omega,rfl,rfl,Below.refl _ _⟩
 case round =>
  obtain ⟨k,hm,rfl,rfl,hwr⟩:=hrel;have hz2:=h2.below' hwr;obtain ⟨z0,z1⟩:=cq2 hz2;have zl:=hz2.lt;have hw2r:=bth hw2 hwr;by_cases hlt:k<steps.length
  ·
   obtain ⟨s,hs_⟩:=qac hlt;obtain ⟨b,o,rfl,p,hC,hP,hin,hsz⟩:=HS.out.2.2 k s hs_;have hl0:=HS.out.len;obtain ⟨c0,c1,c2,c3,c4,c5⟩:=hC;have d0:=held c0 wr hw2r;have d1:=held c1 wr hw2r;have d2:=held c2 wr hw2r;have d3:=held c3 wr hw2r;have d4:=held c4 wr hw2r;have d5:=held c5 wr hw2r;have hbl:b<wr.heap.size:=World.block_lt_of_cell? wr _ d0;have hn:=qq9 hs_;have hle:=qvf (steps.take k);rw [List.length_take] at hle;replace hs_:=Hd hs_;replace hn:=Hd hn;replace hP:=Hd hP;replace hin:=Hd hin;have BR:=fun W=>qja s.kind W
   replace BR:=Hd BR;clear c0 c1 c2 c3 c4 c5 hz2;go_wp2_with fail;refine qad (fun W=>Below wr.heap.size wr W) (by go_grown) ?_;intro w3 hb3;refine (BR.out w3).mono ?_;rintro e w4 ⟨rfl,rfl⟩;have hnx:=Hd (bth hwr hb3);clear BR d0 d1 d2 d3 d4 d5 z0 z1 hb3;by_cases h2k:twoK s.kind=true
   ·
    rw [h2k];have hn2:=hn.out;rw [if_pos h2k] at hn2;replace hn2:=Hd hn2;clear h2k;exact zz50
   ·
    have h2f:twoK s.kind=false:=by simpa using h2k
    rw [h2f];have hn2:=hn.out;rw [if_neg h2k] at hn2;replace hn2:=Hd hn2;clear h2k h2f;exact zz50
  ·
   have hk:k=steps.length:=by have:=hm.out;omega
   have htk:nTwo (steps.take k)=nTwo steps:=by rw [hk,List.take_length]
   rw [htk];have hF3:=hF.below' hwr;obtain ⟨x0,x1⟩:=cq2 hF3;have xl:=hF3.lt;have CP:=qnf x.vars ra va B hs.length rc vc wr (hvr2.out.below hwr) (by omega);rw [<- hnp.out] at CP;replace CP:=Hd CP;replace htk:=Hd htk;clear hF3 hk hz2;go_wp2_with fail;refine CP.out.mono ?_;rintro e w5 ⟨⟨a5,c5,rfl⟩,hb5⟩;have hw5:=bth hw2r hb5;clear CP x0 x1 xl hb5 z0 z1 zl;go_wp2;refine bodyPost_ret (v:=.tuple #[.int .i64 np,.int .i64 (nTwo steps),.int .i64 0]) (by simp [results,Tryz.results8,go_sem]) rfl ?_;exact ⟨rfl,hw5⟩
theorem qus {f:Fig} (he:f.err=0) (hr:∀ s∈f.steps,s.ratio.num.length<=2/\s.ratio.den.length<=2):∀ s∈f.steps,s.kind=2->s.ratio.short=true:=fun s hs hk=>by
 obtain ⟨i,hi⟩:=List.getElem?_of_mem hs;have h1:=((qe2 he).2 i s hi).2.2.2.2 hk;exact Rt.short_iff.2 ⟨h1,hr s hs⟩
theorem qlj (f:Fig) (sa:Option Addr) (sc:Nat) (ga:Option Addr) (gc:Nat) (w:World) (h:FigR w sa sc ga gc f) (hq:f.few) (hr:∀ s∈f.steps,s.ratio.num.length<=2/\s.ratio.den.length<=2) :
  Calls Tryz.prog 8 #[f.val sa sc ga gc] w (RetCh (chF f) w):=by
 unfold chF;by_cases he:f.err=0
 ·
  rw [if_pos he];have C:=fun W (hW:Below w.heap.size w W)=>qrc (fun _=>False) f sa sc ga gc w W h hW hq he (fun b hb=>hb.elim) (qus he hr)
  cases hs:qc3 ⟨[],[],0⟩ 0 f.steps with
  | none =>
   rw [hs] at C;exact qgt f 4 sa sc ga gc w rfl C
  | some x =>
   rw [hs] at C;exact qkp x f.steps f.goals sa sc ga gc w h.1 (by have:=(qe2 he).1;omega) (qho f.steps _ x 0 (by simp) hs) C
 ·
  rw [if_neg he];exact qgt f f.err sa sc ga gc w (by simpa using he) fun W hW=>qst f sa sc ga gc W ⟨h.1.ext (xbw hW),h.2.ext (xbw hW)⟩ hq he
def stF (c:UInt8):Step:=⟨1,⟨#[c]⟩,[],⟨false,[],[]⟩⟩
def stW:List Step:=[stF 65,stF 66,stF 67,⟨7,⟨#[68]⟩,[2,0,1],⟨false,[],[]⟩⟩]
def figW:Fig:=⟨stW,[]⟩
theorem chW:chF figW=(3,0,0):=by decide +kernel
theorem ptsW:(stC (ratsI [4,1,3]) stW 4).1=[(0,0),(4,0),(1,3),(1,0)]:=by decide +kernel
theorem ptsV:(stC (ratsI [0,1,3]) stW 3).1=[(0,0),(0,0),(1,3)]:=by decide +kernel
theorem txtW:ofL (textI (qa0 stW 4) [(0,0),(4,0),(1,3),(1,0)])=⟨#[65,32,48,32,48,10,66,32,52,32,48,10,67,32,49,32,51,10,68,32,49,32,48,10]⟩:=by decide +kernel
theorem okW:∀ (k:Nat) (s:Step),k<=4->stW[k]? = some s->okC s (stC (ratsI [4,1,3]) stW k).1 (stC (ratsI [4,1,3]) stW k).2
 | 0,s,_,h=>by injection h with h;subst h;unfold okC qbg;decide +kernel
 | 1,s,_,h=>by injection h with h;subst h;unfold okC qbg;decide +kernel
 | 2,s,_,h=>by injection h with h;subst h;unfold okC qbg;decide +kernel
 | 3,s,_,h=>by injection h with h;subst h;unfold okC qbg;decide +kernel
 | k+4,s,_,h=>by cases h
theorem okV:∀ (k:Nat) (s:Step),k<=3->stW[k]? = some s->okC s (stC (ratsI [0,1,3]) stW k).1 (stC (ratsI [0,1,3]) stW k).2
 | 0,s,_,h=>by injection h with h;subst h;unfold okC qbg;decide +kernel
 | 1,s,_,h=>by injection h with h;subst h;unfold okC qbg;decide +kernel
 | 2,s,_,h=>by injection h with h;subst h;unfold okC qbg;decide +kernel
 | 3,s,_,h=>by injection h with h;subst h;unfold okC qbg;decide +kernel
 | k+4,s,_,h=>by cases h
theorem erW:∀ (k:Nat) (s:Step),k<4->stW[k]? = some s->(stepC s (stC (ratsI [4,1,3]) stW k).1 (stC (ratsI [4,1,3]) stW k).2).2.1=0
 | 0,s,_,h=>by injection h with h;subst h;decide +kernel
 | 1,s,_,h=>by injection h with h;subst h;decide +kernel
 | 2,s,_,h=>by injection h with h;subst h;decide +kernel
 | 3,s,_,h=>by injection h with h;subst h;decide +kernel
 | k+4,s,_,h=>by cases h
theorem erV:∀ (k:Nat) (s:Step),k<3->stW[k]? = some s->(stepC s (stC (ratsI [0,1,3]) stW k).1 (stC (ratsI [0,1,3]) stW k).2).2.1=0
 | 0,s,_,h=>by injection h with h;subst h;decide +kernel
 | 1,s,_,h=>by injection h with h;subst h;decide +kernel
 | 2,s,_,h=>by injection h with h;subst h;decide +kernel
 | k+3,s,h,_=>absurd h (by omega)
theorem enV:∀ s,stW[3]? = some s->(stepC s (stC (ratsI [0,1,3]) stW 3).1 (stC (ratsI [0,1,3]) stW 3).2).2.1=11:=fun s h=>by
 injection h with h;subst h;decide +kernel
theorem szW:∀ q∈ratsI [4,1,3],qsz q<=1000000:=by decide +kernel
theorem szV:∀ q∈ratsI [0,1,3],qsz q<=1000000:=by decide +kernel
theorem smW:∀ p∈[((0:Rat),(0:Rat)),(4,0),(1,3),(1,0)],qbg p:=by unfold qbg;decide +kernel
theorem nmW:∀ n∈qa0 stW 4,n.size<=100000000:=by decide +kernel
theorem fewW:figW.few:=by unfold Fig.few Rt.few;decide +kernel
theorem shW:∀ s∈figW.steps,s.ratio.num.length<=2/\s.ratio.den.length<=2:=by decide +kernel
theorem quo {W:World} {gS gA:Nat} (hS:Blk W gS 53 #[.int .i64 1,.string ⟨#[65]⟩,.slice none 0 0,.bool false,.slice none 0 0,.slice none 0 0,.int .i64 1,.string ⟨#[66]⟩,.slice none 0 0,.bool false,.slice none 0 0,.slice none 0 0,.int .i64 1,.string ⟨#[67]⟩,.slice none 0 0,.bool false,.slice none 0 0,.slice none 0 0,.int .i64 7,.string ⟨#[68]⟩,.slice (some ⟨gA,0,none⟩) 3 3,.bool false,.slice none 0 0,.slice none 0 0]) (hA:Blk W gA 3 #[.int .i64 2,.int .i64 0,.int .i64 1]):FigR W (some ⟨gS,0,none⟩) 4 none 0 figW:=by
 have hi:IntsR W (some ⟨gA,0,none⟩) 3 [2,0,1]:=⟨by simp,by simp [maxLen],fun k x hx=>⟨gA,0,rfl,by
  match k,hx with
  | 0,hx=>injection hx with hx;subst hx;exact ⟨hA.cell 0,rfl⟩
  | 1,hx=>injection hx with hx;subst hx;exact ⟨hA.cell 1,rfl⟩
  | 2,hx=>injection hx with hx;subst hx;exact ⟨hA.cell 2,rfl⟩⟩⟩
 have z:qb4 W ⟨none,0,none,0,none,0⟩ [] ⟨false,[],[]⟩:=⟨SlR.nil,SlR.nil,SlR.nil⟩
 refine ⟨⟨by decide,by simp [maxLen],fun k s hs=>⟨gS,0,rfl,?_⟩⟩,SlR.nil⟩
 match k,hs with
 | 0,hs=>injection hs with hs;subst hs;exact ⟨⟨none,0,none,0,none,0⟩,⟨hS.cell 0,hS.cell 1,hS.cell 2,hS.cell 3,hS.cell 4,hS.cell 5⟩,z,⟨by show (-9223372036854775808:Int)<=1;omega,by show (1:Int)<=9223372036854775807;omega⟩,by decide⟩
 | 1,hs=>injection hs with hs;subst hs;exact ⟨⟨none,0,none,0,none,0⟩,⟨hS.cell 6,hS.cell 7,hS.cell 8,hS.cell 9,hS.cell 10,hS.cell 11⟩,z,⟨by show (-9223372036854775808:Int)<=1;omega,by show (1:Int)<=9223372036854775807;omega⟩,by decide⟩
 | 2,hs=>injection hs with hs;subst hs;exact ⟨⟨none,0,none,0,none,0⟩,⟨hS.cell 12,hS.cell 13,hS.cell 14,hS.cell 15,hS.cell 16,hS.cell 17⟩,z,⟨by show (-9223372036854775808:Int)<=1;omega,by show (1:Int)<=9223372036854775807;omega⟩,by decide⟩
 | 3,hs=>injection hs with hs;subst hs;exact ⟨⟨some ⟨gA,0,none⟩,3,none,0,none,0⟩,⟨hS.cell 18,hS.cell 19,hS.cell 20,hS.cell 21,hS.cell 22,hS.cell 23⟩,⟨hi,SlR.nil,SlR.nil⟩,⟨by show (-9223372036854775808:Int)<=7;omega,by show (7:Int)<=9223372036854775807;omega⟩,by decide⟩
theorem ints3 {W:World} {g:Nat} {a b c:Int} (ha:(Lit.int .i64 a).wf=true) (hb:(Lit.int .i64 b).wf=true) (hc:(Lit.int .i64 c).wf=true) (h:Blk W g 3 #[.int .i64 a,.int .i64 b,.int .i64 c]):IntsR W (some ⟨g,0,none⟩) 3 [a,b,c] :=
 ⟨by simp,by simp [maxLen],fun k x hx=>⟨g,0,rfl,by
  match k,hx with
  | 0,hx=>injection hx with hx;subst hx;exact ⟨h.cell 0,ha⟩
  | 1,hx=>injection hx with hx;subst hx;exact ⟨h.cell 1,hb⟩
  | 2,hx=>injection hx with hx;subst hx;exact ⟨h.cell 2,hc⟩⟩⟩
theorem qvz {R:World->Prop} {B T B0 g:Nat} {w:World} {x y z:Value} (_:B0<=g) (h:Kp R B T w) (hg:g<B\/T<=g):R (((w.setCell ⟨g,0,none⟩ x).setCell ⟨g,1,none⟩ y).setCell ⟨g,2,none⟩ z):=(((h.setc hg).setc hg).setc hg).now
def FigAt (gS:Nat) (W:World):Prop:=FigR W (some ⟨gS,0,none⟩) 4 none 0 figW
theorem chAt (gS:Nat) (W:World) (h:FigAt gS W):Calls Tryz.prog 8 #[.agg #[.slice (some ⟨gS,0,none⟩) 4 4,.slice none 0 0]] W (RetCh (3,0,0) W):=by
 have:=qlj figW (some ⟨gS,0,none⟩) 4 none 0 W h fewW shW;rw [chW] at this;exact this
theorem ATW {gS:Nat} (qa:Option Addr) (qc:Nat) (W:World) (h:FigAt gS W) (hQ:QsR W qa qc (ratsI [4,1,3])):Calls Tryz.prog 11 #[.agg #[.slice (some ⟨gS,0,none⟩) 4 4,.slice none 0 0],.slice qa (ratsI [4,1,3]).length qc,.slice none 0 0] W (qi5 4 4 (ratsI [4,1,3]) [] [(0,0),(4,0),(1,3),(1,0)] W):=by
 have:=qmh stW [] (ratsI [4,1,3]) [] 4 (some ⟨gS,0,none⟩) none qa none 4 0 qc 0 W h.1 hQ SlR.nil (fun V hV=>chAt gS V (h.ext (xbw hV))) (by decide) (by decide) szW (by decide) (by decide) (fun k s hk hs=>okW k s hk hs) erW (fun s hs=>by cases hs);rw [ptsW] at this;exact this
theorem ATV {gS:Nat} (qa:Option Addr) (qc:Nat) (W:World) (h:FigAt gS W) (hQ:QsR W qa qc (ratsI [0,1,3])):Calls Tryz.prog 11 #[.agg #[.slice (some ⟨gS,0,none⟩) 4 4,.slice none 0 0],.slice qa (ratsI [0,1,3]).length qc,.slice none 0 0] W (qi5 4 3 (ratsI [0,1,3]) [] [(0,0),(0,0),(1,3)] W):=by
 have:=qmh stW [] (ratsI [0,1,3]) [] 3 (some ⟨gS,0,none⟩) none qa none 4 0 qc 0 W h.1 hQ SlR.nil (fun V hV=>chAt gS V (h.ext (xbw hV))) (by decide) (by decide) szV (by decide) (by decide) (fun k s hk hs=>okV k s hk hs) erV (fun s hs=>enV s hs);rw [ptsV] at this;exact this
theorem zz53 {P:Prop} (h:P:=by
 obtain ⟨f0,f1,f2⟩:=cq3 hT.out;obtain ⟨z0,z1,z2⟩:=fq3 hT.out;have hlT:=hT.out.lt;refine qao rfl rfl (fun K hK=>?_);go_simp;refine hK.out _ _ (qbd s4 hgT.out) (fun _=>?_);clear hK K
 iterate 1 (refine qb6 rfl rfl fun K hK=>xq ?_;go_simp;refine hK _ _ ?_;clear hK K)
 iterate 1 (refine qir rfl rfl fun K hK=>xp ?_;go_simp;refine hK _ _ ?_;clear hK K)
 refine qcq ?_;clear f0 f1 f2 z0 z1 z2;go_wp2
 go_meet
 case rel=>exact ⟨gT,ra,rb,rp,rc,rd,rq,_,_,rfl,rfl,rfl,Hd (by have:=hT.out;((with_reducible repeat first|assumption|(apply bF;focus omega)|apply bS|(apply bN;focus (simp;done))|apply bA|apply bD);all_goals rfl)),Hd (qvz hgT.out hRP.out hTp.out),Hd (qbd s4 hgT.out)⟩
 ):P:=h
theorem zz51 {P:Prop} (h:P:=by
 refine qao rfl rfl (fun K hK=>?_);go_simp;have hTl:=hT.out.lt;refine (ATW qa qc v3 (HF.out _ s3) hQ.out).mono ?_;rintro r v4 ⟨hg,_⟩;obtain ⟨ra,rb,rp,rc,rd,rq,rfl,hR1,hR2,hR3,hb⟩:=hg rfl;dsimp only;have s4:=bth s3 hb;refine hK.out _ _ s4 (fun _=>?_);clear hK K;replace hT:=Hd (hT.out.below' hb);have hRP:=Hd hR3;have hTp:=Hd (show gT<v3.heap.size\/v4.heap.size<=gT from .inl hTl);clear hR1 hR2 hR3 hb hg
 iterate 4 (refine qb6 rfl rfl fun K hK=>xq ?_;go_simp;refine hK _ _ ?_;clear hK K)
 exact zz53
 ):P:=h
theorem zz54 {P:Prop} (h:P:=by
 obtain ⟨f0,f1,f2⟩:=cq3 hT.out;obtain ⟨z0,z1,z2⟩:=fq3 hT.out;have hlT:=hT.out.lt;refine qao rfl rfl (fun K hK=>?_);go_simp;refine hK.out _ _ (qbd s4 hgT.out) (fun _=>?_);clear hK K
 iterate 1 (refine qb6 rfl rfl fun K hK=>xq ?_;go_simp;refine hK _ _ ?_;clear hK K)
 iterate 1 (refine qir rfl rfl fun K hK=>xp ?_;go_simp;refine hK _ _ ?_;clear hK K)
 refine qcq ?_;clear f0 f1 f2 z0 z1 z2;go_wp2
 go_meet
 case rel=>exact ⟨rfl,rfl,Hd (qbd s4 hgT.out)⟩
 ):P:=h
theorem zz52 {P:Prop} (h:P:=by
 refine qao rfl rfl (fun K hK=>?_);go_simp;have hTl:=hT.out.lt;refine (ATV qa qc v3 (HF.out _ s3) hQ.out).mono ?_;rintro r v4 ⟨_,hg⟩;obtain ⟨rfl,hb⟩:=hg (by decide);dsimp only;have s4:=bth s3 hb;refine hK.out _ _ s4 (fun _=>?_);clear hK K;replace hT:=Hd (hT.out.below' hb);clear hb hg
 iterate 4 (refine qb6 rfl rfl fun K hK=>xq ?_;go_simp;refine hK _ _ ?_;clear hK K)
 exact zz54
 ):P:=h
theorem zz55 {P:Prop} (h:P:=by
 refine qao rfl rfl (fun K hK=>?_);go_simp;refine (qfv [4,1,3] (some ⟨gI,0,none⟩) 3 v2 hI.out (by decide) (by intro z hz;simp at hz;unfold InInt;omega)).mono ?_;rintro r v3 ⟨qa,qc,rfl,KQ,hb⟩;dsimp only;have s3:=bth s2 hb;refine hK.out _ _ s3 (fun _=>?_);clear hK K;have hQ:=Hd KQ.now;replace hT:=Hd (hT.out.below' hb);clear KQ hb;exact zz51
 ):P:=h
theorem zz56 {P:Prop} (h:P:=by
 refine qao rfl rfl (fun K hK=>?_);go_simp;refine (qfv [0,1,3] (some ⟨gI,0,none⟩) 3 v2 hI.out (by decide) (by intro z hz;simp at hz;unfold InInt;omega)).mono ?_;rintro r v3 ⟨qa,qc,rfl,KQ,hb⟩;dsimp only;have s3:=bth s2 hb;refine hK.out _ _ s3 (fun _=>?_);clear hK K;have hQ:=Hd KQ.now;replace hT:=Hd (hT.out.below' hb);clear KQ hb;exact zz52
 ):P:=h
theorem qnj (w:World):Calls Tryz.prog 7 #[] w fun e w'=>e=.returned (.bool true)/\Below w.heap.size w w':=by
 go_enter Tryz.func7,Tryz.ntmps7;go_wp2_with fail;refine qad (fun W=>Blk W (w.heap.size+1) 53 #[.int .i64 1,.string ⟨#[65]⟩,.slice none 0 0,.bool false,.slice none 0 0,.slice none 0 0,.int .i64 1,.string ⟨#[66]⟩,.slice none 0 0,.bool false,.slice none 0 0,.slice none 0 0,.int .i64 1,.string ⟨#[67]⟩,.slice none 0 0,.bool false,.slice none 0 0,.slice none 0 0,.int .i64 7,.string ⟨#[68]⟩,.slice (some ⟨w.heap.size,0,none⟩) 3 3,.bool false,.slice none 0 0,.slice none 0 0]/\Blk W w.heap.size 3 #[.int .i64 2,.int .i64 0,.int .i64 1]/\Blk W (w.heap.size+1+1) 25 #[.slice (some ⟨w.heap.size+1,0,none⟩) 4 4,.slice none 0 0]/\Below w.heap.size w W) (by refine ⟨?_,?_,?_,?_⟩<;>first|((with_reducible repeat first|assumption|(apply bF;focus omega)|apply bS|(apply bN;focus (simp;done))|apply bA|apply bD);all_goals rfl)|go_grown) ?_;rintro w0 ⟨bS,bA,bF,hw0⟩;have hF0:=quo bS bA
 obtain ⟨gF,hgF⟩:∃ g,w.heap.size+1+1=g:=⟨_,rfl⟩
 obtain ⟨gS,hgS⟩:∃ g,w.heap.size+1=g:=⟨_,rfl⟩
 rw [hgF,hgS] at bF;rw [hgS] at hF0;simp only [hgF];simp only [hgS];replace hgF:=Hd hgF;replace hgS:=Hd hgS;refine (chAt gS w0 hF0).mono ?_;rintro e w1 ⟨rfl,hb1⟩;have hw1:=Hd (bth hw0 hb1);have HF:Hid (∀ W,Below w1.heap.size w1 W->FigAt gS W):=Hd fun W hW=>FigR.ext (FigR.ext hF0 (xbw hb1)) (xbw hW)
 replace bF:=bF.below' hb1;have k0:=held (bF.cell 0);have k1:=held (bF.cell 1);have hl1:=bF.lt;replace bF:=Hd bF;clear bS bA hw0 hb1 hF0;go_wp2
 go_cut [5,6,7] from 13 (fun s5 s6 s7 wc=>∃ (gT:Nat) (ra rb rp:Option Addr) (rc rd rq n1 n2:Nat),s5=.pointer (some ⟨gT,0,none⟩)/\s6=.int .i64 0/\s7=.int .i64 0/\Hid (Blk wc gT 36 #[.slice ra n1 rc,.slice rb n2 rd,.slice rp 4 rq])/\Hid (PsR wc rp rq [(0,0),(4,0),(1,3),(1,0)])/\Hid (Below w1.heap.size w1 wc))
 case first =>
  have s0:Below w1.heap.size w1 w1.drew:=brf.drew;obtain ⟨v0,hv0⟩:∃ v,w1.drew=v:=⟨_,rfl⟩
  refine qbx (S:=Below w1.heap.size w1) (.q 0 (.two 1 (.two 2 (.two 3 (.q 4 (.q 5 (.q 6 (.q 7 (.l 8 (.l 9 (.q 10 (.p 11 .nil)))))))) 8 (.l 3 (.q 4 (.q 5 (.q 6 (.q 7 (.l 9 (.q 10 (.p 11 .nil))))))))) 8 (.l 2 (.l 3 (.q 4 (.q 5 (.q 6 (.q 7 (.l 9 (.q 10 (.p 11 .nil)))))))))) 8 (.l 1 (.l 2 (.l 3 (.q 4 (.q 5 (.q 6 (.q 7 (.l 9 (.q 10 (.p 11 .nil)))))))))))) [11] (by kernel_rfl) (by kernel_rfl) (by kernel_rfl) (fun d _ _ _ _ h=>by cases d <;> exact h) s0 ?_;rw [hv0] at s0 ⊢;replace hv0:=Hd hv0
  iterate 1 (refine qb6 rfl rfl fun K hK=>xq ?_;go_simp;refine hK _ _ ?_;clear hK K)
  refine qbm ?_ ?_
  ·
   skip
   refine qao rfl rfl (fun K hK=>?_);go_simp;refine hK.out _ _ (s0.alloc s0.size _) (fun _=>?_);clear hK K;refine qab (fun W=>Blk W v0.heap.size 3 #[.int .i64 4,.int .i64 1,.int .i64 3]/\Below v0.heap.size v0 W) ⟨by ((with_reducible repeat first|assumption|(apply bF;focus omega)|apply bS|(apply bN;focus (simp;done))|apply bA|apply bD);all_goals rfl),by go_grown⟩ ?_;rintro v1 ⟨bI,hb⟩;have s1:=bth s0 hb;have hI:=Hd (ints3 (by decide) (by decide) (by decide) bI);obtain ⟨gI,hgI⟩:∃ g,v0.heap.size=g:=⟨_,rfl⟩
   rw [hgI] at hI ⊢;replace hgI:=Hd hgI;clear bI hb;refine qbm ?_ ?_
   ·
    skip
    refine qao rfl rfl (fun K hK=>?_);go_simp;refine (qfv [4,1,3] (some ⟨gI,0,none⟩) 3 v1 hI.out (by decide) (by intro z hz;simp at hz;unfold InInt;omega)).mono ?_;rintro r v2 ⟨qa,qc,rfl,KQ,hb⟩;dsimp only;have s2:=bth s1 hb;refine hK.out _ _ s2 (fun _=>?_);clear hK K;have hQ:=Hd KQ.now;clear KQ hb;refine qbm ?_ ?_
    ·
     skip
     refine qao rfl rfl (fun K hK=>?_);go_simp;refine (ATW qa qc v2 (HF.out _ s2) hQ.out).mono ?_;rintro r v3 ⟨hg,_⟩;obtain ⟨ra,rb,rp,rc,rd,rq,rfl,hR1,hR2,hR3,hb⟩:=hg rfl;dsimp only;have s3:=bth s2 hb;refine hK.out _ _ s3 (fun _=>?_);clear hK K;have hRP:=Hd hR3;clear hR1 hR2 hR3 hb hg
     iterate 4 (refine qb6 rfl rfl fun K hK=>xq ?_;go_simp;refine hK _ _ ?_;clear hK K)
     refine qao rfl rfl (fun K hK=>?_);go_simp;refine hK.out _ _ (s3.alloc s3.size _) (fun _=>?_);clear hK K;refine qab (fun W=>Blk W v3.heap.size 36 #[.slice none 0 0,.slice none 0 0,.slice none 0 0]/\Below v3.heap.size v3 W) ⟨by ((with_reducible repeat first|assumption|(apply bF;focus omega)|apply bS|(apply bN;focus (simp;done))|apply bA|apply bD);all_goals rfl),by go_grown⟩ ?_;rintro v4 ⟨bT,hb⟩;have s4:=bth s3 hb;have hgT:=Hd s3.size;have hTp0:=nlr v3.heap.size;obtain ⟨gT,hg⟩:∃ g,v3.heap.size=g:=⟨_,rfl⟩
     have hT:=Hd (show Blk v4 gT 36 #[.slice none 0 0,.slice none 0 0,.slice none 0 0] from hg ▸ bT);have hTp:=Hd (show gT<v2.heap.size\/v3.heap.size<=gT from .inr (by omega));replace hRP:=Hd (hRP.out.call hb);clear hTp0;rw [hg] at hgT ⊢;clear bT hb hg;exact zz53
    ·
     skip
     refine qao rfl rfl (fun K hK=>?_);go_simp;refine hK.out _ _ (s2.alloc s2.size _) (fun _=>?_);clear hK K;refine qab (fun W=>Blk W v2.heap.size 36 #[.slice none 0 0,.slice none 0 0,.slice none 0 0]/\Below v2.heap.size v2 W) ⟨by ((with_reducible repeat first|assumption|(apply bF;focus omega)|apply bS|(apply bN;focus (simp;done))|apply bA|apply bD);all_goals rfl),by go_grown⟩ ?_;rintro v3 ⟨bT,hb⟩;have s3:=bth s2 hb;have hgT:=Hd s2.size;obtain ⟨gT,hg⟩:∃ g,v2.heap.size=g:=⟨_,rfl⟩
     have hT:=Hd (show Blk v3 gT 36 #[.slice none 0 0,.slice none 0 0,.slice none 0 0] from hg ▸ bT);rw [hg] at hgT ⊢;replace hQ:=Hd (hQ.out.ext (xbw hb));clear bT hb hg;exact zz51
   ·
    skip
    refine qao rfl rfl (fun K hK=>?_);go_simp;refine hK.out _ _ (s1.alloc s1.size _) (fun _=>?_);clear hK K;refine qab (fun W=>Blk W v1.heap.size 36 #[.slice none 0 0,.slice none 0 0,.slice none 0 0]/\Below v1.heap.size v1 W) ⟨by ((with_reducible repeat first|assumption|(apply bF;focus omega)|apply bS|(apply bN;focus (simp;done))|apply bA|apply bD);all_goals rfl),by go_grown⟩ ?_;rintro v2 ⟨bT,hb⟩;have s2:=bth s1 hb;have hgT:=Hd s1.size;obtain ⟨gT,hg⟩:∃ g,v1.heap.size=g:=⟨_,rfl⟩
    have hT:=Hd (show Blk v2 gT 36 #[.slice none 0 0,.slice none 0 0,.slice none 0 0] from hg ▸ bT);rw [hg] at hgT ⊢;replace hI:=Hd (hI.out.ext (xbw hb));clear bT hb hg;exact zz55
  ·
   skip
   refine qao rfl rfl (fun K hK=>?_);go_simp;refine hK.out _ _ (s0.alloc s0.size _) (fun _=>?_);clear hK K;refine qab (fun W=>Blk W v0.heap.size 36 #[.slice none 0 0,.slice none 0 0,.slice none 0 0]/\Below v0.heap.size v0 W) ⟨by ((with_reducible repeat first|assumption|(apply bF;focus omega)|apply bS|(apply bN;focus (simp;done))|apply bA|apply bD);all_goals rfl),by go_grown⟩ ?_;rintro v1 ⟨bT,hb⟩;have s1:=bth s0 hb;have hgT:=Hd s0.size;obtain ⟨gT,hg⟩:∃ g,v0.heap.size=g:=⟨_,rfl⟩
   have hT:=Hd (show Blk v1 gT 36 #[.slice none 0 0,.slice none 0 0,.slice none 0 0] from hg ▸ bT);rw [hg] at hgT ⊢;clear bT hb hg;refine qao rfl rfl (fun K hK=>?_);go_simp;refine hK.out _ _ (s1.alloc s1.size _) (fun _=>?_);clear hK K;refine qab (fun W=>Blk W v1.heap.size 3 #[.int .i64 4,.int .i64 1,.int .i64 3]/\Below v1.heap.size v1 W) ⟨by ((with_reducible repeat first|assumption|(apply bF;focus omega)|apply bS|(apply bN;focus (simp;done))|apply bA|apply bD);all_goals rfl),by go_grown⟩ ?_;rintro v2 ⟨bI,hb⟩;have s2:=bth s1 hb;have hI:=Hd (ints3 (by decide) (by decide) (by decide) bI);obtain ⟨gI,hgI⟩:∃ g,v1.heap.size=g:=⟨_,rfl⟩
   rw [hgI] at hI ⊢;replace hgI:=Hd hgI;replace hT:=Hd (hT.out.below' hb);clear bI hb;exact zz55
 case rest =>
  obtain ⟨gT,ra,rb,rp,rc,rd,rq,n1,n2,rfl,rfl,rfl,hT,hP,hwc⟩:=hcut;have CT:=qit stW [] [(0,0),(4,0),(1,3),(1,0)] (some ⟨gS,0,none⟩) none ra rb rp 4 0 rc rd rq n1 n2 wc (HF.out wc hwc.out) hP.out rfl (by decide) smW nmW;rw [show qa0 stW stW.length=qa0 stW 4 from rfl,txtW] at CT;replace CT:=Hd CT;have bF2:=bF.out.below' hwc.out;obtain ⟨j0,j1⟩:=cq2 bF2;have jl:=bF2.lt;obtain ⟨t0,t1,t2⟩:=cq3 hT.out;have tl:=hT.out.lt;replace bF2:=Hd bF2;clear k0 k1 hl1;go_wp2_with fail;refine CT.out.mono ?_;rintro e w2 ⟨rfl,hb2⟩;have hw2:=Hd (bth hwc.out hb2);have bF3:=bF2.out.below' hb2;have k0:=held (bF3.cell 0);have k1:=held (bF3.cell 1);replace HF:Hid (∀ W,Below w2.heap.size w2 W->FigAt gS W):=Hd fun W hW=>HF.out W (bth hw2.out hW)
  replace bF3:=Hd bF3;clear CT j0 j1 jl t0 t1 t2 tl hT hP hwc hb2 bF2;go_wp2
  go_cut [10,11,12] from 13 (fun _ s11 s12 wc=>s11=.int .i64 3/\s12=.int .i64 11/\Hid (Below w2.heap.size w2 wc))
  case first =>
   have s0:Below w2.heap.size w2 w2.drew:=brf.drew;obtain ⟨v0,hv0⟩:∃ v,w2.drew=v:=⟨_,rfl⟩
   refine qbx (S:=Below w2.heap.size w2) (.q 0 (.two 1 (.two 2 (.two 3 (.q 4 (.q 5 (.q 6 (.q 7 (.l 8 (.l 9 (.q 10 (.p 11 .nil)))))))) 8 (.l 3 (.q 4 (.q 5 (.q 6 (.q 7 (.l 9 (.q 10 (.p 11 .nil))))))))) 8 (.l 2 (.l 3 (.q 4 (.q 5 (.q 6 (.q 7 (.l 9 (.q 10 (.p 11 .nil)))))))))) 8 (.l 1 (.l 2 (.l 3 (.q 4 (.q 5 (.q 6 (.q 7 (.l 9 (.q 10 (.p 11 .nil)))))))))))) [11] (by kernel_rfl) (by kernel_rfl) (by kernel_rfl) (fun d _ _ _ _ h=>by cases d <;> exact h) s0 ?_;rw [hv0] at s0 ⊢;replace hv0:=Hd hv0
   iterate 1 (refine qb6 rfl rfl fun K hK=>xq ?_;go_simp;refine hK _ _ ?_;clear hK K)
   refine qbm ?_ ?_
   ·
    skip
    refine qao rfl rfl (fun K hK=>?_);go_simp;refine hK.out _ _ (s0.alloc s0.size _) (fun _=>?_);clear hK K;refine qab (fun W=>Blk W v0.heap.size 3 #[.int .i64 0,.int .i64 1,.int .i64 3]/\Below v0.heap.size v0 W) ⟨by ((with_reducible repeat first|assumption|(apply bF;focus omega)|apply bS|(apply bN;focus (simp;done))|apply bA|apply bD);all_goals rfl),by go_grown⟩ ?_;rintro v1 ⟨bI,hb⟩;have s1:=bth s0 hb;have hI:=Hd (ints3 (by decide) (by decide) (by decide) bI);obtain ⟨gI,hgI⟩:∃ g,v0.heap.size=g:=⟨_,rfl⟩
    rw [hgI] at hI ⊢;replace hgI:=Hd hgI;clear bI hb;refine qbm ?_ ?_
    ·
     skip
     refine qao rfl rfl (fun K hK=>?_);go_simp;refine (qfv [0,1,3] (some ⟨gI,0,none⟩) 3 v1 hI.out (by decide) (by intro z hz;simp at hz;unfold InInt;omega)).mono ?_;rintro r v2 ⟨qa,qc,rfl,KQ,hb⟩;dsimp only;have s2:=bth s1 hb;refine hK.out _ _ s2 (fun _=>?_);clear hK K;have hQ:=Hd KQ.now;clear KQ hb;refine qbm ?_ ?_
     ·
      skip
      refine qao rfl rfl (fun K hK=>?_);go_simp;refine (ATV qa qc v2 (HF.out _ s2) hQ.out).mono ?_;rintro r v3 ⟨_,hg⟩;obtain ⟨rfl,hb⟩:=hg (by decide);dsimp only;have s3:=bth s2 hb;refine hK.out _ _ s3 (fun _=>?_);clear hK K;clear hb hg
      iterate 4 (refine qb6 rfl rfl fun K hK=>xq ?_;go_simp;refine hK _ _ ?_;clear hK K)
      refine qao rfl rfl (fun K hK=>?_);go_simp;refine hK.out _ _ (s3.alloc s3.size _) (fun _=>?_);clear hK K;refine qab (fun W=>Blk W v3.heap.size 36 #[.slice none 0 0,.slice none 0 0,.slice none 0 0]/\Below v3.heap.size v3 W) ⟨by ((with_reducible repeat first|assumption|(apply bF;focus omega)|apply bS|(apply bN;focus (simp;done))|apply bA|apply bD);all_goals rfl),by go_grown⟩ ?_;rintro v4 ⟨bT,hb⟩;have s4:=bth s3 hb;have hgT:=Hd s3.size;obtain ⟨gT,hg⟩:∃ g,v3.heap.size=g:=⟨_,rfl⟩
      have hT:=Hd (show Blk v4 gT 36 #[.slice none 0 0,.slice none 0 0,.slice none 0 0] from hg ▸ bT);rw [hg] at hgT ⊢;clear bT hb hg;exact zz54
     ·
      skip
      refine qao rfl rfl (fun K hK=>?_);go_simp;refine hK.out _ _ (s2.alloc s2.size _) (fun _=>?_);clear hK K;refine qab (fun W=>Blk W v2.heap.size 36 #[.slice none 0 0,.slice none 0 0,.slice none 0 0]/\Below v2.heap.size v2 W) ⟨by ((with_reducible repeat first|assumption|(apply bF;focus omega)|apply bS|(apply bN;focus (simp;done))|apply bA|apply bD);all_goals rfl),by go_grown⟩ ?_;rintro v3 ⟨bT,hb⟩;have s3:=bth s2 hb;have hgT:=Hd s2.size;obtain ⟨gT,hg⟩:∃ g,v2.heap.size=g:=⟨_,rfl⟩
      have hT:=Hd (show Blk v3 gT 36 #[.slice none 0 0,.slice none 0 0,.slice none 0 0] from hg ▸ bT);rw [hg] at hgT ⊢;replace hQ:=Hd (hQ.out.ext (xbw hb));clear bT hb hg;exact zz52
    ·
     skip
     refine qao rfl rfl (fun K hK=>?_);go_simp;refine hK.out _ _ (s1.alloc s1.size _) (fun _=>?_);clear hK K;refine qab (fun W=>Blk W v1.heap.size 36 #[.slice none 0 0,.slice none 0 0,.slice none 0 0]/\Below v1.heap.size v1 W) ⟨by ((with_reducible repeat first|assumption|(apply bF;focus omega)|apply bS|(apply bN;focus (simp;done))|apply bA|apply bD);all_goals rfl),by go_grown⟩ ?_;rintro v2 ⟨bT,hb⟩;have s2:=bth s1 hb;have hgT:=Hd s1.size;obtain ⟨gT,hg⟩:∃ g,v1.heap.size=g:=⟨_,rfl⟩
     have hT:=Hd (show Blk v2 gT 36 #[.slice none 0 0,.slice none 0 0,.slice none 0 0] from hg ▸ bT);rw [hg] at hgT ⊢;replace hI:=Hd (hI.out.ext (xbw hb));clear bT hb hg;exact zz56
   ·
    skip
    refine qao rfl rfl (fun K hK=>?_);go_simp;refine hK.out _ _ (s0.alloc s0.size _) (fun _=>?_);clear hK K;refine qab (fun W=>Blk W v0.heap.size 36 #[.slice none 0 0,.slice none 0 0,.slice none 0 0]/\Below v0.heap.size v0 W) ⟨by ((with_reducible repeat first|assumption|(apply bF;focus omega)|apply bS|(apply bN;focus (simp;done))|apply bA|apply bD);all_goals rfl),by go_grown⟩ ?_;rintro v1 ⟨bT,hb⟩;have s1:=bth s0 hb;have hgT:=Hd s0.size;obtain ⟨gT,hg⟩:∃ g,v0.heap.size=g:=⟨_,rfl⟩
    have hT:=Hd (show Blk v1 gT 36 #[.slice none 0 0,.slice none 0 0,.slice none 0 0] from hg ▸ bT);rw [hg] at hgT ⊢;clear bT hb hg;refine qao rfl rfl (fun K hK=>?_);go_simp;refine hK.out _ _ (s1.alloc s1.size _) (fun _=>?_);clear hK K;refine qab (fun W=>Blk W v1.heap.size 3 #[.int .i64 0,.int .i64 1,.int .i64 3]/\Below v1.heap.size v1 W) ⟨by ((with_reducible repeat first|assumption|(apply bF;focus omega)|apply bS|(apply bN;focus (simp;done))|apply bA|apply bD);all_goals rfl),by go_grown⟩ ?_;rintro v2 ⟨bI,hb⟩;have s2:=bth s1 hb;have hI:=Hd (ints3 (by decide) (by decide) (by decide) bI);obtain ⟨gI,hgI⟩:∃ g,v1.heap.size=g:=⟨_,rfl⟩
    rw [hgI] at hI ⊢;replace hgI:=Hd hgI;replace hT:=Hd (hT.out.below' hb);clear bI hb;exact zz56
  case rest =>
   obtain ⟨rfl,rfl,hwd⟩:=hcut;have hfin:=Hd (bth hw1.out (bth hw2.out hwd.out));go_wp2;refine bodyPost_ret (v:=.bool true) (by simp [results,Tryz.results7,go_sem]) rfl ?_;exact ⟨rfl,hfin.out⟩
end Go.Proofs.YtfaalkneigpcnaaGreatDoor
