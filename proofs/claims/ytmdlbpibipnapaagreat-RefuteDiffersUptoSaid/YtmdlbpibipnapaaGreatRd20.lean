/- Rows of polynomials in memory. -/
import Derived.Test.YtmdlbpibipnapaaGreatRd18
import Derived.Test.YtmdlbpibipnapaaGreatRd19
import Derived.Test.YtmdlbpibipnapaaGreatRd3
import Derived.Test.YtmdlbpibipnapaaGreatRd15
import Derived.Test.YtmdlbpibipnapaaGreatRd17
import Derived.Test.YtmdlbpibipnapaaGreatRd13
import Derived.Test.YtmdlbpibipnapaaGreatRd16
import Derived.Test.YtmdlbpibipnapaaGreatRd1
set_option linter.all false
set_option maxRecDepth 100000
set_option maxHeartbeats 4000000
namespace Go.Proofs.YtmdlbpibipnapaaGreat
open Go.RowKit
theorem qse {l:List Step} {s:Step} {k:Nat} (h:qbl l s k=0):s.args.length<=4:=by
 unfold qbl at h;have h1:¬ qar s.kind<0:=fun h1=>by rw [if_pos h1] at h;simp at h
 rw [if_neg h1] at h;have h2:¬ (s.args.length:Int)≠qar s.kind:=fun h2=>by rw [if_pos h2] at h;simp at h
 have h3:qar s.kind<=4:=by
  unfold qar
  repeat (first | (split <;> try omega) | omega)
 omega
theorem qoz {f:Fig} (h:f.err=0):∀ (k:Nat) (s:Step),f.steps[k]? = some s->s.args.length<=4:=by
 unfold Fig.err at h;have h1:¬ (40<f.steps.length\/8<f.goals.length):=fun h1=>by rw [if_pos h1] at h;simp at h
 rw [if_neg h1] at h;have h2:qbf f.steps f.steps 0=0:=by
  by_cases h2:qbf f.steps f.steps 0=0
  · exact h2
  · rw [if_pos h2] at h;exact h
 exact fun k s hs=>qse (l:=f.steps) (k:=0+k) (qe1 f.steps 0 h2 k s hs)
theorem zz61 {P:Prop} (h:P:=by
 rw [if_pos hb1] at hst2;subst hst2;obtain ⟨y0,y1⟩:=cq2 hz4;obtain ⟨f0,f1⟩:=fq2 hz4;have zl4:=hz4.lt;go_wp2;refine qaa (fun W=>Blk W g1 37 #[.slice none 0 0,.slice none 0 0]/\Below w.heap.size w W) ⟨bk,zg⟩ ?_;rintro wF ⟨hF4,hwF⟩;obtain ⟨e0,e1⟩:=cq2 hF4;refine bodyPost_ret (v:=.tuple #[.agg #[.slice none 0 0,.slice none 0 0],.int .i64 4]) (by simp [results,Tryz.results31,go_sem,e0,e1]) rfl ?_;exact ⟨hwF,rfl⟩
 ):P:=h
theorem zz62 {P:Prop} (h:P:=by
 have hnX:¬ Yv ra2 va4 gX:=fun h=>by have:=hpp.1.ge _ h;omega
 have r:=hpp.1.set_ (i:=0) (u:=.slice ra2 (hs.length+1) rc2) (.inr rfl) hnX;exact ⟨r.eq,r.co,r.vr,r.all⟩
 ):P:=h
theorem qiw (X:Nat->Prop) (f:Fig) (sa:Option Addr) (sc:Nat) (ga:Option Addr) (gc:Nat) (W0 w:World) (h:FigR W0 sa sc ga gc f) (hW0:Below W0.heap.size W0 w) (hq:f.few) (he:f.err=0) (hX:∀ b,X b->W0.heap.size<=b/\b<w.heap.size) (hr:∀ s∈f.steps,s.kind=2->s.ratio.short=true) :
  Calls Tryz.prog 31 #[f.val sa sc ga gc] w fun e w'=>Below w.heap.size w w'/\match qbc ⟨[],[],0⟩ 0 f.steps with
   | some x=>qnu X x e w'
   | none=>e=.returned (.tuple #[.agg #[.slice none 0 0,.slice none 0 0],.int .i64 4]):=by
 obtain ⟨hl,hS⟩:=qcw he;have hLN:=qoz he;have C:=fun W (hW:bw w W)=>qhd f sa sc ga gc W ⟨h.1.ext (xbw (bth hW0 hW)),h.2.ext (xbw (bth hW0 hW))⟩ hq
 rw [he] at C;unfold Fig.val at C ⊢;replace hLN:=Hd hLN;have HS:=Hd h.1;replace hS:=Hd hS;replace C:=Hd C;have HX:=Hd hX;have HW:=Hd hW0;replace hr:=Hd hr;clear h hq he hX hW0;obtain ⟨res,hres⟩:∃ res,qbc ⟨[],[],0⟩ 0 f.steps=res:=⟨_,rfl⟩
 rw [hres];replace hres:=Hd hres;obtain ⟨steps,goals⟩:=f;dsimp only at HS hS hLN C hl hr hres ⊢;go_enter Tryz.func31,Tryz.ntmps31;go_wp2_with fail;refine qae (fun W=>Blk W w.heap.size 25 #[.slice sa steps.length sc,.slice ga goals.length gc]/\Blk W (w.heap.size+1) 37 #[.slice none 0 0,.slice none 0 0]/\Below w.heap.size w W) ⟨bk,bk,zg⟩ ?_;rintro w0 ⟨hF,hz,hw0⟩;refine (C.out w0 hw0).mono ?_;rintro e w1 ⟨rfl,hb1⟩;have hw1:=bth hw0 hb1;replace hF:=hF.below' hb1;replace hz:=hz.below' hb1;obtain ⟨z0,z1⟩:=cq2 hF;have hzl:=hz.lt;have hfl:=hF.lt;clear hw0 hb1;go_wp2
 refine qaa (fun W=>Blk W w.heap.size 25 #[.slice sa steps.length sc,.slice ga goals.length gc]/\Blk W (w.heap.size+1) 37 #[.slice none 0 0,.slice none 0 0]/\Blk W w1.heap.size 37 #[.slice none 0 0,.slice none 0 0]/\Below w.heap.size w W) ⟨bk,bk,bk,zg⟩ ?_;rintro w2 ⟨hF2,hz2,hB2,hw2⟩;obtain ⟨gX,hgX⟩:∃ g,g=w1.heap.size:=⟨_,rfl⟩
 obtain ⟨g1,hg1⟩:∃ g,g=w.heap.size+1:=⟨_,rfl⟩
 obtain ⟨g0,hg0⟩:∃ g,g=w.heap.size:=⟨_,rfl⟩
 have hwg:w.heap.size+1<w1.heap.size:=hzl;rw [<- hgX] at hB2 ⊢;rw [<- hg1] at hz2 ⊢;rw [<- hg0] at hF2 ⊢;have hw0:w.heap.size<=g0:=oo
 have hw1':w.heap.size<=g1:=oo
 have hg01:g0<g1:=oo
 have hgg:g1<gX:=oo
 have hgl:=hB2.lt;replace hgX:=Hd hgX;replace hg1:=Hd hg1;replace hg0:=Hd hg0;clear hF hz z0 z1 hzl hfl hwg hw1
 go_loopg [6,7,8,9,10,20] steps.length (fun m bf _ _ _ _ q wr=>∃ (k:Nat) (x:Frm) (hs:List (VQ × Vec)) (ra va:Option Addr) (rc vc D M:Nat),Hid (k+m=steps.length)/\bf=.int .i64 x.free/\q=.int .i64 k/\Below w.heap.size w wr/\Blk wr g0 25 #[.slice sa steps.length sc,.slice ga goals.length gc]/\Blk wr g1 37 #[.slice none 0 0,.slice none 0 0]/\Blk wr gX 37 #[.slice ra hs.length rc,.slice va x.vars.length vc]/\Hid (Rst (Xg (Xg X g1) gX) wr (gX+1) x hs ra rc va vc)/\Hid (FrmOk k D M x)/\Hid (qbc x k (steps.drop k)=res))
 case atStart=>exact ⟨0,⟨[],[],0⟩,[],none,none,0,0,1,1,by show _=_;omega,rfl,rfl,hw2,hF2,hz2,hB2,⟨rfl,Own.nil,Own.nil,fun z hz=>by cases hz⟩,by simp [FrmOk,Hid],hres.out⟩
 case round =>
  clear hw2 hF2 hz2 hB2 hgl;obtain ⟨k,x,hs,ra,va,rc,vc,D,M,hm,rfl,rfl,hwr,hF,hz,hB,hR,hok,hst⟩:=hrel;by_cases hlt:k<steps.length
  ·
   obtain ⟨s,hs_⟩:=qab hlt;have hsi:=hS.out k s hs_;have hsr:=hr.out s (List.mem_of_getElem? hs_);obtain ⟨b,o,rfl,p,hC,hP,hin,hsz⟩:=HS.out.2.2 k s hs_;have hl0:=HS.out.len;have hcap:=HS.out.1;have hcap2:=HS.out.2.1;have hwr0:=bth HW.out hwr;obtain ⟨c0,c1,c2,c3,c4,c5⟩:=hC;have d0:=held c0 wr hwr0;have d1:=held c1 wr hwr0;have d2:=held c2 wr hwr0;have d3:=held c3 wr hwr0;have d4:=held c4 wr hwr0;have d5:=held c5 wr hwr0;obtain ⟨x0,x1⟩:=cq2 hB;obtain ⟨z0,z1⟩:=cq2 hF;have lB:=hB.lt;have lF:=hF.lt;have lz:=hz.lt;replace hsi:=Hd hsi;replace hsr:=Hd hsr;replace hP:=Hd hP;replace hin:=Hd hin;replace hs_:=Hd hs_;replace hcap:=Hd hcap;replace hcap2:=Hd hcap2;clear c0 c1 c2 c3 c4 c5;go_wp2_with fail
   refine qae (fun W=>Below wr.heap.size wr W/\Blk W wr.heap.size 93 #[.int .i64 s.kind,.string s.point,.slice p.aa s.args.length p.ac,.bool s.ratio.neg,.slice p.na s.ratio.num.length p.nc,.slice p.da s.ratio.den.length p.dc]) ⟨zg,bk⟩ ?_;rintro w3 ⟨hb3,hS3⟩;have hwW:=bth hwr0 hb3;have hR3:=hR.out.call hb3;have hge:=hR3.ge;have hZ3:∀ b,Xg (Xg X g1) gX b->b<w3.heap.size:=fun b hb=>by
    have:=hb3.size;rcases hb with (hb | rfl) | rfl
    · have:=(HX.out b hb).2;have:=hwr.size;omega
    · omega
    · omega
   have hYge:∀ b,Yr (Xg (Xg X g1) gX) ra va b->W0.heap.size<=b:=fun b hb=>by
    have:=HW.out.size;rcases hb with hb | (hb | rfl) | rfl
    · have:=hge b hb;omega
    · exact (HX.out b hb).1
    · omega
    · omega
   have hI:IntsR w3 p.aa p.ac s.args:=hP.out.1.ext (xbw hwW);have hx:s.kind=2->Rd (Yr (Xg (Xg X g1) gX) ra va) w3 fun V=>QAc V ⟨s.ratio.neg,s.ratio.num.length,p.na,p.nc,s.ratio.den.length,p.da,p.dc⟩ s.ratio.q:=fun hk=>(Rd.arg (w:=W0) (fun V e=>(RtZ.sk (r:=s.ratio) ⟨rfl,rfl,rfl,(hP.out.2.1).ext e,(hP.out.2.2).ext e⟩ (hsr.out hk)).1) hYge).call hwW
   have hqb:s.kind=2->s.ratio.q.num.natAbs<=2 ^ 32/\s.ratio.q.den<=2 ^ 32:=fun hk=>by
    have h2:=(RtZ.sk (show RtZ W0 s.ratio ⟨s.ratio.neg,s.ratio.num.length,p.na,p.nc,s.ratio.den.length,p.da,p.dc⟩ from ⟨rfl,rfl,rfl,hP.out.2.1,hP.out.2.2⟩) (hsr.out hk)).2;have e1:=qbs s.ratio.q;have e2:=qbq s.ratio.q;exact ⟨Nat.le_of_lt (ltl (qa3 _) (Nat.le_trans (Nat.pow_le_pow_right dd (Nat.le_trans e1 h2)) dd)),Nat.le_of_lt (ltl (qa3 _) (Nat.le_trans (Nat.pow_le_pow_right dd (Nat.le_trans e2 h2)) dd))⟩
   have hal:s.args.length<=1000:=by
    have e:=hLN.out k s hs_.out
    omega
   have CS:=que (Xg (Xg X g1) gX) (gX+1) x hs ra va rc vc s.point p.aa p.na p.da ga p.ac p.nc p.dc steps.length b o sc goals.length gc k s.ratio.num.length s.ratio.den.length s.ratio.neg s.args w3 hR3 hZ3 (by have:=hb3.size;omega) hlt ⟨hcap.out,hcap2.out⟩ D M hok.out oo s.kind hsi.out.1 s.ratio.q hsi.out.2.2.1
    (held d0 w3 hb3) (held d1 w3 hb3) (held d2 w3 hb3) (held d3 w3 hb3) (held d4 w3 hb3) (held d5 w3 hb3) hI hal hsi.out.2.2.2.1 hx hqb
   refine CS.mono ?_;clear CS;rintro e w4 ⟨va4,vc4,t,rfl,hR4,hV4,hf4,hv4⟩;have hdr:steps.drop k=s :: steps.drop (k+1):=by
    rw [List.drop_eq_getElem_cons hlt];congr 1;have:=hs_.out;rw [List.getElem?_eq_getElem hlt] at this;exact Option.some.inj this
   have hst2:=hst.out;rw [hdr,qbc] at hst2;have hnx:=FrmOk.next hok.out s.kind s.args s.ratio.q hqb;revert hR4 hV4 hst2 hnx;generalize nextF x s.kind s.args s.ratio.q k=P;intro hR4 hV4 hst2 hnx;have hnn:∀ g,g<=gX->¬ Yv ra va g:=fun g hg h=>by have:=hge g h;omega
   have hF4:=(hF.below' hb3).fr hf4 (hnn _ oo);have hz4:=(hz.below' hb3).fr hf4 (hnn _ oo);have hB4:=(hB.below' hb3).fr hf4 (hnn _ oo);have hnS:¬ Yv ra va wr.heap.size:=fun h=>by have:=hR.out.lt _ h;omega
   have hS4:=hS3.fr hf4 hnS;have hnS4:¬ Yv ra va4 wr.heap.size:=qce hnS hv4 (by have:=hS3.lt;omega);replace hnS4:=Hd hnS4;have hb4:Below w.heap.size w w4:=Go.Proofs.YtmdlbpibipnapaaGreat.Below.fr (bth hwr hb3) hf4 (fun b hb=>by have:=hge b hb;omega) (by have:=hwr.size;have:=hb3.size;omega);have hn4:∀ g,g<=gX->¬ Yv ra va4 g:=fun g hg=>qce (hnn g hg) hv4 (by have:=hb3.size;omega)
   have k0:=hS4.cell 0;have kl:=hS4.lt;obtain ⟨q0,q1⟩:=cq2 hB4;obtain ⟨qf0,qf1⟩:=fq2 hB4;have ql:=hB4.lt;replace hR:=Hd hR;replace hf4:=Hd hf4;replace hge:=Hd hge;have lBX:gX<wr.heap.size:=lB;have nBX:gX≠wr.heap.size:=oo
   have nXB:wr.heap.size≠gX:=oo
   clear hF hz hB d0 d1 d2 d3 d4 d5 x0 x1 z0 z1 lB lF lz hb3 hS3 hwW hR3 hZ3 hYge hI hx hqb hal hnn hnS hdr;by_cases c1:64<P.1.length
   ·
    have d1:decide (64<P.1.length)=true:=decide_eq_true c1;have hb1:bigF P=true:=by unfold bigF;simp [c1]
    exact zz61
   ·
    have d1:decide (64<P.1.length)=false:=decide_eq_false c1;by_cases c2:4000<P.2.1.length
    ·
     have d2:decide (4000<P.2.1.length)=true:=decide_eq_true c2;have hb1:bigF P=true:=by unfold bigF;simp [c2]
     exact zz61
    ·
     have d2:decide (4000<P.2.1.length)=false:=decide_eq_false c2;by_cases c3:4000<P.2.2.length
     ·
      have d3:decide (4000<P.2.2.length)=true:=decide_eq_true c3;have hb1:bigF P=true:=by unfold bigF;simp [c3]
      exact zz61
     ·
      have d3:decide (4000<P.2.2.length)=false:=decide_eq_false c3;have hb1:¬ bigF P=true:=by unfold bigF;simp;omega
      rw [if_neg hb1] at hst2;obtain ⟨D',M',hok2⟩:=hnx (by simpa using hb1);replace hst2:=Hd hst2;replace hok2:=Hd hok2;have hlh:hs.length<=100:=by
       have e1:=congrArg List.length hR4.eq;have e2:=hok.out.1;simp at e1
       omega
      have hR4h:=Hd hR4;have hV4h:=Hd hV4;have hF4h:=Hd hF4;have hz4h:=Hd hz4;have hB4h:=Hd hB4;have hS4h:=Hd hS4;have hb4h:=Hd hb4;replace hlh:=Hd hlh;replace hn4:=Hd hn4;clear hR4 hV4 hnx hF4 hz4 hB4 hS4 hb4 hb1 hv4;have hfree:x.free<=40:=by have:=hok.out.2.2.2.2.2.2.1;omega
      have hXX:Xg (Xg X g1) gX gX:=.inr rfl;have hYX:Yr (Xg (Xg X g1) gX) ra va4 gX:=.inr hXX;replace hXX:=Hd hXX;replace hYX:=Hd hYX
      go_wp2_with (at_builtin;go_must (refine qaa (fun W=>Blk W g0 25 #[.slice (some ⟨b,o,none⟩) steps.length sc,.slice ga goals.length gc]/\Blk W g1 37 #[.slice none 0 0,.slice none 0 0]/\Blk W gX 37 #[.slice ra hs.length rc,.slice va4 P.1.length vc4]/\Blk W wr.heap.size 93 #[.int .i64 s.kind,.string s.point,.slice p.aa s.args.length p.ac,.bool s.ratio.neg,.slice p.na s.ratio.num.length p.nc,.slice p.da s.ratio.den.length p.dc]/\Blk W (w4.heap.size+1+1) 120 #[.slice t.a P.2.1.length t.c,.slice t.b P.2.2.length t.d]/\Rst (Xg (Xg X g1) gX) W (gX+1) ⟨P.1,x.coords,x.free⟩ hs ra rc va4 vc4/\VecX (Yr (Xg (Xg X g1) gX) ra va4) W t P.2/\Below w.heap.size w W) ⟨by have a:=hF4h.out;exact bk,by have a:=hz4h.out;exact bk,by have a:=hB4h.out;exact bk,by have a:=hS4h.out;exact bk,bk,by (repeat (first | (with_reducible exact hR4h.out) | (with_reducible refine Rst.set_ ?_ hXX.out (hn4.out gX (nlr _))) | (with_reducible refine Rst.call ?_ (brf.alloc (nlr _) _)))),by (repeat (first | (with_reducible exact hV4h.out) | (with_reducible refine VecX.step ?_ (Agr.setc hYX.out (Agr.refl _ _))) | (with_reducible refine VecX.call ?_ (brf.alloc (nlr _) _)))),by have a:=hb4h.out;go_grown⟩ ?_);rintro w5 ⟨j0,j1,jX,jS,jc,hR5,hV5,hb5⟩;go_must (refine qay (B:=gX+1) rfl (.tmp 52) (.tmp 54) 34 rfl Tryz.underlying34 qhg rfl oo oo qbr ra rc rfl hR5.co (t,P.2) (qf8 _) (w4.heap.size+1+1) 1 rfl (fun j u hu=>by have e:=jc.cell j;rw [e];simpa [coC] using hu) (hs++[(t,P.2)]) rfl (by have:=hlh.out;simp;omega) (by have:=jX.lt;omega) ?_);intro ra2 rc2 w6 ho6 hg6 ha6;have hp6:=hR5.push (t,P.2) hV5 ho6 hg6 ha6;have i0:=j0.fr hp6.2.1 (hn4.out g0 oo);have i1:=j1.fr hp6.2.1 (hn4.out g1 oo);have iX:=jX.fr hp6.2.1 (hn4.out gX (nlr _));have iS:=jS.fr hp6.2.1 hnS4.out;have hb6:Below w.heap.size w w6:=Go.Proofs.YtmdlbpibipnapaaGreat.Below.fr hb5 hp6.2.1 (fun b hb=>by have:=hR5.ge b hb;omega) (by have:=hb5.size;omega);have u0:=iX.cell 0;have uf:=iX.frozen 0;have ul:=iX.lt;have uS:=iS.cell 0;have uSl:=iS.lt;have uX:=Hd iX;replace hp6:=Hd hp6;have i0h:=Hd i0;have i1h:=Hd i1;have hb6h:=Hd hb6;clear j0 j1 jX jS jc hR5 hV5 hb5 ho6 hg6 ha6 i0 i1 iX iS hb6 k0 kl q0 q1 qf0 qf1 ql)
      ·
       have hk1:s.kind=1:=eq_of_beq ‹(s.kind==1)=true›;have hm2:=hm.out;go_roundg (gk-1)
       case rel =>
        have hpp:=hp6.out;refine ⟨k+1,putF x s.kind P,hs++[(t,P.2)],ra2,va4,rc2,vc4,D',M',by show _=_;omega,?_,by go_num,?_,?_,?_,?_,?_,hok2.out,hst2.out⟩
        ·
         have hfx:(putF x s.kind P).free=x.free+1:=by unfold putF;simp [hk1]
         rw [hfx]
         try go_num
        ·
         have a:=hb6h.out
         go_grown
        ·
         have a:=i0h.out
         exact bk
        ·
         have a:=i1h.out
         exact bk
        ·
         have a:=uX.out;have e:(hs++[(t,P.2)]).length=hs.length+1:=by simp
         rw [e]
         show Blk _ gX 37 #[.slice ra2 (hs.length+1) rc2,.slice va4 P.1.length vc4]
         exact bk
        ·
         show Rst _ _ _ _ _ _ _ _ _
         exact zz62
       case measure=>have:=hm.out;omega
      ·
       have hk1:¬ s.kind=1:=fun hc=>by have e:=‹(s.kind==1)=false›;rw [hc] at e;cases e
       have hm2:=hm.out;go_roundg (gk-1)
       case rel =>
        have hpp:=hp6.out;refine ⟨k+1,putF x s.kind P,hs++[(t,P.2)],ra2,va4,rc2,vc4,D',M',by show _=_;omega,?_,by go_num,?_,?_,?_,?_,?_,hok2.out,hst2.out⟩
        ·
         have hfx:(putF x s.kind P).free=x.free:=by unfold putF;simp [hk1]
         rw [hfx]
         try go_num
        ·
         have a:=hb6h.out
         go_grown
        ·
         have a:=i0h.out
         exact bk
        ·
         have a:=i1h.out
         exact bk
        ·
         have a:=uX.out;have e:(hs++[(t,P.2)]).length=hs.length+1:=by simp
         rw [e]
         show Blk _ gX 37 #[.slice ra2 (hs.length+1) rc2,.slice va4 P.1.length vc4]
         exact bk
        ·
         show Rst _ _ _ _ _ _ _ _ _
         exact zz62
       case measure=>have:=hm.out;omega
  ·
   have hst2:=hst.out;rw [List.drop_eq_nil_of_le oo,qbc] at hst2;subst hst2;have hb:=Hd hR.out;obtain ⟨q0,q1⟩:=cq2 hB;have ql:=hB.lt;obtain ⟨y0,y1⟩:=cq2 hz;obtain ⟨f0,f1⟩:=fq2 hz;have zl:=hz.lt;have hgq:g1<gX+1:=oo
   go_wp2;refine qaa (fun W=>Blk W g1 37 #[.slice ra hs.length rc,.slice va x.vars.length vc]/\Below w.heap.size w W/\OwnCo (gX+1) W ra rc hs/\OwnVr (gX+1) W va vc x.vars/\AllV X W hs) ⟨bk,zg,(hb.out.co.far hgq _).far hgq _,(hb.out.vr.far hgq _).far hgq _,fun z hz=>?_⟩ ?_
   · exact (qa8 (qa8 (hb.out.all z hz) (.inr (.inl (.inr rfl)))) (.inr (.inl (.inr rfl)))).less fun b hb=>.inr (.inl (.inl hb))
   rintro wF ⟨hF4,hwF,ho1,ho2,hA⟩;obtain ⟨e0,e1⟩:=cq2 hF4;refine bodyPost_ret (v:=.tuple #[.agg #[.slice ra hs.length rc,.slice va x.vars.length vc],.int .i64 0]) (by simp [results,Tryz.results31,go_sem,e0,e1]) rfl ?_;exact ⟨hwF,hs,ra,va,rc,vc,gX+1,rfl,hb.out.eq,ho1,ho2,hA⟩
theorem qwd {f:Fig} (h:f.err=0):∀ (k:Nat) (s:Step),f.steps[k]? = some s->(s.args.length:Int)=qar s.kind:=by
 unfold Fig.err at h;have h1:¬ (40<f.steps.length\/8<f.goals.length):=fun h1=>by rw [if_pos h1] at h;simp at h
 rw [if_neg h1] at h;have h2:qbf f.steps f.steps 0=0:=by
  by_cases h2:qbf f.steps f.steps 0=0
  · exact h2
  · rw [if_pos h2] at h;exact h
 intro k s hs;have h3:=qe1 f.steps 0 h2 k s hs;unfold qbl at h3;have h4:¬ qar s.kind<0:=fun h4=>by rw [if_pos h4] at h3;simp at h3
 rw [if_neg h4] at h3;by_cases h5:(s.args.length:Int)=qar s.kind
 · exact h5
 · rw [if_pos h5] at h3;simp at h3
def condP (s:Step):Option (Int × List Int) :=
 if s.kind=6 then some (4,[])
 else if s.kind=7\/s.kind=8 then some (1,[s.args.getD 1 0,s.args.getD 2 0])
 else if s.kind=9 then some (3,[s.args.getD 0 0,s.args.getD 1 0,s.args.getD 2 0,s.args.getD 3 0])
 else if s.kind=10\/s.kind=12\/s.kind=14 then some (1,[s.args.getD 0 0,s.args.getD 1 0])
 else if s.kind=11 then some (2,[s.args.getD 0 0,s.args.getD 1 0,s.args.getD 2 0])
 else if s.kind=13 then some (1,[s.args.getD 0 0,s.args.getD 2 0])
 else none
def RetCd (q:Option (Int × List Int)) (i:Nat) (w:World) (e:Ending) (w':World):Prop:=Below w.heap.size w w'/\match q with
 | some c=>∃ a n,e=.returned (.tuple #[.agg #[.int .i64 c.1,.slice a c.2.length n,.int .i64 i],.bool true])/\(∀ X:Nat->Prop,(∀ b,X b->b<w.heap.size)->Rd X w' fun V=>IntsR V a n c.2)
 | none=>e=.returned (.tuple #[.agg #[.int .i64 0,.slice none 0 0,.int .i64 0],.bool false])
theorem qgk {X:Nat->Prop} {w:World} {gI:Nat} {t:TypeId}:∀ {l:List Int} {cs:Array Value},Blk w gI t cs->cs=(l.map (Value.int .i64)).toArray->¬ X gI->l.length<=4->(∀ x∈l,(Lit.int .i64 x).wf=true)->Rd X w fun V=>IntsR V (some ⟨gI,0,none⟩) l.length l:=fun {l cs} hB hcs hg hl hin V hV=>by
 refine ⟨nlr _,by unfold maxLen;omega,fun k x hx=>⟨gI,0,rfl,?_,hin x (List.mem_of_getElem? hx)⟩⟩;rw [Nat.zero_add,Nat.mul_one];refine hV _ _ hg ?_;rw [hB.cell k,hcs];simp [hx]
theorem zz64 {P:Prop} (h:P:=by
 clear hS hsi har hP hki hsz c1 c3 c4 c5 hab hx1 u1 d1 hx2 u2 d2;replace hlen:=Hd hlen;replace e0:=Hd e0;replace f1:=Hd f1;replace f2:=Hd f2;go_enter Tryz.func60,Tryz.ntmps60;go_wp2;refine qaa (fun W=>Blk W (w.heap.size+1) 88 #[.int .i64 0,.slice none 0 0,.int .i64 0]/\Below w.heap.size w W/\w.heap.size+1<W.heap.size) ⟨bk,zg,by simp⟩ ?_;rintro w0 ⟨BD,hw0,hl0⟩;obtain ⟨gD,hgD⟩:=nm (w.heap.size+1)
 rw [hgD] at BD hl0 ⊢;have hgw:w.heap.size<=gD:=oo
 replace hgD:=Hd hgD;have v1:=held (m1 w0 hw0);have v2:=held (m2 w0 hw0);obtain ⟨z0,z1,z2⟩:=cq3 BD;obtain ⟨r0,r1,r2⟩:=fq3 BD;have s0:Below w0.heap.size w0 w0.drew:=brf.drew;clear c0 c2 m1 m2;refine wrx (S:=Below w0.heap.size w0) [(0,.q),(1,.q),(2,.q),(3,.q),(4,.q),(5,.q),(7,.q),(6,.l),(8,.p),(9,.t),(10,.p)] (s0) ?_
 iterate 7 (refine qaf rfl rfl fun K hK=>xq ?_;go_simp;refine hK _ _ ?_;clear hK K)
 refine vl fun K hK=>?_
 go_simp;refine hK.out _ _ ((s0.alloc s0.size _)) (fun _=>?_);clear hK K
 refine qaj rfl rfl fun K hK=>xp ?_;go_simp;refine hK _ _ ?_;clear hK K
 refine vt fun K hK=>?_
 go_simp;refine hK.out _ _ ?_;clear hK K
 refine qaj rfl rfl fun K hK=>xp ?_;go_simp;refine hK _ _ ?_;clear hK K
 refine qad ?_;go_wp2;refine qaa (fun W=>Blk W gD 88 #[.int .i64 1,.slice (some ⟨w0.heap.size,0,none⟩) 2 2,.int .i64 i]/\Blk W w0.heap.size 3 #[.int .i64 x1,.int .i64 x2]/\Below w.heap.size w W) ⟨bk,bk,by have:=hw0.size;go_grown⟩ ?_;rintro wF ⟨hF,hI,hwF⟩;obtain ⟨e0',e1',e2'⟩:=cq3 hF;refine bodyPost_ret (v:=.tuple #[.agg #[.int .i64 1,.slice (some ⟨w0.heap.size,0,none⟩) 2 2,.int .i64 i],.bool true]) (by simp [results,Tryz.results60,go_sem,e0',e1',e2']) rfl ?_
 exact ⟨hwF,some ⟨w0.heap.size,0,none⟩,2,rfl,fun X hX=>qgk (l:=[x1,x2]) hI rfl (fun hx=>by have:=hX _ hx;have:=hw0.size;omega) (by simp) (by intro y hy;simp at hy;rcases hy with rfl | rfl <;> first | exact f1.out | exact f2.out)⟩
 ):P:=h
theorem qtb (steps:List Step) (sa ga:Option Addr) (sc ng gc i:Nat) (s:Step) (w:World) (hS:qbi w sa sc steps) (hsi:steps[i]? = some s) (har:(s.args.length:Int)=qar s.kind) (e0:s.kind=7\/s.kind=8) :
  Calls Tryz.prog 60 #[.agg #[.slice sa steps.length sc,.slice ga ng gc],.int .i64 i] w (RetCd (some (1,[s.args.getD 1 0,s.args.getD 2 0])) i w):=by
 have hlen:3<=s.args.length:=by unfold qar at har;revert har;(repeat (first | (split <;> try omega) | omega))
 have hlt:i<steps.length:=qai hsi;obtain ⟨b,o,rfl,p,hC,hP,hki,hsz⟩:=hS.2.2 i s hsi;obtain ⟨c0,c1,c2,c3,c4,c5⟩:=hC;have lA:=hP.1.len;obtain ⟨x1,hx1⟩:=qab (show 1<s.args.length by omega);obtain ⟨ab,ao,hab,d1,f1⟩:=hP.1.2.2 1 x1 hx1;have u1:s.args.getD 1 0=x1:=by rw [List.getD_eq_getElem?_getD,hx1,Option.getD_some]
 obtain ⟨x2,hx2⟩:=qab (show 2<s.args.length by omega);obtain ⟨ab',ao',hab',d2,f2⟩:=hP.1.2.2 2 x2 hx2;rw [hab] at hab';injection hab' with hab';injection hab' with q1 q2;subst q1 q2
 have u2:s.args.getD 2 0=x2:=by rw [List.getD_eq_getElem?_getD,hx2,Option.getD_some]
 rw [u1,u2];rw [hab] at c2;have hbl:b<w.heap.size:=World.block_lt_of_cell? w _ c0;have hal:ab<w.heap.size:=World.block_lt_of_cell? w _ d1;simp only [Nat.mul_one,Nat.zero_mul,Nat.one_mul,Nat.add_zero] at d1 d2;have m1:=held d1;have m2:=held d2;have hiI:(i:Int)<(steps.length:Int):=oo
 have hl1:(1:Int)<(s.args.length:Int):=oo
 have hl2:(2:Int)<(s.args.length:Int):=oo
 have hlN:0<s.args.length:=oo
 have n6:(s.kind==6)=false:=by simp;omega
 have n9:(s.kind==9)=false:=by simp;omega
 have n10:(s.kind==10)=false:=by simp;omega
 have n11:(s.kind==11)=false:=by simp;omega
 have n12:(s.kind==12)=false:=by simp;omega
 have n13:(s.kind==13)=false:=by simp;omega
 have n14:(s.kind==14)=false:=by simp;omega
 rcases e0 with e0 | e0
 ·
  have y7:(s.kind==7)=true:=by simp;omega
  exact zz64
 ·
  have y8:(s.kind==8)=true:=by simp;omega
  have n7:(s.kind==7)=false:=by simp;omega
  exact zz64
theorem qvl (steps:List Step) (sa ga:Option Addr) (sc ng gc i:Nat) (s:Step) (w:World) (hS:qbi w sa sc steps) (hsi:steps[i]? = some s) (har:(s.args.length:Int)=qar s.kind) (e0:s.kind=9) :
  Calls Tryz.prog 60 #[.agg #[.slice sa steps.length sc,.slice ga ng gc],.int .i64 i] w (RetCd (some (3,[s.args.getD 0 0,s.args.getD 1 0,s.args.getD 2 0,s.args.getD 3 0])) i w):=by
 have hlen:4<=s.args.length:=by unfold qar at har;revert har;(repeat (first | (split <;> try omega) | omega))
 have hlt:i<steps.length:=qai hsi;obtain ⟨b,o,rfl,p,hC,hP,hki,hsz⟩:=hS.2.2 i s hsi;obtain ⟨c0,c1,c2,c3,c4,c5⟩:=hC;have lA:=hP.1.len;obtain ⟨x0,hx0⟩:=qab (show 0<s.args.length by omega);obtain ⟨ab,ao,hab,d0,f0⟩:=hP.1.2.2 0 x0 hx0;have u0:s.args.getD 0 0=x0:=by rw [List.getD_eq_getElem?_getD,hx0,Option.getD_some]
 obtain ⟨x1,hx1⟩:=qab (show 1<s.args.length by omega);obtain ⟨ab',ao',hab',d1,f1⟩:=hP.1.2.2 1 x1 hx1;rw [hab] at hab';injection hab' with hab';injection hab' with q1 q2;subst q1 q2
 have u1:s.args.getD 1 0=x1:=by rw [List.getD_eq_getElem?_getD,hx1,Option.getD_some]
 obtain ⟨x2,hx2⟩:=qab (show 2<s.args.length by omega);obtain ⟨ab',ao',hab',d2,f2⟩:=hP.1.2.2 2 x2 hx2;rw [hab] at hab';injection hab' with hab';injection hab' with q1 q2;subst q1 q2
 have u2:s.args.getD 2 0=x2:=by rw [List.getD_eq_getElem?_getD,hx2,Option.getD_some]
 obtain ⟨x3,hx3⟩:=qab (show 3<s.args.length by omega);obtain ⟨ab',ao',hab',d3,f3⟩:=hP.1.2.2 3 x3 hx3;rw [hab] at hab';injection hab' with hab';injection hab' with q1 q2;subst q1 q2
 have u3:s.args.getD 3 0=x3:=by rw [List.getD_eq_getElem?_getD,hx3,Option.getD_some]
 rw [u0,u1,u2,u3];rw [hab] at c2;have hbl:b<w.heap.size:=World.block_lt_of_cell? w _ c0;have hal:ab<w.heap.size:=World.block_lt_of_cell? w _ d0;simp only [Nat.mul_one,Nat.zero_mul,Nat.one_mul,Nat.add_zero] at d0 d1 d2 d3;have m0:=held d0;have m1:=held d1;have m2:=held d2;have m3:=held d3;have hiI:(i:Int)<(steps.length:Int):=oo
 have hl0:(0:Int)<(s.args.length:Int):=oo
 have hl1:(1:Int)<(s.args.length:Int):=oo
 have hl2:(2:Int)<(s.args.length:Int):=oo
 have hl3:(3:Int)<(s.args.length:Int):=oo
 have hlN:0<s.args.length:=oo
 have n6:(s.kind==6)=false:=by simp;omega
 have n7:(s.kind==7)=false:=by simp;omega
 have n8:(s.kind==8)=false:=by simp;omega
 have n10:(s.kind==10)=false:=by simp;omega
 have n11:(s.kind==11)=false:=by simp;omega
 have n12:(s.kind==12)=false:=by simp;omega
 have n13:(s.kind==13)=false:=by simp;omega
 have n14:(s.kind==14)=false:=by simp;omega
 have y9:(s.kind==9)=true:=by simp;omega
 clear hS hsi har hP hki hsz c1 c3 c4 c5 hab hx0 u0 d0 hx1 u1 d1 hx2 u2 d2 hx3 u3 d3;replace hlen:=Hd hlen;replace e0:=Hd e0;replace f0:=Hd f0;replace f1:=Hd f1;replace f2:=Hd f2;replace f3:=Hd f3;go_enter Tryz.func60,Tryz.ntmps60;go_wp2;refine qaa (fun W=>Blk W (w.heap.size+1) 88 #[.int .i64 0,.slice none 0 0,.int .i64 0]/\Below w.heap.size w W/\w.heap.size+1<W.heap.size) ⟨bk,zg,by simp⟩ ?_;rintro w0 ⟨BD,hw0,hl0⟩;obtain ⟨gD,hgD⟩:=nm (w.heap.size+1)
 rw [hgD] at BD hl0 ⊢;have hgw:w.heap.size<=gD:=oo
 replace hgD:=Hd hgD;have v0:=held (m0 w0 hw0);have v1:=held (m1 w0 hw0);have v2:=held (m2 w0 hw0);have v3:=held (m3 w0 hw0);obtain ⟨z0,z1,z2⟩:=cq3 BD;obtain ⟨r0,r1,r2⟩:=fq3 BD;have s0:Below w0.heap.size w0 w0.drew:=brf.drew;clear c0 c2 m0 m1 m2 m3;refine wrx (S:=Below w0.heap.size w0) [(0,.q),(1,.q),(2,.q),(3,.q),(4,.q),(5,.q),(6,.q),(7,.q),(8,.q),(9,.q),(10,.q),(11,.q),(13,.q),(12,.l),(14,.p),(15,.t),(16,.p)] (s0) ?_
 iterate 13 (refine qaf rfl rfl fun K hK=>xq ?_;go_simp;refine hK _ _ ?_;clear hK K)
 refine vl fun K hK=>?_
 go_simp;refine hK.out _ _ ((s0.alloc s0.size _)) (fun _=>?_);clear hK K
 refine qaj rfl rfl fun K hK=>xp ?_;go_simp;refine hK _ _ ?_;clear hK K
 refine vt fun K hK=>?_
 go_simp;refine hK.out _ _ ?_;clear hK K
 refine qaj rfl rfl fun K hK=>xp ?_;go_simp;refine hK _ _ ?_;clear hK K
 refine qad ?_;go_wp2;refine qaa (fun W=>Blk W gD 88 #[.int .i64 3,.slice (some ⟨w0.heap.size,0,none⟩) 4 4,.int .i64 i]/\Blk W w0.heap.size 3 #[.int .i64 x0,.int .i64 x1,.int .i64 x2,.int .i64 x3]/\Below w.heap.size w W) ⟨bk,bk,by have:=hw0.size;go_grown⟩ ?_;rintro wF ⟨hF,hI,hwF⟩;obtain ⟨e0',e1',e2'⟩:=cq3 hF;refine bodyPost_ret (v:=.tuple #[.agg #[.int .i64 3,.slice (some ⟨w0.heap.size,0,none⟩) 4 4,.int .i64 i],.bool true]) (by simp [results,Tryz.results60,go_sem,e0',e1',e2']) rfl ?_
 exact ⟨hwF,some ⟨w0.heap.size,0,none⟩,4,rfl,fun X hX=>qgk (l:=[x0,x1,x2,x3]) hI rfl (fun hx=>by have:=hX _ hx;have:=hw0.size;omega) (by simp) (by intro y hy;simp at hy;rcases hy with rfl | rfl | rfl | rfl <;> first | exact f0.out | exact f1.out | exact f2.out | exact f3.out)⟩
theorem zz63 {P:Prop} (h:P:=by
 clear hS hsi har hP hki hsz c1 c3 c4 c5 hab hx0 u0 d0 hx1 u1 d1;replace hlen:=Hd hlen;replace e0:=Hd e0;replace f0:=Hd f0;replace f1:=Hd f1;go_enter Tryz.func60,Tryz.ntmps60;go_wp2;refine qaa (fun W=>Blk W (w.heap.size+1) 88 #[.int .i64 0,.slice none 0 0,.int .i64 0]/\Below w.heap.size w W/\w.heap.size+1<W.heap.size) ⟨bk,zg,by simp⟩ ?_;rintro w0 ⟨BD,hw0,hl0⟩;obtain ⟨gD,hgD⟩:=nm (w.heap.size+1)
 rw [hgD] at BD hl0 ⊢;have hgw:w.heap.size<=gD:=oo
 replace hgD:=Hd hgD;have v0:=held (m0 w0 hw0);have v1:=held (m1 w0 hw0);obtain ⟨z0,z1,z2⟩:=cq3 BD;obtain ⟨r0,r1,r2⟩:=fq3 BD;have s0:Below w0.heap.size w0 w0.drew:=brf.drew;clear c0 c2 m0 m1;refine wrx (S:=Below w0.heap.size w0) [(0,.q),(1,.q),(2,.q),(3,.q),(4,.q),(5,.q),(7,.q),(6,.l),(8,.p),(9,.t),(10,.p)] (s0) ?_
 iterate 7 (refine qaf rfl rfl fun K hK=>xq ?_;go_simp;refine hK _ _ ?_;clear hK K)
 refine vl fun K hK=>?_
 go_simp;refine hK.out _ _ ((s0.alloc s0.size _)) (fun _=>?_);clear hK K
 refine qaj rfl rfl fun K hK=>xp ?_;go_simp;refine hK _ _ ?_;clear hK K
 refine vt fun K hK=>?_
 go_simp;refine hK.out _ _ ?_;clear hK K
 refine qaj rfl rfl fun K hK=>xp ?_;go_simp;refine hK _ _ ?_;clear hK K
 refine qad ?_;go_wp2;refine qaa (fun W=>Blk W gD 88 #[.int .i64 1,.slice (some ⟨w0.heap.size,0,none⟩) 2 2,.int .i64 i]/\Blk W w0.heap.size 3 #[.int .i64 x0,.int .i64 x1]/\Below w.heap.size w W) ⟨bk,bk,by have:=hw0.size;go_grown⟩ ?_;rintro wF ⟨hF,hI,hwF⟩;obtain ⟨e0',e1',e2'⟩:=cq3 hF;refine bodyPost_ret (v:=.tuple #[.agg #[.int .i64 1,.slice (some ⟨w0.heap.size,0,none⟩) 2 2,.int .i64 i],.bool true]) (by simp [results,Tryz.results60,go_sem,e0',e1',e2']) rfl ?_
 exact ⟨hwF,some ⟨w0.heap.size,0,none⟩,2,rfl,fun X hX=>qgk (l:=[x0,x1]) hI rfl (fun hx=>by have:=hX _ hx;have:=hw0.size;omega) (by simp) (by intro y hy;simp at hy;rcases hy with rfl | rfl <;> first | exact f0.out | exact f1.out)⟩
 ):P:=h
theorem qoh (steps:List Step) (sa ga:Option Addr) (sc ng gc i:Nat) (s:Step) (w:World) (hS:qbi w sa sc steps) (hsi:steps[i]? = some s) (har:(s.args.length:Int)=qar s.kind) (e0:s.kind=10\/s.kind=12\/s.kind=14) :
  Calls Tryz.prog 60 #[.agg #[.slice sa steps.length sc,.slice ga ng gc],.int .i64 i] w (RetCd (some (1,[s.args.getD 0 0,s.args.getD 1 0])) i w):=by
 have hlen:2<=s.args.length:=by unfold qar at har;revert har;(repeat (first | (split <;> try omega) | omega))
 have hlt:i<steps.length:=qai hsi;obtain ⟨b,o,rfl,p,hC,hP,hki,hsz⟩:=hS.2.2 i s hsi;obtain ⟨c0,c1,c2,c3,c4,c5⟩:=hC;have lA:=hP.1.len;obtain ⟨x0,hx0⟩:=qab (show 0<s.args.length by omega);obtain ⟨ab,ao,hab,d0,f0⟩:=hP.1.2.2 0 x0 hx0;have u0:s.args.getD 0 0=x0:=by rw [List.getD_eq_getElem?_getD,hx0,Option.getD_some]
 obtain ⟨x1,hx1⟩:=qab (show 1<s.args.length by omega);obtain ⟨ab',ao',hab',d1,f1⟩:=hP.1.2.2 1 x1 hx1;rw [hab] at hab';injection hab' with hab';injection hab' with q1 q2;subst q1 q2
 have u1:s.args.getD 1 0=x1:=by rw [List.getD_eq_getElem?_getD,hx1,Option.getD_some]
 rw [u0,u1];rw [hab] at c2;have hbl:b<w.heap.size:=World.block_lt_of_cell? w _ c0;have hal:ab<w.heap.size:=World.block_lt_of_cell? w _ d0;simp only [Nat.mul_one,Nat.zero_mul,Nat.one_mul,Nat.add_zero] at d0 d1;have m0:=held d0;have m1:=held d1;have hiI:(i:Int)<(steps.length:Int):=oo
 have hl0:(0:Int)<(s.args.length:Int):=oo
 have hl1:(1:Int)<(s.args.length:Int):=oo
 have hlN:0<s.args.length:=oo
 have n6:(s.kind==6)=false:=by simp;omega
 have n7:(s.kind==7)=false:=by simp;omega
 have n8:(s.kind==8)=false:=by simp;omega
 have n9:(s.kind==9)=false:=by simp;omega
 have n11:(s.kind==11)=false:=by simp;omega
 have n13:(s.kind==13)=false:=by simp;omega
 rcases e0 with e0 | e0 | e0
 ·
  have y10:(s.kind==10)=true:=by simp;omega
  exact zz63
 ·
  have y12:(s.kind==12)=true:=by simp;omega
  have n10:(s.kind==10)=false:=by simp;omega
  exact zz63
 ·
  have y14:(s.kind==14)=true:=by simp;omega
  have n10:(s.kind==10)=false:=by simp;omega
  have n12:(s.kind==12)=false:=by simp;omega
  exact zz63
theorem qsf (steps:List Step) (sa ga:Option Addr) (sc ng gc i:Nat) (s:Step) (w:World) (hS:qbi w sa sc steps) (hsi:steps[i]? = some s) (har:(s.args.length:Int)=qar s.kind) (e0:s.kind=11) :
  Calls Tryz.prog 60 #[.agg #[.slice sa steps.length sc,.slice ga ng gc],.int .i64 i] w (RetCd (some (2,[s.args.getD 0 0,s.args.getD 1 0,s.args.getD 2 0])) i w):=by
 have hlen:3<=s.args.length:=by unfold qar at har;revert har;(repeat (first | (split <;> try omega) | omega))
 have hlt:i<steps.length:=qai hsi;obtain ⟨b,o,rfl,p,hC,hP,hki,hsz⟩:=hS.2.2 i s hsi;obtain ⟨c0,c1,c2,c3,c4,c5⟩:=hC;have lA:=hP.1.len;obtain ⟨x0,hx0⟩:=qab (show 0<s.args.length by omega);obtain ⟨ab,ao,hab,d0,f0⟩:=hP.1.2.2 0 x0 hx0;have u0:s.args.getD 0 0=x0:=by rw [List.getD_eq_getElem?_getD,hx0,Option.getD_some]
 obtain ⟨x1,hx1⟩:=qab (show 1<s.args.length by omega);obtain ⟨ab',ao',hab',d1,f1⟩:=hP.1.2.2 1 x1 hx1;rw [hab] at hab';injection hab' with hab';injection hab' with q1 q2;subst q1 q2
 have u1:s.args.getD 1 0=x1:=by rw [List.getD_eq_getElem?_getD,hx1,Option.getD_some]
 obtain ⟨x2,hx2⟩:=qab (show 2<s.args.length by omega);obtain ⟨ab',ao',hab',d2,f2⟩:=hP.1.2.2 2 x2 hx2;rw [hab] at hab';injection hab' with hab';injection hab' with q1 q2;subst q1 q2
 have u2:s.args.getD 2 0=x2:=by rw [List.getD_eq_getElem?_getD,hx2,Option.getD_some]
 rw [u0,u1,u2];rw [hab] at c2;have hbl:b<w.heap.size:=World.block_lt_of_cell? w _ c0;have hal:ab<w.heap.size:=World.block_lt_of_cell? w _ d0;simp only [Nat.mul_one,Nat.zero_mul,Nat.one_mul,Nat.add_zero] at d0 d1 d2;have m0:=held d0;have m1:=held d1;have m2:=held d2;have hiI:(i:Int)<(steps.length:Int):=oo
 have hl0:(0:Int)<(s.args.length:Int):=oo
 have hl1:(1:Int)<(s.args.length:Int):=oo
 have hl2:(2:Int)<(s.args.length:Int):=oo
 have hlN:0<s.args.length:=oo
 have n6:(s.kind==6)=false:=by simp;omega
 have n7:(s.kind==7)=false:=by simp;omega
 have n8:(s.kind==8)=false:=by simp;omega
 have n9:(s.kind==9)=false:=by simp;omega
 have n10:(s.kind==10)=false:=by simp;omega
 have n12:(s.kind==12)=false:=by simp;omega
 have n13:(s.kind==13)=false:=by simp;omega
 have n14:(s.kind==14)=false:=by simp;omega
 have y11:(s.kind==11)=true:=by simp;omega
 clear hS hsi har hP hki hsz c1 c3 c4 c5 hab hx0 u0 d0 hx1 u1 d1 hx2 u2 d2;replace hlen:=Hd hlen;replace e0:=Hd e0;replace f0:=Hd f0;replace f1:=Hd f1;replace f2:=Hd f2;go_enter Tryz.func60,Tryz.ntmps60;go_wp2;refine qaa (fun W=>Blk W (w.heap.size+1) 88 #[.int .i64 0,.slice none 0 0,.int .i64 0]/\Below w.heap.size w W/\w.heap.size+1<W.heap.size) ⟨bk,zg,by simp⟩ ?_;rintro w0 ⟨BD,hw0,hl0⟩;obtain ⟨gD,hgD⟩:=nm (w.heap.size+1)
 rw [hgD] at BD hl0 ⊢;have hgw:w.heap.size<=gD:=oo
 replace hgD:=Hd hgD;have v0:=held (m0 w0 hw0);have v1:=held (m1 w0 hw0);have v2:=held (m2 w0 hw0);obtain ⟨z0,z1,z2⟩:=cq3 BD;obtain ⟨r0,r1,r2⟩:=fq3 BD;have s0:Below w0.heap.size w0 w0.drew:=brf.drew;clear c0 c2 m0 m1 m2;refine wrx (S:=Below w0.heap.size w0) [(0,.q),(1,.q),(2,.q),(3,.q),(4,.q),(5,.q),(6,.q),(7,.q),(8,.q),(10,.q),(9,.l),(11,.p),(12,.t),(13,.p)] (s0) ?_
 iterate 10 (refine qaf rfl rfl fun K hK=>xq ?_;go_simp;refine hK _ _ ?_;clear hK K)
 refine vl fun K hK=>?_
 go_simp;refine hK.out _ _ ((s0.alloc s0.size _)) (fun _=>?_);clear hK K
 refine qaj rfl rfl fun K hK=>xp ?_;go_simp;refine hK _ _ ?_;clear hK K
 refine vt fun K hK=>?_
 go_simp;refine hK.out _ _ ?_;clear hK K
 refine qaj rfl rfl fun K hK=>xp ?_;go_simp;refine hK _ _ ?_;clear hK K
 refine qad ?_;go_wp2;refine qaa (fun W=>Blk W gD 88 #[.int .i64 2,.slice (some ⟨w0.heap.size,0,none⟩) 3 3,.int .i64 i]/\Blk W w0.heap.size 3 #[.int .i64 x0,.int .i64 x1,.int .i64 x2]/\Below w.heap.size w W) ⟨bk,bk,by have:=hw0.size;go_grown⟩ ?_;rintro wF ⟨hF,hI,hwF⟩;obtain ⟨e0',e1',e2'⟩:=cq3 hF;refine bodyPost_ret (v:=.tuple #[.agg #[.int .i64 2,.slice (some ⟨w0.heap.size,0,none⟩) 3 3,.int .i64 i],.bool true]) (by simp [results,Tryz.results60,go_sem,e0',e1',e2']) rfl ?_
 exact ⟨hwF,some ⟨w0.heap.size,0,none⟩,3,rfl,fun X hX=>qgk (l:=[x0,x1,x2]) hI rfl (fun hx=>by have:=hX _ hx;have:=hw0.size;omega) (by simp) (by intro y hy;simp at hy;rcases hy with rfl | rfl | rfl <;> first | exact f0.out | exact f1.out | exact f2.out)⟩
theorem qs2 (steps:List Step) (sa ga:Option Addr) (sc ng gc i:Nat) (s:Step) (w:World) (hS:qbi w sa sc steps) (hsi:steps[i]? = some s) (har:(s.args.length:Int)=qar s.kind) (e0:s.kind=13) :
  Calls Tryz.prog 60 #[.agg #[.slice sa steps.length sc,.slice ga ng gc],.int .i64 i] w (RetCd (some (1,[s.args.getD 0 0,s.args.getD 2 0])) i w):=by
 have hlen:3<=s.args.length:=by unfold qar at har;revert har;(repeat (first | (split <;> try omega) | omega))
 have hlt:i<steps.length:=qai hsi;obtain ⟨b,o,rfl,p,hC,hP,hki,hsz⟩:=hS.2.2 i s hsi;obtain ⟨c0,c1,c2,c3,c4,c5⟩:=hC;have lA:=hP.1.len;obtain ⟨x0,hx0⟩:=qab (show 0<s.args.length by omega);obtain ⟨ab,ao,hab,d0,f0⟩:=hP.1.2.2 0 x0 hx0;have u0:s.args.getD 0 0=x0:=by rw [List.getD_eq_getElem?_getD,hx0,Option.getD_some]
 obtain ⟨x2,hx2⟩:=qab (show 2<s.args.length by omega);obtain ⟨ab',ao',hab',d2,f2⟩:=hP.1.2.2 2 x2 hx2;rw [hab] at hab';injection hab' with hab';injection hab' with q1 q2;subst q1 q2
 have u2:s.args.getD 2 0=x2:=by rw [List.getD_eq_getElem?_getD,hx2,Option.getD_some]
 rw [u0,u2];rw [hab] at c2;have hbl:b<w.heap.size:=World.block_lt_of_cell? w _ c0;have hal:ab<w.heap.size:=World.block_lt_of_cell? w _ d0;simp only [Nat.mul_one,Nat.zero_mul,Nat.one_mul,Nat.add_zero] at d0 d2;have m0:=held d0;have m2:=held d2;have hiI:(i:Int)<(steps.length:Int):=oo
 have hl0:(0:Int)<(s.args.length:Int):=oo
 have hl2:(2:Int)<(s.args.length:Int):=oo
 have hlN:0<s.args.length:=oo
 have n6:(s.kind==6)=false:=by simp;omega
 have n7:(s.kind==7)=false:=by simp;omega
 have n8:(s.kind==8)=false:=by simp;omega
 have n9:(s.kind==9)=false:=by simp;omega
 have n10:(s.kind==10)=false:=by simp;omega
 have n11:(s.kind==11)=false:=by simp;omega
 have n12:(s.kind==12)=false:=by simp;omega
 have n14:(s.kind==14)=false:=by simp;omega
 have y13:(s.kind==13)=true:=by simp;omega
 clear hS hsi har hP hki hsz c1 c3 c4 c5 hab hx0 u0 d0 hx2 u2 d2;replace hlen:=Hd hlen;replace e0:=Hd e0;replace f0:=Hd f0;replace f2:=Hd f2;go_enter Tryz.func60,Tryz.ntmps60;go_wp2;refine qaa (fun W=>Blk W (w.heap.size+1) 88 #[.int .i64 0,.slice none 0 0,.int .i64 0]/\Below w.heap.size w W/\w.heap.size+1<W.heap.size) ⟨bk,zg,by simp⟩ ?_;rintro w0 ⟨BD,hw0,hl0⟩;obtain ⟨gD,hgD⟩:=nm (w.heap.size+1)
 rw [hgD] at BD hl0 ⊢;have hgw:w.heap.size<=gD:=oo
 replace hgD:=Hd hgD;have v0:=held (m0 w0 hw0);have v2:=held (m2 w0 hw0);obtain ⟨z0,z1,z2⟩:=cq3 BD;obtain ⟨r0,r1,r2⟩:=fq3 BD;have s0:Below w0.heap.size w0 w0.drew:=brf.drew;clear c0 c2 m0 m2;refine wrx (S:=Below w0.heap.size w0) [(0,.q),(1,.q),(2,.q),(3,.q),(4,.q),(5,.q),(7,.q),(6,.l),(8,.p),(9,.t),(10,.p)] (s0) ?_
 iterate 7 (refine qaf rfl rfl fun K hK=>xq ?_;go_simp;refine hK _ _ ?_;clear hK K)
 refine vl fun K hK=>?_
 go_simp;refine hK.out _ _ ((s0.alloc s0.size _)) (fun _=>?_);clear hK K
 refine qaj rfl rfl fun K hK=>xp ?_;go_simp;refine hK _ _ ?_;clear hK K
 refine vt fun K hK=>?_
 go_simp;refine hK.out _ _ ?_;clear hK K
 refine qaj rfl rfl fun K hK=>xp ?_;go_simp;refine hK _ _ ?_;clear hK K
 refine qad ?_;go_wp2;refine qaa (fun W=>Blk W gD 88 #[.int .i64 1,.slice (some ⟨w0.heap.size,0,none⟩) 2 2,.int .i64 i]/\Blk W w0.heap.size 3 #[.int .i64 x0,.int .i64 x2]/\Below w.heap.size w W) ⟨bk,bk,by have:=hw0.size;go_grown⟩ ?_;rintro wF ⟨hF,hI,hwF⟩;obtain ⟨e0',e1',e2'⟩:=cq3 hF;refine bodyPost_ret (v:=.tuple #[.agg #[.int .i64 1,.slice (some ⟨w0.heap.size,0,none⟩) 2 2,.int .i64 i],.bool true]) (by simp [results,Tryz.results60,go_sem,e0',e1',e2']) rfl ?_
 exact ⟨hwF,some ⟨w0.heap.size,0,none⟩,2,rfl,fun X hX=>qgk (l:=[x0,x2]) hI rfl (fun hx=>by have:=hX _ hx;have:=hw0.size;omega) (by simp) (by intro y hy;simp at hy;rcases hy with rfl | rfl <;> first | exact f0.out | exact f2.out)⟩
theorem qt7 (steps:List Step) (sa ga:Option Addr) (sc ng gc i:Nat) (s:Step) (w:World) (hS:qbi w sa sc steps) (hsi:steps[i]? = some s) (har:(s.args.length:Int)=qar s.kind) (e0:s.kind=6) :
  Calls Tryz.prog 60 #[.agg #[.slice sa steps.length sc,.slice ga ng gc],.int .i64 i] w (RetCd (some (4,[])) i w):=by
 have hlt:i<steps.length:=qai hsi;obtain ⟨b,o,rfl,p,hC,hP,hki,hsz⟩:=hS.2.2 i s hsi;obtain ⟨c0,c1,c2,c3,c4,c5⟩:=hC;have hbl:b<w.heap.size:=World.block_lt_of_cell? w _ c0;have hiI:(i:Int)<(steps.length:Int):=oo
 have y6:(s.kind==6)=true:=by simp;omega
 replace e0:=Hd e0;clear hS hsi har hP hki hsz c1 c3 c4 c5;go_enter Tryz.func60,Tryz.ntmps60;go_wp2;refine qaa (fun W=>Blk W (w.heap.size+1) 88 #[.int .i64 4,.slice none 0 0,.int .i64 i]/\Below w.heap.size w W) ⟨bk,zg⟩ ?_;rintro wF ⟨hF,hwF⟩;obtain ⟨e0',e1',e2'⟩:=cq3 hF;refine bodyPost_ret (v:=.tuple #[.agg #[.int .i64 4,.slice none 0 0,.int .i64 i],.bool true]) (by simp [results,Tryz.results60,go_sem,e0',e1',e2']) rfl ?_;exact ⟨hwF,none,0,rfl,fun X hX V hV=>SlR.nil⟩
theorem qw7 (steps:List Step) (sa ga:Option Addr) (sc ng gc i:Nat) (s:Step) (w:World) (hS:qbi w sa sc steps) (hsi:steps[i]? = some s) (har:(s.args.length:Int)=qar s.kind) (e0:¬ (6<=s.kind/\s.kind<=14)) :
  Calls Tryz.prog 60 #[.agg #[.slice sa steps.length sc,.slice ga ng gc],.int .i64 i] w (RetCd none i w):=by
 have hlt:i<steps.length:=qai hsi;obtain ⟨b,o,rfl,p,hC,hP,hki,hsz⟩:=hS.2.2 i s hsi;obtain ⟨c0,c1,c2,c3,c4,c5⟩:=hC;have hbl:b<w.heap.size:=World.block_lt_of_cell? w _ c0;have hiI:(i:Int)<(steps.length:Int):=oo
 have n6:(s.kind==6)=false:=by simp;omega
 have n7:(s.kind==7)=false:=by simp;omega
 have n8:(s.kind==8)=false:=by simp;omega
 have n9:(s.kind==9)=false:=by simp;omega
 have n10:(s.kind==10)=false:=by simp;omega
 have n11:(s.kind==11)=false:=by simp;omega
 have n12:(s.kind==12)=false:=by simp;omega
 have n13:(s.kind==13)=false:=by simp;omega
 have n14:(s.kind==14)=false:=by simp;omega
 replace e0:=Hd e0;clear hS hsi har hP hki hsz c1 c3 c4 c5;go_enter Tryz.func60,Tryz.ntmps60;go_wp2;refine qaa (fun W=>Blk W (w.heap.size+1) 88 #[.int .i64 0,.slice none 0 0,.int .i64 0]/\Below w.heap.size w W) ⟨bk,zg⟩ ?_;rintro wF ⟨hF,hwF⟩;obtain ⟨e0',e1',e2'⟩:=cq3 hF;refine bodyPost_ret (v:=.tuple #[.agg #[.int .i64 0,.slice none 0 0,.int .i64 0],.bool false]) (by simp [results,Tryz.results60,go_sem,e0',e1',e2']) rfl ?_;exact ⟨hwF,rfl⟩
theorem qk9 (steps:List Step) (sa ga:Option Addr) (sc ng gc i:Nat) (s:Step) (w:World) (hS:qbi w sa sc steps) (hsi:steps[i]? = some s) (har:(s.args.length:Int)=qar s.kind) :
  Calls Tryz.prog 60 #[.agg #[.slice sa steps.length sc,.slice ga ng gc],.int .i64 i] w (RetCd (condP s) i w):=by
 unfold condP;by_cases e6:s.kind=6
 · rw [if_pos e6];exact qt7 steps sa ga sc ng gc i s w hS hsi har e6
 rw [if_neg e6];by_cases e7:s.kind=7\/s.kind=8
 · rw [if_pos e7];exact qtb steps sa ga sc ng gc i s w hS hsi har e7
 rw [if_neg e7];by_cases e9:s.kind=9
 · rw [if_pos e9];exact qvl steps sa ga sc ng gc i s w hS hsi har e9
 rw [if_neg e9];by_cases e10:s.kind=10\/s.kind=12\/s.kind=14
 · rw [if_pos e10];exact qoh steps sa ga sc ng gc i s w hS hsi har e10
 rw [if_neg e10];by_cases e11:s.kind=11
 · rw [if_pos e11];exact qsf steps sa ga sc ng gc i s w hS hsi har e11
 rw [if_neg e11];by_cases e13:s.kind=13
 · rw [if_pos e13];exact qs2 steps sa ga sc ng gc i s w hS hsi har e13
 rw [if_neg e13];exact qw7 steps sa ga sc ng gc i s w hS hsi har oo
def GB (D M:Nat):Prop:=0<D/\D<=(2 ^ 32) ^ 8/\M<=(3*2 ^ 32) ^ 8/\D<=M
def Gr (D M k c L:Nat) (p:List Tm):Prop:=Pok ((8*k:Nat):Int) p/\PolyO (D ^ k) (c*M ^ k) p/\p.length<=L
section
variable {D M k c L k' c' L' : Nat} {p q : List Tm}
theorem Gr.more (h:Gr D M k c L p) (hc:c<=c') (hL:L<=L'):Gr D M k c' L' p:=⟨h.1,h.2.1.more (Nat.mul_le_mul_right _ hc),Nat.le_trans h.2.2 hL⟩
theorem Gr.take (h:Gr D M k c L p) (j:Nat):Gr D M k c L (p.take j):=⟨h.1.take j,fun t ht=>h.2.1 t (List.mem_of_mem_take ht),Nat.le_trans (by rw [List.length_take];omega) h.2.2⟩
theorem Gr.nil:Gr D M k c L []:=⟨Pok.nil _,PolyO.nil _ _,by simp⟩
theorem Gr.add (h:Gr D M k c L p) (h':Gr D M k c' L' q):Gr D M k (c+c') (L+L') (addP p q) :=
 ⟨qc9 h.1 h'.1,(h.2.1.add h'.2.1).more (by rw [Nat.add_mul];exact nlr _),Nat.le_trans (qc6 p q) (Nat.add_le_add h.2.2 h'.2.2)⟩
theorem Gr.neg (h:Gr D M k c L p):Gr D M k c L (negP p):=⟨qjc h.1,h.2.1.neg,by rw [qo8];exact h.2.2⟩
theorem Gr.sub (h:Gr D M k c L p) (h':Gr D M k c' L' q):Gr D M k (c+c') (L+L') (subP p q):=h.add h'.neg
theorem Over.mul {D M D' M':Nat} {x y:Rat} (h:Over D M x) (h':Over D' M' y):Over (D*D') (M*M') (x*y):=by
 obtain ⟨z,h1,h2⟩:=h;obtain ⟨u,k1,k2⟩:=h';refine ⟨z*u,?_,?_⟩
 ·
  rw [Rat.intCast_mul,<- h1,<- k1,Rat.natCast_mul]
  grind
 · rw [Int.natAbs_mul];exact Nat.mul_le_mul h2 k2
theorem PolyO.times {D M D' M':Nat} {p:List Tm} {t:Tm} (h:PolyO D M p) (h':Over D' M' t.1):PolyO (D*D') (M*M') (qaq p t):=fun u hu=>by
 obtain ⟨s,hs,rfl⟩:=List.mem_map.1 hu;exact (h s hs).mul h'
theorem qko {D M D' M':Nat} {p:List Tm} (h:PolyO D M p):∀ (q out:List Tm) (K:Nat),PolyO D' M' q->PolyO (D*D') K out ->
  PolyO (D*D') (K+M*M'*q.length) (q.foldl (fun out t=>addP out (qaq p t)) out)/\(q.foldl (fun out t=>addP out (qaq p t)) out).length<=out.length+p.length*q.length
 | [],out,K,_,ho=>⟨by simpa using ho,by simp⟩
 | t :: q,out,K,hq,ho=>by
  have h1:=ho.add (h.times (hq t List.mem_cons_self));obtain ⟨h2,h3⟩:=qko h q _ _ (fun x hx=>hq x (List.mem_cons_of_mem _ hx)) h1;have h4:=qc6 out (qaq p t);have h5:(qaq p t).length=p.length:=by simp [qaq]
  refine ⟨h2.more ?_,?_⟩
  · rw [List.length_cons,Nat.mul_succ];omega
  · rw [List.foldl_cons,List.length_cons,Nat.mul_succ];omega
theorem Gr.mul (h:Gr D M k c L p) (h':Gr D M k' c' L' q):Gr D M (k+k') (c*c'*L') (L*L') (mulP p q):=by
 have hf:=qko h.2.1 q [] 0 h'.2.1 (PolyO.nil _ _);refine ⟨?_,?_,?_⟩
 ·
  have:=qjd h.1 h'.1.1 oo oo
  rwa [show ((8*k:Nat):Int)+((8*k':Nat):Int)=((8*(k+k'):Nat):Int) by omega] at this
 ·
  rw [Nat.pow_add];refine hf.1.more ?_;rw [Nat.zero_add,Nat.pow_add];refine Nat.le_trans (Nat.mul_le_mul_left _ h'.2.2) (Nat.le_of_eq ?_);generalize M ^ k=x;generalize M ^ k'=y;simp only [Nat.mul_comm,Nat.mul_left_comm,Nat.mul_assoc]
 ·
  have:=hf.2;simp only [List.length_nil,Nat.zero_add] at this;exact Nat.le_trans this (Nat.mul_le_mul h.2.2 h'.2.2)
theorem Gr.lift (H:GB D M) (h:Gr D M k c L p):Gr D M (k+1) c L p:=by
 refine ⟨h.1.more oo,?_,h.2.2⟩;rw [Nat.pow_succ];refine (h.2.1.wide D).more ?_;rw [Nat.pow_succ,Nat.mul_assoc];exact Nat.mul_le_mul_left _ (Nat.mul_le_mul_left _ H.2.2.2)
theorem Gr.var (H:GB D M) (n:Nat):Gr D M 1 1 1 (varP n):=⟨qel oo,by rw [Nat.one_mul,Nat.pow_one,Nat.pow_one];exact qix n H.2.2.2,qh4 n⟩
theorem Gr.one (H:GB D M):Gr D M 1 1 1 (qbg 1):=by
 refine ⟨(qis 1).more oo,?_,by simp [qbg]⟩;intro t ht;unfold qbg at ht;rw [if_neg dd,List.mem_singleton] at ht;subst ht;exact ⟨D,by show (1:Rat)*_=_;rw [Rat.one_mul,Nat.pow_one,Rat.intCast_natCast],by rw [Nat.one_mul,Nat.pow_one];exact H.2.2.2⟩
theorem quv (h:GB D M) (k:Nat):0<D ^ k/\D ^ k<=(2 ^ 32) ^ (8*k)/\M ^ k<=(3*2 ^ 32) ^ (8*k):=by
 refine ⟨Nat.pow_pos h.1,?_,?_⟩
 · rw [Nat.pow_mul];exact Nat.pow_le_pow_left h.2.1 k
 · rw [Nat.pow_mul];exact Nat.pow_le_pow_left h.2.2.1 k
theorem Gr.fine (H:GB D M) (h:Gr D M k c L p) (hk:k<=6) (hc:c<=2 ^ 64) (hL:L<=100000):FineP p:=by
 obtain ⟨h1,h2,h3⟩:=quv H k;refine qeq (i:=8*k+2) h.1 oo h.2.1 h1 (Nat.le_trans h2 ?_) ?_ oo (Nat.le_trans h.2.2 hL)
 · exact Nat.pow_le_pow_right dd oo
 ·
  refine Nat.le_trans (Nat.mul_le_mul hc h3) ?_;have e2:(3*2 ^ 32:Nat) ^ (8*k+2)=(3*2 ^ 32) ^ (8*k)*(3*2 ^ 32)*(3*2 ^ 32):=by rw [Nat.pow_succ,Nat.pow_succ]
  rw [e2];generalize (3*2 ^ 32) ^ (8*k)=P
  omega
def qmg (p q:List Tm):Prop:=(∀ j,FineP (mulP p (q.take j)))/\∀ t∈q,FineP (qaq p t)
theorem Gr.mulFine (H:GB D M) (h:Gr D M k c L p) (h':Gr D M k' c' L' q) (hk:k+k'<=6) (hc:c*c'*L'<=2 ^ 64) (hL:L*L'<=100000):qmg p q:=by
 refine ⟨fun j=>(h.mul (h'.take j)).fine H hk hc hL,fun t ht=>?_⟩;have hn:1<=L':=Nat.le_trans (List.length_pos_of_mem ht) h'.2.2;have e:qaq p t=mulP p [t]:=qc3.symm;have h1:Gr D M k' c' 1 [t]:=⟨⟨fun s hs=>by rw [List.mem_singleton] at hs;subst hs;exact h'.1.1 _ ht,by simp⟩,fun s hs=>by rw [List.mem_singleton] at hs;subst hs;exact h'.2.1 _ ht,by simp⟩
 rw [e];refine (h.mul h1).fine H hk ?_ ?_
 · exact Nat.le_trans (Nat.mul_le_mul_left _ hn) hc
 · exact Nat.le_trans (Nat.mul_le_mul_left _ hn) hL
end
def GV (D M L:Nat) (v:Vec):Prop:=Gr D M 1 1 L v.1/\Gr D M 1 1 L v.2
theorem GV.more {D M L L':Nat} {v:Vec} (h:GV D M L v) (e:L<=L'):GV D M L' v:=⟨h.1.more (nlr _) e,h.2.more (nlr _) e⟩
def qas (a b c d:Vec):List Tm:=subP (mulP (subP b.1 a.1) (subP d.2 c.2)) (mulP (subP b.2 a.2) (subP d.1 c.1))
def dotP (a b c d:Vec):List Tm:=addP (mulP (subP b.1 a.1) (subP d.1 c.1)) (mulP (subP b.2 a.2) (subP d.2 c.2))
def normP (a b:Vec):List Tm:=dotP a b a b
section
variable {D M L : Nat} {a b c d : Vec}
theorem qmn (ha:GV D M L a) (hb:GV D M L b) (hc:GV D M L c) (hd:GV D M L d):Gr D M 2 (16*L) (2*((L+L)*(L+L))) (qas a b c d) :=
 (((hb.1.sub ha.1).mul (hd.2.sub hc.2)).sub ((hb.2.sub ha.2).mul (hd.1.sub hc.1))).more oo oo
theorem ql4 (ha:GV D M L a) (hb:GV D M L b) (hc:GV D M L c) (hd:GV D M L d):Gr D M 2 (16*L) (2*((L+L)*(L+L))) (dotP a b c d) :=
 (((hb.1.sub ha.1).mul (hd.1.sub hc.1)).add ((hb.2.sub ha.2).mul (hd.2.sub hc.2))).more oo oo
structure FourFine (b1 b2 d1 d2 : List Tm) : Prop where
 f1:FineP b1
 f2:FineP b2
 f3:FineP d1
 f4:FineP d2
 m1:qmg b1 d1
 m2:qmg b2 d2
 p1:FineP (mulP b1 d1)
 p2:FineP (mulP b2 d2)
end
def dblP (p:List Tm):List Tm:=addP p p
def qby (step:Int):List Vr->Nat->Nat
 | [],_=>0
 | v :: r,k=>if v.2.1=step then k else qby step r (k+1)
theorem qnb (step:Int):∀ (l:List Vr) (k:Nat),qby step l k<=k+l.length
 | [],k=>by simp [qby]
 | v :: r,k=>by
  unfold qby
  split
  · omega
  ·
   have:=qnb step r (k+1);rw [List.length_cons]
   omega
def qb0 (n:Nat):List Tm:=addP (qbg 1) (mulP (varP n) (varP n))
def sOn (n:Nat) (o a:Vec):List Tm:=dblP (addP (subP o.1 a.1) (mulP (varP n) (subP o.2 a.2)))
def qep (n:Nat) (o a p:Vec):List (List Tm) :=
 [subP (mulP (qb0 n) (subP p.1 a.1)) (sOn n o a),subP (mulP (qb0 n) (subP p.2 a.2)) (mulP (varP n) (sOn n o a))]
def sOt (p q o:Vec):List Tm:=dblP (dotP p o p q)
def qht (p q o x:Vec):List (List Tm) :=
 [subP (mulP (normP p q) (subP x.1 p.1)) (mulP (sOt p q o) (subP q.1 p.1)),subP (mulP (normP p q) (subP x.2 p.2)) (mulP (sOt p q o) (subP q.2 p.2))]
def hypsP (kind:Int) (n:Nat) (a b c d x:Vec):List (List Tm) :=
 if kind=6 then qep n a b x
 else if kind=7 then [qas b c b x,dotP b c a x]
 else if kind=8 then [dotP b c a x,addP (qas b c b a) (qas b c b x)]
 else if kind=9 then [qas a b a x,qas c d c x]
 else if kind=10 then qht a b c x
 else if kind=11 then [subP (normP a x) (normP b x),subP (normP a x) (normP c x)]
 else if kind=12 then [qas a b a x,subP (normP c x) (normP c d)]
 else if kind=13 then [subP (normP a x) (normP a b),subP (normP c x) (normP c d)]
 else if kind=14 then [subP (normP a x) (normP a b),subP (normP b x) (normP a b)]
 else []
def qli (c1 d1 c2 d2:List Tm):List Tm:=subP (mulP c1 d2) (mulP c2 d1)
section
variable {D M L : Nat} {a b c d x : Vec}
theorem qq8 {k c L:Nat} {p:List Tm} (h:Gr D M k c L p):Gr D M k (c+c) (L+L) (dblP p):=h.add h
theorem qdd (H:GB D M) (n:Nat):Gr D M 2 2 2 (qb0 n):=((Gr.one H).lift H).add ((Gr.var H n).mul (Gr.var H n))
theorem norm8 (ha:GV D M 8 a) (hb:GV D M 8 b):Gr D M 2 128 512 (normP a b):=(ql4 ha hb ha hb).more dd dd
theorem qeb (ha:GV D M 8 a) (hb:GV D M 8 b) (hc:GV D M 8 c) (hd:GV D M 8 d):Gr D M 2 128 512 (qas a b c d):=(qmn ha hb hc hd).more dd dd
theorem dot8 (ha:GV D M 8 a) (hb:GV D M 8 b) (hc:GV D M 8 c) (hd:GV D M 8 d):Gr D M 2 128 512 (dotP a b c d):=(ql4 ha hb hc hd).more dd dd
theorem qk0 (ha:GV D M 3 a) (hb:GV D M 3 b) (hc:GV D M 3 c) (hd:GV D M 3 d):Gr D M 2 48 72 (qas a b c d):=(qmn ha hb hc hd).more dd dd
theorem dot3 (ha:GV D M 3 a) (hb:GV D M 3 b) (hc:GV D M 3 c) (hd:GV D M 3 d):Gr D M 2 48 72 (dotP a b c d):=(ql4 ha hb hc hd).more dd dd
end
structure SQ where
 a:Option Addr
 n:Nat
 c:Nat
def SQ.cs (s:SQ):List Value:=[.slice s.a s.n s.c]
theorem SQ.cs_len (s:SQ):s.cs.length=1:=rfl
theorem SQ.cs_one (s:SQ):∀ u∈s.cs,u.oneCell'=true:=by simp [SQ.cs,Value.oneCell']
def SqE (V:World) (b o:Nat) (s:SQ):Prop:=V.cell? ⟨b,o,none⟩=some (.slice s.a s.n s.c)
def SqR (V:World) (a:Option Addr) (c:Nat) (l:List SQ):Prop:=SlR 1 SqE V a c l
theorem SqR.ext {V V':World} {a:Option Addr} {c:Nat} {l:List SQ} (h:SqR V a c l) (e:Ext V V'):SqR V' a c l:=SlR.mono h fun _ _ _ _ h=>e _ _ h
def AllS (X:Nat->Prop) (w:World) (l:List SQ) (ps:List (List Tm)):Prop:=l.length=ps.length/\∀ (k:Nat) (s:SQ) (p:List Tm),l[k]? = some s->ps[k]? = some p->s.n=p.length/\PolX X w s.a s.c p
def PsX (X:Nat->Prop) (w:World) (a:Option Addr) (c:Nat) (ps:List (List Tm)):Prop:=∃ l:List SQ,Rd X w (fun V=>SqR V a c l)/\AllS X w l ps
section
variable {X : Nat -> Prop} {w w' : World} {a : Option Addr} {c : Nat} {ps : List (List Tm)}
theorem PsX.nil:PsX X w none 0 []:=⟨[],fun _ _=>SlR.nil,rfl,fun k s p h=>by simp at h⟩
theorem qhr {g:Nat} {t:TypeId} {p q:List Tm} {a1 a2:Option Addr} {c1 c2:Nat} (hB:Blk w g t #[.slice a1 p.length c1,.slice a2 q.length c2]) (hg:¬ X g) (hp:PolX X w a1 c1 p) (hq:PolX X w a2 c2 q):PsX X w (some ⟨g,0,none⟩) 2 [p,q]:=by
 refine ⟨[⟨a1,p.length,c1⟩,⟨a2,q.length,c2⟩],fun V hV=>⟨by simp,by simp [maxLen],fun k s hs=>⟨g,0,rfl,?_⟩⟩,rfl,fun k s u hs hu=>?_⟩
 ·
  match k,hs with
  | 0,hs=>simp at hs;subst hs;exact hV _ _ hg (hB.cell 0)
  | 1,hs=>simp at hs;subst hs;exact hV _ _ hg (hB.cell 1)
  | n+2,hs=>simp at hs
 ·
  match k,hs,hu with
  | 0,hs,hu=>simp at hs hu;subst hs hu;exact ⟨rfl,hp⟩
  | 1,hs,hu=>simp at hs hu;subst hs hu;exact ⟨rfl,hq⟩
  | n+2,hs,hu=>simp at hs
end
def RetPs (X:Nat->Prop) (ps:List (List Tm)) (w:World) (e:Ending) (w':World):Prop:=∃ a c,e=.returned (.slice a ps.length c)/\PsX X w' a c ps/\Below w.heap.size w w'
abbrev OwnPo (B:Nat) (w:World) (a:Option Addr) (c:Nat) (l:List SQ):Prop:=Own SQ.cs 1 75 B w a c l
theorem qi2:(Tryz.prog.info? 75).map (fun i=>(i.zero,i.size,i.bytes))=some (some (.slice none 0 0),1,24):=by kernel_rfl
theorem qxd {B:Nat} {w:World} {l:List SQ} {ops:Array Oper} {rest:List Oper} {o:Oper} {act:Act} {Q:Exit->Act->World->Prop} (hgd:o.guard=none) (s y:Operand) (ts:TypeId)
  (ho:o.op=.call { callee:=.builtin .append,args:=#[s,y],argTypes:=#[ts,ts] }) (hu:Tryz.prog.underlying ts=some (.slice 75))
  (a:Option Addr) (c:Nat) (hs:act.eval s=.slice a l.length c) (hown:OwnPo B w a c l)
  (x:SQ) (b c1:Nat) (hy:act.eval y=.slice (some ⟨b,0,none⟩) 1 c1) (hcell:w.cell? ⟨b,0,none⟩=some (.slice x.a x.n x.c))
  (l2:List SQ) (hl2:l2=l++[x]) (hlen:l2.length<=16777216) (hB:B<=w.heap.size)
  (h:∀ a' c' w',OwnPo B w' a' c' l2->w.grownBy w' (Value.ownBlock (.slice a l.length c))->((∃ g,a'=some ⟨g,0,none⟩/\(a=some ⟨g,0,none⟩\/g=w.heap.size))) ->
   wpList Tryz.prog ops Q rest (act.put o.dst (.slice a' l2.length c')) w'):wpList Tryz.prog ops Q (o :: rest) act w :=
 qay hgd s y ts ho hu qi2 rfl oo oo SQ.cs_len a c hs hown x (SQ.cs_one x) b c1 hy (fun j u hj=>by match j,hj with | 0,hj=>simp [SQ.cs] at hj;subst hj;exact hcell | n+1,hj=>simp [SQ.cs] at hj) l2 hl2 hlen hB h
theorem qrg (m:List SQ) (j:Nat):(m.flatMap SQ.cs)[j]? = (m[j]?).map fun t=>.slice t.a t.n t.c:=by
 induction m generalizing j with
 | nil=>simp
 | cons t m ih =>
  rw [List.flatMap_cons]
  cases j with
  | zero=>simp [SQ.cs]
  | succ k =>
   have:=ih k;simpa [SQ.cs] using this
theorem qk2 {B:Nat} {w:World} {l:List SQ} {ops:Array Oper} {rest:List Oper} {o:Oper} {act:Act} {Q:Exit->Act->World->Prop} (hgd:o.guard=none) (s y:Operand) (ts:TypeId)
  (ho:o.op=.call { callee:=.builtin .append,args:=#[s,y],argTypes:=#[ts,ts] }) (hu:Tryz.prog.underlying ts=some (.slice 75))
  (a:Option Addr) (c:Nat) (hs:act.eval s=.slice a l.length c) (hown:OwnPo B w a c l) (m:List SQ) (b:Option Addr) (n c1:Nat) (hn:n=m.length) (hy:act.eval y=.slice b n c1) (hm:SqR w b c1 m)
  (l2:List SQ) (hl2:l2=l++m) (hlen:l2.length<=16777216) (hB:B<=w.heap.size)
  (h:∀ a' c' w',OwnPo B w' a' c' l2->w.grownBy w' (Value.ownBlock (.slice a l.length c))->(m=[]/\a'=a/\w'=w\/(∃ g,a'=some ⟨g,0,none⟩/\(a=some ⟨g,0,none⟩\/g=w.heap.size))) ->
   wpList Tryz.prog ops Q rest (act.put o.dst (.slice a' l2.length c')) w'):wpList Tryz.prog ops Q (o :: rest) act w:=by
 subst hl2 hn;refine wpList_plain hgd fun _ hK=>?_
 cases m with
 | nil =>
  obtain ⟨i,hi,_⟩:=info_parts qi2;refine qfh s y ts ho hu hi a l.length c hown.cap.1 hs b c1 hy ?_;have:=h a c w (by simpa using hown) (World.grownBy.refl _ _) (.inl ⟨rfl,rfl,rfl⟩);simp only [List.append_nil] at this;exact hK _ _ this
 | cons x m =>
  obtain ⟨bb,off,hb,_⟩:=hm.2.2 0 x rfl;refine qg8 s y ts ho hu qi2 rfl oo oo SQ.cs_len a c hs hown (x :: m) (by simp) ?_ ⟨bb,off,none⟩ c1 (by rw [hy,hb]) ?_ _ rfl hlen hB
   fun a' c' w' h1 h2 h3=>hK _ _ (h a' c' w' h1 h2 (.inr h3))
  ·
   intro u hu;simp only [List.mem_flatMap] at hu;obtain ⟨z,_,hz⟩:=hu;exact SQ.cs_one z u hz
  ·
   intro j u hu;rw [qrg] at hu;obtain ⟨z,hz,hj⟩:=Option.map_eq_some_iff.1 hu;obtain ⟨b2,off2,hb2,hc⟩:=hm.2.2 j z hz;rw [hb] at hb2;have e1:bb=b2:=congrArg (fun o:Option Addr=>(o.getD default).block) hb2;have e2:off=off2:=congrArg (fun o:Option Addr=>(o.getD default).off) hb2;subst e1;subst e2;subst hj;rw [Addr.add_lit];simpa [SqE] using hc
end Go.Proofs.YtmdlbpibipnapaaGreat
