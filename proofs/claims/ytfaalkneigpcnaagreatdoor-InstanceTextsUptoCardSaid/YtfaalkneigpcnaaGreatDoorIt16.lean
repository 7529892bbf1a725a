/- Walks: the closures of a step (the program's coordinates). -/
import Derived.Test.YtfaalkneigpcnaaGreatDoorIt13
import Derived.Test.YtfaalkneigpcnaaGreatDoorIt14
import Derived.Test.YtfaalkneigpcnaaGreatDoorIt15
import Derived.Test.YtfaalkneigpcnaaGreatDoorIt10
import Derived.Test.YtfaalkneigpcnaaGreatDoorRows
import Derived.Laws.IdiomStrings
import Derived.Test.YtfaalkneigpcnaaGreatDoorIt9
import Derived.Deep.LoopGhost
import Derived.Test.YtfaalkneigpcnaaGreatDoorIt11
import Derived.Test.YtfaalkneigpcnaaGreatDoorIt7
import Derived.Test.YtfaalkneigpcnaaGreatDoorIt8
set_option linter.all false
set_option maxRecDepth 100000
set_option maxHeartbeats 4000000
namespace Go.Proofs.YtfaalkneigpcnaaGreatDoor
open Go.RowKit
theorem qjf {α:Type} {f:α->List Value} {sz B c:Nat} {t:TypeId} {Y:Nat->Prop} {w w':World} {a:Option Addr} {l:List α} (h:Own f sz t B w a c l) (k:Fr Y w w') (hn:∀ g:Addr,a=some g->¬ Y g.block):Own f sz t B w' a c l:=by
 have e1:∀ g:Addr,a=some g->w'.heap[g.block]? = w.heap[g.block]?:=fun g hg=>k.block _ (h.lt hg).2 (hn g hg)
 rcases h with ⟨p,q⟩
 refine ⟨p,?_⟩;rcases q with q | ⟨g,c,cur,h1,h2,h3,h4⟩
 · exact .inl q
 ·
  refine .inr ⟨g,c,cur,h1,h2,?_,h4⟩;rw [<- h3];injection h1 with h1
  exact e1 _ h1
theorem Rd.toKp {X:Nat->Prop} {w:World} {R:World->Prop} {B:Nat} (h:Rd X w R) (hX:∀ b,b<B->X b):Kp R B w.heap.size w:=fun V hV=>h V fun p v hp hc=>hV p v (Nat.le_of_not_lt fun e=>hp (hX _ e)) (World.block_lt_of_cell? w p hc) hc
theorem OwnP.psK {B B0:Nat} {X:Nat->Prop} {w:World} {a:Option Addr} {c:Nat} {l:List PH} {p:List P2} (h:OwnP B w a c l) (hA:AllP X w l p) (hB:B0<=B) (hX:∀ b,b<B0->X b):Kp (fun V=>PsR V a c p) B0 w.heap.size w:=fun V hV =>
 Own.readsX (X:=fun b=>b<B0) p hA.1.symm qcx h (fun q v hq hc=>hV q v (Nat.le_of_not_lt hq) (World.block_lt_of_cell? w q hc) hc) (fun g hg hlt=>by have:=(h.lt hg).1;omega)
  fun b o k x y h1 h2 hc=>⟨x,⟨by simpa using hc 0 _ rfl,hc 1 _ rfl,hc 2 _ rfl,hc 3 _ rfl,hc 4 _ rfl,hc 5 _ rfl⟩,(Rd.toKp (hA.2 k x y h1 h2) hX) V hV⟩
def qwf (vals:List Rat) (brs:List Bool) (pts:List P2) (w:World) (e:Ending) (w':World):Prop:=∃ (a b p:Option Addr) (c d q:Nat),e=.returned (.tuple #[.agg #[.slice a vals.length c,.slice b brs.length d,.slice p pts.length q],.int .i64 0,.int .i64 0])/\Kp (fun V=>QsR V a c vals) w.heap.size w'.heap.size w'/\Kp (fun V=>BosR V b d brs) w.heap.size w'.heap.size w'/\Kp (fun V=>PsR V p q pts) w.heap.size w'.heap.size w'/\Below w.heap.size w w'
def qwx (j:Nat) (er:Int) (w:World) (e:Ending) (w':World):Prop:=e=.returned (.tuple #[.agg #[.slice none 0 0,.slice none 0 0,.slice none 0 0],.int .i64 (j:Int),.int .i64 er])/\Below w.heap.size w w'
def qi5 (n j:Nat) (vals:List Rat) (brs:List Bool) (pts:List P2) (w:World) (e:Ending) (w':World):Prop:=(j=n->qwf vals brs pts w e w')/\(j≠n->qwx j 11 w e w')
theorem qmh (steps:List Step) (goals:List Fct) (vals:List Rat) (brs:List Bool) (j:Nat) (sa ga va ba:Option Addr) (sc gc vc bc:Nat) (w:World) (hS:qcl w sa sc steps) (hV:QsR w va vc vals) (hB:BosR w ba bc brs)
  (C:∀ W,Below w.heap.size w W->Calls Tryz.prog 8 #[.agg #[.slice sa steps.length sc,.slice ga goals.length gc]] W (RetCh (vals.length,brs.length,0) W))
  (hvl:vals.length<=1000) (hbl:brs.length<=1000) (hvk:∀ q∈vals,qsz q<=1000000) (hsl:steps.length<=1000) (hj:j<=steps.length)
  (hok:∀ k s,k<=j->steps[k]? = some s->okC s (stC vals steps k).1 (stC vals steps k).2) (her:∀ k s,k<j->steps[k]? = some s->(stepC s (stC vals steps k).1 (stC vals steps k).2).2.1=0) (hen:∀ s,steps[j]? = some s->(stepC s (stC vals steps j).1 (stC vals steps j).2).2.1=11) :
  Calls Tryz.prog 11 #[.agg #[.slice sa steps.length sc,.slice ga goals.length gc],.slice va vals.length vc,.slice ba brs.length bc] w (qi5 steps.length j vals brs (stC vals steps j).1 w):=by
 have HS:=Hd hS;have HV:=Hd (fun W (hW:Below w.heap.size w W)=>hV.ext (xbw hW));have HB:=Hd (fun W (hW:Below w.heap.size w W)=>hB.ext (xbw hW));have hl1:=SlR.len hS;unfold RetCh at C;dsimp only at C;replace C:=Hd C;replace hvk:=Hd hvk;replace hok:=Hd hok;replace her:=Hd her;replace hen:=Hd hen;replace hj:=Hd hj;have hvl2:=Hd hvl;have hbl2:=Hd hbl;clear hS hV hB hvl hbl;go_enter Tryz.func11,Tryz.ntmps11;go_wp2_with fail
 refine qad (fun W=>Blk W w.heap.size 25 #[.slice sa steps.length sc,.slice ga goals.length gc]/\Blk W (w.heap.size+1) 36 #[.slice none 0 0,.slice none 0 0,.slice none 0 0]/\Below w.heap.size w W/\w.heap.size+1<W.heap.size) ⟨by ((with_reducible repeat first|assumption|(apply bF;focus omega)|apply bS|(apply bN;focus (simp;done))|apply bA|apply bD);all_goals rfl),by ((with_reducible repeat first|assumption|(apply bF;focus omega)|apply bS|(apply bN;focus (simp;done))|apply bA|apply bD);all_goals rfl),by go_grown,by simp⟩ ?_;rintro w0 ⟨b1,b2,hw0,hl0⟩;obtain ⟨g1,hg1⟩:∃ g,w.heap.size=g:=⟨_,rfl⟩
 obtain ⟨g2,hg2⟩:∃ g,w.heap.size+1=g:=⟨_,rfl⟩
 have b1':Blk w0 g1 25 #[.slice sa steps.length sc,.slice ga goals.length gc]:=hg1 ▸ b1;rw [hg2] at b2 hl0;simp only [hg2];simp only [hg1];have hg12:g1<g2:=by omega
 have hgw:w.heap.size<=g2:=by omega
 have hgw1:w.heap.size<=g1:=by omega
 replace hg1:=Hd hg1;replace hg2:=Hd hg2;clear b1;refine (C.out w0 hw0).mono ?_;rintro e w1 ⟨rfl,hb1⟩;have hw1:=bth hw0 hb1;have CC:=Hd (qkt vals va vc w1 (HV.out w1 hw1) hvl2.out hvk.out);have b11:=Hd (b1'.below' hb1);have b21:=Hd (b2.below' hb1);clear b1' b2 hw0 hb1 C hl0;go_wp2_with fail;refine CC.out.mono ?_;rintro e w2 ⟨a1,c1,rfl,K1,hb2,ha1⟩;have hw2:=bth hw1 hb2;have hs1:=hw1.size;replace K1:=Hd K1;go_wp2_with fail;refine qad (fun W=>Blk W w2.heap.size 66 #[.slice none 0 0,.slice none 0 0,.slice none 0 0,.slice a1 vals.length c1,.slice ba brs.length bc,.int .i64 0]/\Below w2.heap.size w2 W/\w2.heap.size<W.heap.size) ⟨by ((with_reducible repeat first|assumption|(apply bF;focus omega)|apply bS|(apply bN;focus (simp;done))|apply bA|apply bD);all_goals rfl),by go_grown,by simp⟩ ?_;rintro w3 ⟨b3,hb3,hl3⟩;obtain ⟨gB,hgB⟩:∃ g,w2.heap.size=g:=⟨_,rfl⟩
 have b3':Blk w3 gB 66 #[.slice none 0 0,.slice none 0 0,.slice none 0 0,.slice a1 vals.length c1,.slice ba brs.length bc,.int .i64 0]:=hgB ▸ b3;have hl3':gB<w3.heap.size:=hgB ▸ hl3;simp only [hgB];clear b3;have hw3:=bth hw2 hb3;refine (qp9 brs ba bc w3 (HB.out w3 hw3) (by have:=hbl2.out;omega)).mono ?_;rintro e w4 ⟨a2,c2,rfl,K2,hb4⟩;have b4:=b3'.below' hb4;have hw4:=bth hw3 hb4;have hgw2:w.heap.size<=gB:=by have:=hw2.size;omega
 have hx1:=b11.out.lt;have hx2:=b21.out.lt;have hx3:=hb2.size;have hn1:¬ g1=gB:=by omega
 have hn2:¬ gB=g1:=by omega
 have hn3:¬ g2=gB:=by omega
 have hn4:¬ gB=g2:=by omega
 have b14:=((b11.out.below' hb2).below' hb3).below' hb4;have b24:=((b21.out.below' hb2).below' hb3).below' hb4;have r1:Rd (fun b=>(b=gB\/b=g2)\/b<w.heap.size) w4 fun V=>QsR V a1 c1 vals:=((Rd.kp K1.out fun b hb=>hb.elim (fun hb=>hb.elim (fun e=>.inr (by subst e;omega)) fun e=>.inl (by subst e;omega)) fun e=>.inl (by have:=hw1.size;omega)).call hb3).call hb4
 have r2:Rd (fun b=>(b=gB\/b=g2)\/b<w.heap.size) w4 fun V=>BosR V a2 c2 brs:=Rd.kp K2 fun b hb=>.inl (by have:=hb3.size;have:=hw3.size;rcases hb with (e | e) | e <;> omega)
 have ha1':∀ g:Addr,a1=some g->g.block<gB/\g2<g.block/\g.block<w4.heap.size:=fun g hg=>by
  have e0:=(ha1 g hg).1;have e1:=(ha1 g hg).2;have e2:=hb3.size;have e3:=hb4.size
  omega
 obtain ⟨z0,z1⟩:=cq2 b4;obtain ⟨f0,f1⟩:=fq2 b4;have x0:=b14.cell 0;have hl4:=b4.lt;have hl14:=b14.lt;replace r1:=Hd r1;replace r2:=Hd r2;replace ha1':=Hd ha1';replace b4:=Hd b4;replace b14:=Hd b14;replace b24:=Hd b24;replace hw4:=Hd hw4;replace hgB:=Hd hgB;clear K1 K2 b11 b21 b3' hb2 hb3 hb4 ha1 hw1 hw2 hw3 hs1 hl3 hl3' hx1 hx2 hx3 CC;go_wp2;refine qab (fun W=>Blk W gB 66 #[.slice a1 vals.length c1,.slice a2 brs.length c2,.slice none 0 0,.slice a1 vals.length c1,.slice ba brs.length bc,.int .i64 0]/\Blk W g2 36 #[.slice none 0 0,.slice none 0 0,.slice none 0 0]/\Rd (fun b=>(b=gB\/b=g2)\/b<w.heap.size) W (fun V=>QsR V a1 c1 vals)/\Rd (fun b=>(b=gB\/b=g2)\/b<w.heap.size) W (fun V=>BosR V a2 c2 brs)/\Below w.heap.size w W/\W.heap.size=w4.heap.size)
  ⟨by have:=b4.out;((with_reducible repeat first|assumption|(apply bF;focus omega)|apply bS|(apply bN;focus (simp;done))|apply bA|apply bD);all_goals rfl),by have:=b24.out;((with_reducible repeat first|assumption|(apply bF;focus omega)|apply bS|(apply bN;focus (simp;done))|apply bA|apply bD);all_goals rfl),Rd.setc (X:=fun b=>(b=gB\/b=g2)\/b<w.heap.size) (.inl (.inl rfl)) (Rd.setc (X:=fun b=>(b=gB\/b=g2)\/b<w.heap.size) (.inl (.inl rfl)) r1.out),Rd.setc (X:=fun b=>(b=gB\/b=g2)\/b<w.heap.size) (.inl (.inl rfl)) (Rd.setc (X:=fun b=>(b=gB\/b=g2)\/b<w.heap.size) (.inl (.inl rfl)) r2.out),by have:=hw4.out;go_grown,by simp⟩ ?_
 rintro w5 ⟨b5,b25,r15,r25,hw5,hsz5⟩;replace b5:=Hd b5;replace b25:=Hd b25;replace r15:=Hd r15;replace r25:=Hd r25;replace hw5:=Hd hw5;replace hsz5:=Hd hsz5;clear z0 z1 f0 f1 x0 r1 r2 b4 b14 b24 hl4 hl14
 go_loopg [13,14,15,16,58] steps.length (fun n _ _ _ _ s58 wr=>∃ (k:Nat) (pa:Option Addr) (pc:Nat) (hs:List PH) (pts:List P2) (ch:Cho) (va':Option Addr) (vc':Nat),Hid (k+n=steps.length)/\s58=.int .i64 k/\Hid (k<=j)/\Hid (stC vals steps k=(pts,ch)) /\
  Hid (Blk wr gB 66 #[.slice a1 vals.length c1,.slice a2 brs.length c2,.slice pa pts.length pc,.slice va' ch.vals.length vc',.slice ba brs.length bc,.int .i64 (ch.free:Int)])/\Hid (OwnP w5.heap.size wr pa pc hs)/\Hid (AllP (Xr (fun b=>(b=gB\/b=g2)\/b<w.heap.size) pa) wr hs pts)/\Hid (Rd (Xr (fun b=>(b=gB\/b=g2)\/b<w.heap.size) pa) wr fun V=>QsR V va' vc' ch.vals)/\Hid (Sits a1 va')/\Hid (Fr (fun b=>b=gB) w5 wr))
 case atStart=>exact ⟨0,none,0,[],[],⟨vals,0⟩,a1,c1,by show _=_;omega,rfl,Nat.zero_le _,rfl,b5.out,Own.nil,AllP.nil,r15.out.less (fun b hb=>hb.elim (fun h=>h) fun ⟨g,hg,_⟩=>by cases hg),Sits.refl _,Fr.refl _ _⟩
 case round =>
  obtain ⟨k,pa,pc,hs,pts,ch,va',vc',hm,rfl,hkj,hst,bG,hO,hA,rV,hSt,hF⟩:=hrel;have hwr:=Below.fr hw5.out hF.out (fun b hb=>by subst hb;exact hgw2) hw5.out.size;have hGr:=bG.out.lt;have hptl:pts.length=hs.length:=hA.out.1.symm;replace hptl:=Hd hptl;by_cases hlt:k<steps.length
  ·
   obtain ⟨s,hs_⟩:=qac hlt;have hokk:=hok.out k s hkj.out hs_;rw [hst.out] at hokk;dsimp only at hokk;obtain ⟨b,o,rfl,p,hC,hP,hki,hszp⟩:=(HS.out.ext (xbw hwr)).2.2 k s hs_;obtain ⟨c0,c1',c2',c3,c4,c5⟩:=hC;have hbl:b<wr.heap.size:=World.block_lt_of_cell? wr _ c0;have hwr':=Hd hwr;replace hokk:=Hd hokk;replace hP:=Hd hP;replace hki:=Hd hki;replace hs_:=Hd hs_;clear hwr;go_wp2_with fail;refine qad (fun W=>Below wr.heap.size wr W) (by go_grown) ?_;intro w6 hb6;have hXl:∀ b,Xr (fun b=>(b=gB\/b=g2)\/b<w.heap.size) pa b->b<w6.heap.size:=fun b hb=>by
    have e1:=hb6.size;rcases hb with ((rfl | rfl) | hb) | ⟨g,hg,rfl⟩
    · omega
    · have:=b25.out.lt;have:=hF.out.size;omega
    · have:=hwr'.out.size;omega
    · have:=(hO.out.lt hg).2;omega
   have hXn:∀ g:Addr,va'=some g->¬ Xr (fun b=>(b=gB\/b=g2)\/b<w.heap.size) pa g.block/\g.block<w6.heap.size:=fun g hg=>by
    have e1:=hSt.out (fun n=>n<gB/\g2<n/\n<w4.heap.size) ha1'.out g hg;have e2:=hb6.size;have e3:=hF.out.size;have e4:=hsz5.out;refine ⟨?_,by omega⟩;rintro (((hb | hb) | hb) | ⟨q,hq,hb⟩)
    · omega
    · omega
    · omega
    · have:=(hO.out.lt hq).1;omega
   refine (qo5 (Xr (fun b=>(b=gB\/b=g2)\/b<w.heap.size) pa) gB (.slice a1 vals.length c1) (.slice a2 brs.length c2) (.slice ba brs.length bc) pa pc pts va' vc' ch s p w6 (bG.out.below' hb6) (rV.out.call hb6) (OwnP.ps (hO.out.below hb6) (hA.out.call hb6)) (hP.out.ext (xbw hb6)) (.inl (.inl (.inl rfl))) hXl hXn hokk.out).mono ?_;rintro e w7 ⟨x,y,va2,vc2,rfl,hxy,⟨bG7,rV7⟩,hF7,hS7⟩;obtain ⟨er,her0⟩:∃ er,(stepC s pts ch).2.1=er:=⟨_,rfl⟩
   obtain ⟨P,hPt⟩:∃ q,(stepC s pts ch).1=q:=⟨_,rfl⟩
   obtain ⟨ch2,hch2⟩:∃ q,(stepC s pts ch).2.2=q:=⟨_,rfl⟩
   rw [her0,hPt] at hxy;rw [hch2] at bG7 rV7;simp only [her0];have hF17:=(hF.out.call hb6).trans hF7;have b27:=b25.out.fr hF17 hn3;have hO7:=qjf (hO.out.below hb6) hF7 (fun g hg e=>by have:=(hO.out.lt hg).1;have:=b5.out.lt;omega);have hnx:stC vals steps (k+1)=(pts++[P],ch2):=by rw [qll hs_.out,hst.out];dsimp only;rw [hPt,hch2]
   by_cases hkj2:k<j
   ·
    obtain rfl:er=0:=by
     have e:=her.out k s hkj2 hs_.out;rw [hst.out] at e;rw [<- her0];exact e
    obtain ⟨hx,hy⟩:=hxy rfl;have hA7:AllP (Xr (fun b=>(b=gB\/b=g2)\/b<w.heap.size) pa) w7 hs pts:=(hA.out.call hb6).step fun R h=>h.move (fun b hb=>.inl hb) (hF7.mono fun b hb=>.inl (.inl (.inl hb)))
    have hg7:w5.heap.size<=w7.heap.size:=hF17.size;have hG5:=b5.out.lt;replace hxy:=Hd hxy;replace bG7:=Hd bG7;replace rV7:=Hd rV7;replace hF17:=Hd hF17;replace hO7:=Hd hO7;replace hnx:=Hd hnx;replace hx:=Hd hx;replace hy:=Hd hy;replace hA7:=Hd hA7;replace hS7:=Hd hS7;replace hg7:=Hd hg7;replace b27:=Hd b27;replace hkj2:=Hd hkj2;clear hXl hXn hF7 her0 hPt hch2 hb6 c0 c1' c2' c3 c4 c5 hGr;go_wp2;refine qab (fun W=>Blk W w7.heap.size 69 #[.bool x.neg,.slice x.a x.n x.c,.slice x.b x.m x.d,.bool y.neg,.slice y.a y.n y.c,.slice y.b y.m y.d]/\Below w7.heap.size w7 W) ⟨by ((with_reducible repeat first|assumption|(apply bF;focus omega)|apply bS|(apply bN;focus (simp;done))|apply bA|apply bD);all_goals rfl),by go_grown⟩ ?_;rintro w8 ⟨bP,hb8⟩;obtain ⟨gP,hgP⟩:∃ g,w7.heap.size=g:=⟨_,rfl⟩
    have bP':Blk w8 gP 69 #[.bool x.neg,.slice x.a x.n x.c,.slice x.b x.m x.d,.bool y.neg,.slice y.a y.n y.c,.slice y.b y.m y.d]:=hgP ▸ bP;simp only [hgP];clear bP;have bG8:=bG7.out.below' hb8;obtain ⟨L,hL⟩:∃ L:List (Addr × Value),L=[(⟨gB,2,none⟩,.slice pa pts.length pc),(⟨gP,0,none⟩,.bool x.neg),(⟨gP,1,none⟩,.slice x.a x.n x.c),(⟨gP,2,none⟩,.slice x.b x.m x.d),(⟨gP,3,none⟩,.bool y.neg),(⟨gP,4,none⟩,.slice y.a y.n y.c),(⟨gP,5,none⟩,.slice y.b y.m y.d)]:=⟨_,rfl⟩
    have y0:∀ W,Cs L W->W.cell? ⟨gB,2,none⟩=some (.slice pa pts.length pc):=fun W h=>h _ _ (by rw [hL];simp)
    have y1:∀ W,Cs L W->W.cell? ⟨gP,0,none⟩=some (.bool x.neg):=fun W h=>h _ _ (by rw [hL];simp)
    have y2:∀ W,Cs L W->W.cell? ⟨gP,1,none⟩=some (.slice x.a x.n x.c):=fun W h=>h _ _ (by rw [hL];simp)
    have y3:∀ W,Cs L W->W.cell? ⟨gP,2,none⟩=some (.slice x.b x.m x.d):=fun W h=>h _ _ (by rw [hL];simp)
    have y4:∀ W,Cs L W->W.cell? ⟨gP,3,none⟩=some (.bool y.neg):=fun W h=>h _ _ (by rw [hL];simp)
    have y5:∀ W,Cs L W->W.cell? ⟨gP,4,none⟩=some (.slice y.a y.n y.c):=fun W h=>h _ _ (by rw [hL];simp)
    have y6:∀ W,Cs L W->W.cell? ⟨gP,5,none⟩=some (.slice y.b y.m y.d):=fun W h=>h _ _ (by rw [hL];simp)
    have s0:Cs L w8.drew:=by
     intro p v hm;rw [hL] at hm;simp only [List.mem_cons,List.not_mem_nil,or_false,Prod.mk.injEq] at hm;rcases hm with ⟨rfl,rfl⟩ | ⟨rfl,rfl⟩ | ⟨rfl,rfl⟩ | ⟨rfl,rfl⟩ | ⟨rfl,rfl⟩ | ⟨rfl,rfl⟩ | ⟨rfl,rfl⟩
     · exact bG8.cell 2
     · exact bP'.cell 0
     · exact bP'.cell 1
     · exact bP'.cell 2
     · exact bP'.cell 3
     · exact bP'.cell 4
     · exact bP'.cell 5
    have hLb:∀ p v,(p,v)∈L->p.block=gB\/p.block=gP:=fun p v hm=>by
     rw [hL] at hm;simp only [List.mem_cons,List.not_mem_nil,or_false,Prod.mk.injEq] at hm;rcases hm with ⟨rfl,_⟩ | ⟨rfl,_⟩ | ⟨rfl,_⟩ | ⟨rfl,_⟩ | ⟨rfl,_⟩ | ⟨rfl,_⟩ | ⟨rfl,_⟩ <;> first | exact .inl rfl | exact .inr rfl
    replace hL:=Hd hL;replace hLb:=Hd hLb;replace bG8:=Hd bG8;replace bP':=Hd bP';replace hgP:=Hd hgP;refine wrx (S:=Cs L) [(0,.q),(1,.q),(2,.q),(3,.q),(4,.q),(5,.q),(6,.q),(7,.l),(8,.l),(9,.p),(10,.p),(11,.p),(12,.t)] (s0) ?_
    iterate 7 (refine qam rfl rfl fun K hK=>xq ?_;go_simp;refine hK _ _ ?_;clear hK K)
    refine qaj rfl rfl (fun K hK=>?_);go_simp;refine hK.out _ _ (s0.alloc _) (fun _=>?_);clear hK K;have hal:Below w8.heap.size w8 (w8.alloc (.cells #[.bool x.neg,.slice x.a x.n x.c,.slice x.b x.m x.d,.bool y.neg,.slice y.a y.n y.c,.slice y.b y.m y.d] 69)).drew:=(brf.alloc (nlr _) _).drew;have hrow:Blk (w8.alloc (.cells #[.bool x.neg,.slice x.a x.n x.c,.slice x.b x.m x.d,.bool y.neg,.slice y.a y.n y.c,.slice y.b y.m y.d] 69)).drew w8.heap.size 69 #[.bool x.neg,.slice x.a x.n x.c,.slice x.b x.m x.d,.bool y.neg,.slice y.a y.n y.c,.slice y.b y.m y.d]:=(Blk.new w8 _ _).drew;have sA:Cs L (w8.alloc (.cells #[.bool x.neg,.slice x.a x.n x.c,.slice x.b x.m x.d,.bool y.neg,.slice y.a y.n y.c,.slice y.b y.m y.d] 69)).drew:=s0.alloc _;have h78:=bth hb8 hal;have hO9:=hO7.out.below h78;have hA9:=hA7.out.call h78
    have hx9:Rd (Xr (fun b=>(b=gB\/b=g2)\/b<w.heap.size) pa) (w8.alloc (.cells #[.bool x.neg,.slice x.a x.n x.c,.slice x.b x.m x.d,.bool y.neg,.slice y.a y.n y.c,.slice y.b y.m y.d] 69)).drew fun V=>PAc V (x,y) P:=(hx.out.and hy.out).call h78
    have rV9:=rV7.out.call h78;have bG9:=bG8.out.below' hal;have hF9:Fr (fun b=>b=gB) w5 (w8.alloc (.cells #[.bool x.neg,.slice x.a x.n x.c,.slice x.b x.m x.d,.bool y.neg,.slice y.a y.n y.c,.slice y.b y.m y.d] 69)).drew:=hF17.out.call h78;have hrw:∀ g:Addr,pa=some g->w5.heap.size<=g.block/\g.block<w7.heap.size:=fun g hg=>hO7.out.lt hg
    have hszA:w5.heap.size<=(w8.alloc (.cells #[.bool x.neg,.slice x.a x.n x.c,.slice x.b x.m x.d,.bool y.neg,.slice y.a y.n y.c,.slice y.b y.m y.d] 69)).drew.heap.size:=hF9.size;replace hrow:=Hd hrow;replace hO9:=Hd hO9;replace hA9:=Hd hA9;replace hx9:=Hd hx9;replace rV9:=Hd rV9;replace bG9:=Hd bG9;replace hF9:=Hd hF9;replace hrw:=Hd hrw;clear hal h78 hO7 hA7 hx hy rV7 bG8 bG7 hb8;refine qaj rfl rfl (fun K hK=>?_);refine qd4 (B:=w5.heap.size) (.tmp 79) (.tmp 81) 34 rfl Tryz.underlying34 qrw rfl (by omega) (by omega) qcx pa pc (by rw [hptl.out];rfl) hO9.out (x,y) (qog _) w8.heap.size 1 rfl (fun j u hu=>by have e:=hrow.out.cell j;rw [e];simpa [phC,qaC] using hu) (hs++[(x,y)]) rfl (by have e1:=hptl.out;have e2:=qoi (vals:=vals) (l:=steps) (k:=k) (by omega);rw [hst.out] at e2;dsimp only at e2;rw [List.length_append,<- e1,e2];simp;omega) hszA ?_;intro pa2 pc2 w9 ho9 hg9 ha9
    have s9:Cs L w9:=fun p v hm=>hg9.cell (sA p v hm) (by
     cases hv:pa with
     | none=>simp [Value.ownBlock]
     | some g =>
      have e1:=hrw.out g hv;have e2:=hgP.out;simp [Value.ownBlock];rcases hLb.out p v hm with e | e <;> omega)
    have bGA:=bG9.out.under hO9.out hG5 hg9;have u2:=bGA.cell 2;have uf:=bGA.frozen 2;have ul:=bGA.lt;have hFA:=hF9.out.grown hg9 (fun g hg=>.inr (hrw.out g hg).1);have hAA:=Hd (fun (v:Value)=>(hA9.out.push hx9.out fun R h=>Rd.setc (i:=2) (u:=v) (.inl (.inl (.inl rfl))) (h.app hg9 ha9):AllP (Xr (fun b=>(b=gB\/b=g2)\/b<w.heap.size) pa2) (w9.setCell ⟨gB,2,none⟩ v) (hs++[(x,y)]) (pts++[P])));have rVA:=Hd (fun (v:Value)=>(Rd.setc (i:=2) (u:=v) (.inl (.inl (.inl rfl))) (rV9.out.app hg9 ha9):Rd (Xr (fun b=>(b=gB\/b=g2)\/b<w.heap.size) pa2) (w9.setCell ⟨gB,2,none⟩ v) fun V=>QsR V va2 vc2 ch2.vals));have hln:hs.length+1=(pts++[P]).length:=by rw [List.length_append,hptl.out];rfl
    have bGF:=Hd (fun (v:Value)=>(bGA.setb (u:=v) (i:=2) (by simp):Blk (w9.setCell ⟨gB,2,none⟩ v) gB 66 #[.slice a1 vals.length c1,.slice a2 brs.length c2,v,.slice va2 ch2.vals.length vc2,.slice ba brs.length bc,.int .i64 (ch2.free:Int)]));replace ho9:=Hd ho9;replace bGA:=Hd bGA;replace hFA:=Hd hFA;replace hln:=Hd hln;go_simp;refine hK.out _ _ s9 (fun _=>?_);clear hK K s9 sA s0 hg9 ha9 hszA hO9 hA9 hx9 rV9 bG9 hF9
    iterate 3 (refine qav rfl rfl fun K hK=>xp ?_;go_simp;refine hK _ _ ?_;clear hK K)
    refine qah rfl rfl (fun K hK=>?_);go_simp;refine hK.out _ _ ?_;clear hK K;refine qak ?_;clear u2 uf ul y0 y1 y2 y3 y4 y5 y6;go_wp2;go_roundg (gk-1)
    case rel =>
     have hFB:Fr (fun b=>b=gB) w9 (w9.setCell ⟨gB,2,none⟩ (.slice pa2 (hs.length+1) pc2)):=(Fr.refl (fun b=>b=gB) w9).setc (.inl (show gB=gB from rfl));exact ⟨k+1,pa2,pc2,hs++[(x,y)],pts++[P],ch2,va2,vc2,by have:=hm.out;show _=_;omega,by go_num,hkj2.out,hnx.out,Hd (by rw [<- hln.out];exact bGF.out _),qjf ho9.out hFB (fun g hg e=>by have e':g.block=gB:=e;have:=(ho9.out.lt hg).1;omega),hAA.out _,rVA.out _,hSt.out.trans hS7.out,hFA.out.trans hFB⟩
    case measure=>have:=hm.out;omega
   ·
    have hkj3:k=j:=by have:=hkj.out;omega
    obtain rfl:er=11:=by
     have e:=hen.out s (hkj3 ▸ hs_.out);rw [<- hkj3,hst.out] at e;rw [<- her0];exact e
    have hw7:=Below.fr hw5.out hF17 (fun b hb=>by subst hb;exact hgw2) hw5.out.size;obtain ⟨q0,q1,q2⟩:=cq3 b27;obtain ⟨f0,f1,f2⟩:=fq3 b27;have hl27:=b27.lt;replace b27:=Hd b27;replace hw7:=Hd hw7;replace hkj3:=Hd hkj3;clear hXl hXn hxy bG7 rV7 hF7 hS7 hF17 hO7 hnx her0 hPt hch2 hb6 c0 c1' c2' c3 c4 c5 hkj2;go_wp2;refine qab (fun W=>Blk W g2 36 #[.slice none 0 0,.slice none 0 0,.slice none 0 0]/\Below w.heap.size w W) ⟨by have:=b27.out;((with_reducible repeat first|assumption|(apply bF;focus omega)|apply bS|(apply bN;focus (simp;done))|apply bA|apply bD);all_goals rfl),by have:=hw7.out;go_grown⟩ ?_;rintro wF ⟨hF',hwF⟩;obtain ⟨e0,e1,e2⟩:=cq3 hF';refine bodyPost_ret (v:=.tuple #[.agg #[.slice none 0 0,.slice none 0 0,.slice none 0 0],.int .i64 (k:Int),.int .i64 11]) (by simp [results,Tryz.results11,go_sem,e0,e1,e2]) rfl ?_
    exact ⟨fun h=>by have:=hkj3.out;omega,fun _=>⟨by rw [hkj3.out],hwF⟩⟩
  ·
   have hkn:k=steps.length:=by have:=hm.out;omega
   have hjn:j=steps.length:=by have:=hkj.out;have:=hj.out;omega
   obtain ⟨q0,q1,q2⟩:=cq3 bG.out;have b2r:=b25.out.fr hF.out hn3;obtain ⟨z0,z1,z2⟩:=cq3 b2r;obtain ⟨f0,f1,f2⟩:=fq3 b2r;have hpr:=Hd (OwnP.ps hO.out hA.out);have r1r:=Hd ((r15.out.move (fun b hb=>.inl hb) (hF.out.mono fun b hb=>.inl (.inl hb)):Rd (fun b=>(b=gB\/b=g2)\/b<w.heap.size) wr _));have r2r:=Hd ((r25.out.move (fun b hb=>.inl hb) (hF.out.mono fun b hb=>.inl (.inl hb)):Rd (fun b=>(b=gB\/b=g2)\/b<w.heap.size) wr _));replace b2r:=Hd b2r;replace hkn:=Hd hkn;replace hjn:=Hd hjn;have hwr':=Hd hwr;have hl2r:=b2r.out.lt;clear hwr;go_wp2;refine qab (fun W=>Blk W g2 36 #[.slice a1 vals.length c1,.slice a2 brs.length c2,.slice pa pts.length pc]/\Kp (fun V=>QsR V a1 c1 vals) w.heap.size W.heap.size W/\Kp (fun V=>BosR V a2 c2 brs) w.heap.size W.heap.size W/\Kp (fun V=>PsR V pa pc pts) w.heap.size W.heap.size W/\Below w.heap.size w W)
    ⟨by have:=b2r.out;((with_reducible repeat first|assumption|(apply bF;focus omega)|apply bS|(apply bN;focus (simp;done))|apply bA|apply bD);all_goals rfl),Rd.toKp (Rd.setc (.inl (.inr rfl)) (Rd.setc (.inl (.inr rfl)) (Rd.setc (.inl (.inr rfl)) r1r.out))) (fun b hb=>.inr hb),Rd.toKp (Rd.setc (.inl (.inr rfl)) (Rd.setc (.inl (.inr rfl)) (Rd.setc (.inl (.inr rfl)) r2r.out))) (fun b hb=>.inr hb),?_,by have:=hwr'.out;go_grown⟩ ?_
   ·
    have hF2:Fr (fun b=>b=g2) wr (((wr.setCell ⟨g2,0,none⟩ (.slice a1 vals.length c1)).setCell ⟨g2,1,none⟩ (.slice a2 brs.length c2)).setCell ⟨g2,2,none⟩ (.slice pa pts.length pc)) :=
     (((Fr.refl (fun b=>b=g2) wr).setc (.inl (show g2=g2 from rfl))).setc (.inl (show g2=g2 from rfl))).setc (.inl (show g2=g2 from rfl))
    exact OwnP.psK (qjf hO.out hF2 (fun g hg e=>by have e':g.block=g2:=e;have:=(hO.out.lt hg).1;have:=b25.out.lt;omega)) (hA.out.step fun R h=>h.move (fun b hb=>.inl hb) (hF2.mono fun b hb=>.inl (.inl (.inr hb)))) hw5.out.size (fun b hb=>.inl (.inr hb))
   rintro wF ⟨hF',h1,h2,h3,hwF⟩;obtain ⟨e0,e1,e2⟩:=cq3 hF';refine bodyPost_ret (v:=.tuple #[.agg #[.slice a1 vals.length c1,.slice a2 brs.length c2,.slice pa pts.length pc],.int .i64 0,.int .i64 0]) (by simp [results,Tryz.results11,go_sem,e0,e1,e2]) rfl ?_;refine ⟨fun _=>?_,fun h=>absurd hjn.out h⟩;have hpe:(stC vals steps j).1=pts:=by rw [hjn.out,<- hkn.out,hst.out]
   rw [hpe];exact ⟨a1,a2,pa,c1,c2,pc,rfl,h1,h2,h3,hwF⟩
def decS (i:Nat):ByteArray:=if i<10 then ⟨#[(48+i).toUInt8]⟩ else ⟨#[(48+i / 10).toUInt8,(48+i % 10).toUInt8]⟩
theorem qvo {i:Nat} (h:i<60):i=0\/i=1\/i=2\/i=3\/i=4\/i=5\/i=6\/i=7\/i=8\/i=9\/i=10\/i=11\/i=12\/i=13\/i=14\/i=15\/i=16\/i=17\/i=18\/i=19\/i=20\/i=21\/i=22\/i=23\/i=24\/i=25\/i=26\/i=27\/i=28\/i=29 \/
  i=30\/i=31\/i=32\/i=33\/i=34\/i=35\/i=36\/i=37\/i=38\/i=39\/i=40\/i=41\/i=42\/i=43\/i=44\/i=45\/i=46\/i=47\/i=48\/i=49\/i=50\/i=51\/i=52\/i=53\/i=54\/i=55\/i=56\/i=57\/i=58\/i=59:=by omega
theorem qrx (i:Nat) (w:World) (h:i<60):Calls Tryz.prog 247 #[.int .i64 i] w fun e w'=>e=.returned (.string (decS i))/\w=w':=by
 rcases qvo h with rfl | rfl | rfl | rfl | rfl | rfl | rfl | rfl | rfl | rfl | rfl | rfl | rfl | rfl | rfl | rfl | rfl | rfl | rfl | rfl | rfl | rfl | rfl | rfl | rfl | rfl | rfl | rfl | rfl | rfl | rfl | rfl | rfl | rfl | rfl | rfl | rfl | rfl | rfl | rfl | rfl | rfl | rfl | rfl | rfl | rfl | rfl | rfl | rfl | rfl | rfl | rfl | rfl | rfl | rfl | rfl | rfl | rfl | rfl | rfl
 all_goals
  clear h;go_enter Tryz.func247,Tryz.ntmps247;go_wp2;go_ret;exact ⟨qdz (by decide),rfl⟩
theorem qui (i:Nat) (w:World) (h:i<60):Calls Tryz.prog 64 #[.int .i64 i] w fun e w'=>e=.returned (.string (decS i))/\w=w':=by
 have CS:=fun W=>qrx i W h
 replace CS:=Hd CS;have C1:∀ w,Calls Tryz.prog 205 #[.int .i64 i,.int .i64 10] w fun e w'=>e=.returned (.string (decS i))/\w=w':=by
  intro w;go_enter Tryz.func205,Tryz.ntmps205;go_wp2_with fail;refine (CS.out _).mono ?_;rintro e w' ⟨rfl,rfl⟩;go_wp2;go_ret;exact ⟨rfl,rfl⟩
 replace C1:=Hd C1;have C2:∀ w,Calls Tryz.prog 134 #[.int .i64 i] w fun e w'=>e=.returned (.string (decS i))/\w=w':=by
  intro w;go_enter Tryz.func134,Tryz.ntmps134;go_wp2_with fail;refine (C1.out _).mono ?_;rintro e w' ⟨rfl,rfl⟩;go_wp2;go_ret;exact ⟨rfl,rfl⟩
 replace C2:=Hd C2;go_enter Tryz.func64,Tryz.ntmps64;go_wp2_with fail;refine (C2.out _).mono ?_;rintro e w' ⟨rfl,rfl⟩;go_wp2;go_ret;exact ⟨rfl,rfl⟩
theorem qlu (w:World) (c:UInt8):(convert 73 9 (.slice (some ⟨w.heap.size,0,none⟩) 1 1)).run Tryz.prog (w.alloc (.cells #[.int .u8 (c.toNat:Int)] 5))=.ok (.string ⟨#[c]⟩) (w.alloc (.cells #[.int .u8 (c.toNat:Int)] 5)):=by
 refine run_convert_bytes_back (P:=Tryz.prog) (w.alloc (.cells #[.int .u8 (c.toNat:Int)] 5)) 73 9 5 ⟨w.heap.size,0,none⟩ 1 [c] Tryz.underlying73 Tryz.underlying5 Tryz.underlying9 ?_;intro j hj;obtain rfl:j=0:=by simpa using hj
 rw [Addr.add_lit];simp
theorem qj5 (i:Nat) (w:World) (h:i<10):Calls Tryz.prog 71 #[.int .i64 i] w fun e w'=>e=.returned (.string (decS i))/\Below w.heap.size w w':=by
 have hc:i=0\/i=1\/i=2\/i=3\/i=4\/i=5\/i=6\/i=7\/i=8\/i=9:=by omega
 have hk:=qlu w (48+i).toUInt8;clear h;rcases hc with rfl | rfl | rfl | rfl | rfl | rfl | rfl | rfl | rfl | rfl
 all_goals
  simp at hk;go_enter Tryz.func71,Tryz.ntmps71;go_wp2;go_ret;exact ⟨qdz (by decide),brf.alloc (nlr _) _⟩
theorem qe8 (i:Nat):(decS i).size<=2:=by
 unfold decS
 split <;> simp [ByteArray.size]
theorem qpy (i:Nat) (w:World) (h:i<60):Calls Tryz.prog 71 #[.int .i64 i] w fun e w'=>e=.returned (.string (decS i))/\Below w.heap.size w w':=by
 by_cases h10:i<10
 · exact qj5 i w h10
 ·
  have hk:=qlu w (48+i % 10).toUInt8;have C:=fun W=>qj5 (i / 10) W (by omega)
  have hd:decS i=decS (i / 10)++⟨#[(48+i % 10).toUInt8]⟩:=by
   unfold decS;rw [if_neg h10,if_pos (by omega)]
   rfl
  rw [hd];have hd2:(48+i % 10).toUInt8.toNat=48+i % 10:=by simp;omega
  rw [hd2] at hk;obtain ⟨c,hc⟩:∃ c,(48+i % 10).toUInt8=c:=⟨_,rfl⟩
  rw [hc] at hk ⊢;have hc1:((48+i % 10:Nat):Int)=48+(i:Int) % 10:=by omega
  have hc2:((i:Int) / 10)=((i / 10:Nat):Int):=by omega
  rw [hc1] at hk;have HC2:=Hd hc2;replace C:=Hd C;have hb0:Below w.heap.size w (w.alloc (.cells #[.int .u8 (48+(i:Int) % 10)] 5)):=brf.alloc (nlr _) _;have hm0:0<=(i:Int) % 10:=by omega
  have hm1:(i:Int) % 10<=9:=by omega
  have hi0:0<=(i:Int):=by omega
  have hi1:10<=(i:Int):=by omega
  have hi2:(i:Int)<60:=by omega
  have hsz:=qe8 (i / 10);have hdec:decide ((i:Int)<10)=false:=by simp;omega
  have hdec2:decide (i<10)=false:=by simp;omega
  clear hd hd2 hc hc1 hc2 h h10;go_enter Tryz.func71,Tryz.ntmps71;go_wp2_with fail;rw [HC2.out];refine (C.out _).mono ?_;rintro e w1 ⟨rfl,hb1⟩;have hw:=bth hb0 hb1;go_wp2;go_ret;exact ⟨rfl,hw⟩
def qcu (s:ByteArray) (i:Nat):ByteArray:=if s=⟨#[]⟩ then ⟨#[36]⟩++decS i else s
def qa0 (l:List Step):Nat->List ByteArray
 | 0=>[]
 | k+1=>qa0 l k++[qcu ((l[k]?.map Step.point).getD ⟨#[]⟩) k]
theorem qd7 (l:List Step) (k:Nat):(qa0 l k).length=k:=by
 induction k with
 | zero=>rfl
 | succ k ih=>rw [qa0,List.length_append,ih];rfl
theorem qib {l:List Step} {k:Nat} {s:Step} (h:l[k]? = some s):qa0 l (k+1)=qa0 l k++[qcu s.point k]:=by rw [qa0,h];rfl
def RetS (l:List ByteArray) (w:World) (e:Ending) (w':World):Prop:=∃ a c,e=.returned (.slice a l.length c)/\OwnS w.heap.size w' a c l/\Below w.heap.size w w'
theorem zz35 {P:Prop} (h:P:=by
 go_roundg (gk-1)
 case rel=>exact ⟨k+1,a2,c2,by have:=HKG.out;omega,by go_num,by rw [HNX.out];simp,by rw [HNX.out];exact ho2,qaq (hw1.alloc hw1.size _) ((HO.out.alloc _).alloc _) hg2⟩
 case measure=>have:=HKG.out;omega
 ):P:=h
theorem qqf (f:Fig) (sa:Option Addr) (sc:Nat) (ga:Option Addr) (gc:Nat) (w:World) (h:FigR w sa sc ga gc f) (hl:f.steps.length<=60) :
  Calls Tryz.prog 30 #[f.val sa sc ga gc] w (RetS (qa0 f.steps f.steps.length) w):=by
 obtain ⟨steps,goals⟩:=f;obtain ⟨hS,hG⟩:=h;unfold Fig.val;dsimp only at hS hl ⊢;have HS:=Hd hS;have hz:=Blk.new w 25 #[.slice sa steps.length sc,.slice ga goals.length gc];have hb0:Below w.heap.size w (w.alloc (.cells #[.slice sa steps.length sc,.slice ga goals.length gc] 25)):=by go_grown
 clear hS hG;go_enter Tryz.func30,Tryz.ntmps30;go_wp2;revert hz hb0;generalize w.alloc (.cells #[.slice sa steps.length sc,.slice ga goals.length gc] 25)=w0;intro hz hb0
 go_loopg [3,4,5,6,10] steps.length (fun n s _ _ _ q wr=>∃ (k:Nat) (a:Option Addr) (c:Nat),k+n=steps.length/\q=.int .i64 k/\s=.slice a (qa0 steps k).length c/\OwnS w.heap.size wr a c (qa0 steps k)/\Below w.heap.size w wr)
 case atStart=>exact ⟨0,none,0,by omega,rfl,rfl,Own.nil,hb0⟩
 case round =>
  clear hz hb0;obtain ⟨k,a,c,hkg,rfl,rfl,ho,hw⟩:=hrel;have HKG:=Hd hkg;have HO:=Hd ho;have HLN:=Hd (qd7 steps k);clear hkg ho;by_cases hlt:k<steps.length
  ·
   obtain ⟨s,hs⟩:=qac hlt;obtain ⟨b,off,rfl,p,hC,hP,_,_⟩:=(HS.out.ext (xbw hw)).2.2 k s hs;obtain ⟨c0,c1,c2,c3,c4,c5⟩:=hC;have hnx:=qib hs;have HNX:=Hd hnx;clear hs hP hnx;have hw1:=hw.alloc hw.size (.cells #[.int .i64 s.kind,.string s.point,.slice p.aa s.args.length p.ac,.bool s.ratio.neg,.slice p.na s.ratio.num.length p.nc,.slice p.da s.ratio.den.length p.dc] 53);by_cases he:s.point=⟨#[]⟩
   ·
    have hse:s.point.toList.isEmpty=true:=by rw [qb5];simpa using he
    have hse2:s.point.toList=[]:=by simpa using hse
    have hn:qcu s.point k=⟨#[36]⟩++decS k:=by unfold qcu;rw [if_pos he]
    rw [hn] at HNX;replace HNX:=Hd HNX.out;have CI:=fun W=>qui k W (by omega)
    have hsz:=qe8 k;revert HNX CI hsz;generalize decS k=D;intro HNX CI hsz;replace CI:=Hd CI;have hadd:(⟨#[36]⟩++D:ByteArray).size<=3:=by simp;have:(⟨#[36]⟩:ByteArray).size=1:=rfl;omega
    clear he hn;go_wp2_with fail;refine (CI.out _).mono ?_;rintro e w' ⟨rfl,rfl⟩;go_wp2_with (at_builtin;go_must (refine qei rfl (.tmp 22) (.tmp 24) rfl a c rfl ((HO.out.alloc _).alloc _) (⟨#[36]⟩++D) (wr.heap.size+1) 1 rfl (by simp) (qa0 steps k++[⟨#[36]⟩++D]) rfl (by have:=HLN.out;simp;omega) (by have:=hw.size;simp;omega) ?_);intro a2 c2 w2 ho2 hg2 hx2);exact zz35
   ·
    have hse:s.point.toList.isEmpty=false:=by rw [qb5];simpa using he
    have hse2:s.point.toList≠[]:=by intro e;rw [e] at hse;cases hse
    have hn:qcu s.point k=s.point:=by unfold qcu;rw [if_neg he]
    rw [hn] at HNX;replace HNX:=Hd HNX.out;clear he hn;go_wp2_with (at_builtin;go_must (refine qei rfl (.tmp 22) (.tmp 24) rfl a c rfl ((HO.out.alloc _).alloc _) s.point (wr.heap.size+1) 1 rfl (by simp) (qa0 steps k++[s.point]) rfl (by have:=HLN.out;simp;omega) (by have:=hw.size;simp;omega) ?_);intro a2 c2 w2 ho2 hg2 hx2);exact zz35
  ·
   obtain rfl:k=steps.length:=by have:=HKG.out;omega
   go_wp2;go_ret;exact ⟨a,c,rfl,HO.out,hw⟩
theorem qot (f:Fig) (sa:Option Addr) (sc:Nat) (ga:Option Addr) (gc:Nat) (w:World) (h:FigR w sa sc ga gc f) (hl:f.steps.length<=60) :
  Calls Tryz.prog 34 #[f.val sa sc ga gc] w (RetS (qa0 f.steps f.steps.length) w):=by
 obtain ⟨steps,goals⟩:=f;obtain ⟨hS,hG⟩:=h;unfold Fig.val;dsimp only at hS hl ⊢;have HS:=Hd hS;have hz:=Blk.new w 25 #[.slice sa steps.length sc,.slice ga goals.length gc];have hb0:Below w.heap.size w (w.alloc (.cells #[.slice sa steps.length sc,.slice ga goals.length gc] 25)):=by go_grown
 clear hS hG;go_enter Tryz.func34,Tryz.ntmps34;go_wp2;revert hz hb0;generalize w.alloc (.cells #[.slice sa steps.length sc,.slice ga goals.length gc] 25)=w0;intro hz hb0
 go_loopg [3,4,5,9] steps.length (fun n s _ _ q wr=>∃ (k:Nat) (a:Option Addr) (c:Nat),k+n=steps.length/\q=.int .i64 k/\s=.slice a (qa0 steps k).length c/\OwnS w.heap.size wr a c (qa0 steps k)/\Below w.heap.size w wr)
 case atStart=>exact ⟨0,none,0,by omega,rfl,rfl,Own.nil,hb0⟩
 case round =>
  clear hz hb0;obtain ⟨k,a,c,hkg,rfl,rfl,ho,hw⟩:=hrel;have HKG:=Hd hkg;have HO:=Hd ho;have HLN:=Hd (qd7 steps k);clear hkg ho;by_cases hlt:k<steps.length
  ·
   obtain ⟨s,hs⟩:=qac hlt;obtain ⟨b,off,rfl,p,hC,hP,_,_⟩:=(HS.out.ext (xbw hw)).2.2 k s hs;obtain ⟨c0,c1,c2,c3,c4,c5⟩:=hC;have hnx:=qib hs;have HNX:=Hd hnx;clear hs hP hnx;have hw1:=hw.alloc hw.size (.cells #[.int .i64 s.kind,.string s.point,.slice p.aa s.args.length p.ac,.bool s.ratio.neg,.slice p.na s.ratio.num.length p.nc,.slice p.da s.ratio.den.length p.dc] 53);have ho1:=HO.out.alloc (.cells #[.int .i64 s.kind,.string s.point,.slice p.aa s.args.length p.ac,.bool s.ratio.neg,.slice p.na s.ratio.num.length p.nc,.slice p.da s.ratio.den.length p.dc] 53);by_cases he:s.point=⟨#[]⟩
   ·
    have hse:s.point.toList.isEmpty=true:=by rw [qb5];simpa using he
    have hse2:s.point.toList=[]:=by simpa using hse
    have hse3:(!s.point.toList.isEmpty)=false:=by rw [hse];rfl
    have hn:qcu s.point k=⟨#[36]⟩++decS k:=by unfold qcu;rw [if_pos he]
    rw [hn] at HNX;replace HNX:=Hd HNX.out;have CI:=fun W=>qpy k W (by omega)
    have hsz:=qe8 k;revert HNX CI hsz;generalize decS k=D;intro HNX CI hsz;replace CI:=Hd CI;clear he hn;go_wp2_with fail;revert hw1 ho1;generalize wr.alloc (.cells #[.int .i64 s.kind,.string s.point,.slice p.aa s.args.length p.ac,.bool s.ratio.neg,.slice p.na s.ratio.num.length p.nc,.slice p.da s.ratio.den.length p.dc] 53)=w1;intro hw1 ho1;refine (CI.out _).mono ?_;rintro e w3 ⟨rfl,hb3⟩;have hw3:=bth hw1 hb3;have ho3:=Hd (ho1.below hb3);clear ho1 hb3;go_wp2_with (at_builtin;go_must (refine qei rfl (.tmp 22) (.tmp 26) rfl a c rfl (ho3.out.alloc _) (⟨#[36]⟩++D) w3.heap.size 1 rfl (by simp) (qa0 steps k++[⟨#[36]⟩++D]) rfl (by have:=HLN.out;simp;omega) (by have:=hw3.size;simp;omega) ?_);intro a2 c2 w2 ho2 hg2 hx2);go_roundg (gk-1)
    case rel=>exact ⟨k+1,a2,c2,by have:=HKG.out;omega,by go_num,by rw [HNX.out];simp,by rw [HNX.out];exact ho2,qaq (hw3.alloc hw3.size _) (ho3.out.alloc _) hg2⟩
    case measure=>have:=HKG.out;omega
   ·
    have hse:s.point.toList.isEmpty=false:=by rw [qb5];simpa using he
    have hse2:s.point.toList≠[]:=by intro e;rw [e] at hse;cases hse
    have hse3:(!s.point.toList.isEmpty)=true:=by rw [hse];rfl
    have hn:qcu s.point k=s.point:=by unfold qcu;rw [if_neg he]
    rw [hn] at HNX;replace HNX:=Hd HNX.out;clear he hn;go_wp2_with (at_builtin;go_must (refine qei rfl (.tmp 17) (.tmp 20) rfl a c rfl ((HO.out.alloc _).alloc _) s.point (wr.heap.size+1) 1 rfl (by simp) (qa0 steps k++[s.point]) rfl (by have:=HLN.out;simp;omega) (by have:=hw.size;simp;omega) ?_);intro a2 c2 w2 ho2 hg2 hx2);exact zz35
  ·
   obtain rfl:k=steps.length:=by have:=HKG.out;omega
   go_wp2;go_ret;exact ⟨a,c,rfl,HO.out,hw⟩
theorem qpa (t:Bool × Nat × Nat) (h1:(limbs t.2.1).length<=2000000) (h2:(limbs t.2.2).length<=2000000):(textF t).length<=20000002:=by
 unfold textF;have a1:=qgr t.1 t.2.1 h1;have a2:=qcy t.2.2 h2
 split
 · omega
 · rw [List.length_append,List.length_cons];omega
theorem qda (q:Rat) {k:Nat} (h:qsz q<=k) (hk:k<=100000):(textQ q).length<=20000002:=by
 have h1:=qbi q;have h2:=qbj q;exact qpa _ (by show (limbs q.num.natAbs).length<=_;omega) (by show (limbs q.den).length<=_;omega)
def lineI (nm:ByteArray) (p:P2):List UInt8:=nm.data.toList++32 :: (textQ p.1++32 :: (textQ p.2++[10]))
def textI:List ByteArray->List P2->List UInt8
 | n :: ns,p :: ps=>lineI n p++textI ns ps
 | _,_=>[]
theorem qfz:∀ {ns:List ByteArray} {ps:List P2} {k:Nat} {n:ByteArray} {p:P2},ns[k]? = some n->ps[k]? = some p->textI (ns.take (k+1)) (ps.take (k+1))=textI (ns.take k) (ps.take k)++lineI n p
 | [],_,_,_,_,h,_=>by simp at h
 | _ :: _,[],_,_,_,_,h=>by simp at h
 | a :: ns,b :: ps,0,n,p,h1,h2=>by
  simp at h1 h2;subst h1 h2;simp [textI]
 | a :: ns,b :: ps,k+1,n,p,h1,h2=>by
  rw [List.getElem?_cons_succ] at h1 h2;have ih:=qfz (ns:=ns) (ps:=ps) h1 h2;rw [List.take_succ_cons,List.take_succ_cons,List.take_succ_cons,List.take_succ_cons,textI,textI,ih,List.append_assoc]
theorem qj2 (nm:ByteArray) (p:P2):(nm++(⟨#[32]⟩:ByteArray)++ofL (textQ p.1)++(⟨#[32]⟩:ByteArray)++ofL (textQ p.2)++(⟨#[10]⟩:ByteArray)).data.toList=lineI nm p:=by
 unfold lineI;simp [ofL]
theorem qka (nm:ByteArray) (p:P2) (h:qbg p) (hn:nm.size<=100000000):(lineI nm p).length<=200000000:=by
 have h1:=qda p.1 h.1 (by omega);have h2:=qda p.2 h.2 (by omega);unfold lineI;have h3:nm.data.toList.length=nm.size:=Array.length_toList;simp only [List.length_append,List.length_cons,List.length_nil,h3]
 omega
theorem qgq:∀ {ns:List ByteArray} {ps:List P2},(∀ n∈ns,n.size<=100000000)->(∀ p∈ps,qbg p)->(textI ns ps).length<=200000000*ps.length
 | [],ps,_,_=>by cases ps <;> exact Nat.zero_le _
 | _ :: _,[],_,_=>Nat.zero_le _
 | n :: ns,p :: ps,hn,hp=>by
  have ih:=qgq (ns:=ns) (ps:=ps) (fun x hx=>hn x (List.mem_cons_of_mem _ hx)) (fun x hx=>hp x (List.mem_cons_of_mem _ hx));have:=qka n p (hp p (List.mem_cons_self ..)) (hn n (List.mem_cons_self ..));rw [textI,List.length_append,List.length_cons]
  omega
theorem qu3 {α:Type} {f:α->List Value} {sz B c b:Nat} {t:TypeId} {w w':World} {a:Option Addr} {l:List α} (h:Own f sz t B w a c l) (k:Oth b w w') (hb:b<B) (ht:t≠5):Own f sz t B w' a c l:=by
 have hl:=fun (g:Addr) (hg:a=some g)=>(h.lt hg).1
 rcases h with ⟨p,q⟩
 refine ⟨p,?_⟩;rcases q with q | ⟨g,c,cur,h1,h2,h3,h4⟩
 · exact .inl q
 ·
  refine .inr ⟨g,c,cur,h1,h2,?_,h4⟩;injection h1 with h1
  exact k _ _ h3 (fun e=>by injection e with e;have:=hl _ h1;dsimp only at this;omega) (fun c fz e=>ht (by injection e))
theorem qpl (steps:List Step) (goals:List Fct) (pts:List P2) (sa ga va ba pa:Option Addr) (sc gc vc bc pc nv nb:Nat) (w:World) (hne:pts.length≠steps.length) (h1:pts.length<=9223372036854775807) (h2:steps.length<=9223372036854775807) :
  Calls Tryz.prog 15 #[.agg #[.slice sa steps.length sc,.slice ga goals.length gc],.agg #[.slice va nv vc,.slice ba nb bc,.slice pa pts.length pc]] w fun e w'=>e=.returned (.tuple #[.string ⟨#[]⟩,.int .i64 16])/\Below w.heap.size w w':=by
 have hb:((pts.length:Int) != (steps.length:Int))=true:=by rw [bne_iff_ne];omega
 have hb0:Below w.heap.size w ((w.alloc (.cells #[.slice sa steps.length sc,.slice ga goals.length gc] 25)).alloc (.cells #[.slice va nv vc,.slice ba nb bc,.slice pa pts.length pc] 36)):=by go_grown
 replace hb0:=Hd hb0;replace hne:=Hd hne;go_enter Tryz.func15,Tryz.ntmps15;go_wp2;refine bodyPost_ret (v:=.tuple #[.string ⟨#[]⟩,.int .i64 16]) (by simp [results,Tryz.results15,go_sem]) rfl ?_;exact ⟨rfl,hb0.out⟩
theorem qit (steps:List Step) (goals:List Fct) (pts:List P2) (sa ga va ba pa:Option Addr) (sc gc vc bc pc nv nb:Nat) (w:World) (hS:FigR w sa sc ga gc ⟨steps,goals⟩) (hP:PsR w pa pc pts) (hne:pts.length=steps.length) (hl:steps.length<=60) (hsm:∀ p∈pts,qbg p) (hnz:∀ n∈qa0 steps steps.length,n.size<=100000000) :
  Calls Tryz.prog 15 #[.agg #[.slice sa steps.length sc,.slice ga goals.length gc],.agg #[.slice va nv vc,.slice ba nb bc,.slice pa pts.length pc]] w fun e w'=>e=.returned (.tuple #[.string (ofL (textI (qa0 steps steps.length) pts)),.int .i64 0])/\Below w.heap.size w w':=by
 have HS:=Hd (fun W (hW:Below w.heap.size w W)=>(⟨hS.1.ext (xbw hW),hS.2.ext (xbw hW)⟩:FigR W sa sc ga gc ⟨steps,goals⟩));have HP:=Hd hP;have hnl:=qd7 steps steps.length;have CN:=fun W (hW:Below w.heap.size w W)=>qqf ⟨steps,goals⟩ sa sc ga gc W (HS.out W hW) hl
 unfold Fig.val at CN;unfold RetS at CN;dsimp only at CN;obtain ⟨names,hnm⟩:∃ l,qa0 steps steps.length=l:=⟨_,rfl⟩
 rw [hnm] at hnl hnz ⊢;simp only [hnm] at CN;replace CN:=Hd CN;replace hsm:=Hd hsm;replace hnz:=Hd hnz;have hpl:=Hd hne;have hnl2:=Hd hnl;have hb:((pts.length:Int) != (steps.length:Int))=false:=by rw [hne];simp
 clear hS hP hnm hne;go_enter Tryz.func15,Tryz.ntmps15;go_wp2_with fail;refine qad (fun W=>Blk W (w.heap.size+1) 36 #[.slice va nv vc,.slice ba nb bc,.slice pa pts.length pc]/\Bld (w.heap.size+1+1) [] W/\Below w.heap.size w W) ⟨by ((with_reducible repeat first|assumption|(apply bF;focus omega)|apply bS|(apply bN;focus (simp;done))|apply bA|apply bD);all_goals rfl),by first | exact Bld.new _ | (have:=Bld.new ((w.alloc (.cells #[.slice sa steps.length sc,.slice ga goals.length gc] 25)).alloc (.cells #[.slice va nv vc,.slice ba nb bc,.slice pa pts.length pc] 36));simpa using this),by go_grown⟩ ?_;rintro w0 ⟨b2,bB,hw0⟩;obtain ⟨g2,hg2⟩:∃ g,w.heap.size+1=g:=⟨_,rfl⟩
 obtain ⟨gb,hgb⟩:∃ g,w.heap.size+1+1=g:=⟨_,rfl⟩
 rw [hgb] at bB;rw [hg2] at b2;simp only [hgb];simp only [hg2];have hgl:g2<gb:=by omega
 have hgw:w.heap.size<=gb:=by omega
 replace hg2:=Hd hg2;replace hgb:=Hd hgb;refine (CN.out w0 hw0).mono ?_;rintro e w1 ⟨na,nc,rfl,hO,hb1⟩;have hbl:=bB.lt;have b21:=Hd (b2.below' hb1);have bB1:=Hd (bB.below hb1);have hw1:=Hd (bth hw0 hb1);have hO1:=Hd hO;have hbw:gb<w0.heap.size:=hbl;clear hw0 hb1 CN bB b2 hO hbl;go_wp2
 go_loopg [7,8,19] names.length (fun n _ _ s19 wr=>∃ k:Nat,Hid (k+n=names.length)/\s19=.int .i64 k/\Hid (Bld gb (textI (names.take k) (pts.take k)) wr)/\Hid (OwnS w0.heap.size wr na nc names)/\Hid (Below gb w1 wr))
 case atStart=>exact ⟨0,by show _=_;omega,rfl,bB1.out,hO1.out,Below.refl _ _⟩
 case round =>
  obtain ⟨k,hm,rfl,hB,hOr,hwr⟩:=hrel;have hww:Below w.heap.size w wr:=hw1.out.trans ⟨hwr.out.os,hwr.out.tape,hwr.out.output,hwr.out.size,fun k hk=>hwr.out.block k (by omega)⟩;by_cases hlt:k<names.length
  ·
   obtain ⟨nm,hnk⟩:=qac hlt;obtain ⟨pt,hpk⟩:=qac (xs:=pts) (k:=k) (by have:=hpl.out;have:=hnl2.out;omega);obtain ⟨lb,rfl,_,_,hc⟩:=hOr.out.at_ qht hnk;have n0:wr.cell? ⟨lb,k,none⟩=some (.string nm):=by simpa using hc 0 _ rfl
   obtain ⟨pb,po,rfl,x,⟨c0,c1,c2,c3,c4,c5⟩,hx⟩:=HP.out.2.2 k pt hpk;have d0:=held (held c0 wr hww);have d1:=held (held c1 wr hww);have d2:=held (held c2 wr hww);have d3:=held (held c3 wr hww);have d4:=held (held c4 wr hww);have d5:=held (held c5 wr hww);have b2r:=b21.out.below hwr.out hgl;have i2:=held (b2r.cell 2);have hps:=hsm.out pt (List.mem_of_getElem? hpk);have hns:=hnz.out nm (List.mem_of_getElem? hnk);have hxr:=(hx.ext (xbw hww)).pk hps;have CX:=Hd (fun W (hW:Below wr.heap.size wr W)=>qrd x.1 pt.1 100 W (hxr.1.ext (xbw hW)) (by omega));have CY:=Hd (fun W (hW:Below wr.heap.size wr W)=>qrd x.2 pt.2 100 W (hxr.2.ext (xbw hW)) (by omega));have hld:=qj2 nm pt;have t1:(ofL (textQ pt.1)).size<=20000002:=by rw [qbw];exact qda pt.1 hps.1 (by omega)
   have t2:(ofL (textQ pt.2)).size<=20000002:=by rw [qbw];exact qda pt.2 hps.2 (by omega)
   have hll:=qka nm pt hps hns;have htk:=qfz hnk hpk;have hLl:=qgq (ns:=names.take k) (ps:=pts.take k) (fun n hn=>hnz.out n (List.mem_of_mem_take hn)) (fun p hp=>hsm.out p (List.mem_of_mem_take hp));rw [List.length_take] at hLl;revert CX CY hld t1 t2;generalize ofL (textQ pt.1)=tx;generalize ofL (textQ pt.2)=ty;intro CX CY hld t1 t2;have m1:¬ 9223372036854775807<nm.size+1:=by omega
   have m2:¬ 9223372036854775807<nm.size+1+tx.size:=by omega
   have m3:¬ 9223372036854775807<nm.size+1+tx.size+1:=by omega
   have m4:¬ 9223372036854775807<nm.size+1+tx.size+1+ty.size:=by omega
   have m5:¬ 9223372036854775807<nm.size+1+tx.size+1+ty.size+1:=by omega
   have hkP:(k:Int)<(pts.length:Int):=by have:=hpl.out;have:=hnl2.out;omega
   have hsz:((textI (names.take k) (pts.take k)).length+(nm++(⟨#[32]⟩:ByteArray)++tx++(⟨#[32]⟩:ByteArray)++ty++(⟨#[10]⟩:ByteArray)).size)<=70368744177664:=by
    have e1:(nm++(⟨#[32]⟩:ByteArray)++tx++(⟨#[32]⟩:ByteArray)++ty++(⟨#[10]⟩:ByteArray)).size=(lineI nm pt).length:=by rw [<- hld];exact Array.length_toList.symm
    rw [e1]
    omega
   have hww':=Hd hww;replace hld:=Hd hld;replace hsz:=Hd hsz;replace htk:=Hd htk;replace hnk:=Hd hnk;replace hpk:=Hd hpk;replace hps:=Hd hps;clear c0 c1 c2 c3 c4 c5 hx hxr hc hll hLl hww;have s0:Below wr.heap.size wr wr.drew:=brf.drew;go_wp2;refine wrx (S:=Below wr.heap.size wr) [(0,.q),(1,.q),(2,.q),(3,.q),(4,.q),(5,.q),(6,.q),(7,.q),(11,.q),(12,.q),(13,.q),(14,.q),(15,.q),(16,.q),(8,.l),(9,.q),(10,.q),(17,.l),(18,.p),(19,.p),(20,.t)] (s0) ?_
   iterate 14 (refine qam rfl rfl fun K hK=>xq ?_;go_simp;refine hK _ _ ?_;clear hK K)
   refine qaj rfl rfl (fun K hK=>?_);go_simp;refine (CX.out _ s0).mono ?_;rintro r w4 ⟨rfl,hb4⟩;dsimp only;refine hK.out _ _ (bth s0 hb4) (fun _=>?_);clear hK K;have s4:=bth s0 hb4
   iterate 2 (refine qam rfl rfl fun K hK=>xq ?_;go_simp;refine hK _ _ ?_;clear hK K)
   refine qaj rfl rfl (fun K hK=>?_);go_simp;refine (CY.out _ s4).mono ?_;rintro r w5 ⟨rfl,hb5⟩;dsimp only;refine hK.out _ _ (bth s4 hb5) (fun _=>?_);clear hK K;have s5:=bth s4 hb5
   iterate 2 (refine qav rfl rfl fun K hK=>xp ?_;go_simp;refine hK _ _ ?_;clear hK K)
   have hB5:=hB.out.below s5;have hO5:=hOr.out.below s5;have hw5:=hwr.out.trans (s5.mono (by have:=hB.out.lt;omega));refine qah rfl rfl (fun K hK=>?_);go_simp;refine (qq7 gb _ _ w5 hB5 hsz.out).mono ?_;rintro r w6 ⟨⟨vv,rfl⟩,hB6,hb6,ho6⟩;dsimp only;refine hK.out _ _ ?_;clear hK K;refine qak ?_;have hO6:=Hd (qu3 hO5 ho6 hbw (by decide));have hw6:=Hd (hw5.trans hb6);have hB7:Bld gb (textI (names.take (k+1)) (pts.take (k+1))) w6:=by rw [htk.out,<- hld.out];exact hB6
   replace hB7:=Hd hB7;clear d0 d1 d2 d3 d4 d5 i2 hB5 hO5 hw5 hB6 hb6 ho6 s0 s4 s5 hb4 hb5 n0;go_wp2;go_roundg (gk-1)
   case rel=>exact ⟨k+1,by have:=hm.out;show _=_;omega,by go_num,hB7.out,hO6.out,hw6.out⟩
   case measure=>have:=hm.out;omega
  ·
   have hkn:k=names.length:=by have:=hm.out;omega
   have htx:textI (names.take k) (pts.take k)=textI names pts:=by
    rw [List.take_of_length_le (by omega),List.take_of_length_le (by have:=hpl.out;have:=hnl2.out;omega)]
   have CS:=Hd (qia gb _ wr hB.out);rw [htx] at CS;have hww':=Hd hww;replace htx:=Hd htx;replace hkn:=Hd hkn;clear hww;go_wp2_with fail;refine CS.out.mono ?_;rintro e w5 ⟨rfl,hb5,ho5⟩;have hw5:=Hd (hww'.out.trans ⟨hb5.os,hb5.tape,hb5.output,hb5.size,fun k hk=>hb5.block k (by omega)⟩);clear hb5 ho5 CS;go_wp2;refine bodyPost_ret (v:=.tuple #[.string (ofL (textI names pts)),.int .i64 0]) (by simp [results,Tryz.results15,go_sem,ofL]) rfl ?_;exact ⟨rfl,hw5.out⟩
def ratsI (l:List Int):List Rat:=l.map fun z=>mkRat z 1
theorem qfv (l:List Int) (a:Option Addr) (c:Nat) (w:World) (h:IntsR w a c l) (hl:l.length<=1000) (hi:∀ z∈l,InInt z) :
  Calls Tryz.prog 18 #[.slice a l.length c] w fun e w'=>∃ a' c',e=.returned (.slice a' (ratsI l).length c')/\Kp (fun V=>QsR V a' c' (ratsI l)) w.heap.size w'.heap.size w'/\Below w.heap.size w w':=by
 have H:=Hd h;have hlen:=SlR.len h;replace hi:=Hd hi;clear h;go_enter Tryz.func18,Tryz.ntmps18;go_wp2
 go_loopg [3,5,8] l.length (fun n s _ q wr=>∃ (k:Nat) (a1:Option Addr) (c1:Nat) (hs:List QA),Hid (k+n=l.length)/\q=.int .i64 k/\s=.slice a1 k c1/\Hid (OwnQ w.heap.size wr a1 c1 hs)/\Hid (AllQ (Xr (fun b=>b<w.heap.size) a1) wr hs (ratsI (l.take k)))/\Hid (Below w.heap.size w wr))
 case atStart=>exact ⟨0,none,0,[],by show _=_;omega,rfl,rfl,Own.nil,AllQ.nil,Below.refl _ _⟩
 case round =>
  obtain ⟨k,a1,c1,hs,hm,rfl,rfl,hQ,hA,hwr⟩:=hrel;have hsl:hs.length=k:=by rw [hA.out.1];unfold ratsI;rw [List.length_map,List.length_take];have:=hm.out;omega
  replace hsl:=Hd hsl;by_cases hlt:k<l.length
  ·
   obtain ⟨z,hz⟩:=qac hlt;obtain ⟨b,off,rfl,hc⟩:=H.out.2.2 k z hz;have d0:=held hc.1 wr hwr.out;simp only [Nat.mul_one] at d0;have hbl:b<wr.heap.size:=World.block_lt_of_cell? wr _ d0;have hzi:=hi.out z (List.mem_of_getElem? hz);have htk:ratsI (l.take (k+1))=ratsI (l.take k)++[mkRat z 1]:=by unfold ratsI;rw [qbh hz,List.map_append];rfl
   have CO:=fun W=>(qrl z W hzi)
   simp only [qeq] at CO;obtain ⟨q,hq⟩:∃ q,mkRat z 1=q:=⟨_,rfl⟩
   rw [hq] at htk;simp only [hq] at CO;replace CO:=Hd CO;replace htk:=Hd htk;replace hz:=Hd hz;replace hq:=Hd hq;have hkI:(k:Int)<(l.length:Int):=by omega
   clear hc hzi;go_wp2_with fail;refine (CO.out wr).mono ?_;intro e w2 hret;obtain ⟨x,rfl,hx,hb2⟩:=qr6 hret;have hX:∀ b,Xr (fun b=>b<w.heap.size) a1 b->b<wr.heap.size:=fun b hb=>by
    rcases hb with hb | ⟨p,hp,rfl⟩
    · have:=hwr.out.size;omega
    · exact (hQ.out.lt hp).2
   have hx2:Rd (Xr (fun b=>b<w.heap.size) a1) w2 fun V=>QAc V x q:=Rd.made hx fun b hb=>.inl (hX b hb)
   have hw2:=bth hwr.out hb2;replace hx2:=Hd hx2;replace hw2:=Hd hw2;have hb2':=Hd hb2;clear CO hx hX hb2 hret
   go_wp2_with (at_builtin;go_must (refine qab (fun W=>Blk W w2.heap.size 51 #[.bool x.neg,.slice x.a x.n x.c,.slice x.b x.m x.d]/\Below w2.heap.size w2 W) ⟨by ((with_reducible repeat first|assumption|(apply bF;focus omega)|apply bS|(apply bN;focus (simp;done))|apply bA|apply bD);all_goals rfl),by go_grown⟩ ?_);rintro w4 ⟨hr,hb4⟩;have hQ4:=(hQ.out.below hb2'.out).below hb4;go_must (refine qa7 (B:=w.heap.size) rfl (.tmp 12) (.tmp 15) 31 rfl Tryz.underlying31 qlh rfl (by omega) (by omega) qg2 a1 c1 (by rw [hsl.out];rfl) hQ4 x (qoj _) w2.heap.size 1 rfl (fun j u hu=>by have e:=hr.cell j;rw [e];simpa [qaC] using hu) (hs++[x]) rfl (by rw [List.length_append,hsl.out];simp;omega) (by have:=hw2.out.size;have:=hb4.size;omega) ?_);intro a7 c7 w5 ho5 hg5 ha5;have hb5:=qaq (bth hw2.out hb4) hQ4 hg5;have hA5:=((hA.out.call hb2'.out).call hb4).push (hx2.out.call hb4) (fun R h=>h.app hg5 ha5);replace ho5:=Hd ho5;replace hb5:=Hd hb5;replace hA5:=Hd hA5;clear hr hb4 hg5 ha5 hQ4)
   have hln:(hs++[x]).length=k+1:=by rw [List.length_append,hsl.out];rfl
   go_roundg (gk-1)
   case rel=>exact ⟨k+1,a7,c7,_,by have:=hm.out;show _=_;omega,by go_num,by first | rfl | (congr 1;simpa using hln),ho5.out,by have e:=hA5.out;rw [<- htk.out] at e;exact e,hb5.out⟩
   case measure=>have:=hm.out;omega
  ·
   have hkn:k=l.length:=by have:=hm.out;omega
   have hA2:=hA.out;rw [List.take_of_length_le (by omega)] at hA2;subst hkn;have hrl:(ratsI l).length=l.length:=List.length_map ..;replace hA2:=Hd hA2;replace hrl:=Hd hrl;clear hA hm;go_wp2;refine bodyPost_ret (v:=.slice a1 l.length c1) (by simp [results,Tryz.results18,go_sem]) rfl ?_;exact ⟨a1,c1,by rw [hrl.out],Kp.made fun V hV=>Own.readsX (X:=fun b=>b<w.heap.size) (ratsI l) hA2.out.1.symm qg2 hQ.out (fun p v hp hc=>hV p v (Nat.le_of_not_lt hp) hc) (fun g hg hlt2=>by have:=(hQ.out.lt hg).1;omega) fun b o k x y h1 h2 hc=>⟨x,by simpa using hc 0 _ rfl,hc 1 _ rfl,hc 2 _ rfl,hA2.out.2 k x y h1 h2 V (fun p v hp hc=>hV p v (Nat.le_of_not_lt fun hl=>hp (.inl hl)) hc)⟩,hwr.out⟩
theorem qnz {i a D:Nat} (ha:a<=65536 ^ 3) (h:D<=a ^ i):D<65536 ^ (3*i+1):=by
 have h1:a ^ i<=(65536 ^ 3) ^ i:=Nat.pow_le_pow_left ha i;rw [<- Nat.pow_mul] at h1;have h2:65536 ^ (3*i)<65536 ^ (3*i+1):=Nat.pow_lt_pow_right (by decide) (Nat.lt_succ_self _);exact Nat.lt_of_le_of_lt (Nat.le_trans h h1) h2
theorem qel {i:Nat} {B:Int} {D M:Nat} {p:List Tm} (hk:Pok B p) (hB:B<=1048576) (ho:PolyO D M p) (hD:0<D) (h1:D<=(2 ^ 32) ^ i) (h2:M<=(3*2 ^ 32) ^ i) (hi:i<=300) (hl:p.length<=100000):FineP p :=
 ⟨hl,fun u hu=>⟨(hk.1 u hu).1.more hB,(hk.1 u hu).2,by
  obtain ⟨e1,e2⟩:=(ho u hu).parts hD;have g1:=qal (qnz (i:=i) (by decide) (Nat.le_trans e1 h2));have g2:=qal (qnz (i:=i) (by decide) (Nat.le_trans e2 h1));exact qfr (by omega) (by omega)⟩⟩
section
variable {i D M : Nat} {x : Frm}
theorem FrmOk.fine (h:FrmOk i D M x) (hi:i<=100) (args:List Int) (k:Nat):FineP (argF x.coords args k).1/\FineP (argF x.coords args k).2:=by
 obtain ⟨⟨a1,a2,a3⟩,⟨b1,b2,b3⟩⟩:=qjg h args k;obtain ⟨h0,h1,h2,h3,_⟩:=h;exact ⟨qel a1 (by omega) a2 h1 h2 h3 (by omega) (by omega),qel b1 (by omega) b2 h1 h2 h3 (by omega) (by omega)⟩
theorem zz36 {P:Prop} (h:P:=by
 have e2:(3*2 ^ 32:Nat) ^ (i+1)=(3*2 ^ 32) ^ i*(3*2 ^ 32):=Nat.pow_succ _ _;rw [e2];generalize (3*2 ^ 32) ^ i=P at *
 omega
 ):P:=h
theorem FrmOk.diff (h:FrmOk i D M x) (hi:i<=100) {p q:List Tm} (hp:Pok i p/\PolyO D M p/\p.length<=4000) (hq:Pok i q/\PolyO D M q/\q.length<=4000) :
  FineP (subP p q)/\Pok i (subP p q):=by
 obtain ⟨h0,h1,h2,h3,_⟩:=h;have hl:=qh1 p q;have ho:=hp.2.1.sub hq.2.1;have hk:=qdj hp.1 hq.1;refine ⟨qel (i:=i+1) hk (by omega) ho h1 (Nat.le_trans h2 ?_) ?_ (by omega) (by omega),hk⟩
 · exact Nat.pow_le_pow_right (by decide) (by omega)
 ·
  exact zz36
theorem FrmOk.scaled (h:FrmOk i D M x) (hi:i<=100) {p q:List Tm} (hp:Pok i p/\PolyO D M p/\p.length<=4000) (hq:Pok i q/\PolyO D M q/\q.length<=4000) {r:Rat} (hr:r.num.natAbs<=2 ^ 32/\r.den<=2 ^ 32) :
  FineP (qa1 (subP p q) r):=by
 obtain ⟨h0,h1,h2,h3,h4,_⟩:=h;have hl:=qh1 p q;have hl2:=qoy (subP p q) r;have ho:=(hp.2.1.sub hq.2.1).scale r;have hk:=qg1 (a:=r) (qdj hp.1 hq.1);have d0:0<r.den:=Nat.pos_of_ne_zero r.den_nz;refine qel (i:=i+2) hk (by omega) ho (Nat.mul_pos h1 d0) ?_ ?_ (by omega) (by omega)
 ·
  refine Nat.le_trans (Nat.mul_le_mul h2 hr.2) ?_;rw [<- Nat.pow_succ];exact Nat.pow_le_pow_right (by decide) (by omega)
 ·
  have e2:(3*2 ^ 32:Nat) ^ (i+2)=(3*2 ^ 32) ^ i*(3*2 ^ 32)*(3*2 ^ 32):=by rw [Nat.pow_succ,Nat.pow_succ]
  refine Nat.le_trans (Nat.mul_le_mul (Nat.add_le_add h3 h3) hr.1) ?_;rw [e2];generalize (3*2 ^ 32) ^ i=P at *
  omega
theorem qtb (n:Nat):FineP (varP n):=qel (i:=0) (D:=1) (M:=1) (qhb (B:=1) (Int.le_refl _)) (by omega) (qj1 n (nlr _)) (by omega) (by simp) (by simp) (by omega) (by have:=ql5 n;omega)
theorem FrmOk.turned (h:FrmOk i D M x) (hi:i<=100) {p q:List Tm} (hp:Pok i p/\PolyO D M p/\p.length<=4000) (hq:Pok i q/\PolyO D M q/\q.length<=4000) (n:Nat) :
  FineP (mulP (subP p q) (varP n)):=by
 obtain ⟨h0,h1,h2,h3,_⟩:=h;have hl:=qh1 p q;have ho:=qge (n:=n) (hp.2.1.sub hq.2.1);have hk:=qhi (i:=i) (qdj hp.1 hq.1) n;have hl2:(mulP (subP p q) (varP n)).length<=(subP p q).length:=by
  unfold varP
  split
  · rw [qev];simp [qa6]
  · rw [qjo];simp
 refine qel (i:=i+1) hk (by omega) ho h1 (Nat.le_trans h2 ?_) ?_ (by omega) (by omega)
 · exact Nat.pow_le_pow_right (by decide) (by omega)
 ·
  exact zz36
end
theorem at_v (X:Nat->Prop) (gB e s B:Nat) (hs:List (VQ × Vec)) (ra aa:Option Addr) (rc ac:Nat) (args:List Int) (k j:Nat) (q:VQ) (v:Vec) (w:World) (h1:w.cell? ⟨e,0,none⟩=some (.pointer (some ⟨gB,0,none⟩))) (h2:w.cell? ⟨gB,0,none⟩=some (.slice ra hs.length rc))
  (h3:w.cell? ⟨s,2,none⟩=some (.slice aa args.length ac)) (h4:IntsR w aa ac args) (h5:OwnCo B w ra rc hs) (hi:args[k]? = some (j:Int)) (hj:hs[j]? = some (q,v)) (hv:VecX X w q v) (hl:hs.length<=1000000) :
  Calls Tryz.prog 84 #[.int .i64 k,.pointer (some ⟨e,0,none⟩),.pointer (some ⟨s,0,none⟩)] w (qet X v w):=by
 have hjl:j<hs.length:=qaw hj;have hil:k<args.length:=qaw hi;have hl2:=h4.len;obtain ⟨g2,o2,rfl,hcx⟩:=h4.2.2 k _ hi;have u0:w.cell? ⟨g2,o2+k,none⟩=some (.int .i64 j):=by simpa [IntE] using hcx.1
 obtain ⟨g,rfl,_,_,hc⟩:=h5.at_ qn8 hj;have d0:=held (show w.cell? ⟨g,j*2,none⟩=some (.slice q.a v.1.length q.c) from hc 0 _ rfl);have d1:=held (show w.cell? ⟨g,j*2+1,none⟩=some (.slice q.b v.2.length q.d) from hc 1 _ rfl);replace h1:=held h1;replace h2:=held h2;replace h3:=held h3;replace u0:=held u0;have HV:=Hd hv;clear hc hcx h4 h5 hi hj hv;go_enter Tryz.func84,Tryz.ntmps84;go_wp2;refine qab (fun W=>Blk W w.heap.size 97 #[.slice none 0 0,.slice none 0 0]/\Below w.heap.size w W) ⟨by ((with_reducible repeat first|assumption|(apply bF;focus omega)|apply bS|(apply bN;focus (simp;done))|apply bA|apply bD);all_goals rfl),by go_grown⟩ ?_;rintro w0 ⟨h0,hw0⟩;have s0:Below w.heap.size w w0.drew:=hw0.drew;have hz:=h0.drew;obtain ⟨v0,hv0⟩:∃ v,w0.drew=v:=⟨_,rfl⟩
 refine wrx (S:=Below w.heap.size w) [(0,.q),(1,.q),(2,.q),(3,.q),(4,.q),(5,.q),(6,.q),(7,.q),(8,.q),(9,.q),(10,.q),(11,.q),(12,.t)] (s0) ?_;rw [hv0] at s0 hz ⊢
 iterate 12 (refine qam rfl rfl fun K hK=>xq ?_;go_simp;refine hK _ _ ?_;clear hK K)
 clear d0 d1 h1 h2 h3 u0;have y0:=hz.cell 0;have f0:=hz.frozen 0;have y1:=hz.cell 1;have f1:=hz.frozen 1;refine qah rfl rfl (fun K hK=>?_);go_simp;refine hK.out _ _ ?_;clear hK K;refine qak ?_;go_wp2;refine qab (fun W=>Blk W w.heap.size 97 #[.slice q.a v.1.length q.c,.slice q.b v.2.length q.d]/\Below w.heap.size w W) ⟨by ((with_reducible repeat first|assumption|(apply bF;focus omega)|apply bS|(apply bN;focus (simp;done))|apply bA|apply bD);all_goals rfl),by go_grown⟩ ?_;rintro wF ⟨hF,hwF⟩;obtain ⟨e0,e1⟩:=cq2 hF;refine bodyPost_ret (v:=.agg #[.slice q.a v.1.length q.c,.slice q.b v.2.length q.d]) (by simp [results,Tryz.results84,go_sem,e0,e1]) rfl ?_;exact ⟨q,rfl,HV.out.call hwF,hwF⟩
end Go.Proofs.YtfaalkneigpcnaaGreatDoor
