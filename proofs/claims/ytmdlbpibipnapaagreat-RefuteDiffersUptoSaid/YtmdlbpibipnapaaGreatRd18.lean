/- Walks: arities and the zero value, by the program. -/
import Derived.Test.YtmdlbpibipnapaaGreatRd17
import Derived.Test.YtmdlbpibipnapaaGreatRd2
import Derived.Test.YtmdlbpibipnapaaGreatRd11
import Derived.Test.YtmdlbpibipnapaaGreatRd1
set_option linter.all false
set_option maxRecDepth 100000
set_option maxHeartbeats 4000000
namespace Go.Proofs.YtmdlbpibipnapaaGreat
open Go.RowKit
theorem qsr (Z:Nat->Prop) (B:Nat) (x:Frm) (hs:List (VQ × Vec)) (ra va:Option Addr) (rc vc:Nat) (pt:ByteArray) (aa na da ga:Option Addr) (ac nc dc sn sb so sc gl gc i rn rd:Nat) (neg:Bool) (args:List Int) (w:World) (hR:Rst Z w B x hs ra rc va vc) (hl:x.vars.length<=800) (hlh:hs.length<=1000) (hZ:∀ b,Z b->b<w.heap.size) (hBw:B<=w.heap.size) (hi:i<sn) (hsn:sn<=sc/\sc<=maxLen) (q:Rat) (a b:Vec) (qa qb:VQ) (H0:(pickH hs args)[0]? = some (qa,a)) (M0:(qa,a)∈hs) (H1:(pickH hs args)[1]? = some (qb,b)) (M1:(qb,b)∈hs) (hx:Rd (Yr Z ra va) w fun V=>QAc V ⟨neg,rn,na,nc,rd,da,dc⟩ q) (hq:qsz q<=1000) (fa:FineV a) (fb:FineV b) (fd:FineV (subP b.1 a.1,subP b.2 a.2)) (f1:∀ k,FineP (mulP (qbg q) ((subP b.1 a.1).take k))) (f2:∀ t∈subP b.1 a.1,FineP (qaq (qbg q) t)) (f3:∀ k,FineP (mulP (qbg q) ((subP b.2 a.2).take k))) (f4:∀ t∈subP b.2 a.2,FineP (qaq (qbg q) t)) (c0:w.cell? ⟨sb,so+i*6,none⟩=some (.int .i64 2)) (c1:w.cell? ⟨sb,so+i*6+1,none⟩=some (.string pt)) (c2:w.cell? ⟨sb,so+i*6+2,none⟩=some (.slice aa args.length ac)) (c3:w.cell? ⟨sb,so+i*6+3,none⟩=some (.bool neg)) (c4:w.cell? ⟨sb,so+i*6+4,none⟩=some (.slice na rn nc)) (c5:w.cell? ⟨sb,so+i*6+5,none⟩=some (.slice da rd dc)) (hI:IntsR w aa ac args) (hal:args.length<=1000) (har:∀ a∈args,0<=a/\a<hs.length):Calls Tryz.prog 59 #[.agg #[.slice ra hs.length rc,.slice va x.vars.length vc],.agg #[.slice (some ⟨sb,so,none⟩) sn sc,.slice ga gl gc],.int .i64 i,.int .i64 x.free] w (qdv Z B x (x.vars,(addP a.1 (mulP (qbg q) (subP b.1 a.1)),addP a.2 (mulP (qbg q) (subP b.2 a.2)))) hs ra rc va w):=by
 obtain ⟨V,hPe⟩:∃ V:Vec,V=(addP a.1 (mulP (qbg q) (subP b.1 a.1)),addP a.2 (mulP (qbg q) (subP b.2 a.2))):=⟨_,rfl⟩
 rw [<- hPe];replace hPe:=Hd hPe;have FX:=Hd hx;have FQ:=Hd hq;have FF:=Hd (And.intro fa (And.intro fb (And.intro fd (And.intro f1 (And.intro f2 (And.intro f3 f4))))));replace H0:=Hd H0;replace H1:=Hd H1;replace M0:=Hd M0;replace M1:=Hd M1;clear hx hq fa fb fd f1 f2 f3 f4;have HR:=Hd hR;have HZ:=Hd hZ;have HI:=Hd hI;have HA:=Hd har;have HL:=Hd hlh;have hn0:∀ g,w.heap.size<=g->¬ Yv ra va g:=fun g hg h=>by have:=hR.lt _ h;omega
 replace hn0:=Hd hn0;have hsb:sb<w.heap.size:=World.block_lt_of_cell? w _ c0;have hsb1:sb<w.heap.size+1:=oo
 have hsb2:sb<w.heap.size+1+1:=oo
 have hsb3:sb<w.heap.size+1+1+1:=oo
 have hsb4:sb<w.heap.size+1+1+1+1:=oo
 clear hR hZ hI har hlh;obtain ⟨sm1,sm2⟩:=hsn;go_enter Tryz.func59,Tryz.ntmps59;go_wp2
 refine qaa (fun W=>Blk W w.heap.size 37 #[.slice ra hs.length rc,.slice va x.vars.length vc]/\Blk W (w.heap.size+1) 25 #[.slice (some ⟨sb,so,none⟩) sn sc,.slice ga gl gc]/\Blk W (w.heap.size+1+1) 37 #[.slice none 0 0,.slice none 0 0]/\Blk W (w.heap.size+1+1+1) 120 #[.slice none 0 0,.slice none 0 0]/\Blk W (w.heap.size+1+1+1+1) 93 #[.int .i64 2,.string pt,.slice aa args.length ac,.bool neg,.slice na rn nc,.slice da rd dc]/\Below w.heap.size w W) ⟨bk,bk,bk,bk,bk,zg⟩ ?_
 clear c0 c1 c2 c3 c4 c5 hsb hsb1 hsb2 hsb3 hsb4;rintro w1 ⟨h0,h1,h2,h3,h4,hw1⟩;obtain ⟨g1,hg1⟩:∃ g,g=w.heap.size+1:=⟨_,rfl⟩
 obtain ⟨g2,hg2⟩:∃ g,g=w.heap.size+1+1:=⟨_,rfl⟩
 obtain ⟨g3,hg3⟩:∃ g,g=w.heap.size+1+1+1:=⟨_,rfl⟩
 obtain ⟨g4,hg4⟩:∃ g,g=w.heap.size+1+1+1+1:=⟨_,rfl⟩
 obtain ⟨g0,hg0⟩:∃ g,g=w.heap.size:=⟨_,rfl⟩
 rw [<- hg4] at h4 ⊢;rw [<- hg3] at h3 ⊢;rw [<- hg2] at h2 ⊢;rw [<- hg1] at h1 ⊢;rw [<- hg0] at h0 ⊢;have hl4:=h4.lt;have o1:g0<g1:=oo
 have o2:g1<g2:=oo
 have o3:g2<g3:=oo
 have o4:g3<g4:=oo
 have ow:w.heap.size<=g0:=oo
 have o5:g4<w.heap.size+5:=oo
 replace hg0:=Hd hg0;replace hg1:=Hd hg1;replace hg2:=Hd hg2;replace hg3:=Hd hg3;replace hg4:=Hd hg4;have k40:=h4.cell 0;have k42:=h4.cell 2;clear hl4;go_wp2
 go_loopg [11,13,26] args.length (fun m l _ idx wr=>∃ (k:Nat) (la:Option Addr) (lc:Nat),Hid (k+m=args.length)/\l=.slice la k lc/\idx=.int .i64 k/\Hid (OwnCo (g4+1) wr la lc ((pickH hs args).take k))/\Below w.heap.size w wr/\Blk wr g0 37 #[.slice ra hs.length rc,.slice va x.vars.length vc]/\Blk wr g1 25 #[.slice (some ⟨sb,so,none⟩) sn sc,.slice ga gl gc]/\Blk wr g2 37 #[.slice none 0 0,.slice none 0 0]/\Blk wr g3 120 #[.slice none 0 0,.slice none 0 0]/\Blk wr g4 93 #[.int .i64 2,.string pt,.slice aa args.length ac,.bool neg,.slice na rn nc,.slice da rd dc])
 case atStart=>exact ⟨0,none,0,by show _=_;omega,rfl,rfl,by rw [List.take_zero];exact Own.nil,hw1,h0,h1,h2,h3,h4⟩
 case round =>
  clear h0 h1 h2 h3 h4 hw1 k40 k42;obtain ⟨k,la,lc,hm,rfl,rfl,hO,hwr,h0,h1,h2,h3,h4⟩:=hrel;by_cases hlt:k<args.length
  ·
   obtain ⟨a,ha⟩:=qab hlt;obtain ⟨ab,ao,rfl,hae,_⟩:=(HI.out.ext (xbw hwr)).2.2 k a ha;obtain ⟨a1,a2⟩:=HA.out a (List.mem_of_getElem? ha);obtain ⟨z,hz⟩:=qab (show a.toNat<hs.length by omega);obtain ⟨rb,rfl,_,_,hzc⟩:=(HR.out.call hwr).co.at_ qbr hz;have hcz0:=hzc 0 _ rfl;have hcz1:=hzc 1 _ rfl;have hk':=qfr ha hz;obtain ⟨j,rfl⟩:∃ j:Nat,a=(j:Int):=⟨a.toNat,oo⟩
   rw [Int.toNat_natCast] at hcz0 hcz1 hz;rw [Nat.mul_one] at hae;rw [Nat.add_zero] at hcz0;have hjl:j<hs.length:=qai hz;have hlh:=HL.out;have hlen2:((pickH hs args).take k).length=k:=by rw [List.length_take,qbo];omega
   have z0:=h0.cell 0;have hzl:=h0.lt;have y4:=h4.lt;have hab:ab<wr.heap.size:=World.block_lt_of_cell? wr _ hae;have hrb:rb<wr.heap.size:=World.block_lt_of_cell? wr _ hcz0;replace hk':=Hd hk';replace hz:=Hd hz;replace hlen2:=Hd hlen2;replace ha:=Hd ha;replace hO:=Hd hO.out;have h0h:=Hd h0;have h1h:=Hd h1;have h2h:=Hd h2;have h3h:=Hd h3;have h4h:=Hd h4;clear hzc h0 h1 h2 h3 h4 a1 a2
   go_wp2_with (at_builtin;go_must (refine qaa (fun W=>Blk W wr.heap.size 120 #[.slice z.1.a z.2.1.length z.1.c,.slice z.1.b z.2.2.length z.1.d]/\Below wr.heap.size wr W) ⟨bk,zg⟩ ?_);rintro w2 ⟨hr2,hw2⟩;go_must (refine qay (B:=g4+1) rfl (.tmp 30) (.tmp 36) 34 rfl Tryz.underlying34 qhg rfl oo oo qbr la lc (by rw [hlen2.out];rfl) (hO.out.below hw2) z (qf8 _) wr.heap.size 1 rfl (fun j u hu=>by have e:=hr2.cell j;rw [e];simpa [coC] using hu) ((pickH hs args).take k++[z]) rfl (by rw [List.length_append,hlen2.out];simp;omega) (by have:=hw2.size;omega) ?_);intro la2 lc2 w3 ho3 hg3' ha3);have hwr2:=bth hwr hw2;have hlt2:=hw2.size;have hO2:=hO.out.below hw2
   have q0:=(h0h.out.below' hw2).under hO2 oo hg3';have q1:=(h1h.out.below' hw2).under hO2 oo hg3';have q2:=(h2h.out.below' hw2).under hO2 oo hg3';have q3:=(h3h.out.below' hw2).under hO2 oo hg3';have q4:=(h4h.out.below' hw2).under hO2 oo hg3';have hb3:=qal hwr2 (hO2.base (show w.heap.size<=g4+1 by omega)) hg3';rw [<- qbb hk'.out] at ho3;have hmin:min k (pickH hs args).length+1=k+1:=by rw [qbo];omega
   go_roundg (gk-1)
   case rel=>exact ⟨k+1,la2,lc2,by have:=hm.out;show _=_;omega,by rw [hmin],by go_num,ho3,hb3,q0,q1,q2,q3,q4⟩
   case measure=>have:=hm.out;omega
  ·
   have hk:k=args.length:=by have:=hm.out;omega
   have hO2:=hO.out;rw [List.take_of_length_le (by rw [qbo];omega)] at hO2;subst hk;replace hO2:=Hd hO2;have hR8:Rst (Zk Z w.heap.size 5) wr B x hs ra rc va vc:=(HR.out.more (qed (nlr _))).call hwr;have hZ8:∀ b,Zk Z w.heap.size 5 b->b<wr.heap.size:=zk_lt HZ.out hwr.size (by have:=h4.lt;have:=hg4.out;omega);have hB8:B<=wr.heap.size:=by have:=hwr.size;omega
   obtain ⟨x0,x1⟩:=cq2 h0;have k40:=h4.cell 0;have l0:=h0.lt;have l4:=h4.lt;have n2:¬ Yv ra va g2:=hn0.out g2 oo;have n3:¬ Yv ra va g3:=hn0.out g3 oo;have e2:Zk Z w.heap.size 5 g2:=.inr oo;have e3:Zk Z w.heap.size 5 g3:=.inr oo;have w2:w.heap.size<=g2:=oo
   have w3:w.heap.size<=g3:=oo
   have d23:g2≠g3:=oo
   have d32:g3≠g2:=oo
   have h2h:=Hd h2;have h3h:=Hd h3;have h0h:=Hd h0;have h4h:=Hd h4;replace hR8:=Hd hR8;replace hZ8:=Hd hZ8;replace n2:=Hd n2;replace n3:=Hd n3;replace e2:=Hd e2;replace e3:=Hd e3;clear h0 h1 h2 h3 h4 hm hO;replace H0:=H0.out;replace H1:=H1.out;replace M0:=M0.out;replace M1:=M1.out;have k43:=held (h4h.out.cell 3);have k44:=held (h4h.out.cell 4);have k45:=held (h4h.out.cell 5);have hY8:∀ b,Yr (Zk Z w.heap.size 5) ra va b->b<wr.heap.size:=fun b hb=>hb.elim (hR8.out.lt b) (hZ8.out b)
   have y0:=held x0;have y1:=held x1;have s0:Below wr.heap.size wr wr.drew:=brf.drew;have hql:=qbo hs args;obtain ⟨lb0,hla0,_,_,hc0⟩:=hO2.out.at_ qbr H0;have u00:=held (by simpa using hc0 0 _ rfl:wr.cell? ⟨lb0,0,none⟩=some (.slice qa.a a.1.length qa.c));have u01:=held (hc0 1 _ rfl:wr.cell? ⟨lb0,1,none⟩=some (.slice qa.b a.2.length qa.d));have b0:0<args.length:=by have:=qai H0;omega
   have bi0:(0:Int)<(args.length:Int):=oo
   have hVa:=(hR8.out.all _ M0)
   replace hVa:=Hd hVa;clear hc0;obtain ⟨lb1,hla1,_,_,hc1⟩:=hO2.out.at_ qbr H1;have u10:=held (by simpa using hc1 0 _ rfl:wr.cell? ⟨lb1,2,none⟩=some (.slice qb.a b.1.length qb.c));have u11:=held (hc1 1 _ rfl:wr.cell? ⟨lb1,3,none⟩=some (.slice qb.b b.2.length qb.d));have b1:1<args.length:=by have:=qai H1;omega
   have bi1:(1:Int)<(args.length:Int):=oo
   have hVb:=(hR8.out.all _ M1)
   replace hVb:=Hd hVb;clear hc1;obtain rfl:lb0=lb1:=by rw [hla0] at hla1;injection hla1 with e;injection e
   subst hla0;clear hla1;have CA:=fun aA cA wA (sA:Below wr.heap.size wr wA) hPA=>qop (Yr (Zk Z w.heap.size 5) ra va) a b (qbg q) qa qb aA cA wA (fun b hb=>ltl (hY8 b hb) sA.size) (hVa.out.call sA) (hVb.out.call sA) hPA FF.out.1 FF.out.2.1 (qqe FQ.out) FF.out.2.2.1 FF.out.2.2.2.1 FF.out.2.2.2.2.1 FF.out.2.2.2.2.2.1 FF.out.2.2.2.2.2.2
   simp only [<- hPe.out] at CA;have CC:=qn1 (Yr (Zk Z w.heap.size 5) ra va) ⟨neg,rn,na,nc,rd,da,dc⟩ q wr.drew hY8 ((FX.out.more (fun b hb=>hb.elim (fun h=>.inl (.inl h)) fun h=>(qed (nlr _) b h).imp .inr id)).call (bth hwr s0)) FQ.out;replace CA:=Hd CA;replace CC:=Hd CC;replace hY8:=Hd hY8;clear x0 x1 H0 H1 M0 M1;go_wp2;clear k40 l0 l4;refine wrx (S:=Below wr.heap.size wr) [(0,.q),(1,.q),(2,.q),(3,.q),(4,.q),(5,.q),(6,.q),(7,.q),(8,.q),(9,.l),(10,.l),(11,.t),(12,.t)] (s0) ?_
   iterate 9 (refine qaf rfl rfl fun K hK=>xq ?_;go_simp;refine hK _ _ ?_;clear hK K)
   refine vl fun K hK=>?_
   go_simp;refine (CC.out).mono ?_;rintro r wA ⟨aA,cA,rfl,hPA,hbA⟩;dsimp only;refine hK.out _ _ (bth s0 hbA) (fun _=>?_);clear hK K;have sA:=bth s0 hbA;refine vl fun K hK=>?_
   go_simp;refine (CA.out aA cA wA sA hPA).mono ?_;rintro r w9 ⟨t,rfl,hV9,hb9⟩;dsimp only;refine hK.out _ _ (bth sA hb9) (fun _=>?_);clear hK K;have s9:=bth sA hb9;obtain ⟨va9,hva9⟩:∃ v,v=va:=⟨_,rfl⟩
   obtain ⟨vc9,hvc9⟩:∃ v,v=vc:=⟨_,rfl⟩
   replace hV9:VecX (Yr (Zk Z w.heap.size 5) ra va9) w9 t V:=by rw [hva9];exact hV9
   have hR9:Rst (Zk Z w.heap.size 5) w9 B ⟨x.vars,x.coords,x.free⟩ hs ra rc va9 vc9:=by rw [hva9,hvc9];exact hR8.out.call s9
   have hf9:Fr (Yv ra va) wr w9:=Fr.below s9;have hv9:∀ g,va9=some g->va=some g\/wr.heap.size<=g.block:=fun g h=>.inl (by rw [<- hva9];exact h)
   rw [<- hva9,<- hvc9];replace hva9:=Hd hva9;replace hvc9:=Hd hvc9;clear hPA hbA hb9 CA CC y0 y1 u00 u01 u10 u11 k43 k44 k45;have h29:=h2h.out.fr hf9 n2.out;have h39:=h3h.out.fr hf9 n3.out;have m2:¬ Yv ra va9 g2:=qce n2.out hv9 (by have:=h2h.out.lt;omega);have m3:¬ Yv ra va9 g3:=qce n3.out hv9 (by have:=h3h.out.lt;omega);obtain ⟨k20,k21⟩:=cq2 h29;obtain ⟨f20,f21⟩:=fq2 h29;have l2:=h29.lt;obtain ⟨k30,k31⟩:=cq2 h39;obtain ⟨f30,f31⟩:=fq2 h39;have l3:=h39.lt;have hfr:Fr (Yv ra va) w w9:=(Fr.below hwr).trans hf9;have hvv:∀ g,va9=some g->va=some g\/w.heap.size<=g.block:=fun g hg=>by
    have:=hwr.size;rcases hv9 g hg with e | e
    · exact .inl e
    · exact .inr oo
   have h29h:=Hd h29;have h39h:=Hd h39;replace hR9:=Hd hR9;replace hV9:=Hd hV9;replace hfr:=Hd hfr;replace hvv:=Hd hvv;replace m2:=Hd m2;replace m3:=Hd m3;clear h29 h39 hf9 hv9;refine vt fun K hK=>?_
   go_simp;refine hK.out _ _ ?_;clear hK K;refine vt fun K hK=>?_
   go_simp;refine hK.out _ _ ?_;clear hK K;refine qad ?_;go_wp2;clear k20 k21 f20 f21 l2 k30 k31 f30 f31 l3;refine qaa (fun W=>Blk W g2 37 #[.slice ra hs.length rc,.slice va9 ((x.vars,V):List Vr × Vec).1.length vc9]/\Blk W g3 120 #[.slice t.a ((x.vars,V):List Vr × Vec).2.1.length t.c,.slice t.b ((x.vars,V):List Vr × Vec).2.2.length t.d]/\Rst Z W B ⟨((x.vars,V):List Vr × Vec).1,x.coords,x.free⟩ hs ra rc va9 vc9/\VecX (Yr Z ra va9) W t ((x.vars,V):List Vr × Vec).2/\Fr (Yv ra va) w W) ⟨?_,?_,?_,?_,?_⟩ ?_
   ·
    have a:=h29h.out
    exact bk
   ·
    have a:=h39h.out
    exact bk
   ·
    first
    | exact ((((hR9.out.set_ e2.out m2.out).set_ e2.out m2.out).set_ e3.out m3.out).set_ e3.out m3.out).less fun b hb=>.inl hb
    | exact (((((hR9.out.set_ e2.out m2.out).set_ e2.out m2.out).set_ e3.out m3.out).set_ e3.out m3.out).less fun b hb=>.inl hb).call (brf.drew)
   ·
    refine VecX.less (Y:=Yr (Zk Z w.heap.size 5) ra va9) ?_ fun b hb=>hb.imp id .inl
    exact (((hV9.out.step (Agr.setc (.inr e2.out) (Agr.refl _ _))).step (Agr.setc (.inr e2.out) (Agr.refl _ _))).step (Agr.setc (.inr e3.out) (Agr.refl _ _))).step (Agr.setc (.inr e3.out) (Agr.refl _ _))
   ·
    first
    | exact (((hfr.out.setc (.inr w2)).setc (.inr w2)).setc (.inr w3)).setc (.inr w3)
    | exact ((((hfr.out.setc (.inr w2)).setc (.inr w2)).setc (.inr w3)).setc (.inr w3)).call (brf.drew)
   rintro wZ ⟨hF1,hF2,hRZ,hVZ,hfZ⟩;obtain ⟨j0,j1⟩:=cq2 hF1;obtain ⟨j2,j3⟩:=cq2 hF2;refine bodyPost_ret (v:=.tuple #[.agg #[.slice ra hs.length rc,.slice va9 ((x.vars,V):List Vr × Vec).1.length vc9],.agg #[.slice t.a ((x.vars,V):List Vr × Vec).2.1.length t.c,.slice t.b ((x.vars,V):List Vr × Vec).2.2.length t.d]]) (by simp [results,Tryz.results59,go_sem,j0,j1,j2,j3]) rfl ?_;exact ⟨va9,vc9,t,rfl,hRZ,hVZ,hfZ,hvv.out⟩
theorem zz58 {P:Prop} (h:P:=by
 simp only [eV1] at C1;simp only [eV2] at C2;replace C1:=Hd C1;replace C2:=Hd C2;replace hY8:=Hd hY8;replace eV1:=Hd eV1;replace eV2:=Hd eV2;go_wp2;clear k40 l0 l4 x0 x1;refine wrM (S:=Cs L) [(0,.q),(1,.q),(2,.q),(3,.q),(4,.q),(5,.q),(6,.q),(7,.q),(8,.q),(9,.q),(10,.q),(11,.q),(12,.q),(14,.q),(15,.q),(16,.q),(17,.q),(18,.q),(19,.q),(20,.q),(21,.q),(22,.q),(23,.q),(24,.q),(25,.q),(13,.l),(26,.l),(27,.q),(28,.l),(29,.t)] (sC) ?_
 iterate 25 (refine qaf rfl rfl fun K hK=>xq ?_;go_simp;refine hK _ _ ?_;clear hK K)
 refine vl fun K hK=>?_
 go_simp;refine (C1.out).mono ?_;rintro r wA ⟨aA,cA,rfl,hPA,hbA⟩;dsimp only;refine hK.out _ _ (sC.below hbA) (fun _=>?_);clear hK K;have sA:=bth s0 hbA;have sD:=sC.below hbA;refine vl fun K hK=>?_
 go_simp;refine (C2.out wA sA).mono ?_;rintro r w9 ⟨aB,cB,rfl,hPB,hb9⟩;dsimp only;refine hK.out _ _ (sD.below hb9) (fun _=>?_);clear hK K;have s9:=bth sA hb9;have sE:=sD.below hb9;obtain ⟨t,ht⟩:∃ t:VQ,t=⟨aA,cA,aB,cB⟩:=⟨_,rfl⟩
 have hV9:VecX (Yr (Zk Z w.heap.size 5) ra va) w9 t V:=by rw [ht];exact ⟨hPA.call hb9,hPB⟩
 obtain rfl:aA=t.a:=by rw [ht]
 obtain rfl:cA=t.c:=by rw [ht]
 obtain rfl:aB=t.b:=by rw [ht]
 obtain rfl:cB=t.d:=by rw [ht]
 obtain ⟨va9,hva9⟩:∃ v,v=va:=⟨_,rfl⟩
 obtain ⟨vc9,hvc9⟩:∃ v,v=vc:=⟨_,rfl⟩
 replace hV9:VecX (Yr (Zk Z w.heap.size 5) ra va9) w9 t V:=by rw [hva9];exact hV9
 have hR9:Rst (Zk Z w.heap.size 5) w9 B ⟨x.vars,x.coords,x.free⟩ hs ra rc va9 vc9:=by rw [hva9,hvc9];exact hR8.out.call s9
 have hf9:Fr (Yv ra va) wr w9:=Fr.below s9;have hv9:∀ g,va9=some g->va=some g\/wr.heap.size<=g.block:=fun g h=>.inl (by rw [<- hva9];exact h)
 rw [<- hva9] at v1;rw [<- hvc9] at v1;rw [<- hva9,<- hvc9];replace hva9:=Hd hva9;replace hvc9:=Hd hvc9;clear hPA hPB hbA hb9 C1 C2 ht sC sD;have h29:=h2h.out.fr hf9 n2.out;have h39:=h3h.out.fr hf9 n3.out;have m2:¬ Yv ra va9 g2:=qce n2.out hv9 (by have:=h2h.out.lt;omega);have m3:¬ Yv ra va9 g3:=qce n3.out hv9 (by have:=h3h.out.lt;omega);obtain ⟨k20,k21⟩:=cq2 h29;obtain ⟨f20,f21⟩:=fq2 h29;have l2:=h29.lt;obtain ⟨k30,k31⟩:=cq2 h39;obtain ⟨f30,f31⟩:=fq2 h39;have l3:=h39.lt;have hfr:Fr (Yv ra va) w w9:=(Fr.below hwr).trans hf9;have hvv:∀ g,va9=some g->va=some g\/w.heap.size<=g.block:=fun g hg=>by
  have:=hwr.size;rcases hv9 g hg with e | e
  · exact .inl e
  · exact .inr oo
 have h29h:=Hd h29;have h39h:=Hd h39;replace hR9:=Hd hR9;replace hV9:=Hd hV9;replace hfr:=Hd hfr;replace hvv:=Hd hvv;replace m2:=Hd m2;replace m3:=Hd m3;clear h29 h39 hf9 hv9
 refine qaf rfl rfl fun K hK=>xq ?_;go_simp;refine hK _ _ ?_;clear hK K
 refine vl fun K hK=>?_
 go_simp;refine hK.out _ _ ((sE.setc hne.out).setc hne.out) (fun _=>?_);clear hK K;refine vt fun K hK=>?_
 go_simp;refine hK.out _ _ ?_;clear hK K;refine qad ?_;go_wp2;clear k20 k21 f20 f21 l2 k30 k31 f30 f31 l3;refine qaa (fun W=>Blk W g2 37 #[.slice ra hs.length rc,.slice va9 ((x.vars,V):List Vr × Vec).1.length vc9]/\Blk W g3 120 #[.slice t.a ((x.vars,V):List Vr × Vec).2.1.length t.c,.slice t.b ((x.vars,V):List Vr × Vec).2.2.length t.d]/\Rst Z W B ⟨((x.vars,V):List Vr × Vec).1,x.coords,x.free⟩ hs ra rc va9 vc9/\VecX (Yr Z ra va9) W t ((x.vars,V):List Vr × Vec).2/\Fr (Yv ra va) w W) ⟨?_,?_,?_,?_,?_⟩ ?_
 ·
  have a:=h29h.out
  exact bk
 ·
  have a:=h39h.out
  exact bk
 ·
  first
  | exact ((((hR9.out.set_ e2.out m2.out).set_ e2.out m2.out).set_ e3.out m3.out).set_ e3.out m3.out).less fun b hb=>.inl hb
  | exact (((((hR9.out.set_ e2.out m2.out).set_ e2.out m2.out).set_ e3.out m3.out).set_ e3.out m3.out).less fun b hb=>.inl hb).call (brf.drew)
 ·
  refine VecX.less (Y:=Yr (Zk Z w.heap.size 5) ra va9) ?_ fun b hb=>hb.imp id .inl
  exact (((hV9.out.step (Agr.setc (.inr e2.out) (Agr.refl _ _))).step (Agr.setc (.inr e2.out) (Agr.refl _ _))).step (Agr.setc (.inr e3.out) (Agr.refl _ _))).step (Agr.setc (.inr e3.out) (Agr.refl _ _))
 ·
  first
  | exact (((hfr.out.setc (.inr w2)).setc (.inr w2)).setc (.inr w3)).setc (.inr w3)
  | exact ((((hfr.out.setc (.inr w2)).setc (.inr w2)).setc (.inr w3)).setc (.inr w3)).call (brf.drew)
 rintro wZ ⟨hF1,hF2,hRZ,hVZ,hfZ⟩;obtain ⟨j0,j1⟩:=cq2 hF1;obtain ⟨j2,j3⟩:=cq2 hF2;refine bodyPost_ret (v:=.tuple #[.agg #[.slice ra hs.length rc,.slice va9 ((x.vars,V):List Vr × Vec).1.length vc9],.agg #[.slice t.a ((x.vars,V):List Vr × Vec).2.1.length t.c,.slice t.b ((x.vars,V):List Vr × Vec).2.2.length t.d]]) (by simp [results,Tryz.results59,go_sem,j0,j1,j2,j3]) rfl ?_;exact ⟨va9,vc9,t,rfl,hRZ,hVZ,hfZ,hvv.out⟩
 ):P:=h
theorem qjs (Z:Nat->Prop) (B:Nat) (x:Frm) (hs:List (VQ × Vec)) (ra va:Option Addr) (rc vc:Nat) (pt:ByteArray) (aa na da ga:Option Addr) (ac nc dc sn sb so sc gl gc i rn rd:Nat) (neg:Bool) (args:List Int) (w:World) (hR:Rst Z w B x hs ra rc va vc) (hl:x.vars.length<=800) (hlh:hs.length<=1000) (hZ:∀ b,Z b->b<w.heap.size) (hBw:B<=w.heap.size) (hi:i<sn) (hsn:sn<=sc/\sc<=maxLen) (kind:Int) (k34:kind=3\/kind=4) (a b c:Vec) (qa qb qc:VQ) (H0:(pickH hs args)[0]? = some (qa,a)) (M0:(qa,a)∈hs) (H1:(pickH hs args)[1]? = some (qb,b)) (M1:(qb,b)∈hs) (H2:(pickH hs args)[2]? = some (qc,c)) (M2:(qc,c)∈hs) (fa:FineV a) (fb:FineV b) (fc:FineV c) (fd:FineV (subP c.1 b.1,subP c.2 b.2)) (fe:FineV (subP b.2 c.2,subP c.1 b.1)) (c0:w.cell? ⟨sb,so+i*6,none⟩=some (.int .i64 kind)) (c1:w.cell? ⟨sb,so+i*6+1,none⟩=some (.string pt)) (c2:w.cell? ⟨sb,so+i*6+2,none⟩=some (.slice aa args.length ac)) (c3:w.cell? ⟨sb,so+i*6+3,none⟩=some (.bool neg)) (c4:w.cell? ⟨sb,so+i*6+4,none⟩=some (.slice na rn nc)) (c5:w.cell? ⟨sb,so+i*6+5,none⟩=some (.slice da rd dc)) (hI:IntsR w aa ac args) (hal:args.length<=1000) (har:∀ a∈args,0<=a/\a<hs.length):Calls Tryz.prog 59 #[.agg #[.slice ra hs.length rc,.slice va x.vars.length vc],.agg #[.slice (some ⟨sb,so,none⟩) sn sc,.slice ga gl gc],.int .i64 i,.int .i64 x.free] w (qdv Z B x (x.vars,(if kind=3 then (addP a.1 (subP c.1 b.1),addP a.2 (subP c.2 b.2)) else (addP a.1 (subP b.2 c.2),addP a.2 (subP c.1 b.1)))) hs ra rc va w):=by
 obtain ⟨V,hPe⟩:∃ V:Vec,V=(if kind=3 then (addP a.1 (subP c.1 b.1),addP a.2 (subP c.2 b.2)) else (addP a.1 (subP b.2 c.2),addP a.2 (subP c.1 b.1))):=⟨_,rfl⟩
 rw [<- hPe];replace hPe:=Hd hPe;replace k34:=Hd k34;have FF:=Hd (And.intro fa (And.intro fb (And.intro fc (And.intro fd fe))));replace H0:=Hd H0;replace H1:=Hd H1;replace H2:=Hd H2;replace M0:=Hd M0;replace M1:=Hd M1;replace M2:=Hd M2;clear fa fb fc fd fe;have HR:=Hd hR;have HZ:=Hd hZ;have HI:=Hd hI;have HA:=Hd har;have HL:=Hd hlh;have hn0:∀ g,w.heap.size<=g->¬ Yv ra va g:=fun g hg h=>by have:=hR.lt _ h;omega
 replace hn0:=Hd hn0;have hsb:sb<w.heap.size:=World.block_lt_of_cell? w _ c0;have hsb1:sb<w.heap.size+1:=oo
 have hsb2:sb<w.heap.size+1+1:=oo
 have hsb3:sb<w.heap.size+1+1+1:=oo
 have hsb4:sb<w.heap.size+1+1+1+1:=oo
 clear hR hZ hI har hlh;obtain ⟨sm1,sm2⟩:=hsn;go_enter Tryz.func59,Tryz.ntmps59;go_wp2
 refine qaa (fun W=>Blk W w.heap.size 37 #[.slice ra hs.length rc,.slice va x.vars.length vc]/\Blk W (w.heap.size+1) 25 #[.slice (some ⟨sb,so,none⟩) sn sc,.slice ga gl gc]/\Blk W (w.heap.size+1+1) 37 #[.slice none 0 0,.slice none 0 0]/\Blk W (w.heap.size+1+1+1) 120 #[.slice none 0 0,.slice none 0 0]/\Blk W (w.heap.size+1+1+1+1) 93 #[.int .i64 kind,.string pt,.slice aa args.length ac,.bool neg,.slice na rn nc,.slice da rd dc]/\Below w.heap.size w W) ⟨bk,bk,bk,bk,bk,zg⟩ ?_
 clear c0 c1 c2 c3 c4 c5 hsb hsb1 hsb2 hsb3 hsb4;rintro w1 ⟨h0,h1,h2,h3,h4,hw1⟩;obtain ⟨g1,hg1⟩:∃ g,g=w.heap.size+1:=⟨_,rfl⟩
 obtain ⟨g2,hg2⟩:∃ g,g=w.heap.size+1+1:=⟨_,rfl⟩
 obtain ⟨g3,hg3⟩:∃ g,g=w.heap.size+1+1+1:=⟨_,rfl⟩
 obtain ⟨g4,hg4⟩:∃ g,g=w.heap.size+1+1+1+1:=⟨_,rfl⟩
 obtain ⟨g0,hg0⟩:∃ g,g=w.heap.size:=⟨_,rfl⟩
 rw [<- hg4] at h4 ⊢;rw [<- hg3] at h3 ⊢;rw [<- hg2] at h2 ⊢;rw [<- hg1] at h1 ⊢;rw [<- hg0] at h0 ⊢;have hl4:=h4.lt;have o1:g0<g1:=oo
 have o2:g1<g2:=oo
 have o3:g2<g3:=oo
 have o4:g3<g4:=oo
 have ow:w.heap.size<=g0:=oo
 have o5:g4<w.heap.size+5:=oo
 replace hg0:=Hd hg0;replace hg1:=Hd hg1;replace hg2:=Hd hg2;replace hg3:=Hd hg3;replace hg4:=Hd hg4;have k40:=h4.cell 0;have k42:=h4.cell 2;clear hl4;go_wp2
 go_loopg [11,13,26] args.length (fun m l _ idx wr=>∃ (k:Nat) (la:Option Addr) (lc:Nat),Hid (k+m=args.length)/\l=.slice la k lc/\idx=.int .i64 k/\Hid (OwnCo (g4+1) wr la lc ((pickH hs args).take k))/\Below w.heap.size w wr/\Blk wr g0 37 #[.slice ra hs.length rc,.slice va x.vars.length vc]/\Blk wr g1 25 #[.slice (some ⟨sb,so,none⟩) sn sc,.slice ga gl gc]/\Blk wr g2 37 #[.slice none 0 0,.slice none 0 0]/\Blk wr g3 120 #[.slice none 0 0,.slice none 0 0]/\Blk wr g4 93 #[.int .i64 kind,.string pt,.slice aa args.length ac,.bool neg,.slice na rn nc,.slice da rd dc])
 case atStart=>exact ⟨0,none,0,by show _=_;omega,rfl,rfl,by rw [List.take_zero];exact Own.nil,hw1,h0,h1,h2,h3,h4⟩
 case round =>
  clear h0 h1 h2 h3 h4 hw1 k40 k42;obtain ⟨k,la,lc,hm,rfl,rfl,hO,hwr,h0,h1,h2,h3,h4⟩:=hrel;by_cases hlt:k<args.length
  ·
   obtain ⟨a,ha⟩:=qab hlt;obtain ⟨ab,ao,rfl,hae,_⟩:=(HI.out.ext (xbw hwr)).2.2 k a ha;obtain ⟨a1,a2⟩:=HA.out a (List.mem_of_getElem? ha);obtain ⟨z,hz⟩:=qab (show a.toNat<hs.length by omega);obtain ⟨rb,rfl,_,_,hzc⟩:=(HR.out.call hwr).co.at_ qbr hz;have hcz0:=hzc 0 _ rfl;have hcz1:=hzc 1 _ rfl;have hk':=qfr ha hz;obtain ⟨j,rfl⟩:∃ j:Nat,a=(j:Int):=⟨a.toNat,oo⟩
   rw [Int.toNat_natCast] at hcz0 hcz1 hz;rw [Nat.mul_one] at hae;rw [Nat.add_zero] at hcz0;have hjl:j<hs.length:=qai hz;have hlh:=HL.out;have hlen2:((pickH hs args).take k).length=k:=by rw [List.length_take,qbo];omega
   have z0:=h0.cell 0;have hzl:=h0.lt;have y4:=h4.lt;have hab:ab<wr.heap.size:=World.block_lt_of_cell? wr _ hae;have hrb:rb<wr.heap.size:=World.block_lt_of_cell? wr _ hcz0;replace hk':=Hd hk';replace hz:=Hd hz;replace hlen2:=Hd hlen2;replace ha:=Hd ha;replace hO:=Hd hO.out;have h0h:=Hd h0;have h1h:=Hd h1;have h2h:=Hd h2;have h3h:=Hd h3;have h4h:=Hd h4;clear hzc h0 h1 h2 h3 h4 a1 a2
   go_wp2_with (at_builtin;go_must (refine qaa (fun W=>Blk W wr.heap.size 120 #[.slice z.1.a z.2.1.length z.1.c,.slice z.1.b z.2.2.length z.1.d]/\Below wr.heap.size wr W) ⟨bk,zg⟩ ?_);rintro w2 ⟨hr2,hw2⟩;go_must (refine qay (B:=g4+1) rfl (.tmp 30) (.tmp 36) 34 rfl Tryz.underlying34 qhg rfl oo oo qbr la lc (by rw [hlen2.out];rfl) (hO.out.below hw2) z (qf8 _) wr.heap.size 1 rfl (fun j u hu=>by have e:=hr2.cell j;rw [e];simpa [coC] using hu) ((pickH hs args).take k++[z]) rfl (by rw [List.length_append,hlen2.out];simp;omega) (by have:=hw2.size;omega) ?_);intro la2 lc2 w3 ho3 hg3' ha3);have hwr2:=bth hwr hw2;have hlt2:=hw2.size;have hO2:=hO.out.below hw2
   have q0:=(h0h.out.below' hw2).under hO2 oo hg3';have q1:=(h1h.out.below' hw2).under hO2 oo hg3';have q2:=(h2h.out.below' hw2).under hO2 oo hg3';have q3:=(h3h.out.below' hw2).under hO2 oo hg3';have q4:=(h4h.out.below' hw2).under hO2 oo hg3';have hb3:=qal hwr2 (hO2.base (show w.heap.size<=g4+1 by omega)) hg3';rw [<- qbb hk'.out] at ho3;have hmin:min k (pickH hs args).length+1=k+1:=by rw [qbo];omega
   go_roundg (gk-1)
   case rel=>exact ⟨k+1,la2,lc2,by have:=hm.out;show _=_;omega,by rw [hmin],by go_num,ho3,hb3,q0,q1,q2,q3,q4⟩
   case measure=>have:=hm.out;omega
  ·
   have hk:k=args.length:=by have:=hm.out;omega
   have hO2:=hO.out;rw [List.take_of_length_le (by rw [qbo];omega)] at hO2;subst hk;replace hO2:=Hd hO2;have hR8:Rst (Zk Z w.heap.size 5) wr B x hs ra rc va vc:=(HR.out.more (qed (nlr _))).call hwr;have hZ8:∀ b,Zk Z w.heap.size 5 b->b<wr.heap.size:=zk_lt HZ.out hwr.size (by have:=h4.lt;have:=hg4.out;omega);have hB8:B<=wr.heap.size:=by have:=hwr.size;omega
   obtain ⟨x0,x1⟩:=cq2 h0;have k40:=h4.cell 0;have l0:=h0.lt;have l4:=h4.lt;have n2:¬ Yv ra va g2:=hn0.out g2 oo;have n3:¬ Yv ra va g3:=hn0.out g3 oo;have e2:Zk Z w.heap.size 5 g2:=.inr oo;have e3:Zk Z w.heap.size 5 g3:=.inr oo;have w2:w.heap.size<=g2:=oo
   have w3:w.heap.size<=g3:=oo
   have d23:g2≠g3:=oo
   have d32:g3≠g2:=oo
   have h2h:=Hd h2;have h3h:=Hd h3;have h0h:=Hd h0;have h4h:=Hd h4;replace hR8:=Hd hR8;replace hZ8:=Hd hZ8;replace n2:=Hd n2;replace n3:=Hd n3;replace e2:=Hd e2;replace e3:=Hd e3;clear h0 h1 h2 h3 h4 hm hO;replace H0:=H0.out;replace H1:=H1.out;replace H2:=H2.out;replace M0:=M0.out;replace M1:=M1.out;replace M2:=M2.out;have hY8:∀ b,Yr (Zk Z w.heap.size 5) ra va b->b<wr.heap.size:=fun b hb=>hb.elim (hR8.out.lt b) (hZ8.out b)
   have y0:=held x0;have y1:=held x1;have s0:Below wr.heap.size wr wr.drew:=brf.drew;have hql:=qbo hs args;obtain ⟨lb0,hla0,_,_,hc0⟩:=hO2.out.at_ qbr H0;have u00:=held (by simpa using hc0 0 _ rfl:wr.cell? ⟨lb0,0,none⟩=some (.slice qa.a a.1.length qa.c));have u01:=held (hc0 1 _ rfl:wr.cell? ⟨lb0,1,none⟩=some (.slice qa.b a.2.length qa.d));have b0:0<args.length:=by have:=qai H0;omega
   have bi0:(0:Int)<(args.length:Int):=oo
   have hVa:=(hR8.out.all _ M0)
   replace hVa:=Hd hVa;clear hc0;obtain ⟨lb1,hla1,_,_,hc1⟩:=hO2.out.at_ qbr H1;have u10:=held (by simpa using hc1 0 _ rfl:wr.cell? ⟨lb1,2,none⟩=some (.slice qb.a b.1.length qb.c));have u11:=held (hc1 1 _ rfl:wr.cell? ⟨lb1,3,none⟩=some (.slice qb.b b.2.length qb.d));have b1:1<args.length:=by have:=qai H1;omega
   have bi1:(1:Int)<(args.length:Int):=oo
   have hVb:=(hR8.out.all _ M1)
   replace hVb:=Hd hVb;clear hc1;obtain ⟨lb2,hla2,_,_,hc2⟩:=hO2.out.at_ qbr H2;have u20:=held (by simpa using hc2 0 _ rfl:wr.cell? ⟨lb2,4,none⟩=some (.slice qc.a c.1.length qc.c));have u21:=held (hc2 1 _ rfl:wr.cell? ⟨lb2,5,none⟩=some (.slice qc.b c.2.length qc.d));have b2:2<args.length:=by have:=qai H2;omega
   have bi2:(2:Int)<(args.length:Int):=oo
   have hVc:=(hR8.out.all _ M2)
   replace hVc:=Hd hVc;clear hc2;obtain rfl:lb0=lb1:=by rw [hla0] at hla1;injection hla1 with e;injection e
   obtain rfl:lb0=lb2:=by rw [hla0] at hla2;injection hla2 with e;injection e
   subst hla0;clear hla1 hla2;have hlb:g4+1<=lb0:=(hO2.out.lt rfl).1;obtain ⟨L,hL⟩:∃ L:List (Addr × Value),L=[(⟨g0,0,none⟩,.slice ra hs.length rc),(⟨g0,1,none⟩,.slice va x.vars.length vc),(⟨lb0,0,none⟩,.slice qa.a a.1.length qa.c),(⟨lb0,1,none⟩,.slice qa.b a.2.length qa.d),(⟨lb0,2,none⟩,.slice qb.a b.1.length qb.c),(⟨lb0,3,none⟩,.slice qb.b b.2.length qb.d),(⟨lb0,4,none⟩,.slice qc.a c.1.length qc.c),(⟨lb0,5,none⟩,.slice qc.b c.2.length qc.d)]:=⟨_,rfl⟩
   have v0:∀ W,Cs L W->W.cell? ⟨g0,0,none⟩=some (.slice ra hs.length rc):=fun W h=>h _ _ (by rw [hL];simp)
   have v1:∀ W,Cs L W->W.cell? ⟨g0,1,none⟩=some (.slice va x.vars.length vc):=fun W h=>h _ _ (by rw [hL];simp)
   have v2:∀ W,Cs L W->W.cell? ⟨lb0,0,none⟩=some (.slice qa.a a.1.length qa.c):=fun W h=>h _ _ (by rw [hL];simp)
   have v3:∀ W,Cs L W->W.cell? ⟨lb0,1,none⟩=some (.slice qa.b a.2.length qa.d):=fun W h=>h _ _ (by rw [hL];simp)
   have v4:∀ W,Cs L W->W.cell? ⟨lb0,2,none⟩=some (.slice qb.a b.1.length qb.c):=fun W h=>h _ _ (by rw [hL];simp)
   have v5:∀ W,Cs L W->W.cell? ⟨lb0,3,none⟩=some (.slice qb.b b.2.length qb.d):=fun W h=>h _ _ (by rw [hL];simp)
   have v6:∀ W,Cs L W->W.cell? ⟨lb0,4,none⟩=some (.slice qc.a c.1.length qc.c):=fun W h=>h _ _ (by rw [hL];simp)
   have v7:∀ W,Cs L W->W.cell? ⟨lb0,5,none⟩=some (.slice qc.b c.2.length qc.d):=fun W h=>h _ _ (by rw [hL];simp)
   have hne:∀ p v,(p,v)∈L->p.block≠g2:=by
    rw [hL];intro p v hm;simp only [List.mem_cons,List.not_mem_nil,or_false,Prod.mk.injEq] at hm;rcases hm with ⟨rfl,_⟩ | ⟨rfl,_⟩ | ⟨rfl,_⟩ | ⟨rfl,_⟩ | ⟨rfl,_⟩ | ⟨rfl,_⟩ | ⟨rfl,_⟩ | ⟨rfl,_⟩ <;> (dsimp only;omega)
   have sC:Cs L wr.drew:=by
    rw [hL];intro p v hm;simp only [List.mem_cons,List.not_mem_nil,or_false,Prod.mk.injEq] at hm;rcases hm with ⟨rfl,rfl⟩ | ⟨rfl,rfl⟩ | ⟨rfl,rfl⟩ | ⟨rfl,rfl⟩ | ⟨rfl,rfl⟩ | ⟨rfl,rfl⟩ | ⟨rfl,rfl⟩ | ⟨rfl,rfl⟩
    · exact y0 wr brf
    · exact y1 wr brf
    · exact u00 wr brf
    · exact u01 wr brf
    · exact u10 wr brf
    · exact u11 wr brf
    · exact u20 wr brf
    · exact u21 wr brf
   replace hne:=Hd hne;replace hL:=Hd hL;clear H0 H1 H2 M0 M1 M2 y0 y1 u00 u01 u10 u11 u20 u21;rcases k34.out with rfl | rfl
   ·
    replace hPe:Hid (V=(addP a.1 (subP c.1 b.1),addP a.2 (subP c.2 b.2))):=by have e:=hPe.out;rw [if_pos rfl] at e;exact e
    have C1:=qjf (Yr (Zk Z w.heap.size 5) ra va) a.1 c.1 b.1 qa.a qc.a qb.a qa.c qc.c qb.c wr.drew (fun b hb=>ltl (hY8 b hb) s0.size) (hVa.out.call s0).1 (hVc.out.call s0).1 (hVb.out.call s0).1 FF.out.1.1 FF.out.2.2.1.1 FF.out.2.1.1 FF.out.2.2.2.1.1;have C2:=fun wA (sA:Below wr.heap.size wr wA)=>qjf (Yr (Zk Z w.heap.size 5) ra va) a.2 c.2 b.2 qa.b qc.b qb.b qa.d qc.d qb.d wA (fun b hb=>ltl (hY8 b hb) sA.size) (hVa.out.call sA).2 (hVc.out.call sA).2 (hVb.out.call sA).2 FF.out.1.2 FF.out.2.2.1.2 FF.out.2.1.2 FF.out.2.2.2.1.2
    have eV1:addP a.1 (subP c.1 b.1)=V.1:=by rw [hPe.out]
    have eV2:addP a.2 (subP c.2 b.2)=V.2:=by rw [hPe.out]
    exact zz58
   ·
    replace hPe:Hid (V=(addP a.1 (subP b.2 c.2),addP a.2 (subP c.1 b.1))):=by have e:=hPe.out;rw [if_neg dd] at e;exact e
    have C1:=qjf (Yr (Zk Z w.heap.size 5) ra va) a.1 b.2 c.2 qa.a qb.b qc.b qa.c qb.d qc.d wr.drew (fun b hb=>ltl (hY8 b hb) s0.size) (hVa.out.call s0).1 (hVb.out.call s0).2 (hVc.out.call s0).2 FF.out.1.1 FF.out.2.1.2 FF.out.2.2.1.2 FF.out.2.2.2.2.1;have C2:=fun wA (sA:Below wr.heap.size wr wA)=>qjf (Yr (Zk Z w.heap.size 5) ra va) a.2 c.1 b.1 qa.b qc.a qb.a qa.d qc.c qb.c wA (fun b hb=>ltl (hY8 b hb) sA.size) (hVa.out.call sA).2 (hVc.out.call sA).1 (hVb.out.call sA).1 FF.out.1.2 FF.out.2.2.1.1 FF.out.2.1.1 FF.out.2.2.2.2.2
    have eV1:addP a.1 (subP b.2 c.2)=V.1:=by rw [hPe.out]
    have eV2:addP a.2 (subP c.1 b.1)=V.2:=by rw [hPe.out]
    exact zz58
theorem qs8 (Z:Nat->Prop) (B:Nat) (x:Frm) (hs:List (VQ × Vec)) (ra va:Option Addr) (rc vc:Nat) (pt:ByteArray) (aa na da ga:Option Addr) (ac nc dc sn sb so sc gl gc i rn rd:Nat) (neg:Bool) (args:List Int) (w:World) (hR:Rst Z w B x hs ra rc va vc) (hl:x.vars.length<=800) (hlh:hs.length<=1000) (hZ:∀ b,Z b->b<w.heap.size) (hBw:B<=w.heap.size) (hi:i<sn) (hsn:sn<=sc/\sc<=maxLen) (a b:Vec) (qa qb:VQ) (H0:(pickH hs args)[0]? = some (qa,a)) (M0:(qa,a)∈hs) (H1:(pickH hs args)[1]? = some (qb,b)) (M1:(qb,b)∈hs) (fa:FineV a) (fb:FineV b) (fd:FineV (subP b.1 a.1,subP b.2 a.2)) (f1:∀ k,FineP (mulP (varP x.vars.length) ((subP b.1 a.1).take k))) (f2:∀ t∈subP b.1 a.1,FineP (qaq (varP x.vars.length) t)) (f3:∀ k,FineP (mulP (varP x.vars.length) ((subP b.2 a.2).take k))) (f4:∀ t∈subP b.2 a.2,FineP (qaq (varP x.vars.length) t)) (c0:w.cell? ⟨sb,so+i*6,none⟩=some (.int .i64 5)) (c1:w.cell? ⟨sb,so+i*6+1,none⟩=some (.string pt)) (c2:w.cell? ⟨sb,so+i*6+2,none⟩=some (.slice aa args.length ac)) (c3:w.cell? ⟨sb,so+i*6+3,none⟩=some (.bool neg)) (c4:w.cell? ⟨sb,so+i*6+4,none⟩=some (.slice na rn nc)) (c5:w.cell? ⟨sb,so+i*6+5,none⟩=some (.slice da rd dc)) (hI:IntsR w aa ac args) (hal:args.length<=1000) (har:∀ a∈args,0<=a/\a<hs.length)  : Calls Tryz.prog 59 #[.agg #[.slice ra hs.length rc,.slice va x.vars.length vc],.agg #[.slice (some ⟨sb,so,none⟩) sn sc,.slice ga gl gc],.int .i64 i,.int .i64 x.free] w (qdv Z B x (x.vars++[(1,(i:Int),0)],(addP a.1 (mulP (varP x.vars.length) (subP b.1 a.1)),addP a.2 (mulP (varP x.vars.length) (subP b.2 a.2)))) hs ra rc va w):=by
 obtain ⟨PP9,hPe⟩:∃ PP9:List Vr × Vec,PP9=(x.vars++[(1,(i:Int),0)],(addP a.1 (mulP (varP x.vars.length) (subP b.1 a.1)),addP a.2 (mulP (varP x.vars.length) (subP b.2 a.2)))):=⟨_,rfl⟩
 rw [<- hPe];replace hPe:=Hd hPe;have FF:=Hd (And.intro fa (And.intro fb (And.intro fd (And.intro f1 (And.intro f2 (And.intro f3 f4))))));replace H0:=Hd H0;replace H1:=Hd H1;replace M0:=Hd M0;replace M1:=Hd M1;clear fa fb fd f1 f2 f3 f4;have HR:=Hd hR;have HZ:=Hd hZ;have HI:=Hd hI;have HA:=Hd har;have HL:=Hd hlh;have hn0:∀ g,w.heap.size<=g->¬ Yv ra va g:=fun g hg h=>by have:=hR.lt _ h;omega
 replace hn0:=Hd hn0;have hsb:sb<w.heap.size:=World.block_lt_of_cell? w _ c0;have hsb1:sb<w.heap.size+1:=oo
 have hsb2:sb<w.heap.size+1+1:=oo
 have hsb3:sb<w.heap.size+1+1+1:=oo
 have hsb4:sb<w.heap.size+1+1+1+1:=oo
 clear hR hZ hI har hlh;obtain ⟨sm1,sm2⟩:=hsn;go_enter Tryz.func59,Tryz.ntmps59;go_wp2
 refine qaa (fun W=>Blk W w.heap.size 37 #[.slice ra hs.length rc,.slice va x.vars.length vc]/\Blk W (w.heap.size+1) 25 #[.slice (some ⟨sb,so,none⟩) sn sc,.slice ga gl gc]/\Blk W (w.heap.size+1+1) 37 #[.slice none 0 0,.slice none 0 0]/\Blk W (w.heap.size+1+1+1) 120 #[.slice none 0 0,.slice none 0 0]/\Blk W (w.heap.size+1+1+1+1) 93 #[.int .i64 5,.string pt,.slice aa args.length ac,.bool neg,.slice na rn nc,.slice da rd dc]/\Below w.heap.size w W) ⟨bk,bk,bk,bk,bk,zg⟩ ?_
 clear c0 c1 c2 c3 c4 c5 hsb hsb1 hsb2 hsb3 hsb4;rintro w1 ⟨h0,h1,h2,h3,h4,hw1⟩;obtain ⟨g1,hg1⟩:∃ g,g=w.heap.size+1:=⟨_,rfl⟩
 obtain ⟨g2,hg2⟩:∃ g,g=w.heap.size+1+1:=⟨_,rfl⟩
 obtain ⟨g3,hg3⟩:∃ g,g=w.heap.size+1+1+1:=⟨_,rfl⟩
 obtain ⟨g4,hg4⟩:∃ g,g=w.heap.size+1+1+1+1:=⟨_,rfl⟩
 obtain ⟨g0,hg0⟩:∃ g,g=w.heap.size:=⟨_,rfl⟩
 rw [<- hg4] at h4 ⊢;rw [<- hg3] at h3 ⊢;rw [<- hg2] at h2 ⊢;rw [<- hg1] at h1 ⊢;rw [<- hg0] at h0 ⊢;have hl4:=h4.lt;have o1:g0<g1:=oo
 have o2:g1<g2:=oo
 have o3:g2<g3:=oo
 have o4:g3<g4:=oo
 have ow:w.heap.size<=g0:=oo
 have o5:g4<w.heap.size+5:=oo
 replace hg0:=Hd hg0;replace hg1:=Hd hg1;replace hg2:=Hd hg2;replace hg3:=Hd hg3;replace hg4:=Hd hg4;have k40:=h4.cell 0;have k42:=h4.cell 2;clear hl4;go_wp2
 go_loopg [11,13,26] args.length (fun m l _ idx wr=>∃ (k:Nat) (la:Option Addr) (lc:Nat),Hid (k+m=args.length)/\l=.slice la k lc/\idx=.int .i64 k/\Hid (OwnCo (g4+1) wr la lc ((pickH hs args).take k))/\Below w.heap.size w wr/\Blk wr g0 37 #[.slice ra hs.length rc,.slice va x.vars.length vc]/\Blk wr g1 25 #[.slice (some ⟨sb,so,none⟩) sn sc,.slice ga gl gc]/\Blk wr g2 37 #[.slice none 0 0,.slice none 0 0]/\Blk wr g3 120 #[.slice none 0 0,.slice none 0 0]/\Blk wr g4 93 #[.int .i64 5,.string pt,.slice aa args.length ac,.bool neg,.slice na rn nc,.slice da rd dc])
 case atStart=>exact ⟨0,none,0,by show _=_;omega,rfl,rfl,by rw [List.take_zero];exact Own.nil,hw1,h0,h1,h2,h3,h4⟩
 case round =>
  clear h0 h1 h2 h3 h4 hw1 k40 k42;obtain ⟨k,la,lc,hm,rfl,rfl,hO,hwr,h0,h1,h2,h3,h4⟩:=hrel;by_cases hlt:k<args.length
  ·
   obtain ⟨a,ha⟩:=qab hlt;obtain ⟨ab,ao,rfl,hae,_⟩:=(HI.out.ext (xbw hwr)).2.2 k a ha;obtain ⟨a1,a2⟩:=HA.out a (List.mem_of_getElem? ha);obtain ⟨z,hz⟩:=qab (show a.toNat<hs.length by omega);obtain ⟨rb,rfl,_,_,hzc⟩:=(HR.out.call hwr).co.at_ qbr hz;have hcz0:=hzc 0 _ rfl;have hcz1:=hzc 1 _ rfl;have hk':=qfr ha hz;obtain ⟨j,rfl⟩:∃ j:Nat,a=(j:Int):=⟨a.toNat,oo⟩
   rw [Int.toNat_natCast] at hcz0 hcz1 hz;rw [Nat.mul_one] at hae;rw [Nat.add_zero] at hcz0;have hjl:j<hs.length:=qai hz;have hlh:=HL.out;have hlen2:((pickH hs args).take k).length=k:=by rw [List.length_take,qbo];omega
   have z0:=h0.cell 0;have hzl:=h0.lt;have y4:=h4.lt;have hab:ab<wr.heap.size:=World.block_lt_of_cell? wr _ hae;have hrb:rb<wr.heap.size:=World.block_lt_of_cell? wr _ hcz0;replace hk':=Hd hk';replace hz:=Hd hz;replace hlen2:=Hd hlen2;replace ha:=Hd ha;replace hO:=Hd hO.out;have h0h:=Hd h0;have h1h:=Hd h1;have h2h:=Hd h2;have h3h:=Hd h3;have h4h:=Hd h4;clear hzc h0 h1 h2 h3 h4 a1 a2
   go_wp2_with (at_builtin;go_must (refine qaa (fun W=>Blk W wr.heap.size 120 #[.slice z.1.a z.2.1.length z.1.c,.slice z.1.b z.2.2.length z.1.d]/\Below wr.heap.size wr W) ⟨bk,zg⟩ ?_);rintro w2 ⟨hr2,hw2⟩;go_must (refine qay (B:=g4+1) rfl (.tmp 30) (.tmp 36) 34 rfl Tryz.underlying34 qhg rfl oo oo qbr la lc (by rw [hlen2.out];rfl) (hO.out.below hw2) z (qf8 _) wr.heap.size 1 rfl (fun j u hu=>by have e:=hr2.cell j;rw [e];simpa [coC] using hu) ((pickH hs args).take k++[z]) rfl (by rw [List.length_append,hlen2.out];simp;omega) (by have:=hw2.size;omega) ?_);intro la2 lc2 w3 ho3 hg3' ha3);have hwr2:=bth hwr hw2;have hlt2:=hw2.size;have hO2:=hO.out.below hw2
   have q0:=(h0h.out.below' hw2).under hO2 oo hg3';have q1:=(h1h.out.below' hw2).under hO2 oo hg3';have q2:=(h2h.out.below' hw2).under hO2 oo hg3';have q3:=(h3h.out.below' hw2).under hO2 oo hg3';have q4:=(h4h.out.below' hw2).under hO2 oo hg3';have hb3:=qal hwr2 (hO2.base (show w.heap.size<=g4+1 by omega)) hg3';rw [<- qbb hk'.out] at ho3;have hmin:min k (pickH hs args).length+1=k+1:=by rw [qbo];omega
   go_roundg (gk-1)
   case rel=>exact ⟨k+1,la2,lc2,by have:=hm.out;show _=_;omega,by rw [hmin],by go_num,ho3,hb3,q0,q1,q2,q3,q4⟩
   case measure=>have:=hm.out;omega
  ·
   have hk:k=args.length:=by have:=hm.out;omega
   have hO2:=hO.out;rw [List.take_of_length_le (by rw [qbo];omega)] at hO2;subst hk;replace hO2:=Hd hO2;have hR8:Rst (Zk Z w.heap.size 5) wr B x hs ra rc va vc:=(HR.out.more (qed (nlr _))).call hwr;have hZ8:∀ b,Zk Z w.heap.size 5 b->b<wr.heap.size:=zk_lt HZ.out hwr.size (by have:=h4.lt;have:=hg4.out;omega);have hB8:B<=wr.heap.size:=by have:=hwr.size;omega
   obtain ⟨x0,x1⟩:=cq2 h0;have k40:=h4.cell 0;have l0:=h0.lt;have l4:=h4.lt;have n2:¬ Yv ra va g2:=hn0.out g2 oo;have n3:¬ Yv ra va g3:=hn0.out g3 oo;have e2:Zk Z w.heap.size 5 g2:=.inr oo;have e3:Zk Z w.heap.size 5 g3:=.inr oo;have w2:w.heap.size<=g2:=oo
   have w3:w.heap.size<=g3:=oo
   have d23:g2≠g3:=oo
   have d32:g3≠g2:=oo
   have h2h:=Hd h2;have h3h:=Hd h3;have h0h:=Hd h0;have h4h:=Hd h4;replace hR8:=Hd hR8;replace hZ8:=Hd hZ8;replace n2:=Hd n2;replace n3:=Hd n3;replace e2:=Hd e2;replace e3:=Hd e3;clear h0 h1 h2 h3 h4 hm hO;go_wp2_with fail;refine (qdj (Zk Z w.heap.size 5) B x hs ra va rc vc 1 i 0 wr hR8.out oo hZ8.out hB8).mono ?_;rintro e wA ⟨va9,vcA,aA,cA,rfl,hRA,hPA,hfA,hvA⟩;replace H0:=H0.out;replace H1:=H1.out;replace M0:=M0.out;replace M1:=M1.out;have hOA:OwnCo (g4+1) wA la lc (pickH hs args):=qaa9 hO2.out hfA fun g hg hy=>by
    have e1:=(hO2.out.lt hg).1;exact hn0.out g.block oo hy
   have eN:x.vars.length+1=PP9.1.length:=by rw [hPe.out];simp
   have eM:x.vars++[((1:Int),(i:Int),(0:Int))]=PP9.1:=by rw [hPe.out]
   have eV:(addP a.1 (mulP (varP x.vars.length) (subP b.1 a.1)),addP a.2 (mulP (varP x.vars.length) (subP b.2 a.2)))=PP9.2:=by rw [hPe.out]
   rw [eN];replace hOA:=Hd hOA;replace hRA:=Hd hRA;replace hPA:=Hd hPA;replace hfA:=Hd hfA;replace hvA:=Hd hvA;replace eN:=Hd eN;replace eM:=Hd eM;replace eV:=Hd eV;clear x0 x1 k40 l0 l4;go_wp2;refine qaa (fun W=>Blk W wA.heap.size 37 #[.slice ra hs.length rc,.slice va9 PP9.1.length vcA]/\Below wA.heap.size wA W) ⟨bk,zg⟩ ?_;rintro wB ⟨hG,hbB⟩;obtain ⟨gA,hgA⟩:∃ g,g=wA.heap.size:=⟨_,rfl⟩
   rw [<- hgA] at hG ⊢;replace hgA:=Hd hgA;have y0:=held (hG.cell 0);have y1:=held (hG.cell 1);have hOB:=hOA.out.below hbB;have hRB:=hRA.out.call hbB;have hY8:∀ b,Yr (Zk Z w.heap.size 5) ra va9 b->b<wB.heap.size:=fun b hb=>hb.elim (hRB.lt b) fun h=>ltl (hZ8.out b h) (Nat.le_trans hfA.out.size hbB.size)
   have s0:Below wB.heap.size wB wB.drew:=brf.drew;have hql:=qbo hs args;obtain ⟨lb0,hla0,_,_,hc0⟩:=hOB.at_ qbr H0;have u00:=held (by simpa using hc0 0 _ rfl:wB.cell? ⟨lb0,0,none⟩=some (.slice qa.a a.1.length qa.c));have u01:=held (hc0 1 _ rfl:wB.cell? ⟨lb0,1,none⟩=some (.slice qa.b a.2.length qa.d));have b0:0<args.length:=by have:=qai H0;omega
   have bi0:(0:Int)<(args.length:Int):=oo
   have hVa:=(hRB.all _ M0)
   replace hVa:=Hd hVa;clear hc0;obtain ⟨lb1,hla1,_,_,hc1⟩:=hOB.at_ qbr H1;have u10:=held (by simpa using hc1 0 _ rfl:wB.cell? ⟨lb1,2,none⟩=some (.slice qb.a b.1.length qb.c));have u11:=held (hc1 1 _ rfl:wB.cell? ⟨lb1,3,none⟩=some (.slice qb.b b.2.length qb.d));have b1:1<args.length:=by have:=qai H1;omega
   have bi1:(1:Int)<(args.length:Int):=oo
   have hVb:=(hRB.all _ M1)
   replace hVb:=Hd hVb;clear hc1;obtain rfl:lb0=lb1:=by rw [hla0] at hla1;injection hla1 with e;injection e
   subst hla0;clear hla1 hG;have CA:=fun W (hW:Below wB.heap.size wB W)=>qop (Yr (Zk Z w.heap.size 5) ra va9) a b (varP x.vars.length) qa qb aA cA W (fun b hb=>ltl (hY8 b hb) hW.size) (hVa.out.call hW) (hVb.out.call hW) ((hPA.out.call hbB).call hW) FF.out.1 FF.out.2.1 (qo6 _) FF.out.2.2.1 FF.out.2.2.2.1 FF.out.2.2.2.2.1 FF.out.2.2.2.2.2.1 FF.out.2.2.2.2.2.2
   simp only [eV.out] at CA;replace CA:=Hd CA;replace hRB:=Hd hRB;replace hbB:=Hd hbB;clear H0 H1 M0 M1 hOB hY8;refine wrx (S:=Below wB.heap.size wB) [(0,.q),(1,.q),(2,.q),(3,.q),(4,.q),(5,.q),(6,.q),(7,.q),(8,.l),(9,.t),(10,.t)] (s0) ?_
   iterate 8 (refine qaf rfl rfl fun K hK=>xq ?_;go_simp;refine hK _ _ ?_;clear hK K)
   refine vl fun K hK=>?_
   go_simp;refine (CA.out wB.drew s0).mono ?_;rintro r w9 ⟨t,rfl,hV9,hb9⟩;dsimp only;refine hK.out _ _ (bth s0 hb9) (fun _=>?_);clear hK K;have s9:=bth s0 hb9;obtain ⟨vc9,hvc9⟩:∃ v,v=vcA:=⟨_,rfl⟩
   have hR9:Rst (Zk Z w.heap.size 5) w9 B ⟨PP9.1,x.coords,x.free⟩ hs ra rc va9 vc9:=by rw [hvc9,<- eM.out];exact hRB.out.call s9
   have hf9:Fr (Yv ra va) wr w9:=(hfA.out.call hbB.out).call s9;have hv9:∀ g,va9=some g->va=some g\/wr.heap.size<=g.block:=hvA.out;rw [<- hvc9];replace hvc9:=Hd hvc9;clear hb9 CA y0 y1 u00 u01 u10 u11;have h29:=h2h.out.fr hf9 n2.out;have h39:=h3h.out.fr hf9 n3.out;have m2:¬ Yv ra va9 g2:=qce n2.out hv9 (by have:=h2h.out.lt;omega);have m3:¬ Yv ra va9 g3:=qce n3.out hv9 (by have:=h3h.out.lt;omega);obtain ⟨k20,k21⟩:=cq2 h29;obtain ⟨f20,f21⟩:=fq2 h29;have l2:=h29.lt;obtain ⟨k30,k31⟩:=cq2 h39;obtain ⟨f30,f31⟩:=fq2 h39;have l3:=h39.lt;have hfr:Fr (Yv ra va) w w9:=(Fr.below hwr).trans hf9;have hvv:∀ g,va9=some g->va=some g\/w.heap.size<=g.block:=fun g hg=>by
    have:=hwr.size;rcases hv9 g hg with e | e
    · exact .inl e
    · exact .inr oo
   have h29h:=Hd h29;have h39h:=Hd h39;replace hR9:=Hd hR9;replace hV9:=Hd hV9;replace hfr:=Hd hfr;replace hvv:=Hd hvv;replace m2:=Hd m2;replace m3:=Hd m3;clear h29 h39 hf9 hv9;refine vt fun K hK=>?_
   go_simp;refine hK.out _ _ ?_;clear hK K;refine vt fun K hK=>?_
   go_simp;refine hK.out _ _ ?_;clear hK K;refine qad ?_;go_wp2;clear k20 k21 f20 f21 l2 k30 k31 f30 f31 l3;refine qaa (fun W=>Blk W g2 37 #[.slice ra hs.length rc,.slice va9 PP9.1.length vc9]/\Blk W g3 120 #[.slice t.a PP9.2.1.length t.c,.slice t.b PP9.2.2.length t.d]/\Rst Z W B ⟨PP9.1,x.coords,x.free⟩ hs ra rc va9 vc9/\VecX (Yr Z ra va9) W t PP9.2/\Fr (Yv ra va) w W) ⟨?_,?_,?_,?_,?_⟩ ?_
   ·
    have a:=h29h.out
    exact bk
   ·
    have a:=h39h.out
    exact bk
   ·
    first
    | exact ((((hR9.out.set_ e2.out m2.out).set_ e2.out m2.out).set_ e3.out m3.out).set_ e3.out m3.out).less fun b hb=>.inl hb
    | exact (((((hR9.out.set_ e2.out m2.out).set_ e2.out m2.out).set_ e3.out m3.out).set_ e3.out m3.out).less fun b hb=>.inl hb).call (brf.drew)
   ·
    refine VecX.less (Y:=Yr (Zk Z w.heap.size 5) ra va9) ?_ fun b hb=>hb.imp id .inl
    exact (((hV9.out.step (Agr.setc (.inr e2.out) (Agr.refl _ _))).step (Agr.setc (.inr e2.out) (Agr.refl _ _))).step (Agr.setc (.inr e3.out) (Agr.refl _ _))).step (Agr.setc (.inr e3.out) (Agr.refl _ _))
   ·
    first
    | exact (((hfr.out.setc (.inr w2)).setc (.inr w2)).setc (.inr w3)).setc (.inr w3)
    | exact ((((hfr.out.setc (.inr w2)).setc (.inr w2)).setc (.inr w3)).setc (.inr w3)).call (brf.drew)
   rintro wZ ⟨hF1,hF2,hRZ,hVZ,hfZ⟩;obtain ⟨j0,j1⟩:=cq2 hF1;obtain ⟨j2,j3⟩:=cq2 hF2;refine bodyPost_ret (v:=.tuple #[.agg #[.slice ra hs.length rc,.slice va9 PP9.1.length vc9],.agg #[.slice t.a PP9.2.1.length t.c,.slice t.b PP9.2.2.length t.d]]) (by simp [results,Tryz.results59,go_sem,j0,j1,j2,j3]) rfl ?_;exact ⟨va9,vc9,t,rfl,hRZ,hVZ,hfZ,hvv.out⟩
theorem que (Z:Nat->Prop) (B:Nat) (x:Frm) (hs:List (VQ × Vec)) (ra va:Option Addr) (rc vc:Nat) (pt:ByteArray) (aa na da ga:Option Addr) (ac nc dc sn sb so sc gl gc i rn rd:Nat) (neg:Bool) (args:List Int) (w:World) (hR:Rst Z w B x hs ra rc va vc) (hZ:∀ b,Z b->b<w.heap.size) (hBw:B<=w.heap.size) (hi:i<sn) (hsn:sn<=sc/\sc<=maxLen)
  (D M:Nat) (hok:FrmOk i D M x) (hi1:i<=100) (kind:Int) (k1:1<=kind) (q:Rat) (hn:needK kind<=args.length)
  (c0:w.cell? ⟨sb,so+i*6,none⟩=some (.int .i64 kind)) (c1:w.cell? ⟨sb,so+i*6+1,none⟩=some (.string pt)) (c2:w.cell? ⟨sb,so+i*6+2,none⟩=some (.slice aa args.length ac)) (c3:w.cell? ⟨sb,so+i*6+3,none⟩=some (.bool neg)) (c4:w.cell? ⟨sb,so+i*6+4,none⟩=some (.slice na rn nc)) (c5:w.cell? ⟨sb,so+i*6+5,none⟩=some (.slice da rd dc)) (hI:IntsR w aa ac args) (hal:args.length<=1000) (har:∀ a∈args,0<=a/\a<i)
  (hx:kind=2->Rd (Yr Z ra va) w fun V=>QAc V ⟨neg,rn,na,nc,rd,da,dc⟩ q) (hq:kind=2->q.num.natAbs<=2 ^ 32/\q.den<=2 ^ 32) :
  Calls Tryz.prog 59 #[.agg #[.slice ra hs.length rc,.slice va x.vars.length vc],.agg #[.slice (some ⟨sb,so,none⟩) sn sc,.slice ga gl gc],.int .i64 i,.int .i64 x.free] w (qdv Z B x (nextF x kind args q i) hs ra rc va w):=by
 have hvl:x.vars.length<=64:=hok.2.2.2.2.2.1;have hcl:x.coords.length=i:=hok.1;have hlh:hs.length<=1000:=by
  have:=congrArg List.length hR.eq;simp at this
  omega
 have hhl:hs.length=i:=by
  have:=congrArg List.length hR.eq;simp at this
  omega
 have har':∀ a∈args,0<=a/\a<hs.length:=fun a ha=>by have:=har a ha;omega
 have HH:=fun k hk=>qxi (k:=k) hR.eq hk (fun x hx=>by have:=har x hx;omega)
 have A:=fun k=>qga hok args k
 have Fi:=fun k=>hok.fine hi1 args k
 have V:=fun j k=>(⟨(hok.diff hi1 (A k).1 (A j).1).1,(hok.diff hi1 (A k).2 (A j).2).1⟩:FineV (subP (argF x.coords args k).1 (argF x.coords args j).1,subP (argF x.coords args k).2 (argF x.coords args j).2))
 have K1:=(hok.diff hi1 (A 1).1 (A 0).1).2;have K2:=(hok.diff hi1 (A 1).2 (A 0).2).2;have hi0:(0:Int)<=(i:Int):=oo
 have hk:kind=1\/kind=2\/kind=3\/kind=4\/kind=5\/kind=6\/7<=kind:=oo
 rcases hk with rfl | rfl | rfl | rfl | rfl | rfl | k7
 ·
  have:=qia Z B x hs ra va rc vc pt aa na da ga ac nc dc sn sb so sc gl gc i rn rd neg args w hR oo hlh hZ hBw hi hsn 1 (.inl rfl) c0 c1 c2 c3 c4 c5 hI hal har';simpa only [nextF,qc0,if_true] using this
 ·
  obtain ⟨q1,q2⟩:=hq rfl;have hqs:qsz q<=1000:=qgl (Nat.le_trans (qam (k:=3) (Nat.lt_of_le_of_lt q1 dd)) oo) (Nat.le_trans (qam (k:=3) (Nat.lt_of_le_of_lt q2 dd)) oo);obtain ⟨q0,H0,M0⟩:=HH 0 (by simp [needK] at hn;omega);obtain ⟨q1',H1,M1⟩:=HH 1 (by simp [needK] at hn;omega);have F1:=qlf K1 hi0 (hok.scaled hi1 (A 1).1 (A 0).1 ⟨q1,q2⟩);have F2:=qlf K2 hi0 (hok.scaled hi1 (A 1).2 (A 0).2 ⟨q1,q2⟩);have:=qsr Z B x hs ra va rc vc pt aa na da ga ac nc dc sn sb so sc gl gc i rn rd neg args w hR oo hlh hZ hBw hi hsn q _ _ q0 q1' H0 M0 H1 M1 (hx rfl) hqs (Fi 0) (Fi 1) (V 0 1) F1.1 F1.2 F2.1 F2.2 c0 c1 c2 c3 c4 c5 hI hal har';rw [qk6 K1 hi0,qk6 K2 hi0] at this;simpa [nextF,qe2] using this
 ·
  obtain ⟨q0,H0,M0⟩:=HH 0 (by simp [needK] at hn;omega);obtain ⟨q1,H1,M1⟩:=HH 1 (by simp [needK] at hn;omega);obtain ⟨q2,H2,M2⟩:=HH 2 (by simp [needK] at hn;omega);have:=qjs Z B x hs ra va rc vc pt aa na da ga ac nc dc sn sb so sc gl gc i rn rd neg args w hR oo hlh hZ hBw hi hsn 3 (.inl rfl) _ _ _ q0 q1 q2 H0 M0 H1 M1 H2 M2 (Fi 0) (Fi 1) (Fi 2) (V 1 2) ⟨(V 2 1).2,(V 1 2).1⟩ c0 c1 c2 c3 c4 c5 hI hal har';simpa [nextF] using this
 ·
  obtain ⟨q0,H0,M0⟩:=HH 0 (by simp [needK] at hn;omega);obtain ⟨q1,H1,M1⟩:=HH 1 (by simp [needK] at hn;omega);obtain ⟨q2,H2,M2⟩:=HH 2 (by simp [needK] at hn;omega);have:=qjs Z B x hs ra va rc vc pt aa na da ga ac nc dc sn sb so sc gl gc i rn rd neg args w hR oo hlh hZ hBw hi hsn 4 (.inr rfl) _ _ _ q0 q1 q2 H0 M0 H1 M1 H2 M2 (Fi 0) (Fi 1) (Fi 2) (V 1 2) ⟨(V 2 1).2,(V 1 2).1⟩ c0 c1 c2 c3 c4 c5 hI hal har';simpa [nextF] using this
 ·
  obtain ⟨q0,H0,M0⟩:=HH 0 (by simp [needK] at hn;omega);obtain ⟨q1,H1,M1⟩:=HH 1 (by simp [needK] at hn;omega);have F1:=qmm K1 hi0 (hok.turned hi1 (A 1).1 (A 0).1 x.vars.length);have F2:=qmm K2 hi0 (hok.turned hi1 (A 1).2 (A 0).2 x.vars.length);have:=qs8 Z B x hs ra va rc vc pt aa na da ga ac nc dc sn sb so sc gl gc i rn rd neg args w hR oo hlh hZ hBw hi hsn _ _ q0 q1 H0 M0 H1 M1 (Fi 0) (Fi 1) (V 0 1) F1.1 F1.2 F2.1 F2.2 c0 c1 c2 c3 c4 c5 hI hal har';rw [qer (qel (B:=1) (Int.le_refl _)) K1 dd hi0,qer (qel (B:=1) (Int.le_refl _)) K2 dd hi0] at this;simpa [nextF,qe2] using this
 ·
  have:=qia Z B x hs ra va rc vc pt aa na da ga ac nc dc sn sb so sc gl gc i rn rd neg args w hR oo hlh hZ hBw hi hsn 6 (.inr (.inl rfl)) c0 c1 c2 c3 c4 c5 hI hal har';simpa [nextF] using this
 ·
  have:=qia Z B x hs ra va rc vc pt aa na da ga ac nc dc sn sb so sc gl gc i rn rd neg args w hR oo hlh hZ hBw hi hsn kind (.inr (.inr k7)) c0 c1 c2 c3 c4 c5 hI hal har';have e1:¬ kind=1:=oo
  have e2:¬ kind=2:=oo
  have e3:¬ kind=3:=oo
  have e4:¬ kind=4:=oo
  have e5:¬ kind=5:=oo
  have e6:¬ kind=6:=oo
  unfold nextF;rw [if_neg e1,if_neg e2,if_neg e3,if_neg e4,if_neg e5,if_neg e6];rw [if_neg e1,if_neg e6] at this;exact this
theorem qtj (k:Int) (w:World):Calls Tryz.prog 154 #[.int .i64 k] w fun e w'=>e=.returned (.int .i64 (qba k))/\w=w':=by
 by_cases hk:1<=k/\k<=9
 ·
  have hc:k=1\/k=2\/k=3\/k=4\/k=5\/k=6\/k=7\/k=8\/k=9:=oo
  clear hk;rcases hc with rfl | rfl | rfl | rfl | rfl | rfl | rfl | rfl | rfl
  all_goals
   go_enter Tryz.func154,Tryz.ntmps154;go_wp2;go_ret;exact ⟨qcq dd,rfl⟩
 ·
  have h1:=qan (a:=k) (b:=1) oo;have h2:=qan (a:=k) (b:=2) oo;have h3:=qan (a:=k) (b:=3) oo;have h4:=qan (a:=k) (b:=4) oo;have h5:=qan (a:=k) (b:=5) oo;have h6:=qan (a:=k) (b:=6) oo;have h7:=qan (a:=k) (b:=7) oo;have h8:=qan (a:=k) (b:=8) oo;have h9:=qan (a:=k) (b:=9) oo;have hr:qba k=0:=by unfold qba;rw [if_neg oo,if_neg oo,if_neg oo,if_neg oo]
  rw [hr];clear hr hk;go_enter Tryz.func154,Tryz.ntmps154;go_wp2;go_ret;exact ⟨rfl,rfl⟩
theorem qte (k:Int) (w:World):Calls Tryz.prog 146 #[.int .i64 k] w fun e w'=>e=.returned (.int .i64 (qar k))/\w=w':=by
 by_cases hk:1<=k/\k<=14
 ·
  have hc:k=1\/k=2\/k=3\/k=4\/k=5\/k=6\/k=7\/k=8\/k=9\/k=10\/k=11\/k=12\/k=13\/k=14:=oo
  clear hk;rcases hc with rfl | rfl | rfl | rfl | rfl | rfl | rfl | rfl | rfl | rfl | rfl | rfl | rfl | rfl
  all_goals
   go_enter Tryz.func146,Tryz.ntmps146;go_wp2;go_ret;exact ⟨qcq dd,rfl⟩
 ·
  have h1:=qan (a:=k) (b:=1) oo;have h2:=qan (a:=k) (b:=2) oo;have h3:=qan (a:=k) (b:=3) oo;have h4:=qan (a:=k) (b:=4) oo;have h5:=qan (a:=k) (b:=5) oo;have h6:=qan (a:=k) (b:=6) oo;have h7:=qan (a:=k) (b:=7) oo;have h8:=qan (a:=k) (b:=8) oo;have h9:=qan (a:=k) (b:=9) oo;have h10:=qan (a:=k) (b:=10) oo;have h11:=qan (a:=k) (b:=11) oo;have h12:=qan (a:=k) (b:=12) oo;have h13:=qan (a:=k) (b:=13) oo;have h14:=qan (a:=k) (b:=14) oo;have hr:qar k = -1:=by unfold qar;rw [if_neg oo,if_neg oo,if_neg oo,if_neg oo]
  rw [hr];clear hr hk;go_enter Tryz.func146,Tryz.ntmps146;go_wp2;go_ret;exact ⟨rfl,rfl⟩
theorem qut (r:Rt) (na:Option Addr) (nc:Nat) (da:Option Addr) (dc:Nat) (w:World) (hl:r.num.length<=2000000) (hm:r.den.length<=2000000) :
  Calls Tryz.prog 155 #[r.val na nc da dc] w fun e w'=>e=.returned (.bool r.none)/\Below w.heap.size w w':=by
 obtain ⟨neg,num,den⟩:=r;unfold Rt.val Rt.none;dsimp only at hl hm ⊢;by_cases h1:num.length=0 <;> by_cases h2:den.length=0
 all_goals
  have e1:((num.length:Int)==0)=decide (num.length=0):=by rw [Bool.eq_iff_iff];simp
  have e2:((den.length:Int)==0)=decide (den.length=0):=by rw [Bool.eq_iff_iff];simp
  have d1:decide (num.length=0)=decide (num.length=0):=rfl;simp only [h1,h2,decide_true,decide_false] at e1 e2;have HH:(decide (num.length=0),decide (den.length=0))=(decide (num.length=0),decide (den.length=0)):=rfl;simp only [h1,h2,decide_true,decide_false] at HH ⊢;clear HH d1
  cases neg
  all_goals
   have H1:=Hd h1;have H2:=Hd h2;clear h1 h2;go_enter Tryz.func155,Tryz.ntmps155;go_wp2;go_ret;exact ⟨rfl,brf.alloc (nlr _) _⟩
theorem qwc (r:Rt) (na:Option Addr) (nc:Nat) (da:Option Addr) (dc:Nat) (w:World) (hl:r.num.length<=2000000) (hm:r.den.length<=2000000) :
  Calls Tryz.prog 150 #[r.val na nc da dc] w fun e w'=>e=.returned (.bool r.none)/\Below w.heap.size w w':=by
 obtain ⟨neg,num,den⟩:=r;unfold Rt.val Rt.none;dsimp only at hl hm ⊢;by_cases h1:num.length=0 <;> by_cases h2:den.length=0
 all_goals
  have e1:((num.length:Int)==0)=decide (num.length=0):=by rw [Bool.eq_iff_iff];simp
  have e2:((den.length:Int)==0)=decide (den.length=0):=by rw [Bool.eq_iff_iff];simp
  have d1:decide (num.length=0)=decide (num.length=0):=rfl;simp only [h1,h2,decide_true,decide_false] at e1 e2;have HH:(decide (num.length=0),decide (den.length=0))=(decide (num.length=0),decide (den.length=0)):=rfl;simp only [h1,h2,decide_true,decide_false] at HH ⊢;clear HH d1
  cases neg
  all_goals
   have H1:=Hd h1;have H2:=Hd h2;clear h1 h2;go_enter Tryz.func150,Tryz.ntmps150;go_wp2;go_ret;exact ⟨rfl,brf.alloc (nlr _) _⟩
end Go.Proofs.YtmdlbpibipnapaaGreat
