/- Walks: arities and the zero value, by the reference. -/
import Derived.Test.YtfaalkneigpcnaaGreatDoorIc21
import Derived.Test.YtfaalkneigpcnaaGreatDoorIc1
import Derived.Laws.RangeString
import Derived.Test.YtfaalkneigpcnaaGreatDoorIc10
import Derived.Test.YtfaalkneigpcnaaGreatDoorIc9
import Derived.LoopN
import Derived.Test.YtfaalkneigpcnaaGreatDoorIc13
import Derived.Test.YtfaalkneigpcnaaGreatDoorRows
set_option linter.all false
set_option maxRecDepth 100000
set_option maxHeartbeats 4000000
namespace Go.Proofs.YtfaalkneigpcnaaGreatDoor
open Go.RowKit
theorem zz63 {P:Prop} (h:P:=by
 simp only [eV1] at C1;simp only [eV2] at C2;replace C1:=Hd C1;replace C2:=Hd C2;replace hY8:=Hd hY8;replace eV1:=Hd eV1;replace eV2:=Hd eV2;go_wp2;clear k40 l0 l4 x0 x1;refine wrM (S:=Cs L) [(0,.q),(1,.q),(2,.q),(3,.q),(4,.q),(5,.q),(6,.q),(7,.q),(8,.q),(9,.q),(10,.q),(11,.q),(12,.q),(14,.q),(15,.q),(16,.q),(17,.q),(18,.q),(19,.q),(20,.q),(21,.q),(22,.q),(23,.q),(24,.q),(25,.q),(13,.l),(26,.l),(27,.q),(28,.l),(29,.t)] (sC) ?_
 iterate 25 (refine qaj rfl rfl fun K hK=>xq ?_;go_simp;refine hK _ _ ?_;clear hK K)
 refine qag rfl rfl (fun K hK=>?_);go_simp;refine (C1.out).mono ?_;rintro r wA ⟨aA,cA,rfl,hPA,hbA⟩;dsimp only;refine hK.out _ _ (sC.below hbA) (fun _=>?_);clear hK K;have sA:=bth s0 hbA;have sD:=sC.below hbA;refine qag rfl rfl (fun K hK=>?_);go_simp;refine (C2.out wA sA).mono ?_;rintro r w9 ⟨aB,cB,rfl,hPB,hb9⟩;dsimp only;refine hK.out _ _ (sD.below hb9) (fun _=>?_);clear hK K;have s9:=bth sA hb9;have sE:=sD.below hb9;obtain ⟨t,ht⟩:∃ t:VQ,t=⟨aA,cA,aB,cB⟩:=⟨_,rfl⟩
 have hV9:VecX (Yr (Zk Z w.heap.size 5) ra va) w9 t V:=by rw [ht];exact ⟨hPA.call hb9,hPB⟩
 obtain rfl:aA=t.a:=by rw [ht]
 obtain rfl:cA=t.c:=by rw [ht]
 obtain rfl:aB=t.b:=by rw [ht]
 obtain rfl:cB=t.d:=by rw [ht]
 obtain ⟨va9,hva9⟩:∃ v,v=va:=⟨_,rfl⟩
 obtain ⟨vc9,hvc9⟩:∃ v,v=vc:=⟨_,rfl⟩
 replace hV9:VecX (Yr (Zk Z w.heap.size 5) ra va9) w9 t V:=by rw [hva9];exact hV9
 have hR9:Rst (Zk Z w.heap.size 5) w9 B ⟨x.vars,x.coords,x.free⟩ hs ra rc va9 vc9:=by rw [hva9,hvc9];exact hR8.out.call s9
 have hf9:Fr (Yv ra va) wr w9:=Fr.below s9;have hv9:∀ g,va9=some g->va=some g\/wr.heap.size<=g.block:=fun g h=>.inl (by rw [<- hva9];exact h)
 rw [<- hva9] at v1;rw [<- hvc9] at v1;rw [<- hva9,<- hvc9];replace hva9:=Hd hva9;replace hvc9:=Hd hvc9;clear hPA hPB hbA hb9 C1 C2 ht sC sD;have h29:=h2h.out.fr hf9 n2.out;have h39:=h3h.out.fr hf9 n3.out;have m2:¬ Yv ra va9 g2:=qb5 n2.out hv9 (by have:=h2h.out.lt;omega);have m3:¬ Yv ra va9 g3:=qb5 n3.out hv9 (by have:=h3h.out.lt;omega);obtain ⟨k20,k21⟩:=cq2 h29;obtain ⟨f20,f21⟩:=fq2 h29;have l2:=h29.lt;obtain ⟨k30,k31⟩:=cq2 h39;obtain ⟨f30,f31⟩:=fq2 h39;have l3:=h39.lt;have hfr:Fr (Yv ra va) w w9:=(Fr.below hwr).trans hf9;have hvv:∀ g,va9=some g->va=some g\/w.heap.size<=g.block:=fun g hg=>by
  have:=hwr.size;rcases hv9 g hg with e | e
  · exact .inl e
  · exact .inr (by omega)
 have h29h:=Hd h29;have h39h:=Hd h39;replace hR9:=Hd hR9;replace hV9:=Hd hV9;replace hfr:=Hd hfr;replace hvv:=Hd hvv;replace m2:=Hd m2;replace m3:=Hd m3;clear h29 h39 hf9 hv9
 iterate 1 (refine qaj rfl rfl fun K hK=>xq ?_;go_simp;refine hK _ _ ?_;clear hK K)
 refine qag rfl rfl (fun K hK=>?_);go_simp;refine hK.out _ _ ((sE.setc hne.out).setc hne.out) (fun _=>?_);clear hK K;refine qae rfl rfl (fun K hK=>?_);go_simp;refine hK.out _ _ ?_;clear hK K;refine qai ?_;go_wp2;clear k20 k21 f20 f21 l2 k30 k31 f30 f31 l3;refine qab (fun W=>Blk W g2 58 #[.slice ra hs.length rc,.slice va9 ((x.vars,V):List Vr × Vec).1.length vc9]/\Blk W g3 97 #[.slice t.a ((x.vars,V):List Vr × Vec).2.1.length t.c,.slice t.b ((x.vars,V):List Vr × Vec).2.2.length t.d]/\Rst Z W B ⟨((x.vars,V):List Vr × Vec).1,x.coords,x.free⟩ hs ra rc va9 vc9/\VecX (Yr Z ra va9) W t ((x.vars,V):List Vr × Vec).2/\Fr (Yv ra va) w W) ⟨?_,?_,?_,?_,?_⟩ ?_
 ·
  have a:=h29h.out
  ((with_reducible repeat first|assumption|(apply bF;focus omega)|apply bS|(apply bN;focus (simp;done))|apply bA|apply bD);all_goals rfl)
 ·
  have a:=h39h.out
  ((with_reducible repeat first|assumption|(apply bF;focus omega)|apply bS|(apply bN;focus (simp;done))|apply bA|apply bD);all_goals rfl)
 ·
  first
  | exact ((((hR9.out.set_ e2.out m2.out).set_ e2.out m2.out).set_ e3.out m3.out).set_ e3.out m3.out).less fun b hb=>.inl hb
  | exact (((((hR9.out.set_ e2.out m2.out).set_ e2.out m2.out).set_ e3.out m3.out).set_ e3.out m3.out).less fun b hb=>.inl hb).call (brf.drew)
 ·
  refine VecX.less (Y:=Yr (Zk Z w.heap.size 5) ra va9) ?_ fun b hb=>hb.imp id .inl
  exact (((hV9.out.step (Agr.setc (.inr e2.out) (Agr.refl _ _))).step (Agr.setc (.inr e2.out) (Agr.refl _ _))).step (Agr.setc (.inr e3.out) (Agr.refl _ _))).step (Agr.setc (.inr e3.out) (Agr.refl _ _))
 ·
  first
  | exact (((hfr.out.setc (.inr w2)).setc (.inr w2)).setc (.inr w3)).setc (.inr w3)
  | exact ((((hfr.out.setc (.inr w2)).setc (.inr w2)).setc (.inr w3)).setc (.inr w3)).call (brf.drew)
 rintro wZ ⟨hF1,hF2,hRZ,hVZ,hfZ⟩;obtain ⟨j0,j1⟩:=cq2 hF1;obtain ⟨j2,j3⟩:=cq2 hF2;refine bodyPost_ret (v:=.tuple #[.agg #[.slice ra hs.length rc,.slice va9 ((x.vars,V):List Vr × Vec).1.length vc9],.agg #[.slice t.a ((x.vars,V):List Vr × Vec).2.1.length t.c,.slice t.b ((x.vars,V):List Vr × Vec).2.2.length t.d]]) (by simp [results,Tryz.results98,go_sem,j0,j1,j2,j3]) rfl ?_;exact ⟨va9,vc9,t,rfl,hRZ,hVZ,hfZ,hvv.out⟩
 ):P:=h
theorem qij (Z:Nat->Prop) (B:Nat) (x:Frm) (hs:List (VQ × Vec)) (ra va:Option Addr) (rc vc:Nat) (pt:ByteArray) (aa na da ga:Option Addr) (ac nc dc sn sb so sc gl gc i rn rd:Nat) (neg:Bool) (args:List Int) (w:World) (hR:Rst Z w B x hs ra rc va vc) (hl:x.vars.length<=800) (hlh:hs.length<=1000) (hZ:∀ b,Z b->b<w.heap.size) (hBw:B<=w.heap.size) (hi:i<sn) (hsn:sn<=sc/\sc<=maxLen) (kind:Int) (k34:kind=3\/kind=4) (a b c:Vec) (qa qb qc:VQ) (H0:(pickH hs args)[0]? = some (qa,a)) (M0:(qa,a)∈hs) (H1:(pickH hs args)[1]? = some (qb,b)) (M1:(qb,b)∈hs) (H2:(pickH hs args)[2]? = some (qc,c)) (M2:(qc,c)∈hs) (fa:FineV a) (fb:FineV b) (fc:FineV c) (fd:FineV (subP c.1 b.1,subP c.2 b.2)) (fe:FineV (subP b.2 c.2,subP c.1 b.1)) (c0:w.cell? ⟨sb,so+i*6,none⟩=some (.int .i64 kind)) (c1:w.cell? ⟨sb,so+i*6+1,none⟩=some (.string pt)) (c2:w.cell? ⟨sb,so+i*6+2,none⟩=some (.slice aa args.length ac)) (c3:w.cell? ⟨sb,so+i*6+3,none⟩=some (.bool neg)) (c4:w.cell? ⟨sb,so+i*6+4,none⟩=some (.slice na rn nc)) (c5:w.cell? ⟨sb,so+i*6+5,none⟩=some (.slice da rd dc)) (hI:IntsR w aa ac args) (hal:args.length<=1000) (har:∀ a∈args,0<=a/\a<hs.length):Calls Tryz.prog 98 #[.agg #[.slice ra hs.length rc,.slice va x.vars.length vc],.agg #[.slice (some ⟨sb,so,none⟩) sn sc,.slice ga gl gc],.int .i64 i,.int .i64 x.free] w (qdb Z B x (x.vars,(if kind=3 then (addP a.1 (subP c.1 b.1),addP a.2 (subP c.2 b.2)) else (addP a.1 (subP b.2 c.2),addP a.2 (subP c.1 b.1)))) hs ra rc va w):=by
 obtain ⟨V,hPe⟩:∃ V:Vec,V=(if kind=3 then (addP a.1 (subP c.1 b.1),addP a.2 (subP c.2 b.2)) else (addP a.1 (subP b.2 c.2),addP a.2 (subP c.1 b.1))):=⟨_,rfl⟩
 rw [<- hPe];replace hPe:=Hd hPe;replace k34:=Hd k34;have FF:=Hd (And.intro fa (And.intro fb (And.intro fc (And.intro fd fe))));replace H0:=Hd H0;replace H1:=Hd H1;replace H2:=Hd H2;replace M0:=Hd M0;replace M1:=Hd M1;replace M2:=Hd M2;clear fa fb fc fd fe;have HR:=Hd hR;have HZ:=Hd hZ;have HI:=Hd hI;have HA:=Hd har;have HL:=Hd hlh;have hn0:∀ g,w.heap.size<=g->¬ Yv ra va g:=fun g hg h=>by have:=hR.lt _ h;omega
 replace hn0:=Hd hn0;have hsb:sb<w.heap.size:=World.block_lt_of_cell? w _ c0;have hsb1:sb<w.heap.size+1:=by omega
 have hsb2:sb<w.heap.size+1+1:=by omega
 have hsb3:sb<w.heap.size+1+1+1:=by omega
 have hsb4:sb<w.heap.size+1+1+1+1:=by omega
 clear hR hZ hI har hlh;obtain ⟨sm1,sm2⟩:=hsn;go_enter Tryz.func98,Tryz.ntmps98;go_wp2;refine qab (fun W=>Blk W w.heap.size 58 #[.slice ra hs.length rc,.slice va x.vars.length vc]/\Blk W (w.heap.size+1) 25 #[.slice (some ⟨sb,so,none⟩) sn sc,.slice ga gl gc]/\Blk W (w.heap.size+1+1) 58 #[.slice none 0 0,.slice none 0 0]/\Blk W (w.heap.size+1+1+1) 97 #[.slice none 0 0,.slice none 0 0]/\Blk W (w.heap.size+1+1+1+1) 53 #[.int .i64 kind,.string pt,.slice aa args.length ac,.bool neg,.slice na rn nc,.slice da rd dc]/\Below w.heap.size w W) (by refine ⟨?_,?_,?_,?_,?_,?_⟩<;>first|((with_reducible repeat first|assumption|(apply bF;focus omega)|apply bS|(apply bN;focus (simp;done))|apply bA|apply bD);all_goals rfl)|go_grown) ?_;clear c0 c1 c2 c3 c4 c5 hsb hsb1 hsb2 hsb3 hsb4;rintro w1 ⟨h0,h1,h2,h3,h4,hw1⟩;obtain ⟨g1,hg1⟩:∃ g,g=w.heap.size+1:=⟨_,rfl⟩
 obtain ⟨g2,hg2⟩:∃ g,g=w.heap.size+1+1:=⟨_,rfl⟩
 obtain ⟨g3,hg3⟩:∃ g,g=w.heap.size+1+1+1:=⟨_,rfl⟩
 obtain ⟨g4,hg4⟩:∃ g,g=w.heap.size+1+1+1+1:=⟨_,rfl⟩
 obtain ⟨g0,hg0⟩:∃ g,g=w.heap.size:=⟨_,rfl⟩
 rw [<- hg4] at h4 ⊢;rw [<- hg3] at h3 ⊢;rw [<- hg2] at h2 ⊢;rw [<- hg1] at h1 ⊢;rw [<- hg0] at h0 ⊢;have hl4:=h4.lt;have o1:g0<g1:=by omega
 have o2:g1<g2:=by omega
 have o3:g2<g3:=by omega
 have o4:g3<g4:=by omega
 have ow:w.heap.size<=g0:=by omega
 have o5:g4<w.heap.size+5:=by omega
 replace hg0:=Hd hg0;replace hg1:=Hd hg1;replace hg2:=Hd hg2;replace hg3:=Hd hg3;replace hg4:=Hd hg4;have k40:=h4.cell 0;have k42:=h4.cell 2;clear hl4;go_wp2
 go_loopg [11,13,26] args.length (fun m l _ idx wr=>∃ (k:Nat) (la:Option Addr) (lc:Nat),Hid (k+m=args.length)/\l=.slice la k lc/\idx=.int .i64 k/\Hid (OwnCo (g4+1) wr la lc ((pickH hs args).take k))/\Below w.heap.size w wr/\Blk wr g0 58 #[.slice ra hs.length rc,.slice va x.vars.length vc]/\Blk wr g1 25 #[.slice (some ⟨sb,so,none⟩) sn sc,.slice ga gl gc]/\Blk wr g2 58 #[.slice none 0 0,.slice none 0 0]/\Blk wr g3 97 #[.slice none 0 0,.slice none 0 0]/\Blk wr g4 53 #[.int .i64 kind,.string pt,.slice aa args.length ac,.bool neg,.slice na rn nc,.slice da rd dc])
 case atStart=>exact ⟨0,none,0,by show _=_;omega,rfl,rfl,by rw [List.take_zero];exact Own.nil,hw1,h0,h1,h2,h3,h4⟩
 case round =>
  clear h0 h1 h2 h3 h4 hw1 k40 k42;obtain ⟨k,la,lc,hm,rfl,rfl,hO,hwr,h0,h1,h2,h3,h4⟩:=hrel;by_cases hlt:k<args.length
  ·
   obtain ⟨a,ha⟩:=qac hlt;obtain ⟨ab,ao,rfl,hae,_⟩:=(HI.out.ext (xbw hwr)).2.2 k a ha;obtain ⟨a1,a2⟩:=HA.out a (List.mem_of_getElem? ha);obtain ⟨z,hz⟩:=qac (show a.toNat<hs.length by omega);obtain ⟨rb,rfl,_,_,hzc⟩:=(HR.out.call hwr).co.at_ qbk hz;have hcz0:=hzc 0 _ rfl;have hcz1:=hzc 1 _ rfl;have hk':=qer ha hz;obtain ⟨j,rfl⟩:∃ j:Nat,a=(j:Int):=⟨a.toNat,by omega⟩
   rw [Int.toNat_natCast] at hcz0 hcz1 hz;rw [Nat.mul_one] at hae;rw [Nat.add_zero] at hcz0;have hjl:j<hs.length:=qas hz;have hlh:=HL.out;have hlen2:((pickH hs args).take k).length=k:=by rw [List.length_take,qbh];omega
   have z0:=h0.cell 0;have hzl:=h0.lt;have y4:=h4.lt;have hab:ab<wr.heap.size:=World.block_lt_of_cell? wr _ hae;have hrb:rb<wr.heap.size:=World.block_lt_of_cell? wr _ hcz0;replace hk':=Hd hk';replace hz:=Hd hz;replace hlen2:=Hd hlen2;replace ha:=Hd ha;replace hO:=Hd hO.out;have h0h:=Hd h0;have h1h:=Hd h1;have h2h:=Hd h2;have h3h:=Hd h3;have h4h:=Hd h4;clear hzc h0 h1 h2 h3 h4 a1 a2
   go_wp2_with (at_builtin;go_must (refine qab (fun W=>Blk W wr.heap.size 97 #[.slice z.1.a z.2.1.length z.1.c,.slice z.1.b z.2.2.length z.1.d]/\Below wr.heap.size wr W) ⟨by ((with_reducible repeat first|assumption|(apply bF;focus omega)|apply bS|(apply bN;focus (simp;done))|apply bA|apply bD);all_goals rfl),by go_grown⟩ ?_);rintro w2 ⟨hr2,hw2⟩;go_must (refine qax (B:=g4+1) rfl (.tmp 30) (.tmp 36) 55 rfl Tryz.underlying55 qge rfl (by omega) (by omega) qbk la lc (by rw [hlen2.out];rfl) (hO.out.below hw2) z (qe3 _) wr.heap.size 1 rfl (fun j u hu=>by have e:=hr2.cell j;rw [e];simpa [coC] using hu) ((pickH hs args).take k++[z]) rfl (by rw [List.length_append,hlen2.out];simp;omega) (by have:=hw2.size;omega) ?_);intro la2 lc2 w3 ho3 hg3' ha3);have hwr2:=bth hwr hw2;have hlt2:=hw2.size;have hO2:=hO.out.below hw2
   have q0:=(h0h.out.below' hw2).under hO2 (by omega) hg3';have q1:=(h1h.out.below' hw2).under hO2 (by omega) hg3';have q2:=(h2h.out.below' hw2).under hO2 (by omega) hg3';have q3:=(h3h.out.below' hw2).under hO2 (by omega) hg3';have q4:=(h4h.out.below' hw2).under hO2 (by omega) hg3';have hb3:=qak hwr2 (hO2.base (show w.heap.size<=g4+1 by omega)) hg3';rw [<- qa7 hk'.out] at ho3;have hmin:min k (pickH hs args).length+1=k+1:=by rw [qbh];omega
   go_roundg (gk-1)
   case rel=>exact ⟨k+1,la2,lc2,by have:=hm.out;show _=_;omega,by rw [hmin],by go_num,ho3,hb3,q0,q1,q2,q3,q4⟩
   case measure=>have:=hm.out;omega
  ·
   have hk:k=args.length:=by have:=hm.out;omega
   have hO2:=hO.out;rw [List.take_of_length_le (by rw [qbh];omega)] at hO2;subst hk;replace hO2:=Hd hO2;have hR8:Rst (Zk Z w.heap.size 5) wr B x hs ra rc va vc:=(HR.out.more (qdn (nlr _))).call hwr;have hZ8:∀ b,Zk Z w.heap.size 5 b->b<wr.heap.size:=zk_lt HZ.out hwr.size (by have:=h4.lt;have:=hg4.out;omega);have hB8:B<=wr.heap.size:=by have:=hwr.size;omega
   obtain ⟨x0,x1⟩:=cq2 h0;have k40:=h4.cell 0;have l0:=h0.lt;have l4:=h4.lt;have n2:¬ Yv ra va g2:=hn0.out g2 (by omega);have n3:¬ Yv ra va g3:=hn0.out g3 (by omega);have e2:Zk Z w.heap.size 5 g2:=.inr (by omega);have e3:Zk Z w.heap.size 5 g3:=.inr (by omega);have w2:w.heap.size<=g2:=by omega
   have w3:w.heap.size<=g3:=by omega
   have d23:g2≠g3:=by omega
   have d32:g3≠g2:=by omega
   have h2h:=Hd h2;have h3h:=Hd h3;have h0h:=Hd h0;have h4h:=Hd h4;replace hR8:=Hd hR8;replace hZ8:=Hd hZ8;replace n2:=Hd n2;replace n3:=Hd n3;replace e2:=Hd e2;replace e3:=Hd e3;clear h0 h1 h2 h3 h4 hm hO;replace H0:=H0.out;replace H1:=H1.out;replace H2:=H2.out;replace M0:=M0.out;replace M1:=M1.out;replace M2:=M2.out;have hY8:∀ b,Yr (Zk Z w.heap.size 5) ra va b->b<wr.heap.size:=fun b hb=>hb.elim (hR8.out.lt b) (hZ8.out b)
   have y0:=held x0;have y1:=held x1;have s0:Below wr.heap.size wr wr.drew:=brf.drew;have hql:=qbh hs args;obtain ⟨lb0,hla0,_,_,hc0⟩:=hO2.out.at_ qbk H0;have u00:=held (by simpa using hc0 0 _ rfl:wr.cell? ⟨lb0,0,none⟩=some (.slice qa.a a.1.length qa.c));have u01:=held (hc0 1 _ rfl:wr.cell? ⟨lb0,1,none⟩=some (.slice qa.b a.2.length qa.d));have b0:0<args.length:=by have:=qas H0;omega
   have bi0:(0:Int)<(args.length:Int):=by omega
   have hVa:=(hR8.out.all _ M0)
   replace hVa:=Hd hVa;clear hc0;obtain ⟨lb1,hla1,_,_,hc1⟩:=hO2.out.at_ qbk H1;have u10:=held (by simpa using hc1 0 _ rfl:wr.cell? ⟨lb1,2,none⟩=some (.slice qb.a b.1.length qb.c));have u11:=held (hc1 1 _ rfl:wr.cell? ⟨lb1,3,none⟩=some (.slice qb.b b.2.length qb.d));have b1:1<args.length:=by have:=qas H1;omega
   have bi1:(1:Int)<(args.length:Int):=by omega
   have hVb:=(hR8.out.all _ M1)
   replace hVb:=Hd hVb;clear hc1;obtain ⟨lb2,hla2,_,_,hc2⟩:=hO2.out.at_ qbk H2;have u20:=held (by simpa using hc2 0 _ rfl:wr.cell? ⟨lb2,4,none⟩=some (.slice qc.a c.1.length qc.c));have u21:=held (hc2 1 _ rfl:wr.cell? ⟨lb2,5,none⟩=some (.slice qc.b c.2.length qc.d));have b2:2<args.length:=by have:=qas H2;omega
   have bi2:(2:Int)<(args.length:Int):=by omega
   have hVc:=(hR8.out.all _ M2)
   replace hVc:=Hd hVc;clear hc2;obtain rfl:lb0=lb1:=by rw [hla0] at hla1;injection hla1 with e;injection e
   obtain rfl:lb0=lb2:=by rw [hla0] at hla2;injection hla2 with e;injection e
   subst hla0;clear hla1 hla2;have hlb:g4+1<=lb0:=(hO2.out.lt rfl).1;obtain ⟨L,hL⟩:∃ L:List (Addr × Value),L=[(⟨g0,0,none⟩,.slice ra hs.length rc),(⟨g0,1,none⟩,.slice va x.vars.length vc),(⟨lb0,0,none⟩,.slice qa.a a.1.length qa.c),(⟨lb0,1,none⟩,.slice qa.b a.2.length qa.d),(⟨lb0,2,none⟩,.slice qb.a b.1.length qb.c),(⟨lb0,3,none⟩,.slice qb.b b.2.length qb.d),(⟨lb0,4,none⟩,.slice qc.a c.1.length qc.c),(⟨lb0,5,none⟩,.slice qc.b c.2.length qc.d)]:=⟨_,rfl⟩
   have v0:∀ W,Cs L W->W.cell? ⟨g0,0,none⟩=some (.slice ra hs.length rc):=fun W h=>h _ _ (by rw [hL];simp)
   have v1:∀ W,Cs L W->W.cell? ⟨g0,1,none⟩=some (.slice va x.vars.length vc):=fun W h=>h _ _ (by rw [hL];simp)
   have v2:∀ W,Cs L W->W.cell? ⟨lb0,0,none⟩=some (.slice qa.a a.1.length qa.c):=fun W h=>h _ _ (by rw [hL];simp)
   have v3:∀ W,Cs L W->W.cell? ⟨lb0,1,none⟩=some (.slice qa.b a.2.length qa.d):=fun W h=>h _ _ (by rw [hL];simp)
   have v4:∀ W,Cs L W->W.cell? ⟨lb0,2,none⟩=some (.slice qb.a b.1.length qb.c):=fun W h=>h _ _ (by rw [hL];simp)
   have v5:∀ W,Cs L W->W.cell? ⟨lb0,3,none⟩=some (.slice qb.b b.2.length qb.d):=fun W h=>h _ _ (by rw [hL];simp)
   have v6:∀ W,Cs L W->W.cell? ⟨lb0,4,none⟩=some (.slice qc.a c.1.length qc.c):=fun W h=>h _ _ (by rw [hL];simp)
   have v7:∀ W,Cs L W->W.cell? ⟨lb0,5,none⟩=some (.slice qc.b c.2.length qc.d):=fun W h=>h _ _ (by rw [hL];simp)
   have hne:∀ p v,(p,v)∈L->p.block≠g2:=by
    rw [hL];intro p v hm;simp only [List.mem_cons,List.not_mem_nil,or_false,Prod.mk.injEq] at hm;rcases hm with ⟨rfl,_⟩ | ⟨rfl,_⟩ | ⟨rfl,_⟩ | ⟨rfl,_⟩ | ⟨rfl,_⟩ | ⟨rfl,_⟩ | ⟨rfl,_⟩ | ⟨rfl,_⟩ <;> (dsimp only;omega)
   have sC:Cs L wr.drew:=by
    rw [hL];intro p v hm;simp only [List.mem_cons,List.not_mem_nil,or_false,Prod.mk.injEq] at hm;rcases hm with ⟨rfl,rfl⟩ | ⟨rfl,rfl⟩ | ⟨rfl,rfl⟩ | ⟨rfl,rfl⟩ | ⟨rfl,rfl⟩ | ⟨rfl,rfl⟩ | ⟨rfl,rfl⟩ | ⟨rfl,rfl⟩
    · exact y0 wr brf
    · exact y1 wr brf
    · exact u00 wr brf
    · exact u01 wr brf
    · exact u10 wr brf
    · exact u11 wr brf
    · exact u20 wr brf
    · exact u21 wr brf
   replace hne:=Hd hne;replace hL:=Hd hL;clear H0 H1 H2 M0 M1 M2 y0 y1 u00 u01 u10 u11 u20 u21;rcases k34.out with rfl | rfl
   ·
    replace hPe:Hid (V=(addP a.1 (subP c.1 b.1),addP a.2 (subP c.2 b.2))):=by have e:=hPe.out;rw [if_pos rfl] at e;exact e
    have C1:=qh3 (Yr (Zk Z w.heap.size 5) ra va) a.1 c.1 b.1 qa.a qc.a qb.a qa.c qc.c qb.c wr.drew (fun b hb=>ltl (hY8 b hb) s0.size) (hVa.out.call s0).1 (hVc.out.call s0).1 (hVb.out.call s0).1 FF.out.1.1 FF.out.2.2.1.1 FF.out.2.1.1 FF.out.2.2.2.1.1;have C2:=fun wA (sA:Below wr.heap.size wr wA)=>qh3 (Yr (Zk Z w.heap.size 5) ra va) a.2 c.2 b.2 qa.b qc.b qb.b qa.d qc.d qb.d wA (fun b hb=>ltl (hY8 b hb) sA.size) (hVa.out.call sA).2 (hVc.out.call sA).2 (hVb.out.call sA).2 FF.out.1.2 FF.out.2.2.1.2 FF.out.2.1.2 FF.out.2.2.2.1.2
    have eV1:addP a.1 (subP c.1 b.1)=V.1:=by rw [hPe.out]
    have eV2:addP a.2 (subP c.2 b.2)=V.2:=by rw [hPe.out]
    exact zz63
   ·
    replace hPe:Hid (V=(addP a.1 (subP b.2 c.2),addP a.2 (subP c.1 b.1))):=by have e:=hPe.out;rw [if_neg (by decide)] at e;exact e
    have C1:=qh3 (Yr (Zk Z w.heap.size 5) ra va) a.1 b.2 c.2 qa.a qb.b qc.b qa.c qb.d qc.d wr.drew (fun b hb=>ltl (hY8 b hb) s0.size) (hVa.out.call s0).1 (hVb.out.call s0).2 (hVc.out.call s0).2 FF.out.1.1 FF.out.2.1.2 FF.out.2.2.1.2 FF.out.2.2.2.2.1;have C2:=fun wA (sA:Below wr.heap.size wr wA)=>qh3 (Yr (Zk Z w.heap.size 5) ra va) a.2 c.1 b.1 qa.b qc.a qb.a qa.d qc.c qb.c wA (fun b hb=>ltl (hY8 b hb) sA.size) (hVa.out.call sA).2 (hVc.out.call sA).1 (hVb.out.call sA).1 FF.out.1.2 FF.out.2.2.1.1 FF.out.2.1.1 FF.out.2.2.2.2.2
    have eV1:addP a.1 (subP b.2 c.2)=V.1:=by rw [hPe.out]
    have eV2:addP a.2 (subP c.1 b.1)=V.2:=by rw [hPe.out]
    exact zz63
theorem qrm (Z:Nat->Prop) (B:Nat) (x:Frm) (hs:List (VQ × Vec)) (ra va:Option Addr) (rc vc:Nat) (pt:ByteArray) (aa na da ga:Option Addr) (ac nc dc sn sb so sc gl gc i rn rd:Nat) (neg:Bool) (args:List Int) (w:World) (hR:Rst Z w B x hs ra rc va vc) (hl:x.vars.length<=800) (hlh:hs.length<=1000) (hZ:∀ b,Z b->b<w.heap.size) (hBw:B<=w.heap.size) (hi:i<sn) (hsn:sn<=sc/\sc<=maxLen) (a b:Vec) (qa qb:VQ) (H0:(pickH hs args)[0]? = some (qa,a)) (M0:(qa,a)∈hs) (H1:(pickH hs args)[1]? = some (qb,b)) (M1:(qb,b)∈hs) (fa:FineV a) (fb:FineV b) (fd:FineV (subP b.1 a.1,subP b.2 a.2)) (f1:∀ k,FineP (mulP (varP x.vars.length) ((subP b.1 a.1).take k))) (f2:∀ t∈subP b.1 a.1,FineP (qat (varP x.vars.length) t)) (f3:∀ k,FineP (mulP (varP x.vars.length) ((subP b.2 a.2).take k))) (f4:∀ t∈subP b.2 a.2,FineP (qat (varP x.vars.length) t)) (c0:w.cell? ⟨sb,so+i*6,none⟩=some (.int .i64 5)) (c1:w.cell? ⟨sb,so+i*6+1,none⟩=some (.string pt)) (c2:w.cell? ⟨sb,so+i*6+2,none⟩=some (.slice aa args.length ac)) (c3:w.cell? ⟨sb,so+i*6+3,none⟩=some (.bool neg)) (c4:w.cell? ⟨sb,so+i*6+4,none⟩=some (.slice na rn nc)) (c5:w.cell? ⟨sb,so+i*6+5,none⟩=some (.slice da rd dc)) (hI:IntsR w aa ac args) (hal:args.length<=1000) (har:∀ a∈args,0<=a/\a<hs.length)  : Calls Tryz.prog 98 #[.agg #[.slice ra hs.length rc,.slice va x.vars.length vc],.agg #[.slice (some ⟨sb,so,none⟩) sn sc,.slice ga gl gc],.int .i64 i,.int .i64 x.free] w (qdb Z B x (x.vars++[(1,(i:Int),0)],(addP a.1 (mulP (varP x.vars.length) (subP b.1 a.1)),addP a.2 (mulP (varP x.vars.length) (subP b.2 a.2)))) hs ra rc va w):=by
 obtain ⟨PP9,hPe⟩:∃ PP9:List Vr × Vec,PP9=(x.vars++[(1,(i:Int),0)],(addP a.1 (mulP (varP x.vars.length) (subP b.1 a.1)),addP a.2 (mulP (varP x.vars.length) (subP b.2 a.2)))):=⟨_,rfl⟩
 rw [<- hPe];replace hPe:=Hd hPe;have FF:=Hd (And.intro fa (And.intro fb (And.intro fd (And.intro f1 (And.intro f2 (And.intro f3 f4))))));replace H0:=Hd H0;replace H1:=Hd H1;replace M0:=Hd M0;replace M1:=Hd M1;clear fa fb fd f1 f2 f3 f4;have HR:=Hd hR;have HZ:=Hd hZ;have HI:=Hd hI;have HA:=Hd har;have HL:=Hd hlh;have hn0:∀ g,w.heap.size<=g->¬ Yv ra va g:=fun g hg h=>by have:=hR.lt _ h;omega
 replace hn0:=Hd hn0;have hsb:sb<w.heap.size:=World.block_lt_of_cell? w _ c0;have hsb1:sb<w.heap.size+1:=by omega
 have hsb2:sb<w.heap.size+1+1:=by omega
 have hsb3:sb<w.heap.size+1+1+1:=by omega
 have hsb4:sb<w.heap.size+1+1+1+1:=by omega
 clear hR hZ hI har hlh;obtain ⟨sm1,sm2⟩:=hsn;go_enter Tryz.func98,Tryz.ntmps98;go_wp2;refine qab (fun W=>Blk W w.heap.size 58 #[.slice ra hs.length rc,.slice va x.vars.length vc]/\Blk W (w.heap.size+1) 25 #[.slice (some ⟨sb,so,none⟩) sn sc,.slice ga gl gc]/\Blk W (w.heap.size+1+1) 58 #[.slice none 0 0,.slice none 0 0]/\Blk W (w.heap.size+1+1+1) 97 #[.slice none 0 0,.slice none 0 0]/\Blk W (w.heap.size+1+1+1+1) 53 #[.int .i64 5,.string pt,.slice aa args.length ac,.bool neg,.slice na rn nc,.slice da rd dc]/\Below w.heap.size w W) (by refine ⟨?_,?_,?_,?_,?_,?_⟩<;>first|((with_reducible repeat first|assumption|(apply bF;focus omega)|apply bS|(apply bN;focus (simp;done))|apply bA|apply bD);all_goals rfl)|go_grown) ?_;clear c0 c1 c2 c3 c4 c5 hsb hsb1 hsb2 hsb3 hsb4;rintro w1 ⟨h0,h1,h2,h3,h4,hw1⟩;obtain ⟨g1,hg1⟩:∃ g,g=w.heap.size+1:=⟨_,rfl⟩
 obtain ⟨g2,hg2⟩:∃ g,g=w.heap.size+1+1:=⟨_,rfl⟩
 obtain ⟨g3,hg3⟩:∃ g,g=w.heap.size+1+1+1:=⟨_,rfl⟩
 obtain ⟨g4,hg4⟩:∃ g,g=w.heap.size+1+1+1+1:=⟨_,rfl⟩
 obtain ⟨g0,hg0⟩:∃ g,g=w.heap.size:=⟨_,rfl⟩
 rw [<- hg4] at h4 ⊢;rw [<- hg3] at h3 ⊢;rw [<- hg2] at h2 ⊢;rw [<- hg1] at h1 ⊢;rw [<- hg0] at h0 ⊢;have hl4:=h4.lt;have o1:g0<g1:=by omega
 have o2:g1<g2:=by omega
 have o3:g2<g3:=by omega
 have o4:g3<g4:=by omega
 have ow:w.heap.size<=g0:=by omega
 have o5:g4<w.heap.size+5:=by omega
 replace hg0:=Hd hg0;replace hg1:=Hd hg1;replace hg2:=Hd hg2;replace hg3:=Hd hg3;replace hg4:=Hd hg4;have k40:=h4.cell 0;have k42:=h4.cell 2;clear hl4;go_wp2
 go_loopg [11,13,26] args.length (fun m l _ idx wr=>∃ (k:Nat) (la:Option Addr) (lc:Nat),Hid (k+m=args.length)/\l=.slice la k lc/\idx=.int .i64 k/\Hid (OwnCo (g4+1) wr la lc ((pickH hs args).take k))/\Below w.heap.size w wr/\Blk wr g0 58 #[.slice ra hs.length rc,.slice va x.vars.length vc]/\Blk wr g1 25 #[.slice (some ⟨sb,so,none⟩) sn sc,.slice ga gl gc]/\Blk wr g2 58 #[.slice none 0 0,.slice none 0 0]/\Blk wr g3 97 #[.slice none 0 0,.slice none 0 0]/\Blk wr g4 53 #[.int .i64 5,.string pt,.slice aa args.length ac,.bool neg,.slice na rn nc,.slice da rd dc])
 case atStart=>exact ⟨0,none,0,by show _=_;omega,rfl,rfl,by rw [List.take_zero];exact Own.nil,hw1,h0,h1,h2,h3,h4⟩
 case round =>
  clear h0 h1 h2 h3 h4 hw1 k40 k42;obtain ⟨k,la,lc,hm,rfl,rfl,hO,hwr,h0,h1,h2,h3,h4⟩:=hrel;by_cases hlt:k<args.length
  ·
   obtain ⟨a,ha⟩:=qac hlt;obtain ⟨ab,ao,rfl,hae,_⟩:=(HI.out.ext (xbw hwr)).2.2 k a ha;obtain ⟨a1,a2⟩:=HA.out a (List.mem_of_getElem? ha);obtain ⟨z,hz⟩:=qac (show a.toNat<hs.length by omega);obtain ⟨rb,rfl,_,_,hzc⟩:=(HR.out.call hwr).co.at_ qbk hz;have hcz0:=hzc 0 _ rfl;have hcz1:=hzc 1 _ rfl;have hk':=qer ha hz;obtain ⟨j,rfl⟩:∃ j:Nat,a=(j:Int):=⟨a.toNat,by omega⟩
   rw [Int.toNat_natCast] at hcz0 hcz1 hz;rw [Nat.mul_one] at hae;rw [Nat.add_zero] at hcz0;have hjl:j<hs.length:=qas hz;have hlh:=HL.out;have hlen2:((pickH hs args).take k).length=k:=by rw [List.length_take,qbh];omega
   have z0:=h0.cell 0;have hzl:=h0.lt;have y4:=h4.lt;have hab:ab<wr.heap.size:=World.block_lt_of_cell? wr _ hae;have hrb:rb<wr.heap.size:=World.block_lt_of_cell? wr _ hcz0;replace hk':=Hd hk';replace hz:=Hd hz;replace hlen2:=Hd hlen2;replace ha:=Hd ha;replace hO:=Hd hO.out;have h0h:=Hd h0;have h1h:=Hd h1;have h2h:=Hd h2;have h3h:=Hd h3;have h4h:=Hd h4;clear hzc h0 h1 h2 h3 h4 a1 a2
   go_wp2_with (at_builtin;go_must (refine qab (fun W=>Blk W wr.heap.size 97 #[.slice z.1.a z.2.1.length z.1.c,.slice z.1.b z.2.2.length z.1.d]/\Below wr.heap.size wr W) ⟨by ((with_reducible repeat first|assumption|(apply bF;focus omega)|apply bS|(apply bN;focus (simp;done))|apply bA|apply bD);all_goals rfl),by go_grown⟩ ?_);rintro w2 ⟨hr2,hw2⟩;go_must (refine qax (B:=g4+1) rfl (.tmp 30) (.tmp 36) 55 rfl Tryz.underlying55 qge rfl (by omega) (by omega) qbk la lc (by rw [hlen2.out];rfl) (hO.out.below hw2) z (qe3 _) wr.heap.size 1 rfl (fun j u hu=>by have e:=hr2.cell j;rw [e];simpa [coC] using hu) ((pickH hs args).take k++[z]) rfl (by rw [List.length_append,hlen2.out];simp;omega) (by have:=hw2.size;omega) ?_);intro la2 lc2 w3 ho3 hg3' ha3);have hwr2:=bth hwr hw2;have hlt2:=hw2.size;have hO2:=hO.out.below hw2
   have q0:=(h0h.out.below' hw2).under hO2 (by omega) hg3';have q1:=(h1h.out.below' hw2).under hO2 (by omega) hg3';have q2:=(h2h.out.below' hw2).under hO2 (by omega) hg3';have q3:=(h3h.out.below' hw2).under hO2 (by omega) hg3';have q4:=(h4h.out.below' hw2).under hO2 (by omega) hg3';have hb3:=qak hwr2 (hO2.base (show w.heap.size<=g4+1 by omega)) hg3';rw [<- qa7 hk'.out] at ho3;have hmin:min k (pickH hs args).length+1=k+1:=by rw [qbh];omega
   go_roundg (gk-1)
   case rel=>exact ⟨k+1,la2,lc2,by have:=hm.out;show _=_;omega,by rw [hmin],by go_num,ho3,hb3,q0,q1,q2,q3,q4⟩
   case measure=>have:=hm.out;omega
  ·
   have hk:k=args.length:=by have:=hm.out;omega
   have hO2:=hO.out;rw [List.take_of_length_le (by rw [qbh];omega)] at hO2;subst hk;replace hO2:=Hd hO2;have hR8:Rst (Zk Z w.heap.size 5) wr B x hs ra rc va vc:=(HR.out.more (qdn (nlr _))).call hwr;have hZ8:∀ b,Zk Z w.heap.size 5 b->b<wr.heap.size:=zk_lt HZ.out hwr.size (by have:=h4.lt;have:=hg4.out;omega);have hB8:B<=wr.heap.size:=by have:=hwr.size;omega
   obtain ⟨x0,x1⟩:=cq2 h0;have k40:=h4.cell 0;have l0:=h0.lt;have l4:=h4.lt;have n2:¬ Yv ra va g2:=hn0.out g2 (by omega);have n3:¬ Yv ra va g3:=hn0.out g3 (by omega);have e2:Zk Z w.heap.size 5 g2:=.inr (by omega);have e3:Zk Z w.heap.size 5 g3:=.inr (by omega);have w2:w.heap.size<=g2:=by omega
   have w3:w.heap.size<=g3:=by omega
   have d23:g2≠g3:=by omega
   have d32:g3≠g2:=by omega
   have h2h:=Hd h2;have h3h:=Hd h3;have h0h:=Hd h0;have h4h:=Hd h4;replace hR8:=Hd hR8;replace hZ8:=Hd hZ8;replace n2:=Hd n2;replace n3:=Hd n3;replace e2:=Hd e2;replace e3:=Hd e3;clear h0 h1 h2 h3 h4 hm hO;go_wp2_with fail;refine (qc3 (Zk Z w.heap.size 5) B x hs ra va rc vc 1 i 0 wr hR8.out (by omega) hZ8.out hB8).mono ?_;rintro e wA ⟨va9,vcA,aA,cA,rfl,hRA,hPA,hfA,hvA⟩;replace H0:=H0.out;replace H1:=H1.out;replace M0:=M0.out;replace M1:=M1.out;have hOA:OwnCo (g4+1) wA la lc (pickH hs args):=qyb hO2.out hfA fun g hg hy=>by
    have e1:=(hO2.out.lt hg).1;exact hn0.out g.block (by omega) hy
   have eN:x.vars.length+1=PP9.1.length:=by rw [hPe.out];simp
   have eM:x.vars++[((1:Int),(i:Int),(0:Int))]=PP9.1:=by rw [hPe.out]
   have eV:(addP a.1 (mulP (varP x.vars.length) (subP b.1 a.1)),addP a.2 (mulP (varP x.vars.length) (subP b.2 a.2)))=PP9.2:=by rw [hPe.out]
   rw [eN];replace hOA:=Hd hOA;replace hRA:=Hd hRA;replace hPA:=Hd hPA;replace hfA:=Hd hfA;replace hvA:=Hd hvA;replace eN:=Hd eN;replace eM:=Hd eM;replace eV:=Hd eV;clear x0 x1 k40 l0 l4;go_wp2;refine qab (fun W=>Blk W wA.heap.size 58 #[.slice ra hs.length rc,.slice va9 PP9.1.length vcA]/\Below wA.heap.size wA W) ⟨by ((with_reducible repeat first|assumption|(apply bF;focus omega)|apply bS|(apply bN;focus (simp;done))|apply bA|apply bD);all_goals rfl),by go_grown⟩ ?_;rintro wB ⟨hG,hbB⟩;obtain ⟨gA,hgA⟩:∃ g,g=wA.heap.size:=⟨_,rfl⟩
   rw [<- hgA] at hG ⊢;replace hgA:=Hd hgA;have y0:=held (hG.cell 0);have y1:=held (hG.cell 1);have hOB:=hOA.out.below hbB;have hRB:=hRA.out.call hbB;have hY8:∀ b,Yr (Zk Z w.heap.size 5) ra va9 b->b<wB.heap.size:=fun b hb=>hb.elim (hRB.lt b) fun h=>ltl (hZ8.out b h) (Nat.le_trans hfA.out.size hbB.size)
   have s0:Below wB.heap.size wB wB.drew:=brf.drew;have hql:=qbh hs args;obtain ⟨lb0,hla0,_,_,hc0⟩:=hOB.at_ qbk H0;have u00:=held (by simpa using hc0 0 _ rfl:wB.cell? ⟨lb0,0,none⟩=some (.slice qa.a a.1.length qa.c));have u01:=held (hc0 1 _ rfl:wB.cell? ⟨lb0,1,none⟩=some (.slice qa.b a.2.length qa.d));have b0:0<args.length:=by have:=qas H0;omega
   have bi0:(0:Int)<(args.length:Int):=by omega
   have hVa:=(hRB.all _ M0)
   replace hVa:=Hd hVa;clear hc0;obtain ⟨lb1,hla1,_,_,hc1⟩:=hOB.at_ qbk H1;have u10:=held (by simpa using hc1 0 _ rfl:wB.cell? ⟨lb1,2,none⟩=some (.slice qb.a b.1.length qb.c));have u11:=held (hc1 1 _ rfl:wB.cell? ⟨lb1,3,none⟩=some (.slice qb.b b.2.length qb.d));have b1:1<args.length:=by have:=qas H1;omega
   have bi1:(1:Int)<(args.length:Int):=by omega
   have hVb:=(hRB.all _ M1)
   replace hVb:=Hd hVb;clear hc1;obtain rfl:lb0=lb1:=by rw [hla0] at hla1;injection hla1 with e;injection e
   subst hla0;clear hla1 hG;have CA:=fun W (hW:Below wB.heap.size wB W)=>qmr (Yr (Zk Z w.heap.size 5) ra va9) a b (varP x.vars.length) qa qb aA cA W (fun b hb=>ltl (hY8 b hb) hW.size) (hVa.out.call hW) (hVb.out.call hW) ((hPA.out.call hbB).call hW) FF.out.1 FF.out.2.1 (qoc _) FF.out.2.2.1 FF.out.2.2.2.1 FF.out.2.2.2.2.1 FF.out.2.2.2.2.2.1 FF.out.2.2.2.2.2.2
   simp only [eV.out] at CA;replace CA:=Hd CA;replace hRB:=Hd hRB;replace hbB:=Hd hbB;clear H0 H1 M0 M1 hOB hY8;refine wrx (S:=Below wB.heap.size wB) [(0,.q),(1,.q),(2,.q),(3,.q),(4,.q),(5,.q),(6,.q),(7,.q),(8,.l),(9,.t),(10,.t)] (s0) ?_
   iterate 8 (refine qaj rfl rfl fun K hK=>xq ?_;go_simp;refine hK _ _ ?_;clear hK K)
   refine qag rfl rfl (fun K hK=>?_);go_simp;refine (CA.out wB.drew s0).mono ?_;rintro r w9 ⟨t,rfl,hV9,hb9⟩;dsimp only;refine hK.out _ _ (bth s0 hb9) (fun _=>?_);clear hK K;have s9:=bth s0 hb9;obtain ⟨vc9,hvc9⟩:∃ v,v=vcA:=⟨_,rfl⟩
   have hR9:Rst (Zk Z w.heap.size 5) w9 B ⟨PP9.1,x.coords,x.free⟩ hs ra rc va9 vc9:=by rw [hvc9,<- eM.out];exact hRB.out.call s9
   have hf9:Fr (Yv ra va) wr w9:=(hfA.out.call hbB.out).call s9;have hv9:∀ g,va9=some g->va=some g\/wr.heap.size<=g.block:=hvA.out;rw [<- hvc9];replace hvc9:=Hd hvc9;clear hb9 CA y0 y1 u00 u01 u10 u11;have h29:=h2h.out.fr hf9 n2.out;have h39:=h3h.out.fr hf9 n3.out;have m2:¬ Yv ra va9 g2:=qb5 n2.out hv9 (by have:=h2h.out.lt;omega);have m3:¬ Yv ra va9 g3:=qb5 n3.out hv9 (by have:=h3h.out.lt;omega);obtain ⟨k20,k21⟩:=cq2 h29;obtain ⟨f20,f21⟩:=fq2 h29;have l2:=h29.lt;obtain ⟨k30,k31⟩:=cq2 h39;obtain ⟨f30,f31⟩:=fq2 h39;have l3:=h39.lt;have hfr:Fr (Yv ra va) w w9:=(Fr.below hwr).trans hf9;have hvv:∀ g,va9=some g->va=some g\/w.heap.size<=g.block:=fun g hg=>by
    have:=hwr.size;rcases hv9 g hg with e | e
    · exact .inl e
    · exact .inr (by omega)
   have h29h:=Hd h29;have h39h:=Hd h39;replace hR9:=Hd hR9;replace hV9:=Hd hV9;replace hfr:=Hd hfr;replace hvv:=Hd hvv;replace m2:=Hd m2;replace m3:=Hd m3;clear h29 h39 hf9 hv9;refine qae rfl rfl (fun K hK=>?_);go_simp;refine hK.out _ _ ?_;clear hK K;refine qae rfl rfl (fun K hK=>?_);go_simp;refine hK.out _ _ ?_;clear hK K;refine qai ?_;go_wp2;clear k20 k21 f20 f21 l2 k30 k31 f30 f31 l3;refine qab (fun W=>Blk W g2 58 #[.slice ra hs.length rc,.slice va9 PP9.1.length vc9]/\Blk W g3 97 #[.slice t.a PP9.2.1.length t.c,.slice t.b PP9.2.2.length t.d]/\Rst Z W B ⟨PP9.1,x.coords,x.free⟩ hs ra rc va9 vc9/\VecX (Yr Z ra va9) W t PP9.2/\Fr (Yv ra va) w W) ⟨?_,?_,?_,?_,?_⟩ ?_
   ·
    have a:=h29h.out
    ((with_reducible repeat first|assumption|(apply bF;focus omega)|apply bS|(apply bN;focus (simp;done))|apply bA|apply bD);all_goals rfl)
   ·
    have a:=h39h.out
    ((with_reducible repeat first|assumption|(apply bF;focus omega)|apply bS|(apply bN;focus (simp;done))|apply bA|apply bD);all_goals rfl)
   ·
    first
    | exact ((((hR9.out.set_ e2.out m2.out).set_ e2.out m2.out).set_ e3.out m3.out).set_ e3.out m3.out).less fun b hb=>.inl hb
    | exact (((((hR9.out.set_ e2.out m2.out).set_ e2.out m2.out).set_ e3.out m3.out).set_ e3.out m3.out).less fun b hb=>.inl hb).call (brf.drew)
   ·
    refine VecX.less (Y:=Yr (Zk Z w.heap.size 5) ra va9) ?_ fun b hb=>hb.imp id .inl
    exact (((hV9.out.step (Agr.setc (.inr e2.out) (Agr.refl _ _))).step (Agr.setc (.inr e2.out) (Agr.refl _ _))).step (Agr.setc (.inr e3.out) (Agr.refl _ _))).step (Agr.setc (.inr e3.out) (Agr.refl _ _))
   ·
    first
    | exact (((hfr.out.setc (.inr w2)).setc (.inr w2)).setc (.inr w3)).setc (.inr w3)
    | exact ((((hfr.out.setc (.inr w2)).setc (.inr w2)).setc (.inr w3)).setc (.inr w3)).call (brf.drew)
   rintro wZ ⟨hF1,hF2,hRZ,hVZ,hfZ⟩;obtain ⟨j0,j1⟩:=cq2 hF1;obtain ⟨j2,j3⟩:=cq2 hF2;refine bodyPost_ret (v:=.tuple #[.agg #[.slice ra hs.length rc,.slice va9 PP9.1.length vc9],.agg #[.slice t.a PP9.2.1.length t.c,.slice t.b PP9.2.2.length t.d]]) (by simp [results,Tryz.results98,go_sem,j0,j1,j2,j3]) rfl ?_;exact ⟨va9,vc9,t,rfl,hRZ,hVZ,hfZ,hvv.out⟩
theorem qt3 (Z:Nat->Prop) (B:Nat) (x:Frm) (hs:List (VQ × Vec)) (ra va:Option Addr) (rc vc:Nat) (pt:ByteArray) (aa na da ga:Option Addr) (ac nc dc sn sb so sc gl gc i rn rd:Nat) (neg:Bool) (args:List Int) (w:World) (hR:Rst Z w B x hs ra rc va vc) (hZ:∀ b,Z b->b<w.heap.size) (hBw:B<=w.heap.size) (hi:i<sn) (hsn:sn<=sc/\sc<=maxLen)
  (D M:Nat) (hok:FrmOk i D M x) (hi1:i<=100) (kind:Int) (k1:1<=kind) (q:Rat) (hn:needK kind<=args.length)
  (c0:w.cell? ⟨sb,so+i*6,none⟩=some (.int .i64 kind)) (c1:w.cell? ⟨sb,so+i*6+1,none⟩=some (.string pt)) (c2:w.cell? ⟨sb,so+i*6+2,none⟩=some (.slice aa args.length ac)) (c3:w.cell? ⟨sb,so+i*6+3,none⟩=some (.bool neg)) (c4:w.cell? ⟨sb,so+i*6+4,none⟩=some (.slice na rn nc)) (c5:w.cell? ⟨sb,so+i*6+5,none⟩=some (.slice da rd dc)) (hI:IntsR w aa ac args) (hal:args.length<=1000) (har:∀ a∈args,0<=a/\a<i)
  (hx:kind=2->Rd (Yr Z ra va) w fun V=>QAc V ⟨neg,rn,na,nc,rd,da,dc⟩ q) (hq:kind=2->q.num.natAbs<=2 ^ 32/\q.den<=2 ^ 32) :
  Calls Tryz.prog 98 #[.agg #[.slice ra hs.length rc,.slice va x.vars.length vc],.agg #[.slice (some ⟨sb,so,none⟩) sn sc,.slice ga gl gc],.int .i64 i,.int .i64 x.free] w (qdb Z B x (nextF x kind args q i) hs ra rc va w):=by
 have hvl:x.vars.length<=64:=hok.2.2.2.2.2.1;have hcl:x.coords.length=i:=hok.1;have hlh:hs.length<=1000:=by
  have:=congrArg List.length hR.eq;simp at this
  omega
 have hhl:hs.length=i:=by
  have:=congrArg List.length hR.eq;simp at this
  omega
 have har':∀ a∈args,0<=a/\a<hs.length:=fun a ha=>by have:=har a ha;omega
 have HH:=fun k hk=>qsv (k:=k) hR.eq hk (fun x hx=>by have:=har x hx;omega)
 have A:=fun k=>qhz hok args k
 have Fi:=fun k=>hok.fine hi1 args k
 have V:=fun j k=>(⟨(hok.diff hi1 (A k).1 (A j).1).1,(hok.diff hi1 (A k).2 (A j).2).1⟩:FineV (subP (argF x.coords args k).1 (argF x.coords args j).1,subP (argF x.coords args k).2 (argF x.coords args j).2))
 have K1:=(hok.diff hi1 (A 1).1 (A 0).1).2;have K2:=(hok.diff hi1 (A 1).2 (A 0).2).2;have hi0:(0:Int)<=(i:Int):=by omega
 have hk:kind=1\/kind=2\/kind=3\/kind=4\/kind=5\/kind=6\/7<=kind:=by omega
 rcases hk with rfl | rfl | rfl | rfl | rfl | rfl | k7
 ·
  have:=qgq Z B x hs ra va rc vc pt aa na da ga ac nc dc sn sb so sc gl gc i rn rd neg args w hR (by omega) hlh hZ hBw hi hsn 1 (.inl rfl) c0 c1 c2 c3 c4 c5 hI hal har';simpa only [nextF,qci,if_true] using this
 ·
  obtain ⟨q1,q2⟩:=hq rfl;have hqs:qsz q<=1000:=qfj (Nat.le_trans (qan (k:=3) (Nat.lt_of_le_of_lt q1 (by decide))) (by omega)) (Nat.le_trans (qan (k:=3) (Nat.lt_of_le_of_lt q2 (by decide))) (by omega));obtain ⟨q0,H0,M0⟩:=HH 0 (by simp [needK] at hn;omega);obtain ⟨q1',H1,M1⟩:=HH 1 (by simp [needK] at hn;omega);have F1:=qjt K1 hi0 (hok.scaled hi1 (A 1).1 (A 0).1 ⟨q1,q2⟩);have F2:=qjt K2 hi0 (hok.scaled hi1 (A 1).2 (A 0).2 ⟨q1,q2⟩);have:=qq5 Z B x hs ra va rc vc pt aa na da ga ac nc dc sn sb so sc gl gc i rn rd neg args w hR (by omega) hlh hZ hBw hi hsn q _ _ q0 q1' H0 M0 H1 M1 (hx rfl) hqs (Fi 0) (Fi 1) (V 0 1) F1.1 F1.2 F2.1 F2.2 c0 c1 c2 c3 c4 c5 hI hal har';rw [qi4 K1 hi0,qi4 K2 hi0] at this;simpa [nextF,qfm] using this
 ·
  obtain ⟨q0,H0,M0⟩:=HH 0 (by simp [needK] at hn;omega);obtain ⟨q1,H1,M1⟩:=HH 1 (by simp [needK] at hn;omega);obtain ⟨q2,H2,M2⟩:=HH 2 (by simp [needK] at hn;omega);have:=qij Z B x hs ra va rc vc pt aa na da ga ac nc dc sn sb so sc gl gc i rn rd neg args w hR (by omega) hlh hZ hBw hi hsn 3 (.inl rfl) _ _ _ q0 q1 q2 H0 M0 H1 M1 H2 M2 (Fi 0) (Fi 1) (Fi 2) (V 1 2) ⟨(V 2 1).2,(V 1 2).1⟩ c0 c1 c2 c3 c4 c5 hI hal har';simpa [nextF] using this
 ·
  obtain ⟨q0,H0,M0⟩:=HH 0 (by simp [needK] at hn;omega);obtain ⟨q1,H1,M1⟩:=HH 1 (by simp [needK] at hn;omega);obtain ⟨q2,H2,M2⟩:=HH 2 (by simp [needK] at hn;omega);have:=qij Z B x hs ra va rc vc pt aa na da ga ac nc dc sn sb so sc gl gc i rn rd neg args w hR (by omega) hlh hZ hBw hi hsn 4 (.inr rfl) _ _ _ q0 q1 q2 H0 M0 H1 M1 H2 M2 (Fi 0) (Fi 1) (Fi 2) (V 1 2) ⟨(V 2 1).2,(V 1 2).1⟩ c0 c1 c2 c3 c4 c5 hI hal har';simpa [nextF] using this
 ·
  obtain ⟨q0,H0,M0⟩:=HH 0 (by simp [needK] at hn;omega);obtain ⟨q1,H1,M1⟩:=HH 1 (by simp [needK] at hn;omega);have F1:=qlf K1 hi0 (hok.turned hi1 (A 1).1 (A 0).1 x.vars.length);have F2:=qlf K2 hi0 (hok.turned hi1 (A 1).2 (A 0).2 x.vars.length);have:=qrm Z B x hs ra va rc vc pt aa na da ga ac nc dc sn sb so sc gl gc i rn rd neg args w hR (by omega) hlh hZ hBw hi hsn _ _ q0 q1 H0 M0 H1 M1 (Fi 0) (Fi 1) (V 0 1) F1.1 F1.2 F2.1 F2.2 c0 c1 c2 c3 c4 c5 hI hal har';rw [qdy (qeg (B:=1) (Int.le_refl _)) K1 (by decide) hi0,qdy (qeg (B:=1) (Int.le_refl _)) K2 (by decide) hi0] at this;simpa [nextF,qfm] using this
 ·
  have:=qgq Z B x hs ra va rc vc pt aa na da ga ac nc dc sn sb so sc gl gc i rn rd neg args w hR (by omega) hlh hZ hBw hi hsn 6 (.inr (.inl rfl)) c0 c1 c2 c3 c4 c5 hI hal har';simpa [nextF] using this
 ·
  have:=qgq Z B x hs ra va rc vc pt aa na da ga ac nc dc sn sb so sc gl gc i rn rd neg args w hR (by omega) hlh hZ hBw hi hsn kind (.inr (.inr k7)) c0 c1 c2 c3 c4 c5 hI hal har';have e1:¬ kind=1:=by omega
  have e2:¬ kind=2:=by omega
  have e3:¬ kind=3:=by omega
  have e4:¬ kind=4:=by omega
  have e5:¬ kind=5:=by omega
  have e6:¬ kind=6:=by omega
  unfold nextF;rw [if_neg e1,if_neg e2,if_neg e3,if_neg e4,if_neg e5,if_neg e6];rw [if_neg e1,if_neg e6] at this;exact this
theorem qof {B:Nat} {w:World} {l:List (VQ × Vec)} {o:Oper} {act:Act} {K:Act->World->Prop} {Q:Exit->Act->World->Prop} (s y:Operand) (ts:TypeId)
  (ho:o.op=.call { callee:=.builtin .append,args:=#[s,y],argTypes:=#[ts,ts] }) (hu:Tryz.prog.underlying ts=some (.slice 97))
  (a:Option Addr) (c:Nat) (hs:act.eval s=.slice a l.length c) (hown:OwnCo B w a c l)
  (x:VQ × Vec) (b c1:Nat) (hy:act.eval y=.slice (some ⟨b,0,none⟩) 1 c1) (hcell:∀ j u,(coC x)[j]? = some u->w.cell? ⟨b,j,none⟩=some u)
  (l2:List (VQ × Vec)) (hl2:l2=l++[x]) (hlen:l2.length<=16777216) (hB:B<=w.heap.size)
  (h:∀ a' c' w',OwnCo B w' a' c' l2->w.grownBy w' (Value.ownBlock (.slice a l.length c))->((∃ g,a'=some ⟨g,0,none⟩/\(a=some ⟨g,0,none⟩\/g=w.heap.size))) ->
   K (act.put o.dst (.slice a' l2.length c')) w'):o.wp Tryz.prog act w K Q :=
 qei s y ts ho hu qge rfl (by omega) (by omega) qbk a c hs hown x (qe3 x) b c1 hy hcell l2 hl2 hlen hB h
section
variable {Z : Nat -> Prop} {w w2 : World} {gB : Nat} {x : Frm} {hs : List (VQ × Vec)} {ra ra2 va : Option Addr} {rc rc2 vc : Nat}
theorem Bst.push (h:Bst Z w gB x hs ra rc va vc) (z:VQ × Vec) (hz:VecX (Yz Z gB ra va) w z.1 z.2) (ho:OwnCo (gB+1) w2 ra2 rc2 (hs++[z])) (hg:w.grownBy w2 (Value.ownBlock (.slice ra hs.length rc)))
  (ha:∃ g,ra2=some ⟨g,0,none⟩/\(ra=some ⟨g,0,none⟩\/g=w.heap.size)) :
  Bst Z (w2.setCell ⟨gB,0,none⟩ (.slice ra2 (hs.length+1) rc2)) gB ⟨x.vars,x.coords++[z.2],x.free⟩ (hs++[z]) ra2 rc2 va vc /\
   Fr (Yb gB ra va) w (w2.setCell ⟨gB,0,none⟩ (.slice ra2 (hs.length+1) rc2))/\(∀ g,ra2=some g->ra=some g\/w.heap.size<=g.block):=by
 have hz2:=h.blk.under h.co (Nat.lt_succ_self gB) hg;have hne:∀ g,va=some g->Value.ownBlock (.slice ra hs.length rc)≠some g.block:=fun g hg e=>by
  cases hv:ra with
  | none=>rw [hv] at e;simp [Value.ownBlock] at e
  | some g' =>
   rw [hv] at e;simp [Value.ownBlock] at e;exact qfp h.co h.vr (by decide) g' g hv hg e
 have hvr2:OwnVr (gB+1) w2 va vc x.vars:=h.vr.grown hg hne;have hfr:Fr (Yb gB ra va) w (w2.setCell ⟨gB,0,none⟩ (.slice ra2 (hs.length+1) rc2)):=((Fr.refl (Yb gB ra va) w).grown hg fun g hg=>.inl (.inr (.inl ⟨g,hg,rfl⟩))).setc (.inl (.inl rfl));have hra2:∀ g,ra2=some g->ra=some g\/w.heap.size<=g.block:=fun g hg=>by
  obtain ⟨g',e1,e2⟩:=ha;rw [e1] at hg;injection hg with hg
  subst hg;rcases e2 with e2 | e2
  · exact .inl e2
  · right;show _<=g';omega
 have hYm:∀ b,Yz Z gB ra2 va b->Yz Z gB ra va b\/w.heap.size<=b:=fun b hb=>by
  rcases hb with (hb | ⟨g,hg,rfl⟩ | hb) | hb
  · exact .inl (.inl (.inl hb))
  ·
   rcases hra2 g hg with e | e
   · exact .inl (.inl (.inr (.inl ⟨g,e,rfl⟩)))
   · exact .inr e
  · exact .inl (.inl (.inr (.inr hb)))
  · exact .inl (.inr hb)
 refine ⟨⟨by simp [h.eq],?_,ho.far (Nat.lt_succ_self gB) _,hvr2.far (Nat.lt_succ_self gB) _,fun u hu=>?_⟩,hfr,hra2⟩
 ·
  have:=hz2.set_ 0 (.slice ra2 (hs.length+1) rc2);simpa using this
 ·
  rcases List.mem_append.1 hu with e | e
  · exact (h.all u e).move hYm (hfr.mono fun b hb=>.inl hb)
  ·
   rw [List.mem_singleton] at e;subst e;exact hz.move hYm (hfr.mono fun b hb=>.inl hb)
end
def Itr (w:World) (g:Nat) (s:ByteArray) (pos:Nat):Prop:=w.heap[g]? = some (.stringIter s pos)
def qcp (w:World) (g:Nat) (s:ByteArray) (pos:Nat):World:={ w with heap:=w.heap.setIfInBounds g (.stringIter s pos) }
theorem qoq {P:Program} (w:World) (g:Nat) (s:ByteArray) (pos:Nat) (ty:TypeId) (hi:Itr w g s pos) (h:pos<s.size) (ha:(s[pos]'h).toNat<128) :
  (Instr.next (.pointer (some ⟨g,0,none⟩)) true ty).run P w=.ok (.tuple #[.bool true,.int .i64 pos,.int .i32 (s[pos]'h).toNat]) (qcp w g s (pos+1)):=by
 unfold Itr at hi;simp only [Instr.next,getObj,setObj,Sem.run_bind,Sem.run,hi,Result.andThen,h,if_true,decode_ascii s pos h ha];simp [goInt,qcp]
theorem ql6 {P:Program} (w:World) (g:Nat) (s:ByteArray) (pos:Nat) (ty:TypeId) (hi:Itr w g s pos) (h:¬ pos<s.size) :
  (Instr.next (.pointer (some ⟨g,0,none⟩)) true ty).run P w=.ok (.tuple #[.bool false]) w:=by
 unfold Itr at hi;simp [Instr.next,getObj,Sem.run,hi,h]
theorem Itr.lt {w:World} {g:Nat} {s:ByteArray} {pos:Nat} (h:Itr w g s pos):g<w.heap.size:=(Array.getElem?_eq_some_iff.1 h).1
theorem Itr.set {w:World} {g:Nat} {s:ByteArray} {pos:Nat} (h:Itr w g s pos) (pos':Nat):Itr (qcp w g s pos') g s pos':=by
 unfold Itr qcp;simp [h.lt]
theorem qo7 (w:World) (g:Nat) (s:ByteArray) (pos:Nat):(qcp w g s pos).heap.size=w.heap.size:=by simp [qcp]
theorem qqk (w:World) (g:Nat) (s:ByteArray) (pos:Nat) (k:Nat) (hk:k≠g):(qcp w g s pos).heap[k]? = w.heap[k]?:=by
 simp [qcp,Ne.symm hk]
theorem qnx {B:Nat} {a w:World} (h:Below B a w) {g:Nat} (hg:B<=g) (s:ByteArray) (pos:Nat):Below B a (qcp w g s pos) :=
 h.trans ⟨rfl,rfl,rfl,by rw [qo7];exact nlr _,fun k hk=>qqk _ _ _ _ _ (by omega)⟩
def letB (c:Int):Bool:=decide (65<=c/\c<=90\/97<=c/\c<=122)
def digB (c:Int):Bool:=decide (48<=c/\c<=57)
def qbd:List ByteArray:=[⟨#[97,110,103,108,101]⟩,
 ⟨#[97,112,101,120]⟩,
 ⟨#[98,105,115,101,99,116,111,114]⟩,
 ⟨#[99,101,110,116,101,114]⟩,
 ⟨#[99,105,114,99,108,101]⟩,
 ⟨#[99,105,114,99,117,109]⟩,
 ⟨#[99,111,108,108,105,110,101,97,114]⟩,
 ⟨#[99,111,109,109,111,110]⟩,
 ⟨#[99,111,110,99,121,99,108,105,99]⟩,
 ⟨#[99,111,110,103,114,117,101,110,116]⟩,
 ⟨#[99,114,111,115,115]⟩,
 ⟨#[99,117,116]⟩,
 ⟨#[100,105,118,105,100,101]⟩,
 ⟨#[102,111,111,116]⟩,
 ⟨#[108,105,110,101]⟩,
 ⟨#[109,101,101,116]⟩,
 ⟨#[109,105,100,112,111,105,110,116]⟩,
 ⟨#[109,105,114,114,111,114]⟩,
 ⟨#[111,110]⟩,
 ⟨#[111,116,104,101,114]⟩,
 ⟨#[112,97,114,97,108,108,101,108]⟩,
 ⟨#[112,101,114,112,101,110,100,105,99,117,108,97,114]⟩,
 ⟨#[112,111,105,110,116,115]⟩,
 ⟨#[112,114,111,118,101]⟩,
 ⟨#[114,97,116,105,111]⟩,
 ⟨#[114,101,102,108,101,99,116]⟩,
 ⟨#[115,97,109,101]⟩,
 ⟨#[115,104,105,102,116]⟩,
 ⟨#[116,117,114,110]⟩]
def wordB (c:UInt8):Bool:=letB c.toNat||digB c.toNat
def headB (s:ByteArray):Bool:=match s.data.toList with
 | []=>false
 | c :: _=>letB c.toNat
def keyB (s:ByteArray):Bool:=qbd.any fun k=>decide (s=k)
def qbt (s:ByteArray):Bool:=decide (s.size<=20)&&headB s&&s.data.toList.all wordB && !keyB s
theorem qd8:qbd.length=29:=rfl
theorem qja {s:ByteArray} (h:0<s.size):headB s=letB ((s[0]'h).toNat:Nat):=by
 unfold headB;have h':0<s.data.toList.length:=by simpa using h
 have e:s.data.toList=s.data.toList[0] :: s.data.toList.drop 1:=by
  have:=List.drop_eq_getElem_cons (l:=s.data.toList) (i:=0) h';simpa using this
 rw [e]
 rfl
theorem qft {s:ByteArray}:s.size=0↔s=⟨#[]⟩:=by
 constructor
 ·
  intro h
  cases s with
  | mk d=>congr 1;exact Array.eq_empty_of_size_eq_zero h
 · intro h;subst h;rfl
theorem qip {s:ByteArray} {k:Nat} (h:k<s.size):s.data.toList[k]? = some (s[k]'h):=by simp [h];rfl
theorem qg4:qbt ⟨#[]⟩=false:=by decide
theorem qni {P:Program} (w:World) (g:Nat) (s:ByteArray) (pos:Nat) (hi:Itr w g s pos) (h:pos<s.size) :
  ∃ (r:Int) (n:Nat),(∀ ty:TypeId,(Instr.next (.pointer (some ⟨g,0,none⟩)) true ty).run P w=.ok (.tuple #[.bool true,.int .i64 pos,.int .i32 r]) (qcp w g s (pos+n)))/\((s[pos]'h).toNat<128->n=1):=by
 by_cases ha:(s[pos]'h).toNat<128
 · exact ⟨_,1,fun ty=>qoq w g s pos ty hi h ha,fun _=>rfl⟩
 ·
  unfold Itr at hi;refine ⟨((Utf8.decode s pos).1:Nat),(Utf8.decode s pos).2,fun ty=>?_,fun h=>absurd h ha⟩;simp only [Instr.next,getObj,setObj,Sem.run_bind,Sem.run,hi,Result.andThen,h,if_true];simp [goInt,qcp]
def Rt.none (r:Rt):Bool:=!r.neg&&decide (r.num.length=0)&&decide (r.den.length=0)
def qb2 (k:Int):Int:=if k=1\/k=5 then 3 else if k=2\/k=3\/k=4\/k=6\/k=9 then 4 else if k=7 then 8 else if k=8 then 2 else 0
def qbc (k:Int):Int:=if k=1 then 0 else if k=2\/k=5\/k=6\/k=14 then 2 else if k=3\/k=4\/k=7\/k=8\/k=10\/k=11 then 3 else if k=9\/k=12\/k=13 then 4 else -1
def qa3 (n a:Int):Bool:=decide (a<0\/n<=a)
def qcn (f:Fct) (n:Int):Int :=
 if qb2 f.kind=0 then 8
 else if (f.args.length:Int)≠qb2 f.kind then 1
 else if f.args.any (qa3 n)=true then 2
 else if f.kind=9/\f.ratio.right=false then 1
 else if f.kind≠9/\f.ratio.none=false then 1
 else 0
def qbi (l:List Step) (s:Step) (i:Nat):Int :=
 if qbc s.kind<0 then 8
 else if (s.args.length:Int)≠qbc s.kind then 1
 else if s.args.any (qa3 i)=true then 2
 else if s.kind=2/\s.ratio.right=false then 1
 else if s.kind≠2/\s.ratio.none=false then 1
 else if s.point=⟨#[]⟩ then 0
 else if qbt s.point=false then 6
 else if (l.take i).any (fun t=>decide (t.point=s.point))=true then 7
 else 0
def qbe (l:List Step):List Step->Nat->Int
 | [],_=>0
 | s :: r,i=>if qbi l s i≠0 then qbi l s i else qbe l r (i+1)
def qcb (n:Int):List Fct->Int
 | []=>0
 | f :: r=>if qcn f n≠0 then qcn f n else qcb n r
def Fig.err (f:Fig):Int:=if 40<f.steps.length\/8<f.goals.length then 4 else if qbe f.steps f.steps 0≠0 then qbe f.steps f.steps 0 else qcb f.steps.length f.goals
theorem RtZ.qk {w:World} {r:Rt} {z:QA} (h:RtZ w r z) (hr:r.right=true) (h1:r.num.length<=2) (h2:r.den.length<=2):QK 2 w z r.q:=by
 obtain ⟨e1,e2,e3⟩:=qri hr;obtain ⟨z1,z2,z3,z4,z5⟩:=h;refine ⟨⟨by rw [z1,e1],by rw [z2,e2],by rw [z3,e3],by rw [e2];exact z4,by rw [e3];exact z5⟩,?_⟩;unfold qsz;rw [e2,e3]
 omega
structure Bx where
 a:Rt
 b:Rt
 c:Rt
 d:Rt
structure Pt where
 x:Rt
 y:Rt
section
variable {w w' : World} {a : Option Addr} {c : Nat}
end
def Rt.short (r:Rt):Bool:=r.right&&decide (r.num.length<=2)&&decide (r.den.length<=2)
theorem Rt.short_iff {r:Rt}:r.short=true↔r.right=true/\r.num.length<=2/\r.den.length<=2:=by unfold Rt.short;simp [and_assoc]
theorem RtZ.sk {w:World} {r:Rt} {z:QA} (h:RtZ w r z) (hr:r.short=true):QK 2 w z r.q:=h.qk (Rt.short_iff.1 hr).1 (Rt.short_iff.1 hr).2.1 (Rt.short_iff.1 hr).2.2
def qb3 (x:Frm) (i:Nat):List Step->Option Frm
 | []=>some x
 | s :: r=>if bigF (nextF x s.kind s.args s.ratio.q i)=true then none else qb3 (putF x s.kind (nextF x s.kind s.args s.ratio.q i)) (i+1) r
def qjz (s:Step) (k:Nat):Prop:=1<=s.kind/\s.kind<=14/\needK s.kind<=s.args.length/\(∀ x∈s.args,0<=x/\x<(k:Int))/\(s.kind=2->s.ratio.right=true)
theorem qs7 {l:List Step} {s:Step} {k:Nat} (h:qbi l s k=0):qjz s k:=by
 unfold qbi at h;have h1:¬ qbc s.kind<0:=fun h1=>by rw [if_pos h1] at h;simp at h
 rw [if_neg h1] at h;have h2:¬ (s.args.length:Int)≠qbc s.kind:=fun h2=>by rw [if_pos h2] at h;simp at h
 rw [if_neg h2] at h;have h3:¬ s.args.any (qa3 k)=true:=fun h3=>by rw [if_pos h3] at h;simp at h
 rw [if_neg h3] at h;have h4:¬ (s.kind=2/\s.ratio.right=false):=fun h4=>by rw [if_pos h4] at h;simp at h
 refine ⟨?_,?_,?_,fun x hx=>?_,fun hk=>?_⟩
 ·
  apply Int.not_lt.1;intro hc;apply h1;unfold qbc
  repeat rw [if_neg (by omega)]
  decide
 ·
  apply Int.not_lt.1;intro hc;apply h1;unfold qbc
  repeat rw [if_neg (by omega)]
  decide
 ·
  have h5:(s.args.length:Int)=qbc s.kind:=by omega
  unfold needK
  split
  · next e=>rw [qbc,if_neg (by omega),if_pos (by omega)] at h5;omega
  ·
   split
   · next e=>rw [qbc,if_neg (by omega),if_neg (by omega),if_pos (by omega)] at h5;omega
   · omega
 ·
  have h6:qa3 k x=false:=by
   cases hb:qa3 k x with
   | false=>rfl
   | true=>exact absurd (List.any_eq_true.2 ⟨x,hx,hb⟩) h3
  unfold qa3 at h6;simp at h6
  omega
 ·
  cases hr:s.ratio.right with
  | true=>rfl
  | false=>exact absurd ⟨hk,hr⟩ h4
theorem qff {l:List Step}:∀ (r:List Step) (i:Nat),qbe l r i=0->∀ k s,r[k]? = some s->qbi l s (i+k)=0
 | [],_,_,k,s,hs=>by simp at hs
 | t :: r,i,h,k,s,hs=>by
  unfold qbe at h;have h0:qbi l t i=0:=by
   by_cases h0:qbi l t i=0
   · exact h0
   · rw [if_pos h0] at h;exact h
  rw [if_neg (fun e=>e h0)] at h
  cases k with
  | zero=>cases hs;exact h0
  | succ k =>
   have:=qff r (i+1) h k s (by simpa using hs)
   rwa [show i+(k+1)=i+1+k by omega]
theorem qdx {f:Fig} (h:f.err=0):f.steps.length<=40/\∀ k s,f.steps[k]? = some s->qjz s k:=by
 unfold Fig.err at h;have h1:¬ (40<f.steps.length\/8<f.goals.length):=fun h1=>by rw [if_pos h1] at h;simp at h
 rw [if_neg h1] at h;have h2:qbe f.steps f.steps 0=0:=by
  by_cases h2:qbe f.steps f.steps 0=0
  · exact h2
  · rw [if_pos h2] at h;exact h
 exact ⟨by omega,fun k s hs=>qs7 (l:=f.steps) (by have:=qff f.steps 0 h2 k s hs;rwa [Nat.zero_add] at this)⟩
theorem qam {a b:Int} (h:¬ a=b):(a==b)=false:=by simpa using h
theorem qor (k:Int) (w:World):Calls Tryz.prog 153 #[.int .i64 k] w fun e w'=>e=.returned (.int .i64 (qb2 k))/\w=w':=by
 by_cases hk:1<=k/\k<=9
 ·
  have hc:k=1\/k=2\/k=3\/k=4\/k=5\/k=6\/k=7\/k=8\/k=9:=by omega
  clear hk;rcases hc with rfl | rfl | rfl | rfl | rfl | rfl | rfl | rfl | rfl
  all_goals
   go_enter Tryz.func153,Tryz.ntmps153;go_wp2;go_ret;exact ⟨qcg (by decide),rfl⟩
 ·
  have h1:=qam (a:=k) (b:=1) (by omega);have h2:=qam (a:=k) (b:=2) (by omega);have h3:=qam (a:=k) (b:=3) (by omega);have h4:=qam (a:=k) (b:=4) (by omega);have h5:=qam (a:=k) (b:=5) (by omega);have h6:=qam (a:=k) (b:=6) (by omega);have h7:=qam (a:=k) (b:=7) (by omega);have h8:=qam (a:=k) (b:=8) (by omega);have h9:=qam (a:=k) (b:=9) (by omega);have hr:qb2 k=0:=by unfold qb2;rw [if_neg (by omega),if_neg (by omega),if_neg (by omega),if_neg (by omega)]
  rw [hr];clear hr hk;go_enter Tryz.func153,Tryz.ntmps153;go_wp2;go_ret;exact ⟨rfl,rfl⟩
theorem qo3 (k:Int) (w:World):Calls Tryz.prog 150 #[.int .i64 k] w fun e w'=>e=.returned (.int .i64 (qbc k))/\w=w':=by
 by_cases hk:1<=k/\k<=14
 ·
  have hc:k=1\/k=2\/k=3\/k=4\/k=5\/k=6\/k=7\/k=8\/k=9\/k=10\/k=11\/k=12\/k=13\/k=14:=by omega
  clear hk;rcases hc with rfl | rfl | rfl | rfl | rfl | rfl | rfl | rfl | rfl | rfl | rfl | rfl | rfl | rfl
  all_goals
   go_enter Tryz.func150,Tryz.ntmps150;go_wp2;go_ret;exact ⟨qcg (by decide),rfl⟩
 ·
  have h1:=qam (a:=k) (b:=1) (by omega);have h2:=qam (a:=k) (b:=2) (by omega);have h3:=qam (a:=k) (b:=3) (by omega);have h4:=qam (a:=k) (b:=4) (by omega);have h5:=qam (a:=k) (b:=5) (by omega);have h6:=qam (a:=k) (b:=6) (by omega);have h7:=qam (a:=k) (b:=7) (by omega);have h8:=qam (a:=k) (b:=8) (by omega);have h9:=qam (a:=k) (b:=9) (by omega);have h10:=qam (a:=k) (b:=10) (by omega);have h11:=qam (a:=k) (b:=11) (by omega);have h12:=qam (a:=k) (b:=12) (by omega);have h13:=qam (a:=k) (b:=13) (by omega);have h14:=qam (a:=k) (b:=14) (by omega);have hr:qbc k = -1:=by unfold qbc;rw [if_neg (by omega),if_neg (by omega),if_neg (by omega),if_neg (by omega)]
  rw [hr];clear hr hk;go_enter Tryz.func150,Tryz.ntmps150;go_wp2;go_ret;exact ⟨rfl,rfl⟩
theorem qj2 (k:Int):0<=qb2 k/\qb2 k<=8:=by unfold qb2;split <;> (try split) <;> (try split) <;> (try split) <;> omega
theorem qjg (k:Int):-1<=qbc k/\qbc k<=4:=by unfold qbc;split <;> (try split) <;> (try split) <;> (try split) <;> omega
theorem qqu (r:Rt) (na:Option Addr) (nc:Nat) (da:Option Addr) (dc:Nat) (w:World) (hl:r.num.length<=2000000) (hm:r.den.length<=2000000) :
  Calls Tryz.prog 154 #[r.val na nc da dc] w fun e w'=>e=.returned (.bool r.none)/\Below w.heap.size w w':=by
 obtain ⟨neg,num,den⟩:=r;unfold Rt.val Rt.none;dsimp only at hl hm ⊢;by_cases h1:num.length=0 <;> by_cases h2:den.length=0
 all_goals
  have e1:((num.length:Int)==0)=decide (num.length=0):=by rw [Bool.eq_iff_iff];simp
  have e2:((den.length:Int)==0)=decide (den.length=0):=by rw [Bool.eq_iff_iff];simp
  have d1:decide (num.length=0)=decide (num.length=0):=rfl;simp only [h1,h2,decide_true,decide_false] at e1 e2;have HH:(decide (num.length=0),decide (den.length=0))=(decide (num.length=0),decide (den.length=0)):=rfl;simp only [h1,h2,decide_true,decide_false] at HH ⊢;clear HH d1
  cases neg
  all_goals
   have H1:=Hd h1;have H2:=Hd h2;clear h1 h2;go_enter Tryz.func154,Tryz.ntmps154;go_wp2;go_ret;exact ⟨rfl,brf.alloc (nlr _) _⟩
theorem qqv (r:Rt) (na:Option Addr) (nc:Nat) (da:Option Addr) (dc:Nat) (w:World) (hl:r.num.length<=2000000) (hm:r.den.length<=2000000) :
  Calls Tryz.prog 151 #[r.val na nc da dc] w fun e w'=>e=.returned (.bool r.none)/\Below w.heap.size w w':=by
 obtain ⟨neg,num,den⟩:=r;unfold Rt.val Rt.none;dsimp only at hl hm ⊢;by_cases h1:num.length=0 <;> by_cases h2:den.length=0
 all_goals
  have e1:((num.length:Int)==0)=decide (num.length=0):=by rw [Bool.eq_iff_iff];simp
  have e2:((den.length:Int)==0)=decide (den.length=0):=by rw [Bool.eq_iff_iff];simp
  have d1:decide (num.length=0)=decide (num.length=0):=rfl;simp only [h1,h2,decide_true,decide_false] at e1 e2;have HH:(decide (num.length=0),decide (den.length=0))=(decide (num.length=0),decide (den.length=0)):=rfl;simp only [h1,h2,decide_true,decide_false] at HH ⊢;clear HH d1
  cases neg
  all_goals
   have H1:=Hd h1;have H2:=Hd h2;clear h1 h2;go_enter Tryz.func151,Tryz.ntmps151;go_wp2;go_ret;exact ⟨rfl,brf.alloc (nlr _) _⟩
end Go.Proofs.YtfaalkneigpcnaaGreatDoor
