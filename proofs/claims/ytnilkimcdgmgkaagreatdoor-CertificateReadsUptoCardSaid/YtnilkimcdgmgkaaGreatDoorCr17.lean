/- Walk: a term read from a text (the program). -/
import Derived.Test.YtnilkimcdgmgkaaGreatDoorCr16
import Derived.Test.YtnilkimcdgmgkaaGreatDoorCr9
import Derived.Test.YtnilkimcdgmgkaaGreatDoorCr11
import Derived.Test.YtnilkimcdgmgkaaGreatDoorCr12
set_option linter.all false
set_option maxRecDepth 100000
set_option maxHeartbeats 4000000
namespace Go.Proofs.YtnilkimcdgmgkaaGreatDoor
open Go.RowKit
def zQA:QA:=⟨false,0,none,0,0,none,0⟩
theorem qtc {n d:Nat} (hn:(limbs n).length<=1000) (hd:(limbs d).length<=1000):qsz (qv false n d)<=1000:=by
 obtain ⟨h1,h2⟩:=qnm false n d;refine qjs (Nat.le_trans (qaj h1) hn) ?_;by_cases h0:d=0
 ·
  subst h0;exact Nat.le_trans (qaj h2) (Nat.le_trans (qan (show 0+1<65536 ^ 1 by decide)) (by decide))
 ·
  have:(qv false n d).den<=d:=by
   unfold qv;exact (qj6 _ d h0).2
  exact Nat.le_trans (qaj this) hd
theorem Kp.wide {R:World->Prop} {B B' T T':Nat} {w:World} (h:Kp R B T w) (hB:B'<=B) (hT:T<=T'):Kp R B' T' w:=fun V hV=>h V fun p v h1 h2=>hV p v (Nat.le_trans hB h1) (ltl h2 hT)
theorem qou {l d r:List UInt8} (h:numG l=.ok d r) (w:World):Calls Tryz.prog 181 #[.string (ofL d)] w (RetNE (limbs (decL d)) 0 w):=by
 obtain ⟨h1,h2,h3,h4⟩:=qgg h;have e:(ofL d).data.toList=d:=qed d;have hs:(ofL d).size=d.length:=rfl;have h0:0<(ofL d).size:=by omega
 have:=qpd (ofL d) w h0 (by omega) (by rw [e];exact h3) (by
  rcases h4 with h4 | h4
  · left;omega
  ·
   right;intro hc;apply h4;have hg:=qda h0;rw [e] at hg;rw [hg];congr 1;exact UInt8.toNat_inj.1 (by have:(48:UInt8).toNat=48:=rfl;omega))
 rwa [e] at this
theorem qyj (w:World):Calls Tryz.prog 181 #[.string ⟨#[49]⟩] w (RetNE (limbs 1) 0 w):=by
 have:=qpd ⟨#[49]⟩ w (by decide) (by decide) (by decide) (.inl rfl);exact this
def RetC (G:Got Rat) (g mb:Nat) (s:ByteArray) (w:World) (e:Ending) (w':World):Prop:=∃ x:QA,e=.returned (.agg #[.bool x.neg,.slice x.a x.n x.c,.slice x.b x.m x.d])/\(∀ q r,G=.ok q r->Kp (fun V=>QK 1000 V x q) w.heap.size w'.heap.size w')/\(∀ k er,G=.bad k er->x=zQA)/\StG w' g s mb G/\Fg g w w'
theorem zz52 {P:Prop} (h:P:=by
 have hqs:=Hd (qtc hPs.out hQs.out);obtain ⟨qq,hqq⟩:∃ q,qv false P Q=q:=⟨_,rfl⟩
 rw [hqq] at CM hGe hqs;obtain ⟨tr,htr⟩:∃ t,trip qq=t:=⟨_,rfl⟩
 rw [htr] at CM;obtain ⟨sg,N,D⟩:=tr;unfold trip at htr;injection htr with htr1 htr2
 injection htr2 with htr2 htr3
 replace CM:=Hd CM;replace htr1:=Hd htr1;replace htr2:=Hd htr2;replace htr3:=Hd htr3;clear hN5 hN4' hvP hvQ hszP hszQ hq0 hqq;go_wp2_with fail;refine CM.out.mono ?_;rintro e w6 ⟨na,nc,da,dc,rfl,hVn,hVd,hb6⟩;dsimp only at hVn hVd ⊢;have hz6:=hz5.below' hb6;have hR6:=hR5.below hb6;have hf6:=hf5.call hb6;have hK6:Kp (fun V=>QK 1000 V ⟨sg,(limbs N).length,na,nc,(limbs D).length,da,dc⟩ qq) w5.heap.size w6.heap.size w6:=Kp.made fun V hV=>⟨⟨htr1.out.symm,by rw [htr2.out],by rw [htr3.out],by rw [htr2.out];exact hVn V hV,by rw [htr3.out];exact hVd V hV⟩,hqs.out⟩
 have hg25:g2<w5.heap.size:=hz5.lt;obtain ⟨y0,y1,y2⟩:=cq3 hz6;obtain ⟨f0,f1,f2⟩:=fq3 hz6;have hgl3:=hz6.lt;obtain ⟨cA,hcA⟩:∃ c:Array Value,c=#[.bool sg,.slice na (limbs N).length nc,.slice da (limbs D).length dc]:=⟨_,rfl⟩
 have hRe2:=Hd (show RdA ((((w6.setCell ⟨g2,0,none⟩ (.bool sg)).setCell ⟨g2,1,none⟩ (.slice na (limbs N).length nc)).setCell ⟨g2,2,none⟩ (.slice da (limbs D).length dc)).alloc (.cells cA 76)) g s mb p2 0 0 from bA (bF (by have:=hgg.out;omega) (bF (by have:=hgg.out;omega) (bF (by have:=hgg.out;omega) hR6))));have hfE:=Hd ((((hf6.setc (g:=g2) (i:=0) (u:=.bool sg) (.inr hg2w.out)).setc (g:=g2) (i:=1) (u:=.slice na (limbs N).length nc) (.inr hg2w.out)).setc (g:=g2) (i:=2) (u:=.slice da (limbs D).length dc) (.inr hg2w.out)).alloc (.cells cA 76));have hFz:=Hd ((blk3 (x:=.bool sg) (y:=.slice na (limbs N).length nc) (z:=.slice da (limbs D).length dc) hz6).alloc (.cells cA 76))
 have hKE:=Hd ((((hK6.setc (g:=g2) (i:=0) (u:=.bool sg) (.inl hg25)).setc (g:=g2) (i:=1) (u:=.slice na (limbs N).length nc) (.inl hg25)).setc (g:=g2) (i:=2) (u:=.slice da (limbs D).length dc) (.inl hg25)).alloc (o:=.cells cA 76));rw [hcA] at hRe2 hfE hFz hKE;have hs5:=Hd hf5.size;have hgl4:g2<w6.heap.size+1:=by omega
 clear CM hz5 hR5 hb6 hVn hVd hcA hz6 hR6 hf6 hK6 hg25 hf5 htr1 htr2 htr3;go_wp2;have hFF:=hFz.out;obtain ⟨e0,e1,e2⟩:=cq3 hFF;refine bodyPost_ret (v:=.agg #[.bool sg,.slice na (limbs N).length nc,.slice da (limbs D).length dc]) (by simp [results,Tryz.results141,go_sem,e0,e1,e2]) rfl ?_;exact ⟨⟨sg,(limbs N).length,na,nc,(limbs D).length,da,dc⟩,rfl,fun q r e=>(by injection hGe.out.symm.trans e with e1 e2;rw [<- e1];exact hKE.out.wide hs5.out (by simp)),fun k er e=>(by cases hGe.out.symm.trans e),by rw [hGe.out];exact ⟨p2,hp2,rfl,hRe2.out⟩,hfE.out⟩
 ):P:=h
theorem qmo (g mb a:Nat) (s:ByteArray) (w:World) (h:RdA w g s mb a 0 0) (ha:a<=s.size) (hs:s.size<=281474976710656) :
  Calls Tryz.prog 141 #[.pointer (some ⟨g,0,none⟩)] w (RetC (cofG (tl s a)) g mb s w):=by
 obtain ⟨GG,hGG⟩:∃ G,cofG (tl s a)=G:=⟨_,rfl⟩
 rw [hGG];unfold cofG at hGG;have hgg0:=h.lt;have CN:=Hd (fun W (hW:RdA W g s mb a 0 0)=>qhw g mb a s W hW ha hs);have hok:=fun d r (e:numG (tl s a)=.ok d r) W=>qou e W
 have hok2:=fun d r (e:numG (tl s a)=.ok d r)=>qgg e
 obtain ⟨NG,hNG⟩:∃ G,numG (tl s a)=G:=⟨_,rfl⟩
 rw [hNG] at CN hGG hok hok2;replace CN:=Hd CN.out;replace hGG:=Hd hGG;replace hNG:=Hd hNG;replace hok:=Hd hok;replace hok2:=Hd hok2;have H:=Hd (fun o=>show RdA (w.alloc o) g s mb a 0 0 from bA h);clear h;go_enter Tryz.func141,Tryz.ntmps141;go_wp2_with fail;refine qah (fun W=>Blk W w.heap.size 76 #[.bool false,.slice none 0 0,.slice none 0 0]/\RdA W g s mb a 0 0/\Fg g w W) ⟨Blk.new w _ _,H.out _,(Fr.refl _ _).alloc _⟩ ?_;rintro w0 ⟨hz0,h0,hf0⟩;obtain ⟨g2,hg2⟩:∃ q,w.heap.size=q:=⟨_,rfl⟩
 have hg2w:Hid (w.heap.size<=g2):=Hd (by omega);have hgg:Hid (g<g2):=Hd (by omega);rw [hg2] at hz0 ⊢;replace hg2:=Hd hg2;clear hgg0 H;refine (CN.out w0 h0).mono ?_;rintro e w1 ⟨t,rfl,ht,hS,hf1⟩;have hz1:Blk w1 g2 76 #[.bool false,.slice none 0 0,.slice none 0 0]:=Blk.fr hz0 hf1 (by have:=hgg.out;omega);have hbd1:Below w1.heap.size w1 w1.drew:=brf.drew;have hf2:=(hf0.trans hf1).call hbd1;clear CN hz0 h0 hf0 hf1 hbd1
 cases NG with
 | bad k er =>
  have hGe:=Hd (show GG=.bad k er from hGG.out.symm);obtain ⟨pe,hpe,hke,h0e,hRe⟩:=hS;obtain ⟨z0,z1,z2,z3,z4⟩:=cq5 hRe;have hl:=hRe.lt;have hzE:(er==0)=false:=by rw [beq_eq_false_iff_ne];exact h0e
  have hzE2:(er != 0)=true:=by rw [bne,hzE];rfl
  replace h0e:=Hd h0e;have hz3:=Hd (show Blk w1.drew g2 76 #[.bool false,.slice none 0 0,.slice none 0 0] from hz1);have hf3:=Hd hf2;have hRe':RdA w1.drew g s mb pe er ((s.size-k:Nat):Int):=hRe;clear hz1 hf2 hok hok2 ht hGG hRe;have hRe:=hRe';clear hRe';go_wp2;refine wrx (S:=(fun x=>x=w1.drew)) [(0,.q),(1,.q),(2,.q),(3,.q),(4,.q),(5,.p)] (rfl) ?_
  iterate 5 (refine qab rfl rfl fun K hK=>xq ?_;go_simp;refine hK _ _ ?_;clear hK K)
  iterate 1 (refine qae rfl rfl fun K hK=>xp ?_;go_simp;refine hK _ _ ?_;clear hK K)
  refine qac ?_;refine qak (fun W=>Blk W g2 76 #[.bool false,.slice none 0 0,.slice none 0 0]/\RdA W g s mb pe er ((s.size-k:Nat):Int)/\Fg g w W) ⟨hz3.out,hRe,hf3.out⟩ ?_;clear hz3 hRe hf3 z0 z1 z2 z3 z4 hl;rintro w2 ⟨hz3,hRe,hf3⟩;replace hz3:=Hd hz3;replace hf3:=Hd hf3
  -- the end behind an error: the result is the empty number
  have hzz:=hz3.out;obtain ⟨y0,y1,y2⟩:=cq3 hzz;obtain ⟨f0,f1,f2⟩:=fq3 hzz;have hgl3:=hzz.lt;obtain ⟨z0,z1,z2,z3,z4⟩:=cq5 hRe;have hl3:=Blk.lt hRe;have hRe2:=Hd (show RdA (((w2.setCell ⟨g2,0,none⟩ (.bool false)).setCell ⟨g2,1,none⟩ (.slice none 0 0)).setCell ⟨g2,2,none⟩ (.slice none 0 0)) g s mb pe er ((s.size-k:Nat):Int) from bF (by have:=hgg.out;omega) (bF (by have:=hgg.out;omega) (bF (by have:=hgg.out;omega) hRe)));have hfE:=Hd (((hf3.out.setc (g:=g2) (i:=0) (u:=.bool false) (.inr hg2w.out)).setc (g:=g2) (i:=1) (u:=.slice none 0 0) (.inr hg2w.out)).setc (g:=g2) (i:=2) (u:=.slice none 0 0) (.inr hg2w.out));have hFz:=Hd (blk3 (x:=.bool false) (y:=.slice none 0 0) (z:=.slice none 0 0) hzz);clear hRe hzz;go_wp2;have hFF:=hFz.out;obtain ⟨e0,e1,e2⟩:=cq3 hFF
  refine bodyPost_ret (v:=.agg #[.bool false,.slice none 0 0,.slice none 0 0]) (by simp [results,Tryz.results141,go_sem,e0,e1,e2]) rfl ?_;exact ⟨zQA,rfl,fun q r e=>(by cases hGe.out.symm.trans e),fun _ _ _=>rfl,by rw [hGe.out];exact ⟨pe,hpe,hke,h0e.out,hRe2.out⟩,hfE.out⟩
 | ok d r =>
  have htd:=ht d r rfl;subst htd;obtain ⟨p1,hp1,hr1,hR1⟩:=hS;have hG1:GG=if r[0]? = some 47 then (numG (r.drop 1)).bnd fun q r2=>if decL q=0 then .bad (r.drop 1).length 3 else .ok (qv false (decL d) (decL q)) r2 else .ok (qv false (decL d) 1) r:=hGG.out.symm
  have CRP:=Hd (hok.out d r rfl);obtain ⟨o1,o2,o3,_⟩:=hok2.out d r rfl;have hPs:=Hd (Nat.le_trans (qfs o3) o2);obtain ⟨P,hP⟩:∃ P,decL d=P:=⟨_,rfl⟩
  rw [hP] at hG1 CRP hPs;replace hP:=Hd hP;have CK:=Hd (qck g mb p1 s 0 0 47 w1.drew hR1 hp1 hs);have hst:=qb3 (tl s p1) 47 (z:=47) rfl;obtain ⟨bp,hbp⟩:∃ b,nxtB (tl s p1) 47=b:=⟨_,rfl⟩
  rw [hbp] at CK hst;rw [hr1] at hG1;replace hbp:=Hd hbp;replace hst:=Hd hst;replace hG1:=Hd hG1;replace hr1:=Hd hr1;have hz2:=Hd (show Blk w1.drew g2 76 #[.bool false,.slice none 0 0,.slice none 0 0] from hz1);have hR2:=Hd (show RdA w1.drew g s mb p1 0 0 from hR1);obtain ⟨z0,z1,z2,z3,z4⟩:=cq5 hR1;have hl:=hR1.lt;clear hz1 hR1 hok hok2 ht hGG o1 o2 o3;go_wp2;refine wrx (S:=(fun x=>x=w1.drew)) [(0,.q),(1,.q),(2,.q),(3,.q),(4,.q),(5,.p)] (rfl) ?_
  iterate 5 (refine qab rfl rfl fun K hK=>xq ?_;go_simp;refine hK _ _ ?_;clear hK K)
  iterate 1 (refine qae rfl rfl fun K hK=>xp ?_;go_simp;refine hK _ _ ?_;clear hK K)
  refine qac ?_;go_wp2_with fail;refine CK.out.mono ?_;rintro e w2 ⟨rfl,hb2⟩;have hRp:=hR2.out.below hb2;have hz2':=Hd (hz2.out.below' hb2);have hf2':=Hd (hf2.call hb2);clear CK z0 z1 z2 z3 z4 hl hz2 hR2 hf2 hb2
  cases bp
  ·
   have h47:¬ (tl s p1)[0]? = some 47:=by have:=hst.out;simpa using this.symm
   have hG2:=hG1.out;rw [if_neg h47] at hG2;obtain ⟨p2,hpp⟩:∃ q,q=p1:=⟨_,rfl⟩
   subst hpp;have hp2:=hp1;obtain ⟨Q,hQ⟩:∃ Q,Q=1:=⟨_,rfl⟩
   have hQs:Hid ((limbs Q).length<=1000):=Hd (by rw [hQ,qfp];decide);have CRQ:=Hd (fun W=>qyj W);rw [<- hQ] at hG2 CRQ;replace hG2:=Hd hG2;replace hQ:=Hd hQ;have hz3:=hz2';have hf3:=hf2';have hRg:=hRp;obtain ⟨z0,z1,z2,z3,z4⟩:=cq5 hRg;have hl3:=hRg.lt;clear hz2' hf2' hRp h47 hp1
   -- both numerals are read: their strings are sp and sq,P and Q their values;world w2,place p2
   have CP:=Hd CRP.out;have CQ:=Hd CRQ.out;go_wp2_with fail;refine (CP.out w2).mono ?_;rintro e w4 ⟨a4,c4,rfl,hV4,hb4⟩;have hN4:=hV4 w4 (New.refl _ _);clear CP hV4 z0 z1 z2 z3 z4;go_wp2_with fail;refine (CQ.out w4).mono ?_;rintro e w5 ⟨a5,c5,rfl,hV5,hb5⟩;have hN5:=hV5 w5 (New.refl _ _);have hN4':=hN4.ext (xbw hb5);have hb45:=bth hb4 hb5;have hz5:=hz3.out.below' hb45;have hR5:=hRg.below hb45;have hf5:=hf3.out.call hb45;have hszQ:=hQs.out;have hszP:=hPs.out;clear CQ hV5 hN4 hb4 hb5 hb45 hRg;have hvP:=qaa P;have hvQ:=qaa Q;by_cases hq0:Q=0
   ·
    have hGe:=Hd ((fun e:Q=0=>absurd (hQ.out.symm.trans e) (by decide):Q=0->GG=.bad (s.size-p2) 3) hq0);subst hq0;have CM:=Hd (ql0 false false (limbs P) (limbs 0) a4 a5 c4 c5 w5 hN5 hvQ (by omega));rw [show (limbs 0).length=0 by rw [qai];rfl] at CM ⊢;clear hN5 hN4' hvP hvQ hszP hszQ;go_wp2_with fail;refine CM.out.mono ?_;rintro e w6 ⟨rfl,hb6⟩;have hz6:=hz5.below' hb6;have hR6:=hR5.below hb6;have hf6:=hf5.call hb6;clear CM hz5 hR5 hf5 hb6;go_wp2_with fail;refine qah (fun W=>Blk W g2 76 #[.bool false,.slice none 0 0,.slice none 0 0]/\Blk W w6.heap.size 76 #[.bool false,.slice none 0 0,.slice none 0 0]/\RdA W g s mb p2 0 0/\Fg g w W) ⟨hz6.alloc _,Blk.new w6 _ _,bA hR6,hf6.alloc _⟩ ?_;rintro w7 ⟨hz7,hy7,hR7,hf7⟩;have hgy:Hid (g2<w6.heap.size):=Hd hz6.lt;obtain ⟨g3,hg3⟩:∃ q,w6.heap.size=q:=⟨_,rfl⟩
    rw [hg3] at hgy hy7 ⊢;replace hg3:=Hd hg3;clear hz6 hR6 hf6;refine (qdd g mb p2 s 3 (p2:Int) w7 hR7).mono ?_;rintro e w8 ⟨rfl,hR8,hf8⟩;have hz8:Blk w8 g2 76 #[.bool false,.slice none 0 0,.slice none 0 0]:=Blk.fr hz7 hf8 (by have:=hgg.out;omega);have hy8:Blk w8 g3 76 #[.bool false,.slice none 0 0,.slice none 0 0]:=Blk.fr hy7 hf8 (by have:=hgg.out;have:=hgy.out;omega);obtain ⟨y0,y1,y2⟩:=cq3 hz8;obtain ⟨f0,f1,f2⟩:=fq3 hz8;obtain ⟨x0,x1,x2⟩:=cq3 hy8;have hgl3:=hz8.lt;have hgl4:=hy8.lt;have hRe2:=Hd (show RdA (((w8.setCell ⟨g2,0,none⟩ (.bool false)).setCell ⟨g2,1,none⟩ (.slice none 0 0)).setCell ⟨g2,2,none⟩ (.slice none 0 0)) g s mb p2 3 (p2:Int) from bF (by have:=hgg.out;omega) (bF (by have:=hgg.out;omega) (bF (by have:=hgg.out;omega) hR8)))
    have hfE:=Hd ((((hf7.trans hf8).setc (g:=g2) (i:=0) (u:=.bool false) (.inr hg2w.out)).setc (g:=g2) (i:=1) (u:=.slice none 0 0) (.inr hg2w.out)).setc (g:=g2) (i:=2) (u:=.slice none 0 0) (.inr hg2w.out));have hFz:=Hd (blk3 (x:=.bool false) (y:=.slice none 0 0) (z:=.slice none 0 0) hz8);clear hz7 hy7 hR7 hf7 hf8 hR8 hz8 hy8;go_wp2;have hFF:=hFz.out;obtain ⟨e0,e1,e2⟩:=cq3 hFF;refine bodyPost_ret (v:=.agg #[.bool false,.slice none 0 0,.slice none 0 0]) (by simp [results,Tryz.results141,go_sem,e0,e1,e2]) rfl ?_;exact ⟨zQA,rfl,fun q r e=>(by cases hGe.out.symm.trans e),fun _ _ _=>rfl,by rw [hGe.out];exact ⟨p2,hp2,by omega,by decide,by rw [show s.size-(s.size-p2)=p2 by omega];exact hRe2.out⟩,hfE.out⟩
   ·
    have CM:=qod false false (limbs P) (limbs Q) P Q a4 a5 c4 c5 w5 hN4' hN5 hvP hvQ (by omega) (by omega) hq0;rw [show (false != false)=false from rfl,qbo] at CM;have hGe:=Hd ((fun _:¬ Q=0=>hG2.out) hq0);exact zz52
  ·
   have h47:(tl s p1)[0]? = some 47:=by have:=hst.out;simpa using this.symm
   have hp1l:p1<s.size:=by
    apply Nat.lt_of_not_le;intro hle;rw [qbn hle] at h47
    cases h47
   have hG2:=hG1.out;rw [if_pos h47,qbi] at hG2;have hpc:((p1+1:Nat):Int)=(p1:Int)+1:=by omega
   obtain ⟨z0,z1,z2,z3,z4⟩:=cq5 hRp;have hl:=hRp.lt;have f1:=Blk.frozen hRp 1;have hR3:=Hd (hRp.set1 (p1+1));have hz3':=Hd (show Blk (w2.setCell ⟨g,1,none⟩ (.int .i64 ((p1+1:Nat):Int))) g2 76 #[.bool false,.slice none 0 0,.slice none 0 0] from bF (by have:=hgg.out;omega) hz2'.out);have hf3':=Hd (hf2'.out.setc (g:=g) (i:=1) (u:=.int .i64 ((p1+1:Nat):Int)) (.inl rfl));unfold RdA at hR3;rw [hpc] at hR3 hz3' hf3';replace hG2:=Hd hG2;clear hRp hz2' hf2' h47;go_wp2_with fail;refine qah (fun W=>RdA W g s mb (p1+1) 0 0/\Blk W g2 76 #[.bool false,.slice none 0 0,.slice none 0 0]/\Fg g w W) ⟨by unfold RdA;rw [hpc];exact hR3.out,hz3'.out,hf3'.out⟩ ?_;clear hR3 hz3' hf3' z0 z1 z2 z3 z4 f1 hl;rintro w3 ⟨hR3,hz3,hf3⟩;have CE:=qhw g mb (p1+1) s w3 hR3 (by omega) hs;have hokq:=fun d r (e:numG (tl s (p1+1))=.ok d r) W=>qou e W
   have hokq2:=fun d r (e:numG (tl s (p1+1))=.ok d r)=>qgg e
   obtain ⟨QG,hQG⟩:∃ G,numG (tl s (p1+1))=G:=⟨_,rfl⟩
   have hG3:=hG2.out;rw [hQG] at CE hokq hokq2 hG3;replace hokq:=Hd hokq;replace hokq2:=Hd hokq2;rw [qaq] at hG3;clear hQG hG2;refine CE.mono ?_;rintro e w4 ⟨t2,rfl,ht2,hS4,hf4⟩;have hz4:Blk w4 g2 76 #[.bool false,.slice none 0 0,.slice none 0 0]:=Blk.fr hz3 hf4 (by have:=hgg.out;omega);have hf5:=hf3.trans hf4;clear CE hz3 hf3 hf4 hR3
   cases QG with
   | bad k er =>
    have hGe:=Hd (show GG=.bad k er from hG3);obtain ⟨pe,hpe,hke,h0e,hRe⟩:=hS4;have hzE:(er==0)=false:=by rw [beq_eq_false_iff_ne];exact h0e
    have hzE2:(er != 0)=true:=by rw [bne,hzE];rfl
    replace h0e:=Hd h0e;have hz3:=Hd hz4;have hf3:=Hd hf5;clear hz4 hf5 hokq hokq2 ht2 hG3
    -- the end behind an error: the result is the empty number
    have hzz:=hz3.out;obtain ⟨y0,y1,y2⟩:=cq3 hzz;obtain ⟨f0,f1,f2⟩:=fq3 hzz;have hgl3:=hzz.lt;obtain ⟨z0,z1,z2,z3,z4⟩:=cq5 hRe;have hl3:=Blk.lt hRe;have hRe2:=Hd (show RdA (((w4.setCell ⟨g2,0,none⟩ (.bool false)).setCell ⟨g2,1,none⟩ (.slice none 0 0)).setCell ⟨g2,2,none⟩ (.slice none 0 0)) g s mb pe er ((s.size-k:Nat):Int) from bF (by have:=hgg.out;omega) (bF (by have:=hgg.out;omega) (bF (by have:=hgg.out;omega) hRe)));have hfE:=Hd (((hf3.out.setc (g:=g2) (i:=0) (u:=.bool false) (.inr hg2w.out)).setc (g:=g2) (i:=1) (u:=.slice none 0 0) (.inr hg2w.out)).setc (g:=g2) (i:=2) (u:=.slice none 0 0) (.inr hg2w.out));have hFz:=Hd (blk3 (x:=.bool false) (y:=.slice none 0 0) (z:=.slice none 0 0) hzz);clear hRe hzz;go_wp2;have hFF:=hFz.out;obtain ⟨e0,e1,e2⟩:=cq3 hFF
    refine bodyPost_ret (v:=.agg #[.bool false,.slice none 0 0,.slice none 0 0]) (by simp [results,Tryz.results141,go_sem,e0,e1,e2]) rfl ?_;exact ⟨zQA,rfl,fun q r e=>(by cases hGe.out.symm.trans e),fun _ _ _=>rfl,by rw [hGe.out];exact ⟨pe,hpe,hke,h0e.out,hRe2.out⟩,hfE.out⟩
   | ok d2 r2 =>
    have htd:=ht2 d2 r2 rfl;subst htd;obtain ⟨p2,hp2,hr2,hRg⟩:=hS4;have hG4:GG=if decL d2=0 then .bad (s.size-(p1+1)) 3 else .ok (qv false P (decL d2)) r2:=hG3
    have CRQ:=Hd (hokq.out d2 r2 rfl);obtain ⟨o1,o2,o3,_⟩:=hokq2.out d2 r2 rfl;have hQs:=Hd (Nat.le_trans (qfs o3) o2);obtain ⟨Q,hQ⟩:∃ Q,decL d2=Q:=⟨_,rfl⟩
    rw [hQ,hr2] at hG4;rw [hQ] at CRQ hQs;replace hG4:=Hd hG4;replace hQ:=Hd hQ;have hz3:=Hd hz4;have hf3:=Hd hf5;obtain ⟨z0,z1,z2,z3,z4⟩:=cq5 hRg;have hl3:=hRg.lt;clear hz4 hf5 hokq hokq2 ht2 hG3 o1 o2 o3 hr2
    -- both numerals are read: their strings are sp and sq,P and Q their values;world w4,place p2
    have CP:=Hd CRP.out;have CQ:=Hd CRQ.out;go_wp2_with fail;refine (CP.out w4).mono ?_;rintro e w4 ⟨a4,c4,rfl,hV4,hb4⟩;have hN4:=hV4 w4 (New.refl _ _);clear CP hV4 z0 z1 z2 z3 z4;go_wp2_with fail;refine (CQ.out w4).mono ?_;rintro e w5 ⟨a5,c5,rfl,hV5,hb5⟩;have hN5:=hV5 w5 (New.refl _ _);have hN4':=hN4.ext (xbw hb5);have hb45:=bth hb4 hb5;have hz5:=hz3.out.below' hb45;have hR5:=hRg.below hb45;have hf5:=hf3.out.call hb45;have hszQ:=hQs.out;have hszP:=hPs.out;clear CQ hV5 hN4 hb4 hb5 hb45 hRg;have hvP:=qaa P;have hvQ:=qaa Q;by_cases hq0:Q=0
    ·
     have hGe:=Hd ((fun e:Q=0=>hG4.out.trans (if_pos e)) hq0);subst hq0;have CM:=Hd (ql0 false false (limbs P) (limbs 0) a4 a5 c4 c5 w5 hN5 hvQ (by omega));rw [show (limbs 0).length=0 by rw [qai];rfl] at CM ⊢;clear hN5 hN4' hvP hvQ hszP hszQ;go_wp2_with fail;refine CM.out.mono ?_;rintro e w6 ⟨rfl,hb6⟩;have hz6:=hz5.below' hb6;have hR6:=hR5.below hb6;have hf6:=hf5.call hb6;clear CM hz5 hR5 hf5 hb6;go_wp2_with fail;refine qah (fun W=>Blk W g2 76 #[.bool false,.slice none 0 0,.slice none 0 0]/\Blk W w6.heap.size 76 #[.bool false,.slice none 0 0,.slice none 0 0]/\RdA W g s mb p2 0 0/\Fg g w W) ⟨hz6.alloc _,Blk.new w6 _ _,bA hR6,hf6.alloc _⟩ ?_;rintro w7 ⟨hz7,hy7,hR7,hf7⟩;have hgy:Hid (g2<w6.heap.size):=Hd hz6.lt;obtain ⟨g3,hg3⟩:∃ q,w6.heap.size=q:=⟨_,rfl⟩
     rw [hg3] at hgy hy7 ⊢;replace hg3:=Hd hg3;clear hz6 hR6 hf6;refine (qdd g mb p2 s 3 ((p1+1):Int) w7 hR7).mono ?_;rintro e w8 ⟨rfl,hR8,hf8⟩;have hz8:Blk w8 g2 76 #[.bool false,.slice none 0 0,.slice none 0 0]:=Blk.fr hz7 hf8 (by have:=hgg.out;omega);have hy8:Blk w8 g3 76 #[.bool false,.slice none 0 0,.slice none 0 0]:=Blk.fr hy7 hf8 (by have:=hgg.out;have:=hgy.out;omega);obtain ⟨y0,y1,y2⟩:=cq3 hz8;obtain ⟨f0,f1,f2⟩:=fq3 hz8;obtain ⟨x0,x1,x2⟩:=cq3 hy8;have hgl3:=hz8.lt;have hgl4:=hy8.lt;have hRe2:=Hd (show RdA (((w8.setCell ⟨g2,0,none⟩ (.bool false)).setCell ⟨g2,1,none⟩ (.slice none 0 0)).setCell ⟨g2,2,none⟩ (.slice none 0 0)) g s mb p2 3 ((p1+1):Int) from bF (by have:=hgg.out;omega) (bF (by have:=hgg.out;omega) (bF (by have:=hgg.out;omega) hR8)))
     have hfE:=Hd ((((hf7.trans hf8).setc (g:=g2) (i:=0) (u:=.bool false) (.inr hg2w.out)).setc (g:=g2) (i:=1) (u:=.slice none 0 0) (.inr hg2w.out)).setc (g:=g2) (i:=2) (u:=.slice none 0 0) (.inr hg2w.out));have hFz:=Hd (blk3 (x:=.bool false) (y:=.slice none 0 0) (z:=.slice none 0 0) hz8);clear hz7 hy7 hR7 hf7 hf8 hR8 hz8 hy8;go_wp2;have hFF:=hFz.out;obtain ⟨e0,e1,e2⟩:=cq3 hFF;refine bodyPost_ret (v:=.agg #[.bool false,.slice none 0 0,.slice none 0 0]) (by simp [results,Tryz.results141,go_sem,e0,e1,e2]) rfl ?_;exact ⟨zQA,rfl,fun q r e=>(by cases hGe.out.symm.trans e),fun _ _ _=>rfl,by rw [hGe.out];exact ⟨p2,hp2,by omega,by decide,by rw [show s.size-(s.size-(p1+1))=(p1+1) by omega];exact hRe2.out⟩,hfE.out⟩
    ·
     have CM:=qod false false (limbs P) (limbs Q) P Q a4 a5 c4 c5 w5 hN4' hN5 hvP hvQ (by omega) (by omega) hq0;rw [show (false != false)=false from rfl,qbo] at CM;have hGe:=Hd ((fun e:¬ Q=0=>hG4.out.trans (if_neg e)) hq0);exact zz52
theorem Kp.fr {R:World->Prop} {B T:Nat} {w w':World} {Y:Nat->Prop} (h:Kp R B T w) (hf:Fr Y w w') (hY:∀ b,Y b->b<B\/T<=b):Kp R B T w':=fun V hV=>h V fun p v h1 h2 h3 =>
 hV p v h1 h2 (hf.agr p v (fun hy=>by have:=hY _ hy;omega) h3)
theorem Kp.both {R R':World->Prop} {B T:Nat} {w:World} (h:Kp R B T w) (k:Kp R' B T w):Kp (fun V=>R V/\R' V) B T w:=fun V hV=>⟨h V hV,k V hV⟩
theorem StR.set2 {w:World} {g mb g2 i:Nat} {s:ByteArray} {l:List UInt8} {u:Value} (h:StR w g s mb l) (hg:g≠g2):StR (w.setCell ⟨g2,i,none⟩ u) g s mb l:=by obtain ⟨a,h1,h2,h3⟩:=h;exact ⟨a,h1,h2,bF hg h3⟩
theorem StE.set2 {w:World} {g mb g2 i:Nat} {s:ByteArray} {k:Nat} {e:Int} {u:Value} (h:StE w g s mb k e) (hg:g≠g2):StE (w.setCell ⟨g2,i,none⟩ u) g s mb k e:=by obtain ⟨a,h1,h2,h3,h4⟩:=h;exact ⟨a,h1,h2,h3,bF hg h4⟩
theorem StG.set2 {α:Type} {G:Got α} {w:World} {g mb g2 i:Nat} {s:ByteArray} {u:Value} (h:StG w g s mb G) (hg:g≠g2):StG (w.setCell ⟨g2,i,none⟩ u) g s mb G:=by
 cases G with
 | ok v r=>exact StR.set2 h hg
 | bad k e=>exact StE.set2 h hg
theorem blk4 {w:World} {g:Nat} {t:TypeId} {u v r q x y z k:Value} (h:Blk w g t #[u,v,r,q]):Blk ((((w.setCell ⟨g,0,none⟩ x).setCell ⟨g,1,none⟩ y).setCell ⟨g,2,none⟩ z).setCell ⟨g,3,none⟩ k) g t #[x,y,z,k]:=by
 have:=(((h.set_ 0 x).set_ 1 y).set_ 2 z).set_ 3 k;simpa using this
def bndQ (q:Rat) (G:Got (List Int)):Got Tm:=G.bnd fun m r=>.ok (q,m) r
theorem qgk (names:List ByteArray) (F:Nat) (q:Rat) (l:List UInt8):monG names F q l=bndQ q ((proG names F (l.length+1) zerM l).bnd fun m r=>.ok (cutM m) r):=by
 unfold monG bndQ
 cases proG names F (l.length+1) zerM l <;> rfl
def RetT (G:Got Tm) (g mb:Nat) (s:ByteArray) (w:World) (e:Ending) (w':World):Prop:=∃ t:TQ,e=.returned (.agg #[.bool t.x.neg,.slice t.x.a t.x.n t.x.c,.slice t.x.b t.x.m t.x.d,.slice t.a t.n t.c])/\(∀ u r,G=.ok u r->Kp (fun V=>t.R u V/\qsz u.1<=1000) w.heap.size w'.heap.size w') /\
 (∀ k er,G=.bad k er->t.x=zQA\/∃ q,Kp (fun V=>QK 1000 V t.x q) w.heap.size w'.heap.size w')/\StG w' g s mb G/\Fg g w w'
theorem zz53 {P:Prop} (h:P:=by
 refine qac ?_;go_wp2_with fail;refine qah (fun W=>Blk W g2 81 #[.bool false,.slice none 0 0,.slice none 0 0,.slice none 0 0]/\RdA W g s mb a 0 0/\Fg g w W/\B0<=W.heap.size) ⟨hz1.out,h1.out,hf1.out,hs1.out⟩ ?_;clear hz1 h1 hf1 hs1 z0 z1 z2 z3 z4 hl;rintro w1 ⟨hz1,h1,hf1,hs1⟩;refine (qwi w1).mono ?_;rintro e w2 ⟨x,rfl,hK1,hb2⟩;have hzp:=hz1.below' hb2;have hp:=h1.below hb2;have hfp:=hf1.call hb2;have hlw:=Hd (show g<w1.heap.size/\B0<=w2.heap.size from ⟨h1.lt,Nat.le_trans hs1 hb2.size⟩);have CQ:=qk5 g mb a nm0 a s names w2 hp ha hs (HM.out w2 hfp) hne (HE.out w2 hfp) hge ha;obtain ⟨PRG,hPRG⟩:∃ G,((proG names (s.size-a) ((tl s a).length+1) zerM (tl s a)).bnd fun m r=>(.ok (cutM m) r:Got (List Int)))=G:=⟨_,rfl⟩
 rw [hPRG] at CQ;have hG2:=Hd (show GG=bndQ 1 PRG by rw [hG1.out,hPRG]);replace CQ:=Hd CQ;clear hPRG hG1 hz1 h1 hf1 hb2;go_wp2_with fail;refine CQ.out.mono ?_;rintro e w3 ⟨m,am,cm,rfl,hmm,hKm,hS3,hf3'⟩;have hz2:Blk w3 g2 81 #[.bool false,.slice none 0 0,.slice none 0 0,.slice none 0 0]:=Blk.fr hzp hf3' (by have:=hgg.out;omega);have hf3:=hfp.trans hf3';have hKx2:=Hd ((hK1.fr hf3' (fun b hb=>.inl (by subst hb;exact hlw.out.1))).wide (B':=B0) (T':=w3.heap.size) hs1 hf3'.size);have hKm2:=Hd (hKm.wide (B':=B0) (T':=w3.heap.size) hlw.out.2 (nlr _));obtain ⟨nm,hnm⟩:∃ q:Nat,q=m.length:=⟨_,rfl⟩
 rw [<- hnm];replace hnm:=Hd hnm;have hSG:StG w3 g s mb GG:=by
  rw [hG2.out]
  cases PRG with
  | ok v r=>exact hS3
  | bad k e=>exact hS3
 replace hmm:=Hd hmm;clear CQ hzp hp hfp hK1 hKm hS3 hf3'
 -- in world W3 the term ⟨x,nm,am,cm⟩ lies in the box g4 (or is at hand);it is written into g2
 have hSE:=Hd (((((hSG).set2 (g2:=g2) (i:=0) (u:=.bool x.neg) (by have:=hgg.out;omega)).set2 (g2:=g2) (i:=1) (u:=.slice x.a x.n x.c) (by have:=hgg.out;omega)).set2 (g2:=g2) (i:=2) (u:=.slice x.b x.m x.d) (by have:=hgg.out;omega)).set2 (g2:=g2) (i:=3) (u:=.slice am nm cm) (by have:=hgg.out;omega));have hfE:=Hd ((((hf3.setc (g:=g2) (i:=0) (u:=.bool x.neg) (.inr hg2w.out)).setc (g:=g2) (i:=1) (u:=.slice x.a x.n x.c) (.inr hg2w.out)).setc (g:=g2) (i:=2) (u:=.slice x.b x.m x.d) (.inr hg2w.out)).setc (g:=g2) (i:=3) (u:=.slice am nm cm) (.inr hg2w.out));have hFz:=Hd (blk4 (x:=.bool x.neg) (y:=.slice x.a x.n x.c) (z:=.slice x.b x.m x.d) (k:=.slice am nm cm) hz2)
 have hKE:=Hd (fun (R:World->Prop) (h:Kp R B0 w3.heap.size w3)=>((((h.setc (g:=g2) (i:=0) (u:=.bool x.neg) (.inl hg2B.out)).setc (g:=g2) (i:=1) (u:=.slice x.a x.n x.c) (.inl hg2B.out)).setc (g:=g2) (i:=2) (u:=.slice x.b x.m x.d) (.inl hg2B.out)).setc (g:=g2) (i:=3) (u:=.slice am nm cm) (.inl hg2B.out)).wide (B':=w.heap.size) (T':=((((w3.setCell ⟨g2,0,none⟩ (.bool x.neg)).setCell ⟨g2,1,none⟩ (.slice x.a x.n x.c)).setCell ⟨g2,2,none⟩ (.slice x.b x.m x.d)).setCell ⟨g2,3,none⟩ (.slice am nm cm)).heap.size) (Nat.le_trans hg2w.out (Nat.le_of_lt hg2B.out)) (by simp));obtain ⟨d0,d1,d2,d3⟩:=cq4 hz2;obtain ⟨f0,f1,f2,f3⟩:=fq4 hz2;have hgl2:=hz2.lt;clear hSG hf3 hz2;go_wp2;have hFF:=hFz.out;obtain ⟨e0,e1,e2,e3⟩:=cq4 hFF;refine bodyPost_ret (v:=.agg #[.bool x.neg,.slice x.a x.n x.c,.slice x.b x.m x.d,.slice am nm cm]) (by simp [results,Tryz.results93,go_sem,e0,e1,e2,e3]) rfl ?_
 refine ⟨⟨x,nm,am,cm⟩,rfl,?_,?_,hSE.out,hfE.out⟩
 ·
  intro u r' e;have e2:=hG2.out.symm.trans e
  cases PRG with
  | bad k er=>cases e2
  | ok m' r2 =>
   injection e2 with e3 e4
   subst e3;obtain rfl:=hmm.out m' r2 rfl;exact hKE.out _ ((Kp.both hKx2.out hKm2.out).imp fun V h=>⟨⟨h.1.1,h.2,hnm.out⟩,Nat.le_trans h.1.2 (by omega)⟩)
 ·
  intro k er e;exact .inr ⟨1,hKE.out _ (hKx2.out.imp fun V h=>h.more (by omega))⟩
 ):P:=h
theorem qz1 (g mb a nm0:Nat) (s:ByteArray) (names:List ByteArray) (w:World) (h:RdA w g s mb a 0 0) (ha:a<=s.size) (hs:s.size<=281474976710656) (hm:OwnV w mb nm0 (names.take 64)) (hne:mb≠g) (he:ErrW w) (hge:Tryz.lays172_ren.g 16≠g) :
  Calls Tryz.prog 93 #[.pointer (some ⟨g,0,none⟩)] w (RetT (terG names (tl s a)) g mb s w):=by
 have HM:=Hd (fun W (hW:Fg g w W)=>hm.fr hW hne);have HE:=Hd (fun W (hW:Fg g w W)=>he.fr hW hge);obtain ⟨GG,hGG⟩:∃ G,terG names (tl s a)=G:=⟨_,rfl⟩
 rw [hGG];have hgg0:=h.lt;have H:=Hd (fun o=>show RdA (w.alloc o) g s mb a 0 0 from bA h);obtain ⟨z0,z1,z2,z3,z4⟩:=cq5 h;have hl:=h.lt;clear h hm he;go_enter Tryz.func93,Tryz.ntmps93;go_wp2;refine qak (fun W=>Blk W w.heap.size 81 #[.bool false,.slice none 0 0,.slice none 0 0,.slice none 0 0]/\RdA W g s mb a 0 0/\Fg g w W/\w.heap.size<W.heap.size) ⟨Blk.new w _ _,H.out _,(Fr.refl _ _).alloc _,by simp⟩ ?_;clear z0 z1 z2 z3 z4 hl H;rintro w0 ⟨hz0,h0,hf0,hlt0⟩;obtain ⟨g2,hg2⟩:∃ q,w.heap.size=q:=⟨_,rfl⟩
 have hg2w:Hid (w.heap.size<=g2):=Hd (by omega);have hgg:Hid (g<g2):=Hd (by omega);have hg2B:Hid (g2<w0.heap.size):=Hd (by omega);rw [hg2] at hz0 ⊢;replace hg2:=Hd hg2;obtain ⟨B0,hB0⟩:∃ q,w0.heap.size=q:=⟨_,rfl⟩
 rw [hB0] at hg2B;replace hB0:=Hd hB0;obtain ⟨z0,z1,z2,z3,z4⟩:=cq5 h0;have hl:=h0.lt;have hz1:=Hd (show Blk w0.drew g2 81 #[.bool false,.slice none 0 0,.slice none 0 0,.slice none 0 0] from hz0);have h1:=Hd (show RdA w0.drew g s mb a 0 0 from h0);have hf1:=Hd (show Fg g w w0.drew from hf0.call (brf.drew));have hs1:Hid (B0<=w0.drew.heap.size):=Hd (by have:=hB0.out;show _<=w0.heap.size;omega);clear hgg0 hlt0 hz0 h0 hf0;by_cases hlt:a<s.size
 ·
  have hT:=tl_at hlt;obtain ⟨c,hc⟩:∃ c,s[a]'hlt=c:=⟨_,rfl⟩
  rw [hc] at hT;obtain ⟨y,hy⟩:∃ y:Nat,c.toNat=y:=⟨_,rfl⟩
  have hy0:(s[a]'hlt).toNat=y:=by rw [hc];exact hy
  have CD:=qcr (y:Int);have hdy:digU c=digV (y:Int):=by unfold digU;rw [hy]
  obtain ⟨bd,hbd0⟩:∃ b,digV (y:Int)=b:=⟨_,rfl⟩
  simp only [hbd0] at CD;rw [hbd0] at hdy;replace CD:=Hd CD
  cases bd
  ·
   have hG1:=Hd (show GG=bndQ 1 ((proG names (s.size-a) ((tl s a).length+1) zerM (tl s a)).bnd fun m r=>.ok (cutM m) r) from by
    rw [<- hGG];unfold terG;rw [if_pos (by rw [hT,numL,hdy];rfl),qgk,qaq])
   have hy2:=Hd hy;clear hT hdy hbd0 hc hGG hy;refine wrx (S:=(fun x=>x=w0.drew)) [(0,.q),(1,.q),(2,.q),(3,.q),(4,.q),(5,.q),(6,.q),(7,.q),(8,.q),(9,.q),(10,.q),(11,.q),(12,.q),(13,.q),(14,.q),(15,.q),(16,.q),(17,.q),(18,.q),(19,.q),(20,.t),(21,.p)] (rfl) ?_
   iterate 20 (refine qab rfl rfl fun K hK=>xq ?_;go_simp;refine hK _ _ ?_;clear hK K)
   refine qam rfl rfl (fun K hK=>?_);go_simp;refine (CD.out w0.drew).mono ?_;rintro e w' ⟨rfl,rfl⟩;dsimp only;refine hK.out _ _ ?_;clear hK K
   iterate 1 (refine qae rfl rfl fun K hK=>xp ?_;go_simp;refine hK _ _ ?_;clear hK K)
   exact zz53
  ·
   have hG1:=Hd (show GG=(cofG (tl s a)).bnd fun q r=>if r[0]? = some 42 then monG names (s.size-a) q (r.drop 1) else .ok (q,[]) r from by
    rw [<- hGG];unfold terG;rw [if_neg (by rw [hT,qea hdy];omega),qaq])
   have hy2:=Hd hy;clear hT hdy hbd0 hc hGG hy;refine wrx (S:=(fun x=>x=w0.drew)) [(0,.q),(1,.q),(2,.q),(3,.q),(4,.q),(5,.q),(6,.q),(7,.q),(8,.q),(9,.q),(10,.q),(11,.q),(12,.q),(13,.q),(14,.q),(15,.q),(16,.q),(17,.q),(18,.q),(19,.q),(20,.t),(21,.p)] (rfl) ?_
   iterate 20 (refine qab rfl rfl fun K hK=>xq ?_;go_simp;refine hK _ _ ?_;clear hK K)
   refine qam rfl rfl (fun K hK=>?_);go_simp;refine (CD.out w0.drew).mono ?_;rintro e w' ⟨rfl,rfl⟩;dsimp only;refine hK.out _ _ ?_;clear hK K
   iterate 1 (refine qae rfl rfl fun K hK=>xp ?_;go_simp;refine hK _ _ ?_;clear hK K)
   refine qac ?_;go_wp2_with fail;refine qah (fun W=>Blk W g2 81 #[.bool false,.slice none 0 0,.slice none 0 0,.slice none 0 0]/\RdA W g s mb a 0 0/\Fg g w W/\B0<=W.heap.size) ⟨hz1.out,h1.out,hf1.out,hs1.out⟩ ?_;clear hz1 h1 hf1 hs1 z0 z1 z2 z3 z4 hl CD;rintro w1 ⟨hz1,h1,hf1,hs1⟩;have CC:=qmo g mb a s w1 h1 ha hs;obtain ⟨CG,hCG⟩:∃ G,cofG (tl s a)=G:=⟨_,rfl⟩
   have hG2:=hG1.out;rw [hCG] at CC hG2;clear hG1 hCG;refine CC.mono ?_;rintro e w2 ⟨x,rfl,hKx,hzx,hS2,hf2'⟩;have hf2:=hf1.trans hf2';have hz2:Blk w2 g2 81 #[.bool false,.slice none 0 0,.slice none 0 0,.slice none 0 0]:=Blk.fr hz1 hf2' (by have:=hgg.out;omega);have hs2:=Nat.le_trans hs1 hf2'.size;have hlw1:g<w1.heap.size:=h1.lt;clear CC hz1 h1 hf1 hf2'
   cases CG with
   | bad k er =>
    have hGe:=Hd (show GG=.bad k er from hG2);obtain rfl:=hzx k er rfl;obtain ⟨pe,hpe,hke,h0e,hRe⟩:=hS2;have hzE:(er==0)=false:=by rw [beq_eq_false_iff_ne];exact h0e
    obtain ⟨z0,z1,z2,z3,z4⟩:=cq5 hRe;have hl:=Blk.lt hRe;obtain ⟨d0,d1,d2,d3⟩:=cq4 hz2;obtain ⟨f0,f1,f2,f3⟩:=fq4 hz2;have hgl2:=hz2.lt;obtain ⟨cA,hcA⟩:∃ c:Array Value,c=#[.bool false,.slice none 0 0,.slice none 0 0,.slice none 0 0]:=⟨_,rfl⟩
    have hfE:=Hd (((((hf2.setc (g:=g2) (i:=0) (u:=.bool false) (.inr hg2w.out)).setc (g:=g2) (i:=1) (u:=.slice none 0 0) (.inr hg2w.out)).setc (g:=g2) (i:=2) (u:=.slice none 0 0) (.inr hg2w.out)).setc (g:=g2) (i:=3) (u:=.slice none 0 0) (.inr hg2w.out)).alloc (.cells cA 81));have hFz:=Hd ((blk4 (x:=.bool false) (y:=.slice none 0 0) (z:=.slice none 0 0) (k:=.slice none 0 0) hz2).alloc (.cells cA 81));have hRE:=Hd (show RdA (((((w2.setCell ⟨g2,0,none⟩ (.bool false)).setCell ⟨g2,1,none⟩ (.slice none 0 0)).setCell ⟨g2,2,none⟩ (.slice none 0 0)).setCell ⟨g2,3,none⟩ (.slice none 0 0)).alloc (.cells cA 81)) g s mb pe er ((s.size-k:Nat):Int) from
     bA (bF (by have:=hgg.out;omega) (bF (by have:=hgg.out;omega) (bF (by have:=hgg.out;omega) (bF (by have:=hgg.out;omega) hRe)))))
    rw [hcA] at hfE hFz hRE;have hgl4:g2<w2.heap.size+1:=by omega
    replace h0e:=Hd h0e;clear hKx hzx hG2 hf2 hz2 hRe hcA;unfold zQA;go_wp2;have hFF:=hFz.out;obtain ⟨e0,e1,e2,e3⟩:=cq4 hFF;refine bodyPost_ret (v:=.agg #[.bool false,.slice none 0 0,.slice none 0 0,.slice none 0 0]) (by simp [results,Tryz.results93,go_sem,e0,e1,e2,e3]) rfl ?_;exact ⟨⟨zQA,0,none,0⟩,rfl,fun u r e=>(by cases hGe.out.symm.trans e),fun _ _ _=>.inl rfl,by rw [hGe.out];exact ⟨pe,hpe,hke,h0e.out,hRE.out⟩,hfE.out⟩
   | ok q r =>
    obtain ⟨p1,hp1,hr1,hR1⟩:=hS2;have hK1:=hKx q r rfl;have hG3:GG=if r[0]? = some 42 then monG names (s.size-a) q (r.drop 1) else .ok (q,[]) r:=hG2
    rw [hr1] at hG3;have CK:=Hd (fun W (hW:RdA W g s mb p1 0 0)=>qck g mb p1 s 0 0 42 W hW hp1 hs);have hst:=qb3 (tl s p1) 42 (z:=42) rfl;obtain ⟨bp,hbp⟩:∃ b,nxtB (tl s p1) 42=b:=⟨_,rfl⟩
    rw [hbp] at CK hst;obtain ⟨z0,z1,z2,z3,z4⟩:=cq5 hR1;have hl:=hR1.lt;obtain ⟨T1,hT1⟩:∃ q,w2.heap.size=q:=⟨_,rfl⟩
    replace hbp:=Hd hbp;replace hst:=Hd hst;replace hG3:=Hd hG3;replace hr1:=Hd hr1;have hK1':=Hd hK1;have hR1':=Hd hR1;have hz2':=Hd hz2;have hf2':=Hd hf2;have hTB:=Hd (show g2<T1/\B0<=T1 from by have h1:=hz2.lt;omega);have hlwB:=Hd (show g<B0 from by have:=hgg.out;have:=hg2B.out;omega);replace hT1:=Hd hT1;clear hKx hzx hG2 hR1 hK1 hz2 hf2;go_wp2_with fail;refine qah (fun W=>Blk W g2 81 #[.bool false,.slice none 0 0,.slice none 0 0,.slice none 0 0]/\Blk W T1 81 #[.bool x.neg,.slice x.a x.n x.c,.slice x.b x.m x.d,.slice none 0 0]/\RdA W g s mb p1 0 0/\Fg g w W/\Kp (fun V=>QK 1000 V x q) w1.heap.size T1 W/\T1<=W.heap.size) ⟨hz2'.out.alloc _,bN hT1.out.symm,bA hR1'.out,hf2'.out.alloc _,by have:=hK1'.out;rw [hT1.out] at this;exact this.alloc,by rw [<- hT1.out];simp⟩ ?_;clear hK1' hR1' hz2' hf2' z0 z1 z2 z3 z4 hl;rintro w3 ⟨hz3,hy3,hR3,hf3,hK3,hs3⟩;rw [hT1.out]
    refine (CK.out w3 hR3).mono ?_;rintro e w4 ⟨rfl,hb4⟩;have hz4:=hz3.below' hb4;have hy4:=hy3.below' hb4;have hR4:=hR3.below hb4;have hf4:=hf3.call hb4;have hK4:=hK3.call hb4;have hs4:=Nat.le_trans hs3 hb4.size;clear CK hz3 hy3 hR3 hf3 hK3 hb4 hs3
    cases bp
    ·
     have h42:¬ (tl s p1)[0]? = some 42:=by have:=hst.out;simpa using this.symm
     have hGe:GG=.ok (q,[]) (tl s p1):=hG3.out.trans (if_neg h42);have hSG:StG w4 g s mb GG:=by rw [hGe];exact ⟨p1,hp1,rfl,hR4⟩
     have hz2:=hz4;have hf3:=hf4;have hyX:=Hd hy4;have hK:=Hd hK4;replace hGe:=Hd hGe;have hs4':=Hd hs4;clear h42 hz4 hf4 hR4 hy4 hK4;obtain ⟨am,ham⟩:∃ q:Option Addr,q=none:=⟨_,rfl⟩
     obtain ⟨nm,hnm⟩:∃ q:Nat,q=0:=⟨_,rfl⟩
     obtain ⟨cm,hcm⟩:∃ q:Nat,q=0:=⟨_,rfl⟩
     have hnil:=Hd (fun V=>(show IntsR V am cm [] by rw [ham,hcm];exact SlR.nil));replace ham:=Hd ham;replace hnm:=Hd hnm;replace hcm:=Hd hcm;rw [show (Value.slice none 0 0)=.slice am nm cm by rw [ham.out,hnm.out,hcm.out]] at hyX
     -- out of the box g4,in world W3
     have hy4:=hyX.out;obtain ⟨y0,y1,y2,y3⟩:=cq4 hy4;have hgl4:=hy4.lt;clear hy4
     -- in world W3 the term ⟨x,nm,am,cm⟩ lies in the box g4 (or is at hand);it is written into g2
     have hSE:=Hd (((((hSG).set2 (g2:=g2) (i:=0) (u:=.bool x.neg) (by have:=hgg.out;omega)).set2 (g2:=g2) (i:=1) (u:=.slice x.a x.n x.c) (by have:=hgg.out;omega)).set2 (g2:=g2) (i:=2) (u:=.slice x.b x.m x.d) (by have:=hgg.out;omega)).set2 (g2:=g2) (i:=3) (u:=.slice am nm cm) (by have:=hgg.out;omega));have hfE:=Hd ((((hf3.setc (g:=g2) (i:=0) (u:=.bool x.neg) (.inr hg2w.out)).setc (g:=g2) (i:=1) (u:=.slice x.a x.n x.c) (.inr hg2w.out)).setc (g:=g2) (i:=2) (u:=.slice x.b x.m x.d) (.inr hg2w.out)).setc (g:=g2) (i:=3) (u:=.slice am nm cm) (.inr hg2w.out));have hFz:=Hd (blk4 (x:=.bool x.neg) (y:=.slice x.a x.n x.c) (z:=.slice x.b x.m x.d) (k:=.slice am nm cm) hz2)
     have hKE:=Hd (fun (R:World->Prop) (h:Kp R B0 w4.heap.size w4)=>((((h.setc (g:=g2) (i:=0) (u:=.bool x.neg) (.inl hg2B.out)).setc (g:=g2) (i:=1) (u:=.slice x.a x.n x.c) (.inl hg2B.out)).setc (g:=g2) (i:=2) (u:=.slice x.b x.m x.d) (.inl hg2B.out)).setc (g:=g2) (i:=3) (u:=.slice am nm cm) (.inl hg2B.out)).wide (B':=w.heap.size) (T':=((((w4.setCell ⟨g2,0,none⟩ (.bool x.neg)).setCell ⟨g2,1,none⟩ (.slice x.a x.n x.c)).setCell ⟨g2,2,none⟩ (.slice x.b x.m x.d)).setCell ⟨g2,3,none⟩ (.slice am nm cm)).heap.size) (Nat.le_trans hg2w.out (Nat.le_of_lt hg2B.out)) (by simp));obtain ⟨d0,d1,d2,d3⟩:=cq4 hz2;obtain ⟨f0,f1,f2,f3⟩:=fq4 hz2;have hgl2:=hz2.lt;clear hSG hf3 hz2;go_wp2;have hFF:=hFz.out;obtain ⟨e0,e1,e2,e3⟩:=cq4 hFF;refine bodyPost_ret (v:=.agg #[.bool x.neg,.slice x.a x.n x.c,.slice x.b x.m x.d,.slice am nm cm]) (by simp [results,Tryz.results93,go_sem,e0,e1,e2,e3]) rfl ?_
     refine ⟨⟨x,nm,am,cm⟩,rfl,?_,?_,hSE.out,hfE.out⟩
     ·
      intro u r' e;injection hGe.out.symm.trans e with e1 e2
      subst e1;refine hKE.out _ ((hK.out.imp fun V h=>?_).wide hs1 hs4'.out);exact ⟨⟨h.1,hnil.out V,hnm.out⟩,h.2⟩
     ·
      intro k er e
      cases hGe.out.symm.trans e
    ·
     have h42:(tl s p1)[0]? = some 42:=by have:=hst.out;simpa using this.symm
     have hp1l:p1<s.size:=by
      apply Nat.lt_of_not_le;intro hle;rw [qbn hle] at h42
      cases h42
     have hG4:GG=bndQ q ((proG names (s.size-a) ((tl s (p1+1)).length+1) zerM (tl s (p1+1))).bnd fun m r=>.ok (cutM m) r):=hG3.out.trans ((if_pos h42).trans (by rw [qgk,qbi]));have hpc:((p1+1:Nat):Int)=(p1:Int)+1:=by omega
     obtain ⟨z0,z1,z2,z3,z4⟩:=cq5 hR4;have hl:=hR4.lt;have f1:=Blk.frozen hR4 1;have hR5':=Hd (hR4.set1 (p1+1));have hz5':=Hd (show Blk (w4.setCell ⟨g,1,none⟩ (.int .i64 ((p1+1:Nat):Int))) g2 81 #[.bool false,.slice none 0 0,.slice none 0 0,.slice none 0 0] from bF (by have:=hgg.out;omega) hz4);have hy5':=Hd (show Blk (w4.setCell ⟨g,1,none⟩ (.int .i64 ((p1+1:Nat):Int))) T1 81 #[.bool x.neg,.slice x.a x.n x.c,.slice x.b x.m x.d,.slice none 0 0] from bF (by have:=hgg.out;have:=hTB.out;omega) hy4);have hf5':=Hd (hf4.setc (g:=g) (i:=1) (u:=.int .i64 ((p1+1:Nat):Int)) (.inl rfl));have hK5':=Hd (hK4.setc (g:=g) (i:=1) (u:=.int .i64 ((p1+1:Nat):Int)) (.inl hlw1));unfold RdA at hR5';rw [hpc] at hR5' hz5' hy5' hf5' hK5';replace hG4:=Hd hG4;clear hR4 hz4 hy4 hf4 hK4 h42;go_wp2_with fail
     refine qah (fun W=>Blk W g2 81 #[.bool false,.slice none 0 0,.slice none 0 0,.slice none 0 0]/\Blk W T1 81 #[.bool x.neg,.slice x.a x.n x.c,.slice x.b x.m x.d,.slice none 0 0]/\RdA W g s mb (p1+1) 0 0/\Fg g w W/\Kp (fun V=>QK 1000 V x q) w1.heap.size T1 W/\T1<=W.heap.size) ⟨hz5'.out,hy5'.out,by unfold RdA;rw [hpc];exact hR5'.out,hf5'.out,hK5'.out,by simpa using hs4⟩ ?_;clear hR5' hz5' hy5' hf5' hK5' z0 z1 z2 z3 z4 hl f1;rintro w5 ⟨hz5,hy5,hR5,hf5,hK5,hs5⟩;have CQ:=qk5 g mb (p1+1) nm0 a s names w5 hR5 (by omega) hs (HM.out w5 hf5) hne (HE.out w5 hf5) hge ha;obtain ⟨PRG,hPRG⟩:∃ G,((proG names (s.size-a) ((tl s (p1+1)).length+1) zerM (tl s (p1+1))).bnd fun m r=>(.ok (cutM m) r:Got (List Int)))=G:=⟨_,rfl⟩
     rw [hPRG] at CQ;have hG5:=Hd (show GG=bndQ q PRG by rw [hG4.out,hPRG]);clear hPRG hG4;refine CQ.mono ?_;rintro e w6 ⟨m,am,cm,rfl,hmm,hKm,hS6,hf6'⟩;have hz6:Blk w6 g2 81 #[.bool false,.slice none 0 0,.slice none 0 0,.slice none 0 0]:=Blk.fr hz5 hf6' (by have:=hgg.out;omega);have hy6:Blk w6 T1 81 #[.bool x.neg,.slice x.a x.n x.c,.slice x.b x.m x.d,.slice none 0 0]:=Blk.fr hy5 hf6' (by have:=hgg.out;have:=hTB.out;omega);have hf6:=hf5.trans hf6';have hK6:=hK5.fr hf6' (fun b hb=>.inl (by subst hb;exact hlw1));have hlw5:=Hd (show T1<=w6.heap.size/\g<w5.heap.size/\B0<=w5.heap.size from ⟨Nat.le_trans hs5 hf6'.size,hR5.lt,Nat.le_trans hTB.out.2 hs5⟩);have hyT:=Hd hy5.lt;clear CQ hz5 hy5 hf5 hK5 hR5 hf6' hs5;obtain ⟨nm,hnm⟩:∃ q:Nat,q=m.length:=⟨_,rfl⟩
     rw [<- hnm];replace hnm:=Hd hnm;obtain ⟨W7,hW7⟩:∃ W,w6.setCell ⟨T1,3,none⟩ (.slice am nm cm)=W:=⟨_,rfl⟩
     have hSG:StG W7 g s mb GG:=by
      have h1:StG (w6.setCell ⟨T1,3,none⟩ (.slice am nm cm)) g s mb PRG:=hS6.set2 (by have:=hgg.out;have:=hTB.out;omega);rw [hW7] at h1;rw [hG5.out]
      cases PRG with
      | ok v r=>exact h1
      | bad k e=>exact h1
     have hz2:Blk W7 g2 81 #[.bool false,.slice none 0 0,.slice none 0 0,.slice none 0 0]:=by rw [<- hW7];exact bF (by have:=hTB.out;omega) hz6
     have hf3:Fg g w W7:=by rw [<- hW7];exact hf6.setc (g:=T1) (i:=3) (u:=.slice am nm cm) (.inr (by have:=hg2w.out;have:=hTB.out;omega))
     have hyX:=Hd (show Blk W7 T1 81 #[.bool x.neg,.slice x.a x.n x.c,.slice x.b x.m x.d,.slice am nm cm] by rw [<- hW7];exact bS hy6 rfl);have hsz7:W7.heap.size=w6.heap.size:=by rw [<- hW7];simp
     have fy3:=hy6.frozen 3;have hyl:=hy6.lt;have v3:=hy6.cell 3;have hKx1:Kp (fun V=>QK 1000 V x q) w1.heap.size T1 W7:=by rw [<- hW7];exact hK6.setc (g:=T1) (i:=3) (u:=.slice am nm cm) (.inr (nlr _))
     have hKm1:Kp (fun V=>IntsR V am cm m) w5.heap.size w6.heap.size W7:=by rw [<- hW7];exact hKm.setc (g:=T1) (i:=3) (u:=.slice am nm cm) (.inl (show T1<w5.heap.size from hyT.out))
     have hKx2:=Hd (hKx1.wide (B':=B0) (T':=W7.heap.size) hs1 (by rw [hsz7];exact hlw5.out.1));have hKm2:=Hd (hKm1.wide (B':=B0) (T':=W7.heap.size) hlw5.out.2.2 (by rw [hsz7];exact nlr _));replace hmm:=Hd hmm;replace hsz7:=Hd hsz7;clear hS6 hz6 hy6 hf6 hK6 hKm hKx1 hKm1
     -- out of the box g4,in world W3
     have hy4:=hyX.out;obtain ⟨y0,y1,y2,y3⟩:=cq4 hy4;have hgl4:=hy4.lt;clear hy4
     -- in world W3 the term ⟨x,nm,am,cm⟩ lies in the box g4 (or is at hand);it is written into g2
     have hSE:=Hd (((((hSG).set2 (g2:=g2) (i:=0) (u:=.bool x.neg) (by have:=hgg.out;omega)).set2 (g2:=g2) (i:=1) (u:=.slice x.a x.n x.c) (by have:=hgg.out;omega)).set2 (g2:=g2) (i:=2) (u:=.slice x.b x.m x.d) (by have:=hgg.out;omega)).set2 (g2:=g2) (i:=3) (u:=.slice am nm cm) (by have:=hgg.out;omega));have hfE:=Hd ((((hf3.setc (g:=g2) (i:=0) (u:=.bool x.neg) (.inr hg2w.out)).setc (g:=g2) (i:=1) (u:=.slice x.a x.n x.c) (.inr hg2w.out)).setc (g:=g2) (i:=2) (u:=.slice x.b x.m x.d) (.inr hg2w.out)).setc (g:=g2) (i:=3) (u:=.slice am nm cm) (.inr hg2w.out));have hFz:=Hd (blk4 (x:=.bool x.neg) (y:=.slice x.a x.n x.c) (z:=.slice x.b x.m x.d) (k:=.slice am nm cm) hz2)
     have hKE:=Hd (fun (R:World->Prop) (h:Kp R B0 W7.heap.size W7)=>((((h.setc (g:=g2) (i:=0) (u:=.bool x.neg) (.inl hg2B.out)).setc (g:=g2) (i:=1) (u:=.slice x.a x.n x.c) (.inl hg2B.out)).setc (g:=g2) (i:=2) (u:=.slice x.b x.m x.d) (.inl hg2B.out)).setc (g:=g2) (i:=3) (u:=.slice am nm cm) (.inl hg2B.out)).wide (B':=w.heap.size) (T':=((((W7.setCell ⟨g2,0,none⟩ (.bool x.neg)).setCell ⟨g2,1,none⟩ (.slice x.a x.n x.c)).setCell ⟨g2,2,none⟩ (.slice x.b x.m x.d)).setCell ⟨g2,3,none⟩ (.slice am nm cm)).heap.size) (Nat.le_trans hg2w.out (Nat.le_of_lt hg2B.out)) (by simp));obtain ⟨d0,d1,d2,d3⟩:=cq4 hz2;obtain ⟨f0,f1,f2,f3⟩:=fq4 hz2;have hgl2:=hz2.lt;clear hSG hf3 hz2;go_wp2;have hFF:=hFz.out;obtain ⟨e0,e1,e2,e3⟩:=cq4 hFF;refine bodyPost_ret (v:=.agg #[.bool x.neg,.slice x.a x.n x.c,.slice x.b x.m x.d,.slice am nm cm]) (by simp [results,Tryz.results93,go_sem,e0,e1,e2,e3]) rfl ?_
     refine ⟨⟨x,nm,am,cm⟩,rfl,?_,?_,hSE.out,hfE.out⟩
     ·
      intro u r' e;have e2:=hG5.out.symm.trans e
      cases PRG with
      | bad k er=>cases e2
      | ok m' r2 =>
       injection e2 with e3 e4
       subst e3;obtain rfl:=hmm.out m' r2 rfl;exact hKE.out _ ((Kp.both hKx2.out hKm2.out).imp fun V h=>⟨⟨h.1.1,h.2,hnm.out⟩,h.1.2⟩)
     ·
      intro k er e;exact .inr ⟨q,hKE.out _ hKx2.out⟩
 ·
  have hG1:=Hd (show GG=bndQ 1 ((proG names (s.size-a) ((tl s a).length+1) zerM (tl s a)).bnd fun m r=>.ok (cutM m) r) from by
   rw [<- hGG];unfold terG;rw [if_pos (by rw [qbn (by omega)];rfl),qgk,qaq])
  clear hGG;refine wrx (S:=(fun x=>x=w0.drew)) [(0,.q),(1,.q),(2,.q),(3,.q),(4,.q),(5,.q),(6,.q),(7,.q),(8,.q),(9,.q),(10,.q),(11,.q),(12,.q),(13,.q),(14,.q),(15,.q),(16,.q),(17,.q),(18,.q),(19,.q),(20,.t),(21,.p)] (rfl) ?_
  iterate 11 (refine qab rfl rfl fun K hK=>xq ?_;go_simp;refine hK _ _ ?_;clear hK K)
  iterate 10 (refine qar rfl rfl (fun K hK=>?_);go_simp;refine hK _ _ ?_;clear hK K)
  iterate 1 (refine qae rfl rfl fun K hK=>xp ?_;go_simp;refine hK _ _ ?_;clear hK K)
  exact zz53
end Go.Proofs.YtnilkimcdgmgkaaGreatDoor
