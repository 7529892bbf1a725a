/- Decimal digits in groups of four, plain. No function of the program in sight. -/
import Derived.Test.YtnilkimcdgmgkaaGreatDoorCr10
import Derived.Test.YtnilkimcdgmgkaaGreatDoorCr1
import Derived.Test.YtnilkimcdgmgkaaGreatDoorRows
import Derived.Deep.QuietTactic
import Derived.BigQuiet
import Derived.Deep.Upon
import Derived.Test.YtnilkimcdgmgkaaGreatDoorCr9
import Derived.Test.YtnilkimcdgmgkaaGreatDoorCr7
import Derived.Lib.SplitLaws
import Derived.Test.YtnilkimcdgmgkaaGreatDoorCr5
import Derived.Laws.IdiomStrings
set_option linter.all false
set_option maxRecDepth 100000
set_option maxHeartbeats 4000000
namespace Go.Proofs.YtnilkimcdgmgkaaGreatDoor
open Go.RowKit
theorem qs9 (s t:Trm) (p q:RA) (w:World) (h:IntsR w p.aa p.ac s.mono) (h':IntsR w q.aa q.ac t.mono) :
  Calls Tryz.prog 103 #[s.val p,t.val q] w fun e w'=>e=.returned (.int .i64 (lexI s.mono t.mono))/\Below w.heap.size w w':=by
 have CC:=fun W (hW:Below w.heap.size w W)=>qwq s.mono t.mono p.aa q.aa p.ac q.ac W (h.ext (xbw hW)) (h'.ext (xbw hW))
 revert CC;generalize lexI s.mono t.mono=R;intro CC;replace CC:=Hd CC;unfold Trm.val;have hx:Blk ((w.alloc (.cells #[.bool s.coef.neg,.slice p.na s.coef.num.length p.nc,.slice p.da s.coef.den.length p.dc,.slice p.aa s.mono.length p.ac] 81)).alloc (.cells #[.bool t.coef.neg,.slice q.na t.coef.num.length q.nc,.slice q.da t.coef.den.length q.dc,.slice q.aa t.mono.length q.ac] 81)) w.heap.size 81 #[.bool s.coef.neg,.slice p.na s.coef.num.length p.nc,.slice p.da s.coef.den.length p.dc,.slice p.aa s.mono.length p.ac]:=(Blk.new w _ _).alloc _
 have hy:Blk ((w.alloc (.cells #[.bool s.coef.neg,.slice p.na s.coef.num.length p.nc,.slice p.da s.coef.den.length p.dc,.slice p.aa s.mono.length p.ac] 81)).alloc (.cells #[.bool t.coef.neg,.slice q.na t.coef.num.length q.nc,.slice q.da t.coef.den.length q.dc,.slice q.aa t.mono.length q.ac] 81)) (w.heap.size+1) 81 #[.bool t.coef.neg,.slice q.na t.coef.num.length q.nc,.slice q.da t.coef.den.length q.dc,.slice q.aa t.mono.length q.ac]:=qay w _ _ _;have hb0:Below w.heap.size w ((w.alloc (.cells #[.bool s.coef.neg,.slice p.na s.coef.num.length p.nc,.slice p.da s.coef.den.length p.dc,.slice p.aa s.mono.length p.ac] 81)).alloc (.cells #[.bool t.coef.neg,.slice q.na t.coef.num.length q.nc,.slice q.da t.coef.den.length q.dc,.slice q.aa t.mono.length q.ac] 81)):=by go_grown
 clear h h';go_enter Tryz.func103,Tryz.ntmps103;go_wp2_with fail;revert hx hy hb0;generalize (w.alloc (.cells #[.bool s.coef.neg,.slice p.na s.coef.num.length p.nc,.slice p.da s.coef.den.length p.dc,.slice p.aa s.mono.length p.ac] 81)).alloc (.cells #[.bool t.coef.neg,.slice q.na t.coef.num.length q.nc,.slice q.da t.coef.den.length q.dc,.slice q.aa t.mono.length q.ac] 81)=w0;intro hx hy hb0;have z3:=hx.cell 3;have y3:=hy.cell 3;go_wp2_with fail;refine (CC.out _ hb0).mono ?_;rintro e w1 ⟨rfl,rfl⟩;go_wp2;go_ret;exact ⟨rfl,hb0⟩
theorem qi4 {P:Nat->Prop} {k:Nat} (h:∀ j,j<k->P j) (hk:P k):∀ j,j<k+1->P j:=fun j hj=>by
 by_cases hjk:j=k
 · subst hjk;exact hk
 · exact h j (by omega)
theorem qqq {t:Trm} (h:t.coef.right=false):okT t=false:=by unfold okT;rw [h];rfl
theorem qql {t:Trm} (h:val t.coef.num=0):okT t=false:=by unfold okT;rw [decide_eq_true h];simp
theorem qq0 {t:Trm} (h:monoB t.mono=false):okT t=false:=by unfold okT;rw [h];simp
theorem qsy {t:Trm} (h:t.coef.right=true) (h1:val t.coef.num≠0) (h2:monoB t.mono=true):okT t=true:=by unfold okT;rw [h,h2,decide_eq_false h1];rfl
theorem qob {t:Trm} (h:okT t=true):∀ x∈t.mono,0<=x/\x<=1048576:=by
 unfold okT at h;simp only [Bool.and_eq_true] at h;exact (qbv h.2).2
theorem qnt {r:Rt} (h:r.right=true):0<r.den.length/\qcb r.den=true:=by
 unfold Rt.right at h;simp only [Bool.and_eq_true,decide_eq_true_eq] at h;exact ⟨h.2,h.1.1.2⟩
theorem qoh {r:Rt} (h:r.right=true):val r.den≠0:=by
 obtain ⟨h1,h2⟩:=qnt h;intro h0;have:limbs (val r.den)=r.den:=of_decide_eq_true h2;rw [h0,qai] at this;rw [<- this] at h1;simp at h1
theorem qs0 (neg:Bool) (n:Nat):(sgnZ neg n==0)=decide (n=0):=by
 unfold sgnZ;by_cases h:n=0
 · rw [if_pos h,decide_eq_true h];rfl
 · rw [if_neg h,decide_eq_false h];cases neg <;> rfl
theorem qyh (l:List Trm) (a:Option Addr) (c:Nat) (w:World) (h:PolyR w a c l) (hq:∀ t∈l,t.coef.num.length<=2000000/\t.coef.den.length<=2000000) :
  Calls Tryz.prog 50 #[.slice a l.length c] w fun e w'=>e=.returned (.bool (polyB l))/\Below w.heap.size w w':=by
 have hlen:=h.len;obtain ⟨res,hres⟩:∃ x,polyB l=x:=⟨_,rfl⟩
 rw [hres];have HRES:=Hd hres;have HP:=Hd h;have HQ:=Hd hq;clear hres h hq;go_enter Tryz.func50,Tryz.ntmps50;go_wp2
 go_loopg [3,4,7] l.length (fun g _ _ q wr=>∃ k:Nat,k+g=l.length/\q=.int .i64 k/\Below w.heap.size w wr/\∀ j,j<k->badAt l j=false)
 case atStart=>exact ⟨0,by omega,rfl,Below.refl _ _,fun j hj=>by omega⟩
 case round =>
  obtain ⟨k,hkg,rfl,hwr,hall⟩:=hrel;have HKG:=Hd hkg;have HA:=Hd hall;clear hkg hall;by_cases hlt:k<l.length
  ·
   obtain ⟨t,ht⟩:=qad hlt;have hPr:=HP.out.ext (xbw hwr);have htq:=HQ.out t (List.mem_of_getElem? ht);obtain ⟨b,off,hao,p,hC,hP⟩:=hPr.2.2 k t ht;subst hao;obtain ⟨c0,c1,c2,c3⟩:=hC;obtain ⟨hP1,hP2,hP3⟩:=hP;have HT:=Hd ht;have HPR:=Hd hPr;obtain ⟨⟨neg,num,den⟩,mono⟩:=t;dsimp only at c0 c1 c2 c3 hP1 hP2 hP3 htq;have CR:=fun W (hW:Below wr.heap.size wr W)=>qtp ⟨neg,num,den⟩ p.na p.nc p.da p.dc W (hP2.ext (xbw hW)) (hP3.ext (xbw hW)) htq.1 htq.2
   unfold Rt.val at CR;dsimp only at CR;replace CR:=Hd CR;have HP1:=Hd hP1;have HP2:=Hd hP2;have HP3:=Hd hP3;have HTQ:=Hd htq;have hbl:b<wr.heap.size:=World.block_lt_of_cell? wr _ c0;clear ht hPr hP1 hP2 hP3 htq;have d0:=held ((qel wr (.cells #[.bool neg,.slice p.na num.length p.nc,.slice p.da den.length p.dc,.slice p.aa mono.length p.ac] 81)) _ _ c0);have d1:=held ((qel wr (.cells #[.bool neg,.slice p.na num.length p.nc,.slice p.da den.length p.dc,.slice p.aa mono.length p.ac] 81)) _ _ c1);have d2:=held ((qel wr (.cells #[.bool neg,.slice p.na num.length p.nc,.slice p.da den.length p.dc,.slice p.aa mono.length p.ac] 81)) _ _ c2);have d3:=held ((qel wr (.cells #[.bool neg,.slice p.na num.length p.nc,.slice p.da den.length p.dc,.slice p.aa mono.length p.ac] 81)) _ _ c3)
   have hx:=Blk.new wr 81 #[.bool neg,.slice p.na num.length p.nc,.slice p.da den.length p.dc,.slice p.aa mono.length p.ac];have hw2:=hwr.alloc hwr.size (.cells #[.bool neg,.slice p.na num.length p.nc,.slice p.da den.length p.dc,.slice p.aa mono.length p.ac] 81);have hwa:Below wr.heap.size wr (wr.alloc (.cells #[.bool neg,.slice p.na num.length p.nc,.slice p.da den.length p.dc,.slice p.aa mono.length p.ac] 81)):=brf.alloc (nlr _) _;go_wp2;clear c0 c1 c2 c3;have hwb:∀ W,Below (wr.alloc (.cells #[.bool neg,.slice p.na num.length p.nc,.slice p.da den.length p.dc,.slice p.aa mono.length p.ac] 81)).heap.size (wr.alloc (.cells #[.bool neg,.slice p.na num.length p.nc,.slice p.da den.length p.dc,.slice p.aa mono.length p.ac] 81)) W->Below wr.heap.size wr W:=fun W hW=>bth hwa hW
   clear hwa;revert d0 d1 d2 d3 hx hw2 hwb;generalize wr.alloc (.cells #[.bool neg,.slice p.na num.length p.nc,.slice p.da den.length p.dc,.slice p.aa mono.length p.ac] 81)=w2;intro d0 d1 d2 d3 hx hw2 hwb;have s0:Below w2.heap.size w2 w2.drew:=brf.drew;have k0:=held (hx.cell 0);have k1:=held (hx.cell 1);have k2:=held (hx.cell 2);have k3:=held (hx.cell 3)
   cases hr:Rt.right ⟨neg,num,den⟩ with
   | false =>
    rw [hr] at CR;obtain rfl:res=false:=by rw [<- HRES.out];exact qc8 hlt (qde HT.out (qqq hr))
    clear hr;refine wrM (S:=Below w2.heap.size w2) [(0,.q),(1,.q),(2,.l),(3,.q),(4,.q),(5,.q),(6,.q),(7,.l),(8,.q),(9,.q),(10,.q),(11,.q),(12,.q),(13,.l),(14,.q),(15,.q),(16,.q),(17,.q),(18,.q),(19,.q),(20,.q),(21,.q),(22,.q),(23,.q),(24,.q),(25,.q),(26,.t),(27,.p),(28,.p),(29,.p)] (s0) ?_
    iterate 2 (refine qab rfl rfl fun K hK=>xq ?_;go_simp;refine hK _ _ ?_;clear hK K)
    refine qal rfl rfl (fun K hK=>?_);go_simp;refine (CR.out _ (hwb _ s0)).mono ?_;rintro r w3 ⟨rfl,hb3⟩;dsimp only;refine hK.out _ _ (bth s0 hb3) (fun _=>?_);clear hK K;have s1:=bth s0 hb3
    iterate 2 (refine qab rfl rfl fun K hK=>xq ?_;go_simp;refine hK _ _ ?_;clear hK K)
    iterate 4 (refine qar rfl rfl (fun K hK=>?_);go_simp;refine hK _ _ ?_;clear hK K)
    iterate 2 (refine qab rfl rfl fun K hK=>xq ?_;go_simp;refine hK _ _ ?_;clear hK K)
    iterate 4 (refine qar rfl rfl (fun K hK=>?_);go_simp;refine hK _ _ ?_;clear hK K)
    iterate 2 (refine qab rfl rfl fun K hK=>xq ?_;go_simp;refine hK _ _ ?_;clear hK K)
    iterate 12 (refine qar rfl rfl (fun K hK=>?_);go_simp;refine hK _ _ ?_;clear hK K)
    iterate 1 (refine qae rfl rfl fun K hK=>xp ?_;go_simp;refine hK _ _ ?_;clear hK K)
    refine qac ?_;go_wp2;go_ret;exact ⟨rfl,bth hw2 s1⟩
   | true =>
    rw [hr] at CR;have hden:=qnt hr;have h0:val den≠0:=qoh hr;have CS:=fun W (hW:Below wr.heap.size wr W)=>qhd neg num den (val num) p.na p.da p.nc p.dc W (HP2.out.ext (xbw hW)) (HP3.out.ext (xbw hW)) rfl h0 HTQ.out.1 HTQ.out.2
    have CM:=fun W (hW:Below wr.heap.size wr W)=>qjq mono p.aa p.ac W (HP1.out.ext (xbw hW))
    have hsg:=qs0 neg (val num);have HR:=Hd hr;clear hden h0 hr;by_cases hn0:val num=0
    ·
     rw [decide_eq_true hn0] at hsg;obtain rfl:res=false:=by rw [<- HRES.out];exact qc8 hlt (qde HT.out (qql hn0))
     revert CS hsg;generalize sgnZ neg (val num)=sg;intro CS hsg;replace CS:=Hd CS;replace CM:=Hd CM;clear hn0;refine wrM (S:=Below w2.heap.size w2) [(0,.q),(1,.q),(2,.l),(3,.q),(4,.q),(5,.q),(6,.q),(7,.l),(8,.q),(9,.q),(10,.q),(11,.q),(12,.q),(13,.l),(14,.q),(15,.q),(16,.q),(17,.q),(18,.q),(19,.q),(20,.q),(21,.q),(22,.q),(23,.q),(24,.q),(25,.q),(26,.t),(27,.p),(28,.p),(29,.p)] (s0) ?_
     iterate 2 (refine qab rfl rfl fun K hK=>xq ?_;go_simp;refine hK _ _ ?_;clear hK K)
     refine qal rfl rfl (fun K hK=>?_);go_simp;refine (CR.out _ (hwb _ s0)).mono ?_;rintro r w3 ⟨rfl,hb3⟩;dsimp only;refine hK.out _ _ (bth s0 hb3) (fun _=>?_);clear hK K;have s1:=bth s0 hb3
     iterate 4 (refine qab rfl rfl fun K hK=>xq ?_;go_simp;refine hK _ _ ?_;clear hK K)
     refine qal rfl rfl (fun K hK=>?_);go_simp;refine (CS.out _ (hwb _ s1)).mono ?_;rintro r w4 ⟨rfl,hb4⟩;dsimp only;refine hK.out _ _ (bth s1 hb4) (fun _=>?_);clear hK K;have s2:=bth s1 hb4
     iterate 3 (refine qab rfl rfl fun K hK=>xq ?_;go_simp;refine hK _ _ ?_;clear hK K)
     iterate 4 (refine qar rfl rfl (fun K hK=>?_);go_simp;refine hK _ _ ?_;clear hK K)
     iterate 2 (refine qab rfl rfl fun K hK=>xq ?_;go_simp;refine hK _ _ ?_;clear hK K)
     iterate 12 (refine qar rfl rfl (fun K hK=>?_);go_simp;refine hK _ _ ?_;clear hK K)
     iterate 1 (refine qae rfl rfl fun K hK=>xp ?_;go_simp;refine hK _ _ ?_;clear hK K)
     refine qac ?_;go_wp2;go_ret;exact ⟨rfl,bth hw2 s2⟩
    ·
     rw [decide_eq_false hn0] at hsg;have HN0:=Hd hn0;revert CS hsg;generalize sgnZ neg (val num)=sg;intro CS hsg;replace CS:=Hd CS;clear hn0
     cases hm:monoB mono with
     | false =>
      rw [hm] at CM;replace CM:=Hd CM;obtain rfl:res=false:=by rw [<- HRES.out];exact qc8 hlt (qde HT.out (qq0 hm))
      clear hm;refine wrM (S:=Below w2.heap.size w2) [(0,.q),(1,.q),(2,.l),(3,.q),(4,.q),(5,.q),(6,.q),(7,.l),(8,.q),(9,.q),(10,.q),(11,.q),(12,.q),(13,.l),(14,.q),(15,.q),(16,.q),(17,.q),(18,.q),(19,.q),(20,.q),(21,.q),(22,.q),(23,.q),(24,.q),(25,.q),(26,.t),(27,.p),(28,.p),(29,.p)] (s0) ?_
      iterate 2 (refine qab rfl rfl fun K hK=>xq ?_;go_simp;refine hK _ _ ?_;clear hK K)
      refine qal rfl rfl (fun K hK=>?_);go_simp;refine (CR.out _ (hwb _ s0)).mono ?_;rintro r w3 ⟨rfl,hb3⟩;dsimp only;refine hK.out _ _ (bth s0 hb3) (fun _=>?_);clear hK K;have s1:=bth s0 hb3
      iterate 4 (refine qab rfl rfl fun K hK=>xq ?_;go_simp;refine hK _ _ ?_;clear hK K)
      refine qal rfl rfl (fun K hK=>?_);go_simp;refine (CS.out _ (hwb _ s1)).mono ?_;rintro r w4 ⟨rfl,hb4⟩;dsimp only;refine hK.out _ _ (bth s1 hb4) (fun _=>?_);clear hK K;have s2:=bth s1 hb4
      iterate 5 (refine qab rfl rfl fun K hK=>xq ?_;go_simp;refine hK _ _ ?_;clear hK K)
      refine qal rfl rfl (fun K hK=>?_);go_simp;refine (CM.out _ (hwb _ s2)).mono ?_;rintro r w5 ⟨rfl,rfl⟩;dsimp only;refine hK.out _ _ (s2) (fun _=>?_);clear hK K
      iterate 3 (refine qab rfl rfl fun K hK=>xq ?_;go_simp;refine hK _ _ ?_;clear hK K)
      iterate 12 (refine qar rfl rfl (fun K hK=>?_);go_simp;refine hK _ _ ?_;clear hK K)
      iterate 1 (refine qae rfl rfl fun K hK=>xp ?_;go_simp;refine hK _ _ ?_;clear hK K)
      refine qac ?_;go_wp2;go_ret;exact ⟨rfl,bth hw2 s2⟩
     | true =>
      rw [hm] at CM;replace CM:=Hd CM;have hok:okT ⟨⟨neg,num,den⟩,mono⟩=true:=qsy HR.out HN0.out hm;have HOK:=Hd hok;clear hm hok
      cases k with
      | zero =>
       have hbad:=qib HT.out HOK.out;have HB:=Hd hbad;clear hbad;refine wrM (S:=Below w2.heap.size w2) [(0,.q),(1,.q),(2,.l),(3,.q),(4,.q),(5,.q),(6,.q),(7,.l),(8,.q),(9,.q),(10,.q),(11,.q),(12,.q),(13,.l),(14,.q),(15,.q),(16,.q),(17,.q),(18,.q),(19,.q),(20,.q),(21,.q),(22,.q),(23,.q),(24,.q),(25,.q),(26,.t),(27,.p),(28,.p),(29,.p)] (s0) ?_
       iterate 2 (refine qab rfl rfl fun K hK=>xq ?_;go_simp;refine hK _ _ ?_;clear hK K)
       refine qal rfl rfl (fun K hK=>?_);go_simp;refine (CR.out _ (hwb _ s0)).mono ?_;rintro r w3 ⟨rfl,hb3⟩;dsimp only;refine hK.out _ _ (bth s0 hb3) (fun _=>?_);clear hK K;have s1:=bth s0 hb3
       iterate 4 (refine qab rfl rfl fun K hK=>xq ?_;go_simp;refine hK _ _ ?_;clear hK K)
       refine qal rfl rfl (fun K hK=>?_);go_simp;refine (CS.out _ (hwb _ s1)).mono ?_;rintro r w4 ⟨rfl,hb4⟩;dsimp only;refine hK.out _ _ (bth s1 hb4) (fun _=>?_);clear hK K;have s2:=bth s1 hb4
       iterate 5 (refine qab rfl rfl fun K hK=>xq ?_;go_simp;refine hK _ _ ?_;clear hK K)
       refine qal rfl rfl (fun K hK=>?_);go_simp;refine (CM.out _ (hwb _ s2)).mono ?_;rintro r w5 ⟨rfl,rfl⟩;dsimp only;refine hK.out _ _ (s2) (fun _=>?_);clear hK K
       iterate 6 (refine qab rfl rfl fun K hK=>xq ?_;go_simp;refine hK _ _ ?_;clear hK K)
       iterate 8 (refine qar rfl rfl (fun K hK=>?_);go_simp;refine hK _ _ ?_;clear hK K)
       iterate 2 (refine qae rfl rfl fun K hK=>xp ?_;go_simp;refine hK _ _ ?_;clear hK K)
       refine qac ?_;go_wp2;go_roundg (gk-1)
       case rel=>exact ⟨1,by have:=HKG.out;omega,by go_num,bth hw2 s2,qi4 HA.out HB.out⟩
       case measure=>have:=HKG.out;omega
      | succ j =>
       obtain ⟨s,hs⟩:=qad (xs:=l) (k:=j) (by omega);obtain ⟨b',off',hao,p',hC',hP'⟩:=HPR.out.2.2 j s hs;injection hao with hao
       injection hao with hao1 hao2
       subst hao1 hao2;obtain ⟨c0,c1,c2,c3⟩:=hC';have hbad:=qiq HT.out hs HOK.out;have HB:=Hd hbad;have e0:=fun W (hW:Below w2.heap.size w2 W)=>xbw (hwb W hW) _ _ c0
       have e1:=fun W (hW:Below w2.heap.size w2 W)=>xbw (hwb W hW) _ _ c1
       have e2:=fun W (hW:Below w2.heap.size w2 W)=>xbw (hwb W hW) _ _ c2
       have e3:=fun W (hW:Below w2.heap.size w2 W)=>xbw (hwb W hW) _ _ c3
       have CL:=fun W (hW:Below wr.heap.size wr W)=>qs9 s ⟨⟨neg,num,den⟩,mono⟩ p' p W (hP'.1.ext (xbw hW)) (HP1.out.ext (xbw hW))
       unfold Trm.val at CL;dsimp only at CL hbad;revert CL hbad;generalize lexI s.mono mono=lx;intro hbad CL;have hwk:IntKind.i64.wrap (j:Int)=(j:Int):=by rw [IntKind.wrap_i64];omega
       replace CL:=Hd CL;have HBD:=Hd hbad;have hjl:j<l.length:=by omega
       clear hbad HB hP' hs c0 c1 c2 c3;by_cases hlx:lx<=0
       ·
        have hle:decide (lx<=0)=true:=by simpa using hlx
        obtain rfl:res=false:=by rw [<- HRES.out];exact qc8 hlt (HBD.out.trans hle)
        clear hlx HBD;refine wrM (S:=Below w2.heap.size w2) [(0,.q),(1,.q),(2,.l),(3,.q),(4,.q),(5,.q),(6,.q),(7,.l),(8,.q),(9,.q),(10,.q),(11,.q),(12,.q),(13,.l),(14,.q),(15,.q),(16,.q),(17,.q),(18,.q),(19,.q),(20,.q),(21,.q),(22,.q),(23,.q),(24,.q),(25,.q),(26,.t),(27,.p),(28,.p),(29,.p)] (s0) ?_
        iterate 2 (refine qab rfl rfl fun K hK=>xq ?_;go_simp;refine hK _ _ ?_;clear hK K)
        refine qal rfl rfl (fun K hK=>?_);go_simp;refine (CR.out _ (hwb _ s0)).mono ?_;rintro r w3 ⟨rfl,hb3⟩;dsimp only;refine hK.out _ _ (bth s0 hb3) (fun _=>?_);clear hK K;have s1:=bth s0 hb3
        iterate 4 (refine qab rfl rfl fun K hK=>xq ?_;go_simp;refine hK _ _ ?_;clear hK K)
        refine qal rfl rfl (fun K hK=>?_);go_simp;refine (CS.out _ (hwb _ s1)).mono ?_;rintro r w4 ⟨rfl,hb4⟩;dsimp only;refine hK.out _ _ (bth s1 hb4) (fun _=>?_);clear hK K;have s2:=bth s1 hb4
        iterate 5 (refine qab rfl rfl fun K hK=>xq ?_;go_simp;refine hK _ _ ?_;clear hK K)
        refine qal rfl rfl (fun K hK=>?_);go_simp;refine (CM.out _ (hwb _ s2)).mono ?_;rintro r w5 ⟨rfl,rfl⟩;dsimp only;refine hK.out _ _ (s2) (fun _=>?_);clear hK K
        iterate 12 (refine qab rfl rfl fun K hK=>xq ?_;go_simp;refine hK _ _ ?_;clear hK K)
        refine qam rfl rfl (fun K hK=>?_);go_simp;refine (CL.out _ (hwb _ s2)).mono ?_;rintro r w6 ⟨rfl,hb6⟩;dsimp only;refine hK.out _ _ ?_;clear hK K;have s3:=bth s2 hb6
        iterate 3 (refine qae rfl rfl fun K hK=>xp ?_;go_simp;refine hK _ _ ?_;clear hK K)
        refine qac ?_;go_wp2;go_ret;exact ⟨rfl,bth hw2 s3⟩
       ·
        have hle:decide (lx<=0)=false:=by simpa using hlx
        have HB:=Hd (HBD.out.trans hle);clear hlx HBD;refine wrM (S:=Below w2.heap.size w2) [(0,.q),(1,.q),(2,.l),(3,.q),(4,.q),(5,.q),(6,.q),(7,.l),(8,.q),(9,.q),(10,.q),(11,.q),(12,.q),(13,.l),(14,.q),(15,.q),(16,.q),(17,.q),(18,.q),(19,.q),(20,.q),(21,.q),(22,.q),(23,.q),(24,.q),(25,.q),(26,.t),(27,.p),(28,.p),(29,.p)] (s0) ?_
        iterate 2 (refine qab rfl rfl fun K hK=>xq ?_;go_simp;refine hK _ _ ?_;clear hK K)
        refine qal rfl rfl (fun K hK=>?_);go_simp;refine (CR.out _ (hwb _ s0)).mono ?_;rintro r w3 ⟨rfl,hb3⟩;dsimp only;refine hK.out _ _ (bth s0 hb3) (fun _=>?_);clear hK K;have s1:=bth s0 hb3
        iterate 4 (refine qab rfl rfl fun K hK=>xq ?_;go_simp;refine hK _ _ ?_;clear hK K)
        refine qal rfl rfl (fun K hK=>?_);go_simp;refine (CS.out _ (hwb _ s1)).mono ?_;rintro r w4 ⟨rfl,hb4⟩;dsimp only;refine hK.out _ _ (bth s1 hb4) (fun _=>?_);clear hK K;have s2:=bth s1 hb4
        iterate 5 (refine qab rfl rfl fun K hK=>xq ?_;go_simp;refine hK _ _ ?_;clear hK K)
        refine qal rfl rfl (fun K hK=>?_);go_simp;refine (CM.out _ (hwb _ s2)).mono ?_;rintro r w5 ⟨rfl,rfl⟩;dsimp only;refine hK.out _ _ (s2) (fun _=>?_);clear hK K
        iterate 12 (refine qab rfl rfl fun K hK=>xq ?_;go_simp;refine hK _ _ ?_;clear hK K)
        refine qam rfl rfl (fun K hK=>?_);go_simp;refine (CL.out _ (hwb _ s2)).mono ?_;rintro r w6 ⟨rfl,hb6⟩;dsimp only;refine hK.out _ _ ?_;clear hK K;have s3:=bth s2 hb6
        iterate 3 (refine qae rfl rfl fun K hK=>xp ?_;go_simp;refine hK _ _ ?_;clear hK K)
        refine qac ?_;go_wp2;go_roundg (gk-1)
        case rel=>exact ⟨j+1+1,by have:=HKG.out;omega,by go_num,bth hw2 s3,qi4 HA.out HB.out⟩
        case measure=>have:=HKG.out;omega
  ·
   obtain rfl:res=true:=by rw [<- HRES.out];exact qij fun i hi=>HA.out i (by omega)
   go_wp2;go_ret;exact ⟨rfl,hwr⟩
def strC (s:ByteArray):List Value:=[.string s]
def intC (x:Int):List Value:=[.int .i64 x]
theorem qlb (s:ByteArray):(strC s).length=1:=rfl
theorem qe3 (s:Int):(intC s).length=1:=rfl
theorem qqh (s:ByteArray):∀ u∈strC s,u.oneCell'=true:=by simp [strC,Value.oneCell']
theorem qlk (s:Int):∀ u∈intC s,u.oneCell'=true:=by simp [intC,Value.oneCell']
theorem qow {w:World} {b:Nat} {s:ByteArray} (h:w.cell? ⟨b,0,none⟩=some (.string s)):∀ j u,(strC s)[j]? = some u->w.cell? ⟨b,j,none⟩=some u:=by
 intro j u hu
 match j,hu with
 | 0,hu=>simp [strC] at hu;subst hu;exact h
theorem qxo {w:World} {b:Nat} {s:Int} (h:w.cell? ⟨b,0,none⟩=some (.int .i64 s)):∀ j u,(intC s)[j]? = some u->w.cell? ⟨b,j,none⟩=some u:=by
 intro j u hu
 match j,hu with
 | 0,hu=>simp [intC] at hu;subst hu;exact h
abbrev OwnS (B:Nat) (w:World) (a:Option Addr) (c:Nat) (l:List ByteArray):Prop:=Own strC 1 9 B w a c l
abbrev OwnI (B:Nat) (w:World) (a:Option Addr) (c:Nat) (l:List Int):Prop:=Own intC 1 3 B w a c l
theorem infoS:(Tryz.prog.info? 9).map (fun i=>(i.zero,i.size,i.bytes))=some (some (.string ⟨#[]⟩),1,16):=by kernel_rfl
theorem infoI:(Tryz.prog.info? 3).map (fun i=>(i.zero,i.size,i.bytes))=some (some (.int .i64 0),1,8):=by kernel_rfl
section
variable {B : Nat} {w : World} {a : Option Addr} {c : Nat}
theorem OwnS.reads1 {l:List ByteArray} (h:OwnS B w a c l):StrsR w a c l :=
 Own.reads qlb h fun g o x hx hc=>show w.cell? _=_ by simpa using hc 0 _ rfl
theorem OwnI.reads1 {l:List Int} (h:OwnI B w a c l) (hs:∀ s∈l,InInt s):IntsR w a c l :=
 Own.reads qe3 h fun g o x hx hc=>⟨by simpa using hc 0 _ rfl,wf_of (hs x hx)⟩
end
theorem qma {B:Nat} {w:World} {l:List ByteArray} {ops:Array Oper} {rest:List Oper} {o:Oper} {act:Act} {Q:Exit->Act->World->Prop} (hgd:o.guard=none) (s y:Operand)
  (ho:o.op=.call { callee:=.builtin .append,args:=#[s,y],argTypes:=#[22,22] })
  (a:Option Addr) (c:Nat) (hs:act.eval s=.slice a l.length c) (hown:OwnS B w a c l)
  (x:ByteArray) (b c1:Nat) (hy:act.eval y=.slice (some ⟨b,0,none⟩) 1 c1) (hcell:w.cell? ⟨b,0,none⟩=some (.string x))
  (l2:List ByteArray) (hl2:l2=l++[x]) (hlen:l2.length<=16777216) (hB:B<=w.heap.size)
  (h:∀ a' c' w',OwnS B w' a' c' l2->w.grownBy w' (Value.ownBlock (.slice a l.length c))->((∃ g,a'=some ⟨g,0,none⟩/\(a=some ⟨g,0,none⟩\/g=w.heap.size))) ->
   wpList Tryz.prog ops Q rest (act.put o.dst (.slice a' l2.length c')) w'):wpList Tryz.prog ops Q (o :: rest) act w :=
 qa8 hgd s y 22 ho Tryz.underlying22 infoS rfl (by omega) (by omega) qlb a c hs hown x (qqh x) b c1 hy (qow hcell) l2 hl2 hlen hB h
theorem qe2 {B:Nat} {w:World} {l:List Int} {ops:Array Oper} {rest:List Oper} {o:Oper} {act:Act} {Q:Exit->Act->World->Prop} (hgd:o.guard=none) (s y:Operand)
  (ho:o.op=.call { callee:=.builtin .append,args:=#[s,y],argTypes:=#[24,24] })
  (a:Option Addr) (c:Nat) (hs:act.eval s=.slice a l.length c) (hown:OwnI B w a c l)
  (x:Int) (b c1:Nat) (hy:act.eval y=.slice (some ⟨b,0,none⟩) 1 c1) (hcell:w.cell? ⟨b,0,none⟩=some (.int .i64 x))
  (l2:List Int) (hl2:l2=l++[x]) (hlen:l2.length<=16777216) (hB:B<=w.heap.size)
  (h:∀ a' c' w',OwnI B w' a' c' l2->w.grownBy w' (Value.ownBlock (.slice a l.length c))->((∃ g,a'=some ⟨g,0,none⟩/\(a=some ⟨g,0,none⟩\/g=w.heap.size))) ->
   wpList Tryz.prog ops Q rest (act.put o.dst (.slice a' l2.length c')) w'):wpList Tryz.prog ops Q (o :: rest) act w :=
 qa8 hgd s y 24 ho Tryz.underlying24 infoI rfl (by omega) (by omega) qe3 a c hs hown x (qlk x) b c1 hy (qxo hcell) l2 hl2 hlen hB h
section
variable {α : Type} {f : α -> List Value} {sz : Nat} {t : TypeId} {B : Nat} {w : World} {l : List α} {P : Program}
theorem qsi {o:Oper} {act:Act} {K:Act->World->Prop} {Q:Exit->Act->World->Prop} (s y:Operand) (ts:TypeId)
  (ho:o.op=.call { callee:=.builtin .append,args:=#[s,y],argTypes:=#[ts,ts] })
  {z:Value} {bytes:Nat} (ht:P.underlying ts=some (.slice t)) (hi:(P.info? t).map (fun i=>(i.zero,i.size,i.bytes))=some (some z,sz,bytes)) (hz:z.cells.size=sz) (hsz:0<sz) (hby:bytes<=1024)
  (hf:∀ x,(f x).length=sz) (a:Option Addr) (c:Nat) (hs:act.eval s=.slice a l.length c) (hown:Own f sz t B w a c l)
  (m:List α) (hm:m≠[]) (hone:∀ u∈m.flatMap f,u.oneCell'=true) (p:Addr) (c1:Nat) (hy:act.eval y=.slice (some p) m.length c1) (hcell:∀ j u,(m.flatMap f)[j]? = some u->w.cell? (p.add j)=some u)
  (l2:List α) (hl2:l2=l++m) (hlen:l2.length<=16777216) (hB:B<=w.heap.size)
  (h:∀ a' c' w',Own f sz t B w' a' c' l2->w.grownBy w' (Value.ownBlock (.slice a l.length c))->((∃ g,a'=some ⟨g,0,none⟩/\(a=some ⟨g,0,none⟩\/g=w.heap.size))) ->
   K (act.put o.dst (.slice a' l2.length c')) w'):o.wp P act w K Q:=by
 subst hl2;obtain ⟨i,hi0,hz0,hz1,hz2⟩:=info_parts hi;simp only [List.length_append] at hlen;have hml:0<m.length:=List.length_pos_iff.2 hm;have hfl:(m.flatMap f).length=m.length*sz:=by
  clear hone hcell hm hy hlen hml h
  induction m with
  | nil=>simp
  | cons x m ih=>simp only [List.flatMap_cons,List.length_append,List.length_cons,ih,hf,Nat.add_mul];omega
 obtain ⟨v',w',hr,h2,h3,_,h5⟩:=run_append_own_at (P:=P) w B ts o.type t i z sz bytes ht hi0 hz0 hz1 hz2 hz hsz (.slice a l.length c) l.length (l.flatMap f) hown p m.length c1 (m.flatMap f) hfl
  hcell hone (by unfold maxLen;omega)
  (by have : (l.length + m.length) * bytes <= 16777216 * 1024 := Nat.mul_le_mul hlen hby
      omega) hB
 unfold Oper.wp execOp;simp only [ho,resolve,invoke,builtin,Sem.run_bind,Sem.run_pure,Result.andThen_ok,List.map_toArray,List.map_cons,List.map_nil,hs,hy,hr];have hf2:(l++m).flatMap f=l.flatMap f++m.flatMap f:=by simp
 have hn:(l++m).length=l.length+m.length:=by simp
 obtain ⟨g,cap,hv,hb,hlt⟩:=h2.form (by omega);subst hv;rw [<- hn];refine h _ _ w' (by unfold Own;rw [hf2,hn];exact h2) h3 ⟨g,rfl,?_⟩;rcases h5 with h5 | h5
 ·
  left
  cases a with
  | none=>simp [Value.ownBlock] at h5
  | some g' =>
   have hg':g=g'.block:=by simpa [Value.ownBlock] using h5
   rcases hown.2 with ⟨e,_⟩ | ⟨g2,_,_,e,_⟩
   · cases e
   ·
    injection e with e1
    injection e1 with e1
    subst e1;simp at hg';rw [hg']
 ·
  right;simpa [Value.ownBlock] using h5
theorem qsf {o:Oper} {act:Act} {K:Act->World->Prop} {Q:Exit->Act->World->Prop} (s y:Operand) (ts:TypeId)
  (ho:o.op=.call { callee:=.builtin .append,args:=#[s,y],argTypes:=#[ts,ts] })
  (ht:P.underlying ts=some (.slice t)) {i:TypeInfo} (hi:P.info? t=some i)
  (a:Option Addr) (n c:Nat) (hnc:n<=c) (hs:act.eval s=.slice a n c) (b:Option Addr) (c1:Nat) (hy:act.eval y=.slice b 0 c1)
  (h:K (act.put o.dst (.slice a n c)) w):o.wp P act w K Q:=by
 have hsrc:Src P i.size ts (.slice b 0 c1) 0 [] w:=by
  cases b with
  | none=>exact Src.ofNil w ht c1
  | some p=>exact Src.ofSlice w ht p 0 c1 [] (by simp) (fun j u hu=>by simp at hu) (fun u hu=>by cases hu)
 have hr:=run_append_nothing (P:=P) w ts ts o.type t i ht hi a n c hnc _ hsrc;unfold Oper.wp execOp;simp only [ho,resolve,invoke,builtin,Sem.run_bind,Sem.run_pure,Result.andThen_ok,List.map_toArray,List.map_cons,List.map_nil,hs,hy,hr];exact h
end
def FineT (u:Tm):Prop:=Mok 1048576 u.2/\u.1≠0/\qsz u.1<=1000
def FineP (p:List Tm):Prop:=p.length<=100000/\∀ u∈p,FineT u
structure TQ where
 x:QA
 n:Nat
 a:Option Addr
 c:Nat
def TQ.cs (t:TQ):List Value:=[.bool t.x.neg,.slice t.x.a t.x.n t.x.c,.slice t.x.b t.x.m t.x.d,.slice t.a t.n t.c]
theorem TQ.cs_len (t:TQ):t.cs.length=4:=rfl
theorem TQ.cs_one (t:TQ):∀ u∈t.cs,u.oneCell'=true:=by simp [TQ.cs,Value.oneCell']
def TQ.R (t:TQ) (u:Tm) (V:World):Prop:=QAc V t.x u.1/\IntsR V t.a t.c u.2/\t.n=u.2.length
theorem TQ.R.qk {t:TQ} {u:Tm} {V:World} (h:t.R u V) (hf:FineT u):QK 1000 V t.x u.1:=⟨h.1,hf.2.2⟩
def TQ.At (t:TQ) (V:World) (b o:Nat):Prop:=V.cell? ⟨b,o,none⟩=some (.bool t.x.neg)/\V.cell? ⟨b,o+1,none⟩=some (.slice t.x.a t.x.n t.x.c)/\V.cell? ⟨b,o+2,none⟩=some (.slice t.x.b t.x.m t.x.d)/\V.cell? ⟨b,o+3,none⟩=some (.slice t.a t.n t.c)
theorem TQ.at_of {t:TQ} {V:World} {b o:Nat} (h:∀ j v,t.cs[j]? = some v->V.cell? ⟨b,o+j,none⟩=some v):t.At V b o:=⟨by simpa using h 0 _ rfl,h 1 _ rfl,h 2 _ rfl,h 3 _ rfl⟩
theorem TQ.At.cs {t:TQ} {V:World} {b o:Nat} (h:t.At V b o):∀ j v,t.cs[j]? = some v->V.cell? ⟨b,o+j,none⟩=some v:=fun j v hj=>by
 match j,hj with
 | 0,hj=>simp [TQ.cs] at hj;subst hj;exact h.1
 | 1,hj=>simp [TQ.cs] at hj;subst hj;exact h.2.1
 | 2,hj=>simp [TQ.cs] at hj;subst hj;exact h.2.2.1
 | 3,hj=>simp [TQ.cs] at hj;subst hj;exact h.2.2.2
 | j+4,hj=>simp [TQ.cs] at hj
def AllT (X:Nat->Prop) (w:World) (l:List TQ) (p:List Tm):Prop:=l.length=p.length/\∀ (k:Nat) (t:TQ) (u:Tm),l[k]? = some t->p[k]? = some u->Rd X w (t.R u)
def RowT (a:Option Addr) (c:Nat) (l:List TQ) (V:World):Prop:=SlR 4 (fun V b o (t:TQ)=>t.At V b o) V a c l
def PolX (X:Nat->Prop) (w:World) (a:Option Addr) (c:Nat) (p:List Tm):Prop:=∃ l:List TQ,Rd X w (RowT a c l)/\AllT X w l p
section
variable {X Y : Nat -> Prop} {w w' : World} {a : Option Addr} {c : Nat} {p q : List Tm} {l l' : List TQ}
theorem AllT.nil:AllT X w [] []:=⟨rfl,fun k t u h=>by simp at h⟩
theorem AllT.map (h:AllT X w l p) (e:∀ t u,Rd X w (TQ.R t u)->Rd Y w' (TQ.R t u)):AllT Y w' l p:=⟨h.1,fun k t u h1 h2=>e _ _ (h.2 k t u h1 h2)⟩
theorem AllT.step (h:AllT X w l p) (e:Agr X w w'):AllT X w' l p:=h.map fun _ _ k=>k.step e
theorem AllT.call (h:AllT X w l p) (e:Below w.heap.size w w'):AllT X w' l p:=h.map fun _ _ k=>k.call e
theorem AllT.append (h:AllT X w l p) (k:AllT X w l' q):AllT X w (l++l') (p++q):=⟨by rw [List.length_append,List.length_append,h.1,k.1],fun i t u h1 h2=>by
 rcases Nat.lt_or_ge i l.length with e | e
 ·
  rw [List.getElem?_append_left e] at h1;rw [List.getElem?_append_left (by rw [<- h.1];exact e)] at h2;exact h.2 i t u h1 h2
 ·
  rw [List.getElem?_append_right e] at h1;rw [List.getElem?_append_right (by rw [<- h.1];exact e),<- h.1] at h2;exact k.2 _ t u h1 h2⟩
theorem AllT.one {t:TQ} {u:Tm} (h:Rd X w (t.R u)):AllT X w [t] [u]:=⟨rfl,fun k t' u' h1 h2=>by
 cases k with
 | zero=>simp at h1 h2;subst h1 h2;exact h
 | succ k=>simp at h1⟩
theorem AllT.drop (h:AllT X w l p) (n:Nat):AllT X w (l.drop n) (p.drop n):=⟨by simp [h.1],fun k t u h1 h2=>h.2 (n+k) t u (by simpa using h1) (by simpa using h2)⟩
theorem AllT.take (h:AllT X w l p) (n:Nat):AllT X w (l.take n) (p.take n):=⟨by simp [h.1],fun k t u h1 h2=>by
 rw [List.getElem?_take] at h1 h2
 split at h1
 ·
  rename_i hk
  rw [if_pos hk] at h2;exact h.2 k t u h1 h2
 · cases h1⟩
theorem PolX.nil:PolX X w none 0 []:=⟨[],fun _ _=>SlR.nil,AllT.nil⟩
theorem PolX.map (h:PolX X w a c p) (e:∀ R,Rd X w R->Rd Y w' R):PolX Y w' a c p:=by
 obtain ⟨l,h1,h2⟩:=h;exact ⟨l,e _ h1,h2.map fun _ _ k=>e _ k⟩
theorem PolX.step (h:PolX X w a c p) (e:Agr X w w'):PolX X w' a c p:=h.map fun _ k=>k.step e
theorem PolX.call (h:PolX X w a c p) (e:Below w.heap.size w w'):PolX X w' a c p:=h.map fun _ k=>k.call e
theorem PolX.cap (h:PolX X w a c p):p.length<=c/\c<=maxLen:=by
 obtain ⟨l,h1,h2⟩:=h;rw [<- h2.1];exact ⟨h1.now.1,h1.now.2.1⟩
theorem PolX.len (h:PolX X w a c p):p.length<=9223372036854775807:=by have h1:=h.cap;unfold maxLen at h1;omega
theorem PolX.get (h:PolX X w a c p) {k:Nat} {u:Tm} (hk:p[k]? = some u):∃ (b off:Nat) (t:TQ),a=some ⟨b,off,none⟩/\t.At w b (off+k*4)/\Rd X w (t.R u):=by
 obtain ⟨l,h1,h2⟩:=h;obtain ⟨t,ht⟩:=qad (show k<l.length by have:=qas hk;rw [h2.1];exact this);obtain ⟨b,off,ha,hA⟩:=h1.now.2.2 k t ht;exact ⟨b,off,t,ha,hA,h2.2 k t u ht hk⟩
theorem Rd.kp {R:World->Prop} {B T:Nat} (h:Kp R B T w) (hX:∀ b,X b->b<B\/T<=b):Rd X w R:=fun V hV=>h V fun p v h1 h2 h3=>hV p v (fun hx=>by have:=hX _ hx;omega) h3
end
abbrev OwnT (B:Nat) (w:World) (a:Option Addr) (c:Nat) (l:List TQ):Prop:=Own TQ.cs 4 81 B w a c l
theorem qia:(Tryz.prog.info? 81).map (fun i=>(i.zero,i.size,i.bytes))=some (some (.agg #[.bool false,.slice none 0 0,.slice none 0 0,.slice none 0 0]),4,80):=by kernel_rfl
def Xr (X:Nat->Prop) (a:Option Addr):Nat->Prop:=fun b=>X b\/∃ g:Addr,a=some g/\b=g.block
section
variable {X : Nat -> Prop} {w w' w'' : World} {B : Nat} {a a' : Option Addr} {c n : Nat} {p : List Tm} {l : List TQ} {R : World -> Prop}
theorem Rd.row (h:Rd X w R) (ha:∀ g,a=some g->w.heap.size<=g.block):Rd (Xr X a) w R:=h.more fun b hb=>by
 rcases hb with hb | ⟨g,hg,rfl⟩
 · exact .inl hb
 · exact .inr (ha g hg)
theorem Rd.app (h:Rd (Xr X a) w R) (hg:w.grownBy w' (Value.ownBlock (.slice a n c))) (ha:∃ g,a'=some ⟨g,0,none⟩/\(a=some ⟨g,0,none⟩\/g=w.heap.size)):Rd (Xr X a') w' R:=by
 obtain ⟨g,rfl,h2⟩:=ha;have h1:Rd (fun b=>Xr X a b\/b=g) w R:=h.more fun b hb=>by
  rcases hb with hb | rfl
  · exact .inl hb
  ·
   rcases h2 with h2 | h2
   · exact .inl (.inr ⟨_,h2,rfl⟩)
   · exact .inr (by omega)
 have h3:Rd (fun b=>Xr X a b\/b=g) w' R:=h1.step ((Agr.refl _ _).grown hg fun g hg=>.inl (.inr ⟨g,hg,rfl⟩));intro V hV;exact h3 V (hV.mono fun b hb=>by
  rcases hb with hb | ⟨g',hg',rfl⟩
  · exact .inl (.inl hb)
  ·
   injection hg' with hg'
   subst hg';exact .inr rfl)
theorem AllT.app {lo:List TQ} (h:AllT (Xr X a) w lo p) (hg:w.grownBy w' (Value.ownBlock (.slice a n c))) (ha:∃ g,a'=some ⟨g,0,none⟩/\(a=some ⟨g,0,none⟩\/g=w.heap.size)):AllT (Xr X a') w' lo p:=h.map fun _ _ k=>k.app hg ha
theorem OwnT.pol (ho:OwnT B w a c l) (hA:AllT (Xr X a) w l p) (hX:∀ b,X b->b<B):PolX X w a c p:=by
 refine ⟨l,fun V hV=>?_,hA.map fun _ _ k=>k.less fun b hb=>.inl hb⟩;refine ho.readsX l rfl TQ.cs_len hV (fun g hg hx=>?_) fun b o k x y h1 h2 hc=>?_
 ·
  have:=hX _ hx;have:=(ho.lt hg).1
  omega
 ·
  rw [h1] at h2;injection h2 with h2
  subst h2;exact TQ.at_of hc
end
def RetP (X:Nat->Prop) (p:List Tm) (w:World) (e:Ending) (w':World):Prop:=∃ a c,e=.returned (.slice a p.length c)/\PolX X w' a c p/\Below w.heap.size w w'
theorem qce {B:Nat} {w:World} {l:List TQ} {ops:Array Oper} {rest:List Oper} {o:Oper} {act:Act} {Q:Exit->Act->World->Prop} (hgd:o.guard=none) (s y:Operand) (ts:TypeId)
  (ho:o.op=.call { callee:=.builtin .append,args:=#[s,y],argTypes:=#[ts,ts] }) (hu:Tryz.prog.underlying ts=some (.slice 81))
  (a:Option Addr) (c:Nat) (hs:act.eval s=.slice a l.length c) (hown:OwnT B w a c l)
  (x:TQ) (b c1:Nat) (hy:act.eval y=.slice (some ⟨b,0,none⟩) 1 c1) (hcell:x.At w b 0)
  (l2:List TQ) (hl2:l2=l++[x]) (hlen:l2.length<=16777216) (hB:B<=w.heap.size)
  (h:∀ a' c' w',OwnT B w' a' c' l2->w.grownBy w' (Value.ownBlock (.slice a l.length c))->((∃ g,a'=some ⟨g,0,none⟩/\(a=some ⟨g,0,none⟩\/g=w.heap.size))) ->
   wpList Tryz.prog ops Q rest (act.put o.dst (.slice a' l2.length c')) w'):wpList Tryz.prog ops Q (o :: rest) act w :=
 qa8 hgd s y ts ho hu qia rfl (by omega) (by omega) TQ.cs_len a c hs hown x (TQ.cs_one x) b c1 hy (by have:=hcell.cs;simpa using this) l2 hl2 hlen hB h
theorem qad1 (m:List TQ) (j:Nat):(m.flatMap TQ.cs)[j]? = (m[j / 4]?).bind fun t=>t.cs[j % 4]?:=by
 induction m generalizing j with
 | nil=>simp
 | cons t m ih =>
  rw [List.flatMap_cons];rcases Nat.lt_or_ge j 4 with h | h
  ·
   rw [List.getElem?_append_left (by rw [TQ.cs_len];exact h),Nat.div_eq_of_lt h,Nat.mod_eq_of_lt h]
   rfl
  ·
   rw [List.getElem?_append_right (by rw [TQ.cs_len];exact h),TQ.cs_len,ih];obtain ⟨k,rfl⟩:∃ k,j=k+4:=⟨j-4,by omega⟩
   rw [Nat.add_sub_cancel,Nat.add_div_right _ (by omega),Nat.add_mod_right]
   rfl
theorem qcd {B:Nat} {w:World} {l:List TQ} {ops:Array Oper} {rest:List Oper} {o:Oper} {act:Act} {Q:Exit->Act->World->Prop} (hgd:o.guard=none) (s y:Operand) (ts:TypeId)
  (ho:o.op=.call { callee:=.builtin .append,args:=#[s,y],argTypes:=#[ts,ts] }) (hu:Tryz.prog.underlying ts=some (.slice 81))
  (a:Option Addr) (c:Nat) (hs:act.eval s=.slice a l.length c) (hown:OwnT B w a c l) (m:List TQ) (b:Option Addr) (n c1:Nat) (hn:n=m.length) (hy:act.eval y=.slice b n c1) (hm:RowT b c1 m w)
  (l2:List TQ) (hl2:l2=l++m) (hlen:l2.length<=16777216) (hB:B<=w.heap.size)
  (h:∀ a' c' w',OwnT B w' a' c' l2->w.grownBy w' (Value.ownBlock (.slice a l.length c))->(m=[]/\a'=a/\w'=w\/(∃ g,a'=some ⟨g,0,none⟩/\(a=some ⟨g,0,none⟩\/g=w.heap.size))) ->
   wpList Tryz.prog ops Q rest (act.put o.dst (.slice a' l2.length c')) w'):wpList Tryz.prog ops Q (o :: rest) act w:=by
 subst hl2 hn;refine wpList_plain hgd fun _ hK=>?_
 cases m with
 | nil =>
  obtain ⟨i,hi,_⟩:=info_parts qia;refine qsf s y ts ho hu hi a l.length c hown.cap.1 hs b c1 hy ?_;have:=h a c w (by simpa using hown) (World.grownBy.refl _ _) (.inl ⟨rfl,rfl,rfl⟩);simp only [List.append_nil] at this;exact hK _ _ this
 | cons x m =>
  obtain ⟨bb,off,hb,_⟩:=hm.2.2 0 x rfl;refine qsi s y ts ho hu qia rfl (by omega) (by omega) TQ.cs_len a c hs hown (x :: m) (by simp) ?_ ⟨bb,off,none⟩ c1 (by rw [hy,hb]) ?_ _ rfl hlen hB
   fun a' c' w' h1 h2 h3=>hK _ _ (h a' c' w' h1 h2 (.inr h3))
  ·
   intro u hu;simp only [List.mem_flatMap] at hu;obtain ⟨z,_,hz⟩:=hu;exact TQ.cs_one z u hz
  ·
   intro j u hu;rw [qad1] at hu;obtain ⟨z,hz,hj⟩:=Option.bind_eq_some_iff.1 hu;obtain ⟨b2,off2,hb2,hc⟩:=hm.2.2 (j / 4) z hz;rw [hb] at hb2;have e1:bb=b2:=congrArg (fun o:Option Addr=>(o.getD default).block) hb2;have e2:off=off2:=congrArg (fun o:Option Addr=>(o.getD default).off) hb2;subst e1;subst e2;have:=hc.cs (j % 4) u hj;rw [Addr.add_lit]
   rwa [show off+j / 4*4+j % 4=off+j by omega] at this
def sgnQ (q:Rat):Int:=if q=0 then 0 else if q<0 then -1 else 1
theorem qx9 (q:Rat):sgnZ (decide (q.num<0)) q.num.natAbs=sgnQ q:=by
 unfold sgnZ sgnQ;by_cases h:q=0
 · subst h;rfl
 ·
  have h0:q.num≠0:=fun e=>h (Rat.num_eq_zero.1 e)
  rw [if_neg (by omega),if_neg h];have h2:q<0↔q.num<0:=by rw [Rat.lt_iff];simp
  by_cases h1:q.num<0
  · rw [if_pos (by simpa using h1),if_pos (h2.2 h1)]
  · rw [if_neg (by simpa using h1),if_neg (fun e=>h1 (h2.1 e))]
theorem qj0 {q:Rat}:sgnQ q=0↔q=0:=by
 unfold sgnQ;by_cases h:q=0
 · simp [h]
 ·
  rw [if_neg h]
  constructor
  · intro e;split at e <;> omega
  · intro e;exact absurd e h
theorem zz28 {P:Prop} (h:P:=by
 by_cases h:q=0
 · rw [qj0.2 h];simp [h]
 ·
  have:=fun e=>h (qj0.1 e)
  rw [decide_eq_false h];simpa using this
 ):P:=h
theorem qm2 (q:Rat):(sgnQ q != 0) = !decide (q=0):=by
 exact zz28
theorem qai0 (q:Rat):(sgnQ q==0)=decide (q=0):=by
 exact zz28
theorem Kp.broad {R:World->Prop} {B B' T T':Nat} {w:World} (h:Kp R B T w) (hB:B'<=B) (hT:T<=T'):Kp R B' T' w:=fun V hV=>h V fun p v h1 h2 h3=>hV p v (by omega) (by omega) h3
theorem qmn (x:QA) (q:Rat) (k:Nat) (w:World) (H:QK k w x q) (hk:k<=100000):Calls Tryz.prog 52 #[.agg #[.bool x.neg,.slice x.a x.n x.c,.slice x.b x.m x.d]] w fun e w'=>e=.returned (.int .i64 (sgnQ q))/\Below w.heap.size w w':=by
 obtain ⟨s1,n1,a1,c1,m1,b1,d1⟩:=x;obtain ⟨⟨e1,e2,e3,r1,r2⟩,z1⟩:=H;dsimp only at e1 e2 e3 r1 r2 ⊢;subst e1 e2 e3;have l1:=qbm q;have l2:=qbj q;have:=qhd (decide (q.num<0)) (limbs q.num.natAbs) (limbs q.den) q.num.natAbs a1 b1 c1 d1 w r1 r2 (qaa _) (by rw [qaa];exact q.den_nz) (by omega) (by omega)
 rwa [qx9] at this
theorem qkl (x:QA) (q:Rat) (k:Nat) (w:World) (H:QK k w x q) (hk:k<=100000):Calls Tryz.prog 36 #[.agg #[.bool x.neg,.slice x.a x.n x.c,.slice x.b x.m x.d]] w fun e w'=>e=.returned (.int .i64 (sgnQ q))/\Below w.heap.size w w':=by
 obtain ⟨s1,n1,a1,c1,m1,b1,d1⟩:=x;obtain ⟨⟨e1,e2,e3,r1,r2⟩,z1⟩:=H;dsimp only at e1 e2 e3 r1 r2 ⊢;subst e1 e2 e3;have l1:=qbm q;have l2:=qbj q;have:=qmj (decide (q.num<0)) (limbs q.num.natAbs) (limbs q.den) q.num.natAbs a1 b1 c1 d1 w r1 r2 (qaa _) (by rw [qaa];exact q.den_nz) (by omega) (by omega)
 rwa [qx9] at this
theorem qab7 (s t:TQ) (m n:List Int) (w:World) (h:IntsR w s.a s.c m) (h':IntsR w t.a t.c n) (hs:s.n=m.length) (ht:t.n=n.length) :
  Calls Tryz.prog 103 #[.agg #[.bool s.x.neg,.slice s.x.a s.x.n s.x.c,.slice s.x.b s.x.m s.x.d,.slice s.a s.n s.c],.agg #[.bool t.x.neg,.slice t.x.a t.x.n t.x.c,.slice t.x.b t.x.m t.x.d,.slice t.a t.n t.c]] w fun e w'=>e=.returned (.int .i64 (lexI m n))/\Below w.heap.size w w':=by
 have:=qs9 ⟨⟨s.x.neg,List.replicate s.x.n 0,List.replicate s.x.m 0⟩,m⟩ ⟨⟨t.x.neg,List.replicate t.x.n 0,List.replicate t.x.m 0⟩,n⟩ ⟨s.a,s.c,s.x.a,s.x.c,s.x.b,s.x.d⟩ ⟨t.a,t.c,t.x.a,t.x.c,t.x.b,t.x.d⟩ w h h';unfold Trm.val at this;simp only [List.length_replicate] at this;rw [hs,ht];exact this
theorem qad7 (s t:TQ) (p q:Rat) (w:World) (h:QK 1000 w s.x p) (h':QK 1000 w t.x q) :
  Calls Tryz.prog 193 #[.agg #[.bool s.x.neg,.slice s.x.a s.x.n s.x.c,.slice s.x.b s.x.m s.x.d,.slice s.a s.n s.c],.agg #[.bool t.x.neg,.slice t.x.a t.x.n t.x.c,.slice t.x.b t.x.m t.x.d,.slice t.a t.n t.c]] w fun e w'=>∃ x:QA,e=.returned (.tuple #[.agg #[.bool x.neg,.slice x.a x.n x.c,.slice x.b x.m x.d,.slice s.a s.n s.c],.bool (!decide (p+q=0))])/\Kp (fun V=>QK 2001 V x (p+q)) w.heap.size w'.heap.size w'/\Below w.heap.size w w':=by
 have CA:=fun W (hW:Below w.heap.size w W)=>add_q s.x t.x p q 1000 1000 W (h.ext (xbw hW)) (h'.ext (xbw hW)) (by omega) (by omega)
 have hsg:=qm2 (p+q);replace CA:=Hd CA;clear h h';go_enter Tryz.func193,Tryz.ntmps193;go_wp2_with fail;refine qah (fun W=>Blk W w.heap.size 81 #[.bool s.x.neg,.slice s.x.a s.x.n s.x.c,.slice s.x.b s.x.m s.x.d,.slice s.a s.n s.c]/\Blk W (w.heap.size+1) 81 #[.bool t.x.neg,.slice t.x.a t.x.n t.x.c,.slice t.x.b t.x.m t.x.d,.slice t.a t.n t.c]/\Blk W (w.heap.size+1+1) 81 #[.bool false,.slice none 0 0,.slice none 0 0,.slice none 0 0]/\Below w.heap.size w W) (by refine ⟨?_,?_,?_,?_⟩<;>first|((with_reducible repeat first|assumption|(apply bF;focus omega)|apply bS|(apply bN;focus (simp;done))|apply bA|apply bD);all_goals rfl)|go_grown) ?_;rintro w0 ⟨hx,hy,hz,hw0⟩;obtain ⟨g1,hg1⟩:∃ g,g=w.heap.size+1:=⟨_,rfl⟩
 obtain ⟨g2,hg2⟩:∃ g,g=w.heap.size+1+1:=⟨_,rfl⟩
 rw [<- hg2] at hz ⊢;rw [<- hg1] at hy ⊢;refine (CA.out _ hw0).mono ?_;rintro e w1 ⟨x,rfl,HX,hb1⟩;replace HX:=Hd HX;have hg20:=hz.lt;replace hy:=hy.below' hb1;replace hz:=hz.below' hb1;replace hx:=hx.below' hb1;have hw1:=bth hw0 hb1;have hlt1:=hy.lt;have hlt2:=hz.lt;have hlt3:=hx.lt;have hlo2:w.heap.size<=w0.heap.size:=hw0.size;have hww:Hid (w1.heap.size<=w1.heap.size):=Hd (nlr _);go_wp2
 refine qak (fun W=>Blk W w1.heap.size 76 #[.bool x.neg,.slice x.a x.n x.c,.slice x.b x.m x.d]/\Blk W w.heap.size 81 #[.bool s.x.neg,.slice s.x.a s.x.n s.x.c,.slice s.x.b s.x.m s.x.d,.slice s.a s.n s.c]/\Blk W g2 81 #[.bool false,.slice none 0 0,.slice none 0 0,.slice none 0 0]/\Kp (fun V=>QK (1000+1000+1) V x (p+q)) w0.heap.size w1.heap.size W/\Below w.heap.size w W/\w1.heap.size<=W.heap.size) ⟨by ((with_reducible repeat first|assumption|(apply bF;focus omega)|apply bS|(apply bN;focus (simp;done))|apply bA|apply bD);all_goals rfl),by ((with_reducible repeat first|assumption|(apply bF;focus omega)|apply bS|(apply bN;focus (simp;done))|apply bA|apply bD);all_goals rfl),by ((with_reducible repeat first|assumption|(apply bF;focus omega)|apply bS|(apply bN;focus (simp;done))|apply bA|apply bD);all_goals rfl),by (with_reducible repeat first | exact HX.out | (refine Kp.setc ?_ ?_;focus omega) | refine Kp.alloc ?_ | refine Kp.drew ?_),by go_grown,by simp⟩ ?_
 rintro w2 ⟨hc,hx,hz,HK,hw2,hsz2⟩;rw [<- hg2];have hne1:w1.heap.size≠g2:=by omega
 have hne2:w.heap.size≠g2:=by omega
 have hgw:w.heap.size<=g2:=by omega
 clear hg1;replace hg2:=Hd hg2;obtain ⟨h1,hh1⟩:∃ h,h=w1.heap.size:=⟨_,rfl⟩
 obtain ⟨R,hR⟩:∃ R,sgnQ (p+q)=R:=⟨_,rfl⟩
 rw [hR] at hsg;have CS:=fun W (hW:Below w2.heap.size w2 W)=>qmn x (p+q) 2001 W ((HK.call hW).now) (by omega)
 rw [hR] at CS;replace CS:=Hd CS;replace HK:=Hd HK;obtain ⟨S,hS⟩:∃ S:World->Prop,S=fun W=>Blk W w1.heap.size 76 #[.bool x.neg,.slice x.a x.n x.c,.slice x.b x.m x.d]/\Blk W w.heap.size 81 #[.bool s.x.neg,.slice s.x.a s.x.n s.x.c,.slice s.x.b s.x.m s.x.d,.slice s.a s.n s.c]:=⟨_,rfl⟩
 rw [<- hh1] at hS ⊢;rw [<- hh1] at hc hne1;have k0:∀ W,Sat S W->W.cell? ⟨h1,0,none⟩=some (.bool x.neg):=fun W h=>by unfold Sat at h;rw [hS] at h;exact h.1.cell 0
 have k1:∀ W,Sat S W->W.cell? ⟨h1,1,none⟩=some (.slice x.a x.n x.c):=fun W h=>by unfold Sat at h;rw [hS] at h;exact h.1.cell 1
 have k2:∀ W,Sat S W->W.cell? ⟨h1,2,none⟩=some (.slice x.b x.m x.d):=fun W h=>by unfold Sat at h;rw [hS] at h;exact h.1.cell 2
 have k3:∀ W,Sat S W->W.cell? ⟨w.heap.size,3,none⟩=some (.slice s.a s.n s.c):=fun W h=>by unfold Sat at h;rw [hS] at h;exact h.2.cell 3
 have s0:Sat S w2.drew:=by unfold Sat;rw [hS];exact ⟨hc,hx⟩
 replace hS:=Hd hS;replace hh1:=Hd hh1;clear hlt1 hlt2 hlt3 hw0 hw1 hb1 hy HX CA hR;refine wrx (S:=Sat S) [(0,.q),(1,.q),(2,.q),(3,.q),(4,.q),(5,.l),(6,.q),(7,.l),(8,.p)] (s0) ?_
 iterate 5 (refine qab rfl rfl fun K hK=>xq ?_;go_simp;refine hK _ _ ?_;clear hK K)
 refine qal rfl rfl (fun K hK=>?_);go_simp;refine (CS.out _ (brf.drew)).mono ?_;rintro r w3 ⟨rfl,hb3⟩;dsimp only;refine hK.out _ _ ((by unfold Sat;rw [hS.out];exact ⟨hc.below' (bth (brf.drew) hb3),hx.below' (bth (brf.drew) hb3)⟩)) (fun _=>?_);clear hK K;replace hb3:=bth ((Below.refl w2.heap.size w2).drew) hb3;have hz3:=hz.below' hb3;have hc3:=hc.below' hb3;have hx3:=hx.below' hb3;have HK3:=Hd (HK.out.call hb3);obtain ⟨z0,z1,z2,z3⟩:=cq4 hz3;obtain ⟨f0,f1,f2,f3⟩:=fq4 hz3
 iterate 1 (refine qab rfl rfl fun K hK=>xq ?_;go_simp;refine hK _ _ ?_;clear hK K)
 refine qal rfl rfl (fun K hK=>?_);go_simp;refine hK.out _ _ ((by unfold Sat;rw [hS.out];exact ⟨by ((with_reducible repeat first|assumption|(apply bF;focus omega)|apply bS|(apply bN;focus (simp;done))|apply bA|apply bD);all_goals rfl),by ((with_reducible repeat first|assumption|(apply bF;focus omega)|apply bS|(apply bN;focus (simp;done))|apply bA|apply bD);all_goals rfl)⟩)) (fun _=>?_);clear hK K
 iterate 1 (refine qae rfl rfl fun K hK=>xp ?_;go_simp;refine hK _ _ ?_;clear hK K)
 refine qac ?_;go_wp2;refine qak (fun W=>Blk W g2 81 #[.bool x.neg,.slice x.a x.n x.c,.slice x.b x.m x.d,.slice s.a s.n s.c]/\Kp (fun V=>QK (1000+1000+1) V x (p+q)) w0.heap.size w1.heap.size W/\Below w.heap.size w W/\w3.heap.size<=W.heap.size) ⟨by ((with_reducible repeat first|assumption|(apply bF;focus omega)|apply bS|(apply bN;focus (simp;done))|apply bA|apply bD);all_goals rfl),by (with_reducible repeat first | exact HK3.out | (refine Kp.setc ?_ ?_;focus omega) | refine Kp.alloc ?_ | refine Kp.drew ?_),?_,by simp⟩ ?_
 ·
  have hb:=bth hw2 hb3;exact (((hb.setCell hgw _).setCell hgw _).setCell hgw _).setCell hgw _
 rintro w4 ⟨hF,HF,hw4,hsz⟩;obtain ⟨e0,e1,e2,e3⟩:=cq4 hF;refine bodyPost_ret (v:=.tuple #[.agg #[.bool x.neg,.slice x.a x.n x.c,.slice x.b x.m x.d,.slice s.a s.n s.c],.bool (!decide (p+q=0))]) (by simp [results,Tryz.results193,go_sem,e0,e1,e2,e3]) rfl ?_;exact ⟨x,rfl,HF.broad hlo2 (by have:=hb3.size;omega),hw4⟩
end Go.Proofs.YtnilkimcdgmgkaaGreatDoor
namespace Go.Proofs.YtnilkimcdgmgkaaGreatDoor
open Go.RowKit Go.Lib
def fidx (sep:List UInt8):List UInt8->Nat->Option Nat
 | [],_=>none
 | b :: l,n=>if sep.isPrefixOf (b :: l) then some n else fidx sep l (n+1)
theorem qit {sep:List UInt8} (hsep:sep≠[]):∀ (s:List UInt8) (n:Nat),(fidx sep s n=none/\index s sep = -1)\/(∃ i,fidx sep s n=some (n+i)/\index s sep=(i:Int))
 | [],n=>.inl ⟨rfl,by unfold index;rw [if_neg (by simpa using hsep)]⟩
 | b :: l,n=>by
  unfold fidx index;by_cases h:sep.isPrefixOf (b :: l)=true
  ·
   rw [if_pos h,if_pos h];exact .inr ⟨0,rfl,rfl⟩
  ·
   rw [if_neg h,if_neg h];rcases qit hsep l (n+1) with ⟨h1,h2⟩ | ⟨i,h1,h2⟩
   · exact .inl ⟨h1,by rw [h2];rfl⟩
   ·
    refine .inr ⟨i+1,by rw [h1];congr 1;omega,?_⟩;rw [h2];have:((i:Int) == -1)=false:=by rw [beq_eq_false_iff_ne];omega
    simp [this]
def qe0 (sep:List UInt8):Nat->List UInt8->List (List UInt8)
 | 0,s=>[s]
 | k+1,s=>match fidx sep s 0 with
  | none=>[s]
  | some i=>s.take i :: qe0 sep k (s.drop (i+sep.length))
theorem qjg {sep:List UInt8} (hsep:sep≠[]):∀ (k:Nat) (s:List UInt8),(qe0 sep k s).length<=k->splitK sep 0 (count s sep) s=qe0 sep k s/\count s sep+1=(qe0 sep k s).length
 | 0,s,h=>by simp [qe0] at h
 | k+1,s,h=>by
  unfold qe0 at h ⊢;rcases qit hsep s 0 with ⟨h1,h2⟩ | ⟨i,h1,h2⟩
  ·
   rw [h1];rw [count_miss h2];exact ⟨rfl,rfl⟩
  ·
   rw [Nat.zero_add] at h1;rw [h1] at h ⊢;simp only [List.length_cons] at h ⊢;obtain ⟨e1,e2⟩:=qjg hsep k (s.drop (i+sep.length)) (by omega);rw [count_hit hsep h2];have hm:¬ (index s sep == -1)=true:=fun e=>by have:=beq_iff_eq.1 e;omega
   refine ⟨?_,by omega⟩;rw [Nat.add_comm 1,splitK,if_neg hm,h2];simp only [Int.toNat_natCast,Nat.add_zero];rw [e1]
def ofL (l:List UInt8):ByteArray:=⟨l.toArray⟩
theorem qc1 (s:ByteArray):ofL s.data.toList=s:=by cases s;rfl
theorem qaw (l:List UInt8):(ofL l).data.toList=l:=rfl
theorem qc6 (a b:List UInt8):ofL a++ofL b=ofL (a++b):=by
 rw [<- qc1 (ofL a++ofL b)];simp [ofL]
theorem qa4 (a:List UInt8):(ofL a).size=a.length:=by simp [ofL,ByteArray.size]
theorem qpr {sep s:List UInt8} (hsep:sep≠[]) (k:Nat) {l:List (List UInt8)} (hl:qe0 sep k s=l) (hk:l.length<=k) :
  splitB (ofL sep) 0 (countB (ofL s) (ofL sep)) (ofL s)=l.map ofL/\countB (ofL s) (ofL sep)+1=l.length:=by
 subst hl;obtain ⟨h1,h2⟩:=qjg hsep k s hk;have h3:=splitB_data (ofL sep) 0 (count s sep) (ofL s);refine ⟨?_,h2⟩
 show splitB (ofL sep) 0 (count s sep) (ofL s)=_
 rw [qaw,qaw,h1] at h3;rw [<- h3,List.map_map];have:(ofL ∘ fun x:ByteArray=>x.data.toList)=id:=by funext x;exact qc1 x
 rw [this,List.map_id]
end Go.Proofs.YtnilkimcdgmgkaaGreatDoor
namespace Go.Proofs.YtnilkimcdgmgkaaGreatDoor
def digs (n:Nat):List UInt8:=if h:n=0 then [] else digs (n / 10)++[(48+n % 10).toUInt8]
termination_by n
decreasing_by omega
theorem qcq:digs 0=[]:=by rw [digs];simp
theorem qci {n:Nat} (h:n≠0):digs n=digs (n / 10)++[(48+n % 10).toUInt8]:=by rw [digs];simp [h]
def textN (n:Nat):List UInt8:=if n=0 then [48] else digs n
def textZ (neg:Bool) (n:Nat):List UInt8:=if neg=true then 45 :: textN n else textN n
theorem qts {n:Nat} (h0:n≠0) (h:n<10):digs n=[(48+n).toUInt8]:=by
 rw [qci h0,show n / 10=0 by omega,qcq,show n % 10=n by omega];rfl
theorem qrn {n:Nat} (h:n<10):textN n=[(48+n).toUInt8]:=by
 unfold textN
 split
 · next h0=>subst h0;rfl
 · next h0=>exact qts h0 h
theorem qqd (k n:Nat) (h:n<10 ^ k):(digs n).length<=k:=by
 induction k generalizing n with
 | zero=>simp at h;subst h;rw [qcq];simp
 | succ k ih =>
  by_cases h0:n=0
  · subst h0;rw [qcq];simp
  ·
   rw [qci h0,List.length_append];have:=ih (n / 10) (by rw [Nat.pow_succ] at h;omega);simp;omega
end Go.Proofs.YtnilkimcdgmgkaaGreatDoor
namespace Go.Proofs.YtnilkimcdgmgkaaGreatDoor
open Go.RowKit
theorem qyq (w:World) (c:UInt8):(convert 100 9 (.slice (some ⟨w.heap.size,0,none⟩) 1 1)).run Tryz.prog (w.alloc (.cells #[.int .u8 (c.toNat:Int)] 5))=.ok (.string (ofL [c])) (w.alloc (.cells #[.int .u8 (c.toNat:Int)] 5)):=by
 refine run_convert_bytes_back (P:=Tryz.prog) (w.alloc (.cells #[.int .u8 (c.toNat:Int)] 5)) 100 9 5 ⟨w.heap.size,0,none⟩ 1 [c] Tryz.underlying100 Tryz.underlying5 Tryz.underlying9 ?_;intro j hj;obtain rfl:j=0:=by simpa using hj
 rw [Addr.add_lit];simp
theorem qtq (w:World) (r:Nat) (hr:r<10):(convert 100 9 (.slice (some ⟨w.heap.size,0,none⟩) 1 1)).run Tryz.prog (w.alloc (.cells #[.int .u8 (48+(r:Int))] 5))=.ok (.string (ofL [(48+r).toUInt8])) (w.alloc (.cells #[.int .u8 (48+(r:Int))] 5)):=by
 have:=qyq w (48+r).toUInt8;have e:(48+r).toUInt8.toNat=48+r:=by simp;omega
 rw [e] at this;have e2:((48+r:Nat):Int)=48+(r:Int):=by omega
 rw [e2] at this;exact this
theorem qh1 (n:Nat) (h:(limbs n).length<=2000000):(digs n).length<=10000000:=by
 have h1:=qa0 n;have h2:65536 ^ (limbs n).length<=(10 ^ 5) ^ (limbs n).length:=Nat.pow_le_pow_left (by omega) _;rw [<- Nat.pow_mul] at h2;have h3:=qqd (5*(limbs n).length) n (ltl h1 h2)
 omega
theorem qdk (n:Nat) (h:(limbs n).length<=2000000):(textN n).length<=10000000:=by
 unfold textN
 split
 · simp
 · exact qh1 n h
theorem qi0 (l:List Int) (n:Nat) (a:Option Addr) (c:Nat) (w:World) (h:NatR w a c l) (hn:val l=n) (hl:l.length<=2000000) :
  Calls Tryz.prog 60 #[.slice a l.length c] w fun e w'=>e=.returned (.string (ofL (textN n)))/\Below w.heap.size w w':=by
 have C1:=qbf l a c w h (by omega);rw [hn] at C1;replace C1:=Hd C1;have hL1:(limbs n).length<=2000000:=by have:=qaf h.u16;rw [hn] at this;omega
 have HT:=Hd (show textN n=textN n from rfl);obtain ⟨T,hT⟩:∃ T,textN n=T:=⟨_,rfl⟩
 rw [hT];clear h hn HT;by_cases h0:n=0
 ·
  subst h0;have hT':T=[48]:=by rw [<- hT];rfl
  clear hT;subst hT';rw [qai] at C1;go_enter Tryz.func60,Tryz.ntmps60;go_wp2_with fail;refine C1.out.mono ?_;rintro e w1 ⟨a1,c1,rfl,hV1,hb1⟩;clear hV1 C1;go_wp2;go_ret;exact ⟨rfl,hb1⟩
 ·
  have hlp:(((limbs n).length:Int)==0)=false:=by have h5:=qap.2 (show 0<n by omega);rw [beq_eq_false_iff_ne];omega
  have hT':digs n=T:=by rw [<- hT];unfold textN;rw [if_neg h0]
  have hTl:T.length<=10000000:=by
   rw [<- hT'];exact qh1 n hL1
  have HT:=Hd hT';clear hT hT';go_enter Tryz.func60,Tryz.ntmps60;go_wp2_with fail;refine C1.out.mono ?_;rintro e w1 ⟨a1,c1,rfl,hV1,hb1⟩;have HV1:=Hd hV1;clear hV1 C1;go_wp2;have e0:(⟨#[]⟩:ByteArray)=ofL []:=rfl
  go_loopg [0,3,4,5,6,15] n (fun g sx ss _ _ _ _ wr=>∃ (ax:Option Addr) (cx:Nat) (r:List UInt8),sx=.slice ax (limbs g).length cx/\ss=.string (ofL r)/\(∀ V,New w.heap.size wr V->NatR V ax cx (limbs g)) /\
   (limbs g).length<=2000000/\Below w.heap.size w wr/\digs g++r=T)
  case atStart=>exact ⟨a1,c1,[],rfl,rfl,HV1.out,hL1,hb1,by rw [HT.out,List.append_nil]⟩
  case round =>
   obtain ⟨ax,cx,r,rfl,rfl,hx,hlx,hb',hg⟩:=hrel;have HX:=Hd hx;have HG:=Hd hg;clear hx hg hb1 HV1 HT hlp h0 e0;by_cases h0:gk=0
   ·
    subst h0;have hgz:decide (0<(limbs 0).length)=false:=by rw [qai];rfl
    have hr:r=T:=by have:=HG.out;rwa [qcq,List.nil_append] at this
    subst hr;clear HG;go_wp2;go_ret;exact ⟨rfl,hb'⟩
   ·
    have hgz:decide (0<(limbs gk).length)=true:=by have:=qap (n:=gk);simp;omega
    have C10:=fun W=>qbs 10 W (by omega)
    have CD:=fun a' c' W hW h'=>qes (limbs gk) (limbs 10) gk 10 ax a' cx c' W ((HX.out W hW)) h' (qaa _) (qaa _) hlx (by have:=qan (n:=10) (k:=1) (by omega);omega) (by omega)
    unfold RetDM at CD;have hr10:gk % 10<10:=Nat.mod_lt _ (by omega);have hlt:gk / 10<gk:=by omega
    have hdg:=HG.out;rw [qci h0] at hdg;have hsm:val (limbs (gk % 10))<18446744073709551616:=by rw [qaa];omega
    have hlr:(limbs (gk / 10)).length<=2000000:=Nat.le_trans (qaj (Nat.div_le_self _ _)) hlx;have CS:=fun a' c' W (h':NatR W a' c' (limbs (gk % 10)))=>qfj (limbs (gk % 10)) a' c' W h' hsm
    rw [qaa] at CS;have KD:=fun W=>qtq W (gk % 10) hr10
    obtain ⟨q,hq⟩:∃ q,gk / 10=q:=⟨_,rfl⟩
    obtain ⟨m,hm⟩:∃ m,gk % 10=m:=⟨_,rfl⟩
    rw [hq] at hlt hdg hlr;rw [hm] at hr10 hdg;simp only [hq,hm] at CD CS KD;obtain ⟨dg,hdd⟩:∃ x,(48+m).toUInt8=x:=⟨_,rfl⟩
    rw [hdd] at hdg;simp only [hdd] at KD;have hsz:(ofL [dg]).size+(ofL r).size<=10000001:=by
     rw [qa4,qa4];have:=congrArg List.length HG.out;rw [List.length_append] at this;simp;omega
    have HDG:=Hd hdg;replace C10:=Hd C10;replace CD:=Hd CD;replace CS:=Hd CS;clear hsm hq hm HG hdg h0 hdd;go_wp2_with fail;refine (C10.out _).mono ?_;rintro e w2 ⟨a2,c2,rfl,hV2,hb2⟩;have CD2:=Hd (CD.out a2 c2 w2 ((New.refl _ _).below hb2) (hV2 w2 (New.refl _ _)));clear hV2 CD C10;go_wp2_with fail;refine CD2.out.mono ?_;rintro e w3 ⟨a3,c3,a4,c4,rfl,hV3,hV4,hb3⟩;have CS2:=Hd (CS.out a4 c4 w3 (hV4 w3 (New.refl _ _)));have hw3:=bth (bth hb' hb2) hb3;have HV3:=Hd hV3;clear hV3 hV4 CD2 CS;go_wp2_with fail;refine CS2.out.mono ?_;rintro e w4 ⟨rfl,rfl⟩;have hm1:(m:Int)<10:=by omega
    go_wp2;go_roundg q
    case rel=>exact ⟨a3,c3,[dg]++r,rfl,congrArg Value.string (qc6 _ _),fun V hV=>HV3.out V ((hV.unalloc).base (bth hb' hb2).size),hlr,hw3.alloc hw3.size _,by rw [<- HDG.out,List.append_assoc]⟩
    case measure=>exact hlt
theorem quw:limbs 1=[1]:=by rw [qbk (by omega),qai];rfl
theorem qup (neg:Bool) (l:List Int) (n:Nat) (a:Option Addr) (c:Nat) (w:World) (h:NatR w a c l) (hn:val l=n) (hl:l.length<=2000000) :
  Calls Tryz.prog 59 #[.agg #[.bool neg,.slice a l.length c]] w fun e w'=>e=.returned (.string (ofL (textZ (neg&&decide (0<n)) n)))/\Below w.heap.size w w':=by
 have CN:=fun W (hW:Below w.heap.size w W)=>qev neg l n a c W (h.ext (xbw hW)) hn (by omega)
 have hz:Blk (w.alloc (.cells #[.bool neg,.slice a l.length c] 74)) w.heap.size 74 #[.bool neg,.slice a l.length c]:=Blk.new w _ _;have hb0:Below w.heap.size w (w.alloc (.cells #[.bool neg,.slice a l.length c] 74)):=brf.alloc (nlr _) _;have hln:(limbs n).length<=2000000:=by have:=qaf h.u16;rw [hn] at this;omega
 obtain ⟨s,hs⟩:∃ s,(neg&&decide (0<n))=s:=⟨_,rfl⟩
 unfold RetZ at CN;simp only [hs] at CN ⊢;replace CN:=Hd CN;clear h hn hs;go_enter Tryz.func59,Tryz.ntmps59;go_wp2_with fail;revert hz hb0;generalize w.alloc (.cells #[.bool neg,.slice a l.length c] 74)=w0;intro hz hb0;refine (CN.out _ hb0).mono ?_;rintro e w1 ⟨a1,c1,rfl,hV1,hb1⟩;have hw1:=bth hb0 hb1;have hz1:=hz.below' hb1;have hlt:=hz.lt;have HV1:=Hd hV1;have hs0:=hb0.size;obtain ⟨z0,z1⟩:=cq2 hz1;obtain ⟨f0,f1⟩:=fq2 hz1;clear hV1;have CT:=fun W (hW:NatR W a1 c1 (limbs n))=>qi0 (limbs n) n a1 c1 W hW (qaa _) hln
 replace CT:=Hd CT;have RD:=fun x y=>HV1.out ((w1.setCell ⟨w.heap.size,0,none⟩ x).setCell ⟨w.heap.size,1,none⟩ y) (back2 (New.refl _ _) hs0 hlt)
 replace RD:=Hd RD
 cases s
 ·
  go_wp2_with fail;refine (CT.out _ (RD.out _ _)).mono ?_;rintro e w2 ⟨rfl,hb2⟩;go_wp2;go_ret;exact ⟨rfl,(qbh hw1 (nlr _)).trans (hb2.mono (by simp;exact hw1.size))⟩
 ·
  go_wp2_with fail;refine (CT.out _ (RD.out _ _)).mono ?_;rintro e w2 ⟨rfl,hb2⟩;have hsz:(textN n).length<=10000000:=qdk n hln;rw [<- qa4] at hsz;have e45:(⟨#[45]⟩:ByteArray)++ofL (textN n)=ofL (45 :: textN n):=qc6 [45] _;replace e45:=Hd e45;go_wp2;go_ret;exact ⟨qe7 e45.out,(qbh hw1 (nlr _)).trans (hb2.mono (by simp;exact hw1.size))⟩
end Go.Proofs.YtnilkimcdgmgkaaGreatDoor
namespace Go.Proofs.YtnilkimcdgmgkaaGreatDoor
def grpN (n j:Nat):List Int:=(List.range j).map fun i=>((n / 10000 ^ i % 10000:Nat):Int)
theorem qpq (n j:Nat):(grpN n j).length=j:=by simp [grpN]
theorem qym (n j:Nat):grpN n (j+1)=grpN n j++[((n / 10000 ^ j % 10000:Nat):Int)]:=by unfold grpN;rw [List.range_succ,List.map_append];rfl
theorem qaf8 (n j i:Nat) (h:i<j):(grpN n j)[i]? = some ((n / 10000 ^ i % 10000:Nat):Int):=by unfold grpN;simp [h]
def pw10:Nat->Nat
 | 0=>0
 | g+1=>10 ^ g
theorem qvp (h:Nat) (hh:h<=3):(pw10 (h+1)) / 10=pw10 h:=by
 match h with
 | 0=>rfl
 | 1=>rfl
 | 2=>rfl
 | 3=>rfl
def topN (m x g:Nat):Nat:=m*10 ^ (4-g)+x / 10 ^ g
theorem qji (m x h:Nat) (hh:h<=3):topN m x h=10*topN m x (h+1)+x / 10 ^ h % 10:=by
 unfold topN;have e1:10 ^ (4-h)=10*10 ^ (4-(h+1)):=by
  rw [show 4-h=(4-(h+1))+1 by omega,Nat.pow_succ,Nat.mul_comm]
 have e2:x / 10 ^ (h+1)=x / 10 ^ h / 10:=by rw [Nat.pow_succ,Nat.div_div_eq_div_mul]
 rw [e1,e2,Nat.mul_left_comm]
 omega
theorem quf (m x:Nat) (hx:x<10000):topN m x 4=m:=by
 unfold topN;rw [Nat.div_eq_of_lt (show x<10 ^ 4 by omega)];simp
theorem qzd (m x:Nat):topN m x 0=m*10000+x:=by unfold topN;simp
theorem qwj (n i:Nat):n / 10000 ^ (i+1)*10000+n / 10000 ^ i % 10000=n / 10000 ^ i:=by
 rw [Nat.pow_succ,<- Nat.div_div_eq_div_mul];omega
theorem qjb (n:Nat):0<(digs n).length↔n≠0:=by
 constructor
 · intro h e;subst e;rw [qcq] at h;simp at h
 · intro h;rw [qci h];simp
theorem qxq (m x h:Nat) (hh:h<=3):((0<(digs (topN m x (h+1))).length)\/10 ^ h<=x)↔topN m x h≠0:=by
 rw [qjb];have h0:0<10 ^ h:=Nat.pow_pos (by omega);have hs:=qji m x h hh
 constructor
 ·
  rintro (h1 | h1)
  · omega
  ·
   have:1<=x / 10 ^ h:=(Nat.le_div_iff_mul_le h0).2 (by omega);unfold topN;omega
 ·
  intro h1;by_cases h2:topN m x (h+1)=0
  ·
   right;refine Nat.le_of_not_lt fun h3=>h1 ?_
   rw [hs,h2,Nat.div_eq_of_lt h3]
  · exact .inl h2
theorem qxa (m x h:Nat) (hh:h<=3) (h1:topN m x h≠0):digs (topN m x h)=digs (topN m x (h+1))++[(48+x / 10 ^ h % 10).toUInt8]:=by
 have hs:=qji m x h hh;rw [qci h1,show topN m x h / 10=topN m x (h+1) by omega,show topN m x h % 10=x / 10 ^ h % 10 by omega]
theorem qvr (m x h:Nat) (hh:h<=3) (h1:topN m x h=0):digs (topN m x (h+1))=digs (topN m x h):=by
 have hs:=qji m x h hh;rw [h1,show topN m x (h+1)=0 by omega]
theorem qah0 (m x h:Nat):topN m x h<=m*10000+x:=by
 unfold topN;have h1:10 ^ (4-h)<=10 ^ 4:=Nat.pow_le_pow_right (by omega) (by omega);have h2:x / 10 ^ h<=x:=Nat.div_le_self _ _;have h3:=Nat.mul_le_mul_left m h1;have h4:(10:Nat) ^ 4=10000:=rfl;rw [h4] at h3
 omega
theorem qvn {a b:Nat} (h:a<=b):(digs a).length<=(digs b).length:=by
 induction b using Nat.strongRecOn generalizing a with
 | _ b ih =>
  by_cases h0:a=0
  · subst h0;rw [qcq];simp
  ·
   rw [qci h0,qci (show b≠0 by omega),List.length_append,List.length_append];have:=ih (b / 10) (by omega) (a:=a / 10) (by omega);simp;omega
theorem qur (n L j:Nat) (h:n<65536 ^ L) (hj:n / 10000 ^ j≠0):j<2*L:=by
 refine Nat.lt_of_not_le fun h1=>hj (Nat.div_eq_of_lt ?_)
 refine ltl h ?_;have h2:65536 ^ L<=(10000 ^ 2) ^ L:=Nat.pow_le_pow_left (by omega) _;rw [<- Nat.pow_mul] at h2;exact Nat.le_trans h2 (Nat.pow_le_pow_right (by omega) h1)
end Go.Proofs.YtnilkimcdgmgkaaGreatDoor
