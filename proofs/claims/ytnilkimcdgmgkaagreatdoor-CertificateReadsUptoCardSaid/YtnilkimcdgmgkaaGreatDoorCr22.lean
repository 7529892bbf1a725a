/- Walk: a coefficient read from a text (the reference). -/
import Derived.Test.YtnilkimcdgmgkaaGreatDoorCr21
import Derived.Test.YtnilkimcdgmgkaaGreatDoorCr12
import Derived.Test.YtnilkimcdgmgkaaGreatDoorCr10
import Derived.Test.YtnilkimcdgmgkaaGreatDoorCr15
import Derived.Test.YtnilkimcdgmgkaaGreatDoorCr13
import Derived.Test.YtnilkimcdgmgkaaGreatDoorCr17
import Derived.Test.YtnilkimcdgmgkaaGreatDoorCr7
set_option linter.all false
set_option maxRecDepth 100000
set_option maxHeartbeats 4000000
namespace Go.Proofs.YtnilkimcdgmgkaaGreatDoor
open Go.RowKit
theorem qne:∀ {l:List UInt8} {j:Nat},j<numL l->∃ x,l[j]? = some x/\digU x=true/\(j=0\/l[0]? ≠ some 48)
 | [],j,h=>by simp [numL] at h
 | c :: r,j,h=>by
  by_cases hc:digU c=true
  ·
   rw [qea hc] at h
   cases j with
   | zero=>exact ⟨c,rfl,hc,.inl rfl⟩
   | succ j =>
    unfold runD at h
    split at h
    · omega
    ·
     next h48 =>
     obtain ⟨x,hx,hp⟩:=tw_in (p:=digU) (l:=r) (j:=j) (by omega);exact ⟨x,by simpa using hx,hp,.inr (by simpa using h48)⟩
  · rw [numL,if_neg hc] at h;omega
theorem qz2:∀ {l:List UInt8} {x:UInt8},l[numL l]? = some x->digU x=false\/(0<numL l/\l[0]? = some 48)
 | [],x,h=>by simp at h
 | c :: r,x,h=>by
  by_cases hc:digU c=true
  ·
   rw [qea hc] at h ⊢;unfold runD at h ⊢
   split at h
   · next h48=>exact .inr ⟨by omega,by simp [h48]⟩
   ·
    rw [Nat.add_comm,List.getElem?_cons_succ] at h;exact .inl (qkc h)
  ·
   rw [numL,if_neg hc] at h;simp at h;subst h;exact .inl (by simpa using hc)
theorem qag1 (l:List UInt8):numL l<=l.length:=by
 cases l with
 | nil=>simp [numL]
 | cons c r =>
  by_cases hc:digU c=true
  ·
   rw [qea hc,List.length_cons];unfold runD
   split
   · omega
   · have:=tw_le digU r;omega
  · rw [numL,if_neg hc];omega
def RetNu (G:Got (List UInt8)) (w:World) (e:Ending) (w':World):Prop:=∃ (a:Option Addr) (c N:Nat),e=.returned (.slice a (limbs N).length c)/\(∀ V,New w.heap.size w' V->NatR V a c (limbs N))/\(limbs N).length<=1000/\(∀ d r,G=.ok d r->N=decL d)/\(∀ k x,G=.bad k x->N=0)
theorem qh8:(limbs 0).length=0:=by rw [qai];rfl
theorem zz71 {P:Prop} (h:P:=by
 by_cases hD0:D=0
 ·
  have hpa2:((p:Int)==(a:Int))=true:=by rw [beq_iff_eq];have:=hp.out;omega
  have hL:=hGl.out hD0;have CW:=Hd (qik g p s nv wr.drew hR3.out hps2 hs);replace hD0:=Hd hD0;clear hGo;go_wp2_with fail;refine CW.out.mono ?_;rintro e w1 ⟨rfl,h1,hf⟩;have hpe:p=a:=by have:=hp.out;have:=hD0.out;omega
  rw [hpe] at h1;have h1':=Hd (qiz (β:=List UInt8) h1);clear hpe h1;have hF4:=Hd (hF3.out.trans hf);obtain ⟨k9,e9,hl9⟩:∃ k e,lost (α:=List UInt8) (tl s a)=.bad k e:=by unfold lost;split <;> exact ⟨_,_,rfl⟩
  rw [hl9] at h1' hL;obtain ⟨hk9,he9,hR9⟩:=(h1'.out:StEr w1 g s nv k9 e9)
  obtain ⟨z0,z1,z2,z3⟩:=cq4 hR9;have hl2:=hR9.lt;have hz9:(e9 != 0)=true:=by simpa using he9
  replace hL:=Hd hL;replace he9:=Hd he9;clear hR9 hf CW hl9;go_wp2;go_ret;exact ⟨⟨none,0,0,by rw [qh8];rfl,(fun V _=>by rw [qai];exact SlR.nil),by rw [qh8];omega,(fun d r e=>by rw [hL.out] at e;cases e),fun _ _ _=>rfl⟩,by rw [hL.out];exact h1'.out,hF4.out⟩
 ·
  have hpa2:((p:Int)==(a:Int))=false:=by rw [beq_eq_false_iff_ne];have:=hp.out;omega
  have hGG:=hGo.out hD0;obtain ⟨t,ht⟩:∃ t,ofL ((tl s a).take D)=t:=⟨_,rfl⟩
  have hex:s.extract a p=t:=by rw [<- ht,<- hp.out];exact qkh s a D
  have htd:t.data.toList=(tl s a).take D:=by rw [<- ht,qaw]
  have htz:t.size=D:=by
   rw [<- ht];have h5:((tl s a).take D).length=D:=by rw [List.length_take,qaq];omega
   exact h5
  have htg:∀ c∈t.data.toList,digU c=true:=fun c hc=>by
   rw [htd] at hc;obtain ⟨i,hi⟩:=List.getElem?_of_mem hc;rw [List.getElem?_take] at hi
   split at hi
   ·
    next hiD =>
    obtain ⟨x,hx,hdx,_⟩:=qne (l:=tl s a) (j:=i) (by rw [hDe.out];exact hiD);rw [hx] at hi;injection hi with hi
    rw [<- hi];exact hdx
   · cases hi
  have hth:t.size=1\/t.data.toList[0]? ≠ some 48:=by
   by_cases h1:D=1
   · exact .inl (by rw [htz];exact h1)
   ·
    obtain ⟨_,_,_,h2⟩:=qne (l:=tl s a) (j:=1) (by rw [hDe.out];omega);refine .inr ?_;rw [htd,List.getElem?_take,if_pos (by omega)];exact h2.resolve_left (by decide)
  have CR:=qsj t wr.drew.drew (by omega) htg hth;have hap:a<=p:=by have:=hp.out;omega
  have hR4:RrA wr.drew.drew g s nv p 0:=hR3.out;have hF4:Fg g w wr.drew.drew:=hF3.out.call (brf.drew);have hpl:=Hd (show p<=s.size from hps2);rw [htd] at CR;obtain ⟨dd,hdd⟩:∃ dd,(tl s a).take D=dd:=⟨_,rfl⟩
  rw [hdd] at CR hGG;have HR:=Hd (fun W (hW:Below wr.drew.drew.heap.size wr.drew.drew W)=>hR4.below hW);replace hF4:=Hd hF4;replace hD0:=Hd hD0;have htg2:=Hd (show ∀ c∈dd,digU c=true by rw [<- hdd,<- htd];exact htg);have hddl:=Hd (show dd.length=t.size by rw [<- hdd,<- htd];exact Array.length_toList);clear htg hth htd hdd ht hGl hR4 hGo;by_cases hbig:1000<t.size
  ·
   rw [if_pos hbig] at CR;rw [if_pos (by omega)] at hGG;replace CR:=Hd CR;replace hGG:=Hd hGG;replace hbig:=Hd hbig;replace htz:=Hd htz;go_wp2;refine wrx (S:=(fun x=>x=wr.drew.drew)) [(0,.q),(1,.q),(2,.q),(3,.q),(4,.q),(5,.q),(6,.q),(7,.q),(8,.q),(9,.p),(10,.t),(11,.p),(12,.p),(13,.p),(14,.p),(15,.p)] (rfl) ?_
   iterate 9 (refine qab rfl rfl fun K hK=>xq ?_;go_simp;refine hK _ _ ?_;clear hK K)
   iterate 1 (refine qae rfl rfl fun K hK=>xp ?_;go_simp;refine hK _ _ ?_;clear hK K)
   refine qam rfl rfl (fun K hK=>?_);go_simp;refine (CR.out).mono ?_;rintro e wz ⟨a1,c1,rfl,h1,hb1⟩;dsimp only;refine hK.out _ _ ?_;clear hK K
   iterate 5 (refine qae rfl rfl fun K hK=>xp ?_;go_simp;refine hK _ _ ?_;clear hK K)
   refine qac ?_;have CFl:=Hd (qdj g p a s nv 4 wz (HR.out wz hb1));have h1':=Hd (fun V (hV:New wr.drew.drew.heap.size wz V)=>h1 V hV);have hb1':=Hd hb1;clear h1 CR z0 z1 z2 z3;go_wp2_with fail;refine CFl.out.mono ?_;rintro e w2 ⟨rfl,h2,hf2⟩;have h2':=Hd h2;have hf2':=Hd hf2;have hgwz:=Hd (show g<w.heap.size from hlw.out);have hF5:=Hd ((hF4.out.call hb1).trans hf2);clear h2 hf2 hb1 CFl;go_wp2;go_ret;refine ⟨⟨a1,c1,0,by rw [qh8];rfl,(fun V hV=>by
    rw [qai];refine h1'.out V fun p v hp hc=>hV p v (Nat.le_trans hF4.out.size hp) ?_
    exact hf2'.out.agr p v (fun e=>by have:=hgwz.out;have:=hF4.out.size;omega) hc),by rw [qh8];omega,(fun d r e=>by rw [hGG.out] at e;cases e),fun k x e=>rfl⟩,?_,hF5.out⟩
   ·
    rw [hGG.out];exact ⟨by omega,by decide,by rw [show s.size-(s.size-a)=a by have:=hpl.out;omega];exact h2'.out⟩
  ·
   have hdl:=Hd (show (limbs (decL dd)).length<=1000 from Nat.le_trans (qfs htg2.out) (by have:=hddl.out;omega));rw [if_neg hbig] at CR;rw [if_neg (by omega)] at hGG;replace CR:=Hd CR;replace hGG:=Hd hGG;replace hbig:=Hd hbig;replace htz:=Hd htz;go_wp2;refine wrx (S:=(fun x=>x=wr.drew.drew)) [(0,.q),(1,.q),(2,.q),(3,.q),(4,.q),(5,.q),(6,.q),(7,.q),(8,.q),(9,.p),(10,.t),(11,.p),(12,.p),(13,.p),(14,.p),(15,.p)] (rfl) ?_
   iterate 9 (refine qab rfl rfl fun K hK=>xq ?_;go_simp;refine hK _ _ ?_;clear hK K)
   iterate 1 (refine qae rfl rfl fun K hK=>xp ?_;go_simp;refine hK _ _ ?_;clear hK K)
   refine qam rfl rfl (fun K hK=>?_);go_simp;refine (CR.out).mono ?_;rintro e wz ⟨a1,c1,rfl,h1,hb1⟩;dsimp only;refine hK.out _ _ ?_;clear hK K
   iterate 5 (refine qae rfl rfl fun K hK=>xp ?_;go_simp;refine hK _ _ ?_;clear hK K)
   refine qac ?_;have h6:=Hd (HR.out wz hb1);have hF5:=Hd (hF4.out.call hb1);have h1':=Hd (fun V (hV:New w.heap.size wz V)=>h1 V (hV.base hF4.out.size));clear h1 CR z0 z1 z2 z3 hb1;go_wp2;go_ret;refine ⟨⟨a1,c1,_,rfl,h1'.out,hdl.out,(fun d r e=>by rw [hGG.out] at e;injection e with e1 e2;rw [e1]),fun k x e=>by rw [hGG.out] at e;cases e⟩,?_,hF5.out⟩;rw [hGG.out];exact ⟨p,hpl.out,by rw [hp.out],h6.out⟩
 ):P:=h
theorem zz72 {P:Prop} (h:P:=by
 refine qac ?_;go_wp2;go_roundg (gk-1)
 case rel=>exact ⟨j+1,by have:=hj.out;show _=_;omega,by rw [show a+(j+1)=p+1 by have:=hp.out;omega];exact hR3.out,hF3.out⟩
 case measure=>have:=hj.out;omega
 ):P:=h
theorem qgu (g a:Nat) (s:ByteArray) (nv:Value) (w:World) (h:RrA w g s nv a 0) (ha:a<=s.size) (hs:s.size<=281474976710656) :
  Calls Tryz.prog 168 #[.pointer (some ⟨g,0,none⟩)] w fun e w'=>RetNu (numG (tl s a)) w e w'/\StGr w' g s nv (numG (tl s a))/\Fg g w w':=by
 obtain ⟨D,hD⟩:∃ D,numL (tl s a)=D:=⟨_,rfl⟩
 have hDl:D<=s.size-a:=by rw [<- hD,<- qaq];exact qag1 _
 have hin:∀ j,j<D->∃ h:a+j<s.size,digV ((s[a+j]'h).toNat:Int)=true/\(j=0\/∀ h0:a<s.size,((s[a]'h0).toNat:Int)≠48):=fun j hj=>by
  rw [<- hD] at hj;obtain ⟨x,hx,hdx,h48⟩:=qne hj;have hlt:a+j<s.size:=by omega
  rw [qd4 hlt] at hx;injection hx with hx
  refine ⟨hlt,by rw [hx];exact hdx,h48.imp id fun h h0 e=>h ?_⟩;have:=qd4 (s:=s) (a:=a) (j:=0) (by omega);rw [this];congr 1;exact UInt8.toNat_inj.1 (by have:(48:UInt8).toNat=48:=rfl;simp only [Nat.add_zero];omega)
 have hout:∀ h:a+D<s.size,digV ((s[a+D]'h).toNat:Int)=false\/(0<D/\∀ h0:a<s.size,((s[a]'h0).toNat:Int)=48):=fun h=>by
  have:=qz2 (l:=tl s a) (x:=s[a+D]'h) (by rw [hD];exact qd4 h);rcases this with h1 | ⟨h1,h2⟩
  · exact .inl h1
  ·
   rw [hD] at h1;refine .inr ⟨h1,fun h0=>?_⟩;have h3:=qd4 (s:=s) (a:=a) (j:=0) (by omega);rw [h3] at h2;injection h2 with h2
   have h4:s[a]'h0=48:=by simpa using h2
   rw [h4];rfl
 have hGl:=Hd (fun (e:D=0)=>(show numG (tl s a)=lost (tl s a) by unfold numG;rw [if_pos (by rw [hD];exact e)]));have hGo:=Hd (fun (e:¬ D=0)=>(show numG (tl s a)=if 1000<D then .bad (s.size-a) 4 else .ok ((tl s a).take D) (tl s (a+D)) by unfold numG;rw [hD,if_neg e,qaq,qbi]));have hDe:=Hd hD;replace hin:=Hd hin;replace hout:=Hd hout;have hz2:=Blk.cell h 2;have hl:=h.lt;have hlw:=Hd h.lt;have hH:=Hd h;clear h hD;go_enter Tryz.func168,Tryz.ntmps168;go_wp2;clear hz2
 go_loopg [] D (fun m wr=>∃ j:Nat,Hid (j+m=D)/\Hid (RrA wr g s nv (a+j) 0)/\Fg g w wr)
 case atStart=>exact ⟨0,by show _=_;omega,hH.out,Fr.refl _ _⟩
 case round =>
  obtain ⟨j,hj,hR,hfr⟩:=hrel;obtain ⟨p,hp⟩:∃ p,a+j=p:=⟨_,rfl⟩
  rw [hp] at hR;have hRo:=hR.out;obtain ⟨z0,z1,z2,z3⟩:=cq4 hRo;have hl3:=hRo.lt;have f2:=Blk.frozen hRo 2;have hbd1:Below wr.heap.size wr wr.drew:=brf.drew;have hpc:((p+1:Nat):Int)=(p:Int)+1:=by omega
  clear hRo;by_cases hjD:j<D
  ·
   obtain ⟨hps,hpd,h48⟩:=hin.out j hjD;simp only [hp] at hps hpd;obtain ⟨v,hv⟩:∃ v:Nat,(s[p]'hps).toNat=v:=⟨_,rfl⟩
   rw [hv] at hpd;have CD:=qdx (v:Int);rw [hpd] at CD;replace CD:=Hd CD;replace hpd:=Hd hpd;have hR3:=Hd (show RrA ((wr.setCell ⟨g,2,none⟩ (.int .i64 ((p:Int)+1))).drew) g s nv (p+1) 0 from by unfold RrA;rw [hpc];exact bS hR.out rfl);have hF3:=Hd (show Fg g w ((wr.setCell ⟨g,2,none⟩ (.int .i64 ((p:Int)+1))).drew) from (hfr.setc (g:=g) (i:=2) (.inl rfl)).call (brf.drew));clear hR hfr hbd1;by_cases hj0:j=0
   ·
    have hpa:((p:Int)==(a:Int))=true:=by rw [beq_iff_eq];omega
    replace hp:=Hd hp;replace hj0:=Hd hj0;clear h48;go_wp2;refine wrM (S:=(fun x=>x=wr.drew)) [(0,.q),(1,.q),(2,.q),(3,.q),(4,.q),(5,.q),(6,.q),(7,.q),(8,.q),(9,.q),(10,.q),(11,.q),(12,.q),(13,.q),(14,.q),(15,.q),(16,.q),(17,.q),(18,.q),(19,.q),(20,.q),(21,.q),(22,.q),(23,.q),(24,.q),(25,.q),(26,.q),(27,.l),(28,.q),(29,.q),(30,.q),(31,.q),(32,.q),(33,.q),(34,.q),(35,.q),(36,.q),(37,.q),(38,.q),(39,.q),(40,.q),(41,.q),(42,.q),(43,.p),(44,.p),(45,.p)] (rfl) ?_
    iterate 27 (refine qab rfl rfl fun K hK=>xq ?_;go_simp;refine hK _ _ ?_;clear hK K)
    refine qal rfl rfl (fun K hK=>?_);go_simp;refine (CD.out wr.drew).mono ?_;rintro e w' ⟨rfl,rfl⟩;dsimp only;refine hK.out _ _ (rfl) (fun _=>?_);clear hK K
    iterate 9 (refine qab rfl rfl fun K hK=>xq ?_;go_simp;refine hK _ _ ?_;clear hK K)
    iterate 7 (refine qar rfl rfl (fun K hK=>?_);go_simp;refine hK _ _ ?_;clear hK K)
    iterate 2 (refine qae rfl rfl fun K hK=>xp ?_;go_simp;refine hK _ _ ?_;clear hK K)
    exact zz72
   ·
    have hpa:((p:Int)==(a:Int))=false:=by rw [beq_eq_false_iff_ne];omega
    have ha2:a<s.size:=by omega
    obtain ⟨y,hy⟩:∃ y:Nat,(s[a]'ha2).toNat=y:=⟨_,rfl⟩
    have hy48:((y:Int) != 48)=true:=by rw [bne_iff_ne,<- hy];exact (h48.resolve_left hj0) ha2
    replace hp:=Hd hp;replace hj0:=Hd hj0;clear h48;go_wp2;refine wrM (S:=(fun x=>x=wr.drew)) [(0,.q),(1,.q),(2,.q),(3,.q),(4,.q),(5,.q),(6,.q),(7,.q),(8,.q),(9,.q),(10,.q),(11,.q),(12,.q),(13,.q),(14,.q),(15,.q),(16,.q),(17,.q),(18,.q),(19,.q),(20,.q),(21,.q),(22,.q),(23,.q),(24,.q),(25,.q),(26,.q),(27,.l),(28,.q),(29,.q),(30,.q),(31,.q),(32,.q),(33,.q),(34,.q),(35,.q),(36,.q),(37,.q),(38,.q),(39,.q),(40,.q),(41,.q),(42,.q),(43,.p),(44,.p),(45,.p)] (rfl) ?_
    iterate 27 (refine qab rfl rfl fun K hK=>xq ?_;go_simp;refine hK _ _ ?_;clear hK K)
    refine qal rfl rfl (fun K hK=>?_);go_simp;refine (CD.out wr.drew).mono ?_;rintro e w' ⟨rfl,rfl⟩;dsimp only;refine hK.out _ _ (rfl) (fun _=>?_);clear hK K
    iterate 15 (refine qab rfl rfl fun K hK=>xq ?_;go_simp;refine hK _ _ ?_;clear hK K)
    iterate 3 (refine qae rfl rfl fun K hK=>xp ?_;go_simp;refine hK _ _ ?_;clear hK K)
    exact zz72
  ·
   have hjD2:j=D:=by have:=hj.out;omega
   rw [hjD2] at hp;clear hjD2 hjD hj;have hps2:p<=s.size:=by omega
   have hR3:=Hd (show RrA wr.drew g s nv p 0 from hR.out);have hF3:=Hd (show Fg g w wr.drew from hfr.call hbd1);clear hR hfr hbd1;by_cases hpz:p<s.size
   ·
    have ho:=hout.out (by rw [hp];exact hpz);simp only [hp] at ho;obtain ⟨v,hv⟩:∃ v:Nat,(s[p]'hpz).toNat=v:=⟨_,rfl⟩
    rw [hv] at ho;have CD:=qdx (v:Int);obtain ⟨bd,hbd⟩:∃ b,digV (v:Int)=b:=⟨_,rfl⟩
    simp only [hbd] at CD;rw [hbd] at ho;replace CD:=Hd CD;replace hp:=Hd hp
    cases bd
    ·
     clear ho hbd;go_wp2;refine wrM (S:=(fun x=>x=wr.drew)) [(0,.q),(1,.q),(2,.q),(3,.q),(4,.q),(5,.q),(6,.q),(7,.q),(8,.q),(9,.q),(10,.q),(11,.q),(12,.q),(13,.q),(14,.q),(15,.q),(16,.q),(17,.q),(18,.q),(19,.q),(20,.q),(21,.q),(22,.q),(23,.q),(24,.q),(25,.q),(26,.q),(27,.l),(28,.q),(29,.q),(30,.q),(31,.q),(32,.q),(33,.q),(34,.q),(35,.q),(36,.q),(37,.q),(38,.q),(39,.q),(40,.q),(41,.q),(42,.q),(43,.p),(44,.p),(45,.p)] (rfl) ?_
     iterate 27 (refine qab rfl rfl fun K hK=>xq ?_;go_simp;refine hK _ _ ?_;clear hK K)
     refine qal rfl rfl (fun K hK=>?_);go_simp;refine (CD.out wr.drew).mono ?_;rintro e w' ⟨rfl,rfl⟩;dsimp only;refine hK.out _ _ (rfl) (fun _=>?_);clear hK K
     iterate 2 (refine qab rfl rfl fun K hK=>xq ?_;go_simp;refine hK _ _ ?_;clear hK K)
     iterate 15 (refine qar rfl rfl (fun K hK=>?_);go_simp;refine hK _ _ ?_;clear hK K)
     iterate 1 (refine qae rfl rfl fun K hK=>xp ?_;go_simp;refine hK _ _ ?_;clear hK K)
     refine qac ?_;exact zz71
    ·
     rcases ho with ho | ⟨hD0',hy48'⟩
     · cases ho
     ·
      have ha2:a<s.size:=by omega
      obtain ⟨y,hy⟩:∃ y:Nat,(s[a]'ha2).toNat=y:=⟨_,rfl⟩
      have hy48:((y:Int) != 48)=false:=by
       have:=hy48' ha2;rw [hy] at this;rw [this];rfl
      have hpa:((p:Int)==(a:Int))=false:=by rw [beq_eq_false_iff_ne];have:=hp.out;omega
      have hyd:=Hd hy;clear hy48' hbd;go_wp2;refine wrM (S:=(fun x=>x=wr.drew)) [(0,.q),(1,.q),(2,.q),(3,.q),(4,.q),(5,.q),(6,.q),(7,.q),(8,.q),(9,.q),(10,.q),(11,.q),(12,.q),(13,.q),(14,.q),(15,.q),(16,.q),(17,.q),(18,.q),(19,.q),(20,.q),(21,.q),(22,.q),(23,.q),(24,.q),(25,.q),(26,.q),(27,.l),(28,.q),(29,.q),(30,.q),(31,.q),(32,.q),(33,.q),(34,.q),(35,.q),(36,.q),(37,.q),(38,.q),(39,.q),(40,.q),(41,.q),(42,.q),(43,.p),(44,.p),(45,.p)] (rfl) ?_
      iterate 27 (refine qab rfl rfl fun K hK=>xq ?_;go_simp;refine hK _ _ ?_;clear hK K)
      refine qal rfl rfl (fun K hK=>?_);go_simp;refine (CD.out wr.drew).mono ?_;rintro e w' ⟨rfl,rfl⟩;dsimp only;refine hK.out _ _ (rfl) (fun _=>?_);clear hK K
      iterate 15 (refine qab rfl rfl fun K hK=>xq ?_;go_simp;refine hK _ _ ?_;clear hK K)
      iterate 3 (refine qae rfl rfl fun K hK=>xp ?_;go_simp;refine hK _ _ ?_;clear hK K)
      refine qac ?_;clear hpa hy48 hy hyd;exact zz71
   ·
    replace hp:=Hd hp;go_wp2;refine wrM (S:=(fun x=>x=wr.drew)) [(0,.q),(1,.q),(2,.q),(3,.q),(4,.q),(5,.q),(6,.q),(7,.q),(8,.q),(9,.q),(10,.q),(11,.q),(12,.q),(13,.q),(14,.q),(15,.q),(16,.q),(17,.q),(18,.q),(19,.q),(20,.q),(21,.q),(22,.q),(23,.q),(24,.q),(25,.q),(26,.q),(27,.l),(28,.q),(29,.q),(30,.q),(31,.q),(32,.q),(33,.q),(34,.q),(35,.q),(36,.q),(37,.q),(38,.q),(39,.q),(40,.q),(41,.q),(42,.q),(43,.p),(44,.p),(45,.p)] (rfl) ?_
    iterate 18 (refine qab rfl rfl fun K hK=>xq ?_;go_simp;refine hK _ _ ?_;clear hK K)
    iterate 10 (refine qar rfl rfl (fun K hK=>?_);go_simp;refine hK _ _ ?_;clear hK K)
    iterate 2 (refine qab rfl rfl fun K hK=>xq ?_;go_simp;refine hK _ _ ?_;clear hK K)
    iterate 15 (refine qar rfl rfl (fun K hK=>?_);go_simp;refine hK _ _ ?_;clear hK K)
    iterate 1 (refine qae rfl rfl fun K hK=>xp ?_;go_simp;refine hK _ _ ?_;clear hK K)
    refine qac ?_;exact zz71
theorem qag8:∀ {l:List UInt8} {j:Nat},j<namL l->∃ x,l[j]? = some x/\(letV x.toNat||digV x.toNat)=true/\(j=0->letV x.toNat=true)
 | [],j,h=>by simp [namL] at h
 | c :: r,j,h=>by
  rw [namL] at h
  split at h
  ·
   next hc =>
   cases j with
   | zero=>exact ⟨c,rfl,by rw [show letV c.toNat=true from hc];rfl,fun _=>hc⟩
   | succ j =>
    obtain ⟨x,hx,hp⟩:=tw_in (p:=wordV) (l:=r) (j:=j) (by omega);exact ⟨x,by simpa using hx,hp,fun e=>by omega⟩
  · omega
theorem qyw:∀ {l:List UInt8} {x:UInt8},l[namL l]? = some x->(0<namL l/\(letV x.toNat||digV x.toNat)=false)\/(namL l=0/\letV x.toNat=false)
 | [],x,h=>by simp at h
 | c :: r,x,h=>by
  by_cases hc:letU c=true
  ·
   rw [namL,if_pos hc] at h ⊢;rw [Nat.add_comm,List.getElem?_cons_succ] at h;exact .inl ⟨by omega,qkc (p:=wordV) h⟩
  ·
   rw [namL,if_neg hc] at h ⊢;simp at h;subst h;exact .inr ⟨rfl,by simpa [letU] using hc⟩
theorem qaf9 (l:List UInt8):namL l<=l.length:=by
 cases l with
 | nil=>simp [namL]
 | cons c r =>
  rw [namL]
  split
  · have:=tw_le wordV r;rw [List.length_cons];omega
  · omega
theorem qmb {α:Type} {p:α->Bool}:∀ {l:List α} {v:Nat} {x:α},l[v]? = some x->p x=true->(∀ i y,i<v->l[i]? = some y->p y=false)->l.findIdx? p=some v
 | [],v,x,h,_,_=>by simp at h
 | y :: l,0,x,h,hx,_=>by simp at h;subst h;simp [List.findIdx?_cons,hx]
 | y :: l,v+1,x,h,hx,hb=>by
  rw [List.findIdx?_cons,if_neg (by rw [hb 0 y (by omega) rfl];simp),qmb (l:=l) (by simpa using h) hx fun i z hi hz=>hb (i+1) z (by omega) (by simpa using hz)]
  rfl
theorem quc {names:List ByteArray} {l:List UInt8} {t:ByteArray} {v:Nat} (ht:ofL l=t) (h:names[v]? = some t) (hb:∀ i y,i<v->names[i]? = some y->y≠t) (hv:v<64):whoV names l=some v:=by
 unfold whoV;rw [ht];refine qmb (x:=t) (by rw [List.getElem?_take,if_pos hv];exact h) (by simp) fun i y hi hy=>?_
 rw [List.getElem?_take,if_pos (by omega)] at hy;simpa using hb i y hi hy
theorem qq3 {names:List ByteArray} {l:List UInt8} {t:ByteArray} {v:Nat} (ht:ofL l=t) (hb:∀ i y,i<v->names[i]? = some y->y≠t) (hv:names.length<=v\/64<=v):whoV names l=none:=by
 unfold whoV;rw [ht,List.findIdx?_eq_none_iff];intro y hy;obtain ⟨i,hi⟩:=List.getElem?_of_mem hy;rw [List.getElem?_take] at hi
 split at hi
 · next h64=>simpa using hb i y (by have:=qas hi;omega) hi
 · cases hi
def RetPw (G:Got (Nat × Int)) (g:Nat) (s:ByteArray) (nv:Value) (w:World) (e:Ending) (w':World):Prop:=∃ v n:Nat,e=.returned (.tuple #[.int .i64 v,.int .i64 n])/\n<=1048576/\v<64/\(∀ p r,G=.ok p r->p=(v,(n:Int)))/\(∀ k x,G=.bad k x->n=0)/\StGr w' g s nv G/\Fg g w w'
theorem qg3 {G:Got (Nat × Int)} {g:Nat} {s:ByteArray} {nv:Value} {w w':World} {k:Nat} {x:Int} (hG:G=.bad k x) (hS:StEr w' g s nv k x) (hf:Fg g w w'):RetPw G g s nv w (.returned (.tuple #[.int .i64 0,.int .i64 0])) w':=by
 subst hG;exact ⟨0,0,rfl,by omega,by omega,(fun p r e=>by cases e),(fun _ _ _=>rfl),hS,hf⟩
theorem qrf {G:Got (Nat × Int)} {g:Nat} {s:ByteArray} {nv:Value} {w w':World} {v n:Nat} {r:List UInt8} (hG:G=.ok (v,(n:Int)) r) (hv:v<64) (hn:n<=1048576) (hS:StRr w' g s nv r) (hf:Fg g w w'):RetPw G g s nv w (.returned (.tuple #[.int .i64 v,.int .i64 n])) w':=by
 subst hG;exact ⟨v,n,rfl,hn,hv,(fun p r e=>by injection e with e _;exact e.symm),(fun _ _ e=>by cases e),hS,hf⟩
theorem zz74 {P:Prop} (h:P:=by
 refine qac ?_
 -- no variable is called so
 have CFl:=Hd (qdj g p a s (Value.slice na names.length nc) 6 wq.drew hRq.out);go_wp2_with fail;refine CFl.out.mono ?_;rintro e w2 ⟨rfl,h2,hf2⟩;have h2':=Hd h2;have hF5:=Hd ((hfq.out.call (brf.drew)).trans hf2);clear h2 hf2 CFl;go_wp2;go_ret2;exact qg3 (hGG'.out.trans (by rw [hwho.out];rfl)) ⟨by omega,by decide,by rw [show s.size-(s.size-a)=a by omega];exact h2'.out⟩ hF5.out
 ):P:=h
theorem zz73 {P:Prop} (h:P:=by
 by_cases hD0:D=0
 ·
  have hpa2:((p:Int)==(a:Int))=true:=by rw [beq_iff_eq];have:=hp.out;omega
  have hL:=hGl.out hD0;have CW:=Hd (qik g p s (Value.slice na names.length nc) wr.drew hR3.out hps2 hs);replace hD0:=Hd hD0;go_wp2_with fail;refine CW.out.mono ?_;rintro e w1 ⟨rfl,h1,hf⟩;have hpe:p=a:=by have:=hp.out;have:=hD0.out;omega
  rw [hpe] at h1;have h1':=Hd (qiz (β:=Nat × Int) h1);clear hpe h1;have hF4:=Hd (hF3.out.trans hf);obtain ⟨k9,e9,hl9⟩:∃ k e,lost (α:=Nat × Int) (tl s a)=.bad k e:=by unfold lost;split <;> exact ⟨_,_,rfl⟩
  rw [hl9] at h1' hL;obtain ⟨hk9,he9,hR9⟩:=(h1'.out:StEr w1 g s (Value.slice na names.length nc) k9 e9)
  obtain ⟨z0,z1,z2,z3⟩:=cq4 hR9;have hl2:=hR9.lt;have hz9:(e9 != 0)=true:=by simpa using he9
  replace hL:=Hd hL;replace he9:=Hd he9;clear hR9 hf CW hl9;go_wp2;go_ret2;exact qg3 hL.out h1'.out hF4.out
 ·
  have hpa2:((p:Int)==(a:Int))=false:=by rw [beq_eq_false_iff_ne];have:=hp.out;omega
  have hGG:=hGo.out hD0;obtain ⟨t,ht⟩:∃ t,ofL ((tl s a).take D)=t:=⟨_,rfl⟩
  have hex:s.extract a p=t:=by rw [<- ht,<- hp.out];exact qkh s a D
  have hap:a<=p:=by have:=hp.out;omega
  have hpD:=Hd (show a+D=p from hp.out);rw [hpD.out] at hGG;have HNW:=Hd (fun W (hW:Fg g w W) k x (hx:names[k]? = some x)=>(show ∃ b off,na=some ⟨b,off,none⟩/\W.cell? ⟨b,off+k,none⟩=some (.string x) from by
   obtain ⟨b,off,hna,hc⟩:=HN.out.2.2 k x hx;exact ⟨b,off,hna,hW.agr _ _ (fun e=>HNB.out (fun e0=>by rw [e0] at hx;simp at hx) _ hna e) (by rw [Nat.mul_one] at hc;exact hc)⟩))
  have ht':=Hd ht;have hGG':=Hd hGG;replace hD0:=Hd hD0;clear hGl hGo hin hout ht hGG hDe;go_wp2;obtain ⟨wo,hwo⟩:∃ W:World,W=wr.drew:=⟨_,rfl⟩
  rw [<- hwo] at hR3 hF3 ⊢;clear hwo z0 z1 z2 z3 hl3 f2
  go_loopg [5] names.length (fun gk sv wr2=>∃ v:Nat,Hid (v+gk=names.length)/\sv=.int .i64 v/\Hid (RrA wr2 g s (Value.slice na names.length nc) p 0)/\Hid (∀ i y,i<v->names[i]? = some y->y≠t)/\Hid (Fg g w wr2))
  case atStart=>exact ⟨0,by show _=_;omega,rfl,hR3.out,(fun i y hi=>by omega),hF3.out⟩
  case round =>
   clear hR3 hF3;obtain ⟨v,hv,rfl,hRq,hbq,hfq⟩:=hrel;obtain ⟨wq,rfl⟩:∃ W:World,W=wr:=⟨_,rfl⟩
   have hRo:=hRq.out;obtain ⟨z0,z1,z2,z3⟩:=cq4 hRo;have hl3:=hRo.lt;clear hRo;by_cases hvl:v<names.length
   ·
    obtain ⟨x,hx⟩:=qad hvl;obtain ⟨bn,on,hna,hcn⟩:=HNW.out wq hfq.out v x hx;have hvb:decide ((v:Int)<(names.length:Int))=true:=by rw [decide_eq_true_iff];omega
    obtain ⟨bx,hbx⟩:∃ b,(x.toList==t.toList)=b:=⟨_,rfl⟩
    have hbn:(x.toList != t.toList) = !bx:=by rw [bne,hbx]
    have hxt:=hbx;rw [qe4] at hxt;rw [hna] at z1;replace hna:=Hd hna
    cases bx
    ·
     have hxn:x≠t:=by simpa using hxt
     have hb2:=Hd (show ∀ i y,i<v+1->names[i]? = some y->y≠t from fun i y hi hy=>by
      rcases Nat.lt_or_ge i v with h | h
      · exact hbq.out i y h hy
      · rw [show i=v by omega,hx] at hy;injection hy with hy;rw [<- hy];exact hxn)
     have hRq2:=Hd (show RrA wq.drew g s (Value.slice na names.length nc) p 0 from hRq.out);have hfq2:=Hd (hfq.out.call ((Below.refl wq.heap.size wq).drew));replace hxn:=Hd hxn;clear hxt hx hbq;go_wp2;refine wrM (S:=(fun x=>x=wq.drew)) [(0,.q),(1,.q),(2,.q),(3,.q),(4,.q),(5,.q),(6,.q),(7,.q),(8,.q),(9,.q),(10,.q),(11,.q),(12,.q),(13,.q),(14,.q),(15,.q),(16,.q),(17,.q),(18,.q),(19,.q),(20,.q),(21,.q),(22,.q),(23,.q),(24,.q),(25,.p),(26,.p)] (rfl) ?_
     iterate 25 (refine qab rfl rfl fun K hK=>xq ?_;go_simp;refine hK _ _ ?_;clear hK K)
     iterate 2 (refine qae rfl rfl fun K hK=>xp ?_;go_simp;refine hK _ _ ?_;clear hK K)
     refine qac ?_;go_wp2;go_roundg (gk-1)
     case rel=>exact ⟨v+1,by have:=hv.out;show _=_;omega,by go_num,hRq2.out,hb2.out,hfq2.out⟩
     case measure=>have:=hv.out;omega
    ·
     have hxe:x=t:=by simpa using hxt
     subst hxe;have hvn:(((v:Int))==(names.length:Int))=false:=by rw [beq_eq_false_iff_ne];omega
     have hvn2:(v==names.length)=false:=by rw [beq_eq_false_iff_ne];omega
     clear hxt;by_cases h64:v<64
     ·
      have hwho:=Hd (quc ht'.out hx hbq.out h64);have d64:decide (64<=(v:Int))=false:=by rw [decide_eq_false_iff_not];omega
      have d642:decide (64<=v)=false:=by rw [decide_eq_false_iff_not];omega
      have hG2:=Hd (hGG'.out.trans (by rw [hwho.out];first | done | rfl):powG names (tl s a)=if (tl s p)[0]? = some 94 then (numG ((tl s p).drop 1)).bnd fun d r2=>if 1048576<decL d then (.bad ((tl s p).drop 1).length 4:Got (Nat × Int)) else .ok (v,(decL d:Int)) r2 else .ok (v,(1:Int)) (tl s p));have hRq2:=Hd (show RrA wq.drew g s (Value.slice na names.length nc) p 0 from hRq.out);have hfq2:=Hd (hfq.out.call ((Below.refl wq.heap.size wq).drew));have h64':=Hd h64;clear hx hbq;go_wp2;refine wrM (S:=(fun x=>x=wq.drew)) [(0,.q),(1,.q),(2,.q),(3,.q),(4,.q),(5,.q),(6,.q),(7,.q),(8,.q),(9,.q),(10,.q),(11,.q),(12,.q),(13,.q),(14,.q),(15,.q),(16,.q),(17,.q),(18,.q),(19,.q),(20,.q),(21,.q),(22,.q),(23,.q),(24,.q),(25,.p),(26,.p)] (rfl) ?_
      iterate 25 (refine qab rfl rfl fun K hK=>xq ?_;go_simp;refine hK _ _ ?_;clear hK K)
      iterate 2 (refine qae rfl rfl fun K hK=>xp ?_;go_simp;refine hK _ _ ?_;clear hK K)
      refine qac ?_;clear hcn hbx hbn hRq hfq;have hst:=qb3 (tl s p) 94 (z:=94) rfl;obtain ⟨bp,hbp⟩:∃ b,nxtB (tl s p) 94=b:=⟨_,rfl⟩
      rw [hbp] at hst
      cases bp
      ·
       have h94:¬ (tl s p)[0]? = some 94:=by simpa using hst.symm
       have hG3:=Hd (hG2.out.trans (if_neg h94));have CT:=Hd (qds g p s (Value.slice na names.length nc) 94 wq.drew hRq2.out hps2 hs hbp);replace hst:=Hd hst;replace hbp:=Hd hbp;replace h94:=Hd h94;go_wp2_with fail;refine CT.out.mono ?_;rintro e w2 ⟨rfl,hb2⟩;have hR5:=Hd (hRq2.out.below hb2);have hF5:=Hd (hfq2.out.call hb2);clear CT hb2;go_wp2;go_ret2;exact qrf (n:=1) hG3.out h64'.out (by omega) ⟨p,hps2,rfl,hR5.out⟩ hF5.out
      ·
       have h94:(tl s p)[0]? = some 94:=by simpa using hst.symm
       have hp1l:p<s.size:=by
        apply Nat.lt_of_not_le;intro hle;rw [qbn hle] at h94
        cases h94
       have hG3:=hG2.out.trans (if_pos h94);rw [qbi,qaq] at hG3;have CT:=Hd (qdt g p s (Value.slice na names.length nc) 94 wq.drew hRq2.out hps2 hs hbp);replace hst:=Hd hst;replace hbp:=Hd hbp;replace h94:=Hd h94;replace hG3:=Hd hG3;go_wp2_with fail;refine CT.out.mono ?_;rintro e w2 ⟨rfl,hR5,hf5⟩;have hF5:=Hd (hfq2.out.trans hf5);have y2:=hR5.cell 2;have hl5:=hR5.lt;have hg5:=Hd hR5.lt;have CN:=qgu g (p+1) s (Value.slice na names.length nc) w2 hR5 (by omega) hs;obtain ⟨NG,hNG⟩:∃ G,numG (tl s (p+1))=G:=⟨_,rfl⟩
       have hG4:=hG3.out;rw [hNG] at CN hG4;obtain ⟨fr,hfr⟩:∃ q,p+1=q:=⟨_,rfl⟩
       rw [hfr] at y2 hG4;have hfr':=Hd hfr;have hG4':=Hd hG4;replace CN:=Hd CN;clear CT hf5 hR5 hNG hG4 hfr;go_wp2_with fail;refine CN.out.mono ?_;rintro e w3 ⟨⟨a1,c1,N,rfl,hVN,hNl,hNok,hNbad⟩,hS3,hf3⟩;have CU:=qr3 (limbs N) N a1 c1 w3 (hVN w3 (New.refl _ _)) (qaa _) (by omega);have hF6:=Hd (hF5.out.trans hf3);obtain ⟨T,hT⟩:∃ T,(limbs N).length=T:=⟨_,rfl⟩
       rw [hT] at CU ⊢;replace CU:=Hd CU;replace hT:=Hd hT;clear CN y2 hl5 hVN hf3;go_wp2_with fail;refine CU.out.mono ?_;rintro e w4 ⟨hb4,hsm,hbg⟩;have hF7:=Hd (hF6.out.call hb4);have hS4:=Hd (hS3.below hb4);clear CU hS3;by_cases hN64:N<18446744073709551616
       ·
        obtain rfl:=hsm hN64;by_cases hNx:1048576<N
        ·
         have dN:decide (1048576<(N:Int))=true:=by rw [decide_eq_true_iff];omega
         have dN2:decide (1048576<N)=true:=by rw [decide_eq_true_iff];omega
         cases NG with
         | bad k er=>exact absurd (hNbad k er rfl) (by omega)
         | ok d r =>
          have hNd:=hNok d r rfl;have hG5:=Hd (show powG names (tl s a)=.bad (s.size-fr) 4 from hG4'.out.trans (if_pos (by rw [<- hNd];exact hNx)));obtain ⟨p2,hp2,_,hR7⟩:=(hS4.out:StRr w4 g s (Value.slice na names.length nc) r)
          have CFl:=Hd (qdj g p2 fr s (Value.slice na names.length nc) 4 w4 hR7);replace hNx:=Hd hNx;replace hN64:=Hd hN64;clear hsm hbg hNok hNbad hNd hR7 hb4;go_wp2_with fail;refine CFl.out.mono ?_;rintro e w5 ⟨rfl,h5,hf5⟩;have h5':=Hd h5;have hF8:=Hd (hF7.out.trans hf5);clear h5 hf5 CFl;go_wp2;go_ret2;exact qg3 hG5.out ⟨by omega,by decide,by rw [show s.size-(s.size-fr)=fr by have:=hfr'.out;omega];exact h5'.out⟩ hF8.out
        ·
         have dN:decide (1048576<(N:Int))=false:=by rw [decide_eq_false_iff_not];omega
         have dN2:decide (1048576<N)=false:=by rw [decide_eq_false_iff_not];omega
         have hw64:IntKind.i64.wrap (N:Int)=(N:Int):=by rw [IntKind.wrap_i64];omega
         have hNx':=Hd (show N<=1048576 by omega);clear hsm hbg hb4
         cases NG with
         | bad k er =>
          have hN0:=hNbad k er rfl;subst hN0;have hG5:=Hd (show powG names (tl s a)=.bad k er from hG4'.out);have hS5:=hS4;clear hNok hNbad hN64 hNx;go_wp2;go_ret2;exact ⟨v,0,rfl,by omega,h64'.out,(fun p r e=>by rw [hG5.out] at e;cases e),(fun _ _ _=>rfl),by rw [hG5.out];exact hS5.out,hF7.out⟩
         | ok d r =>
          have hNd:=hNok d r rfl;have hG5:=Hd (show powG names (tl s a)=.ok (v,(N:Int)) r from hG4'.out.trans ((if_neg (by rw [<- hNd];exact hNx)).trans (by rw [<- hNd])));clear hNok hNbad hN64 hNx hNd;go_wp2;go_ret2;exact qrf hG5.out h64'.out hNx'.out hS4.out hF7.out
       ·
        obtain rfl:=hbg (by omega)
        cases NG with
        | bad k er=>exact absurd (hNbad k er rfl) (by omega)
        | ok d r =>
         have hNd:=hNok d r rfl;have hG5:=Hd (show powG names (tl s a)=.bad (s.size-fr) 4 from hG4'.out.trans (if_pos (by rw [<- hNd];omega)));obtain ⟨p2,hp2,_,hR7⟩:=(hS4.out:StRr w4 g s (Value.slice na names.length nc) r)
         have CFl:=Hd (qdj g p2 fr s (Value.slice na names.length nc) 4 w4 hR7);replace hN64:=Hd hN64;clear hsm hbg hNok hNbad hNd hR7 hb4;go_wp2_with fail;refine CFl.out.mono ?_;rintro e w5 ⟨rfl,h5,hf5⟩;have h5':=Hd h5;have hF8:=Hd (hF7.out.trans hf5);clear h5 hf5 CFl;go_wp2;go_ret2;exact qg3 hG5.out ⟨by omega,by decide,by rw [show s.size-(s.size-fr)=fr by have:=hfr'.out;omega];exact h5'.out⟩ hF8.out
     ·
      have hwho:=Hd (qq3 (v:=v) ht'.out hbq.out (.inr (by omega)));have d64:decide (64<=(v:Int))=true:=by rw [decide_eq_true_iff];omega
      have d642:decide (64<=v)=true:=by rw [decide_eq_true_iff];omega
      clear hx hbq;go_wp2;refine wrM (S:=(fun x=>x=wq.drew)) [(0,.q),(1,.q),(2,.q),(3,.q),(4,.q),(5,.q),(6,.q),(7,.q),(8,.q),(9,.q),(10,.q),(11,.q),(12,.q),(13,.q),(14,.q),(15,.q),(16,.q),(17,.q),(18,.q),(19,.q),(20,.q),(21,.q),(22,.q),(23,.q),(24,.q),(25,.p),(26,.p)] (rfl) ?_
      iterate 25 (refine qab rfl rfl fun K hK=>xq ?_;go_simp;refine hK _ _ ?_;clear hK K)
      iterate 2 (refine qae rfl rfl fun K hK=>xp ?_;go_simp;refine hK _ _ ?_;clear hK K)
      exact zz74
   ·
    have hvb:decide ((v:Int)<(names.length:Int))=false:=by rw [decide_eq_false_iff_not];omega
    have hve:v=names.length:=by have:=hv.out;omega
    have hwho:=Hd (qq3 (v:=v) ht'.out hbq.out (.inl (by omega)));subst hve;clear hbq;go_wp2;refine wrM (S:=(fun x=>x=wq.drew)) [(0,.q),(1,.q),(2,.q),(3,.q),(4,.q),(5,.q),(6,.q),(7,.q),(8,.q),(9,.q),(10,.q),(11,.q),(12,.q),(13,.q),(14,.q),(15,.q),(16,.q),(17,.q),(18,.q),(19,.q),(20,.q),(21,.q),(22,.q),(23,.q),(24,.q),(25,.p),(26,.p)] (rfl) ?_
    iterate 8 (refine qab rfl rfl fun K hK=>xq ?_;go_simp;refine hK _ _ ?_;clear hK K)
    iterate 18 (refine qar rfl rfl (fun K hK=>?_);go_simp;refine hK _ _ ?_;clear hK K)
    iterate 1 (refine qae rfl rfl fun K hK=>xp ?_;go_simp;refine hK _ _ ?_;clear hK K)
    exact zz74
 ):P:=h
theorem zz75 {P:Prop} (h:P:=by
 refine qac ?_;go_wp2;go_roundg (gk-1)
 case rel=>exact ⟨j+1,by have:=hj.out;show _=_;omega,by rw [show a+(j+1)=p+1 by have:=hp.out;omega];exact hR3.out,hF3.out⟩
 case measure=>have:=hj.out;omega
 ):P:=h
theorem qum (g a:Nat) (s:ByteArray) (names:List ByteArray) (na:Option Addr) (nc:Nat) (w:World) (h:RrA w g s (Value.slice na names.length nc) a 0) (ha:a<=s.size) (hs:s.size<=281474976710656) (hN:StrsR w na nc names) (hnb:names≠[]->∀ p:Addr,na=some p->p.block≠g) (hnl:names.length<=1000) :
  Calls Tryz.prog 120 #[.pointer (some ⟨g,0,none⟩)] w (RetPw (powG names (tl s a)) g s (Value.slice na names.length nc) w):=by
 obtain ⟨D,hD⟩:∃ D,namL (tl s a)=D:=⟨_,rfl⟩
 have hDl:D<=s.size-a:=by rw [<- hD,<- qaq];exact qaf9 _
 have hin:∀ j,j<D->∃ h:a+j<s.size,(letV ((s[a+j]'h).toNat:Int)||digV ((s[a+j]'h).toNat:Int))=true/\(j=0->letV ((s[a+j]'h).toNat:Int)=true):=fun j hj=>by
  rw [<- hD] at hj;obtain ⟨x,hx,hdx,h48⟩:=qag8 hj;have hlt:a+j<s.size:=by omega
  rw [qd4 hlt] at hx;injection hx with hx
  exact ⟨hlt,by rw [hx];exact hdx,by rw [hx];exact h48⟩
 have hout:∀ h:a+D<s.size,(0<D/\(letV ((s[a+D]'h).toNat:Int)||digV ((s[a+D]'h).toNat:Int))=false)\/(D=0/\letV ((s[a+D]'h).toNat:Int)=false):=fun h=>by
  have:=qyw (l:=tl s a) (x:=s[a+D]'h) (by rw [hD];exact qd4 h);rw [hD] at this;exact this
 have hGl:=Hd (fun (e:D=0)=>(show powG names (tl s a)=lost (tl s a) by unfold powG namG;rw [hD,if_pos e];unfold lost;split <;> rfl));have hGo:=Hd (fun (e:¬ D=0)=>(show powG names (tl s a)=(match whoV names ((tl s a).take D) with | none=>(.bad (s.size-a) 6:Got Nat) | some v=>.ok v (tl s (a+D))).bnd fun v r=>if r[0]? = some 94 then (numG (r.drop 1)).bnd fun d r2=>if 1048576<decL d then .bad (r.drop 1).length 4 else .ok (v,decL d) r2 else .ok (v,1) r by
  unfold powG namG;rw [hD,if_neg e,qaq,qbi];cases whoV names ((tl s a).take D) <;> rfl))
 have hDe:=Hd hD;replace hin:=Hd hin;replace hout:=Hd hout;have HN:=Hd hN;have HNB:=Hd hnb;have hz2:=Blk.cell h 2;have hl:=h.lt;have hlw:=Hd h.lt;have hH:=Hd h;clear h hD hN hnb;go_enter Tryz.func120,Tryz.ntmps120;go_wp2;clear hz2
 go_loopg [] D (fun m wr=>∃ j:Nat,Hid (j+m=D)/\Hid (RrA wr g s (Value.slice na names.length nc) (a+j) 0)/\Fg g w wr)
 case atStart=>exact ⟨0,by show _=_;omega,hH.out,Fr.refl _ _⟩
 case round =>
  obtain ⟨j,hj,hR,hfr⟩:=hrel;obtain ⟨p,hp⟩:∃ p,a+j=p:=⟨_,rfl⟩
  rw [hp] at hR;have hRo:=hR.out;obtain ⟨z0,z1,z2,z3⟩:=cq4 hRo;have hl3:=hRo.lt;have f2:=Blk.frozen hRo 2;have hbd1:Below wr.heap.size wr wr.drew:=brf.drew;have hpc:((p+1:Nat):Int)=(p:Int)+1:=by omega
  clear hRo;by_cases hjD:j<D
  ·
   obtain ⟨hps,hpd,h48⟩:=hin.out j hjD;simp only [hp] at hps hpd h48;obtain ⟨v,hv⟩:∃ v:Nat,(s[p]'hps).toNat=v:=⟨_,rfl⟩
   rw [hv] at hpd h48;have CB:=qhy (v:Int);have CD:=qdx (v:Int);obtain ⟨bl,hbl⟩:∃ b,letV (v:Int)=b:=⟨_,rfl⟩
   simp only [hbl] at CB;rw [hbl] at hpd h48;have hR3:=Hd (show RrA ((wr.setCell ⟨g,2,none⟩ (.int .i64 ((p:Int)+1))).drew) g s (Value.slice na names.length nc) (p+1) 0 from by unfold RrA;rw [hpc];exact bS hR.out rfl);have hF3:=Hd (show Fg g w ((wr.setCell ⟨g,2,none⟩ (.int .i64 ((p:Int)+1))).drew) from (hfr.setc (g:=g) (i:=2) (.inl rfl)).call (brf.drew));replace CB:=Hd CB;clear hR hfr hbd1
   cases bl
   ·
    have hpd2:digV (v:Int)=true:=by simpa using hpd
    simp only [hpd2] at CD;replace CD:=Hd CD;have hj0:j≠0:=fun e=>by cases h48 e
    have hpa:decide ((a:Int)<(p:Int))=true:=by rw [decide_eq_true_iff];omega
    have hpa3:decide (a<p)=true:=by rw [decide_eq_true_iff];omega
    replace hp:=Hd hp;replace hj0:=Hd hj0;clear h48 hpd hbl hpd2;go_wp2;refine wrM (S:=(fun x=>x=wr.drew)) [(0,.q),(1,.q),(2,.q),(3,.q),(4,.q),(5,.q),(6,.q),(7,.q),(8,.q),(9,.q),(10,.q),(11,.q),(12,.q),(13,.q),(14,.q),(15,.q),(16,.q),(17,.q),(18,.q),(19,.q),(20,.q),(21,.q),(22,.q),(23,.q),(24,.q),(25,.q),(26,.q),(27,.l),(28,.q),(29,.q),(30,.q),(31,.q),(32,.q),(33,.q),(34,.q),(35,.q),(36,.q),(37,.q),(38,.q),(39,.q),(40,.q),(41,.q),(42,.q),(43,.q),(44,.q),(45,.t),(46,.p),(47,.p),(48,.p)] (rfl) ?_
    iterate 27 (refine qab rfl rfl fun K hK=>xq ?_;go_simp;refine hK _ _ ?_;clear hK K)
    refine qal rfl rfl (fun K hK=>?_);go_simp;refine (CB.out wr.drew).mono ?_;rintro e w' ⟨rfl,rfl⟩;dsimp only;refine hK.out _ _ (rfl) (fun _=>?_);clear hK K
    iterate 17 (refine qab rfl rfl fun K hK=>xq ?_;go_simp;refine hK _ _ ?_;clear hK K)
    refine qam rfl rfl (fun K hK=>?_);go_simp;refine (CD.out wr.drew).mono ?_;rintro e w' ⟨rfl,rfl⟩;dsimp only;refine hK.out _ _ ?_;clear hK K
    iterate 3 (refine qae rfl rfl fun K hK=>xp ?_;go_simp;refine hK _ _ ?_;clear hK K)
    exact zz75
   ·
    replace hp:=Hd hp;clear h48 hpd hbl CD;go_wp2;refine wrM (S:=(fun x=>x=wr.drew)) [(0,.q),(1,.q),(2,.q),(3,.q),(4,.q),(5,.q),(6,.q),(7,.q),(8,.q),(9,.q),(10,.q),(11,.q),(12,.q),(13,.q),(14,.q),(15,.q),(16,.q),(17,.q),(18,.q),(19,.q),(20,.q),(21,.q),(22,.q),(23,.q),(24,.q),(25,.q),(26,.q),(27,.l),(28,.q),(29,.q),(30,.q),(31,.q),(32,.q),(33,.q),(34,.q),(35,.q),(36,.q),(37,.q),(38,.q),(39,.q),(40,.q),(41,.q),(42,.q),(43,.q),(44,.q),(45,.t),(46,.p),(47,.p),(48,.p)] (rfl) ?_
    iterate 27 (refine qab rfl rfl fun K hK=>xq ?_;go_simp;refine hK _ _ ?_;clear hK K)
    refine qal rfl rfl (fun K hK=>?_);go_simp;refine (CB.out wr.drew).mono ?_;rintro e w' ⟨rfl,rfl⟩;dsimp only;refine hK.out _ _ (rfl) (fun _=>?_);clear hK K
    iterate 1 (refine qab rfl rfl fun K hK=>xq ?_;go_simp;refine hK _ _ ?_;clear hK K)
    iterate 18 (refine qar rfl rfl (fun K hK=>?_);go_simp;refine hK _ _ ?_;clear hK K)
    iterate 2 (refine qae rfl rfl fun K hK=>xp ?_;go_simp;refine hK _ _ ?_;clear hK K)
    exact zz75
  ·
   have hjD2:j=D:=by have:=hj.out;omega
   rw [hjD2] at hp;clear hjD2 hjD hj;have hps2:p<=s.size:=by omega
   have hR3:=Hd (show RrA wr.drew g s (Value.slice na names.length nc) p 0 from hR.out);have hF3:=Hd (show Fg g w wr.drew from hfr.call hbd1);clear hR hfr hbd1;by_cases hpz:p<s.size
   ·
    have ho:=hout.out (by rw [hp];exact hpz);simp only [hp] at ho;obtain ⟨v,hv⟩:∃ v:Nat,(s[p]'hpz).toNat=v:=⟨_,rfl⟩
    rw [hv] at ho;have CB:=qhy (v:Int);have CD:=qdx (v:Int);rcases ho with ⟨hD1,ho⟩ | ⟨hD1,ho⟩
    ·
     rw [Bool.or_eq_false_iff] at ho;simp only [ho.1] at CB;simp only [ho.2] at CD;have hpa:decide ((a:Int)<(p:Int))=true:=by rw [decide_eq_true_iff];omega
     have hpa3:decide (a<p)=true:=by rw [decide_eq_true_iff];omega
     replace CB:=Hd CB;replace CD:=Hd CD;replace hp:=Hd hp;replace hD1:=Hd hD1;clear ho;go_wp2;refine wrM (S:=(fun x=>x=wr.drew)) [(0,.q),(1,.q),(2,.q),(3,.q),(4,.q),(5,.q),(6,.q),(7,.q),(8,.q),(9,.q),(10,.q),(11,.q),(12,.q),(13,.q),(14,.q),(15,.q),(16,.q),(17,.q),(18,.q),(19,.q),(20,.q),(21,.q),(22,.q),(23,.q),(24,.q),(25,.q),(26,.q),(27,.l),(28,.q),(29,.q),(30,.q),(31,.q),(32,.q),(33,.q),(34,.q),(35,.q),(36,.q),(37,.q),(38,.q),(39,.q),(40,.q),(41,.q),(42,.q),(43,.q),(44,.q),(45,.t),(46,.p),(47,.p),(48,.p)] (rfl) ?_
     iterate 27 (refine qab rfl rfl fun K hK=>xq ?_;go_simp;refine hK _ _ ?_;clear hK K)
     refine qal rfl rfl (fun K hK=>?_);go_simp;refine (CB.out wr.drew).mono ?_;rintro e w' ⟨rfl,rfl⟩;dsimp only;refine hK.out _ _ (rfl) (fun _=>?_);clear hK K
     iterate 17 (refine qab rfl rfl fun K hK=>xq ?_;go_simp;refine hK _ _ ?_;clear hK K)
     refine qam rfl rfl (fun K hK=>?_);go_simp;refine (CD.out wr.drew).mono ?_;rintro e w' ⟨rfl,rfl⟩;dsimp only;refine hK.out _ _ ?_;clear hK K
     iterate 3 (refine qae rfl rfl fun K hK=>xp ?_;go_simp;refine hK _ _ ?_;clear hK K)
     refine qac ?_;clear hpa hpa3;exact zz73
    ·
     simp only [ho] at CB;have hpa:decide ((a:Int)<(p:Int))=false:=by rw [decide_eq_false_iff_not];omega
     have hpa3:decide (a<p)=false:=by rw [decide_eq_false_iff_not];omega
     replace CB:=Hd CB;replace hp:=Hd hp;replace hD1:=Hd hD1;clear ho CD;go_wp2;refine wrM (S:=(fun x=>x=wr.drew)) [(0,.q),(1,.q),(2,.q),(3,.q),(4,.q),(5,.q),(6,.q),(7,.q),(8,.q),(9,.q),(10,.q),(11,.q),(12,.q),(13,.q),(14,.q),(15,.q),(16,.q),(17,.q),(18,.q),(19,.q),(20,.q),(21,.q),(22,.q),(23,.q),(24,.q),(25,.q),(26,.q),(27,.l),(28,.q),(29,.q),(30,.q),(31,.q),(32,.q),(33,.q),(34,.q),(35,.q),(36,.q),(37,.q),(38,.q),(39,.q),(40,.q),(41,.q),(42,.q),(43,.q),(44,.q),(45,.t),(46,.p),(47,.p),(48,.p)] (rfl) ?_
     iterate 27 (refine qab rfl rfl fun K hK=>xq ?_;go_simp;refine hK _ _ ?_;clear hK K)
     refine qal rfl rfl (fun K hK=>?_);go_simp;refine (CB.out wr.drew).mono ?_;rintro e w' ⟨rfl,rfl⟩;dsimp only;refine hK.out _ _ (rfl) (fun _=>?_);clear hK K
     iterate 8 (refine qab rfl rfl fun K hK=>xq ?_;go_simp;refine hK _ _ ?_;clear hK K)
     iterate 10 (refine qar rfl rfl (fun K hK=>?_);go_simp;refine hK _ _ ?_;clear hK K)
     iterate 3 (refine qae rfl rfl fun K hK=>xp ?_;go_simp;refine hK _ _ ?_;clear hK K)
     refine qac ?_;clear hpa hpa3;exact zz73
   ·
    replace hp:=Hd hp;go_wp2;refine wrM (S:=(fun x=>x=wr.drew)) [(0,.q),(1,.q),(2,.q),(3,.q),(4,.q),(5,.q),(6,.q),(7,.q),(8,.q),(9,.q),(10,.q),(11,.q),(12,.q),(13,.q),(14,.q),(15,.q),(16,.q),(17,.q),(18,.q),(19,.q),(20,.q),(21,.q),(22,.q),(23,.q),(24,.q),(25,.q),(26,.q),(27,.l),(28,.q),(29,.q),(30,.q),(31,.q),(32,.q),(33,.q),(34,.q),(35,.q),(36,.q),(37,.q),(38,.q),(39,.q),(40,.q),(41,.q),(42,.q),(43,.q),(44,.q),(45,.t),(46,.p),(47,.p),(48,.p)] (rfl) ?_
    iterate 18 (refine qab rfl rfl fun K hK=>xq ?_;go_simp;refine hK _ _ ?_;clear hK K)
    iterate 30 (refine qar rfl rfl (fun K hK=>?_);go_simp;refine hK _ _ ?_;clear hK K)
    iterate 1 (refine qae rfl rfl fun K hK=>xp ?_;go_simp;refine hK _ _ ?_;clear hK K)
    refine qac ?_;clear hpz;exact zz73
def RetCo (G:Got Rat) (w:World) (e:Ending) (w':World):Prop:=∃ (x:QA) (q:Rat),e=.returned (.agg #[.bool x.neg,.slice x.a x.n x.c,.slice x.b x.m x.d])/\Kp (fun V=>QK 1000 V x q) w.heap.size w'.heap.size w'/\(∀ q' r,G=.ok q' r->q=q')
def qak7 (G:Got Rat) (g:Nat) (s:ByteArray) (nv:Value) (w:World) (e:Ending) (w':World):Prop:=RetCo G w e w'/\StGr w' g s nv G/\Fg g w w'
theorem StGr.set_ {α:Type} {w:World} {g g2 i:Nat} {s:ByteArray} {nv u:Value} {G:Got α} (h:StGr w g s nv G) (hne:g≠g2):StGr (w.setCell ⟨g2,i,none⟩ u) g s nv G:=by
 cases G with
 | ok v r=>obtain ⟨a,h1,h2,h3⟩:=(h:StRr w g s nv r);exact ⟨a,h1,h2,bF hne h3⟩
 | bad k e=>obtain ⟨h1,h2,h3⟩:=(h:StEr w g s nv k e);exact ⟨h1,h2,bF hne h3⟩
theorem qgj (P Q:Nat) (a b:Option Addr) (c d:Nat) (w:World) (h:NatR w a c (limbs P)) (h':NatR w b d (limbs Q)) (hP:(limbs P).length<=1000) (hQ:(limbs Q).length<=1000) :
  Calls Tryz.prog 56 #[.agg #[.bool false,.slice a (limbs P).length c,.slice b (limbs Q).length d]] w (RetQK 1000 (qv false P Q) w):=by
 have:=qcw false (limbs P) (limbs Q) P Q a b c d w h h' (qaa _) (qaa _) (by omega) (by omega);rw [qbo] at this;exact this.mono fun e w' h=>qd6 (qtc hP hQ) h
theorem qrl (g a:Nat) (s:ByteArray) (nv:Value) (w:World) (h:RrA w g s nv a 0) (ha:a<=s.size) (hs:s.size<=281474976710656) :
  Calls Tryz.prog 119 #[.pointer (some ⟨g,0,none⟩)] w (qak7 (cofG (tl s a)) g s nv w):=by
 obtain ⟨GG,hGG⟩:∃ G,cofG (tl s a)=G:=⟨_,rfl⟩
 rw [hGG];unfold cofG at hGG;have hgg0:=h.lt;have CN:=Hd (fun W (hW:RrA W g s nv a 0)=>qgu g a s nv W hW ha hs);obtain ⟨NG,hNG⟩:∃ G,numG (tl s a)=G:=⟨_,rfl⟩
 rw [hNG] at CN hGG;have CO1:=Hd (fun W=>qbs 1 W (by decide));replace CN:=Hd CN.out;replace hGG:=Hd hGG;replace hNG:=Hd hNG;have H:=Hd (fun o=>show RrA (w.alloc o) g s nv a 0 from bA h);have hl1:(limbs 1).length<=1000:=by rw [qfp];decide
 replace hl1:=Hd hl1;clear h;go_enter Tryz.func119,Tryz.ntmps119;go_wp2_with fail;refine qah (fun W=>Blk W w.heap.size 76 #[.bool false,.slice none 0 0,.slice none 0 0]/\RrA W g s nv a 0/\Fg g w W) ⟨Blk.new w _ _,H.out _,(Fr.refl _ _).alloc _⟩ ?_;rintro w0 ⟨hz0,h0,hf0⟩;obtain ⟨g2,hg2⟩:∃ q,w.heap.size=q:=⟨_,rfl⟩
 have hg2w:Hid (w.heap.size<=g2):=Hd (by omega);have hgg:Hid (g<g2):=Hd (by omega);rw [hg2] at hz0 ⊢;replace hg2:=Hd hg2;clear hgg0 H;refine (CN.out w0 h0).mono ?_;rintro e w1 ⟨⟨a1,c1,P,rfl,hVP,hPl,hPok,hPbad⟩,hS1,hf1⟩;have hz1:Blk w1 g2 76 #[.bool false,.slice none 0 0,.slice none 0 0]:=Blk.fr hz0 hf1 (by have:=hgg.out;omega);have hf2:=hf0.trans hf1;have HP1:=Hd (show Rd (fun b=>b=g) w1 (fun V=>NatR V a1 c1 (limbs P)) from Rd.made hVP fun b hb=>by subst hb;exact .inl h0.lt);have hPs:=Hd hPl;clear CN hz0 h0 hf0 hf1 hVP hPl;go_wp2_with fail;refine (CO1.out w1).mono ?_;rintro e w2 ⟨a2,c2,rfl,hVQ,hb2⟩;have HP2:=Hd (HP1.out.call hb2);have HQ2:=Hd (hVQ w2 (New.refl _ _));have hz2:=Hd (hz1.below' hb2);have hS2:=hS1.below hb2;have hf3':=Hd (hf2.call hb2);clear CO1 hVQ hz1 hS1 hf2 hb2 HP1
 cases NG with
 | bad k er =>
  have hGe:=Hd (show GG=.bad k er from hGG.out.symm);have hP0:=hPbad k er rfl;subst hP0;obtain ⟨hk,h0e,hRe⟩:=(hS2:StEr w2 g s nv k er)
  have CT:=Hd (qe5 g (s.size-k) s nv er 47 w2 hRe h0e);have hSs:=Hd (show StGr (α:=Rat) w2 g s nv (.bad k er) from ⟨hk,h0e,hRe⟩);clear hPok hPbad hRe h0e hGG;go_wp2_with fail;refine CT.out.mono ?_;rintro e w3 ⟨rfl,hb3⟩;have hz3:=Hd (hz2.out.below' hb3);have hf3:=Hd (hf3'.out.call hb3);have hSt:=Hd (show StGr w3 g s nv GG by rw [hGe.out];exact hSs.out.below hb3);have HP3:=Hd ((HP2.out.call hb3).now);have HQ3:=Hd (HQ2.out.ext (xbw hb3));have hQs:=hl1;clear CT hb3 hz2 hf3' hSs HP2 HQ2
  -- numerator P,denominator Q;world w3
  have CM:=Hd (qgj 0 1 a1 a2 c1 c2 w3 HP3.out HQ3.out hPs.out hQs.out);go_wp2_with fail;refine CM.out.mono ?_;rintro e w6 ⟨y,rfl,hK6,hb6⟩;have hz6:=hz3.out.below' hb6;have hS6:=hSt.out.below hb6;have hf6:=hf3.out.call hb6;obtain ⟨y0,y1,y2⟩:=cq3 hz6;obtain ⟨f0,f1,f2⟩:=fq3 hz6;have hgl3:=hz6.lt;have hg25:=hz3.out.lt;have hSE:=Hd ((((hS6.set_ (g2:=g2) (i:=0) (u:=.bool y.neg) (by have:=hgg.out;omega)).set_ (g2:=g2) (i:=1) (u:=.slice y.a y.n y.c) (by have:=hgg.out;omega)).set_ (g2:=g2) (i:=2) (u:=.slice y.b y.m y.d) (by have:=hgg.out;omega)));have hfE:=Hd ((((hf6.setc (g:=g2) (i:=0) (u:=.bool y.neg) (.inr hg2w.out)).setc (g:=g2) (i:=1) (u:=.slice y.a y.n y.c) (.inr hg2w.out)).setc (g:=g2) (i:=2) (u:=.slice y.b y.m y.d) (.inr hg2w.out)));have hFz:=Hd (blk3 (x:=.bool y.neg) (y:=.slice y.a y.n y.c) (z:=.slice y.b y.m y.d) hz6)
  have hKE:=Hd ((((hK6.setc (g:=g2) (i:=0) (u:=.bool y.neg) (.inl hg25)).setc (g:=g2) (i:=1) (u:=.slice y.a y.n y.c) (.inl hg25)).setc (g:=g2) (i:=2) (u:=.slice y.b y.m y.d) (.inl hg25)));have hs5:=Hd hf3.out.size;clear CM hz6 hS6 hf6 hK6 hg25 hb6;go_wp2;have hFF:=hFz.out;obtain ⟨e0,e1,e2⟩:=cq3 hFF;refine bodyPost_ret (v:=.agg #[.bool y.neg,.slice y.a y.n y.c,.slice y.b y.m y.d]) (by simp [results,Tryz.results119,go_sem,e0,e1,e2]) rfl ?_;exact ⟨⟨y,_,rfl,hKE.out.wide hs5.out (by simp),(fun q' r e=>by rw [hGe.out] at e;cases e)⟩,hSE.out,hfE.out⟩
 | ok d r =>
  have hPd:=hPok d r rfl;have hG1:GG=if r[0]? = some 47 then (numG (r.drop 1)).bnd fun q r2=>if decL q=0 then .bad (r.drop 1).length 3 else .ok (qv false (decL d) (decL q)) r2 else .ok (qv false (decL d) 1) r:=hGG.out.symm
  rw [<- hPd] at hG1;obtain ⟨p1,hp1,hr1,hR1⟩:=(hS2:StRr w2 g s nv r)
  rw [hr1] at hG1;have hst:=qb3 (tl s p1) 47 (z:=47) rfl;obtain ⟨bp,hbp⟩:∃ b,nxtB (tl s p1) 47=b:=⟨_,rfl⟩
  rw [hbp] at hst
  cases bp
  ·
   have h47:¬ (tl s p1)[0]? = some 47:=by simpa using hst.symm
   rw [if_neg h47] at hG1;have CT:=Hd (qds g p1 s nv 47 w2 hR1 hp1 hs hbp);have hR1':=Hd hR1;have hG2:=Hd hG1;clear hPok hPbad hPd hG1 hGG hr1 hR1 hst hbp h47;go_wp2_with fail;refine CT.out.mono ?_;rintro e w3 ⟨rfl,hb3⟩;have hz3:=Hd (hz2.out.below' hb3);have hf3:=Hd (hf3'.out.call hb3);have hSt:=Hd (show StGr w3 g s nv GG by rw [hG2.out];exact ⟨p1,hp1,rfl,hR1'.out.below hb3⟩);have HP3:=Hd ((HP2.out.call hb3).now);have HQ3:=Hd (HQ2.out.ext (xbw hb3));have hQs:=hl1;clear CT hb3 hz2 hf3' HP2 HQ2 hR1'
   -- numerator P,denominator Q;world w3
   have CM:=Hd (qgj P 1 a1 a2 c1 c2 w3 HP3.out HQ3.out hPs.out hQs.out);go_wp2_with fail;refine CM.out.mono ?_;rintro e w6 ⟨y,rfl,hK6,hb6⟩;have hz6:=hz3.out.below' hb6;have hS6:=hSt.out.below hb6;have hf6:=hf3.out.call hb6;obtain ⟨y0,y1,y2⟩:=cq3 hz6;obtain ⟨f0,f1,f2⟩:=fq3 hz6;have hgl3:=hz6.lt;have hg25:=hz3.out.lt;have hSE:=Hd ((((hS6.set_ (g2:=g2) (i:=0) (u:=.bool y.neg) (by have:=hgg.out;omega)).set_ (g2:=g2) (i:=1) (u:=.slice y.a y.n y.c) (by have:=hgg.out;omega)).set_ (g2:=g2) (i:=2) (u:=.slice y.b y.m y.d) (by have:=hgg.out;omega)));have hfE:=Hd ((((hf6.setc (g:=g2) (i:=0) (u:=.bool y.neg) (.inr hg2w.out)).setc (g:=g2) (i:=1) (u:=.slice y.a y.n y.c) (.inr hg2w.out)).setc (g:=g2) (i:=2) (u:=.slice y.b y.m y.d) (.inr hg2w.out)));have hFz:=Hd (blk3 (x:=.bool y.neg) (y:=.slice y.a y.n y.c) (z:=.slice y.b y.m y.d) hz6)
   have hKE:=Hd ((((hK6.setc (g:=g2) (i:=0) (u:=.bool y.neg) (.inl hg25)).setc (g:=g2) (i:=1) (u:=.slice y.a y.n y.c) (.inl hg25)).setc (g:=g2) (i:=2) (u:=.slice y.b y.m y.d) (.inl hg25)));have hs5:=Hd hf3.out.size;clear CM hz6 hS6 hf6 hK6 hg25 hb6;go_wp2;have hFF:=hFz.out;obtain ⟨e0,e1,e2⟩:=cq3 hFF;refine bodyPost_ret (v:=.agg #[.bool y.neg,.slice y.a y.n y.c,.slice y.b y.m y.d]) (by simp [results,Tryz.results119,go_sem,e0,e1,e2]) rfl ?_;exact ⟨⟨y,_,rfl,hKE.out.wide hs5.out (by simp),(fun q' r e=>by rw [hG2.out] at e;injection e)⟩,hSE.out,hfE.out⟩
  ·
   have h47:(tl s p1)[0]? = some 47:=by simpa using hst.symm
   have hp1l:p1<s.size:=by
    apply Nat.lt_of_not_le;intro hle;rw [qbn hle] at h47
    cases h47
   rw [if_pos h47,qbi] at hG1;have CT:=Hd (qdt g p1 s nv 47 w2 hR1 hp1 hs hbp);have hG2:=Hd hG1;clear hPok hPbad hPd hG1 hGG hr1 hR1 hst hbp h47 HQ2;go_wp2_with fail;refine CT.out.mono ?_;rintro e w3 ⟨rfl,hR3,hf4⟩;have hz3':=Hd (show Blk w3 g2 76 #[.bool false,.slice none 0 0,.slice none 0 0] from Blk.fr hz2.out hf4 (by have:=hgg.out;omega));have hf5:=Hd (hf3'.out.trans hf4);have HP3:=Hd (HP2.out.step hf4.agr);have hR3k:=Hd hR3;have z2:=hR3.cell 2;have hl3:=hR3.lt;have CN2:=Hd (qgu g (p1+1) s nv w3 hR3 (by omega) hs);obtain ⟨QG,hQG⟩:∃ G,numG (tl s (p1+1))=G:=⟨_,rfl⟩
   have hG3:=hG2.out;rw [hQG] at CN2 hG3;rw [qaq] at hG3;replace hG3:=Hd hG3;have CN3:=Hd CN2.out;obtain ⟨from_,hfr⟩:∃ q,p1+1=q:=⟨_,rfl⟩
   rw [hfr] at z2 hG3;have hfr':=Hd hfr;clear hR3 hf4 hf3' hz2 HP2 CN2 hQG hG2 CT hfr;go_wp2_with fail;refine CN3.out.mono ?_;rintro e w4 ⟨⟨a2,c2,Q,rfl,hVQ,hQl,hQok,hQbad⟩,hS4,hf6⟩;have hz4:=Hd (show Blk w4 g2 76 #[.bool false,.slice none 0 0,.slice none 0 0] from Blk.fr hz3'.out hf6 (by have:=hgg.out;omega));have hf7:=Hd (hf5.out.trans hf6);have HP4:=Hd (HP3.out.step hf6.agr);have HQ4:=Hd (show Rd (fun b=>b=g) w4 (fun V=>NatR V a2 c2 (limbs Q)) from Rd.made hVQ fun b hb=>by subst hb;exact .inl hR3k.out.lt);have hQs:=Hd hQl;clear hz3' hf5 HP3 hVQ hQl hf6 CN3 z2 hl3 hR3k;by_cases hQ0:Q=0
   ·
    subst hQ0;have hl0:(((limbs 0).length:Int)==0)=true:=by rw [qh8];rfl
    have hl00:(limbs 0).length=0:=qh8;obtain ⟨T,hT⟩:∃ T,(limbs 0).length=T:=⟨_,rfl⟩
    rw [hT] at hl0 hl00;rw [hT]
    cases QG with
    | bad k er =>
     have hGe:=Hd (show GG=.bad k er from hG3.out);obtain ⟨hk,h0e,hRe⟩:=(hS4:StEr w4 g s nv k er)
     have CF:=Hd (qqg g (s.size-k) s nv er 3 (from_:Int) w4 hRe h0e);have hSs:=Hd (show StGr (α:=Rat) w4 g s nv (.bad k er) from ⟨hk,h0e,hRe⟩);replace hT:=Hd hT;replace hl00:=Hd hl00;clear hQok hQbad hRe h0e hG3;go_wp2_with fail;refine CF.out.mono ?_;rintro e w5 ⟨rfl,rfl⟩;have hz3:=hz4;have hf3:=hf7;have hSt:=Hd (show StGr w4 g s nv GG by rw [hGe.out];exact hSs.out);rw [<- hT.out];clear CF hSs hl0 hl00 hT
     -- numerator P,denominator Q;world w4
     have CM:=Hd (qgj P 0 a1 a2 c1 c2 w4 HP4.out.now HQ4.out.now hPs.out hQs.out);go_wp2_with fail;refine CM.out.mono ?_;rintro e w6 ⟨y,rfl,hK6,hb6⟩;have hz6:=hz3.out.below' hb6;have hS6:=hSt.out.below hb6;have hf6:=hf3.out.call hb6;obtain ⟨y0,y1,y2⟩:=cq3 hz6;obtain ⟨f0,f1,f2⟩:=fq3 hz6;have hgl3:=hz6.lt;have hg25:=hz3.out.lt;have hSE:=Hd ((((hS6.set_ (g2:=g2) (i:=0) (u:=.bool y.neg) (by have:=hgg.out;omega)).set_ (g2:=g2) (i:=1) (u:=.slice y.a y.n y.c) (by have:=hgg.out;omega)).set_ (g2:=g2) (i:=2) (u:=.slice y.b y.m y.d) (by have:=hgg.out;omega)));have hfE:=Hd ((((hf6.setc (g:=g2) (i:=0) (u:=.bool y.neg) (.inr hg2w.out)).setc (g:=g2) (i:=1) (u:=.slice y.a y.n y.c) (.inr hg2w.out)).setc (g:=g2) (i:=2) (u:=.slice y.b y.m y.d) (.inr hg2w.out)));have hFz:=Hd (blk3 (x:=.bool y.neg) (y:=.slice y.a y.n y.c) (z:=.slice y.b y.m y.d) hz6)
     have hKE:=Hd ((((hK6.setc (g:=g2) (i:=0) (u:=.bool y.neg) (.inl hg25)).setc (g:=g2) (i:=1) (u:=.slice y.a y.n y.c) (.inl hg25)).setc (g:=g2) (i:=2) (u:=.slice y.b y.m y.d) (.inl hg25)));have hs5:=Hd hf3.out.size;clear CM hz6 hS6 hf6 hK6 hg25 hb6;go_wp2;have hFF:=hFz.out;obtain ⟨e0,e1,e2⟩:=cq3 hFF;refine bodyPost_ret (v:=.agg #[.bool y.neg,.slice y.a y.n y.c,.slice y.b y.m y.d]) (by simp [results,Tryz.results119,go_sem,e0,e1,e2]) rfl ?_;exact ⟨⟨y,_,rfl,hKE.out.wide hs5.out (by simp),(fun q' r e=>by rw [hGe.out] at e;cases e)⟩,hSE.out,hfE.out⟩
    | ok d2 r2 =>
     have hd0:=hQok d2 r2 rfl;have hGe:=Hd (show GG=.bad (s.size-from_) 3 from by have:=hG3.out;rw [this];show (if decL d2=0 then _ else _)=_;rw [if_pos hd0.symm]);obtain ⟨p2,hp2,hr2,hR2⟩:=(hS4:StRr w4 g s nv r2)
     have CF:=Hd (qdj g p2 from_ s nv 3 w4 hR2);replace hT:=Hd hT;replace hl00:=Hd hl00;clear hQok hQbad hR2 hG3 hd0 hr2;go_wp2_with fail;refine CF.out.mono ?_;rintro e w5 ⟨rfl,hR5,hf8⟩;have hz3:=Hd (show Blk w5 g2 76 #[.bool false,.slice none 0 0,.slice none 0 0] from Blk.fr hz4.out hf8 (by have:=hgg.out;omega));have hf3:=Hd (hf7.out.trans hf8);have HP5:=Hd (HP4.out.step hf8.agr);have HQ5:=Hd (HQ4.out.step hf8.agr);have hSt:=Hd (show StGr w5 g s nv GG by rw [hGe.out];exact ⟨by omega,by decide,by rw [show s.size-(s.size-from_)=from_ by have:=hfr'.out;omega];exact hR5⟩);rw [<- hT.out];clear CF hl0 hl00 hT hz4 hf7 HP4 HQ4 hf8 hR5
     -- numerator P,denominator Q;world w5
     have CM:=Hd (qgj P 0 a1 a2 c1 c2 w5 HP5.out.now HQ5.out.now hPs.out hQs.out);go_wp2_with fail;refine CM.out.mono ?_;rintro e w6 ⟨y,rfl,hK6,hb6⟩;have hz6:=hz3.out.below' hb6;have hS6:=hSt.out.below hb6;have hf6:=hf3.out.call hb6;obtain ⟨y0,y1,y2⟩:=cq3 hz6;obtain ⟨f0,f1,f2⟩:=fq3 hz6;have hgl3:=hz6.lt;have hg25:=hz3.out.lt;have hSE:=Hd ((((hS6.set_ (g2:=g2) (i:=0) (u:=.bool y.neg) (by have:=hgg.out;omega)).set_ (g2:=g2) (i:=1) (u:=.slice y.a y.n y.c) (by have:=hgg.out;omega)).set_ (g2:=g2) (i:=2) (u:=.slice y.b y.m y.d) (by have:=hgg.out;omega)));have hfE:=Hd ((((hf6.setc (g:=g2) (i:=0) (u:=.bool y.neg) (.inr hg2w.out)).setc (g:=g2) (i:=1) (u:=.slice y.a y.n y.c) (.inr hg2w.out)).setc (g:=g2) (i:=2) (u:=.slice y.b y.m y.d) (.inr hg2w.out)));have hFz:=Hd (blk3 (x:=.bool y.neg) (y:=.slice y.a y.n y.c) (z:=.slice y.b y.m y.d) hz6)
     have hKE:=Hd ((((hK6.setc (g:=g2) (i:=0) (u:=.bool y.neg) (.inl hg25)).setc (g:=g2) (i:=1) (u:=.slice y.a y.n y.c) (.inl hg25)).setc (g:=g2) (i:=2) (u:=.slice y.b y.m y.d) (.inl hg25)));have hs5:=Hd hf3.out.size;clear CM hz6 hS6 hf6 hK6 hg25 hb6;go_wp2;have hFF:=hFz.out;obtain ⟨e0,e1,e2⟩:=cq3 hFF;refine bodyPost_ret (v:=.agg #[.bool y.neg,.slice y.a y.n y.c,.slice y.b y.m y.d]) (by simp [results,Tryz.results119,go_sem,e0,e1,e2]) rfl ?_;exact ⟨⟨y,_,rfl,hKE.out.wide hs5.out (by simp),(fun q' r e=>by rw [hGe.out] at e;cases e)⟩,hSE.out,hfE.out⟩
   ·
    have hlz:0<(limbs Q).length:=qap.2 (by omega);have hl0:(((limbs Q).length:Int)==0)=false:=by rw [beq_eq_false_iff_ne];omega
    have hl00:((limbs Q).length==0)=false:=by rw [beq_eq_false_iff_ne];omega
    cases QG with
    | bad k er=>exact absurd (hQbad k er rfl) hQ0
    | ok d2 r2 =>
     have hd0:=hQok d2 r2 rfl;have hGe:=Hd (show GG=.ok (qv false P Q) r2 from by have:=hG3.out;rw [this];show (if decL d2=0 then _ else _)=_;rw [<- hd0,if_neg hQ0]);have hS5:=Hd (show StGr w4 g s nv GG by rw [hGe.out];exact hS4);replace hQ0:=Hd hQ0;obtain ⟨T,hT⟩:∃ T,(limbs Q).length=T:=⟨_,rfl⟩
     rw [hT] at hl0 hl00;rw [hT];have hT':=Hd hT;clear hQok hQbad hG3 hd0 hS4 hlz hT;have hz3:=hz4;have hf3:=hf7;have hSt:=hS5;have CM0:=qgj P Q a1 a2 c1 c2 w4 HP4.out.now HQ4.out.now hPs.out hQs.out;rw [hT'.out] at CM0;have CM:=Hd CM0;clear CM0 hz4 hf7 hS5;go_wp2_with fail;refine CM.out.mono ?_;rintro e w6 ⟨y,rfl,hK6,hb6⟩;have hz6:=hz3.out.below' hb6;have hS6:=hSt.out.below hb6;have hf6:=hf3.out.call hb6;obtain ⟨y0,y1,y2⟩:=cq3 hz6;obtain ⟨f0,f1,f2⟩:=fq3 hz6;have hgl3:=hz6.lt;have hg25:=hz3.out.lt;have hSE:=Hd ((((hS6.set_ (g2:=g2) (i:=0) (u:=.bool y.neg) (by have:=hgg.out;omega)).set_ (g2:=g2) (i:=1) (u:=.slice y.a y.n y.c) (by have:=hgg.out;omega)).set_ (g2:=g2) (i:=2) (u:=.slice y.b y.m y.d) (by have:=hgg.out;omega)))
     have hfE:=Hd ((((hf6.setc (g:=g2) (i:=0) (u:=.bool y.neg) (.inr hg2w.out)).setc (g:=g2) (i:=1) (u:=.slice y.a y.n y.c) (.inr hg2w.out)).setc (g:=g2) (i:=2) (u:=.slice y.b y.m y.d) (.inr hg2w.out)));have hFz:=Hd (blk3 (x:=.bool y.neg) (y:=.slice y.a y.n y.c) (z:=.slice y.b y.m y.d) hz6);have hKE:=Hd ((((hK6.setc (g:=g2) (i:=0) (u:=.bool y.neg) (.inl hg25)).setc (g:=g2) (i:=1) (u:=.slice y.a y.n y.c) (.inl hg25)).setc (g:=g2) (i:=2) (u:=.slice y.b y.m y.d) (.inl hg25)));have hs5:=Hd hf3.out.size;clear CM hz6 hS6 hf6 hK6 hg25 hb6;go_wp2;have hFF:=hFz.out;obtain ⟨e0,e1,e2⟩:=cq3 hFF;refine bodyPost_ret (v:=.agg #[.bool y.neg,.slice y.a y.n y.c,.slice y.b y.m y.d]) (by simp [results,Tryz.results119,go_sem,e0,e1,e2]) rfl ?_;exact ⟨⟨y,_,rfl,hKE.out.wide hs5.out (by simp),(fun q' r e=>by rw [hGe.out] at e;injection e)⟩,hSE.out,hfE.out⟩
end Go.Proofs.YtnilkimcdgmgkaaGreatDoor
