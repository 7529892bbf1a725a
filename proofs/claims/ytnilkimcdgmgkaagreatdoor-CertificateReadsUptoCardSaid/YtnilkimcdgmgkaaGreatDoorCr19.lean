/- How large the numbers of a sum of terms become, plain. -/
import Derived.Test.YtnilkimcdgmgkaaGreatDoorCr17
import Derived.Test.YtnilkimcdgmgkaaGreatDoorCr18
import Derived.Test.YtnilkimcdgmgkaaGreatDoorCr1
import Derived.Deep.CutRange
import Derived.Test.YtnilkimcdgmgkaaGreatDoorCr10
import Derived.Test.YtnilkimcdgmgkaaGreatDoorCr15
import Derived.Test.YtnilkimcdgmgkaaGreatDoorCr11
import Derived.Test.YtnilkimcdgmgkaaGreatDoorCr13
set_option linter.all false
set_option maxRecDepth 100000
set_option maxHeartbeats 4000000
namespace Go.Proofs.YtnilkimcdgmgkaaGreatDoor
open Go.RowKit
theorem qgw {α:Type} {f:α->List Value} {sz:Nat} {ty:TypeId} {B g:Nat} {w w':World} {a:Option Addr} {c:Nat} {l:List α} (h:Own f sz ty B w a c l) (k:Fg g w w') (hg:g<B):Own f sz ty B w' a c l :=
 h.grown (row:=some g) ⟨k.os,k.tape,k.output,k.size,fun i hi hne=>k.block i hi (fun e=>hne (by rw [e]))⟩ (fun q hq e=>by have:=(h.lt hq).1;injection e with e;omega)
theorem qvj (x:QA) (q:Rat) (k:Nat) (w:World) (H:QK k w x q) (hk:k<=100000):Calls Tryz.prog 94 #[.agg #[.bool x.neg,.slice x.a x.n x.c,.slice x.b x.m x.d]] w (RetQK k (-q) w):=by
 have hz:=H.2;obtain ⟨s1,n1,a1,c1,m1,b1,d1⟩:=x;obtain ⟨⟨e1,e2,e3,r1,r2⟩,z1⟩:=H;dsimp only at e1 e2 e3 r1 r2 ⊢;subst e1 e2 e3;have l1:=qbm q;have l2:=qbj q;have:=qac0 (decide (q.num<0)) (limbs q.num.natAbs) (limbs q.den) q.num.natAbs q.den a1 b1 c1 d1 w r1 r2 (qaa _) (qaa _) (by omega) (by omega) q.den_nz;refine this.mono fun e w' h=>qd6 (by rw [qfb];exact hz) ?_
 have e1:qao (!(decide (q.num<0))) q.num.natAbs q.den=trip (-q):=by
  rw [qbo];congr 1;rw [qxw,qb2]
 rwa [e1] at h
def RetS (X:Nat->Prop) (G:Got (List Tm)) (g mb:Nat) (s:ByteArray) (w:World) (e:Ending) (w':World):Prop:=∃ ra n rc,e=.returned (.slice ra n rc)/\(∀ L r,G=.ok L r->n=L.length/\PolX X w' ra rc L/\∀ u∈L,qsz u.1<=1000)/\StG w' g s mb G/\Fg g w w'
theorem StE.alloc2 {w:World} {g mb k:Nat} {s:ByteArray} {e:Int} (h:StE w g s mb k e) (o:Obj):StE (w.alloc o) g s mb k e:=by obtain ⟨a,h1,h2,h3,h4⟩:=h;exact ⟨a,h1,h2,h3,bA h4⟩
theorem qj2 {w w' W0:World} {g mb a B:Nat} {s:ByteArray} {e b:Int} {ra:Option Addr} {rc:Nat} {lo:List TQ} (h:RdA w g s mb a e b) (ho:OwnT B W0 ra rc lo) (hg:g<B) (hgr:w.grownBy w' (Value.ownBlock (.slice ra lo.length rc))):RdA w' g s mb a e b:=Blk.under h ho hg hgr
theorem qn6 {w w' W0:World} {g mb k B:Nat} {s:ByteArray} {e:Int} {ra:Option Addr} {rc:Nat} {lo:List TQ} (h:StE w g s mb k e) (ho:OwnT B W0 ra rc lo) (hg:g<B) (hgr:w.grownBy w' (Value.ownBlock (.slice ra lo.length rc))):StE w' g s mb k e:=by obtain ⟨a,h1,h2,h3,h4⟩:=h;exact ⟨a,h1,h2,h3,qj2 h4 ho hg hgr⟩
theorem qmu {X:Nat->Prop} {w:World} {R:World->Prop} (h:Rd X w R):Rd (fun b=>X b\/b=w.heap.size) w R:=h.more fun b hb=>hb.elim .inl fun e=>.inr (by omega)
theorem qmz {l d r:List UInt8} (h:numG l=.ok d r):r.length<=l.length:=by
 unfold numG at h
 split at h
 · exact absurd h fun e=>qc4 e
 ·
  split at h
  · cases h
  · injection h with h1 h2;subst h2;rw [List.length_drop];omega
theorem zz59 {P:Prop} (h:P:=by
 obtain ⟨d2,r2,h3,h4⟩:=qbd h2;have e2:=qmz h3
 split at h4
 · cases h4
 · injection h4 with h5 h6;subst h6;rw [List.length_drop] at e2;omega
 ):P:=h
theorem qae0 {l r:List UInt8} {q:Rat} (h:cofG l=.ok q r):r.length<=l.length:=by
 unfold cofG at h;obtain ⟨d,r1,h1,h2⟩:=qbd h;have e1:=qmz h1
 split at h2
 ·
  exact zz59
 · injection h2 with h3 h4;subst h4;exact e1
theorem qae1 {names:List ByteArray} {l r:List UInt8} {p:Nat × Int} (h:powG names l=.ok p r):r.length<=l.length:=by
 unfold powG at h;obtain ⟨v,r1,h1,h2⟩:=qbd h;have e1:=qhf h1
 split at h2
 ·
  exact zz59
 · injection h2 with h3 h4;subst h4;omega
theorem qm0 {names:List ByteArray} {F:Nat}:∀ {n:Nat} {m m':List Int} {l r:List UInt8},proG names F n m l=.ok m' r->r.length<=l.length
 | 0,_,_,_,_,h=>by cases h
 | n+1,m,m',l,r,h=>by
  rw [proG] at h;obtain ⟨p,r1,h1,h2⟩:=qbd h;have e1:=qae1 h1
  split at h2
  · cases h2
  ·
   split at h2
   · have e2:=qm0 h2;rw [List.length_drop] at e2;omega
   · injection h2 with h3 h4;subst h4;exact e1
theorem qsv {names:List ByteArray} {F:Nat} {q:Rat} {l r:List UInt8} {u:Tm} (h:monG names F q l=.ok u r):r.length<=l.length:=by
 unfold monG at h;obtain ⟨p,r1,h1,h2⟩:=qbd h;injection h2 with h3 h4;subst h4;exact qm0 h1
theorem qta {names:List ByteArray} {l r:List UInt8} {u:Tm} (h:terG names l=.ok u r):r.length<=l.length:=by
 unfold terG at h
 split at h
 · exact qsv h
 ·
  obtain ⟨q,r1,h1,h2⟩:=qbd h;have e1:=qae0 h1
  split at h2
  · have e2:=qsv h2;rw [List.length_drop] at e2;omega
  · injection h2 with h3 h4;subst h4;exact e1
theorem zz58 {P:Prop} (h:P:=by
 rintro e w' ⟨rfl,rfl⟩;go_wp2_with fail;refine (T1.out 32).mono ?_;rintro e w' ⟨rfl,rfl⟩;have hSE9:=hSE9'.out
 -- nothing is returned: in world W9_,behind an error (hGe:SG=.bad k er)
 obtain ⟨pe,hpe,hke,h0e,hRe⟩:=hSE9;have hzE:(er==0)=false:=by rw [beq_eq_false_iff_ne];exact h0e
 have hzE2:(er != 0)=true:=by rw [bne,hzE];rfl
 obtain ⟨z0,z1,z2,z3,z4⟩:=cq5 hRe;have hl9:=Blk.lt hRe;have hRe9:=Hd hRe;replace h0e:=Hd h0e;clear hRe;go_wp2;go_ret;exact ⟨none,0,0,rfl,fun L r e=>(by cases hGe.out.symm.trans e),by rw [hGe.out];exact ⟨pe,hpe,hke,h0e.out,hRe9.out⟩,hF9.out⟩
 ):P:=h
theorem zz56 {P:Prop} (h:P:=by
 by_cases hend:p1=s.size
 ·
  have hGe:=Hd (show SG=.ok acc2 (tl s p1) from by rw [hG2.out,if_pos (by rw [hr1.out,qaq];omega),hr1.out]);have hendb:((p1:Int)==(s.size:Int))=true:=by rw [beq_iff_eq];omega
  have hP:=Hd (show PolX X w6.drew ra2 rc2 acc2 from OwnT.pol (w:=w6.drew) ho6 (hA6) hX.out);obtain ⟨z0,z1,z2,z3,z4⟩:=cq5 hR6;have hl9:=Blk.lt hR6;have hR9:=Hd (show RdA w6.drew g s mb p1 0 0 from hR6);have hf9:=Hd (show Fg g w w6.drew from hf6.call (brf.drew));replace hend:=Hd hend;clear hR6 hf6 hA6 ho6;go_wp2;refine wrx (S:=(fun x=>x=w6.drew)) [(0,.q),(1,.q),(2,.q),(3,.q),(4,.q),(5,.q),(6,.q),(7,.q),(8,.q),(9,.q),(10,.q),(11,.q),(12,.q),(13,.q),(14,.q),(15,.p),(16,.p)] (rfl) ?_
  iterate 15 (refine qab rfl rfl fun K hK=>xq ?_;go_simp;refine hK _ _ ?_;clear hK K)
  iterate 2 (refine qae rfl rfl fun K hK=>xp ?_;go_simp;refine hK _ _ ?_;clear hK K)
  refine qac ?_;go_wp2;go_ret;exact ⟨_,_,_,rfl,fun L r e=>(by injection hGe.out.symm.trans e with e1 e2;subst e1;exact ⟨ha2.out.2.1.symm,hP.out,ha2.out.2.2⟩),by rw [hGe.out];exact ⟨p1,hp1,rfl,hR9.out⟩,hf9.out⟩
 ·
  have hendb:((p1:Int)==(s.size:Int))=false:=by rw [beq_eq_false_iff_ne];omega
  have hG3:=Hd (show SG=(sepG (tl s p1)).bnd fun ng' r'=>sumG names f ng' acc2 r' from by rw [hG2.out,if_neg (by rw [hr1.out,qaq];omega),hr1.out]);have HC:=Hd (fun W (hW:Fg g w6 W)=>(⟨qgw ho6 hW hlg.out,hA6.step (hW.agr.mono fun b hb=>.inl (hXg.out b hb)),hf6.trans hW⟩:OwnT w.heap.size W ra2 rc2 lo2/\AllT (Xr X ra2) W lo2 acc2/\Fg g w W));obtain ⟨z0,z1,z2,z3,z4⟩:=cq5 hR6;have hl9:=Blk.lt hR6;have hR7:RdA w6.drew g s mb p1 0 0:=hR6;have hf7:Fg g w6 w6.drew:=Fr.below (brf.drew);have C1:=Hd (qgr g mb p1 s 32 32 rfl w6.drew hR7 hp1 hs);replace hf7:=Hd hf7;clear hR6 hf6 hA6 ho6 hR7 hG2;go_wp2;refine wrx (S:=(fun x=>x=w6.drew)) [(0,.q),(1,.q),(2,.q),(3,.q),(4,.q),(5,.q),(6,.q),(7,.q),(8,.q),(9,.q),(10,.q),(11,.q),(12,.q),(13,.q),(14,.q),(15,.p),(16,.p)] (rfl) ?_
  iterate 15 (refine qab rfl rfl fun K hK=>xq ?_;go_simp;refine hK _ _ ?_;clear hK K)
  iterate 2 (refine qae rfl rfl fun K hK=>xp ?_;go_simp;refine hK _ _ ?_;clear hK K)
  refine qac ?_;go_wp2_with fail;refine C1.out.mono ?_;rintro e w8 ⟨rfl,hS8,hf8'⟩;have hf8:=hf7.out.trans hf8';clear C1 hf8' hf7 z0 z1 z2 z3 z4 hl9;have hsp:sepG (tl s p1)=(eatG 32 (tl s p1)).bnd fun _ r=>if r[0]? = some 45 then (eatG 32 (r.drop 1)).bnd fun _ r'=>.ok true r' else (eatG 43 r).bnd fun _ r1=>(eatG 32 r1).bnd fun _ r2=>.ok false r2:=rfl
  obtain ⟨E1,hE1⟩:∃ G,eatG 32 (tl s p1)=G:=⟨_,rfl⟩
  have hl1:=Hd (fun r (e:E1=.ok () r)=>qbp (hE1.trans e));rw [hE1] at hsp hS8;have hG4:=Hd (hG3.out.trans (congrArg (fun z:Got Bool=>z.bnd fun ng' r'=>sumG names f ng' acc2 r') hsp));clear hG3 hsp hE1
  cases E1 with
  | bad k er =>
   have hGe:=Hd (show SG=.bad k er from hG4.out);obtain ⟨pe,hpe,hke,h0e,hRe⟩:=(hS8:StE w8 g s mb k er)
   have CP:=Hd (qck g mb pe s er ((s.size-k:Nat):Int) 45 w8 hRe hpe hs);obtain ⟨bq,hbq⟩:∃ b,nxtB (tl s pe) 45=b:=⟨_,rfl⟩
   rw [hbq] at CP;replace h0e:=Hd h0e;clear hbq hG4;go_wp2_with fail;refine CP.out.mono ?_;rintro e w9 ⟨rfl,hb9⟩;have hR9:=hRe.below hb9;have hf9:=hf8.call hb9;have T1:=Hd (fun z=>qsu g mb pe s z er ((s.size-k:Nat):Int) w9 hR9 h0e.out);have hSE9':=Hd (show StE w9 g s mb k er from ⟨pe,hpe,hke,h0e.out,hR9⟩);have hF9:=Hd (HC.out w9 hf9).2.2;clear CP hRe hb9 hR9 hf9 hf8
   cases bq
   ·
    go_wp2_with fail;refine (T1.out 43).mono ?_;exact zz58
   ·
    go_wp2_with fail;refine (T1.out 45).mono ?_;exact zz58
  | ok uu r2 =>
   obtain ⟨p2,hp2,hr2,hR8⟩:=(hS8:StR w8 g s mb r2)
   have hlt2:=hl1.out r2 rfl;rw [hr2,qaq,qaq] at hlt2;have hG5:SG=(if r2[0]? = some 45 then (eatG 32 (r2.drop 1)).bnd fun _ r'=>.ok true r' else (eatG 43 r2).bnd fun _ r1=>(eatG 32 r1).bnd fun _ r2=>(.ok false r2:Got Bool)).bnd fun ng' r'=>sumG names f ng' acc2 r':=hG4.out
   rw [hr2] at hG5;have CP:=Hd (qck g mb p2 s 0 0 45 w8 hR8 hp2 hs);have hst:=qb3 (tl s p2) 45 (z:=45) rfl;obtain ⟨bq,hbq⟩:∃ b,nxtB (tl s p2) 45=b:=⟨_,rfl⟩
   rw [hbq] at CP hst;replace hbq:=Hd hbq;replace hst:=Hd hst;replace hG5:=Hd hG5;replace hr2:=Hd hr2;clear hG4;go_wp2_with fail;refine CP.out.mono ?_;rintro e w9 ⟨rfl,hb9⟩;have hR9:=hR8.below hb9;have hf9:=hf8.call hb9;clear CP hR8 hb9 hf8
   cases bq
   ·
    have h45:¬ (tl s p2)[0]? = some 45:=by have:=hst.out;simpa using this.symm
    have hG6:=hG5.out;rw [if_neg h45] at hG6;have C2:=Hd (qgr g mb p2 s 43 43 rfl w9 hR9 hp2 hs);obtain ⟨E2,hE2⟩:∃ G,eatG 43 (tl s p2)=G:=⟨_,rfl⟩
    have hl2:=Hd (fun r (e:E2=.ok () r)=>qbp (hE2.trans e));rw [hE2] at C2 hG6;replace hG6:=Hd hG6;clear hE2 h45 hR9;go_wp2_with fail;refine C2.out.mono ?_;rintro e w10 ⟨rfl,hS10,hf10'⟩;have hf10:=hf9.trans hf10';clear C2 hf9 hf10'
    cases E2 with
    | bad k er =>
     have hGe:=Hd (show SG=.bad k er from hG6.out);obtain ⟨pe,hpe,hke,h0e,hRe⟩:=(hS10:StE w10 g s mb k er)
     have T1:=Hd (fun z=>qsu g mb pe s z er ((s.size-k:Nat):Int) w10 hRe h0e);have hSE9':=Hd (show StE w10 g s mb k er from ⟨pe,hpe,hke,h0e,hRe⟩);have hF9:=Hd (HC.out w10 hf10).2.2;clear hRe hf10 h0e;go_wp2_with fail;refine (T1.out 32).mono ?_;rintro e w' ⟨rfl,rfl⟩;have hSE9:=hSE9'.out
     -- nothing is returned: in world W9_,behind an error (hGe:SG=.bad k er)
     obtain ⟨pe,hpe,hke,h0e,hRe⟩:=hSE9;have hzE:(er==0)=false:=by rw [beq_eq_false_iff_ne];exact h0e
     have hzE2:(er != 0)=true:=by rw [bne,hzE];rfl
     obtain ⟨z0,z1,z2,z3,z4⟩:=cq5 hRe;have hl9:=Blk.lt hRe;have hRe9:=Hd hRe;replace h0e:=Hd h0e;clear hRe;go_wp2;go_ret;exact ⟨none,0,0,rfl,fun L r e=>(by cases hGe.out.symm.trans e),by rw [hGe.out];exact ⟨pe,hpe,hke,h0e.out,hRe9.out⟩,hF9.out⟩
    | ok uu r3 =>
     obtain ⟨p3,hp3,hr3,hR10⟩:=(hS10:StR w10 g s mb r3)
     have hlt3:=hl2.out r3 rfl;rw [hr3,qaq,qaq] at hlt3;have hG7:SG=((eatG 32 r3).bnd fun _ r2=>(.ok false r2:Got Bool)).bnd fun ng' r'=>sumG names f ng' acc2 r':=hG6.out
     rw [hr3] at hG7;clear hG6 hr3
     -- the blank behind the sign
     have C3:=Hd (qgr g mb p3 s 32 32 rfl w10 hR10 hp3 hs);obtain ⟨E3,hE3⟩:∃ G,eatG 32 (tl s p3)=G:=⟨_,rfl⟩
     have hl3:=Hd (fun r (e:E3=.ok () r)=>qbp (hE3.trans e));rw [hE3] at C3 hG7;replace C3:=Hd C3.out;clear hE3 hR10;go_wp2_with fail;refine C3.out.mono ?_;rintro e w11 ⟨rfl,hS11,hf11'⟩;have hf11:=hf10.trans hf11';clear C3 hf10 hf11'
     cases E3 with
     | bad k er =>
      have hGe:=Hd (show SG=.bad k er from hG7);have hSE9:StE w11 g s mb k er:=hS11;have hF9:=Hd (HC.out w11 hf11).2.2;clear hS11 hf11 hG7
      -- nothing is returned: in world W9_,behind an error (hGe:SG=.bad k er)
      obtain ⟨pe,hpe,hke,h0e,hRe⟩:=hSE9;have hzE:(er==0)=false:=by rw [beq_eq_false_iff_ne];exact h0e
      have hzE2:(er != 0)=true:=by rw [bne,hzE];rfl
      obtain ⟨z0,z1,z2,z3,z4⟩:=cq5 hRe;have hl9:=Blk.lt hRe;have hRe9:=Hd hRe;replace h0e:=Hd h0e;clear hRe;go_wp2;go_ret;exact ⟨none,0,0,rfl,fun L r e=>(by cases hGe.out.symm.trans e),by rw [hGe.out];exact ⟨pe,hpe,hke,h0e.out,hRe9.out⟩,hF9.out⟩
     | ok uu r4 =>
      obtain ⟨p4,hp4,hr4,hR11⟩:=(hS11:StR w11 g s mb r4)
      have hlt4:=hl3.out r4 rfl;rw [hr4,qaq,qaq] at hlt4;have hG8:=Hd (show SG=sumG names f false acc2 (tl s p4) from by rw [<- hr4];exact hG7);obtain ⟨z0,z1,z2,z3,z4⟩:=cq5 hR11;have hl11:=Blk.lt hR11;have hC2:=Hd (HC.out w11 hf11);have hR12:=Hd hR11;have hm:=Hd (show s.size-p4<s.size-p/\s.size-p4+1<=s.size-p from by have:=hlt3;have:=hlr.out;omega);clear hf11 hG7 hr4 hR11;go_wp2;go_roundg (s.size-p4+1)
      case rel=>exact ⟨p4,f,false,acc2,lo2,ra2,rc2,rfl,rfl,hp4,Nat.lt_succ_self _,by show (tl s p4).length<f;have:=hm.out;have:=hf.out;rw [qaq] at this ⊢;omega,hR12.out,hC2.out.1,hC2.out.2.1,ha2.out,hG8.out,hC2.out.2.2⟩
      case measure=>have:=hm.out;have:=hgk.out;omega
   ·
    have h45:(tl s p2)[0]? = some 45:=by have:=hst.out;simpa using this.symm
    have hG6:=hG5.out;rw [if_pos h45,qbi] at hG6;have hp2l:p2<s.size:=by
     apply Nat.lt_of_not_le;intro hle;rw [qbn hle] at h45
     cases h45
    have hE2:eatG 45 (tl s p2)=.ok () (tl s (p2+1)):=by unfold eatG;rw [if_pos h45,qbi]
    have C2:=qgr g mb p2 s 45 45 rfl w9 hR9 hp2 hs;rw [hE2] at C2;replace C2:=Hd C2;replace hG6:=Hd hG6;clear hE2 h45 hR9;go_wp2_with fail;refine C2.out.mono ?_;rintro e w10 ⟨rfl,hS10,hf10'⟩;have hf10:=hf9.trans hf10';obtain ⟨p3,hp3,hr3,hR10⟩:=(hS10:StR w10 g s mb (tl s (p2+1)))
    have hlt3:s.size-p3<s.size-p2:=by have:=congrArg List.length hr3;rw [qaq,qaq] at this;omega
    have hG7:=hG6.out;rw [hr3] at hG7;clear C2 hf9 hf10' hG6 hr3
    -- the blank behind the sign
    have C3:=Hd (qgr g mb p3 s 32 32 rfl w10 hR10 hp3 hs);obtain ⟨E3,hE3⟩:∃ G,eatG 32 (tl s p3)=G:=⟨_,rfl⟩
    have hl3:=Hd (fun r (e:E3=.ok () r)=>qbp (hE3.trans e));rw [hE3] at C3 hG7;replace C3:=Hd C3.out;clear hE3 hR10;go_wp2_with fail;refine C3.out.mono ?_;rintro e w11 ⟨rfl,hS11,hf11'⟩;have hf11:=hf10.trans hf11';clear C3 hf10 hf11'
    cases E3 with
    | bad k er =>
     have hGe:=Hd (show SG=.bad k er from hG7);have hSE9:StE w11 g s mb k er:=hS11;have hF9:=Hd (HC.out w11 hf11).2.2;clear hS11 hf11 hG7
     -- nothing is returned: in world W9_,behind an error (hGe:SG=.bad k er)
     obtain ⟨pe,hpe,hke,h0e,hRe⟩:=hSE9;have hzE:(er==0)=false:=by rw [beq_eq_false_iff_ne];exact h0e
     have hzE2:(er != 0)=true:=by rw [bne,hzE];rfl
     obtain ⟨z0,z1,z2,z3,z4⟩:=cq5 hRe;have hl9:=Blk.lt hRe;have hRe9:=Hd hRe;replace h0e:=Hd h0e;clear hRe;go_wp2;go_ret;exact ⟨none,0,0,rfl,fun L r e=>(by cases hGe.out.symm.trans e),by rw [hGe.out];exact ⟨pe,hpe,hke,h0e.out,hRe9.out⟩,hF9.out⟩
    | ok uu r4 =>
     obtain ⟨p4,hp4,hr4,hR11⟩:=(hS11:StR w11 g s mb r4)
     have hlt4:=hl3.out r4 rfl;rw [hr4,qaq,qaq] at hlt4;have hG8:=Hd (show SG=sumG names f true acc2 (tl s p4) from by rw [<- hr4];exact hG7);obtain ⟨z0,z1,z2,z3,z4⟩:=cq5 hR11;have hl11:=Blk.lt hR11;have hC2:=Hd (HC.out w11 hf11);have hR12:=Hd hR11;have hm:=Hd (show s.size-p4<s.size-p/\s.size-p4+1<=s.size-p from by have:=hlt3;have:=hlr.out;omega);clear hf11 hG7 hr4 hR11;go_wp2;go_roundg (s.size-p4+1)
     case rel=>exact ⟨p4,f,true,acc2,lo2,ra2,rc2,rfl,rfl,hp4,Nat.lt_succ_self _,by show (tl s p4).length<f;have:=hm.out;have:=hf.out;rw [qaq] at this ⊢;omega,hR12.out,hC2.out.1,hC2.out.2.1,ha2.out,hG8.out,hC2.out.2.2⟩
     case measure=>have:=hm.out;have:=hgk.out;omega
 ):P:=h
theorem zz57 {P:Prop} (h:P:=by
 clear ho6 hg6 ha6 ho3 hel hf3
 -- what there is is returned,behind an error;world W9_
 obtain ⟨pe,hpe,hke,h0e,hRe⟩:=hSE9;have hzE:(er==0)=false:=by rw [beq_eq_false_iff_ne];exact h0e
 have hzE2:(er != 0)=true:=by rw [bne,hzE];rfl
 obtain ⟨z0,z1,z2,z3,z4⟩:=cq5 hRe;have hl9:=Blk.lt hRe;have hRe9:=Hd (show RdA w6.drew g s mb pe er ((s.size-k:Nat):Int) from hRe);have hf9:=Hd (show Fg g w w6.drew from hf6.call (brf.drew));replace h0e:=Hd h0e;clear hRe hf6;go_wp2;refine wrx (S:=(fun x=>x=w6.drew)) [(0,.q),(1,.q),(2,.q),(3,.q),(4,.q),(5,.q),(6,.q),(7,.q),(8,.q),(9,.q),(10,.q),(11,.q),(12,.q),(13,.q),(14,.q),(15,.p),(16,.p)] (rfl) ?_
 iterate 6 (refine qab rfl rfl fun K hK=>xq ?_;go_simp;refine hK _ _ ?_;clear hK K)
 iterate 10 (refine qar rfl rfl (fun K hK=>?_);go_simp;refine hK _ _ ?_;clear hK K)
 iterate 1 (refine qae rfl rfl fun K hK=>xp ?_;go_simp;refine hK _ _ ?_;clear hK K)
 refine qac ?_;go_wp2;go_ret;exact ⟨_,_,_,rfl,fun L r e=>(by cases hGe.out.symm.trans e),by rw [hGe.out];exact ⟨pe,hpe,hke,h0e.out,hRe9.out⟩,hf9.out⟩
 ):P:=h
theorem qah3 (X:Nat->Prop) (g mb a nm0:Nat) (s:ByteArray) (names:List ByteArray) (w:World) (hX:∀ b,X b->b<w.heap.size) (hXg:∀ b,b=g->X b) (h:RdA w g s mb 0 0 0) (hs:s.size<=281474976710656) (hm:OwnV w mb nm0 (names.take 64)) (hne:mb≠g) (he:ErrW w) (hge:Tryz.lays172_ren.g 16≠g) :
  Calls Tryz.prog 48 #[.pointer (some ⟨g,0,none⟩)] w (RetS X (reaG names s.data.toList) g mb s w):=by
 replace hX:=Hd hX;replace hXg:=Hd hXg;have HM:=Hd (fun W (hW:Fg g w W)=>hm.fr hW hne);have HE:=Hd (fun W (hW:Fg g w W)=>he.fr hW hge);obtain ⟨SG,hSG⟩:∃ G,reaG names s.data.toList=G:=⟨_,rfl⟩
 rw [hSG];unfold reaG at hSG;rw [<- qwo] at hSG;have hlg:=Hd h.lt;have CP:=qck g mb 0 s 0 0 45 w h (by omega) hs;have hst:=qb3 (tl s 0) 45 (z:=45) rfl;obtain ⟨bp,hbp⟩:∃ b,nxtB (tl s 0) 45=b:=⟨_,rfl⟩
 rw [hbp] at CP hst;have H:=Hd h;replace hbp:=Hd hbp;replace CP:=Hd CP;replace hst:=Hd hst;clear h hm he;go_enter Tryz.func48,Tryz.ntmps48;go_wp2_with fail;refine CP.out.mono ?_;rintro e w0 ⟨rfl,hb0⟩;have h0:=H.out.below hb0;have hf0:Fg g w w0:=Fr.below hb0;clear CP H hb0
 go_upto_if 8 with fail
 go_cut [] from 9 to 15 (fun wc=>∃ p0:Nat,Hid (p0<=s.size)/\Hid (RdA wc g s mb p0 0 0)/\Hid (Fg g w wc)/\Hid (SG=sumG names ((tl s 0).length+1) bp [] (tl s p0))/\Hid ((tl s p0).length<(tl s 0).length+1))
 case first =>
  cases bp
  ·
   have h45:¬ (tl s 0)[0]? = some 45:=by have:=hst.out;simpa using this.symm
   rw [if_neg h45] at hSG;have hS0:=Hd (show SG=sumG names ((tl s 0).length+1) false [] (tl s 0) from hSG.symm);have h0':=Hd h0;have hf0':=Hd hf0;clear h45 hSG h0 hf0;go_wp2
   go_meet
   case rel=>exact ⟨0,Nat.zero_le _,h0'.out,hf0'.out,hS0.out,Nat.lt_succ_self _⟩
  ·
   have h45:(tl s 0)[0]? = some 45:=by have:=hst.out;simpa using this.symm
   have hlt0:0<s.size:=by
    apply Nat.lt_of_not_le;intro hle;rw [qbn hle] at h45
    cases h45
   rw [if_pos h45,qbi] at hSG;obtain ⟨z0,z1,z2,z3,z4⟩:=cq5 h0;have hl:=h0.lt;have f1:=Blk.frozen h0 1;have hR1:=Hd (h0.set1 1);have hf1:=Hd (hf0.setc (g:=g) (i:=1) (u:=.int .i64 ((1:Nat):Int)) (.inl rfl));have hS0:=Hd (show SG=sumG names ((tl s 0).length+1) true [] (tl s 1) from hSG.symm);replace hlt0:=Hd hlt0;clear h0 hf0 h45 hSG;go_wp2
   go_meet
   case rel=>exact ⟨1,hlt0.out,hR1.out,hf1.out,hS0.out,by show (tl s 1).length<_;rw [qaq,qaq];have:=hlt0.out;omega⟩
 case rest =>
  clear h0 hf0 hSG hst;obtain ⟨p0,hp0s,h0,hf0,hS0,hfu⟩:=hcut;go_wp2
  go_loopg [3,4,5] (s.size+1) (fun gk o ngv _ wr=>∃ (p f:Nat) (ng:Bool) (acc:List Tm) (lo:List TQ) (ra:Option Addr) (rc:Nat),o=.slice ra lo.length rc/\ngv=.bool ng/\Hid (p<=s.size)/\Hid (s.size-p<gk)/\Hid ((tl s p).length<f)/\Hid (RdA wr g s mb p 0 0)/\Hid (OwnT w.heap.size wr ra rc lo)/\Hid (AllT (Xr X ra) wr lo acc) /\
   Hid (lo.length<=4000/\acc.length=lo.length/\∀ u∈acc,qsz u.1<=1000)/\Hid (SG=sumG names f ng acc (tl s p))/\Hid (Fg g w wr))
  case atStart=>exact ⟨p0,_,bp,[],[],none,0,rfl,rfl,hp0s.out,by show _<_;have:=hp0s.out;omega,hfu.out,h0.out,Own.nil,AllT.nil,⟨by simp,rfl,fun u hu=>by cases hu⟩,hS0.out,hf0.out⟩
  case round =>
   clear h0 hf0 hS0 hfu hp0s;obtain ⟨p,f,ng,acc,lo,ra,rc,rfl,rfl,hp,hgk,hf,hR,ho,hA,hacc,hSG,hfr⟩:=hrel;obtain ⟨f,rfl⟩:∃ q,f=q+1:=⟨f-1,by have:=hf.out;omega⟩
   by_cases h4:lo.length=4000
   ·
    have h4b:((lo.length:Int)==4000)=true:=by rw [beq_iff_eq];omega
    have hGe:=Hd (show SG=.bad (s.size-p) 4 from by rw [hSG.out,sumG,if_pos (by rw [hacc.out.2.1];exact h4),qaq]);have CF:=Hd (qdd g mb p s 4 (p:Int) wr hR.out);have hRo:=hR.out;have hpo:=hp.out;obtain ⟨z0,z1,z2,z3,z4⟩:=cq5 hRo;have hl:=hRo.lt;clear hRo;replace h4:=Hd h4;go_wp2_with fail;refine CF.out.mono ?_;rintro e w1 ⟨rfl,h1,hf1⟩;go_wp2;go_ret;exact ⟨none,0,0,rfl,fun L r e=>(by cases hGe.out.symm.trans e),by rw [hGe.out];exact ⟨p,hpo,by omega,by decide,by rw [show s.size-(s.size-p)=p by omega];exact h1⟩,hfr.out.trans hf1⟩
   ·
    have h4b:((lo.length:Int)==4000)=false:=by rw [beq_eq_false_iff_ne];omega
    have hG1:SG=(terG names (tl s p)).bnd fun t r=>if r.length=0 then .ok (acc++[sgnT ng t]) r else (sepG r).bnd fun ng' r'=>sumG names f ng' (acc++[sgnT ng t]) r':=by
     rw [hSG.out,sumG,if_neg (by rw [hacc.out.2.1];exact h4)]
    have CT:=qz1 g mb p nm0 s names wr hR.out hp.out hs (HM.out wr hfr.out) hne (HE.out wr hfr.out) hge;have htl:=Hd (fun u r (e:terG names (tl s p)=.ok u r)=>show r.length<=(tl s p).length from qta e);obtain ⟨TG,hTG⟩:∃ G,terG names (tl s p)=G:=⟨_,rfl⟩
    rw [hTG] at CT hG1 htl;have hgl0:=Hd (fun b (hb:X b)=>ltl (hX.out b hb) (Nat.le_trans hfr.out.size (nlr _)));have h4l:=Hd (show lo.length<4000 by have:=hacc.out.1;omega);replace CT:=Hd CT;replace hG1:=Hd hG1;replace hTG:=Hd hTG;clear h4 hSG hR;go_wp2_with fail;refine CT.out.mono ?_;rintro e w1 ⟨t,rfl,hok,hbad,hS1,hf1'⟩;have ho1:OwnT w.heap.size w1 ra rc lo:=qgw ho.out hf1' hlg.out;have hA1:AllT (Xr X ra) w1 lo acc:=hA.out.step (hf1'.agr.mono fun b hb=>.inl (hXg.out b hb));have hf1:=hfr.out.trans hf1';have hsz1:=Hd hf1'.size;have hraW:=Hd (fun q (hq:ra=some q)=>(ho.out.lt hq).2);clear CT ho hA hfr hf1'
    cases TG with
    | bad k er =>
     have hGe:=Hd (show SG=.bad k er from hG1.out);have hbx:=hbad k er rfl;replace hS1:StE w1 g s mb k er:=hS1;clear hok hbad hG1
     cases ng
     ·
      replace hbx:=Hd hbx;have hSN:=Hd hS1;clear hS1
      -- the term at hand,with number y,is laid behind the others: from world w1.alloc (.cells #[.bool t.x.neg,.slice t.x.a t.x.n t.x.c,.slice t.x.b t.x.m t.x.d,.slice t.a t.n t.c] 81) in which the box g5 holds it
      have ho3:=Hd ((ho1.alloc (.cells #[.bool t.x.neg,.slice t.x.a t.x.n t.x.c,.slice t.x.b t.x.m t.x.d,.slice t.a t.n t.c] 81)).alloc (.cells #[.bool t.x.neg,.slice t.x.a t.x.n t.x.c,.slice t.x.b t.x.m t.x.d,.slice t.a t.n t.c] 81));have hel:=Hd (show TQ.At ⟨t.x,t.n,t.a,t.c⟩ ((w1.alloc (.cells #[.bool t.x.neg,.slice t.x.a t.x.n t.x.c,.slice t.x.b t.x.m t.x.d,.slice t.a t.n t.c] 81)).alloc (.cells #[.bool t.x.neg,.slice t.x.a t.x.n t.x.c,.slice t.x.b t.x.m t.x.d,.slice t.a t.n t.c] 81)) (w1.alloc (.cells #[.bool t.x.neg,.slice t.x.a t.x.n t.x.c,.slice t.x.b t.x.m t.x.d,.slice t.a t.n t.c] 81)).heap.size 0 from At.new (t:=⟨t.x,t.n,t.a,t.c⟩));have hf3:=Hd ((hf1.alloc (.cells #[.bool t.x.neg,.slice t.x.a t.x.n t.x.c,.slice t.x.b t.x.m t.x.d,.slice t.a t.n t.c] 81)).alloc (.cells #[.bool t.x.neg,.slice t.x.a t.x.n t.x.c,.slice t.x.b t.x.m t.x.d,.slice t.a t.n t.c] 81))
      have hll:=Hd (show (lo++[(⟨t.x,t.n,t.a,t.c⟩:TQ)]).length<=16777216 from by have:=hacc.out.1;rw [List.length_append];simp;omega);have hBW:=Hd (show w.heap.size<=((w1.alloc (.cells #[.bool t.x.neg,.slice t.x.a t.x.n t.x.c,.slice t.x.b t.x.m t.x.d,.slice t.a t.n t.c] 81)).alloc (.cells #[.bool t.x.neg,.slice t.x.a t.x.n t.x.c,.slice t.x.b t.x.m t.x.d,.slice t.a t.n t.c] 81)).heap.size from hf3.out.size);go_wp2_with (at_builtin;go_must (refine qce (B:=w.heap.size) rfl (.tmp 32) (.tmp 34) 52 rfl Tryz.underlying52 ra rc rfl ho3.out ⟨t.x,t.n,t.a,t.c⟩ (w1.heap.size+1) 1 rfl (by have:=hel.out;simpa using this) (lo++[⟨t.x,t.n,t.a,t.c⟩]) rfl hll.out hBW.out ?_);intro ra2 rc2 w6 ho6 hg6 ha6);have hf6:Fg g w w6:=hf3.out.grown hg6 fun q hq=>.inr (ho3.out.lt hq).1
      have hSE9:StE w6 g s mb k er:=qn6 ((hSN.out.alloc2 _).alloc2 _) ho3.out hlg.out hg6;exact zz57
     ·
      -- the number is negated,though there is an error
      have CZ:=Hd (fun W=>qv6 W);have CQ:=Hd (fun q W (hW:QK 1000 W t.x q)=>qvj t.x q 1000 W hW (by omega));have hbx2:=Hd (show ∀ o,t.x=zQA\/∃ q,QK 1000 (w1.alloc o) t.x q from fun o=>hbx.imp (fun h=>h) (fun ⟨q,h⟩=>⟨q,h.now.ext (qel _ _)⟩));have hSN':=Hd hS1;have ho1':=Hd ho1;have hf1':=Hd hf1;have hg50:∃ q,w1.heap.size=q:=⟨_,rfl⟩
      have hszr:=Hd (show w.heap.size<=w1.heap.size from hf1.size);clear hbx hS1 ho1 hf1 hA1;go_wp2_with fail;refine qah (fun W=>Blk W w1.heap.size 81 #[.bool t.x.neg,.slice t.x.a t.x.n t.x.c,.slice t.x.b t.x.m t.x.d,.slice t.a t.n t.c]/\StE W g s mb k er/\OwnT w.heap.size W ra rc lo/\Fg g w W/\(t.x=zQA\/∃ q,QK 1000 W t.x q)) ⟨Blk.new w1 _ _,hSN'.out.alloc2 _,ho1'.out.alloc _,hf1'.out.alloc _,hbx2.out _⟩ ?_;clear hSN' ho1' hf1' hbx2;obtain ⟨g5,hg5e⟩:=hg50;rw [hg5e];have hg5:=Hd (show (∀ q,ra=some q->q.block<g5)/\w.heap.size<=g5 from ⟨fun q hq=>by have:=hraW.out q hq;have:=hsz1.out;omega,by have:=hszr.out;omega⟩);replace hg5e:=Hd hg5e;rintro w2 ⟨hyN,hSN,hoN,hfN,hxN⟩
      have CALL:Calls Tryz.prog 94 #[.agg #[.bool t.x.neg,.slice t.x.a t.x.n t.x.c,.slice t.x.b t.x.m t.x.d]] w2 fun e w'=>∃ yq:QA,e=.returned (.agg #[.bool yq.neg,.slice yq.a yq.n yq.c,.slice yq.b yq.m yq.d])/\Below w2.heap.size w2 w':=by
       rcases hxN with h | ⟨q,h⟩
       ·
        rw [h];exact (CZ.out w2)
       · exact (CQ.out q w2 h).mono fun e w' ⟨yq,h1,_,h3⟩=>⟨yq,h1,h3⟩
      refine CALL.mono ?_;clear CALL CZ CQ hxN;rintro e w3 ⟨yq,rfl,hb3⟩
      -- the number is negated;in W2 the box g5 holds the term
      have ho3':OwnT w.heap.size w3 ra rc lo:=hoN.below hb3;have hf3':=hfN.call hb3;have hy3:=hyN.below' hb3;have hSE3:=hSN.below hb3;obtain ⟨y0,y1,y2,y3⟩:=cq4 hy3;obtain ⟨k0,k1,k2⟩:=fq3 hy3;have hgl3:=hy3.lt;obtain ⟨W4,hW4⟩:∃ W,((w3.setCell ⟨g5,0,none⟩ (.bool yq.neg)).setCell ⟨g5,1,none⟩ (.slice yq.a yq.n yq.c)).setCell ⟨g5,2,none⟩ (.slice yq.b yq.m yq.d)=W:=⟨_,rfl⟩
      have hy4:Blk W4 g5 81 #[.bool yq.neg,.slice yq.a yq.n yq.c,.slice yq.b yq.m yq.d,.slice t.a t.n t.c]:=by rw [<- hW4];exact bS (bS (bS hy3 rfl) rfl) rfl
      have hgr4:w3.grownBy W4 (some g5):=by rw [<- hW4];exact qb0 (qb0 (qb0 (qcz w3 g5) 0 _) 1 _) 2 _
      have hro:∀ q,ra=some q->some g5≠some q.block:=fun q hq e=>by have h1:=hg5.out.1 q hq;injection e with e;omega
      have ho4:OwnT w.heap.size W4 ra rc lo:=ho3'.grown hgr4 hro;have hf4:Fg g w W4:=⟨hgr4.os.trans hf3'.os,hgr4.tape.trans hf3'.tape,hgr4.output.trans hf3'.output,Nat.le_trans hf3'.size hgr4.size,fun i h1 h2=>(hgr4.block i (ltl h1 hf3'.size) (fun e=>by injection e with e;have:=hg5.out.2;omega)).trans (hf3'.block i h1 h2)⟩
      obtain ⟨x0,x1,x2,x3⟩:=cq4 hy4;have hgl4:=hy4.lt;have hfg:w3.frozen? ⟨g5,3,none⟩=false:=hy3.frozen 3;clear ho3' hf3' hy3 hy4 hro;have hSN4:=Hd (show StE W4 g s mb k er by rw [<- hW4];exact ((hSE3.set2 (by have:=hg5.out.2;have:=hlg.out;omega)).set2 (by have:=hg5.out.2;have:=hlg.out;omega)).set2 (by have:=hg5.out.2;have:=hlg.out;omega));have ho4':=Hd ho4;have hf4':=Hd hf4;clear ho4 hf4 hSE3 hgr4 hyN hSN hoN hfN hb3
      -- the term at hand,with number y,is laid behind the others: from world W4 in which the box g5 holds it
      have ho3:=Hd ((ho4'.out).alloc (.cells #[.bool yq.neg,.slice yq.a yq.n yq.c,.slice yq.b yq.m yq.d,.slice t.a t.n t.c] 81));have hel:=Hd (show TQ.At ⟨yq,t.n,t.a,t.c⟩ ((W4).alloc (.cells #[.bool yq.neg,.slice yq.a yq.n yq.c,.slice yq.b yq.m yq.d,.slice t.a t.n t.c] 81)) (W4).heap.size 0 from At.new (t:=⟨yq,t.n,t.a,t.c⟩));have hf3:=Hd ((hf4'.out).alloc (.cells #[.bool yq.neg,.slice yq.a yq.n yq.c,.slice yq.b yq.m yq.d,.slice t.a t.n t.c] 81));have hll:=Hd (show (lo++[(⟨yq,t.n,t.a,t.c⟩:TQ)]).length<=16777216 from by have:=hacc.out.1;rw [List.length_append];simp;omega);have hBW:=Hd (show w.heap.size<=((W4).alloc (.cells #[.bool yq.neg,.slice yq.a yq.n yq.c,.slice yq.b yq.m yq.d,.slice t.a t.n t.c] 81)).heap.size from hf3.out.size)
      go_wp2_with (at_builtin;go_must (refine qce (B:=w.heap.size) rfl (.tmp 32) (.tmp 34) 52 rfl Tryz.underlying52 ra rc rfl ho3.out ⟨yq,t.n,t.a,t.c⟩ (W4.heap.size) 1 rfl (by have:=hel.out;simpa using this) (lo++[⟨yq,t.n,t.a,t.c⟩]) rfl hll.out hBW.out ?_);intro ra2 rc2 w6 ho6 hg6 ha6);have hf6:Fg g w w6:=hf3.out.grown hg6 fun q hq=>.inr (ho3.out.lt hq).1
      have hSE9:StE w6 g s mb k er:=qn6 (hSN4.out.alloc2 _) ho3.out hlg.out hg6;exact zz57
    | ok u r =>
     obtain ⟨p1,hp1,hr1,hR1⟩:=hS1;have hKt:=hok u r rfl;have hqu:=Hd hKt.now.2;have hlr:=htl.out u r rfl;rw [hr1,qaq,qaq] at hlr;replace hlr:=Hd hlr;have hG2:=Hd (show SG=if r.length=0 then .ok (acc++[sgnT ng u]) r else (sepG r).bnd fun ng' r'=>sumG names f ng' (acc++[sgnT ng u]) r' from hG1.out);replace hr1:=Hd hr1
     -- what is read of the term holds whatever is done to the row and to the reader
     have hRt:=Hd (show Rd (Xr X ra) w1 (fun V=>t.R u V) from Rd.kp (hKt.imp fun V h=>h.1) fun b hb=>by
      left;rcases hb with hb | ⟨q,hq,rfl⟩
      · exact hgl0.out b hb
      · exact hraW.out q hq)
     clear hok hbad hG1 hKt
     cases ng
     ·
      have hR1':=Hd hR1;clear hR1
      -- the term at hand,with number y,is laid behind the others: from world w1.alloc (.cells #[.bool t.x.neg,.slice t.x.a t.x.n t.x.c,.slice t.x.b t.x.m t.x.d,.slice t.a t.n t.c] 81) in which the box g5 holds it
      have ho3:=Hd ((ho1.alloc (.cells #[.bool t.x.neg,.slice t.x.a t.x.n t.x.c,.slice t.x.b t.x.m t.x.d,.slice t.a t.n t.c] 81)).alloc (.cells #[.bool t.x.neg,.slice t.x.a t.x.n t.x.c,.slice t.x.b t.x.m t.x.d,.slice t.a t.n t.c] 81));have hel:=Hd (show TQ.At ⟨t.x,t.n,t.a,t.c⟩ ((w1.alloc (.cells #[.bool t.x.neg,.slice t.x.a t.x.n t.x.c,.slice t.x.b t.x.m t.x.d,.slice t.a t.n t.c] 81)).alloc (.cells #[.bool t.x.neg,.slice t.x.a t.x.n t.x.c,.slice t.x.b t.x.m t.x.d,.slice t.a t.n t.c] 81)) (w1.alloc (.cells #[.bool t.x.neg,.slice t.x.a t.x.n t.x.c,.slice t.x.b t.x.m t.x.d,.slice t.a t.n t.c] 81)).heap.size 0 from At.new (t:=⟨t.x,t.n,t.a,t.c⟩));have hf3:=Hd ((hf1.alloc (.cells #[.bool t.x.neg,.slice t.x.a t.x.n t.x.c,.slice t.x.b t.x.m t.x.d,.slice t.a t.n t.c] 81)).alloc (.cells #[.bool t.x.neg,.slice t.x.a t.x.n t.x.c,.slice t.x.b t.x.m t.x.d,.slice t.a t.n t.c] 81))
      have hll:=Hd (show (lo++[(⟨t.x,t.n,t.a,t.c⟩:TQ)]).length<=16777216 from by have:=hacc.out.1;rw [List.length_append];simp;omega);have hBW:=Hd (show w.heap.size<=((w1.alloc (.cells #[.bool t.x.neg,.slice t.x.a t.x.n t.x.c,.slice t.x.b t.x.m t.x.d,.slice t.a t.n t.c] 81)).alloc (.cells #[.bool t.x.neg,.slice t.x.a t.x.n t.x.c,.slice t.x.b t.x.m t.x.d,.slice t.a t.n t.c] 81)).heap.size from hf3.out.size);go_wp2_with (at_builtin;go_must (refine qce (B:=w.heap.size) rfl (.tmp 32) (.tmp 34) 52 rfl Tryz.underlying52 ra rc rfl ho3.out ⟨t.x,t.n,t.a,t.c⟩ (w1.heap.size+1) 1 rfl (by have:=hel.out;simpa using this) (lo++[⟨t.x,t.n,t.a,t.c⟩]) rfl hll.out hBW.out ?_);intro ra2 rc2 w6 ho6 hg6 ha6);have hf6:Fg g w w6:=hf3.out.grown hg6 fun q hq=>.inr (ho3.out.lt hq).1
      have hR6:RdA w6 g s mb p1 0 0:=qj2 (bA (bA hR1'.out)) ho3.out hlg.out hg6;have hA6:AllT (Xr X ra2) w6 (lo++[⟨t.x,t.n,t.a,t.c⟩]) (acc++[sgnT false u]):=by
       refine AllT.app (((hA1.step ((Agr.refl _ _).alloc _)).step ((Agr.refl _ _).alloc _)).append (AllT.one ?_)) hg6 (by simpa using ha6);exact (hRt.out.alloc _).alloc _
      obtain ⟨acc2,hacc2⟩:∃ z,acc++[sgnT false u]=z:=⟨_,rfl⟩
      have ha2:=Hd (show (lo++[(⟨t.x,t.n,t.a,t.c⟩:TQ)]).length<=4000/\acc2.length=(lo++[(⟨t.x,t.n,t.a,t.c⟩:TQ)]).length/\∀ u∈acc2,qsz u.1<=1000 from by
       rw [<- hacc2];refine ⟨by have:=h4l.out;rw [List.length_append];simp;omega,by rw [List.length_append,List.length_append,hacc.out.2.1];rfl,fun x hx=>?_⟩;rcases List.mem_append.1 hx with hx | hx
       · exact hacc.out.2.2 x hx
       · rw [List.mem_singleton] at hx;subst hx;exact hqu.out)
      rw [hacc2] at hA6 hG2;obtain ⟨lo2,hlo2⟩:∃ z,lo++[(⟨t.x,t.n,t.a,t.c⟩:TQ)]=z:=⟨_,rfl⟩
      have hll2:lo.length+1=lo2.length:=by rw [<- hlo2,List.length_append];rfl
      rw [hlo2] at hA6 ha2 ho6;rw [hll2];clear ho1 hA1 hf1 hR1' hg6 ha6 ho3 hel hf3 hRt hacc2 hlo2 hll hll2
      -- the sum goes on,or is at its end: world w6,place p1,the row lo2,the terms acc2
      exact zz56
     ·
      -- the number is negated
      have CQ:=Hd (fun W (hW:QK 1000 W t.x u.1)=>qvj t.x u.1 1000 W hW (by omega));have hR1':=Hd hR1;have ho1':=Hd ho1;have hf1':=Hd hf1;have hA1':=Hd hA1;have hg50:∃ q,w1.heap.size=q:=⟨_,rfl⟩
      have hszr:=Hd (show w.heap.size<=w1.heap.size from hf1.size);clear hR1 ho1 hf1 hA1;go_wp2_with fail;refine qah (fun W=>Blk W w1.heap.size 81 #[.bool t.x.neg,.slice t.x.a t.x.n t.x.c,.slice t.x.b t.x.m t.x.d,.slice t.a t.n t.c]/\RdA W g s mb p1 0 0/\OwnT w.heap.size W ra rc lo/\Fg g w W/\AllT (fun b=>Xr X ra b\/b=w1.heap.size) W lo acc/\Rd (fun b=>Xr X ra b\/b=w1.heap.size) W (fun V=>t.R u V)/\w1.heap.size<W.heap.size) ⟨Blk.new w1 _ _,bA hR1'.out,ho1'.out.alloc _,hf1'.out.alloc _,(hA1'.out.map fun _ _ k=>qmu k).step ((Agr.refl _ _).alloc _),(qmu hRt.out).alloc _,by simp⟩ ?_;clear hR1' ho1' hf1' hA1' hRt;obtain ⟨g5,hg5e⟩:=hg50;rw [hg5e];have hg5:=Hd (show (∀ q,ra=some q->q.block<g5)/\w.heap.size<=g5 from ⟨fun q hq=>by have:=hraW.out q hq;have:=hsz1.out;omega,by have:=hszr.out;omega⟩);replace hg5e:=Hd hg5e;rintro w2 ⟨hyN,hRN,hoN,hfN,hAN,htN,hs5⟩
      have hgw2:=Hd (fun b (hb:X b)=>ltl (hX.out b hb) hfN.size);have hraW2:=Hd (fun q (hq:ra=some q)=>(hoN.lt hq).2);refine (CQ.out w2 ⟨htN.now.1,hqu.out⟩).mono ?_;clear CQ;rintro e w3 ⟨yq,rfl,hKy,hb3⟩;have hRy:=htN.call hb3;have hA3:=hAN.call hb3;have hR3:=hRN.below hb3;have hKy3:=Hd (show Rd (fun b=>Xr X ra b\/b=g5) w3 (fun V=>QK 1000 V yq (-u.1)) from Rd.kp hKy fun b hb=>by
       left;rcases hb with (hb | ⟨q,hq,rfl⟩) | rfl
       · exact hgw2.out b hb
       · exact hraW2.out q hq
       · exact hs5)
      -- the number is negated;in W2 the box g5 holds the term
      have ho3':OwnT w.heap.size w3 ra rc lo:=hoN.below hb3;have hf3':=hfN.call hb3;have hy3:=hyN.below' hb3;obtain ⟨y0,y1,y2,y3⟩:=cq4 hy3;obtain ⟨k0,k1,k2⟩:=fq3 hy3;have hgl3:=hy3.lt;obtain ⟨W4,hW4⟩:∃ W,((w3.setCell ⟨g5,0,none⟩ (.bool yq.neg)).setCell ⟨g5,1,none⟩ (.slice yq.a yq.n yq.c)).setCell ⟨g5,2,none⟩ (.slice yq.b yq.m yq.d)=W:=⟨_,rfl⟩
      have hy4:Blk W4 g5 81 #[.bool yq.neg,.slice yq.a yq.n yq.c,.slice yq.b yq.m yq.d,.slice t.a t.n t.c]:=by rw [<- hW4];exact bS (bS (bS hy3 rfl) rfl) rfl
      have hgr4:w3.grownBy W4 (some g5):=by rw [<- hW4];exact qb0 (qb0 (qb0 (qcz w3 g5) 0 _) 1 _) 2 _
      have hro:∀ q,ra=some q->some g5≠some q.block:=fun q hq e=>by have h1:=hg5.out.1 q hq;injection e with e;omega
      have ho4:OwnT w.heap.size W4 ra rc lo:=ho3'.grown hgr4 hro;have hf4:Fg g w W4:=⟨hgr4.os.trans hf3'.os,hgr4.tape.trans hf3'.tape,hgr4.output.trans hf3'.output,Nat.le_trans hf3'.size hgr4.size,fun i h1 h2=>(hgr4.block i (ltl h1 hf3'.size) (fun e=>by injection e with e;have:=hg5.out.2;omega)).trans (hf3'.block i h1 h2)⟩
      obtain ⟨x0,x1,x2,x3⟩:=cq4 hy4;have hgl4:=hy4.lt;have hfg:w3.frozen? ⟨g5,3,none⟩=false:=hy3.frozen 3;clear ho3' hf3' hy3 hy4 hro;have hR4:=Hd (show RdA W4 g s mb p1 0 0 by rw [<- hW4];exact bF (by have:=hg5.out.2;have:=hlg.out;omega) (bF (by have:=hg5.out.2;have:=hlg.out;omega) (bF (by have:=hg5.out.2;have:=hlg.out;omega) hR3)));have hW34:Agr (fun b=>Xr X ra b\/b=g5) w3 W4:=by rw [<- hW4];exact (((Agr.refl _ _).setc (.inr rfl)).setc (.inr rfl)).setc (.inr rfl)
      have hA4:=Hd (show AllT (Xr X ra) W4 lo acc from (hA3.step hW34).map fun _ _ k=>k.less fun b hb=>.inl hb);have hRy4:=Hd (show Rd (Xr X ra) W4 (fun V=>TQ.R ⟨yq,t.n,t.a,t.c⟩ (sgnT true u) V) from (((hKy3.out.and hRy).step hW34).less fun b hb=>.inl hb).imp fun V h=>⟨h.1.1,h.2.2⟩);have ho4':=Hd ho4;have hf4':=Hd hf4;clear ho4 hf4 hgr4 hyN hRN hoN hfN hAN htN hb3 hKy hRy hA3 hR3 hW34 hKy3 hs5
      -- the term at hand,with number y,is laid behind the others: from world W4 in which the box g5 holds it
      have ho3:=Hd ((ho4'.out).alloc (.cells #[.bool yq.neg,.slice yq.a yq.n yq.c,.slice yq.b yq.m yq.d,.slice t.a t.n t.c] 81));have hel:=Hd (show TQ.At ⟨yq,t.n,t.a,t.c⟩ ((W4).alloc (.cells #[.bool yq.neg,.slice yq.a yq.n yq.c,.slice yq.b yq.m yq.d,.slice t.a t.n t.c] 81)) (W4).heap.size 0 from At.new (t:=⟨yq,t.n,t.a,t.c⟩));have hf3:=Hd ((hf4'.out).alloc (.cells #[.bool yq.neg,.slice yq.a yq.n yq.c,.slice yq.b yq.m yq.d,.slice t.a t.n t.c] 81));have hll:=Hd (show (lo++[(⟨yq,t.n,t.a,t.c⟩:TQ)]).length<=16777216 from by have:=hacc.out.1;rw [List.length_append];simp;omega);have hBW:=Hd (show w.heap.size<=((W4).alloc (.cells #[.bool yq.neg,.slice yq.a yq.n yq.c,.slice yq.b yq.m yq.d,.slice t.a t.n t.c] 81)).heap.size from hf3.out.size)
      go_wp2_with (at_builtin;go_must (refine qce (B:=w.heap.size) rfl (.tmp 32) (.tmp 34) 52 rfl Tryz.underlying52 ra rc rfl ho3.out ⟨yq,t.n,t.a,t.c⟩ (W4.heap.size) 1 rfl (by have:=hel.out;simpa using this) (lo++[⟨yq,t.n,t.a,t.c⟩]) rfl hll.out hBW.out ?_);intro ra2 rc2 w6 ho6 hg6 ha6);have hf6:Fg g w w6:=hf3.out.grown hg6 fun q hq=>.inr (ho3.out.lt hq).1
      have hR6:RdA w6 g s mb p1 0 0:=qj2 (bA hR4.out) ho3.out hlg.out hg6;have hA6:AllT (Xr X ra2) w6 (lo++[⟨yq,t.n,t.a,t.c⟩]) (acc++[sgnT true u]):=by
       refine AllT.app ((hA4.out.step ((Agr.refl _ _).alloc _)).append (AllT.one ?_)) hg6 (by simpa using ha6);exact hRy4.out.alloc _
      obtain ⟨acc2,hacc2⟩:∃ z,acc++[sgnT true u]=z:=⟨_,rfl⟩
      have ha2:=Hd (show (lo++[(⟨yq,t.n,t.a,t.c⟩:TQ)]).length<=4000/\acc2.length=(lo++[(⟨yq,t.n,t.a,t.c⟩:TQ)]).length/\∀ u∈acc2,qsz u.1<=1000 from by
       rw [<- hacc2];refine ⟨by have:=h4l.out;rw [List.length_append];simp;omega,by rw [List.length_append,List.length_append,hacc.out.2.1];rfl,fun x hx=>?_⟩;rcases List.mem_append.1 hx with hx | hx
       · exact hacc.out.2.2 x hx
       · rw [List.mem_singleton] at hx;subst hx;show qsz (-u.1)<=1000;rw [qfb];exact hqu.out)
      rw [hacc2] at hA6 hG2;obtain ⟨lo2,hlo2⟩:∃ z,lo++[(⟨yq,t.n,t.a,t.c⟩:TQ)]=z:=⟨_,rfl⟩
      have hll2:lo.length+1=lo2.length:=by rw [<- hlo2,List.length_append];rfl
      rw [hlo2] at hA6 ha2 ho6;rw [hll2];clear hR4 hA4 hRy4 ho4' hf4' hg6 ha6 ho3 hel hf3 hacc2 hlo2 hll hll2
      -- the sum goes on,or is at its end: world w6,place p1,the row lo2,the terms acc2
      exact zz56
abbrev Vr:=Int × Int × Int
abbrev Vec:=List Tm × List Tm
structure Frm where
 vars:List Vr
 coords:List Vec
 free:Nat
theorem qya (X:Nat->Prop) (x:QA) (q:Rat) (m:List Int) (a:Option Addr) (ca:Nat) (w:World) (hX:∀ b,X b->b<w.heap.size) (hx:Rd X w fun V=>QAc V x q) (hq:qsz q<=1000) (h0:q≠0) (hm:Rd X w fun V=>IntsR V a ca m) :
  Calls Tryz.prog 97 #[.agg #[.bool x.neg,.slice x.a x.n x.c,.slice x.b x.m x.d],.slice a m.length ca] w (RetP X [(q,m)] w):=by
 have CS:=fun W (hW:Below w.heap.size w W)=>qmn x q 1000 W ⟨(hx.call hW).now,hq⟩ (by omega)
 have hsg:=qai0 q;rw [decide_eq_false h0] at hsg;obtain ⟨t,ht⟩:∃ t:TQ,t=⟨x,m.length,a,ca⟩:=⟨_,rfl⟩
 have hR:Rd X w (t.R (q,m)):=by rw [ht];exact (hx.and hm).imp fun V h=>⟨h.1,h.2,rfl⟩
 have e1:x=t.x:=by rw [ht]
 have e2:m.length=t.n:=by rw [ht]
 have e3:a=t.a:=by rw [ht]
 have e4:ca=t.c:=by rw [ht]
 rw [e1] at CS;rw [e1,e2,e3,e4];obtain ⟨S0,hS0⟩:∃ S0,sgnQ q=S0:=⟨_,rfl⟩
 rw [hS0] at CS hsg;clear hS0;replace CS:=Hd CS;replace hR:=Hd hR;replace hX:=Hd hX;clear hx hq hm h0 ht e1 e2 e3 e4;go_enter Tryz.func97,Tryz.ntmps97;go_wp2_with fail;refine qah (fun W=>Blk W w.heap.size 76 #[.bool t.x.neg,.slice t.x.a t.x.n t.x.c,.slice t.x.b t.x.m t.x.d]/\Below w.heap.size w W) ⟨by ((with_reducible repeat first|assumption|(apply bF;focus omega)|apply bS|(apply bN;focus (simp;done))|apply bA|apply bD);all_goals rfl),by go_grown⟩ ?_;rintro w0 ⟨hz,hw0⟩;refine (CS.out _ hw0).mono ?_;rintro e w1 ⟨rfl,hb1⟩;replace hz:=hz.below' hb1;have hw1:=bth hw0 hb1;obtain ⟨z0,z1,z2⟩:=cq3 hz;have hP:PolX X (w1.alloc (.cells #[.bool t.x.neg,.slice t.x.a t.x.n t.x.c,.slice t.x.b t.x.m t.x.d,.slice t.a t.n t.c] 81)) (some ⟨w1.heap.size,0,none⟩) 1 [(q,m)]:=by
  refine ⟨[t],fun V hV=>⟨by simp,by simp [maxLen],fun k s hk=>?_⟩,AllT.one ((hR.out.call hw1).alloc _)⟩
  cases k with
  | zero =>
   simp at hk;subst hk;have hA:TQ.At t (w1.alloc (.cells #[.bool t.x.neg,.slice t.x.a t.x.n t.x.c,.slice t.x.b t.x.m t.x.d,.slice t.a t.n t.c] 81)) w1.heap.size 0:=At.new;have hn:¬ X w1.heap.size:=fun h=>by have:=hX.out _ h;have:=hw1.size;omega
   exact ⟨_,0,rfl,hV _ _ hn hA.1,hV _ _ hn hA.2.1,hV _ _ hn hA.2.2.1,hV _ _ hn hA.2.2.2⟩
  | succ k=>simp at hk
 replace hP:=Hd hP;go_wp2;go_ret;exact ⟨_,1,rfl,hP.out,hw1.alloc hw1.size _⟩
structure PQ where
 n:Nat
 a:Option Addr
 c:Nat
def PQ.cs (s:PQ):List Value:=[.slice s.a s.n s.c]
theorem PQ.cs_len (s:PQ):s.cs.length=1:=rfl
theorem PQ.cs_one (s:PQ):∀ u∈s.cs,u.oneCell'=true:=by simp [PQ.cs,Value.oneCell']
abbrev OwnPq (B:Nat) (w:World) (a:Option Addr) (c:Nat) (l:List PQ):Prop:=Own PQ.cs 1 53 B w a c l
theorem qey:(Tryz.prog.info? 53).map (fun i=>(i.zero,i.size,i.bytes))=some (some (.slice none 0 0),1,24):=by kernel_rfl
theorem qwc (X:Nat->Prop) (a:Option Addr) (c:Nat) (w:World):Calls Tryz.prog 101 #[.slice a 0 c] w (RetP X [] w):=by
 go_enter Tryz.func101,Tryz.ntmps101;go_wp2;go_ret;exact ⟨none,0,rfl,PolX.nil,Below.refl _ _⟩
theorem qaj1 (X:Nat->Prop) (p:List Tm) (b o c:Nat) (a1:Option Addr) (c1:Nat) (w:World) (hc:w.cell? ⟨b,o,none⟩=some (.slice a1 p.length c1)) (hp:PolX X w a1 c1 p):Calls Tryz.prog 101 #[.slice (some ⟨b,o,none⟩) 1 c] w (RetP X p w):=by
 have HP:=Hd hp;clear hp;go_enter Tryz.func101,Tryz.ntmps101;go_wp2;go_ret;exact ⟨a1,c1,rfl,HP.out,Below.refl _ _⟩
theorem qfz:qa7 []=[]:=by rw [qa7];rfl
theorem qmf (p:List Tm):qa7 [p]=p:=by rw [qa7];rfl
def RowP (a:Option Addr) (c:Nat) (hs:List PQ) (V:World):Prop:=SlR 1 (fun V b o (s:PQ)=>V.cell? ⟨b,o,none⟩=some (.slice s.a s.n s.c)) V a c hs
theorem RowP.ext {a:Option Addr} {c:Nat} {hs:List PQ} {V V':World} (h:RowP a c hs V) (e:Ext V V'):RowP a c hs V':=SlR.mono h fun _ _ _ _ h=>e _ _ h
def AllP (X:Nat->Prop) (w:World) (hs:List PQ) (ps:List (List Tm)):Prop:=hs.length=ps.length/\∀ (k:Nat) (s:PQ) (p:List Tm),hs[k]? = some s->ps[k]? = some p->s.n=p.length/\PolX X w s.a s.c p
def qc2 (X:Nat->Prop) (w:World) (a:Option Addr) (c:Nat) (ps:List (List Tm)):Prop:=∃ hs,RowP a c hs w/\AllP X w hs ps
section
variable {X : Nat -> Prop} {w w' : World} {a : Option Addr} {c : Nat} {ps : List (List Tm)}
theorem AllP.call {hs:List PQ} (h:AllP X w hs ps) (e:Below w.heap.size w w'):AllP X w' hs ps:=⟨h.1,fun k s p h1 h2=>⟨(h.2 k s p h1 h2).1,(h.2 k s p h1 h2).2.call e⟩⟩
theorem qc2.call (h:qc2 X w a c ps) (e:Below w.heap.size w w'):qc2 X w' a c ps:=by obtain ⟨hs,h1,h2⟩:=h;exact ⟨hs,h1.ext (xbw e),h2.call e⟩
theorem qc2.cap (h:qc2 X w a c ps):ps.length<=c/\c<=maxLen:=by obtain ⟨hs,h1,h2⟩:=h;rw [<- h2.1];exact ⟨h1.1,h1.2.1⟩
theorem qc2.take (h:qc2 X w a c ps) (n:Nat):qc2 X w a c (ps.take n):=by
 obtain ⟨hs,h1,h2⟩:=h;refine ⟨hs.take n,⟨by have:=h1.1;rw [List.length_take];omega,h1.2.1,fun k x hx=>?_⟩,by rw [List.length_take,List.length_take,h2.1],fun k s p e1 e2=>?_⟩
 ·
  rw [List.getElem?_take] at hx
  split at hx
  · exact h1.2.2 k x hx
  · cases hx
 ·
  rw [List.getElem?_take] at e1 e2
  split at e1
  · next hk=>rw [if_pos hk] at e2;exact h2.2 k s p e1 e2
  · cases e1
theorem qc2.drop (h:qc2 X w a c ps) (n:Nat) (hn:n<=ps.length):qc2 X w (a.map (·.add (n*1))) (c-n) (ps.drop n):=by
 obtain ⟨hs,h1,h2⟩:=h;refine ⟨hs.drop n,⟨by have:=h1.1;rw [List.length_drop];omega,by have:=h1.2.1;omega,fun k x hx=>?_⟩,by rw [List.length_drop,List.length_drop,h2.1],fun k s p e1 e2=>?_⟩
 ·
  rw [List.getElem?_drop] at hx;obtain ⟨b,off,ha,hc⟩:=h1.2.2 (n+k) x hx;refine ⟨b,off+n*1,by rw [ha,Option.map_some,Addr.add_lit],?_⟩;rw [show off+n*1+k*1=off+(n+k)*1 by omega];exact hc
 ·
  rw [List.getElem?_drop] at e1 e2;exact h2.2 (n+k) s p e1 e2
end
theorem qu4 (a:Option Addr) (n c i:Nat) (hi:i<=c) (w:World):(Instr.slice 23 (.slice a n c) none (some (.int .i64 (i:Int))) none).run Tryz.prog w=.ok (.slice a i c) w:=by
 obtain ⟨d,hd,hz,hsz,hby⟩:=info_parts qey;have hu:=Tryz.underlying23;have he:Tryz.prog.elem 23=53:=by unfold Program.elem;rw [hu]
 have:=run_slice_h (P:=Tryz.prog) (w:=w) 23 a n c (by rw [hu,he]) .i64 i (by omega) (by omega);rw [this,he];simp [sizeOf,typeInfo,hd,hsz,sliced];intro _
 cases a <;> rfl
theorem qus (a:Option Addr) (n c i:Nat) (hi:i<=n) (w:World):(Instr.slice 23 (.slice a n c) (some (.int .i64 (i:Int))) none none).run Tryz.prog w=.ok (.slice (if c=i then a else a.map (·.add (i*1))) (n-i) (c-i)) w:=by
 obtain ⟨d,hd,hz,hsz,hby⟩:=info_parts qey;have hu:=Tryz.underlying23;have he:Tryz.prog.elem 23=53:=by unfold Program.elem;rw [hu]
 have:=run_slice_l (P:=Tryz.prog) (w:=w) 23 a n c (by rw [hu,he]) .i64 i (by omega) (by omega);rw [this,he];simp [sizeOf,typeInfo,hd,hsz,sliced]
theorem qsb {ps:List (List Tm)} (h:1<ps.length):qa7 ps=addP (qa7 (ps.take (ps.length / 2))) (qa7 (ps.drop (ps.length / 2))):=by rw [qa7,dif_neg (by omega)]
theorem qll (X:Nat->Prop):∀ (n:Nat) (ps:List (List Tm)) (a:Option Addr) (c:Nat) (w:World),ps.length<=n->n<=1000000->(∀ b,X b->b<w.heap.size)->qc2 X w a c ps->(∀ q,q <:+: ps->FineP (qa7 q)) ->
  Calls Tryz.prog 101 #[.slice a ps.length c] w (RetP X (qa7 ps) w)
 | 0,ps,a,c,w,hn,_,hX,hp,hf=>by
  obtain rfl:ps=[]:=List.eq_nil_of_length_eq_zero (by omega);rw [qfz];exact qwc X a c w
 | n+1,ps,a,c,w,hn,hn2,hX,hp,hf=>by
  by_cases h0:ps.length=0
  ·
   obtain rfl:ps=[]:=List.eq_nil_of_length_eq_zero h0;rw [qfz];exact qwc X a c w
  ·
   by_cases h1:ps.length=1
   ·
    obtain ⟨p,rfl⟩:∃ p,ps=[p]:=List.length_eq_one_iff.1 h1;rw [qmf];obtain ⟨hs,hr,hA⟩:=hp;obtain ⟨s,hs0⟩:=qad (xs:=hs) (k:=0) (by rw [hA.1];simp);obtain ⟨b,off,rfl,hc⟩:=hr.2.2 0 s hs0;obtain ⟨e1,e2⟩:=hA.2 0 s p hs0 rfl;rw [e1] at hc;exact qaj1 X p b off c s.a s.c w (by simpa using hc) e2
   ·
    obtain ⟨h,hh⟩:∃ h,ps.length / 2=h:=⟨_,rfl⟩
    have hm:=qsb (ps:=ps) (by omega);rw [hh] at hm;rw [hm];have hcap:=hp.cap;have C1:=fun W (hW:Below w.heap.size w W)=>qll X n (ps.take h) a c W (by rw [List.length_take];omega) (by omega) (fun b hb=>by have:=hX b hb;have:=hW.size;omega) ((hp.take h).call hW) (fun q hq=>hf q (hq.trans (List.take_prefix h ps).isInfix))
    have C2:=fun W (hW:Below w.heap.size w W)=>qll X n (ps.drop h) (a.map (·.add (h*1))) (c-h) W (by rw [List.length_drop];omega) (by omega) (fun b hb=>by have:=hX b hb;have:=hW.size;omega) ((hp.drop h (by omega)).call hW) (fun q hq=>hf q (hq.trans (List.drop_suffix h ps).isInfix))
    have f1:=Hd (hf _ (List.take_prefix h ps).isInfix);have f2:=Hd (hf _ (List.drop_suffix h ps).isInfix);have hs1:=fun W=>qu4 a ps.length c h (by omega) W
    have hs2:=fun W=>qus a ps.length c h (by omega) W
    rw [if_neg (by omega)] at hs2;rw [List.length_take,Nat.min_eq_left (by omega)] at C1;rw [List.length_drop] at C2;have hz0:((ps.length:Int)==0)=false:=by rw [beq_eq_false_iff_ne];omega
    have hz1:((ps.length:Int)==1)=false:=by rw [beq_eq_false_iff_ne];omega
    have hq2:((ps.length:Int).tdiv 2)=(h:Int):=by rw [Int.tdiv_eq_ediv_of_nonneg (by omega)];omega
    have hq3:((ps.length:Int) / 2)=(h:Int):=by omega
    have hX2:=Hd hX;have hhb:h<=1000000:=by omega
    have hhc:h<=c:=by omega
    have hhm:h<=ps.length:=by omega
    have hwh:wrap64 (h:Int)=(h:Int):=IntWalk.wrap64_in _ ⟨by omega,by omega⟩;obtain ⟨P1,hP1⟩:∃ P,qa7 (ps.take h)=P:=⟨_,rfl⟩
    obtain ⟨P2,hP2⟩:∃ P,qa7 (ps.drop h)=P:=⟨_,rfl⟩
    rw [hP1] at f1;rw [hP2] at f2;rw [hP1,hP2];simp only [hP1] at C1;simp only [hP2] at C2;have s0:Below w.heap.size w w.drew:=brf.drew;obtain ⟨m,hml⟩:∃ m,ps.length=m:=⟨_,rfl⟩
    rw [hml] at hs1 hs2 C2 hz0 hz1 hq2 hq3 hhm ⊢;obtain ⟨a2,ha2⟩:∃ z,a.map (·.add (h*1))=z:=⟨_,rfl⟩
    rw [ha2] at C2 hs2;replace C1:=Hd C1;replace C2:=Hd C2;replace hml:=Hd hml;clear hp hf hm hX hP1 hP2 hh hcap ha2 h0 h1;go_enter Tryz.func101,Tryz.ntmps101;go_wp2;refine wrx (S:=(fun W=>Below w.heap.size w W)) [(0,.p),(1,.p),(2,.p),(4,.p),(5,.p),(6,.p),(3,.t),(7,.t),(8,.t),(9,.p)] (s0) ?_
    iterate 6 (refine qae rfl rfl fun K hK=>xp ?_;go_simp;refine hK _ _ ?_;clear hK K)
    refine qam rfl rfl (fun K hK=>?_);go_simp;refine (C1.out w.drew s0).mono ?_;rintro e w1 ⟨a1,c1,rfl,hPa,hb1⟩;dsimp only;refine hK.out _ _ ?_;clear hK K;refine qam rfl rfl (fun K hK=>?_);go_simp;refine (C2.out w1 (bth s0 hb1)).mono ?_;rintro e w2 ⟨a3,c3,rfl,hPb,hb2⟩;dsimp only;refine hK.out _ _ ?_;clear hK K;refine qam rfl rfl (fun K hK=>?_);go_simp;refine (qaj8 X P1 P2 a1 a3 c1 c3 w2 (fun b hb=>by have:=hX2.out b hb;have:=s0.size;have:=hb1.size;have:=hb2.size;omega) (hPa.call hb2) hPb f1.out f2.out).mono ?_;rintro e w3 ⟨a4,c4,rfl,hPc,hb3⟩;dsimp only;refine hK.out _ _ ?_;clear hK K
    iterate 1 (refine qae rfl rfl fun K hK=>xp ?_;go_simp;refine hK _ _ ?_;clear hK K)
    refine qac ?_;go_wp2;go_ret;exact ⟨a4,c4,rfl,hPc,bth (bth (bth s0 hb1) hb2) hb3⟩
def wtP (l:List Tm):Nat:=(l.map fun t=>qsz t.1+1).sum
theorem qag5 {l:List Tm} {u:Tm} (h:u∈l):qsz u.1+1<=wtP l:=by
 unfold wtP
 induction l with
 | nil=>cases h
 | cons t l ih =>
  rw [List.map_cons,List.sum_cons];rcases List.mem_cons.1 h with rfl | h
  · omega
  · have:=ih h;omega
theorem qmt (l:List Tm):l.length<=wtP l:=by
 unfold wtP
 induction l with
 | nil=>simp
 | cons t l ih=>rw [List.map_cons,List.sum_cons,List.length_cons];omega
def wtS (q:List (List Tm)):Nat:=(q.map wtP).sum
theorem qnb (p q:List (List Tm)):wtS (p++q)=wtS p+wtS q:=by unfold wtS;rw [List.map_append,List.sum_append]
theorem qjx:∀ (n:Nat) (q:List (List Tm)),q.length<=n->(∀ u∈qa7 q,qsz u.1+1<=wtS q)/\(qa7 q).length<=wtS q
 | 0,q,h=>by
  obtain rfl:q=[]:=List.eq_nil_of_length_eq_zero (by omega);rw [qfz];exact ⟨fun u hu=>(by cases hu),by simp⟩
 | n+1,q,h=>by
  by_cases h1:q.length<=1
  ·
   match q,h1 with
   | [],_=>rw [qfz];exact ⟨fun u hu=>(by cases hu),by simp⟩
   | [p],_ =>
    rw [qmf];have e:wtS [p]=wtP p:=by simp [wtS]
    rw [e];exact ⟨fun u hu=>qag5 hu,qmt p⟩
   | _ :: _ :: _,h1=>simp at h1
  ·
   have hm:qa7 q=addP (qa7 (q.take (q.length / 2))) (qa7 (q.drop (q.length / 2))):=by rw [qa7,dif_neg h1]
   obtain ⟨a1,a2⟩:=qjx n (q.take (q.length / 2)) (by rw [List.length_take];omega);obtain ⟨b1,b2⟩:=qjx n (q.drop (q.length / 2)) (by rw [List.length_drop];omega);have hs:wtS q=wtS (q.take (q.length / 2))+wtS (q.drop (q.length / 2)):=by rw [<- qnb,List.take_append_drop]
   rw [hm];refine ⟨fun u hu=>?_,by have:=qfd (qa7 (q.take (q.length / 2))) (qa7 (q.drop (q.length / 2)));omega⟩;rcases qdn _ _ u hu with h2 | h2 | ⟨s,h3,t,h4,rfl,_⟩
   · have:=a1 u h2;omega
   · have:=b1 u h2;omega
   ·
    have e1:=a1 s h3;have e2:=b1 t h4;have:=qm5 s.1 t.1
    show qsz (s.1+t.1)+1<=_
    omega
def onesP (L:List Tm):List (List Tm):=(L.filter fun t=>!(decide (t.1=0))).map fun t=>[t]
theorem qyv (L:List Tm):wtS (onesP L)<=wtP L:=by
 unfold onesP wtS wtP
 induction L with
 | nil=>simp
 | cons t L ih =>
  rw [List.filter_cons]
  split
  ·
   simp only [List.map_cons,List.map_nil,List.sum_cons,List.sum_nil]
   omega
  · rw [List.map_cons,List.sum_cons];omega
theorem quj {L:List Tm} {k:Nat} {u:Tm} (h:L[k]? = some u):onesP (L.take (k+1))=if u.1=0 then onesP (L.take k) else onesP (L.take k)++[[u]]:=by
 unfold onesP;rw [qbc h,List.filter_append,List.map_append];by_cases h0:u.1=0
 · rw [if_pos h0];simp [h0]
 · rw [if_neg h0];simp [h0]
theorem qov (L:List Tm):(onesP L).length<=L.length:=by unfold onesP;rw [List.length_map];exact List.length_filter_le _ _
theorem qho {L:List Tm} (hM:∀ t∈L,Mok 1048576 t.2) (hw:wtP L<=1001):∀ q,q <:+: onesP L->FineP (qa7 q):=fun q hq=>by
 obtain ⟨s,t,he⟩:=hq;have hle:wtS q<=1001:=by
  have h1:=qyv L;rw [<- he,qnb,qnb] at h1
  omega
 have hpok:∀ p∈q,Pok 1048576 p:=fun p hp=>by
  have hp2:p∈onesP L:=by rw [<- he];simp [hp]
  unfold onesP at hp2;obtain ⟨x,hx,rfl⟩:=List.mem_map.1 hp2;rw [List.mem_filter] at hx;exact (Pok.nil _).cons (hM x hx.1) (by simpa using hx.2) fun s hs=>by cases hs
 obtain ⟨h1,h2⟩:=qjx q.length q (nlr _);have hk:=(qf1 q hpok).1;exact ⟨by omega,fun u hu=>⟨(hk.1 u hu).1,(hk.1 u hu).2,by have:=h1 u hu;omega⟩⟩
theorem qpa {B:Int} {m:List Int} (h:Mok B m):cutM m=m:=by
 cases hm:m.reverse with
 | nil => have : m = [] := by simpa using hm
          subst this;rfl
 | cons x r =>
  have h1:m=(x :: r).reverse:=by rw [<- hm,List.reverse_reverse]
  have h2:m[m.length-1]? = some x:=by rw [h1];simp
  have hx:x≠0:=fun e=>h.2.1 (by rw [h2,e])
  unfold cutM;rw [hm,List.dropWhile_cons,if_neg (by simpa using hx),<- hm,List.reverse_reverse]
theorem qjd {m:List Int} (h:Mok 1048576 m):monoB m=true:=by
 refine qf5 h.2.2 h.2.1 ?_;rw [List.all_eq_true];exact fun x hx=>by simpa using h.1 x hx
end Go.Proofs.YtnilkimcdgmgkaaGreatDoor
