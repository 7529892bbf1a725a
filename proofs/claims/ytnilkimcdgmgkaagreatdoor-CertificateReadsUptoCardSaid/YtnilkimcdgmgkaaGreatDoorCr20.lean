/- A polynomial's handle taken as a list of terms; walk: R06.Equal. -/
import Derived.Test.YtnilkimcdgmgkaaGreatDoorCr19
import Derived.Test.YtnilkimcdgmgkaaGreatDoorCr15
import Derived.Test.YtnilkimcdgmgkaaGreatDoorCr13
import Derived.Test.YtnilkimcdgmgkaaGreatDoorCr12
import Derived.Test.YtnilkimcdgmgkaaGreatDoorCr1
import Derived.Test.YtnilkimcdgmgkaaGreatDoorCr3
import Derived.Test.YtnilkimcdgmgkaaGreatDoorCr11
import Derived.Test.YtnilkimcdgmgkaaGreatDoorCr10
set_option linter.all false
set_option maxRecDepth 100000
set_option maxHeartbeats 4000000
namespace Go.Proofs.YtnilkimcdgmgkaaGreatDoor
open Go.RowKit
theorem qad5:qao (decide ((0:Int)<0)) (0:Int).natAbs 1=trip 0:=by
 have:=qgv 0 1;rw [this]
 rfl
theorem qah5:qsz 0<=1:=qjs (qan (by decide)) (qan (by decide))
theorem of0_q (w:World):Calls Tryz.prog 99 #[.int .i64 0] w (RetQK 1 0 w):=by
 have:=qp4 0 w ⟨by omega,by omega⟩;rw [qad5] at this;exact this.mono fun _ _ h=>qd6 qah5 h
theorem qgh (a:Option Addr) (m c n:Nat) (hn:n<=c) (w:World) :
  (Instr.slice 79 (.slice a m c) none (some (.int .i64 (n:Int))) none).run Tryz.prog w=.ok (.slice a n c) w:=by
 obtain ⟨d,hd,hz,hsz,hby⟩:=info_parts infoZ;have hu:=Tryz.underlying79;have he:Tryz.prog.elem 79=3:=by unfold Program.elem;rw [hu]
 have:=run_slice_h (P:=Tryz.prog) (w:=w) 79 a m c (by rw [hu,he]) .i64 n (by omega) (by omega);rw [this,he];simp [sizeOf,typeInfo,hd,hsz,sliced];intro _
 cases a <;> rfl
theorem qv2 (X:Nat->Prop) (x:QA) (a:Option Addr) (n ca:Nat) (w:World) (hx:QK 1000 w x 0) :
  Calls Tryz.prog 97 #[.agg #[.bool x.neg,.slice x.a x.n x.c,.slice x.b x.m x.d],.slice a n ca] w (RetP X [] w):=by
 have CS:=Hd (fun W (hW:Below w.heap.size w W)=>qmn x 0 1000 W (hx.ext (xbw hW)) (by omega));have hsg:sgnQ 0=0:=qj0.2 rfl;rw [hsg] at CS;clear hx hsg;go_enter Tryz.func97,Tryz.ntmps97;go_wp2_with fail;refine qah (fun W=>Below w.heap.size w W) (by go_grown) ?_;rintro w0 hw0;refine (CS.out _ hw0).mono ?_;rintro e w1 ⟨rfl,hb1⟩;go_wp2;go_ret;exact ⟨none,0,rfl,PolX.nil,bth hw0 hb1⟩
theorem AllP.app {X:Nat->Prop} {w w':World} {a a':Option Addr} {c n:Nat} {hs:List PQ} {ps:List (List Tm)} (h:AllP (Xr X a) w hs ps) (hg:w.grownBy w' (Value.ownBlock (.slice a n c))) (ha:∃ g,a'=some ⟨g,0,none⟩/\(a=some ⟨g,0,none⟩\/g=w.heap.size)):AllP (Xr X a') w' hs ps :=
 ⟨h.1,fun k s p h1 h2=>⟨(h.2 k s p h1 h2).1,(h.2 k s p h1 h2).2.map fun _ r=>r.app hg ha⟩⟩
theorem AllP.step {X:Nat->Prop} {w w':World} {hs:List PQ} {ps:List (List Tm)} (h:AllP X w hs ps) (e:Agr X w w'):AllP X w' hs ps:=⟨h.1,fun k s p h1 h2=>⟨(h.2 k s p h1 h2).1,(h.2 k s p h1 h2).2.step e⟩⟩
theorem AllP.push {X:Nat->Prop} {w:World} {hs:List PQ} {ps:List (List Tm)} {s:PQ} {p:List Tm} (h:AllP X w hs ps) (hn:s.n=p.length) (hp:PolX X w s.a s.c p):AllP X w (hs++[s]) (ps++[p]) :=
 ⟨by rw [List.length_append,List.length_append,h.1];rfl,fun k s' p' h1 h2=>by
  rcases Nat.lt_or_ge k hs.length with e | e
  ·
   rw [List.getElem?_append_left e] at h1;rw [List.getElem?_append_left (by rw [<- h.1];exact e)] at h2;exact h.2 k s' p' h1 h2
  ·
   rw [List.getElem?_append_right e] at h1;rw [List.getElem?_append_right (by rw [<- h.1];exact e),<- h.1] at h2
   cases hk:k-hs.length with
   | zero=>rw [hk] at h1 h2;simp at h1 h2;subst h1 h2;exact ⟨hn,hp⟩
   | succ j=>rw [hk] at h1;simp at h1⟩
theorem OwnPq.parts {X:Nat->Prop} {w:World} {B:Nat} {a:Option Addr} {c:Nat} {hs:List PQ} {ps:List (List Tm)} (ho:OwnPq B w a c hs) (h:AllP (Xr X a) w hs ps) (hX:∀ b,X b->b<B):qc2 X w a c ps:=by
 refine ⟨hs,?_,h.1,fun k s p h1 h2=>⟨(h.2 k s p h1 h2).1,(h.2 k s p h1 h2).2.map fun _ r=>r.less fun b hb=>.inl hb⟩⟩;refine ho.readsX (X:=X) hs rfl PQ.cs_len (Agr.refl X w) (fun g hg hx=>by have:=hX _ hx;have:=(ho.lt hg).1;omega) fun b o k x y h1 h2 hc=>?_
 rw [h1] at h2;injection h2 with h2
 subst h2;simpa using hc 0 _ rfl
theorem zz60 {P:Prop} (h:P:=by
 go_wp2_with fail;refine (CR.out w2 HI.out).mono ?_;rintro e w' ⟨rfl,rfl⟩;have s0:Below w2.heap.size w2 w2.drew:=brf.drew;have y0:=held z0;have y1:=held z1;have y2:=held z2;have y3:=held z3;have HQ:=Hd (fun W (hW:Below w2.heap.size w2 W)=>(show QK 1000 W t.x u.1 from ⟨(hRw.out W (bth hw2 hW)).1,hqu.out⟩));have CNM:=Hd (fun W (hW:Below w2.heap.size w2 W)=>qg8 u.2 _ t.c W (HI.out.ext (xbw hW)) (by omega));rw [qpa hmu.out,if_pos (qjd hmu.out),<- hnu.out] at CNM;by_cases hu0:u.1=0
 ·
  have hs2:=hsu.out;rw [if_pos hu0] at hs2;replace hs2:=Hd hs2;clear CR hsl z0 z1 z2 z3;go_wp2;refine wrx (S:=(fun W=>Below w2.heap.size w2 W)) [(0,.q),(1,.q),(4,.q),(5,.q),(2,.l),(3,.l),(6,.t),(7,.t),(8,.p)] (s0) ?_
  iterate 4 (refine qab rfl rfl fun K hK=>xq ?_;go_simp;refine hK _ _ ?_;clear hK K)
  refine qal rfl rfl (fun K hK=>?_);go_simp;refine (of0_q w2.drew).mono ?_;rintro e wa ⟨x0,rfl,hK0,hba⟩;dsimp only;refine hK.out _ _ (s0.trans (hba.mono s0.size)) (fun _=>?_);clear hK K;refine qal rfl rfl (fun K hK=>?_);go_simp;refine (add_q t.x x0 u.1 0 1000 1 wa (HQ.out wa (s0.trans (hba.mono s0.size))) (hK0.now) (by omega) (by omega)).mono ?_;rintro e wb ⟨x1,rfl,hK1,hbb⟩;dsimp only;refine hK.out _ _ ((s0.trans (hba.mono s0.size)).trans (hbb.mono (Nat.le_trans s0.size hba.size))) (fun _=>?_);clear hK K;refine qam rfl rfl (fun K hK=>?_);go_simp;refine (CNM.out wb ((s0.trans (hba.mono s0.size)).trans (hbb.mono (Nat.le_trans s0.size hba.size)))).mono ?_;rintro e wc ⟨a3,c3,rfl,hKm,hbc⟩;dsimp only;refine hK.out _ _ ?_;clear hK K;have hbw:=Hd (bth (bth (s0.trans (hba.mono s0.size)) hbb) hbc);have hq1:QK 1000 wc x1 u.1:=by
   have:=(hK1.call hbc).now;rw [Rat.add_zero] at this;exact ⟨this.1,hqu.out⟩
  rw [hu0] at hq1;refine qam rfl rfl (fun K hK=>?_);go_simp;refine (qv2 (fun _=>False) x1 a3 _ c3 wc hq1).mono ?_;rintro e wd ⟨a4,c4,rfl,hP4,hbd⟩;dsimp only;refine hK.out _ _ ?_;clear hK K
  iterate 1 (refine qae rfl rfl fun K hK=>xp ?_;go_simp;refine hK _ _ ?_;clear hK K)
  refine qac ?_;have hw4:=Hd (bth hw2 (bth hbw.out hbd));have ho4:=Hd (ho2.out.below (bth hbw.out hbd));have hA4:=Hd (hA2.out.call (bth hbw.out hbd));clear y0 y1 y2 y3 hbw hq1 hbd hba hbb hbc hK0 hK1 hKm hP4 s0;replace hu0:=Hd hu0;go_wp2;go_roundg (gk0-1)
  case rel=>exact ⟨k+1,hs,ra,rc,by have:=hk.out;show _=_;omega,rfl,by go_num,ho4.out,by rw [hs2.out];exact hA4.out,hw4.out⟩
  case measure=>have:=hk.out;omega
 ·
  have hs2:=hsu.out;rw [if_neg hu0] at hs2;replace hs2:=Hd hs2;replace hu0:=Hd hu0;clear CR hsl z0 z1 z2 z3;go_wp2;refine wrx (S:=(fun W=>Below w2.heap.size w2 W)) [(0,.q),(1,.q),(4,.q),(5,.q),(2,.l),(3,.l),(6,.t),(7,.t),(8,.p)] (s0) ?_
  iterate 4 (refine qab rfl rfl fun K hK=>xq ?_;go_simp;refine hK _ _ ?_;clear hK K)
  refine qal rfl rfl (fun K hK=>?_);go_simp;refine (of0_q w2.drew).mono ?_;rintro e wa ⟨x0,rfl,hK0,hba⟩;dsimp only;refine hK.out _ _ (s0.trans (hba.mono s0.size)) (fun _=>?_);clear hK K;refine qal rfl rfl (fun K hK=>?_);go_simp;refine (add_q t.x x0 u.1 0 1000 1 wa (HQ.out wa (s0.trans (hba.mono s0.size))) (hK0.now) (by omega) (by omega)).mono ?_;rintro e wb ⟨x1,rfl,hK1,hbb⟩;dsimp only;refine hK.out _ _ ((s0.trans (hba.mono s0.size)).trans (hbb.mono (Nat.le_trans s0.size hba.size))) (fun _=>?_);clear hK K;refine qam rfl rfl (fun K hK=>?_);go_simp;refine (CNM.out wb ((s0.trans (hba.mono s0.size)).trans (hbb.mono (Nat.le_trans s0.size hba.size)))).mono ?_;rintro e wc ⟨a3,c3,rfl,hKm,hbc⟩;dsimp only;refine hK.out _ _ ?_;clear hK K;have hbw:=Hd (bth (bth (s0.trans (hba.mono s0.size)) hbb) hbc);have hq1:QK 1000 wc x1 u.1:=by
   have:=(hK1.call hbc).now;rw [Rat.add_zero] at this;exact ⟨this.1,hqu.out⟩
  have hXr:∀ b,Xr X ra b->b<w2.heap.size:=fun b hb=>by
   rcases hb with hb | ⟨q,hq,rfl⟩
   · have:=HX.out b hb;have:=hw2.size;omega
   · exact (ho2.out.lt hq).2
  have hmr:Rd (Xr X ra) wc (fun V=>IntsR V a3 c3 u.2):=Rd.kp hKm fun b hb=>.inl (by have:=hXr b hb;have:=(s0.trans (hba.mono s0.size)).size;have:=hbb.size;omega)
  have hxr:Rd (Xr X ra) wc (fun V=>QAc V x1 u.1):=by
   have h1:=(hK1.call hbc).imp (R':=fun V=>QAc V x1 u.1) fun V h=>by have:=h.1;rwa [Rat.add_zero] at this
   exact Rd.kp h1 fun b hb=>.inl (by have:=hXr b hb;have:=(s0.trans (hba.mono s0.size)).size;omega)
  have CSG:=qya (Xr X ra) x1 u.1 u.2 a3 c3 wc (fun b hb=>by have:=hXr b hb;have:=hbw.out.size;omega) hxr hqu.out hu0.out hmr;replace CSG:=Hd CSG;clear hXr hmr hxr;refine qam rfl rfl (fun K hK=>?_);go_simp;refine (CSG.out).mono ?_;rintro e wd ⟨a4,c4,rfl,hP4,hbd⟩;dsimp only;refine hK.out _ _ ?_;clear hK K
  iterate 1 (refine qae rfl rfl fun K hK=>xp ?_;go_simp;refine hK _ _ ?_;clear hK K)
  refine qac ?_;have hw4:=Hd (bth hw2 (bth hbw.out hbd));have ho4:=Hd ((ho2.out.below (bth hbw.out hbd)).alloc (.cells #[.slice a4 1 c4] 53));have hA4:=Hd (((hA2.out.call (bth hbw.out hbd)).step ((Agr.refl _ _).alloc (.cells #[.slice a4 1 c4] 53))).push (s:=⟨1,a4,c4⟩) (p:=[(u.1,u.2)]) rfl (hP4.step ((Agr.refl _ _).alloc _)));have hcl:Hid (∀ j v,(PQ.cs ⟨1,a4,c4⟩)[j]? = some v->(wd.alloc (.cells #[.slice a4 1 c4] 53)).cell? ⟨wd.heap.size,j,none⟩=some v):=Hd fun j v hj=>by
   cases j with
   | zero=>simp [PQ.cs] at hj;subst hj;exact (Blk.new wd 53 #[.slice a4 1 c4]).cell 0
   | succ j=>simp [PQ.cs] at hj
  have hlen1:([(u.1,u.2)]:List Tm).length=1:=rfl;clear y0 y1 y2 y3 hbw hq1 hbd hba hbb hbc hK0 hK1 hKm hP4 s0 CSG;go_wp2_with (at_builtin;go_must (refine qa8 (B:=wo.heap.size) rfl (.tmp 47) (.tmp 49) 23 rfl Tryz.underlying23 qey rfl (by omega) (by omega) PQ.cs_len ra rc (l:=hs) rfl ho4.out ⟨1,a4,c4⟩ (PQ.cs_one _) wd.heap.size 1 rfl hcl.out (hs++[⟨1,a4,c4⟩]) rfl (by have:=hol2.out;rw [List.length_append];simp;omega) (by have:=hw4.out.size;simp;omega) ?_);intro ra6 rc6 w6 ho6 hg6 ha6);have hA6:=Hd (hA4.out.app hg6 ha6);have hw6:=Hd (show Below wo.heap.size wo w6 from qav (hw4.out.alloc hw4.out.size (.cells #[.slice a4 1 c4] 53)) ho4.out hg6);replace ho6:=Hd ho6;clear hg6 ha6;go_roundg (gk0-1)
  case rel=>exact ⟨k+1,hs++[(⟨1,a4,c4⟩:PQ)],ra6,rc6,by have:=hk.out;show _=_;omega,by simp,by go_num,ho6.out,by rw [hs2.out];exact hA6.out,hw6.out⟩
  case measure=>have:=hk.out;omega
 ):P:=h
theorem qai7 (X:Nat->Prop) (L:List Tm) (a:Option Addr) (c:Nat) (w:World) (hX:∀ b,X b->b<w.heap.size) (hp:PolX X w a c L) (hM:∀ t∈L,Mok 1048576 t.2) (hq:∀ t∈L,qsz t.1<=1000) (hw:wtP L<=1001) :
  Calls Tryz.prog 49 #[.slice a L.length c] w (RetP X (qa7 (onesP L)) w):=by
 have hll:=qmt L;have hfi:=Hd (qho hM hw);have hol:=Hd (qov L);have HP:=Hd hp;have HX:=Hd hX;have HM:=Hd hM;have HQL:=Hd hq;have hLl:L.length<=1001:=by omega
 clear hp hX hM hq hw hll;go_enter Tryz.func49,Tryz.ntmps49;go_wp2;obtain ⟨wo,rfl⟩:∃ wo:World,wo=w:=⟨_,rfl⟩
 go_loopg [3,5,6,7,10] L.length (fun gk o _ _ _ i wr=>∃ (k:Nat) (hs:List PQ) (ra:Option Addr) (rc:Nat),Hid (k+gk=L.length)/\o=.slice ra hs.length rc/\i=.int .i64 k/\Hid (OwnPq wo.heap.size wr ra rc hs)/\Hid (AllP (Xr X ra) wr hs (onesP (L.take k)))/\Below wo.heap.size wo wr)
 case atStart=>exact ⟨0,[],none,0,by show _=_;omega,rfl,rfl,Own.nil,⟨rfl,fun k s p h=>by simp at h⟩,Below.refl _ _⟩
 case round =>
  obtain ⟨k,hs,ra,rc,hk,rfl,rfl,ho,hA,hwr⟩:=hrel;by_cases hlt:k<L.length
  ·
   obtain ⟨u,hu⟩:=qad hlt;obtain ⟨b,off,t,rfl,hAt,hRt⟩:=HP.out.get hu;obtain ⟨c0,c1,c2,c3⟩:=hAt;have d0:=held c0 wr hwr;have d1:=held c1 wr hwr;have d2:=held c2 wr hwr;have d3:=held c3 wr hwr;have hbl:b<wr.heap.size:=World.block_lt_of_cell? wr _ d0;have hmu:=HM.out u (List.mem_of_getElem? hu);have hqu:=Hd (HQL.out u (List.mem_of_getElem? hu));have hsu:=Hd (quj hu);have hRw:=Hd (fun W (hW:Below wo.heap.size wo W)=>(hRt.call hW).now);have htn:t.n=u.2.length:=(hRt.now).2.2;have hml:=hmu.2.2;have hol2:=Hd (show hs.length<=1001 by have h1:=hA.out.1;have h2:=qov (L.take k);rw [List.length_take] at h2;omega);replace htn:=Hd htn;replace hmu:=Hd hmu;obtain ⟨wx,rfl⟩:∃ wx:World,wx=wr:=⟨_,rfl⟩
   obtain ⟨gk0,rfl⟩:∃ n,n=gk:=⟨_,rfl⟩
   clear c0 c1 c2 c3 hRt hu;go_wp2;refine qak (fun W=>Blk W wx.heap.size 81 #[.bool t.x.neg,.slice t.x.a t.x.n t.x.c,.slice t.x.b t.x.m t.x.d,.slice t.a t.n t.c]/\Below wx.heap.size wx W) ⟨Blk.new wx _ _,by go_grown⟩ ?_;rintro w2 ⟨hz2,hb2⟩;obtain ⟨g5,hg5⟩:∃ q,wx.heap.size=q:=⟨_,rfl⟩
   rw [hg5] at hz2 ⊢;replace hg5:=Hd hg5;have hw2:=bth hwr hb2;have ho2:=Hd (ho.out.below hb2);have hA2:=Hd (hA.out.call hb2);clear d0 d1 d2 d3 hbl ho hA hwr hb2;obtain ⟨z0,z1,z2,z3⟩:=cq4 hz2;have hzl:=hz2.lt;have hR2:=hRw.out w2 hw2;have hI2:=hR2.2.1;have hcap:=hI2.1;obtain ⟨n,hn⟩:∃ n,t.n=n:=⟨_,rfl⟩
   rw [hn] at z3
   try rw [hn]
   replace hn:=Hd hn;obtain ⟨ta,hta0⟩:∃ q,t.a=q:=⟨_,rfl⟩
   rw [hta0] at z3 hI2
   try rw [hta0]
   replace hta0:=Hd hta0;have hnu:n=u.2.length:=by rw [<- hn.out];exact htn.out
   have hlast:0<n->∃ x,u.2[n-1]? = some x/\x≠0:=fun h=>by
    obtain ⟨x,hx⟩:=qad (xs:=u.2) (k:=n-1) (by omega);exact ⟨x,hx,fun e=>hmu.out.2.1 (by rw [<- hnu,hx,e])⟩
   have hsl:=fun W=>qgh ta n t.c n (by omega) W
   have CR:=Hd (fun W (hI:IntsR W ta t.c u.2)=>qjq u.2 ta t.c W hI);rw [qjd hmu.out,<- hnu] at CR;have hn64:n<=64:=by omega
   replace hnu:=Hd hnu;replace hlast:=Hd hlast;have HI:=Hd hI2;have HZ:=Hd hz2;clear hR2 hI2 hz2
   go_loopg [6] 0 (fun _ q w3=>q=.int .i64 n/\w2=w3)
   case atStart=>exact ⟨by first | rfl | (rw [hn.out]),rfl⟩
   case round =>
    obtain ⟨rfl,rfl⟩:=hrel;by_cases hn0:n=0
    ·
     have hnz:decide (0<n)=false:=by rw [decide_eq_false];omega
     have hnz2:¬ (0:Int)<(n:Int):=by omega
     replace hn0:=Hd hn0;exact zz60
    ·
     have hnz:decide (0<n)=true:=by rw [decide_eq_true_eq];omega
     have hnz2:(0:Int)<(n:Int):=by omega
     obtain ⟨x,hx,hx0⟩:=hlast.out (by omega);obtain ⟨bm,om,rfl,hcx,_⟩:=qbx HI.out hx;have hxb:(x==0)=false:=by rw [beq_eq_false_iff_ne];exact hx0
     have hn1:((n:Int)-1)=((n-1:Nat):Int):=by omega
     replace hx0:=Hd hx0;replace hn0:=Hd hn0;clear hx;exact zz60
  ·
   have hkl:k=L.length:=by have:=hk.out;omega
   subst hkl;rw [List.take_length] at hA;have hpt:=ho.out.parts hA.out HX.out;have hlen:=hA.out.1;have CS:=qll X (onesP L).length (onesP L) ra rc wr (nlr _) (by have:=hol.out;omega) (fun b hb=>by have:=HX.out b hb;have:=hwr.size;omega) hpt hfi.out;rw [<- hlen] at CS;replace CS:=Hd CS;replace hlen:=Hd hlen;clear hpt ho hA;go_wp2_with fail;refine CS.out.mono ?_;rintro e w9 ⟨a9,c9,rfl,hP9,hb9⟩;go_wp2;go_ret;exact ⟨a9,c9,rfl,hP9,bth hwr hb9⟩
def Wok (names:List ByteArray) (l:List UInt8):Prop:=∀ L r,reaG names l=.ok L r->wtP L<=1001
def qys (X:Nat->Prop) (names:List ByteArray) (s:ByteArray) (w:World) (e:Ending) (w':World):Prop:=∃ (a:Option Addr) (n c:Nat) (at_ er:Int),e=.returned (.tuple #[.slice a n c,.int .i64 at_,.int .i64 er])/\Below w.heap.size w w' /\
 (errNm names≠0->a=none/\n=0/\at_=0/\er=errNm names) /\
 (errNm names=0->match readP names s.data.toList with
  | .ok p _=>n=p.length/\PolX X w' a c p/\at_=0/\er=0/\FineP p
  | .bad k e=>a=none/\n=0/\at_=((s.size-k:Nat):Int)/\er=e/\e≠0/\k<=s.size)
theorem qae4 (l:List ByteArray) (s:ByteArray):(whoL l s=none)=(inB l s=false):=by
 unfold whoL inB;rw [List.findIdx?_eq_none_iff,List.any_eq_false,eq_iff_iff]
 constructor
 · intro h x hx;simpa using h x hx
 · intro h x hx;simpa using h x hx
theorem qyu {names:List ByteArray} (h:errNm names=0) {k:Nat} {x:ByteArray} (hx:names[k]? = some x):whoL (names.take k) x=none:=by
 rw [qae4];by_cases hb:inB (names.take k) x=true
 ·
  by_cases ha:names.all nmB=true
  ·
   have:=qjr ha hx hb;rw [h] at this
   cases this
  ·
   unfold errNm at h;rw [if_neg ha] at h
   cases h
 · simpa using hb
theorem qps (a:Option Addr) (m c n:Nat) (hn:n<=c) (w:World) :
  (Instr.slice 22 (.slice a m c) none (some (.int .i64 (n:Int))) none).run Tryz.prog w=.ok (.slice a n c) w:=by
 obtain ⟨d,hd,hz,hsz,hby⟩:=info_parts infoS;have hu:=Tryz.underlying22;have he:Tryz.prog.elem 22=9:=by unfold Program.elem;rw [hu]
 have:=run_slice_h (P:=Tryz.prog) (w:=w) 22 a m c (by rw [hu,he]) .i64 n (by omega) (by omega);rw [this,he];simp [sizeOf,typeInfo,hd,hsz,sliced];intro _
 cases a <;> rfl
theorem qv1 (Y:Nat->Prop) (s:ByteArray) (names:List ByteArray) (a:Option Addr) (c:Nat) (w:World) (h:StrsR w a c names) (hnz:∀ x∈names,x.size<=1048576) (hnl:names.length<=1000) (hs:s.size<=281474976710656) (hW:Wok names s.data.toList) (he:ErrW w) (hY:∀ b,Y b->b<w.heap.size) :
  Calls Tryz.prog 29 #[.string s,.slice a names.length c] w (qys Y names s w):=by
 replace hY:=Hd hY;have CK:=Hd (qlt names a c w h hnz (by omega));have HN:=Hd (fun W (hW:Below w.heap.size w W)=>h.ext (xbw hW));have HNZ:=Hd hnz;have HE:=Hd (fun W (hW:Below w.heap.size w W)=>he.below hW);have HWk:=Hd hW;have hcap:=h.1;obtain ⟨te,pe,hec⟩:=id he;have hge:=Hd (World.block_lt_of_cell? w _ hec);have hmm:=@run_makeMap Tryz.prog;clear h hnz he hW hec;obtain ⟨er,her⟩:∃ e,errNm names=e:=⟨_,rfl⟩
 rw [her] at CK;by_cases he0:er=0
 ·
  subst he0;have hle:min names.length 64<=names.length:=Nat.min_le_left _ _;have hsl:=fun W=>qps a names.length c (min names.length 64) (by omega) W
  have htl:(names.take 64).length=min names.length 64:=by rw [List.length_take,Nat.min_comm]
  obtain ⟨K,hK⟩:∃ K,min names.length 64=K:=⟨_,rfl⟩
  have hKi:min (names.length:Int) 64=(K:Int):=by omega
  rw [hK] at hsl htl hle;have hK64:K<=64:=by omega
  replace hK:=Hd hK;replace htl:=Hd htl;go_enter Tryz.func29,Tryz.ntmps29;go_wp2_with fail;refine CK.out.mono ?_;rintro e w1 ⟨rfl,hb1⟩;go_wp2;refine qak (fun W=>OwnV W w1.heap.size 0 []/\RdA W (w1.heap.size+1) s w1.heap.size 0 0 0/\Below w.heap.size w W) ⟨(OwnV.made w1).alloc _,bN (by simp),(hb1.alloc hb1.size _).alloc (by have:=hb1.size;simp;omega) _⟩ ?_;rintro w2 ⟨hm2,hr2,hw2⟩;obtain ⟨mb,hmb⟩:∃ q,w1.heap.size=q:=⟨_,rfl⟩
  obtain ⟨g,hg⟩:∃ q,mb+1=q:=⟨_,rfl⟩
  have hmw:=Hd (show w.heap.size<=mb by have:=hb1.size;omega);rw [hmb] at hm2 hr2 ⊢;rw [hg] at hr2 ⊢;have hne:=Hd (show mb≠g by omega);have hgw:=Hd (show w.heap.size<=g by have:=hmw.out;omega);replace hmb:=Hd hmb;replace hg:=Hd hg;clear hmm hb1 CK hsl hKi
  go_loopg [9,10,27] K (fun gk _ _ i wr=>∃ k:Nat,Hid (k+gk=K)/\i=.int .i64 k/\Hid (OwnV wr mb k (names.take k))/\Hid (RdA wr g s mb 0 0 0)/\Below w.heap.size w wr)
  case atStart=>exact ⟨0,by show _=_;omega,rfl,by show OwnV _ _ _ _;rw [List.take_zero];exact hm2,hr2,hw2⟩
  case round =>
   clear hm2 hr2 hw2;obtain ⟨k,hk,rfl,hm,hr,hwr⟩:=hrel;by_cases hlt:k<K
   ·
    obtain ⟨x,hx⟩:=qad (show k<names.length by omega);obtain ⟨b,off,ha,hcx⟩:=(HN.out wr hwr).2.2 k x hx;simp only [Nat.mul_one] at hcx;have hcx2:wr.cell? ⟨b,off+k,none⟩=some (.string x):=hcx;clear hcx;have hxs:x.size<=maxLen:=by have:=HNZ.out x (List.mem_of_getElem? hx);unfold maxLen;omega
    have hwho:=Hd (qyu her hx);have hsu:=Hd (qbc hx);have hlk:=Hd (show ((names.take k).length:Nat)=k by rw [List.length_take];omega);have hro:=hr.out;obtain ⟨z0,z1,z2,z3,z4⟩:=cq5 hro;have hl:=hro.lt;clear hx hro;subst ha;go_wp2_with (at_mapUpdate;go_must (refine qac5 rfl (.tmp 35) (.tmp 36) (.tmp 37) rfl rfl hm.out (by omega) x hxs rfl hwho.out (by have:=hlk.out;omega) (by have:=hlk.out;show Value.int .i64 (k:Int)=_;rw [this]) ?_);intro w3 hm3 hg3);have hm4:=Hd (show OwnV w3 mb (k+1) (names.take (k+1)) by rw [hsu.out];exact hm3);have hr4:=Hd (show RdA w3 g s mb 0 0 0 from Blk.grown hr.out hg3 (fun e=>by injection e with e;exact hne.out e.symm));have hw3:=Hd (show Below w.heap.size w w3 from hwr.grown hg3 hwr.size (fun q hq=>by injection hq with hq;have:=hmw.out;omega));clear hm3 hg3;go_roundg (gk-1)
    case rel=>exact ⟨k+1,by have:=hk.out;show _=_;omega,by go_num,hm4.out,hr4.out,hw3.out⟩
    case measure=>have:=hk.out;omega
   ·
    have hkK:k=K:=by have:=hk.out;omega
    subst hkK;have htk:names.take k=names.take 64:=by
     have hkk:=hK.out;by_cases h64:names.length<=64
     · rw [List.take_of_length_le (by omega),List.take_of_length_le h64]
     · rw [show k=64 by omega]
    rw [htk] at hm;have CS:=qah3 (fun b=>b=g\/Y b) g mb 0 k s names wr (fun b hb=>hb.elim (fun e=>by rw [e];exact hr.out.lt) fun hb=>ltl (hY.out b hb) hwr.size) (fun b hb=>.inl hb) hr.out hs hm.out hne.out (HE.out wr hwr) (by have:=hge.out;have:=hgw.out;omega);have hWk:=HWk.out;obtain ⟨G,hG⟩:∃ G,reaG names s.data.toList=G:=⟨_,rfl⟩
    have hokM:=fun L r (e:reaG names s.data.toList=.ok L r)=>(qh3 e).2
    have hrp:readP names s.data.toList=G.bnd fun l r=>.ok (normP l) r:=by unfold readP;rw [hG]
    unfold Wok at hWk;rw [hG] at CS hWk hokM;have herh:=Hd her;replace CS:=Hd CS;replace hWk:=Hd hWk;replace hokM:=Hd hokM;replace hG:=Hd hG;replace hrp:=Hd hrp;have hwr2:=Hd hwr;clear hr hm htk hwr;go_wp2_with fail;refine CS.out.mono ?_;rintro e w3 ⟨ra,n,rc,rfl,hok,hS,hf⟩;have hw3:=Hd (show Below w.heap.size w w3 from Below.fr hwr2.out hf (fun b hb=>by subst hb;exact hgw.out) hwr2.out.size);clear CS hf hwr2
    cases G with
    | bad kk ee =>
     obtain ⟨p,hp,hkk,h0,hR⟩:=(hS:StE w3 g s mb kk ee)
     obtain ⟨z0,z1,z2,z3,z4⟩:=cq5 hR;have hl:=Blk.lt hR;have hz:(ee != 0)=true:=by simpa using h0
     replace h0:=Hd h0;have hwd:=Hd (show Below w.heap.size w w3.drew from hw3.out.drew);clear hR hok;go_wp2;refine wrx (S:=(fun x=>x=w3.drew)) [(0,.q),(1,.q),(2,.q),(3,.q),(4,.q),(5,.q),(6,.q),(7,.q),(8,.q),(9,.q),(10,.p)] (rfl) ?_
     iterate 10 (refine qab rfl rfl fun K hK=>xq ?_;go_simp;refine hK _ _ ?_;clear hK K)
     iterate 1 (refine qae rfl rfl fun K hK=>xp ?_;go_simp;refine hK _ _ ?_;clear hK K)
     refine qac ?_;go_wp2;go_ret3;refine ⟨none,0,0,_,ee,rfl,hwd.out,fun hh=>absurd herh.out hh,fun _=>?_⟩;rw [hrp.out];exact ⟨rfl,rfl,rfl,rfl,h0.out,hkk⟩
    | ok L r =>
     obtain ⟨p,hp,hr2,hR⟩:=(hS:StR w3 g s mb r)
     obtain ⟨rfl,hP,hQ⟩:=hok L r rfl;have hM:=hokM.out L r rfl;have hwt:=hWk.out L r rfl;have hlt:=hR.lt;have CN:=Hd (qai7 (fun b=>b=g\/Y b) L ra rc w3 (fun b hb=>hb.elim (fun e=>by rw [e];exact hlt) fun hb=>ltl (hY.out b hb) hw3.out.size) hP hM hQ hwt);have hfi:=qho hM hwt (onesP L) (List.infix_refl _);have hnm:qa7 (onesP L)=normP L:=qgl hM;rw [hnm] at CN hfi;replace hfi:=Hd hfi;obtain ⟨z0,z1,z2,z3,z4⟩:=cq5 hR;have hl:=Blk.lt hR;clear hR hP hQ hM hwt hnm hok hlt;go_wp2_with fail;refine CN.out.mono ?_;rintro e w4 ⟨a4,c4,rfl,hP4,hb4⟩;have hw4:=Hd (bth hw3.out hb4);replace hP4:=Hd hP4;go_wp2;go_ret3;refine ⟨a4,_,c4,0,0,rfl,hw4.out,fun hh=>absurd herh.out hh,fun _=>?_⟩;rw [hrp.out];exact ⟨rfl,hP4.out.map fun _ r=>r.less fun b hb=>.inr hb,rfl,rfl,hfi.out⟩
 ·
  have hne:(er != 0)=true:=by simpa using he0
  replace he0:=Hd he0;replace her:=Hd her;go_enter Tryz.func29,Tryz.ntmps29;go_wp2_with fail;refine CK.out.mono ?_;rintro e w1 ⟨rfl,hb1⟩;go_wp2;go_ret3;exact ⟨none,0,0,0,er,rfl,hb1,fun _=>⟨rfl,rfl,rfl,her.out.symm⟩,fun h=>absurd (her.out.symm.trans h) he0.out⟩
theorem qx2 (t:Bool × Nat × Nat) (h1:(limbs t.2.1).length<=2000000) (h2:(limbs t.2.2).length<=2000000):(textF t).length<=20000002:=by
 unfold textF;have a1:=qjv t.1 t.2.1 h1;have a2:=qdk t.2.2 h2
 split
 · omega
 · rw [List.length_append,List.length_cons];omega
theorem qjy (q:Rat) {k:Nat} (h:qsz q<=k) (hk:k<=100000):(textQ q).length<=20000002:=by
 have h1:=qbm q;have h2:=qbj q;exact qx2 _ (by show (limbs q.num.natAbs).length<=_;omega) (by show (limbs q.den).length<=_;omega)
theorem zz63 {P:Prop} (h:P:=by
 go_roundg (gk-1)
 case rel=>exact ⟨k2+1,a3,c3,by have:=hk2.out;show _=_;omega,by go_num,by rw [hp.out,List.length_append];rfl,by rw [hp.out];exact ho3.out,hw4.out⟩
 case measure=>have:=hk2.out;omega
 ):P:=h
theorem zz61 {P:Prop} (h:P:=by
 obtain ⟨k2,a2,c2,hk2,rfl,rfl,hO,hwr⟩:=hrel;have HO:=Hd hO;clear hO;by_cases hlt:k2<m.length
 ·
  obtain ⟨x,hx⟩:=qad hlt;obtain ⟨bm,om,rfl,hcx,hxw⟩:=(HM.out wr hwr).2.2 k2 x hx;simp only [Nat.mul_one] at hcx;obtain ⟨hx0,hx1⟩:=HX.out x (List.mem_of_getElem? hx);have hxi:=qln hxw;have hkn:k2<names.length:=by omega
  obtain ⟨s,hs⟩:=qad hkn;obtain ⟨bn,on,rfl,hcn⟩:=HN.out.2.2 k2 s hs;simp only [Nat.mul_one] at hcn;have hcn2:=held (held hcn wr hwr);have hsn:nameA names k2=s:=by unfold nameA;rw [List.getD_eq_getElem?_getD,hs];rfl
  have hss:=HNZ.out s (List.mem_of_getElem? hs);have hpl:=qgb q m names k2;have hsu:=qkt (q:=q) (names:=names) hx;replace hsn:=Hd hsn;replace hsu:=Hd hsu;have hml:=HML.out;have hgk:=hk2.out;clear hxw hs hx hcn;by_cases h1:x=1
  ·
   have hp:qaz q m names (k2+1)=qaz q m names k2++[s]:=by rw [hsu.out,h1,qq1,hsn.out]
   replace hp:=Hd hp;have HLE:Hid ((qaz q m names k2++[s]).length<=16777216):=Hd (by rw [List.length_append];simp;omega);have h1e:(x==1)=true:=by simp [h1]
   have hcell:=hcn2;have hcn3:=hcn2 wr brf;clear h1 hgk hpl;go_wp2_with (at_builtin;go_must (refine qma rfl (.tmp 39) (.tmp 44) rfl a2 c2 rfl (HO.out.alloc _) s wr.heap.size 1 rfl (by simp) (qaz q m names k2++[s]) rfl HLE.out (by have:=hwr.size;simp;omega) ?_);intro a3 c3 w4 ho3 hg3 hx3);have hw4:=qav (hwr.alloc hwr.size _) (HO.out.alloc _) hg3;replace ho3:=Hd ho3;replace hw4:=Hd hw4;clear hx3 hg3 HO;exact zz63
  ·
   have h1e:(x==1)=false:=by simp [h1]
   by_cases h2:1<x
   ·
    obtain ⟨xn,rfl⟩:∃ xn:Nat,x=(xn:Int):=⟨x.toNat,by omega⟩
    obtain ⟨y,hy⟩:∃ y,s++⟨#[94]⟩++ofL (textN xn)=y:=⟨_,rfl⟩
    have hp:qaz q m names (k2+1)=qaz q m names k2++[y]:=by rw [hsu.out,qo5 h2,hsn.out,Int.toNat_natCast,hy]
    replace hp:=Hd hp;have hsz1:(ofL (textN xn)).size<=10:=by rw [qa4];have:=qmy (xn:Int) hx1;rwa [Int.toNat_natCast] at this
    have hsz3:s.size+1<=1048577:=by omega
    have hsz4:s.size+1+(ofL (textN xn)).size<=1048587:=by omega
    have hn3:¬ 9223372036854775807<s.size+1:=by omega
    have hn4:¬ 9223372036854775807<s.size+1+(ofL (textN xn)).size:=by omega
    have HLE:Hid ((qaz q m names k2++[y]).length<=16777216):=Hd (by rw [List.length_append];simp;omega);replace hy:=Hd hy;clear h1 hgk hpl hxi;go_wp2;have s0:Below wr.heap.size wr wr.drew:=brf.drew;refine wrx (S:=Below wr.heap.size wr) [(0,.q),(1,.q),(2,.q),(3,.q),(4,.q),(5,.q),(6,.q),(7,.l),(8,.q),(9,.l),(10,.t),(11,.p)] (s0) ?_
    iterate 7 (refine qab rfl rfl fun K hK=>xq ?_;go_simp;refine hK _ _ ?_;clear hK K)
    refine qal rfl rfl (fun K hK=>?_);go_simp;refine (qoy xn _ (HTB.out _ (bth hwr s0)) (by omega)).mono ?_;rintro r u1 ⟨rfl,hb1⟩;dsimp only;refine hK.out _ _ (bth s0 hb1) (fun _=>?_);clear hK K;have s1:=bth s0 hb1;have hw1:=bth hwr s1;have HO1:=Hd (HO.out.below s1)
    iterate 1 (refine qab rfl rfl fun K hK=>xq ?_;go_simp;refine hK _ _ ?_;clear hK K)
    refine qal rfl rfl (fun K hK=>?_);go_simp;refine hK.out _ _ ((s1.alloc s1.size _)) (fun _=>?_);clear hK K;refine qam rfl rfl (fun K hK=>?_);rw [hy.out];refine qkr (.tmp 49) (.tmp 58) 22 rfl Tryz.underlying22 infoS rfl (by omega) (by omega) qlb a2 c2 rfl (HO1.out.alloc _) y (qqh y) u1.heap.size 1 rfl (qow (by simp)) (qaz q m names k2++[y]) rfl HLE.out (by have:=hw1.size;simp;omega) ?_;intro a3 c3 w4 ho3 hg3 hx3;go_simp;refine hK.out _ _ ?_;clear hK K
    iterate 1 (refine qae rfl rfl fun K hK=>xp ?_;go_simp;refine hK _ _ ?_;clear hK K)
    refine qac ?_;have hw4:=qav (hw1.alloc hw1.size _) (HO1.out.alloc _) hg3;replace ho3:=Hd ho3;replace hw4:=Hd hw4;clear hx3 hg3 HO HO1 hb1 s0 s1 hw1;go_wp2;exact zz63
   ·
    have hp:qaz q m names (k2+1)=qaz q m names k2:=by rw [hsu.out,qnu (by omega),List.append_nil]
    replace hp:=Hd hp;clear h1 hgk hpl;go_wp2;go_roundg (gk-1)
    case rel=>exact ⟨k2+1,a2,c2,by have:=hk2.out;show _=_;omega,by go_num,by rw [hp.out],by rw [hp.out];exact HO.out,hwr⟩
    case measure=>have:=hk2.out;omega
 ·
  have hkm:k2=m.length:=by have:=hk2.out;omega
  have hsh:=qin (qgp (q:=q) (m:=m) (names:=names) (N:=1048576) (T:=20000002) HNZ.out (fun x hx=>(HX.out x hx).2) HT.out k2);have hpl:=qgb q m names k2;have hml:=HML.out;have CJ:=qab9 (qaz q m names k2) starB a2 c2 wr HO.out.reads1 (by omega) (Nat.le_trans hsh (Nat.le_trans (Nat.mul_le_mul_right _ (show _<=65 by omega)) (by omega)));rw [hkm] at CJ ⊢;replace CJ:=Hd CJ;clear hsh hpl hkm;go_wp2_with fail;refine CJ.out.mono ?_;rintro e w5 ⟨rfl,hb5⟩;go_wp2;go_ret;exact ⟨rfl,bth hwr hb5⟩
 ):P:=h
theorem zz62 {P:Prop} (h:P:=by
 have CT:=qai9 z.pos (absQ q) k w2 (HQ.out w2 hw0) (by omega);obtain ⟨x0,x1,x2⟩:=cq3 h1;replace CT:=Hd CT;go_wp2_with fail;refine CT.out.mono ?_;rintro e w3 ⟨rfl,hb3⟩;have hw3:=bth hw0 hb3;replace h0:=h0.below' hb3;clear x0 x1 x2 hb3 CT h1 hw0;have gl0:=h0.lt;have x3:=h0.cell 3;go_wp2_with (at_builtin;go_must (refine qma rfl (.tmp 23) (.tmp 26) rfl none 0 rfl (Own.nil (B:=w.heap.size)) (ofL (textQ (absQ q))) w3.heap.size 1 rfl (by simp) ([]++[ofL (textQ (absQ q))]) rfl (by simp) (by have:=hw3.size;simp;omega) ?_);intro a3 c3 w4 ho3 hg3 hx3;have x4:=((h0.alloc (.cells #[.string (ofL (textQ (absQ q)))] 9)).grown hg3 (by simp [Value.ownBlock])).cell 3);have hw4:=qav (hw3.alloc hw3.size _) (show OwnS w.heap.size _ none 0 [] from Own.nil) hg3;replace ho3:=Hd ho3;clear hx3 hg3 h0 x3 x4 gl0;go_wp2
 go_loopg [6,7,8,31] m.length (fun g s6 _ _ s31 wr=>∃ (k2:Nat) (a2:Option Addr) (c2:Nat),Hid (k2+g=m.length)/\s31=.int .i64 k2/\s6=.slice a2 (qaz q m names k2).length c2/\OwnS w.heap.size wr a2 c2 (qaz q m names k2)/\Below w.heap.size w wr)
 case atStart=>exact ⟨0,a3,c3,by show _=_;omega,rfl,by rw [qc0,hcf.out];rfl,by rw [qc0,hcf.out];exact ho3.out,hw4⟩
 case round =>
  exact zz61
 ):P:=h
theorem qg9 (z:QA) (q:Rat) (m:List Int) (names:List ByteArray) (aa na:Option Addr) (ac nc k:Nat) (w:World) (Hq:QK k w z q) (hk:k<=1000) (hm:IntsR w aa ac m) (hn:StrsR w na nc names) (hl:m.length<=names.length) (hml:m.length<=64)
  (hx:∀ x∈m,0<=x/\x<=1048576) (hnz:∀ s∈names,s.size<=1048576) (ht:TabW w) :
  Calls Tryz.prog 54 #[.agg #[.bool z.neg,.slice z.a z.n z.c,.slice z.b z.m z.d,.slice aa m.length ac],.slice na names.length nc] w fun e w'=>e=.returned (.string (termB q m names))/\Below w.heap.size w w':=by
 have hsz:(textQ (absQ q)).length<=20000002:=qjy _ Hq.abs.2 (by omega);have HT:=Hd hsz;have HQ:=Hd (fun W (hW:Below w.heap.size w W)=>Hq.abs.ext (xbw hW));have HM:=Hd (fun W (hW:Below w.heap.size w W)=>hm.ext (xbw hW));have HN:=Hd hn;have HX:=Hd hx;have HNZ:=Hd hnz;have HML:=Hd hml;have HTB:=Hd (fun W (hW:Below w.heap.size w W)=>ht.below hW);clear Hq hm hn hx hnz ht hsz hml;go_enter Tryz.func54,Tryz.ntmps54;go_wp2;refine qak (fun W=>Blk W w.heap.size 81 #[.bool z.neg,.slice z.a z.n z.c,.slice z.b z.m z.d,.slice aa m.length ac]/\Blk W (w.heap.size+1) 76 #[.bool false,.slice z.a z.n z.c,.slice z.b z.m z.d]/\Below w.heap.size w W) (by refine ⟨?_,?_,?_⟩<;>first|((with_reducible repeat first|assumption|(apply bF;focus omega)|apply bS|(apply bN;focus (simp;done))|apply bA|apply bD);all_goals rfl)|go_grown) ?_;rintro w0 ⟨h0,h1,hw0⟩;obtain ⟨g1,hg1⟩:∃ g,w.heap.size+1=g:=⟨_,rfl⟩
 rw [hg1] at h1 ⊢;have hgg:w.heap.size<g1:=by omega
 clear hg1;have gl0:=h0.lt;have gl1:=h1.lt;have k03:=held (h0.cell 3);have k10:=held (h1.cell 0);have k11:=held (h1.cell 1);have k12:=held (h1.cell 2);have s0:Below w0.heap.size w0 w0.drew:=brf.drew;by_cases hm0:m.length=0
 ·
  have hl0:((m.length:Int)==0)=true:=by rw [beq_iff_eq];omega
  have hcf:=Hd (show cofP q m=[ofL (textQ (absQ q))] from if_pos (.inl hm0));clear hm0;refine wrx (S:=Below w0.heap.size w0) [(0,.q),(1,.q),(2,.q),(3,.q),(4,.q),(5,.q),(6,.l),(7,.t),(8,.p),(9,.p)] (s0) ?_
  iterate 5 (refine qab rfl rfl fun K hK=>xq ?_;go_simp;refine hK _ _ ?_;clear hK K)
  iterate 4 (refine qar rfl rfl (fun K hK=>?_);go_simp;refine hK _ _ ?_;clear hK K)
  iterate 1 (refine qae rfl rfl fun K hK=>xp ?_;go_simp;refine hK _ _ ?_;clear hK K)
  refine qac ?_;clear k03 k10 k11 k12;replace h0:=h0.below' s0;replace h1:=h1.below' s0;replace hw0:=bth hw0 s0;clear s0 gl0 gl1;obtain ⟨w2,hw2⟩:∃ W,w0.drew=W:=⟨_,rfl⟩
  rw [hw2] at h0 h1 hw0 ⊢;clear hw2;exact zz62
 ·
  have hl0:((m.length:Int)==0)=false:=by rw [beq_eq_false_iff_ne];omega
  have CE:=fun y W h1 h2=>qad2 z.pos y (absQ q) 1 (k+1) W h1 h2 (by omega)
  obtain ⟨bo,hbo⟩:∃ b,decide (absQ q=1)=b:=⟨_,rfl⟩
  simp only [hbo] at CE;replace CE:=Hd CE;replace hbo:=Hd hbo;refine wrx (S:=Below w0.heap.size w0) [(0,.q),(1,.q),(2,.q),(3,.q),(4,.q),(5,.q),(6,.l),(7,.t),(8,.p),(9,.p)] (s0) ?_
  iterate 6 (refine qab rfl rfl fun K hK=>xq ?_;go_simp;refine hK _ _ ?_;clear hK K)
  refine qal rfl rfl (fun K hK=>?_);go_simp;refine (qwi _).mono ?_;rintro r u1 ⟨y,rfl,J,hb1⟩;dsimp only;refine hK.out _ _ (bth s0 hb1) (fun _=>?_);clear hK K;have s1:=bth s0 hb1;refine qam rfl rfl (fun K hK=>?_);go_simp;refine (CE.out y _ (QK.more (HQ.out _ (bth hw0 s1)) (by omega)) (QK.more J.now (by omega))).mono ?_;rintro r w2 ⟨rfl,hb2⟩;dsimp only;refine hK.out _ _ ?_;clear hK K;have s2:=bth s1 hb2
  iterate 2 (refine qae rfl rfl fun K hK=>xp ?_;go_simp;refine hK _ _ ?_;clear hK K)
  refine qac ?_;clear k03 k10 k11 k12;replace h0:=h0.below' s2;replace h1:=h1.below' s2;replace hw0:=bth hw0 s2;clear s0 s1 s2 gl0 gl1 hb1 hb2 J;clear CE
  cases bo
  ·
   have hcf:=Hd (show cofP q m=[ofL (textQ (absQ q))] from if_pos (.inr (of_decide_eq_false hbo.out)));clear hbo;exact zz62
  ·
   have hcf:=Hd (show cofP q m=[] from if_neg (by rintro (h | h);exact hm0 h;exact h (of_decide_eq_true hbo.out)));have x3:=h0.cell 3;clear hbo;go_wp2
   go_loopg [6,7,8,31] m.length (fun g s6 _ _ s31 wr=>∃ (k2:Nat) (a2:Option Addr) (c2:Nat),Hid (k2+g=m.length)/\s31=.int .i64 k2/\s6=.slice a2 (qaz q m names k2).length c2/\OwnS w.heap.size wr a2 c2 (qaz q m names k2)/\Below w.heap.size w wr)
   case atStart=>exact ⟨0,none,0,by show _=_;omega,rfl,by rw [qc0,hcf.out];rfl,by rw [qc0,hcf.out];exact Own.nil,hw0⟩
   case round =>
    exact zz61
def cofA (t:Trm) (p:RA):QA:=⟨t.coef.neg,t.coef.num.length,p.na,p.nc,t.coef.den.length,p.da,p.dc⟩
theorem qkm {w:World} {t:Trm} {p:RA} (h:qeq w p t.mono t.coef) (hr:t.coef.right=true) (h1:t.coef.num.length<=1000) (h2:t.coef.den.length<=1000):QK 1000 w (cofA t p) t.coef.q:=by
 obtain ⟨a,b⟩:=RtZ.qac (w:=w) (r:=t.coef) (z:=cofA t p) ⟨rfl,rfl,rfl,h.2.1,h.2.2⟩ hr;exact ⟨a,by omega⟩
theorem qga {q:Rat} {m:List Int} {names:List ByteArray} (hn:∀ s∈names,s.size<=1048576) (hm:∀ x∈m,x<=1048576) (ht:(textQ (absQ q)).length<=20000002) (hml:m.length<=64):(termB q m names).size<=1400000000:=by
 have hsh:=qin (qgp (q:=q) (m:=m) (names:=names) (N:=1048576) (T:=20000002) hn hm ht m.length);have hpl:=qgb q m names m.length;exact Nat.le_trans hsh (Nat.le_trans (Nat.mul_le_mul_right _ (show _<=65 by omega)) (by omega))
theorem qaf4 (q:Rat):qsz (absQ q)=qsz q:=by unfold absQ;split;exact qfb q;rfl
theorem qg2 {t:Trm} (hr:t.coef.right=true) (h1:t.coef.num.length<=1000) (h2:t.coef.den.length<=1000):(textQ (absQ t.coef.q)).length<=20000002:=by
 obtain ⟨e1,e2,e3⟩:=qep hr;refine qjy (k:=1000) _ ?_ (by omega);rw [qaf4];unfold qsz;rw [e2,e3]
 omega
theorem qq8 (q:Rat):decide (sgnQ q<0)=decide (q<0):=by
 unfold sgnQ;by_cases h:q=0
 · subst h;rw [if_pos rfl];rfl
 ·
  rw [if_neg h];by_cases h2:q<0
  · rw [if_pos h2];simp [h2]
  · rw [if_neg h2];simp [h2]
theorem qti {l:List Trm} {n:Nat} {t:Trm} (h:bigB l n=false) (ht:t∈l):t.mono.length<=n:=by
 apply Nat.le_of_not_lt;intro hc;have:bigB l n=true:=by unfold bigB;rw [List.any_eq_true];exact ⟨t,ht,by simpa using hc⟩
 rw [h] at this;cases this
theorem zz65 {P:Prop} (h:P:=by
 rw [hL5e] at hL5 hB6;have hlen5:L5.length<=1400000004000:=by
  have e2:=congrArg ByteArray.size hL.out;rw [qa4] at e2;have e1:=congrArg ByteArray.size hL5.out;rw [qa4,ByteArray.size_append] at e1;have:=qmc k t.coef.q
  omega
 have CW2:=Hd (qhb w3.heap.size L5 tb w6 hB6 (by omega));clear k0 k1 k2' k3 CT hb6 hB5 hC5 gC5 hw5 htb hL5e;replace hps2:=Hd hps2;go_wp2_with fail;refine CW2.out.mono ?_;rintro e w7 ⟨⟨vv2,rfl⟩,hB7,hb7,ho7⟩;have hw7:=hw6.trans hb7;have hL7:ofL (L5++tb.data.toList)=qa2 l names (k+1):=by rw [hps2.out,<- hL5.out,<- qc6];rfl
 replace hL7:=Hd hL7;clear CW2 hB6 hb7 ho7 hw6;go_wp2;go_roundg (gk-1)
 case rel=>exact ⟨k+1,_,by have:=hk.out;show _=_;omega,by go_num,hB7,hL7.out,hw7⟩
 case measure=>have:=hk.out;omega
 ):P:=h
theorem zz64 {P:Prop} (h:P:=by
 by_cases hl0:l.length=0
 ·
  have hl1:((l.length:Int)==0)=true:=by rw [beq_iff_eq];omega
  have hfin:=Hd (show R=(⟨#[48]⟩,0) by rw [<- hR.out,if_pos hl0]);clear hR hl0;go_wp2;go_ret2;exact ⟨by rw [hfin.out];rfl,hw3⟩
 have hl1:((l.length:Int)==0)=false:=by rw [beq_eq_false_iff_ne];omega
 have hfin:=Hd (show R=(qa2 l names l.length,0) by rw [<- hR.out,if_neg hl0]);clear hR hl0;go_wp2;have hB0:=Bld.new w3;have hb0:Below w3.heap.size w3 (w3.alloc (.cells #[.pointer none,.slice none 0 0] 102)):=brf.alloc (nlr _) _;revert hB0 hb0;generalize w3.alloc (.cells #[.pointer none,.slice none 0 0] 102)=w4;intro hB0 hb0
 go_loopg [9,10,11,41] l.length (fun g _ _ _ s41 wr=>∃ (k:Nat) (L:List UInt8),Hid (k+g=l.length)/\s41=.int .i64 k/\Bld w3.heap.size L wr/\Hid (ofL L=qa2 l names k)/\Below w3.heap.size w3 wr)
 case atStart=>exact ⟨0,[],by show _=_;omega,rfl,hB0,rfl,hb0⟩
 case round =>
  clear hB0 hb0;obtain ⟨k,L,hk,rfl,hB,hL,hwr⟩:=hrel;by_cases hlt:k<l.length
  ·
   obtain ⟨t,ht⟩:=qad hlt;have htl:=List.mem_of_getElem? ht;have hp0:=HP.out w brf;obtain ⟨b,o,rfl,p,hC0,hR0⟩:=hp0.2.2 k t ht;obtain ⟨c0,c1,c2,c3⟩:=hC0;have hww:=bth hw3 hwr;have d0:=held c0 wr hww;have d1:=held c1 wr hww;have d2:=held c2 wr hww;have d3:=held c3 wr hww;have hbl:b<wr.heap.size:=World.block_lt_of_cell? wr _ d0;have HR:=Hd (fun W (hW:Below w.heap.size w W)=>qeq.ext hR0 (xbw hW));have HC:=Hd (fun W (hW:Below w.heap.size w W)=>qkm (HR.out W hW) (HPB.out t htl).1 (HQ.out t htl).1 (HQ.out t htl).2);have htm:=qbv (HPB.out t htl).2;have htn:=qti hbg.out htl;have HTS:=Hd (qga HNZ.out (fun x hx=>(htm.2 x hx).2) (qg2 (HPB.out t htl).1 (HQ.out t htl).1 (HQ.out t htl).2) htm.1);have hplen:L.length<=1000*(1400000000+3):=by
    have e1:=qhx (l:=l) (names:=names) (M:=1400000000) (fun u hu=>qga HNZ.out (fun x hx=>((qbv (HPB.out u hu).2).2 x hx).2) (qg2 (HPB.out u hu).1 (HQ.out u hu).1 (HQ.out u hu).2) (qbv (HPB.out u hu).2).1) k;rw [<- hL.out,qa4] at e1;exact Nat.le_trans e1 (Nat.mul_le_mul_right _ (by omega))
   have ht2:=Hd ht;have hsl:=qq8 t.coef.q;have htm2:=Hd htm;clear c0 c1 c2 c3 hp0 hR0 ht htl hww htm;go_wp2_with fail;refine qah (fun W=>Blk W wr.heap.size 81 #[.bool t.coef.neg,.slice p.na t.coef.num.length p.nc,.slice p.da t.coef.den.length p.dc,.slice p.aa t.mono.length p.ac]/\Below wr.heap.size wr W) ⟨by ((with_reducible repeat first|assumption|(apply bF;focus omega)|apply bS|(apply bN;focus (simp;done))|apply bA|apply bD);all_goals rfl),by go_grown⟩ ?_;rintro w4 ⟨hC4,hb4⟩;have hB4:=hB.below hb4;have hw4:=bth hwr hb4;have hgb:wr.heap.size≠w3.heap.size:=by have:=hB.lt;omega
   obtain ⟨gC,hgC⟩:∃ q,wr.heap.size=q:=⟨_,rfl⟩
   rw [hgC] at hC4 hgb hbl ⊢;replace hgC:=Hd hgC;refine (qmn (cofA t p) t.coef.q 1000 w4 (HC.out w4 (bth hw3 hw4)) (by omega)).mono ?_;rintro e w5 ⟨rfl,hb5⟩;replace hB4:=hB4.below hb5;replace hC4:=hC4.below' hb5;replace hw4:=bth hw4 hb5;obtain ⟨w4,rfl⟩:∃ W,W=w5:=⟨_,rfl⟩
   obtain ⟨sg,hsg2⟩:∃ r,sgnQ t.coef.q=r:=⟨_,rfl⟩
   rw [hsg2] at hsl ⊢;clear d0 d1 d2 d3 hb4 hb5 hB hwr hsg2;by_cases hq:t.coef.q<0
   ·
    rw [decide_eq_true hq] at hsl;have hsi:sg<0:=of_decide_eq_true hsl;by_cases h0:k=0
    ·
     have hk0:((k:Int)==0)=true:=by rw [beq_iff_eq];omega
     have hk1:decide (0<k)=false:=by rw [decide_eq_false];omega
     have hsg:=Hd (show signP k t.coef.q=ofL [45] by unfold signP;rw [if_pos h0,if_pos hq];rfl);clear hsl hq h0;have CW:=Hd (qhb w3.heap.size L (⟨#[45]⟩:ByteArray) w4 hB4 (by show L.length+1<=_;omega));go_wp2_with fail;refine CW.out.mono ?_;rintro e w5 ⟨⟨vv,rfl⟩,hB5,hb5,ho5⟩;have hC5:=ho5.blk hC4 hgb (by decide);have hw5:=hw4.trans hb5;have hL5:ofL (L++(⟨#[45]⟩:ByteArray).data.toList)=qa2 l names k++signP k t.coef.q:=by rw [hsg.out,<- hL.out];exact (qc6 _ _).symm
     clear hB4 hC4 hb5 ho5 hw4 CW;have gC5:=hC5.lt;obtain ⟨k0,k1,k2',k3⟩:=cq4 hC5;have CT:=Hd (qg9 (cofA t p) t.coef.q t.mono names p.aa na p.ac nc 1000 w5 (HC.out w5 (bth hw3 hw5)) (by omega) (HR.out w5 (bth hw3 hw5)).1 (HN.out w5 (bth hw3 hw5)) htn htm2.out.1 htm2.out.2 HNZ.out (HT.out w5 (bth hw3 hw5)));replace hL5:=Hd hL5;go_wp2_with fail;refine CT.out.mono ?_;rintro e w6 ⟨rfl,hb6⟩;have hB6:=hB5.below hb6;have hw6:=bth hw5 hb6;obtain ⟨tb,htb⟩:∃ x,termB t.coef.q t.mono names=x:=⟨_,rfl⟩
     have hts:=HTS.out;rw [htb] at hts ⊢;have hps2:(qa2 l names (k+1))=qa2 l names k++signP k t.coef.q++tb:=by rw [<- htb];exact qb4 ht2.out
     obtain ⟨L5,hL5e⟩:∃ x,L++(⟨#[45]⟩:ByteArray).data.toList=x:=⟨_,rfl⟩
     exact zz65
    ·
     have hk0:((k:Int)==0)=false:=by rw [beq_eq_false_iff_ne];omega
     have hk1:decide (0<k)=true:=by rw [decide_eq_true_eq];omega
     have hsg:=Hd (show signP k t.coef.q=ofL [32,45,32] by unfold signP;rw [if_neg h0,if_pos hq];rfl);clear hsl hq h0;have CW:=Hd (qhb w3.heap.size L (⟨#[32,45,32]⟩:ByteArray) w4 hB4 (by show L.length+3<=_;omega));go_wp2_with fail;refine CW.out.mono ?_;rintro e w5 ⟨⟨vv,rfl⟩,hB5,hb5,ho5⟩;have hC5:=ho5.blk hC4 hgb (by decide);have hw5:=hw4.trans hb5;have hL5:ofL (L++(⟨#[32,45,32]⟩:ByteArray).data.toList)=qa2 l names k++signP k t.coef.q:=by rw [hsg.out,<- hL.out];exact (qc6 _ _).symm
     clear hB4 hC4 hb5 ho5 hw4 CW;have gC5:=hC5.lt;obtain ⟨k0,k1,k2',k3⟩:=cq4 hC5;have CT:=Hd (qg9 (cofA t p) t.coef.q t.mono names p.aa na p.ac nc 1000 w5 (HC.out w5 (bth hw3 hw5)) (by omega) (HR.out w5 (bth hw3 hw5)).1 (HN.out w5 (bth hw3 hw5)) htn htm2.out.1 htm2.out.2 HNZ.out (HT.out w5 (bth hw3 hw5)));replace hL5:=Hd hL5;go_wp2_with fail;refine CT.out.mono ?_;rintro e w6 ⟨rfl,hb6⟩;have hB6:=hB5.below hb6;have hw6:=bth hw5 hb6;obtain ⟨tb,htb⟩:∃ x,termB t.coef.q t.mono names=x:=⟨_,rfl⟩
     have hts:=HTS.out;rw [htb] at hts ⊢;have hps2:(qa2 l names (k+1))=qa2 l names k++signP k t.coef.q++tb:=by rw [<- htb];exact qb4 ht2.out
     obtain ⟨L5,hL5e⟩:∃ x,L++(⟨#[32,45,32]⟩:ByteArray).data.toList=x:=⟨_,rfl⟩
     exact zz65
   ·
    rw [decide_eq_false hq] at hsl;have hsi:¬ sg<0:=of_decide_eq_false hsl;by_cases h0:k=0
    ·
     have hk0:((k:Int)==0)=true:=by rw [beq_iff_eq];omega
     have hk1:decide (0<k)=false:=by rw [decide_eq_false];omega
     have hsg:=Hd (show signP k t.coef.q=⟨#[]⟩ by unfold signP;rw [if_pos h0,if_neg hq]);have hL5:ofL L=qa2 l names k++signP k t.coef.q:=by rw [hsg.out,<- hL.out];apply qe1;simp [ByteArray.data_append]
     clear hsl hq h0;obtain ⟨w5,rfl⟩:∃ W,W=w4:=⟨_,rfl⟩
     have hC5:=hC4;have hB5:=hB4;have hw5:=hw4;clear hC4 hB4 hw4;have gC5:=hC5.lt;obtain ⟨k0,k1,k2',k3⟩:=cq4 hC5;have CT:=Hd (qg9 (cofA t p) t.coef.q t.mono names p.aa na p.ac nc 1000 w5 (HC.out w5 (bth hw3 hw5)) (by omega) (HR.out w5 (bth hw3 hw5)).1 (HN.out w5 (bth hw3 hw5)) htn htm2.out.1 htm2.out.2 HNZ.out (HT.out w5 (bth hw3 hw5)));replace hL5:=Hd hL5;go_wp2_with fail;refine CT.out.mono ?_;rintro e w6 ⟨rfl,hb6⟩;have hB6:=hB5.below hb6;have hw6:=bth hw5 hb6;obtain ⟨tb,htb⟩:∃ x,termB t.coef.q t.mono names=x:=⟨_,rfl⟩
     have hts:=HTS.out;rw [htb] at hts ⊢;have hps2:(qa2 l names (k+1))=qa2 l names k++signP k t.coef.q++tb:=by rw [<- htb];exact qb4 ht2.out
     obtain ⟨L5,hL5e⟩:∃ x,L=x:=⟨_,rfl⟩
     exact zz65
    ·
     have hk0:((k:Int)==0)=false:=by rw [beq_eq_false_iff_ne];omega
     have hk1:decide (0<k)=true:=by rw [decide_eq_true_eq];omega
     have hsg:=Hd (show signP k t.coef.q=ofL [32,43,32] by unfold signP;rw [if_neg h0,if_neg hq];rfl);clear hsl hq h0;have CW:=Hd (qhb w3.heap.size L (⟨#[32,43,32]⟩:ByteArray) w4 hB4 (by show L.length+3<=_;omega));go_wp2_with fail;refine CW.out.mono ?_;rintro e w5 ⟨⟨vv,rfl⟩,hB5,hb5,ho5⟩;have hC5:=ho5.blk hC4 hgb (by decide);have hw5:=hw4.trans hb5;have hL5:ofL (L++(⟨#[32,43,32]⟩:ByteArray).data.toList)=qa2 l names k++signP k t.coef.q:=by rw [hsg.out,<- hL.out];exact (qc6 _ _).symm
     clear hB4 hC4 hb5 ho5 hw4 CW;have gC5:=hC5.lt;obtain ⟨k0,k1,k2',k3⟩:=cq4 hC5;have CT:=Hd (qg9 (cofA t p) t.coef.q t.mono names p.aa na p.ac nc 1000 w5 (HC.out w5 (bth hw3 hw5)) (by omega) (HR.out w5 (bth hw3 hw5)).1 (HN.out w5 (bth hw3 hw5)) htn htm2.out.1 htm2.out.2 HNZ.out (HT.out w5 (bth hw3 hw5)));replace hL5:=Hd hL5;go_wp2_with fail;refine CT.out.mono ?_;rintro e w6 ⟨rfl,hb6⟩;have hB6:=hB5.below hb6;have hw6:=bth hw5 hb6;obtain ⟨tb,htb⟩:∃ x,termB t.coef.q t.mono names=x:=⟨_,rfl⟩
     have hts:=HTS.out;rw [htb] at hts ⊢;have hps2:(qa2 l names (k+1))=qa2 l names k++signP k t.coef.q++tb:=by rw [<- htb];exact qb4 ht2.out
     obtain ⟨L5,hL5e⟩:∃ x,L++(⟨#[32,43,32]⟩:ByteArray).data.toList=x:=⟨_,rfl⟩
     exact zz65
  ·
   have hkl:k=l.length:=by have:=hk.out;omega
   have CS:=Hd (ql9 _ L wr hB);have hfin2:R=(ofL L,0):=by rw [hfin.out,hL.out,hkl]
   clear hfin hL hkl;go_wp2_with fail;refine CS.out.mono ?_;rintro e w5 ⟨rfl,hb5,_⟩;have hfin:=Hd hfin2;clear hfin2 CS;go_wp2;go_ret2;exact ⟨by rw [hfin.out];rfl,bth hw3 (hwr.trans hb5)⟩
 ):P:=h
theorem qtu (l:List Trm) (names:List ByteArray) (a na:Option Addr) (c nc:Nat) (w:World) (h:PolyR w a c l) (hq:∀ t∈l,t.coef.num.length<=1000/\t.coef.den.length<=1000) (hl:l.length<=1000)
  (hn:StrsR w na nc names) (hnl:names.length<=1000) (hnz:∀ s∈names,s.size<=1048576) (ht:TabW w) :
  Calls Tryz.prog 30 #[.slice a l.length c,.slice na names.length nc] w fun e w'=>e=.returned (.tuple #[.string (qd9 l names).1,.int .i64 (qd9 l names).2])/\Below w.heap.size w w':=by
 have CR:=qyh l a c w h (fun t ht=>by have:=hq t ht;omega);have CK:=fun W (hW:Below w.heap.size w W)=>qlt names na nc W (hn.ext (xbw hW)) hnz (by omega)
 have CV:=fun W (hW:Below w.heap.size w W) hm=>qaa5 l a c W (h.ext (xbw hW)) (by omega) hm
 have HP:=Hd (fun W (hW:Below w.heap.size w W)=>h.ext (xbw hW));have HN:=Hd (fun W (hW:Below w.heap.size w W)=>hn.ext (xbw hW));have HT:=Hd (fun W (hW:Below w.heap.size w W)=>ht.below hW);have HQ:=Hd hq;have HNZ:=Hd hnz;obtain ⟨R,hR⟩:∃ r,qd9 l names=r:=⟨_,rfl⟩
 rw [hR];unfold qd9 at hR;clear h hq hn hnz ht;replace CV:=Hd CV
 cases hpb:polyB l
 ·
  rw [hpb] at CR hR;have hfin:=Hd (show R=(⟨#[]⟩,1) from hR.symm);replace CR:=Hd CR;clear hpb hR CK;go_enter Tryz.func30,Tryz.ntmps30;go_wp2_with fail;refine CR.out.mono ?_;rintro e w1 ⟨rfl,hb1⟩;go_wp2;go_ret2;exact ⟨by rw [hfin.out];rfl,hb1⟩
 rw [hpb] at CR hR;have HPB:=Hd (qk2 hpb);rw [if_pos rfl] at hR;replace CR:=Hd CR;clear hpb;obtain ⟨er,her⟩:∃ e,errNm names=e:=⟨_,rfl⟩
 simp only [her] at CK hR;replace CK:=Hd CK;by_cases he:er=0
 ·
  subst he;rw [if_pos rfl] at hR;have hm64:∀ t∈l,t.mono.length<=64:=fun t ht=>(qbv (HPB.out t ht).2).1
  have hbl:=fun v h=>qvl (l:=l) (n:=names.length) (v:=v) (fun t ht=>(HPB.out t ht).2) h
  have hbn:=fun h=>qw6 (l:=l) (n:=names.length) (fun t ht=>(HPB.out t ht).2) h
  have CV2:=fun W hW=>CV.out W hW hm64
  replace CV2:=Hd CV2;replace hbl:=Hd hbl;replace hbn:=Hd hbn;replace hm64:=Hd hm64;replace her:=Hd her;clear CV;obtain ⟨bg,hbg⟩:∃ b,bigB l names.length=b:=⟨_,rfl⟩
  rw [hbg] at hR;replace hbg:=Hd hbg;go_enter Tryz.func30,Tryz.ntmps30;go_wp2_with fail;refine CR.out.mono ?_;rintro e w1 ⟨rfl,hb1⟩;go_wp2_with fail;refine (CK.out w1 hb1).mono ?_;rintro e w2 ⟨rfl,hb2⟩;have hw2:=bth hb1 hb2;go_wp2_with fail;refine (CV2.out w2 hw2).mono ?_;rintro e w3 ⟨av,cv,rfl,hV,hb3⟩;have hw3:=bth hw2 hb3;have hvl:=qos l 64;clear CR CK CV2 hb1 hb2 hb3 hw2;by_cases hv0:(varsI l 64).length=0
  ·
   have hbf:bg=false:=by rw [<- hbg.out];exact hbn.out hv0
   subst hbf;rw [if_neg (by simp)] at hR;have hv1:decide (0<(varsI l 64).length)=false:=by rw [decide_eq_false];omega
   replace hR:=Hd hR;clear hbn hbl hV hv0;exact zz64
  ·
   obtain ⟨v,hv⟩:=qad (xs:=varsI l 64) (k:=(varsI l 64).length-1) (by omega);have hv1:decide (0<(varsI l 64).length)=true:=by rw [decide_eq_true_eq];omega
   have hbv:=hbl.out v hv;rw [hbg.out] at hbv;obtain ⟨bv,ov,rfl,hcv,hvw⟩:=hV.2.2 _ v hv;simp only [Nat.mul_one] at hcv;have hvi:=qln hvw;have hle:(varsI l 64).length-1<(varsI l 64).length:=by omega
   have hcl:(((varsI l 64).length:Int)-1)=(((varsI l 64).length-1:Nat):Int):=by omega
   clear hvw hbn hbl hv hV;by_cases hbig:(names.length:Int)<=v
   ·
    have hbt:bg=true:=by rw [hbv];exact decide_eq_true hbig
    subst hbt;rw [if_pos rfl] at hR;have hfin:=Hd hR.symm;clear hR hbv;go_wp2;go_ret2;exact ⟨by rw [hfin.out];rfl,hw3⟩
   ·
    have hbt:bg=false:=by rw [hbv];exact decide_eq_false hbig
    subst hbt;rw [if_neg (by simp)] at hR;replace hR:=Hd hR;clear hbv;exact zz64
 ·
  rw [if_neg he] at hR;have hfin:=Hd hR.symm;have hne:(er != 0)=true:=by simpa using he
  clear hR he her;go_enter Tryz.func30,Tryz.ntmps30;go_wp2_with fail;refine CR.out.mono ?_;rintro e w1 ⟨rfl,hb1⟩;go_wp2_with fail;refine (CK.out w1 hb1).mono ?_;rintro e w2 ⟨rfl,hb2⟩;go_wp2;go_ret2;exact ⟨by rw [hfin.out];rfl,bth hb1 hb2⟩
def trmOf (u:Tm):Trm:=⟨⟨decide (u.1.num<0),limbs u.1.num.natAbs,limbs u.1.den⟩,u.2⟩
theorem qae8 (u:Tm):trmQ (trmOf u)=u:=by
 unfold trmQ trmOf Rt.q;dsimp only;rw [qaa,qaa,qb2]
theorem qaa4 (q:Rat):(Rt.mk (decide (q.num<0)) (limbs q.num.natAbs) (limbs q.den)).right=true:=by
 unfold Rt.right qcn qcb;simp only [Bool.and_eq_true,decide_eq_true_eq,Bool.not_eq_true',Bool.and_eq_false_iff,decide_eq_false_iff_not];rw [qaa,qaa];have hd:=qap.2 (Nat.pos_of_ne_zero q.den_nz);refine ⟨⟨⟨⟨rfl,?_⟩,rfl⟩,q.reduced⟩,by omega⟩;by_cases h:q.num<0
 ·
  right;have:=qap.2 (show 0<q.num.natAbs by omega)
  omega
 · left;exact h
theorem qaj6 {u:Tm} (h:Mok 1048576 u.2) (h0:u.1≠0):okT (trmOf u)=true:=by
 unfold okT;have h1:(trmOf u).coef.right=true:=qaa4 u.1;have h2:¬ val (trmOf u).coef.num=0:=by
  show ¬ val (limbs u.1.num.natAbs)=0
  rw [qaa];intro e;exact h0 (Rat.num_eq_zero.1 (by omega))
 have h3:monoB (trmOf u).mono=true:=by
  show monoB u.2=true
  refine qf5 h.2.2 h.2.1 ?_;rw [List.all_eq_true];exact fun x hx=>by simpa using h.1 x hx
 rw [h1,h3,decide_eq_false h2]
 rfl
theorem qic {p:List Tm} (h:Pok 1048576 p):polyB (p.map trmOf)=true:=by
 refine qij fun i hi=>?_
 rw [List.length_map] at hi;have hu:=List.getElem?_eq_getElem hi;have ht:(p.map trmOf)[i]? = some (trmOf p[i]):=by rw [List.getElem?_map,hu];rfl
 have hok:=qaj6 (h.1 _ (List.getElem_mem hi)).1 (h.1 _ (List.getElem_mem hi)).2
 cases i with
 | zero=>exact qib ht hok
 | succ j =>
  have hj:j<p.length:=by omega
  have hs:(p.map trmOf)[j]? = some (trmOf p[j]):=by rw [List.getElem?_map,List.getElem?_eq_getElem hj];rfl
  rw [qiq ht hs hok,decide_eq_false_iff_not];have:=(List.pairwise_iff_getElem.1 h.2) j (j+1) hj hi (Nat.lt_succ_self _);have:=qgn.2 this
  show ¬ lexI p[j].2 p[j+1].2<=0
  omega
theorem qyd (p:List Tm):(p.map trmOf).map trmQ=p:=by
 rw [List.map_map]
 conv=>rhs;rw [<- List.map_id p]
 exact List.map_congr_left fun u _=>qae8 u
theorem PolX.list {X:Nat->Prop} {w:World} {a:Option Addr} {c:Nat} {p:List Tm} (h:PolX X w a c p):PolyR w a c (p.map trmOf):=by
 obtain ⟨l,h1,h2⟩:=h;have hr:=h1.now;refine ⟨by rw [List.length_map,<- h2.1];exact hr.1,hr.2.1,fun k x hx=>?_⟩;rw [List.getElem?_map] at hx;obtain ⟨u,hu,rfl⟩:=Option.map_eq_some_iff.1 hx;obtain ⟨t,ht⟩:=qad (xs:=l) (k:=k) (by rw [h2.1];exact qas hu);obtain ⟨b,off,ha,c0,c1,c2,c3⟩:=hr.2.2 k t ht;obtain ⟨⟨e1,e2,e3,n1,n2⟩,hi,hn⟩:=(h2.2 k t u ht hu).now;refine ⟨b,off,ha,⟨⟨t.a,t.c,t.x.a,t.x.c,t.x.b,t.x.d⟩,⟨?_,?_,?_,?_⟩,?_⟩⟩
 · rw [c0,e1];rfl
 · rw [c1,e2];rfl
 · rw [c2,e3];rfl
 · rw [c3,hn];rfl
 · exact ⟨hi,n1,n2⟩
def FewT (l:List Trm):Prop:=∀ t∈l,t.coef.num.length<=1000/\t.coef.den.length<=1000
theorem qmk {p:List Tm} (h:FineP p):FewT (p.map trmOf):=fun t ht=>by
 obtain ⟨u,hu,rfl⟩:=List.mem_map.1 ht;have:=(h.2 u hu).2.2;have h1:=qbm u.1;have h2:=qbj u.1;exact ⟨by show (limbs _).length<=_;omega,by show (limbs _).length<=_;omega⟩
theorem zz66 {P:Prop} (h:P:=by
 by_cases q1:l.length<m.length
 ·
  have q1d:decide (l.length<m.length)=true:=by simpa using q1
  have hz:=Hd (hF.out (-1) (.inl ⟨rfl,q1⟩));go_wp2;go_ret;exact ⟨-1,rfl,hz.out,hwr⟩
 ·
  have q1d:decide (l.length<m.length)=false:=by simpa using q1
  by_cases q2:m.length<l.length
  ·
   have q2d:decide (m.length<l.length)=true:=by simpa using q2
   have hz:=Hd (hF.out 1 (.inr (.inl ⟨rfl,q2⟩)));go_wp2;go_ret;exact ⟨1,rfl,hz.out,hwr⟩
  ·
   have q2d:decide (m.length<l.length)=false:=by simpa using q2
   have hz:=Hd ((hF.out 0 (.inr (.inr ⟨rfl,by omega⟩))).1 rfl);go_wp2;go_ret;exact ⟨0,rfl,⟨fun _=>hz.out,fun _=>rfl⟩,hwr⟩
 ):P:=h
theorem qx5 (l m:List Trm) (a b:Option Addr) (ca cb:Nat) (w:World) (h:PolyR w a ca l) (h':PolyR w b cb m) (hl:polyB l=true) (hm:polyB m=true) (fl:FewT l) (fm:FewT m) :
  Calls Tryz.prog 39 #[.slice a l.length ca,.slice b m.length cb] w fun e w'=>∃ z:Int,e=.returned (.int .i64 z)/\(z=0↔l=m)/\Below w.heap.size w w':=by
 have ll:=h.len;have lm:=h'.len;have HP:=Hd (fun W (hW:Below w.heap.size w W)=>h.ext (xbw hW));have HQ:=Hd (fun W (hW:Below w.heap.size w W)=>h'.ext (xbw hW));have HL:=Hd (qpy hl);have HM:=Hd (qpy hm);have FL:=Hd fl;have FM:=Hd fm;clear h h' hl hm fl fm;go_enter Tryz.func39,Tryz.ntmps39;go_wp2;obtain ⟨wo,rfl⟩:∃ wo:World,wo=w:=⟨_,rfl⟩
 go_loopg [5,6,7] (min l.length m.length) (fun gk i _ _ wr=>∃ k:Nat,Hid (k+gk=min l.length m.length)/\i=.int .i64 k/\Hid (l.take k=m.take k)/\Below wo.heap.size wo wr)
 case atStart=>exact ⟨0,by show _=_;omega,rfl,by show _=_;simp,Below.refl _ _⟩
 case round =>
  obtain ⟨k,hk,rfl,htk,hwr⟩:=hrel;by_cases hlt:k<min l.length m.length
  ·
   have k1:k<l.length:=by omega
   have k2:k<m.length:=by omega
   obtain ⟨s,hs⟩:=qad k1;obtain ⟨t,ht⟩:=qad k2;have hsn:=qbc hs;have htn:=qbc ht;obtain ⟨bs,os,rfl,ps,cs,rs⟩:=(HP.out wr hwr).2.2 k s hs;obtain ⟨bt,ot,rfl,pt,ct,rt⟩:=(HQ.out wr hwr).2.2 k t ht;obtain ⟨s0,s1,s2,s3⟩:=cs;obtain ⟨t0,t1,t2,t3⟩:=ct;obtain ⟨a1,a2,a3⟩:=qis (HL.out s (List.mem_of_getElem? hs));obtain ⟨b1,b2,b3⟩:=qis (HM.out t (List.mem_of_getElem? ht));have f1:=FL.out s (List.mem_of_getElem? hs);have f2:=FM.out t (List.mem_of_getElem? ht);have d0:=held s0;have d1:=held s1;have d2:=held s2;have d3:=held s3;have e0:=held t0;have e1:=held t1;have e2:=held t2;have e3:=held t3;have CL:=Hd (fun W (hW:Below wr.heap.size wr W)=>qjo s.mono t.mono ps.aa pt.aa ps.ac pt.ac W (rs.1.ext (xbw hW)) (rt.1.ext (xbw hW)) (qbv a2).2 (qbv b2).2)
   have CQ:=Hd (fun W (hW:Below wr.heap.size wr W)=>qxd (cofA s ps) (cofA t pt) s.coef.q t.coef.q 1000 1000 W (qkm (qeq.ext rs (xbw hW)) a1 f1.1 f1.2) (qkm (qeq.ext rt (xbw hW)) b1 f2.1 f2.2) (by omega) (by omega));have hne:=Hd (fun (e:s≠t)=>(show l≠m from fun h=>by subst h;rw [hs] at ht;injection ht with ht;exact e ht));have hmo:=Hd (fun (e:lexI s.mono t.mono=0)=>qkn (qrg a2) (qrg b2) (by omega) (by omega));have hmz:=Hd (fun (e:lexI s.mono t.mono≠0) (h:s=t)=>e (by rw [h];exact qwy _));have hex:=Hd (fun (e1:s.mono=t.mono) (e2:s.coef.q=t.coef.q)=>qzo (HL.out s (List.mem_of_getElem? hs)) (HM.out t (List.mem_of_getElem? ht)) (show trmQ s=trmQ t by unfold trmQ;rw [e1,e2]));obtain ⟨z1,hz1⟩:∃ z,lexI s.mono t.mono=z:=⟨_,rfl⟩
   obtain ⟨z2,hz2⟩:∃ z,cmpQ s.coef.q t.coef.q=z:=⟨_,rfl⟩
   rw [hz1] at hmo hmz;have CL2:=Hd (by have:=CL.out;simp only [hz1] at this;exact this);have CQ2:=Hd (by have:=CQ.out;simp only [hz2] at this;exact this);have hqz:=Hd (show z2=0↔s.coef.q=t.coef.q by rw [<- hz2];exact qke);have b0:Below wr.heap.size wr wr.drew:=brf.drew;have hsn2:=Hd hsn;have htn2:=Hd htn;replace hz1:=Hd hz1;replace hz2:=Hd hz2;clear s0 s1 s2 s3 t0 t1 t2 t3 CL CQ hs ht hsn htn rs rt a1 a2 a3 b1 b2 b3 f1 f2;by_cases h1:z1=0
   ·
    have hmono:=Hd (hmo.out h1);subst h1;go_wp2;refine wrx (S:=(fun W=>Below wr.heap.size wr W)) [(0,.q),(1,.q),(2,.q),(3,.q),(4,.q),(5,.q),(6,.q),(7,.q),(8,.q),(9,.q),(10,.t),(11,.p)] (b0) ?_
    iterate 10 (refine qab rfl rfl fun K hK=>xq ?_;go_simp;refine hK _ _ ?_;clear hK K)
    refine qam rfl rfl (fun K hK=>?_);go_simp;refine (CL2.out wr.drew b0).mono ?_;rintro e w' ⟨rfl,rfl⟩;dsimp only;refine hK.out _ _ ?_;clear hK K
    iterate 1 (refine qae rfl rfl fun K hK=>xp ?_;go_simp;refine hK _ _ ?_;clear hK K)
    refine qac ?_;have b1:Below wr.heap.size wr wr.drew.drew:=b0.drew;go_wp2;refine wrx (S:=(fun W=>Below wr.heap.size wr W)) [(0,.q),(1,.q),(2,.q),(3,.q),(4,.q),(5,.q),(6,.q),(7,.q),(8,.q),(9,.q),(10,.t),(11,.p)] (b1) ?_
    iterate 10 (refine qab rfl rfl fun K hK=>xq ?_;go_simp;refine hK _ _ ?_;clear hK K)
    refine qam rfl rfl (fun K hK=>?_);go_simp;refine (CQ2.out wr.drew.drew b1).mono ?_;rintro e w5 ⟨rfl,hb5⟩;dsimp only;refine hK.out _ _ ?_;clear hK K
    iterate 1 (refine qae rfl rfl fun K hK=>xp ?_;go_simp;refine hK _ _ ?_;clear hK K)
    refine qac ?_;have hw5:=Hd (bth hwr (bth b1 hb5));by_cases h2:z2=0
    ·
     have hst:=hex.out hmono.out (hqz.out.1 h2);have htk2:=Hd (show l.take (k+1)=m.take (k+1) by rw [hsn2.out,htn2.out,htk.out,hst]);subst h2;clear hst b0 b1 hb5;go_wp2;go_roundg (gk-1)
     case rel=>exact ⟨k+1,by have:=hk.out;show _=_;omega,by go_num,htk2.out,hw5.out⟩
     case measure=>have:=hk.out;omega
    ·
     have hnst:s≠t:=fun e=>h2 (hqz.out.2 (by rw [e]))
     have hzz:(z2 != 0)=true:=by simpa using h2
     have hfin:=Hd (show z2=0↔l=m from ⟨fun e=>absurd e h2,fun e=>absurd e (hne.out hnst)⟩);clear hnst b0 b1 hb5;replace h2:=Hd h2;go_wp2;go_ret;exact ⟨z2,rfl,hfin.out,hw5.out⟩
   ·
    have hzz:(z1 != 0)=true:=by simpa using h1
    have hfin:=Hd (show z1=0↔l=m from ⟨fun e=>absurd e h1,fun e=>absurd e (hne.out (fun e=>hmz.out h1 e))⟩);replace h1:=Hd h1;go_wp2;refine wrx (S:=(fun W=>Below wr.heap.size wr W)) [(0,.q),(1,.q),(2,.q),(3,.q),(4,.q),(5,.q),(6,.q),(7,.q),(8,.q),(9,.q),(10,.t),(11,.p)] (b0) ?_
    iterate 10 (refine qab rfl rfl fun K hK=>xq ?_;go_simp;refine hK _ _ ?_;clear hK K)
    refine qam rfl rfl (fun K hK=>?_);go_simp;refine (CL2.out wr.drew b0).mono ?_;rintro e w' ⟨rfl,rfl⟩;dsimp only;refine hK.out _ _ ?_;clear hK K
    iterate 1 (refine qae rfl rfl fun K hK=>xp ?_;go_simp;refine hK _ _ ?_;clear hK K)
    refine qac ?_;go_wp2;go_ret;exact ⟨z1,rfl,hfin.out,bth hwr b0⟩
  ·
   have hkk:k=min l.length m.length:=by have:=hk.out;omega
   have hF:Hid (∀ z:Int,(z = -1/\l.length<m.length\/z=1/\m.length<l.length\/z=0/\l.length=m.length)->(z=0↔l=m)):=Hd (by
    intro z hz;rcases hz with ⟨rfl,h⟩ | ⟨rfl,h⟩ | ⟨rfl,h⟩
    · exact ⟨fun e=>absurd e (by decide),fun e=>by subst e;omega⟩
    · exact ⟨fun e=>absurd e (by decide),fun e=>by subst e;omega⟩
    ·
     have:=htk.out;rw [List.take_of_length_le (by omega),List.take_of_length_le (by omega)] at this;exact ⟨fun _=>this,fun _=>rfl⟩)
   have hkl:¬ (k<l.length/\k<m.length):=by omega
   clear hkk;by_cases c1:k<l.length
   ·
    have c2:¬ k<m.length:=fun h=>hkl ⟨c1,h⟩
    exact zz66
   ·
    have c2:=c1;exact zz66
theorem qrw (l m:List Trm) (a b:Option Addr) (ca cb:Nat) (w:World) (h:PolyR w a ca l) (h':PolyR w b cb m) (hl:polyB l=true) (hm:polyB m=true) (fl:FewT l) (fm:FewT m) :
  Calls Tryz.prog 22 #[.slice a l.length ca,.slice b m.length cb] w fun e w'=>∃ q:Bool,e=.returned (.bool q)/\(q=true↔l=m)/\Below w.heap.size w w':=by
 have C:=Hd (qx5 l m a b ca cb w h h' hl hm fl fm);clear h h' hl hm fl fm;go_enter Tryz.func22,Tryz.ntmps22;go_wp2_with fail;refine C.out.mono ?_;rintro e w1 ⟨z,rfl,hz,hb⟩;have hq:=Hd (show (z==0)=true↔l=m by rw [beq_iff_eq];exact hz);obtain ⟨q,hqe⟩:∃ q,(z==0)=q:=⟨_,rfl⟩
 rw [hqe] at hq;clear hz;go_wp2;go_ret;exact ⟨q,rfl,hq.out,hb⟩
end Go.Proofs.YtnilkimcdgmgkaaGreatDoor
