/- Walks: sum, product with a term, by the program and by the reference. -/
import Derived.Test.YtnilkimcdgmgkaaGreatDoorCr11
import Derived.Deep.LoopGhost
import Derived.Test.YtnilkimcdgmgkaaGreatDoorCr3
import Derived.Test.YtnilkimcdgmgkaaGreatDoorCr15
set_option linter.all false
set_option maxRecDepth 100000
set_option maxHeartbeats 4000000
namespace Go.Proofs.YtnilkimcdgmgkaaGreatDoor
open Go.RowKit
theorem qaj9 (ts:TypeId) (hu:Tryz.prog.underlying ts=some (.slice 81)) (n:Nat) (hn:n<=1000000) (w:World) :
  ∃ cur:Array Value,cur.size=n*4/\(Instr.makeSlice ts (.int .i64 0) (.int .i64 (n:Int))).run Tryz.prog w=.ok (.slice (some ⟨w.heap.size,0,none⟩) 0 n) (w.alloc (.cells cur 81)):=by
 obtain ⟨i,hi,hz,hsz,hby⟩:=info_parts qia;have:=run_makeSlice (w:=w) ts 81 i _ hu hi hz .i64 .i64 0 n (by omega) (by omega) (by rw [hsz];simp;omega) (by rw [hby];omega) (by omega);rw [hsz] at this;simp only [Int.toNat_zero,Int.toNat_natCast] at this;exact ⟨_,size_madeCells _ _,this⟩
theorem qno {p q:List Tm} (h:p=[]\/q=[]):addP p q=p++q:=by
 rcases h with rfl | rfl
 · rw [qej];rfl
 · rw [qcy];simp
theorem qhh {α:Type} {l:List α} {k:Nat} {x:α} (h:l[k]? = some x):l.drop k=x :: l.drop (k+1):=by
 rw [List.drop_eq_getElem_cons (qas h)];rw [List.getElem?_eq_getElem (qas h)] at h;injection h with h
 rw [h]
theorem PolX.rest {X:Nat->Prop} {w:World} {a:Option Addr} {c:Nat} {p:List Tm} (h:PolX X w a c p) (k:Nat) :
  ∃ l:List TQ,p.length-k=l.length/\AllT X w l (p.drop k)/\Rd X w (RowT (if c=k then a else a.map (·.add (k*4))) (c-k) l):=by
 obtain ⟨l,h1,h2⟩:=h;refine ⟨l.drop k,by rw [List.length_drop,h2.1],h2.drop k,h1.imp fun V hR=>?_⟩;refine ⟨by have:=hR.1;rw [List.length_drop];omega,by have:=hR.2.1;omega,fun j t ht=>?_⟩;rw [List.getElem?_drop] at ht;obtain ⟨b,off,rfl,hA⟩:=hR.2.2 (k+j) t ht;have hlt:=qas ht;have hc:=hR.1;rw [if_neg (by omega)];refine ⟨b,off+k*4,by rw [Option.map_some,Addr.add_lit],?_⟩
 rwa [show off+k*4+j*4=off+(k+j)*4 by omega]
theorem AllT.appN {X:Nat->Prop} {w w':World} {a a':Option Addr} {c n:Nat} {p:List Tm} {m lo:List TQ} (h:AllT (Xr X a) w lo p) (hg:w.grownBy w' (Value.ownBlock (.slice a n c))) (ha:m=[]/\a'=a/\w'=w\/∃ g,a'=some ⟨g,0,none⟩/\(a=some ⟨g,0,none⟩\/g=w.heap.size)):AllT (Xr X a') w' lo p:=by
 rcases ha with ⟨_,rfl,rfl⟩ | ha
 · exact h
 · exact h.app hg ha
theorem qgx (ts:TypeId) (hu:Tryz.prog.underlying ts=some (.slice 81)) (a:Option Addr) (n c i:Nat) (hi:i<=n) (w:World) :
  (Instr.slice ts (.slice a n c) (some (.int .i64 (i:Int))) none none).run Tryz.prog w=.ok (.slice (if c=i then a else a.map (·.add (i*4))) (n-i) (c-i)) w:=by
 obtain ⟨d,hd,hz,hsz,hby⟩:=info_parts qia;have he:Tryz.prog.elem ts=81:=by unfold Program.elem;rw [hu]
 have:=run_slice_l (P:=Tryz.prog) (w:=w) ts a n c (by rw [hu,he]) .i64 i (by omega) (by omega);rw [this,he];simp [sizeOf,typeInfo,hd,hsz,sliced]
theorem qge {X:Nat->Prop} {wr w4 w5 w6:World} {ra ra2:Option Addr} {rc n:Nat} {lo:List TQ} {po:List Tm} {s:TQ} {u:Tm} (hA:AllT (Xr X ra) wr lo po) (hb4:Below wr.heap.size wr w4) (h5:Below w4.heap.size w4 w5)
  (hsR:Rd (Xr X ra) w5 (s.R u)) (hg:w5.grownBy w6 (Value.ownBlock (.slice ra n rc))) (ha:∃ g,ra2=some ⟨g,0,none⟩/\(ra=some ⟨g,0,none⟩\/g=w5.heap.size)):AllT (Xr X ra2) w6 (lo++[s]) (po++[u]) :=
 (((hA.call hb4).call h5).append (AllT.one hsR)).app hg ha
theorem qbl {X:Nat->Prop} {w wr:World} {ra:Option Addr} {R:World->Prop} (h:Rd X w R) (ha:∀ g,ra=some g->w.heap.size<=g.block) (hb:Below w.heap.size w wr):Rd (Xr X ra) wr R:=(h.row ha).call hb
theorem qak3 {X:Nat->Prop} {ra:Option Addr} {W:World} {x:QA} {q:Rat} {B T:Nat} {s:TQ} {u:Tm} (h:Kp (fun V=>QK 2001 V x q) B T W) (hX:∀ b,Xr X ra b->b<B) (hs:Rd (Xr X ra) W (s.R u)):Rd (Xr X ra) W (TQ.R ⟨x,s.n,s.a,s.c⟩ (q,u.2)) :=
 ((Rd.kp h fun b hb=>.inl (hX b hb)).and hs).imp fun _ ⟨h1,h2⟩=>⟨h1.1,h2.2.1,h2.2.2⟩
theorem Xr_lt {X:Nat->Prop} {w wr:World} {ra:Option Addr} {rc:Nat} {lo:List TQ} (hX:∀ b,X b->b<w.heap.size) (ho:OwnT w.heap.size wr ra rc lo) (hb:w.heap.size<=wr.heap.size):∀ b,Xr X ra b->b<wr.heap.size:=fun b h=>by
 rcases h with h | ⟨g,hg,rfl⟩
 · have:=hX b h;omega
 · exact (ho.lt hg).2
theorem zz54 {P:Prop} (h:P:=by
 rw [<- hge] at hg ⊢;clear hge;obtain ⟨sn,hsn⟩:∃ sn:TQ,sn=⟨x,s.n,s.a,s.c⟩:=⟨_,rfl⟩
 have hRS:Rd (Xr X ra) wz (sn.R (u.1+v.1,u.2)):=by rw [hsn];exact qak3 HK (fun b hb=>by have:=hlx.out b hb;have:=s4.size;omega) ((hsr.out.call s4).call sz)
 have z0:wz.cell? ⟨g,0,none⟩=some (.bool sn.x.neg):=by rw [hsn];exact hg.cell 0
 have z1:wz.cell? ⟨g,1,none⟩=some (.slice sn.x.a sn.x.n sn.x.c):=by rw [hsn];exact hg.cell 1
 have z2:wz.cell? ⟨g,2,none⟩=some (.slice sn.x.b sn.x.m sn.x.d):=by rw [hsn];exact hg.cell 2
 have z3:wz.cell? ⟨g,3,none⟩=some (.slice sn.a sn.n sn.c):=by rw [hsn];exact hg.cell 3
 have hgl:=hg.lt;replace hRS:=Hd hRS;replace hL0:=hL0.out;obtain ⟨nb,hnb⟩:∃ nb:Bool,(!decide (u.1+v.1=0))=nb:=⟨_,rfl⟩
 rw [hnb];clear hg HK hb5 s5 s0 j0 j1 j2 j3 n0 n1 n2 n3 CA hsn hL g1 g2
 cases nb
 ·
  have hz:u.1+v.1=0:=by simpa using hnb
  have ho3:=ho2.out;rw [qfm hL0 hz] at ho3;replace ho3:=Hd ho3;have hA6:=hA.out.call (bth s4 sz);have ho6:=ho.out.below (bth s4 sz);have hwo6:=bth hwr (bth s4 sz);replace ho6:=Hd ho6;replace hA6:=Hd hA6;clear z0 z1 z2 z3 hRS ho2 hnb hz hL0;go_wp2;go_roundg (gk-2)
  case rel=>exact ⟨i+1,k+1,lo,po,ra,rc,by have:=hm.out;show _=_;omega,by omega,by omega,rfl,by go_num,by go_num,ho6.out,hA6.out,hwo6,ho3.out,by have:=hll.out;show _<=_;omega⟩
  case measure=>have:=hm.out;omega
 ·
  have hz:¬ (u.1+v.1=0):=by simpa using hnb
  have ho3:=ho2.out;rw [qh6 hL0 hz] at ho3;replace ho3:=Hd ho3;have szz:=bth s4 sz;clear ho2 hnb hz hL0
  -- the element is copied
  have hb5:Below wz.heap.size wz (wz.alloc (.cells #[.bool sn.x.neg,.slice sn.x.a sn.x.n sn.x.c,.slice sn.x.b sn.x.m sn.x.d,.slice sn.a sn.n sn.c] 81)):=by go_grown
  have howc:=((ho.out.below szz).alloc (.cells #[.bool sn.x.neg,.slice sn.x.a sn.x.n sn.x.c,.slice sn.x.b sn.x.m sn.x.d,.slice sn.a sn.n sn.c] 81))
  have hel:TQ.At sn (wz.alloc (.cells #[.bool sn.x.neg,.slice sn.x.a sn.x.n sn.x.c,.slice sn.x.b sn.x.m sn.x.d,.slice sn.a sn.n sn.c] 81)) wz.heap.size 0:=⟨(Blk.new wz 81 #[.bool sn.x.neg,.slice sn.x.a sn.x.n sn.x.c,.slice sn.x.b sn.x.m sn.x.d,.slice sn.a sn.n sn.c]).cell 0,(Blk.new wz 81 #[.bool sn.x.neg,.slice sn.x.a sn.x.n sn.x.c,.slice sn.x.b sn.x.m sn.x.d,.slice sn.a sn.n sn.c]).cell 1,(Blk.new wz 81 #[.bool sn.x.neg,.slice sn.x.a sn.x.n sn.x.c,.slice sn.x.b sn.x.m sn.x.d,.slice sn.a sn.n sn.c]).cell 2,(Blk.new wz 81 #[.bool sn.x.neg,.slice sn.x.a sn.x.n sn.x.c,.slice sn.x.b sn.x.m sn.x.d,.slice sn.a sn.n sn.c]).cell 3⟩
  have hwo4:=bth hwr (bth szz hb5);replace howc:=Hd howc;replace hel:=Hd hel;go_wp2_with (at_builtin;go_must (refine qce (B:=wo.heap.size) rfl (.tmp 55) (.tmp 57) 52 rfl Tryz.underlying52 ra rc rfl howc.out sn wz.heap.size 1 rfl hel.out (lo++[sn]) rfl (by have:=hll.out;simp;omega) (by have:=hwo4.size;simpa using this) ?_);intro ra2 rc2 w6 ho6 hg6 ha6);have hA6:=qge hA.out szz hb5 (hRS.out.call hb5) hg6 ha6;have hwo6:Below wo.heap.size wo w6:=qav hwo4 howc.out hg6;replace ho6:=Hd ho6;replace hA6:=Hd hA6;clear hg6 ha6 howc hel hb5 hwo4;go_wp2;go_roundg (gk-2)
  case rel=>exact ⟨i+1,k+1,lo++[_],po++[_],ra2,rc2,by have:=hm.out;show _=_;omega,by omega,by omega,by simp,by go_num,by go_num,ho6.out,hA6.out,hwo6,by rw [<- ho3.out];show _=_;simp,by have:=hll.out;show _<=_;simp;omega⟩
  case measure=>have:=hm.out;omega
 ):P:=h
theorem zz55 {P:Prop} (h:P:=by
 replace ho3:=Hd ho3;clear hout;obtain ⟨l1,hn1,hA1,hR1⟩:=HP.out.rest i;obtain ⟨l2,hn2,hA2,hR2⟩:=HQ.out.rest k;have hs1:=fun W=>qgx 52 Tryz.underlying52 a p.length ca i hi W
 have hs2:=fun W=>qgx 52 Tryz.underlying52 b q.length cb k hk W
 rw [hn1] at hs1;rw [hn2] at hs2;obtain ⟨a1,ha1⟩:∃ x,(if ca=i then a else a.map (·.add (i*4)))=x:=⟨_,rfl⟩
 obtain ⟨a2,ha2⟩:∃ x,(if cb=k then b else b.map (·.add (k*4)))=x:=⟨_,rfl⟩
 obtain ⟨c1,hc1⟩:∃ x,ca-i=x:=⟨_,rfl⟩
 obtain ⟨c2,hc2⟩:∃ x,cb-k=x:=⟨_,rfl⟩
 rw [ha1,hc1] at hs1 hR1;rw [ha2,hc2] at hs2 hR2;have hB1:=qbl hR1 hro.out hwr;have hlen1:(lo++l1).length<=16777216:=by have:=hll.out;rw [List.length_append,<- hn1];omega
 have hlen2:(lo++l1++l2).length<=16777216:=by have:=hll.out;rw [List.length_append,List.length_append,<- hn1,<- hn2];omega
 have hAA:AllT X wo (l1++l2) (p.drop i++q.drop k):=hA1.append hA2;have hAr:=(hA.out.append (hA1.map (Y:=Xr X ra) (w':=wr) fun _ _ h=>qbl h hro.out hwr))
 replace hn1:=Hd hn1;replace hn2:=Hd hn2;replace hA1:=Hd hA1;replace hA2:=Hd hA2;replace hR1:=Hd hR1;replace hR2:=Hd hR2;replace hB1:=Hd hB1;replace hlen1:=Hd hlen1;replace hlen2:=Hd hlen2;replace hAA:=Hd hAA;replace hAr:=Hd hAr;clear ha1 ha2 hc1 hc2;obtain ⟨lx,hlx⟩:∃ lx,lx=lo++l1:=⟨_,rfl⟩
 obtain ⟨ly,hly⟩:∃ ly,ly=lo++l1++l2:=⟨_,rfl⟩
 rw [<- hly] at hlen2;rw [<- hlx] at hlen1 hAr hly;replace hlx:=Hd hlx;replace hly:=Hd hly;go_wp2_with (first
  | (at_builtin
     refine qcd (B:=wo.heap.size) rfl (.tmp 87) (.tmp 90) 52 rfl Tryz.underlying52 ra rc rfl ho.out l1 a1 _ c1 rfl rfl hB1.out.now lx hlx.out hlen1.out hwr.size ?_;intro ra2 rc2 w5 ho5 hg5 ha5;have hA5:=AllT.appN hAr.out hg5 ha5;have hw5:=qav hwr ho.out hg5;have hB2:=qbl (ra:=ra2) hR2.out (fun g hg=>(ho5.lt hg).1) hw5;replace hA5:=Hd hA5;replace ho5:=Hd ho5;replace hB2:=Hd hB2;clear hg5 ha5)
  | (at_builtin
     go_must (refine qcd (B:=wo.heap.size) rfl (.tmp 92) (.tmp 95) 52 rfl Tryz.underlying52 ra2 rc2 rfl ho5.out l2 a2 _ c2 rfl rfl hB2.out.now ly hly.out hlen2.out hw5.size ?_)
     intro ra3 rc3 w6 ho6 hg6 ha6))
 have hA6:=AllT.appN (hA5.out.append (hA2.out.map (Y:=Xr X ra2) (w':=w5) fun _ _ h=>qbl h (fun g hg=>(ho5.out.lt hg).1) hw5)) hg6 ha6;have hw6:=qav hw5 ho5.out hg6;rw [<- hly.out] at hA6;have hP6:=ho6.pol hA6 HX.out;have hRl:ly.length=R.length:=by rw [hA6.1,<- ho3.out];simp
 go_ret;refine ⟨ra3,rc3,by rw [hRl];rfl,?_,hw6⟩;rw [<- ho3.out,<- List.append_assoc];exact hP6
 ):P:=h
theorem qae5 (X:Nat->Prop) (p q:List Tm) (a b:Option Addr) (ca cb:Nat) (w:World) (hX:∀ b,X b->b<w.heap.size) (hp:PolX X w a ca p) (hq:PolX X w b cb q) (fp:FineP p) (fq:FineP q) :
  Calls Tryz.prog 192 #[.slice a p.length ca,.slice b q.length cb,.func (Fn.func 103) #[] #[],.func (Fn.func 193) #[] #[]] w (RetP X (addP p q) w):=by
 have lp:=hp.len;have lq:=hq.len;have l1:=fp.1;have l2:=fq.1;obtain ⟨cur,hcs,hmk⟩:=qaj9 52 Tryz.underlying52 (p.length+q.length) (by omega) w;have how:OwnT w.heap.size (w.alloc (.cells cur 81)) (some ⟨w.heap.size,0,none⟩) (p.length+q.length) []:=World.ownsRow_made w cur _ (nlr _) (by unfold maxLen;omega) hcs;have hb0:Below w.heap.size w (w.alloc (.cells cur 81)):=by go_grown
 rw [Int.natCast_add] at hmk;obtain ⟨R,hR⟩:∃ R,addP p q=R:=⟨_,rfl⟩
 rw [hR];have HP:=Hd hp;have HQ:=Hd hq;have FP:=Hd fp.2;have FQ:=Hd fq.2;have HX:=Hd hX;have HR:=Hd hR;replace how:=Hd how;clear hp hq fp fq hX hR hcs;go_enter Tryz.func192,Tryz.ntmps192;go_wp2;obtain ⟨wo,rfl⟩:∃ wo:World,wo=w:=⟨_,rfl⟩
 go_loopg [9,10,11,12,13,14] (p.length+q.length) (fun m o qi qk _ _ _ wr=>∃ (i k:Nat) (lo:List TQ) (po:List Tm) (ra:Option Addr) (rc:Nat),Hid (i+k+m=p.length+q.length)/\i<=p.length/\k<=q.length/\o=.slice ra lo.length rc/\qi=.int .i64 i/\qk=.int .i64 k/\Hid (OwnT wo.heap.size wr ra rc lo)/\Hid (AllT (Xr X ra) wr lo po)/\Below wo.heap.size wo wr/\Hid (po++addP (p.drop i) (q.drop k)=R)/\Hid (lo.length<=i+k))
 case atStart=>exact ⟨0,0,[],[],some ⟨wo.heap.size,0,none⟩,p.length+q.length,by show _=_;omega,by omega,by omega,rfl,rfl,rfl,how.out,AllT.nil,hb0,HR.out,nlr _⟩
 case round =>
  clear hmk how hb0;obtain ⟨i,k,lo,po,ra,rc,hm,hi,hk,rfl,rfl,rfl,ho,hA,hwr,hout,hll⟩:=hrel;have hro:Hid (∀ g,ra=some g->wo.heap.size<=g.block):=Hd fun g hg=>(ho.out.lt hg).1
  by_cases h1:i<p.length
  ·
   by_cases h2:k<q.length
   ·
    obtain ⟨u,hu⟩:=qad h1;obtain ⟨v,hv⟩:=qad h2;obtain ⟨b1,o1,s,rfl,hs,hsR⟩:=HP.out.get hu;obtain ⟨b2,o2,t,rfl,ht,htR⟩:=HQ.out.get hv;have fu:=FP.out u (List.mem_of_getElem? hu);have fv:=FQ.out v (List.mem_of_getElem? hv);have ho2:=hout.out;rw [qhh hu,qhh hv] at ho2;have hdp:=Hd (qhh hu);have hdq:=Hd (qhh hv);have hsr:=qbl hsR hro.out hwr;have htr:=qbl htR hro.out hwr;have CL:=fun W (hW:Below wr.heap.size wr W)=>qab7 s t u.2 v.2 W ((hsR.call (bth hwr hW)).now.2.1) ((htR.call (bth hwr hW)).now.2.1) (hsR.now.2.2) (htR.now.2.2)
    have CA:=fun W (hW:Below wr.heap.size wr W)=>qad7 s t u.1 v.1 W ((hsR.call (bth hwr hW)).now.qk fu) ((htR.call (bth hwr hW)).now.qk fv)
    obtain ⟨c0,c1,c2,c3⟩:=hs;obtain ⟨d0,d1,d2,d3⟩:=ht;have k0:=held (held c0 wr hwr);have k1:=held (held c1 wr hwr);have k2:=held (held c2 wr hwr);have k3:=held (held c3 wr hwr);have y0:=held (held d0 wr hwr);have y1:=held (held d1 wr hwr);have y2:=held (held d2 wr hwr);have y3:=held (held d3 wr hwr);have s0:Below wr.heap.size wr wr.drew:=brf.drew;obtain ⟨L,hL⟩:∃ L,lexI u.2 v.2=L:=⟨_,rfl⟩
    rw [hL] at CL;replace hL:=Hd hL;replace CL:=Hd CL;replace CA:=Hd CA;replace hsR:=Hd hsR;replace htR:=Hd htR;replace fu:=Hd fu;replace fv:=Hd fv;replace ho2:=Hd ho2;replace hsr:=Hd hsr;replace htr:=Hd htr;clear hu hv c0 c1 c2 c3 d0 d1 d2 d3 hout;go_wp2;refine wrx (S:=Below wr.heap.size wr) [(0,.q),(1,.q),(2,.q),(3,.q),(4,.q),(5,.q),(6,.q),(7,.q),(8,.q),(9,.t),(10,.p)] (s0) ?_
    iterate 9 (refine qab rfl rfl fun K hK=>xq ?_;go_simp;refine hK _ _ ?_;clear hK K)
    refine qam rfl rfl (fun K hK=>?_);go_simp;refine (CL.out _ s0).mono ?_;rintro r w4 ⟨rfl,hb4⟩;dsimp only;refine hK.out _ _ ?_;clear hK K
    iterate 1 (refine qae rfl rfl fun K hK=>xp ?_;go_simp;refine hK _ _ ?_;clear hK K)
    refine qac ?_;have s4:=bth s0 hb4;clear hb4 s0;have e0:=k0 w4 s4;have e1:=k1 w4 s4;have e2:=k2 w4 s4;have e3:=k3 w4 s4;have f0:=y0 w4 s4;have f1:=y1 w4 s4;have f2:=y2 w4 s4;have f3:=y3 w4 s4;clear k0 k1 k2 k3 y0 y1 y2 y3;by_cases g1:0<L
    ·
     have ho3:=ho2.out;rw [qh4 (by rw [hL.out];exact g1)] at ho3;replace ho3:=Hd ho3;clear CA CL hsR htR fu fv htr ho2
     -- the element is copied
     have hb5:Below w4.heap.size w4 (w4.alloc (.cells #[.bool s.x.neg,.slice s.x.a s.x.n s.x.c,.slice s.x.b s.x.m s.x.d,.slice s.a s.n s.c] 81)):=by go_grown
     have howc:=((ho.out.below s4).alloc (.cells #[.bool s.x.neg,.slice s.x.a s.x.n s.x.c,.slice s.x.b s.x.m s.x.d,.slice s.a s.n s.c] 81))
     have hel:TQ.At s (w4.alloc (.cells #[.bool s.x.neg,.slice s.x.a s.x.n s.x.c,.slice s.x.b s.x.m s.x.d,.slice s.a s.n s.c] 81)) w4.heap.size 0:=⟨(Blk.new w4 81 #[.bool s.x.neg,.slice s.x.a s.x.n s.x.c,.slice s.x.b s.x.m s.x.d,.slice s.a s.n s.c]).cell 0,(Blk.new w4 81 #[.bool s.x.neg,.slice s.x.a s.x.n s.x.c,.slice s.x.b s.x.m s.x.d,.slice s.a s.n s.c]).cell 1,(Blk.new w4 81 #[.bool s.x.neg,.slice s.x.a s.x.n s.x.c,.slice s.x.b s.x.m s.x.d,.slice s.a s.n s.c]).cell 2,(Blk.new w4 81 #[.bool s.x.neg,.slice s.x.a s.x.n s.x.c,.slice s.x.b s.x.m s.x.d,.slice s.a s.n s.c]).cell 3⟩
     have hwo4:=bth hwr (bth s4 hb5);replace howc:=Hd howc;replace hel:=Hd hel;go_wp2_with (at_builtin;go_must (refine qce (B:=wo.heap.size) rfl (.tmp 66) (.tmp 71) 52 rfl Tryz.underlying52 ra rc rfl howc.out s w4.heap.size 1 rfl hel.out (lo++[s]) rfl (by have:=hll.out;simp;omega) (by have:=hwo4.size;simpa using this) ?_);intro ra2 rc2 w6 ho6 hg6 ha6);have hA6:=qge hA.out s4 hb5 ((hsr.out.call s4).call hb5) hg6 ha6;have hwo6:Below wo.heap.size wo w6:=qav hwo4 howc.out hg6;replace ho6:=Hd ho6;replace hA6:=Hd hA6;clear hg6 ha6 howc hel hb5 hwo4;go_wp2;go_roundg (gk-1)
     case rel=>exact ⟨i+1,k,lo++[s],po++[u],ra2,rc2,by have:=hm.out;show _=_;omega,by omega,by omega,by simp,by go_num,rfl,ho6.out,hA6.out,hwo6,by rw [<- ho3.out,hdq.out];show _=_;simp,by have:=hll.out;show _<=_;simp;omega⟩
     case measure=>have:=hm.out;omega
    ·
     by_cases g2:L<0
     ·
      have ho3:=ho2.out;rw [qh7 (by rw [hL.out];exact g2)] at ho3;replace ho3:=Hd ho3;clear CA CL hsR htR fu fv hsr ho2
      -- the element is copied
      have hb5:Below w4.heap.size w4 (w4.alloc (.cells #[.bool t.x.neg,.slice t.x.a t.x.n t.x.c,.slice t.x.b t.x.m t.x.d,.slice t.a t.n t.c] 81)):=by go_grown
      have howc:=((ho.out.below s4).alloc (.cells #[.bool t.x.neg,.slice t.x.a t.x.n t.x.c,.slice t.x.b t.x.m t.x.d,.slice t.a t.n t.c] 81))
      have hel:TQ.At t (w4.alloc (.cells #[.bool t.x.neg,.slice t.x.a t.x.n t.x.c,.slice t.x.b t.x.m t.x.d,.slice t.a t.n t.c] 81)) w4.heap.size 0:=⟨(Blk.new w4 81 #[.bool t.x.neg,.slice t.x.a t.x.n t.x.c,.slice t.x.b t.x.m t.x.d,.slice t.a t.n t.c]).cell 0,(Blk.new w4 81 #[.bool t.x.neg,.slice t.x.a t.x.n t.x.c,.slice t.x.b t.x.m t.x.d,.slice t.a t.n t.c]).cell 1,(Blk.new w4 81 #[.bool t.x.neg,.slice t.x.a t.x.n t.x.c,.slice t.x.b t.x.m t.x.d,.slice t.a t.n t.c]).cell 2,(Blk.new w4 81 #[.bool t.x.neg,.slice t.x.a t.x.n t.x.c,.slice t.x.b t.x.m t.x.d,.slice t.a t.n t.c]).cell 3⟩
      have hwo4:=bth hwr (bth s4 hb5);replace howc:=Hd howc;replace hel:=Hd hel;go_wp2_with (at_builtin;go_must (refine qce (B:=wo.heap.size) rfl (.tmp 78) (.tmp 83) 52 rfl Tryz.underlying52 ra rc rfl howc.out t w4.heap.size 1 rfl hel.out (lo++[t]) rfl (by have:=hll.out;simp;omega) (by have:=hwo4.size;simpa using this) ?_);intro ra2 rc2 w6 ho6 hg6 ha6);have hA6:=qge hA.out s4 hb5 ((htr.out.call s4).call hb5) hg6 ha6;have hwo6:Below wo.heap.size wo w6:=qav hwo4 howc.out hg6;replace ho6:=Hd ho6;replace hA6:=Hd hA6;clear hg6 ha6 howc hel hb5 hwo4;go_wp2;go_roundg (gk-1)
      case rel=>exact ⟨i,k+1,lo++[t],po++[v],ra2,rc2,by have:=hm.out;show _=_;omega,by omega,by omega,by simp,rfl,by go_num,ho6.out,hA6.out,hwo6,by rw [<- ho3.out,hdp.out];show _=_;simp,by have:=hll.out;show _<=_;simp;omega⟩
      case measure=>have:=hm.out;omega
     ·
      have hL0:lexI u.2 v.2=0:=by rw [hL.out];omega
      have hlx:=Hd (Xr_lt HX.out ho.out hwr.size);have j0:=held e0;have j1:=held e1;have j2:=held e2;have j3:=held e3;have n0:=held f0;have n1:=held f1;have n2:=held f2;have n3:=held f3;have s0:Below w4.heap.size w4 w4.drew:=brf.drew;replace hL0:=Hd hL0;clear CL hsR htR fu fv htr hdp hdq e0 e1 e2 e3 f0 f1 f2 f3;go_wp2;refine qfa (S:=Below w4.heap.size w4) (.q 0 (.q 1 (.q 2 (.q 3 (.q 4 (.q 5 (.q 6 (.q 7 (.q 8 (.two 9 (.q 10 (.q 11 (.q 12 (.l 13 (.l 14 (.p 15 .nil)))))) 13 (.l 9 (.q 10 (.q 11 (.q 12 (.l 14 (.p 15 .nil)))))))))))))))) [15] (by kernel_rfl) (by kernel_rfl) (by kernel_rfl) (fun d _ _ _ _ h=>by cases d <;> exact h) s0 ?_
      iterate 9 (refine qjw rfl rfl fun K hK=>xq ?_;go_simp;refine hK _ _ ?_;clear hK K)
      refine qle ?_ ?_
      ·
       skip
       refine qcc rfl rfl (fun K hK=>?_);go_simp;refine (CA.out _ (bth s4 s0)).mono ?_;rintro r w5 ⟨x,rfl,HK,hb5⟩;dsimp only;refine hK.out _ _ (bth s0 hb5) (fun _=>?_);clear hK K
       iterate 3 (refine qjw rfl rfl fun K hK=>xq ?_;go_simp;refine hK _ _ ?_;clear hK K)
       have s5:Below w4.heap.size w4 w5:=bth s0 hb5;have sA:Below w4.heap.size w4 (w5.alloc (.cells #[.bool false,.slice none 0 0,.slice none 0 0,.slice none 0 0] 81)):=s5.alloc s5.size _;refine qcc rfl rfl (fun K hK=>?_);go_simp;refine hK.out _ _ (sA) (fun _=>?_);clear hK K;have hzz:Blk (w5.alloc (.cells #[.bool false,.slice none 0 0,.slice none 0 0,.slice none 0 0] 81)) w5.heap.size 81 #[.bool false,.slice none 0 0,.slice none 0 0,.slice none 0 0]:=Blk.new w5 _ _;obtain ⟨z0,z1,z2,z3⟩:=cq4 hzz;obtain ⟨x0,x1,x2,x3⟩:=fq4 hzz;refine qcc rfl rfl (fun K hK=>?_);go_simp;refine hK.out _ _ ((s5.alloc s5.size _)) (fun _=>?_);clear hK K
       iterate 1 (refine qwz rfl rfl fun K hK=>xp ?_;go_simp;refine hK _ _ ?_;clear hK K)
       refine qe8 ?_;replace HK:=Hd (show Kp (fun V=>QK 2001 V x (u.1+v.1)) w4.heap.size w5.heap.size w5 from HK);refine qak (fun W=>Blk W w5.heap.size 81 #[.bool x.neg,.slice x.a x.n x.c,.slice x.b x.m x.d,.slice s.a s.n s.c]/\Kp (fun V=>QK 2001 V x (u.1+v.1)) w4.heap.size w5.heap.size W/\Below w4.heap.size w4 W) ⟨by ((with_reducible repeat first|assumption|(apply bF;focus omega)|apply bS|(apply bN;focus (simp;done))|apply bA|apply bD);all_goals rfl),by (with_reducible repeat first | exact HK.out | (refine Kp.setc ?_ ?_;focus omega) | refine Kp.alloc ?_ | refine Kp.drew ?_),s5.alloc s5.size _⟩ ?_;clear z0 z1 z2 z3 x0 x1 x2 x3 hzz sA;rintro wz ⟨hg,HK,sz⟩;obtain ⟨g,hge⟩:∃ g,g=w5.heap.size:=⟨_,rfl⟩
       exact zz54
      ·
       skip
       have sA:Below w4.heap.size w4 (w4.alloc (.cells #[.bool false,.slice none 0 0,.slice none 0 0,.slice none 0 0] 81)).drew:=(brf.alloc (nlr _) _).drew;refine qcc rfl rfl (fun K hK=>?_);go_simp;refine hK.out _ _ sA (fun _=>?_);clear hK K;refine qcc rfl rfl (fun K hK=>?_);go_simp;refine (CA.out _ (bth s4 sA)).mono ?_;rintro r w5 ⟨x,rfl,HK,hb5⟩;dsimp only;refine hK.out _ _ (bth sA hb5) (fun _=>?_);clear hK K;have s5:=bth sA hb5;have hle4:w4.heap.size<=w4.heap.size:=nlr _
       iterate 3 (refine qjw rfl rfl fun K hK=>xq ?_;go_simp;refine hK _ _ ?_;clear hK K)
       have hzz:Blk w5 w4.heap.size 81 #[.bool false,.slice none 0 0,.slice none 0 0,.slice none 0 0]:=(show Blk (w4.alloc (.cells #[.bool false,.slice none 0 0,.slice none 0 0,.slice none 0 0] 81)).drew w4.heap.size 81 #[.bool false,.slice none 0 0,.slice none 0 0,.slice none 0 0] from Blk.new w4 _ _).below' hb5;obtain ⟨z0,z1,z2,z3⟩:=cq4 hzz;obtain ⟨x0,x1,x2,x3⟩:=fq4 hzz;have hle:w4.heap.size<(w4.alloc (.cells #[.bool false,.slice none 0 0,.slice none 0 0,.slice none 0 0] 81)).drew.heap.size:=by simp
       refine qcc rfl rfl (fun K hK=>?_);go_simp;refine hK.out _ _ (((((s5.setCell hle4 _).setCell hle4 _).setCell hle4 _).setCell hle4 _)) (fun _=>?_);clear hK K
       iterate 1 (refine qwz rfl rfl fun K hK=>xp ?_;go_simp;refine hK _ _ ?_;clear hK K)
       refine qe8 ?_;replace HK:=Hd (Kp.broad (B':=w4.heap.size+1) HK (by simp) (nlr _));refine qak (fun W=>Blk W w4.heap.size 81 #[.bool x.neg,.slice x.a x.n x.c,.slice x.b x.m x.d,.slice s.a s.n s.c]/\Kp (fun V=>QK 2001 V x (u.1+v.1)) (w4.heap.size+1) w5.heap.size W/\Below w4.heap.size w4 W) ⟨by ((with_reducible repeat first|assumption|(apply bF;focus omega)|apply bS|(apply bN;focus (simp;done))|apply bA|apply bD);all_goals rfl),by (with_reducible repeat first | exact HK.out | (refine Kp.setc ?_ ?_;focus omega) | refine Kp.alloc ?_ | refine Kp.drew ?_),((((s5.setCell hle4 _).setCell hle4 _).setCell hle4 _).setCell hle4 _)⟩ ?_;clear z0 z1 z2 z3 x0 x1 x2 x3 hzz sA hle;rintro wz ⟨hg,HK,sz⟩;replace HK:=HK.broad (B':=w4.heap.size+1) (nlr _) (nlr _);obtain ⟨g,hge⟩:∃ g,g=w4.heap.size:=⟨_,rfl⟩
       exact zz54
   ·
    have ho3:=hout.out;rw [qno (.inr (List.drop_eq_nil_of_le (by omega)))] at ho3;exact zz55
  ·
   have ho3:=hout.out;rw [qno (.inl (List.drop_eq_nil_of_le (by omega)))] at ho3;exact zz55
theorem qaj8 (X:Nat->Prop) (p q:List Tm) (a b:Option Addr) (ca cb:Nat) (w:World) (hX:∀ b,X b->b<w.heap.size) (hp:PolX X w a ca p) (hq:PolX X w b cb q) (fp:FineP p) (fq:FineP q) :
  Calls Tryz.prog 153 #[.slice a p.length ca,.slice b q.length cb] w (RetP X (addP p q) w):=by
 have CM:=qae5 X p q a b ca cb w hX hp hq fp fq;revert CM;generalize addP p q=R;intro CM;replace CM:=Hd CM;clear hX hp hq fp fq;go_enter Tryz.func153,Tryz.ntmps153;go_wp2_with fail;refine CM.out.mono ?_;rintro e w1 ⟨a1,c1,rfl,hP,hb⟩;go_wp2;go_ret;exact ⟨a1,c1,rfl,hP,hb⟩
theorem At.new {w:World} {t:TQ}:t.At (w.alloc (.cells #[.bool t.x.neg,.slice t.x.a t.x.n t.x.c,.slice t.x.b t.x.m t.x.d,.slice t.a t.n t.c] 81)) w.heap.size 0:=⟨(Blk.new w 81 #[.bool t.x.neg,.slice t.x.a t.x.n t.x.c,.slice t.x.b t.x.m t.x.d,.slice t.a t.n t.c]).cell 0,(Blk.new w 81 #[.bool t.x.neg,.slice t.x.a t.x.n t.x.c,.slice t.x.b t.x.m t.x.d,.slice t.a t.n t.c]).cell 1,(Blk.new w 81 #[.bool t.x.neg,.slice t.x.a t.x.n t.x.c,.slice t.x.b t.x.m t.x.d,.slice t.a t.n t.c]).cell 2,(Blk.new w 81 #[.bool t.x.neg,.slice t.x.a t.x.n t.x.c,.slice t.x.b t.x.m t.x.d,.slice t.a t.n t.c]).cell 3⟩
end Go.Proofs.YtnilkimcdgmgkaaGreatDoor
