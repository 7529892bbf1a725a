/- The frame of a figure: its variables and the coordinates of its points. No function of the program in sight. -/
import Derived.Test.YtmdlbpibipnapaaGreatRd11
import Derived.Deep.LoopGhost
import Derived.Test.YtmdlbpibipnapaaGreatRd5
import Derived.Test.YtmdlbpibipnapaaGreatRd8
import Derived.Test.YtmdlbpibipnapaaGreatRd9
import Derived.Test.YtmdlbpibipnapaaGreatRd2
import Derived.Test.YtmdlbpibipnapaaGreatRd1
set_option linter.all false
set_option maxRecDepth 100000
set_option maxHeartbeats 4000000
namespace Go.Proofs.YtmdlbpibipnapaaGreat
open Go.RowKit
theorem qac4 (ts:TypeId) (hu:Tryz.prog.underlying ts=some (.slice 193)) (n:Nat) (hn:n<=1000000) (w:World) :
  ∃ cur:Array Value,cur.size=n*4/\(Instr.makeSlice ts (.int .i64 0) (.int .i64 (n:Int))).run Tryz.prog w=.ok (.slice (some ⟨w.heap.size,0,none⟩) 0 n) (w.alloc (.cells cur 193)):=by
 obtain ⟨i,hi,hz,hsz,hby⟩:=info_parts qeu;have:=run_makeSlice (w:=w) ts 193 i _ hu hi hz .i64 .i64 0 n oo oo (by rw [hsz];simp;omega) (by rw [hby];omega) oo;rw [hsz] at this;simp only [Int.toNat_zero,Int.toNat_natCast] at this;exact ⟨_,size_madeCells _ _,this⟩
theorem qng {p q:List Tm} (h:p=[]\/q=[]):addP p q=p++q:=by
 rcases h with rfl | rfl
 · rw [qct];rfl
 · rw [qeh];simp
theorem qdx {α:Type} {l:List α} {k:Nat} {x:α} (h:l[k]? = some x):l.drop k=x :: l.drop (k+1):=by
 rw [List.drop_eq_getElem_cons (qai h)];rw [List.getElem?_eq_getElem (qai h)] at h;injection h with h
 rw [h]
theorem PolX.rest {X:Nat->Prop} {w:World} {a:Option Addr} {c:Nat} {p:List Tm} (h:PolX X w a c p) (k:Nat) :
  ∃ l:List TQ,p.length-k=l.length/\AllT X w l (p.drop k)/\Rd X w (RowT (if c=k then a else a.map (·.add (k*4))) (c-k) l):=by
 obtain ⟨l,h1,h2⟩:=h;refine ⟨l.drop k,by rw [List.length_drop,h2.1],h2.drop k,h1.imp fun V hR=>?_⟩;refine ⟨by have:=hR.1;rw [List.length_drop];omega,by have:=hR.2.1;omega,fun j t ht=>?_⟩;rw [List.getElem?_drop] at ht;obtain ⟨b,off,rfl,hA⟩:=hR.2.2 (k+j) t ht;have hlt:=qai ht;have hc:=hR.1;rw [if_neg oo];refine ⟨b,off+k*4,by rw [Option.map_some,Addr.add_lit],?_⟩
 rwa [show off+k*4+j*4=off+(k+j)*4 by omega]
theorem AllT.appN {X:Nat->Prop} {w w':World} {a a':Option Addr} {c n:Nat} {p:List Tm} {m lo:List TQ} (h:AllT (Xr X a) w lo p) (hg:w.grownBy w' (Value.ownBlock (.slice a n c))) (ha:m=[]/\a'=a/\w'=w\/∃ g,a'=some ⟨g,0,none⟩/\(a=some ⟨g,0,none⟩\/g=w.heap.size)):AllT (Xr X a') w' lo p:=by
 rcases ha with ⟨_,rfl,rfl⟩ | ha
 · exact h
 · exact h.app hg ha
theorem qka (ts:TypeId) (hu:Tryz.prog.underlying ts=some (.slice 193)) (a:Option Addr) (n c i:Nat) (hi:i<=n) (w:World) :
  (Instr.slice ts (.slice a n c) (some (.int .i64 (i:Int))) none none).run Tryz.prog w=.ok (.slice (if c=i then a else a.map (·.add (i*4))) (n-i) (c-i)) w:=by
 obtain ⟨d,hd,hz,hsz,hby⟩:=info_parts qeu;have he:Tryz.prog.elem ts=193:=by unfold Program.elem;rw [hu]
 have:=run_slice_l (P:=Tryz.prog) (w:=w) ts a n c (by rw [hu,he]) .i64 i oo oo;rw [this,he];simp [sizeOf,typeInfo,hd,hsz,sliced]
theorem qc8 {X:Nat->Prop} {wr w4 w5 w6:World} {ra ra2:Option Addr} {rc n:Nat} {lo:List TQ} {po:List Tm} {s:TQ} {u:Tm} (hA:AllT (Xr X ra) wr lo po) (hb4:Below wr.heap.size wr w4) (h5:Below w4.heap.size w4 w5)
  (hsR:Rd (Xr X ra) w5 (s.R u)) (hg:w5.grownBy w6 (Value.ownBlock (.slice ra n rc))) (ha:∃ g,ra2=some ⟨g,0,none⟩/\(ra=some ⟨g,0,none⟩\/g=w5.heap.size)):AllT (Xr X ra2) w6 (lo++[s]) (po++[u]) :=
 (((hA.call hb4).call h5).append (AllT.one hsR)).app hg ha
theorem qc1 {X:Nat->Prop} {w wr:World} {ra:Option Addr} {R:World->Prop} (h:Rd X w R) (ha:∀ g,ra=some g->w.heap.size<=g.block) (hb:Below w.heap.size w wr):Rd (Xr X ra) wr R:=(h.row ha).call hb
theorem qu3 {X:Nat->Prop} {ra:Option Addr} {W:World} {x:QA} {q:Rat} {B T:Nat} {s:TQ} {u:Tm} (h:Kp (fun V=>QK 2001 V x q) B T W) (hX:∀ b,Xr X ra b->b<B) (hs:Rd (Xr X ra) W (s.R u)):Rd (Xr X ra) W (TQ.R ⟨x,s.n,s.a,s.c⟩ (q,u.2)) :=
 ((Rd.kp h fun b hb=>.inl (hX b hb)).and hs).imp fun _ ⟨h1,h2⟩=>⟨h1.1,h2.2.1,h2.2.2⟩
theorem Xr_lt {X:Nat->Prop} {w wr:World} {ra:Option Addr} {rc:Nat} {lo:List TQ} (hX:∀ b,X b->b<w.heap.size) (ho:OwnT w.heap.size wr ra rc lo) (hb:w.heap.size<=wr.heap.size):∀ b,Xr X ra b->b<wr.heap.size:=fun b h=>by
 rcases h with h | ⟨g,hg,rfl⟩
 · have:=hX b h;omega
 · exact (ho.lt hg).2
theorem zz30 {P:Prop} (h:P:=by
 rw [<- hge] at hg ⊢;clear hge;obtain ⟨sn,hsn⟩:∃ sn:TQ,sn=⟨x,s.n,s.a,s.c⟩:=⟨_,rfl⟩
 have hRS:Rd (Xr X ra) wz (sn.R (u.1+v.1,u.2)):=by rw [hsn];exact qu3 HK (fun b hb=>by have:=hlx.out b hb;have:=s4.size;omega) ((hsr.out.call s4).call sz)
 have z0:wz.cell? ⟨g,0,none⟩=some (.bool sn.x.neg):=by rw [hsn];exact hg.cell 0
 have z1:wz.cell? ⟨g,1,none⟩=some (.slice sn.x.a sn.x.n sn.x.c):=by rw [hsn];exact hg.cell 1
 have z2:wz.cell? ⟨g,2,none⟩=some (.slice sn.x.b sn.x.m sn.x.d):=by rw [hsn];exact hg.cell 2
 have z3:wz.cell? ⟨g,3,none⟩=some (.slice sn.a sn.n sn.c):=by rw [hsn];exact hg.cell 3
 have hgl:=hg.lt;replace hRS:=Hd hRS;replace hL0:=hL0.out;obtain ⟨nb,hnb⟩:=nm ((!decide (u.1+v.1=0)))
 rw [hnb];clear hg HK hb5 s5 s0 j0 j1 j2 j3 n0 n1 n2 n3 CA hsn hL g1 g2
 cases nb
 ·
  have hz:u.1+v.1=0:=by simpa using hnb
  have ho3:=ho2.out;rw [qfi hL0 hz] at ho3;replace ho3:=Hd ho3;have hA6:=hA.out.call (bth s4 sz);have ho6:=ho.out.below (bth s4 sz);have hwo6:=bth hwr (bth s4 sz);replace ho6:=Hd ho6;replace hA6:=Hd hA6;clear z0 z1 z2 z3 hRS ho2 hnb hz hL0;go_wp2;go_roundg (gk-2)
  case rel=>exact ⟨i+1,k+1,lo,po,ra,rc,by have:=hm.out;show _=_;omega,oo,oo,rfl,by go_num,by go_num,ho6.out,hA6.out,hwo6,ho3.out,by have:=hll.out;show _<=_;omega⟩
  case measure=>have:=hm.out;omega
 ·
  have hz:¬ (u.1+v.1=0):=by simpa using hnb
  have ho3:=ho2.out;rw [qhn hL0 hz] at ho3;replace ho3:=Hd ho3;have szz:=bth s4 sz;clear ho2 hnb hz hL0
  -- the element is copied
  have hb5:Below wz.heap.size wz (wz.alloc (.cells #[.bool sn.x.neg,.slice sn.x.a sn.x.n sn.x.c,.slice sn.x.b sn.x.m sn.x.d,.slice sn.a sn.n sn.c] 193)):=by go_grown
  have howc:=((ho.out.below szz).alloc (.cells #[.bool sn.x.neg,.slice sn.x.a sn.x.n sn.x.c,.slice sn.x.b sn.x.m sn.x.d,.slice sn.a sn.n sn.c] 193))
  have hel:TQ.At sn (wz.alloc (.cells #[.bool sn.x.neg,.slice sn.x.a sn.x.n sn.x.c,.slice sn.x.b sn.x.m sn.x.d,.slice sn.a sn.n sn.c] 193)) wz.heap.size 0:=⟨(Blk.new wz 193 #[.bool sn.x.neg,.slice sn.x.a sn.x.n sn.x.c,.slice sn.x.b sn.x.m sn.x.d,.slice sn.a sn.n sn.c]).cell 0,(Blk.new wz 193 #[.bool sn.x.neg,.slice sn.x.a sn.x.n sn.x.c,.slice sn.x.b sn.x.m sn.x.d,.slice sn.a sn.n sn.c]).cell 1,(Blk.new wz 193 #[.bool sn.x.neg,.slice sn.x.a sn.x.n sn.x.c,.slice sn.x.b sn.x.m sn.x.d,.slice sn.a sn.n sn.c]).cell 2,(Blk.new wz 193 #[.bool sn.x.neg,.slice sn.x.a sn.x.n sn.x.c,.slice sn.x.b sn.x.m sn.x.d,.slice sn.a sn.n sn.c]).cell 3⟩
  have hwo4:=bth hwr (bth szz hb5);replace howc:=Hd howc;replace hel:=Hd hel;go_wp2_with (at_builtin;go_must (refine qdc (B:=wo.heap.size) rfl (.tmp 55) (.tmp 57) 74 rfl Tryz.underlying74 ra rc rfl howc.out sn wz.heap.size 1 rfl hel.out (lo++[sn]) rfl (by have:=hll.out;simp;omega) (by have:=hwo4.size;simpa using this) ?_);intro ra2 rc2 w6 ho6 hg6 ha6);have hA6:=qc8 hA.out szz hb5 (hRS.out.call hb5) hg6 ha6;have hwo6:Below wo.heap.size wo w6:=qal hwo4 howc.out hg6;replace ho6:=Hd ho6;replace hA6:=Hd hA6;clear hg6 ha6 howc hel hb5 hwo4;go_wp2;go_roundg (gk-2)
  case rel=>exact ⟨i+1,k+1,lo++[_],po++[_],ra2,rc2,by have:=hm.out;show _=_;omega,oo,oo,by simp,by go_num,by go_num,ho6.out,hA6.out,hwo6,by rw [<- ho3.out];show _=_;simp,by have:=hll.out;show _<=_;simp;omega⟩
  case measure=>have:=hm.out;omega
 ):P:=h
theorem zz31 {P:Prop} (h:P:=by
 replace ho3:=Hd ho3;clear hout;obtain ⟨l1,hn1,hA1,hR1⟩:=HP.out.rest i;obtain ⟨l2,hn2,hA2,hR2⟩:=HQ.out.rest k;have hs1:=fun W=>qka 74 Tryz.underlying74 a p.length ca i hi W
 have hs2:=fun W=>qka 74 Tryz.underlying74 b q.length cb k hk W
 rw [hn1] at hs1;rw [hn2] at hs2;obtain ⟨a1,ha1⟩:=nm ((if ca=i then a else a.map (·.add (i*4))))
 obtain ⟨a2,ha2⟩:=nm ((if cb=k then b else b.map (·.add (k*4))))
 obtain ⟨c1,hc1⟩:=nm (ca-i)
 obtain ⟨c2,hc2⟩:=nm (cb-k)
 rw [ha1,hc1] at hs1 hR1;rw [ha2,hc2] at hs2 hR2;have hB1:=qc1 hR1 hro.out hwr;have hlen1:(lo++l1).length<=16777216:=by have:=hll.out;rw [List.length_append,<- hn1];omega
 have hlen2:(lo++l1++l2).length<=16777216:=by have:=hll.out;rw [List.length_append,List.length_append,<- hn1,<- hn2];omega
 have hAA:AllT X wo (l1++l2) (p.drop i++q.drop k):=hA1.append hA2;have hAr:=(hA.out.append (hA1.map (Y:=Xr X ra) (w':=wr) fun _ _ h=>qc1 h hro.out hwr))
 replace hn1:=Hd hn1;replace hn2:=Hd hn2;replace hA1:=Hd hA1;replace hA2:=Hd hA2;replace hR1:=Hd hR1;replace hR2:=Hd hR2;replace hB1:=Hd hB1;replace hlen1:=Hd hlen1;replace hlen2:=Hd hlen2;replace hAA:=Hd hAA;replace hAr:=Hd hAr;clear ha1 ha2 hc1 hc2;obtain ⟨lx,hlx⟩:∃ lx,lx=lo++l1:=⟨_,rfl⟩
 obtain ⟨ly,hly⟩:∃ ly,ly=lo++l1++l2:=⟨_,rfl⟩
 rw [<- hly] at hlen2;rw [<- hlx] at hlen1 hAr hly;replace hlx:=Hd hlx;replace hly:=Hd hly;go_wp2_with (first
  | (at_builtin
     refine qle (B:=wo.heap.size) rfl (.tmp 87) (.tmp 90) 74 rfl Tryz.underlying74 ra rc rfl ho.out l1 a1 _ c1 rfl rfl hB1.out.now lx hlx.out hlen1.out hwr.size ?_;intro ra2 rc2 w5 ho5 hg5 ha5;have hA5:=AllT.appN hAr.out hg5 ha5;have hw5:=qal hwr ho.out hg5;have hB2:=qc1 (ra:=ra2) hR2.out (fun g hg=>(ho5.lt hg).1) hw5;replace hA5:=Hd hA5;replace ho5:=Hd ho5;replace hB2:=Hd hB2;clear hg5 ha5)
  | (at_builtin
     go_must (refine qle (B:=wo.heap.size) rfl (.tmp 92) (.tmp 95) 74 rfl Tryz.underlying74 ra2 rc2 rfl ho5.out l2 a2 _ c2 rfl rfl hB2.out.now ly hly.out hlen2.out hw5.size ?_)
     intro ra3 rc3 w6 ho6 hg6 ha6))
 have hA6:=AllT.appN (hA5.out.append (hA2.out.map (Y:=Xr X ra2) (w':=w5) fun _ _ h=>qc1 h (fun g hg=>(ho5.out.lt hg).1) hw5)) hg6 ha6;have hw6:=qal hw5 ho5.out hg6;rw [<- hly.out] at hA6;have hP6:=ho6.pol hA6 HX.out;have hRl:ly.length=R.length:=by rw [hA6.1,<- ho3.out];simp
 go_ret;refine ⟨ra3,rc3,by rw [hRl];rfl,?_,hw6⟩;rw [<- ho3.out,<- List.append_assoc];exact hP6
 ):P:=h
theorem qaa1 (X:Nat->Prop) (p q:List Tm) (a b:Option Addr) (ca cb:Nat) (w:World) (hX:∀ b,X b->b<w.heap.size) (hp:PolX X w a ca p) (hq:PolX X w b cb q) (fp:FineP p) (fq:FineP q) :
  Calls Tryz.prog 157 #[.slice a p.length ca,.slice b q.length cb,.func (Fn.func 158) #[] #[],.func (Fn.func 159) #[] #[]] w (RetP X (addP p q) w):=by
 have lp:=hp.len;have lq:=hq.len;have l1:=fp.1;have l2:=fq.1;obtain ⟨cur,hcs,hmk⟩:=qac4 74 Tryz.underlying74 (p.length+q.length) oo w;have how:OwnT w.heap.size (w.alloc (.cells cur 193)) (some ⟨w.heap.size,0,none⟩) (p.length+q.length) []:=World.ownsRow_made w cur _ (nlr _) (by unfold maxLen;omega) hcs;have hb0:Below w.heap.size w (w.alloc (.cells cur 193)):=by go_grown
 rw [Int.natCast_add] at hmk;obtain ⟨R,hR⟩:=nm (addP p q)
 rw [hR];have HP:=Hd hp;have HQ:=Hd hq;have FP:=Hd fp.2;have FQ:=Hd fq.2;have HX:=Hd hX;have HR:=Hd hR;replace how:=Hd how;clear hp hq fp fq hX hR hcs;go_enter Tryz.func157,Tryz.ntmps157;go_wp2;obtain ⟨wo,rfl⟩:∃ wo:World,wo=w:=⟨_,rfl⟩
 go_loopg [9,10,11,12,13,14] (p.length+q.length) (fun m o qi qk _ _ _ wr=>∃ (i k:Nat) (lo:List TQ) (po:List Tm) (ra:Option Addr) (rc:Nat),Hid (i+k+m=p.length+q.length)/\i<=p.length/\k<=q.length/\o=.slice ra lo.length rc/\qi=.int .i64 i/\qk=.int .i64 k/\Hid (OwnT wo.heap.size wr ra rc lo)/\Hid (AllT (Xr X ra) wr lo po)/\Below wo.heap.size wo wr/\Hid (po++addP (p.drop i) (q.drop k)=R)/\Hid (lo.length<=i+k))
 case atStart=>exact ⟨0,0,[],[],some ⟨wo.heap.size,0,none⟩,p.length+q.length,by show _=_;omega,oo,oo,rfl,rfl,rfl,how.out,AllT.nil,hb0,HR.out,nlr _⟩
 case round =>
  clear hmk how hb0;obtain ⟨i,k,lo,po,ra,rc,hm,hi,hk,rfl,rfl,rfl,ho,hA,hwr,hout,hll⟩:=hrel;have hro:Hid (∀ g,ra=some g->wo.heap.size<=g.block):=Hd fun g hg=>(ho.out.lt hg).1
  by_cases h1:i<p.length
  ·
   by_cases h2:k<q.length
   ·
    obtain ⟨u,hu⟩:=qab h1;obtain ⟨v,hv⟩:=qab h2;obtain ⟨b1,o1,s,rfl,hs,hsR⟩:=HP.out.get hu;obtain ⟨b2,o2,t,rfl,ht,htR⟩:=HQ.out.get hv;have fu:=FP.out u (List.mem_of_getElem? hu);have fv:=FQ.out v (List.mem_of_getElem? hv);have ho2:=hout.out;rw [qdx hu,qdx hv] at ho2;have hdp:=Hd (qdx hu);have hdq:=Hd (qdx hv);have hsr:=qc1 hsR hro.out hwr;have htr:=qc1 htR hro.out hwr;have CL:=fun W (hW:Below wr.heap.size wr W)=>qx2 s t u.2 v.2 W ((hsR.call (bth hwr hW)).now.2.1) ((htR.call (bth hwr hW)).now.2.1) (hsR.now.2.2) (htR.now.2.2)
    have CA:=fun W (hW:Below wr.heap.size wr W)=>qzm s t u.1 v.1 W ((hsR.call (bth hwr hW)).now.qk fu) ((htR.call (bth hwr hW)).now.qk fv)
    obtain ⟨c0,c1,c2,c3⟩:=hs;obtain ⟨d0,d1,d2,d3⟩:=ht;have k0:=held (held c0 wr hwr);have k1:=held (held c1 wr hwr);have k2:=held (held c2 wr hwr);have k3:=held (held c3 wr hwr);have y0:=held (held d0 wr hwr);have y1:=held (held d1 wr hwr);have y2:=held (held d2 wr hwr);have y3:=held (held d3 wr hwr);have s0:Below wr.heap.size wr wr.drew:=brf.drew;obtain ⟨L,hL⟩:=nm (lexI u.2 v.2)
    rw [hL] at CL;replace hL:=Hd hL;replace CL:=Hd CL;replace CA:=Hd CA;replace hsR:=Hd hsR;replace htR:=Hd htR;replace fu:=Hd fu;replace fv:=Hd fv;replace ho2:=Hd ho2;replace hsr:=Hd hsr;replace htr:=Hd htr;clear hu hv c0 c1 c2 c3 d0 d1 d2 d3 hout;go_wp2;refine wrx (S:=Below wr.heap.size wr) [(0,.q),(1,.q),(2,.q),(3,.q),(4,.q),(5,.q),(6,.q),(7,.q),(8,.q),(9,.t),(10,.p)] (s0) ?_
    iterate 9 (refine qaf rfl rfl fun K hK=>xq ?_;go_simp;refine hK _ _ ?_;clear hK K)
    refine vt fun K hK=>?_
    go_simp;refine (CL.out _ s0).mono ?_;rintro r w4 ⟨rfl,hb4⟩;dsimp only;refine hK.out _ _ ?_;clear hK K
    refine qaj rfl rfl fun K hK=>xp ?_;go_simp;refine hK _ _ ?_;clear hK K
    refine qad ?_;have s4:=bth s0 hb4;clear hb4 s0;have e0:=k0 w4 s4;have e1:=k1 w4 s4;have e2:=k2 w4 s4;have e3:=k3 w4 s4;have f0:=y0 w4 s4;have f1:=y1 w4 s4;have f2:=y2 w4 s4;have f3:=y3 w4 s4;clear k0 k1 k2 k3 y0 y1 y2 y3;by_cases g1:0<L
    ·
     have ho3:=ho2.out;rw [qhw (by rw [hL.out];exact g1)] at ho3;replace ho3:=Hd ho3;clear CA CL hsR htR fu fv htr ho2
     -- the element is copied
     have hb5:Below w4.heap.size w4 (w4.alloc (.cells #[.bool s.x.neg,.slice s.x.a s.x.n s.x.c,.slice s.x.b s.x.m s.x.d,.slice s.a s.n s.c] 193)):=by go_grown
     have howc:=((ho.out.below s4).alloc (.cells #[.bool s.x.neg,.slice s.x.a s.x.n s.x.c,.slice s.x.b s.x.m s.x.d,.slice s.a s.n s.c] 193))
     have hel:TQ.At s (w4.alloc (.cells #[.bool s.x.neg,.slice s.x.a s.x.n s.x.c,.slice s.x.b s.x.m s.x.d,.slice s.a s.n s.c] 193)) w4.heap.size 0:=⟨(Blk.new w4 193 #[.bool s.x.neg,.slice s.x.a s.x.n s.x.c,.slice s.x.b s.x.m s.x.d,.slice s.a s.n s.c]).cell 0,(Blk.new w4 193 #[.bool s.x.neg,.slice s.x.a s.x.n s.x.c,.slice s.x.b s.x.m s.x.d,.slice s.a s.n s.c]).cell 1,(Blk.new w4 193 #[.bool s.x.neg,.slice s.x.a s.x.n s.x.c,.slice s.x.b s.x.m s.x.d,.slice s.a s.n s.c]).cell 2,(Blk.new w4 193 #[.bool s.x.neg,.slice s.x.a s.x.n s.x.c,.slice s.x.b s.x.m s.x.d,.slice s.a s.n s.c]).cell 3⟩
     have hwo4:=bth hwr (bth s4 hb5);replace howc:=Hd howc;replace hel:=Hd hel;go_wp2_with (at_builtin;go_must (refine qdc (B:=wo.heap.size) rfl (.tmp 66) (.tmp 71) 74 rfl Tryz.underlying74 ra rc rfl howc.out s w4.heap.size 1 rfl hel.out (lo++[s]) rfl (by have:=hll.out;simp;omega) (by have:=hwo4.size;simpa using this) ?_);intro ra2 rc2 w6 ho6 hg6 ha6);have hA6:=qc8 hA.out s4 hb5 ((hsr.out.call s4).call hb5) hg6 ha6;have hwo6:Below wo.heap.size wo w6:=qal hwo4 howc.out hg6;replace ho6:=Hd ho6;replace hA6:=Hd hA6;clear hg6 ha6 howc hel hb5 hwo4;go_wp2;go_roundg (gk-1)
     case rel=>exact ⟨i+1,k,lo++[s],po++[u],ra2,rc2,by have:=hm.out;show _=_;omega,oo,oo,by simp,by go_num,rfl,ho6.out,hA6.out,hwo6,by rw [<- ho3.out,hdq.out];show _=_;simp,by have:=hll.out;show _<=_;simp;omega⟩
     case measure=>have:=hm.out;omega
    ·
     by_cases g2:L<0
     ·
      have ho3:=ho2.out;rw [qhk (by rw [hL.out];exact g2)] at ho3;replace ho3:=Hd ho3;clear CA CL hsR htR fu fv hsr ho2
      -- the element is copied
      have hb5:Below w4.heap.size w4 (w4.alloc (.cells #[.bool t.x.neg,.slice t.x.a t.x.n t.x.c,.slice t.x.b t.x.m t.x.d,.slice t.a t.n t.c] 193)):=by go_grown
      have howc:=((ho.out.below s4).alloc (.cells #[.bool t.x.neg,.slice t.x.a t.x.n t.x.c,.slice t.x.b t.x.m t.x.d,.slice t.a t.n t.c] 193))
      have hel:TQ.At t (w4.alloc (.cells #[.bool t.x.neg,.slice t.x.a t.x.n t.x.c,.slice t.x.b t.x.m t.x.d,.slice t.a t.n t.c] 193)) w4.heap.size 0:=⟨(Blk.new w4 193 #[.bool t.x.neg,.slice t.x.a t.x.n t.x.c,.slice t.x.b t.x.m t.x.d,.slice t.a t.n t.c]).cell 0,(Blk.new w4 193 #[.bool t.x.neg,.slice t.x.a t.x.n t.x.c,.slice t.x.b t.x.m t.x.d,.slice t.a t.n t.c]).cell 1,(Blk.new w4 193 #[.bool t.x.neg,.slice t.x.a t.x.n t.x.c,.slice t.x.b t.x.m t.x.d,.slice t.a t.n t.c]).cell 2,(Blk.new w4 193 #[.bool t.x.neg,.slice t.x.a t.x.n t.x.c,.slice t.x.b t.x.m t.x.d,.slice t.a t.n t.c]).cell 3⟩
      have hwo4:=bth hwr (bth s4 hb5);replace howc:=Hd howc;replace hel:=Hd hel;go_wp2_with (at_builtin;go_must (refine qdc (B:=wo.heap.size) rfl (.tmp 78) (.tmp 83) 74 rfl Tryz.underlying74 ra rc rfl howc.out t w4.heap.size 1 rfl hel.out (lo++[t]) rfl (by have:=hll.out;simp;omega) (by have:=hwo4.size;simpa using this) ?_);intro ra2 rc2 w6 ho6 hg6 ha6);have hA6:=qc8 hA.out s4 hb5 ((htr.out.call s4).call hb5) hg6 ha6;have hwo6:Below wo.heap.size wo w6:=qal hwo4 howc.out hg6;replace ho6:=Hd ho6;replace hA6:=Hd hA6;clear hg6 ha6 howc hel hb5 hwo4;go_wp2;go_roundg (gk-1)
      case rel=>exact ⟨i,k+1,lo++[t],po++[v],ra2,rc2,by have:=hm.out;show _=_;omega,oo,oo,by simp,rfl,by go_num,ho6.out,hA6.out,hwo6,by rw [<- ho3.out,hdp.out];show _=_;simp,by have:=hll.out;show _<=_;simp;omega⟩
      case measure=>have:=hm.out;omega
     ·
      have hL0:lexI u.2 v.2=0:=by rw [hL.out];omega
      have hlx:=Hd (Xr_lt HX.out ho.out hwr.size);have j0:=held e0;have j1:=held e1;have j2:=held e2;have j3:=held e3;have n0:=held f0;have n1:=held f1;have n2:=held f2;have n3:=held f3;have s0:Below w4.heap.size w4 w4.drew:=brf.drew;replace hL0:=Hd hL0;clear CL hsR htR fu fv htr hdp hdq e0 e1 e2 e3 f0 f1 f2 f3;go_wp2;refine qdb (S:=Below w4.heap.size w4) (.q 0 (.q 1 (.q 2 (.q 3 (.q 4 (.q 5 (.q 6 (.q 7 (.q 8 (.two 9 (.q 10 (.q 11 (.q 12 (.l 13 (.l 14 (.p 15 .nil)))))) 13 (.l 9 (.q 10 (.q 11 (.q 12 (.l 14 (.p 15 .nil)))))))))))))))) [15] (by kernel_rfl) (by kernel_rfl) (by kernel_rfl) (fun d _ _ _ _ h=>by cases d <;> exact h) s0 ?_
      iterate 9 (refine qgq rfl rfl fun K hK=>xq ?_;go_simp;refine hK _ _ ?_;clear hK K)
      refine qdh ?_ ?_
      ·
       skip
       refine qa7 rfl rfl (fun K hK=>?_);go_simp;refine (CA.out _ (bth s4 s0)).mono ?_;rintro r w5 ⟨x,rfl,HK,hb5⟩;dsimp only;refine hK.out _ _ (bth s0 hb5) (fun _=>?_);clear hK K
       iterate 3 (refine qgq rfl rfl fun K hK=>xq ?_;go_simp;refine hK _ _ ?_;clear hK K)
       have s5:Below w4.heap.size w4 w5:=bth s0 hb5;have sA:Below w4.heap.size w4 (w5.alloc (.cells #[.bool false,.slice none 0 0,.slice none 0 0,.slice none 0 0] 193)):=s5.alloc s5.size _;refine qa7 rfl rfl (fun K hK=>?_);go_simp;refine hK.out _ _ (sA) (fun _=>?_);clear hK K;have hzz:Blk (w5.alloc (.cells #[.bool false,.slice none 0 0,.slice none 0 0,.slice none 0 0] 193)) w5.heap.size 193 #[.bool false,.slice none 0 0,.slice none 0 0,.slice none 0 0]:=Blk.new w5 _ _;obtain ⟨z0,z1,z2,z3⟩:=cq4 hzz;obtain ⟨x0,x1,x2,x3⟩:=fq4 hzz;refine qa7 rfl rfl (fun K hK=>?_);go_simp;refine hK.out _ _ ((s5.alloc s5.size _)) (fun _=>?_);clear hK K
       refine qwt rfl rfl fun K hK=>xp ?_;go_simp;refine hK _ _ ?_;clear hK K
       refine qdu ?_;replace HK:=Hd (show Kp (fun V=>QK 2001 V x (u.1+v.1)) w4.heap.size w5.heap.size w5 from HK);refine qaa (fun W=>Blk W w5.heap.size 193 #[.bool x.neg,.slice x.a x.n x.c,.slice x.b x.m x.d,.slice s.a s.n s.c]/\Kp (fun V=>QK 2001 V x (u.1+v.1)) w4.heap.size w5.heap.size W/\Below w4.heap.size w4 W) ⟨bk,by (with_reducible repeat first | exact HK.out | (refine Kp.setc ?_ ?_;focus omega) | refine Kp.alloc ?_ | refine Kp.drew ?_),s5.alloc s5.size _⟩ ?_;clear z0 z1 z2 z3 x0 x1 x2 x3 hzz sA;rintro wz ⟨hg,HK,sz⟩;obtain ⟨g,hge⟩:∃ g,g=w5.heap.size:=⟨_,rfl⟩
       exact zz30
      ·
       skip
       have sA:Below w4.heap.size w4 (w4.alloc (.cells #[.bool false,.slice none 0 0,.slice none 0 0,.slice none 0 0] 193)).drew:=(brf.alloc (nlr _) _).drew;refine qa7 rfl rfl (fun K hK=>?_);go_simp;refine hK.out _ _ sA (fun _=>?_);clear hK K;refine qa7 rfl rfl (fun K hK=>?_);go_simp;refine (CA.out _ (bth s4 sA)).mono ?_;rintro r w5 ⟨x,rfl,HK,hb5⟩;dsimp only;refine hK.out _ _ (bth sA hb5) (fun _=>?_);clear hK K;have s5:=bth sA hb5;have hle4:w4.heap.size<=w4.heap.size:=nlr _
       iterate 3 (refine qgq rfl rfl fun K hK=>xq ?_;go_simp;refine hK _ _ ?_;clear hK K)
       have hzz:Blk w5 w4.heap.size 193 #[.bool false,.slice none 0 0,.slice none 0 0,.slice none 0 0]:=(show Blk (w4.alloc (.cells #[.bool false,.slice none 0 0,.slice none 0 0,.slice none 0 0] 193)).drew w4.heap.size 193 #[.bool false,.slice none 0 0,.slice none 0 0,.slice none 0 0] from Blk.new w4 _ _).below' hb5;obtain ⟨z0,z1,z2,z3⟩:=cq4 hzz;obtain ⟨x0,x1,x2,x3⟩:=fq4 hzz;have hle:w4.heap.size<(w4.alloc (.cells #[.bool false,.slice none 0 0,.slice none 0 0,.slice none 0 0] 193)).drew.heap.size:=by simp
       refine qa7 rfl rfl (fun K hK=>?_);go_simp;refine hK.out _ _ (((((s5.setCell hle4 _).setCell hle4 _).setCell hle4 _).setCell hle4 _)) (fun _=>?_);clear hK K
       refine qwt rfl rfl fun K hK=>xp ?_;go_simp;refine hK _ _ ?_;clear hK K
       refine qdu ?_;replace HK:=Hd (Kp.broad (B':=w4.heap.size+1) HK (by simp) (nlr _));refine qaa (fun W=>Blk W w4.heap.size 193 #[.bool x.neg,.slice x.a x.n x.c,.slice x.b x.m x.d,.slice s.a s.n s.c]/\Kp (fun V=>QK 2001 V x (u.1+v.1)) (w4.heap.size+1) w5.heap.size W/\Below w4.heap.size w4 W) ⟨bk,by (with_reducible repeat first | exact HK.out | (refine Kp.setc ?_ ?_;focus omega) | refine Kp.alloc ?_ | refine Kp.drew ?_),((((s5.setCell hle4 _).setCell hle4 _).setCell hle4 _).setCell hle4 _)⟩ ?_;clear z0 z1 z2 z3 x0 x1 x2 x3 hzz sA hle;rintro wz ⟨hg,HK,sz⟩;replace HK:=HK.broad (B':=w4.heap.size+1) (nlr _) (nlr _);obtain ⟨g,hge⟩:∃ g,g=w4.heap.size:=⟨_,rfl⟩
       exact zz30
   ·
    have ho3:=hout.out;rw [qng (.inr (List.drop_eq_nil_of_le oo))] at ho3;exact zz31
  ·
   have ho3:=hout.out;rw [qng (.inl (List.drop_eq_nil_of_le oo))] at ho3;exact zz31
def RowZ (w:World) (g:Nat) (l:List Int):Prop:=Blk w g 3 (l.map (Value.int .i64)).toArray
section
variable {w w' : World} {g : Nat} {l : List Int}
theorem RowZ.lt (h:RowZ w g l):g<w.heap.size:=Blk.lt h
theorem RowZ.cell (h:RowZ w g l) {i:Nat} {x:Int} (hx:l[i]? = some x):w.cell? ⟨g,i,none⟩=some (.int .i64 x):=by
 rw [Blk.cell h i];simp [hx]
theorem RowZ.frozen (h:RowZ w g l) (i:Nat):w.frozen? ⟨g,i,none⟩=false:=Blk.frozen h i
theorem RowZ.set_ (h:RowZ w g l) (i:Nat) (x:Int):RowZ (w.setCell ⟨g,i,none⟩ (.int .i64 x)) g (l.set i x):=by
 have:=Blk.set_ h i (.int .i64 x);unfold RowZ;rw [List.setIfInBounds_toArray,<- List.map_set] at this;exact this
theorem RowZ.below (h:RowZ w g l) (hb:Below w.heap.size w w'):RowZ w' g l:=Blk.below' h hb
theorem RowZ.reads (h:RowZ w g l) (hs:∀ x∈l,InInt x) (hm:l.length<=maxLen) {B T:Nat} (hB:B<=g) (hT:g<T):Kp (fun V=>IntsR V (some ⟨g,0,none⟩) l.length l) B T w:=fun V hV =>
 ⟨nlr _,hm,fun k x hx=>⟨g,0,rfl,by simpa using hV _ _ (by simpa using hB) (by simpa using hT) (h.cell hx),wf_of (hs x (List.mem_of_getElem? hx))⟩⟩
end
theorem infoZ:(Tryz.prog.info? 3).map (fun i=>(i.zero,i.size,i.bytes))=some (some (.int .i64 0),1,8):=by kernel_rfl
theorem qt1 (n:Nat):madeCells #[.int .i64 0] n=((List.replicate n (0:Int)).map (Value.int .i64)).toArray:=by
 apply Array.ext
 · simp [madeCells]
 ·
  intro i h1 h2;simp [madeCells,Nat.mod_one]
theorem ql0 (ts:TypeId) (hu:Tryz.prog.underlying ts=some (.slice 3)) (n:Nat) (hn:n<=1000000) (w:World) :
  (Instr.makeSlice ts (.int .i64 (n:Int)) (.int .i64 (n:Int))).run Tryz.prog w=.ok (.slice (some ⟨w.heap.size,0,none⟩) n n) (w.alloc (.cells (((List.replicate n (0:Int)).map (Value.int .i64)).toArray) 3)):=by
 obtain ⟨i,hi,hz,hsz,hby⟩:=info_parts infoZ;have:=run_makeSlice (w:=w) ts 3 i _ hu hi hz .i64 .i64 n n oo oo (by rw [hsz];simp;omega) (by rw [hby];omega) oo;rw [hsz] at this;simp only [Int.toNat_natCast,Nat.mul_one,Value.cells] at this;rw [qt1] at this;exact this
def partM (n:Nat) (f:Nat->Int) (k:Nat):List Int:=(List.range n).map fun v=>if v<k then f v else 0
theorem qsy (n:Nat) (f:Nat->Int):partM n f 0=List.replicate n 0:=by
 unfold partM;apply List.ext_getElem (by simp);intro i h1 h2;simp
theorem qvz {n:Nat} {f:Nat->Int} {k:Nat}:(partM n f k).set k (f k)=partM n f (k+1):=by
 unfold partM;apply List.ext_getElem (by simp);intro i h1 h2;rw [List.getElem_set];simp only [List.getElem_map,List.getElem_range];by_cases e:k=i
 · subst e;simp
 ·
  rw [if_neg e];by_cases h:i<k
  · rw [if_pos h,if_pos oo]
  · rw [if_neg h,if_neg oo]
theorem qxh {n:Nat} {f:Nat->Int} {k v:Nat} (hv:v<n):(partM n f k)[v]? = some (if v<k then f v else 0):=by
 unfold partM;rw [List.getElem?_map,List.getElem?_range hv]
 rfl
theorem qw3 (a b:List Int):partM (max a.length b.length) (fun v=>expAt a v+expAt b v) (max a.length b.length)=mulM a b:=by
 unfold partM mulM;refine List.map_congr_left fun v hv=>?_
 rw [if_pos (List.mem_range.1 hv)]
def RetMo (m:List Int) (w:World) (e:Ending) (w':World):Prop:=∃ a c,e=.returned (.slice a m.length c)/\Kp (fun V=>IntsR V a c m) w.heap.size w'.heap.size w'/\Below w.heap.size w w'
theorem qrd {w:World} {a:Option Addr} {c:Nat} {l:List Int} (h:IntsR w a c l) {k:Nat} {x:Int} (hx:l[k]? = some x):∃ b off,a=some ⟨b,off,none⟩/\w.cell? ⟨b,off+k,none⟩=some (.int .i64 x):=by
 obtain ⟨b,off,ha,hc⟩:=h.2.2 k x hx;exact ⟨b,off,ha,by simpa using hc.1⟩
theorem qz5 (x y:Int) (w:World) (h1:-4611686018427387904<=x/\x<=4611686018427387903) (h2:-4611686018427387904<=y/\y<=4611686018427387903) :
  Calls Tryz.prog 191 #[.int .i64 x,.int .i64 y] w fun e w'=>e=.returned (.int .i64 (x+y))/\w=w':=by
 obtain ⟨i1,i2⟩:=h1;obtain ⟨i3,i4⟩:=h2;go_enter Tryz.func191,Tryz.ntmps191;go_wp2;go_ret;exact ⟨rfl,rfl⟩
theorem zz33 {P:Prop} (h:P:=by
 go_wp2_with fail;refine (CA.out _).mono ?_;rintro e w1 ⟨rfl,rfl⟩;go_wp2;go_roundg (gk-1)
 case rel=>exact ⟨k+1,by have:=hkg.out;show _=_;omega,by go_num,by simpa using hws,by show RowZ _ _ _;simpa using hst.out⟩
 case measure=>have:=hkg.out;omega
 ):P:=h
theorem zz34 {P:Prop} (h:P:=by
 obtain ⟨v,hv⟩:=qab e2;have hyv:expAt m k=v:=qb7 hv;rw [hy.out] at hyv;obtain ⟨b2,o2,rfl,d1⟩:=qrd (H'.out.ext (xbw hwr)) hv;rw [<- hyv] at d1;clear hv hyv;exact zz33
 ):P:=h
theorem qp4 (l m:List Int) (a b:Option Addr) (ca cb:Nat) (w:World) (h:IntsR w a ca l) (h':IntsR w b cb m) (B:Int) (hB:0<=B/\B<=1048576) (hl:Mok B l) (hm:Mok B m) :
  Calls Tryz.prog 190 #[.slice a l.length ca,.slice b m.length cb,.func (Fn.func 191) #[] #[]] w fun e w'=>∃ g,e=.returned (.slice (some ⟨g,0,none⟩) (mulM l m).length (mulM l m).length)/\RowZ w' g (mulM l m)/\w.heap.size<=g/\Below w.heap.size w w':=by
 have z1:=h.len;have z2:=h'.len;have q1:=hl.2.2;have q2:=hm.2.2;have I1:=fun v=>hl.exp hB.1 v
 have I2:=fun v=>hm.exp hB.1 v
 obtain ⟨n,hn⟩:=nm (max l.length m.length)
 have hml:=qej l m;have hall:=qw3 l m;rw [hn] at hml hall;have hmk:=ql0 86 Tryz.underlying86 n oo w;have hmx:max (l.length:Int) (m.length:Int)=(n:Int):=oo
 have hn64:n<=64:=oo
 have hr0:RowZ (w.alloc (.cells (((List.replicate n (0:Int)).map (Value.int .i64)).toArray) 3)) w.heap.size (partM n (fun v=>expAt l v+expAt m v) 0):=by rw [qsy];exact Blk.new w _ _
 have hb0:Below w.heap.size w (w.alloc (.cells (((List.replicate n (0:Int)).map (Value.int .i64)).toArray) 3)):=by go_grown
 have H:=Hd h;have H':=Hd h';replace I1:=Hd I1;replace I2:=Hd I2;replace hml:=Hd hml;replace hall:=Hd hall;replace hn:=Hd hn;replace hr0:=Hd hr0;have hBB:=Hd hB;clear h h' hl hm hB;go_enter Tryz.func190,Tryz.ntmps190;go_wp2;refine qaa (fun W=>RowZ W w.heap.size (partM n (fun v=>expAt l v+expAt m v) 0)/\Below w.heap.size w W) ⟨by have:=hr0.out;simpa using this,by simpa using hb0⟩ ?_;rintro w0 ⟨hR,hw0⟩;obtain ⟨G,hG⟩:∃ G,G=w.heap.size:=⟨_,rfl⟩
 rw [<- hG] at hR ⊢;replace hR:=Hd hR;replace hG:=Hd hG;clear hb0 hr0 hmk
 go_loopg [8,9,10,19] n (fun g _ _ _ q wr=>∃ k:Nat,Hid (k+g=n)/\q=.int .i64 k/\Below w.heap.size w wr/\Hid (RowZ wr G (partM n (fun v=>expAt l v+expAt m v) k)))
 case atStart=>exact ⟨0,by show _=_;omega,rfl,hw0,hR.out⟩
 case round =>
  clear hw0 hR;obtain ⟨k,hkg,rfl,hwr,hR⟩:=hrel;by_cases hk:k<n
  ·
   obtain ⟨x,hx⟩:=nm (expAt l k)
   obtain ⟨y,hy⟩:=nm (expAt m k)
   have i1:=I1.out k;have i2:=I2.out k;rw [hx] at i1;rw [hy] at i2;have hbb:=hBB.out;have CA:=fun W=>qz5 x y W oo oo
   have c0:=hR.out.cell (qxh hk);rw [if_neg (Nat.lt_irrefl k)] at c0;have f0:=hR.out.frozen k;have hGl:=hR.out.lt;have hst:=hR.out.set_ k (x+y);rw [<- hx,<- hy,qvz,hx,hy] at hst;have hws:Below w.heap.size w (wr.setCell ⟨G,k,none⟩ (.int .i64 (x+y))):=hwr.setCell (p:=⟨G,k,none⟩) (by have:=hG.out;show _<=G;omega) _;replace CA:=Hd CA;replace hst:=Hd hst;replace hx:=Hd hx;replace hy:=Hd hy;clear i1 i2 hbb;by_cases e1:k<l.length
   ·
    obtain ⟨u,hu⟩:=qab e1;have hxu:expAt l k=u:=qb7 hu;rw [hx.out] at hxu;obtain ⟨b1,o1,rfl,d0⟩:=qrd (H.out.ext (xbw hwr)) hu;rw [<- hxu] at d0;clear hu hxu;by_cases e2:k<m.length
    ·
     exact zz34
    ·
     have hy0:y=0:=by rw [<- hy.out];exact qb9 oo
     subst hy0;exact zz33
   ·
    have hx0:x=0:=by rw [<- hx.out];exact qb9 oo
    subst hx0;by_cases e2:k<m.length
    ·
     exact zz34
    · have:=hn.out;omega
  ·
   have hkn:k=n:=by have:=hkg.out;omega
   have hF:=hR.out;rw [hkn,hall.out] at hF;clear hkn hR;go_wp2;go_ret;exact ⟨G,by rw [hml.out];rfl,hF,by have:=hG.out;omega,hwr⟩
theorem qsl (n g:Nat) (w:World) :
  (Instr.slice 191 (.slice (some ⟨g,0,none⟩) n n) none (some (.int .i64 (n:Int))) (some (.int .i64 (n:Int)))).run Tryz.prog w=.ok (.slice (some ⟨g,0,none⟩) n n) w:=by
 obtain ⟨d,hd,hz,hsz,hby⟩:=info_parts infoZ;have hu:=Tryz.underlying191;have he:Tryz.prog.elem 191=3:=by unfold Program.elem;rw [hu]
 have:=run_slice_hm (P:=Tryz.prog) (w:=w) 191 (some ⟨g,0,none⟩) n n (by rw [hu,he]) .i64 .i64 n n oo oo oo;rw [this,he];simp [sizeOf,typeInfo,hd,hsz,sliced];intro _
 rfl
theorem qvu (l:List Int) (g:Nat) (w:World) (h:RowZ w g l) (h0:l[l.length-1]? ≠ some 0) (hi:∀ x∈l,0<=x/\x<=4611686018427387903) (hl:l.length<=64) :
  Calls Tryz.prog 189 #[.slice (some ⟨g,0,none⟩) l.length l.length] w fun e w'=>e=.returned (.slice (if l.length=0 then none else some ⟨g,0,none⟩) l.length l.length)/\w=w':=by
 by_cases hn:l.length=0
 ·
  rw [if_pos hn,hn];clear h h0 hi;go_enter Tryz.func189,Tryz.ntmps189;go_wp2
  go_loopg [3] 0 (fun _ q wr=>q=.int .i64 0/\w=wr)
  case atStart=>exact ⟨rfl,rfl⟩
  case round =>
   obtain ⟨rfl,rfl⟩:=hrel;go_wp2;go_ret;exact ⟨rfl,rfl⟩
 ·
  rw [if_neg hn];obtain ⟨x,hx⟩:=qab (show l.length-1<l.length by omega);have hx0:x≠0:=fun e=>h0 (by rw [hx,e])
  have hxe:(x==0)=false:=by simpa using hx0
  have hxb:(x != 0)=true:=by simpa using hx0
  have hxi:=hi x (List.mem_of_getElem? hx);obtain ⟨i1,i2⟩:=hxi;have c0:=h.cell hx;have hl1:((l.length:Int)-1)=((l.length-1:Nat):Int):=oo
  have hsl:=fun W=>qsl l.length g W
  obtain ⟨n,hln⟩:=nm (l.length-1)
  rw [hln] at c0 hl1;clear h h0 hi hx;replace hln:=Hd hln;replace hx0:=Hd hx0;go_enter Tryz.func189,Tryz.ntmps189;go_wp2
  go_loopg [3] 0 (fun _ q wr=>q=.int .i64 l.length/\w=wr)
  case atStart=>exact ⟨rfl,rfl⟩
  case round =>
   obtain ⟨rfl,rfl⟩:=hrel;go_wp2;go_ret;exact ⟨rfl,rfl⟩
theorem qrn {B:Int} {l:List Int} (h:Mok B l) (hB:B<=2097152):∀ x∈l,InInt x:=fun x hx=>by have:=h.1 x hx;unfold InInt;omega
theorem qwo (l m:List Int) (a b:Option Addr) (ca cb:Nat) (w:World) (h:IntsR w a ca l) (h':IntsR w b cb m) (B:Int) (hB:0<=B/\B<=1048576) (hl:Mok B l) (hm:Mok B m) :
  Calls Tryz.prog 181 #[.slice a l.length ca,.slice b m.length cb] w (RetMo (mulM l m) w):=by
 have C1:=qp4 l m a b ca cb w h h' B hB hl hm;have hok:=qmd hl hm hB.1 hB.1;have C2:=fun g W hR=>qvu (mulM l m) g W hR hok.2.1 (fun x hx=>by have:=hok.1 x hx;omega) hok.2.2
 have hin:=qrn hok oo;have hln:=hok.2.2;revert C1 C2 hin hln;generalize mulM l m=r;intro C1 C2 hin hln;replace C1:=Hd C1;replace C2:=Hd C2;replace hin:=Hd hin;replace hln:=Hd hln;clear h h' hB hl hm hok;go_enter Tryz.func181,Tryz.ntmps181;go_wp2_with fail;refine C1.out.mono ?_;rintro e w1 ⟨g,rfl,hR,hg,hb⟩;go_wp2_with fail;refine (C2.out g w1 hR).mono ?_;rintro e w2 ⟨rfl,rfl⟩;by_cases h0:r.length=0
 ·
  obtain rfl:r=[]:=List.eq_nil_of_length_eq_zero h0;clear hR hg;rw [if_pos h0];go_wp2;go_ret;exact ⟨none,0,rfl,fun V _=>SlR.nil,hb⟩
 ·
  have hK:=hR.reads hin.out (by have:=hln.out;unfold maxLen;omega) hg hR.lt;replace hK:=Hd hK;rw [if_neg h0];clear hR hg h0;go_wp2;go_ret;exact ⟨_,_,rfl,hK.out,hb⟩
theorem qxe {l m:List Int} {k:Nat} (hk:k<max l.length m.length):(mulM l m).take (k+1)=(mulM l m).take k++[expAt l k+expAt m k]:=qbb (qh5 l m hk)
theorem OwnI.newZ {B:Nat} {w V:World} {a:Option Addr} {c:Nat} {l:List Int} (h:OwnI B w a c l) (hV:New B w V) (hs:∀ x∈l,InInt x):IntsR V a c l:=by
 have:=Own.readsIn (E:=IntE .i64) (β:=Int) id qe6 h hV (fun b o x hx hc=>⟨by simpa using hc 0 _ rfl,wf_of (hs x hx)⟩)
 rwa [List.map_id] at this
theorem qy5 {B:Nat} {w:World} {l:List Int} {ops:Array Oper} {rest:List Oper} {o:Oper} {act:Act} {Q:Exit->Act->World->Prop} (hgd:o.guard=none) (s y:Operand) (ts:TypeId)
  (ho:o.op=.call { callee:=.builtin .append,args:=#[s,y],argTypes:=#[ts,ts] }) (hu:Tryz.prog.underlying ts=some (.slice 3))
  (a:Option Addr) (c:Nat) (hs:act.eval s=.slice a l.length c) (hown:OwnI B w a c l)
  (x:Int) (b c1:Nat) (hy:act.eval y=.slice (some ⟨b,0,none⟩) 1 c1) (hcell:w.cell? ⟨b,0,none⟩=some (.int .i64 x))
  (l2:List Int) (hl2:l2=l++[x]) (hlen:l2.length<=16777216) (hB:B<=w.heap.size)
  (h:∀ a' c' w',OwnI B w' a' c' l2->w.grownBy w' (Value.ownBlock (.slice a l.length c))->((∃ g,a'=some ⟨g,0,none⟩/\(a=some ⟨g,0,none⟩\/g=w.heap.size))) ->
   wpList Tryz.prog ops Q rest (act.put o.dst (.slice a' l2.length c')) w'):wpList Tryz.prog ops Q (o :: rest) act w :=
 qay hgd s y ts ho hu infoI rfl oo oo qe6 a c hs hown x (qol x) b c1 hy (qne hcell) l2 hl2 hlen hB h
theorem zz32 {P:Prop} (h:P:=by
 clear hor hk;go_wp2_with fail;refine D1.out.mono ?_;rintro e w1 ⟨rfl,rfl⟩;go_wp2_with fail;refine D2.out.mono ?_;rintro e w1 ⟨rfl,rfl⟩;go_wp2_with (at_builtin;go_must (refine qy5 (B:=wo.heap.size) rfl (.tmp 19) (.tmp 27) 191 rfl Tryz.underlying191 ra rc rfl hol.out (x+y) wr.heap.size 1 rfl (by simp) (lo++[x+y]) rfl (by simp;omega) (by have:=hwr.size;simp;omega) ?_);intro ra2 rc2 w6 ho6 hg6 ha6);have hw6:Below wo.heap.size wo w6:=qal (hwr.alloc hwr.size _) hol.out hg6;go_wp2;go_roundg (gk-1)
 case rel=>exact ⟨k+1,lo++[x+y],ra2,rc2,by have:=hkg.out;show _=_;omega,by simp,by go_num,hw6,ho6,hnx.out.symm⟩
 case measure=>have:=hkg.out;omega
 ):P:=h
theorem qu9 (l m:List Int) (a b:Option Addr) (ca cb:Nat) (w:World) (h:IntsR w a ca l) (h':IntsR w b cb m) (B:Int) (hB:0<=B/\B<=1048576) (hl:Mok B l) (hm:Mok B m) :
  Calls Tryz.prog 165 #[.slice a l.length ca,.slice b m.length cb] w (RetMo (mulM l m) w):=by
 have z1:=h.len;have z2:=h'.len;have q1:=hl.2.2;have q2:=hm.2.2;have hok:=qmd hl hm hB.1 hB.1;have hin:=qrn hok oo;have I1:=fun v=>hl.exp hB.1 v
 have I2:=fun v=>hm.exp hB.1 v
 have C1:=fun (v:Nat) W (hW:bw w W)=>qh7 l v a ca W (h.ext (xbw hW))
 have C2:=fun (v:Nat) W (hW:bw w W)=>qh7 m v b cb W (h'.ext (xbw hW))
 have hml:=qej l m;replace I1:=Hd I1;replace I2:=Hd I2;replace C1:=Hd C1;replace C2:=Hd C2;replace hin:=Hd hin;replace hml:=Hd hml;have hBB:=Hd hB;clear h h' hl hm hok hB;go_enter Tryz.func165,Tryz.ntmps165;go_wp2;obtain ⟨wo,rfl⟩:∃ wo:World,wo=w:=⟨_,rfl⟩
 go_loopg [5,6] (max l.length m.length) (fun g o q wr=>∃ (k:Nat) (lo:List Int) (ra:Option Addr) (rc:Nat),Hid (k+g=max l.length m.length)/\o=.slice ra lo.length rc/\q=.int .i64 k/\Below wo.heap.size wo wr/\Hid (OwnI wo.heap.size wr ra rc lo)/\Hid (lo=(mulM l m).take k))
 case atStart=>exact ⟨0,[],none,0,by show _=_;omega,rfl,rfl,Below.refl _ _,Own.nil,by show _=_;simp⟩
 case round =>
  obtain ⟨k,lo,ra,rc,hkg,rfl,rfl,hwr,ho,hlo⟩:=hrel;by_cases hk:k<max l.length m.length
  ·
   obtain ⟨x,hx⟩:=nm (expAt l k)
   obtain ⟨y,hy⟩:=nm (expAt m k)
   have i1:=I1.out k;have i2:=I2.out k;rw [hx] at i1;rw [hy] at i2;have hbb:=hBB.out;obtain ⟨j1,j2⟩:=i1;obtain ⟨j3,j4⟩:=i2;obtain ⟨j5,j6⟩:=hbb;have D1:=C1.out k wr hwr;have D2:=C2.out k wr hwr;rw [hx] at D1;rw [hy] at D2;have hnx:=qxe (l:=l) (m:=m) hk;rw [hx,hy,<- hlo.out] at hnx;have hol:=ho.out.alloc (.cells #[.int .i64 (x+y)] 3);have hll:lo.length<=64:=by rw [hlo.out];have:=hml.out;simp;omega
   have hor:(k:Int)<l.length\/(k:Int)<m.length:=oo
   replace D1:=Hd D1;replace D2:=Hd D2;replace hx:=Hd hx;replace hy:=Hd hy;replace hnx:=Hd hnx;replace hol:=Hd hol;by_cases e1:k<l.length
   ·
    skip
    exact zz32
   ·
    have e2:k<m.length:=oo
    exact zz32
  ·
   obtain rfl:lo=mulM l m:=by rw [hlo.out];exact List.take_of_length_le (by have:=hml.out;omega)
   clear hlo;have hn1:¬ k<l.length:=oo
   have hn2:¬ k<m.length:=oo
   clear hk;go_wp2;go_ret;exact ⟨ra,rc,rfl,Kp.made fun V hV=>OwnI.newZ ho.out hV hin.out,hwr⟩
theorem quf (X:Nat->Prop) (p q:List Tm) (a b:Option Addr) (ca cb:Nat) (w:World) (hX:∀ b,X b->b<w.heap.size) (hp:PolX X w a ca p) (hq:PolX X w b cb q) (fp:FineP p) (fq:FineP q) :
  Calls Tryz.prog 116 #[.slice a p.length ca,.slice b q.length cb] w (RetP X (addP p q) w):=by
 have CM:=qaa1 X p q a b ca cb w hX hp hq fp fq;revert CM;generalize addP p q=R;intro CM;replace CM:=Hd CM;clear hX hp hq fp fq;go_enter Tryz.func116,Tryz.ntmps116;go_wp2_with fail;refine CM.out.mono ?_;rintro e w1 ⟨a1,c1,rfl,hP,hb⟩;go_wp2;go_ret;exact ⟨a1,c1,rfl,hP,hb⟩
theorem qe0 {B:Nat} {w:World} {l:List TQ} {o:Oper} {act:Act} {K:Act->World->Prop} {Q:Exit->Act->World->Prop} (s y:Operand) (ts:TypeId)
  (ho:o.op=.call { callee:=.builtin .append,args:=#[s,y],argTypes:=#[ts,ts] }) (hu:Tryz.prog.underlying ts=some (.slice 193))
  (a:Option Addr) (c:Nat) (hs:act.eval s=.slice a l.length c) (hown:OwnT B w a c l)
  (x:TQ) (b c1:Nat) (hy:act.eval y=.slice (some ⟨b,0,none⟩) 1 c1) (hcell:x.At w b 0)
  (l2:List TQ) (hl2:l2=l++[x]) (hlen:l2.length<=16777216) (hB:B<=w.heap.size)
  (h:∀ a' c' w',OwnT B w' a' c' l2->w.grownBy w' (Value.ownBlock (.slice a l.length c))->((∃ g,a'=some ⟨g,0,none⟩/\(a=some ⟨g,0,none⟩\/g=w.heap.size))) ->
   K (act.put o.dst (.slice a' l2.length c')) w'):o.wp Tryz.prog act w K Q :=
 qhb s y ts ho hu qeu rfl oo oo TQ.cs_len a c hs hown x (TQ.cs_one x) b c1 hy (by have:=hcell.cs;simpa using this) l2 hl2 hlen hB h
theorem At.new {w:World} {t:TQ}:t.At (w.alloc (.cells #[.bool t.x.neg,.slice t.x.a t.x.n t.x.c,.slice t.x.b t.x.m t.x.d,.slice t.a t.n t.c] 193)) w.heap.size 0:=⟨(Blk.new w 193 #[.bool t.x.neg,.slice t.x.a t.x.n t.x.c,.slice t.x.b t.x.m t.x.d,.slice t.a t.n t.c]).cell 0,(Blk.new w 193 #[.bool t.x.neg,.slice t.x.a t.x.n t.x.c,.slice t.x.b t.x.m t.x.d,.slice t.a t.n t.c]).cell 1,(Blk.new w 193 #[.bool t.x.neg,.slice t.x.a t.x.n t.x.c,.slice t.x.b t.x.m t.x.d,.slice t.a t.n t.c]).cell 2,(Blk.new w 193 #[.bool t.x.neg,.slice t.x.a t.x.n t.x.c,.slice t.x.b t.x.m t.x.d,.slice t.a t.n t.c]).cell 3⟩
theorem qkx {p:List Tm} {t u:Tm} {k:Nat} (h:p[k]? = some u):(qaq p t).take (k+1)=(qaq p t).take k++[(u.1*t.1,mulM u.2 t.2)]:=qbb (by unfold qaq;rw [List.getElem?_map,h];rfl)
theorem qks (p:List Tm) (t:Tm):(qaq p t).length=p.length:=by simp [qaq]
theorem qyv {w:World} {cur:Array Value} {n B g:Nat} (hg:g=w.heap.size) (hB:B<=w.heap.size) (hn:n<=1000000) (hcs:cur.size=n*4):OwnT B (w.alloc (.cells cur 193)) (some ⟨g,0,none⟩) n []:=by
 subst hg;exact World.ownsRow_made w cur n hB (by unfold maxLen;omega) hcs
theorem qq6 {X:Nat->Prop} {W:World} {x:QA} {q:Rat} {a:Option Addr} {c k:Nat} {m:List Int} {B T B' T':Nat} (h:Kp (fun V=>QK k V x q) B T W) (h':Kp (fun V=>IntsR V a c m) B' T' W) (hX:∀ b,X b->b<B/\b<B'):Rd X W (TQ.R ⟨x,m.length,a,c⟩ (q,m)) :=
 ((Rd.kp h fun b hb=>.inl (hX b hb).1).and (Rd.kp h' fun b hb=>.inl (hX b hb).2)).imp fun _ ⟨h1,h2⟩=>⟨h1.1,h2,rfl⟩
theorem qj9 (X:Nat->Prop) (p:List Tm) (q:Rat) (m:List Int) (t:TQ) (a:Option Addr) (ca:Nat) (w:World) (hX:∀ b,X b->b<w.heap.size) (hp:PolX X w a ca p) (fp:FineP p) (ht:Rd X w (t.R (q,m))) (ft:FineT (q,m)) :
  Calls Tryz.prog 161 #[.slice a p.length ca,.agg #[.bool t.x.neg,.slice t.x.a t.x.n t.x.c,.slice t.x.b t.x.m t.x.d,.slice t.a t.n t.c]] w (RetP X (qaq p (q,m)) w):=by
 have lp:=hp.len;have l1:=fp.1;obtain ⟨cur,hcs,hmk⟩:∃ cur:Array Value,cur.size=p.length*4/\∀ W:World,(Instr.makeSlice 75 (.int .i64 0) (.int .i64 (p.length:Int))).run Tryz.prog W=.ok (.slice (some ⟨W.heap.size,0,none⟩) 0 p.length) (W.alloc (.cells cur 193)):=by
  obtain ⟨i,hi,hz,hsz,hby⟩:=info_parts qeu;have:=fun W=>run_makeSlice (w:=W) 75 193 i _ Tryz.underlying75 hi hz .i64 .i64 0 p.length oo oo (by rw [hsz];simp;omega) (by rw [hby];omega) oo
  rw [hsz] at this;simp only [Int.toNat_zero,Int.toNat_natCast] at this;exact ⟨_,size_madeCells _ _,this⟩
 have hln:=qks p (q,m);have HP:=Hd hp;have FP:=Hd fp.2;have HX:=Hd hX;have HT:=Hd ht;have FT:=Hd ft;replace hln:=Hd hln;clear hp fp hX ht ft;go_enter Tryz.func161,Tryz.ntmps161;go_wp2;refine qaa (fun W=>Blk W w.heap.size 193 #[.bool t.x.neg,.slice t.x.a t.x.n t.x.c,.slice t.x.b t.x.m t.x.d,.slice t.a t.n t.c]/\OwnT (w.heap.size+1) W (some ⟨w.heap.size+1,0,none⟩) p.length []/\Below w.heap.size w W) ⟨bk,qyv (by simp) (by simp) oo hcs,zg⟩ ?_;rintro w0 ⟨hz,how,hw0⟩;obtain ⟨g1,hg1⟩:∃ g,g=w.heap.size+1:=⟨_,rfl⟩
 rw [<- hg1] at how ⊢;replace how:=Hd how;replace hg1:=Hd hg1;clear hmk
 go_loopg [5,7,8,14] p.length (fun n o _ _ qi wr=>∃ (k:Nat) (lo:List TQ) (ra:Option Addr) (rc:Nat),Hid (k+n=p.length)/\o=.slice ra lo.length rc/\qi=.int .i64 k/\Hid (OwnT g1 wr ra rc lo)/\Hid (AllT (Xr X ra) wr lo ((qaq p (q,m)).take k))/\Below w.heap.size w wr/\Blk wr w.heap.size 193 #[.bool t.x.neg,.slice t.x.a t.x.n t.x.c,.slice t.x.b t.x.m t.x.d,.slice t.a t.n t.c])
 case atStart=>exact ⟨0,[],_,_,by show _=_;omega,rfl,rfl,how.out,by show AllT _ _ _ _;rw [List.take_zero];exact AllT.nil,hw0,hz⟩
 case round =>
  clear how hw0 hz;obtain ⟨k,lo,ra,rc,hm,rfl,rfl,ho,hA,hwr,hz⟩:=hrel;have hro:Hid (∀ g,ra=some g->w.heap.size<=g.block):=Hd fun g hg=>by have:=(ho.out.lt hg).1;have:=hg1.out;omega
  by_cases hk:k<p.length
  ·
   obtain ⟨u,hu⟩:=qab hk;obtain ⟨b1,o1,s,rfl,hs,hsR⟩:=HP.out.get hu;have fu:=FP.out u (List.mem_of_getElem? hu);have hnx:=qkx (t:=(q,m)) hu;have hll:lo.length=k:=by rw [hA.out.1,List.length_take,hln.out];omega
   have hlx:=Xr_lt (w:=w) HX.out (Own.base ho.out (by have:=hg1.out;omega)) hwr.size;have CM:=fun W (hW:bw w W)=>mul_q s.x t.x u.1 q 1000 1000 W ((hsR.call hW).now.qk fu) ((HT.out.call hW).now.qk FT.out) oo oo
   have CN:=fun W (hW:bw w W)=>qwo u.2 m s.a t.a s.c t.c W (hsR.call hW).now.2.1 (HT.out.call hW).now.2.1 1048576 oo fu.1 FT.out.1
   have en:s.n=u.2.length:=hsR.now.2.2;have em:t.n=m.length:=HT.out.now.2.2;have hne:(sgnQ (u.1*q) != 0)=true:=by
    rw [qhs];have h1:=fu.2.1;have h2:=FT.out.2.1;have:¬ u.1*q=0:=by grind
    simp [this]
   obtain ⟨c0,c1,c2,c3⟩:=hs;have k0:=held c0 wr hwr;have k1:=held c1 wr hwr;have k2:=held c2 wr hwr;have k3:=held c3 wr hwr;obtain ⟨z0,z1,z2,z3⟩:=cq4 hz;have zl:=hz.lt;obtain ⟨R,hR⟩:=nm (sgnQ (u.1*q))
   have CS:=fun x W (hQ:QK 2000 W x (u.1*q))=>qk7 x (u.1*q) 2000 W hQ oo
   rw [hR] at hne CS;rw [<- en,<- em] at CN;replace CM:=Hd CM;replace CN:=Hd CN;replace CS:=Hd CS;replace hR:=Hd hR;replace hsR:=Hd hsR;replace fu:=Hd fu;replace hnx:=Hd hnx;replace hlx:=Hd hlx;replace en:=Hd en;replace em:=Hd em;replace hll:=Hd hll;clear hu c0 c1 c2 c3;go_wp2_with fail;refine qae (fun W=>Blk W wr.heap.size 193 #[.bool s.x.neg,.slice s.x.a s.x.n s.x.c,.slice s.x.b s.x.m s.x.d,.slice s.a s.n s.c]/\Blk W w.heap.size 193 #[.bool t.x.neg,.slice t.x.a t.x.n t.x.c,.slice t.x.b t.x.m t.x.d,.slice t.a t.n t.c]/\Below wr.heap.size wr W) ⟨bk,bk,zg⟩ ?_;rintro w1 ⟨hs1,ht1,hb1⟩
   refine (CM.out w1 (bth hwr hb1)).mono ?_;rintro e w2 ⟨x,rfl,HK,hb2⟩;replace hs1:=hs1.below' hb2;replace ht1:=ht1.below' hb2;have hb2':=bth hb1 hb2;have hl1:=hs1.lt;have hl2:=ht1.lt;have hw12:=hb2.size;have hw01:=hb1.size;clear k0 k1 k2 k3 z0 z1 z2 z3;replace HK:=Hd HK;go_wp2_with fail
   refine qae (fun W=>Blk W w2.heap.size 32 #[.bool x.neg,.slice x.a x.n x.c,.slice x.b x.m x.d]/\Blk W wr.heap.size 193 #[.bool s.x.neg,.slice s.x.a s.x.n s.x.c,.slice s.x.b s.x.m s.x.d,.slice s.a s.n s.c]/\Blk W w.heap.size 193 #[.bool t.x.neg,.slice t.x.a t.x.n t.x.c,.slice t.x.b t.x.m t.x.d,.slice t.a t.n t.c]/\Kp (fun V=>QK (1000+1000) V x (u.1*q)) w1.heap.size w2.heap.size W/\Below wr.heap.size wr W) ⟨bk,bk,bk,by (with_reducible repeat first | exact HK.out | (refine Kp.setc ?_ ?_;focus omega) | refine Kp.alloc ?_ | refine Kp.drew ?_),zg⟩ ?_
   rintro w3 ⟨hc3,hs3,ht3,HK3,hb3⟩;refine (CS.out x w3 HK3.now).mono ?_;rintro e w4 ⟨rfl,hb4⟩;obtain ⟨g3,hg3⟩:∃ g,g=w2.heap.size:=⟨_,rfl⟩
   rw [<- hg3] at hc3 ⊢;replace hg3:=Hd hg3;have hc4:=hc3.below' hb4;have hs4:=hs3.below' hb4;have ht4:=ht3.below' hb4;have y0:=held (hc4.cell 0);have y1:=held (hc4.cell 1);have y2:=held (hc4.cell 2);have x3:=held (hs4.cell 3);have v3:=held (ht4.cell 3);have hb4':=bth hb3 hb4;have HK4:=Hd (HK3.call hb4);have hdec:decide (R=0)=false:=by simpa using hne
   clear hc3 hs3 ht3 HK3 hb3 hb4 hc4 hs4 hs1 ht1 hl1 hl2;have s0:Below w4.heap.size w4 w4.drew:=brf.drew;go_wp2;refine wrx (S:=Below w4.heap.size w4) [(0,.q),(1,.q),(2,.q),(3,.q),(4,.q),(5,.q),(6,.l),(7,.q),(8,.l),(9,.t),(10,.p)] (s0) ?_
   iterate 6 (refine qaf rfl rfl fun K hK=>xq ?_;go_simp;refine hK _ _ ?_;clear hK K)
   refine vl fun K hK=>?_
   go_simp;refine (CN.out _ (bth hwr (bth hb4' s0))).mono ?_;rintro r w5 ⟨a5,c5,rfl,HM,hb5⟩;dsimp only;refine hK.out _ _ (bth s0 hb5) (fun _=>?_);clear hK K;have s5:=bth s0 hb5;obtain ⟨sn,hsn⟩:∃ sn:TQ,sn=⟨x,(mulM u.2 m).length,a5,c5⟩:=⟨_,rfl⟩
   have ex:x=sn.x:=by rw [hsn]
   have e5:(mulM u.2 m).length=sn.n:=by rw [hsn]
   have e6:a5=sn.a:=by rw [hsn]
   have e7:c5=sn.c:=by rw [hsn]
   have hb5':=bth hb4' s5;have hRS:Rd (Xr X ra) w5 (sn.R (u.1*q,mulM u.2 m)):=by rw [hsn];exact qq6 (HK4.out.call s5) HM fun b hb=>by have:=hlx.out b hb;have:=hb4'.size;exact ⟨oo,ltl (hlx.out b hb) (bth hb4' s0).size⟩
   rw [ex,e5,e6,e7];replace hRS:=Hd hRS;replace hsn:=Hd hsn;clear HM HK4 ex e5 e6 e7 y0 y1 y2 x3 v3
   refine qaf rfl rfl fun K hK=>xq ?_;go_simp;refine hK _ _ ?_;clear hK K
   refine vl fun K hK=>?_
   go_simp;refine hK.out _ _ (s5.alloc s5.size _) (fun _=>?_);clear hK K;have ho5:=(ho.out.below hb5').alloc (.cells #[.bool sn.x.neg,.slice sn.x.a sn.x.n sn.x.c,.slice sn.x.b sn.x.m sn.x.d,.slice sn.a sn.n sn.c] 193);have hw5:=bth hwr hb5';have hel:sn.At (w5.alloc (.cells #[.bool sn.x.neg,.slice sn.x.a sn.x.n sn.x.c,.slice sn.x.b sn.x.m sn.x.d,.slice sn.a sn.n sn.c] 193)) w5.heap.size 0:=At.new;replace ho5:=Hd ho5;replace hel:=Hd hel;refine vt fun K hK=>?_
   refine qe0 (B:=g1) (.tmp 26) (.tmp 34) 75 rfl Tryz.underlying75 ra rc rfl ho5.out sn w5.heap.size 1 rfl hel.out (lo++[sn]) rfl (by have:=hll.out;simp;omega) (by have:=hg1.out;have:=hw5.size;have:=ht4.lt;have:=s5.size;simp;omega) ?_;intro ra2 rc2 w6 ho6 hg6 ha6;go_simp;refine hK.out _ _ ?_;clear hK K
   refine qaj rfl rfl fun K hK=>xp ?_;go_simp;refine hK _ _ ?_;clear hK K
   refine qad ?_;have hA6:=qc8 hA.out hb5' (brf.alloc (nlr _) (.cells #[.bool sn.x.neg,.slice sn.x.a sn.x.n sn.x.c,.slice sn.x.b sn.x.m sn.x.d,.slice sn.a sn.n sn.c] 193)) (hRS.out.alloc _) hg6 ha6;rw [<- hnx.out] at hA6;have hw6:Below w.heap.size w w6:=qal (hw5.alloc hw5.size (.cells #[.bool sn.x.neg,.slice sn.x.a sn.x.n sn.x.c,.slice sn.x.b sn.x.m sn.x.d,.slice sn.a sn.n sn.c] 193)) (Own.base ho5.out (by have:=hg1.out;omega)) hg6;have hz6:Blk w6 w.heap.size 193 #[.bool t.x.neg,.slice t.x.a t.x.n t.x.c,.slice t.x.b t.x.m t.x.d,.slice t.a t.n t.c]:=((ht4.below' s5).alloc _).under ho5.out (by have:=hg1.out;omega) hg6;replace ho6:=Hd ho6;replace hA6:=Hd hA6;clear hg6 ha6 ho5 hel;go_wp2;go_roundg (gk-1)
   case rel=>exact ⟨k+1,lo++[sn],ra2,rc2,by have:=hm.out;show _=_;omega,by simp,by go_num,ho6.out,hA6.out,hw6,hz6⟩
   case measure=>have:=hm.out;omega
  ·
   have hkp:k=p.length:=by have:=hm.out;omega
   have hA2:=hA.out;rw [hkp,<- hln.out,List.take_length] at hA2;have hP:=OwnT.pol (Own.base (B':=w.heap.size) ho.out (by have:=hg1.out;omega)) hA2 HX.out;have hRl:=hA2.1;replace hP:=Hd hP;replace hRl:=Hd hRl;clear hA hA2 hkp hz;go_wp2;go_ret;exact ⟨ra,rc,by rw [<- hRl.out];rfl,hP.out,hwr⟩
abbrev Vr:=Int × Int × Int
abbrev Vec:=List Tm × List Tm
structure Frm where
 vars:List Vr
 coords:List Vec
 free:Nat
def varP (n:Nat):List Tm:=if n<64 then [(1,List.replicate n 0++[1])] else []
def argF (l:List Vec) (args:List Int) (k:Nat):Vec:=l.getD (args.getD k 0).toNat ([],[])
def qe2 (a b:Vec) (t:List Tm->List Tm):Vec:=(addP a.1 (t (subP b.1 a.1)),addP a.2 (t (subP b.2 a.2)))
def nextF (x:Frm) (kind:Int) (args:List Int) (r:Rat) (i:Nat):List Vr × Vec :=
 if kind=1 then
  if x.free=0 then (x.vars,([],[]))
  else if x.free=1 then (x.vars++[(1,(i:Int),0)],(varP x.vars.length,[]))
  else (x.vars++[(1,(i:Int),0),(1,(i:Int),1)],(varP x.vars.length,varP (x.vars.length+1)))
 else if kind=2 then (x.vars,qe2 (argF x.coords args 0) (argF x.coords args 1) fun p=>qau p r)
 else if kind=3 then (x.vars,(addP (argF x.coords args 0).1 (subP (argF x.coords args 2).1 (argF x.coords args 1).1),addP (argF x.coords args 0).2 (subP (argF x.coords args 2).2 (argF x.coords args 1).2)))
 else if kind=4 then (x.vars,(addP (argF x.coords args 0).1 (subP (argF x.coords args 1).2 (argF x.coords args 2).2),addP (argF x.coords args 0).2 (subP (argF x.coords args 2).1 (argF x.coords args 1).1)))
 else if kind=5 then (x.vars++[(1,(i:Int),0)],qe2 (argF x.coords args 0) (argF x.coords args 1) fun p=>mulP p (varP x.vars.length))
 else if kind=6 then (x.vars++[(1,(i:Int),0),(2,(i:Int),1),(2,(i:Int),2)],(varP (x.vars.length+1),varP (x.vars.length+2)))
 else (x.vars++[(2,(i:Int),0),(2,(i:Int),1)],(varP x.vars.length,varP (x.vars.length+1)))
def FrmOk (i:Nat) (D M:Nat) (x:Frm):Prop:=x.coords.length=i/\0<D/\D<=(2 ^ 32) ^ i/\M<=(3*2 ^ 32) ^ i/\D<=M/\x.vars.length<=64/\x.free<=i /\
 ∀ v∈x.coords,(Pok i v.1/\PolyO D M v.1/\v.1.length<=4000)/\(Pok i v.2/\PolyO D M v.2/\v.2.length<=4000)
theorem qel {n:Nat} {B:Int} (hB:1<=B):Pok B (varP n):=by
 unfold varP
 split
 ·
  next h =>
  refine ⟨fun t ht=>?_,by simp⟩;rw [List.mem_singleton] at ht;subst ht;refine ⟨⟨fun x hx=>?_,?_,by simp;omega⟩,by show (1:Rat)≠0;decide⟩
  ·
   rcases List.mem_append.1 hx with h | h
   ·
    have:=List.eq_of_mem_replicate h
    omega
   · rw [List.mem_singleton] at h;omega
  · simp
 · exact Pok.nil _
theorem qix (n:Nat) {D M:Nat} (hD:D<=M):PolyO D M (varP n):=by
 unfold varP
 split
 ·
  intro t ht;rw [List.mem_singleton] at ht;subst ht;exact ⟨D,by show (1:Rat)*D=_;rw [Rat.one_mul,Rat.intCast_natCast],by simpa using hD⟩
 · exact PolyO.nil _ _
theorem qh4 (n:Nat):(varP n).length<=1:=by unfold varP;split <;> simp
theorem qga {i:Nat} {D M:Nat} {x:Frm} (h:FrmOk i D M x) (args:List Int) (k:Nat) :
  (Pok i (argF x.coords args k).1/\PolyO D M (argF x.coords args k).1/\(argF x.coords args k).1.length<=4000)/\(Pok i (argF x.coords args k).2/\PolyO D M (argF x.coords args k).2/\(argF x.coords args k).2.length<=4000):=by
 unfold argF;rw [List.getD_eq_getElem?_getD]
 cases hx:x.coords[(args.getD k 0).toNat]? with
 | none=>exact ⟨⟨Pok.nil _,PolyO.nil _ _,by simp⟩,⟨Pok.nil _,PolyO.nil _ _,by simp⟩⟩
 | some v=>exact h.2.2.2.2.2.2.2 v (List.mem_of_getElem? hx)
def putF (x:Frm) (kind:Int) (y:List Vr × Vec):Frm:=⟨y.1,x.coords++[y.2],if kind=1 then x.free+1 else x.free⟩
def bigF (y:List Vr × Vec):Bool:=decide (64<y.1.length)||decide (4000<y.2.1.length)||decide (4000<y.2.2.length)
theorem Pok.step {i:Nat} {p:List Tm} (h:Pok (i:Int) p):Pok ((i+1:Nat):Int) p:=h.more oo
theorem qjy {i:Nat} {p:List Tm} (h:Pok (i:Int) p) (n:Nat):Pok ((i+1:Nat):Int) (mulP p (varP n)):=by
 have:=qjd (B:=i) (B':=1) h (qel (n:=n) (Int.le_refl _)).1 oo oo
 rwa [show ((i:Int)+1)=((i+1:Nat):Int) by omega] at this
theorem qil {D M n:Nat} {p:List Tm} (h:PolyO D M p):PolyO D M (mulP p (varP n)):=by
 unfold varP
 split
 · rw [qc3];exact h.times1 _
 · exact PolyO.nil _ _
theorem qzz {i D M:Nat} {x:Frm} (h:FrmOk i D M x) (kind:Int) (args:List Int) (r:Rat) (hr:kind=2->r.num.natAbs<=2 ^ 32/\r.den<=2 ^ 32) :
  ∃ D' M',0<D'/\D'<=(2 ^ 32) ^ (i+1)/\M'<=(3*2 ^ 32) ^ (i+1)/\D'<=M'/\(∀ p,PolyO D M p->PolyO D' M' p) /\
   (Pok ((i+1:Nat):Int) (nextF x kind args r i).2.1/\PolyO D' M' (nextF x kind args r i).2.1)/\(Pok ((i+1:Nat):Int) (nextF x kind args r i).2.2/\PolyO D' M' (nextF x kind args r i).2.2):=by
 obtain ⟨h0,h1,h2,h3,h4,h5,h6,h7⟩:=id h;have A:=fun k=>qga h args k
 have e1:(2 ^ 32:Nat) ^ (i+1)=(2 ^ 32) ^ i*2 ^ 32:=Nat.pow_succ _ _;have e2:(3*2 ^ 32:Nat) ^ (i+1)=(3*2 ^ 32) ^ i*(3*2 ^ 32):=Nat.pow_succ _ _;unfold nextF;by_cases k2:kind=2
 ·
  obtain ⟨r1,r2⟩:=hr k2;have d0:0<r.den:=Nat.pos_of_ne_zero r.den_nz;refine ⟨D*r.den,M*r.den+(M+M)*r.num.natAbs,Nat.mul_pos h1 d0,?_,?_,?_,fun p hp=>(hp.wide _).more oo,?_⟩
  · rw [e1];exact Nat.mul_le_mul h2 r2
  ·
   rw [e2];have g1:=Nat.mul_le_mul h3 r2;have g2:=Nat.mul_le_mul h3 r1;generalize (3*2 ^ 32) ^ i=P at *;rw [Nat.add_mul]
   omega
  ·
   have:=Nat.mul_le_mul h4 (nlr r.den)
   omega
  ·
   rw [if_neg oo,if_pos k2];unfold qe2;have C:=fun (a b:List Tm) (ha:Pok i a/\PolyO D M a/\a.length<=4000) (hb:Pok i b/\PolyO D M b/\b.length<=4000) =>
    (⟨qc9 ha.1.step (qfv (qd4 hb.1 ha.1)).step,(ha.2.1.wide r.den).add ((hb.2.1.sub ha.2.1).scale r)⟩:Pok ((i+1:Nat):Int) (addP a (qau (subP b a) r))/\PolyO (D*r.den) (M*r.den+(M+M)*r.num.natAbs) (addP a (qau (subP b a) r)))
   exact ⟨C _ _ (A 0).1 (A 1).1,C _ _ (A 0).2 (A 1).2⟩
 ·
  have three:∀ p,PolyO D M p->PolyO D (M+(M+M)) p:=fun p hp=>hp.more oo
  refine ⟨D,M+(M+M),h1,?_,?_,oo,three,?_⟩
  · rw [e1];exact Nat.le_trans h2 (Nat.le_mul_of_pos_right _ dd)
  ·
   rw [e2];generalize (3*2 ^ 32) ^ i=P at *
   omega
  ·
   have V:=fun n=>(⟨qel (n:=n) (B:=((i+1:Nat):Int)) oo,qix n (D:=D) (M:=M+(M+M)) oo⟩:Pok ((i+1:Nat):Int) (varP n)/\PolyO D (M+(M+M)) (varP n))
   have Z:Pok ((i+1:Nat):Int) []/\PolyO D (M+(M+M)) []:=⟨Pok.nil _,PolyO.nil _ _⟩
   have C:=fun (a b c:List Tm) (ha:Pok i a/\PolyO D M a/\a.length<=4000) (hb:Pok i b/\PolyO D M b/\b.length<=4000) (hc:Pok i c/\PolyO D M c/\c.length<=4000) =>
    (⟨qc9 ha.1.step (qd4 hb.1 hc.1).step,ha.2.1.add (hb.2.1.sub hc.2.1)⟩:Pok ((i+1:Nat):Int) (addP a (subP b c))/\PolyO D (M+(M+M)) (addP a (subP b c)))
   have L:=fun (a b:List Tm) (n:Nat) (ha:Pok i a/\PolyO D M a/\a.length<=4000) (hb:Pok i b/\PolyO D M b/\b.length<=4000) =>
    (⟨qc9 ha.1.step (qjy (qd4 hb.1 ha.1) n),ha.2.1.add (qil (hb.2.1.sub ha.2.1))⟩:Pok ((i+1:Nat):Int) (addP a (mulP (subP b a) (varP n)))/\PolyO D (M+(M+M)) (addP a (mulP (subP b a) (varP n))))
   split
   ·
    split
    · exact ⟨Z,Z⟩
    ·
     split
     · exact ⟨V _,Z⟩
     · exact ⟨V _,V _⟩
   ·
    split
    · exact ⟨C _ _ _ (A 0).1 (A 2).1 (A 1).1,C _ _ _ (A 0).2 (A 2).2 (A 1).2⟩
    ·
     split
     · exact ⟨C _ _ _ (A 0).1 (A 1).2 (A 2).2,C _ _ _ (A 0).2 (A 2).1 (A 1).1⟩
     ·
      split
      · exact ⟨L _ _ _ (A 0).1 (A 1).1,L _ _ _ (A 0).2 (A 1).2⟩
      ·
       split
       · exact ⟨V _,V _⟩
       · exact ⟨V _,V _⟩
theorem FrmOk.next {i D M:Nat} {x:Frm} (h:FrmOk i D M x) (kind:Int) (args:List Int) (r:Rat) (hr:kind=2->r.num.natAbs<=2 ^ 32/\r.den<=2 ^ 32) (hb:bigF (nextF x kind args r i)=false) :
  ∃ D' M',FrmOk (i+1) D' M' (putF x kind (nextF x kind args r i)):=by
 obtain ⟨D',M',g1,g2,g3,g4,g5,g6,g7⟩:=qzz h kind args r hr;unfold bigF at hb;simp only [Bool.or_eq_false_iff,decide_eq_false_iff_not,Nat.not_lt] at hb;refine ⟨D',M',by simp [putF,h.1],g1,g2,g3,g4,hb.1.1,by have:=h.2.2.2.2.2.2.1;unfold putF;dsimp only;split <;> omega,fun v hv=>?_⟩;rcases List.mem_append.1 hv with e | e
 ·
  obtain ⟨a1,a2⟩:=h.2.2.2.2.2.2.2 v e;exact ⟨⟨a1.1.step,g5 _ a1.2.1,a1.2.2⟩,⟨a2.1.step,g5 _ a2.2.1,a2.2.2⟩⟩
 ·
  rw [List.mem_singleton] at e;subst e;exact ⟨⟨g6.1,g6.2,hb.1.2⟩,⟨g7.1,g7.2,hb.2⟩⟩
def qbg (r:Rat):List Tm:=if r=0 then [] else [(r,[])]
theorem qis (r:Rat):Pok 0 (qbg r):=by
 unfold qbg
 split
 · exact Pok.nil _
 · next h=>exact ⟨fun t ht=>by rw [List.mem_singleton] at ht;subst ht;exact ⟨Mok.nil _,h⟩,by simp⟩
theorem qk6 {B:Int} {d:List Tm} (hd:Pok B d) (hB:0<=B) (r:Rat):mulP (qbg r) d=qau d r:=by
 rw [qer (qis r) hd (Int.le_refl _) hB];unfold qbg
 split
 · next h=>rw [qfk,h];unfold qau;rw [if_pos rfl]
 · next h=>rw [qc3,qgh h]
theorem qxz {B:Int} {p q:List Tm} (hp:Pok B p) (hq:Pok B q):negP (subP p q)=subP q p :=
 qlv (qjc (qd4 hp hq)) (qd4 hq hp) fun m=>by rw [qnh,qm1 hp hq,qm1 hq hp];grind
end Go.Proofs.YtmdlbpibipnapaaGreat
