/- Walks: the program's rational numbers: one. -/
import Derived.Test.YtmdlbpibipnapaaGreatRd5
import Derived.Deep.CutRange
import Derived.Test.YtmdlbpibipnapaaGreatProg
import Derived.Ground.NamesProg
import Derived.Shelf.Lays
import Derived.Shelf.Small.Bits
import Derived.Test.YtmdlbpibipnapaaGreatRd4
import Derived.Deep.LoopGhost
import Derived.Test.YtmdlbpibipnapaaGreatRd1
set_option linter.all false
set_option maxRecDepth 100000
set_option maxHeartbeats 4000000
namespace Go.Proofs.YtmdlbpibipnapaaGreat
open Go.RowKit
structure LongB (w wr : World) (g bj k n cu cv : Nat) (L v : List Int) (av : Option Addr) (O : List Int) : Prop where
 ju:Blk wr w.heap.size 28 #[.slice (some ⟨g,0,none⟩) L.length cu]
 jv:Blk wr (w.heap.size+1) 28 #[.slice av v.length cv]
 jn:Blk wr (w.heap.size+1+1) 3 #[.int .i64 ((n:Int)+2)]
 jo:BlkN wr (w.heap.size+1+1+1) O
 jj:Blk wr bj 3 #[.int .i64 ((k:Int)-1)]
 hj:w.heap.size+1+1+1<bj
 gr:w.grownBy wr (some g)
section
variable {w wr w' : World} {g bj k n cu cv : Nat} {L v : List Int} {av : Option Addr} {O : List Int}
theorem LongB.below (h:LongB w wr g bj k n cu cv L v av O) (hb:Below wr.heap.size wr w'):LongB w w' g bj k n cu cv L v av O :=
 ⟨h.ju.below' hb,h.jv.below' hb,h.jn.below' hb,BlkN.below h.jo hb,h.jj.below' hb,h.hj,qu4 h.gr hb⟩
theorem LongB.but (h:LongB w wr g bj k n cu cv L v av O) (hg:g<w.heap.size) (hb:wr.grownBy w' (some g)):LongB w w' g bj k n cu cv L v av O :=
 ⟨h.ju.grown hb (fun e=>by injection e;omega),h.jv.grown hb (fun e=>by injection e;omega),h.jn.grown hb (fun e=>by injection e;omega),Blk.grown h.jo hb (fun e=>by injection e;omega),h.jj.grown hb (fun e=>by injection e;have:=h.hj;omega),h.hj,h.gr.trans hb⟩
theorem LongB.far (h:LongB w wr g bj k n cu cv L v av O) {p:Addr} (hp:bj<p.block) (u:Value):LongB w (wr.setCell p u) g bj k n cu cv L v av O:=by
 have:=h.hj;exact ⟨h.ju.far oo u,h.jv.far oo u,h.jn.far oo u,Blk.far h.jo oo u,h.jj.far oo u,h.hj,qju h.gr oo u⟩
end
structure LongR (w wr : World) (g bj k n m cu cv : Nat) (L v : List Int) (r : List Value) (av : Option Addr) (O Lc : List Int) : Prop where
 bx:LongB w wr g bj k n cu cv L v av O
 row:RowN wr g Lc r
 ol:O.length=m
 ou:U16 O
 ll:Lc.length=L.length
 lu:U16 Lc
 lt:val (Lc.drop k)<val v
 eq:val L=val (O.drop k)*(65536 ^ k*val v)+val Lc
theorem LongR.next {w w7:World} {g bj j n m cu cv q:Nat} {L v Lx:List Int} {r:List Value} {av:Option Addr} {O:List Int} (hb:LongB w w7 g bj (j+1) n cu cv L v av O) (hgw:g<w.heap.size) (hrow:RowN w7 g Lx r)
  (hol:O.length=m) (hou:U16 O) (hll:Lx.length=L.length) (hlu:U16 Lx) (hq:q<=65535) (hlt:val (Lx.drop j)<val v) (heq:val L=val ((O.set j (q:Int)).drop j)*(65536 ^ j*val v)+val Lx) :
  LongR w ((w7.setCell ⟨w.heap.size+1+1+1,j,none⟩ (.int .u16 (q:Int))).alloc (.cells #[.int .i64 ((j:Int)-1)] 3)) g w7.heap.size j n m cu cv L v r av (O.set j (q:Int)) Lx:=by
 have hjl:=hb.jj.lt;have hj:=hb.hj;refine ⟨⟨(hb.ju.far (by simp;omega) _).alloc _,(hb.jv.far (by simp) _).alloc _,(hb.jn.far (by simp) _).alloc _,(hb.jo.set_ j _).alloc _,?_,oo,qeo (qju hb.gr (by simp;omega) _) _⟩,(hrow.far (by simp;omega) _).alloc _,by simpa using hol,hou.set_ oo,hll,hlu,hlt,heq⟩;have:=Blk.new (w7.setCell ⟨w.heap.size+1+1+1,j,none⟩ (.int .u16 (q:Int))) 3 #[.int .i64 ((j:Int)-1)];simpa [World.setCell] using this
theorem qrh (w:World) (o2:Obj) (t:TypeId) (cs:Array Value):Blk ((w.alloc (.cells cs t)).alloc o2) w.heap.size t cs:=(Blk.new w t cs).alloc o2
theorem qz2 (w:World) (o o2 o3 o4:Obj) (t:TypeId) (cs:Array Value):Blk (((((w.alloc o).alloc o2).alloc o3).alloc o4).alloc (.cells cs t)) (w.heap.size+1+1+1+1) t cs:=by have:=Blk.new ((((w.alloc o).alloc o2).alloc o3).alloc o4) t cs;simpa using this
theorem qx0 (w:World) (o o2 o3:Obj) (n:Nat):BlkN ((((w.alloc o).alloc o2).alloc o3).alloc (.cells (madeCells #[.int .u16 0] n) 105)) (w.heap.size+1+1+1) (List.replicate n 0):=by have:=BlkN.new (((w.alloc o).alloc o2).alloc o3) n;simpa using this
theorem zz11 {P:Prop} (h:P:=by
 have hb1:b=1:=by simpa using HBB.out
 have hdq:=G3.out.1 (HI5.out.1 hb1);have HB1:=Hd hb1;clear hb1;have hd0:0<d:=by rw [hdq];exact Nat.succ_pos _
 have hd2:(d:Int)-1=((d-1:Nat):Int):=oo
 have HDQ:=Hd hdq;clear hdq;have hd3:((d-1:Nat):Int)<=65535:=oo
 have fd:=hbd5.frozen 0;have cd:=hbd5.cell 0
 go_upto_region 14 with fail
 have hbx6:=hbx5.far (p:=⟨bd,0,none⟩) hbjd (.int .u64 ((d-1:Nat):Int));have hbd6:Blk (w5.setCell ⟨bd,0,none⟩ (.int .u64 ((d-1:Nat):Int))) bd 104 #[.int .u64 ((d-1:Nat):Int)]:=by have:=hbd5.set_ 0 (.int .u64 ((d-1:Nat):Int));simpa using this
 have hrow6:=hrow5.far (p:=⟨bd,0,none⟩) (by have:=HIz.out.bx.hj;simp;omega) (.int .u64 ((d-1:Nat):Int));clear hbx5 hbd5 hrow5 fd cd hg5;revert hbx6 hbd6 hrow6;generalize w5.setCell ⟨bd,0,none⟩ (.int .u64 ((d-1:Nat):Int))=w6;intro hbx6 hbd6 hrow6;have k1:=hbx6.ju.cell 0;have k2:=hbx6.jv.cell 0;have k3:=hbx6.jn.cell 0;have k4:=hbx6.jj.cell 0;rw [e1] at k4;have CR:=qqb (midL Lc o j) v r g j (n+2) (cu-j) (some ⟨bv,ov,none⟩) cv w6.drew hrow6 (qj0 HIz.out.lu hou5) (by have:=HOL5.out;have:=HLEN5.out;rw [qgi oo];omega) (HV.out.other (qdw hbx6.gr) HVG.out) HVL.out HVG.out oo oo;replace CR:=Hd CR;have q1:IntKind.i64.wrap ((j:Int)+((n:Int)+2))=(j:Int)+((n:Int)+2):=by rw [IntKind.wrap_i64];omega
 have q2:IntKind.i64.wrap ((j:Int)+((n:Int)+2)+1)=(j:Int)+((n:Int)+2)+1:=by rw [IntKind.wrap_i64];omega
 have q3:0<=(j:Int)+((n:Int)+2)+1/\(j:Int)+((n:Int)+2)+1<=(cu:Int):=oo
 have q4:((j:Int)+((n:Int)+2)+1).toNat=j+(n+2+1):=oo
 have q5:j<=j+(n+2+1):=oo
 have q6:¬ cu=j:=oo
 have q7:j+(n+2+1)-j=n+2+1:=oo
 have HBX6:=Hd hbx6;have HBD6:=Hd hbd6;clear hbx6 hbd6 hrow6;refine wrx (S:=(fun x=>x=w6.drew)) [(0,.q),(1,.q),(2,.q),(3,.q),(4,.q),(5,.q),(6,.q),(7,.q),(8,.t)] (rfl) ?_
 iterate 8 (refine qaf rfl rfl fun K hK=>xq ?_;go_simp;refine hK _ _ ?_;clear hK K)
 refine vt fun K hK=>?_
 go_simp;refine (CR.out).mono ?_;rintro e w7 ⟨o2,c7,rfl,hrow7,hou7,hol7,hv7,hg7⟩;dsimp only;refine hK.out _ _ ?_;clear hK K;refine qad ?_;have hol5:=HOL5.out;have hlen5:=HLEN5.out;have hOl:=HOL.out;have hsg:=qyf (L:=Lc) (o:=o) (j:=j) oo;rw [hol5] at hsg;rw [hsg] at hv7;rw [qyc oo oo] at hrow7;have hbx6d:LongB w w6.drew g bj (j+1) n cu cv L v (some ⟨bv,ov,none⟩) O:=⟨HBX6.out.ju,HBX6.out.jv,HBX6.out.jn,HBX6.out.jo,HBX6.out.jj,HBX6.out.hj,qdw HBX6.out.gr⟩
 have hbx7:=hbx6d.but hgw hg7;have hbd7:Blk w7 bd 104 #[.int .u64 ((d-1:Nat):Int)]:=Blk.grown (w:=w6.drew) HBD6.out hg7 (fun e=>by injection e with e;have:=HIz.out.bx.hj;omega);have hV1:val v<65536 ^ (n+2+1):=by
  have h1:=qcs huv;rw [HVL.out] at h1;exact ltl h1 (Nat.pow_le_pow_right oo oo)
 have hv52:=HV5.out;rw [HB1.out,Nat.mul_one] at hv52;have ho1:=qcs hou5;rw [hol5] at ho1;have ho2:=qcs hou7;rw [hol7] at ho2;have hval:=qy1 hv52 hv7 ho1 ho2 HDQ.out (by have:=HIz.out.lt;omega) hV1;have hLS:=qnl (q:=d-1) huv HVL.out (show j+(n+2)<Lc.length by omega) hol7 hOl HIz.out.lt HIz.out.eq (by rw [HDQ.out,Nat.add_sub_cancel]) hval;clear k1 k2 k3 k4 q1 q2 q3 q4 q5 q6 q7 hsg hv7 hbx6d hV1 hv52 ho1 ho2 hval HV5 HDQ CR;have HLS:=Hd hLS;have HLO:=Hd hol7;clear hLS hol5 hlen5 hOl hol7 c7;have c1:=hbx7.jj.cell 0;rw [e1] at c1;have c2:=hbd7.cell 0;obtain ⟨zo,hzo⟩:=qab (xs:=O) (k:=j) (by rw [HIz.out.ol];exact hjm);have c3:=hbx7.jo.cell hzo;have c4:=hbx7.jo.frozen j;have c5:w.heap.size+1+1+1<bj:=hbx7.hj;have c6:w.heap.size+1+1+1<w7.heap.size:=hbx7.jo.lt;have c7:=hbx7.jj.lt;have c8:=hbd7.lt;have w16:IntKind.u16.wrap ((d-1:Nat):Int)=((d-1:Nat):Int):=by rw [qcn,Nat.mod_eq_of_lt oo]
 have c12:wrap64 ((j:Int)-1)=(j:Int)-1:=by unfold wrap64;omega
 have HBX7:=Hd hbx7;have HROW7:=Hd hrow7;have HGWR:=Hd hgw;clear hzo hbx7 hbd7 hrow7 hgw hle hcu hmi hlv hjl hjL hvn hdl hrl2;obtain ⟨bo,hbo⟩:=nm (w.heap.size+1+1+1)
 rw [hbo] at c3 c4 c5 c6 ⊢;have HBO:=Hd hbo;have c9:¬ bj=bo:=oo
 have c10:¬ bd=bo:=oo
 have c11:¬ w7.heap.size=bo:=oo
 clear hbo;go_wp2;have hbo:=HBO.out;subst hbo;go_roundg j
 case rel =>
  have h2:o2.length=n+2+1:=HLO.out;have h3:(midL Lc o2 j).length=L.length:=by have:=HLEN5.out;have:=HM.out;rw [qgi oo];exact HLEN5.out
  have h4:=qj0 (j:=j) HIz.out.lu hou7;have h5:(d-1:Nat)<=65535:=oo
  have h1:=LongR.next HBX7.out HGWR.out HROW7.out HIz.out.ol HIz.out.ou h3 h4 h5 HLS.out.1 HLS.out.2;exact ⟨w7.heap.size,O.set j ((d-1:Nat):Int),midL Lc o2 j,oo,rfl,h1⟩
 case measure=>omega
 ):P:=h
theorem zz12 {P:Prop} (h:P:=by
 have hb1:¬ b=1:=by simpa using HBB.out
 have hol5:=HOL5.out;have hlen5:=HLEN5.out;have hOl:=HOL.out;have hok:=qys HV5.out (by have:=HB5.out;omega) (fun h=>hb1 (HI5.out.2 h)) G2.out G3.out;have hLS:=qnl (q:=d) huv HVL.out (show j+(n+2)<Lc.length by omega) hol5 hOl HIz.out.lt HIz.out.eq hok.1 hok.2;have hbx7:=hbx5;have hbd7:=hbd5;have hrow7:=hrow5;have hou7:=hou5;obtain ⟨w7,rfl⟩:∃ w7:World,w7=w5:=⟨_,rfl⟩
 clear hok hbx5 hbd5 hrow5 hb1;have HLS:=Hd hLS;have HLO:=Hd hol5;clear hLS hol5 hlen5 hOl;have c1:=hbx7.jj.cell 0;rw [e1] at c1;have c2:=hbd7.cell 0;obtain ⟨zo,hzo⟩:=qab (xs:=O) (k:=j) (by rw [HIz.out.ol];exact hjm);have c3:=hbx7.jo.cell hzo;have c4:=hbx7.jo.frozen j;have c5:w.heap.size+1+1+1<bj:=hbx7.hj;have c6:w.heap.size+1+1+1<w7.heap.size:=hbx7.jo.lt;have c7:=hbx7.jj.lt;have c8:=hbd7.lt;have w16:IntKind.u16.wrap ((d:Nat):Int)=((d:Nat):Int):=by rw [qcn,Nat.mod_eq_of_lt oo]
 have c12:wrap64 ((j:Int)-1)=(j:Int)-1:=by unfold wrap64;omega
 have HBX7:=Hd hbx7;have HROW7:=Hd hrow7;have HGWR:=Hd hgw;clear hzo hbx7 hbd7 hrow7 hgw hle hcu hmi hlv hjl hjL hvn hdl hrl2;obtain ⟨bo,hbo⟩:=nm (w.heap.size+1+1+1)
 rw [hbo] at c3 c4 c5 c6 ⊢;have HBO:=Hd hbo;have c9:¬ bj=bo:=oo
 have c10:¬ bd=bo:=oo
 have c11:¬ w7.heap.size=bo:=oo
 clear hbo;go_wp2;have hbo:=HBO.out;subst hbo;go_roundg j
 case rel =>
  have h2:o.length=n+2+1:=HLO.out;have h3:(midL Lc o j).length=L.length:=by have:=HLEN5.out;have:=HM.out;rw [qgi oo];exact HLEN5.out
  have h4:=qj0 (j:=j) HIz.out.lu hou7;have h5:(d:Nat)<=65535:=oo
  have h1:=LongR.next HBX7.out HGWR.out HROW7.out HIz.out.ol HIz.out.ou h3 h4 h5 HLS.out.1 HLS.out.2;exact ⟨w7.heap.size,O.set j ((d:Nat):Int),midL Lc o j,oo,rfl,h1⟩
 case measure=>omega
 ):P:=h
theorem qxy (L v:List Int) (r:List Value) (g n cu cv:Nat) (av:Option Addr) (w:World) (hR:RowN w g L r) (hU:U16 L) (hLl:L.length<=16777216) (hv:NatR w av cv v) (hvl:v.length=n+2) (hvg:∀ p,av=some p->p.block≠g)
  (hle:n+2<L.length) (htop:32768<=qag v (n+1)) (hlt0:val (L.drop (L.length-(n+2)))<val v) (hcu:L.length<=cu) (hcu2:cu<=maxLen) :
  Calls Tryz.prog 85 #[.slice (some ⟨g,0,none⟩) L.length cu,.slice av v.length cv] w fun e w'=>∃ (L':List Int) (a1:Option Addr) (c1:Nat),e=.returned (.slice a1 (limbs (val L / val v)).length c1) /\
   (∀ V,New w.heap.size w' V->NatR V a1 c1 (limbs (val L / val v)))/\RowN w' g L' r/\U16 L'/\L'.length=L.length/\val L'=val L % val v/\w.grownBy w' (some g):=by
 obtain ⟨m,hm⟩:∃ m:Nat,L.length=n+2+m:=⟨L.length-(n+2),oo⟩
 have hlv:(v.length:Int)=(n:Int)+2:=oo
 have hmi:(L.length:Int)-((n:Int)+2)=(m:Int):=oo
 have hmk:=fun w=>qco .i64 m oo w
 have hlt1:val (L.drop m)<val v:=by rw [show L.length-(n+2)=m by omega] at hlt0;exact hlt0
 have hgw:g<w.heap.size:=hR.lt;have HR0:=Hd hR;have HV:=Hd hv;have huv:=hv.u16;have HVL:=Hd hvl;have HVG:=Hd hvg;have HM:=Hd hm;have HTOP:=Hd htop;have HLT:=Hd hlt1;have HGW:=Hd hgw;clear hR hv hvl hvg hm htop hlt1 hlt0;go_enter Tryz.func85,Tryz.ntmps85;go_wp2;have hst:LongR w (((((w.alloc (.cells #[.slice (some ⟨g,0,none⟩) L.length cu] 28)).alloc (.cells #[.slice av v.length cv] 28)).alloc (.cells #[.int .i64 ((n:Int)+2)] 3)).alloc (.cells (madeCells #[.int .u16 0] m) 105)).alloc (.cells #[.int .i64 ((m:Int)-1)] 3))
   g (w.heap.size+1+1+1+1) m n m cu cv L v r av (List.replicate m 0) L:=by
  exact ⟨⟨(((((Blk.new w _ _).alloc _).alloc _).alloc _).alloc _),(((qa5 w _ _ _).alloc _).alloc _).alloc _,((qb6 w _ _ _ _).alloc _).alloc _,(qx0 w _ _ _ _).alloc _,qz2 w _ _ _ _ _ _,oo,qeo (qeo (qeo (qeo (qeo (qke _ _) _) _) _) _) _⟩,((((HR0.out.alloc _).alloc _).alloc _).alloc _).alloc _,by simp,qbw _,rfl,hU,HLT.out,by rw [qaw (by simp)];simp⟩
 revert hst;generalize (((((w.alloc (.cells #[.slice (some ⟨g,0,none⟩) L.length cu] 28)).alloc (.cells #[.slice av v.length cv] 28)).alloc (.cells #[.int .i64 ((n:Int)+2)] 3)).alloc (.cells (madeCells #[.int .u16 0] m) 105)).alloc (.cells #[.int .i64 ((m:Int)-1)] 3))=w0;generalize w.heap.size+1+1+1+1=bj0;intro hst;clear hmk
 go_loopg [7,8,9,10,11] m (fun k s7 _ _ _ _ wr=>∃ (bj:Nat) (O Lc:List Int),k<=m/\s7=.pointer (some ⟨bj,0,none⟩)/\LongR w wr g bj k n m cu cv L v r av O Lc)
 case atStart=>exact ⟨bj0,_,_,nlr _,rfl,hst⟩
 case round =>
  clear hst;obtain ⟨bj,O,Lc,hk,rfl,hI⟩:=hrel;have HI:=Hd hI;have hju:=hI.bx.ju.cell 0;have hjv:=hI.bx.jv.cell 0;have hjn:=hI.bx.jn.cell 0;have hjj:=hI.bx.jj.cell 0;clear hI;by_cases h0:gk=0
  ·
   subst h0;obtain ⟨hd1,hd2⟩:=qvk HI.out.lt HI.out.eq;have hOl:=HI.out.ol;have hcap:O.length<=maxLen:=by unfold maxLen;omega
   have hrd:∀ V,New w.heap.size wr V->NatR V (some ⟨w.heap.size+1+1+1,0,none⟩) O.length O:=fun V hV=>HI.out.bx.jo.readsV oo hV HI.out.ou (nlr _) hcap
   have CT:=qa4 O _ _ wr (hrd wr (New.refl _ _));have hrd2:∀ V,New w.heap.size wr V->NatR V (some ⟨w.heap.size+1+1+1,0,none⟩) O.length (limbs (val O)):=fun V hV=>(hrd V hV).trim
   rw [hd1,hOl] at hrd2;rw [hd1,hOl] at CT;replace CT:=Hd CT;have HRD:=Hd hrd2;have HD2:=Hd hd2;clear hd1 hd2 hrd hrd2 hOl hcap;go_wp2_with fail;refine CT.out.mono ?_;rintro e w1 ⟨rfl,rfl⟩;go_wp2;go_ret;exact ⟨Lc,_,_,rfl,HRD.out,HI.out.row,HI.out.lu,HI.out.ll,HD2.out,HI.out.bx.gr⟩
  ·
   obtain ⟨j,rfl⟩:∃ j,gk=j+1:=⟨gk-1,oo⟩
   have e1:(((j+1:Nat):Int)-1)=(j:Int):=oo
   rw [e1] at hjj;have hjl:j+(n+2)<Lc.length:=by rw [HI.out.ll,HM.out];omega
   obtain ⟨x2,hx2⟩:=qab (xs:=Lc) (k:=j+(n+2)) hjl;obtain ⟨x1,hx1⟩:=qab (xs:=Lc) (k:=j+(n+1)) oo;obtain ⟨x0,hx0⟩:=qab (xs:=Lc) (k:=j+n) oo;obtain ⟨y1,hy1⟩:=qab (xs:=v) (k:=n+1) (by rw [HVL.out];omega);obtain ⟨y2,hy2⟩:=qab (xs:=v) (k:=n) (by rw [HVL.out];omega);have hq2:=HI.out.lu.get hx2;have hq1:=HI.out.lu.get hx1;have hq0:=HI.out.lu.get hx0;have hq3:=huv.get hy1;have hq4:=huv.get hy2;obtain ⟨u2,rfl⟩:∃ y:Nat,x2=(y:Int):=⟨x2.toNat,oo⟩
   obtain ⟨u1,rfl⟩:∃ y:Nat,x1=(y:Int):=⟨x1.toNat,oo⟩
   obtain ⟨u0,rfl⟩:∃ y:Nat,x0=(y:Int):=⟨x0.toNat,oo⟩
   obtain ⟨v1,rfl⟩:∃ y:Nat,y1=(y:Int):=⟨y1.toNat,oo⟩
   obtain ⟨v2,rfl⟩:∃ y:Nat,y2=(y:Int):=⟨y2.toNat,oo⟩
   have hT:Top Lc v n j u2 u1 u0 v1 v2:=⟨qax hx2,qax hx1,qax hx0,qax hy1,qax hy2⟩
   have hv1:32768<=v1:=by have:=HTOP.out;rw [qax hy1] at this;omega
   have hc2:=HI.out.row.cell hx2;have hc1:=HI.out.row.cell hx1;have hc0:=HI.out.row.cell hx0;have hvw:=HV.out.other HI.out.bx.gr HVG.out;obtain ⟨bv,ov,e,hcv1⟩:=hvw.cell hy1;subst e;obtain ⟨bv2,ov2,e,hcv2⟩:=hvw.cell hy2;injection e with e
   injection e with e3 e4
   subst e3;subst e4;obtain ⟨W,hW⟩:=nm (65536*u2+u1)
   have hor:bits .or .u64 ((u2:Int)*65536) (u1:Int)=(W:Int):=by
    have h1:=qg3 (r:=u2) (x:=u1) oo;have h2:=u64_or_nat (u2*65536) u1 oo oo;rw [h1,show u2*65536+u1=W by omega] at h2;simpa using h2
   have HT:=Hd hT;clear hT hx2 hx1 hx0 hy1 hy2 hvw;have hjL:j+(n+2)<L.length:=by have:=HI.out.ll;omega
   have f1:IntKind.i64.wrap ((j:Int)+((n:Int)+2))=(j:Int)+((n:Int)+2):=by rw [IntKind.wrap_i64];omega
   have f2:IntKind.i64.wrap ((j:Int)+((n:Int)+2)-1)=(j:Int)+((n:Int)+1):=by rw [IntKind.wrap_i64];omega
   have f3:IntKind.u64.wrap ((u2:Int)*65536)=(u2:Int)*65536:=by simp [IntKind.wrap,IntKind.bits,IntKind.signed];omega
   have f4:IntKind.u64.wrap (u2:Int)=(u2:Int):=by simp [IntKind.wrap,IntKind.bits,IntKind.signed];omega
   have f5:IntKind.u64.wrap (u1:Int)=(u1:Int):=by simp [IntKind.wrap,IntKind.bits,IntKind.signed];omega
   have f6:(0:Int)<=(j:Int)+((n:Int)+2)/\(j:Int)+((n:Int)+2)<(L.length:Int):=oo
   have f7:(0:Int)<=(j:Int)+((n:Int)+1)/\(j:Int)+((n:Int)+1)<(L.length:Int):=oo
   have f8:((j:Int)+((n:Int)+2)).toNat=j+(n+2):=oo
   have f9:((j:Int)+((n:Int)+1)).toNat=j+(n+1):=oo
   have f10:IntKind.i64.wrap ((j:Int)+((n:Int)+1))=(j:Int)+((n:Int)+1):=by rw [IntKind.wrap_i64];omega
   go_upto_region 6 with fail
   refine wrx (S:=(fun x=>x=wr.drew)) [(0,.q),(1,.q),(2,.q),(3,.q),(4,.q),(5,.q),(6,.q),(7,.q),(8,.q),(9,.q),(10,.q),(11,.q),(12,.q),(13,.q),(14,.q),(15,.q),(16,.p),(17,.p)] (rfl) ?_
   iterate 16 (refine qaf rfl rfl fun K hK=>xq ?_;go_simp;refine hK _ _ ?_;clear hK K)
   iterate 2 (refine qaj rfl rfl fun K hK=>xp ?_;go_simp;refine hK _ _ ?_;clear hK K)
   refine qad ?_
   go_upto_region 7 with fail
   have hIz:LongR w wr.drew g bj (j+1) n m cu cv L v r _ O Lc:=⟨⟨HI.out.bx.ju,HI.out.bx.jv,HI.out.bx.jn,HI.out.bx.jo,HI.out.bx.jj,HI.out.bx.hj,qdw HI.out.bx.gr⟩,HI.out.row,HI.out.ol,HI.out.ou,HI.out.ll,HI.out.lu,HI.out.lt,HI.out.eq⟩
   have hcz1:wr.drew.cell? ⟨bv,ov+(n+1),none⟩=some (.int .u16 v1):=hcv1;have hcz2:wr.drew.cell? ⟨bv,ov+n,none⟩=some (.int .u16 v2):=hcv2;have hcz0:wr.drew.cell? ⟨g,0+(j+n),none⟩=some (.int .u16 u0):=by simpa using hc0
   clear hju hjv hjn hjj hc2 hc1 hc0 hcv1 hcv2 HI hor f1 f2 f3 f4 f5 f6 f7 f8 f9 f10;revert hIz hcz1 hcz2 hcz0;generalize wr.drew=wz;intro hIz hcz1 hcz2 hcz0;have k1:=held (hIz.bx.ju.cell 0);have k2:=held (hIz.bx.jv.cell 0);have k3:=held (hIz.bx.jn.cell 0);have k5:=held hcz1;have s0:Below wz.heap.size wz wz.drew:=brf.drew;have hvn:n+1<v.length:=oo
   have f1:IntKind.i64.wrap ((n:Int)+2-1)=(n:Int)+1:=by rw [IntKind.wrap_i64];omega
   have f2:IntKind.i64.wrap ((n:Int)+1)=(n:Int)+1:=by rw [IntKind.wrap_i64];omega
   have f3:IntKind.u64.wrap (v1:Int)=(v1:Int):=by simp [IntKind.wrap,IntKind.bits,IntKind.signed];omega
   have f4:(0:Int)<=(n:Int)+1/\(n:Int)+1<(v.length:Int):=oo
   have f5:((n:Int)+1).toNat=n+1:=oo
   have f6:(W:Int).tdiv (v1:Int)=((W / v1:Nat):Int):=rfl;have f7:(W:Int).tmod (v1:Int)=((W % v1:Nat):Int):=rfl;have f8:((v1:Int)==0)=false:=by rw [beq_eq_false_iff_ne];omega
   have f9:¬ v1=0:=oo
   have hG:=qqg HT.out hIz.lu huv HVL.out (by rw [hIz.ll];omega) hIz.lt hv1;rw [hW] at hG;have HG:=Hd hG;have HIz:=Hd hIz;clear hW hG hIz;have hWl:W / v1<=65537:=HG.out.top;have hrl:W % v1<v1:=Nat.mod_lt _ oo;revert HG f6 f7 hWl hrl;generalize W / v1=d0;generalize W % v1=r0;intro f6 f7 HG hWl hrl;have f10:IntKind.u64.wrap (d0:Int)=(d0:Int):=by simp [IntKind.wrap,IntKind.bits,IntKind.signed];omega
   have f11:IntKind.u64.wrap (r0:Int)=(r0:Int):=by simp [IntKind.wrap,IntKind.bits,IntKind.signed];omega
   go_cut [9,10] from 24 to 105 (fun s9 s10 wc=>∃ bd br:Nat,s9=.pointer (some ⟨bd,0,none⟩)/\s10=.pointer (some ⟨br,0,none⟩)/\Blk wc bd 104 #[.int .u64 (d0:Int)]/\Blk wc br 104 #[.int .u64 (r0:Int)]/\bd≠br/\wz.heap.size<=bd/\wz.heap.size<=br/\Below wz.heap.size wz wc)
   case first =>
    refine qdb (S:=Below wz.heap.size wz) (.q 0 (.q 1 (.q 2 (.q 3 (.q 4 (.q 5 (.q 6 (.q 7 (.q 8 (.q 9 (.q 10 (.q 11 (.q 12 (.q 13 (.q 14 (.q 15 (.two 16 (.l 17 (.l 18 (.t 19 .nil))) 17 (.l 16 (.l 18 (.t 19 .nil)))))))))))))))))))) [19] (by kernel_rfl) (by kernel_rfl) (by kernel_rfl) (fun d _ _ _ _ h=>by cases d <;> exact h) s0 ?_
    iterate 16 (refine qgq rfl rfl fun K hK=>xq ?_;go_simp;refine hK _ _ ?_;clear hK K)
    refine qdh ?_ ?_
    ·
     skip
     refine qa7 rfl rfl (fun K hK=>?_);go_simp;refine hK.out _ _ (s0.alloc s0.size _) (fun _=>?_);clear hK K;refine qa7 rfl rfl (fun K hK=>?_);go_simp;refine hK.out _ _ (by go_grown) (fun _=>?_);clear hK K;refine qa7 rfl rfl (fun K hK=>?_);go_simp;refine hK.out _ _ (by go_grown) (fun _=>?_);clear hK K;refine qhy rfl rfl (fun K hK=>?_);go_simp;refine hK.out _ _ ?_;clear hK K;refine qdu ?_;have hbd:=qrh wz (.cells #[.int .u64 (r0:Int)] 104) 104 #[.int .u64 (d0:Int)];have hbr:=qa5 wz (.cells #[.int .u64 (d0:Int)] 104) 104 #[.int .u64 (r0:Int)];have hbb:Below wz.heap.size wz ((wz.alloc (.cells #[.int .u64 (d0:Int)] 104)).alloc (.cells #[.int .u64 (r0:Int)] 104)).drew:=by go_grown
     go_wp2
     go_meet
     case rel=>exact ⟨_,_,rfl,rfl,hbd,hbr,oo,oo,oo,hbb⟩
    ·
     refine qa7 rfl rfl (fun K hK=>?_);go_simp;refine hK.out _ _ (s0.alloc s0.size _) (fun _=>?_);clear hK K;refine qa7 rfl rfl (fun K hK=>?_);go_simp;refine hK.out _ _ (by go_grown) (fun _=>?_);clear hK K;refine qa7 rfl rfl (fun K hK=>?_);go_simp;refine hK.out _ _ (by go_grown) (fun _=>?_);clear hK K;refine qhy rfl rfl (fun K hK=>?_);go_simp;refine hK.out _ _ ?_;clear hK K;refine qdu ?_;have hbr:=qrh wz (.cells #[.int .u64 (d0:Int)] 104) 104 #[.int .u64 (r0:Int)];have hbd:=qa5 wz (.cells #[.int .u64 (r0:Int)] 104) 104 #[.int .u64 (d0:Int)];have hbb:Below wz.heap.size wz ((wz.alloc (.cells #[.int .u64 (r0:Int)] 104)).alloc (.cells #[.int .u64 (d0:Int)] 104)).drew:=by go_grown
     go_wp2
     go_meet
     case rel=>exact ⟨_,_,rfl,rfl,hbd,hbr,oo,oo,oo,hbb⟩
   case rest =>
    obtain ⟨bd,br,rfl,rfl,hbd,hbr,hne,hdl,hrl2,hbc⟩:=hcut;clear k1 k2 k3 k5 s0 f1 f2 f3 f4 f5 f6 f7 f8 f9 f10 f11;go_wp2
    go_loopg [] d0 (fun gd wi=>∃ rr:Nat,gd<=65537/\rr<131072/\Guess u2 u1 u0 v1 v2 gd rr/\Blk wi bd 104 #[.int .u64 (gd:Int)]/\Blk wi br 104 #[.int .u64 (rr:Int)]/\Below wz.heap.size wz wi)
    case atStart=>exact ⟨r0,hWl,oo,HG.out,hbd,hbr,hbc⟩
    case round =>
     clear hbd hbr hbc HG hWl hrl;obtain ⟨d,rfl⟩:∃ d,d=gk:=⟨_,rfl⟩
     obtain ⟨wi,rfl⟩:∃ wi:World,wi=wr:=⟨_,rfl⟩
     obtain ⟨rr,hgd,hrr,hG,hbd,hbr,hwi⟩:=hrel;have HG:=Hd hG;have cd:=hbd.cell 0;have cr:=hbr.cell 0;have HRR:=Hd hrr;have HGD:=Hd hgd;clear hG hrr hgd;by_cases hr16:rr<65536
     ·
      have CT:=qn8 v n j d rr v2 u0 cu cv bd (w.heap.size+1) (w.heap.size+1+1) br w.heap.size bj g L.length (some ⟨bv,ov,none⟩) wi cd ((HIz.out.bx.jv.below' hwi).cell 0) ((HIz.out.bx.jn.below' hwi).cell 0) cr ((HIz.out.bx.ju.below' hwi).cell 0) (by have:=(HIz.out.bx.jj.below' hwi).cell 0;rw [e1] at this;exact this)
       ⟨bv,ov,rfl,held hcz2 _ hwi⟩ (by have:=held hcz0 _ hwi;simpa using this) HVL.out hjL hLl HGD.out hr16 oo oo
      obtain ⟨b,hb⟩:=nm (qfc d rr v2 u0)
      rw [hb] at CT;have HB:=Hd hb;replace CT:=Hd CT;have hd1:decide ((rr:Int)<65536)=true:=by simp;omega
      have HR16:=Hd hr16;clear hb hr16;go_wp2_with fail;refine CT.out.mono ?_;rintro e w5 ⟨rfl,rfl⟩
      cases b
      ·
       have hstop:65536<=rr\/(d<=65535/\d*v2<=rr*65536+u0):=by
        have h1:=HB.out;unfold qfc at h1;rw [Bool.or_eq_false_iff,decide_eq_false_iff_not,decide_eq_false_iff_not] at h1
        omega
       clear HB
       go_upto_region 12 with fail
       have hbxe:LongB w (wi.drew) g bj (j+1) n cu cv L v (some ⟨bv,ov,none⟩) O:=HIz.out.bx.below hwi.drew;have hrowe:RowN (wi.drew) g Lc r:=HIz.out.row.below hwi.drew;have hbde:Blk (wi.drew) bd 104 #[.int .u64 (d:Int)]:=hbd;have hbe:Below wz.heap.size wz (wi.drew):=hwi.drew;obtain ⟨g1,g2,g3⟩:=qnd HT.out HIz.out.lu huv HVL.out (show j+(n+2)<Lc.length by rw [HIz.out.ll];exact hjL) HIz.out.lt hv1 HG.out hstop;clear cd cr hbd hbr hwi;revert hbxe hrowe hbde hbe;generalize (wi.drew)=we;intro hbxe hrowe hbde hbe;have k1:=hbxe.ju.cell 0;have k2:=hbxe.jv.cell 0;have k3:=hbxe.jn.cell 0;have k4:=hbxe.jj.cell 0;rw [e1] at k4;have k5:=hbde.cell 0;have HBX:=Hd hbxe;have HBD:=Hd hbde;have CS:=qit Lc v r g j (n+2) d (cu-j) (some ⟨bv,ov,none⟩) cv we.drew hrowe HIz.out.lu (by rw [HIz.out.ll];omega) (HV.out.other (qdw hbxe.gr) HVG.out) HVL.out HVG.out g1 oo oo;replace CS:=Hd CS
       have G2:=Hd g2;have G3:=Hd g3;have hd1:(d:Int)<=65535:=oo
       have G1:=Hd g1;clear g1 g2 g3 hbxe hrowe hbde hstop;refine wrx (S:=(fun x=>x=we.drew)) [(0,.q),(1,.q),(2,.q),(3,.q),(4,.q),(5,.q),(6,.q),(7,.q),(8,.q),(9,.q),(10,.t)] (rfl) ?_
       iterate 6 (refine qaf rfl rfl fun K hK=>xq ?_;go_simp;refine hK _ _ ?_;clear hK K)
       have q1:IntKind.i64.wrap ((j:Int)+((n:Int)+2))=(j:Int)+((n:Int)+2):=by rw [IntKind.wrap_i64];omega
       have q2:IntKind.i64.wrap ((j:Int)+((n:Int)+2)+1)=(j:Int)+((n:Int)+2)+1:=by rw [IntKind.wrap_i64];omega
       have q3:0<=(j:Int)+((n:Int)+2)+1/\(j:Int)+((n:Int)+2)+1<=(cu:Int):=oo
       have q4:((j:Int)+((n:Int)+2)+1).toNat=j+(n+2+1):=oo
       have q5:j<=j+(n+2+1):=oo
       have q6:¬ cu=j:=oo
       have q7:j+(n+2+1)-j=n+2+1:=oo
       have q8:IntKind.u32.wrap (d:Int)=(d:Int):=by rw [qq4,Nat.mod_eq_of_lt oo]
       iterate 4 (refine qaf rfl rfl fun K hK=>xq ?_;go_simp;refine hK _ _ ?_;clear hK K)
       refine vt fun K hK=>?_
       go_simp;refine (CS.out).mono ?_;rintro e w5 ⟨o,b,rfl,hrow5,hou5,hol5,hb5,hv5,hi5,hg5⟩;dsimp only;refine hK.out _ _ ?_;clear hK K;refine qad ?_;have hbxd:LongB w we.drew g bj (j+1) n cu cv L v (some ⟨bv,ov,none⟩) O:=⟨HBX.out.ju,HBX.out.jv,HBX.out.jn,HBX.out.jo,HBX.out.jj,HBX.out.hj,qdw HBX.out.gr⟩
       have hbx5:=hbxd.but hgw hg5;have hbd5:Blk w5 bd 104 #[.int .u64 (d:Int)]:=Blk.grown (w:=we.drew) HBD.out hg5 (fun e=>by injection e with e;have:=HIz.out.bx.jj.lt;have:=HIz.out.bx.hj;omega);have hjm:j<m:=oo
       have hbjd:bj<bd:=by have:=HIz.out.bx.jj.lt;omega
       have hlen5:Lc.length=L.length:=HIz.out.ll;have hOl:O.length=Lc.length-(n+2):=by rw [hlen5,HIz.out.ol,HM.out];omega
       clear k1 k2 k3 k4 k5 hbxd hbe q1 q2 q3 q4 q5 q6 q7 q8 CS;have HV5:=Hd hv5;have HI5:=Hd hi5;have HOL5:=Hd hol5;have HOL:=Hd hOl;have HB5:=Hd hb5;have HLEN5:=Hd hlen5;clear hv5 hi5 hol5 hOl hlen5 hb5;generalize hbb:decide (b=1)=bb;have HBB:=Hd hbb;clear hbb
       cases bb
       case true =>
        exact zz11
       case false =>
        exact zz12
      ·
       have hd0:0<d:=by
        apply Nat.pos_of_ne_zero;intro e;have h1:=HB.out;unfold qfc at h1;rw [e] at h1;simp at h1
       have hless:=HG.out.less (by
        have h1:=HB.out;unfold qfc at h1;rw [Bool.or_eq_true,decide_eq_true_eq,decide_eq_true_eq] at h1;rcases h1 with h1 | h1
        · exact .inl h1
        · exact .inr oo) hd0
       have HL:=Hd hless;have hdi:(d:Int)-1=((d-1:Nat):Int):=oo
       have hdb:((d-1:Nat):Int)<=65536:=by have:=HGD.out;omega
       have fd:=hbd.frozen 0;have fr:=hbr.frozen 0;have hbx:=HIz.out.bx.below hwi;have HBX:=Hd hbx;clear hless hbx
       go_upto_region 11 with fail
       have hbjz:=HIz.out.bx.jj.lt;have hbx:=HBX.out.far (p:=⟨bd,0,none⟩) (by simp;omega) (.int .u64 ((d-1:Nat):Int));have hbd2:Blk (wi.setCell ⟨bd,0,none⟩ (.int .u64 ((d-1:Nat):Int))) bd 104 #[.int .u64 ((d-1:Nat):Int)]:=by have:=hbd.set_ 0 (.int .u64 ((d-1:Nat):Int));simpa using this
       have hbr2:=hbr.far (p:=⟨bd,0,none⟩) (by simp;omega) (.int .u64 ((d-1:Nat):Int));have hwi2:=hwi.setCell (p:=⟨bd,0,none⟩) hdl (.int .u64 ((d-1:Nat):Int));have hbxs:LongB w (wi.setCell ⟨bd,0,none⟩ (.int .u64 ((d-1:Nat):Int))).drew g bj (j+1) n cu cv L v (some ⟨bv,ov,none⟩) O:=⟨hbx.ju,hbx.jv,hbx.jn,hbx.jo,hbx.jj,hbx.hj,qdw hbx.gr⟩
       have hbds:Blk (wi.setCell ⟨bd,0,none⟩ (.int .u64 ((d-1:Nat):Int))).drew bd 104 #[.int .u64 ((d-1:Nat):Int)]:=hbd2;have hbrs:Blk (wi.setCell ⟨bd,0,none⟩ (.int .u64 ((d-1:Nat):Int))).drew br 104 #[.int .u64 (rr:Int)]:=hbr2;have hwis:=hwi2.drew;clear hbx hbd2 hbr2 hwi2 cd cr fd fr HBX hwi hbd hbr;revert hbxs hbds hbrs hwis;generalize (wi.setCell ⟨bd,0,none⟩ (.int .u64 ((d-1:Nat):Int))).drew=ws;intro hbxs hbds hbrs hwis;have k1:=hbrs.cell 0;have k2:=hbxs.jv.cell 0;have k3:=hbxs.jn.cell 0;have k4:=held hcz1 _ hwis;have k5:=hbrs.frozen 0;have f1:IntKind.i64.wrap ((n:Int)+2-1)=(n:Int)+1:=by rw [IntKind.wrap_i64];omega
       have f2:IntKind.i64.wrap ((n:Int)+1)=(n:Int)+1:=by rw [IntKind.wrap_i64];omega
       have f3:IntKind.u64.wrap (v1:Int)=(v1:Int):=by simp [IntKind.wrap,IntKind.bits,IntKind.signed];omega
       have f4:(0:Int)<=(n:Int)+1/\(n:Int)+1<(v.length:Int):=oo
       have f5:((n:Int)+1).toNat=n+1:=oo
       have hrr2:=HR16.out;have f6:IntKind.u64.wrap ((rr:Int)+(v1:Int))=((rr+v1:Nat):Int):=by simp [IntKind.wrap,IntKind.bits,IntKind.signed];omega
       have hrv:rr+v1<131072:=by have:=HR16.out;omega
       have HRV:=Hd hrv;have hdd:=HGD.out;revert HL HRV f6;generalize rr+v1=r2;intro HL f6 HRV;clear hrv hrr2;refine wrx (S:=(fun x=>x=ws.drew)) [(0,.q),(1,.q),(2,.q),(3,.q),(4,.q),(5,.q),(6,.q),(7,.p),(8,.t)] (rfl) ?_
       iterate 7 (refine qaf rfl rfl fun K hK=>xq ?_;go_simp;refine hK _ _ ?_;clear hK K)
       refine qaj rfl rfl fun K hK=>xp ?_;go_simp;refine hK _ _ ?_;clear hK K
       refine vt fun K hK=>?_
       go_simp;refine hK.out _ _ ?_;clear hK K;refine qad ?_;go_wp2;go_roundg (d-1)
       case rel=>exact ⟨r2,oo,HRV.out,HL.out,hbds.far (by simp;omega) _,(show Blk (ws.setCell ⟨br,0,none⟩ (.int .u64 (r2:Int))) br 104 #[.int .u64 (r2:Int)] by have:=hbrs.set_ 0 (.int .u64 (r2:Int));simpa using this),(hwis.setCell hrl2 _).drew⟩
       case measure=>omega
     ·
      have hd1:decide ((rr:Int)<65536)=false:=by simp;omega
      have HR16:=Hd hr16;have hstop:65536<=rr\/(d<=65535/\d*v2<=rr*65536+u0):=.inl oo;clear hr16
      go_upto_region 12 with fail
      have hbxe:LongB w wi g bj (j+1) n cu cv L v (some ⟨bv,ov,none⟩) O:=HIz.out.bx.below hwi;have hrowe:RowN wi g Lc r:=HIz.out.row.below hwi;have hbde:Blk wi bd 104 #[.int .u64 (d:Int)]:=hbd;have hbe:Below wz.heap.size wz wi:=hwi;obtain ⟨g1,g2,g3⟩:=qnd HT.out HIz.out.lu huv HVL.out (show j+(n+2)<Lc.length by rw [HIz.out.ll];exact hjL) HIz.out.lt hv1 HG.out hstop;clear cd cr hbd hbr hwi;revert hbxe hrowe hbde hbe;generalize wi=we;intro hbxe hrowe hbde hbe;have k1:=hbxe.ju.cell 0;have k2:=hbxe.jv.cell 0;have k3:=hbxe.jn.cell 0;have k4:=hbxe.jj.cell 0;rw [e1] at k4;have k5:=hbde.cell 0;have HBX:=Hd hbxe;have HBD:=Hd hbde;have CS:=qit Lc v r g j (n+2) d (cu-j) (some ⟨bv,ov,none⟩) cv we.drew hrowe HIz.out.lu (by rw [HIz.out.ll];omega) (HV.out.other (qdw hbxe.gr) HVG.out) HVL.out HVG.out g1 oo oo;replace CS:=Hd CS;have G2:=Hd g2;have G3:=Hd g3
      have hd1:(d:Int)<=65535:=oo
      have G1:=Hd g1;clear g1 g2 g3 hbxe hrowe hbde hstop;refine wrx (S:=(fun x=>x=we.drew)) [(0,.q),(1,.q),(2,.q),(3,.q),(4,.q),(5,.q),(6,.q),(7,.q),(8,.q),(9,.q),(10,.t)] (rfl) ?_
      iterate 6 (refine qaf rfl rfl fun K hK=>xq ?_;go_simp;refine hK _ _ ?_;clear hK K)
      have q1:IntKind.i64.wrap ((j:Int)+((n:Int)+2))=(j:Int)+((n:Int)+2):=by rw [IntKind.wrap_i64];omega
      have q2:IntKind.i64.wrap ((j:Int)+((n:Int)+2)+1)=(j:Int)+((n:Int)+2)+1:=by rw [IntKind.wrap_i64];omega
      have q3:0<=(j:Int)+((n:Int)+2)+1/\(j:Int)+((n:Int)+2)+1<=(cu:Int):=oo
      have q4:((j:Int)+((n:Int)+2)+1).toNat=j+(n+2+1):=oo
      have q5:j<=j+(n+2+1):=oo
      have q6:¬ cu=j:=oo
      have q7:j+(n+2+1)-j=n+2+1:=oo
      have q8:IntKind.u32.wrap (d:Int)=(d:Int):=by rw [qq4,Nat.mod_eq_of_lt oo]
      iterate 4 (refine qaf rfl rfl fun K hK=>xq ?_;go_simp;refine hK _ _ ?_;clear hK K)
      refine vt fun K hK=>?_
      go_simp;refine (CS.out).mono ?_;rintro e w5 ⟨o,b,rfl,hrow5,hou5,hol5,hb5,hv5,hi5,hg5⟩;dsimp only;refine hK.out _ _ ?_;clear hK K;refine qad ?_;have hbxd:LongB w we.drew g bj (j+1) n cu cv L v (some ⟨bv,ov,none⟩) O:=⟨HBX.out.ju,HBX.out.jv,HBX.out.jn,HBX.out.jo,HBX.out.jj,HBX.out.hj,qdw HBX.out.gr⟩
      have hbx5:=hbxd.but hgw hg5;have hbd5:Blk w5 bd 104 #[.int .u64 (d:Int)]:=Blk.grown (w:=we.drew) HBD.out hg5 (fun e=>by injection e with e;have:=HIz.out.bx.jj.lt;have:=HIz.out.bx.hj;omega);have hjm:j<m:=oo
      have hbjd:bj<bd:=by have:=HIz.out.bx.jj.lt;omega
      have hlen5:Lc.length=L.length:=HIz.out.ll;have hOl:O.length=Lc.length-(n+2):=by rw [hlen5,HIz.out.ol,HM.out];omega
      clear k1 k2 k3 k4 k5 hbxd hbe q1 q2 q3 q4 q5 q6 q7 q8 CS;have HV5:=Hd hv5;have HI5:=Hd hi5;have HOL5:=Hd hol5;have HOL:=Hd hOl;have HB5:=Hd hb5;have HLEN5:=Hd hlen5;clear hv5 hi5 hol5 hOl hlen5 hb5;generalize hbb:decide (b=1)=bb;have HBB:=Hd hbb;clear hbb
      cases bb
      case true =>
       exact zz11
      case false =>
       exact zz12
def RetQR (n1 n2 : Nat) (w : World) (e : Ending) (w' : World) : Prop := ∃ a1 c1 a2 c2, e = .returned (.tuple #[.slice a1 (limbs (n1 / n2)).length c1, .slice a2 (limbs (n1 % n2)).length c2, .int .i64 0]) ∧
   (∀ V,New w.heap.size w' V->NatR V a1 c1 (limbs (n1 / n2)))/\(∀ V,New w.heap.size w' V->NatR V a2 c2 (limbs (n1 % n2)))/\Below w.heap.size w w'
theorem qqh (l m:List Int) (n1 n2:Nat) (a a':Option Addr) (c c':Nat) (w:World) (h:NatR w a c l) (h':NatR w a' c' m) (hn:val l=n1) (hk:val m=n2) (hl:l.length<=10000000) (hlt:n1<n2) :
  Calls Tryz.prog 54 #[.slice a l.length c,.slice a' m.length c'] w (RetQR n1 n2 w):=by
 have hlen:=qah h.u16;rw [hn] at hlen;have C1:=qa4 l a c w h;have C2:=qa4 m a' c' w h';have hT1:=h.trim;have hT2:=h'.trim;rw [hn] at C1 hT1;rw [hk] at C2 hT2;have hp:=qat.2 (show 0<n2 by omega);have hq:n1 / n2=0:=Nat.div_eq_of_lt hlt;have hr:n1 % n2=n1:=Nat.mod_eq_of_lt hlt;have CC:=qhi (limbs n1) (limbs n2) n1 n2 a a' c c' w hT1 hT2 (qac _) (qac _);have CN:=fun W (hW:bw w W)=>qdr (limbs n1) a c W (hT1.ext (xbw hW)) oo
 rw [qac] at CN;have hcv:decide (cmpN n1 n2<0)=true:=by simpa using qmb.2 hlt
 unfold RetQR;rw [hq,hr,qao];revert CC hcv;generalize cmpN n1 n2=cv;intro CC hcv;replace C1:=Hd C1;replace C2:=Hd C2;replace CC:=Hd CC;replace CN:=Hd CN;have hne:(((limbs n2).length:Int)==0)=false:=by rw [beq_eq_false_iff_ne];omega
 clear h h' hn hk hT1 hT2 hp hq hr hlt hlen;go_enter Tryz.func54,Tryz.ntmps54;go_wp2_with fail;refine C1.out.mono ?_;rintro e w1 ⟨rfl,rfl⟩;go_wp2_with fail;refine C2.out.mono ?_;rintro e w1 ⟨rfl,rfl⟩;go_wp2_with fail;refine CC.out.mono ?_;rintro e w1 ⟨rfl,hb1⟩;go_wp2_with fail;refine (CN.out _ hb1).mono ?_;rintro e w2 ⟨a2,c2,rfl,hV,hb2⟩;have HV:=Hd hV;have hb3:=bth hb1 hb2;clear hV;go_wp2;go_ret3;exact ⟨none,0,a2,c2,rfl,fun _ _=>SlR.nil,fun V hV=>HV.out V (hV.base hb1.size),hb3⟩
theorem qth (l m:List Int) (n1 n2:Nat) (a a':Option Addr) (c c':Nat) (w:World) (h:NatR w a c l) (h':NatR w a' c' m) (hn:val l=n1) (hk:val m=n2) (hl:l.length<=10000000) (hge:n2<=n1) (h0:0<n2) (h1:n2<=65535) :
  Calls Tryz.prog 54 #[.slice a l.length c,.slice a' m.length c'] w (RetQR n1 n2 w):=by
 have hlen:=qah h.u16;rw [hn] at hlen;have C1:=qa4 l a c w h;have C2:=qa4 m a' c' w h';have hT1:=h.trim;have hT2:=h'.trim;rw [hn] at C1 hT1;rw [hk] at C2 hT2;have e2:limbs n2=[(n2:Int)]:=by
  rw [qb8 oo,Nat.div_eq_of_lt oo,qao,Nat.mod_eq_of_lt oo]
 have CC:=qhi (limbs n1) (limbs n2) n1 n2 a a' c c' w hT1 hT2 (qac _) (qac _);rw [e2] at C2 CC hT2;have CB:=fun W (hW:bw w W)=>qts (limbs n1) n1 n2 a c W (hT1.ext (xbw hW)) (qac _) oo h0 h1
 have hr2:n1 % n2<18446744073709551616:=by have:=Nat.mod_lt n1 h0;omega
 have CO:=fun W=>qk4 (n1 % n2) W hr2
 have hcv:decide (cmpN n1 n2<0)=false:=by
  have:=qmb (a:=n1) (b:=n2);simp;have h3:¬ cmpN n1 n2<0:=fun e=>by have:=this.1 e;omega
  omega
 obtain ⟨b2,off2,rfl,hc2⟩:=hT2.cell (k:=0) rfl;have hc3:w.cell? ⟨b2,off2,none⟩=some (.int .u16 n2):=by simpa using hc2
 revert CC hcv;generalize cmpN n1 n2=cv;intro hcv CC;unfold RetQR;have hrm:n1 % n2<=65535:=by have:=Nat.mod_lt n1 h0;omega
 revert CB CO hrm;generalize n1 % n2=rm;generalize n1 / n2=qu;intro CB CO hrm;have hrm2:(rm:Int)<=65535:=oo
 replace C1:=Hd C1;replace C2:=Hd C2;replace CC:=Hd CC;replace CB:=Hd CB;replace CO:=Hd CO;have k3:=held hc3;clear h h' hn hk hT1 hT2 hlen e2 hr2 hc2 h1 hge hrm hc3;go_enter Tryz.func54,Tryz.ntmps54;go_wp2_with fail;refine C1.out.mono ?_;rintro e w1 ⟨rfl,rfl⟩;go_wp2_with fail;refine C2.out.mono ?_;rintro e w1 ⟨rfl,rfl⟩;go_wp2_with fail;refine CC.out.mono ?_;rintro e w1 ⟨rfl,hb1⟩;have k4:=k3 _ hb1;go_wp2_with fail;refine (CB.out _ hb1).mono ?_;rintro e w2 ⟨a2,c2,rfl,hV2,hb2⟩;have HV2:=Hd hV2;have hb3:=bth hb1 hb2;clear hV2 k4;go_wp2_with fail;refine (CO.out _).mono ?_;rintro e w3 ⟨a3,c3,rfl,hV3,hb4⟩;have HV3:=Hd hV3;have hb5:=bth hb3 hb4;clear hV3;go_wp2;go_ret3;exact ⟨a2,c2,a3,c3,rfl,fun V hV=>HV2.out V ((hV.below hb4).base hb1.size),fun V hV=>HV3.out V (hV.base hb3.size),hb5⟩
end Go.Proofs.YtmdlbpibipnapaaGreat
namespace Go.Proofs
open Go.Shelf
def Tryz.lays132_ren : Go.Shelf.Ren := ⟨fun | 132 => 83 | 127 => 78 | n => n, fun | 49 => 105 | 3 => 3 | 4 => 4 | 46 => 58 | 5 => 5 | 9 => 9 | n => n, fun | n => n⟩
theorem Tryz.lays132 : Go.Proofs.Lays.n132 Tryz.prog Tryz.lays132_ren := {
  mixed := by kernel_rfl
  f127 := Tryz.func78.trans (congrArg some (by kernel_rfl))
  f132 := Tryz.func83.trans (congrArg some (by kernel_rfl))
  t3 := Tryz.underlying3
  a3 := Tryz.isAgg3
  z3 := Tryz.sizeOf3
  v3 := Tryz.zeroValue3
  t4 := Tryz.underlying4
  a4 := Tryz.isAgg4
  z4 := Tryz.sizeOf4
  v4 := Tryz.zeroValue4
  t5 := Tryz.underlying5
  a5 := Tryz.isAgg5
  z5 := Tryz.sizeOf5
  v5 := Tryz.zeroValue5
  t9 := Tryz.underlying9
  a9 := Tryz.isAgg9
  z9 := Tryz.sizeOf9
  v9 := Tryz.zeroValue9
  t46 := Tryz.underlying58
  a46 := Tryz.isAgg58
  z46 := Tryz.sizeOf58
  v46 := Tryz.zeroValue58
  t49 := Tryz.underlying105
  a49 := Tryz.isAgg105
  z49 := Tryz.sizeOf105
  v49 := Tryz.zeroValue105 }
end Go.Proofs
namespace Go.Proofs.YtmdlbpibipnapaaGreat
theorem qtf (x:Nat) (w:World) (h1:x<=65535) :
  Calls Tryz.prog 83 #[.int .u16 x] w fun e w'=>e=.returned (.int .i64 (16-(Lib.bitLen x:Int)))/\w'=w:=by
 have:=Any.bits_LeadingZeros16 Tryz.lays132 (x:Int) w oo oo;rw [Int.toNat_natCast] at this;exact this
end Go.Proofs.YtmdlbpibipnapaaGreat
namespace Go.Proofs.YtmdlbpibipnapaaGreat
theorem qy2 {n2 n x s:Nat} (hl:(limbs n2).length=n+2) (hx:qag (limbs n2) (n+1)=x) (h1:32768<=x*2 ^ s) (h2:(x+1)*2 ^ s<=65536) :
  (limbs (n2*2 ^ s)).length=n+2/\32768<=qag (limbs (n2*2 ^ s)) (n+1)/\65536 ^ (n+1)*32768<=n2*2 ^ s:=by
 obtain ⟨lo,hlo,e⟩:=qbv (qa9 n2) (n+1);rw [qac,qbe,hx,qaw oo,Int.toNat_natCast] at e;simp only [Nat.mul_zero,Nat.add_zero] at e;have hlow:65536 ^ (n+1)*32768<=n2*2 ^ s:=by
  have h3:=Nat.mul_le_mul_left (65536 ^ (n+1)) h1;have h4:65536 ^ (n+1)*(x*2 ^ s)<=n2*2 ^ s:=by
   rw [<- Nat.mul_assoc];exact Nat.mul_le_mul_right _ oo
  omega
 have hup:n2*2 ^ s<65536 ^ (n+2):=by
  have h3:n2<65536 ^ (n+1)*(x+1):=by rw [Nat.mul_add,Nat.mul_one];omega
  have h4:=Nat.mul_lt_mul_of_pos_right h3 (Nat.two_pow_pos s);rw [Nat.mul_assoc] at h4;have h5:=Nat.mul_le_mul_left (65536 ^ (n+1)) h2;rw [Nat.pow_succ 65536 (n+1)]
  omega
 have hlen:(limbs (n2*2 ^ s)).length=n+2:=by
  have h3:=qam hup;apply Nat.le_antisymm h3;apply Nat.le_of_not_lt;intro hc;have h4:=qa3 (n2*2 ^ s);have h5:65536 ^ (limbs (n2*2 ^ s)).length<=65536 ^ (n+1):=Nat.pow_le_pow_right oo oo;have h6:=qi1 (n+1)
  omega
 refine ⟨hlen,?_,hlow⟩;obtain ⟨lo2,hlo2,e2⟩:=qbv (qa9 (n2*2 ^ s)) (n+1);rw [qac,qbe,qaw (l:=limbs (n2*2 ^ s)) oo] at e2;simp only [Nat.mul_zero,Nat.add_zero] at e2;have hin:=qbd (qa9 (n2*2 ^ s)) (n+1);refine Int.not_lt.1 (fun hc=>?_);have h3:(qag (limbs (n2*2 ^ s)) (n+1)).toNat+1<=32768:=oo
 have h4:=Nat.mul_le_mul_left (65536 ^ (n+1)) h3;rw [Nat.mul_add,Nat.mul_one] at h4
 omega
theorem qz6 {S:List Int} {k:Nat} (h1:S.length<=k) (h2:k<=S.length+2):((S++[0,0]).take k).length=k/\val ((S++[0,0]).take k)=val S:=by
 refine ⟨by simp;omega,?_⟩;have e:k=S.length\/k=S.length+1\/k=S.length+2:=oo
 rw [List.take_append,List.take_of_length_le h1,qf3];have z:val (([0,0]:List Int).take (k-S.length))=0:=by
  rcases e with e | e | e
  · rw [e,Nat.sub_self];rfl
  · rw [e,show S.length+1-S.length=1 by omega];rfl
  · rw [e,show S.length+2-S.length=2 by omega];rfl
 rw [z,Nat.mul_zero,Nat.add_zero]
theorem qyu {n1 s:Nat} (hs:s<=15):(limbs n1).length<=(limbs (n1*2 ^ s)).length/\(limbs (n1*2 ^ s)).length<=(limbs n1).length+1:=by
 constructor
 · exact qap (Nat.le_mul_of_pos_right _ (Nat.two_pow_pos s))
 ·
  apply qam;rw [Nat.pow_succ];have h1:=qa3 n1;have h2:=qgj hs;exact Nat.mul_lt_mul'' h1 oo
theorem qtr {L:List Int} {n1 m s n:Nat} (hL:U16 L) (hv:val L=n1*2 ^ s) (hs:s<=15) (hl:L.length=(limbs n1).length+1) (hn:n+2<=(limbs n1).length) (hm:65536 ^ (n+1)*32768<=m):val (L.drop (L.length-(n+2)))<m:=by
 obtain ⟨k,hk⟩:=nm (L.length-(n+2))
 rw [hk];obtain ⟨lo,hlo,e⟩:=qbv hL k;rw [hv] at e;have h1:=qa3 n1;have h2:=qgj hs;have h3:n1*2 ^ s<65536 ^ (limbs n1).length*32768:=by
  have h4:=Nat.mul_lt_mul_of_pos_right h1 (Nat.two_pow_pos s);have h5:=Nat.mul_le_mul_left (65536 ^ (limbs n1).length) h2
  omega
 have h6:65536 ^ (limbs n1).length*32768=65536 ^ k*(65536 ^ (n+1)*32768):=by
  rw [<- Nat.mul_assoc,<- Nat.pow_add];congr 2
  omega
 have h7:=Nat.mul_le_mul_left (65536 ^ k) hm;apply Nat.lt_of_not_le;intro hc;have h8:=Nat.mul_le_mul_left (65536 ^ k) hc
 omega
end Go.Proofs.YtmdlbpibipnapaaGreat
namespace Go.Proofs.YtmdlbpibipnapaaGreat
open Go.RowKit
theorem qta (l:List Int) (R s:Nat) (a:Option Addr) (c:Nat) (w:World) (h:NatR w a c l) (hv:val l=R*2 ^ s) (hl:l.length<=10000000) (hs:s<=15) :
  Calls Tryz.prog 84 #[.slice a l.length c,.int .i64 (-(s:Int))] w (RetN (limbs R) w):=by
 by_cases hR:R=0
 ·
  subst hR;rw [qao];exact (qsb l _ a c w h (by simpa using hv) oo).mono fun e w' ⟨he,hw⟩=>by subst he;subst hw;exact ⟨none,0,rfl,fun _ _=>SlR.nil,Below.refl _ _⟩
 ·
  by_cases hs0:s=0
  ·
   subst hs0;have e:R*2 ^ 0=R:=by simp
   have C:=qi9 l R 0 a c w h (by rw [hv,e]) oo hl oo;rw [e] at C;have e2:(-((0:Nat):Int))=((0:Nat):Int):=by simp
   rw [e2];exact C.mono fun e w' ⟨a1,c1,he,ho,hb⟩=>by subst he;exact RetN.own ho (qa9 _) hb rfl rfl
  ·
   have hp:0<R*2 ^ s:=Nat.mul_pos oo (Nat.two_pow_pos s);have C:=qui l (R*2 ^ s) s a c w h hv hp hl oo oo;rw [Nat.mul_div_cancel _ (Nat.two_pow_pos s)] at C;exact C
theorem qac1 (w:World):NatR (w.alloc (.cells #[.int .u16 0,.int .u16 0] 105)) (some ⟨w.heap.size,0,none⟩) 2 [0,0] :=
 BlkN.readsV (l:=[0,0]) (B:=w.heap.size) (Blk.new w _ _) (nlr _) (New.refl _ _) (by intro x hx;simp at hx;omega) (by simp) (by simp [maxLen])
theorem qsx (l m:List Int) (n1 n2 n:Nat) (a a':Option Addr) (c c':Nat) (w:World) (h:NatR w a c l) (h':NatR w a' c' m) (hn:val l=n1) (hk:val m=n2) (hl:l.length<=4000000) (hm:m.length<=4000000) (hge:n2<=n1) (h2:(limbs n2).length=n+2) :
  Calls Tryz.prog 54 #[.slice a l.length c,.slice a' m.length c'] w (RetQR n1 n2 w):=by
 have hlen:=qah h.u16;rw [hn] at hlen;have hlen2:=qah h'.u16;rw [hk] at hlen2;have hle:=qap hge;have h0:0<n2:=qat.1 oo;have C1:=qa4 l a c w h;have C2:=qa4 m a' c' w h';have hT1:=h.trim;have hT2:=h'.trim;rw [hn] at C1 hT1;rw [hk] at C2 hT2;have CC:=qhi (limbs n1) (limbs n2) n1 n2 a a' c c' w hT1 hT2 (qac _) (qac _);have hcv:decide (cmpN n1 n2<0)=false:=by
  have:=qmb (a:=n1) (b:=n2);simp;have h3:¬ cmpN n1 n2<0:=fun e=>by have:=this.1 e;omega
  omega
 obtain ⟨xi,hxi⟩:=qab (xs:=limbs n2) (k:=n+1) oo;obtain ⟨b2,off2,rfl,hcx⟩:=hT2.cell hxi;have hxb:=(qa9 n2).get hxi;have hx0:xi≠0:=qh0 (n:=n2) (by rw [List.getLast?_eq_getElem?,h2];exact hxi);obtain ⟨x,rfl⟩:∃ x:Nat,xi=(x:Int):=⟨xi.toNat,oo⟩
 obtain ⟨q1,q2,q3,q4⟩:=qkh (x:=x) oo oo;have CL:=fun w=>qtf x w oo
 have hsi:(16:Int)-(Lib.bitLen x:Int)=((16-Lib.bitLen x:Nat):Int):=oo
 have hs:16-Lib.bitLen x<=15:=oo
 revert CL q3 q4 hsi hs;generalize 16-Lib.bitLen x=s;intro q3 q4 CL hsi hs;simp only [hsi] at CL;obtain ⟨r1,r2,r3⟩:=qy2 h2 (qax hxi) q3 q4;have hn1:0<n1:=oo
 have CS1:=fun W (hW:bw w W)=>qi9 (limbs n1) n1 s a c W (hT1.ext (xbw hW)) (qac _) hn1 oo oo
 have CS2:=fun W (hW:bw w W)=>qi9 (limbs n2) n2 s (some ⟨b2,off2,none⟩) c' W (hT2.ext (xbw hW)) (qac _) h0 oo oo
 obtain ⟨s1,s2⟩:=qyu (n1:=n1) hs;have hfst:=fun (L:List Int) hL hv hl=>qtr (n1:=n1) (m:=n2*2 ^ s) (s:=s) (n:=n) (L:=L) hL hv hs hl oo r3
 have hdq:n1*2 ^ s / (n2*2 ^ s)=n1 / n2:=Nat.mul_div_mul_right _ _ (Nat.two_pow_pos s);have hdr:n1*2 ^ s % (n2*2 ^ s)=n1 % n2*2 ^ s:=Nat.mul_mod_mul_right _ _ _;have hla:n+2<=(limbs n1).length:=oo
 have hla2:(limbs n1).length<=4000000:=oo
 have hk3:=held (by simpa using hcx:w.cell? ⟨b2,off2+(n+1),none⟩=some (.int .u16 x));have hvS:=qac (n1*2 ^ s);have huS:=qa9 (n1*2 ^ s);have hvV:=qac (n2*2 ^ s);have huV:=qa9 (n2*2 ^ s);simp only [h2,r1] at C2 CC CS2;obtain ⟨cv,hcv0⟩:=nm (cmpN n1 n2)
 obtain ⟨S,hS0⟩:=nm (limbs (n1*2 ^ s))
 obtain ⟨V2,hV0⟩:=nm (limbs (n2*2 ^ s))
 obtain ⟨la,hla0⟩:=nm ((limbs n1).length)
 simp only [hcv0,hS0,hV0,hla0] at C1 CC CS1 CS2 s1 s2 hfst hla hla2 hcv hvS huS hvV huV r1 r2;clear hcv0 hS0 hV0 hla0;replace C1:=Hd C1;replace C2:=Hd C2;replace CC:=Hd CC;replace CL:=Hd CL;replace CS1:=Hd CS1;replace CS2:=Hd CS2;have HF:=Hd hfst;have HR1:=Hd r1;have HR2:=Hd r2;have HDQ:=Hd hdq;have HDR:=Hd hdr;have HVS:=Hd hvS;have HVV:=Hd hvV;have HS1:=Hd s1;have HS2:=Hd s2;have hxi':(x:Int)<=65535:=oo
 have hsI:(s:Int)<=15:=oo
 have hnI:(n:Int)<=16777216:=oo
 have hne1:((n:Int)+2==0)=false:=by rw [beq_eq_false_iff_ne];omega
 have hne2:((n:Int)+2==1)=false:=by rw [beq_eq_false_iff_ne];omega
 clear h h' hn hk hT1 hT2 hlen hlen2 hle hxi hcx hxb hx0 q1 q2 q3 q4 hsi r1 r2 r3 hdq hdr hvS hvV s1 s2 hfst h2 hge;go_enter Tryz.func54,Tryz.ntmps54;go_wp2_with fail;refine C1.out.mono ?_;rintro e w1 ⟨rfl,rfl⟩;go_wp2_with fail;refine C2.out.mono ?_;rintro e w1 ⟨rfl,rfl⟩;go_wp2_with fail;refine CC.out.mono ?_;rintro e w1 ⟨rfl,hb1⟩;have k4:=hk3 _ hb1;go_wp2_with fail;refine (CL.out _).mono ?_;rintro e w1' ⟨rfl,rfl⟩;go_wp2_with fail;refine (CS1.out _ hb1).mono ?_;rintro e w2 ⟨a1,c1,rfl,ho2,hb2⟩;have hb3:=bth hb1 hb2;clear k4;have HO2:=Hd ho2;clear ho2
 go_wp2_with (at_builtin;go_must (refine qec (B:=w1'.heap.size) rfl (.tmp 52) (.tmp 53) rfl a1 c1 (l:=S) rfl (HO2.out.alloc _) (some ⟨w2.heap.size,0,none⟩) 2 (m:=[0,0]) rfl (qac1 w2) (S++[0,0]) rfl (by have:=HS2.out;simp;omega) (by have:=hb2.size;simp;omega) ?_);intro a3 c3 w3 hown3 hg3 hbb3;have hcap3:la+1<=c3:=(by have h1:=hown3.cap.1;have h2:=HS1.out;simp only [List.length_append,List.length_cons,List.length_nil] at h1;omega));obtain ⟨g,r,rfl,hBg,hc3,hrow⟩:=qzn hown3 (by simp);have hc3b:=hown3.cap.2;have hb4:Below w1'.heap.size w1' w3:=hb2.trans (((Below.refl _ w2).alloc (nlr _) _).mono hb2.size |>.trans hbb3);have hgl:=hrow.lt;have hb5:=bth hb1 hb4;obtain ⟨p1,p2⟩:=qz6 (S:=S) (k:=la+1) HS2.out (by have:=HS1.out;omega);have hrow2:=hrow.cut (la+1);have hUL:U16 ((S++[0,0]).take (la+1)):=(huS.app (by intro x hx;simp at hx;omega)).take _;rw [HVS.out] at p2
 obtain ⟨L,hL⟩:=nm ((S++[0,0]).take (la+1))
 obtain ⟨r2,hr2⟩:=nm (((S++[0,0]).drop (la+1)).map (Value.int .u16)++r)
 rw [hL] at p1 p2 hrow2 hUL;rw [hr2] at hrow2;have HP1:=Hd p1;have HP2:=Hd p2;have HROW:=Hd hrow2;have HC3B:=Hd hc3b;clear hL hr2 hrow hrow2 p1 p2 hown3 hg3 hbb3 hc3 hc3b HO2 hb2 hb3;refine (CS2.out _ hb5).mono ?_;rintro e w4 ⟨a5,c5,rfl,ho4,hb6⟩;have hb7:=bth hb5 hb6;have hvr:=ho4.reads1 huV;have hvg:∀ p,a5=some p->p.block≠g:=fun p e=>by have:=(ho4.lt e).1;omega
 have hwg:w.heap.size<=g:=Nat.le_trans hb1.size hBg;have CLG:=qxy L V2 r2 g n c3 c5 a5 w4 (HROW.out.below hb6) hUL (by rw [HP1.out];omega) hvr HR1.out hvg (by rw [HP1.out];omega) HR2.out (by rw [HVV.out];exact HF.out L hUL HP2.out HP1.out) (by rw [HP1.out];exact hcap3) HC3B.out;rw [HP1.out,HR1.out,HP2.out,HVV.out,HDQ.out,HDR.out] at CLG;replace CLG:=Hd CLG;clear hvr ho4 hvg;go_wp2_with fail;refine CLG.out.mono ?_;rintro e w5 ⟨L',a6,c6,rfl,hq6,hrow6,hU6,hl6,hv6,hg6⟩;have hb8:=qwp hb7 hg6 hwg hb7.size;have hrd:=hrow6.readsAt hU6 0 L'.length c3 oo HC3B.out;rw [List.drop_zero,List.take_length] at hrd;have CTR:=qa4 L' _ _ w5 hrd;have hrd2:=hrd.trim;rw [hv6,hl6] at CTR;rw [hv6] at hrd2;have hll:=qah hU6;rw [hv6,hl6] at hll;have CB:=qta (limbs (n1 % n2*2 ^ s)) (n1 % n2) s _ _ w5 hrd2 (qac _) oo hs;replace CB:=Hd CB;replace CTR:=Hd CTR;have HQ6:=Hd hq6
 clear hrd hrd2 hv6 hl6 hrow6 hg6 hll hq6 CLG hU6;go_wp2_with fail;refine CTR.out.mono ?_;rintro e w6 ⟨rfl,rfl⟩;go_wp2_with fail;refine CB.out.mono ?_;rintro e w6 ⟨a7,c7,rfl,hV7,hb9⟩;have HV7:=Hd hV7;have hbf:=bth hb8 hb9;clear hV7;go_wp2;go_ret3;exact ⟨a6,c6,a7,c7,rfl,fun V hV=>HQ6.out V ((hV.below hb9).base hb7.size),fun V hV=>HV7.out V (hV.base hb8.size),hbf⟩
theorem qid (l m:List Int) (n1 n2:Nat) (a a':Option Addr) (c c':Nat) (w:World) (h:NatR w a c l) (h':NatR w a' c' m) (hn:val l=n1) (hk:val m=n2) (hl:l.length<=4000000) (hm:m.length<=4000000) (h0:0<n2) :
  Calls Tryz.prog 54 #[.slice a l.length c,.slice a' m.length c'] w (RetQR n1 n2 w):=by
 by_cases hlt:n1<n2
 · exact qqh l m n1 n2 a a' c c' w h h' hn hk oo hlt
 ·
  by_cases h1:n2<=65535
  · exact qth l m n1 n2 a a' c c' w h h' hn hk oo oo h0 h1
  ·
   obtain ⟨n,h2⟩:∃ n,(limbs n2).length=n+2:=by
    refine ⟨(limbs n2).length-2,?_⟩;have h3:¬ (limbs n2).length<=1:=fun e=>by
     have h4:=qa3 n2;have h5:65536 ^ (limbs n2).length<=65536 ^ 1:=Nat.pow_le_pow_right oo e
     omega
    omega
   exact qsx l m n1 n2 n a a' c c' w h h' hn hk hl hm oo h2
theorem qny (l:List Int) (n:Nat) (a:Option Addr) (c:Nat) (w:World) (h:NatR w a c l) (hn:val l=n) :
  Calls Tryz.prog 80 #[.slice a l.length c] w fun e w'=>∃ (u:Nat) (b:Bool),e=.returned (.tuple #[.int .u64 u,.bool b])/\(b=true->u=n)/\Hid (u<18446744073709551616)/\w=w':=by
 by_cases hs:n<18446744073709551616
 · exact (qr3 l n a c w h hn hs).mono fun e w' ⟨he,hw⟩=>⟨n,true,he,fun _=>rfl,hs,hw⟩
 · exact (qx5 l n a c w h hn hs).mono fun e w' ⟨he,hw⟩=>⟨0,false,he,(fun h=>by cases h),Hd oo,hw⟩
theorem zz13 {P:Prop} (h:P:=by
 clear hu1 hu2;go_wp2_with fail;refine CD.out.mono ?_;rintro e w3 ⟨a3,c3,a4,c4,rfl,hV3,hV4,hb3⟩;have HV4:=Hd hV4;clear hV3 hV4 CD;go_wp2;go_roundg (x % gk)
 case rel=>exact ⟨gk,ay,cy,a4,c4,rfl,rfl,fun V hV=>HY.out V (hV.below hb3),fun V hV=>HV4.out V (hV.base hb'.size),hly,hlr,bth hb' hb3,HGR.out⟩
 case measure=>exact HR.out
 ):P:=h
theorem ql8 (l m:List Int) (n1 n2:Nat) (a a':Option Addr) (c c':Nat) (w:World) (h:NatR w a c l) (h':NatR w a' c' m) (hn:val l=n1) (hk:val m=n2) (hl:l.length<=2000000) (hm:m.length<=2000000) :
  Calls Tryz.prog 53 #[.slice a l.length c,.slice a' m.length c'] w (RetN (limbs (Nat.gcd n1 n2)) w):=by
 have H:=Hd h;have H':=Hd h';have C1:=qdr l a c w h oo;rw [hn] at C1;replace C1:=Hd C1;have hL1:(limbs n1).length<=2000000:=by have:=qah h.u16;rw [hn] at this;omega
 have hL2:(limbs n2).length<=2000000:=by have:=qah h'.u16;rw [hk] at this;omega
 have HK:=Hd hk;clear h h' hn hk;go_enter Tryz.func53,Tryz.ntmps53;go_wp2_with fail;refine C1.out.mono ?_;rintro e w1 ⟨a1,c1,rfl,hV1,hb1⟩;have C2:=qdr m a' c' w1 (H'.out.ext (xbw hb1)) oo;rw [HK.out] at C2;replace C2:=Hd C2;have HV1:=Hd hV1;clear hV1 C1;go_wp2_with fail;refine C2.out.mono ?_;rintro e w2 ⟨a2,c2,rfl,hV2,hb2⟩;have hb:=bth hb1 hb2;have HV2:=Hd hV2;clear hV2 C2 H H' HK;go_wp2
 go_loopg [0,1,5,6,7,8,9,10,11] n2 (fun g sx sy _ _ _ _ _ _ _ wr=>∃ (x:Nat) (ax:Option Addr) (cx:Nat) (ay:Option Addr) (cy:Nat),sx=.slice ax (limbs x).length cx/\sy=.slice ay (limbs g).length cy/\(∀ V,New w.heap.size wr V->NatR V ax cx (limbs x)) /\
  (∀ V,New w.heap.size wr V->NatR V ay cy (limbs g))/\(limbs x).length<=2000000/\(limbs g).length<=2000000/\Below w.heap.size w wr/\Nat.gcd x g=Nat.gcd n1 n2)
 case atStart=>exact ⟨n1,a1,c1,a2,c2,rfl,rfl,fun V hV=>HV1.out V (hV.below hb2),fun V hV=>HV2.out V (hV.base hb1.size),hL1,hL2,hb,rfl⟩
 case round =>
  obtain ⟨x,ax,cx,ay,cy,rfl,rfl,hx,hy,hlx,hly,hb',hg⟩:=hrel;have HX:=Hd hx;have HY:=Hd hy;have HG:=Hd hg;clear hx hy hg hb1 hb2 hb;by_cases h0:gk=0
  ·
   subst h0;have hgz:decide (0<(limbs 0).length)=false:=by rw [qao];rfl
   have hX:=HX.out;have hgc:limbs (Nat.gcd n1 n2)=limbs x:=by rw [<- HG.out,Nat.gcd_zero_right]
   have HGC:=Hd hgc;clear hgc;replace hX:=Hd hX;go_wp2;go_ret;rw [HGC.out];exact ⟨ax,cx,rfl,hX.out,hb'⟩
  ·
   have hgz:decide (0<(limbs gk).length)=true:=by have:=qat (n:=gk);simp;omega
   have CU1:=qny (limbs x) x ax cx wr (HX.out wr (New.refl _ _)) (qac _);have CU2:=qny (limbs gk) gk ay cy wr (HY.out wr (New.refl _ _)) (qac _);have CD:=qid (limbs x) (limbs gk) x gk ax ay cx cy wr (HX.out wr (New.refl _ _)) (HY.out wr (New.refl _ _)) (qac _) (qac _) oo oo oo;have hr:x % gk<gk:=Nat.mod_lt _ oo;have hgr:Nat.gcd gk (x % gk)=Nat.gcd n1 n2:=by rw [<- HG.out,Nat.gcd_comm x gk,Nat.gcd_rec gk x,Nat.gcd_comm]
   have HGR:=Hd hgr;have HR:=Hd hr;have hlr:(limbs (x % gk)).length<=2000000:=Nat.le_trans (qap (Nat.le_of_lt hr)) hly;unfold RetQR at CD;replace CU1:=Hd CU1;replace CU2:=Hd CU2;replace CD:=Hd CD;clear hgr hr;go_wp2_with fail;refine CU1.out.mono ?_;rintro e w3 ⟨u1,s1,rfl,hu1,hu1b,rfl⟩;go_wp2_with fail;refine CU2.out.mono ?_;rintro e w3 ⟨u2,s2,rfl,hu2,hu2b,rfl⟩
   cases s1
   ·
    exact zz13
   ·
    cases s2
    ·
     exact zz13
    ·
     obtain rfl:=hu1 rfl;obtain rfl:=hu2 rfl;clear CD CU1 CU2 HGR HR hlr hu1 hu2;go_wp2
     go_loopg [5,7] u2 (fun y s5 s7 wi=>∃ z:Nat,s5=.int .u64 z/\s7=.int .u64 y/\Hid (z<18446744073709551616)/\Hid (y<18446744073709551616)/\Hid (Nat.gcd z y=Nat.gcd n1 n2)/\Below w.heap.size w wi)
     case atStart=>exact ⟨u1,rfl,rfl,hu1b,hu2b,HG.out,hb'⟩
     case round =>
      clear hb';obtain ⟨z,rfl,rfl,hz,hy,hzy,hwi⟩:=hrel;by_cases hy0:gk=0
      ·
       subst hy0;have hgc:Nat.gcd n1 n2=z:=by rw [<- hzy.out,Nat.gcd_zero_right]
       have HGC2:=Hd hgc;have CO:=fun W=>qk4 z W hz.out
       replace CO:=Hd CO;clear hgc;go_wp2_with fail;refine (CO.out _).mono ?_;rintro e w3 ⟨a3,c3,rfl,hV3,hb3⟩;have HV3:=Hd hV3;have hb4:=bth hwi hb3;clear hV3;go_wp2;go_ret;rw [HGC2.out];exact ⟨a3,c3,rfl,fun V hV=>HV3.out V (hV.base hwi.size),hb4⟩
      ·
       have hmod:(z:Int).tmod (gk:Int)=((z % gk:Nat):Int):=rfl;have hne:¬ gk=0:=hy0;have hpos:decide ((0:Int)<(gk:Int))=true:=by simp;omega
       have hlt:z % gk<gk:=Nat.mod_lt _ oo;have hgc:Nat.gcd gk (z % gk)=Nat.gcd n1 n2:=by rw [<- hzy.out,Nat.gcd_comm z gk,Nat.gcd_rec gk z,Nat.gcd_comm]
       have hb5:z % gk<18446744073709551616:=by have:=hy.out;omega
       have HB5:=Hd hb5;have HLT:=Hd hlt;have HGC:=Hd hgc;have w1':IntKind.u64.wrap ((z % gk:Nat):Int)=((z % gk:Nat):Int):=by rw [qjg,Nat.mod_eq_of_lt hb5]
       clear hlt hgc hb5 hy0;go_wp2
       go_region
       go_wp2;go_roundg (z % gk)
       case rel=>exact ⟨gk,rfl,rfl,hy,HB5.out,HGC.out,hwi.drew⟩
       case measure=>exact HLT.out
theorem qek (l:List Int) (a:Option Addr) (c:Nat) (w:World) (h:NatR w a c l) :
  Calls Tryz.prog 52 #[.slice a l.length c] w fun e w'=>e=.returned (.bool (decide (l.length=1/\qag l 0=1)))/\Below w.heap.size w w':=by
 have hlen:=h.len;have hu:=h.u16;by_cases h0:l.length=0
 ·
  obtain rfl:l=[]:=List.length_eq_zero_iff.1 h0;clear h hu h0;go_enter Tryz.func52,Tryz.ntmps52;go_wp2;go_ret;exact ⟨rfl,brf.alloc (nlr _) _⟩
 ·
  obtain ⟨x,hx⟩:=qab (xs:=l) (k:=0) oo;obtain ⟨b,off,rfl,hc⟩:=h.cell hx;obtain ⟨hx0,hx1⟩:=hu.get hx;rw [qax hx];have hc2:w.cell? ⟨b,off,none⟩=some (.int .u16 x):=by simpa using hc
  have hk:=held hc2;have hgt:decide ((0:Int)<(l.length:Int))=true:=by rw [decide_eq_true_eq];omega
  have hbl:b<w.heap.size+1:=by have:=World.block_lt_of_cell? w _ hc2;simp at this;omega
  have hb2:b<w.heap.size:=by have:=World.block_lt_of_cell? w _ hc2;simpa using this
  clear h hu hx hc;go_enter Tryz.func52,Tryz.ntmps52;go_wp2
  all_goals go_ret
  all_goals refine ⟨qbn ?_,brf.alloc (nlr _) _⟩
  all_goals (simp <;> omega)
theorem qdz (n:Nat):decide ((limbs n).length=1/\qag (limbs n) 0=1)=decide (n=1):=by
 rw [decide_eq_decide]
 constructor
 ·
  rintro ⟨h1,h2⟩
  match hl:limbs n,h1 with
  | [x],_ =>
   rw [hl] at h2;have hv:=qac n;rw [hl] at hv;simp [qag] at h2;subst h2;simp [val] at hv;exact hv.symm
 ·
  rintro rfl;have e:limbs 1=[1]:=by rw [qb8 oo];simp [qao]
  rw [e];exact ⟨rfl,rfl⟩
end Go.Proofs.YtmdlbpibipnapaaGreat
