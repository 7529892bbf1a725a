/- Walk: the hypotheses of a slim figure (layer 22: Of). -/
import Derived.Test.YtmdlbpibipnapaaGreatRd3
import Derived.Test.YtmdlbpibipnapaaGreatRd15
import Derived.Test.YtmdlbpibipnapaaGreatRd2
import Derived.Deep.LoopGhost
import Derived.Test.YtmdlbpibipnapaaGreatRd13
import Derived.Test.YtmdlbpibipnapaaGreatRd20
import Derived.Test.YtmdlbpibipnapaaGreatRd22
import Derived.Test.YtmdlbpibipnapaaGreatRd1
set_option linter.all false
set_option maxRecDepth 100000
set_option maxHeartbeats 4000000
namespace Go.Proofs.YtmdlbpibipnapaaGreat
open Go.RowKit
def AllE (m:Int) (L:List Int):Prop:=∀ x∈L,0<=x/\x<=m
theorem AllE.push {m m':Int} {L:List Int} {x:Int} (h:AllE m L) (hm:m<=m') (h0:0<=x) (hx:x<=m'):AllE m' (L++[x]):=fun y hy=>by
 rcases List.mem_append.1 hy with hy | hy
 · have:=h y hy;omega
 · simp at hy;subst hy;exact ⟨h0,hx⟩
def wtG (L:List Int) (args:List Int) (i:Nat):Int:=L.getD (args.getD i 0).toNat 0
def wtOf (L:List Int) (s:Step):Int:=if s.kind=2 then wtG L s.args 0+wtG L s.args 1 else if s.kind=3\/s.kind=4 then wtG L s.args 0+wtG L s.args 1+wtG L s.args 2 else if s.kind=5 then 2*wtG L s.args 0+wtG L s.args 1 else 1
def wts (l:List Step):List Int:=l.foldl (fun L s=>L++[wtOf L s]) []
theorem qn5 {l:List Step} {k:Nat} {s:Step} (h:l[k]? = some s):wts (l.take (k+1))=wts (l.take k)++[wtOf (wts (l.take k)) s]:=by
 unfold wts;rw [qbb h,List.foldl_append,List.foldl_cons,List.foldl_nil]
theorem qzl {w:World} {aa:Option Addr} {ac:Nat} {args:List Int} {L:List Int} {B:Nat} {a:Option Addr} {c:Nat} {i:Nat} {m:Int} (hA:IntsR w aa ac args) (hin:∀ x∈args,0<=x/\x<(L.length:Int)) (hL:OwnI B w a c L) (hb:AllE m L) (hi:i<args.length) :
  ∃ (ab ao n lb:Nat) (v:Int),aa=some ⟨ab,ao,none⟩/\w.cell? ⟨ab,ao+i,none⟩=some (.int .i64 (n:Int))/\a=some ⟨lb,0,none⟩/\n<L.length/\w.cell? ⟨lb,n,none⟩=some (.int .i64 v)/\0<=v/\v<=m/\v=wtG L args i:=by
 obtain ⟨x,hx⟩:=qab hi;obtain ⟨h1,h2⟩:=hin x (List.mem_of_getElem? hx);obtain ⟨ab,ao,e,hc⟩:=hA.2.2 i x hx;obtain ⟨v,hv⟩:=qab (xs:=L) (k:=x.toNat) oo;obtain ⟨lb,e2,_,_,hc2⟩:=hL.at_ qe6 hv;have h3:=hb v (List.mem_of_getElem? hv);refine ⟨ab,ao,x.toNat,lb,v,e,?_,e2,oo,by simpa using hc2 0 _ rfl,h3.1,h3.2,by unfold wtG;rw [List.getD_eq_getElem?_getD (l:=args),hx,Option.getD_some,List.getD_eq_getElem?_getD,hv,Option.getD_some]⟩;rw [Int.toNat_of_nonneg h1];simpa using hc.1
theorem zz70 {P:Prop} (h:P:=by
 refine qad ?_;rw [ew.out,<- hV.out];refine qaa (fun W=>Below wr.heap.size wr W/\wr.heap.size<=W.heap.size) ⟨(Below.refl wr.heap.size wr).drew,nlr _⟩ ?_;rintro wX ⟨hbX,hsX⟩;replace hbX:=Hd hbX;clear z0 z1 zl d0 c0 c1 c2 c3 c4 c5 q0 ez
 -- the append of the number V
 go_wp2_with (at_builtin;go_must (refine qaa (fun W=>Blk W wX.heap.size 3 #[.int .i64 (V)]/\Below wX.heap.size wX W) ⟨bk,zg⟩ ?_);go_must (rintro w2 ⟨hr,hb2⟩);go_must (have hO2:=hO.out.below (bth hbX.out hb2));go_must (refine qic rfl (.tmp 80) (.tmp 82) rfl _ c (by rw [hLl.out];rfl) hO2 (V) wX.heap.size 1 rfl (hr.cell 0) (L++[V]) rfl (by rw [List.length_append,hLl.out];simp;omega) (by have:=hwr.out.size;have:=hbX.out.size;have:=hb2.size;omega) ?_);intro a3 c3 w3 ho3 hg3 ha3;have hb3:=qal (bth hwr.out (bth hbX.out hb2)) hO2 hg3;replace ho3:=Hd ho3;replace hb3:=Hd hb3;clear hr hb2 hg3 ha3 hO2);have hln:(L++[V]).length=k+1:=by rw [List.length_append,hLl.out];rfl
 go_roundg (gk-1)
 case rel=>exact ⟨k+1,a3,c3,L++[V],by have:=hm.out;show _=_;omega,by go_num,by first | rfl | (congr 1;simpa using hln),hln,ho3.out,hb3.out,hAll.out.push (hMM.out) hV0.out.1 (by have:=hM3.out;have:=hV0.out.2;omega),by show _=_;rw [qn5 hs.out,<- hLw.out,<- hVW.out]⟩
 case measure=>have:=hm.out;omega
 ):P:=h
theorem zz71 {P:Prop} (h:P:=by
 go_wp2;refine wrx (S:=(fun x=>x=wr.drew)) [(0,.q),(1,.q),(2,.q),(3,.q),(4,.q),(5,.q),(6,.q),(7,.q),(8,.q),(9,.q),(10,.q),(11,.q),(12,.q),(13,.q),(14,.q),(15,.q),(16,.q),(17,.q),(18,.q),(19,.p),(20,.p)] (rfl) ?_
 iterate 19 (refine qaf rfl rfl fun K hK=>xq ?_;go_simp;refine hK _ _ ?_;clear hK K)
 iterate 2 (refine qaj rfl rfl fun K hK=>xp ?_;go_simp;refine hK _ _ ?_;clear hK K)
 exact zz70
 ):P:=h
theorem qpc (steps:List Step) (goals:List Fct) (sa:Option Addr) (sc:Nat) (ga:Option Addr) (gc:Nat) (w:World) (hS:qbi w sa sc steps) (hin:∀ k s,steps[k]? = some s->qiy s k) (hl:steps.length<=8) :
  Calls Tryz.prog 132 #[.agg #[.slice sa steps.length sc,.slice ga goals.length gc]] w fun e w'=>∃ (L:List Int) (a:Option Addr) (c:Nat),e=.returned (.slice a L.length c)/\L.length=steps.length/\L=wts steps/\OwnI w.heap.size w' a c L/\Below w.heap.size w w':=by
 have HS:=Hd hS;have hin':=Hd hin;have hlS:=SlR.len hS;clear hS hin;go_enter Tryz.func132,Tryz.ntmps132;go_wp2;refine qaa (fun W=>Blk W w.heap.size 25 #[.slice sa steps.length sc,.slice ga goals.length gc]/\Below w.heap.size w W) ⟨bk,zg⟩ ?_;rintro w0 ⟨h0,hw0⟩;obtain ⟨g,hg⟩:=nm w.heap.size
 have h0':Hid (Blk w0 g 25 #[.slice sa steps.length sc,.slice ga goals.length gc]):=Hd (hg ▸ h0);rw [hg];replace hg:=Hd hg
 go_loopg [3,4,5,6,26,41,64] steps.length (fun n s3 s4 _ _ _ _ _ wr=>∃ (k:Nat) (a:Option Addr) (c:Nat) (L:List Int),Hid (k+n=steps.length)/\s4=.int .i64 k/\s3=.slice a k c/\Hid (L.length=k)/\Hid (OwnI w0.heap.size wr a c L)/\Hid (Below w0.heap.size w0 wr)/\Hid (AllE ((4 ^ k:Nat):Int) L)/\Hid (L=wts (steps.take k)))
 case atStart=>exact ⟨0,none,0,[],by show _=_;omega,rfl,rfl,rfl,Own.nil,Below.refl _ _,(fun x hx=>by cases hx),rfl⟩
 case round =>
  obtain ⟨k,a,c,L,hm,rfl,rfl,hLl,hO,hwr,hAll,hLw⟩:=hrel;have h0r:=h0'.out.below' hwr.out;obtain ⟨z0,z1⟩:=cq2 h0r;have zl:=h0r.lt;by_cases hlt:k<steps.length
  ·
   obtain ⟨s,hs⟩:=qab hlt;obtain ⟨b,o,rfl,p,hC,hP,hki,hsz⟩:=((HS.out.ext (xbw hw0)).ext (xbw hwr.out)).2.2 k s hs;obtain ⟨c0,c1,c2,c3,c4,c5⟩:=hC;obtain ⟨g1,g2,g3,g4,_⟩:=hin'.out k s hs;have hbl:b<wr.heap.size:=World.block_lt_of_cell? wr _ c0;have hAl:=hP.1.len;have hM1:1<=4 ^ k:=Nat.pow_pos (show 0<4 by omega);have hM2:4 ^ k<=65536:=Nat.le_trans (Nat.pow_le_pow_right oo (show k<=8 by omega)) dd;have hMM0:4 ^ (k+1)=4 ^ k*4:=Nat.pow_succ ..;have hin2:∀ x∈s.args,0<=x/\x<(L.length:Int):=fun x hx=>by rw [hLl.out];exact g4 x hx
   have AT:=fun i (hi:i<s.args.length)=>qzl hP.1 hin2 hO.out hAll.out hi
   revert hM1 hM2 hMM0 AT hAll;generalize 4 ^ k=M;intro hAll hM1 hM2 hMM0 AT;have hMM:=Hd (show (M:Int)<=((4 ^ (k+1):Nat):Int) by rw [hMM0];omega);have hM3:=Hd (show 3*(M:Int)<=((4 ^ (k+1):Nat):Int) by rw [hMM0];omega);replace hs:=Hd hs;replace hP:=Hd hP;replace hin2:=Hd hin2;replace g4:=Hd g4;replace AT:=Hd AT;replace hm:=hm;replace hki:=Hd hki;clear hMM0 h0r;have ez:wr.heap.size<=wr.drew.heap.size:=nlr _;by_cases e2:s.kind=2
   ·
    have k2:(s.kind==2)=true:=by rw [e2];rfl
    have hn0:1<s.args.length:=by rw [e2] at g3;exact g3
    have hnZ:0<s.args.length:=oo
    have hnJ:(0:Int)<(s.args.length:Int):=oo
    have hnI:(1:Int)<(s.args.length:Int):=oo
    obtain ⟨ab,ao,n0,lb,v0,hap,d0,rfl,n0l,q0,v0a,v0b,v0e⟩:=AT.out 0 oo;obtain ⟨ab',ao',n1,lb',v1,hap',d1,hlb,n1l,q1,v1a,v1b,v1e⟩:=AT.out 1 oo;rw [hap] at hap';injection hap' with hap';injection hap' with x1 x2
    injection hlb with hlb;injection hlb with x3
    subst x1 x2 x3;rw [hap] at c2;rw [hLl.out] at n0l n1l;rw [Nat.add_zero] at d0;have ew:IntKind.i64.wrap (v0+v1)=v0+v1:=by exact IntWalk.i64_in _ oo
    obtain ⟨V,hV⟩:∃ V:Int,V=v0+v1:=⟨_,rfl⟩
    have hVW:V=wtOf L s:=by unfold wtOf;rw [if_pos e2,hV,v0e,v1e]
    replace hVW:=Hd hVW;clear v0e v1e;have hV0:0<=V/\V<=3*M:=oo
    replace hV:=Hd hV;replace ew:=Hd ew;replace hV0:=Hd hV0;clear hap AT e2;go_wp2;refine wrx (S:=(fun x=>x=wr.drew)) [(0,.q),(1,.q),(2,.q),(3,.q),(4,.q),(5,.q),(6,.q),(7,.q),(8,.q),(9,.q),(10,.q),(11,.q),(12,.p),(13,.p)] (rfl) ?_
    iterate 12 (refine qaf rfl rfl fun K hK=>xq ?_;go_simp;refine hK _ _ ?_;clear hK K)
    iterate 2 (refine qaj rfl rfl fun K hK=>xp ?_;go_simp;refine hK _ _ ?_;clear hK K)
    exact zz70
   have k2:(s.kind==2)=false:=by simpa using e2
   by_cases e3:s.kind=3
   ·
    have k3:(s.kind==3)=true:=by rw [e3];rfl
    have hn0:2<s.args.length:=by rw [e3] at g3;exact g3
    have hnZ:0<s.args.length:=oo
    have hnJ:(0:Int)<(s.args.length:Int):=oo
    have hnI:(1:Int)<(s.args.length:Int):=oo
    have hnK:(2:Int)<(s.args.length:Int):=oo
    obtain ⟨ab,ao,n0,lb,v0,hap,d0,rfl,n0l,q0,v0a,v0b,v0e⟩:=AT.out 0 oo;obtain ⟨ab',ao',n1,lb',v1,hap',d1,hlb,n1l,q1,v1a,v1b,v1e⟩:=AT.out 1 oo;rw [hap] at hap';injection hap' with hap';injection hap' with x1 x2
    injection hlb with hlb;injection hlb with x3
    subst x1 x2 x3;obtain ⟨ab',ao',n2,lb',v2,hap',d2,hlb,n2l,q2,v2a,v2b,v2e⟩:=AT.out 2 oo;rw [hap] at hap';injection hap' with hap';injection hap' with x1 x2
    injection hlb with hlb;injection hlb with x3
    subst x1 x2 x3;rw [hap] at c2;rw [hLl.out] at n0l n1l n2l;rw [Nat.add_zero] at d0;have ew:IntKind.i64.wrap (IntKind.i64.wrap (v0+v1)+v2)=v0+v1+v2:=by rw [IntWalk.i64_in (v0+v1) oo];exact IntWalk.i64_in _ oo
    obtain ⟨V,hV⟩:∃ V:Int,V=v0+v1+v2:=⟨_,rfl⟩
    have hVW:V=wtOf L s:=by unfold wtOf;rw [if_neg oo,if_pos (.inl e3),hV,v0e,v1e,v2e]
    replace hVW:=Hd hVW;clear v0e v1e v2e;have hV0:0<=V/\V<=3*M:=oo
    replace hV:=Hd hV;replace ew:=Hd ew;replace hV0:=Hd hV0;clear hap AT e3 e2;exact zz71
   have k3:(s.kind==3)=false:=by simpa using e3
   by_cases e4:s.kind=4
   ·
    have k4:(s.kind==4)=true:=by rw [e4];rfl
    have hn0:2<s.args.length:=by rw [e4] at g3;exact g3
    have hnZ:0<s.args.length:=oo
    have hnJ:(0:Int)<(s.args.length:Int):=oo
    have hnI:(1:Int)<(s.args.length:Int):=oo
    have hnK:(2:Int)<(s.args.length:Int):=oo
    obtain ⟨ab,ao,n0,lb,v0,hap,d0,rfl,n0l,q0,v0a,v0b,v0e⟩:=AT.out 0 oo;obtain ⟨ab',ao',n1,lb',v1,hap',d1,hlb,n1l,q1,v1a,v1b,v1e⟩:=AT.out 1 oo;rw [hap] at hap';injection hap' with hap';injection hap' with x1 x2
    injection hlb with hlb;injection hlb with x3
    subst x1 x2 x3;obtain ⟨ab',ao',n2,lb',v2,hap',d2,hlb,n2l,q2,v2a,v2b,v2e⟩:=AT.out 2 oo;rw [hap] at hap';injection hap' with hap';injection hap' with x1 x2
    injection hlb with hlb;injection hlb with x3
    subst x1 x2 x3;rw [hap] at c2;rw [hLl.out] at n0l n1l n2l;rw [Nat.add_zero] at d0;have ew:IntKind.i64.wrap (IntKind.i64.wrap (v0+v1)+v2)=v0+v1+v2:=by rw [IntWalk.i64_in (v0+v1) oo];exact IntWalk.i64_in _ oo
    obtain ⟨V,hV⟩:∃ V:Int,V=v0+v1+v2:=⟨_,rfl⟩
    have hVW:V=wtOf L s:=by unfold wtOf;rw [if_neg oo,if_pos (.inr e4),hV,v0e,v1e,v2e]
    replace hVW:=Hd hVW;clear v0e v1e v2e;have hV0:0<=V/\V<=3*M:=oo
    replace hV:=Hd hV;replace ew:=Hd ew;replace hV0:=Hd hV0;clear hap AT e4 e3 e2;exact zz71
   have k4:(s.kind==4)=false:=by simpa using e4
   by_cases e5:s.kind=5
   ·
    have k5:(s.kind==5)=true:=by rw [e5];rfl
    have hn0:1<s.args.length:=by rw [e5] at g3;exact g3
    have hnZ:0<s.args.length:=oo
    have hnJ:(0:Int)<(s.args.length:Int):=oo
    have hnI:(1:Int)<(s.args.length:Int):=oo
    obtain ⟨ab,ao,n0,lb,v0,hap,d0,rfl,n0l,q0,v0a,v0b,v0e⟩:=AT.out 0 oo;obtain ⟨ab',ao',n1,lb',v1,hap',d1,hlb,n1l,q1,v1a,v1b,v1e⟩:=AT.out 1 oo;rw [hap] at hap';injection hap' with hap';injection hap' with x1 x2
    injection hlb with hlb;injection hlb with x3
    subst x1 x2 x3;rw [hap] at c2;rw [hLl.out] at n0l n1l;rw [Nat.add_zero] at d0;have ew:IntKind.i64.wrap (IntKind.i64.wrap (2*v0)+v1)=2*v0+v1:=by rw [IntWalk.i64_in (2*v0) oo];exact IntWalk.i64_in _ oo
    obtain ⟨V,hV⟩:∃ V:Int,V=2*v0+v1:=⟨_,rfl⟩
    have hVW:V=wtOf L s:=by unfold wtOf;rw [if_neg oo,if_neg oo,if_pos e5,hV,v0e,v1e]
    replace hVW:=Hd hVW;clear v0e v1e;have hV0:0<=V/\V<=3*M:=oo
    replace hV:=Hd hV;replace ew:=Hd ew;replace hV0:=Hd hV0;clear hap AT e5 e4 e3 e2;go_wp2;refine wrx (S:=(fun x=>x=wr.drew)) [(0,.q),(1,.q),(2,.q),(3,.q),(4,.q),(5,.q),(6,.q),(7,.q),(8,.q),(9,.q),(10,.q),(11,.q),(12,.q),(13,.p),(14,.p)] (rfl) ?_
    iterate 13 (refine qaf rfl rfl fun K hK=>xq ?_;go_simp;refine hK _ _ ?_;clear hK K)
    iterate 2 (refine qaj rfl rfl fun K hK=>xp ?_;go_simp;refine hK _ _ ?_;clear hK K)
    exact zz70
   have k5:(s.kind==5)=false:=by simpa using e5
   obtain ⟨V,hV⟩:∃ V:Int,V=1:=⟨_,rfl⟩
   have hVW:V=wtOf L s:=by unfold wtOf;rw [if_neg e2,if_neg oo,if_neg e5,hV]
   replace hVW:=Hd hVW;have hV0:Hid (0<=V/\V<=3*(M:Int)):=Hd oo;clear e2 e3 e4 e5 AT;subst hV
   -- the append of the number 1
   go_wp2_with (at_builtin;go_must (refine qaa (fun W=>Blk W wr.heap.size 3 #[.int .i64 (1)]/\Below wr.heap.size wr W) ⟨bk,zg⟩ ?_);go_must (rintro w2 ⟨hr,hb2⟩);go_must (have hO2:=hO.out.below (bth (Below.refl wr.heap.size wr) hb2));go_must (refine qic rfl (.tmp 80) (.tmp 82) rfl _ c (by rw [hLl.out];rfl) hO2 (1) wr.heap.size 1 rfl (hr.cell 0) (L++[1]) rfl (by rw [List.length_append,hLl.out];simp;omega) (by have:=hwr.out.size;have:=(Below.refl wr.heap.size wr).size;have:=hb2.size;omega) ?_);intro a3 c3 w3 ho3 hg3 ha3;have hb3:=qal (bth hwr.out (bth (Below.refl wr.heap.size wr) hb2)) hO2 hg3;replace ho3:=Hd ho3;replace hb3:=Hd hb3;clear hr hb2 hg3 ha3 hO2);have hln:(L++[1]).length=k+1:=by rw [List.length_append,hLl.out];rfl
   go_roundg (gk-1)
   case rel=>exact ⟨k+1,a3,c3,L++[1],by have:=hm.out;show _=_;omega,by go_num,by first | rfl | (congr 1;simpa using hln),hln,ho3.out,hb3.out,hAll.out.push (hMM.out) hV0.out.1 (by have:=hM3.out;have:=hV0.out.2;omega),by show _=_;rw [qn5 hs.out,<- hLw.out,<- hVW.out]⟩
   case measure=>have:=hm.out;omega
  ·
   have hkn:k=steps.length:=by have:=hm.out;omega
   have hLf:L=wts steps:=by rw [hLw.out,hkn,List.take_length]
   replace hLf:=Hd hLf;have hkn':=Hd hkn;clear hkn;go_wp2;refine bodyPost_ret (v:=.slice a k c) (by simp [results,Tryz.results132,go_sem]) rfl ?_;exact ⟨L,a,c,by rw [hLl.out],hLl.out.trans hkn'.out,hLf.out,hO.out.base hw0.size,bth hw0 hwr.out⟩
def qls (f:Fct) (n:Nat):Prop:=∀ x∈f.args,0<=x/\x<(n:Int)
def Thin (f:Fig):Prop:=(∀ v∈wts f.steps,v<=8)/\∀ g∈f.goals,(g.kind=6\/g.kind=7)->∀ x∈g.args,wtG (wts f.steps) [x] 0<=3
def RetTh (f:Fig) (w:World) (e:Ending) (w':World):Prop:=(∃ b,e=.returned (.bool b)/\(b=true->Thin f))/\Below w.heap.size w w'
theorem RetTh.no {f:Fig} {w w':World} (h:Below w.heap.size w w'):RetTh f w (.returned (.bool false)) w':=⟨⟨false,rfl,fun h=>by cases h⟩,h⟩
theorem qmv {n:Nat}:∀ {l:List Fct},qcm n l=0->∀ g∈l,qls g n
 | [],_,g,hg=>by cases hg
 | f :: r,h,g,hg=>by
  unfold qcm at h;by_cases h0:qb2 f n=0
  ·
   rw [if_neg (by simpa using h0)] at h;rcases List.mem_cons.1 hg with rfl | hg
   ·
    intro x hx;have h1:g.args.any (qa1 n)=false:=by
     unfold qb2 at h0;by_cases e1:qba g.kind=0
     · rw [if_pos e1] at h0;simp at h0
     ·
      rw [if_neg e1] at h0;by_cases e2:(g.args.length:Int)≠qba g.kind
      · rw [if_pos e2] at h0;simp at h0
      ·
       rw [if_neg e2] at h0;by_cases e3:g.args.any (qa1 n)=true
       · rw [if_pos e3] at h0;simp at h0
       · simpa using e3
    rw [List.any_eq_false] at h1;have h2:=h1 x hx;unfold qa1 at h2;rw [decide_eq_true_eq] at h2
    omega
   · exact qmv h g hg
  · rw [if_pos h0] at h;exact absurd h h0
theorem qki {f:Fig} (h:f.err=0):∀ g∈f.goals,qls g f.steps.length:=by
 unfold Fig.err at h;have h1:¬ (40<f.steps.length\/8<f.goals.length):=fun h1=>by rw [if_pos h1] at h;simp at h
 rw [if_neg h1] at h;by_cases h2:qbf f.steps f.steps 0≠0
 · rw [if_pos h2] at h;exact absurd h h2
 · rw [if_neg h2] at h;exact qmv h
theorem zz72 {P:Prop} (h:P:=by
 go_wp2;go_roundg (gk-1)
 case rel=>exact ⟨i+1,by have:=hmi.out;show _=_;omega,by go_num,hwi.out,hnx.out⟩
 case measure=>have:=hmi.out;omega
 ):P:=h
theorem zz73 {P:Prop} (h:P:=by
 go_wp2;refine bodyPost_ret (v:=.bool false) (by simp [results,Tryz.results86,go_sem]) rfl ?_;exact RetTh.no hw'.out
 ):P:=h
theorem qxc (steps:List Step) (goals:List Fct) (sa:Option Addr) (sc:Nat) (ga:Option Addr) (gc:Nat) (w:World) (hS:qbi w sa sc steps) (hG:FctsR w ga gc goals) (hin:∀ k s,steps[k]? = some s->qiy s k) (hl:steps.length<=8) (hgl:∀ g∈goals,qls g steps.length) :
  Calls Tryz.prog 86 #[.agg #[.slice sa steps.length sc,.slice ga goals.length gc]] w (RetTh ⟨steps,goals⟩ w):=by
 have CW:=Hd (fun W (hW:bw w W)=>qpc steps goals sa sc ga gc W (hS.ext (xbw hW)) hin hl);have HG:=Hd hG;have hgl2:=SlR.len hG;replace hgl:=Hd hgl;clear hS hG hin;go_enter Tryz.func86,Tryz.ntmps86;go_wp2_with fail;refine qae (fun W=>Blk W w.heap.size 25 #[.slice sa steps.length sc,.slice ga goals.length gc]/\Below w.heap.size w W) ⟨bk,zg⟩ ?_;rintro w0 ⟨h0,hw0⟩;refine (CW.out w0 hw0).mono ?_;rintro e w1 ⟨L,la,lc,rfl,hLl,hLw,hO,hb1⟩;replace hLw:=Hd hLw;have hw1:=bth hw0 hb1;replace h0:=h0.below' hb1;have hs0:=hw0.size;obtain ⟨g,hg⟩:=nm w.heap.size
 have h0':Hid (Blk w1 g 25 #[.slice sa steps.length sc,.slice ga goals.length gc]):=Hd (hg ▸ h0);have hLL:L.length<=100:=oo
 rw [hg];replace hg:=Hd hg;replace hLl:=Hd hLl;replace hO:=Hd hO;replace hw1:=Hd hw1;clear CW h0 hw0 hb1;go_wp2
 go_loopg [4] L.length (fun n s4 wr=>∃ k:Nat,Hid (k+n=L.length)/\s4=.int .i64 k/\Hid (Below w1.heap.size w1 wr)/\Hid (∀ (i:Nat) (v:Int),i<k->L[i]? = some v->v<=8))
 case atStart=>exact ⟨0,by show _=_;omega,rfl,Below.refl _ _,fun i v hi=>absurd hi oo⟩
 case round =>
  obtain ⟨k,hm,rfl,hwr,hall⟩:=hrel;by_cases hlt:k<L.length
  ·
   obtain ⟨v,hv⟩:=qab hlt;obtain ⟨lb,rfl,_,_,hc⟩:=(hO.out.below hwr.out).at_ qe6 hv;have c0:wr.cell? ⟨lb,k,none⟩=some (.int .i64 v):=by simpa using hc 0 _ rfl
   have hkI:(k:Int)<(L.length:Int):=oo
   replace hv:=Hd hv;clear hc;by_cases h8:8<v
   ·
    have hd:=decide_eq_true h8;have hw':=bth hw1.out hwr.out;replace hw':=Hd hw';replace h8:=Hd h8;exact zz73
   ·
    have hd:=decide_eq_false h8;have hnx:=Hd (show ∀ (i:Nat) (u:Int),i<k+1->L[i]? = some u->u<=8 from fun i u hi hu=>by
     by_cases hik:i=k
     ·
      subst hik;rw [hv.out] at hu;injection hu with hu
      omega
     · exact hall.out i u oo hu)
    replace h8:=Hd h8;go_wp2;go_roundg (gk-1)
    case rel=>exact ⟨k+1,by have:=hm.out;show _=_;omega,by go_num,hwr.out,hnx.out⟩
    case measure=>have:=hm.out;omega
  ·
   have hw2:=Hd hwr.out;have hall2:=Hd (show ∀ v∈wts steps,v<=8 from fun v hv=>by
    rw [<- hLw.out] at hv;obtain ⟨i,hi⟩:=List.getElem?_of_mem hv;exact hall.out i v (by have:=qai hi;have:=hm.out;omega) hi)
   obtain ⟨gk0,rfl⟩:∃ n,n=gk:=⟨_,rfl⟩
   obtain ⟨wo,rfl⟩:∃ wo:World,wo=wr:=⟨_,rfl⟩
   clear hwr hm hall;go_wp2
   go_loopg [5,6,7] goals.length (fun n s5 _ _ wr=>∃ k:Nat,Hid (k+n=goals.length)/\s5=.int .i64 k/\Hid (Below w1.heap.size w1 wr)/\Hid (∀ (i:Nat) (g:Fct),i<k->goals[i]? = some g->(g.kind=6\/g.kind=7)->∀ x∈g.args,wtG L [x] 0<=3))
   case atStart=>exact ⟨0,by show _=_;omega,rfl,hw2.out,fun i g hi=>absurd hi oo⟩
   case round =>
    obtain ⟨j,hm,rfl,hwr,hgall⟩:=hrel;have h0r:=h0'.out.below' hwr.out;have z1:=h0r.cell 1;have zl:=h0r.lt;by_cases hlj:j<goals.length
    ·
     obtain ⟨f,hf⟩:=qab hlj;obtain ⟨fb,fo,rfl,p,⟨c0,c1,c2,c3,c4⟩,hP,hki⟩:=((HG.out.ext (xbw hw1.out)).ext (xbw hwr.out)).2.2 j f hf;obtain ⟨kind,args,ratio⟩:=f;obtain ⟨aa,ac,na,nc,da,dc⟩:=p;dsimp only at c0 c1 c2 c3 c4 hP hki;have hgi:∀ x∈args,0<=x/\x<(L.length:Int):=fun x hx=>by rw [hLl.out];exact hgl.out _ (List.mem_of_getElem? hf) x hx
     have hfl:fb<wo.heap.size\/True:=.inr trivial;have hal:=hP.1.len;have hdj:decide ((j:Int)<(goals.length:Int))=true:=decide_eq_true oo;replace hgi:=Hd hgi;replace hP:=Hd hP;replace hf:=Hd hf;replace hki:=Hd hki;replace h0r:=Hd h0r;clear hfl;go_wp2;refine qaa (fun W=>Blk W wr.heap.size 91 #[.int .i64 kind,.slice aa args.length ac,.bool ratio.neg,.slice na ratio.num.length nc,.slice da ratio.den.length dc]/\Below wr.heap.size wr W/\wr.heap.size<W.heap.size) ⟨bk,zg,by simp⟩ ?_;rintro w3 ⟨b3,hb3,hl3⟩;obtain ⟨gF,hgF⟩:=nm wr.heap.size
     have b3':Hid (Blk w3 gF 91 #[.int .i64 kind,.slice aa args.length ac,.bool ratio.neg,.slice na ratio.num.length nc,.slice da ratio.den.length dc]):=Hd (hgF ▸ b3);simp only [hgF];have hw3:=Hd (bth hwr.out hb3);have hP3:=Hd (hP.out.1.ext (xbw hb3));have hO3:=Hd (hO.out.below (bth hwr.out hb3));replace hgF:=Hd hgF;obtain ⟨gk1,rfl⟩:∃ n,n=gk:=⟨_,rfl⟩
     obtain ⟨wq,rfl⟩:∃ wo:World,wo=wr:=⟨_,rfl⟩
     clear b3 hb3 hl3 z1 zl c0 c1 c2 c3 c4
     go_loopg [7] args.length (fun n s7 wr=>∃ i:Nat,Hid (i+n=args.length)/\s7=.int .i64 i/\Hid (Below w3.heap.size w3 wr)/\Hid ((kind=6\/kind=7)->∀ (n:Nat) (x:Int),n<i->args[n]? = some x->wtG L [x] 0<=3))
     case atStart=>exact ⟨0,by show _=_;omega,rfl,Below.refl _ _,fun _ n x hn=>absurd hn oo⟩
     case round =>
      clear hwr;obtain ⟨i,hmi,rfl,hwi,hia⟩:=hrel;have b3r:=b3'.out.below' hwi.out;obtain ⟨y0,y1⟩:=cq2 b3r;have yl:=b3r.lt;have hw':=Hd (bth hw1.out (bth hw3.out hwi.out));have hw'':=Hd (bth hw3.out hwi.out);by_cases hli:i<args.length
      ·
       obtain ⟨x,hx⟩:=qab hli;obtain ⟨hx0,hx1⟩:=hgi.out x (List.mem_of_getElem? hx);obtain ⟨ab,ao,rfl,hc⟩:=hP3.out.2.2 i x hx;have d0:=held hc.1 wr hwi.out;obtain ⟨n,rfl⟩:∃ n:Nat,x=(n:Int):=⟨x.toNat,oo⟩
       obtain ⟨v,hv⟩:=qab (xs:=L) (k:=n) oo;obtain ⟨lb,rfl,_,_,hc2⟩:=(hO3.out.below hwi.out).at_ qe6 hv;have q0:wr.cell? ⟨lb,n,none⟩=some (.int .i64 v):=by simpa using hc2 0 _ rfl
       simp only [Nat.mul_one] at d0;have hiI:(i:Int)<(args.length:Int):=oo
       have hnI:((n:Nat):Int)<(L.length:Int):=oo
       replace hx:=Hd hx;replace hv:=Hd hv;replace b3r:=Hd b3r;clear hc hc2 hx0 hx1;have hkk:(kind=6\/kind=7)\/(¬ kind=6/\¬ kind=7):=oo
       rcases hkk with hk6 | ⟨hk6,hk7⟩
       ·
        have hkb:((kind==6)=true)\/((kind==6)=false/\(kind==7)=true):=by
         rcases hk6 with rfl | rfl
         · exact .inl rfl
         · exact .inr ⟨rfl,rfl⟩
        clear hk6;by_cases h3:3<v
        ·
         have hd3:=decide_eq_true h3;replace h3:=Hd h3;rcases hkb with hkb | ⟨hkb,hkc⟩
         ·
          exact zz73
         ·
          exact zz73
        ·
         have hd3:=decide_eq_false h3;have hnx:(kind=6\/kind=7)->∀ (n:Nat) (x:Int),n<i+1->args[n]? = some x->wtG L [x] 0<=3:=fun h6 m y hm hy=>by
          by_cases hmi2:m=i
          ·
           subst hmi2;rw [hx.out] at hy;injection hy with hy
           subst hy;have e:wtG L [((n:Nat):Int)] 0=v:=by
            unfold wtG;rw [List.getD_cons_zero,Int.toNat_natCast,List.getD_eq_getElem?_getD,hv.out,Option.getD_some]
           omega
          · exact hia.out h6 m y oo hy
         replace hnx:=Hd hnx;replace h3:=Hd h3;rcases hkb with hkb | ⟨hkb,hkc⟩
         ·
          exact zz72
         ·
          exact zz72
       ·
        have hkb:(kind==6)=false:=by simpa using hk6
        have hkc:(kind==7)=false:=by simpa using hk7
        have hnx:(kind=6\/kind=7)->∀ (n:Nat) (x:Int),n<i+1->args[n]? = some x->wtG L [x] 0<=3:=fun h6=>absurd h6 oo
        replace hnx:=Hd hnx;clear hk6 hk7;exact zz72
      ·
       have hnx:∀ (i:Nat) (g:Fct),i<j+1->goals[i]? = some g->(g.kind=6\/g.kind=7)->∀ x∈g.args,wtG L [x] 0<=3:=fun m g hmj hg h6 x hx=>by
        by_cases hmm:m=j
        ·
         subst hmm;rw [hf.out] at hg;injection hg with hg
         subst hg;obtain ⟨n,hn⟩:=List.getElem?_of_mem hx;exact hia.out h6 n x (by have h1:n<args.length:=qai hn;have:=hmi.out;omega) hn
        · exact hgall.out m g oo hg h6 x hx
       replace hnx:=Hd hnx;go_wp2;go_roundg (gk1-1)
       case rel=>exact ⟨j+1,by have:=hm.out;show _=_;omega,by go_num,hw''.out,hnx.out⟩
       case measure=>have:=hm.out;omega
    ·
     have hw':=Hd (bth hw1.out hwr.out);have hT:Thin ⟨steps,goals⟩:=⟨hall2.out,fun g hg h6 x hx=>by
      obtain ⟨i,hi⟩:=List.getElem?_of_mem hg;have hi:goals[i]? = some g:=hi;rw [<- hLw.out];exact hgall.out i g (by have:=qai hi;have:=hm.out;omega) hi h6 x hx⟩
     replace hT:=Hd hT;go_wp2;refine bodyPost_ret (v:=.bool true) (by simp [results,Tryz.results86,go_sem]) rfl ?_;exact ⟨⟨true,rfl,fun _=>hT.out⟩,hw'.out⟩
def Fig.slim (f:Fig):Prop:=f.steps.length<=8/\f.goals.length<=3/\f.err=0/\(∀ s∈f.steps,s.ratio.num.length<=2/\s.ratio.den.length<=2)/\(∀ g∈f.goals,g.ratio.num.length<=2/\g.ratio.den.length<=2)/\Thin f
def RetFe (f:Fig) (w:World) (e:Ending) (w':World):Prop:=∃ b:Bool,e=.returned (.bool b)/\(b=true->f.slim)/\Below w.heap.size w w'
theorem RetFe.no {f:Fig} {w w':World} (h:Below w.heap.size w w'):RetFe f w (.returned (.bool false)) w':=⟨false,rfl,fun h=>(by cases h),h⟩
theorem zz74 {P:Prop} (h:P:=by
 go_wp2;refine bodyPost_ret (v:=.bool false) (by simp [results,Tryz.results55,go_sem]) rfl ?_;exact RetFe.no hw'.out
 ):P:=h
theorem zz75 {P:Prop} (h:P:=by
 go_enter Tryz.func55,Tryz.ntmps55;go_wp2;refine bodyPost_ret (v:=.bool false) (by simp [results,Tryz.results55,go_sem]) rfl ?_;exact RetFe.no hb0.out
 ):P:=h
theorem qsa (steps:List Step) (goals:List Fct) (sa:Option Addr) (sc:Nat) (ga:Option Addr) (gc:Nat) (w:World) (h:FigR w sa sc ga gc ⟨steps,goals⟩) (hq:Fig.few ⟨steps,goals⟩) :
  Calls Tryz.prog 55 #[.agg #[.slice sa steps.length sc,.slice ga goals.length gc]] w (RetFe ⟨steps,goals⟩ w):=by
 have CR:=Hd (fun W (hW:bw w W)=>qhd ⟨steps,goals⟩ sa sc ga gc W ⟨h.1.ext (xbw hW),h.2.ext (xbw hW)⟩ hq);have HS:=Hd h.1;have HG:=Hd h.2;have l1:=SlR.len h.1;have l2:=SlR.len h.2;unfold Fig.val at CR;dsimp only at CR l1 l2;have hz0:Blk (w.alloc (.cells #[.slice sa steps.length sc,.slice ga goals.length gc] 25)) w.heap.size 25 #[.slice sa steps.length sc,.slice ga goals.length gc]:=Blk.new w _ _;have hb0:Below w.heap.size w (w.alloc (.cells #[.slice sa steps.length sc,.slice ga goals.length gc] 25)):=by go_grown
 obtain ⟨er,her⟩:∃ er,Fig.err ⟨steps,goals⟩=er:=⟨_,rfl⟩
 rw [her] at CR;replace her:=Hd her;replace hz0:=Hd hz0;replace hb0:=Hd hb0;clear h hq;by_cases h8:steps.length<=8
 ·
  by_cases h3:goals.length<=3
  ·
   go_enter Tryz.func55,Tryz.ntmps55;go_wp2_with fail;refine qae (fun W=>Blk W w.heap.size 25 #[.slice sa steps.length sc,.slice ga goals.length gc]/\Below w.heap.size w W) ⟨bk,zg⟩ ?_;rintro w0 ⟨h0,hw0⟩;refine (CR.out w0 hw0).mono ?_;rintro e w1 ⟨rfl,hb1⟩;have hw1:=bth hw0 hb1;replace h0:=h0.below' hb1;clear CR hw0 hb1;by_cases he:er=0
   ·
    subst he;have hE:=her.out;have CT:=Hd (fun W (hW:Below w1.heap.size w1 W)=>qxc steps goals sa sc ga gc W (HS.out.ext (xbw (bth hw1 hW))) (HG.out.ext (xbw (bth hw1 hW))) (fun k s hs=>(qcw hE).2 k s hs) h8 (qki hE));obtain ⟨z0,z1⟩:=cq2 h0;have zl:=h0.lt;replace hE:=Hd hE;go_wp2_with fail;refine (CT.out w1 brf).mono ?_;rintro e w2 ⟨⟨b,rfl,hTh⟩,hb2⟩;replace hTh:=Hd hTh;have hw2:=bth hw1 hb2;replace h0:=h0.below' hb2;obtain ⟨g,hg⟩:=nm w.heap.size
    have h0':Hid (Blk w2 g 25 #[.slice sa steps.length sc,.slice ga goals.length gc]):=Hd (hg ▸ h0);simp only [hg];replace hg:=Hd hg;replace hw2:=Hd hw2;clear CT hb2 z0 z1 zl h0 hw1
    cases b
    ·
     go_wp2;refine bodyPost_ret (v:=.bool false) (by simp [results,Tryz.results55,go_sem]) rfl ?_;exact RetFe.no hw2.out
    ·
     obtain ⟨z0,z1⟩:=cq2 h0'.out;have zl:=h0'.out.lt;go_wp2
     go_loopg [3] steps.length (fun n s3 wr=>∃ k:Nat,Hid (k+n=steps.length)/\s3=.int .i64 k/\Hid (∀ (i:Nat) (s:Step),i<k->steps[i]? = some s->s.ratio.num.length<=2/\s.ratio.den.length<=2)/\Hid (Below w2.heap.size w2 wr))
     case atStart=>exact ⟨0,by show _=_;omega,rfl,fun i s hi=>absurd hi oo,Below.refl _ _⟩
     case round =>
      clear z0 z1 zl;obtain ⟨k,hm,rfl,hall,hwr⟩:=hrel;have h0r:=h0'.out.below' hwr.out;obtain ⟨z0,z1⟩:=cq2 h0r;have zl:=h0r.lt;have hw':=Hd (bth hw2.out hwr.out);replace h0r:=Hd h0r;by_cases hlt:k<steps.length
      ·
       obtain ⟨s,hs⟩:=qab hlt;obtain ⟨b,o,rfl,p,⟨c0,c1,c2,c3,c4,c5⟩,hP,hki,_⟩:=(HS.out.ext (xbw hw'.out)).2.2 k s hs;have p1:=hP.2.1.len;have p2:=hP.2.2.len;have hs':=Hd hs;replace hP:=Hd hP;clear hs;by_cases b1:s.ratio.num.length<=2
       ·
        by_cases b2:s.ratio.den.length<=2
        ·
         have hnx:=Hd (show ∀ (i:Nat) (t:Step),i<k+1->steps[i]? = some t->t.ratio.num.length<=2/\t.ratio.den.length<=2 from fun i t hi ht=>by
          by_cases hik:i=k
          ·
           subst hik;rw [hs'.out] at ht;injection ht with ht
           subst ht;exact ⟨b1,b2⟩
          · exact hall.out i t oo ht)
         go_wp2;go_roundg (gk-1)
         case rel=>exact ⟨k+1,by have:=hm.out;show _=_;omega,by go_num,hnx.out,hwr.out⟩
         case measure=>have:=hm.out;omega
        ·
         exact zz74
       ·
        exact zz74
      ·
       have hall2:=Hd (show ∀ s∈steps,s.ratio.num.length<=2/\s.ratio.den.length<=2 from fun s hs=>by
        obtain ⟨i,hi⟩:=List.getElem?_of_mem hs;exact hall.out i s (by have:=qai hi;have:=hm.out;omega) hi)
       have hsm:=Hd (show (∀ g∈goals,g.ratio.num.length<=2/\g.ratio.den.length<=2)->Fig.slim ⟨steps,goals⟩ from fun hg=>⟨h8,h3,hE.out,hall2.out,hg,hTh.out trivial⟩);obtain ⟨gk0,rfl⟩:∃ n,n=gk:=⟨_,rfl⟩
       obtain ⟨wo,rfl⟩:∃ wo:World,wo=wr:=⟨_,rfl⟩
       have hwo:=Hd hwr.out;clear hm hall hwr hall2;go_wp2
       go_loopg [4] goals.length (fun n s4 wr=>∃ k:Nat,Hid (k+n=goals.length)/\s4=.int .i64 k/\Hid (∀ (i:Nat) (s:Fct),i<k->goals[i]? = some s->s.ratio.num.length<=2/\s.ratio.den.length<=2)/\Hid (Below w2.heap.size w2 wr))
       case atStart=>exact ⟨0,by show _=_;omega,rfl,fun i s hi=>absurd hi oo,hwo.out⟩
       case round =>
        clear z0 z1 zl hw' h0r;obtain ⟨j,hm,rfl,hgall,hwr⟩:=hrel;have h0r:=h0'.out.below' hwr.out;obtain ⟨z0,z1⟩:=cq2 h0r;have zl:=h0r.lt;have hw':=Hd (bth hw2.out hwr.out);replace h0r:=Hd h0r;by_cases hlj:j<goals.length
        ·
         obtain ⟨f,hf⟩:=qab hlj;obtain ⟨b,o,rfl,p,⟨c0,c1,c2,c3,c4⟩,hP,hki⟩:=(HG.out.ext (xbw hw'.out)).2.2 j f hf;have p1:=hP.2.1.len;have p2:=hP.2.2.len;replace hf:=Hd hf;replace hP:=Hd hP;by_cases b1:f.ratio.num.length<=2
         ·
          by_cases b2:f.ratio.den.length<=2
          ·
           have hnx:=Hd (show ∀ (i:Nat) (t:Fct),i<j+1->goals[i]? = some t->t.ratio.num.length<=2/\t.ratio.den.length<=2 from fun i t hi ht=>by
            by_cases hik:i=j
            ·
             subst hik;rw [hf.out] at ht;injection ht with ht
             subst ht;exact ⟨b1,b2⟩
            · exact hgall.out i t oo ht)
           go_wp2;go_roundg (gk-1)
           case rel=>exact ⟨j+1,by have:=hm.out;show _=_;omega,by go_num,hnx.out,hwr.out⟩
           case measure=>have:=hm.out;omega
          ·
           exact zz74
         ·
          exact zz74
        ·
         have hsm2:=Hd (hsm.out fun g hg=>by
          obtain ⟨i,hi⟩:=List.getElem?_of_mem hg;exact hgall.out i g (by have:=qai hi;have:=hm.out;omega) hi)
         go_wp2;refine bodyPost_ret (v:=.bool true) (by simp [results,Tryz.results55,go_sem]) rfl ?_;exact ⟨true,rfl,fun _=>hsm2.out,hw'.out⟩
   ·
    have hne:(er != 0)=true:=by simpa using he
    obtain ⟨z0,z1⟩:=cq2 h0;have zl:=h0.lt;replace he:=Hd he;go_wp2;refine bodyPost_ret (v:=.bool false) (by simp [results,Tryz.results55,go_sem]) rfl ?_;exact RetFe.no hw1
  ·
   exact zz75
 ·
  exact zz75
theorem qtx (f:Fig) (sa:Option Addr) (sc:Nat) (ga:Option Addr) (gc:Nat) (w:World) (h:FigR w sa sc ga gc f) (hq:f.few) :
  Calls Tryz.prog 28 #[f.val sa sc ga gc] w (RetFe f w):=by
 obtain ⟨steps,goals⟩:=f;have CF:=Hd (fun W (hW:bw w W)=>qsa steps goals sa sc ga gc W ⟨h.1.ext (xbw hW),h.2.ext (xbw hW)⟩ hq);unfold Fig.val;dsimp only;clear h hq;go_enter Tryz.func28,Tryz.ntmps28;go_wp2_with fail;refine qae (fun W=>Below w.heap.size w W) (by go_grown) ?_;intro w0 hw0;refine (CF.out w0 hw0).mono ?_;rintro e w1 ⟨b,rfl,hb,hb1⟩;have hw1:=bth hw0 hb1;replace hb:=Hd hb;go_wp2;refine bodyPost_ret (v:=.bool b) (by simp [results,Tryz.results28,go_sem]) rfl ?_;exact ⟨b,rfl,hb.out,hw1⟩
def nPar (vars:List Vr):Nat:=(vars.filter fun v=>v.1==1).length
theorem qxj {vars:List Vr} {k:Nat} {v:Vr} (h:vars[k]? = some v):nPar (vars.take (k+1))=nPar (vars.take k)+if v.1=1 then 1 else 0:=by
 unfold nPar;rw [qbb h,List.filter_append,List.length_append];by_cases h1:v.1=1 <;> simp [h1]
theorem qlu (vars:List Vr):nPar vars<=vars.length:=List.length_filter_le _ _
def twoK (k:Int):Bool:=decide (k=12)||(decide (k=13)||decide (k=14))
theorem ql1 (k:Int) (w:World):Calls Tryz.prog 36 #[.int .i64 k] w fun e w'=>e=.returned (.bool (twoK k))/\w'=w:=by
 go_enter Tryz.func36,Tryz.ntmps36;by_cases h1:k=12
 ·
  subst h1;go_wp2;go_ret;exact ⟨rfl,rfl⟩
 ·
  by_cases h2:k=13
  ·
   subst h2;go_wp2;go_ret;exact ⟨rfl,rfl⟩
  ·
   go_wp2;go_ret;exact ⟨qbn (by rw [Bool.eq_iff_iff];simp [twoK,or_assoc]),rfl⟩
def RetCh (t:Nat × Nat × Int) (w:World) (e:Ending) (w':World):Prop:=e=.returned (.tuple #[.int .i64 t.1,.int .i64 t.2.1,.int .i64 t.2.2])/\Below w.heap.size w w'
theorem qqm (vars:List Vr) (ra va:Option Addr) (B n rc vc:Nat) (w:World) (hv:OwnVr B w va vc vars) (hl:vars.length<=1000) :
  Calls Tryz.prog 37 #[.agg #[.slice ra n rc,.slice va vars.length vc]] w fun e w'=>(∃ a c,e=.returned (.slice a (nPar vars) c))/\Below w.heap.size w w':=by
 have HV:=Hd hv;clear hv;go_enter Tryz.func37,Tryz.ntmps37;go_wp2;refine qaa (fun W=>Blk W w.heap.size 37 #[.slice ra n rc,.slice va vars.length vc]/\Below w.heap.size w W) ⟨bk,zg⟩ ?_;rintro w1 ⟨h0,hw1⟩;have x1:=h0.cell 1;go_wp2
 go_loopg [3,4,5,9] vars.length (fun m out _ _ idx wr=>∃ (k:Nat) (a:Option Addr) (c:Nat) (l:List Int),Hid (k+m=vars.length)/\out=.slice a l.length c/\idx=.int .i64 k/\Hid (OwnI w.heap.size wr a c l)/\Hid (l.length=nPar (vars.take k))/\Below w.heap.size w wr)
 case atStart=>exact ⟨0,none,0,[],by show _=_;omega,rfl,rfl,Own.nil,rfl,hw1⟩
 case round =>
  clear h0 hw1 x1;obtain ⟨k,a,c,l,hm,rfl,rfl,hO,hlen,hwr⟩:=hrel;by_cases hlt:k<vars.length
  ·
   obtain ⟨v,hvk⟩:=qab hlt;obtain ⟨vb,rfl,_,_,hc⟩:=(HV.out.below hwr).at_ qje hvk;have c0:wr.cell? ⟨vb,k*3,none⟩=some (.int .i64 v.1):=by simpa using hc 0 _ rfl
   have c1:=hc 1 _ rfl;have c2:=hc 2 _ rfl;have hvb:vb<wr.heap.size:=World.block_lt_of_cell? wr _ c0;have hn:=qxj hvk;have hle:=qlu (vars.take k);rw [List.length_take] at hle;have hll:l.length<=1000:=by rw [hlen.out];omega
   replace hvk:=Hd hvk;replace hn:=Hd hn;replace hle:=Hd hle;by_cases hv1:v.1=1
   ·
    have hvd:(v.1==1)=true:=by simpa using hv1
    replace hv1:=Hd hv1;clear hc;go_wp2_with (at_builtin;go_must (refine qaa (fun W=>Blk W (wr.heap.size+1) 3 #[.int .i64 k]/\Below wr.heap.size wr W) ⟨bk,zg⟩ ?_);rintro w2 ⟨hr,hb2⟩;have hO2:=hO.out.below hb2;go_must (refine qic rfl (.tmp 17) (.tmp 19) rfl a c rfl hO2 (k:Int) (wr.heap.size+1) 1 rfl (hr.cell 0) (l++[(k:Int)]) rfl (by simp;omega) (by have:=hwr.size;have:=hb2.size;omega) ?_);intro a3 c3 w3 ho3 hg3 ha3;have hb3:=qal (bth hwr hb2) hO2 hg3;replace hO2:=Hd hO2;replace ho3:=Hd ho3;replace hb3:=Hd hb3;clear hr hb2 hg3 ha3);go_roundg (gk-1)
    case rel=>exact ⟨k+1,a3,c3,l++[(k:Int)],by have:=hm.out;show _=_;omega,by simp,by go_num,ho3.out,by show _=_;rw [hn.out,if_pos hv1.out,<- hlen.out];simp,hb3.out⟩
    case measure=>have:=hm.out;omega
   ·
    have hvd:(v.1==1)=false:=by simpa using hv1
    replace hv1:=Hd hv1;clear hc;go_wp2;go_roundg (gk-1)
    case rel=>exact ⟨k+1,a,c,l,by have:=hm.out;show _=_;omega,rfl,by go_num,hO.out.alloc _,by show _=_;rw [hn.out,if_neg hv1.out,<- hlen.out];rfl,hwr.alloc hwr.size _⟩
    case measure=>have:=hm.out;omega
  ·
   have hk:l.length=nPar vars:=by rw [hlen.out,List.take_of_length_le oo]
   replace hk:=Hd hk;go_wp2;go_ret;exact ⟨⟨a,c,by rw [<- hk.out];rfl⟩,hwr⟩
def nTwo (l:List Step):Nat:=(l.filter fun s=>twoK s.kind).length
theorem qu7 {l:List Step} {k:Nat} {s:Step} (h:l[k]? = some s):nTwo (l.take (k+1))=nTwo (l.take k)+if twoK s.kind=true then 1 else 0:=by
 unfold nTwo;rw [qbb h,List.filter_append,List.length_append];by_cases h1:twoK s.kind=true <;> simp [h1]
theorem qq9 (l:List Step):nTwo l<=l.length:=List.length_filter_le _ _
def chF (f:Fig):Nat × Nat × Int :=
 if f.err=0 then match qbc ⟨[],[],0⟩ 0 f.steps with
  | some x=>(nPar x.vars,nTwo f.steps,0)
  | none=>(0,0,4)
 else (0,0,f.err)
theorem qg9:∀ (l:List Step) (x y:Frm) (i:Nat),x.vars.length<=64->qbc x i l=some y->y.vars.length<=64
 | [],x,y,i,h,e=>by simp [qbc] at e;subst e;exact h
 | s :: r,x,y,i,h,e=>by
  rw [qbc] at e
  split at e
  · cases e
  ·
   next hb =>
   refine qg9 r _ y (i+1) ?_ e;unfold bigF at hb;simp only [Bool.or_eq_true,decide_eq_true_eq] at hb
   show (nextF x s.kind s.args s.ratio.q i).1.length<=64
   omega
theorem qvw (f:Fig) (sa:Option Addr) (sc:Nat) (ga:Option Addr) (gc:Nat) (w:World) (h:FigR w sa sc ga gc f) (hq:f.few) (he:f.err≠0) :
  Calls Tryz.prog 35 #[f.val sa sc ga gc] w fun e w'=>Below w.heap.size w w'/\e=.returned (.tuple #[.agg #[.slice none 0 0,.slice none 0 0],.int .i64 f.err]):=by
 have C:=fun W (hW:bw w W)=>qlk f sa sc ga gc W ⟨h.1.ext (xbw hW),h.2.ext (xbw hW)⟩ hq
 obtain ⟨er,her⟩:∃ er,er=f.err:=⟨_,rfl⟩
 rw [<- her] at C he ⊢;have hne:(er != 0)=true:=by simpa using he
 unfold Fig.val at C ⊢;replace C:=Hd C;replace her:=Hd her;replace he:=Hd he;clear h hq;go_enter Tryz.func35,Tryz.ntmps35;go_wp2_with fail;refine qae (fun W=>Blk W (w.heap.size+1) 37 #[.slice none 0 0,.slice none 0 0]/\Below w.heap.size w W) ⟨bk,zg⟩ ?_;rintro w0 ⟨hz,hw0⟩;refine (C.out w0 hw0).mono ?_;rintro e w1 ⟨rfl,hb1⟩;have hw1:=bth hw0 hb1;replace hz:=hz.below' hb1;obtain ⟨y0,y1⟩:=cq2 hz;obtain ⟨f0,f1⟩:=fq2 hz;have zl:=hz.lt;clear hw0 hb1 C;go_wp2;refine qaa (fun W=>Blk W (w.heap.size+1) 37 #[.slice none 0 0,.slice none 0 0]/\Below w.heap.size w W) ⟨bk,zg⟩ ?_;rintro wF ⟨hF4,hwF⟩
 obtain ⟨e0,e1⟩:=cq2 hF4;refine bodyPost_ret (v:=.tuple #[.agg #[.slice none 0 0,.slice none 0 0],.int .i64 er]) (by simp [results,Tryz.results35,go_sem,e0,e1]) rfl ?_;exact ⟨hwF,rfl⟩
theorem qi0 (f:Fig) (er:Int) (sa:Option Addr) (sc:Nat) (ga:Option Addr) (gc:Nat) (w:World) (hne:(er != 0)=true)
  (C:∀ W,Below w.heap.size w W->Calls Tryz.prog 35 #[f.val sa sc ga gc] W fun e w'=>Below W.heap.size W w'/\e=.returned (.tuple #[.agg #[.slice none 0 0,.slice none 0 0],.int .i64 er])) :
  Calls Tryz.prog 15 #[f.val sa sc ga gc] w (RetCh (0,0,er) w):=by
 unfold Fig.val at C ⊢;replace C:=Hd C;go_enter Tryz.func15,Tryz.ntmps15;go_wp2_with fail;refine qae (fun W=>Below w.heap.size w W) (by go_grown) ?_;intro w0 hw0;refine (C.out w0 hw0).mono ?_;rintro e w1 ⟨hb1,rfl⟩;have hw1:=bth hw0 hb1;clear hw0 hb1 C;go_wp2;refine bodyPost_ret (v:=.tuple #[.int .i64 0,.int .i64 0,.int .i64 er]) (by simp [results,Tryz.results15,go_sem]) rfl ?_;exact ⟨rfl,hw1.alloc hw1.size _⟩
theorem zz76 {P:Prop} (h:P:=by
 go_wp2;go_roundg (gk-1)
 case rel=>exact ⟨k+1,by have:=hm.out;show _=_;omega,congrArg _ (by rw [hn2.out];simp),by go_num,hnx.out⟩
 case measure=>have:=hm.out;omega
 ):P:=h
theorem qnn (x:Frm) (steps:List Step) (goals:List Fct) (sa:Option Addr) (sc:Nat) (ga:Option Addr) (gc:Nat) (w:World) (hS:qbi w sa sc steps) (hsl:steps.length<=100) (hxl:x.vars.length<=64)
  (C:∀ W,Below w.heap.size w W->Calls Tryz.prog 35 #[.agg #[.slice sa steps.length sc,.slice ga goals.length gc]] W fun e w'=>Below W.heap.size W w'/\qnu (fun _=>False) x e w') :
  Calls Tryz.prog 15 #[.agg #[.slice sa steps.length sc,.slice ga goals.length gc]] w (RetCh (nPar x.vars,nTwo steps,0) w):=by
 have HS:=Hd hS;replace C:=Hd C;obtain ⟨np,hnp⟩:∃ n,n=nPar x.vars:=⟨_,rfl⟩
 have hnp64:np<=64:=by have:=qlu x.vars;omega
 rw [<- hnp];replace hnp:=Hd hnp;clear hS;go_enter Tryz.func15,Tryz.ntmps15;go_wp2_with fail;refine qae (fun W=>Blk W w.heap.size 25 #[.slice sa steps.length sc,.slice ga goals.length gc]/\Below w.heap.size w W) ⟨bk,zg⟩ ?_;rintro w0 ⟨h0,hw0⟩;refine (C.out w0 hw0).mono ?_;rintro e w1 ⟨hb1,hs,ra,va,rc,vc,B,rfl,_,_,hvr,_⟩;have hw1:=bth hw0 hb1;replace h0:=h0.below' hb1;replace hvr:=Hd hvr;obtain ⟨k0,k1⟩:=cq2 h0;have kl:=h0.lt;clear hw0 hb1 C;go_wp2
 refine qaa (fun W=>Blk W w.heap.size 25 #[.slice sa steps.length sc,.slice ga goals.length gc]/\Blk W w1.heap.size 37 #[.slice ra hs.length rc,.slice va x.vars.length vc]/\Below w1.heap.size w1 W) ⟨bk,bk,zg⟩ ?_;rintro w2 ⟨h2,hF,hb2⟩;have hw2:=bth hw1 hb2;have hvr2:=Hd (hvr.out.below hb2);obtain ⟨z0,z1⟩:=cq2 h2;obtain ⟨gF,hgF⟩:∃ g,g=w1.heap.size:=⟨_,rfl⟩
 rw [<- hgF] at hF ⊢;replace hgF:=Hd hgF;clear h0 k0 k1 kl hb2 hvr hw1;go_wp2
 go_loopg [3,7,19] steps.length (fun m ct _ q wr=>∃ k:Nat,Hid (k+m=steps.length)/\ct=.int .i64 (nTwo (steps.take k))/\q=.int .i64 k/\Below w2.heap.size w2 wr)
 case atStart=>exact ⟨0,by show _=_;omega,rfl,rfl,Below.refl _ _⟩
 case round =>
  obtain ⟨k,hm,rfl,rfl,hwr⟩:=hrel;have hz2:=h2.below' hwr;obtain ⟨z0,z1⟩:=cq2 hz2;have zl:=hz2.lt;have hw2r:=bth hw2 hwr;by_cases hlt:k<steps.length
  ·
   obtain ⟨s,hs_⟩:=qab hlt;obtain ⟨b,o,rfl,p,hC,hP,hin,hsz⟩:=HS.out.2.2 k s hs_;have hl0:=HS.out.len;obtain ⟨c0,c1,c2,c3,c4,c5⟩:=hC;have d0:=held c0 wr hw2r;have d1:=held c1 wr hw2r;have d2:=held c2 wr hw2r;have d3:=held c3 wr hw2r;have d4:=held c4 wr hw2r;have d5:=held c5 wr hw2r;have hbl:b<wr.heap.size:=World.block_lt_of_cell? wr _ d0;have hn:=qu7 hs_;have hle:=qq9 (steps.take k);rw [List.length_take] at hle;replace hs_:=Hd hs_;replace hn:=Hd hn;replace hP:=Hd hP;replace hin:=Hd hin;have BR:=fun W=>ql1 s.kind W
   replace BR:=Hd BR;clear c0 c1 c2 c3 c4 c5 hz2;go_wp2_with fail;refine qae (fun W=>Below wr.heap.size wr W) (by go_grown) ?_;intro w3 hb3;refine (BR.out w3).mono ?_;rintro e w4 ⟨rfl,rfl⟩;have hnx:=Hd (bth hwr hb3);clear BR d0 d1 d2 d3 d4 d5 z0 z1 hb3;by_cases h2k:twoK s.kind=true
   ·
    rw [h2k];have hn2:=hn.out;rw [if_pos h2k] at hn2;replace hn2:=Hd hn2;clear h2k;exact zz76
   ·
    have h2f:twoK s.kind=false:=by simpa using h2k
    rw [h2f];have hn2:=hn.out;rw [if_neg h2k] at hn2;replace hn2:=Hd hn2;clear h2k h2f;exact zz76
  ·
   have hk:k=steps.length:=by have:=hm.out;omega
   have htk:nTwo (steps.take k)=nTwo steps:=by rw [hk,List.take_length]
   rw [htk];have hF3:=hF.below' hwr;obtain ⟨x0,x1⟩:=cq2 hF3;have xl:=hF3.lt;have CP:=qqm x.vars ra va B hs.length rc vc wr (hvr2.out.below hwr) oo;rw [<- hnp.out] at CP;replace CP:=Hd CP;replace htk:=Hd htk;clear hF3 hk hz2;go_wp2_with fail;refine CP.out.mono ?_;rintro e w5 ⟨⟨a5,c5,rfl⟩,hb5⟩;have hw5:=bth hw2r hb5;clear CP x0 x1 xl hb5 z0 z1 zl;go_wp2;refine bodyPost_ret (v:=.tuple #[.int .i64 np,.int .i64 (nTwo steps),.int .i64 0]) (by simp [results,Tryz.results15,go_sem]) rfl ?_;exact ⟨rfl,hw5⟩
theorem qh8 {f:Fig} (he:f.err=0) (hr:∀ s∈f.steps,s.ratio.num.length<=2/\s.ratio.den.length<=2):∀ s∈f.steps,s.kind=2->s.ratio.short=true:=fun s hs hk=>by
 obtain ⟨i,hi⟩:=List.getElem?_of_mem hs;have h1:=((qcw he).2 i s hi).2.2.2.2 hk;exact Rt.short_iff.2 ⟨h1,hr s hs⟩
theorem qab1 (f:Fig):(chF f).1<=64/\(chF f).2.1<=40:=by
 unfold chF;by_cases he:f.err=0
 ·
  rw [if_pos he]
  cases hs:qbc ⟨[],[],0⟩ 0 f.steps with
  | none=>exact ⟨by simp,by simp⟩
  | some x =>
   have h1:=qg9 f.steps _ x 0 (by simp) hs;have h2:=qlu x.vars;have h3:=qq9 f.steps;have h4:=(qcw he).1;exact ⟨by dsimp only;omega,by dsimp only;omega⟩
 ·
  rw [if_neg he];exact ⟨by simp,by simp⟩
theorem qpd (f:Fig) (sa:Option Addr) (sc:Nat) (ga:Option Addr) (gc:Nat) (w:World) (h:FigR w sa sc ga gc f) (hq:f.few) (hr:∀ s∈f.steps,s.ratio.num.length<=2/\s.ratio.den.length<=2) :
  Calls Tryz.prog 15 #[f.val sa sc ga gc] w (RetCh (chF f) w):=by
 unfold chF;by_cases he:f.err=0
 ·
  rw [if_pos he];have C:=fun W (hW:bw w W)=>qwe (fun _=>False) f sa sc ga gc w W h hW hq he (fun b hb=>hb.elim) (qh8 he hr)
  cases hs:qbc ⟨[],[],0⟩ 0 f.steps with
  | none =>
   rw [hs] at C;exact qi0 f 4 sa sc ga gc w rfl C
  | some x =>
   rw [hs] at C;exact qnn x f.steps f.goals sa sc ga gc w h.1 (by have:=(qcw he).1;omega) (qg9 f.steps _ x 0 (by simp) hs) C
 ·
  rw [if_neg he];exact qi0 f f.err sa sc ga gc w (by simpa using he) fun W hW=>qvw f sa sc ga gc W ⟨h.1.ext (xbw hW),h.2.ext (xbw hW)⟩ hq he
theorem qm7 {α:Type} [DecidableEq α]:∀ (l S:List α),l.Nodup->(∀ x∈l,x∈S)->l.length<=S.length
 | [],S,_,_=>by simp
 | x :: l,S,h,hs=>by
  have h1:=List.nodup_cons.1 h;have h2:=qm7 l (S.erase x) h1.2 fun y hy=>(List.mem_erase_of_ne (fun e=>h1.1 (by rw [<- e];exact hy))).2 (hs y (List.mem_cons_of_mem _ hy))
  have h3:=List.length_erase_of_mem (hs x List.mem_cons_self);have h4:=List.length_pos_of_mem (hs x List.mem_cons_self);rw [List.length_cons]
  omega
theorem qvx {B:Int} {p:List Tm} (h:Pok B p):(p.map Prod.snd).Nodup:=by
 rw [List.nodup_iff_pairwise_ne,List.pairwise_map];exact h.2.imp fun hg=>qln hg
theorem qm4 {p q:List Tm} {m:List Int} (h:m∈(addP p q).map Prod.snd):m∈p.map Prod.snd\/m∈q.map Prod.snd:=by
 obtain ⟨u,hu,rfl⟩:=List.mem_map.1 h;rcases qdg _ _ _ hu with e | e | ⟨s,hs,t,_,rfl,_⟩
 · exact .inl (List.mem_map_of_mem e)
 · exact .inr (List.mem_map_of_mem e)
 · exact .inl (List.mem_map.2 ⟨s,hs,rfl⟩)
theorem qjw {p:List Tm} {r:Rat} {m:List Int} (h:m∈(qau p r).map Prod.snd):m∈p.map Prod.snd:=by
 unfold qau at h
 split at h
 · cases h
 · rw [List.map_map] at h;exact h
theorem qnk {B:Int} {a b:List Tm} (ha:Pok B a) (hb:Pok B b) (r:Rat):(addP a (qau (subP b a) r)).length<=a.length+b.length:=by
 have h:=qm7 ((addP a (qau (subP b a) r)).map Prod.snd) (a.map Prod.snd++b.map Prod.snd) (qvx (qc9 ha (qfv (qd4 hb ha)))) fun m hm=>by
  rw [List.mem_append];rcases qm4 hm with e | e
  · exact .inl e
  ·
   have e:=qjw e;unfold subP at e;rcases qm4 e with e | e
   · exact .inr e
   · exact .inl (qjw e)
 simpa using h
def LenW (L:List Int) (cs:List Vec):Prop:=L.length=cs.length/\∀ (j:Nat) (v:Vec) (c:Int),cs[j]? = some v->L[j]? = some c->(v.1.length:Int)<=c/\(v.2.length:Int)<=c
theorem LenW.arg {L:List Int} {cs:List Vec} (h:LenW L cs) (args:List Int) (k:Nat):((argF cs args k).1.length:Int)<=wtG L args k/\((argF cs args k).2.length:Int)<=wtG L args k:=by
 unfold argF wtG;generalize (args.getD k 0).toNat=j;rw [List.getD_eq_getElem?_getD,List.getD_eq_getElem?_getD];rcases Nat.lt_or_ge j cs.length with hj | hj
 ·
  obtain ⟨v,hv⟩:=qab hj;obtain ⟨c,hc⟩:=qab (xs:=L) (k:=j) (by have:=h.1;omega);rw [hv,hc];exact h.2 j v c hv hc
 ·
  rw [List.getElem?_eq_none hj,List.getElem?_eq_none (by have:=h.1;omega)];exact ⟨by simp,by simp⟩
theorem qiv (p:List Tm) (n:Nat):(mulP p (varP n)).length<=p.length:=by
 unfold varP
 split
 · rw [qc3];simp [qaq]
 · simp [qfk]
theorem qad1 {i D M:Nat} {x:Frm} {L:List Int} (h:FrmOk i D M x) (hL:LenW L x.coords) (s:Step) :
  ((nextF x s.kind s.args s.ratio.q i).2.1.length:Int)<=wtOf L s/\((nextF x s.kind s.args s.ratio.q i).2.2.length:Int)<=wtOf L s:=by
 have A:=fun k=>hL.arg s.args k
 have P:=fun k=>qga h s.args k
 have V:=qh4;unfold nextF wtOf;generalize wtG L s.args=g at *;by_cases k1:s.kind=1
 ·
  have V1:=V x.vars.length;have V2:=V (x.vars.length+1);rw [if_pos k1,if_neg (show ¬ s.kind=2 by omega),if_neg (show ¬ (s.kind=3\/s.kind=4) by omega),if_neg (show ¬ s.kind=5 by omega)]
  split
  · simp
  ·
   split
   · dsimp only;simp;omega
   · dsimp only;omega
 rw [if_neg k1];by_cases k2:s.kind=2
 ·
  rw [if_pos k2,if_pos k2];unfold qe2;have l1:=qnk (P 0).1.1 (P 1).1.1 s.ratio.q;have l2:=qnk (P 0).2.1 (P 1).2.1 s.ratio.q;have a0:=A 0;have a1:=A 1;dsimp only
  omega
 rw [if_neg k2,if_neg k2];have S:=fun (a b c:List Tm)=>Nat.le_trans (qc6 a (subP b c)) (Nat.add_le_add_left (qe9 b c) _)
 by_cases k3:s.kind=3
 ·
  rw [if_pos k3,if_pos (.inl k3)];have l1:=S (argF x.coords s.args 0).1 (argF x.coords s.args 2).1 (argF x.coords s.args 1).1;have l2:=S (argF x.coords s.args 0).2 (argF x.coords s.args 2).2 (argF x.coords s.args 1).2;have a0:=A 0;have a1:=A 1;have a2:=A 2;dsimp only
  omega
 rw [if_neg k3];by_cases k4:s.kind=4
 ·
  rw [if_pos k4,if_pos (.inr k4)];have l1:=S (argF x.coords s.args 0).1 (argF x.coords s.args 1).2 (argF x.coords s.args 2).2;have l2:=S (argF x.coords s.args 0).2 (argF x.coords s.args 2).1 (argF x.coords s.args 1).1;have a0:=A 0;have a1:=A 1;have a2:=A 2;dsimp only
  omega
 rw [if_neg k4,if_neg (show ¬ (s.kind=3\/s.kind=4) by omega)];by_cases k5:s.kind=5
 ·
  rw [if_pos k5,if_pos k5];unfold qe2;have l1:=qc6 (argF x.coords s.args 0).1 (mulP (subP (argF x.coords s.args 1).1 (argF x.coords s.args 0).1) (varP x.vars.length));have l2:=qc6 (argF x.coords s.args 0).2 (mulP (subP (argF x.coords s.args 1).2 (argF x.coords s.args 0).2) (varP x.vars.length));have m1:=qiv (subP (argF x.coords s.args 1).1 (argF x.coords s.args 0).1) x.vars.length;have m2:=qiv (subP (argF x.coords s.args 1).2 (argF x.coords s.args 0).2) x.vars.length;have s1:=qe9 (argF x.coords s.args 1).1 (argF x.coords s.args 0).1;have s2:=qe9 (argF x.coords s.args 1).2 (argF x.coords s.args 0).2;have a0:=A 0;have a1:=A 1;dsimp only
  omega
 rw [if_neg k5,if_neg k5];have V1:=V x.vars.length;have V2:=V (x.vars.length+1);have V3:=V (x.vars.length+2)
 split
 · dsimp only;omega
 · dsimp only;omega
theorem qq5:∀ (l:List Step) (i D M:Nat) (x y:Frm) (L:List Int),FrmOk i D M x->LenW L x.coords->(∀ s∈l,s.kind=2->s.ratio.q.num.natAbs<=2 ^ 32/\s.ratio.q.den<=2 ^ 32)->qbc x i l=some y ->
  ∃ D' M',FrmOk (i+l.length) D' M' y/\LenW (l.foldl (fun L s=>L++[wtOf L s]) L) y.coords
 | [],i,D,M,x,y,L,h,hL,_,e=>by
  simp [qbc] at e;subst e;exact ⟨D,M,h,hL⟩
 | s :: r,i,D,M,x,y,L,h,hL,hr,e=>by
  rw [qbc] at e
  split at e
  · cases e
  ·
   next hb =>
   obtain ⟨D1,M1,h1⟩:=FrmOk.next h s.kind s.args s.ratio.q (hr s List.mem_cons_self) (by simpa using hb);have hw:=qad1 h hL s;have hL1:LenW (L++[wtOf L s]) (putF x s.kind (nextF x s.kind s.args s.ratio.q i)).coords:=by
    unfold putF;refine ⟨by simp [hL.1],fun j v c hv hc=>?_⟩;dsimp only at hv;rcases Nat.lt_or_ge j L.length with hj | hj
    ·
     rw [List.getElem?_append_left (by rw [<- hL.1];exact hj)] at hv;rw [List.getElem?_append_left hj] at hc;exact hL.2 j v c hv hc
    ·
     rw [List.getElem?_append_right (by rw [<- hL.1];exact hj),<- hL.1] at hv;rw [List.getElem?_append_right hj] at hc
     cases hk:j-L.length with
     | zero =>
      rw [hk] at hv hc;simp at hv hc;subst hv hc;exact hw
     | succ n=>rw [hk] at hc;simp at hc
   obtain ⟨D',M',g1,g2⟩:=qq5 r (i+1) D1 M1 _ y _ h1 hL1 (fun t ht=>hr t (List.mem_cons_of_mem _ ht)) e;exact ⟨D',M',by rw [List.length_cons,show i+(r.length+1)=i+1+r.length by omega];exact g1,g2⟩
theorem qps {r:Rt} (h:r.right=true) (h1:r.num.length<=2) (h2:r.den.length<=2):r.q.num.natAbs<=2 ^ 32/\r.q.den<=2 ^ 32:=by
 have hz:qsz r.q<=2:=by
  obtain ⟨e1,e2,e3⟩:=qkj h;unfold qsz;rw [e2,e3]
  omega
 have e1:=qbs r.q;have e2:=qbq r.q;exact ⟨Nat.le_of_lt (ltl (qa3 _) (Nat.le_trans (Nat.pow_le_pow_right dd (Nat.le_trans e1 hz)) dd)),Nat.le_of_lt (ltl (qa3 _) (Nat.le_trans (Nat.pow_le_pow_right dd (Nat.le_trans e2 hz)) dd))⟩
theorem qrp {f:Fig} {x:Frm} (hs:f.slim) (hx:qbc ⟨[],[],0⟩ 0 f.steps=some x) :
  ∃ D M,GB D M/\x.coords.length=f.steps.length/\x.vars.length<=64/\(∀ v∈x.coords,GV D M 8 v)/\∀ g∈f.goals,(g.kind=6\/g.kind=7)->∀ a∈g.args,GV D M 3 (argF x.coords [a] 0):=by
 obtain ⟨h1,h2,h3,h4,h5,h6,h7⟩:=hs;obtain ⟨D,M,hF,hL⟩:=qq5 f.steps 0 1 1 ⟨[],[],0⟩ x [] (by simp [FrmOk]) ⟨rfl,fun j v c hv=>by simp at hv⟩ (fun s hs hk=>by
  obtain ⟨i,hi⟩:=List.getElem?_of_mem hs;exact qps (((qcw h3).2 i s hi).2.2.2.2 hk) (h4 s hs).1 (h4 s hs).2) hx
 rw [Nat.zero_add] at hF;have hL':LenW (wts f.steps) x.coords:=hL;obtain ⟨f1,f2,f3,f4,f5,f6,f7,f8⟩:=id hF;have hB:GB D M:=⟨f2,Nat.le_trans f3 (Nat.pow_le_pow_right dd h1),Nat.le_trans f4 (Nat.pow_le_pow_right dd h1),f5⟩
 have hV:∀ (N:Nat) (v:Vec),((Pok f.steps.length v.1/\PolyO D M v.1/\v.1.length<=4000)/\(Pok f.steps.length v.2/\PolyO D M v.2/\v.2.length<=4000))->(v.1.length:Int)<=N->(v.2.length:Int)<=N->GV D M N v:=fun N v hv n1 n2 =>
  ⟨⟨hv.1.1.more oo,by rw [Nat.pow_one,Nat.pow_one,Nat.one_mul];exact hv.1.2.1,oo⟩,⟨hv.2.1.more oo,by rw [Nat.pow_one,Nat.pow_one,Nat.one_mul];exact hv.2.2.1,oo⟩⟩
 refine ⟨D,M,hB,f1,f6,fun v hv=>?_,fun g hg hk a ha=>?_⟩
 ·
  obtain ⟨j,hj⟩:=List.getElem?_of_mem hv;obtain ⟨c,hc⟩:=qab (xs:=wts f.steps) (k:=j) (by rw [hL'.1];exact qai hj);have hl:=hL'.2 j v c hj hc;have h8:=h6 c (List.mem_of_getElem? hc);exact hV 8 v (f8 v hv) oo oo
 ·
  have ha3:=h7 g hg hk a ha;have hl:=hL'.arg [a] 0;exact hV 3 _ (qga hF [a] 0) oo oo
theorem OwnPo.reads {B:Nat} {w:World} {a:Option Addr} {c:Nat} {l:List SQ} (h:OwnPo B w a c l):SqR w a c l:=Own.reads SQ.cs_len h fun g o v _ hc=>by have e:=hc 0 _ rfl;simpa [SqE] using e
def qad7 (n:Nat) (ok:Prop) (w:World) (e:Ending) (w':World):Prop:=Below w.heap.size w w' /\
 ((∃ er:Int,er≠0/\e=.returned (.tuple #[.slice none 0 0,.int .i64 er]))\/(ok/\∃ a c l,e=.returned (.tuple #[.slice a (List.length l) c,.int .i64 0])/\SqR w' a c l/\l.length<=n/\∀ g,a=some g->w.heap.size<=g.block))
theorem qul (steps:List Step) (goals:List Fct) (sa:Option Addr) (sc:Nat) (ga:Option Addr) (gc:Nat) (w:World) (h:FigR w sa sc ga gc ⟨steps,goals⟩) (hq:Fig.few ⟨steps,goals⟩) (hs:Fig.slim ⟨steps,goals⟩) :
  Calls Tryz.prog 30 #[.agg #[.slice sa steps.length sc,.slice ga goals.length gc]] w (qad7 16 (∃ x,qbc ⟨[],[],0⟩ 0 steps=some x) w):=by
 have he:Fig.err ⟨steps,goals⟩=0:=hs.2.2.1;have C:=fun W (hW:bw w W)=>qiw (fun _=>False) ⟨steps,goals⟩ sa sc ga gc w W h hW hq he (fun b hb=>hb.elim) (qh8 he hs.2.2.2.1)
 have hgv:=fun x (hx:qbc ⟨[],[],0⟩ 0 steps=some x)=>qrp hs hx
 have hst:=(qcw he).2;have hal:=qoz he;have h8:steps.length<=8:=hs.1;unfold Fig.val at C;dsimp only at C hst hal;have HS:=Hd h.1;have lS:=SlR.len h.1;have lG:=SlR.len h.2;dsimp only at lS lG;replace C:=Hd C;replace hgv:=Hd hgv;replace hst:=Hd hst;replace hal:=Hd hal;clear h hq hs he;go_enter Tryz.func30,Tryz.ntmps30;go_wp2_with fail;refine qae (fun W=>Blk W w.heap.size 25 #[.slice sa steps.length sc,.slice ga goals.length gc]/\Below w.heap.size w W) ⟨bk,zg⟩ ?_;rintro w0 ⟨BG,hw0⟩;obtain ⟨gG,hgG⟩:=nm w.heap.size
 have BG':Blk w0 gG 25 #[.slice sa steps.length sc,.slice ga goals.length gc]:=hgG ▸ BG;rw [hgG];have CC:=C.out w0 hw0;obtain ⟨res,hres⟩:∃ res,qbc ⟨[],[],0⟩ 0 steps=res:=⟨_,rfl⟩
 rw [hres] at CC;replace hgG:=Hd hgG;clear BG C;refine CC.mono ?_;clear CC;rintro e w1 ⟨hb1,hm1⟩;have hw1:=bth hw0 hb1;have BG1:=BG'.below' hb1
 cases res with
 | none =>
  dsimp only at hm1;subst hm1;have z0:=BG1.cell 0;have zl:=BG1.lt;replace hres:=Hd hres;go_wp2;refine bodyPost_ret (v:=.tuple #[.slice none 0 0,.int .i64 4]) (by simp [results,Tryz.results30,go_sem]) rfl ?_;exact ⟨by have:=hw1.size;have:=hw1;go_grown,.inl ⟨4,by decide,rfl⟩⟩
 | some x =>
  dsimp only at hm1;obtain ⟨hs,ra,va,rc,vc,B0,rfl,heq,hoC,hoV,hall⟩:=hm1;have hFr:=FrR.of heq hoC hoV hall;obtain ⟨D,M,hB,hlen,hvl,hG8,_⟩:=hgv.out x hres;have hlh:hs.length=steps.length:=by rw [<- hlen,<- heq,List.length_map]
  have z0:=BG1.cell 0;have zl:=BG1.lt;have lC:=SlR.len hFr.co;replace hFr:=Hd hFr;replace hB:=Hd hB;replace hG8:=Hd hG8;replace hres:=Hd hres;replace hlh:=Hd hlh;replace hgv:=Hd hgv;clear hoC hoV hall heq hlen;go_wp2;refine qaa (fun W=>Blk W gG 25 #[.slice sa steps.length sc,.slice ga goals.length gc]/\Blk W w1.heap.size 37 #[.slice ra hs.length rc,.slice va x.vars.length vc]/\Below w1.heap.size w1 W) ⟨bk,bk,zg⟩ ?_;rintro w2 ⟨BG2,BF2,hb2⟩;obtain ⟨gF,hgF⟩:=nm w1.heap.size
  have BF2':Blk w2 gF 37 #[.slice ra hs.length rc,.slice va x.vars.length vc]:=hgF ▸ BF2;rw [hgF];have hFr2:=Hd (hFr.out.ext (xbw hb2));have hw2:=Hd (bth hw1 hb2);have hS2:=Hd (HS.out.ext (xbw hw2.out));replace hgF:=Hd hgF;clear BF2 hb2 z0 zl BG1 BG' hFr
  go_loopg [6,7,8,9,10] steps.length (fun m out q _ _ _ wr=>∃ (k:Nat) (a:Option Addr) (c:Nat) (l:List SQ),Hid (k+m=steps.length)/\out=.slice a l.length c/\q=.int .i64 k/\Hid (OwnPo w2.heap.size wr a c l)/\Hid (l.length<=2*k)/\Hid (Below w2.heap.size w2 wr))
  case atStart=>exact ⟨0,none,0,[],by show _=_;omega,rfl,rfl,Own.nil,nlr _,Below.refl _ _⟩
  case round =>
   obtain ⟨k,a,c,l,hm,rfl,rfl,hO,hll,hwr⟩:=hrel;have BG:=BG2.below' hwr.out;have BF:=BF2'.below' hwr.out;obtain ⟨z0,z1⟩:=cq2 BG;obtain ⟨y0,y1⟩:=cq2 BF;have lBG:=BG.lt;have lBF:=BF.lt;by_cases hlt:k<steps.length
   ·
    obtain ⟨s,hsk⟩:=qab hlt;have CS:=qr7 steps goals.length x hs sa ga ra va sc gc rc vc k s D M wr (hS2.out.ext (xbw hwr.out)) (hFr2.out.ext (xbw hwr.out)) hlh.out hsk (hst.out k s hsk) (hal.out k s hsk) hB.out hG8.out oo;have hpl:(hypsF x s k hs).length<=2:=qwu _ _ _ _ _ _ _;revert CS hpl;generalize hypsF x s k hs=ps;intro CS hpl;have hkI:(k:Int)<(steps.length:Int):=oo
    have hwr2:=hwr;replace CS:=Hd CS;replace hsk:=Hd hsk;replace BG:=Hd BG;replace BF:=Hd BF;go_wp2_with fail;refine CS.out.mono ?_;rintro e w3 ⟨a3,c3,rfl,⟨lq,hR3,hl3,_⟩,hb3⟩;have hw3:=Hd (bth hwr.out hb3);have hO3:=Hd (hO.out.below hb3);have hR3':=Hd hR3.now;rw [<- hl3] at hpl;have hcap:=hR3.now.2.1;have hcap1:=hR3.now.1;rw [<- hl3];clear CS hR3 hb3 z0 z1 y0 y1 lBG lBF hl3;obtain ⟨gk0,rfl⟩:∃ n,n=gk:=⟨_,rfl⟩
    clear hwr;go_wp2
    go_loopg [10] lq.length (fun m q wz=>∃ j:Nat,Hid (j+m=lq.length)/\q=.int .i64 j/\Hid (Below w3.heap.size w3 wz))
    case atStart=>exact ⟨0,by show _=_;omega,rfl,Below.refl _ _⟩
    case round =>
     obtain ⟨j,hmj,rfl,hwz⟩:=hrel;by_cases hlj:j<lq.length
     ·
      obtain ⟨t,ht⟩:=qab hlj;obtain ⟨tb,to_,rfl,tc⟩:=(hR3'.out.ext (xbw hwz.out)).2.2 j t ht;unfold SqE at tc;rw [Nat.mul_one] at tc;have hjI:(j:Int)<(lq.length:Int):=oo
      replace ht:=Hd ht;by_cases hbig:4000<t.n
      ·
       have hd:decide (4000<t.n)=true:=decide_eq_true hbig;have hdI:(4000:Int)<(t.n:Int):=oo
       have hF:=Hd (bth hw2.out (bth hw3.out hwz.out));replace hbig:=Hd hbig;go_wp2;refine bodyPost_ret (v:=.tuple #[.slice none 0 0,.int .i64 4]) (by simp [results,Tryz.results30,go_sem]) rfl ?_;exact ⟨hF.out,.inl ⟨4,by decide,rfl⟩⟩
      ·
       have hd:decide (4000<t.n)=false:=decide_eq_false hbig;have hdI:¬ (4000:Int)<(t.n:Int):=oo
       replace hbig:=Hd hbig;go_wp2;go_roundg (gk-1)
       case rel=>exact ⟨j+1,by have:=hmj.out;show _=_;omega,by go_num,hwz.out⟩
       case measure=>have:=hmj.out;omega
     ·
      have hOz:=Hd (hO3.out.below hwz.out);have hRz:=Hd (hR3'.out.ext (xbw hwz.out));have hwz2:=Hd (bth hw3.out hwz.out);have hlen2:(l++lq).length<=2*(k+1):=by have:=hll.out;rw [List.length_append];omega
      replace hlen2:=Hd hlen2;go_wp2_with (at_builtin;go_must (refine qk2 rfl (.tmp 45) (.tmp 46) 38 rfl Tryz.underlying38 a c rfl hOz.out lq a3 lq.length c3 rfl rfl hRz.out (l++lq) rfl (by have:=hlen2.out;omega) (by have:=hwz2.out.size;omega) ?_);intro a5 c5 w5 ho5 hg5 ha5;have hb5:=qal hwz2.out hOz.out hg5;replace ho5:=Hd ho5;replace hb5:=Hd hb5;clear hg5 ha5);go_roundg (gk0-1)
      case rel=>exact ⟨k+1,a5,c5,l++lq,by have:=hm.out;show _=_;omega,by first | rfl | rw [List.length_append],by go_num,ho5.out,hlen2.out,hb5.out⟩
      case measure=>have:=hm.out;omega
   ·
    have hR:=Hd (OwnPo.reads hO.out);have hF:=Hd (bth hw2.out hwr.out);have hlq:l.length<=16:=by have:=hll.out;have:=hm.out;omega
    replace hlq:=Hd hlq;have hkI:¬ (k:Int)<(steps.length:Int):=oo
    go_wp2;refine bodyPost_ret (v:=.tuple #[.slice a l.length c,.int .i64 0]) (by simp [results,Tryz.results30,go_sem]) rfl ?_;exact ⟨hF.out,.inr ⟨⟨x,hres.out⟩,a,c,l,rfl,hR.out,hlq.out,fun g hg=>Nat.le_trans hw2.out.size (Own.lt hO.out hg).1⟩⟩
end Go.Proofs.YtmdlbpibipnapaaGreat
