/- Rational numbers, integers and strings that came in, opened. -/
import Derived.Test.YtfaalkneigpcnaaGreatDoorIt19
import Derived.Test.YtfaalkneigpcnaaGreatDoorIt18
import Derived.Test.YtfaalkneigpcnaaGreatDoorIt10
import Derived.Deep.LoopGhost
import Derived.Test.YtfaalkneigpcnaaGreatDoorIt3
import Derived.Deep.CutRange
import Derived.Test.YtfaalkneigpcnaaGreatDoorIt16
import Derived.Test.YtfaalkneigpcnaaGreatDoorIt1
import Derived.Test.YtfaalkneigpcnaaGreatDoorRows
set_option linter.all false
set_option maxRecDepth 100000
set_option maxHeartbeats 4000000
namespace Go.Proofs.YtfaalkneigpcnaaGreatDoor
open Go.RowKit
def AllB (m:Int) (L:List Int):Prop:=∀ x∈L,0<=x/\x<=m
theorem AllB.push {m m':Int} {L:List Int} {x:Int} (h:AllB m L) (hm:m<=m') (h0:0<=x) (hx:x<=m'):AllB m' (L++[x]):=fun y hy=>by
 rcases List.mem_append.1 hy with hy | hy
 · have:=h y hy;omega
 · simp at hy;subst hy;exact ⟨h0,hx⟩
theorem qwi {w:World} {aa:Option Addr} {ac:Nat} {args:List Int} {L:List Int} {B:Nat} {a:Option Addr} {c:Nat} {i:Nat} {m:Int} (hA:IntsR w aa ac args) (hin:∀ x∈args,0<=x/\x<(L.length:Int)) (hL:OwnI B w a c L) (hb:AllB m L) (hi:i<args.length) :
  ∃ (ab ao n lb:Nat) (v:Int),aa=some ⟨ab,ao,none⟩/\w.cell? ⟨ab,ao+i,none⟩=some (.int .i64 (n:Int))/\a=some ⟨lb,0,none⟩/\n<L.length/\w.cell? ⟨lb,n,none⟩=some (.int .i64 v)/\0<=v/\v<=m:=by
 obtain ⟨x,hx⟩:=qac hi;obtain ⟨h1,h2⟩:=hin x (List.mem_of_getElem? hx);obtain ⟨ab,ao,e,hc⟩:=hA.2.2 i x hx;obtain ⟨v,hv⟩:=qac (xs:=L) (k:=x.toNat) (by omega);obtain ⟨lb,e2,_,_,hc2⟩:=hL.at_ qf2 hv;have h3:=hb v (List.mem_of_getElem? hv);refine ⟨ab,ao,x.toNat,lb,v,e,?_,e2,by omega,by simpa using hc2 0 _ rfl,h3.1,h3.2⟩;rw [Int.toNat_of_nonneg h1];simpa using hc.1
theorem zz57 {P:Prop} (h:P:=by
 refine qak ?_;rw [ew.out,<- hV.out];refine qab (fun W=>Below wr.heap.size wr W/\wr.heap.size<=W.heap.size) ⟨(Below.refl wr.heap.size wr).drew,nlr _⟩ ?_;rintro wX ⟨hbX,hsX⟩;replace hbX:=Hd hbX;clear z0 z1 zl d0 c0 c1 c2 c3 c4 c5 q0 ez
 -- the append of the number V
 go_wp2_with (at_builtin;go_must (refine qab (fun W=>Blk W wX.heap.size 3 #[.int .i64 (V)]/\Below wX.heap.size wX W) ⟨by ((with_reducible repeat first|assumption|(apply bF;focus omega)|apply bS|(apply bN;focus (simp;done))|apply bA|apply bD);all_goals rfl),by go_grown⟩ ?_);go_must (rintro w2 ⟨hr,hb2⟩);go_must (have hO2:=hO.out.below (bth hbX.out hb2));go_must (refine qfy rfl (.tmp 80) (.tmp 82) rfl _ c (by rw [hLl.out];rfl) hO2 (V) wX.heap.size 1 rfl (hr.cell 0) (L++[V]) rfl (by rw [List.length_append,hLl.out];simp;omega) (by have:=hwr.out.size;have:=hbX.out.size;have:=hb2.size;omega) ?_);intro a3 c3 w3 ho3 hg3 ha3;have hb3:=qaq (bth hwr.out (bth hbX.out hb2)) hO2 hg3;replace ho3:=Hd ho3;replace hb3:=Hd hb3;clear hr hb2 hg3 ha3 hO2);have hln:(L++[V]).length=k+1:=by rw [List.length_append,hLl.out];rfl
 go_roundg (gk-1)
 case rel=>exact ⟨k+1,a3,c3,L++[V],by have:=hm.out;show _=_;omega,by go_num,by first | rfl | (congr 1;simpa using hln),hln,ho3.out,hb3.out,hAll.out.push (hMM.out) hV0.out.1 (by have:=hM3.out;have:=hV0.out.2;omega)⟩
 case measure=>have:=hm.out;omega
 ):P:=h
theorem zz58 {P:Prop} (h:P:=by
 go_wp2;refine wrx (S:=(fun x=>x=wr.drew)) [(0,.q),(1,.q),(2,.q),(3,.q),(4,.q),(5,.q),(6,.q),(7,.q),(8,.q),(9,.q),(10,.q),(11,.q),(12,.q),(13,.q),(14,.q),(15,.q),(16,.q),(17,.q),(18,.q),(19,.p),(20,.p)] (rfl) ?_
 iterate 19 (refine qam rfl rfl fun K hK=>xq ?_;go_simp;refine hK _ _ ?_;clear hK K)
 iterate 2 (refine qav rfl rfl fun K hK=>xp ?_;go_simp;refine hK _ _ ?_;clear hK K)
 exact zz57
 ):P:=h
theorem qmy (steps:List Step) (goals:List Fct) (sa:Option Addr) (sc:Nat) (ga:Option Addr) (gc:Nat) (w:World) (hS:qcl w sa sc steps) (hin:∀ k s,steps[k]? = some s->qh8 s k) (hl:steps.length<=8) :
  Calls Tryz.prog 79 #[.agg #[.slice sa steps.length sc,.slice ga goals.length gc]] w fun e w'=>∃ (L:List Int) (a:Option Addr) (c:Nat),e=.returned (.slice a L.length c)/\L.length=steps.length/\OwnI w.heap.size w' a c L/\Below w.heap.size w w':=by
 have HS:=Hd hS;have hin':=Hd hin;have hlS:=SlR.len hS;clear hS hin;go_enter Tryz.func79,Tryz.ntmps79;go_wp2;refine qab (fun W=>Blk W w.heap.size 25 #[.slice sa steps.length sc,.slice ga goals.length gc]/\Below w.heap.size w W) ⟨by ((with_reducible repeat first|assumption|(apply bF;focus omega)|apply bS|(apply bN;focus (simp;done))|apply bA|apply bD);all_goals rfl),by go_grown⟩ ?_;rintro w0 ⟨h0,hw0⟩;obtain ⟨g,hg⟩:∃ g,w.heap.size=g:=⟨_,rfl⟩
 have h0':Hid (Blk w0 g 25 #[.slice sa steps.length sc,.slice ga goals.length gc]):=Hd (hg ▸ h0);rw [hg];replace hg:=Hd hg
 go_loopg [3,4,5,6,26,41,64] steps.length (fun n s3 s4 _ _ _ _ _ wr=>∃ (k:Nat) (a:Option Addr) (c:Nat) (L:List Int),Hid (k+n=steps.length)/\s4=.int .i64 k/\s3=.slice a k c/\Hid (L.length=k)/\Hid (OwnI w0.heap.size wr a c L)/\Hid (Below w0.heap.size w0 wr)/\Hid (AllB ((4 ^ k:Nat):Int) L))
 case atStart=>exact ⟨0,none,0,[],by show _=_;omega,rfl,rfl,rfl,Own.nil,Below.refl _ _,fun x hx=>by cases hx⟩
 case round =>
  obtain ⟨k,a,c,L,hm,rfl,rfl,hLl,hO,hwr,hAll⟩:=hrel;have h0r:=h0'.out.below' hwr.out;obtain ⟨z0,z1⟩:=cq2 h0r;have zl:=h0r.lt;by_cases hlt:k<steps.length
  ·
   obtain ⟨s,hs⟩:=qac hlt;obtain ⟨b,o,rfl,p,hC,hP,hki,hsz⟩:=((HS.out.ext (xbw hw0)).ext (xbw hwr.out)).2.2 k s hs;obtain ⟨c0,c1,c2,c3,c4,c5⟩:=hC;obtain ⟨g1,g2,g3,g4,_⟩:=hin'.out k s hs;have hbl:b<wr.heap.size:=World.block_lt_of_cell? wr _ c0;have hAl:=hP.1.len;have hM1:1<=4 ^ k:=Nat.pow_pos (show 0<4 by omega);have hM2:4 ^ k<=65536:=Nat.le_trans (Nat.pow_le_pow_right (by omega) (show k<=8 by omega)) (by decide);have hMM0:4 ^ (k+1)=4 ^ k*4:=Nat.pow_succ ..;have hin2:∀ x∈s.args,0<=x/\x<(L.length:Int):=fun x hx=>by rw [hLl.out];exact g4 x hx
   have AT:=fun i (hi:i<s.args.length)=>qwi hP.1 hin2 hO.out hAll.out hi
   revert hM1 hM2 hMM0 AT hAll;generalize 4 ^ k=M;intro hAll hM1 hM2 hMM0 AT;have hMM:=Hd (show (M:Int)<=((4 ^ (k+1):Nat):Int) by rw [hMM0];omega);have hM3:=Hd (show 3*(M:Int)<=((4 ^ (k+1):Nat):Int) by rw [hMM0];omega);replace hs:=Hd hs;replace hP:=Hd hP;replace hin2:=Hd hin2;replace g4:=Hd g4;replace AT:=Hd AT;replace hm:=hm;replace hki:=Hd hki;clear hMM0 h0r;have ez:wr.heap.size<=wr.drew.heap.size:=nlr _;by_cases e2:s.kind=2
   ·
    have k2:(s.kind==2)=true:=by rw [e2];rfl
    have hn0:1<s.args.length:=by rw [e2] at g3;exact g3
    have hnZ:0<s.args.length:=by omega
    have hnJ:(0:Int)<(s.args.length:Int):=by omega
    have hnI:(1:Int)<(s.args.length:Int):=by omega
    obtain ⟨ab,ao,n0,lb,v0,hap,d0,rfl,n0l,q0,v0a,v0b⟩:=AT.out 0 (by omega);obtain ⟨ab',ao',n1,lb',v1,hap',d1,hlb,n1l,q1,v1a,v1b⟩:=AT.out 1 (by omega);rw [hap] at hap';injection hap' with hap';injection hap' with x1 x2
    injection hlb with hlb;injection hlb with x3
    subst x1 x2 x3;rw [hap] at c2;rw [hLl.out] at n0l n1l;rw [Nat.add_zero] at d0;have ew:IntKind.i64.wrap (v0+v1)=v0+v1:=by exact IntWalk.i64_in _ (by omega)
    obtain ⟨V,hV⟩:∃ V:Int,V=v0+v1:=⟨_,rfl⟩
    have hV0:0<=V/\V<=3*M:=by omega
    replace hV:=Hd hV;replace ew:=Hd ew;replace hV0:=Hd hV0;clear hap AT e2;go_wp2;refine wrx (S:=(fun x=>x=wr.drew)) [(0,.q),(1,.q),(2,.q),(3,.q),(4,.q),(5,.q),(6,.q),(7,.q),(8,.q),(9,.q),(10,.q),(11,.q),(12,.p),(13,.p)] (rfl) ?_
    iterate 12 (refine qam rfl rfl fun K hK=>xq ?_;go_simp;refine hK _ _ ?_;clear hK K)
    iterate 2 (refine qav rfl rfl fun K hK=>xp ?_;go_simp;refine hK _ _ ?_;clear hK K)
    exact zz57
   have k2:(s.kind==2)=false:=by simpa using e2
   by_cases e3:s.kind=3
   ·
    have k3:(s.kind==3)=true:=by rw [e3];rfl
    have hn0:2<s.args.length:=by rw [e3] at g3;exact g3
    have hnZ:0<s.args.length:=by omega
    have hnJ:(0:Int)<(s.args.length:Int):=by omega
    have hnI:(1:Int)<(s.args.length:Int):=by omega
    have hnK:(2:Int)<(s.args.length:Int):=by omega
    obtain ⟨ab,ao,n0,lb,v0,hap,d0,rfl,n0l,q0,v0a,v0b⟩:=AT.out 0 (by omega);obtain ⟨ab',ao',n1,lb',v1,hap',d1,hlb,n1l,q1,v1a,v1b⟩:=AT.out 1 (by omega);rw [hap] at hap';injection hap' with hap';injection hap' with x1 x2
    injection hlb with hlb;injection hlb with x3
    subst x1 x2 x3;obtain ⟨ab',ao',n2,lb',v2,hap',d2,hlb,n2l,q2,v2a,v2b⟩:=AT.out 2 (by omega);rw [hap] at hap';injection hap' with hap';injection hap' with x1 x2
    injection hlb with hlb;injection hlb with x3
    subst x1 x2 x3;rw [hap] at c2;rw [hLl.out] at n0l n1l n2l;rw [Nat.add_zero] at d0;have ew:IntKind.i64.wrap (IntKind.i64.wrap (v0+v1)+v2)=v0+v1+v2:=by rw [IntWalk.i64_in (v0+v1) (by omega)];exact IntWalk.i64_in _ (by omega)
    obtain ⟨V,hV⟩:∃ V:Int,V=v0+v1+v2:=⟨_,rfl⟩
    have hV0:0<=V/\V<=3*M:=by omega
    replace hV:=Hd hV;replace ew:=Hd ew;replace hV0:=Hd hV0;clear hap AT e3 e2;exact zz58
   have k3:(s.kind==3)=false:=by simpa using e3
   by_cases e4:s.kind=4
   ·
    have k4:(s.kind==4)=true:=by rw [e4];rfl
    have hn0:2<s.args.length:=by rw [e4] at g3;exact g3
    have hnZ:0<s.args.length:=by omega
    have hnJ:(0:Int)<(s.args.length:Int):=by omega
    have hnI:(1:Int)<(s.args.length:Int):=by omega
    have hnK:(2:Int)<(s.args.length:Int):=by omega
    obtain ⟨ab,ao,n0,lb,v0,hap,d0,rfl,n0l,q0,v0a,v0b⟩:=AT.out 0 (by omega);obtain ⟨ab',ao',n1,lb',v1,hap',d1,hlb,n1l,q1,v1a,v1b⟩:=AT.out 1 (by omega);rw [hap] at hap';injection hap' with hap';injection hap' with x1 x2
    injection hlb with hlb;injection hlb with x3
    subst x1 x2 x3;obtain ⟨ab',ao',n2,lb',v2,hap',d2,hlb,n2l,q2,v2a,v2b⟩:=AT.out 2 (by omega);rw [hap] at hap';injection hap' with hap';injection hap' with x1 x2
    injection hlb with hlb;injection hlb with x3
    subst x1 x2 x3;rw [hap] at c2;rw [hLl.out] at n0l n1l n2l;rw [Nat.add_zero] at d0;have ew:IntKind.i64.wrap (IntKind.i64.wrap (v0+v1)+v2)=v0+v1+v2:=by rw [IntWalk.i64_in (v0+v1) (by omega)];exact IntWalk.i64_in _ (by omega)
    obtain ⟨V,hV⟩:∃ V:Int,V=v0+v1+v2:=⟨_,rfl⟩
    have hV0:0<=V/\V<=3*M:=by omega
    replace hV:=Hd hV;replace ew:=Hd ew;replace hV0:=Hd hV0;clear hap AT e4 e3 e2;exact zz58
   have k4:(s.kind==4)=false:=by simpa using e4
   by_cases e5:s.kind=5
   ·
    have k5:(s.kind==5)=true:=by rw [e5];rfl
    have hn0:1<s.args.length:=by rw [e5] at g3;exact g3
    have hnZ:0<s.args.length:=by omega
    have hnJ:(0:Int)<(s.args.length:Int):=by omega
    have hnI:(1:Int)<(s.args.length:Int):=by omega
    obtain ⟨ab,ao,n0,lb,v0,hap,d0,rfl,n0l,q0,v0a,v0b⟩:=AT.out 0 (by omega);obtain ⟨ab',ao',n1,lb',v1,hap',d1,hlb,n1l,q1,v1a,v1b⟩:=AT.out 1 (by omega);rw [hap] at hap';injection hap' with hap';injection hap' with x1 x2
    injection hlb with hlb;injection hlb with x3
    subst x1 x2 x3;rw [hap] at c2;rw [hLl.out] at n0l n1l;rw [Nat.add_zero] at d0;have ew:IntKind.i64.wrap (IntKind.i64.wrap (2*v0)+v1)=2*v0+v1:=by rw [IntWalk.i64_in (2*v0) (by omega)];exact IntWalk.i64_in _ (by omega)
    obtain ⟨V,hV⟩:∃ V:Int,V=2*v0+v1:=⟨_,rfl⟩
    have hV0:0<=V/\V<=3*M:=by omega
    replace hV:=Hd hV;replace ew:=Hd ew;replace hV0:=Hd hV0;clear hap AT e5 e4 e3 e2;go_wp2;refine wrx (S:=(fun x=>x=wr.drew)) [(0,.q),(1,.q),(2,.q),(3,.q),(4,.q),(5,.q),(6,.q),(7,.q),(8,.q),(9,.q),(10,.q),(11,.q),(12,.q),(13,.p),(14,.p)] (rfl) ?_
    iterate 13 (refine qam rfl rfl fun K hK=>xq ?_;go_simp;refine hK _ _ ?_;clear hK K)
    iterate 2 (refine qav rfl rfl fun K hK=>xp ?_;go_simp;refine hK _ _ ?_;clear hK K)
    exact zz57
   have k5:(s.kind==5)=false:=by simpa using e5
   obtain ⟨V,hV⟩:∃ V:Int,V=1:=⟨_,rfl⟩
   have hV0:Hid (0<=V/\V<=3*(M:Int)):=Hd (by omega);clear e2 e3 e4 e5 AT;subst hV
   -- the append of the number 1
   go_wp2_with (at_builtin;go_must (refine qab (fun W=>Blk W wr.heap.size 3 #[.int .i64 (1)]/\Below wr.heap.size wr W) ⟨by ((with_reducible repeat first|assumption|(apply bF;focus omega)|apply bS|(apply bN;focus (simp;done))|apply bA|apply bD);all_goals rfl),by go_grown⟩ ?_);go_must (rintro w2 ⟨hr,hb2⟩);go_must (have hO2:=hO.out.below (bth (Below.refl wr.heap.size wr) hb2));go_must (refine qfy rfl (.tmp 80) (.tmp 82) rfl _ c (by rw [hLl.out];rfl) hO2 (1) wr.heap.size 1 rfl (hr.cell 0) (L++[1]) rfl (by rw [List.length_append,hLl.out];simp;omega) (by have:=hwr.out.size;have:=(Below.refl wr.heap.size wr).size;have:=hb2.size;omega) ?_);intro a3 c3 w3 ho3 hg3 ha3;have hb3:=qaq (bth hwr.out (bth (Below.refl wr.heap.size wr) hb2)) hO2 hg3;replace ho3:=Hd ho3;replace hb3:=Hd hb3;clear hr hb2 hg3 ha3 hO2);have hln:(L++[1]).length=k+1:=by rw [List.length_append,hLl.out];rfl
   go_roundg (gk-1)
   case rel=>exact ⟨k+1,a3,c3,L++[1],by have:=hm.out;show _=_;omega,by go_num,by first | rfl | (congr 1;simpa using hln),hln,ho3.out,hb3.out,hAll.out.push (hMM.out) hV0.out.1 (by have:=hM3.out;have:=hV0.out.2;omega)⟩
   case measure=>have:=hm.out;omega
  ·
   have hkn:k=steps.length:=by have:=hm.out;omega
   have hkn':=Hd hkn;clear hkn;go_wp2;refine bodyPost_ret (v:=.slice a k c) (by simp [results,Tryz.results79,go_sem]) rfl ?_;exact ⟨L,a,c,by rw [hLl.out],hLl.out.trans hkn'.out,hO.out.base hw0.size,bth hw0 hwr.out⟩
def ql1 (f:Fct) (n:Nat):Prop:=∀ x∈f.args,0<=x/\x<(n:Int)
def RetBo (w:World) (e:Ending) (w':World):Prop:=(∃ b,e=.returned (.bool b))/\Below w.heap.size w w'
theorem RetBo.of {w w':World} (b:Bool) (h:Below w.heap.size w w'):RetBo w (.returned (.bool b)) w':=⟨⟨b,rfl⟩,h⟩
theorem qkx {n:Nat}:∀ {l:List Fct},qb9 n l=0->∀ g∈l,ql1 g n
 | [],_,g,hg=>by cases hg
 | f :: r,h,g,hg=>by
  unfold qb9 at h;by_cases h0:qch f n=0
  ·
   rw [if_neg (by simpa using h0)] at h;rcases List.mem_cons.1 hg with rfl | hg
   ·
    intro x hx;have h1:g.args.any (qay n)=false:=by
     unfold qch at h0;by_cases e1:qbv g.kind=0
     · rw [if_pos e1] at h0;simp at h0
     ·
      rw [if_neg e1] at h0;by_cases e2:(g.args.length:Int)≠qbv g.kind
      · rw [if_pos e2] at h0;simp at h0
      ·
       rw [if_neg e2] at h0;by_cases e3:g.args.any (qay n)=true
       · rw [if_pos e3] at h0;simp at h0
       · simpa using e3
    rw [List.any_eq_false] at h1;have h2:=h1 x hx;unfold qay at h2;rw [decide_eq_true_eq] at h2
    omega
   · exact qkx h g hg
  · rw [if_pos h0] at h;exact absurd h h0
theorem qrv {f:Fig} (h:f.err=0):∀ g∈f.goals,ql1 g f.steps.length:=by
 unfold Fig.err at h;have h1:¬ (40<f.steps.length\/8<f.goals.length):=fun h1=>by rw [if_pos h1] at h;simp at h
 rw [if_neg h1] at h;by_cases h2:qbe f.steps f.steps 0≠0
 · rw [if_pos h2] at h;exact absurd h h2
 · rw [if_neg h2] at h;exact qkx h
theorem zz59 {P:Prop} (h:P:=by
 go_wp2;go_roundg (gk-1)
 case rel=>exact ⟨i+1,by have:=hmi.out;show _=_;omega,by go_num,hwi.out⟩
 case measure=>have:=hmi.out;omega
 ):P:=h
theorem zz60 {P:Prop} (h:P:=by
 go_wp2;refine bodyPost_ret (v:=.bool false) (by simp [results,Tryz.results37,go_sem]) rfl ?_;exact RetBo.of _ hw'.out
 ):P:=h
theorem qua (steps:List Step) (goals:List Fct) (sa:Option Addr) (sc:Nat) (ga:Option Addr) (gc:Nat) (w:World) (hS:qcl w sa sc steps) (hG:FctsR w ga gc goals) (hin:∀ k s,steps[k]? = some s->qh8 s k) (hl:steps.length<=8) (hgl:∀ g∈goals,ql1 g steps.length) :
  Calls Tryz.prog 37 #[.agg #[.slice sa steps.length sc,.slice ga goals.length gc]] w (RetBo w):=by
 have CW:=Hd (fun W (hW:Below w.heap.size w W)=>qmy steps goals sa sc ga gc W (hS.ext (xbw hW)) hin hl);have HG:=Hd hG;have hgl2:=SlR.len hG;replace hgl:=Hd hgl;clear hS hG hin;go_enter Tryz.func37,Tryz.ntmps37;go_wp2_with fail;refine qad (fun W=>Blk W w.heap.size 25 #[.slice sa steps.length sc,.slice ga goals.length gc]/\Below w.heap.size w W) ⟨by ((with_reducible repeat first|assumption|(apply bF;focus omega)|apply bS|(apply bN;focus (simp;done))|apply bA|apply bD);all_goals rfl),by go_grown⟩ ?_;rintro w0 ⟨h0,hw0⟩;refine (CW.out w0 hw0).mono ?_;rintro e w1 ⟨L,la,lc,rfl,hLl,hO,hb1⟩;have hw1:=bth hw0 hb1;replace h0:=h0.below' hb1;have hs0:=hw0.size;obtain ⟨g,hg⟩:∃ g,w.heap.size=g:=⟨_,rfl⟩
 have h0':Hid (Blk w1 g 25 #[.slice sa steps.length sc,.slice ga goals.length gc]):=Hd (hg ▸ h0);have hLL:L.length<=100:=by omega
 rw [hg];replace hg:=Hd hg;replace hLl:=Hd hLl;replace hO:=Hd hO;replace hw1:=Hd hw1;clear CW h0 hw0 hb1;go_wp2
 go_loopg [4] L.length (fun n s4 wr=>∃ k:Nat,Hid (k+n=L.length)/\s4=.int .i64 k/\Hid (Below w1.heap.size w1 wr))
 case atStart=>exact ⟨0,by show _=_;omega,rfl,Below.refl _ _⟩
 case round =>
  obtain ⟨k,hm,rfl,hwr⟩:=hrel;by_cases hlt:k<L.length
  ·
   obtain ⟨v,hv⟩:=qac hlt;obtain ⟨lb,rfl,_,_,hc⟩:=(hO.out.below hwr.out).at_ qf2 hv;have c0:wr.cell? ⟨lb,k,none⟩=some (.int .i64 v):=by simpa using hc 0 _ rfl
   have hkI:(k:Int)<(L.length:Int):=by omega
   replace hv:=Hd hv;clear hc;by_cases h8:8<v
   ·
    have hd:=decide_eq_true h8;have hw':=bth hw1.out hwr.out;replace hw':=Hd hw';replace h8:=Hd h8;exact zz60
   ·
    have hd:=decide_eq_false h8;replace h8:=Hd h8;go_wp2;go_roundg (gk-1)
    case rel=>exact ⟨k+1,by have:=hm.out;show _=_;omega,by go_num,hwr.out⟩
    case measure=>have:=hm.out;omega
  ·
   have hw2:=Hd hwr.out;obtain ⟨gk0,rfl⟩:∃ n,n=gk:=⟨_,rfl⟩
   obtain ⟨wo,rfl⟩:∃ wo:World,wo=wr:=⟨_,rfl⟩
   clear hwr hm;go_wp2
   go_loopg [5,6,7] goals.length (fun n s5 _ _ wr=>∃ k:Nat,Hid (k+n=goals.length)/\s5=.int .i64 k/\Hid (Below w1.heap.size w1 wr))
   case atStart=>exact ⟨0,by show _=_;omega,rfl,hw2.out⟩
   case round =>
    obtain ⟨j,hm,rfl,hwr⟩:=hrel;have h0r:=h0'.out.below' hwr.out;have z1:=h0r.cell 1;have zl:=h0r.lt;by_cases hlj:j<goals.length
    ·
     obtain ⟨f,hf⟩:=qac hlj;obtain ⟨fb,fo,rfl,p,⟨c0,c1,c2,c3,c4⟩,hP,hki⟩:=((HG.out.ext (xbw hw1.out)).ext (xbw hwr.out)).2.2 j f hf;obtain ⟨kind,args,ratio⟩:=f;obtain ⟨aa,ac,na,nc,da,dc⟩:=p;dsimp only at c0 c1 c2 c3 c4 hP hki;have hgi:∀ x∈args,0<=x/\x<(L.length:Int):=fun x hx=>by rw [hLl.out];exact hgl.out _ (List.mem_of_getElem? hf) x hx
     have hfl:fb<wo.heap.size\/True:=.inr trivial;have hal:=hP.1.len;have hdj:decide ((j:Int)<(goals.length:Int))=true:=decide_eq_true (by omega);replace hgi:=Hd hgi;replace hP:=Hd hP;replace hf:=Hd hf;replace hki:=Hd hki;replace h0r:=Hd h0r;clear hfl;go_wp2;refine qab (fun W=>Blk W wr.heap.size 86 #[.int .i64 kind,.slice aa args.length ac,.bool ratio.neg,.slice na ratio.num.length nc,.slice da ratio.den.length dc]/\Below wr.heap.size wr W/\wr.heap.size<W.heap.size) ⟨by ((with_reducible repeat first|assumption|(apply bF;focus omega)|apply bS|(apply bN;focus (simp;done))|apply bA|apply bD);all_goals rfl),by go_grown,by simp⟩ ?_;rintro w3 ⟨b3,hb3,hl3⟩;obtain ⟨gF,hgF⟩:∃ g,wr.heap.size=g:=⟨_,rfl⟩
     have b3':Hid (Blk w3 gF 86 #[.int .i64 kind,.slice aa args.length ac,.bool ratio.neg,.slice na ratio.num.length nc,.slice da ratio.den.length dc]):=Hd (hgF ▸ b3);simp only [hgF];have hw3:=Hd (bth hwr.out hb3);have hP3:=Hd (hP.out.1.ext (xbw hb3));have hO3:=Hd (hO.out.below (bth hwr.out hb3));replace hgF:=Hd hgF;obtain ⟨gk1,rfl⟩:∃ n,n=gk:=⟨_,rfl⟩
     obtain ⟨wq,rfl⟩:∃ wo:World,wo=wr:=⟨_,rfl⟩
     clear b3 hb3 hl3 z1 zl c0 c1 c2 c3 c4
     go_loopg [7] args.length (fun n s7 wr=>∃ i:Nat,Hid (i+n=args.length)/\s7=.int .i64 i/\Hid (Below w3.heap.size w3 wr))
     case atStart=>exact ⟨0,by show _=_;omega,rfl,Below.refl _ _⟩
     case round =>
      clear hwr;obtain ⟨i,hmi,rfl,hwi⟩:=hrel;have b3r:=b3'.out.below' hwi.out;obtain ⟨y0,y1⟩:=cq2 b3r;have yl:=b3r.lt;have hw':=Hd (bth hw1.out (bth hw3.out hwi.out));have hw'':=Hd (bth hw3.out hwi.out);by_cases hli:i<args.length
      ·
       obtain ⟨x,hx⟩:=qac hli;obtain ⟨hx0,hx1⟩:=hgi.out x (List.mem_of_getElem? hx);obtain ⟨ab,ao,rfl,hc⟩:=hP3.out.2.2 i x hx;have d0:=held hc.1 wr hwi.out;obtain ⟨n,rfl⟩:∃ n:Nat,x=(n:Int):=⟨x.toNat,by omega⟩
       obtain ⟨v,hv⟩:=qac (xs:=L) (k:=n) (by omega);obtain ⟨lb,rfl,_,_,hc2⟩:=(hO3.out.below hwi.out).at_ qf2 hv;have q0:wr.cell? ⟨lb,n,none⟩=some (.int .i64 v):=by simpa using hc2 0 _ rfl
       simp only [Nat.mul_one] at d0;have hiI:(i:Int)<(args.length:Int):=by omega
       have hnI:((n:Nat):Int)<(L.length:Int):=by omega
       replace hx:=Hd hx;replace hv:=Hd hv;replace b3r:=Hd b3r;clear hc hc2 hx0 hx1;have hkk:(kind=6\/kind=7)\/(¬ kind=6/\¬ kind=7):=by omega
       rcases hkk with hk6 | ⟨hk6,hk7⟩
       ·
        have hkb:((kind==6)=true)\/((kind==6)=false/\(kind==7)=true):=by
         rcases hk6 with rfl | rfl
         · exact .inl rfl
         · exact .inr ⟨rfl,rfl⟩
        clear hk6;by_cases h3:3<v
        ·
         have hd3:=decide_eq_true h3;replace h3:=Hd h3;rcases hkb with hkb | ⟨hkb,hkc⟩
         ·
          exact zz60
         ·
          exact zz60
        ·
         have hd3:=decide_eq_false h3;replace h3:=Hd h3;rcases hkb with hkb | ⟨hkb,hkc⟩
         ·
          exact zz59
         ·
          exact zz59
       ·
        have hkb:(kind==6)=false:=by simpa using hk6
        have hkc:(kind==7)=false:=by simpa using hk7
        clear hk6 hk7;exact zz59
      ·
       go_wp2;go_roundg (gk1-1)
       case rel=>exact ⟨j+1,by have:=hm.out;show _=_;omega,by go_num,hw''.out⟩
       case measure=>have:=hm.out;omega
    ·
     have hw':=Hd (bth hw1.out hwr.out);go_wp2;refine bodyPost_ret (v:=.bool true) (by simp [results,Tryz.results37,go_sem]) rfl ?_;exact RetBo.of _ hw'.out
def Fig.small (f:Fig):Prop:=f.steps.length<=8/\f.goals.length<=3/\f.err=0/\∀ s∈f.steps,s.ratio.num.length<=2/\s.ratio.den.length<=2
def qed (f:Fig) (w:World) (e:Ending) (w':World):Prop:=∃ b:Bool,e=.returned (.bool b)/\(b=true->f.small)/\Below w.heap.size w w'
theorem qed.no {f:Fig} {w w':World} (h:Below w.heap.size w w'):qed f w (.returned (.bool false)) w':=⟨false,rfl,fun h=>(by cases h),h⟩
theorem zz61 {P:Prop} (h:P:=by
 go_wp2;refine bodyPost_ret (v:=.bool false) (by simp [results,Tryz.results17,go_sem]) rfl ?_;exact qed.no hw'.out
 ):P:=h
theorem zz62 {P:Prop} (h:P:=by
 go_enter Tryz.func17,Tryz.ntmps17;go_wp2;refine bodyPost_ret (v:=.bool false) (by simp [results,Tryz.results17,go_sem]) rfl ?_;exact qed.no hb0.out
 ):P:=h
theorem qse (steps:List Step) (goals:List Fct) (sa:Option Addr) (sc:Nat) (ga:Option Addr) (gc:Nat) (w:World) (h:FigR w sa sc ga gc ⟨steps,goals⟩) (hq:Fig.few ⟨steps,goals⟩) :
  Calls Tryz.prog 17 #[.agg #[.slice sa steps.length sc,.slice ga goals.length gc]] w (qed ⟨steps,goals⟩ w):=by
 have CR:=Hd (fun W (hW:Below w.heap.size w W)=>qna ⟨steps,goals⟩ sa sc ga gc W ⟨h.1.ext (xbw hW),h.2.ext (xbw hW)⟩ hq);have HS:=Hd h.1;have HG:=Hd h.2;have l1:=SlR.len h.1;have l2:=SlR.len h.2;unfold Fig.val at CR;dsimp only at CR l1 l2;have hz0:Blk (w.alloc (.cells #[.slice sa steps.length sc,.slice ga goals.length gc] 25)) w.heap.size 25 #[.slice sa steps.length sc,.slice ga goals.length gc]:=Blk.new w _ _;have hb0:Below w.heap.size w (w.alloc (.cells #[.slice sa steps.length sc,.slice ga goals.length gc] 25)):=by go_grown
 obtain ⟨er,her⟩:∃ er,Fig.err ⟨steps,goals⟩=er:=⟨_,rfl⟩
 rw [her] at CR;replace her:=Hd her;replace hz0:=Hd hz0;replace hb0:=Hd hb0;clear h hq;by_cases h8:steps.length<=8
 ·
  by_cases h3:goals.length<=3
  ·
   go_enter Tryz.func17,Tryz.ntmps17;go_wp2_with fail;refine qad (fun W=>Blk W w.heap.size 25 #[.slice sa steps.length sc,.slice ga goals.length gc]/\Below w.heap.size w W) ⟨by ((with_reducible repeat first|assumption|(apply bF;focus omega)|apply bS|(apply bN;focus (simp;done))|apply bA|apply bD);all_goals rfl),by go_grown⟩ ?_;rintro w0 ⟨h0,hw0⟩;refine (CR.out w0 hw0).mono ?_;rintro e w1 ⟨rfl,hb1⟩;have hw1:=bth hw0 hb1;replace h0:=h0.below' hb1;clear CR hw0 hb1;by_cases he:er=0
   ·
    subst he;have hE:=her.out;have CT:=Hd (fun W (hW:Below w1.heap.size w1 W)=>qua steps goals sa sc ga gc W (HS.out.ext (xbw (bth hw1 hW))) (HG.out.ext (xbw (bth hw1 hW))) (fun k s hs=>(qe2 hE).2 k s hs) h8 (qrv hE));obtain ⟨z0,z1⟩:=cq2 h0;have zl:=h0.lt;replace hE:=Hd hE;go_wp2_with fail;refine (CT.out w1 brf).mono ?_;rintro e w2 ⟨⟨b,rfl⟩,hb2⟩;have hw2:=bth hw1 hb2;replace h0:=h0.below' hb2;obtain ⟨g,hg⟩:∃ g,w.heap.size=g:=⟨_,rfl⟩
    have h0':Hid (Blk w2 g 25 #[.slice sa steps.length sc,.slice ga goals.length gc]):=Hd (hg ▸ h0);simp only [hg];replace hg:=Hd hg;replace hw2:=Hd hw2;clear CT hb2 z0 z1 zl h0 hw1
    cases b
    ·
     go_wp2;refine bodyPost_ret (v:=.bool false) (by simp [results,Tryz.results17,go_sem]) rfl ?_;exact qed.no hw2.out
    ·
     obtain ⟨z0,z1⟩:=cq2 h0'.out;have zl:=h0'.out.lt;go_wp2
     go_loopg [3] steps.length (fun n s3 wr=>∃ k:Nat,Hid (k+n=steps.length)/\s3=.int .i64 k/\Hid (∀ (i:Nat) (s:Step),i<k->steps[i]? = some s->s.ratio.num.length<=2/\s.ratio.den.length<=2)/\Hid (Below w2.heap.size w2 wr))
     case atStart=>exact ⟨0,by show _=_;omega,rfl,fun i s hi=>absurd hi (by omega),Below.refl _ _⟩
     case round =>
      clear z0 z1 zl;obtain ⟨k,hm,rfl,hall,hwr⟩:=hrel;have h0r:=h0'.out.below' hwr.out;obtain ⟨z0,z1⟩:=cq2 h0r;have zl:=h0r.lt;have hw':=Hd (bth hw2.out hwr.out);replace h0r:=Hd h0r;by_cases hlt:k<steps.length
      ·
       obtain ⟨s,hs⟩:=qac hlt;obtain ⟨b,o,rfl,p,⟨c0,c1,c2,c3,c4,c5⟩,hP,hki,_⟩:=(HS.out.ext (xbw hw'.out)).2.2 k s hs;have p1:=hP.2.1.len;have p2:=hP.2.2.len;have hs':=Hd hs;replace hP:=Hd hP;clear hs;by_cases b1:s.ratio.num.length<=2
       ·
        by_cases b2:s.ratio.den.length<=2
        ·
         have hnx:=Hd (show ∀ (i:Nat) (t:Step),i<k+1->steps[i]? = some t->t.ratio.num.length<=2/\t.ratio.den.length<=2 from fun i t hi ht=>by
          by_cases hik:i=k
          ·
           subst hik;rw [hs'.out] at ht;injection ht with ht
           subst ht;exact ⟨b1,b2⟩
          · exact hall.out i t (by omega) ht)
         go_wp2;go_roundg (gk-1)
         case rel=>exact ⟨k+1,by have:=hm.out;show _=_;omega,by go_num,hnx.out,hwr.out⟩
         case measure=>have:=hm.out;omega
        ·
         exact zz61
       ·
        exact zz61
      ·
       have hall2:=Hd (show ∀ s∈steps,s.ratio.num.length<=2/\s.ratio.den.length<=2 from fun s hs=>by
        obtain ⟨i,hi⟩:=List.getElem?_of_mem hs;exact hall.out i s (by have:=qaw hi;have:=hm.out;omega) hi)
       have hsm:=Hd (show Fig.small ⟨steps,goals⟩ from ⟨h8,h3,hE.out,hall2.out⟩);obtain ⟨gk0,rfl⟩:∃ n,n=gk:=⟨_,rfl⟩
       obtain ⟨wo,rfl⟩:∃ wo:World,wo=wr:=⟨_,rfl⟩
       have hwo:=Hd hwr.out;clear hm hall hwr hall2;go_wp2
       go_loopg [4] goals.length (fun n s4 wr=>∃ k:Nat,Hid (k+n=goals.length)/\s4=.int .i64 k/\Hid (Below w2.heap.size w2 wr))
       case atStart=>exact ⟨0,by show _=_;omega,rfl,hwo.out⟩
       case round =>
        clear z0 z1 zl hw' h0r;obtain ⟨j,hm,rfl,hwr⟩:=hrel;have h0r:=h0'.out.below' hwr.out;obtain ⟨z0,z1⟩:=cq2 h0r;have zl:=h0r.lt;have hw':=Hd (bth hw2.out hwr.out);replace h0r:=Hd h0r;by_cases hlj:j<goals.length
        ·
         obtain ⟨f,hf⟩:=qac hlj;obtain ⟨b,o,rfl,p,⟨c0,c1,c2,c3,c4⟩,hP,hki⟩:=(HG.out.ext (xbw hw'.out)).2.2 j f hf;have p1:=hP.2.1.len;have p2:=hP.2.2.len;replace hf:=Hd hf;replace hP:=Hd hP;by_cases b1:f.ratio.num.length<=2
         ·
          by_cases b2:f.ratio.den.length<=2
          ·
           go_wp2;go_roundg (gk-1)
           case rel=>exact ⟨j+1,by have:=hm.out;show _=_;omega,by go_num,hwr.out⟩
           case measure=>have:=hm.out;omega
          ·
           exact zz61
         ·
          exact zz61
        ·
         go_wp2;refine bodyPost_ret (v:=.bool true) (by simp [results,Tryz.results17,go_sem]) rfl ?_;exact ⟨true,rfl,fun _=>hsm.out,hw'.out⟩
   ·
    have hne:(er != 0)=true:=by simpa using he
    obtain ⟨z0,z1⟩:=cq2 h0;have zl:=h0.lt;replace he:=Hd he;go_wp2;refine bodyPost_ret (v:=.bool false) (by simp [results,Tryz.results17,go_sem]) rfl ?_;exact qed.no hw1
  ·
   exact zz62
 ·
  exact zz62
theorem qsi (f:Fig) (sa:Option Addr) (sc:Nat) (ga:Option Addr) (gc:Nat) (w:World) (h:FigR w sa sc ga gc f) (hq:f.few) :
  Calls Tryz.prog 6 #[f.val sa sc ga gc] w (qed f w):=by
 obtain ⟨steps,goals⟩:=f;have CF:=Hd (fun W (hW:Below w.heap.size w W)=>qse steps goals sa sc ga gc W ⟨h.1.ext (xbw hW),h.2.ext (xbw hW)⟩ hq);unfold Fig.val;dsimp only;clear h hq;go_enter Tryz.func6,Tryz.ntmps6;go_wp2_with fail;refine qad (fun W=>Below w.heap.size w W) (by go_grown) ?_;intro w0 hw0;refine (CF.out w0 hw0).mono ?_;rintro e w1 ⟨b,rfl,hb,hb1⟩;have hw1:=bth hw0 hb1;replace hb:=Hd hb;go_wp2;refine bodyPost_ret (v:=.bool b) (by simp [results,Tryz.results6,go_sem]) rfl ?_;exact ⟨b,rfl,hb.out,hw1⟩
def RtsR (w:World) (a:Option Addr) (c:Nat) (l:List Rt):Prop:=SlR 3 (fun V b o r=>∃ z,qep V b o z/\RtZ V r z) w a c l
theorem RtsR.ext {w w':World} {a:Option Addr} {c:Nat} {l:List Rt} (h:RtsR w a c l) (e:Ext w w'):RtsR w' a c l:=SlR.mono h fun _ _ _ _ ⟨z,h1,h2⟩=>⟨z,h1.ext e,h2.ext e⟩
theorem qg0 {r:Rt} {z:QA} {w:World} (h:RtZ w r z) (hf:r.few2):Calls Tryz.prog 44 #[.agg #[.bool z.neg,.slice z.a z.n z.c,.slice z.b z.m z.d]] w fun e w'=>e=.returned (.bool r.right)/\Below w.heap.size w w':=by
 obtain ⟨neg,n,a,c,m,b,d⟩:=z;obtain ⟨e1,e2,e3,h1,h2⟩:=h;dsimp only at e1 e2 e3 h1 h2 ⊢;subst e1 e2 e3;exact qfd r a c b d w h1 h2 hf.1 hf.2
theorem zz66 {P:Prop} (h:P:=by
 go_wp2;refine bodyPost_ret (v:=.bool false) (by simp [results,Tryz.results23,go_sem]) rfl ?_;exact RetBo.of _ hwr.out
 ):P:=h
theorem qps (l:List Rt) (a:Option Addr) (c:Nat) (w:World) (h:RtsR w a c l) (hf:∀ r∈l,r.few2) :
  Calls Tryz.prog 23 #[.slice a l.length c] w (RetBo w):=by
 have HL:=Hd h;have hlen:=SlR.len h;replace hf:=Hd hf;clear h;go_enter Tryz.func23,Tryz.ntmps23;by_cases h12:12<l.length
 ·
  have h12I:(12:Int)<(l.length:Int):=by omega
  go_wp2;refine bodyPost_ret (v:=.bool false) (by simp [results,Tryz.results23,go_sem]) rfl ?_;exact RetBo.of _ brf
 ·
  have h12I:¬ (12:Int)<(l.length:Int):=by omega
  obtain ⟨wo,rfl⟩:∃ wo:World,wo=w:=⟨_,rfl⟩
  go_wp2
  go_loopg [3] l.length (fun n s3 wr=>∃ k:Nat,Hid (k+n=l.length)/\s3=.int .i64 k/\Hid (Below wo.heap.size wo wr))
  case atStart=>exact ⟨0,by show _=_;omega,rfl,Below.refl _ _⟩
  case round =>
   obtain ⟨k,hm,rfl,hwr⟩:=hrel;by_cases hlt:k<l.length
   ·
    obtain ⟨r,hr⟩:=qac hlt;obtain ⟨b,off,rfl,z,⟨c0,c1,c2⟩,hz⟩:=(HL.out.ext (xbw hwr.out)).2.2 k r hr;have hrf:=hf.out r (List.mem_of_getElem? hr);have CR:=qg0 hz hrf;obtain ⟨u,hu⟩:∃ u,r.right=u:=⟨_,rfl⟩
    rw [hu] at CR;obtain ⟨e1,e2,e3,_,_⟩:=hz;have g1:=hrf.1;have g2:=hrf.2;rw [<- e2] at g1;rw [<- e3] at g2;have hkI:(k:Int)<(l.length:Int):=by omega
    replace CR:=Hd CR;replace hr:=Hd hr;replace hrf:=Hd hrf;clear hu e1 e2 e3;by_cases b1:2<z.n
    ·
     have b1I:(2:Int)<(z.n:Int):=by omega
     exact zz66
    ·
     have b1I:¬ (2:Int)<(z.n:Int):=by omega
     by_cases b2:2<z.m
     ·
      have b2I:(2:Int)<(z.m:Int):=by omega
      exact zz66
     ·
      have b2I:¬ (2:Int)<(z.m:Int):=by omega
      go_wp2_with fail;refine CR.out.mono ?_;rintro e w2 ⟨rfl,hb2⟩;have hw2:=Hd (bth hwr.out hb2);clear CR hb2 c0 c1 c2
      cases u
      ·
       go_wp2;refine bodyPost_ret (v:=.bool false) (by simp [results,Tryz.results23,go_sem]) rfl ?_;exact RetBo.of _ hw2.out
      ·
       go_wp2;go_roundg (gk-1)
       case rel=>exact ⟨k+1,by have:=hm.out;show _=_;omega,by go_num,hw2.out⟩
       case measure=>have:=hm.out;omega
   ·
    go_wp2;refine bodyPost_ret (v:=.bool true) (by simp [results,Tryz.results23,go_sem]) rfl ?_;exact RetBo.of _ hwr.out
def Pt.mild (p:Pt):Prop:=(p.x.right=true/\p.x.num.length<=4/\p.x.den.length<=4)/\(p.y.right=true/\p.y.num.length<=4/\p.y.den.length<=4)
def qdn (l:List Pt) (w:World) (e:Ending) (w':World):Prop:=∃ b:Bool,e=.returned (.bool b)/\(b=true->l.length<=12/\∀ p∈l,p.mild)/\Below w.heap.size w w'
theorem qdn.no {l:List Pt} {w w':World} (h:Below w.heap.size w w'):qdn l w (.returned (.bool false)) w':=⟨false,rfl,fun h=>(by cases h),h⟩
theorem zz63 {P:Prop} (h:P:=by
 clear bT hb;have m1:¬ g4=g5:=by omega
 have m2:¬ g5=g4:=by omega
 obtain ⟨y0,y1,y2⟩:=cq3 bg4.out;obtain ⟨f0,f1,f2⟩:=fq3 bg4.out;obtain ⟨y3,y4,y5⟩:=cq3 bg5.out;obtain ⟨f3,f4,f5⟩:=fq3 bg5.out;refine qao rfl rfl (fun K hK=>?_);go_simp;refine hK.out _ _ (qbd s2 hg4.out) (fun _=>?_);clear hK K;refine qgm rfl rfl (fun K hK=>?_);go_simp;refine hK.out _ _ ?_;clear hK K;refine qcq ?_;clear y0 y1 y2 y3 y4 y5 f0 f1 f2 f3 f4 f5;go_wp2
 go_meet
 case rel=>exact ⟨g4,g5,rfl,rfl,Hd (by have:=bg4.out;((with_reducible repeat first|assumption|(apply bF;focus omega)|apply bS|(apply bN;focus (simp;done))|apply bA|apply bD);all_goals rfl)),Hd (by have:=bg5.out;((with_reducible repeat first|assumption|(apply bF;focus omega)|apply bS|(apply bN;focus (simp;done))|apply bA|apply bD);all_goals rfl)),Hd (qbd (qbd s2 hg4.out) hg5.out)⟩
 ):P:=h
theorem zz64 {P:Prop} (h:P:=by
 go_wp2;refine bodyPost_ret (v:=.bool false) (by simp [results,Tryz.results29,go_sem]) rfl ?_;exact qdn.no hwd.out
 ):P:=h
theorem zz65 {P:Prop} (h:P:=by
 go_wp2;refine bodyPost_ret (v:=.bool false) (by simp [results,Tryz.results29,go_sem]) rfl ?_;exact qdn.no hw1.out
 ):P:=h
theorem qpe (vals:List Rt) (pts:List Pt) (va ba pa:Option Addr) (vc bc pc nb:Nat) (w:World) (hV:RtsR w va vc vals) (hP:PtsR w pa pc pts) (hv:∀ r∈vals,r.few2) (hp:∀ p∈pts,p.few) (hnb:nb<=9223372036854775807) :
  Calls Tryz.prog 29 #[.agg #[.slice va vals.length vc,.slice ba nb bc,.slice pa pts.length pc]] w (qdn pts w):=by
 have CM:=Hd (fun W (hW:Below w.heap.size w W)=>qps vals va vc W (hV.ext (xbw hW)) hv);have HP:=Hd hP;have hpl:=SlR.len hP;replace hp:=Hd hp;clear hV hP hv;go_enter Tryz.func29,Tryz.ntmps29;go_wp2_with fail;refine qad (fun W=>Blk W w.heap.size 36 #[.slice va vals.length vc,.slice ba nb bc,.slice pa pts.length pc]/\Below w.heap.size w W) ⟨by ((with_reducible repeat first|assumption|(apply bF;focus omega)|apply bS|(apply bN;focus (simp;done))|apply bA|apply bD);all_goals rfl),by go_grown⟩ ?_;rintro w0 ⟨h0,hw0⟩;obtain ⟨g,hg⟩:∃ g,w.heap.size=g:=⟨_,rfl⟩
 have h0':Blk w0 g 36 #[.slice va vals.length vc,.slice ba nb bc,.slice pa pts.length pc]:=hg ▸ h0;simp only [hg];replace hg:=Hd hg;clear h0;refine (CM.out w0 hw0).mono ?_;rintro e w1 ⟨⟨b,rfl⟩,hb1⟩;have hw1:=Hd (bth hw0 hb1);have h01:=Hd (h0'.below' hb1);have z1:=h01.out.cell 1;have z2:=h01.out.cell 2;have zl:=h01.out.lt;clear CM hw0 hb1 h0'
 cases b
 ·
  skip
  exact zz65
 by_cases h8:8<nb
 ·
  have h8I:(8:Int)<(nb:Int):=by omega
  exact zz65
 have h8I:¬ (8:Int)<(nb:Int):=by omega
 by_cases h12:12<pts.length
 ·
  have h12I:(12:Int)<(pts.length:Int):=by omega
  exact zz65
 have h12I:¬ (12:Int)<(pts.length:Int):=by omega
 have h12':=Hd h12;go_wp2
 go_loopg [3,4,5] pts.length (fun n s3 _ _ wr=>∃ k:Nat,Hid (k+n=pts.length)/\s3=.int .i64 k/\Hid (∀ (i:Nat) (p:Pt),i<k->pts[i]? = some p->p.mild)/\Hid (Below w1.heap.size w1 wr))
 case atStart=>exact ⟨0,by show _=_;omega,rfl,fun i p hi=>absurd hi (by omega),Below.refl _ _⟩
 case round =>
  clear z1 z2 zl h12 h12I h8 h8I;obtain ⟨k,hm,rfl,hall,hwr⟩:=hrel;have hww:=Hd (bth hw1.out hwr.out);have h0r:=h01.out.below' hwr.out;have z2':=h0r.cell 2;have z2:=held z2';have zl:=h0r.lt;replace h0r:=Hd h0r;by_cases hlt:k<pts.length
  ·
   obtain ⟨pt,hpk⟩:=qac hlt;obtain ⟨pb,po,rfl,x1,x2,⟨c0,c1,c2⟩,⟨c3,c4,c5⟩,q1,q2⟩:=(HP.out.ext (xbw hww.out)).2.2 k pt hpk;have d0:=held c0;have d1:=held c1;have d2:=held c2;have d3:=held c3;have d4:=held c4;have d5:=held c5;obtain ⟨hf1,hf2⟩:=hp.out pt (List.mem_of_getElem? hpk);have R1:=fun W (hW:Below wr.heap.size wr W)=>qg0 (q1.ext (xbw hW)) hf1
   have R2:=fun W (hW:Below wr.heap.size wr W)=>qg0 (q2.ext (xbw hW)) hf2
   obtain ⟨u1,hu1⟩:∃ u,pt.x.right=u:=⟨_,rfl⟩
   obtain ⟨u2,hu2⟩:∃ u,pt.y.right=u:=⟨_,rfl⟩
   rw [hu1] at R1;rw [hu2] at R2;have l1:x1.n=pt.x.num.length/\x1.m=pt.x.den.length/\x2.n=pt.y.num.length/\x2.m=pt.y.den.length:=⟨q1.2.1,q1.2.2.1,q2.2.1,q2.2.2.1⟩
   have k1:=hf1.1;have k2:=hf1.2;have k3:=hf2.1;have k4:=hf2.2;rw [<- l1.1] at k1;rw [<- l1.2.1] at k2;rw [<- l1.2.2.1] at k3;rw [<- l1.2.2.2] at k4;have hkP:(k:Int)<(pts.length:Int):=by omega
   replace R1:=Hd R1;replace R2:=Hd R2;replace hpk:=Hd hpk;replace hu1:=Hd hu1;replace hu2:=Hd hu2;replace l1:=Hd l1;clear c0 c1 c2 c3 c4 c5 q1 q2 hf1 hf2;go_wp2
   go_cut [4,5] from 22 (fun s4 s5 wc=>∃ g4 g5:Nat,s4=.pointer (some ⟨g4,0,none⟩)/\s5=.pointer (some ⟨g5,0,none⟩)/\Hid (Blk wc g4 51 #[.bool x1.neg,.slice x1.a x1.n x1.c,.slice x1.b x1.m x1.d])/\Hid (Blk wc g5 51 #[.bool x2.neg,.slice x2.a x2.n x2.c,.slice x2.b x2.m x2.d])/\Hid (Below wr.heap.size wr wc))
   case first =>
    have s0:Below wr.heap.size wr wr.drew:=brf.drew;obtain ⟨v0,hv0⟩:∃ v,wr.drew=v:=⟨_,rfl⟩
    refine qbx (S:=Below wr.heap.size wr) (.q 0 (.q 1 (.q 2 (.q 3 (.q 4 (.q 5 (.q 6 (.q 7 (.q 8 (.q 9 (.q 10 (.q 11 (.two 12 (.l 13 (.l 14 (.t 15 .nil))) 13 (.l 12 (.l 14 (.t 15 .nil)))))))))))))))) [15] (by kernel_rfl) (by kernel_rfl) (by kernel_rfl) (fun d _ _ _ _ h=>by cases d <;> exact h) s0 ?_;rw [hv0] at s0 ⊢;replace hv0:=Hd hv0
    iterate 12 (refine qb6 rfl rfl fun K hK=>xq ?_;go_simp;refine hK _ _ ?_;clear hK K)
    clear d0 d1 d2 d3 d4 d5 z2 z2';refine qbm ?_ ?_
    ·
     skip
     refine qao rfl rfl (fun K hK=>?_);go_simp;refine hK.out _ _ (s0.alloc s0.size _) (fun _=>?_);clear hK K;refine qab (fun W=>Blk W v0.heap.size 51 #[.bool false,.slice none 0 0,.slice none 0 0]/\Below v0.heap.size v0 W) ⟨by ((with_reducible repeat first|assumption|(apply bF;focus omega)|apply bS|(apply bN;focus (simp;done))|apply bA|apply bD);all_goals rfl),by go_grown⟩ ?_;rintro v1 ⟨bT,hb⟩;have s1:=bth s0 hb;have hg4:=Hd s0.size;obtain ⟨g4,hgg4⟩:∃ g,v0.heap.size=g:=⟨_,rfl⟩
     have bg4:=Hd (show Blk v1 g4 51 #[.bool false,.slice none 0 0,.slice none 0 0] from hgg4 ▸ bT);rw [hgg4] at hg4 ⊢;replace hgg4:=Hd hgg4;clear bT hb;refine qao rfl rfl (fun K hK=>?_);go_simp;refine hK.out _ _ (s1.alloc s1.size _) (fun _=>?_);clear hK K;refine qab (fun W=>Blk W v1.heap.size 51 #[.bool false,.slice none 0 0,.slice none 0 0]/\Below v1.heap.size v1 W) ⟨by ((with_reducible repeat first|assumption|(apply bF;focus omega)|apply bS|(apply bN;focus (simp;done))|apply bA|apply bD);all_goals rfl),by go_grown⟩ ?_;rintro v2 ⟨bT,hb⟩;have s2:=bth s1 hb;have hg5:=Hd s1.size;obtain ⟨g5,hgg5⟩:∃ g,v1.heap.size=g:=⟨_,rfl⟩
     have bg5:=Hd (show Blk v2 g5 51 #[.bool false,.slice none 0 0,.slice none 0 0] from hgg5 ▸ bT);rw [hgg5] at hg5 ⊢;have hnn:g4<g5:=by have:=bg4.out.lt;omega
     replace bg4:=Hd (bg4.out.below' hb);replace hgg5:=Hd hgg5;exact zz63
    ·
     skip
     refine qao rfl rfl (fun K hK=>?_);go_simp;refine hK.out _ _ (s0.alloc s0.size _) (fun _=>?_);clear hK K;refine qab (fun W=>Blk W v0.heap.size 51 #[.bool false,.slice none 0 0,.slice none 0 0]/\Below v0.heap.size v0 W) ⟨by ((with_reducible repeat first|assumption|(apply bF;focus omega)|apply bS|(apply bN;focus (simp;done))|apply bA|apply bD);all_goals rfl),by go_grown⟩ ?_;rintro v1 ⟨bT,hb⟩;have s1:=bth s0 hb;have hg5:=Hd s0.size;obtain ⟨g5,hgg5⟩:∃ g,v0.heap.size=g:=⟨_,rfl⟩
     have bg5:=Hd (show Blk v1 g5 51 #[.bool false,.slice none 0 0,.slice none 0 0] from hgg5 ▸ bT);rw [hgg5] at hg5 ⊢;replace hgg5:=Hd hgg5;clear bT hb;refine qao rfl rfl (fun K hK=>?_);go_simp;refine hK.out _ _ (s1.alloc s1.size _) (fun _=>?_);clear hK K;refine qab (fun W=>Blk W v1.heap.size 51 #[.bool false,.slice none 0 0,.slice none 0 0]/\Below v1.heap.size v1 W) ⟨by ((with_reducible repeat first|assumption|(apply bF;focus omega)|apply bS|(apply bN;focus (simp;done))|apply bA|apply bD);all_goals rfl),by go_grown⟩ ?_;rintro v2 ⟨bT,hb⟩;have s2:=bth s1 hb;have hg4:=Hd s1.size;obtain ⟨g4,hgg4⟩:∃ g,v1.heap.size=g:=⟨_,rfl⟩
     have bg4:=Hd (show Blk v2 g4 51 #[.bool false,.slice none 0 0,.slice none 0 0] from hgg4 ▸ bT);rw [hgg4] at hg4 ⊢;have hnn:g5<g4:=by have:=bg5.out.lt;omega
     replace bg5:=Hd (bg5.out.below' hb);replace hgg4:=Hd hgg4;exact zz63
   case rest =>
    obtain ⟨g4,g5,rfl,rfl,b4,b5,hwc⟩:=hcut;have e1:=b4.out.cell 1;have e2:=b4.out.cell 2;have e0:=b4.out.cell 0;obtain ⟨e3,e4,e5⟩:=cq3 b5.out;have e6:=b4.out.lt;have e7:=b5.out.lt;have hwd:=Hd (bth hww.out hwc.out);clear d0 d1 d2 d3 d4 d5 z2 z2' zl;by_cases j1:4<x1.n
    ·
     have jI:(4:Int)<(x1.n:Int):=by omega
     exact zz64
    have jI1:¬ (4:Int)<(x1.n:Int):=by omega
    by_cases j2:4<x1.m
    ·
     have jI:(4:Int)<(x1.m:Int):=by omega
     exact zz64
    have jI2:¬ (4:Int)<(x1.m:Int):=by omega
    by_cases j3:4<x2.n
    ·
     have jI:(4:Int)<(x2.n:Int):=by omega
     exact zz64
    have jI3:¬ (4:Int)<(x2.n:Int):=by omega
    by_cases j4:4<x2.m
    ·
     have jI:(4:Int)<(x2.m:Int):=by omega
     exact zz64
    have jI4:¬ (4:Int)<(x2.m:Int):=by omega
    go_wp2_with fail;refine (R1.out wc hwc.out).mono ?_;rintro e w5 ⟨rfl,hb5⟩;have b55:=b5.out.below' hb5;have hw5:=Hd (bth hwd.out hb5);have hwc5:=bth hwc.out hb5;clear e0 e1 e2 e3 e4 e5 e6 e7
    cases u1
    ·
     skip
     go_wp2;refine bodyPost_ret (v:=.bool false) (by simp [results,Tryz.results29,go_sem]) rfl ?_;exact qdn.no hw5.out
    obtain ⟨e3,e4,e5⟩:=cq3 b55;have e7:=b55.lt;go_wp2_with fail;refine (R2.out w5 hwc5).mono ?_;rintro e w6 ⟨rfl,hb6⟩;have hw6:=Hd (bth hw5.out hb6);have hwF:=Hd (bth hwr.out (bth hwc5 hb6));clear e3 e4 e5 e7 hb5 hb6 hwc5 b55
    cases u2
    ·
     skip
     go_wp2;refine bodyPost_ret (v:=.bool false) (by simp [results,Tryz.results29,go_sem]) rfl ?_;exact qdn.no hw6.out
    have hnx:=Hd (show ∀ (i:Nat) (p:Pt),i<k+1->pts[i]? = some p->p.mild from fun i p hi hpi=>by
     by_cases hik:i=k
     ·
      subst hik;rw [hpk.out] at hpi;injection hpi with hpi
      subst hpi;obtain ⟨a1,a2,a3,a4⟩:=l1.out;exact ⟨⟨hu1.out,by omega,by omega⟩,⟨hu2.out,by omega,by omega⟩⟩
     · exact hall.out i p (by omega) hpi)
    go_wp2;go_roundg (gk-1)
    case rel=>exact ⟨k+1,by have:=hm.out;show _=_;omega,by go_num,hnx.out,hwF.out⟩
    case measure=>have:=hm.out;omega
  ·
   have hfin:=Hd (show ∀ p∈pts,p.mild from fun p hpm=>by
    obtain ⟨i,hi⟩:=List.getElem?_of_mem hpm;exact hall.out i p (by have:=qaw hi;have:=hm.out;omega) hi)
   go_wp2;refine bodyPost_ret (v:=.bool true) (by simp [results,Tryz.results29,go_sem]) rfl ?_;exact ⟨true,rfl,fun _=>⟨by have:=h12'.out;omega,hfin.out⟩,hww.out⟩
theorem quf (L:List UInt8) (nm:ByteArray) (p:P2):ofL L++nm++(⟨#[32]⟩:ByteArray)++ofL (textQ p.1)++(⟨#[32]⟩:ByteArray)++ofL (textQ p.2)++(⟨#[10]⟩:ByteArray)=ofL (L++lineI nm p):=by
 have h:=qj2 nm p;have e:ofL (lineI nm p)=nm++(⟨#[32]⟩:ByteArray)++ofL (textQ p.1)++(⟨#[32]⟩:ByteArray)++ofL (textQ p.2)++(⟨#[10]⟩:ByteArray):=by rw [<- h];exact qk6 _
 rw [<- qdk,e];simp only [ByteArray.append_assoc]
theorem qnr (steps:List Step) (goals:List Fct) (pts:List P2) (sa ga va ba pa:Option Addr) (sc gc vc bc pc nv nb:Nat) (w:World) (hne:pts.length≠steps.length) (h1:pts.length<=9223372036854775807) (h2:steps.length<=9223372036854775807) :
  Calls Tryz.prog 16 #[.agg #[.slice sa steps.length sc,.slice ga goals.length gc],.agg #[.slice va nv vc,.slice ba nb bc,.slice pa pts.length pc]] w fun e w'=>e=.returned (.tuple #[.string ⟨#[]⟩,.int .i64 16])/\Below w.heap.size w w':=by
 have hb:((pts.length:Int) != (steps.length:Int))=true:=by rw [bne_iff_ne];omega
 have hb0:Below w.heap.size w ((w.alloc (.cells #[.slice sa steps.length sc,.slice ga goals.length gc] 25)).alloc (.cells #[.slice va nv vc,.slice ba nb bc,.slice pa pts.length pc] 36)):=by go_grown
 replace hb0:=Hd hb0;replace hne:=Hd hne;go_enter Tryz.func16,Tryz.ntmps16;go_wp2;refine bodyPost_ret (v:=.tuple #[.string ⟨#[]⟩,.int .i64 16]) (by simp [results,Tryz.results16,go_sem]) rfl ?_;exact ⟨rfl,hb0.out⟩
theorem qmz (steps:List Step) (goals:List Fct) (pts:List P2) (sa ga va ba pa:Option Addr) (sc gc vc bc pc nv nb:Nat) (w:World) (hS:FigR w sa sc ga gc ⟨steps,goals⟩) (hP:PsR w pa pc pts) (hne:pts.length=steps.length) (hl:steps.length<=60) (hsm:∀ p∈pts,qbg p) (hnz:∀ n∈qa0 steps steps.length,n.size<=100000000) :
  Calls Tryz.prog 16 #[.agg #[.slice sa steps.length sc,.slice ga goals.length gc],.agg #[.slice va nv vc,.slice ba nb bc,.slice pa pts.length pc]] w fun e w'=>e=.returned (.tuple #[.string (ofL (textI (qa0 steps steps.length) pts)),.int .i64 0])/\Below w.heap.size w w':=by
 have HS:=Hd (fun W (hW:Below w.heap.size w W)=>(⟨hS.1.ext (xbw hW),hS.2.ext (xbw hW)⟩:FigR W sa sc ga gc ⟨steps,goals⟩));have HP:=Hd hP;have hpl0:=SlR.len hP;have hnl:=qd7 steps steps.length;have CN:=fun W (hW:Below w.heap.size w W)=>qot ⟨steps,goals⟩ sa sc ga gc W (HS.out W hW) hl
 unfold Fig.val at CN;unfold RetS at CN;dsimp only at CN;obtain ⟨names,hnm⟩:∃ l,qa0 steps steps.length=l:=⟨_,rfl⟩
 rw [hnm] at hnl hnz ⊢;simp only [hnm] at CN;replace CN:=Hd CN;replace hsm:=Hd hsm;replace hnz:=Hd hnz;have hpl:=Hd hne;have hnl2:=Hd hnl;have hl60:=Hd hl;have hb:((pts.length:Int) != (steps.length:Int))=false:=by rw [hne];simp
 clear hS hP hnm hne;go_enter Tryz.func16,Tryz.ntmps16;go_wp2_with fail;refine qad (fun W=>Blk W (w.heap.size+1) 36 #[.slice va nv vc,.slice ba nb bc,.slice pa pts.length pc]/\Below w.heap.size w W) ⟨by ((with_reducible repeat first|assumption|(apply bF;focus omega)|apply bS|(apply bN;focus (simp;done))|apply bA|apply bD);all_goals rfl),by go_grown⟩ ?_;rintro w0 ⟨b2,hw0⟩;obtain ⟨g2,hg2⟩:∃ g,w.heap.size+1=g:=⟨_,rfl⟩
 rw [hg2] at b2;simp only [hg2];replace hg2:=Hd hg2;refine (CN.out w0 hw0).mono ?_;rintro e w1 ⟨na,nc,rfl,hO,hb1⟩;have b21:=Hd (b2.below' hb1);have hw1:=Hd (bth hw0 hb1);have hO1:=Hd hO;clear hw0 hb1 CN b2 hO;go_wp2
 go_loopg [7,8] pts.length (fun n s7 s8 wr=>∃ k:Nat,Hid (k+n=pts.length)/\s8=.int .i64 k/\s7=.string (ofL (textI (names.take k) (pts.take k)))/\Hid (Below w1.heap.size w1 wr))
 case atStart=>exact ⟨0,by show _=_;omega,rfl,rfl,Below.refl _ _⟩
 case round =>
  obtain ⟨k,hm,rfl,rfl,hwr⟩:=hrel;have hww:=bth hw1.out hwr.out;have b2r:=b21.out.below' hwr.out;have i2':=b2r.cell 2;have i2l:=b2r.lt;by_cases hlt:k<pts.length
  ·
   obtain ⟨pt,hpk⟩:=qac hlt;obtain ⟨nm,hnk⟩:=qac (xs:=names) (k:=k) (by have:=hpl.out;have:=hnl2.out;omega);obtain ⟨lb,rfl,_,_,hc⟩:=(hO1.out.below hwr.out).at_ qht hnk;have n0':wr.cell? ⟨lb,k,none⟩=some (.string nm):=by simpa using hc 0 _ rfl
   have n0:=held n0';obtain ⟨pb,po,rfl,x,⟨c0,c1,c2,c3,c4,c5⟩,hx⟩:=HP.out.2.2 k pt hpk;have d0:=held (held c0 wr hww);have d1:=held (held c1 wr hww);have d2:=held (held c2 wr hww);have d3:=held (held c3 wr hww);have d4:=held (held c4 wr hww);have d5:=held (held c5 wr hww);have i2:=held i2';have hps:=hsm.out pt (List.mem_of_getElem? hpk);have hns:=hnz.out nm (List.mem_of_getElem? hnk);have hxr:=(hx.ext (xbw hww)).pk hps;have CX:=Hd (fun W (hW:Below wr.heap.size wr W)=>qnx x.1 pt.1 100 W (hxr.1.ext (xbw hW)) (by omega));have CY:=Hd (fun W (hW:Below wr.heap.size wr W)=>qnx x.2 pt.2 100 W (hxr.2.ext (xbw hW)) (by omega));have hld:=quf (textI (names.take k) (pts.take k)) nm pt;have t1:(ofL (textQ pt.1)).size<=20000002:=by rw [qbw];exact qda pt.1 hps.1 (by omega)
   have t2:(ofL (textQ pt.2)).size<=20000002:=by rw [qbw];exact qda pt.2 hps.2 (by omega)
   have htk:=qfz hnk hpk;have hLl:=qgq (ns:=names.take k) (ps:=pts.take k) (fun n hn=>hnz.out n (List.mem_of_mem_take hn)) (fun p hp=>hsm.out p (List.mem_of_mem_take hp));rw [List.length_take,<- qbw] at hLl;rw [<- htk] at hld;have hk60:k<=60:=by have:=hpl.out;have:=hl60.out;omega
   have hL60:(ofL (textI (names.take k) (pts.take k))).size<=12000000000:=by omega
   revert CX CY hld t1 t2 hL60;generalize ofL (textQ pt.1)=tx;generalize ofL (textQ pt.2)=ty;generalize ofL (textI (names.take k) (pts.take k))=tl;intro CX CY hld t1 t2 hL60;have m0:¬ 9223372036854775807<tl.size+nm.size:=by omega
   have m1:¬ 9223372036854775807<tl.size+nm.size+1:=by omega
   have m2:¬ 9223372036854775807<tl.size+nm.size+1+tx.size:=by omega
   have m3:¬ 9223372036854775807<tl.size+nm.size+1+tx.size+1:=by omega
   have m4:¬ 9223372036854775807<tl.size+nm.size+1+tx.size+1+ty.size:=by omega
   have m5:¬ 9223372036854775807<tl.size+nm.size+1+tx.size+1+ty.size+1:=by omega
   have hkP:(k:Int)<(pts.length:Int):=by omega
   have hkN:(k:Int)<(names.length:Int):=by have:=hpl.out;have:=hnl2.out;omega
   have hkS:k<steps.length:=by have:=hpl.out;omega
   replace hld:=Hd hld;replace htk:=Hd htk;replace hnk:=Hd hnk;replace hpk:=Hd hpk;replace hps:=Hd hps;clear c0 c1 c2 c3 c4 c5 hx hxr hc hLl hww;have s0:Below wr.heap.size wr wr.drew:=brf.drew;go_wp2;refine wrx (S:=Below wr.heap.size wr) [(0,.q),(1,.q),(2,.q),(3,.q),(4,.q),(5,.q),(6,.q),(7,.q),(8,.q),(9,.q),(10,.q),(11,.q),(12,.q),(16,.q),(17,.q),(18,.q),(19,.q),(20,.q),(21,.q),(13,.l),(14,.q),(15,.q),(22,.l),(23,.p),(24,.p),(25,.p)] (s0) ?_
   iterate 19 (refine qam rfl rfl fun K hK=>xq ?_;go_simp;refine hK _ _ ?_;clear hK K)
   refine qaj rfl rfl (fun K hK=>?_);go_simp;refine (CX.out _ s0).mono ?_;rintro r w4 ⟨rfl,hb4⟩;dsimp only;refine hK.out _ _ (bth s0 hb4) (fun _=>?_);clear hK K;have s4:=bth s0 hb4
   iterate 2 (refine qam rfl rfl fun K hK=>xq ?_;go_simp;refine hK _ _ ?_;clear hK K)
   refine qaj rfl rfl (fun K hK=>?_);go_simp;refine (CY.out _ s4).mono ?_;rintro r w5 ⟨rfl,hb5⟩;dsimp only;refine hK.out _ _ (bth s4 hb5) (fun _=>?_);clear hK K;have s5:=bth s4 hb5
   iterate 3 (refine qav rfl rfl fun K hK=>xp ?_;go_simp;refine hK _ _ ?_;clear hK K)
   refine qak ?_;have hw5:=Hd (bth hwr.out s5);rw [hld.out];clear d0 d1 d2 d3 d4 d5 i2 i2' i2l n0 n0' s0 s4 s5 hb4 hb5 m0 m1 m2 m3 m4 m5;go_wp2;go_roundg (gk-1)
   case rel=>exact ⟨k+1,by have:=hm.out;show _=_;omega,by go_num,rfl,hw5.out⟩
   case measure=>have:=hm.out;omega
  ·
   have hkn:k=pts.length:=by have:=hm.out;omega
   have htx:textI (names.take k) (pts.take k)=textI names pts:=by
    rw [List.take_of_length_le (by have:=hpl.out;have:=hnl2.out;omega),List.take_of_length_le (by omega)]
   rw [htx];have hww':=Hd hww;clear hww;go_wp2;refine bodyPost_ret (v:=.tuple #[.string (ofL (textI names pts)),.int .i64 0]) (by simp [results,Tryz.results16,go_sem]) rfl ?_;exact ⟨rfl,hww'.out⟩
end Go.Proofs.YtfaalkneigpcnaaGreatDoor
namespace Go.Proofs.YtfaalkneigpcnaaGreatDoor
open Go.ChangeShapes Go.WideShapes Go.ChangeAt Go.RowKit
theorem len2 {α:Type} {l:List α} (h:l.length=2):∃ x0 x1,l=[x0,x1]:=by
 match l,h with
 | [x0,x1],_=>exact ⟨x0,x1,rfl⟩
theorem len3 {α:Type} {l:List α} (h:l.length=3):∃ x0 x1 x2,l=[x0,x1,x2]:=by
 match l,h with
 | [x0,x1,x2],_=>exact ⟨x0,x1,x2,rfl⟩
theorem len4 {α:Type} {l:List α} (h:l.length=4):∃ x0 x1 x2 x3,l=[x0,x1,x2,x3]:=by
 match l,h with
 | [x0,x1,x2,x3],_=>exact ⟨x0,x1,x2,x3,rfl⟩
theorem len5 {α:Type} {l:List α} (h:l.length=5):∃ x0 x1 x2 x3 x4,l=[x0,x1,x2,x3,x4]:=by
 match l,h with
 | [x0,x1,x2,x3,x4],_=>exact ⟨x0,x1,x2,x3,x4,rfl⟩
theorem len6 {α:Type} {l:List α} (h:l.length=6):∃ x0 x1 x2 x3 x4 x5,l=[x0,x1,x2,x3,x4,x5]:=by
 match l,h with
 | [x0,x1,x2,x3,x4,x5],_=>exact ⟨x0,x1,x2,x3,x4,x5,rfl⟩
theorem qnc {α β:Type} {p:Nat->β->α->Prop} (l:List β) (h:∀ i y,l[i]? = some y->∃ z,p i y z) :
  ∃ zs:List α,zs.length=l.length/\∀ (i:Nat) (z:α),zs[i]? = some z->∃ y,l[i]? = some y/\p i y z:=by
 induction l generalizing p with
 | nil=>exact ⟨[],rfl,fun i z hz=>by simp at hz⟩
 | cons x l ih =>
  obtain ⟨z0,h0⟩:=h 0 x rfl;obtain ⟨zs,hl,hz⟩:=ih (p:=fun i=>p (i+1)) (fun i y hy=>h (i+1) y (by simpa using hy));refine ⟨z0 :: zs,by simp [hl],fun i z hi=>?_⟩
  cases i with
  | zero=>simp at hi;subst hi;exact ⟨x,rfl,h0⟩
  | succ i=>simpa using hz i z (by simpa using hi)
theorem qhg {H α:Type} (size:α->Nat):∀ (ds:List (DataW H)) (zs:List α),zs.length=ds.length->(∀ (i:Nat) (z:α) (d:DataW H),zs[i]? = some z->ds[i]? = some d->size z<=Rows.uptoBulk d) ->
  (zs.map size).sum<=Rows.uptoBulkAll ds
 | [],zs,hl,_=>by
  have:zs=[]:=List.eq_nil_of_length_eq_zero (by simpa using hl);subst this;simp
 | d :: ds,[],hl,_=>by simp at hl
 | d :: ds,z :: zs,hl,h=>by
  have h0:=h 0 z d rfl rfl;have h1:=qhg size ds zs (by simpa using hl) (fun i z d hz hd=>h (i+1) z d (by simpa using hz) (by simpa using hd));simp only [List.map_cons,List.sum_cons,Rows.uptoBulkAll]
  omega
section
variable {H : Type} {enc : TypeId × Value -> H} {P : Program} {W : World} {sp : Nat -> Bool} {held : Bool}
theorem qdx {t e:TypeId} {sz fuel:Nat} {cs:List Value} {x:DataW H × List MemPlace} (ht:P.underlying t=some (.slice e)) (hc:P.cellsOf e=sz) (hs:0<sz)
  (h:DataW.trod enc P W 0 sp held fuel t cs=some x) {α:Type} (E:World->Nat->Nat->α->Prop) (size:α->Nat)
  (conv:∀ n cs' y b o,n<fuel->DataW.trod enc P W 0 sp held n e cs'=some y->cs'.length=sz->(∀ j,j<sz->W.cell? ⟨b,o+j,none⟩=cs'[j]?)->∃ z,E W b o z/\size z<=Rows.uptoBulk y.1) :
  ∃ (a:Option Addr) (cap:Nat) (zs:List α),cs=[.slice a zs.length cap]/\SlR sz E W a cap zs/\(zs.map size).sum+1<=Rows.uptoBulk x.1:=by
 rcases DataW.trod_slice ht h with ⟨rfl,rfl⟩ | ⟨a,len,cap,elems,rest,n,hn,rfl,rfl,_,hl,hm,hlen,hel,_,_⟩
 · exact ⟨none,0,[],rfl,SlR.nil,by simp [Rows.uptoBulk]⟩
 ·
  rw [hc] at hel;have key:∀ i y,elems[i]? = some y->∃ z,(∃ b off,a=⟨b,off,none⟩/\E W b (off+i*sz) z)/\size z<=Rows.uptoBulk y.1:=by
   intro i y hy;have hi:i<len:=by rw [<- hlen];exact qaw hy
   have h1:=hel i hi;rw [hy] at h1;obtain ⟨cs',hcs,hty⟩:=Option.bind_eq_some_iff.1 h1;obtain ⟨_,hl',hcell⟩:=World.cells?_some hcs;have hspot:∃ b off,a=⟨b,off,none⟩:=by
    have h0:=hcell 0 hs;rw [List.getElem?_eq_getElem (by omega)] at h0;have:=World.cell?_spot h0;obtain ⟨b,off,spot⟩:=a;by_cases hi0:i*sz=0
    ·
     simp [Addr.add,hi0] at this;subst this;exact ⟨b,off,rfl⟩
    ·
     have h2:=hel 0 (by omega);obtain ⟨y0,hy0⟩:=qac (xs:=elems) (k:=0) (by omega);rw [hy0] at h2;obtain ⟨cs0,hcs0,_⟩:=Option.bind_eq_some_iff.1 h2;obtain ⟨_,hl0,hcell0⟩:=World.cells?_some hcs0;have h3:=hcell0 0 hs;rw [List.getElem?_eq_getElem (by omega)] at h3;have:=World.cell?_spot h3;simp [Addr.add] at this;subst this;exact ⟨b,off,rfl⟩
   obtain ⟨b,off,rfl⟩:=hspot;obtain ⟨z,hz,hsz⟩:=conv n cs' y b (off+i*sz) (by omega) hty hl' (fun j hj=>by
    rw [<- hcell j hj,add_plain,add_plain])
   exact ⟨z,⟨b,off,rfl,hz⟩,hsz⟩
  obtain ⟨zs,hzl,hz⟩:=qnc (p:=fun i y z=>(∃ b off,a=⟨b,off,none⟩/\E W b (off+i*sz) z)/\size z<=Rows.uptoBulk y.1) elems key;refine ⟨some a,cap,zs,by rw [hzl,hlen],⟨by omega,hm,fun k z hk=>?_⟩,?_⟩
  ·
   obtain ⟨y,hy,⟨b,off,rfl,he⟩,_⟩:=hz k z hk;exact ⟨b,off,rfl,he⟩
  ·
   have h1:=qhg size (elems.map (·.1)) zs (by simpa using hzl) (fun i z d hzi hd=>by
    obtain ⟨y,hy,_,hs⟩:=hz i z hzi;rw [List.getElem?_map,hy] at hd;simp at hd;subst hd;exact hs)
   simp only [Rows.uptoBulk]
   omega
end
theorem qlz {H:Type} {enc:TypeId × Value->H} {P:Program} {W:World} {sp:Nat->Bool} {held:Bool} {e:TypeId} {k:IntKind} (he:P.underlying e=some (.int k)) (n:Nat) (cs':List Value) (y:DataW H × List MemPlace) (b o:Nat)
  (h:DataW.trod enc P W 0 sp held n e cs'=some y) (hc:∀ j,j<1->W.cell? ⟨b,o+j,none⟩=cs'[j]?):∃ z,IntE k W b o z/\1<=Rows.uptoBulk y.1:=by
 obtain ⟨z,rfl,rfl,hw⟩:=DataW.trod_int he h;exact ⟨z,⟨by have:=hc 0 (by omega);simpa using this,hw⟩,by simp [Rows.uptoBulk]⟩
end Go.Proofs.YtfaalkneigpcnaaGreatDoor
namespace Go.Proofs.YtfaalkneigpcnaaGreatDoor
open Go.ChangeShapes Go.WideShapes Go.ChangeAt Go.RowKit
theorem qf6:Tryz.prog.cellsOf 51=3:=by kernel_rfl
theorem qmk:Tryz.prog.cellsOf 49=2:=by kernel_rfl
theorem qlt:Tryz.prog.cellsOf 47=1:=by kernel_rfl
theorem qwb:Tryz.prog.cellsOf 4=1:=by kernel_rfl
theorem qty:Tryz.prog.cellsOf 102=1:=by kernel_rfl
theorem qgd {α:Type} (l:List α):(l.map fun _=>1).sum=l.length:=by induction l with
 | nil=>rfl
 | cons x l ih=>simp only [List.map_cons,List.sum_cons,ih,List.length_cons];omega
section
variable {H : Type} {enc : TypeId × Value -> H} {W : World} {sp : Nat -> Bool} {held : Bool} {n : Nat}
theorem qml {cs:List Value} {y:DataW H × List MemPlace} (h:DataW.trod enc Tryz.prog W 0 sp held n 47 cs=some y) :
  ∃ a c zs,cs=[.slice a (List.length zs) c]/\NatR W a c zs/\zs.length+1<=Rows.uptoBulk y.1:=by
 obtain ⟨a,c,zs,h1,h2,h3⟩:=qdx Tryz.underlying47 qty (by omega) h (IntE .u16) (fun _=>1) (fun m cs' y b o _ ht _ hc=>qlz Tryz.underlying102 m cs' y b o ht hc);rw [qgd] at h3;exact ⟨a,c,zs,h1,h2,h3⟩
theorem qpd {cs:List Value} {y:DataW H × List MemPlace} (h:DataW.trod enc Tryz.prog W 0 sp held n 49 cs=some y) :
  ∃ b a c zs,cs=[.bool b,.slice a (List.length zs) c]/\NatR W a c zs/\zs.length+2<=Rows.uptoBulk y.1:=by
 obtain ⟨xs,m,rfl,rfl,hcl,hxl,hf⟩:=DataW.trod_struct Tryz.underlying49 h;rw [qmk] at hcl;obtain ⟨c0,c1,rfl⟩:=len2 hcl;obtain ⟨y0,y1,rfl⟩:=len2 (show xs.length=2 from hxl)
 ·
  have h0:=hf 0 _ rfl;have h1:=hf 1 _ rfl;simp [qwb,qlt] at h0 h1;obtain ⟨b,e0,rfl⟩:=DataW.trod_bool Tryz.underlying4 h0;obtain ⟨a,c,zs,e1,h2,h3⟩:=qml h1;simp at e0 e1;subst e0;subst e1;refine ⟨b,a,c,zs,rfl,h2,?_⟩;simp [Rows.uptoBulk,Rows.uptoBulkAll] at h3 ⊢
  omega
theorem qhx {cs:List Value} {y:DataW H × List MemPlace} (h:DataW.trod enc Tryz.prog W 0 sp held n 51 cs=some y) :
  ∃ b na nc num da dc den,cs=[.bool b,.slice na (List.length num) nc,.slice da (List.length den) dc]/\NatR W na nc num/\NatR W da dc den/\num.length+den.length+2<=Rows.uptoBulk y.1:=by
 obtain ⟨xs,m,rfl,rfl,hcl,hxl,hf⟩:=DataW.trod_struct Tryz.underlying51 h;rw [qf6] at hcl;obtain ⟨c0,c1,c2,rfl⟩:=len3 hcl;obtain ⟨y0,y1,rfl⟩:=len2 (show xs.length=2 from hxl)
 ·
  have h0:=hf 0 _ rfl;have h1:=hf 1 _ rfl;simp [qmk,qlt] at h0 h1;obtain ⟨b,na,nc,num,e0,h2,h3⟩:=qpd h0;obtain ⟨da,dc,den,e1,h4,h5⟩:=qml h1;simp at e0 e1;obtain ⟨rfl,rfl⟩:=e0;subst e1;refine ⟨b,na,nc,num,da,dc,den,rfl,h2,h4,?_⟩;simp [Rows.uptoBulk,Rows.uptoBulkAll] at h3 h5 ⊢
  omega
end
end Go.Proofs.YtfaalkneigpcnaaGreatDoor
namespace Go.Proofs.YtfaalkneigpcnaaGreatDoor
open Go.ChangeShapes Go.WideShapes Go.ChangeAt Go.RowKit
theorem qj3:Tryz.prog.cellsOf 45=1:=by kernel_rfl
theorem qly:Tryz.prog.cellsOf 3=1:=by kernel_rfl
theorem qwg:Tryz.prog.cellsOf 9=1:=by kernel_rfl
section
variable {H : Type} {enc : TypeId × Value -> H} {W : World} {sp : Nat -> Bool} {held : Bool} {n : Nat}
theorem qi0 {cs:List Value} {y:DataW H × List MemPlace} (h:DataW.trod enc Tryz.prog W 0 sp held n 45 cs=some y) :
  ∃ a c zs,cs=[.slice a (List.length zs) c]/\IntsR W a c zs/\zs.length+1<=Rows.uptoBulk y.1:=by
 obtain ⟨a,c,zs,h1,h2,h3⟩:=qdx Tryz.underlying45 qly (by omega) h (IntE .i64) (fun _=>1) (fun m cs' y b o _ ht _ hc=>qlz Tryz.underlying3 m cs' y b o ht hc);rw [qgd] at h3;exact ⟨a,c,zs,h1,h2,h3⟩
end
end Go.Proofs.YtfaalkneigpcnaaGreatDoor
