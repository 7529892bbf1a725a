/- The row of InstanceTexts and its card: for each input the call returns true, and each argument reads behind the call as it read before. The row lists tables of Go's library as its text lays them; the proof does not need them. Condition: the arguments hold together at most 1048576 values and letters. -/
import Derived.Test.YtfaalkneigpcnaaGreatDoorIt21
import Derived.Test.YtfaalkneigpcnaaGreatDoorIt9
import Derived.Test.YtfaalkneigpcnaaGreatDoorIt20
import Derived.Test.YtfaalkneigpcnaaGreatDoorIt18
import Derived.Test.YtfaalkneigpcnaaGreatDoorIt1
import Derived.JoinedCond
import Derived.Test.YtfaalkneigpcnaaGreatDoorCards
import Derived.Test.YtfaalkneigpcnaaGreatDoorTie
import Derived.ChangeMaps5
import Derived.WalkKit
import Derived.ProofKit
import Derived.OpenShut
import Derived.Deep.DeepHandedRow
import Derived.Lib.LaidTab
import Derived.Lay
set_option linter.all false
set_option maxRecDepth 100000
set_option maxHeartbeats 4000000
namespace Go.Proofs.YtfaalkneigpcnaaGreatDoor
open Go.ChangeShapes Go.WideShapes Go.ChangeAt Go.RowKit
def Rt.weight (r:Rt):Nat:=r.num.length+r.den.length
def Step.weight (s:Step):Nat:=s.point.size+s.args.length+s.ratio.weight+1
def Fct.weight (s:Fct):Nat:=s.args.length+s.ratio.weight+1
def Fig.weight (f:Fig):Nat:=(f.steps.map Step.weight).sum+(f.goals.map Fct.weight).sum
theorem qfs {α:Type} (g:α->Nat) {l:List α} {x:α} (h:x∈l):g x<=(l.map g).sum:=by
 induction l with
 | nil=>cases h
 | cons y l ih =>
  simp only [List.map_cons,List.sum_cons];rcases List.mem_cons.1 h with rfl | h
  · omega
  · have:=ih h;omega
theorem Fig.few_of {f:Fig} (h:f.weight<=2000000):f.few:=by
 unfold Fig.weight at h;refine ⟨fun s hs=>?_,fun s hs=>?_⟩
 ·
  have h1:=qfs Step.weight hs;have h2:s.weight=s.point.size+s.args.length+(s.ratio.num.length+s.ratio.den.length)+1:=rfl
  constructor <;> omega
 ·
  have h1:=qfs Fct.weight hs;have h2:s.weight=s.args.length+(s.ratio.num.length+s.ratio.den.length)+1:=rfl
  constructor <;> omega
theorem qjp:Tryz.prog.cellsOf 53=6:=by kernel_rfl
theorem qld:Tryz.prog.cellsOf 86=5:=by kernel_rfl
theorem qtm:Tryz.prog.cellsOf 25=2:=by kernel_rfl
theorem qou:Tryz.prog.cellsOf 22=1:=by kernel_rfl
theorem qsa:Tryz.prog.cellsOf 23=1:=by kernel_rfl
section
variable {H : Type} {enc : TypeId × Value -> H} {W : World} {sp : Nat -> Bool} {held : Bool}
theorem qpq {n:Nat} {cs:List Value} {y:DataW H × List MemPlace} (h:DataW.trod enc Tryz.prog W 0 sp held n 53 cs=some y) :
  ∃ (s:Step) (p:RA),cs=[.int .i64 s.kind,.string s.point,.slice p.aa s.args.length p.ac,.bool s.ratio.neg,.slice p.na s.ratio.num.length p.nc,.slice p.da s.ratio.den.length p.dc]/\qb4 W p s.args s.ratio/\InInt s.kind/\s.point.size<=9223372036854775807/\s.weight<=Rows.uptoBulk y.1:=by
 obtain ⟨xs,m,rfl,rfl,hcl,hxl,hf⟩:=DataW.trod_struct Tryz.underlying53 h;rw [qjp] at hcl;obtain ⟨c0,c1,c2,c3,c4,c5,rfl⟩:=len6 hcl;obtain ⟨y0,y1,y2,y3,rfl⟩:=len4 (show xs.length=4 from hxl)
 ·
  have h0:=hf 0 _ rfl;have h1:=hf 1 _ rfl;have h2:=hf 2 _ rfl;have h3:=hf 3 _ rfl;simp [qly,qwg,qj3,qf6] at h0 h1 h2 h3;obtain ⟨kind,e0,rfl,w0⟩:=DataW.trod_int Tryz.underlying3 h0;obtain ⟨point,e1,rfl,w1⟩:=DataW.trod_string Tryz.underlying9 h1;obtain ⟨aa,ac,args,e2,r2,w2⟩:=qi0 h2;obtain ⟨neg,na,nc,num,da,dc,den,e3,r3,r4,w3⟩:=qhx h3;simp at e0 e1 e2 e3;obtain ⟨rfl,rfl,rfl⟩:=e3;subst e0 e1 e2;refine ⟨⟨kind,point,args,⟨neg,num,den⟩⟩,⟨aa,ac,na,nc,da,dc⟩,rfl,⟨r2,r3,r4⟩,qd1 w0,w1,?_⟩;simp [Rows.uptoBulk,Rows.uptoBulkAll,Step.weight,Rt.weight] at w2 w3 ⊢;have:point.data.size=point.size:=rfl
  omega
theorem qss {n:Nat} {cs:List Value} {y:DataW H × List MemPlace} (h:DataW.trod enc Tryz.prog W 0 sp held n 86 cs=some y) :
  ∃ (s:Fct) (p:RA),cs=[.int .i64 s.kind,.slice p.aa s.args.length p.ac,.bool s.ratio.neg,.slice p.na s.ratio.num.length p.nc,.slice p.da s.ratio.den.length p.dc]/\qb4 W p s.args s.ratio/\InInt s.kind/\s.weight<=Rows.uptoBulk y.1:=by
 obtain ⟨xs,m,rfl,rfl,hcl,hxl,hf⟩:=DataW.trod_struct Tryz.underlying86 h;rw [qld] at hcl;obtain ⟨c0,c2,c3,c4,c5,rfl⟩:=len5 hcl;obtain ⟨y0,y2,y3,rfl⟩:=len3 (show xs.length=3 from hxl)
 ·
  have h0:=hf 0 _ rfl;have h2:=hf 1 _ rfl;have h3:=hf 2 _ rfl;simp [qly,qj3,qf6] at h0 h2 h3;obtain ⟨kind,e0,rfl,w0⟩:=DataW.trod_int Tryz.underlying3 h0;obtain ⟨aa,ac,args,e2,r2,w2⟩:=qi0 h2;obtain ⟨neg,na,nc,num,da,dc,den,e3,r3,r4,w3⟩:=qhx h3;simp at e0 e2 e3;obtain ⟨rfl,rfl,rfl⟩:=e3;subst e0 e2;refine ⟨⟨kind,args,⟨neg,num,den⟩⟩,⟨aa,ac,na,nc,da,dc⟩,rfl,⟨r2,r3,r4⟩,qd1 w0,?_⟩;simp [Rows.uptoBulk,Rows.uptoBulkAll,Fct.weight,Rt.weight] at w2 w3 ⊢
  omega
theorem qqx {n:Nat} {cs:List Value} {y:DataW H × List MemPlace} (h:DataW.trod enc Tryz.prog W 0 sp held n 25 cs=some y) :
  ∃ (f:Fig) (sa:Option Addr) (sc:Nat) (ga:Option Addr) (gc:Nat),cs=[.slice sa f.steps.length sc,.slice ga f.goals.length gc]/\FigR W sa sc ga gc f/\f.weight<=Rows.uptoBulk y.1:=by
 obtain ⟨xs,m,rfl,rfl,hcl,hxl,hf⟩:=DataW.trod_struct Tryz.underlying25 h;rw [qtm] at hcl;obtain ⟨c0,c1,rfl⟩:=len2 hcl;obtain ⟨y0,y1,rfl⟩:=len2 (show xs.length=2 from hxl)
 ·
  have h0:=hf 0 _ rfl;have h1:=hf 1 _ rfl;simp [qou,qsa] at h0 h1;obtain ⟨sa,sc,steps,e0,r0,w0⟩:=qdx Tryz.underlying22 qjp (by omega) h0 StepE Step.weight (fun k cs' y b o hk ht hl hc=>by
   obtain ⟨s,p,rfl,hP,hi,hp,hw⟩:=qpq ht;refine ⟨s,⟨p,⟨?_,?_,?_,?_,?_,?_⟩,hP,hi,hp⟩,hw⟩
   · have:=hc 0 (by omega);simpa using this
   · have:=hc 1 (by omega);simpa using this
   · have:=hc 2 (by omega);simpa using this
   · have:=hc 3 (by omega);simpa using this
   · have:=hc 4 (by omega);simpa using this
   · have:=hc 5 (by omega);simpa using this)
  obtain ⟨ga,gc,goals,e1,r1,w1⟩:=qdx Tryz.underlying23 qld (by omega) h1 FctE Fct.weight (fun k cs' y b o hk ht hl hc=>by
   obtain ⟨s,p,rfl,hP,hi,hw⟩:=qss ht;refine ⟨s,⟨p,⟨?_,?_,?_,?_,?_⟩,hP,hi⟩,hw⟩
   · have:=hc 0 (by omega);simpa using this
   · have:=hc 1 (by omega);simpa using this
   · have:=hc 2 (by omega);simpa using this
   · have:=hc 3 (by omega);simpa using this
   · have:=hc 4 (by omega);simpa using this)
  simp at e0 e1;subst e0 e1;refine ⟨⟨steps,goals⟩,sa,sc,ga,gc,rfl,⟨r0,r1⟩,?_⟩;simp [Rows.uptoBulk,Rows.uptoBulkAll,Fig.weight] at w0 w1 ⊢
  omega
theorem qm9 {r:Reach} {b0:Nat} {v:Value} {d:DataW H} {p:List MemPlace} (hv:Value.okWide Tryz.prog W r b0 25 v) (h:DataW.Trod enc Tryz.prog W 0 sp held 25 v d p) :
  ∃ (f:Fig) (sa:Option Addr) (sc:Nat) (ga:Option Addr) (gc:Nat),v=f.val sa sc ga gc/\FigR W sa sc ga gc f/\f.weight<=Rows.uptoBulk d:=by
 obtain ⟨cs,rfl,_⟩:=okWide_struct Tryz.underlying25 hv;obtain ⟨n,hn⟩:=h;obtain ⟨f,sa,sc,ga,gc,h1,h2,h3⟩:=qqx hn;refine ⟨f,sa,sc,ga,gc,?_,h2,h3⟩;obtain ⟨l⟩:=cs;simp [Value.cells] at h1;simp [Fig.val,h1]
end
end Go.Proofs.YtfaalkneigpcnaaGreatDoor
namespace Go.Proofs.YtfaalkneigpcnaaGreatDoor
open Go.RowKit
def Pt.p2 (p:Pt):P2:=(p.x.q,p.y.q)
theorem RtZ.ac {w:World} {r:Rt} {z:QA} (h:RtZ w r z) (hr:r.right=true):QAc w z r.q:=by
 obtain ⟨e1,e2,e3⟩:=qf1 hr;obtain ⟨z1,z2,z3,z4,z5⟩:=h;exact ⟨by rw [z1,e1],by rw [z2,e2],by rw [z3,e3],by rw [e2];exact z4,by rw [e3];exact z5⟩
theorem qjy {r:Rt} (hr:r.right=true) (h1:r.num.length<=4) (h2:r.den.length<=4):qsz r.q<=100:=by
 obtain ⟨e1,e2,e3⟩:=qf1 hr;unfold qsz;rw [e2,e3]
 omega
theorem PtsR.ps {w:World} {a:Option Addr} {c:Nat} {l:List Pt} (h:PtsR w a c l) (hm:∀ p∈l,p.mild):PsR w a c (l.map Pt.p2):=by
 refine ⟨by rw [List.length_map];exact h.1,h.2.1,fun k p hp=>?_⟩;rw [List.getElem?_map] at hp
 cases hl:l[k]? with
 | none=>rw [hl] at hp;cases hp
 | some t =>
  rw [hl] at hp;injection hp with hp
  subst hp;obtain ⟨b,off,e,z1,z2,c1,c2,r1,r2⟩:=h.2.2 k t hl;have ht:=hm t (List.mem_of_getElem? hl);exact ⟨b,off,e,(z1,z2),⟨c1.1,c1.2.1,c1.2.2,c2.1,c2.2.1,c2.2.2⟩,r1.ac ht.1.1,r2.ac ht.2.1⟩
theorem qlc {l:List Pt} (hm:∀ p∈l,p.mild):∀ p∈l.map Pt.p2,qbg p:=fun p hp=>by
 obtain ⟨t,ht,rfl⟩:=List.mem_map.1 hp;obtain ⟨⟨a1,a2,a3⟩,⟨b1,b2,b3⟩⟩:=hm t ht;exact ⟨qjy a1 a2 a3,qjy b1 b2 b3⟩
theorem qm1 (s:ByteArray) (i:Nat):(qcu s i).size<=s.size+3:=by
 unfold qcu
 split
 ·
  have:=qe8 i;rw [ByteArray.size_append];have e:(⟨#[36]⟩:ByteArray).size=1:=rfl
  omega
 · omega
theorem qf4 {l:List Step} {M:Nat} (h:∀ s∈l,s.point.size<=M):∀ k,∀ n∈qa0 l k,n.size<=M+3
 | 0,n,hn=>by simp [qa0] at hn
 | k+1,n,hn=>by
  rw [qa0] at hn;rcases List.mem_append.1 hn with hn | hn
  · exact qf4 h k n hn
  ·
   obtain rfl:=List.mem_singleton.1 hn;have h1:=qm1 ((l[k]?.map Step.point).getD ⟨#[]⟩) k;have h2:((l[k]?.map Step.point).getD ⟨#[]⟩).size<=M:=by
    cases hk:l[k]? with
    | none=>simp;exact Nat.zero_le _
    | some s=>exact h s (List.mem_of_getElem? hk)
   omega
theorem qqb (vals:List Rt) (pts:List Pt) (va ba pa:Option Addr) (vc bc pc nb:Nat) (w:World) (hV:RtsR w va vc vals) (hP:PtsR w pa pc pts) (hv:∀ r∈vals,r.few2) (hp:∀ p∈pts,p.few) (hnb:nb<=9223372036854775807) :
  Calls Tryz.prog 14 #[.agg #[.slice va vals.length vc,.slice ba nb bc,.slice pa pts.length pc]] w (qdn pts w):=by
 have CF:=Hd (fun W (hW:Below w.heap.size w W)=>qpe vals pts va ba pa vc bc pc nb W (hV.ext (xbw hW)) (hP.ext (xbw hW)) hv hp hnb);clear hV hP hv hp;go_enter Tryz.func14,Tryz.ntmps14;go_wp2_with fail;refine qad (fun W=>Below w.heap.size w W) (by go_grown) ?_;intro w0 hw0;refine (CF.out w0 hw0).mono ?_;rintro e w1 ⟨b,rfl,hb,hb1⟩;have hw1:=Hd (bth hw0 hb1);replace hb:=Hd hb;go_wp2;refine bodyPost_ret (v:=.bool b) (by simp [results,Tryz.results14,go_sem]) rfl ?_;exact ⟨b,rfl,hb.out,hw1.out⟩
theorem qhd (steps:List Step) (goals:List Fct) (vals:List Rt) (pts:List Pt) (sa ga va ba pa:Option Addr) (sc gc vc bc pc nb:Nat) (w:World) (h:FigR w sa sc ga gc ⟨steps,goals⟩) (hq:Fig.few ⟨steps,goals⟩) (hnm:∀ s∈steps,s.point.size<=2000000)
  (hV:RtsR w va vc vals) (hP:PtsR w pa pc pts) (hv:∀ r∈vals,r.few2) (hp:∀ p∈pts,p.few) (hnb:nb<=9223372036854775807) :
  Calls Tryz.prog 5 #[.agg #[.slice sa steps.length sc,.slice ga goals.length gc],.agg #[.slice va vals.length vc,.slice ba nb bc,.slice pa pts.length pc]] w fun e w'=>e=.returned (.bool true)/\Below w.heap.size w w':=by
 have CF:=Hd (fun W (hW:Below w.heap.size w W)=>qsi ⟨steps,goals⟩ sa sc ga gc W ⟨h.1.ext (xbw hW),h.2.ext (xbw hW)⟩ hq);have CG:=Hd (fun W (hW:Below w.heap.size w W)=>qqb vals pts va ba pa vc bc pc nb W (hV.ext (xbw hW)) (hP.ext (xbw hW)) hv hp hnb);have CA:=Hd (fun W=>qnj W);have hl1:=SlR.len h.1;have hl2:=SlR.len hP;have CT:steps.length<=8->(∀ p∈pts,p.mild)->∃ (T:ByteArray) (E:Int),
   (∀ W,Below w.heap.size w W->Calls Tryz.prog 15 #[.agg #[.slice sa steps.length sc,.slice ga goals.length gc],.agg #[.slice va vals.length vc,.slice ba nb bc,.slice pa pts.length pc]] W fun e w'=>e=.returned (.tuple #[.string T,.int .i64 E])/\Below W.heap.size W w') /\
   (∀ W,Below w.heap.size w W->Calls Tryz.prog 16 #[.agg #[.slice sa steps.length sc,.slice ga goals.length gc],.agg #[.slice va vals.length vc,.slice ba nb bc,.slice pa pts.length pc]] W fun e w'=>e=.returned (.tuple #[.string T,.int .i64 E])/\Below W.heap.size W w'):=by
  intro h8 hm;have hlm:(pts.map Pt.p2).length=pts.length:=List.length_map ..;by_cases hne:pts.length=steps.length
  ·
   refine ⟨ofL (textI (qa0 steps steps.length) (pts.map Pt.p2)),0,fun W hW=>?_,fun W hW=>?_⟩
   ·
    have:=qit steps goals (pts.map Pt.p2) sa ga va ba pa sc gc vc bc pc vals.length nb W ⟨h.1.ext (xbw hW),h.2.ext (xbw hW)⟩ ((hP.ext (xbw hW)).ps hm) (by rw [hlm];exact hne) (by omega) (qlc hm) (fun n hn=>by have:=qf4 hnm _ n hn;omega)
    rwa [hlm] at this
   ·
    have:=qmz steps goals (pts.map Pt.p2) sa ga va ba pa sc gc vc bc pc vals.length nb W ⟨h.1.ext (xbw hW),h.2.ext (xbw hW)⟩ ((hP.ext (xbw hW)).ps hm) (by rw [hlm];exact hne) (by omega) (qlc hm) (fun n hn=>by have:=qf4 hnm _ n hn;omega)
    rwa [hlm] at this
  ·
   refine ⟨⟨#[]⟩,16,fun W hW=>?_,fun W hW=>?_⟩
   ·
    have:=qpl steps goals (pts.map Pt.p2) sa ga va ba pa sc gc vc bc pc vals.length nb W (by rw [hlm];exact hne) (by rw [hlm];exact hl2) hl1
    rwa [hlm] at this
   ·
    have:=qnr steps goals (pts.map Pt.p2) sa ga va ba pa sc gc vc bc pc vals.length nb W (by rw [hlm];exact hne) (by rw [hlm];exact hl2) hl1
    rwa [hlm] at this
 unfold Fig.val at CF;dsimp only at CF;replace CT:=Hd CT;clear h hq hnm hV hP hv hp;go_enter Tryz.func5,Tryz.ntmps5;go_wp2_with fail;refine qad (fun W=>Blk W w.heap.size 25 #[.slice sa steps.length sc,.slice ga goals.length gc]/\Blk W (w.heap.size+1) 36 #[.slice va vals.length vc,.slice ba nb bc,.slice pa pts.length pc]/\Below w.heap.size w W) (by refine ⟨?_,?_,?_⟩<;>first|((with_reducible repeat first|assumption|(apply bF;focus omega)|apply bS|(apply bN;focus (simp;done))|apply bA|apply bD);all_goals rfl)|go_grown) ?_;rintro w0 ⟨h0,h1,hw0⟩;obtain ⟨g1,hg1⟩:∃ g,w.heap.size=g:=⟨_,rfl⟩
 obtain ⟨g2,hg2⟩:∃ g,w.heap.size+1=g:=⟨_,rfl⟩
 have h0':Blk w0 g1 25 #[.slice sa steps.length sc,.slice ga goals.length gc]:=hg1 ▸ h0;rw [hg2] at h1;simp only [hg2];simp only [hg1];replace hg1:=Hd hg1;replace hg2:=Hd hg2;clear h0;refine (CF.out w0 hw0).mono ?_;rintro e w1 ⟨b,rfl,hb,hb1⟩;have hw1:=bth hw0 hb1;have a1:=Hd (h0'.below' hb1);have a2:=Hd (h1.below' hb1);clear hw0 hb1 CF h0' h1
 cases b
 ·
  clear hb;go_wp2_with fail;refine (CA.out w1).mono ?_;rintro e w2 ⟨rfl,hb2⟩;have hw2:=Hd (bth hw1 hb2);clear hw1 hb2;go_wp2;refine bodyPost_ret (v:=.bool true) (by simp [results,Tryz.results5,go_sem]) rfl ?_;exact ⟨rfl,hw2.out⟩
 have hsm:=hb rfl;obtain ⟨z0,z1,z2⟩:=cq3 a2.out;have zl:=a2.out.lt;replace hsm:=Hd hsm;clear hb;go_wp2_with fail;refine (CG.out w1 hw1).mono ?_;rintro e w2 ⟨b,rfl,hb,hb2⟩;have hw2:=bth hw1 hb2;replace a1:=Hd (a1.out.below' hb2);replace a2:=Hd (a2.out.below' hb2);clear CG hw1 hb2 z0 z1 z2 zl
 cases b
 ·
  clear hb;go_wp2_with fail;refine (CA.out w2).mono ?_;rintro e w3 ⟨rfl,hb3⟩;have hw3:=Hd (bth hw2 hb3);clear hw2 hb3;go_wp2;refine bodyPost_ret (v:=.bool true) (by simp [results,Tryz.results5,go_sem]) rfl ?_;exact ⟨rfl,hw3.out⟩
 obtain ⟨T,E,C1,C2⟩:=CT.out hsm.out.1 (hb rfl).2;replace C1:=Hd C1;replace C2:=Hd C2;obtain ⟨y0,y1⟩:=cq2 a1.out;have yl:=a1.out.lt;obtain ⟨z0,z1,z2⟩:=cq3 a2.out;have zl:=a2.out.lt;clear hb CT;go_wp2_with fail;refine (C1.out w2 hw2).mono ?_;rintro e w3 ⟨rfl,hb3⟩;have hw3:=bth hw2 hb3;replace a1:=Hd (a1.out.below' hb3);replace a2:=Hd (a2.out.below' hb3);clear C1 hw2 hb3 y0 y1 yl z0 z1 z2 zl;obtain ⟨y0,y1⟩:=cq2 a1.out;have yl:=a1.out.lt;obtain ⟨z0,z1,z2⟩:=cq3 a2.out;have zl:=a2.out.lt;go_wp2_with fail;refine (C2.out w3 hw3).mono ?_;rintro e w4 ⟨rfl,hb4⟩;have hw4:=bth hw3 hb4;clear C2 hw3 hb4 y0 y1 yl z0 z1 z2 zl a1 a2;go_wp2_with fail;refine (CA.out w4).mono ?_;rintro e w5 ⟨rfl,hb5⟩;have hw5:=Hd (bth hw4 hb5);clear hw4 hb5;go_wp2;refine bodyPost_ret (v:=.bool true) (by simp [results,Tryz.results5,go_sem]) rfl ?_;exact ⟨rfl,hw5.out⟩
end Go.Proofs.YtfaalkneigpcnaaGreatDoor
namespace Go.Proofs.YtfaalkneigpcnaaGreatDoor
open Go.ChangeShapes Go.WideShapes Go.ChangeAt Go.RowKit
def Rt.heft (r:Rt):Nat:=r.num.length+r.den.length
def Pt.heft (x:Pt):Nat:=x.x.heft+x.y.heft
theorem qn4 {α:Type} (g:α->Nat) {l:List α} {x:α} (h:x∈l):g x<=(l.map g).sum:=by
 induction l with
 | nil=>cases h
 | cons y l ih =>
  simp only [List.map_cons,List.sum_cons];rcases List.mem_cons.1 h with rfl | h
  · omega
  · have:=ih h;omega
theorem qve {l:List Pt} (h:(l.map Pt.heft).sum<=2000000):∀ x∈l,Pt.few x:=fun x hx=>by
 have h1:=qn4 Pt.heft hx;have h2:x.heft=(x.x.num.length+x.x.den.length)+(x.y.num.length+x.y.den.length):=rfl;unfold Pt.few Rt.few2
 omega
theorem qnu:Tryz.prog.cellsOf 69=6:=by kernel_rfl
def QA.list (x:QA):List Value:=[.bool x.neg,.slice x.a x.n x.c,.slice x.b x.m x.d]
section
variable {H : Type} {enc : TypeId × Value -> H} {W : World} {sp : Nat -> Bool} {held : Bool}
theorem qgh {n:Nat} {cs:List Value} {y:DataW H × List MemPlace} (h:DataW.trod enc Tryz.prog W 0 sp held n 51 cs=some y) :
  ∃ (r:Rt) (z:QA),cs=z.list/\RtZ W r z/\r.heft<=Rows.uptoBulk y.1:=by
 obtain ⟨b,na,nc,num,da,dc,den,e,h1,h2,h3⟩:=qhx h;refine ⟨⟨b,num,den⟩,⟨b,num.length,na,nc,den.length,da,dc⟩,e,⟨rfl,rfl,rfl,h1,h2⟩,?_⟩;unfold Rt.heft;dsimp only
 omega
theorem qs5 {n:Nat} {cs:List Value} {y:DataW H × List MemPlace} (h:DataW.trod enc Tryz.prog W 0 sp held n 69 cs=some y) :
  ∃ (r s:Rt) (z v:QA),cs=z.list++v.list/\RtZ W r z/\RtZ W s v/\r.heft+s.heft<=Rows.uptoBulk y.1:=by
 obtain ⟨xs,m,rfl,rfl,hcl,hxl,hf⟩:=DataW.trod_struct Tryz.underlying69 h;rw [qnu] at hcl;obtain ⟨c0,c1,c2,c3,c4,c5,rfl⟩:=len6 hcl;obtain ⟨y0,y1,rfl⟩:=len2 (show xs.length=2 from hxl);have h0:=hf 0 _ rfl;have h1:=hf 1 _ rfl;simp [qf6] at h0 h1;obtain ⟨r,z,e0,r0,w0⟩:=qgh h0;obtain ⟨s,v,e1,r1,w1⟩:=qgh h1;refine ⟨r,s,z,v,?_,r0,r1,?_⟩
 · rw [<- e0,<- e1];rfl
 ·
  simp [Rows.uptoBulk,Rows.uptoBulkAll] at w0 w1 ⊢
  omega
end
end Go.Proofs.YtfaalkneigpcnaaGreatDoor
namespace Go.Proofs.YtfaalkneigpcnaaGreatDoor
open Go.ChangeShapes Go.WideShapes Go.ChangeAt Go.RowKit
theorem qr5:Tryz.prog.cellsOf 36=3:=by kernel_rfl
theorem qp5:Tryz.prog.cellsOf 31=1:=by kernel_rfl
theorem qqz:Tryz.prog.cellsOf 32=1:=by kernel_rfl
theorem qqd:Tryz.prog.cellsOf 34=1:=by kernel_rfl
theorem qtz:Tryz.prog.cellsOf 4=1:=by kernel_rfl
theorem que:Tryz.prog.cellsOf 51=3:=by kernel_rfl
theorem len3I {α:Type} {l:List α} (h:l.length=3):∃ a b c,l=[a,b,c]:=by
 match l,h with
 | [a,b,c],_=>exact ⟨a,b,c,rfl⟩
section
variable {H : Type} {enc : TypeId × Value -> H} {W : World} {sp : Nat -> Bool} {held : Bool}
theorem qo6 {n:Nat} {cs:List Value} {y:DataW H × List MemPlace} (h:DataW.trod enc Tryz.prog W 0 sp held n 36 cs=some y) :
  ∃ (vals:List Rt) (pts:List Pt) (nb:Nat) (va ba pa:Option Addr) (vc bc pc:Nat),cs=[.slice va vals.length vc,.slice ba nb bc,.slice pa pts.length pc]/\RtsR W va vc vals/\PtsR W pa pc pts/\nb<=9223372036854775807/\(vals.map Rt.heft).sum+(pts.map Pt.heft).sum<=Rows.uptoBulk y.1:=by
 obtain ⟨xs,m,rfl,rfl,hcl,hxl,hf⟩:=DataW.trod_struct Tryz.underlying36 h;rw [qr5] at hcl;obtain ⟨c0,c1,c2,rfl⟩:=len3I hcl;obtain ⟨y0,y1,y2,rfl⟩:=len3I (show xs.length=3 from hxl);have h0:=hf 0 _ rfl;have h1:=hf 1 _ rfl;have h2:=hf 2 _ rfl;simp [qp5,qqz,qqd] at h0 h1 h2;obtain ⟨va,vc,vals,e0,r0,w0⟩:=qdx Tryz.underlying31 que (by omega) h0 (fun V b o r=>∃ z,qep V b o z/\RtZ V r z) Rt.heft (fun k cs' y b o hk ht hl hc=>by
  obtain ⟨r,z,rfl,hz,hw⟩:=qgh ht;refine ⟨r,⟨z,⟨?_,?_,?_⟩,hz⟩,hw⟩
  · have:=hc 0 (by omega);simpa [QA.list] using this
  · have:=hc 1 (by omega);simpa [QA.list] using this
  · have:=hc 2 (by omega);simpa [QA.list] using this)
 obtain ⟨ba,bc,bs,e1,r1,w1⟩:=qdx Tryz.underlying32 qtz (by omega) h1 (fun _ _ _ (_:Unit)=>True) (fun _=>0) (fun k cs' y b o hk ht hl hc=>⟨(),trivial,Nat.zero_le _⟩);obtain ⟨pa,pc,pts,e2,r2,w2⟩:=qdx Tryz.underlying34 qnu (by omega) h2 PtE Pt.heft (fun k cs' y b o hk ht hl hc=>by
  obtain ⟨x,s,z1,z2,rfl,r1,r2,hw⟩:=qs5 ht;refine ⟨⟨x,s⟩,⟨z1,z2,⟨?_,?_,?_⟩,⟨?_,?_,?_⟩,r1,r2⟩,hw⟩
  · have:=hc 0 (by omega);simpa [QA.list] using this
  · have:=hc 1 (by omega);simpa [QA.list] using this
  · have:=hc 2 (by omega);simpa [QA.list] using this
  · have:=hc 3 (by omega);simpa [QA.list] using this
  · have:=hc 4 (by omega);simpa [QA.list] using this
  · have:=hc 5 (by omega);simpa [QA.list] using this)
 simp at e0 e1 e2;subst e0 e1 e2;refine ⟨vals,pts,bs.length,va,ba,pa,vc,bc,pc,rfl,r0,r2,SlR.len r1,?_⟩;simp [Rows.uptoBulk,Rows.uptoBulkAll] at w0 w2 ⊢
 omega
theorem qku {r:Reach} {b0:Nat} {v:Value} {d:DataW H} {p:List MemPlace} (hv:Value.okWide Tryz.prog W r b0 36 v) (h:DataW.Trod enc Tryz.prog W 0 sp held 36 v d p) :
  ∃ (vals:List Rt) (pts:List Pt) (nb:Nat) (va ba pa:Option Addr) (vc bc pc:Nat),v=.agg #[.slice va vals.length vc,.slice ba nb bc,.slice pa pts.length pc]/\RtsR W va vc vals/\PtsR W pa pc pts/\nb<=9223372036854775807/\(vals.map Rt.heft).sum+(pts.map Pt.heft).sum<=Rows.uptoBulk d:=by
 obtain ⟨cs,rfl,_⟩:=okWide_struct Tryz.underlying36 hv;obtain ⟨n,hn⟩:=h;obtain ⟨vals,pts,nb,va,ba,pa,vc,bc,pc,h1,h2⟩:=qo6 hn;refine ⟨vals,pts,nb,va,ba,pa,vc,bc,pc,?_,h2⟩;obtain ⟨l⟩:=cs;simp [Value.cells] at h1;simp [h1]
end
theorem qv3 {l:List Rt} (h:(l.map Rt.heft).sum<=2000000):∀ r∈l,r.few2:=fun r hr=>by
 have h1:=qn4 Rt.heft hr;have h2:r.heft=r.num.length+r.den.length:=rfl;unfold Rt.few2
 omega
theorem qhc {v v':Value} {w:World} {n m:Nat} (h:∃ (f:Fig) (sa:Option Addr) (sc:Nat) (ga:Option Addr) (gc:Nat),v=f.val sa sc ga gc/\FigR w sa sc ga gc f/\f.weight<=n)
  (h':∃ (vals:List Rt) (pts:List Pt) (nb:Nat) (va ba pa:Option Addr) (vc bc pc:Nat),v'=.agg #[.slice va vals.length vc,.slice ba nb bc,.slice pa pts.length pc]/\RtsR w va vc vals/\PtsR w pa pc pts/\nb<=9223372036854775807/\(vals.map Rt.heft).sum+(pts.map Pt.heft).sum<=m) (hn:n+m<=1048576) :
  Calls Tryz.prog 5 #[v,v'] w fun r w'=>r=.returned (.bool true)/\Below w.heap.size w w':=by
 obtain ⟨f,sa,sc,ga,gc,rfl,hr,hw⟩:=h;obtain ⟨vals,pts,nb,va,ba,pa,vc,bc,pc,rfl,h1,h2,h3,h4⟩:=h';have hq:=Fig.few_of (f:=f) (by omega);have hnm:∀ s∈f.steps,s.point.size<=2000000:=fun s hs=>by
  have e1:=qfs Step.weight hs;have e2:s.weight=s.point.size+s.args.length+(s.ratio.num.length+s.ratio.den.length)+1:=rfl;unfold Fig.weight at hw
  omega
 obtain ⟨steps,goals⟩:=f;exact qhd steps goals vals pts sa ga va ba pa sc gc vc bc pc nb w hr hq hnm h1 h2 (qv3 (by omega)) (qve (by omega)) h3
end Go.Proofs.YtfaalkneigpcnaaGreatDoor
namespace Go.Proofs.YtfaalkneigpcnaaGreatDoor
open Go.ChangeShapes Go.WideShapes Go.ChangeAt Go.RowKit
theorem qkl {H:Type} {enc:TypeId × Value->H} {P:Program} (hl:laidOutB P=true) {W W':World} (hB:Below W.heap.size W W') :
  ∀ (ts:List TypeId) (vs:List Value) (ds:List (DataW H)) (p:List MemPlace),(ts.all fun t=>P.readableRec t&&decide (t<P.types.size))=true ->
   (∀ x∈p,x.block<W.heap.size)->DataW.TrodAll enc P W 0 (fun _=>true) true ts vs ds p->DataW.TrodAll enc P W' 0 (fun b=>decide (b<W.heap.size)) true ts vs ds p:=by
 intro ts
 induction ts with
 | nil=>intro vs ds p _ _ h;cases vs <;> cases ds <;> first | exact h | exact h.elim
 | cons t ts ih =>
  intro vs ds p ha hp h
  cases vs with
  | nil=>exact h.elim
  | cons v vs =>
   cases ds with
   | nil=>exact h.elim
   | cons d ds =>
    obtain ⟨p1,q1,h1,h2,rfl⟩:=h;simp only [List.all_cons,Bool.and_eq_true,decide_eq_true_eq] at ha;exact ⟨p1,q1,Below.trod hl ha.1.1 ha.1.2 h1 hB (fun x hx=>hp x (by simp [hx])),ih vs ds q1 ha.2 (fun x hx=>hp x (by simp [hx])) h2,rfl⟩
theorem qt9 {H:Type} {enc:TypeId × Value->H} {P:Program} {f:Func} {s:ChangeSpec} {W W':World} {args:Array Value} {ds gs:List (DataW H)} {before:List MemPlace} {tb:TypeId}
  (hl:laidOutB P=true) (hts:(f.params.toList.all fun t=>P.readableRec t&&decide (t<P.types.size))=true) (hr:f.resultTypes=#[tb]) (hb:P.underlying tb=some .bool) (hv:s.vars=[])
  (hW:DataW.Whole enc P f.params.toList s.vars false W args.toList ds gs before) (hfn:s.fn H (ds++gs)={ results:=[.lit (.bool true)],args:=ds,vars:=[] })
  (hB:Below W.heap.size W W'):s.post enc P f false true false false W args (.bool true) W':=by
 have hlt:=hW.lt;have hW0:=hW;obtain ⟨p,q,hA,hV,rfl,_,_⟩:=hW;rw [hv] at hV;obtain ⟨rfl,rfl⟩:=trodVars_none hV;refine ⟨ds,_,_,[],p,[],hW0,?_,?_,?_,hB.frame _,fun h=>by cases h⟩
 ·
  rw [hfn,hr];exact trodAll_mk1 (shut_bool hb true)
 ·
  rw [hfn];exact qkl hl hB _ _ _ _ hts (fun x hx=>by simpa using hlt x (by simp [hx])) hA
 ·
  rw [hfn,hv]
  rfl
end Go.Proofs.YtfaalkneigpcnaaGreatDoor
namespace Go.Proofs.YtfaalkneigpcnaaGreatDoor.instanceTextsUpto
open Go.ChangeShapes Go.WideShapes Go.ChangeAt Go.RowKit
set_option linter.unusedVariables false
theorem own:ownKnob Tryz.prog.godebug=none:=by kernel_rfl
theorem laidOut:laidOutB Tryz.prog=true:=by kernel_rfl
theorem readable:(Tryz.f5.params.toList.all fun t=>Tryz.prog.readableRec t&&decide (t<Tryz.prog.types.size))=true:=by kernel_rfl
theorem contract (H:Type) (enc:TypeId × Value->H) (W:World) (base:Nat) (args:Array Value) (ds gs:List (DataW H)) (before:List MemPlace)
  (hval:∀ (j:Nat) t v,Tryz.f5.params[j]? = some t->args[j]? = some v->Value.okWide Tryz.prog W .any base t v)
  (hW:DataW.Whole enc Tryz.prog Tryz.f5.params.toList Rows.instanceTextsSpec.vars false W args.toList ds gs before) (hk:Rows.uptoSmall H (ds++gs)=true) (hL:laidMetH Tryz.prog Rows.instanceTextsUptoRow.laid W) (hsh:W.ShapedOpen Tryz.prog) :
  Calls Tryz.prog 5 args W fun e W'=>∃ v,e=.returned v/\Rows.instanceTextsSpec.post enc Tryz.prog Tryz.f5 false true false false W args v W':=by
 have hW':=hW;obtain ⟨p,q,hA0,hV,rfl,hfz,hnd⟩:=hW;have hA:DataW.TrodAll enc Tryz.prog W 0 (fun _=>true) true Tryz.f5.params.toList args.toList ds p:=hA0;rw [Tryz.params5] at hA hval;obtain ⟨v0,vs0,d0,ds0,p0,q0,hargs,rfl,rfl,h0,r0⟩:=trodAll_cons hA;obtain ⟨v1,vs1,d1,ds1,p1,q1,rfl,rfl,rfl,h1,r1⟩:=trodAll_cons r0;obtain ⟨rfl,rfl,rfl⟩:=trodAll_nil r1;obtain rfl:args=#[v0,v1]:=by cases args;simp_all
 obtain ⟨rfl,rfl⟩:=trodVars_none hV;clear hA0 hA r0 r1;have hbulk:=of_decide_eq_true hk;simp only [List.cons_append,List.nil_append,Rows.uptoBulkAll] at hbulk;have hx0:=qm9 (hval 0 25 v0 rfl rfl) h0;have hx1:=qku (hval 1 36 v1 rfl rfl) h1;refine (qhc hx0 hx1 (by omega)).mono fun e W' ⟨he,hg⟩=>?_
 subst he;exact ⟨_,rfl,qt9 laidOut readable (by kernel_rfl) Tryz.underlying4 rfl hW' (by rfl) hg⟩
noncomputable def laidWorld (os:Os):World:=World.laidAll Tryz.prog os Rows.instanceTextsUptoRow.laid
def wargs:Array Value:=#[.agg #[.slice none 0 0,.slice none 0 0],.agg #[.slice none 0 0,.slice none 0 0,.slice none 0 0]]
theorem laid_met (os:Os):laidMet Tryz.prog Rows.instanceTextsUptoRow.laid ((laidWorld os).forCall (fun _ _=>0) ⟨#[],wargs,[]⟩).memory :=
 laidMet_laidAll wargs (by kernel_rfl) (by kernel_rfl)
theorem reads (os:Os) {H:Type} (enc:TypeId × Value->H):∃ places,DataW.whole enc Tryz.prog ((laidWorld os).forCall (fun _ _=>0) ⟨#[],wargs,[]⟩).memory Tryz.f5.params.toList Rows.instanceTextsSpec.vars false wargs.toList 8=some ([.agg [.nil,.nil],.agg [.nil,.nil,.nil]],[],places) :=
 ⟨[],by kernel_rfl⟩
theorem lifted (os:Os) (started:os.Started) (H:Type) (enc:TypeId × Value->H) (F:Stop.Interp) :
  ReturnsInHanded {} Tryz.checked os 5 .any ((Rows.OpenSpec.upto Rows.instanceTextsSpec).preRow enc Tryz.prog Tryz.f5 Rows.instanceTextsUptoRow.domain false Rows.instanceTextsUptoRow.laid) (((Rows.OpenSpec.upto Rows.instanceTextsSpec).at F).post enc Tryz.prog Tryz.f5 false true false false):=by
 obtain ⟨places,hx⟩:=reads os enc;refine returnsInHanded_of_row (C:=Tryz.checked) (s:=Rows.OpenSpec.upto Rows.instanceTextsSpec) own started (by kernel_rfl) Tryz.func5
  (witness_row_at (enc:=enc) (C:=Tryz.checked) false (laidWorld os) wargs (World.laidAll_os _ _ _) (by kernel_rfl) (by kernel_rfl) (by kernel_rfl)
   (OpenSpec.preRow_of_cond 8 hx (by kernel_rfl) (fun k hk=>by cases hk;kernel_rfl) (by kernel_rfl) (laid_met os))) ?_
 intro W base args ds gs before hval hW _ hcond _ hL hsh _;exact contract H enc W base args ds gs before hval hW (hcond _ rfl) hL hsh
theorem said:Rows.InstanceTextsUptoSaid :=
 OpenClaim.holds_of_cond 5 Tryz.f5 rfl rfl rfl rfl rfl rfl rfl ⟨rfl,rfl,rfl,rfl,rfl⟩ rfl rfl rfl rfl rfl (by kernel_rfl) Tryz.func5 (by kernel_rfl)
  (of_decide_eq_true (by kernel_rfl)) (by unfold Func.isWrapper;first | (rw [if_pos (by decide +kernel)];kernel_rfl) | (rw [if_neg (by decide +kernel)];exact ⟨rfl,rfl⟩))
  (fun os started H enc _ F=>by rw [OpenClaim.pre_eq_preRow];exact lifted os started H enc F)
theorem plain (f : FuncId) (fn : Func) (hf : Tryz.pinned.checked.prog.funcNamed "geoprover/geoproverlaw26.InstanceTexts" = some f) (hfn : Tryz.pinned.checked.prog.funcs[f]? = some fn) :
  false=Tryz.pinned.checked.prog.looks []/\∀ (j:Nat) t,fn.params[j]? = some t->Tryz.pinned.checked.prog.wantsStandIn t=false:=by
 obtain rfl : f = 5 := Option.some.inj ((show Tryz.prog.funcNamed "geoprover/geoproverlaw26.InstanceTexts" = some 5 by kernel_rfl).symm.trans hf) |>.symm
 obtain rfl:fn=Tryz.f5:=(Option.some.inj (Tryz.func5.symm.trans hfn)).symm;refine ⟨by kernel_rfl,fun j t ht=>?_⟩;rw [Tryz.params5] at ht;obtain rfl | rfl:t=25\/t=36:=by simpa using Array.mem_of_getElem? ht
 · exact (show Tryz.prog.wantsStandIn 25=false by kernel_rfl)
 · exact (show Tryz.prog.wantsStandIn 36=false by kernel_rfl)
theorem card:Rows.InstanceTextsUptoCardSaid :=
 Claim7.holds_tied_plain_at .later [] _ _ _ _ said (fun _ h=>by cases h) (by kernel_rfl) (fun _ h=>by cases h) instanceTextsUpto_row_tie rfl ⟨rfl,rfl⟩ (by kernel_rfl) rfl plain (by kernel_rfl)
#print axioms said
#print axioms card
end Go.Proofs.YtfaalkneigpcnaaGreatDoor.instanceTextsUpto
