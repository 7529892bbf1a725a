/- Walks: the polynomials of a goal of kind 9 (layer 24: polys). Printed by prob/hypa.py. -/
import Derived.Test.YtmdlbpibipnapaaGreatRd20
import Derived.Test.YtmdlbpibipnapaaGreatRd23
import Derived.Test.YtmdlbpibipnapaaGreatRd22
import Derived.Test.YtmdlbpibipnapaaGreatRd11
import Derived.Test.YtmdlbpibipnapaaGreatRd1
set_option linter.all false
set_option maxRecDepth 100000
set_option maxHeartbeats 4000000
namespace Go.Proofs.YtmdlbpibipnapaaGreat
open Go.RowKit
structure CQ where
 k:Int
 a:Option Addr
 n:Nat
 c:Nat
 i:Nat
def CQ.cs (q:CQ):List Value:=[.int .i64 q.k,.slice q.a q.n q.c,.int .i64 q.i]
theorem CQ.cs_len (q:CQ):q.cs.length=3:=rfl
theorem CQ.cs_one (q:CQ):∀ u∈q.cs,u.oneCell'=true:=by simp [CQ.cs,Value.oneCell']
abbrev Cnd:=Int × List Int × Nat
def CdE (V:World) (b o:Nat) (q:Cnd):Prop:=∃ a c,V.cell? ⟨b,o,none⟩=some (.int .i64 q.1)/\V.cell? ⟨b,o+1,none⟩=some (.slice a q.2.1.length c)/\V.cell? ⟨b,o+2,none⟩=some (.int .i64 q.2.2)/\IntsR V a c q.2.1
def CdR (V:World) (a:Option Addr) (c:Nat) (l:List Cnd):Prop:=SlR 3 CdE V a c l
abbrev OwnCd (B:Nat) (w:World) (a:Option Addr) (c:Nat) (l:List CQ):Prop:=Own CQ.cs 3 88 B w a c l
theorem qaa7:(Tryz.prog.info? 88).map (fun i=>(i.zero,i.size,i.bytes))=some (some (.agg #[.int .i64 0,.slice none 0 0,.int .i64 0]),3,40):=by kernel_rfl
def AllC (X:Nat->Prop) (w:World) (l:List CQ) (cs:List Cnd):Prop:=l.length=cs.length/\∀ (k:Nat) (q:CQ) (c:Cnd),l[k]? = some q->cs[k]? = some c->q.k=c.1/\q.n=c.2.1.length/\q.i=c.2.2/\Rd X w fun V=>IntsR V q.a q.c c.2.1
theorem AllC.nil {X:Nat->Prop} {w:World}:AllC X w [] []:=⟨rfl,fun k t u h=>by simp at h⟩
theorem AllC.map {X Y:Nat->Prop} {w w':World} {l:List CQ} {p:List Cnd} (h:AllC X w l p) (e:∀ R,Rd X w R->Rd Y w' R):AllC Y w' l p :=
 ⟨h.1,fun k t u h1 h2=>⟨(h.2 k t u h1 h2).1,(h.2 k t u h1 h2).2.1,(h.2 k t u h1 h2).2.2.1,e _ (h.2 k t u h1 h2).2.2.2⟩⟩
theorem AllC.push {X Y:Nat->Prop} {w w':World} {l:List CQ} {p:List Cnd} {x:CQ} {q:Cnd} (h:AllC X w l p) (h1:x.k=q.1) (h2:x.n=q.2.1.length) (h3:x.i=q.2.2) (hx:Rd X w fun V=>IntsR V x.a x.c q.2.1) (e:∀ R,Rd X w R->Rd Y w' R):AllC Y w' (l++[x]) (p++[q]):=by
 refine ⟨by simp [h.1],fun k t u g1 g2=>?_⟩;rcases Nat.lt_or_ge k l.length with e1 | e1
 ·
  rw [List.getElem?_append_left e1] at g1;rw [List.getElem?_append_left (by rw [<- h.1];exact e1)] at g2;exact (h.map e).2 k t u g1 g2
 ·
  rw [List.getElem?_append_right e1] at g1;rw [List.getElem?_append_right (by rw [<- h.1];exact e1),<- h.1] at g2
  cases hk:k-l.length with
  | zero =>
   rw [hk] at g1 g2;simp at g1 g2;subst g1 g2;exact ⟨h1,h2,h3,e _ hx⟩
  | succ j=>rw [hk] at g1;simp at g1
def CdsOk (steps:List Step) (cs:List Cnd):Prop:=∀ c∈cs,∃ s,steps[c.2.2]? = some s/\condP s=some (c.1,c.2.1)
theorem qtc (k i:Int) (args:List Int) (a a':Option Addr) (c c':Nat) (w:World) (h1:IntsR w a c args) (h2:IntsR w a' c' args) :
  Calls Tryz.prog 99 #[.agg #[.int .i64 k,.slice a args.length c,.int .i64 i],.agg #[.int .i64 k,.slice a' args.length c',.int .i64 i]] w fun e w'=>e=.returned (.bool true)/\Below w.heap.size w w':=by
 have H1:=Hd h1;have H2:=Hd h2;have hl:=h1.len;clear h1 h2;go_enter Tryz.func99,Tryz.ntmps99;go_wp2;refine qaa (fun W=>Blk W w.heap.size 88 #[.int .i64 k,.slice a args.length c,.int .i64 i]/\Blk W (w.heap.size+1) 88 #[.int .i64 k,.slice a' args.length c',.int .i64 i]/\Below w.heap.size w W) ⟨bk,bk,zg⟩ ?_;rintro w0 ⟨B1,B2,hw0⟩;obtain ⟨g2,hg2⟩:=nm (w.heap.size+1)
 obtain ⟨g1,hg1⟩:=nm w.heap.size
 rw [hg2] at B2 ⊢;have B1':Blk w0 g1 88 #[.int .i64 k,.slice a args.length c,.int .i64 i]:=hg1 ▸ B1;simp only [hg1];replace hg1:=Hd hg1;replace hg2:=Hd hg2;clear B1
 go_loopg [5] args.length (fun m q wr=>∃ j:Nat,Hid (j+m=args.length)/\q=.int .i64 j/\Hid (Below w0.heap.size w0 wr))
 case atStart=>exact ⟨0,by show _=_;omega,rfl,Below.refl _ _⟩
 case round =>
  obtain ⟨j,hm,rfl,hwr⟩:=hrel;have BA:=B1'.below' hwr.out;have BB:=B2.below' hwr.out;obtain ⟨x0,x1,x2⟩:=cq3 BA;obtain ⟨y0,y1,y2⟩:=cq3 BB;have hF:=Hd (bth hw0 hwr.out);by_cases hlt:j<args.length
  ·
   obtain ⟨v,hv⟩:=qab hlt;obtain ⟨ab,ao,rfl,hc⟩:=(H1.out.ext (xbw hF.out)).2.2 j v hv;obtain ⟨bb,bo,rfl,hc2⟩:=(H2.out.ext (xbw hF.out)).2.2 j v hv;have u0:=hc.1;have u1:=hc2.1;rw [Nat.mul_one] at u0 u1;have hjI:(j:Int)<(args.length:Int):=oo
   replace hv:=Hd hv;clear hc hc2;go_wp2;refine wrx (S:=(fun x=>x=wr.drew)) [(0,.q),(1,.q),(2,.q),(3,.q),(4,.q),(5,.q),(6,.q),(7,.q),(8,.q),(9,.q),(10,.p)] (rfl) ?_
   iterate 10 (refine qaf rfl rfl fun K hK=>xq ?_;go_simp;refine hK _ _ ?_;clear hK K)
   refine qaj rfl rfl fun K hK=>xp ?_;go_simp;refine hK _ _ ?_;clear hK K
   refine qad ?_;clear x0 x1 x2 y0 y1 y2 u0 u1;go_wp2;go_roundg (gk-1)
   case rel=>exact ⟨j+1,by have:=hm.out;show _=_;omega,by go_num,hwr.out.drew⟩
   case measure=>have:=hm.out;omega
  ·
   have hjI:¬ (j:Int)<(args.length:Int):=oo
   go_wp2;go_ret;exact ⟨rfl,hF.out⟩
theorem qff (steps:List Step) (sa ga:Option Addr) (sc ng gc i:Nat) (s:Step) (k:Int) (args:List Int) (a:Option Addr) (c:Nat) (w:World) (hS:qbi w sa sc steps) (hsi:steps[i]? = some s) (har:(s.args.length:Int)=qar s.kind) (hcd:condP s=some (k,args)) (hA:IntsR w a c args) :
  Calls Tryz.prog 61 #[.agg #[.int .i64 k,.slice a args.length c,.int .i64 i],.agg #[.slice sa steps.length sc,.slice ga ng gc]] w fun e w'=>e=.returned (.bool true)/\Below w.heap.size w w':=by
 have hlt:i<steps.length:=qai hsi;have lS:=SlR.len hS;have C:=fun W (hW:bw w W)=>qk9 steps sa ga sc ng gc i s W (hS.ext (xbw hW)) hsi har
 rw [hcd] at C;have hA':=Hd hA;have lA:=hA.len;replace C:=Hd C;clear hS hsi har hcd hA;have q1:decide ((i:Int)<0)=false:=decide_eq_false oo;have q2:decide (steps.length<=i)=false:=decide_eq_false oo;have q3:decide ((steps.length:Int)<=(i:Int))=false:=decide_eq_false oo;go_enter Tryz.func61,Tryz.ntmps61;go_wp2_with fail;refine qae (fun W=>Blk W w.heap.size 88 #[.int .i64 k,.slice a args.length c,.int .i64 i]/\Blk W (w.heap.size+1) 25 #[.slice sa steps.length sc,.slice ga ng gc]/\Below w.heap.size w W) ⟨bk,bk,zg⟩ ?_;rintro w0 ⟨B1,B2,hw0⟩;obtain ⟨g2,hg2⟩:=nm (w.heap.size+1)
 obtain ⟨g1,hg1⟩:=nm w.heap.size
 rw [hg2] at B2 ⊢;have B1':Blk w0 g1 88 #[.int .i64 k,.slice a args.length c,.int .i64 i]:=hg1 ▸ B1;simp only [hg1];replace hg1:=Hd hg1;replace hg2:=Hd hg2;refine (C.out w0 hw0).mono ?_;rintro e w1 ⟨hb1,ia,ic,rfl,hI⟩;have hw1:=bth hw0 hb1;have BA:=B1'.below' hb1;obtain ⟨x0,x1,x2⟩:=cq3 BA;have lB:=BA.lt;have hI1:=(hI (fun _=>False) fun b hb=>hb.elim).now;have CS:=fun W (hW:Below w1.heap.size w1 W)=>qtc k i args a ia c ic W ((hA'.out.ext (xbw hw1)).ext (xbw hW)) (hI1.ext (xbw hW))
 replace CS:=Hd CS;replace hI:=Hd hI;replace hI1:=Hd hI1;clear C B1 B1' B2 hb1;go_wp2_with fail;refine qae (fun W=>Below w1.heap.size w1 W) (by go_grown) ?_;intro w2 hw2;refine (CS.out w2 hw2).mono ?_;rintro e w3 ⟨rfl,hb3⟩;have hw3:=bth hw1 (bth hw2 hb3);clear x0 x1 x2 CS hw2 hb3;go_wp2;go_ret;exact ⟨rfl,hw3⟩
structure Pk (args : List Int) (hs : List (VQ × Vec)) (w : World) (D M L ab ao rb ro j n : Nat) (q : VQ) (v : Vec) : Prop where
 hy:args[j]? = some (n:Int)
 hz:hs[n]? = some (q,v)
 d:w.cell? ⟨ab,ao+j,none⟩=some (.int .i64 (n:Int))
 sa:w.cell? ⟨rb,ro+n*2,none⟩=some (.slice q.a v.1.length q.c)
 sb:w.cell? ⟨rb,ro+n*2+1,none⟩=some (.slice q.b v.2.length q.d)
 hv:VecX (fun _=>False) w q v
 gv:GV D M L v
 lN:j<args.length
 mN:n<hs.length
theorem qdn {args:List Int} {hs:List (VQ × Vec)} {x:Frm} {aa ra va:Option Addr} {ac rc vc D M L:Nat} {w:World} (hA:IntsR w aa ac args) (hF:FrR w x hs ra rc va vc) (hG:∀ n:Nat,(n:Int)∈args->∀ {z:VQ × Vec},hs[n]? = some z->GV D M L z.2)
  (hr:∀ y∈args,0<=y/\y<(hs.length:Int)) (h0:0<args.length):∃ ab ao rb ro,aa=some ⟨ab,ao,none⟩/\ra=some ⟨rb,ro,none⟩/\ab<w.heap.size/\rb<w.heap.size/\∀ j,j<args.length->∃ (n:Nat) (q:VQ) (v:Vec),Pk args hs w D M L ab ao rb ro j n q v:=by
 obtain ⟨y0,hy0⟩:=qab h0;obtain ⟨ab,ao,hab,d0,_⟩:=hA.2.2 0 _ hy0;have hr0:=hr y0 (List.mem_of_getElem? hy0);obtain ⟨z0,hz0⟩:=qab (xs:=hs) (k:=0) oo;obtain ⟨rb,ro,hrb,s0,_⟩:=hF.co.2.2 0 _ hz0;refine ⟨ab,ao,rb,ro,hab,hrb,World.block_lt_of_cell? w _ d0,World.block_lt_of_cell? w _ s0,fun j hj=>?_⟩;obtain ⟨y,hy⟩:=qab hj;have hyr:=hr y (List.mem_of_getElem? hy);obtain ⟨n,rfl⟩:∃ n:Nat,y=(n:Int):=⟨y.toNat,oo⟩
 obtain ⟨ab',ao',hab',d,_⟩:=hA.2.2 j _ hy;rw [hab] at hab';injection hab' with hab';injection hab' with q1 q2;subst q1 q2
 obtain ⟨⟨q,v⟩,hz⟩:=qab (xs:=hs) (k:=n) oo;obtain ⟨rb',ro',hrb',sa,sb⟩:=hF.co.2.2 n _ hz;rw [hrb] at hrb';injection hrb' with hrb';injection hrb' with q1 q2;subst q1 q2
 rw [Nat.mul_one] at d;exact ⟨n,q,v,hy,hz,d,sa,sb,hF.all _ (List.mem_of_getElem? hz),hG n (List.mem_of_getElem? hy) hz,hj,oo⟩
theorem qzk {l:List Int} {j:Nat} (h:j<l.length):l.getD j 0∈l:=by
 obtain ⟨y,hy⟩:=qab h;rw [List.getD_eq_getElem?_getD,hy,Option.getD_some];exact List.mem_of_getElem? hy
theorem qru {s:Step} {k:Int} {args:List Int} (har:(s.args.length:Int)=qar s.kind) (h:condP s=some (k,args)) :
  ((k=1/\args.length=2)\/(k=2/\args.length=3)\/(k=3/\args.length=4)\/(k=4/\args.length=0))/\∀ x∈args,x∈s.args:=by
 unfold condP at h;have A:=fun j (hj:j<s.args.length)=>qzk hj
 by_cases e6:s.kind=6
 · rw [if_pos e6] at h;simp at h;obtain ⟨rfl,rfl⟩:=h;simp
 rw [if_neg e6] at h;by_cases e7:s.kind=7\/s.kind=8
 ·
  rw [if_pos e7] at h;simp at h;obtain ⟨rfl,rfl⟩:=h;have hl:s.args.length=3:=by unfold qar at har;rcases e7 with e | e <;> simp [e] at har <;> omega
  refine ⟨by simp,fun x hx=>?_⟩;simp at hx;rcases hx with rfl | rfl <;> exact A _ oo
 rw [if_neg e7] at h;by_cases e9:s.kind=9
 ·
  rw [if_pos e9] at h;simp at h;obtain ⟨rfl,rfl⟩:=h;have hl:s.args.length=4:=by unfold qar at har;simp [e9] at har;omega
  refine ⟨by simp,fun x hx=>?_⟩;simp at hx;rcases hx with rfl | rfl | rfl | rfl <;> exact A _ oo
 rw [if_neg e9] at h;by_cases e10:s.kind=10\/s.kind=12\/s.kind=14
 ·
  rw [if_pos e10] at h;simp at h;obtain ⟨rfl,rfl⟩:=h;have hl:2<=s.args.length:=by unfold qar at har;rcases e10 with e | e | e <;> simp [e] at har <;> omega
  refine ⟨by simp,fun x hx=>?_⟩;simp at hx;rcases hx with rfl | rfl <;> exact A _ oo
 rw [if_neg e10] at h;by_cases e11:s.kind=11
 ·
  rw [if_pos e11] at h;simp at h;obtain ⟨rfl,rfl⟩:=h;have hl:s.args.length=3:=by unfold qar at har;simp [e11] at har;omega
  refine ⟨by simp,fun x hx=>?_⟩;simp at hx;rcases hx with rfl | rfl | rfl <;> exact A _ oo
 rw [if_neg e11] at h;by_cases e13:s.kind=13
 ·
  rw [if_pos e13] at h;simp at h;obtain ⟨rfl,rfl⟩:=h;have hl:s.args.length=4:=by unfold qar at har;simp [e13] at har;omega
  refine ⟨by simp,fun x hx=>?_⟩;simp at hx;rcases hx with rfl | rfl <;> exact A _ oo
 rw [if_neg e13] at h
 cases h
def RetPE (w:World) (e:Ending) (w':World):Prop:=Below w.heap.size w w'/\∃ a n c,e=.returned (.tuple #[.slice a n c,.int .i64 0])/\n<=9223372036854775807
theorem qxl (steps:List Step) (x:Frm) (hs:List (VQ × Vec)) (sa ga ra va:Option Addr) (sc ng gc rc vc i:Nat) (s:Step) (k:Int) (args:List Int) (aa:Option Addr) (ac:Nat) (D M:Nat) (w:World) (hS:qbi w sa sc steps) (hsi:steps[i]? = some s) (har:(s.args.length:Int)=qar s.kind) (hcd:condP s=some (k,args)) (hA:IntsR w aa ac args) (hF:FrR w x hs ra rc va vc) (H:GB D M) (hG:∀ n:Nat,∀ y:Int,y∈args->∀ {z:VQ × Vec},hs[n]? = some z->GV D M 8 z.2) (hr:∀ y∈args,0<=y/\y<(hs.length:Int)) (hvl:x.vars.length<=1000) (e0:k=1) (hlen:args.length=2) :
  Calls Tryz.prog 33 #[.agg #[.int .i64 k,.slice aa args.length ac,.int .i64 i],.agg #[.slice sa steps.length sc,.slice ga ng gc],.agg #[.slice ra hs.length rc,.slice va x.vars.length vc]] w (RetPE w):=by
 have CR:=fun W (hW:bw w W)=>qff steps sa ga sc ng gc i s k args aa ac W (hS.ext (xbw hW)) hsi har hcd (hA.ext (xbw hW))
 have lA:=hA.len;have lH:=SlR.len hF.co;obtain ⟨ab,ao,rb,ro,hab,hrb,hal,hrl,PK⟩:=qdn hA hF (fun n hn=>hG n _ hn) hr oo;obtain ⟨n0,qv0,v0,hy0,hz0,d0,s0a,s0b,hv0,gv0,lN0,mN0⟩:=PK 0 oo;obtain ⟨n1,qv1,v1,hy1,hz1,d1,s1a,s1b,hv1,gv1,lN1,mN1⟩:=PK 1 oo;have hX:∀ b,(fun _:Nat=>False) b->b<w.heap.size:=fun b hb=>hb.elim
 have l0:(0:Int)<(args.length:Int):=oo
 have m0:(n0:Int)<(hs.length:Int):=oo
 have l1:(1:Int)<(args.length:Int):=oo
 have m1:(n1:Int)<(hs.length:Int):=oo
 rw [Nat.add_zero] at d0;clear PK;subst e0;have z1:Gr D M 2 128 512 (normP v0 v1):=norm8 gv0 gv1;have C1:=fun W (hW:bw w W)=>qbm (fun _=>False) v0 v1 qv0 qv1 D M W (fun b hb=>ltl (hX b hb) hW.size) H (hv0.call hW) (hv1.call hW) gv0 gv1
 revert C1;clear z1;generalize normP v0 v1=y1;intro C1;replace C1:=Hd C1;clear hX hy0 hz0 hv0 gv0 hy1 hz1 hv1 gv1;have aab:=hab;subst hab;subst hrb;have d0':=held d0;have sa0:=held s0a;have sb0:=held s0b;have d1':=held d1;have sa1:=held s1a;have sb1:=held s1b;clear aab d0 s0a s0b d1 s1a s1b;replace hlen:=Hd hlen;replace CR:=Hd CR;clear hS hsi har hcd hA hF H hG hr;go_enter Tryz.func33,Tryz.ntmps33;go_wp2_with fail
 refine qae (fun W=>Blk W w.heap.size 88 #[.int .i64 1,.slice (some ⟨ab,ao,none⟩) args.length ac,.int .i64 i]/\Blk W (w.heap.size+1+1) 37 #[.slice (some ⟨rb,ro,none⟩) hs.length rc,.slice va x.vars.length vc]/\Below w.heap.size w W) ⟨bk,bk,zg⟩ ?_;rintro w0 ⟨B1,B3,hw0⟩;obtain ⟨g3,hg3⟩:=nm (w.heap.size+1+1)
 obtain ⟨g2,hg2⟩:=nm (w.heap.size+1)
 obtain ⟨g1,hg1⟩:=nm w.heap.size
 rw [hg3] at B3 ⊢;have B1':Blk w0 g1 88 #[.int .i64 1,.slice (some ⟨ab,ao,none⟩) args.length ac,.int .i64 i]:=hg1 ▸ B1;rw [hg2];simp only [hg1];replace hg1:=Hd hg1;replace hg2:=Hd hg2;replace hg3:=Hd hg3;refine (CR.out w0 hw0).mono ?_;rintro e w1 ⟨rfl,hb1⟩;have hw1:=bth hw0 hb1;have BA:=B1'.below' hb1;have BF:=B3.below' hb1;have x0:=held (BA.cell 0);have x1:=held (BA.cell 1);have x2:=held (BA.cell 2);have f0:=held (BF.cell 0);have f1:=held (BF.cell 1);obtain ⟨px0,px1,px2⟩:=cq3 BA;obtain ⟨pf0,pf1⟩:=cq2 BF;have lB:=BA.lt;have lF:=BF.lt;clear CR B1 B1' B3 hb1;have k0:=held (d0' w1 hw1);have ka0:=held (sa0 w1 hw1);have kb0:=held (sb0 w1 hw1);have k1:=held (d1' w1 hw1);have ka1:=held (sa1 w1 hw1);have kb1:=held (sb1 w1 hw1);clear d0' sa0 sb0 d1' sa1 sb1;go_wp2;clear px0 px1 px2 pf0 pf1;have s0:Below w1.heap.size w1 w1.drew:=brf.drew
 refine wrx (S:=Below w1.heap.size w1) [(0,.q),(1,.q),(2,.q),(3,.q),(4,.q),(5,.q),(6,.q),(7,.q),(8,.q),(9,.q),(10,.q),(11,.q),(12,.q),(13,.q),(14,.t),(15,.p),(16,.p)] (s0) ?_
 iterate 14 (refine qaf rfl rfl fun K hK=>xq ?_;go_simp;refine hK _ _ ?_;clear hK K)
 refine vt fun K hK=>?_
 go_simp;refine (C1.out w1.drew (bth hw1 s0)).mono ?_;rintro r w1 ⟨a1,c1,rfl,hP1,hb1⟩;dsimp only;refine hK.out _ _ ?_;clear hK K;have s1:=bth s0 hb1;replace hP1:=Hd hP1;clear C1 hb1
 iterate 2 (refine qaj rfl rfl fun K hK=>xp ?_;go_simp;refine hK _ _ ?_;clear hK K)
 refine qad ?_;have hwF:=bth hw1 s1;have hcap:=hP1.out.len;clear x0 x1 x2 f0 f1 k0 ka0 kb0 k1 ka1 kb1;replace hcap:=Hd hcap;go_wp2;refine bodyPost_ret (v:=.tuple #[.slice a1 y1.length c1,.int .i64 0]) (by simp [results,Tryz.results33,go_sem]) rfl ?_;exact ⟨hwF,a1,_,c1,rfl,hcap.out⟩
theorem qw2 (steps:List Step) (x:Frm) (hs:List (VQ × Vec)) (sa ga ra va:Option Addr) (sc ng gc rc vc i:Nat) (s:Step) (k:Int) (args:List Int) (aa:Option Addr) (ac:Nat) (D M:Nat) (w:World) (hS:qbi w sa sc steps) (hsi:steps[i]? = some s) (har:(s.args.length:Int)=qar s.kind) (hcd:condP s=some (k,args)) (hA:IntsR w aa ac args) (hF:FrR w x hs ra rc va vc) (H:GB D M) (hG:∀ n:Nat,∀ y:Int,y∈args->∀ {z:VQ × Vec},hs[n]? = some z->GV D M 8 z.2) (hr:∀ y∈args,0<=y/\y<(hs.length:Int)) (hvl:x.vars.length<=1000) (e0:k=2) (hlen:args.length=3) :
  Calls Tryz.prog 33 #[.agg #[.int .i64 k,.slice aa args.length ac,.int .i64 i],.agg #[.slice sa steps.length sc,.slice ga ng gc],.agg #[.slice ra hs.length rc,.slice va x.vars.length vc]] w (RetPE w):=by
 have CR:=fun W (hW:bw w W)=>qff steps sa ga sc ng gc i s k args aa ac W (hS.ext (xbw hW)) hsi har hcd (hA.ext (xbw hW))
 have lA:=hA.len;have lH:=SlR.len hF.co;obtain ⟨ab,ao,rb,ro,hab,hrb,hal,hrl,PK⟩:=qdn hA hF (fun n hn=>hG n _ hn) hr oo;obtain ⟨n0,qv0,v0,hy0,hz0,d0,s0a,s0b,hv0,gv0,lN0,mN0⟩:=PK 0 oo;obtain ⟨n1,qv1,v1,hy1,hz1,d1,s1a,s1b,hv1,gv1,lN1,mN1⟩:=PK 1 oo;obtain ⟨n2,qv2,v2,hy2,hz2,d2,s2a,s2b,hv2,gv2,lN2,mN2⟩:=PK 2 oo;have hX:∀ b,(fun _:Nat=>False) b->b<w.heap.size:=fun b hb=>hb.elim
 have l0:(0:Int)<(args.length:Int):=oo
 have m0:(n0:Int)<(hs.length:Int):=oo
 have l1:(1:Int)<(args.length:Int):=oo
 have m1:(n1:Int)<(hs.length:Int):=oo
 have l2:(2:Int)<(args.length:Int):=oo
 have m2:(n2:Int)<(hs.length:Int):=oo
 rw [Nat.add_zero] at d0;clear PK;subst e0;have z1:Gr D M 2 128 512 (qas v0 v1 v0 v2):=qeb gv0 gv1 gv0 gv2;have C1:=fun W (hW:bw w W)=>qb5 (fun _=>False) v0 v1 v0 v2 qv0 qv1 qv0 qv2 D M W (fun b hb=>ltl (hX b hb) hW.size) H (hv0.call hW) (hv1.call hW) (hv0.call hW) (hv2.call hW) gv0 gv1 gv0 gv2
 revert C1;clear z1;generalize qas v0 v1 v0 v2=y1;intro C1;replace C1:=Hd C1;clear hX hy0 hz0 hv0 gv0 hy1 hz1 hv1 gv1 hy2 hz2 hv2 gv2;have aab:=hab;subst hab;subst hrb;have d0':=held d0;have sa0:=held s0a;have sb0:=held s0b;have d1':=held d1;have sa1:=held s1a;have sb1:=held s1b;have d2':=held d2;have sa2:=held s2a;have sb2:=held s2b;clear aab d0 s0a s0b d1 s1a s1b d2 s2a s2b;replace hlen:=Hd hlen;replace CR:=Hd CR;clear hS hsi har hcd hA hF H hG hr;go_enter Tryz.func33,Tryz.ntmps33;go_wp2_with fail
 refine qae (fun W=>Blk W w.heap.size 88 #[.int .i64 2,.slice (some ⟨ab,ao,none⟩) args.length ac,.int .i64 i]/\Blk W (w.heap.size+1+1) 37 #[.slice (some ⟨rb,ro,none⟩) hs.length rc,.slice va x.vars.length vc]/\Below w.heap.size w W) ⟨bk,bk,zg⟩ ?_;rintro w0 ⟨B1,B3,hw0⟩;obtain ⟨g3,hg3⟩:=nm (w.heap.size+1+1)
 obtain ⟨g2,hg2⟩:=nm (w.heap.size+1)
 obtain ⟨g1,hg1⟩:=nm w.heap.size
 rw [hg3] at B3 ⊢;have B1':Blk w0 g1 88 #[.int .i64 2,.slice (some ⟨ab,ao,none⟩) args.length ac,.int .i64 i]:=hg1 ▸ B1;rw [hg2];simp only [hg1];replace hg1:=Hd hg1;replace hg2:=Hd hg2;replace hg3:=Hd hg3;refine (CR.out w0 hw0).mono ?_;rintro e w1 ⟨rfl,hb1⟩;have hw1:=bth hw0 hb1;have BA:=B1'.below' hb1;have BF:=B3.below' hb1;have x0:=held (BA.cell 0);have x1:=held (BA.cell 1);have x2:=held (BA.cell 2);have f0:=held (BF.cell 0);have f1:=held (BF.cell 1);obtain ⟨px0,px1,px2⟩:=cq3 BA;obtain ⟨pf0,pf1⟩:=cq2 BF;have lB:=BA.lt;have lF:=BF.lt;clear CR B1 B1' B3 hb1;have k0:=held (d0' w1 hw1);have ka0:=held (sa0 w1 hw1);have kb0:=held (sb0 w1 hw1);have k1:=held (d1' w1 hw1);have ka1:=held (sa1 w1 hw1);have kb1:=held (sb1 w1 hw1);have k2:=held (d2' w1 hw1);have ka2:=held (sa2 w1 hw1);have kb2:=held (sb2 w1 hw1);clear d0' sa0 sb0 d1' sa1 sb1 d2' sa2 sb2;go_wp2;clear px0 px1 px2 pf0 pf1
 have s0:Below w1.heap.size w1 w1.drew:=brf.drew;refine wrM (S:=Below w1.heap.size w1) [(0,.q),(1,.q),(2,.q),(3,.q),(4,.q),(5,.q),(6,.q),(7,.q),(8,.q),(9,.q),(10,.q),(11,.q),(12,.q),(13,.q),(14,.q),(15,.q),(16,.q),(17,.q),(18,.q),(19,.q),(20,.q),(21,.q),(22,.q),(23,.q),(24,.q),(25,.q),(26,.q),(27,.q),(28,.t),(29,.p),(30,.p)] (s0) ?_
 iterate 28 (refine qaf rfl rfl fun K hK=>xq ?_;go_simp;refine hK _ _ ?_;clear hK K)
 refine vt fun K hK=>?_
 go_simp;refine (C1.out w1.drew (bth hw1 s0)).mono ?_;rintro r w1 ⟨a1,c1,rfl,hP1,hb1⟩;dsimp only;refine hK.out _ _ ?_;clear hK K;have s1:=bth s0 hb1;replace hP1:=Hd hP1;clear C1 hb1
 iterate 2 (refine qaj rfl rfl fun K hK=>xp ?_;go_simp;refine hK _ _ ?_;clear hK K)
 refine qad ?_;have hwF:=bth hw1 s1;have hcap:=hP1.out.len;clear x0 x1 x2 f0 f1 k0 ka0 kb0 k1 ka1 kb1 k2 ka2 kb2;replace hcap:=Hd hcap;go_wp2;refine bodyPost_ret (v:=.tuple #[.slice a1 y1.length c1,.int .i64 0]) (by simp [results,Tryz.results33,go_sem]) rfl ?_;exact ⟨hwF,a1,_,c1,rfl,hcap.out⟩
theorem qvp (steps:List Step) (x:Frm) (hs:List (VQ × Vec)) (sa ga ra va:Option Addr) (sc ng gc rc vc i:Nat) (s:Step) (k:Int) (args:List Int) (aa:Option Addr) (ac:Nat) (D M:Nat) (w:World) (hS:qbi w sa sc steps) (hsi:steps[i]? = some s) (har:(s.args.length:Int)=qar s.kind) (hcd:condP s=some (k,args)) (hA:IntsR w aa ac args) (hF:FrR w x hs ra rc va vc) (H:GB D M) (hG:∀ n:Nat,∀ y:Int,y∈args->∀ {z:VQ × Vec},hs[n]? = some z->GV D M 8 z.2) (hr:∀ y∈args,0<=y/\y<(hs.length:Int)) (hvl:x.vars.length<=1000) (e0:k=3) (hlen:args.length=4) :
  Calls Tryz.prog 33 #[.agg #[.int .i64 k,.slice aa args.length ac,.int .i64 i],.agg #[.slice sa steps.length sc,.slice ga ng gc],.agg #[.slice ra hs.length rc,.slice va x.vars.length vc]] w (RetPE w):=by
 have CR:=fun W (hW:bw w W)=>qff steps sa ga sc ng gc i s k args aa ac W (hS.ext (xbw hW)) hsi har hcd (hA.ext (xbw hW))
 have lA:=hA.len;have lH:=SlR.len hF.co;obtain ⟨ab,ao,rb,ro,hab,hrb,hal,hrl,PK⟩:=qdn hA hF (fun n hn=>hG n _ hn) hr oo;obtain ⟨n0,qv0,v0,hy0,hz0,d0,s0a,s0b,hv0,gv0,lN0,mN0⟩:=PK 0 oo;obtain ⟨n1,qv1,v1,hy1,hz1,d1,s1a,s1b,hv1,gv1,lN1,mN1⟩:=PK 1 oo;obtain ⟨n2,qv2,v2,hy2,hz2,d2,s2a,s2b,hv2,gv2,lN2,mN2⟩:=PK 2 oo;obtain ⟨n3,qv3,v3,hy3,hz3,d3,s3a,s3b,hv3,gv3,lN3,mN3⟩:=PK 3 oo;have hX:∀ b,(fun _:Nat=>False) b->b<w.heap.size:=fun b hb=>hb.elim
 have l0:(0:Int)<(args.length:Int):=oo
 have m0:(n0:Int)<(hs.length:Int):=oo
 have l1:(1:Int)<(args.length:Int):=oo
 have m1:(n1:Int)<(hs.length:Int):=oo
 have l2:(2:Int)<(args.length:Int):=oo
 have m2:(n2:Int)<(hs.length:Int):=oo
 have l3:(3:Int)<(args.length:Int):=oo
 have m3:(n3:Int)<(hs.length:Int):=oo
 rw [Nat.add_zero] at d0;clear PK;subst e0;have z1:Gr D M 2 128 512 (qas v0 v1 v2 v3):=qeb gv0 gv1 gv2 gv3;have C1:=fun W (hW:bw w W)=>qb5 (fun _=>False) v0 v1 v2 v3 qv0 qv1 qv2 qv3 D M W (fun b hb=>ltl (hX b hb) hW.size) H (hv0.call hW) (hv1.call hW) (hv2.call hW) (hv3.call hW) gv0 gv1 gv2 gv3
 revert C1;clear z1;generalize qas v0 v1 v2 v3=y1;intro C1;replace C1:=Hd C1;clear hX hy0 hz0 hv0 gv0 hy1 hz1 hv1 gv1 hy2 hz2 hv2 gv2 hy3 hz3 hv3 gv3;have aab:=hab;subst hab;subst hrb;have d0':=held d0;have sa0:=held s0a;have sb0:=held s0b;have d1':=held d1;have sa1:=held s1a;have sb1:=held s1b;have d2':=held d2;have sa2:=held s2a;have sb2:=held s2b;have d3':=held d3;have sa3:=held s3a;have sb3:=held s3b;clear aab d0 s0a s0b d1 s1a s1b d2 s2a s2b d3 s3a s3b;replace hlen:=Hd hlen;replace CR:=Hd CR;clear hS hsi har hcd hA hF H hG hr;go_enter Tryz.func33,Tryz.ntmps33;go_wp2_with fail
 refine qae (fun W=>Blk W w.heap.size 88 #[.int .i64 3,.slice (some ⟨ab,ao,none⟩) args.length ac,.int .i64 i]/\Blk W (w.heap.size+1+1) 37 #[.slice (some ⟨rb,ro,none⟩) hs.length rc,.slice va x.vars.length vc]/\Below w.heap.size w W) ⟨bk,bk,zg⟩ ?_;rintro w0 ⟨B1,B3,hw0⟩;obtain ⟨g3,hg3⟩:=nm (w.heap.size+1+1)
 obtain ⟨g2,hg2⟩:=nm (w.heap.size+1)
 obtain ⟨g1,hg1⟩:=nm w.heap.size
 rw [hg3] at B3 ⊢;have B1':Blk w0 g1 88 #[.int .i64 3,.slice (some ⟨ab,ao,none⟩) args.length ac,.int .i64 i]:=hg1 ▸ B1;rw [hg2];simp only [hg1];replace hg1:=Hd hg1;replace hg2:=Hd hg2;replace hg3:=Hd hg3;refine (CR.out w0 hw0).mono ?_;rintro e w1 ⟨rfl,hb1⟩;have hw1:=bth hw0 hb1;have BA:=B1'.below' hb1;have BF:=B3.below' hb1;have x0:=held (BA.cell 0);have x1:=held (BA.cell 1);have x2:=held (BA.cell 2);have f0:=held (BF.cell 0);have f1:=held (BF.cell 1);obtain ⟨px0,px1,px2⟩:=cq3 BA;obtain ⟨pf0,pf1⟩:=cq2 BF;have lB:=BA.lt;have lF:=BF.lt;clear CR B1 B1' B3 hb1;have k0:=held (d0' w1 hw1);have ka0:=held (sa0 w1 hw1);have kb0:=held (sb0 w1 hw1);have k1:=held (d1' w1 hw1);have ka1:=held (sa1 w1 hw1);have kb1:=held (sb1 w1 hw1);have k2:=held (d2' w1 hw1);have ka2:=held (sa2 w1 hw1);have kb2:=held (sb2 w1 hw1);have k3:=held (d3' w1 hw1);have ka3:=held (sa3 w1 hw1);have kb3:=held (sb3 w1 hw1)
 clear d0' sa0 sb0 d1' sa1 sb1 d2' sa2 sb2 d3' sa3 sb3;go_wp2;clear px0 px1 px2 pf0 pf1;have s0:Below w1.heap.size w1 w1.drew:=brf.drew;refine wrM (S:=Below w1.heap.size w1) [(0,.q),(1,.q),(2,.q),(3,.q),(4,.q),(5,.q),(6,.q),(7,.q),(8,.q),(9,.q),(10,.q),(11,.q),(12,.q),(13,.q),(14,.q),(15,.q),(16,.q),(17,.q),(18,.q),(19,.q),(20,.q),(21,.q),(22,.q),(23,.q),(24,.q),(25,.q),(26,.q),(27,.q),(28,.t),(29,.p),(30,.p)] (s0) ?_
 iterate 28 (refine qaf rfl rfl fun K hK=>xq ?_;go_simp;refine hK _ _ ?_;clear hK K)
 refine vt fun K hK=>?_
 go_simp;refine (C1.out w1.drew (bth hw1 s0)).mono ?_;rintro r w1 ⟨a1,c1,rfl,hP1,hb1⟩;dsimp only;refine hK.out _ _ ?_;clear hK K;have s1:=bth s0 hb1;replace hP1:=Hd hP1;clear C1 hb1
 iterate 2 (refine qaj rfl rfl fun K hK=>xp ?_;go_simp;refine hK _ _ ?_;clear hK K)
 refine qad ?_;have hwF:=bth hw1 s1;have hcap:=hP1.out.len;clear x0 x1 x2 f0 f1 k0 ka0 kb0 k1 ka1 kb1 k2 ka2 kb2 k3 ka3 kb3;replace hcap:=Hd hcap;go_wp2;refine bodyPost_ret (v:=.tuple #[.slice a1 y1.length c1,.int .i64 0]) (by simp [results,Tryz.results33,go_sem]) rfl ?_;exact ⟨hwF,a1,_,c1,rfl,hcap.out⟩
theorem qw1 (steps:List Step) (x:Frm) (hs:List (VQ × Vec)) (sa ga ra va:Option Addr) (sc ng gc rc vc i:Nat) (s:Step) (k:Int) (args:List Int) (aa:Option Addr) (ac:Nat) (D M:Nat) (w:World) (hS:qbi w sa sc steps) (hsi:steps[i]? = some s) (har:(s.args.length:Int)=qar s.kind) (hcd:condP s=some (k,args)) (hA:IntsR w aa ac args) (hF:FrR w x hs ra rc va vc) (H:GB D M) (hG:∀ n:Nat,∀ y:Int,y∈args->∀ {z:VQ × Vec},hs[n]? = some z->GV D M 8 z.2) (hr:∀ y∈args,0<=y/\y<(hs.length:Int)) (hvl:x.vars.length<=1000) (e0:k=4) :
  Calls Tryz.prog 33 #[.agg #[.int .i64 k,.slice aa args.length ac,.int .i64 i],.agg #[.slice sa steps.length sc,.slice ga ng gc],.agg #[.slice ra hs.length rc,.slice va x.vars.length vc]] w (RetPE w):=by
 have CR:=fun W (hW:bw w W)=>qff steps sa ga sc ng gc i s k args aa ac W (hS.ext (xbw hW)) hsi har hcd (hA.ext (xbw hW))
 have lA:=hA.len;have lH:=SlR.len hF.co;have CS:=fun W (hW:bw w W)=>qn7 (fun _=>False) x.vars ra va hs.length rc vc i D M W (fun b hb=>hb.elim) H (hF.vr.ext (xbw hW)) hvl
 unfold RetSl at CS;subst e0;replace CS:=Hd CS;replace CR:=Hd CR;clear hS hsi har hcd hA hF H hG hr;go_enter Tryz.func33,Tryz.ntmps33;go_wp2_with fail;refine qae (fun W=>Blk W w.heap.size 88 #[.int .i64 4,.slice aa args.length ac,.int .i64 i]/\Blk W (w.heap.size+1+1) 37 #[.slice ra hs.length rc,.slice va x.vars.length vc]/\Below w.heap.size w W) ⟨bk,bk,zg⟩ ?_;rintro w0 ⟨B1,B3,hw0⟩;obtain ⟨g3,hg3⟩:=nm (w.heap.size+1+1)
 obtain ⟨g2,hg2⟩:=nm (w.heap.size+1)
 obtain ⟨g1,hg1⟩:=nm w.heap.size
 rw [hg3] at B3 ⊢;have B1':Blk w0 g1 88 #[.int .i64 4,.slice aa args.length ac,.int .i64 i]:=hg1 ▸ B1;rw [hg2];simp only [hg1];replace hg1:=Hd hg1;replace hg2:=Hd hg2;replace hg3:=Hd hg3;refine (CR.out w0 hw0).mono ?_;rintro e w1 ⟨rfl,hb1⟩;have hw1:=bth hw0 hb1;have BA:=B1'.below' hb1;have BF:=B3.below' hb1;have x0:=held (BA.cell 0);have x1:=held (BA.cell 1);have x2:=held (BA.cell 2);have f0:=held (BF.cell 0);have f1:=held (BF.cell 1);obtain ⟨px0,px1,px2⟩:=cq3 BA;obtain ⟨pf0,pf1⟩:=cq2 BF;have lB:=BA.lt;have lF:=BF.lt;clear CR B1 B1' B3 hb1;clear x0 x1 x2 f0 f1;go_wp2_with fail;refine (CS.out w1 hw1).mono ?_;rintro e w2 ⟨a1,c1,a2,c2,rfl,hP1,hP2,hb2⟩;have hw2:=bth hw1 hb2;have hcap:=Hd hP1.len;replace hP1:=Hd hP1;replace hP2:=Hd hP2;clear px0 px1 px2 pf0 pf1 CS;go_wp2
 refine bodyPost_ret (v:=.tuple #[.slice a1 (qb0 (qby i x.vars 0)).length c1,.int .i64 0]) (by simp [results,Tryz.results33,go_sem]) rfl ?_;exact ⟨hw2,a1,_,c1,rfl,hcap.out⟩
theorem qsc (steps:List Step) (x:Frm) (hs:List (VQ × Vec)) (sa ga ra va:Option Addr) (sc ng gc rc vc i:Nat) (s:Step) (k:Int) (args:List Int) (aa:Option Addr) (ac:Nat) (D M:Nat) (w:World) (hS:qbi w sa sc steps) (hsi:steps[i]? = some s) (har:(s.args.length:Int)=qar s.kind) (hcd:condP s=some (k,args)) (hA:IntsR w aa ac args) (hF:FrR w x hs ra rc va vc) (H:GB D M) (hG:∀ n:Nat,∀ y:Int,y∈args->∀ {z:VQ × Vec},hs[n]? = some z->GV D M 8 z.2) (hr:∀ y∈args,0<=y/\y<(hs.length:Int)) (hvl:x.vars.length<=1000) :
  Calls Tryz.prog 33 #[.agg #[.int .i64 k,.slice aa args.length ac,.int .i64 i],.agg #[.slice sa steps.length sc,.slice ga ng gc],.agg #[.slice ra hs.length rc,.slice va x.vars.length vc]] w (RetPE w):=by
 rcases (qru har hcd).1 with ⟨h1,h2⟩ | ⟨h1,h2⟩ | ⟨h1,h2⟩ | ⟨h1,h2⟩
 · exact qxl steps x hs sa ga ra va sc ng gc rc vc i s k args aa ac D M w hS hsi har hcd hA hF H hG hr hvl h1 h2
 · exact qw2 steps x hs sa ga ra va sc ng gc rc vc i s k args aa ac D M w hS hsi har hcd hA hF H hG hr hvl h1 h2
 · exact qvp steps x hs sa ga ra va sc ng gc rc vc i s k args aa ac D M w hS hsi har hcd hA hF H hG hr hvl h1 h2
 · exact qw1 steps x hs sa ga ra va sc ng gc rc vc i s k args aa ac D M w hS hsi har hcd hA hF H hG hr hvl h1
def RetG (w:World) (e:Ending) (w':World):Prop:=Below w.heap.size w w'/\∃ a c l,e=.returned (.slice a (List.length l) c)/\SqR w' a c l/\l.length<=2/\∀ g,a=some g->w.heap.size<=g.block
theorem qrf {w:World} {g:Nat} {t:TypeId} {a1 a2:Option Addr} {n1 n2 c1 c2:Nat} (hB:Blk w g t #[.slice a1 n1 c1,.slice a2 n2 c2]):SqR w (some ⟨g,0,none⟩) 2 [⟨a1,n1,c1⟩,⟨a2,n2,c2⟩]:=by
 refine ⟨by simp,by simp [maxLen],fun k s hs=>⟨g,0,rfl,?_⟩⟩
 match k,hs with
 | 0,hs=>simp at hs;subst hs;exact hB.cell 0
 | 1,hs=>simp at hs;subst hs;exact hB.cell 1
 | n+2,hs=>simp at hs
theorem qfd {w:World} {g:Nat} {t:TypeId} {a1:Option Addr} {n1 c1:Nat} (hB:Blk w g t #[.slice a1 n1 c1]):SqR w (some ⟨g,0,none⟩) 1 [⟨a1,n1,c1⟩]:=by
 refine ⟨by simp,by simp [maxLen],fun k s hs=>⟨g,0,rfl,?_⟩⟩
 match k,hs with
 | 0,hs=>simp at hs;subst hs;exact hB.cell 0
 | n+1,hs=>simp at hs
theorem qpa (p q r s:List Tm) (a1 a2 a3 a4:Option Addr) (c1 c2 c3 c4:Nat) (D M:Nat) (w:World) (H:GB D M) (h1:PolX (fun _=>False) w a1 c1 p) (h2:PolX (fun _=>False) w a2 c2 q) (h3:PolX (fun _=>False) w a3 c3 r) (h4:PolX (fun _=>False) w a4 c4 s)
  (g1:Gr D M 2 48 72 p) (g2:Gr D M 2 48 72 q) (g3:Gr D M 2 48 72 r) (g4:Gr D M 2 48 72 s) :
  Calls Tryz.prog 107 #[.slice a1 p.length c1,.slice a2 q.length c2,.slice a3 r.length c3,.slice a4 s.length c4] w (RetP (fun _=>False) (qli p q r s) w):=by
 have m1:=Gr.mulFine H g1 g4 dd dd dd;have m2:=Gr.mulFine H g3 g2 dd dd dd;have f1:=g1.fine H dd dd dd;have f2:=g2.fine H dd dd dd;have f3:=g3.fine H dd dd dd;have f4:=g4.fine H dd dd dd;have f5:=(g1.mul g4).fine H dd dd dd;have f6:=(g3.mul g2).fine H dd dd dd;have C1:=qcc (fun _=>False) p s a1 a4 c1 c4 w (fun b hb=>hb.elim) h1 h4 f1 f4 m1.1 m1.2;have C2:=fun W (hW:bw w W)=>qcc (fun _=>False) r q a3 a2 c3 c2 W (fun b hb=>hb.elim) (h3.call hW) (h2.call hW) f3 f2 m2.1 m2.2
 have C3:=fun W a c a' c' (k:PolX (fun _=>False) W a c (mulP p s)) (k':PolX (fun _=>False) W a' c' (mulP r q))=>qa6 (fun _=>False) (mulP p s) (mulP r q) a a' c c' W (fun b hb=>hb.elim) k k' f5 f6
 unfold qli;revert C1 C2 C3;clear m1 m2 f1 f2 f3 f4 f5 f6;generalize mulP p s=y1;generalize mulP r q=y2;generalize subP y1 y2=y3;intro C1 C2 C3;replace C1:=Hd C1;replace C2:=Hd C2;replace C3:=Hd C3;clear h1 h2 h3 h4 g1 g2 g3 g4 H;go_enter Tryz.func107,Tryz.ntmps107;go_wp2_with fail;refine C1.out.mono ?_;rintro e w1 ⟨b1,d1,rfl,hP1,hb1⟩;replace hP1:=Hd hP1;go_wp2_with fail;refine (C2.out w1 hb1).mono ?_;rintro e w2 ⟨b2,d2,rfl,hP2,hb2⟩;have hw2:=bth hb1 hb2;replace hP2:=Hd hP2;replace hP1:=Hd (hP1.out.call hb2);go_wp2_with fail;refine (C3.out w2 b1 d1 b2 d2 hP1.out hP2.out).mono ?_;rintro e w3 ⟨b3,d3,rfl,hP3,hb3⟩;have hw3:=bth hw2 hb3;replace hP3:=Hd hP3;go_wp2;go_ret;exact ⟨b3,d3,rfl,hP3.out,hw3⟩
theorem qxp (x:Frm) (hs:List (VQ × Vec)) (ra va aa na da:Option Addr) (rc vc ac nn nc dn dc:Nat) (neg:Bool) (args:List Int) (D M:Nat) (w:World) (hA:IntsR w aa ac args) (hF:FrR w x hs ra rc va vc) (H:GB D M) (hG:∀ n:Nat,∀ y:Int,y∈args->∀ {z:VQ × Vec},hs[n]? = some z->GV D M 8 z.2) (hr:∀ y∈args,0<=y/\y<(hs.length:Int)) (hlen:args.length=3) :
  Calls Tryz.prog 65 #[.agg #[.int .i64 1,.slice aa args.length ac,.bool neg,.slice na nn nc,.slice da dn dc],.slice ra hs.length rc] w (RetG w):=by
 have lA:=hA.len;have lH:=SlR.len hF.co;obtain ⟨ab,ao,rb,ro,hab,hrb,hal,hrl,PK⟩:=qdn hA hF (fun n hn=>hG n _ hn) hr oo;obtain ⟨n0,qv0,v0,hy0,hz0,d0,s0a,s0b,hv0,gv0,lN0,mN0⟩:=PK 0 oo;obtain ⟨n1,qv1,v1,hy1,hz1,d1,s1a,s1b,hv1,gv1,lN1,mN1⟩:=PK 1 oo;obtain ⟨n2,qv2,v2,hy2,hz2,d2,s2a,s2b,hv2,gv2,lN2,mN2⟩:=PK 2 oo;have hX:∀ b,(fun _:Nat=>False) b->b<w.heap.size:=fun b hb=>hb.elim
 have l0:(0:Int)<(args.length:Int):=oo
 have m0:(n0:Int)<(hs.length:Int):=oo
 have l1:(1:Int)<(args.length:Int):=oo
 have m1:(n1:Int)<(hs.length:Int):=oo
 have l2:(2:Int)<(args.length:Int):=oo
 have m2:(n2:Int)<(hs.length:Int):=oo
 rw [Nat.add_zero] at d0;clear PK;have z1:Gr D M 2 128 512 (qas v0 v1 v0 v2):=qeb gv0 gv1 gv0 gv2;have C1:=fun W (hW:bw w W)=>qb5 (fun _=>False) v0 v1 v0 v2 qv0 qv1 qv0 qv2 D M W (fun b hb=>ltl (hX b hb) hW.size) H (hv0.call hW) (hv1.call hW) (hv0.call hW) (hv2.call hW) gv0 gv1 gv0 gv2
 revert C1;clear z1;generalize qas v0 v1 v0 v2=y1;intro C1;replace C1:=Hd C1;clear hX hy0 hz0 hv0 gv0 hy1 hz1 hv1 gv1 hy2 hz2 hv2 gv2;subst hab;subst hrb;have d0':=held d0;have sa0:=held s0a;have sb0:=held s0b;have d1':=held d1;have sa1:=held s1a;have sb1:=held s1b;have d2':=held d2;have sa2:=held s2a;have sb2:=held s2b;clear d0 s0a s0b d1 s1a s1b d2 s2a s2b;replace hlen:=Hd hlen;clear hA hF H hG hr;go_enter Tryz.func65,Tryz.ntmps65;go_wp2;refine qaa (fun W=>Below w.heap.size w W) (by go_grown) ?_;intro w1 hw1;have k0:=held (d0' w1 hw1);have ka0:=held (sa0 w1 hw1);have kb0:=held (sb0 w1 hw1);have k1:=held (d1' w1 hw1);have ka1:=held (sa1 w1 hw1);have kb1:=held (sb1 w1 hw1);have k2:=held (d2' w1 hw1);have ka2:=held (sa2 w1 hw1);have kb2:=held (sb2 w1 hw1);clear d0' sa0 sb0 d1' sa1 sb1 d2' sa2 sb2;have s0:Below w1.heap.size w1 w1.drew:=brf.drew
 refine wrM (S:=Below w1.heap.size w1) [(0,.q),(1,.q),(2,.q),(3,.q),(4,.q),(5,.q),(6,.q),(7,.q),(8,.q),(9,.q),(10,.q),(11,.q),(12,.q),(13,.q),(14,.q),(15,.q),(16,.q),(17,.q),(18,.q),(19,.q),(20,.q),(21,.q),(22,.q),(23,.q),(24,.t),(25,.t),(26,.p)] (s0) ?_
 iterate 24 (refine qaf rfl rfl fun K hK=>xq ?_;go_simp;refine hK _ _ ?_;clear hK K)
 refine vt fun K hK=>?_
 go_simp;refine (C1.out w1.drew (bth hw1 s0)).mono ?_;rintro r w1 ⟨a1,c1,rfl,hP1,hb1⟩;dsimp only;refine hK.out _ _ ?_;clear hK K;have s1:=bth s0 hb1;replace hP1:=Hd hP1;clear C1 hb1;refine vt fun K hK=>?_
 go_simp;refine hK.out _ _ ?_;clear hK K
 refine qaj rfl rfl fun K hK=>xp ?_;go_simp;refine hK _ _ ?_;clear hK K
 refine qad ?_;clear k0 ka0 kb0 k1 ka1 kb1 k2 ka2 kb2;have hwF:=bth hw1 s1;go_wp2;refine qaa (fun W=>Blk W w1.heap.size 75 #[.slice a1 y1.length c1]/\Below w1.heap.size w1 W) ⟨bk,zg⟩ ?_;rintro wF ⟨hF',hbF⟩;refine bodyPost_ret (v:=.slice (some ⟨w1.heap.size,0,none⟩) 1 1) (by simp [results,Tryz.results65,go_sem]) rfl ?_;exact ⟨bth hwF hbF,some ⟨w1.heap.size,0,none⟩,1,_,rfl,qfd hF',by simp,fun g hg=>by injection hg with hg;subst hg;exact hwF.size⟩
theorem qzd (x:Frm) (hs:List (VQ × Vec)) (ra va aa na da:Option Addr) (rc vc ac nn nc dn dc:Nat) (neg:Bool) (args:List Int) (D M:Nat) (w:World) (hA:IntsR w aa ac args) (hF:FrR w x hs ra rc va vc) (H:GB D M) (hG:∀ n:Nat,∀ y:Int,y∈args->∀ {z:VQ × Vec},hs[n]? = some z->GV D M 8 z.2) (hr:∀ y∈args,0<=y/\y<(hs.length:Int)) (hlen:args.length=4) :
  Calls Tryz.prog 65 #[.agg #[.int .i64 2,.slice aa args.length ac,.bool neg,.slice na nn nc,.slice da dn dc],.slice ra hs.length rc] w (RetG w):=by
 have lA:=hA.len;have lH:=SlR.len hF.co;obtain ⟨ab,ao,rb,ro,hab,hrb,hal,hrl,PK⟩:=qdn hA hF (fun n hn=>hG n _ hn) hr oo;obtain ⟨n0,qv0,v0,hy0,hz0,d0,s0a,s0b,hv0,gv0,lN0,mN0⟩:=PK 0 oo;obtain ⟨n1,qv1,v1,hy1,hz1,d1,s1a,s1b,hv1,gv1,lN1,mN1⟩:=PK 1 oo;obtain ⟨n2,qv2,v2,hy2,hz2,d2,s2a,s2b,hv2,gv2,lN2,mN2⟩:=PK 2 oo;obtain ⟨n3,qv3,v3,hy3,hz3,d3,s3a,s3b,hv3,gv3,lN3,mN3⟩:=PK 3 oo;have hX:∀ b,(fun _:Nat=>False) b->b<w.heap.size:=fun b hb=>hb.elim
 have l0:(0:Int)<(args.length:Int):=oo
 have m0:(n0:Int)<(hs.length:Int):=oo
 have l1:(1:Int)<(args.length:Int):=oo
 have m1:(n1:Int)<(hs.length:Int):=oo
 have l2:(2:Int)<(args.length:Int):=oo
 have m2:(n2:Int)<(hs.length:Int):=oo
 have l3:(3:Int)<(args.length:Int):=oo
 have m3:(n3:Int)<(hs.length:Int):=oo
 rw [Nat.add_zero] at d0;clear PK;have z1:Gr D M 2 128 512 (qas v0 v1 v2 v3):=qeb gv0 gv1 gv2 gv3;have C1:=fun W (hW:bw w W)=>qb5 (fun _=>False) v0 v1 v2 v3 qv0 qv1 qv2 qv3 D M W (fun b hb=>ltl (hX b hb) hW.size) H (hv0.call hW) (hv1.call hW) (hv2.call hW) (hv3.call hW) gv0 gv1 gv2 gv3
 revert C1;clear z1;generalize qas v0 v1 v2 v3=y1;intro C1;replace C1:=Hd C1;clear hX hy0 hz0 hv0 gv0 hy1 hz1 hv1 gv1 hy2 hz2 hv2 gv2 hy3 hz3 hv3 gv3;subst hab;subst hrb;have d0':=held d0;have sa0:=held s0a;have sb0:=held s0b;have d1':=held d1;have sa1:=held s1a;have sb1:=held s1b;have d2':=held d2;have sa2:=held s2a;have sb2:=held s2b;have d3':=held d3;have sa3:=held s3a;have sb3:=held s3b;clear d0 s0a s0b d1 s1a s1b d2 s2a s2b d3 s3a s3b;replace hlen:=Hd hlen;clear hA hF H hG hr;go_enter Tryz.func65,Tryz.ntmps65;go_wp2;refine qaa (fun W=>Below w.heap.size w W) (by go_grown) ?_;intro w1 hw1;have k0:=held (d0' w1 hw1);have ka0:=held (sa0 w1 hw1);have kb0:=held (sb0 w1 hw1);have k1:=held (d1' w1 hw1);have ka1:=held (sa1 w1 hw1);have kb1:=held (sb1 w1 hw1);have k2:=held (d2' w1 hw1);have ka2:=held (sa2 w1 hw1);have kb2:=held (sb2 w1 hw1)
 have k3:=held (d3' w1 hw1);have ka3:=held (sa3 w1 hw1);have kb3:=held (sb3 w1 hw1);clear d0' sa0 sb0 d1' sa1 sb1 d2' sa2 sb2 d3' sa3 sb3;have s0:Below w1.heap.size w1 w1.drew:=brf.drew;refine wrM (S:=Below w1.heap.size w1) [(0,.q),(1,.q),(2,.q),(3,.q),(4,.q),(5,.q),(6,.q),(7,.q),(8,.q),(9,.q),(10,.q),(11,.q),(12,.q),(13,.q),(14,.q),(15,.q),(16,.q),(17,.q),(18,.q),(19,.q),(20,.q),(21,.q),(22,.q),(23,.q),(24,.t),(25,.t),(26,.p)] (s0) ?_
 iterate 24 (refine qaf rfl rfl fun K hK=>xq ?_;go_simp;refine hK _ _ ?_;clear hK K)
 refine vt fun K hK=>?_
 go_simp;refine (C1.out w1.drew (bth hw1 s0)).mono ?_;rintro r w1 ⟨a1,c1,rfl,hP1,hb1⟩;dsimp only;refine hK.out _ _ ?_;clear hK K;have s1:=bth s0 hb1;replace hP1:=Hd hP1;clear C1 hb1;refine vt fun K hK=>?_
 go_simp;refine hK.out _ _ ?_;clear hK K
 refine qaj rfl rfl fun K hK=>xp ?_;go_simp;refine hK _ _ ?_;clear hK K
 refine qad ?_;clear k0 ka0 kb0 k1 ka1 kb1 k2 ka2 kb2 k3 ka3 kb3;have hwF:=bth hw1 s1;go_wp2;refine qaa (fun W=>Blk W w1.heap.size 75 #[.slice a1 y1.length c1]/\Below w1.heap.size w1 W) ⟨bk,zg⟩ ?_;rintro wF ⟨hF',hbF⟩;refine bodyPost_ret (v:=.slice (some ⟨w1.heap.size,0,none⟩) 1 1) (by simp [results,Tryz.results65,go_sem]) rfl ?_;exact ⟨bth hwF hbF,some ⟨w1.heap.size,0,none⟩,1,_,rfl,qfd hF',by simp,fun g hg=>by injection hg with hg;subst hg;exact hwF.size⟩
theorem qyx (x:Frm) (hs:List (VQ × Vec)) (ra va aa na da:Option Addr) (rc vc ac nn nc dn dc:Nat) (neg:Bool) (args:List Int) (D M:Nat) (w:World) (hA:IntsR w aa ac args) (hF:FrR w x hs ra rc va vc) (H:GB D M) (hG:∀ n:Nat,∀ y:Int,y∈args->∀ {z:VQ × Vec},hs[n]? = some z->GV D M 8 z.2) (hr:∀ y∈args,0<=y/\y<(hs.length:Int)) (hlen:args.length=4) :
  Calls Tryz.prog 65 #[.agg #[.int .i64 3,.slice aa args.length ac,.bool neg,.slice na nn nc,.slice da dn dc],.slice ra hs.length rc] w (RetG w):=by
 have lA:=hA.len;have lH:=SlR.len hF.co;obtain ⟨ab,ao,rb,ro,hab,hrb,hal,hrl,PK⟩:=qdn hA hF (fun n hn=>hG n _ hn) hr oo;obtain ⟨n0,qv0,v0,hy0,hz0,d0,s0a,s0b,hv0,gv0,lN0,mN0⟩:=PK 0 oo;obtain ⟨n1,qv1,v1,hy1,hz1,d1,s1a,s1b,hv1,gv1,lN1,mN1⟩:=PK 1 oo;obtain ⟨n2,qv2,v2,hy2,hz2,d2,s2a,s2b,hv2,gv2,lN2,mN2⟩:=PK 2 oo;obtain ⟨n3,qv3,v3,hy3,hz3,d3,s3a,s3b,hv3,gv3,lN3,mN3⟩:=PK 3 oo;have hX:∀ b,(fun _:Nat=>False) b->b<w.heap.size:=fun b hb=>hb.elim
 have l0:(0:Int)<(args.length:Int):=oo
 have m0:(n0:Int)<(hs.length:Int):=oo
 have l1:(1:Int)<(args.length:Int):=oo
 have m1:(n1:Int)<(hs.length:Int):=oo
 have l2:(2:Int)<(args.length:Int):=oo
 have m2:(n2:Int)<(hs.length:Int):=oo
 have l3:(3:Int)<(args.length:Int):=oo
 have m3:(n3:Int)<(hs.length:Int):=oo
 rw [Nat.add_zero] at d0;clear PK;have z1:Gr D M 2 128 512 (dotP v0 v1 v2 v3):=dot8 gv0 gv1 gv2 gv3;have C1:=fun W (hW:bw w W)=>qe4 (fun _=>False) v0 v1 v2 v3 qv0 qv1 qv2 qv3 D M W (fun b hb=>ltl (hX b hb) hW.size) H (hv0.call hW) (hv1.call hW) (hv2.call hW) (hv3.call hW) gv0 gv1 gv2 gv3
 revert C1;clear z1;generalize dotP v0 v1 v2 v3=y1;intro C1;replace C1:=Hd C1;clear hX hy0 hz0 hv0 gv0 hy1 hz1 hv1 gv1 hy2 hz2 hv2 gv2 hy3 hz3 hv3 gv3;subst hab;subst hrb;have d0':=held d0;have sa0:=held s0a;have sb0:=held s0b;have d1':=held d1;have sa1:=held s1a;have sb1:=held s1b;have d2':=held d2;have sa2:=held s2a;have sb2:=held s2b;have d3':=held d3;have sa3:=held s3a;have sb3:=held s3b;clear d0 s0a s0b d1 s1a s1b d2 s2a s2b d3 s3a s3b;replace hlen:=Hd hlen;clear hA hF H hG hr;go_enter Tryz.func65,Tryz.ntmps65;go_wp2;refine qaa (fun W=>Below w.heap.size w W) (by go_grown) ?_;intro w1 hw1;have k0:=held (d0' w1 hw1);have ka0:=held (sa0 w1 hw1);have kb0:=held (sb0 w1 hw1);have k1:=held (d1' w1 hw1);have ka1:=held (sa1 w1 hw1);have kb1:=held (sb1 w1 hw1);have k2:=held (d2' w1 hw1);have ka2:=held (sa2 w1 hw1);have kb2:=held (sb2 w1 hw1)
 have k3:=held (d3' w1 hw1);have ka3:=held (sa3 w1 hw1);have kb3:=held (sb3 w1 hw1);clear d0' sa0 sb0 d1' sa1 sb1 d2' sa2 sb2 d3' sa3 sb3;have s0:Below w1.heap.size w1 w1.drew:=brf.drew;refine wrM (S:=Below w1.heap.size w1) [(0,.q),(1,.q),(2,.q),(3,.q),(4,.q),(5,.q),(6,.q),(7,.q),(8,.q),(9,.q),(10,.q),(11,.q),(12,.q),(13,.q),(14,.q),(15,.q),(16,.q),(17,.q),(18,.q),(19,.q),(20,.q),(21,.q),(22,.q),(23,.q),(24,.t),(25,.t),(26,.p)] (s0) ?_
 iterate 24 (refine qaf rfl rfl fun K hK=>xq ?_;go_simp;refine hK _ _ ?_;clear hK K)
 refine vt fun K hK=>?_
 go_simp;refine (C1.out w1.drew (bth hw1 s0)).mono ?_;rintro r w1 ⟨a1,c1,rfl,hP1,hb1⟩;dsimp only;refine hK.out _ _ ?_;clear hK K;have s1:=bth s0 hb1;replace hP1:=Hd hP1;clear C1 hb1;refine vt fun K hK=>?_
 go_simp;refine hK.out _ _ ?_;clear hK K
 refine qaj rfl rfl fun K hK=>xp ?_;go_simp;refine hK _ _ ?_;clear hK K
 refine qad ?_;clear k0 ka0 kb0 k1 ka1 kb1 k2 ka2 kb2 k3 ka3 kb3;have hwF:=bth hw1 s1;go_wp2;refine qaa (fun W=>Blk W w1.heap.size 75 #[.slice a1 y1.length c1]/\Below w1.heap.size w1 W) ⟨bk,zg⟩ ?_;rintro wF ⟨hF',hbF⟩;refine bodyPost_ret (v:=.slice (some ⟨w1.heap.size,0,none⟩) 1 1) (by simp [results,Tryz.results65,go_sem]) rfl ?_;exact ⟨bth hwF hbF,some ⟨w1.heap.size,0,none⟩,1,_,rfl,qfd hF',by simp,fun g hg=>by injection hg with hg;subst hg;exact hwF.size⟩
theorem qy0 (x:Frm) (hs:List (VQ × Vec)) (ra va aa na da:Option Addr) (rc vc ac nn nc dn dc:Nat) (neg:Bool) (args:List Int) (D M:Nat) (w:World) (hA:IntsR w aa ac args) (hF:FrR w x hs ra rc va vc) (H:GB D M) (hG:∀ n:Nat,∀ y:Int,y∈args->∀ {z:VQ × Vec},hs[n]? = some z->GV D M 8 z.2) (hr:∀ y∈args,0<=y/\y<(hs.length:Int)) (hlen:args.length=4) :
  Calls Tryz.prog 65 #[.agg #[.int .i64 4,.slice aa args.length ac,.bool neg,.slice na nn nc,.slice da dn dc],.slice ra hs.length rc] w (RetG w):=by
 have lA:=hA.len;have lH:=SlR.len hF.co;obtain ⟨ab,ao,rb,ro,hab,hrb,hal,hrl,PK⟩:=qdn hA hF (fun n hn=>hG n _ hn) hr oo;obtain ⟨n0,qv0,v0,hy0,hz0,d0,s0a,s0b,hv0,gv0,lN0,mN0⟩:=PK 0 oo;obtain ⟨n1,qv1,v1,hy1,hz1,d1,s1a,s1b,hv1,gv1,lN1,mN1⟩:=PK 1 oo;obtain ⟨n2,qv2,v2,hy2,hz2,d2,s2a,s2b,hv2,gv2,lN2,mN2⟩:=PK 2 oo;obtain ⟨n3,qv3,v3,hy3,hz3,d3,s3a,s3b,hv3,gv3,lN3,mN3⟩:=PK 3 oo;have hX:∀ b,(fun _:Nat=>False) b->b<w.heap.size:=fun b hb=>hb.elim
 have l0:(0:Int)<(args.length:Int):=oo
 have m0:(n0:Int)<(hs.length:Int):=oo
 have l1:(1:Int)<(args.length:Int):=oo
 have m1:(n1:Int)<(hs.length:Int):=oo
 have l2:(2:Int)<(args.length:Int):=oo
 have m2:(n2:Int)<(hs.length:Int):=oo
 have l3:(3:Int)<(args.length:Int):=oo
 have m3:(n3:Int)<(hs.length:Int):=oo
 rw [Nat.add_zero] at d0;clear PK;have z1:Gr D M 2 128 512 (normP v0 v1):=norm8 gv0 gv1;have z2:Gr D M 2 128 512 (normP v2 v3):=norm8 gv2 gv3;have z3:Gr D M 2 256 1024 (subP (normP v0 v1) (normP v2 v3)):=z1.sub z2;have C1:=fun W (hW:bw w W)=>qbm (fun _=>False) v0 v1 qv0 qv1 D M W (fun b hb=>ltl (hX b hb) hW.size) H (hv0.call hW) (hv1.call hW) gv0 gv1
 have C2:=fun W (hW:bw w W)=>qbm (fun _=>False) v2 v3 qv2 qv3 D M W (fun b hb=>ltl (hX b hb) hW.size) H (hv2.call hW) (hv3.call hW) gv2 gv3
 have C3:=fun W (hW:bw w W) (a1:Option Addr) (c1:Nat) (h1:PolX (fun _=>False) W a1 c1 (normP v0 v1)) (a2:Option Addr) (c2:Nat) (h2:PolX (fun _=>False) W a2 c2 (normP v2 v3))=>qa6 (fun _=>False) (normP v0 v1) (normP v2 v3) a1 a2 c1 c2 W (fun b hb=>ltl (hX b hb) hW.size) h1 h2 (Gr.fine H z1 dd dd dd) (Gr.fine H z2 dd dd dd)
 revert C1 C2 C3;clear z1 z2 z3;generalize normP v0 v1=y1;generalize normP v2 v3=y2;generalize subP y1 y2=y3;intro C1 C2 C3;replace C1:=Hd C1;replace C2:=Hd C2;replace C3:=Hd C3;clear hX hy0 hz0 hv0 gv0 hy1 hz1 hv1 gv1 hy2 hz2 hv2 gv2 hy3 hz3 hv3 gv3;subst hab;subst hrb;have d0':=held d0;have sa0:=held s0a;have sb0:=held s0b;have d1':=held d1;have sa1:=held s1a;have sb1:=held s1b;have d2':=held d2;have sa2:=held s2a;have sb2:=held s2b;have d3':=held d3;have sa3:=held s3a;have sb3:=held s3b;clear d0 s0a s0b d1 s1a s1b d2 s2a s2b d3 s3a s3b;replace hlen:=Hd hlen;clear hA hF H hG hr;go_enter Tryz.func65,Tryz.ntmps65;go_wp2;refine qaa (fun W=>Below w.heap.size w W) (by go_grown) ?_;intro w1 hw1;have k0:=held (d0' w1 hw1);have ka0:=held (sa0 w1 hw1);have kb0:=held (sb0 w1 hw1);have k1:=held (d1' w1 hw1);have ka1:=held (sa1 w1 hw1);have kb1:=held (sb1 w1 hw1)
 have k2:=held (d2' w1 hw1);have ka2:=held (sa2 w1 hw1);have kb2:=held (sb2 w1 hw1);have k3:=held (d3' w1 hw1);have ka3:=held (sa3 w1 hw1);have kb3:=held (sb3 w1 hw1);clear d0' sa0 sb0 d1' sa1 sb1 d2' sa2 sb2 d3' sa3 sb3;have s0:Below w1.heap.size w1 w1.drew:=brf.drew;refine wrM (S:=Below w1.heap.size w1) [(0,.q),(1,.q),(2,.q),(3,.q),(4,.q),(5,.q),(6,.q),(7,.q),(8,.q),(9,.q),(10,.q),(11,.q),(13,.q),(14,.q),(15,.q),(16,.q),(17,.q),(18,.q),(19,.q),(20,.q),(21,.q),(22,.q),(23,.q),(24,.q),(12,.l),(25,.t),(26,.t),(27,.t),(28,.p)] (s0) ?_
 iterate 24 (refine qaf rfl rfl fun K hK=>xq ?_;go_simp;refine hK _ _ ?_;clear hK K)
 refine vl fun K hK=>?_
 go_simp;refine (C1.out w1.drew (bth hw1 s0)).mono ?_;rintro r w1 ⟨a1,c1,rfl,hP1,hb1⟩;dsimp only;refine hK.out _ _ (bth s0 hb1) (fun _=>?_);clear hK K;have s1:=bth s0 hb1;replace hP1:=Hd hP1;clear C1 hb1;refine vt fun K hK=>?_
 go_simp;refine (C2.out w1 (bth hw1 s1)).mono ?_;rintro r w2 ⟨a2,c2,rfl,hP2,hb2⟩;dsimp only;refine hK.out _ _ ?_;clear hK K;have s2:=bth s1 hb2;replace hP2:=Hd hP2;replace hP1:=Hd (hP1.out.call hb2);clear C2 hb2;refine vt fun K hK=>?_
 go_simp;refine (C3.out w2 (bth hw1 s2) a1 c1 hP1.out a2 c2 hP2.out).mono ?_;rintro r w3 ⟨a3,c3,rfl,hP3,hb3⟩;dsimp only;refine hK.out _ _ ?_;clear hK K;have s3:=bth s2 hb3;replace hP3:=Hd hP3;clear C3 hb3;refine vt fun K hK=>?_
 go_simp;refine hK.out _ _ ?_;clear hK K
 refine qaj rfl rfl fun K hK=>xp ?_;go_simp;refine hK _ _ ?_;clear hK K
 refine qad ?_;clear k0 ka0 kb0 k1 ka1 kb1 k2 ka2 kb2 k3 ka3 kb3;have hwF:=bth hw1 s3;go_wp2;refine qaa (fun W=>Blk W w3.heap.size 75 #[.slice a3 y3.length c3]/\Below w3.heap.size w3 W) ⟨bk,zg⟩ ?_;rintro wF ⟨hF',hbF⟩;refine bodyPost_ret (v:=.slice (some ⟨w3.heap.size,0,none⟩) 1 1) (by simp [results,Tryz.results65,go_sem]) rfl ?_;exact ⟨bth hwF hbF,some ⟨w3.heap.size,0,none⟩,1,_,rfl,qfd hF',by simp,fun g hg=>by injection hg with hg;subst hg;exact hwF.size⟩
theorem qyj (x:Frm) (hs:List (VQ × Vec)) (ra va aa na da:Option Addr) (rc vc ac nn nc dn dc:Nat) (neg:Bool) (args:List Int) (D M:Nat) (w:World) (hA:IntsR w aa ac args) (hF:FrR w x hs ra rc va vc) (H:GB D M) (hG:∀ n:Nat,∀ y:Int,y∈args->∀ {z:VQ × Vec},hs[n]? = some z->GV D M 8 z.2) (hr:∀ y∈args,0<=y/\y<(hs.length:Int)) (hlen:args.length=2) :
  Calls Tryz.prog 65 #[.agg #[.int .i64 8,.slice aa args.length ac,.bool neg,.slice na nn nc,.slice da dn dc],.slice ra hs.length rc] w (RetG w):=by
 have lA:=hA.len;have lH:=SlR.len hF.co;obtain ⟨ab,ao,rb,ro,hab,hrb,hal,hrl,PK⟩:=qdn hA hF (fun n hn=>hG n _ hn) hr oo;obtain ⟨n0,qv0,v0,hy0,hz0,d0,s0a,s0b,hv0,gv0,lN0,mN0⟩:=PK 0 oo;obtain ⟨n1,qv1,v1,hy1,hz1,d1,s1a,s1b,hv1,gv1,lN1,mN1⟩:=PK 1 oo;have hX:∀ b,(fun _:Nat=>False) b->b<w.heap.size:=fun b hb=>hb.elim
 have l0:(0:Int)<(args.length:Int):=oo
 have m0:(n0:Int)<(hs.length:Int):=oo
 have l1:(1:Int)<(args.length:Int):=oo
 have m1:(n1:Int)<(hs.length:Int):=oo
 rw [Nat.add_zero] at d0;clear PK;have z1:Gr D M 1 2 16 (subP v0.1 v1.1):=(gv0.1).sub (gv1.1);have z2:Gr D M 1 2 16 (subP v0.2 v1.2):=(gv0.2).sub (gv1.2);have C1:=fun W (hW:bw w W) =>qa6 (fun _=>False) v0.1 v1.1 qv0.a qv1.a qv0.c qv1.c W (fun b hb=>ltl (hX b hb) hW.size) (hv0.1.call hW) (hv1.1.call hW) (Gr.fine H (gv0.1) dd dd dd) (Gr.fine H (gv1.1) dd dd dd)
 have C2:=fun W (hW:bw w W) =>qa6 (fun _=>False) v0.2 v1.2 qv0.b qv1.b qv0.d qv1.d W (fun b hb=>ltl (hX b hb) hW.size) (hv0.2.call hW) (hv1.2.call hW) (Gr.fine H (gv0.2) dd dd dd) (Gr.fine H (gv1.2) dd dd dd)
 revert C1 C2;clear z1 z2;generalize subP v0.1 v1.1=y1;generalize subP v0.2 v1.2=y2;intro C1 C2;replace C1:=Hd C1;replace C2:=Hd C2;clear hX hy0 hz0 hv0 gv0 hy1 hz1 hv1 gv1;subst hab;subst hrb;have d0':=held d0;have sa0:=held s0a;have sb0:=held s0b;have d1':=held d1;have sa1:=held s1a;have sb1:=held s1b;clear d0 s0a s0b d1 s1a s1b;replace hlen:=Hd hlen;clear hA hF H hG hr;go_enter Tryz.func65,Tryz.ntmps65;go_wp2;refine qaa (fun W=>Below w.heap.size w W) (by go_grown) ?_;intro w1 hw1;have k0:=held (d0' w1 hw1);have ka0:=held (sa0 w1 hw1);have kb0:=held (sb0 w1 hw1);have k1:=held (d1' w1 hw1);have ka1:=held (sa1 w1 hw1);have kb1:=held (sb1 w1 hw1);clear d0' sa0 sb0 d1' sa1 sb1;have s0:Below w1.heap.size w1 w1.drew:=brf.drew
 refine wrM (S:=Below w1.heap.size w1) [(0,.q),(1,.q),(2,.q),(3,.q),(4,.q),(5,.q),(6,.q),(7,.q),(8,.q),(9,.q),(10,.q),(11,.q),(12,.q),(13,.q),(15,.q),(16,.q),(17,.q),(18,.q),(19,.q),(20,.q),(21,.q),(22,.q),(23,.q),(24,.q),(25,.q),(26,.q),(27,.q),(28,.q),(14,.l),(29,.t),(30,.t),(31,.p)] (s0) ?_
 iterate 28 (refine qaf rfl rfl fun K hK=>xq ?_;go_simp;refine hK _ _ ?_;clear hK K)
 refine vl fun K hK=>?_
 go_simp;refine (C1.out w1.drew (bth hw1 s0)).mono ?_;rintro r w1 ⟨a1,c1,rfl,hP1,hb1⟩;dsimp only;refine hK.out _ _ (bth s0 hb1) (fun _=>?_);clear hK K;have s1:=bth s0 hb1;replace hP1:=Hd hP1;clear C1 hb1;refine vt fun K hK=>?_
 go_simp;refine (C2.out w1 (bth hw1 s1)).mono ?_;rintro r w2 ⟨a2,c2,rfl,hP2,hb2⟩;dsimp only;refine hK.out _ _ ?_;clear hK K;have s2:=bth s1 hb2;replace hP2:=Hd hP2;replace hP1:=Hd (hP1.out.call hb2);clear C2 hb2;refine vt fun K hK=>?_
 go_simp;refine hK.out _ _ ?_;clear hK K
 refine qaj rfl rfl fun K hK=>xp ?_;go_simp;refine hK _ _ ?_;clear hK K
 refine qad ?_;clear k0 ka0 kb0 k1 ka1 kb1;have hwF:=bth hw1 s2;go_wp2;refine qaa (fun W=>Blk W w2.heap.size 75 #[.slice a1 y1.length c1,.slice a2 y2.length c2]/\Below w2.heap.size w2 W) ⟨bk,zg⟩ ?_;rintro wF ⟨hF',hbF⟩;refine bodyPost_ret (v:=.slice (some ⟨w2.heap.size,0,none⟩) 2 2) (by simp [results,Tryz.results65,go_sem]) rfl ?_;exact ⟨bth hwF hbF,some ⟨w2.heap.size,0,none⟩,2,_,rfl,qrf hF',by simp,fun g hg=>by injection hg with hg;subst hg;exact hwF.size⟩
theorem Gr.scaleFine {D M:Nat} {p:List Tm} {q:Rat} (H:GB D M) (h:Gr D M 2 128 512 p) (hq:q.num.natAbs<=2 ^ 32/\q.den<=2 ^ 32):FineP (qau p q):=by
 obtain ⟨h1,h2,h3⟩:=quv H 2;have d0:0<q.den:=Nat.pos_of_ne_zero q.den_nz;have hl:=qk5 p q;refine qeq (i:=18) (qfv h.1) oo (h.2.1.scale q) (Nat.mul_pos h1 d0) ?_ ?_ oo (by have:=h.2.2;omega)
 · refine Nat.le_trans (Nat.mul_le_mul h2 hq.2) dd
 · refine Nat.le_trans (Nat.mul_le_mul (Nat.mul_le_mul (nlr 128) h3) hq.1) dd
theorem qve (X:Nat->Prop) (p:List Tm) (x:QA) (a:Option Addr) (ca:Nat) (w:World) (hp:PolX X w a ca p) (hx:Rd X w fun V=>QAc V x 0) (hz:qsz 0<=1000) :
  Calls Tryz.prog 108 #[.slice a p.length ca,.agg #[.bool x.neg,.slice x.a x.n x.c,.slice x.b x.m x.d]] w (RetP X [] w):=by
 have lp:=hp.len;have CS:=fun W (hW:bw w W)=>qji x 0 1000 W ⟨(hx.call hW).now,hz⟩ oo
 rw [show sgnQ 0=0 from by decide] at CS;replace CS:=Hd CS;clear hp hx hz;go_enter Tryz.func108,Tryz.ntmps108;go_wp2;refine qaa (fun W=>Blk W w.heap.size 32 #[.bool x.neg,.slice x.a x.n x.c,.slice x.b x.m x.d]/\Below w.heap.size w W) ⟨bk,zg⟩ ?_;rintro w0 ⟨hz,hw0⟩
 go_loopg [5,6] 0 (fun n o qi wr=>o=.slice none 0 0/\qi=.int .i64 0/\Below w.heap.size w wr/\Blk wr w.heap.size 32 #[.bool x.neg,.slice x.a x.n x.c,.slice x.b x.m x.d])
 case atStart=>exact ⟨rfl,rfl,hw0,hz⟩
 case round =>
  clear hw0 hz;obtain ⟨rfl,rfl,hwr,hz⟩:=hrel;by_cases hk:0<p.length
  ·
   obtain ⟨z0,z1,z2⟩:=cq3 hz;have hzl:=hz.lt;go_wp2_with fail;refine (CS.out wr hwr).mono ?_;rintro e w1 ⟨rfl,hb1⟩;have hw1:=bth hwr hb1;clear z0 z1 z2 CS;go_wp2;go_ret;exact ⟨none,0,rfl,PolX.nil,hw1⟩
  ·
   go_wp2;go_ret;exact ⟨none,0,rfl,PolX.nil,hwr⟩
theorem qwk (p:List Tm) (x:QA) (q:Rat) (a:Option Addr) (ca:Nat) (w:World) (hp:PolX (fun _=>False) w a ca p) (fp:FineP p) (hx:Rd (fun _=>False) w fun V=>QAc V x q) (hq:qsz q<=1000) :
  Calls Tryz.prog 108 #[.slice a p.length ca,.agg #[.bool x.neg,.slice x.a x.n x.c,.slice x.b x.m x.d]] w (RetP (fun _=>False) (qau p q) w):=by
 by_cases h0:q=0
 ·
  subst h0;have:=qve (fun _=>False) p x a ca w hp hx hq
  rwa [show qau p 0=[] from if_pos rfl]
 · exact qou (fun _=>False) p x q a ca w (fun b hb=>hb.elim) hp fp hx hq h0
theorem qyk (x:Frm) (hs:List (VQ × Vec)) (ra va aa na da:Option Addr) (rc vc ac nn nc dn dc:Nat) (neg:Bool) (args:List Int) (D M:Nat) (w:World) (hA:IntsR w aa ac args) (hF:FrR w x hs ra rc va vc) (H:GB D M) (hG:∀ n:Nat,∀ y:Int,y∈args->∀ {z:VQ × Vec},hs[n]? = some z->GV D M 8 z.2) (hr:∀ y∈args,0<=y/\y<(hs.length:Int)) (k:Int) (hk:¬ (1<=k/\k<=8)) (q:Rat) (hq0:QAc w ⟨neg,nn,na,nc,dn,da,dc⟩ q) (hqb:q.num.natAbs<=2 ^ 32/\q.den<=2 ^ 32) (hqs:qsz q<=1000) (hlen:args.length=4) :
  Calls Tryz.prog 65 #[.agg #[.int .i64 k,.slice aa args.length ac,.bool neg,.slice na nn nc,.slice da dn dc],.slice ra hs.length rc] w (RetG w):=by
 have lA:=hA.len;have lH:=SlR.len hF.co;obtain ⟨ab,ao,rb,ro,hab,hrb,hal,hrl,PK⟩:=qdn hA hF (fun n hn=>hG n _ hn) hr oo;obtain ⟨n0,qv0,v0,hy0,hz0,d0,s0a,s0b,hv0,gv0,lN0,mN0⟩:=PK 0 oo;obtain ⟨n1,qv1,v1,hy1,hz1,d1,s1a,s1b,hv1,gv1,lN1,mN1⟩:=PK 1 oo;obtain ⟨n2,qv2,v2,hy2,hz2,d2,s2a,s2b,hv2,gv2,lN2,mN2⟩:=PK 2 oo;obtain ⟨n3,qv3,v3,hy3,hz3,d3,s3a,s3b,hv3,gv3,lN3,mN3⟩:=PK 3 oo;have hX:∀ b,(fun _:Nat=>False) b->b<w.heap.size:=fun b hb=>hb.elim
 have l0:(0:Int)<(args.length:Int):=oo
 have m0:(n0:Int)<(hs.length:Int):=oo
 have l1:(1:Int)<(args.length:Int):=oo
 have m1:(n1:Int)<(hs.length:Int):=oo
 have l2:(2:Int)<(args.length:Int):=oo
 have m2:(n2:Int)<(hs.length:Int):=oo
 have l3:(3:Int)<(args.length:Int):=oo
 have m3:(n3:Int)<(hs.length:Int):=oo
 rw [Nat.add_zero] at d0;clear PK;have hq:Rd (fun _=>False) w fun V=>QAc V ⟨neg,nn,na,nc,dn,da,dc⟩ q:=fun V hV=>hq0.ext (fun p v h=>hV p v (fun h=>h) h)
 have fs:=Gr.scaleFine H (norm8 gv2 gv3) hqb;have xqd:(⟨neg,nn,na,nc,dn,da,dc⟩:QA)=⟨neg,nn,na,nc,dn,da,dc⟩:=rfl;have z1:Gr D M 2 128 512 (normP v0 v1):=norm8 gv0 gv1;have z2:Gr D M 2 128 512 (normP v2 v3):=norm8 gv2 gv3;have C1:=fun W (hW:bw w W)=>qbm (fun _=>False) v0 v1 qv0 qv1 D M W (fun b hb=>ltl (hX b hb) hW.size) H (hv0.call hW) (hv1.call hW) gv0 gv1
 have C2:=fun W (hW:bw w W)=>qbm (fun _=>False) v2 v3 qv2 qv3 D M W (fun b hb=>ltl (hX b hb) hW.size) H (hv2.call hW) (hv3.call hW) gv2 gv3
 have C3:=fun W (hW:bw w W) (a1:Option Addr) (c1:Nat) (h1:PolX (fun _=>False) W a1 c1 (normP v2 v3))=>qwk (normP v2 v3) ⟨neg,nn,na,nc,dn,da,dc⟩ q a1 c1 W h1 (Gr.fine H z2 dd dd dd) (hq.call hW) hqs
 have C4:=fun W (hW:bw w W) (a1:Option Addr) (c1:Nat) (h1:PolX (fun _=>False) W a1 c1 (normP v0 v1)) (a2:Option Addr) (c2:Nat) (h2:PolX (fun _=>False) W a2 c2 (qau (normP v2 v3) q))=>qa6 (fun _=>False) (normP v0 v1) (qau (normP v2 v3) q) a1 a2 c1 c2 W (fun b hb=>ltl (hX b hb) hW.size) h1 h2 (Gr.fine H z1 dd dd dd) fs
 revert C1 C2 C3 C4;clear z1 z2;generalize normP v0 v1=y1;generalize normP v2 v3=y2;generalize qau y2 q=y3;generalize subP y1 y3=y4;intro C1 C2 C3 C4;replace C1:=Hd C1;replace C2:=Hd C2;replace C3:=Hd C3;replace C4:=Hd C4;clear hX hy0 hz0 hv0 gv0 hy1 hz1 hv1 gv1 hy2 hz2 hv2 gv2 hy3 hz3 hv3 gv3;subst hab;subst hrb;have d0':=held d0;have sa0:=held s0a;have sb0:=held s0b;have d1':=held d1;have sa1:=held s1a;have sb1:=held s1b;have d2':=held d2;have sa2:=held s2a;have sb2:=held s2b;have d3':=held d3;have sa3:=held s3a;have sb3:=held s3b;clear d0 s0a s0b d1 s1a s1b d2 s2a s2b d3 s3a s3b;have b1:(k==1)=false:=by simp;omega
 have b2:(k==2)=false:=by simp;omega
 have b3:(k==3)=false:=by simp;omega
 have b4:(k==4)=false:=by simp;omega
 have b5:(k==5)=false:=by simp;omega
 have b6:(k==6)=false:=by simp;omega
 have b7:(k==7)=false:=by simp;omega
 have b8:(k==8)=false:=by simp;omega
 replace hlen:=Hd hlen;replace hk:=Hd hk;clear hA hF H hG hr hq0 hqb hqs hq fs xqd;go_enter Tryz.func65,Tryz.ntmps65;go_wp2;refine qaa (fun W=>Blk W w.heap.size 91 #[.int .i64 k,.slice (some ⟨ab,ao,none⟩) args.length ac,.bool neg,.slice na nn nc,.slice da dn dc]/\Below w.heap.size w W) ⟨bk,zg⟩ ?_;rintro w1 ⟨BQ,hw1⟩;have bq2:=held (BQ.cell 2);have bq3:=held (BQ.cell 3);have bq4:=held (BQ.cell 4);have k0:=held (d0' w1 hw1);have ka0:=held (sa0 w1 hw1);have kb0:=held (sb0 w1 hw1);have k1:=held (d1' w1 hw1);have ka1:=held (sa1 w1 hw1);have kb1:=held (sb1 w1 hw1);have k2:=held (d2' w1 hw1);have ka2:=held (sa2 w1 hw1);have kb2:=held (sb2 w1 hw1);have k3:=held (d3' w1 hw1);have ka3:=held (sa3 w1 hw1);have kb3:=held (sb3 w1 hw1)
 clear d0' sa0 sb0 d1' sa1 sb1 d2' sa2 sb2 d3' sa3 sb3;have s0:Below w1.heap.size w1 w1.drew:=brf.drew;refine wrM (S:=Below w1.heap.size w1) [(0,.q),(1,.q),(2,.q),(3,.q),(4,.q),(5,.q),(6,.q),(7,.q),(8,.q),(9,.q),(10,.q),(11,.q),(13,.q),(14,.q),(15,.q),(16,.q),(17,.q),(18,.q),(19,.q),(20,.q),(21,.q),(22,.q),(23,.q),(24,.q),(26,.q),(27,.q),(12,.l),(25,.l),(28,.t),(29,.t),(30,.t),(31,.p)] (s0) ?_
 iterate 26 (refine qaf rfl rfl fun K hK=>xq ?_;go_simp;refine hK _ _ ?_;clear hK K)
 refine vl fun K hK=>?_
 go_simp;refine (C1.out w1.drew (bth hw1 s0)).mono ?_;rintro r w1 ⟨a1,c1,rfl,hP1,hb1⟩;dsimp only;refine hK.out _ _ (bth s0 hb1) (fun _=>?_);clear hK K;have s1:=bth s0 hb1;replace hP1:=Hd hP1;clear C1 hb1;refine vl fun K hK=>?_
 go_simp;refine (C2.out w1 (bth hw1 s1)).mono ?_;rintro r w2 ⟨a2,c2,rfl,hP2,hb2⟩;dsimp only;refine hK.out _ _ (bth s1 hb2) (fun _=>?_);clear hK K;have s2:=bth s1 hb2;replace hP2:=Hd hP2;replace hP1:=Hd (hP1.out.call hb2);clear C2 hb2;refine vt fun K hK=>?_
 go_simp;refine (C3.out w2 (bth hw1 s2) a2 c2 hP2.out).mono ?_;rintro r w3 ⟨a3,c3,rfl,hP3,hb3⟩;dsimp only;refine hK.out _ _ ?_;clear hK K;have s3:=bth s2 hb3;replace hP3:=Hd hP3;replace hP1:=Hd (hP1.out.call hb3);clear C3 hb3;refine vt fun K hK=>?_
 go_simp;refine (C4.out w3 (bth hw1 s3) a1 c1 hP1.out a3 c3 hP3.out).mono ?_;rintro r w4 ⟨a4,c4,rfl,hP4,hb4⟩;dsimp only;refine hK.out _ _ ?_;clear hK K;have s4:=bth s3 hb4;replace hP4:=Hd hP4;clear C4 hb4;refine vt fun K hK=>?_
 go_simp;refine hK.out _ _ ?_;clear hK K
 refine qaj rfl rfl fun K hK=>xp ?_;go_simp;refine hK _ _ ?_;clear hK K
 refine qad ?_;clear bq2 bq3 bq4 k0 ka0 kb0 k1 ka1 kb1 k2 ka2 kb2 k3 ka3 kb3;have hwF:=bth hw1 s4;go_wp2;refine qaa (fun W=>Blk W w4.heap.size 75 #[.slice a4 y4.length c4]/\Below w4.heap.size w4 W) ⟨bk,zg⟩ ?_;rintro wF ⟨hF',hbF⟩;refine bodyPost_ret (v:=.slice (some ⟨w4.heap.size,0,none⟩) 1 1) (by simp [results,Tryz.results65,go_sem]) rfl ?_;exact ⟨bth hwF hbF,some ⟨w4.heap.size,0,none⟩,1,_,rfl,qfd hF',by simp,fun g hg=>by injection hg with hg;subst hg;exact hwF.size⟩
end Go.Proofs.YtmdlbpibipnapaaGreat
