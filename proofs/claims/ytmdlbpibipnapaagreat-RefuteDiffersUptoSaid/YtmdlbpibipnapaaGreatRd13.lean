/- Walks: a free point (the program's coordinates). -/
import Derived.Test.YtmdlbpibipnapaaGreatRd12
import Derived.Test.YtmdlbpibipnapaaGreatRd8
import Derived.Test.YtmdlbpibipnapaaGreatRd1
set_option linter.all false
set_option maxRecDepth 100000
set_option maxHeartbeats 4000000
namespace Go.Proofs.YtmdlbpibipnapaaGreat
open Go.RowKit
theorem qj5 {p:List Tm} (h:FineP p):FineP (negP p):=by
 unfold negP qau;rw [if_neg dd];refine ⟨by simpa using h.1,fun u hu=>?_⟩;obtain ⟨s,hs,rfl⟩:=List.mem_map.1 hu;obtain ⟨h1,h2,h3⟩:=h.2 s hs;have e:s.1*(-1) = -s.1:=by grind
 exact ⟨h1,by show s.1*(-1)≠0;grind,by show qsz (s.1*(-1))<=1000;rw [e,qzt];exact h3⟩
theorem qpf:qak (decide ((-1:Int)<0)) (-1:Int).natAbs 1=trip (-1):=by
 have:=qh3 (-1) 1;rw [this]
 rfl
theorem qib:qsz (-1)<=1:=qgl (qam dd) (qam dd)
theorem qac7 (w:World):Calls Tryz.prog 10 #[.int .i64 (-1)] w (RetQK 1 (-1) w):=by
 have:=qj3 (-1) w ⟨oo,oo⟩;rw [qpf] at this;exact this.mono fun _ _ h=>qdl qib h
theorem qz1 (w:World):Calls Tryz.prog 106 #[.int .i64 (-1)] w (RetQK 1 (-1) w):=by
 have:=qmr (-1) w ⟨oo,oo⟩;rw [qpf] at this;exact this.mono fun _ _ h=>qdl qib h
theorem qpu (X:Nat->Prop) (p:List Tm) (x:QA) (q:Rat) (a:Option Addr) (ca:Nat) (w:World) (hX:∀ b,X b->b<w.heap.size) (hp:PolX X w a ca p) (fp:FineP p) (hx:Rd X w fun V=>QAc V x q) (hq:qsz q<=1000) :
  Calls Tryz.prog 119 #[.slice a p.length ca,.agg #[.bool x.neg,.slice x.a x.n x.c,.slice x.b x.m x.d]] w (RetP X (qau p q) w):=by
 have CS:=fun W (hW:bw w W)=>qk7 x q 1000 W ⟨(hx.call hW).now,hq⟩ oo
 have hsg:=qry q;by_cases h0:q=0
 ·
  have e:qau p q=[]:=by unfold qau;rw [if_pos h0]
  rw [e];rw [decide_eq_true h0] at hsg;revert CS hsg;generalize sgnQ q=R;intro CS hsg;replace CS:=Hd CS;clear hX hp fp hx hq h0 e;go_enter Tryz.func119,Tryz.ntmps119;go_wp2_with fail;refine qae (fun W=>Below w.heap.size w W) (by go_grown) ?_;intro w0 hw0;refine (CS.out _ hw0).mono ?_;rintro e w1 ⟨rfl,hb1⟩;go_wp2;go_ret;exact ⟨none,0,rfl,PolX.nil,bth hw0 hb1⟩
 ·
  have e:qau p q=qaq p (q,[]):=(qgh h0).symm;rw [e];rw [decide_eq_false h0] at hsg;have CT:=fun W (hW:bw w W)=>qj9 X p q [] ⟨x,0,none,0⟩ a ca W (fun b hb=>ltl (hX b hb) hW.size) (hp.call hW) fp ((hx.call hW).imp fun V h=>⟨h,SlR.nil,rfl⟩) ⟨Mok.nil _,h0,hq⟩
  revert CS CT hsg;generalize sgnQ q=R;generalize qaq p (q,[])=res;intro CS hsg CT;replace CS:=Hd CS;replace CT:=Hd CT;clear hX hp fp hx hq h0 e;go_enter Tryz.func119,Tryz.ntmps119;go_wp2_with fail;refine qae (fun W=>Blk W w.heap.size 32 #[.bool x.neg,.slice x.a x.n x.c,.slice x.b x.m x.d]/\Below w.heap.size w W) ⟨bk,zg⟩ ?_;rintro w0 ⟨hz,hw0⟩;refine (CS.out _ hw0).mono ?_;rintro e w1 ⟨rfl,hb1⟩;replace hz:=hz.below' hb1;have hw1:=bth hw0 hb1;obtain ⟨z0,z1,z2⟩:=cq3 hz;go_wp2_with fail;refine (CT.out _ hw1).mono ?_;rintro e w2 ⟨a2,c2,rfl,hP,hb2⟩;go_wp2;go_ret;exact ⟨a2,c2,rfl,hP,bth hw1 hb2⟩
theorem quy (X:Nat->Prop) (p:List Tm) (a:Option Addr) (ca:Nat) (w:World) (hX:∀ b,X b->b<w.heap.size) (hp:PolX X w a ca p) (fp:FineP p) :
  Calls Tryz.prog 120 #[.slice a p.length ca] w (RetP X (negP p) w):=by
 have CT:=fun x W (hW:bw w W) hx=>qpu X p x (-1) a ca W (fun b hb=>ltl (hX b hb) hW.size) (hp.call hW) fp hx (Nat.le_trans qib oo)
 have hXl:=Hd hX;replace CT:=Hd CT;unfold negP;revert CT;generalize qau p (-1)=res;intro CT;clear hX hp fp;go_enter Tryz.func120,Tryz.ntmps120;go_wp2_with fail;refine (qac7 w).mono ?_;rintro e w1 ⟨x,rfl,HK,hb1⟩;go_wp2_with fail;refine (CT.out x w1 hb1 (Rd.kp (HK.imp fun V h=>h.1) fun b hb=>.inl (hXl.out b hb))).mono ?_;rintro e w2 ⟨a2,c2,rfl,hP,hb2⟩;clear HK;go_wp2;go_ret;exact ⟨a2,c2,rfl,hP,bth hb1 hb2⟩
theorem qab6 (X:Nat->Prop) (p q:List Tm) (a b:Option Addr) (ca cb:Nat) (w:World) (hX:∀ b,X b->b<w.heap.size) (hp:PolX X w a ca p) (hq:PolX X w b cb q) (fp:FineP p) (fq:FineP q) :
  Calls Tryz.prog 156 #[.slice a p.length ca,.slice b q.length cb] w (RetP X (subP p q) w):=by
 have C1:=quy X q b cb w hX hq fq;have C2:=fun b' cb' W (hW:bw w W) h=>quf X p (negP q) a b' ca cb' W (fun b hb=>ltl (hX b hb) hW.size) (hp.call hW) h fp (qj5 fq)
 unfold subP;revert C1 C2;generalize negP q=nq;generalize addP p nq=res;intro C1 C2;replace C1:=Hd C1;replace C2:=Hd C2;clear hX hp hq fp fq;go_enter Tryz.func156,Tryz.ntmps156;go_wp2_with fail;refine C1.out.mono ?_;rintro e w1 ⟨a1,c1,rfl,hP1,hb1⟩;replace hP1:=Hd hP1;go_wp2_with fail;refine (C2.out a1 c1 w1 hb1 hP1.out).mono ?_;rintro e w2 ⟨a2,c2,rfl,hP,hb2⟩;go_wp2;go_ret;exact ⟨a2,c2,rfl,hP,bth hb1 hb2⟩
theorem qu6 (X:Nat->Prop) (x:QA) (q:Rat) (m:List Int) (a:Option Addr) (ca:Nat) (w:World) (hX:∀ b,X b->b<w.heap.size) (hx:Rd X w fun V=>QAc V x q) (hq:qsz q<=1000) (h0:q≠0) (hm:Rd X w fun V=>IntsR V a ca m) :
  Calls Tryz.prog 182 #[.agg #[.bool x.neg,.slice x.a x.n x.c,.slice x.b x.m x.d],.slice a m.length ca] w (RetP X [(q,m)] w):=by
 have CS:=fun W (hW:bw w W)=>qk7 x q 1000 W ⟨(hx.call hW).now,hq⟩ oo
 have hsg:=qry q;rw [decide_eq_false h0] at hsg;obtain ⟨t,ht⟩:∃ t:TQ,t=⟨x,m.length,a,ca⟩:=⟨_,rfl⟩
 have hR:Rd X w (t.R (q,m)):=by rw [ht];exact (hx.and hm).imp fun V h=>⟨h.1,h.2,rfl⟩
 have e1:x=t.x:=by rw [ht]
 have e2:m.length=t.n:=by rw [ht]
 have e3:a=t.a:=by rw [ht]
 have e4:ca=t.c:=by rw [ht]
 rw [e1] at CS;rw [e1,e2,e3,e4];obtain ⟨S0,hS0⟩:=nm (sgnQ q)
 rw [hS0] at CS hsg;clear hS0;replace CS:=Hd CS;replace hR:=Hd hR;replace hX:=Hd hX;clear hx hq hm h0 ht e1 e2 e3 e4;go_enter Tryz.func182,Tryz.ntmps182;go_wp2_with fail;refine qae (fun W=>Blk W w.heap.size 32 #[.bool t.x.neg,.slice t.x.a t.x.n t.x.c,.slice t.x.b t.x.m t.x.d]/\Below w.heap.size w W) ⟨bk,zg⟩ ?_;rintro w0 ⟨hz,hw0⟩;refine (CS.out _ hw0).mono ?_;rintro e w1 ⟨rfl,hb1⟩;replace hz:=hz.below' hb1;have hw1:=bth hw0 hb1;obtain ⟨z0,z1,z2⟩:=cq3 hz;have hP:PolX X (w1.alloc (.cells #[.bool t.x.neg,.slice t.x.a t.x.n t.x.c,.slice t.x.b t.x.m t.x.d,.slice t.a t.n t.c] 193)) (some ⟨w1.heap.size,0,none⟩) 1 [(q,m)]:=by
  refine ⟨[t],fun V hV=>⟨by simp,by simp [maxLen],fun k s hk=>?_⟩,AllT.one ((hR.out.call hw1).alloc _)⟩
  cases k with
  | zero =>
   simp at hk;subst hk;have hA:TQ.At t (w1.alloc (.cells #[.bool t.x.neg,.slice t.x.a t.x.n t.x.c,.slice t.x.b t.x.m t.x.d,.slice t.a t.n t.c] 193)) w1.heap.size 0:=At.new;have hn:¬ X w1.heap.size:=fun h=>by have:=hX.out _ h;have:=hw1.size;omega
   exact ⟨_,0,rfl,hV _ _ hn hA.1,hV _ _ hn hA.2.1,hV _ _ hn hA.2.2.1,hV _ _ hn hA.2.2.2⟩
  | succ k=>simp at hk
 replace hP:=Hd hP;go_wp2;go_ret;exact ⟨_,1,rfl,hP.out,hw1.alloc hw1.size _⟩
theorem qog:qak (decide ((1:Int)<0)) (1:Int).natAbs 1=trip 1:=by
 have:=qh3 1 1;rw [this]
 rfl
theorem qgr:qsz 1<=1:=qgl (qam dd) (qam dd)
theorem qab5 (w:World):Calls Tryz.prog 10 #[.int .i64 1] w (RetQK 1 1 w):=by
 have:=qj3 1 w ⟨oo,oo⟩;rw [qog] at this;exact this.mono fun _ _ h=>qdl qgr h
theorem qrz (w:World):Calls Tryz.prog 106 #[.int .i64 1] w (RetQK 1 1 w):=by
 have:=qmr 1 w ⟨oo,oo⟩;rw [qog] at this;exact this.mono fun _ _ h=>qdl qgr h
theorem qzu (n:Nat):(List.replicate (n+1) (0:Int)).set n 1=List.replicate n 0++[1]:=by
 rw [List.replicate_succ'];rw [List.set_append_right _ _ (by simp)];simp
theorem qrr (n:Nat):(Array.replicate (n+1) (Value.int .i64 0)).setIfInBounds n (.int .i64 1)=((List.replicate n (0:Int)++[1]).map (Value.int .i64)).toArray:=by
 rw [<- qzu,List.map_set,<- List.setIfInBounds_toArray];simp
theorem qri (n:Nat):∀ x∈List.replicate n (0:Int)++[1],InInt x:=fun x hx=>by
 rcases List.mem_append.1 hx with h | h
 · have:=List.eq_of_mem_replicate h;subst this;unfold InInt;omega
 · rw [List.mem_singleton] at h;subst h;unfold InInt;omega
theorem qae0 (X:Nat->Prop) (n:Nat) (w:World) (hX:∀ b,X b->b<w.heap.size) (hn63:n<=1000000):Calls Tryz.prog 162 #[.int .i64 n] w (RetP X (varP n) w):=by
 by_cases hn:n<64
 ·
  have hmk:=ql0 191 Tryz.underlying191 (n+1) oo w;rw [show ((n+1:Nat):Int)=(n:Int)+1 by omega] at hmk;have e:varP n=[(1,List.replicate n 0++[1])]:=by unfold varP;rw [if_pos hn]
  rw [e];have hr0:RowZ (w.alloc (.cells (((List.replicate (n+1) (0:Int)).map (Value.int .i64)).toArray) 3)) w.heap.size (List.replicate (n+1) 0):=Blk.new w _ _;have c0:=hr0.cell (show (List.replicate (n+1) (0:Int))[n]? = some 0 by simp);have f0:=hr0.frozen n;have HX:=Hd hX;clear hX hr0 e;go_enter Tryz.func162,Tryz.ntmps162;go_wp2_with fail;refine qae (fun W=>RowZ W w.heap.size (List.replicate n 0++[1])/\Below w.heap.size w W) ⟨by unfold RowZ;rw [<- qrr];exact Blk.new w _ _,zg⟩ ?_;clear c0 f0 hmk;rintro w1 ⟨hR,hw1⟩;refine (qab5 w1).mono ?_;rintro e w2 ⟨x,rfl,HK,hb2⟩;have hw2:=bth hw1 hb2;have hm:=(hR.below hb2).reads (qri n) (by simp;unfold maxLen;omega) (B:=w.heap.size) (T:=w.heap.size+1) (nlr _) (Nat.lt_succ_self _);have hln:(List.replicate n (0:Int)++[1]).length=n+1:=by simp
  rw [hln] at hm;have C1:=qu6 X x 1 (List.replicate n 0++[1]) (some ⟨w.heap.size,0,none⟩) (n+1) w2 (fun b hb=>by have:=HX.out b hb;have:=hw2.size;omega) (Rd.kp (HK.imp fun V h=>h.1) fun b hb=>by have:=HX.out b hb;have:=hw1.size;omega) (Nat.le_trans qgr oo) dd (Rd.kp hm fun b hb=>by have:=HX.out b hb;omega);rw [hln] at C1;replace C1:=Hd C1;clear HK hm hln hR hw1;go_wp2_with fail;refine C1.out.mono ?_;rintro e w3 ⟨a3,c3,rfl,hP,hb3⟩;go_wp2;go_ret;exact ⟨a3,c3,rfl,hP,bth hw2 hb3⟩
 ·
  have e:varP n=[]:=by unfold varP;rw [if_neg hn]
  rw [e];clear hX e;have hge:(64:Int)<=n:=oo
  go_enter Tryz.func162,Tryz.ntmps162;go_wp2;go_ret;exact ⟨none,0,rfl,PolX.nil,Below.refl _ _⟩
structure PQ where
 n:Nat
 a:Option Addr
 c:Nat
def PQ.cs (s:PQ):List Value:=[.slice s.a s.n s.c]
theorem PQ.cs_len (s:PQ):s.cs.length=1:=rfl
theorem PQ.cs_one (s:PQ):∀ u∈s.cs,u.oneCell'=true:=by simp [PQ.cs,Value.oneCell']
abbrev OwnPq (B:Nat) (w:World) (a:Option Addr) (c:Nat) (l:List PQ):Prop:=Own PQ.cs 1 75 B w a c l
theorem qnx:(Tryz.prog.info? 75).map (fun i=>(i.zero,i.size,i.bytes))=some (some (.slice none 0 0),1,24):=by kernel_rfl
theorem ql3 (n:Nat) (hn:n<=1000000) (w:World) :
  ∃ cur:Array Value,cur.size=n*1/\(Instr.makeSlice 38 (.int .i64 0) (.int .i64 (n:Int))).run Tryz.prog w=.ok (.slice (some ⟨w.heap.size,0,none⟩) 0 n) (w.alloc (.cells cur 75)):=by
 obtain ⟨i,hi,hz,hsz,hby⟩:=info_parts qnx;have:=run_makeSlice (w:=w) 38 75 i _ Tryz.underlying38 hi hz .i64 .i64 0 n oo oo (by rw [hsz];simp;omega) (by rw [hby];omega) oo;rw [hsz] at this;simp only [Int.toNat_zero,Int.toNat_natCast] at this;exact ⟨_,size_madeCells _ _,this⟩
theorem qad5 (X:Nat->Prop) (a:Option Addr) (c:Nat) (w:World):Calls Tryz.prog 163 #[.slice a 0 c] w (RetP X [] w):=by
 go_enter Tryz.func163,Tryz.ntmps163;go_wp2;go_ret;exact ⟨none,0,rfl,PolX.nil,Below.refl _ _⟩
theorem qva (X:Nat->Prop) (p:List Tm) (b o c:Nat) (a1:Option Addr) (c1:Nat) (w:World) (hc:w.cell? ⟨b,o,none⟩=some (.slice a1 p.length c1)) (hp:PolX X w a1 c1 p):Calls Tryz.prog 163 #[.slice (some ⟨b,o,none⟩) 1 c] w (RetP X p w):=by
 have HP:=Hd hp;clear hp;go_enter Tryz.func163,Tryz.ntmps163;go_wp2;go_ret;exact ⟨a1,c1,rfl,HP.out,Below.refl _ _⟩
theorem zz36 {P:Prop} (h:P:=by
 have h1:=hP'.out.step ((Agr.refl (Xr X (some ⟨w.heap.size,0,none⟩)) _).grown hg3 fun g hg=>.inr ⟨g,hg,rfl⟩);exact h1.map fun R h=>h.less fun b hb=>.inl hb
 ):P:=h
theorem qab2 (X:Nat->Prop) (p:List Tm) (v:Tm) (a b:Option Addr) (ca cb:Nat) (w:World) (hX:∀ b,X b->b<w.heap.size) (hp:PolX X w a ca p) (hq:PolX X w b cb [v]) (fp:FineP p) (fv:FineT v) (hl:1<p.length) :
  Calls Tryz.prog 123 #[.slice a p.length ca,.slice b 1 cb] w (RetP X (qaq p v) w):=by
 have lp:=hp.len;have l1:=fp.1;obtain ⟨cur,hcs,hmk0⟩:=ql3 1 oo w;have hmk:(Instr.makeSlice 38 (.int .i64 0) (.int .i64 1)).run Tryz.prog w=.ok (.slice (some ⟨w.heap.size,0,none⟩) 0 1) (w.alloc (.cells cur 75)):=hmk0;clear hmk0;obtain ⟨b1,o1,t,rfl,hs,hsR⟩:=hq.get (show [v][0]? = some v from rfl);have hXx:∀ b,Xr X (some ⟨w.heap.size,0,none⟩) b->X b\/w.heap.size<=b:=fun b hb=>by
  rcases hb with hb | ⟨g,hg,rfl⟩
  · exact .inl hb
  · injection hg with hg;subst hg;exact .inr (nlr _)
 have CT:=fun W (hW:bw w W) (hlt:w.heap.size<W.heap.size)=>qj9 (Xr X (some ⟨w.heap.size,0,none⟩)) p v.1 v.2 t a ca W (fun b hb=>by
  rcases hb with hb | ⟨g,hg,rfl⟩
  · exact ltl (hX b hb) hW.size
  · injection hg with hg;subst hg;exact hlt) ((hp.more hXx).call hW) fp ((hsR.more hXx).call hW) fv
 obtain ⟨res,hres⟩:=nm (qaq p v)
 rw [show (v.1,v.2)=v from rfl,hres] at CT;rw [hres];obtain ⟨c0,c1,c2,c3⟩:=hs;simp only [Nat.zero_mul,Nat.add_zero] at c0 c1 c2 c3;have HX:=Hd hX;replace CT:=Hd CT;clear hp hq fp fv hsR hX hres;go_enter Tryz.func123,Tryz.ntmps123;go_wp2;refine qaa (fun W=>OwnPq w.heap.size W (some ⟨w.heap.size,0,none⟩) 1 []/\Below w.heap.size w W) ⟨World.ownsRow_made w cur 1 (nlr _) (by simp [maxLen]) hcs,zg⟩ ?_;rintro w0 ⟨how,hw0⟩;have d0:=held c0 w0 hw0;have d1:=held c1 w0 hw0;have d2:=held c2 w0 hw0;have d3:=held c3 w0 hw0;replace how:=Hd how;clear hmk c0 c1 c2 c3;refine wp_loop_rounds 2 ?_;rw [rounds_succ];go_wp2_with fail;refine qae (fun W=>OwnPq w.heap.size W (some ⟨w.heap.size,0,none⟩) 1 []/\Below w0.heap.size w0 W) ⟨how.out.alloc _,zg⟩ ?_;clear d0 d1 d2 d3;rintro w1 ⟨ho1,hw1⟩;have hw1':=bth hw0 hw1;refine (CT.out w1 hw1' (ho1.lt rfl).2).mono ?_;rintro e w2 ⟨a2,c2,rfl,hP,hb2⟩
 have hw2:=bth hw1' hb2;have ho2:=(ho1.below hb2).alloc (.cells #[.slice a2 res.length c2] 75);have hcl:∀ j v,(PQ.cs ⟨res.length,a2,c2⟩)[j]? = some v->(w2.alloc (.cells #[.slice a2 res.length c2] 75)).cell? ⟨w2.heap.size,j,none⟩=some v:=fun j v hj=>by
  cases j with
  | zero=>simp [PQ.cs] at hj;subst hj;exact (Blk.new w2 75 #[.slice a2 res.length c2]).cell 0
  | succ j=>simp [PQ.cs] at hj
 have hP':=hP.step ((Agr.refl _ w2).alloc (.cells #[.slice a2 res.length c2] 75));replace ho2:=Hd ho2;replace hcl:=Hd hcl;replace hP':=Hd hP';clear how ho1 hP;go_wp2_with (at_builtin;go_must (refine qay (B:=w.heap.size) rfl (.tmp 24) (.tmp 28) 38 rfl Tryz.underlying38 qnx rfl oo oo PQ.cs_len (some ⟨w.heap.size,0,none⟩) 1 (l:=[]) rfl ho2.out ⟨res.length,a2,c2⟩ (PQ.cs_one _) w2.heap.size 1 rfl hcl.out [⟨res.length,a2,c2⟩] rfl (by simp) (by have:=hw2.size;simp;omega) ?_);intro a3 c3 w3 ho3 hg3 ha3);obtain ⟨g3,hg3e,hB3,hl3,hcc⟩:=ho3.at_ PQ.cs_len (k:=0) (x:=⟨res.length,a2,c2⟩) rfl;subst hg3e;have hcell:=hcc 0 _ rfl;have hX3:PolX X w3 a2 c2 res:=by
  exact zz36
 have hw3:Below w.heap.size w w3:=qal (hw2.alloc hw2.size (.cells #[.slice a2 res.length c2] 75)) ho2.out hg3;have C2:=qva X res g3 0 c3 a2 c2 w3 (by simpa using hcell) hX3;replace C2:=Hd C2;clear hcc hP' ho2 hcl hg3 ha3 hX3 hcell ho3;rw [rounds_succ];go_wp2_with fail;refine C2.out.mono ?_;rintro e w4 ⟨a4,c4,rfl,hP4,hb4⟩;replace hP4:=Hd hP4;go_wp2;go_ret;exact ⟨a4,c4,rfl,hP4.out,bth hw3 hb4⟩
theorem qzr (w:World) :
  ∃ cur:Array Value,(Instr.makeSlice 38 (.int .i64 0) (.int .i64 0)).run Tryz.prog w=.ok (.slice (some ⟨w.heap.size,0,none⟩) 0 0) (w.alloc (.cells cur 75)):=by
 obtain ⟨cur,_,h⟩:=ql3 0 oo w;exact ⟨cur,h⟩
theorem zz35 {P:Prop} (h:P:=by
 obtain ⟨cur,hmk⟩:=qzr w;go_enter Tryz.func123,Tryz.ntmps123;go_wp2;refine qaa (fun W=>Below w.heap.size w W) (by go_grown) ?_;intro w0 hw0;clear hmk;refine wp_loop_rounds 1 ?_;rw [rounds_succ];go_wp2_with fail;refine (qad5 X _ _ w0).mono ?_;rintro e w1 ⟨a1,c1,rfl,hP,hb1⟩;replace hP:=Hd hP;go_wp2;go_ret;exact ⟨a1,c1,rfl,hP.out,bth hw0 hb1⟩
 ):P:=h
theorem qug (X:Nat->Prop) (n:Nat) (a b:Option Addr) (ca cb:Nat) (w:World) (hn:n<=1):Calls Tryz.prog 123 #[.slice a 0 ca,.slice b n cb] w (RetP X [] w):=by
 exact zz35
theorem qac3 (X:Nat->Prop) (n:Nat) (a b:Option Addr) (ca cb:Nat) (w:World) (hn:0<n) (hm:n<=1000000):Calls Tryz.prog 123 #[.slice a n ca,.slice b 0 cb] w (RetP X [] w):=by
 exact zz35
theorem qad9 (X:Nat->Prop) (u v:Tm) (a b:Option Addr) (ca cb:Nat) (w:World) (hX:∀ b,X b->b<w.heap.size) (hp:PolX X w a ca [u]) (hq:PolX X w b cb [v]) (fu:FineT u) (fv:FineT v) :
  Calls Tryz.prog 123 #[.slice a 1 ca,.slice b 1 cb] w (RetP X (qaq [v] u) w):=by
 obtain ⟨cur,hcs,hmk0⟩:=ql3 1 oo w;have hmk:(Instr.makeSlice 38 (.int .i64 0) (.int .i64 1)).run Tryz.prog w=.ok (.slice (some ⟨w.heap.size,0,none⟩) 0 1) (w.alloc (.cells cur 75)):=hmk0;clear hmk0;obtain ⟨b1,o1,t,rfl,hs,hsR⟩:=hp.get (show [u][0]? = some u from rfl);have hXx:∀ b,Xr X (some ⟨w.heap.size,0,none⟩) b->X b\/w.heap.size<=b:=fun b hb=>by
  rcases hb with hb | ⟨g,hg,rfl⟩
  · exact .inl hb
  · injection hg with hg;subst hg;exact .inr (nlr _)
 have CT:=fun W (hW:bw w W) (hlt:w.heap.size<W.heap.size)=>qj9 (Xr X (some ⟨w.heap.size,0,none⟩)) [v] u.1 u.2 t b cb W (fun b hb=>by
  rcases hb with hb | ⟨g,hg,rfl⟩
  · exact ltl (hX b hb) hW.size
  · injection hg with hg;subst hg;exact hlt) ((hq.more hXx).call hW) ⟨by simp,fun s hs=>by rw [List.mem_singleton] at hs;subst hs;exact fv⟩ ((hsR.more hXx).call hW) fu
 obtain ⟨res,hres⟩:=nm (qaq [v] u)
 rw [show (u.1,u.2)=u from rfl,hres] at CT;rw [hres];dsimp only [List.length_cons,List.length_nil,Nat.zero_add] at CT;obtain ⟨c0,c1,c2,c3⟩:=hs;simp only [Nat.zero_mul,Nat.add_zero] at c0 c1 c2 c3;have HX:=Hd hX;replace CT:=Hd CT;clear hp hq fu fv hsR hX hres hXx;go_enter Tryz.func123,Tryz.ntmps123;go_wp2;refine qaa (fun W=>OwnPq w.heap.size W (some ⟨w.heap.size,0,none⟩) 1 []/\Below w.heap.size w W) ⟨World.ownsRow_made w cur 1 (nlr _) (by simp [maxLen]) hcs,zg⟩ ?_;rintro w0 ⟨how,hw0⟩;have d0:=held c0 w0 hw0;have d1:=held c1 w0 hw0;have d2:=held c2 w0 hw0;have d3:=held c3 w0 hw0;replace how:=Hd how;clear hmk c0 c1 c2 c3;refine wp_loop_rounds 2 ?_;rw [rounds_succ];go_wp2_with fail;refine qae (fun W=>OwnPq w.heap.size W (some ⟨w.heap.size,0,none⟩) 1 []/\Below w0.heap.size w0 W) ⟨how.out.alloc _,zg⟩ ?_;clear d0 d1 d2 d3;rintro w1 ⟨ho1,hw1⟩;have hw1':=bth hw0 hw1
 refine (CT.out w1 hw1' (ho1.lt rfl).2).mono ?_;rintro e w2 ⟨a2,c2,rfl,hP,hb2⟩;have hw2:=bth hw1' hb2;have ho2:=(ho1.below hb2).alloc (.cells #[.slice a2 res.length c2] 75);have hcl:∀ j v,(PQ.cs ⟨res.length,a2,c2⟩)[j]? = some v->(w2.alloc (.cells #[.slice a2 res.length c2] 75)).cell? ⟨w2.heap.size,j,none⟩=some v:=fun j v hj=>by
  cases j with
  | zero=>simp [PQ.cs] at hj;subst hj;exact (Blk.new w2 75 #[.slice a2 res.length c2]).cell 0
  | succ j=>simp [PQ.cs] at hj
 have hP':=hP.step ((Agr.refl _ w2).alloc (.cells #[.slice a2 res.length c2] 75));replace ho2:=Hd ho2;replace hcl:=Hd hcl;replace hP':=Hd hP';clear how ho1 hP;go_wp2_with (at_builtin;go_must (refine qay (B:=w.heap.size) rfl (.tmp 24) (.tmp 28) 38 rfl Tryz.underlying38 qnx rfl oo oo PQ.cs_len (some ⟨w.heap.size,0,none⟩) 1 (l:=[]) rfl ho2.out ⟨res.length,a2,c2⟩ (PQ.cs_one _) w2.heap.size 1 rfl hcl.out [⟨res.length,a2,c2⟩] rfl (by simp) (by have:=hw2.size;simp;omega) ?_);intro a3 c3 w3 ho3 hg3 ha3);obtain ⟨g3,hg3e,hB3,hl3,hcc⟩:=ho3.at_ PQ.cs_len (k:=0) (x:=⟨res.length,a2,c2⟩) rfl;subst hg3e;have hcell:=hcc 0 _ rfl;have hX3:PolX X w3 a2 c2 res:=by
  exact zz36
 have hw3:Below w.heap.size w w3:=qal (hw2.alloc hw2.size (.cells #[.slice a2 res.length c2] 75)) ho2.out hg3;have C2:=qva X res g3 0 c3 a2 c2 w3 (by simpa using hcell) hX3;replace C2:=Hd C2;clear hcc hP' ho2 hcl hg3 ha3 hX3 hcell ho3;rw [rounds_succ];go_wp2_with fail;refine C2.out.mono ?_;rintro e w4 ⟨a4,c4,rfl,hP4,hb4⟩;replace hP4:=Hd hP4;go_wp2;go_ret;exact ⟨a4,c4,rfl,hP4.out,bth hw3 hb4⟩
theorem qad6 (X:Nat->Prop) (p q:List Tm) (B B':Int) (a b:Option Addr) (ca cb:Nat) (w:World) (hX:∀ b,X b->b<w.heap.size) (hp:PolX X w a ca p) (hq:PolX X w b cb q) (fp:FineP p) (fq:FineP q) (hl:q.length<=1) (kp:Pok B p) (kq:Pok B' q) (hB:0<=B) (hB':0<=B') :
  Calls Tryz.prog 123 #[.slice a p.length ca,.slice b q.length cb] w (RetP X (mulP p q) w):=by
 match q,hl with
 | [],_ =>
  rw [qfk]
  match p with
  | []=>exact qug X 0 a b ca cb w oo
  | u :: p=>exact qac3 X (u :: p).length a b ca cb w (by simp) (by have:=fp.1;omega)
 | [v],_ =>
  have fv:=fq.2 v List.mem_cons_self
  match p with
  | []=>rw [qc3];exact qug X 1 a b ca cb w oo
  | [u] =>
   have fu:=fp.2 u List.mem_cons_self;rw [qer kp kq hB hB',qc3];exact qad9 X u v a b ca cb w hX hp hq fu fv
  | u :: u2 :: p=>rw [qc3];exact qab2 X (u :: u2 :: p) v a b ca cb w hX hp hq fp fv (by simp)
structure VQ where
 a:Option Addr
 c:Nat
 b:Option Addr
 d:Nat
def VecX (X:Nat->Prop) (w:World) (t:VQ) (v:Vec):Prop:=PolX X w t.a t.c v.1/\PolX X w t.b t.d v.2
theorem VecX.call {X:Nat->Prop} {w w':World} {t:VQ} {v:Vec} (h:VecX X w t v) (e:Below w.heap.size w w'):VecX X w' t v:=⟨h.1.call e,h.2.call e⟩
theorem VecX.step {X:Nat->Prop} {w w':World} {t:VQ} {v:Vec} (h:VecX X w t v) (e:Agr X w w'):VecX X w' t v:=⟨h.1.step e,h.2.step e⟩
theorem VecX.more {X Y:Nat->Prop} {w:World} {t:VQ} {v:Vec} (h:VecX X w t v) (e:∀ b,Y b->X b\/w.heap.size<=b):VecX Y w t v:=⟨h.1.more e,h.2.more e⟩
def FineV (v:Vec):Prop:=FineP v.1/\FineP v.2
def qfj (X:Nat->Prop) (v:Vec) (w:World) (e:Ending) (w':World):Prop:=∃ t:VQ,e=.returned (.agg #[.slice t.a v.1.length t.c,.slice t.b v.2.length t.d])/\VecX X w' t v/\Below w.heap.size w w'
theorem qhx (a b:Option Addr) (n c m d:Nat) (w:World):Calls Tryz.prog 115 #[.agg #[.slice a n c,.slice b m d]] w fun e w'=>e=.returned (.agg #[.slice a n c,.slice b m d])/\Below w.heap.size w w':=by
 go_enter Tryz.func115,Tryz.ntmps115;go_wp2;refine qaa (fun W=>Blk W (w.heap.size+1) 135 #[.slice a n c,.slice b m d]/\Below w.heap.size w W) ⟨bk,zg⟩ ?_;rintro w1 ⟨hF,hw1⟩;obtain ⟨e0,e1⟩:=cq2 hF;refine bodyPost_ret (v:=.agg #[.slice a n c,.slice b m d]) (by simp [results,Tryz.results115,go_sem,e0,e1]) rfl ?_;exact ⟨rfl,hw1⟩
def Xg (X:Nat->Prop) (g:Nat):Nat->Prop:=fun b=>X b\/b=g
theorem PolX.less {X Y:Nat->Prop} {w:World} {a:Option Addr} {c:Nat} {p:List Tm} (h:PolX Y w a c p) (e:∀ b,X b->Y b):PolX X w a c p:=h.map fun _ k=>k.less e
theorem VecX.less {X Y:Nat->Prop} {w:World} {t:VQ} {v:Vec} (h:VecX Y w t v) (e:∀ b,X b->Y b):VecX X w t v:=⟨h.1.less e,h.2.less e⟩
theorem qcy {X:Nat->Prop} {w:World} {g:Nat} (hg:w.heap.size<=g):∀ b,Xg X g b->X b\/w.heap.size<=b:=fun b hb=>by
 rcases hb with hb | rfl
 · exact .inl hb
 · exact .inr hg
theorem Xg_lt {X:Nat->Prop} {w W:World} {g:Nat} (hX:∀ b,X b->b<w.heap.size) (hW:w.heap.size<=W.heap.size) (hg:g<W.heap.size):∀ b,Xg X g b->b<W.heap.size:=fun b hb=>by
 rcases hb with hb | rfl
 · exact ltl (hX b hb) hW
 · exact hg
def qhf (X:Nat->Prop) (w:World) (f:Nat) (args:Array Value) (r:List Tm):Prop :=
 ∀ (Y:Nat->Prop) (W:World),(∀ b,Y b->X b\/w.heap.size<=b)->(∀ b,Y b->b<W.heap.size)->Below w.heap.size w W->Calls Tryz.prog f args W (RetP Y r W)
theorem qhp (X:Nat->Prop) (p q:List Tm) (a b:Option Addr) (ca cb:Nat) (w:World) (hp:PolX X w a ca p) (hq:PolX X w b cb q) (fp:FineP p) (fq:FineP q):qhf X w 116 #[.slice a p.length ca,.slice b q.length cb] (addP p q) :=
 fun Y W h1 h2 hW=>quf Y p q a b ca cb W h2 ((hp.more h1).call hW) ((hq.more h1).call hW) fp fq
theorem qvb (X:Nat->Prop) (p q:List Tm) (a b:Option Addr) (ca cb:Nat) (w:World) (hp:PolX X w a ca p) (hq:PolX X w b cb q) (fp:FineP p) (fq:FineP q):qhf X w 156 #[.slice a p.length ca,.slice b q.length cb] (subP p q) :=
 fun Y W h1 h2 hW=>qab6 Y p q a b ca cb W h2 ((hp.more h1).call hW) ((hq.more h1).call hW) fp fq
theorem qgn (X:Nat->Prop) (u v:Vec) (r1 r2:List Tm) (s t:VQ) (w:World) (hX:∀ b,X b->b<w.heap.size)
  (C1:qhf X w 116 #[.slice s.a u.1.length s.c,.slice t.a v.1.length t.c] r1) (C2:qhf X w 116 #[.slice s.b u.2.length s.d,.slice t.b v.2.length t.d] r2) :
  Calls Tryz.prog 114 #[.agg #[.slice s.a u.1.length s.c,.slice s.b u.2.length s.d],.agg #[.slice t.a v.1.length t.c,.slice t.b v.2.length t.d],.func (Fn.func 116) #[] #[]] w (qfj X (r1,r2) w):=by
 replace C1:=Hd C1;replace C2:=Hd C2;have HX:=Hd hX;clear hX;go_enter Tryz.func114,Tryz.ntmps114;go_wp2;refine qaa (fun W=>Blk W w.heap.size 135 #[.slice s.a u.1.length s.c,.slice s.b u.2.length s.d]/\Blk W (w.heap.size+1) 135 #[.slice t.a v.1.length t.c,.slice t.b v.2.length t.d]/\Blk W (w.heap.size+1+1) 135 #[.slice none 0 0,.slice none 0 0]/\Below w.heap.size w W) ⟨bk,bk,bk,zg⟩ ?_;rintro w0 ⟨hx,hy,hz,hw0⟩;obtain ⟨g2,hg2⟩:∃ g,g=w.heap.size+1+1:=⟨_,rfl⟩
 rw [<- hg2] at hz ⊢;have hgw:w.heap.size<=g2:=oo
 have hgl:=hz.lt;have hY1:=qcy (X:=X) hgw;have hY2:=Xg_lt HX.out hw0.size hgl;replace hg2:=Hd hg2;replace hY1:=Hd hY1;replace hY2:=Hd hY2;have x0:=held (hx.cell 0);have x1:=held (hx.cell 1);have y0:=held (hy.cell 0);have y1:=held (hy.cell 1);have s0:Below w0.heap.size w0 w0.drew:=brf.drew;clear hx hy;refine wrx (S:=Below w0.heap.size w0) [(0,.q),(1,.q),(2,.q),(3,.q),(4,.q),(6,.q),(7,.q),(8,.q),(9,.q),(10,.q),(5,.l),(11,.t),(12,.p),(13,.t)] (s0) ?_
 iterate 10 (refine qaf rfl rfl fun K hK=>xq ?_;go_simp;refine hK _ _ ?_;clear hK K)
 refine vl fun K hK=>?_
 go_simp;refine (C1.out (Xg X g2) w0.drew hY1.out hY2.out (bth hw0 s0)).mono ?_;rintro r w1 ⟨a1,c1,rfl,hP1,hb1⟩;dsimp only;refine hK.out _ _ (bth s0 hb1) (fun _=>?_);clear hK K;have s1:=bth s0 hb1;refine vt fun K hK=>?_
 go_simp;refine (C2.out _ _ hY1.out (fun b hb=>ltl (hY2.out b hb) s1.size) (bth hw0 s1)).mono ?_;rintro r w2 ⟨a2,c2,rfl,hP2,hb2⟩;dsimp only;refine hK.out _ _ ?_;clear hK K;have s2:=bth s1 hb2;have hz2:=hz.below' s2;obtain ⟨z0,z1⟩:=cq2 hz2;obtain ⟨f0,f1⟩:=fq2 hz2
 refine qaj rfl rfl fun K hK=>xp ?_;go_simp;refine hK _ _ ?_;clear hK K
 refine vt fun K hK=>?_
 go_simp;refine hK.out _ _ ?_;clear hK K;refine qad ?_;have hw2:=bth hw0 s2;replace hP1:=Hd (hP1.call hb2);replace hP2:=Hd hP2;clear z0 z1 f0 f1;go_wp2;refine qaa (fun W=>Blk W g2 135 #[.slice a1 r1.length c1,.slice a2 r2.length c2]/\PolX (Xg X g2) W a1 c1 r1/\PolX (Xg X g2) W a2 c2 r2/\Below w.heap.size w W) ⟨bk,?_,?_,(hw2.setCell hgw _).setCell hgw _⟩ ?_
 · exact hP1.out.step (Agr.setc (.inr rfl) (Agr.setc (.inr rfl) (Agr.refl _ _)))
 · exact hP2.out.step (Agr.setc (.inr rfl) (Agr.setc (.inr rfl) (Agr.refl _ _)))
 rintro w3 ⟨hF,hQ1,hQ2,hw3⟩;obtain ⟨e0,e1⟩:=cq2 hF;refine bodyPost_ret (v:=.agg #[.slice a1 r1.length c1,.slice a2 r2.length c2]) (by simp [results,Tryz.results114,go_sem,e0,e1]) rfl ?_;exact ⟨⟨a1,c1,a2,c2⟩,rfl,⟨hQ1.less fun b hb=>.inl hb,hQ2.less fun b hb=>.inl hb⟩,hw3⟩
theorem qo9 (X:Nat->Prop) (u v:Vec) (r1 r2:List Tm) (s t:VQ) (w:World) (hX:∀ b,X b->b<w.heap.size)
  (C1:qhf X w 156 #[.slice s.a u.1.length s.c,.slice t.a v.1.length t.c] r1) (C2:qhf X w 156 #[.slice s.b u.2.length s.d,.slice t.b v.2.length t.d] r2) :
  Calls Tryz.prog 114 #[.agg #[.slice s.a u.1.length s.c,.slice s.b u.2.length s.d],.agg #[.slice t.a v.1.length t.c,.slice t.b v.2.length t.d],.func (Fn.func 156) #[] #[]] w (qfj X (r1,r2) w):=by
 replace C1:=Hd C1;replace C2:=Hd C2;have HX:=Hd hX;clear hX;go_enter Tryz.func114,Tryz.ntmps114;go_wp2;refine qaa (fun W=>Blk W w.heap.size 135 #[.slice s.a u.1.length s.c,.slice s.b u.2.length s.d]/\Blk W (w.heap.size+1) 135 #[.slice t.a v.1.length t.c,.slice t.b v.2.length t.d]/\Blk W (w.heap.size+1+1) 135 #[.slice none 0 0,.slice none 0 0]/\Below w.heap.size w W) ⟨bk,bk,bk,zg⟩ ?_;rintro w0 ⟨hx,hy,hz,hw0⟩;obtain ⟨g2,hg2⟩:∃ g,g=w.heap.size+1+1:=⟨_,rfl⟩
 rw [<- hg2] at hz ⊢;have hgw:w.heap.size<=g2:=oo
 have hgl:=hz.lt;have hY1:=qcy (X:=X) hgw;have hY2:=Xg_lt HX.out hw0.size hgl;replace hg2:=Hd hg2;replace hY1:=Hd hY1;replace hY2:=Hd hY2;have x0:=held (hx.cell 0);have x1:=held (hx.cell 1);have y0:=held (hy.cell 0);have y1:=held (hy.cell 1);have s0:Below w0.heap.size w0 w0.drew:=brf.drew;clear hx hy;refine wrx (S:=Below w0.heap.size w0) [(0,.q),(1,.q),(2,.q),(3,.q),(4,.q),(6,.q),(7,.q),(8,.q),(9,.q),(10,.q),(5,.l),(11,.t),(12,.p),(13,.t)] (s0) ?_
 iterate 10 (refine qaf rfl rfl fun K hK=>xq ?_;go_simp;refine hK _ _ ?_;clear hK K)
 refine vl fun K hK=>?_
 go_simp;refine (C1.out (Xg X g2) w0.drew hY1.out hY2.out (bth hw0 s0)).mono ?_;rintro r w1 ⟨a1,c1,rfl,hP1,hb1⟩;dsimp only;refine hK.out _ _ (bth s0 hb1) (fun _=>?_);clear hK K;have s1:=bth s0 hb1;refine vt fun K hK=>?_
 go_simp;refine (C2.out _ _ hY1.out (fun b hb=>ltl (hY2.out b hb) s1.size) (bth hw0 s1)).mono ?_;rintro r w2 ⟨a2,c2,rfl,hP2,hb2⟩;dsimp only;refine hK.out _ _ ?_;clear hK K;have s2:=bth s1 hb2;have hz2:=hz.below' s2;obtain ⟨z0,z1⟩:=cq2 hz2;obtain ⟨f0,f1⟩:=fq2 hz2
 refine qaj rfl rfl fun K hK=>xp ?_;go_simp;refine hK _ _ ?_;clear hK K
 refine vt fun K hK=>?_
 go_simp;refine hK.out _ _ ?_;clear hK K;refine qad ?_;have hw2:=bth hw0 s2;replace hP1:=Hd (hP1.call hb2);replace hP2:=Hd hP2;clear z0 z1 f0 f1;go_wp2;refine qaa (fun W=>Blk W g2 135 #[.slice a1 r1.length c1,.slice a2 r2.length c2]/\PolX (Xg X g2) W a1 c1 r1/\PolX (Xg X g2) W a2 c2 r2/\Below w.heap.size w W) ⟨bk,?_,?_,(hw2.setCell hgw _).setCell hgw _⟩ ?_
 · exact hP1.out.step (Agr.setc (.inr rfl) (Agr.setc (.inr rfl) (Agr.refl _ _)))
 · exact hP2.out.step (Agr.setc (.inr rfl) (Agr.setc (.inr rfl) (Agr.refl _ _)))
 rintro w3 ⟨hF,hQ1,hQ2,hw3⟩;obtain ⟨e0,e1⟩:=cq2 hF;refine bodyPost_ret (v:=.agg #[.slice a1 r1.length c1,.slice a2 r2.length c2]) (by simp [results,Tryz.results114,go_sem,e0,e1]) rfl ?_;exact ⟨⟨a1,c1,a2,c2⟩,rfl,⟨hQ1.less fun b hb=>.inl hb,hQ2.less fun b hb=>.inl hb⟩,hw3⟩
theorem qgw (X:Nat->Prop) (u v:Vec) (s t:VQ) (w:World) (hX:∀ b,X b->b<w.heap.size) (hu:VecX X w s u) (hv:VecX X w t v) (fu:FineV u) (fv:FineV v) :
  Calls Tryz.prog 113 #[.agg #[.slice s.a u.1.length s.c,.slice s.b u.2.length s.d],.agg #[.slice t.a v.1.length t.c,.slice t.b v.2.length t.d]] w (qfj X (subP v.1 u.1,subP v.2 u.2) w):=by
 have CC:=fun (Y:Nat->Prop) W (h1:∀ b,Y b->X b\/w.heap.size<=b) (h2:∀ b,Y b->b<W.heap.size) (hW:bw w W)=>qo9 Y v u (subP v.1 u.1) (subP v.2 u.2) t s W h2
  (qvb Y v.1 u.1 t.a s.a t.c s.c W ((hv.1.more h1).call hW) ((hu.1.more h1).call hW) fv.1 fu.1) (qvb Y v.2 u.2 t.b s.b t.d s.d W ((hv.2.more h1).call hW) ((hu.2.more h1).call hW) fv.2 fu.2)
 obtain ⟨r1,hr1⟩:=nm (subP v.1 u.1)
 obtain ⟨r2,hr2⟩:=nm (subP v.2 u.2)
 rw [hr1,hr2] at CC ⊢;replace CC:=Hd CC;have HX:=Hd hX;clear hX hu hv fu fv hr1 hr2;go_enter Tryz.func113,Tryz.ntmps113;go_wp2;refine qaa (fun W=>Blk W w.heap.size 120 #[.slice s.a u.1.length s.c,.slice s.b u.2.length s.d]/\Blk W (w.heap.size+1) 120 #[.slice t.a v.1.length t.c,.slice t.b v.2.length t.d]/\Blk W (w.heap.size+1+1) 135 #[.slice none 0 0,.slice none 0 0]/\Below w.heap.size w W) ⟨bk,bk,bk,zg⟩ ?_;rintro w0 ⟨hx,hy,hz,hw0⟩;obtain ⟨g2,hg2⟩:∃ g,g=w.heap.size+1+1:=⟨_,rfl⟩
 rw [<- hg2] at hz ⊢;have hgw:w.heap.size<=g2:=oo
 have hgl:=hz.lt;have hY1:=qcy (X:=X) hgw;have hY2:=Xg_lt HX.out hw0.size hgl;replace hg2:=Hd hg2;replace hY1:=Hd hY1;replace hY2:=Hd hY2;have x0:=held (hx.cell 0);have x1:=held (hx.cell 1);have y0:=held (hy.cell 0);have y1:=held (hy.cell 1);have s0:Below w0.heap.size w0 w0.drew:=brf.drew;clear hx hy;refine wrx (S:=Below w0.heap.size w0) [(0,.q),(2,.q),(1,.l),(3,.t),(4,.t),(5,.t)] (s0) ?_
 iterate 2 (refine qaf rfl rfl fun K hK=>xq ?_;go_simp;refine hK _ _ ?_;clear hK K)
 refine vl fun K hK=>?_
 go_simp;refine (qhx t.a t.b v.1.length t.c v.2.length t.d _).mono ?_;rintro r w1 ⟨rfl,hb1⟩;dsimp only;refine hK.out _ _ (bth s0 hb1) (fun _=>?_);clear hK K;have s1:=bth s0 hb1;refine vt fun K hK=>?_
 go_simp;refine (qhx s.a s.b u.1.length s.c u.2.length s.d _).mono ?_;rintro r w2 ⟨rfl,hb2⟩;dsimp only;refine hK.out _ _ ?_;clear hK K;have s2:=bth s1 hb2;refine vt fun K hK=>?_
 go_simp;refine (CC.out (Xg X g2) _ hY1.out (fun b hb=>ltl (hY2.out b hb) s2.size) (bth hw0 s2)).mono ?_;rintro r w3 ⟨z,rfl,hP,hb3⟩;dsimp only;refine hK.out _ _ ?_;clear hK K;have s3:=bth s2 hb3;have hz2:=hz.below' s3;obtain ⟨z0,z1⟩:=cq2 hz2;obtain ⟨f0,f1⟩:=fq2 hz2;refine vt fun K hK=>?_
 go_simp;refine hK.out _ _ ?_;clear hK K;refine qad ?_;have hw2:=bth hw0 s3;replace hP:=Hd hP;clear z0 z1 f0 f1;go_wp2;refine qaa (fun W=>Blk W g2 135 #[.slice z.a r1.length z.c,.slice z.b r2.length z.d]/\VecX (Xg X g2) W z (r1,r2)/\Below w.heap.size w W) ⟨bk,?_,(hw2.setCell hgw _).setCell hgw _⟩ ?_
 · exact hP.out.step (Agr.setc (.inr rfl) (Agr.setc (.inr rfl) (Agr.refl _ _)))
 rintro w4 ⟨hF,hQ,hw4⟩;obtain ⟨e0,e1⟩:=cq2 hF;refine bodyPost_ret (v:=.agg #[.slice z.a r1.length z.c,.slice z.b r2.length z.d]) (by simp [results,Tryz.results113,go_sem,e0,e1]) rfl ?_;exact ⟨z,rfl,hQ.less fun b hb=>.inl hb,hw4⟩
structure Fr (Y : Nat -> Prop) (w w' : World) : Prop where
 os:w'.os=w.os
 tape:w'.tape=w.tape
 output:w'.output=w.output
 size:w.heap.size<=w'.heap.size
 block:∀ k,k<w.heap.size->¬ Y k->w'.heap[k]? = w.heap[k]?
section
variable {Y Z : Nat -> Prop} {w w' w'' : World}
theorem Fr.refl (Y:Nat->Prop) (w:World):Fr Y w w:=⟨rfl,rfl,rfl,nlr _,fun _ _ _=>rfl⟩
theorem Fr.trans (h:Fr Y w w') (k:Fr Y w' w''):Fr Y w w'':=⟨k.os.trans h.os,k.tape.trans h.tape,k.output.trans h.output,Nat.le_trans h.size k.size,fun n h1 h2=>(k.block n (ltl h1 h.size) h2).trans (h.block n h1 h2)⟩
theorem Fr.then_ (h:Fr Y w w') (k:Fr Z w' w'') (e:∀ b,Z b->Y b\/w.heap.size<=b):Fr Y w w'':=⟨k.os.trans h.os,k.tape.trans h.tape,k.output.trans h.output,Nat.le_trans h.size k.size,fun n h1 h2=>(k.block n (ltl h1 h.size) (fun hz=>(e n hz).elim h2 (fun h=>by omega))).trans (h.block n h1 h2)⟩
theorem Fr.mono (h:Fr Y w w') (e:∀ b,Y b->Z b):Fr Z w w':=⟨h.os,h.tape,h.output,h.size,fun k h1 h2=>h.block k h1 fun hy=>h2 (e _ hy)⟩
theorem Fr.below (h:Below w.heap.size w w'):Fr Y w w':=⟨h.os,h.tape,h.output,h.size,fun k hk _=>h.block k hk⟩
theorem Fr.call (h:Fr Y w w') (k:Below w'.heap.size w' w''):Fr Y w w'':=h.trans (Fr.below k)
theorem Fr.alloc (h:Fr Y w w') (o:Obj):Fr Y w (w'.alloc o):=h.call (brf.alloc (nlr _) _)
theorem Fr.setc (h:Fr Y w w') {g i:Nat} {u:Value} (hg:Y g\/w.heap.size<=g):Fr Y w (w'.setCell ⟨g,i,none⟩ u):=⟨h.os,h.tape,h.output,by have:=h.size;simpa [World.setCell] using this,fun k h1 h2 =>
 (Below.heap_setCell _ _ _ _ (fun e=>by simp at e;subst e;exact hg.elim h2 (fun h=>by omega))).trans (h.block k h1 h2)⟩
theorem Fr.grown (h:Fr Y w w') {a:Option Addr} {n c:Nat} (hg:w'.grownBy w'' (Value.ownBlock (.slice a n c))) (ha:∀ g,a=some g->Y g.block\/w.heap.size<=g.block):Fr Y w w'':=⟨hg.os.trans h.os,hg.tape.trans h.tape,hg.output.trans h.output,Nat.le_trans h.size hg.size,fun k h1 h2 =>
 (hg.block k (ltl h1 h.size) (fun e=>by
  cases a with
  | none=>simp [Value.ownBlock] at e
  | some g=>simp [Value.ownBlock] at e;subst e;exact (ha g rfl).elim h2 (fun h=>by omega))).trans (h.block k h1 h2)⟩
theorem Fr.agr (h:Fr Y w w'):Agr Y w w':=fun p v hp hc=>by
 have:=h.block p.block (World.block_lt_of_cell? w p hc) hp;rw [<- hc];unfold World.cell?;rw [this]
theorem Blk.fr {g:Nat} {t:TypeId} {cs:Array Value} (h:Blk w g t cs) (k:Fr Y w w') (hg:¬ Y g):Blk w' g t cs:=(k.block g h.lt hg).trans h
theorem Below.fr {B:Nat} {W0:World} (h:Below B W0 w) (k:Fr Y w w') (hY:∀ b,Y b->B<=b) (hB:B<=w.heap.size):Below B W0 w' :=
 ⟨k.os.trans h.os,k.tape.trans h.tape,k.output.trans h.output,Nat.le_trans h.size k.size,fun n hn=>(k.block n oo (fun hy=>by have:=hY n hy;omega)).trans (h.block n hn)⟩
end
theorem Rd.move {Y Z:Nat->Prop} {w w':World} {R:World->Prop} (h:Rd Y w R) (e:∀ b,Z b->Y b\/w.heap.size<=b) (k:Fr Y w w'):Rd Z w' R:=fun V hV =>
 (((h.more (Y:=fun b=>Y b\/Z b) fun b hb=>hb.elim .inl (e b)).step (k.agr.mono fun b hb=>.inl hb)).less (fun b hb=>.inr hb):Rd Z w' R) V hV
theorem PolX.move {Y Z:Nat->Prop} {w w':World} {a:Option Addr} {c:Nat} {p:List Tm} (h:PolX Y w a c p) (e:∀ b,Z b->Y b\/w.heap.size<=b) (k:Fr Y w w'):PolX Z w' a c p:=h.map fun _ r=>r.move e k
theorem VecX.move {Y Z:Nat->Prop} {w w':World} {t:VQ} {v:Vec} (h:VecX Y w t v) (e:∀ b,Z b->Y b\/w.heap.size<=b) (k:Fr Y w w'):VecX Z w' t v:=⟨h.1.move e k,h.2.move e k⟩
def Yb (gB:Nat) (ra va:Option Addr):Nat->Prop:=fun b=>b=gB\/(∃ g:Addr,ra=some g/\b=g.block)\/(∃ g:Addr,va=some g/\b=g.block)
def coC (x:VQ × Vec):List Value:=[.slice x.1.a x.2.1.length x.1.c,.slice x.1.b x.2.2.length x.1.d]
def vrC (v:Vr):List Value:=[.int .i64 v.1,.int .i64 v.2.1,.int .i64 v.2.2]
theorem qbr (x:VQ × Vec):(coC x).length=2:=rfl
theorem qje (v:Vr):(vrC v).length=3:=rfl
theorem qf8 (x:VQ × Vec):∀ u∈coC x,u.oneCell'=true:=by simp [coC,Value.oneCell']
theorem qro (v:Vr):∀ u∈vrC v,u.oneCell'=true:=by simp [vrC,Value.oneCell']
theorem qhg:(Tryz.prog.info? 120).map (fun i=>(i.zero,i.size,i.bytes))=some (some (.agg #[.slice none 0 0,.slice none 0 0]),2,48):=by kernel_rfl
theorem qus:(Tryz.prog.info? 138).map (fun i=>(i.zero,i.size,i.bytes))=some (some (.agg #[.int .i64 0,.int .i64 0,.int .i64 0]),3,24):=by kernel_rfl
abbrev OwnCo (B:Nat) (w:World) (a:Option Addr) (c:Nat) (l:List (VQ × Vec)):Prop:=Own coC 2 120 B w a c l
abbrev OwnVr (B:Nat) (w:World) (a:Option Addr) (c:Nat) (l:List Vr):Prop:=Own vrC 3 138 B w a c l
def AllV (X:Nat->Prop) (w:World) (hs:List (VQ × Vec)):Prop:=∀ x∈hs,VecX X w x.1 x.2
def Yz (Z:Nat->Prop) (gB:Nat) (ra va:Option Addr):Nat->Prop:=fun b=>Yb gB ra va b\/Z b
structure Bst (Z : Nat -> Prop) (w : World) (gB : Nat) (x : Frm) (hs : List (VQ × Vec)) (ra : Option Addr) (rc : Nat) (va : Option Addr) (vc : Nat) : Prop where
 eq:hs.map Prod.snd=x.coords
 blk:Blk w gB 133 #[.slice ra hs.length rc,.slice va x.vars.length vc,.int .i64 x.free]
 co:OwnCo (gB+1) w ra rc hs
 vr:OwnVr (gB+1) w va vc x.vars
 all:AllV (Yz Z gB ra va) w hs
section
variable {Z : Nat -> Prop} {w w' : World} {gB : Nat} {x : Frm} {hs : List (VQ × Vec)} {ra va : Option Addr} {rc vc : Nat}
theorem Bst.lt (h:Bst Z w gB x hs ra rc va vc):∀ b,Yb gB ra va b->b<w.heap.size:=fun b hb=>by
 rcases hb with rfl | ⟨g,hg,rfl⟩ | ⟨g,hg,rfl⟩
 · exact h.blk.lt
 · exact (h.co.lt hg).2
 · exact (h.vr.lt hg).2
theorem Bst.ge (h:Bst Z w gB x hs ra rc va vc):∀ b,Yb gB ra va b->gB<=b:=fun b hb=>by
 rcases hb with rfl | ⟨g,hg,rfl⟩ | ⟨g,hg,rfl⟩
 · exact nlr _
 · have:=(h.co.lt hg).1;omega
 · have:=(h.vr.lt hg).1;omega
theorem AllV.call {X:Nat->Prop} (h:AllV X w hs) (e:Below w.heap.size w w'):AllV X w' hs:=fun x hx=>(h x hx).call e
theorem Bst.call (h:Bst Z w gB x hs ra rc va vc) (e:Below w.heap.size w w'):Bst Z w' gB x hs ra rc va vc:=⟨h.eq,h.blk.below' e,h.co.below e,h.vr.below e,h.all.call e⟩
theorem qlt {va':Option Addr} (h:∀ g,va'=some g->va=some g\/w.heap.size<=g.block):∀ b,Yz Z gB ra va' b->Yz Z gB ra va b\/w.heap.size<=b:=fun b hb=>by
 rcases hb with (hb | hb | ⟨g,hg,rfl⟩) | hb
 · exact .inl (.inl (.inl hb))
 · exact .inl (.inl (.inr (.inl hb)))
 ·
  rcases h g hg with e | e
  · exact .inl (.inl (.inr (.inr ⟨g,e,rfl⟩)))
  · exact .inr e
 · exact .inl (.inr hb)
theorem qfp {α β:Type} {f:α->List Value} {f':β->List Value} {sz sz' B B':Nat} {t t':TypeId} {a b:Option Addr} {c d:Nat} {l:List α} {m:List β} (h:Own f sz t B w a c l) (k:Own f' sz' t' B' w b d m) (hne:t≠t'):∀ g g',a=some g->b=some g'->g.block≠g'.block:=by
 intro g g' ha hb e;rcases h.2 with ⟨hn,_⟩ | ⟨g1,c1,cur1,h1,_,hh1,_⟩
 · rw [ha] at hn;cases hn
 ·
  rcases k.2 with ⟨hn,_⟩ | ⟨g2,c2,cur2,h2,_,hh2,_⟩
  · rw [hb] at hn;cases hn
  ·
   rw [ha] at h1;rw [hb] at h2;injection h1 with h1
   injection h1 with h1
   injection h2 with h2
   injection h2 with h2
   subst h1;subst h2;simp at e;subst e;rw [hh1] at hh2;injection hh2 with hh2
   injection hh2 with _ ht
   exact hne ht
end
theorem qcl (Z:Nat->Prop) (gB:Nat) (x:Frm) (hs:List (VQ × Vec)) (ra va:Option Addr) (rc vc:Nat) (kind step number:Int) (w:World) (hB:Bst Z w gB x hs ra rc va vc) (hl:x.vars.length<=1000) (hZ:∀ b,Z b->b<w.heap.size) :
  Calls Tryz.prog 121 #[.pointer (some ⟨gB,0,none⟩),.int .i64 kind,.int .i64 step,.int .i64 number] w fun e w'=>∃ va' vc' a c,e=.returned (.slice a (varP x.vars.length).length c) /\
   Bst Z w' gB ⟨x.vars++[(kind,step,number)],x.coords,x.free⟩ hs ra rc va' vc'/\PolX (Yz Z gB ra va') w' a c (varP x.vars.length)/\Fr (Yb gB ra va) w w'/\(∀ g,va'=some g->va=some g\/w.heap.size<=g.block):=by
 obtain ⟨h1,h2,h3,h4,h5⟩:=id hB;obtain ⟨z0,z1,z2⟩:=cq3 h2;have zl:=h2.lt;have ho:=h4.alloc (.cells #[.int .i64 kind,.int .i64 step,.int .i64 number] 138);have hcl:∀ j v,(vrC (kind,step,number))[j]? = some v->(w.alloc (.cells #[.int .i64 kind,.int .i64 step,.int .i64 number] 138)).cell? ⟨w.heap.size,j,none⟩=some v:=fun j v hj=>by
  have:=(Blk.new w 138 #[.int .i64 kind,.int .i64 step,.int .i64 number]).cell j;rw [this];simpa [vrC] using hj
 have HB:=Hd hB;replace ho:=Hd ho;replace hcl:=Hd hcl;replace h2:=Hd h2;replace h3:=Hd h3;replace h4:=Hd h4;replace h5:=Hd h5;replace h1:=Hd h1;clear hB;go_enter Tryz.func121,Tryz.ntmps121;go_wp2_with (at_builtin;go_must (refine qay (B:=gB+1) rfl (.tmp 14) (.tmp 19) 35 rfl Tryz.underlying35 qus rfl oo oo qje va vc rfl ho.out (kind,step,number) (qro _) w.heap.size 1 rfl hcl.out (x.vars++[(kind,step,number)]) rfl (by simp;omega) (by simp;omega) ?_);intro va2 vc2 w2 ho2 hg2 ha2;have hz2:=(h2.out.alloc (.cells #[.int .i64 kind,.int .i64 step,.int .i64 number] 138)).under ho.out (Nat.lt_succ_self gB) hg2;obtain ⟨y0,y1,y2⟩:=cq3 hz2;have f1:=hz2.frozen 1);have hne:∀ g,ra=some g->Value.ownBlock (.slice va x.vars.length vc)≠some g.block:=fun g hg e=>by
  cases hv:va with
  | none=>rw [hv] at e;simp [Value.ownBlock] at e
  | some g' =>
   rw [hv] at e;simp [Value.ownBlock] at e;exact qfp h3.out h4.out dd g g' hg hv e.symm
 have hco2:OwnCo (gB+1) w2 ra rc hs:=(h3.out.alloc _).grown hg2 hne;have hfr1:Fr (Yb gB ra va) w w2:=((Fr.refl (Yb gB ra va) w).alloc _).grown hg2 fun g hg=>.inl (.inr (.inr ⟨g,hg,rfl⟩))
 have hva2:∀ g,va2=some g->va=some g\/w.heap.size<=g.block:=fun g hg=>by
  obtain ⟨g',e1,e2⟩:=ha2;rw [e1] at hg;injection hg with hg
  subst hg;rcases e2 with e2 | e2
  · exact .inl e2
  · right;simp at e2;show _<=g';omega
 have hYm:=qlt (Z:=Z) (ra:=ra) (gB:=gB) hva2;have hfr3:Fr (Yb gB ra va) w (w2.setCell ⟨gB,1,none⟩ (.slice va2 (x.vars.length+1) vc2)):=hfr1.setc (.inl (.inl rfl));have hB3:Bst Z (w2.setCell ⟨gB,1,none⟩ (.slice va2 (x.vars.length+1) vc2)) gB ⟨x.vars++[(kind,step,number)],x.coords,x.free⟩ hs ra rc va2 vc2:=by
  refine ⟨h1.out,?_,hco2.far (Nat.lt_succ_self gB) _,ho2.far (Nat.lt_succ_self gB) _,fun z hz=>(h5.out z hz).move hYm (hfr3.mono fun b hb=>.inl hb)⟩;have:=hz2.set_ 1 (.slice va2 (x.vars.length+1) vc2);simpa using this
 have hrl:x.vars.length+1-1=x.vars.length:=oo
 replace hB3:=Hd hB3;replace hfr3:=Hd hfr3;replace hva2:=Hd hva2;clear hg2 ha2 hfr1 hco2 ho2 hne y0 y1 y2 f1 hz2 hYm hrl;refine qae (fun W=>Bst Z W gB ⟨x.vars++[(kind,step,number)],x.coords,x.free⟩ hs ra rc va2 vc2/\Fr (Yb gB ra va) w W) ⟨hB3.out,hfr3.out⟩ ?_;rintro w3 ⟨hB4,hfr4⟩;refine (qae0 (Yz Z gB ra va2) x.vars.length w3 (fun b hb=>hb.elim (hB4.lt b) fun hz=>ltl (hZ b hz) hfr4.size) oo).mono ?_;rintro e w4 ⟨a,c,rfl,hP,hb⟩;have hB5:=hB4.call hb;have hfr5:=hfr4.call hb;replace hP:=Hd hP;replace hB5:=Hd hB5;go_wp2;go_ret;exact ⟨va2,vc2,a,c,rfl,hB5.out,hP.out,hfr5,hva2.out⟩
def RetSt (Z:Nat->Prop) (gB:Nat) (y:Frm) (v:Vec) (hs:List (VQ × Vec)) (ra:Option Addr) (rc:Nat) (va:Option Addr) (w:World) (e:Ending) (w':World):Prop :=
 ∃ va' vc' t,e=.returned (.agg #[.slice t.a v.1.length t.c,.slice t.b v.2.length t.d])/\Bst Z w' gB y hs ra rc va' vc'/\VecX (Yz Z gB ra va') w' t v/\Fr (Yb gB ra va) w w'/\(∀ g,va'=some g->va=some g\/w.heap.size<=g.block)
section
variable {Z : Nat -> Prop} {w w' : World} {gB : Nat} {x : Frm} {hs : List (VQ × Vec)} {ra va va' : Option Addr} {rc vc : Nat}
theorem Bst.wide (h:Bst Z w gB x hs ra rc va vc) {g:Nat} (hg:w.heap.size<=g):Bst (Xg Z g) w gB x hs ra rc va vc:=⟨h.eq,h.blk,h.co,h.vr,fun z hz=>(h.all z hz).more fun b hb=>by
 rcases hb with hb | hb | rfl
 · exact .inl (.inl hb)
 · exact .inl (.inr hb)
 · exact .inr hg⟩
theorem qda {g:Nat}:∀ b,Yz Z gB ra va b->Yz (Xg Z g) gB ra va b:=fun b hb=>hb.elim .inl fun h=>.inr (.inl h)
theorem Bst.less {g:Nat} (h:Bst (Xg Z g) w gB x hs ra rc va vc):Bst Z w gB x hs ra rc va vc:=⟨h.eq,h.blk,h.co,h.vr,fun z hz=>(h.all z hz).less qda⟩
theorem Bst.far {g:Nat} (h:Bst (Xg Z g) w gB x hs ra rc va vc) {i:Nat} {u:Value} (hg:¬ Yb gB ra va g):Bst (Xg Z g) (w.setCell ⟨g,i,none⟩ u) gB x hs ra rc va vc:=by
 have e:w.grownBy (w.setCell ⟨g,i,none⟩ u) (some g):=⟨rfl,rfl,rfl,by simp [World.setCell],fun k _ hk=>Below.heap_setCell _ _ _ _ (fun e=>hk (by simp at e;rw [e]))⟩
 refine ⟨h.eq,h.blk.far (p:=⟨g,i,none⟩) (fun e=>hg (.inl e.symm)) u,h.co.grown e fun p hp e=>?_,h.vr.grown e fun p hp e=>?_,fun z hz=>?_⟩
 · injection e with e;exact hg (.inr (.inl ⟨p,hp,e⟩))
 · injection e with e;exact hg (.inr (.inr ⟨p,hp,e⟩))
 · exact (h.all z hz).step (Agr.setc (.inr (.inr rfl)) (Agr.refl _ _))
theorem qa8 {X:Nat->Prop} {t:VQ} {v:Vec} {g i:Nat} {u:Value} (h:VecX X w t v) (hg:X g):VecX X (w.setCell ⟨g,i,none⟩ u) t v:=h.step (Agr.setc hg (Agr.refl _ _))
theorem qdk {g:Nat} (h:¬ Yb gB ra va g) (hv:∀ p,va'=some p->va=some p\/w.heap.size<=p.block) (hg:g<w.heap.size):¬ Yb gB ra va' g:=fun hy=>by
 rcases hy with hy | hy | ⟨p,hp,e⟩
 · exact h (.inl hy)
 · exact h (.inr (.inl hy))
 ·
  rcases hv p hp with e2 | e2
  · exact h (.inr (.inr ⟨p,e2,e⟩))
  · omega
end
theorem qif (Z:Nat->Prop) (gB:Nat) (x:Frm) (hs:List (VQ × Vec)) (ra va:Option Addr) (rc vc:Nat) (step number:Int) (w:World) (hB:Bst Z w gB x hs ra rc va vc) (hl:x.vars.length<=900) (hZ:∀ b,Z b->b<w.heap.size) (hn:0<=number/\number<=1000) :
  Calls Tryz.prog 124 #[.pointer (some ⟨gB,0,none⟩),.int .i64 step,.int .i64 number] w
   (RetSt Z gB ⟨x.vars++[(2,step,number),(2,step,number+1)],x.coords,x.free⟩ (varP x.vars.length,varP (x.vars.length+1)) hs ra rc va w):=by
 obtain ⟨n1,n2⟩:=hn;have HB:=Hd hB;have HZ:=Hd hZ;clear hB hZ;go_enter Tryz.func124,Tryz.ntmps124;go_wp2_with fail;refine qae (fun W=>Blk W w.heap.size 135 #[.slice none 0 0,.slice none 0 0]/\Bst (Xg Z w.heap.size) W gB x hs ra rc va vc/\Fr (Yb gB ra va) w W/\w.heap.size<W.heap.size) ⟨bk,(HB.out.wide (nlr _)).call (brf.alloc (nlr _) _),(Fr.refl _ _).alloc _,by simp⟩ ?_;rintro w0 ⟨hz,hB0,hf0,hl0⟩;have hZ0:=Xg_lt HZ.out hf0.size hl0;have hn0:¬ Yb gB ra va w.heap.size:=fun h=>by have:=HB.out.lt _ h;omega
 refine (qcl (Xg Z w.heap.size) gB x hs ra va rc vc 2 step number w0 hB0 oo hZ0).mono ?_;rintro e w1 ⟨va1,vc1,a1,c1,rfl,hB1,hP1,hf1,hv1⟩;have hn1:=qdk hn0 hv1 hl0;have hz1:=hz.fr hf1 hn0;have hln:(x.vars++[((2:Int),step,number)]).length=x.vars.length+1:=by simp
 have C2:=qcl (Xg Z w.heap.size) gB ⟨x.vars++[(2,step,number)],x.coords,x.free⟩ hs ra va1 rc vc1 2 step (number+1) w1 hB1 (by dsimp only;omega) (fun b hb=>ltl (hZ0 b hb) hf1.size);dsimp only at C2;rw [hln,List.append_assoc] at C2;replace C2:=Hd C2;replace hP1:=Hd hP1;replace hz1:=Hd hz1;replace hn1:=Hd hn1;replace hn0:=Hd hn0;replace hv1:=Hd hv1;replace hZ0:=Hd hZ0;clear hz hB0 hB1 hln;go_wp2_with fail;refine C2.out.mono ?_;rintro e w2 ⟨va2,vc2,a2,c2,rfl,hB2,hP2,hf2,hv2⟩;have hz2:=hz1.out.fr hf2 hn1.out;have hl1:=hf1.size;have hl2:=hf2.size;have hl00:=hf0.size;have hn2:¬ Yb gB ra va2 w.heap.size:=qdk hn1.out hv2 oo;have hPm:=hP1.out.move (qlt (Z:=Xg Z w.heap.size) (ra:=ra) (gB:=gB) hv2) (hf2.mono fun b hb=>.inl hb);have hv:∀ g,va2=some g->va=some g\/w.heap.size<=g.block:=fun g hg=>by
  rcases hv2 g hg with e | e
  ·
   rcases hv1.out g e with e | e
   · exact .inl e
   · exact .inr oo
  · exact .inr oo
 have hfr:Fr (Yb gB ra va) w w2:=(hf0.trans hf1).then_ hf2 fun b hb=>by
  rcases hb with hb | hb | ⟨g,hg,rfl⟩
  · exact .inl (.inl hb)
  · exact .inl (.inr (.inl hb))
  ·
   rcases hv1.out g hg with e | e
   · exact .inl (.inr (.inr ⟨g,e,rfl⟩))
   · exact .inr oo
 obtain ⟨z0,z1⟩:=cq2 hz2;obtain ⟨f0,f1⟩:=fq2 hz2;replace hP2:=Hd hP2;replace hPm:=Hd hPm;replace hB2:=Hd hB2;replace hv:=Hd hv;replace hfr:=Hd hfr;replace hn2:=Hd hn2;replace hz2:=Hd hz2;clear hf0 hf1 hf2 hv2;go_wp2;refine qaa (fun W=>Blk W w.heap.size 135 #[.slice a1 (varP x.vars.length).length c1,.slice a2 (varP (x.vars.length+1)).length c2]/\Bst Z W gB ⟨x.vars++[(2,step,number),(2,step,number+1)],x.coords,x.free⟩ hs ra rc va2 vc2/\VecX (Yz Z gB ra va2) W ⟨a1,c1,a2,c2⟩ (varP x.vars.length,varP (x.vars.length+1))/\Fr (Yb gB ra va) w W) ⟨?_,?_,?_,?_⟩ ?_
 ·
  have hz2':=hz2.out
  exact bk
 · exact ((hB2.out.far hn2.out).far hn2.out).less
 ·
  refine VecX.less (Y:=Yz (Xg Z w.heap.size) gB ra va2) ?_ qda;exact qa8 (qa8 (⟨hPm.out,hP2.out⟩:VecX (Yz (Xg Z w.heap.size) gB ra va2) w2 ⟨a1,c1,a2,c2⟩ (varP x.vars.length,varP (x.vars.length+1))) (.inr (.inr rfl))) (.inr (.inr rfl))
 · exact (hfr.out.setc (.inr (nlr _))).setc (.inr (nlr _))
 rintro w4 ⟨hF,hB4,hV4,hf4⟩;obtain ⟨e0,e1⟩:=cq2 hF;refine bodyPost_ret (v:=.agg #[.slice a1 (varP x.vars.length).length c1,.slice a2 (varP (x.vars.length+1)).length c2]) (by simp [results,Tryz.results124,go_sem,e0,e1]) rfl ?_;exact ⟨va2,vc2,⟨a1,c1,a2,c2⟩,rfl,hB4,hV4,hf4,hv.out⟩
theorem Bst.free {Z:Nat->Prop} {w:World} {gB:Nat} {x:Frm} {hs:List (VQ × Vec)} {ra va:Option Addr} {rc vc:Nat} (h:Bst Z w gB x hs ra rc va vc) (f:Nat) :
  Bst Z (w.setCell ⟨gB,2,none⟩ (.int .i64 f)) gB ⟨x.vars,x.coords,f⟩ hs ra rc va vc :=
 ⟨h.eq,by have:=h.blk.set_ 2 (.int .i64 f);simpa using this,h.co.far (Nat.lt_succ_self gB) _,h.vr.far (Nat.lt_succ_self gB) _,fun z hz=>(h.all z hz).step (Agr.setc (.inl (.inl rfl)) (Agr.refl _ _))⟩
def qc0 (x:Frm) (i:Int):List Vr × Vec :=
 if x.free=0 then (x.vars,([],[]))
 else if x.free=1 then (x.vars++[(1,i,0)],(varP x.vars.length,[]))
 else (x.vars++[(1,i,0),(1,i,1)],(varP x.vars.length,varP (x.vars.length+1)))
theorem qss (Z:Nat->Prop) (gB:Nat) (vars:List Vr) (coords:List Vec) (hs:List (VQ × Vec)) (ra va:Option Addr) (rc vc:Nat) (step:Int) (w:World) (hB:Bst Z w gB ⟨vars,coords,0⟩ hs ra rc va vc) :
  Calls Tryz.prog 117 #[.pointer (some ⟨gB,0,none⟩),.int .i64 step] w (RetSt Z gB ⟨vars,coords,1⟩ ([],[]) hs ra rc va w):=by
 have HB:=Hd hB;have z2:=hB.blk.cell 2;have zl:=hB.blk.lt;have f2:=hB.blk.frozen 2;have hn0:¬ Yb gB ra va w.heap.size:=fun h=>by have:=hB.lt _ h;omega
 replace hn0:=Hd hn0;clear hB;go_enter Tryz.func117,Tryz.ntmps117;go_wp2;refine qaa (fun W=>Blk W w.heap.size 135 #[.slice none 0 0,.slice none 0 0]/\Bst Z W gB ⟨vars,coords,1⟩ hs ra rc va vc/\Fr (Yb gB ra va) w W) ⟨bk,?_,?_⟩ ?_
 · exact (HB.out.free 1).call (brf.alloc (nlr _) _)
 · exact ((Fr.refl (Yb gB ra va) w).setc (.inl (.inl rfl))).alloc _
 rintro w4 ⟨hF,hB4,hf4⟩;obtain ⟨e0,e1⟩:=cq2 hF;refine bodyPost_ret (v:=.agg #[.slice none 0 0,.slice none 0 0]) (by simp [results,Tryz.results117,go_sem,e0,e1]) rfl ?_;exact ⟨va,vc,⟨none,0,none,0⟩,rfl,hB4,⟨PolX.nil,PolX.nil⟩,hf4,fun _ h=>.inl h⟩
theorem qsn (Z:Nat->Prop) (gB:Nat) (vars:List Vr) (coords:List Vec) (hs:List (VQ × Vec)) (ra va:Option Addr) (rc vc:Nat) (step:Int) (w:World) (hB:Bst Z w gB ⟨vars,coords,1⟩ hs ra rc va vc) (hl:vars.length<=900) (hZ:∀ b,Z b->b<w.heap.size) :
  Calls Tryz.prog 117 #[.pointer (some ⟨gB,0,none⟩),.int .i64 step] w (RetSt Z gB ⟨vars++[(1,step,0)],coords,2⟩ (varP vars.length,[]) hs ra rc va w):=by
 have HB:=Hd hB;have HZ:=Hd hZ;have z2:=hB.blk.cell 2;have zl:=hB.blk.lt;have f2:=hB.blk.frozen 2;have hn0:¬ Yb gB ra va w.heap.size:=fun h=>by have:=hB.lt _ h;omega
 replace hn0:=Hd hn0;clear hB hZ;go_enter Tryz.func117,Tryz.ntmps117;go_wp2_with fail;refine qae (fun W=>Blk W w.heap.size 135 #[.slice none 0 0,.slice none 0 0]/\Bst (Xg Z w.heap.size) W gB ⟨vars,coords,2⟩ hs ra rc va vc/\Fr (Yb gB ra va) w W/\w.heap.size<W.heap.size) ⟨bk,?_,?_,by simp⟩ ?_
 · exact ((HB.out.wide (nlr _)).free 2).call (brf.alloc (nlr _) _)
 · exact ((Fr.refl (Yb gB ra va) w).setc (.inl (.inl rfl))).alloc _
 rintro w0 ⟨hz,hB0,hf0,hl0⟩;have hZ0:=Xg_lt HZ.out hf0.size hl0;refine (qcl (Xg Z w.heap.size) gB ⟨vars,coords,2⟩ hs ra va rc vc 1 step 0 w0 hB0 (by dsimp only;omega) hZ0).mono ?_;rintro e w1 ⟨va1,vc1,a1,c1,rfl,hB1,hP1,hf1,hv1⟩;dsimp only at hB1 hP1;have hn1:=qdk hn0.out hv1 hl0;have hz1:=hz.fr hf1 hn0.out;obtain ⟨y0,y1⟩:=cq2 hz1;obtain ⟨g0,g1⟩:=fq2 hz1;have e2:Bst (Xg Z w.heap.size) w1 gB ⟨vars++[(1,step,0)],coords,2⟩ hs ra rc va1 vc1:=hB1;have zz2:=hB1.blk.cell 2;have hfr:Fr (Yb gB ra va) w w1:=hf0.trans hf1;have hvv:∀ g,va1=some g->va=some g\/w.heap.size<=g.block:=fun g hg=>by
  rcases hv1 g hg with e | e
  · exact .inl e
  · exact .inr oo
 replace hP1:=Hd hP1;replace hB1:=Hd hB1;replace hvv:=Hd hvv;replace hfr:=Hd hfr;replace hn1:=Hd hn1;replace e2:=Hd e2;have hz1':=Hd hz1;clear hf0 hf1 hv1 hz hB0 hz1;go_wp2;refine qaa (fun W=>Blk W w.heap.size 135 #[.slice a1 (varP vars.length).length c1,.slice none 0 0]/\Bst Z W gB ⟨vars++[(1,step,0)],coords,2⟩ hs ra rc va1 vc1/\VecX (Yz Z gB ra va1) W ⟨a1,c1,none,0⟩ (varP vars.length,[])/\Fr (Yb gB ra va) w W) ⟨?_,?_,?_,?_⟩ ?_
 ·
  have hz2':=hz1'.out
  exact bk
 · exact ((e2.out.far hn1.out).far hn1.out).less
 ·
  refine VecX.less (Y:=Yz (Xg Z w.heap.size) gB ra va1) ?_ qda;exact qa8 (qa8 (⟨hP1.out,PolX.nil⟩:VecX (Yz (Xg Z w.heap.size) gB ra va1) w1 ⟨a1,c1,none,0⟩ (varP vars.length,[])) (.inr (.inr rfl))) (.inr (.inr rfl))
 · exact (hfr.out.setc (.inr (nlr _))).setc (.inr (nlr _))
 rintro w4 ⟨hF,hB4,hV4,hf4⟩;obtain ⟨e0,e1⟩:=cq2 hF;refine bodyPost_ret (v:=.agg #[.slice a1 (varP vars.length).length c1,.slice none 0 0]) (by simp [results,Tryz.results117,go_sem,e0,e1]) rfl ?_;exact ⟨va1,vc1,⟨a1,c1,none,0⟩,rfl,hB4,hV4,hf4,hvv.out⟩
theorem qr4 (Z:Nat->Prop) (gB:Nat) (vars:List Vr) (coords:List Vec) (hs:List (VQ × Vec)) (ra va:Option Addr) (rc vc:Nat) (step:Int) (w:World) (n:Nat) (hn:n<=1000) (hB:Bst Z w gB ⟨vars,coords,n+2⟩ hs ra rc va vc) (hl:vars.length<=900) (hZ:∀ b,Z b->b<w.heap.size) :
  Calls Tryz.prog 117 #[.pointer (some ⟨gB,0,none⟩),.int .i64 step] w (RetSt Z gB ⟨vars++[(1,step,0),(1,step,1)],coords,n+3⟩ (varP vars.length,varP (vars.length+1)) hs ra rc va w):=by
 have HB:=Hd hB;have HZ:=Hd hZ;have z2:=hB.blk.cell 2;have zl:=hB.blk.lt;have f2:=hB.blk.frozen 2;have hn0:¬ Yb gB ra va w.heap.size:=fun h=>by have:=hB.lt _ h;omega
 replace hn0:=Hd hn0;clear hB hZ;go_enter Tryz.func117,Tryz.ntmps117;go_wp2_with fail;refine qae (fun W=>Blk W w.heap.size 135 #[.slice none 0 0,.slice none 0 0]/\Bst (Xg Z w.heap.size) W gB ⟨vars,coords,n+3⟩ hs ra rc va vc/\Fr (Yb gB ra va) w W/\w.heap.size<W.heap.size) ⟨bk,?_,?_,by simp⟩ ?_
 · exact ((HB.out.wide (nlr _)).free (n+3)).call (brf.alloc (nlr _) _)
 · exact ((Fr.refl (Yb gB ra va) w).setc (.inl (.inl rfl))).alloc _
 rintro w0 ⟨hz,hB0,hf0,hl0⟩;have hZ0:=Xg_lt HZ.out hf0.size hl0;refine (qcl (Xg Z w.heap.size) gB ⟨vars,coords,n+3⟩ hs ra va rc vc 1 step 0 w0 hB0 (by dsimp only;omega) hZ0).mono ?_;rintro e w1 ⟨va1,vc1,a1,c1,rfl,hB1,hP1,hf1,hv1⟩;dsimp only at hB1 hP1;have hn1:=qdk hn0.out hv1 hl0;have hz1:=hz.fr hf1 hn0.out;have hln:(vars++[((1:Int),step,(0:Int))]).length=vars.length+1:=by simp
 have zz2:=hB1.blk.cell 2;have zf2:=hB1.blk.frozen 2;have zzl:=hB1.blk.lt;have C2:=qcl (Xg Z w.heap.size) gB ⟨vars++[(1,step,0)],coords,n+3⟩ hs ra va1 rc vc1 1 step 1 w1 hB1 (by dsimp only;omega) (fun b hb=>ltl (hZ0 b hb) hf1.size);dsimp only at C2;rw [hln,List.append_assoc] at C2;replace C2:=Hd C2;replace hP1:=Hd hP1;replace hz1:=Hd hz1;replace hn1:=Hd hn1;replace hv1:=Hd hv1;replace hZ0:=Hd hZ0;have dn:((((n+3:Nat):Int))==2)=false:=by simp;omega
 clear hz hB0 hB1 hln;go_wp2_with fail;refine C2.out.mono ?_;rintro e w2 ⟨va2,vc2,a2,c2,rfl,hB2,hP2,hf2,hv2⟩;have hz2:=hz1.out.fr hf2 hn1.out;have hl1:=hf1.size;have hl2:=hf2.size;have hl00:=hf0.size;have hn2:¬ Yb gB ra va2 w.heap.size:=qdk hn1.out hv2 oo;have hPm:=hP1.out.move (qlt (Z:=Xg Z w.heap.size) (ra:=ra) (gB:=gB) hv2) (hf2.mono fun b hb=>.inl hb);have hv:∀ g,va2=some g->va=some g\/w.heap.size<=g.block:=fun g hg=>by
  rcases hv2 g hg with e | e
  ·
   rcases hv1.out g e with e | e
   · exact .inl e
   · exact .inr oo
  · exact .inr oo
 have hfr:Fr (Yb gB ra va) w w2:=(hf0.trans hf1).then_ hf2 fun b hb=>by
  rcases hb with hb | hb | ⟨g,hg,rfl⟩
  · exact .inl (.inl hb)
  · exact .inl (.inr (.inl hb))
  ·
   rcases hv1.out g hg with e | e
   · exact .inl (.inr (.inr ⟨g,e,rfl⟩))
   · exact .inr oo
 obtain ⟨z0,z1⟩:=cq2 hz2;obtain ⟨f0,f1⟩:=fq2 hz2;replace hP2:=Hd hP2;replace hPm:=Hd hPm;replace hB2:=Hd hB2;replace hv:=Hd hv;replace hfr:=Hd hfr;replace hn2:=Hd hn2;replace hz2:=Hd hz2;clear hf0 hf1 hf2 hv2;go_wp2;refine qaa (fun W=>Blk W w.heap.size 135 #[.slice a1 (varP vars.length).length c1,.slice a2 (varP (vars.length+1)).length c2]/\Bst Z W gB ⟨vars++[(1,step,0),(1,step,1)],coords,n+3⟩ hs ra rc va2 vc2/\VecX (Yz Z gB ra va2) W ⟨a1,c1,a2,c2⟩ (varP vars.length,varP (vars.length+1))/\Fr (Yb gB ra va) w W) ⟨?_,?_,?_,?_⟩ ?_
 ·
  have hz2':=hz2.out
  exact bk
 · exact ((hB2.out.far hn2.out).far hn2.out).less
 ·
  refine VecX.less (Y:=Yz (Xg Z w.heap.size) gB ra va2) ?_ qda;exact qa8 (qa8 (⟨hPm.out,hP2.out⟩:VecX (Yz (Xg Z w.heap.size) gB ra va2) w2 ⟨a1,c1,a2,c2⟩ (varP vars.length,varP (vars.length+1))) (.inr (.inr rfl))) (.inr (.inr rfl))
 · exact (hfr.out.setc (.inr (nlr _))).setc (.inr (nlr _))
 rintro w4 ⟨hF,hB4,hV4,hf4⟩;obtain ⟨e0,e1⟩:=cq2 hF;refine bodyPost_ret (v:=.agg #[.slice a1 (varP vars.length).length c1,.slice a2 (varP (vars.length+1)).length c2]) (by simp [results,Tryz.results117,go_sem,e0,e1]) rfl ?_;exact ⟨va2,vc2,⟨a1,c1,a2,c2⟩,rfl,hB4,hV4,hf4,hv.out⟩
theorem qxa (Z:Nat->Prop) (gB:Nat) (x:Frm) (hs:List (VQ × Vec)) (ra va:Option Addr) (rc vc:Nat) (step:Int) (w:World) (hB:Bst Z w gB x hs ra rc va vc) (hl:x.vars.length<=900) (hf:x.free<=1000) (hZ:∀ b,Z b->b<w.heap.size) :
  Calls Tryz.prog 117 #[.pointer (some ⟨gB,0,none⟩),.int .i64 step] w (RetSt Z gB ⟨(qc0 x step).1,x.coords,x.free+1⟩ (qc0 x step).2 hs ra rc va w):=by
 obtain ⟨vars,coords,free⟩:=x
 match free,hB,hf with
 | 0,hB,_=>exact qss Z gB vars coords hs ra va rc vc step w hB
 | 1,hB,_=>exact qsn Z gB vars coords hs ra va rc vc step w hB hl hZ
 | n+2,hB,hf=>exact qr4 Z gB vars coords hs ra va rc vc step w n (by dsimp only at hf;omega) hB hl hZ
end Go.Proofs.YtmdlbpibipnapaaGreat
