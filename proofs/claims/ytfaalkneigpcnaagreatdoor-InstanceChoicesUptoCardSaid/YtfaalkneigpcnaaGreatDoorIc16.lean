/- Walk: the reference's sum of polynomials. -/
import Derived.Test.YtfaalkneigpcnaaGreatDoorIc15
import Derived.Test.YtfaalkneigpcnaaGreatDoorIc13
import Derived.Test.YtfaalkneigpcnaaGreatDoorIc11
set_option linter.all false
set_option maxRecDepth 100000
set_option maxHeartbeats 4000000
namespace Go.Proofs.YtfaalkneigpcnaaGreatDoor
open Go.RowKit
theorem qm0:qao (decide ((1:Int)<0)) (1:Int).natAbs 1=trip 1:=by
 have:=qd9 1 1;rw [this]
 rfl
theorem qgl:qsz 1<=1:=qfj (qan (by decide)) (qan (by decide))
theorem qya (w:World):Calls Tryz.prog 102 #[.int .i64 1] w (RetQK 1 1 w):=by
 have:=qi2 1 w ⟨by omega,by omega⟩;rw [qm0] at this;exact this.mono fun _ _ h=>qd7 qgl h
theorem qxw (w:World):Calls Tryz.prog 38 #[.int .i64 1] w (RetQK 1 1 w):=by
 have:=qht 1 w ⟨by omega,by omega⟩;rw [qm0] at this;exact this.mono fun _ _ h=>qd7 qgl h
theorem qxj (n:Nat):(List.replicate (n+1) (0:Int)).set n 1=List.replicate n 0++[1]:=by
 rw [List.replicate_succ'];rw [List.set_append_right _ _ (by simp)];simp
theorem qpt (n:Nat):(Array.replicate (n+1) (Value.int .i64 0)).setIfInBounds n (.int .i64 1)=((List.replicate n (0:Int)++[1]).map (Value.int .i64)).toArray:=by
 rw [<- qxj,List.map_set,<- List.setIfInBounds_toArray];simp
theorem qpz (n:Nat):∀ x∈List.replicate n (0:Int)++[1],InInt x:=fun x hx=>by
 rcases List.mem_append.1 hx with h | h
 · have:=List.eq_of_mem_replicate h;subst this;unfold InInt;omega
 · rw [List.mem_singleton] at h;subst h;unfold InInt;omega
theorem qyj (X:Nat->Prop) (n:Nat) (w:World) (hX:∀ b,X b->b<w.heap.size) (hn63:n<=1000000):Calls Tryz.prog 172 #[.int .i64 n] w (RetP X (varP n) w):=by
 by_cases hn:n<64
 ·
  have hmk:=qkt 189 Tryz.underlying189 (n+1) (by omega) w;rw [show ((n+1:Nat):Int)=(n:Int)+1 by omega] at hmk;have e:varP n=[(1,List.replicate n 0++[1])]:=by unfold varP;rw [if_pos hn]
  rw [e];have hr0:RowZ (w.alloc (.cells (((List.replicate (n+1) (0:Int)).map (Value.int .i64)).toArray) 3)) w.heap.size (List.replicate (n+1) 0):=Blk.new w _ _;have c0:=hr0.cell (show (List.replicate (n+1) (0:Int))[n]? = some 0 by simp);have f0:=hr0.frozen n;have HX:=Hd hX;clear hX hr0 e;go_enter Tryz.func172,Tryz.ntmps172;go_wp2_with fail;refine qad (fun W=>RowZ W w.heap.size (List.replicate n 0++[1])/\Below w.heap.size w W) ⟨by unfold RowZ;rw [<- qpt];exact Blk.new w _ _,by go_grown⟩ ?_;clear c0 f0 hmk;rintro w1 ⟨hR,hw1⟩;refine (qya w1).mono ?_;rintro e w2 ⟨x,rfl,HK,hb2⟩;have hw2:=bth hw1 hb2;have hm:=(hR.below hb2).reads (qpz n) (by simp;unfold maxLen;omega) (B:=w.heap.size) (T:=w.heap.size+1) (nlr _) (Nat.lt_succ_self _);have hln:(List.replicate n (0:Int)++[1]).length=n+1:=by simp
  rw [hln] at hm;have C1:=qr2 X x 1 (List.replicate n 0++[1]) (some ⟨w.heap.size,0,none⟩) (n+1) w2 (fun b hb=>by have:=HX.out b hb;have:=hw2.size;omega) (Rd.kp (HK.imp fun V h=>h.1) fun b hb=>by have:=HX.out b hb;have:=hw1.size;omega) (Nat.le_trans qgl (by omega)) (by decide) (Rd.kp hm fun b hb=>by have:=HX.out b hb;omega);rw [hln] at C1;replace C1:=Hd C1;clear HK hm hln hR hw1;go_wp2_with fail;refine C1.out.mono ?_;rintro e w3 ⟨a3,c3,rfl,hP,hb3⟩;go_wp2;go_ret;exact ⟨a3,c3,rfl,hP,bth hw2 hb3⟩
 ·
  have e:varP n=[]:=by unfold varP;rw [if_neg hn]
  rw [e];clear hX e;have hge:(64:Int)<=n:=by omega
  go_enter Tryz.func172,Tryz.ntmps172;go_wp2;go_ret;exact ⟨none,0,rfl,PolX.nil,Below.refl _ _⟩
structure PQ where
 n:Nat
 a:Option Addr
 c:Nat
def PQ.cs (s:PQ):List Value:=[.slice s.a s.n s.c]
theorem PQ.cs_len (s:PQ):s.cs.length=1:=rfl
theorem PQ.cs_one (s:PQ):∀ u∈s.cs,u.oneCell'=true:=by simp [PQ.cs,Value.oneCell']
abbrev OwnPq (B:Nat) (w:World) (a:Option Addr) (c:Nat) (l:List PQ):Prop:=Own PQ.cs 1 92 B w a c l
theorem qod:(Tryz.prog.info? 92).map (fun i=>(i.zero,i.size,i.bytes))=some (some (.slice none 0 0),1,24):=by kernel_rfl
theorem qkx (n:Nat) (hn:n<=1000000) (w:World) :
  ∃ cur:Array Value,cur.size=n*1/\(Instr.makeSlice 196 (.int .i64 0) (.int .i64 (n:Int))).run Tryz.prog w=.ok (.slice (some ⟨w.heap.size,0,none⟩) 0 n) (w.alloc (.cells cur 92)):=by
 obtain ⟨i,hi,hz,hsz,hby⟩:=info_parts qod;have:=run_makeSlice (w:=w) 196 92 i _ Tryz.underlying196 hi hz .i64 .i64 0 n (by omega) (by omega) (by rw [hsz];simp;omega) (by rw [hby];omega) (by omega);rw [hsz] at this;simp only [Int.toNat_zero,Int.toNat_natCast] at this;exact ⟨_,size_madeCells _ _,this⟩
theorem qxz (X:Nat->Prop) (a:Option Addr) (c:Nat) (w:World):Calls Tryz.prog 173 #[.slice a 0 c] w (RetP X [] w):=by
 go_enter Tryz.func173,Tryz.ntmps173;go_wp2;go_ret;exact ⟨none,0,rfl,PolX.nil,Below.refl _ _⟩
theorem quu (X:Nat->Prop) (p:List Tm) (b o c:Nat) (a1:Option Addr) (c1:Nat) (w:World) (hc:w.cell? ⟨b,o,none⟩=some (.slice a1 p.length c1)) (hp:PolX X w a1 c1 p):Calls Tryz.prog 173 #[.slice (some ⟨b,o,none⟩) 1 c] w (RetP X p w):=by
 have HP:=Hd hp;clear hp;go_enter Tryz.func173,Tryz.ntmps173;go_wp2;go_ret;exact ⟨a1,c1,rfl,HP.out,Below.refl _ _⟩
theorem zz38 {P:Prop} (h:P:=by
 have h1:=hP'.out.step ((Agr.refl (Xr X (some ⟨w.heap.size,0,none⟩)) _).grown hg3 fun g hg=>.inr ⟨g,hg,rfl⟩);exact h1.map fun R h=>h.less fun b hb=>.inl hb
 ):P:=h
theorem qx2 (X:Nat->Prop) (p:List Tm) (v:Tm) (a b:Option Addr) (ca cb:Nat) (w:World) (hX:∀ b,X b->b<w.heap.size) (hp:PolX X w a ca p) (hq:PolX X w b cb [v]) (fp:FineP p) (fv:FineT v) (hl:1<p.length) :
  Calls Tryz.prog 96 #[.slice a p.length ca,.slice b 1 cb] w (RetP X (qat p v) w):=by
 have lp:=hp.len;have l1:=fp.1;obtain ⟨cur,hcs,hmk0⟩:=qkx 1 (by omega) w;have hmk:(Instr.makeSlice 196 (.int .i64 0) (.int .i64 1)).run Tryz.prog w=.ok (.slice (some ⟨w.heap.size,0,none⟩) 0 1) (w.alloc (.cells cur 92)):=hmk0;clear hmk0;obtain ⟨b1,o1,t,rfl,hs,hsR⟩:=hq.get (show [v][0]? = some v from rfl);have hXx:∀ b,Xr X (some ⟨w.heap.size,0,none⟩) b->X b\/w.heap.size<=b:=fun b hb=>by
  rcases hb with hb | ⟨g,hg,rfl⟩
  · exact .inl hb
  · injection hg with hg;subst hg;exact .inr (nlr _)
 have CT:=fun W (hW:Below w.heap.size w W) (hlt:w.heap.size<W.heap.size)=>qiy (Xr X (some ⟨w.heap.size,0,none⟩)) p v.1 v.2 t a ca W (fun b hb=>by
  rcases hb with hb | ⟨g,hg,rfl⟩
  · exact ltl (hX b hb) hW.size
  · injection hg with hg;subst hg;exact hlt) ((hp.more hXx).call hW) fp ((hsR.more hXx).call hW) fv
 obtain ⟨res,hres⟩:∃ res,qat p v=res:=⟨_,rfl⟩
 rw [show (v.1,v.2)=v from rfl,hres] at CT;rw [hres];obtain ⟨c0,c1,c2,c3⟩:=hs;simp only [Nat.zero_mul,Nat.add_zero] at c0 c1 c2 c3;have HX:=Hd hX;replace CT:=Hd CT;clear hp hq fp fv hsR hX hres;go_enter Tryz.func96,Tryz.ntmps96;go_wp2;refine qab (fun W=>OwnPq w.heap.size W (some ⟨w.heap.size,0,none⟩) 1 []/\Below w.heap.size w W) ⟨World.ownsRow_made w cur 1 (nlr _) (by simp [maxLen]) hcs,by go_grown⟩ ?_;rintro w0 ⟨how,hw0⟩;have d0:=held c0 w0 hw0;have d1:=held c1 w0 hw0;have d2:=held c2 w0 hw0;have d3:=held c3 w0 hw0;replace how:=Hd how;clear hmk c0 c1 c2 c3;refine wp_loop_rounds 2 ?_;rw [rounds_succ];go_wp2_with fail;refine qad (fun W=>OwnPq w.heap.size W (some ⟨w.heap.size,0,none⟩) 1 []/\Below w0.heap.size w0 W) ⟨how.out.alloc _,by go_grown⟩ ?_;clear d0 d1 d2 d3;rintro w1 ⟨ho1,hw1⟩;have hw1':=bth hw0 hw1;refine (CT.out w1 hw1' (ho1.lt rfl).2).mono ?_;rintro e w2 ⟨a2,c2,rfl,hP,hb2⟩
 have hw2:=bth hw1' hb2;have ho2:=(ho1.below hb2).alloc (.cells #[.slice a2 res.length c2] 92);have hcl:∀ j v,(PQ.cs ⟨res.length,a2,c2⟩)[j]? = some v->(w2.alloc (.cells #[.slice a2 res.length c2] 92)).cell? ⟨w2.heap.size,j,none⟩=some v:=fun j v hj=>by
  cases j with
  | zero=>simp [PQ.cs] at hj;subst hj;exact (Blk.new w2 92 #[.slice a2 res.length c2]).cell 0
  | succ j=>simp [PQ.cs] at hj
 have hP':=hP.step ((Agr.refl _ w2).alloc (.cells #[.slice a2 res.length c2] 92));replace ho2:=Hd ho2;replace hcl:=Hd hcl;replace hP':=Hd hP';clear how ho1 hP;go_wp2_with (at_builtin;go_must (refine qax (B:=w.heap.size) rfl (.tmp 24) (.tmp 28) 196 rfl Tryz.underlying196 qod rfl (by omega) (by omega) PQ.cs_len (some ⟨w.heap.size,0,none⟩) 1 (l:=[]) rfl ho2.out ⟨res.length,a2,c2⟩ (PQ.cs_one _) w2.heap.size 1 rfl hcl.out [⟨res.length,a2,c2⟩] rfl (by simp) (by have:=hw2.size;simp;omega) ?_);intro a3 c3 w3 ho3 hg3 ha3);obtain ⟨g3,hg3e,hB3,hl3,hcc⟩:=ho3.at_ PQ.cs_len (k:=0) (x:=⟨res.length,a2,c2⟩) rfl;subst hg3e;have hcell:=hcc 0 _ rfl;have hX3:PolX X w3 a2 c2 res:=by
  exact zz38
 have hw3:Below w.heap.size w w3:=qak (hw2.alloc hw2.size (.cells #[.slice a2 res.length c2] 92)) ho2.out hg3;have C2:=quu X res g3 0 c3 a2 c2 w3 (by simpa using hcell) hX3;replace C2:=Hd C2;clear hcc hP' ho2 hcl hg3 ha3 hX3 hcell ho3;rw [rounds_succ];go_wp2_with fail;refine C2.out.mono ?_;rintro e w4 ⟨a4,c4,rfl,hP4,hb4⟩;replace hP4:=Hd hP4;go_wp2;go_ret;exact ⟨a4,c4,rfl,hP4.out,bth hw3 hb4⟩
theorem qw0 (w:World) :
  ∃ cur:Array Value,(Instr.makeSlice 196 (.int .i64 0) (.int .i64 0)).run Tryz.prog w=.ok (.slice (some ⟨w.heap.size,0,none⟩) 0 0) (w.alloc (.cells cur 92)):=by
 obtain ⟨cur,_,h⟩:=qkx 0 (by omega) w;exact ⟨cur,h⟩
theorem zz37 {P:Prop} (h:P:=by
 obtain ⟨cur,hmk⟩:=qw0 w;go_enter Tryz.func96,Tryz.ntmps96;go_wp2;refine qab (fun W=>Below w.heap.size w W) (by go_grown) ?_;intro w0 hw0;clear hmk;refine wp_loop_rounds 1 ?_;rw [rounds_succ];go_wp2_with fail;refine (qxz X _ _ w0).mono ?_;rintro e w1 ⟨a1,c1,rfl,hP,hb1⟩;replace hP:=Hd hP;go_wp2;go_ret;exact ⟨a1,c1,rfl,hP.out,bth hw0 hb1⟩
 ):P:=h
theorem qs3 (X:Nat->Prop) (n:Nat) (a b:Option Addr) (ca cb:Nat) (w:World) (hn:n<=1):Calls Tryz.prog 96 #[.slice a 0 ca,.slice b n cb] w (RetP X [] w):=by
 exact zz37
theorem qyq (X:Nat->Prop) (n:Nat) (a b:Option Addr) (ca cb:Nat) (w:World) (hn:0<n) (hm:n<=1000000):Calls Tryz.prog 96 #[.slice a n ca,.slice b 0 cb] w (RetP X [] w):=by
 exact zz37
theorem qyh (X:Nat->Prop) (u v:Tm) (a b:Option Addr) (ca cb:Nat) (w:World) (hX:∀ b,X b->b<w.heap.size) (hp:PolX X w a ca [u]) (hq:PolX X w b cb [v]) (fu:FineT u) (fv:FineT v) :
  Calls Tryz.prog 96 #[.slice a 1 ca,.slice b 1 cb] w (RetP X (qat [v] u) w):=by
 obtain ⟨cur,hcs,hmk0⟩:=qkx 1 (by omega) w;have hmk:(Instr.makeSlice 196 (.int .i64 0) (.int .i64 1)).run Tryz.prog w=.ok (.slice (some ⟨w.heap.size,0,none⟩) 0 1) (w.alloc (.cells cur 92)):=hmk0;clear hmk0;obtain ⟨b1,o1,t,rfl,hs,hsR⟩:=hp.get (show [u][0]? = some u from rfl);have hXx:∀ b,Xr X (some ⟨w.heap.size,0,none⟩) b->X b\/w.heap.size<=b:=fun b hb=>by
  rcases hb with hb | ⟨g,hg,rfl⟩
  · exact .inl hb
  · injection hg with hg;subst hg;exact .inr (nlr _)
 have CT:=fun W (hW:Below w.heap.size w W) (hlt:w.heap.size<W.heap.size)=>qiy (Xr X (some ⟨w.heap.size,0,none⟩)) [v] u.1 u.2 t b cb W (fun b hb=>by
  rcases hb with hb | ⟨g,hg,rfl⟩
  · exact ltl (hX b hb) hW.size
  · injection hg with hg;subst hg;exact hlt) ((hq.more hXx).call hW) ⟨by simp,fun s hs=>by rw [List.mem_singleton] at hs;subst hs;exact fv⟩ ((hsR.more hXx).call hW) fu
 obtain ⟨res,hres⟩:∃ res,qat [v] u=res:=⟨_,rfl⟩
 rw [show (u.1,u.2)=u from rfl,hres] at CT;rw [hres];dsimp only [List.length_cons,List.length_nil,Nat.zero_add] at CT;obtain ⟨c0,c1,c2,c3⟩:=hs;simp only [Nat.zero_mul,Nat.add_zero] at c0 c1 c2 c3;have HX:=Hd hX;replace CT:=Hd CT;clear hp hq fu fv hsR hX hres hXx;go_enter Tryz.func96,Tryz.ntmps96;go_wp2;refine qab (fun W=>OwnPq w.heap.size W (some ⟨w.heap.size,0,none⟩) 1 []/\Below w.heap.size w W) ⟨World.ownsRow_made w cur 1 (nlr _) (by simp [maxLen]) hcs,by go_grown⟩ ?_;rintro w0 ⟨how,hw0⟩;have d0:=held c0 w0 hw0;have d1:=held c1 w0 hw0;have d2:=held c2 w0 hw0;have d3:=held c3 w0 hw0;replace how:=Hd how;clear hmk c0 c1 c2 c3;refine wp_loop_rounds 2 ?_;rw [rounds_succ];go_wp2_with fail;refine qad (fun W=>OwnPq w.heap.size W (some ⟨w.heap.size,0,none⟩) 1 []/\Below w0.heap.size w0 W) ⟨how.out.alloc _,by go_grown⟩ ?_;clear d0 d1 d2 d3;rintro w1 ⟨ho1,hw1⟩;have hw1':=bth hw0 hw1
 refine (CT.out w1 hw1' (ho1.lt rfl).2).mono ?_;rintro e w2 ⟨a2,c2,rfl,hP,hb2⟩;have hw2:=bth hw1' hb2;have ho2:=(ho1.below hb2).alloc (.cells #[.slice a2 res.length c2] 92);have hcl:∀ j v,(PQ.cs ⟨res.length,a2,c2⟩)[j]? = some v->(w2.alloc (.cells #[.slice a2 res.length c2] 92)).cell? ⟨w2.heap.size,j,none⟩=some v:=fun j v hj=>by
  cases j with
  | zero=>simp [PQ.cs] at hj;subst hj;exact (Blk.new w2 92 #[.slice a2 res.length c2]).cell 0
  | succ j=>simp [PQ.cs] at hj
 have hP':=hP.step ((Agr.refl _ w2).alloc (.cells #[.slice a2 res.length c2] 92));replace ho2:=Hd ho2;replace hcl:=Hd hcl;replace hP':=Hd hP';clear how ho1 hP;go_wp2_with (at_builtin;go_must (refine qax (B:=w.heap.size) rfl (.tmp 24) (.tmp 28) 196 rfl Tryz.underlying196 qod rfl (by omega) (by omega) PQ.cs_len (some ⟨w.heap.size,0,none⟩) 1 (l:=[]) rfl ho2.out ⟨res.length,a2,c2⟩ (PQ.cs_one _) w2.heap.size 1 rfl hcl.out [⟨res.length,a2,c2⟩] rfl (by simp) (by have:=hw2.size;simp;omega) ?_);intro a3 c3 w3 ho3 hg3 ha3);obtain ⟨g3,hg3e,hB3,hl3,hcc⟩:=ho3.at_ PQ.cs_len (k:=0) (x:=⟨res.length,a2,c2⟩) rfl;subst hg3e;have hcell:=hcc 0 _ rfl;have hX3:PolX X w3 a2 c2 res:=by
  exact zz38
 have hw3:Below w.heap.size w w3:=qak (hw2.alloc hw2.size (.cells #[.slice a2 res.length c2] 92)) ho2.out hg3;have C2:=quu X res g3 0 c3 a2 c2 w3 (by simpa using hcell) hX3;replace C2:=Hd C2;clear hcc hP' ho2 hcl hg3 ha3 hX3 hcell ho3;rw [rounds_succ];go_wp2_with fail;refine C2.out.mono ?_;rintro e w4 ⟨a4,c4,rfl,hP4,hb4⟩;replace hP4:=Hd hP4;go_wp2;go_ret;exact ⟨a4,c4,rfl,hP4.out,bth hw3 hb4⟩
theorem qym (X:Nat->Prop) (p q:List Tm) (B B':Int) (a b:Option Addr) (ca cb:Nat) (w:World) (hX:∀ b,X b->b<w.heap.size) (hp:PolX X w a ca p) (hq:PolX X w b cb q) (fp:FineP p) (fq:FineP q) (hl:q.length<=1) (kp:Pok B p) (kq:Pok B' q) (hB:0<=B) (hB':0<=B') :
  Calls Tryz.prog 96 #[.slice a p.length ca,.slice b q.length cb] w (RetP X (mulP p q) w):=by
 match q,hl with
 | [],_ =>
  rw [qfo]
  match p with
  | []=>exact qs3 X 0 a b ca cb w (by omega)
  | u :: p=>exact qyq X (u :: p).length a b ca cb w (by simp) (by have:=fp.1;omega)
 | [v],_ =>
  have fv:=fq.2 v List.mem_cons_self
  match p with
  | []=>rw [qde];exact qs3 X 1 a b ca cb w (by omega)
  | [u] =>
   have fu:=fp.2 u List.mem_cons_self;rw [qdy kp kq hB hB',qde];exact qyh X u v a b ca cb w hX hp hq fu fv
  | u :: u2 :: p=>rw [qde];exact qx2 X (u :: u2 :: p) v a b ca cb w hX hp hq fp fv (by simp)
structure VQ where
 a:Option Addr
 c:Nat
 b:Option Addr
 d:Nat
def VecX (X:Nat->Prop) (w:World) (t:VQ) (v:Vec):Prop:=PolX X w t.a t.c v.1/\PolX X w t.b t.d v.2
theorem VecX.call {X:Nat->Prop} {w w':World} {t:VQ} {v:Vec} (h:VecX X w t v) (e:Below w.heap.size w w'):VecX X w' t v:=⟨h.1.call e,h.2.call e⟩
theorem VecX.step {X:Nat->Prop} {w w':World} {t:VQ} {v:Vec} (h:VecX X w t v) (e:Agr X w w'):VecX X w' t v:=⟨h.1.step e,h.2.step e⟩
theorem VecX.more {X Y:Nat->Prop} {w:World} {t:VQ} {v:Vec} (h:VecX X w t v) (e:∀ b,Y b->X b\/w.heap.size<=b):VecX Y w t v:=⟨h.1.more e,h.2.more e⟩
def FineV (v:Vec):Prop:=FineP v.1/\FineP v.2
def qen (X:Nat->Prop) (v:Vec) (w:World) (e:Ending) (w':World):Prop:=∃ t:VQ,e=.returned (.agg #[.slice t.a v.1.length t.c,.slice t.b v.2.length t.d])/\VecX X w' t v/\Below w.heap.size w w'
theorem qf7 (a b:Option Addr) (n c m d:Nat) (w:World):Calls Tryz.prog 88 #[.agg #[.slice a n c,.slice b m d]] w fun e w'=>e=.returned (.agg #[.slice a n c,.slice b m d])/\Below w.heap.size w w':=by
 go_enter Tryz.func88,Tryz.ntmps88;go_wp2;refine qab (fun W=>Blk W (w.heap.size+1) 94 #[.slice a n c,.slice b m d]/\Below w.heap.size w W) ⟨by ((with_reducible repeat first|assumption|(apply bF;focus omega)|apply bS|(apply bN;focus (simp;done))|apply bA|apply bD);all_goals rfl),by go_grown⟩ ?_;rintro w1 ⟨hF,hw1⟩;obtain ⟨e0,e1⟩:=cq2 hF;refine bodyPost_ret (v:=.agg #[.slice a n c,.slice b m d]) (by simp [results,Tryz.results88,go_sem,e0,e1]) rfl ?_;exact ⟨rfl,hw1⟩
def Xg (X:Nat->Prop) (g:Nat):Nat->Prop:=fun b=>X b\/b=g
theorem PolX.less {X Y:Nat->Prop} {w:World} {a:Option Addr} {c:Nat} {p:List Tm} (h:PolX Y w a c p) (e:∀ b,X b->Y b):PolX X w a c p:=h.map fun _ k=>k.less e
theorem VecX.less {X Y:Nat->Prop} {w:World} {t:VQ} {v:Vec} (h:VecX Y w t v) (e:∀ b,X b->Y b):VecX X w t v:=⟨h.1.less e,h.2.less e⟩
theorem qck {X:Nat->Prop} {w:World} {g:Nat} (hg:w.heap.size<=g):∀ b,Xg X g b->X b\/w.heap.size<=b:=fun b hb=>by
 rcases hb with hb | rfl
 · exact .inl hb
 · exact .inr hg
theorem Xg_lt {X:Nat->Prop} {w W:World} {g:Nat} (hX:∀ b,X b->b<w.heap.size) (hW:w.heap.size<=W.heap.size) (hg:g<W.heap.size):∀ b,Xg X g b->b<W.heap.size:=fun b hb=>by
 rcases hb with hb | rfl
 · exact ltl (hX b hb) hW
 · exact hg
def qgi (X:Nat->Prop) (w:World) (f:Nat) (args:Array Value) (r:List Tm):Prop :=
 ∀ (Y:Nat->Prop) (W:World),(∀ b,Y b->X b\/w.heap.size<=b)->(∀ b,Y b->b<W.heap.size)->Below w.heap.size w W->Calls Tryz.prog f args W (RetP Y r W)
theorem qgc (X:Nat->Prop) (p q:List Tm) (a b:Option Addr) (ca cb:Nat) (w:World) (hp:PolX X w a ca p) (hq:PolX X w b cb q) (fp:FineP p) (fq:FineP q):qgi X w 89 #[.slice a p.length ca,.slice b q.length cb] (addP p q) :=
 fun Y W h1 h2 hW=>qtz Y p q a b ca cb W h2 ((hp.more h1).call hW) ((hq.more h1).call hW) fp fq
theorem qs2 (X:Nat->Prop) (p q:List Tm) (a b:Option Addr) (ca cb:Nat) (w:World) (hp:PolX X w a ca p) (hq:PolX X w b cb q) (fp:FineP p) (fq:FineP q):qgi X w 167 #[.slice a p.length ca,.slice b q.length cb] (subP p q) :=
 fun Y W h1 h2 hW=>qx7 Y p q a b ca cb W h2 ((hp.more h1).call hW) ((hq.more h1).call hW) fp fq
theorem qfn (X:Nat->Prop) (u v:Vec) (r1 r2:List Tm) (s t:VQ) (w:World) (hX:∀ b,X b->b<w.heap.size)
  (C1:qgi X w 89 #[.slice s.a u.1.length s.c,.slice t.a v.1.length t.c] r1) (C2:qgi X w 89 #[.slice s.b u.2.length s.d,.slice t.b v.2.length t.d] r2) :
  Calls Tryz.prog 87 #[.agg #[.slice s.a u.1.length s.c,.slice s.b u.2.length s.d],.agg #[.slice t.a v.1.length t.c,.slice t.b v.2.length t.d],.func (Fn.func 89) #[] #[]] w (qen X (r1,r2) w):=by
 replace C1:=Hd C1;replace C2:=Hd C2;have HX:=Hd hX;clear hX;go_enter Tryz.func87,Tryz.ntmps87;go_wp2;refine qab (fun W=>Blk W w.heap.size 94 #[.slice s.a u.1.length s.c,.slice s.b u.2.length s.d]/\Blk W (w.heap.size+1) 94 #[.slice t.a v.1.length t.c,.slice t.b v.2.length t.d]/\Blk W (w.heap.size+1+1) 94 #[.slice none 0 0,.slice none 0 0]/\Below w.heap.size w W) (by refine ⟨?_,?_,?_,?_⟩<;>first|((with_reducible repeat first|assumption|(apply bF;focus omega)|apply bS|(apply bN;focus (simp;done))|apply bA|apply bD);all_goals rfl)|go_grown) ?_;rintro w0 ⟨hx,hy,hz,hw0⟩;obtain ⟨g2,hg2⟩:∃ g,g=w.heap.size+1+1:=⟨_,rfl⟩
 rw [<- hg2] at hz ⊢;have hgw:w.heap.size<=g2:=by omega
 have hgl:=hz.lt;have hY1:=qck (X:=X) hgw;have hY2:=Xg_lt HX.out hw0.size hgl;replace hg2:=Hd hg2;replace hY1:=Hd hY1;replace hY2:=Hd hY2;have x0:=held (hx.cell 0);have x1:=held (hx.cell 1);have y0:=held (hy.cell 0);have y1:=held (hy.cell 1);have s0:Below w0.heap.size w0 w0.drew:=brf.drew;clear hx hy;refine wrx (S:=Below w0.heap.size w0) [(0,.q),(1,.q),(2,.q),(3,.q),(4,.q),(6,.q),(7,.q),(8,.q),(9,.q),(10,.q),(5,.l),(11,.t),(12,.p),(13,.t)] (s0) ?_
 iterate 10 (refine qaj rfl rfl fun K hK=>xq ?_;go_simp;refine hK _ _ ?_;clear hK K)
 refine qag rfl rfl (fun K hK=>?_);go_simp;refine (C1.out (Xg X g2) w0.drew hY1.out hY2.out (bth hw0 s0)).mono ?_;rintro r w1 ⟨a1,c1,rfl,hP1,hb1⟩;dsimp only;refine hK.out _ _ (bth s0 hb1) (fun _=>?_);clear hK K;have s1:=bth s0 hb1;refine qae rfl rfl (fun K hK=>?_);go_simp;refine (C2.out _ _ hY1.out (fun b hb=>ltl (hY2.out b hb) s1.size) (bth hw0 s1)).mono ?_;rintro r w2 ⟨a2,c2,rfl,hP2,hb2⟩;dsimp only;refine hK.out _ _ ?_;clear hK K;have s2:=bth s1 hb2;have hz2:=hz.below' s2;obtain ⟨z0,z1⟩:=cq2 hz2;obtain ⟨f0,f1⟩:=fq2 hz2
 iterate 1 (refine qaz rfl rfl fun K hK=>xp ?_;go_simp;refine hK _ _ ?_;clear hK K)
 refine qae rfl rfl (fun K hK=>?_);go_simp;refine hK.out _ _ ?_;clear hK K;refine qai ?_;have hw2:=bth hw0 s2;replace hP1:=Hd (hP1.call hb2);replace hP2:=Hd hP2;clear z0 z1 f0 f1;go_wp2;refine qab (fun W=>Blk W g2 94 #[.slice a1 r1.length c1,.slice a2 r2.length c2]/\PolX (Xg X g2) W a1 c1 r1/\PolX (Xg X g2) W a2 c2 r2/\Below w.heap.size w W) ⟨by ((with_reducible repeat first|assumption|(apply bF;focus omega)|apply bS|(apply bN;focus (simp;done))|apply bA|apply bD);all_goals rfl),?_,?_,(hw2.setCell hgw _).setCell hgw _⟩ ?_
 · exact hP1.out.step (Agr.setc (.inr rfl) (Agr.setc (.inr rfl) (Agr.refl _ _)))
 · exact hP2.out.step (Agr.setc (.inr rfl) (Agr.setc (.inr rfl) (Agr.refl _ _)))
 rintro w3 ⟨hF,hQ1,hQ2,hw3⟩;obtain ⟨e0,e1⟩:=cq2 hF;refine bodyPost_ret (v:=.agg #[.slice a1 r1.length c1,.slice a2 r2.length c2]) (by simp [results,Tryz.results87,go_sem,e0,e1]) rfl ?_;exact ⟨⟨a1,c1,a2,c2⟩,rfl,⟨hQ1.less fun b hb=>.inl hb,hQ2.less fun b hb=>.inl hb⟩,hw3⟩
theorem qmw (X:Nat->Prop) (u v:Vec) (r1 r2:List Tm) (s t:VQ) (w:World) (hX:∀ b,X b->b<w.heap.size)
  (C1:qgi X w 167 #[.slice s.a u.1.length s.c,.slice t.a v.1.length t.c] r1) (C2:qgi X w 167 #[.slice s.b u.2.length s.d,.slice t.b v.2.length t.d] r2) :
  Calls Tryz.prog 87 #[.agg #[.slice s.a u.1.length s.c,.slice s.b u.2.length s.d],.agg #[.slice t.a v.1.length t.c,.slice t.b v.2.length t.d],.func (Fn.func 167) #[] #[]] w (qen X (r1,r2) w):=by
 replace C1:=Hd C1;replace C2:=Hd C2;have HX:=Hd hX;clear hX;go_enter Tryz.func87,Tryz.ntmps87;go_wp2;refine qab (fun W=>Blk W w.heap.size 94 #[.slice s.a u.1.length s.c,.slice s.b u.2.length s.d]/\Blk W (w.heap.size+1) 94 #[.slice t.a v.1.length t.c,.slice t.b v.2.length t.d]/\Blk W (w.heap.size+1+1) 94 #[.slice none 0 0,.slice none 0 0]/\Below w.heap.size w W) (by refine ⟨?_,?_,?_,?_⟩<;>first|((with_reducible repeat first|assumption|(apply bF;focus omega)|apply bS|(apply bN;focus (simp;done))|apply bA|apply bD);all_goals rfl)|go_grown) ?_;rintro w0 ⟨hx,hy,hz,hw0⟩;obtain ⟨g2,hg2⟩:∃ g,g=w.heap.size+1+1:=⟨_,rfl⟩
 rw [<- hg2] at hz ⊢;have hgw:w.heap.size<=g2:=by omega
 have hgl:=hz.lt;have hY1:=qck (X:=X) hgw;have hY2:=Xg_lt HX.out hw0.size hgl;replace hg2:=Hd hg2;replace hY1:=Hd hY1;replace hY2:=Hd hY2;have x0:=held (hx.cell 0);have x1:=held (hx.cell 1);have y0:=held (hy.cell 0);have y1:=held (hy.cell 1);have s0:Below w0.heap.size w0 w0.drew:=brf.drew;clear hx hy;refine wrx (S:=Below w0.heap.size w0) [(0,.q),(1,.q),(2,.q),(3,.q),(4,.q),(6,.q),(7,.q),(8,.q),(9,.q),(10,.q),(5,.l),(11,.t),(12,.p),(13,.t)] (s0) ?_
 iterate 10 (refine qaj rfl rfl fun K hK=>xq ?_;go_simp;refine hK _ _ ?_;clear hK K)
 refine qag rfl rfl (fun K hK=>?_);go_simp;refine (C1.out (Xg X g2) w0.drew hY1.out hY2.out (bth hw0 s0)).mono ?_;rintro r w1 ⟨a1,c1,rfl,hP1,hb1⟩;dsimp only;refine hK.out _ _ (bth s0 hb1) (fun _=>?_);clear hK K;have s1:=bth s0 hb1;refine qae rfl rfl (fun K hK=>?_);go_simp;refine (C2.out _ _ hY1.out (fun b hb=>ltl (hY2.out b hb) s1.size) (bth hw0 s1)).mono ?_;rintro r w2 ⟨a2,c2,rfl,hP2,hb2⟩;dsimp only;refine hK.out _ _ ?_;clear hK K;have s2:=bth s1 hb2;have hz2:=hz.below' s2;obtain ⟨z0,z1⟩:=cq2 hz2;obtain ⟨f0,f1⟩:=fq2 hz2
 iterate 1 (refine qaz rfl rfl fun K hK=>xp ?_;go_simp;refine hK _ _ ?_;clear hK K)
 refine qae rfl rfl (fun K hK=>?_);go_simp;refine hK.out _ _ ?_;clear hK K;refine qai ?_;have hw2:=bth hw0 s2;replace hP1:=Hd (hP1.call hb2);replace hP2:=Hd hP2;clear z0 z1 f0 f1;go_wp2;refine qab (fun W=>Blk W g2 94 #[.slice a1 r1.length c1,.slice a2 r2.length c2]/\PolX (Xg X g2) W a1 c1 r1/\PolX (Xg X g2) W a2 c2 r2/\Below w.heap.size w W) ⟨by ((with_reducible repeat first|assumption|(apply bF;focus omega)|apply bS|(apply bN;focus (simp;done))|apply bA|apply bD);all_goals rfl),?_,?_,(hw2.setCell hgw _).setCell hgw _⟩ ?_
 · exact hP1.out.step (Agr.setc (.inr rfl) (Agr.setc (.inr rfl) (Agr.refl _ _)))
 · exact hP2.out.step (Agr.setc (.inr rfl) (Agr.setc (.inr rfl) (Agr.refl _ _)))
 rintro w3 ⟨hF,hQ1,hQ2,hw3⟩;obtain ⟨e0,e1⟩:=cq2 hF;refine bodyPost_ret (v:=.agg #[.slice a1 r1.length c1,.slice a2 r2.length c2]) (by simp [results,Tryz.results87,go_sem,e0,e1]) rfl ?_;exact ⟨⟨a1,c1,a2,c2⟩,rfl,⟨hQ1.less fun b hb=>.inl hb,hQ2.less fun b hb=>.inl hb⟩,hw3⟩
theorem qfx (X:Nat->Prop) (u v:Vec) (s t:VQ) (w:World) (hX:∀ b,X b->b<w.heap.size) (hu:VecX X w s u) (hv:VecX X w t v) (fu:FineV u) (fv:FineV v) :
  Calls Tryz.prog 86 #[.agg #[.slice s.a u.1.length s.c,.slice s.b u.2.length s.d],.agg #[.slice t.a v.1.length t.c,.slice t.b v.2.length t.d]] w (qen X (subP v.1 u.1,subP v.2 u.2) w):=by
 have CC:=fun (Y:Nat->Prop) W (h1:∀ b,Y b->X b\/w.heap.size<=b) (h2:∀ b,Y b->b<W.heap.size) (hW:Below w.heap.size w W)=>qmw Y v u (subP v.1 u.1) (subP v.2 u.2) t s W h2
  (qs2 Y v.1 u.1 t.a s.a t.c s.c W ((hv.1.more h1).call hW) ((hu.1.more h1).call hW) fv.1 fu.1) (qs2 Y v.2 u.2 t.b s.b t.d s.d W ((hv.2.more h1).call hW) ((hu.2.more h1).call hW) fv.2 fu.2)
 obtain ⟨r1,hr1⟩:∃ r,subP v.1 u.1=r:=⟨_,rfl⟩
 obtain ⟨r2,hr2⟩:∃ r,subP v.2 u.2=r:=⟨_,rfl⟩
 rw [hr1,hr2] at CC ⊢;replace CC:=Hd CC;have HX:=Hd hX;clear hX hu hv fu fv hr1 hr2;go_enter Tryz.func86,Tryz.ntmps86;go_wp2;refine qab (fun W=>Blk W w.heap.size 97 #[.slice s.a u.1.length s.c,.slice s.b u.2.length s.d]/\Blk W (w.heap.size+1) 97 #[.slice t.a v.1.length t.c,.slice t.b v.2.length t.d]/\Blk W (w.heap.size+1+1) 94 #[.slice none 0 0,.slice none 0 0]/\Below w.heap.size w W) (by refine ⟨?_,?_,?_,?_⟩<;>first|((with_reducible repeat first|assumption|(apply bF;focus omega)|apply bS|(apply bN;focus (simp;done))|apply bA|apply bD);all_goals rfl)|go_grown) ?_;rintro w0 ⟨hx,hy,hz,hw0⟩;obtain ⟨g2,hg2⟩:∃ g,g=w.heap.size+1+1:=⟨_,rfl⟩
 rw [<- hg2] at hz ⊢;have hgw:w.heap.size<=g2:=by omega
 have hgl:=hz.lt;have hY1:=qck (X:=X) hgw;have hY2:=Xg_lt HX.out hw0.size hgl;replace hg2:=Hd hg2;replace hY1:=Hd hY1;replace hY2:=Hd hY2;have x0:=held (hx.cell 0);have x1:=held (hx.cell 1);have y0:=held (hy.cell 0);have y1:=held (hy.cell 1);have s0:Below w0.heap.size w0 w0.drew:=brf.drew;clear hx hy;refine wrx (S:=Below w0.heap.size w0) [(0,.q),(2,.q),(1,.l),(3,.t),(4,.t),(5,.t)] (s0) ?_
 iterate 2 (refine qaj rfl rfl fun K hK=>xq ?_;go_simp;refine hK _ _ ?_;clear hK K)
 refine qag rfl rfl (fun K hK=>?_);go_simp;refine (qf7 t.a t.b v.1.length t.c v.2.length t.d _).mono ?_;rintro r w1 ⟨rfl,hb1⟩;dsimp only;refine hK.out _ _ (bth s0 hb1) (fun _=>?_);clear hK K;have s1:=bth s0 hb1;refine qae rfl rfl (fun K hK=>?_);go_simp;refine (qf7 s.a s.b u.1.length s.c u.2.length s.d _).mono ?_;rintro r w2 ⟨rfl,hb2⟩;dsimp only;refine hK.out _ _ ?_;clear hK K;have s2:=bth s1 hb2;refine qae rfl rfl (fun K hK=>?_);go_simp;refine (CC.out (Xg X g2) _ hY1.out (fun b hb=>ltl (hY2.out b hb) s2.size) (bth hw0 s2)).mono ?_;rintro r w3 ⟨z,rfl,hP,hb3⟩;dsimp only;refine hK.out _ _ ?_;clear hK K;have s3:=bth s2 hb3;have hz2:=hz.below' s3;obtain ⟨z0,z1⟩:=cq2 hz2;obtain ⟨f0,f1⟩:=fq2 hz2;refine qae rfl rfl (fun K hK=>?_);go_simp;refine hK.out _ _ ?_;clear hK K;refine qai ?_;have hw2:=bth hw0 s3;replace hP:=Hd hP;clear z0 z1 f0 f1;go_wp2
 refine qab (fun W=>Blk W g2 94 #[.slice z.a r1.length z.c,.slice z.b r2.length z.d]/\VecX (Xg X g2) W z (r1,r2)/\Below w.heap.size w W) ⟨by ((with_reducible repeat first|assumption|(apply bF;focus omega)|apply bS|(apply bN;focus (simp;done))|apply bA|apply bD);all_goals rfl),?_,(hw2.setCell hgw _).setCell hgw _⟩ ?_
 · exact hP.out.step (Agr.setc (.inr rfl) (Agr.setc (.inr rfl) (Agr.refl _ _)))
 rintro w4 ⟨hF,hQ,hw4⟩;obtain ⟨e0,e1⟩:=cq2 hF;refine bodyPost_ret (v:=.agg #[.slice z.a r1.length z.c,.slice z.b r2.length z.d]) (by simp [results,Tryz.results86,go_sem,e0,e1]) rfl ?_;exact ⟨z,rfl,hQ.less fun b hb=>.inl hb,hw4⟩
theorem PolX.move {Y Z:Nat->Prop} {w w':World} {a:Option Addr} {c:Nat} {p:List Tm} (h:PolX Y w a c p) (e:∀ b,Z b->Y b\/w.heap.size<=b) (k:Fr Y w w'):PolX Z w' a c p:=h.map fun _ r=>r.move e k
theorem VecX.move {Y Z:Nat->Prop} {w w':World} {t:VQ} {v:Vec} (h:VecX Y w t v) (e:∀ b,Z b->Y b\/w.heap.size<=b) (k:Fr Y w w'):VecX Z w' t v:=⟨h.1.move e k,h.2.move e k⟩
def Yb (gB:Nat) (ra va:Option Addr):Nat->Prop:=fun b=>b=gB\/(∃ g:Addr,ra=some g/\b=g.block)\/(∃ g:Addr,va=some g/\b=g.block)
def coC (x:VQ × Vec):List Value:=[.slice x.1.a x.2.1.length x.1.c,.slice x.1.b x.2.2.length x.1.d]
def vrC (v:Vr):List Value:=[.int .i64 v.1,.int .i64 v.2.1,.int .i64 v.2.2]
theorem qbk (x:VQ × Vec):(coC x).length=2:=rfl
theorem qkf (v:Vr):(vrC v).length=3:=rfl
theorem qe3 (x:VQ × Vec):∀ u∈coC x,u.oneCell'=true:=by simp [coC,Value.oneCell']
theorem qpl (v:Vr):∀ u∈vrC v,u.oneCell'=true:=by simp [vrC,Value.oneCell']
theorem qge:(Tryz.prog.info? 97).map (fun i=>(i.zero,i.size,i.bytes))=some (some (.agg #[.slice none 0 0,.slice none 0 0]),2,48):=by kernel_rfl
theorem qt2:(Tryz.prog.info? 99).map (fun i=>(i.zero,i.size,i.bytes))=some (some (.agg #[.int .i64 0,.int .i64 0,.int .i64 0]),3,24):=by kernel_rfl
abbrev OwnCo (B:Nat) (w:World) (a:Option Addr) (c:Nat) (l:List (VQ × Vec)):Prop:=Own coC 2 97 B w a c l
abbrev OwnVr (B:Nat) (w:World) (a:Option Addr) (c:Nat) (l:List Vr):Prop:=Own vrC 3 99 B w a c l
def AllV (X:Nat->Prop) (w:World) (hs:List (VQ × Vec)):Prop:=∀ x∈hs,VecX X w x.1 x.2
def Yz (Z:Nat->Prop) (gB:Nat) (ra va:Option Addr):Nat->Prop:=fun b=>Yb gB ra va b\/Z b
structure Bst (Z : Nat -> Prop) (w : World) (gB : Nat) (x : Frm) (hs : List (VQ × Vec)) (ra : Option Addr) (rc : Nat) (va : Option Addr) (vc : Nat) : Prop where
 eq:hs.map Prod.snd=x.coords
 blk:Blk w gB 90 #[.slice ra hs.length rc,.slice va x.vars.length vc,.int .i64 x.free]
 co:OwnCo (gB+1) w ra rc hs
 vr:OwnVr (gB+1) w va vc x.vars
 all:AllV (Yz Z gB ra va) w hs
section
variable {Z : Nat -> Prop} {w w' : World} {gB : Nat} {x : Frm} {hs : List (VQ × Vec)} {ra va : Option Addr} {rc vc : Nat}
theorem Bst.lt (h:Bst Z w gB x hs ra rc va vc):∀ b,Yb gB ra va b->b<w.heap.size:=fun b hb=>by
 rcases hb with rfl | ⟨g,hg,rfl⟩ | ⟨g,hg,rfl⟩
 · exact h.blk.lt
 · exact (h.co.lt hg).2
 · exact (h.vr.lt hg).2
theorem Bst.ge (h:Bst Z w gB x hs ra rc va vc):∀ b,Yb gB ra va b->gB<=b:=fun b hb=>by
 rcases hb with rfl | ⟨g,hg,rfl⟩ | ⟨g,hg,rfl⟩
 · exact nlr _
 · have:=(h.co.lt hg).1;omega
 · have:=(h.vr.lt hg).1;omega
theorem AllV.call {X:Nat->Prop} (h:AllV X w hs) (e:Below w.heap.size w w'):AllV X w' hs:=fun x hx=>(h x hx).call e
theorem Bst.call (h:Bst Z w gB x hs ra rc va vc) (e:Below w.heap.size w w'):Bst Z w' gB x hs ra rc va vc:=⟨h.eq,h.blk.below' e,h.co.below e,h.vr.below e,h.all.call e⟩
theorem qkd {va':Option Addr} (h:∀ g,va'=some g->va=some g\/w.heap.size<=g.block):∀ b,Yz Z gB ra va' b->Yz Z gB ra va b\/w.heap.size<=b:=fun b hb=>by
 rcases hb with (hb | hb | ⟨g,hg,rfl⟩) | hb
 · exact .inl (.inl (.inl hb))
 · exact .inl (.inl (.inr (.inl hb)))
 ·
  rcases h g hg with e | e
  · exact .inl (.inl (.inr (.inr ⟨g,e,rfl⟩)))
  · exact .inr e
 · exact .inl (.inr hb)
theorem qfp {α β:Type} {f:α->List Value} {f':β->List Value} {sz sz' B B':Nat} {t t':TypeId} {a b:Option Addr} {c d:Nat} {l:List α} {m:List β} (h:Own f sz t B w a c l) (k:Own f' sz' t' B' w b d m) (hne:t≠t'):∀ g g',a=some g->b=some g'->g.block≠g'.block:=by
 intro g g' ha hb e;rcases h.2 with ⟨hn,_⟩ | ⟨g1,c1,cur1,h1,_,hh1,_⟩
 · rw [ha] at hn;cases hn
 ·
  rcases k.2 with ⟨hn,_⟩ | ⟨g2,c2,cur2,h2,_,hh2,_⟩
  · rw [hb] at hn;cases hn
  ·
   rw [ha] at h1;rw [hb] at h2;injection h1 with h1
   injection h1 with h1
   injection h2 with h2
   injection h2 with h2
   subst h1;subst h2;simp at e;subst e;rw [hh1] at hh2;injection hh2 with hh2
   injection hh2 with _ ht
   exact hne ht
end
theorem qcc (Z:Nat->Prop) (gB:Nat) (x:Frm) (hs:List (VQ × Vec)) (ra va:Option Addr) (rc vc:Nat) (kind step number:Int) (w:World) (hB:Bst Z w gB x hs ra rc va vc) (hl:x.vars.length<=1000) (hZ:∀ b,Z b->b<w.heap.size) :
  Calls Tryz.prog 94 #[.pointer (some ⟨gB,0,none⟩),.int .i64 kind,.int .i64 step,.int .i64 number] w fun e w'=>∃ va' vc' a c,e=.returned (.slice a (varP x.vars.length).length c) /\
   Bst Z w' gB ⟨x.vars++[(kind,step,number)],x.coords,x.free⟩ hs ra rc va' vc'/\PolX (Yz Z gB ra va') w' a c (varP x.vars.length)/\Fr (Yb gB ra va) w w'/\(∀ g,va'=some g->va=some g\/w.heap.size<=g.block):=by
 obtain ⟨h1,h2,h3,h4,h5⟩:=id hB;obtain ⟨z0,z1,z2⟩:=cq3 h2;have zl:=h2.lt;have ho:=h4.alloc (.cells #[.int .i64 kind,.int .i64 step,.int .i64 number] 99);have hcl:∀ j v,(vrC (kind,step,number))[j]? = some v->(w.alloc (.cells #[.int .i64 kind,.int .i64 step,.int .i64 number] 99)).cell? ⟨w.heap.size,j,none⟩=some v:=fun j v hj=>by
  have:=(Blk.new w 99 #[.int .i64 kind,.int .i64 step,.int .i64 number]).cell j;rw [this];simpa [vrC] using hj
 have HB:=Hd hB;replace ho:=Hd ho;replace hcl:=Hd hcl;replace h2:=Hd h2;replace h3:=Hd h3;replace h4:=Hd h4;replace h5:=Hd h5;replace h1:=Hd h1;clear hB;go_enter Tryz.func94,Tryz.ntmps94;go_wp2_with (at_builtin;go_must (refine qax (B:=gB+1) rfl (.tmp 14) (.tmp 19) 56 rfl Tryz.underlying56 qt2 rfl (by omega) (by omega) qkf va vc rfl ho.out (kind,step,number) (qpl _) w.heap.size 1 rfl hcl.out (x.vars++[(kind,step,number)]) rfl (by simp;omega) (by simp;omega) ?_);intro va2 vc2 w2 ho2 hg2 ha2;have hz2:=(h2.out.alloc (.cells #[.int .i64 kind,.int .i64 step,.int .i64 number] 99)).under ho.out (Nat.lt_succ_self gB) hg2;obtain ⟨y0,y1,y2⟩:=cq3 hz2;have f1:=hz2.frozen 1);have hne:∀ g,ra=some g->Value.ownBlock (.slice va x.vars.length vc)≠some g.block:=fun g hg e=>by
  cases hv:va with
  | none=>rw [hv] at e;simp [Value.ownBlock] at e
  | some g' =>
   rw [hv] at e;simp [Value.ownBlock] at e;exact qfp h3.out h4.out (by decide) g g' hg hv e.symm
 have hco2:OwnCo (gB+1) w2 ra rc hs:=(h3.out.alloc _).grown hg2 hne;have hfr1:Fr (Yb gB ra va) w w2:=((Fr.refl (Yb gB ra va) w).alloc _).grown hg2 fun g hg=>.inl (.inr (.inr ⟨g,hg,rfl⟩))
 have hva2:∀ g,va2=some g->va=some g\/w.heap.size<=g.block:=fun g hg=>by
  obtain ⟨g',e1,e2⟩:=ha2;rw [e1] at hg;injection hg with hg
  subst hg;rcases e2 with e2 | e2
  · exact .inl e2
  · right;simp at e2;show _<=g';omega
 have hYm:=qkd (Z:=Z) (ra:=ra) (gB:=gB) hva2;have hfr3:Fr (Yb gB ra va) w (w2.setCell ⟨gB,1,none⟩ (.slice va2 (x.vars.length+1) vc2)):=hfr1.setc (.inl (.inl rfl));have hB3:Bst Z (w2.setCell ⟨gB,1,none⟩ (.slice va2 (x.vars.length+1) vc2)) gB ⟨x.vars++[(kind,step,number)],x.coords,x.free⟩ hs ra rc va2 vc2:=by
  refine ⟨h1.out,?_,hco2.far (Nat.lt_succ_self gB) _,ho2.far (Nat.lt_succ_self gB) _,fun z hz=>(h5.out z hz).move hYm (hfr3.mono fun b hb=>.inl hb)⟩;have:=hz2.set_ 1 (.slice va2 (x.vars.length+1) vc2);simpa using this
 have hrl:x.vars.length+1-1=x.vars.length:=by omega
 replace hB3:=Hd hB3;replace hfr3:=Hd hfr3;replace hva2:=Hd hva2;clear hg2 ha2 hfr1 hco2 ho2 hne y0 y1 y2 f1 hz2 hYm hrl;refine qad (fun W=>Bst Z W gB ⟨x.vars++[(kind,step,number)],x.coords,x.free⟩ hs ra rc va2 vc2/\Fr (Yb gB ra va) w W) ⟨hB3.out,hfr3.out⟩ ?_;rintro w3 ⟨hB4,hfr4⟩;refine (qyj (Yz Z gB ra va2) x.vars.length w3 (fun b hb=>hb.elim (hB4.lt b) fun hz=>ltl (hZ b hz) hfr4.size) (by omega)).mono ?_;rintro e w4 ⟨a,c,rfl,hP,hb⟩;have hB5:=hB4.call hb;have hfr5:=hfr4.call hb;replace hP:=Hd hP;replace hB5:=Hd hB5;go_wp2;go_ret;exact ⟨va2,vc2,a,c,rfl,hB5.out,hP.out,hfr5,hva2.out⟩
def nPar (vars:List Vr):Nat:=(vars.filter fun v=>v.1==1).length
theorem quh {vars:List Vr} {k:Nat} {v:Vr} (h:vars[k]? = some v):nPar (vars.take (k+1))=nPar (vars.take k)+if v.1=1 then 1 else 0:=by
 unfold nPar;rw [qa7 h,List.filter_append,List.length_append];by_cases h1:v.1=1 <;> simp [h1]
theorem qku (vars:List Vr):nPar vars<=vars.length:=List.length_filter_le _ _
def twoK (k:Int):Bool:=decide (k=12)||(decide (k=13)||decide (k=14))
theorem zz40 {P:Prop} (h:P:=by
 by_cases h1:k=12
 ·
  subst h1;go_wp2;go_ret;exact ⟨rfl,rfl⟩
 ·
  by_cases h2:k=13
  ·
   subst h2;go_wp2;go_ret;exact ⟨rfl,rfl⟩
  ·
   go_wp2;go_ret;exact ⟨qbg (by rw [Bool.eq_iff_iff];simp [twoK,or_assoc]),rfl⟩
 ):P:=h
theorem qkm (k:Int) (w:World):Calls Tryz.prog 20 #[.int .i64 k] w fun e w'=>e=.returned (.bool (twoK k))/\w'=w:=by
 go_enter Tryz.func20,Tryz.ntmps20;exact zz40
theorem qkb (k:Int) (w:World):Calls Tryz.prog 42 #[.int .i64 k] w fun e w'=>e=.returned (.bool (twoK k))/\w'=w:=by
 go_enter Tryz.func42,Tryz.ntmps42;exact zz40
def RetCh (t:Nat × Nat × Int) (w:World) (e:Ending) (w':World):Prop:=e=.returned (.tuple #[.int .i64 t.1,.int .i64 t.2.1,.int .i64 t.2.2])/\Below w.heap.size w w'
theorem zz39 {P:Prop} (h:P:=by
 clear h0 hw1 x1;obtain ⟨k,a,c,l,hm,rfl,rfl,hO,hlen,hwr⟩:=hrel;by_cases hlt:k<vars.length
 ·
  obtain ⟨v,hvk⟩:=qac hlt;obtain ⟨vb,rfl,_,_,hc⟩:=(HV.out.below hwr).at_ qkf hvk;have c0:wr.cell? ⟨vb,k*3,none⟩=some (.int .i64 v.1):=by simpa using hc 0 _ rfl
  have c1:=hc 1 _ rfl;have c2:=hc 2 _ rfl;have hvb:vb<wr.heap.size:=World.block_lt_of_cell? wr _ c0;have hn:=quh hvk;have hle:=qku (vars.take k);rw [List.length_take] at hle;have hll:l.length<=1000:=by rw [hlen.out];omega
  replace hvk:=Hd hvk;replace hn:=Hd hn;replace hle:=Hd hle;by_cases hv1:v.1=1
  ·
   have hvd:(v.1==1)=true:=by simpa using hv1
   replace hv1:=Hd hv1;clear hc;go_wp2_with (at_builtin;go_must (refine qab (fun W=>Blk W (wr.heap.size+1) 3 #[.int .i64 k]/\Below wr.heap.size wr W) ⟨by ((with_reducible repeat first|assumption|(apply bF;focus omega)|apply bS|(apply bN;focus (simp;done))|apply bA|apply bD);all_goals rfl),by go_grown⟩ ?_);rintro w2 ⟨hr,hb2⟩;have hO2:=hO.out.below hb2;go_must (refine qgo rfl (.tmp 17) (.tmp 19) rfl a c rfl hO2 (k:Int) (wr.heap.size+1) 1 rfl (hr.cell 0) (l++[(k:Int)]) rfl (by simp;omega) (by have:=hwr.size;have:=hb2.size;omega) ?_);intro a3 c3 w3 ho3 hg3 ha3;have hb3:=qak (bth hwr hb2) hO2 hg3;replace hO2:=Hd hO2;replace ho3:=Hd ho3;replace hb3:=Hd hb3;clear hr hb2 hg3 ha3);go_roundg (gk-1)
   case rel=>exact ⟨k+1,a3,c3,l++[(k:Int)],by have:=hm.out;show _=_;omega,by simp,by go_num,ho3.out,by show _=_;rw [hn.out,if_pos hv1.out,<- hlen.out];simp,hb3.out⟩
   case measure=>have:=hm.out;omega
  ·
   have hvd:(v.1==1)=false:=by simpa using hv1
   replace hv1:=Hd hv1;clear hc;go_wp2;go_roundg (gk-1)
   case rel=>exact ⟨k+1,a,c,l,by have:=hm.out;show _=_;omega,rfl,by go_num,hO.out.alloc _,by show _=_;rw [hn.out,if_neg hv1.out,<- hlen.out];rfl,hwr.alloc hwr.size _⟩
   case measure=>have:=hm.out;omega
 ·
  have hk:l.length=nPar vars:=by rw [hlen.out,List.take_of_length_le (by omega)]
  replace hk:=Hd hk;go_wp2;go_ret;exact ⟨⟨a,c,by rw [<- hk.out];rfl⟩,hwr⟩
 ):P:=h
theorem qoz (vars:List Vr) (ra va:Option Addr) (B n rc vc:Nat) (w:World) (hv:OwnVr B w va vc vars) (hl:vars.length<=1000) :
  Calls Tryz.prog 21 #[.agg #[.slice ra n rc,.slice va vars.length vc]] w fun e w'=>(∃ a c,e=.returned (.slice a (nPar vars) c))/\Below w.heap.size w w':=by
 have HV:=Hd hv;clear hv;go_enter Tryz.func21,Tryz.ntmps21;go_wp2;refine qab (fun W=>Blk W w.heap.size 58 #[.slice ra n rc,.slice va vars.length vc]/\Below w.heap.size w W) ⟨by ((with_reducible repeat first|assumption|(apply bF;focus omega)|apply bS|(apply bN;focus (simp;done))|apply bA|apply bD);all_goals rfl),by go_grown⟩ ?_;rintro w1 ⟨h0,hw1⟩;have x1:=h0.cell 1;go_wp2
 go_loopg [3,4,5,9] vars.length (fun m out _ _ idx wr=>∃ (k:Nat) (a:Option Addr) (c:Nat) (l:List Int),Hid (k+m=vars.length)/\out=.slice a l.length c/\idx=.int .i64 k/\Hid (OwnI w.heap.size wr a c l)/\Hid (l.length=nPar (vars.take k))/\Below w.heap.size w wr)
 case atStart=>exact ⟨0,none,0,[],by show _=_;omega,rfl,rfl,Own.nil,rfl,hw1⟩
 case round =>
  exact zz39
theorem qov (vars:List Vr) (ra va:Option Addr) (B n rc vc:Nat) (w:World) (hv:OwnVr B w va vc vars) (hl:vars.length<=1000) :
  Calls Tryz.prog 43 #[.agg #[.slice ra n rc,.slice va vars.length vc]] w fun e w'=>(∃ a c,e=.returned (.slice a (nPar vars) c))/\Below w.heap.size w w':=by
 have HV:=Hd hv;clear hv;go_enter Tryz.func43,Tryz.ntmps43;go_wp2;refine qab (fun W=>Blk W w.heap.size 58 #[.slice ra n rc,.slice va vars.length vc]/\Below w.heap.size w W) ⟨by ((with_reducible repeat first|assumption|(apply bF;focus omega)|apply bS|(apply bN;focus (simp;done))|apply bA|apply bD);all_goals rfl),by go_grown⟩ ?_;rintro w1 ⟨h0,hw1⟩;have x1:=h0.cell 1;go_wp2
 go_loopg [3,4,5,9] vars.length (fun m out _ _ idx wr=>∃ (k:Nat) (a:Option Addr) (c:Nat) (l:List Int),Hid (k+m=vars.length)/\out=.slice a l.length c/\idx=.int .i64 k/\Hid (OwnI w.heap.size wr a c l)/\Hid (l.length=nPar (vars.take k))/\Below w.heap.size w wr)
 case atStart=>exact ⟨0,none,0,[],by show _=_;omega,rfl,rfl,Own.nil,rfl,hw1⟩
 case round =>
  exact zz39
theorem qjq {u:Tm} (h:FineT u):∀ x∈u.2,0<=x/\x<=1048576:=fun x hx=>by have:=h.1.1 x hx;omega
theorem zz41 {P:Prop} (h:P:=by
 rw [<- hge] at hg ⊢;clear hge;replace HK:=Hd HK;have CS:=fun W (hW:Below wz.heap.size wz W)=>qkr x (u.1+v.1) 2001 W ((HK.out.call hW).now) (by omega)
 have hsg:=qgg (u.1+v.1);obtain ⟨S0,hS0⟩:∃ S0,sgnQ (u.1+v.1)=S0:=⟨_,rfl⟩
 rw [hS0] at CS hsg;clear hS0;replace CS:=Hd CS;have szz:=bth s4 sz;have hRS:∀ W,Below wz.heap.size wz W->Rd (Xr X ra) W (TQ.R ⟨x,s.n,s.a,s.c⟩ (u.1+v.1,u.2)):=fun W hW=>qta (HK.out.call hW) (fun b hb=>by have:=hlx.out b hb;have:=s4.size;omega) ((hsr.out.call szz).call hW)
 have p3:=j3 wz sz;obtain ⟨z0,z1,z2⟩:=cq3 hg;have hgl:=hg.lt;replace hRS:=Hd hRS;replace hL0:=hL0.out;by_cases hz:u.1+v.1=0
 ·
  have ho3:=ho2.out;rw [qem hL0 hz] at ho3;replace ho3:=Hd ho3;have hd:decide (u.1+v.1=0)=true:=decide_eq_true hz;rw [hd] at hsg;clear ho2 hz hL0 hd hL g1 g2;go_wp2_with fail;refine (CS.out wz brf).mono ?_;rintro e w5 ⟨rfl,hb5⟩;have s5:=bth szz hb5;have hA6:=hA.out.call s5;have ho6:=ho.out.below s5;have hwo6:=bth hwr s5;replace ho6:=Hd ho6;replace hA6:=Hd hA6;clear z0 z1 z2 p3 hRS HK;go_wp2;go_roundg (gk-2)
  case rel=>exact ⟨i+1,k+1,lo,po,ra,rc,by have:=hm.out;show _=_;omega,by omega,by omega,rfl,by go_num,by go_num,ho6.out,hA6.out,hwo6,ho3.out,by have:=hll.out;show _<=_;omega⟩
  case measure=>have:=hm.out;omega
 ·
  have ho3:=ho2.out;rw [qga hL0 hz] at ho3;replace ho3:=Hd ho3;have hd:decide (u.1+v.1=0)=false:=decide_eq_false hz;rw [hd] at hsg;clear ho2 hz hL0 hd hL g1 g2;go_wp2_with fail;refine (CS.out wz brf).mono ?_;rintro e w5 ⟨rfl,hb5⟩;have s5:=bth szz hb5;replace hg:=hg.below' hb5;have y0:=held (hg.cell 0);have y1:=held (hg.cell 1);have y2:=held (hg.cell 2);have y3:=held (held p3 w5 hb5);have s0':Below w5.heap.size w5 w5.drew:=brf.drew;obtain ⟨sn,hsn⟩:∃ sn:TQ,sn=⟨x,s.n,s.a,s.c⟩:=⟨_,rfl⟩
  have ex:x=sn.x:=by rw [hsn]
  have e5:s.n=sn.n:=by rw [hsn]
  have e6:s.a=sn.a:=by rw [hsn]
  have e7:s.c=sn.c:=by rw [hsn]
  replace ex:=Hd ex;replace e5:=Hd e5;replace e6:=Hd e6;replace e7:=Hd e7;have hRn:=hRS.out w5 hb5;rw [<- hsn] at hRn;have how5:=(ho.out.below s5).alloc (.cells #[.bool sn.x.neg,.slice sn.x.a sn.x.n sn.x.c,.slice sn.x.b sn.x.m sn.x.d,.slice sn.a sn.n sn.c] 191);have hel:TQ.At sn (w5.alloc (.cells #[.bool sn.x.neg,.slice sn.x.a sn.x.n sn.x.c,.slice sn.x.b sn.x.m sn.x.d,.slice sn.a sn.n sn.c] 191)) w5.heap.size 0:=At.new;have hw5:=bth hwr s5;replace hRn:=Hd hRn;replace hsn:=Hd hsn;replace how5:=Hd how5;replace hel:=Hd hel;clear z0 z1 z2 p3 hRS HK hg;go_wp2;refine wrx (S:=Below w5.heap.size w5) [(0,.q),(1,.q),(2,.q),(3,.q),(4,.q),(5,.q),(6,.q),(7,.q),(8,.l),(9,.t),(10,.p)] (s0') ?_
  iterate 7 (refine qaj rfl rfl fun K hK=>xq ?_;go_simp;refine hK _ _ ?_;clear hK K)
  rw [ex.out,e5.out,e6.out,e7.out]
  iterate 1 (refine qaj rfl rfl fun K hK=>xq ?_;go_simp;refine hK _ _ ?_;clear hK K)
  refine qag rfl rfl (fun K hK=>?_);go_simp;refine hK.out _ _ (s0'.alloc s0'.size _) (fun _=>?_);clear hK K;refine qae rfl rfl (fun K hK=>?_);refine qd1 (B:=wo.heap.size) (.tmp 53) (.tmp 61) 92 rfl Tryz.underlying92 ra rc rfl (Own.drew how5.out) sn w5.heap.size 1 rfl hel.out (lo++[sn]) rfl (by have:=hll.out;simp;omega) (by have:=hw5.size;simp;omega) ?_;intro ra2 rc2 w6 ho6 hg6 ha6;go_simp;refine hK.out _ _ ?_;clear hK K
  iterate 1 (refine qaz rfl rfl fun K hK=>xp ?_;go_simp;refine hK _ _ ?_;clear hK K)
  refine qai ?_;replace hg6:(w5.alloc (.cells #[.bool sn.x.neg,.slice sn.x.a sn.x.n sn.x.c,.slice sn.x.b sn.x.m sn.x.d,.slice sn.a sn.n sn.c] 191)).grownBy w6 (Value.ownBlock (.slice ra lo.length rc)):=⟨hg6.os,hg6.tape,hg6.output,hg6.size,hg6.block⟩
  replace ha6:∃ g,ra2=some ⟨g,0,none⟩/\(ra=some ⟨g,0,none⟩\/g=(w5.alloc (.cells #[.bool sn.x.neg,.slice sn.x.a sn.x.n sn.x.c,.slice sn.x.b sn.x.m sn.x.d,.slice sn.a sn.n sn.c] 191)).heap.size):=ha6;have hA6:=qcw hA.out s5 (brf.alloc (nlr _) (.cells #[.bool sn.x.neg,.slice sn.x.a sn.x.n sn.x.c,.slice sn.x.b sn.x.m sn.x.d,.slice sn.a sn.n sn.c] 191)) (hRn.out.alloc _) hg6 ha6;have hwo6:Below wo.heap.size wo w6:=qak (hw5.alloc hw5.size (.cells #[.bool sn.x.neg,.slice sn.x.a sn.x.n sn.x.c,.slice sn.x.b sn.x.m sn.x.d,.slice sn.a sn.n sn.c] 191)) how5.out hg6;replace ho6:=Hd ho6;replace hA6:=Hd hA6;clear hg6 ha6 how5 hel;go_wp2;go_roundg (gk-2)
  case rel=>exact ⟨i+1,k+1,lo++[sn],po++[(u.1+v.1,u.2)],ra2,rc2,by have:=hm.out;show _=_;omega,by omega,by omega,by simp,by go_num,by go_num,ho6.out,hA6.out,hwo6,by rw [<- ho3.out];show _=_;simp,by have:=hll.out;show _<=_;simp;omega⟩
  case measure=>have:=hm.out;omega
 ):P:=h
theorem qhh (X:Nat->Prop) (p q:List Tm) (a b:Option Addr) (ca cb:Nat) (w:World) (hX:∀ b,X b->b<w.heap.size) (hp:PolX X w a ca p) (hq:PolX X w b cb q) (fp:FineP p) (fq:FineP q) :
  Calls Tryz.prog 231 #[.slice a p.length ca,.slice b q.length cb] w (RetP X (addP p q) w):=by
 have lp:=hp.len;have lq:=hq.len;have l1:=fp.1;have l2:=fq.1;obtain ⟨R,hR⟩:∃ R,addP p q=R:=⟨_,rfl⟩
 rw [hR];have HP:=Hd hp;have HQ:=Hd hq;have FP:=Hd fp.2;have FQ:=Hd fq.2;have HX:=Hd hX;have HR:=Hd hR;clear hp hq fp fq hX hR;go_enter Tryz.func231,Tryz.ntmps231;go_wp2;obtain ⟨wo,rfl⟩:∃ wo:World,wo=w:=⟨_,rfl⟩
 go_loopg [5,6,7,8,9] (p.length+q.length) (fun m o qi qk _ _ wr=>∃ (i k:Nat) (lo:List TQ) (po:List Tm) (ra:Option Addr) (rc:Nat),Hid (i+k+m=p.length+q.length)/\i<=p.length/\k<=q.length/\o=.slice ra lo.length rc/\qi=.int .i64 i/\qk=.int .i64 k/\Hid (OwnT wo.heap.size wr ra rc lo)/\Hid (AllT (Xr X ra) wr lo po)/\Below wo.heap.size wo wr/\Hid (po++addP (p.drop i) (q.drop k)=R)/\Hid (lo.length<=i+k))
 case atStart=>exact ⟨0,0,[],[],none,0,by show _=_;omega,by omega,by omega,rfl,rfl,rfl,Own.nil,AllT.nil,Below.refl _ _,HR.out,nlr _⟩
 case round =>
  obtain ⟨i,k,lo,po,ra,rc,hm,hi,hk,rfl,rfl,rfl,ho,hA,hwr,hout,hll⟩:=hrel;have hro:Hid (∀ g,ra=some g->wo.heap.size<=g.block):=Hd fun g hg=>(ho.out.lt hg).1
  have sr:Below wr.heap.size wr wr:=Below.refl _ _;by_cases h1:i<p.length
  ·
   obtain ⟨u,hu⟩:=qac h1;obtain ⟨b1,o1,s,rfl,hs,hsR⟩:=HP.out.get hu;have fu:=FP.out u (List.mem_of_getElem? hu);have hsr:=qcs hsR hro.out hwr;obtain ⟨c0,c1,c2,c3⟩:=hs;have k0:=held (held c0 wr hwr);have k1:=held (held c1 wr hwr);have k2:=held (held c2 wr hwr);have k3:=held (held c3 wr hwr);have hdp:=Hd (qdd hu);have hin1:(i:Int)≠p.length:=by omega
   have hie:((i:Int)==(p.length:Int))=false:=by simpa using hin1
   clear c0 c1 c2 c3 hu;by_cases h2:k<q.length
   ·
    obtain ⟨v,hv⟩:=qac h2;obtain ⟨b2,o2,t,rfl,ht,htR⟩:=HQ.out.get hv;have fv:=FQ.out v (List.mem_of_getElem? hv);have ho2:=hout.out;have hdq:=Hd (qdd hv);rw [hdp.out,hdq.out] at ho2;have htr:=qcs htR hro.out hwr;have CL:=fun W (hW:Below wr.heap.size wr W)=>qr8 u.2 v.2 s.a t.a s.c t.c W (hsR.call (bth hwr hW)).now.2.1 (htR.call (bth hwr hW)).now.2.1 (qjq fu) (qjq fv)
    rw [<- hsR.now.2.2,<- htR.now.2.2] at CL;have CA:=fun W (hW:Below wr.heap.size wr W)=>qx8 s.x t.x u.1 v.1 1000 1000 W ((hsR.call (bth hwr hW)).now.qk fu) ((htR.call (bth hwr hW)).now.qk fv) (by omega) (by omega)
    obtain ⟨d0,d1,d2,d3⟩:=ht;have y0:=held (held d0 wr hwr);have y1:=held (held d1 wr hwr);have y2:=held (held d2 wr hwr);have y3:=held (held d3 wr hwr);have s0:Below wr.heap.size wr wr.drew:=brf.drew;obtain ⟨L,hL⟩:∃ L,lexI u.2 v.2=L:=⟨_,rfl⟩
    rw [hL] at CL;replace hL:=Hd hL;replace CL:=Hd CL;replace CA:=Hd CA;replace hsR:=Hd hsR;replace htR:=Hd htR;replace fu:=Hd fu;replace fv:=Hd fv;replace ho2:=Hd ho2;replace hsr:=Hd hsr;replace htr:=Hd htr;clear hv d0 d1 d2 d3 hout;go_wp2;refine wrx (S:=Below wr.heap.size wr) [(0,.q),(1,.q),(2,.q),(3,.q),(4,.q),(5,.q),(6,.q),(7,.q),(8,.q),(9,.q),(10,.t),(11,.p)] (s0) ?_
    iterate 10 (refine qaj rfl rfl fun K hK=>xq ?_;go_simp;refine hK _ _ ?_;clear hK K)
    refine qae rfl rfl (fun K hK=>?_);go_simp;refine (CL.out _ s0).mono ?_;rintro r w4 ⟨rfl,rfl⟩;dsimp only;refine hK.out _ _ ?_;clear hK K
    iterate 1 (refine qaz rfl rfl fun K hK=>xp ?_;go_simp;refine hK _ _ ?_;clear hK K)
    refine qai ?_;obtain ⟨w4,hw4⟩:∃ w4,w4=wr.drew:=⟨_,rfl⟩
    rw [<- hw4] at s0 ⊢;have s4:=s0;clear hw4 s0;have e0:=k0 w4 s4;have e1:=k1 w4 s4;have e2:=k2 w4 s4;have e3:=k3 w4 s4;have f0:=y0 w4 s4;have f1:=y1 w4 s4;have f2:=y2 w4 s4;have f3:=y3 w4 s4;clear k0 k1 k2 k3 y0 y1 y2 y3;by_cases g1:0<L
    ·
     have ho3:=ho2.out;rw [qgj (by rw [hL.out];exact g1)] at ho3;replace ho3:=Hd ho3;clear CA CL hsR htR fu fv htr ho2;have hb5:Below w4.heap.size w4 (w4.alloc (.cells #[.bool s.x.neg,.slice s.x.a s.x.n s.x.c,.slice s.x.b s.x.m s.x.d,.slice s.a s.n s.c] 191)):=by go_grown
     have howc:=((ho.out.below s4).alloc (.cells #[.bool s.x.neg,.slice s.x.a s.x.n s.x.c,.slice s.x.b s.x.m s.x.d,.slice s.a s.n s.c] 191))
     have hel:TQ.At s (w4.alloc (.cells #[.bool s.x.neg,.slice s.x.a s.x.n s.x.c,.slice s.x.b s.x.m s.x.d,.slice s.a s.n s.c] 191)) w4.heap.size 0:=At.new;have hwoc:=bth hwr (bth s4 hb5);replace howc:=Hd howc;replace hel:=Hd hel;go_wp2_with (at_builtin;go_must (refine qcz (B:=wo.heap.size) rfl (.tmp 70) (.tmp 75) 92 rfl Tryz.underlying92 ra rc rfl howc.out s w4.heap.size 1 rfl hel.out (lo++[s]) rfl (by have:=hll.out;simp;omega) (by have:=hwoc.size;simpa using this) ?_);intro ra2 rc2 w6 ho6 hg6 ha6);have hA6:=qcw hA.out s4 hb5 ((hsr.out.call s4).call hb5) hg6 ha6;have hwo6:Below wo.heap.size wo w6:=qak hwoc howc.out hg6;replace ho6:=Hd ho6;replace hA6:=Hd hA6;clear hg6 ha6 howc hel hb5 hwoc;go_wp2;go_roundg (gk-1)
     case rel=>exact ⟨i+1,k,lo++[s],po++[u],ra2,rc2,by have:=hm.out;show _=_;omega,by omega,by omega,by simp,by go_num,rfl,ho6.out,hA6.out,hwo6,by rw [<- ho3.out,hdq.out];show _=_;simp,by have:=hll.out;show _<=_;simp;omega⟩
     case measure=>have:=hm.out;omega
    ·
     by_cases g2:L<0
     ·
      have ho3:=ho2.out;rw [qgd (by rw [hL.out];exact g2)] at ho3;replace ho3:=Hd ho3;clear CA CL hsR htR fu fv hsr ho2;have hb5:Below w4.heap.size w4 (w4.alloc (.cells #[.bool t.x.neg,.slice t.x.a t.x.n t.x.c,.slice t.x.b t.x.m t.x.d,.slice t.a t.n t.c] 191)):=by go_grown
      have howc:=((ho.out.below s4).alloc (.cells #[.bool t.x.neg,.slice t.x.a t.x.n t.x.c,.slice t.x.b t.x.m t.x.d,.slice t.a t.n t.c] 191))
      have hel:TQ.At t (w4.alloc (.cells #[.bool t.x.neg,.slice t.x.a t.x.n t.x.c,.slice t.x.b t.x.m t.x.d,.slice t.a t.n t.c] 191)) w4.heap.size 0:=At.new;have hwoc:=bth hwr (bth s4 hb5);replace howc:=Hd howc;replace hel:=Hd hel;go_wp2_with (at_builtin;go_must (refine qcz (B:=wo.heap.size) rfl (.tmp 82) (.tmp 87) 92 rfl Tryz.underlying92 ra rc rfl howc.out t w4.heap.size 1 rfl hel.out (lo++[t]) rfl (by have:=hll.out;simp;omega) (by have:=hwoc.size;simpa using this) ?_);intro ra2 rc2 w6 ho6 hg6 ha6);have hA6:=qcw hA.out s4 hb5 ((htr.out.call s4).call hb5) hg6 ha6;have hwo6:Below wo.heap.size wo w6:=qak hwoc howc.out hg6;replace ho6:=Hd ho6;replace hA6:=Hd hA6;clear hg6 ha6 howc hel hb5 hwoc;go_wp2;go_roundg (gk-1)
      case rel=>exact ⟨i,k+1,lo++[t],po++[v],ra2,rc2,by have:=hm.out;show _=_;omega,by omega,by omega,by simp,rfl,by go_num,ho6.out,hA6.out,hwo6,by rw [<- ho3.out,hdp.out];show _=_;simp,by have:=hll.out;show _<=_;simp;omega⟩
      case measure=>have:=hm.out;omega
     ·
      have hL0:lexI u.2 v.2=0:=by rw [hL.out];omega
      have hlx:=Hd (Xr_lt HX.out ho.out hwr.size);have j0:=held e0;have j1:=held e1;have j2:=held e2;have j3:=held e3;have n0:=held f0;have n1:=held f1;have n2:=held f2;have n3:=held f3;have s0:Below w4.heap.size w4 w4.drew:=brf.drew;replace hL0:=Hd hL0;clear CL hsR htR fu fv htr hdp hdq e0 e1 e2 e3 f0 f1 f2 f3;go_wp2;refine qb1 (S:=Below w4.heap.size w4) (.q 0 (.q 1 (.q 2 (.q 3 (.q 4 (.q 5 (.q 6 (.q 7 (.q 8 (.q 9 (.two 10 (.l 11 (.t 12 .nil)) 11 (.l 10 (.t 12 .nil))))))))))))) [12] (by kernel_rfl) (by kernel_rfl) (by kernel_rfl) (fun d _ _ _ _ h=>by cases d <;> exact h) s0 ?_
      iterate 10 (refine qcd rfl rfl fun K hK=>xq ?_;go_simp;refine hK _ _ ?_;clear hK K)
      refine qbp ?_ ?_
      ·
       skip
       refine qaq rfl rfl (fun K hK=>?_);go_simp;refine (CA.out _ (bth s4 s0)).mono ?_;rintro r w5 ⟨x,rfl,HK,hb5⟩;dsimp only;refine hK.out _ _ (bth s0 hb5) (fun _=>?_);clear hK K;have s5:Below w4.heap.size w4 w5:=bth s0 hb5;have sA:Below w4.heap.size w4 (w5.alloc (.cells #[.bool false,.slice none 0 0,.slice none 0 0] 51)):=s5.alloc s5.size _;refine qaq rfl rfl (fun K hK=>?_);go_simp;refine hK.out _ _ (sA) (fun _=>?_);clear hK K;have hzz:Blk (w5.alloc (.cells #[.bool false,.slice none 0 0,.slice none 0 0] 51)) w5.heap.size 51 #[.bool false,.slice none 0 0,.slice none 0 0]:=Blk.new w5 _ _;obtain ⟨z0,z1,z2⟩:=cq3 hzz;obtain ⟨x0,x1,x2⟩:=fq3 hzz;refine qgh rfl rfl (fun K hK=>?_);go_simp;refine hK.out _ _ ?_;clear hK K;refine qct ?_;replace HK:=Hd (show Kp (fun V=>QK 2001 V x (u.1+v.1)) w4.heap.size w5.heap.size w5 from HK)
       refine qab (fun W=>Blk W w5.heap.size 51 #[.bool x.neg,.slice x.a x.n x.c,.slice x.b x.m x.d]/\Kp (fun V=>QK 2001 V x (u.1+v.1)) w4.heap.size w5.heap.size W/\Below w4.heap.size w4 W) ⟨by ((with_reducible repeat first|assumption|(apply bF;focus omega)|apply bS|(apply bN;focus (simp;done))|apply bA|apply bD);all_goals rfl),by (with_reducible repeat first | exact HK.out | (refine Kp.setc ?_ ?_;focus omega) | refine Kp.alloc ?_ | refine Kp.drew ?_),s5.alloc s5.size _⟩ ?_;clear z0 z1 z2 x0 x1 x2 hzz sA hb5 s5 s0;rintro wz ⟨hg,HK,sz⟩;obtain ⟨g,hge⟩:∃ g,g=w5.heap.size:=⟨_,rfl⟩
       exact zz41
      ·
       skip
       have sA:Below w4.heap.size w4 (w4.alloc (.cells #[.bool false,.slice none 0 0,.slice none 0 0] 51)).drew:=(brf.alloc (nlr _) _).drew;refine qaq rfl rfl (fun K hK=>?_);go_simp;refine hK.out _ _ sA (fun _=>?_);clear hK K;refine qaq rfl rfl (fun K hK=>?_);go_simp;refine (CA.out _ (bth s4 sA)).mono ?_;rintro r w5 ⟨x,rfl,HK,hb5⟩;dsimp only;refine hK.out _ _ (bth sA hb5) (fun _=>?_);clear hK K;have s5:=bth sA hb5;have hle4:w4.heap.size<=w4.heap.size:=nlr _;have hzz:Blk w5 w4.heap.size 51 #[.bool false,.slice none 0 0,.slice none 0 0]:=(show Blk (w4.alloc (.cells #[.bool false,.slice none 0 0,.slice none 0 0] 51)).drew w4.heap.size 51 #[.bool false,.slice none 0 0,.slice none 0 0] from Blk.new w4 _ _).below' hb5;obtain ⟨z0,z1,z2⟩:=cq3 hzz;obtain ⟨x0,x1,x2⟩:=fq3 hzz;have hle:w4.heap.size<(w4.alloc (.cells #[.bool false,.slice none 0 0,.slice none 0 0] 51)).drew.heap.size:=by simp
       refine qgh rfl rfl (fun K hK=>?_);go_simp;refine hK.out _ _ ?_;clear hK K;refine qct ?_;replace HK:=Hd (Kp.broad (B':=w4.heap.size+1) HK (by simp) (nlr _));refine qab (fun W=>Blk W w4.heap.size 51 #[.bool x.neg,.slice x.a x.n x.c,.slice x.b x.m x.d]/\Kp (fun V=>QK 2001 V x (u.1+v.1)) (w4.heap.size+1) w5.heap.size W/\Below w4.heap.size w4 W) ⟨by ((with_reducible repeat first|assumption|(apply bF;focus omega)|apply bS|(apply bN;focus (simp;done))|apply bA|apply bD);all_goals rfl),by (with_reducible repeat first | exact HK.out | (refine Kp.setc ?_ ?_;focus omega) | refine Kp.alloc ?_ | refine Kp.drew ?_),(((s5.setCell hle4 _).setCell hle4 _).setCell hle4 _)⟩ ?_;clear z0 z1 z2 x0 x1 x2 hzz sA hle hle4 hb5 s5 s0;rintro wz ⟨hg,HK,sz⟩;obtain ⟨g,hge⟩:∃ g,g=w4.heap.size:=⟨_,rfl⟩
       exact zz41
   ·
    have ho3:=hout.out;have hqn:q.drop k=[]:=List.drop_eq_nil_of_le (by omega);rw [hqn,qdt,hdp.out] at ho3;replace ho3:=Hd ho3;replace hsr:=Hd hsr;replace hqn:=Hd hqn;have e0:=k0 wr sr;have e1:=k1 wr sr;have e2:=k2 wr sr;have e3:=k3 wr sr;clear k0 k1 k2 k3 hsR fu hout;have hb5:Below wr.heap.size wr (wr.alloc (.cells #[.bool s.x.neg,.slice s.x.a s.x.n s.x.c,.slice s.x.b s.x.m s.x.d,.slice s.a s.n s.c] 191)):=by go_grown
    have howc:=((ho.out.below sr).alloc (.cells #[.bool s.x.neg,.slice s.x.a s.x.n s.x.c,.slice s.x.b s.x.m s.x.d,.slice s.a s.n s.c] 191))
    have hel:TQ.At s (wr.alloc (.cells #[.bool s.x.neg,.slice s.x.a s.x.n s.x.c,.slice s.x.b s.x.m s.x.d,.slice s.a s.n s.c] 191)) wr.heap.size 0:=At.new;have hwoc:=bth hwr (bth sr hb5);replace howc:=Hd howc;replace hel:=Hd hel;go_wp2_with (at_builtin;go_must (refine qcz (B:=wo.heap.size) rfl (.tmp 70) (.tmp 75) 92 rfl Tryz.underlying92 ra rc rfl howc.out s wr.heap.size 1 rfl hel.out (lo++[s]) rfl (by have:=hll.out;simp;omega) (by have:=hwoc.size;simpa using this) ?_);intro ra2 rc2 w6 ho6 hg6 ha6);have hA6:=qcw hA.out sr hb5 ((hsr.out.call sr).call hb5) hg6 ha6;have hwo6:Below wo.heap.size wo w6:=qak hwoc howc.out hg6;replace ho6:=Hd ho6;replace hA6:=Hd hA6;clear hg6 ha6 howc hel hb5 hwoc;go_wp2;go_roundg (gk-1)
    case rel=>exact ⟨i+1,k,lo++[s],po++[u],ra2,rc2,by have:=hm.out;show _=_;omega,by omega,by omega,by simp,by go_num,rfl,ho6.out,hA6.out,hwo6,by rw [hqn.out,qdt,<- ho3.out];show _=_;simp,by have:=hll.out;show _<=_;simp;omega⟩
    case measure=>have:=hm.out;omega
  ·
   have hpn:p.drop i=[]:=List.drop_eq_nil_of_le (by omega);have hie:((i:Int)==(p.length:Int))=true:=by simp;omega
   by_cases h2:k<q.length
   ·
    obtain ⟨v,hv⟩:=qac h2;obtain ⟨b2,o2,t,rfl,ht,htR⟩:=HQ.out.get hv;have htr:=qcs htR hro.out hwr;obtain ⟨d0,d1,d2,d3⟩:=ht;have e0:=held d0 wr hwr;have e1:=held d1 wr hwr;have e2:=held d2 wr hwr;have e3:=held d3 wr hwr;have hdq:=Hd (qdd hv);have ho3:=hout.out;rw [hpn,qcq,hdq.out] at ho3;replace ho3:=Hd ho3;replace htr:=Hd htr;replace hpn:=Hd hpn;clear hv d0 d1 d2 d3 hout htR;have hb5:Below wr.heap.size wr (wr.alloc (.cells #[.bool t.x.neg,.slice t.x.a t.x.n t.x.c,.slice t.x.b t.x.m t.x.d,.slice t.a t.n t.c] 191)):=by go_grown
    have howc:=((ho.out.below sr).alloc (.cells #[.bool t.x.neg,.slice t.x.a t.x.n t.x.c,.slice t.x.b t.x.m t.x.d,.slice t.a t.n t.c] 191))
    have hel:TQ.At t (wr.alloc (.cells #[.bool t.x.neg,.slice t.x.a t.x.n t.x.c,.slice t.x.b t.x.m t.x.d,.slice t.a t.n t.c] 191)) wr.heap.size 0:=At.new;have hwoc:=bth hwr (bth sr hb5);replace howc:=Hd howc;replace hel:=Hd hel;go_wp2_with (at_builtin;go_must (refine qcz (B:=wo.heap.size) rfl (.tmp 82) (.tmp 87) 92 rfl Tryz.underlying92 ra rc rfl howc.out t wr.heap.size 1 rfl hel.out (lo++[t]) rfl (by have:=hll.out;simp;omega) (by have:=hwoc.size;simpa using this) ?_);intro ra2 rc2 w6 ho6 hg6 ha6);have hA6:=qcw hA.out sr hb5 ((htr.out.call sr).call hb5) hg6 ha6;have hwo6:Below wo.heap.size wo w6:=qak hwoc howc.out hg6;replace ho6:=Hd ho6;replace hA6:=Hd hA6;clear hg6 ha6 howc hel hb5 hwoc;go_wp2;go_roundg (gk-1)
    case rel=>exact ⟨i,k+1,lo++[t],po++[v],ra2,rc2,by have:=hm.out;show _=_;omega,by omega,by omega,by simp,rfl,by go_num,ho6.out,hA6.out,hwo6,by rw [hpn.out,qcq,<- ho3.out];show _=_;simp,by have:=hll.out;show _<=_;simp;omega⟩
    case measure=>have:=hm.out;omega
   ·
    have ho3:=hout.out;rw [hpn,qcq,List.drop_eq_nil_of_le (by omega),List.append_nil] at ho3;subst ho3;have hP:=ho.out.pol hA.out HX.out;have hRl:=hA.out.1;replace hP:=Hd hP;replace hRl:=Hd hRl;clear hA hout hpn HR;go_wp2;go_ret;exact ⟨ra,rc,by rw [<- hRl.out];rfl,hP.out,hwr⟩
end Go.Proofs.YtfaalkneigpcnaaGreatDoor
