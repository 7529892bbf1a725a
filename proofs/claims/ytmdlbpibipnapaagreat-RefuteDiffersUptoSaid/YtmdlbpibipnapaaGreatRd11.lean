/- Walks: the sign of a number by handle; terms: their order, their sum. -/
import Derived.Test.YtmdlbpibipnapaaGreatRd10
import Derived.Test.YtmdlbpibipnapaaGreatRd5
import Derived.Test.YtmdlbpibipnapaaGreatRd6
import Derived.Test.YtmdlbpibipnapaaGreatRd2
import Derived.Test.YtmdlbpibipnapaaGreatRd3
import Derived.Deep.Upon
import Derived.Test.YtmdlbpibipnapaaGreatRd8
import Derived.Test.YtmdlbpibipnapaaGreatRd9
import Derived.Test.YtmdlbpibipnapaaGreatRd1
set_option linter.all false
set_option maxRecDepth 100000
set_option maxHeartbeats 4000000
namespace Go.Proofs.YtmdlbpibipnapaaGreat
open Go.RowKit
def QK (k:Nat) (w:World) (x:QA) (q:Rat):Prop:=QAc w x q/\qsz q<=k
theorem QK.ext {k:Nat} {w w':World} {x:QA} {q:Rat} (h:QK k w x q) (e:Ext w w'):QK k w' x q:=⟨h.1.ext e,h.2⟩
def RetQK (k:Nat) (q:Rat) (w:World) (e:Ending) (w':World):Prop:=∃ x:QA,e=.returned (.agg #[.bool x.neg,.slice x.a x.n x.c,.slice x.b x.m x.d])/\Kp (fun V=>QK k V x q) w.heap.size w'.heap.size w'/\Below w.heap.size w w'
theorem qdl {k:Nat} {q:Rat} {w:World} {e:Ending} {w':World} (hk:qsz q<=k) (h:RetF (trip q) w e w'):RetQK k q w e w':=by
 obtain ⟨na,nc,da,dc,rfl,h1,h2,hb⟩:=h;exact ⟨⟨decide (q.num<0),(limbs q.num.natAbs).length,na,nc,(limbs q.den).length,da,dc⟩,rfl,Kp.made fun V hV=>⟨⟨rfl,rfl,rfl,h1 V hV,h2 V hV⟩,hk⟩,hb⟩
theorem qac6 (x y:QA) (p q:Rat) (k1 k2:Nat) (w:World) (H1:QK k1 w x p) (H2:QK k2 w y q) (h1:k1<=100000) (h2:k2<=100000):Calls Tryz.prog 9 #[.agg #[.bool x.neg,.slice x.a x.n x.c,.slice x.b x.m x.d],.agg #[.bool y.neg,.slice y.a y.n y.c,.slice y.b y.m y.d]] w fun e w'=>e=.returned (.int .i64 (cmpQ p q))/\Below w.heap.size w w':=by
 obtain ⟨s1,n1,a1,c1,m1,b1,d1⟩:=x;obtain ⟨s2,n2,a2,c2,m2,b2,d2⟩:=y;obtain ⟨⟨e1,e2,e3,r1,r2⟩,z1⟩:=H1;obtain ⟨⟨e4,e5,e6,r3,r4⟩,z2⟩:=H2;dsimp only at e1 e2 e3 e4 e5 e6 r1 r2 r3 r4 ⊢;subst e1 e2 e3 e4 e5 e6;have l1:=qbs p;have l2:=qbq p;have l3:=qbs q;have l4:=qbq q;have:=qv9 (decide (p.num<0)) (decide (q.num<0)) (limbs p.num.natAbs) (limbs p.den) (limbs q.num.natAbs) (limbs q.den) p.num.natAbs p.den q.num.natAbs q.den a1 b1 a2 b2 c1 d1 c2 d2 w r1 r2 r3 r4 (qac _) (qac _) (qac _) (qac _) oo oo oo oo
 rwa [ql6,qcg,qcg] at this
theorem add_q (x y:QA) (p q:Rat) (k1 k2:Nat) (w:World) (H1:QK k1 w x p) (H2:QK k2 w y q) (h1:k1<=100000) (h2:k2<=100000):Calls Tryz.prog 179 #[.agg #[.bool x.neg,.slice x.a x.n x.c,.slice x.b x.m x.d],.agg #[.bool y.neg,.slice y.a y.n y.c,.slice y.b y.m y.d]] w (RetQK (k1+k2+1) (p+q) w):=by
 have hs:=qre p q;have g1:=H1.2;have g2:=H2.2;obtain ⟨s1,n1,a1,c1,m1,b1,d1⟩:=x;obtain ⟨s2,n2,a2,c2,m2,b2,d2⟩:=y;obtain ⟨⟨e1,e2,e3,r1,r2⟩,z1⟩:=H1;obtain ⟨⟨e4,e5,e6,r3,r4⟩,z2⟩:=H2;dsimp only at e1 e2 e3 e4 e5 e6 r1 r2 r3 r4 ⊢;subst e1 e2 e3 e4 e5 e6;have l1:=qbs p;have l2:=qbq p;have l3:=qbs q;have l4:=qbq q;have:=qxw (decide (p.num<0)) (decide (q.num<0)) p.num.natAbs p.den q.num.natAbs q.den a1 b1 a2 b2 c1 d1 c2 d2 w r1 r2 r3 r4 p.den_nz q.den_nz oo oo oo oo;rw [qcg,qcg] at this;exact this.mono fun _ _ h=>qdl oo h
theorem qad8 (x y:QA) (p q:Rat) (k1 k2:Nat) (w:World) (H1:QK k1 w x p) (H2:QK k2 w y q) (h1:k1<=100000) (h2:k2<=100000):Calls Tryz.prog 142 #[.agg #[.bool x.neg,.slice x.a x.n x.c,.slice x.b x.m x.d],.agg #[.bool y.neg,.slice y.a y.n y.c,.slice y.b y.m y.d]] w (RetQK (k1+k2+1) (p+q) w):=by
 have hs:=qre p q;have g1:=H1.2;have g2:=H2.2;obtain ⟨s1,n1,a1,c1,m1,b1,d1⟩:=x;obtain ⟨s2,n2,a2,c2,m2,b2,d2⟩:=y;obtain ⟨⟨e1,e2,e3,r1,r2⟩,z1⟩:=H1;obtain ⟨⟨e4,e5,e6,r3,r4⟩,z2⟩:=H2;dsimp only at e1 e2 e3 e4 e5 e6 r1 r2 r3 r4 ⊢;subst e1 e2 e3 e4 e5 e6;have l1:=qbs p;have l2:=qbq p;have l3:=qbs q;have l4:=qbq q;have:=qw4 (decide (p.num<0)) (decide (q.num<0)) p.num.natAbs p.den q.num.natAbs q.den a1 b1 a2 b2 c1 d1 c2 d2 w r1 r2 r3 r4 p.den_nz q.den_nz oo oo oo oo;rw [qcg,qcg] at this;exact this.mono fun _ _ h=>qdl oo h
theorem mul_q (x y:QA) (p q:Rat) (k1 k2:Nat) (w:World) (H1:QK k1 w x p) (H2:QK k2 w y q) (h1:k1<=100000) (h2:k2<=100000):Calls Tryz.prog 180 #[.agg #[.bool x.neg,.slice x.a x.n x.c,.slice x.b x.m x.d],.agg #[.bool y.neg,.slice y.a y.n y.c,.slice y.b y.m y.d]] w (RetQK (k1+k2) (p*q) w):=by
 have hs:=qrj p q;have g1:=H1.2;have g2:=H2.2;obtain ⟨s1,n1,a1,c1,m1,b1,d1⟩:=x;obtain ⟨s2,n2,a2,c2,m2,b2,d2⟩:=y;obtain ⟨⟨e1,e2,e3,r1,r2⟩,z1⟩:=H1;obtain ⟨⟨e4,e5,e6,r3,r4⟩,z2⟩:=H2;dsimp only at e1 e2 e3 e4 e5 e6 r1 r2 r3 r4 ⊢;subst e1 e2 e3 e4 e5 e6;have l1:=qbs p;have l2:=qbq p;have l3:=qbs q;have l4:=qbq q;have:=qyo (decide (p.num<0)) (decide (q.num<0)) p.num.natAbs p.den q.num.natAbs q.den a1 b1 a2 b2 c1 d1 c2 d2 w r1 r2 r3 r4 p.den_nz q.den_nz oo oo oo oo;rw [qcb,qwq,qcg,qcg] at this;exact this.mono fun _ _ h=>qdl oo h
theorem quu (x y:QA) (p q:Rat) (k1 k2:Nat) (w:World) (H1:QK k1 w x p) (H2:QK k2 w y q) (h1:k1<=100000) (h2:k2<=100000):Calls Tryz.prog 145 #[.agg #[.bool x.neg,.slice x.a x.n x.c,.slice x.b x.m x.d],.agg #[.bool y.neg,.slice y.a y.n y.c,.slice y.b y.m y.d]] w (RetQK (k1+k2) (p*q) w):=by
 have hs:=qrj p q;have g1:=H1.2;have g2:=H2.2;obtain ⟨s1,n1,a1,c1,m1,b1,d1⟩:=x;obtain ⟨s2,n2,a2,c2,m2,b2,d2⟩:=y;obtain ⟨⟨e1,e2,e3,r1,r2⟩,z1⟩:=H1;obtain ⟨⟨e4,e5,e6,r3,r4⟩,z2⟩:=H2;dsimp only at e1 e2 e3 e4 e5 e6 r1 r2 r3 r4 ⊢;subst e1 e2 e3 e4 e5 e6;have l1:=qbs p;have l2:=qbq p;have l3:=qbs q;have l4:=qbq q;have:=qud (decide (p.num<0)) (decide (q.num<0)) p.num.natAbs p.den q.num.natAbs q.den a1 b1 a2 b2 c1 d1 c2 d2 w r1 r2 r3 r4 p.den_nz q.den_nz oo oo oo oo;rw [qcb,qwq,qcg,qcg] at this;exact this.mono fun _ _ h=>qdl oo h
theorem qti (neg:Bool) (l m:List Int) (n:Nat) (a a':Option Addr) (c c':Nat) (w:World) (h:NatR w a c l) (h':NatR w a' c' m) (hn:val l=n) (h0:val m≠0) (hl:l.length<=2000000) (hm:m.length<=2000000) :
  Calls Tryz.prog 143 #[.agg #[.bool neg,.slice a l.length c,.slice a' m.length c']] w fun e w'=>e=.returned (.int .i64 (sgnZ neg n))/\Below w.heap.size w w':=by
 have CN:=fun W (hW:bw w W)=>qd6 neg l m n (val m) a a' c c' W (h.ext (xbw hW)) (h'.ext (xbw hW)) hn rfl hl hm
 have hs:=qs1 neg n (val m) h0;have q1:=qah h.u16;rw [hn] at q1;have r1:=qap (qcj neg n (val m));obtain ⟨t,ht⟩:=nm (qak neg n (val m))
 rw [ht] at CN hs r1;obtain ⟨s,N,D⟩:=t;unfold RetF at CN;dsimp only at CN hs r1;have CS:=fun b cb W (hV:NatR W b cb (limbs N))=>qsp s (limbs N) N b cb W hV (qac _) oo
 rw [hs] at CS;obtain ⟨R,hR⟩:=nm (sgnZ neg n)
 rw [hR] at CS ⊢;replace CN:=Hd CN;replace CS:=Hd CS;have hz:Blk (w.alloc (.cells #[.bool neg,.slice a l.length c,.slice a' m.length c'] 32)) w.heap.size 32 #[.bool neg,.slice a l.length c,.slice a' m.length c']:=Blk.new w _ _;have hb0:Below w.heap.size w (w.alloc (.cells #[.bool neg,.slice a l.length c,.slice a' m.length c'] 32)):=brf.alloc (nlr _) _;have hfl:=fun a1 a2 c1 c2 W=>qaa3 s a1 (limbs N).length c1 a2 (limbs D).length c2 W
 clear h h' hn h0 hR ht hs r1 q1;go_enter Tryz.func143,Tryz.ntmps143;go_wp2_with fail;revert hz hb0;generalize w.alloc (.cells #[.bool neg,.slice a l.length c,.slice a' m.length c'] 32)=w0;intro hz hb0;obtain ⟨z0,z1,z2⟩:=cq3 hz;go_wp2_with fail;refine (CN.out _ hb0).mono ?_;rintro e w1 ⟨a1,c1,a2,c2,rfl,hV1,hV2,hb1⟩;have hw1:=bth hb0 hb1;have CS1:=CS.out a1 c1 w1 (hV1 w1 (New.refl _ _));replace CS1:=Hd CS1;have hf:=hfl a1 a2 c1 c2 w1;clear hV1 hV2 hb1 z0 z1 z2 hz hb0 hfl;go_wp2_with fail;refine CS1.out.mono ?_;rintro e w2 ⟨rfl,hb2⟩;go_wp2;go_ret;exact ⟨rfl,bth hw1 hb2⟩
def qea (acc:List Nat) (j:Nat):Nat:=if j<acc.length then acc.getD (acc.length-1-j) 0 else 0
def qgp (md:Region.Mode) (acc:List Nat) (o:Oper):Nat:=o.after.toList.foldl (fun m e=>if Region.binds md e then m ||| (2 ^ e.on ||| qea acc e.on) else m) 0
def goM (md:Region.Mode) (k:List Nat->Bool):List Oper->List Nat->Bool
 | [],acc=>k acc
 | o :: r,acc=>match qgp md acc o with
  | 0=>goM md k r (0 :: acc)
  | m+1=>goM md k r ((m+1) :: acc)
def qlg (md:Region.Mode) (ops:Array Oper) (l:List (Nat × Mode4)):Bool :=
 goM md (fun acc=>l.all fun x=>match x.2 with
  | .q=>l.all fun y=>!y.2.tail||(qea acc y.1).testBit x.1
  | _=>true) ops.toList []
def GoodM (md:Region.Mode) (ops:Array Oper) (acc:List Nat):Prop:=∀ j i,(qea acc j).testBit i=true->∀ n,j<n->dep md ops n j i=true
theorem qn0 {md:Region.Mode} {acc:List Nat} {i:Nat}:∀ (l:List Edge) (m:Nat),(l.foldl (fun m e=>if Region.binds md e then m ||| (2 ^ e.on ||| qea acc e.on) else m) m).testBit i=true ->
  m.testBit i=true\/∃ e∈l,Region.binds md e=true/\(e.on=i\/(qea acc e.on).testBit i=true)
 | [],m,h=>.inl h
 | e :: l,m,h=>by
  rw [List.foldl_cons] at h;rcases qn0 l _ h with h1 | ⟨e',he,h2⟩
  ·
   by_cases hb:Region.binds md e=true
   ·
    rw [if_pos hb,Nat.testBit_or,Bool.or_eq_true] at h1;rcases h1 with h1 | h1
    · exact .inl h1
    ·
     rw [Nat.testBit_or,Bool.or_eq_true] at h1;refine .inr ⟨e,by simp,hb,?_⟩;rcases h1 with h1 | h1
     · left;rw [Nat.testBit_two_pow] at h1;simpa using h1
     · exact .inr h1
   ·
    rw [if_neg hb] at h1;exact .inl h1
  · exact .inr ⟨e',by simp [he],h2⟩
theorem GoodM.step {md:Region.Mode} {ops:Array Oper} {acc:List Nat} {o:Oper} (h:GoodM md ops acc) (ho:ops[acc.length]? = some o):GoodM md ops (qgp md acc o :: acc):=by
 intro j i hj n hn;unfold qea at hj
 split at hj
 ·
  next hlt =>
  rw [List.length_cons] at hlt;by_cases hje:j=acc.length
  ·
   subst hje;have:(qgp md acc o :: acc).getD ((qgp md acc o :: acc).length-1-acc.length) 0=qgp md acc o:=by simp
   rw [this] at hj;rcases qn0 _ _ hj with h1 | ⟨e,he,hb,h1⟩
   · simp at h1
   ·
    cases n with
    | zero=>omega
    | succ n =>
     unfold dep;rw [ho];dsimp only;rw [Array.any_eq_true'];refine ⟨e,by simpa using he,?_⟩;rw [hb,Bool.true_and,Bool.or_eq_true];rcases h1 with h1 | h1
     · left;simpa using h1
     ·
      right;have hlt2:e.on<acc.length:=by
       unfold qea at h1
       split at h1
       · assumption
       · simp at h1
      exact h _ _ h1 n oo
  ·
   have:(qgp md acc o :: acc).getD ((qgp md acc o :: acc).length-1-j) 0=qea acc j:=by
    unfold qea;rw [if_pos oo,List.length_cons,show acc.length+1-1-j=(acc.length-1-j)+1 by omega,List.getD_cons_succ]
   rw [this] at hj;exact h _ _ hj n hn
 · simp at hj
theorem qj6 {md:Region.Mode} {ops:Array Oper} {k:List Nat->Bool}:∀ (r:List Oper) (acc:List Nat),GoodM md ops acc->(∀ j,r[j]? = ops[acc.length+j]?)->goM md k r acc=true ->
  ∃ acc',GoodM md ops acc'/\k acc'=true
 | [],acc,hg,_,h=>⟨acc,hg,h⟩
 | o :: r,acc,hg,hr,h=>by
  have ho:ops[acc.length]? = some o:=by have:=hr 0;simpa using this.symm
  have hs:=hg.step ho;unfold goM at h;have hr':∀ j,r[j]? = ops[acc.length+1+j]?:=fun j=>by have:=hr (j+1);rw [List.getElem?_cons_succ] at this;rw [this];congr 1;omega
  split at h
  ·
   next hm =>
   rw [hm] at hs;exact qj6 r _ hs hr' h
  ·
   next m hm =>
   rw [hm] at hs;exact qj6 r _ hs hr' h
theorem qp0 {md:Region.Mode} {ops:Array Oper} {l:List (Nat × Mode4)} (hd:decide (l.map (·.1)).Nodup=true) (hin:(l.all fun x=>decide (x.1<ops.size))=true) (h:qlg md ops l=true):qhv md ops l=true:=by
 obtain ⟨acc,hg,hk⟩:=qj6 (ops:=ops) ops.toList [] (fun j i hj=>by simp [qea] at hj) (fun j=>by simp) h;unfold qhv;rw [hd,Bool.true_and,List.all_eq_true];rw [List.all_eq_true] at hk hin;intro x hx;have h1:=hk x hx;obtain ⟨xi,xm⟩:=x
 cases xm with
 | q =>
  dsimp only at h1 ⊢;rw [List.all_eq_true] at h1 ⊢;intro y hy;have h2:=h1 y hy;rw [Bool.or_eq_true] at h2 ⊢;rcases h2 with h2 | h2
  · exact .inl h2
  · exact .inr (hg _ _ h2 _ (by simpa using hin y hy))
 | p=>rfl
 | l=>rfl
 | t=>rfl
section
variable {P : Program} {ops : Array Oper} {Q : Exit -> Act -> World -> Prop} {S : World -> Prop}
theorem qhu {id:Nat} {a:Act} {w:World} (l:List (Nat × Mode4)) (hm:P.follows .mixedOrders=true) (hs:Region.noSelect ops=true)
  (hB:((l.length==ops.size&&(decide (l.map (·.1)).Nodup&&l.all fun x=>decide (x.1<ops.size)))&&(qlg .any ops l&&(lateB l false&&mixB .any ops l (Array.replicate ops.size false))))=true)
  (hQ:∀ d v c a w,Q (.panic c) (a.put d v) w->Q (.panic c) a w) (hS:S w.drew) (h:wpMix P ops Q S l a w.drew):(Code.region id ops true).wp P Q a w:=by
 simp only [Bool.and_eq_true] at hB;obtain ⟨⟨h1,h2,h3⟩,h4,h5,h6⟩:=hB;refine qim l hm hs ?_ hQ hS h;rw [h1,qp0 h2 h3 h4,h5,h6];rfl
end
section
variable {P : Program} {ops : Array Oper} {Q : Exit -> Act -> World -> Prop} {S : World -> Prop}
theorem wrM {id:Nat} {a:Act} {w:World} (l:List (Nat × Mode4)) (hS:S w.drew) (h:wpMix P ops Q S l a w.drew) (hm:P.follows .mixedOrders=true:=by kernel_rfl) (hs:Region.noSelect ops=true:=by kernel_rfl)
 (hB:((l.length==ops.size&&(decide (l.map (·.1)).Nodup&&l.all fun x=>decide (x.1<ops.size)))&&(qlg .any ops l&&(lateB l false&&mixB .any ops l (Array.replicate ops.size false))))=true:=by kernel_rfl) (hQ:∀ d v c a w,Q (.panic c) (a.put d v) w->Q (.panic c) a w:=by (intro d _ _ _ _ h;cases d <;> exact h)):(Code.region id ops true).wp P Q a w:=qhu l hm hs hB hQ hS h
end
theorem qsv (neg:Bool) (num:List Int) (a:Option Addr) (c:Nat) (w:World) (h:NatR w a c num) :
  Calls Tryz.prog 173 #[.agg #[.bool neg,.slice a num.length c]] w fun e w'=>e=.returned (.bool (qcv neg num))/\Below w.heap.size w w':=by
 have hlen:=h.len;have hu:=h.u16;have hb0:Below w.heap.size w (w.alloc (.cells #[.bool neg,.slice a num.length c] 30)):=brf.alloc (nlr _) _;by_cases h0:num.length=0
 ·
  obtain rfl:num=[]:=List.length_eq_zero_iff.1 h0;have hr:qcv neg [] = !neg:=by simp [qcv,qch,val,qao]
  rw [hr];clear h hu h0 hr
  cases neg
  all_goals
   go_enter Tryz.func173,Tryz.ntmps173;go_wp2;go_ret;exact ⟨rfl,hb0⟩
 ·
  obtain ⟨x,hx⟩:=qab (xs:=num) (k:=num.length-1) oo;obtain ⟨b,off,rfl,hc⟩:=h.cell hx;have hcan:=qhe hu hx oo;have hr:qcv neg num = !(x==0):=by
   unfold qcv;rw [hcan];simp [h0]
  rw [hr];have hk:=held hc;have hbl:b<w.heap.size:=by have:=World.block_lt_of_cell? w _ hc;simpa using this
  have hbl2:b<w.heap.size+1:=oo
  have hi1:(0:Int)<=(num.length:Int)-1:=oo
  have hti:((num.length:Int)-1).toNat=num.length-1:=oo
  have hgt:decide (0<num.length)=true:=by rw [decide_eq_true_eq];omega
  have hgt2:decide ((0:Int)<(num.length:Int))=true:=by rw [decide_eq_true_eq];omega
  have he:((num.length:Int)==0)=false:=by rw [beq_eq_false_iff_ne];omega
  clear h hu hx hc hcan hr;by_cases hx0:x=0
  ·
   subst hx0;go_enter Tryz.func173,Tryz.ntmps173;go_wp2;go_ret;exact ⟨rfl,hb0⟩
  ·
   have hxb:(x==0)=false:=by simpa using hx0
   have hxn:(x != 0)=true:=by simpa using hx0
   rw [hxb];clear hx0;go_enter Tryz.func173,Tryz.ntmps173;go_wp2;go_ret;exact ⟨rfl,hb0⟩
theorem qpt {neg:Bool} {num den:List Int} (hI:qcv neg num=true) (hc:qch den=true) (h0:0<den.length) (h1:decide (den.length=1/\qag den 0=1)=true):Rt.right ⟨neg,num,den⟩=true:=by
 rw [decide_eq_true_eq] at h1;obtain ⟨h1,h2⟩:=h1
 match den,h1 with
 | [x],_ =>
  simp [qag] at h2;subst h2;simp [Rt.right,hI,hc,val]
theorem qpm {neg:Bool} {num den:List Int} (hI:qcv neg num=true) (hc:qch den=true) (h0:0<den.length):Rt.right ⟨neg,num,den⟩=decide (Nat.gcd (val num) (val den)=1):=by
 simp [Rt.right,hI,hc,h0]
theorem zz28 {P:Prop} (h:P:=by
 go_enter Tryz.func149,Tryz.ntmps149;go_wp2_with fail;refine (CR.out _ hw0).mono ?_;rintro e w1 ⟨rfl,hb⟩;have hw1:=bth hw0 hb;go_wp2;go_ret;exact ⟨rfl,hw1⟩
 ):P:=h
theorem qk1 (r:Rt) (na:Option Addr) (nc:Nat) (da:Option Addr) (dc:Nat) (w:World) (h:NatR w na nc r.num) (h':NatR w da dc r.den) (hl:r.num.length<=2000000) (hm:r.den.length<=2000000) :
  Calls Tryz.prog 149 #[r.val na nc da dc] w fun e w'=>e=.returned (.bool r.right)/\Below w.heap.size w w':=by
 obtain ⟨neg,num,den⟩:=r;have CR:=fun W (hW:bw w W)=>qsv neg num na nc W (h.ext (xbw hW))
 have CO:=fun W (hW:bw w W)=>qek den da dc W (h'.ext (xbw hW))
 have CG:=fun W (hW:bw w W)=>ql8 num den (val num) (val den) na da nc dc W (h.ext (xbw hW)) (h'.ext (xbw hW)) rfl rfl hl hm
 have CO2:=fun n a c W=>qek (limbs n) a c W
 simp only [qdz] at CO2;unfold Rt.val;dsimp only;dsimp only at hl hm;obtain ⟨res,hres⟩:∃ q,Rt.right ⟨neg,num,den⟩=q:=⟨_,rfl⟩
 rw [hres];obtain ⟨b1,hb1⟩:=nm (qcv neg num)
 rw [hb1] at CR;replace CR:=Hd CR;replace CO:=Hd CO;replace CG:=Hd CG;replace CO2:=Hd CO2;have hw0:Below w.heap.size w (w.alloc (.cells #[.bool neg,.slice na num.length nc,.slice da den.length dc] 32)):=brf.alloc (nlr _) _;have hz:Blk (w.alloc (.cells #[.bool neg,.slice na num.length nc,.slice da den.length dc] 32)) w.heap.size 32 #[.bool neg,.slice na num.length nc,.slice da den.length dc]:=Blk.new w _ _
 cases b1
 ·
  have hr:res=false:=by rw [<- hres];simp [Rt.right,hb1]
  subst hr;clear hres hb1 h h' hz;exact zz28
 ·
  by_cases h0:den.length=0
  ·
   have hr:res=false:=by rw [<- hres];simp [Rt.right,h0]
   subst hr;obtain rfl:den=[]:=List.length_eq_zero_iff.1 h0;clear hres hb1 h h' hz h0;exact zz28
  ·
   obtain ⟨x,hx⟩:=qab (xs:=den) (k:=den.length-1) oo;obtain ⟨b,off,rfl,hc⟩:=h'.cell hx;have hcan:=qhe (l:=den) h'.u16 hx oo;have hk:=held hc;have hi1:(0:Int)<=(den.length:Int)-1:=oo
   have hti:((den.length:Int)-1).toNat=den.length-1:=oo
   have hdl:(den.length:Int)<=2000000:=oo
   have he:((den.length:Int)==0)=false:=by rw [beq_eq_false_iff_ne];omega
   by_cases hx0:x=0
   ·
    subst hx0;have hr:res=false:=by rw [<- hres];simp [Rt.right,hcan]
    subst hr;clear hres hb1 h h' hx hc hcan h0;go_enter Tryz.func149,Tryz.ntmps149;go_wp2_with fail;revert hw0 hz;generalize w.alloc (.cells #[.bool neg,.slice na num.length nc,.slice (some ⟨b,off,none⟩) den.length dc] 32)=w0;intro hw0 hz;refine (CR.out _ hw0).mono ?_;rintro e w1 ⟨rfl,hb⟩;have hw1:=bth hw0 hb;have hz1:=hz.below' hb;have z1:=hz1.cell 1;have z2:=hz1.cell 2;have z0:=hz1.cell 0;have k1:=hk _ hw1;clear hb hz hw0;go_wp2;go_ret;exact ⟨rfl,hw1⟩
   ·
    have hxb:(x==0)=false:=by simpa using hx0
    have hcan2:qch den=true:=by rw [hcan,hxb];rfl
    obtain ⟨bo,hbo⟩:=nm (decide (den.length=1/\qag den 0=1))
    rw [hbo] at CO;have HRES:=Hd hres;have HB1:=Hd hb1;have HC:=Hd hcan2;have HBO:=Hd hbo;have H0:=Hd h0;clear hres hb1 h h' hx hc hcan hcan2 hbo h0 hx0
    cases bo
    ·
     obtain ⟨g,hg⟩:=nm (Nat.gcd (val num) (val den))
     have hr:decide (g=1)=res:=by rw [<- HRES.out,qpm HB1.out HC.out (by have:=H0.out;omega)];simp only [hg]
     rw [hg] at CG;have CO3:=CO2.out g;rw [hr] at CO3;replace CO3:=Hd CO3;clear hg hr CO2;go_enter Tryz.func149,Tryz.ntmps149;go_wp2_with fail;revert hw0 hz;generalize w.alloc (.cells #[.bool neg,.slice na num.length nc,.slice (some ⟨b,off,none⟩) den.length dc] 32)=w0;intro hw0 hz;refine (CR.out _ hw0).mono ?_;rintro e w1 ⟨rfl,hb⟩;have hw1:=bth hw0 hb;have hz1:=hz.below' hb;have z1:=hz1.cell 1;have z2:=hz1.cell 2;have z0:=hz1.cell 0;have k1:=hk _ hw1;clear hb hz hw0;go_wp2_with fail;refine (CO.out _ hw1).mono ?_;rintro e w2 ⟨rfl,hb⟩;have hw2:=bth hw1 hb;have hz2:=hz1.below' hb;have y1:=hz2.cell 1;have y2:=hz2.cell 2;have y0:=hz2.cell 0;clear hb hz1 hw1 z0 z1 z2 k1;go_wp2_with fail;refine (CG.out _ hw2).mono ?_;rintro e w3 ⟨a3,c3,rfl,hV,hb⟩;have hw3:=bth hw2 hb;have hrd:=hV w3 (New.refl _ _);clear hb hV y0 y1 y2;go_wp2_with fail;refine (CO3.out _ _ _ hrd).mono ?_;rintro e w4 ⟨rfl,hb⟩
     have hw4:=bth hw3 hb;clear hrd hb;go_wp2;go_ret;exact ⟨rfl,hw4⟩
    ·
     have hr:res=true:=by rw [<- HRES.out];exact qpt HB1.out HC.out (by have:=H0.out;omega) HBO.out
     subst hr;go_enter Tryz.func149,Tryz.ntmps149;go_wp2_with fail;revert hw0 hz;generalize w.alloc (.cells #[.bool neg,.slice na num.length nc,.slice (some ⟨b,off,none⟩) den.length dc] 32)=w0;intro hw0 hz;refine (CR.out _ hw0).mono ?_;rintro e w1 ⟨rfl,hb⟩;have hw1:=bth hw0 hb;have hz1:=hz.below' hb;have z1:=hz1.cell 1;have z2:=hz1.cell 2;have z0:=hz1.cell 0;have k1:=hk _ hw1;clear hb hz hw0;go_wp2_with fail;refine (CO.out _ hw1).mono ?_;rintro e w2 ⟨rfl,hb⟩;have hw2:=bth hw1 hb;go_wp2;go_ret;exact ⟨rfl,hw2⟩
theorem qzw (s t:Trm) (p q:RA) (w:World) (h:IntsR w p.aa p.ac s.mono) (h':IntsR w q.aa q.ac t.mono) :
  Calls Tryz.prog 158 #[s.val p,t.val q] w fun e w'=>e=.returned (.int .i64 (lexI s.mono t.mono))/\Below w.heap.size w w':=by
 have CC:=fun W (hW:bw w W)=>qux s.mono t.mono p.aa q.aa p.ac q.ac W (h.ext (xbw hW)) (h'.ext (xbw hW))
 revert CC;generalize lexI s.mono t.mono=R;intro CC;replace CC:=Hd CC;unfold Trm.val;have hx:Blk ((w.alloc (.cells #[.bool s.coef.neg,.slice p.na s.coef.num.length p.nc,.slice p.da s.coef.den.length p.dc,.slice p.aa s.mono.length p.ac] 193)).alloc (.cells #[.bool t.coef.neg,.slice q.na t.coef.num.length q.nc,.slice q.da t.coef.den.length q.dc,.slice q.aa t.mono.length q.ac] 193)) w.heap.size 193 #[.bool s.coef.neg,.slice p.na s.coef.num.length p.nc,.slice p.da s.coef.den.length p.dc,.slice p.aa s.mono.length p.ac]:=(Blk.new w _ _).alloc _
 have hy:Blk ((w.alloc (.cells #[.bool s.coef.neg,.slice p.na s.coef.num.length p.nc,.slice p.da s.coef.den.length p.dc,.slice p.aa s.mono.length p.ac] 193)).alloc (.cells #[.bool t.coef.neg,.slice q.na t.coef.num.length q.nc,.slice q.da t.coef.den.length q.dc,.slice q.aa t.mono.length q.ac] 193)) (w.heap.size+1) 193 #[.bool t.coef.neg,.slice q.na t.coef.num.length q.nc,.slice q.da t.coef.den.length q.dc,.slice q.aa t.mono.length q.ac]:=qa5 w _ _ _;have hb0:Below w.heap.size w ((w.alloc (.cells #[.bool s.coef.neg,.slice p.na s.coef.num.length p.nc,.slice p.da s.coef.den.length p.dc,.slice p.aa s.mono.length p.ac] 193)).alloc (.cells #[.bool t.coef.neg,.slice q.na t.coef.num.length q.nc,.slice q.da t.coef.den.length q.dc,.slice q.aa t.mono.length q.ac] 193)):=by go_grown
 clear h h';go_enter Tryz.func158,Tryz.ntmps158;go_wp2_with fail;revert hx hy hb0;generalize (w.alloc (.cells #[.bool s.coef.neg,.slice p.na s.coef.num.length p.nc,.slice p.da s.coef.den.length p.dc,.slice p.aa s.mono.length p.ac] 193)).alloc (.cells #[.bool t.coef.neg,.slice q.na t.coef.num.length q.nc,.slice q.da t.coef.den.length q.dc,.slice q.aa t.mono.length q.ac] 193)=w0;intro hx hy hb0;have z3:=hx.cell 3;have y3:=hy.cell 3;go_wp2_with fail;refine (CC.out _ hb0).mono ?_;rintro e w1 ⟨rfl,rfl⟩;go_wp2;go_ret;exact ⟨rfl,hb0⟩
section
variable {α : Type} {f : α -> List Value} {sz : Nat} {t : TypeId} {B : Nat} {w : World} {l : List α} {P : Program}
theorem qg8 {o:Oper} {act:Act} {K:Act->World->Prop} {Q:Exit->Act->World->Prop} (s y:Operand) (ts:TypeId)
  (ho:o.op=.call { callee:=.builtin .append,args:=#[s,y],argTypes:=#[ts,ts] })
  {z:Value} {bytes:Nat} (ht:P.underlying ts=some (.slice t)) (hi:(P.info? t).map (fun i=>(i.zero,i.size,i.bytes))=some (some z,sz,bytes)) (hz:z.cells.size=sz) (hsz:0<sz) (hby:bytes<=1024)
  (hf:∀ x,(f x).length=sz) (a:Option Addr) (c:Nat) (hs:act.eval s=.slice a l.length c) (hown:Own f sz t B w a c l)
  (m:List α) (hm:m≠[]) (hone:∀ u∈m.flatMap f,u.oneCell'=true) (p:Addr) (c1:Nat) (hy:act.eval y=.slice (some p) m.length c1) (hcell:∀ j u,(m.flatMap f)[j]? = some u->w.cell? (p.add j)=some u)
  (l2:List α) (hl2:l2=l++m) (hlen:l2.length<=16777216) (hB:B<=w.heap.size)
  (h:∀ a' c' w',Own f sz t B w' a' c' l2->w.grownBy w' (Value.ownBlock (.slice a l.length c))->((∃ g,a'=some ⟨g,0,none⟩/\(a=some ⟨g,0,none⟩\/g=w.heap.size))) ->
   K (act.put o.dst (.slice a' l2.length c')) w'):o.wp P act w K Q:=by
 subst hl2;obtain ⟨i,hi0,hz0,hz1,hz2⟩:=info_parts hi;simp only [List.length_append] at hlen;have hml:0<m.length:=List.length_pos_iff.2 hm;have hfl:(m.flatMap f).length=m.length*sz:=by
  clear hone hcell hm hy hlen hml h
  induction m with
  | nil=>simp
  | cons x m ih=>simp only [List.flatMap_cons,List.length_append,List.length_cons,ih,hf,Nat.add_mul];omega
 obtain ⟨v',w',hr,h2,h3,_,h5⟩:=run_append_own_at (P:=P) w B ts o.type t i z sz bytes ht hi0 hz0 hz1 hz2 hz hsz (.slice a l.length c) l.length (l.flatMap f) hown p m.length c1 (m.flatMap f) hfl
  hcell hone (by unfold maxLen;omega)
  (by have : (l.length + m.length) * bytes <= 16777216 * 1024 := Nat.mul_le_mul hlen hby
      omega) hB
 unfold Oper.wp execOp;simp only [ho,resolve,invoke,builtin,Sem.run_bind,Sem.run_pure,Result.andThen_ok,List.map_toArray,List.map_cons,List.map_nil,hs,hy,hr];have hf2:(l++m).flatMap f=l.flatMap f++m.flatMap f:=by simp
 have hn:(l++m).length=l.length+m.length:=by simp
 obtain ⟨g,cap,hv,hb,hlt⟩:=h2.form oo;subst hv;rw [<- hn];refine h _ _ w' (by unfold Own;rw [hf2,hn];exact h2) h3 ⟨g,rfl,?_⟩;rcases h5 with h5 | h5
 ·
  left
  cases a with
  | none=>simp [Value.ownBlock] at h5
  | some g' =>
   have hg':g=g'.block:=by simpa [Value.ownBlock] using h5
   rcases hown.2 with ⟨e,_⟩ | ⟨g2,_,_,e,_⟩
   · cases e
   ·
    injection e with e1
    injection e1 with e1
    subst e1;simp at hg';rw [hg']
 ·
  right;simpa [Value.ownBlock] using h5
theorem qfh {o:Oper} {act:Act} {K:Act->World->Prop} {Q:Exit->Act->World->Prop} (s y:Operand) (ts:TypeId)
  (ho:o.op=.call { callee:=.builtin .append,args:=#[s,y],argTypes:=#[ts,ts] })
  (ht:P.underlying ts=some (.slice t)) {i:TypeInfo} (hi:P.info? t=some i)
  (a:Option Addr) (n c:Nat) (hnc:n<=c) (hs:act.eval s=.slice a n c) (b:Option Addr) (c1:Nat) (hy:act.eval y=.slice b 0 c1)
  (h:K (act.put o.dst (.slice a n c)) w):o.wp P act w K Q:=by
 have hsrc:Src P i.size ts (.slice b 0 c1) 0 [] w:=by
  cases b with
  | none=>exact Src.ofNil w ht c1
  | some p=>exact Src.ofSlice w ht p 0 c1 [] (by simp) (fun j u hu=>by simp at hu) (fun u hu=>by cases hu)
 have hr:=run_append_nothing (P:=P) w ts ts o.type t i ht hi a n c hnc _ hsrc;unfold Oper.wp execOp;simp only [ho,resolve,invoke,builtin,Sem.run_bind,Sem.run_pure,Result.andThen_ok,List.map_toArray,List.map_cons,List.map_nil,hs,hy,hr];exact h
end
def FineT (u:Tm):Prop:=Mok 1048576 u.2/\u.1≠0/\qsz u.1<=1000
def FineP (p:List Tm):Prop:=p.length<=100000/\∀ u∈p,FineT u
structure TQ where
 x:QA
 n:Nat
 a:Option Addr
 c:Nat
def TQ.cs (t:TQ):List Value:=[.bool t.x.neg,.slice t.x.a t.x.n t.x.c,.slice t.x.b t.x.m t.x.d,.slice t.a t.n t.c]
theorem TQ.cs_len (t:TQ):t.cs.length=4:=rfl
theorem TQ.cs_one (t:TQ):∀ u∈t.cs,u.oneCell'=true:=by simp [TQ.cs,Value.oneCell']
def TQ.R (t:TQ) (u:Tm) (V:World):Prop:=QAc V t.x u.1/\IntsR V t.a t.c u.2/\t.n=u.2.length
theorem TQ.R.qk {t:TQ} {u:Tm} {V:World} (h:t.R u V) (hf:FineT u):QK 1000 V t.x u.1:=⟨h.1,hf.2.2⟩
def TQ.At (t:TQ) (V:World) (b o:Nat):Prop:=V.cell? ⟨b,o,none⟩=some (.bool t.x.neg)/\V.cell? ⟨b,o+1,none⟩=some (.slice t.x.a t.x.n t.x.c)/\V.cell? ⟨b,o+2,none⟩=some (.slice t.x.b t.x.m t.x.d)/\V.cell? ⟨b,o+3,none⟩=some (.slice t.a t.n t.c)
theorem TQ.at_of {t:TQ} {V:World} {b o:Nat} (h:∀ j v,t.cs[j]? = some v->V.cell? ⟨b,o+j,none⟩=some v):t.At V b o:=⟨by simpa using h 0 _ rfl,h 1 _ rfl,h 2 _ rfl,h 3 _ rfl⟩
theorem TQ.At.cs {t:TQ} {V:World} {b o:Nat} (h:t.At V b o):∀ j v,t.cs[j]? = some v->V.cell? ⟨b,o+j,none⟩=some v:=fun j v hj=>by
 match j,hj with
 | 0,hj=>simp [TQ.cs] at hj;subst hj;exact h.1
 | 1,hj=>simp [TQ.cs] at hj;subst hj;exact h.2.1
 | 2,hj=>simp [TQ.cs] at hj;subst hj;exact h.2.2.1
 | 3,hj=>simp [TQ.cs] at hj;subst hj;exact h.2.2.2
 | j+4,hj=>simp [TQ.cs] at hj
def AllT (X:Nat->Prop) (w:World) (l:List TQ) (p:List Tm):Prop:=l.length=p.length/\∀ (k:Nat) (t:TQ) (u:Tm),l[k]? = some t->p[k]? = some u->Rd X w (t.R u)
def RowT (a:Option Addr) (c:Nat) (l:List TQ) (V:World):Prop:=SlR 4 (fun V b o (t:TQ)=>t.At V b o) V a c l
def PolX (X:Nat->Prop) (w:World) (a:Option Addr) (c:Nat) (p:List Tm):Prop:=∃ l:List TQ,Rd X w (RowT a c l)/\AllT X w l p
section
variable {X Y : Nat -> Prop} {w w' : World} {a : Option Addr} {c : Nat} {p q : List Tm} {l l' : List TQ}
theorem AllT.nil:AllT X w [] []:=⟨rfl,fun k t u h=>by simp at h⟩
theorem AllT.map (h:AllT X w l p) (e:∀ t u,Rd X w (TQ.R t u)->Rd Y w' (TQ.R t u)):AllT Y w' l p:=⟨h.1,fun k t u h1 h2=>e _ _ (h.2 k t u h1 h2)⟩
theorem AllT.call (h:AllT X w l p) (e:Below w.heap.size w w'):AllT X w' l p:=h.map fun _ _ k=>k.call e
theorem AllT.append (h:AllT X w l p) (k:AllT X w l' q):AllT X w (l++l') (p++q):=⟨by rw [List.length_append,List.length_append,h.1,k.1],fun i t u h1 h2=>by
 rcases Nat.lt_or_ge i l.length with e | e
 ·
  rw [List.getElem?_append_left e] at h1;rw [List.getElem?_append_left (by rw [<- h.1];exact e)] at h2;exact h.2 i t u h1 h2
 ·
  rw [List.getElem?_append_right e] at h1;rw [List.getElem?_append_right (by rw [<- h.1];exact e),<- h.1] at h2;exact k.2 _ t u h1 h2⟩
theorem AllT.one {t:TQ} {u:Tm} (h:Rd X w (t.R u)):AllT X w [t] [u]:=⟨rfl,fun k t' u' h1 h2=>by
 cases k with
 | zero=>simp at h1 h2;subst h1 h2;exact h
 | succ k=>simp at h1⟩
theorem AllT.drop (h:AllT X w l p) (n:Nat):AllT X w (l.drop n) (p.drop n):=⟨by simp [h.1],fun k t u h1 h2=>h.2 (n+k) t u (by simpa using h1) (by simpa using h2)⟩
theorem PolX.nil:PolX X w none 0 []:=⟨[],fun _ _=>SlR.nil,AllT.nil⟩
theorem PolX.map (h:PolX X w a c p) (e:∀ R,Rd X w R->Rd Y w' R):PolX Y w' a c p:=by
 obtain ⟨l,h1,h2⟩:=h;exact ⟨l,e _ h1,h2.map fun _ _ k=>e _ k⟩
theorem PolX.step (h:PolX X w a c p) (e:Agr X w w'):PolX X w' a c p:=h.map fun _ k=>k.step e
theorem PolX.call (h:PolX X w a c p) (e:Below w.heap.size w w'):PolX X w' a c p:=h.map fun _ k=>k.call e
theorem PolX.more (h:PolX X w a c p) (e:∀ b,Y b->X b\/w.heap.size<=b):PolX Y w a c p:=h.map fun _ k=>k.more e
theorem PolX.cap (h:PolX X w a c p):p.length<=c/\c<=maxLen:=by
 obtain ⟨l,h1,h2⟩:=h;rw [<- h2.1];exact ⟨h1.now.1,h1.now.2.1⟩
theorem PolX.len (h:PolX X w a c p):p.length<=9223372036854775807:=by have h1:=h.cap;unfold maxLen at h1;omega
theorem PolX.get (h:PolX X w a c p) {k:Nat} {u:Tm} (hk:p[k]? = some u):∃ (b off:Nat) (t:TQ),a=some ⟨b,off,none⟩/\t.At w b (off+k*4)/\Rd X w (t.R u):=by
 obtain ⟨l,h1,h2⟩:=h;obtain ⟨t,ht⟩:=qab (show k<l.length by have:=qai hk;rw [h2.1];exact this);obtain ⟨b,off,ha,hA⟩:=h1.now.2.2 k t ht;exact ⟨b,off,t,ha,hA,h2.2 k t u ht hk⟩
theorem Rd.kp {R:World->Prop} {B T:Nat} (h:Kp R B T w) (hX:∀ b,X b->b<B\/T<=b):Rd X w R:=fun V hV=>h V fun p v h1 h2 h3=>hV p v (fun hx=>by have:=hX _ hx;omega) h3
end
abbrev OwnT (B:Nat) (w:World) (a:Option Addr) (c:Nat) (l:List TQ):Prop:=Own TQ.cs 4 193 B w a c l
theorem qeu:(Tryz.prog.info? 193).map (fun i=>(i.zero,i.size,i.bytes))=some (some (.agg #[.bool false,.slice none 0 0,.slice none 0 0,.slice none 0 0]),4,80):=by kernel_rfl
def Xr (X:Nat->Prop) (a:Option Addr):Nat->Prop:=fun b=>X b\/∃ g:Addr,a=some g/\b=g.block
section
variable {X : Nat -> Prop} {w w' w'' : World} {B : Nat} {a a' : Option Addr} {c n : Nat} {p : List Tm} {l : List TQ} {R : World -> Prop}
theorem Rd.row (h:Rd X w R) (ha:∀ g,a=some g->w.heap.size<=g.block):Rd (Xr X a) w R:=h.more fun b hb=>by
 rcases hb with hb | ⟨g,hg,rfl⟩
 · exact .inl hb
 · exact .inr (ha g hg)
theorem Rd.app (h:Rd (Xr X a) w R) (hg:w.grownBy w' (Value.ownBlock (.slice a n c))) (ha:∃ g,a'=some ⟨g,0,none⟩/\(a=some ⟨g,0,none⟩\/g=w.heap.size)):Rd (Xr X a') w' R:=by
 obtain ⟨g,rfl,h2⟩:=ha;have h1:Rd (fun b=>Xr X a b\/b=g) w R:=h.more fun b hb=>by
  rcases hb with hb | rfl
  · exact .inl hb
  ·
   rcases h2 with h2 | h2
   · exact .inl (.inr ⟨_,h2,rfl⟩)
   · exact .inr oo
 have h3:Rd (fun b=>Xr X a b\/b=g) w' R:=h1.step ((Agr.refl _ _).grown hg fun g hg=>.inl (.inr ⟨g,hg,rfl⟩));intro V hV;exact h3 V (hV.mono fun b hb=>by
  rcases hb with hb | ⟨g',hg',rfl⟩
  · exact .inl (.inl hb)
  ·
   injection hg' with hg'
   subst hg';exact .inr rfl)
theorem AllT.app {lo:List TQ} (h:AllT (Xr X a) w lo p) (hg:w.grownBy w' (Value.ownBlock (.slice a n c))) (ha:∃ g,a'=some ⟨g,0,none⟩/\(a=some ⟨g,0,none⟩\/g=w.heap.size)):AllT (Xr X a') w' lo p:=h.map fun _ _ k=>k.app hg ha
theorem OwnT.pol (ho:OwnT B w a c l) (hA:AllT (Xr X a) w l p) (hX:∀ b,X b->b<B):PolX X w a c p:=by
 refine ⟨l,fun V hV=>?_,hA.map fun _ _ k=>k.less fun b hb=>.inl hb⟩;refine ho.readsX l rfl TQ.cs_len hV (fun g hg hx=>?_) fun b o k x y h1 h2 hc=>?_
 ·
  have:=hX _ hx;have:=(ho.lt hg).1
  omega
 ·
  rw [h1] at h2;injection h2 with h2
  subst h2;exact TQ.at_of hc
end
def RetP (X:Nat->Prop) (p:List Tm) (w:World) (e:Ending) (w':World):Prop:=∃ a c,e=.returned (.slice a p.length c)/\PolX X w' a c p/\Below w.heap.size w w'
theorem qdc {B:Nat} {w:World} {l:List TQ} {ops:Array Oper} {rest:List Oper} {o:Oper} {act:Act} {Q:Exit->Act->World->Prop} (hgd:o.guard=none) (s y:Operand) (ts:TypeId)
  (ho:o.op=.call { callee:=.builtin .append,args:=#[s,y],argTypes:=#[ts,ts] }) (hu:Tryz.prog.underlying ts=some (.slice 193))
  (a:Option Addr) (c:Nat) (hs:act.eval s=.slice a l.length c) (hown:OwnT B w a c l)
  (x:TQ) (b c1:Nat) (hy:act.eval y=.slice (some ⟨b,0,none⟩) 1 c1) (hcell:x.At w b 0)
  (l2:List TQ) (hl2:l2=l++[x]) (hlen:l2.length<=16777216) (hB:B<=w.heap.size)
  (h:∀ a' c' w',OwnT B w' a' c' l2->w.grownBy w' (Value.ownBlock (.slice a l.length c))->((∃ g,a'=some ⟨g,0,none⟩/\(a=some ⟨g,0,none⟩\/g=w.heap.size))) ->
   wpList Tryz.prog ops Q rest (act.put o.dst (.slice a' l2.length c')) w'):wpList Tryz.prog ops Q (o :: rest) act w :=
 qay hgd s y ts ho hu qeu rfl oo oo TQ.cs_len a c hs hown x (TQ.cs_one x) b c1 hy (by have:=hcell.cs;simpa using this) l2 hl2 hlen hB h
theorem qz4 (m:List TQ) (j:Nat):(m.flatMap TQ.cs)[j]? = (m[j / 4]?).bind fun t=>t.cs[j % 4]?:=by
 induction m generalizing j with
 | nil=>simp
 | cons t m ih =>
  rw [List.flatMap_cons];rcases Nat.lt_or_ge j 4 with h | h
  ·
   rw [List.getElem?_append_left (by rw [TQ.cs_len];exact h),Nat.div_eq_of_lt h,Nat.mod_eq_of_lt h]
   rfl
  ·
   rw [List.getElem?_append_right (by rw [TQ.cs_len];exact h),TQ.cs_len,ih];obtain ⟨k,rfl⟩:∃ k,j=k+4:=⟨j-4,oo⟩
   rw [Nat.add_sub_cancel,Nat.add_div_right _ oo,Nat.add_mod_right]
   rfl
theorem qle {B:Nat} {w:World} {l:List TQ} {ops:Array Oper} {rest:List Oper} {o:Oper} {act:Act} {Q:Exit->Act->World->Prop} (hgd:o.guard=none) (s y:Operand) (ts:TypeId)
  (ho:o.op=.call { callee:=.builtin .append,args:=#[s,y],argTypes:=#[ts,ts] }) (hu:Tryz.prog.underlying ts=some (.slice 193))
  (a:Option Addr) (c:Nat) (hs:act.eval s=.slice a l.length c) (hown:OwnT B w a c l) (m:List TQ) (b:Option Addr) (n c1:Nat) (hn:n=m.length) (hy:act.eval y=.slice b n c1) (hm:RowT b c1 m w)
  (l2:List TQ) (hl2:l2=l++m) (hlen:l2.length<=16777216) (hB:B<=w.heap.size)
  (h:∀ a' c' w',OwnT B w' a' c' l2->w.grownBy w' (Value.ownBlock (.slice a l.length c))->(m=[]/\a'=a/\w'=w\/(∃ g,a'=some ⟨g,0,none⟩/\(a=some ⟨g,0,none⟩\/g=w.heap.size))) ->
   wpList Tryz.prog ops Q rest (act.put o.dst (.slice a' l2.length c')) w'):wpList Tryz.prog ops Q (o :: rest) act w:=by
 subst hl2 hn;refine wpList_plain hgd fun _ hK=>?_
 cases m with
 | nil =>
  obtain ⟨i,hi,_⟩:=info_parts qeu;refine qfh s y ts ho hu hi a l.length c hown.cap.1 hs b c1 hy ?_;have:=h a c w (by simpa using hown) (World.grownBy.refl _ _) (.inl ⟨rfl,rfl,rfl⟩);simp only [List.append_nil] at this;exact hK _ _ this
 | cons x m =>
  obtain ⟨bb,off,hb,_⟩:=hm.2.2 0 x rfl;refine qg8 s y ts ho hu qeu rfl oo oo TQ.cs_len a c hs hown (x :: m) (by simp) ?_ ⟨bb,off,none⟩ c1 (by rw [hy,hb]) ?_ _ rfl hlen hB
   fun a' c' w' h1 h2 h3=>hK _ _ (h a' c' w' h1 h2 (.inr h3))
  ·
   intro u hu;simp only [List.mem_flatMap] at hu;obtain ⟨z,_,hz⟩:=hu;exact TQ.cs_one z u hz
  ·
   intro j u hu;rw [qz4] at hu;obtain ⟨z,hz,hj⟩:=Option.bind_eq_some_iff.1 hu;obtain ⟨b2,off2,hb2,hc⟩:=hm.2.2 (j / 4) z hz;rw [hb] at hb2;have e1:bb=b2:=congrArg (fun o:Option Addr=>(o.getD default).block) hb2;have e2:off=off2:=congrArg (fun o:Option Addr=>(o.getD default).off) hb2;subst e1;subst e2;have:=hc.cs (j % 4) u hj;rw [Addr.add_lit]
   rwa [show off+j / 4*4+j % 4=off+j by omega] at this
def sgnQ (q:Rat):Int:=if q=0 then 0 else if q<0 then -1 else 1
theorem qt8 (q:Rat):sgnZ (decide (q.num<0)) q.num.natAbs=sgnQ q:=by
 unfold sgnZ sgnQ;by_cases h:q=0
 · subst h;rfl
 ·
  have h0:q.num≠0:=fun e=>h (Rat.num_eq_zero.1 e)
  rw [if_neg oo,if_neg h];have h2:q<0↔q.num<0:=by rw [Rat.lt_iff];simp
  by_cases h1:q.num<0
  · rw [if_pos (by simpa using h1),if_pos (h2.2 h1)]
  · rw [if_neg (by simpa using h1),if_neg (fun e=>h1 (h2.1 e))]
theorem qmt {q:Rat}:sgnQ q=0↔q=0:=by
 unfold sgnQ;by_cases h:q=0
 · simp [h]
 ·
  rw [if_neg h]
  constructor
  · intro e;split at e <;> omega
  · intro e;exact absurd e h
theorem zz29 {P:Prop} (h:P:=by
 by_cases h:q=0
 · rw [qmt.2 h];simp [h]
 ·
  have:=fun e=>h (qmt.1 e)
  rw [decide_eq_false h];simpa using this
 ):P:=h
theorem qhs (q:Rat):(sgnQ q != 0) = !decide (q=0):=by
 exact zz29
theorem qry (q:Rat):(sgnQ q==0)=decide (q=0):=by
 exact zz29
theorem Kp.broad {R:World->Prop} {B B' T T':Nat} {w:World} (h:Kp R B T w) (hB:B'<=B) (hT:T<=T'):Kp R B' T' w:=fun V hV=>h V fun p v h1 h2 h3=>hV p v oo oo h3
theorem qk7 (x:QA) (q:Rat) (k:Nat) (w:World) (H:QK k w x q) (hk:k<=100000):Calls Tryz.prog 160 #[.agg #[.bool x.neg,.slice x.a x.n x.c,.slice x.b x.m x.d]] w fun e w'=>e=.returned (.int .i64 (sgnQ q))/\Below w.heap.size w w':=by
 obtain ⟨s1,n1,a1,c1,m1,b1,d1⟩:=x;obtain ⟨⟨e1,e2,e3,r1,r2⟩,z1⟩:=H;dsimp only at e1 e2 e3 r1 r2 ⊢;subst e1 e2 e3;have l1:=qbs q;have l2:=qbq q;have:=qwh (decide (q.num<0)) (limbs q.num.natAbs) (limbs q.den) q.num.natAbs a1 b1 c1 d1 w r1 r2 (qac _) (by rw [qac];exact q.den_nz) oo oo
 rwa [qt8] at this
theorem qji (x:QA) (q:Rat) (k:Nat) (w:World) (H:QK k w x q) (hk:k<=100000):Calls Tryz.prog 143 #[.agg #[.bool x.neg,.slice x.a x.n x.c,.slice x.b x.m x.d]] w fun e w'=>e=.returned (.int .i64 (sgnQ q))/\Below w.heap.size w w':=by
 obtain ⟨s1,n1,a1,c1,m1,b1,d1⟩:=x;obtain ⟨⟨e1,e2,e3,r1,r2⟩,z1⟩:=H;dsimp only at e1 e2 e3 r1 r2 ⊢;subst e1 e2 e3;have l1:=qbs q;have l2:=qbq q;have:=qti (decide (q.num<0)) (limbs q.num.natAbs) (limbs q.den) q.num.natAbs a1 b1 c1 d1 w r1 r2 (qac _) (by rw [qac];exact q.den_nz) oo oo
 rwa [qt8] at this
theorem qx2 (s t:TQ) (m n:List Int) (w:World) (h:IntsR w s.a s.c m) (h':IntsR w t.a t.c n) (hs:s.n=m.length) (ht:t.n=n.length) :
  Calls Tryz.prog 158 #[.agg #[.bool s.x.neg,.slice s.x.a s.x.n s.x.c,.slice s.x.b s.x.m s.x.d,.slice s.a s.n s.c],.agg #[.bool t.x.neg,.slice t.x.a t.x.n t.x.c,.slice t.x.b t.x.m t.x.d,.slice t.a t.n t.c]] w fun e w'=>e=.returned (.int .i64 (lexI m n))/\Below w.heap.size w w':=by
 have:=qzw ⟨⟨s.x.neg,List.replicate s.x.n 0,List.replicate s.x.m 0⟩,m⟩ ⟨⟨t.x.neg,List.replicate t.x.n 0,List.replicate t.x.m 0⟩,n⟩ ⟨s.a,s.c,s.x.a,s.x.c,s.x.b,s.x.d⟩ ⟨t.a,t.c,t.x.a,t.x.c,t.x.b,t.x.d⟩ w h h';unfold Trm.val at this;simp only [List.length_replicate] at this;rw [hs,ht];exact this
theorem qzm (s t:TQ) (p q:Rat) (w:World) (h:QK 1000 w s.x p) (h':QK 1000 w t.x q) :
  Calls Tryz.prog 159 #[.agg #[.bool s.x.neg,.slice s.x.a s.x.n s.x.c,.slice s.x.b s.x.m s.x.d,.slice s.a s.n s.c],.agg #[.bool t.x.neg,.slice t.x.a t.x.n t.x.c,.slice t.x.b t.x.m t.x.d,.slice t.a t.n t.c]] w fun e w'=>∃ x:QA,e=.returned (.tuple #[.agg #[.bool x.neg,.slice x.a x.n x.c,.slice x.b x.m x.d,.slice s.a s.n s.c],.bool (!decide (p+q=0))])/\Kp (fun V=>QK 2001 V x (p+q)) w.heap.size w'.heap.size w'/\Below w.heap.size w w':=by
 have CA:=fun W (hW:bw w W)=>add_q s.x t.x p q 1000 1000 W (h.ext (xbw hW)) (h'.ext (xbw hW)) oo oo
 have hsg:=qhs (p+q);replace CA:=Hd CA;clear h h';go_enter Tryz.func159,Tryz.ntmps159;go_wp2_with fail;refine qae (fun W=>Blk W w.heap.size 193 #[.bool s.x.neg,.slice s.x.a s.x.n s.x.c,.slice s.x.b s.x.m s.x.d,.slice s.a s.n s.c]/\Blk W (w.heap.size+1) 193 #[.bool t.x.neg,.slice t.x.a t.x.n t.x.c,.slice t.x.b t.x.m t.x.d,.slice t.a t.n t.c]/\Blk W (w.heap.size+1+1) 193 #[.bool false,.slice none 0 0,.slice none 0 0,.slice none 0 0]/\Below w.heap.size w W) ⟨bk,bk,bk,zg⟩ ?_
 rintro w0 ⟨hx,hy,hz,hw0⟩;obtain ⟨g1,hg1⟩:∃ g,g=w.heap.size+1:=⟨_,rfl⟩
 obtain ⟨g2,hg2⟩:∃ g,g=w.heap.size+1+1:=⟨_,rfl⟩
 rw [<- hg2] at hz ⊢;rw [<- hg1] at hy ⊢;refine (CA.out _ hw0).mono ?_;rintro e w1 ⟨x,rfl,HX,hb1⟩;replace HX:=Hd HX;have hg20:=hz.lt;replace hy:=hy.below' hb1;replace hz:=hz.below' hb1;replace hx:=hx.below' hb1;have hw1:=bth hw0 hb1;have hlt1:=hy.lt;have hlt2:=hz.lt;have hlt3:=hx.lt;have hlo2:w.heap.size<=w0.heap.size:=hw0.size;have hww:Hid (w1.heap.size<=w1.heap.size):=Hd (nlr _);go_wp2
 refine qaa (fun W=>Blk W w1.heap.size 32 #[.bool x.neg,.slice x.a x.n x.c,.slice x.b x.m x.d]/\Blk W w.heap.size 193 #[.bool s.x.neg,.slice s.x.a s.x.n s.x.c,.slice s.x.b s.x.m s.x.d,.slice s.a s.n s.c]/\Blk W g2 193 #[.bool false,.slice none 0 0,.slice none 0 0,.slice none 0 0]/\Kp (fun V=>QK (1000+1000+1) V x (p+q)) w0.heap.size w1.heap.size W/\Below w.heap.size w W/\w1.heap.size<=W.heap.size) ⟨bk,bk,bk,by (with_reducible repeat first | exact HX.out | (refine Kp.setc ?_ ?_;focus omega) | refine Kp.alloc ?_ | refine Kp.drew ?_),zg,by simp⟩ ?_
 rintro w2 ⟨hc,hx,hz,HK,hw2,hsz2⟩;rw [<- hg2];have hne1:w1.heap.size≠g2:=oo
 have hne2:w.heap.size≠g2:=oo
 have hgw:w.heap.size<=g2:=oo
 clear hg1;replace hg2:=Hd hg2;obtain ⟨h1,hh1⟩:∃ h,h=w1.heap.size:=⟨_,rfl⟩
 obtain ⟨R,hR⟩:=nm (sgnQ (p+q))
 rw [hR] at hsg;have CS:=fun W (hW:Below w2.heap.size w2 W)=>qk7 x (p+q) 2001 W ((HK.call hW).now) oo
 rw [hR] at CS;replace CS:=Hd CS;replace HK:=Hd HK;obtain ⟨S,hS⟩:∃ S:World->Prop,S=fun W=>Blk W w1.heap.size 32 #[.bool x.neg,.slice x.a x.n x.c,.slice x.b x.m x.d]/\Blk W w.heap.size 193 #[.bool s.x.neg,.slice s.x.a s.x.n s.x.c,.slice s.x.b s.x.m s.x.d,.slice s.a s.n s.c]:=⟨_,rfl⟩
 rw [<- hh1] at hS ⊢;rw [<- hh1] at hc hne1;have k0:∀ W,Sat S W->W.cell? ⟨h1,0,none⟩=some (.bool x.neg):=fun W h=>by unfold Sat at h;rw [hS] at h;exact h.1.cell 0
 have k1:∀ W,Sat S W->W.cell? ⟨h1,1,none⟩=some (.slice x.a x.n x.c):=fun W h=>by unfold Sat at h;rw [hS] at h;exact h.1.cell 1
 have k2:∀ W,Sat S W->W.cell? ⟨h1,2,none⟩=some (.slice x.b x.m x.d):=fun W h=>by unfold Sat at h;rw [hS] at h;exact h.1.cell 2
 have k3:∀ W,Sat S W->W.cell? ⟨w.heap.size,3,none⟩=some (.slice s.a s.n s.c):=fun W h=>by unfold Sat at h;rw [hS] at h;exact h.2.cell 3
 have s0:Sat S w2.drew:=by unfold Sat;rw [hS];exact ⟨hc,hx⟩
 replace hS:=Hd hS;replace hh1:=Hd hh1;clear hlt1 hlt2 hlt3 hw0 hw1 hb1 hy HX CA hR;refine wrx (S:=Sat S) [(0,.q),(1,.q),(2,.q),(3,.q),(4,.q),(5,.l),(6,.q),(7,.l),(8,.p)] (s0) ?_
 iterate 5 (refine qaf rfl rfl fun K hK=>xq ?_;go_simp;refine hK _ _ ?_;clear hK K)
 refine vl fun K hK=>?_
 go_simp;refine (CS.out _ (brf.drew)).mono ?_;rintro r w3 ⟨rfl,hb3⟩;dsimp only;refine hK.out _ _ ((by unfold Sat;rw [hS.out];exact ⟨hc.below' (bth (brf.drew) hb3),hx.below' (bth (brf.drew) hb3)⟩)) (fun _=>?_);clear hK K;replace hb3:=bth ((Below.refl w2.heap.size w2).drew) hb3;have hz3:=hz.below' hb3;have hc3:=hc.below' hb3;have hx3:=hx.below' hb3;have HK3:=Hd (HK.out.call hb3);obtain ⟨z0,z1,z2,z3⟩:=cq4 hz3;obtain ⟨f0,f1,f2,f3⟩:=fq4 hz3
 refine qaf rfl rfl fun K hK=>xq ?_;go_simp;refine hK _ _ ?_;clear hK K
 refine vl fun K hK=>?_
 go_simp;refine hK.out _ _ ((by unfold Sat;rw [hS.out];exact ⟨bk,bk⟩)) (fun _=>?_);clear hK K
 refine qaj rfl rfl fun K hK=>xp ?_;go_simp;refine hK _ _ ?_;clear hK K
 refine qad ?_;go_wp2;refine qaa (fun W=>Blk W g2 193 #[.bool x.neg,.slice x.a x.n x.c,.slice x.b x.m x.d,.slice s.a s.n s.c]/\Kp (fun V=>QK (1000+1000+1) V x (p+q)) w0.heap.size w1.heap.size W/\Below w.heap.size w W/\w3.heap.size<=W.heap.size) ⟨bk,by (with_reducible repeat first | exact HK3.out | (refine Kp.setc ?_ ?_;focus omega) | refine Kp.alloc ?_ | refine Kp.drew ?_),?_,by simp⟩ ?_
 ·
  have hb:=bth hw2 hb3;exact (((hb.setCell hgw _).setCell hgw _).setCell hgw _).setCell hgw _
 rintro w4 ⟨hF,HF,hw4,hsz⟩;obtain ⟨e0,e1,e2,e3⟩:=cq4 hF;refine bodyPost_ret (v:=.tuple #[.agg #[.bool x.neg,.slice x.a x.n x.c,.slice x.b x.m x.d,.slice s.a s.n s.c],.bool (!decide (p+q=0))]) (by simp [results,Tryz.results159,go_sem,e0,e1,e2,e3]) rfl ?_;exact ⟨x,rfl,HF.broad hlo2 (by have:=hb3.size;omega),hw4⟩
end Go.Proofs.YtmdlbpibipnapaaGreat
