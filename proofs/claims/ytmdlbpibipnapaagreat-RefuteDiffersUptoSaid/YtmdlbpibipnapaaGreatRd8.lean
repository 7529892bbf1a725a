/- Walks: the program's natural numbers: Mul. -/
import Derived.Test.YtmdlbpibipnapaaGreatRd7
import Derived.Test.YtmdlbpibipnapaaGreatRd3
import Derived.Test.YtmdlbpibipnapaaGreatRd1
set_option linter.all false
set_option maxRecDepth 100000
set_option maxHeartbeats 4000000
namespace Go.Proofs.YtmdlbpibipnapaaGreat
open Go.RowKit
theorem qkf (neg:Bool) (n:Nat):zval (neg&&decide (0<n)) n=zval neg n:=by
 by_cases hn:n=0
 ·
  subst hn;simp [zval]
 ·
  have:decide (0<n)=true:=by rw [decide_eq_true_eq];omega
  rw [this,Bool.and_true]
theorem qcj (neg:Bool) (n d:Nat):(qak neg n d).2.1<=n:=by
 unfold qak
 split
 · exact Nat.zero_le _
 · exact Nat.div_le_self _ _
theorem qcr (neg:Bool) (n d:Nat):(qak neg n d).2.2<=d+1:=by
 unfold qak
 split
 · show 1<=d+1;omega
 · exact Nat.le_succ_of_le (Nat.div_le_self _ _)
theorem qho (neg:Bool) (n d:Nat):0<(qak neg n d).2.2:=by
 unfold qak
 split
 · decide
 · next h0=>exact Nat.div_pos (Nat.le_of_dvd oo (Nat.gcd_dvd_right n d)) (Nat.gcd_pos_of_pos_right n oo)
theorem qd5 (d:Nat):(limbs (d+1)).length<=(limbs d).length+1:=by
 apply qam;have:=qa3 d;rw [Nat.pow_succ];have h1:0<65536 ^ (limbs d).length:=Nat.pow_pos dd
 omega
def qhm (t u:Bool × Nat × Nat):Int:=cmpI (zval t.1 (t.2.1*u.2.2)) (zval u.1 (u.2.1*t.2.2))
theorem qv9 (neg1 neg2:Bool) (l m l' m':List Int) (n1 d1 n2 d2:Nat) (a b a' b':Option Addr) (c cb c' cb':Nat) (w:World) (h1:NatR w a c l) (h2:NatR w b cb m) (h3:NatR w a' c' l') (h4:NatR w b' cb' m')
  (e1:val l=n1) (e2:val m=d1) (e3:val l'=n2) (e4:val m'=d2) (b1:l.length<=900000) (b2:m.length<=900000) (b3:l'.length<=900000) (b4:m'.length<=900000) :
  Calls Tryz.prog 9 #[.agg #[.bool neg1,.slice a l.length c,.slice b m.length cb],.agg #[.bool neg2,.slice a' l'.length c',.slice b' m'.length cb']] w fun e w' =>
   e=.returned (.int .i64 (qhm (qak neg1 n1 d1) (qak neg2 n2 d2)))/\Below w.heap.size w w':=by
 have q1:=qah h1.u16;have q2:=qah h2.u16;have q3:=qah h3.u16;have q4:=qah h4.u16;rw [e1] at q1;rw [e2] at q2;rw [e3] at q3;rw [e4] at q4;have r1:=qap (qcj neg1 n1 d1);have r2:=qap (qcr neg1 n1 d1);have r3:=qap (qcj neg2 n2 d2);have r4:=qap (qcr neg2 n2 d2);have t2:=qd5 d1;have t4:=qd5 d2;have C1:=fun W (hW:bw w W)=>qd6 neg1 l m n1 d1 a b c cb W (h1.ext (xbw hW)) (h2.ext (xbw hW)) e1 e2 oo oo
 have C2:=fun W (hW:bw w W)=>qd6 neg2 l' m' n2 d2 a' b' c' cb' W (h3.ext (xbw hW)) (h4.ext (xbw hW)) e3 e4 oo oo
 obtain ⟨u1,hu1⟩:=nm (qak neg1 n1 d1)
 obtain ⟨u2,hu2⟩:=nm (qak neg2 n2 d2)
 rw [hu1] at C1 r1 r2 ⊢;rw [hu2] at C2 r3 r4 ⊢;obtain ⟨s1,N1,D1⟩:=u1;obtain ⟨s2,N2,D2⟩:=u2;unfold RetF at C1 C2;unfold qhm;dsimp only at C1 C2 r1 r2 r3 r4 ⊢;have m1:=qa0 N1 D2;have m2:=qa0 N2 D1;have CM1:=fun a1 a2 c1 c2 W g1 g2=>qfm s1 false (limbs N1) (limbs D2) N1 D2 a1 a2 c1 c2 W g1 g2 (qac _) (qac _) oo oo
 have CM2:=fun a1 a2 c1 c2 W g1 g2=>qfm s2 false (limbs N2) (limbs D1) N2 D1 a1 a2 c1 c2 W g1 g2 (qac _) (qac _) oo oo
 have x1:(s1 != false)=s1:=by cases s1 <;> rfl
 have x2:(s2 != false)=s2:=by cases s2 <;> rfl
 simp only [x1] at CM1;simp only [x2] at CM2;have CC:=fun a1 a2 c1 c2 W g1 g2=>qup (s1&&decide (0<N1*D2)) (s2&&decide (0<N2*D1)) (limbs (N1*D2)) (limbs (N2*D1)) (N1*D2) (N2*D1) a1 a2 c1 c2 W g1 g2 (qac _) (qac _) oo oo
 simp only [qkf] at CC;obtain ⟨R,hR⟩:=nm (cmpI (zval s1 (N1*D2)) (zval s2 (N2*D1)))
 obtain ⟨p1,hp1⟩:=nm ((s1&&decide (0<N1*D2)))
 obtain ⟨p2,hp2⟩:=nm ((s2&&decide (0<N2*D1)))
 simp only [hR,hp1,hp2] at CM1 CM2 CC ⊢;clear hR hp1 hp2 x1 x2 m1 m2 t2 t4 r1 r2 r3 r4 hu1 hu2 q1 q2 q3 q4;revert CM1 CM2 CC;generalize N1*D2=P1;generalize N2*D1=P2;intro CM1 CM2 CC;replace C1:=Hd C1;replace C2:=Hd C2;replace CM1:=Hd CM1;replace CM2:=Hd CM2;replace CC:=Hd CC;have hx1:Blk ((w.alloc (.cells #[.bool neg1,.slice a l.length c,.slice b m.length cb] 32)).alloc (.cells #[.bool neg2,.slice a' l'.length c',.slice b' m'.length cb'] 32)) w.heap.size 32 #[.bool neg1,.slice a l.length c,.slice b m.length cb]:=(Blk.new w _ _).alloc _;have hx2:Blk ((w.alloc (.cells #[.bool neg1,.slice a l.length c,.slice b m.length cb] 32)).alloc (.cells #[.bool neg2,.slice a' l'.length c',.slice b' m'.length cb'] 32)) (w.heap.size+1) 32 #[.bool neg2,.slice a' l'.length c',.slice b' m'.length cb']:=qa5 w _ _ _
 have hb0:Below w.heap.size w ((w.alloc (.cells #[.bool neg1,.slice a l.length c,.slice b m.length cb] 32)).alloc (.cells #[.bool neg2,.slice a' l'.length c',.slice b' m'.length cb'] 32)):=by go_grown
 have hgB:w.heap.size<w.heap.size+1:=oo
 clear h1 h2 h3 h4 e1 e2 e3 e4;go_enter Tryz.func9,Tryz.ntmps9;go_wp2;revert hx1 hx2 hb0 hgB;generalize (w.alloc (.cells #[.bool neg1,.slice a l.length c,.slice b m.length cb] 32)).alloc (.cells #[.bool neg2,.slice a' l'.length c',.slice b' m'.length cb'] 32)=w0;generalize w.heap.size+1=g;intro hx1 hx2 hb0 hgB;have k0:=held (hx1.cell 0);have k1:=held (hx1.cell 1);have k2:=held (hx1.cell 2);have k3:=held (hx2.cell 0);have k4:=held (hx2.cell 1);have k5:=held (hx2.cell 2);have s0:Below w0.heap.size w0 w0.drew:=brf.drew;have hgl:=hx2.lt;refine wrx (S:=Below w0.heap.size w0) [(0,.q),(2,.q),(1,.l),(3,.t),(4,.t),(5,.t)] (s0) ?_
 iterate 2 (refine qaf rfl rfl fun K hK=>xq ?_;go_simp;refine hK _ _ ?_;clear hK K)
 refine vl fun K hK=>?_
 go_simp;refine (C1.out _ (bth hb0 s0)).mono ?_;rintro r w1 ⟨a1,c1,a2,c2,rfl,hV1,hV2,hb1⟩;dsimp only;refine hK.out _ _ (bth s0 hb1) (fun _=>?_);clear hK K;have s1':=bth s0 hb1;refine vt fun K hK=>?_
 go_simp;refine (C2.out _ (bth hb0 s1')).mono ?_;rintro r w2 ⟨a3,c3,a4,c4,rfl,hV3,hV4,hb2⟩;dsimp only;refine hK.out _ _ ?_;clear hK K;have s2':=bth s1' hb2;have hy1:=hx1.below' s2';have hy2:=hx2.below' s2';obtain ⟨z0,z1,z2⟩:=cq3 hy1;obtain ⟨z3,z4,z5⟩:=cq3 hy2;obtain ⟨f0,f1,f2⟩:=fq3 hy1;obtain ⟨f3,f4,f5⟩:=fq3 hy2;have hne:¬ g=w.heap.size:=oo
 have hne2:¬ w.heap.size=g:=oo
 have HV1:=Hd hV1;have HV2:=Hd hV2;have HV3:=Hd hV3;have HV4:=Hd hV4;have hw2:=bth hb0 s2';have hs1:=s1'.size;have hs0:=hb1.size;clear hV1 hV2 hV3 hV4 k0 k1 k2 k3 k4 k5;refine vt fun K hK=>?_
 go_simp;refine hK.out _ _ ?_;clear hK K;refine vt fun K hK=>?_
 go_simp;refine hK.out _ _ ?_;clear hK K;refine qad ?_;have hF1:=(((blk3 (x:=.bool s1) (y:=.slice a1 (limbs N1).length c1) (z:=.slice a2 (limbs D1).length c2) hy1).far (p:=⟨g,0,none⟩) hne2 (.bool s2)).far (p:=⟨g,1,none⟩) hne2 (.slice a3 (limbs N2).length c3)).far (p:=⟨g,2,none⟩) hne2 (.slice a4 (limbs D2).length c4);have hF2:=blk3 (x:=.bool s2) (y:=.slice a3 (limbs N2).length c3) (z:=.slice a4 (limbs D2).length c4) (((hy2.far (p:=⟨w.heap.size,0,none⟩) hne (.bool s1)).far (p:=⟨w.heap.size,1,none⟩) hne (.slice a1 (limbs N1).length c1)).far (p:=⟨w.heap.size,2,none⟩) hne (.slice a2 (limbs D1).length c2));have hwF:=qbu (x:=.bool s2) (y:=.slice a3 (limbs N2).length c3) (z:=.slice a4 (limbs D2).length c4) (qbu (x:=.bool s1) (y:=.slice a1 (limbs N1).length c1) (z:=.slice a2 (limbs D1).length c2) hw2 (nlr _)) (Nat.le_of_lt hgB)
 have hN:=New.refl w0.heap.size (((((((w2.setCell ⟨w.heap.size,0,none⟩ (.bool s1)).setCell ⟨w.heap.size,1,none⟩ (.slice a1 (limbs N1).length c1)).setCell ⟨w.heap.size,2,none⟩ (.slice a2 (limbs D1).length c2)).setCell ⟨g,0,none⟩ (.bool s2)).setCell ⟨g,1,none⟩ (.slice a3 (limbs N2).length c3)).setCell ⟨g,2,none⟩ (.slice a4 (limbs D2).length c4)));have hN2:=back3 (back3 hN (nlr _) hgl) (nlr _) hx1.lt;revert hF1 hF2 hwF hN2;generalize ((((((w2.setCell ⟨w.heap.size,0,none⟩ (.bool s1)).setCell ⟨w.heap.size,1,none⟩ (.slice a1 (limbs N1).length c1)).setCell ⟨w.heap.size,2,none⟩ (.slice a2 (limbs D1).length c2)).setCell ⟨g,0,none⟩ (.bool s2)).setCell ⟨g,1,none⟩ (.slice a3 (limbs N2).length c3)).setCell ⟨g,2,none⟩ (.slice a4 (limbs D2).length c4))=wF;intro hF1 hF2 hwF hN2;have r1:=HV1.out wF (hN2.below hb2);have r2:=HV2.out wF (hN2.below hb2);have r3:=HV3.out wF (hN2.base hs1)
 have r4:=HV4.out wF (hN2.base hs1);clear hN hy1 hy2 z0 z1 z2 z3 z4 z5 f0 f1 f2 f3 f4 f5 hx1 hx2 HV1 HV2 HV3 HV4 s0 s1' s2' hb1 hb2 hw2 hb0 hs1 hs0;have k0:=held (hF1.cell 0);have k1:=held (hF1.cell 1);have k2:=held (hF1.cell 2);have k3:=held (hF2.cell 0);have k4:=held (hF2.cell 1);have k5:=held (hF2.cell 2);have s0:Below wF.heap.size wF wF.drew:=brf.drew;have W1:=fun W=>qg4 (limbs D2).length a4 c4 W
 have W2:=fun W=>qg4 (limbs D1).length a2 c2 W
 replace W1:=Hd W1;replace W2:=Hd W2;go_wp2;refine wrx (S:=Below wF.heap.size wF) [(0,.q),(1,.q),(2,.q),(3,.q),(6,.q),(7,.q),(8,.q),(9,.q),(4,.l),(5,.l),(10,.l),(11,.t),(12,.t),(13,.p)] (s0) ?_
 iterate 8 (refine qaf rfl rfl fun K hK=>xq ?_;go_simp;refine hK _ _ ?_;clear hK K)
 refine vl fun K hK=>?_
 go_simp;refine (W1.out _).mono ?_;rintro r w3 ⟨rfl,hb3⟩;dsimp only;refine hK.out _ _ (bth s0 hb3) (fun _=>?_);clear hK K;have t3:=bth s0 hb3;have CA:=CM1.out a1 a4 c1 c4 w3 (r1.ext (xbw t3)) (r4.ext (xbw t3));replace CA:=Hd CA;refine vl fun K hK=>?_
 go_simp;refine (CA.out).mono ?_;rintro r w4 ⟨a5,c5,rfl,hV5,hb4⟩;dsimp only;refine hK.out _ _ (bth t3 hb4) (fun _=>?_);clear hK K;have t4:=bth t3 hb4;have HV5:=Hd hV5;clear hV5;refine vl fun K hK=>?_
 go_simp;refine (W2.out _).mono ?_;rintro r w5 ⟨rfl,hb5⟩;dsimp only;refine hK.out _ _ (bth t4 hb5) (fun _=>?_);clear hK K;have t5:=bth t4 hb5;have CB:=CM2.out a3 a2 c3 c2 w5 (r3.ext (xbw t5)) (r2.ext (xbw t5));replace CB:=Hd CB;refine vt fun K hK=>?_
 go_simp;refine (CB.out).mono ?_;rintro r w6 ⟨a6,c6,rfl,hV6,hb6⟩;dsimp only;refine hK.out _ _ ?_;clear hK K;have t6:=bth t5 hb6;have CD:=CC.out a5 a6 c5 c6 w6 (HV5.out w6 (((New.refl _ _).below hb6).below hb5)) (hV6 w6 (New.refl _ _));replace CD:=Hd CD;clear hV6;refine vt fun K hK=>?_
 go_simp;refine (CD.out).mono ?_;rintro r w7 ⟨rfl,hb7⟩;dsimp only;refine hK.out _ _ ?_;clear hK K;have t7:=bth t6 hb7
 refine qaj rfl rfl fun K hK=>xp ?_;go_simp;refine hK _ _ ?_;clear hK K
 refine qad ?_;go_wp2;go_ret;exact ⟨rfl,bth hwF t7⟩
end Go.Proofs.YtmdlbpibipnapaaGreat
namespace Go.Proofs.YtmdlbpibipnapaaGreat
def qv (neg:Bool) (n d:Nat):Rat:=mkRat (zval neg n) d
def trip (q:Rat):Bool × Nat × Nat:=(decide (q.num<0),q.num.natAbs,q.den)
def cmpQ (p q:Rat):Int:=if p<q then -1 else if q<p then 1 else 0
theorem qeg (neg:Bool) (n:Nat):(zval neg n).natAbs=n:=by unfold zval;split <;> omega
theorem qx7 (a b:Bool) (n m:Nat):zval (a != b) (n*m)=zval a n*zval b m:=by
 unfold zval;cases a <;> cases b <;> simp [Int.neg_mul,Int.mul_neg]
theorem qfl (z:Int):zval (decide (z<0)) z.natAbs=z:=by
 unfold zval;split
 · next h=>simp at h;omega
 · next h=>simp at h;omega
theorem qzb {neg:Bool} {n g:Nat} (hg:g∣n):zval neg n / (g:Int)=zval neg (n / g):=by
 obtain ⟨k,rfl⟩:=hg;by_cases h0:g=0
 · subst h0;unfold zval;cases neg <;> simp
 ·
  have hp:(g:Int)≠0:=oo
  rw [Nat.mul_div_cancel_left _ oo];unfold zval
  cases neg
  · simp;rw [Int.mul_ediv_cancel_left _ hp]
  ·
   simp only [if_true,Int.natCast_mul];rw [<- Int.mul_neg,Int.mul_ediv_cancel_left _ hp]
theorem qzx (neg:Bool) (n:Nat):decide (zval neg n<0)=(neg&&decide (0<n)):=by
 unfold zval;cases neg <;> simp
theorem qcb (neg:Bool) (n d:Nat):qak neg n d=trip (qv neg n d):=by
 unfold qak trip qv;rw [Rat.num_mkRat,Rat.den_mkRat];by_cases h0:d=0
 · simp [h0]
 · rw [if_neg h0,if_neg h0,if_neg h0,qeg,Nat.gcd_comm d n,qzb (Nat.gcd_dvd_left n d),qzx,qeg]
theorem qrb (q:Rat):qv (trip q).1 (trip q).2.1 (trip q).2.2=q:=by
 unfold qv trip;dsimp only;rw [qfl,Rat.mkRat_self]
theorem qcg (q:Rat):qv (decide (q.num<0)) q.num.natAbs q.den=q:=qrb q
theorem qf7 (a:Bool) (n m:Nat):zval a (n*m)=zval a n*m:=by unfold zval;cases a <;> simp [Int.neg_mul]
theorem qn3 (p q:Rat):qhm (trip p) (trip q)=cmpQ p q:=by
 unfold qhm trip cmpQ cmpI;dsimp only;rw [qf7,qf7,qfl,qfl];simp only [Rat.lt_iff]
theorem ql6 (a b:Bool) (n d m c:Nat):qhm (qak a n d) (qak b m c)=cmpQ (qv a n d) (qv b m c):=by rw [qcb,qcb,qn3]
theorem qab9 (a b:Bool) (n d m c:Nat) (hd:d≠0) (hc:c≠0):mkRat (zval a n*c+zval b m*d) (d*c)=qv a n d+qv b m c:=by
 unfold qv;rw [Rat.mkRat_add_mkRat _ _ hd hc]
theorem qwq (a b:Bool) (n d m c:Nat):qv (a != b) (n*m) (d*c)=qv a n d*qv b m c:=by
 unfold qv;rw [Rat.mkRat_mul_mkRat,qx7]
theorem qz7 {p q:Rat}:cmpQ p q<0↔p<q:=by
 unfold cmpQ;split
 · simp [*]
 · split <;> simp [*]
theorem qaa2 {p q:Rat}:0<cmpQ p q↔q<p:=by
 unfold cmpQ;split
 · next h=>simp;exact Rat.not_lt.2 (Rat.le_of_lt h)
 · split <;> simp [*]
theorem qra {p q:Rat}:cmpQ p q<=0↔p<=q:=by
 rw [<- Int.not_lt,qaa2,Rat.not_lt]
theorem qrt {p q:Rat}:0<=cmpQ p q↔q<=p:=by
 rw [<- Int.not_lt,qz7,Rat.not_lt]
theorem qt4 {p q:Rat}:cmpQ p q=0↔p=q:=by
 constructor
 ·
  intro h;exact Rat.le_antisymm (qra.1 oo) (qrt.1 oo)
 ·
  rintro rfl;have h1:=(qra (p:=p) (q:=p)).2 Rat.le_refl;have h2:=(qrt (p:=p) (q:=p)).2 Rat.le_refl
  omega
end Go.Proofs.YtmdlbpibipnapaaGreat
namespace Go.Proofs.YtmdlbpibipnapaaGreat
open Go.RowKit
def Mok (B:Int) (m:List Int):Prop:=(∀ x∈m,0<=x/\x<=B)/\m[m.length-1]? ≠ some 0/\m.length<=64
theorem Mok.nil (B:Int):Mok B []:=⟨fun x h=>(by cases h),by simp,by simp⟩
theorem Mok.more {B B':Int} {m:List Int} (h:Mok B m) (hB:B<=B'):Mok B' m:=⟨fun x hx=>⟨(h.1 x hx).1,Int.le_trans (h.1 x hx).2 hB⟩,h.2⟩
theorem Mok.exp {B:Int} {m:List Int} (h:Mok B m) (hB:0<=B) (v:Nat):0<=expAt m v/\expAt m v<=B:=by
 unfold expAt;rw [List.getD_eq_getElem?_getD]
 cases hx:m[v]? with
 | none=>simpa using hB
 | some x=>exact h.1 x (List.mem_of_getElem? hx)
theorem qku {B:Int} {a b:List Int} (hb:Mok B b) (h:∀ v,expAt a v=expAt b v):b.length<=a.length:=by
 rcases Nat.lt_or_ge a.length b.length with hl | hl
 ·
  exfalso;obtain ⟨x,hx⟩:=qab (show b.length-1<b.length by omega);have h1:=h (b.length-1);rw [qb9 oo,qb7 hx] at h1;exact hb.2.1 (by rw [hx,<- h1])
 · exact hl
theorem qrm {B B':Int} {a b:List Int} (ha:Mok B a) (hb:Mok B' b) (h:∀ v,expAt a v=expAt b v):a=b:=by
 have h1:=qku hb h;have h2:=qku ha fun v=>(h v).symm
 apply List.ext_getElem oo;intro i hi1 hi2;have:=h i
 rwa [qb7 (List.getElem?_eq_getElem hi1),qb7 (List.getElem?_eq_getElem hi2)] at this
def gtM (a b:List Int):Prop:=∃ v,expAt b v<expAt a v/\∀ u,v<u->expAt a u=expAt b u
theorem qfu {a b c:List Int} (h:gtM a b) (k:gtM b c):gtM a c:=by
 obtain ⟨v,h1,h2⟩:=h;obtain ⟨u,k1,k2⟩:=k;rcases Nat.lt_trichotomy v u with e | e | e
 · exact ⟨u,by rw [h2 u e];exact k1,fun x hx=>(h2 x oo).trans (k2 x hx)⟩
 · subst e;exact ⟨v,oo,fun x hx=>(h2 x hx).trans (k2 x hx)⟩
 · exact ⟨v,by rw [<- k2 v e];exact h1,fun x hx=>(h2 x hx).trans (k2 x oo)⟩
theorem qf4 {a b:List Int} (h:gtM a b):¬ ∀ v,expAt a v=expAt b v:=fun e=>by
 obtain ⟨v,h1,_⟩:=h;rw [e v] at h1
 omega
theorem qna {a b:List Int} (h:gtM a b) (k:gtM b a):False:=qf4 (qfu h k) fun _=>rfl
theorem qii (a b:List Int):∀ n,(∀ v,n<=v->expAt a v=expAt b v) ->
  (qcp a b n=0/\∀ v,expAt a v=expAt b v)\/(qcp a b n=1/\gtM a b)\/(qcp a b n = -1/\gtM b a)
 | 0,h=>.inl ⟨rfl,fun v=>h v (Nat.zero_le _)⟩
 | n+1,h=>by
  unfold qcp;by_cases e:expAt a n=expAt b n
  ·
   rw [if_pos e];exact qii a b n fun v hv=>by
    rcases Nat.eq_or_lt_of_le hv with e' | e'
    · subst e';exact e
    · exact h v e'
  ·
   rw [if_neg e];by_cases l:expAt a n<expAt b n
   ·
    rw [if_pos l];exact .inr (.inr ⟨rfl,n,l,fun u hu=>(h u hu).symm⟩)
   ·
    rw [if_neg l];exact .inr (.inl ⟨rfl,n,oo,fun u hu=>h u hu⟩)
theorem qf6 (a b:List Int):(lexI a b=0/\∀ v,expAt a v=expAt b v)\/(lexI a b=1/\gtM a b)\/(lexI a b = -1/\gtM b a) :=
 qii a b _ fun v hv=>by rw [qb9 oo,qb9 oo]
theorem qy6 {a b:List Int}:0<lexI a b↔gtM a b:=by
 rcases qf6 a b with ⟨h,e⟩ | ⟨h,e⟩ | ⟨h,e⟩ <;> rw [h]
 · exact ⟨fun h=>by omega,fun h=>(qf4 h e).elim⟩
 · exact ⟨fun _=>e,fun _=>by omega⟩
 · exact ⟨fun h=>by omega,fun h=>(qna h e).elim⟩
theorem qy3 {a b:List Int}:lexI a b<0↔gtM b a:=by
 rcases qf6 a b with ⟨h,e⟩ | ⟨h,e⟩ | ⟨h,e⟩ <;> rw [h]
 · exact ⟨fun h=>by omega,fun h=>(qf4 h fun v=>(e v).symm).elim⟩
 · exact ⟨fun h=>by omega,fun h=>(qna h e).elim⟩
 · exact ⟨fun _=>e,fun _=>by omega⟩
theorem qrl {B B':Int} {a b:List Int} (ha:Mok B a) (hb:Mok B' b) (h1:¬ 0<lexI a b) (h2:¬ lexI a b<0):a=b:=by
 rcases qf6 a b with ⟨h,e⟩ | ⟨h,e⟩ | ⟨h,e⟩
 · exact qrm ha hb e
 · omega
 · omega
theorem qwl {B B':Int} {a b:List Int} (ha:Mok B a) (hb:Mok B' b):a=b\/gtM a b\/gtM b a:=by
 rcases qf6 a b with ⟨_,e⟩ | ⟨_,e⟩ | ⟨_,e⟩
 · exact .inl (qrm ha hb e)
 · exact .inr (.inl e)
 · exact .inr (.inr e)
def mulM (a b:List Int):List Int:=(List.range (max a.length b.length)).map fun v=>expAt a v+expAt b v
theorem qej (a b:List Int):(mulM a b).length=max a.length b.length:=by simp [mulM]
theorem qh5 (a b:List Int) {v:Nat} (h:v<max a.length b.length):(mulM a b)[v]? = some (expAt a v+expAt b v):=by
 unfold mulM;rw [List.getElem?_map,List.getElem?_range h]
 rfl
theorem qg0 (a b:List Int) (v:Nat):expAt (mulM a b) v=expAt a v+expAt b v:=by
 rcases Nat.lt_or_ge v (max a.length b.length) with h | h
 · exact qb7 (qh5 a b h)
 · rw [qb9 (by rw [qej];exact h),qb9 (l:=a) oo,qb9 (l:=b) oo];rfl
theorem qmd {B B':Int} {a b:List Int} (ha:Mok B a) (hb:Mok B' b) (hB:0<=B) (hB':0<=B'):Mok (B+B') (mulM a b):=by
 refine ⟨?_,?_,by rw [qej];have:=ha.2.2;have:=hb.2.2;omega⟩
 ·
  intro x hx;obtain ⟨v,hv,rfl⟩:=List.mem_map.1 hx;have h1:=ha.exp hB v;have h2:=hb.exp hB' v
  omega
 ·
  rw [qej];rcases Nat.eq_zero_or_pos (max a.length b.length) with h | h
  ·
   have:mulM a b=[]:=List.eq_nil_of_length_eq_zero (by rw [qej,h]);rw [this];simp
  ·
   rw [qh5 a b oo];intro e;injection e with e
   have h1:=ha.exp hB (max a.length b.length-1);have h2:=hb.exp hB' (max a.length b.length-1);rcases Nat.le_total a.length b.length with l | l
   ·
    obtain ⟨x,hx⟩:=qab (show b.length-1<b.length by omega);rw [show max a.length b.length=b.length by omega] at e h1 h2;rw [qb7 hx] at e h2;exact hb.2.1 (by rw [hx,show x=0 by omega])
   ·
    obtain ⟨x,hx⟩:=qab (show a.length-1<a.length by omega);rw [show max a.length b.length=a.length by omega] at e h1 h2;rw [qb7 hx] at e h1;exact ha.2.1 (by rw [hx,show x=0 by omega])
theorem qmj (a b:List Int):mulM a b=mulM b a:=by
 unfold mulM;rw [Nat.max_comm];exact List.map_congr_left fun v _=>Int.add_comm _ _
theorem qzs {a b:List Int} (h:gtM a b) (c:List Int):gtM (mulM a c) (mulM b c):=by
 obtain ⟨v,h1,h2⟩:=h;refine ⟨v,by rw [qg0,qg0];omega,fun u hu=>by rw [qg0,qg0,h2 u hu]⟩
theorem qy7 {a:List Int}:mulM a []=a:=by
 apply List.ext_getElem?;intro i;rcases Nat.lt_or_ge i a.length with h | h
 ·
  rw [qh5 a [] (by simpa using h),List.getElem?_eq_getElem h,qb7 (List.getElem?_eq_getElem h),qb9 (l:=[]) (by simp)];simp
 · rw [List.getElem?_eq_none h,List.getElem?_eq_none (by rw [qej];simpa using h)]
abbrev Tm:=Rat × List Int
def coefP:List Tm->List Int->Rat
 | [],_=>0
 | t :: p,m=>(if t.2=m then t.1 else 0)+coefP p m
def Tok (B:Int) (p:List Tm):Prop:=∀ t∈p,Mok B t.2/\t.1≠0
def Pok (B:Int) (p:List Tm):Prop:=Tok B p/\p.Pairwise fun s t=>gtM s.2 t.2
theorem Pok.nil (B:Int):Pok B []:=⟨fun t h=>(by cases h),List.Pairwise.nil⟩
theorem Pok.more {B B':Int} {p:List Tm} (h:Pok B p) (hB:B<=B'):Pok B' p:=⟨fun t ht=>⟨(h.1 t ht).1.more hB,(h.1 t ht).2⟩,h.2⟩
theorem Pok.tail {B:Int} {t:Tm} {p:List Tm} (h:Pok B (t :: p)):Pok B p:=⟨fun s hs=>h.1 s (List.mem_cons_of_mem _ hs),h.2.tail⟩
theorem Pok.head {B:Int} {t:Tm} {p:List Tm} (h:Pok B (t :: p)):Mok B t.2/\t.1≠0:=h.1 t (List.mem_cons_self)
theorem Pok.gt {B:Int} {t:Tm} {p:List Tm} (h:Pok B (t :: p)):∀ s∈p,gtM t.2 s.2:=(List.pairwise_cons.1 h.2).1
theorem Pok.cons {B:Int} {t:Tm} {p:List Tm} (h:Pok B p) (h1:Mok B t.2) (h2:t.1≠0) (h3:∀ s∈p,gtM t.2 s.2):Pok B (t :: p) :=
 ⟨fun s hs => (by rcases List.mem_cons.1 hs with rfl | hs
                  · exact ⟨h1,h2⟩
                  · exact h.1 s hs),List.pairwise_cons.2 ⟨h3,h.2⟩⟩
theorem qkn {p:List Tm} {m:List Int} (h:∀ s∈p,s.2≠m):coefP p m=0:=by
 induction p with
 | nil=>rfl
 | cons t p ih =>
  unfold coefP;rw [if_neg (h t (List.mem_cons_self)),ih fun s hs=>h s (List.mem_cons_of_mem _ hs)]
  grind
theorem qln {a b:List Int} (h:gtM a b):a≠b:=fun e=>qf4 h fun v=>by rw [e]
theorem qd9 {B:Int} {t:Tm} {p:List Tm} (h:Pok B (t :: p)):coefP (t :: p) t.2=t.1:=by
 unfold coefP;rw [if_pos rfl,qkn fun s hs e=>qln (h.gt s hs) e.symm]
 grind
theorem qjv {B:Int} {t:Tm} {p:List Tm} {m:List Int} (h:Pok B (t :: p)) (hm:gtM m t.2):coefP (t :: p) m=0 :=
 qkn fun s hs e=>by
  rcases List.mem_cons.1 hs with rfl | hs
  · exact qln hm e.symm
  · exact qln (qfu hm (h.gt s hs)) e.symm
theorem qlv {B B':Int}:∀ {p q:List Tm},Pok B p->Pok B' q->(∀ m,coefP p m=coefP q m)->p=q
 | [],[],_,_,_=>rfl
 | [],t :: q,_,hq,h=>by
  have:=h t.2;rw [qd9 hq] at this;exact absurd this.symm hq.head.2
 | s :: p,[],hp,_,h=>by
  have:=h s.2;rw [qd9 hp] at this;exact absurd this hp.head.2
 | s :: p,t :: q,hp,hq,h=>by
  rcases qwl hp.head.1 hq.head.1 with e | e | e
  ·
   have h1:s.1=t.1:=by
    have:=h s.2;rw [qd9 hp,e,qd9 hq] at this;exact this
   have h2:s=t:=Prod.ext h1 e;subst h2;rw [qlv hp.tail hq.tail fun m=>by
    have:=h m;unfold coefP at this
    grind]
  ·
   have:=h s.2;rw [qd9 hp,qjv hq e] at this;exact absurd this hp.head.2
  ·
   have:=h t.2;rw [qd9 hq,qjv hp e] at this;exact absurd this.symm hq.head.2
def addP:List Tm->List Tm->List Tm
 | [],q=>q
 | s :: p,[]=>s :: p
 | s :: p,t :: q =>
  if 0<lexI s.2 t.2 then s :: addP p (t :: q)
  else if lexI s.2 t.2<0 then t :: addP (s :: p) q
  else if s.1+t.1=0 then addP p q
  else (s.1+t.1,s.2) :: addP p q
termination_by p q=>p.length+q.length
theorem qeh (p:List Tm):addP p []=p:=by cases p <;> unfold addP <;> rfl
theorem qct (p:List Tm):addP [] p=p:=by unfold addP;rfl
theorem qhw {s t:Tm} {p q:List Tm} (h:0<lexI s.2 t.2):addP (s :: p) (t :: q)=s :: addP p (t :: q):=by rw [addP,if_pos h]
theorem qhk {s t:Tm} {p q:List Tm} (h:lexI s.2 t.2<0):addP (s :: p) (t :: q)=t :: addP (s :: p) q:=by rw [addP,if_neg oo,if_pos h]
theorem qfi {s t:Tm} {p q:List Tm} (h:lexI s.2 t.2=0) (h0:s.1+t.1=0):addP (s :: p) (t :: q)=addP p q:=by rw [addP,if_neg oo,if_neg oo,if_pos h0]
theorem qhn {s t:Tm} {p q:List Tm} (h:lexI s.2 t.2=0) (h0:s.1+t.1≠0):addP (s :: p) (t :: q)=(s.1+t.1,s.2) :: addP p q:=by rw [addP,if_neg oo,if_neg oo,if_neg h0]
theorem qc6:∀ (p q:List Tm),(addP p q).length<=p.length+q.length
 | [],q=>by rw [qct];simp
 | s :: p,[]=>by rw [qeh];simp
 | s :: p,t :: q=>by
  rw [addP]
  split
  · have:=qc6 p (t :: q);simp at this ⊢;omega
  ·
   split
   · have:=qc6 (s :: p) q;simp at this ⊢;omega
   ·
    split
    · have:=qc6 p q;simp at this ⊢;omega
    · have:=qc6 p q;simp at this ⊢;omega
termination_by p q=>p.length+q.length
theorem qdg:∀ (p q:List Tm) (u:Tm),u∈addP p q->u∈p\/u∈q\/∃ s∈p,∃ t∈q,u=(s.1+t.1,s.2)/\lexI s.2 t.2=0/\s.1+t.1≠0
 | [],q,u,h=>by rw [qct] at h;exact .inr (.inl h)
 | s :: p,[],u,h=>by rw [qeh] at h;exact .inl h
 | s :: p,t :: q,u,h=>by
  have fix:∀ {p' q':List Tm},(∀ x∈p',x∈s :: p)->(∀ x∈q',x∈t :: q)->(u∈p'\/u∈q'\/∃ s∈p',∃ t∈q',u=(s.1+t.1,s.2)/\lexI s.2 t.2=0/\s.1+t.1≠0) ->
    (u∈s :: p\/u∈t :: q\/∃ s'∈s :: p,∃ t'∈t :: q,u=(s'.1+t'.1,s'.2)/\lexI s'.2 t'.2=0/\s'.1+t'.1≠0):=fun h1 h2 h3=>by
   rcases h3 with h | h | ⟨a,ha,b,hb,e⟩
   · exact .inl (h1 _ h)
   · exact .inr (.inl (h2 _ h))
   · exact .inr (.inr ⟨a,h1 _ ha,b,h2 _ hb,e⟩)
  have m1:∀ x∈p,x∈s :: p:=fun x hx=>List.mem_cons_of_mem _ hx
  have m2:∀ x∈q,x∈t :: q:=fun x hx=>List.mem_cons_of_mem _ hx
  by_cases c1:0<lexI s.2 t.2
  ·
   rw [qhw c1] at h;rcases List.mem_cons.1 h with rfl | h
   · exact .inl (List.mem_cons_self)
   · exact fix m1 (fun _ h=>h) (qdg p (t :: q) u h)
  ·
   by_cases c2:lexI s.2 t.2<0
   ·
    rw [qhk c2] at h;rcases List.mem_cons.1 h with rfl | h
    · exact .inr (.inl (List.mem_cons_self))
    · exact fix (fun _ h=>h) m2 (qdg (s :: p) q u h)
   ·
    by_cases c3:s.1+t.1=0
    ·
     rw [qfi oo c3] at h;exact fix m1 m2 (qdg p q u h)
    ·
     rw [qhn oo c3] at h;rcases List.mem_cons.1 h with rfl | h
     · exact .inr (.inr ⟨s,List.mem_cons_self,t,List.mem_cons_self,rfl,oo,c3⟩)
     · exact fix m1 m2 (qdg p q u h)
termination_by p q=>p.length+q.length
theorem qfs {B B':Int}:∀ {p q:List Tm},Tok B p->Tok B' q->∀ m,coefP (addP p q) m=coefP p m+coefP q m
 | [],q,_,_,m=>by rw [qct];unfold coefP;grind
 | s :: p,[],_,_,m=>by rw [qeh,coefP.eq_1 m];grind
 | s :: p,t :: q,hp,hq,m=>by
  have hp':Tok B p:=fun x hx=>hp x (List.mem_cons_of_mem _ hx)
  have hq':Tok B' q:=fun x hx=>hq x (List.mem_cons_of_mem _ hx)
  by_cases c1:0<lexI s.2 t.2
  ·
   have:=qfs hp' hq m;rw [qhw c1,coefP,this,coefP.eq_2 m s p];grind
  ·
   by_cases c2:lexI s.2 t.2<0
   ·
    have:=qfs hp hq' m;rw [qhk c2,coefP,this,coefP.eq_2 m t q];grind
   ·
    have e:=qrl (hp s List.mem_cons_self).1 (hq t List.mem_cons_self).1 c1 c2;have:=qfs hp' hq' m;by_cases c3:s.1+t.1=0
    · rw [qfi oo c3,this,coefP.eq_2 m t q,coefP.eq_2 m s p,e];grind
    · rw [qhn oo c3,coefP,this,coefP.eq_2 m t q,coefP.eq_2 m s p,e];dsimp only;grind
termination_by p q=>p.length+q.length
theorem qc9 {B:Int}:∀ {p q:List Tm},Pok B p->Pok B q->Pok B (addP p q)
 | [],q,_,hq=>by rw [qct];exact hq
 | s :: p,[],hp,_=>by rw [qeh];exact hp
 | s :: p,t :: q,hp,hq=>by
  by_cases c1:0<lexI s.2 t.2
  ·
   rw [qhw c1];refine (qc9 hp.tail hq).cons hp.head.1 hp.head.2 fun u hu=>?_
   have g:gtM s.2 t.2:=qy6.1 c1;rcases qdg _ _ _ hu with h | h | ⟨a,ha,b,_,rfl,_⟩
   · exact hp.gt u h
   ·
    rcases List.mem_cons.1 h with rfl | h
    · exact g
    · exact qfu g (hq.gt u h)
   · exact hp.gt a ha
  ·
   by_cases c2:lexI s.2 t.2<0
   ·
    rw [qhk c2];refine (qc9 hp hq.tail).cons hq.head.1 hq.head.2 fun u hu=>?_
    have g:gtM t.2 s.2:=qy3.1 c2;rcases qdg _ _ _ hu with h | h | ⟨a,ha,b,_,rfl,_⟩
    ·
     rcases List.mem_cons.1 h with rfl | h
     · exact g
     · exact qfu g (hp.gt u h)
    · exact hq.gt u h
    ·
     rcases List.mem_cons.1 ha with rfl | ha
     · exact g
     · exact qfu g (hp.gt a ha)
   ·
    have e:=qrl hp.head.1 hq.head.1 c1 c2;by_cases c3:s.1+t.1=0
    · rw [qfi oo c3];exact qc9 hp.tail hq.tail
    ·
     rw [qhn oo c3];refine (qc9 hp.tail hq.tail).cons hp.head.1 c3 fun u hu=>?_
     rcases qdg _ _ _ hu with h | h | ⟨a,ha,b,_,rfl,_⟩
     · exact hp.gt u h
     · rw [e];exact hq.gt u h
     · exact hp.gt a ha
termination_by p q=>p.length+q.length
def qau (p:List Tm) (a:Rat):List Tm:=if a=0 then [] else p.map fun t=>(t.1*a,t.2)
def negP (p:List Tm):List Tm:=qau p (-1)
def subP (p q:List Tm):List Tm:=addP p (negP q)
theorem qu8 {f:Rat->Rat} (h0:f 0=0) (ha:∀ x y,f (x+y)=f x+f y) (p:List Tm) (m:List Int):coefP (p.map fun t=>(f t.1,t.2)) m=f (coefP p m):=by
 induction p with
 | nil=>simp [coefP,h0]
 | cons t p ih =>
  rw [List.map_cons,coefP,ih,coefP,ha];dsimp only
  split
  · rfl
  · rw [h0]
theorem qq0 (p:List Tm) (a:Rat) (m:List Int):coefP (qau p a) m=coefP p m*a:=by
 unfold qau
 split
 · next h=>rw [h];unfold coefP;grind
 · exact qu8 (f:=fun x=>x*a) (by grind) (by grind) p m
theorem qnh (p:List Tm) (m:List Int):coefP (negP p) m = - coefP p m:=by unfold negP;rw [qq0];grind
theorem qfv {B:Int} {p:List Tm} {a:Rat} (h:Pok B p):Pok B (qau p a):=by
 unfold qau
 split
 · exact Pok.nil _
 ·
  next ha =>
  refine ⟨fun t ht=>?_,?_⟩
  ·
   obtain ⟨s,hs,rfl⟩:=List.mem_map.1 ht;exact ⟨(h.1 s hs).1,by have:=(h.1 s hs).2;dsimp only;grind⟩
  ·
   rw [List.pairwise_map];exact h.2
theorem qjc {B:Int} {p:List Tm} (h:Pok B p):Pok B (negP p):=qfv h
theorem qd4 {B:Int} {p q:List Tm} (hp:Pok B p) (hq:Pok B q):Pok B (subP p q):=qc9 hp (qjc hq)
theorem qm1 {B:Int} {p q:List Tm} (hp:Pok B p) (hq:Pok B q) (m:List Int):coefP (subP p q) m=coefP p m-coefP q m:=by
 unfold subP;rw [qfs hp.1 (qjc hq).1,qnh];grind
theorem qk5 (p:List Tm) (a:Rat):(qau p a).length<=p.length:=by unfold qau;split <;> simp
theorem qo8 (p:List Tm):(negP p).length=p.length:=by
 unfold negP qau;rw [if_neg dd];simp
theorem qe9 (p q:List Tm):(subP p q).length<=p.length+q.length:=by
 have:=qc6 p (negP q);rw [qo8] at this;exact this
def qaq (p:List Tm) (t:Tm):List Tm:=p.map fun s=>(s.1*t.1,mulM s.2 t.2)
theorem qvi {B B':Int} {p:List Tm} {t:Tm} (h:Pok B p) (ht:Mok B' t.2) (h0:t.1≠0) (hB:0<=B) (hB':0<=B'):Pok (B+B') (qaq p t):=by
 refine ⟨fun u hu=>?_,?_⟩
 ·
  obtain ⟨s,hs,rfl⟩:=List.mem_map.1 hu;exact ⟨qmd (h.1 s hs).1 ht hB hB',by have:=(h.1 s hs).2;dsimp only;grind⟩
 ·
  unfold qaq;rw [List.pairwise_map];exact h.2.imp fun hg=>qzs hg _
theorem qs5 {p:List Tm} {c:Rat}:qaq p (c,[])=p.map fun t=>(t.1*c,t.2):=by
 unfold qaq;exact List.map_congr_left fun t _=>by rw [qy7]
theorem qgh {p:List Tm} {c:Rat} (h0:c≠0):qaq p (c,[])=qau p c:=by
 unfold qau;rw [if_neg h0,qs5]
def mulP (p q:List Tm):List Tm:=q.foldl (fun out t=>addP out (qaq p t)) []
def pairC (p q:List Tm) (m:List Int):Rat:=match q with
 | []=>0
 | t :: q=>coefP (qaq p t) m+pairC p q m
theorem qj2 {B B':Int} {p:List Tm} (hp:Pok B p) (hB:0<=B) (hB':0<=B'):∀ (q out:List Tm),Tok B' q->Pok (B+B') out ->
  Pok (B+B') (q.foldl (fun out t=>addP out (qaq p t)) out)/\∀ m,coefP (q.foldl (fun out t=>addP out (qaq p t)) out) m=coefP out m+pairC p q m
 | [],out,_,ho=>⟨ho,fun m=>by unfold pairC;rw [List.foldl_nil];grind⟩
 | t :: q,out,hq,ho=>by
  have ht:=hq t List.mem_cons_self;have h1:=qvi hp ht.1 ht.2 hB hB';obtain ⟨h2,h3⟩:=qj2 hp hB hB' q _ (fun x hx=>hq x (List.mem_cons_of_mem _ hx)) (qc9 ho h1);refine ⟨h2,fun m=>?_⟩;rw [List.foldl_cons,h3 m,qfs ho.1 h1.1];rw [pairC]
  grind
theorem qjd {B B':Int} {p q:List Tm} (hp:Pok B p) (hq:Tok B' q) (hB:0<=B) (hB':0<=B'):Pok (B+B') (mulP p q):=(qj2 hp hB hB' q [] hq (Pok.nil _)).1
theorem qm5 {B B':Int} {p q:List Tm} (hp:Pok B p) (hq:Tok B' q) (hB:0<=B) (hB':0<=B') (m:List Int):coefP (mulP p q) m=pairC p q m:=by
 have:=(qj2 hp hB hB' q [] hq (Pok.nil _)).2 m;unfold mulP;rw [this];unfold coefP
 grind
theorem qkz (t:Tm) (p:List Tm) (m:List Int):coefP (t :: p) m=(if t.2=m then t.1 else 0)+coefP p m:=rfl
theorem qsg (s:Tm) (p q:List Tm) (m:List Int):pairC (s :: p) q m=coefP (qaq q s) m+pairC p q m:=by
 induction q with
 | nil=>unfold pairC qaq coefP;grind
 | cons t q ih =>
  rw [pairC,ih,pairC];unfold qaq;rw [List.map_cons,List.map_cons,qkz,qkz];dsimp only;rw [qmj s.2 t.2,Rat.mul_comm s.1 t.1]
  grind
theorem qkv (p:List Tm):∀ (q:List Tm) (m:List Int),pairC p q m=pairC q p m
 | [],m=>by
  induction p with
  | nil=>rfl
  | cons s p ih =>
   have h1:pairC p [] m=0:=rfl;have h2:coefP (qaq [] s) m=0:=rfl
   show (0:Rat)=coefP (qaq [] s) m+pairC [] p m
   rw [<- ih,h1,h2]
   grind
 | t :: q,m=>by rw [pairC,qsg,qkv p q m]
theorem qer {B B':Int} {p q:List Tm} (hp:Pok B p) (hq:Pok B' q) (hB:0<=B) (hB':0<=B'):mulP p q=mulP q p :=
 qlv (qjd hp hq.1 hB hB') (qjd hq hp.1 hB' hB) fun m=>by rw [qm5 hp hq.1 hB hB',qm5 hq hp.1 hB' hB,qkv]
theorem qc3 {p:List Tm} {t:Tm}:mulP p [t]=qaq p t:=by unfold mulP;rw [List.foldl_cons,List.foldl_nil,qct]
theorem qfk {p:List Tm}:mulP p []=[]:=rfl
def Over (D M:Nat) (x:Rat):Prop:=∃ z:Int,x*D=z/\z.natAbs<=M
def PolyO (D M:Nat) (p:List Tm):Prop:=∀ t∈p,Over D M t.1
theorem Over.add {D M M':Nat} {x y:Rat} (h:Over D M x) (k:Over D M' y):Over D (M+M') (x+y):=by
 obtain ⟨z,h1,h2⟩:=h;obtain ⟨u,k1,k2⟩:=k;refine ⟨z+u,?_,oo⟩;rw [Rat.add_mul,h1,k1,Rat.intCast_add]
theorem Over.more {D M M':Nat} {x:Rat} (h:Over D M x) (e:M<=M'):Over D M' x:=by
 obtain ⟨z,h1,h2⟩:=h;exact ⟨z,h1,oo⟩
theorem Over.wide {D M:Nat} {x:Rat} (h:Over D M x) (d:Nat):Over (D*d) (M*d) x:=by
 obtain ⟨z,h1,h2⟩:=h;refine ⟨z*d,?_,?_⟩
 · rw [Rat.natCast_mul,<- Rat.mul_assoc,h1,Rat.intCast_mul,Rat.intCast_natCast]
 · rw [Int.natAbs_mul];exact Nat.mul_le_mul h2 (by simp)
theorem Over.scale {D M:Nat} {x:Rat} (h:Over D M x) (q:Rat):Over (D*q.den) (M*q.num.natAbs) (x*q):=by
 obtain ⟨z,h1,h2⟩:=h;refine ⟨z*q.num,?_,?_⟩
 ·
  have h3:q=(q.num:Rat) / (q.den:Rat):=by rw [<- Rat.mkRat_eq_div,Rat.mkRat_self]
  have h4:(q.den:Rat)≠0:=fun h=>q.den_nz (Rat.natCast_eq_zero_iff.1 h)
  have e:q*(q.den:Rat)=(q.num:Rat):=by
   revert h3 h4;generalize (q.den:Rat)=d;generalize (q.num:Rat)=n;intro h3 h4
   grind
  rw [Rat.natCast_mul,Rat.intCast_mul,<- h1,<- e]
  grind
 · rw [Int.natAbs_mul];exact Nat.mul_le_mul h2 (nlr _)
theorem Over.neg {D M:Nat} {x:Rat} (h:Over D M x):Over D M (x*(-1)):=by
 obtain ⟨z,h1,h2⟩:=h;refine ⟨-z,?_,oo⟩;rw [Rat.intCast_neg,<- h1];grind
theorem PolyO.more {D M M':Nat} {p:List Tm} (h:PolyO D M p) (e:M<=M'):PolyO D M' p:=fun t ht=>(h t ht).more e
theorem PolyO.wide {D M:Nat} {p:List Tm} (h:PolyO D M p) (d:Nat):PolyO (D*d) (M*d) p:=fun t ht=>(h t ht).wide d
theorem PolyO.nil (D M:Nat):PolyO D M []:=fun t h=>(by cases h)
theorem PolyO.add {D M M':Nat} {p q:List Tm} (h:PolyO D M p) (k:PolyO D M' q):PolyO D (M+M') (addP p q):=fun u hu=>by
 rcases qdg _ _ _ hu with e | e | ⟨s,hs,t,ht,rfl,_⟩
 · exact (h u e).more oo
 · exact (k u e).more oo
 · exact (h s hs).add (k t ht)
theorem PolyO.scale {D M:Nat} {p:List Tm} (h:PolyO D M p) (q:Rat):PolyO (D*q.den) (M*q.num.natAbs) (qau p q):=fun u hu=>by
 unfold qau at hu
 split at hu
 · cases hu
 ·
  obtain ⟨s,hs,rfl⟩:=List.mem_map.1 hu;exact (h s hs).scale q
theorem PolyO.neg {D M:Nat} {p:List Tm} (h:PolyO D M p):PolyO D M (negP p):=fun u hu=>by
 unfold negP qau at hu
 split at hu
 · cases hu
 ·
  obtain ⟨s,hs,rfl⟩:=List.mem_map.1 hu;exact (h s hs).neg
theorem PolyO.sub {D M M':Nat} {p q:List Tm} (h:PolyO D M p) (k:PolyO D M' q):PolyO D (M+M') (subP p q):=h.add k.neg
theorem PolyO.times1 {D M:Nat} {p:List Tm} (h:PolyO D M p) (m:List Int):PolyO D M (qaq p (1,m)):=fun u hu=>by
 obtain ⟨s,hs,rfl⟩:=List.mem_map.1 hu;dsimp only;rw [Rat.mul_one];exact h s hs
theorem Over.parts {D M:Nat} {x:Rat} (h:Over D M x) (hD:0<D):x.num.natAbs<=M/\x.den<=D:=by
 obtain ⟨z,h1,h2⟩:=h;have e:x=mkRat z D:=by
  rw [Rat.mkRat_eq_div];have:(D:Rat)≠0:=by
   intro h;have:=Rat.natCast_eq_zero_iff.1 h
   omega
  grind
 rw [e,Rat.num_mkRat,Rat.den_mkRat,if_neg oo,if_neg oo];exact ⟨Nat.le_trans (Int.natAbs_ediv_le_natAbs _ _) h2,Nat.div_le_self _ _⟩
def Agr (X:Nat->Prop) (w V:World):Prop:=∀ p v,¬ X p.block->w.cell? p=some v->V.cell? p=some v
def Rd (X:Nat->Prop) (w:World) (R:World->Prop):Prop:=∀ V,Agr X w V->R V
section
variable {X Y : Nat -> Prop} {w w' w'' V : World} {R R' : World -> Prop}
theorem Agr.refl (X:Nat->Prop) (w:World):Agr X w w:=fun _ _ _ h=>h
theorem Agr.trans (h:Agr X w w') (k:Agr X w' w''):Agr X w w'':=fun p v hp hc=>k p v hp (h p v hp hc)
theorem Agr.mono (h:Agr X w w') (e:∀ b,X b->Y b):Agr Y w w':=fun p v hp hc=>h p v (fun hx=>hp (e _ hx)) hc
theorem Agr.ext (h:Ext w w'):Agr X w w':=fun p v _ hc=>h p v hc
theorem Agr.below (h:Below w.heap.size w w'):Agr X w w':=Agr.ext (xbw h)
theorem Agr.alloc (h:Agr X w w') (o:Obj):Agr X w (w'.alloc o):=fun p v hp hc=>by
 have e:=h p v hp hc;exact (World.cell?_alloc_lt w' o p (World.block_lt_of_cell? w' p e)).trans e
theorem Agr.setc {g i:Nat} {u:Value} (hg:X g) (h:Agr X w w'):Agr X w (w'.setCell ⟨g,i,none⟩ u):=fun p v hp hc =>
 (World.cell?_setCell_other w' ⟨g,i,none⟩ p u (fun e=>by subst e;exact hp hg)).trans (h p v hp hc)
theorem Agr.grown {a:Option Addr} {n c:Nat} (h:Agr X w w') (hg:w'.grownBy w'' (Value.ownBlock (.slice a n c))) (ha:∀ g,a=some g->X g.block):Agr X w w'':=fun p v hp hc =>
 hg.cell (h p v hp hc) (fun e=>by
  cases a with
  | none=>simp [Value.ownBlock] at e
  | some g=>simp [Value.ownBlock] at e;exact hp (e ▸ ha g rfl))
theorem Rd.less {Y:Nat->Prop} (h:Rd Y w R) (e:∀ b,X b->Y b):Rd X w R:=fun V hV=>h V (hV.mono e)
theorem Rd.now (h:Rd X w R):R w:=h w (Agr.refl _ _)
theorem Rd.imp (h:Rd X w R) (e:∀ V,R V->R' V):Rd X w R':=fun V hV=>e V (h V hV)
theorem Rd.and (h:Rd X w R) (k:Rd X w R'):Rd X w fun V=>R V/\R' V:=fun V hV=>⟨h V hV,k V hV⟩
theorem Rd.step (h:Rd X w R) (hw:Agr X w w'):Rd X w' R:=fun V hV=>h V (hw.trans hV)
theorem Rd.call (h:Rd X w R) (hb:Below w.heap.size w w'):Rd X w' R:=h.step (Agr.below hb)
theorem Rd.alloc (h:Rd X w R) (o:Obj):Rd X (w.alloc o) R:=h.step ((Agr.refl _ _).alloc o)
theorem Rd.setc {g i:Nat} {u:Value} (hg:X g) (h:Rd X w R):Rd X (w.setCell ⟨g,i,none⟩ u) R:=h.step (Agr.setc hg (Agr.refl _ _))
theorem Rd.more (h:Rd X w R) (e:∀ b,Y b->X b\/w.heap.size<=b):Rd Y w R:=fun V hV=>h V fun p v hp hc =>
 hV p v (fun hy=>(e _ hy).elim hp fun hl=>absurd (World.block_lt_of_cell? w p hc) oo) hc
theorem Rd.arg (e:∀ V,Ext w V->R V) (hX:∀ b,X b->w.heap.size<=b):Rd X w R:=fun V hV=>e V fun p v hc =>
 hV p v (fun hx=>absurd (World.block_lt_of_cell? w p hc) (by have:=hX _ hx;omega)) hc
end
def Sat (S:World->Prop) (w:World):Prop:=S w
section
variable {α β : Type} {f : α -> List Value} {sz : Nat} {t : TypeId} {B : Nat} {w V : World} {a : Option Addr} {c : Nat} {l : List α} {X : Nat -> Prop}
theorem Own.readsX {E:World->Nat->Nat->β->Prop} (m:List β) (hlen:m.length=l.length) (hf:∀ x,(f x).length=sz) (h:Own f sz t B w a c l) (hV:Agr X w V) (hX:∀ g,a=some g->¬ X g.block)
  (hE:∀ (b o k:Nat) (x:α) (y:β),l[k]? = some x->m[k]? = some y->(∀ j u,(f x)[j]? = some u->V.cell? ⟨b,o+j,none⟩=some u)->E V b o y):SlR sz E V a c m:=by
 refine ⟨by rw [hlen];exact h.cap.1,h.cap.2,fun k y hy=>?_⟩;obtain ⟨x,hx⟩:=qab (show k<l.length by have:=qai hy;omega);obtain ⟨b,ha,hB,_,hc⟩:=h.at_ hf hx;exact ⟨b,0,ha,hE _ _ _ _ _ hx hy (fun j u hu=>hV _ _ (fun hx=>hX _ ha hx) (by simpa using hc j u hu))⟩
end
end Go.Proofs.YtmdlbpibipnapaaGreat
namespace Go.Proofs.YtmdlbpibipnapaaGreat
theorem qvn {l:List Int} (h:U16 l) (hl:l.length<=(limbs (val l)).length):limbs (val l)=l:=by
 obtain ⟨k,hk,e⟩:=qi5 h;have h1:=congrArg List.length e;rw [List.length_take] at h1;rw [e,List.take_of_length_le oo]
theorem qoy {o:List Int} {n1 n2:Nat} (hou:U16 o) (hl:o.length=(limbs n1).length) (h:val o=n1+n2):limbs (n1+n2)=o:=by
 have h1:=qap (show n1<=n1+n2 by omega);rw [<- h] at h1 ⊢;exact qvn hou oo
theorem qnf {o:List Int} {n1 n2 c:Nat} (hou:U16 o) (hc:0<c) (hc2:c<=65535) (h:val o+65536 ^ o.length*c=n1+n2):limbs (n1+n2)=o++[(c:Int)]:=by
 have hv:val (o++[(c:Int)])=n1+n2:=by rw [qgo,<- h];simp
 rw [<- hv];refine qg6 (hou.app (U16.cons oo U16.nil)) fun x hx=>?_
 rw [List.getLast?_append] at hx;simp at hx
 omega
structure MulR (T U O : List Int) (i : Nat) : Prop where
 len:O.length=T.length+U.length
 u16:U16 O
 sum:val O=val (T.take i)*val U
 far:∀ j,i+U.length<=j->j<O.length->O[j]? = some 0
structure MulI (T U O : List Int) (i k c : Nat) (x : Int) : Prop where
 len:O.length=T.length+U.length
 u16:U16 O
 car:c<=65535
 sum:val O+65536 ^ (i+k)*c=val (T.take i)*val U+65536 ^ i*(x.toNat*val (U.take k))
 far:∀ j,i+U.length<=j->j<O.length->O[j]? = some 0
theorem MulR.start (T U:List Int):MulR T U (List.replicate (T.length+U.length) 0) 0 :=
 ⟨by simp,qbw _,by simp [qfx,val],fun j _ hl=>by simp at hl;rw [List.getElem?_replicate,if_pos hl]⟩
theorem MulR.row {T U O:List Int} {i:Nat} (h:MulR T U O i) (x:Int):MulI T U O i 0 0 x:=⟨h.len,h.u16,oo,by simp [h.sum,val],h.far⟩
theorem MulI.next {T U O:List Int} {i k c:Nat} {x z y:Int} (h:MulI T U O i k c x) (hx:0<=x/\x<=65535) (hk:k<U.length) (hz:O[i+k]? = some z) (hy:U[k]? = some y) (hy2:0<=y/\y<=65535)
  {c2 d:Nat} (hd:d+65536*c2=z.toNat+x.toNat*y.toNat+c) (hd2:d<=65535):MulI T U (O.set (i+k) (d:Int)) i (k+1) c2 x:=by
 have hz2:=h.u16.get hz;refine ⟨by rw [List.length_set];exact h.len,h.u16.set_ ⟨oo,oo⟩,qph (z:=z.toNat) (x:=x.toNat) (y:=y.toNat) (c:=c) (d:=d) oo oo oo h.car hd,qo3 T U O i k c c2 d z x y hz (qax hy) h.sum hd,fun j hj hl=>?_⟩;rw [List.getElem?_set_ne oo];exact h.far j hj (by simpa using hl)
theorem MulI.done {T U O:List Int} {i c:Nat} {x:Int} (h:MulI T U O i U.length c x) (hx:T[i]? = some x):MulR T U (O.set (i+U.length) (c:Int)) (i+1):=by
 have hi:=qai hx;have hz:=h.far (i+U.length) (nlr _) (by rw [h.len];omega);have h1:=qjj hz (c:Int);have h2:=h.sum;rw [qaz (nlr _),qmc T U i x hx] at h2;have hc:=h.car;refine ⟨by rw [List.length_set];exact h.len,h.u16.set_ ⟨oo,oo⟩,?_,fun j hj hl=>?_⟩
 ·
  have e:((c:Int)).toNat=c:=oo
  rw [e] at h1;simp only [Int.toNat_zero,Nat.mul_zero,Nat.add_zero] at h1
  omega
 ·
  rw [List.getElem?_set_ne oo];exact h.far j oo (by simpa using hl)
theorem MulR.done {T U O:List Int} (h:MulR T U O T.length):val O=val T*val U:=by rw [h.sum,qaz (nlr _)]
end Go.Proofs.YtmdlbpibipnapaaGreat
namespace Go.Proofs.YtmdlbpibipnapaaGreat
open Go.RowKit
theorem qfz {O:List Int} {k:Nat} (hk:k<O.length) (d:Int):(O.set k d).take (k+1)=O.take k++[d]:=by
 rw [qbb (xs:=O.set k d) (x:=d) (by simp [hk]),List.take_set_of_le (nlr _)]
theorem zz19 {P:Prop} (h:P:=by
 go_wp2;go_roundg (gk-1)
 case rel=>exact ⟨k+1,c2,O.set k (lo:Int),by have:=HKG.out;omega,by go_num,rfl,oo,by show _=_;rw [List.length_set];exact hol.out,hou.set_ oo,HSET.out lo,hwr.setCell (nlr _) _,by show _=_;rw [HTK.out];exact HST.out⟩
 case measure=>have:=HKG.out;omega
 ):P:=h
theorem zz16 {P:Prop} (h:P:=by
 obtain ⟨t,ht⟩:=qab hkn;obtain ⟨bq,oq,rfl,hcq⟩:=(HQ.out.ext (xbw hwr)).cell ht;obtain ⟨ht0,ht1⟩:=huq.get ht;obtain ⟨t,rfl⟩:∃ s:Nat,t=(s:Int):=⟨t.toNat,oo⟩
 have HST:=HSTEP.out;rw [qax ht,Int.toNat_natCast] at HST;obtain ⟨lo,hlo⟩:=nm ((cc+y+t) % 65536)
 obtain ⟨c2,hc2⟩:=nm ((cc+y+t) / 65536)
 have hw1:IntKind.u16.wrap ((cc:Int)+(y:Int)+(t:Int))=(lo:Int):=by
  have:=qcn (cc+y+t);rw [hlo] at this;rw [<- this];simp
 have hw2:((cc:Int)+(y:Int)+(t:Int)) / 65536=(c2:Int):=oo
 have hlo1:lo<=65535:=oo
 have hc21:c2<=1:=oo
 replace HST:=Hd (HST c2 lo oo);clear ht hlo hc2 HSTEP;exact zz19
 ):P:=h
theorem zz17 {P:Prop} (h:P:=by
 have HRES:=Hd hres;have HLO:Hid ((O++[(cc:Int)]).length<=16777216):=Hd (by rw [List.length_append,hol.out];simp;omega);obtain rfl:cc=1:=oo
 have hown2:=HOWN.out;have hoL:=hol.out;have hltO:¬ O.length<O.length:=Nat.lt_irrefl _;rw [<- hoL] at hown2 ⊢;obtain ⟨cO,hcO⟩:=nm (O.length+1)
 rw [hcO] at hown2 ⊢;replace HOWN:=Hd hown2;replace hoL:=Hd hoL;clear hres hown2 hcz hcO;go_wp2_with (at_builtin;go_must (refine qd0 rfl (.tmp 58) (.tmp 61) rfl (some ⟨w.heap.size,0,none⟩) cO rfl (HOWN.out.alloc _) ((1:Nat):Int) wr.heap.size 1 rfl (by simp) (O++[((1:Nat):Int)]) rfl HLO.out (by have:=hwr.size;simp;omega) ?_);intro a2 c2 w2 ho2 hg2 hx2);go_ret;exact RetN.own ho2 (hou.app (U16.cons oo U16.nil)) (qal (hwr.alloc hwr.size _) (HOWN.out.alloc _) hg2) (by rw [HSUM.out];exact HRES.out) (by simp)
 ):P:=h
theorem zz18 {P:Prop} (h:P:=by
 have HST:=HSTEP.out;rw [qb1 oo] at HST;obtain ⟨lo,hlo⟩:=nm ((cc+y) % 65536)
 obtain ⟨c2,hc2⟩:=nm ((cc+y) / 65536)
 have hw1:IntKind.u16.wrap ((cc:Int)+(y:Int))=(lo:Int):=by
  have:=qcn (cc+y);rw [hlo] at this;rw [<- this];simp
 have hw2:((cc:Int)+(y:Int)) / 65536=(c2:Int):=oo
 have hlo1:lo<=65535:=oo
 have hc21:c2<=1:=oo
 replace HST:=Hd (HST c2 lo (by simp;omega));clear hlo hc2 HSTEP;exact zz19
 ):P:=h
theorem zz20 {P:Prop} (h:P:=by
 have h1:=hval.out;rw [qaz (by rw [hol.out];omega),qaz (nlr _),qaz oo,HVP.out,HVQ.out] at h1;rw [hol.out];exact h1
 ):P:=h
theorem qx8 (l m:List Int) (n1 n2:Nat) (a a':Option Addr) (c c':Nat) (w:World) (h:NatR w a c l) (h':NatR w a' c' m) (hn:val l=n1) (hk:val m=n2) (hl:l.length<=10000000) (hm:m.length<=10000000) :
  Calls Tryz.prog 193 #[.slice a l.length c,.slice a' m.length c'] w (RetN (limbs (n1+n2)) w):=by
 have C1:=qa4 l a c w h;have C2:=qa4 m a' c' w h';have hP:=h.trim;have hQ:=h'.trim;have hl1:=qah h.u16;have hl2:=qah h'.u16;rw [hn] at C1 hP hl1;rw [hk] at C2 hQ hl2;have hup:=qa9 n1;have huq:=qa9 n2;have hvp:=qac n1;have hvq:=qac n2;obtain ⟨M,hM⟩:=nm (n1+n2)
 rw [hM];have HSUM0:=Hd hM;have hT0:(limbs n1).length<=10000000:=oo
 have hU0:(limbs n2).length<=10000000:=oo
 clear hl1 hl2 h h' hn hk hM;obtain ⟨T,hT⟩:=nm (limbs n1)
 obtain ⟨U,hU⟩:=nm (limbs n2)
 have HT:=Hd hT;have HU:=Hd hU;rw [hT] at C1 hP hup hvp hT0;rw [hU] at C2 hQ huq hvq hU0;replace C1:=Hd C1;replace C2:=Hd C2;clear hT hU;by_cases hcmp:T.length<U.length
 ·
  have HP:=Hd hQ;have HQ:=Hd hP;have HVP:=Hd hvq;have HVQ:=Hd hvp;have HLP:Hid (U.length=(limbs n2).length):=Hd (by rw [HU.out]);have HSUM:Hid (M=n2+n1):=Hd (by rw [<- HSUM0.out,Nat.add_comm]);clear hP hQ hvp hvq;obtain ⟨hup,huq⟩:=And.intro huq hup;have hmk:=qfy .i64 U.length (U.length+1) oo oo w;simp only [Int.natCast_add,Int.cast_ofNat_Int] at hmk;go_enter Tryz.func193,Tryz.ntmps193;go_wp2_with fail;refine C1.out.mono ?_;rintro e w1 ⟨rfl,rfl⟩;go_wp2_with fail;refine C2.out.mono ?_;rintro e w1 ⟨rfl,rfl⟩;go_wp2;clear hmk C1 C2;have hz0:=BlkN.new w (U.length+1);have hb0:Below w.heap.size w (w.alloc (.cells (madeCells #[.int .u16 0] (U.length+1)) 105)):=brf.alloc (nlr _) _;have hz:RowN (w.alloc (.cells (madeCells #[.int .u16 0] (U.length+1)) 105)) w.heap.size (List.replicate U.length 0) [.int .u16 0]:=by
   have h1:=(RowN.of hz0).cut U.length;have e1:(List.replicate (U.length+1) (0:Int)).take U.length=List.replicate U.length 0:=by rw [List.take_replicate];congr 1;omega
   have e2:(List.replicate (U.length+1) (0:Int)).drop U.length=[0]:=by rw [List.drop_replicate,show U.length+1-U.length=1 by omega];rfl
   rw [e1,e2] at h1;exact h1
  clear hz0;revert hz hb0;generalize w.alloc (.cells (madeCells #[.int .u16 0] (U.length+1)) 105)=w0;intro hb0 hz
  go_loopg [6,7,8,28] U.length (fun g s6 _ _ s28 wr=>∃ (k cc:Nat) (O:List Int),k+g=U.length/\s28=.int .i64 k/\s6=.int .u32 cc/\cc<=1/\Hid (O.length=U.length)/\U16 O/\RowN wr w.heap.size O [.int .u16 0]/\Below w.heap.size w wr /\
   Hid (val (O.take k)+65536 ^ k*cc=val (U.take k)+val (T.take k)))
  case atStart=>exact ⟨0,0,_,oo,rfl,rfl,oo,by show _=_;simp,qbw _,hz,hb0,by show _=_;simp [val]⟩
  case round =>
   clear hz hb0;obtain ⟨k,cc,O,hkg,rfl,rfl,hc1,hol,hou,hrow,hwr,hval⟩:=hrel;have HROW:=Hd hrow;have HKG:=Hd hkg;clear hrow hkg;by_cases hlt:k<U.length
   ·
    obtain ⟨x,hx⟩:=qab hlt;obtain ⟨hx0,hx1⟩:=hup.get hx;obtain ⟨bp,op,rfl,hcp⟩:=(HP.out.ext (xbw hwr)).cell hx;have hkO:k<O.length:=by rw [hol.out];exact hlt
    obtain ⟨z,hz⟩:=qab hkO;have hcell:=HROW.out.cell hz;have hfr:=HROW.out.frozen k;have hsx:=qax hx;have hset:=fun q:Int=>HROW.out.set_ hkO q
    have HSET:=Hd hset;have htk:=fun q:Int=>qfz hkO q
    have hstep:=fun c2 d h1=>qh2 U T (O.take k) k cc c2 d (by rw [List.length_take];omega) hval.out h1
    rw [hsx] at hstep;obtain ⟨y,rfl⟩:∃ y:Nat,x=(y:Int):=⟨x.toNat,oo⟩
    rw [Int.toNat_natCast] at hstep;have HTK:=Hd htk;have HSTEP:=Hd hstep;clear hset hstep htk hval hx hsx hz;by_cases hkn:k<T.length
    ·
     exact zz16
    ·
     exact zz18
   ·
    obtain rfl:k=U.length:=by have:=HKG.out;omega
    have hfin:val O+65536 ^ O.length*cc=n2+n1:=by
     exact zz20
    have hown:OwnN w.heap.size wr (some ⟨w.heap.size,0,none⟩) (U.length+1) O:=by
     have h1:=HROW.out.own (nlr _) (c:=U.length+1) (by rw [hol.out];rfl) (by unfold maxLen;omega) O.length (nlr _)
     rwa [List.take_length] at h1
    have HOWN:=Hd hown;have HFIN:=Hd hfin;clear hown hfin hval;by_cases hcz:cc=0
    ·
     subst hcz;have hres:limbs (n2+n1)=O:=by
      have h1:=HFIN.out;rw [Nat.mul_zero,Nat.add_zero] at h1;exact qoy hou (by rw [hol.out,HLP.out]) h1
     have HRES:=Hd hres;clear hres;go_wp2;go_ret;refine RetN.own (l:=O) HOWN.out hou hwr (by rw [HSUM.out];exact HRES.out) (hol.out.symm)
    ·
     have hres:limbs (n2+n1)=O++[(cc:Int)]:=qnf hou oo oo HFIN.out;exact zz17
 ·
  have HP:=Hd hP;have HQ:=Hd hQ;have HVP:=Hd hvp;have HVQ:=Hd hvq;have HLP:Hid (T.length=(limbs n1).length):=Hd (by rw [HT.out]);have HSUM:Hid (M=n1+n2):=Hd HSUM0.out.symm;clear hP hQ hvp hvq;have hmk:=qfy .i64 T.length (T.length+1) oo oo w;simp only [Int.natCast_add,Int.cast_ofNat_Int] at hmk;go_enter Tryz.func193,Tryz.ntmps193;go_wp2_with fail;refine C1.out.mono ?_;rintro e w1 ⟨rfl,rfl⟩;go_wp2_with fail;refine C2.out.mono ?_;rintro e w1 ⟨rfl,rfl⟩;go_wp2;clear hmk C1 C2;have hz0:=BlkN.new w (T.length+1);have hb0:Below w.heap.size w (w.alloc (.cells (madeCells #[.int .u16 0] (T.length+1)) 105)):=brf.alloc (nlr _) _;have hz:RowN (w.alloc (.cells (madeCells #[.int .u16 0] (T.length+1)) 105)) w.heap.size (List.replicate T.length 0) [.int .u16 0]:=by
   have h1:=(RowN.of hz0).cut T.length;have e1:(List.replicate (T.length+1) (0:Int)).take T.length=List.replicate T.length 0:=by rw [List.take_replicate];congr 1;omega
   have e2:(List.replicate (T.length+1) (0:Int)).drop T.length=[0]:=by rw [List.drop_replicate,show T.length+1-T.length=1 by omega];rfl
   rw [e1,e2] at h1;exact h1
  clear hz0;revert hz hb0;generalize w.alloc (.cells (madeCells #[.int .u16 0] (T.length+1)) 105)=w0;intro hb0 hz
  go_loopg [6,7,8,28] T.length (fun g s6 _ _ s28 wr=>∃ (k cc:Nat) (O:List Int),k+g=T.length/\s28=.int .i64 k/\s6=.int .u32 cc/\cc<=1/\Hid (O.length=T.length)/\U16 O/\RowN wr w.heap.size O [.int .u16 0]/\Below w.heap.size w wr /\
   Hid (val (O.take k)+65536 ^ k*cc=val (T.take k)+val (U.take k)))
  case atStart=>exact ⟨0,0,_,oo,rfl,rfl,oo,by show _=_;simp,qbw _,hz,hb0,by show _=_;simp [val]⟩
  case round =>
   clear hz hb0;obtain ⟨k,cc,O,hkg,rfl,rfl,hc1,hol,hou,hrow,hwr,hval⟩:=hrel;have HROW:=Hd hrow;have HKG:=Hd hkg;clear hrow hkg;by_cases hlt:k<T.length
   ·
    obtain ⟨x,hx⟩:=qab hlt;obtain ⟨hx0,hx1⟩:=hup.get hx;obtain ⟨bp,op,rfl,hcp⟩:=(HP.out.ext (xbw hwr)).cell hx;have hkO:k<O.length:=by rw [hol.out];exact hlt
    obtain ⟨z,hz⟩:=qab hkO;have hcell:=HROW.out.cell hz;have hfr:=HROW.out.frozen k;have hsx:=qax hx;have hset:=fun q:Int=>HROW.out.set_ hkO q
    have HSET:=Hd hset;have htk:=fun q:Int=>qfz hkO q
    have hstep:=fun c2 d h1=>qh2 T U (O.take k) k cc c2 d (by rw [List.length_take];omega) hval.out h1
    rw [hsx] at hstep;obtain ⟨y,rfl⟩:∃ y:Nat,x=(y:Int):=⟨x.toNat,oo⟩
    rw [Int.toNat_natCast] at hstep;have HTK:=Hd htk;have HSTEP:=Hd hstep;clear hset hstep htk hval hx hsx hz;by_cases hkn:k<U.length
    ·
     exact zz16
    ·
     exact zz18
   ·
    obtain rfl:k=T.length:=by have:=HKG.out;omega
    have hfin:val O+65536 ^ O.length*cc=n1+n2:=by
     exact zz20
    have hown:OwnN w.heap.size wr (some ⟨w.heap.size,0,none⟩) (T.length+1) O:=by
     have h1:=HROW.out.own (nlr _) (c:=T.length+1) (by rw [hol.out];rfl) (by unfold maxLen;omega) O.length (nlr _)
     rwa [List.take_length] at h1
    have HOWN:=Hd hown;have HFIN:=Hd hfin;clear hown hfin hval;by_cases hcz:cc=0
    ·
     subst hcz;have hres:limbs (n1+n2)=O:=by
      have h1:=HFIN.out;rw [Nat.mul_zero,Nat.add_zero] at h1;exact qoy hou (by rw [hol.out,HLP.out]) h1
     have HRES:=Hd hres;clear hres;go_wp2;go_ret;refine RetN.own (l:=O) HOWN.out hou hwr (by rw [HSUM.out];exact HRES.out) (hol.out.symm)
    ·
     have hres:limbs (n1+n2)=O++[(cc:Int)]:=qnf hou oo oo HFIN.out;exact zz17
theorem zz21 {P:Prop} (h:P:=by
 clear hp1 hp2 h0 hT;go_enter Tryz.func188,Tryz.ntmps188;go_wp2_with fail;refine C1.out.mono ?_;rintro e w1 ⟨rfl,rfl⟩;go_wp2_with fail;refine C2.out.mono ?_;rintro e w1 ⟨rfl,rfl⟩;go_wp2;go_ret;exact ⟨none,0,rfl,fun _ _=>SlR.nil,Below.refl _ _⟩
 ):P:=h
theorem qmp (l m:List Int) (n1 n2:Nat) (a a':Option Addr) (c c':Nat) (w:World) (h:NatR w a c l) (h':NatR w a' c' m) (hn:val l=n1) (hk:val m=n2) (h0:n1=0\/n2=0) :
  Calls Tryz.prog 188 #[.slice a l.length c,.slice a' m.length c'] w (RetN [] w):=by
 have C1:=qa4 l a c w h;have C2:=qa4 m a' c' w h';rw [hn] at C1;rw [hk] at C2;have hp1:=qat (n:=n1);have hp2:=qat (n:=n2);have hle:=h'.len;have hle2:=qah h'.u16;rw [hk] at hle2;clear h h' hn hk;revert C1 C2 hp1 hp2 hle2;generalize (limbs n1).length=T;generalize (limbs n2).length=U;intro C1 C2 hp1 hp2 hle2;replace C1:=Hd C1;replace C2:=Hd C2;by_cases hT:T=0
 ·
  have hT1:((T:Int)==0)=true:=by rw [beq_iff_eq];omega
  exact zz21
 ·
  have hT1:((T:Int)==0)=false:=by rw [beq_eq_false_iff_ne];omega
  have hU1:((U:Int)==0)=true:=by rw [beq_iff_eq];omega
  exact zz21
theorem qyt (l m:List Int) (n1 n2:Nat) (a a':Option Addr) (c c':Nat) (w:World) (h:NatR w a c l) (h':NatR w a' c' m) (hn:val l=n1) (hk:val m=n2) (hl:l.length<=8000000) (hm:m.length<=8000000) (h1:n1≠0) (h2:n2≠0) :
  Calls Tryz.prog 188 #[.slice a l.length c,.slice a' m.length c'] w (RetN (limbs (n1*n2)) w):=by
 have C1:=qa4 l a c w h;have C2:=qa4 m a' c' w h';have hP:=h.trim;have hQ:=h'.trim;have hl1:=qah h.u16;have hl2:=qah h'.u16;rw [hn] at C1 hP hl1;rw [hk] at C2 hQ hl2;have hup:=qa9 n1;have huq:=qa9 n2;have hvp:=qac n1;have hvq:=qac n2;have hp1:=qat.2 (show 0<n1 by omega);have hp2:=qat.2 (show 0<n2 by omega);obtain ⟨M,hM⟩:=nm (n1*n2)
 rw [hM];have HM:=Hd hM;have hT0:(limbs n1).length<=8000000:=oo
 have hU0:(limbs n2).length<=8000000:=oo
 clear hl1 hl2 h h' hn hk hM h1 h2;revert C1 C2 hP hQ hup huq hvp hvq hp1 hp2 hT0 hU0;generalize limbs n1=T;generalize limbs n2=U;intro C1 C2 hP hQ hup huq hvp hvq hp1 hp2 hT0 hU0;have HP:=Hd hP;have HQ:=Hd hQ;have HVP:=Hd hvp;have HVQ:=Hd hvq;have HUP:=Hd hup;have HUQ:=Hd huq;replace C1:=Hd C1;replace C2:=Hd C2;have hT1:((T.length:Int)==0)=false:=by rw [beq_eq_false_iff_ne];omega
 have hU1:((U.length:Int)==0)=false:=by rw [beq_eq_false_iff_ne];omega
 have hmk:∀ w,(Instr.makeSlice 28 (.int .i64 ((T.length:Int)+U.length)) (.int .i64 ((T.length:Int)+U.length))).run Tryz.prog w=.ok (.slice (some ⟨w.heap.size,0,none⟩) (T.length+U.length) (T.length+U.length)) (w.alloc (.cells (madeCells #[.int .u16 0] (T.length+U.length)) 105)):=fun w=>by
  have:=qco .i64 (T.length+U.length) oo w;simpa using this
 clear hP hQ hvp hvq hup huq;go_enter Tryz.func188,Tryz.ntmps188;go_wp2_with fail;refine C1.out.mono ?_;rintro e w1 ⟨rfl,rfl⟩;go_wp2_with fail;refine C2.out.mono ?_;rintro e w1 ⟨rfl,rfl⟩;go_wp2;clear hmk C1 C2 hT1 hU1;have hz:=BlkN.new w (T.length+U.length);have hb0:Below w.heap.size w (w.alloc (.cells (madeCells #[.int .u16 0] (T.length+U.length)) 105)):=brf.alloc (nlr _) _;revert hz hb0;generalize w.alloc (.cells (madeCells #[.int .u16 0] (T.length+U.length)) 105)=w0;intro hz hb0
 go_loopg [6,7,8,9,10,31] T.length (fun g _ _ _ _ _ s31 wr=>∃ (i:Nat) (O:List Int),i+g=T.length/\s31=.int .i64 i/\Hid (MulR T U O i)/\BlkN wr w.heap.size O/\Below w.heap.size w wr)
 case atStart=>exact ⟨0,_,oo,rfl,MulR.start T U,hz,hb0⟩
 case round =>
  clear hz hb0;obtain ⟨i,O,hig,rfl,hR,hrow,hwr⟩:=hrel;have HROW:=Hd hrow;have HIG:=Hd hig;clear hrow hig;by_cases hlt:i<T.length
  ·
   obtain ⟨x,hx⟩:=qab hlt;obtain ⟨hx0,hx1⟩:=HUP.out.get hx;obtain ⟨bp,op,rfl,hcp⟩:=(HP.out.ext (xbw hwr)).cell hx;have hI:=hR.out.row x;have HX:=Hd hx;have HI:=Hd hI;clear hx hI hR;go_wp2;clear hcp;obtain ⟨wo,rfl⟩:∃ wo:World,wo=wr:=⟨_,rfl⟩
   obtain ⟨gk0,rfl⟩:∃ gk0:Nat,gk0=gk:=⟨_,rfl⟩
   go_loopg [8,9,10,38] U.length (fun g s8 _ _ s38 w2=>∃ (k cc:Nat) (O2:List Int),k+g=U.length/\s38=.int .i64 k/\s8=.int .u32 cc/\cc<=65535/\Hid (MulI T U O2 i k cc x)/\BlkN w2 w.heap.size O2/\Below w.heap.size w w2)
   case atStart=>exact ⟨0,0,O,oo,rfl,rfl,oo,HI.out,HROW.out,hwr⟩
   case round =>
    clear HI HROW hwr O;obtain ⟨k,cc,O,hkg,rfl,rfl,hcc,hI,hrow,hwr⟩:=hrel;have HROW:=Hd hrow;have HKG:=Hd hkg;clear hrow hkg;by_cases hkn:k<U.length
    ·
     obtain ⟨y,hy⟩:=qab hkn;obtain ⟨hy0,hy1⟩:=HUQ.out.get hy;obtain ⟨bq,oq,rfl,hcq⟩:=(HQ.out.ext (xbw hwr)).cell hy;obtain ⟨z,hz⟩:=qab (xs:=O) (k:=i+k) (by rw [hI.out.len];omega);obtain ⟨hz0,hz1⟩:=hI.out.u16.get hz;have hcell:=HROW.out.cell hz;have hfr:=HROW.out.frozen (i+k);have hset:=fun q:Int=>HROW.out.set_ (i+k) q
     have HSET:=Hd hset;have hstep:=fun (c2 d:Nat)=>hI.out.next ⟨hx0,hx1⟩ hkn hz hy ⟨hy0,hy1⟩ (c2:=c2) (d:=d)
     have hI2:(i:Int)+k<(T.length:Int)+U.length:=oo
     have hxy:0<=x*y:=Int.mul_nonneg hx0 hy0;have hxy2:x*y<=4294836225:=by
      have:=Int.mul_le_mul hx1 hy1 hy0 oo
      omega
     obtain ⟨s,hs⟩:∃ s:Nat,(cc:Int)+(z+x*y)=(s:Int):=⟨((cc:Int)+(z+x*y)).toNat,oo⟩
     have hs2:s=z.toNat+x.toNat*y.toNat+cc:=by
      have ex:(x.toNat:Int)=x:=oo
      have ey:(y.toNat:Int)=y:=oo
      have ez:(z.toNat:Int)=z:=oo
      have:((z.toNat+x.toNat*y.toNat+cc:Nat):Int)=z+x*y+cc:=by
       rw [Int.natCast_add,Int.natCast_add,Int.natCast_mul,ex,ey,ez]
      omega
     have hslt:s<4294967296:=oo
     obtain ⟨lo,hlo⟩:=nm (s % 65536)
     obtain ⟨c2,hc2⟩:=nm (s / 65536)
     have HST:=Hd (hstep c2 lo oo oo);have hw16:IntKind.u16.wrap (s:Int)=(lo:Int):=by rw [qcn,hlo]
     have hdv:(s:Int) / 65536=(c2:Int):=oo
     have hlo2:lo<=65535:=oo
     have hc22:c2<=65535:=oo
     clear hset hstep hz hy hs2 hlo hc2 hI;go_wp2;go_roundg (gk-1)
     case rel=>exact ⟨k+1,c2,O.set (i+k) (lo:Int),by have:=HKG.out;omega,by go_num,rfl,oo,HST.out,HSET.out lo,hwr.setCell (nlr _) _⟩
     case measure=>have:=HKG.out;omega
    ·
     obtain rfl:k=U.length:=by have:=HKG.out;omega
     have hdone:=hI.out.done HX.out;have HD:=Hd hdone;obtain ⟨z,hz⟩:=qab (xs:=O) (k:=i+U.length) (by rw [hI.out.len];omega);have hcell:=HROW.out.cell hz;have hfr:=HROW.out.frozen (i+U.length);have hset:=fun q:Int=>HROW.out.set_ (i+U.length) q
     have HSET:=Hd hset;have hI2:(i:Int)+U.length<(T.length:Int)+U.length:=oo
     have hw16:IntKind.u16.wrap (cc:Int)=(cc:Int):=by rw [qcn,Nat.mod_eq_of_lt oo]
     clear hset hz hdone hI;go_wp2;go_roundg (gk0-1)
     case rel=>exact ⟨i+1,O.set (i+U.length) (cc:Int),by have:=HIG.out;omega,by go_num,HD.out,HSET.out cc,hwr.setCell (nlr _) _⟩
     case measure=>have:=HIG.out;omega
  ·
   obtain rfl:i=T.length:=by have:=HIG.out;omega
   have hvO:val O=M:=by rw [hR.out.done,HVP.out,HVQ.out];exact HM.out
   have hol:=hR.out.len;have hou:=hR.out.u16;have hcap:T.length+U.length<=maxLen:=by unfold maxLen;omega
   have CT:=qa4 O (some ⟨w.heap.size,0,none⟩) (T.length+U.length) wr (HROW.out.readsV (nlr _) (New.refl _ _) hou (by rw [hol];omega) hcap);have hread:∀ V,New w.heap.size wr V->NatR V (some ⟨w.heap.size,0,none⟩) (T.length+U.length) (limbs M):=fun V hV=>by
    rw [<- hvO];exact (HROW.out.readsV (nlr _) hV hou (by rw [hol];omega) hcap).trim
   rw [hvO,hol] at CT;have HRD:=Hd hread;replace CT:=Hd CT;clear hread hvO hR hol;go_wp2_with fail;refine CT.out.mono ?_;rintro e w3 ⟨rfl,rfl⟩;go_wp2;go_ret;exact ⟨_,_,rfl,HRD.out,hwr⟩
theorem qkd (l m:List Int) (n1 n2:Nat) (a a':Option Addr) (c c':Nat) (w:World) (h:NatR w a c l) (h':NatR w a' c' m) (hn:val l=n1) (hk:val m=n2) (hl:l.length<=8000000) (hm:m.length<=8000000) :
  Calls Tryz.prog 188 #[.slice a l.length c,.slice a' m.length c'] w (RetN (limbs (n1*n2)) w):=by
 by_cases h1:n1=0
 ·
  rw [h1,Nat.zero_mul,qao];exact qmp l m n1 n2 a a' c c' w h h' hn hk (.inl h1)
 ·
  by_cases h2:n2=0
  ·
   rw [h2,Nat.mul_zero,qao];exact qmp l m n1 n2 a a' c c' w h h' hn hk (.inr h2)
  · exact qyt l m n1 n2 a a' c c' w h h' hn hk hl hm h1 h2
end Go.Proofs.YtmdlbpibipnapaaGreat
