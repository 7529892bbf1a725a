/- Walks: the reference's rational numbers: sums and differences as rational numbers. -/
import Derived.Test.YtmdlbpibipnapaaGreatRd9
import Derived.Test.YtmdlbpibipnapaaGreatRd8
import Derived.LoopN
import Derived.Test.YtmdlbpibipnapaaGreatRd1
set_option linter.all false
set_option maxRecDepth 100000
set_option maxHeartbeats 4000000
namespace Go.Proofs.YtmdlbpibipnapaaGreat
open Go.RowKit
theorem qef (neg:Bool) (l m:List Int) (n d:Nat) (a a':Option Addr) (c c':Nat) (w:World) (h:NatR w a c l) (h':NatR w a' c' m) (hn:val l=n) (hk:val m=d) (hl:l.length<=2000000) (hm:m.length<=2000000) :
  Calls Tryz.prog 27 #[.agg #[.bool neg,.slice a l.length c],.slice a' m.length c'] w (RetF (qak neg n d) w):=by
 have hll:=qah h.u16;rw [hn] at hll;have hlm:=qah h'.u16;rw [hk] at hlm;by_cases hd:d=0
 ·
  rw [hd,qr9];exact qjr neg l m n d a a' c c' w h h' hn hk hl hm (.inl hd)
 ·
  by_cases h0:n=0
  ·
   rw [h0,qjt _ hd];exact qjr neg l m n d a a' c c' w h h' hn hk hl hm (.inr h0)
  ·
   by_cases h1:d=1
   ·
    rw [qet h0 hd (by rw [h1,Nat.gcd_one_right])];exact qon neg l m n d a a' c c' w h h' hn hk hl hm h0 h1
   ·
    by_cases hg:Nat.gcd n d=1
    ·
     rw [qet h0 hd hg];exact qnp neg l m n d a a' c c' w h h' hn hk hl hm h0 hd h1 oo oo hg
    ·
     rw [qjz h0 hd];exact qlw neg l m n d a a' c c' w h h' hn hk hl hm h0 hd h1 oo oo hg
theorem qst (z:Int):qak (decide (z<0)) z.natAbs 1=(decide (z<0),z.natAbs,1):=by
 unfold qak;rw [if_neg oo,Nat.gcd_one_right,Nat.div_one];by_cases hz:z<0
 ·
  have:decide (0<z.natAbs)=true:=by rw [decide_eq_true_eq];omega
  rw [this,Bool.and_true]
 · rw [decide_eq_false hz,Bool.false_and]
theorem qwy (neg1 neg2:Bool) (l m:List Int) (n1 n2:Nat) (a a':Option Addr) (c c':Nat) (w:World) (h:NatR w a c l) (h':NatR w a' c' m) (hn:val l=n1) (hk:val m=n2) (hl:l.length<=2000000) (hm:m.length<=2000000) (h0:n2≠0) :
  Calls Tryz.prog 48 #[.agg #[.bool neg1,.slice a l.length c],.agg #[.bool neg2,.slice a' m.length c']] w (RetM (qak (neg1 != neg2) n1 n2) w):=by
 have CS:=fun W (hW:bw w W)=>qm2 neg2 m n2 a' c' W (h'.ext (xbw hW)) hk oo
 have CO1:=fun W (hW:bw w W)=>qef (neg1 != neg2) l m n1 n2 a a' c c' W (h.ext (xbw hW)) (h'.ext (xbw hW)) hn hk hl hm
 have hsg:sgnZ neg2 n2≠0:=by
  unfold sgnZ;rw [if_neg h0]
  split <;> decide
 obtain ⟨sg,hsg2⟩:=nm (sgnZ neg2 n2)
 rw [hsg2] at CS hsg;have hne:(sg==0)=false:=by rw [beq_eq_false_iff_ne];exact hsg
 have hz:Blk (((w.alloc (.cells #[.bool neg1,.slice a l.length c] 30)).alloc (.cells #[.bool neg2,.slice a' m.length c'] 30)).alloc (.cells #[.bool false,.slice none 0 0,.slice none 0 0] 32)) (w.heap.size+1+1) 32 #[.bool false,.slice none 0 0,.slice none 0 0]:=qb6 w _ _ _ _;have hx1:Blk (((w.alloc (.cells #[.bool neg1,.slice a l.length c] 30)).alloc (.cells #[.bool neg2,.slice a' m.length c'] 30)).alloc (.cells #[.bool false,.slice none 0 0,.slice none 0 0] 32)) w.heap.size 30 #[.bool neg1,.slice a l.length c]:=((Blk.new w _ _).alloc _).alloc _;have hx2:Blk (((w.alloc (.cells #[.bool neg1,.slice a l.length c] 30)).alloc (.cells #[.bool neg2,.slice a' m.length c'] 30)).alloc (.cells #[.bool false,.slice none 0 0,.slice none 0 0] 32)) (w.heap.size+1) 30 #[.bool neg2,.slice a' m.length c']:=(qa5 w _ _ _).alloc _
 have hb0:Below w.heap.size w (((w.alloc (.cells #[.bool neg1,.slice a l.length c] 30)).alloc (.cells #[.bool neg2,.slice a' m.length c'] 30)).alloc (.cells #[.bool false,.slice none 0 0,.slice none 0 0] 32)):=by go_grown
 have hgB:w.heap.size<w.heap.size+1+1:=oo
 have hgB2:w.heap.size+1<w.heap.size+1+1:=oo
 have hgC:w.heap.size<w.heap.size+1:=oo
 obtain ⟨t,ht⟩:=nm (qak (neg1 != neg2) n1 n2)
 rw [ht] at CO1 ⊢;obtain ⟨s,N,D⟩:=t;unfold RetF at CO1;unfold RetM;dsimp only at CO1 ⊢;replace CS:=Hd CS;replace CO1:=Hd CO1;clear h h' hn hk hsg hsg2 h0 ht;go_enter Tryz.func48,Tryz.ntmps48;go_wp2_with fail;have hgl:=hz.lt;revert hz hx1 hx2 hb0 hgB hgB2 hgC hgl;generalize ((w.alloc (.cells #[.bool neg1,.slice a l.length c] 30)).alloc (.cells #[.bool neg2,.slice a' m.length c'] 30)).alloc (.cells #[.bool false,.slice none 0 0,.slice none 0 0] 32)=w0;generalize w.heap.size+1+1=g;generalize w.heap.size+1=g2;intro hz hx1 hx2 hb0 hgB hgB2 hgC hgl;refine (CS.out _ hb0).mono ?_;rintro e w1 ⟨rfl,hb1⟩;have hw1:=bth hb0 hb1;have hz1:=hz.below' hb1;have hy1:=hx1.below' hb1;have hy2:=hx2.below' hb1;obtain ⟨z0,z1⟩:=cq2 hy1;obtain ⟨z2,z3⟩:=cq2 hy2;go_wp2_with fail;refine (CO1.out _ hw1).mono ?_;rintro e w2 ⟨a1,c1,a2,c2,rfl,hV1,hV2,hb2⟩;have hw2:=bth hw1 hb2;have hz2:=hz1.below' hb2;have HV1:=Hd hV1
 have HV2:=Hd hV2;obtain ⟨z4,z5,z6⟩:=cq3 hz2;obtain ⟨f0,f1,f2⟩:=fq3 hz2;have hs1:=hw1.size;have hgl2:=hz1.lt;clear hV1 hV2;go_wp2;have hF:=blk3 (x:=.bool s) (y:=.slice a1 (limbs N).length c1) (z:=.slice a2 (limbs D).length c2) hz2;obtain ⟨e0,e1,e2⟩:=cq3 hF;refine bodyPost_ret (v:=.tuple #[.agg #[.bool s,.slice a1 (limbs N).length c1,.slice a2 (limbs D).length c2],.int .i64 0]) (by simp [results,Tryz.results48,go_sem,e0,e1,e2]) rfl ?_;exact ⟨a1,c1,a2,c2,rfl,fun V hV=>HV1.out V (back3 hV hs1 hgl2),fun V hV=>HV2.out V (back3 hV hs1 hgl2),qbu hw2 (Nat.le_of_lt hgB)⟩
theorem qj3 (z:Int) (w:World) (hi:InInt z) :
  Calls Tryz.prog 10 #[.int .i64 z] w (RetF (qak (decide (z<0)) z.natAbs 1) w):=by
 have CZ:=fun W=>qkg z W hi
 have C1:=fun W=>qn2 W
 rw [qst];obtain ⟨s,hng⟩:=nm (decide (z<0))
 obtain ⟨N,hnz⟩:=nm z.natAbs
 simp only [hng,hnz] at CZ ⊢;unfold RetF RetQ;dsimp only;replace CZ:=Hd CZ;replace C1:=Hd C1;have hz:Blk (w.alloc (.cells #[.bool false,.slice none 0 0,.slice none 0 0] 32)) w.heap.size 32 #[.bool false,.slice none 0 0,.slice none 0 0]:=Blk.new w _ _;have hb0:Below w.heap.size w (w.alloc (.cells #[.bool false,.slice none 0 0,.slice none 0 0] 32)):=brf.alloc (nlr _) _;clear hng hnz;go_enter Tryz.func10,Tryz.ntmps10;go_wp2_with fail;revert hz hb0;generalize w.alloc (.cells #[.bool false,.slice none 0 0,.slice none 0 0] 32)=w0;intro hz hb0;refine (CZ.out _).mono ?_;rintro e w1 ⟨a1,c1,rfl,hV1,hb1⟩;have hw1:=bth hb0 hb1;have hz1:=hz.below' hb1;have HV1:=Hd hV1;clear hV1;go_wp2_with fail;refine (C1.out _).mono ?_;rintro e w2 ⟨a2,c2,rfl,hV2,hb2⟩;have hw2:=bth hw1 hb2;have hz2:=hz1.below' hb2;have HV2:=Hd hV2;have hs0:=hb0.size;have hgl0:=hz.lt;have hs1:=hw1.size;have hgl1:=hz1.lt
 obtain ⟨z0,z1,z2⟩:=cq3 hz2;obtain ⟨f0,f1,f2⟩:=fq3 hz2;clear hV2 hz hz1;go_wp2;have hF:=blk3 (x:=.bool s) (y:=.slice a1 (limbs N).length c1) (z:=.slice a2 (limbs 1).length c2) hz2;obtain ⟨e0,e1,e2⟩:=cq3 hF;refine bodyPost_ret (v:=.agg #[.bool s,.slice a1 (limbs N).length c1,.slice a2 (limbs 1).length c2]) (by simp [results,Tryz.results10,go_sem,e0,e1,e2]) rfl ?_;exact ⟨a1,c1,a2,c2,rfl,fun V hV=>HV1.out V ((back3 hV hs0 hgl0).below hb2),fun V hV=>HV2.out V (back3 hV hs1 hgl1),qbu hw2 (nlr _)⟩
structure QA where
 neg:Bool
 n:Nat
 a:Option Addr
 c:Nat
 m:Nat
 b:Option Addr
 d:Nat
def QAc (w:World) (x:QA) (q:Rat):Prop:=x.neg=decide (q.num<0)/\x.n=(limbs q.num.natAbs).length/\x.m=(limbs q.den).length/\NatR w x.a x.c (limbs q.num.natAbs)/\NatR w x.b x.d (limbs q.den)
theorem QAc.ext {w w':World} {x:QA} {q:Rat} (h:QAc w x q) (e:Ext w w'):QAc w' x q:=⟨h.1,h.2.1,h.2.2.1,h.2.2.2.1.ext e,h.2.2.2.2.ext e⟩
def qsz (q:Rat):Nat:=max (limbs q.num.natAbs).length (limbs q.den).length
theorem qno {a b c:Nat} (h:a<=b+c):(limbs a).length<=max (limbs b).length (limbs c).length+1:=Nat.le_trans (qap h) (qdm b c)
theorem qmx (z:Int) (d:Nat) (hd:d≠0):(mkRat z d).num.natAbs<=z.natAbs/\(mkRat z d).den<=d:=by
 rw [Rat.num_mkRat,Rat.den_mkRat,if_neg hd,if_neg hd];exact ⟨Int.natAbs_ediv_le_natAbs _ _,Nat.div_le_self _ _⟩
theorem qgl {q:Rat} {k:Nat} (h1:(limbs q.num.natAbs).length<=k) (h2:(limbs q.den).length<=k):qsz q<=k:=by unfold qsz;omega
theorem qbs (q:Rat):(limbs q.num.natAbs).length<=qsz q:=Nat.le_max_left _ _
theorem qbq (q:Rat):(limbs q.den).length<=qsz q:=Nat.le_max_right _ _
theorem zz26 {P:Prop} (h:P:=by
 have b2:=qap h2;have c1:=qbs p;have c2:=qbs q;have c3:=qbq p;have c4:=qbq q;exact qgl oo oo
 ):P:=h
theorem qrj (p q:Rat):qsz (p*q)<=qsz p+qsz q:=by
 rw [Rat.mul_def'];have h0:p.den*q.den≠0:=Nat.mul_ne_zero p.den_nz q.den_nz;obtain ⟨h1,h2⟩:=qmx (p.num*q.num) (p.den*q.den) h0;rw [Int.natAbs_mul] at h1;have a1:=qa0 p.num.natAbs q.num.natAbs;have a2:=qa0 p.den q.den;have b1:=qap h1;exact zz26
theorem qzt (q:Rat):qsz (-q)=qsz q:=by unfold qsz;simp
theorem qre (p q:Rat):qsz (p+q)<=qsz p+qsz q+1:=by
 rw [Rat.add_def'];have h0:p.den*q.den≠0:=Nat.mul_ne_zero p.den_nz q.den_nz;obtain ⟨h1,h2⟩:=qmx (p.num*q.den+q.num*p.den) (p.den*q.den) h0;have h3:(p.num*q.den+q.num*p.den).natAbs<=p.num.natAbs*q.den+q.num.natAbs*p.den:=by
  refine Nat.le_trans (Int.natAbs_add_le _ _) ?_;rw [Int.natAbs_mul,Int.natAbs_mul];exact nlr _
 have a1:=qa0 p.num.natAbs q.den;have a2:=qa0 q.num.natAbs p.den;have a3:=qa0 p.den q.den;have a4:=qno (Nat.le_trans h1 h3);exact zz26
theorem qs1 (neg:Bool) (n d:Nat) (h0:d≠0):sgnZ (qak neg n d).1 (qak neg n d).2.1=sgnZ neg n:=by
 unfold qak;rw [if_neg h0];dsimp only;unfold sgnZ;by_cases hn:n=0
 · subst hn;simp
 ·
  have hg:0<Nat.gcd n d:=Nat.gcd_pos_of_pos_left _ oo;have hq:0<n / Nat.gcd n d:=Nat.div_pos (Nat.le_of_dvd oo (Nat.gcd_dvd_left n d)) hg;rw [if_neg oo,if_neg hn,decide_eq_true hq,Bool.and_true]
theorem qaa3 (s:Bool) (a1:Option Addr) (k1 c1:Nat) (a2:Option Addr) (k2 c2:Nat) (w:World):(Instr.field 32 (.agg #[.bool s,.slice a1 k1 c1,.slice a2 k2 c2]) 0).run Tryz.prog w=.ok (.agg #[.bool s,.slice a1 k1 c1]) w:=by kernel_rfl
theorem qwh (neg:Bool) (l m:List Int) (n:Nat) (a a':Option Addr) (c c':Nat) (w:World) (h:NatR w a c l) (h':NatR w a' c' m) (hn:val l=n) (h0:val m≠0) (hl:l.length<=2000000) (hm:m.length<=2000000) :
  Calls Tryz.prog 160 #[.agg #[.bool neg,.slice a l.length c,.slice a' m.length c']] w fun e w'=>e=.returned (.int .i64 (sgnZ neg n))/\Below w.heap.size w w':=by
 have CP:=fun W (hW:bw w W)=>qde neg l m a a' c c' W (h'.ext (xbw hW)) h0 oo
 have CS:=fun W (hW:bw w W)=>qm2 neg l n a c W (h.ext (xbw hW)) hn oo
 obtain ⟨R,hR⟩:=nm (sgnZ neg n)
 rw [hR] at CS ⊢;replace CP:=Hd CP;replace CS:=Hd CS;have hz:Blk (w.alloc (.cells #[.bool neg,.slice a l.length c,.slice a' m.length c'] 32)) w.heap.size 32 #[.bool neg,.slice a l.length c,.slice a' m.length c']:=Blk.new w _ _;have hb0:Below w.heap.size w (w.alloc (.cells #[.bool neg,.slice a l.length c,.slice a' m.length c'] 32)):=brf.alloc (nlr _) _;clear h h' hn h0 hR;go_enter Tryz.func160,Tryz.ntmps160;go_wp2_with fail;revert hz hb0;generalize w.alloc (.cells #[.bool neg,.slice a l.length c,.slice a' m.length c'] 32)=w0;intro hz hb0;obtain ⟨z0,z1,z2⟩:=cq3 hz;go_wp2_with fail;refine (CP.out _ hb0).mono ?_;rintro e w1 ⟨rfl,hb1⟩;have hw1:=bth hb0 hb1;clear z0 z1 z2 hz hb0 hb1;have hy:Blk (w1.alloc (.cells #[.bool neg,.slice a l.length c] 30)) w1.heap.size 30 #[.bool neg,.slice a l.length c]:=Blk.new w1 _ _;have hw2:=hw1.alloc hw1.size (.cells #[.bool neg,.slice a l.length c] 30)
 go_wp2_with fail;refine (CS.out _ hw2).mono ?_;rintro e w2 ⟨rfl,hb2⟩;go_wp2;go_ret;exact ⟨rfl,bth hw2 hb2⟩
theorem qyo (s1 s2:Bool) (P1 D1 P2 D2:Nat) (a1 b1 a2 b2:Option Addr) (c1 d1 c2 d2:Nat) (w:World) (r1:NatR w a1 c1 (limbs P1)) (r2:NatR w b1 d1 (limbs D1)) (r3:NatR w a2 c2 (limbs P2)) (r4:NatR w b2 d2 (limbs D2))
  (hD1:D1≠0) (hD2:D2≠0) (l1:(limbs P1).length<=400000) (l2:(limbs D1).length<=400000) (l3:(limbs P2).length<=400000) (l4:(limbs D2).length<=400000):Calls Tryz.prog 180 #[.agg #[.bool s1,.slice a1 (limbs P1).length c1,.slice b1 (limbs D1).length d1],.agg #[.bool s2,.slice a2 (limbs P2).length c2,.slice b2 (limbs D2).length d2]] w (RetF (qak (s1 != s2) (P1*P2) (D1*D2)) w):=by
 have m1:=qa0 P1 P2;have m2:=qa0 D1 D2;have CP1:=fun W (hW:bw w W)=>qde s1 (limbs P1) (limbs D1) a1 b1 c1 d1 W (r2.ext (xbw hW)) (by rw [qac];exact hD1) oo
 have CP2:=fun W (hW:bw w W)=>qde s2 (limbs P2) (limbs D2) a2 b2 c2 d2 W (r4.ext (xbw hW)) (by rw [qac];exact hD2) oo
 have CZ:=fun W (hW:bw w W)=>qj8 s1 s2 (limbs P1) (limbs P2) P1 P2 a1 a2 c1 c2 W (r1.ext (xbw hW)) (r3.ext (xbw hW)) (qac _) (qac _) oo oo
 have CN:=fun W (hW:bw w W)=>qkd (limbs D1) (limbs D2) D1 D2 b1 b2 d1 d2 W (r2.ext (xbw hW)) (r4.ext (xbw hW)) (qac _) (qac _) oo oo
 have CR:=fun a b c d W h h'=>qef ((s1 != s2)&&decide (0<P1*P2)) (limbs (P1*P2)) (limbs (D1*D2)) (P1*P2) (D1*D2) a b c d W h h' (qac _) (qac _) oo oo
 rw [qky] at CR;obtain ⟨R,hR⟩:=nm (((s1 != s2)&&decide (0<P1*P2)))
 rw [hR] at CZ CR;obtain ⟨t,ht⟩:=nm (qak (s1 != s2) (P1*P2) (D1*D2))
 rw [ht] at CR ⊢;obtain ⟨s,N,D⟩:=t;clear m1 m2 hR ht hD1 hD2;revert CZ CN CR;generalize P1*P2=PP;generalize D1*D2=DD;intro CN CZ CR;unfold RetF at CR ⊢;dsimp only at CR ⊢;replace CP1:=Hd CP1;replace CP2:=Hd CP2;replace CZ:=Hd CZ;replace CN:=Hd CN;replace CR:=Hd CR;clear r1 r2 r3 r4;go_enter Tryz.func180,Tryz.ntmps180;go_wp2_with fail;refine qae (fun W=>Blk W w.heap.size 32 #[.bool s1,.slice a1 (limbs P1).length c1,.slice b1 (limbs D1).length d1]/\Blk W (w.heap.size+1) 32 #[.bool s2,.slice a2 (limbs P2).length c2,.slice b2 (limbs D2).length d2]/\Blk W (w.heap.size+1+1) 32 #[.bool false,.slice none 0 0,.slice none 0 0]/\Below w.heap.size w W/\w.heap.size<w.heap.size+1/\w.heap.size+1<w.heap.size+1+1/\w.heap.size+1+1<W.heap.size) ⟨((Blk.new w _ _).alloc _).alloc _,(qa5 w _ _ _).alloc _,qb6 w _ _ _ _,zg,oo,oo,by simp⟩ ?_;rintro w0 ⟨hx,hy,hz,hw0,hg1,hg2,hg3⟩
 revert hx hy hz hg1 hg2 hg3;generalize w.heap.size+1+1=g3;generalize w.heap.size+1=g2;intro hx hy hz hg1 hg2 hg3;refine (CP1.out _ hw0).mono ?_;rintro e w1 ⟨rfl,hb1⟩;replace hy:=hy.below' hb1;replace hz:=hz.below' hb1;have hw1:=bth hw0 hb1;have hs1:=hb1.size;clear hx;obtain ⟨z0,z1,z2⟩:=cq3 hy;have lt2:=hy.lt;have lt3:=hz.lt;go_wp2_with fail;refine qae (fun W=>Blk W w1.heap.size 30 #[.bool s1,.slice a1 (limbs P1).length c1]/\Blk W g3 32 #[.bool false,.slice none 0 0,.slice none 0 0]/\Below w.heap.size w W/\w1.heap.size<W.heap.size) ⟨bk,bk,zg,by simp⟩ ?_;clear z0 z1 z2 lt2 lt3 hy hz;rintro w2 ⟨hu,hz,hw2,hs2⟩
 refine (CP2.out _ hw2).mono ?_;rintro e w3 ⟨rfl,hb3⟩;replace hu:=hu.below' hb3;replace hz:=hz.below' hb3;have hw3:=bth hw2 hb3;have hs3:=hb3.size;obtain ⟨z0,z1⟩:=cq2 hu;have hlt3:w1.heap.size<w3.heap.size:=oo
 go_wp2_with fail;refine qae (fun W=>Blk W g3 32 #[.bool false,.slice none 0 0,.slice none 0 0]/\Below w.heap.size w W/\w3.heap.size<=W.heap.size) ⟨bk,zg,by simp⟩ ?_;clear z0 z1 hu hz;rintro w4 ⟨hz,hw4,hs4⟩;refine (CZ.out _ hw4).mono ?_;rintro e w5 ⟨a5,c5,rfl,hV,hb5⟩;replace hz:=hz.below' hb5;have hw5:=bth hw4 hb5;have hs5:=hb5.size;have hr5:=hV w5 (New.refl _ _);clear hV;have HR5:=Hd hr5;clear hr5;go_wp2_with fail;refine (CN.out _ hw5).mono ?_;rintro e w6 ⟨a6,c6,rfl,hV,hb6⟩;replace hz:=hz.below' hb6;have hw6:=bth hw5 hb6;have hs6:=hb6.size;have CG:=CR.out a5 a6 c5 c6 w6 (HR5.out.ext (xbw hb6)) (hV w6 (New.refl _ _));replace CG:=Hd CG;clear hV;go_wp2_with fail;refine CG.out.mono ?_;rintro e w7 ⟨a8,c8,b8,d8,rfl,hV1,hV2,hb7⟩
 replace hz:=hz.below' hb7;have hw8:=bth hw6 hb7;have hwB:=hw6.size;have HV1:=Hd hV1;have HV2:=Hd hV2;clear hV1 hV2;obtain ⟨z0,z1,z2⟩:=cq3 hz;obtain ⟨f0,f1,f2⟩:=fq3 hz;go_wp2;have hF:=blk3 (x:=.bool s) (y:=.slice a8 (limbs N).length c8) (z:=.slice b8 (limbs D).length d8) hz;obtain ⟨e0,e1,e2⟩:=cq3 hF;refine bodyPost_ret (v:=.agg #[.bool s,.slice a8 (limbs N).length c8,.slice b8 (limbs D).length d8]) (by simp [results,Tryz.results180,go_sem,e0,e1,e2]) rfl ?_;exact ⟨a8,c8,b8,d8,rfl,fun V hV=>HV1.out V (back3 hV hwB oo),fun V hV=>HV2.out V (back3 hV hwB oo),qbu hw8 oo⟩
theorem qlc (n:Nat) (a:Option Addr) (c:Nat) (w:World) :
  Calls Tryz.prog 187 #[.slice a n c] w fun e w'=>e=.returned (.agg #[.bool false,.slice a n c])/\Below w.heap.size w w':=by
 go_enter Tryz.func187,Tryz.ntmps187;go_wp2;have hF:=Blk.new w 30 #[.bool false,.slice a n c];obtain ⟨e0,e1⟩:=cq2 hF;refine bodyPost_ret (v:=.agg #[.bool false,.slice a n c]) (by simp [results,Tryz.results187,go_sem]) rfl ?_;exact ⟨rfl,brf.alloc (nlr _) _⟩
theorem qn6 (s1 s2:Bool) (n1 n2:Nat) (a1 a2:Option Addr) (c1 c2 g cp:Nat) (w:World) (r1:NatR w a1 c1 (limbs n1)) (r2:NatR w a2 c2 (limbs n2)) (l1:(limbs n1).length<=2000000) (l2:(limbs n2).length<=2000000)
  (k0:w.cell? ⟨g,0,none⟩=some (.bool s1)) (k1:w.cell? ⟨g,1,none⟩=some (.slice a1 (limbs n1).length c1)) (k2:w.cell? ⟨g,2,none⟩=some (.bool s2)) (k3:w.cell? ⟨g,3,none⟩=some (.slice a2 (limbs n2).length c2)) :
  Calls Tryz.prog 185 #[.slice (some ⟨g,0,none⟩) 2 cp] w (RetI (zval s1 n1+zval s2 n2) w):=by
 have hg:=World.block_lt_of_cell? w _ k0;simp only at hg;have C1:=fun a c W (hW:bw w W) (h:NatR W a c (limbs 0))=>qpl false s1 (limbs 0) (limbs n1) 0 n1 a a1 c c1 W h (r1.ext (xbw hW)) (qac _) (qac _) (by rw [qao];decide) oo
 have e0:zval false 0+zval s1 n1=zval s1 n1:=by simp [zval]
 simp only [e0,qao] at C1;have C2:=fun a c W (hW:bw w W) h=>qpl (decide (zval s1 n1<0)) s2 (limbs (zval s1 n1).natAbs) (limbs n2) (zval s1 n1).natAbs n2 a a2 c c2 W h (r2.ext (xbw hW)) (qac _) (qac _) (by rw [qeg];omega) oo
 simp only [qfl] at C2;revert C1 C2;generalize zval s1 n1=zz;obtain ⟨z,hz⟩:=nm (zz+zval s2 n2)
 rw [hz];intro C1 C2;unfold RetI RetZ at C1 C2 ⊢;replace C1:=Hd C1;replace C2:=Hd C2;have K0:=Hd (fun W (hW:bw w W)=>held k0 W hW);have K1:=Hd (fun W (hW:bw w W)=>held k1 W hW);have K2:=Hd (fun W (hW:bw w W)=>held k2 W hW);have K3:=Hd (fun W (hW:bw w W)=>held k3 W hW);clear r1 r2 l1 l2 k0 k1 k2 k3 hz e0;go_enter Tryz.func185,Tryz.ntmps185;go_wp2;refine qaa (fun W=>Blk W w.heap.size 30 #[.bool false,.slice none 0 0]/\Blk W (w.heap.size+1) 30 #[.bool false,.slice none 0 0]/\Below w.heap.size w W/\w.heap.size<w.heap.size+1/\w.heap.size+1<W.heap.size) ⟨(Blk.new w _ _).alloc _,qa5 w _ _ _,zg,oo,by simp⟩ ?_;rintro w0 ⟨hx,hy,hw0,hg1,hg2⟩;revert hx hy hg1 hg2;generalize w.heap.size+1=g2;intro hx hy hg1 hg2;refine wp_loop_rounds 3 ?_;rw [rounds_succ]
 have z0:=K0.out _ hw0;have z1:=K1.out _ hw0;have y0:=hy.cell 0;have y1:=hy.cell 1;have ltg:g<w0.heap.size:=oo
 have lt2:=hy.lt;go_wp2_with fail;refine qae (fun W=>Blk W w.heap.size 30 #[.bool false,.slice none 0 0]/\Blk W g2 30 #[.bool false,.slice none 0 0]/\Below w.heap.size w W/\w0.heap.size<W.heap.size) ⟨bk,bk,zg,by simp⟩ ?_;clear z0 z1 y0 y1 ltg lt2 hx hy;rintro w1 ⟨hx,hy,hw1,hs1⟩;refine (C1.out none 0 _ hw1 SlR.nil).mono ?_;rintro e w2 ⟨a5,c5,rfl,hV,hb2⟩;replace hx:=hx.below' hb2;replace hy:=hy.below' hb2;have hw2:=bth hw1 hb2;have hs2:=hb2.size;have H5:Kp (fun V=>NatR V a5 c5 (limbs zz.natAbs)) w1.heap.size w2.heap.size w2:=Kp.made hV;replace H5:=Hd H5;clear hV;obtain ⟨b1,hb1⟩:=nm (decide (zz<0))
 rw [hb1];have C3:=C2.out;rw [hb1] at C3;replace C3:=Hd C3;clear C2 hb1;obtain ⟨f0,f1⟩:=fq2 hy;obtain ⟨y0,y1⟩:=cq2 hy;go_wp2;rw [rounds_succ];refine qaa (fun W=>Blk W w.heap.size 30 #[.bool false,.slice none 0 0]/\Blk W g2 30 #[.bool b1,.slice a5 (limbs zz.natAbs).length c5]/\Below w.heap.size w W/\w2.heap.size<=W.heap.size/\Kp (fun V=>NatR V a5 c5 (limbs zz.natAbs)) w1.heap.size w2.heap.size W) ⟨bk,bk,zg,by simp,by (with_reducible repeat first | exact H5.out | (refine Kp.setc ?_ ?_;focus omega) | refine Kp.alloc ?_ | refine Kp.drew ?_)⟩ ?_;clear f0 f1 y0 y1 hx hy H5;rintro w3 ⟨hx,hy,hw3,hs3,H5⟩
 replace H5:=Hd H5;have z0:=K2.out _ hw3;have z1:=K3.out _ hw3;have y0:=hy.cell 0;have y1:=hy.cell 1;have ltg:g<w3.heap.size:=oo
 have lt2:=hy.lt;go_wp2_with fail;refine qae (fun W=>Blk W w.heap.size 30 #[.bool false,.slice none 0 0]/\Blk W g2 30 #[.bool b1,.slice a5 (limbs zz.natAbs).length c5]/\Below w.heap.size w W/\w3.heap.size<W.heap.size/\Kp (fun V=>NatR V a5 c5 (limbs zz.natAbs)) w1.heap.size w2.heap.size W) ⟨bk,bk,zg,by simp,by (with_reducible repeat first | exact H5.out | (refine Kp.setc ?_ ?_;focus omega) | refine Kp.alloc ?_ | refine Kp.drew ?_)⟩ ?_;clear z0 z1 y0 y1 ltg lt2 hx hy H5;rintro w4 ⟨hx,hy,hw4,hs4,H5⟩;refine (C3.out a5 c5 _ hw4 H5.now).mono ?_;rintro e w5 ⟨a6,c6,rfl,hV,hb5⟩;replace hx:=hx.below' hb5
 replace hy:=hy.below' hb5;have hw5:=bth hw4 hb5;have hs5:=hb5.size;have H6:Kp (fun V=>NatR V a6 c6 (limbs z.natAbs)) w4.heap.size w5.heap.size w5:=Kp.made hV;replace H6:=Hd H6;obtain ⟨b2,hb2⟩:=nm (decide (z<0))
 rw [hb2];have HB2:=Hd hb2;clear hV H5 hb2 C1 C3 K0 K1 K2 K3;obtain ⟨f0,f1⟩:=fq2 hy;obtain ⟨y0,y1⟩:=cq2 hy;go_wp2;rw [rounds_succ];refine qaa (fun W=>Blk W w.heap.size 30 #[.bool false,.slice none 0 0]/\Blk W g2 30 #[.bool b2,.slice a6 (limbs z.natAbs).length c6]/\Below w.heap.size w W/\w5.heap.size<=W.heap.size/\Kp (fun V=>NatR V a6 c6 (limbs z.natAbs)) w4.heap.size w5.heap.size W) ⟨bk,bk,zg,by simp,by (with_reducible repeat first | exact H6.out | (refine Kp.setc ?_ ?_;focus omega) | refine Kp.alloc ?_ | refine Kp.drew ?_)⟩ ?_;clear f0 f1 y0 y1 hx hy H6;rintro w6 ⟨hx,hy,hw6,hs6,H6⟩;replace H6:=Hd H6
 obtain ⟨x0,x1⟩:=cq2 hx;obtain ⟨f0,f1⟩:=fq2 hx;obtain ⟨y0,y1⟩:=cq2 hy;go_wp2;refine qaa (fun W=>Blk W w.heap.size 30 #[.bool b2,.slice a6 (limbs z.natAbs).length c6]/\Below w.heap.size w W/\Kp (fun V=>NatR V a6 c6 (limbs z.natAbs)) w4.heap.size w5.heap.size W) ⟨bk,zg,by (with_reducible repeat first | exact H6.out | (refine Kp.setc ?_ ?_;focus omega) | refine Kp.alloc ?_ | refine Kp.drew ?_)⟩ ?_;rintro w7 ⟨hF,hw7,H7⟩;obtain ⟨e0,e1⟩:=cq2 hF;refine bodyPost_ret (v:=.agg #[.bool b2,.slice a6 (limbs z.natAbs).length c6]) (by simp [results,Tryz.results185,go_sem,e0,e1]) rfl ?_;exact ⟨a6,c6,by rw [HB2.out],H7.fin hw4.size,hw7⟩
theorem qkp (d:Nat) (b:Option Addr) (c:Nat) (w:World) (h:NatR w b c (limbs d)) (f:Bool) (hf:decide (d=1)=f) :
  Calls Tryz.prog 52 #[.slice b (limbs d).length c] w fun e w'=>e=.returned (.bool f)/\Below w.heap.size w w':=by
 subst hf;have:=qek (limbs d) b c w h;rw [qdz] at this;exact this
theorem qob (s1 s2:Bool) (P1 D1 P2 D2:Nat):(zval s1 (P1*D2)+zval s2 (P2*D1)).natAbs<=P1*D2+P2*D1:=by
 have h1:=qeg s1 (P1*D2);have h2:=qeg s2 (P2*D1)
 omega
theorem qwj (s1 s2:Bool) (P1 D1 P2 D2:Nat) (a1 b1 a2 b2:Option Addr) (c1 d1 c2 d2:Nat) (w:World) (r1:NatR w a1 c1 (limbs P1)) (r2:NatR w b1 d1 (limbs D1)) (r3:NatR w a2 c2 (limbs P2)) (r4:NatR w b2 d2 (limbs D2))
  (hD1:D1=1) (hD2:D2=1) (l1:(limbs P1).length<=400000) (l3:(limbs P2).length<=400000) :
  Calls Tryz.prog 179 #[.agg #[.bool s1,.slice a1 (limbs P1).length c1,.slice b1 (limbs D1).length d1],.agg #[.bool s2,.slice a2 (limbs P2).length c2,.slice b2 (limbs D2).length d2]] w (RetF (qak (decide (zval s1 P1+zval s2 P2<0)) (zval s1 P1+zval s2 P2).natAbs D1) w):=by
 have lo:(limbs 1).length<=400000:=Nat.le_trans (qam (k:=1) dd) dd;have l2:(limbs D1).length<=400000:=by rw [hD1];exact lo
 have l4:(limbs D2).length<=400000:=by rw [hD2];exact lo
 have CP1:=fun W (hW:bw w W)=>qde s1 (limbs P1) (limbs D1) a1 b1 c1 d1 W (r2.ext (xbw hW)) (by rw [qac];omega) oo
 have CP2:=fun W (hW:bw w W)=>qde s2 (limbs P2) (limbs D2) a2 b2 c2 d2 W (r4.ext (xbw hW)) (by rw [qac];omega) oo
 have CO1:=fun W (hW:bw w W)=>qkp D1 b1 d1 W (r2.ext (xbw hW)) true (by simpa using hD1)
 have CO2:=fun W (hW:bw w W)=>qkp D2 b2 d2 W (r4.ext (xbw hW)) true (by simpa using hD2)
 have CS:=fun g W (hW:bw w W)=>qn6 s1 s2 P1 P2 a1 a2 c1 c2 g 2 W (r1.ext (xbw hW)) (r3.ext (xbw hW)) oo oo
 have hsz:=Nat.le_trans (qap (show (zval s1 P1+zval s2 P2).natAbs<=P1+P2 by have:=qeg s1 P1;have:=qeg s2 P2;omega)) (qdm P1 P2);revert CS hsz;generalize zval s1 P1+zval s2 P2=z;intro CS hsz;have CR:=fun a c W (hW:bw w W) h=>qef (decide (z<0)) (limbs z.natAbs) (limbs D1) z.natAbs D1 a b1 c d1 W h (r2.ext (xbw hW)) (qac _) (qac _) oo oo
 obtain ⟨t,ht⟩:=nm (qak (decide (z<0)) z.natAbs D1)
 rw [ht] at CR ⊢;obtain ⟨s,N,D⟩:=t;unfold RetI RetZ at CS;obtain ⟨R,hR⟩:=nm (decide (z<0))
 rw [hR] at CR CS;unfold RetF at CR ⊢;dsimp only at CR ⊢;replace CP1:=Hd CP1;replace CP2:=Hd CP2;replace CO1:=Hd CO1;replace CO2:=Hd CO2;replace CR:=Hd CR;replace CS:=Hd CS;clear r1 r2 r3 r4 hD1 hD2 ht hR hsz lo l2 l4;go_enter Tryz.func179,Tryz.ntmps179;go_wp2_with fail;refine qae (fun W=>Blk W w.heap.size 32 #[.bool s1,.slice a1 (limbs P1).length c1,.slice b1 (limbs D1).length d1]/\Blk W (w.heap.size+1) 32 #[.bool s2,.slice a2 (limbs P2).length c2,.slice b2 (limbs D2).length d2]/\Blk W (w.heap.size+1+1) 32 #[.bool false,.slice none 0 0,.slice none 0 0]/\Below w.heap.size w W/\w.heap.size<w.heap.size+1/\w.heap.size+1<w.heap.size+1+1/\w.heap.size+1+1<W.heap.size) ⟨((Blk.new w _ _).alloc _).alloc _,(qa5 w _ _ _).alloc _,qb6 w _ _ _ _,zg,oo,oo,by simp⟩ ?_;rintro w0 ⟨hx,hy,hz,hw0,hg1,hg2,hg3⟩;revert hx hy hz hg1 hg2 hg3;generalize w.heap.size+1+1=g3
 generalize w.heap.size+1=g2;intro hx hy hz hg1 hg2 hg3;refine (CP1.out _ hw0).mono ?_;rintro e w1 ⟨rfl,hb1⟩;replace hy:=hy.below' hb1;replace hz:=hz.below' hb1;have hw1:=bth hw0 hb1;have hs1:=hb1.size;clear hx;obtain ⟨z0,z1,z2⟩:=cq3 hy;have lt2:=hy.lt;have lt3:=hz.lt;go_wp2_with fail;refine qae (fun W=>Blk W w1.heap.size 30 #[.bool s1,.slice a1 (limbs P1).length c1]/\Blk W g3 32 #[.bool false,.slice none 0 0,.slice none 0 0]/\Below w.heap.size w W/\w1.heap.size<W.heap.size) ⟨bk,bk,zg,by simp⟩ ?_;clear z0 z1 z2 lt2 lt3 hy hz;rintro w2 ⟨hu,hz,hw2,hs2⟩;refine (CP2.out _ hw2).mono ?_;rintro e w3 ⟨rfl,hb3⟩
 replace hu:=hu.below' hb3;replace hz:=hz.below' hb3;have hw3:=bth hw2 hb3;have hs3:=hb3.size;have hlt3:w1.heap.size<w3.heap.size:=oo
 go_wp2_with fail;refine qae (fun W=>Blk W w1.heap.size 30 #[.bool s1,.slice a1 (limbs P1).length c1]/\Blk W w3.heap.size 30 #[.bool s2,.slice a2 (limbs P2).length c2]/\Blk W g3 32 #[.bool false,.slice none 0 0,.slice none 0 0]/\Below w.heap.size w W/\w3.heap.size<W.heap.size) ⟨bk,bk,bk,zg,by simp⟩ ?_;clear hu hz;rintro w4 ⟨hu,hv,hz,hw4,hs4⟩;refine (CO1.out _ hw4).mono ?_;rintro e w5 ⟨rfl,hb5⟩;replace hu:=hu.below' hb5;replace hv:=hv.below' hb5;replace hz:=hz.below' hb5
 have hw5:=bth hw4 hb5;have hs5:=hb5.size;go_wp2_with fail;refine (CO2.out _ hw5).mono ?_;rintro e w6 ⟨rfl,hb6⟩;replace hu:=hu.below' hb6;replace hv:=hv.below' hb6;replace hz:=hz.below' hb6;have hw6:=bth hw5 hb6;have hs6:=hb6.size;obtain ⟨z0,z1⟩:=cq2 hu;obtain ⟨z2,z3⟩:=cq2 hv;have lt1:=hu.lt;have lt2:=hv.lt;go_wp2_with fail;refine qae (fun W=>W.cell? ⟨w6.heap.size,0,none⟩=some (.bool s1)/\W.cell? ⟨w6.heap.size,1,none⟩=some (.slice a1 (limbs P1).length c1)/\W.cell? ⟨w6.heap.size,2,none⟩=some (.bool s2)/\W.cell? ⟨w6.heap.size,3,none⟩=some (.slice a2 (limbs P2).length c2)/\Blk W g3 32 #[.bool false,.slice none 0 0,.slice none 0 0]/\Below w.heap.size w W/\w6.heap.size<W.heap.size)
  ⟨(Blk.new w6 _ _).cell 0,(Blk.new w6 _ _).cell 1,(Blk.new w6 _ _).cell 2,(Blk.new w6 _ _).cell 3,bk,zg,by simp⟩ ?_
 clear z0 z1 z2 z3 lt1 lt2 hu hv hz;rintro w7 ⟨k0,k1,k2,k3,hz,hw7,hs7⟩;refine (CS.out w6.heap.size w7 hw7 k0 k1 k2 k3).mono ?_;rintro e w8 ⟨a7,c7,rfl,hV,hb8⟩;replace hz:=hz.below' hb8;have hw8':=bth hw7 hb8;have hs8:=hb8.size;have CG:=CR.out a7 c7 w8 hw8' (hV w8 (New.refl _ _));replace CG:=Hd CG;clear hV k0 k1 k2 k3;go_wp2_with fail;refine CG.out.mono ?_;rintro e w9 ⟨a8,c8,b8,d8,rfl,hV1,hV2,hb9⟩;replace hz:=hz.below' hb9;have hw8:=bth hw8' hb9;have hwB:=hw8'.size;have HV1:=Hd hV1;have HV2:=Hd hV2;clear hV1 hV2;obtain ⟨z0,z1,z2⟩:=cq3 hz;obtain ⟨f0,f1,f2⟩:=fq3 hz;go_wp2;have hF:=blk3 (x:=.bool s) (y:=.slice a8 (limbs N).length c8) (z:=.slice b8 (limbs D).length d8) hz;obtain ⟨e0,e1,e2⟩:=cq3 hF;refine bodyPost_ret (v:=.agg #[.bool s,.slice a8 (limbs N).length c8,.slice b8 (limbs D).length d8]) (by simp [results,Tryz.results179,go_sem,e0,e1,e2]) rfl ?_
 exact ⟨a8,c8,b8,d8,rfl,fun V hV=>HV1.out V (back3 hV hwB oo),fun V hV=>HV2.out V (back3 hV hwB oo),qbu hw8 oo⟩
theorem zz27 {P:Prop} (h:P:=by
 clear hu hv hz;rintro w7 ⟨hu,hv,hz,hw7,hs7⟩;have k0:=held (hu.cell 0);have k1:=held (hu.cell 1);have k2:=held (hv.cell 0);have k3:=held (hv.cell 1);have s0:Below w7.heap.size w7 w7.drew:=brf.drew;refine wrx (S:=Below w7.heap.size w7) [(0,.q),(1,.q),(4,.q),(5,.q),(10,.q),(11,.q),(2,.l),(3,.l),(6,.l),(7,.l),(8,.l),(9,.l),(12,.t),(13,.t),(14,.t)] (s0) ?_
 iterate 6 (refine qaf rfl rfl fun K hK=>xq ?_;go_simp;refine hK _ _ ?_;clear hK K)
 refine vl fun K hK=>?_
 go_simp;refine (W1.out _).mono ?_;rintro r w8 ⟨rfl,hb8⟩;dsimp only;refine hK.out _ _ (bth s0 hb8) (fun _=>?_);clear hK K;have t1:=bth s0 hb8;refine vl fun K hK=>?_
 go_simp;refine (CZ1.out _ (bth hw7 t1)).mono ?_;rintro r w9 ⟨a9,c9,rfl,hV9,hb9⟩;dsimp only;refine hK.out _ _ (bth t1 hb9) (fun _=>?_);clear hK K;have t2:=bth t1 hb9;have H9:Kp (fun V=>NatR V a9 c9 (limbs PP)) w8.heap.size w9.heap.size w9:=Kp.made hV9;replace H9:=Hd H9;clear hV9;refine vl fun K hK=>?_
 go_simp;refine (W2.out _).mono ?_;rintro r w10 ⟨rfl,hb10⟩;dsimp only;refine hK.out _ _ (bth t2 hb10) (fun _=>?_);clear hK K;have t3:=bth t2 hb10;refine vl fun K hK=>?_
 go_simp;refine (CZ2.out _ (bth hw7 t3)).mono ?_;rintro r w11 ⟨a11,c11,rfl,hV11,hb11⟩;dsimp only;refine hK.out _ _ (bth t3 hb11) (fun _=>?_);clear hK K;have t4:=bth t3 hb11;have H11:Kp (fun V=>NatR V a11 c11 (limbs DD)) w10.heap.size w11.heap.size w11:=Kp.made hV11;replace H11:=Hd H11;clear hV11;refine vl fun K hK=>?_
 go_simp;refine hK.out _ _ (t4.alloc t4.size _) (fun _=>?_);clear hK K;refine vl fun K hK=>?_
 go_simp;refine qae (fun W=>W.cell? ⟨w11.heap.size,0,none⟩=some (.bool p1)/\W.cell? ⟨w11.heap.size,1,none⟩=some (.slice a9 (limbs PP).length c9)/\W.cell? ⟨w11.heap.size,2,none⟩=some (.bool p2)/\W.cell? ⟨w11.heap.size,3,none⟩=some (.slice a11 (limbs DD).length c11)/\Below w7.heap.size w7 W/\w11.heap.size<W.heap.size/\NatR W a9 c9 (limbs PP)/\NatR W a11 c11 (limbs DD))
  ⟨(Blk.new w11 _ _).cell 0,(Blk.new w11 _ _).cell 1,(Blk.new w11 _ _).cell 2,(Blk.new w11 _ _).cell 3,t4.alloc t4.size _,by simp,(((H9.out.call hb10).call hb11).alloc).now,(H11.out.alloc).now⟩ ?_
 rintro w12 ⟨q0,q1,q2,q3,t5,hs12,m1,m2⟩;refine (CS.out w11.heap.size a9 a11 c9 c11 w12 m1 m2 q0 q1 q2 q3).mono ?_;rintro r w13 ⟨a13,c13,rfl,hV13,hb13⟩;dsimp only;have t6:=bth t5 hb13;refine hK.out _ _ t6 (fun _=>?_);clear hK K;have H13:Kp (fun V=>NatR V a13 c13 (limbs z.natAbs)) w12.heap.size w13.heap.size w13:=Kp.made hV13;replace H13:=Hd H13;clear hV13 q0 q1 q2 q3 m1 m2 H9 H11;refine vt fun K hK=>?_
 go_simp;refine (CN.out _ (bth hw7 t6)).mono ?_;rintro r w14 ⟨a14,c14,rfl,hV14,hb14⟩;dsimp only;refine hK.out _ _ ?_;clear hK K;have t7:=bth t6 hb14;have CG:=CR.out a13 a14 c13 c14 w14 ((H13.out.call hb14).now) (hV14 w14 (New.refl _ _));replace CG:=Hd CG;clear hV14;refine vt fun K hK=>?_
 go_simp;refine (CG.out).mono ?_;rintro r w15 ⟨a8,c8,b8,d8,rfl,hV1,hV2,hb15⟩;dsimp only;refine hK.out _ _ ?_;clear hK K;have t8:=bth t7 hb15;replace hz:=hz.below' t8;have hw8:=bth hw7 t8;have hwB:=(bth hw7 t7).size;have hwG:=t7.size;have ltz:=hz.lt;have HV1:=Hd hV1;have HV2:=Hd hV2;clear hV1 hV2 k0 k1 k2 k3;obtain ⟨z0,z1,z2⟩:=cq3 hz;obtain ⟨f0,f1,f2⟩:=fq3 hz;refine vt fun K hK=>?_
 go_simp;refine hK.out _ _ ?_;clear hK K;refine qad ?_;go_wp2;have hF:=blk3 (x:=.bool s) (y:=.slice a8 (limbs N).length c8) (z:=.slice b8 (limbs D).length d8) hz;obtain ⟨e0,e1,e2⟩:=cq3 hF;refine bodyPost_ret (v:=.agg #[.bool s,.slice a8 (limbs N).length c8,.slice b8 (limbs D).length d8]) (by simp [results,Tryz.results179,go_sem,e0,e1,e2]) rfl ?_;exact ⟨a8,c8,b8,d8,rfl,fun V hV=>HV1.out V (back3 hV hwB oo),fun V hV=>HV2.out V (back3 hV hwB oo),qbu hw8 oo⟩
 ):P:=h
theorem qtk (s1 s2:Bool) (P1 D1 P2 D2:Nat) (a1 b1 a2 b2:Option Addr) (c1 d1 c2 d2:Nat) (w:World) (r1:NatR w a1 c1 (limbs P1)) (r2:NatR w b1 d1 (limbs D1)) (r3:NatR w a2 c2 (limbs P2)) (r4:NatR w b2 d2 (limbs D2))
  (hD1:D1≠0) (hD2:D2≠0) (l1:(limbs P1).length<=400000) (l2:(limbs D1).length<=400000) (l3:(limbs P2).length<=400000) (l4:(limbs D2).length<=400000) (hne:¬ (D1=1/\D2=1)) :
  Calls Tryz.prog 179 #[.agg #[.bool s1,.slice a1 (limbs P1).length c1,.slice b1 (limbs D1).length d1],.agg #[.bool s2,.slice a2 (limbs P2).length c2,.slice b2 (limbs D2).length d2]] w (RetF (qak (decide (zval s1 (P1*D2)+zval s2 (P2*D1)<0)) (zval s1 (P1*D2)+zval s2 (P2*D1)).natAbs (D1*D2)) w):=by
 have m1:=qa0 P1 D2;have m2:=qa0 P2 D1;have m3:=qa0 D1 D2;have m4:=Nat.le_trans (qap (qob s1 s2 P1 D1 P2 D2)) (qdm _ _);have CP1:=fun W (hW:bw w W)=>qde s1 (limbs P1) (limbs D1) a1 b1 c1 d1 W (r2.ext (xbw hW)) (by rw [qac];exact hD1) oo
 have CP2:=fun W (hW:bw w W)=>qde s2 (limbs P2) (limbs D2) a2 b2 c2 d2 W (r4.ext (xbw hW)) (by rw [qac];exact hD2) oo
 have CO1:=fun f hf W (hW:bw w W)=>qkp D1 b1 d1 W (r2.ext (xbw hW)) f hf
 have CO2:=fun f hf W (hW:bw w W)=>qkp D2 b2 d2 W (r4.ext (xbw hW)) f hf
 have CZ1:=fun W (hW:bw w W)=>qj8 s1 false (limbs P1) (limbs D2) P1 D2 a1 b2 c1 d2 W (r1.ext (xbw hW)) (r4.ext (xbw hW)) (qac _) (qac _) oo oo
 have CZ2:=fun W (hW:bw w W)=>qj8 s2 false (limbs P2) (limbs D1) P2 D1 a2 b1 c2 d1 W (r3.ext (xbw hW)) (r2.ext (xbw hW)) (qac _) (qac _) oo oo
 have x1:(s1 != false)=s1:=by cases s1 <;> rfl
 have x2:(s2 != false)=s2:=by cases s2 <;> rfl
 simp only [x1] at CZ1;simp only [x2] at CZ2;have CS:=fun g a b c d W h h'=>qn6 (s1&&decide (0<P1*D2)) (s2&&decide (0<P2*D1)) (P1*D2) (P2*D1) a b c d g 2 W h h' oo oo
 simp only [qkf] at CS;have CN:=fun W (hW:bw w W)=>qkd (limbs D1) (limbs D2) D1 D2 b1 b2 d1 d2 W (r2.ext (xbw hW)) (r4.ext (xbw hW)) (qac _) (qac _) oo oo
 revert CS m4;generalize zval s1 (P1*D2)+zval s2 (P2*D1)=z;intro m4 CS;have CR:=fun a b c d W h h'=>qef (decide (z<0)) (limbs z.natAbs) (limbs (D1*D2)) z.natAbs (D1*D2) a b c d W h h' (qac _) (qac _) oo oo
 obtain ⟨t,ht⟩:=nm (qak (decide (z<0)) z.natAbs (D1*D2))
 rw [ht] at CR ⊢;obtain ⟨s,N,D⟩:=t;unfold RetI RetZ at CS;obtain ⟨R,hR⟩:=nm (decide (z<0))
 rw [hR] at CR;simp only [hR] at CS;obtain ⟨p1,hp1⟩:=nm ((s1&&decide (0<P1*D2)))
 obtain ⟨p2,hp2⟩:=nm ((s2&&decide (0<P2*D1)))
 simp only [hp1] at CZ1 CS;simp only [hp2] at CZ2 CS;unfold RetF at CR ⊢;dsimp only at CR ⊢;have W1:=fun W=>qlc (limbs D2).length b2 d2 W
 have W2:=fun W=>qlc (limbs D1).length b1 d1 W
 clear ht hR hp1 hp2 x1 x2 m1 m2 m3 m4 hD1 hD2;obtain ⟨PP,hPP⟩:=nm (P1*D2)
 obtain ⟨DD,hDD⟩:=nm (P2*D1)
 obtain ⟨MM,hMM⟩:=nm (D1*D2)
 simp only [hPP] at CZ1 CS;simp only [hDD] at CZ2 CS;simp only [hMM] at CN CR;clear hPP hDD hMM;replace W1:=Hd W1;replace W2:=Hd W2;replace CP1:=Hd CP1;replace CP2:=Hd CP2;replace CZ1:=Hd CZ1;replace CZ2:=Hd CZ2;replace CR:=Hd CR;replace CS:=Hd CS;replace CN:=Hd CN;by_cases ho1:D1=1
 ·
  replace CO1:=Hd (CO1 true (by simpa using ho1));replace CO2:=Hd (CO2 false (by rw [decide_eq_false_iff_not];intro e;exact hne ⟨ho1,e⟩));clear r1 r2 r3 r4 hne ho1;go_enter Tryz.func179,Tryz.ntmps179;go_wp2_with fail;refine qae (fun W=>Blk W w.heap.size 32 #[.bool s1,.slice a1 (limbs P1).length c1,.slice b1 (limbs D1).length d1]/\Blk W (w.heap.size+1) 32 #[.bool s2,.slice a2 (limbs P2).length c2,.slice b2 (limbs D2).length d2]/\Blk W (w.heap.size+1+1) 32 #[.bool false,.slice none 0 0,.slice none 0 0]/\Below w.heap.size w W/\w.heap.size<w.heap.size+1/\w.heap.size+1<w.heap.size+1+1/\w.heap.size+1+1<W.heap.size) ⟨((Blk.new w _ _).alloc _).alloc _,(qa5 w _ _ _).alloc _,qb6 w _ _ _ _,zg,oo,oo,by simp⟩ ?_;rintro w0 ⟨hx,hy,hz,hw0,hg1,hg2,hg3⟩;revert hx hy hz hg1 hg2 hg3;generalize w.heap.size+1+1=g3;generalize w.heap.size+1=g2;intro hx hy hz hg1 hg2 hg3
  refine (CP1.out _ hw0).mono ?_;rintro e w1 ⟨rfl,hb1⟩;replace hy:=hy.below' hb1;replace hz:=hz.below' hb1;have hw1:=bth hw0 hb1;have hs1:=hb1.size;clear hx;obtain ⟨z0,z1,z2⟩:=cq3 hy;have lt2:=hy.lt;have lt3:=hz.lt;go_wp2_with fail;refine qae (fun W=>Blk W w1.heap.size 30 #[.bool s1,.slice a1 (limbs P1).length c1]/\Blk W g3 32 #[.bool false,.slice none 0 0,.slice none 0 0]/\Below w.heap.size w W/\w1.heap.size<W.heap.size) ⟨bk,bk,zg,by simp⟩ ?_;clear z0 z1 z2 lt2 lt3 hy hz;rintro w2 ⟨hu,hz,hw2,hs2⟩;refine (CP2.out _ hw2).mono ?_;rintro e w3 ⟨rfl,hb3⟩;replace hu:=hu.below' hb3;replace hz:=hz.below' hb3
  have hw3:=bth hw2 hb3;have hs3:=hb3.size;have hlt3:w1.heap.size<w3.heap.size:=oo
  go_wp2_with fail;refine qae (fun W=>Blk W w1.heap.size 30 #[.bool s1,.slice a1 (limbs P1).length c1]/\Blk W w3.heap.size 30 #[.bool s2,.slice a2 (limbs P2).length c2]/\Blk W g3 32 #[.bool false,.slice none 0 0,.slice none 0 0]/\Below w.heap.size w W/\w3.heap.size<W.heap.size) ⟨bk,bk,bk,zg,by simp⟩ ?_;clear hu hz;rintro w4 ⟨hu,hv,hz,hw4,hs4⟩;refine (CO1.out _ hw4).mono ?_;rintro e w5 ⟨rfl,hb5⟩;replace hu:=hu.below' hb5;replace hv:=hv.below' hb5;replace hz:=hz.below' hb5
  have hw5:=bth hw4 hb5;have hs5:=hb5.size;go_wp2_with fail;refine (CO2.out _ hw5).mono ?_;rintro e w6 ⟨rfl,hb6⟩;replace hu:=hu.below' hb6;replace hv:=hv.below' hb6;replace hz:=hz.below' hb6;have hw6:=bth hw5 hb6;have hs6:=hb6.size;go_wp2
  refine qaa (fun W=>Blk W w1.heap.size 30 #[.bool s1,.slice a1 (limbs P1).length c1]/\Blk W w3.heap.size 30 #[.bool s2,.slice a2 (limbs P2).length c2]/\Blk W g3 32 #[.bool false,.slice none 0 0,.slice none 0 0]/\Below w.heap.size w W/\w6.heap.size<=W.heap.size) ⟨bk,bk,bk,zg,by simp⟩ ?_;exact zz27
 ·
  replace CO1:=Hd (CO1 false (by simpa using ho1));clear r1 r2 r3 r4 hne ho1 CO2;go_enter Tryz.func179,Tryz.ntmps179;go_wp2_with fail;refine qae (fun W=>Blk W w.heap.size 32 #[.bool s1,.slice a1 (limbs P1).length c1,.slice b1 (limbs D1).length d1]/\Blk W (w.heap.size+1) 32 #[.bool s2,.slice a2 (limbs P2).length c2,.slice b2 (limbs D2).length d2]/\Blk W (w.heap.size+1+1) 32 #[.bool false,.slice none 0 0,.slice none 0 0]/\Below w.heap.size w W/\w.heap.size<w.heap.size+1/\w.heap.size+1<w.heap.size+1+1/\w.heap.size+1+1<W.heap.size) ⟨((Blk.new w _ _).alloc _).alloc _,(qa5 w _ _ _).alloc _,qb6 w _ _ _ _,zg,oo,oo,by simp⟩ ?_;rintro w0 ⟨hx,hy,hz,hw0,hg1,hg2,hg3⟩;revert hx hy hz hg1 hg2 hg3;generalize w.heap.size+1+1=g3;generalize w.heap.size+1=g2;intro hx hy hz hg1 hg2 hg3;refine (CP1.out _ hw0).mono ?_;rintro e w1 ⟨rfl,hb1⟩;replace hy:=hy.below' hb1
  replace hz:=hz.below' hb1;have hw1:=bth hw0 hb1;have hs1:=hb1.size;clear hx;obtain ⟨z0,z1,z2⟩:=cq3 hy;have lt2:=hy.lt;have lt3:=hz.lt;go_wp2_with fail;refine qae (fun W=>Blk W w1.heap.size 30 #[.bool s1,.slice a1 (limbs P1).length c1]/\Blk W g3 32 #[.bool false,.slice none 0 0,.slice none 0 0]/\Below w.heap.size w W/\w1.heap.size<W.heap.size) ⟨bk,bk,zg,by simp⟩ ?_;clear z0 z1 z2 lt2 lt3 hy hz;rintro w2 ⟨hu,hz,hw2,hs2⟩;refine (CP2.out _ hw2).mono ?_;rintro e w3 ⟨rfl,hb3⟩;replace hu:=hu.below' hb3;replace hz:=hz.below' hb3;have hw3:=bth hw2 hb3;have hs3:=hb3.size;have hlt3:w1.heap.size<w3.heap.size:=oo
  go_wp2_with fail;refine qae (fun W=>Blk W w1.heap.size 30 #[.bool s1,.slice a1 (limbs P1).length c1]/\Blk W w3.heap.size 30 #[.bool s2,.slice a2 (limbs P2).length c2]/\Blk W g3 32 #[.bool false,.slice none 0 0,.slice none 0 0]/\Below w.heap.size w W/\w3.heap.size<W.heap.size) ⟨bk,bk,bk,zg,by simp⟩ ?_;clear hu hz;rintro w4 ⟨hu,hv,hz,hw4,hs4⟩;refine (CO1.out _ hw4).mono ?_;rintro e w5 ⟨rfl,hb5⟩;replace hu:=hu.below' hb5;replace hv:=hv.below' hb5;replace hz:=hz.below' hb5
  have hw5:=bth hw4 hb5;have hs5:=hb5.size;go_wp2;refine qaa (fun W=>Blk W w1.heap.size 30 #[.bool s1,.slice a1 (limbs P1).length c1]/\Blk W w3.heap.size 30 #[.bool s2,.slice a2 (limbs P2).length c2]/\Blk W g3 32 #[.bool false,.slice none 0 0,.slice none 0 0]/\Below w.heap.size w W/\w5.heap.size<=W.heap.size) ⟨bk,bk,bk,zg,by simp⟩ ?_;exact zz27
theorem qud (s1 s2:Bool) (P1 D1 P2 D2:Nat) (a1 b1 a2 b2:Option Addr) (c1 d1 c2 d2:Nat) (w:World) (r1:NatR w a1 c1 (limbs P1)) (r2:NatR w b1 d1 (limbs D1)) (r3:NatR w a2 c2 (limbs P2)) (r4:NatR w b2 d2 (limbs D2))
  (hD1:D1≠0) (hD2:D2≠0) (l1:(limbs P1).length<=400000) (l2:(limbs D1).length<=400000) (l3:(limbs P2).length<=400000) (l4:(limbs D2).length<=400000):Calls Tryz.prog 145 #[.agg #[.bool s1,.slice a1 (limbs P1).length c1,.slice b1 (limbs D1).length d1],.agg #[.bool s2,.slice a2 (limbs P2).length c2,.slice b2 (limbs D2).length d2]] w (RetF (qak (s1 != s2) (P1*P2) (D1*D2)) w):=by
 have m1:=qa0 P1 P2;have m2:=qa0 D1 D2;have CZ:=fun W (hW:bw w W)=>qfm s1 s2 (limbs P1) (limbs P2) P1 P2 a1 a2 c1 c2 W (r1.ext (xbw hW)) (r3.ext (xbw hW)) (qac _) (qac _) oo oo
 have CN:=fun W (hW:bw w W)=>qfn (limbs D1) (limbs D2) D1 D2 b1 b2 d1 d2 W (r2.ext (xbw hW)) (r4.ext (xbw hW)) (qac _) (qac _) oo oo
 have CR:=fun a b c d W h h'=>qhz ((s1 != s2)&&decide (0<P1*P2)) (limbs (P1*P2)) (limbs (D1*D2)) (P1*P2) (D1*D2) a b c d W h h' (qac _) (qac _) oo oo
 rw [qky] at CR;obtain ⟨R,hR⟩:=nm (((s1 != s2)&&decide (0<P1*P2)))
 rw [hR] at CZ CR;obtain ⟨t,ht⟩:=nm (qak (s1 != s2) (P1*P2) (D1*D2))
 rw [ht] at CR ⊢;obtain ⟨s,N,D⟩:=t;clear m1 m2 hR ht hD1 hD2;revert CZ CN CR;generalize P1*P2=PP;generalize D1*D2=DD;intro CN CZ CR;unfold RetF at CR ⊢;dsimp only at CR ⊢;replace CZ:=Hd CZ;replace CN:=Hd CN;replace CR:=Hd CR;clear r1 r2 r3 r4;go_enter Tryz.func145,Tryz.ntmps145;go_wp2;refine qaa (fun W=>Blk W w.heap.size 32 #[.bool s1,.slice a1 (limbs P1).length c1,.slice b1 (limbs D1).length d1]/\Blk W (w.heap.size+1) 32 #[.bool s2,.slice a2 (limbs P2).length c2,.slice b2 (limbs D2).length d2]/\Blk W (w.heap.size+1+1) 32 #[.bool false,.slice none 0 0,.slice none 0 0]/\Below w.heap.size w W/\w.heap.size<w.heap.size+1/\w.heap.size+1<w.heap.size+1+1/\w.heap.size+1+1<W.heap.size) ⟨((Blk.new w _ _).alloc _).alloc _,(qa5 w _ _ _).alloc _,qb6 w _ _ _ _,zg,oo,oo,by simp⟩ ?_;rintro w0 ⟨hx,hy,hz,hw0,hg1,hg2,hg3⟩;revert hx hy hz hg1 hg2 hg3;generalize w.heap.size+1+1=g3
 generalize w.heap.size+1=g2;intro hx hy hz hg1 hg2 hg3;have k0:=held (hx.cell 0);have k1:=held (hx.cell 1);have k2:=held (hx.cell 2);have k3:=held (hy.cell 0);have k4:=held (hy.cell 1);have k5:=held (hy.cell 2);have s0:Below w0.heap.size w0 w0.drew:=brf.drew;refine wrx (S:=Below w0.heap.size w0) [(0,.q),(1,.q),(2,.q),(3,.q),(5,.q),(6,.q),(7,.q),(8,.q),(4,.l),(9,.t),(10,.t),(11,.t)] (s0) ?_
 iterate 8 (refine qaf rfl rfl fun K hK=>xq ?_;go_simp;refine hK _ _ ?_;clear hK K)
 refine vl fun K hK=>?_
 go_simp;refine (CZ.out _ (bth hw0 s0)).mono ?_;rintro r w1 ⟨a5,c5,rfl,hV5,hb1⟩;dsimp only;refine hK.out _ _ (bth s0 hb1) (fun _=>?_);clear hK K;have t6:=bth s0 hb1;have hr5:=hV5 w1 (New.refl _ _);have HR5:=Hd hr5;clear hr5 hV5;refine vt fun K hK=>?_
 go_simp;refine (CN.out _ (bth hw0 t6)).mono ?_;rintro r w2 ⟨a6,c6,rfl,hV6,hb2⟩;dsimp only;refine hK.out _ _ ?_;clear hK K;have t7:=bth t6 hb2;have CG:=CR.out a5 a6 c5 c6 w2 (HR5.out.ext (xbw hb2)) (hV6 w2 (New.refl _ _));replace CG:=Hd CG;clear hV6;refine vt fun K hK=>?_
 go_simp;refine (CG.out).mono ?_;rintro r w3 ⟨a8,c8,b8,d8,rfl,hV1,hV2,hb3⟩;dsimp only;refine hK.out _ _ ?_;clear hK K;have t8:=bth t7 hb3;replace hz:=hz.below' t8;have hw8:=bth hw0 t8;have hwB:=(bth hw0 t7).size;have hwG:=t7.size;have ltz:=hz.lt;have HV1:=Hd hV1;have HV2:=Hd hV2;clear hV1 hV2 k0 k1 k2 k3 k4 k5;obtain ⟨z0,z1,z2⟩:=cq3 hz;obtain ⟨f0,f1,f2⟩:=fq3 hz;refine vt fun K hK=>?_
 go_simp;refine hK.out _ _ ?_;clear hK K;refine qad ?_;go_wp2;have hF:=blk3 (x:=.bool s) (y:=.slice a8 (limbs N).length c8) (z:=.slice b8 (limbs D).length d8) hz;obtain ⟨e0,e1,e2⟩:=cq3 hF;refine bodyPost_ret (v:=.agg #[.bool s,.slice a8 (limbs N).length c8,.slice b8 (limbs D).length d8]) (by simp [results,Tryz.results145,go_sem,e0,e1,e2]) rfl ?_;exact ⟨a8,c8,b8,d8,rfl,fun V hV=>HV1.out V (back3 hV hwB oo),fun V hV=>HV2.out V (back3 hV hwB oo),qbu hw8 oo⟩
theorem quz (s1 s2:Bool) (P1 D1 P2 D2:Nat) (a1 b1 a2 b2:Option Addr) (c1 d1 c2 d2:Nat) (w:World) (r1:NatR w a1 c1 (limbs P1)) (r2:NatR w b1 d1 (limbs D1)) (r3:NatR w a2 c2 (limbs P2)) (r4:NatR w b2 d2 (limbs D2))
  (S1 S2:Bool) (N1 M1 N2 M2:Nat) (h1:qak s1 P1 D1=(S1,N1,M1)) (h2:qak s2 P2 D2=(S2,N2,M2)) (hD1:D1≠0) (hD2:D2≠0) (l1:(limbs P1).length<=400000) (l2:(limbs D1).length<=400000) (l3:(limbs P2).length<=400000) (l4:(limbs D2).length<=400000) :
  Calls Tryz.prog 142 #[.agg #[.bool s1,.slice a1 (limbs P1).length c1,.slice b1 (limbs D1).length d1],.agg #[.bool s2,.slice a2 (limbs P2).length c2,.slice b2 (limbs D2).length d2]] w (RetF (qak (decide (zval S1 (N1*M2)+zval S2 (N2*M1)<0)) (zval S1 (N1*M2)+zval S2 (N2*M1)).natAbs (M1*M2)) w):=by
 have r1':=qap (qcj s1 P1 D1);have r2':=qap (qcr s1 P1 D1);have r3':=qap (qcj s2 P2 D2);have r4':=qap (qcr s2 P2 D2);have t2:=qd5 D1;have t4:=qd5 D2;have C1:=fun W (hW:bw w W)=>qd6 s1 (limbs P1) (limbs D1) P1 D1 a1 b1 c1 d1 W (r1.ext (xbw hW)) (r2.ext (xbw hW)) (qac _) (qac _) oo oo
 have C2:=fun W (hW:bw w W)=>qd6 s2 (limbs P2) (limbs D2) P2 D2 a2 b2 c2 d2 W (r3.ext (xbw hW)) (r4.ext (xbw hW)) (qac _) (qac _) oo oo
 rw [h1] at C1 r1' r2';rw [h2] at C2 r3' r4';unfold RetF at C1 C2;dsimp only at C1 C2 r1' r2' r3' r4';have m1:=qa0 N1 M2;have m2:=qa0 N2 M1;have m3:=qa0 M1 M2;have m4:=Nat.le_trans (qap (qob S1 S2 N1 M1 N2 M2)) (qdm _ _);have CZ1:=fun a1 a2 c1 c2 W g1 g2=>qfm S1 false (limbs N1) (limbs M2) N1 M2 a1 a2 c1 c2 W g1 g2 (qac _) (qac _) oo oo
 have CZ2:=fun a1 a2 c1 c2 W g1 g2=>qfm S2 false (limbs N2) (limbs M1) N2 M1 a1 a2 c1 c2 W g1 g2 (qac _) (qac _) oo oo
 have x1:(S1 != false)=S1:=by cases S1 <;> rfl
 have x2:(S2 != false)=S2:=by cases S2 <;> rfl
 simp only [x1] at CZ1;simp only [x2] at CZ2;have CS:=fun a b c d W h h'=>qu1 (S1&&decide (0<N1*M2)) (S2&&decide (0<N2*M1)) (limbs (N1*M2)) (limbs (N2*M1)) (N1*M2) (N2*M1) a b c d W h h' (qac _) (qac _) oo oo
 simp only [qkf] at CS;have CN:=fun a b c d W h h'=>qfn (limbs M1) (limbs M2) M1 M2 a b c d W h h' (qac _) (qac _) oo oo
 revert CS m4;generalize zval S1 (N1*M2)+zval S2 (N2*M1)=z;intro m4 CS;have CR:=fun a b c d W h h'=>qhz (decide (z<0)) (limbs z.natAbs) (limbs (M1*M2)) z.natAbs (M1*M2) a b c d W h h' (qac _) (qac _) oo oo
 obtain ⟨t,ht⟩:=nm (qak (decide (z<0)) z.natAbs (M1*M2))
 rw [ht] at CR ⊢;obtain ⟨s,N,D⟩:=t;unfold RetI RetZ at CS;obtain ⟨R,hR⟩:=nm (decide (z<0))
 rw [hR] at CR;simp only [hR] at CS;obtain ⟨p1,hp1⟩:=nm ((S1&&decide (0<N1*M2)))
 obtain ⟨p2,hp2⟩:=nm ((S2&&decide (0<N2*M1)))
 simp only [hp1] at CZ1 CS;simp only [hp2] at CZ2 CS;unfold RetF at CR ⊢;dsimp only at CR ⊢;clear ht hR hp1 hp2 x1 x2 m1 m2 m3 m4 r1' r2' r3' r4' t2 t4 h1 h2 hD1 hD2;obtain ⟨PP,hPP⟩:=nm (N1*M2)
 obtain ⟨DD,hDD⟩:=nm (N2*M1)
 obtain ⟨MM,hMM⟩:=nm (M1*M2)
 simp only [hPP] at CZ1 CS;simp only [hDD] at CZ2 CS;simp only [hMM] at CN CR;clear hPP hDD hMM;replace C1:=Hd C1;replace C2:=Hd C2;replace CZ1:=Hd CZ1;replace CZ2:=Hd CZ2;replace CS:=Hd CS;replace CN:=Hd CN;replace CR:=Hd CR;clear r1 r2 r3 r4;go_enter Tryz.func142,Tryz.ntmps142;go_wp2;refine qaa (fun W=>Blk W w.heap.size 32 #[.bool s1,.slice a1 (limbs P1).length c1,.slice b1 (limbs D1).length d1]/\Blk W (w.heap.size+1) 32 #[.bool s2,.slice a2 (limbs P2).length c2,.slice b2 (limbs D2).length d2]/\Blk W (w.heap.size+1+1) 32 #[.bool false,.slice none 0 0,.slice none 0 0]/\Below w.heap.size w W/\w.heap.size<w.heap.size+1/\w.heap.size+1<w.heap.size+1+1/\w.heap.size+1+1<W.heap.size) ⟨((Blk.new w _ _).alloc _).alloc _,(qa5 w _ _ _).alloc _,qb6 w _ _ _ _,zg,oo,oo,by simp⟩ ?_;rintro w0 ⟨hx,hy,hz,hw0,hg1,hg2,hg3⟩;revert hx hy hz hg1 hg2 hg3;generalize w.heap.size+1+1=g3
 generalize w.heap.size+1=g2;intro hx hy hz hg1 hg2 hg3;have k0:=held (hx.cell 0);have k1:=held (hx.cell 1);have k2:=held (hx.cell 2);have k3:=held (hy.cell 0);have k4:=held (hy.cell 1);have k5:=held (hy.cell 2);have s0:Below w0.heap.size w0 w0.drew:=brf.drew;refine wrx (S:=Below w0.heap.size w0) [(0,.q),(2,.q),(1,.l),(3,.t),(4,.t),(5,.t)] (s0) ?_
 iterate 2 (refine qaf rfl rfl fun K hK=>xq ?_;go_simp;refine hK _ _ ?_;clear hK K)
 refine vl fun K hK=>?_
 go_simp;refine (C1.out _ (bth hw0 s0)).mono ?_;rintro r w1 ⟨u1,e1,v1,f1,rfl,hV1,hV2,hb1⟩;dsimp only;refine hK.out _ _ (bth s0 hb1) (fun _=>?_);clear hK K;have s1':=bth s0 hb1;refine vt fun K hK=>?_
 go_simp;refine (C2.out _ (bth hw0 s1')).mono ?_;rintro r w2 ⟨u2,e2,v2,f2,rfl,hV3,hV4,hb2⟩;dsimp only;refine hK.out _ _ ?_;clear hK K;have s2':=bth s1' hb2;have H1:Kp (fun V=>NatR V u1 e1 (limbs N1)) w0.heap.size w1.heap.size w2:=(Kp.made hV1).call hb2;have H2:Kp (fun V=>NatR V v1 f1 (limbs M1)) w0.heap.size w1.heap.size w2:=(Kp.made hV2).call hb2;have H3:Kp (fun V=>NatR V u2 e2 (limbs N2)) w1.heap.size w2.heap.size w2:=Kp.made hV3;have H4:Kp (fun V=>NatR V v2 f2 (limbs M2)) w1.heap.size w2.heap.size w2:=Kp.made hV4;replace H1:=Hd H1;replace H2:=Hd H2;replace H3:=Hd H3;replace H4:=Hd H4;replace hx:=hx.below' s2';replace hy:=hy.below' s2';replace hz:=hz.below' s2';have hw2:=bth hw0 s2';have hs1:=s1'.size;have hs2:=hb2.size;clear hV1 hV2 hV3 hV4 k0 k1 k2 k3 k4 k5 s0 C1 C2;obtain ⟨k0,k1,k2⟩:=cq3 hx;obtain ⟨k3,k4,k5⟩:=cq3 hy;obtain ⟨f0',f1',f2'⟩:=fq3 hx;obtain ⟨f3',f4',f5'⟩:=fq3 hy
 have hne:¬ g2=w.heap.size:=oo
 have hne2:¬ w.heap.size=g2:=oo
 refine vt fun K hK=>?_
 go_simp;refine hK.out _ _ ?_;clear hK K;refine vt fun K hK=>?_
 go_simp;refine hK.out _ _ ?_;clear hK K;refine qad ?_;go_wp2;refine qaa (fun W=>Blk W w.heap.size 32 #[.bool S1,.slice u1 (limbs N1).length e1,.slice v1 (limbs M1).length f1]/\Blk W g2 32 #[.bool S2,.slice u2 (limbs N2).length e2,.slice v2 (limbs M2).length f2]/\Blk W g3 32 #[.bool false,.slice none 0 0,.slice none 0 0]/\Below w.heap.size w W/\w2.heap.size<=W.heap.size/\NatR W u1 e1 (limbs N1)/\NatR W v1 f1 (limbs M1)/\NatR W u2 e2 (limbs N2)/\NatR W v2 f2 (limbs M2))
  ⟨bk,bk,bk,zg,by simp,Kp.now (R:=fun V=>NatR V u1 e1 (limbs N1)) (B:=w0.heap.size) (T:=w1.heap.size) (by (with_reducible repeat first | exact H1.out | (refine Kp.setc ?_ ?_;focus omega) | refine Kp.alloc ?_ | refine Kp.drew ?_)),Kp.now (R:=fun V=>NatR V v1 f1 (limbs M1)) (B:=w0.heap.size) (T:=w1.heap.size) (by (with_reducible repeat first | exact H2.out | (refine Kp.setc ?_ ?_;focus omega) | refine Kp.alloc ?_ | refine Kp.drew ?_)),Kp.now (R:=fun V=>NatR V u2 e2 (limbs N2)) (B:=w1.heap.size) (T:=w2.heap.size) (by (with_reducible repeat first | exact H3.out | (refine Kp.setc ?_ ?_;focus omega) | refine Kp.alloc ?_ | refine Kp.drew ?_)),Kp.now (R:=fun V=>NatR V v2 f2 (limbs M2)) (B:=w1.heap.size) (T:=w2.heap.size) (by (with_reducible repeat first | exact H4.out | (refine Kp.setc ?_ ?_;focus omega) | refine Kp.alloc ?_ | refine Kp.drew ?_))⟩ ?_
 clear hx hy hz k0 k1 k2 k3 k4 k5 f0' f1' f2' f3' f4' f5' H1 H2 H3 H4 hne hne2;rintro w3 ⟨hx,hy,hz,hw3,hs3,q1,q2,q3,q4⟩;replace q1:=Hd q1;replace q2:=Hd q2;replace q3:=Hd q3;replace q4:=Hd q4;have W1:=fun W=>qg4 (limbs M2).length v2 f2 W
 have W2:=fun W=>qg4 (limbs M1).length v1 f1 W
 replace W1:=Hd W1;replace W2:=Hd W2;clear hw0 s1' s2' hb1 hb2 hw2;have k0:=held (hx.cell 0);have k1:=held (hx.cell 1);have k2:=held (hx.cell 2);have k3:=held (hy.cell 0);have k4:=held (hy.cell 1);have k5:=held (hy.cell 2);have s0:Below w3.heap.size w3 w3.drew:=brf.drew;refine wrx (S:=Below w3.heap.size w3) [(0,.q),(1,.q),(2,.q),(3,.q),(6,.q),(7,.q),(8,.q),(9,.q),(13,.q),(14,.q),(15,.q),(16,.q),(4,.l),(5,.l),(10,.l),(11,.l),(12,.l),(17,.t),(18,.t),(19,.t)] (s0) ?_
 iterate 12 (refine qaf rfl rfl fun K hK=>xq ?_;go_simp;refine hK _ _ ?_;clear hK K)
 refine vl fun K hK=>?_
 go_simp;refine (W1.out _).mono ?_;rintro r w4 ⟨rfl,hb4⟩;dsimp only;refine hK.out _ _ (bth s0 hb4) (fun _=>?_);clear hK K;have t3:=bth s0 hb4;have CA:=CZ1.out u1 v2 e1 f2 w4 (q1.out.ext (xbw t3)) (q4.out.ext (xbw t3));replace CA:=Hd CA;refine vl fun K hK=>?_
 go_simp;refine (CA.out).mono ?_;rintro r w5 ⟨a5,c5,rfl,hV5,hb5⟩;dsimp only;refine hK.out _ _ (bth t3 hb5) (fun _=>?_);clear hK K;have t4:=bth t3 hb5;have HV5:=Hd hV5;clear hV5;refine vl fun K hK=>?_
 go_simp;refine (W2.out _).mono ?_;rintro r w6 ⟨rfl,hb6⟩;dsimp only;refine hK.out _ _ (bth t4 hb6) (fun _=>?_);clear hK K;have t5:=bth t4 hb6;have CB:=CZ2.out u2 v1 e2 f1 w6 (q3.out.ext (xbw t5)) (q2.out.ext (xbw t5));replace CB:=Hd CB;refine vl fun K hK=>?_
 go_simp;refine (CB.out).mono ?_;rintro r w7 ⟨a7,c7,rfl,hV7,hb7⟩;dsimp only;refine hK.out _ _ (bth t5 hb7) (fun _=>?_);clear hK K;have t6:=bth t5 hb7;have CD:=CS.out a5 a7 c5 c7 w7 (HV5.out w7 (((New.refl _ _).below hb7).below hb6)) (hV7 w7 (New.refl _ _));replace CD:=Hd CD;clear hV7;refine vl fun K hK=>?_
 go_simp;refine (CD.out).mono ?_;rintro r w8 ⟨a9,c9,rfl,hV9,hb8⟩;dsimp only;refine hK.out _ _ (bth t6 hb8) (fun _=>?_);clear hK K;have t6':=bth t6 hb8;have HV9:=Hd hV9;have CE:=CN.out v1 v2 f1 f2 w8 (q2.out.ext (xbw t6')) (q4.out.ext (xbw t6'));replace CE:=Hd CE;clear hV9;refine vt fun K hK=>?_
 go_simp;refine (CE.out).mono ?_;rintro r w9 ⟨a10,c10,rfl,hV10,hb9⟩;dsimp only;refine hK.out _ _ ?_;clear hK K;have t7:=bth t6' hb9;have CG:=CR.out a9 a10 c9 c10 w9 (HV9.out w9 ((New.refl _ _).below hb9)) (hV10 w9 (New.refl _ _));replace CG:=Hd CG;clear hV10;refine vt fun K hK=>?_
 go_simp;refine (CG.out).mono ?_;rintro r w10 ⟨a8,c8,b8,d8,rfl,hV1,hV2,hb10⟩;dsimp only;refine hK.out _ _ ?_;clear hK K;have t8:=bth t7 hb10;obtain ⟨hw0⟩:Nonempty (Below w.heap.size w w3):=⟨hw3⟩
 replace hz:=hz.below' t8;have hw8:=bth hw0 t8;have hwB:=(bth hw0 t7).size;have hwG:=t7.size;have ltz:=hz.lt;have HV1:=Hd hV1;have HV2:=Hd hV2;clear hV1 hV2 k0 k1 k2 k3 k4 k5;obtain ⟨z0,z1,z2⟩:=cq3 hz;obtain ⟨f0,f1,f2⟩:=fq3 hz;refine vt fun K hK=>?_
 go_simp;refine hK.out _ _ ?_;clear hK K;refine qad ?_;go_wp2;have hF:=blk3 (x:=.bool s) (y:=.slice a8 (limbs N).length c8) (z:=.slice b8 (limbs D).length d8) hz;obtain ⟨e0,e1,e2⟩:=cq3 hF;refine bodyPost_ret (v:=.agg #[.bool s,.slice a8 (limbs N).length c8,.slice b8 (limbs D).length d8]) (by simp [results,Tryz.results142,go_sem,e0,e1,e2]) rfl ?_;exact ⟨a8,c8,b8,d8,rfl,fun V hV=>HV1.out V (back3 hV hwB oo),fun V hV=>HV2.out V (back3 hV hwB oo),qbu hw8 oo⟩
theorem qh3 (z:Int) (d:Nat):qak (decide (z<0)) z.natAbs d=trip (mkRat z d):=by
 rw [qcb];unfold qv;rw [qfl]
theorem qwn (s1 s2:Bool) (P1 D1 P2 D2:Nat) (hD1:D1≠0) (hD2:D2≠0):mkRat (zval s1 (P1*D2)+zval s2 (P2*D1)) (D1*D2)=qv s1 P1 D1+qv s2 P2 D2:=by
 rw [qf7,qf7];exact qab9 s1 s2 P1 D1 P2 D2 hD1 hD2
theorem qxw (s1 s2:Bool) (P1 D1 P2 D2:Nat) (a1 b1 a2 b2:Option Addr) (c1 d1 c2 d2:Nat) (w:World) (r1:NatR w a1 c1 (limbs P1)) (r2:NatR w b1 d1 (limbs D1)) (r3:NatR w a2 c2 (limbs P2)) (r4:NatR w b2 d2 (limbs D2))
  (hD1:D1≠0) (hD2:D2≠0) (l1:(limbs P1).length<=400000) (l2:(limbs D1).length<=400000) (l3:(limbs P2).length<=400000) (l4:(limbs D2).length<=400000):Calls Tryz.prog 179 #[.agg #[.bool s1,.slice a1 (limbs P1).length c1,.slice b1 (limbs D1).length d1],.agg #[.bool s2,.slice a2 (limbs P2).length c2,.slice b2 (limbs D2).length d2]] w (RetF (trip (qv s1 P1 D1+qv s2 P2 D2)) w):=by
 rw [<- qwn s1 s2 P1 D1 P2 D2 hD1 hD2,<- qh3];by_cases h:D1=1/\D2=1
 ·
  have:=qwj s1 s2 P1 D1 P2 D2 a1 b1 a2 b2 c1 d1 c2 d2 w r1 r2 r3 r4 h.1 h.2 l1 l3;obtain ⟨rfl,rfl⟩:=h;simpa using this
 · exact qtk s1 s2 P1 D1 P2 D2 a1 b1 a2 b2 c1 d1 c2 d2 w r1 r2 r3 r4 hD1 hD2 l1 l2 l3 l4 h
theorem qjx {s S:Bool} {P D N M:Nat} (h:qak s P D=(S,N,M)):qv S N M=qv s P D/\M≠0:=by
 have h1:=qho s P D;rw [qcb] at h;have h2:=qrb (qv s P D);rw [h] at h2;rw [qcb,h] at h1;exact ⟨h2,by dsimp only at h1;omega⟩
theorem qw4 (s1 s2:Bool) (P1 D1 P2 D2:Nat) (a1 b1 a2 b2:Option Addr) (c1 d1 c2 d2:Nat) (w:World) (r1:NatR w a1 c1 (limbs P1)) (r2:NatR w b1 d1 (limbs D1)) (r3:NatR w a2 c2 (limbs P2)) (r4:NatR w b2 d2 (limbs D2))
  (hD1:D1≠0) (hD2:D2≠0) (l1:(limbs P1).length<=400000) (l2:(limbs D1).length<=400000) (l3:(limbs P2).length<=400000) (l4:(limbs D2).length<=400000):Calls Tryz.prog 142 #[.agg #[.bool s1,.slice a1 (limbs P1).length c1,.slice b1 (limbs D1).length d1],.agg #[.bool s2,.slice a2 (limbs P2).length c2,.slice b2 (limbs D2).length d2]] w (RetF (trip (qv s1 P1 D1+qv s2 P2 D2)) w):=by
 obtain ⟨⟨S1,N1,M1⟩,h1⟩:=nm (qak s1 P1 D1)
 obtain ⟨⟨S2,N2,M2⟩,h2⟩:=nm (qak s2 P2 D2)
 obtain ⟨e1,n1⟩:=qjx h1;obtain ⟨e2,n2⟩:=qjx h2;rw [<- e1,<- e2,<- qwn S1 S2 N1 M1 N2 M2 n1 n2,<- qh3];exact quz s1 s2 P1 D1 P2 D2 a1 b1 a2 b2 c1 d1 c2 d2 w r1 r2 r3 r4 S1 S2 N1 M1 N2 M2 h1 h2 hD1 hD2 l1 l2 l3 l4
end Go.Proofs.YtmdlbpibipnapaaGreat
