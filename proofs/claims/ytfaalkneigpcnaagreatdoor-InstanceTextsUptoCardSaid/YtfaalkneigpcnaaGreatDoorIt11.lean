/- Coefficients as handles: equality, the text without the sign. -/
import Derived.Test.YtfaalkneigpcnaaGreatDoorIt10
import Derived.Test.YtfaalkneigpcnaaGreatDoorIt6
import Derived.Test.YtfaalkneigpcnaaGreatDoorIt9
import Derived.Test.YtfaalkneigpcnaaGreatDoorIt1
import Derived.Lib.SplitLaws
import Derived.Test.YtfaalkneigpcnaaGreatDoorIt7
import Derived.Test.YtfaalkneigpcnaaGreatDoorIt5
import Derived.Laws.IdiomStrings
import Derived.Test.YtfaalkneigpcnaaGreatDoorProg
import Derived.Ground.NamesProg
import Derived.Shelf.Lays
import Derived.Shelf.Strings.BuilderK
import Derived.Test.YtfaalkneigpcnaaGreatDoorIt2
import Derived.Test.YtfaalkneigpcnaaGreatDoorIt3
import Derived.Test.YtfaalkneigpcnaaGreatDoorIt4
import Derived.Test.YtfaalkneigpcnaaGreatDoorIt8
set_option linter.all false
set_option maxRecDepth 100000
set_option maxHeartbeats 4000000
namespace Go.Proofs.YtfaalkneigpcnaaGreatDoor
open Go.RowKit
def sgnQ (q:Rat):Int:=if q=0 then 0 else if q<0 then -1 else 1
theorem qw5 (q:Rat):sgnZ (decide (q.num<0)) q.num.natAbs=sgnQ q:=by
 unfold sgnZ sgnQ;by_cases h:q=0
 · subst h;rfl
 ·
  have h0:q.num≠0:=fun e=>h (Rat.num_eq_zero.1 e)
  rw [if_neg (by omega),if_neg h];have h2:q<0↔q.num<0:=by rw [Rat.lt_iff];simp
  by_cases h1:q.num<0
  · rw [if_pos (by simpa using h1),if_pos (h2.2 h1)]
  · rw [if_neg (by simpa using h1),if_neg (fun e=>h1 (h2.1 e))]
theorem qj6 {q:Rat}:sgnQ q=0↔q=0:=by
 unfold sgnQ;by_cases h:q=0
 · simp [h]
 ·
  rw [if_neg h]
  constructor
  · intro e;split at e <;> omega
  · intro e;exact absurd e h
theorem zz26 {P:Prop} (h:P:=by
 by_cases h:q=0
 · rw [qj6.2 h];simp [h]
 ·
  have:=fun e=>h (qj6.1 e)
  rw [decide_eq_false h];simpa using this
 ):P:=h
theorem qn3 (q:Rat):(sgnQ q != 0) = !decide (q=0):=by
 exact zz26
theorem qoh (q:Rat):(sgnQ q==0)=decide (q=0):=by
 exact zz26
theorem Kp.broad {R:World->Prop} {B B' T T':Nat} {w:World} (h:Kp R B T w) (hB:B'<=B) (hT:T<=T'):Kp R B' T' w:=fun V hV=>h V fun p v h1 h2 h3=>hV p v (by omega) (by omega) h3
theorem qiy (x:QA) (q:Rat) (k:Nat) (w:World) (H:QK k w x q) (hk:k<=100000):Calls Tryz.prog 113 #[.agg #[.bool x.neg,.slice x.a x.n x.c,.slice x.b x.m x.d]] w fun e w'=>e=.returned (.int .i64 (sgnQ q))/\Below w.heap.size w w':=by
 obtain ⟨s1,n1,a1,c1,m1,b1,d1⟩:=x;obtain ⟨⟨e1,e2,e3,r1,r2⟩,z1⟩:=H;dsimp only at e1 e2 e3 r1 r2 ⊢;subst e1 e2 e3;have l1:=qbi q;have l2:=qbj q;have:=qgy (decide (q.num<0)) (limbs q.num.natAbs) (limbs q.den) q.num.natAbs a1 b1 c1 d1 w r1 r2 (qaa _) (by rw [qaa];exact q.den_nz) (by omega) (by omega)
 rwa [qw5] at this
theorem qtr (s t:TQ) (m n:List Int) (w:World) (h:IntsR w s.a s.c m) (h':IntsR w t.a t.c n) (hs:s.n=m.length) (ht:t.n=n.length) :
  Calls Tryz.prog 169 #[.agg #[.bool s.x.neg,.slice s.x.a s.x.n s.x.c,.slice s.x.b s.x.m s.x.d,.slice s.a s.n s.c],.agg #[.bool t.x.neg,.slice t.x.a t.x.n t.x.c,.slice t.x.b t.x.m t.x.d,.slice t.a t.n t.c]] w fun e w'=>e=.returned (.int .i64 (lexI m n))/\Below w.heap.size w w':=by
 have:=qu1 ⟨⟨s.x.neg,List.replicate s.x.n 0,List.replicate s.x.m 0⟩,m⟩ ⟨⟨t.x.neg,List.replicate t.x.n 0,List.replicate t.x.m 0⟩,n⟩ ⟨s.a,s.c,s.x.a,s.x.c,s.x.b,s.x.d⟩ ⟨t.a,t.c,t.x.a,t.x.c,t.x.b,t.x.d⟩ w h h';unfold Trm.val at this;simp only [List.length_replicate] at this;rw [hs,ht];exact this
theorem qvn (s t:TQ) (p q:Rat) (w:World) (h:QK 1000 w s.x p) (h':QK 1000 w t.x q) :
  Calls Tryz.prog 170 #[.agg #[.bool s.x.neg,.slice s.x.a s.x.n s.x.c,.slice s.x.b s.x.m s.x.d,.slice s.a s.n s.c],.agg #[.bool t.x.neg,.slice t.x.a t.x.n t.x.c,.slice t.x.b t.x.m t.x.d,.slice t.a t.n t.c]] w fun e w'=>∃ x:QA,e=.returned (.tuple #[.agg #[.bool x.neg,.slice x.a x.n x.c,.slice x.b x.m x.d,.slice s.a s.n s.c],.bool (!decide (p+q=0))])/\Kp (fun V=>QK 2001 V x (p+q)) w.heap.size w'.heap.size w'/\Below w.heap.size w w':=by
 have CA:=fun W (hW:Below w.heap.size w W)=>add_q s.x t.x p q 1000 1000 W (h.ext (xbw hW)) (h'.ext (xbw hW)) (by omega) (by omega)
 have hsg:=qn3 (p+q);replace CA:=Hd CA;clear h h';go_enter Tryz.func170,Tryz.ntmps170;go_wp2_with fail;refine qad (fun W=>Blk W w.heap.size 191 #[.bool s.x.neg,.slice s.x.a s.x.n s.x.c,.slice s.x.b s.x.m s.x.d,.slice s.a s.n s.c]/\Blk W (w.heap.size+1) 191 #[.bool t.x.neg,.slice t.x.a t.x.n t.x.c,.slice t.x.b t.x.m t.x.d,.slice t.a t.n t.c]/\Blk W (w.heap.size+1+1) 191 #[.bool false,.slice none 0 0,.slice none 0 0,.slice none 0 0]/\Below w.heap.size w W) (by refine ⟨?_,?_,?_,?_⟩<;>first|((with_reducible repeat first|assumption|(apply bF;focus omega)|apply bS|(apply bN;focus (simp;done))|apply bA|apply bD);all_goals rfl)|go_grown) ?_;rintro w0 ⟨hx,hy,hz,hw0⟩;obtain ⟨g1,hg1⟩:∃ g,g=w.heap.size+1:=⟨_,rfl⟩
 obtain ⟨g2,hg2⟩:∃ g,g=w.heap.size+1+1:=⟨_,rfl⟩
 rw [<- hg2] at hz ⊢;rw [<- hg1] at hy ⊢;refine (CA.out _ hw0).mono ?_;rintro e w1 ⟨x,rfl,HX,hb1⟩;replace HX:=Hd HX;have hg20:=hz.lt;replace hy:=hy.below' hb1;replace hz:=hz.below' hb1;replace hx:=hx.below' hb1;have hw1:=bth hw0 hb1;have hlt1:=hy.lt;have hlt2:=hz.lt;have hlt3:=hx.lt;have hlo2:w.heap.size<=w0.heap.size:=hw0.size;have hww:Hid (w1.heap.size<=w1.heap.size):=Hd (nlr _);go_wp2
 refine qab (fun W=>Blk W w1.heap.size 51 #[.bool x.neg,.slice x.a x.n x.c,.slice x.b x.m x.d]/\Blk W w.heap.size 191 #[.bool s.x.neg,.slice s.x.a s.x.n s.x.c,.slice s.x.b s.x.m s.x.d,.slice s.a s.n s.c]/\Blk W g2 191 #[.bool false,.slice none 0 0,.slice none 0 0,.slice none 0 0]/\Kp (fun V=>QK (1000+1000+1) V x (p+q)) w0.heap.size w1.heap.size W/\Below w.heap.size w W/\w1.heap.size<=W.heap.size) ⟨by ((with_reducible repeat first|assumption|(apply bF;focus omega)|apply bS|(apply bN;focus (simp;done))|apply bA|apply bD);all_goals rfl),by ((with_reducible repeat first|assumption|(apply bF;focus omega)|apply bS|(apply bN;focus (simp;done))|apply bA|apply bD);all_goals rfl),by ((with_reducible repeat first|assumption|(apply bF;focus omega)|apply bS|(apply bN;focus (simp;done))|apply bA|apply bD);all_goals rfl),by (with_reducible repeat first | exact HX.out | (refine Kp.setc ?_ ?_;focus omega) | refine Kp.alloc ?_ | refine Kp.drew ?_),by go_grown,by simp⟩ ?_
 rintro w2 ⟨hc,hx,hz,HK,hw2,hsz2⟩;rw [<- hg2];have hne1:w1.heap.size≠g2:=by omega
 have hne2:w.heap.size≠g2:=by omega
 have hgw:w.heap.size<=g2:=by omega
 clear hg1;replace hg2:=Hd hg2;obtain ⟨h1,hh1⟩:∃ h,h=w1.heap.size:=⟨_,rfl⟩
 obtain ⟨R,hR⟩:∃ R,sgnQ (p+q)=R:=⟨_,rfl⟩
 rw [hR] at hsg;have CS:=fun W (hW:Below w2.heap.size w2 W)=>qiy x (p+q) 2001 W ((HK.call hW).now) (by omega)
 rw [hR] at CS;replace CS:=Hd CS;replace HK:=Hd HK;obtain ⟨S,hS⟩:∃ S:World->Prop,S=fun W=>Blk W w1.heap.size 51 #[.bool x.neg,.slice x.a x.n x.c,.slice x.b x.m x.d]/\Blk W w.heap.size 191 #[.bool s.x.neg,.slice s.x.a s.x.n s.x.c,.slice s.x.b s.x.m s.x.d,.slice s.a s.n s.c]:=⟨_,rfl⟩
 rw [<- hh1] at hS ⊢;rw [<- hh1] at hc hne1;have k0:∀ W,Sat S W->W.cell? ⟨h1,0,none⟩=some (.bool x.neg):=fun W h=>by unfold Sat at h;rw [hS] at h;exact h.1.cell 0
 have k1:∀ W,Sat S W->W.cell? ⟨h1,1,none⟩=some (.slice x.a x.n x.c):=fun W h=>by unfold Sat at h;rw [hS] at h;exact h.1.cell 1
 have k2:∀ W,Sat S W->W.cell? ⟨h1,2,none⟩=some (.slice x.b x.m x.d):=fun W h=>by unfold Sat at h;rw [hS] at h;exact h.1.cell 2
 have k3:∀ W,Sat S W->W.cell? ⟨w.heap.size,3,none⟩=some (.slice s.a s.n s.c):=fun W h=>by unfold Sat at h;rw [hS] at h;exact h.2.cell 3
 have s0:Sat S w2.drew:=by unfold Sat;rw [hS];exact ⟨hc,hx⟩
 replace hS:=Hd hS;replace hh1:=Hd hh1;clear hlt1 hlt2 hlt3 hw0 hw1 hb1 hy HX CA hR;refine wrx (S:=Sat S) [(0,.q),(1,.q),(2,.q),(3,.q),(4,.q),(5,.l),(6,.q),(7,.l),(8,.p)] (s0) ?_
 iterate 5 (refine qam rfl rfl fun K hK=>xq ?_;go_simp;refine hK _ _ ?_;clear hK K)
 refine qaj rfl rfl (fun K hK=>?_);go_simp;refine (CS.out _ (brf.drew)).mono ?_;rintro r w3 ⟨rfl,hb3⟩;dsimp only;refine hK.out _ _ ((by unfold Sat;rw [hS.out];exact ⟨hc.below' (bth (brf.drew) hb3),hx.below' (bth (brf.drew) hb3)⟩)) (fun _=>?_);clear hK K;replace hb3:=bth ((Below.refl w2.heap.size w2).drew) hb3;have hz3:=hz.below' hb3;have hc3:=hc.below' hb3;have hx3:=hx.below' hb3;have HK3:=Hd (HK.out.call hb3);obtain ⟨z0,z1,z2,z3⟩:=cq4 hz3;obtain ⟨f0,f1,f2,f3⟩:=fq4 hz3
 iterate 1 (refine qam rfl rfl fun K hK=>xq ?_;go_simp;refine hK _ _ ?_;clear hK K)
 refine qaj rfl rfl (fun K hK=>?_);go_simp;refine hK.out _ _ ((by unfold Sat;rw [hS.out];exact ⟨by ((with_reducible repeat first|assumption|(apply bF;focus omega)|apply bS|(apply bN;focus (simp;done))|apply bA|apply bD);all_goals rfl),by ((with_reducible repeat first|assumption|(apply bF;focus omega)|apply bS|(apply bN;focus (simp;done))|apply bA|apply bD);all_goals rfl)⟩)) (fun _=>?_);clear hK K
 iterate 1 (refine qav rfl rfl fun K hK=>xp ?_;go_simp;refine hK _ _ ?_;clear hK K)
 refine qak ?_;go_wp2;refine qab (fun W=>Blk W g2 191 #[.bool x.neg,.slice x.a x.n x.c,.slice x.b x.m x.d,.slice s.a s.n s.c]/\Kp (fun V=>QK (1000+1000+1) V x (p+q)) w0.heap.size w1.heap.size W/\Below w.heap.size w W/\w3.heap.size<=W.heap.size) ⟨by ((with_reducible repeat first|assumption|(apply bF;focus omega)|apply bS|(apply bN;focus (simp;done))|apply bA|apply bD);all_goals rfl),by (with_reducible repeat first | exact HK3.out | (refine Kp.setc ?_ ?_;focus omega) | refine Kp.alloc ?_ | refine Kp.drew ?_),?_,by simp⟩ ?_
 ·
  have hb:=bth hw2 hb3;exact (((hb.setCell hgw _).setCell hgw _).setCell hgw _).setCell hgw _
 rintro w4 ⟨hF,HF,hw4,hsz⟩;obtain ⟨e0,e1,e2,e3⟩:=cq4 hF;refine bodyPost_ret (v:=.tuple #[.agg #[.bool x.neg,.slice x.a x.n x.c,.slice x.b x.m x.d,.slice s.a s.n s.c],.bool (!decide (p+q=0))]) (by simp [results,Tryz.results170,go_sem,e0,e1,e2,e3]) rfl ?_;exact ⟨x,rfl,HF.broad hlo2 (by have:=hb3.size;omega),hw4⟩
end Go.Proofs.YtfaalkneigpcnaaGreatDoor
namespace Go.Proofs.YtfaalkneigpcnaaGreatDoor
open Go.RowKit Go.Lib
def ofL (l:List UInt8):ByteArray:=⟨l.toArray⟩
theorem qk6 (s:ByteArray):ofL s.data.toList=s:=by cases s;rfl
theorem qdk (a b:List UInt8):ofL a++ofL b=ofL (a++b):=by
 rw [<- qk6 (ofL a++ofL b)];simp [ofL]
theorem qbw (a:List UInt8):(ofL a).size=a.length:=by simp [ofL,ByteArray.size]
end Go.Proofs.YtfaalkneigpcnaaGreatDoor
namespace Go.Proofs.YtfaalkneigpcnaaGreatDoor
def digs (n:Nat):List UInt8:=if h:n=0 then [] else digs (n / 10)++[(48+n % 10).toUInt8]
termination_by n
decreasing_by omega
theorem qdl:digs 0=[]:=by rw [digs];simp
theorem qd0 {n:Nat} (h:n≠0):digs n=digs (n / 10)++[(48+n % 10).toUInt8]:=by rw [digs];simp [h]
def textN (n:Nat):List UInt8:=if n=0 then [48] else digs n
def textZ (neg:Bool) (n:Nat):List UInt8:=if neg=true then 45 :: textN n else textN n
theorem quj (k n:Nat) (h:n<10 ^ k):(digs n).length<=k:=by
 induction k generalizing n with
 | zero=>simp at h;subst h;rw [qdl];simp
 | succ k ih =>
  by_cases h0:n=0
  · subst h0;rw [qdl];simp
  ·
   rw [qd0 h0,List.length_append];have:=ih (n / 10) (by rw [Nat.pow_succ] at h;omega);simp;omega
end Go.Proofs.YtfaalkneigpcnaaGreatDoor
namespace Go.Proofs.YtfaalkneigpcnaaGreatDoor
open Go.RowKit
theorem qqk (w:World) (c:UInt8):(convert 73 9 (.slice (some ⟨w.heap.size,0,none⟩) 1 1)).run Tryz.prog (w.alloc (.cells #[.int .u8 (c.toNat:Int)] 5))=.ok (.string (ofL [c])) (w.alloc (.cells #[.int .u8 (c.toNat:Int)] 5)):=by
 refine run_convert_bytes_back (P:=Tryz.prog) (w.alloc (.cells #[.int .u8 (c.toNat:Int)] 5)) 73 9 5 ⟨w.heap.size,0,none⟩ 1 [c] Tryz.underlying73 Tryz.underlying5 Tryz.underlying9 ?_;intro j hj;obtain rfl:j=0:=by simpa using hj
 rw [Addr.add_lit];simp
theorem qos (w:World) (r:Nat) (hr:r<10):(convert 73 9 (.slice (some ⟨w.heap.size,0,none⟩) 1 1)).run Tryz.prog (w.alloc (.cells #[.int .u8 (48+(r:Int))] 5))=.ok (.string (ofL [(48+r).toUInt8])) (w.alloc (.cells #[.int .u8 (48+(r:Int))] 5)):=by
 have:=qqk w (48+r).toUInt8;have e:(48+r).toUInt8.toNat=48+r:=by simp;omega
 rw [e] at this;have e2:((48+r:Nat):Int)=48+(r:Int):=by omega
 rw [e2] at this;exact this
theorem qfp (n:Nat) (h:(limbs n).length<=2000000):(digs n).length<=10000000:=by
 have h1:=qa2 n;have h2:65536 ^ (limbs n).length<=(10 ^ 5) ^ (limbs n).length:=Nat.pow_le_pow_left (by omega) _;rw [<- Nat.pow_mul] at h2;have h3:=quj (5*(limbs n).length) n (ltl h1 h2)
 omega
theorem qcy (n:Nat) (h:(limbs n).length<=2000000):(textN n).length<=10000000:=by
 unfold textN
 split
 · simp
 · exact qfp n h
theorem qif (l:List Int) (n:Nat) (a:Option Addr) (c:Nat) (w:World) (h:NatR w a c l) (hn:val l=n) (hl:l.length<=2000000) :
  Calls Tryz.prog 76 #[.slice a l.length c] w fun e w'=>e=.returned (.string (ofL (textN n)))/\Below w.heap.size w w':=by
 have C1:=qbb l a c w h (by omega);rw [hn] at C1;replace C1:=Hd C1;have hL1:(limbs n).length<=2000000:=by have:=qaf h.u16;rw [hn] at this;omega
 have HT:=Hd (show textN n=textN n from rfl);obtain ⟨T,hT⟩:∃ T,textN n=T:=⟨_,rfl⟩
 rw [hT];clear h hn HT;by_cases h0:n=0
 ·
  subst h0;have hT':T=[48]:=by rw [<- hT];rfl
  clear hT;subst hT';rw [qag] at C1;go_enter Tryz.func76,Tryz.ntmps76;go_wp2_with fail;refine C1.out.mono ?_;rintro e w1 ⟨a1,c1,rfl,hV1,hb1⟩;clear hV1 C1;go_wp2;go_ret;exact ⟨rfl,hb1⟩
 ·
  have hlp:(((limbs n).length:Int)==0)=false:=by have h5:=qan.2 (show 0<n by omega);rw [beq_eq_false_iff_ne];omega
  have hT':digs n=T:=by rw [<- hT];unfold textN;rw [if_neg h0]
  have hTl:T.length<=10000000:=by
   rw [<- hT'];exact qfp n hL1
  have HT:=Hd hT';clear hT hT';go_enter Tryz.func76,Tryz.ntmps76;go_wp2_with fail;refine C1.out.mono ?_;rintro e w1 ⟨a1,c1,rfl,hV1,hb1⟩;have HV1:=Hd hV1;clear hV1 C1;go_wp2;have e0:(⟨#[]⟩:ByteArray)=ofL []:=rfl
  go_loopg [0,3,4,5,6,15] n (fun g sx ss _ _ _ _ wr=>∃ (ax:Option Addr) (cx:Nat) (r:List UInt8),sx=.slice ax (limbs g).length cx/\ss=.string (ofL r)/\(∀ V,New w.heap.size wr V->NatR V ax cx (limbs g)) /\
   (limbs g).length<=2000000/\Below w.heap.size w wr/\digs g++r=T)
  case atStart=>exact ⟨a1,c1,[],rfl,rfl,HV1.out,hL1,hb1,by rw [HT.out,List.append_nil]⟩
  case round =>
   obtain ⟨ax,cx,r,rfl,rfl,hx,hlx,hb',hg⟩:=hrel;have HX:=Hd hx;have HG:=Hd hg;clear hx hg hb1 HV1 HT hlp h0 e0;by_cases h0:gk=0
   ·
    subst h0;have hgz:decide (0<(limbs 0).length)=false:=by rw [qag];rfl
    have hr:r=T:=by have:=HG.out;rwa [qdl,List.nil_append] at this
    subst hr;clear HG;go_wp2;go_ret;exact ⟨rfl,hb'⟩
   ·
    have hgz:decide (0<(limbs gk).length)=true:=by have:=qan (n:=gk);simp;omega
    have C10:=fun W=>qb1 10 W (by omega)
    have CD:=fun a' c' W hW h'=>qds (limbs gk) (limbs 10) gk 10 ax a' cx c' W ((HX.out W hW)) h' (qaa _) (qaa _) hlx (by have:=qal (n:=10) (k:=1) (by omega);omega) (by omega)
    unfold RetDM at CD;have hr10:gk % 10<10:=Nat.mod_lt _ (by omega);have hlt:gk / 10<gk:=by omega
    have hdg:=HG.out;rw [qd0 h0] at hdg;have hsm:val (limbs (gk % 10))<18446744073709551616:=by rw [qaa];omega
    have hlr:(limbs (gk / 10)).length<=2000000:=Nat.le_trans (qap (Nat.div_le_self _ _)) hlx;have CS:=fun a' c' W (h':NatR W a' c' (limbs (gk % 10)))=>qfg (limbs (gk % 10)) a' c' W h' hsm
    rw [qaa] at CS;have KD:=fun W=>qos W (gk % 10) hr10
    obtain ⟨q,hq⟩:∃ q,gk / 10=q:=⟨_,rfl⟩
    obtain ⟨m,hm⟩:∃ m,gk % 10=m:=⟨_,rfl⟩
    rw [hq] at hlt hdg hlr;rw [hm] at hr10 hdg;simp only [hq,hm] at CD CS KD;obtain ⟨dg,hdd⟩:∃ x,(48+m).toUInt8=x:=⟨_,rfl⟩
    rw [hdd] at hdg;simp only [hdd] at KD;have hsz:(ofL [dg]).size+(ofL r).size<=10000001:=by
     rw [qbw,qbw];have:=congrArg List.length HG.out;rw [List.length_append] at this;simp;omega
    have HDG:=Hd hdg;replace C10:=Hd C10;replace CD:=Hd CD;replace CS:=Hd CS;clear hsm hq hm HG hdg h0 hdd;go_wp2_with fail;refine (C10.out _).mono ?_;rintro e w2 ⟨a2,c2,rfl,hV2,hb2⟩;have CD2:=Hd (CD.out a2 c2 w2 ((New.refl _ _).below hb2) (hV2 w2 (New.refl _ _)));clear hV2 CD C10;go_wp2_with fail;refine CD2.out.mono ?_;rintro e w3 ⟨a3,c3,a4,c4,rfl,hV3,hV4,hb3⟩;have CS2:=Hd (CS.out a4 c4 w3 (hV4 w3 (New.refl _ _)));have hw3:=bth (bth hb' hb2) hb3;have HV3:=Hd hV3;clear hV3 hV4 CD2 CS;go_wp2_with fail;refine CS2.out.mono ?_;rintro e w4 ⟨rfl,rfl⟩;have hm1:(m:Int)<10:=by omega
    go_wp2;go_roundg q
    case rel=>exact ⟨a3,c3,[dg]++r,rfl,congrArg Value.string (qdk _ _),fun V hV=>HV3.out V ((hV.unalloc).base (bth hb' hb2).size),hlr,hw3.alloc hw3.size _,by rw [<- HDG.out,List.append_assoc]⟩
    case measure=>exact hlt
theorem qo0:limbs 1=[1]:=by rw [qbq (by omega),qag];rfl
theorem qqa (neg:Bool) (l:List Int) (n:Nat) (a:Option Addr) (c:Nat) (w:World) (h:NatR w a c l) (hn:val l=n) (hl:l.length<=2000000) :
  Calls Tryz.prog 75 #[.agg #[.bool neg,.slice a l.length c]] w fun e w'=>e=.returned (.string (ofL (textZ (neg&&decide (0<n)) n)))/\Below w.heap.size w w':=by
 have CN:=fun W (hW:Below w.heap.size w W)=>qiw neg l n a c W (h.ext (xbw hW)) hn (by omega)
 have hz:Blk (w.alloc (.cells #[.bool neg,.slice a l.length c] 49)) w.heap.size 49 #[.bool neg,.slice a l.length c]:=Blk.new w _ _;have hb0:Below w.heap.size w (w.alloc (.cells #[.bool neg,.slice a l.length c] 49)):=brf.alloc (nlr _) _;have hln:(limbs n).length<=2000000:=by have:=qaf h.u16;rw [hn] at this;omega
 obtain ⟨s,hs⟩:∃ s,(neg&&decide (0<n))=s:=⟨_,rfl⟩
 unfold RetZ at CN;simp only [hs] at CN ⊢;replace CN:=Hd CN;clear h hn hs;go_enter Tryz.func75,Tryz.ntmps75;go_wp2_with fail;revert hz hb0;generalize w.alloc (.cells #[.bool neg,.slice a l.length c] 49)=w0;intro hz hb0;refine (CN.out _ hb0).mono ?_;rintro e w1 ⟨a1,c1,rfl,hV1,hb1⟩;have hw1:=bth hb0 hb1;have hz1:=hz.below' hb1;have hlt:=hz.lt;have HV1:=Hd hV1;have hs0:=hb0.size;obtain ⟨z0,z1⟩:=cq2 hz1;obtain ⟨f0,f1⟩:=fq2 hz1;clear hV1;have CT:=fun W (hW:NatR W a1 c1 (limbs n))=>qif (limbs n) n a1 c1 W hW (qaa _) hln
 replace CT:=Hd CT;have RD:=fun x y=>HV1.out ((w1.setCell ⟨w.heap.size,0,none⟩ x).setCell ⟨w.heap.size,1,none⟩ y) (back2 (New.refl _ _) hs0 hlt)
 replace RD:=Hd RD
 cases s
 ·
  go_wp2_with fail;refine (CT.out _ (RD.out _ _)).mono ?_;rintro e w2 ⟨rfl,hb2⟩;go_wp2;go_ret;exact ⟨rfl,(qbu hw1 (nlr _)).trans (hb2.mono (by simp;exact hw1.size))⟩
 ·
  go_wp2_with fail;refine (CT.out _ (RD.out _ _)).mono ?_;rintro e w2 ⟨rfl,hb2⟩;have hsz:(textN n).length<=10000000:=qcy n hln;rw [<- qbw] at hsz;have e45:(⟨#[45]⟩:ByteArray)++ofL (textN n)=ofL (45 :: textN n):=qdk [45] _;replace e45:=Hd e45;go_wp2;go_ret;exact ⟨qdz e45.out,(qbu hw1 (nlr _)).trans (hb2.mono (by simp;exact hw1.size))⟩
end Go.Proofs.YtfaalkneigpcnaaGreatDoor
namespace Go.Proofs.YtfaalkneigpcnaaGreatDoor
def grpN (n j:Nat):List Int:=(List.range j).map fun i=>((n / 10000 ^ i % 10000:Nat):Int)
theorem qmd (n j:Nat):(grpN n j).length=j:=by simp [grpN]
theorem qqt (n j:Nat):grpN n (j+1)=grpN n j++[((n / 10000 ^ j % 10000:Nat):Int)]:=by unfold grpN;rw [List.range_succ,List.map_append];rfl
theorem qu9 (n j i:Nat) (h:i<j):(grpN n j)[i]? = some ((n / 10000 ^ i % 10000:Nat):Int):=by unfold grpN;simp [h]
def pw10:Nat->Nat
 | 0=>0
 | g+1=>10 ^ g
theorem qrg (h:Nat) (hh:h<=3):(pw10 (h+1)) / 10=pw10 h:=by
 match h with
 | 0=>rfl
 | 1=>rfl
 | 2=>rfl
 | 3=>rfl
def topN (m x g:Nat):Nat:=m*10 ^ (4-g)+x / 10 ^ g
theorem qgk (m x h:Nat) (hh:h<=3):topN m x h=10*topN m x (h+1)+x / 10 ^ h % 10:=by
 unfold topN;have e1:10 ^ (4-h)=10*10 ^ (4-(h+1)):=by
  rw [show 4-h=(4-(h+1))+1 by omega,Nat.pow_succ,Nat.mul_comm]
 have e2:x / 10 ^ (h+1)=x / 10 ^ h / 10:=by rw [Nat.pow_succ,Nat.div_div_eq_div_mul]
 rw [e1,e2,Nat.mul_left_comm]
 omega
theorem qon (m x:Nat) (hx:x<10000):topN m x 4=m:=by
 unfold topN;rw [Nat.div_eq_of_lt (show x<10 ^ 4 by omega)];simp
theorem qth (m x:Nat):topN m x 0=m*10000+x:=by unfold topN;simp
theorem qqc (n i:Nat):n / 10000 ^ (i+1)*10000+n / 10000 ^ i % 10000=n / 10000 ^ i:=by
 rw [Nat.pow_succ,<- Nat.div_div_eq_div_mul];omega
theorem ql3 (n:Nat):0<(digs n).length↔n≠0:=by
 constructor
 · intro h e;subst e;rw [qdl] at h;simp at h
 · intro h;rw [qd0 h];simp
theorem qra (m x h:Nat) (hh:h<=3):((0<(digs (topN m x (h+1))).length)\/10 ^ h<=x)↔topN m x h≠0:=by
 rw [ql3];have h0:0<10 ^ h:=Nat.pow_pos (by omega);have hs:=qgk m x h hh
 constructor
 ·
  rintro (h1 | h1)
  · omega
  ·
   have:1<=x / 10 ^ h:=(Nat.le_div_iff_mul_le h0).2 (by omega);unfold topN;omega
 ·
  intro h1;by_cases h2:topN m x (h+1)=0
  ·
   right;refine Nat.le_of_not_lt fun h3=>h1 ?_
   rw [hs,h2,Nat.div_eq_of_lt h3]
  · exact .inl h2
theorem qsm (m x h:Nat) (hh:h<=3) (h1:topN m x h≠0):digs (topN m x h)=digs (topN m x (h+1))++[(48+x / 10 ^ h % 10).toUInt8]:=by
 have hs:=qgk m x h hh;rw [qd0 h1,show topN m x h / 10=topN m x (h+1) by omega,show topN m x h % 10=x / 10 ^ h % 10 by omega]
theorem qrq (m x h:Nat) (hh:h<=3) (h1:topN m x h=0):digs (topN m x (h+1))=digs (topN m x h):=by
 have hs:=qgk m x h hh;rw [h1,show topN m x (h+1)=0 by omega]
theorem qvb (m x h:Nat):topN m x h<=m*10000+x:=by
 unfold topN;have h1:10 ^ (4-h)<=10 ^ 4:=Nat.pow_le_pow_right (by omega) (by omega);have h2:x / 10 ^ h<=x:=Nat.div_le_self _ _;have h3:=Nat.mul_le_mul_left m h1;have h4:(10:Nat) ^ 4=10000:=rfl;rw [h4] at h3
 omega
theorem qso {a b:Nat} (h:a<=b):(digs a).length<=(digs b).length:=by
 induction b using Nat.strongRecOn generalizing a with
 | _ b ih =>
  by_cases h0:a=0
  · subst h0;rw [qdl];simp
  ·
   rw [qd0 h0,qd0 (show b≠0 by omega),List.length_append,List.length_append];have:=ih (b / 10) (by omega) (a:=a / 10) (by omega);simp;omega
theorem qo4 (n L j:Nat) (h:n<65536 ^ L) (hj:n / 10000 ^ j≠0):j<2*L:=by
 refine Nat.lt_of_not_le fun h1=>hj (Nat.div_eq_of_lt ?_)
 refine ltl h ?_;have h2:65536 ^ L<=(10000 ^ 2) ^ L:=Nat.pow_le_pow_left (by omega) _;rw [<- Nat.pow_mul] at h2;exact Nat.le_trans h2 (Nat.pow_le_pow_right (by omega) h1)
end Go.Proofs.YtfaalkneigpcnaaGreatDoor
namespace Go.Proofs
open Go.Shelf
def Tryz.lays166_ren:Go.Shelf.Ren:=⟨fun | 166=>31 | 240=>65 | 276=>135 | n=>n,fun | 0=>0 | 3=>3 | 4=>4 | 5=>5 | 9=>9 | 20=>20 | 37=>73 | 70=>72 | 72=>75 | 75=>79 | 80=>83 | 164=>167 | n=>n,fun n=>n⟩
theorem Tryz.lays166:Lays.n166 Tryz.prog Tryz.lays166_ren where
 mixed:=by kernel_rfl
 f166:=Tryz.func31.trans (congrArg some (by kernel_rfl))
 f240:=Tryz.func65.trans (congrArg some (by kernel_rfl))
 f276:=Tryz.func135.trans (congrArg some (by kernel_rfl))
 t0:=Tryz.underlying0
 a0:=Tryz.isAgg0
 z0:=Tryz.sizeOf0
 v0:=Tryz.zeroValue0
 t3:=Tryz.underlying3
 a3:=Tryz.isAgg3
 z3:=Tryz.sizeOf3
 v3:=Tryz.zeroValue3
 t4:=Tryz.underlying4
 a4:=Tryz.isAgg4
 z4:=Tryz.sizeOf4
 v4:=Tryz.zeroValue4
 t9:=Tryz.underlying9
 a9:=Tryz.isAgg9
 z9:=Tryz.sizeOf9
 v9:=Tryz.zeroValue9
 t20:=Tryz.underlying20
 a20:=Tryz.isAgg20
 z20:=Tryz.sizeOf20
 v20:=Tryz.zeroValue20
 t37:=Tryz.underlying73
 a37:=Tryz.isAgg73
 z37:=Tryz.sizeOf73
 v37:=Tryz.zeroValue73
 t70:=Tryz.underlying72
 a70:=Tryz.isAgg72
 z70:=Tryz.sizeOf72
 v70:=Tryz.zeroValue72
 t72:=Tryz.underlying75
 a72:=Tryz.isAgg75
 z72:=Tryz.sizeOf75
 v72:=Tryz.zeroValue75
 t75:=Tryz.underlying79
 a75:=Tryz.isAgg79
 z75:=Tryz.sizeOf79
 v75:=Tryz.zeroValue79
 t164:=Tryz.underlying167
 a164:=Tryz.isAgg167
 z164:=Tryz.sizeOf167
 v164:=Tryz.zeroValue167
def Tryz.lays169_ren : Go.Shelf.Ren := ⟨fun | 169 => 33 | n => n, fun | 70 => 72 | 9 => 9 | 0 => 0 | 72 => 75 | 37 => 73 | 127 => 125 | 3 => 3 | 5 => 5 | n => n, fun | n => n⟩
theorem Tryz.lays169 : Go.Proofs.Lays.n169 Tryz.prog Tryz.lays169_ren := {
  mixed := by kernel_rfl
  f169 := Tryz.func33.trans (congrArg some (by kernel_rfl))
  t0 := Tryz.underlying0
  a0 := Tryz.isAgg0
  z0 := Tryz.sizeOf0
  v0 := Tryz.zeroValue0
  t3 := Tryz.underlying3
  a3 := Tryz.isAgg3
  z3 := Tryz.sizeOf3
  v3 := Tryz.zeroValue3
  t9 := Tryz.underlying9
  a9 := Tryz.isAgg9
  z9 := Tryz.sizeOf9
  v9 := Tryz.zeroValue9
  t37 := Tryz.underlying73
  a37 := Tryz.isAgg73
  z37 := Tryz.sizeOf73
  v37 := Tryz.zeroValue73
  t70 := Tryz.underlying72
  a70 := Tryz.isAgg72
  z70 := Tryz.sizeOf72
  v70 := Tryz.zeroValue72
  t72 := Tryz.underlying75
  a72 := Tryz.isAgg75
  z72 := Tryz.sizeOf75
  v72 := Tryz.zeroValue75
  t127 := Tryz.underlying125
  a127 := Tryz.isAgg125
  z127 := Tryz.sizeOf125
  v127 := Tryz.zeroValue125 }
theorem Tryz.Extra166:Builder.Extra Tryz.prog Tryz.lays166_ren where
 sizeBuilder:=by kernel_rfl
 liesBuilder:=by kernel_rfl
 t5:=Tryz.underlying5
 a5:=Tryz.isAgg5
 z5:=Tryz.sizeOf5
 v5:=Tryz.zeroValue5
 infoByte:=by kernel_rfl
 cellsByte:=by kernel_rfl
 sizeByte:=by kernel_rfl
 neB5:=by decide
theorem Tryz.Extra169:Builder.Extra Tryz.prog Tryz.lays169_ren where
 sizeBuilder:=by kernel_rfl
 liesBuilder:=by kernel_rfl
 t5:=Tryz.underlying5
 a5:=Tryz.isAgg5
 z5:=Tryz.sizeOf5
 v5:=Tryz.zeroValue5
 infoByte:=by kernel_rfl
 cellsByte:=by kernel_rfl
 sizeByte:=by kernel_rfl
 neB5:=by decide
def Tryz.lays167_ren:Go.Shelf.Ren:=⟨fun | 167=>145 | 240=>65 | 276=>135 | n=>n,fun | 0=>0 | 4=>4 | 5=>5 | 9=>9 | 20=>20 | 37=>73 | 70=>72 | 72=>75 | 75=>79 | 80=>83 | 164=>167 | n=>n,fun n=>n⟩
theorem Tryz.lays167:Lays.n167 Tryz.prog Tryz.lays167_ren where
 mixed:=by kernel_rfl
 f167:=Tryz.func145.trans (congrArg some (by kernel_rfl))
 f240:=Tryz.func65.trans (congrArg some (by kernel_rfl))
 f276:=Tryz.func135.trans (congrArg some (by kernel_rfl))
 t0:=Tryz.underlying0
 a0:=Tryz.isAgg0
 z0:=Tryz.sizeOf0
 v0:=Tryz.zeroValue0
 t4:=Tryz.underlying4
 a4:=Tryz.isAgg4
 z4:=Tryz.sizeOf4
 v4:=Tryz.zeroValue4
 t5:=Tryz.underlying5
 a5:=Tryz.isAgg5
 z5:=Tryz.sizeOf5
 v5:=Tryz.zeroValue5
 t9:=Tryz.underlying9
 a9:=Tryz.isAgg9
 z9:=Tryz.sizeOf9
 v9:=Tryz.zeroValue9
 t20:=Tryz.underlying20
 a20:=Tryz.isAgg20
 z20:=Tryz.sizeOf20
 v20:=Tryz.zeroValue20
 t37:=Tryz.underlying73
 a37:=Tryz.isAgg73
 z37:=Tryz.sizeOf73
 v37:=Tryz.zeroValue73
 t70:=Tryz.underlying72
 a70:=Tryz.isAgg72
 z70:=Tryz.sizeOf72
 v70:=Tryz.zeroValue72
 t72:=Tryz.underlying75
 a72:=Tryz.isAgg75
 z72:=Tryz.sizeOf75
 v72:=Tryz.zeroValue75
 t75:=Tryz.underlying79
 a75:=Tryz.isAgg79
 z75:=Tryz.sizeOf79
 v75:=Tryz.zeroValue79
 t164:=Tryz.underlying167
 a164:=Tryz.isAgg167
 z164:=Tryz.sizeOf167
 v164:=Tryz.zeroValue167
def Tryz.lays170_ren:Go.Shelf.Ren:=⟨fun | 170=>144 | n=>n,fun | 0=>0 | 3=>3 | 5=>5 | 37=>73 | 70=>72 | 72=>75 | n=>n,fun n=>n⟩
theorem Tryz.lays170:Lays.n170 Tryz.prog Tryz.lays170_ren where
 mixed:=by kernel_rfl
 f170:=Tryz.func144.trans (congrArg some (by kernel_rfl))
 t0:=Tryz.underlying0
 a0:=Tryz.isAgg0
 z0:=Tryz.sizeOf0
 v0:=Tryz.zeroValue0
 t3:=Tryz.underlying3
 a3:=Tryz.isAgg3
 z3:=Tryz.sizeOf3
 v3:=Tryz.zeroValue3
 t37:=Tryz.underlying73
 a37:=Tryz.isAgg73
 z37:=Tryz.sizeOf73
 v37:=Tryz.zeroValue73
 t70:=Tryz.underlying72
 a70:=Tryz.isAgg72
 z70:=Tryz.sizeOf72
 v70:=Tryz.zeroValue72
 t72:=Tryz.underlying75
 a72:=Tryz.isAgg75
 z72:=Tryz.sizeOf75
 v72:=Tryz.zeroValue75
theorem Tryz.Extra167:Builder.Extra Tryz.prog Tryz.lays167_ren where
 sizeBuilder:=by kernel_rfl
 liesBuilder:=by kernel_rfl
 t5:=Tryz.underlying5
 a5:=Tryz.isAgg5
 z5:=Tryz.sizeOf5
 v5:=Tryz.zeroValue5
 infoByte:=by kernel_rfl
 cellsByte:=by kernel_rfl
 sizeByte:=by kernel_rfl
 neB5:=by decide
end Go.Proofs
namespace Go.Proofs.YtfaalkneigpcnaaGreatDoor
open Go.RowKit
def Bld (b:Nat) (l:List UInt8) (w:World):Prop:=Lib.IsBuilderF 75 5 b b (Lib.byteCells l) w
theorem Bld.new (w:World):Bld w.heap.size [] (w.alloc (.cells #[.pointer none,.slice none 0 0] 75)):=by
 refine .inl ⟨nlr _,.slice none 0 0,Blk.new w _ _,World.ownsRowF_nil _ _ _ _,by simp [Value.ownBlock]⟩
theorem Bld.lt {b:Nat} {l:List UInt8} {w:World} (h:Bld b l w):b<w.heap.size:=by
 rcases h with h | h <;> exact h.lt
theorem Bld.below {b:Nat} {l:List UInt8} {w w':World} (h:Bld b l w) (hb:Below w.heap.size w w'):Bld b l w':=by
 have key:∀ p,Lib.BuilderAtF 75 5 b b p (Lib.byteCells l) w->Lib.BuilderAtF 75 5 b b p (Lib.byteCells l) w':=by
  rintro p ⟨h1,v,h2,h3,h4⟩;refine ⟨h1,v,(hb.block b (Array.getElem?_eq_some_iff.1 h2).1).trans h2,⟨h3.1,?_⟩,h4⟩;rcases h3.2 with hn | ⟨g,cap,cur,fz,e,hg,hh,rest⟩
  · exact .inl hn
  · exact .inr ⟨g,cap,cur,fz,e,hg,(hb.block g (Array.getElem?_eq_some_iff.1 hh).1).trans hh,rest⟩
 rcases h with h | h
 · exact .inl (key _ h)
 · exact .inr (key _ h)
def Oth (b:Nat) (w w':World):Prop:=Lib.OthersKept 5 (some b) w w'
theorem qq7 (b:Nat) (l:List UInt8) (s:ByteArray) (w:World) (h:Bld b l w) (hl:l.length+s.size<=70368744177664) :
  Calls Tryz.prog 31 #[.pointer (some ⟨b,0,none⟩),.string s] w fun e w'=>(∃ v,e=.returned v)/\Bld b (l++s.data.toList) w'/\Below b w w'/\Oth b w w':=by
 refine (Any.Builder_WriteString_k Tryz.lays166 Tryz.Extra166 b b (Lib.byteCells l) s w h (by simp [Lib.byteCells];omega) (Nat.le_of_lt h.lt)).mono ?_;rintro e w' ⟨rfl,h1,h2,h3⟩;refine ⟨⟨_,rfl⟩,.inr ?_,h2,h3⟩;have e2:Lib.byteCells (l++s.data.toList)=Lib.byteCells l++Lib.strCells s:=by simp [Lib.byteCells,Lib.strCells]
 rw [e2];exact h1
theorem qia (b:Nat) (l:List UInt8) (w:World) (h:Bld b l w) :
  Calls Tryz.prog 33 #[.pointer (some ⟨b,0,none⟩)] w fun e w'=>e=.returned (.string ⟨l.toArray⟩)/\Below b w w'/\Oth b w w':=by
 refine (Any.Builder_String_any_k Tryz.lays169 Tryz.Extra169 b b l w h (Nat.le_of_lt h.lt)).mono ?_;rintro e w' ⟨rfl,_,h2,h3⟩;exact ⟨rfl,h2,h3⟩
theorem byteC (c:UInt8):Lib.byteCells [c]=[.int .u8 (c.toNat:Int)]:=by simp [Lib.byteCells]
theorem qkm (b:Nat) (l:List UInt8) (c:UInt8) (w:World) (h:Bld b l w) (hl:l.length+1<=70368744177664) :
  Calls Tryz.prog 145 #[.pointer (some ⟨b,0,none⟩),.int .u8 (c.toNat:Int)] w fun e w'=>e=.returned .nilIface/\Bld b (l++[c]) w'/\Below b w w'/\Oth b w w':=by
 refine (Any.Builder_WriteByte_k Tryz.lays167 Tryz.Extra167 b b (Lib.byteCells l) (c.toNat:Int) w h (by simp [Lib.byteCells];omega) (Nat.le_of_lt h.lt)).mono ?_;rintro e w' ⟨rfl,h1,h2,h3⟩;refine ⟨rfl,.inr ?_,h2,h3⟩;have e2:Lib.byteCells (l++[c])=Lib.byteCells l++[.int .u8 (c.toNat:Int)]:=by rw [<- byteC];simp [Lib.byteCells]
 rw [e2];exact h1
theorem qpb (b:Nat) (l:List UInt8) (w:World) (h:Bld b l w) :
  Calls Tryz.prog 144 #[.pointer (some ⟨b,0,none⟩)] w fun e w'=>e=.returned (.int .i64 l.length)/\w'=w:=by
 refine (Any.Builder_Len_f Tryz.lays170 b b (Lib.byteCells l) w h).mono ?_;rintro e w' ⟨rfl,rfl⟩;exact ⟨by simp [Lib.byteCells],rfl⟩
end Go.Proofs.YtfaalkneigpcnaaGreatDoor
namespace Go.Proofs.YtfaalkneigpcnaaGreatDoor
open Go.RowKit
theorem quw (n j:Nat):U16 (grpN n j):=fun x hx=>by
 unfold grpN at hx;obtain ⟨i,_,rfl⟩:=List.mem_map.1 hx
 omega
theorem zz27 {P:Prop} (h:P:=by
 clear h1;go_wp2_with fail;refine CL.out.mono ?_;rintro e w3 ⟨rfl,rfl⟩;go_wp2_with fail;refine CW.out.mono ?_;rintro e w4 ⟨rfl,hB4,hb4,_⟩;have hw4:=hw3.trans hb4;clear CW CL hB3 hcell;go_wp2;go_roundg t
 case rel=>exact ⟨L3++[(48+s).toUInt8],by rw [hE.out],by omega,hB4,by show _=_;rw [<- e3.out,hy.out],hw4⟩
 case measure=>omega
 ):P:=h
theorem qkb (l:List Int) (n:Nat) (a:Option Addr) (c:Nat) (w:World) (h:NatR w a c l) (hn:val l=n) (hl:l.length<=1000000) :
  Calls Tryz.prog 70 #[.slice a l.length c] w fun e w'=>e=.returned (.string (ofL (textN n)))/\Below w.heap.size w w':=by
 have C1:=qcs l a c w h (by omega);rw [hn] at C1;have hln:(limbs n).length<=1000000:=by have:=qaf h.u16;rw [hn] at this;omega
 have hlt:∀ j,n / 10000 ^ j≠0->j<2*1000000:=fun j hj=>ltl (qo4 n _ j (qa2 n) hj) (Nat.mul_le_mul_left 2 hln)
 have HFEW:=Hd hlt;have HLEN:=Hd (qcy n (by omega));replace C1:=Hd C1;clear h hn hlt;go_enter Tryz.func70,Tryz.ntmps70;go_wp2_with fail;refine C1.out.mono ?_;rintro e w1 ⟨a1,c1,rfl,hV1,hb1⟩;have R1:=Hd hV1;clear hV1 C1;by_cases h0:n=0
 ·
  subst h0;rw [qag];clear HFEW HLEN R1 hln;go_wp2;go_ret;exact ⟨rfl,hb1⟩
 have hp:(((limbs n).length:Int)==0)=false:=by have:=qan.2 (show 0<n by omega);rw [beq_eq_false_iff_ne];omega
 go_wp2
 go_loopg [0,3,4,5,17] n (fun g s0 s3 _ _ _ wr=>∃ (j:Nat) (ax ag:Option Addr) (cx cg:Nat),Hid (g=n / 10000 ^ j)/\Hid (j<=2000000)/\s0=.slice ax (limbs g).length cx/\s3=.slice ag (grpN n j).length cg/\(∀ V,New w.heap.size wr V->NatR V ax cx (limbs g))/\OwnN w.heap.size wr ag cg (grpN n j) /\
  (limbs g).length<=1000000/\Below w.heap.size w wr)
 case atStart=>exact ⟨0,a1,none,c1,0,by show _=_;simp,by show _<=_;omega,rfl,rfl,R1.out,Own.nil,hln,hb1⟩
 case round =>
  obtain ⟨j,ax,ag,cx,cg,hg,hjl,rfl,rfl,hx,hG,hlx,hb'⟩:=hrel;have HX:=Hd hx;have HG:=Hd hG;clear hx hG hb1 R1 hp;by_cases hz:gk=0
  ·
   subst hz;have hz0:decide (0<(limbs 0).length)=false:=by rw [qag];rfl
   rw [qmd];clear HX;obtain ⟨wo,rfl⟩:∃ wo:World,wo=wr:=⟨_,rfl⟩
   have HR:=Hd (fun W (hW:Below wo.heap.size wo W)=>(HG.out.reads1 (quw n j)).ext (xbw hW));have hz1:=hg.out;replace hz1:=Hd hz1.symm;have hjm:=hjl.out;clear HG hlx hg hjl;go_wp2;have hB0:=Bld.new wo;have hw0:Below wo.heap.size wo (wo.alloc (.cells #[.pointer none,.slice none 0 0] 75)):=brf.alloc (nlr _) _;revert hB0 hw0;generalize wo.alloc (.cells #[.pointer none,.slice none 0 0] 75)=wb;intro hB0 hw0
   go_loopg [7,8] j (fun g s7 _ w2=>∃ (L:List UInt8),s7=.int .i64 ((g:Int)-1)/\g<=j/\Bld wo.heap.size L w2/\Hid (L=digs (n / 10000 ^ g))/\Below wo.heap.size wo w2)
   case atStart=>exact ⟨[],rfl,nlr _,hB0,by show _=_;rw [hz1.out,qdl],hw0⟩
   case round =>
    clear hB0 hw0;obtain ⟨w2,rfl⟩:∃ w2:World,w2=wr:=⟨_,rfl⟩
    obtain ⟨L,rfl,hgj,hB,hL,hw⟩:=hrel;by_cases g0:gk=0
    ·
     subst g0;have hLn:textN n=L:=by rw [hL.out];unfold textN;rw [if_neg h0];simp
     have CS:=Hd (qia _ L w2 hB);clear hL HR hz1;go_wp2_with fail;refine CS.out.mono ?_;rintro e w3 ⟨rfl,hb3,_⟩;go_wp2;go_ret;exact ⟨qdz (by rw [hLn];rfl),bth hb' (hw.trans hb3)⟩
    ·
     obtain ⟨i,rfl⟩:∃ i,gk=i+1:=⟨gk-1,by omega⟩
     obtain ⟨x,hx⟩:∃ x,n / 10000 ^ i % 10000=x:=⟨_,rfl⟩
     obtain ⟨m,hm⟩:∃ m,n / 10000 ^ (i+1)=m:=⟨_,rfl⟩
     have hx4:x<10000:=by omega
     have hge:=qqc n i;have hat:=qu9 n j i (by omega);rw [hx] at hge hat;rw [hm] at hge hL;have hmn:m*10000+x<=n:=by rw [hge];exact Nat.div_le_self _ _
     have HLL:=Hd (fun h=>Nat.le_trans (qso (Nat.le_trans (qvb m x h) hmn)) (by have:=HLEN.out;unfold textN at this;rwa [if_neg h0] at this));replace hge:=Hd hge;replace hat:=Hd hat;have e1:(((i+1:Nat):Int)-1)=(i:Int):=by omega
     rw [e1];clear hx hm e1 hmn;go_wp2
     go_loopg [8] 4 (fun h s8 w3=>∃ (L3:List UInt8),s8=.int .u16 ((pw10 h:Nat):Int)/\h<=4/\Bld wo.heap.size L3 w3/\Hid (L3=digs (topN m x h))/\Below wo.heap.size wo w3)
     case atStart=>exact ⟨L,rfl,nlr _,hB,by show _=_;rw [qon m x hx4];exact hL.out,hw⟩
     case round =>
      obtain ⟨L3,rfl,hg4,hB3,hL3,hw3⟩:=hrel;clear hB hw hL;by_cases g0:gk=0
      ·
       subst g0;have hLn:=hL3.out;rw [qth,hge.out] at hLn;have d0:decide (((pw10 0:Nat):Int) > 0)=false:=rfl;replace hLn:=Hd hLn;clear hL3;go_wp2;go_roundg i
       case rel=>exact ⟨L3,rfl,by omega,hB3,hLn,hw3⟩
       case measure=>omega
      ·
       obtain ⟨t,rfl⟩:∃ t,gk=t+1:=⟨gk-1,by omega⟩
       have ht3:t<=3:=by omega
       have hc1:=qra m x t ht3;have hc2:=qsm m x t ht3;have hc3:=qrq m x t ht3;have hps:=qrg t ht3;have hpd:pw10 (t+1)=10 ^ t:=rfl;have hp0:0<10 ^ t:=Nat.pow_pos (by omega);have hp1:10 ^ t<=1000:=Nat.le_trans (Nat.pow_le_pow_right (by omega) ht3) (by omega);rw [<- hL3.out] at hc1 hc2 hc3;have hl3:L3.length<=10000000:=by rw [hL3.out];exact HLL.out _
       obtain ⟨y,hy⟩:∃ y,topN m x t=y:=⟨_,rfl⟩
       rw [hy] at hc1 hc2 hc3;rw [hpd] at hps ⊢;obtain ⟨D,hD⟩:∃ D,10 ^ t=D:=⟨_,rfl⟩
       rw [hD] at hc1 hc2 hps hp0 hp1 ⊢;obtain ⟨E,hE⟩:∃ E,pw10 t=E:=⟨_,rfl⟩
       rw [hE] at hps;have hdE:(D:Int).tdiv 10=(E:Int):=by rw [<- hps];rfl
       have hDi:(0:Int)<(D:Int):=by omega
       have CL:=Hd (qpb _ L3 wr hB3);replace hy:=Hd hy;replace hc1:=Hd hc1;replace hc2:=Hd hc2;replace hc3:=Hd hc3;replace hE:=Hd hE;obtain ⟨bg,og,rfl,hcell⟩:=(HR.out wr hw3).cell hat.out;clear hpd hL3 hD;have hs10:x / D % 10<10:=Nat.mod_lt _ (by omega);have hq1:(x:Int).tdiv (D:Int)=((x / D:Nat):Int):=rfl;have hq2:((x / D:Nat):Int).tmod 10=((x / D % 10:Nat):Int):=rfl;obtain ⟨u,hu⟩:∃ u,x / D=u:=⟨_,rfl⟩
       rw [hu] at hq1 hq2 hs10 hc2;obtain ⟨s,hs⟩:∃ s,u % 10=s:=⟨_,rfl⟩
       rw [hs] at hq2 hs10 hc2;have hsi:(s:Int)<10:=by omega
       have CW:=qkm _ L3 (48+s).toUInt8 wr hB3 (by omega);rw [show (((48+s).toUInt8.toNat:Nat):Int)=48+(s:Int) by have e:(48+s).toUInt8.toNat=48+s:=by { simp;omega };rw [e];omega] at CW;replace CW:=Hd CW;have hE16:E<65536:=by rw [<- hps];exact Nat.lt_of_le_of_lt (Nat.div_le_self _ _) (by omega)
       have hwE:IntKind.u16.wrap (E:Int)=(E:Int):=by rw [qbt,Nat.mod_eq_of_lt hE16]
       have hD0:((D:Int)==0)=false:=by simp;omega
       have hu9:u<65536:=by rw [<- hu];exact Nat.lt_of_le_of_lt (Nat.div_le_self _ _) (by omega)
       have hw1:IntKind.u16.wrap (u:Int)=(u:Int):=by rw [qbt,Nat.mod_eq_of_lt hu9]
       have hw2:IntKind.u16.wrap (48+(s:Int))=48+(s:Int):=by
        have:=qbt (48+s);rw [Nat.mod_eq_of_lt (by omega)] at this;simpa using this
       have hw3':(48+(s:Int)) % 256=48+(s:Int):=by omega
       clear hu hs hps hE16 hu9;by_cases hy0:y=0
       ·
        have h1:¬ (0<L3.length\/D<=x):=fun h=>hc1.out.1 h hy0
        have n0:decide (0<L3.length)=false:=decide_eq_false fun h=>h1 (.inl h)
        have n1:decide (D<=x)=false:=decide_eq_false fun h=>h1 (.inr h)
        have e3:=Hd (hc3.out hy0);have hy1:=Hd hy0;clear h1 CW hq1 hq2 hy0;go_wp2_with fail;refine CL.out.mono ?_;rintro e w3 ⟨rfl,rfl⟩;go_wp2;go_roundg t
        case rel=>exact ⟨L3,by rw [hE.out],by omega,hB3,by show _=_;rw [e3.out,hy.out],hw3⟩
        case measure=>omega
       ·
        have h1:0<L3.length\/D<=x:=hc1.out.2 hy0;have e3:=Hd (hc2.out hy0);clear hy0;by_cases hl0:0<L3.length
        ·
         have n0:decide (0<L3.length)=true:=decide_eq_true hl0;exact zz27
        ·
         have n0:decide (0<L3.length)=false:=decide_eq_false hl0;have n1:decide (D<=x)=true:=decide_eq_true (h1.resolve_left hl0);exact zz27
  ·
   have hz1:decide (0<(limbs gk).length)=true:=by have:=qan (n:=gk);simp;omega
   have CB:=qio (limbs gk) gk 10000 ax cx wr (HX.out wr (New.refl _ _)) (qaa _) (by omega) (by omega) (by omega);have hjj:j<2*1000000:=HFEW.out j (by rw [<- hg.out];exact hz);have hgs:=qqt n j;have hgq:gk / 10000=n / 10000 ^ (j+1):=by rw [hg.out,Nat.pow_succ,Nat.div_div_eq_div_mul]
   rw [<- hg.out] at hgs;have hlq:(limbs (gk / 10000)).length<=1000000:=Nat.le_trans (qap (Nat.div_le_self _ _)) hlx;have hlt:gk / 10000<gk:=by omega
   obtain ⟨q,hq⟩:∃ q,gk / 10000=q:=⟨_,rfl⟩
   obtain ⟨r,hr⟩:∃ r,gk % 10000=r:=⟨_,rfl⟩
   rw [hq] at CB hgq hlq hlt;rw [hr] at CB hgs;replace CB:=Hd CB;replace hgs:=Hd hgs;replace hgq:=Hd hgq;clear hq hr hz;go_wp2_with fail;refine CB.out.mono ?_;rintro e w2 ⟨a2,c2,rfl,hV2,hb2⟩;have HG2:=Hd (HG.out.below hb2);have HV2:=Hd hV2;have hw2:=bth hb' hb2;have HLE:Hid ((grpN n j++[(r:Int)]).length<=16777216):=Hd (by rw [List.length_append,qmd];simp;omega);clear hV2 CB HX hb2;go_wp2_with (at_builtin;go_must (refine qa7 rfl (.tmp 22) (.tmp 24) 46 rfl Tryz.underlying46 infoN rfl (by omega) (by omega) qdf ag cg rfl (HG2.out.alloc _) (r:Int) (qhv _) w2.heap.size 1 rfl (qkf (by simp)) (grpN n j++[(r:Int)]) rfl HLE.out (by have:=hw2.size;simp;omega) ?_);intro a3 c3 w3 ho3 hg3 hx3);have hw3:=qaq (hw2.alloc hw2.size _) (HG2.out.alloc _) hg3
   have hV3:∀ V,New w.heap.size w3 V->NatR V a2 c2 (limbs q):=fun V hV=>HV2.out V (qc2.fresh (B:=w.heap.size) (hV.but a3) hb'.size (brf.alloc (nlr _) _) hg3 hx3 (fun g e=>(HG.out.lt e).2))
   replace ho3:=Hd ho3;replace hV3:=Hd hV3;replace hw3:=Hd hw3;clear hx3 hg3 HG2 HV2 hw2 HG;go_roundg q
   case rel=>exact ⟨j+1,a2,a3,c2,c3,hgq,by show _<=_;omega,rfl,by rw [hgs.out,List.length_append];rfl,hV3.out,by rw [hgs.out];exact ho3.out,hlq,hw3.out⟩
   case measure=>exact hlt
def textF (t:Bool × Nat × Nat):List UInt8:=if t.2.2=1 then textZ t.1 t.2.1 else textZ t.1 t.2.1++47 :: textN t.2.2
theorem qhl (neg:Bool) (n d:Nat):((qat neg n d).1&&decide (0<(qat neg n d).2.1))=(qat neg n d).1:=by
 unfold qat
 split
 · rfl
 ·
  dsimp only
  cases neg <;> simp
theorem qf8 (neg:Bool) (n d:Nat):(qat neg n d).2.1<=n/\(qat neg n d).2.2<=d+1:=by
 unfold qat
 split
 · simp
 · exact ⟨Nat.div_le_self _ _,Nat.le_trans (Nat.div_le_self _ _) (by omega)⟩
theorem qfn (d:Nat):(limbs (d+1)).length<=(limbs d).length+1:=by
 have:=qde d 1;have h1:(limbs 1).length=1:=by rw [qo0];rfl
 rcases Nat.eq_zero_or_pos d with h | h
 · subst h;rw [h1];omega
 · have:=qan.2 h;omega
theorem qgr (neg:Bool) (n:Nat) (h:(limbs n).length<=2000000):(textZ neg n).length<=10000001:=by
 have:=qcy n h;unfold textZ
 split <;> simp <;> omega
theorem qpu (neg:Bool) (l m:List Int) (n d:Nat) (a b:Option Addr) (c d0:Nat) (w:World) (h:NatR w a c l) (h':NatR w b d0 m) (hn:val l=n) (hk:val m=d) (hl:l.length<=1000000) (hm:m.length<=1000000) :
  Calls Tryz.prog 35 #[.agg #[.bool neg,.slice a l.length c,.slice b m.length d0]] w fun e w'=>e=.returned (.string (ofL (textF (qat neg n d))))/\Below w.heap.size w w':=by
 have CN:=fun W (hW:Below w.heap.size w W)=>qow neg l m n d a b c d0 W (h.ext (xbw hW)) (h'.ext (xbw hW)) hn hk (by omega) (by omega)
 have hz:Blk (w.alloc (.cells #[.bool neg,.slice a l.length c,.slice b m.length d0] 51)) w.heap.size 51 #[.bool neg,.slice a l.length c,.slice b m.length d0]:=Blk.new w _ _;have hb0:Below w.heap.size w (w.alloc (.cells #[.bool neg,.slice a l.length c,.slice b m.length d0] 51)):=brf.alloc (nlr _) _;have hsg:=qhl neg n d;obtain ⟨hN1,hD1⟩:=qf8 neg n d;have hln:(limbs n).length<=1000000:=by have:=qaf h.u16;rw [hn] at this;omega
 have hld:(limbs d).length<=1000000:=by have:=qaf h'.u16;rw [hk] at this;omega
 obtain ⟨t,ht⟩:∃ t,qat neg n d=t:=⟨_,rfl⟩
 simp only [ht] at CN hsg hN1 hD1 ⊢;obtain ⟨s,N,D⟩:=t;have hlN:(limbs N).length<=1000000:=Nat.le_trans (qap hN1) hln;have hlD:(limbs D).length<=1000001:=Nat.le_trans (qap hD1) (Nat.le_trans (qfn d) (by omega));unfold RetF RetQ at CN;unfold textF;dsimp only at CN hsg ⊢;replace CN:=Hd CN;clear h h' hn hk ht hN1 hD1;go_enter Tryz.func35,Tryz.ntmps35;go_wp2_with fail;revert hz hb0;generalize w.alloc (.cells #[.bool neg,.slice a l.length c,.slice b m.length d0] 51)=w0;intro hz hb0;refine (CN.out _ hb0).mono ?_;rintro e w1 ⟨a1,c1,a2,c2,rfl,hV1,hV2,hb1⟩;have hw1:=bth hb0 hb1;have hz1:=hz.below' hb1;have hlt:=hz.lt;have HV1:=Hd hV1;have HV2:=Hd hV2;have hs0:=hb0.size;obtain ⟨z0,z1,z2⟩:=cq3 hz1;obtain ⟨f0,f1,f2⟩:=fq3 hz1;clear hV1 hV2;have R1:=fun x y z=>HV1.out (((w1.setCell ⟨w.heap.size,0,none⟩ x).setCell ⟨w.heap.size,1,none⟩ y).setCell ⟨w.heap.size,2,none⟩ z) (back3 (New.refl _ _) hs0 hlt)
 have R2:=fun x y z=>HV2.out (((w1.setCell ⟨w.heap.size,0,none⟩ x).setCell ⟨w.heap.size,1,none⟩ y).setCell ⟨w.heap.size,2,none⟩ z) (back3 (New.refl _ _) hs0 hlt)
 replace R1:=Hd R1;replace R2:=Hd R2;have HF:=fun x y z=>blk3 (x:=x) (y:=y) (z:=z) hz1
 have HB:=fun x y z=>qbd (x:=x) (y:=y) (z:=z) hw1 (nlr w.heap.size)
 replace HF:=Hd HF;replace HB:=Hd HB;go_wp2;refine qab (fun W=>Blk W w.heap.size 51 #[.bool s,.slice a1 (limbs N).length c1,.slice a2 (limbs D).length c2]/\Below w.heap.size w W/\NatR W a1 c1 (limbs N)/\NatR W a2 c2 (limbs D)) ⟨HF.out _ _ _,HB.out _ _ _,R1.out _ _ _,R2.out _ _ _⟩ ?_;clear HF HB R1 R2 z0 z1 z2 f0 f1 f2 hz1 hw1 HV1 HV2 hb1 hz hb0 hlt hs0;rintro w2 ⟨hz,hw,r1,r2⟩;have R1:=Hd r1;have R2:=Hd r2;clear r1 r2;have z0:=fun w' (hw':Below w2.heap.size w2 w')=>(hz.below' hw').cell 0
 have z1:=fun w' (hw':Below w2.heap.size w2 w')=>(hz.below' hw').cell 1
 have z2:=fun w' (hw':Below w2.heap.size w2 w')=>(hz.below' hw').cell 2
 have C1:=fun W=>qb1 1 W (by omega)
 have CS:=fun a' c' W (hW:Below w2.heap.size w2 W) (h':NatR W a' c' (limbs 1))=>qiq (limbs D) (limbs 1) a2 a' c2 c' W (R2.out.ext (xbw hW)) h'
 have CT1:=fun W (hW:Below w2.heap.size w2 W)=>qqa s (limbs N) N a1 c1 W (R1.out.ext (xbw hW)) (qaa _) (by omega)
 rw [hsg] at CT1;have CT2:=fun W (hW:Below w2.heap.size w2 W)=>qif (limbs D) D a2 c2 W (R2.out.ext (xbw hW)) (qaa _) (by omega)
 have hD:decide (limbs D=limbs 1)=decide (D=1):=by rw [Bool.eq_iff_iff];simp [qjz]
 rw [hD] at CS;replace C1:=Hd C1;replace CS:=Hd CS;replace CT1:=Hd CT1;replace CT2:=Hd CT2;have HSG:=Hd hsg;clear hz hD hsg;have s0:Below w2.heap.size w2 w2.drew:=brf.drew;by_cases h1:D=1
 ·
  subst h1;simp only [decide_true] at CS;refine wrx (S:=Below w2.heap.size w2) [(0,.q),(1,.q),(2,.l),(3,.t)] (s0) ?_
  iterate 2 (refine qam rfl rfl fun K hK=>xq ?_;go_simp;refine hK _ _ ?_;clear hK K)
  refine qaj rfl rfl (fun K hK=>?_);go_simp;refine (C1.out _).mono ?_;rintro r w3 ⟨a3,c3,rfl,hV3,hb3⟩;dsimp only;refine hK.out _ _ (bth s0 hb3) (fun _=>?_);clear hK K;have s3:=bth s0 hb3;have CS3:=CS.out a3 c3 w3 s3 (hV3 w3 (New.refl _ _));replace CS3:=Hd CS3;clear hV3;refine qah rfl rfl (fun K hK=>?_);go_simp;refine (CS3.out).mono ?_;rintro r w4 ⟨rfl,hb4⟩;dsimp only;refine hK.out _ _ ?_;clear hK K;have s4:=bth s3 hb4;refine qak ?_;have y0:=z0 w4 s4;have y1:=z1 w4 s4;have y2:=z2 w4 s4;go_wp2_with fail;refine (CT1.out w4 s4).mono ?_;rintro e w5 ⟨rfl,hb5⟩;go_wp2;go_ret;exact ⟨rfl,bth hw (bth s4 hb5)⟩
 ·
  have hd1:decide (D=1)=false:=by simpa using h1
  rw [hd1] at CS;have HNE:=Hd h1;have hsz1:(ofL (textZ s N)).size<=10000001:=by rw [qbw];exact qgr s N (by omega)
  have hsz2:(ofL (textN D)).size<=10000000:=by rw [qbw];exact qcy D (by omega)
  have hsz3:(ofL (textZ s N)).size+1<=10000002:=by omega
  have hsz4:(ofL (textZ s N)).size+1+(ofL (textN D)).size<=20000002:=by omega
  have hn3:¬ 9223372036854775807<(ofL (textZ s N)).size+1:=by omega
  have hn4:¬ 9223372036854775807<(ofL (textZ s N)).size+1+(ofL (textN D)).size:=by omega
  have hfin:ofL (textZ s N)++⟨#[47]⟩++ofL (textN D)=ofL (textZ s N++47 :: textN D):=by
   show ofL (textZ s N)++ofL [47]++ofL (textN D)=_
   rw [qdk,qdk,List.append_assoc];rfl
  have HFIN:=Hd hfin;clear hd1 hfin h1;refine wrx (S:=Below w2.heap.size w2) [(0,.q),(1,.q),(2,.l),(3,.t)] (s0) ?_
  iterate 2 (refine qam rfl rfl fun K hK=>xq ?_;go_simp;refine hK _ _ ?_;clear hK K)
  refine qaj rfl rfl (fun K hK=>?_);go_simp;refine (C1.out _).mono ?_;rintro r w3 ⟨a3,c3,rfl,hV3,hb3⟩;dsimp only;refine hK.out _ _ (bth s0 hb3) (fun _=>?_);clear hK K;have s3:=bth s0 hb3;have CS3:=CS.out a3 c3 w3 s3 (hV3 w3 (New.refl _ _));replace CS3:=Hd CS3;clear hV3;refine qah rfl rfl (fun K hK=>?_);go_simp;refine (CS3.out).mono ?_;rintro r w4 ⟨rfl,hb4⟩;dsimp only;refine hK.out _ _ ?_;clear hK K;have s4:=bth s3 hb4;refine qak ?_;have y0:=z0 w4 s4;have y1:=z1 w4 s4;have y2:=z2 w4 s4;go_wp2;have t4:Below w2.heap.size w2 w4.drew:=s4.drew;clear y0 y1 y2;refine wrx (S:=Below w2.heap.size w2) [(0,.q),(1,.q),(4,.q),(5,.q),(2,.l),(3,.q),(6,.l),(7,.p),(8,.p)] (t4) ?_
  iterate 4 (refine qam rfl rfl fun K hK=>xq ?_;go_simp;refine hK _ _ ?_;clear hK K)
  refine qaj rfl rfl (fun K hK=>?_);go_simp;refine (CT1.out _ t4).mono ?_;rintro r w5 ⟨rfl,hb5⟩;dsimp only;refine hK.out _ _ (bth t4 hb5) (fun _=>?_);clear hK K;have t5:=bth t4 hb5
  iterate 1 (refine qam rfl rfl fun K hK=>xq ?_;go_simp;refine hK _ _ ?_;clear hK K)
  refine qaj rfl rfl (fun K hK=>?_);go_simp;refine (CT2.out _ t5).mono ?_;rintro r w6 ⟨rfl,hb6⟩;dsimp only;refine hK.out _ _ (bth t5 hb6) (fun _=>?_);clear hK K;have t6:=bth t5 hb6
  iterate 2 (refine qav rfl rfl fun K hK=>xp ?_;go_simp;refine hK _ _ ?_;clear hK K)
  refine qak ?_;go_wp2;go_ret;exact ⟨qdz HFIN.out,bth hw t6⟩
theorem qut (neg:Bool) (n:Nat):decide (sgnZ neg n<0)=(neg&&decide (0<n)):=by
 unfold sgnZ;by_cases h:n=0
 · subst h;simp
 ·
  rw [if_neg h,decide_eq_true (show 0<n by omega),Bool.and_true]
  cases neg <;> simp
theorem qq3 (neg:Bool) (l:List Int) (n:Nat) (a:Option Addr) (c:Nat) (w:World) (h:NatR w a c l) (hn:val l=n) (hl:l.length<=1000000) :
  Calls Tryz.prog 69 #[.agg #[.bool neg,.slice a l.length c]] w fun e w'=>e=.returned (.string (ofL (textZ (neg&&decide (0<n)) n)))/\Below w.heap.size w w':=by
 have CS:=fun W (hW:Below w.heap.size w W)=>qea neg l n a c W (h.ext (xbw hW)) hn (by omega)
 have CT:=fun W (hW:Below w.heap.size w W)=>qkb l n a c W (h.ext (xbw hW)) hn hl
 have hsg:=qut neg n;obtain ⟨b,hb⟩:∃ b,(neg&&decide (0<n))=b:=⟨_,rfl⟩
 rw [hb] at hsg ⊢;obtain ⟨s,hs⟩:∃ s,sgnZ neg n=s:=⟨_,rfl⟩
 simp only [hs] at CS hsg;have hsz:(textN n).length<=10000000:=qcy n (by have:=qaf h.u16;rw [hn] at this;omega);replace CS:=Hd CS;replace CT:=Hd CT;clear h hn hb hs;go_enter Tryz.func69,Tryz.ntmps69;go_wp2_with fail;refine qad (fun W=>Blk W w.heap.size 49 #[.bool neg,.slice a l.length c]/\Below w.heap.size w W) ⟨by ((with_reducible repeat first|assumption|(apply bF;focus omega)|apply bS|(apply bN;focus (simp;done))|apply bA|apply bD);all_goals rfl),by go_grown⟩ ?_;rintro w0 ⟨h0,hw0⟩;refine (CS.out w0 hw0).mono ?_;rintro e w1 ⟨rfl,hb1⟩;have hw1:=bth hw0 hb1;replace h0:=h0.below' hb1;obtain ⟨x0,x1⟩:=cq2 h0;clear hw0 hb1 CS
 cases b
 ·
  go_wp2_with fail;refine (CT.out w1 hw1).mono ?_;rintro e w2 ⟨rfl,hb2⟩;go_wp2;go_ret;exact ⟨rfl,bth hw1 hb2⟩
 ·
  go_wp2_with fail;refine (CT.out w1 hw1).mono ?_;rintro e w2 ⟨rfl,hb2⟩;rw [<- qbw] at hsz;have e45:(⟨#[45]⟩:ByteArray)++ofL (textN n)=ofL (45 :: textN n):=qdk [45] _;replace e45:=Hd e45;go_wp2;go_ret;exact ⟨qdz e45.out,bth hw1 hb2⟩
theorem qqw (neg:Bool) (l m:List Int) (n d:Nat) (a b:Option Addr) (c d0:Nat) (w:World) (h:NatR w a c l) (h':NatR w b d0 m) (hn:val l=n) (hk:val m=d) (hl:l.length<=1000000) (hm:m.length<=999999) (hd:d≠0) :
  Calls Tryz.prog 32 #[.agg #[.bool neg,.slice a l.length c,.slice b m.length d0]] w fun e w'=>e=.returned (.string (ofL (textF (qat neg n d))))/\Below w.heap.size w w':=by
 have CP:=fun W (hW:Below w.heap.size w W)=>qbs neg l m a b c d0 W (h'.ext (xbw hW)) (by rw [hk];exact hd) (by omega)
 have CN:=fun W (hW:Below w.heap.size w W)=>qdd neg l m n d a b c d0 W (h.ext (xbw hW)) (h'.ext (xbw hW)) hn hk (by omega) (by omega)
 have hsg:=qhl neg n d;obtain ⟨hN1,hD1⟩:=qf8 neg n d;have hln:(limbs n).length<=1000000:=by have:=qaf h.u16;rw [hn] at this;omega
 have hld:(limbs d).length<=999999:=by have:=qaf h'.u16;rw [hk] at this;omega
 obtain ⟨t,ht⟩:∃ t,qat neg n d=t:=⟨_,rfl⟩
 simp only [ht] at CN hsg hN1 hD1 ⊢;obtain ⟨s,N,D⟩:=t;have hlN:(limbs N).length<=1000000:=Nat.le_trans (qap hN1) hln;have hlD:(limbs D).length<=1000000:=Nat.le_trans (qap hD1) (Nat.le_trans (qfn d) (by omega));unfold RetF RetQ at CN;unfold textF;dsimp only at CN hsg ⊢;replace CN:=Hd CN;replace CP:=Hd CP;clear h h' hn hk ht hN1 hD1 hd;go_enter Tryz.func32,Tryz.ntmps32;go_wp2_with fail;refine qad (fun W=>Below w.heap.size w W) (by go_grown) ?_;rintro w0 hw0;refine (CP.out w0 hw0).mono ?_;rintro e w1 ⟨rfl,hb1⟩;have hw1:=bth hw0 hb1;clear CP hw0 hb1;have hs1:=hw1.size;go_wp2_with fail;refine qad (fun W=>Below w.heap.size w W) (by go_grown) ?_;rintro w2 hw2;refine (CN.out w2 hw2).mono ?_;rintro e w3 ⟨na,nc,da,dc,rfl,hV1,hV2,hb3⟩;have hw3:=bth hw2 hb3;have K1:=fun (V:World) (hV:Below w3.heap.size w3 V)=>hV1 V ((New.refl _ V).below hV)
 have K2:=fun (V:World) (hV:Below w3.heap.size w3 V)=>hV2 V ((New.refl _ V).below hV)
 have CO:=fun V hV=>qdb (limbs D) da dc V (K2 V hV)
 have CT1:=fun V hV=>qq3 s (limbs N) N na nc V (K1 V hV) (qaa _) hlN
 have CT2:=fun V hV=>qkb (limbs D) D da dc V (K2 V hV) (qaa _) hlD
 rw [hsg] at CT1;rw [qcp] at CO;replace CO:=Hd CO;replace CT1:=Hd CT1;replace CT2:=Hd CT2;clear CN hw2 hb3 hV1 hV2 K1 K2 hs1;have hs3:=hw3.size;go_wp2_with fail;refine qad (fun W=>Blk W w3.heap.size 51 #[.bool s,.slice na (limbs N).length nc,.slice da (limbs D).length dc]/\Below w3.heap.size w3 W) ⟨by ((with_reducible repeat first|assumption|(apply bF;focus omega)|apply bS|(apply bN;focus (simp;done))|apply bA|apply bD);all_goals rfl),by go_grown⟩ ?_;rintro w4 ⟨h4,hw4⟩;refine (CO.out w4 hw4).mono ?_;rintro e w5 ⟨rfl,hb5⟩;have hw5:=bth hw4 hb5;replace h4:=h4.below' hb5;obtain ⟨x0,x1,x2⟩:=cq3 h4;clear hw4 hb5 CO;by_cases h1:D=1
 ·
  have d1:decide (D=1)=true:=decide_eq_true h1;have HD:=Hd h1;clear h1;go_wp2_with fail;refine (CT1.out w5 hw5).mono ?_;rintro e w6 ⟨rfl,hb6⟩;go_wp2;go_ret;exact ⟨rfl,bth hw3 (bth hw5 hb6)⟩
 ·
  have d1:decide (D=1)=false:=decide_eq_false h1;have HD:=Hd h1;have k0:=held x0;have k1:=held x1;have k2:=held x2;have hsz1:(ofL (textZ s N)).size<=10000001:=by rw [qbw];exact qgr s N (by omega)
  have hsz2:(ofL (textN D)).size<=10000000:=by rw [qbw];exact qcy D (by omega)
  have hsz3:(ofL (textZ s N)).size+1<=10000002:=by omega
  have hsz4:(ofL (textZ s N)).size+1+(ofL (textN D)).size<=20000002:=by omega
  have hn3:¬ 9223372036854775807<(ofL (textZ s N)).size+1:=by omega
  have hn4:¬ 9223372036854775807<(ofL (textZ s N)).size+1+(ofL (textN D)).size:=by omega
  have hfin:ofL (textZ s N)++⟨#[47]⟩++ofL (textN D)=ofL (textZ s N++47 :: textN D):=by
   show ofL (textZ s N)++ofL [47]++ofL (textN D)=_
   rw [qdk,qdk,List.append_assoc];rfl
  have HFIN:=Hd hfin;clear hfin h1 x0 x1 x2;go_wp2;have t0:Below w5.heap.size w5 w5.drew:=brf.drew;refine wrx (S:=Below w5.heap.size w5) [(0,.q),(1,.q),(4,.q),(5,.q),(2,.l),(3,.q),(6,.l),(7,.p),(8,.p)] (t0) ?_
  iterate 4 (refine qam rfl rfl fun K hK=>xq ?_;go_simp;refine hK _ _ ?_;clear hK K)
  refine qaj rfl rfl (fun K hK=>?_);go_simp;refine (CT1.out _ (bth hw5 t0)).mono ?_;rintro r w6 ⟨rfl,hb6⟩;dsimp only;refine hK.out _ _ (bth t0 hb6) (fun _=>?_);clear hK K;have t6:=bth t0 hb6
  iterate 1 (refine qam rfl rfl fun K hK=>xq ?_;go_simp;refine hK _ _ ?_;clear hK K)
  refine qaj rfl rfl (fun K hK=>?_);go_simp;refine (CT2.out _ (bth hw5 t6)).mono ?_;rintro r w7 ⟨rfl,hb7⟩;dsimp only;refine hK.out _ _ (bth t6 hb7) (fun _=>?_);clear hK K;have t7:=bth t6 hb7
  iterate 2 (refine qav rfl rfl fun K hK=>xp ?_;go_simp;refine hK _ _ ?_;clear hK K)
  refine qak ?_;go_wp2;go_ret;exact ⟨qdz HFIN.out,bth hw3 (bth hw5 t7)⟩
def Rt.q (r:Rt):Rat:=qv r.neg (Go.Proofs.YtfaalkneigpcnaaGreatDoor.val r.num) (Go.Proofs.YtfaalkneigpcnaaGreatDoor.val r.den)
def RtZ (w:World) (r:Rt) (z:QA):Prop:=z.neg=r.neg/\z.n=r.num.length/\z.m=r.den.length/\NatR w z.a z.c r.num/\NatR w z.b z.d r.den
theorem RtZ.ext {w w':World} {r:Rt} {z:QA} (h:RtZ w r z) (e:Ext w w'):RtZ w' r z:=⟨h.1,h.2.1,h.2.2.1,h.2.2.2.1.ext e,h.2.2.2.2.ext e⟩
theorem qf1 {r:Rt} (h:r.right=true):r.neg=decide (r.q.num<0)/\limbs r.q.num.natAbs=r.num/\limbs r.q.den=r.den:=by
 unfold Rt.right qcm qcf at h;simp only [Bool.and_eq_true,decide_eq_true_eq,Bool.not_eq_true',Bool.and_eq_false_iff,decide_eq_false_iff_not] at h;obtain ⟨⟨⟨⟨h1,h2⟩,h3⟩,h4⟩,h5⟩:=h;have e:=qd8 r.neg (Go.Proofs.YtfaalkneigpcnaaGreatDoor.val r.num) (Go.Proofs.YtfaalkneigpcnaaGreatDoor.val r.den);have hd:Go.Proofs.YtfaalkneigpcnaaGreatDoor.val r.den≠0:=by
  intro e0;rw [e0,qag] at h3;rw [<- h3] at h5;simp at h5
 have e2:qat r.neg (Go.Proofs.YtfaalkneigpcnaaGreatDoor.val r.num) (Go.Proofs.YtfaalkneigpcnaaGreatDoor.val r.den)=(r.neg,Go.Proofs.YtfaalkneigpcnaaGreatDoor.val r.num,Go.Proofs.YtfaalkneigpcnaaGreatDoor.val r.den):=by
  by_cases h0:Go.Proofs.YtfaalkneigpcnaaGreatDoor.val r.num=0
  ·
   have hn:r.num.length=0:=by rw [<- h1,h0,qag];rfl
   have hneg:r.neg=false:=by
    rcases h2 with h2 | h2
    · exact h2
    · exact (h2 hn).elim
   have hd1:Go.Proofs.YtfaalkneigpcnaaGreatDoor.val r.den=1:=by rw [h0,Nat.gcd_zero_left] at h4;exact h4
   rw [h0,hneg,hd1]
   rfl
  · exact qf7 h0 hd h4
 rw [e2] at e;unfold trip at e;simp only [Prod.mk.injEq] at e;unfold Rt.q;refine ⟨e.1,?_,?_⟩
 · rw [<- e.2.1,h1]
 · rw [<- e.2.2,h3]
def textQ (q:Rat):List UInt8:=textF (trip q)
theorem qhs (q:Rat):qat (decide (q.num<0)) q.num.natAbs q.den=trip q:=by rw [qd8,qb7]
theorem qrd (x:QA) (q:Rat) (k:Nat) (w:World) (H:QK k w x q) (hk:k<=100000):Calls Tryz.prog 32 #[.agg #[.bool x.neg,.slice x.a x.n x.c,.slice x.b x.m x.d]] w fun e w'=>e=.returned (.string (ofL (textQ q)))/\Below w.heap.size w w':=by
 obtain ⟨s1,n1,a1,c1,m1,b1,d1⟩:=x;obtain ⟨⟨e1,e2,e3,r1,r2⟩,z1⟩:=H;dsimp only at e1 e2 e3 r1 r2 ⊢;subst e1 e2 e3;have l1:=qbi q;have l2:=qbj q;have:=qqw (decide (q.num<0)) (limbs q.num.natAbs) (limbs q.den) q.num.natAbs q.den a1 b1 c1 d1 w r1 r2 (qaa _) (qaa _) (by omega) (by omega) q.den_nz
 rwa [qhs] at this
theorem qnx (x:QA) (q:Rat) (k:Nat) (w:World) (H:QK k w x q) (hk:k<=100000):Calls Tryz.prog 35 #[.agg #[.bool x.neg,.slice x.a x.n x.c,.slice x.b x.m x.d]] w fun e w'=>e=.returned (.string (ofL (textQ q)))/\Below w.heap.size w w':=by
 obtain ⟨s1,n1,a1,c1,m1,b1,d1⟩:=x;obtain ⟨⟨e1,e2,e3,r1,r2⟩,z1⟩:=H;dsimp only at e1 e2 e3 r1 r2 ⊢;subst e1 e2 e3;have l1:=qbi q;have l2:=qbj q;have:=qpu (decide (q.num<0)) (limbs q.num.natAbs) (limbs q.den) q.num.natAbs q.den a1 b1 c1 d1 w r1 r2 (qaa _) (qaa _) (by omega) (by omega)
 rwa [qhs] at this
theorem qn5 (x y:QA) (p q:Rat) (k:Nat) (w:World) (H1:QK k w x p) (H2:QK k w y q) (hk:k<=100000):Calls Tryz.prog 184 #[.agg #[.bool x.neg,.slice x.a x.n x.c,.slice x.b x.m x.d],.agg #[.bool y.neg,.slice y.a y.n y.c,.slice y.b y.m y.d]] w fun e w'=>e=.returned (.bool (decide (p=q)))/\Below w.heap.size w w':=by
 have CC:=fun W (hW:Below w.heap.size w W)=>cmp_q x y p q k k W (H1.ext (xbw hW)) (H2.ext (xbw hW)) hk hk
 have hz:(cmpQ p q==0)=decide (p=q):=by rw [Bool.eq_iff_iff,beq_iff_eq,decide_eq_true_eq];exact qri
 replace CC:=Hd CC;obtain ⟨r,hr⟩:∃ r,cmpQ p q=r:=⟨_,rfl⟩
 rw [hr] at hz;simp only [hr] at CC;replace CC:=Hd CC.out;replace hz:=Hd hz;clear H1 H2 hr;go_enter Tryz.func184,Tryz.ntmps184;go_wp2_with fail;refine qad (fun W=>Below w.heap.size w W) (by go_grown) ?_;rintro w0 hw0;refine (CC.out w0 hw0).mono ?_;rintro e w1 ⟨rfl,hb⟩;go_wp2;go_ret;exact ⟨qbf hz.out,bth hw0 hb⟩
end Go.Proofs.YtfaalkneigpcnaaGreatDoor
