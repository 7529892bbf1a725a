/- The law RefuteDiffers, walked. -/
import Derived.Test.YtmdlbpibipnapaaGreatRd27
import Derived.Test.YtmdlbpibipnapaaGreatRd7
import Derived.Deep.LoopGhost
import Derived.Laws.EntriesVeiled
import Derived.Test.YtmdlbpibipnapaaGreatRd8
import Derived.Test.YtmdlbpibipnapaaGreatRd2
import Derived.Test.YtmdlbpibipnapaaGreatRd11
import Derived.Test.YtmdlbpibipnapaaGreatRd23
import Derived.Test.YtmdlbpibipnapaaGreatRd1
import Derived.Test.YtmdlbpibipnapaaGreatRows
set_option linter.all false
set_option maxRecDepth 100000
set_option maxHeartbeats 4000000
namespace Go.Proofs.YtmdlbpibipnapaaGreat
open Go.RowKit
def negQ (t:Bool × Nat × Nat):Bool × Nat × Nat:=qak (!t.1) t.2.1 t.2.2
def valQ (k:Int):Bool × Nat × Nat:=if k<=0 then qak false 0 1 else if k.toNat % 2=1 then posQ (k.toNat / 2+1) else negQ (posQ (k.toNat / 2))
theorem qll {j:Nat} (h1:j<=4611686018427387904):(limbs (posQ j).2.1).length<=4/\(limbs (posQ j).2.2).length<=4:=by
 have h:=sb_in h1 0;simp at h;have h2:=qcj false (sb j).1 (sb j).2;have h3:=qcr false (sb j).1 (sb j).2;have:(65536:Nat) ^ 4=18446744073709551616:=by decide
 exact ⟨qam (by unfold posQ;omega),qam (by unfold posQ;omega)⟩
theorem zz79 {P:Prop} (h:P:=by
 have hw3:=bth hw2 hb3;have hz3:=hz2.below' hb3;have HV3:=Hd hV3;have HV4:=Hd hV4;have hs2:=hw2.size;have hgl2:=hz2.lt;obtain ⟨z0,z1,z2⟩:=cq3 hz3;obtain ⟨f0,f1,f2⟩:=fq3 hz3;clear hV3 hV4 hz2;go_wp2;have hF:=blk3 (x:=.bool s) (y:=.slice a3 (limbs N).length c3) (z:=.slice a4 (limbs D).length c4) hz3;obtain ⟨e0,e1,e2⟩:=cq3 hF;refine bodyPost_ret (v:=.agg #[.bool s,.slice a3 (limbs N).length c3,.slice a4 (limbs D).length c4]) (by simp [results,Tryz.results5,go_sem,e0,e1,e2]) rfl ?_;exact ⟨a3,c3,a4,c4,rfl,fun V hV=>HV3.out V (back3 hV hs2 hgl2),fun V hV=>HV4.out V (back3 hV hs2 hgl2),qbu hw3 (nlr _)⟩
 ):P:=h
theorem qir (k:Int) (w:World) (hi:InInt k) :
  Calls Tryz.prog 5 #[.int .i64 k] w (RetF (valQ k) w):=by
 have CNEG:=fun t M E a1 a2 c1 c2 W (g1:NatR W a1 c1 (limbs M)) (g2:NatR W a2 c2 (limbs E)) (hM:(limbs M).length<=4) (hE:(limbs E).length<=4) (hp:0<E)=>qyw t (limbs M) (limbs E) M E a1 a2 c1 c2 W g1 g2 (qac _) (qac _) oo oo oo
 replace CNEG:=Hd CNEG;have C0:=fun W=>qj3 0 W (by unfold InInt;omega)
 have e0:qak (decide ((0:Int)<0)) (0:Int).natAbs 1=qak false 0 1:=rfl;rw [e0] at C0;obtain ⟨q,hq⟩:=nm (valQ k)
 rw [hq];have hz:Blk (w.alloc (.cells #[.bool false,.slice none 0 0,.slice none 0 0] 32)) w.heap.size 32 #[.bool false,.slice none 0 0,.slice none 0 0]:=Blk.new w _ _;have hb0:Below w.heap.size w (w.alloc (.cells #[.bool false,.slice none 0 0,.slice none 0 0] 32)):=brf.alloc (nlr _) _;obtain ⟨hi1,hi2⟩:=hi;by_cases hk:k<=0
 ·
  have hq0:qak false 0 1=q:=by rw [<- hq,valQ,if_pos hk]
  rw [hq0] at C0;obtain ⟨s,N,D⟩:=q;unfold RetF at C0 ⊢;dsimp only at C0 ⊢;replace C0:=Hd C0;have hd:=decide_eq_true hk;clear hq hq0 hk e0;go_enter Tryz.func5,Tryz.ntmps5;go_wp2_with fail;revert hz hb0;generalize w.alloc (.cells #[.bool false,.slice none 0 0,.slice none 0 0] 32)=w0;intro hz hb0;refine (C0.out _).mono ?_;rintro e w3 ⟨a3,c3,a4,c4,rfl,hV3,hV4,hb3⟩;have hw2:=hb0;have hz2:=hz;exact zz79
 ·
  obtain ⟨n,rfl⟩:∃ n:Nat,k=(n:Int):=⟨k.toNat,oo⟩
  by_cases ho:n % 2=1
  ·
   have C1:=fun W=>qin (n / 2+1) W oo oo
   have hq0:posQ (n / 2+1)=q:=by rw [<- hq,valQ,if_neg hk,Int.toNat_natCast,if_pos ho]
   rw [hq0] at C1;obtain ⟨s,N,D⟩:=q;unfold RetF at C1 ⊢;dsimp only at C1 ⊢;replace C1:=Hd C1;have hd:decide (n=0)=false:=by rw [decide_eq_false_iff_not];omega
   have hm:((n:Int) % 2==1)=true:=by rw [beq_iff_eq];omega
   have hn2:(n:Int)<=9223372036854775807:=oo
   clear hq hq0 hk e0 C0 ho;go_enter Tryz.func5,Tryz.ntmps5;go_wp2_with fail;revert hz hb0;generalize w.alloc (.cells #[.bool false,.slice none 0 0,.slice none 0 0] 32)=w0;intro hz hb0;refine (C1.out _).mono ?_;rintro e w3 ⟨a3,c3,a4,c4,rfl,hV3,hV4,hb3⟩;have hw2:=hb0;have hz2:=hz;exact zz79
  ·
   have C1:=fun W=>qin (n / 2) W oo oo
   have hq0:negQ (posQ (n / 2))=q:=by rw [<- hq,valQ,if_neg hk,Int.toNat_natCast,if_neg ho]
   have hsm:=qll (j:=n / 2) oo;have hdp:0<(posQ (n / 2)).2.2:=qho _ _ _;obtain ⟨u,hu⟩:=nm (posQ (n / 2))
   rw [hu] at C1 hq0 hsm hdp;obtain ⟨t,M,E⟩:=u;dsimp only at hsm hdp;have C2:=fun a1 a2 c1 c2 W g1 g2=>(CNEG.out t M E a1 a2 c1 c2 W g1 g2 hsm.1 hsm.2 hdp)
   have hq1:qak (!t) M E=q:=hq0;rw [hq1] at C2;obtain ⟨s,N,D⟩:=q;unfold RetF at C1 C2 ⊢;dsimp only at C1 C2 ⊢;replace C1:=Hd C1;replace C2:=Hd C2;have hd:decide (n=0)=false:=by rw [decide_eq_false_iff_not];omega
   have hm:((n:Int) % 2==1)=false:=by rw [beq_eq_false_iff_ne];omega
   have hn2:(n:Int)<=9223372036854775807:=oo
   clear hq hq0 hq1 hk e0 C0 ho hsm hdp hu;go_enter Tryz.func5,Tryz.ntmps5;go_wp2_with fail;revert hz hb0;generalize w.alloc (.cells #[.bool false,.slice none 0 0,.slice none 0 0] 32)=w0;intro hz hb0;refine (C1.out _).mono ?_;rintro e w2 ⟨a1,c1,a2,c2,rfl,hV1,hV2,hb2⟩;have hw2:=bth hb0 hb2;have hz2:=hz.below' hb2;have CF:=C2.out a1 a2 c1 c2 w2 (hV1 w2 (New.refl _ _)) (hV2 w2 (New.refl _ _));replace CF:=Hd CF;clear hV1 hV2 hz;go_wp2_with fail;refine CF.out.mono ?_;rintro e w3 ⟨a3,c3,a4,c4,rfl,hV3,hV4,hb3⟩;exact zz79
theorem qlj (n:Nat) (h:n<9223372036854775808):wrap64 (n:Int)=n:=IntWalk.wrap64_in _ oo
theorem qu5 {m s i n:Nat} (hm:m<9223372036854775808) (hs:s<2 ^ n) (hn:n<63):bits .or .i64 (s:Int) (wrap64 (bits .and .i64 ((m:Int) / 2 ^ i) 1*2 ^ min n 64))=((s+m / 2 ^ i % 2*2 ^ n:Nat):Int):=by
 have e1:(m:Int) / 2 ^ i=((m / 2 ^ i:Nat):Int):=by push_cast;rfl
 have h1:m / 2 ^ i<=m:=Nat.div_le_self _ _;have hb:m / 2 ^ i % 2<2:=Nat.mod_lt _ oo;rw [e1,qpy _ oo,Nat.min_eq_left oo];generalize m / 2 ^ i % 2=b at hb;have e2:(b:Int)*2 ^ n=((b*2 ^ n:Nat):Int):=by push_cast;rfl
 rw [e2,qlj _ (qnq b n hb hn)];exact qsh s b n hs hb hn
theorem qwb (m first step:Nat) (w:World) (hm:m<9223372036854775808) (hs:0<step) (hs2:step<=1000) (hf:first<=1000) :
  Calls Tryz.prog 16 #[.int .i64 m,.int .i64 first,.int .i64 step] w fun e w'=>e=.returned (.int .i64 (dealN m step 63 first))/\Below w.heap.size w w':=by
 obtain ⟨res,hres⟩:=nm (dealN m step 63 first)
 rw [hres];replace hres:=Hd hres;have HM:=Hd hm;clear hm;go_enter Tryz.func16,Tryz.ntmps16;go_wp2
 go_loopg [7,8,9] 63 (fun g o q p wr=>∃ (n i s:Nat),Hid (63<=i+g/\i=first+n*step/\s<2 ^ n/\s+2 ^ n*dealN m step 63 i=res)/\o=.int .i64 s/\q=.int .i64 n/\p=.int .i64 i/\Below w.heap.size w wr)
 case atStart=>exact ⟨0,first,0,⟨oo,oo,by decide,by rw [hres.out];omega⟩,rfl,rfl,rfl,Below.refl _ _⟩
 case round =>
  obtain ⟨n,i,s,hh,rfl,rfl,rfl,hwr⟩:=hrel;by_cases hi:i<63
  ·
   have hi2:((i:Int)<63):=oo
   go_wp2;obtain ⟨h1,h2,h3,h4⟩:=hh.out;have hni:n<=n*step:=Nat.le_mul_of_pos_right _ hs;have e1:=qu5 (i:=i) HM.out h3 (show n<63 by omega);have e2:wrap64 ((n:Int)+1)=((n+1:Nat):Int):=qlj (n+1) oo;have e3:=qes m step hs hi;have hb:m / 2 ^ i % 2<2:=Nat.mod_lt _ oo;go_roundg (gk-1)
   case rel =>
    refine ⟨n+1,i+step,s+m / 2 ^ i % 2*2 ^ n,⟨oo,by rw [Nat.add_mul,Nat.one_mul];omega,?_,?_⟩,congrArg _ e1,congrArg _ e2,congrArg _ (by simp),hwr⟩
    ·
     rw [Nat.pow_succ];have:m / 2 ^ i % 2*2 ^ n<=1*2 ^ n:=Nat.mul_le_mul oo (nlr _)
     omega
    ·
     rw [e3] at h4;rw [<- h4,Nat.pow_succ];generalize dealN m step 63 (i+step)=d;generalize m / 2 ^ i % 2=b;generalize 2 ^ n=P;rw [Nat.mul_add,Nat.mul_comm b P,Nat.add_assoc,Nat.mul_assoc]
   case measure=>omega
  ·
   have hi2:¬ ((i:Int)<63):=oo
   go_wp2;obtain ⟨h1,h2,h3,h4⟩:=hh.out;rw [qg2 _ _ _ _ oo] at h4;go_ret;exact ⟨by rw [<- h4];simp,hwr⟩
theorem qov (neg:Bool) (n d:Nat):Rt.right ⟨(qak neg n d).1,limbs (qak neg n d).2.1,limbs (qak neg n d).2.2⟩=true:=by
 have hc:∀ k,qch (limbs k)=true:=fun k=>by simp [qch,qac]
 unfold Rt.right qcv;simp only [hc,qac,Bool.true_and,Bool.and_true];unfold qak
 split
 ·
  simp [qao];exact qat.2 oo
 ·
  next h0 =>
  have hg:=Nat.gcd_pos_of_pos_right n (show 0<d by omega);have h1:Nat.gcd (n / Nat.gcd n d) (d / Nat.gcd n d)=1:=by
   rw [Nat.gcd_div (Nat.gcd_dvd_left n d) (Nat.gcd_dvd_right n d)];exact Nat.div_self hg
  have h2:0<d / Nat.gcd n d:=Nat.div_pos (Nat.le_of_dvd oo (Nat.gcd_dvd_right n d)) hg;dsimp only;simp only [h1];have h3:=qat.2 h2;have h4:=qat (n:=n / Nat.gcd n d);by_cases h5:0<n / Nat.gcd n d
  ·
   have h6:=h4.2 h5;simp [h3];right;intro e;rw [e] at h6;simp at h6
  · simp [h5,h3]
theorem qq2 (k:Int):∃ s n d,valQ k=qak s n d:=by
 unfold valQ
 split
 · exact ⟨_,_,_,rfl⟩
 ·
  split
  · exact ⟨_,_,_,rfl⟩
  · exact ⟨_,_,_,rfl⟩
theorem qtl {k:Int} (hi:InInt k):(limbs (valQ k).2.1).length<=5/\(limbs (valQ k).2.2).length<=5:=by
 obtain ⟨hi1,hi2⟩:=hi;have h5:(65536:Nat) ^ 5=1208925819614629174706176:=by decide
 unfold valQ
 split
 · exact ⟨qam (by have:=qcj false 0 1;omega),qam (by have:=qcr false 0 1;omega)⟩
 ·
  split
  ·
   have:=qll (j:=k.toNat / 2+1) oo
   omega
  ·
   have h:=sb_in (j:=k.toNat / 2) oo 0;simp at h;have h2:=qcj false (sb (k.toNat / 2)).1 (sb (k.toNat / 2)).2;have h3:=qcr false (sb (k.toNat / 2)).1 (sb (k.toNat / 2)).2;have h6:=qcj (!(posQ (k.toNat / 2)).1) (posQ (k.toNat / 2)).2.1 (posQ (k.toNat / 2)).2.2;have h7:=qcr (!(posQ (k.toNat / 2)).1) (posQ (k.toNat / 2)).2.1 (posQ (k.toNat / 2)).2.2;unfold posQ at h6 h7;unfold negQ posQ;exact ⟨qam oo,qam oo⟩
theorem qmk (k:Int):∃ q:Rat,valQ k=trip q:=by
 obtain ⟨s,n,d,h⟩:=qq2 k;exact ⟨qv s n d,by rw [h,qcb]⟩
noncomputable def valR (k:Int):Rat:=Classical.choose (qmk k)
theorem qen (k:Int):valQ k=trip (valR k):=Classical.choose_spec (qmk k)
theorem qjh {k:Int} (hi:InInt k):qsz (valR k)<=5:=by
 have:=qtl hi;rw [qen] at this;exact qgl this.1 this.2
def brN (k n:Nat):List Bool:=(List.range n).map fun i=>decide (k / 2 ^ i % 2=1)
noncomputable def vaN (k c p:Nat):List Rat:=(List.range p).map fun i=>valR ((dealN k p 63 (c+i) ^^^ (i+1):Nat):Int)
theorem qgb (k n:Nat):(brN k n).length=n:=by simp [brN]
theorem qhh (k c p:Nat):(vaN k c p).length=p:=by simp [vaN]
theorem qxx {k n i:Nat} (h:i<n):(brN k n).take (i+1)=(brN k n).take i++[decide (k / 2 ^ i % 2=1)]:=qbb (by simp [brN,h])
theorem ql2 {k c p i:Nat} (h:i<p):(vaN k c p)[i]? = some (valR ((dealN k p 63 (c+i) ^^^ (i+1):Nat):Int)):=by simp [vaN,h]
def boC (b:Bool):List Value:=[.bool b]
theorem qrw (b:Bool):(boC b).length=1:=rfl
theorem qzv (b:Bool):∀ u∈boC b,u.oneCell'=true:=by simp [boC,Value.oneCell']
def qaC (x:QA):List Value:=[.bool x.neg,.slice x.a x.n x.c,.slice x.b x.m x.d]
theorem qrx (x:QA):(qaC x).length=3:=rfl
theorem qzj (x:QA):∀ u∈qaC x,u.oneCell'=true:=by simp [qaC,Value.oneCell']
abbrev OwnB (B:Nat) (w:World) (a:Option Addr) (c:Nat) (l:List Bool):Prop:=Own boC 1 4 B w a c l
abbrev OwnQ (B:Nat) (w:World) (a:Option Addr) (c:Nat) (l:List QA):Prop:=Own qaC 3 32 B w a c l
theorem qad3:(Tryz.prog.info? 4).map (fun i=>(i.zero,i.size,i.bytes))=some (some (.bool false),1,1):=by kernel_rfl
theorem qaa8:(Tryz.prog.info? 32).map (fun i=>(i.zero,i.size,i.bytes))=some (some (.agg #[.bool false,.slice none 0 0,.slice none 0 0]),3,56):=by kernel_rfl
def AllQ (X:Nat->Prop) (w:World) (l:List QA) (p:List Rat):Prop:=l.length=p.length/\∀ (k:Nat) (t:QA) (u:Rat),l[k]? = some t->p[k]? = some u->Rd X w fun V=>QAc V t u
theorem AllQ.nil {X:Nat->Prop} {w:World}:AllQ X w [] []:=⟨rfl,fun k t u h=>by simp at h⟩
theorem AllQ.call {X:Nat->Prop} {w w':World} {l:List QA} {p:List Rat} (h:AllQ X w l p) (e:Below w.heap.size w w'):AllQ X w' l p:=⟨h.1,fun k t u h1 h2=>(h.2 k t u h1 h2).call e⟩
theorem AllQ.push {X Y:Nat->Prop} {w w':World} {l:List QA} {p:List Rat} {x:QA} {q:Rat} (h:AllQ X w l p) (hx:Rd X w fun V=>QAc V x q) (e:∀ R,Rd X w R->Rd Y w' R):AllQ Y w' (l++[x]) (p++[q]):=by
 refine ⟨by simp [h.1],fun k t u h1 h2=>?_⟩;rcases Nat.lt_or_ge k l.length with e1 | e1
 ·
  rw [List.getElem?_append_left e1] at h1;rw [List.getElem?_append_left (by rw [<- h.1];exact e1)] at h2;exact e _ (h.2 k t u h1 h2)
 ·
  rw [List.getElem?_append_right e1] at h1;rw [List.getElem?_append_right (by rw [<- h.1];exact e1),<- h.1] at h2
  cases hk:k-l.length with
  | zero =>
   rw [hk] at h1 h2;simp at h1 h2;subst h1 h2;exact e _ hx
  | succ j=>rw [hk] at h1;simp at h1
def BosR (w:World) (a:Option Addr) (c:Nat) (l:List Bool):Prop:=SlR 1 BoolE w a c l
def QE (w:World) (b o:Nat) (q:Rat):Prop:=∃ x:QA,w.cell? ⟨b,o,none⟩=some (.bool x.neg)/\w.cell? ⟨b,o+1,none⟩=some (.slice x.a x.n x.c)/\w.cell? ⟨b,o+2,none⟩=some (.slice x.b x.m x.d)/\QAc w x q
def QsR (w:World) (a:Option Addr) (c:Nat) (l:List Rat):Prop:=SlR 3 QE w a c l
theorem BosR.ext {w w':World} {a:Option Addr} {c:Nat} {l:List Bool} (h:BosR w a c l) (e:Ext w w'):BosR w' a c l:=SlR.mono h fun _ _ _ _ h=>e _ _ h
theorem QsR.ext {w w':World} {a:Option Addr} {c:Nat} {l:List Rat} (h:QsR w a c l) (e:Ext w w'):QsR w' a c l:=SlR.mono h fun _ _ _ _ ⟨x,h1,h2,h3,h4⟩=>⟨x,e _ _ h1,e _ _ h2,e _ _ h3,h4.ext e⟩
theorem OwnB.bos {B:Nat} {w:World} {a:Option Addr} {c:Nat} {l:List Bool} (h:OwnB B w a c l):BosR w a c l:=Own.reads qrw h fun g o x _ hc=>by have e:=hc 0 _ rfl;rw [Nat.add_zero] at e;exact e
theorem OwnQ.qs {B:Nat} {X:Nat->Prop} {w:World} {a:Option Addr} {c:Nat} {l:List QA} {p:List Rat} (h:OwnQ B w a c l) (hA:AllQ X w l p):QsR w a c p :=
 Own.readsX (X:=fun _=>False) p hA.1.symm qrx h (Agr.refl _ _) (fun _ _ h=>h) fun b o k x y h1 h2 hc=>⟨x,by simpa using hc 0 _ rfl,hc 1 _ rfl,hc 2 _ rfl,(hA.2 k x y h1 h2).now⟩
def qrv (er:Int) (w:World) (e:Ending) (w':World):Prop:=Below w.heap.size w w'/\e=.returned (.tuple #[.slice none 0 0,.slice none 0 0,.int .i64 er])
def qme (t1 t2 k:Nat) (w:World) (e:Ending) (w':World):Prop:=Below w.heap.size w w' /\
 ∃ a c b d,e=.returned (.tuple #[.slice a t1 c,.slice b t2 d,.int .i64 0])/\QsR w' a c (vaN k t2 t1)/\BosR w' b d (brN k t2)
theorem qyn (x:QA) (q:Rat) (w:World) (H:QAc w x q) (hq:qsz q<=1000):Calls Tryz.prog 38 #[.agg #[.bool x.neg,.slice x.a x.n x.c,.slice x.b x.m x.d]] w fun e w'=>e=.returned (.bool true)/\Below w.heap.size w w':=by
 obtain ⟨s1,n1,a1,c1,m1,b1,d1⟩:=x;obtain ⟨e1,e2,e3,r1,r2⟩:=H;dsimp only at e1 e2 e3 r1 r2 ⊢;subst e1 e2 e3;have l1:=qbs q;have l2:=qbq q;have hr:=qov (decide (q.num<0)) q.num.natAbs q.den;rw [qcb,qcg] at hr;have:=qhc ⟨decide (q.num<0),limbs q.num.natAbs,limbs q.den⟩ a1 c1 b1 d1 w r1 r2 (by dsimp only;omega) (by dsimp only;omega);unfold Rt.val at this;dsimp only at this;unfold trip at hr;dsimp only at hr;rw [hr] at this;exact this
theorem eqD_q (x y:QA) (p q:Rat) (k:Nat) (w:World) (H1:QK k w x p) (H2:QK k w y q) (hk:k<=100000):Calls Tryz.prog 4 #[.agg #[.bool x.neg,.slice x.a x.n x.c,.slice x.b x.m x.d],.agg #[.bool y.neg,.slice y.a y.n y.c,.slice y.b y.m y.d]] w fun e w'=>e=.returned (.bool (decide (p=q)))/\Below w.heap.size w w':=by
 have CC:=fun W (hW:bw w W)=>qac6 x y p q k k W (H1.ext (xbw hW)) (H2.ext (xbw hW)) hk hk
 have hz:(cmpQ p q==0)=decide (p=q):=by rw [Bool.eq_iff_iff,beq_iff_eq,decide_eq_true_eq];exact qt4
 replace CC:=Hd CC;obtain ⟨r,hr⟩:=nm (cmpQ p q)
 rw [hr] at hz;simp only [hr] at CC;replace CC:=Hd CC.out;replace hz:=Hd hz;clear H1 H2 hr;go_enter Tryz.func4,Tryz.ntmps4;go_wp2_with fail;refine qae (fun W=>Below w.heap.size w W) (by go_grown) ?_;rintro w0 hw0;refine (CC.out w0 hw0).mono ?_;rintro e w1 ⟨rfl,hb⟩;go_wp2;go_ret;exact ⟨qbn hz.out,bth hw0 hb⟩
theorem qab8 (x y:QA) (p q:Rat) (w:World) (b:Bool) (H1:QAc w x p) (H2:QAc w y q) (h1:qsz p<=1000) (h2:qsz q<=1000) (hb:decide (p=q)=b):Calls Tryz.prog 4 #[.agg #[.bool x.neg,.slice x.a x.n x.c,.slice x.b x.m x.d],.agg #[.bool y.neg,.slice y.a y.n y.c,.slice y.b y.m y.d]] w fun e w'=>e=.returned (.bool b)/\Below w.heap.size w w':=by
 subst hb;exact eqD_q x y p q 1000 w ⟨H1,h1⟩ ⟨H2,h2⟩ oo
theorem zz80 {P:Prop} (h:P:=by
 go_wp2;refine wrx (S:=Below wr.heap.size wr) [(0,.q),(1,.q),(2,.q),(3,.q),(4,.q),(5,.q),(6,.q),(7,.q),(8,.q),(9,.q),(10,.p)] (s0) ?_
 iterate 10 (refine qaf rfl rfl fun K hK=>xq ?_;go_simp;refine hK _ _ ?_;clear hK K)
 refine qaj rfl rfl fun K hK=>xp ?_;go_simp;refine hK _ _ ?_;clear hK K
 refine qad ?_;clear u0 u3 f0 f1;go_wp2;refine bodyPost_ret (v:=.bool false) (by simp [results,Tryz.results17,go_sem]) rfl ?_;exact ⟨⟨false,rfl,fun h=>by cases h⟩,bth hww2 s0⟩
 ):P:=h
theorem qqx (qs qs':List Rat) (bs bs':List Bool) (a a' b b':Option Addr) (c c' d d':Nat) (w:World) (h1:QsR w a c qs) (h2:QsR w a' c' qs') (h3:BosR w b d bs) (h4:BosR w b' d' bs') (hlq:qs'.length=qs.length) (hlb:bs'.length=bs.length) (hl:qs.length<=1000) (hl2:bs.length<=1000) (hsz:∀ q∈qs,qsz q<=1000) (hsz':∀ q∈qs',qsz q<=1000) :
  Calls Tryz.prog 17 #[.agg #[.slice a qs.length c,.slice b bs.length d,.slice none 0 0],.agg #[.slice a' qs.length c',.slice b' bs.length d',.slice none 0 0]] w fun e w'=>(∃ r,e=.returned (.bool r)/\(r=true->qs=qs'/\bs=bs'))/\Below w.heap.size w w':=by
 have H1:=Hd h1;have H2:=Hd h2;have H3:=Hd h3;have H4:=Hd h4;have HZ:=Hd hsz;have HZ':=Hd hsz';replace hlq:=Hd hlq;replace hlb:=Hd hlb;clear h1 h2 h3 h4 hsz hsz';go_enter Tryz.func17,Tryz.ntmps17;go_wp2;refine qaa (fun W=>Blk W w.heap.size 63 #[.slice a qs.length c,.slice b bs.length d,.slice none 0 0]/\Blk W (w.heap.size+1) 63 #[.slice a' qs.length c',.slice b' bs.length d',.slice none 0 0]/\Below w.heap.size w W) ⟨bk,bk,zg⟩ ?_;rintro w1 ⟨k1,k2,hw1⟩;obtain ⟨x0,x1,x2⟩:=cq3 k1;obtain ⟨y0,y1,y2⟩:=cq3 k2;go_wp2
 go_loopg [5,38] qs.length (fun m _ idx wr=>∃ k:Nat,Hid (k+m=qs.length)/\idx=.int .i64 k/\Below w1.heap.size w1 wr/\Hid (∀ i,i<k->qs[i]? = qs'[i]?))
 case atStart=>exact ⟨0,by show _=_;omega,rfl,Below.refl _ _,fun i hi=>absurd hi oo⟩
 case round =>
  obtain ⟨k,hm,rfl,hwr,hall⟩:=hrel;by_cases hlt:k<qs.length
  ·
   obtain ⟨q,hq⟩:=qab hlt;have hqz:=HZ.out q (List.mem_of_getElem? hq);obtain ⟨q',hq'⟩:=qab (xs:=qs') (k:=k) (by rw [hlq.out];exact hlt);have hqz':=HZ'.out q' (List.mem_of_getElem? hq');have hww:=bth hw1 hwr;obtain ⟨v1,o1,rfl,z1,p0,p1,p2,r1⟩:=(H1.out.ext (xbw hww)).2.2 k q hq;obtain ⟨v2,o2,rfl,z2,p3,p4,p5,r2⟩:=(H2.out.ext (xbw hww)).2.2 k q' hq';have u0:=held p0;have u1:=held p1;have u2:=held p2;have u3:=held p3;have u4:=held p4;have u5:=held p5;have f0:=held ((k1.below' hwr).cell 0);have f1:=held ((k2.below' hwr).cell 0);have s0:Below wr.heap.size wr wr.drew:=brf.drew;have CR:=fun W (hW:Below wr.heap.size wr W)=>qyn z1 q W ⟨r1.1,r1.2.1,r1.2.2.1,r1.2.2.2.1.ext (xbw hW),r1.2.2.2.2.ext (xbw hW)⟩ hqz
   have CE:=fun b (hb:decide (q=q')=b) W (hW:Below wr.heap.size wr W)=>qab8 z1 z2 q q' W b ⟨r1.1,r1.2.1,r1.2.2.1,r1.2.2.2.1.ext (xbw hW),r1.2.2.2.2.ext (xbw hW)⟩ ⟨r2.1,r2.2.1,r2.2.2.1,r2.2.2.2.1.ext (xbw hW),r2.2.2.2.2.ext (xbw hW)⟩ hqz hqz' hb
   replace CR:=Hd CR;replace CE:=Hd CE;replace hq:=Hd hq;replace hq':=Hd hq';replace r1:=Hd r1;replace r2:=Hd r2;have hli:((k:Int)<(qs.length:Int)):=oo
   clear x0 x1 x2 y0 y1 y2 p0 p1 p2 p3 p4 p5 hqz hqz';by_cases hqq:q=q'
   ·
    have hall2:∀ i,i<k+1->qs[i]? = qs'[i]?:=fun i hi=>by
     by_cases hik:i=k
     · subst hik;rw [hq.out,hq'.out,hqq]
     · exact hall.out i oo
    replace hall2:=Hd hall2;replace hqq:=Hd hqq;go_wp2;refine wrx (S:=Below wr.heap.size wr) [(0,.q),(1,.q),(2,.q),(3,.q),(4,.q),(5,.l),(6,.q),(7,.q),(8,.q),(9,.q),(10,.q),(11,.q),(12,.q),(13,.q),(14,.q),(15,.q),(16,.q),(17,.q),(18,.t),(19,.p),(20,.p)] (s0) ?_
    iterate 5 (refine qaf rfl rfl fun K hK=>xq ?_;go_simp;refine hK _ _ ?_;clear hK K)
    refine vl fun K hK=>?_
    go_simp;refine (CR.out _ s0).mono ?_;rintro r w3 ⟨rfl,hb3⟩;dsimp only;refine hK.out _ _ (bth s0 hb3) (fun _=>?_);clear hK K;have s1:=bth s0 hb3
    iterate 12 (refine qaf rfl rfl fun K hK=>xq ?_;go_simp;refine hK _ _ ?_;clear hK K)
    refine vt fun K hK=>?_
    go_simp;refine ((CE.out true (decide_eq_true hqq.out)) _ s1).mono ?_;rintro r w4 ⟨rfl,hb4⟩;dsimp only;refine hK.out _ _ ?_;clear hK K;have s2:=bth s1 hb4;have hnx:=bth hwr s2
    iterate 2 (refine qaj rfl rfl fun K hK=>xp ?_;go_simp;refine hK _ _ ?_;clear hK K)
    refine qad ?_;clear s0 s1 s2 CR CE u0 u1 u2 u3 u4 u5 f0 f1 hb3 hb4;go_wp2;go_roundg (gk-1)
    case rel=>exact ⟨k+1,by have:=hm.out;show _=_;omega,by go_num,hnx,hall2.out⟩
    case measure=>have:=hm.out;omega
   ·
    replace hqq:=Hd hqq;go_wp2;refine wrx (S:=Below wr.heap.size wr) [(0,.q),(1,.q),(2,.q),(3,.q),(4,.q),(5,.l),(6,.q),(7,.q),(8,.q),(9,.q),(10,.q),(11,.q),(12,.q),(13,.q),(14,.q),(15,.q),(16,.q),(17,.q),(18,.t),(19,.p),(20,.p)] (s0) ?_
    iterate 5 (refine qaf rfl rfl fun K hK=>xq ?_;go_simp;refine hK _ _ ?_;clear hK K)
    refine vl fun K hK=>?_
    go_simp;refine (CR.out _ s0).mono ?_;rintro r w3 ⟨rfl,hb3⟩;dsimp only;refine hK.out _ _ (bth s0 hb3) (fun _=>?_);clear hK K;have s1:=bth s0 hb3
    iterate 12 (refine qaf rfl rfl fun K hK=>xq ?_;go_simp;refine hK _ _ ?_;clear hK K)
    refine vt fun K hK=>?_
    go_simp;refine ((CE.out false (decide_eq_false hqq.out)) _ s1).mono ?_;rintro r w4 ⟨rfl,hb4⟩;dsimp only;refine hK.out _ _ ?_;clear hK K;have s2:=bth s1 hb4;have hnx:=bth hwr s2
    iterate 2 (refine qaj rfl rfl fun K hK=>xp ?_;go_simp;refine hK _ _ ?_;clear hK K)
    refine qad ?_;clear s0 s1 s2 CR CE u0 u1 u2 u3 u4 u5 f0 f1 hb3 hb4;go_wp2;refine bodyPost_ret (v:=.bool false) (by simp [results,Tryz.results17,go_sem]) rfl ?_;exact ⟨⟨false,rfl,fun h=>by cases h⟩,bth hw1 hnx⟩
  ·
   have hQQ:qs=qs':=by
    apply List.ext_getElem?;intro i;rcases Nat.lt_or_ge i qs.length with e | e
    · exact hall.out i oo
    · rw [List.getElem?_eq_none e,List.getElem?_eq_none (by rw [hlq.out];exact e)]
   replace hQQ:=Hd hQQ;clear hm hall x0 x1 x2 y0 y1 y2;have k1':=k1.below' hwr;have k2':=k2.below' hwr;obtain ⟨x0,x1,x2⟩:=cq3 k1';obtain ⟨y0,y1,y2⟩:=cq3 k2';have hww:=bth hw1 hwr;obtain ⟨gk0,rfl⟩:∃ n,n=gk:=⟨_,rfl⟩
   obtain ⟨wz,hwz⟩:∃ z:World,z=wr:=⟨_,rfl⟩
   rw [<- hwz] at k1' k2' x0 x1 x2 y0 y1 y2 hww ⊢;clear hwz hwr k1 k2 hw1;go_wp2
   go_loopg [6,66] bs.length (fun m _ idx wr=>∃ k:Nat,Hid (k+m=bs.length)/\idx=.int .i64 k/\Below wz.heap.size wz wr/\Hid (∀ i,i<k->bs[i]? = bs'[i]?))
   case atStart=>exact ⟨0,by show _=_;omega,rfl,Below.refl _ _,fun i hi=>absurd hi oo⟩
   case round =>
    obtain ⟨k,hm,rfl,hwr,hall⟩:=hrel;by_cases hlt:k<bs.length
    ·
     obtain ⟨q,hq⟩:=qab hlt;obtain ⟨q',hq'⟩:=qab (xs:=bs') (k:=k) (by rw [hlb.out];exact hlt);have hww2:=bth hww hwr;obtain ⟨v1,o1,rfl,p0⟩:=(H3.out.ext (xbw hww2)).2.2 k q hq;obtain ⟨v2,o2,rfl,p3⟩:=(H4.out.ext (xbw hww2)).2.2 k q' hq';unfold BoolE at p0 p3;rw [Nat.mul_one] at p0 p3;have u0:=held p0;have u3:=held p3;have f0:=held ((k1'.below' hwr).cell 1);have f1:=held ((k2'.below' hwr).cell 1);have s0:Below wr.heap.size wr wr.drew:=brf.drew;have hli:((k:Int)<(bs.length:Int)):=oo
     replace hq:=Hd hq;replace hq':=Hd hq';clear x0 x1 x2 y0 y1 y2 p0 p3;by_cases hqq:q=q'
     ·
      have hall2:∀ i,i<k+1->bs[i]? = bs'[i]?:=fun i hi=>by
       by_cases hik:i=k
       · subst hik;rw [hq.out,hq'.out,hqq]
       · exact hall.out i oo
      replace hall2:=Hd hall2;subst hqq;go_wp2;refine wrx (S:=Below wr.heap.size wr) [(0,.q),(1,.q),(2,.q),(3,.q),(4,.q),(5,.q),(6,.q),(7,.q),(8,.q),(9,.q),(10,.p)] (s0) ?_
      iterate 10 (refine qaf rfl rfl fun K hK=>xq ?_;go_simp;refine hK _ _ ?_;clear hK K)
      refine qaj rfl rfl fun K hK=>xp ?_;go_simp;refine hK _ _ ?_;clear hK K
      refine qad ?_;clear u0 u3 f0 f1;go_wp2;go_roundg (gk-1)
      case rel=>exact ⟨k+1,by have:=hm.out;show _=_;omega,by go_num,bth hwr s0,hall2.out⟩
      case measure=>have:=hm.out;omega
     ·
      have hqq2:(q=true/\q'=false)\/(q=false/\q'=true):=by cases q <;> cases q' <;> simp_all
      clear hqq;rcases hqq2 with ⟨rfl,rfl⟩ | ⟨rfl,rfl⟩
      ·
       skip
       exact zz80
      ·
       skip
       exact zz80
    ·
     have hBB:bs=bs':=by
      apply List.ext_getElem?;intro i;rcases Nat.lt_or_ge i bs.length with e | e
      · exact hall.out i oo
      · rw [List.getElem?_eq_none e,List.getElem?_eq_none (by rw [hlb.out];exact e)]
     replace hBB:=Hd hBB;clear hm hall x0 x1 x2 y0 y1 y2;have k1'':=k1'.below' hwr;have x2:=k1''.cell 2;have hww2:=bth hww hwr;obtain ⟨gk1,rfl⟩:∃ n,n=gk:=⟨_,rfl⟩
     obtain ⟨wq,hwq⟩:∃ z:World,z=wr:=⟨_,rfl⟩
     rw [<- hwq] at x2 hww2 ⊢;clear hwq hwr k1' k2' hww k1'';go_wp2
     go_loopg [7,8,9,84] 0 (fun m _ _ _ idx wr=>idx=.int .i64 0/\wr=wq)
     case atStart=>exact ⟨rfl,rfl⟩
     case round =>
      obtain ⟨rfl,rfl⟩:=hrel;go_wp2;go_ret;exact ⟨⟨true,rfl,fun _=>⟨hQQ.out,hBB.out⟩⟩,hww2⟩
theorem qsj (qs qs':List Rat) (bs bs':List Bool) (a a' b b':Option Addr) (c c' d d':Nat) (w:World) (h1:QsR w a c qs) (h2:QsR w a' c' qs') (h3:BosR w b d bs) (h4:BosR w b' d' bs') (hlq:qs'.length=qs.length) (hlb:bs'.length=bs.length) (hl:qs.length<=1000) (hl2:bs.length<=1000) (hsz:∀ q∈qs,qsz q<=1000) (hsz':∀ q∈qs',qsz q<=1000) :
  Calls Tryz.prog 8 #[.slice a qs.length c,.slice a' qs.length c',.slice b bs.length d,.slice b' bs.length d'] w fun e w'=>(∃ r,e=.returned (.bool r)/\(r=true->qs=qs'/\bs=bs'))/\Below w.heap.size w w':=by
 have C:=fun W (hW:bw w W)=>qqx qs qs' bs bs' a a' b b' c c' d d' W (h1.ext (xbw hW)) (h2.ext (xbw hW)) (h3.ext (xbw hW)) (h4.ext (xbw hW)) hlq hlb hl hl2 hsz hsz'
 replace C:=Hd C;have l1:=SlR.len h1;have l3:=SlR.len h3;clear h1 h2 h3 h4 hlq hlb hsz hsz';go_enter Tryz.func8,Tryz.ntmps8;go_wp2_with fail;refine qae (fun W=>Below w.heap.size w W) (by go_grown) ?_;intro w0 hw0;refine (C.out w0 hw0).mono ?_;rintro e w1 ⟨⟨r,rfl,hr⟩,hb⟩;have hw1:=bth hw0 hb;replace hr:=Hd hr;go_wp2;go_ret;exact ⟨⟨r,rfl,hr.out⟩,hw1⟩
theorem qae2 (f:Fig) (k:Int) (t:Nat × Nat × Int) (sa:Option Addr) (sc:Nat) (ga:Option Addr) (gc:Nat) (w:World) (hne:t.2.2≠0)
  (C:∀ W,Below w.heap.size w W->Calls Tryz.prog 15 #[f.val sa sc ga gc] W (RetCh t W)) :
  Calls Tryz.prog 7 #[f.val sa sc ga gc,.int .i64 k] w (qrv t.2.2 w):=by
 unfold Fig.val at C ⊢;unfold qrv;have hb:(t.2.2 != 0)=true:=by simpa using hne
 obtain ⟨t1,t2,t3⟩:=t;dsimp only at C hb ⊢;unfold RetCh at C;dsimp only at C;replace C:=Hd C;replace hne:=Hd hne;go_enter Tryz.func7,Tryz.ntmps7;go_wp2_with fail;refine qae (fun W=>Below w.heap.size w W) (by go_grown) ?_;intro w0 hw0;refine (C.out w0 hw0).mono ?_;rintro e w1 ⟨rfl,hb1⟩;have hw1:=bth hw0 hb1;clear hw0 hb1 C;go_wp2;refine bodyPost_ret (v:=.tuple #[.slice none 0 0,.slice none 0 0,.int .i64 t3]) (by simp [results,Tryz.results7,go_sem]) rfl ?_;exact ⟨hw1,rfl⟩
theorem qxu (k i:Nat):k / 2 ^ i / 2=k / 2 ^ (i+1):=by rw [Nat.div_div_eq_div_mul,Nat.pow_succ]
theorem qx6 (M:Nat):(M:Int) / 2=((M / 2:Nat):Int):=by push_cast;rfl
theorem qwx (f:Fig) (k t1 t2:Nat) (sa:Option Addr) (sc:Nat) (ga:Option Addr) (gc:Nat) (w:World) (hk:k<9223372036854775808) (h1:t1<=64) (h2:t2<=100)
  (C:∀ W,Below w.heap.size w W->Calls Tryz.prog 15 #[f.val sa sc ga gc] W (RetCh (t1,t2,0) W)) :
  Calls Tryz.prog 7 #[f.val sa sc ga gc,.int .i64 k] w (qme t1 t2 k w):=by
 unfold Fig.val at C ⊢;unfold qme;unfold RetCh at C;dsimp only at C ⊢;replace C:=Hd C;obtain ⟨BR,hBR⟩:∃ l,l=brN k t2:=⟨_,rfl⟩
 obtain ⟨VA,hVA⟩:∃ l,l=vaN k t2 t1:=⟨_,rfl⟩
 rw [<- hBR,<- hVA];replace hBR:=Hd hBR;replace hVA:=Hd hVA;have HK:=Hd hk;have hk0:¬ ((k:Int)<0):=oo
 clear hk;go_enter Tryz.func7,Tryz.ntmps7;go_wp2_with fail;refine qae (fun W=>Below w.heap.size w W) (by go_grown) ?_;intro w0 hw0;refine (C.out w0 hw0).mono ?_;rintro e w1 ⟨rfl,hb1⟩;have hw1:=bth hw0 hb1;clear hw0 hb1 C;go_wp2
 go_loopg [5,9,24] t2 (fun m br mm idx wr=>∃ (i M:Nat) (b:Option Addr) (d:Nat),Hid (i+m=t2)/\br=.slice b i d/\mm=.int .i64 M/\Hid (M=k / 2 ^ i)/\idx=.int .i64 i/\Hid (OwnB w.heap.size wr b d (BR.take i))/\Hid (Below w.heap.size w wr))
 case atStart=>exact ⟨0,k,none,0,by show _=_;omega,rfl,rfl,by show _=_;simp,rfl,Own.nil,hw1⟩
 case round =>
  obtain ⟨i,M,b,d,hm,rfl,rfl,hM,rfl,hO,hwr⟩:=hrel;have hMk:M<9223372036854775808:=by rw [hM.out];have:=Nat.div_le_self k (2 ^ i);have:=HK.out;omega
  by_cases hlt:i<t2
  ·
   have hi:=hm.out;have eb:bits .and .i64 (M:Int) 1=((M % 2:Nat):Int):=qpy M hMk;have hlen2:(BR.take i).length=i:=by rw [List.length_take,hBR.out,qgb];omega
   have hbr:BR.take (i+1)=BR.take i++[decide (M % 2=1)]:=by rw [hBR.out,hM.out];exact qxx hlt
   have hMn:((M:Int) / 2)=((k / 2 ^ (i+1):Nat):Int):=by rw [qx6,hM.out,qxu]
   have hbe:((M % 2:Nat):Int)=1↔M % 2=1:=oo
   replace hlen2:=Hd hlen2;replace hbr:=Hd hbr;replace hMn:=Hd hMn;replace hbe:=Hd hbe;replace hMk:=Hd hMk;have hdx:(bits .and .i64 (M:Int) 1==1)=decide (M % 2=1):=by rw [eb,Bool.eq_iff_iff];simp;omega
   replace hdx:=Hd hdx;clear eb
   go_wp2_with (at_builtin;go_must (refine qaa (fun W=>Blk W wr.heap.size 4 #[.bool (bits .and .i64 (M:Int) 1==1)]/\Below wr.heap.size wr W) ⟨bk,zg⟩ ?_);rintro w2 ⟨hr,hb2⟩;have hO2:=hO.out.below hb2;go_must (refine qay (B:=w.heap.size) rfl (.tmp 26) (.tmp 30) 45 rfl Tryz.underlying45 qad3 rfl oo oo qrw b d (by rw [hlen2.out];rfl) hO2 (decide (M % 2=1)) (qzv _) wr.heap.size 1 rfl (fun j u hu=>by have e:=hr.cell j;rw [e,hdx.out];simpa [boC] using hu) (BR.take i++[decide (M % 2=1)]) rfl (by rw [List.length_append,hlen2.out];simp;omega) (by have:=hwr.out.size;have:=hb2.size;omega) ?_);intro a3 c3 w3 ho3 hg3 ha3;have hb3:=qal (bth hwr.out hb2) hO2 hg3;replace hO2:=Hd hO2;replace ho3:=Hd ho3;replace hb3:=Hd hb3;clear hr hb2 hg3 ha3)
   have hmin:(BR.take i++[decide (M % 2=1)]).length=i+1:=by rw [List.length_append,hlen2.out];rfl
   go_roundg (gk-1)
   case rel=>exact ⟨i+1,k / 2 ^ (i+1),a3,c3,by have:=hm.out;show _=_;omega,by first | rfl | (congr 1;simpa using hmin),congrArg _ hMn.out,rfl,by go_num,by have e:=ho3.out;rw [<- hbr.out] at e;exact e,hb3⟩
   case measure=>have:=hm.out;omega
  ·
   have hi:i=t2:=by have:=hm.out;omega
   rw [hi] at hM;subst i;rw [List.take_of_length_le (by rw [hBR.out,qgb];omega)] at hO;have hM2:=hM.out;have hMk2:=Hd hMk;replace hM2:=Hd hM2;clear hM hMk;go_wp2;replace hO:=Hd hO;replace hwr:=Hd hwr;clear hm;obtain ⟨gk0,rfl⟩:∃ n,n=gk:=⟨_,rfl⟩
   obtain ⟨wz,hwz⟩:∃ z:World,z=wr:=⟨_,rfl⟩
   rw [<- hwz];replace hO:Hid (OwnB w.heap.size wz b d BR):=by rw [hwz];exact hO
   replace hwr:Hid (Below w.heap.size w wz):=by rw [hwz];exact hwr
   clear hwz
   go_loopg [4,10,36] t1 (fun m vs _ idx wr=>∃ (j:Nat) (a:Option Addr) (c:Nat) (hs:List QA),Hid (j+m=t1)/\vs=.slice a j c/\idx=.int .i64 j/\Hid (OwnQ w.heap.size wr a c hs)/\Hid (AllQ (Xr (fun _=>False) a) wr hs (VA.take j))/\Hid (OwnB w.heap.size wr b d BR)/\Hid (Below w.heap.size w wr))
   case atStart=>exact ⟨0,none,0,[],by show _=_;omega,rfl,rfl,Own.nil,AllQ.nil,hO.out,hwr.out⟩
   case round =>
    clear hO hwr;obtain ⟨j,a,c,hs,hm,rfl,rfl,hQ,hA,hO,hwr⟩:=hrel;have hvl:VA.length=t1:=by rw [hVA.out,qhh]
    have hsl:hs.length=j:=by rw [hA.out.1,List.length_take,hvl];have:=hm.out;omega
    replace hvl:=Hd hvl;replace hsl:=Hd hsl;by_cases hlt:j<t1
    ·
     have ht0:0<t1:=oo
     have hDl:=qj1 k t1 ht0 63 (t2+j);have hp63:(2:Nat) ^ (63-(t2+j))<=2 ^ 63:=Nat.pow_le_pow_right oo oo;have hva:=ql2 (k:=k) (c:=t2) hlt;rw [<- hVA.out] at hva;have CE:=qwb M j t1 wr hMk2.out ht0 oo oo;rw [show dealN M t1 63 j=dealN k t1 63 (t2+j) by rw [hM2.out];exact qlp (by have:=HK.out;omega) t2 t1 63 j] at CE;revert hDl hva CE;generalize dealN k t1 63 (t2+j)=D;intro hDl hva CE;have hD63:D<2 ^ 63:=ltl hDl hp63;have hxl:D ^^^ (j+1)<2 ^ 63:=Nat.xor_lt_two_pow hD63 oo;have hxor:bits .xor .i64 (D:Int) ((j:Int)+1)=((D ^^^ (j+1):Nat):Int):=by
      rw [show ((j:Int)+1)=((j+1:Nat):Int) by push_cast;rfl];exact qqu D (j+1) oo oo
     revert hva hxl hxor;generalize D ^^^ (j+1)=z;intro hva hxl hxor;have hzi:InInt (z:Int):=⟨oo,oo⟩
     have hsz:=qjh hzi;have CV:=fun W=>(qir (z:Int) W hzi)
     rw [qen] at CV;revert hva hsz CV;generalize valR (z:Int)=q;intro hva hsz CV;have htk:VA.take (j+1)=VA.take j++[q]:=qbb hva;replace CV:=Hd CV;replace CE:=Hd CE;replace hsz:=Hd hsz;replace htk:=Hd htk;clear hDl hp63 hD63 hxl hva hzi;go_wp2_with fail;refine CE.out.mono ?_;rintro e w2 ⟨rfl,hb2⟩;clear CE;go_wp2_with fail;refine (CV.out w2).mono ?_;intro e w3 hret;obtain ⟨x,rfl,HK3,hb3⟩:=qdl (k:=5) hsz.out hret;have hb23:=bth hb2 hb3;have hwy3:=bth hwr.out hb23;have hQ3:=hQ.out.below hb23;have hA3:=hA.out.call hb23;have hO3:=hO.out.below hb23;have hx3:Rd (Xr (fun _=>False) a) w3 fun V=>QAc V x q:=Rd.kp (HK3.imp fun V h=>h.1) fun b hb=>by
      rcases hb with hb | ⟨g,hg,rfl⟩
      · exact hb.elim
      ·
       have:=(hQ.out.lt hg).2;have:=hb2.size;exact .inl oo
     replace hQ3:=Hd hQ3;replace hA3:=Hd hA3;replace hO3:=Hd hO3;replace hx3:=Hd hx3;replace hwy3:=Hd hwy3;clear CV HK3 hb2 hb3 hb23 hret hQ hA hO hwr hxor
     go_wp2_with (at_builtin;go_must (refine qaa (fun W=>Blk W w3.heap.size 32 #[.bool x.neg,.slice x.a x.n x.c,.slice x.b x.m x.d]/\Below w3.heap.size w3 W) ⟨bk,zg⟩ ?_);rintro w4 ⟨hr,hb4⟩;have hQ4:=hQ3.out.below hb4;go_must (refine qay (B:=w.heap.size) rfl (.tmp 39) (.tmp 48) 44 rfl Tryz.underlying44 qaa8 rfl oo oo qrx a c (by rw [hsl.out];rfl) hQ4 x (qzj _) w3.heap.size 1 rfl (fun j u hu=>by have e:=hr.cell j;rw [e];simpa [qaC] using hu) (hs++[x]) rfl (by rw [List.length_append,hsl.out];simp;omega) (by have:=hwy3.out.size;have:=hb4.size;omega) ?_);intro a5 c5 w5 ho5 hg5 ha5;have hb5:=qal (bth hwy3.out hb4) hQ4 hg5;have hA5:=(hA3.out.call hb4).push (hx3.out.call hb4) (fun R h=>h.app hg5 ha5);have hO5:=(hO3.out.below hb4).grown hg5 (fun g hg e=>by (cases hv:a with | none=>(rw [hv] at e;simp [Value.ownBlock] at e) | some g'=>(rw [hv] at e;simp [Value.ownBlock] at e;exact qfp hQ4 (hO3.out.below hb4) dd g' g hv hg e)));replace ho5:=Hd ho5;replace hb5:=Hd hb5;replace hA5:=Hd hA5;replace hO5:=Hd hO5;clear hr hb4 hg5 ha5 hQ4)
     have hln:(hs++[x]).length=j+1:=by rw [List.length_append,hsl.out];rfl
     go_roundg (gk-1)
     case rel=>exact ⟨j+1,a5,c5,hs++[x],by have:=hm.out;show _=_;omega,by first | rfl | (congr 1;simpa using hln),by go_num,ho5.out,by have e:=hA5.out;rw [<- htk.out] at e;exact e,hO5.out,hb5.out⟩
     case measure=>have:=hm.out;omega
    ·
     have hj:j=t1:=by have:=hm.out;omega
     have hA2:=hA.out;rw [List.take_of_length_le (by rw [hvl.out];omega)] at hA2;subst hj;replace hA2:=Hd hA2;clear hA hm;go_wp2;refine bodyPost_ret (v:=.tuple #[.slice a j c,.slice b t2 d,.int .i64 0]) (by simp [results,Tryz.results7,go_sem]) rfl ?_;exact ⟨hwr.out,a,c,b,d,rfl,hQ.out.qs hA2.out,hO.out.bos⟩
theorem qw0 (j:Nat):Nat.gcd (sb j).1 (sb j).2=1:=by
 induction j using Nat.strongRecOn with
 | _ j ih =>
  by_cases h:j<=1
  · rw [qiz h];rfl
  ·
   have h1:=ih (j / 2) oo;by_cases ho:j % 2=1
   · rw [qew oo ho];dsimp only;rw [Nat.gcd_add_self_left];exact h1
   · rw [qd8 oo oo];dsimp only;rw [Nat.gcd_self_add_right];exact h1
theorem qvm {i:Nat}:∀ {j:Nat},1<=i->1<=j->sb i=sb j->i=j:=by
 induction i using Nat.strongRecOn with
 | _ i ih =>
  intro j hi hj h;have pi:=qe5 (i / 2);have pj:=qe5 (j / 2);by_cases h1:i<=1
  ·
   by_cases h2:j<=1
   · omega
   ·
    exfalso;rw [qiz h1] at h;by_cases ho:j % 2=1
    · rw [qew oo ho,Prod.mk.injEq] at h;omega
    · rw [qd8 (j:=j) oo oo,Prod.mk.injEq] at h;omega
  ·
   by_cases h2:j<=1
   ·
    exfalso;rw [qiz h2] at h;by_cases ho:i % 2=1
    · rw [qew oo ho,Prod.mk.injEq] at h;omega
    · rw [qd8 (j:=i) oo oo,Prod.mk.injEq] at h;omega
   ·
    by_cases ho:i % 2=1
    ·
     by_cases hp:j % 2=1
     ·
      rw [qew oo ho,qew oo hp,Prod.mk.injEq] at h;have:=ih (i / 2) oo (j:=j / 2) oo oo (Prod.ext oo oo)
      omega
     ·
      exfalso;rw [qew oo ho,qd8 (j:=j) oo oo,Prod.mk.injEq] at h;omega
    ·
     by_cases hp:j % 2=1
     ·
      exfalso;rw [qd8 (j:=i) oo oo,qew oo hp,Prod.mk.injEq] at h;omega
     ·
      rw [qd8 (j:=i) oo oo,qd8 (j:=j) oo oo,Prod.mk.injEq] at h;have:=ih (i / 2) oo (j:=j / 2) oo oo (Prod.ext oo oo)
      omega
theorem qq7 (j:Nat):posQ j=(false,(sb j).1,(sb j).2):=by
 have h:=qe5 j;exact qet oo oo (qw0 j)
theorem qz0 (j:Nat):negQ (posQ j)=(true,(sb j).1,(sb j).2):=by
 have h:=qe5 j;rw [qq7]
 show qak true (sb j).1 (sb j).2=_
 exact qet oo oo (qw0 j)
theorem qyp {i j:Nat} (h:valQ (i:Int)=valQ (j:Int)):i=j:=by
 have z:qak false 0 1=(false,0,1):=qjt _ oo;unfold valQ at h;simp only [Int.toNat_natCast,qz0] at h;simp only [qq7,z] at h;have p1:=qe5 (i / 2+1);have p2:=qe5 (i / 2);have p3:=qe5 (j / 2+1);have p4:=qe5 (j / 2);by_cases hi:(i:Int)<=0
 ·
  rw [if_pos hi] at h;by_cases hj:(j:Int)<=0
  · omega
  ·
   rw [if_neg hj] at h
   split at h
   · simp only [Prod.mk.injEq] at h;omega
   · simp at h
 ·
  rw [if_neg hi] at h;by_cases hj:(j:Int)<=0
  ·
   rw [if_pos hj] at h
   split at h
   · simp only [Prod.mk.injEq] at h;omega
   · simp at h
  ·
   rw [if_neg hj] at h
   split at h <;> split at h
   ·
    simp only [Prod.mk.injEq,true_and] at h;have:=qvm oo oo (Prod.ext h.1 h.2)
    omega
   · simp at h
   · simp at h
   ·
    simp only [Prod.mk.injEq,true_and] at h;have:=qvm oo oo (Prod.ext h.1 h.2)
    omega
theorem qod {i j:Nat} (h:valR (i:Int)=valR (j:Int)):i=j:=qyp (by rw [qen,qen,h])
theorem qm8 {k l s:Nat} (hs:0<s):∀ (n i:Nat),dealN k s 63 i=dealN l s 63 i->i+n*s<63->k / 2 ^ (i+n*s) % 2=l / 2 ^ (i+n*s) % 2
 | 0,i,h,hi=>by
  rw [qes k s hs oo,qes l s hs oo] at h;rw [Nat.zero_mul,Nat.add_zero]
  omega
 | n+1,i,h,hi=>by
  have hm:(n+1)*s=n*s+s:=Nat.succ_mul n s;rw [qes k s hs oo,qes l s hs oo] at h;have:=qm8 (k:=k) (l:=l) hs n (i+s) oo oo
  rwa [show i+(n+1)*s=i+s+n*s by omega]
theorem qya {j k c p:Nat} (hj:j<2 ^ 63) (hk:k<2 ^ 63) (hp:0<p) (hb:brN j c=brN k c) (hv:vaN j c p=vaN k c p):j=k:=by
 have hd:∀ i,i<p->dealN j p 63 (c+i)=dealN k p 63 (c+i):=fun i hi=>by
  have h1:=ql2 (k:=j) (c:=c) hi;rw [hv,ql2 hi] at h1;have h2:=qod (Option.some.inj h1);have h3:=congrArg (· ^^^ (i+1)) h2;simp only [Nat.xor_assoc,Nat.xor_self,Nat.xor_zero] at h3;exact h3.symm
 have hbit:∀ i,i<63->j / 2 ^ i % 2=k / 2 ^ i % 2:=fun i hi=>by
  rcases Nat.lt_or_ge i c with h | h
  ·
   have h1:(brN j c)[i]? = (brN k c)[i]?:=by rw [hb]
   unfold brN at h1;rw [List.getElem?_map,List.getElem?_map,List.getElem?_range h] at h1;simp only [Option.map_some,Option.some.injEq,decide_eq_decide] at h1
   omega
  ·
   have hm:=Nat.mod_lt (i-c) hp;have hq:=Nat.div_add_mod (i-c) p;have:=qm8 (k:=j) (l:=k) hp ((i-c) / p) (c+(i-c) % p) (hd _ hm);rw [Nat.mul_comm] at this;rw [show c+(i-c) % p+p*((i-c) / p)=i by omega] at this;exact this hi
 apply Nat.eq_of_testBit_eq;intro i;rw [Nat.testBit_eq_decide_div_mod_eq,Nat.testBit_eq_decide_div_mod_eq];rcases Nat.lt_or_ge i 63 with h | h
 · rw [hbit i h]
 · rw [qma hj h,qma hk h]
end Go.Proofs.YtmdlbpibipnapaaGreat
namespace Go.Proofs.YtmdlbpibipnapaaGreat
open Go.ChangeShapes Go.WideShapes Go.ChangeAt Go.RowKit
theorem len2 {α:Type} {l:List α} (h:l.length=2):∃ x0 x1,l=[x0,x1]:=by
 match l,h with
 | [x0,x1],_=>exact ⟨x0,x1,rfl⟩
theorem len3 {α:Type} {l:List α} (h:l.length=3):∃ x0 x1 x2,l=[x0,x1,x2]:=by
 match l,h with
 | [x0,x1,x2],_=>exact ⟨x0,x1,x2,rfl⟩
theorem len4 {α:Type} {l:List α} (h:l.length=4):∃ x0 x1 x2 x3,l=[x0,x1,x2,x3]:=by
 match l,h with
 | [x0,x1,x2,x3],_=>exact ⟨x0,x1,x2,x3,rfl⟩
theorem len5 {α:Type} {l:List α} (h:l.length=5):∃ x0 x1 x2 x3 x4,l=[x0,x1,x2,x3,x4]:=by
 match l,h with
 | [x0,x1,x2,x3,x4],_=>exact ⟨x0,x1,x2,x3,x4,rfl⟩
theorem len6 {α:Type} {l:List α} (h:l.length=6):∃ x0 x1 x2 x3 x4 x5,l=[x0,x1,x2,x3,x4,x5]:=by
 match l,h with
 | [x0,x1,x2,x3,x4,x5],_=>exact ⟨x0,x1,x2,x3,x4,x5,rfl⟩
theorem qql {α β:Type} {p:Nat->β->α->Prop} (l:List β) (h:∀ i y,l[i]? = some y->∃ z,p i y z) :
  ∃ zs:List α,zs.length=l.length/\∀ (i:Nat) (z:α),zs[i]? = some z->∃ y,l[i]? = some y/\p i y z:=by
 induction l generalizing p with
 | nil=>exact ⟨[],rfl,fun i z hz=>by simp at hz⟩
 | cons x l ih =>
  obtain ⟨z0,h0⟩:=h 0 x rfl;obtain ⟨zs,hl,hz⟩:=ih (p:=fun i=>p (i+1)) (fun i y hy=>h (i+1) y (by simpa using hy));refine ⟨z0 :: zs,by simp [hl],fun i z hi=>?_⟩
  cases i with
  | zero=>simp at hi;subst hi;exact ⟨x,rfl,h0⟩
  | succ i=>simpa using hz i z (by simpa using hi)
theorem qjp {H α:Type} (size:α->Nat):∀ (ds:List (DataW H)) (zs:List α),zs.length=ds.length->(∀ (i:Nat) (z:α) (d:DataW H),zs[i]? = some z->ds[i]? = some d->size z<=Rows.uptoBulk d) ->
  (zs.map size).sum<=Rows.uptoBulkAll ds
 | [],zs,hl,_=>by
  have:zs=[]:=List.eq_nil_of_length_eq_zero (by simpa using hl);subst this;simp
 | d :: ds,[],hl,_=>by simp at hl
 | d :: ds,z :: zs,hl,h=>by
  have h0:=h 0 z d rfl rfl;have h1:=qjp size ds zs (by simpa using hl) (fun i z d hz hd=>h (i+1) z d (by simpa using hz) (by simpa using hd));simp only [List.map_cons,List.sum_cons,Rows.uptoBulkAll]
  omega
section
variable {H : Type} {enc : TypeId × Value -> H} {P : Program} {W : World} {sp : Nat -> Bool} {held : Bool}
theorem qjb {t e:TypeId} {sz fuel:Nat} {cs:List Value} {x:DataW H × List MemPlace} (ht:P.underlying t=some (.slice e)) (hc:P.cellsOf e=sz) (hs:0<sz)
  (h:DataW.trod enc P W 0 sp held fuel t cs=some x) {α:Type} (E:World->Nat->Nat->α->Prop) (size:α->Nat)
  (conv:∀ n cs' y b o,n<fuel->DataW.trod enc P W 0 sp held n e cs'=some y->cs'.length=sz->(∀ j,j<sz->W.cell? ⟨b,o+j,none⟩=cs'[j]?)->∃ z,E W b o z/\size z<=Rows.uptoBulk y.1) :
  ∃ (a:Option Addr) (cap:Nat) (zs:List α),cs=[.slice a zs.length cap]/\SlR sz E W a cap zs/\(zs.map size).sum+1<=Rows.uptoBulk x.1:=by
 rcases DataW.trod_slice ht h with ⟨rfl,rfl⟩ | ⟨a,len,cap,elems,rest,n,hn,rfl,rfl,_,hl,hm,hlen,hel,_,_⟩
 · exact ⟨none,0,[],rfl,SlR.nil,by simp [Rows.uptoBulk]⟩
 ·
  rw [hc] at hel;have key:∀ i y,elems[i]? = some y->∃ z,(∃ b off,a=⟨b,off,none⟩/\E W b (off+i*sz) z)/\size z<=Rows.uptoBulk y.1:=by
   intro i y hy;have hi:i<len:=by rw [<- hlen];exact qai hy
   have h1:=hel i hi;rw [hy] at h1;obtain ⟨cs',hcs,hty⟩:=Option.bind_eq_some_iff.1 h1;obtain ⟨_,hl',hcell⟩:=World.cells?_some hcs;have hspot:∃ b off,a=⟨b,off,none⟩:=by
    have h0:=hcell 0 hs;rw [List.getElem?_eq_getElem oo] at h0;have:=World.cell?_spot h0;obtain ⟨b,off,spot⟩:=a;by_cases hi0:i*sz=0
    ·
     simp [Addr.add,hi0] at this;subst this;exact ⟨b,off,rfl⟩
    ·
     have h2:=hel 0 oo;obtain ⟨y0,hy0⟩:=qab (xs:=elems) (k:=0) oo;rw [hy0] at h2;obtain ⟨cs0,hcs0,_⟩:=Option.bind_eq_some_iff.1 h2;obtain ⟨_,hl0,hcell0⟩:=World.cells?_some hcs0;have h3:=hcell0 0 hs;rw [List.getElem?_eq_getElem oo] at h3;have:=World.cell?_spot h3;simp [Addr.add] at this;subst this;exact ⟨b,off,rfl⟩
   obtain ⟨b,off,rfl⟩:=hspot;obtain ⟨z,hz,hsz⟩:=conv n cs' y b (off+i*sz) oo hty hl' (fun j hj=>by
    rw [<- hcell j hj,add_plain,add_plain])
   exact ⟨z,⟨b,off,rfl,hz⟩,hsz⟩
  obtain ⟨zs,hzl,hz⟩:=qql (p:=fun i y z=>(∃ b off,a=⟨b,off,none⟩/\E W b (off+i*sz) z)/\size z<=Rows.uptoBulk y.1) elems key;refine ⟨some a,cap,zs,by rw [hzl,hlen],⟨oo,hm,fun k z hk=>?_⟩,?_⟩
  ·
   obtain ⟨y,hy,⟨b,off,rfl,he⟩,_⟩:=hz k z hk;exact ⟨b,off,rfl,he⟩
  ·
   have h1:=qjp size (elems.map (·.1)) zs (by simpa using hzl) (fun i z d hzi hd=>by
    obtain ⟨y,hy,_,hs⟩:=hz i z hzi;rw [List.getElem?_map,hy] at hd;simp at hd;subst hd;exact hs)
   simp only [Rows.uptoBulk]
   omega
end
theorem qoj {H:Type} {enc:TypeId × Value->H} {P:Program} {W:World} {sp:Nat->Bool} {held:Bool} {e:TypeId} {k:IntKind} (he:P.underlying e=some (.int k)) (n:Nat) (cs':List Value) (y:DataW H × List MemPlace) (b o:Nat)
  (h:DataW.trod enc P W 0 sp held n e cs'=some y) (hc:∀ j,j<1->W.cell? ⟨b,o+j,none⟩=cs'[j]?):∃ z,IntE k W b o z/\1<=Rows.uptoBulk y.1:=by
 obtain ⟨z,rfl,rfl,hw⟩:=DataW.trod_int he h;exact ⟨z,⟨by have:=hc 0 oo;simpa using this,hw⟩,by simp [Rows.uptoBulk]⟩
end Go.Proofs.YtmdlbpibipnapaaGreat
namespace Go.Proofs.YtmdlbpibipnapaaGreat
open Go.ChangeShapes Go.WideShapes Go.ChangeAt Go.RowKit
theorem qkb:Tryz.prog.cellsOf 32=3:=by kernel_rfl
theorem qpn:Tryz.prog.cellsOf 30=2:=by kernel_rfl
theorem qpq:Tryz.prog.cellsOf 28=1:=by kernel_rfl
theorem qac9:Tryz.prog.cellsOf 4=1:=by kernel_rfl
theorem qyy:Tryz.prog.cellsOf 105=1:=by kernel_rfl
theorem qij {α:Type} (l:List α):(l.map fun _=>1).sum=l.length:=by induction l with
 | nil=>rfl
 | cons x l ih=>simp only [List.map_cons,List.sum_cons,ih,List.length_cons];omega
section
variable {H : Type} {enc : TypeId × Value -> H} {W : World} {sp : Nat -> Bool} {held : Bool} {n : Nat}
theorem qoe {cs:List Value} {y:DataW H × List MemPlace} (h:DataW.trod enc Tryz.prog W 0 sp held n 28 cs=some y) :
  ∃ a c zs,cs=[.slice a (List.length zs) c]/\NatR W a c zs/\zs.length+1<=Rows.uptoBulk y.1:=by
 obtain ⟨a,c,zs,h1,h2,h3⟩:=qjb Tryz.underlying28 qyy oo h (IntE .u16) (fun _=>1) (fun m cs' y b o _ ht _ hc=>qoj Tryz.underlying105 m cs' y b o ht hc);rw [qij] at h3;exact ⟨a,c,zs,h1,h2,h3⟩
theorem qr5 {cs:List Value} {y:DataW H × List MemPlace} (h:DataW.trod enc Tryz.prog W 0 sp held n 30 cs=some y) :
  ∃ b a c zs,cs=[.bool b,.slice a (List.length zs) c]/\NatR W a c zs/\zs.length+2<=Rows.uptoBulk y.1:=by
 obtain ⟨xs,m,rfl,rfl,hcl,hxl,hf⟩:=DataW.trod_struct Tryz.underlying30 h;rw [qpn] at hcl;obtain ⟨c0,c1,rfl⟩:=len2 hcl;obtain ⟨y0,y1,rfl⟩:=len2 (show xs.length=2 from hxl)
 ·
  have h0:=hf 0 _ rfl;have h1:=hf 1 _ rfl;simp [qac9,qpq] at h0 h1;obtain ⟨b,e0,rfl⟩:=DataW.trod_bool Tryz.underlying4 h0;obtain ⟨a,c,zs,e1,h2,h3⟩:=qoe h1;simp at e0 e1;subst e0;subst e1;refine ⟨b,a,c,zs,rfl,h2,?_⟩;simp [Rows.uptoBulk,Rows.uptoBulkAll] at h3 ⊢
  omega
theorem qnw {cs:List Value} {y:DataW H × List MemPlace} (h:DataW.trod enc Tryz.prog W 0 sp held n 32 cs=some y) :
  ∃ b na nc num da dc den,cs=[.bool b,.slice na (List.length num) nc,.slice da (List.length den) dc]/\NatR W na nc num/\NatR W da dc den/\num.length+den.length+2<=Rows.uptoBulk y.1:=by
 obtain ⟨xs,m,rfl,rfl,hcl,hxl,hf⟩:=DataW.trod_struct Tryz.underlying32 h;rw [qkb] at hcl;obtain ⟨c0,c1,c2,rfl⟩:=len3 hcl;obtain ⟨y0,y1,rfl⟩:=len2 (show xs.length=2 from hxl)
 ·
  have h0:=hf 0 _ rfl;have h1:=hf 1 _ rfl;simp [qpn,qpq] at h0 h1;obtain ⟨b,na,nc,num,e0,h2,h3⟩:=qr5 h0;obtain ⟨da,dc,den,e1,h4,h5⟩:=qoe h1;simp at e0 e1;obtain ⟨rfl,rfl⟩:=e0;subst e1;refine ⟨b,na,nc,num,da,dc,den,rfl,h2,h4,?_⟩;simp [Rows.uptoBulk,Rows.uptoBulkAll] at h3 h5 ⊢
  omega
end
end Go.Proofs.YtmdlbpibipnapaaGreat
namespace Go.Proofs.YtmdlbpibipnapaaGreat
open Go.ChangeShapes Go.WideShapes Go.ChangeAt Go.RowKit
theorem qnc:Tryz.prog.cellsOf 86=1:=by kernel_rfl
theorem qow:Tryz.prog.cellsOf 3=1:=by kernel_rfl
theorem qab3:Tryz.prog.cellsOf 9=1:=by kernel_rfl
section
variable {H : Type} {enc : TypeId × Value -> H} {W : World} {sp : Nat -> Bool} {held : Bool} {n : Nat}
theorem qkw {cs:List Value} {y:DataW H × List MemPlace} (h:DataW.trod enc Tryz.prog W 0 sp held n 86 cs=some y) :
  ∃ a c zs,cs=[.slice a (List.length zs) c]/\IntsR W a c zs/\zs.length+1<=Rows.uptoBulk y.1:=by
 obtain ⟨a,c,zs,h1,h2,h3⟩:=qjb Tryz.underlying86 qow oo h (IntE .i64) (fun _=>1) (fun m cs' y b o _ ht _ hc=>qoj Tryz.underlying3 m cs' y b o ht hc);rw [qij] at h3;exact ⟨a,c,zs,h1,h2,h3⟩
end
end Go.Proofs.YtmdlbpibipnapaaGreat
namespace Go.Proofs.YtmdlbpibipnapaaGreat
open Go.ChangeShapes Go.WideShapes Go.ChangeAt Go.RowKit
def Rt.weight (r:Rt):Nat:=r.num.length+r.den.length
def Step.weight (s:Step):Nat:=s.point.size+s.args.length+s.ratio.weight+1
def Fct.weight (s:Fct):Nat:=s.args.length+s.ratio.weight+1
def Fig.weight (f:Fig):Nat:=(f.steps.map Step.weight).sum+(f.goals.map Fct.weight).sum
theorem qla {α:Type} (g:α->Nat) {l:List α} {x:α} (h:x∈l):g x<=(l.map g).sum:=by
 induction l with
 | nil=>cases h
 | cons y l ih =>
  simp only [List.map_cons,List.sum_cons];rcases List.mem_cons.1 h with rfl | h
  · omega
  · have:=ih h;omega
theorem Fig.few_of {f:Fig} (h:f.weight<=2000000):f.few:=by
 unfold Fig.weight at h;refine ⟨fun s hs=>?_,fun s hs=>?_⟩
 ·
  have h1:=qla Step.weight hs;have h2:s.weight=s.point.size+s.args.length+(s.ratio.num.length+s.ratio.den.length)+1:=rfl
  constructor <;> omega
 ·
  have h1:=qla Fct.weight hs;have h2:s.weight=s.args.length+(s.ratio.num.length+s.ratio.den.length)+1:=rfl
  constructor <;> omega
theorem qmz:Tryz.prog.cellsOf 93=6:=by kernel_rfl
theorem qo0:Tryz.prog.cellsOf 91=5:=by kernel_rfl
theorem qxs:Tryz.prog.cellsOf 25=2:=by kernel_rfl
theorem qsu:Tryz.prog.cellsOf 22=1:=by kernel_rfl
theorem quc:Tryz.prog.cellsOf 23=1:=by kernel_rfl
section
variable {H : Type} {enc : TypeId × Value -> H} {W : World} {sp : Nat -> Bool} {held : Bool}
theorem qs4 {n:Nat} {cs:List Value} {y:DataW H × List MemPlace} (h:DataW.trod enc Tryz.prog W 0 sp held n 93 cs=some y) :
  ∃ (s:Step) (p:RA),cs=[.int .i64 s.kind,.string s.point,.slice p.aa s.args.length p.ac,.bool s.ratio.neg,.slice p.na s.ratio.num.length p.nc,.slice p.da s.ratio.den.length p.dc]/\qci W p s.args s.ratio/\InInt s.kind/\s.point.size<=9223372036854775807/\s.weight<=Rows.uptoBulk y.1:=by
 obtain ⟨xs,m,rfl,rfl,hcl,hxl,hf⟩:=DataW.trod_struct Tryz.underlying93 h;rw [qmz] at hcl;obtain ⟨c0,c1,c2,c3,c4,c5,rfl⟩:=len6 hcl;obtain ⟨y0,y1,y2,y3,rfl⟩:=len4 (show xs.length=4 from hxl)
 ·
  have h0:=hf 0 _ rfl;have h1:=hf 1 _ rfl;have h2:=hf 2 _ rfl;have h3:=hf 3 _ rfl;simp [qow,qab3,qnc,qkb] at h0 h1 h2 h3;obtain ⟨kind,e0,rfl,w0⟩:=DataW.trod_int Tryz.underlying3 h0;obtain ⟨point,e1,rfl,w1⟩:=DataW.trod_string Tryz.underlying9 h1;obtain ⟨aa,ac,args,e2,r2,w2⟩:=qkw h2;obtain ⟨neg,na,nc,num,da,dc,den,e3,r3,r4,w3⟩:=qnw h3;simp at e0 e1 e2 e3;obtain ⟨rfl,rfl,rfl⟩:=e3;subst e0 e1 e2;refine ⟨⟨kind,point,args,⟨neg,num,den⟩⟩,⟨aa,ac,na,nc,da,dc⟩,rfl,⟨r2,r3,r4⟩,qdy w0,w1,?_⟩;simp [Rows.uptoBulk,Rows.uptoBulkAll,Step.weight,Rt.weight] at w2 w3 ⊢;have:point.data.size=point.size:=rfl
  omega
theorem qt2 {n:Nat} {cs:List Value} {y:DataW H × List MemPlace} (h:DataW.trod enc Tryz.prog W 0 sp held n 91 cs=some y) :
  ∃ (s:Fct) (p:RA),cs=[.int .i64 s.kind,.slice p.aa s.args.length p.ac,.bool s.ratio.neg,.slice p.na s.ratio.num.length p.nc,.slice p.da s.ratio.den.length p.dc]/\qci W p s.args s.ratio/\InInt s.kind/\s.weight<=Rows.uptoBulk y.1:=by
 obtain ⟨xs,m,rfl,rfl,hcl,hxl,hf⟩:=DataW.trod_struct Tryz.underlying91 h;rw [qo0] at hcl;obtain ⟨c0,c2,c3,c4,c5,rfl⟩:=len5 hcl;obtain ⟨y0,y2,y3,rfl⟩:=len3 (show xs.length=3 from hxl)
 ·
  have h0:=hf 0 _ rfl;have h2:=hf 1 _ rfl;have h3:=hf 2 _ rfl;simp [qow,qnc,qkb] at h0 h2 h3;obtain ⟨kind,e0,rfl,w0⟩:=DataW.trod_int Tryz.underlying3 h0;obtain ⟨aa,ac,args,e2,r2,w2⟩:=qkw h2;obtain ⟨neg,na,nc,num,da,dc,den,e3,r3,r4,w3⟩:=qnw h3;simp at e0 e2 e3;obtain ⟨rfl,rfl,rfl⟩:=e3;subst e0 e2;refine ⟨⟨kind,args,⟨neg,num,den⟩⟩,⟨aa,ac,na,nc,da,dc⟩,rfl,⟨r2,r3,r4⟩,qdy w0,?_⟩;simp [Rows.uptoBulk,Rows.uptoBulkAll,Fct.weight,Rt.weight] at w2 w3 ⊢
  omega
theorem qw6 {n:Nat} {cs:List Value} {y:DataW H × List MemPlace} (h:DataW.trod enc Tryz.prog W 0 sp held n 25 cs=some y) :
  ∃ (f:Fig) (sa:Option Addr) (sc:Nat) (ga:Option Addr) (gc:Nat),cs=[.slice sa f.steps.length sc,.slice ga f.goals.length gc]/\FigR W sa sc ga gc f/\f.weight<=Rows.uptoBulk y.1:=by
 obtain ⟨xs,m,rfl,rfl,hcl,hxl,hf⟩:=DataW.trod_struct Tryz.underlying25 h;rw [qxs] at hcl;obtain ⟨c0,c1,rfl⟩:=len2 hcl;obtain ⟨y0,y1,rfl⟩:=len2 (show xs.length=2 from hxl)
 ·
  have h0:=hf 0 _ rfl;have h1:=hf 1 _ rfl;simp [qsu,quc] at h0 h1;obtain ⟨sa,sc,steps,e0,r0,w0⟩:=qjb Tryz.underlying22 qmz oo h0 StepE Step.weight (fun k cs' y b o hk ht hl hc=>by
   obtain ⟨s,p,rfl,hP,hi,hp,hw⟩:=qs4 ht;refine ⟨s,⟨p,⟨?_,?_,?_,?_,?_,?_⟩,hP,hi,hp⟩,hw⟩
   · have:=hc 0 oo;simpa using this
   · have:=hc 1 oo;simpa using this
   · have:=hc 2 oo;simpa using this
   · have:=hc 3 oo;simpa using this
   · have:=hc 4 oo;simpa using this
   · have:=hc 5 oo;simpa using this)
  obtain ⟨ga,gc,goals,e1,r1,w1⟩:=qjb Tryz.underlying23 qo0 oo h1 FctE Fct.weight (fun k cs' y b o hk ht hl hc=>by
   obtain ⟨s,p,rfl,hP,hi,hw⟩:=qt2 ht;refine ⟨s,⟨p,⟨?_,?_,?_,?_,?_⟩,hP,hi⟩,hw⟩
   · have:=hc 0 oo;simpa using this
   · have:=hc 1 oo;simpa using this
   · have:=hc 2 oo;simpa using this
   · have:=hc 3 oo;simpa using this
   · have:=hc 4 oo;simpa using this)
  simp at e0 e1;subst e0 e1;refine ⟨⟨steps,goals⟩,sa,sc,ga,gc,rfl,⟨r0,r1⟩,?_⟩;simp [Rows.uptoBulk,Rows.uptoBulkAll,Fig.weight] at w0 w1 ⊢
  omega
theorem qqj {r:Reach} {b0:Nat} {v:Value} {d:DataW H} {p:List MemPlace} (hv:Value.okWide Tryz.prog W r b0 25 v) (h:DataW.Trod enc Tryz.prog W 0 sp held 25 v d p) :
  ∃ (f:Fig) (sa:Option Addr) (sc:Nat) (ga:Option Addr) (gc:Nat),v=f.val sa sc ga gc/\FigR W sa sc ga gc f/\f.weight<=Rows.uptoBulk d:=by
 obtain ⟨cs,rfl,_⟩:=okWide_struct Tryz.underlying25 hv;obtain ⟨n,hn⟩:=h;obtain ⟨f,sa,sc,ga,gc,h1,h2,h3⟩:=qw6 hn;refine ⟨f,sa,sc,ga,gc,?_,h2,h3⟩;obtain ⟨l⟩:=cs;simp [Value.cells] at h1;simp [Fig.val,h1]
end
end Go.Proofs.YtmdlbpibipnapaaGreat
namespace Go.Proofs.YtmdlbpibipnapaaGreat
open Go.RowKit
theorem quo {k c p:Nat} (hp:p<=1000):∀ q∈vaN k c p,qsz q<=1000:=fun q hq=>by
 unfold vaN at hq;obtain ⟨i,hi,rfl⟩:=List.mem_map.1 hq;have hi':=List.mem_range.1 hi;have h1:=qj1 k p oo 63 (c+i);have h2:(2:Nat) ^ (63-(c+i))<=2 ^ 63:=Nat.pow_le_pow_right oo oo;have h3:dealN k p 63 (c+i) ^^^ (i+1)<2 ^ 63:=Nat.xor_lt_two_pow (ltl h1 h2) oo;exact Nat.le_trans (qjh ⟨oo,oo⟩) oo
theorem qx1 (f:Fig) (k:Nat) (hk:k<9223372036854775808) (sa:Option Addr) (sc:Nat) (ga:Option Addr) (gc:Nat) (w:World) (h:FigR w sa sc ga gc f) (hq:f.few) (hs:f.slim) (x:Frm) (hx:qbc ⟨[],[],0⟩ 0 f.steps=some x) :
  nPar x.vars<=64/\nTwo f.steps<=100/\∀ W,Below w.heap.size w W->Calls Tryz.prog 7 #[f.val sa sc ga gc,.int .i64 (k:Int)] W (qme (nPar x.vars) (nTwo f.steps) k W):=by
 have he:=hs.2.2.1;have e:chF f=(nPar x.vars,nTwo f.steps,0):=by unfold chF;rw [if_pos he,hx]
 have l:=qab1 f;rw [e] at l;dsimp only at l;have l2:nTwo f.steps<=100:=oo
 refine ⟨l.1,l2,fun W hW=>qwx f k _ _ sa sc ga gc W hk l.1 l2 fun V hV=>?_⟩;have hV':=bth hW hV;rw [<- e];exact qpd f sa sc ga gc V ⟨h.1.ext (xbw hV'),h.2.ext (xbw hV')⟩ hq hs.2.2.2.1
theorem zz81 {P:Prop} (h:P:=by
 clear h hq hj hk;go_enter Tryz.func3,Tryz.ntmps3;go_wp2;go_ret;exact ⟨rfl,zg⟩
 ):P:=h
theorem qjl (steps:List Step) (goals:List Fct) (j k:Int) (hj:InInt j) (hk:InInt k) (sa:Option Addr) (sc:Nat) (ga:Option Addr) (gc:Nat) (w:World) (h:FigR w sa sc ga gc ⟨steps,goals⟩) (hq:Fig.few ⟨steps,goals⟩) :
  Calls Tryz.prog 3 #[.agg #[.slice sa steps.length sc,.slice ga goals.length gc],.int .i64 j,.int .i64 k] w fun r w'=>r=.returned (.bool true)/\Below w.heap.size w w':=by
 by_cases j0:j<0
 ·
  have d1:decide (j<0)=true:=decide_eq_true j0;exact zz81
 have d1:decide (j<0)=false:=decide_eq_false j0;by_cases k0:k<0
 ·
  have d2:decide (k<0)=true:=decide_eq_true k0;exact zz81
 have d2:decide (k<0)=false:=decide_eq_false k0;by_cases jk:j=k
 ·
  have d3:(j==k)=true:=by simpa using jk
  exact zz81
 have d3:(j==k)=false:=by simpa using jk
 obtain ⟨n,rfl⟩:=Int.eq_ofNat_of_zero_le (show 0<=j by omega);obtain ⟨m,rfl⟩:=Int.eq_ofNat_of_zero_le (show 0<=k by omega);have hn:n<9223372036854775808:=by have:=hj.2;omega
 have hm:m<9223372036854775808:=by have:=hk.2;omega
 have hnm:n≠m:=fun e=>jk (by rw [e])
 have hV:decide (valR (n:Int)=valR (m:Int))=false:=decide_eq_false fun e=>hnm (qod e)
 have s1:=qjh hj;have s2:=qjh hk;have CV1:=fun W=>qir (n:Int) W hj
 have CV2:=fun W=>qir (m:Int) W hk
 rw [qen] at CV1;rw [qen] at CV2;revert hV s1 s2 CV1 CV2;generalize valR (n:Int)=q1;generalize valR (m:Int)=q2;intro hV s1 s2 CV1 CV2;have CP:=fun W (hW:bw w W)=>qq3 steps goals sa sc ga gc W ⟨h.1.ext (xbw hW),h.2.ext (xbw hW)⟩ hq
 have CN:=fun (hs:Fig.slim ⟨steps,goals⟩) x hx (k:Nat) (hk:k<9223372036854775808)=>qx1 ⟨steps,goals⟩ k hk sa sc ga gc w h hq hs x hx
 unfold Fig.val at CN;dsimp only at CN;replace CV1:=Hd CV1;replace CV2:=Hd CV2;replace CP:=Hd CP;replace CN:=Hd CN;replace hV:=Hd hV;replace s1:=Hd s1;replace s2:=Hd s2;replace hnm:=Hd hnm;replace hn:=Hd hn;replace hm:=Hd hm;have lS:=SlR.len h.1;have lG:=SlR.len h.2;dsimp only at lS lG;clear h hq hj hk;go_enter Tryz.func3,Tryz.ntmps3;go_wp2_with fail;refine qae (fun W=>Blk W w.heap.size 25 #[.slice sa steps.length sc,.slice ga goals.length gc]/\Below w.heap.size w W) ⟨bk,zg⟩ ?_;rintro w0 ⟨BG0,hw0⟩;obtain ⟨gG,hgG⟩:=nm w.heap.size
 have BG0':Blk w0 gG 25 #[.slice sa steps.length sc,.slice ga goals.length gc]:=hgG ▸ BG0;simp only [hgG];replace hgG:=Hd hgG;refine (CV1.out w0).mono ?_;intro e w1 hret;obtain ⟨x1,rfl,K1,hb1⟩:=qdl (k:=5) s1.out hret;have hw1:=bth hw0 hb1;have BG1:=BG0'.below' hb1;clear CV1 BG0 BG0' hw0 hb1 hret s1;replace K1:=Hd K1;go_wp2_with fail;refine (CV2.out w1).mono ?_;intro e w2 hret;obtain ⟨x2,rfl,K2,hb2⟩:=qdl (k:=5) s2.out hret;have hw2:=bth hw1 hb2;have BG2:=BG1.below' hb2;have CE:=eqD_q x1 x2 q1 q2 5 w2 (K1.out.call hb2).now K2.now oo;rw [hV.out] at CE;replace CE:=Hd CE;clear CV2 hw1 hb2 hret s2 K1 K2 BG1;go_wp2_with fail;refine CE.out.mono ?_;rintro e w3 ⟨rfl,hb3⟩;have hw3:=bth hw2 hb3;have BG3:=BG2.below' hb3;obtain ⟨z0,z1⟩:=cq2 BG3;have zl:=BG3.lt;clear CE hw2 hb3 BG2;go_wp2_with fail;refine (CP.out w3 hw3).mono ?_
 rintro e w4 ⟨hb4,v,b,rfl,⟨a0,a1,a2,a3,a4,a5,a6,n0,n1,n2,n3,n4,n5,n6,c0,c1,c2,c3,c4,c5,c6,rfl⟩,hok⟩;have hw4:=bth hw3 hb4;have BG4:=BG3.below' hb4;clear CP z0 z1 zl BG3 hb4 hw3
 cases b with
 | false =>
  clear hok;go_wp2;go_ret;exact ⟨rfl,by have:=hw4.size;go_grown⟩
 | true =>
  obtain ⟨hs,x,hx⟩:=hok rfl;obtain ⟨l1,l2,N1⟩:=CN.out hs x hx n hn.out;obtain ⟨_,_,N2⟩:=CN.out hs x hx m hm.out;revert l1 l2 N1 N2;generalize nPar x.vars=t1;generalize nTwo steps=t2;intro l1 l2 N1 N2;replace N1:=Hd N1;replace N2:=Hd N2;obtain ⟨z0,z1⟩:=cq2 BG4;have zl:=BG4.lt;clear hok hs hx CN;go_wp2_with fail;refine qae (fun W=>Blk W gG 25 #[.slice sa steps.length sc,.slice ga goals.length gc]/\Below w.heap.size w W) ⟨bk,by have:=hw4.size;go_grown⟩ ?_;rintro w5 ⟨BG5,hw5⟩;refine (N1.out w5 hw5).mono ?_;rintro e w6 ⟨hb6,a,c,b,d,rfl,hQ1,hB1⟩;have hw6:=bth hw5 hb6;have BG6:=BG5.below' hb6;replace hQ1:=Hd hQ1;replace hB1:=Hd hB1;clear N1 z0 z1 zl hw4 BG4 BG5 hw5 hb6;obtain ⟨z0,z1⟩:=cq2 BG6;have zl:=BG6.lt;go_wp2_with fail;refine (N2.out w6 hw6).mono ?_
  rintro e w7 ⟨hb7,a',c',b',d',rfl,hQ2,hB2⟩;have hw7:=bth hw6 hb7;have hQ1':=hQ1.out.ext (xbw hb7);have hB1':=hB1.out.ext (xbw hb7);have lQ:=SlR.len hQ2;have lQ1:=SlR.len hQ1';clear N2 z0 z1 zl hb7 hw6 BG6 hQ1 hB1;by_cases ht:t1=0
  ·
   subst ht;clear hQ1' hQ2 hB1' hB2 lQ lQ1;go_wp2;go_ret;exact ⟨rfl,hw7⟩
  have CS:=qsj (vaN n t2 t1) (vaN m t2 t1) (brN n t2) (brN m t2) a a' b b' c c' d d' w7 hQ1' hQ2 hB1' hB2 (by rw [qhh,qhh]) (by rw [qgb,qgb]) (by rw [qhh];omega) (by rw [qgb];omega) (quo oo) (quo oo);rw [qhh,qgb] at CS;have hI:¬ (t1:Int)=0:=oo
  have hIb:((t1:Int)==0)=false:=by simpa using hI
  have hno:¬ (vaN n t2 t1=vaN m t2 t1/\brN n t2=brN m t2):=fun e=>hnm.out (qya hn.out hm.out oo e.2 e.1)
  replace CS:=Hd CS;replace hno:=Hd hno;clear hQ1' hQ2 hB1' hB2 lQ lQ1;go_wp2_with fail;refine CS.out.mono ?_;rintro e w8 ⟨⟨r,rfl,hr⟩,hb8⟩;have hw8:=bth hw7 hb8
  cases r with
  | true=>exact (hno.out (hr rfl)).elim
  | false =>
   clear CS hr hb8;go_wp2;go_ret;exact ⟨rfl,hw8⟩
theorem qjk {v:Value} {w:World} {n:Nat} (h:∃ (f:Fig) (sa:Option Addr) (sc:Nat) (ga:Option Addr) (gc:Nat),v=f.val sa sc ga gc/\FigR w sa sc ga gc f/\f.weight<=n)
  (j:Int) (hj:(Lit.int .i64 j).wf=true) (k:Int) (hk:(Lit.int .i64 k).wf=true) (hn:n<=1048576) :
  Calls Tryz.prog 3 #[v,.int .i64 j,.int .i64 k] w fun r w'=>r=.returned (.bool true)/\Below w.heap.size w w':=by
 obtain ⟨⟨steps,goals⟩,sa,sc,ga,gc,rfl,hr,hw⟩:=h;exact qjl steps goals j k (qdy hj) (qdy hk) sa sc ga gc w hr (Fig.few_of oo)
end Go.Proofs.YtmdlbpibipnapaaGreat
