/- Walks: the program's natural numbers: right, Shift. -/
import Derived.Test.YtmdlbpibipnapaaGreatRd3
import Derived.Test.YtmdlbpibipnapaaGreatRd1
import Derived.Lib.ItoaNum
set_option linter.all false
set_option maxRecDepth 100000
set_option maxHeartbeats 4000000
namespace Go.Proofs.YtmdlbpibipnapaaGreat
open Go.RowKit
theorem zz4 {P:Prop} (h:P:=by
 subst hr;clear hm1 hm2;have hne:((T.length:Int) != (U.length:Int))=true:=by simp;omega
 go_enter Tryz.func81,Tryz.ntmps81;go_wp2_with fail;refine C1.out.mono ?_;rintro e w1 ⟨rfl,rfl⟩;go_wp2_with fail;refine C2.out.mono ?_;rintro e w1 ⟨rfl,rfl⟩;go_wp2;go_ret;exact ⟨rfl,Below.refl _ _⟩
 ):P:=h
theorem qhi (l m:List Int) (n1 n2:Nat) (a a':Option Addr) (c c':Nat) (w:World) (h:NatR w a c l) (h':NatR w a' c' m) (hn:val l=n1) (hk:val m=n2) :
  Calls Tryz.prog 81 #[.slice a l.length c,.slice a' m.length c'] w fun e w'=>e=.returned (.int .i64 (cmpN n1 n2))/\Below w.heap.size w w':=by
 have C1:=qa4 l a c w h;have C2:=qa4 m a' c' w h';have hT:=h.trim;have hT':=h'.trim;rw [hn] at C1 hT;rw [hk] at C2 hT';have hu1:=qa9 n1;have hu2:=qa9 n2;have hv1:=qac n1;have hv2:=qac n2;have hm1:=fun (e:n1<=n2)=>qap e
 have hm2:=fun (e:n2<=n1)=>qap e
 have hlen1:=hT.len;have hlen2:=hT'.len;revert C1 C2 hT hT' hu1 hu2 hv1 hv2 hm1 hm2 hlen1 hlen2;generalize limbs n1=T;generalize limbs n2=U;intro C1 C2 hT hT' hu1 hu2 hv1 hv2 hm1 hm2 hlen1 hlen2;replace C1:=Hd C1;replace C2:=Hd C2;have HT:=Hd hT;have HU:=Hd hT';have HV1:=Hd hv1;have HV2:=Hd hv2;obtain ⟨R,hR⟩:=nm (cmpN n1 n2)
 rw [hR];have HR:=Hd hR;clear h h' hn hk hT hT' hv1 hv2 hR;by_cases hlt:T.length<U.length
 ·
  have hr:R = -1:=by
   rw [<- HR.out];unfold cmpN;rw [if_pos (by apply Nat.lt_of_not_le;intro e;have:=hm2 e;omega)]
  exact zz4
 ·
  by_cases hgt:U.length<T.length
  ·
   have hr:R=1:=by
    have h1:n2<n1:=by apply Nat.lt_of_not_le;intro e;have:=hm1 e;omega
    rw [<- HR.out];unfold cmpN;rw [if_neg oo,if_pos h1]
   exact zz4
  ·
   have he:T.length=U.length:=oo
   have hne:((T.length:Int) != (U.length:Int))=false:=by simp;omega
   have HE:=Hd he;clear hm1 hm2 hlt hgt he;go_enter Tryz.func81,Tryz.ntmps81;go_wp2_with fail;refine C1.out.mono ?_;rintro e w1 ⟨rfl,rfl⟩;go_wp2_with fail;refine C2.out.mono ?_;rintro e w1 ⟨rfl,rfl⟩;go_wp2;clear hne;obtain ⟨wo,rfl⟩:∃ wo:World,wo=w:=⟨_,rfl⟩
   go_loopg [5] T.length (fun g i wr=>g<=T.length/\i=.int .i64 ((g:Int)-1)/\Below wo.heap.size wo wr/\Hid (val (T.drop g)=val (U.drop g)))
   case atStart=>exact ⟨nlr _,rfl,Below.refl _ _,by show _=_;rw [qaw (nlr _),qaw (by have:=HE.out;omega)]⟩
   case round =>
    obtain ⟨hg,rfl,hwr,hv⟩:=hrel;by_cases h0:gk=0
    ·
     subst h0;have hr:R=0:=by
      have h1:=hv.out;rw [List.drop_zero,List.drop_zero,HV1.out,HV2.out] at h1;rw [<- HR.out];exact quh.2 h1
     subst hr;go_wp2;go_ret;exact ⟨rfl,hwr⟩
    ·
     obtain ⟨k,rfl⟩:∃ k,gk=k+1:=⟨gk-1,oo⟩
     obtain ⟨x,hx⟩:=qab (xs:=T) (k:=k) oo;obtain ⟨y,hy⟩:=qab (xs:=U) (k:=k) (by have:=HE.out;omega);obtain ⟨b,off,rfl,hc⟩:=(HT.out.ext (xbw hwr)).cell hx;obtain ⟨b2,off2,rfl,hc2⟩:=(HU.out.ext (xbw hwr)).cell hy;have hkl:k<T.length:=oo
     have hkl2:k<U.length:=by have:=HE.out;omega
     have e1:(((k+1:Nat):Int)-1)=(k:Int):=oo
     rw [e1];have HX:=Hd hx;have HY:=Hd hy;have hx2:=qax hx;have hy2:=qax hy;have HX2:=Hd hx2;have HY2:=Hd hy2;clear hx hy hx2 hy2 e1;by_cases hlt:x<y
     ·
      have hr:R = -1:=by
       have h1:=qg5 hu1 hu2 k hv.out (by rw [HX2.out,HY2.out];exact hlt);rw [HV1.out,HV2.out] at h1;rw [<- HR.out];unfold cmpN;rw [if_pos h1]
      subst hr;have hd:=decide_eq_true hlt;go_wp2
      go_region
      go_wp2;go_ret;exact ⟨rfl,zg⟩
     ·
      by_cases hgt:y<x
      ·
       have hr:R=1:=by
        have h1:=qg5 hu2 hu1 k hv.out.symm (by rw [HX2.out,HY2.out];exact hgt);rw [HV1.out,HV2.out] at h1;rw [<- HR.out];unfold cmpN;rw [if_neg oo,if_pos h1]
       subst hr;go_wp2
       go_region
       go_wp2
       go_region
       go_wp2;go_ret;exact ⟨rfl,zg⟩
      ·
       have hxy:x=y:=oo
       have hv2:val (T.drop k)=val (U.drop k):=by
        rw [qck HX.out,qck HY.out,hv.out,hxy]
       have HV:=Hd hv2;clear hxy hv2;go_wp2
       go_region
       go_wp2
       go_region
       go_wp2;go_roundg k
       case rel=>exact ⟨oo,rfl,zg,HV.out⟩
       case measure=>omega
theorem qg3 {r x:Nat} (hx:x<65536):r*65536 ||| x=r*65536+x:=by
 have:(65536:Nat)=2 ^ 16:=rfl;rw [Nat.mul_comm,this] at *;rw [<- Nat.two_pow_add_eq_or_of_lt hx]
theorem qts (l:List Int) (n d:Nat) (a:Option Addr) (c:Nat) (w:World) (h:NatR w a c l) (hn:val l=n) (hl:l.length<=16777216) (hd:0<d) (hd2:d<=65535) :
  Calls Tryz.prog 82 #[.slice a l.length c,.int .u16 d] w fun e w'=>∃ a1 c1,e=.returned (.tuple #[.slice a1 (limbs (n / d)).length c1,.int .u16 ((n % d:Nat):Int)]) /\
   (∀ V,New w.heap.size w' V->NatR V a1 c1 (limbs (n / d)))/\Below w.heap.size w w':=by
 have H:=Hd h;have HN:=Hd hn;have hmk:=qco .i64 l.length hl w;have hu:=h.u16;clear h hn;go_enter Tryz.func82,Tryz.ntmps82;go_wp2;clear hmk;have hz:=BlkN.new w l.length;have hb0:Below w.heap.size w (w.alloc (.cells (madeCells #[.int .u16 0] l.length) 105)):=brf.alloc (nlr _) _;revert hz hb0;generalize w.alloc (.cells (madeCells #[.int .u16 0] l.length) 105)=w0;intro hz hb0
 go_loopg [7,8] l.length (fun g r i wr=>∃ (rv:Nat) (Q:List Int),g<=l.length/\i=.int .i64 ((g:Int)-1)/\r=.int .u32 rv/\rv<d/\BlkN wr w.heap.size Q/\Hid (Q.length=l.length)/\U16 Q/\Below w.heap.size w wr/\Hid (val (l.drop g)=val (Q.drop g)*d+rv))
 case atStart=>exact ⟨0,List.replicate l.length 0,nlr _,rfl,rfl,hd,hz,by show _=_;simp,qbw _,hb0,by show _=_;rw [qaw (nlr _),qaw (by simp)];simp⟩
 case round =>
  clear hz hb0;obtain ⟨rv,Q,hg,rfl,rfl,hrv,hQ,hQl,hQu,hwr,hv⟩:=hrel;have HQ:=Hd hQ;by_cases h0:gk=0
  ·
   subst h0;have hfin:val Q=n / d/\rv=n % d:=by
    have:=hv.out;rw [List.drop_zero,List.drop_zero,HN.out] at this;have h1:n / d=val Q:=by rw [this,Nat.mul_comm,Nat.mul_add_div oo,Nat.div_eq_of_lt hrv,Nat.add_zero]
    have h2:n % d=rv:=by rw [this,Nat.mul_comm,Nat.mul_add_mod,Nat.mod_eq_of_lt hrv]
    exact ⟨h1.symm,h2.symm⟩
   have hcap:Q.length<=maxLen:=by rw [hQl.out];unfold maxLen;omega
   have hread:NatR wr (some ⟨w.heap.size,0,none⟩) Q.length Q:=hQ.readsV (nlr _) (New.refl _ _) hQu (nlr _) hcap;have hread2:∀ V,New w.heap.size wr V->NatR V (some ⟨w.heap.size,0,none⟩) Q.length (limbs (n / d)):=fun V hV=>by
    rw [<- hfin.1];exact (hQ.readsV (nlr _) hV hQu (nlr _) hcap).trim
   have CT:=qa4 Q _ _ wr hread;rw [hfin.1,hQl.out] at CT;rw [hQl.out] at hread2;replace CT:=Hd CT;have HRD:=Hd hread2;have HRV:=Hd hfin.2;clear hread hread2 hfin hQ;go_wp2_with fail;refine CT.out.mono ?_;rintro e w1 ⟨rfl,rfl⟩;go_wp2;go_ret2;exact ⟨_,_,by rw [HRV.out];rfl,HRD.out,hwr⟩
  ·
   obtain ⟨k,rfl⟩:∃ k,gk=k+1:=⟨gk-1,oo⟩
   obtain ⟨x,hx⟩:=qab (xs:=l) (k:=k) oo;obtain ⟨b,off,rfl,hc⟩:=(H.out.ext (xbw hwr)).cell hx;obtain ⟨hx0,hx1⟩:=hu.get hx;obtain ⟨y,rfl⟩:∃ y:Nat,x=(y:Int):=⟨x.toNat,oo⟩
   have hkl:k<l.length:=oo
   have hkq:k<Q.length:=by rw [hQl.out];omega
   obtain ⟨N,hN⟩:∃ N,N=y+65536*rv:=⟨_,rfl⟩
   have hor:bits .or .u32 ((rv:Int)*65536) (y:Int)=(N:Int):=by
    have h1:=qg3 (r:=rv) (x:=y) oo;have h2:=u32_or_nat (rv*65536) y oo oo;rw [h1] at h2;simp only [Int.natCast_mul] at h2;rw [hN,show y+65536*rv=rv*65536+y by omega];exact h2
   have hN2:N<4294967296:=oo
   have hqd:N / d<=65535:=by rw [hN];exact qmu oo hrv
   have hrm:N % d<d:=Nat.mod_lt _ hd;have hqm:N=N / d*d+N % d:=by rw [Nat.mul_comm];exact (Nat.div_add_mod N d).symm
   have hdiv:(N:Int).tdiv (d:Int)=((N / d:Nat):Int):=rfl;have hmod:(N:Int).tmod (d:Int)=((N % d:Nat):Int):=rfl;have hvd:=qos l (Q.drop (k+1)) k d rv (N / d) (N % d) (y:Int) hx hv.out (by rw [Int.toNat_natCast,<- hN];exact hqm);have hdrop:∀ z:Int,(Q.set k z).drop k=z :: Q.drop (k+1):=fun z=>by
    rw [List.drop_eq_getElem_cons (by simpa using hkq),List.getElem_set_self,List.drop_set_of_lt oo]
   rw [<- hdrop] at hvd;have hcell:∃ u,wr.cell? ⟨w.heap.size,k,none⟩=some u:=by
    obtain ⟨z,hz⟩:=qab hkq;exact ⟨_,HQ.out.cell hz⟩
   obtain ⟨u,hcell⟩:=hcell;have hfr:=HQ.out.frozen k;have hw16:IntKind.u16.wrap ((N / d:Nat):Int)=((N / d:Nat):Int):=by
    rw [qcn];congr 1;exact Nat.mod_eq_of_lt oo
   have hd0:((d:Int)==0)=false:=by simp;omega
   have hd1:(d:Int)≠0:=oo
   have e1:(((k+1:Nat):Int)-1)=(k:Int):=oo
   rw [e1];have HVD:=Hd hvd;revert hqd hrm hdiv hmod hw16 HVD;generalize N / d=dq;generalize N % d=dr;intro hqd hrm hdiv hmod hw16 HVD;clear hx hN hqm hvd hdrop hQ hv;go_wp2;go_roundg k
   case rel=>exact ⟨dr,Q.set k (dq:Int),oo,rfl,rfl,hrm,HQ.out.set_ k _,by show _=_;rw [List.length_set];exact hQl.out,hQu.set_ ⟨oo,oo⟩,hwr.setCell (nlr _) _,HVD.out⟩
   case measure=>omega
end Go.Proofs.YtmdlbpibipnapaaGreat
namespace Go.Proofs.YtmdlbpibipnapaaGreat
theorem qym {U V B u2 v2 q d:Nat} (hB:0<B) (hu:U<(u2+1)*B) (hv:v2*B<=V) (hq:q*V<=U) (hq2:q<=65535) (hd:d=65535\/u2<(d+1)*v2):q<=d:=by
 rcases hd with rfl | hd
 · exact hq2
 ·
  have h1:q*(v2*B)<=q*V:=Nat.mul_le_mul_left _ hv;have h2:q*v2*B<(u2+1)*B:=by rw [Nat.mul_assoc];omega
  have h3:q*v2<u2+1:=Nat.lt_of_mul_lt_mul_right h2;by_cases hle:q<=d
  · exact hle
  ·
   have h4:(d+1)*v2<=q*v2:=Nat.mul_le_mul_right _ oo
   omega
theorem qx9 {U V B u2 v2 q d:Nat} (hB:0<B) (hu:u2*B<=U) (hv:V<(v2+1)*B) (hq:U<(q+1)*V) (hd:d*v2<=u2) (hd2:d<=65535) (hv2:65536<=v2):d<=q+1:=by
 by_cases hle:d<=q+1
 · exact hle
 ·
  exfalso;have h1:(q+1)*V<=(d-1)*V:=Nat.mul_le_mul_right _ oo;have h2:(d-1)*V<=(d-1)*((v2+1)*B):=Nat.mul_le_mul_left _ oo;have h3:u2*B<(d-1)*(v2+1)*B:=by rw [Nat.mul_assoc];omega
  have h4:u2<(d-1)*(v2+1):=Nat.lt_of_mul_lt_mul_right h3;obtain ⟨e,rfl⟩:∃ e,d=e+1:=⟨d-1,oo⟩
  have h5:e+1-1=e:=oo
  rw [h5,Nat.mul_add,Nat.mul_one] at h4;rw [Nat.add_mul,Nat.one_mul] at hd
  omega
end Go.Proofs.YtmdlbpibipnapaaGreat
namespace Go.Proofs.YtmdlbpibipnapaaGreat
theorem qqz (u v o:List Int) (k q c b c2 b2 x p lo:Nat) (hol:o.length=k) (h:val (u.take k)+65536 ^ k*(c+b)=q*val (v.take k)+val o)
  (hp:p=c+q*(qag v k).toNat) (hlo:p=lo+65536*c2) (hx:x+lo+b=(qag u k).toNat+65536*b2) :
  val (u.take (k+1))+65536 ^ (k+1)*(c2+b2)=q*val (v.take (k+1))+val (o++[(x:Int)]):=by
 rw [qc5,qc5,qgo,hol,Nat.pow_succ];have e:((x:Int)).toNat=x:=oo
 rw [e];have h1:x+p+b=(qag u k).toNat+65536*(c2+b2):=oo
 have h2:=congrArg (65536 ^ k * ·) h1;simp only [Nat.mul_add] at h2;rw [hp,Nat.mul_add] at h2;have e3:q*(val (v.take k)+65536 ^ k*(qag v k).toNat)=q*val (v.take k)+65536 ^ k*(q*(qag v k).toNat):=by
  rw [Nat.mul_add,<- Nat.mul_assoc q,Nat.mul_comm q (65536 ^ k),Nat.mul_assoc]
 rw [e3,Nat.mul_assoc,Nat.mul_add,Nat.mul_add];rw [Nat.mul_add] at h
 omega
theorem qsm {u v o:List Int} {n q c b:Nat} (ho:U16 o) (hul:u.length=n+1) (hvl:v.length=n) (hol:o.length=n+1) (hb:b<=1)
  (h:val (u.take (n+1))+65536 ^ (n+1)*(c+b)=q*val (v.take (n+1))+val o) (hc:c=0) :
  val u+65536 ^ (n+1)*b=q*val v+val o/\(b=1↔val u<q*val v):=by
 rw [qaz oo,qaz oo,hc,Nat.zero_add] at h;refine ⟨h,?_⟩;have h1:=qcs ho;rw [hol] at h1
 constructor
 ·
  intro hb1;subst hb1
  omega
 ·
  intro hlt;have:b=0\/b=1:=oo
  rcases this with rfl | rfl
  · omega
  · rfl
theorem qqf {u v o:List Int} {n c:Nat} (hul:u.length=n+1) (hvl:v.length=n)
  (h:val o+65536 ^ (n+1)*c=val (u.take (n+1))+val (v.take (n+1))):val o+65536 ^ (n+1)*c=val u+val v:=by
 rw [qaz oo,qaz oo] at h;exact h
theorem qqv {u2 u1 v1:Nat} (hv:32768<=v1) (hv2:v1<=65535) (hu1:u1<=65535) (hu:u2<=v1):(65536*u2+u1) / v1<=65537:=by
 have h1:65536*u2+u1<65538*v1:=by
  have:=Nat.mul_le_mul_left 65536 hu
  omega
 have:=(Nat.div_lt_iff_lt_mul (by omega:0<v1)).2 h1
 omega
theorem qhl (x v:Nat):x=x / v*v+x % v:=by
 have:=Nat.div_add_mod x v;rw [Nat.mul_comm] at this;exact this.symm
theorem qot (x:Nat) {v:Nat} (hv:0<v):x<(x / v+1)*v:=by
 have h1:=qhl x v;have h2:=Nat.mod_lt x hv;rw [Nat.add_mul,Nat.one_mul]
 omega
structure Guess (u2 u1 u0 v1 v2 d r : Nat) : Prop where
 sum:65536*u2+u1=d*v1+r
 top:d<=65537
 low:65535<=d\/65536*(65536*u2+u1)+u0<(d+1)*(65536*v1+v2)
theorem Guess.start {u2 u1 u0 v1 v2:Nat} (hv:32768<=v1) (hv2:v1<=65535) (hu1:u1<=65535) (hu0:u0<=65535) (hu:u2<=v1):Guess u2 u1 u0 v1 v2 ((65536*u2+u1) / v1) ((65536*u2+u1) % v1):=by
 refine ⟨qhl _ _,qqv hv hv2 hu1 hu,.inr ?_⟩;have h1:=qot (65536*u2+u1) (v:=v1) oo;generalize (65536*u2+u1) / v1+1=e at h1;rw [Nat.mul_add e];have h4:e*(65536*v1)=65536*(e*v1):=by rw [<- Nat.mul_assoc,Nat.mul_comm e,Nat.mul_assoc]
 rw [h4];have h5:0<=e*v2:=Nat.zero_le _
 omega
theorem Guess.less {u2 u1 u0 v1 v2 d r:Nat} (h:Guess u2 u1 u0 v1 v2 d r) (hd:65536<=d\/65536*r+u0<d*v2) (hd0:0<d):Guess u2 u1 u0 v1 v2 (d-1) (r+v1):=by
 obtain ⟨e,rfl⟩:∃ e,d=e+1:=⟨d-1,oo⟩
 have hs:=h.sum;have ht:=h.top;rw [Nat.add_mul,Nat.one_mul] at hs;have hs2:65536*u2+u1=e*v1+(r+v1):=oo
 refine ⟨by simpa using hs2,oo,?_⟩;rcases hd with hd | hd
 · exact .inl oo
 ·
  right;rw [Nat.add_sub_cancel];rw [Nat.mul_add (e+1),hs2];have h4:(e+1)*(65536*v1)=65536*(e*v1+v1):=by rw [Nat.add_mul,Nat.one_mul,Nat.mul_add,<- Nat.mul_assoc,Nat.mul_comm e,Nat.mul_assoc]
  rw [h4]
  omega
theorem Guess.done {u2 u1 u0 v1 v2 d r:Nat} (h:Guess u2 u1 u0 v1 v2 d r) (hv2:v2<=65535) (hu1:u1<=65535) (hu:u2<=v1) (he:65536<=r\/(d<=65535/\d*v2<=65536*r+u0)) :
  d<=65535/\d*(65536*v1+v2)<=65536*(65536*u2+u1)+u0/\(d=65535\/65536*(65536*u2+u1)+u0<(d+1)*(65536*v1+v2)):=by
 have hs:=h.sum;have hd:d<=65535:=by
  rcases he with he | he
  ·
   apply Nat.le_of_not_lt;intro hc;have h1:65536*v1<=d*v1:=Nat.mul_le_mul_right _ hc;have h2:=Nat.mul_le_mul_left 65536 hu
   omega
  · exact he.1
 refine ⟨hd,?_,?_⟩
 ·
  rw [hs,Nat.mul_add];have h4:d*(65536*v1)=65536*(d*v1):=by rw [<- Nat.mul_assoc,Nat.mul_comm d,Nat.mul_assoc]
  rw [h4];rcases he with he | he
  ·
   have h5:d*v2<=65535*65535:=Nat.mul_le_mul hd hv2
   omega
  · omega
 ·
  rcases h.low with hl | hl
  · exact .inl oo
  · exact .inr hl
theorem qze {U V B u0 u1 u2 v1 v2 d:Nat} (hB:0<B) (hU1:(65536*(65536*u2+u1)+u0)*B<=U) (hU2:U<(65536*(65536*u2+u1)+u0+1)*B) (hV1:(65536*v1+v2)*B<=V) (hV2:V<(65536*v1+v2+1)*B)
  (hv:32768<=v1) (hlt:U<65536*V) (hd:d<=65535) (hg:d*(65536*v1+v2)<=65536*(65536*u2+u1)+u0) (hl:d=65535\/65536*(65536*u2+u1)+u0<(d+1)*(65536*v1+v2)) :
  (d=U / V\/d=U / V+1)/\(U<d*V↔d=U / V+1):=by
 have hV:0<V:=by
  have:0<(65536*v1+v2)*B:=Nat.mul_pos oo hB
  omega
 have hq1:U / V*V<=U:=Nat.div_mul_le_self _ _;have hq2:U<(U / V+1)*V:=qot U hV;have hq:U / V<=65535:=by
  have:=(Nat.div_lt_iff_lt_mul hV).2 hlt
  omega
 have h1:=qym hB hU2 hV1 hq1 hq hl;have h2:=qx9 hB hU1 hV2 hq2 hg hd oo;have h3:d=U / V\/d=U / V+1:=oo
 refine ⟨h3,?_⟩
 constructor
 ·
  intro hlt2;rcases h3 with h3 | h3
  · rw [h3] at hlt2;omega
  · exact h3
 ·
  intro e;rw [e];exact hq2
end Go.Proofs.YtmdlbpibipnapaaGreat
namespace Go.Proofs.YtmdlbpibipnapaaGreat
theorem top2 {v:List Int} {n:Nat} (hv:U16 v) (hl:v.length=n+2):∃ lo,lo<65536 ^ n/\val v=lo+65536 ^ n*(65536*(qag v (n+1)).toNat+(qag v n).toNat):=by
 obtain ⟨lo,hlo,e⟩:=qbv hv n;refine ⟨lo,hlo,?_⟩;rw [e,qbe v n,qbe v (n+1),qaw (l:=v) (k:=n+1+1) oo];rw [Nat.mul_zero,Nat.add_zero,Nat.add_comm (qag v n).toNat]
theorem top3 {u:List Int} {n:Nat} (hu:U16 u) (hl:u.length=n+3):∃ lo,lo<65536 ^ n/\val u=lo+65536 ^ n*(65536*(65536*(qag u (n+2)).toNat+(qag u (n+1)).toNat)+(qag u n).toNat):=by
 obtain ⟨lo,hlo,e⟩:=qbv hu n;refine ⟨lo,hlo,?_⟩;rw [e,qbe u n,qbe u (n+1),qbe u (n+1+1),qaw (l:=u) (k:=n+1+1+1) oo];rw [Nat.mul_zero,Nat.add_comm (qag u (n+1)).toNat,Nat.add_comm (qag u n).toNat]
 rfl
theorem qpk {lo B x y:Nat} (hlo:lo<B) (e:y=lo+B*x):x*B<=y/\y<(x+1)*B:=by
 rw [e,Nat.add_mul,Nat.one_mul,Nat.mul_comm B]
 constructor <;> omega
theorem qmh {u v:List Int} {n j:Nat} (hv:U16 v) (hvl:v.length=n) (hjl:j+n<u.length) (hlt:val (u.drop (j+1))<val v) :
  val (u.drop j)=val ((u.drop j).take (n+1))/\val ((u.drop j).drop (n+1))=0/\((u.drop j).take (n+1)).length=n+1:=by
 have h1:=qcs hv;rw [hvl] at h1;have e1:=qcd (u.drop (j+1)) n;have l1:((u.drop (j+1)).take n).length=n:=by simp;omega
 rw [l1,List.drop_drop] at e1;have h0:val (u.drop (j+1+n))=0:=by
  apply Nat.eq_zero_of_not_pos;intro hp;have:=Nat.mul_le_mul_left (65536 ^ n) hp
  omega
 have l2:((u.drop j).take (n+1)).length=n+1:=by simp;omega
 have e2:=qcd (u.drop j) (n+1);rw [l2,List.drop_drop,show j+(n+1)=j+1+n by omega,h0] at e2;refine ⟨oo,?_,l2⟩;rw [List.drop_drop,show j+(n+1)=j+1+n by omega];exact h0
theorem qg7 (u:List Int) (j k:Nat):qag (u.drop j) k=qag u (j+k):=by
 unfold qag;rw [List.getElem?_drop]
theorem qp7 {u:List Int} {m k:Nat} (h:k<m):qag (u.take m) k=qag u k:=by
 unfold qag;rw [List.getElem?_take_of_lt h]
theorem qvf {u v:List Int} {n j:Nat} (hu:U16 u) (hv:U16 v) (hvl:v.length=n+2) (hjl:j+(n+2)<u.length) (hlt:val (u.drop (j+1))<val v):qag u (j+(n+2))<=qag v (n+1):=by
 obtain ⟨hs,_,hl⟩:=qmh hv hvl hjl hlt;obtain ⟨lo,hlo,e⟩:=top2 hv hvl;have e1:=qcd (u.drop (j+1)) (n+1);have l1:((u.drop (j+1)).take (n+1)).length=n+1:=by simp;omega
 rw [l1,List.drop_drop,show j+1+(n+1)=j+(n+2) by omega,qbe u (j+(n+2))] at e1;have h1:=qbd hu (j+(n+2));have h2:=qbd hv (n+1);have h3:=qbd hv n;by_cases hc:qag u (j+(n+2))<=qag v (n+1)
 · exact hc
 ·
  exfalso;have h4:(qag v (n+1)).toNat+1<=(qag u (j+(n+2))).toNat+65536*val (u.drop (j+(n+2)+1)):=oo
  have h5:=Nat.mul_le_mul_left (65536 ^ (n+1)) h4;have h6:65536*(qag v (n+1)).toNat+(qag v n).toNat+1<=65536*((qag v (n+1)).toNat+1):=oo
  have h7:=Nat.mul_le_mul_left (65536 ^ n) h6;have hp:(65536:Nat) ^ (n+1)=65536 ^ n*65536:=Nat.pow_succ _ _;rw [<- Nat.mul_assoc,<- hp,Nat.mul_add (65536 ^ n) _ 1] at h7
  omega
theorem qkh {x:Nat} (h0:x≠0) (h1:x<=65535):1<=Lib.bitLen x/\Lib.bitLen x<=16/\32768<=x*2 ^ (16-Lib.bitLen x)/\(x+1)*2 ^ (16-Lib.bitLen x)<=65536:=by
 obtain ⟨h2,h3,h4⟩:=Lib.bitLenAux_bounds 64 x oo h0
 change 1<=Lib.bitLen x at h2
 change 2 ^ (Lib.bitLen x-1)<=x at h3
 change x<2 ^ Lib.bitLen x at h4
 generalize Lib.bitLen x=b at *;have hb:b<=16:=by
  apply Nat.le_of_not_lt;intro hc;have:2 ^ 16<=2 ^ (b-1):=Nat.pow_le_pow_right oo oo
  omega
 refine ⟨h2,hb,?_,?_⟩
 ·
  have h5:=Nat.mul_le_mul_right (2 ^ (16-b)) h3;rw [<- Nat.pow_add,show b-1+(16-b)=15 by omega] at h5;simpa using h5
 ·
  have h5:=Nat.mul_le_mul_right (2 ^ (16-b)) h4;rw [<- Nat.pow_add,show b+(16-b)=16 by omega] at h5;simpa using h5
end Go.Proofs.YtmdlbpibipnapaaGreat
namespace Go.Proofs.YtmdlbpibipnapaaGreat
def midL (L o:List Int) (j:Nat):List Int:=L.take j++o++L.drop (j+o.length)
section
variable {L o : List Int} {j : Nat}
theorem qn4 (L:List Int) (j:Nat):midL L [] j=L:=by simp [midL]
theorem qgi (h:j+o.length<=L.length):(midL L o j).length=L.length:=by simp [midL];omega
theorem qo2 (h:j+o.length<L.length):(midL L o j)[j+o.length]? = L[j+o.length]?:=by
 unfold midL;rw [List.getElem?_append_right (by simp;omega)];have e:(L.take j++o).length=j+o.length:=by simp;omega
 rw [e,Nat.sub_self,List.getElem?_drop,Nat.add_zero]
theorem qxn (h:j+o.length<L.length) (x:Int):(midL L o j).set (j+o.length) x=midL L (o++[x]) j:=by
 unfold midL;have e:(L.take j++o).length=j+o.length:=by simp;omega
 rw [List.set_append_right _ _ oo,e,Nat.sub_self,List.drop_eq_getElem_cons h,List.set_cons_zero];simp [Nat.add_assoc]
theorem qj0 (hL:U16 L) (ho:U16 o):U16 (midL L o j):=((hL.take _).app ho).app (hL.drop _)
theorem qm0 (h:j+o.length<=L.length):(midL L o j).drop j=o++L.drop (j+o.length):=by
 unfold midL;have e:(L.take j).length=j:=by simp;omega
 rw [List.append_assoc,List.drop_append,e,Nat.sub_self,List.drop_zero,List.drop_eq_nil_of_le oo,List.nil_append]
theorem qnm (h:j+o.length<=L.length):(midL L o j).take j=L.take j:=by
 unfold midL;have e:(L.take j).length=j:=by simp;omega
 rw [List.append_assoc,List.take_append,e,Nat.sub_self,List.take_zero,List.append_nil,List.take_take,Nat.min_self]
theorem qyf (h:j+o.length<=L.length):((midL L o j).drop j).take o.length=o:=by
 rw [qm0 h,List.take_append_of_le_length (nlr _),List.take_length]
theorem qyc {o2:List Int} (h:j+o.length<=L.length) (h2:o2.length=o.length):midL (midL L o j) o2 j=midL L o2 j:=by
 unfold midL;have e:(L.take j).length=j:=by simp;omega
 have e2:(L.take j++o).length=j+o.length:=by simp;omega
 congr 1
 ·
  congr 1;have:=qnm (L:=L) (o:=o) h;unfold midL at this;exact this
 · rw [h2,List.drop_append,e2,Nat.sub_self,List.drop_zero,List.drop_eq_nil_of_le oo,List.nil_append]
end
theorem qey {L:List Int} {j n k:Nat} (hk:k<n):qag ((L.drop j).take n) k=qag L (j+k):=by
 rw [qp7 hk,qg7]
theorem qnl {L v o O:List Int} {U n j:Nat} {q:Nat} (hv:U16 v) (hvl:v.length=n) (hjl:j+n<L.length) (hol:o.length=n+1) (hO:O.length=L.length-n)
  (hlt:val (L.drop (j+1))<val v) (hU:U=val (O.drop (j+1))*(65536 ^ (j+1)*val v)+val L)
  (hq:q=val ((L.drop j).take (n+1)) / val v) (ho:val o=val ((L.drop j).take (n+1)) % val v) :
  val ((midL L o j).drop j)<val v/\U=val ((O.set j (q:Int)).drop j)*(65536 ^ j*val v)+val (midL L o j):=by
 obtain ⟨h1,h2,h3⟩:=qmh hv hvl hjl hlt;have hV:0<val v:=oo
 have hd:=qm0 (L:=L) (o:=o) (j:=j) oo;have e1:val ((midL L o j).drop j)=val o:=by
  rw [hd,qf3,hol];rw [List.drop_drop,show j+(n+1)=j+(n+1) by rfl] at h2;rw [h2,Nat.mul_zero,Nat.add_zero]
 have hjO:j<O.length:=oo
 have l1:(L.take j).length=j:=by simp;omega
 have e2:=qcd L j;have e3:=qcd (midL L o j) j;rw [qnm oo,l1,e1] at e3;rw [l1,h1] at e2;have e4:val ((O.set j (q:Int)).drop j)=q+65536*val (O.drop (j+1)):=by
  have g:(O.set j (q:Int))[j]? = some (q:Int):=by simp [hjO]
  rw [qck g,List.drop_set_of_lt oo];simp
 refine ⟨by rw [e1,ho];exact Nat.mod_lt _ hV,?_⟩;rw [hU,e4,e3,e2];have e5:=qhl (val ((L.drop j).take (n+1))) (val v);rw [<- hq,<- ho] at e5;rw [e5];generalize val (O.drop (j+1))=A;generalize val v=V;generalize val (L.take j)=B;generalize val o=R;rw [Nat.pow_succ,Nat.add_mul,Nat.mul_add (65536 ^ j)];have e6:A*(65536 ^ j*65536*V)=65536*A*(65536 ^ j*V):=by
  rw [Nat.mul_comm (65536 ^ j) 65536,Nat.mul_assoc 65536 (65536 ^ j),<- Nat.mul_assoc A 65536,Nat.mul_comm A 65536]
 have e7:65536 ^ j*(q*V)=q*(65536 ^ j*V):=by rw [<- Nat.mul_assoc,Nat.mul_comm (65536 ^ j) q,Nat.mul_assoc]
 rw [e6,e7]
 omega
theorem qvk {L v O:List Int} {U:Nat} (hlt:val (L.drop 0)<val v) (hU:U=val (O.drop 0)*(65536 ^ 0*val v)+val L):val O=U / val v/\val L=U % val v:=by
 rw [List.drop_zero] at hlt hU;rw [Nat.pow_zero,Nat.one_mul] at hU;subst hU
 constructor
 · rw [Nat.mul_comm,Nat.mul_add_div oo,Nat.div_eq_of_lt hlt,Nat.add_zero]
 · rw [Nat.mul_comm,Nat.mul_add_mod,Nat.mod_eq_of_lt hlt]
theorem qy1 {s q V o o2 c P:Nat} (h1:s+P=q*V+o) (h2:o2+P*c=o+V) (ho:o<P) (ho2:o2<P) (hq:q=s / V+1) (hV:0<V) (hVP:V<P):o2=s % V:=by
 subst hq;have e:=qhl s V;have hm:=Nat.mod_lt s hV;rw [Nat.add_mul,Nat.one_mul] at h1;have h3:o2+P*c=s % V+P:=oo
 have hc:c=0\/c=1\/2<=c:=oo
 rcases hc with rfl | rfl | hc
 · omega
 · omega
 ·
  have:=Nat.mul_le_mul_left P hc
  omega
end Go.Proofs.YtmdlbpibipnapaaGreat
namespace Go.Proofs.YtmdlbpibipnapaaGreat
open Go.RowKit
theorem zz5 {P:Prop} (h:P:=by
 have hx65:x<=65535:=oo
 clear hpl;go_wp2;go_roundg (gk-1)
 case rel=>exact ⟨k+1,c2,1,o++[(x:Int)],by have:=HKM.out;omega,by go_num,rfl,rfl,oo,oo,fun e=>by have:=HCZ.out;omega,by show _=_;rw [List.length_append,hol.out];rfl,hou.app (U16.cons oo U16.nil),HSET.out x,qmf hgr _ _,HST.out⟩
 case measure=>have:=HKM.out;omega
 ):P:=h
theorem zz6 {P:Prop} (h:P:=by
 have hx65:x<=65535:=oo
 clear hpl;go_wp2;go_roundg (gk-1)
 case rel=>exact ⟨k+1,c2,0,o++[(x:Int)],by have:=HKM.out;omega,by go_num,rfl,rfl,oo,oo,fun e=>by have:=HCZ.out;omega,by show _=_;rw [List.length_append,hol.out];rfl,hou.app (U16.cons oo U16.nil),HSET.out x,qmf hgr _ _,HST.out⟩
 case measure=>have:=HKM.out;omega
 ):P:=h
theorem zz8 {P:Prop} (h:P:=by
 have h1:=qxn (L:=L) (o:=o) (j:=j) (by rw [hol.out];omega) z;rw [hol.out] at h1;rw [<- h1];exact hset z
 ):P:=h
theorem qit (L v:List Int) (r:List Value) (g j n q cu:Nat) (av:Option Addr) (cv:Nat) (w:World) (hR:RowN w g L r) (hU:U16 L) (hj:j+n+1<=L.length)
  (hv:NatR w av cv v) (hvl:v.length=n) (hvg:∀ p,av=some p->p.block≠g) (hq:q<=65535) (hcu:n+1<=cu) (hcu2:cu<=maxLen) :
  Calls Tryz.prog 130 #[.slice (some ⟨g,j,none⟩) (n+1) cu,.slice av v.length cv,.int .u32 q] w fun e w'=>∃ (o:List Int) (b:Nat),e=.returned (.bool (decide (b=1))) /\
   RowN w' g (midL L o j) r/\U16 o/\o.length=n+1/\b<=1/\val ((L.drop j).take (n+1))+65536 ^ (n+1)*b=q*val v+val o/\(b=1↔val ((L.drop j).take (n+1))<q*val v)/\w.grownBy w' (some g):=by
 have HV:=Hd hv;have HVG:=Hd hvg;have huv:=hv.u16;have hlv:=hv.len;have hsl:((L.drop j).take (n+1)).length=n+1:=by simp;omega
 have hsa:∀ k,k<n+1->qag ((L.drop j).take (n+1)) k=qag L (j+k):=fun k hk=>qey hk
 revert hsl hsa;generalize (L.drop j).take (n+1)=sg;intro hsl hsa;have HSL:=Hd hsl;have HSA:=Hd hsa;have HVL:=Hd hvl;have HR0:=Hd hR;have hlvn:v.length<n+1:=oo
 unfold maxLen at hcu2;clear hv hvg hsl hsa hvl hR;go_enter Tryz.func130,Tryz.ntmps130;go_wp2;obtain ⟨wo,rfl⟩:∃ wo:World,wo=w:=⟨_,rfl⟩
 go_loopg [7,8,9,10,13] (n+1) (fun m s7 s8 _ _ s13 wr=>∃ (k c b:Nat) (o:List Int),k+m=n+1/\s13=.int .i64 k/\s7=.int .u32 c/\s8=.int .i32 b/\b<=1/\c<=65535/\Hid (k=n+1->c=0)/\Hid (o.length=k)/\U16 o /\
  RowN wr g (midL L o j) r/\wo.grownBy wr (some g)/\Hid (val (sg.take k)+65536 ^ k*(c+b)=q*val (v.take k)+val o))
 case atStart=>exact ⟨0,0,0,[],oo,rfl,rfl,rfl,oo,oo,fun h=>by omega,rfl,U16.nil,by rw [qn4];exact HR0.out,qke _ _,by show _=_;simp [val]⟩
 case round =>
  obtain ⟨k,cc,bb,o,hkm,rfl,rfl,rfl,hb1,hc1,hcz,hol,hou,hrow,hgr,hval⟩:=hrel;have HROW:=Hd hrow;have HKM:=Hd hkm;clear hrow hkm;by_cases hlt:k<n+1
  ·
   obtain ⟨x,hx⟩:=qab (xs:=L) (k:=j+k) oo;obtain ⟨hx0,hx1⟩:=hU.get hx;have hmg:(midL L o j)[j+k]? = some x:=by
    have:=qo2 (L:=L) (o:=o) (j:=j) (by rw [hol.out];omega);rw [hol.out] at this;rw [this,hx]
   have hcell:=HROW.out.cell hmg;have hfr:=HROW.out.frozen (j+k);have hsx:qag sg k=x:=by rw [HSA.out k hlt,qax hx]
   have HSX:=Hd hsx;clear hmg hx hsx;obtain ⟨y,rfl⟩:∃ y:Nat,x=(y:Int):=⟨x.toNat,oo⟩
   have hset:=fun z:Int=>HROW.out.set_ (i:=j+k) (by rw [qgi (by rw [hol.out];omega)];omega) z
   have hset2:∀ z:Int,RowN (wr.setCell ⟨g,j+k,none⟩ (.int .u16 z)) g (midL L (o++[z]) j) r:=fun z=>by
    exact zz8
   have HSET:=Hd hset2;have hstep:=fun c2 b2 x p lo h1 h2 h3=>qqz sg v o k q cc bb c2 b2 x p lo hol.out hval.out h1 h2 h3
   rw [HSX.out,Int.toNat_natCast] at hstep;have HSTEP:=Hd hstep;clear hset hset2 hstep hval HSX hlv;by_cases hkn:k<v.length
   ·
    obtain ⟨z,hz⟩:=qab hkn;obtain ⟨bv,ov,rfl,hcv⟩:=HV.out.cell hz;obtain ⟨hz0,hz1⟩:=huv.get hz;have hcv2:wr.cell? ⟨bv,ov+k,none⟩=some (.int .u16 z):=hgr.cell hcv (fun e=>HVG.out _ rfl (by injection e));obtain ⟨t,rfl⟩:∃ t:Nat,z=(t:Int):=⟨z.toNat,oo⟩
    have hzl:=qax hz;have hp:q*t<=65535*65535:=Nat.mul_le_mul hq oo;have hpi:(q:Int)*(t:Int)=((q*t:Nat):Int):=by simp
    have HST:=HSTEP.out;rw [hzl,Int.toNat_natCast] at HST;have HVL2:=HVL.out;revert hp hpi HST;generalize q*t=P;intro hp hpi HST;obtain ⟨lo,hlo⟩:=nm ((cc+P) % 65536)
    obtain ⟨c2,hc2⟩:=nm ((cc+P) / 65536)
    have hw1:IntKind.u16.wrap ((cc:Int)+(P:Int))=(lo:Int):=by
     have:=qcn (cc+P);rw [hlo] at this;rw [<- this];simp
    have hw2:((cc:Int)+(P:Int)) / 65536=(c2:Int):=oo
    have hlo1:lo<=65535:=oo
    have hc21:c2<=65535:=oo
    have hpl:cc+P=lo+65536*c2:=oo
    have HCZ:Hid (k+1≠n+1):=Hd oo;clear hcv hz hzl hlo hc2 HVL2;by_cases hneg:(y:Int)-lo-bb<0
    ·
     obtain ⟨x,hx⟩:∃ x:Nat,(y:Int)-lo-bb+65536=(x:Int):=⟨((y:Int)-lo-bb+65536).toNat,oo⟩
     replace HST:=Hd (HST c2 1 x (cc+P) lo rfl hpl oo);exact zz5
    ·
     obtain ⟨x,hx⟩:∃ x:Nat,(y:Int)-lo-bb=(x:Int):=⟨((y:Int)-lo-bb).toNat,oo⟩
     replace HST:=Hd (HST c2 0 x (cc+P) lo rfl hpl oo);exact zz6
   ·
    have HST:=HSTEP.out;rw [qb1 oo] at HST;obtain ⟨c2,hc2⟩:∃ c2:Nat,c2=0:=⟨_,rfl⟩
    have hw2:(cc:Int) / 65536=(c2:Int):=oo
    have hc21:c2<=65535:=oo
    have HCZ:Hid (c2=0):=Hd hc2;have hpl:cc+q*(0:Int).toNat=cc+65536*c2:=by simp [hc2]
    clear hc2;by_cases hneg:(y:Int)-cc-bb<0
    ·
     obtain ⟨x,hx⟩:∃ x:Nat,(y:Int)-cc-bb+65536=(x:Int):=⟨((y:Int)-cc-bb+65536).toNat,oo⟩
     replace HST:=Hd (HST c2 1 x _ cc rfl hpl oo);exact zz5
    ·
     obtain ⟨x,hx⟩:∃ x:Nat,(y:Int)-cc-bb=(x:Int):=⟨((y:Int)-cc-bb).toNat,oo⟩
     replace HST:=Hd (HST c2 0 x _ cc rfl hpl oo);exact zz6
  ·
   have hke:k=n+1:=by have:=HKM.out;omega
   have hfin:=qsm hou HSL.out HVL.out (by rw [hol.out];exact hke) hb1 (by have:=hval.out;rw [hke] at this;exact this) (hcz.out hke);have HFIN:=Hd hfin;clear hfin;go_wp2;go_ret;refine ⟨o,bb,qbn ?_,HROW.out,hou,by rw [hol.out];exact hke,hb1,HFIN.out.1,HFIN.out.2,hgr⟩;rw [decide_eq_decide]
   omega
theorem zz7 {P:Prop} (h:P:=by
 go_wp2;go_roundg (gk-1)
 case rel=>exact ⟨k+1,c2,o++[(lo:Int)],by have:=HKM.out;omega,by go_num,rfl,oo,by show _=_;rw [List.length_append,hol.out];rfl,hou.app (U16.cons oo U16.nil),HSET.out lo,qmf hgr _ _,HST.out⟩
 case measure=>have:=HKM.out;omega
 ):P:=h
theorem qqb (L v:List Int) (r:List Value) (g j n cu:Nat) (av:Option Addr) (cv:Nat) (w:World) (hR:RowN w g L r) (hU:U16 L) (hj:j+n+1<=L.length)
  (hv:NatR w av cv v) (hvl:v.length=n) (hvg:∀ p,av=some p->p.block≠g) (hcu:n+1<=cu) (hcu2:cu<=maxLen) :
  Calls Tryz.prog 131 #[.slice (some ⟨g,j,none⟩) (n+1) cu,.slice av v.length cv] w fun e w'=>∃ (o:List Int) (c:Nat),e=.returned (.tuple #[]) /\
   RowN w' g (midL L o j) r/\U16 o/\o.length=n+1/\val o+65536 ^ (n+1)*c=val ((L.drop j).take (n+1))+val v/\w.grownBy w' (some g):=by
 have HV:=Hd hv;have HVG:=Hd hvg;have huv:=hv.u16;have hlv:=hv.len;have hsl:((L.drop j).take (n+1)).length=n+1:=by simp;omega
 have hsa:∀ k,k<n+1->qag ((L.drop j).take (n+1)) k=qag L (j+k):=fun k hk=>qey hk
 revert hsl hsa;generalize (L.drop j).take (n+1)=sg;intro hsl hsa;have HSL:=Hd hsl;have HSA:=Hd hsa;have HVL:=Hd hvl;have HR0:=Hd hR;have hlvn:v.length<n+1:=oo
 unfold maxLen at hcu2;clear hv hvg hsl hsa hvl hR;go_enter Tryz.func131,Tryz.ntmps131;go_wp2;obtain ⟨wo,rfl⟩:∃ wo:World,wo=w:=⟨_,rfl⟩
 go_loopg [4,5,8] (n+1) (fun m s4 _ s8 wr=>∃ (k c:Nat) (o:List Int),k+m=n+1/\s8=.int .i64 k/\s4=.int .u32 c/\c<=1/\Hid (o.length=k)/\U16 o /\
  RowN wr g (midL L o j) r/\wo.grownBy wr (some g)/\Hid (val o+65536 ^ k*c=val (sg.take k)+val (v.take k)))
 case atStart=>exact ⟨0,0,[],oo,rfl,rfl,oo,rfl,U16.nil,by rw [qn4];exact HR0.out,qke _ _,by show _=_;simp [val]⟩
 case round =>
  obtain ⟨k,cc,o,hkm,rfl,rfl,hc1,hol,hou,hrow,hgr,hval⟩:=hrel;have HROW:=Hd hrow;have HKM:=Hd hkm;clear hrow hkm;by_cases hlt:k<n+1
  ·
   obtain ⟨x,hx⟩:=qab (xs:=L) (k:=j+k) oo;obtain ⟨hx0,hx1⟩:=hU.get hx;have hmg:(midL L o j)[j+k]? = some x:=by
    have:=qo2 (L:=L) (o:=o) (j:=j) (by rw [hol.out];omega);rw [hol.out] at this;rw [this,hx]
   have hcell:=HROW.out.cell hmg;have hfr:=HROW.out.frozen (j+k);have hsx:qag sg k=x:=by rw [HSA.out k hlt,qax hx]
   have HSX:=Hd hsx;clear hmg hx hsx;obtain ⟨y,rfl⟩:∃ y:Nat,x=(y:Int):=⟨x.toNat,oo⟩
   have hset:=fun z:Int=>HROW.out.set_ (i:=j+k) (by rw [qgi (by rw [hol.out];omega)];omega) z
   have hset2:∀ z:Int,RowN (wr.setCell ⟨g,j+k,none⟩ (.int .u16 z)) g (midL L (o++[z]) j) r:=fun z=>by
    exact zz8
   have HSET:=Hd hset2;have hstep:=fun c2 d h1=>qh2 sg v o k cc c2 d hol.out hval.out h1
   rw [HSX.out,Int.toNat_natCast] at hstep;have HSTEP:=Hd hstep;clear hset hset2 hstep hval HSX hlv;by_cases hkn:k<v.length
   ·
    obtain ⟨z,hz⟩:=qab hkn;obtain ⟨bv,ov,rfl,hcv⟩:=HV.out.cell hz;obtain ⟨hz0,hz1⟩:=huv.get hz;have hcv2:wr.cell? ⟨bv,ov+k,none⟩=some (.int .u16 z):=hgr.cell hcv (fun e=>HVG.out _ rfl (by injection e));obtain ⟨t,rfl⟩:∃ t:Nat,z=(t:Int):=⟨z.toNat,oo⟩
    have hzl:=qax hz;have HST:=HSTEP.out;rw [hzl,Int.toNat_natCast] at HST;obtain ⟨lo,hlo⟩:=nm ((cc+y+t) % 65536)
    obtain ⟨c2,hc2⟩:=nm ((cc+y+t) / 65536)
    have hw1:IntKind.u16.wrap ((cc:Int)+(y:Int)+(t:Int))=(lo:Int):=by
     have:=qcn (cc+y+t);rw [hlo] at this;rw [<- this];simp
    have hw2:((cc:Int)+(y:Int)+(t:Int)) / 65536=(c2:Int):=oo
    have hlo1:lo<=65535:=oo
    have hc21:c2<=1:=oo
    replace HST:=Hd (HST c2 lo oo);clear hcv hz hzl hlo hc2;exact zz7
   ·
    have HST:=HSTEP.out;rw [qb1 oo] at HST;obtain ⟨lo,hlo⟩:=nm ((cc+y) % 65536)
    obtain ⟨c2,hc2⟩:=nm ((cc+y) / 65536)
    have hw1:IntKind.u16.wrap ((cc:Int)+(y:Int))=(lo:Int):=by
     have:=qcn (cc+y);rw [hlo] at this;rw [<- this];simp
    have hw2:((cc:Int)+(y:Int)) / 65536=(c2:Int):=oo
    have hlo1:lo<=65535:=oo
    have hc21:c2<=1:=oo
    replace HST:=Hd (HST c2 lo (by simp;omega));clear hlo hc2;exact zz7
  ·
   have hke:k=n+1:=by have:=HKM.out;omega
   have hfin:=qqf HSL.out HVL.out (by have:=hval.out;rw [hke] at this;exact this);have HFIN:=Hd hfin;clear hfin;go_wp2;exact ⟨rfl,.tuple #[],by kernel_rfl,o,cc,rfl,HROW.out,hou,by rw [hol.out];exact hke,HFIN.out,hgr⟩
end Go.Proofs.YtmdlbpibipnapaaGreat
namespace Go.Proofs.YtmdlbpibipnapaaGreat
theorem qgv {s:Nat} (hs:s<=16):65536=2 ^ (16-s)*2 ^ s:=by
 rw [<- Nat.pow_add,Nat.sub_add_cancel hs]
theorem qab4 {x s h:Nat} (hs:s<=16) (hh:h<2 ^ s):h ||| (x*2 ^ s) % 65536=h+(x*2 ^ s) % 65536:=by
 have e:(x*2 ^ s) % 65536=2 ^ s*(x % 2 ^ (16-s)):=by
  rw [qgv hs,Nat.mul_mod_mul_right,Nat.mul_comm]
 rw [e,Nat.or_comm,<- Nat.two_pow_add_eq_or_of_lt hh,Nat.add_comm]
theorem qac5 {x s:Nat} (hx:x<=65535):(x*2 ^ s) / 65536<2 ^ s:=by
 apply (Nat.div_lt_iff_lt_mul oo).2;have h1:0<2 ^ s:=Nat.two_pow_pos s;have h2:x*2 ^ s<=65535*2 ^ s:=Nat.mul_le_mul_right _ hx
 omega
theorem qgj {s:Nat} (hs:s<=15):2 ^ s<=32768:=by
 have:=Nat.pow_le_pow_right (n:=2) oo hs;simpa using this
structure Shl (a o : List Int) (k s i : Nat) : Prop where
 len:o.length=a.length+k+1
 u16:U16 o
 sum:val o=65536 ^ k*(2 ^ s*val (a.take i))
 cur:∃ h:Nat,o[i+k]? = some (h:Int)/\h<2 ^ s
 far:∀ j,i+k<j->j<o.length->o[j]? = some 0
theorem Shl.start (a:List Int) (k s:Nat):Shl a (List.replicate (a.length+k+1) 0) k s 0:=by
 refine ⟨by simp,qbw _,by simp [qfx,val],⟨0,?_,Nat.two_pow_pos s⟩,fun j hj hl=>?_⟩
 · rw [List.getElem?_replicate,if_pos oo];rfl
 ·
  simp at hl;rw [List.getElem?_replicate,if_pos hl]
theorem Shl.next {a o:List Int} {k s i:Nat} {x h:Nat} (hS:Shl a o k s i) (hs:s<=15) (hx:a[i]? = some (x:Int)) (hx2:x<=65535) (hh:o[i+k]? = some (h:Int)) :
  Shl a ((o.set (i+k) ((h ||| (x*2 ^ s) % 65536:Nat):Int)).set (i+k+1) ((x*2 ^ s / 65536:Nat):Int)) k s (i+1):=by
 obtain ⟨h',hc,hlt⟩:=hS.cur;rw [hh] at hc;injection hc with hc
 obtain rfl:h=h':=oo
 have hil:=qai hx;have hol:=hS.len;have hp:=qgj hs;have hw:x*2 ^ s<=65535*32768:=Nat.mul_le_mul hx2 hp;have hor:=qab4 (x:=x) (s:=s) (h:=h) oo hlt;have hnext:o[i+k+1]? = some 0:=hS.far _ oo oo;have hdvd:(x*2 ^ s) % 65536=2 ^ s*(x % 2 ^ (16-s)):=by
  rw [qgv (s:=s) oo,Nat.mul_mod_mul_right,Nat.mul_comm]
 have hsum:h+(x*2 ^ s) % 65536<=65535:=by
  rw [hdvd];have h1:x % 2 ^ (16-s)<2 ^ (16-s):=Nat.mod_lt _ (Nat.two_pow_pos _);have h2:2 ^ s*(x % 2 ^ (16-s)+1)<=2 ^ s*2 ^ (16-s):=Nat.mul_le_mul_left _ h1;have h3:=qgv (s:=s) oo;rw [Nat.mul_comm] at h3;rw [Nat.mul_add,<- h3] at h2
  omega
 have hhi:=qac5 (s:=s) hx2;have e1:=qjj hh ((h ||| (x*2 ^ s) % 65536:Nat):Int);have hn2:(o.set (i+k) ((h ||| (x*2 ^ s) % 65536:Nat):Int))[i+k+1]? = some 0:=by rw [List.getElem?_set_ne oo];exact hnext
 have e2:=qjj hn2 ((x*2 ^ s / 65536:Nat):Int);refine ⟨by simpa using hol,(hS.u16.set_ ⟨oo,oo⟩).set_ ⟨oo,oo⟩,?_,⟨x*2 ^ s / 65536,?_,hhi⟩,fun j hj hl=>?_⟩
 ·
  have hdm:=Nat.div_add_mod (x*2 ^ s) 65536;rw [hor] at e1 e2 ⊢;rw [Nat.pow_succ] at e2;simp only [Int.toNat_natCast,Int.toNat_zero,Nat.mul_zero,Nat.add_zero] at e1 e2;rw [Nat.mul_add] at e1;rw [qgf hx,Int.toNat_natCast,Nat.mul_add,Nat.mul_add,<- hS.sum];have e4:65536 ^ k*(2 ^ s*(65536 ^ i*x))=65536 ^ (i+k)*(x*2 ^ s):=by
   rw [Nat.pow_add,Nat.mul_comm (2 ^ s),Nat.mul_assoc (65536 ^ i) x,<- Nat.mul_assoc (65536 ^ k),Nat.mul_comm (65536 ^ k) (65536 ^ i)]
  rw [e4];have e5:=congrArg (65536 ^ (i+k) * ·) hdm;simp only [Nat.mul_add] at e5;rw [<- Nat.mul_assoc (65536 ^ (i+k)) 65536] at e5
  omega
 · rw [show i+1+k=i+k+1 by omega,List.getElem?_set_self (by simp;omega)]
 ·
  rw [List.getElem?_set_ne oo,List.getElem?_set_ne oo];exact hS.far j oo (by simpa using hl)
theorem Shl.done {a o:List Int} {k s:Nat} (h:Shl a o k s a.length):val o=val a*2 ^ (16*k+s):=by
 rw [h.sum,qaz (nlr _),Nat.pow_add,Nat.pow_mul,show 2 ^ 16=65536 by rfl,Nat.mul_comm (2 ^ s),<- Nat.mul_assoc,Nat.mul_comm (65536 ^ k),Nat.mul_assoc]
theorem qaa0 {x y z s:Nat} (hs:s<=16) (hx:x<65536):(x+65536*(y+65536*z)) / 2 ^ s=(x+65536*y) / 2 ^ s % 65536+65536*((y+65536*z) / 2 ^ s):=by
 have e1:(x+65536*(y+65536*z)) / 2 ^ s / 65536=(y+65536*z) / 2 ^ s:=by
  rw [Nat.div_div_eq_div_mul,Nat.mul_comm (2 ^ s) 65536,<- Nat.div_div_eq_div_mul];congr 1
  omega
 have e2:(x+65536*(y+65536*z)) / 2 ^ s % 65536=(x+65536*y) / 2 ^ s % 65536:=by
  have h3:x+65536*(y+65536*z)=(x+65536*y)+2 ^ s*(65536*(2 ^ (16-s)*z)):=by
   have h4:=qgv hs;have h5:2 ^ s*(65536*(2 ^ (16-s)*z))=65536*(65536*z):=by
    rw [<- Nat.mul_assoc (2 ^ s),Nat.mul_comm (2 ^ s) 65536,Nat.mul_assoc 65536,<- Nat.mul_assoc (2 ^ s),Nat.mul_comm (2 ^ s) (2 ^ (16-s)),<- h4]
   rw [h5]
   omega
  rw [h3,Nat.add_mul_div_left _ _ (Nat.two_pow_pos s),Nat.add_mul_mod_self_left]
 have h6:=Nat.div_add_mod ((x+65536*(y+65536*z)) / 2 ^ s) 65536;rw [e1,e2] at h6
 omega
theorem qyr {a:List Int} (ha:U16 a) {s:Nat} (i:Nat) (hs:s<=16):val (a.drop i) / 2 ^ s=((qag a i).toNat+65536*(qag a (i+1)).toNat) / 2 ^ s % 65536+65536*(val (a.drop (i+1)) / 2 ^ s):=by
 have hx:=qbd ha i;rw [qbe a i,qbe a (i+1)];exact qaa0 hs oo
end Go.Proofs.YtmdlbpibipnapaaGreat
namespace Go.Proofs.YtmdlbpibipnapaaGreat
open Go.RowKit
theorem qpr {l:List Int} (h:U16 l) (k:Nat):val (l.drop k)=val l / 65536 ^ k:=by
 obtain ⟨lo,hlo,e⟩:=qbv h k;have e2:val l / 65536 ^ k=val (l.drop k):=by rw [e,Nat.add_comm,Nat.mul_add_div (by have:=qi1 k;omega),Nat.div_eq_of_lt hlo,Nat.add_zero]
 exact e2.symm
theorem qu2 {n s:Nat}:n / 65536 ^ (s / 16) / 2 ^ (s % 16)=n / 2 ^ s:=by
 rw [Nat.div_div_eq_div_mul,show (65536:Nat)=2 ^ 16 by rfl,<- Nat.pow_mul,<- Nat.pow_add];congr 2
 omega
structure Shr (a o : List Int) (s i : Nat) : Prop where
 u16:U16 o
 sum:val a / 2 ^ s=val (o.take i)+65536 ^ i*(val (a.drop i) / 2 ^ s)
theorem Shr.start (a:List Int) (s n:Nat):Shr a (List.replicate n 0) s 0:=⟨qbw _,by simp [val]⟩
theorem Shr.next {a o:List Int} {s i:Nat} (h:Shr a o s i) (ha:U16 a) (hs:s<=16) (hi:i<o.length) :
  Shr a (o.set i ((((qag a i).toNat+65536*(qag a (i+1)).toNat) / 2 ^ s % 65536:Nat):Int)) s (i+1):=by
 have e:=qyr ha i hs;have e1:=h.sum;rw [e] at e1;have hx:((qag a i).toNat+65536*(qag a (i+1)).toNat) / 2 ^ s % 65536<=65535:=oo
 generalize ((qag a i).toNat+65536*(qag a (i+1)).toNat) / 2 ^ s % 65536=x at e1 hx ⊢;refine ⟨h.u16.set_ oo,?_⟩;have g:(o.set i (x:Int))[i]? = some (x:Int):=by simp [hi]
 rw [qgf g,List.take_set_of_le (nlr _),e1,Nat.mul_add,Nat.pow_succ,Nat.mul_assoc];simp
 omega
theorem zz9 {P:Prop} (h:P:=by
 go_wp2;go_roundg (gk-1)
 case rel=>exact ⟨i+1,O.set i (X:Int),by have:=HIG.out;omega,by go_num,HO.out.set_ i _,by show _=_;rw [List.length_set];exact hOl.out,hwr.setCell (nlr _) _,HNX2.out⟩
 case measure=>have:=HIG.out;omega
 ):P:=h
theorem qwa (l:List Int) (n s:Nat) (a:Option Addr) (c:Nat) (w:World) (h:NatR w a c l) (hn:val l=n) (hl:l.length<=16777216) (hs:s<=1048576) :
  Calls Tryz.prog 128 #[.slice a l.length c,.int .i64 s] w (RetN (limbs (n / 2 ^ s)) w):=by
 have H:=Hd h;have hu:=h.u16;have HN:=Hd hn;have hq:((s:Int)).tdiv 16=((s / 16:Nat):Int):=rfl;have hr:((s:Int)).tmod 16=((s % 16:Nat):Int):=rfl;have hsp:=qu2 (n:=n) (s:=s);have ht:s % 16<=15:=oo
 have hk:s / 16<=65536:=oo
 have HSP:=Hd hsp;revert hq hr ht hk HSP;generalize s / 16=k;generalize s % 16=t;intro hq hr ht hk HSP;clear h hn hsp;by_cases hkl:l.length<=k
 ·
  have h0:n / 2 ^ s=0:=by
   rw [<- HSP.out,Nat.div_eq_of_lt (a:=n),Nat.zero_div];have h1:=qcs hu;rw [HN.out] at h1;exact ltl h1 (Nat.pow_le_pow_right oo hkl)
  rw [h0,qao];clear h0;go_enter Tryz.func128,Tryz.ntmps128;go_wp2;go_ret;exact ⟨none,0,rfl,fun _ _=>SlR.nil,Below.refl _ _⟩
 ·
  obtain ⟨m,hm⟩:∃ m:Nat,l.length=k+m:=⟨l.length-k,oo⟩
  have hm0:0<m:=oo
  have hmi:(l.length:Int)-(k:Int)=(m:Int):=oo
  have hmk:=qco .i64 m oo w;have HM:=Hd hm;have hkl2:k<l.length:=oo
  have hdk:decide (l.length<=k)=false:=by simp;omega
  clear hm hkl;go_enter Tryz.func128,Tryz.ntmps128;go_wp2;clear hmk;have hz:=BlkN.new w m;have hb0:Below w.heap.size w (w.alloc (.cells (madeCells #[.int .u16 0] m) 105)):=brf.alloc (nlr _) _;revert hz hb0;generalize w.alloc (.cells (madeCells #[.int .u16 0] m) 105)=w0;intro hz hb0
  go_loopg [8,9,25] m (fun g _ _ s25 wr=>∃ (i:Nat) (O:List Int),i+g=m/\s25=.int .i64 i/\BlkN wr w.heap.size O/\Hid (O.length=m)/\Below w.heap.size w wr/\Shr (l.drop k) O t i)
  case atStart=>exact ⟨0,List.replicate m 0,oo,rfl,hz,by show _=_;simp,hb0,Shr.start _ _ _⟩
  case round =>
   clear hz hb0;obtain ⟨i,O,hig,rfl,hO,hOl,hwr,hS⟩:=hrel;have HIG:=Hd hig;have HO:=Hd hO;clear hig hO;by_cases hlt:i<m
   ·
    obtain ⟨x,hx⟩:=qab (xs:=l) (k:=k+i) (by have:=HM.out;omega);obtain ⟨b,off,rfl,hc⟩:=(H.out.ext (xbw hwr)).cell hx;obtain ⟨hx0,hx1⟩:=hu.get hx;obtain ⟨y,rfl⟩:∃ y:Nat,x=(y:Int):=⟨x.toNat,oo⟩
    have hc2:wr.cell? ⟨b,off+(i+k),none⟩=some (.int .u16 y):=by rw [Nat.add_comm i k];exact hc
    have hil:i+k<l.length:=by have:=HM.out;omega
    obtain ⟨u,hu2⟩:=qab (xs:=O) (k:=i) (by rw [hOl.out];exact hlt);have hcell:=HO.out.cell hu2;have hfr:=HO.out.frozen i;have hnext:=hS.next (hu.drop k) (show t<=16 by omega) (show i<O.length by rw [hOl.out];exact hlt);rw [qg7,qg7,qax hx,Int.toNat_natCast] at hnext;have HNX:=Hd hnext;clear hnext hS;by_cases hlast:i+1<m
    ·
     obtain ⟨x2,hx2⟩:=qab (xs:=l) (k:=k+i+1) (by have:=HM.out;omega);obtain ⟨b3,off3,e3,hc3⟩:=(H.out.ext (xbw hwr)).cell hx2;injection e3 with e3
     injection e3 with e3 e4
     subst e3;subst e4;obtain ⟨hy0,hy1⟩:=hu.get hx2;obtain ⟨z,rfl⟩:∃ z:Nat,x2=(z:Int):=⟨x2.toNat,oo⟩
     have hc4:wr.cell? ⟨b,off+(i+k+1),none⟩=some (.int .u16 z):=by rw [Nat.add_comm i k];exact hc3
     have hil2:i+k+1<l.length:=by have:=HM.out;omega
     have hnx:=HNX.out;rw [show k+(i+1)=k+i+1 by omega,qax hx2,Int.toNat_natCast] at hnx;obtain ⟨W,hW⟩:=nm (y+65536*z)
     obtain ⟨X,hX⟩:=nm (W / 2 ^ t % 65536)
     rw [hW,hX] at hnx;have hor:bits .or .u32 (y:Int) ((z:Int)*65536)=(W:Int):=by
      have h1:=qg3 (r:=z) (x:=y) oo;have h2:=u32_or_nat y (z*65536) oo oo;rw [Nat.or_comm,h1,show z*65536+y=W by omega] at h2;simpa using h2
     have hshr:IntKind.u16.wrap ((W:Int) / 2 ^ t)=(X:Int):=by
      have:=qcn (W / 2 ^ t);rw [hX] at this;rw [<- this];simp
     have HNX2:=Hd hnx;have hX2:X<=65535:=oo
     clear hc3 hx2 hx hW hX hnx HNX;exact zz9
    ·
     have hil2:l.length=i+k+1:=by have:=HM.out;omega
     have HIL:=Hd hil2;have hdl:decide (((i:Int)+(k:Int)+1)<(l.length:Int))=false:=by simp;omega
     have hnx:=HNX.out;rw [qb1 oo] at hnx;obtain ⟨X,hX⟩:=nm (y / 2 ^ t % 65536)
     rw [show y+65536*(0:Int).toNat=y by simp,hX] at hnx;have hshr:IntKind.u16.wrap ((y:Int) / 2 ^ t)=(X:Int):=by
      have:=qcn (y / 2 ^ t);rw [hX] at this;rw [<- this];simp
     have HNX2:=Hd hnx;have hX2:X<=65535:=oo
     have hge:¬ ((i:Int)+(k:Int)+1<(l.length:Int)):=oo
     clear hx hX hnx HNX hil2;exact zz9
   ·
    have hval:val O=n / 2 ^ s:=by
     have h1:=hS.sum;rw [qpr hu,HN.out,HSP.out,List.drop_drop,qaw (by have:=HM.out;omega),Nat.zero_div,Nat.mul_zero,Nat.add_zero,qaz (by rw [hOl.out];omega)] at h1;exact h1.symm
    have hcap:O.length<=maxLen:=by rw [hOl.out];unfold maxLen;omega
    have CT:=qa4 O _ _ wr (HO.out.readsV (nlr _) (New.refl _ _) hS.u16 (nlr _) hcap);have hrd:∀ V,New w.heap.size wr V->NatR V (some ⟨w.heap.size,0,none⟩) O.length (limbs (n / 2 ^ s)):=fun V hV=>by
     rw [<- hval];exact (HO.out.readsV (nlr _) hV hS.u16 (nlr _) hcap).trim
    rw [hval,hOl.out] at CT;rw [hOl.out] at hrd;replace CT:=Hd CT;have HRD:=Hd hrd;clear hrd hval hS;go_wp2_with fail;refine CT.out.mono ?_;rintro e w1 ⟨rfl,rfl⟩;go_wp2;go_ret;exact ⟨_,_,rfl,HRD.out,hwr⟩
theorem quo16 (s:Nat):((s:Int)).tdiv 16=((s / 16:Nat):Int):=rfl
theorem rem16 (s:Nat):((s:Int)).tmod 16=((s % 16:Nat):Int):=rfl
theorem qi9 (l:List Int) (n s:Nat) (a:Option Addr) (c:Nat) (w:World) (h:NatR w a c l) (hn:val l=n) (h0:0<n) (hl:l.length<=10000000) (hs:s<=1048576) :
  Calls Tryz.prog 84 #[.slice a l.length c,.int .i64 s] w fun e w'=>∃ a1 c1,e=.returned (.slice a1 (limbs (n*2 ^ s)).length c1)/\OwnN w.heap.size w' a1 c1 (limbs (n*2 ^ s))/\Below w.heap.size w w':=by
 have CT:=qa4 l a c w h;have hT:=h.trim;have hlt:=qah h.u16;rw [hn] at CT hT hlt;have hTl:(limbs n).length<=10000000:=oo
 have hTp:=qat.2 h0;have hu:=qa9 n;have hv:=qac n;revert CT hT hTl hTp hu hv;generalize limbs n=T;intro CT hT hTl hTp hu hv;have hq:=quo16 s;have hr:=rem16 s;have hsp:16*(s / 16)+s % 16=s:=oo
 have ht:s % 16<=15:=oo
 have hk:s / 16<=65536:=oo
 have HSP:=Hd hsp;revert hq hr ht hk HSP;generalize s / 16=k;generalize s % 16=t;intro hq hr ht hk HSP;have HT:=Hd hT;have HV:=Hd hv;replace CT:=Hd CT;have hmk:=qfy .i64 (T.length+k+1) (T.length+k+3) oo oo w;simp only [Int.natCast_add,Int.cast_ofNat_Int] at hmk;have hne:((T.length:Int)==0)=false:=by rw [beq_eq_false_iff_ne];omega
 clear h hn hlt hT hv hsp h0;go_enter Tryz.func84,Tryz.ntmps84;go_wp2_with fail;refine CT.out.mono ?_;rintro e w1 ⟨rfl,rfl⟩;go_wp2;clear hmk hne;have hz0:=BlkN.new w (T.length+k+3);have hb0:Below w.heap.size w (w.alloc (.cells (madeCells #[.int .u16 0] (T.length+k+3)) 105)):=brf.alloc (nlr _) _;have hz:RowN (w.alloc (.cells (madeCells #[.int .u16 0] (T.length+k+3)) 105)) w.heap.size (List.replicate (T.length+k+1) 0) [.int .u16 0,.int .u16 0]:=by
  have h1:=(RowN.of hz0).cut (T.length+k+1);have e1:(List.replicate (T.length+k+3) (0:Int)).take (T.length+k+1)=List.replicate (T.length+k+1) 0:=by rw [List.take_replicate];congr 1;omega
  have e2:(List.replicate (T.length+k+3) (0:Int)).drop (T.length+k+1)=[0,0]:=by rw [List.drop_replicate,show T.length+k+3-(T.length+k+1)=2 by omega];rfl
  rw [e1,e2] at h1;exact h1
 clear hz0;revert hz hb0;generalize w.alloc (.cells (madeCells #[.int .u16 0] (T.length+k+3)) 105)=w0;intro hb0 hz
 go_loopg [8,9,10,47] T.length (fun g _ _ _ s47 wr=>∃ (i:Nat) (O:List Int),i+g=T.length/\s47=.int .i64 i/\RowN wr w.heap.size O [.int .u16 0,.int .u16 0]/\Below w.heap.size w wr/\Shl T O k t i)
 case atStart=>exact ⟨0,_,oo,rfl,hz,hb0,Shl.start _ _ _⟩
 case round =>
  clear hz hb0;obtain ⟨i,O,hig,rfl,hO,hwr,hS⟩:=hrel;have HIG:=Hd hig;have HO:=Hd hO;have HSL:=Hd hS.len;clear hig hO;by_cases hlt:i<T.length
  ·
   obtain ⟨x,hx⟩:=qab hlt;obtain ⟨b,off,rfl,hc⟩:=(HT.out.ext (xbw hwr)).cell hx;obtain ⟨hx0,hx1⟩:=hu.get hx;obtain ⟨y,rfl⟩:∃ y:Nat,x=(y:Int):=⟨x.toNat,oo⟩
   obtain ⟨h,hh,hh2⟩:=hS.cur;have hiO:i+k<O.length:=by have:=HSL.out;omega
   have hiO2:i+k+1<O.length:=by have:=HSL.out;omega
   have hnx:=hS.next ht hx oo hh;have hfar:=hS.far (i+k+1) oo hiO2;have hcell:=HO.out.cell hh;have hcell2:=HO.out.cell hfar;have hfr:=HO.out.frozen (i+k);have hfr2:=HO.out.frozen (i+k+1);have hset:=(HO.out.set_ hiO (((h ||| y*2 ^ t % 65536:Nat)):Int)).set_ (i:=i+k+1) (by simpa using hiO2) ((y*2 ^ t / 65536:Nat):Int);have hwl:y*2 ^ t<=65535*32768:=Nat.mul_le_mul oo (qgj ht);have hyt:(y:Int)*2 ^ t % 4294967296=((y*2 ^ t:Nat):Int):=by
    have e1:((y*2 ^ t:Nat):Int)=(y:Int)*2 ^ t:=by simp
    rw [<- e1]
    omega
   have hh3:h<=65535:=by have:=qgj ht;omega
   revert hnx hset hwl hyt;generalize y*2 ^ t=W;intro hnx hset hwl hyt;obtain ⟨lo,hlo⟩:=nm (W % 65536)
   obtain ⟨hi,hhi⟩:=nm (W / 65536)
   rw [hlo,hhi] at hnx hset;have hw1:IntKind.u16.wrap (W:Int)=(lo:Int):=by rw [qcn,hlo]
   have hw2:IntKind.u16.wrap ((W:Int) / 65536)=(hi:Int):=by
    have:=qcn (W / 65536);rw [hhi,Nat.mod_eq_of_lt oo] at this;rw [<- this,<- hhi];simp
   have hor:=u16_or_nat h lo oo oo;have HNX:=Hd hnx;have HSET:=Hd hset;revert hor HNX HSET;generalize h ||| lo=ho
   intro hor HNX HSET;clear hnx hset hlo hhi hx hS hh hfar;go_wp2;go_roundg (gk-1)
   case rel=>exact ⟨i+1,_,by have:=HIG.out;omega,by go_num,HSET.out,(hwr.setCell (nlr _) _).setCell (nlr _) _,HNX.out⟩
   case measure=>have:=HIG.out;omega
  ·
   have hit:i=T.length:=by have:=HIG.out;omega
   have hval:val O=n*2 ^ s:=by
    rw [hit] at hS;rw [hS.done,HV.out,HSP.out]
   have hcap:T.length+k+3<=maxLen:=by unfold maxLen;omega
   have hrd:NatR wr (some ⟨w.heap.size,0,none⟩) (T.length+k+3) O:=HO.out.readsV (nlr _) (New.refl _ _) hS.u16 (by rw [HSL.out];omega) hcap;have CT2:=qa4 O _ _ wr hrd;obtain ⟨m,hm,e⟩:=qi5 hS.u16;have hown:OwnN w.heap.size wr (some ⟨w.heap.size,0,none⟩) (T.length+k+3) (O.take m):=HO.out.own (nlr _) (by rw [HSL.out];simp) hcap m hm;rw [<- e,hval] at hown;rw [hval,HSL.out] at CT2;replace CT2:=Hd CT2;have HOWN:=Hd hown;clear hown hval hS e hrd hit;go_wp2_with fail;refine CT2.out.mono ?_;rintro e w1 ⟨rfl,rfl⟩;go_wp2;go_ret;exact ⟨_,_,rfl,HOWN.out,hwr⟩
end Go.Proofs.YtmdlbpibipnapaaGreat
