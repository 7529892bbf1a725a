/- Walks: bits of a number, signs, sums of the reference, integers out of int. -/
import Derived.Test.YtfaalkneigpcnaaGreatDoorIt1
import Derived.Test.YtfaalkneigpcnaaGreatDoorIt2
import Derived.Deep.DeepCutAuto
import Derived.Deep.LoopGhost
import Derived.Test.YtfaalkneigpcnaaGreatDoorIt4
import Derived.Deep.CutRange
import Derived.Test.YtfaalkneigpcnaaGreatDoorProg
import Derived.Ground.NamesProg
import Derived.Shelf.Lays
import Derived.Shelf.Small.Bits
set_option linter.all false
set_option maxRecDepth 100000
set_option maxHeartbeats 4000000
namespace Go.Proofs.YtfaalkneigpcnaaGreatDoor
open Go.RowKit
theorem qcr (l:List Int) (k:Nat) (a:Option Addr) (c:Nat) (w:World) (h:NatR w a c l) :
  Calls Tryz.prog 221 #[.slice a l.length c,.int .i64 k] w fun r w'=>r=.returned (.int .i64 (qae l k))/\w=w':=by
 have hl:=h.len;have hU:=h.u16;by_cases hlt:k<l.length
 ·
  obtain ⟨x,hx⟩:=qac hlt;obtain ⟨b,off,rfl,hc⟩:=h.cell hx;have hxr:=hU.get hx;have he:qae l k=x:=qas hx;rw [he];clear h hU he hx;obtain ⟨hx0,hx1⟩:=hxr;go_enter Tryz.func221,Tryz.ntmps221;go_wp2;go_ret;exact ⟨rfl,rfl⟩
 ·
  have he:qae l k=0:=qbr (by omega);rw [he];clear h hU he;go_enter Tryz.func221,Tryz.ntmps221;go_wp2;go_ret;exact ⟨rfl,rfl⟩
theorem qlv (l:List Int) (k:Nat) (a:Option Addr) (c:Nat) (w:World) (h:NatR w a c l) :
  Calls Tryz.prog 221 #[.slice a l.length c,.int .i64 k] w fun r w'=>r=.returned (.int .i64 (qae l k))/\w'=w :=
 (qcr l k a c w h).mono fun _ _ h=>⟨h.1,h.2.symm⟩
theorem qbb (l:List Int) (a:Option Addr) (c:Nat) (w:World) (h:NatR w a c l) (hl:l.length<=16777216) :
  Calls Tryz.prog 147 #[.slice a l.length c] w (RetN (limbs (val l)) w):=by
 have hcap:=h.1;have hmx:=h.2.1;have H:=Hd h;clear h;unfold maxLen at hmx;go_enter Tryz.func147,Tryz.ntmps147;go_wp2
 go_loop [3] (fun n=>∃ k:Nat,k<=l.length/\n=.int .i64 k/\Hid (val (l.drop k)=0)) (fun n=>(intOf n).toNat)
 case atStart=>exact ⟨l.length,nlr _,rfl,qar (nlr _)⟩
 case round =>
  obtain ⟨k,hk,rfl,hz⟩:=hrel;by_cases h0:k=0
  ·
   subst h0;have hg:decide ((0:Int)<((0:Nat):Int))=false:=by simp
   have hcut:limbs (val l)=[]:=by
    have:val l=0:=by simpa using hz.out
    rw [this,qag]
   go_wp2_with (at_builtin;go_must (refine qcw (B:=w.heap.size) rfl (.tmp 19) (.tmp 22) rfl none 0 (l:=[]) rfl Own.nil a c (m:=[]) rfl H.out.zero [] rfl (by simp) (nlr _) ?_);intro a' c' w1 hown hg1 hb1);go_ret;exact RetN.own hown U16.nil hb1 rfl rfl
  ·
   have hgt:decide ((0:Int)<(k:Int))=true:=by simp;omega
   have hk1:(k:Int)-1=((k-1:Nat):Int):=by omega
   obtain ⟨x,hx⟩:=qac (xs:=l) (k:=k-1) (by omega);obtain ⟨b,off,rfl,hc⟩:=H.out.cell hx;have hr:=H.out.u16.get hx;have hge:(0:Int)<=(k:Int)-1:=by omega
   have hvd:=qb8 hx;have ek:k-1+1=k:=by omega
   rw [ek] at hvd;have HV:=Hd hvd;have HX:=Hd hx;have HK:=Hd hk1;have hc':w.cell? ⟨b,off+(k-1),none⟩=some (.int .u16 x):=hc;clear hvd hx hc ek hk1;by_cases hx0:x=0
   ·
    subst hx0;have e0:((0:Int)==0)=true:=rfl;go_wp2
    all_goals
     go_round
     case rel=>exact ⟨k-1,by omega,by rw [HK.out],by show val _=0;rw [HV.out,hz.out];rfl⟩
     case measure=>simp [intOf];omega
   ·
    have e0:(x==0)=false:=by simpa using hx0
    have hcut:limbs (val l)=l.take k:=qgl H.out.u16 hz.out (fun y _ hy=>by
     rw [HX.out] at hy;injection hy with hy
     rw [<- hy];exact hx0) hk
    have HC:=Hd hcut;clear hcut;have hlen:(l.take k).length=k:=by simp;omega
    have HL:=Hd hlen;clear hlen;go_wp2_with (at_builtin;go_must (refine qcw (B:=w.heap.size) rfl (.tmp 19) (.tmp 22) rfl none 0 (l:=[]) rfl Own.nil (some ⟨b,off,none⟩) c (m:=l.take k) (by rw [HL.out];rfl) (H.out.take k) (l.take k) rfl (by rw [HL.out];omega) (nlr _) ?_);intro a' c' w1 hown hg1 hb1);go_ret;exact RetN.own hown (H.out.u16.take k) hb1 HC.out HL.out.symm
theorem qb1 (n:Nat) (w:World) (hn:n<18446744073709551616) :
  Calls Tryz.prog 74 #[.int .u64 n] w (RetN (limbs n) w):=by
 go_enter Tryz.func74,Tryz.ntmps74;go_wp2
 go_loopw [0,3] (fun i s wr=>∃ (m:Nat) (l:List Int) (a:Option Addr) (c:Nat),m<=n/\i=.int .u64 m/\s=.slice a l.length c/\OwnN w.heap.size wr a c l/\U16 l/\l.length<=1000/\Below w.heap.size w wr/\Hid (limbs n=l++limbs m)) (fun i _ _=>(intOf i).toNat)
 case atStart=>exact ⟨n,[],none,0,nlr _,rfl,rfl,Own.nil,U16.nil,by simp,Below.refl _ _,rfl⟩
 case round =>
  obtain ⟨m,l,a,c,hm,rfl,rfl,ho,hU,hlen,hb,hr⟩:=hrel;have HO:=Hd ho;clear ho;by_cases h0:m=0
  ·
   subst h0;have HR:limbs n=l:=by have:=hr.out;rw [qag] at this;simpa using this
   replace HR:=Hd HR;go_wp2;go_ret;exact RetN.own HO.out hU hb HR.out rfl
  ·
   have hgt:decide ((0:Int)<(m:Int))=true:=by simp;omega
   have hs:limbs m=((m % 65536:Nat):Int) :: limbs (m / 65536):=qbq h0;have hr2:limbs n=(l++[((m % 65536:Nat):Int)])++limbs (m / 65536):=by rw [hr.out,hs];simp
   have HR:=Hd hr2;clear hs hr2;have hlt:m<18446744073709551616:=by omega
   have hm1:((m:Int) % 65536)=((m % 65536:Nat):Int):=by omega
   have hm2:((m:Int) / 65536)=((m / 65536:Nat):Int):=by omega
   have HM1:=Hd hm1;have HM2:=Hd hm2;clear hm1 hm2;go_wp2_with (at_builtin;go_must (refine qc5 rfl (.tmp 6) (.tmp 10) rfl a c rfl (HO.out.alloc _) ((m % 65536:Nat):Int) wr.heap.size 1 rfl (by simp <;> omega) (l++[((m % 65536:Nat):Int)]) rfl (by simp;omega) (by have:=hb.size;simp;omega) ?_);intro a2 c2 w2 ho2 hg2 hx2)
   go_roundw
   case rel =>
    have hb1:Below w.heap.size w w2:=qaq (hb.alloc hb.size _) (HO.out.alloc _) hg2;have hl4:(l++[((m % 65536:Nat):Int)]).length<=1000:=by
     have h4:(limbs n).length<=4:=qal (by simpa using hn);rw [HR.out] at h4;simp only [List.length_append] at h4 ⊢
     omega
    exact ⟨m / 65536,l++[((m % 65536:Nat):Int)],a2,c2,by omega,by rw [HM2.out],by simp,ho2,hU.app (U16.cons (by omega) U16.nil),hl4,hb1,HR.out⟩
   case measure=>rw [HM2.out];simp [intOf];omega
theorem qm4 (l:List Int) (k:Nat):val (l.drop k)<=val l:=by
 by_cases hk:k<=l.length
 ·
  have:=qby l k;have h1:1<=65536 ^ (l.take k).length:=Nat.one_le_pow _ _ (by omega);have h2:=Nat.mul_le_mul_right (val (l.drop k)) h1
  omega
 · rw [qar (by omega)];omega
theorem qfg (l:List Int) (a:Option Addr) (c:Nat) (w:World) (h:NatR w a c l) (hv:val l<18446744073709551616) :
  Calls Tryz.prog 149 #[.slice a l.length c] w fun r w'=>r=.returned (.int .u64 (val l))/\w=w':=by
 have hlen:=h.len;have H:=Hd h;clear h;go_enter Tryz.func149,Tryz.ntmps149;go_wp2
 go_loop [3,4] (fun n i=>∃ k:Nat,k<=l.length/\i=.int .i64 ((k:Int)-1)/\n=.int .u64 (val (l.drop k):Nat)) (fun _ i=>(intOf i+1).toNat)
 case atStart=>exact ⟨l.length,nlr _,rfl,by rw [qar (nlr _)];rfl⟩
 case round =>
  obtain ⟨k,hk,rfl,rfl⟩:=hrel;by_cases h0:k=0
  ·
   subst h0;go_wp2;go_ret;exact ⟨by simp,rfl⟩
  ·
   have hgt:decide ((0:Int)<=(k:Int)-1)=true:=by simp;omega
   have hge:(0:Int)<=(k:Int)-1:=by omega
   obtain ⟨x,hx⟩:=qac (xs:=l) (k:=k-1) (by omega);obtain ⟨b,off,rfl,hc⟩:=H.out.cell hx;obtain ⟨hx0,hx1⟩:=H.out.u16.get hx;have hvd:=qb8 hx;have ek:k-1+1=k:=by omega
   rw [ek] at hvd;have hle:=qm4 l (k-1);have HV:=Hd hvd;have hb1:(val (l.drop k):Int)*65536+x<=18446744073709551615:=by omega
   have hb0:0<=(val (l.drop k):Int)*65536:=by omega
   have hb2:(val (l.drop k):Int)*65536<=18446744073709551615:=by omega
   clear hvd ek hx hle;go_wp2
   all_goals
    go_round
    case rel=>exact ⟨k-1,by omega,by first | (congr 1;omega) | rfl,qd2 (by rw [HV.out];omega)⟩
    case measure=>simp [intOf];omega
theorem qgj (l m:List Int) (a a':Option Addr) (c c':Nat) (w:World) (h:NatR w a c l) (h':NatR w a' c' m) (hl:l.length<=16777216) (hm:m.length<=16777216) :
  Calls Tryz.prog 246 #[.slice a l.length c,.slice a' m.length c'] w fun r w'=>r=.returned (.int .i64 (cmpN (val l) (val m)))/\w=w':=by
 have hU:=h.u16;have hU':=h'.u16;have H:=Hd h;have H':=Hd h';clear h h';go_enter Tryz.func246,Tryz.ntmps246;go_wp2
 all_goals
  go_loop [5] (fun i=>∃ k:Nat,k<=16777216/\i=.int .i64 ((k:Int)-1)/\Hid (val (l.drop k)=val (m.drop k))) (fun i=>(intOf i+1).toNat)
  case atStart=>first
    | exact ⟨m.length,hm,rfl,by show _=_;rw [qar (by omega),qar (by omega)]⟩
    | exact ⟨l.length,hl,rfl,by show _=_;rw [qar (by omega),qar (by omega)]⟩
    | exact ⟨max l.length m.length,by omega,qd2 (by omega),by show _=_;rw [qar (by omega),qar (by omega)]⟩
  case round =>
   obtain ⟨k,hk,rfl,he⟩:=hrel;by_cases h0:k=0
   ·
    subst h0;have hz:cmpN (val l) (val m)=0:=by have:=he.out;simp at this;rw [this];simp [cmpN]
    replace hz:=Hd hz;go_wp2;go_ret;exact ⟨qcc hz.out.symm,rfl⟩
   ·
    have hgt:decide ((0:Int)<=(k:Int)-1)=true:=by simp;omega
    have hge:(0:Int)<=(k:Int)-1:=by omega
    have ek:k-1+1=k:=by omega
    have hkk:(k:Int)-1=((k-1:Nat):Int):=by omega
    have CX:=qcr l (k-1) a c w H.out;have CY:=qcr m (k-1) a' c' w H'.out;have hlx:=qa8 hU (k-1);have hly:=qa8 hU' (k-1);have hL:val (l.drop k)=val (m.drop k)->qae l (k-1)<qae m (k-1)->val l<val m:=fun e=>qfc hU hU' (k-1) (by rw [ek];exact e)
    have hG:val (l.drop k)=val (m.drop k)->qae m (k-1)<qae l (k-1)->val m<val l:=fun e=>qfc hU' hU (k-1) (by rw [ek];exact e.symm)
    have hE:val (l.drop k)=val (m.drop k)->qae l (k-1)=qae m (k-1)->val (l.drop (k-1))=val (m.drop (k-1)):=fun e e2=>by rw [qa9,qa9 (l:=m),ek,e,e2]
    rw [<- hkk] at CX CY;revert CX CY hlx hly hL hG hE;generalize qae l (k-1)=x;generalize qae m (k-1)=y;intro CX CY hlx hly hL hG hE;replace CX:=Hd CX;replace CY:=Hd CY;replace hL:=hL he.out;replace hG:=hG he.out;have HE:=Hd (hE he.out);clear hE hkk;by_cases hlt:x<y
    ·
     have hv:=hL hlt;clear hL hG HE;go_wp2_with (go_at_call 221;(first | ((with_reducible refine CX.out.mono ?_);rintro e w' ⟨rfl,rfl⟩) | ((with_reducible refine CY.out.mono ?_);rintro e w' ⟨rfl,rfl⟩)));go_ret;exact ⟨qcc (by unfold cmpN;rw [if_pos hv]),rfl⟩
    ·
     by_cases hgt2:y<x
     ·
      have hv:=hG hgt2;clear hL hG HE;go_wp2_with (go_at_call 221;(first | ((with_reducible refine CX.out.mono ?_);rintro e w' ⟨rfl,rfl⟩) | ((with_reducible refine CY.out.mono ?_);rintro e w' ⟨rfl,rfl⟩)));go_ret;exact ⟨qcc (by unfold cmpN;rw [if_neg (by omega),if_pos hv]),rfl⟩
     ·
      clear hL hG;go_wp2_with (go_at_call 221;(first | ((with_reducible refine CX.out.mono ?_);rintro e w' ⟨rfl,rfl⟩) | ((with_reducible refine CY.out.mono ?_);rintro e w' ⟨rfl,rfl⟩)))
      all_goals
       go_round
       case rel=>exact ⟨k-1,by omega,by first | (congr 1;omega) | rfl,HE.out (by omega)⟩
       case measure=>simp [intOf];omega
def qcf (l:List Int):Bool:=decide (limbs (val l)=l)
theorem qfh {l:List Int} (h:U16 l) {x:Int} (hx:l[l.length-1]? = some x) (_:0<l.length):qcf l = !(x==0):=by
 unfold qcf;by_cases hx0:x=0
 ·
  subst hx0;simp only [beq_self_eq_true,Bool.not_true,decide_eq_false_iff_not];intro e;have:(limbs (val l)).getLast? = some 0:=by rw [e,List.getLast?_eq_getElem?];exact hx
  exact qft this rfl
 ·
  have e:(x==0)=false:=by simpa using hx0
  rw [e];simp only [Bool.not_false,decide_eq_true_eq];refine qfi h fun y hy=>?_
  rw [List.getLast?_eq_getElem?,hx] at hy;injection hy with hy
  rw [<- hy];exact hx0
theorem qhp (l:List Int) (a:Option Addr) (c:Nat) (w:World) (h:NatR w a c l) :
  Calls Tryz.prog 100 #[.slice a l.length c] w fun r w'=>r=.returned (.bool (qcf l))/\w=w':=by
 have hlen:=h.len;have H:=Hd h;clear h;by_cases h0:l.length=0
 ·
  have hl:l=[]:=List.eq_nil_of_length_eq_zero h0;subst hl;have hc:qcf []=true:=by simp [qcf,val,qag]
  rw [hc];clear hc h0;go_enter Tryz.func100,Tryz.ntmps100;go_wp2;go_ret;exact ⟨rfl,rfl⟩
 ·
  obtain ⟨x,hx⟩:=qac (xs:=l) (k:=l.length-1) (by omega);obtain ⟨b,off,rfl,hc⟩:=H.out.cell hx;have hcan:=qfh H.out.u16 hx (by omega);have HC:=Hd hcan;have hb:((l.length:Int)==0)=false:=by simp;exact fun e=>h0 (by simp [e])
  have hge:(0:Int)<=(l.length:Int)-1:=by omega
  clear hcan hx;by_cases hx0:x=0
  ·
   subst hx0;go_enter Tryz.func100,Tryz.ntmps100;go_wp2;go_ret;exact ⟨qbf (by rw [HC.out];rfl),rfl⟩
  ·
   have e0:(x==0)=false:=by simpa using hx0
   have e1:(x != 0)=true:=by simpa using hx0
   go_enter Tryz.func100,Tryz.ntmps100;go_wp2;go_ret;exact ⟨qbf (by rw [HC.out,e0];rfl),rfl⟩
theorem qiq (xs ys:List Int) (a a':Option Addr) (c c':Nat) (w:World) (h:NatR w a c xs) (h':NatR w a' c' ys) :
  Calls Tryz.prog 73 #[.slice a xs.length c,.slice a' ys.length c'] w fun r w'=>r=.returned (.bool (decide (xs=ys)))/\Below w.heap.size w w':=by
 have H:=Hd h;have H':=Hd h';have hl:=h.len;have hl':=h'.len;clear h h';by_cases hlen:xs.length=ys.length
 ·
  have hlb:((xs.length:Int) != (ys.length:Int))=false:=by simp;omega
  have HL:=Hd hlen;clear hlen;go_enter Tryz.func73,Tryz.ntmps73;go_wp2
  go_loopw [5] (fun i wr=>∃ k:Nat,k<=xs.length/\i=.int .i64 k/\Below w.heap.size w wr/\Hid (xs.take k=ys.take k)) (fun i _=>xs.length-(intOf i).toNat)
  case atStart=>exact ⟨0,by omega,rfl,Below.refl _ _,by simp [Hid]⟩
  case round =>
   obtain ⟨k,hk,rfl,hb,hp⟩:=hrel;by_cases hlt:k<xs.length
   ·
    obtain ⟨x,hx⟩:=qac hlt;obtain ⟨y,hy⟩:=qac (xs:=ys) (k:=k) (by have:=HL.out;omega);obtain ⟨b,off,rfl,hE⟩:=H.out.2.2 k x hx;obtain ⟨b',off',rfl,hE'⟩:=H'.out.2.2 k y hy;have hc:wr.cell? ⟨b,off+k,none⟩=some (.int .u16 x):=by have:=(hE.ext (xbw hb)).1;simpa using this
    have hc':wr.cell? ⟨b',off'+k,none⟩=some (.int .u16 y):=by have:=(hE'.ext (xbw hb)).1;simpa using this
    have hky:(k:Int)<(ys.length:Int):=by have:=HL.out;omega
    have HX:=Hd hx;have HY:=Hd hy;clear hx hy hE hE';by_cases he:x=y
    ·
     have hbe:(x != y)=false:=by simpa using he
     have HE:=Hd he;clear he;go_wp2
     go_quiet (fail)
     go_wp2;refine ⟨⟨k+1,by omega,by go_num,below_drewN hb _,?_⟩,by simp [intOf];omega⟩;rw [qbh HX.out,qbh HY.out,hp.out,HE.out];rfl
    ·
     have hbe:(x != y)=true:=by simpa using he
     have HE:=Hd he;clear he;go_wp2
     go_quiet (fail)
     go_wp2;go_ret;refine ⟨qbf ?_,below_drewN hb _⟩;refine (decide_eq_false (fun e=>HE.out ?_)).symm;have h1:=HX.out;have h2:=HY.out;rw [e,h2] at h1;exact (Option.some.inj h1).symm
   ·
    go_wp2;go_ret;refine ⟨qbf ?_,hb⟩;have:=hp.out;rw [qew hlt,List.take_of_length_le (by have:=HL.out;omega)] at this;rw [this];simp
 ·
  have hlb:((xs.length:Int) != (ys.length:Int))=true:=by simp;omega
  have hd:decide (xs=ys)=false:=decide_eq_false (fun e=>hlen (by rw [e]));rw [hd];clear hlen hd;go_enter Tryz.func73,Tryz.ntmps73;go_wp2;go_ret;exact ⟨rfl,Below.refl _ _⟩
def RetNE (l:List Int) (x:Int) (w:World) (e:Ending) (w':World):Prop:=∃ a c,e=.returned (.tuple #[.slice a l.length c,.int .i64 x])/\(∀ V,New w.heap.size w' V->NatR V a c l)/\Below w.heap.size w w'
theorem qw8 (l m:List Int) (n k:Nat) (a a':Option Addr) (c c':Nat) (w:World) (h:NatR w a c l) (h':NatR w a' c' m) (hn:val l=n) (hk:val m=k) (hl:l.length<=16777216) (hm:m.length<=16777216) (hlt:n<k) :
  Calls Tryz.prog 216 #[.slice a l.length c,.slice a' m.length c'] w (RetNE [] 2 w):=by
 have C:=qgj l m a a' c c' w h h' hl hm;have hc:cmpN (val l) (val m) = -1:=by subst hn;subst hk;unfold cmpN;rw [if_pos hlt]
 rw [hc] at C;replace C:=Hd C;clear h h' hn hk hc hlt;go_enter Tryz.func216,Tryz.ntmps216;go_wp2_with (go_at_call 246;refine C.out.mono ?_;rintro e w' ⟨rfl,rfl⟩);go_ret2;exact ⟨none,0,rfl,fun _ _=>SlR.nil,Below.refl _ _⟩
theorem qry (l m:List Int) (n k:Nat) (a a':Option Addr) (c c':Nat) (w:World) (h:NatR w a c l) (h':NatR w a' c' m) (hn:val l=n) (hk:val m=k) (hl:l.length<=16777215) (hm:m.length<=16777216) (hge:k<=n) :
  Calls Tryz.prog 216 #[.slice a l.length c,.slice a' m.length c'] w (RetNE (limbs (n-k)) 0 w):=by
 have C:=qgj l m a a' c c' w h h' (by omega) hm;have hc:0<=cmpN (val l) (val m):=by subst hn;subst hk;exact qi8.2 hge
 have hU:=h.u16;have hU':=h'.u16;have H:=Hd h;have H':=Hd h';have HN:=Hd hn;have HK:=Hd hk;have HU:=Hd hU;have HU':=Hd hU';revert C hc;generalize cmpN (val l) (val m)=q;intro C hc;replace C:=Hd C;have hcf:decide (q<0)=false:=by simp;omega
 clear h h' hn hk hU hU' hc;go_enter Tryz.func216,Tryz.ntmps216;go_wp2_with (go_at_call 246;refine C.out.mono ?_;rintro e w' ⟨rfl,rfl⟩);clear C hcf
 go_loopw [6,7,8,9] (fun s b i _ wr=>∃ (j bo:Nat) (o:List Int) (ao:Option Addr) (co:Nat),j<=l.length/\bo<=1/\i=.int .i64 j/\b=.int .i64 bo/\s=.slice ao o.length co/\OwnN w.heap.size wr ao co o/\U16 o/\Below w.heap.size w wr /\
  Hid (o.length=j)/\Hid (val (l.take j)+65536 ^ j*bo=val (m.take j)+val o)) (fun _ _ i _ _=>l.length-(intOf i).toNat)
 case atStart=>exact ⟨0,0,[],none,0,by omega,by omega,rfl,rfl,rfl,Own.nil,U16.nil,Below.refl _ _,rfl,by simp [Hid,val]⟩
 case round =>
  obtain ⟨j,bo,o,ao,co,hj,hbo,rfl,rfl,rfl,ho,hUo,hb,hlen,hv⟩:=hrel;have HO:=Hd ho;have HUO:=Hd hUo;clear ho hUo;by_cases hlt:j<l.length
  ·
   have CX:=qcr l j a c wr (H.out.ext (xbw hb));have CY:=qcr m j a' c' wr (H'.out.ext (xbw hb));obtain ⟨hx0,hx1⟩:=qa8 HU.out j;obtain ⟨hy0,hy1⟩:=qa8 HU'.out j;have hstep:=fun bo2 d=>qmi l m o j bo bo2 d hlen.out hv.out
   revert CX CY hx0 hx1 hy0 hy1 hstep;generalize qae l j=x;generalize qae m j=y;intro CX CY hx0 hx1 hy0 hy1 hstep;replace CX:=Hd CX;replace CY:=Hd CY;have HS:=Hd hstep;clear hstep;by_cases hd:x-y-bo<0
   ·
    have HS2:=HS.out 1 (x-y-bo+65536).toNat (by omega);have ed:((x-y-(bo:Int)+65536).toNat:Int)=x-y-bo+65536:=by omega
    rw [ed] at HS2;replace HS2:=Hd HS2;clear ed;go_wp2_with (first
     | (go_at_call 221;(first | ((with_reducible refine CX.out.mono ?_);rintro e w' ⟨rfl,rfl⟩) | ((with_reducible refine CY.out.mono ?_);rintro e w' ⟨rfl,rfl⟩)))
     | (at_builtin;go_must (refine qc5 rfl (.tmp 33) (.tmp 36) rfl ao co rfl (HO.out.alloc _) (x-y-bo+65536) wr.heap.size 1 rfl (by simp) (o++[x-y-bo+65536]) rfl (by have:=hlen.out;simp;omega) (by have:=hb.size;simp;omega) ?_);intro a2 c2 w2 ho2 hg2 hx2))
    go_roundw
    case rel =>
     have hb1:Below w.heap.size w w2:=qaq (hb.alloc hb.size _) (HO.out.alloc _) hg2;exact ⟨j+1,1,_,a2,c2,by omega,by omega,by go_num,rfl,by simp,ho2,HUO.out.app (U16.cons (by omega) U16.nil),hb1,by show _=_;rw [List.length_append,hlen.out];rfl,HS2.out⟩
    case measure=>simp [intOf];omega
   ·
    have HS2:=HS.out 0 (x-y-bo).toNat (by omega);have ed:((x-y-(bo:Int)).toNat:Int)=x-y-bo:=by omega
    rw [ed] at HS2;replace HS2:=Hd HS2;clear ed;go_wp2_with (first
     | (go_at_call 221;(first | ((with_reducible refine CX.out.mono ?_);rintro e w' ⟨rfl,rfl⟩) | ((with_reducible refine CY.out.mono ?_);rintro e w' ⟨rfl,rfl⟩)))
     | (at_builtin;go_must (refine qc5 rfl (.tmp 33) (.tmp 36) rfl ao co rfl (HO.out.alloc _) (x-y-bo) wr.heap.size 1 rfl (by simp) (o++[x-y-bo]) rfl (by have:=hlen.out;simp;omega) (by have:=hb.size;simp;omega) ?_);intro a2 c2 w2 ho2 hg2 hx2))
    go_roundw
    case rel =>
     have hb1:Below w.heap.size w w2:=qaq (hb.alloc hb.size _) (HO.out.alloc _) hg2;exact ⟨j+1,0,_,a2,c2,by omega,by omega,by go_num,rfl,by simp,ho2,HUO.out.app (U16.cons (by omega) U16.nil),hb1,by show _=_;rw [List.length_append,hlen.out];rfl,HS2.out⟩
    case measure=>simp [intOf];omega
  ·
   obtain rfl:j=l.length:=by omega
   have hval:val o=n-k:=by
    have:=qn9 HU.out HU'.out HUO.out hlen.out hv.out (by rw [HN.out,HK.out];exact hge);rw [this,HN.out,HK.out]
   have CN:=qbb o ao co wr (HO.out.reads1 HUO.out) (by have:=hlen.out;omega);rw [hval] at CN;replace CN:=Hd CN;clear hval;go_wp2_with (go_at_call 147;refine CN.out.mono ?_;rintro e w2 ⟨a2,c2,rfl,hV,hb2⟩);go_ret2;exact ⟨a2,c2,rfl,fun V hV'=>hV V (hV'.base hb.size),bth hb hb2⟩
theorem qkc (l m:List Int) (n1 n2:Nat) (a a':Option Addr) (c c':Nat) (w:World) (h:NatR w a c l) (h':NatR w a' c' m) (hn:val l=n1) (hk:val m=n2) (hl:l.length<=8000000) (hm:m.length<=8000000) :
  Calls Tryz.prog 217 #[.slice a l.length c,.slice a' m.length c'] w (RetN (limbs (n1*n2)) w):=by
 have hU:=h.u16;have hU':=h'.u16;have H:=Hd h;have H':=Hd h';have HN:=Hd hn;have HK:=Hd hk;have HU:=Hd hU;have HU':=Hd hU';have hmk:∀ w,(Instr.makeSlice 47 (.int .i64 ((l.length:Int)+m.length+1)) (.int .i64 ((l.length:Int)+m.length+1))).run Tryz.prog w=.ok (.slice (some ⟨w.heap.size,0,none⟩) (l.length+m.length+1) (l.length+m.length+1)) (w.alloc (.cells (madeCells #[.int .u16 0] (l.length+m.length+1)) 102)):=fun w=>by
  have:=qca .i64 (l.length+m.length+1) (by omega) w;simpa using this
 clear h h' hn hk hU hU';go_enter Tryz.func217,Tryz.ntmps217;go_wp2;have hB0:=BlkN.new w (l.length+m.length+1);have hb0:Below w.heap.size w (w.alloc (.cells (madeCells #[.int .u16 0] (l.length+m.length+1)) 102)):=brf.alloc (nlr _) _;revert hB0 hb0;generalize w.alloc (.cells (madeCells #[.int .u16 0] (l.length+m.length+1)) 102)=w0;intro hB0 hb0;clear hmk
 go_loopw [6,7,8,9] (fun i _ _ _ wr=>∃ (j:Nat) (o:List Int),j<=l.length/\i=.int .i64 j/\BlkN wr w.heap.size o/\U16 o/\Below w.heap.size w wr/\Hid (o.length=l.length+m.length+1)/\Hid (val o=val (l.take j)*val m)) (fun i _ _ _ _=>l.length-(intOf i).toNat)
 case atStart=>exact ⟨0,_,by omega,rfl,hB0,qbl _,hb0,by simp [Hid],by show _=_;rw [qeg];simp [val]⟩
 case round =>
  obtain ⟨j,o,hj,rfl,hB,hUo,hb,hlen,hv⟩:=hrel;clear hB0 hb0;by_cases hlt:j<l.length
  ·
   obtain ⟨x,hx⟩:=qac hlt;have hxr:=HU.out.get hx;have HX:=Hd hx;obtain ⟨ba,oa,rfl,hcx⟩:=H.out.cell hx;have HCX:=Hd hcx;have HB:=Hd hB;have HUO:=Hd hUo;clear hx hcx hB hUo;obtain ⟨hx0,hx1⟩:=hxr;go_wp2
   go_loopw [7,8,9] (fun ca k _ w2=>∃ (cy kk:Nat) (o2:List Int),kk<=m.length+1/\cy<=65535/\ca=.int .u64 cy/\k=.int .i64 kk/\BlkN w2 w.heap.size o2/\U16 o2/\Below w.heap.size w w2/\Hid (o2.length=l.length+m.length+1) /\
    Hid (val o2+65536 ^ (j+kk)*cy=val (l.take j)*val m+65536 ^ j*(x.toNat*val (m.take kk)))) (fun _ k _ _=>m.length+2-(intOf k).toNat)
   case atStart=>exact ⟨0,0,o,by omega,by omega,rfl,rfl,HB.out,HUO.out,hb,hlen.out,by show _=_;rw [hv.out];simp [val]⟩
   case round =>
    clear HB HUO hlen hv hb o;obtain ⟨cy,kk,o,hkk,hcy,rfl,rfl,hB,hUo,hb,hlen,hv⟩:=hrel;have HB:=Hd hB;have HUO:=Hd hUo;clear hB hUo;by_cases hA:kk<m.length\/0<cy
    ·
     have hk2:kk<=m.length:=by
      rcases Nat.lt_or_ge kk m.length with h1 | h1
      · omega
      · exact qu8 HU.out HU'.out HX.out h1 (by omega) hv.out
     obtain ⟨z,hz⟩:=qac (xs:=o) (k:=j+kk) (by have:=hlen.out;omega);obtain ⟨hz0,hz1⟩:=HUO.out.get hz;have CY:=fun n=>qlv m kk a' c' (wr.drewN n) (H'.out.ext (xbw (below_drewN hb n)))
     obtain ⟨hy0,hy1⟩:=qa8 HU'.out kk;have hstep:=fun c2 d y e=>qk0 l m o j kk cy c2 d z x y hz e hv.out
     have hcar:=fun (c2 d:Nat) (y:Int) (hy0:0<=y) (hy1:y<=65535)=>qk5 (z:=z.toNat) (x:=x.toNat) (y:=y.toNat) (c:=cy) (d:=d) (c2:=c2) (by omega) (by omega) (by omega) hcy
     have cx:=xbw hb _ _ HCX.out;have cz:=HB.out.cell hz;have fz:=HB.out.frozen (j+kk);have hgl:=HB.out.lt;replace hstep:=fun c2 d=>hstep c2 d _ rfl
     revert CY hy0 hy1 hstep;generalize qae m kk=y;intro CY hy0 hy1 hstep;have HZ:=Hd hz;have HS:=Hd hstep;have HC:=Hd hcar;clear hz hstep hcar;have hxy:0<=x*y:=Int.mul_nonneg hx0 hy0;have hxy2:x*y<=4294836225:=by
      have:=Int.mul_le_mul hx1 hy1 hy0 (by omega)
      omega
     have wi1:IntKind.i64.wrap ((j:Int)+kk)=(j:Int)+kk:=IntWalk.i64_in _ (by omega);have wu1:IntKind.u64.wrap (x*y)=x*y:=IntWalk.u64_in _ (by omega);have wu2:IntKind.u64.wrap (z+x*y)=z+x*y:=IntWalk.u64_in _ (by omega);have wu3:IntKind.u64.wrap (z+x*y+cy)=z+x*y+cy:=IntWalk.u64_in _ (by omega);have wx:IntKind.u64.wrap x=x:=IntWalk.u64_in _ (by omega);have wz:IntKind.u64.wrap z=z:=IntWalk.u64_in _ (by omega);have wy:IntKind.u64.wrap y=y:=IntWalk.u64_in _ (by omega);have hji:(0:Int)<=(j:Int)+kk:=by omega
     have hjt:((j:Int)+kk).toNat=j+kk:=by omega
     have hsl:(j:Int)+kk<(l.length:Int)+m.length+1:=by omega
     replace CY:=Hd CY;by_cases hkl:kk<m.length
     all_goals
      go_wp2
      go_quiet ((go_at_call 221;exact Calls.quiet_of_same (CY.out _)))
      clear wi1 wu1 wu2 wu3 wy wx wz hjt;go_wp2
      go_roundw
      case rel =>
       obtain ⟨s,es⟩:∃ s:Nat,(s:Int)=z+x*y+cy:=⟨(z+x*y+cy).toNat,by omega⟩
       have es2:s=z.toNat+x.toNat*y.toNat+cy:=by
        have ex:(x.toNat:Int)=x:=by omega
        have ey:(y.toNat:Int)=y:=by omega
        have ez:(z.toNat:Int)=z:=by omega
        have:((z.toNat+x.toNat*y.toNat+cy:Nat):Int)=z+x*y+cy:=by
         rw [Int.natCast_add,Int.natCast_add,Int.natCast_mul,ex,ey,ez]
        omega
       have em:(z+x*y+(cy:Int)) % 65536=((s % 65536:Nat):Int):=by omega
       have ed:(z+x*y+(cy:Int)) / 65536=((s / 65536:Nat):Int):=by omega
       have hd:s % 65536+65536*(s / 65536)=z.toNat+x.toNat*y.toNat+cy:=by omega
       have hset:BlkN ((wr.drewN nq).setCell ⟨w.heap.size,j+kk,none⟩ (.int .u16 ((z+x*y+(cy:Int)) % 65536))) w.heap.size (o.set (j+kk) ((s % 65536:Nat):Int)):=by
        rw [em];exact BlkN.set_ (show BlkN (wr.drewN nq) w.heap.size o from HB.out) _ _
       exact ⟨s / 65536,kk+1,o.set (j+kk) ((s % 65536:Nat):Int),by omega,HC.out _ _ y hy0 hy1 hd,by rw [ed],by go_num,hset,HUO.out.set_ (by omega),
        (below_drewN hb nq).setCell (p:=⟨w.heap.size,j+kk,none⟩) (nlr _) _,by show _=_;rw [List.length_set,hlen.out],HS.out _ _ hd⟩
      case measure=>simp [intOf];omega
    ·
     obtain rfl:cy=0:=by omega
     have hk2:m.length<=kk:=by omega
     have hfin:val o=val (l.take (j+1))*val m:=by
      have:=hv.out;rw [qau hk2,qjc l m j x HX.out] at this;simpa using this
     replace hfin:=Hd hfin;go_wp2
     go_roundw
     case rel=>exact ⟨j+1,o,by omega,by go_num,HB.out,HUO.out,hb,hlen.out,hfin.out⟩
     case measure=>simp [intOf];omega
  ·
   obtain rfl:j=l.length:=by omega
   have hval:val o=n1*n2:=by
    have:=hv.out;rw [this,qau (nlr _),HN.out,HK.out]
   have hol:=hlen.out;have CN:=qbb o (some ⟨w.heap.size,0,none⟩) (l.length+m.length+1) wr (hB.readsV (nlr _) (New.refl _ _) hUo (by omega) (by simp [maxLen];omega)) (by omega);rw [hval,hlen.out] at CN;replace CN:=Hd CN;clear hval hol;go_wp2_with (go_at_call 147;refine CN.out.mono ?_;rintro e w2 ⟨a2,c2,rfl,hV,hb2⟩);go_ret;exact ⟨a2,c2,rfl,fun V hV'=>hV V (hV'.base hb.size),bth hb hb2⟩
theorem qmv (l m:List Int) (n1 n2:Nat) (a a':Option Addr) (c c':Nat) (w:World) (h:NatR w a c l) (h':NatR w a' c' m) (hn:val l=n1) (hk:val m=n2) (hl:l.length<=4000000) (hm:m.length<=4000000)
  (h0:0<n2) (hq:n1 / n2<=65535) :
  Calls Tryz.prog 215 #[.slice a l.length c,.slice a' m.length c'] w fun e w'=>e=.returned (.int .u64 ((n1 / n2:Nat):Int))/\Below w.heap.size w w':=by
 have H:=Hd h;have H':=Hd h';have HN:=Hd hn;have HK:=Hd hk;obtain ⟨q,hqe⟩:∃ q,n1 / n2=q:=⟨_,rfl⟩
 have hdiv:∀ d,d*n2<=n1↔d<=q:=fun d=>by rw [<- hqe];exact (Nat.le_div_iff_mul_le h0).symm
 rw [hqe] at hq ⊢;have HD:=Hd hdiv;clear h h' hn hk hqe hdiv;go_enter Tryz.func215,Tryz.ntmps215;go_wp2
 go_loopw [5,6,7] (fun x y _ wr=>∃ lo hi:Nat,lo<=q/\q<=hi/\hi<=65535/\x=.int .u64 lo/\y=.int .u64 hi/\Below w.heap.size w wr) (fun x y _ _=>(intOf y).toNat-(intOf x).toNat)
 case atStart=>exact ⟨0,65535,by omega,by omega,by omega,rfl,rfl,Below.refl _ _⟩
 case round =>
  obtain ⟨lo,hi,hlo,hhi,hhi2,rfl,rfl,hb⟩:=hrel;by_cases hlt:lo<hi
  ·
   obtain ⟨d,hd⟩:∃ d:Nat,d=(lo+hi+1) / 2:=⟨_,rfl⟩
   have hd1:lo<d:=by omega
   have hd2:d<=hi:=by omega
   have hde:((lo:Int)+hi+1) / 2=(d:Int):=by omega
   have hd3:d<18446744073709551616:=by omega
   have HDE:=Hd hde;clear hd hde;have CO:=fun w=>qb1 d w hd3
   replace CO:=Hd CO;go_wp2_with fail;rw [HDE.out];refine (CO.out _).mono ?_;rintro e w1 ⟨a1,c1,rfl,hV1,hb1⟩;have hbw1:=bth hb hb1;have hr1:=hV1 w1 (New.refl _ _);have hlen1:(limbs d).length<=1:=qal (by omega);have CM:=qkc m (limbs d) n2 d a' a1 c' c1 w1 (H'.out.ext (xbw hbw1)) hr1 HK.out (qaa d) (by omega) (by omega);replace CM:=Hd CM;clear hV1 hr1 hb1 hb CO;go_wp2_with fail;refine CM.out.mono ?_;rintro e w2 ⟨a2,c2,rfl,hV2,hb2⟩;have hbw2:=bth hbw1 hb2;have hr2:=hV2 w2 (New.refl _ _);have hlen2:(limbs (n2*d)).length<=4000001:=by
    have h1:=qaz n2 d;have h2:=qaf H'.out.u16;rw [HK.out] at h2
    omega
   have CC:=qgj (limbs (n2*d)) l a2 a c2 c w2 hr2 (H.out.ext (xbw hbw2)) (by omega) (by omega);rw [qaa,HN.out] at CC;have hcm:cmpN (n2*d) n1<=0↔d<=q:=by rw [qv7,Nat.mul_comm];exact HD.out d
   revert CC hcm;generalize cmpN (n2*d) n1=cv;intro CC hcm;replace CC:=Hd CC;clear hV2 hr2 hb2 hbw1 CM hlen2 hlen1;by_cases hle:d<=q
   ·
    have hcv:decide (cv<=0)=true:=by simpa using hcm.2 hle
    clear hcm;go_wp2_with fail;refine CC.out.mono ?_;rintro e w3 ⟨rfl,rfl⟩;go_wp2
    go_roundw
    case rel=>exact ⟨d,hi,hle,hhi,hhi2,rfl,rfl,hbw2⟩
    case measure=>simp [intOf];omega
   ·
    have hcv:decide (cv<=0)=false:=by simp;have:=fun h=>hle (hcm.1 h);omega
    clear hcm;go_wp2_with fail;refine CC.out.mono ?_;rintro e w3 ⟨rfl,rfl⟩;go_wp2
    go_roundw
    case rel=>exact ⟨lo,d-1,hlo,by omega,by omega,rfl,qd2 (by omega),hbw2⟩
    case measure=>simp [intOf];omega
  ·
   obtain rfl:lo=q:=by omega
   go_wp2;go_ret;exact ⟨rfl,hb⟩
def RetDM (n1 n2 : Nat) (w : World) (e : Ending) (w' : World) : Prop := ∃ a1 c1 a2 c2, e = .returned (.tuple #[.slice a1 (limbs (n1 / n2)).length c1, .slice a2 (limbs (n1 % n2)).length c2, .int .i64 0]) ∧
   (∀ V,New w.heap.size w' V->NatR V a1 c1 (limbs (n1 / n2)))/\(∀ V,New w.heap.size w' V->NatR V a2 c2 (limbs (n1 % n2)))/\Below w.heap.size w w'
theorem qji (l m:List Int) (n1 n2:Nat) (a a':Option Addr) (c c':Nat) (w:World) (h:NatR w a c l) (h':NatR w a' c' m) (hn:val l=n1) (hk:val m=n2) (hl:l.length<=2000000) (hm:m.length<=2000000)
  (h0:0<n2) (hs1:(limbs n1).length<=4) (hs2:(limbs n2).length<=4) :
  Calls Tryz.prog 148 #[.slice a l.length c,.slice a' m.length c'] w (RetDM n1 n2 w):=by
 have H:=Hd h;have H':=Hd h';have C1:=qbb l a c w h (by omega);rw [hn] at C1;replace C1:=Hd C1;have hv1:n1<18446744073709551616:=by have:=qa2 n1;have h2:=Nat.pow_le_pow_right (show 0<65536 by omega) hs1;omega
 have hv2:n2<18446744073709551616:=by have:=qa2 n2;have h2:=Nat.pow_le_pow_right (show 0<65536 by omega) hs2;omega
 have hne:((limbs n2).length:Int)≠0:=by have:=qan.2 h0;omega
 have hbz:(((limbs n2).length:Int)==0)=false:=by simpa using hne
 have hd1:decide (((limbs n1).length:Int)<=4)=true:=by simp;omega
 have hd2:decide (((limbs n2).length:Int)<=4)=true:=by simp;omega
 have HK:=Hd hk;clear h h' hn hne hs1 hs2 hk;go_enter Tryz.func148,Tryz.ntmps148;go_wp2_with fail;refine C1.out.mono ?_;rintro e w1 ⟨a1,c1,rfl,hV1,hb1⟩;have C2:=qbb m a' c' w1 (H'.out.ext (xbw hb1)) (by omega);rw [HK.out] at C2;replace C2:=Hd C2;clear C1;have HV1:=Hd hV1;clear hV1;go_wp2_with fail;refine C2.out.mono ?_;rintro e w2 ⟨a2,c2,rfl,hV2,hb2⟩;have hb:=bth hb1 hb2;have hr1:=HV1.out w2 ((New.refl _ w2).below hb2);have hr2:=hV2 w2 (New.refl _ _);have S1:=fun W (hW:Below w2.heap.size w2 W)=>qfg (limbs n1) a1 c1 W (hr1.ext (xbw hW)) (by rw [qaa];exact hv1)
 have S2:=fun W (hW:Below w2.heap.size w2 W)=>qfg (limbs n2) a2 c2 W (hr2.ext (xbw hW)) (by rw [qaa];exact hv2)
 rw [qaa] at S1 S2;replace S1:=Hd S1;replace S2:=Hd S2;have hz2:((n2:Int)==0)=false:=by simp;omega
 clear hV2 hb1 hb2 C2 HV1 hr1 hr2;have hq1:n1 / n2<18446744073709551616:=Nat.lt_of_le_of_lt (Nat.div_le_self _ _) hv1;have hq2:n1 % n2<18446744073709551616:=Nat.lt_of_le_of_lt (Nat.mod_le _ _) hv1;have hm1:IntKind.u64.wrap ((n1:Int) / n2)=((n1 / n2:Nat):Int):=by
  have e:((n1:Int) / n2)=((n1 / n2:Nat):Int):=by simp
  rw [e];exact IntWalk.u64_in _ ⟨Int.natCast_nonneg _,by omega⟩
 have hm2:((n1:Int) % n2)=((n1 % n2:Nat):Int):=by simp
 have HM1:=Hd hm1;have HM2:=Hd hm2;have CO1:=fun w=>qb1 (n1 / n2) w hq1
 have CO2:=fun w=>qb1 (n1 % n2) w hq2
 replace CO1:=Hd CO1;replace CO2:=Hd CO2;have hn2:(1:Int)<=n2:=by omega
 clear hm1 hm2 hq1 hq2 hv1 hv2;go_wp2_with fail;refine (S1.out _ brf).mono ?_;rintro e w3 ⟨rfl,rfl⟩;go_wp2_with fail;refine (S2.out _ brf).mono ?_;rintro e w3 ⟨rfl,rfl⟩;go_wp2_with fail;rw [HM1.out];refine (CO1.out _).mono ?_;rintro e w3 ⟨a3,c3,rfl,hV3,hb3⟩;have HV3:=Hd hV3;clear hV3;go_wp2_with fail;refine (S1.out _ hb3).mono ?_;rintro e w4 ⟨rfl,rfl⟩;go_wp2_with fail;refine (S2.out _ hb3).mono ?_;rintro e w4 ⟨rfl,rfl⟩;go_wp2_with fail;rw [HM2.out];refine (CO2.out _).mono ?_;rintro e w4 ⟨a4,c4,rfl,hV4,hb4⟩;have HV4:=Hd hV4;clear hV4;go_wp2;go_ret3;exact ⟨a3,c3,a4,c4,rfl,fun V hV=>HV3.out V ((hV.below hb4).base hb.size),fun V hV=>HV4.out V (hV.base (Nat.le_trans hb.size hb3.size)),bth (bth hb hb3) hb4⟩
theorem qky (w:World) (x:Int) {B:Nat} (hB:B<=w.heap.size):OwnN B (w.alloc (.cells #[.int .u16 x] 102)) (some ⟨w.heap.size,0,none⟩) 1 [x] :=
 BlkN.own (l:=[x]) (Blk.new w _ _) hB (by simp [maxLen])
theorem qud {n1 n2 q r:Nat} (h:n1=q*n2+r) (hr:r<n2):q=n1 / n2/\r=n1 % n2:=by
 subst h
 constructor
 · rw [Nat.mul_comm,Nat.mul_add_div (by omega),Nat.div_eq_of_lt hr,Nat.add_zero]
 · rw [Nat.mul_comm,Nat.mul_add_mod,Nat.mod_eq_of_lt hr]
theorem qk1 (l m:List Int) (n1 n2:Nat) (a a':Option Addr) (c c':Nat) (w:World) (h:NatR w a c l) (h':NatR w a' c' m) (hn:val l=n1) (hk:val m=n2) (hl:l.length<=2000000) (hm:m.length<=2000000)
  (h0:0<n2) (hs:¬ ((limbs n1).length<=4/\(limbs n2).length<=4)) :
  Calls Tryz.prog 148 #[.slice a l.length c,.slice a' m.length c'] w (RetDM n1 n2 w):=by
 have H:=Hd h;have H':=Hd h';have C1:=qbb l a c w h (by omega);rw [hn] at C1;replace C1:=Hd C1;have hne:((limbs n2).length:Int)≠0:=by have:=qan.2 h0;omega
 have hbz:(((limbs n2).length:Int)==0)=false:=by simpa using hne
 have hL1:(limbs n1).length<=2000000:=by have:=qaf h.u16;rw [hn] at this;omega
 have hL2:(limbs n2).length<=2000000:=by have:=qaf h'.u16;rw [hk] at this;omega
 have HK:=Hd hk;clear h h' hn hne hk;have hcase:decide (((limbs n1).length:Int)<=4)=true/\decide (((limbs n2).length:Int)<=4)=false\/decide (((limbs n1).length:Int)<=4)=false:=by
  simp;omega
 clear hs;go_enter Tryz.func148,Tryz.ntmps148;go_wp2_with fail;refine C1.out.mono ?_;rintro e w1 ⟨a1,c1,rfl,hV1,hb1⟩;have C2:=qbb m a' c' w1 (H'.out.ext (xbw hb1)) (by omega);rw [HK.out] at C2;replace C2:=Hd C2;clear C1;have HV1:=Hd hV1;clear hV1;go_wp2_with fail;refine C2.out.mono ?_;rintro e w2 ⟨a2,c2,rfl,hV2,hb2⟩;have hb:=bth hb1 hb2;have HA:=Hd (HV1.out w2 ((New.refl _ w2).below hb2));have HM:=Hd (hV2 w2 (New.refl _ _));clear hV2 hb1 hb2 C2 HV1 H H' HK;have hnb:∃ b1 b2:Bool,decide (((limbs n1).length:Int)<=4)=b1/\decide (((limbs n2).length:Int)<=4)=b2/\(b1&&b2)=false:=⟨_,_,rfl,rfl,by rcases hcase with ⟨h1,h2⟩ | h1 <;> simp [h1] <;> simp_all⟩
 rcases hcase with ⟨hc1,hc2⟩ | hc1
 all_goals
  go_wp2;clear hnb
  go_loopw [7,8,9,10] (fun sq sr i _ wr=>∃ (k:Nat) (ql:List Int) (rv:Nat) (aq:Option Addr) (cq:Nat) (ar:Option Addr) (cr:Nat),k<=(limbs n1).length/\i=.int .i64 ((k:Int)-1)/\sq=.slice aq ql.length cq/\sr=.slice ar (limbs rv).length cr /\
   Hid (∀ V,New w.heap.size wr V->NatR V aq cq ql)/\Hid (∀ V,New w.heap.size wr V->NatR V ar cr (limbs rv))/\rv<n2/\Below w.heap.size w wr/\Below w2.heap.size w2 wr/\Hid (val ((limbs n1).drop k)=val ql*n2+rv)/\Hid (ql.length+k=(limbs n1).length)) (fun _ _ i _ _=>(intOf i+1).toNat)
  case atStart=>exact ⟨(limbs n1).length,[],0,none,0,none,0,nlr _,rfl,rfl,by rw [qag];rfl,fun _ _=>SlR.nil,fun _ _=>by rw [qag];exact SlR.nil,h0,hb,Below.refl _ _,by show _=_;rw [qar (nlr _)];simp [val],by show _=_;simp⟩
  case round =>
   clear hb;obtain ⟨k,ql,rv,aq,cq,ar,cr,hk,rfl,rfl,rfl,HQ,HR,hrv,hb,hb2,hv,hlq⟩:=hrel;by_cases hk0:k=0
   ·
    subst hk0;have hfin:val ql=n1 / n2/\rv=n1 % n2:=by
     have:=hv.out;simp only [List.drop_zero,qaa] at this;exact qud this hrv
    obtain ⟨hf1,hf2⟩:=hfin;have CN:=qbb ql aq cq wr (HQ.out wr (New.refl _ _)) (by have:=hlq.out;omega);rw [hf1] at CN;replace CN:=Hd CN;have HF2:=Hd hf2;clear hf1 hf2;go_wp2_with fail;refine CN.out.mono ?_;rintro e w3 ⟨a3,c3,rfl,hV3,hb3⟩;have HV3:=Hd hV3;clear hV3 CN;go_wp2;go_ret3;have e2:=HF2.out;have hR:=HR.out;subst e2;exact ⟨a3,c3,ar,cr,rfl,fun V hV=>HV3.out V (hV.base hb.size),fun V hV=>hR V (hV.below hb3),bth hb hb3⟩
   ·
    have hgt:decide ((0:Int)<=(k:Int)-1)=true:=by simp;omega
    have hge:(0:Int)<=(k:Int)-1:=by omega
    obtain ⟨x,hx⟩:=qac (xs:=limbs n1) (k:=k-1) (by omega);obtain ⟨ba,oa,rfl,hcx⟩:=(HA.out.ext (xbw hb2)).cell hx;obtain ⟨hx0,hx1⟩:=(qa3 n1).get hx;obtain ⟨N,hN⟩:∃ N,N=x.toNat+65536*rv:=⟨_,rfl⟩
    have hqd:N / n2<=65535:=by rw [hN];exact qj9 (by omega) hrv
    have hqm:N=N / n2*n2+N % n2:=by rw [Nat.mul_comm];exact (Nat.div_add_mod N n2).symm
    have hrm:N % n2<n2:=Nat.mod_lt _ h0;have hvd:=ql0 (limbs n1) ql (k-1) n2 rv (N / n2) (N % n2) x hx (by rw [show k-1+1=k by omega];exact hv.out) (by rw [<- hN];exact hqm);have hle:n2*(N / n2)<=N:=Nat.mul_div_le N n2;have hsub:N-n2*(N / n2)=N % n2:=by have:=Nat.div_add_mod N n2;omega
    have hNl:(limbs N).length<=2000001:=by
     refine Nat.le_trans (qal (k:=(limbs n2).length+1) ?_) (by omega);have:=qa2 n2;rw [Nat.pow_succ]
     omega
    obtain ⟨d,hd⟩:∃ d,N / n2=d:=⟨_,rfl⟩
    obtain ⟨r2,hr2⟩:∃ r2,N % n2=r2:=⟨_,rfl⟩
    rw [hd] at hqd hqm hvd hle hsub;rw [hr2] at hqm hrm hvd hsub;have HD:=Hd hd;clear hd hr2;have hrl:(limbs rv).length<=2000000:=Nat.le_trans (qap (Nat.le_of_lt hrv)) hL2;have HVD:=Hd hvd;have HSUB:=Hd hsub;have HN:=Hd hN;have HQM:=Hd hqm;have HLE:=Hd hle;have HL:=Hd hNl;have HRL:=Hd hrl;clear hx hN hvd hsub hqm hle hNl hrl;go_wp2_with (at_builtin;go_must (refine qcw (B:=wr.heap.size) rfl (.tmp 49) (.tmp 50) rfl (some ⟨wr.heap.size,0,none⟩) 1 (l:=[x]) rfl (qky wr x (nlr _)) ar cr (m:=limbs rv) rfl (HR.out _ ((New.refl _ _).unalloc)) (x :: limbs rv) rfl (by have:=HRL.out;simp;omega) (by simp) ?_);intro a3 c3 w3 hown3 hg3 hbb3);have hb3:Below wr.heap.size wr w3:=((Below.refl _ wr).alloc (nlr _) _).trans hbb3;have hu3:U16 (x :: limbs rv):=U16.cons ⟨hx0,hx1⟩ (qa3 rv);have CN:=qbb (x :: limbs rv) a3 c3 w3 (hown3.reads1 hu3) (by have:=HRL.out;simp;omega)
    have ev:val (x :: limbs rv)=N:=by rw [HN.out,val,qaa]
    rw [ev] at CN;replace CN:=Hd CN;clear hown3 hg3 hbb3 hu3 ev hcx;refine CN.out.mono ?_;rintro e w4 ⟨a4,c4,rfl,hV4,hb4⟩;have HV4:=Hd hV4;replace hb4:=bth hb3 hb4;clear hV4 CN hb3;have CD:=qmv (limbs N) (limbs n2) N n2 a4 a2 c4 c2 w4 (HV4.out w4 (New.refl _ _)) (HM.out.ext (xbw (bth hb2 hb4))) (qaa N) (qaa n2) (by have:=HL.out;omega) (by omega) h0 (by rw [HD.out];exact hqd);rw [HD.out] at CD;replace CD:=Hd CD;go_wp2_with fail;refine CD.out.mono ?_;rintro e w5 ⟨rfl,hb5⟩;have hb45:=hb5;replace hb5:=bth hb4 hb5;clear CD;have hdd:(d:Int)<=65535:=by omega
    go_wp2_with (at_builtin;go_must (refine qcw (B:=w5.heap.size) rfl (.tmp 58) (.tmp 59) rfl (some ⟨w5.heap.size,0,none⟩) 1 (l:=[(d:Int)]) rfl (qky w5 d (nlr _)) aq cq (m:=ql) rfl (HQ.out _ ((New.refl _ _).unalloc.below hb5)) ((d:Int) :: ql) rfl (by have:=hlq.out;simp;omega) (by simp) ?_);intro a6 c6 w6 hown6 hg6 hbb6);have hb56:Below w5.heap.size w5 w6:=((Below.refl _ w5).alloc (nlr _) _).trans hbb6;have hb6:=bth hb5 hb56;have hu6:U16 ((d:Int) :: ql):=U16.cons (by omega) (HQ.out wr (New.refl _ _)).u16;have HO6:=Hd hown6;clear hown6 hg6 hbb6;have CO:=qb1 d w6 (by omega);replace CO:=Hd CO;refine CO.out.mono ?_;rintro e w7 ⟨a7,c7,rfl,hV7,hb67⟩;have hb7:=bth hb6 hb67;have CM:=qkc (limbs n2) (limbs d) n2 d a2 a7 c2 c7 w7 (HM.out.ext (xbw (bth hb2 hb7))) (hV7 w7 (New.refl _ _)) (qaa _) (qaa _) (by omega) (by have:=qal (n:=d) (k:=1) (by omega);omega);replace CM:=Hd CM;clear hV7 CO
    go_wp2_with fail;refine CM.out.mono ?_;rintro e w8 ⟨a8,c8,rfl,hV8,hb78⟩;have hb8:=bth hb7 hb78;have hp8:(limbs (n2*d)).length<=4000001:=by
     have h1:=qaz n2 d;have h2:=qal (n:=d) (k:=1) (by omega)
     omega
    have CS:=qry (limbs N) (limbs (n2*d)) N (n2*d) a4 a8 c4 c8 w8 (HV4.out w8 ((New.refl _ w8).below (bth hb45 (bth hb56 (bth hb67 hb78))))) (hV8 w8 (New.refl _ _)) (qaa _) (qaa _) (by have:=HL.out;omega) (by omega) HLE.out;rw [HSUB.out] at CS;replace CS:=Hd CS;clear hV8 CM hp8;go_wp2_with fail;refine CS.out.mono ?_;rintro e w9 ⟨a9,c9,rfl,hV9,hb89⟩;have hb9:=bth hb8 hb89;have HV9:=Hd hV9;clear hV9 CS;go_wp2
    go_roundw
    case rel=>exact ⟨k-1,(d:Int) :: ql,r2,a6,c6,a9,c9,by omega,by first | (congr 1;omega) | rfl,by simp,rfl,
     fun V hV=>HO6.out.readsV ((hV.below (bth hb67 (bth hb78 hb89))).base (Nat.le_trans hb.size hb5.size)) hu6,fun V hV=>HV9.out V (hV.base (Nat.le_trans hb.size hb8.size)),hrm,bth hb hb9,bth hb2 hb9,HVD.out,by have:=hlq.out;show _=_;simp;omega⟩
    case measure=>simp [intOf];omega
theorem qds (l m:List Int) (n1 n2:Nat) (a a':Option Addr) (c c':Nat) (w:World) (h:NatR w a c l) (h':NatR w a' c' m) (hn:val l=n1) (hk:val m=n2) (hl:l.length<=2000000) (hm:m.length<=2000000)
  (h0:0<n2) :
  Calls Tryz.prog 148 #[.slice a l.length c,.slice a' m.length c'] w (RetDM n1 n2 w):=by
 by_cases hs:(limbs n1).length<=4/\(limbs n2).length<=4
 · exact qji l m n1 n2 a a' c c' w h h' hn hk hl hm h0 hs.1 hs.2
 · exact qk1 l m n1 n2 a a' c c' w h h' hn hk hl hm h0 hs
theorem qj0 (l m:List Int) (n1 n2:Nat) (a a':Option Addr) (c c':Nat) (w:World) (h:NatR w a c l) (h':NatR w a' c' m) (hn:val l=n1) (hk:val m=n2) (hl:l.length<=2000000) (hm:m.length<=2000000) :
  Calls Tryz.prog 101 #[.slice a l.length c,.slice a' m.length c'] w (RetN (limbs (Nat.gcd n1 n2)) w):=by
 have H:=Hd h;have H':=Hd h';have C1:=qbb l a c w h (by omega);rw [hn] at C1;replace C1:=Hd C1;have hL1:(limbs n1).length<=2000000:=by have:=qaf h.u16;rw [hn] at this;omega
 have hL2:(limbs n2).length<=2000000:=by have:=qaf h'.u16;rw [hk] at this;omega
 have HK:=Hd hk;clear h h' hn hk;go_enter Tryz.func101,Tryz.ntmps101;go_wp2_with fail;refine C1.out.mono ?_;rintro e w1 ⟨a1,c1,rfl,hV1,hb1⟩;have C2:=qbb m a' c' w1 (H'.out.ext (xbw hb1)) (by omega);rw [HK.out] at C2;replace C2:=Hd C2;have HV1:=Hd hV1;clear hV1 C1;go_wp2_with fail;refine C2.out.mono ?_;rintro e w2 ⟨a2,c2,rfl,hV2,hb2⟩;have hb:=bth hb1 hb2;have HV2:=Hd hV2;clear hV2 C2 H H' HK;go_wp2
 go_loopg [0,1,5,6,7] n2 (fun g sx sy _ _ _ wr=>∃ (x:Nat) (ax:Option Addr) (cx:Nat) (ay:Option Addr) (cy:Nat),sx=.slice ax (limbs x).length cx/\sy=.slice ay (limbs g).length cy/\(∀ V,New w.heap.size wr V->NatR V ax cx (limbs x)) /\
  (∀ V,New w.heap.size wr V->NatR V ay cy (limbs g))/\(limbs x).length<=2000000/\(limbs g).length<=2000000/\Below w.heap.size w wr/\Nat.gcd x g=Nat.gcd n1 n2)
 case atStart=>exact ⟨n1,a1,c1,a2,c2,rfl,rfl,fun V hV=>HV1.out V (hV.below hb2),fun V hV=>HV2.out V (hV.base hb1.size),hL1,hL2,hb,rfl⟩
 case round =>
  obtain ⟨x,ax,cx,ay,cy,rfl,rfl,hx,hy,hlx,hly,hb',hg⟩:=hrel;have HX:=Hd hx;have HY:=Hd hy;have HG:=Hd hg;clear hx hy hg hb1 hb2 hb;by_cases h0:gk=0
  ·
   subst h0;have hgz:decide (0<(limbs 0).length)=false:=by rw [qag];rfl
   have hX:=HX.out;have hgc:limbs (Nat.gcd n1 n2)=limbs x:=by rw [<- HG.out,Nat.gcd_zero_right]
   have HGC:=Hd hgc;clear hgc;replace hX:=Hd hX;go_wp2;go_ret;rw [HGC.out];exact ⟨ax,cx,rfl,hX.out,hb'⟩
  ·
   have hgz:decide (0<(limbs gk).length)=true:=by have:=qan (n:=gk);simp;omega
   have CD:=qds (limbs x) (limbs gk) x gk ax ay cx cy wr (HX.out wr (New.refl _ _)) (HY.out wr (New.refl _ _)) (qaa _) (qaa _) hlx hly (by omega);replace CD:=Hd CD;have hr:x % gk<gk:=Nat.mod_lt _ (by omega);have hgr:Nat.gcd gk (x % gk)=Nat.gcd n1 n2:=by rw [<- HG.out,Nat.gcd_comm x gk,Nat.gcd_rec gk x,Nat.gcd_comm]
   have HGR:=Hd hgr;have hlr:(limbs (x % gk)).length<=2000000:=Nat.le_trans (qap (Nat.le_of_lt hr)) hly;clear hgr;go_wp2_with fail;refine CD.out.mono ?_;rintro e w3 ⟨a3,c3,a4,c4,rfl,hV3,hV4,hb3⟩;have HV4:=Hd hV4;clear hV3 hV4 CD;go_wp2;go_roundg (x % gk)
   case rel=>exact ⟨gk,ay,cy,a4,c4,rfl,rfl,fun V hV=>HY.out V (hV.below hb3),fun V hV=>HV4.out V (hV.base hb'.size),hly,hlr,bth hb' hb3,HGR.out⟩
   case measure=>exact hr
def RetZ (neg:Bool) (n:Nat) (w:World) (e:Ending) (w':World):Prop:=∃ a c,e=.returned (.agg #[.bool neg,.slice a (limbs n).length c])/\(∀ V,New w.heap.size w' V->NatR V a c (limbs n))/\Below w.heap.size w w'
theorem qjb (n:Nat):decide (0<(limbs n).length)=decide (0<n):=by
 have:=qan (n:=n);rw [decide_eq_decide]
 omega
section
variable {w V : World} {g B B' : Nat} {t : TypeId} {x y z u v r : Value}
theorem back2 (h:New B ((w.setCell ⟨g,0,none⟩ x).setCell ⟨g,1,none⟩ y) V) (hB:B<=B') (hg:g<B'):New B' w V:=((h.base hB).unset hg).unset hg
theorem back3 (h:New B (((w.setCell ⟨g,0,none⟩ x).setCell ⟨g,1,none⟩ y).setCell ⟨g,2,none⟩ z) V) (hB:B<=B') (hg:g<B'):New B' w V:=(((h.base hB).unset hg).unset hg).unset hg
theorem blk2 (h:Blk w g t #[u,v]):Blk ((w.setCell ⟨g,0,none⟩ x).setCell ⟨g,1,none⟩ y) g t #[x,y]:=by have:=(h.set_ 0 x).set_ 1 y;simpa using this
theorem blk3 (h:Blk w g t #[u,v,r]):Blk (((w.setCell ⟨g,0,none⟩ x).setCell ⟨g,1,none⟩ y).setCell ⟨g,2,none⟩ z) g t #[x,y,z]:=by have:=((h.set_ 0 x).set_ 1 y).set_ 2 z;simpa using this
theorem qbu {w0:World} (h:Below B w0 w) (hg:B<=g):Below B w0 ((w.setCell ⟨g,0,none⟩ x).setCell ⟨g,1,none⟩ y):=(h.setCell (p:=⟨g,0,none⟩) hg x).setCell (p:=⟨g,1,none⟩) hg y
theorem qbd {w0:World} (h:Below B w0 w) (hg:B<=g):Below B w0 (((w.setCell ⟨g,0,none⟩ x).setCell ⟨g,1,none⟩ y).setCell ⟨g,2,none⟩ z):=((h.setCell (p:=⟨g,0,none⟩) hg x).setCell (p:=⟨g,1,none⟩) hg y).setCell (p:=⟨g,2,none⟩) hg z
end
theorem zz11 {P:Prop} (h:P:=by
 exact ⟨a1,c1,rfl,fun V hV=>HV.out V (back2 hV hs0 hgl),qbu hw1 (nlr _)⟩
 ):P:=h
theorem qvc (neg:Bool) (l:List Int) (n:Nat) (a:Option Addr) (c:Nat) (w:World) (h:NatR w a c l) (hn:val l=n) (hl:l.length<=16777216) :
  Calls Tryz.prog 208 #[.bool neg,.slice a l.length c] w (RetZ (neg&&decide (0<n)) n w):=by
 have CN:=fun W (hW:Below w.heap.size w W)=>qcs l a c W (h.ext (xbw hW)) hl
 rw [hn] at CN;replace CN:=Hd CN;have hd:=qjb n;obtain ⟨b,hb⟩:∃ b,decide (0<n)=b:=⟨_,rfl⟩
 rw [hb] at hd ⊢;have hz:Blk (w.alloc (.cells #[.bool false,.slice none 0 0] 49)) w.heap.size 49 #[.bool false,.slice none 0 0]:=Blk.new w _ _;have hb0:Below w.heap.size w (w.alloc (.cells #[.bool false,.slice none 0 0] 49)):=brf.alloc (nlr _) _;clear h hb
 cases neg
 ·
  rw [Bool.false_and];go_enter Tryz.func208,Tryz.ntmps208;go_wp2_with fail;have hgl:=hz.lt;revert hz hb0 hgl;generalize w.alloc (.cells #[.bool false,.slice none 0 0] 49)=w0;intro hz hb0 hgl;refine (CN.out _ hb0).mono ?_;rintro e w1 ⟨a1,c1,rfl,hV,hb1⟩;have hw1:=bth hb0 hb1;have HV:=Hd hV;have hz1:=hz.below' hb1;obtain ⟨z0,z1⟩:=cq2 hz1;obtain ⟨f0,f1⟩:=fq2 hz1;have hs0:=hb0.size;clear hV hb0 hz;go_wp2;have hF:=blk2 (x:=.bool false) (y:=.slice a1 (limbs n).length c1) hz1;obtain ⟨e0,e1⟩:=cq2 hF;refine bodyPost_ret (v:=.agg #[.bool false,.slice a1 (limbs n).length c1]) (by simp [results,Tryz.results208,go_sem,e0,e1]) rfl ?_;exact zz11
 ·
  rw [Bool.true_and];go_enter Tryz.func208,Tryz.ntmps208;go_wp2_with fail;have hgl:=hz.lt;revert hz hb0 hgl;generalize w.alloc (.cells #[.bool false,.slice none 0 0] 49)=w0;intro hz hb0 hgl;refine (CN.out _ hb0).mono ?_;rintro e w1 ⟨a1,c1,rfl,hV,hb1⟩;have hw1:=bth hb0 hb1;have HV:=Hd hV;have hz1:=hz.below' hb1;obtain ⟨z0,z1⟩:=cq2 hz1;obtain ⟨f0,f1⟩:=fq2 hz1;have hs0:=hb0.size;clear hV hb0 hz;go_wp2;have hF:=blk2 (x:=.bool b) (y:=.slice a1 (limbs n).length c1) hz1;obtain ⟨e0,e1⟩:=cq2 hF;refine bodyPost_ret (v:=.agg #[.bool b,.slice a1 (limbs n).length c1]) (by simp [results,Tryz.results208,go_sem,e0,e1]) rfl ?_;exact zz11
theorem qh0 (neg:Bool) (l:List Int) (n:Nat) (a:Option Addr) (c:Nat) (w:World) (h:NatR w a c l) (hn:val l=n) (hl:l.length<=16777216) :
  Calls Tryz.prog 155 #[.bool neg,.slice a l.length c] w (RetZ (neg&&decide (0<n)) n w):=by
 have CN:=fun W (hW:Below w.heap.size w W)=>qbb l a c W (h.ext (xbw hW)) hl
 rw [hn] at CN;replace CN:=Hd CN;have hd:=qjb n;obtain ⟨b,hb⟩:∃ b,decide (0<n)=b:=⟨_,rfl⟩
 rw [hb] at hd ⊢;have hz:Blk (w.alloc (.cells #[.bool false,.slice none 0 0] 49)) w.heap.size 49 #[.bool false,.slice none 0 0]:=Blk.new w _ _;have hb0:Below w.heap.size w (w.alloc (.cells #[.bool false,.slice none 0 0] 49)):=brf.alloc (nlr _) _;clear h hb
 cases neg
 ·
  rw [Bool.false_and];go_enter Tryz.func155,Tryz.ntmps155;go_wp2_with fail;have hgl:=hz.lt;revert hz hb0 hgl;generalize w.alloc (.cells #[.bool false,.slice none 0 0] 49)=w0;intro hz hb0 hgl;refine (CN.out _ hb0).mono ?_;rintro e w1 ⟨a1,c1,rfl,hV,hb1⟩;have hw1:=bth hb0 hb1;have HV:=Hd hV;have hz1:=hz.below' hb1;obtain ⟨z0,z1⟩:=cq2 hz1;obtain ⟨f0,f1⟩:=fq2 hz1;have hs0:=hb0.size;clear hV hb0 hz;go_wp2;have hF:=blk2 (x:=.bool false) (y:=.slice a1 (limbs n).length c1) hz1;obtain ⟨e0,e1⟩:=cq2 hF;refine bodyPost_ret (v:=.agg #[.bool false,.slice a1 (limbs n).length c1]) (by simp [results,Tryz.results155,go_sem,e0,e1]) rfl ?_;exact zz11
 ·
  rw [Bool.true_and];go_enter Tryz.func155,Tryz.ntmps155;go_wp2_with fail;have hgl:=hz.lt;revert hz hb0 hgl;generalize w.alloc (.cells #[.bool false,.slice none 0 0] 49)=w0;intro hz hb0 hgl;refine (CN.out _ hb0).mono ?_;rintro e w1 ⟨a1,c1,rfl,hV,hb1⟩;have hw1:=bth hb0 hb1;have HV:=Hd hV;have hz1:=hz.below' hb1;obtain ⟨z0,z1⟩:=cq2 hz1;obtain ⟨f0,f1⟩:=fq2 hz1;have hs0:=hb0.size;clear hV hb0 hz;go_wp2;have hF:=blk2 (x:=.bool b) (y:=.slice a1 (limbs n).length c1) hz1;obtain ⟨e0,e1⟩:=cq2 hF;refine bodyPost_ret (v:=.agg #[.bool b,.slice a1 (limbs n).length c1]) (by simp [results,Tryz.results155,go_sem,e0,e1]) rfl ?_;exact zz11
theorem qd3 (neg:Bool) (n:Nat) (a:Option Addr) (c:Nat) (w:World) :
  Calls Tryz.prog 236 #[.bool neg,.slice a (limbs n).length c] w fun e w'=>e=.returned (.agg #[.bool (neg&&decide (0<n)),.slice a (limbs n).length c])/\Below w.heap.size w w':=by
 have hd:=qjb n;obtain ⟨b,hb⟩:∃ b,decide (0<n)=b:=⟨_,rfl⟩
 rw [hb] at hd ⊢;clear hb
 cases neg
 ·
  rw [Bool.false_and];go_enter Tryz.func236,Tryz.ntmps236;go_wp2;have hF:=Blk.new w 49 #[.bool false,.slice a (limbs n).length c];obtain ⟨e0,e1⟩:=cq2 hF;refine bodyPost_ret (v:=.agg #[.bool false,.slice a (limbs n).length c]) (by simp [results,Tryz.results236,go_sem]) rfl ?_;exact ⟨rfl,brf.alloc (nlr _) _⟩
 ·
  rw [Bool.true_and];go_enter Tryz.func236,Tryz.ntmps236;go_wp2;have hF:=Blk.new w 49 #[.bool b,.slice a (limbs n).length c];obtain ⟨e0,e1⟩:=cq2 hF;refine bodyPost_ret (v:=.agg #[.bool b,.slice a (limbs n).length c]) (by simp [results,Tryz.results236,go_sem]) rfl ?_;exact ⟨rfl,brf.alloc (nlr _) _⟩
theorem qe3 (neg:Bool) (l:List Int) (n:Nat) (a:Option Addr) (c:Nat) (w:World) (h:NatR w a c l) (hn:val l=n) (hl:l.length<=16777216) :
  Calls Tryz.prog 139 #[.agg #[.bool neg,.slice a l.length c]] w (RetZ (neg&&decide (0<n)) n w):=by
 have CN:=fun W (hW:Below w.heap.size w W)=>qvc neg l n a c W (h.ext (xbw hW)) hn hl
 replace CN:=Hd CN;have hz:Blk ((w.alloc (.cells #[.bool neg,.slice a l.length c] 49)).alloc (.cells #[.bool false,.slice none 0 0] 49)) (w.heap.size+1) 49 #[.bool false,.slice none 0 0]:=qa5 w _ _ _;have hb0:Below w.heap.size w ((w.alloc (.cells #[.bool neg,.slice a l.length c] 49)).alloc (.cells #[.bool false,.slice none 0 0] 49)):=(brf.alloc (nlr _) _).alloc (by simp) _;have hgB:w.heap.size<=w.heap.size+1:=by omega
 have hgl:=hz.lt;clear h hn;go_enter Tryz.func139,Tryz.ntmps139;go_wp2_with fail;revert hz hb0 hgl hgB;generalize (w.alloc (.cells #[.bool neg,.slice a l.length c] 49)).alloc (.cells #[.bool false,.slice none 0 0] 49)=w0;generalize w.heap.size+1=g;intro hz hb0 hgB hgl;refine (CN.out _ hb0).mono ?_;rintro e w1 ⟨a1,c1,rfl,hV,hb1⟩;have hw1:=bth hb0 hb1;have HV:=Hd hV;have hz1:=hz.below' hb1;obtain ⟨z0,z1⟩:=cq2 hz1;obtain ⟨f0,f1⟩:=fq2 hz1;have hs0:=hb0.size;clear hV hb0 hz;go_wp2;have hF:=blk2 (x:=.bool (neg&&decide (0<n))) (y:=.slice a1 (limbs n).length c1) hz1;obtain ⟨e0,e1⟩:=cq2 hF;refine bodyPost_ret (v:=.agg #[.bool (neg&&decide (0<n)),.slice a1 (limbs n).length c1]) (by simp [results,Tryz.results139,go_sem,e0,e1]) rfl ?_;exact ⟨a1,c1,rfl,fun V hV=>HV.out V (back2 hV hs0 hgl),qbu hw1 hgB⟩
theorem qiw (neg:Bool) (l:List Int) (n:Nat) (a:Option Addr) (c:Nat) (w:World) (h:NatR w a c l) (hn:val l=n) (hl:l.length<=16777216) :
  Calls Tryz.prog 146 #[.agg #[.bool neg,.slice a l.length c]] w (RetZ (neg&&decide (0<n)) n w):=by
 have CN:=fun W (hW:Below w.heap.size w W)=>qh0 neg l n a c W (h.ext (xbw hW)) hn hl
 replace CN:=Hd CN;have hz:Blk ((w.alloc (.cells #[.bool neg,.slice a l.length c] 49)).alloc (.cells #[.bool false,.slice none 0 0] 49)) (w.heap.size+1) 49 #[.bool false,.slice none 0 0]:=qa5 w _ _ _;have hb0:Below w.heap.size w ((w.alloc (.cells #[.bool neg,.slice a l.length c] 49)).alloc (.cells #[.bool false,.slice none 0 0] 49)):=(brf.alloc (nlr _) _).alloc (by simp) _;have hgB:w.heap.size<=w.heap.size+1:=by omega
 have hgl:=hz.lt;clear h hn;go_enter Tryz.func146,Tryz.ntmps146;go_wp2_with fail;revert hz hb0 hgl hgB;generalize (w.alloc (.cells #[.bool neg,.slice a l.length c] 49)).alloc (.cells #[.bool false,.slice none 0 0] 49)=w0;generalize w.heap.size+1=g;intro hz hb0 hgB hgl;refine (CN.out _ hb0).mono ?_;rintro e w1 ⟨a1,c1,rfl,hV,hb1⟩;have hw1:=bth hb0 hb1;have HV:=Hd hV;have hz1:=hz.below' hb1;obtain ⟨z0,z1⟩:=cq2 hz1;obtain ⟨f0,f1⟩:=fq2 hz1;have hs0:=hb0.size;clear hV hb0 hz;go_wp2;have hF:=blk2 (x:=.bool (neg&&decide (0<n))) (y:=.slice a1 (limbs n).length c1) hz1;obtain ⟨e0,e1⟩:=cq2 hF;refine bodyPost_ret (v:=.agg #[.bool (neg&&decide (0<n)),.slice a1 (limbs n).length c1]) (by simp [results,Tryz.results146,go_sem,e0,e1]) rfl ?_;exact ⟨a1,c1,rfl,fun V hV=>HV.out V (back2 hV hs0 hgl),qbu hw1 hgB⟩
end Go.Proofs.YtfaalkneigpcnaaGreatDoor
namespace Go.Proofs
open Go.Shelf
def Tryz.lays127_ren : Go.Shelf.Ren := ⟨fun | 127 => 207 | n => n, fun | 49 => 102 | 3 => 3 | 4 => 4 | 46 => 223 | 5 => 5 | 9 => 9 | n => n, fun | n => n⟩
theorem Tryz.lays127 : Go.Proofs.Lays.n127 Tryz.prog Tryz.lays127_ren := {
  mixed := by kernel_rfl
  f127 := Tryz.func207.trans (congrArg some (by kernel_rfl))
  t3 := Tryz.underlying3
  a3 := Tryz.isAgg3
  z3 := Tryz.sizeOf3
  v3 := Tryz.zeroValue3
  t4 := Tryz.underlying4
  a4 := Tryz.isAgg4
  z4 := Tryz.sizeOf4
  v4 := Tryz.zeroValue4
  t5 := Tryz.underlying5
  a5 := Tryz.isAgg5
  z5 := Tryz.sizeOf5
  v5 := Tryz.zeroValue5
  t9 := Tryz.underlying9
  a9 := Tryz.isAgg9
  z9 := Tryz.sizeOf9
  v9 := Tryz.zeroValue9
  t46 := Tryz.underlying223
  a46 := Tryz.isAgg223
  z46 := Tryz.sizeOf223
  v46 := Tryz.zeroValue223
  t49 := Tryz.underlying102
  a49 := Tryz.isAgg102
  z49 := Tryz.sizeOf102
  v49 := Tryz.zeroValue102 }
end Go.Proofs
namespace Go.Proofs.YtfaalkneigpcnaaGreatDoor
theorem qr8 (x:Nat) (w:World) (h1:x<=65535) :
  Calls Tryz.prog 207 #[.int .u16 x] w fun e w'=>e=.returned (.int .i64 (Lib.bitLen x:Int))/\w'=w:=by
 have:=Any.bits_Len16 Tryz.lays127 (x:Int) w (by omega) (by omega);rw [Int.toNat_natCast] at this;exact this
end Go.Proofs.YtfaalkneigpcnaaGreatDoor
namespace Go.Proofs.YtfaalkneigpcnaaGreatDoor
open Go.RowKit
theorem qv9 {n k x:Nat} (hl:(limbs n).length=k+1) (hx:qae (limbs n) k=x) (hx0:x≠0) (hx1:x<=65535):1<=Lib.bitLen x/\Lib.bitLen x<=16/\2 ^ (16*k+Lib.bitLen x-1)<=n/\n<2 ^ (16*k+Lib.bitLen x):=by
 obtain ⟨h2,h3,h4⟩:=Lib.bitLenAux_bounds 64 x (by omega) hx0
 change 1<=Lib.bitLen x at h2
 change 2 ^ (Lib.bitLen x-1)<=x at h3
 change x<2 ^ Lib.bitLen x at h4
 obtain ⟨q1,q2,_,_⟩:=qix hx0 hx1;obtain ⟨lo,hlo,e⟩:=qbk (qa3 n) k;rw [qaa,qa9,hx,qar (by omega),Int.toNat_natCast] at e;simp only [Nat.mul_zero,Nat.add_zero] at e;have hp:(65536:Nat) ^ k=2 ^ (16*k):=by rw [Nat.pow_mul]
 rw [hp] at e hlo;generalize Lib.bitLen x=b at *;refine ⟨q1,q2,?_,?_⟩
 ·
  rw [show 16*k+b-1=16*k+(b-1) by omega,Nat.pow_add];have:=Nat.mul_le_mul_left (2 ^ (16*k)) h3
  omega
 ·
  rw [Nat.pow_add];have:=Nat.mul_le_mul_left (2 ^ (16*k)) (show x+1<=2 ^ b by omega);rw [Nat.mul_add,Nat.mul_one] at this
  omega
theorem ql2 (l:List Int) (n:Nat) (a:Option Addr) (c:Nat) (w:World) (h:NatR w a c l) (hn:val l=n) (hl:l.length<=16777216) :
  Calls Tryz.prog 136 #[.slice a l.length c] w fun e w'=>∃ b:Nat,e=.returned (.int .i64 b)/\Hid ((n=0->b=0)/\(0<n->1<=b/\2 ^ (b-1)<=n/\n<2 ^ b)/\b<=16*(limbs n).length)/\w=w':=by
 have CT:=qax l a c w h;have hT:=h.trim;have hll:=qaf h.u16;rw [hn] at CT hT hll;by_cases h0:n=0
 ·
  subst h0;rw [qag] at CT;replace CT:=Hd CT;clear h hn hT hll;go_enter Tryz.func136,Tryz.ntmps136;go_wp2_with fail;refine CT.out.mono ?_;rintro e w1 ⟨rfl,rfl⟩;go_wp2;go_ret;exact ⟨0,rfl,Hd ⟨fun _=>rfl,fun h=>by omega,by omega⟩,rfl⟩
 ·
  have hp:=qan.2 (show 0<n by omega);obtain ⟨k,hk⟩:∃ k,(limbs n).length=k+1:=⟨(limbs n).length-1,by omega⟩
  obtain ⟨xi,hxi⟩:=qac (xs:=limbs n) (k:=k) (by omega);obtain ⟨b,off,rfl,hc⟩:=hT.cell hxi;have hxb:=(qa3 n).get hxi;have hx0:xi≠0:=qft (n:=n) (by rw [List.getLast?_eq_getElem?,hk];exact hxi);obtain ⟨x,rfl⟩:∃ x:Nat,xi=(x:Int):=⟨xi.toNat,by omega⟩
  have hb:=qv9 hk (qas hxi) (by omega) (by omega);have CL:=fun w=>qr8 x w (by omega)
  have hkl:k<=16777216:=by omega
  have HK:=Hd hk;rw [hk] at CT;revert hb CL;generalize Lib.bitLen x=bl;intro hb CL;have hbl:(bl:Int)<=16:=by omega
  have hbl0:(0:Int)<=(bl:Int):=by omega
  have HB:=Hd hb;replace CT:=Hd CT;replace CL:=Hd CL;have hkI:(k:Int)<=16777216:=by omega
  have hne:((k:Int)+1==0)=false:=by rw [beq_eq_false_iff_ne];omega
  have hx2:(x:Int)<=65535:=by omega
  clear h hn hT hll hp hk hxi hxb hx0 hb hkl;go_enter Tryz.func136,Tryz.ntmps136;go_wp2_with fail;refine CT.out.mono ?_;rintro e w1 ⟨rfl,rfl⟩;go_wp2_with fail;refine (CL.out _).mono ?_;rintro e w1 ⟨rfl,rfl⟩;go_wp2;go_ret;refine ⟨16*k+bl,?_,Hd ⟨fun e=>absurd e h0,fun _=>⟨by have:=HB.out;omega,HB.out.2.2.1,HB.out.2.2.2⟩,by have:=HB.out;have:=HK.out;omega⟩,rfl⟩;exact qcc (by simp <;> omega)
def sgnZ (neg:Bool) (n:Nat):Int:=if n=0 then 0 else if neg=true then -1 else 1
theorem qea (neg:Bool) (l:List Int) (n:Nat) (a:Option Addr) (c:Nat) (w:World) (h:NatR w a c l) (hn:val l=n) (hl:l.length<=16777216) :
  Calls Tryz.prog 142 #[.agg #[.bool neg,.slice a l.length c]] w fun e w'=>e=.returned (.int .i64 (sgnZ neg n))/\Below w.heap.size w w':=by
 have CB:=fun W (hW:Below w.heap.size w W)=>ql2 l n a c W (h.ext (xbw hW)) hn hl
 replace CB:=Hd CB;have hz:Blk (w.alloc (.cells #[.bool neg,.slice a l.length c] 49)) w.heap.size 49 #[.bool neg,.slice a l.length c]:=Blk.new w _ _;have hb0:Below w.heap.size w (w.alloc (.cells #[.bool neg,.slice a l.length c] 49)):=brf.alloc (nlr _) _;obtain ⟨R,hR⟩:∃ q,sgnZ neg n=q:=⟨_,rfl⟩
 rw [hR];have HR:=Hd hR;clear h hn hR;go_enter Tryz.func142,Tryz.ntmps142;go_wp2_with fail;revert hz hb0;generalize w.alloc (.cells #[.bool neg,.slice a l.length c] 49)=w0;intro hz hb0;refine (CB.out _ hb0).mono ?_;rintro e w1 ⟨b,rfl,hb,rfl⟩;obtain ⟨z0,z1⟩:=cq2 hz;by_cases h0:n=0
 ·
  have e0:=hb.out.1 h0;subst e0;have hs:R=0:=by rw [<- HR.out];unfold sgnZ;rw [if_pos h0]
  subst hs;clear h0;go_wp2;go_ret;exact ⟨rfl,hb0⟩
 ·
  have e0:((b:Int)==0)=false:=by rw [beq_eq_false_iff_ne];have:=hb.out.2.1 (by omega);omega
  have hs:R=if neg=true then -1 else 1:=by rw [<- HR.out];unfold sgnZ;rw [if_neg h0]
  clear h0
  cases neg
  ·
   obtain rfl:R=1:=by simpa using hs
   clear hs;go_wp2;go_ret;exact ⟨rfl,hb0⟩
  ·
   obtain rfl:R = -1:=by simpa using hs
   clear hs;go_wp2;go_ret;exact ⟨rfl,hb0⟩
end Go.Proofs.YtfaalkneigpcnaaGreatDoor
