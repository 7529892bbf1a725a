/- Walks: sums of integers, by the program and by the reference. -/
import Derived.Test.YtfaalkneigpcnaaGreatDoorIt5
import Derived.Test.YtfaalkneigpcnaaGreatDoorIt3
import Derived.Test.YtfaalkneigpcnaaGreatDoorIt1
import Derived.Test.YtfaalkneigpcnaaGreatDoorIt2
set_option linter.all false
set_option maxRecDepth 100000
set_option maxHeartbeats 4000000
namespace Go.Proofs.YtfaalkneigpcnaaGreatDoor
open Go.RowKit
theorem zz12 {P:Prop} (h:P:=by
 go_wp2_with fail;refine (CX.out _ hw).mono ?_;rintro e w3 ⟨rfl,rfl⟩;go_wp2_with fail;refine (CY.out _ hw).mono ?_;rintro e w3 ⟨rfl,rfl⟩;go_wp2_with (at_builtin;go_must (refine qc5 rfl (.tmp 34) (.tmp 38) rfl ao co rfl (HO.out.alloc _) (lo:Int) wr.heap.size 1 rfl (by simp) (o++[(lo:Int)]) rfl (by have:=HLEN.out;simpa using this) (by simp;omega) ?_);intro a2 c2' w2' ho2 hg2 hx2);go_roundg (gk-1)
 case rel=>exact ⟨k+1,c2,o++[(lo:Int)],a2,c2',by have:=HKG.out;have:=HKM.out;omega,by first | rfl | simp,rfl,by go_num,by omega,HCZ2.out,by show _=_;rw [List.length_append,hol.out];rfl,hou.app (U16.cons (by omega) U16.nil),ho2,qaq (hw.alloc hw.size _) (HO.out.alloc _) hg2,HS.out⟩
 case measure=>have:=HKG.out;have:=HKM.out;omega
 ):P:=h
theorem qr3 (l m:List Int) (n1 n2:Nat) (a a':Option Addr) (c c':Nat) (w:World) (h:NatR w a c l) (h':NatR w a' c' m) (hn:val l=n1) (hk:val m=n2) (hl:l.length<=4000000) (hm:m.length<=4000000) :
  Calls Tryz.prog 156 #[.slice a l.length c,.slice a' m.length c'] w (RetN (limbs (n1+n2)) w):=by
 have H:=Hd h;have H':=Hd h';have HN:=Hd hn;have HK:=Hd hk;have hu:=h.u16;have hu':=h'.u16;obtain ⟨M,hM⟩:∃ M,M=max l.length m.length+1:=⟨_,rfl⟩
 have hMl:l.length<M:=by omega
 have hMm:m.length<M:=by omega
 have hM2:M<=4000001:=by omega
 have HM:=Hd hM;clear h h' hn hk hM;go_enter Tryz.func156,Tryz.ntmps156;go_wp2
 go_loopg [5,6,7,8] M (fun g s5 s6 s7 _ wr=>∃ (k cc:Nat) (o:List Int) (ao:Option Addr) (co:Nat),k+g=M/\s5=.slice ao o.length co/\s6=.int .i64 cc/\s7=.int .i64 k/\cc<=1/\Hid (k=M->cc=0)/\Hid (o.length=k)/\U16 o/\OwnN w.heap.size wr ao co o/\Below w.heap.size w wr /\
  Hid (val o+65536 ^ k*cc=val (l.take k)+val (m.take k)))
 case atStart=>exact ⟨0,0,[],none,0,by omega,rfl,rfl,rfl,by omega,fun _=>rfl,rfl,U16.nil,Own.nil,Below.refl _ _,by show _=_;simp [val]⟩
 case round =>
  obtain ⟨k,cc,o,ao,co,hkg,rfl,rfl,rfl,hc1,hcz,hol,hou,ho,hw,hv⟩:=hrel;have HO:=Hd ho;have HKG:=Hd hkg;clear ho;by_cases hstop:¬ k<l.length/\¬ k<m.length/\cc=0
  ·
   obtain ⟨h1,h2,rfl⟩:=hstop;have hval:val o=n1+n2:=by
    have:=hv.out;rw [qau (by omega),qau (by omega),HN.out,HK.out] at this
    omega
   have CN:=qbb o ao co wr (HO.out.reads1 hou) (by rw [hol.out];omega);rw [hval] at CN;replace CN:=Hd CN;have g1:decide (k<l.length)=false:=by rw [decide_eq_false_iff_not];omega
   have g2:decide (k<m.length)=false:=by rw [decide_eq_false_iff_not];omega
   clear hval hkg;go_wp2_with fail;refine CN.out.mono ?_;rintro e w1 ⟨a1,c1,rfl,hV,hb1⟩;have HV:=Hd hV;have hb2:=bth hw hb1;clear hV;go_wp2;go_ret;exact ⟨a1,c1,rfl,fun V hV=>HV.out V (hV.base hw.size),hb2⟩
  ·
   have hkM:k<M:=by
    apply Nat.lt_of_not_le;intro hc;have:k=M:=by omega
    have:=hcz.out this
    omega
   have hx:=qa8 hu k;have hy:=qa8 hu' k;have CX:=fun W (hW:Below w.heap.size w W)=>qcr l k a c W (H.out.ext (xbw hW))
   have CY:=fun W (hW:Below w.heap.size w W)=>qcr m k a' c' W (H'.out.ext (xbw hW))
   have hstep:=fun c2 d h1=>qfu l m o k cc c2 d hol.out hv.out h1
   have hx0:¬ k<l.length->qae l k=0:=fun e=>qbr (by omega)
   have hy0:¬ k<m.length->qae m k=0:=fun e=>qbr (by omega)
   revert CX CY hx hy hstep hx0 hy0;generalize qae l k=xi;generalize qae m k=yi;intro hx hy CX CY hstep hx0 hy0;obtain ⟨x,rfl⟩:∃ x:Nat,xi=(x:Int):=⟨xi.toNat,by omega⟩
   obtain ⟨y,rfl⟩:∃ y:Nat,yi=(y:Int):=⟨yi.toNat,by omega⟩
   simp only [Int.toNat_natCast] at hstep;obtain ⟨lo,hlo⟩:∃ lo,(x+y+cc) % 65536=lo:=⟨_,rfl⟩
   obtain ⟨c2,hc2⟩:∃ c2,(x+y+cc) / 65536=c2:=⟨_,rfl⟩
   have hs:=hstep c2 lo (by omega);have hc21:c2<=1:=by omega
   have hlo1:lo<=65535:=by omega
   have hcz2:k+1=M->c2=0:=fun e=>by
    have h1:=hx0 (by have:=HM.out;omega);have h2:=hy0 (by have:=HM.out;omega)
    omega
   have w1:((x:Int)+(y:Int)+(cc:Int)).tmod 65536=(lo:Int):=by
    have:(((x+y+cc:Nat):Int)).tmod ((65536:Nat):Int)=(((x+y+cc) % 65536:Nat):Int):=rfl;rw [hlo] at this;simpa using this
   have w2:((x:Int)+(y:Int)+(cc:Int)).tdiv 65536=(c2:Int):=by
    have:(((x+y+cc:Nat):Int)).tdiv ((65536:Nat):Int)=(((x+y+cc) / 65536:Nat):Int):=rfl;rw [hc2] at this;simpa using this
   have HS:=Hd hs;have HCZ2:=Hd hcz2;have hkI:(k:Int)<=4000001:=by omega
   replace CX:=Hd CX;replace CY:=Hd CY;have HLEN:Hid (o.length+1<=16777216):=Hd (by rw [hol.out];omega);have HKM:=Hd hkM;have hgB:=hw.size;by_cases h1:k<l.length
   ·
    have g1:decide (k<l.length)=true:=by rw [decide_eq_true_eq];omega
    clear hstop hkg hstep hs hcz2 hlo hc2 hx0 hy0 h1 hkM;exact zz12
   ·
    have g1:decide (k<l.length)=false:=by rw [decide_eq_false_iff_not];omega
    by_cases h2:k<m.length
    ·
     have g2:decide (k<m.length)=true:=by rw [decide_eq_true_eq];omega
     clear hstop hkg hstep hs hcz2 hlo hc2 hx0 hy0 h1 h2 hkM;exact zz12
    ·
     have g2:decide (k<m.length)=false:=by rw [decide_eq_false_iff_not];omega
     have g3:decide (0<cc)=true:=by rw [decide_eq_true_eq];omega
     clear hstop hkg hstep hs hcz2 hlo hc2 hx0 hy0 h1 h2 hkM;exact zz12
theorem quu (z:Int) (w:World) (hi:InInt z) :
  Calls Tryz.prog 180 #[.int .i64 z] w (RetZ (decide (z<0)) z.natAbs w):=by
 obtain ⟨hi1,hi2⟩:=hi;by_cases hneg:z<0
 ·
  obtain ⟨m,rfl⟩:∃ m:Nat,z = -((m:Int)+1):=⟨(-(z+1)).toNat,by omega⟩
  have hna:(-((m:Int)+1)).natAbs=m+1:=by omega
  have hd:decide (-((m:Int)+1)<0)=true:=by rw [decide_eq_true_eq];omega
  rw [hna,hd];have CO:=fun W=>qiu (m+1) W (by omega)
  have e1:((m+1:Nat):Int)=(m:Int)+1:=by omega
  simp only [e1] at CO;have CM:=fun a c W=>qd3 true (m+1) a c W
  have hd2:decide (0<m+1)=true:=by rw [decide_eq_true_eq];omega
  simp only [hd2,Bool.and_true] at CM;replace CO:=Hd CO;replace CM:=Hd CM;have f1:-(-((m:Int)+1)+1)=(m:Int):=by omega
  have hm:(m:Int)<=9223372036854775807:=by omega
  have hlt:decide (-((m:Int)+1)<0)=true:=hd;clear hna hd hd2 e1 hneg;have hz:Blk (w.alloc (.cells #[.bool false,.slice none 0 0] 49)) w.heap.size 49 #[.bool false,.slice none 0 0]:=Blk.new w _ _;have hb0:Below w.heap.size w (w.alloc (.cells #[.bool false,.slice none 0 0] 49)):=brf.alloc (nlr _) _;have hgl:=hz.lt;go_enter Tryz.func180,Tryz.ntmps180;go_wp2_with fail;revert hz hb0 hgl;generalize w.alloc (.cells #[.bool false,.slice none 0 0] 49)=w0;intro hz hb0 hgl;have hs0:=hb0.size;refine (CO.out _).mono ?_;rintro e w1 ⟨a1,c1,rfl,hV,hb1⟩;have hw1:=bth hb0 hb1;have hz1:=hz.below' hb1;have HV:=Hd hV;clear hV;go_wp2_with fail;refine (CM.out _ _ _).mono ?_;rintro e w3 ⟨rfl,hb3⟩;have hw3:=bth hw1 hb3;have hz3:=hz1.below' hb3;obtain ⟨z0,z1⟩:=cq2 hz3;obtain ⟨f0,f1⟩:=fq2 hz3;go_wp2;have hF:=blk2 (x:=.bool true) (y:=.slice a1 (limbs (m+1)).length c1) hz3;obtain ⟨e0,e1⟩:=cq2 hF
  refine bodyPost_ret (v:=.agg #[.bool true,.slice a1 (limbs (m+1)).length c1]) (by simp [results,Tryz.results180,go_sem,e0,e1]) rfl ?_;exact ⟨a1,c1,rfl,fun V hV=>HV.out V ((back2 hV hs0 hgl).below hb3),qbu hw3 (nlr _)⟩
 ·
  obtain ⟨m,rfl⟩:∃ m:Nat,z=(m:Int):=⟨z.toNat,by omega⟩
  have hna:((m:Nat):Int).natAbs=m:=by omega
  have hd:decide (((m:Nat):Int)<0)=false:=by rw [decide_eq_false_iff_not];omega
  rw [hna,hd];have CO:=fun W=>qiu m W (by omega)
  have CM:=fun a c W=>qd3 false m a c W
  simp only [Bool.false_and] at CM;replace CO:=Hd CO;replace CM:=Hd CM;clear hna hneg;have hz:Blk (w.alloc (.cells #[.bool false,.slice none 0 0] 49)) w.heap.size 49 #[.bool false,.slice none 0 0]:=Blk.new w _ _;have hb0:Below w.heap.size w (w.alloc (.cells #[.bool false,.slice none 0 0] 49)):=brf.alloc (nlr _) _;have hgl:=hz.lt;go_enter Tryz.func180,Tryz.ntmps180;go_wp2_with fail;revert hz hb0 hgl;generalize w.alloc (.cells #[.bool false,.slice none 0 0] 49)=w0;intro hz hb0 hgl;have hs0:=hb0.size;refine (CO.out _).mono ?_;rintro e w1 ⟨a1,c1,rfl,hV,hb1⟩;have hw1:=bth hb0 hb1;have hz1:=hz.below' hb1;have HV:=Hd hV;clear hV;go_wp2_with fail;refine (CM.out _ _ _).mono ?_;rintro e w3 ⟨rfl,hb3⟩;have hw3:=bth hw1 hb3;have hz3:=hz1.below' hb3;obtain ⟨z0,z1⟩:=cq2 hz3;obtain ⟨f0,f1⟩:=fq2 hz3;go_wp2;have hF:=blk2 (x:=.bool false) (y:=.slice a1 (limbs m).length c1) hz3;obtain ⟨e0,e1⟩:=cq2 hF
  refine bodyPost_ret (v:=.agg #[.bool false,.slice a1 (limbs m).length c1]) (by simp [results,Tryz.results180,go_sem,e0,e1]) rfl ?_;exact ⟨a1,c1,rfl,fun V hV=>HV.out V ((back2 hV hs0 hgl).below hb3),qbu hw3 (nlr _)⟩
theorem qqs (z:Int) (w:World) (hi:InInt z) :
  Calls Tryz.prog 81 #[.int .i64 z] w (RetZ (decide (z<0)) z.natAbs w):=by
 obtain ⟨hi1,hi2⟩:=hi;by_cases hneg:z<0
 ·
  obtain ⟨m,rfl⟩:∃ m:Nat,z = -((m:Int)+1):=⟨(-(z+1)).toNat,by omega⟩
  have hna:(-((m:Int)+1)).natAbs=m+1:=by omega
  have hd:decide (-((m:Int)+1)<0)=true:=by rw [decide_eq_true_eq];omega
  rw [hna,hd];have CO:=fun W=>qb1 m W (by omega)
  have CO1:=fun W=>qb1 1 W (by omega)
  have hml:(limbs m).length<=4:=qal (by have e:(65536:Nat) ^ 4=18446744073709551616:=(by decide);omega);have hml1:(limbs 1).length<=4:=qal (by decide);have hml2:(limbs (m+1)).length<=5:=qal (by have e:(65536:Nat) ^ 5=1208925819614629174706176:=(by decide);omega);have CA:=fun a1 a2 c1 c2 W h1 h2=>qr3 (limbs m) (limbs 1) m 1 a1 a2 c1 c2 W h1 h2 (qaa _) (qaa _) (by omega) (by omega)
  have CF:=fun a c W h=>qh0 true (limbs (m+1)) (m+1) a c W h (qaa _) (by omega)
  have hd2:decide (0<m+1)=true:=by rw [decide_eq_true_eq];omega
  simp only [hd2,Bool.and_true] at CF;replace CO:=Hd CO;replace CO1:=Hd CO1;replace CA:=Hd CA;replace CF:=Hd CF;have f1:-(-((m:Int)+1)+1)=(m:Int):=by omega
  have hm:(m:Int)<=9223372036854775807:=by omega
  clear hna hd2 hneg hml hml1 hml2;have hz:Blk (w.alloc (.cells #[.bool false,.slice none 0 0] 49)) w.heap.size 49 #[.bool false,.slice none 0 0]:=Blk.new w _ _;have hb0:Below w.heap.size w (w.alloc (.cells #[.bool false,.slice none 0 0] 49)):=brf.alloc (nlr _) _;have hgl:=hz.lt;go_enter Tryz.func81,Tryz.ntmps81;go_wp2_with fail;revert hz hb0 hgl;generalize w.alloc (.cells #[.bool false,.slice none 0 0] 49)=w0;intro hz hb0 hgl;have hs0:=hb0.size;refine (CO.out _).mono ?_;rintro e w1 ⟨a3,c3,rfl,hV3,hb1⟩;have hw1:=bth hb0 hb1;have hz1:=hz.below' hb1;have HV3:=Hd hV3;clear hV3;go_wp2_with fail;refine (CO1.out _).mono ?_;rintro e w2 ⟨a4,c4,rfl,hV4,hb2⟩;have hw2:=bth hw1 hb2;have hz2:=hz1.below' hb2;have CA2:=CA.out _ _ _ _ w2 (HV3.out w2 ((New.refl _ _).below hb2)) (hV4 w2 (New.refl _ _));replace CA2:=Hd CA2;clear hV4;go_wp2_with fail;refine CA2.out.mono ?_;rintro e w4 ⟨a5,c5,rfl,hV5,hb4⟩
  have hw4:=bth hw2 hb4;have hz4:=hz2.below' hb4;have CF2:=CF.out _ _ w4 (hV5 w4 (New.refl _ _));replace CF2:=Hd CF2;clear hV5;go_wp2_with fail;refine CF2.out.mono ?_;rintro e w3 ⟨a1,c1,rfl,hV,hb3⟩;have hw3:=bth hw4 hb3;have hz3:=hz4.below' hb3;have hg4:=hz4.lt;have HV:=Hd hV;clear hV;obtain ⟨z0,z1⟩:=cq2 hz3;obtain ⟨f0,f1⟩:=fq2 hz3;go_wp2;have hF:=blk2 (x:=.bool true) (y:=.slice a1 (limbs (m+1)).length c1) hz3;obtain ⟨e0,e1⟩:=cq2 hF;refine bodyPost_ret (v:=.agg #[.bool true,.slice a1 (limbs (m+1)).length c1]) (by simp [results,Tryz.results81,go_sem,e0,e1]) rfl ?_;exact ⟨a1,c1,rfl,fun V hV=>HV.out V (back2 hV hw4.size hg4),qbu hw3 (nlr _)⟩
 ·
  obtain ⟨m,rfl⟩:∃ m:Nat,z=(m:Int):=⟨z.toNat,by omega⟩
  have hna:((m:Nat):Int).natAbs=m:=by omega
  have hd:decide (((m:Nat):Int)<0)=false:=by rw [decide_eq_false_iff_not];omega
  rw [hna,hd];have hml:(limbs m).length<=4:=qal (by have e:(65536:Nat) ^ 4=18446744073709551616:=(by decide);omega);have CO:=fun W=>qb1 m W (by omega)
  have CF:=fun a c W h=>qh0 false (limbs m) m a c W h (qaa _) (by omega)
  simp only [Bool.false_and] at CF;replace CO:=Hd CO;replace CF:=Hd CF;clear hna hneg hml;have hz:Blk (w.alloc (.cells #[.bool false,.slice none 0 0] 49)) w.heap.size 49 #[.bool false,.slice none 0 0]:=Blk.new w _ _;have hb0:Below w.heap.size w (w.alloc (.cells #[.bool false,.slice none 0 0] 49)):=brf.alloc (nlr _) _;have hgl:=hz.lt;go_enter Tryz.func81,Tryz.ntmps81;go_wp2_with fail;revert hz hb0 hgl;generalize w.alloc (.cells #[.bool false,.slice none 0 0] 49)=w0;intro hz hb0 hgl;have hs0:=hb0.size;refine (CO.out _).mono ?_;rintro e w4 ⟨a3,c3,rfl,hV3,hb1⟩;have hw4:=bth hb0 hb1;have hz4:=hz.below' hb1;have CF2:=CF.out _ _ w4 (hV3 w4 (New.refl _ _));replace CF2:=Hd CF2;clear hV3;go_wp2_with fail;refine CF2.out.mono ?_;rintro e w3 ⟨a1,c1,rfl,hV,hb3⟩;have hw3:=bth hw4 hb3;have hz3:=hz4.below' hb3;have hg4:=hz4.lt;have HV:=Hd hV;clear hV;obtain ⟨z0,z1⟩:=cq2 hz3;obtain ⟨f0,f1⟩:=fq2 hz3
  go_wp2;have hF:=blk2 (x:=.bool false) (y:=.slice a1 (limbs m).length c1) hz3;obtain ⟨e0,e1⟩:=cq2 hF;refine bodyPost_ret (v:=.agg #[.bool false,.slice a1 (limbs m).length c1]) (by simp [results,Tryz.results81,go_sem,e0,e1]) rfl ?_;exact ⟨a1,c1,rfl,fun V hV=>HV.out V (back2 hV hw4.size hg4),qbu hw3 (nlr _)⟩
def zval (neg:Bool) (n:Nat):Int:=if neg=true then -(n:Int) else n
def cmpI (a b:Int):Int:=if a<b then -1 else if b<a then 1 else 0
end Go.Proofs.YtfaalkneigpcnaaGreatDoor
namespace Go.Proofs.YtfaalkneigpcnaaGreatDoor
theorem qrp {l:List Int} (h:U16 l) (hl:l.length<=(limbs (val l)).length):limbs (val l)=l:=by
 obtain ⟨k,hk,e⟩:=qgo h;have h1:=congrArg List.length e;rw [List.length_take] at h1;rw [e,List.take_of_length_le (by omega)]
theorem ql8 {o:List Int} {n1 n2:Nat} (hou:U16 o) (hl:o.length=(limbs n1).length) (h:val o=n1+n2):limbs (n1+n2)=o:=by
 have h1:=qap (show n1<=n1+n2 by omega);rw [<- h] at h1 ⊢;exact qrp hou (by omega)
theorem qkk {o:List Int} {n1 n2 c:Nat} (hou:U16 o) (hc:0<c) (hc2:c<=65535) (h:val o+65536 ^ o.length*c=n1+n2):limbs (n1+n2)=o++[(c:Int)]:=by
 have hv:val (o++[(c:Int)])=n1+n2:=by rw [qe0,<- h];simp
 rw [<- hv];refine qfi (hou.app (U16.cons (by omega) U16.nil)) fun x hx=>?_
 rw [List.getLast?_append] at hx;simp at hx
 omega
structure MulR (T U O : List Int) (i : Nat) : Prop where
 len:O.length=T.length+U.length
 u16:U16 O
 sum:val O=val (T.take i)*val U
 far:∀ j,i+U.length<=j->j<O.length->O[j]? = some 0
structure MulI (T U O : List Int) (i k c : Nat) (x : Int) : Prop where
 len:O.length=T.length+U.length
 u16:U16 O
 car:c<=65535
 sum:val O+65536 ^ (i+k)*c=val (T.take i)*val U+65536 ^ i*(x.toNat*val (U.take k))
 far:∀ j,i+U.length<=j->j<O.length->O[j]? = some 0
theorem MulR.start (T U:List Int):MulR T U (List.replicate (T.length+U.length) 0) 0 :=
 ⟨by simp,qbl _,by simp [qeg,val],fun j _ hl=>by simp at hl;rw [List.getElem?_replicate,if_pos hl]⟩
theorem MulR.row {T U O:List Int} {i:Nat} (h:MulR T U O i) (x:Int):MulI T U O i 0 0 x:=⟨h.len,h.u16,by omega,by simp [h.sum,val],h.far⟩
theorem MulI.next {T U O:List Int} {i k c:Nat} {x z y:Int} (h:MulI T U O i k c x) (hx:0<=x/\x<=65535) (hk:k<U.length) (hz:O[i+k]? = some z) (hy:U[k]? = some y) (hy2:0<=y/\y<=65535)
  {c2 d:Nat} (hd:d+65536*c2=z.toNat+x.toNat*y.toNat+c) (hd2:d<=65535):MulI T U (O.set (i+k) (d:Int)) i (k+1) c2 x:=by
 have hz2:=h.u16.get hz;refine ⟨by rw [List.length_set];exact h.len,h.u16.set_ ⟨by omega,by omega⟩,qk5 (z:=z.toNat) (x:=x.toNat) (y:=y.toNat) (c:=c) (d:=d) (by omega) (by omega) (by omega) h.car hd,qk0 T U O i k c c2 d z x y hz (qas hy) h.sum hd,fun j hj hl=>?_⟩;rw [List.getElem?_set_ne (by omega)];exact h.far j hj (by simpa using hl)
theorem MulI.done {T U O:List Int} {i c:Nat} {x:Int} (h:MulI T U O i U.length c x) (hx:T[i]? = some x):MulR T U (O.set (i+U.length) (c:Int)) (i+1):=by
 have hi:=qaw hx;have hz:=h.far (i+U.length) (nlr _) (by rw [h.len];omega);have h1:=qg6 hz (c:Int);have h2:=h.sum;rw [qau (nlr _),qjc T U i x hx] at h2;have hc:=h.car;refine ⟨by rw [List.length_set];exact h.len,h.u16.set_ ⟨by omega,by omega⟩,?_,fun j hj hl=>?_⟩
 ·
  have e:((c:Int)).toNat=c:=by omega
  rw [e] at h1;simp only [Int.toNat_zero,Nat.mul_zero,Nat.add_zero] at h1
  omega
 ·
  rw [List.getElem?_set_ne (by omega)];exact h.far j (by omega) (by simpa using hl)
theorem MulR.done {T U O:List Int} (h:MulR T U O T.length):val O=val T*val U:=by rw [h.sum,qau (nlr _)]
end Go.Proofs.YtfaalkneigpcnaaGreatDoor
namespace Go.Proofs.YtfaalkneigpcnaaGreatDoor
open Go.RowKit
theorem qee {O:List Int} {k:Nat} (hk:k<O.length) (d:Int):(O.set k d).take (k+1)=O.take k++[d]:=by
 rw [qbh (xs:=O.set k d) (x:=d) (by simp [hk]),List.take_set_of_le (nlr _)]
theorem zz16 {P:Prop} (h:P:=by
 go_wp2;go_roundg (gk-1)
 case rel=>exact ⟨k+1,c2,O.set k (lo:Int),by have:=HKG.out;omega,by go_num,rfl,by omega,by show _=_;rw [List.length_set];exact hol.out,hou.set_ (by omega),HSET.out lo,hwr.setCell (nlr _) _,by show _=_;rw [HTK.out];exact HST.out⟩
 case measure=>have:=HKG.out;omega
 ):P:=h
theorem zz13 {P:Prop} (h:P:=by
 obtain ⟨t,ht⟩:=qac hkn;obtain ⟨bq,oq,rfl,hcq⟩:=(HQ.out.ext (xbw hwr)).cell ht;obtain ⟨ht0,ht1⟩:=huq.get ht;obtain ⟨t,rfl⟩:∃ s:Nat,t=(s:Int):=⟨t.toNat,by omega⟩
 have HST:=HSTEP.out;rw [qas ht,Int.toNat_natCast] at HST;obtain ⟨lo,hlo⟩:∃ lo,(cc+y+t) % 65536=lo:=⟨_,rfl⟩
 obtain ⟨c2,hc2⟩:∃ c2,(cc+y+t) / 65536=c2:=⟨_,rfl⟩
 have hw1:IntKind.u16.wrap ((cc:Int)+(y:Int)+(t:Int))=(lo:Int):=by
  have:=qbt (cc+y+t);rw [hlo] at this;rw [<- this];simp
 have hw2:((cc:Int)+(y:Int)+(t:Int)) / 65536=(c2:Int):=by omega
 have hlo1:lo<=65535:=by omega
 have hc21:c2<=1:=by omega
 replace HST:=Hd (HST c2 lo (by omega));clear ht hlo hc2 HSTEP;exact zz16
 ):P:=h
theorem zz14 {P:Prop} (h:P:=by
 have HRES:=Hd hres;have HLO:Hid ((O++[(cc:Int)]).length<=16777216):=Hd (by rw [List.length_append,hol.out];simp;omega);obtain rfl:cc=1:=by omega
 have hown2:=HOWN.out;have hoL:=hol.out;have hltO:¬ O.length<O.length:=Nat.lt_irrefl _;rw [<- hoL] at hown2 ⊢;obtain ⟨cO,hcO⟩:∃ q,O.length+1=q:=⟨_,rfl⟩
 rw [hcO] at hown2 ⊢;replace HOWN:=Hd hown2;replace hoL:=Hd hoL;clear hres hown2 hcz hcO;go_wp2_with (at_builtin;go_must (refine qc5 rfl (.tmp 58) (.tmp 61) rfl (some ⟨w.heap.size,0,none⟩) cO rfl (HOWN.out.alloc _) ((1:Nat):Int) wr.heap.size 1 rfl (by simp) (O++[((1:Nat):Int)]) rfl HLO.out (by have:=hwr.size;simp;omega) ?_);intro a2 c2 w2 ho2 hg2 hx2);go_ret;exact RetN.own ho2 (hou.app (U16.cons (by omega) U16.nil)) (qaq (hwr.alloc hwr.size _) (HOWN.out.alloc _) hg2) (by rw [HSUM.out];exact HRES.out) (by simp)
 ):P:=h
theorem zz15 {P:Prop} (h:P:=by
 have HST:=HSTEP.out;rw [qbr (by omega)] at HST;obtain ⟨lo,hlo⟩:∃ lo,(cc+y) % 65536=lo:=⟨_,rfl⟩
 obtain ⟨c2,hc2⟩:∃ c2,(cc+y) / 65536=c2:=⟨_,rfl⟩
 have hw1:IntKind.u16.wrap ((cc:Int)+(y:Int))=(lo:Int):=by
  have:=qbt (cc+y);rw [hlo] at this;rw [<- this];simp
 have hw2:((cc:Int)+(y:Int)) / 65536=(c2:Int):=by omega
 have hlo1:lo<=65535:=by omega
 have hc21:c2<=1:=by omega
 replace HST:=Hd (HST c2 lo (by simp;omega));clear hlo hc2 HSTEP;exact zz16
 ):P:=h
theorem zz17 {P:Prop} (h:P:=by
 have h1:=hval.out;rw [qau (by rw [hol.out];omega),qau (nlr _),qau (by omega),HVP.out,HVQ.out] at h1;rw [hol.out];exact h1
 ):P:=h
theorem qtx (l m:List Int) (n1 n2:Nat) (a a':Option Addr) (c c':Nat) (w:World) (h:NatR w a c l) (h':NatR w a' c' m) (hn:val l=n1) (hk:val m=n2) (hl:l.length<=10000000) (hm:m.length<=10000000) :
  Calls Tryz.prog 264 #[.slice a l.length c,.slice a' m.length c'] w (RetN (limbs (n1+n2)) w):=by
 have C1:=qax l a c w h;have C2:=qax m a' c' w h';have hP:=h.trim;have hQ:=h'.trim;have hl1:=qaf h.u16;have hl2:=qaf h'.u16;rw [hn] at C1 hP hl1;rw [hk] at C2 hQ hl2;have hup:=qa3 n1;have huq:=qa3 n2;have hvp:=qaa n1;have hvq:=qaa n2;obtain ⟨M,hM⟩:∃ M,n1+n2=M:=⟨_,rfl⟩
 rw [hM];have HSUM0:=Hd hM;have hT0:(limbs n1).length<=10000000:=by omega
 have hU0:(limbs n2).length<=10000000:=by omega
 clear hl1 hl2 h h' hn hk hM;obtain ⟨T,hT⟩:∃ T,limbs n1=T:=⟨_,rfl⟩
 obtain ⟨U,hU⟩:∃ U,limbs n2=U:=⟨_,rfl⟩
 have HT:=Hd hT;have HU:=Hd hU;rw [hT] at C1 hP hup hvp hT0;rw [hU] at C2 hQ huq hvq hU0;replace C1:=Hd C1;replace C2:=Hd C2;clear hT hU;by_cases hcmp:T.length<U.length
 ·
  have HP:=Hd hQ;have HQ:=Hd hP;have HVP:=Hd hvq;have HVQ:=Hd hvp;have HLP:Hid (U.length=(limbs n2).length):=Hd (by rw [HU.out]);have HSUM:Hid (M=n2+n1):=Hd (by rw [<- HSUM0.out,Nat.add_comm]);clear hP hQ hvp hvq;obtain ⟨hup,huq⟩:=And.intro huq hup;have hmk:=qef .i64 U.length (U.length+1) (by omega) (by omega) w;simp only [Int.natCast_add,Int.cast_ofNat_Int] at hmk;go_enter Tryz.func264,Tryz.ntmps264;go_wp2_with fail;refine C1.out.mono ?_;rintro e w1 ⟨rfl,rfl⟩;go_wp2_with fail;refine C2.out.mono ?_;rintro e w1 ⟨rfl,rfl⟩;go_wp2;clear hmk C1 C2;have hz0:=BlkN.new w (U.length+1);have hb0:Below w.heap.size w (w.alloc (.cells (madeCells #[.int .u16 0] (U.length+1)) 102)):=brf.alloc (nlr _) _;have hz:RowN (w.alloc (.cells (madeCells #[.int .u16 0] (U.length+1)) 102)) w.heap.size (List.replicate U.length 0) [.int .u16 0]:=by
   have h1:=(RowN.of hz0).cut U.length;have e1:(List.replicate (U.length+1) (0:Int)).take U.length=List.replicate U.length 0:=by rw [List.take_replicate];congr 1;omega
   have e2:(List.replicate (U.length+1) (0:Int)).drop U.length=[0]:=by rw [List.drop_replicate,show U.length+1-U.length=1 by omega];rfl
   rw [e1,e2] at h1;exact h1
  clear hz0;revert hz hb0;generalize w.alloc (.cells (madeCells #[.int .u16 0] (U.length+1)) 102)=w0;intro hb0 hz
  go_loopg [6,7,8,28] U.length (fun g s6 _ _ s28 wr=>∃ (k cc:Nat) (O:List Int),k+g=U.length/\s28=.int .i64 k/\s6=.int .u32 cc/\cc<=1/\Hid (O.length=U.length)/\U16 O/\RowN wr w.heap.size O [.int .u16 0]/\Below w.heap.size w wr /\
   Hid (val (O.take k)+65536 ^ k*cc=val (U.take k)+val (T.take k)))
  case atStart=>exact ⟨0,0,_,by omega,rfl,rfl,by omega,by show _=_;simp,qbl _,hz,hb0,by show _=_;simp [val]⟩
  case round =>
   clear hz hb0;obtain ⟨k,cc,O,hkg,rfl,rfl,hc1,hol,hou,hrow,hwr,hval⟩:=hrel;have HROW:=Hd hrow;have HKG:=Hd hkg;clear hrow hkg;by_cases hlt:k<U.length
   ·
    obtain ⟨x,hx⟩:=qac hlt;obtain ⟨hx0,hx1⟩:=hup.get hx;obtain ⟨bp,op,rfl,hcp⟩:=(HP.out.ext (xbw hwr)).cell hx;have hkO:k<O.length:=by rw [hol.out];exact hlt
    obtain ⟨z,hz⟩:=qac hkO;have hcell:=HROW.out.cell hz;have hfr:=HROW.out.frozen k;have hsx:=qas hx;have hset:=fun q:Int=>HROW.out.set_ hkO q
    have HSET:=Hd hset;have htk:=fun q:Int=>qee hkO q
    have hstep:=fun c2 d h1=>qfu U T (O.take k) k cc c2 d (by rw [List.length_take];omega) hval.out h1
    rw [hsx] at hstep;obtain ⟨y,rfl⟩:∃ y:Nat,x=(y:Int):=⟨x.toNat,by omega⟩
    rw [Int.toNat_natCast] at hstep;have HTK:=Hd htk;have HSTEP:=Hd hstep;clear hset hstep htk hval hx hsx hz;by_cases hkn:k<T.length
    ·
     exact zz13
    ·
     exact zz15
   ·
    obtain rfl:k=U.length:=by have:=HKG.out;omega
    have hfin:val O+65536 ^ O.length*cc=n2+n1:=by
     exact zz17
    have hown:OwnN w.heap.size wr (some ⟨w.heap.size,0,none⟩) (U.length+1) O:=by
     have h1:=HROW.out.own (nlr _) (c:=U.length+1) (by rw [hol.out];rfl) (by unfold maxLen;omega) O.length (nlr _)
     rwa [List.take_length] at h1
    have HOWN:=Hd hown;have HFIN:=Hd hfin;clear hown hfin hval;by_cases hcz:cc=0
    ·
     subst hcz;have hres:limbs (n2+n1)=O:=by
      have h1:=HFIN.out;rw [Nat.mul_zero,Nat.add_zero] at h1;exact ql8 hou (by rw [hol.out,HLP.out]) h1
     have HRES:=Hd hres;clear hres;go_wp2;go_ret;refine RetN.own (l:=O) HOWN.out hou hwr (by rw [HSUM.out];exact HRES.out) (hol.out.symm)
    ·
     have hres:limbs (n2+n1)=O++[(cc:Int)]:=qkk hou (by omega) (by omega) HFIN.out;exact zz14
 ·
  have HP:=Hd hP;have HQ:=Hd hQ;have HVP:=Hd hvp;have HVQ:=Hd hvq;have HLP:Hid (T.length=(limbs n1).length):=Hd (by rw [HT.out]);have HSUM:Hid (M=n1+n2):=Hd HSUM0.out.symm;clear hP hQ hvp hvq;have hmk:=qef .i64 T.length (T.length+1) (by omega) (by omega) w;simp only [Int.natCast_add,Int.cast_ofNat_Int] at hmk;go_enter Tryz.func264,Tryz.ntmps264;go_wp2_with fail;refine C1.out.mono ?_;rintro e w1 ⟨rfl,rfl⟩;go_wp2_with fail;refine C2.out.mono ?_;rintro e w1 ⟨rfl,rfl⟩;go_wp2;clear hmk C1 C2;have hz0:=BlkN.new w (T.length+1);have hb0:Below w.heap.size w (w.alloc (.cells (madeCells #[.int .u16 0] (T.length+1)) 102)):=brf.alloc (nlr _) _;have hz:RowN (w.alloc (.cells (madeCells #[.int .u16 0] (T.length+1)) 102)) w.heap.size (List.replicate T.length 0) [.int .u16 0]:=by
   have h1:=(RowN.of hz0).cut T.length;have e1:(List.replicate (T.length+1) (0:Int)).take T.length=List.replicate T.length 0:=by rw [List.take_replicate];congr 1;omega
   have e2:(List.replicate (T.length+1) (0:Int)).drop T.length=[0]:=by rw [List.drop_replicate,show T.length+1-T.length=1 by omega];rfl
   rw [e1,e2] at h1;exact h1
  clear hz0;revert hz hb0;generalize w.alloc (.cells (madeCells #[.int .u16 0] (T.length+1)) 102)=w0;intro hb0 hz
  go_loopg [6,7,8,28] T.length (fun g s6 _ _ s28 wr=>∃ (k cc:Nat) (O:List Int),k+g=T.length/\s28=.int .i64 k/\s6=.int .u32 cc/\cc<=1/\Hid (O.length=T.length)/\U16 O/\RowN wr w.heap.size O [.int .u16 0]/\Below w.heap.size w wr /\
   Hid (val (O.take k)+65536 ^ k*cc=val (T.take k)+val (U.take k)))
  case atStart=>exact ⟨0,0,_,by omega,rfl,rfl,by omega,by show _=_;simp,qbl _,hz,hb0,by show _=_;simp [val]⟩
  case round =>
   clear hz hb0;obtain ⟨k,cc,O,hkg,rfl,rfl,hc1,hol,hou,hrow,hwr,hval⟩:=hrel;have HROW:=Hd hrow;have HKG:=Hd hkg;clear hrow hkg;by_cases hlt:k<T.length
   ·
    obtain ⟨x,hx⟩:=qac hlt;obtain ⟨hx0,hx1⟩:=hup.get hx;obtain ⟨bp,op,rfl,hcp⟩:=(HP.out.ext (xbw hwr)).cell hx;have hkO:k<O.length:=by rw [hol.out];exact hlt
    obtain ⟨z,hz⟩:=qac hkO;have hcell:=HROW.out.cell hz;have hfr:=HROW.out.frozen k;have hsx:=qas hx;have hset:=fun q:Int=>HROW.out.set_ hkO q
    have HSET:=Hd hset;have htk:=fun q:Int=>qee hkO q
    have hstep:=fun c2 d h1=>qfu T U (O.take k) k cc c2 d (by rw [List.length_take];omega) hval.out h1
    rw [hsx] at hstep;obtain ⟨y,rfl⟩:∃ y:Nat,x=(y:Int):=⟨x.toNat,by omega⟩
    rw [Int.toNat_natCast] at hstep;have HTK:=Hd htk;have HSTEP:=Hd hstep;clear hset hstep htk hval hx hsx hz;by_cases hkn:k<U.length
    ·
     exact zz13
    ·
     exact zz15
   ·
    obtain rfl:k=T.length:=by have:=HKG.out;omega
    have hfin:val O+65536 ^ O.length*cc=n1+n2:=by
     exact zz17
    have hown:OwnN w.heap.size wr (some ⟨w.heap.size,0,none⟩) (T.length+1) O:=by
     have h1:=HROW.out.own (nlr _) (c:=T.length+1) (by rw [hol.out];rfl) (by unfold maxLen;omega) O.length (nlr _)
     rwa [List.take_length] at h1
    have HOWN:=Hd hown;have HFIN:=Hd hfin;clear hown hfin hval;by_cases hcz:cc=0
    ·
     subst hcz;have hres:limbs (n1+n2)=O:=by
      have h1:=HFIN.out;rw [Nat.mul_zero,Nat.add_zero] at h1;exact ql8 hou (by rw [hol.out,HLP.out]) h1
     have HRES:=Hd hres;clear hres;go_wp2;go_ret;refine RetN.own (l:=O) HOWN.out hou hwr (by rw [HSUM.out];exact HRES.out) (hol.out.symm)
    ·
     have hres:limbs (n1+n2)=O++[(cc:Int)]:=qkk hou (by omega) (by omega) HFIN.out;exact zz14
theorem zz18 {P:Prop} (h:P:=by
 clear hp1 hp2 h0 hT;go_enter Tryz.func183,Tryz.ntmps183;go_wp2_with fail;refine C1.out.mono ?_;rintro e w1 ⟨rfl,rfl⟩;go_wp2_with fail;refine C2.out.mono ?_;rintro e w1 ⟨rfl,rfl⟩;go_wp2;go_ret;exact ⟨none,0,rfl,fun _ _=>SlR.nil,Below.refl _ _⟩
 ):P:=h
theorem qkj (l m:List Int) (n1 n2:Nat) (a a':Option Addr) (c c':Nat) (w:World) (h:NatR w a c l) (h':NatR w a' c' m) (hn:val l=n1) (hk:val m=n2) (h0:n1=0\/n2=0) :
  Calls Tryz.prog 183 #[.slice a l.length c,.slice a' m.length c'] w (RetN [] w):=by
 have C1:=qax l a c w h;have C2:=qax m a' c' w h';rw [hn] at C1;rw [hk] at C2;have hp1:=qan (n:=n1);have hp2:=qan (n:=n2);have hle:=h'.len;have hle2:=qaf h'.u16;rw [hk] at hle2;clear h h' hn hk;revert C1 C2 hp1 hp2 hle2;generalize (limbs n1).length=T;generalize (limbs n2).length=U;intro C1 C2 hp1 hp2 hle2;replace C1:=Hd C1;replace C2:=Hd C2;by_cases hT:T=0
 ·
  have hT1:((T:Int)==0)=true:=by rw [beq_iff_eq];omega
  exact zz18
 ·
  have hT1:((T:Int)==0)=false:=by rw [beq_eq_false_iff_ne];omega
  have hU1:((U:Int)==0)=true:=by rw [beq_iff_eq];omega
  exact zz18
theorem quq (l m:List Int) (n1 n2:Nat) (a a':Option Addr) (c c':Nat) (w:World) (h:NatR w a c l) (h':NatR w a' c' m) (hn:val l=n1) (hk:val m=n2) (hl:l.length<=8000000) (hm:m.length<=8000000) (h1:n1≠0) (h2:n2≠0) :
  Calls Tryz.prog 183 #[.slice a l.length c,.slice a' m.length c'] w (RetN (limbs (n1*n2)) w):=by
 have C1:=qax l a c w h;have C2:=qax m a' c' w h';have hP:=h.trim;have hQ:=h'.trim;have hl1:=qaf h.u16;have hl2:=qaf h'.u16;rw [hn] at C1 hP hl1;rw [hk] at C2 hQ hl2;have hup:=qa3 n1;have huq:=qa3 n2;have hvp:=qaa n1;have hvq:=qaa n2;have hp1:=qan.2 (show 0<n1 by omega);have hp2:=qan.2 (show 0<n2 by omega);obtain ⟨M,hM⟩:∃ M,n1*n2=M:=⟨_,rfl⟩
 rw [hM];have HM:=Hd hM;have hT0:(limbs n1).length<=8000000:=by omega
 have hU0:(limbs n2).length<=8000000:=by omega
 clear hl1 hl2 h h' hn hk hM h1 h2;revert C1 C2 hP hQ hup huq hvp hvq hp1 hp2 hT0 hU0;generalize limbs n1=T;generalize limbs n2=U;intro C1 C2 hP hQ hup huq hvp hvq hp1 hp2 hT0 hU0;have HP:=Hd hP;have HQ:=Hd hQ;have HVP:=Hd hvp;have HVQ:=Hd hvq;have HUP:=Hd hup;have HUQ:=Hd huq;replace C1:=Hd C1;replace C2:=Hd C2;have hT1:((T.length:Int)==0)=false:=by rw [beq_eq_false_iff_ne];omega
 have hU1:((U.length:Int)==0)=false:=by rw [beq_eq_false_iff_ne];omega
 have hmk:∀ w,(Instr.makeSlice 47 (.int .i64 ((T.length:Int)+U.length)) (.int .i64 ((T.length:Int)+U.length))).run Tryz.prog w=.ok (.slice (some ⟨w.heap.size,0,none⟩) (T.length+U.length) (T.length+U.length)) (w.alloc (.cells (madeCells #[.int .u16 0] (T.length+U.length)) 102)):=fun w=>by
  have:=qca .i64 (T.length+U.length) (by omega) w;simpa using this
 clear hP hQ hvp hvq hup huq;go_enter Tryz.func183,Tryz.ntmps183;go_wp2_with fail;refine C1.out.mono ?_;rintro e w1 ⟨rfl,rfl⟩;go_wp2_with fail;refine C2.out.mono ?_;rintro e w1 ⟨rfl,rfl⟩;go_wp2;clear hmk C1 C2 hT1 hU1;have hz:=BlkN.new w (T.length+U.length);have hb0:Below w.heap.size w (w.alloc (.cells (madeCells #[.int .u16 0] (T.length+U.length)) 102)):=brf.alloc (nlr _) _;revert hz hb0;generalize w.alloc (.cells (madeCells #[.int .u16 0] (T.length+U.length)) 102)=w0;intro hz hb0
 go_loopg [6,7,8,9,10,31] T.length (fun g _ _ _ _ _ s31 wr=>∃ (i:Nat) (O:List Int),i+g=T.length/\s31=.int .i64 i/\Hid (MulR T U O i)/\BlkN wr w.heap.size O/\Below w.heap.size w wr)
 case atStart=>exact ⟨0,_,by omega,rfl,MulR.start T U,hz,hb0⟩
 case round =>
  clear hz hb0;obtain ⟨i,O,hig,rfl,hR,hrow,hwr⟩:=hrel;have HROW:=Hd hrow;have HIG:=Hd hig;clear hrow hig;by_cases hlt:i<T.length
  ·
   obtain ⟨x,hx⟩:=qac hlt;obtain ⟨hx0,hx1⟩:=HUP.out.get hx;obtain ⟨bp,op,rfl,hcp⟩:=(HP.out.ext (xbw hwr)).cell hx;have hI:=hR.out.row x;have HX:=Hd hx;have HI:=Hd hI;clear hx hI hR;go_wp2;clear hcp;obtain ⟨wo,rfl⟩:∃ wo:World,wo=wr:=⟨_,rfl⟩
   obtain ⟨gk0,rfl⟩:∃ gk0:Nat,gk0=gk:=⟨_,rfl⟩
   go_loopg [8,9,10,38] U.length (fun g s8 _ _ s38 w2=>∃ (k cc:Nat) (O2:List Int),k+g=U.length/\s38=.int .i64 k/\s8=.int .u32 cc/\cc<=65535/\Hid (MulI T U O2 i k cc x)/\BlkN w2 w.heap.size O2/\Below w.heap.size w w2)
   case atStart=>exact ⟨0,0,O,by omega,rfl,rfl,by omega,HI.out,HROW.out,hwr⟩
   case round =>
    clear HI HROW hwr O;obtain ⟨k,cc,O,hkg,rfl,rfl,hcc,hI,hrow,hwr⟩:=hrel;have HROW:=Hd hrow;have HKG:=Hd hkg;clear hrow hkg;by_cases hkn:k<U.length
    ·
     obtain ⟨y,hy⟩:=qac hkn;obtain ⟨hy0,hy1⟩:=HUQ.out.get hy;obtain ⟨bq,oq,rfl,hcq⟩:=(HQ.out.ext (xbw hwr)).cell hy;obtain ⟨z,hz⟩:=qac (xs:=O) (k:=i+k) (by rw [hI.out.len];omega);obtain ⟨hz0,hz1⟩:=hI.out.u16.get hz;have hcell:=HROW.out.cell hz;have hfr:=HROW.out.frozen (i+k);have hset:=fun q:Int=>HROW.out.set_ (i+k) q
     have HSET:=Hd hset;have hstep:=fun (c2 d:Nat)=>hI.out.next ⟨hx0,hx1⟩ hkn hz hy ⟨hy0,hy1⟩ (c2:=c2) (d:=d)
     have hI2:(i:Int)+k<(T.length:Int)+U.length:=by omega
     have hxy:0<=x*y:=Int.mul_nonneg hx0 hy0;have hxy2:x*y<=4294836225:=by
      have:=Int.mul_le_mul hx1 hy1 hy0 (by omega)
      omega
     obtain ⟨s,hs⟩:∃ s:Nat,(cc:Int)+(z+x*y)=(s:Int):=⟨((cc:Int)+(z+x*y)).toNat,by omega⟩
     have hs2:s=z.toNat+x.toNat*y.toNat+cc:=by
      have ex:(x.toNat:Int)=x:=by omega
      have ey:(y.toNat:Int)=y:=by omega
      have ez:(z.toNat:Int)=z:=by omega
      have:((z.toNat+x.toNat*y.toNat+cc:Nat):Int)=z+x*y+cc:=by
       rw [Int.natCast_add,Int.natCast_add,Int.natCast_mul,ex,ey,ez]
      omega
     have hslt:s<4294967296:=by omega
     obtain ⟨lo,hlo⟩:∃ lo,s % 65536=lo:=⟨_,rfl⟩
     obtain ⟨c2,hc2⟩:∃ c2,s / 65536=c2:=⟨_,rfl⟩
     have HST:=Hd (hstep c2 lo (by omega) (by omega));have hw16:IntKind.u16.wrap (s:Int)=(lo:Int):=by rw [qbt,hlo]
     have hdv:(s:Int) / 65536=(c2:Int):=by omega
     have hlo2:lo<=65535:=by omega
     have hc22:c2<=65535:=by omega
     clear hset hstep hz hy hs2 hlo hc2 hI;go_wp2;go_roundg (gk-1)
     case rel=>exact ⟨k+1,c2,O.set (i+k) (lo:Int),by have:=HKG.out;omega,by go_num,rfl,by omega,HST.out,HSET.out lo,hwr.setCell (nlr _) _⟩
     case measure=>have:=HKG.out;omega
    ·
     obtain rfl:k=U.length:=by have:=HKG.out;omega
     have hdone:=hI.out.done HX.out;have HD:=Hd hdone;obtain ⟨z,hz⟩:=qac (xs:=O) (k:=i+U.length) (by rw [hI.out.len];omega);have hcell:=HROW.out.cell hz;have hfr:=HROW.out.frozen (i+U.length);have hset:=fun q:Int=>HROW.out.set_ (i+U.length) q
     have HSET:=Hd hset;have hI2:(i:Int)+U.length<(T.length:Int)+U.length:=by omega
     have hw16:IntKind.u16.wrap (cc:Int)=(cc:Int):=by rw [qbt,Nat.mod_eq_of_lt (by omega)]
     clear hset hz hdone hI;go_wp2;go_roundg (gk0-1)
     case rel=>exact ⟨i+1,O.set (i+U.length) (cc:Int),by have:=HIG.out;omega,by go_num,HD.out,HSET.out cc,hwr.setCell (nlr _) _⟩
     case measure=>have:=HIG.out;omega
  ·
   obtain rfl:i=T.length:=by have:=HIG.out;omega
   have hvO:val O=M:=by rw [hR.out.done,HVP.out,HVQ.out];exact HM.out
   have hol:=hR.out.len;have hou:=hR.out.u16;have hcap:T.length+U.length<=maxLen:=by unfold maxLen;omega
   have CT:=qax O (some ⟨w.heap.size,0,none⟩) (T.length+U.length) wr (HROW.out.readsV (nlr _) (New.refl _ _) hou (by rw [hol];omega) hcap);have hread:∀ V,New w.heap.size wr V->NatR V (some ⟨w.heap.size,0,none⟩) (T.length+U.length) (limbs M):=fun V hV=>by
    rw [<- hvO];exact (HROW.out.readsV (nlr _) hV hou (by rw [hol];omega) hcap).trim
   rw [hvO,hol] at CT;have HRD:=Hd hread;replace CT:=Hd CT;clear hread hvO hR hol;go_wp2_with fail;refine CT.out.mono ?_;rintro e w3 ⟨rfl,rfl⟩;go_wp2;go_ret;exact ⟨_,_,rfl,HRD.out,hwr⟩
theorem qhu (l m:List Int) (n1 n2:Nat) (a a':Option Addr) (c c':Nat) (w:World) (h:NatR w a c l) (h':NatR w a' c' m) (hn:val l=n1) (hk:val m=n2) (hl:l.length<=8000000) (hm:m.length<=8000000) :
  Calls Tryz.prog 183 #[.slice a l.length c,.slice a' m.length c'] w (RetN (limbs (n1*n2)) w):=by
 by_cases h1:n1=0
 ·
  rw [h1,Nat.zero_mul,qag];exact qkj l m n1 n2 a a' c c' w h h' hn hk (.inl h1)
 ·
  by_cases h2:n2=0
  ·
   rw [h2,Nat.mul_zero,qag];exact qkj l m n1 n2 a a' c c' w h h' hn hk (.inr h2)
  · exact quq l m n1 n2 a a' c c' w h h' hn hk hl hm h1 h2
theorem qdh (neg1 neg2:Bool) (l m:List Int) (n1 n2:Nat) (a a':Option Addr) (c c':Nat) (w:World) (h:NatR w a c l) (h':NatR w a' c' m) (hn:val l=n1) (hk:val m=n2) (hl:l.length<=2000000) (hm:m.length<=2000000) :
  Calls Tryz.prog 182 #[.agg #[.bool neg1,.slice a l.length c],.agg #[.bool neg2,.slice a' m.length c']] w (RetZ ((neg1 != neg2)&&decide (0<n1*n2)) (n1*n2) w):=by
 have CM:=fun W (hW:Below w.heap.size w W)=>qhu l m n1 n2 a a' c c' W (h.ext (xbw hW)) (h'.ext (xbw hW)) hn hk (by omega) (by omega)
 have CF:=fun a c W=>qd3 (neg1 != neg2) (n1*n2) a c W
 obtain ⟨R,hR⟩:∃ q,((neg1 != neg2)&&decide (0<n1*n2))=q:=⟨_,rfl⟩
 rw [hR] at CF ⊢;have hR0:True:=trivial;revert CM CF;generalize n1*n2=n;intro CM CF;replace CM:=Hd CM;replace CF:=Hd CF;have hz:Blk (((w.alloc (.cells #[.bool neg1,.slice a l.length c] 49)).alloc (.cells #[.bool neg2,.slice a' m.length c'] 49)).alloc (.cells #[.bool false,.slice none 0 0] 49)) (w.heap.size+1+1) 49 #[.bool false,.slice none 0 0]:=qcn w _ _ _ _;have hx1:Blk (((w.alloc (.cells #[.bool neg1,.slice a l.length c] 49)).alloc (.cells #[.bool neg2,.slice a' m.length c'] 49)).alloc (.cells #[.bool false,.slice none 0 0] 49)) w.heap.size 49 #[.bool neg1,.slice a l.length c]:=((Blk.new w _ _).alloc _).alloc _;have hx2:Blk (((w.alloc (.cells #[.bool neg1,.slice a l.length c] 49)).alloc (.cells #[.bool neg2,.slice a' m.length c'] 49)).alloc (.cells #[.bool false,.slice none 0 0] 49)) (w.heap.size+1) 49 #[.bool neg2,.slice a' m.length c']:=(qa5 w _ _ _).alloc _
 have hb0:Below w.heap.size w (((w.alloc (.cells #[.bool neg1,.slice a l.length c] 49)).alloc (.cells #[.bool neg2,.slice a' m.length c'] 49)).alloc (.cells #[.bool false,.slice none 0 0] 49)):=by go_grown
 have hgB:w.heap.size<=w.heap.size+1+1:=by omega
 clear h h' hn hk hR;go_enter Tryz.func182,Tryz.ntmps182;go_wp2;revert hz hx1 hx2 hb0 hgB;generalize ((w.alloc (.cells #[.bool neg1,.slice a l.length c] 49)).alloc (.cells #[.bool neg2,.slice a' m.length c'] 49)).alloc (.cells #[.bool false,.slice none 0 0] 49)=w0;generalize w.heap.size+1+1=g;intro hz hx1 hx2 hb0 hgB;have k0:=held (hx1.cell 0);have k1:=held (hx1.cell 1);have k2:=held (hx2.cell 0);have k3:=held (hx2.cell 1);have s0:Below w0.heap.size w0 w0.drew:=brf.drew;have hgl:=hz.lt;have hs0:=hb0.size;have HR:=Hd hR0;clear hR0
 cases neg1 <;> cases neg2
 all_goals
  refine wrx (S:=Below w0.heap.size w0) [(0,.q),(1,.q),(2,.q),(3,.q),(4,.q),(5,.q),(6,.q),(7,.q),(8,.q),(9,.l),(10,.t),(11,.t)] (s0) ?_
  iterate 9 (refine qam rfl rfl fun K hK=>xq ?_;go_simp;refine hK _ _ ?_;clear hK K)
  refine qaj rfl rfl (fun K hK=>?_);go_simp;refine (CM.out _ (bth hb0 s0)).mono ?_;rintro r w1 ⟨a3,c3,rfl,hV3,hb1⟩;dsimp only;refine hK.out _ _ (bth s0 hb1) (fun _=>?_);clear hK K;have s1:=bth s0 hb1;have HV:=Hd hV3;clear hV3;refine qah rfl rfl (fun K hK=>?_);go_simp;refine (CF.out _ _ _).mono ?_;rintro r w2 ⟨rfl,hb2⟩;dsimp only;refine hK.out _ _ ?_;clear hK K;have s2:=bth s1 hb2;have hz3:=hz.below' s2;obtain ⟨z0,z1⟩:=cq2 hz3;obtain ⟨f0,f1⟩:=fq2 hz3;have hw2:=bth hb0 s2;clear k0 k1 k2 k3;refine qah rfl rfl (fun K hK=>?_);go_simp;refine hK.out _ _ ?_;clear hK K;refine qak ?_;go_wp2;have hF:=blk2 (x:=.bool R) (y:=.slice a3 (limbs n).length c3) hz3;obtain ⟨e0,e1⟩:=cq2 hF;refine bodyPost_ret (v:=.agg #[.bool R,.slice a3 (limbs n).length c3]) (by simp [results,Tryz.results182,go_sem,e0,e1]) rfl ?_;exact ⟨a3,c3,rfl,fun V hV=>HV.out V ((back2 hV hs0 hgl).below hb2),qbu hw2 hgB⟩
theorem qhm (l m:List Int) (n1 n2:Nat) (a a':Option Addr) (c c':Nat) (w:World) (h:NatR w a c l) (h':NatR w a' c' m) (hn:val l=n1) (hk:val m=n2) :
  Calls Tryz.prog 279 #[.slice a l.length c,.slice a' m.length c'] w fun e w'=>e=.returned (.int .i64 (cmpN n1 n2))/\Below w.heap.size w w':=by
 have C:=qem l m n1 n2 a a' c c' w h h' hn hk;replace C:=Hd C;clear h h' hn hk;go_enter Tryz.func279,Tryz.ntmps279;go_wp2_with fail;refine C.out.mono ?_;rintro e w1 ⟨rfl,hb⟩;go_wp2;go_ret;exact ⟨rfl,hb⟩
theorem qlo (neg1 neg2:Bool) (n1 n2:Nat):cmpI (zval neg1 n1) (zval neg2 n2)=if sgnZ neg1 n1<sgnZ neg2 n2 then -1 else if sgnZ neg2 n2<sgnZ neg1 n1 then 1 else if sgnZ neg1 n1<0 then cmpN n2 n1 else cmpN n1 n2:=by
 unfold cmpI zval cmpN sgnZ
 cases neg1 <;> cases neg2 <;> by_cases p1:n1=0 <;> by_cases p2:n2=0 <;> simp [p1,p2]
 all_goals (repeat' split) <;> omega
theorem qnv (neg:Bool) (n:Nat):-1<=sgnZ neg n/\sgnZ neg n<=1:=by unfold sgnZ;split <;> (try split) <;> omega
theorem qu0 (neg1 neg2:Bool) (l m:List Int) (n1 n2:Nat) (a a':Option Addr) (c c':Nat) (w:World) (h:NatR w a c l) (h':NatR w a' c' m) (hn:val l=n1) (hk:val m=n2) (hl:l.length<=4000000) (hm:m.length<=4000000) :
  Calls Tryz.prog 263 #[.agg #[.bool neg1,.slice a l.length c],.agg #[.bool neg2,.slice a' m.length c']] w fun e w'=>e=.returned (.int .i64 (cmpI (zval neg1 n1) (zval neg2 n2)))/\Below w.heap.size w w':=by
 have C1:=fun W (hW:Below w.heap.size w W)=>qea neg1 l n1 a c W (h.ext (xbw hW)) hn (by omega)
 have C2:=fun W (hW:Below w.heap.size w W)=>qea neg2 m n2 a' c' W (h'.ext (xbw hW)) hk (by omega)
 have CA:=fun W (hW:Below w.heap.size w W)=>qhm l m n1 n2 a a' c c' W (h.ext (xbw hW)) (h'.ext (xbw hW)) hn hk
 have CB:=fun W (hW:Below w.heap.size w W)=>qhm m l n2 n1 a' a c' c W (h'.ext (xbw hW)) (h.ext (xbw hW)) hk hn
 have hres:=qlo neg1 neg2 n1 n2;have i1:=qnv neg1 n1;have i2:=qnv neg2 n2;revert C1 C2 hres i1 i2;generalize sgnZ neg1 n1=s;generalize sgnZ neg2 n2=t;intro C1 C2 hres i1 i2;obtain ⟨R,hR⟩:∃ q,cmpI (zval neg1 n1) (zval neg2 n2)=q:=⟨_,rfl⟩
 rw [hR] at hres ⊢;have HRES:=Hd hres;replace C1:=Hd C1;replace C2:=Hd C2;replace CA:=Hd CA;replace CB:=Hd CB;have hx1:Blk ((w.alloc (.cells #[.bool neg1,.slice a l.length c] 49)).alloc (.cells #[.bool neg2,.slice a' m.length c'] 49)) w.heap.size 49 #[.bool neg1,.slice a l.length c]:=(Blk.new w _ _).alloc _;have hx2:Blk ((w.alloc (.cells #[.bool neg1,.slice a l.length c] 49)).alloc (.cells #[.bool neg2,.slice a' m.length c'] 49)) (w.heap.size+1) 49 #[.bool neg2,.slice a' m.length c']:=qa5 w _ _ _;have hb0:Below w.heap.size w ((w.alloc (.cells #[.bool neg1,.slice a l.length c] 49)).alloc (.cells #[.bool neg2,.slice a' m.length c'] 49)):=by go_grown
 clear h h' hn hk hR hres;go_enter Tryz.func263,Tryz.ntmps263;go_wp2;revert hx1 hx2 hb0;generalize (w.alloc (.cells #[.bool neg1,.slice a l.length c] 49)).alloc (.cells #[.bool neg2,.slice a' m.length c'] 49)=w0;generalize w.heap.size+1=g;intro hx1 hx2 hb0;have k0:=held (hx1.cell 0);have k1:=held (hx1.cell 1);have k2:=held (hx2.cell 0);have k3:=held (hx2.cell 1);have s0:Below w0.heap.size w0 w0.drew:=brf.drew;refine wrx (S:=Below w0.heap.size w0) [(0,.q),(2,.q),(1,.l),(3,.t),(4,.p),(5,.p)] (s0) ?_
 iterate 2 (refine qam rfl rfl fun K hK=>xq ?_;go_simp;refine hK _ _ ?_;clear hK K)
 refine qaj rfl rfl (fun K hK=>?_);go_simp;refine (C1.out _ (bth hb0 s0)).mono ?_;rintro r w1 ⟨rfl,hb1⟩;dsimp only;refine hK.out _ _ (bth s0 hb1) (fun _=>?_);clear hK K;have s1:=bth s0 hb1;refine qah rfl rfl (fun K hK=>?_);go_simp;refine (C2.out _ (bth hb0 s1)).mono ?_;rintro r w2 ⟨rfl,hb2⟩;dsimp only;refine hK.out _ _ ?_;clear hK K;have s2:=bth s1 hb2
 iterate 2 (refine qav rfl rfl fun K hK=>xp ?_;go_simp;refine hK _ _ ?_;clear hK K)
 refine qak ?_;have hy1:=hx1.below' s2;have hy2:=hx2.below' s2;obtain ⟨z0,z1⟩:=cq2 hy1;obtain ⟨z2,z3⟩:=cq2 hy2;have hw2:=bth hb0 s2;clear k0 k1 k2 k3 s0 s1 s2 hb1 hb2 C1 C2;by_cases h1:s<t
 ·
  obtain rfl:R = -1:=by rw [HRES.out,if_pos h1]
  go_wp2;go_ret;exact ⟨rfl,hw2⟩
 ·
  by_cases h2:t<s
  ·
   obtain rfl:R=1:=by rw [HRES.out,if_neg h1,if_pos h2]
   go_wp2;go_ret;exact ⟨rfl,hw2⟩
  ·
   by_cases h3:s<0
   ·
    obtain rfl:R=cmpN n2 n1:=by rw [HRES.out,if_neg h1,if_neg h2,if_pos h3]
    go_wp2_with fail;refine (CB.out _ hw2).mono ?_;rintro e w5 ⟨rfl,hb5⟩;go_wp2;go_ret;exact ⟨rfl,bth hw2 hb5⟩
   ·
    obtain rfl:R=cmpN n1 n2:=by rw [HRES.out,if_neg h1,if_neg h2,if_neg h3]
    go_wp2_with fail;refine (CA.out _ hw2).mono ?_;rintro e w5 ⟨rfl,hb5⟩;go_wp2;go_ret;exact ⟨rfl,bth hw2 hb5⟩
theorem zz19 {P:Prop} (h:P:=by
 go_wp2;go_roundg (gk-1)
 case rel=>exact ⟨j+1,1,O.set j (d:Int),by have:=HJG.out;omega,by omega,by go_num,rfl,by show _=_;rw [List.length_set];exact hol.out,hou.set_ (by omega),HSET.out d,hwr.setCell hw1s _,by show _=_;rw [HTK.out];exact HST.out⟩
 case measure=>have:=HJG.out;omega
 ):P:=h
theorem zz20 {P:Prop} (h:P:=by
 go_wp2;go_roundg (gk-1)
 case rel=>exact ⟨j+1,0,O.set j (d:Int),by have:=HJG.out;omega,by omega,by go_num,rfl,by show _=_;rw [List.length_set];exact hol.out,hou.set_ (by omega),HSET.out d,hwr.setCell hw1s _,by show _=_;rw [HTK.out];exact HST.out⟩
 case measure=>have:=HJG.out;omega
 ):P:=h
theorem qle (l m:List Int) (n k:Nat) (a a':Option Addr) (c c':Nat) (w:World) (h:NatR w a c l) (h':NatR w a' c' m) (hn:val l=n) (hk:val m=k) (hl:l.length<=16777215) (hm:m.length<=16777216) (hge:k<=n) :
  Calls Tryz.prog 265 #[.slice a l.length c,.slice a' m.length c'] w (RetNE (limbs (n-k)) 0 w):=by
 have C:=qem l m n k a a' c c' w h h' hn hk;have hc:0<=cmpN n k:=qi8.2 hge;have C1:=fun W (hW:Below w.heap.size w W)=>qax l a c W (h.ext (xbw hW))
 have C2:=fun W (hW:Below w.heap.size w W)=>qax m a' c' W (h'.ext (xbw hW))
 have hP:=h.trim;have hQ:=h'.trim;have hl1:=qaf h.u16;have hl2:=qaf h'.u16;rw [hn] at C1 hP hl1;rw [hk] at C2 hQ hl2;have hup:=qa3 n;have huq:=qa3 k;have hvp:=qaa n;have hvq:=qaa k;revert C hc;generalize cmpN n k=q;intro C hc;have hcf:decide (q<0)=false:=by simp;omega
 obtain ⟨M,hM⟩:∃ M,n-k=M:=⟨_,rfl⟩
 rw [hM];have HM:=Hd hM;have HGE:=Hd hge;have hT0:(limbs n).length<=16777215:=by omega
 clear hl1 hl2 h h' hn hk hM hc hge;revert C1 C2 hP hQ hup huq hvp hvq hT0;generalize limbs n=T;generalize limbs k=U;intro C1 C2 hP hQ hup huq hvp hvq hT0;have HP:=Hd hP;have HQ:=Hd hQ;have HVP:=Hd hvp;have HVQ:=Hd hvq;replace C:=Hd C;replace C1:=Hd C1;replace C2:=Hd C2;clear hP hQ hvp hvq;go_enter Tryz.func265,Tryz.ntmps265;go_wp2_with fail;refine C.out.mono ?_;rintro e w1 ⟨rfl,hb1⟩;go_wp2_with fail;refine (C1.out _ hb1).mono ?_;rintro e w2 ⟨rfl,rfl⟩;go_wp2_with fail;refine (C2.out _ hb1).mono ?_;rintro e w2 ⟨rfl,rfl⟩;have hmk:=qca .i64 T.length (by omega) w1;go_wp2;clear hmk C C1 C2 hcf;have hz:=BlkN.new w1 T.length;have hw1s:=hb1.size;have hb0:Below w.heap.size w (w1.alloc (.cells (madeCells #[.int .u16 0] T.length) 102)):=hb1.alloc hb1.size _;revert hz hb0;generalize w1.alloc (.cells (madeCells #[.int .u16 0] T.length) 102)=w0;obtain ⟨B,hB⟩:∃ B,B=w1.heap.size:=⟨_,rfl⟩
 rw [<- hB] at hw1s ⊢;clear hB;intro hz hb0
 go_loopg [7,8,9,10,24] T.length (fun g s7 _ _ _ s24 wr=>∃ (j bo:Nat) (O:List Int),j+g=T.length/\bo<=1/\s24=.int .i64 j/\s7=.int .i32 bo/\Hid (O.length=T.length)/\U16 O/\BlkN wr B O/\Below w.heap.size w wr /\
  Hid (val (T.take j)+65536 ^ j*bo=val (U.take j)+val (O.take j)))
 case atStart=>exact ⟨0,0,_,by omega,by omega,rfl,rfl,by show _=_;simp,qbl _,hz,hb0,by show _=_;simp [val]⟩
 case round =>
  clear hz hb0;obtain ⟨j,bo,O,hjg,hbo,rfl,rfl,hol,hou,hrow,hwr,hval⟩:=hrel;have HROW:=Hd hrow;have HJG:=Hd hjg;clear hrow hjg;by_cases hlt:j<T.length
  ·
   obtain ⟨x,hx⟩:=qac hlt;obtain ⟨hx0,hx1⟩:=hup.get hx;obtain ⟨bp,op,rfl,hcp⟩:=(HP.out.ext (xbw hwr)).cell hx;have hkO:j<O.length:=by rw [hol.out];exact hlt
   obtain ⟨z,hz⟩:=qac hkO;have hcell:=HROW.out.cell hz;have hfr:=HROW.out.frozen j;have hsx:=qas hx;have hset:=fun q:Int=>HROW.out.set_ j q
   have HSET:=Hd hset;have htk:=fun q:Int=>qee hkO q
   have hstep:=fun bo2 d h1=>qmi T U (O.take j) j bo bo2 d (by rw [List.length_take];omega) hval.out h1
   rw [hsx] at hstep;obtain ⟨y,rfl⟩:∃ y:Nat,x=(y:Int):=⟨x.toNat,by omega⟩
   rw [Int.toNat_natCast] at hstep;have HTK:=Hd htk;have HSTEP:=Hd hstep;clear hset hstep htk hval hx hsx hz;by_cases hkn:j<U.length
   ·
    obtain ⟨t,ht⟩:=qac hkn;obtain ⟨bq,oq,rfl,hcq⟩:=(HQ.out.ext (xbw hwr)).cell ht;obtain ⟨ht0,ht1⟩:=huq.get ht;obtain ⟨t,rfl⟩:∃ s:Nat,t=(s:Int):=⟨t.toNat,by omega⟩
    have HST:=HSTEP.out;rw [qas ht,Int.toNat_natCast] at HST;clear ht HSTEP;by_cases hneg:(y:Int)-bo-t<0
    ·
     obtain ⟨d,hd⟩:∃ d:Nat,(y:Int)-bo-t+65536=(d:Int):=⟨((y:Int)-bo-t+65536).toNat,by omega⟩
     have hd65:d<=65535:=by omega
     replace HST:=Hd (HST 1 d (by omega));exact zz19
    ·
     obtain ⟨d,hd⟩:∃ d:Nat,(y:Int)-bo-t=(d:Int):=⟨((y:Int)-bo-t).toNat,by omega⟩
     have hd65:d<=65535:=by omega
     replace HST:=Hd (HST 0 d (by omega));exact zz20
   ·
    have HST:=HSTEP.out;rw [qbr (by omega)] at HST;clear HSTEP;by_cases hneg:(y:Int)-bo<0
    ·
     obtain ⟨d,hd⟩:∃ d:Nat,(y:Int)-bo+65536=(d:Int):=⟨((y:Int)-bo+65536).toNat,by omega⟩
     have hd65:d<=65535:=by omega
     replace HST:=Hd (HST 1 d (by simp;omega));exact zz19
    ·
     obtain ⟨d,hd⟩:∃ d:Nat,(y:Int)-bo=(d:Int):=⟨((y:Int)-bo).toNat,by omega⟩
     have hd65:d<=65535:=by omega
     replace HST:=Hd (HST 0 d (by simp;omega));exact zz20
  ·
   obtain rfl:j=T.length:=by have:=HJG.out;omega
   have hvO:val O=M:=by
    have h1:=qn9 (o:=O) hup huq hou hol.out (by have:=hval.out;rw [qau (l:=O) (by rw [hol.out];omega)] at this;exact this) (by rw [HVP.out,HVQ.out];exact HGE.out);rw [h1,HVP.out,HVQ.out];exact HM.out
   have hcap:T.length<=maxLen:=by unfold maxLen;omega
   have CT:=qax O (some ⟨B,0,none⟩) T.length wr (HROW.out.readsV (nlr _) (New.refl _ _) hou (by rw [hol.out];omega) hcap);have hread:∀ V,New w.heap.size wr V->NatR V (some ⟨B,0,none⟩) T.length (limbs M):=fun V hV=>by
    rw [<- hvO];exact (HROW.out.readsV hw1s hV hou (by rw [hol.out];omega) hcap).trim
   rw [hvO,hol.out] at CT;have HRD:=Hd hread;replace CT:=Hd CT;clear hread hvO hval;go_wp2_with fail;refine CT.out.mono ?_;rintro e w3 ⟨rfl,rfl⟩;go_wp2;go_ret2;exact ⟨_,_,rfl,HRD.out,hwr⟩
def NewIn (B T:Nat) (w V:World):Prop:=∀ p v,B<=p.block->p.block<T->w.cell? p=some v->V.cell? p=some v
def Kp (R:World->Prop) (B T:Nat) (w:World):Prop:=∀ V,NewIn B T w V->R V
section
variable {R R' : World -> Prop} {B T : Nat} {w w' : World}
theorem Kp.now (h:Kp R B T w):R w:=h w fun _ _ _ _ h=>h
theorem Kp.imp (h:Kp R B T w) (e:∀ V,R V->R' V):Kp R' B T w:=fun V hV=>e V (h V hV)
theorem Kp.alloc (h:Kp R B T w) {o:Obj}:Kp R B T (w.alloc o):=fun V hV=>h V fun p v h1 h2 h3=>hV p v h1 h2 ((World.cell?_alloc_lt w o p (World.block_lt_of_cell? w p h3)).trans h3)
theorem Kp.drew (h:Kp R B T w):Kp R B T w.drew:=h
theorem Kp.setc {g i:Nat} {u:Value} (hg:g<B\/T<=g) (h:Kp R B T w):Kp R B T (w.setCell ⟨g,i,none⟩ u):=fun V hV=>h V fun p v h1 h2 h3 =>
 hV p v h1 h2 ((World.cell?_setCell_other w ⟨g,i,none⟩ p u (fun e=>by subst e;simp at h1 h2;omega)).trans h3)
theorem Kp.call (h:Kp R B T w) (hb:Below w.heap.size w w'):Kp R B T w':=fun V hV=>h V fun p v h1 h2 h3=>hV p v h1 h2 ((hb.cell (World.block_lt_of_cell? w p h3)).trans h3)
theorem Kp.made (h:∀ V,New B w V->R V):Kp R B w.heap.size w:=fun V hV=>h V fun p v h1 h2=>hV p v h1 (World.block_lt_of_cell? w p h2) h2
theorem Kp.fin (h:Kp R B T w) {B':Nat} (hB:B'<=B):∀ V,New B' w V->R V:=fun V hV=>h V fun p v h1 _ h3=>hV p v (Nat.le_trans hB h1) h3
end
section
variable {w w' : World} {g g2 i : Nat} {t : TypeId} {cs cs' : Array Value} {u : Value}
theorem Blk.newAt (h:g=w.heap.size):Blk (w.alloc (.cells cs t)) g t cs:=by subst h;exact Blk.new w t cs
theorem Blk.farAt (hg:g≠g2) (h:Blk w g t cs):Blk (w.setCell ⟨g2,i,none⟩ u) g t cs:=h.far (p:=⟨g2,i,none⟩) hg u
theorem Blk.setb (h:Blk w g t cs') (e:cs'.setIfInBounds i u=cs):Blk (w.setCell ⟨g,i,none⟩ u) g t cs:=e ▸ h.set_ i u
theorem bF (hg:g≠g2) (h:Blk w g t cs):Blk (w.setCell ⟨g2,i,none⟩ u) g t cs:=h.farAt hg
theorem bS (h:Blk w g t cs') (e:cs'.setIfInBounds i u=cs):Blk (w.setCell ⟨g,i,none⟩ u) g t cs:=h.setb e
theorem bN (h:g=w.heap.size):Blk (w.alloc (.cells cs t)) g t cs:=Blk.newAt h
theorem bA {o:Obj} (h:Blk w g t cs):Blk (w.alloc o) g t cs:=h.alloc o
theorem bD (h:Blk w g t cs):Blk w.drew g t cs:=h.drew
end
theorem qad {P:Program} {f:Nat} {args:Array Value} {W:World} {Q:Ending->World->Prop} (R:World->Prop) (hR:R W) (h:∀ W',R W'->Calls P f args W' Q):Calls P f args W Q:=h W hR
theorem qab {G:World->Prop} {W:World} (R:World->Prop) (hR:R W) (h:∀ W',R W'->G W'):G W:=h W hR
theorem qr0 (neg:Bool) (n1 n2:Nat):zval neg n1+zval neg n2=zval neg (n1+n2):=by unfold zval;cases neg <;> simp;omega
theorem qpt {neg1 neg2:Bool} (h:neg1≠neg2) (n1 n2:Nat):(n2<=n1->zval neg1 n1+zval neg2 n2=zval neg1 (n1-n2))/\(n1<=n2->zval neg1 n1+zval neg2 n2=zval neg2 (n2-n1)):=by
 unfold zval;cases neg1 <;> cases neg2 <;> simp at h ⊢ <;> omega
theorem qtl (neg:Bool) (n:Nat):decide (zval neg n<0)=(neg&&decide (0<n)):=by
 unfold zval;cases neg <;> simp
theorem qr1 (neg:Bool) (n:Nat):(zval neg n).natAbs=n:=by unfold zval;split <;> omega
def RetI (z:Int) (w:World) (e:Ending) (w':World):Prop:=RetZ (decide (z<0)) z.natAbs w e w'
theorem qjk {neg:Bool} {n:Nat} {z:Int} {w:World} {e:Ending} {w':World} (hz:z=zval neg n) (h:RetZ (neg&&decide (0<n)) n w e w'):RetI z w e w':=by
 subst hz;unfold RetI;rw [qtl,qr1];exact h
theorem qro (neg1:Bool) (l m:List Int) (n1 n2:Nat) (a a':Option Addr) (c c':Nat) (w:World) (h:NatR w a c l) (h':NatR w a' c' m) (hn:val l=n1) (hk:val m=n2) (hl:l.length<=4000000) (hm:m.length<=4000000) :
  Calls Tryz.prog 240 #[.agg #[.bool neg1,.slice a l.length c],.agg #[.bool neg1,.slice a' m.length c']] w (RetI (zval neg1 n1+zval neg1 n2) w):=by
 have CA:=fun W (hW:Below w.heap.size w W)=>qtx l m n1 n2 a a' c c' W (h.ext (xbw hW)) (h'.ext (xbw hW)) hn hk (by omega) (by omega)
 have CF:=fun a c W=>qd3 neg1 (n1+n2) a c W
 refine Calls.mono ?_ fun _ _=>qjk (qr0 neg1 n1 n2)
 obtain ⟨R,hR⟩:∃ q,(neg1&&decide (0<n1+n2))=q:=⟨_,rfl⟩
 rw [hR] at CF ⊢;revert CA CF;generalize n1+n2=n;intro CA CF;replace CA:=Hd CA;replace CF:=Hd CF;clear h h' hn hk hR;have hx1:=qcn w (.cells #[.bool neg1,.slice a l.length c] 49) (.cells #[.bool neg1,.slice a' m.length c'] 49) 49 #[.bool false,.slice none 0 0];have hz:Blk (((w.alloc (.cells #[.bool neg1,.slice a l.length c] 49)).alloc (.cells #[.bool neg1,.slice a' m.length c'] 49)).alloc (.cells #[.bool false,.slice none 0 0] 49)) (w.heap.size+1+1) 49 #[.bool false,.slice none 0 0]:=hx1;have hx1:Blk (((w.alloc (.cells #[.bool neg1,.slice a l.length c] 49)).alloc (.cells #[.bool neg1,.slice a' m.length c'] 49)).alloc (.cells #[.bool false,.slice none 0 0] 49)) w.heap.size 49 #[.bool neg1,.slice a l.length c]:=((Blk.new w _ _).alloc _).alloc _
 have hx2:Blk (((w.alloc (.cells #[.bool neg1,.slice a l.length c] 49)).alloc (.cells #[.bool neg1,.slice a' m.length c'] 49)).alloc (.cells #[.bool false,.slice none 0 0] 49)) (w.heap.size+1) 49 #[.bool neg1,.slice a' m.length c']:=(qa5 w _ _ _).alloc _;have hb0:Below w.heap.size w (((w.alloc (.cells #[.bool neg1,.slice a l.length c] 49)).alloc (.cells #[.bool neg1,.slice a' m.length c'] 49)).alloc (.cells #[.bool false,.slice none 0 0] 49)):=by go_grown
 have hg2:w.heap.size<w.heap.size+1+1:=by omega
 go_enter Tryz.func240,Tryz.ntmps240;go_wp2;revert hz hx1 hx2 hb0 hg2;generalize ((w.alloc (.cells #[.bool neg1,.slice a l.length c] 49)).alloc (.cells #[.bool neg1,.slice a' m.length c'] 49)).alloc (.cells #[.bool false,.slice none 0 0] 49)=w0;generalize w.heap.size+1+1=g3;generalize w.heap.size+1=g2;intro hz hx1 hx2 hb0 hg2;have hs0:=hb0.size;have hgl:=hz.lt;have k0:=held (hx1.cell 0);have k1:=held (hx1.cell 1);have k2:=held (hx2.cell 1);have s0:Below w0.heap.size w0 w0.drew:=brf.drew;refine wrx (S:=Below w0.heap.size w0) [(0,.q),(1,.q),(2,.q),(3,.q),(4,.q),(5,.q),(6,.l),(7,.t),(8,.t)] (s0) ?_
 iterate 6 (refine qam rfl rfl fun K hK=>xq ?_;go_simp;refine hK _ _ ?_;clear hK K)
 refine qaj rfl rfl (fun K hK=>?_);go_simp;refine (CA.out _ (bth hb0 s0)).mono ?_;rintro r w1 ⟨a3,c3,rfl,hV3,hb1⟩;dsimp only;refine hK.out _ _ (bth s0 hb1) (fun _=>?_);clear hK K;have s1:=bth s0 hb1;have HV:=Hd hV3;clear hV3;refine qah rfl rfl (fun K hK=>?_);go_simp;refine (CF.out a3 c3 _).mono ?_;rintro r w2 ⟨rfl,hb2⟩;dsimp only;refine hK.out _ _ ?_;clear hK K;obtain ⟨a4,rfl⟩:∃ a4,a4=a3:=⟨_,rfl⟩
 obtain ⟨c4,rfl⟩:∃ c4,c4=c3:=⟨_,rfl⟩
 have s2:=bth s1 hb2;have hz3:=hz.below' s2;obtain ⟨z0,z1⟩:=cq2 hz3;obtain ⟨f0,f1⟩:=fq2 hz3;have hw2:=bth hb0 s2;clear k0 k1 k2;refine qah rfl rfl (fun K hK=>?_);go_simp;refine hK.out _ _ ?_;clear hK K;refine qak ?_;go_wp2;have hF:=blk2 (x:=.bool R) (y:=.slice a4 (limbs n).length c4) hz3;obtain ⟨e0,e1⟩:=cq2 hF;refine bodyPost_ret (v:=.agg #[.bool R,.slice a4 (limbs n).length c4]) (by simp [results,Tryz.results240,go_sem,e0,e1]) rfl ?_;exact ⟨a4,c4,rfl,fun V hV=>HV.out V ((back2 hV hs0 hgl).below hb2),qbu hw2 (Nat.le_of_lt hg2)⟩
end Go.Proofs.YtfaalkneigpcnaaGreatDoor
