/- Walks: the program's natural numbers: Of, Uint. -/
import Derived.Test.YtmdlbpibipnapaaGreatRd2
import Derived.Deep.LoopGhost
import Derived.Test.YtmdlbpibipnapaaGreatRd1
import Derived.Laws.CopyOwn
import Derived.Maps.Range
import Derived.Maps.AppendAt
import Derived.Laws.BitsAllLaws
set_option linter.all false
set_option maxRecDepth 100000
set_option maxHeartbeats 4000000
namespace Go.Proofs.YtmdlbpibipnapaaGreat
open Go.RowKit
theorem qmq {s:ByteArray} {k:Nat} {x:ByteArray} (h:qbh[k]? = some x):((qbh.take (k+1)).any fun k=>decide (s=k))=(((qbh.take k).any fun k=>decide (s=k))||decide (s=x)):=by
 rw [qbb h,List.any_append];simp
theorem qpv {s x:ByteArray} {k:Nat} (h:qbh[k]? = some x) (e:s=x):keyB s=true:=by
 unfold keyB;rw [List.any_eq_true];exact ⟨x,List.mem_of_getElem? h,by simp [e]⟩
theorem qpj (s:ByteArray) (w:World) (hs:s.size<=9223372036854775807) :
  Calls Tryz.prog 89 #[.string s] w fun e w'=>e=.returned (.bool (qbz s))/\Below w.heap.size w w':=by
 obtain ⟨r,hr⟩:=nm (qbz s)
 rw [hr];have HR:=Hd hr;clear hr;by_cases h0:s.size=0
 ·
  have e:=qg1.1 h0;subst e;have hr:r=false:=by rw [<- HR.out];exact qih
  subst hr;clear h0 hs;go_enter Tryz.func89,Tryz.ntmps89;go_wp2;go_ret;exact ⟨rfl,Below.refl _ _⟩
 ·
  have hse:s.toList.isEmpty=false:=by rw [qfg];simp;exact fun e=>h0 (qg1.2 e)
  have hse2:s.toList≠[]:=by intro e;rw [e] at hse;cases hse
  have H0:=Hd h0;clear h0;by_cases h20:s.size<=20
  ·
   have hp:0<s.size:=by have:=H0.out;omega
   have CL:=qja ((s[0]'hp).toNat:Nat) w oo (by have:=(s[0]'hp).toNat_lt;omega);rw [<- qlm hp] at CL;obtain ⟨b,hb⟩:=nm (headB s)
   rw [hb] at CL;replace CL:=Hd CL;have HB:=Hd hb;clear hb
   cases b
   ·
    have hr:r=false:=by rw [<- HR.out];simp [qbz,HB.out]
    subst hr;go_enter Tryz.func89,Tryz.ntmps89;go_wp2_with (go_at_call 133;refine CL.out.mono ?_;rintro e w' ⟨rfl,rfl⟩);go_ret;exact ⟨rfl,Below.refl _ _⟩
   ·
    go_enter Tryz.func89,Tryz.ntmps89;go_wp2_with (go_at_call 133;refine CL.out.mono ?_;rintro e w' ⟨rfl,rfl⟩);have hi0:=World.iter_heap w s 0;have hb0:Below w.heap.size w (w.iter s 0):=(Below.refl _ w).alloc (nlr _) _;revert hi0 hb0;generalize w.iter s 0=w0;intro hi0 hb0;clear CL
    go_loopg [3] s.size (fun g _ wr=>∃ pos:Nat,pos+g=s.size/\Itr wr w.heap.size s pos/\Below w.heap.size w wr/\(s.data.toList.take pos).all wordB=true)
    case atStart=>exact ⟨0,oo,hi0,hb0,rfl⟩
    case round =>
     obtain ⟨pos,hpos,hi,hb,hall⟩:=hrel;clear hi0 hb0;have HA:=Hd hall;have HP:=Hd hpos;have hsz:=hi.lt;clear hall;by_cases hlt:pos<s.size
     ·
      obtain ⟨rr,n,hnx,hn1⟩:=qof (P:=Tryz.prog) wr w.heap.size s pos hi hlt;have CL:=fun W=>qja ((s[pos]'hlt).toNat:Nat) W oo (by have:=(s[pos]'hlt).toNat_lt;omega)
      have CD:=fun W=>qqr ((s[pos]'hlt).toNat:Nat) W oo (by have:=(s[pos]'hlt).toNat_lt;omega)
      have hw:wordB (s[pos]'hlt)=(letB ((s[pos]'hlt).toNat:Nat)||digB ((s[pos]'hlt).toNat:Nat)):=rfl;have hasc:wordB (s[pos]'hlt)=true->(s[pos]'hlt).toNat<128:=by
       intro h;simp only [wordB,letB,digB,Bool.or_eq_true,decide_eq_true_eq] at h
       omega
      have hgl:=qkc hlt;have hnot:wordB (s[pos]'hlt)=false->qbz s=false:=by
       intro h;have:s.data.toList.all wordB=false:=by
        rw [List.all_eq_false];exact ⟨_,List.mem_of_getElem? hgl,by simp [h]⟩
       simp [qbz,this]
      obtain ⟨bl,hbl⟩:=nm (letB ((s[pos]'hlt).toNat:Nat))
      obtain ⟨bd,hbd⟩:=nm (digB ((s[pos]'hlt).toNat:Nat))
      rw [hbl,hbd] at hw;rw [hbl] at CL;rw [hbd] at CD;have HW:=Hd hw;have HN1:=Hd hn1;have HASC:=Hd hasc;have HNOT:=Hd hnot;have HGL:=Hd hgl;replace CL:=Hd CL;replace CD:=Hd CD;have hnb:Below w.heap.size w (qcx wr w.heap.size s (pos+n)):=qpe hb (nlr _) _ _;have hni:Itr (qcx wr w.heap.size s (pos+n)) w.heap.size s (pos+n):=hi.set _;clear hw hn1 hasc hnot hgl hbl hbd hi hb hpos;revert hnb hni hnx;generalize qcx wr w.heap.size s (pos+n)=w2;intro hnx hnb hni
      cases bl
      ·
       cases bd
       ·
        have hr:r=false:=by rw [<- HR.out];exact HNOT.out HW.out
        subst hr;go_wp2_with (first | (go_at_call 133;refine (CL.out _).mono ?_;rintro e w' ⟨rfl,rfl⟩) | (go_at_call 134;refine (CD.out _).mono ?_;rintro e w' ⟨rfl,rfl⟩));go_ret;exact ⟨rfl,hnb⟩
       ·
        go_wp2_with (first | (go_at_call 133;refine (CL.out _).mono ?_;rintro e w' ⟨rfl,rfl⟩) | (go_at_call 134;refine (CD.out _).mono ?_;rintro e w' ⟨rfl,rfl⟩));have e1:=HN1.out (HASC.out HW.out);subst e1;go_roundg (gk-1)
        case rel=>exact ⟨pos+1,by have:=HP.out;omega,hni,hnb,by rw [qbb HGL.out,List.all_append,HA.out];simp [HW.out]⟩
        case measure=>have:=HP.out;omega
      ·
       go_wp2_with (first | (go_at_call 133;refine (CL.out _).mono ?_;rintro e w' ⟨rfl,rfl⟩) | (go_at_call 134;refine (CD.out _).mono ?_;rintro e w' ⟨rfl,rfl⟩));have hwt:wordB (s[pos]'hlt)=true:=by rw [HW.out];rfl
       have e1:=HN1.out (HASC.out hwt);subst e1;go_roundg (gk-1)
       case rel=>exact ⟨pos+1,by have:=HP.out;omega,hni,hnb,by rw [qbb HGL.out,List.all_append,HA.out];simp [hwt]⟩
       case measure=>have:=HP.out;omega
     ·
      obtain ⟨wo,rfl⟩:∃ wo:World,wo=wr:=⟨_,rfl⟩
      have hnx:=fun ty=>qnt (P:=Tryz.prog) wo w.heap.size s pos ty hi hlt
      have hall:s.data.toList.all wordB=true:=by
       have:=HA.out
       rwa [List.take_of_length_le (by simp;omega)] at this
      have HALL:=Hd hall;have HK:r = !keyB s:=by rw [<- HR.out];simp [qbz,HB.out,hall,h20]
      replace HK:=Hd HK;have hk0:=Blk.new wo 9 (qbh.map Value.string).toArray;have hkb:Below w.heap.size w (wo.alloc (.cells (qbh.map Value.string).toArray 9)):=hb.alloc hb.size _;have CK:=ql5 wo;replace CK:=Hd CK;clear hall hi hpos HA;go_wp2_with (go_at_call 135;refine CK.out.mono ?_;rintro e w' ⟨rfl,rfl⟩);revert hk0 hkb;generalize wo.alloc (.cells (qbh.map Value.string).toArray 9)=w3;intro hk0 hkb;clear CK
      go_loopg [5,38] 29 (fun g _ i wv=>∃ k:Nat,k+g=29/\i=.int .i64 k/\Blk wv wo.heap.size 9 (qbh.map Value.string).toArray/\Below w.heap.size w wv/\((qbh.take k).any fun k=>decide (s=k))=false)
      case atStart=>exact ⟨0,oo,rfl,hk0,hkb,rfl⟩
      case round =>
       obtain ⟨k,hkg,rfl,hk,hbv,hno⟩:=hrel;have HNO:=Hd hno;have HKG:=Hd hkg;have HKB:=Hd hk;have hsz3:=hk.lt;clear hk0 hkb hno hkg hk;by_cases hlt2:k<29
       ·
        obtain ⟨x,hx⟩:=qab (xs:=qbh) (k:=k) (by rw [qex];exact hlt2);have hc:wr.cell? ⟨wo.heap.size,k,none⟩=some (.string x):=by rw [HKB.out.cell];simp [hx]
        have HX:=Hd hx;clear hx;by_cases he:s=x
        ·
         have hbe:(s.toList==x.toList)=true:=by rw [qfb];simpa using he
         have HE:=Hd he;clear he;go_wp2;go_ret;exact ⟨qbn (by rw [HK.out,qpv HX.out HE.out];rfl),hbv⟩
        ·
         have hbe:(s.toList==x.toList)=false:=by rw [qfb];simpa using he
         have HE:=Hd he;clear he;go_wp2;go_roundg (gk-1)
         case rel=>exact ⟨k+1,by have:=HKG.out;omega,by go_num,HKB.out,hbv,by rw [qmq HX.out,HNO.out];simp [HE.out]⟩
         case measure=>have:=HKG.out;omega
       ·
        go_wp2;go_ret;refine ⟨qbn ?_,hbv⟩;have:=HNO.out;rw [List.take_of_length_le (by rw [qex];omega)] at this;rw [HK.out,keyB,this];rfl
  ·
   have hr:r=false:=by rw [<- HR.out];simp [qbz];omega
   subst hr;go_enter Tryz.func89,Tryz.ntmps89;go_wp2;go_ret;exact ⟨rfl,Below.refl _ _⟩
theorem qoq (l:List Step) (i:Nat) (s:Step) (a:Option Addr) (c:Nat) (w:World) (h:qbi w a c l) (hs:l[i]? = some s) (hq:s.ratio.few) :
  Calls Tryz.prog 56 #[.slice a l.length c,.int .i64 i] w fun e w'=>e=.returned (.int .i64 (qbl l s i))/\Below w.heap.size w w':=by
 have hlen:=h.len;have hi:=qai hs;obtain ⟨b,off,rfl,p,hC,hP,hkind,hpt⟩:=h.2.2 i s hs;obtain ⟨kind,point,args,r⟩:=s;obtain ⟨aa,ac,na,nc,da,dc⟩:=p;obtain ⟨hI,hN,hD⟩:=hP;dsimp only at hI hN hD hq hkind hpt;obtain ⟨c0,c1,c2,c3,c4,c5⟩:=hC;dsimp only at c0 c1 c2 c3 c4 c5;obtain ⟨res,hres⟩:∃ x,qbl l ⟨kind,point,args,r⟩ i=x:=⟨_,rfl⟩
 rw [hres];unfold qbl at hres;dsimp only at hres;have CA:=qqs kind;have hA:=qlo kind;have CR:=fun W (hW:bw w W)=>qhc r na nc da dc W (hN.ext (xbw hW)) (hD.ext (xbw hW)) hq.1 hq.2
 have CN:=fun W=>qtq r na nc da dc W hq.1 hq.2
 have CI:=fun W=>qpj point W hpt
 have hlena:=hI.len;have hIn:∀ a∈args,InInt a:=fun a ha=>by
  obtain ⟨k,hk⟩:=List.mem_iff_getElem?.1 ha;obtain ⟨b,off,_,hc,hw⟩:=hI.2.2 k a hk;exact qdy hw
 have HI:=Hd hI;have HIn:=Hd hIn;have HS:=Hd h;revert CA hA hres CR CN CI;generalize qar kind=ar;generalize r.right=br;generalize r.none=bn;generalize qbz point=bi;intro hres CA hA CR CN CI;replace CA:=Hd CA;replace CR:=Hd CR;replace CN:=Hd CN;replace CI:=Hd CI;have HRES:=Hd hres;obtain ⟨hk1,hk2⟩:=hkind;obtain ⟨neg,num,den⟩:=r;unfold Rt.val at CR CN;dsimp only at CR CN c0 c1 c2 c3 c4 c5 ⊢;have HL:=Hd hs;clear hres hI hN hD hIn hq h hs;have hz:=Blk.new w 93 #[.int .i64 kind,.string point,.slice aa args.length ac,.bool neg,.slice na num.length nc,.slice da den.length dc];have hb0:Below w.heap.size w (w.alloc (.cells #[.int .i64 kind,.string point,.slice aa args.length ac,.bool neg,.slice na num.length nc,.slice da den.length dc] 93)):=brf.alloc (nlr _) _;by_cases h0:ar<0
 ·
  have he:decide (ar<0)=true:=by simpa using h0
  have hr:res=8:=by rw [<- HRES.out,if_pos h0]
  subst hr;clear h0 hz;go_enter Tryz.func56,Tryz.ntmps56;go_wp2_with (go_at_call 87;refine (CA.out _).mono ?_;rintro e w' ⟨rfl,rfl⟩);go_ret;exact ⟨rfl,hb0⟩
 ·
  have he:decide (ar<0)=false:=by simpa using h0
  have H0:=Hd h0;clear h0;by_cases h1:(args.length:Int)=ar
  ·
   have he1:((args.length:Int) != ar)=false:=by simpa using h1
   have H1:=Hd h1;clear h1;go_enter Tryz.func56,Tryz.ntmps56;go_wp2_with fail;revert hz hb0;generalize w.alloc (.cells #[.int .i64 kind,.string point,.slice aa args.length ac,.bool neg,.slice na num.length nc,.slice da den.length dc] 93)=w0;intro hz hb0;obtain ⟨z0,z1,z2,z3,z4,z5⟩:=cq6 hz;refine (CA.out _).mono ?_;rintro e w' ⟨rfl,rfl⟩;go_wp2
   go_quiet ((go_at_call 87;exact Calls.quiet_of_same ((CA.out _).mono fun _ _ h=>⟨h.1,h.2.symm⟩)))
   have hz1:Blk (w0.drewN nq) w.heap.size 93 #[.int .i64 kind,.string point,.slice aa args.length ac,.bool neg,.slice na num.length nc,.slice da den.length dc]:=hz;have hb1:=below_drewN hb0 nq;clear z0 z1 z2 z3 z4 z5 hz hb0 CA c0 c1 c2 c3 c4 c5;revert hz1 hb1;generalize w0.drewN nq=w1;intro hz1 hb1;obtain ⟨z0,z1,z2,z3,z4,z5⟩:=cq6 hz1;go_wp2
   go_loop [7,28] (fun _ q=>∃ k:Nat,k<=args.length/\q=.int .i64 k/\Hid ((args.take k).any (qa1 i)=false)) (fun _ i=>args.length-(intOf i).toNat)
   case atStart=>exact ⟨0,oo,rfl,rfl⟩
   case round =>
    obtain ⟨k,hk,rfl,hno⟩:=hrel;by_cases hlt:k<args.length
    ·
     obtain ⟨x,hx⟩:=qab hlt;obtain ⟨b2,off2,rfl,hc⟩:=(HI.out.ext (xbw hb1)).2.2 k x hx;have hc1:w1.cell? ⟨b2,off2+k,none⟩=some (.int .i64 x):=by simpa using hc.1
     obtain ⟨hx1,hx2⟩:=HIn.out x (List.mem_of_getElem? hx);have HX:=Hd hx;clear hc hx;by_cases hbad:x<0\/(i:Int)<=x
     ·
      have hr:res=2:=by
       have hany:args.any (qa1 i)=true:=ql7 HX.out (by unfold qa1;exact decide_eq_true hbad);rw [<- HRES.out,if_neg (by have:=H0.out;omega),if_neg (by simpa using H1.out),if_pos hany]
      subst hr;by_cases hx0:x<0
      ·
       clear hbad;go_wp2;go_ret;exact ⟨rfl,hb1⟩
      ·
       have hge:(i:Int)<=x:=oo
       clear hbad;go_wp2;go_ret;exact ⟨rfl,hb1⟩
     ·
      have hx0:0<=x:=oo
      have hxn:x<(i:Int):=oo
      have hbf:qa1 i x=false:=by unfold qa1;exact decide_eq_false hbad
      have HBF:=Hd hbf;clear hbad hbf;go_wp2
      go_round
      case rel=>exact ⟨k+1,oo,by go_num,by show _=_;rw [qh9 HX.out,hno.out,HBF.out];rfl⟩
      case measure=>simp [intOf];omega
    ·
     have hany:args.any (qa1 i)=false:=by
      have:=hno.out
      rwa [qgs hlt] at this
     have HR2:=HRES.out;rw [if_neg (by have:=H0.out;omega),if_neg (by simpa using H1.out),if_neg (by rw [hany];simp)] at HR2;replace HR2:=Hd HR2;clear hany HRES;by_cases hb2:kind=2/\br=false
     ·
      obtain ⟨hk2,rfl⟩:=hb2;have hr:res=1:=by rw [<- HR2.out,if_pos ⟨hk2,rfl⟩]
      subst hr;have hke:(kind==2)=true:=by simpa using hk2
      have hkn:(kind != 2)=false:=by simpa using hk2
      clear hk2;go_wp2_with fail;refine (CR.out _ hb1).mono ?_;rintro e w2 ⟨rfl,hb2⟩;have hb3:=bth hb1 hb2;go_wp2;go_ret;exact ⟨rfl,hb3⟩
     ·
      by_cases hb2':kind≠2/\bn=false
      ·
       have hr:res=1:=by rw [<- HR2.out,if_neg hb2,if_pos hb2']
       subst hr;obtain ⟨hk2,rfl⟩:=hb2';have hke:(kind==2)=false:=by simpa using hk2
       have hkn:(kind != 2)=true:=by simpa using hk2
       clear hk2 hb2;go_wp2_with fail;refine (CN.out _).mono ?_;rintro e w2 ⟨rfl,hb2⟩;have hb3:=bth hb1 hb2;go_wp2;go_ret;exact ⟨rfl,hb3⟩
      ·
       have hgood:(kind=2/\br=true)\/(kind≠2/\bn=true):=by
        by_cases hk2:kind=2
        ·
         left;refine ⟨hk2,?_⟩;cases br
         · exact absurd ⟨hk2,rfl⟩ hb2
         · rfl
        ·
         right;refine ⟨hk2,?_⟩;cases bn
         · exact absurd ⟨hk2,rfl⟩ hb2'
         · rfl
       have HR3:=HR2.out;rw [if_neg hb2,if_neg hb2'] at HR3;replace HR3:=Hd HR3;clear hb2 hb2' HR2;rcases hgood with ⟨hk2,rfl⟩ | ⟨hk2,rfl⟩
       all_goals
        first
         | have hke:(kind==2)=true:=by simpa using hk2
         | have hke:(kind==2)=false:=by simpa using hk2
        first
         | have hkn:(kind != 2)=false:=by simpa using hk2
         | have hkn:(kind != 2)=true:=by simpa using hk2
        clear hk2;go_wp2_with fail
        first
         | refine (CR.out _ hb1).mono ?_
         | refine (CN.out _).mono ?_
        rintro e w2 ⟨rfl,hb2⟩;have hz2:=hz1.below' hb2;have hw2:=bth hb1 hb2;clear hb2 z0 z1 z2 z3 z4 z5 hz1 hb1 CR CN HI HIn;obtain ⟨z0,z1,z2,z3,z4,z5⟩:=cq6 hz2;by_cases hpe:point=⟨#[]⟩
        ·
         have hr:res=0:=by rw [<- HR3.out,if_pos hpe]
         subst hr;subst hpe;go_wp2;go_ret;exact ⟨rfl,hw2⟩
        ·
         have hse:point.toList.isEmpty=false:=by rw [qfg];simpa using hpe
         have HPE:=Hd hpe;have HR4:=HR3.out;rw [if_neg hpe] at HR4;replace HR4:=Hd HR4;clear hpe HR3
         cases bi
         ·
          have hr:res=6:=by rw [<- HR4.out,if_pos rfl]
          subst hr;go_wp2_with fail;refine (CI.out _).mono ?_;rintro e w3 ⟨rfl,hb3⟩;have hw3:=bth hw2 hb3;go_wp2;go_ret;exact ⟨rfl,hw3⟩
         ·
          have HR5:=HR4.out;rw [if_neg (by simp)] at HR5;replace HR5:=Hd HR5;clear HR4;go_wp2_with fail;refine (CI.out _).mono ?_;rintro e w3 ⟨rfl,hb3⟩;have hw3:=bth hw2 hb3;have hz3:=hz2.below' hb3;clear hb3 z0 z1 z2 z3 z4 z5 hz2 hw2 CI;have hcap:=HS.out.1;have hcm:=HS.out.2.1;unfold maxLen at hcm;go_wp2
          go_loopg [9,71] i (fun g _ q wr=>∃ k:Nat,k+g=i/\q=.int .i64 k/\Below w.heap.size w wr/\Blk wr w.heap.size 93 #[.int .i64 kind,.string point,.slice aa args.length ac,.bool neg,.slice na num.length nc,.slice da den.length dc] /\
           (l.take k).any (fun t=>decide (t.point=point))=false)
          case atStart=>exact ⟨0,oo,rfl,hw3,hz3,rfl⟩
          case round =>
           obtain ⟨k2,hkg,rfl,hwr,hzr,hno2⟩:=hrel;have HKG:=Hd hkg;have HNO:=Hd hno2;have HZR:=Hd hzr;have z1:=hzr.cell 1;have hzl:=hzr.lt;clear hw3 hz3 hno hno2 hkg hzr;by_cases hlt2:k2<i
           ·
            obtain ⟨t,ht⟩:=qab (xs:=l) (k:=k2) oo;obtain ⟨b3,off3,hbo,pt,hCt,hPt,_,_⟩:=(HS.out.ext (xbw hwr)).2.2 k2 t ht;injection hbo with hbo
            injection hbo with hbo1 hbo2
            subst hbo1 hbo2;obtain ⟨t0,t1,t2,t3,t4,t5⟩:=hCt;have HT:=Hd ht;clear ht hPt;by_cases he:t.point=point
            ·
             have hr:res=7:=by
              have hany:(l.take i).any (fun t=>decide (t.point=point))=true:=by
               rw [List.any_eq_true];refine ⟨t,?_,by simpa using he⟩;apply List.mem_of_getElem? (i:=k2);rw [List.getElem?_take,if_pos hlt2];exact HT.out
              have:=HR5.out;rw [if_pos hany] at this;exact this.symm
             subst hr;have hbe:(t.point.toList==point.toList)=true:=by rw [qfb];simpa using he
             clear he;have hw4:=hwr.alloc hwr.size (.cells #[.int .i64 t.kind,.string t.point,.slice pt.aa t.args.length pt.ac,.bool t.ratio.neg,.slice pt.na t.ratio.num.length pt.nc,.slice pt.da t.ratio.den.length pt.dc] 93);go_wp2;go_ret;exact ⟨rfl,hw4⟩
            ·
             have hbe:(t.point.toList==point.toList)=false:=by rw [qfb];simpa using he
             have HE:=Hd he;clear he;have hw4:=hwr.alloc hwr.size (.cells #[.int .i64 t.kind,.string t.point,.slice pt.aa t.args.length pt.ac,.bool t.ratio.neg,.slice pt.na t.ratio.num.length pt.nc,.slice pt.da t.ratio.den.length pt.dc] 93);go_wp2;go_roundg (gk-1)
             case rel=>exact ⟨k2+1,by have:=HKG.out;omega,by go_num,hw4,HZR.out.alloc _,by rw [qh9 HT.out,HNO.out];simp [HE.out]⟩
             case measure=>have:=HKG.out;omega
           ·
            have hr:res=0:=by
             have hany:(l.take i).any (fun t=>decide (t.point=point))=false:=by
              have:=HNO.out
              rwa [show k2=i by have:=HKG.out;omega] at this
             have:=HR5.out;rw [if_neg (by rw [hany];simp)] at this;exact this.symm
            subst hr;go_wp2;go_ret;exact ⟨rfl,hwr⟩
  ·
   have he1:((args.length:Int) != ar)=true:=by simpa using h1
   have hr:res=1:=by rw [<- HRES.out,if_neg (by have:=H0.out;omega),if_pos h1]
   subst hr;clear h1;go_enter Tryz.func56,Tryz.ntmps56;go_wp2_with fail;revert hz hb0;generalize w.alloc (.cells #[.int .i64 kind,.string point,.slice aa args.length ac,.bool neg,.slice na num.length nc,.slice da den.length dc] 93)=w0;intro hz hb0;obtain ⟨z0,z1,z2,z3,z4,z5⟩:=cq6 hz;refine (CA.out _).mono ?_;rintro e w' ⟨rfl,rfl⟩;go_wp2
   go_quiet ((go_at_call 87;exact Calls.quiet_of_same ((CA.out _).mono fun _ _ h=>⟨h.1,h.2.symm⟩)))
   go_wp2;go_ret;exact ⟨rfl,below_drewN hb0 _⟩
theorem qik {l:List Step} {r:List Step} {s:Step} {k:Nat} (h:r[k]? = some s):qbf l (r.drop k) k=if qbl l s k≠0 then qbl l s k else qbf l (r.drop (k+1)) (k+1):=by
 have hk:=qai h;rw [List.drop_eq_getElem_cons hk];have:r[k]=s:=by rw [List.getElem?_eq_getElem hk] at h;exact Option.some.inj h
 rw [this,qbf]
theorem qig {n:Int} {r:List Fct} {s:Fct} {k:Nat} (h:r[k]? = some s):qcm n (r.drop k)=if qb2 s n≠0 then qb2 s n else qcm n (r.drop (k+1)):=by
 have hk:=qai h;rw [List.drop_eq_getElem_cons hk];have:r[k]=s:=by rw [List.getElem?_eq_getElem hk] at h;exact Option.some.inj h
 rw [this,qcm]
theorem qhd (f:Fig) (sa:Option Addr) (sc:Nat) (ga:Option Addr) (gc:Nat) (w:World) (h:FigR w sa sc ga gc f) (hq:f.few) :
  Calls Tryz.prog 29 #[f.val sa sc ga gc] w fun e w'=>e=.returned (.int .i64 f.err)/\Below w.heap.size w w':=by
 obtain ⟨steps,goals⟩:=f;obtain ⟨hS,hG⟩:=h;dsimp only at hS hG;have hl1:=hS.len;have hl2:=hG.len;obtain ⟨res,hres⟩:∃ x,Fig.err ⟨steps,goals⟩=x:=⟨_,rfl⟩
 rw [hres];unfold Fig.err at hres;unfold Fig.val;dsimp only at hres ⊢;have HS:=Hd hS;have HG:=Hd hG;have HQ:=Hd hq;have HRES:=Hd hres;clear hS hG hq hres;have hz:=Blk.new w 25 #[.slice sa steps.length sc,.slice ga goals.length gc];have hb0:Below w.heap.size w (w.alloc (.cells #[.slice sa steps.length sc,.slice ga goals.length gc] 25)):=brf.alloc (nlr _) _;by_cases hbig:40<steps.length\/8<goals.length
 ·
  have hr:res=4:=by rw [<- HRES.out,if_pos hbig]
  subst hr;clear hz;by_cases h1:40<steps.length
  ·
   clear hbig;go_enter Tryz.func29,Tryz.ntmps29;go_wp2;go_ret;exact ⟨rfl,hb0⟩
  ·
   have h2:8<goals.length:=oo
   clear hbig;go_enter Tryz.func29,Tryz.ntmps29;go_wp2;go_ret;exact ⟨rfl,hb0⟩
 ·
  have h1:steps.length<=40:=oo
  have h2:goals.length<=8:=oo
  have HR1:=HRES.out;rw [if_neg hbig] at HR1;replace HR1:=Hd HR1;clear hbig HRES;go_enter Tryz.func29,Tryz.ntmps29;go_wp2;revert hz hb0;generalize w.alloc (.cells #[.slice sa steps.length sc,.slice ga goals.length gc] 25)=w0;intro hz hb0
  go_loopg [3,4,21] steps.length (fun g _ _ q wr=>∃ k:Nat,k+g=steps.length/\q=.int .i64 k/\Below w.heap.size w wr/\Blk wr w.heap.size 25 #[.slice sa steps.length sc,.slice ga goals.length gc]/\qbf steps (steps.drop k) k=qbf steps steps 0)
  case atStart=>exact ⟨0,oo,rfl,hb0,hz,rfl⟩
  case round =>
   obtain ⟨k,hkg,rfl,hwr,hzr,he⟩:=hrel;have HKG:=Hd hkg;have HE:=Hd he;have HZR:=Hd hzr;obtain ⟨z0,z1⟩:=cq2 hzr;have hzl:=hzr.lt;clear hb0 hz hkg he hzr;by_cases hlt:k<steps.length
   ·
    obtain ⟨s,hs⟩:=qab hlt;have C:=qoq steps k s sa sc wr (HS.out.ext (xbw hwr)) hs (HQ.out.1 s (List.mem_of_getElem? hs));have hes:=qik (l:=steps) hs;rw [HE.out] at hes;revert C hes;generalize qbl steps s k=ev;intro C hes;replace C:=Hd C;have HES:=Hd hes;clear hes hs;by_cases hev:ev=0
    ·
     have hb:(ev != 0)=false:=by simpa using hev
     have HE2:=HES.out;rw [if_neg (by simpa using hev)] at HE2;replace HE2:=Hd HE2;clear hev HES HE;go_wp2_with fail;refine C.out.mono ?_;rintro e w2 ⟨rfl,hb2⟩;have hw2:=bth hwr hb2;have hz2:=HZR.out.below' hb2;clear hb2 C;go_wp2;go_roundg (gk-1)
     case rel=>exact ⟨k+1,by have:=HKG.out;omega,by go_num,hw2,hz2,HE2.out.symm⟩
     case measure=>have:=HKG.out;omega
    ·
     have hb:(ev != 0)=true:=by simpa using hev
     have hr:res=ev:=by
      have h3:=HES.out;rw [if_pos hev] at h3;have:=HR1.out;rw [h3,if_pos hev] at this;exact this.symm
     subst hr;clear hev HES HE HR1;go_wp2_with fail;refine C.out.mono ?_;rintro e w2 ⟨rfl,hb2⟩;have hw2:=bth hwr hb2;clear hb2 C;go_wp2;go_ret;exact ⟨rfl,hw2⟩
   ·
    have HR2:=HR1.out;have hz3:qbf steps steps 0=0:=by
     rw [<- HE.out,List.drop_eq_nil_of_le oo];rfl
    rw [if_neg (by rw [hz3];simp)] at HR2;replace HR2:=Hd HR2;obtain ⟨wo,rfl⟩:∃ wo:World,wo=wr:=⟨_,rfl⟩
    clear hz3 HR1 HE HKG;go_wp2
    go_loopg [6,7,35] goals.length (fun g _ _ q wr=>∃ k:Nat,k+g=goals.length/\q=.int .i64 k/\Below w.heap.size w wr/\Blk wr w.heap.size 25 #[.slice sa steps.length sc,.slice ga goals.length gc]/\qcm steps.length (goals.drop k)=qcm steps.length goals)
    case atStart=>exact ⟨0,oo,rfl,hwr,HZR.out,rfl⟩
    case round =>
     clear HZR z0 z1 hzl hwr;obtain ⟨k2,hkg,rfl,hwr,hzr,he⟩:=hrel;have HKG:=Hd hkg;have HE:=Hd he;have HZR:=Hd hzr;obtain ⟨z0,z1⟩:=cq2 hzr;have hzl:=hzr.lt;clear hkg he hzr;by_cases hlt2:k2<goals.length
     ·
      obtain ⟨s,hs⟩:=qab hlt2;obtain ⟨b,off,rfl,p,hC,hP,hki⟩:=(HG.out.ext (xbw hwr)).2.2 k2 s hs;have hP':qci (wr.alloc (.cells #[.int .i64 s.kind,.slice p.aa s.args.length p.ac,.bool s.ratio.neg,.slice p.na s.ratio.num.length p.nc,.slice p.da s.ratio.den.length p.dc] 91)) p s.args s.ratio:=hP.ext (qfo _ _);have C:=qjn s steps.length p _ hP' (HQ.out.2 s (List.mem_of_getElem? hs)) (by constructor <;> omega) hki;obtain ⟨c0,c1,c2,c3,c4⟩:=hC;have hes:=qig (n:=steps.length) hs;rw [HE.out] at hes;unfold Fct.val at C;revert C hes;generalize qb2 s steps.length=ev;intro C hes;replace C:=Hd C;have HES:=Hd hes;have hw1:=hwr.alloc hwr.size (.cells #[.int .i64 s.kind,.slice p.aa s.args.length p.ac,.bool s.ratio.neg,.slice p.na s.ratio.num.length p.nc,.slice p.da s.ratio.den.length p.dc] 91)
      have hz1:=HZR.out.alloc (.cells #[.int .i64 s.kind,.slice p.aa s.args.length p.ac,.bool s.ratio.neg,.slice p.na s.ratio.num.length p.nc,.slice p.da s.ratio.den.length p.dc] 91);clear hes hs hP hP' hki;by_cases hev:ev=0
      ·
       have hb:(ev != 0)=false:=by simpa using hev
       have HE2:=HES.out;rw [if_neg (by simpa using hev)] at HE2;replace HE2:=Hd HE2;clear hev HES HE;go_wp2_with fail;refine C.out.mono ?_;rintro e w2 ⟨rfl,hb2⟩;have hw2:=bth hw1 hb2;have hz2:=hz1.below' hb2;clear hb2 C;go_wp2;go_roundg (gk-1)
       case rel=>exact ⟨k2+1,by have:=HKG.out;omega,by go_num,hw2,hz2,HE2.out.symm⟩
       case measure=>have:=HKG.out;omega
      ·
       have hb:(ev != 0)=true:=by simpa using hev
       have hr:res=ev:=by
        have h3:=HES.out;rw [if_pos hev] at h3;rw [<- h3];exact HR2.out.symm
       subst hr;clear hev HES HE HR2;go_wp2_with fail;refine C.out.mono ?_;rintro e w2 ⟨rfl,hb2⟩;have hw2:=bth hw1 hb2;clear hb2 C;go_wp2;go_ret;exact ⟨rfl,hw2⟩
     ·
      have hr:res=0:=by
       have h3:=HE.out;rw [List.drop_eq_nil_of_le oo] at h3;rw [<- HR2.out,<- h3];rfl
      subst hr;go_wp2;go_ret;exact ⟨rfl,hwr⟩
structure Trm where
 coef:Rt
 mono:List Int
def Trm.val (t:Trm) (p:RA):Value:=.agg #[.bool t.coef.neg,.slice p.na t.coef.num.length p.nc,.slice p.da t.coef.den.length p.dc,.slice p.aa t.mono.length p.ac]
structure Crt where
 factors:List (List Trm)
 powers:List Int
 power:Int
 cofactors:List (List Trm)
structure CA where
 fa:Option Addr
 fc:Nat
 wa:Option Addr
 wc:Nat
 ca:Option Addr
 cc:Nat
def expAt (l:List Int) (v:Nat):Int:=l.getD v 0
theorem qoi {l:List Int} (h:∀ x∈l,0<=x/\x<=1048576) (v:Nat):0<=expAt l v/\expAt l v<=1048576:=by
 unfold expAt;rw [List.getD_eq_getElem?_getD]
 cases hx:l[v]? with
 | none=>simp
 | some x=>exact h x (List.mem_of_getElem? hx)
def qcp (a b:List Int):Nat->Int
 | 0=>0
 | v+1=>if expAt a v=expAt b v then qcp a b v else if expAt a v<expAt b v then -1 else 1
def lexI (a b:List Int):Int:=qcp a b (max a.length b.length)
theorem qip {w:World} {a:Option Addr} {c:Nat} {l:List Int} (h:IntsR w a c l) {k:Nat} {x:Int} (hx:l[k]? = some x):∃ b off,a=some ⟨b,off,none⟩/\w.cell? ⟨b,off+k,none⟩=some (.int .i64 x)/\InInt x:=by
 obtain ⟨b,off,ha,hc⟩:=h.2.2 k x hx;exact ⟨b,off,ha,by simpa using hc.1,qdy hc.2⟩
theorem qb7 {l:List Int} {v:Nat} {x:Int} (h:l[v]? = some x):expAt l v=x:=by
 unfold expAt;rw [List.getD_eq_getElem?_getD,h];rfl
theorem qb9 {l:List Int} {v:Nat} (h:l.length<=v):expAt l v=0:=by
 unfold expAt;rw [List.getD_eq_getElem?_getD,List.getElem?_eq_none h];rfl
theorem qo5 (l:List Int) (v:Nat) (a:Option Addr) (c:Nat) (w:World) (h:IntsR w a c l) :
  Calls Tryz.prog 184 #[.slice a l.length c,.int .i64 v] w fun e w'=>e=.returned (.int .i64 (expAt l v))/\w=w':=by
 have hlen:=h.len;by_cases hv:v<l.length
 ·
  obtain ⟨x,hx⟩:=qab hv;obtain ⟨b,off,rfl,hc,_⟩:=qip h hx;rw [qb7 hx];clear hx h;go_enter Tryz.func184,Tryz.ntmps184;go_wp2;go_ret;exact ⟨rfl,rfl⟩
 ·
  rw [qb9 oo];clear h;go_enter Tryz.func184,Tryz.ntmps184;go_wp2;go_ret;exact ⟨rfl,rfl⟩
theorem qh7 (l:List Int) (v:Nat) (a:Option Addr) (c:Nat) (w:World) (h:IntsR w a c l) :
  Calls Tryz.prog 168 #[.slice a l.length c,.int .i64 v] w fun e w'=>e=.returned (.int .i64 (expAt l v))/\w=w':=by
 have hlen:=h.len;by_cases hv:v<l.length
 ·
  obtain ⟨x,hx⟩:=qab hv;obtain ⟨b,off,rfl,hc,_⟩:=qip h hx;rw [qb7 hx];clear hx h;go_enter Tryz.func168,Tryz.ntmps168;go_wp2;go_ret;exact ⟨rfl,rfl⟩
 ·
  rw [qb9 oo];clear h;go_enter Tryz.func168,Tryz.ntmps168;go_wp2;go_ret;exact ⟨rfl,rfl⟩
theorem qtm (n:Int) (w:World) :
  Calls Tryz.prog 167 #[.int .i64 n] w fun e w'=>e=.returned (.int .i64 (if n<0 then -1 else if 0<n then 1 else 0))/\w=w':=by
 by_cases h:n<0
 ·
  rw [if_pos h];go_enter Tryz.func167,Tryz.ntmps167;go_wp2;go_ret;exact ⟨rfl,rfl⟩
 ·
  by_cases h2:0<n
  ·
   rw [if_neg h,if_pos h2];go_enter Tryz.func167,Tryz.ntmps167;go_wp2;go_ret;exact ⟨rfl,rfl⟩
  ·
   rw [if_neg h,if_neg h2];go_enter Tryz.func167,Tryz.ntmps167;go_wp2;go_ret;exact ⟨rfl,rfl⟩
theorem qni {w:World} {a:Option Addr} {c:Nat} {l:List Int} (h:IntsR w a c l) (v:Nat):InInt (expAt l v):=by
 by_cases hv:v<l.length
 ·
  obtain ⟨x,hx⟩:=qab hv;obtain ⟨b,off,_,_,hi⟩:=qip h hx;rw [qb7 hx];exact hi
 · rw [qb9 oo];unfold InInt;omega
theorem zz3 {P:Prop} (h:P:=by
 rcases hrel with ⟨rfl,hr⟩ | ⟨v,hv,rfl,hr⟩
 ·
  have hr:=hr.out;subst hr;go_wp2;go_ret;exact ⟨rfl,rfl⟩
 ·
  have I1v:=I1.out v;have I2v:=I2.out v;obtain ⟨x,hx⟩:=nm (expAt l v)
  obtain ⟨y,hy⟩:=nm (expAt m v)
  have E1:=C1.out v;have E2:=C2.out v;rw [hx] at E1 I1v;rw [hy] at E2 I2v;obtain ⟨i1,i2⟩:=I1v;obtain ⟨i3,i4⟩:=I2v;have hr:=hr.out;unfold qcp at hr;rw [hx,hy] at hr;have HR:=Hd hr;replace E1:=Hd E1;replace E2:=Hd E2;clear hr hx hy;go_wp2_with fail;refine E1.out.mono ?_;rintro e w1 ⟨rfl,rfl⟩;go_wp2_with fail;refine E2.out.mono ?_;rintro e w1 ⟨rfl,rfl⟩;by_cases hxy:x=y
  ·
   subst hxy;have HR2:=Hd ((if_pos rfl).symm.trans HR.out);go_wp2
   go_round
   case rel =>
    cases v with
    | zero=>exact .inl ⟨by go_num,by have:=HR2.out;rw [<- this];rfl⟩
    | succ k=>exact .inr ⟨k,oo,by go_num,HR2.out⟩
   case measure=>simp [intOf]
  ·
   have hb:(x==y)=false:=by simpa using hxy
   have HR2:=HR.out;rw [if_neg hxy] at HR2;by_cases hlt:x<y
   ·
    rw [if_pos hlt] at HR2;subst HR2;clear hxy HR;go_wp2;go_ret;exact ⟨rfl,rfl⟩
   ·
    rw [if_neg hlt] at HR2;subst HR2;clear hxy HR;go_wp2;go_ret;exact ⟨rfl,rfl⟩
 ):P:=h
theorem qux (l m:List Int) (a a':Option Addr) (c c':Nat) (w:World) (h:IntsR w a c l) (h':IntsR w a' c' m) :
  Calls Tryz.prog 178 #[.slice a l.length c,.slice a' m.length c',.int .i64 0] w fun e w'=>e=.returned (.int .i64 (lexI l m))/\w=w':=by
 have hlen:=h.len;have hlen':=h'.len;have C1:=fun v:Nat=>qo5 l v a c w h
 have C2:=fun v:Nat=>qo5 m v a' c' w h'
 have I1:=qni h;have I2:=qni h';replace C1:=Hd C1;replace C2:=Hd C2;replace I1:=Hd I1;replace I2:=Hd I2;clear h h';obtain ⟨res,hres⟩:=nm (lexI l m)
 rw [hres];unfold lexI at hres;by_cases hlm:l.length<m.length
 ·
  rw [show max l.length m.length=m.length by omega] at hres;have HRES:=Hd hres;clear hres;go_enter Tryz.func178,Tryz.ntmps178;go_wp2;have HLM:=Hd hlm;clear hlm
  go_loop [9] (fun q=>(q=.int .i64 (-1)/\Hid (0=res))\/∃ v:Nat,v<m.length/\q=.int .i64 v/\Hid (qcp l m (v+1)=res)) (fun q=>(intOf q+1).toNat)
  case atStart =>
   have HR:=HRES.out;have hlm:=HLM.out
   cases hn:m.length with
   | zero=>rw [hn] at HR;exact .inl ⟨by go_num,HR⟩
   | succ k=>rw [hn] at HR;exact .inr ⟨k,oo,by go_num,HR⟩
  case round =>
   exact zz3
 ·
  rw [show max l.length m.length=l.length by omega] at hres;have HRES:=Hd hres;clear hres;go_enter Tryz.func178,Tryz.ntmps178;go_wp2;have HLM:=Hd hlm;clear hlm
  go_loop [9] (fun q=>(q=.int .i64 (-1)/\Hid (0=res))\/∃ v:Nat,v<l.length/\q=.int .i64 v/\Hid (qcp l m (v+1)=res)) (fun q=>(intOf q+1).toNat)
  case atStart =>
   have HR:=HRES.out;have hlm:=HLM.out
   cases hn:l.length with
   | zero=>rw [hn] at HR;exact .inl ⟨by go_num,HR⟩
   | succ k=>rw [hn] at HR;exact .inr ⟨k,oo,by go_num,HR⟩
  case round =>
   exact zz3
theorem zz2 {P:Prop} (h:P:=by
 rcases hrel with ⟨rfl,hr⟩ | ⟨v,hv,rfl,hr⟩
 ·
  have hr:=hr.out;subst hr;go_wp2;go_ret;exact ⟨rfl,rfl⟩
 ·
  have I1v:=I1.out v;have I2v:=I2.out v;obtain ⟨x,hx⟩:=nm (expAt l v)
  obtain ⟨y,hy⟩:=nm (expAt m v)
  have E1:=C1.out v;have E2:=C2.out v;rw [hx] at E1 I1v;rw [hy] at E2 I2v;obtain ⟨i1,i2⟩:=I1v;obtain ⟨i3,i4⟩:=I2v;have hr:=hr.out;unfold qcp at hr;rw [hx,hy] at hr;have HR:=Hd hr;replace E1:=Hd E1;replace E2:=Hd E2;clear hr hx hy;go_wp2_with fail;refine E1.out.mono ?_;rintro e w1 ⟨rfl,rfl⟩;go_wp2_with fail;refine E2.out.mono ?_;rintro e w1 ⟨rfl,rfl⟩;by_cases hxy:x=y
  ·
   subst hxy;have HR2:=Hd ((if_pos rfl).symm.trans HR.out);go_wp2
   go_round
   case rel =>
    cases v with
    | zero=>exact .inl ⟨by go_num,by have:=HR2.out;rw [<- this];rfl⟩
    | succ k=>exact .inr ⟨k,oo,by go_num,HR2.out⟩
   case measure=>simp [intOf]
  ·
   have hb:(x==y)=false:=by simpa using hxy
   have HR2:=HR.out;rw [if_neg hxy] at HR2;have E3:=CS.out (x-y);have hsg:(if x-y<0 then (-1:Int) else if 0<x-y then 1 else 0)=res:=by rw [<- HR2];split <;> split <;> first | rfl | omega | (split <;> omega)
   rw [hsg] at E3;replace E3:=Hd E3;clear HR HR2 hsg hxy;go_wp2_with fail;refine E1.out.mono ?_;rintro e w1 ⟨rfl,rfl⟩;go_wp2_with fail;refine E2.out.mono ?_;rintro e w1 ⟨rfl,rfl⟩;go_wp2_with fail;refine E3.out.mono ?_;rintro e w1 ⟨rfl,rfl⟩;go_wp2;go_ret;exact ⟨rfl,rfl⟩
 ):P:=h
theorem quw (l m:List Int) (a a':Option Addr) (c c':Nat) (w:World) (h:IntsR w a c l) (h':IntsR w a' c' m) (hi:∀ x∈l,0<=x/\x<=1048576) (hi':∀ x∈m,0<=x/\x<=1048576) :
  Calls Tryz.prog 141 #[.slice a l.length c,.slice a' m.length c',.int .i64 0] w fun e w'=>e=.returned (.int .i64 (lexI l m))/\w=w':=by
 have hlen:=h.len;have hlen':=h'.len;have C1:=fun v:Nat=>qh7 l v a c w h
 have C2:=fun v:Nat=>qh7 m v a' c' w h'
 have CS:=fun z:Int=>qtm z w
 have I1:∀ v,0<=expAt l v/\expAt l v<=1048576:=qoi hi;have I2:∀ v,0<=expAt m v/\expAt m v<=1048576:=qoi hi';replace C1:=Hd C1;replace C2:=Hd C2;replace CS:=Hd CS;replace I1:=Hd I1;replace I2:=Hd I2;clear hi hi';clear h h';obtain ⟨res,hres⟩:=nm (lexI l m)
 rw [hres];unfold lexI at hres;by_cases hlm:l.length<m.length
 ·
  rw [show max l.length m.length=m.length by omega] at hres;have HRES:=Hd hres;clear hres;go_enter Tryz.func141,Tryz.ntmps141;go_wp2;have HLM:=Hd hlm;clear hlm
  go_loop [7] (fun q=>(q=.int .i64 (-1)/\Hid (0=res))\/∃ v:Nat,v<m.length/\q=.int .i64 v/\Hid (qcp l m (v+1)=res)) (fun q=>(intOf q+1).toNat)
  case atStart =>
   have HR:=HRES.out;have hlm:=HLM.out
   cases hn:m.length with
   | zero=>rw [hn] at HR;exact .inl ⟨by go_num,HR⟩
   | succ k=>rw [hn] at HR;exact .inr ⟨k,oo,by go_num,HR⟩
  case round =>
   exact zz2
 ·
  rw [show max l.length m.length=l.length by omega] at hres;have HRES:=Hd hres;clear hres;go_enter Tryz.func141,Tryz.ntmps141;go_wp2;have HLM:=Hd hlm;clear hlm
  go_loop [7] (fun q=>(q=.int .i64 (-1)/\Hid (0=res))\/∃ v:Nat,v<l.length/\q=.int .i64 v/\Hid (qcp l m (v+1)=res)) (fun q=>(intOf q+1).toNat)
  case atStart =>
   have HR:=HRES.out;have hlm:=HLM.out
   cases hn:l.length with
   | zero=>rw [hn] at HR;exact .inl ⟨by go_num,HR⟩
   | succ k=>rw [hn] at HR;exact .inr ⟨k,oo,by go_num,HR⟩
  case round =>
   exact zz2
end Go.Proofs.YtmdlbpibipnapaaGreat
namespace Go.Proofs.YtmdlbpibipnapaaGreat
theorem qm6 {l:List Int} (h:U16 l):∀ n,n<=l.length->val (l.drop n)=0->∃ k,k<=n/\limbs (val l)=l.take k
 | 0,_,hv=>⟨0,nlr _,by rw [List.drop_zero] at hv;rw [hv,qao,List.take_zero]⟩
 | n+1,hn,hv=>by
  obtain ⟨x,hx⟩:=qab (xs:=l) (k:=n) oo;by_cases hx0:x=0
  ·
   obtain ⟨k,hk,e⟩:=qm6 h n oo (by rw [qck hx,hv,hx0];rfl);exact ⟨k,oo,e⟩
  ·
   refine ⟨n+1,nlr _,qi7 h hv (fun y _ hy=>?_) hn⟩;rw [Nat.add_sub_cancel,hx] at hy;injection hy with hy
   rw [<- hy];exact hx0
theorem qi5 {l:List Int} (h:U16 l):∃ k,k<=l.length/\limbs (val l)=l.take k:=qm6 h l.length (nlr _) (by rw [List.drop_length];rfl)
theorem NatR.trim {w:World} {a:Option Addr} {c:Nat} {l:List Int} (h:NatR w a c l):NatR w a c (limbs (val l)):=by
 obtain ⟨k,_,e⟩:=qi5 h.u16;rw [e];exact h.take k
theorem qwr {l:List Int} {n:Nat} {x:Int} (hx:l[n]? = some x) (h0:x=0) (hv:val (l.drop (n+1))=0):val (l.drop n)=0:=by
 rw [qck hx,hv,h0];rfl
theorem qt0 {l:List Int} (h:U16 l) {n:Nat} {x:Int} (hx:l[n]? = some x) (h0:x≠0) (hv:val (l.drop (n+1))=0):limbs (val l)=l.take (n+1):=by
 refine qi7 h hv (fun y _ hy=>?_) (qai hx);rw [Nat.add_sub_cancel,hx] at hy;injection hy with hy
 rw [<- hy];exact h0
theorem qtz {l:List Int} (hv:val (l.drop 0)=0):limbs (val l)=l.take 0:=by
 rw [List.drop_zero] at hv;rw [hv,qao,List.take_zero]
theorem qmo {n:Nat}:(limbs n).length<=4↔n<18446744073709551616:=by
 constructor
 ·
  intro h;have h1:=qa3 n;have h2:65536 ^ (limbs n).length<=65536 ^ 4:=Nat.pow_le_pow_right oo h;have h3:(65536:Nat) ^ 4=18446744073709551616:=by decide
  omega
 ·
  intro h;exact qam (by rw [show (65536:Nat) ^ 4=18446744073709551616 by decide];exact h)
theorem qzo {n x i:Nat} (h:n<65536 ^ i):n ||| x*65536 ^ i=n+65536 ^ i*x:=by
 have e:(65536:Nat) ^ i=2 ^ (16*i):=by rw [Nat.pow_mul]
 rw [e] at h ⊢;rw [Nat.or_comm,Nat.mul_comm x,<- Nat.two_pow_add_eq_or_of_lt h,Nat.add_comm]
end Go.Proofs.YtmdlbpibipnapaaGreat
namespace Go.Proofs.YtmdlbpibipnapaaGreat
open Go.RowKit
theorem qa4 (l:List Int) (a:Option Addr) (c:Nat) (w:World) (h:NatR w a c l) :
  Calls Tryz.prog 77 #[.slice a l.length c] w fun e w'=>e=.returned (.slice a (limbs (val l)).length c)/\w=w':=by
 have H:=Hd h;have hlen:=SlR.len h;have hcap:=h.1;have hcap2:=h.2.1;unfold maxLen at hcap2;obtain ⟨R,hR⟩:=nm ((limbs (val l)).length)
 rw [hR];have HR:=Hd hR;clear h hR;go_enter Tryz.func77,Tryz.ntmps77;go_wp2;obtain ⟨wo,rfl⟩:∃ wo:World,wo=w:=⟨_,rfl⟩
 go_loopg [3] l.length (fun n q wr=>n<=l.length/\q=.int .i64 n/\wo=wr/\Hid (val (l.drop n)=0))
 case atStart=>exact ⟨nlr _,rfl,rfl,by simp [Hid,val]⟩
 case round =>
  obtain ⟨hn,rfl,rfl,hv⟩:=hrel;by_cases h0:gk=0
  ·
   subst h0;have hr:R=0:=by rw [<- HR.out,qtz hv.out];simp
   subst hr;have hzc:(0:Int)<=(c:Int):=oo
   have hz1:¬ ((0:Int)<((0:Nat):Int)):=oo
   go_wp2;go_ret;exact ⟨rfl,rfl⟩
  ·
   obtain ⟨m,rfl⟩:∃ m,gk=m+1:=⟨gk-1,oo⟩
   obtain ⟨x,hx⟩:=qab (xs:=l) (k:=m) oo;obtain ⟨b,off,rfl,hc⟩:=H.out.cell hx;have e1:(((m+1:Nat):Int))=(m:Int)+1:=oo
   rw [e1];have hml:m<l.length:=oo
   have HX:=Hd hx;by_cases hx0:x=0
   ·
    have hxb:(x==0)=true:=by simpa using hx0
    have hv2:=Hd (qwr HX.out hx0 hv.out);clear hx0 hx hv e1;go_wp2;go_roundg m
    case rel=>exact ⟨oo,by first | rfl | go_num,rfl,hv2.out⟩
    case measure=>omega
   ·
    have hxb:(x==0)=false:=by simpa using hx0
    have hr:R=m+1:=by rw [<- HR.out,qt0 H.out.u16 HX.out hx0 hv.out,List.length_take];omega
    subst hr;have hmc:(m:Int)+1<=(c:Int):=oo
    clear hx0 hx hv e1;go_wp2;go_ret;exact ⟨rfl,rfl⟩
theorem sizeN:(Tryz.prog.info? 105).map (·.size)=some 1:=by kernel_rfl
theorem qdr (l:List Int) (a:Option Addr) (c:Nat) (w:World) (h:NatR w a c l) (hl:l.length<=16777216) :
  Calls Tryz.prog 50 #[.slice a l.length c] w (RetN (limbs (val l)) w):=by
 have CT:=qa4 l a c w h;have hT:=h.trim;have hlT:(limbs (val l)).length<=16777216:=by have:=qah h.u16;omega
 have huT:=qa9 (val l);revert CT hT hlT huT;generalize limbs (val l)=T;intro CT hT hlT huT;replace CT:=Hd CT;clear h;by_cases h0:T.length=0
 ·
  obtain rfl:T=[]:=List.length_eq_zero_iff.1 h0;clear h0 hT;go_enter Tryz.func50,Tryz.ntmps50;go_wp2_with fail;refine CT.out.mono ?_;rintro e w1 ⟨rfl,rfl⟩;go_wp2;go_ret;exact ⟨none,0,rfl,fun _ _=>SlR.nil,Below.refl _ _⟩
 ·
  obtain ⟨x,hx⟩:=qab (xs:=T) (k:=0) oo;obtain ⟨b,off,rfl,_⟩:=hT.cell hx;have HT:=Hd hT;have hmk:=qco .i64 T.length hlT w;have h0i:((T.length:Int)==0)=false:=by rw [beq_eq_false_iff_ne];omega
  clear hx hT h0;go_enter Tryz.func50,Tryz.ntmps50;go_wp2_with fail;refine CT.out.mono ?_;rintro e w1 ⟨rfl,rfl⟩;have hg:=Blk.new w 105 (madeCells #[.int .u16 0] T.length);have hms:(madeCells #[.int .u16 0] T.length).size=T.length:=by simp [madeCells]
  have hsrc:∀ j v,(T.map (Value.int .u16))[j]? = some v->(w.alloc (.cells (madeCells #[.int .u16 0] T.length) 105)).cell? ((⟨b,off,none⟩:Addr).add j)=some v:=fun j v hv=>by
   rw [List.getElem?_map] at hv;obtain ⟨y,hy,rfl⟩:=Option.map_eq_some_iff.1 hv;obtain ⟨b2,off2,e2,hc2⟩:=HT.out.cell hy;injection e2 with e2
   injection e2 with e3 e4
   subst e3;subst e4;rw [Addr.add_lit];exact Ext.alloc (Ext.refl w) _ _ _ hc2
  have HG:=Hd hg;have HSRC:=Hd hsrc;have HMS:=Hd hms;have HMK:=Hd hmk;clear hg hsrc hms;have hcp:=run_copy_row (P:=Tryz.prog) (w.alloc (.cells (madeCells #[.int .u16 0] T.length) 105)) 28 28 3 105 w.heap.size 0 T.length T.length ⟨b,off,none⟩ T.length c _ 105 (T.map (Value.int .u16)) Tryz.underlying28 sizeN HG.out (by simp) HSRC.out (by rw [HMS.out];simp) (by simp [Value.oneCell']);have hX:(madeCells #[.int .u16 0] T.length).toList.take 0++T.map (Value.int .u16)++(madeCells #[.int .u16 0] T.length).toList.drop (0+(T.map (Value.int .u16)).length)=T.map (Value.int .u16):=by
   rw [List.take_zero,List.nil_append,List.drop_eq_nil_of_le (by rw [Array.length_toList,HMS.out];simp),List.append_nil]
  rw [hX] at hcp;have hF:BlkN ((w.alloc (.cells (madeCells #[.int .u16 0] T.length) 105)).setRow w.heap.size (T.map (Value.int .u16)).toArray) w.heap.size T:=setRow_heap _ _ _ _ _ _ HG.out;have hB:Below w.heap.size w ((w.alloc (.cells (madeCells #[.int .u16 0] T.length) 105)).setRow w.heap.size (T.map (Value.int .u16)).toArray):=below_setRow (brf.alloc (nlr _) _) (nlr _) _;revert hF hB hcp;generalize (w.alloc (.cells (madeCells #[.int .u16 0] T.length) 105)).setRow w.heap.size (T.map (Value.int .u16)).toArray=w2;intro hcp hF hB;go_wp2;go_ret;exact ⟨_,_,rfl,fun V hV=>hF.readsV (nlr _) hV huT (nlr _) (by unfold maxLen;omega),hB⟩
section
variable {w w' w'' : World} {g : Nat}
theorem qke (w:World) (g:Nat):w.grownBy w (some g):=World.grownBy.refl _ _
theorem qeo (h:w.grownBy w' (some g)) (o:Obj):w.grownBy (w'.alloc o) (some g):=h.trans (World.grownBy_alloc _ _ _)
theorem qdw (h:w.grownBy w' (some g)):w.grownBy w'.drew (some g):=⟨h.os,h.tape,h.output,h.size,h.block⟩
theorem qmf (h:w.grownBy w' (some g)) (i:Nat) (u:Value):w.grownBy (w'.setCell ⟨g,i,none⟩ u) (some g) :=
 h.trans ⟨rfl,rfl,rfl,by simp [World.setCell],fun k _ hk=>Below.heap_setCell _ _ _ _ (fun e=>hk (by simp at e;rw [e]))⟩
theorem qju (h:w.grownBy w' (some g)) {p:Addr} (hp:w.heap.size<=p.block) (u:Value):w.grownBy (w'.setCell p u) (some g) :=
 ⟨h.os,h.tape,h.output,by have:=h.size;simpa [World.setCell] using this,fun k hk hne=>(Below.heap_setCell _ _ _ _ oo).trans (h.block k hk hne)⟩
theorem qu4 (h:w.grownBy w' (some g)) (hb:Below w'.heap.size w' w''):w.grownBy w'' (some g) :=
 ⟨hb.os.trans h.os,hb.tape.trans h.tape,hb.output.trans h.output,Nat.le_trans h.size hb.size,fun k hk hne=>(hb.block k (ltl hk h.size)).trans (h.block k hk hne)⟩
theorem qwp {B:Nat} {w0:World} (hb:Below B w0 w) (h:w.grownBy w' (some g)) (hg:B<=g) (hB:B<=w.heap.size):Below B w0 w':=hb.grown h hB (fun k hk=>by injection hk with hk;omega)
end
def RowN (w:World) (g:Nat) (l:List Int) (r:List Value):Prop:=Blk w g 105 (l.map (Value.int .u16)++r).toArray
section
variable {w w' : World} {g : Nat} {l : List Int} {r : List Value}
theorem RowN.lt (h:RowN w g l r):g<w.heap.size:=Blk.lt h
theorem RowN.cell (h:RowN w g l r) {i:Nat} {x:Int} (hx:l[i]? = some x):w.cell? ⟨g,i,none⟩=some (.int .u16 x):=by
 have hi:=qai hx;rw [Blk.cell h i];simp only [List.getElem?_toArray];rw [List.getElem?_append_left (by simpa using hi),List.getElem?_map,hx]
 rfl
theorem RowN.frozen (h:RowN w g l r) (i:Nat):w.frozen? ⟨g,i,none⟩=false:=Blk.frozen h i
theorem RowN.set_ (h:RowN w g l r) {i:Nat} (hi:i<l.length) (x:Int):RowN (w.setCell ⟨g,i,none⟩ (.int .u16 x)) g (l.set i x) r:=by
 have:=Blk.set_ h i (.int .u16 x);unfold RowN;rw [List.setIfInBounds_toArray,List.set_append_left _ _ (by simpa using hi),<- List.map_set] at this;exact this
theorem RowN.below (h:RowN w g l r) (hb:Below w.heap.size w w'):RowN w' g l r:=Blk.below' h hb
theorem RowN.alloc (h:RowN w g l r) (o:Obj):RowN (w.alloc o) g l r:=Blk.alloc h o
theorem RowN.far (h:RowN w g l r) {p:Addr} (hp:g≠p.block) (u:Value):RowN (w.setCell p u) g l r:=Blk.far h hp u
theorem RowN.cut (h:RowN w g l r) (k:Nat):RowN w g (l.take k) ((l.drop k).map (Value.int .u16)++r):=by
 unfold RowN at h ⊢;rw [<- List.append_assoc,<- List.map_append,List.take_append_drop];exact h
theorem RowN.of (h:BlkN w g l):RowN w g l []:=by
 unfold RowN;rw [List.append_nil];exact h
theorem RowN.own (h:RowN w g l r) {B:Nat} (hB:B<=g) {c:Nat} (hc:c=l.length+r.length) (hm:c<=maxLen) (k:Nat) (hk:k<=l.length):OwnN B w (some ⟨g,0,none⟩) c (l.take k):=by
 subst hc;have hl:(l.take k).length=k:=by simp;omega
 refine ⟨by rw [qfe qe7],.inr ⟨g,_,_,rfl,hB,h,oo,hm,by simp,?_⟩⟩;rw [qj4,hl,Nat.mul_one,List.take_append_of_le_length (by simpa using hk),List.map_take]
theorem qzn {B:Nat} {a:Option Addr} {c:Nat} (h:OwnN B w a c l) (h0:0<l.length):∃ g r,a=some ⟨g,0,none⟩/\B<=g/\c=l.length+r.length/\RowN w g l r:=by
 rcases h.2 with ⟨_,hn⟩ | ⟨g,cap,cur,e,hg,hh,hc,hm,hs,ht⟩
 · omega
 ·
  injection e with e1 e2 e3
  subst e1;subst e3;refine ⟨g,cur.toList.drop l.length,rfl,hg,by simp only [List.length_drop,Array.length_toList,hs];omega,?_⟩;unfold RowN Blk;rw [hh];rw [qj4,Nat.mul_one] at ht;rw [<- ht,List.take_append_drop]
theorem RowN.readsAt (h:RowN w g l r) (hs:U16 l) (j k c:Nat) (hk:k<=c) (hc:c<=maxLen):NatR w (some ⟨g,j,none⟩) c ((l.drop j).take k):=by
 refine ⟨by simp;omega,hc,fun i x hx=>⟨g,j,rfl,?_⟩⟩;rw [List.getElem?_take] at hx
 split at hx
 ·
  rw [List.getElem?_drop] at hx;exact ⟨by simpa using h.cell hx,qiu (hs x (List.mem_of_getElem? hx))⟩
 · cases hx
theorem RowN.readsV (h:RowN w g l r) {B:Nat} {V:World} (hB:B<=g) (hV:New B w V) (hs:U16 l) {c:Nat} (hc:l.length<=c) (hm:c<=maxLen):NatR V (some ⟨g,0,none⟩) c l :=
 ⟨hc,hm,fun k x hx=>⟨g,0,rfl,by simpa using hV _ _ (by simpa using hB) (h.cell hx),qiu (hs x (List.mem_of_getElem? hx))⟩⟩
theorem NatR.other {a:Option Addr} {c:Nat} (h:NatR w a c l) (hg:w.grownBy w' (some g)) (hne:∀ p,a=some p->p.block≠g):NatR w' a c l:=by
 refine ⟨h.1,h.2.1,fun k x hx=>?_⟩;obtain ⟨b,off,rfl,hc,hw⟩:=h.2.2 k x hx;exact ⟨b,off,rfl,hg.cell hc (fun e=>hne _ rfl (by injection e)),hw⟩
end
theorem qfy (k:IntKind) (n c:Nat) (hn:n<=c) (hc:c<=16777216) (w:World) :
  (Instr.makeSlice 28 (.int k (n:Int)) (.int k (c:Int))).run Tryz.prog w=.ok (.slice (some ⟨w.heap.size,0,none⟩) n c) (w.alloc (.cells (madeCells #[.int .u16 0] c) 105)):=by
 obtain ⟨i,hi,hzz⟩:=Option.map_eq_some_iff.1 infoN;simp only [Prod.mk.injEq] at hzz;obtain ⟨hz,hs,hb⟩:=hzz;have hr:=run_make (P:=Tryz.prog) w 28 105 i (.int .u16 0) Tryz.underlying28 hi hz k k n c oo oo (by rw [hb];omega) oo;simp only [Int.toNat_natCast,hs,Nat.mul_one] at hr;exact hr
theorem qgz {n y q z:Nat} (c:Nat) (hn:n<c) (hy:y<=65535) (hc:c<=281474976710656) (hz:n ||| y*c=q) (e:(z:Int)=(y:Int)*(c:Int)):bits .or .u64 (n:Int) (z:Int)=(q:Int):=by
 have h1:z=y*c:=by
  have:((z:Nat):Int)=((y*c:Nat):Int):=by rw [e];simp
  omega
 subst h1;have h2:y*c<=65535*281474976710656:=Nat.mul_le_mul hy hc;rw [u64_or_nat _ _ oo oo,hz]
theorem qcn (n:Nat):IntKind.u16.wrap (n:Int)=((n % 65536:Nat):Int):=by simp [IntKind.wrap,IntKind.bits,IntKind.signed]
theorem qq4 (n:Nat):IntKind.u32.wrap (n:Int)=((n % 4294967296:Nat):Int):=by simp [IntKind.wrap,IntKind.bits,IntKind.signed]
theorem qjg (n:Nat):IntKind.u64.wrap (n:Int)=((n % 18446744073709551616:Nat):Int):=by simp [IntKind.wrap,IntKind.bits,IntKind.signed]
theorem qk4 (n:Nat) (w:World) (hn:n<18446744073709551616) :
  Calls Tryz.prog 45 #[.int .u64 n] w (RetN (limbs n) w):=by
 go_enter Tryz.func45,Tryz.ntmps45;go_wp2
 go_loopw [0,3] (fun i s wr=>∃ (m:Nat) (l:List Int) (a:Option Addr) (c:Nat),m<=n/\i=.int .u64 m/\s=.slice a l.length c/\OwnN w.heap.size wr a c l/\U16 l/\l.length<=1000/\Below w.heap.size w wr/\Hid (limbs n=l++limbs m)) (fun i _ _=>(intOf i).toNat)
 case atStart=>exact ⟨n,[],none,0,nlr _,rfl,rfl,Own.nil,U16.nil,by simp,Below.refl _ _,rfl⟩
 case round =>
  obtain ⟨m,l,a,c,hm,rfl,rfl,ho,hU,hlen,hb,hr⟩:=hrel;have HO:=Hd ho;clear ho;by_cases h0:m=0
  ·
   subst h0;have HR:limbs n=l:=by have:=hr.out;rw [qao] at this;simpa using this
   replace HR:=Hd HR;go_wp2;go_ret;exact RetN.own HO.out hU hb HR.out rfl
  ·
   have hgt:decide ((0:Int)<(m:Int))=true:=by simp;omega
   have hs:limbs m=((m % 65536:Nat):Int) :: limbs (m / 65536):=qb8 h0;have hr2:limbs n=(l++[((m % 65536:Nat):Int)])++limbs (m / 65536):=by rw [hr.out,hs];simp
   have HR:=Hd hr2;clear hs hr2;have hlt:m<18446744073709551616:=oo
   have hm1:((m:Int) % 65536)=((m % 65536:Nat):Int):=oo
   have hm2:((m:Int) / 65536)=((m / 65536:Nat):Int):=oo
   have hw:=qcn m;have HM1:=Hd hm1;have HM2:=Hd hm2;clear hm1 hm2;go_wp2_with (at_builtin;go_must (refine qd0 rfl (.tmp 8) (.tmp 11) rfl a c rfl (HO.out.alloc _) ((m % 65536:Nat):Int) wr.heap.size 1 rfl (by simp <;> omega) (l++[((m % 65536:Nat):Int)]) rfl (by simp;omega) (by have:=hb.size;simp;omega) ?_);intro a2 c2 w2 ho2 hg2 hx2)
   go_roundw
   case rel =>
    have hb1:Below w.heap.size w w2:=qal (hb.alloc hb.size _) (HO.out.alloc _) hg2;have hl4:(l++[((m % 65536:Nat):Int)]).length<=1000:=by
     have h4:(limbs n).length<=4:=qam (by simpa using hn);rw [HR.out] at h4;simp only [List.length_append] at h4 ⊢
     omega
    exact ⟨m / 65536,l++[((m % 65536:Nat):Int)],a2,c2,oo,by rw [HM2.out],by simp,ho2,hU.app (U16.cons oo U16.nil),hl4,hb1,HR.out⟩
   case measure=>rw [HM2.out];simp [intOf];omega
theorem qr3 (l:List Int) (n:Nat) (a:Option Addr) (c:Nat) (w:World) (h:NatR w a c l) (hn:val l=n) (hs:n<18446744073709551616) :
  Calls Tryz.prog 80 #[.slice a l.length c] w fun e w'=>e=.returned (.tuple #[.int .u64 n,.bool true])/\w=w':=by
 have CT:=qa4 l a c w h;have hT:=h.trim;have hu:=qa9 (val l);rw [hn] at CT hT hu;have hlen:(limbs n).length<=4:=qmo.2 hs;have hvT:=qac n;revert CT hT hlen hu hvT;generalize limbs n=T;intro CT hT hu hlen hvT;replace CT:=Hd CT;have HT:=Hd hT;have HV:=Hd hvT;clear h hn hT hvT;go_enter Tryz.func80,Tryz.ntmps80;go_wp2_with fail;refine CT.out.mono ?_;rintro e w1 ⟨rfl,rfl⟩;go_wp2;obtain ⟨wo,rfl⟩:∃ wo:World,wo=w:=⟨_,rfl⟩
 go_loopg [4,5,6,14] T.length (fun g x _ _ i wr=>∃ k:Nat,k+g=T.length/\i=.int .i64 k/\wo=wr/\x=.int .u64 (val (T.take k):Nat))
 case atStart=>exact ⟨0,oo,rfl,rfl,by simp [val]⟩
 case round =>
  obtain ⟨k,hkg,rfl,rfl,rfl⟩:=hrel;have HKG:=Hd hkg;clear hkg;by_cases hlt:k<T.length
  ·
   obtain ⟨x,hx⟩:=qab hlt;obtain ⟨b,off,rfl,hc⟩:=HT.out.cell hx;obtain ⟨hx0,hx1⟩:=hu.get hx;obtain ⟨y,rfl⟩:∃ y:Nat,x=(y:Int):=⟨x.toNat,oo⟩
   have hvt:=qgf hx;have hlt2:val (T.take k)<65536 ^ k:=by
    have:=qcs (hu.take k);have e:(T.take k).length=k:=by simp;omega
    rwa [e] at this
   rw [Int.toNat_natCast] at hvt;have hor:=qzo (x:=y) hlt2;rw [<- hvt] at hor;have hkc:k=0\/k=1\/k=2\/k=3:=oo
   have HOR:=Hd hor;revert hlt2;generalize val (T.take k)=p at *;intro hlt2;clear hvt hor hx;rcases hkc with rfl | rfl | rfl | rfl
   ·
    rw [Nat.add_zero] at hc;go_wp2;go_roundg (gk-1)
    case rel=>exact ⟨1,by have:=HKG.out;omega,by go_num,rfl,qd7 (qgz (z:=y) (y:=y) 1 (by simpa using hlt2) oo oo (by have h:=HOR.out;rw [Nat.pow_zero] at h;exact h) (by simp))⟩
    case measure=>have:=HKG.out;omega
   ·
    go_wp2;go_roundg (gk-1)
    case rel=>exact ⟨2,by have:=HKG.out;omega,by go_num,rfl,qd7 (qgz (z:=y*65536) 65536 (by simpa using hlt2) oo oo HOR.out (by simp))⟩
    case measure=>have:=HKG.out;omega
   ·
    go_wp2;go_roundg (gk-1)
    case rel=>exact ⟨3,by have:=HKG.out;omega,by go_num,rfl,qd7 (qgz (z:=y*4294967296) 4294967296 (by simpa using hlt2) oo oo HOR.out (by simp))⟩
    case measure=>have:=HKG.out;omega
   ·
    go_wp2;go_roundg (gk-1)
    case rel=>exact ⟨4,by have:=HKG.out;omega,by go_num,rfl,qd7 (qgz (z:=y*281474976710656) 281474976710656 (by simpa using hlt2) oo oo HOR.out (by simp))⟩
    case measure=>have:=HKG.out;omega
  ·
   have hr:val (T.take k)=n:=by rw [qgs hlt];exact HV.out
   have HR:=Hd hr;clear hr;go_wp2;go_ret2;refine ⟨?_,rfl⟩;rw [HR.out]
   rfl
theorem qx5 (l:List Int) (n:Nat) (a:Option Addr) (c:Nat) (w:World) (h:NatR w a c l) (hn:val l=n) (hs:¬ n<18446744073709551616) :
  Calls Tryz.prog 80 #[.slice a l.length c] w fun e w'=>e=.returned (.tuple #[.int .u64 0,.bool false])/\w=w':=by
 have CT:=qa4 l a c w h;rw [hn] at CT;have hlen:¬ (limbs n).length<=4:=fun e=>hs (qmo.1 e)
 have hmx:=h.len;have hle:=qah h.u16;rw [hn] at hle;revert CT hlen hle;generalize limbs n=T;intro CT hlen hle;replace CT:=Hd CT;clear h hn hs;go_enter Tryz.func80,Tryz.ntmps80;go_wp2_with fail;refine CT.out.mono ?_;rintro e w1 ⟨rfl,rfl⟩;go_wp2;go_ret2;exact ⟨rfl,rfl⟩
end Go.Proofs.YtmdlbpibipnapaaGreat
