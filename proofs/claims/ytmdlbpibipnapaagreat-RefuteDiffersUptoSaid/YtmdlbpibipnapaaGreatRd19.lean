/- Walk: coordinates.Of (the program). -/
import Derived.Test.YtmdlbpibipnapaaGreatRd18
import Derived.Test.YtmdlbpibipnapaaGreatRd2
import Derived.Test.YtmdlbpibipnapaaGreatRd3
import Derived.Deep.LoopGhost
import Derived.Test.YtmdlbpibipnapaaGreatRd15
import Derived.Test.YtmdlbpibipnapaaGreatRd1
set_option linter.all false
set_option maxRecDepth 100000
set_option maxHeartbeats 4000000
namespace Go.Proofs.YtmdlbpibipnapaaGreat
open Go.RowKit
theorem zz59 {P:Prop} (h:P:=by
 rintro e w2 ⟨rfl,hb2⟩;have hb3:=bth hb1 hb2;go_wp2;go_ret;exact ⟨rfl,hb3⟩
 ):P:=h
theorem qr2 (f:Fct) (n:Int) (p:RA) (w:World) (h:qci w p f.args f.ratio) (hq:f.ratio.few) (hn:InInt n) (hk:InInt f.kind) :
  Calls Tryz.prog 110 #[f.val p.aa p.ac p.na p.nc p.da p.dc,.int .i64 n] w fun e w'=>e=.returned (.int .i64 (qb2 f n))/\Below w.heap.size w w':=by
 obtain ⟨kind,args,r⟩:=f;obtain ⟨aa,ac,na,nc,da,dc⟩:=p;obtain ⟨hI,hN,hD⟩:=h;dsimp only at hI hN hD hq hk;obtain ⟨res,hres⟩:∃ x,qb2 ⟨kind,args,r⟩ n=x:=⟨_,rfl⟩
 rw [hres];unfold qb2 at hres;dsimp only at hres;have CA:=qtj kind;have hA:=qkq kind;have CR:=fun W (hW:bw w W)=>qk1 r na nc da dc W (hN.ext (xbw hW)) (hD.ext (xbw hW)) hq.1 hq.2
 have CN:=fun W=>qut r na nc da dc W hq.1 hq.2
 have hlen:=hI.len;have hIn:∀ a∈args,InInt a:=fun a ha=>by
  obtain ⟨k,hk⟩:=List.mem_iff_getElem?.1 ha;obtain ⟨b,off,_,hc,hw⟩:=hI.2.2 k a hk;exact qdy hw
 have HI:=Hd hI;have HIn:=Hd hIn;revert CA hA hres CR CN;generalize qba kind=ar;generalize r.right=br;generalize r.none=bn;intro hres CA hA CR CN;replace CA:=Hd CA;replace CR:=Hd CR;replace CN:=Hd CN;have HRES:=Hd hres;obtain ⟨hn1,hn2⟩:=hn;obtain ⟨hk1,hk2⟩:=hk;obtain ⟨neg,num,den⟩:=r;unfold Rt.val at CR CN;unfold Fct.val;dsimp only at CR CN ⊢;clear hres hI hN hD hIn hq;have hz:=Blk.new w 91 #[.int .i64 kind,.slice aa args.length ac,.bool neg,.slice na num.length nc,.slice da den.length dc];have hb0:Below w.heap.size w (w.alloc (.cells #[.int .i64 kind,.slice aa args.length ac,.bool neg,.slice na num.length nc,.slice da den.length dc] 91)):=brf.alloc (nlr _) _;by_cases h0:ar=0
 ·
  have he:(ar==0)=true:=by simpa using h0
  have hr:res=8:=by rw [<- HRES.out,if_pos h0]
  subst hr;clear h0 hz;go_enter Tryz.func110,Tryz.ntmps110;go_wp2_with (go_at_call 154;refine (CA.out _).mono ?_;rintro e w' ⟨rfl,rfl⟩);go_ret;exact ⟨rfl,hb0⟩
 ·
  have he:(ar==0)=false:=by simpa using h0
  have H0:=Hd h0;clear h0;by_cases h1:(args.length:Int)=ar
  ·
   have he1:((args.length:Int) != ar)=false:=by simpa using h1
   have H1:=Hd h1;clear h1;go_enter Tryz.func110,Tryz.ntmps110;go_wp2_with fail;revert hz hb0;generalize w.alloc (.cells #[.int .i64 kind,.slice aa args.length ac,.bool neg,.slice na num.length nc,.slice da den.length dc] 91)=w0;intro hz hb0;obtain ⟨z0,z1,z2,z3,z4⟩:=cq5 hz;refine (CA.out _).mono ?_;rintro e w' ⟨rfl,rfl⟩;obtain ⟨w1,rfl⟩:∃ w1:World,w1=w0:=⟨_,rfl⟩
   have hz1:=hz;have hb1:=hb0;clear hz hb0 CA;go_wp2
   go_loop [7,21] (fun _ i=>∃ k:Nat,k<=args.length/\i=.int .i64 k/\Hid ((args.take k).any (qa1 n)=false)) (fun _ i=>args.length-(intOf i).toNat)
   case atStart=>exact ⟨0,oo,rfl,rfl⟩
   case round =>
    obtain ⟨k,hk,rfl,hno⟩:=hrel;by_cases hlt:k<args.length
    ·
     obtain ⟨x,hx⟩:=qab hlt;obtain ⟨b,off,rfl,hc⟩:=(HI.out.ext (xbw hb1)).2.2 k x hx;have hc1:w1.cell? ⟨b,off+k,none⟩=some (.int .i64 x):=by simpa using hc.1
     obtain ⟨hx1,hx2⟩:=HIn.out x (List.mem_of_getElem? hx);have HX:=Hd hx;clear hc hx;by_cases hbad:x<0\/n<=x
     ·
      have hr:res=2:=by
       have hany:args.any (qa1 n)=true:=ql7 HX.out (by unfold qa1;exact decide_eq_true hbad);rw [<- HRES.out,if_neg H0.out,if_neg (by simpa using H1.out),if_pos hany]
      subst hr;by_cases hx0:x<0
      ·
       clear hbad;go_wp2;go_ret;exact ⟨rfl,hb1⟩
      ·
       have hge:n<=x:=oo
       clear hbad;go_wp2;go_ret;exact ⟨rfl,hb1⟩
     ·
      have hx0:0<=x:=oo
      have hxn:x<n:=oo
      have hbf:qa1 n x=false:=by unfold qa1;exact decide_eq_false hbad
      have HBF:=Hd hbf;clear hbad hbf;go_wp2
      go_round
      case rel=>exact ⟨k+1,oo,by go_num,by show _=_;rw [qh9 HX.out,hno.out,HBF.out];rfl⟩
      case measure=>simp [intOf];omega
    ·
     have hany:args.any (qa1 n)=false:=by
      have:=hno.out
      rwa [qgs hlt] at this
     have hres2:(if kind=9/\br=false then (1:Int) else if kind≠9/\bn=false then 1 else 0)=res:=by
      have:=HRES.out;rw [if_neg H0.out,if_neg (by simpa using H1.out),if_neg (by rw [hany];simp)] at this;exact this
     have HR2:=Hd hres2;clear hres2 hany;by_cases hk9:kind=9
     ·
      have hke:(kind==9)=true:=by simpa using hk9
      have hkn:(kind != 9)=false:=by simpa using hk9
      have HK9:=Hd hk9;clear hk9
      cases br
      ·
       have hr:res=1:=by rw [<- HR2.out,if_pos ⟨HK9.out,rfl⟩]
       subst hr;go_wp2_with fail;refine (CR.out _ hb1).mono ?_;exact zz59
      ·
       have hr:res=0:=by rw [<- HR2.out,if_neg (by simp),if_neg (by simp [HK9.out])]
       subst hr;go_wp2_with fail;refine (CR.out _ hb1).mono ?_;rintro e w2 ⟨rfl,hb2⟩;have hb3:=bth hb1 hb2;have hz2:=hz1.below' hb2;have y0:=hz2.cell 0;clear hb2 hz2;go_wp2;go_ret;exact ⟨rfl,hb3⟩
     ·
      have hke:(kind==9)=false:=by simpa using hk9
      have hkn:(kind != 9)=true:=by simpa using hk9
      have HK9:=Hd hk9;clear hk9
      cases bn
      ·
       have hr:res=1:=by rw [<- HR2.out,if_neg (fun h=>HK9.out h.1),if_pos ⟨HK9.out,rfl⟩]
       subst hr;go_wp2_with fail;refine (CN.out _).mono ?_;exact zz59
      ·
       have hr:res=0:=by rw [<- HR2.out,if_neg (fun h=>HK9.out h.1),if_neg (by simp)]
       subst hr;go_wp2_with fail;refine (CN.out _).mono ?_;exact zz59
  ·
   have he1:((args.length:Int) != ar)=true:=by simpa using h1
   have hr:res=1:=by rw [<- HRES.out,if_neg H0.out,if_pos h1]
   subst hr;clear h1;go_enter Tryz.func110,Tryz.ntmps110;go_wp2_with fail;revert hz hb0;generalize w.alloc (.cells #[.int .i64 kind,.slice aa args.length ac,.bool neg,.slice na num.length nc,.slice da den.length dc] 91)=w0;intro hz hb0;obtain ⟨z0,z1,z2,z3,z4⟩:=cq5 hz;refine (CA.out _).mono ?_;rintro e w' ⟨rfl,rfl⟩;go_wp2;go_ret;exact ⟨rfl,hb0⟩
def kindB (c:Int):Int:=if c=32\/c=9\/c=13\/c=10 then 1 else if letB c=true then 2 else if digB c=true then 3 else if c=40\/c=41\/c=44\/c=59\/c=47\/c=45 then 4 else if c=58 then 5 else if c=35 then 6 else 0
theorem qml (c:Int):(kindB c=2)↔letB c=true:=by
 unfold kindB letB
 constructor
 ·
  intro h
  split at h
  · omega
  split at h
  · assumption
  split at h
  · omega
  split at h
  · omega
  split at h
  · omega
  split at h <;> omega
 ·
  intro h;simp only [decide_eq_true_eq] at h;rw [if_neg oo,if_pos (by simpa using h)]
theorem qvj (c:Int):(kindB c=3)↔digB c=true:=by
 unfold kindB letB digB
 constructor
 ·
  intro h
  split at h
  · omega
  split at h
  · omega
  split at h
  · assumption
  split at h
  · omega
  split at h
  · omega
  split at h <;> omega
 ·
  intro h;simp only [decide_eq_true_eq] at h;rw [if_neg oo,if_neg (by simp only [decide_eq_true_eq];omega),if_pos (by simpa using h)]
theorem qdo {a b:Int} (h:¬ a=b):(a==b)=false:=by simpa using h
theorem qkk (c:Int) (w:World) (h0:0<=c) (h1:c<=255) :
  Calls Tryz.prog 174 #[.int .u8 c] w fun e w'=>e=.returned (.int .i64 (kindB c))/\w=w':=by
 by_cases hlit:c=32\/c=9\/c=13\/c=10\/c=40\/c=41\/c=44\/c=59\/c=47\/c=45\/c=58\/c=35
 ·
  clear h0 h1;rcases hlit with rfl | rfl | rfl | rfl | rfl | rfl | rfl | rfl | rfl | rfl | rfl | rfl
  all_goals
   go_enter Tryz.func174,Tryz.ntmps174;go_wp2;go_ret;exact ⟨qcq dd,rfl⟩
 ·
  have e1:=qdo (a:=c) (b:=32) oo;have e2:=qdo (a:=c) (b:=9) oo;have e3:=qdo (a:=c) (b:=13) oo;have e4:=qdo (a:=c) (b:=10) oo;have e5:=qdo (a:=c) (b:=40) oo;have e6:=qdo (a:=c) (b:=41) oo;have e7:=qdo (a:=c) (b:=44) oo;have e8:=qdo (a:=c) (b:=59) oo;have e9:=qdo (a:=c) (b:=47) oo;have e10:=qdo (a:=c) (b:=45) oo;have e11:=qdo (a:=c) (b:=58) oo;have e12:=qdo (a:=c) (b:=35) oo;obtain ⟨r,hr⟩:=nm (kindB c)
  have hr2:=hr;unfold kindB letB digB at hr2;rw [hr];have HR:=Hd hr2;have HLIT:=Hd hlit;clear hr hr2 hlit;have hc:c<48\/(48<=c/\c<=57)\/(58<=c/\c<65)\/(65<=c/\c<=90)\/(91<=c/\c<97)\/(97<=c/\c<=122)\/122<c:=oo
  rcases hc with hc | ⟨hc,hd⟩ | ⟨hc,hd⟩ | ⟨hc,hd⟩ | ⟨hc,hd⟩ | ⟨hc,hd⟩ | hc
  all_goals
   go_enter Tryz.func174,Tryz.ntmps174;go_wp2;go_ret;refine ⟨qcq ?_,rfl⟩;rw [<- HR.out];have hl:=HLIT.out;simp only [decide_eq_true_eq]
   repeat (first | rw [if_neg oo] | rw [if_pos oo])
def qbx (s:ByteArray) (k:Nat):Nat:=k+((s.data.toList.drop k).takeWhile wordB).length
theorem qqt {s:ByteArray} {k:Nat} (h:k<s.size) (hw:wordB (s[k]'h)=true):qbx s k=qbx s (k+1):=by
 have hg:=qkc h;have hk:k<s.data.toList.length:=by simpa using h
 unfold qbx;rw [List.drop_eq_getElem_cons hk];have e:s.data.toList[k]=s[k]'h:=by rw [List.getElem?_eq_getElem hk] at hg;exact Option.some.inj hg
 rw [e,List.takeWhile_cons,if_pos hw,List.length_cons]
 omega
theorem qty {s:ByteArray} {k:Nat} (h:k<s.size) (hw:wordB (s[k]'h)=false):qbx s k=k:=by
 have hg:=qkc h;have hk:k<s.data.toList.length:=by simpa using h
 unfold qbx;rw [List.drop_eq_getElem_cons hk];have e:s.data.toList[k]=s[k]'h:=by rw [List.getElem?_eq_getElem hk] at hg;exact Option.some.inj hg
 rw [e,List.takeWhile_cons,if_neg (by simp [hw])]
 rfl
theorem qp3 {s:ByteArray} {k:Nat} (h:¬ k<s.size):qbx s k=k:=by
 unfold qbx;rw [List.drop_eq_nil_of_le (by simp;omega)]
 rfl
theorem qq1 (s:ByteArray):qbx s 0=s.size↔s.data.toList.all wordB=true:=by
 unfold qbx;have hl:s.data.toList.length=s.size:=by simp
 rw [List.drop_zero,Nat.zero_add,<- hl];generalize s.data.toList=l
 induction l with
 | nil=>simp
 | cons x l ih =>
  rw [List.takeWhile_cons,List.all_cons]
  cases hw:wordB x
  · simp
  · simp [ih]
theorem qsi (s:ByteArray) (k:Nat) (h:k<=s.size):qbx s k<=s.size:=by
 unfold qbx;have:=(List.takeWhile_prefix wordB (l:=s.data.toList.drop k)).length_le;have hl:s.data.toList.length=s.size:=by simp
 rw [List.length_drop,hl] at this
 omega
theorem qqa (s:ByteArray) (k0:Nat) (w:World) (hs:s.size<=9223372036854775806) (hk0:k0<=s.size) :
  Calls Tryz.prog 175 #[.string s,.int .i64 k0,.bool true] w fun e w'=>e=.returned (.int .i64 (qbx s k0:Nat))/\w=w':=by
 obtain ⟨r,hr⟩:=nm (qbx s k0)
 rw [hr];have HR:=Hd hr;clear hr;go_enter Tryz.func175,Tryz.ntmps175;go_wp2
 go_loop [1] (fun q=>∃ k:Nat,k<=s.size/\q=.int .i64 k/\Hid (qbx s k=r)) (fun q=>s.size-(intOf q).toNat)
 case atStart=>exact ⟨k0,hk0,rfl,HR.out⟩
 case round =>
  obtain ⟨k,hk,rfl,hw⟩:=hrel;by_cases hlt:k<s.size
  ·
   have C:=qkk ((s[k]'hlt).toNat:Nat) w oo (by have:=(s[k]'hlt).toNat_lt;omega);have h2:=qml ((s[k]'hlt).toNat:Nat);have h3:=qvj ((s[k]'hlt).toNat:Nat);have hwb:wordB (s[k]'hlt)=(letB ((s[k]'hlt).toNat:Nat)||digB ((s[k]'hlt).toNat:Nat)):=rfl;have hy:=fun h=>qqt hlt h
   have hn:=fun h=>qty hlt h
   revert C h2 h3;generalize kindB ((s[k]'hlt).toNat:Nat)=q;intro C h2 h3;replace C:=Hd C;by_cases hq3:q=3
   ·
    have e3:(q==3)=true:=by simpa using hq3
    have hnx:qbx s (k+1)=r:=by rw [<- hy (by rw [hwb,h3.1 hq3];simp)];exact hw.out
    have HNX:=Hd hnx;clear hq3 h2 h3 hwb hy hn hnx;go_wp2_with (go_at_call 174;refine C.out.mono ?_;rintro e w' ⟨rfl,rfl⟩)
    go_round
    case rel=>exact ⟨k+1,oo,by go_num,HNX.out⟩
    case measure=>simp [intOf];omega
   ·
    have e3:(q==3)=false:=by simpa using hq3
    by_cases hq2:q=2
    ·
     have e2:(q==2)=true:=by simpa using hq2
     have hnx:qbx s (k+1)=r:=by rw [<- hy (by rw [hwb,h2.1 hq2];simp)];exact hw.out
     have HNX:=Hd hnx;clear hq3 hq2 h2 h3 hwb hy hn hnx;go_wp2_with (go_at_call 174;refine C.out.mono ?_;rintro e w' ⟨rfl,rfl⟩)
     go_round
     case rel=>exact ⟨k+1,oo,by go_num,HNX.out⟩
     case measure=>simp [intOf];omega
    ·
     have e2:(q==2)=false:=by simpa using hq2
     have hfin:k=r:=by
      rw [<- hw.out,hn];rw [hwb];have n2:letB ((s[k]'hlt).toNat:Nat)=false:=by
       cases hb:letB ((s[k]'hlt).toNat:Nat)
       · rfl
       · exact absurd (h2.2 hb) hq2
      have n3:digB ((s[k]'hlt).toNat:Nat)=false:=by
       cases hb:digB ((s[k]'hlt).toNat:Nat)
       · rfl
       · exact absurd (h3.2 hb) hq3
      rw [n2,n3];rfl
     have HF:=Hd hfin;clear hq3 hq2 h2 h3 hwb hy hn hfin;go_wp2_with (go_at_call 174;refine C.out.mono ?_;rintro e w' ⟨rfl,rfl⟩);go_ret;exact ⟨qcq (by have:=HF.out;omega),rfl⟩
  ·
   have hfin:k=r:=by rw [<- hw.out,qp3 hlt]
   have HF:=Hd hfin;clear hfin;go_wp2;go_ret;exact ⟨qcq (by have:=HF.out;omega),rfl⟩
theorem qsq (s:ByteArray) (w:World) (hs:s.size<=9223372036854775807) :
  Calls Tryz.prog 151 #[.string s] w fun e w'=>e=.returned (.bool (qbz s))/\Below w.heap.size w w':=by
 obtain ⟨r,hr⟩:=nm (qbz s)
 rw [hr];have HR:=Hd hr;clear hr;by_cases h0:s.size=0
 ·
  have e:=qg1.1 h0;subst e;have hr:r=false:=by rw [<- HR.out];exact qih
  subst hr;clear h0 hs;go_enter Tryz.func151,Tryz.ntmps151;go_wp2;go_ret;exact ⟨rfl,Below.refl _ _⟩
 ·
  have hse:s.toList.isEmpty=false:=by rw [qfg];simp;exact fun e=>h0 (qg1.2 e)
  have hse2:s.toList≠[]:=by intro e;rw [e] at hse;cases hse
  have H0:=Hd h0;clear h0;by_cases h20:s.size<=20
  ·
   have hp:0<s.size:=by have:=H0.out;omega
   have CK:=qkk ((s[0]'hp).toNat:Nat) w oo (by have:=(s[0]'hp).toNat_lt;omega);have h2:=qml ((s[0]'hp).toNat:Nat);rw [<- qlm hp] at h2;have CE:=qqa s 0 w oo oo;have hend:=qq1 s;have hle:=qsi s 0 oo;revert CK h2 CE hend hle;generalize kindB ((s[0]'hp).toNat:Nat)=q;generalize qbx s 0=en;intro CK h2 CE hend hle;replace CK:=Hd CK;replace CE:=Hd CE;have HEND:=Hd hend;by_cases hq:q=2
   ·
    have eq:(q != 2)=false:=by simpa using hq
    have hb:=h2.1 hq;have HB:=Hd hb;clear h2 hq hb hend;by_cases hlt:en<s.size
    ·
     have hall:s.data.toList.all wordB=false:=by
      cases h:s.data.toList.all wordB
      · rfl
      · have:=HEND.out.2 h;omega
     have hr:r=false:=by rw [<- HR.out];simp [qbz,hall]
     subst hr;clear hall;go_enter Tryz.func151,Tryz.ntmps151;go_wp2_with (first | (go_at_call 174;refine CK.out.mono ?_;rintro e w' ⟨rfl,rfl⟩) | (go_at_call 175;refine CE.out.mono ?_;rintro e w' ⟨rfl,rfl⟩));go_ret;exact ⟨rfl,Below.refl _ _⟩
    ·
     have hall:s.data.toList.all wordB=true:=HEND.out.1 oo;have HK:r = !keyB s:=by rw [<- HR.out];simp [qbz,HB.out,hall,h20]
     replace HK:=Hd HK;have CW:=qpg w;replace CW:=Hd CW;have hk0:=Blk.new w 9 (qbh.map Value.string).toArray;have hkb:Below w.heap.size w (w.alloc (.cells (qbh.map Value.string).toArray 9)):=brf.alloc (nlr _) _;clear hall;go_enter Tryz.func151,Tryz.ntmps151;go_wp2_with (first | (go_at_call 174;refine CK.out.mono ?_;rintro e w' ⟨rfl,rfl⟩) | (go_at_call 175;refine CE.out.mono ?_;rintro e w' ⟨rfl,rfl⟩) | (go_at_call 176;refine CW.out.mono ?_;rintro e w' ⟨rfl,rfl⟩));revert hk0 hkb;generalize w.alloc (.cells (qbh.map Value.string).toArray 9)=w3;intro hk0 hkb;clear CK CE CW
     go_loopg [4,27] 29 (fun g _ i wv=>∃ k:Nat,k+g=29/\i=.int .i64 k/\Blk wv w.heap.size 9 (qbh.map Value.string).toArray/\Below w.heap.size w wv/\((qbh.take k).any fun k=>decide (s=k))=false)
     case atStart=>exact ⟨0,oo,rfl,hk0,hkb,rfl⟩
     case round =>
      obtain ⟨k,hkg,rfl,hk,hbv,hno⟩:=hrel;have HNO:=Hd hno;have HKG:=Hd hkg;have HKB:=Hd hk;have hsz3:=hk.lt;clear hk0 hkb hno hkg hk;by_cases hlt2:k<29
      ·
       obtain ⟨x,hx⟩:=qab (xs:=qbh) (k:=k) (by rw [qex];exact hlt2);have hc:wr.cell? ⟨w.heap.size,k,none⟩=some (.string x):=by rw [HKB.out.cell];simp [hx]
       have HX:=Hd hx;clear hx;by_cases he:s=x
       ·
        have hbe:(x.toList==s.toList)=true:=by rw [qfb];simpa using he.symm
        have HE:=Hd he;clear he;go_wp2;go_ret;exact ⟨qbn (by rw [HK.out,qpv HX.out HE.out];rfl),hbv⟩
       ·
        have hbe:(x.toList==s.toList)=false:=by rw [qfb];simpa using fun e=>he e.symm
        have HE:=Hd he;clear he;go_wp2;go_roundg (gk-1)
        case rel=>exact ⟨k+1,by have:=HKG.out;omega,by go_num,HKB.out,hbv,by rw [qmq HX.out,HNO.out];simp [HE.out]⟩
        case measure=>have:=HKG.out;omega
      ·
       go_wp2;go_ret;refine ⟨qbn ?_,hbv⟩;have:=HNO.out;rw [List.take_of_length_le (by rw [qex];omega)] at this;rw [HK.out,keyB,this];rfl
   ·
    have eq:(q != 2)=true:=by simpa using hq
    have hb:headB s=false:=by
     cases h:headB s
     · rfl
     · exact absurd (h2.2 h) hq
    have hr:r=false:=by rw [<- HR.out];simp [qbz,hb]
    subst hr;clear h2 hq hb hend;go_enter Tryz.func151,Tryz.ntmps151;go_wp2_with (go_at_call 174;refine CK.out.mono ?_;rintro e w' ⟨rfl,rfl⟩);go_ret;exact ⟨rfl,Below.refl _ _⟩
  ·
   have hr:r=false:=by rw [<- HR.out];simp [qbz];omega
   subst hr;go_enter Tryz.func151,Tryz.ntmps151;go_wp2;go_ret;exact ⟨rfl,Below.refl _ _⟩
def idxB {α:Type} (p:α->Bool) (i:Nat):List α->Int
 | []=>-1
 | s :: r=>if p s=true then (i:Int) else idxB p (i+1) r
theorem qr0 {α:Type} {p:α->Bool} {l:List α} {k:Nat} {x:α} (h:l[k]? = some x):idxB p k (l.drop k)=if p x=true then (k:Int) else idxB p (k+1) (l.drop (k+1)):=by
 have hk:=qai h;rw [List.drop_eq_getElem_cons hk];have:l[k]=x:=by rw [List.getElem?_eq_getElem hk] at h;exact Option.some.inj h
 rw [this,idxB]
theorem qj7 {α:Type} (p:α->Bool):∀ (l:List α) (i:Nat),decide (0<=idxB p i l)=l.any p
 | [],i=>by simp [idxB]
 | x :: r,i=>by
  have ih:=qj7 p r (i+1);rw [idxB,List.any_cons];by_cases h:p x=true
  · rw [if_pos h,h];simp
  · rw [if_neg h,ih];simp [h]
theorem SlR.taken {α:Type} {sz:Nat} {E:World->Nat->Nat->α->Prop} {w:World} {a:Option Addr} {c:Nat} {l:List α} (h:SlR sz E w a c l) (k:Nat):SlR sz E w a c (l.take k):=by
 refine ⟨by have:=h.1;simp;omega,h.2.1,fun j x hx=>?_⟩;rw [List.getElem?_take] at hx
 split at hx
 · exact h.2.2 j x hx
 · cases hx
theorem qxo (a:Int) (i g:Nat) (w:World) (hg:w.cell? ⟨g,0,none⟩=some (.int .i64 i)) :
  Calls Tryz.prog 148 #[.int .i64 a,.pointer (some ⟨g,0,none⟩)] w fun r w'=>r=.returned (.bool (qa1 i a))/\w=w':=by
 unfold qa1;by_cases h0:a<0
 ·
  have hr:decide (a<0\/(i:Int)<=a)=true:=by simp [h0]
  rw [hr];clear hr;go_enter Tryz.func148,Tryz.ntmps148;go_wp2;go_ret;exact ⟨rfl,rfl⟩
 ·
  have hr:decide (a<0\/(i:Int)<=a)=decide ((i:Int)<=a):=by simp [h0]
  rw [hr];clear hr;go_enter Tryz.func148,Tryz.ntmps148;go_wp2;go_ret;exact ⟨rfl,rfl⟩
theorem qpw (l:List Int) (i g:Nat) (la:Option Addr) (lc:Nat) (w:World) (h:IntsR w la lc l) (hg:w.cell? ⟨g,0,none⟩=some (.int .i64 i)) :
  Calls Tryz.prog 172 #[.slice la l.length lc,.func (Fn.func 148) #[] #[.pointer (some ⟨g,0,none⟩)]] w fun r w'=>r=.returned (.int .i64 (idxB (qa1 i) 0 l))/\w=w':=by
 have HL:=Hd h;have HG:=Hd hg;have hll:=h.len;obtain ⟨R,hR⟩:=nm (idxB (qa1 i) 0 l)
 rw [hR];have HR:Hid (idxB (qa1 i) 0 (l.drop 0)=R):=Hd hR;clear h hR hg;go_enter Tryz.func172,Tryz.ntmps172;go_wp2;obtain ⟨wo,rfl⟩:∃ wo:World,wo=w:=⟨_,rfl⟩
 go_loopg [5,8] l.length (fun m _ q wr=>∃ k:Nat,k+m=l.length/\q=.int .i64 k/\wo=wr/\idxB (qa1 i) k (l.drop k)=R)
 case atStart=>exact ⟨0,oo,rfl,rfl,HR.out⟩
 case round =>
  obtain ⟨k,hkg,rfl,rfl,ha⟩:=hrel;have HKG:=Hd hkg;have HA:=Hd ha;clear hkg ha;by_cases hlt:k<l.length
  ·
   obtain ⟨x,hx⟩:=qab hlt;obtain ⟨bx,ox,rfl,hcx⟩:=HL.out.2.2 k x hx;have u0:wo.cell? ⟨bx,ox+k,none⟩=some (.int .i64 x):=by simpa [IntE] using hcx.1
   have hax:=HA.out;rw [qr0 hx] at hax;have CD:=qxo x i g wo HG.out;obtain ⟨bv,hb⟩:=nm (qa1 i x)
   rw [hb] at CD hax;have HAX:=Hd hax;replace CD:=Hd CD;clear hx hcx hax hb HA;go_wp2_with fail;refine CD.out.mono ?_;rintro r w1 ⟨rfl,rfl⟩;clear CD u0
   cases bv
   ·
    have HAX2:Hid (idxB (qa1 i) (k+1) (l.drop (k+1))=R):=Hd (by simpa using HAX.out);clear HAX;go_wp2;go_roundg (gk-1)
    case rel=>exact ⟨k+1,by have:=HKG.out;omega,by go_num,rfl,HAX2.out⟩
    case measure=>have:=HKG.out;omega
   ·
    have hkR:(k:Int)=R:=by simpa using HAX.out
    subst hkR;clear HAX;go_wp2;go_ret;exact ⟨rfl,rfl⟩
  ·
   have hr:(-1:Int)=R:=by rw [<- HA.out,List.drop_eq_nil_of_le oo];rfl
   subst hr;go_wp2;go_ret;exact ⟨rfl,rfl⟩
theorem qs9 (l:List Int) (i g:Nat) (la:Option Addr) (lc:Nat) (w:World) (h:IntsR w la lc l) (hg:w.cell? ⟨g,0,none⟩=some (.int .i64 i)) :
  Calls Tryz.prog 147 #[.slice la l.length lc,.func (Fn.func 148) #[] #[.pointer (some ⟨g,0,none⟩)]] w fun r w'=>r=.returned (.bool (l.any (qa1 i)))/\w=w':=by
 have CI:=qpw l i g la lc w h hg;have hf:=qj7 (qa1 i) l 0;revert CI hf;generalize idxB (qa1 i) 0 l=q;intro CI hf;rw [<- hf];clear h hf hg;replace CI:=Hd CI;go_enter Tryz.func147,Tryz.ntmps147;go_wp2_with fail;refine CI.out.mono ?_;rintro e w1 ⟨rfl,rfl⟩;go_wp2;go_ret;exact ⟨rfl,rfl⟩
theorem quj (s:Step) (p:RA) (n:ByteArray) (g:Nat) (w:World) (hg:w.cell? ⟨g,1,none⟩=some (.string n)) :
  Calls Tryz.prog 153 #[s.val p.aa p.ac p.na p.nc p.da p.dc,.pointer (some ⟨g,0,none⟩)] w fun r w'=>r=.returned (.bool (decide (s.point=n)))/\Below w.heap.size w w':=by
 unfold Step.val;have hb0:Below w.heap.size w (w.alloc (.cells #[.int .i64 s.kind,.string s.point,.slice p.aa s.args.length p.ac,.bool s.ratio.neg,.slice p.na s.ratio.num.length p.nc,.slice p.da s.ratio.den.length p.dc] 93)):=brf.alloc (nlr _) _;have hk:=held hg;have hgl:g<w.heap.size:=World.block_lt_of_cell? w _ hg;have hgl2:g<w.heap.size+1:=oo
 obtain ⟨b,hb⟩:=nm ((s.point.toList==n.toList))
 have hb2:=qfb s.point n;rw [hb] at hb2;rw [<- hb2];clear hb2;go_enter Tryz.func153,Tryz.ntmps153;go_wp2;go_ret;exact ⟨rfl,hb0⟩
theorem qnr (l:List Step) (n:ByteArray) (g:Nat) (la:Option Addr) (lc:Nat) (w:World) (h:qbi w la lc l) (hg:w.cell? ⟨g,1,none⟩=some (.string n)) :
  Calls Tryz.prog 177 #[.slice la l.length lc,.func (Fn.func 153) #[] #[.pointer (some ⟨g,0,none⟩)]] w fun r w'=>r=.returned (.int .i64 (idxB (fun t:Step=>decide (t.point=n)) 0 l))/\Below w.heap.size w w':=by
 have HL:=Hd h;have hll:=h.len;obtain ⟨R,hR⟩:=nm (idxB (fun t:Step=>decide (t.point=n)) 0 l)
 rw [hR];have HR:Hid (idxB (fun t:Step=>decide (t.point=n)) 0 (l.drop 0)=R):=Hd hR;have HG:=Hd hg;clear h hR hg;go_enter Tryz.func177,Tryz.ntmps177;go_wp2;obtain ⟨wo,rfl⟩:∃ wo:World,wo=w:=⟨_,rfl⟩
 go_loopg [5,8] l.length (fun m _ q wr=>∃ k:Nat,k+m=l.length/\q=.int .i64 k/\Below wo.heap.size wo wr/\idxB (fun t:Step=>decide (t.point=n)) k (l.drop k)=R)
 case atStart=>exact ⟨0,oo,rfl,Below.refl _ _,HR.out⟩
 case round =>
  obtain ⟨k,hkg,rfl,hwr,ha⟩:=hrel;have HKG:=Hd hkg;have HA:=Hd ha;clear hkg ha;by_cases hlt:k<l.length
  ·
   obtain ⟨x,hx⟩:=qab hlt;obtain ⟨bx,ox,rfl,p,hC,hP,_,_⟩:=(HL.out.ext (xbw hwr)).2.2 k x hx;obtain ⟨c0,c1,c2,c3,c4,c5⟩:=hC;have hax:=HA.out;rw [qr0 hx] at hax;have CD:=quj x p n g wr (xbw hwr _ _ HG.out);obtain ⟨b,hb⟩:=nm (decide (x.point=n))
   rw [hb] at CD hax;unfold Step.val at CD;have HAX:=Hd hax;replace CD:=Hd CD;clear hx hP hax hb HA;go_wp2_with fail;refine CD.out.mono ?_;rintro r w1 ⟨rfl,hb1⟩;have hw1:=bth hwr hb1;clear c0 c1 c2 c3 c4 c5 CD
   cases b
   ·
    have HAX2:Hid (idxB (fun t:Step=>decide (t.point=n)) (k+1) (l.drop (k+1))=R):=Hd (by simpa using HAX.out);clear HAX;go_wp2;go_roundg (gk-1)
    case rel=>exact ⟨k+1,by have:=HKG.out;omega,by go_num,hw1,HAX2.out⟩
    case measure=>have:=HKG.out;omega
   ·
    have hkR:(k:Int)=R:=by simpa using HAX.out
    subst hkR;clear HAX;go_wp2;go_ret;exact ⟨rfl,hw1⟩
  ·
   have hr:(-1:Int)=R:=by rw [<- HA.out,List.drop_eq_nil_of_le oo];rfl
   subst hr;go_wp2;go_ret;exact ⟨rfl,hwr⟩
theorem qqq (l:List Step) (n:ByteArray) (g:Nat) (la:Option Addr) (lc:Nat) (w:World) (h:qbi w la lc l) (hg:w.cell? ⟨g,1,none⟩=some (.string n)) :
  Calls Tryz.prog 152 #[.slice la l.length lc,.func (Fn.func 153) #[] #[.pointer (some ⟨g,0,none⟩)]] w fun r w'=>r=.returned (.bool (l.any fun t=>decide (t.point=n)))/\Below w.heap.size w w':=by
 have CI:=qnr l n g la lc w h hg;have hf:=qj7 (fun t:Step=>decide (t.point=n)) l 0;revert CI hf;generalize idxB (fun t:Step=>decide (t.point=n)) 0 l=q;intro CI hf;rw [<- hf];clear h hf hg;replace CI:=Hd CI;go_enter Tryz.func152,Tryz.ntmps152;go_wp2_with fail;refine CI.out.mono ?_;rintro e w1 ⟨rfl,hb1⟩;go_wp2;go_ret;exact ⟨rfl,hb1⟩
theorem qtw (l:List Step) (i:Nat) (s:Step) (a:Option Addr) (c:Nat) (w:World) (h:qbi w a c l) (hs:l[i]? = some s) (hq:s.ratio.few) :
  Calls Tryz.prog 109 #[.slice a l.length c,.int .i64 i] w fun e w'=>e=.returned (.int .i64 (qbl l s i))/\Below w.heap.size w w':=by
 have hlen:=h.len;have hcap0:=h.1;have hcm0:=h.2.1;have hi:=qai hs;obtain ⟨b,off,rfl,p,hC,hP,hkind,hpt⟩:=h.2.2 i s hs;obtain ⟨kind,point,args,r⟩:=s;obtain ⟨aa,ac,na,nc,da,dc⟩:=p;obtain ⟨hI,hN,hD⟩:=hP;dsimp only at hI hN hD hq hkind hpt;obtain ⟨c0,c1,c2,c3,c4,c5⟩:=hC;dsimp only at c0 c1 c2 c3 c4 c5;obtain ⟨res,hres⟩:∃ x,qbl l ⟨kind,point,args,r⟩ i=x:=⟨_,rfl⟩
 rw [hres];unfold qbl at hres;dsimp only at hres;have CA:=qte kind;have hA:=qlo kind;have CR:=fun W (hW:bw w W)=>qk1 r na nc da dc W (hN.ext (xbw hW)) (hD.ext (xbw hW)) hq.1 hq.2
 have CN:=fun W=>qwc r na nc da dc W hq.1 hq.2
 have CI:=fun W=>qsq point W hpt
 have CB:=fun W (hW:bw w W) (g:Nat)=>qs9 args i g aa ac W (hI.ext (xbw hW))
 have CS:=fun W (hW:bw w W) (g:Nat)=>qqq (l.take i) point g (some ⟨b,off,none⟩) c W (qbi.ext (SlR.taken h i) (xbw hW))
 have htl:(l.take i).length=i:=by simp;omega
 rw [htl] at CS;have hlena:=hI.len;have hk0:=held c0;have hk1:=held c1;have hk2:=held c2;have hk3:=held c3;have hk4:=held c4;have hk5:=held c5;have hbl:b<w.heap.size:=World.block_lt_of_cell? w _ c0;revert CA hA hres CR CN CI CB CS;generalize qar kind=ar;generalize r.right=br;generalize r.none=bn;generalize qbz point=bi;generalize args.any (qa1 i)=bb;generalize ((l.take i).any fun t=>decide (t.point=point))=bs;intro hres CA hA CR CN CI CB CS;replace CA:=Hd CA;replace CR:=Hd CR;replace CN:=Hd CN;replace CI:=Hd CI;replace CB:=Hd CB;replace CS:=Hd CS;have HRES:=Hd hres;obtain ⟨hk1',hk2'⟩:=hkind;obtain ⟨neg,num,den⟩:=r;unfold Rt.val at CR CN;dsimp only at CR CN c0 c1 c2 c3 c4 c5 hk3 hk4 hk5 ⊢;unfold maxLen at hcm0;have hii:(i:Int)<=(c:Int):=oo
 have hic:i<=c:=oo
 clear hres hI hN hD hq h hs htl;have hz:Blk ((w.alloc (.cells #[.int .i64 (i:Int)] 3)).alloc (.cells #[.int .i64 kind,.string point,.slice aa args.length ac,.bool neg,.slice na num.length nc,.slice da den.length dc] 93)) (w.heap.size+1) 93 #[.int .i64 kind,.string point,.slice aa args.length ac,.bool neg,.slice na num.length nc,.slice da den.length dc]:=qa5 w _ _ _;have hzi:Blk ((w.alloc (.cells #[.int .i64 (i:Int)] 3)).alloc (.cells #[.int .i64 kind,.string point,.slice aa args.length ac,.bool neg,.slice na num.length nc,.slice da den.length dc] 93)) w.heap.size 3 #[.int .i64 (i:Int)]:=(Blk.new w _ _).alloc _;have hb0:Below w.heap.size w ((w.alloc (.cells #[.int .i64 (i:Int)] 3)).alloc (.cells #[.int .i64 kind,.string point,.slice aa args.length ac,.bool neg,.slice na num.length nc,.slice da den.length dc] 93)):=(brf.alloc (nlr _) _).alloc (by simp) _
 go_enter Tryz.func109,Tryz.ntmps109;go_wp2_with fail;revert hz hzi hb0;generalize (w.alloc (.cells #[.int .i64 (i:Int)] 3)).alloc (.cells #[.int .i64 kind,.string point,.slice aa args.length ac,.bool neg,.slice na num.length nc,.slice da den.length dc] 93)=w0;intro hz hzi hb0;refine (CA.out _).mono ?_;rintro e w' ⟨rfl,rfl⟩;obtain ⟨z0,z1,z2,z3,z4,z5⟩:=cq6 hz;have zi:=hzi.cell 0;clear c0 c1 c2 c3 c4 c5 hk0 hk1 hk2 hk3 hk4 hk5;by_cases h0:ar<0
 ·
  have he:decide (ar<0)=true:=by simpa using h0
  have hr:res=8:=by rw [<- HRES.out,if_pos h0]
  subst hr;clear h0;go_wp2;go_ret;exact ⟨rfl,hb0⟩
 have he:decide (ar<0)=false:=by simpa using h0
 have HR1:=HRES.out;rw [if_neg h0] at HR1;replace HR1:=Hd HR1;clear h0 HRES;by_cases h1:(args.length:Int)=ar
 case neg =>
  have he1:((args.length:Int) != ar)=true:=by simpa using h1
  have hr:res=1:=by rw [<- HR1.out,if_pos h1]
  subst hr;clear h1;go_wp2;go_ret;exact ⟨rfl,hb0⟩
 have he1:((args.length:Int) != ar)=false:=by simpa using h1
 have HR2:=HR1.out;rw [if_neg (by simpa using h1)] at HR2;replace HR2:=Hd HR2;clear h1 HR1;have CB2:=CB.out w0 hb0 w.heap.size zi;replace CB2:=Hd CB2;clear CB
 cases bb
 case true =>
  have hr:res=2:=by rw [<- HR2.out,if_pos rfl]
  subst hr;go_wp2_with fail;refine CB2.out.mono ?_;rintro e w1 ⟨rfl,rfl⟩;go_wp2;go_ret;exact ⟨rfl,hb0⟩
 have HR3:=HR2.out;rw [if_neg (by simp)] at HR3;replace HR3:=Hd HR3;clear HR2;go_wp2_with fail;refine CB2.out.mono ?_;rintro e w1 ⟨rfl,rfl⟩;clear CB2 CA;by_cases hb2:kind=2/\br=false
 ·
  obtain ⟨hk2,rfl⟩:=hb2;have hr:res=1:=by rw [<- HR3.out,if_pos ⟨hk2,rfl⟩]
  subst hr;have hke:(kind==2)=true:=by simpa using hk2
  have hkn:(kind != 2)=false:=by simpa using hk2
  clear hk2;go_wp2_with fail;refine (CR.out _ hb0).mono ?_;rintro e w2 ⟨rfl,hb2⟩;have hb3:=bth hb0 hb2;go_wp2;go_ret;exact ⟨rfl,hb3⟩
 ·
  by_cases hb2':kind≠2/\bn=false
  ·
   have hr:res=1:=by rw [<- HR3.out,if_neg hb2,if_pos hb2']
   subst hr;obtain ⟨hk2,rfl⟩:=hb2';have hke:(kind==2)=false:=by simpa using hk2
   have hkn:(kind != 2)=true:=by simpa using hk2
   clear hk2 hb2;go_wp2_with fail;refine (CN.out _).mono ?_;rintro e w2 ⟨rfl,hb2⟩;have hb3:=bth hb0 hb2;go_wp2;go_ret;exact ⟨rfl,hb3⟩
  ·
   have hgood:(kind=2/\br=true)\/(kind≠2/\bn=true):=by
    by_cases hk2:kind=2
    ·
     left;refine ⟨hk2,?_⟩;cases br
     · exact absurd ⟨hk2,rfl⟩ hb2
     · rfl
    ·
     right;refine ⟨hk2,?_⟩;cases bn
     · exact absurd ⟨hk2,rfl⟩ hb2'
     · rfl
   have HR4:=HR3.out;rw [if_neg hb2,if_neg hb2'] at HR4;replace HR4:=Hd HR4;clear hb2 hb2' HR3;rcases hgood with ⟨hk2,rfl⟩ | ⟨hk2,rfl⟩
   all_goals
    first
     | have hke:(kind==2)=true:=by simpa using hk2
     | have hke:(kind==2)=false:=by simpa using hk2
    first
     | have hkn:(kind != 2)=false:=by simpa using hk2
     | have hkn:(kind != 2)=true:=by simpa using hk2
    clear hk2;go_wp2_with fail
    first
     | refine (CR.out _ hb0).mono ?_
     | refine (CN.out _).mono ?_
    rintro e w2 ⟨rfl,hb2⟩;have hz2:=hz.below' hb2;have hzi2:=hzi.below' hb2;have hw2:=bth hb0 hb2;clear hb2 z0 z1 z2 z3 z4 z5 zi hz hzi hb0 CR CN;obtain ⟨z0,z1,z2,z3,z4,z5⟩:=cq6 hz2;have zi:=hzi2.cell 0;by_cases hpe:point=⟨#[]⟩
    ·
     have hr:res=0:=by rw [<- HR4.out,if_pos hpe]
     subst hr;subst hpe;go_wp2;go_ret;exact ⟨rfl,hw2⟩
    ·
     have hse:point.toList.isEmpty=false:=by rw [qfg];simpa using hpe
     have HR5:=HR4.out;rw [if_neg hpe] at HR5;replace HR5:=Hd HR5;clear hpe HR4
     cases bi
     ·
      have hr:res=6:=by rw [<- HR5.out,if_pos rfl]
      subst hr;go_wp2_with fail;refine (CI.out _).mono ?_;rintro e w3 ⟨rfl,hb3⟩;have hw3:=bth hw2 hb3;go_wp2;go_ret;exact ⟨rfl,hw3⟩
     ·
      have HR6:=HR5.out;rw [if_neg (by simp)] at HR6;replace HR6:=Hd HR6;clear HR5;go_wp2_with fail;refine (CI.out _).mono ?_;rintro e w3 ⟨rfl,hb3⟩;have hw3:=bth hw2 hb3;have hz3:=hz2.below' hb3;have hzi3:=hzi2.below' hb3;clear hb3 z0 z1 z2 z3 z4 z5 zi hz2 hzi2 hw2 CI;have z1:=hz3.cell 1;have zi:=hzi3.cell 0;have CS2:=CS.out w3 hw3 (w.heap.size+1) z1;replace CS2:=Hd CS2;clear CS;go_wp2_with fail;refine CS2.out.mono ?_;rintro e w4 ⟨rfl,hb4⟩;have hw4:=bth hw3 hb4
      cases bs
      ·
       have hr:res=0:=by rw [<- HR6.out,if_neg (by simp)]
       subst hr;go_wp2;go_ret;exact ⟨rfl,hw4⟩
      ·
       have hr:res=7:=by rw [<- HR6.out,if_pos rfl]
       subst hr;go_wp2;go_ret;exact ⟨rfl,hw4⟩
theorem qlk (f:Fig) (sa:Option Addr) (sc:Nat) (ga:Option Addr) (gc:Nat) (w:World) (h:FigR w sa sc ga gc f) (hq:f.few) :
  Calls Tryz.prog 66 #[f.val sa sc ga gc] w fun e w'=>e=.returned (.int .i64 f.err)/\Below w.heap.size w w':=by
 obtain ⟨steps,goals⟩:=f;obtain ⟨hS,hG⟩:=h;dsimp only at hS hG;have hl1:=hS.len;have hl2:=hG.len;obtain ⟨res,hres⟩:∃ x,Fig.err ⟨steps,goals⟩=x:=⟨_,rfl⟩
 rw [hres];unfold Fig.err at hres;unfold Fig.val;dsimp only at hres ⊢;have HS:=Hd hS;have HG:=Hd hG;have HQ:=Hd hq;have HRES:=Hd hres;clear hS hG hq hres;have hz:=Blk.new w 25 #[.slice sa steps.length sc,.slice ga goals.length gc];have hb0:Below w.heap.size w (w.alloc (.cells #[.slice sa steps.length sc,.slice ga goals.length gc] 25)):=brf.alloc (nlr _) _;by_cases hbig:40<steps.length\/8<goals.length
 ·
  have hr:res=4:=by rw [<- HRES.out,if_pos hbig]
  subst hr;clear hz;by_cases h1:40<steps.length
  ·
   clear hbig;go_enter Tryz.func66,Tryz.ntmps66;go_wp2;go_ret;exact ⟨rfl,hb0⟩
  ·
   have h2:8<goals.length:=oo
   clear hbig;go_enter Tryz.func66,Tryz.ntmps66;go_wp2;go_ret;exact ⟨rfl,hb0⟩
 ·
  have h1:steps.length<=40:=oo
  have h2:goals.length<=8:=oo
  have HR1:=HRES.out;rw [if_neg hbig] at HR1;replace HR1:=Hd HR1;clear hbig HRES;go_enter Tryz.func66,Tryz.ntmps66;go_wp2;revert hz hb0;generalize w.alloc (.cells #[.slice sa steps.length sc,.slice ga goals.length gc] 25)=w0;intro hz hb0
  go_loopg [3,4,21] steps.length (fun g _ _ q wr=>∃ k:Nat,k+g=steps.length/\q=.int .i64 k/\Below w.heap.size w wr/\Blk wr w.heap.size 25 #[.slice sa steps.length sc,.slice ga goals.length gc]/\qbf steps (steps.drop k) k=qbf steps steps 0)
  case atStart=>exact ⟨0,oo,rfl,hb0,hz,rfl⟩
  case round =>
   obtain ⟨k,hkg,rfl,hwr,hzr,he⟩:=hrel;have HKG:=Hd hkg;have HE:=Hd he;have HZR:=Hd hzr;obtain ⟨z0,z1⟩:=cq2 hzr;have hzl:=hzr.lt;clear hb0 hz hkg he hzr;by_cases hlt:k<steps.length
   ·
    obtain ⟨s,hs⟩:=qab hlt;have C:=qtw steps k s sa sc wr (HS.out.ext (xbw hwr)) hs (HQ.out.1 s (List.mem_of_getElem? hs));have hes:=qik (l:=steps) hs;rw [HE.out] at hes;revert C hes;generalize qbl steps s k=ev;intro C hes;replace C:=Hd C;have HES:=Hd hes;clear hes hs;by_cases hev:ev=0
    ·
     have hb:(ev != 0)=false:=by simpa using hev
     have HE2:=HES.out;rw [if_neg (by simpa using hev)] at HE2;replace HE2:=Hd HE2;clear hev HES HE;go_wp2_with fail;refine C.out.mono ?_;rintro e w2 ⟨rfl,hb2⟩;have hw2:=bth hwr hb2;have hz2:=HZR.out.below' hb2;clear hb2 C;go_wp2;go_roundg (gk-1)
     case rel=>exact ⟨k+1,by have:=HKG.out;omega,by go_num,hw2,hz2,HE2.out.symm⟩
     case measure=>have:=HKG.out;omega
    ·
     have hb:(ev != 0)=true:=by simpa using hev
     have hr:res=ev:=by
      have h3:=HES.out;rw [if_pos hev] at h3;have:=HR1.out;rw [h3,if_pos hev] at this;exact this.symm
     subst hr;clear hev HES HE HR1;go_wp2_with fail;refine C.out.mono ?_;rintro e w2 ⟨rfl,hb2⟩;have hw2:=bth hwr hb2;clear hb2 C;go_wp2;go_ret;exact ⟨rfl,hw2⟩
   ·
    have HR2:=HR1.out;have hz3:qbf steps steps 0=0:=by
     rw [<- HE.out,List.drop_eq_nil_of_le oo];rfl
    rw [if_neg (by rw [hz3];simp)] at HR2;replace HR2:=Hd HR2;obtain ⟨wo,rfl⟩:∃ wo:World,wo=wr:=⟨_,rfl⟩
    clear hz3 HR1 HE HKG;go_wp2
    go_loopg [6,7,35] goals.length (fun g _ _ q wr=>∃ k:Nat,k+g=goals.length/\q=.int .i64 k/\Below w.heap.size w wr/\Blk wr w.heap.size 25 #[.slice sa steps.length sc,.slice ga goals.length gc]/\qcm steps.length (goals.drop k)=qcm steps.length goals)
    case atStart=>exact ⟨0,oo,rfl,hwr,HZR.out,rfl⟩
    case round =>
     clear HZR z0 z1 hzl hwr;obtain ⟨k2,hkg,rfl,hwr,hzr,he⟩:=hrel;have HKG:=Hd hkg;have HE:=Hd he;have HZR:=Hd hzr;obtain ⟨z0,z1⟩:=cq2 hzr;have hzl:=hzr.lt;clear hkg he hzr;by_cases hlt2:k2<goals.length
     ·
      obtain ⟨s,hs⟩:=qab hlt2;obtain ⟨b,off,rfl,p,hC,hP,hki⟩:=(HG.out.ext (xbw hwr)).2.2 k2 s hs;have hP':qci (wr.alloc (.cells #[.int .i64 s.kind,.slice p.aa s.args.length p.ac,.bool s.ratio.neg,.slice p.na s.ratio.num.length p.nc,.slice p.da s.ratio.den.length p.dc] 91)) p s.args s.ratio:=hP.ext (qfo _ _);have C:=qr2 s steps.length p _ hP' (HQ.out.2 s (List.mem_of_getElem? hs)) (by constructor <;> omega) hki;obtain ⟨c0,c1,c2,c3,c4⟩:=hC;have hes:=qig (n:=steps.length) hs;rw [HE.out] at hes;unfold Fct.val at C;revert C hes;generalize qb2 s steps.length=ev;intro C hes;replace C:=Hd C;have HES:=Hd hes;have hw1:=hwr.alloc hwr.size (.cells #[.int .i64 s.kind,.slice p.aa s.args.length p.ac,.bool s.ratio.neg,.slice p.na s.ratio.num.length p.nc,.slice p.da s.ratio.den.length p.dc] 91)
      have hz1:=HZR.out.alloc (.cells #[.int .i64 s.kind,.slice p.aa s.args.length p.ac,.bool s.ratio.neg,.slice p.na s.ratio.num.length p.nc,.slice p.da s.ratio.den.length p.dc] 91);clear hes hs hP hP' hki;by_cases hev:ev=0
      ·
       have hb:(ev != 0)=false:=by simpa using hev
       have HE2:=HES.out;rw [if_neg (by simpa using hev)] at HE2;replace HE2:=Hd HE2;clear hev HES HE;go_wp2_with fail;refine C.out.mono ?_;rintro e w2 ⟨rfl,hb2⟩;have hw2:=bth hw1 hb2;have hz2:=hz1.below' hb2;clear hb2 C;go_wp2;go_roundg (gk-1)
       case rel=>exact ⟨k2+1,by have:=HKG.out;omega,by go_num,hw2,hz2,HE2.out.symm⟩
       case measure=>have:=HKG.out;omega
      ·
       have hb:(ev != 0)=true:=by simpa using hev
       have hr:res=ev:=by
        have h3:=HES.out;rw [if_pos hev] at h3;rw [<- h3];exact HR2.out.symm
       subst hr;clear hev HES HE HR2;go_wp2_with fail;refine C.out.mono ?_;rintro e w2 ⟨rfl,hb2⟩;have hw2:=bth hw1 hb2;clear hb2 C;go_wp2;go_ret;exact ⟨rfl,hw2⟩
     ·
      have hr:res=0:=by
       have h3:=HE.out;rw [List.drop_eq_nil_of_le oo] at h3;rw [<- HR2.out,<- h3];rfl
      subst hr;go_wp2;go_ret;exact ⟨rfl,hwr⟩
def qnu (X:Nat->Prop) (x:Frm) (e:Ending) (w':World):Prop:=∃ (hs:List (VQ × Vec)) (ra va:Option Addr) (rc vc B:Nat),e=.returned (.tuple #[.agg #[.slice ra hs.length rc,.slice va x.vars.length vc],.int .i64 0])/\hs.map Prod.snd=x.coords/\OwnCo B w' ra rc hs/\OwnVr B w' va vc x.vars/\AllV X w' hs
theorem qnv {a:Option Addr} {n c k:Nat} (h:∀ g:Addr,a=some g->g.block≠k):some k≠Value.ownBlock (.slice a n c):=fun e=>by
 cases a with
 | none=>simp [Value.ownBlock] at e
 | some p=>simp [Value.ownBlock] at e;exact h p rfl e.symm
def Cl3 (p q r:Addr) (u v x:Value) (W:World):Prop:=W.cell? p=some u/\W.cell? q=some v/\W.cell? r=some x
theorem Cl3.alloc {p q r:Addr} {u v x:Value} {W:World} (h:Cl3 p q r u v x W) {o:Obj}:Cl3 p q r u v x (W.alloc o) :=
 ⟨(qfo W o) _ _ h.1,(qfo W o) _ _ h.2.1,(qfo W o) _ _ h.2.2⟩
theorem zz60 {P:Prop} (h:P:=by
 rw [if_pos hb1] at hst2;subst hst2;clear hB4 hV4;obtain ⟨y0,y1⟩:=cq2 hz4;obtain ⟨f0,f1⟩:=fq2 hz4;go_wp2;refine qaa (fun W=>Blk W g2 37 #[.slice none 0 0,.slice none 0 0]/\Below w.heap.size w W) ⟨bk,zg⟩ ?_;rintro wF ⟨hF4,hwF⟩;obtain ⟨e0,e1⟩:=cq2 hF4;refine bodyPost_ret (v:=.tuple #[.agg #[.slice none 0 0,.slice none 0 0],.int .i64 4]) (by simp [results,Tryz.results35,go_sem,e0,e1]) rfl ?_;exact ⟨hwF,rfl⟩
 ):P:=h
theorem qwe (X:Nat->Prop) (f:Fig) (sa:Option Addr) (sc:Nat) (ga:Option Addr) (gc:Nat) (W0 w:World) (h:FigR W0 sa sc ga gc f) (hW0:Below W0.heap.size W0 w) (hq:f.few) (he:f.err=0) (hX:∀ b,X b->W0.heap.size<=b/\b<w.heap.size) (hr:∀ s∈f.steps,s.kind=2->s.ratio.short=true) :
  Calls Tryz.prog 35 #[f.val sa sc ga gc] w fun e w'=>Below w.heap.size w w'/\match qbc ⟨[],[],0⟩ 0 f.steps with
   | some x=>qnu X x e w'
   | none=>e=.returned (.tuple #[.agg #[.slice none 0 0,.slice none 0 0],.int .i64 4]):=by
 obtain ⟨hl,hS⟩:=qcw he;have C:=fun W (hW:bw w W)=>qlk f sa sc ga gc W ⟨h.1.ext (xbw (bth hW0 hW)),h.2.ext (xbw (bth hW0 hW))⟩ hq
 rw [he] at C;unfold Fig.val at C ⊢;have HS:=Hd h.1;replace hS:=Hd hS;replace C:=Hd C;have HX:=Hd hX;have HW:=Hd hW0;replace hr:=Hd hr;clear h hq he hX hW0;obtain ⟨res,hres⟩:∃ res,qbc ⟨[],[],0⟩ 0 f.steps=res:=⟨_,rfl⟩
 rw [hres];replace hres:=Hd hres;obtain ⟨steps,goals⟩:=f;dsimp only at HS hS C hl hr hres ⊢;go_enter Tryz.func35,Tryz.ntmps35;go_wp2_with fail;refine qae (fun W=>Blk W w.heap.size 25 #[.slice sa steps.length sc,.slice ga goals.length gc]/\Blk W (w.heap.size+1) 37 #[.slice none 0 0,.slice none 0 0]/\Below w.heap.size w W) ⟨bk,bk,zg⟩ ?_;rintro w0 ⟨hF,hz,hw0⟩;refine (C.out w0 hw0).mono ?_;rintro e w1 ⟨rfl,hb1⟩;have hw1:=bth hw0 hb1;replace hF:=hF.below' hb1;replace hz:=hz.below' hb1;obtain ⟨z0,z1⟩:=cq2 hF;have hzl:=hz.lt;have hfl:=hF.lt;clear hw0 hb1;go_wp2
 refine qaa (fun W=>Blk W w.heap.size 25 #[.slice sa steps.length sc,.slice ga goals.length gc]/\Blk W (w.heap.size+1) 37 #[.slice none 0 0,.slice none 0 0]/\Blk W w1.heap.size 133 #[.slice none 0 0,.slice none 0 0,.int .i64 0]/\Below w.heap.size w W) ⟨bk,bk,bk,zg⟩ ?_;rintro w2 ⟨hF2,hz2,hB2,hw2⟩;obtain ⟨gB,hgB⟩:∃ g,g=w1.heap.size:=⟨_,rfl⟩
 obtain ⟨g2,hg2⟩:∃ g,g=w.heap.size+1:=⟨_,rfl⟩
 have hwg:w.heap.size+1<w1.heap.size:=hzl;rw [<- hgB] at hB2 ⊢;rw [<- hg2] at hz2 ⊢;have hgw:w.heap.size<=g2:=oo
 have hgg:g2<gB:=oo
 have hgl:=hz2.lt;replace hgB:=Hd hgB;replace hg2:=Hd hg2;clear hF hz z0 z1 hzl hfl hwg hw1
 go_loopg [6,7,8,20] steps.length (fun m _ _ _ q wr=>∃ (k:Nat) (x:Frm) (hs:List (VQ × Vec)) (ra va:Option Addr) (rc vc D M:Nat),Hid (k+m=steps.length)/\q=.int .i64 k/\Below w.heap.size w wr/\Blk wr g2 37 #[.slice none 0 0,.slice none 0 0]/\Hid (Bst (Xg X g2) wr gB x hs ra rc va vc)/\Hid (FrmOk k D M x)/\Hid (qbc x k (steps.drop k)=res))
 case atStart=>exact ⟨0,⟨[],[],0⟩,[],none,none,0,0,1,1,by show _=_;omega,rfl,hw2,hz2,⟨rfl,hB2,Own.nil,Own.nil,fun z hz=>by cases hz⟩,by simp [FrmOk,Hid],hres.out⟩
 case round =>
  obtain ⟨k,x,hs,ra,va,rc,vc,D,M,hm,rfl,hwr,hzr,hB,hok,hst⟩:=hrel;by_cases hlt:k<steps.length
  ·
   obtain ⟨s,hs_⟩:=qab hlt;have hsi:=hS.out k s hs_;have hsr:=hr.out s (List.mem_of_getElem? hs_);obtain ⟨b,o,rfl,p,hC,hP,hin,hsz⟩:=HS.out.2.2 k s hs_;have hl0:=HS.out.len;have hwr0:=bth HW.out hwr;obtain ⟨c0,c1,c2,c3,c4,c5⟩:=hC;have d0:=held c0 wr hwr0;have d1:=held c1 wr hwr0;have d2:=held c2 wr hwr0;have d3:=held c3 wr hwr0;have d4:=held c4 wr hwr0;have d5:=held c5 wr hwr0;replace hsi:=Hd hsi;replace hsr:=Hd hsr;replace hP:=Hd hP;replace hin:=Hd hin;replace hs_:=Hd hs_;clear c0 c1 c2 c3 c4 c5;go_wp2_with fail;refine qae (fun W=>Below wr.heap.size wr W) (by go_grown) ?_;intro w3 hb3;have hgl3:g2<w3.heap.size:=ltl hzr.lt hb3.size;have hwW:=bth hwr0 hb3;have hBW:=hB.out.call hb3;have hge:=hBW.ge;have hYge:∀ b,Yz (Xg X g2) gB ra va b->W0.heap.size<=b:=fun b hb=>by
    have:=HW.out.size;rcases hb with hb | hb | rfl
    · have:=hge b hb;omega
    · exact (HX.out b hb).1
    · omega
   have hI:Rd (Yz (Xg X g2) gB ra va) w3 fun V=>IntsR V p.aa p.ac s.args:=(Rd.arg (w:=W0) (fun V e=>hP.out.1.ext e) hYge).call hwW
   have hx:s.kind=2->Rd (Yz (Xg X g2) gB ra va) w3 fun V=>QAc V ⟨s.ratio.neg,s.ratio.num.length,p.na,p.nc,s.ratio.den.length,p.da,p.dc⟩ s.ratio.q:=fun hk=>(Rd.arg (w:=W0) (fun V e=>(RtZ.sk (r:=s.ratio) ⟨rfl,rfl,rfl,(hP.out.2.1).ext e,(hP.out.2.2).ext e⟩ (hsr.out hk)).1) hYge).call hwW
   have hqb:s.kind=2->s.ratio.q.num.natAbs<=2 ^ 32/\s.ratio.q.den<=2 ^ 32:=fun hk=>by
    have h2:=(RtZ.sk (show RtZ W0 s.ratio ⟨s.ratio.neg,s.ratio.num.length,p.na,p.nc,s.ratio.den.length,p.da,p.dc⟩ from ⟨rfl,rfl,rfl,hP.out.2.1,hP.out.2.2⟩) (hsr.out hk)).2;have e1:=qbs s.ratio.q;have e2:=qbq s.ratio.q;exact ⟨Nat.le_of_lt (ltl (qa3 _) (Nat.le_trans (Nat.pow_le_pow_right dd (Nat.le_trans e1 h2)) dd)),Nat.le_of_lt (ltl (qa3 _) (Nat.le_trans (Nat.pow_le_pow_right dd (Nat.le_trans e2 h2)) dd))⟩
   have hX3:∀ b,Xg X g2 b->b<w3.heap.size:=fun b hb=>hb.elim (fun h=>by have:=(HX.out b h).2;have:=hwr.size;have:=hb3.size;omega) fun e=>by rw [e];exact hgl3
   have CS:=qy9 (Xg X g2) gB x hs ra va rc vc s.point p.aa p.ac ⟨s.ratio.neg,s.ratio.num.length,p.na,p.nc,s.ratio.den.length,p.da,p.dc⟩ k D M w3 hBW hX3 hok.out oo s.kind hsi.out.1 hsi.out.2.1 s.args s.ratio.q hsi.out.2.2.1 hsi.out.2.2.2.1 hI hx hqb;refine CS.mono ?_;clear CS;rintro e w4 ⟨va4,vc4,t,rfl,hB4,hV4,hf4,hv4⟩;have hdr:steps.drop k=s :: steps.drop (k+1):=by
    rw [List.drop_eq_getElem_cons hlt];congr 1;have:=hs_.out;rw [List.getElem?_eq_getElem hlt] at this;exact Option.some.inj this
   have hst2:=hst.out;rw [hdr,qbc] at hst2;have hnx:=FrmOk.next hok.out s.kind s.args s.ratio.q hqb;revert hB4 hV4 hst2 hnx;generalize nextF x s.kind s.args s.ratio.q k=P;intro hB4 hV4 hst2 hnx;have hz4:Blk w4 g2 37 #[.slice none 0 0,.slice none 0 0]:=(hzr.below' hb3).fr hf4 fun h=>by have:=hge _ h;omega
   have hgBw:w.heap.size<=gB:=oo
   have hb4:Below w.heap.size w w4:=Go.Proofs.YtmdlbpibipnapaaGreat.Below.fr (bth hwr hb3) hf4 (fun b hb=>by have:=hge b hb;omega) (by have:=hwr.size;have:=hb3.size;omega);have q1:=hB4.blk.cell 1;have q0:=hB4.blk.cell 0;have qf0:=hB4.blk.frozen 0;have ql:=hB4.blk.lt;have zl4:=hz4.lt;by_cases c1:64<P.1.length
   ·
    have d1:decide (64<P.1.length)=true:=decide_eq_true c1;have hb1:bigF P=true:=by unfold bigF;simp [c1]
    exact zz60
   ·
    have d1:decide (64<P.1.length)=false:=decide_eq_false c1;by_cases c2:4000<P.2.1.length
    ·
     have d2:decide (4000<P.2.1.length)=true:=decide_eq_true c2;have hb1:bigF P=true:=by unfold bigF;simp [c2]
     exact zz60
    ·
     have d2:decide (4000<P.2.1.length)=false:=decide_eq_false c2;by_cases c3:4000<P.2.2.length
     ·
      have d3:decide (4000<P.2.2.length)=true:=decide_eq_true c3;have hb1:bigF P=true:=by unfold bigF;simp [c3]
      exact zz60
     ·
      have d3:decide (4000<P.2.2.length)=false:=decide_eq_false c3;have hb1:¬ bigF P=true:=by unfold bigF;simp;omega
      rw [if_neg hb1] at hst2;obtain ⟨D',M',hok2⟩:=hnx (by simpa using hb1);replace hst2:=Hd hst2;replace hok2:=Hd hok2;have hlh:hs.length<=100:=by
       have e1:=congrArg List.length hB4.eq;have e2:=hok.out.1;simp at e1
       omega
      have hB4h:=Hd hB4;have hV4h:=Hd hV4;have hf4h:=Hd hf4;have hzh:=Hd hz4;have hlhh:=Hd hlh;have hgeh:=Hd hge;have hvh:=Hd hv4;clear hB4 hV4 hnx hf4 hz4 hlh hb1 hge hv4;go_wp2;refine qaa (fun W=>Blk W w4.heap.size 135 #[.slice t.a P.2.1.length t.c,.slice t.b P.2.2.length t.d]/\Below w4.heap.size w4 W) ⟨bk,zg⟩ ?_;rintro w5 ⟨hv5,hb5⟩;obtain ⟨gv,hgv⟩:∃ g,g=w4.heap.size:=⟨_,rfl⟩
      rw [<- hgv] at hv5 ⊢;have hl5:=hv5.lt;have hB5:=hB4h.out.call hb5;have hV5:=hV4h.out.call hb5;have nv:¬ Yb gB ra va4 gv:=fun h=>by have:=hB4h.out.lt _ h;omega
      replace hgv:=Hd hgv;have y0:∀ W,Cl3 ⟨gB,0,none⟩ ⟨gv,0,none⟩ ⟨gv,1,none⟩ (.slice ra hs.length rc) (.slice t.a P.2.1.length t.c) (.slice t.b P.2.2.length t.d) W->W.cell? ⟨gB,0,none⟩=some (.slice ra hs.length rc):=fun W h=>h.1
      have y1:∀ W,Cl3 ⟨gB,0,none⟩ ⟨gv,0,none⟩ ⟨gv,1,none⟩ (.slice ra hs.length rc) (.slice t.a P.2.1.length t.c) (.slice t.b P.2.2.length t.d) W->W.cell? ⟨gv,0,none⟩=some (.slice t.a P.2.1.length t.c):=fun W h=>h.2.1
      have y2:∀ W,Cl3 ⟨gB,0,none⟩ ⟨gv,0,none⟩ ⟨gv,1,none⟩ (.slice ra hs.length rc) (.slice t.a P.2.1.length t.c) (.slice t.b P.2.2.length t.d) W->W.cell? ⟨gv,1,none⟩=some (.slice t.b P.2.2.length t.d):=fun W h=>h.2.2
      have s0:Cl3 ⟨gB,0,none⟩ ⟨gv,0,none⟩ ⟨gv,1,none⟩ (.slice ra hs.length rc) (.slice t.a P.2.1.length t.c) (.slice t.b P.2.2.length t.d) w5.drew:=⟨hB5.blk.cell 0,hv5.cell 0,hv5.cell 1⟩
      have hv5h:=Hd hv5;have hB5h:=Hd hB5;have hV5h:=Hd hV5;have nvh:=Hd nv;clear hv5 hB5 hV5 nv q0 q1 qf0 ql zl4;refine wrx (S:=Cl3 ⟨gB,0,none⟩ ⟨gv,0,none⟩ ⟨gv,1,none⟩ (.slice ra hs.length rc) (.slice t.a P.2.1.length t.c) (.slice t.b P.2.2.length t.d)) [(0,.q),(1,.q),(2,.q),(3,.q),(4,.q),(5,.q),(6,.q),(7,.q),(8,.q),(9,.q),(10,.q),(11,.l),(12,.l),(13,.p),(14,.p),(15,.p),(16,.t)] (s0) ?_
      iterate 11 (refine qaf rfl rfl fun K hK=>xq ?_;go_simp;refine hK _ _ ?_;clear hK K)
      refine vl fun K hK=>?_
      go_simp;refine hK.out _ _ (s0.alloc) (fun _=>?_);clear hK K;have hal:Below w5.heap.size w5 (w5.alloc (.cells #[.slice t.a P.2.1.length t.c,.slice t.b P.2.2.length t.d] 120)).drew:=(brf.alloc (nlr _) _).drew;have hB6:=hB5h.out.call hal;have hV6:=hV5h.out.call hal;have hrow:Blk (w5.alloc (.cells #[.slice t.a P.2.1.length t.c,.slice t.b P.2.2.length t.d] 120)).drew w5.heap.size 120 #[.slice t.a P.2.1.length t.c,.slice t.b P.2.2.length t.d]:=(Blk.new w5 _ _).drew;have sA:Cl3 ⟨gB,0,none⟩ ⟨gv,0,none⟩ ⟨gv,1,none⟩ (.slice ra hs.length rc) (.slice t.a P.2.1.length t.c) (.slice t.b P.2.2.length t.d) (w5.alloc (.cells #[.slice t.a P.2.1.length t.c,.slice t.b P.2.2.length t.d] 120)).drew:=s0.alloc;have hz6:Blk (w5.alloc (.cells #[.slice t.a P.2.1.length t.c,.slice t.b P.2.2.length t.d] 120)).drew g2 37 #[.slice none 0 0,.slice none 0 0]:=(hzh.out.below' hb5).below' hal
      have hb6:Below w.heap.size w (w5.alloc (.cells #[.slice t.a P.2.1.length t.c,.slice t.b P.2.2.length t.d] 120)).drew:=bth (bth hb4 hb5) hal;replace hB6:=Hd hB6;replace hV6:=Hd hV6;replace hrow:=Hd hrow;replace hz6:=Hd hz6;replace hb6:=Hd hb6;clear hal;refine vl fun K hK=>?_
      refine qom (B:=gB+1) (.tmp 54) (.tmp 60) 34 rfl Tryz.underlying34 ra rc rfl hB6.out.co (t,P.2) w5.heap.size 1 rfl (fun j u hu=>by have e:=hrow.out.cell j;rw [e];simpa [coC] using hu) (hs++[(t,P.2)]) rfl (by have:=hlhh.out;simp;omega) (by have:=hB6.out.blk.lt;omega) ?_;intro ra2 rc2 w6 ho6 hg6 ha6;have hp6:=hB6.out.push (t,P.2) hV6.out ho6 hg6 ha6;have s6:Cl3 ⟨gB,0,none⟩ ⟨gv,0,none⟩ ⟨gv,1,none⟩ (.slice ra hs.length rc) (.slice t.a P.2.1.length t.c) (.slice t.b P.2.2.length t.d) w6 :=
       ⟨hg6.cell sA.1 (qnv fun g hg=>by have:=(hB6.out.co.lt hg).1;dsimp only;omega),hg6.cell sA.2.1 (qnv fun g hg e=>nvh.out (.inr (.inl ⟨g,hg,e.symm⟩))),hg6.cell sA.2.2 (qnv fun g hg e=>nvh.out (.inr (.inl ⟨g,hg,e.symm⟩)))⟩
      have hzB:=hB6.out.blk.under hB6.out.co (Nat.lt_succ_self gB) hg6;have u0:=hzB.cell 0;have uf:=hzB.frozen 0;have ul:=hzB.lt;replace hp6:=Hd hp6;go_simp;refine hK.out _ _ s6 (fun _=>?_);clear hK K s6 sA s0 ho6 hg6 ha6 hzB
      iterate 3 (refine qaj rfl rfl fun K hK=>xp ?_;go_simp;refine hK _ _ ?_;clear hK K)
      refine vt fun K hK=>?_
      go_simp;refine hK.out _ _ ?_;clear hK K;refine qad ?_;clear u0 uf ul y0 y1 y2 d0 d1 d2 d3 d4 d5;go_wp2;have hYg:∀ b,Yb gB ra va4 b->gB<=b:=hB6.out.ge;have hgq:g2<gB:=hgg;have hwB:=hgBw;have hm2:=hm.out;go_roundg (gk-1)
      case rel =>
       have hF:=hp6.out.2.1;have hsz:=hb6.out.size;exact ⟨k+1,putF x s.kind P,hs++[(t,P.2)],ra2,va4,rc2,vc4,D',M',by show _=_;omega,by go_num,Go.Proofs.YtmdlbpibipnapaaGreat.Below.fr hb6.out hF (fun b hb=>by have:=hYg b hb;omega) oo,hz6.out.fr hF (fun h=>by have:=hYg _ h;omega),hp6.out.1,hok2.out,hst2.out⟩
      case measure=>have:=hm.out;omega
  ·
   have hst2:=hst.out;rw [List.drop_eq_nil_of_le oo,qbc] at hst2;subst hst2;have hg1:g2<gB+1:=oo
   have hb:=hB.out;obtain ⟨q0,q1⟩:=cq2 hb.blk;have ql:=hb.blk.lt;obtain ⟨y0,y1⟩:=cq2 hzr;obtain ⟨f0,f1⟩:=fq2 hzr;have zl:=hzr.lt;replace hb:=Hd hb;go_wp2;refine qaa (fun W=>Blk W g2 37 #[.slice ra hs.length rc,.slice va x.vars.length vc]/\Below w.heap.size w W/\OwnCo (gB+1) W ra rc hs/\OwnVr (gB+1) W va vc x.vars/\AllV X W hs) ⟨bk,zg,(hb.out.co.far hg1 _).far hg1 _,(hb.out.vr.far hg1 _).far hg1 _,fun z hz=>?_⟩ ?_
   · exact (qa8 (qa8 ((hb.out.all z hz).less fun b hb=>.inr hb) (.inr rfl)) (.inr rfl)).less fun b hb=>.inl hb
   rintro wF ⟨hF4,hwF,ho1,ho2,hA⟩;obtain ⟨e0,e1⟩:=cq2 hF4;refine bodyPost_ret (v:=.tuple #[.agg #[.slice ra hs.length rc,.slice va x.vars.length vc],.int .i64 0]) (by simp [results,Tryz.results35,go_sem,e0,e1]) rfl ?_;exact ⟨hwF,hs,ra,va,rc,vc,gB+1,rfl,hb.out.eq,ho1,ho2,hA⟩
end Go.Proofs.YtmdlbpibipnapaaGreat
