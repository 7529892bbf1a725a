/- Walk: the first error of a figure, by the program. -/
import Derived.Test.YtfaalkneigpcnaaGreatDoorIt18
import Derived.Deep.LoopGhost
set_option linter.all false
set_option maxRecDepth 100000
set_option maxHeartbeats 4000000
namespace Go.Proofs.YtfaalkneigpcnaaGreatDoor
open Go.RowKit
theorem qjq {s:ByteArray} {k:Nat} {x:ByteArray} (h:qba[k]? = some x):((qba.take (k+1)).any fun k=>decide (s=k))=(((qba.take k).any fun k=>decide (s=k))||decide (s=x)):=by
 rw [qbh h,List.any_append];simp
theorem qls {s x:ByteArray} {k:Nat} (h:qba[k]? = some x) (e:s=x):keyB s=true:=by
 unfold keyB;rw [List.any_eq_true];exact ⟨x,List.mem_of_getElem? h,by simp [e]⟩
theorem qk4 (s:ByteArray) (w:World) (hs:s.size<=9223372036854775807) :
  Calls Tryz.prog 152 #[.string s] w fun e w'=>e=.returned (.bool (qbn s))/\Below w.heap.size w w':=by
 obtain ⟨r,hr⟩:∃ r,qbn s=r:=⟨_,rfl⟩
 rw [hr];have HR:=Hd hr;clear hr;by_cases h0:s.size=0
 ·
  have e:=qe5.1 h0;subst e;have hr:r=false:=by rw [<- HR.out];exact qgb
  subst hr;clear h0 hs;go_enter Tryz.func152,Tryz.ntmps152;go_wp2;go_ret;exact ⟨rfl,Below.refl _ _⟩
 ·
  have hse:s.toList.isEmpty=false:=by rw [qb5];simp;exact fun e=>h0 (qe5.2 e)
  have hse2:s.toList≠[]:=by intro e;rw [e] at hse;cases hse
  have H0:=Hd h0;clear h0;by_cases h20:s.size<=20
  ·
   have hp:0<s.size:=by have:=H0.out;omega
   have CL:=qgu ((s[0]'hp).toNat:Nat) w (by omega) (by have:=(s[0]'hp).toNat_lt;omega);rw [<- qil hp] at CL;obtain ⟨b,hb⟩:∃ b,headB s=b:=⟨_,rfl⟩
   rw [hb] at CL;replace CL:=Hd CL;have HB:=Hd hb;clear hb
   cases b
   ·
    have hr:r=false:=by rw [<- HR.out];simp [qbn,HB.out]
    subst hr;go_enter Tryz.func152,Tryz.ntmps152;go_wp2_with (go_at_call 218;refine CL.out.mono ?_;rintro e w' ⟨rfl,rfl⟩);go_ret;exact ⟨rfl,Below.refl _ _⟩
   ·
    go_enter Tryz.func152,Tryz.ntmps152;go_wp2_with (go_at_call 218;refine CL.out.mono ?_;rintro e w' ⟨rfl,rfl⟩);have hi0:=World.iter_heap w s 0;have hb0:Below w.heap.size w (w.iter s 0):=(Below.refl _ w).alloc (nlr _) _;revert hi0 hb0;generalize w.iter s 0=w0;intro hi0 hb0;clear CL
    go_loopg [3] s.size (fun g _ wr=>∃ pos:Nat,pos+g=s.size/\Itr wr w.heap.size s pos/\Below w.heap.size w wr/\(s.data.toList.take pos).all wordB=true)
    case atStart=>exact ⟨0,by omega,hi0,hb0,rfl⟩
    case round =>
     obtain ⟨pos,hpos,hi,hb,hall⟩:=hrel;clear hi0 hb0;have HA:=Hd hall;have HP:=Hd hpos;have hsz:=hi.lt;clear hall;by_cases hlt:pos<s.size
     ·
      obtain ⟨rr,n,hnx,hn1⟩:=ql4 (P:=Tryz.prog) wr w.heap.size s pos hi hlt;have CL:=fun W=>qgu ((s[pos]'hlt).toNat:Nat) W (by omega) (by have:=(s[pos]'hlt).toNat_lt;omega)
      have CD:=fun W=>qm7 ((s[pos]'hlt).toNat:Nat) W (by omega) (by have:=(s[pos]'hlt).toNat_lt;omega)
      have hw:wordB (s[pos]'hlt)=(letB ((s[pos]'hlt).toNat:Nat)||digB ((s[pos]'hlt).toNat:Nat)):=rfl;have hasc:wordB (s[pos]'hlt)=true->(s[pos]'hlt).toNat<128:=by
       intro h;simp only [wordB,letB,digB,Bool.or_eq_true,decide_eq_true_eq] at h
       omega
      have hgl:=qh6 hlt;have hnot:wordB (s[pos]'hlt)=false->qbn s=false:=by
       intro h;have:s.data.toList.all wordB=false:=by
        rw [List.all_eq_false];exact ⟨_,List.mem_of_getElem? hgl,by simp [h]⟩
       simp [qbn,this]
      obtain ⟨bl,hbl⟩:∃ b,letB ((s[pos]'hlt).toNat:Nat)=b:=⟨_,rfl⟩
      obtain ⟨bd,hbd⟩:∃ b,digB ((s[pos]'hlt).toNat:Nat)=b:=⟨_,rfl⟩
      rw [hbl,hbd] at hw;rw [hbl] at CL;rw [hbd] at CD;have HW:=Hd hw;have HN1:=Hd hn1;have HASC:=Hd hasc;have HNOT:=Hd hnot;have HGL:=Hd hgl;replace CL:=Hd CL;replace CD:=Hd CD;have hnb:Below w.heap.size w (qce wr w.heap.size s (pos+n)):=qlg hb (nlr _) _ _;have hni:Itr (qce wr w.heap.size s (pos+n)) w.heap.size s (pos+n):=hi.set _;clear hw hn1 hasc hnot hgl hbl hbd hi hb hpos;revert hnb hni hnx;generalize qce wr w.heap.size s (pos+n)=w2;intro hnx hnb hni
      cases bl
      ·
       cases bd
       ·
        have hr:r=false:=by rw [<- HR.out];exact HNOT.out HW.out
        subst hr;go_wp2_with (first | (go_at_call 218;refine (CL.out _).mono ?_;rintro e w' ⟨rfl,rfl⟩) | (go_at_call 219;refine (CD.out _).mono ?_;rintro e w' ⟨rfl,rfl⟩));go_ret;exact ⟨rfl,hnb⟩
       ·
        go_wp2_with (first | (go_at_call 218;refine (CL.out _).mono ?_;rintro e w' ⟨rfl,rfl⟩) | (go_at_call 219;refine (CD.out _).mono ?_;rintro e w' ⟨rfl,rfl⟩));have e1:=HN1.out (HASC.out HW.out);subst e1;go_roundg (gk-1)
        case rel=>exact ⟨pos+1,by have:=HP.out;omega,hni,hnb,by rw [qbh HGL.out,List.all_append,HA.out];simp [HW.out]⟩
        case measure=>have:=HP.out;omega
      ·
       go_wp2_with (first | (go_at_call 218;refine (CL.out _).mono ?_;rintro e w' ⟨rfl,rfl⟩) | (go_at_call 219;refine (CD.out _).mono ?_;rintro e w' ⟨rfl,rfl⟩));have hwt:wordB (s[pos]'hlt)=true:=by rw [HW.out];rfl
       have e1:=HN1.out (HASC.out hwt);subst e1;go_roundg (gk-1)
       case rel=>exact ⟨pos+1,by have:=HP.out;omega,hni,hnb,by rw [qbh HGL.out,List.all_append,HA.out];simp [hwt]⟩
       case measure=>have:=HP.out;omega
     ·
      obtain ⟨wo,rfl⟩:∃ wo:World,wo=wr:=⟨_,rfl⟩
      have hnx:=fun ty=>qkn (P:=Tryz.prog) wo w.heap.size s pos ty hi hlt
      have hall:s.data.toList.all wordB=true:=by
       have:=HA.out
       rwa [List.take_of_length_le (by simp;omega)] at this
      have HALL:=Hd hall;have HK:r = !keyB s:=by rw [<- HR.out];simp [qbn,HB.out,hall,h20]
      replace HK:=Hd HK;have hk0:=Blk.new wo 9 (qba.map Value.string).toArray;have hkb:Below w.heap.size w (wo.alloc (.cells (qba.map Value.string).toArray 9)):=hb.alloc hb.size _;have CK:=qjj wo;replace CK:=Hd CK;clear hall hi hpos HA;go_wp2_with (go_at_call 220;refine CK.out.mono ?_;rintro e w' ⟨rfl,rfl⟩);revert hk0 hkb;generalize wo.alloc (.cells (qba.map Value.string).toArray 9)=w3;intro hk0 hkb;clear CK
      go_loopg [5,38] 29 (fun g _ i wv=>∃ k:Nat,k+g=29/\i=.int .i64 k/\Blk wv wo.heap.size 9 (qba.map Value.string).toArray/\Below w.heap.size w wv/\((qba.take k).any fun k=>decide (s=k))=false)
      case atStart=>exact ⟨0,by omega,rfl,hk0,hkb,rfl⟩
      case round =>
       obtain ⟨k,hkg,rfl,hk,hbv,hno⟩:=hrel;have HNO:=Hd hno;have HKG:=Hd hkg;have HKB:=Hd hk;have hsz3:=hk.lt;clear hk0 hkb hno hkg hk;by_cases hlt2:k<29
       ·
        obtain ⟨x,hx⟩:=qac (xs:=qba) (k:=k) (by rw [qdr];exact hlt2);have hc:wr.cell? ⟨wo.heap.size,k,none⟩=some (.string x):=by rw [HKB.out.cell];simp [hx]
        have HX:=Hd hx;clear hx;by_cases he:s=x
        ·
         have hbe:(s.toList==x.toList)=true:=by rw [qdv];simpa using he
         have HE:=Hd he;clear he;go_wp2;go_ret;exact ⟨qbf (by rw [HK.out,qls HX.out HE.out];rfl),hbv⟩
        ·
         have hbe:(s.toList==x.toList)=false:=by rw [qdv];simpa using he
         have HE:=Hd he;clear he;go_wp2;go_roundg (gk-1)
         case rel=>exact ⟨k+1,by have:=HKG.out;omega,by go_num,HKB.out,hbv,by rw [qjq HX.out,HNO.out];simp [HE.out]⟩
         case measure=>have:=HKG.out;omega
       ·
        go_wp2;go_ret;refine ⟨qbf ?_,hbv⟩;have:=HNO.out;rw [List.take_of_length_le (by rw [qdr];omega)] at this;rw [HK.out,keyB,this];rfl
  ·
   have hr:r=false:=by rw [<- HR.out];simp [qbn];omega
   subst hr;go_enter Tryz.func152,Tryz.ntmps152;go_wp2;go_ret;exact ⟨rfl,Below.refl _ _⟩
def kindB (c:Int):Int:=if c=32\/c=9\/c=13\/c=10 then 1 else if letB c=true then 2 else if digB c=true then 3 else if c=40\/c=41\/c=44\/c=59\/c=47\/c=45 then 4 else if c=58 then 5 else if c=35 then 6 else 0
theorem qjx (c:Int):(kindB c=2)↔letB c=true:=by
 unfold kindB letB
 constructor
 ·
  intro h
  split at h
  · omega
  split at h
  · assumption
  split at h
  · omega
  split at h
  · omega
  split at h
  · omega
  split at h <;> omega
 ·
  intro h;simp only [decide_eq_true_eq] at h;rw [if_neg (by omega),if_pos (by simpa using h)]
theorem qq0 (c:Int):(kindB c=3)↔digB c=true:=by
 unfold kindB letB digB
 constructor
 ·
  intro h
  split at h
  · omega
  split at h
  · omega
  split at h
  · assumption
  split at h
  · omega
  split at h
  · omega
  split at h <;> omega
 ·
  intro h;simp only [decide_eq_true_eq] at h;rw [if_neg (by omega),if_neg (by simp only [decide_eq_true_eq];omega),if_pos (by simpa using h)]
theorem qcv {a b:Int} (h:¬ a=b):(a==b)=false:=by simpa using h
theorem qh9 (c:Int) (w:World) (h0:0<=c) (h1:c<=255) :
  Calls Tryz.prog 224 #[.int .u8 c] w fun e w'=>e=.returned (.int .i64 (kindB c))/\w=w':=by
 by_cases hlit:c=32\/c=9\/c=13\/c=10\/c=40\/c=41\/c=44\/c=59\/c=47\/c=45\/c=58\/c=35
 ·
  clear h0 h1;rcases hlit with rfl | rfl | rfl | rfl | rfl | rfl | rfl | rfl | rfl | rfl | rfl | rfl
  all_goals
   go_enter Tryz.func224,Tryz.ntmps224;go_wp2;go_ret;exact ⟨qcc (by decide),rfl⟩
 ·
  have e1:=qcv (a:=c) (b:=32) (by omega);have e2:=qcv (a:=c) (b:=9) (by omega);have e3:=qcv (a:=c) (b:=13) (by omega);have e4:=qcv (a:=c) (b:=10) (by omega);have e5:=qcv (a:=c) (b:=40) (by omega);have e6:=qcv (a:=c) (b:=41) (by omega);have e7:=qcv (a:=c) (b:=44) (by omega);have e8:=qcv (a:=c) (b:=59) (by omega);have e9:=qcv (a:=c) (b:=47) (by omega);have e10:=qcv (a:=c) (b:=45) (by omega);have e11:=qcv (a:=c) (b:=58) (by omega);have e12:=qcv (a:=c) (b:=35) (by omega);obtain ⟨r,hr⟩:∃ r,kindB c=r:=⟨_,rfl⟩
  have hr2:=hr;unfold kindB letB digB at hr2;rw [hr];have HR:=Hd hr2;have HLIT:=Hd hlit;clear hr hr2 hlit;have hc:c<48\/(48<=c/\c<=57)\/(58<=c/\c<65)\/(65<=c/\c<=90)\/(91<=c/\c<97)\/(97<=c/\c<=122)\/122<c:=by omega
  rcases hc with hc | ⟨hc,hd⟩ | ⟨hc,hd⟩ | ⟨hc,hd⟩ | ⟨hc,hd⟩ | ⟨hc,hd⟩ | hc
  all_goals
   go_enter Tryz.func224,Tryz.ntmps224;go_wp2;go_ret;refine ⟨qcc ?_,rfl⟩;rw [<- HR.out];have hl:=HLIT.out;simp only [decide_eq_true_eq]
   repeat (first | rw [if_neg (by omega)] | rw [if_pos (by omega)])
def qbo (s:ByteArray) (k:Nat):Nat:=k+((s.data.toList.drop k).takeWhile wordB).length
theorem qnk {s:ByteArray} {k:Nat} (h:k<s.size) (hw:wordB (s[k]'h)=true):qbo s k=qbo s (k+1):=by
 have hg:=qh6 h;have hk:k<s.data.toList.length:=by simpa using h
 unfold qbo;rw [List.drop_eq_getElem_cons hk];have e:s.data.toList[k]=s[k]'h:=by rw [List.getElem?_eq_getElem hk] at hg;exact Option.some.inj hg
 rw [e,List.takeWhile_cons,if_pos hw,List.length_cons]
 omega
theorem qp4 {s:ByteArray} {k:Nat} (h:k<s.size) (hw:wordB (s[k]'h)=false):qbo s k=k:=by
 have hg:=qh6 h;have hk:k<s.data.toList.length:=by simpa using h
 unfold qbo;rw [List.drop_eq_getElem_cons hk];have e:s.data.toList[k]=s[k]'h:=by rw [List.getElem?_eq_getElem hk] at hg;exact Option.some.inj hg
 rw [e,List.takeWhile_cons,if_neg (by simp [hw])]
 rfl
theorem qnp {s:ByteArray} {k:Nat} (h:¬ k<s.size):qbo s k=k:=by
 unfold qbo;rw [List.drop_eq_nil_of_le (by simp;omega)]
 rfl
theorem qnq (s:ByteArray):qbo s 0=s.size↔s.data.toList.all wordB=true:=by
 unfold qbo;have hl:s.data.toList.length=s.size:=by simp
 rw [List.drop_zero,Nat.zero_add,<- hl];generalize s.data.toList=l
 induction l with
 | nil=>simp
 | cons x l ih =>
  rw [List.takeWhile_cons,List.all_cons]
  cases hw:wordB x
  · simp
  · simp [ih]
theorem qp0 (s:ByteArray) (k:Nat) (h:k<=s.size):qbo s k<=s.size:=by
 unfold qbo;have:=(List.takeWhile_prefix wordB (l:=s.data.toList.drop k)).length_le;have hl:s.data.toList.length=s.size:=by simp
 rw [List.length_drop,hl] at this
 omega
theorem qni (s:ByteArray) (k0:Nat) (w:World) (hs:s.size<=9223372036854775806) (hk0:k0<=s.size) :
  Calls Tryz.prog 225 #[.string s,.int .i64 k0,.bool true] w fun e w'=>e=.returned (.int .i64 (qbo s k0:Nat))/\w=w':=by
 obtain ⟨r,hr⟩:∃ r,qbo s k0=r:=⟨_,rfl⟩
 rw [hr];have HR:=Hd hr;clear hr;go_enter Tryz.func225,Tryz.ntmps225;go_wp2
 go_loop [1] (fun q=>∃ k:Nat,k<=s.size/\q=.int .i64 k/\Hid (qbo s k=r)) (fun q=>s.size-(intOf q).toNat)
 case atStart=>exact ⟨k0,hk0,rfl,HR.out⟩
 case round =>
  obtain ⟨k,hk,rfl,hw⟩:=hrel;by_cases hlt:k<s.size
  ·
   have C:=qh9 ((s[k]'hlt).toNat:Nat) w (by omega) (by have:=(s[k]'hlt).toNat_lt;omega);have h2:=qjx ((s[k]'hlt).toNat:Nat);have h3:=qq0 ((s[k]'hlt).toNat:Nat);have hwb:wordB (s[k]'hlt)=(letB ((s[k]'hlt).toNat:Nat)||digB ((s[k]'hlt).toNat:Nat)):=rfl;have hy:=fun h=>qnk hlt h
   have hn:=fun h=>qp4 hlt h
   revert C h2 h3;generalize kindB ((s[k]'hlt).toNat:Nat)=q;intro C h2 h3;replace C:=Hd C;by_cases hq3:q=3
   ·
    have e3:(q==3)=true:=by simpa using hq3
    have hnx:qbo s (k+1)=r:=by rw [<- hy (by rw [hwb,h3.1 hq3];simp)];exact hw.out
    have HNX:=Hd hnx;clear hq3 h2 h3 hwb hy hn hnx;go_wp2_with (go_at_call 224;refine C.out.mono ?_;rintro e w' ⟨rfl,rfl⟩)
    go_round
    case rel=>exact ⟨k+1,by omega,by go_num,HNX.out⟩
    case measure=>simp [intOf];omega
   ·
    have e3:(q==3)=false:=by simpa using hq3
    by_cases hq2:q=2
    ·
     have e2:(q==2)=true:=by simpa using hq2
     have hnx:qbo s (k+1)=r:=by rw [<- hy (by rw [hwb,h2.1 hq2];simp)];exact hw.out
     have HNX:=Hd hnx;clear hq3 hq2 h2 h3 hwb hy hn hnx;go_wp2_with (go_at_call 224;refine C.out.mono ?_;rintro e w' ⟨rfl,rfl⟩)
     go_round
     case rel=>exact ⟨k+1,by omega,by go_num,HNX.out⟩
     case measure=>simp [intOf];omega
    ·
     have e2:(q==2)=false:=by simpa using hq2
     have hfin:k=r:=by
      rw [<- hw.out,hn];rw [hwb];have n2:letB ((s[k]'hlt).toNat:Nat)=false:=by
       cases hb:letB ((s[k]'hlt).toNat:Nat)
       · rfl
       · exact absurd (h2.2 hb) hq2
      have n3:digB ((s[k]'hlt).toNat:Nat)=false:=by
       cases hb:digB ((s[k]'hlt).toNat:Nat)
       · rfl
       · exact absurd (h3.2 hb) hq3
      rw [n2,n3];rfl
     have HF:=Hd hfin;clear hq3 hq2 h2 h3 hwb hy hn hfin;go_wp2_with (go_at_call 224;refine C.out.mono ?_;rintro e w' ⟨rfl,rfl⟩);go_ret;exact ⟨qcc (by have:=HF.out;omega),rfl⟩
  ·
   have hfin:k=r:=by rw [<- hw.out,qnp hlt]
   have HF:=Hd hfin;clear hfin;go_wp2;go_ret;exact ⟨qcc (by have:=HF.out;omega),rfl⟩
theorem qpm (s:ByteArray) (w:World) (hs:s.size<=9223372036854775807) :
  Calls Tryz.prog 162 #[.string s] w fun e w'=>e=.returned (.bool (qbn s))/\Below w.heap.size w w':=by
 obtain ⟨r,hr⟩:∃ r,qbn s=r:=⟨_,rfl⟩
 rw [hr];have HR:=Hd hr;clear hr;by_cases h0:s.size=0
 ·
  have e:=qe5.1 h0;subst e;have hr:r=false:=by rw [<- HR.out];exact qgb
  subst hr;clear h0 hs;go_enter Tryz.func162,Tryz.ntmps162;go_wp2;go_ret;exact ⟨rfl,Below.refl _ _⟩
 ·
  have hse:s.toList.isEmpty=false:=by rw [qb5];simp;exact fun e=>h0 (qe5.2 e)
  have hse2:s.toList≠[]:=by intro e;rw [e] at hse;cases hse
  have H0:=Hd h0;clear h0;by_cases h20:s.size<=20
  ·
   have hp:0<s.size:=by have:=H0.out;omega
   have CK:=qh9 ((s[0]'hp).toNat:Nat) w (by omega) (by have:=(s[0]'hp).toNat_lt;omega);have h2:=qjx ((s[0]'hp).toNat:Nat);rw [<- qil hp] at h2;have CE:=qni s 0 w (by omega) (by omega);have hend:=qnq s;have hle:=qp0 s 0 (by omega);revert CK h2 CE hend hle;generalize kindB ((s[0]'hp).toNat:Nat)=q;generalize qbo s 0=en;intro CK h2 CE hend hle;replace CK:=Hd CK;replace CE:=Hd CE;have HEND:=Hd hend;by_cases hq:q=2
   ·
    have eq:(q != 2)=false:=by simpa using hq
    have hb:=h2.1 hq;have HB:=Hd hb;clear h2 hq hb hend;by_cases hlt:en<s.size
    ·
     have hall:s.data.toList.all wordB=false:=by
      cases h:s.data.toList.all wordB
      · rfl
      · have:=HEND.out.2 h;omega
     have hr:r=false:=by rw [<- HR.out];simp [qbn,hall]
     subst hr;clear hall;go_enter Tryz.func162,Tryz.ntmps162;go_wp2_with (first | (go_at_call 224;refine CK.out.mono ?_;rintro e w' ⟨rfl,rfl⟩) | (go_at_call 225;refine CE.out.mono ?_;rintro e w' ⟨rfl,rfl⟩));go_ret;exact ⟨rfl,Below.refl _ _⟩
    ·
     have hall:s.data.toList.all wordB=true:=HEND.out.1 (by omega);have HK:r = !keyB s:=by rw [<- HR.out];simp [qbn,HB.out,hall,h20]
     replace HK:=Hd HK;have CW:=qli w;replace CW:=Hd CW;have hk0:=Blk.new w 9 (qba.map Value.string).toArray;have hkb:Below w.heap.size w (w.alloc (.cells (qba.map Value.string).toArray 9)):=brf.alloc (nlr _) _;clear hall;go_enter Tryz.func162,Tryz.ntmps162;go_wp2_with (first | (go_at_call 224;refine CK.out.mono ?_;rintro e w' ⟨rfl,rfl⟩) | (go_at_call 225;refine CE.out.mono ?_;rintro e w' ⟨rfl,rfl⟩) | (go_at_call 226;refine CW.out.mono ?_;rintro e w' ⟨rfl,rfl⟩));revert hk0 hkb;generalize w.alloc (.cells (qba.map Value.string).toArray 9)=w3;intro hk0 hkb;clear CK CE CW
     go_loopg [4,27] 29 (fun g _ i wv=>∃ k:Nat,k+g=29/\i=.int .i64 k/\Blk wv w.heap.size 9 (qba.map Value.string).toArray/\Below w.heap.size w wv/\((qba.take k).any fun k=>decide (s=k))=false)
     case atStart=>exact ⟨0,by omega,rfl,hk0,hkb,rfl⟩
     case round =>
      obtain ⟨k,hkg,rfl,hk,hbv,hno⟩:=hrel;have HNO:=Hd hno;have HKG:=Hd hkg;have HKB:=Hd hk;have hsz3:=hk.lt;clear hk0 hkb hno hkg hk;by_cases hlt2:k<29
      ·
       obtain ⟨x,hx⟩:=qac (xs:=qba) (k:=k) (by rw [qdr];exact hlt2);have hc:wr.cell? ⟨w.heap.size,k,none⟩=some (.string x):=by rw [HKB.out.cell];simp [hx]
       have HX:=Hd hx;clear hx;by_cases he:s=x
       ·
        have hbe:(x.toList==s.toList)=true:=by rw [qdv];simpa using he.symm
        have HE:=Hd he;clear he;go_wp2;go_ret;exact ⟨qbf (by rw [HK.out,qls HX.out HE.out];rfl),hbv⟩
       ·
        have hbe:(x.toList==s.toList)=false:=by rw [qdv];simpa using fun e=>he e.symm
        have HE:=Hd he;clear he;go_wp2;go_roundg (gk-1)
        case rel=>exact ⟨k+1,by have:=HKG.out;omega,by go_num,HKB.out,hbv,by rw [qjq HX.out,HNO.out];simp [HE.out]⟩
        case measure=>have:=HKG.out;omega
      ·
       go_wp2;go_ret;refine ⟨qbf ?_,hbv⟩;have:=HNO.out;rw [List.take_of_length_le (by rw [qdr];omega)] at this;rw [HK.out,keyB,this];rfl
   ·
    have eq:(q != 2)=true:=by simpa using hq
    have hb:headB s=false:=by
     cases h:headB s
     · rfl
     · exact absurd (h2.2 h) hq
    have hr:r=false:=by rw [<- HR.out];simp [qbn,hb]
    subst hr;clear h2 hq hb hend;go_enter Tryz.func162,Tryz.ntmps162;go_wp2_with (go_at_call 224;refine CK.out.mono ?_;rintro e w' ⟨rfl,rfl⟩);go_ret;exact ⟨rfl,Below.refl _ _⟩
  ·
   have hr:r=false:=by rw [<- HR.out];simp [qbn];omega
   subst hr;go_enter Tryz.func162,Tryz.ntmps162;go_wp2;go_ret;exact ⟨rfl,Below.refl _ _⟩
def idxB {α:Type} (p:α->Bool) (i:Nat):List α->Int
 | []=>-1
 | s :: r=>if p s=true then (i:Int) else idxB p (i+1) r
theorem qn0 {α:Type} {p:α->Bool} {l:List α} {k:Nat} {x:α} (h:l[k]? = some x):idxB p k (l.drop k)=if p x=true then (k:Int) else idxB p (k+1) (l.drop (k+1)):=by
 have hk:=qaw h;rw [List.drop_eq_getElem_cons hk];have:l[k]=x:=by rw [List.getElem?_eq_getElem hk] at h;exact Option.some.inj h
 rw [this,idxB]
theorem qhz {α:Type} (p:α->Bool):∀ (l:List α) (i:Nat),decide (0<=idxB p i l)=l.any p
 | [],i=>by simp [idxB]
 | x :: r,i=>by
  have ih:=qhz p r (i+1);rw [idxB,List.any_cons];by_cases h:p x=true
  · rw [if_pos h,h];simp
  · rw [if_neg h,ih];simp [h]
theorem SlR.taken {α:Type} {sz:Nat} {E:World->Nat->Nat->α->Prop} {w:World} {a:Option Addr} {c:Nat} {l:List α} (h:SlR sz E w a c l) (k:Nat):SlR sz E w a c (l.take k):=by
 refine ⟨by have:=h.1;simp;omega,h.2.1,fun j x hx=>?_⟩;rw [List.getElem?_take] at hx
 split at hx
 · exact h.2.2 j x hx
 · cases hx
theorem qur (a:Int) (i g:Nat) (w:World) (hg:w.cell? ⟨g,0,none⟩=some (.int .i64 i)) :
  Calls Tryz.prog 159 #[.int .i64 a,.pointer (some ⟨g,0,none⟩)] w fun r w'=>r=.returned (.bool (qay i a))/\w=w':=by
 unfold qay;by_cases h0:a<0
 ·
  have hr:decide (a<0\/(i:Int)<=a)=true:=by simp [h0]
  rw [hr];clear hr;go_enter Tryz.func159,Tryz.ntmps159;go_wp2;go_ret;exact ⟨rfl,rfl⟩
 ·
  have hr:decide (a<0\/(i:Int)<=a)=decide ((i:Int)<=a):=by simp [h0]
  rw [hr];clear hr;go_enter Tryz.func159,Tryz.ntmps159;go_wp2;go_ret;exact ⟨rfl,rfl⟩
theorem qlb (l:List Int) (i g:Nat) (la:Option Addr) (lc:Nat) (w:World) (h:IntsR w la lc l) (hg:w.cell? ⟨g,0,none⟩=some (.int .i64 i)) :
  Calls Tryz.prog 222 #[.slice la l.length lc,.func (Fn.func 159) #[] #[.pointer (some ⟨g,0,none⟩)]] w fun r w'=>r=.returned (.int .i64 (idxB (qay i) 0 l))/\w=w':=by
 have HL:=Hd h;have HG:=Hd hg;have hll:=h.len;obtain ⟨R,hR⟩:∃ q,idxB (qay i) 0 l=q:=⟨_,rfl⟩
 rw [hR];have HR:Hid (idxB (qay i) 0 (l.drop 0)=R):=Hd hR;clear h hR hg;go_enter Tryz.func222,Tryz.ntmps222;go_wp2;obtain ⟨wo,rfl⟩:∃ wo:World,wo=w:=⟨_,rfl⟩
 go_loopg [5,8] l.length (fun m _ q wr=>∃ k:Nat,k+m=l.length/\q=.int .i64 k/\wo=wr/\idxB (qay i) k (l.drop k)=R)
 case atStart=>exact ⟨0,by omega,rfl,rfl,HR.out⟩
 case round =>
  obtain ⟨k,hkg,rfl,rfl,ha⟩:=hrel;have HKG:=Hd hkg;have HA:=Hd ha;clear hkg ha;by_cases hlt:k<l.length
  ·
   obtain ⟨x,hx⟩:=qac hlt;obtain ⟨bx,ox,rfl,hcx⟩:=HL.out.2.2 k x hx;have u0:wo.cell? ⟨bx,ox+k,none⟩=some (.int .i64 x):=by simpa [IntE] using hcx.1
   have hax:=HA.out;rw [qn0 hx] at hax;have CD:=qur x i g wo HG.out;obtain ⟨bv,hb⟩:∃ q,qay i x=q:=⟨_,rfl⟩
   rw [hb] at CD hax;have HAX:=Hd hax;replace CD:=Hd CD;clear hx hcx hax hb HA;go_wp2_with fail;refine CD.out.mono ?_;rintro r w1 ⟨rfl,rfl⟩;clear CD u0
   cases bv
   ·
    have HAX2:Hid (idxB (qay i) (k+1) (l.drop (k+1))=R):=Hd (by simpa using HAX.out);clear HAX;go_wp2;go_roundg (gk-1)
    case rel=>exact ⟨k+1,by have:=HKG.out;omega,by go_num,rfl,HAX2.out⟩
    case measure=>have:=HKG.out;omega
   ·
    have hkR:(k:Int)=R:=by simpa using HAX.out
    subst hkR;clear HAX;go_wp2;go_ret;exact ⟨rfl,rfl⟩
  ·
   have hr:(-1:Int)=R:=by rw [<- HA.out,List.drop_eq_nil_of_le (by omega)];rfl
   subst hr;go_wp2;go_ret;exact ⟨rfl,rfl⟩
theorem qor (l:List Int) (i g:Nat) (la:Option Addr) (lc:Nat) (w:World) (h:IntsR w la lc l) (hg:w.cell? ⟨g,0,none⟩=some (.int .i64 i)) :
  Calls Tryz.prog 158 #[.slice la l.length lc,.func (Fn.func 159) #[] #[.pointer (some ⟨g,0,none⟩)]] w fun r w'=>r=.returned (.bool (l.any (qay i)))/\w=w':=by
 have CI:=qlb l i g la lc w h hg;have hf:=qhz (qay i) l 0;revert CI hf;generalize idxB (qay i) 0 l=q;intro CI hf;rw [<- hf];clear h hf hg;replace CI:=Hd CI;go_enter Tryz.func158,Tryz.ntmps158;go_wp2_with fail;refine CI.out.mono ?_;rintro e w1 ⟨rfl,rfl⟩;go_wp2;go_ret;exact ⟨rfl,rfl⟩
theorem qsy (s:Step) (p:RA) (n:ByteArray) (g:Nat) (w:World) (hg:w.cell? ⟨g,1,none⟩=some (.string n)) :
  Calls Tryz.prog 164 #[s.val p.aa p.ac p.na p.nc p.da p.dc,.pointer (some ⟨g,0,none⟩)] w fun r w'=>r=.returned (.bool (decide (s.point=n)))/\Below w.heap.size w w':=by
 unfold Step.val;have hb0:Below w.heap.size w (w.alloc (.cells #[.int .i64 s.kind,.string s.point,.slice p.aa s.args.length p.ac,.bool s.ratio.neg,.slice p.na s.ratio.num.length p.nc,.slice p.da s.ratio.den.length p.dc] 53)):=brf.alloc (nlr _) _;have hk:=held hg;have hgl:g<w.heap.size:=World.block_lt_of_cell? w _ hg;have hgl2:g<w.heap.size+1:=by omega
 obtain ⟨b,hb⟩:∃ b,(s.point.toList==n.toList)=b:=⟨_,rfl⟩
 have hb2:=qdv s.point n;rw [hb] at hb2;rw [<- hb2];clear hb2;go_enter Tryz.func164,Tryz.ntmps164;go_wp2;go_ret;exact ⟨rfl,hb0⟩
theorem qko (l:List Step) (n:ByteArray) (g:Nat) (la:Option Addr) (lc:Nat) (w:World) (h:qcl w la lc l) (hg:w.cell? ⟨g,1,none⟩=some (.string n)) :
  Calls Tryz.prog 227 #[.slice la l.length lc,.func (Fn.func 164) #[] #[.pointer (some ⟨g,0,none⟩)]] w fun r w'=>r=.returned (.int .i64 (idxB (fun t:Step=>decide (t.point=n)) 0 l))/\Below w.heap.size w w':=by
 have HL:=Hd h;have hll:=h.len;obtain ⟨R,hR⟩:∃ q,idxB (fun t:Step=>decide (t.point=n)) 0 l=q:=⟨_,rfl⟩
 rw [hR];have HR:Hid (idxB (fun t:Step=>decide (t.point=n)) 0 (l.drop 0)=R):=Hd hR;have HG:=Hd hg;clear h hR hg;go_enter Tryz.func227,Tryz.ntmps227;go_wp2;obtain ⟨wo,rfl⟩:∃ wo:World,wo=w:=⟨_,rfl⟩
 go_loopg [5,8] l.length (fun m _ q wr=>∃ k:Nat,k+m=l.length/\q=.int .i64 k/\Below wo.heap.size wo wr/\idxB (fun t:Step=>decide (t.point=n)) k (l.drop k)=R)
 case atStart=>exact ⟨0,by omega,rfl,Below.refl _ _,HR.out⟩
 case round =>
  obtain ⟨k,hkg,rfl,hwr,ha⟩:=hrel;have HKG:=Hd hkg;have HA:=Hd ha;clear hkg ha;by_cases hlt:k<l.length
  ·
   obtain ⟨x,hx⟩:=qac hlt;obtain ⟨bx,ox,rfl,p,hC,hP,_,_⟩:=(HL.out.ext (xbw hwr)).2.2 k x hx;obtain ⟨c0,c1,c2,c3,c4,c5⟩:=hC;have hax:=HA.out;rw [qn0 hx] at hax;have CD:=qsy x p n g wr (xbw hwr _ _ HG.out);obtain ⟨b,hb⟩:∃ q,decide (x.point=n)=q:=⟨_,rfl⟩
   rw [hb] at CD hax;unfold Step.val at CD;have HAX:=Hd hax;replace CD:=Hd CD;clear hx hP hax hb HA;go_wp2_with fail;refine CD.out.mono ?_;rintro r w1 ⟨rfl,hb1⟩;have hw1:=bth hwr hb1;clear c0 c1 c2 c3 c4 c5 CD
   cases b
   ·
    have HAX2:Hid (idxB (fun t:Step=>decide (t.point=n)) (k+1) (l.drop (k+1))=R):=Hd (by simpa using HAX.out);clear HAX;go_wp2;go_roundg (gk-1)
    case rel=>exact ⟨k+1,by have:=HKG.out;omega,by go_num,hw1,HAX2.out⟩
    case measure=>have:=HKG.out;omega
   ·
    have hkR:(k:Int)=R:=by simpa using HAX.out
    subst hkR;clear HAX;go_wp2;go_ret;exact ⟨rfl,hw1⟩
  ·
   have hr:(-1:Int)=R:=by rw [<- HA.out,List.drop_eq_nil_of_le (by omega)];rfl
   subst hr;go_wp2;go_ret;exact ⟨rfl,hwr⟩
theorem qne (l:List Step) (n:ByteArray) (g:Nat) (la:Option Addr) (lc:Nat) (w:World) (h:qcl w la lc l) (hg:w.cell? ⟨g,1,none⟩=some (.string n)) :
  Calls Tryz.prog 163 #[.slice la l.length lc,.func (Fn.func 164) #[] #[.pointer (some ⟨g,0,none⟩)]] w fun r w'=>r=.returned (.bool (l.any fun t=>decide (t.point=n)))/\Below w.heap.size w w':=by
 have CI:=qko l n g la lc w h hg;have hf:=qhz (fun t:Step=>decide (t.point=n)) l 0;revert CI hf;generalize idxB (fun t:Step=>decide (t.point=n)) 0 l=q;intro CI hf;rw [<- hf];clear h hf hg;replace CI:=Hd CI;go_enter Tryz.func163,Tryz.ntmps163;go_wp2_with fail;refine CI.out.mono ?_;rintro e w1 ⟨rfl,hb1⟩;go_wp2;go_ret;exact ⟨rfl,hb1⟩
theorem qmb (l:List Step) (i:Nat) (s:Step) (a:Option Addr) (c:Nat) (w:World) (h:qcl w a c l) (hs:l[i]? = some s) (hq:s.ratio.few) :
  Calls Tryz.prog 77 #[.slice a l.length c,.int .i64 i] w fun e w'=>e=.returned (.int .i64 (qbp l s i))/\Below w.heap.size w w':=by
 have hlen:=h.len;have hi:=qaw hs;obtain ⟨b,off,rfl,p,hC,hP,hkind,hpt⟩:=h.2.2 i s hs;obtain ⟨kind,point,args,r⟩:=s;obtain ⟨aa,ac,na,nc,da,dc⟩:=p;obtain ⟨hI,hN,hD⟩:=hP;dsimp only at hI hN hD hq hkind hpt;obtain ⟨c0,c1,c2,c3,c4,c5⟩:=hC;dsimp only at c0 c1 c2 c3 c4 c5;obtain ⟨res,hres⟩:∃ x,qbp l ⟨kind,point,args,r⟩ i=x:=⟨_,rfl⟩
 rw [hres];unfold qbp at hres;dsimp only at hres;have CA:=qms kind;have hA:=qie kind;have CR:=fun W (hW:Below w.heap.size w W)=>qfd r na nc da dc W (hN.ext (xbw hW)) (hD.ext (xbw hW)) hq.1 hq.2
 have CN:=fun W=>qo9 r na nc da dc W hq.1 hq.2
 have CI:=fun W=>qk4 point W hpt
 have hlena:=hI.len;have hIn:∀ a∈args,InInt a:=fun a ha=>by
  obtain ⟨k,hk⟩:=List.mem_iff_getElem?.1 ha;obtain ⟨b,off,_,hc,hw⟩:=hI.2.2 k a hk;exact qd1 hw
 have HI:=Hd hI;have HIn:=Hd hIn;have HS:=Hd h;revert CA hA hres CR CN CI;generalize qbc kind=ar;generalize r.right=br;generalize r.none=bn;generalize qbn point=bi;intro hres CA hA CR CN CI;replace CA:=Hd CA;replace CR:=Hd CR;replace CN:=Hd CN;replace CI:=Hd CI;have HRES:=Hd hres;obtain ⟨hk1,hk2⟩:=hkind;obtain ⟨neg,num,den⟩:=r;unfold Rt.val at CR CN;dsimp only at CR CN c0 c1 c2 c3 c4 c5 ⊢;have HL:=Hd hs;clear hres hI hN hD hIn hq h hs;have hz:=Blk.new w 53 #[.int .i64 kind,.string point,.slice aa args.length ac,.bool neg,.slice na num.length nc,.slice da den.length dc];have hb0:Below w.heap.size w (w.alloc (.cells #[.int .i64 kind,.string point,.slice aa args.length ac,.bool neg,.slice na num.length nc,.slice da den.length dc] 53)):=brf.alloc (nlr _) _;by_cases h0:ar<0
 ·
  have he:decide (ar<0)=true:=by simpa using h0
  have hr:res=8:=by rw [<- HRES.out,if_pos h0]
  subst hr;clear h0 hz;go_enter Tryz.func77,Tryz.ntmps77;go_wp2_with (go_at_call 150;refine (CA.out _).mono ?_;rintro e w' ⟨rfl,rfl⟩);go_ret;exact ⟨rfl,hb0⟩
 ·
  have he:decide (ar<0)=false:=by simpa using h0
  have H0:=Hd h0;clear h0;by_cases h1:(args.length:Int)=ar
  ·
   have he1:((args.length:Int) != ar)=false:=by simpa using h1
   have H1:=Hd h1;clear h1;go_enter Tryz.func77,Tryz.ntmps77;go_wp2_with fail;revert hz hb0;generalize w.alloc (.cells #[.int .i64 kind,.string point,.slice aa args.length ac,.bool neg,.slice na num.length nc,.slice da den.length dc] 53)=w0;intro hz hb0;obtain ⟨z0,z1,z2,z3,z4,z5⟩:=cq6 hz;refine (CA.out _).mono ?_;rintro e w' ⟨rfl,rfl⟩;go_wp2
   go_quiet ((go_at_call 150;exact Calls.quiet_of_same ((CA.out _).mono fun _ _ h=>⟨h.1,h.2.symm⟩)))
   have hz1:Blk (w0.drewN nq) w.heap.size 53 #[.int .i64 kind,.string point,.slice aa args.length ac,.bool neg,.slice na num.length nc,.slice da den.length dc]:=hz;have hb1:=below_drewN hb0 nq;clear z0 z1 z2 z3 z4 z5 hz hb0 CA c0 c1 c2 c3 c4 c5;revert hz1 hb1;generalize w0.drewN nq=w1;intro hz1 hb1;obtain ⟨z0,z1,z2,z3,z4,z5⟩:=cq6 hz1;go_wp2
   go_loop [7,28] (fun _ q=>∃ k:Nat,k<=args.length/\q=.int .i64 k/\Hid ((args.take k).any (qay i)=false)) (fun _ i=>args.length-(intOf i).toNat)
   case atStart=>exact ⟨0,by omega,rfl,rfl⟩
   case round =>
    obtain ⟨k,hk,rfl,hno⟩:=hrel;by_cases hlt:k<args.length
    ·
     obtain ⟨x,hx⟩:=qac hlt;obtain ⟨b2,off2,rfl,hc⟩:=(HI.out.ext (xbw hb1)).2.2 k x hx;have hc1:w1.cell? ⟨b2,off2+k,none⟩=some (.int .i64 x):=by simpa using hc.1
     obtain ⟨hx1,hx2⟩:=HIn.out x (List.mem_of_getElem? hx);have HX:=Hd hx;clear hc hx;by_cases hbad:x<0\/(i:Int)<=x
     ·
      have hr:res=2:=by
       have hany:args.any (qay i)=true:=qi1 HX.out (by unfold qay;exact decide_eq_true hbad);rw [<- HRES.out,if_neg (by have:=H0.out;omega),if_neg (by simpa using H1.out),if_pos hany]
      subst hr;by_cases hx0:x<0
      ·
       clear hbad;go_wp2;go_ret;exact ⟨rfl,hb1⟩
      ·
       have hge:(i:Int)<=x:=by omega
       clear hbad;go_wp2;go_ret;exact ⟨rfl,hb1⟩
     ·
      have hx0:0<=x:=by omega
      have hxn:x<(i:Int):=by omega
      have hbf:qay i x=false:=by unfold qay;exact decide_eq_false hbad
      have HBF:=Hd hbf;clear hbad hbf;go_wp2
      go_round
      case rel=>exact ⟨k+1,by omega,by go_num,by show _=_;rw [qf5 HX.out,hno.out,HBF.out];rfl⟩
      case measure=>simp [intOf];omega
    ·
     have hany:args.any (qay i)=false:=by
      have:=hno.out
      rwa [qew hlt] at this
     have HR2:=HRES.out;rw [if_neg (by have:=H0.out;omega),if_neg (by simpa using H1.out),if_neg (by rw [hany];simp)] at HR2;replace HR2:=Hd HR2;clear hany HRES;by_cases hb2:kind=2/\br=false
     ·
      obtain ⟨hk2,rfl⟩:=hb2;have hr:res=1:=by rw [<- HR2.out,if_pos ⟨hk2,rfl⟩]
      subst hr;have hke:(kind==2)=true:=by simpa using hk2
      have hkn:(kind != 2)=false:=by simpa using hk2
      clear hk2;go_wp2_with fail;refine (CR.out _ hb1).mono ?_;rintro e w2 ⟨rfl,hb2⟩;have hb3:=bth hb1 hb2;go_wp2;go_ret;exact ⟨rfl,hb3⟩
     ·
      by_cases hb2':kind≠2/\bn=false
      ·
       have hr:res=1:=by rw [<- HR2.out,if_neg hb2,if_pos hb2']
       subst hr;obtain ⟨hk2,rfl⟩:=hb2';have hke:(kind==2)=false:=by simpa using hk2
       have hkn:(kind != 2)=true:=by simpa using hk2
       clear hk2 hb2;go_wp2_with fail;refine (CN.out _).mono ?_;rintro e w2 ⟨rfl,hb2⟩;have hb3:=bth hb1 hb2;go_wp2;go_ret;exact ⟨rfl,hb3⟩
      ·
       have hgood:(kind=2/\br=true)\/(kind≠2/\bn=true):=by
        by_cases hk2:kind=2
        ·
         left;refine ⟨hk2,?_⟩;cases br
         · exact absurd ⟨hk2,rfl⟩ hb2
         · rfl
        ·
         right;refine ⟨hk2,?_⟩;cases bn
         · exact absurd ⟨hk2,rfl⟩ hb2'
         · rfl
       have HR3:=HR2.out;rw [if_neg hb2,if_neg hb2'] at HR3;replace HR3:=Hd HR3;clear hb2 hb2' HR2;rcases hgood with ⟨hk2,rfl⟩ | ⟨hk2,rfl⟩
       all_goals
        first
         | have hke:(kind==2)=true:=by simpa using hk2
         | have hke:(kind==2)=false:=by simpa using hk2
        first
         | have hkn:(kind != 2)=false:=by simpa using hk2
         | have hkn:(kind != 2)=true:=by simpa using hk2
        clear hk2;go_wp2_with fail
        first
         | refine (CR.out _ hb1).mono ?_
         | refine (CN.out _).mono ?_
        rintro e w2 ⟨rfl,hb2⟩;have hz2:=hz1.below' hb2;have hw2:=bth hb1 hb2;clear hb2 z0 z1 z2 z3 z4 z5 hz1 hb1 CR CN HI HIn;obtain ⟨z0,z1,z2,z3,z4,z5⟩:=cq6 hz2;by_cases hpe:point=⟨#[]⟩
        ·
         have hr:res=0:=by rw [<- HR3.out,if_pos hpe]
         subst hr;subst hpe;go_wp2;go_ret;exact ⟨rfl,hw2⟩
        ·
         have hse:point.toList.isEmpty=false:=by rw [qb5];simpa using hpe
         have HPE:=Hd hpe;have HR4:=HR3.out;rw [if_neg hpe] at HR4;replace HR4:=Hd HR4;clear hpe HR3
         cases bi
         ·
          have hr:res=6:=by rw [<- HR4.out,if_pos rfl]
          subst hr;go_wp2_with fail;refine (CI.out _).mono ?_;rintro e w3 ⟨rfl,hb3⟩;have hw3:=bth hw2 hb3;go_wp2;go_ret;exact ⟨rfl,hw3⟩
         ·
          have HR5:=HR4.out;rw [if_neg (by simp)] at HR5;replace HR5:=Hd HR5;clear HR4;go_wp2_with fail;refine (CI.out _).mono ?_;rintro e w3 ⟨rfl,hb3⟩;have hw3:=bth hw2 hb3;have hz3:=hz2.below' hb3;clear hb3 z0 z1 z2 z3 z4 z5 hz2 hw2 CI;have hcap:=HS.out.1;have hcm:=HS.out.2.1;unfold maxLen at hcm;go_wp2
          go_loopg [9,71] i (fun g _ q wr=>∃ k:Nat,k+g=i/\q=.int .i64 k/\Below w.heap.size w wr/\Blk wr w.heap.size 53 #[.int .i64 kind,.string point,.slice aa args.length ac,.bool neg,.slice na num.length nc,.slice da den.length dc] /\
           (l.take k).any (fun t=>decide (t.point=point))=false)
          case atStart=>exact ⟨0,by omega,rfl,hw3,hz3,rfl⟩
          case round =>
           obtain ⟨k2,hkg,rfl,hwr,hzr,hno2⟩:=hrel;have HKG:=Hd hkg;have HNO:=Hd hno2;have HZR:=Hd hzr;have z1:=hzr.cell 1;have hzl:=hzr.lt;clear hw3 hz3 hno hno2 hkg hzr;by_cases hlt2:k2<i
           ·
            obtain ⟨t,ht⟩:=qac (xs:=l) (k:=k2) (by omega);obtain ⟨b3,off3,hbo,pt,hCt,hPt,_,_⟩:=(HS.out.ext (xbw hwr)).2.2 k2 t ht;injection hbo with hbo
            injection hbo with hbo1 hbo2
            subst hbo1 hbo2;obtain ⟨t0,t1,t2,t3,t4,t5⟩:=hCt;have HT:=Hd ht;clear ht hPt;by_cases he:t.point=point
            ·
             have hr:res=7:=by
              have hany:(l.take i).any (fun t=>decide (t.point=point))=true:=by
               rw [List.any_eq_true];refine ⟨t,?_,by simpa using he⟩;apply List.mem_of_getElem? (i:=k2);rw [List.getElem?_take,if_pos hlt2];exact HT.out
              have:=HR5.out;rw [if_pos hany] at this;exact this.symm
             subst hr;have hbe:(t.point.toList==point.toList)=true:=by rw [qdv];simpa using he
             clear he;have hw4:=hwr.alloc hwr.size (.cells #[.int .i64 t.kind,.string t.point,.slice pt.aa t.args.length pt.ac,.bool t.ratio.neg,.slice pt.na t.ratio.num.length pt.nc,.slice pt.da t.ratio.den.length pt.dc] 53);go_wp2;go_ret;exact ⟨rfl,hw4⟩
            ·
             have hbe:(t.point.toList==point.toList)=false:=by rw [qdv];simpa using he
             have HE:=Hd he;clear he;have hw4:=hwr.alloc hwr.size (.cells #[.int .i64 t.kind,.string t.point,.slice pt.aa t.args.length pt.ac,.bool t.ratio.neg,.slice pt.na t.ratio.num.length pt.nc,.slice pt.da t.ratio.den.length pt.dc] 53);go_wp2;go_roundg (gk-1)
             case rel=>exact ⟨k2+1,by have:=HKG.out;omega,by go_num,hw4,HZR.out.alloc _,by rw [qf5 HT.out,HNO.out];simp [HE.out]⟩
             case measure=>have:=HKG.out;omega
           ·
            have hr:res=0:=by
             have hany:(l.take i).any (fun t=>decide (t.point=point))=false:=by
              have:=HNO.out
              rwa [show k2=i by have:=HKG.out;omega] at this
             have:=HR5.out;rw [if_neg (by rw [hany];simp)] at this;exact this.symm
            subst hr;go_wp2;go_ret;exact ⟨rfl,hwr⟩
  ·
   have he1:((args.length:Int) != ar)=true:=by simpa using h1
   have hr:res=1:=by rw [<- HRES.out,if_neg (by have:=H0.out;omega),if_pos h1]
   subst hr;clear h1;go_enter Tryz.func77,Tryz.ntmps77;go_wp2_with fail;revert hz hb0;generalize w.alloc (.cells #[.int .i64 kind,.string point,.slice aa args.length ac,.bool neg,.slice na num.length nc,.slice da den.length dc] 53)=w0;intro hz hb0;obtain ⟨z0,z1,z2,z3,z4,z5⟩:=cq6 hz;refine (CA.out _).mono ?_;rintro e w' ⟨rfl,rfl⟩;go_wp2
   go_quiet ((go_at_call 150;exact Calls.quiet_of_same ((CA.out _).mono fun _ _ h=>⟨h.1,h.2.symm⟩)))
   go_wp2;go_ret;exact ⟨rfl,below_drewN hb0 _⟩
theorem qpo (l:List Step) (i:Nat) (s:Step) (a:Option Addr) (c:Nat) (w:World) (h:qcl w a c l) (hs:l[i]? = some s) (hq:s.ratio.few) :
  Calls Tryz.prog 82 #[.slice a l.length c,.int .i64 i] w fun e w'=>e=.returned (.int .i64 (qbp l s i))/\Below w.heap.size w w':=by
 have hlen:=h.len;have hcap0:=h.1;have hcm0:=h.2.1;have hi:=qaw hs;obtain ⟨b,off,rfl,p,hC,hP,hkind,hpt⟩:=h.2.2 i s hs;obtain ⟨kind,point,args,r⟩:=s;obtain ⟨aa,ac,na,nc,da,dc⟩:=p;obtain ⟨hI,hN,hD⟩:=hP;dsimp only at hI hN hD hq hkind hpt;obtain ⟨c0,c1,c2,c3,c4,c5⟩:=hC;dsimp only at c0 c1 c2 c3 c4 c5;obtain ⟨res,hres⟩:∃ x,qbp l ⟨kind,point,args,r⟩ i=x:=⟨_,rfl⟩
 rw [hres];unfold qbp at hres;dsimp only at hres;have CA:=qpp kind;have hA:=qie kind;have CR:=fun W (hW:Below w.heap.size w W)=>qik r na nc da dc W (hN.ext (xbw hW)) (hD.ext (xbw hW)) hq.1 hq.2
 have CN:=fun W=>qqm r na nc da dc W hq.1 hq.2
 have CI:=fun W=>qpm point W hpt
 have CB:=fun W (hW:Below w.heap.size w W) (g:Nat)=>qor args i g aa ac W (hI.ext (xbw hW))
 have CS:=fun W (hW:Below w.heap.size w W) (g:Nat)=>qne (l.take i) point g (some ⟨b,off,none⟩) c W (qcl.ext (SlR.taken h i) (xbw hW))
 have htl:(l.take i).length=i:=by simp;omega
 rw [htl] at CS;have hlena:=hI.len;have hk0:=held c0;have hk1:=held c1;have hk2:=held c2;have hk3:=held c3;have hk4:=held c4;have hk5:=held c5;have hbl:b<w.heap.size:=World.block_lt_of_cell? w _ c0;revert CA hA hres CR CN CI CB CS;generalize qbc kind=ar;generalize r.right=br;generalize r.none=bn;generalize qbn point=bi;generalize args.any (qay i)=bb;generalize ((l.take i).any fun t=>decide (t.point=point))=bs;intro hres CA hA CR CN CI CB CS;replace CA:=Hd CA;replace CR:=Hd CR;replace CN:=Hd CN;replace CI:=Hd CI;replace CB:=Hd CB;replace CS:=Hd CS;have HRES:=Hd hres;obtain ⟨hk1',hk2'⟩:=hkind;obtain ⟨neg,num,den⟩:=r;unfold Rt.val at CR CN;dsimp only at CR CN c0 c1 c2 c3 c4 c5 hk3 hk4 hk5 ⊢;unfold maxLen at hcm0;have hii:(i:Int)<=(c:Int):=by omega
 have hic:i<=c:=by omega
 clear hres hI hN hD hq h hs htl;have hz:Blk ((w.alloc (.cells #[.int .i64 (i:Int)] 3)).alloc (.cells #[.int .i64 kind,.string point,.slice aa args.length ac,.bool neg,.slice na num.length nc,.slice da den.length dc] 53)) (w.heap.size+1) 53 #[.int .i64 kind,.string point,.slice aa args.length ac,.bool neg,.slice na num.length nc,.slice da den.length dc]:=qa5 w _ _ _;have hzi:Blk ((w.alloc (.cells #[.int .i64 (i:Int)] 3)).alloc (.cells #[.int .i64 kind,.string point,.slice aa args.length ac,.bool neg,.slice na num.length nc,.slice da den.length dc] 53)) w.heap.size 3 #[.int .i64 (i:Int)]:=(Blk.new w _ _).alloc _;have hb0:Below w.heap.size w ((w.alloc (.cells #[.int .i64 (i:Int)] 3)).alloc (.cells #[.int .i64 kind,.string point,.slice aa args.length ac,.bool neg,.slice na num.length nc,.slice da den.length dc] 53)):=(brf.alloc (nlr _) _).alloc (by simp) _;go_enter Tryz.func82,Tryz.ntmps82
 go_wp2_with fail;revert hz hzi hb0;generalize (w.alloc (.cells #[.int .i64 (i:Int)] 3)).alloc (.cells #[.int .i64 kind,.string point,.slice aa args.length ac,.bool neg,.slice na num.length nc,.slice da den.length dc] 53)=w0;intro hz hzi hb0;refine (CA.out _).mono ?_;rintro e w' ⟨rfl,rfl⟩;obtain ⟨z0,z1,z2,z3,z4,z5⟩:=cq6 hz;have zi:=hzi.cell 0;clear c0 c1 c2 c3 c4 c5 hk0 hk1 hk2 hk3 hk4 hk5;by_cases h0:ar<0
 ·
  have he:decide (ar<0)=true:=by simpa using h0
  have hr:res=8:=by rw [<- HRES.out,if_pos h0]
  subst hr;clear h0;go_wp2;go_ret;exact ⟨rfl,hb0⟩
 have he:decide (ar<0)=false:=by simpa using h0
 have HR1:=HRES.out;rw [if_neg h0] at HR1;replace HR1:=Hd HR1;clear h0 HRES;by_cases h1:(args.length:Int)=ar
 case neg =>
  have he1:((args.length:Int) != ar)=true:=by simpa using h1
  have hr:res=1:=by rw [<- HR1.out,if_pos h1]
  subst hr;clear h1;go_wp2;go_ret;exact ⟨rfl,hb0⟩
 have he1:((args.length:Int) != ar)=false:=by simpa using h1
 have HR2:=HR1.out;rw [if_neg (by simpa using h1)] at HR2;replace HR2:=Hd HR2;clear h1 HR1;have CB2:=CB.out w0 hb0 w.heap.size zi;replace CB2:=Hd CB2;clear CB
 cases bb
 case true =>
  have hr:res=2:=by rw [<- HR2.out,if_pos rfl]
  subst hr;go_wp2_with fail;refine CB2.out.mono ?_;rintro e w1 ⟨rfl,rfl⟩;go_wp2;go_ret;exact ⟨rfl,hb0⟩
 have HR3:=HR2.out;rw [if_neg (by simp)] at HR3;replace HR3:=Hd HR3;clear HR2;go_wp2_with fail;refine CB2.out.mono ?_;rintro e w1 ⟨rfl,rfl⟩;clear CB2 CA;by_cases hb2:kind=2/\br=false
 ·
  obtain ⟨hk2,rfl⟩:=hb2;have hr:res=1:=by rw [<- HR3.out,if_pos ⟨hk2,rfl⟩]
  subst hr;have hke:(kind==2)=true:=by simpa using hk2
  have hkn:(kind != 2)=false:=by simpa using hk2
  clear hk2;go_wp2_with fail;refine (CR.out _ hb0).mono ?_;rintro e w2 ⟨rfl,hb2⟩;have hb3:=bth hb0 hb2;go_wp2;go_ret;exact ⟨rfl,hb3⟩
 ·
  by_cases hb2':kind≠2/\bn=false
  ·
   have hr:res=1:=by rw [<- HR3.out,if_neg hb2,if_pos hb2']
   subst hr;obtain ⟨hk2,rfl⟩:=hb2';have hke:(kind==2)=false:=by simpa using hk2
   have hkn:(kind != 2)=true:=by simpa using hk2
   clear hk2 hb2;go_wp2_with fail;refine (CN.out _).mono ?_;rintro e w2 ⟨rfl,hb2⟩;have hb3:=bth hb0 hb2;go_wp2;go_ret;exact ⟨rfl,hb3⟩
  ·
   have hgood:(kind=2/\br=true)\/(kind≠2/\bn=true):=by
    by_cases hk2:kind=2
    ·
     left;refine ⟨hk2,?_⟩;cases br
     · exact absurd ⟨hk2,rfl⟩ hb2
     · rfl
    ·
     right;refine ⟨hk2,?_⟩;cases bn
     · exact absurd ⟨hk2,rfl⟩ hb2'
     · rfl
   have HR4:=HR3.out;rw [if_neg hb2,if_neg hb2'] at HR4;replace HR4:=Hd HR4;clear hb2 hb2' HR3;rcases hgood with ⟨hk2,rfl⟩ | ⟨hk2,rfl⟩
   all_goals
    first
     | have hke:(kind==2)=true:=by simpa using hk2
     | have hke:(kind==2)=false:=by simpa using hk2
    first
     | have hkn:(kind != 2)=false:=by simpa using hk2
     | have hkn:(kind != 2)=true:=by simpa using hk2
    clear hk2;go_wp2_with fail
    first
     | refine (CR.out _ hb0).mono ?_
     | refine (CN.out _).mono ?_
    rintro e w2 ⟨rfl,hb2⟩;have hz2:=hz.below' hb2;have hzi2:=hzi.below' hb2;have hw2:=bth hb0 hb2;clear hb2 z0 z1 z2 z3 z4 z5 zi hz hzi hb0 CR CN;obtain ⟨z0,z1,z2,z3,z4,z5⟩:=cq6 hz2;have zi:=hzi2.cell 0;by_cases hpe:point=⟨#[]⟩
    ·
     have hr:res=0:=by rw [<- HR4.out,if_pos hpe]
     subst hr;subst hpe;go_wp2;go_ret;exact ⟨rfl,hw2⟩
    ·
     have hse:point.toList.isEmpty=false:=by rw [qb5];simpa using hpe
     have HR5:=HR4.out;rw [if_neg hpe] at HR5;replace HR5:=Hd HR5;clear hpe HR4
     cases bi
     ·
      have hr:res=6:=by rw [<- HR5.out,if_pos rfl]
      subst hr;go_wp2_with fail;refine (CI.out _).mono ?_;rintro e w3 ⟨rfl,hb3⟩;have hw3:=bth hw2 hb3;go_wp2;go_ret;exact ⟨rfl,hw3⟩
     ·
      have HR6:=HR5.out;rw [if_neg (by simp)] at HR6;replace HR6:=Hd HR6;clear HR5;go_wp2_with fail;refine (CI.out _).mono ?_;rintro e w3 ⟨rfl,hb3⟩;have hw3:=bth hw2 hb3;have hz3:=hz2.below' hb3;have hzi3:=hzi2.below' hb3;clear hb3 z0 z1 z2 z3 z4 z5 zi hz2 hzi2 hw2 CI;have z1:=hz3.cell 1;have zi:=hzi3.cell 0;have CS2:=CS.out w3 hw3 (w.heap.size+1) z1;replace CS2:=Hd CS2;clear CS;go_wp2_with fail;refine CS2.out.mono ?_;rintro e w4 ⟨rfl,hb4⟩;have hw4:=bth hw3 hb4
      cases bs
      ·
       have hr:res=0:=by rw [<- HR6.out,if_neg (by simp)]
       subst hr;go_wp2;go_ret;exact ⟨rfl,hw4⟩
      ·
       have hr:res=7:=by rw [<- HR6.out,if_pos rfl]
       subst hr;go_wp2;go_ret;exact ⟨rfl,hw4⟩
theorem qgc {l:List Step} {r:List Step} {s:Step} {k:Nat} (h:r[k]? = some s):qbe l (r.drop k) k=if qbp l s k≠0 then qbp l s k else qbe l (r.drop (k+1)) (k+1):=by
 have hk:=qaw h;rw [List.drop_eq_getElem_cons hk];have:r[k]=s:=by rw [List.getElem?_eq_getElem hk] at h;exact Option.some.inj h
 rw [this,qbe]
theorem qga {n:Int} {r:List Fct} {s:Fct} {k:Nat} (h:r[k]? = some s):qb9 n (r.drop k)=if qch s n≠0 then qch s n else qb9 n (r.drop (k+1)):=by
 have hk:=qaw h;rw [List.drop_eq_getElem_cons hk];have:r[k]=s:=by rw [List.getElem?_eq_getElem hk] at h;exact Option.some.inj h
 rw [this,qb9]
theorem qna (f:Fig) (sa:Option Addr) (sc:Nat) (ga:Option Addr) (gc:Nat) (w:World) (h:FigR w sa sc ga gc f) (hq:f.few) :
  Calls Tryz.prog 36 #[f.val sa sc ga gc] w fun e w'=>e=.returned (.int .i64 f.err)/\Below w.heap.size w w':=by
 obtain ⟨steps,goals⟩:=f;obtain ⟨hS,hG⟩:=h;dsimp only at hS hG;have hl1:=hS.len;have hl2:=hG.len;obtain ⟨res,hres⟩:∃ x,Fig.err ⟨steps,goals⟩=x:=⟨_,rfl⟩
 rw [hres];unfold Fig.err at hres;unfold Fig.val;dsimp only at hres ⊢;have HS:=Hd hS;have HG:=Hd hG;have HQ:=Hd hq;have HRES:=Hd hres;clear hS hG hq hres;have hz:=Blk.new w 25 #[.slice sa steps.length sc,.slice ga goals.length gc];have hb0:Below w.heap.size w (w.alloc (.cells #[.slice sa steps.length sc,.slice ga goals.length gc] 25)):=brf.alloc (nlr _) _;by_cases hbig:40<steps.length\/8<goals.length
 ·
  have hr:res=4:=by rw [<- HRES.out,if_pos hbig]
  subst hr;clear hz;by_cases h1:40<steps.length
  ·
   clear hbig;go_enter Tryz.func36,Tryz.ntmps36;go_wp2;go_ret;exact ⟨rfl,hb0⟩
  ·
   have h2:8<goals.length:=by omega
   clear hbig;go_enter Tryz.func36,Tryz.ntmps36;go_wp2;go_ret;exact ⟨rfl,hb0⟩
 ·
  have h1:steps.length<=40:=by omega
  have h2:goals.length<=8:=by omega
  have HR1:=HRES.out;rw [if_neg hbig] at HR1;replace HR1:=Hd HR1;clear hbig HRES;go_enter Tryz.func36,Tryz.ntmps36;go_wp2;revert hz hb0;generalize w.alloc (.cells #[.slice sa steps.length sc,.slice ga goals.length gc] 25)=w0;intro hz hb0
  go_loopg [3,4,21] steps.length (fun g _ _ q wr=>∃ k:Nat,k+g=steps.length/\q=.int .i64 k/\Below w.heap.size w wr/\Blk wr w.heap.size 25 #[.slice sa steps.length sc,.slice ga goals.length gc]/\qbe steps (steps.drop k) k=qbe steps steps 0)
  case atStart=>exact ⟨0,by omega,rfl,hb0,hz,rfl⟩
  case round =>
   obtain ⟨k,hkg,rfl,hwr,hzr,he⟩:=hrel;have HKG:=Hd hkg;have HE:=Hd he;have HZR:=Hd hzr;obtain ⟨z0,z1⟩:=cq2 hzr;have hzl:=hzr.lt;clear hb0 hz hkg he hzr;by_cases hlt:k<steps.length
   ·
    obtain ⟨s,hs⟩:=qac hlt;have C:=qmb steps k s sa sc wr (HS.out.ext (xbw hwr)) hs (HQ.out.1 s (List.mem_of_getElem? hs));have hes:=qgc (l:=steps) hs;rw [HE.out] at hes;revert C hes;generalize qbp steps s k=ev;intro C hes;replace C:=Hd C;have HES:=Hd hes;clear hes hs;by_cases hev:ev=0
    ·
     have hb:(ev != 0)=false:=by simpa using hev
     have HE2:=HES.out;rw [if_neg (by simpa using hev)] at HE2;replace HE2:=Hd HE2;clear hev HES HE;go_wp2_with fail;refine C.out.mono ?_;rintro e w2 ⟨rfl,hb2⟩;have hw2:=bth hwr hb2;have hz2:=HZR.out.below' hb2;clear hb2 C;go_wp2;go_roundg (gk-1)
     case rel=>exact ⟨k+1,by have:=HKG.out;omega,by go_num,hw2,hz2,HE2.out.symm⟩
     case measure=>have:=HKG.out;omega
    ·
     have hb:(ev != 0)=true:=by simpa using hev
     have hr:res=ev:=by
      have h3:=HES.out;rw [if_pos hev] at h3;have:=HR1.out;rw [h3,if_pos hev] at this;exact this.symm
     subst hr;clear hev HES HE HR1;go_wp2_with fail;refine C.out.mono ?_;rintro e w2 ⟨rfl,hb2⟩;have hw2:=bth hwr hb2;clear hb2 C;go_wp2;go_ret;exact ⟨rfl,hw2⟩
   ·
    have HR2:=HR1.out;have hz3:qbe steps steps 0=0:=by
     rw [<- HE.out,List.drop_eq_nil_of_le (by omega)];rfl
    rw [if_neg (by rw [hz3];simp)] at HR2;replace HR2:=Hd HR2;obtain ⟨wo,rfl⟩:∃ wo:World,wo=wr:=⟨_,rfl⟩
    clear hz3 HR1 HE HKG;go_wp2
    go_loopg [6,7,35] goals.length (fun g _ _ q wr=>∃ k:Nat,k+g=goals.length/\q=.int .i64 k/\Below w.heap.size w wr/\Blk wr w.heap.size 25 #[.slice sa steps.length sc,.slice ga goals.length gc]/\qb9 steps.length (goals.drop k)=qb9 steps.length goals)
    case atStart=>exact ⟨0,by omega,rfl,hwr,HZR.out,rfl⟩
    case round =>
     clear HZR z0 z1 hzl hwr;obtain ⟨k2,hkg,rfl,hwr,hzr,he⟩:=hrel;have HKG:=Hd hkg;have HE:=Hd he;have HZR:=Hd hzr;obtain ⟨z0,z1⟩:=cq2 hzr;have hzl:=hzr.lt;clear hkg he hzr;by_cases hlt2:k2<goals.length
     ·
      obtain ⟨s,hs⟩:=qac hlt2;obtain ⟨b,off,rfl,p,hC,hP,hki⟩:=(HG.out.ext (xbw hwr)).2.2 k2 s hs;have hP':qb4 (wr.alloc (.cells #[.int .i64 s.kind,.slice p.aa s.args.length p.ac,.bool s.ratio.neg,.slice p.na s.ratio.num.length p.nc,.slice p.da s.ratio.den.length p.dc] 86)) p s.args s.ratio:=hP.ext (qco _ _);have C:=qnd s steps.length p _ hP' (HQ.out.2 s (List.mem_of_getElem? hs)) (by constructor <;> omega) hki;obtain ⟨c0,c1,c2,c3,c4⟩:=hC;have hes:=qga (n:=steps.length) hs;rw [HE.out] at hes;unfold Fct.val at C;revert C hes;generalize qch s steps.length=ev;intro C hes;replace C:=Hd C;have HES:=Hd hes;have hw1:=hwr.alloc hwr.size (.cells #[.int .i64 s.kind,.slice p.aa s.args.length p.ac,.bool s.ratio.neg,.slice p.na s.ratio.num.length p.nc,.slice p.da s.ratio.den.length p.dc] 86)
      have hz1:=HZR.out.alloc (.cells #[.int .i64 s.kind,.slice p.aa s.args.length p.ac,.bool s.ratio.neg,.slice p.na s.ratio.num.length p.nc,.slice p.da s.ratio.den.length p.dc] 86);clear hes hs hP hP' hki;by_cases hev:ev=0
      ·
       have hb:(ev != 0)=false:=by simpa using hev
       have HE2:=HES.out;rw [if_neg (by simpa using hev)] at HE2;replace HE2:=Hd HE2;clear hev HES HE;go_wp2_with fail;refine C.out.mono ?_;rintro e w2 ⟨rfl,hb2⟩;have hw2:=bth hw1 hb2;have hz2:=hz1.below' hb2;clear hb2 C;go_wp2;go_roundg (gk-1)
       case rel=>exact ⟨k2+1,by have:=HKG.out;omega,by go_num,hw2,hz2,HE2.out.symm⟩
       case measure=>have:=HKG.out;omega
      ·
       have hb:(ev != 0)=true:=by simpa using hev
       have hr:res=ev:=by
        have h3:=HES.out;rw [if_pos hev] at h3;rw [<- h3];exact HR2.out.symm
       subst hr;clear hev HES HE HR2;go_wp2_with fail;refine C.out.mono ?_;rintro e w2 ⟨rfl,hb2⟩;have hw2:=bth hw1 hb2;clear hb2 C;go_wp2;go_ret;exact ⟨rfl,hw2⟩
     ·
      have hr:res=0:=by
       have h3:=HE.out;rw [List.drop_eq_nil_of_le (by omega)] at h3;rw [<- HR2.out,<- h3];rfl
      subst hr;go_wp2;go_ret;exact ⟨rfl,hwr⟩
theorem qih (f:Fig) (sa:Option Addr) (sc:Nat) (ga:Option Addr) (gc:Nat) (w:World) (h:FigR w sa sc ga gc f) (hq:f.few) :
  Calls Tryz.prog 39 #[f.val sa sc ga gc] w fun e w'=>e=.returned (.int .i64 f.err)/\Below w.heap.size w w':=by
 obtain ⟨steps,goals⟩:=f;obtain ⟨hS,hG⟩:=h;dsimp only at hS hG;have hl1:=hS.len;have hl2:=hG.len;obtain ⟨res,hres⟩:∃ x,Fig.err ⟨steps,goals⟩=x:=⟨_,rfl⟩
 rw [hres];unfold Fig.err at hres;unfold Fig.val;dsimp only at hres ⊢;have HS:=Hd hS;have HG:=Hd hG;have HQ:=Hd hq;have HRES:=Hd hres;clear hS hG hq hres;have hz:=Blk.new w 25 #[.slice sa steps.length sc,.slice ga goals.length gc];have hb0:Below w.heap.size w (w.alloc (.cells #[.slice sa steps.length sc,.slice ga goals.length gc] 25)):=brf.alloc (nlr _) _;by_cases hbig:40<steps.length\/8<goals.length
 ·
  have hr:res=4:=by rw [<- HRES.out,if_pos hbig]
  subst hr;clear hz;by_cases h1:40<steps.length
  ·
   clear hbig;go_enter Tryz.func39,Tryz.ntmps39;go_wp2;go_ret;exact ⟨rfl,hb0⟩
  ·
   have h2:8<goals.length:=by omega
   clear hbig;go_enter Tryz.func39,Tryz.ntmps39;go_wp2;go_ret;exact ⟨rfl,hb0⟩
 ·
  have h1:steps.length<=40:=by omega
  have h2:goals.length<=8:=by omega
  have HR1:=HRES.out;rw [if_neg hbig] at HR1;replace HR1:=Hd HR1;clear hbig HRES;go_enter Tryz.func39,Tryz.ntmps39;go_wp2;revert hz hb0;generalize w.alloc (.cells #[.slice sa steps.length sc,.slice ga goals.length gc] 25)=w0;intro hz hb0
  go_loopg [3,4,21] steps.length (fun g _ _ q wr=>∃ k:Nat,k+g=steps.length/\q=.int .i64 k/\Below w.heap.size w wr/\Blk wr w.heap.size 25 #[.slice sa steps.length sc,.slice ga goals.length gc]/\qbe steps (steps.drop k) k=qbe steps steps 0)
  case atStart=>exact ⟨0,by omega,rfl,hb0,hz,rfl⟩
  case round =>
   obtain ⟨k,hkg,rfl,hwr,hzr,he⟩:=hrel;have HKG:=Hd hkg;have HE:=Hd he;have HZR:=Hd hzr;obtain ⟨z0,z1⟩:=cq2 hzr;have hzl:=hzr.lt;clear hb0 hz hkg he hzr;by_cases hlt:k<steps.length
   ·
    obtain ⟨s,hs⟩:=qac hlt;have C:=qpo steps k s sa sc wr (HS.out.ext (xbw hwr)) hs (HQ.out.1 s (List.mem_of_getElem? hs));have hes:=qgc (l:=steps) hs;rw [HE.out] at hes;revert C hes;generalize qbp steps s k=ev;intro C hes;replace C:=Hd C;have HES:=Hd hes;clear hes hs;by_cases hev:ev=0
    ·
     have hb:(ev != 0)=false:=by simpa using hev
     have HE2:=HES.out;rw [if_neg (by simpa using hev)] at HE2;replace HE2:=Hd HE2;clear hev HES HE;go_wp2_with fail;refine C.out.mono ?_;rintro e w2 ⟨rfl,hb2⟩;have hw2:=bth hwr hb2;have hz2:=HZR.out.below' hb2;clear hb2 C;go_wp2;go_roundg (gk-1)
     case rel=>exact ⟨k+1,by have:=HKG.out;omega,by go_num,hw2,hz2,HE2.out.symm⟩
     case measure=>have:=HKG.out;omega
    ·
     have hb:(ev != 0)=true:=by simpa using hev
     have hr:res=ev:=by
      have h3:=HES.out;rw [if_pos hev] at h3;have:=HR1.out;rw [h3,if_pos hev] at this;exact this.symm
     subst hr;clear hev HES HE HR1;go_wp2_with fail;refine C.out.mono ?_;rintro e w2 ⟨rfl,hb2⟩;have hw2:=bth hwr hb2;clear hb2 C;go_wp2;go_ret;exact ⟨rfl,hw2⟩
   ·
    have HR2:=HR1.out;have hz3:qbe steps steps 0=0:=by
     rw [<- HE.out,List.drop_eq_nil_of_le (by omega)];rfl
    rw [if_neg (by rw [hz3];simp)] at HR2;replace HR2:=Hd HR2;obtain ⟨wo,rfl⟩:∃ wo:World,wo=wr:=⟨_,rfl⟩
    clear hz3 HR1 HE HKG;go_wp2
    go_loopg [6,7,35] goals.length (fun g _ _ q wr=>∃ k:Nat,k+g=goals.length/\q=.int .i64 k/\Below w.heap.size w wr/\Blk wr w.heap.size 25 #[.slice sa steps.length sc,.slice ga goals.length gc]/\qb9 steps.length (goals.drop k)=qb9 steps.length goals)
    case atStart=>exact ⟨0,by omega,rfl,hwr,HZR.out,rfl⟩
    case round =>
     clear HZR z0 z1 hzl hwr;obtain ⟨k2,hkg,rfl,hwr,hzr,he⟩:=hrel;have HKG:=Hd hkg;have HE:=Hd he;have HZR:=Hd hzr;obtain ⟨z0,z1⟩:=cq2 hzr;have hzl:=hzr.lt;clear hkg he hzr;by_cases hlt2:k2<goals.length
     ·
      obtain ⟨s,hs⟩:=qac hlt2;obtain ⟨b,off,rfl,p,hC,hP,hki⟩:=(HG.out.ext (xbw hwr)).2.2 k2 s hs;have hP':qb4 (wr.alloc (.cells #[.int .i64 s.kind,.slice p.aa s.args.length p.ac,.bool s.ratio.neg,.slice p.na s.ratio.num.length p.nc,.slice p.da s.ratio.den.length p.dc] 86)) p s.args s.ratio:=hP.ext (qco _ _);have C:=qpg s steps.length p _ hP' (HQ.out.2 s (List.mem_of_getElem? hs)) (by constructor <;> omega) hki;obtain ⟨c0,c1,c2,c3,c4⟩:=hC;have hes:=qga (n:=steps.length) hs;rw [HE.out] at hes;unfold Fct.val at C;revert C hes;generalize qch s steps.length=ev;intro C hes;replace C:=Hd C;have HES:=Hd hes;have hw1:=hwr.alloc hwr.size (.cells #[.int .i64 s.kind,.slice p.aa s.args.length p.ac,.bool s.ratio.neg,.slice p.na s.ratio.num.length p.nc,.slice p.da s.ratio.den.length p.dc] 86)
      have hz1:=HZR.out.alloc (.cells #[.int .i64 s.kind,.slice p.aa s.args.length p.ac,.bool s.ratio.neg,.slice p.na s.ratio.num.length p.nc,.slice p.da s.ratio.den.length p.dc] 86);clear hes hs hP hP' hki;by_cases hev:ev=0
      ·
       have hb:(ev != 0)=false:=by simpa using hev
       have HE2:=HES.out;rw [if_neg (by simpa using hev)] at HE2;replace HE2:=Hd HE2;clear hev HES HE;go_wp2_with fail;refine C.out.mono ?_;rintro e w2 ⟨rfl,hb2⟩;have hw2:=bth hw1 hb2;have hz2:=hz1.below' hb2;clear hb2 C;go_wp2;go_roundg (gk-1)
       case rel=>exact ⟨k2+1,by have:=HKG.out;omega,by go_num,hw2,hz2,HE2.out.symm⟩
       case measure=>have:=HKG.out;omega
      ·
       have hb:(ev != 0)=true:=by simpa using hev
       have hr:res=ev:=by
        have h3:=HES.out;rw [if_pos hev] at h3;rw [<- h3];exact HR2.out.symm
       subst hr;clear hev HES HE HR2;go_wp2_with fail;refine C.out.mono ?_;rintro e w2 ⟨rfl,hb2⟩;have hw2:=bth hw1 hb2;clear hb2 C;go_wp2;go_ret;exact ⟨rfl,hw2⟩
     ·
      have hr:res=0:=by
       have h3:=HE.out;rw [List.drop_eq_nil_of_le (by omega)] at h3;rw [<- HR2.out,<- h3];rfl
      subst hr;go_wp2;go_ret;exact ⟨rfl,hwr⟩
end Go.Proofs.YtfaalkneigpcnaaGreatDoor
