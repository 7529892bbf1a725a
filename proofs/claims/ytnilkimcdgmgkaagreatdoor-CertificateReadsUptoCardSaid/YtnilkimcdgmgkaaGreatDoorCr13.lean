/- A map from strings to numbers that a call makes itself: the place of each name in a list. -/
import Derived.Test.YtnilkimcdgmgkaaGreatDoorCr12
import Derived.Test.YtnilkimcdgmgkaaGreatDoorCr11
import Derived.Test.YtnilkimcdgmgkaaGreatDoorCr1
import Derived.Maps.OwnSet
import Derived.Maps.OwnOps
import Derived.StringKeys
import Derived.ChangeMaps5
import Derived.Test.YtnilkimcdgmgkaaGreatDoorCr3
import Derived.Test.YtnilkimcdgmgkaaGreatDoorCr10
set_option linter.all false
set_option maxRecDepth 100000
set_option maxHeartbeats 4000000
namespace Go.Proofs.YtnilkimcdgmgkaaGreatDoor
open Go.RowKit
theorem qpf {P:Program} (w:World) (g:Nat) (s:ByteArray) (pos:Nat) (hi:Itr w g s pos) (h:pos<s.size) :
  ∃ (r:Nat) (n:Nat),(∀ ty:TypeId,(Instr.next (.pointer (some ⟨g,0,none⟩)) true ty).run P w=.ok (.tuple #[.bool true,.int .i64 pos,.int .i32 (r:Int)]) (qc5 w g s (pos+n)))/\((s[pos]'h).toNat<128->n=1/\r=(s[pos]'h).toNat)/\(128<=(s[pos]'h).toNat->128<=r):=by
 by_cases ha:(s[pos]'h).toNat<128
 · exact ⟨_,1,fun ty=>qrh w g s pos ty hi h ha,fun _=>⟨rfl,rfl⟩,fun hb=>by omega⟩
 ·
  unfold Itr at hi;refine ⟨(Utf8.decode s pos).1,(Utf8.decode s pos).2,fun ty=>?_,fun h=>absurd h ha,fun hb=>(decode_high s pos h hb).1⟩;simp only [Instr.next,getObj,setObj,Sem.run_bind,Sem.run,hi,Result.andThen,h,if_true];simp [goInt,qc5]
theorem qu8 {c:Nat} (h:letV c=true):c<128:=by unfold letV at h;rw [decide_eq_true_eq] at h;omega
theorem qtz {c:Nat} (h:digV c=true):c<128:=by unfold digV at h;rw [decide_eq_true_eq] at h;omega
theorem qx6 (c:Int):letV c=(!(digV c)&&(letV c||digV c)):=by
 rw [Bool.eq_iff_iff];unfold letV digV;simp;omega
theorem qwr (l:List UInt8) (c:UInt8) (r:List UInt8) (h:l=c :: r):nameV l=(!(digV c.toNat)&&l.all wordV):=by
 subst h
 show (letV c.toNat&&r.all wordV)=(!(digV c.toNat)&&(wordV c&&r.all wordV))
 rw [qx6,<- Bool.and_assoc];rfl
theorem qab8 {s:ByteArray} (h:0<s.size):nameV s.data.toList=(!(digV ((s[0]'h).toNat:Nat))&&s.data.toList.all wordV):=by
 have h':0<s.data.toList.length:=by simpa using h
 have e:s.data.toList=s.data.toList[0] :: s.data.toList.drop 1:=by
  have:=List.drop_eq_getElem_cons (l:=s.data.toList) (i:=0) h';simpa using this
 exact qwr _ _ _ e
theorem qai5 {s:ByteArray} {pos:Nat} (h:pos<s.size) (hw:wordV (s[pos]'h)=false):s.data.toList.all wordV=false:=by
 rw [List.all_eq_false];exact ⟨_,List.mem_of_getElem? (qda h),by simp [hw]⟩
theorem zz32 {P:Prop} (h:P:=by
 rintro e w' ⟨rfl,rfl⟩;go_wp2;go_roundg (gk-1)
 case rel=>exact ⟨pos+1,by have:=HP.out;omega,hi2,hb2,hfin.out⟩
 case measure=>have:=HP.out;omega
 ):P:=h
theorem qr0 (s:ByteArray) (w:World) (hs:s.size<=9223372036854775807) :
  Calls Tryz.prog 90 #[.string s] w fun e w'=>e=.returned (.bool (nameV s.data.toList))/\Below w.heap.size w w':=by
 by_cases h0:s.size=0
 ·
  have e:=qfq.1 h0;subst e;clear h0 hs;go_enter Tryz.func90,Tryz.ntmps90;go_wp2;go_ret;exact ⟨rfl,Below.refl _ _⟩
 have hse:s.toList.isEmpty=false:=by rw [qd8];simp;exact fun e=>h0 (qfq.2 e)
 have hse2:s.toList≠[]:=by intro e;rw [e] at hse;cases hse
 have hp:0<s.size:=by omega
 have hnm:=qab8 hp;have CD:=qcr ((s[0]'hp).toNat:Nat) w;obtain ⟨r,hr⟩:∃ r,nameV s.data.toList=r:=⟨_,rfl⟩
 rw [hr] at hnm ⊢;obtain ⟨b,hb⟩:∃ b,digV ((s[0]'hp).toNat:Nat)=b:=⟨_,rfl⟩
 rw [hb] at CD hnm;replace CD:=Hd CD;clear hb hr h0;go_enter Tryz.func90,Tryz.ntmps90
 cases b
 ·
  have HN:=Hd hnm;clear hnm;go_wp2_with fail;refine CD.out.mono ?_;rintro e w' ⟨rfl,rfl⟩;go_wp2;have hi0:=World.iter_heap w s 0;have hb0:Below w.heap.size w (w.iter s 0):=(Below.refl _ w).alloc (nlr _) _;revert hi0 hb0;generalize w.iter s 0=w0;intro hi0 hb0;clear CD
  go_loopg [4] s.size (fun g _ wr=>∃ pos:Nat,pos+g=s.size/\Itr wr w.heap.size s pos/\Below w.heap.size w wr/\(s.data.toList.take pos).all wordV=true)
  case atStart=>exact ⟨0,by omega,hi0,hb0,rfl⟩
  case round =>
   obtain ⟨pos,hpos,hi,hb,hall⟩:=hrel;clear hi0 hb0;have HA:=Hd hall;have HP:=Hd hpos;have hsz:=hi.lt;clear hall;by_cases hlt:pos<s.size
   ·
    obtain ⟨rr,n,hnx,hn1,hn2⟩:=qpf (P:=Tryz.prog) wr w.heap.size s pos hi hlt;have hw:wordV (s[pos]'hlt)=(letV ((s[pos]'hlt).toNat:Nat)||digV ((s[pos]'hlt).toNat:Nat)):=rfl;have hgl:=qda hlt;have hbad:=fun h=>qai5 (s:=s) (pos:=pos) hlt h
    have hi2:=hi.set (pos+1);have hb2:Below w.heap.size w (qc5 wr w.heap.size s (pos+n)):=qrd hb (nlr _) s _;by_cases ha:(s[pos]'hlt).toNat<128
    ·
     obtain ⟨rfl,rfl⟩:=hn1 ha;obtain ⟨c,hc⟩:∃ c,s[pos]'hlt=c:=⟨_,rfl⟩
     rw [hc] at hw hgl hbad hnx ha;have CL:=Hd (qff (c.toNat:Nat));have CD:=Hd (qcr (c.toNat:Nat));have hall2:wordV c=true->(s.data.toList.take (pos+1)).all wordV=true:=fun h=>by rw [qbc hgl,List.all_append,HA.out];simp [h]
     replace hall2:=Hd hall2;replace hbad:=Hd hbad;replace hw:=Hd hw;have h128:((c.toNat:Nat):Int)<128:=by omega
     have h256:((c.toNat:Nat):Int) % 256=((c.toNat:Nat):Int):=by omega
     obtain ⟨y,hy⟩:∃ y:Nat,c.toNat=y:=⟨_,rfl⟩
     rw [hy] at hw CL CD hnx h128 h256;obtain ⟨w2,hw2⟩:∃ W,qc5 wr w.heap.size s (pos+1)=W:=⟨_,rfl⟩
     rw [hw2] at hnx hi2 hb2;obtain ⟨bl,hbl⟩:∃ b,letV (y:Int)=b:=⟨_,rfl⟩
     obtain ⟨bd,hbd⟩:∃ b,digV (y:Int)=b:=⟨_,rfl⟩
     have hw3:=hw.out;rw [hbl,hbd] at hw3;simp only [hbl] at CL;simp only [hbd] at CD;have CL2:=Hd CL.out;have CD2:=Hd CD.out;replace hbl:=Hd hbl;replace hbd:=Hd hbd;replace hw3:=Hd hw3;clear CL CD hn2 hy hc hw2 hw hgl
     cases bl
     ·
      cases bd
      ·
       have hfin:=hbad.out (by rw [hw3.out];rfl);have HF:=Hd (HN.out.trans (by rw [hfin,Bool.and_false]));clear hfin;go_wp2_with fail;refine (CL2.out _).mono ?_;rintro e w' ⟨rfl,rfl⟩;go_wp2_with fail;refine (CD2.out _).mono ?_;rintro e w' ⟨rfl,rfl⟩;go_wp2;go_ret;exact ⟨qbg HF.out.symm,hb2⟩
      ·
       have hfin:=Hd (hall2.out (by rw [hw3.out];rfl));go_wp2_with fail;refine (CL2.out _).mono ?_;rintro e w' ⟨rfl,rfl⟩;go_wp2_with fail;refine (CD2.out _).mono ?_;exact zz32
     ·
      have hfin:=Hd (hall2.out (by rw [hw3.out];rfl));go_wp2_with fail;refine (CL2.out _).mono ?_;exact zz32
    ·
     have hr128:(128:Int)<=(rr:Int):=by have:=hn2 (by omega);omega
     have hwf:wordV (s[pos]'hlt)=false:=by
      rw [hw,Bool.or_eq_false_iff];exact ⟨Bool.eq_false_iff.2 fun h=>ha (by simpa using qu8 h),Bool.eq_false_iff.2 fun h=>ha (by simpa using qtz h)⟩
     have HF:=Hd (HN.out.trans (by rw [hbad hwf,Bool.and_false]));clear hwf hbad hw hgl hi2 hn1 hn2;go_wp2;go_ret;exact ⟨qbg HF.out.symm,hb2⟩
   ·
    have hns:=fun ty=>qpj (P:=Tryz.prog) wr w.heap.size s pos ty hi hlt
    have HF:Hid (r=true):=Hd (HN.out.trans (by
     have:=HA.out;rw [List.take_of_length_le (by have:s.data.toList.length=s.size:=by { simp };omega)] at this;rw [this];first | done | rfl))
    go_wp2;go_ret;exact ⟨qbg HF.out.symm,hb⟩
 ·
  simp at hnm;subst hnm;go_wp2_with fail;refine CD.out.mono ?_;rintro e w' ⟨rfl,rfl⟩;go_wp2;go_ret;exact ⟨rfl,Below.refl _ _⟩
def okTo (s:List UInt8) (k:Nat):Bool:=(List.range k).all fun i=>match s[i]? with
 | some c=>letV c.toNat||(!(decide (i=0))&&digV c.toNat)
 | none=>true
theorem qxu (s:List UInt8) (k:Nat) (c:UInt8) (h:s[k]? = some c):okTo s (k+1)=(okTo s k&&(letV c.toNat||(!(decide (k=0))&&digV c.toNat))):=by
 unfold okTo;rw [List.range_succ,List.all_append];simp [h]
theorem quz (s:List UInt8) (k m:Nat) (h:k<=m) (hf:okTo s k=false):okTo s m=false:=by
 unfold okTo at hf ⊢;rw [List.all_eq_false] at hf ⊢;obtain ⟨i,hi,h2⟩:=hf;exact ⟨i,List.mem_range.2 (ltl (List.mem_range.1 hi) h),h2⟩
theorem qpb (l:List UInt8) (hl:l≠[]):okTo l l.length=nameV l:=by
 cases l with
 | nil=>exact absurd rfl hl
 | cons c r =>
  rw [Bool.eq_iff_iff];unfold okTo nameV;rw [List.all_eq_true,Bool.and_eq_true,List.all_eq_true]
  constructor
  ·
   intro h
   constructor
   ·
    have:=h 0 (List.mem_range.2 (by simp));simpa using this
   ·
    intro x hx;obtain ⟨i,hi⟩:=List.getElem?_of_mem hx;have:=h (i+1) (List.mem_range.2 (by have:=(List.getElem?_eq_some_iff.1 hi).1;simp;omega));simp [hi] at this;unfold wordV;simpa using this
  ·
   rintro ⟨h1,h2⟩ i hi
   cases i with
   | zero=>simp [h1]
   | succ i =>
    have hi':i<r.length:=by have:=List.mem_range.1 hi;simp at this;omega
    have:=h2 r[i] (List.getElem_mem hi');simp [hi'];unfold wordV at this;simpa using this
theorem zz31 {P:Prop} (h:P:=by
 rintro e w' ⟨rfl,rfl⟩;go_wp2;go_roundg (gk-1)
 case rel=>exact ⟨k+1,by have:=HK.out;omega,by go_num,hf.out,rfl⟩
 case measure=>have:=HK.out;omega
 ):P:=h
theorem qrp (s:ByteArray) (w:World) (hs:s.size<=9223372036854775807) :
  Calls Tryz.prog 116 #[.string s] w fun e w'=>e=.returned (.bool (nameV s.data.toList))/\w=w':=by
 go_enter Tryz.func116,Tryz.ntmps116;go_wp2
 go_loopg [3] s.size (fun g s3 wr=>∃ k:Nat,k+g=s.size/\s3=.int .i64 k/\okTo s.data.toList k=true/\w=wr)
 case atStart=>exact ⟨0,by omega,rfl,rfl,rfl⟩
 case round =>
  obtain ⟨k,hk,rfl,hok,rfl⟩:=hrel;have HK:=Hd hk;clear hk;by_cases hlt:k<s.size
  ·
   have hgl:=qda hlt;have hsc:=qxu s.data.toList k _ hgl;have hff:=fun h=>quz s.data.toList (k+1) s.size (by omega) h
   have hnn:okTo s.data.toList s.size=nameV s.data.toList:=by
    rw [<- qpb _ (by intro e;have:s.data.toList.length=s.size:=by { simp };rw [e] at this;simp at this;omega)];congr 1
   obtain ⟨y,hy⟩:∃ y:Nat,(s[k]'hlt).toNat=y:=⟨_,rfl⟩
   rw [hy] at hsc;have CL:=qhy (y:Int) w;have CD:=qdx (y:Int) w;rw [hok,Bool.true_and] at hsc;rw [hnn] at hff;obtain ⟨bl,hbl⟩:∃ b,letV (y:Int)=b:=⟨_,rfl⟩
   obtain ⟨bd,hbd⟩:∃ b,digV (y:Int)=b:=⟨_,rfl⟩
   rw [hbl] at CL hsc;rw [hbd] at CD hsc;replace CL:=Hd CL;replace CD:=Hd CD;replace hff:=Hd hff;replace hsc:=Hd hsc;clear hnn hgl hbl hbd hok
   cases bl
   ·
    by_cases k0:k=0
    ·
     subst k0;have hf:Hid (nameV s.data.toList=false):=Hd (hff.out (by rw [hsc.out];rfl));clear CD hff hsc;go_wp2_with fail;refine CL.out.mono ?_;rintro e w' ⟨rfl,rfl⟩;go_wp2;go_ret;exact ⟨qbg hf.out.symm,rfl⟩
    ·
     have hk0:((k:Int)==0)=false:=by simp;omega
     cases bd
     ·
      have hf:Hid (nameV s.data.toList=false):=Hd (hff.out (by rw [hsc.out];simp));clear hff hsc;go_wp2_with fail;refine CL.out.mono ?_;rintro e w' ⟨rfl,rfl⟩;go_wp2_with fail;refine CD.out.mono ?_;rintro e w' ⟨rfl,rfl⟩;go_wp2;go_ret;exact ⟨qbg hf.out.symm,rfl⟩
     ·
      have hf:Hid (okTo s.data.toList (k+1)=true):=Hd (by rw [hsc.out];simp [k0]);clear hff hsc;go_wp2_with fail;refine CL.out.mono ?_;rintro e w' ⟨rfl,rfl⟩;go_wp2_with fail;refine CD.out.mono ?_;exact zz31
   ·
    have hf:Hid (okTo s.data.toList (k+1)=true):=Hd (by rw [hsc.out];rfl);clear hff hsc CD;go_wp2_with fail;refine CL.out.mono ?_;exact zz31
  ·
   have hs0:s.data.toList.length=s.size:=by simp
   by_cases h0:s.size=0
   ·
    have e:=qfq.1 h0;subst e;clear h0 hs0 hok;go_wp2;go_ret;exact ⟨rfl,rfl⟩
   ·
    have hse:s.toList.isEmpty=false:=by rw [qd8];simp;exact fun e=>h0 (qfq.2 e)
    have hse2:s.toList≠[]:=by intro e;rw [e] at hse;cases hse
    have hn:nameV s.data.toList=true:=by
     rw [<- qpb _ (by intro e;rw [e] at hs0;simp at hs0;omega),hs0,show s.size=k by have:=HK.out;omega];exact hok
    have HN:=Hd hn;have hb:=qai6 s ⟨#[]⟩;clear hn hok hs0;go_wp2;go_ret;exact ⟨qbg HN.out.symm,rfl⟩
end Go.Proofs.YtnilkimcdgmgkaaGreatDoor
namespace Go.Proofs.YtnilkimcdgmgkaaGreatDoor
open Go.RowKit Go.Maps Go.WideMaps
theorem qly:Keyed Tryz.prog 9:=string_keyed Tryz.underlying9
theorem zeroB (w:World):(zeroValue 4).run Tryz.prog w=.ok (.bool false) w:=by kernel_rfl
def OwnM (w:World) (b n:Nat) (S:ByteArray->Bool):Prop :=
 ∃ D:DataW Unit,w.ownsMap Tryz.prog 9 (plainElem Tryz.prog 4) b n D/\∀ s:ByteArray,D.atKey (.string s.data.toList) (.lit (.bool false))=.lit (.bool (S s))
theorem qjp {s t:ByteArray} (h:s≠t):Lit.string s.data.toList≠Lit.string t.data.toList:=fun e=>h (by
 injection e with e
 cases s;cases t
 simp at e;rw [e])
section
variable {w w' : World} {b n : Nat} {S : ByteArray -> Bool}
theorem OwnM.made (w:World):OwnM (w.alloc (.map #[] 0)) w.heap.size 0 (fun _=>false):=⟨.map [],World.ownsMap_made _ _ _ _,fun _=>rfl⟩
theorem OwnM.lt (h:OwnM w b n S):b<w.heap.size:=by obtain ⟨D,h1,_⟩:=h;exact h1.lt
theorem OwnM.look (h:OwnM w b n S) {s:ByteArray} (hs:s.size<=maxLen):(Instr.lookup 137 (.map (some b)) (.string s) false).run Tryz.prog w=.ok (.bool (S s)) w:=by
 obtain ⟨D,h1,h2⟩:=h;obtain ⟨v,ps,hr,hv⟩:=h1.lookup qly Tryz.underlying137 (zeroB w) (plainElem_bool Tryz.underlying4 false) (keyOf_string_mk Tryz.underlying9 hs);rw [h2 s] at hv;rw [hr];unfold plainElem at hv;simp [Tryz.underlying4] at hv
 cases v <;> simp at hv
 rw [hv.1]
end
section
variable {w : World} {b n : Nat} {S : ByteArray -> Bool} {ops : Array Oper} {rest : List Oper} {o : Oper} {a : Act} {Q : Exit -> Act -> World -> Prop}
theorem qag3 (hg:o.guard=none) (m x v:Operand) (hop:o.op=Op.mapUpdate 137 m x v) (hm:a.eval m=.map (some b)) (hown:OwnM w b n S) (hn:n<16777216)
  (s:ByteArray) (hs:s.size<=maxLen) (hx:a.eval x=.string s) (hv:a.eval v=.bool true)
  (hK:∀ w',OwnM w' b (n+1) (fun t=>decide (t=s)||S t)->w.grownBy w' (some b)->wpList Tryz.prog ops Q rest (a.put o.dst undef) w'):wpList Tryz.prog ops Q (o :: rest) a w:=by
 obtain ⟨D,h1,h2⟩:=hown;refine wpList_mapUpdate_own w hg m x v 137 hop 9 4 qly Tryz.underlying137 (plainElem Tryz.prog 4) b n D hm h1 (by unfold maxLen;omega) _ _ (.string s.data.toList) hx hv
  (keyOf_string_mk Tryz.underlying9 hs) (.lit (.bool true)) [] (plainElem_bool Tryz.underlying4 true) fun w' r1 r2=>hK w' ⟨_,r1,fun t=>?_⟩ r2
 by_cases he:t=s
 ·
  subst he;rw [atKey_put_same (h1.isMap) (show WideAt.IsKeyLit (.string _) from trivial)];simp
 ·
  rw [atKey_put_other (qjp he),h2 t];simp [he]
end
end Go.Proofs.YtnilkimcdgmgkaaGreatDoor
namespace Go.Proofs.YtnilkimcdgmgkaaGreatDoor
open Go.RowKit
def nmB (s:ByteArray):Bool:=nameV s.data.toList
def inB (l:List ByteArray) (s:ByteArray):Bool:=l.any fun t=>decide (t=s)
def dupAt (l:List ByteArray) (i:Nat):Bool:=match l[i]? with
 | some s=>inB (l.take i) s
 | none=>false
def errNm (l:List ByteArray):Int:=if l.all nmB=true then (if (List.range l.length).any (dupAt l)=true then 7 else 0) else 9
theorem qn3 {l:List ByteArray} {k:Nat} {s:ByteArray} (h:l[k]? = some s) (hb:nmB s=false):errNm l=9:=by
 unfold errNm;rw [if_neg];intro h2;rw [List.all_eq_true] at h2;rw [h2 s (List.mem_of_getElem? h)] at hb
 cases hb
theorem qjr {l:List ByteArray} {k:Nat} {s:ByteArray} (ha:l.all nmB=true) (h:l[k]? = some s) (hb:inB (l.take k) s=true):errNm l=7:=by
 unfold errNm;rw [if_pos ha,if_pos];rw [List.any_eq_true];exact ⟨k,List.mem_range.2 (qas h),by unfold dupAt;rw [h];simp [hb]⟩
theorem qt5 {l:List ByteArray} (ha:l.all nmB=true) (hb:∀ k s,l[k]? = some s->inB (l.take k) s=false):errNm l=0:=by
 unfold errNm;rw [if_pos ha,if_neg];rw [List.any_eq_true];rintro ⟨k,hk,h⟩;obtain ⟨s,hs⟩:=qad (List.mem_range.1 hk);unfold dupAt at h;rw [hs] at h;have h2:inB (l.take k) s=true:=h;rw [hb k s hs] at h2;cases h2
theorem qqa {l:List ByteArray} {k:Nat} {x:ByteArray} (hx:l[k]? = some x):inB (l.take (k+1))=fun t=>decide (t=x)||inB (l.take k) t:=by
 funext t
 unfold inB;rw [qbc hx,List.any_append,Bool.or_comm];congr 1;simp only [List.any_cons,List.any_nil,Bool.or_false];rw [decide_eq_decide];exact eq_comm
theorem qlz {l:List ByteArray} {k:Nat} {x:ByteArray} (h:∀ j s,j<k->l[j]? = some s->inB (l.take j) s=false) (hx:l[k]? = some x) (hn:inB (l.take k) x=false):∀ j s,j<k+1->l[j]? = some s->inB (l.take j) s=false:=fun j s hj hs=>by
 by_cases e:j=k
 · subst e;rw [hx] at hs;injection hs with hs;subst hs;exact hn
 · exact h j s (by omega) hs
theorem zz33 {P:Prop} (h:P:=by
 have hf:=Hd (qt5 HA.out fun i s hs=>hfr.out i s (by have:=qas hs;omega) hs);go_wp2;go_ret;exact ⟨qdz hf.out.symm,hb⟩
 ):P:=h
theorem qlt (l:List ByteArray) (a:Option Addr) (c:Nat) (w:World) (h:StrsR w a c l) (hz:∀ s∈l,s.size<=1048576) (hl:l.length<=1000000) :
  Calls Tryz.prog 47 #[.slice a l.length c] w fun e w'=>e=.returned (.int .i64 (errNm l))/\Below w.heap.size w w':=by
 have HL:=Hd h;have HZ:=Hd hz;clear h hz;have hmm:=@run_makeMap Tryz.prog;go_enter Tryz.func47,Tryz.ntmps47;go_wp2
 go_loopg [4,10] l.length (fun g _ s10 wr=>∃ k:Nat,k+g=l.length/\s10=.int .i64 k/\Hid ((l.take k).all nmB=true)/\Below w.heap.size w wr)
 case atStart=>exact ⟨0,by omega,rfl,rfl,Below.refl _ _⟩
 case round =>
  obtain ⟨k,hk,rfl,hall,hb⟩:=hrel;have HK:=Hd hk;clear hk;by_cases hlt:k<l.length
  ·
   obtain ⟨x,hx⟩:=qad hlt;obtain ⟨b,o,rfl,hc⟩:=HL.out.2.2 k x hx;simp only [Nat.mul_one] at hc;have hc2:=held hc wr hb;have CN:=qr0 x wr (by have:=HZ.out x (List.mem_of_getElem? hx);omega);have hx2:=Hd hx;have hall2:nmB x=true->(l.take (k+1)).all nmB=true:=fun h=>by rw [qbc hx,List.all_append,hall.out];simp [h]
   obtain ⟨bn,hbn⟩:∃ b,nameV x.data.toList=b:=⟨_,rfl⟩
   rw [hbn] at CN;have hnb:=Hd (show nmB x=bn from hbn);replace CN:=Hd CN;replace hall2:=Hd hall2;clear hbn hx hc;go_wp2_with fail;refine CN.out.mono ?_;rintro e w2 ⟨rfl,hb2⟩;have hw2:=bth hb hb2
   cases bn
   ·
    have hf:=Hd (qn3 hx2.out hnb.out);go_wp2;go_ret;exact ⟨qdz hf.out.symm,hw2⟩
   ·
    have hf:=Hd (hall2.out hnb.out);go_wp2;go_roundg (gk-1)
    case rel=>exact ⟨k+1,by have:=HK.out;omega,by go_num,hf.out,hw2⟩
    case measure=>have:=HK.out;omega
  ·
   have HA:Hid (l.all nmB=true):=Hd (by have:=hall.out;rwa [qfc hlt] at this);obtain ⟨wo,rfl⟩:∃ wo:World,wo=wr:=⟨_,rfl⟩
   clear hall HK;go_wp2;have hm:=OwnM.made wo;have hb0:Below w.heap.size w (wo.alloc (.map #[] 0)):=hb.alloc hb.size _;revert hm hb0;generalize wo.alloc (.map #[] 0)=w0;intro hm hb0;obtain ⟨mb,hmb⟩:∃ q,wo.heap.size=q:=⟨_,rfl⟩
   have hmw:w.heap.size<=mb:=by have:=hb.size;omega
   rw [hmb] at hm ⊢;clear hmb hb hmm
   go_loopg [7,21] l.length (fun g _ s21 w2=>∃ j:Nat,j+g=l.length/\s21=.int .i64 j/\OwnM w2 mb j (inB (l.take j))/\Hid (∀ i s,i<j->l[i]? = some s->inB (l.take i) s=false)/\Below w.heap.size w w2)
   case atStart=>exact ⟨0,by omega,rfl,hm,by intro i s hi;omega,hb0⟩
   case round =>
    clear hm hb0;obtain ⟨j,hj,rfl,hm,hfr,hb⟩:=hrel;have HJ:=Hd hj;clear hj;by_cases hlt:j<l.length
    ·
     obtain ⟨x,hx⟩:=qad hlt;obtain ⟨b,o,rfl,hc⟩:=HL.out.2.2 j x hx;simp only [Nat.mul_one] at hc;have hc2:=held hc wr hb;have hxs:x.size<=maxLen:=by have:=HZ.out x (List.mem_of_getElem? hx);unfold maxLen;omega
     have hlook:=hm.look hxs;have hsu:=Hd (qqa hx);have hx2:=Hd hx;have HM:=Hd hm;have hml:=hm.lt;obtain ⟨bi,hbi⟩:∃ q,inB (l.take j) x=q:=⟨_,rfl⟩
     rw [hbi] at hlook;have hbi2:=Hd hbi;clear hbi hx hc hm
     cases bi
     ·
      have hf2:=Hd (qlz hfr.out hx2.out hbi2.out);go_wp2_with (at_mapUpdate;go_must (refine qag3 rfl (.tmp 28) (.tmp 29) (.const (.bool true)) rfl rfl HM.out (by omega) x hxs rfl rfl ?_);intro w2 hm2 hg2);rw [<- hsu.out] at hm2;have hw2:Below w.heap.size w w2:=hb.grown hg2 hb.size (fun k hk=>by injection hk with hk;omega);go_roundg (gk-1)
      case rel=>exact ⟨j+1,by have:=HJ.out;omega,by go_num,hm2,hf2.out,hw2⟩
      case measure=>have:=HJ.out;omega
     ·
      have hf:=Hd (qjr HA.out hx2.out hbi2.out);go_wp2;go_ret;exact ⟨qdz hf.out.symm,hb⟩
    ·
     exact zz33
theorem qlr (l:List ByteArray) (a:Option Addr) (c:Nat) (w:World) (h:StrsR w a c l) (hz:∀ s∈l,s.size<=1048576) (hl:l.length<=1000000) :
  Calls Tryz.prog 63 #[.slice a l.length c] w fun e w'=>e=.returned (.int .i64 (errNm l))/\Below w.heap.size w w':=by
 have HL:=Hd h;have HZ:=Hd hz;clear h hz;go_enter Tryz.func63,Tryz.ntmps63;go_wp2
 go_loopg [3] l.length (fun g s3 wr=>∃ k:Nat,k+g=l.length/\s3=.int .i64 k/\Hid ((l.take k).all nmB=true)/\Below w.heap.size w wr)
 case atStart=>exact ⟨0,by omega,rfl,rfl,Below.refl _ _⟩
 case round =>
  obtain ⟨k,hk,rfl,hall,hb⟩:=hrel;have HK:=Hd hk;clear hk;by_cases hlt:k<l.length
  ·
   obtain ⟨x,hx⟩:=qad hlt;obtain ⟨b,o,rfl,hc⟩:=HL.out.2.2 k x hx;simp only [Nat.mul_one] at hc;have hc2:=held hc wr hb;have CN:=qrp x wr (by have:=HZ.out x (List.mem_of_getElem? hx);omega);have hx2:=Hd hx;have hall2:nmB x=true->(l.take (k+1)).all nmB=true:=fun h=>by rw [qbc hx,List.all_append,hall.out];simp [h]
   obtain ⟨bn,hbn⟩:∃ b,nameV x.data.toList=b:=⟨_,rfl⟩
   rw [hbn] at CN;have hnb:=Hd (show nmB x=bn from hbn);replace CN:=Hd CN;replace hall2:=Hd hall2;clear hbn hx hc;go_wp2_with fail;refine CN.out.mono ?_;rintro e w2 ⟨rfl,rfl⟩
   cases bn
   ·
    have hf:=Hd (qn3 hx2.out hnb.out);go_wp2;go_ret;exact ⟨qdz hf.out.symm,hb⟩
   ·
    have hf:=Hd (hall2.out hnb.out);go_wp2;go_roundg (gk-1)
    case rel=>exact ⟨k+1,by have:=HK.out;omega,by go_num,hf.out,hb⟩
    case measure=>have:=HK.out;omega
  ·
   have HA:Hid (l.all nmB=true):=Hd (by have:=hall.out;rwa [qfc hlt] at this);obtain ⟨wo,rfl⟩:∃ wo:World,wo=wr:=⟨_,rfl⟩
   clear hall HK;go_wp2
   go_loopg [4,5] l.length (fun g s4 _ w2=>∃ j:Nat,j+g=l.length/\s4=.int .i64 j/\Hid (∀ i s,i<j->l[i]? = some s->inB (l.take i) s=false)/\Below w.heap.size w w2)
   case atStart=>exact ⟨0,by omega,rfl,by intro i s hi;omega,hb⟩
   case round =>
    clear hb;obtain ⟨j,hj,rfl,hfr,hb⟩:=hrel;have HJ:=Hd hj;clear hj;by_cases hlt:j<l.length
    ·
     obtain ⟨x,hx⟩:=qad hlt;have hx2:=Hd hx;obtain ⟨w2,rfl⟩:∃ wo:World,wo=wr:=⟨_,rfl⟩
     obtain ⟨gj,rfl⟩:∃ n,n=gk:=⟨_,rfl⟩
     go_wp2
     go_loopg [5] j (fun g s5 w3=>∃ i:Nat,i+g=j/\s5=.int .i64 i/\Hid (inB (l.take i) x=false)/\Below w.heap.size w w3)
     case atStart=>exact ⟨0,by omega,rfl,rfl,hb⟩
     case round =>
      clear hb;obtain ⟨i,hi,rfl,hno,hb⟩:=hrel;have HI:=Hd hi;clear hi;by_cases hij:i<j
      ·
       have hil:i<l.length:=by omega
       obtain ⟨y,hy⟩:=qad hil;obtain ⟨b,o,rfl,hc⟩:=HL.out.2.2 j x hx2.out;obtain ⟨b2,o2,e2,hcy⟩:=HL.out.2.2 i y hy;injection e2 with e2
       injection e2 with eb eo
       subst eb eo;simp only [Nat.mul_one] at hc hcy;have hc2:=held (held hc wr hb);have hcy2:=held (held hcy wr hb);have hsu:=qqa hy;have hbeq:=qe4 x y;have hy2:=Hd hy;replace hsu:=Hd hsu;clear hy hc hcy hx;have s0:Below wr.heap.size wr wr.drew:=brf.drew;by_cases hxy:x=y
       ·
        have hdup:inB (l.take j) x=true:=by
         unfold inB;rw [List.any_eq_true];exact ⟨y,List.mem_of_getElem? (by rw [List.getElem?_take_of_lt hij];exact hy2.out),by simp [hxy]⟩
        have hf:=Hd (qjr HA.out hx2.out hdup);rw [decide_eq_true hxy] at hbeq;have HXY:=Hd hxy;clear hdup hxy;go_wp2;refine wrx (S:=Below wr.heap.size wr) [(0,.q),(1,.q),(2,.q),(3,.q),(4,.q),(5,.q),(6,.q),(7,.q),(8,.p)] (s0) ?_
        iterate 8 (refine qab rfl rfl fun K hK=>xq ?_;go_simp;refine hK _ _ ?_;clear hK K)
        iterate 1 (refine qae rfl rfl fun K hK=>xp ?_;go_simp;refine hK _ _ ?_;clear hK K)
        refine qac ?_;go_wp2;go_ret;exact ⟨qdz hf.out.symm,hb.trans (s0.mono hb.size)⟩
       ·
        have hno2:inB (l.take (i+1)) x=false:=by rw [hsu.out];simp [hno.out,hxy]
        rw [decide_eq_false hxy] at hbeq;have HXY:=Hd hxy;replace hno2:=Hd hno2;clear hxy;go_wp2;refine wrx (S:=Below wr.heap.size wr) [(0,.q),(1,.q),(2,.q),(3,.q),(4,.q),(5,.q),(6,.q),(7,.q),(8,.p)] (s0) ?_
        iterate 8 (refine qab rfl rfl fun K hK=>xq ?_;go_simp;refine hK _ _ ?_;clear hK K)
        iterate 1 (refine qae rfl rfl fun K hK=>xp ?_;go_simp;refine hK _ _ ?_;clear hK K)
        refine qac ?_;go_wp2;go_roundg (gk-1)
        case rel=>exact ⟨i+1,by have:=HI.out;omega,by go_num,hno2.out,hb.trans (s0.mono hb.size)⟩
        case measure=>have:=HI.out;omega
      ·
       have hij2:i=j:=by have:=HI.out;omega
       subst hij2;have hf2:=Hd (qlz hfr.out hx2.out hno.out);go_wp2;go_roundg (gj-1)
       case rel=>exact ⟨i+1,by have:=HJ.out;omega,by go_num,hf2.out,hb⟩
       case measure=>have:=HJ.out;omega
    ·
     exact zz33
theorem qlv (p:List Trm):∀ (i:Nat) (v:Int),(varsI p i)[(varsI p i).length-1]? = some v->v∈varsI p i/\∀ u∈varsI p i,u<=v
 | 0,v,h=>by simp [varsI] at h
 | i+1,v,h=>by
  rw [qmq] at h ⊢;by_cases hs:seenB p i=true
  ·
   rw [if_pos hs] at h ⊢;simp at h;subst h;refine ⟨by simp,fun u hu=>?_⟩;rcases List.mem_append.1 hu with hu | hu
   · have:=qqi p i u hu;omega
   · simp at hu;omega
  ·
   rw [if_neg hs] at h ⊢;exact qlv p i v h
theorem qok {p:List Trm} {i v:Nat} (hv:v<i) (hs:seenB p v=true):(v:Int)∈varsI p i:=by
 unfold varsI;exact List.mem_map.2 ⟨v,List.mem_filter.2 ⟨List.mem_range.2 hv,hs⟩,rfl⟩
theorem quq {p:List Trm} {i:Nat} {u:Int} (h:u∈varsI p i):∃ v:Nat,u=v/\seenB p v=true:=by
 unfold varsI at h;obtain ⟨v,hv,rfl⟩:=List.mem_map.1 h;exact ⟨v,rfl,(List.mem_filter.1 hv).2⟩
def bigB (l:List Trm) (n:Nat):Bool:=l.any fun t=>decide (n<t.mono.length)
theorem qaa1 {m:List Int} {v:Nat} (h:expAt m v≠0):v<m.length:=by
 apply Nat.lt_of_not_le;intro hc;apply h;unfold expAt;rw [List.getD_eq_getElem?_getD,List.getElem?_eq_none hc];rfl
theorem zz34 {P:Prop} (h:P:=by
 have hx0:x=0:=by unfold expAt at e0;rw [List.getD_eq_getElem?_getD,hx] at e0;exact e0
 rw [qf6 (by rw [hx,hx0])] at hmt
 cases hmt
 ):P:=h
theorem qvl {l:List Trm} {n:Nat} {v:Int} (hm:∀ t∈l,monoB t.mono=true) (h:(varsI l 64)[(varsI l 64).length-1]? = some v):bigB l n=decide ((n:Int)<=v):=by
 obtain ⟨h1,h2⟩:=qlv l 64 v h;rw [Bool.eq_iff_iff,decide_eq_true_eq];unfold bigB;rw [List.any_eq_true]
 constructor
 ·
  rintro ⟨t,ht,hb⟩;have hb':n<t.mono.length:=by simpa using hb
  have hmt:=hm t ht;have hme:=qbv hmt;have hne:expAt t.mono (t.mono.length-1)≠0:=by
   intro e0;have hlt:t.mono.length-1<t.mono.length:=by omega
   obtain ⟨x,hx⟩:=qad hlt;exact zz34
  have:=h2 _ (qok (p:=l) (i:=64) (v:=t.mono.length-1) (by omega) (by unfold seenB;rw [List.any_eq_true];exact ⟨t,ht,by simp [hne]⟩))
  omega
 ·
  intro hn;obtain ⟨u,rfl,hs⟩:=quq h1;unfold seenB at hs;rw [List.any_eq_true] at hs;obtain ⟨t,ht,hx⟩:=hs;have:=qaa1 (m:=t.mono) (v:=u) (by simpa using hx);exact ⟨t,ht,by simp;omega⟩
theorem qw6 {l:List Trm} {n:Nat} (hm:∀ t∈l,monoB t.mono=true) (h:(varsI l 64).length=0):bigB l n=false:=by
 rw [Bool.eq_false_iff];intro hb;unfold bigB at hb;rw [List.any_eq_true] at hb;obtain ⟨t,ht,hb⟩:=hb;have hb':n<t.mono.length:=by simpa using hb
 have hmt:=hm t ht;have hme:=qbv hmt;have hne:expAt t.mono (t.mono.length-1)≠0:=by
  intro e0;obtain ⟨x,hx⟩:=qad (show t.mono.length-1<t.mono.length by omega);exact zz34
 have:=qok (p:=l) (i:=64) (v:=t.mono.length-1) (by omega) (by unfold seenB;rw [List.any_eq_true];exact ⟨t,ht,by simp [hne]⟩);rw [List.length_eq_zero_iff] at h;rw [h] at this
 cases this
theorem qk2 {l:List Trm} (h:polyB l=true):∀ t∈l,t.coef.right=true/\monoB t.mono=true:=fun t ht=>by
 obtain ⟨i,hi⟩:=List.getElem?_of_mem ht;have hil:=(List.getElem?_eq_some_iff.1 hi).1;unfold polyB at h;rw [List.all_eq_true] at h;have:=h i (List.mem_range.2 hil);have ho:=qla hi (by simpa using this);unfold okT at ho;simp only [Bool.and_eq_true] at ho;exact ⟨ho.1.1,ho.2⟩
def signP (k:Nat) (q:Rat):ByteArray:=if k=0 then (if q<0 then ⟨#[45]⟩ else ⟨#[]⟩) else if q<0 then ⟨#[32,45,32]⟩ else ⟨#[32,43,32]⟩
def qa2 (l:List Trm) (names:List ByteArray):Nat->ByteArray
 | 0=>⟨#[]⟩
 | k+1=>match l[k]? with
  | some t=>qa2 l names k++signP k t.coef.q++termB t.coef.q t.mono names
  | none=>qa2 l names k
theorem qb4 {l:List Trm} {names:List ByteArray} {k:Nat} {t:Trm} (h:l[k]? = some t):qa2 l names (k+1)=qa2 l names k++signP k t.coef.q++termB t.coef.q t.mono names:=by rw [qa2,h]
def qd9 (l:List Trm) (names:List ByteArray):ByteArray × Int :=
 if polyB l=true then if errNm names=0 then if bigB l names.length=true then (⟨#[]⟩,6) else if l.length=0 then (⟨#[48]⟩,0) else (qa2 l names l.length,0) else (⟨#[]⟩,errNm names) else (⟨#[]⟩,1)
theorem qmc (k:Nat) (q:Rat):(signP k q).size<=3:=by unfold signP;split <;> split <;> simp [ByteArray.size]
theorem qhx {l:List Trm} {names:List ByteArray} {M:Nat} (h:∀ t∈l,(termB t.coef.q t.mono names).size<=M):∀ k,(qa2 l names k).size<=k*(M+3)
 | 0=>by simp [qa2,ByteArray.size]
 | k+1=>by
  have ih:=qhx h k;rw [qa2]
  split
  ·
   next t ht =>
   have h1:=h t (List.mem_of_getElem? ht);have h2:=qmc k t.coef.q;rw [ByteArray.size_append,ByteArray.size_append,Nat.succ_mul]
   omega
  · rw [Nat.succ_mul];omega
inductive Got (α : Type) where
 | ok (v:α) (r:List UInt8)
 | bad (k:Nat) (e:Int)
def Got.bnd {α β:Type} (g:Got α) (f:α->List UInt8->Got β):Got β:=match g with
 | .ok v r=>f v r
 | .bad k e=>.bad k e
def lost {α:Type} (l:List UInt8):Got α:=if l.length=0 then .bad 0 10 else .bad l.length 9
def digU (c:UInt8):Bool:=digV c.toNat
def letU (c:UInt8):Bool:=letV c.toNat
def numL:List UInt8->Nat
 | []=>0
 | c :: r=>if digU c=true then (if c=48 then 1 else 1+(r.takeWhile digU).length) else 0
def decL (l:List UInt8):Nat:=l.foldl (fun a c=>10*a+(c.toNat-48)) 0
def numG (l:List UInt8):Got (List UInt8):=if numL l=0 then lost l else if 1000<numL l then .bad l.length 4 else .ok (l.take (numL l)) (l.drop (numL l))
def namL:List UInt8->Nat
 | []=>0
 | c :: r=>if letU c=true then 1+(r.takeWhile wordV).length else 0
def whoV (names:List ByteArray) (s:List UInt8):Option Nat:=(names.take 64).findIdx? fun x=>decide (x=ofL s)
def namG (names:List ByteArray) (l:List UInt8):Got Nat:=if namL l=0 then lost l else match whoV names (l.take (namL l)) with
 | none=>.bad l.length 6
 | some v=>.ok v (l.drop (namL l))
def powG (names:List ByteArray) (l:List UInt8):Got (Nat × Int):=(namG names l).bnd fun v r=>if r[0]? = some 94 then (numG (r.drop 1)).bnd fun d r2=>if 1048576<decL d then .bad (r.drop 1).length 4 else .ok (v,decL d) r2 else .ok (v,1) r
def putM (m:List Int) (p:Nat × Int):List Int:=m.set p.1 (expAt m p.1+p.2)
def proG (names:List ByteArray) (F:Nat):Nat->List Int->List UInt8->Got (List Int)
 | 0,_,_=>.bad 0 4
 | n+1,m,l=>(powG names l).bnd fun p r=>if 1048576<expAt m p.1+p.2 then .bad F 4 else if r[0]? = some 42 then proG names F n (putM m p) (r.drop 1) else .ok (putM m p) r
def zerM:List Int:=List.replicate 64 0
def cutM (m:List Int):List Int:=(m.reverse.dropWhile fun x=>decide (x=0)).reverse
def cofG (l:List UInt8):Got Rat:=(numG l).bnd fun p r=>if r[0]? = some 47 then (numG (r.drop 1)).bnd fun q r2=>if decL q=0 then .bad (r.drop 1).length 3 else .ok (qv false (decL p) (decL q)) r2 else .ok (qv false (decL p) 1) r
def monG (names:List ByteArray) (F:Nat) (q:Rat) (l:List UInt8):Got (Rat × List Int):=(proG names F (l.length+1) zerM l).bnd fun m r=>.ok (q,cutM m) r
def terG (names:List ByteArray) (l:List UInt8):Got (Rat × List Int):=if numL l=0 then monG names l.length 1 l else (cofG l).bnd fun q r=>if r[0]? = some 42 then monG names l.length q (r.drop 1) else .ok (q,[]) r
def eatG (c:UInt8) (l:List UInt8):Got Unit:=if l[0]? = some c then .ok () (l.drop 1) else lost l
def sepG (l:List UInt8):Got Bool:=(eatG 32 l).bnd fun _ r=>if r[0]? = some 45 then (eatG 32 (r.drop 1)).bnd fun _ r'=>.ok true r' else (eatG 43 r).bnd fun _ r1=>(eatG 32 r1).bnd fun _ r2=>.ok false r2
def sgnT (neg:Bool) (t:Rat × List Int):Rat × List Int:=(if neg=true then -t.1 else t.1,t.2)
def sumG (names:List ByteArray):Nat->Bool->List (Rat × List Int)->List UInt8->Got (List (Rat × List Int))
 | 0,_,_,_=>.bad 0 4
 | f+1,neg,acc,l=>if acc.length=4000 then .bad l.length 4 else (terG names l).bnd fun t r=>if r.length=0 then .ok (acc++[sgnT neg t]) r else (sepG r).bnd fun ng r'=>sumG names f ng (acc++[sgnT neg t]) r'
def reaG (names:List ByteArray) (l:List UInt8):Got (List (Rat × List Int)):=if l[0]? = some 45 then sumG names (l.length+1) true [] (l.drop 1) else sumG names (l.length+1) false [] l
theorem qjj (l:List UInt8) (c:UInt8):decL (l++[c])=10*decL l+(c.toNat-48):=by unfold decL;rw [List.foldl_append];rfl
theorem qsq {d:Nat} (h:d<10):(48+d).toUInt8.toNat=48+d:=by
 rw [Nat.toUInt8,UInt8.toNat_ofNat'];omega
theorem qwu (n:Nat):decL (digs n)=n:=by
 induction n using Nat.strongRecOn with
 | _ n ih =>
  by_cases h:n=0
  · subst h;rw [qcq];rfl
  ·
   rw [qci h,qjj,ih (n / 10) (by omega),qsq (Nat.mod_lt n (by omega)),Nat.add_sub_cancel_left,Nat.mul_comm,Nat.add_comm];exact Nat.mod_add_div' n 10
theorem qaa9 {d:Nat} (h:d<10):digU (48+d).toUInt8=true:=by
 unfold digU digV;rw [qsq h];simp;omega
theorem qac8 (n:Nat):∀ c∈digs n,digU c=true:=by
 induction n using Nat.strongRecOn with
 | _ n ih =>
  by_cases h:n=0
  · subst h;rw [qcq];intro c hc;cases hc
  ·
   rw [qci h];intro c hc;rcases List.mem_append.1 hc with hc | hc
   · exact ih (n / 10) (by omega) c hc
   · rw [List.mem_singleton] at hc;subst hc;exact qaa9 (Nat.mod_lt n (by omega))
theorem qhi (n:Nat):decL (textN n)=n:=by
 unfold textN
 split
 · next h=>subst h;rfl
 · exact qwu n
def facL (names:List ByteArray) (p:Nat × Int):List UInt8:=if p.2=1 then (nameA names p.1).data.toList else (nameA names p.1).data.toList++94 :: textN p.2.toNat
def facsL (names:List ByteArray):List (Nat × Int)->List UInt8
 | []=>[]
 | p :: r=>facL names p++r.flatMap fun q=>42 :: facL names q
theorem qaa6 (m:List Int) (p:Nat × Int):(putM m p).length=m.length:=by simp [putM]
def prsF (f:Nat->Int) (vs:List Nat):List (Nat × Int):=(vs.map fun v=>(v,f v)).filter fun p=>decide (0<p.2)
theorem qwh (f:Nat->Int) (v:Nat) (vs:List Nat):prsF f (v :: vs)=if 0<f v then (v,f v) :: prsF f vs else prsF f vs:=by
 unfold prsF;rw [List.map_cons,List.filter_cons];by_cases h:0<f v
 · rw [if_pos (by simpa using h),if_pos h]
 · rw [if_neg (by simpa using h),if_neg h]
theorem qf9 (a:List Int):∃ z,a=cutM a++z/\(∀ x∈z,x=0)/\(cutM a)[(cutM a).length-1]? ≠ some 0:=by
 have h:=List.takeWhile_append_dropWhile (p:=fun x:Int=>decide (x=0)) (l:=a.reverse);refine ⟨(a.reverse.takeWhile fun x=>decide (x=0)).reverse,?_,fun x hx=>?_,?_⟩
 ·
  unfold cutM;rw [<- List.reverse_append,h,List.reverse_reverse]
 ·
  rw [List.mem_reverse] at hx;have:=List.all_eq_true.1 (List.all_takeWhile (p:=fun x:Int=>decide (x=0)) (l:=a.reverse)) x hx;simpa using this
 ·
  unfold cutM;intro e;rw [<- List.getLast?_eq_getElem?,List.getLast?_reverse] at e;have hh:=List.head?_dropWhile_not (fun x:Int=>decide (x=0)) a.reverse;rw [e] at hh;simp at hh
def prsM (m:List Int):List (Nat × Int):=prsF (expAt m) (List.range m.length)
theorem qed (l:List UInt8):(ofL l).data.toList=l:=by unfold ofL;simp
theorem qx4 (names:List ByteArray) (v:Nat) (x:Int):(facP names v x).map (·.data.toList)=if 0<x then [facL names (v,x)] else []:=by
 unfold facP facL;by_cases h1:x=1
 · rw [if_pos h1,if_pos (by omega),if_pos h1];rfl
 ·
  rw [if_neg h1];by_cases h2:1<x
  ·
   rw [if_pos h2,if_pos (by omega),if_neg h1];simp [ByteArray.data_append,qed]
  · rw [if_neg h2,if_neg (by omega)];rfl
theorem qo9 (names:List ByteArray) (f:Nat->Int):∀ vs:List Nat,(vs.flatMap fun v=>facP names v (f v)).map (·.data.toList)=(prsF f vs).map (facL names)
 | []=>rfl
 | v :: vs=>by
  rw [List.flatMap_cons,List.map_append,qx4,qo9 names f vs,qwh]
  split <;> simp
theorem qi9 (r:List (List UInt8)):Lib.joinTail [42] r=r.flatMap fun x=>42 :: x:=by
 unfold Lib.joinTail
 induction r with
 | nil=>rfl
 | cons x r ih=>rw [List.map_cons,List.flatten_cons,List.flatMap_cons,ih];rfl
def termL (names:List ByteArray) (q:Rat) (m:List Int):List UInt8:=if m.length=0\/absQ q≠1 then textQ (absQ q)++(prsM m).flatMap fun p=>42 :: facL names p else facsL names (prsM m)
theorem ql3 (names:List ByteArray) (q:Rat) (m:List Int):(termB q m names).data.toList=termL names q m:=by
 have e:(termB q m names).data.toList=Lib.join ((qaz q m names m.length).map (·.data.toList)) [42]:=qed _;rw [e];unfold qaz cofP termL;rw [List.map_append,qo9]
 change Lib.join (_++(prsM m).map (facL names)) [42]=_
 split
 · rw [List.map_cons,List.map_nil,List.singleton_append,Lib.join_cons,qi9,qed,List.flatMap_map]
 ·
  rw [List.map_nil,List.nil_append];generalize prsM m=l
  cases l with
  | nil=>rfl
  | cons p r=>rw [List.map_cons,Lib.join_cons,qi9,List.flatMap_map];rfl
def trmQ (t:Trm):Rat × List Int:=(t.coef.q,t.mono)
def sepL (q:Rat):List UInt8:=if q<0 then [32,45,32] else [32,43,32]
def tailL (names:List ByteArray) (l:List Trm):List UInt8:=l.flatMap fun t=>sepL t.coef.q++termL names t.coef.q t.mono
def bodyL (names:List ByteArray):List Trm->List UInt8
 | []=>[]
 | t :: r=>(if t.coef.q<0 then [45] else [])++(termL names t.coef.q t.mono++tailL names r)
theorem qkv (names:List ByteArray) (t:Trm) (r:List Trm):∀ k,k<=r.length->(qa2 (t :: r) names (k+1)).data.toList++tailL names (r.drop k)=bodyL names (t :: r)
 | 0,_=>by
  rw [qb4 (t:=t) rfl];unfold bodyL signP qa2;rw [if_pos rfl,List.drop_zero];simp only [ByteArray.data_append,Array.toList_append,ql3]
  split <;> simp
 | k+1,h=>by
  have hk:k<r.length:=by omega
  have ih:=qkv names t r k (by omega);rw [List.drop_eq_getElem_cons hk] at ih;rw [qb4 (t:=r[k]) (by rw [List.getElem?_cons_succ,List.getElem?_eq_getElem hk])];rw [<- ih];unfold signP tailL sepL;rw [if_neg (by omega)];simp only [ByteArray.data_append,Array.toList_append,ql3,List.flatMap_cons,List.append_assoc]
  split <;> simp
theorem qvg (names:List ByteArray) (l:List Trm):(qa2 l names l.length).data.toList=bodyL names l:=by
 cases l with
 | nil=>rfl
 | cons t r =>
  have:=qkv names t r r.length (nlr _);rw [List.drop_length] at this;simpa [tailL] using this
def oneP (t:Tm):List Tm:=if t.1=0 then [] else [t]
def normP (l:List Tm):List Tm:=l.foldl (fun p t=>addP p (oneP t)) []
theorem qah2 {B:Int} {t:Tm} (h:Mok B t.2):Pok B (oneP t):=by
 unfold oneP
 split
 · exact Pok.nil B
 · next h0=>exact (Pok.nil B).cons h h0 fun s hs=>by cases hs
theorem qye (t:Tm) (m:List Int):coefP (oneP t) m=if t.2=m then t.1 else 0:=by
 unfold oneP
 split
 · next h=>rw [h];simp [coefP]
 · rw [qfy];simp [coefP,Rat.add_zero]
theorem ql2 {B:Int}:∀ (l p:List Tm),Pok B p->(∀ t∈l,Mok B t.2)->Pok B (l.foldl (fun p t=>addP p (oneP t)) p)/\∀ m,coefP (l.foldl (fun p t=>addP p (oneP t)) p) m=coefP p m+coefP l m
 | [],p,hp,_=>⟨hp,fun m=>by simp [coefP,Rat.add_zero]⟩
 | t :: l,p,hp,hl=>by
  have h1:=qah2 (hl t (by simp));obtain ⟨h2,h3⟩:=ql2 l _ (qe6 hp h1) fun x hx=>hl x (by simp [hx])
  refine ⟨h2,fun m=>?_⟩;rw [List.foldl_cons,h3,qef hp.1 h1.1,qye,qfy,Rat.add_assoc]
theorem qix {B:Int} {l:List Tm} (h:∀ t∈l,Mok B t.2):Pok B (normP l)/\∀ m,coefP (normP l) m=coefP l m:=by
 obtain ⟨h1,h2⟩:=ql2 l [] (Pok.nil B) h;exact ⟨h1,fun m=>by unfold normP;rw [h2];simp [coefP,Rat.zero_add]⟩
theorem qox:∀ (l:List Tm) (m:List Int),sumC ((l.filter fun t=>!(decide (t.1=0))).map fun t=>[t]) m=coefP l m
 | [],m=>rfl
 | t :: l,m=>by
  rw [List.filter_cons,qfy,<- qox l m];by_cases h:t.1=0
  · rw [if_neg (by simp [h]),h];simp [Rat.zero_add]
  ·
   rw [if_pos (by simp [h]),List.map_cons,sumC,qfy];simp [coefP,Rat.add_zero]
theorem qgl {B:Int} {l:List Tm} (h:∀ t∈l,Mok B t.2):qa7 ((l.filter fun t=>!(decide (t.1=0))).map fun t=>[t])=normP l:=by
 obtain ⟨h1,h2⟩:=qix h;have h5:∀ p∈(l.filter fun t=>!(decide (t.1=0))).map fun t=>[t],Pok B p:=fun p hp=>by
  obtain ⟨t,ht,rfl⟩:=List.mem_map.1 hp;rw [List.mem_filter] at ht;exact (Pok.nil B).cons (h t ht.1) (by simpa using ht.2) fun s hs=>by cases hs
 obtain ⟨h3,h4⟩:=qf1 _ h5;exact qss h3 h1 fun m=>by rw [h4,h2,qox]
theorem qrg {m:List Int} (h:monoB m=true):Mok 1048576 m:=by
 have g:=qbv h;exact ⟨g.2,(fun e=>by rw [qf6 e] at h;cases h),g.1⟩
theorem qis {t:Trm} (h:okT t=true):t.coef.right=true/\monoB t.mono=true/\t.coef.q≠0:=by
 unfold okT at h;simp only [Bool.and_eq_true,Bool.not_eq_true',decide_eq_false_iff_not] at h;refine ⟨h.1.1,h.2,fun e=>h.1.2 ?_⟩;have hr:=(qep h.1.1).2.1;rw [e] at hr;rw [<- hr,show (0:Rat).num.natAbs=0 from rfl,qai]
 rfl
theorem qac9 {l:List Trm} (h:polyB l=true) {i:Nat} (hi:i<l.length):badAt l i=false:=by
 unfold polyB at h;rw [List.all_eq_true] at h;simpa using h i (List.mem_range.2 hi)
theorem qw8 {r s:Rt} (hr:r.right=true) (hs:s.right=true) (h:r.q=s.q):r=s:=by
 obtain ⟨a1,a2,a3⟩:=qep hr;obtain ⟨b1,b2,b3⟩:=qep hs;rw [h] at a1 a2 a3
 cases r;cases s
 simp only [Rt.mk.injEq];exact ⟨a1.trans b1.symm,a2.symm.trans b2,a3.symm.trans b3⟩
theorem qzo {s t:Trm} (hs:okT s=true) (ht:okT t=true) (h:trmQ s=trmQ t):s=t:=by
 unfold trmQ at h;injection h with h1 h2
 have:=qw8 (qis hs).1 (qis ht).1 h1
 cases s;cases t
 simp only at this h2;subst this h2
 rfl
theorem qpy {l:List Trm} (h:polyB l=true):∀ t∈l,okT t=true:=fun t ht=>by
 obtain ⟨i,hi⟩:=List.getElem?_of_mem ht;exact qla hi (qac9 h (qas hi))
def readP (names:List ByteArray) (s:List UInt8):Got (List Tm):=(reaG names s).bnd fun l r=>.ok (normP l) r
def tailT (names:List ByteArray) (p:List Tm):List UInt8:=p.flatMap fun t=>sepL t.1++termL names t.1 t.2
def bodyT (names:List ByteArray):List Tm->List UInt8
 | []=>[48]
 | t :: r=>(if t.1<0 then [45] else [])++(termL names t.1 t.2++tailT names r)
def bigT (p:List Tm) (n:Nat):Bool:=p.any fun t=>decide (n<t.2.length)
def qdf (names:List ByteArray) (p:List Tm):List UInt8 × Int:=if errNm names=0 then if bigT p names.length=true then ([],6) else (bodyT names p,0) else ([],errNm names)
theorem qac7 (names:List ByteArray) (l:List Trm):tailL names l=tailT names (l.map trmQ):=by
 unfold tailL tailT;rw [List.flatMap_map];rfl
theorem qz5 (names:List ByteArray) (l:List Trm):(if l.length=0 then [48] else bodyL names l)=bodyT names (l.map trmQ):=by
 cases l with
 | nil=>rfl
 | cons t r =>
  rw [if_neg (by simp),bodyL,qac7]
  rfl
theorem qae9 (l:List Trm) (n:Nat):bigB l n=bigT (l.map trmQ) n:=by unfold bigB bigT;rw [List.any_map];rfl
theorem qo4 {names:List ByteArray} {l:List Trm} (h:polyB l=true):qd9 l names=(ofL (qdf names (l.map trmQ)).1,(qdf names (l.map trmQ)).2):=by
 unfold qd9 qdf;rw [if_pos h,<- qae9,<- qz5]
 split
 ·
  split
  · rfl
  ·
   split
   · rfl
   ·
    refine Prod.ext ?_ rfl;apply qe1;rw [qvg,qed]
 · rfl
def polC (names:List ByteArray) (s:List UInt8):Option (List Tm) × Int :=
 if errNm names=0 then match readP names s with
  | .bad _ e=>(none,e)
  | .ok p _=>if qdf names p=(s,0) then (some p,0) else (none,9)
 else (none,errNm names)
theorem qng {names:List ByteArray} {s:List UInt8} {p:List Tm} {e:Int} (h:polC names s=(some p,e)):e=0/\qdf names p=(s,0)/\∃ r,readP names s=.ok p r:=by
 unfold polC at h
 split at h
 ·
  split at h
  · cases h
  ·
   next p' r hr =>
   split at h
   ·
    next hp =>
    injection h with a b
    injection a with a
    subst a;exact ⟨b.symm,hp,r,hr⟩
   · cases h
 · cases h
def cutL (b:UInt8):List UInt8->Option (List UInt8 × List UInt8)
 | []=>none
 | c :: r=>if c=b then some ([],r) else (cutL b r).map fun p=>(c :: p.1,p.2)
theorem qsl (b:UInt8):∀ (t r:List UInt8),(∀ c∈t,c≠b)->cutL b (t++b :: r)=some (t,r)
 | [],r,_=>by rw [List.nil_append,cutL,if_pos rfl]
 | c :: t,r,h=>by
  rw [List.cons_append,cutL,if_neg (h c (by simp)),qsl b t r fun x hx=>h x (by simp [hx])]
  rfl
theorem qn1 (b:UInt8):∀ (t:List UInt8),(∀ c∈t,c≠b)->cutL b t=none
 | [],_=>rfl
 | c :: t,h=>by
  rw [cutL,if_neg (h c (by simp)),qn1 b t fun x hx=>h x (by simp [hx])]
  rfl
theorem qa9 (b:UInt8):∀ (l t r:List UInt8),cutL b l=some (t,r)->l=t++b :: r/\∀ c∈t,c≠b
 | [],_,_,h=>by cases h
 | c :: l,t,r,h=>by
  rw [cutL] at h
  split at h
  ·
   next hc =>
   injection h with h
   injection h with h1 h2
   subst h1 h2 hc;exact ⟨rfl,fun x hx=>by cases hx⟩
  ·
   next hc =>
   cases hl:cutL b l with
   | none=>rw [hl] at h;cases h
   | some p =>
    rw [hl] at h;injection h with h
    injection h with h1 h2
    obtain ⟨g1,g2⟩:=qa9 b l p.1 p.2 hl;subst h1 h2;refine ⟨by rw [List.cons_append,<- g1],fun x hx=>?_⟩;rcases List.mem_cons.1 hx with e | e
    · subst e;exact hc
    · exact g2 x e
def numC (least:Nat) (s:List UInt8):Option Nat:=(List.range 65).find? fun n=>decide (least<=n)&&decide (textN n=s)
theorem qo1 {n m:Nat} (h:textN n=textN m):n=m:=by rw [<- qhi n,h,qhi]
theorem qg1 {least n:Nat} (h:least<=n) (hn:n<=64):numC least (textN n)=some n:=by
 unfold numC;rw [List.find?_eq_some_iff_getElem];refine ⟨by simp [h],n,by simp;omega,by simp,fun j hj=>?_⟩;simp only [List.getElem_range,Bool.not_eq_true',Bool.and_eq_false_iff,decide_eq_false_iff_not];exact .inr fun e=>by have:=qo1 e;omega
theorem qcv {least n:Nat} {s:List UInt8} (h:numC least s=some n):least<=n/\n<=64/\textN n=s:=by
 unfold numC at h;have h1:=List.find?_some h;have h2:=List.mem_of_find?_eq_some h;rw [List.mem_range] at h2;simp only [Bool.and_eq_true,decide_eq_true_eq] at h1;exact ⟨h1.1,by omega,h1.2⟩
structure CrQ where
 F:List (List Tm)
 P:List Int
 n:Int
 C:List (List Tm)
def noQ:CrQ:=⟨[],[],0,[]⟩
def qfl:List UInt8:=[112,111,119,101,114]
def qb8:List UInt8:=[102,97,99,116,111,114]
def wCof:List UInt8:=[99,111,102,97,99,116,111,114]
def wEnd:List UInt8:=[101,110,100]
def qc3 (t:List UInt8):Option CrQ:=match cutL 32 t with
 | some (w,r)=>if w=qfl then (numC 1 r).map fun n=>⟨[],[],n,[]⟩ else none
 | none=>none
def lineQ (names:List ByteArray) (c:CrQ) (t:List UInt8):Option CrQ × Int:=match cutL 32 t with
 | none=>(none,9)
 | some (w,r) =>
  if w=wCof then match polC names r with
   | (some p,_)=>(some { c with C:=c.C++[p] },0)
   | (none,e)=>(none,e)
  else if w=qb8 then match cutL 32 r with
   | none=>(none,9)
   | some (d,x)=>match numC 0 d with
    | none=>(none,9)
    | some k=>if c.C=[] then match polC names x with
      | (some p,_)=>if p=[] then (none,3) else (some { c with F:=c.F++[p],P:=c.P++[(k:Int)] },0)
      | (none,e)=>(none,e)
     else (none,9)
  else (none,9)
def restQ (names:List ByteArray):Nat->Nat->CrQ->List UInt8->CrQ × Nat × Int
 | 0,_,_,_=>(noQ,0,0)
 | f+1,n,c,s=>match cutL 10 s with
  | none=>(noQ,n,10)
  | some (t,r)=>if t=wEnd then (if r=[] then (c,0,0) else match cutL 10 r with
    | none=>(noQ,n+1,10)
    | some _=>(noQ,n+1,9))
   else match lineQ names c t with
    | (some c',_)=>restQ names f (n+1) c' r
    | (none,e)=>(noQ,n,e)
def readQ (names:List ByteArray) (s:List UInt8):CrQ × Nat × Int:=match cutL 10 s with
 | none=>(noQ,1,10)
 | some (t,r)=>match qc3 t with
  | none=>(noQ,1,9)
  | some c=>restQ names (r.length+1) 2 c r
def lnFQ (x:Int) (t:List UInt8):List UInt8:=qb8++32 :: (textN x.toNat++32 :: t)
def lnCQ (t:List UInt8):List UInt8:=wCof++32 :: t
structure Fr (Y : Nat -> Prop) (w w' : World) : Prop where
 os:w'.os=w.os
 tape:w'.tape=w.tape
 output:w'.output=w.output
 size:w.heap.size<=w'.heap.size
 block:∀ k,k<w.heap.size->¬ Y k->w'.heap[k]? = w.heap[k]?
section
variable {Y Z : Nat -> Prop} {w w' w'' : World}
theorem Fr.refl (Y:Nat->Prop) (w:World):Fr Y w w:=⟨rfl,rfl,rfl,nlr _,fun _ _ _=>rfl⟩
theorem Fr.trans (h:Fr Y w w') (k:Fr Y w' w''):Fr Y w w'':=⟨k.os.trans h.os,k.tape.trans h.tape,k.output.trans h.output,Nat.le_trans h.size k.size,fun n h1 h2=>(k.block n (ltl h1 h.size) h2).trans (h.block n h1 h2)⟩
theorem Fr.then_ (h:Fr Y w w') (k:Fr Z w' w'') (e:∀ b,Z b->Y b\/w.heap.size<=b):Fr Y w w'':=⟨k.os.trans h.os,k.tape.trans h.tape,k.output.trans h.output,Nat.le_trans h.size k.size,fun n h1 h2=>(k.block n (ltl h1 h.size) (fun hz=>(e n hz).elim h2 (fun h=>by omega))).trans (h.block n h1 h2)⟩
theorem Fr.mono (h:Fr Y w w') (e:∀ b,Y b->Z b):Fr Z w w':=⟨h.os,h.tape,h.output,h.size,fun k h1 h2=>h.block k h1 fun hy=>h2 (e _ hy)⟩
theorem Fr.below (h:Below w.heap.size w w'):Fr Y w w':=⟨h.os,h.tape,h.output,h.size,fun k hk _=>h.block k hk⟩
theorem Fr.call (h:Fr Y w w') (k:Below w'.heap.size w' w''):Fr Y w w'':=h.trans (Fr.below k)
theorem Fr.alloc (h:Fr Y w w') (o:Obj):Fr Y w (w'.alloc o):=h.call (brf.alloc (nlr _) _)
theorem Fr.setc (h:Fr Y w w') {g i:Nat} {u:Value} (hg:Y g\/w.heap.size<=g):Fr Y w (w'.setCell ⟨g,i,none⟩ u):=⟨h.os,h.tape,h.output,by have:=h.size;simpa [World.setCell] using this,fun k h1 h2 =>
 (Below.heap_setCell _ _ _ _ (fun e=>by simp at e;subst e;exact hg.elim h2 (fun h=>by omega))).trans (h.block k h1 h2)⟩
theorem Fr.grown (h:Fr Y w w') {a:Option Addr} {n c:Nat} (hg:w'.grownBy w'' (Value.ownBlock (.slice a n c))) (ha:∀ g,a=some g->Y g.block\/w.heap.size<=g.block):Fr Y w w'':=⟨hg.os.trans h.os,hg.tape.trans h.tape,hg.output.trans h.output,Nat.le_trans h.size hg.size,fun k h1 h2 =>
 (hg.block k (ltl h1 h.size) (fun e=>by
  cases a with
  | none=>simp [Value.ownBlock] at e
  | some g=>simp [Value.ownBlock] at e;subst e;exact (ha g rfl).elim h2 (fun h=>by omega))).trans (h.block k h1 h2)⟩
theorem Fr.agr (h:Fr Y w w'):Agr Y w w':=fun p v hp hc=>by
 have:=h.block p.block (World.block_lt_of_cell? w p hc) hp;rw [<- hc];unfold World.cell?;rw [this]
theorem Blk.fr {g:Nat} {t:TypeId} {cs:Array Value} (h:Blk w g t cs) (k:Fr Y w w') (hg:¬ Y g):Blk w' g t cs:=(k.block g h.lt hg).trans h
theorem Below.fr {B:Nat} {W0:World} (h:Below B W0 w) (k:Fr Y w w') (hY:∀ b,Y b->B<=b) (hB:B<=w.heap.size):Below B W0 w' :=
 ⟨k.os.trans h.os,k.tape.trans h.tape,k.output.trans h.output,Nat.le_trans h.size k.size,fun n hn=>(k.block n (by omega) (fun hy=>by have:=hY n hy;omega)).trans (h.block n hn)⟩
end
end Go.Proofs.YtnilkimcdgmgkaaGreatDoor
namespace Go.Proofs.YtnilkimcdgmgkaaGreatDoor
open Go.RowKit Go.Maps Go.WideMaps
def whoL (l:List ByteArray) (s:ByteArray):Option Nat:=l.findIdx? fun x=>decide (x=s)
theorem qah4 {l:List ByteArray} {s:ByteArray} {v:Nat} (h:whoL l s=some v):v<l.length:=by
 unfold whoL at h;exact (List.findIdx?_eq_some_iff_getElem.1 h).1
theorem qww {l:List ByteArray} {x:ByteArray} (hx:whoL l x=none) (s:ByteArray):whoL (l++[x]) s=if s=x then some l.length else whoL l s:=by
 unfold whoL at hx ⊢;rw [List.findIdx?_append];by_cases h:s=x
 ·
  subst h;rw [hx,if_pos rfl];simp [List.findIdx?_cons]
 ·
  rw [if_neg h];have h2:¬ x=s:=fun e=>h e.symm
  simp [List.findIdx?_cons,h2]
theorem zeroI (w:World):(zeroValue 3).run Tryz.prog w=.ok (.int .i64 0) w:=by kernel_rfl
def OwnV (w:World) (b n:Nat) (l:List ByteArray):Prop :=
 ∃ D:DataW Unit,w.ownsMap Tryz.prog 9 (plainElem Tryz.prog 3) b n D/\∀ s:ByteArray,D.atKey (.string s.data.toList) (.lit (.int .i64 0))=.lit (.int .i64 ((whoL l s).getD 0:Nat))/\Maps.has D (.string s.data.toList)=(whoL l s).isSome
section
variable {w w' : World} {b n : Nat} {l : List ByteArray}
theorem OwnV.made (w:World):OwnV (w.alloc (.map #[] 0)) w.heap.size 0 []:=⟨.map [],World.ownsMap_made _ _ _ _,fun _=>⟨rfl,rfl⟩⟩
theorem OwnV.kept {row:Option Nat} (h:OwnV w b n l) (hg:w.grownBy w' row) (hne:some b≠row):OwnV w' b n l:=by obtain ⟨D,h1,h2⟩:=h;exact ⟨D,h1.kept hg hne,h2⟩
theorem OwnV.alloc (h:OwnV w b n l) (o:Obj):OwnV (w.alloc o) b n l:=by obtain ⟨D,h1,h2⟩:=h;exact ⟨D,h1.alloc o,h2⟩
theorem OwnV.fr {g:Nat} (h:OwnV w b n l) (k:Fr (fun x=>x=g) w w') (hg:b≠g):OwnV w' b n l :=
 h.kept (row:=some g) ⟨k.os,k.tape,k.output,k.size,fun i hi hne=>k.block i hi fun e=>hne (by rw [e])⟩ (fun e=>hg (by injection e))
theorem qxv {v:Int} (h:(Lit.int .i64 v).wf=true):plainElem (H:=Unit) Tryz.prog 3 (.int .i64 v)=some (.lit (.int .i64 v),[]):=plainElem_int Tryz.underlying3 h
theorem OwnV.look (h:OwnV w b n l) {s:ByteArray} (hs:s.size<=maxLen):(Instr.lookup 93 (.map (some b)) (.string s) true).run Tryz.prog w=.ok (.tuple #[.int .i64 ((whoL l s).getD 0:Nat),.bool (whoL l s).isSome]) w:=by
 obtain ⟨D,h1,h2⟩:=h;obtain ⟨v,ps,hr,hv⟩:=h1.look_ok qly Tryz.underlying93 (zeroI w) (qxv (v:=0) (by decide)) (keyOf_string_mk Tryz.underlying9 hs);rw [(h2 s).1] at hv;obtain ⟨c,rfl,hc,_⟩:=plainElem_int_inv Tryz.underlying3 hv;simp only [Prod.mk.injEq,DataW.lit.injEq,Lit.int.injEq] at hc;rw [hr,(h2 s).2,<- hc.1.2]
end
section
variable {w : World} {b n : Nat} {l : List ByteArray} {ops : Array Oper} {rest : List Oper} {o : Oper} {a : Act} {Q : Exit -> Act -> World -> Prop}
theorem qac5 (hg:o.guard=none) (m x v:Operand) (hop:o.op=Op.mapUpdate 93 m x v) (hm:a.eval m=.map (some b)) (hown:OwnV w b n l) (hn:n<16777216)
  (s:ByteArray) (hs:s.size<=maxLen) (hx:a.eval x=.string s) (hw:whoL l s=none) (hl:l.length<=16777216) (hv:a.eval v=.int .i64 l.length)
  (hK:∀ w',OwnV w' b (n+1) (l++[s])->w.grownBy w' (some b)->wpList Tryz.prog ops Q rest (a.put o.dst undef) w'):wpList Tryz.prog ops Q (o :: rest) a w:=by
 obtain ⟨D,h1,h2⟩:=hown;refine wpList_mapUpdate_own w hg m x v 93 hop 9 3 qly Tryz.underlying93 (plainElem Tryz.prog 3) b n D hm h1 (by unfold maxLen;omega) _ _ (.string s.data.toList) hx hv
  (keyOf_string_mk Tryz.underlying9 hs) (.lit (.int .i64 l.length)) [] (qxv (wf_of (by unfold InInt;omega))) fun w' r1 r2=>hK w' ⟨_,r1,fun t=>?_⟩ r2
 rw [qww hw];by_cases he:t=s
 ·
  subst he;rw [atKey_put_same (h1.isMap) (show WideAt.IsKeyLit (.string _) from trivial),has_put_same (h1.isMap) (show WideAt.IsKeyLit (.string _) from trivial),if_pos rfl];exact ⟨rfl,rfl⟩
 ·
  rw [atKey_put_other (qjp he),has_put_other (qjp he),(h2 t).1,(h2 t).2,if_neg he];exact ⟨rfl,rfl⟩
end
end Go.Proofs.YtnilkimcdgmgkaaGreatDoor
