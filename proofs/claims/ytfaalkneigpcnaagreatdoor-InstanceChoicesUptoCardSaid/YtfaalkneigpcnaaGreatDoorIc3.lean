/- A statement whose order is open, where two operations that are no reads may come up in either order. No function of the program in sight. -/
import Derived.Test.YtfaalkneigpcnaaGreatDoorIc2
import Derived.Test.YtfaalkneigpcnaaGreatDoorIc1
import Derived.OrdersHeld
import Derived.Deep.RegionWith
set_option linter.all false
set_option maxRecDepth 100000
set_option maxHeartbeats 4000000
namespace Go.Proofs.YtfaalkneigpcnaaGreatDoor
open Go.RowKit
theorem qm9 {l:List Int} (h:U16 l) (k:Nat):val (l.drop k)=val l / 65536 ^ k:=by
 obtain ⟨lo,hlo,e⟩:=qbl h k;have e2:val l / 65536 ^ k=val (l.drop k):=by rw [e,Nat.add_comm,Nat.mul_add_div (by have:=qhe k;omega),Nat.div_eq_of_lt hlo,Nat.add_zero]
 exact e2.symm
theorem qto {n s:Nat}:n / 65536 ^ (s / 16) / 2 ^ (s % 16)=n / 2 ^ s:=by
 rw [Nat.div_div_eq_div_mul,show (65536:Nat)=2 ^ 16 by rfl,<- Nat.pow_mul,<- Nat.pow_add];congr 2
 omega
structure Shr (a o : List Int) (s i : Nat) : Prop where
 u16:U16 o
 sum:val a / 2 ^ s=val (o.take i)+65536 ^ i*(val (a.drop i) / 2 ^ s)
theorem Shr.start (a:List Int) (s n:Nat):Shr a (List.replicate n 0) s 0:=⟨qbo _,by simp [val]⟩
theorem Shr.next {a o:List Int} {s i:Nat} (h:Shr a o s i) (ha:U16 a) (hs:s<=16) (hi:i<o.length) :
  Shr a (o.set i ((((qaf a i).toNat+65536*(qaf a (i+1)).toNat) / 2 ^ s % 65536:Nat):Int)) s (i+1):=by
 have e:=qvh ha i hs;have e1:=h.sum;rw [e] at e1;have hx:((qaf a i).toNat+65536*(qaf a (i+1)).toNat) / 2 ^ s % 65536<=65535:=by omega
 generalize ((qaf a i).toNat+65536*(qaf a (i+1)).toNat) / 2 ^ s % 65536=x at e1 hx ⊢;refine ⟨h.u16.set_ (by omega),?_⟩;have g:(o.set i (x:Int))[i]? = some (x:Int):=by simp [hi]
 rw [qfk g,List.take_set_of_le (nlr _),e1,Nat.mul_add,Nat.pow_succ,Nat.mul_assoc];simp
 omega
theorem zz6 {P:Prop} (h:P:=by
 go_wp2;go_roundg (gk-1)
 case rel=>exact ⟨i+1,O.set i (X:Int),by have:=HIG.out;omega,by go_num,HO.out.set_ i _,by show _=_;rw [List.length_set];exact hOl.out,hwr.setCell (nlr _) _,HNX2.out⟩
 case measure=>have:=HIG.out;omega
 ):P:=h
theorem qus (l:List Int) (n s:Nat) (a:Option Addr) (c:Nat) (w:World) (h:NatR w a c l) (hn:val l=n) (hl:l.length<=16777216) (hs:s<=1048576) :
  Calls Tryz.prog 251 #[.slice a l.length c,.int .i64 s] w (RetN (limbs (n / 2 ^ s)) w):=by
 have H:=Hd h;have hu:=h.u16;have HN:=Hd hn;have hq:((s:Int)).tdiv 16=((s / 16:Nat):Int):=rfl;have hr:((s:Int)).tmod 16=((s % 16:Nat):Int):=rfl;have hsp:=qto (n:=n) (s:=s);have ht:s % 16<=15:=by omega
 have hk:s / 16<=65536:=by omega
 have HSP:=Hd hsp;revert hq hr ht hk HSP;generalize s / 16=k;generalize s % 16=t;intro hq hr ht hk HSP;clear h hn hsp;by_cases hkl:l.length<=k
 ·
  have h0:n / 2 ^ s=0:=by
   rw [<- HSP.out,Nat.div_eq_of_lt (a:=n),Nat.zero_div];have h1:=qcj hu;rw [HN.out] at h1;exact ltl h1 (Nat.pow_le_pow_right (by omega) hkl)
  rw [h0,qal];clear h0;go_enter Tryz.func251,Tryz.ntmps251;go_wp2;go_ret;exact ⟨none,0,rfl,fun _ _=>SlR.nil,Below.refl _ _⟩
 ·
  obtain ⟨m,hm⟩:∃ m:Nat,l.length=k+m:=⟨l.length-k,by omega⟩
  have hm0:0<m:=by omega
  have hmi:(l.length:Int)-(k:Int)=(m:Int):=by omega
  have hmk:=qce .i64 m (by omega) w;have HM:=Hd hm;have hkl2:k<l.length:=by omega
  have hdk:decide (l.length<=k)=false:=by simp;omega
  clear hm hkl;go_enter Tryz.func251,Tryz.ntmps251;go_wp2;clear hmk;have hz:=BlkN.new w m;have hb0:Below w.heap.size w (w.alloc (.cells (madeCells #[.int .u16 0] m) 102)):=brf.alloc (nlr _) _;revert hz hb0;generalize w.alloc (.cells (madeCells #[.int .u16 0] m) 102)=w0;intro hz hb0
  go_loopg [8,9,25] m (fun g _ _ s25 wr=>∃ (i:Nat) (O:List Int),i+g=m/\s25=.int .i64 i/\BlkN wr w.heap.size O/\Hid (O.length=m)/\Below w.heap.size w wr/\Shr (l.drop k) O t i)
  case atStart=>exact ⟨0,List.replicate m 0,by omega,rfl,hz,by show _=_;simp,hb0,Shr.start _ _ _⟩
  case round =>
   clear hz hb0;obtain ⟨i,O,hig,rfl,hO,hOl,hwr,hS⟩:=hrel;have HIG:=Hd hig;have HO:=Hd hO;clear hig hO;by_cases hlt:i<m
   ·
    obtain ⟨x,hx⟩:=qac (xs:=l) (k:=k+i) (by have:=HM.out;omega);obtain ⟨b,off,rfl,hc⟩:=(H.out.ext (xbw hwr)).cell hx;obtain ⟨hx0,hx1⟩:=hu.get hx;obtain ⟨y,rfl⟩:∃ y:Nat,x=(y:Int):=⟨x.toNat,by omega⟩
    have hc2:wr.cell? ⟨b,off+(i+k),none⟩=some (.int .u16 y):=by rw [Nat.add_comm i k];exact hc
    have hil:i+k<l.length:=by have:=HM.out;omega
    obtain ⟨u,hu2⟩:=qac (xs:=O) (k:=i) (by rw [hOl.out];exact hlt);have hcell:=HO.out.cell hu2;have hfr:=HO.out.frozen i;have hnext:=hS.next (hu.drop k) (show t<=16 by omega) (show i<O.length by rw [hOl.out];exact hlt);rw [qf4,qf4,qaw hx,Int.toNat_natCast] at hnext;have HNX:=Hd hnext;clear hnext hS;by_cases hlast:i+1<m
    ·
     obtain ⟨x2,hx2⟩:=qac (xs:=l) (k:=k+i+1) (by have:=HM.out;omega);obtain ⟨b3,off3,e3,hc3⟩:=(H.out.ext (xbw hwr)).cell hx2;injection e3 with e3
     injection e3 with e3 e4
     subst e3;subst e4;obtain ⟨hy0,hy1⟩:=hu.get hx2;obtain ⟨z,rfl⟩:∃ z:Nat,x2=(z:Int):=⟨x2.toNat,by omega⟩
     have hc4:wr.cell? ⟨b,off+(i+k+1),none⟩=some (.int .u16 z):=by rw [Nat.add_comm i k];exact hc3
     have hil2:i+k+1<l.length:=by have:=HM.out;omega
     have hnx:=HNX.out;rw [show k+(i+1)=k+i+1 by omega,qaw hx2,Int.toNat_natCast] at hnx;obtain ⟨W,hW⟩:∃ W,y+65536*z=W:=⟨_,rfl⟩
     obtain ⟨X,hX⟩:∃ X,W / 2 ^ t % 65536=X:=⟨_,rfl⟩
     rw [hW,hX] at hnx;have hor:bits .or .u32 (y:Int) ((z:Int)*65536)=(W:Int):=by
      have h1:=qfr (r:=z) (x:=y) (by omega);have h2:=u32_or_nat y (z*65536) (by omega) (by omega);rw [Nat.or_comm,h1,show z*65536+y=W by omega] at h2;simpa using h2
     have hshr:IntKind.u16.wrap ((W:Int) / 2 ^ t)=(X:Int):=by
      have:=qb0 (W / 2 ^ t);rw [hX] at this;rw [<- this];simp
     have HNX2:=Hd hnx;have hX2:X<=65535:=by omega
     clear hc3 hx2 hx hW hX hnx HNX;exact zz6
    ·
     have hil2:l.length=i+k+1:=by have:=HM.out;omega
     have HIL:=Hd hil2;have hdl:decide (((i:Int)+(k:Int)+1)<(l.length:Int))=false:=by simp;omega
     have hnx:=HNX.out;rw [qbw (by omega)] at hnx;obtain ⟨X,hX⟩:∃ X,y / 2 ^ t % 65536=X:=⟨_,rfl⟩
     rw [show y+65536*(0:Int).toNat=y by simp,hX] at hnx;have hshr:IntKind.u16.wrap ((y:Int) / 2 ^ t)=(X:Int):=by
      have:=qb0 (y / 2 ^ t);rw [hX] at this;rw [<- this];simp
     have HNX2:=Hd hnx;have hX2:X<=65535:=by omega
     have hge:¬ ((i:Int)+(k:Int)+1<(l.length:Int)):=by omega
     clear hx hX hnx HNX hil2;exact zz6
   ·
    have hval:val O=n / 2 ^ s:=by
     have h1:=hS.sum;rw [qm9 hu,HN.out,HSP.out,List.drop_drop,qau (by have:=HM.out;omega),Nat.zero_div,Nat.mul_zero,Nat.add_zero,qa0 (by rw [hOl.out];omega)] at h1;exact h1.symm
    have hcap:O.length<=maxLen:=by rw [hOl.out];unfold maxLen;omega
    have CT:=qa2 O _ _ wr (HO.out.readsV (nlr _) (New.refl _ _) hS.u16 (nlr _) hcap);have hrd:∀ V,New w.heap.size wr V->NatR V (some ⟨w.heap.size,0,none⟩) O.length (limbs (n / 2 ^ s)):=fun V hV=>by
     rw [<- hval];exact (HO.out.readsV (nlr _) hV hS.u16 (nlr _) hcap).trim
    rw [hval,hOl.out] at CT;rw [hOl.out] at hrd;replace CT:=Hd CT;have HRD:=Hd hrd;clear hrd hval hS;go_wp2_with fail;refine CT.out.mono ?_;rintro e w1 ⟨rfl,rfl⟩;go_wp2;go_ret;exact ⟨_,_,rfl,HRD.out,hwr⟩
theorem quo16 (s:Nat):((s:Int)).tdiv 16=((s / 16:Nat):Int):=rfl
theorem rem16 (s:Nat):((s:Int)).tmod 16=((s % 16:Nat):Int):=rfl
theorem qhc (l:List Int) (n s:Nat) (a:Option Addr) (c:Nat) (w:World) (h:NatR w a c l) (hn:val l=n) (h0:0<n) (hl:l.length<=10000000) (hs:s<=1048576) :
  Calls Tryz.prog 213 #[.slice a l.length c,.int .i64 s] w fun e w'=>∃ a1 c1,e=.returned (.slice a1 (limbs (n*2 ^ s)).length c1)/\OwnN w.heap.size w' a1 c1 (limbs (n*2 ^ s))/\Below w.heap.size w w':=by
 have CT:=qa2 l a c w h;have hT:=h.trim;have hlt:=qah h.u16;rw [hn] at CT hT hlt;have hTl:(limbs n).length<=10000000:=by omega
 have hTp:=qar.2 h0;have hu:=qa6 n;have hv:=qaa n;revert CT hT hTl hTp hu hv;generalize limbs n=T;intro CT hT hTl hTp hu hv;have hq:=quo16 s;have hr:=rem16 s;have hsp:16*(s / 16)+s % 16=s:=by omega
 have ht:s % 16<=15:=by omega
 have hk:s / 16<=65536:=by omega
 have HSP:=Hd hsp;revert hq hr ht hk HSP;generalize s / 16=k;generalize s % 16=t;intro hq hr ht hk HSP;have HT:=Hd hT;have HV:=Hd hv;replace CT:=Hd CT;have hmk:=qew .i64 (T.length+k+1) (T.length+k+3) (by omega) (by omega) w;simp only [Int.natCast_add,Int.cast_ofNat_Int] at hmk;have hne:((T.length:Int)==0)=false:=by rw [beq_eq_false_iff_ne];omega
 clear h hn hlt hT hv hsp h0;go_enter Tryz.func213,Tryz.ntmps213;go_wp2_with fail;refine CT.out.mono ?_;rintro e w1 ⟨rfl,rfl⟩;go_wp2;clear hmk hne;have hz0:=BlkN.new w (T.length+k+3);have hb0:Below w.heap.size w (w.alloc (.cells (madeCells #[.int .u16 0] (T.length+k+3)) 102)):=brf.alloc (nlr _) _;have hz:RowN (w.alloc (.cells (madeCells #[.int .u16 0] (T.length+k+3)) 102)) w.heap.size (List.replicate (T.length+k+1) 0) [.int .u16 0,.int .u16 0]:=by
  have h1:=(RowN.of hz0).cut (T.length+k+1);have e1:(List.replicate (T.length+k+3) (0:Int)).take (T.length+k+1)=List.replicate (T.length+k+1) 0:=by rw [List.take_replicate];congr 1;omega
  have e2:(List.replicate (T.length+k+3) (0:Int)).drop (T.length+k+1)=[0,0]:=by rw [List.drop_replicate,show T.length+k+3-(T.length+k+1)=2 by omega];rfl
  rw [e1,e2] at h1;exact h1
 clear hz0;revert hz hb0;generalize w.alloc (.cells (madeCells #[.int .u16 0] (T.length+k+3)) 102)=w0;intro hb0 hz
 go_loopg [8,9,10,47] T.length (fun g _ _ _ s47 wr=>∃ (i:Nat) (O:List Int),i+g=T.length/\s47=.int .i64 i/\RowN wr w.heap.size O [.int .u16 0,.int .u16 0]/\Below w.heap.size w wr/\Shl T O k t i)
 case atStart=>exact ⟨0,_,by omega,rfl,hz,hb0,Shl.start _ _ _⟩
 case round =>
  clear hz hb0;obtain ⟨i,O,hig,rfl,hO,hwr,hS⟩:=hrel;have HIG:=Hd hig;have HO:=Hd hO;have HSL:=Hd hS.len;clear hig hO;by_cases hlt:i<T.length
  ·
   obtain ⟨x,hx⟩:=qac hlt;obtain ⟨b,off,rfl,hc⟩:=(HT.out.ext (xbw hwr)).cell hx;obtain ⟨hx0,hx1⟩:=hu.get hx;obtain ⟨y,rfl⟩:∃ y:Nat,x=(y:Int):=⟨x.toNat,by omega⟩
   obtain ⟨h,hh,hh2⟩:=hS.cur;have hiO:i+k<O.length:=by have:=HSL.out;omega
   have hiO2:i+k+1<O.length:=by have:=HSL.out;omega
   have hnx:=hS.next ht hx (by omega) hh;have hfar:=hS.far (i+k+1) (by omega) hiO2;have hcell:=HO.out.cell hh;have hcell2:=HO.out.cell hfar;have hfr:=HO.out.frozen (i+k);have hfr2:=HO.out.frozen (i+k+1);have hset:=(HO.out.set_ hiO (((h ||| y*2 ^ t % 65536:Nat)):Int)).set_ (i:=i+k+1) (by simpa using hiO2) ((y*2 ^ t / 65536:Nat):Int);have hwl:y*2 ^ t<=65535*32768:=Nat.mul_le_mul (by omega) (qfa ht);have hyt:(y:Int)*2 ^ t % 4294967296=((y*2 ^ t:Nat):Int):=by
    have e1:((y*2 ^ t:Nat):Int)=(y:Int)*2 ^ t:=by simp
    rw [<- e1]
    omega
   have hh3:h<=65535:=by have:=qfa ht;omega
   revert hnx hset hwl hyt;generalize y*2 ^ t=W;intro hnx hset hwl hyt;obtain ⟨lo,hlo⟩:∃ lo,W % 65536=lo:=⟨_,rfl⟩
   obtain ⟨hi,hhi⟩:∃ hi,W / 65536=hi:=⟨_,rfl⟩
   rw [hlo,hhi] at hnx hset;have hw1:IntKind.u16.wrap (W:Int)=(lo:Int):=by rw [qb0,hlo]
   have hw2:IntKind.u16.wrap ((W:Int) / 65536)=(hi:Int):=by
    have:=qb0 (W / 65536);rw [hhi,Nat.mod_eq_of_lt (by omega)] at this;rw [<- this,<- hhi];simp
   have hor:=u16_or_nat h lo (by omega) (by omega);have HNX:=Hd hnx;have HSET:=Hd hset;revert hor HNX HSET;generalize h ||| lo=ho
   intro hor HNX HSET;clear hnx hset hlo hhi hx hS hh hfar;go_wp2;go_roundg (gk-1)
   case rel=>exact ⟨i+1,_,by have:=HIG.out;omega,by go_num,HSET.out,(hwr.setCell (nlr _) _).setCell (nlr _) _,HNX.out⟩
   case measure=>have:=HIG.out;omega
  ·
   have hit:i=T.length:=by have:=HIG.out;omega
   have hval:val O=n*2 ^ s:=by
    rw [hit] at hS;rw [hS.done,HV.out,HSP.out]
   have hcap:T.length+k+3<=maxLen:=by unfold maxLen;omega
   have hrd:NatR wr (some ⟨w.heap.size,0,none⟩) (T.length+k+3) O:=HO.out.readsV (nlr _) (New.refl _ _) hS.u16 (by rw [HSL.out];omega) hcap;have CT2:=qa2 O _ _ wr hrd;obtain ⟨m,hm,e⟩:=qhg hS.u16;have hown:OwnN w.heap.size wr (some ⟨w.heap.size,0,none⟩) (T.length+k+3) (O.take m):=HO.out.own (nlr _) (by rw [HSL.out];simp) hcap m hm;rw [<- e,hval] at hown;rw [hval,HSL.out] at CT2;replace CT2:=Hd CT2;have HOWN:=Hd hown;clear hown hval hS e hrd hit;go_wp2_with fail;refine CT2.out.mono ?_;rintro e w1 ⟨rfl,rfl⟩;go_wp2;go_ret;exact ⟨_,_,rfl,HOWN.out,hwr⟩
section
variable {P : Program} {ops : Array Oper} {Q : Exit -> Act -> World -> Prop} {md : Region.Mode} {S : World -> Prop}
def qd6 (md:Region.Mode) (ops:Array Oper) (listed:Array Bool):Prop :=
 ∀ k o,ops[k]? = some o->listed.getD k false=true->∀ e∈o.after,Region.binds md e=true->listed.getD e.on false=true
theorem qd6.set_ {listed:Array Bool} {j:Nat} (h:qd6 md ops listed) (hj:j∈Region.ready md ops listed):qd6 md ops (listed.setIfInBounds j true):=by
 intro k o ho hk e he hb;obtain ⟨_,oj,hoj,hall⟩:=mem_ready.1 hj;by_cases hkj:j=k
 ·
  subst hkj;rw [hoj] at ho;injection ho with ho
  subst ho;exact getD_set_true (hall e he hb)
 ·
  rw [getD_set_ne false hkj] at hk;exact getD_set_true (h k o ho hk e he hb)
def dep (md:Region.Mode) (ops:Array Oper):Nat->Nat->Nat->Bool
 | 0,_,_=>false
 | n+1,j,i=>match ops[j]? with
  | none=>false
  | some o=>o.after.any fun e=>Region.binds md e&&(e.on==i||dep md ops n e.on i)
theorem qje {listed:Array Bool} (h:qd6 md ops listed):∀ (n j i:Nat) (oj:Oper),ops[j]? = some oj->dep md ops n j i=true ->
  (∀ e∈oj.after,Region.binds md e=true->listed.getD e.on false=true)->listed.getD i false=true
 | 0,_,_,_,_,hd,_=>by simp [dep] at hd
 | n+1,j,i,oj,hoj,hd,hall=>by
  simp only [dep,hoj] at hd;obtain ⟨e,he,hb⟩:=Array.any_eq_true'.1 hd;simp only [Bool.and_eq_true,Bool.or_eq_true,beq_iff_eq] at hb;rcases hb.2 with h1 | h1
  · rw [<- h1];exact hall e he hb.1
  ·
   have hl:=hall e he hb.1
   cases ho:ops[e.on]? with
   | none =>
    cases n with
    | zero=>simp [dep] at h1
    | succ n=>simp [dep,ho] at h1
   | some oe=>exact qje h n e.on i oe ho h1 (fun e' he' hb'=>h e.on oe ho hl e' he' hb')
def qb9 (P:Program) (md:Region.Mode) (ops:Array Oper) (Q:Exit->Act->World->Prop) (S:World->Prop) (tl:Nat->Bool):Nat->Array Bool->Act->World->Prop
 | 0,listed,a,w=>Region.ready md ops listed=[]/\Q .normal a w
 | fuel+1,listed,a,w =>
  (Region.ready md ops listed=[]->Q .normal a w) /\
  ∀ i∈Region.ready md ops listed,wpOp P ops Q i (fun a' w'=>(tl i=false->S w')/\qb9 P md ops Q S tl fuel (listed.setIfInBounds i true) a' w') a w
theorem qgz {tl:Nat->Bool}:∀ (fuel:Nat) (listed:Array Bool) (a:Act) (w:World),qb9 P md ops Q S tl fuel listed a w->wpAny P md ops Q fuel listed a w
 | 0,_,_,_,h=>h
 | fuel+1,_,_,_,h=>⟨h.1,fun i hi=>wpOp_mono (fun a' w' h'=>qgz fuel _ a' w' h'.2) (h.2 i hi)⟩
theorem zz7 {P:Prop} (h:P:=by
 rcases Nat.lt_or_ge i listed.size with h' | h'
 · simp [h'] at hiun ⊢;exact hiun
 · simp [Array.getElem?_eq_none h']
 ):P:=h
theorem qd3 {tl:Nat->Bool} {i:Nat} {oi:Oper} {v:Value} (hi:ops[i]? = some oi) (hti:tl i=false) (hsel:∀ (j:Nat) (o:Oper) cs b,ops[j]? = some o->o.op≠.select cs b)
  (hQ:∀ c a w,Q (.panic c) (a.put oi.dst v) w->Q (.panic c) a w) :
  ∀ (fuel:Nat) (listed:Array Bool) (a:Act) (w:World),
   (∀ j oj,ops[j]? = some oj->j≠i->listed.getD j true=false->(∀ e∈oj.after,Region.binds md e=true->e.on≠i)->oi.apart ops oj=true) ->
   (∀ j,tl j=true->dep md ops ops.size j i=true)->qd6 md ops listed ->
   i∈Region.ready md ops listed->YieldsIf P ops S oi v a->S w ->
   qb9 P md ops Q S tl fuel (listed.setIfInBounds i true) (a.put oi.dst v) w->qb9 P md ops Q S tl (fuel+1) listed a w:=by
 intro fuel
 induction fuel with
 | zero =>
  intro listed a w _ _ _ hr hy hS H;refine ⟨fun h=>(by rw [h] at hr;cases hr),fun j hj=>?_⟩;by_cases hji:j=i
  · subst hji;exact hy.wpOp hi hS ⟨fun _=>hS,H⟩
  ·
   have:=ready_mono hj hji;rw [H.1] at this
   cases this
 | succ fuel ih =>
  intro listed a w hfree htl hcl hr hy hS H;refine ⟨fun h=>(by rw [h] at hr;cases hr),fun j hj=>?_⟩;by_cases hji:j=i
  · subst hji;exact hy.wpOp hi hS ⟨fun _=>hS,H⟩
  ·
   have h1:=H.2 j (ready_mono hj hji);obtain ⟨hjun,oj,hoj,hall⟩:=mem_ready.1 hj;have hiun:=(mem_ready.1 hr).1;have hnl:listed.getD i false=false:=by
    exact zz7
   have htj:tl j=false:=by
    cases htj:tl j with
    | false=>rfl
    | true =>
     have:=qje hcl ops.size j i oj hoj (htl j htj) hall;rw [hnl] at this;cases this
   have hnot:∀ e∈oj.after,Region.binds md e=true->e.on≠i:=fun e he hb heq=>by
    have h1:=hall e he hb;rw [heq,hnl] at h1;cases h1
   have h2:=wpOp_putIf hoj (hfree j oj hoj hji hjun hnot) (fun cs b=>hsel i oi cs b hi) (fun cs b=>hsel j oj cs b hoj) hQ hy h1;have hfree':∀ k ok,ops[k]? = some ok->k≠i->(listed.setIfInBounds j true).getD k true=false ->
     (∀ e∈ok.after,Region.binds md e=true->e.on≠i)->oi.apart ops ok=true:=fun k ok hk hki hun hno=>by
    refine hfree k ok hk hki ?_ hno;by_cases hjk:j=k
    · subst hjk;exact hjun
    · rw [getD_set_ne true hjk] at hun;exact hun
   refine wpOp_mono (fun a' w' h3=>⟨h3.2.1,ih (listed.setIfInBounds j true) a' w' hfree' htl (hcl.set_ hj) (ready_mono hr (Ne.symm hji)) h3.1 (h3.2.1 htj) ?_⟩) h2;rw [Array.setIfInBounds_comm _ _ hji];exact h3.2.2
theorem qeh {tl:Nat->Bool} {i:Nat} {oi:Oper} {v:Value} (hi:ops[i]? = some oi) (hti:tl i=true) (hsel:∀ (j:Nat) (o:Oper) cs b,ops[j]? = some o->o.op≠.select cs b)
  (hQ:∀ c a w,Q (.panic c) (a.put oi.dst v) w->Q (.panic c) a w) :
  ∀ (fuel:Nat) (listed:Array Bool) (a:Act) (w:World),
   (∀ j oj,ops[j]? = some oj->j≠i->listed.getD j true=false->(∀ e∈oj.after,Region.binds md e=true->e.on≠i)->oi.apart ops oj=true) ->
   i∈Region.ready md ops listed->Yields P ops oi v a ->
   qb9 P md ops Q S tl fuel (listed.setIfInBounds i true) (a.put oi.dst v) w->qb9 P md ops Q S tl (fuel+1) listed a w:=by
 intro fuel
 induction fuel with
 | zero =>
  intro listed a w _ hr hy H;refine ⟨fun h=>(by rw [h] at hr;cases hr),fun j hj=>?_⟩;by_cases hji:j=i
  · subst hji;exact hy.wpOp hi ⟨(fun h=>by rw [hti] at h;cases h),H⟩
  ·
   have:=ready_mono hj hji;rw [H.1] at this
   cases this
 | succ fuel ih =>
  intro listed a w hfree hr hy H;refine ⟨fun h=>(by rw [h] at hr;cases hr),fun j hj=>?_⟩;by_cases hji:j=i
  · subst hji;exact hy.wpOp hi ⟨(fun h=>by rw [hti] at h;cases h),H⟩
  ·
   have h1:=H.2 j (ready_mono hj hji);obtain ⟨hjun,oj,hoj,hall⟩:=mem_ready.1 hj;have hiun:=(mem_ready.1 hr).1;have hnl:listed.getD i false=false:=by
    exact zz7
   have hnot:∀ e∈oj.after,Region.binds md e=true->e.on≠i:=fun e he hb heq=>by
    have h1:=hall e he hb;rw [heq,hnl] at h1;cases h1
   have h2:=wpOp_put hoj (hfree j oj hoj hji hjun hnot) (fun cs b=>hsel i oi cs b hi) (fun cs b=>hsel j oj cs b hoj) hQ hy h1;have hfree':∀ k ok,ops[k]? = some ok->k≠i->(listed.setIfInBounds j true).getD k true=false ->
     (∀ e∈ok.after,Region.binds md e=true->e.on≠i)->oi.apart ops ok=true:=fun k ok hk hki hun hno=>by
    refine hfree k ok hk hki ?_ hno;by_cases hjk:j=k
    · subst hjk;exact hjun
    · rw [getD_set_ne true hjk] at hun;exact hun
   refine wpOp_mono (fun a' w' h3=>⟨h3.2.1,ih (listed.setIfInBounds j true) a' w' hfree' (ready_mono hr (Ne.symm hji)) h3.1 ?_⟩) h2;rw [Array.setIfInBounds_comm _ _ hji];exact h3.2.2
inductive Mode4 where
 | q | l | t | p
 deriving DecidableEq
def Mode4.tail:Mode4->Bool
 | .t=>true
 | .p=>true
 | _=>false
def qeo (l:List (Nat × Mode4)) (i:Nat):Bool:=l.any fun x=>x.1==i&&x.2.tail
def mixB (md:Region.Mode) (ops:Array Oper):List (Nat × Mode4)->Array Bool->Bool
 | [],listed=>(Region.ready md ops listed).isEmpty
 | (i,.q) :: r,listed=>Region.free md ops listed i&&((Region.ready md ops listed).contains i&&mixB md ops r (listed.setIfInBounds i true))
 | (i,.p) :: r,listed=>Region.free md ops listed i&&((Region.ready md ops listed).contains i&&mixB md ops r (listed.setIfInBounds i true))
 | (i,_) :: r,listed=>(Region.ready md ops listed==[i])&&mixB md ops r (listed.setIfInBounds i true)
def qf9 (md:Region.Mode) (ops:Array Oper) (l:List (Nat × Mode4)):Bool :=
 decide (l.map (·.1)).Nodup&&l.all (fun x=>match x.2 with
  | .q=>l.all fun y=>!y.2.tail||dep md ops ops.size y.1 x.1
  | _=>true)
def lateB:List (Nat × Mode4)->Bool->Bool
 | [],_=>true
 | (_,m) :: r,late=>(!(late&&(m==.q||m==.l)))&&lateB r (late||m.tail)
def opAt (ops:Array Oper) (i:Nat):Option Oper:=(ops.toList.drop i).head?
theorem qhy (ops:Array Oper) (i:Nat):opAt ops i=ops[i]?:=by simp [opAt]
def wpMix (P:Program) (ops:Array Oper) (Q:Exit->Act->World->Prop) (S:World->Prop):List (Nat × Mode4)->Act->World->Prop
 | [],a,w=>Q .normal a w
 | (i,m) :: r,a,w=>match opAt ops i with
  | none=>False
  | some o=>if Region.wanted o (yielded ops a.tmps)=true then
    (match m with
     | .q=>∃ v,(∀ w',S w'->(execOp a.eval o).run P w'=.ok (.value v) w')/\wpMix P ops Q S r (a.put o.dst v) w
     | .p=>∃ v,(∀ w',(execOp a.eval o).run P w'=.ok (.value v) w')/\wpMix P ops Q S r (a.put o.dst v) w
     | .l=>o.wp P a w (fun a' w'=>S w'/\wpMix P ops Q S r a' w') Q
     | .t=>o.wp P a w (fun a' w'=>wpMix P ops Q S r a' w') Q)
   else wpMix P ops Q S r (a.put o.dst undef) w
theorem qsc {l:List (Nat × Mode4)}:∀ {i:Nat} {m m':Mode4},(l.map (·.1)).Nodup->(i,m)∈l->(i,m')∈l->m=m':=by
 induction l with
 | nil=>intro i m m' _ h;cases h
 | cons y l ih =>
  intro i m m' hn h h';simp only [List.map_cons,List.nodup_cons] at hn;rcases List.mem_cons.1 h with h1 | h1 <;> rcases List.mem_cons.1 h' with h2 | h2
  · rw [<- h1] at h2;injection h2 with _ e;exact e.symm
  · subst h1;exact absurd (List.mem_map.2 ⟨_,h2,rfl⟩) hn.1
  · subst h2;exact absurd (List.mem_map.2 ⟨_,h1,rfl⟩) hn.1
  · exact ih hn.2 h1 h2
theorem qqt {l:List (Nat × Mode4)} {i:Nat} {m:Mode4} (hn:(l.map (·.1)).Nodup) (h:(i,m)∈l):qeo l i=m.tail:=by
 unfold qeo;rw [Bool.eq_iff_iff,List.any_eq_true]
 constructor
 ·
  rintro ⟨⟨j,m'⟩,hj,hb⟩;simp only [Bool.and_eq_true,beq_iff_eq] at hb;obtain ⟨rfl,hb⟩:=hb;have:m'=m:=qsc hn hj h;rw [<- this];exact hb
 ·
  intro hb;exact ⟨(i,m),h,by simp [hb]⟩
theorem qop {l:List (Nat × Mode4)} {j:Nat} (h:qeo l j=true):∃ m,(j,m)∈l/\m.tail=true:=by
 unfold qeo at h;obtain ⟨⟨i,m⟩,hm,hb⟩:=List.any_eq_true.1 h;simp only [Bool.and_eq_true,beq_iff_eq] at hb;obtain ⟨rfl,hb⟩:=hb;exact ⟨m,hm,hb⟩
theorem qcr (hs:Region.noSelect ops=true) (hQ:∀ d v c a w,Q (.panic c) (a.put d v) w->Q (.panic c) a w) (L:List (Nat × Mode4)) (hL:qf9 md ops L=true) :
  ∀ (l:List (Nat × Mode4)) (listed:Array Bool) (a:Act) (w:World) (late:Bool),(∀ x∈l,x∈L)->mixB md ops l listed=true->lateB l late=true->qd6 md ops listed->(late=false->S w)->wpMix P ops Q S l a w ->
   qb9 P md ops Q S (qeo L) l.length listed a w
 | [],listed,a,w,_,_,hB,_,_,_,h=>by
  unfold qb9;exact ⟨by simpa [mixB] using hB,h⟩
 | (i,m) :: r,listed,a,w,late,hsub,hB,hlate,hcl,hS,h=>by
  have hL':=hL;simp only [qf9,Bool.and_eq_true,decide_eq_true_eq,List.all_eq_true] at hL';have hti:=qqt hL'.1 (hsub (i,m) (by simp));have hsub':∀ x∈r,x∈L:=fun x hx=>hsub x (by simp [hx])
  simp only [lateB,Bool.and_eq_true] at hlate;unfold wpMix at h;rw [qhy] at h
  cases ho:ops[i]? with
  | none=>rw [ho] at h;exact h.elim
  | some o =>
   rw [ho] at h;simp only at h
   cases m with
   | q =>
    simp only [mixB,Bool.and_eq_true] at hB;obtain ⟨h1,h2,h3⟩:=hB;have hnl:late=false:=by
     cases late with
     | false=>rfl
     | true=>simp at hlate
    have h2':i∈Region.ready md ops listed:=by simpa using h2
    have htl:∀ j,qeo L j=true->dep md ops ops.size j i=true:=fun j hj=>by
     obtain ⟨mj,hmj,htj⟩:=qop hj;have:=hL'.2 (i,.q) (hsub _ (by simp));simp only [List.all_eq_true] at this;have:=this (j,mj) hmj;simpa [htj] using this
    have hlr:lateB r late=true:=by simpa [Mode4.tail] using hlate.2
    by_cases hw:Region.wanted o (yielded ops a.tmps)=true
    ·
     rw [if_pos hw] at h;obtain ⟨v,hv,hn⟩:=h;exact qd3 ho hti (Region.noSelect_spec hs) (fun c a w=>hQ _ _ c a w) _ _ _ _ (Region.free_spec ho h1) htl hcl h2' (.inl ⟨hw,hv⟩) (hS hnl) (qcr hs hQ L hL r _ _ _ late hsub' h3 hlr (hcl.set_ h2') hS hn)
    ·
     rw [if_neg hw] at h;exact qd3 ho hti (Region.noSelect_spec hs) (fun c a w=>hQ _ _ c a w) _ _ _ _ (Region.free_spec ho h1) htl hcl h2' (.inr ⟨by simpa using hw,rfl⟩) (hS hnl) (qcr hs hQ L hL r _ _ _ late hsub' h3 hlr (hcl.set_ h2') hS h)
   | p =>
    simp only [mixB,Bool.and_eq_true] at hB;obtain ⟨h1,h2,h3⟩:=hB;have h2':i∈Region.ready md ops listed:=by simpa using h2
    have hlr:lateB r true=true:=by simpa [Mode4.tail] using hlate.2
    by_cases hw:Region.wanted o (yielded ops a.tmps)=true
    ·
     rw [if_pos hw] at h;obtain ⟨v,hv,hn⟩:=h;exact qeh ho hti (Region.noSelect_spec hs) (fun c a w=>hQ _ _ c a w) _ _ _ _ (Region.free_spec ho h1) h2' (.inl ⟨hw,hv⟩) (qcr hs hQ L hL r _ _ _ true hsub' h3 hlr (hcl.set_ h2') (fun h=>by cases h) hn)
    ·
     rw [if_neg hw] at h;exact qeh ho hti (Region.noSelect_spec hs) (fun c a w=>hQ _ _ c a w) _ _ _ _ (Region.free_spec ho h1) h2' (.inr ⟨by simpa using hw,rfl⟩) (qcr hs hQ L hL r _ _ _ true hsub' h3 hlr (hcl.set_ h2') (fun h=>by cases h) h)
   | l =>
    simp only [mixB,Bool.and_eq_true,beq_iff_eq] at hB;obtain ⟨h1,h3⟩:=hB;have h2':i∈Region.ready md ops listed:=by rw [h1];simp
    have hlr:lateB r late=true:=by simpa [Mode4.tail] using hlate.2
    unfold qb9;refine ⟨(fun h0=>by rw [h1] at h0;cases h0),fun j hj=>?_⟩;obtain rfl:j=i:=by rw [h1] at hj;simpa using hj
    unfold wpOp;rw [ho];simp only;by_cases hw:Region.wanted o (yielded ops a.tmps)=true
    ·
     rw [if_pos hw] at h ⊢;exact .inl (Oper.wp_mono (fun a' w' hh=>⟨fun _=>hh.1,qcr hs hQ L hL r _ a' w' late hsub' h3 hlr (hcl.set_ h2') (fun _=>hh.1) hh.2⟩) h)
    ·
     rw [if_neg hw] at h ⊢
     cases late with
     | false=>exact ⟨fun _=>hS rfl,qcr hs hQ L hL r _ _ _ false hsub' h3 hlr (hcl.set_ h2') hS h⟩
     | true=>simp at hlate
   | t =>
    simp only [mixB,Bool.and_eq_true,beq_iff_eq] at hB;obtain ⟨h1,h3⟩:=hB;have h2':i∈Region.ready md ops listed:=by rw [h1];simp
    have hlr:lateB r true=true:=by simpa [Mode4.tail] using hlate.2
    unfold qb9;refine ⟨(fun h0=>by rw [h1] at h0;cases h0),fun j hj=>?_⟩;obtain rfl:j=i:=by rw [h1] at hj;simpa using hj
    unfold wpOp;rw [ho];simp only;have hno:qeo L j=false->False:=fun h=>by rw [hti] at h;cases h
    by_cases hw:Region.wanted o (yielded ops a.tmps)=true
    ·
     rw [if_pos hw] at h ⊢;exact .inl (Oper.wp_mono (fun a' w' hh=>⟨fun h=>(hno h).elim,qcr hs hQ L hL r _ a' w' true hsub' h3 hlr (hcl.set_ h2') (fun h=>by cases h) hh⟩) h)
    ·
     rw [if_neg hw] at h ⊢;exact ⟨fun h=>(hno h).elim,qcr hs hQ L hL r _ _ _ true hsub' h3 hlr (hcl.set_ h2') (fun h=>by cases h) h⟩
-- a goal with this head is never laid open by the way
attribute [irreducible] wpMix
theorem qg6 {id:Nat} {a:Act} {w:World} (l:List (Nat × Mode4)) (hm:P.follows .mixedOrders=true) (hs:Region.noSelect ops=true)
  (hB:(l.length==ops.size&&(qf9 .any ops l&&(lateB l false&&mixB .any ops l (Array.replicate ops.size false))))=true)
  (hQ:∀ d v c a w,Q (.panic c) (a.put d v) w->Q (.panic c) a w) (hS:S w.drew) (h:wpMix P ops Q S l a w.drew):(Code.region id ops true).wp P Q a w:=by
 simp only [Bool.and_eq_true,beq_iff_eq] at hB;refine wp_region_any hm (qgz (S:=S) (tl:=qeo l) _ _ _ _ ?_);have hc:qd6 .any ops (Array.replicate ops.size false):=fun k o _ hk=>by
  exfalso;rcases Nat.lt_or_ge k ops.size with h' | h'
  · simp [h'] at hk
  · simp [Nat.not_lt.2 h'] at hk
 have:=qcr (md:=.any) hs hQ l hB.2.1 l _ a w.drew false (fun _ h=>h) hB.2.2.2 hB.2.2.1 hc (fun _=>hS) h
 rwa [hB.1] at this
theorem qai {a:Act} {w:World} (h:Q .normal a w):wpMix P ops Q S [] a w:=by unfold wpMix;exact h
theorem qqe {i:Nat} {m:Mode4} {r:List (Nat × Mode4)} {o:Oper} {a:Act} {w:World} (ho:opAt ops i=some o) (hw:Region.wanted o (yielded ops a.tmps)=false)
  (h:∀ K:Act->World->Prop,(∀ a' w',wpMix P ops Q S r a' w'->K a' w')->K (a.put o.dst undef) w):wpMix P ops Q S ((i,m) :: r) a w:=by
 unfold wpMix;rw [ho];simp only;rw [if_neg (by simp [hw])];exact h _ (fun _ _ h=>h)
theorem qaj {i:Nat} {r:List (Nat × Mode4)} {o:Oper} {a:Act} {w:World} (ho:opAt ops i=some o) (hw:Region.wanted o (yielded ops a.tmps)=true)
  (h:∀ K:Act->World->Prop,(∀ a' w',wpMix P ops Q S r a' w'->K a' w')->∃ v,(∀ w',S w'->(execOp a.eval o).run P w'=.ok (.value v) w')/\K (a.put o.dst v) w) :
  wpMix P ops Q S ((i,.q) :: r) a w:=by
 unfold wpMix;rw [ho];simp only;rw [if_pos hw];exact h _ (fun _ _ h=>h)
theorem qaz {i:Nat} {r:List (Nat × Mode4)} {o:Oper} {a:Act} {w:World} (ho:opAt ops i=some o) (hw:Region.wanted o (yielded ops a.tmps)=true)
  (h:∀ K:Act->World->Prop,(∀ a' w',wpMix P ops Q S r a' w'->K a' w')->∃ v,(∀ w',(execOp a.eval o).run P w'=.ok (.value v) w')/\K (a.put o.dst v) w) :
  wpMix P ops Q S ((i,.p) :: r) a w:=by
 unfold wpMix;rw [ho];simp only;rw [if_pos hw];exact h _ (fun _ _ h=>h)
theorem qag {i:Nat} {r:List (Nat × Mode4)} {o:Oper} {a:Act} {w:World} (ho:opAt ops i=some o) (hw:Region.wanted o (yielded ops a.tmps)=true)
  (h:∀ K:Act->World->Prop,Hid (∀ a' w',S w'->(S w'->wpMix P ops Q S r a' w')->K a' w')->o.wp P a w K Q) :
  wpMix P ops Q S ((i,.l) :: r) a w:=by
 unfold wpMix;rw [ho];simp only;rw [if_pos hw];exact h _ (fun _ _ h1 h2=>⟨h1,h2 h1⟩)
theorem qae {i:Nat} {r:List (Nat × Mode4)} {o:Oper} {a:Act} {w:World} (ho:opAt ops i=some o) (hw:Region.wanted o (yielded ops a.tmps)=true)
  (h:∀ K:Act->World->Prop,Hid (∀ a' w',wpMix P ops Q S r a' w'->K a' w')->o.wp P a w K Q) :
  wpMix P ops Q S ((i,.t) :: r) a w:=by
 unfold wpMix;rw [ho];simp only;rw [if_pos hw];exact h _ (fun _ _ h=>h)
end
theorem xq {α:Sort _} {p q:α->Prop} {v:α} (h2:q v) (h1:p v:=by (intro w' hw';go_simp;try rfl)):∃ v,p v/\q v:=⟨v,h1,h2⟩
theorem xp {α:Sort _} {p q:α->Prop} {v:α} (h2:q v) (h1:p v:=by (intro w';go_simp;try rfl)):∃ v,p v/\q v:=⟨v,h1,h2⟩
section
variable {P : Program} {ops : Array Oper} {Q : Exit -> Act -> World -> Prop} {S : World -> Prop}
theorem wrx {id:Nat} {a:Act} {w:World} (l:List (Nat × Mode4)) (hS:S w.drew) (h:wpMix P ops Q S l a w.drew) (hm:P.follows .mixedOrders=true:=by kernel_rfl) (hs:Region.noSelect ops=true:=by kernel_rfl)
 (hB:(l.length==ops.size&&(qf9 .any ops l&&(lateB l false&&mixB .any ops l (Array.replicate ops.size false))))=true:=by kernel_rfl) (hQ:∀ d v c a w,Q (.panic c) (a.put d v) w->Q (.panic c) a w:=by (intro d _ _ _ _ h;cases d <;> exact h)):(Code.region id ops true).wp P Q a w:=qg6 l hm hs hB hQ hS h
end
theorem qqf (l:List Int) (d:Int) (a:Option Addr) (c:Nat) (w:World) (h:NatR w a c l) (hn:val l=0) (hd:-1048576<=d/\d<=1048576) :
  Calls Tryz.prog 213 #[.slice a l.length c,.int .i64 d] w fun e w'=>e=.returned (.slice none 0 0)/\w=w':=by
 have CT:=qa2 l a c w h;rw [hn,qal] at CT;replace CT:=Hd CT;obtain ⟨hd1,hd2⟩:=hd;clear h hn;go_enter Tryz.func213,Tryz.ntmps213;go_wp2_with fail;refine CT.out.mono ?_;rintro e w1 ⟨rfl,rfl⟩;go_wp2;go_ret;exact ⟨rfl,rfl⟩
theorem quk (l:List Int) (n s:Nat) (a:Option Addr) (c:Nat) (w:World) (h:NatR w a c l) (hn:val l=n) (h0:0<n) (hl:l.length<=10000000) (hs0:0<s) (hs:s<=1048576) :
  Calls Tryz.prog 213 #[.slice a l.length c,.int .i64 (-(s:Int))] w (RetN (limbs (n / 2 ^ s)) w):=by
 have CT:=qa2 l a c w h;have hT:=h.trim;have hlt:=qah h.u16;rw [hn] at CT hT hlt;have CR:=qus (limbs n) n s a c w hT (qaa n) (by omega) (by omega);have hTp:=qar.2 h0;revert CT CR hTp;generalize (limbs n).length=T;intro CT CR hTp;replace CT:=Hd CT;replace CR:=Hd CR;have hne:((T:Int)==0)=false:=by rw [beq_eq_false_iff_ne];omega
 have hneg:- -(s:Int)=(s:Int):=by omega
 clear h hn hlt hT h0;go_enter Tryz.func213,Tryz.ntmps213;go_wp2_with fail;refine CT.out.mono ?_;rintro e w1 ⟨rfl,rfl⟩;go_wp2_with fail;refine CR.out.mono ?_;rintro e w1 ⟨a1,c1,rfl,hV1,hb1⟩;have HV:=Hd hV1;clear hV1;go_wp2;go_ret;exact ⟨_,_,rfl,HV.out,hb1⟩
def qeb (d r v2 u0:Nat):Bool:=decide (65536<=d)||decide (r*65536+u0<d*v2)
theorem qmx (v:List Int) (n j d r v2 u0 uc vc:Nat) (bd bv bn br bu bj g:Nat) (ul:Nat) (av:Option Addr) (w:World)
  (h0:w.cell? ⟨bd,0,none⟩=some (.int .u64 d)) (h1:w.cell? ⟨bv,0,none⟩=some (.slice av v.length vc)) (h2:w.cell? ⟨bn,0,none⟩=some (.int .i64 ((n+2:Nat):Int)))
  (h3:w.cell? ⟨br,0,none⟩=some (.int .u64 r)) (h4:w.cell? ⟨bu,0,none⟩=some (.slice (some ⟨g,0,none⟩) ul uc)) (h5:w.cell? ⟨bj,0,none⟩=some (.int .i64 j))
  (hv:∃ b off,av=some ⟨b,off,none⟩/\w.cell? ⟨b,off+n,none⟩=some (.int .u16 v2)) (hu:w.cell? ⟨g,j+n,none⟩=some (.int .u16 u0)) (hvl:v.length=n+2) (hul:j+(n+2)<ul) (hul2:ul<=16777216)
  (hd:d<=65537) (hr:r<65536) (hv2:v2<=65535) (hu0:u0<=65535) :
  Calls Tryz.prog 252 #[.pointer (some ⟨bd,0,none⟩),.pointer (some ⟨bv,0,none⟩),.pointer (some ⟨bn,0,none⟩),.pointer (some ⟨br,0,none⟩),.pointer (some ⟨bu,0,none⟩),.pointer (some ⟨bj,0,none⟩)] w
   fun e w'=>e=.returned (.bool (qeb d r v2 u0))/\w'=w.drew:=by
 obtain ⟨b,off,rfl,hcv⟩:=hv;have hp:d*v2<=65537*65535:=Nat.mul_le_mul hd hv2;have hpi:(d:Int)*(v2:Int)=((d*v2:Nat):Int):=by simp
 unfold qeb;revert hp hpi;generalize d*v2=P;intro hp hpi;obtain ⟨W,hW⟩:∃ W,r*65536+u0=W:=⟨_,rfl⟩
 rw [hW];have hor:bits .or .u64 ((r:Int)*65536) (u0:Int)=(W:Int):=by
  have h1:=qfr (r:=r) (x:=u0) (by omega);have h2:=u64_or_nat (r*65536) u0 (by omega) (by omega);rw [h1,hW] at h2;simpa using h2
 have e1:((n+2:Nat):Int)=(n:Int)+2:=by omega
 rw [e1] at h2;have hn1:(n:Int)+2-2=(n:Int):=by omega
 have hn2:(j:Int)+((n:Int)+2)-2=((j+n:Nat):Int):=by omega
 have hvl2:n<v.length:=by omega
 have hul3:j+n<ul:=by omega
 have f1:IntKind.i64.wrap (n:Int)=(n:Int):=by rw [IntKind.wrap_i64];omega
 have f2:IntKind.i64.wrap ((j:Int)+(n:Int))=(j:Int)+(n:Int):=by rw [IntKind.wrap_i64];omega
 have f3:IntKind.i64.wrap ((j:Int)+((n:Int)+2))=(j:Int)+((n:Int)+2):=by rw [IntKind.wrap_i64];omega
 have f4:IntKind.u64.wrap (P:Int)=(P:Int):=by rw [qh1];congr 1;exact Nat.mod_eq_of_lt (by omega)
 have f5:IntKind.u64.wrap ((r:Int)*65536)=(r:Int)*65536:=by simp [IntKind.wrap,IntKind.bits,IntKind.signed];omega
 have f6:IntKind.u64.wrap (v2:Int)=(v2:Int):=by rw [qh1];congr 1;exact Nat.mod_eq_of_lt (by omega)
 have f7:IntKind.u64.wrap (u0:Int)=(u0:Int):=by rw [qh1];congr 1;exact Nat.mod_eq_of_lt (by omega)
 have f8:(0:Int)<=(n:Int)/\(n:Int)<(v.length:Int):=by omega
 have f9:(0:Int)<=(j:Int)+(n:Int)/\(j:Int)+(n:Int)<(ul:Int):=by omega
 have f10:((j:Int)+(n:Int)).toNat=j+n:=by omega
 clear hW e1 hvl;by_cases hg:65536<=d
 ·
  have hgi:decide ((65536:Int)<=(d:Int))=true:=by simp;omega
  have hgn:decide (65536<=d)=true:=by simpa using hg
  rw [hgn];clear hg;go_enter Tryz.func252,Tryz.ntmps252;go_wp2;refine wrx (S:=(fun x=>x=w.drew)) [(0,.q),(1,.q),(2,.q),(3,.q),(4,.q),(5,.q),(6,.q),(7,.q),(8,.q),(9,.q),(10,.q),(11,.q),(12,.q),(13,.q),(14,.q),(15,.q),(16,.q),(17,.q),(18,.q),(19,.q),(20,.q),(21,.q),(22,.p),(23,.p),(24,.p)] (rfl) ?_
  iterate 3 (refine qaj rfl rfl fun K hK=>xq ?_;go_simp;refine hK _ _ ?_;clear hK K)
  iterate 20 (refine qqe rfl rfl (fun K hK=>?_);go_simp;refine hK _ _ ?_;clear hK K)
  iterate 2 (refine qaz rfl rfl fun K hK=>xp ?_;go_simp;refine hK _ _ ?_;clear hK K)
  refine qai ?_;go_wp2;go_ret;exact ⟨by simp,rfl⟩
 ·
  have hgi:decide ((65536:Int)<=(d:Int))=false:=by simp;omega
  have hgn:decide (65536<=d)=false:=by simpa using hg
  rw [hgn];clear hg;go_enter Tryz.func252,Tryz.ntmps252;go_wp2;refine wrx (S:=(fun x=>x=w.drew)) [(0,.q),(1,.q),(2,.q),(3,.q),(4,.q),(5,.q),(6,.q),(7,.q),(8,.q),(9,.q),(10,.q),(11,.q),(12,.q),(13,.q),(14,.q),(15,.q),(16,.q),(17,.q),(18,.q),(19,.q),(20,.q),(21,.q),(22,.p),(23,.p),(24,.p)] (rfl) ?_
  iterate 22 (refine qaj rfl rfl fun K hK=>xq ?_;go_simp;refine hK _ _ ?_;clear hK K)
  iterate 3 (refine qaz rfl rfl fun K hK=>xp ?_;go_simp;refine hK _ _ ?_;clear hK K)
  refine qai ?_;go_wp2;go_ret;exact ⟨by simp,rfl⟩
end Go.Proofs.YtfaalkneigpcnaaGreatDoor
namespace Go.Proofs.YtfaalkneigpcnaaGreatDoor
structure Top (L v : List Int) (n j u2 u1 u0 v1 v2 : Nat) : Prop where
 e2:qaf L (j+(n+2))=u2
 e1:qaf L (j+(n+1))=u1
 e0:qaf L (j+n)=u0
 f1:qaf v (n+1)=v1
 f2:qaf v n=v2
theorem qjj {L v:List Int} {n j u2 u1 u0 v1 v2:Nat} (h:Top L v n j u2 u1 u0 v1 v2) (hL:U16 L) (hv:U16 v):u2<=65535/\u1<=65535/\u0<=65535/\v1<=65535/\v2<=65535:=by
 have a:=qa8 hL (j+(n+2));have b:=qa8 hL (j+(n+1));have c:=qa8 hL (j+n);have d:=qa8 hv (n+1);have e:=qa8 hv n;rw [h.e2] at a;rw [h.e1] at b;rw [h.e0] at c;rw [h.f1] at d;rw [h.f2] at e
 omega
section
variable {L v : List Int} {n j u2 u1 u0 v1 v2 : Nat}
theorem qo6 (h:Top L v n j u2 u1 u0 v1 v2) (hL:U16 L) (hv:U16 v) (hvl:v.length=n+2) (hjl:j+(n+2)<L.length) (hlt:val (L.drop (j+1))<val v) (htop:32768<=v1) :
  Guess u2 u1 u0 v1 v2 ((65536*u2+u1) / v1) ((65536*u2+u1) % v1):=by
 obtain ⟨a,b,c,d,e⟩:=qjj h hL hv;have h1:=qt5 hL hv hvl hjl hlt;rw [h.e2,h.f1] at h1;exact Guess.start htop d b c (by omega)
theorem qk2 (h:Top L v n j u2 u1 u0 v1 v2) (hL:U16 L) (hv:U16 v) (hvl:v.length=n+2) (hjl:j+(n+2)<L.length) (hlt:val (L.drop (j+1))<val v) (htop:32768<=v1) {d r:Nat} (hG:Guess u2 u1 u0 v1 v2 d r)
  (he:65536<=r\/(d<=65535/\d*v2<=r*65536+u0)) :
  d<=65535/\(d=val ((L.drop j).take (n+3)) / val v\/d=val ((L.drop j).take (n+3)) / val v+1)/\(val ((L.drop j).take (n+3))<d*val v↔d=val ((L.drop j).take (n+3)) / val v+1):=by
 obtain ⟨a,b,c,f,e⟩:=qjj h hL hv;have h1:=qt5 hL hv hvl hjl hlt;rw [h.e2,h.f1] at h1;obtain ⟨g1,g2,g3⟩:=hG.done e b (by omega) (by rw [Nat.mul_comm 65536 r];exact he);obtain ⟨s1,_,s3⟩:=qkk hv hvl hjl hlt;rw [show n+2+1=n+3 by rfl] at s1 s3;have hsu:U16 ((L.drop j).take (n+3)):=(hL.drop _).take _;obtain ⟨lo,hlo,t⟩:=top3 hsu s3;rw [qd4 (by omega),qd4 (by omega),qd4 (by omega),h.e2,h.e1,h.e0] at t;simp only [Int.toNat_natCast] at t;obtain ⟨lo2,hlo2,t2⟩:=top2 hv hvl;rw [h.f1,h.f2] at t2;simp only [Int.toNat_natCast] at t2;obtain ⟨p1,p2⟩:=qnq hlo t;obtain ⟨p3,p4⟩:=qnq hlo2 t2;have hUV:val ((L.drop j).take (n+3))<65536*val v:=by
  rw [<- s1,qa9 L j];have:=qa8 hL j
  omega
 obtain ⟨d1,d2⟩:=qwf (by have:=qhe n;omega) p1 p2 p3 p4 htop hUV g1 g2 g3;exact ⟨g1,d1,d2⟩
end
theorem qwa {U V d o P b:Nat} (h:U+P*b=d*V+o) (hb:b=0) (hlt:¬ U<d*V) (hd:d=U / V\/d=U / V+1) (hi:U<d*V↔d=U / V+1):d=U / V/\o=U % V:=by
 have h1:d=U / V:=by
  rcases hd with h | h
  · exact h
  · exact (hlt (hi.2 h)).elim
 refine ⟨h1,?_⟩;subst hb;have:=qgf U V;rw [<- h1] at this
 omega
end Go.Proofs.YtfaalkneigpcnaaGreatDoor
namespace Go.Proofs.YtfaalkneigpcnaaGreatDoor
open Go.RowKit
inductive MT where
 | nil
 | q (i:Nat) (r:MT)
 | p (i:Nat) (r:MT)
 | l (i:Nat) (r:MT)
 | t (i:Nat) (r:MT)
 | two (i:Nat) (r:MT) (j:Nat) (r':MT)
 | three (i:Nat) (r:MT) (j:Nat) (r':MT) (k:Nat) (r'':MT)
def MT.size:MT->Nat
 | .nil=>0
 | .q _ r=>r.size+1
 | .p _ r=>r.size+1
 | .l _ r=>r.size+1
 | .t _ r=>r.size+1
 | .two _ r _ _=>r.size+1
 | .three _ r _ _ _ _=>r.size+1
section
variable {P : Program} {ops : Array Oper} {Q : Exit -> Act -> World -> Prop} {md : Region.Mode} {S : World -> Prop}
def okMT (md:Region.Mode) (ops:Array Oper) (T:List Nat):MT->Array Bool->Bool->Bool
 | .nil,listed,_=>(Region.ready md ops listed).isEmpty
 | .q i r,listed,late=>!late&&(!T.contains i&&(T.all (fun j=>dep md ops ops.size j i)&&(Region.free md ops listed i&&((Region.ready md ops listed).contains i&&okMT md ops T r (listed.setIfInBounds i true) late))))
 | .p i r,listed,_=>T.contains i&&(Region.free md ops listed i&&((Region.ready md ops listed).contains i&&okMT md ops T r (listed.setIfInBounds i true) true))
 | .l i r,listed,late=>!late&&(!T.contains i&&((Region.ready md ops listed==[i])&&okMT md ops T r (listed.setIfInBounds i true) late))
 | .t i r,listed,_=>T.contains i&&((Region.ready md ops listed==[i])&&okMT md ops T r (listed.setIfInBounds i true) true)
 | .two i r j r',listed,late=>!late&&(!T.contains i&&(!T.contains j&&((Region.ready md ops listed==[i,j])&&((r.size==r'.size)&&(okMT md ops T r (listed.setIfInBounds i true) late&&okMT md ops T r' (listed.setIfInBounds j true) late)))))
 | .three i r j r' k r'',listed,late=>!late&&(!T.contains i&&(!T.contains j&&(!T.contains k&&((Region.ready md ops listed==[i,j,k])&&((r.size==r'.size)&&((r.size==r''.size)&&(okMT md ops T r (listed.setIfInBounds i true) late&&(okMT md ops T r' (listed.setIfInBounds j true) late&&okMT md ops T r'' (listed.setIfInBounds k true) late))))))))
def qdg (P:Program) (ops:Array Oper) (Q:Exit->Act->World->Prop) (i:Nat) (K:Act->World->Prop) (a:Act) (w:World):Prop:=match opAt ops i with
 | none=>False
 | some o=>if Region.wanted o (yielded ops a.tmps)=true then o.wp P a w K Q else K (a.put o.dst undef) w
def wpMT (P:Program) (ops:Array Oper) (Q:Exit->Act->World->Prop) (S:World->Prop):MT->Act->World->Prop
 | .nil,a,w=>Q .normal a w
 | .q i r,a,w=>match opAt ops i with
  | none=>False
  | some o=>if Region.wanted o (yielded ops a.tmps)=true then ∃ v,(∀ w',S w'->(execOp a.eval o).run P w'=.ok (.value v) w')/\wpMT P ops Q S r (a.put o.dst v) w
   else wpMT P ops Q S r (a.put o.dst undef) w
 | .p i r,a,w=>match opAt ops i with
  | none=>False
  | some o=>if Region.wanted o (yielded ops a.tmps)=true then ∃ v,(∀ w',(execOp a.eval o).run P w'=.ok (.value v) w')/\wpMT P ops Q S r (a.put o.dst v) w
   else wpMT P ops Q S r (a.put o.dst undef) w
 | .l i r,a,w=>qdg P ops Q i (fun a' w'=>S w'/\wpMT P ops Q S r a' w') a w
 | .t i r,a,w=>qdg P ops Q i (fun a' w'=>wpMT P ops Q S r a' w') a w
 | .two i r j r',a,w=>qdg P ops Q i (fun a' w'=>S w'/\wpMT P ops Q S r a' w') a w/\qdg P ops Q j (fun a' w'=>S w'/\wpMT P ops Q S r' a' w') a w
 | .three i r j r' k r'',a,w=>qdg P ops Q i (fun a' w'=>S w'/\wpMT P ops Q S r a' w') a w/\qdg P ops Q j (fun a' w'=>S w'/\wpMT P ops Q S r' a' w') a w/\qdg P ops Q k (fun a' w'=>S w'/\wpMT P ops Q S r'' a' w') a w
def inT (T:List Nat) (i:Nat):Bool:=T.contains i
theorem qdf {i:Nat} {K K':Act->World->Prop} {a:Act} {w:World} (h:qdg P ops Q i K a w) (hK:∀ a' w',K a' w'->K' a' w'):wpOp P ops Q i K' a w:=by
 unfold qdg at h;rw [qhy] at h;unfold wpOp
 cases ho:ops[i]? with
 | none=>rw [ho] at h;exact h.elim
 | some o =>
  rw [ho] at h;simp only at h ⊢;by_cases hw:Region.wanted o (yielded ops a.tmps)=true
  ·
   rw [if_pos hw] at h ⊢;exact .inl (Oper.wp_mono hK h)
  ·
   rw [if_neg hw] at h ⊢;exact hK _ _ h
theorem qb6 (hs:Region.noSelect ops=true) (hQ:∀ d v c a w,Q (.panic c) (a.put d v) w->Q (.panic c) a w) (T:List Nat) :
  ∀ (l:MT) (listed:Array Bool) (a:Act) (w:World) (late:Bool),okMT md ops T l listed late=true->qd6 md ops listed->(late=false->S w)->wpMT P ops Q S l a w ->
   qb9 P md ops Q S (inT T) l.size listed a w
 | .nil,listed,a,w,_,hB,_,_,h=>by
  unfold MT.size qb9;exact ⟨by simpa [okMT] using hB,h⟩
 | .q i r,listed,a,w,late,hB,hcl,hS,h=>by
  simp only [okMT,Bool.and_eq_true,Bool.not_eq_true',List.all_eq_true] at hB;obtain ⟨hl,hti,htl,h1,h2,h3⟩:=hB;have h2':i∈Region.ready md ops listed:=by simpa using h2
  unfold wpMT at h;rw [qhy] at h
  cases ho:ops[i]? with
  | none=>rw [ho] at h;exact h.elim
  | some o =>
   rw [ho] at h;simp only at h;have htl':∀ j,inT T j=true->dep md ops ops.size j i=true:=fun j hj=>htl j (by simpa [inT] using hj)
   by_cases hw:Region.wanted o (yielded ops a.tmps)=true
   ·
    rw [if_pos hw] at h;obtain ⟨v,hv,hn⟩:=h;exact qd3 ho hti (Region.noSelect_spec hs) (fun c a w=>hQ _ _ c a w) _ _ _ _ (Region.free_spec ho h1) htl' hcl h2' (.inl ⟨hw,hv⟩) (hS hl) (qb6 hs hQ T r _ _ _ late h3 (hcl.set_ h2') hS hn)
   ·
    rw [if_neg hw] at h;exact qd3 ho hti (Region.noSelect_spec hs) (fun c a w=>hQ _ _ c a w) _ _ _ _ (Region.free_spec ho h1) htl' hcl h2' (.inr ⟨by simpa using hw,rfl⟩) (hS hl) (qb6 hs hQ T r _ _ _ late h3 (hcl.set_ h2') hS h)
 | .p i r,listed,a,w,late,hB,hcl,hS,h=>by
  simp only [okMT,Bool.and_eq_true] at hB;obtain ⟨hti,h1,h2,h3⟩:=hB;have h2':i∈Region.ready md ops listed:=by simpa using h2
  unfold wpMT at h;rw [qhy] at h
  cases ho:ops[i]? with
  | none=>rw [ho] at h;exact h.elim
  | some o =>
   rw [ho] at h;simp only at h;by_cases hw:Region.wanted o (yielded ops a.tmps)=true
   ·
    rw [if_pos hw] at h;obtain ⟨v,hv,hn⟩:=h;exact qeh ho hti (Region.noSelect_spec hs) (fun c a w=>hQ _ _ c a w) _ _ _ _ (Region.free_spec ho h1) h2' (.inl ⟨hw,hv⟩) (qb6 hs hQ T r _ _ _ true h3 (hcl.set_ h2') (fun h=>by cases h) hn)
   ·
    rw [if_neg hw] at h;exact qeh ho hti (Region.noSelect_spec hs) (fun c a w=>hQ _ _ c a w) _ _ _ _ (Region.free_spec ho h1) h2' (.inr ⟨by simpa using hw,rfl⟩) (qb6 hs hQ T r _ _ _ true h3 (hcl.set_ h2') (fun h=>by cases h) h)
 | .l i r,listed,a,w,late,hB,hcl,hS,h=>by
  simp only [okMT,Bool.and_eq_true,Bool.not_eq_true',beq_iff_eq] at hB;obtain ⟨hl,hti,h1,h3⟩:=hB;have h2':i∈Region.ready md ops listed:=by rw [h1];simp
  unfold wpMT at h;unfold MT.size qb9;refine ⟨(fun h0=>by rw [h1] at h0;cases h0),fun j hj=>?_⟩;obtain rfl:j=i:=by rw [h1] at hj;simpa using hj
  exact qdf h fun a' w' hh=>⟨fun _=>hh.1,qb6 hs hQ T r _ a' w' late h3 (hcl.set_ h2') (fun _=>hh.1) hh.2⟩
 | .t i r,listed,a,w,late,hB,hcl,hS,h=>by
  simp only [okMT,Bool.and_eq_true,beq_iff_eq] at hB;obtain ⟨hti,h1,h3⟩:=hB;have h2':i∈Region.ready md ops listed:=by rw [h1];simp
  unfold wpMT at h;unfold MT.size qb9;refine ⟨(fun h0=>by rw [h1] at h0;cases h0),fun j hj=>?_⟩;obtain rfl:j=i:=by rw [h1] at hj;simpa using hj
  have hno:inT T j=false->False:=fun h=>by rw [inT,hti] at h;cases h
  exact qdf h fun a' w' hh=>⟨fun h=>(hno h).elim,qb6 hs hQ T r _ a' w' true h3 (hcl.set_ h2') (fun h=>by cases h) hh⟩
 | .two i r j r',listed,a,w,late,hB,hcl,hS,h=>by
  simp only [okMT,Bool.and_eq_true,Bool.not_eq_true',beq_iff_eq] at hB;obtain ⟨hl,hti,htj,h1,hsz,h3,h4⟩:=hB;have hi':i∈Region.ready md ops listed:=by rw [h1];simp
  have hj':j∈Region.ready md ops listed:=by rw [h1];simp
  unfold wpMT at h;unfold MT.size qb9;refine ⟨(fun h0=>by rw [h1] at h0;cases h0),fun k hk=>?_⟩;rw [h1] at hk;rcases List.mem_cons.1 hk with rfl | hk
  · exact qdf h.1 fun a' w' hh=>⟨fun _=>hh.1,qb6 hs hQ T r _ a' w' late h3 (hcl.set_ hi') (fun _=>hh.1) hh.2⟩
  ·
   obtain rfl:k=j:=by simpa using hk
   refine qdf h.2 fun a' w' hh=>⟨fun _=>hh.1,?_⟩
   rw [hsz];exact qb6 hs hQ T r' _ a' w' late h4 (hcl.set_ hj') (fun _=>hh.1) hh.2
 | .three i r j r' k r'',listed,a,w,late,hB,hcl,hS,h=>by
  simp only [okMT,Bool.and_eq_true,Bool.not_eq_true',beq_iff_eq] at hB;obtain ⟨hl,hti,htj,htk,h1,hsz,hsz2,h3,h4,h5⟩:=hB;have hi':i∈Region.ready md ops listed:=by rw [h1];simp
  have hj':j∈Region.ready md ops listed:=by rw [h1];simp
  have hk':k∈Region.ready md ops listed:=by rw [h1];simp
  unfold wpMT at h;unfold MT.size qb9;refine ⟨(fun h0=>by rw [h1] at h0;cases h0),fun m hm=>?_⟩;rw [h1] at hm;rcases List.mem_cons.1 hm with rfl | hm
  · exact qdf h.1 fun a' w' hh=>⟨fun _=>hh.1,qb6 hs hQ T r _ a' w' late h3 (hcl.set_ hi') (fun _=>hh.1) hh.2⟩
  ·
   rcases List.mem_cons.1 hm with rfl | hm
   ·
    refine qdf h.2.1 fun a' w' hh=>⟨fun _=>hh.1,?_⟩
    rw [hsz];exact qb6 hs hQ T r' _ a' w' late h4 (hcl.set_ hj') (fun _=>hh.1) hh.2
   ·
    obtain rfl:m=k:=by simpa using hm
    refine qdf h.2.2 fun a' w' hh=>⟨fun _=>hh.1,?_⟩
    rw [hsz2];exact qb6 hs hQ T r'' _ a' w' late h5 (hcl.set_ hk') (fun _=>hh.1) hh.2
attribute [irreducible] wpMT
theorem qb1 {id:Nat} {a:Act} {w:World} (l:MT) (T:List Nat) (hm:P.follows .mixedOrders=true) (hs:Region.noSelect ops=true)
  (hB:(l.size==ops.size&&okMT .any ops T l (Array.replicate ops.size false) false)=true)
  (hQ:∀ d v c a w,Q (.panic c) (a.put d v) w->Q (.panic c) a w) (hS:S w.drew) (h:wpMT P ops Q S l a w.drew):(Code.region id ops true).wp P Q a w:=by
 simp only [Bool.and_eq_true,beq_iff_eq] at hB;refine wp_region_any hm (qgz (S:=S) (tl:=inT T) _ _ _ _ ?_);have hc:qd6 .any ops (Array.replicate ops.size false):=fun k o _ hk=>by
  exfalso;rcases Nat.lt_or_ge k ops.size with h' | h'
  · simp [h'] at hk
  · simp [Nat.not_lt.2 h'] at hk
 have:=qb6 (md:=.any) hs hQ T l _ a w.drew false hB.2 hc (fun _=>hS) h
 rwa [hB.1] at this
theorem qct {a:Act} {w:World} (h:Q .normal a w):wpMT P ops Q S .nil a w:=by unfold wpMT;exact h
theorem qcd {i:Nat} {r:MT} {o:Oper} {a:Act} {w:World} (ho:opAt ops i=some o) (hw:Region.wanted o (yielded ops a.tmps)=true)
  (h:∀ K:Act->World->Prop,(∀ a' w',wpMT P ops Q S r a' w'->K a' w')->∃ v,(∀ w',S w'->(execOp a.eval o).run P w'=.ok (.value v) w')/\K (a.put o.dst v) w) :
  wpMT P ops Q S (.q i r) a w:=by
 unfold wpMT;rw [ho];simp only;rw [if_pos hw];exact h _ (fun _ _ h=>h)
theorem qjh {i:Nat} {r:MT} {o:Oper} {a:Act} {w:World} (ho:opAt ops i=some o) (hw:Region.wanted o (yielded ops a.tmps)=true)
  (h:∀ K:Act->World->Prop,(∀ a' w',wpMT P ops Q S r a' w'->K a' w')->∃ v,(∀ w',(execOp a.eval o).run P w'=.ok (.value v) w')/\K (a.put o.dst v) w) :
  wpMT P ops Q S (.p i r) a w:=by
 unfold wpMT;rw [ho];simp only;rw [if_pos hw];exact h _ (fun _ _ h=>h)
theorem qaq {i:Nat} {r:MT} {o:Oper} {a:Act} {w:World} (ho:opAt ops i=some o) (hw:Region.wanted o (yielded ops a.tmps)=true)
  (h:∀ K:Act->World->Prop,Hid (∀ a' w',S w'->(S w'->wpMT P ops Q S r a' w')->K a' w')->o.wp P a w K Q) :
  wpMT P ops Q S (.l i r) a w:=by
 unfold wpMT qdg;rw [ho];simp only;rw [if_pos hw];exact h _ (fun _ _ h k=>⟨h,k h⟩)
theorem qgh {i:Nat} {r:MT} {o:Oper} {a:Act} {w:World} (ho:opAt ops i=some o) (hw:Region.wanted o (yielded ops a.tmps)=true)
  (h:∀ K:Act->World->Prop,Hid (∀ a' w',wpMT P ops Q S r a' w'->K a' w')->o.wp P a w K Q) :
  wpMT P ops Q S (.t i r) a w:=by
 unfold wpMT qdg;rw [ho];simp only;rw [if_pos hw];exact h _ (fun _ _ h=>h)
theorem qbp {i j:Nat} {r r':MT} {a:Act} {w:World} (h:wpMT P ops Q S (.l i r) a w) (h':wpMT P ops Q S (.l j r') a w):wpMT P ops Q S (.two i r j r') a w:=by
 unfold wpMT at h h' ⊢;exact ⟨h,h'⟩
end
end Go.Proofs.YtfaalkneigpcnaaGreatDoor
