/- Walk: the program's rational numbers: Right. -/
import Derived.Test.YtnilkimcdgmgkaaGreatDoorCr9
import Derived.Test.YtnilkimcdgmgkaaGreatDoorCr8
import Derived.Test.YtnilkimcdgmgkaaGreatDoorCr1
import Derived.Test.YtnilkimcdgmgkaaGreatDoorCr3
import Derived.Test.YtnilkimcdgmgkaaGreatDoorCr4
set_option linter.all false
set_option maxRecDepth 100000
set_option maxHeartbeats 4000000
namespace Go.Proofs.YtnilkimcdgmgkaaGreatDoor
open Go.RowKit
theorem qcf {l:List Int} {v:Nat} {x:Int} (h:l[v]? = some x):expAt l v=x:=by
 unfold expAt;rw [List.getD_eq_getElem?_getD,h];rfl
theorem qct {l:List Int} {v:Nat} (h:l.length<=v):expAt l v=0:=by
 unfold expAt;rw [List.getD_eq_getElem?_getD,List.getElem?_eq_none h];rfl
theorem qp0 (l:List Int) (v:Nat) (a:Option Addr) (c:Nat) (w:World) (h:IntsR w a c l) :
  Calls Tryz.prog 196 #[.slice a l.length c,.int .i64 v] w fun e w'=>e=.returned (.int .i64 (expAt l v))/\w=w':=by
 have hlen:=h.len;by_cases hv:v<l.length
 ·
  obtain ⟨x,hx⟩:=qad hv;obtain ⟨b,off,rfl,hc,_⟩:=qbx h hx;rw [qcf hx];clear hx h;go_enter Tryz.func196,Tryz.ntmps196;go_wp2;go_ret;exact ⟨rfl,rfl⟩
 ·
  rw [qct (by omega)];clear h;go_enter Tryz.func196,Tryz.ntmps196;go_wp2;go_ret;exact ⟨rfl,rfl⟩
theorem qlf (l:List Int) (v:Nat) (a:Option Addr) (c:Nat) (w:World) (h:IntsR w a c l) :
  Calls Tryz.prog 77 #[.slice a l.length c,.int .i64 v] w fun e w'=>e=.returned (.int .i64 (expAt l v))/\w=w':=by
 have hlen:=h.len;by_cases hv:v<l.length
 ·
  obtain ⟨x,hx⟩:=qad hv;obtain ⟨b,off,rfl,hc,_⟩:=qbx h hx;rw [qcf hx];clear hx h;go_enter Tryz.func77,Tryz.ntmps77;go_wp2;go_ret;exact ⟨rfl,rfl⟩
 ·
  rw [qct (by omega)];clear h;go_enter Tryz.func77,Tryz.ntmps77;go_wp2;go_ret;exact ⟨rfl,rfl⟩
theorem qu7 (n:Int) (w:World) :
  Calls Tryz.prog 76 #[.int .i64 n] w fun e w'=>e=.returned (.int .i64 (if n<0 then -1 else if 0<n then 1 else 0))/\w=w':=by
 by_cases h:n<0
 ·
  rw [if_pos h];go_enter Tryz.func76,Tryz.ntmps76;go_wp2;go_ret;exact ⟨rfl,rfl⟩
 ·
  by_cases h2:0<n
  ·
   rw [if_neg h,if_pos h2];go_enter Tryz.func76,Tryz.ntmps76;go_wp2;go_ret;exact ⟨rfl,rfl⟩
  ·
   rw [if_neg h,if_neg h2];go_enter Tryz.func76,Tryz.ntmps76;go_wp2;go_ret;exact ⟨rfl,rfl⟩
theorem qn2 {w:World} {a:Option Addr} {c:Nat} {l:List Int} (h:IntsR w a c l) (v:Nat):InInt (expAt l v):=by
 by_cases hv:v<l.length
 ·
  obtain ⟨x,hx⟩:=qad hv;obtain ⟨b,off,_,_,hi⟩:=qbx h hx;rw [qcf hx];exact hi
 · rw [qct (by omega)];unfold InInt;omega
theorem zz26 {P:Prop} (h:P:=by
 rcases hrel with ⟨rfl,hr⟩ | ⟨v,hv,rfl,hr⟩
 ·
  have hr:=hr.out;subst hr;go_wp2;go_ret;exact ⟨rfl,rfl⟩
 ·
  have I1v:=I1.out v;have I2v:=I2.out v;obtain ⟨x,hx⟩:∃ x,expAt l v=x:=⟨_,rfl⟩
  obtain ⟨y,hy⟩:∃ y,expAt m v=y:=⟨_,rfl⟩
  have E1:=C1.out v;have E2:=C2.out v;rw [hx] at E1 I1v;rw [hy] at E2 I2v;obtain ⟨i1,i2⟩:=I1v;obtain ⟨i3,i4⟩:=I2v;have hr:=hr.out;unfold qcl at hr;rw [hx,hy] at hr;have HR:=Hd hr;replace E1:=Hd E1;replace E2:=Hd E2;clear hr hx hy;go_wp2_with fail;refine E1.out.mono ?_;rintro e w1 ⟨rfl,rfl⟩;go_wp2_with fail;refine E2.out.mono ?_;rintro e w1 ⟨rfl,rfl⟩;by_cases hxy:x=y
  ·
   subst hxy;have HR2:=Hd ((if_pos rfl).symm.trans HR.out);go_wp2
   go_round
   case rel =>
    cases v with
    | zero=>exact .inl ⟨by go_num,by have:=HR2.out;rw [<- this];rfl⟩
    | succ k=>exact .inr ⟨k,by omega,by go_num,HR2.out⟩
   case measure=>simp [intOf]
  ·
   have hb:(x==y)=false:=by simpa using hxy
   have HR2:=HR.out;rw [if_neg hxy] at HR2;by_cases hlt:x<y
   ·
    rw [if_pos hlt] at HR2;subst HR2;clear hxy HR;go_wp2;go_ret;exact ⟨rfl,rfl⟩
   ·
    rw [if_neg hlt] at HR2;subst HR2;clear hxy HR;go_wp2;go_ret;exact ⟨rfl,rfl⟩
 ):P:=h
theorem qwq (l m:List Int) (a a':Option Addr) (c c':Nat) (w:World) (h:IntsR w a c l) (h':IntsR w a' c' m) :
  Calls Tryz.prog 156 #[.slice a l.length c,.slice a' m.length c',.int .i64 0] w fun e w'=>e=.returned (.int .i64 (lexI l m))/\w=w':=by
 have hlen:=h.len;have hlen':=h'.len;have C1:=fun v:Nat=>qp0 l v a c w h
 have C2:=fun v:Nat=>qp0 m v a' c' w h'
 have I1:=qn2 h;have I2:=qn2 h';replace C1:=Hd C1;replace C2:=Hd C2;replace I1:=Hd I1;replace I2:=Hd I2;clear h h';obtain ⟨res,hres⟩:∃ x,lexI l m=x:=⟨_,rfl⟩
 rw [hres];unfold lexI at hres;by_cases hlm:l.length<m.length
 ·
  rw [show max l.length m.length=m.length by omega] at hres;have HRES:=Hd hres;clear hres;go_enter Tryz.func156,Tryz.ntmps156;go_wp2;have HLM:=Hd hlm;clear hlm
  go_loop [9] (fun q=>(q=.int .i64 (-1)/\Hid (0=res))\/∃ v:Nat,v<m.length/\q=.int .i64 v/\Hid (qcl l m (v+1)=res)) (fun q=>(intOf q+1).toNat)
  case atStart =>
   have HR:=HRES.out;have hlm:=HLM.out
   cases hn:m.length with
   | zero=>rw [hn] at HR;exact .inl ⟨by go_num,HR⟩
   | succ k=>rw [hn] at HR;exact .inr ⟨k,by omega,by go_num,HR⟩
  case round =>
   exact zz26
 ·
  rw [show max l.length m.length=l.length by omega] at hres;have HRES:=Hd hres;clear hres;go_enter Tryz.func156,Tryz.ntmps156;go_wp2;have HLM:=Hd hlm;clear hlm
  go_loop [9] (fun q=>(q=.int .i64 (-1)/\Hid (0=res))\/∃ v:Nat,v<l.length/\q=.int .i64 v/\Hid (qcl l m (v+1)=res)) (fun q=>(intOf q+1).toNat)
  case atStart =>
   have HR:=HRES.out;have hlm:=HLM.out
   cases hn:l.length with
   | zero=>rw [hn] at HR;exact .inl ⟨by go_num,HR⟩
   | succ k=>rw [hn] at HR;exact .inr ⟨k,by omega,by go_num,HR⟩
  case round =>
   exact zz26
theorem zz25 {P:Prop} (h:P:=by
 rcases hrel with ⟨rfl,hr⟩ | ⟨v,hv,rfl,hr⟩
 ·
  have hr:=hr.out;subst hr;go_wp2;go_ret;exact ⟨rfl,rfl⟩
 ·
  have I1v:=I1.out v;have I2v:=I2.out v;obtain ⟨x,hx⟩:∃ x,expAt l v=x:=⟨_,rfl⟩
  obtain ⟨y,hy⟩:∃ y,expAt m v=y:=⟨_,rfl⟩
  have E1:=C1.out v;have E2:=C2.out v;rw [hx] at E1 I1v;rw [hy] at E2 I2v;obtain ⟨i1,i2⟩:=I1v;obtain ⟨i3,i4⟩:=I2v;have hr:=hr.out;unfold qcl at hr;rw [hx,hy] at hr;have HR:=Hd hr;replace E1:=Hd E1;replace E2:=Hd E2;clear hr hx hy;go_wp2_with fail;refine E1.out.mono ?_;rintro e w1 ⟨rfl,rfl⟩;go_wp2_with fail;refine E2.out.mono ?_;rintro e w1 ⟨rfl,rfl⟩;by_cases hxy:x=y
  ·
   subst hxy;have HR2:=Hd ((if_pos rfl).symm.trans HR.out);go_wp2
   go_round
   case rel =>
    cases v with
    | zero=>exact .inl ⟨by go_num,by have:=HR2.out;rw [<- this];rfl⟩
    | succ k=>exact .inr ⟨k,by omega,by go_num,HR2.out⟩
   case measure=>simp [intOf]
  ·
   have hb:(x==y)=false:=by simpa using hxy
   have HR2:=HR.out;rw [if_neg hxy] at HR2;have E3:=CS.out (x-y);have hsg:(if x-y<0 then (-1:Int) else if 0<x-y then 1 else 0)=res:=by rw [<- HR2];split <;> split <;> first | rfl | omega | (split <;> omega)
   rw [hsg] at E3;replace E3:=Hd E3;clear HR HR2 hsg hxy;go_wp2_with fail;refine E1.out.mono ?_;rintro e w1 ⟨rfl,rfl⟩;go_wp2_with fail;refine E2.out.mono ?_;rintro e w1 ⟨rfl,rfl⟩;go_wp2_with fail;refine E3.out.mono ?_;rintro e w1 ⟨rfl,rfl⟩;go_wp2;go_ret;exact ⟨rfl,rfl⟩
 ):P:=h
theorem qjo (l m:List Int) (a a':Option Addr) (c c':Nat) (w:World) (h:IntsR w a c l) (h':IntsR w a' c' m) (hi:∀ x∈l,0<=x/\x<=1048576) (hi':∀ x∈m,0<=x/\x<=1048576) :
  Calls Tryz.prog 38 #[.slice a l.length c,.slice a' m.length c',.int .i64 0] w fun e w'=>e=.returned (.int .i64 (lexI l m))/\w=w':=by
 have hlen:=h.len;have hlen':=h'.len;have C1:=fun v:Nat=>qlf l v a c w h
 have C2:=fun v:Nat=>qlf m v a' c' w h'
 have CS:=fun z:Int=>qu7 z w
 have I1:∀ v,0<=expAt l v/\expAt l v<=1048576:=qlj hi;have I2:∀ v,0<=expAt m v/\expAt m v<=1048576:=qlj hi';replace C1:=Hd C1;replace C2:=Hd C2;replace CS:=Hd CS;replace I1:=Hd I1;replace I2:=Hd I2;clear hi hi';clear h h';obtain ⟨res,hres⟩:∃ x,lexI l m=x:=⟨_,rfl⟩
 rw [hres];unfold lexI at hres;by_cases hlm:l.length<m.length
 ·
  rw [show max l.length m.length=m.length by omega] at hres;have HRES:=Hd hres;clear hres;go_enter Tryz.func38,Tryz.ntmps38;go_wp2;have HLM:=Hd hlm;clear hlm
  go_loop [7] (fun q=>(q=.int .i64 (-1)/\Hid (0=res))\/∃ v:Nat,v<m.length/\q=.int .i64 v/\Hid (qcl l m (v+1)=res)) (fun q=>(intOf q+1).toNat)
  case atStart =>
   have HR:=HRES.out;have hlm:=HLM.out
   cases hn:m.length with
   | zero=>rw [hn] at HR;exact .inl ⟨by go_num,HR⟩
   | succ k=>rw [hn] at HR;exact .inr ⟨k,by omega,by go_num,HR⟩
  case round =>
   exact zz25
 ·
  rw [show max l.length m.length=l.length by omega] at hres;have HRES:=Hd hres;clear hres;go_enter Tryz.func38,Tryz.ntmps38;go_wp2;have HLM:=Hd hlm;clear hlm
  go_loop [7] (fun q=>(q=.int .i64 (-1)/\Hid (0=res))\/∃ v:Nat,v<l.length/\q=.int .i64 v/\Hid (qcl l m (v+1)=res)) (fun q=>(intOf q+1).toNat)
  case atStart =>
   have HR:=HRES.out;have hlm:=HLM.out
   cases hn:l.length with
   | zero=>rw [hn] at HR;exact .inl ⟨by go_num,HR⟩
   | succ k=>rw [hn] at HR;exact .inr ⟨k,by omega,by go_num,HR⟩
  case round =>
   exact zz25
def Mok (B:Int) (m:List Int):Prop:=(∀ x∈m,0<=x/\x<=B)/\m[m.length-1]? ≠ some 0/\m.length<=64
theorem Mok.nil (B:Int):Mok B []:=⟨fun x h=>(by cases h),by simp,by simp⟩
theorem Mok.exp {B:Int} {m:List Int} (h:Mok B m) (hB:0<=B) (v:Nat):0<=expAt m v/\expAt m v<=B:=by
 unfold expAt;rw [List.getD_eq_getElem?_getD]
 cases hx:m[v]? with
 | none=>simpa using hB
 | some x=>exact h.1 x (List.mem_of_getElem? hx)
theorem ql5 {B:Int} {a b:List Int} (hb:Mok B b) (h:∀ v,expAt a v=expAt b v):b.length<=a.length:=by
 rcases Nat.lt_or_ge a.length b.length with hl | hl
 ·
  exfalso;obtain ⟨x,hx⟩:=qad (show b.length-1<b.length by omega);have h1:=h (b.length-1);rw [qct (by omega),qcf hx] at h1;exact hb.2.1 (by rw [hx,<- h1])
 · exact hl
theorem qs5 {B B':Int} {a b:List Int} (ha:Mok B a) (hb:Mok B' b) (h:∀ v,expAt a v=expAt b v):a=b:=by
 have h1:=ql5 hb h;have h2:=ql5 ha fun v=>(h v).symm
 apply List.ext_getElem (by omega);intro i hi1 hi2;have:=h i
 rwa [qcf (List.getElem?_eq_getElem hi1),qcf (List.getElem?_eq_getElem hi2)] at this
def gtM (a b:List Int):Prop:=∃ v,expAt b v<expAt a v/\∀ u,v<u->expAt a u=expAt b u
theorem qeg {a b c:List Int} (h:gtM a b) (k:gtM b c):gtM a c:=by
 obtain ⟨v,h1,h2⟩:=h;obtain ⟨u,k1,k2⟩:=k;rcases Nat.lt_trichotomy v u with e | e | e
 · exact ⟨u,by rw [h2 u e];exact k1,fun x hx=>(h2 x (by omega)).trans (k2 x hx)⟩
 · subst e;exact ⟨v,by omega,fun x hx=>(h2 x hx).trans (k2 x hx)⟩
 · exact ⟨v,by rw [<- k2 v e];exact h1,fun x hx=>(h2 x hx).trans (k2 x (by omega))⟩
theorem qf3 {a b:List Int} (h:gtM a b):¬ ∀ v,expAt a v=expAt b v:=fun e=>by
 obtain ⟨v,h1,_⟩:=h;rw [e v] at h1
 omega
theorem qg0 {a b:List Int} (h:gtM a b) (k:gtM b a):False:=qf3 (qeg h k) fun _=>rfl
theorem qi6 (a b:List Int):∀ n,(∀ v,n<=v->expAt a v=expAt b v) ->
  (qcl a b n=0/\∀ v,expAt a v=expAt b v)\/(qcl a b n=1/\gtM a b)\/(qcl a b n = -1/\gtM b a)
 | 0,h=>.inl ⟨rfl,fun v=>h v (Nat.zero_le _)⟩
 | n+1,h=>by
  unfold qcl;by_cases e:expAt a n=expAt b n
  ·
   rw [if_pos e];exact qi6 a b n fun v hv=>by
    rcases Nat.eq_or_lt_of_le hv with e' | e'
    · subst e';exact e
    · exact h v e'
  ·
   rw [if_neg e];by_cases l:expAt a n<expAt b n
   ·
    rw [if_pos l];exact .inr (.inr ⟨rfl,n,l,fun u hu=>(h u hu).symm⟩)
   ·
    rw [if_neg l];exact .inr (.inl ⟨rfl,n,by omega,fun u hu=>h u hu⟩)
theorem qeo (a b:List Int):(lexI a b=0/\∀ v,expAt a v=expAt b v)\/(lexI a b=1/\gtM a b)\/(lexI a b = -1/\gtM b a) :=
 qi6 a b _ fun v hv=>by rw [qct (by omega),qct (by omega)]
theorem qgn {a b:List Int}:0<lexI a b↔gtM a b:=by
 rcases qeo a b with ⟨h,e⟩ | ⟨h,e⟩ | ⟨h,e⟩ <;> rw [h]
 · exact ⟨fun h=>by omega,fun h=>(qf3 h e).elim⟩
 · exact ⟨fun _=>e,fun _=>by omega⟩
 · exact ⟨fun h=>by omega,fun h=>(qg0 h e).elim⟩
theorem qy2 {a b:List Int}:lexI a b<0↔gtM b a:=by
 rcases qeo a b with ⟨h,e⟩ | ⟨h,e⟩ | ⟨h,e⟩ <;> rw [h]
 · exact ⟨fun h=>by omega,fun h=>(qf3 h fun v=>(e v).symm).elim⟩
 · exact ⟨fun h=>by omega,fun h=>(qg0 h e).elim⟩
 · exact ⟨fun _=>e,fun _=>by omega⟩
theorem qkn {B B':Int} {a b:List Int} (ha:Mok B a) (hb:Mok B' b) (h1:¬ 0<lexI a b) (h2:¬ lexI a b<0):a=b:=by
 rcases qeo a b with ⟨h,e⟩ | ⟨h,e⟩ | ⟨h,e⟩
 · exact qs5 ha hb e
 · omega
 · omega
theorem qwy (a:List Int):lexI a a=0:=by
 rcases qeo a a with ⟨h,_⟩ | ⟨_,h⟩ | ⟨_,h⟩
 · exact h
 · exact (qg0 h h).elim
 · exact (qg0 h h).elim
theorem qxb {B B':Int} {a b:List Int} (ha:Mok B a) (hb:Mok B' b):a=b\/gtM a b\/gtM b a:=by
 rcases qeo a b with ⟨_,e⟩ | ⟨_,e⟩ | ⟨_,e⟩
 · exact .inl (qs5 ha hb e)
 · exact .inr (.inl e)
 · exact .inr (.inr e)
def mulM (a b:List Int):List Int:=(List.range (max a.length b.length)).map fun v=>expAt a v+expAt b v
theorem qii (a b:List Int):(mulM a b).length=max a.length b.length:=by simp [mulM]
theorem qp7 (a b:List Int) {v:Nat} (h:v<max a.length b.length):(mulM a b)[v]? = some (expAt a v+expAt b v):=by
 unfold mulM;rw [List.getElem?_map,List.getElem?_range h]
 rfl
theorem qg6 (a b:List Int) (v:Nat):expAt (mulM a b) v=expAt a v+expAt b v:=by
 rcases Nat.lt_or_ge v (max a.length b.length) with h | h
 · exact qcf (qp7 a b h)
 · rw [qct (by rw [qii];exact h),qct (l:=a) (by omega),qct (l:=b) (by omega)];rfl
theorem qaf6 {B B':Int} {a b:List Int} (ha:Mok B a) (hb:Mok B' b) (hB:0<=B) (hB':0<=B'):Mok (B+B') (mulM a b):=by
 refine ⟨?_,?_,by rw [qii];have:=ha.2.2;have:=hb.2.2;omega⟩
 ·
  intro x hx;obtain ⟨v,hv,rfl⟩:=List.mem_map.1 hx;have h1:=ha.exp hB v;have h2:=hb.exp hB' v
  omega
 ·
  rw [qii];rcases Nat.eq_zero_or_pos (max a.length b.length) with h | h
  ·
   have:mulM a b=[]:=List.eq_nil_of_length_eq_zero (by rw [qii,h]);rw [this];simp
  ·
   rw [qp7 a b (by omega)];intro e;injection e with e
   have h1:=ha.exp hB (max a.length b.length-1);have h2:=hb.exp hB' (max a.length b.length-1);rcases Nat.le_total a.length b.length with l | l
   ·
    obtain ⟨x,hx⟩:=qad (show b.length-1<b.length by omega);rw [show max a.length b.length=b.length by omega] at e h1 h2;rw [qcf hx] at e h2;exact hb.2.1 (by rw [hx,show x=0 by omega])
   ·
    obtain ⟨x,hx⟩:=qad (show a.length-1<a.length by omega);rw [show max a.length b.length=a.length by omega] at e h1 h2;rw [qcf hx] at e h1;exact ha.2.1 (by rw [hx,show x=0 by omega])
theorem qaf2 {a b:List Int} (h:gtM a b) (c:List Int):gtM (mulM a c) (mulM b c):=by
 obtain ⟨v,h1,h2⟩:=h;refine ⟨v,by rw [qg6,qg6];omega,fun u hu=>by rw [qg6,qg6,h2 u hu]⟩
abbrev Tm:=Rat × List Int
def coefP:List Tm->List Int->Rat
 | [],_=>0
 | t :: p,m=>(if t.2=m then t.1 else 0)+coefP p m
def Tok (B:Int) (p:List Tm):Prop:=∀ t∈p,Mok B t.2/\t.1≠0
def Pok (B:Int) (p:List Tm):Prop:=Tok B p/\p.Pairwise fun s t=>gtM s.2 t.2
theorem Pok.nil (B:Int):Pok B []:=⟨fun t h=>(by cases h),List.Pairwise.nil⟩
theorem Pok.tail {B:Int} {t:Tm} {p:List Tm} (h:Pok B (t :: p)):Pok B p:=⟨fun s hs=>h.1 s (List.mem_cons_of_mem _ hs),h.2.tail⟩
theorem Pok.head {B:Int} {t:Tm} {p:List Tm} (h:Pok B (t :: p)):Mok B t.2/\t.1≠0:=h.1 t (List.mem_cons_self)
theorem Pok.gt {B:Int} {t:Tm} {p:List Tm} (h:Pok B (t :: p)):∀ s∈p,gtM t.2 s.2:=(List.pairwise_cons.1 h.2).1
theorem Pok.cons {B:Int} {t:Tm} {p:List Tm} (h:Pok B p) (h1:Mok B t.2) (h2:t.1≠0) (h3:∀ s∈p,gtM t.2 s.2):Pok B (t :: p) :=
 ⟨fun s hs => (by rcases List.mem_cons.1 hs with rfl | hs
                  · exact ⟨h1,h2⟩
                  · exact h.1 s hs),List.pairwise_cons.2 ⟨h3,h.2⟩⟩
theorem qml {p:List Tm} {m:List Int} (h:∀ s∈p,s.2≠m):coefP p m=0:=by
 induction p with
 | nil=>rfl
 | cons t p ih =>
  unfold coefP;rw [if_neg (h t (List.mem_cons_self)),ih fun s hs=>h s (List.mem_cons_of_mem _ hs)]
  grind
theorem qqt {a b:List Int} (h:gtM a b):a≠b:=fun e=>qf3 h fun v=>by rw [e]
theorem qd0 {B:Int} {t:Tm} {p:List Tm} (h:Pok B (t :: p)):coefP (t :: p) t.2=t.1:=by
 unfold coefP;rw [if_pos rfl,qml fun s hs e=>qqt (h.gt s hs) e.symm]
 grind
theorem qk4 {B:Int} {t:Tm} {p:List Tm} {m:List Int} (h:Pok B (t :: p)) (hm:gtM m t.2):coefP (t :: p) m=0 :=
 qml fun s hs e=>by
  rcases List.mem_cons.1 hs with rfl | hs
  · exact qqt hm e.symm
  · exact qqt (qeg hm (h.gt s hs)) e.symm
theorem qss {B B':Int}:∀ {p q:List Tm},Pok B p->Pok B' q->(∀ m,coefP p m=coefP q m)->p=q
 | [],[],_,_,_=>rfl
 | [],t :: q,_,hq,h=>by
  have:=h t.2;rw [qd0 hq] at this;exact absurd this.symm hq.head.2
 | s :: p,[],hp,_,h=>by
  have:=h s.2;rw [qd0 hp] at this;exact absurd this hp.head.2
 | s :: p,t :: q,hp,hq,h=>by
  rcases qxb hp.head.1 hq.head.1 with e | e | e
  ·
   have h1:s.1=t.1:=by
    have:=h s.2;rw [qd0 hp,e,qd0 hq] at this;exact this
   have h2:s=t:=Prod.ext h1 e;subst h2;rw [qss hp.tail hq.tail fun m=>by
    have:=h m;unfold coefP at this
    grind]
  ·
   have:=h s.2;rw [qd0 hp,qk4 hq e] at this;exact absurd this hp.head.2
  ·
   have:=h t.2;rw [qd0 hq,qk4 hp e] at this;exact absurd this.symm hq.head.2
def addP:List Tm->List Tm->List Tm
 | [],q=>q
 | s :: p,[]=>s :: p
 | s :: p,t :: q =>
  if 0<lexI s.2 t.2 then s :: addP p (t :: q)
  else if lexI s.2 t.2<0 then t :: addP (s :: p) q
  else if s.1+t.1=0 then addP p q
  else (s.1+t.1,s.2) :: addP p q
termination_by p q=>p.length+q.length
theorem qcy (p:List Tm):addP p []=p:=by cases p <;> unfold addP <;> rfl
theorem qej (p:List Tm):addP [] p=p:=by unfold addP;rfl
theorem qh4 {s t:Tm} {p q:List Tm} (h:0<lexI s.2 t.2):addP (s :: p) (t :: q)=s :: addP p (t :: q):=by rw [addP,if_pos h]
theorem qh7 {s t:Tm} {p q:List Tm} (h:lexI s.2 t.2<0):addP (s :: p) (t :: q)=t :: addP (s :: p) q:=by rw [addP,if_neg (by omega),if_pos h]
theorem qfm {s t:Tm} {p q:List Tm} (h:lexI s.2 t.2=0) (h0:s.1+t.1=0):addP (s :: p) (t :: q)=addP p q:=by rw [addP,if_neg (by omega),if_neg (by omega),if_pos h0]
theorem qh6 {s t:Tm} {p q:List Tm} (h:lexI s.2 t.2=0) (h0:s.1+t.1≠0):addP (s :: p) (t :: q)=(s.1+t.1,s.2) :: addP p q:=by rw [addP,if_neg (by omega),if_neg (by omega),if_neg h0]
theorem qfd:∀ (p q:List Tm),(addP p q).length<=p.length+q.length
 | [],q=>by rw [qej];simp
 | s :: p,[]=>by rw [qcy];simp
 | s :: p,t :: q=>by
  rw [addP]
  split
  · have:=qfd p (t :: q);simp at this ⊢;omega
  ·
   split
   · have:=qfd (s :: p) q;simp at this ⊢;omega
   ·
    split
    · have:=qfd p q;simp at this ⊢;omega
    · have:=qfd p q;simp at this ⊢;omega
termination_by p q=>p.length+q.length
theorem qdn:∀ (p q:List Tm) (u:Tm),u∈addP p q->u∈p\/u∈q\/∃ s∈p,∃ t∈q,u=(s.1+t.1,s.2)/\lexI s.2 t.2=0/\s.1+t.1≠0
 | [],q,u,h=>by rw [qej] at h;exact .inr (.inl h)
 | s :: p,[],u,h=>by rw [qcy] at h;exact .inl h
 | s :: p,t :: q,u,h=>by
  have fix:∀ {p' q':List Tm},(∀ x∈p',x∈s :: p)->(∀ x∈q',x∈t :: q)->(u∈p'\/u∈q'\/∃ s∈p',∃ t∈q',u=(s.1+t.1,s.2)/\lexI s.2 t.2=0/\s.1+t.1≠0) ->
    (u∈s :: p\/u∈t :: q\/∃ s'∈s :: p,∃ t'∈t :: q,u=(s'.1+t'.1,s'.2)/\lexI s'.2 t'.2=0/\s'.1+t'.1≠0):=fun h1 h2 h3=>by
   rcases h3 with h | h | ⟨a,ha,b,hb,e⟩
   · exact .inl (h1 _ h)
   · exact .inr (.inl (h2 _ h))
   · exact .inr (.inr ⟨a,h1 _ ha,b,h2 _ hb,e⟩)
  have m1:∀ x∈p,x∈s :: p:=fun x hx=>List.mem_cons_of_mem _ hx
  have m2:∀ x∈q,x∈t :: q:=fun x hx=>List.mem_cons_of_mem _ hx
  by_cases c1:0<lexI s.2 t.2
  ·
   rw [qh4 c1] at h;rcases List.mem_cons.1 h with rfl | h
   · exact .inl (List.mem_cons_self)
   · exact fix m1 (fun _ h=>h) (qdn p (t :: q) u h)
  ·
   by_cases c2:lexI s.2 t.2<0
   ·
    rw [qh7 c2] at h;rcases List.mem_cons.1 h with rfl | h
    · exact .inr (.inl (List.mem_cons_self))
    · exact fix (fun _ h=>h) m2 (qdn (s :: p) q u h)
   ·
    by_cases c3:s.1+t.1=0
    ·
     rw [qfm (by omega) c3] at h;exact fix m1 m2 (qdn p q u h)
    ·
     rw [qh6 (by omega) c3] at h;rcases List.mem_cons.1 h with rfl | h
     · exact .inr (.inr ⟨s,List.mem_cons_self,t,List.mem_cons_self,rfl,by omega,c3⟩)
     · exact fix m1 m2 (qdn p q u h)
termination_by p q=>p.length+q.length
theorem qef {B B':Int}:∀ {p q:List Tm},Tok B p->Tok B' q->∀ m,coefP (addP p q) m=coefP p m+coefP q m
 | [],q,_,_,m=>by rw [qej];unfold coefP;grind
 | s :: p,[],_,_,m=>by rw [qcy,coefP.eq_1 m];grind
 | s :: p,t :: q,hp,hq,m=>by
  have hp':Tok B p:=fun x hx=>hp x (List.mem_cons_of_mem _ hx)
  have hq':Tok B' q:=fun x hx=>hq x (List.mem_cons_of_mem _ hx)
  by_cases c1:0<lexI s.2 t.2
  ·
   have:=qef hp' hq m;rw [qh4 c1,coefP,this,coefP.eq_2 m s p];grind
  ·
   by_cases c2:lexI s.2 t.2<0
   ·
    have:=qef hp hq' m;rw [qh7 c2,coefP,this,coefP.eq_2 m t q];grind
   ·
    have e:=qkn (hp s List.mem_cons_self).1 (hq t List.mem_cons_self).1 c1 c2;have:=qef hp' hq' m;by_cases c3:s.1+t.1=0
    · rw [qfm (by omega) c3,this,coefP.eq_2 m t q,coefP.eq_2 m s p,e];grind
    · rw [qh6 (by omega) c3,coefP,this,coefP.eq_2 m t q,coefP.eq_2 m s p,e];dsimp only;grind
termination_by p q=>p.length+q.length
theorem qe6 {B:Int}:∀ {p q:List Tm},Pok B p->Pok B q->Pok B (addP p q)
 | [],q,_,hq=>by rw [qej];exact hq
 | s :: p,[],hp,_=>by rw [qcy];exact hp
 | s :: p,t :: q,hp,hq=>by
  by_cases c1:0<lexI s.2 t.2
  ·
   rw [qh4 c1];refine (qe6 hp.tail hq).cons hp.head.1 hp.head.2 fun u hu=>?_
   have g:gtM s.2 t.2:=qgn.1 c1;rcases qdn _ _ _ hu with h | h | ⟨a,ha,b,_,rfl,_⟩
   · exact hp.gt u h
   ·
    rcases List.mem_cons.1 h with rfl | h
    · exact g
    · exact qeg g (hq.gt u h)
   · exact hp.gt a ha
  ·
   by_cases c2:lexI s.2 t.2<0
   ·
    rw [qh7 c2];refine (qe6 hp hq.tail).cons hq.head.1 hq.head.2 fun u hu=>?_
    have g:gtM t.2 s.2:=qy2.1 c2;rcases qdn _ _ _ hu with h | h | ⟨a,ha,b,_,rfl,_⟩
    ·
     rcases List.mem_cons.1 h with rfl | h
     · exact g
     · exact qeg g (hp.gt u h)
    · exact hq.gt u h
    ·
     rcases List.mem_cons.1 ha with rfl | ha
     · exact g
     · exact qeg g (hp.gt a ha)
   ·
    have e:=qkn hp.head.1 hq.head.1 c1 c2;by_cases c3:s.1+t.1=0
    · rw [qfm (by omega) c3];exact qe6 hp.tail hq.tail
    ·
     rw [qh6 (by omega) c3];refine (qe6 hp.tail hq.tail).cons hp.head.1 c3 fun u hu=>?_
     rcases qdn _ _ _ hu with h | h | ⟨a,ha,b,_,rfl,_⟩
     · exact hp.gt u h
     · rw [e];exact hq.gt u h
     · exact hp.gt a ha
termination_by p q=>p.length+q.length
def qjn (p:List Tm) (t:Tm):List Tm:=p.map fun s=>(s.1*t.1,mulM s.2 t.2)
theorem qv3 {B B':Int} {p:List Tm} {t:Tm} (h:Pok B p) (ht:Mok B' t.2) (h0:t.1≠0) (hB:0<=B) (hB':0<=B'):Pok (B+B') (qjn p t):=by
 refine ⟨fun u hu=>?_,?_⟩
 ·
  obtain ⟨s,hs,rfl⟩:=List.mem_map.1 hu;exact ⟨qaf6 (h.1 s hs).1 ht hB hB',by have:=(h.1 s hs).2;dsimp only;grind⟩
 ·
  unfold qjn;rw [List.pairwise_map];exact h.2.imp fun hg=>qaf2 hg _
def pairC (p q:List Tm) (m:List Int):Rat:=match q with
 | []=>0
 | t :: q=>coefP (qjn p t) m+pairC p q m
theorem qaa2 {B B':Int} {p:List Tm} (hp:Pok B p) (hB:0<=B) (hB':0<=B'):∀ (q out:List Tm),Tok B' q->Pok (B+B') out ->
  Pok (B+B') (q.foldl (fun out t=>addP out (qjn p t)) out)/\∀ m,coefP (q.foldl (fun out t=>addP out (qjn p t)) out) m=coefP out m+pairC p q m
 | [],out,_,ho=>⟨ho,fun m=>by unfold pairC;rw [List.foldl_nil];grind⟩
 | t :: q,out,hq,ho=>by
  have ht:=hq t List.mem_cons_self;have h1:=qv3 hp ht.1 ht.2 hB hB';obtain ⟨h2,h3⟩:=qaa2 hp hB hB' q _ (fun x hx=>hq x (List.mem_cons_of_mem _ hx)) (qe6 ho h1);refine ⟨h2,fun m=>?_⟩;rw [List.foldl_cons,h3 m,qef ho.1 h1.1];rw [pairC]
  grind
theorem qfy (t:Tm) (p:List Tm) (m:List Int):coefP (t :: p) m=(if t.2=m then t.1 else 0)+coefP p m:=rfl
def qa7 (l:List (List Tm)):List Tm :=
 if h:l.length<=1 then l.headD [] else addP (qa7 (l.take (l.length / 2))) (qa7 (l.drop (l.length / 2)))
termination_by l.length
decreasing_by
 · rw [List.length_take];omega
 · rw [List.length_drop];omega
def sumC (l:List (List Tm)) (m:List Int):Rat:=match l with
 | []=>0
 | p :: l=>coefP p m+sumC l m
theorem qrs (l l':List (List Tm)) (m:List Int):sumC (l++l') m=sumC l m+sumC l' m:=by
 induction l with
 | nil=>unfold sumC;rw [List.nil_append];grind [sumC]
 | cons p l ih=>rw [List.cons_append,sumC,ih,sumC];grind
theorem qf1 {B:Int} (l:List (List Tm)) (h:∀ p∈l,Pok B p):Pok B (qa7 l)/\∀ m,coefP (qa7 l) m=sumC l m:=by
 rw [qa7]
 split
 ·
  next hl =>
  match l,hl with
  | [],_=>exact ⟨Pok.nil _,fun m=>rfl⟩
  | [p],_=>exact ⟨h p List.mem_cons_self,fun m=>by unfold sumC sumC;simp only [List.headD_cons];grind⟩
 ·
  next hl =>
  have h1:=qf1 (B:=B) (l.take (l.length / 2)) fun p hp=>h p (List.mem_of_mem_take hp)
  have h2:=qf1 (B:=B) (l.drop (l.length / 2)) fun p hp=>h p (List.mem_of_mem_drop hp)
  refine ⟨qe6 h1.1 h2.1,fun m=>?_⟩;rw [qef h1.1.1 h2.1.1,h1.2,h2.2,<- qrs,List.take_append_drop]
termination_by l.length
decreasing_by
 · rw [List.length_take];omega
 · rw [List.length_drop];omega
def Agr (X:Nat->Prop) (w V:World):Prop:=∀ p v,¬ X p.block->w.cell? p=some v->V.cell? p=some v
def Rd (X:Nat->Prop) (w:World) (R:World->Prop):Prop:=∀ V,Agr X w V->R V
section
variable {X Y : Nat -> Prop} {w w' w'' V : World} {R R' : World -> Prop}
theorem Agr.refl (X:Nat->Prop) (w:World):Agr X w w:=fun _ _ _ h=>h
theorem Agr.trans (h:Agr X w w') (k:Agr X w' w''):Agr X w w'':=fun p v hp hc=>k p v hp (h p v hp hc)
theorem Agr.mono (h:Agr X w w') (e:∀ b,X b->Y b):Agr Y w w':=fun p v hp hc=>h p v (fun hx=>hp (e _ hx)) hc
theorem Agr.ext (h:Ext w w'):Agr X w w':=fun p v _ hc=>h p v hc
theorem Agr.below (h:Below w.heap.size w w'):Agr X w w':=Agr.ext (xbw h)
theorem Agr.alloc (h:Agr X w w') (o:Obj):Agr X w (w'.alloc o):=fun p v hp hc=>by
 have e:=h p v hp hc;exact (World.cell?_alloc_lt w' o p (World.block_lt_of_cell? w' p e)).trans e
theorem Agr.setc {g i:Nat} {u:Value} (hg:X g) (h:Agr X w w'):Agr X w (w'.setCell ⟨g,i,none⟩ u):=fun p v hp hc =>
 (World.cell?_setCell_other w' ⟨g,i,none⟩ p u (fun e=>by subst e;exact hp hg)).trans (h p v hp hc)
theorem Agr.grown {a:Option Addr} {n c:Nat} (h:Agr X w w') (hg:w'.grownBy w'' (Value.ownBlock (.slice a n c))) (ha:∀ g,a=some g->X g.block):Agr X w w'':=fun p v hp hc =>
 hg.cell (h p v hp hc) (fun e=>by
  cases a with
  | none=>simp [Value.ownBlock] at e
  | some g=>simp [Value.ownBlock] at e;exact hp (e ▸ ha g rfl))
theorem Rd.less {Y:Nat->Prop} (h:Rd Y w R) (e:∀ b,X b->Y b):Rd X w R:=fun V hV=>h V (hV.mono e)
theorem Rd.now (h:Rd X w R):R w:=h w (Agr.refl _ _)
theorem Rd.imp (h:Rd X w R) (e:∀ V,R V->R' V):Rd X w R':=fun V hV=>e V (h V hV)
theorem Rd.and (h:Rd X w R) (k:Rd X w R'):Rd X w fun V=>R V/\R' V:=fun V hV=>⟨h V hV,k V hV⟩
theorem Rd.step (h:Rd X w R) (hw:Agr X w w'):Rd X w' R:=fun V hV=>h V (hw.trans hV)
theorem Rd.call (h:Rd X w R) (hb:Below w.heap.size w w'):Rd X w' R:=h.step (Agr.below hb)
theorem Rd.alloc (h:Rd X w R) (o:Obj):Rd X (w.alloc o) R:=h.step ((Agr.refl _ _).alloc o)
theorem Rd.more (h:Rd X w R) (e:∀ b,Y b->X b\/w.heap.size<=b):Rd Y w R:=fun V hV=>h V fun p v hp hc =>
 hV p v (fun hy=>(e _ hy).elim hp fun hl=>absurd (World.block_lt_of_cell? w p hc) (by omega)) hc
theorem Rd.made (h:∀ V,New w.heap.size w' V->R V) (hX:∀ b,X b->b<w.heap.size\/w'.heap.size<=b):Rd X w' R:=fun V hV=>h V fun p v hb hc =>
 hV p v (fun hx=>by have:=World.block_lt_of_cell? w' p hc;have:=hX _ hx;omega) hc
end
def Sat (S:World->Prop) (w:World):Prop:=S w
section
variable {α β : Type} {f : α -> List Value} {sz : Nat} {t : TypeId} {B : Nat} {w V : World} {a : Option Addr} {c : Nat} {l : List α} {X : Nat -> Prop}
theorem Own.readsX {E:World->Nat->Nat->β->Prop} (m:List β) (hlen:m.length=l.length) (hf:∀ x,(f x).length=sz) (h:Own f sz t B w a c l) (hV:Agr X w V) (hX:∀ g,a=some g->¬ X g.block)
  (hE:∀ (b o k:Nat) (x:α) (y:β),l[k]? = some x->m[k]? = some y->(∀ j u,(f x)[j]? = some u->V.cell? ⟨b,o+j,none⟩=some u)->E V b o y):SlR sz E V a c m:=by
 refine ⟨by rw [hlen];exact h.cap.1,h.cap.2,fun k y hy=>?_⟩;obtain ⟨x,hx⟩:=qad (show k<l.length by have:=qas hy;omega);obtain ⟨b,ha,hB,_,hc⟩:=h.at_ hf hx;exact ⟨b,0,ha,hE _ _ _ _ _ hx hy (fun j u hu=>hV _ _ (fun hx=>hX _ ha hx) (by simpa using hc j u hu))⟩
end
theorem qmj (neg:Bool) (l m:List Int) (n:Nat) (a a':Option Addr) (c c':Nat) (w:World) (h:NatR w a c l) (h':NatR w a' c' m) (hn:val l=n) (h0:val m≠0) (hl:l.length<=2000000) (hm:m.length<=2000000) :
  Calls Tryz.prog 36 #[.agg #[.bool neg,.slice a l.length c,.slice a' m.length c']] w fun e w'=>e=.returned (.int .i64 (sgnZ neg n))/\Below w.heap.size w w':=by
 have CN:=fun W (hW:Below w.heap.size w W)=>qcw neg l m n (val m) a a' c c' W (h.ext (xbw hW)) (h'.ext (xbw hW)) hn rfl hl hm
 have hs:=qtn neg n (val m) h0;have q1:=qaf h.u16;rw [hn] at q1;have r1:=qaj (qd2 neg n (val m));obtain ⟨t,ht⟩:∃ t,qao neg n (val m)=t:=⟨_,rfl⟩
 rw [ht] at CN hs r1;obtain ⟨s,N,D⟩:=t;unfold RetF at CN;dsimp only at CN hs r1;have CS:=fun b cb W (hV:NatR W b cb (limbs N))=>qt4 s (limbs N) N b cb W hV (qaa _) (by omega)
 rw [hs] at CS;obtain ⟨R,hR⟩:∃ q,sgnZ neg n=q:=⟨_,rfl⟩
 rw [hR] at CS ⊢;replace CN:=Hd CN;replace CS:=Hd CS;have hz:Blk (w.alloc (.cells #[.bool neg,.slice a l.length c,.slice a' m.length c'] 76)) w.heap.size 76 #[.bool neg,.slice a l.length c,.slice a' m.length c']:=Blk.new w _ _;have hb0:Below w.heap.size w (w.alloc (.cells #[.bool neg,.slice a l.length c,.slice a' m.length c'] 76)):=brf.alloc (nlr _) _;have hfl:=fun a1 a2 c1 c2 W=>qag2 s a1 (limbs N).length c1 a2 (limbs D).length c2 W
 clear h h' hn h0 hR ht hs r1 q1;go_enter Tryz.func36,Tryz.ntmps36;go_wp2_with fail;revert hz hb0;generalize w.alloc (.cells #[.bool neg,.slice a l.length c,.slice a' m.length c'] 76)=w0;intro hz hb0;obtain ⟨z0,z1,z2⟩:=cq3 hz;go_wp2_with fail;refine (CN.out _ hb0).mono ?_;rintro e w1 ⟨a1,c1,a2,c2,rfl,hV1,hV2,hb1⟩;have hw1:=bth hb0 hb1;have CS1:=CS.out a1 c1 w1 (hV1 w1 (New.refl _ _));replace CS1:=Hd CS1;have hf:=hfl a1 a2 c1 c2 w1;clear hV1 hV2 hb1 z0 z1 z2 hz hb0 hfl;go_wp2_with fail;refine CS1.out.mono ?_;rintro e w2 ⟨rfl,hb2⟩;go_wp2;go_ret;exact ⟨rfl,bth hw1 hb2⟩
def qd5 (acc:List Nat) (j:Nat):Nat:=if j<acc.length then acc.getD (acc.length-1-j) 0 else 0
def qgy (md:Region.Mode) (acc:List Nat) (o:Oper):Nat:=o.after.toList.foldl (fun m e=>if Region.binds md e then m ||| (2 ^ e.on ||| qd5 acc e.on) else m) 0
def goM (md:Region.Mode) (k:List Nat->Bool):List Oper->List Nat->Bool
 | [],acc=>k acc
 | o :: r,acc=>match qgy md acc o with
  | 0=>goM md k r (0 :: acc)
  | m+1=>goM md k r ((m+1) :: acc)
def qra (md:Region.Mode) (ops:Array Oper) (l:List (Nat × Mode4)):Bool :=
 goM md (fun acc=>l.all fun x=>match x.2 with
  | .q=>l.all fun y=>!y.2.tail||(qd5 acc y.1).testBit x.1
  | _=>true) ops.toList []
def GoodM (md:Region.Mode) (ops:Array Oper) (acc:List Nat):Prop:=∀ j i,(qd5 acc j).testBit i=true->∀ n,j<n->dep md ops n j i=true
theorem qqv {md:Region.Mode} {acc:List Nat} {i:Nat}:∀ (l:List Edge) (m:Nat),(l.foldl (fun m e=>if Region.binds md e then m ||| (2 ^ e.on ||| qd5 acc e.on) else m) m).testBit i=true ->
  m.testBit i=true\/∃ e∈l,Region.binds md e=true/\(e.on=i\/(qd5 acc e.on).testBit i=true)
 | [],m,h=>.inl h
 | e :: l,m,h=>by
  rw [List.foldl_cons] at h;rcases qqv l _ h with h1 | ⟨e',he,h2⟩
  ·
   by_cases hb:Region.binds md e=true
   ·
    rw [if_pos hb,Nat.testBit_or,Bool.or_eq_true] at h1;rcases h1 with h1 | h1
    · exact .inl h1
    ·
     rw [Nat.testBit_or,Bool.or_eq_true] at h1;refine .inr ⟨e,by simp,hb,?_⟩;rcases h1 with h1 | h1
     · left;rw [Nat.testBit_two_pow] at h1;simpa using h1
     · exact .inr h1
   ·
    rw [if_neg hb] at h1;exact .inl h1
  · exact .inr ⟨e',by simp [he],h2⟩
theorem GoodM.step {md:Region.Mode} {ops:Array Oper} {acc:List Nat} {o:Oper} (h:GoodM md ops acc) (ho:ops[acc.length]? = some o):GoodM md ops (qgy md acc o :: acc):=by
 intro j i hj n hn;unfold qd5 at hj
 split at hj
 ·
  next hlt =>
  rw [List.length_cons] at hlt;by_cases hje:j=acc.length
  ·
   subst hje;have:(qgy md acc o :: acc).getD ((qgy md acc o :: acc).length-1-acc.length) 0=qgy md acc o:=by simp
   rw [this] at hj;rcases qqv _ _ hj with h1 | ⟨e,he,hb,h1⟩
   · simp at h1
   ·
    cases n with
    | zero=>omega
    | succ n =>
     unfold dep;rw [ho];dsimp only;rw [Array.any_eq_true'];refine ⟨e,by simpa using he,?_⟩;rw [hb,Bool.true_and,Bool.or_eq_true];rcases h1 with h1 | h1
     · left;simpa using h1
     ·
      right;have hlt2:e.on<acc.length:=by
       unfold qd5 at h1
       split at h1
       · assumption
       · simp at h1
      exact h _ _ h1 n (by omega)
  ·
   have:(qgy md acc o :: acc).getD ((qgy md acc o :: acc).length-1-j) 0=qd5 acc j:=by
    unfold qd5;rw [if_pos (by omega),List.length_cons,show acc.length+1-1-j=(acc.length-1-j)+1 by omega,List.getD_cons_succ]
   rw [this] at hj;exact h _ _ hj n hn
 · simp at hj
theorem qli {md:Region.Mode} {ops:Array Oper} {k:List Nat->Bool}:∀ (r:List Oper) (acc:List Nat),GoodM md ops acc->(∀ j,r[j]? = ops[acc.length+j]?)->goM md k r acc=true ->
  ∃ acc',GoodM md ops acc'/\k acc'=true
 | [],acc,hg,_,h=>⟨acc,hg,h⟩
 | o :: r,acc,hg,hr,h=>by
  have ho:ops[acc.length]? = some o:=by have:=hr 0;simpa using this.symm
  have hs:=hg.step ho;unfold goM at h;have hr':∀ j,r[j]? = ops[acc.length+1+j]?:=fun j=>by have:=hr (j+1);rw [List.getElem?_cons_succ] at this;rw [this];congr 1;omega
  split at h
  ·
   next hm =>
   rw [hm] at hs;exact qli r _ hs hr' h
  ·
   next m hm =>
   rw [hm] at hs;exact qli r _ hs hr' h
theorem qr7 {md:Region.Mode} {ops:Array Oper} {l:List (Nat × Mode4)} (hd:decide (l.map (·.1)).Nodup=true) (hin:(l.all fun x=>decide (x.1<ops.size))=true) (h:qra md ops l=true):qh0 md ops l=true:=by
 obtain ⟨acc,hg,hk⟩:=qli (ops:=ops) ops.toList [] (fun j i hj=>by simp [qd5] at hj) (fun j=>by simp) h;unfold qh0;rw [hd,Bool.true_and,List.all_eq_true];rw [List.all_eq_true] at hk hin;intro x hx;have h1:=hk x hx;obtain ⟨xi,xm⟩:=x
 cases xm with
 | q =>
  dsimp only at h1 ⊢;rw [List.all_eq_true] at h1 ⊢;intro y hy;have h2:=h1 y hy;rw [Bool.or_eq_true] at h2 ⊢;rcases h2 with h2 | h2
  · exact .inl h2
  · exact .inr (hg _ _ h2 _ (by simpa using hin y hy))
 | p=>rfl
 | l=>rfl
 | t=>rfl
section
variable {P : Program} {ops : Array Oper} {Q : Exit -> Act -> World -> Prop} {S : World -> Prop}
theorem qms {id:Nat} {a:Act} {w:World} (l:List (Nat × Mode4)) (hm:P.follows .mixedOrders=true) (hs:Region.noSelect ops=true)
  (hB:((l.length==ops.size&&(decide (l.map (·.1)).Nodup&&l.all fun x=>decide (x.1<ops.size)))&&(qra .any ops l&&(lateB l false&&mixB .any ops l (Array.replicate ops.size false))))=true)
  (hQ:∀ d v c a w,Q (.panic c) (a.put d v) w->Q (.panic c) a w) (hS:S w.drew) (h:wpMix P ops Q S l a w.drew):(Code.region id ops true).wp P Q a w:=by
 simp only [Bool.and_eq_true] at hB;obtain ⟨⟨h1,h2,h3⟩,h4,h5,h6⟩:=hB;refine qi5 l hm hs ?_ hQ hS h;rw [h1,qr7 h2 h3 h4,h5,h6];rfl
end
section
variable {P : Program} {ops : Array Oper} {Q : Exit -> Act -> World -> Prop} {S : World -> Prop}
theorem wrM {id:Nat} {a:Act} {w:World} (l:List (Nat × Mode4)) (hS:S w.drew) (h:wpMix P ops Q S l a w.drew) (hm:P.follows .mixedOrders=true:=by kernel_rfl) (hs:Region.noSelect ops=true:=by kernel_rfl)
 (hB:((l.length==ops.size&&(decide (l.map (·.1)).Nodup&&l.all fun x=>decide (x.1<ops.size)))&&(qra .any ops l&&(lateB l false&&mixB .any ops l (Array.replicate ops.size false))))=true:=by kernel_rfl) (hQ:∀ d v c a w,Q (.panic c) (a.put d v) w->Q (.panic c) a w:=by (intro d _ _ _ _ h;cases d <;> exact h)):(Code.region id ops true).wp P Q a w:=qms l hm hs hB hQ hS h
end
theorem qua (neg:Bool) (num:List Int) (a:Option Addr) (c:Nat) (w:World) (h:NatR w a c num) :
  Calls Tryz.prog 154 #[.agg #[.bool neg,.slice a num.length c]] w fun e w'=>e=.returned (.bool (qcn neg num))/\Below w.heap.size w w':=by
 have hlen:=h.len;have hu:=h.u16;have hb0:Below w.heap.size w (w.alloc (.cells #[.bool neg,.slice a num.length c] 74)):=brf.alloc (nlr _) _;by_cases h0:num.length=0
 ·
  obtain rfl:num=[]:=List.length_eq_zero_iff.1 h0;have hr:qcn neg [] = !neg:=by simp [qcn,qcb,val,qai]
  rw [hr];clear h hu h0 hr
  cases neg
  all_goals
   go_enter Tryz.func154,Tryz.ntmps154;go_wp2;go_ret;exact ⟨rfl,hb0⟩
 ·
  obtain ⟨x,hx⟩:=qad (xs:=num) (k:=num.length-1) (by omega);obtain ⟨b,off,rfl,hc⟩:=h.cell hx;have hcan:=qhv hu hx (by omega);have hr:qcn neg num = !(x==0):=by
   unfold qcn;rw [hcan];simp [h0]
  rw [hr];have hk:=held hc;have hbl:b<w.heap.size:=by have:=World.block_lt_of_cell? w _ hc;simpa using this
  have hbl2:b<w.heap.size+1:=by omega
  have hi1:(0:Int)<=(num.length:Int)-1:=by omega
  have hti:((num.length:Int)-1).toNat=num.length-1:=by omega
  have hgt:decide (0<num.length)=true:=by rw [decide_eq_true_eq];omega
  have hgt2:decide ((0:Int)<(num.length:Int))=true:=by rw [decide_eq_true_eq];omega
  have he:((num.length:Int)==0)=false:=by rw [beq_eq_false_iff_ne];omega
  clear h hu hx hc hcan hr;by_cases hx0:x=0
  ·
   subst hx0;go_enter Tryz.func154,Tryz.ntmps154;go_wp2;go_ret;exact ⟨rfl,hb0⟩
  ·
   have hxb:(x==0)=false:=by simpa using hx0
   have hxn:(x != 0)=true:=by simpa using hx0
   rw [hxb];clear hx0;go_enter Tryz.func154,Tryz.ntmps154;go_wp2;go_ret;exact ⟨rfl,hb0⟩
theorem qq2 {neg:Bool} {num den:List Int} (hI:qcn neg num=true) (hc:qcb den=true) (h0:0<den.length) (h1:decide (den.length=1/\qag den 0=1)=true):Rt.right ⟨neg,num,den⟩=true:=by
 rw [decide_eq_true_eq] at h1;obtain ⟨h1,h2⟩:=h1
 match den,h1 with
 | [x],_ =>
  simp [qag] at h2;subst h2;simp [Rt.right,hI,hc,val]
theorem qpt {neg:Bool} {num den:List Int} (hI:qcn neg num=true) (hc:qcb den=true) (h0:0<den.length):Rt.right ⟨neg,num,den⟩=decide (Nat.gcd (val num) (val den)=1):=by
 simp [Rt.right,hI,hc,h0]
theorem zz27 {P:Prop} (h:P:=by
 go_enter Tryz.func102,Tryz.ntmps102;go_wp2_with fail;refine (CR.out _ hw0).mono ?_;rintro e w1 ⟨rfl,hb⟩;have hw1:=bth hw0 hb;go_wp2;go_ret;exact ⟨rfl,hw1⟩
 ):P:=h
theorem qtp (r:Rt) (na:Option Addr) (nc:Nat) (da:Option Addr) (dc:Nat) (w:World) (h:NatR w na nc r.num) (h':NatR w da dc r.den) (hl:r.num.length<=2000000) (hm:r.den.length<=2000000) :
  Calls Tryz.prog 102 #[r.val na nc da dc] w fun e w'=>e=.returned (.bool r.right)/\Below w.heap.size w w':=by
 obtain ⟨neg,num,den⟩:=r;have CR:=fun W (hW:Below w.heap.size w W)=>qua neg num na nc W (h.ext (xbw hW))
 have CO:=fun W (hW:Below w.heap.size w W)=>qd1 den da dc W (h'.ext (xbw hW))
 have CG:=fun W (hW:Below w.heap.size w W)=>qm8 num den (val num) (val den) na da nc dc W (h.ext (xbw hW)) (h'.ext (xbw hW)) rfl rfl hl hm
 have CO2:=fun n a c W=>qd1 (limbs n) a c W
 simp only [qc7] at CO2;unfold Rt.val;dsimp only;dsimp only at hl hm;obtain ⟨res,hres⟩:∃ q,Rt.right ⟨neg,num,den⟩=q:=⟨_,rfl⟩
 rw [hres];obtain ⟨b1,hb1⟩:∃ b,qcn neg num=b:=⟨_,rfl⟩
 rw [hb1] at CR;replace CR:=Hd CR;replace CO:=Hd CO;replace CG:=Hd CG;replace CO2:=Hd CO2;have hw0:Below w.heap.size w (w.alloc (.cells #[.bool neg,.slice na num.length nc,.slice da den.length dc] 76)):=brf.alloc (nlr _) _;have hz:Blk (w.alloc (.cells #[.bool neg,.slice na num.length nc,.slice da den.length dc] 76)) w.heap.size 76 #[.bool neg,.slice na num.length nc,.slice da den.length dc]:=Blk.new w _ _
 cases b1
 ·
  have hr:res=false:=by rw [<- hres];simp [Rt.right,hb1]
  subst hr;clear hres hb1 h h' hz;exact zz27
 ·
  by_cases h0:den.length=0
  ·
   have hr:res=false:=by rw [<- hres];simp [Rt.right,h0]
   subst hr;obtain rfl:den=[]:=List.length_eq_zero_iff.1 h0;clear hres hb1 h h' hz h0;exact zz27
  ·
   obtain ⟨x,hx⟩:=qad (xs:=den) (k:=den.length-1) (by omega);obtain ⟨b,off,rfl,hc⟩:=h'.cell hx;have hcan:=qhv (l:=den) h'.u16 hx (by omega);have hk:=held hc;have hi1:(0:Int)<=(den.length:Int)-1:=by omega
   have hti:((den.length:Int)-1).toNat=den.length-1:=by omega
   have hdl:(den.length:Int)<=2000000:=by omega
   have he:((den.length:Int)==0)=false:=by rw [beq_eq_false_iff_ne];omega
   by_cases hx0:x=0
   ·
    subst hx0;have hr:res=false:=by rw [<- hres];simp [Rt.right,hcan]
    subst hr;clear hres hb1 h h' hx hc hcan h0;go_enter Tryz.func102,Tryz.ntmps102;go_wp2_with fail;revert hw0 hz;generalize w.alloc (.cells #[.bool neg,.slice na num.length nc,.slice (some ⟨b,off,none⟩) den.length dc] 76)=w0;intro hw0 hz;refine (CR.out _ hw0).mono ?_;rintro e w1 ⟨rfl,hb⟩;have hw1:=bth hw0 hb;have hz1:=hz.below' hb;have z1:=hz1.cell 1;have z2:=hz1.cell 2;have z0:=hz1.cell 0;have k1:=hk _ hw1;clear hb hz hw0;go_wp2;go_ret;exact ⟨rfl,hw1⟩
   ·
    have hxb:(x==0)=false:=by simpa using hx0
    have hcan2:qcb den=true:=by rw [hcan,hxb];rfl
    obtain ⟨bo,hbo⟩:∃ q,decide (den.length=1/\qag den 0=1)=q:=⟨_,rfl⟩
    rw [hbo] at CO;have HRES:=Hd hres;have HB1:=Hd hb1;have HC:=Hd hcan2;have HBO:=Hd hbo;have H0:=Hd h0;clear hres hb1 h h' hx hc hcan hcan2 hbo h0 hx0
    cases bo
    ·
     obtain ⟨g,hg⟩:∃ g,Nat.gcd (val num) (val den)=g:=⟨_,rfl⟩
     have hr:decide (g=1)=res:=by rw [<- HRES.out,qpt HB1.out HC.out (by have:=H0.out;omega)];simp only [hg]
     rw [hg] at CG;have CO3:=CO2.out g;rw [hr] at CO3;replace CO3:=Hd CO3;clear hg hr CO2;go_enter Tryz.func102,Tryz.ntmps102;go_wp2_with fail;revert hw0 hz;generalize w.alloc (.cells #[.bool neg,.slice na num.length nc,.slice (some ⟨b,off,none⟩) den.length dc] 76)=w0;intro hw0 hz;refine (CR.out _ hw0).mono ?_;rintro e w1 ⟨rfl,hb⟩;have hw1:=bth hw0 hb;have hz1:=hz.below' hb;have z1:=hz1.cell 1;have z2:=hz1.cell 2;have z0:=hz1.cell 0;have k1:=hk _ hw1;clear hb hz hw0;go_wp2_with fail;refine (CO.out _ hw1).mono ?_;rintro e w2 ⟨rfl,hb⟩;have hw2:=bth hw1 hb;have hz2:=hz1.below' hb;have y1:=hz2.cell 1;have y2:=hz2.cell 2;have y0:=hz2.cell 0;clear hb hz1 hw1 z0 z1 z2 k1;go_wp2_with fail;refine (CG.out _ hw2).mono ?_;rintro e w3 ⟨a3,c3,rfl,hV,hb⟩;have hw3:=bth hw2 hb;have hrd:=hV w3 (New.refl _ _);clear hb hV y0 y1 y2;go_wp2_with fail;refine (CO3.out _ _ _ hrd).mono ?_;rintro e w4 ⟨rfl,hb⟩
     have hw4:=bth hw3 hb;clear hrd hb;go_wp2;go_ret;exact ⟨rfl,hw4⟩
    ·
     have hr:res=true:=by rw [<- HRES.out];exact qq2 HB1.out HC.out (by have:=H0.out;omega) HBO.out
     subst hr;go_enter Tryz.func102,Tryz.ntmps102;go_wp2_with fail;revert hw0 hz;generalize w.alloc (.cells #[.bool neg,.slice na num.length nc,.slice (some ⟨b,off,none⟩) den.length dc] 76)=w0;intro hw0 hz;refine (CR.out _ hw0).mono ?_;rintro e w1 ⟨rfl,hb⟩;have hw1:=bth hw0 hb;have hz1:=hz.below' hb;have z1:=hz1.cell 1;have z2:=hz1.cell 2;have z0:=hz1.cell 0;have k1:=hk _ hw1;clear hb hz hw0;go_wp2_with fail;refine (CO.out _ hw1).mono ?_;rintro e w2 ⟨rfl,hb⟩;have hw2:=bth hw1 hb;go_wp2;go_ret;exact ⟨rfl,hw2⟩
end Go.Proofs.YtnilkimcdgmgkaaGreatDoor
