/- strconv.Atoi, laid at this program: at a numeral of digits. -/
import Derived.Test.YtnilkimcdgmgkaaGreatDoorCr13
import Derived.Test.YtnilkimcdgmgkaaGreatDoorCr7
import Derived.Test.YtnilkimcdgmgkaaGreatDoorCr3
import Derived.Test.YtnilkimcdgmgkaaGreatDoorProg
import Derived.Ground.NamesProg
import Derived.Shelf.Lays
import Derived.Shelf.LaysC
import Derived.Shelf.Strconv.AtoiAll
set_option linter.all false
set_option maxRecDepth 100000
set_option maxHeartbeats 4000000
namespace Go.Proofs.YtnilkimcdgmgkaaGreatDoor
open Go.RowKit
structure Cuts {α : Type} (N : Nat) (G G' : List UInt8 -> Got α) : Prop where
 sub:∀ l x r,l.length<N->G l=.ok x r->r.length<=l.length
 far:∀ l k,l.length<N->G l=.bad k 9->k<=l.length
 ok:∀ u v x r,(u++v).length<N->v≠[]->G (u++v)=.ok x r->v.length<=r.length->∃ r',r=r'++v/\G' u=.ok x r'
 form:∀ u v k,(u++v).length<N->v≠[]->G (u++v)=.bad k 9->v.length<k->G' u=.bad (k-v.length) 9
 edge:∀ u v,(u++v).length<N->v≠[]->G (u++v)=.bad v.length 9->G' u=.bad 0 10
theorem qhn {α:Type}:∀ (u v:List UInt8),v≠[]->(∀ k,(lost (u++v):Got α)=.bad k 9->v.length<k->(lost u:Got α)=.bad (k-v.length) 9)/\((lost (u++v):Got α)=.bad v.length 9->(lost u:Got α)=.bad 0 10):=fun u v hv=>by
 have hl:0<v.length:=List.length_pos_iff.2 hv;unfold lost;rw [List.length_append,if_neg (by omega)]
 constructor
 ·
  intro k h hk;injection h with h _
  rw [if_neg (by omega)];congr 1
  omega
 ·
  intro h;injection h with h _
  rw [if_pos (by omega)]
theorem qlh {α:Type} {l:List UInt8} {k:Nat} {e:Int} (h:(lost l:Got α)=.bad k e):k<=l.length:=by
 unfold lost at h
 split at h <;> injection h with h _ <;> omega
theorem qc4 {α:Type} {l:List UInt8} {x:α} {r:List UInt8} (h:(lost l:Got α)=.ok x r):False:=by
 unfold lost at h
 split at h <;> cases h
theorem Cuts.bnd {α β:Type} {N:Nat} {G G':List UInt8->Got α} {f f':List UInt8->α->List UInt8->Got β} (h:Cuts N G G') (k:∀ a b x,Cuts N (f a x) (f' b x)):Cuts N (fun l=>(G l).bnd (f l)) (fun l=>(G' l).bnd (f' l)) where
 sub l x r hN e:=by
  cases hg:G l with
  | ok y s =>
   rw [hg] at e;have h1:=h.sub l y s hN hg;exact Nat.le_trans ((k l l y).sub s x r (by omega) e) h1
  | bad k e'=>rw [hg] at e;cases e
 far l n hN hb:=by
  cases hg:G l with
  | ok y s =>
   rw [hg] at hb;have h1:=h.sub l y s hN hg;exact Nat.le_trans ((k l l y).far s n (by omega) hb) h1
  | bad k e' =>
   rw [hg] at hb;have:k=n/\e'=9:=by injection hb with a b;exact ⟨a,b⟩
   obtain ⟨rfl,rfl⟩:=this;exact h.far l k hN hg
 ok u v x r hN hv e hr:=by
  cases hg:G (u++v) with
  | ok y s =>
   rw [hg] at e;have e2:f (u++v) y s=.ok x r:=e;have h0:=h.sub _ y s hN hg;have h1:=(k (u++v) u y).sub s x r (by omega) e2;obtain ⟨s',rfl,h2⟩:=h.ok u v y s hN hv hg (by omega);obtain ⟨r',h3,h4⟩:=(k (u++v) u y).ok s' v x r (by omega) hv e2 hr;refine ⟨r',h3,?_⟩
   show (G' u).bnd (f' u)=_
   rw [h2];exact h4
  | bad k e'=>rw [hg] at e;cases e
 form u v n hN hv hb hn:=by
  cases hg:G (u++v) with
  | ok y s =>
   rw [hg] at hb;have e2:f (u++v) y s=.bad n 9:=hb;have h0:=h.sub _ y s hN hg;have h1:=(k (u++v) u y).far s n (by omega) e2;obtain ⟨s',rfl,h2⟩:=h.ok u v y s hN hv hg (by omega)
   show (G' u).bnd (f' u)=_
   rw [h2];exact (k (u++v) u y).form s' v n (by omega) hv e2 hn
  | bad m e' =>
   rw [hg] at hb;have h1:m=n/\e'=9:=by injection hb with a b;exact ⟨a,b⟩
   obtain ⟨rfl,rfl⟩:=h1
   show (G' u).bnd (f' u)=_
   rw [h.form u v m hN hv hg hn]
   rfl
 edge u v hN hv hb:=by
  cases hg:G (u++v) with
  | ok y s =>
   rw [hg] at hb;have e2:f (u++v) y s=.bad v.length 9:=hb;have h0:=h.sub _ y s hN hg;have h1:=(k (u++v) u y).far s _ (by omega) e2;obtain ⟨s',rfl,h2⟩:=h.ok u v y s hN hv hg h1
   show (G' u).bnd (f' u)=_
   rw [h2];exact (k (u++v) u y).edge s' v (by omega) hv e2
  | bad m e' =>
   rw [hg] at hb;have h1:m=v.length/\e'=9:=by injection hb with a b;exact ⟨a,b⟩
   obtain ⟨rfl,rfl⟩:=h1
   show (G' u).bnd (f' u)=_
   rw [h.edge u v hN hv hg]
   rfl
theorem Cuts.pure {α:Type} (N:Nat) (x:α):Cuts N (fun l=>.ok x l) (fun l=>.ok x l) :=
 ⟨fun l y r _ e=>by injection e with _ e;rw [e];exact nlr _,fun _ _ _ h=>(by cases h),fun u v y r _ _ e _=>(by injection e with a b;subst a b;exact ⟨u,rfl,rfl⟩),fun _ _ _ _ _ h=>(by cases h),fun _ _ _ _ h=>(by cases h)⟩
theorem Cuts.err {α:Type} (N:Nat) (n n':List UInt8->Nat) (e e':Int) (he:e≠9):Cuts (α:=α) N (fun l=>.bad (n l) e) (fun l=>.bad (n' l) e') :=
 ⟨fun _ _ _ _ h=>(by cases h),fun _ _ _ h=>(by injection h with _ h;exact absurd h he),fun _ _ _ _ _ _ h=>(by cases h),fun _ _ _ _ _ h=>(by injection h with _ h;exact absurd h he),fun _ _ _ _ h=>(by injection h with _ h;exact absurd h he)⟩
theorem Cuts.pick {α:Type} {N:Nat} {p:List UInt8->Prop} [DecidablePred p] {A A' B B':List UInt8->Got α} (hp:∀ c u v,p (c :: (u++v))↔p (c :: u)) (h0:¬ p []) (hs:∀ l x r,l.length<N->p l->A l=.ok x r->r.length<l.length) (hf:∀ l k,l.length<N->p l->A l=.bad k 9->k<l.length)
  (hao:∀ u v x r,(u++v).length<N->v≠[]->p u->A (u++v)=.ok x r->v.length<=r.length->∃ r',r=r'++v/\A' u=.ok x r')
  (haf:∀ u v k,(u++v).length<N->v≠[]->p u->A (u++v)=.bad k 9->v.length<k->A' u=.bad (k-v.length) 9)
  (hae:∀ u v,(u++v).length<N->v≠[]->p u->A (u++v)=.bad v.length 9->A' u=.bad 0 10)
  (hb:Cuts N B B'):Cuts N (fun l=>if p l then A l else B l) (fun l=>if p l then A' l else B' l) where
 sub l x r hN e:=by
  split at e
  · next hc=>exact Nat.le_of_lt (hs l x r hN hc e)
  · exact hb.sub l x r hN e
 far l k hN h:=by
  split at h
  · next hc=>exact Nat.le_of_lt (hf l k hN hc h)
  · exact hb.far l k hN h
 ok u v x r hN hv e hr:=by
  cases u with
  | nil =>
   rw [List.nil_append] at e hN;rw [if_neg h0]
   split at e
   · next hc=>have:=hs v x r hN hc e;omega
   · exact hb.ok [] v x r hN hv e hr
  | cons d u =>
   rw [List.cons_append] at e
   split at e
   · next hc=>rw [if_pos ((hp d u v).1 hc)];exact hao (d :: u) v x r hN hv ((hp d u v).1 hc) e hr
   · next hc=>rw [if_neg (fun c=>hc ((hp d u v).2 c))];exact hb.ok (d :: u) v x r hN hv e hr
 form u v k hN hv h hk:=by
  cases u with
  | nil =>
   rw [List.nil_append] at h hN;rw [if_neg h0]
   split at h
   · next hc=>have:=hf v k hN hc h;omega
   · exact hb.form [] v k hN hv h hk
  | cons d u =>
   rw [List.cons_append] at h
   split at h
   · next hc=>rw [if_pos ((hp d u v).1 hc)];exact haf (d :: u) v k hN hv ((hp d u v).1 hc) h hk
   · next hc=>rw [if_neg (fun c=>hc ((hp d u v).2 c))];exact hb.form (d :: u) v k hN hv h hk
 edge u v hN hv h:=by
  cases u with
  | nil =>
   rw [List.nil_append] at h hN;rw [if_neg h0]
   split at h
   · next hc=>have:=hf v _ hN hc h;omega
   · exact hb.edge [] v hN hv h
  | cons d u =>
   rw [List.cons_append] at h
   split at h
   · next hc=>rw [if_pos ((hp d u v).1 hc)];exact hae (d :: u) v hN hv ((hp d u v).1 hc) h
   · next hc=>rw [if_neg (fun c=>hc ((hp d u v).2 c))];exact hb.edge (d :: u) v hN hv h
theorem qee {c:UInt8} {l:List UInt8} (h:l[0]? = some c):0<l.length:=by
 cases l with
 | nil=>cases h
 | cons d l=>simp
theorem Cuts.look {α:Type} {N:Nat} (c:UInt8) {A A' B B':List UInt8->Got α} (ha:Cuts (N-1) A A') (hb:Cuts N B B'):Cuts N (fun l=>if l[0]? = some c then A (l.drop 1) else B l) (fun l=>if l[0]? = some c then A' (l.drop 1) else B' l):=by
 refine Cuts.pick (p:=fun l=>l[0]? = some c) (fun d u v=>Iff.rfl) (by simp) (fun l x r hN hc e=>?_) (fun l k hN hc e=>?_) (fun u v x r hN hv hc e hr=>?_) (fun u v k hN hv hc e hk=>?_) (fun u v hN hv hc e=>?_) hb
 ·
  have h1:=qee hc;have:=ha.sub _ x r (by rw [List.length_drop];omega) e;rw [List.length_drop] at this;omega
 ·
  have h1:=qee hc;have:=ha.far _ k (by rw [List.length_drop];omega) e;rw [List.length_drop] at this;omega
 ·
  have h1:=qee hc;rw [List.drop_append_of_le_length h1] at e;exact ha.ok _ v x r (by rw [List.length_append,List.length_drop];rw [List.length_append] at hN;omega) hv e hr
 ·
  have h1:=qee hc;rw [List.drop_append_of_le_length h1] at e;exact ha.form _ v k (by rw [List.length_append,List.length_drop];rw [List.length_append] at hN;omega) hv e hk
 ·
  have h1:=qee hc;rw [List.drop_append_of_le_length h1] at e;exact ha.edge _ v (by rw [List.length_append,List.length_drop];rw [List.length_append] at hN;omega) hv e
theorem Cuts.same {α:Type} {N:Nat} {G G' H H':List UInt8->Got α} (h:Cuts N G G') (e:∀ l,G l=H l) (e':∀ l,G' l=H' l):Cuts N H H':=by
 rwa [<- (funext e:G=H),<- (funext e':G'=H')]
theorem Cuts.lost {α:Type} (N:Nat):Cuts (α:=α) N Go.Proofs.YtnilkimcdgmgkaaGreatDoor.lost Go.Proofs.YtnilkimcdgmgkaaGreatDoor.lost :=
 ⟨fun _ _ _ _ e=>(qc4 e).elim,fun _ _ _ h=>qlh h,fun _ _ _ _ _ _ e _=>(qc4 e).elim,fun u v k _ hv h hk=>(qhn u v hv).1 k h hk,fun u v _ hv h=>(qhn u v hv).2 h⟩
theorem Cuts.ite {α:Type} {N:Nat} (p:Prop) [Decidable p] {A A' B B':List UInt8->Got α} (ha:Cuts N A A') (hb:Cuts N B B'):Cuts N (fun l=>if p then A l else B l) (fun l=>if p then A' l else B' l):=by
 by_cases h:p
 · simpa only [if_pos h] using ha
 · simpa only [if_neg h] using hb
theorem qfx (p:UInt8->Bool):∀ (u v:List UInt8),((u++v).takeWhile p).length=(u.takeWhile p).length\/u.takeWhile p=u/\u.length<((u++v).takeWhile p).length
 | [],v=>by
  rcases Nat.eq_zero_or_pos (v.takeWhile p).length with h | h
  · exact .inl (by simpa using h)
  · exact .inr ⟨rfl,by simpa using h⟩
 | c :: u,v=>by
  rw [List.cons_append,List.takeWhile_cons,List.takeWhile_cons]
  cases hc:p c
  · exact .inl rfl
  ·
   simp only [if_true,List.length_cons];rcases qfx p u v with h | ⟨h1,h2⟩
   · exact .inl (by omega)
   · exact .inr ⟨by rw [h1],by omega⟩
structure Word (m : List UInt8 -> Nat) : Prop where
 le:∀ l,m l<=l.length
 nil:m []=0
 cut:∀ u v,m (u++v)=m u\/u.length<m (u++v)
 zero:∀ c u v,m (c :: (u++v))=0->m (c :: u)=0
theorem qg4:Word numL where
 le l:=by
  cases l with
  | nil=>exact nlr _
  | cons c r =>
   rw [numL,List.length_cons];have:=(List.takeWhile_sublist digU (l:=r)).length_le
   split
   · split <;> omega
   · omega
 nil:=rfl
 cut u v:=by
  cases u with
  | nil =>
   rcases Nat.eq_zero_or_pos (numL v) with h | h
   · exact .inl (by rw [List.nil_append,h];rfl)
   · exact .inr (by simpa using h)
  | cons c u =>
   rw [List.cons_append,numL,numL,List.length_cons]
   split
   ·
    split
    · exact .inl rfl
    ·
     rcases qfx digU u v with h | ⟨h1,h2⟩
     · exact .inl (by omega)
     · exact .inr (by omega)
   · exact .inl rfl
 zero c u v h:=by
  rw [numL] at h ⊢
  split
  ·
   next hc =>
   rw [if_pos hc] at h
   split at h <;> omega
  · rfl
theorem qyt:Word namL where
 le l:=by
  cases l with
  | nil=>exact nlr _
  | cons c r =>
   rw [namL,List.length_cons];have:=(List.takeWhile_sublist wordV (l:=r)).length_le
   split <;> omega
 nil:=rfl
 cut u v:=by
  cases u with
  | nil =>
   rcases Nat.eq_zero_or_pos (namL v) with h | h
   · exact .inl (by rw [List.nil_append,h];rfl)
   · exact .inr (by simpa using h)
  | cons c u =>
   rw [List.cons_append,namL,namL,List.length_cons]
   split
   ·
    rcases qfx wordV u v with h | ⟨h1,h2⟩
    · exact .inl (by omega)
    · exact .inr (by omega)
   · exact .inl rfl
 zero c u v h:=by
  rw [namL] at h ⊢
  split
  · next hc=>rw [if_pos hc] at h;omega
  · rfl
theorem Cuts.word {α:Type} {m:List UInt8->Nat} (N:Nat) (hm:Word m) (g:List UInt8->Option α) (e:Int) (he:e≠9):Cuts N (fun l=>if m l=0 then Go.Proofs.YtnilkimcdgmgkaaGreatDoor.lost l else match g (l.take (m l)) with
  | none=>.bad l.length e
  | some v=>.ok v (l.drop (m l))) (fun l=>if m l=0 then Go.Proofs.YtnilkimcdgmgkaaGreatDoor.lost l else match g (l.take (m l)) with
  | none=>.bad l.length e
  | some v=>.ok v (l.drop (m l))) where
 sub l x r _ h:=by
  split at h
  · exact (qc4 h).elim
  ·
   split at h
   · cases h
   · injection h with _ h;rw [<- h,List.length_drop];omega
 far l k _ h:=by
  split at h
  · exact qlh h
  ·
   split at h
   · injection h with h _;omega
   · cases h
 ok u v x r _ hv h hr:=by
  split at h
  · exact (qc4 h).elim
  ·
   next h0 =>
   split at h
   · cases h
   ·
    next y hy =>
    injection h with h1 h2
    subst h1;rw [<- h2,List.length_drop,List.length_append] at hr;have hl:0<v.length:=List.length_pos_iff.2 hv;rcases hm.cut u v with hc | hc
    ·
     rw [hc] at h0 hy h2;have hle:=hm.le u;rw [if_neg h0];rw [List.take_append_of_le_length hle] at hy;rw [List.drop_append_of_le_length hle] at h2;refine ⟨u.drop (m u),h2.symm,?_⟩;rw [hy]
    · omega
 form u v k _ hv h hk:=by
  split at h
  ·
   next h0 =>
   have h1:=(qhn (α:=α) u v hv).1 k h hk
   cases u with
   | nil =>
    have:=qlh h;rw [List.nil_append] at this
    omega
   | cons c u =>
    rw [if_pos (hm.zero c u v h0)];exact h1
  ·
   split at h
   · injection h with _ h;exact absurd h he
   · cases h
 edge u v _ hv h:=by
  split at h
  ·
   next h0 =>
   have h1:=(qhn (α:=α) u v hv).2 h
   cases u with
   | nil=>rw [if_pos hm.nil];exact h1
   | cons c u =>
    rw [if_pos (hm.zero c u v h0)];exact h1
  ·
   split at h
   · injection h with _ h;exact absurd h he
   · cases h
theorem Cuts.sameN {α:Type} {N:Nat} {G G' H H':List UInt8->Got α} (h:Cuts N G G') (e:∀ l,l.length<N->G l=H l) (e':∀ l,l.length<N->G' l=H' l):Cuts N H H' where
 sub l x r hN k:=h.sub l x r hN (by rw [e l hN];exact k)
 far l k hN c:=h.far l k hN (by rw [e l hN];exact c)
 ok u v x r hN hv k hr:=by rw [<- e' u (by rw [List.length_append] at hN;omega)];exact h.ok u v x r hN hv (by rw [e _ hN];exact k) hr
 form u v k hN hv c hk:=by rw [<- e' u (by rw [List.length_append] at hN;omega)];exact h.form u v k hN hv (by rw [e _ hN];exact c) hk
 edge u v hN hv c:=by rw [<- e' u (by rw [List.length_append] at hN;omega)];exact h.edge u v hN hv (by rw [e _ hN];exact c)
def oneG {α:Type} (m:List UInt8->Nat) (g:List UInt8->Option α) (e:Int) (l:List UInt8):Got α:=if m l=0 then lost l else match g (l.take (m l)) with
  | none=>.bad l.length e
  | some v=>.ok v (l.drop (m l))
theorem qoj {α:Type} (N:Nat) {m:List UInt8->Nat} (hm:Word m) (g:List UInt8->Option α) (e:Int) (he:e≠9):Cuts N (oneG m g e) (oneG m g e):=Cuts.word N hm g e he
theorem qnh (l:List UInt8):oneG numL (fun s=>if 1000<s.length then none else some s) 4 l=numG l:=by
 unfold numG oneG;have hl:(l.take (numL l)).length=numL l:=by rw [List.length_take];have:=qg4.le l;omega
 split
 · rfl
 ·
  by_cases h:1000<numL l
  · simp only [hl,if_pos h]
  · simp only [hl,if_neg h]
theorem qg7 (N:Nat):Cuts N numG numG:=(qoj N qg4 _ 4 (by decide)).same qnh qnh
theorem qn0 (names:List ByteArray) (l:List UInt8):oneG namL (whoV names) 6 l=namG names l:=by
 unfold namG oneG
 split
 · rfl
 · cases whoV names (l.take (namL l)) <;> rfl
theorem qpc (N:Nat) (names:List ByteArray):Cuts N (namG names) (namG names):=(qoj N qyt (whoV names) 6 (by decide)).same (qn0 names) (qn0 names)
theorem qju (N:Nat) (names:List ByteArray):Cuts N (powG names) (powG names):=by
 refine Cuts.bnd (qpc N names) fun a b v=>?_
 refine Cuts.look 94 (A:=fun l=>(numG l).bnd fun d r2=>if 1048576<decL d then .bad l.length 4 else .ok (v,(decL d:Int)) r2) (A':=fun l=>(numG l).bnd fun d r2=>if 1048576<decL d then .bad l.length 4 else .ok (v,(decL d:Int)) r2) ?_ (Cuts.pure N _);refine Cuts.bnd (qg7 _) fun a b d=>?_
 exact Cuts.ite _ (Cuts.err _ (fun _=>a.length) (fun _=>b.length) 4 4 (by decide)) (Cuts.pure _ _)
theorem qof (names:List ByteArray) (F F':Nat):∀ (N n n':Nat) (m:List Int),N<=n->N<=n'->Cuts N (proG names F n m) (proG names F' n' m)
 | 0,_,_,_,_,_=>⟨fun _ _ _ h=>(by omega),fun _ _ h=>(by omega),fun _ _ _ _ h=>(by omega),fun _ _ _ h=>(by omega),fun _ _ h=>(by omega)⟩
 | N+1,n+1,n'+1,m,h,h'=>by
  have ih:=fun m=>qof names F F' N n n' m (by omega) (by omega)
  have:=Cuts.bnd (f:=fun _ p r=>if 1048576<expAt m p.1+p.2 then .bad F 4 else if r[0]? = some 42 then proG names F n (putM m p) (r.drop 1) else .ok (putM m p) r)
   (f':=fun _ p r=>if 1048576<expAt m p.1+p.2 then .bad F' 4 else if r[0]? = some 42 then proG names F' n' (putM m p) (r.drop 1) else .ok (putM m p) r) (qju (N+1) names) fun a b p=>Cuts.ite _ (Cuts.err _ (fun _=>F) (fun _=>F') 4 4 (by decide)) (Cuts.look 42 (ih _) (Cuts.pure _ _))
  exact this.same (fun l=>by rw [proG]) (fun l=>by rw [proG])
 | N+1,0,_,_,h,_=>by omega
 | N+1,_,0,_,_,h=>by omega
theorem qkb (names:List ByteArray) (F:Nat):∀ (n n':Nat) (m:List Int) (l:List UInt8),l.length<n->l.length<n'->proG names F n m l=proG names F n' m l
 | n+1,n'+1,m,l,h,h'=>by
  rw [proG,proG]
  cases hp:powG names l with
  | bad k e=>rfl
  | ok p r =>
   have hr:=(qju (l.length+1) names).sub l p r (by omega) hp
   show (if _ then _ else _)=(if _ then _ else _)
   split
   · rfl
   ·
    split
    ·
     next hc =>
     have:=qee hc;exact qkb names F n n' _ _ (by rw [List.length_drop];omega) (by rw [List.length_drop];omega)
    · rfl
 | 0,_,_,_,h,_=>by omega
 | _,0,_,_,_,h=>by omega
theorem qo2 (N:Nat) (names:List ByteArray) (F F':Nat) (q:Rat):Cuts N (monG names F q) (monG names F' q):=by
 refine Cuts.bnd (G:=fun l=>proG names F (l.length+1) zerM l) (G':=fun l=>proG names F' (l.length+1) zerM l) (f:=fun _ m r=>.ok (q,cutM m) r) (f':=fun _ m r=>.ok (q,cutM m) r) ?_ fun a b m=>Cuts.pure _ _
 exact (qof names F F' N N N zerM (nlr _) (nlr _)).sameN (fun l h=>qkb names F _ _ _ _ h (by omega)) (fun l h=>qkb names F' _ _ _ _ h (by omega))
theorem zz35 {P:Prop} (h:P:=by
 refine Cuts.bnd (qg7 _) fun a b d=>?_
 exact Cuts.ite _ (Cuts.err _ (fun _=>a.length) (fun _=>b.length) 3 3 (by decide)) (Cuts.pure _ _)
 ):P:=h
theorem qor (N:Nat):Cuts N cofG cofG:=by
 refine Cuts.bnd (qg7 N) fun a b p=>?_
 refine Cuts.look 47 (A:=fun l=>(numG l).bnd fun q r2=>if decL q=0 then .bad l.length 3 else .ok (qv false (decL p) (decL q)) r2) (A':=fun l=>(numG l).bnd fun q r2=>if decL q=0 then .bad l.length 3 else .ok (qv false (decL p) (decL q)) r2) ?_ (Cuts.pure N _);exact zz35
theorem qw7 {l:List UInt8} (h:numL l≠0):(∀ d r,numG l=.ok d r->r.length<l.length)/\∀ k,numG l≠.bad k 9:=by
 have hle:=qg4.le l;unfold numG;rw [if_neg h]
 constructor
 ·
  intro d r e
  split at e
  · cases e
  · injection e with _ e;rw [<- e,List.length_drop];omega
 ·
  intro k e
  split at e
  · injection e with _ e;exact absurd e (by decide)
  · cases e
theorem qo7 {l:List UInt8} (h:numL l≠0):(∀ q r,cofG l=.ok q r->r.length<l.length)/\∀ k,cofG l=.bad k 9->k<l.length:=by
 obtain ⟨h1,h2⟩:=qw7 h;have hk:∀ p:List UInt8,Cuts (l.length+1) (fun r=>if r[0]? = some 47 then (numG (r.drop 1)).bnd fun q r2=>if decL q=0 then (.bad (r.drop 1).length 3:Got Rat) else .ok (qv false (decL p) (decL q)) r2 else .ok (qv false (decL p) 1) r) (fun r=>if r[0]? = some 47 then (numG (r.drop 1)).bnd fun q r2=>if decL q=0 then (.bad (r.drop 1).length 3:Got Rat) else .ok (qv false (decL p) (decL q)) r2 else .ok (qv false (decL p) 1) r):=fun p=>by
  refine Cuts.look 47 (A:=fun l=>(numG l).bnd fun q r2=>if decL q=0 then .bad l.length 3 else .ok (qv false (decL p) (decL q)) r2) (A':=fun l=>(numG l).bnd fun q r2=>if decL q=0 then .bad l.length 3 else .ok (qv false (decL p) (decL q)) r2) ?_ (Cuts.pure _ _);exact zz35
 unfold cofG
 cases hn:numG l with
 | bad k e =>
  refine ⟨fun q r c=>(by cases c),fun k' c=>?_⟩;injection c with c1 c2
  subst c2;exact (h2 k hn).elim
 | ok p s =>
  have hs:=h1 p s hn;exact ⟨fun q r c=>Nat.lt_of_le_of_lt ((hk p).sub s q r (by omega) c) hs,fun k c=>Nat.lt_of_le_of_lt ((hk p).far s k (by omega) c) hs⟩
theorem qyb (N:Nat) (names:List ByteArray):Cuts N (terG names) (terG names):=by
 have hk:∀ (a b:List UInt8) (q:Rat),Cuts N (fun r=>if r[0]? = some 42 then monG names a.length q (r.drop 1) else .ok (q,[]) r) (fun r=>if r[0]? = some 42 then monG names b.length q (r.drop 1) else .ok (q,[]) r):=fun a b q=>Cuts.look 42 (qo2 _ names _ _ q) (Cuts.pure _ _)
 have hA:=Cuts.bnd (f:=fun l q r=>if r[0]? = some 42 then monG names l.length q (r.drop 1) else .ok (q,[]) r) (f':=fun l q r=>if r[0]? = some 42 then monG names l.length q (r.drop 1) else .ok (q,[]) r) (qor N) hk;have hB:Cuts N (fun l=>monG names l.length 1 l) (fun l=>monG names l.length 1 l):=by
  have:=Cuts.bnd (G:=fun l=>.ok () l) (G':=fun l=>.ok () l) (f:=fun l _ r=>monG names l.length 1 r) (f':=fun l _ r=>monG names l.length 1 r) (Cuts.pure N ()) fun a b _=>qo2 N names a.length b.length 1
  exact this
 have:=Cuts.pick (p:=fun l=>numL l≠0) (A:=fun l=>(cofG l).bnd fun q r=>if r[0]? = some 42 then monG names l.length q (r.drop 1) else .ok (q,[]) r) (A':=fun l=>(cofG l).bnd fun q r=>if r[0]? = some 42 then monG names l.length q (r.drop 1) else .ok (q,[]) r)
  (fun c u v=>?_) (fun h=>h rfl) (fun l x r hN hp e=>?_) (fun l k hN hp e=>?_) (fun u v x r hN hv _ e hr=>hA.ok u v x r hN hv e hr) (fun u v k hN hv _ e hk=>hA.form u v k hN hv e hk) (fun u v hN hv _ e=>hA.edge u v hN hv e) hB
 ·
  refine this.same (fun l=>?_) (fun l=>?_) <;>
  ·
   unfold terG;by_cases h:numL l=0
   · rw [if_pos h,if_neg (fun c=>c h)]
   · rw [if_neg h,if_pos h]
 ·
  have e:numL (c :: (u++v))=0↔numL (c :: u)=0:=by
   refine ⟨qg4.zero c u v,fun h=>?_⟩;rw [numL] at h ⊢
   split
   ·
    next hc =>
    rw [if_pos hc] at h
    split at h <;> omega
   · rfl
  exact not_congr e
 ·
  obtain ⟨h1,h2⟩:=qo7 hp
  cases hc:cofG l with
  | bad k e'=>rw [hc] at e;cases e
  | ok q s =>
   rw [hc] at e;have h3:=h1 q s hc;exact Nat.lt_of_le_of_lt ((hk l l q).sub s x r (by omega) e) h3
 ·
  obtain ⟨h1,h2⟩:=qo7 hp
  cases hc:cofG l with
  | bad k' e' =>
   rw [hc] at e;have:k'=k/\e'=9:=by injection e with a b;exact ⟨a,b⟩
   obtain ⟨rfl,rfl⟩:=this;exact h2 k' hc
  | ok q s =>
   rw [hc] at e;have h3:=h1 q s hc;exact Nat.lt_of_le_of_lt ((hk l l q).far s k (by omega) e) h3
theorem qj7 (N:Nat) (c:UInt8):Cuts N (eatG c) (eatG c):=Cuts.look c (A:=fun l=>.ok () l) (A':=fun l=>.ok () l) (Cuts.pure _ _) (Cuts.lost N)
theorem qbp {c:UInt8} {l r:List UInt8} {x:Unit} (h:eatG c l=.ok x r):r.length<l.length:=by
 unfold eatG at h
 split at h
 ·
  next hc =>
  have:=qee hc;injection h with _ h;rw [<- h,List.length_drop];omega
 · exact (qc4 h).elim
theorem qvq {l r:List UInt8} {ng:Bool} (h:sepG l=.ok ng r):r.length<l.length:=by
 unfold sepG at h
 cases h1:eatG 32 l with
 | bad k e=>rw [h1] at h;cases h
 | ok x s =>
  rw [h1] at h;have h2:=qbp h1;have hk:Cuts (l.length+1) (fun r=>if r[0]? = some 45 then (eatG 32 (r.drop 1)).bnd fun _ r'=>(.ok true r':Got Bool) else (eatG 43 r).bnd fun _ r1=>(eatG 32 r1).bnd fun _ r2=>.ok false r2) (fun r=>if r[0]? = some 45 then (eatG 32 (r.drop 1)).bnd fun _ r'=>(.ok true r':Got Bool) else (eatG 43 r).bnd fun _ r1=>(eatG 32 r1).bnd fun _ r2=>.ok false r2):=by
   refine Cuts.look 45 (A:=fun l=>(eatG 32 l).bnd fun _ r'=>.ok true r') (A':=fun l=>(eatG 32 l).bnd fun _ r'=>.ok true r') (Cuts.bnd (qj7 _ 32) fun a b _=>Cuts.pure _ _) ?_;exact Cuts.bnd (qj7 _ 43) fun a b _=>Cuts.bnd (qj7 _ 32) fun a b _=>Cuts.pure _ _
  exact Nat.lt_of_le_of_lt (hk.sub s ng r (by omega) h) h2
def Fine {α:Type} (N:Nat) (g:Got α):Prop:=∀ k e,g=.bad k e->k<=N/\(e=9->0<k)/\(e=10->k=0)/\e≠0
theorem Fine.mono {α:Type} {N M:Nat} {g:Got α} (h:Fine N g) (hN:N<=M):Fine M g:=fun k e hk=>⟨Nat.le_trans (h k e hk).1 hN,(h k e hk).2⟩
theorem Fine.okk {α:Type} (N:Nat) (x:α) (r:List UInt8):Fine N (.ok x r):=fun _ _ h=>by cases h
theorem Fine.err {α:Type} {N k:Nat} {e:Int} (hk:k<=N) (h9:e≠9) (h10:e≠10) (h0:e≠0:=by decide):Fine N (.bad k e:Got α):=fun k' e' h=>by
 injection h with a b
 subst a b;exact ⟨hk,fun c=>absurd c h9,fun c=>absurd c h10,h0⟩
theorem Fine.lost {α:Type} (l:List UInt8):Fine l.length (Go.Proofs.YtnilkimcdgmgkaaGreatDoor.lost l:Got α):=fun k e h=>by
 unfold Go.Proofs.YtnilkimcdgmgkaaGreatDoor.lost at h
 split at h
 ·
  injection h with a b
  subst a b;exact ⟨Nat.zero_le _,fun c=>absurd c (by decide),fun _=>rfl,by decide⟩
 ·
  injection h with a b
  subst a b;exact ⟨nlr _,fun _=>by omega,fun c=>absurd c (by decide),by decide⟩
theorem Fine.bnd {α β:Type} {N:Nat} {g:Got α} {f:α->List UInt8->Got β} (hg:Fine N g) (hf:∀ x r,g=.ok x r->Fine N (f x r)):Fine N (g.bnd f):=fun k e h=>by
 cases hc:g with
 | ok x r=>rw [hc] at h;exact hf x r hc k e h
 | bad k' e' =>
  rw [hc] at h;have:k'=k/\e'=e:=by injection h with a b;exact ⟨a,b⟩
  obtain ⟨rfl,rfl⟩:=this;exact hg k' e' hc
theorem Fine.ite {α:Type} {N:Nat} {p:Prop} [Decidable p] {a b:Got α} (ha:p->Fine N a) (hb:¬ p->Fine N b):Fine N (if p then a else b):=by
 split
 · next h=>exact ha h
 · next h=>exact hb h
theorem qgo (r:List UInt8):(r.drop 1).length<=r.length:=by rw [List.length_drop];omega
theorem qo0 (l:List UInt8):Fine l.length (numG l):=by
 unfold numG;exact Fine.ite (fun _=>Fine.lost l) fun _=>Fine.ite (fun _=>Fine.err (nlr _) (by decide) (by decide)) fun _=>Fine.okk _ _ _
theorem qws (names:List ByteArray) (l:List UInt8):Fine l.length (namG names l):=by
 unfold namG;refine Fine.ite (fun _=>Fine.lost l) fun _=>?_
 split
 · exact Fine.err (nlr _) (by decide) (by decide)
 · exact Fine.okk _ _ _
theorem zz36 {P:Prop} (h:P:=by
 have h2:=qgo r;refine Fine.ite (fun _=>?_) fun _=>Fine.okk _ _ _
 refine Fine.bnd ((qo0 _).mono (by omega)) fun d s _=>?_
 exact Fine.ite (fun _=>Fine.err (by omega) (by decide) (by decide)) fun _=>Fine.okk _ _ _
 ):P:=h
theorem qwl (names:List ByteArray) (l:List UInt8):Fine l.length (powG names l):=by
 unfold powG;refine Fine.bnd (qws names l) fun v r hr=>?_
 have h1:=(qpc (l.length+1) names).sub l v r (by omega) hr;exact zz36
theorem qnq (names:List ByteArray) (F M:Nat) (hF:F<=M):∀ (n:Nat) (m:List Int) (l:List UInt8),l.length<=M->Fine M (proG names F n m l)
 | 0,m,l,h=>by rw [proG];exact Fine.err (Nat.zero_le _) (by decide) (by decide)
 | n+1,m,l,h=>by
  rw [proG];refine Fine.bnd ((qwl names l).mono h) fun p r hr=>?_
  have h1:=(qju (l.length+1) names).sub l p r (by omega) hr;have h2:=qgo r;refine Fine.ite (fun _=>Fine.err hF (by decide) (by decide)) fun _=>Fine.ite (fun _=>qnq names F M hF n _ _ (by omega)) fun _=>Fine.okk _ _ _
theorem qoi (names:List ByteArray) (F M:Nat) (hF:F<=M) (q:Rat) (l:List UInt8) (h:l.length<=M):Fine M (monG names F q l):=by
 unfold monG;exact Fine.bnd (qnq names F M hF _ _ l h) fun _ _ _=>Fine.okk _ _ _
theorem qw4 (l:List UInt8):Fine l.length (cofG l):=by
 unfold cofG;refine Fine.bnd (qo0 l) fun p r hr=>?_
 have h1:=(qg7 (l.length+1)).sub l p r (by omega) hr;exact zz36
theorem qv7 (names:List ByteArray) (l:List UInt8):Fine l.length (terG names l):=by
 unfold terG;refine Fine.ite (fun _=>qoi names _ _ (nlr _) _ _ (nlr _)) fun _=>?_
 refine Fine.bnd (qw4 l) fun q r hr=>?_
 have h1:=(qor (l.length+1)).sub l q r (by omega) hr;have h2:=qgo r;exact Fine.ite (fun _=>qoi names _ _ (nlr _) _ _ (by omega)) fun _=>Fine.okk _ _ _
theorem qhg (c:UInt8) (l:List UInt8):Fine l.length (eatG c l):=by
 unfold eatG;exact Fine.ite (fun _=>Fine.okk _ _ _) fun _=>Fine.lost l
theorem qv0 (l:List UInt8):Fine l.length (sepG l):=by
 unfold sepG;refine Fine.bnd (qhg 32 l) fun _ r hr=>?_
 have h1:=qbp hr;have h2:=qgo r;refine Fine.ite (fun _=>Fine.bnd ((qhg 32 _).mono (by omega)) fun _ _ _=>Fine.okk _ _ _) fun _=>?_
 refine Fine.bnd ((qhg 43 _).mono (by omega)) fun _ r1 hr1=>?_
 have h3:=qbp hr1;exact Fine.bnd ((qhg 32 _).mono (by omega)) fun _ _ _=>Fine.okk _ _ _
theorem qkf (names:List ByteArray) (M:Nat):∀ (f:Nat) (neg:Bool) (acc:List (Rat × List Int)) (l:List UInt8),l.length<=M->Fine M (sumG names f neg acc l)
 | 0,_,_,l,_=>by rw [sumG];exact Fine.err (Nat.zero_le _) (by decide) (by decide)
 | f+1,neg,acc,l,h=>by
  rw [sumG];refine Fine.ite (fun _=>Fine.err h (by decide) (by decide)) fun _=>?_
  refine Fine.bnd ((qv7 names l).mono h) fun t r hr=>?_
  have h1:=(qyb (l.length+1) names).sub l t r (by omega) hr;refine Fine.ite (fun _=>Fine.okk _ _ _) fun _=>?_
  refine Fine.bnd ((qv0 r).mono (by omega)) fun ng s hs=>?_
  have h2:=qvq hs;exact qkf names M f ng _ s (by omega)
theorem qvw (names:List ByteArray) (l:List UInt8):Fine l.length (reaG names l):=by
 unfold reaG;exact Fine.ite (fun _=>qkf names _ _ _ _ _ (qgo l)) fun _=>qkf names _ _ _ _ _ (nlr _)
def tl (s:ByteArray) (a:Nat):List UInt8:=s.data.toList.drop a
theorem qaq (s:ByteArray) (a:Nat):(tl s a).length=s.size-a:=by simp [tl]
theorem tl_at {s:ByteArray} {a:Nat} (h:a<s.size):tl s a=s[a] :: tl s (a+1):=by
 unfold tl;rw [List.drop_eq_getElem_cons (by simpa using h)]
 rfl
theorem qbn {s:ByteArray} {a:Nat} (h:s.size<=a):tl s a=[]:=List.eq_nil_of_length_eq_zero (by rw [qaq];omega)
theorem qbi (s:ByteArray) (a k:Nat):(tl s a).drop k=tl s (a+k):=by unfold tl;rw [List.drop_drop]
theorem qwo (s:ByteArray):tl s 0=s.data.toList:=by simp [tl]
def nxtB (l:List UInt8) (c:Int):Bool:=match l[0]? with
 | some x=>decide ((x.toNat:Int)=c)
 | none=>false
theorem qb3 (l:List UInt8) (c:UInt8) {z:Int} (hz:(c.toNat:Int)=z):nxtB l z=decide (l[0]? = some c):=by
 subst hz;unfold nxtB
 cases l[0]? with
 | none=>simp
 | some x =>
  simp only [Option.some.injEq];rw [decide_eq_decide]
  constructor
  · intro h;exact UInt8.toNat_inj.1 (by omega)
  · intro h;rw [h]
theorem qs6 {s:ByteArray} {a:Nat} (h:a<s.size) (c:Int):nxtB (tl s a) c=decide (((s[a]'h).toNat:Int)=c):=by rw [tl_at h];rfl
theorem qpv {s:ByteArray} {a:Nat} (h:s.size<=a) (c:Int):nxtB (tl s a) c=false:=by rw [qbn h];rfl
def RdA (w:World) (g:Nat) (s:ByteArray) (mb a:Nat) (e b:Int):Prop:=Blk w g 95 #[.string s,.int .i64 a,.map (some mb),.int .i64 e,.int .i64 b]
def StR (w:World) (g:Nat) (s:ByteArray) (mb:Nat) (l:List UInt8):Prop:=∃ a:Nat,a<=s.size/\l=tl s a/\RdA w g s mb a 0 0
def StE (w:World) (g:Nat) (s:ByteArray) (mb:Nat) (k:Nat) (e:Int):Prop:=∃ a:Nat,a<=s.size/\k<=s.size/\e≠0/\RdA w g s mb a e ((s.size-k:Nat):Int)
def StG {α:Type} (w:World) (g:Nat) (s:ByteArray) (mb:Nat) (G:Got α):Prop:=match G with
 | .ok _ r=>StR w g s mb r
 | .bad k e=>StE w g s mb k e
section
variable {w w' : World} {g mb a : Nat} {s : ByteArray} {e b : Int}
theorem RdA.below (h:RdA w g s mb a e b) (hb:Below w.heap.size w w'):RdA w' g s mb a e b:=Blk.below' h hb
theorem RdA.lt (h:RdA w g s mb a e b):g<w.heap.size:=Blk.lt h
theorem RdA.set1 (h:RdA w g s mb a e b) (a':Nat):RdA (w.setCell ⟨g,1,none⟩ (.int .i64 a')) g s mb a' e b:=bS h rfl
theorem RdA.set34 (h:RdA w g s mb a e b) (e' b':Int):RdA ((w.setCell ⟨g,3,none⟩ (.int .i64 e')).setCell ⟨g,4,none⟩ (.int .i64 b')) g s mb a e' b':=bS (bS h rfl) rfl
theorem StE.below {k:Nat} {e:Int} (h:StE w g s mb k e) (hb:Below w.heap.size w w'):StE w' g s mb k e:=by obtain ⟨a,h1,h2,h3,h4⟩:=h;exact ⟨a,h1,h2,h3,h4.below hb⟩
end
abbrev Fg (g:Nat) (w w':World):Prop:=Fr (fun b=>b=g) w w'
theorem zz37 {P:Prop} (h:P:=by
 clear hyc;go_enter Tryz.func91,Tryz.ntmps91;go_wp2;refine wrx (S:=(fun x=>x=w.drew)) [(0,.q),(1,.q),(2,.q),(3,.q),(4,.q),(5,.q),(6,.q),(7,.q),(8,.q),(9,.q),(10,.q),(11,.q),(12,.q),(13,.q),(14,.q),(15,.q),(16,.q),(17,.q),(18,.q),(19,.q),(20,.q),(21,.p),(22,.p),(23,.p)] (rfl) ?_
 iterate 21 (refine qab rfl rfl fun K hK=>xq ?_;go_simp;refine hK _ _ ?_;clear hK K)
 iterate 3 (refine qae rfl rfl fun K hK=>xp ?_;go_simp;refine hK _ _ ?_;clear hK K)
 refine qac ?_;go_wp2;go_ret;exact ⟨rfl,hbd⟩
 ):P:=h
theorem qck (g mb a:Nat) (s:ByteArray) (e b c:Int) (w:World) (h:RdA w g s mb a e b) (ha:a<=s.size) (hs:s.size<=281474976710656) :
  Calls Tryz.prog 91 #[.pointer (some ⟨g,0,none⟩),.int .u8 c] w fun e w'=>e=.returned (.bool (nxtB (tl s a) c))/\Below w.heap.size w w':=by
 obtain ⟨z0,z1,z2,z3,z4⟩:=cq5 h;have hl:=h.lt;have hbd:Below w.heap.size w w.drew:=brf.drew;by_cases hlt:a<s.size
 ·
  have hn:=qs6 hlt c;rw [hn];clear hn h;obtain ⟨y,hy⟩:∃ y:Nat,(s[a]'hlt).toNat=y:=⟨_,rfl⟩
  rw [hy];by_cases hyc:(y:Int)=c
  ·
   have hyb:((y:Int)==c)=true:=by simpa using hyc
   rw [decide_eq_true hyc];exact zz37
  ·
   have hyb:((y:Int)==c)=false:=by simpa using hyc
   rw [decide_eq_false hyc];exact zz37
 ·
  rw [qpv (by omega)];clear h;go_enter Tryz.func91,Tryz.ntmps91;go_wp2;refine wrx (S:=(fun x=>x=w.drew)) [(0,.q),(1,.q),(2,.q),(3,.q),(4,.q),(5,.q),(6,.q),(7,.q),(8,.q),(9,.q),(10,.q),(11,.q),(12,.q),(13,.q),(14,.q),(15,.q),(16,.q),(17,.q),(18,.q),(19,.q),(20,.q),(21,.p),(22,.p),(23,.p)] (rfl) ?_
  iterate 11 (refine qab rfl rfl fun K hK=>xq ?_;go_simp;refine hK _ _ ?_;clear hK K)
  iterate 11 (refine qar rfl rfl (fun K hK=>?_);go_simp;refine hK _ _ ?_;clear hK K)
  iterate 2 (refine qae rfl rfl fun K hK=>xp ?_;go_simp;refine hK _ _ ?_;clear hK K)
  refine qac ?_;go_wp2;go_ret;exact ⟨rfl,hbd⟩
theorem qdd (g mb a:Nat) (s:ByteArray) (e x:Int) (w:World) (h:RdA w g s mb a 0 0) :
  Calls Tryz.prog 92 #[.pointer (some ⟨g,0,none⟩),.int .i64 x,.int .i64 e] w fun u w'=>u=.returned (.tuple #[])/\RdA w' g s mb a e x/\Fg g w w':=by
 obtain ⟨z0,z1,z2,z3,z4⟩:=cq5 h;have hl:=h.lt;have f3:=Blk.frozen h 3;have f4:=Blk.frozen h 4;have hF:=Hd (h.set34 e x);have hG:=Hd (((Fr.refl (fun b=>b=g) w).setc (g:=g) (i:=3) (u:=.int .i64 e) (.inl rfl)).setc (g:=g) (i:=4) (u:=.int .i64 x) (.inl rfl));clear h;go_enter Tryz.func92,Tryz.ntmps92;go_wp2
 first | go_end0 | ((try simp only [Exit.inBlock,Exit.then]);refine bodyPost_ret (results_none rfl _ _ _) rfl ?_)
 exact ⟨rfl,hF.out,hG.out⟩
theorem qai2 (g mb a:Nat) (s:ByteArray) (e0 b e x:Int) (w:World) (h:RdA w g s mb a e0 b) (h0:e0≠0) :
  Calls Tryz.prog 92 #[.pointer (some ⟨g,0,none⟩),.int .i64 x,.int .i64 e] w fun u w'=>u=.returned (.tuple #[])/\w=w':=by
 obtain ⟨z0,z1,z2,z3,z4⟩:=cq5 h;have hl:=h.lt;have hz:(e0==0)=false:=by simpa using h0
 clear h;go_enter Tryz.func92,Tryz.ntmps92;go_wp2
 first | go_end0 | ((try simp only [Exit.inBlock,Exit.then]);refine bodyPost_ret (results_none rfl _ _ _) rfl ?_)
 exact ⟨rfl,rfl⟩
theorem qet (g mb a:Nat) (s:ByteArray) (w:World) (h:RdA w g s mb a 0 0) (ha:a<=s.size) (hs:s.size<=281474976710656) :
  Calls Tryz.prog 144 #[.pointer (some ⟨g,0,none⟩)] w fun u w'=>u=.returned (.tuple #[])/\StG w' g s mb (lost (α:=Unit) (tl s a))/\Fg g w w':=by
 obtain ⟨z0,z1,z2,z3,z4⟩:=cq5 h;have hl:=h.lt;have C:=fun e=>qdd g mb a s e (a:Int) w.drew h
 have hbd:Fg g w w.drew:=Fr.below (brf.drew);replace C:=Hd C;replace hbd:=Hd hbd;clear h;by_cases hlt:a=s.size
 ·
  have hb:((a:Int)==(s.size:Int))=true:=by rw [beq_iff_eq];omega
  have hL:lost (α:=Unit) (tl s a)=.bad 0 10:=by rw [qbn (by omega)];rfl
  rw [hL];replace hlt:=Hd hlt;go_enter Tryz.func144,Tryz.ntmps144;go_wp2;refine wrx (S:=(fun x=>x=w.drew)) [(0,.q),(1,.q),(2,.q),(3,.q),(4,.q),(5,.q),(6,.q),(7,.q),(8,.q),(9,.p)] (rfl) ?_
  iterate 9 (refine qab rfl rfl fun K hK=>xq ?_;go_simp;refine hK _ _ ?_;clear hK K)
  iterate 1 (refine qae rfl rfl fun K hK=>xp ?_;go_simp;refine hK _ _ ?_;clear hK K)
  refine qac ?_;go_wp2_with fail;refine (C.out 10).mono ?_;rintro e w1 ⟨rfl,h1,hf⟩;go_wp2
  first | go_end0 | ((try simp only [Exit.inBlock,Exit.then]);refine bodyPost_ret (results_none rfl _ _ _) rfl ?_)
  exact ⟨rfl,⟨a,ha,by omega,by decide,by rw [Nat.sub_zero,<- hlt.out];exact h1⟩,hbd.out.trans hf⟩
 ·
  have hb:((a:Int)==(s.size:Int))=false:=by rw [beq_eq_false_iff_ne];omega
  have hL:lost (α:=Unit) (tl s a)=.bad (s.size-a) 9:=by unfold lost;rw [if_neg (by rw [qaq];omega),qaq]
  rw [hL];replace hlt:=Hd hlt;go_enter Tryz.func144,Tryz.ntmps144;go_wp2;refine wrx (S:=(fun x=>x=w.drew)) [(0,.q),(1,.q),(2,.q),(3,.q),(4,.q),(5,.q),(6,.q),(7,.q),(8,.q),(9,.p)] (rfl) ?_
  iterate 9 (refine qab rfl rfl fun K hK=>xq ?_;go_simp;refine hK _ _ ?_;clear hK K)
  iterate 1 (refine qae rfl rfl fun K hK=>xp ?_;go_simp;refine hK _ _ ?_;clear hK K)
  refine qac ?_;go_wp2_with fail;refine (C.out 9).mono ?_;rintro e w1 ⟨rfl,h1,hf⟩;go_wp2
  first | go_end0 | ((try simp only [Exit.inBlock,Exit.then]);refine bodyPost_ret (results_none rfl _ _ _) rfl ?_)
  exact ⟨rfl,⟨a,ha,by omega,by decide,by rw [show s.size-(s.size-a)=a by omega];exact h1⟩,hbd.out.trans hf⟩
theorem qjc {α β:Type} {w:World} {g mb:Nat} {s:ByteArray} {l:List UInt8} (h:StG w g s mb (lost (α:=α) l)):StG w g s mb (lost (α:=β) l):=by
 unfold lost at h ⊢
 split <;> simp_all [StG]
theorem qgr (g mb a:Nat) (s:ByteArray) (c:UInt8) (z:Int) (hz:(c.toNat:Int)=z) (w:World) (h:RdA w g s mb a 0 0) (ha:a<=s.size) (hs:s.size<=281474976710656) :
  Calls Tryz.prog 95 #[.pointer (some ⟨g,0,none⟩),.int .u8 z] w fun u w'=>u=.returned (.tuple #[])/\StG w' g s mb (eatG c (tl s a))/\Fg g w w':=by
 obtain ⟨z0,z1,z2,z3,z4⟩:=cq5 h;have hl:=h.lt;have f1:=Blk.frozen h 1;have CP:=qck g mb a s 0 0 z w h ha hs;have CR:=fun W (hW:Below w.heap.size w W)=>qet g mb a s W (h.below hW) ha hs
 have hne:=qb3 (tl s a) c hz;replace CR:=Hd CR;obtain ⟨bp,hbp⟩:∃ b,nxtB (tl s a) z=b:=⟨_,rfl⟩
 rw [hbp] at CP hne;replace CP:=Hd CP
 cases bp
 ·
  have hE:eatG c (tl s a)=lost (tl s a):=by unfold eatG;rw [if_neg (by simpa using hne.symm)]
  rw [hE];clear h hbp hne hE hz;go_enter Tryz.func95,Tryz.ntmps95;go_wp2_with fail;refine CP.out.mono ?_;rintro e w0 ⟨rfl,hb0⟩;go_wp2_with fail;refine (CR.out w0 hb0).mono ?_;rintro e w1 ⟨rfl,h1,hf⟩;go_wp2
  first | go_end0 | ((try simp only [Exit.inBlock,Exit.then]);refine bodyPost_ret (results_none rfl _ _ _) rfl ?_)
  exact ⟨rfl,qjc h1,(Fr.below hb0).trans hf⟩
 ·
  have hn0:(tl s a)[0]? = some c:=by simpa using hne.symm
  have hlt:a<s.size:=by
   apply Nat.lt_of_not_le;intro hle;rw [qbn hle] at hn0
   cases hn0
  have hE:eatG c (tl s a)=.ok () (tl s (a+1)):=by unfold eatG;rw [if_pos hn0,qbi]
  rw [hE];have hcast:((a+1:Nat):Int)=(a:Int)+1:=by omega
  have HH:=Hd h;clear h hbp hne hE hz hn0 z0 z1 z2 z4 f1 hl CR;go_enter Tryz.func95,Tryz.ntmps95;go_wp2_with fail;refine CP.out.mono ?_;rintro e w1 ⟨rfl,hb1⟩;have h1:=HH.out.below hb1;obtain ⟨z0,z1,z2,z3,z4⟩:=cq5 h1;have hl:=h1.lt;have f1:=Blk.frozen h1 1;have hF:=Hd (h1.set1 (a+1));have hG:=Hd ((Fr.below (Y:=fun b=>b=g) hb1).setc (g:=g) (i:=1) (u:=.int .i64 ((a+1:Nat):Int)) (.inl rfl));rw [hcast] at hG;unfold RdA at hF;rw [hcast] at hF;clear h1 hb1;go_wp2
  first | go_end0 | ((try simp only [Exit.inBlock,Exit.then]);refine bodyPost_ret (results_none rfl _ _ _) rfl ?_)
  exact ⟨rfl,⟨a+1,by omega,rfl,by unfold RdA;rw [hcast];exact hF.out⟩,hG.out⟩
theorem qsu (g mb a:Nat) (s:ByteArray) (z e0 b:Int) (w:World) (h:RdA w g s mb a e0 b) (h0:e0≠0) :
  Calls Tryz.prog 95 #[.pointer (some ⟨g,0,none⟩),.int .u8 z] w fun u w'=>u=.returned (.tuple #[])/\w=w':=by
 obtain ⟨z0,z1,z2,z3,z4⟩:=cq5 h;have hl:=h.lt;have hz:(e0 != 0)=true:=by simpa using h0
 clear h;go_enter Tryz.func95,Tryz.ntmps95;go_wp2
 first | go_end0 | ((try simp only [Exit.inBlock,Exit.then]);refine bodyPost_ret (results_none rfl _ _ _) rfl ?_)
 exact ⟨rfl,rfl⟩
theorem tw_in {p:UInt8->Bool}:∀ {l:List UInt8} {j:Nat},j<(l.takeWhile p).length->∃ x,l[j]? = some x/\p x=true
 | [],j,h=>by simp at h
 | c :: r,j,h=>by
  rw [List.takeWhile_cons] at h;by_cases hc:p c=true
  ·
   rw [if_pos hc] at h
   cases j with
   | zero=>exact ⟨c,rfl,hc⟩
   | succ j=>exact tw_in (l:=r) (by simpa using h)
  · rw [if_neg hc] at h;simp at h
theorem qkc {p:UInt8->Bool}:∀ {l:List UInt8} {x:UInt8},l[(l.takeWhile p).length]? = some x->p x=false
 | [],x,h=>by simp at h
 | c :: r,x,h=>by
  rw [List.takeWhile_cons] at h;by_cases hc:p c=true
  ·
   rw [if_pos hc] at h;exact qkc (l:=r) (by simpa using h)
  ·
   rw [if_neg hc] at h;simp at h;subst h;simpa using hc
theorem tw_le (p:UInt8->Bool) (l:List UInt8):(l.takeWhile p).length<=l.length:=by
 induction l with
 | nil=>simp
 | cons c r ih=>rw [List.takeWhile_cons];split <;> simp;omega
theorem qd4 {s:ByteArray} {a j:Nat} (h:a+j<s.size):(tl s a)[j]? = some (s[a+j]'h):=by
 unfold tl;rw [List.getElem?_drop];exact qda h
theorem qkh (s:ByteArray) (a n:Nat):s.extract a (a+n)=ofL ((tl s a).take n):=by
 apply qe1;rw [qed,Lib.extract_data,Nat.add_sub_cancel_left]
 rfl
def runD (c:UInt8) (l:List UInt8):Nat:=if c=48 then 0 else (l.takeWhile digU).length
theorem qea {c:UInt8} {l:List UInt8} (h:digU c=true):numL (c :: l)=1+runD c l:=by
 rw [numL,if_pos h];unfold runD
 split <;> rfl
theorem zz38 {P:Prop} (h:P:=by
 refine qac ?_;go_wp2;refine wrx (S:=(fun x=>x=wr.drew.drew)) [(0,.q),(1,.q),(2,.q),(3,.q),(4,.q),(5,.q),(6,.q),(7,.q),(8,.q),(9,.p),(10,.p)] (rfl) ?_
 iterate 9 (refine qab rfl rfl fun K hK=>xq ?_;go_simp;refine hK _ _ ?_;clear hK K)
 iterate 2 (refine qae rfl rfl fun K hK=>xp ?_;go_simp;refine hK _ _ ?_;clear hK K)
 refine qac ?_;by_cases hbig:1000<1+j
 ·
  have hbig2:(1000:Int)<(t.size:Int):=by omega
  have hbg3:decide (1000<t.size)=true:=by rw [decide_eq_true_eq];omega
  replace hbig:=Hd hbig;replace htz:=Hd htz;go_wp2_with fail;refine CF.out.mono ?_;rintro e w1 ⟨rfl,h1,hf⟩;go_wp2;go_ret2;have hGe:=HGG.out;rw [if_pos hbig.out] at hGe;subst hGe;exact ⟨t,rfl,fun d r e=>(by cases e),⟨p,hps,by omega,by decide,by rw [show s.size-(s.size-a)=a by omega];exact h1⟩,hF3.out.trans hf⟩
 ·
  have hbig2:¬ (1000:Int)<(t.size:Int):=by omega
  have hbg3:decide (1000<t.size)=false:=by rw [decide_eq_false_iff_not];omega
  replace hbig:=Hd hbig;replace htz:=Hd htz;go_wp2;go_ret2;have hGe:=HGG.out;rw [if_neg hbig.out] at hGe;subst hGe;exact ⟨t,rfl,fun d r e=>(by injection e with e1 e2;rw [<- e1];exact ht.out.symm),⟨p,hps,by rw [show a+(1+j)=p by have:=hp2.out;omega],hR3.out⟩,hF3.out⟩
 ):P:=h
theorem zz39 {P:Prop} (h:P:=by
 refine qac ?_;go_wp2_with fail;refine (CR.out w.drew hbd).mono ?_;rintro e w1 ⟨rfl,h1,hf⟩;go_wp2;go_ret2;exact ⟨⟨#[]⟩,rfl,fun d r e=>absurd e fun e=>qc4 e,qjc h1,(Fr.below hbd).trans hf⟩
 ):P:=h
theorem qhw (g mb a:Nat) (s:ByteArray) (w:World) (h:RdA w g s mb a 0 0) (ha:a<=s.size) (hs:s.size<=281474976710656) :
  Calls Tryz.prog 180 #[.pointer (some ⟨g,0,none⟩)] w fun u w'=>∃ t,u=.returned (.tuple #[.string t,.int .i64 a])/\(∀ d r,numG (tl s a)=.ok d r->t=ofL d)/\StG w' g s mb (numG (tl s a))/\Fg g w w':=by
 obtain ⟨z0,z1,z2,z3,z4⟩:=cq5 h;have hl:=h.lt;by_cases hlt:a<s.size
 ·
  have hb:((a:Int)==(s.size:Int))=false:=by rw [beq_eq_false_iff_ne];omega
  have hT:=tl_at hlt;obtain ⟨c,hc⟩:∃ c,s[a]'hlt=c:=⟨_,rfl⟩
  rw [hc] at hT;obtain ⟨y,hy⟩:∃ y:Nat,c.toNat=y:=⟨_,rfl⟩
  have hy0:(s[a]'hlt).toNat=y:=by rw [hc];exact hy
  have CD:=qcr (y:Int);have hdy:digU c=digV (y:Int):=by unfold digU;rw [hy]
  obtain ⟨bd,hbd0⟩:∃ b,digV (y:Int)=b:=⟨_,rfl⟩
  simp only [hbd0] at CD;rw [hbd0] at hdy;replace CD:=Hd CD
  cases bd
  ·
   have hL:numG (tl s a)=lost (tl s a):=by unfold numG;rw [if_pos (by rw [hT,numL,hdy];rfl)]
   have hy2:=Hd hy;clear hT hdy hbd0 hy hc;rw [hL];have CR:=Hd (fun W (hW:Below w.heap.size w W)=>qet g mb a s W (h.below hW) ha hs);have hbd:Below w.heap.size w w.drew:=brf.drew;clear h;go_enter Tryz.func180,Tryz.ntmps180;go_wp2;refine wrx (S:=(fun x=>x=w.drew)) [(0,.q),(1,.q),(2,.q),(3,.q),(4,.q),(5,.q),(6,.q),(7,.q),(8,.q),(9,.q),(10,.q),(11,.q),(12,.q),(13,.q),(14,.q),(15,.q),(16,.q),(17,.q),(18,.q),(19,.q),(20,.t),(21,.p),(22,.p)] (rfl) ?_
   iterate 20 (refine qab rfl rfl fun K hK=>xq ?_;go_simp;refine hK _ _ ?_;clear hK K)
   refine qam rfl rfl (fun K hK=>?_);go_simp;refine (CD.out w.drew).mono ?_;rintro e w' ⟨rfl,rfl⟩;dsimp only;refine hK.out _ _ ?_;clear hK K
   iterate 2 (refine qae rfl rfl fun K hK=>xp ?_;go_simp;refine hK _ _ ?_;clear hK K)
   exact zz39
  ·
   have hn1:numL (tl s a)=1+runD c (tl s (a+1)):=by rw [hT];exact qea hdy
   obtain ⟨D,hD⟩:∃ D,runD c (tl s (a+1))=D:=⟨_,rfl⟩
   rw [hD] at hn1;have hDl:D<=s.size-(a+1):=by
    rw [<- hD];unfold runD
    split
    · omega
    · have:=tw_le digU (tl s (a+1));rw [qaq] at this;exact this
   have hDc:c=48->D=0:=fun e=>by rw [<- hD];unfold runD;rw [if_pos e]
   have hDi:∀ j,j<D->∃ h:a+1+j<s.size,digV ((s[a+1+j]'h).toNat:Int)=true:=fun j hj=>by
    have h1:a+1+j<s.size:=by omega
    refine ⟨h1,?_⟩;rw [<- hD] at hj;unfold runD at hj
    split at hj
    · omega
    ·
     obtain ⟨x,hx,hp⟩:=tw_in hj;rw [qd4 h1] at hx;injection hx with hx
     subst hx;exact hp
   have hDo:c≠48->∀ h:a+1+D<s.size,digV ((s[a+1+D]'h).toNat:Int)=false:=fun hc48 h1=>by
    have h2:D=((tl s (a+1)).takeWhile digU).length:=by rw [<- hD];unfold runD;rw [if_neg hc48]
    exact qkc (p:=digU) (l:=tl s (a+1)) (x:=s[a+1+D]'h1) (by rw [<- h2];exact qd4 h1)
   have hc48:(c=48)↔(y:Int)=48:=by
    constructor
    · intro e;subst e;rw [<- hy];rfl
    · intro e;exact UInt8.toNat_inj.1 (by rw [hy];have:(48:UInt8).toNat=48:=rfl;omega)
   have hcast:((a+1:Nat):Int)=(a:Int)+1:=by omega
   have hG:numG (tl s a)=if 1000<1+D then .bad (s.size-a) 4 else .ok ((tl s a).take (1+D)) (tl s (a+(1+D))):=by
    unfold numG;rw [hn1,if_neg (by omega),qaq,qbi]
   have hex:s.extract a (a+1+D)=ofL ((tl s a).take (1+D)):=by rw [Nat.add_assoc];exact qkh s a (1+D)
   have hbd:Below w.heap.size w w.drew:=brf.drew;have h2:RdA w.drew g s mb a 0 0:=h;have f1:=Blk.frozen h2 1;have h3:=h2.set1 (a+1);have hf3:Fg g w (w.drew.setCell ⟨g,1,none⟩ (.int .i64 ((a+1:Nat):Int))):=(Fr.below (Y:=fun b=>b=g) hbd).setc (.inl rfl);unfold RdA at h3;rw [hcast] at h3 hf3;obtain ⟨GG,hGG⟩:∃ G,numG (tl s a)=G:=⟨_,rfl⟩
   rw [hGG] at hG ⊢;have HGG:=Hd hG;replace hGG:=Hd hGG;have HH:=Hd h3;have HF:=Hd hf3;have HEX:=Hd hex;have HDI:=Hd hDi;have HDO:=Hd hDo;have HDC:=Hd hDc;have H48:=Hd hc48;have hy2:=Hd hy;clear h h2 h3 hf3 hT hdy hbd0 hy hc hn1 hD hDi hDo hDc hc48 hG hex;go_enter Tryz.func180,Tryz.ntmps180;go_wp2;refine wrx (S:=(fun x=>x=w.drew)) [(0,.q),(1,.q),(2,.q),(3,.q),(4,.q),(5,.q),(6,.q),(7,.q),(8,.q),(9,.q),(10,.q),(11,.q),(12,.q),(13,.q),(14,.q),(15,.q),(16,.q),(17,.q),(18,.q),(19,.q),(20,.t),(21,.p),(22,.p)] (rfl) ?_
   iterate 20 (refine qab rfl rfl fun K hK=>xq ?_;go_simp;refine hK _ _ ?_;clear hK K)
   refine qam rfl rfl (fun K hK=>?_);go_simp;refine (CD.out w.drew).mono ?_;rintro e w' ⟨rfl,rfl⟩;dsimp only;refine hK.out _ _ ?_;clear hK K
   iterate 2 (refine qae rfl rfl fun K hK=>xp ?_;go_simp;refine hK _ _ ?_;clear hK K)
   refine qac ?_;go_wp2;refine qak (fun W=>RdA W g s mb (a+1) 0 0/\Fg g w W) ⟨by unfold RdA;rw [hcast];exact HH.out,HF.out⟩ ?_;rintro w0 ⟨h0,hf0⟩;clear HH HF z0 z1 z2 z3 z4 f1 CD
   go_loopg [] D (fun m wr=>∃ j:Nat,Hid (j+m=D)/\Hid (RdA wr g s mb (a+1+j) 0 0)/\Fg g w wr)
   case atStart=>exact ⟨0,by show _=_;omega,h0,hf0⟩
   case round =>
    clear h0 hf0;obtain ⟨j,hj,hR,hfr⟩:=hrel;have hRo:=hR.out;obtain ⟨z0,z1,z2,z3,z4⟩:=cq5 hRo;have hl:=hRo.lt;have f1:=Blk.frozen hRo 1;have hcj:((a+1+j:Nat):Int)=(a:Int)+1+j:=by omega
    have hbd1:Below wr.heap.size wr wr.drew:=brf.drew;clear hRo;obtain ⟨p,hp⟩:∃ p,a+1+j=p:=⟨_,rfl⟩
    rw [hp] at z1 hR hcj;have hpc:((p+1:Nat):Int)=(p:Int)+1:=by omega
    by_cases hjD:j<D
    ·
     have h48:((y:Int)==48)=false:=by
      rw [beq_eq_false_iff_ne];intro e;have:=HDC.out (H48.out.2 e)
      omega
     have h48n:((y:Int) != 48)=true:=by rw [bne,h48];rfl
     obtain ⟨hps,hpd⟩:=HDI.out j hjD;simp only [hp] at hps hpd;obtain ⟨v,hv⟩:∃ v:Nat,(s[p]'hps).toNat=v:=⟨_,rfl⟩
     rw [hv] at hpd;have CD:=qcr (v:Int);rw [hpd] at CD;replace CD:=Hd CD;replace hp:=Hd hp;replace hpd:=Hd hpd;have hR3:=Hd ((show RdA wr.drew g s mb p 0 0 from hR.out).set1 (p+1));have hF3:=Hd ((hfr.trans (Fr.below hbd1)).setc (g:=g) (i:=1) (u:=.int .i64 ((p+1:Nat):Int)) (.inl rfl));unfold RdA at hR3;rw [hpc] at hR3 hF3;clear hR hcj hfr hbd1;go_wp2;refine wrx (S:=(fun x=>x=wr.drew)) [(0,.q),(1,.q),(2,.q),(3,.q),(4,.q),(5,.q),(6,.q),(7,.q),(8,.q),(9,.q),(10,.q),(11,.q),(12,.q),(13,.q),(14,.q),(15,.q),(16,.q),(17,.q),(18,.q),(19,.q),(20,.q),(21,.q),(22,.q),(23,.q),(24,.q),(25,.q),(26,.q),(27,.q),(28,.q),(29,.t),(30,.p)] (rfl) ?_
     iterate 29 (refine qab rfl rfl fun K hK=>xq ?_;go_simp;refine hK _ _ ?_;clear hK K)
     refine qam rfl rfl (fun K hK=>?_);go_simp;refine (CD.out wr.drew).mono ?_;rintro e w' ⟨rfl,rfl⟩;dsimp only;refine hK.out _ _ ?_;clear hK K
     iterate 1 (refine qae rfl rfl fun K hK=>xp ?_;go_simp;refine hK _ _ ?_;clear hK K)
     refine qac ?_;go_wp2;go_roundg (gk-1)
     case rel=>exact ⟨j+1,by have:=hj.out;show _=_;omega,by unfold RdA;rw [show a+1+(j+1)=p+1 by have:=hp.out;omega,hpc];exact hR3.out,hF3.out⟩
     case measure=>have:=hj.out;omega
    ·
     have hjD2:j=D:=by have:=hj.out;omega
     subst hjD2;have hex2:=HEX.out;rw [hp] at hex2;obtain ⟨t,ht⟩:∃ t,ofL ((tl s a).take (1+j))=t:=⟨_,rfl⟩
     rw [ht] at hex2;have htz:t.size=1+j:=by
      rw [<- ht];have:((tl s a).take (1+j)).length=1+j:=by rw [List.length_take,qaq];omega
      exact this
     have hps:p<=s.size:=by omega
     have hap:a<=p:=by omega
     have hR3:RdA wr.drew.drew g s mb p 0 0:=hR.out;have hF3:Fg g w wr.drew.drew:=hfr.trans (Fr.below hbd1.drew);have CF:=Hd (qdd g mb p s 4 (a:Int) wr.drew.drew hR3);replace hR3:=Hd hR3;replace hF3:=Hd hF3;replace ht:=Hd ht;have hp2:=Hd hp;clear hR hcj hfr hbd1;by_cases h48c:(y:Int)=48
     ·
      have h48:((y:Int)==48)=true:=by simpa using h48c
      have h48n:((y:Int) != 48)=false:=by rw [bne,h48];rfl
      clear hp;replace h48c:=Hd h48c;go_wp2;refine wrx (S:=(fun x=>x=wr.drew)) [(0,.q),(1,.q),(2,.q),(3,.q),(4,.q),(5,.q),(6,.q),(7,.q),(8,.q),(9,.q),(10,.q),(11,.q),(12,.q),(13,.q),(14,.q),(15,.q),(16,.q),(17,.q),(18,.q),(19,.q),(20,.q),(21,.q),(22,.q),(23,.q),(24,.q),(25,.q),(26,.q),(27,.q),(28,.q),(29,.t),(30,.p)] (rfl) ?_
      iterate 8 (refine qab rfl rfl fun K hK=>xq ?_;go_simp;refine hK _ _ ?_;clear hK K)
      iterate 10 (refine qar rfl rfl (fun K hK=>?_);go_simp;refine hK _ _ ?_;clear hK K)
      iterate 2 (refine qab rfl rfl fun K hK=>xq ?_;go_simp;refine hK _ _ ?_;clear hK K)
      iterate 10 (refine qar rfl rfl (fun K hK=>?_);go_simp;refine hK _ _ ?_;clear hK K)
      iterate 1 (refine qae rfl rfl fun K hK=>xp ?_;go_simp;refine hK _ _ ?_;clear hK K)
      exact zz38
     ·
      have h48:((y:Int)==48)=false:=by simpa using h48c
      have h48n:((y:Int) != 48)=true:=by rw [bne,h48];rfl
      by_cases hpz:p<s.size
      ·
       have hpd:=HDO.out (fun e=>h48c (H48.out.1 e)) (by rw [hp];exact hpz);simp only [hp] at hpd;obtain ⟨v,hv⟩:∃ v:Nat,(s[p]'hpz).toNat=v:=⟨_,rfl⟩
       rw [hv] at hpd;have CD:=qcr (v:Int);rw [hpd] at CD;replace CD:=Hd CD;replace hpd:=Hd hpd;clear hp;replace h48c:=Hd h48c;go_wp2;refine wrx (S:=(fun x=>x=wr.drew)) [(0,.q),(1,.q),(2,.q),(3,.q),(4,.q),(5,.q),(6,.q),(7,.q),(8,.q),(9,.q),(10,.q),(11,.q),(12,.q),(13,.q),(14,.q),(15,.q),(16,.q),(17,.q),(18,.q),(19,.q),(20,.q),(21,.q),(22,.q),(23,.q),(24,.q),(25,.q),(26,.q),(27,.q),(28,.q),(29,.t),(30,.p)] (rfl) ?_
       iterate 29 (refine qab rfl rfl fun K hK=>xq ?_;go_simp;refine hK _ _ ?_;clear hK K)
       refine qam rfl rfl (fun K hK=>?_);go_simp;refine (CD.out wr.drew).mono ?_;rintro e w' ⟨rfl,rfl⟩;dsimp only;refine hK.out _ _ ?_;clear hK K
       iterate 1 (refine qae rfl rfl fun K hK=>xp ?_;go_simp;refine hK _ _ ?_;clear hK K)
       exact zz38
      ·
       clear hp;replace h48c:=Hd h48c;go_wp2;refine wrx (S:=(fun x=>x=wr.drew)) [(0,.q),(1,.q),(2,.q),(3,.q),(4,.q),(5,.q),(6,.q),(7,.q),(8,.q),(9,.q),(10,.q),(11,.q),(12,.q),(13,.q),(14,.q),(15,.q),(16,.q),(17,.q),(18,.q),(19,.q),(20,.q),(21,.q),(22,.q),(23,.q),(24,.q),(25,.q),(26,.q),(27,.q),(28,.q),(29,.t),(30,.p)] (rfl) ?_
       iterate 20 (refine qab rfl rfl fun K hK=>xq ?_;go_simp;refine hK _ _ ?_;clear hK K)
       iterate 10 (refine qar rfl rfl (fun K hK=>?_);go_simp;refine hK _ _ ?_;clear hK K)
       iterate 1 (refine qae rfl rfl fun K hK=>xp ?_;go_simp;refine hK _ _ ?_;clear hK K)
       exact zz38
 ·
  have hae:a=s.size:=by omega
  have hb:((a:Int)==(s.size:Int))=true:=by rw [beq_iff_eq];omega
  have hL:numG (tl s a)=lost (tl s a):=by unfold numG;rw [if_pos (by rw [qbn (by omega)];rfl)]
  replace hae:=Hd hae;rw [hL];have CR:=Hd (fun W (hW:Below w.heap.size w W)=>qet g mb a s W (h.below hW) ha hs);have hbd:Below w.heap.size w w.drew:=brf.drew;clear h;go_enter Tryz.func180,Tryz.ntmps180;go_wp2;refine wrx (S:=(fun x=>x=w.drew)) [(0,.q),(1,.q),(2,.q),(3,.q),(4,.q),(5,.q),(6,.q),(7,.q),(8,.q),(9,.q),(10,.q),(11,.q),(12,.q),(13,.q),(14,.q),(15,.q),(16,.q),(17,.q),(18,.q),(19,.q),(20,.t),(21,.p),(22,.p)] (rfl) ?_
  iterate 11 (refine qab rfl rfl fun K hK=>xq ?_;go_simp;refine hK _ _ ?_;clear hK K)
  iterate 11 (refine qar rfl rfl (fun K hK=>?_);go_simp;refine hK _ _ ?_;clear hK K)
  iterate 1 (refine qae rfl rfl fun K hK=>xp ?_;go_simp;refine hK _ _ ?_;clear hK K)
  exact zz39
end Go.Proofs.YtnilkimcdgmgkaaGreatDoor
namespace Go.Proofs
open Go.Shelf
def Tryz.lays172_ren : Go.Shelf.Ren := ⟨fun | 172 => 27 | 244 => 44 | 245 => 45 | 247 => 84 | 279 => 85 | 280 => 86 | 281 => 87 | 282 => 88 | 287 => 132 | 316 => 133 | 171 => 28 | 205 => 134 | 321 => 173 | 322 => 174 | 243 => 46 | 246 => 89 | 283 => 135 | 284 => 136 | 285 => 137 | 286 => 138 | 129 => 176 | 317 => 175 | 318 => 177 | 319 => 178 | 320 => 179 | 337 => 205 | 338 => 206 | n => n, fun | 9 => 9 | 3 => 3 | 75 => 63 | 76 => 64 | 4 => 4 | 5 => 5 | 167 => 129 | 37 => 100 | 0 => 0 | 85 => 130 | 2 => 2 | 168 => 132 | 53 => 108 | 175 => 171 | 46 => 128 | 210 => 175 | 127 => 148 | 145 => 200 | 143 => 198 | 21 => 21 | 171 => 177 | 173 => 180 | 212 => 202 | 51 => 168 | 20 => 20 | 213 => 203 | 232 => 226 | 233 => 227 | 80 => 104 | n => n, fun | 15 => 3 | 16 => 4 | 17 => 5 | 18 => 6 | 19 => 7 | n => n⟩
theorem Tryz.lays172 : Go.Proofs.LaysC.n172 Tryz.prog Tryz.lays172_ren := {
  mixed := by kernel_rfl
  f129 := Tryz.func176.trans (congrArg some (by kernel_rfl))
  f171 := Tryz.func28.trans (congrArg some (by kernel_rfl))
  f172 := Tryz.func27.trans (congrArg some (by kernel_rfl))
  f205 := Tryz.func134.trans (congrArg some (by kernel_rfl))
  f243 := Tryz.func46.trans (congrArg some (by kernel_rfl))
  f244 := Tryz.func44.trans (congrArg some (by kernel_rfl))
  f245 := Tryz.func45.trans (congrArg some (by kernel_rfl))
  f246 := Tryz.func89.trans (congrArg some (by kernel_rfl))
  f247 := Tryz.func84.trans (congrArg some (by kernel_rfl))
  f279 := Tryz.func85.trans (congrArg some (by kernel_rfl))
  f280 := Tryz.func86.trans (congrArg some (by kernel_rfl))
  f281 := Tryz.func87.trans (congrArg some (by kernel_rfl))
  f282 := Tryz.func88.trans (congrArg some (by kernel_rfl))
  f283 := Tryz.func135.trans (congrArg some (by kernel_rfl))
  f284 := Tryz.func136.trans (congrArg some (by kernel_rfl))
  f285 := Tryz.func137.trans (congrArg some (by kernel_rfl))
  f286 := Tryz.func138.trans (congrArg some (by kernel_rfl))
  f287 := Tryz.func132.trans (congrArg some (by kernel_rfl))
  f316 := Tryz.func133.trans (congrArg some (by kernel_rfl))
  f317 := Tryz.func175.trans (congrArg some (by kernel_rfl))
  f318 := Tryz.func177.trans (congrArg some (by kernel_rfl))
  f319 := Tryz.func178.trans (congrArg some (by kernel_rfl))
  f320 := Tryz.func179.trans (congrArg some (by kernel_rfl))
  f321 := Tryz.func173.trans (congrArg some (by kernel_rfl))
  f322 := Tryz.func174.trans (congrArg some (by kernel_rfl))
  f337 := Tryz.func205.trans (congrArg some (by kernel_rfl))
  f338 := Tryz.func206.trans (congrArg some (by kernel_rfl))
  t0 := Tryz.underlying0
  a0 := Tryz.isAgg0
  z0 := Tryz.sizeOf0
  v0 := Tryz.zeroValue0
  t2 := Tryz.underlying2
  a2 := Tryz.isAgg2
  z2 := Tryz.sizeOf2
  v2 := Tryz.zeroValue2
  t3 := Tryz.underlying3
  a3 := Tryz.isAgg3
  z3 := Tryz.sizeOf3
  v3 := Tryz.zeroValue3
  t4 := Tryz.underlying4
  a4 := Tryz.isAgg4
  z4 := Tryz.sizeOf4
  v4 := Tryz.zeroValue4
  t5 := Tryz.underlying5
  a5 := Tryz.isAgg5
  z5 := Tryz.sizeOf5
  v5 := Tryz.zeroValue5
  t9 := Tryz.underlying9
  a9 := Tryz.isAgg9
  z9 := Tryz.sizeOf9
  v9 := Tryz.zeroValue9
  t20 := Tryz.underlying20
  a20 := Tryz.isAgg20
  z20 := Tryz.sizeOf20
  v20 := Tryz.zeroValue20
  t21 := Tryz.underlying21
  a21 := Tryz.isAgg21
  z21 := Tryz.sizeOf21
  v21 := Tryz.zeroValue21
  t37 := Tryz.underlying100
  a37 := Tryz.isAgg100
  z37 := Tryz.sizeOf100
  v37 := Tryz.zeroValue100
  t46 := Tryz.underlying128
  a46 := Tryz.isAgg128
  z46 := Tryz.sizeOf128
  v46 := Tryz.zeroValue128
  t51 := Tryz.underlying168
  a51 := Tryz.isAgg168
  z51 := Tryz.sizeOf168
  v51 := Tryz.zeroValue168
  t53 := Tryz.underlying108
  a53 := Tryz.isAgg108
  z53 := Tryz.sizeOf108
  v53 := Tryz.zeroValue108
  t75 := Tryz.underlying63
  a75 := Tryz.isAgg63
  z75 := Tryz.sizeOf63
  v75 := Tryz.zeroValue63
  t76 := Tryz.underlying64
  a76 := Tryz.isAgg64
  z76 := Tryz.sizeOf64
  v76 := Tryz.zeroValue64
  t85 := Tryz.underlying130
  a85 := Tryz.isAgg130
  z85 := Tryz.sizeOf130
  v85 := Tryz.zeroValue130
  t127 := Tryz.underlying148
  a127 := Tryz.isAgg148
  z127 := Tryz.sizeOf148
  v127 := Tryz.zeroValue148
  t143 := Tryz.underlying198
  a143 := Tryz.isAgg198
  z143 := Tryz.sizeOf198
  v143 := Tryz.zeroValue198
  t145 := Tryz.underlying200
  a145 := Tryz.isAgg200
  z145 := Tryz.sizeOf200
  v145 := Tryz.zeroValue200
  t167 := Tryz.underlying129
  a167 := Tryz.isAgg129
  z167 := Tryz.sizeOf129
  v167 := Tryz.zeroValue129
  t168 := Tryz.underlying132
  a168 := Tryz.isAgg132
  z168 := Tryz.sizeOf132
  v168 := Tryz.zeroValue132
  t171 := Tryz.underlying177
  a171 := Tryz.isAgg177
  z171 := Tryz.sizeOf177
  v171 := Tryz.zeroValue177
  t173 := Tryz.underlying180
  a173 := Tryz.isAgg180
  z173 := Tryz.sizeOf180
  v173 := Tryz.zeroValue180
  t175 := Tryz.underlying171
  a175 := Tryz.isAgg171
  z175 := Tryz.sizeOf171
  v175 := Tryz.zeroValue171
  t210 := Tryz.underlying175
  a210 := Tryz.isAgg175
  z210 := Tryz.sizeOf175
  v210 := Tryz.zeroValue175
  t212 := Tryz.underlying202
  a212 := Tryz.isAgg202
  z212 := Tryz.sizeOf202
  v212 := Tryz.zeroValue202
  t213 := Tryz.underlying203
  a213 := Tryz.isAgg203
  z213 := Tryz.sizeOf203
  t232 := Tryz.underlying226
  a232 := Tryz.isAgg226
  z232 := Tryz.sizeOf226
  v232 := Tryz.zeroValue226
  t233 := Tryz.underlying227
  a233 := Tryz.isAgg227
  z233 := Tryz.sizeOf227
  v233 := Tryz.zeroValue227
  g15 := by kernel_rfl
  g16 := by kernel_rfl
  g17 := by kernel_rfl
  g18 := by kernel_rfl
  g19 := by kernel_rfl
  t80 := Tryz.underlying104
  a80 := Tryz.isAgg104
  z80 := Tryz.sizeOf104
  v80 := Tryz.zeroValue104
  i0 := by kernel_rfl
  i2 := by kernel_rfl
  i3 := by kernel_rfl
  i4 := by kernel_rfl
  i5 := by kernel_rfl
  i9 := by kernel_rfl
  i20 := by kernel_rfl
  i21 := by kernel_rfl
  i37 := by kernel_rfl
  i46 := by kernel_rfl
  i51 := by kernel_rfl
  i53 := by kernel_rfl
  i75 := by kernel_rfl
  i76 := by kernel_rfl
  i80 := by kernel_rfl
  i85 := by kernel_rfl
  i127 := by kernel_rfl
  i143 := by kernel_rfl
  i145 := by kernel_rfl
  i167 := by kernel_rfl
  i168 := by kernel_rfl
  i171 := by kernel_rfl
  i173 := by kernel_rfl
  i175 := by kernel_rfl
  i210 := by kernel_rfl
  i212 := by kernel_rfl
  i232 := by kernel_rfl
  i233 := by kernel_rfl
  m15 := by kernel_rfl
  m16 := by kernel_rfl
  m17 := by kernel_rfl
  m18 := by kernel_rfl
  m19 := by kernel_rfl
  c0 := by kernel_rfl
  c2 := by kernel_rfl
  c3 := by kernel_rfl
  c4 := by kernel_rfl
  c5 := by kernel_rfl
  c9 := by kernel_rfl
  c20 := by kernel_rfl
  c21 := by kernel_rfl
  c37 := by kernel_rfl
  c46 := by kernel_rfl
  c51 := by kernel_rfl
  c53 := by kernel_rfl
  c75 := by kernel_rfl
  c76 := by kernel_rfl
  c80 := by kernel_rfl
  c85 := by kernel_rfl
  c127 := by kernel_rfl
  c143 := by kernel_rfl
  c145 := by kernel_rfl
  c167 := by kernel_rfl
  c168 := by kernel_rfl
  c171 := by kernel_rfl
  c173 := by kernel_rfl
  c175 := by kernel_rfl
  c210 := by kernel_rfl
  c212 := by kernel_rfl
  c213 := by kernel_rfl
  c232 := by kernel_rfl
  c233 := by kernel_rfl }
end Go.Proofs
namespace Go.Proofs.YtnilkimcdgmgkaaGreatDoor
open Go.RowKit
theorem qs8:∀ (l:List UInt8) (a:Nat),a<=l.foldl (fun a c=>10*a+(c.toNat-48)) a
 | [],a=>nlr _
 | c :: l,a=>by rw [List.foldl_cons];exact Nat.le_trans (by omega) (qs8 l _)
theorem qtb:∀ (l:List UInt8) (a:Nat),a<18446744073709551616->(∀ c∈l,digU c=true)->(Lib.parseUint10 a l=.ok (l.foldl (fun a c=>10*a+(c.toNat-48)) a)/\l.foldl (fun a c=>10*a+(c.toNat-48)) a<18446744073709551616) \/
  (Lib.parseUint10 a l=.range/\18446744073709551616<=l.foldl (fun a c=>10*a+(c.toNat-48)) a)
 | [],a,h,_=>.inl ⟨rfl,h⟩
 | c :: l,a,h,hd=>by
  have h2:=hd c (by simp);unfold digU digV at h2;rw [decide_eq_true_eq] at h2;have hg:=qs8 l (10*a+(c.toNat-48));rw [List.foldl_cons,Lib.parseUint10,if_pos (by omega)];by_cases h3:1844674407370955162<=a
  ·
   rw [if_pos h3];exact .inr ⟨rfl,by omega⟩
  ·
   rw [if_neg h3,Nat.mul_comm a 10];by_cases h4:18446744073709551616<=10*a+(c.toNat-48)
   ·
    rw [if_pos h4];exact .inr ⟨rfl,by omega⟩
   ·
    rw [if_neg h4];exact qtb l _ (by omega) fun x hx=>hd x (by simp [hx])
theorem qlc {l:List UInt8} (h0:l≠[]) (hd:∀ c∈l,digU c=true):(Lib.atoiAll l=.ok (decL l:Nat)/\decL l<9223372036854775808)\/(Lib.atoiAll l=.range/\9223372036854775808<=decL l):=by
 cases l with
 | nil=>exact absurd rfl h0
 | cons c r =>
  have h2:=hd c (by simp);unfold digU digV at h2;rw [decide_eq_true_eq] at h2;have hm:Lib.parseMag (c :: r)=Lib.parseUint10 0 (c :: r):=by unfold Lib.parseMag;rw [if_neg (by simp)]
  have hp:=qtb (c :: r) 0 (by decide) hd;unfold Lib.atoiAll;simp only;rw [if_neg (show ¬ (c.toNat=43\/c.toNat=45) by omega),hm];rcases hp with ⟨h1,h3⟩ | ⟨h1,h3⟩
  ·
   rw [h1]
   show (if ¬ (c.toNat=45)/\9223372036854775808<=decL (c :: r) then Lib.NumEnd.range else if c.toNat=45/\9223372036854775808<decL (c :: r) then Lib.NumEnd.range else Lib.NumEnd.ok (if c.toNat=45 then -(decL (c :: r):Int) else (decL (c :: r):Int)))=Lib.NumEnd.ok ((decL (c :: r):Nat):Int)/\_\/_
   by_cases h4:9223372036854775808<=decL (c :: r)
   · exact .inr ⟨if_pos ⟨by omega,h4⟩,h4⟩
   ·
    refine .inl ⟨?_,by omega⟩;rw [if_neg (by omega),if_neg (by omega),if_neg (by omega)]
  · exact .inr ⟨by rw [h1],by unfold decL;omega⟩
theorem qgg {l d r:List UInt8} (h:numG l=.ok d r):0<d.length/\d.length<=1000/\(∀ c∈d,digU c=true)/\(d.length=1\/d[0]? ≠ some 48):=by
 unfold numG at h
 split at h
 · exact absurd h fun e=>qc4 e
 ·
  next h0 =>
  split at h
  · cases h
  ·
   next h1 =>
   injection h with h2 h3
   cases l with
   | nil=>exact absurd rfl h0
   | cons c q =>
    by_cases hc:digU c=true
    ·
     have hn:=qea (c:=c) (l:=q) hc;rw [hn,Nat.add_comm,List.take_succ_cons] at h2;subst h2;have hr:runD c q<=q.length:=by unfold runD;split;omega;exact tw_le _ _
     refine ⟨by simp,by simp;omega,?_,?_⟩
     ·
      intro x hx;rcases List.mem_cons.1 hx with rfl | hx
      · exact hc
      ·
       unfold runD at hx
       split at hx
       · simp at hx
       ·
        obtain ⟨j,hj⟩:=List.getElem?_of_mem hx;rw [List.getElem?_take] at hj
        split at hj
        ·
         next hjl =>
         obtain ⟨y,hy,hp⟩:=tw_in (p:=digU) (l:=q) hjl;rw [hy] at hj;injection hj with hj
         subst hj;exact hp
        · cases hj
     ·
      by_cases h48:c=48
      · left;unfold runD;rw [if_pos h48];simp
      · right;simpa using h48
    · exact absurd (by rw [numL,if_neg hc]) h0
def ErrW (w:World):Prop:=∃ te pe,w.cell? ⟨Tryz.lays172_ren.g 16,0,none⟩=some (.iface te pe)
theorem ErrW.below {w w':World} (h:ErrW w) (hb:Below w.heap.size w w'):ErrW w':=by obtain ⟨te,pe,h⟩:=h;exact ⟨te,pe,held h w' hb⟩
theorem ErrW.fr {w w':World} {g:Nat} (h:ErrW w) (hf:Fg g w w') (hg:Tryz.lays172_ren.g 16≠g):ErrW w':=by obtain ⟨te,pe,h⟩:=h;exact ⟨te,pe,hf.agr _ _ hg h⟩
theorem qun (s:ByteArray) (n:Nat) (w:World) (h0:s.data.toList≠[]) (hd:∀ c∈s.data.toList,digU c=true) (hs:s.size<=1000) (hn:decL s.data.toList=n) (hlt:n<9223372036854775808) :
  Calls Tryz.prog 27 #[.string s] w fun e w'=>e=.returned (.tuple #[.int .i64 n,.nilIface])/\Below w.heap.size w w':=by
 rcases qlc h0 hd with ⟨h1,h2⟩ | ⟨h1,h2⟩
 ·
  rw [hn] at h1;refine (Any.strconv_Atoi_ok Tryz.lays172 s (by omega) n h1 w).mono ?_;rintro e w' ⟨rfl,hw⟩;refine ⟨rfl,?_⟩;rcases hw with rfl | ⟨t,rfl⟩
  · exact Below.refl _ _
  · exact Lib.bytesWorld_below _ _ _
 · omega
theorem qva (s:ByteArray) (w:World) (h0:s.data.toList≠[]) (hd:∀ c∈s.data.toList,digU c=true) (hs:s.size<=1000) (hlt:9223372036854775808<=decL s.data.toList) (he:ErrW w) :
  Calls Tryz.prog 27 #[.string s] w fun e w'=>∃ (x:Int) (t:TypeId) (q:Value),e=.returned (.tuple #[.int .i64 x,.iface t q])/\Below w.heap.size w w':=by
 rcases qlc h0 hd with ⟨h1,h2⟩ | ⟨h1,h2⟩
 · omega
 ·
  obtain ⟨te,pe,he⟩:=he;refine (Any.strconv_Atoi_range Tryz.lays172 s (by omega) h1 _ w he (.inr ⟨te,pe,rfl⟩)).mono ?_;rintro e w' ⟨N,rfl,_,_,hb⟩;exact ⟨_,_,_,rfl,hb⟩
end Go.Proofs.YtnilkimcdgmgkaaGreatDoor
