/- Walk: certificate.number; strings.Cut and strconv.Atoi of any text. -/
import Derived.Test.YtkjnkpkagcboeaaGreatDoorCa6
import Derived.Test.YtkjnkpkagcboeaaGreatDoorCa8
import Derived.Test.YtkjnkpkagcboeaaGreatDoorCa4
import Derived.Test.YtkjnkpkagcboeaaGreatDoorCa2
import Derived.Test.YtkjnkpkagcboeaaGreatDoorProg
import Derived.Ground.NamesProg
import Derived.Shelf.Lays
import Derived.Shelf.LaysC
import Derived.Shelf.Strconv.AtoiAll
import Derived.Test.YtkjnkpkagcboeaaGreatDoorCa7
import Derived.Lib.IndexMore
import Derived.Test.YtkjnkpkagcboeaaGreatDoorCa1
import Derived.Shelf.LaysM
import Derived.Shelf.Strings.SplitShaped
import Derived.Shelf.Strconv.Itoa3
import Derived.Lib.AppendIntMem
import Derived.Shelf.Strings.Cut
set_option linter.all false
set_option maxRecDepth 100000
set_option maxHeartbeats 4000000
namespace Go.Proofs.YtkjnkpkagcboeaaGreatDoor
open Go.RowKit
structure Fr (Y : Nat -> Prop) (w w' : World) : Prop where
 os:w'.os = w.os
 tape:w'.tape = w.tape
 output:w'.output = w.output
 size:w.heap.size <= w'.heap.size
 block:∀ k,k < w.heap.size -> ¬ Y k -> w'.heap[k]? = w.heap[k]?
section
variable {Y Z : Nat -> Prop} {w w' w'' : World}
theorem Fr.refl (Y:Nat -> Prop) (w:World):Fr Y w w:=⟨rfl,rfl,rfl,nlr _,fun _ _ _=>rfl⟩
theorem Fr.trans (h:Fr Y w w') (k:Fr Y w' w''):Fr Y w w'':=⟨k.os.trans h.os,k.tape.trans h.tape,k.output.trans h.output,Nat.le_trans h.size k.size,fun n h1 h2=>(k.block n (ltl h1 h.size) h2).trans (h.block n h1 h2)⟩
theorem Fr.then_ (h:Fr Y w w') (k:Fr Z w' w'') (e:∀ b,Z b -> Y b \/ w.heap.size <= b):Fr Y w w'':=⟨k.os.trans h.os,k.tape.trans h.tape,k.output.trans h.output,Nat.le_trans h.size k.size,fun n h1 h2=>(k.block n (ltl h1 h.size) (fun hz=>(e n hz).elim h2 (fun h=>by omega))).trans (h.block n h1 h2)⟩
theorem Fr.mono (h:Fr Y w w') (e:∀ b,Y b -> Z b):Fr Z w w':=⟨h.os,h.tape,h.output,h.size,fun k h1 h2=>h.block k h1 fun hy=>h2 (e _ hy)⟩
theorem Fr.below (h:Below w.heap.size w w'):Fr Y w w':=⟨h.os,h.tape,h.output,h.size,fun k hk _=>h.block k hk⟩
theorem Fr.call (h:Fr Y w w') (k:Below w'.heap.size w' w''):Fr Y w w'':=h.trans (Fr.below k)
theorem Fr.alloc (h:Fr Y w w') (o:Obj):Fr Y w (w'.alloc o):=h.call (brf.alloc (nlr _) _)
theorem Fr.setc (h:Fr Y w w') {g i:Nat} {u:Value} (hg:Y g \/ w.heap.size <= g):Fr Y w (w'.setCell ⟨g,i,none⟩ u):=⟨h.os,h.tape,h.output,by have:=h.size; simpa [World.setCell] using this,fun k h1 h2 =>
 (Below.heap_setCell _ _ _ _ (fun e=>by simp at e; subst e; exact hg.elim h2 (fun h=>by omega))).trans (h.block k h1 h2)⟩
theorem Fr.grown (h:Fr Y w w') {a:Option Addr} {n c:Nat} (hg:w'.grownBy w'' (Value.ownBlock (.slice a n c))) (ha:∀ g,a = some g -> Y g.block \/ w.heap.size <= g.block):Fr Y w w'':=⟨hg.os.trans h.os,hg.tape.trans h.tape,hg.output.trans h.output,Nat.le_trans h.size hg.size,fun k h1 h2 =>
 (hg.block k (ltl h1 h.size) (fun e=>by
  cases a with
  | none=>simp [Value.ownBlock] at e
  | some g=>simp [Value.ownBlock] at e; subst e; exact (ha g rfl).elim h2 (fun h=>by omega))).trans (h.block k h1 h2)⟩
theorem Fr.agr (h:Fr Y w w'):Agr Y w w':=fun p v hp hc=>by
 have:=h.block p.block (World.block_lt_of_cell? w p hc) hp;rw [<- hc];unfold World.cell?;rw [this]
theorem Blk.fr {g:Nat} {t:TypeId} {cs:Array Value} (h:Blk w g t cs) (k:Fr Y w w') (hg:¬ Y g):Blk w' g t cs:=(k.block g h.lt hg).trans h
theorem Below.fr {B:Nat} {W0:World} (h:Below B W0 w) (k:Fr Y w w') (hY:∀ b,Y b -> B <= b) (hB:B <= w.heap.size):Below B W0 w' :=
 ⟨k.os.trans h.os,k.tape.trans h.tape,k.output.trans h.output,Nat.le_trans h.size k.size,fun n hn=>(k.block n (by omega) (fun hy=>by have:=hY n hy; omega)).trans (h.block n hn)⟩
end
end Go.Proofs.YtkjnkpkagcboeaaGreatDoor
namespace Go.Proofs.YtkjnkpkagcboeaaGreatDoor
open Go.RowKit Go.Maps Go.WideMaps
def whoL (l:List ByteArray) (s:ByteArray):Option Nat:=l.findIdx? fun x=>decide (x = s)
theorem whoL_lt {l:List ByteArray} {s:ByteArray} {v:Nat} (h:whoL l s = some v):v < l.length:=by
 unfold whoL at h;exact (List.findIdx?_eq_some_iff_getElem.1 h).1
theorem whoL_snoc {l:List ByteArray} {x:ByteArray} (hx:whoL l x = none) (s:ByteArray):whoL (l ++ [x]) s = if s = x then some l.length else whoL l s:=by
 unfold whoL at hx ⊢;rw [List.findIdx?_append];by_cases h:s = x
 ·
  subst h;rw [hx,if_pos rfl];simp [List.findIdx?_cons]
 ·
  rw [if_neg h];have h2:¬ x = s:=fun e=>h e.symm
  simp [List.findIdx?_cons,h2]
theorem zeroI (w:World):(zeroValue 3).run Tryz.prog w = .ok (.int .i64 0) w:=by kernel_rfl
def OwnV (w:World) (b n:Nat) (l:List ByteArray):Prop :=
 ∃ D:DataW Unit,w.ownsMap Tryz.prog 9 (plainElem Tryz.prog 3) b n D /\ ∀ s:ByteArray,D.atKey (.string s.data.toList) (.lit (.int .i64 0)) = .lit (.int .i64 ((whoL l s).getD 0:Nat)) /\ Maps.has D (.string s.data.toList) = (whoL l s).isSome
section
variable {w w' : World} {b n : Nat} {l : List ByteArray}
theorem OwnV.made (w:World):OwnV (w.alloc (.map #[] 0)) w.heap.size 0 []:=⟨.map [],World.ownsMap_made _ _ _ _,fun _=>⟨rfl,rfl⟩⟩
theorem OwnV.kept {row:Option Nat} (h:OwnV w b n l) (hg:w.grownBy w' row) (hne:some b ≠ row):OwnV w' b n l:=by obtain ⟨D,h1,h2⟩:=h; exact ⟨D,h1.kept hg hne,h2⟩
theorem OwnV.alloc (h:OwnV w b n l) (o:Obj):OwnV (w.alloc o) b n l:=by obtain ⟨D,h1,h2⟩:=h; exact ⟨D,h1.alloc o,h2⟩
theorem OwnV.fr {g:Nat} (h:OwnV w b n l) (k:Fr (fun x=>x = g) w w') (hg:b ≠ g):OwnV w' b n l :=
 h.kept (row:=some g) ⟨k.os,k.tape,k.output,k.size,fun i hi hne=>k.block i hi fun e=>hne (by rw [e])⟩ (fun e=>hg (by injection e))
theorem plainI {v:Int} (h:(Lit.int .i64 v).wf = true):plainElem (H:=Unit) Tryz.prog 3 (.int .i64 v) = some (.lit (.int .i64 v),[]):=plainElem_int Tryz.underlying3 h
theorem OwnV.look (h:OwnV w b n l) {s:ByteArray} (hs:s.size <= maxLen):(Instr.lookup 71 (.map (some b)) (.string s) true).run Tryz.prog w = .ok (.tuple #[.int .i64 ((whoL l s).getD 0:Nat),.bool (whoL l s).isSome]) w:=by
 obtain ⟨D,h1,h2⟩:=h;obtain ⟨v,ps,hr,hv⟩:=h1.look_ok keyedS Tryz.underlying71 (zeroI w) (plainI (v:=0) (by decide)) (keyOf_string_mk Tryz.underlying9 hs);rw [(h2 s).1] at hv;obtain ⟨c,rfl,hc,_⟩:=plainElem_int_inv Tryz.underlying3 hv;simp only [Prod.mk.injEq,DataW.lit.injEq,Lit.int.injEq] at hc;rw [hr,(h2 s).2,<- hc.1.2]
end
section
variable {w : World} {b n : Nat} {l : List ByteArray} {ops : Array Oper} {rest : List Oper} {o : Oper} {a : Act} {Q : Exit -> Act -> World -> Prop}
theorem mapI_put (hg:o.guard = none) (m x v:Operand) (hop:o.op = Op.mapUpdate 71 m x v) (hm:a.eval m = .map (some b)) (hown:OwnV w b n l) (hn:n < 16777216)
  (s:ByteArray) (hs:s.size <= maxLen) (hx:a.eval x = .string s) (hw:whoL l s = none) (hl:l.length <= 16777216) (hv:a.eval v = .int .i64 l.length)
  (hK:∀ w',OwnV w' b (n + 1) (l ++ [s]) -> w.grownBy w' (some b) -> wpList Tryz.prog ops Q rest (a.put o.dst undef) w'):wpList Tryz.prog ops Q (o :: rest) a w:=by
 obtain ⟨D,h1,h2⟩:=hown;refine wpList_mapUpdate_own w hg m x v 71 hop 9 3 keyedS Tryz.underlying71 (plainElem Tryz.prog 3) b n D hm h1 (by unfold maxLen; omega) _ _ (.string s.data.toList) hx hv
  (keyOf_string_mk Tryz.underlying9 hs) (.lit (.int .i64 l.length)) [] (plainI (wf_of (by unfold InInt; omega))) fun w' r1 r2=>hK w' ⟨_,r1,fun t=>?_⟩ r2
 rw [whoL_snoc hw];by_cases he:t = s
 ·
  subst he;rw [atKey_put_same (h1.isMap) (show WideAt.IsKeyLit (.string _) from trivial),has_put_same (h1.isMap) (show WideAt.IsKeyLit (.string _) from trivial),if_pos rfl];exact ⟨rfl,rfl⟩
 ·
  rw [atKey_put_other (strLit_ne he),has_put_other (strLit_ne he),(h2 t).1,(h2 t).2,if_neg he];exact ⟨rfl,rfl⟩
end
end Go.Proofs.YtkjnkpkagcboeaaGreatDoor
namespace Go.Proofs.YtkjnkpkagcboeaaGreatDoor
open Go.RowKit
structure Cuts {α : Type} (N : Nat) (G G' : List UInt8 -> Got α) : Prop where
 sub:∀ l x r,l.length < N -> G l = .ok x r -> r.length <= l.length
 far:∀ l k,l.length < N -> G l = .bad k 9 -> k <= l.length
 ok:∀ u v x r,(u ++ v).length < N -> v ≠ [] -> G (u ++ v) = .ok x r -> v.length <= r.length -> ∃ r',r = r' ++ v /\ G' u = .ok x r'
 form:∀ u v k,(u ++ v).length < N -> v ≠ [] -> G (u ++ v) = .bad k 9 -> v.length < k -> G' u = .bad (k - v.length) 9
 edge:∀ u v,(u ++ v).length < N -> v ≠ [] -> G (u ++ v) = .bad v.length 9 -> G' u = .bad 0 10
theorem lost_cuts {α:Type}:∀ (u v:List UInt8),v ≠ [] -> (∀ k,(lost (u ++ v):Got α) = .bad k 9 -> v.length < k -> (lost u:Got α) = .bad (k - v.length) 9) /\ ((lost (u ++ v):Got α) = .bad v.length 9 -> (lost u:Got α) = .bad 0 10):=fun u v hv=>by
 have hl:0 < v.length:=List.length_pos_iff.2 hv;unfold lost;rw [List.length_append,if_neg (by omega)]
 constructor
 ·
  intro k h hk;injection h with h _
  rw [if_neg (by omega)];congr 1
  omega
 ·
  intro h;injection h with h _
  rw [if_pos (by omega)]
theorem lost_far {α:Type} {l:List UInt8} {k:Nat} {e:Int} (h:(lost l:Got α) = .bad k e):k <= l.length:=by
 unfold lost at h
 split at h <;> injection h with h _ <;> omega
theorem lost_ok {α:Type} {l:List UInt8} {x:α} {r:List UInt8} (h:(lost l:Got α) = .ok x r):False:=by
 unfold lost at h
 split at h <;> cases h
theorem Cuts.bnd {α β:Type} {N:Nat} {G G':List UInt8 -> Got α} {f f':List UInt8 -> α -> List UInt8 -> Got β} (h:Cuts N G G') (k:∀ a b x,Cuts N (f a x) (f' b x)):Cuts N (fun l=>(G l).bnd (f l)) (fun l=>(G' l).bnd (f' l)) where
 sub l x r hN e:=by
  cases hg:G l with
  | ok y s =>
   rw [hg] at e;have h1:=h.sub l y s hN hg;exact Nat.le_trans ((k l l y).sub s x r (by omega) e) h1
  | bad k e'=>rw [hg] at e; cases e
 far l n hN hb:=by
  cases hg:G l with
  | ok y s =>
   rw [hg] at hb;have h1:=h.sub l y s hN hg;exact Nat.le_trans ((k l l y).far s n (by omega) hb) h1
  | bad k e' =>
   rw [hg] at hb;have:k = n /\ e' = 9:=by injection hb with a b; exact ⟨a,b⟩
   obtain ⟨rfl,rfl⟩:=this;exact h.far l k hN hg
 ok u v x r hN hv e hr:=by
  cases hg:G (u ++ v) with
  | ok y s =>
   rw [hg] at e;have e2:f (u ++ v) y s = .ok x r:=e;have h0:=h.sub _ y s hN hg;have h1:=(k (u ++ v) u y).sub s x r (by omega) e2;obtain ⟨s',rfl,h2⟩:=h.ok u v y s hN hv hg (by omega);obtain ⟨r',h3,h4⟩:=(k (u ++ v) u y).ok s' v x r (by omega) hv e2 hr;refine ⟨r',h3,?_⟩
   show (G' u).bnd (f' u) = _
   rw [h2];exact h4
  | bad k e'=>rw [hg] at e; cases e
 form u v n hN hv hb hn:=by
  cases hg:G (u ++ v) with
  | ok y s =>
   rw [hg] at hb;have e2:f (u ++ v) y s = .bad n 9:=hb;have h0:=h.sub _ y s hN hg;have h1:=(k (u ++ v) u y).far s n (by omega) e2;obtain ⟨s',rfl,h2⟩:=h.ok u v y s hN hv hg (by omega)
   show (G' u).bnd (f' u) = _
   rw [h2];exact (k (u ++ v) u y).form s' v n (by omega) hv e2 hn
  | bad m e' =>
   rw [hg] at hb;have h1:m = n /\ e' = 9:=by injection hb with a b; exact ⟨a,b⟩
   obtain ⟨rfl,rfl⟩:=h1
   show (G' u).bnd (f' u) = _
   rw [h.form u v m hN hv hg hn]
   rfl
 edge u v hN hv hb:=by
  cases hg:G (u ++ v) with
  | ok y s =>
   rw [hg] at hb;have e2:f (u ++ v) y s = .bad v.length 9:=hb;have h0:=h.sub _ y s hN hg;have h1:=(k (u ++ v) u y).far s _ (by omega) e2;obtain ⟨s',rfl,h2⟩:=h.ok u v y s hN hv hg h1
   show (G' u).bnd (f' u) = _
   rw [h2];exact (k (u ++ v) u y).edge s' v (by omega) hv e2
  | bad m e' =>
   rw [hg] at hb;have h1:m = v.length /\ e' = 9:=by injection hb with a b; exact ⟨a,b⟩
   obtain ⟨rfl,rfl⟩:=h1
   show (G' u).bnd (f' u) = _
   rw [h.edge u v hN hv hg]
   rfl
theorem Cuts.pure {α:Type} (N:Nat) (x:α):Cuts N (fun l=>.ok x l) (fun l=>.ok x l) :=
 ⟨fun l y r _ e=>by injection e with _ e; rw [e]; exact nlr _,fun _ _ _ h=>(by cases h),fun u v y r _ _ e _=>(by injection e with a b; subst a b; exact ⟨u,rfl,rfl⟩),fun _ _ _ _ _ h=>(by cases h),fun _ _ _ _ h=>(by cases h)⟩
theorem Cuts.err {α:Type} (N:Nat) (n n':List UInt8 -> Nat) (e e':Int) (he:e ≠ 9):Cuts (α:=α) N (fun l=>.bad (n l) e) (fun l=>.bad (n' l) e') :=
 ⟨fun _ _ _ _ h=>(by cases h),fun _ _ _ h=>(by injection h with _ h; exact absurd h he),fun _ _ _ _ _ _ h=>(by cases h),fun _ _ _ _ _ h=>(by injection h with _ h; exact absurd h he),fun _ _ _ _ h=>(by injection h with _ h; exact absurd h he)⟩
theorem Cuts.pick {α:Type} {N:Nat} {p:List UInt8 -> Prop} [DecidablePred p] {A A' B B':List UInt8 -> Got α} (hp:∀ c u v,p (c :: (u ++ v)) ↔ p (c :: u)) (h0:¬ p []) (hs:∀ l x r,l.length < N -> p l -> A l = .ok x r -> r.length < l.length) (hf:∀ l k,l.length < N -> p l -> A l = .bad k 9 -> k < l.length)
  (hao:∀ u v x r,(u ++ v).length < N -> v ≠ [] -> p u -> A (u ++ v) = .ok x r -> v.length <= r.length -> ∃ r',r = r' ++ v /\ A' u = .ok x r')
  (haf:∀ u v k,(u ++ v).length < N -> v ≠ [] -> p u -> A (u ++ v) = .bad k 9 -> v.length < k -> A' u = .bad (k - v.length) 9)
  (hae:∀ u v,(u ++ v).length < N -> v ≠ [] -> p u -> A (u ++ v) = .bad v.length 9 -> A' u = .bad 0 10)
  (hb:Cuts N B B'):Cuts N (fun l=>if p l then A l else B l) (fun l=>if p l then A' l else B' l) where
 sub l x r hN e:=by
  split at e
  · next hc=>exact Nat.le_of_lt (hs l x r hN hc e)
  · exact hb.sub l x r hN e
 far l k hN h:=by
  split at h
  · next hc=>exact Nat.le_of_lt (hf l k hN hc h)
  · exact hb.far l k hN h
 ok u v x r hN hv e hr:=by
  cases u with
  | nil =>
   rw [List.nil_append] at e hN;rw [if_neg h0]
   split at e
   · next hc=>have:=hs v x r hN hc e; omega
   · exact hb.ok [] v x r hN hv e hr
  | cons d u =>
   rw [List.cons_append] at e
   split at e
   · next hc=>rw [if_pos ((hp d u v).1 hc)]; exact hao (d :: u) v x r hN hv ((hp d u v).1 hc) e hr
   · next hc=>rw [if_neg (fun c=>hc ((hp d u v).2 c))]; exact hb.ok (d :: u) v x r hN hv e hr
 form u v k hN hv h hk:=by
  cases u with
  | nil =>
   rw [List.nil_append] at h hN;rw [if_neg h0]
   split at h
   · next hc=>have:=hf v k hN hc h; omega
   · exact hb.form [] v k hN hv h hk
  | cons d u =>
   rw [List.cons_append] at h
   split at h
   · next hc=>rw [if_pos ((hp d u v).1 hc)]; exact haf (d :: u) v k hN hv ((hp d u v).1 hc) h hk
   · next hc=>rw [if_neg (fun c=>hc ((hp d u v).2 c))]; exact hb.form (d :: u) v k hN hv h hk
 edge u v hN hv h:=by
  cases u with
  | nil =>
   rw [List.nil_append] at h hN;rw [if_neg h0]
   split at h
   · next hc=>have:=hf v _ hN hc h; omega
   · exact hb.edge [] v hN hv h
  | cons d u =>
   rw [List.cons_append] at h
   split at h
   · next hc=>rw [if_pos ((hp d u v).1 hc)]; exact hae (d :: u) v hN hv ((hp d u v).1 hc) h
   · next hc=>rw [if_neg (fun c=>hc ((hp d u v).2 c))]; exact hb.edge (d :: u) v hN hv h
theorem head_len {c:UInt8} {l:List UInt8} (h:l[0]? = some c):0 < l.length:=by
 cases l with
 | nil=>cases h
 | cons d l=>simp
theorem Cuts.look {α:Type} {N:Nat} (c:UInt8) {A A' B B':List UInt8 -> Got α} (ha:Cuts (N - 1) A A') (hb:Cuts N B B'):Cuts N (fun l=>if l[0]? = some c then A (l.drop 1) else B l) (fun l=>if l[0]? = some c then A' (l.drop 1) else B' l):=by
 refine Cuts.pick (p:=fun l=>l[0]? = some c) (fun d u v=>Iff.rfl) (by simp) (fun l x r hN hc e=>?_) (fun l k hN hc e=>?_) (fun u v x r hN hv hc e hr=>?_) (fun u v k hN hv hc e hk=>?_) (fun u v hN hv hc e=>?_) hb
 ·
  have h1:=head_len hc;have:=ha.sub _ x r (by rw [List.length_drop]; omega) e;rw [List.length_drop] at this; omega
 ·
  have h1:=head_len hc;have:=ha.far _ k (by rw [List.length_drop]; omega) e;rw [List.length_drop] at this; omega
 ·
  have h1:=head_len hc;rw [List.drop_append_of_le_length h1] at e;exact ha.ok _ v x r (by rw [List.length_append,List.length_drop]; rw [List.length_append] at hN; omega) hv e hr
 ·
  have h1:=head_len hc;rw [List.drop_append_of_le_length h1] at e;exact ha.form _ v k (by rw [List.length_append,List.length_drop]; rw [List.length_append] at hN; omega) hv e hk
 ·
  have h1:=head_len hc;rw [List.drop_append_of_le_length h1] at e;exact ha.edge _ v (by rw [List.length_append,List.length_drop]; rw [List.length_append] at hN; omega) hv e
theorem Cuts.same {α:Type} {N:Nat} {G G' H H':List UInt8 -> Got α} (h:Cuts N G G') (e:∀ l,G l = H l) (e':∀ l,G' l = H' l):Cuts N H H':=by
 rwa [<- (funext e:G = H),<- (funext e':G' = H')]
theorem Cuts.lost {α:Type} (N:Nat):Cuts (α:=α) N Go.Proofs.YtkjnkpkagcboeaaGreatDoor.lost Go.Proofs.YtkjnkpkagcboeaaGreatDoor.lost :=
 ⟨fun _ _ _ _ e=>(lost_ok e).elim,fun _ _ _ h=>lost_far h,fun _ _ _ _ _ _ e _=>(lost_ok e).elim,fun u v k _ hv h hk=>(lost_cuts u v hv).1 k h hk,fun u v _ hv h=>(lost_cuts u v hv).2 h⟩
theorem Cuts.ite {α:Type} {N:Nat} (p:Prop) [Decidable p] {A A' B B':List UInt8 -> Got α} (ha:Cuts N A A') (hb:Cuts N B B'):Cuts N (fun l=>if p then A l else B l) (fun l=>if p then A' l else B' l):=by
 by_cases h:p
 · simpa only [if_pos h] using ha
 · simpa only [if_neg h] using hb
theorem takeWhile_cut (p:UInt8 -> Bool):∀ (u v:List UInt8),((u ++ v).takeWhile p).length = (u.takeWhile p).length \/ u.takeWhile p = u /\ u.length < ((u ++ v).takeWhile p).length
 | [],v=>by
  rcases Nat.eq_zero_or_pos (v.takeWhile p).length with h | h
  · exact .inl (by simpa using h)
  · exact .inr ⟨rfl,by simpa using h⟩
 | c :: u,v=>by
  rw [List.cons_append,List.takeWhile_cons,List.takeWhile_cons]
  cases hc:p c
  · exact .inl rfl
  ·
   simp only [if_true,List.length_cons];rcases takeWhile_cut p u v with h | ⟨h1,h2⟩
   · exact .inl (by omega)
   · exact .inr ⟨by rw [h1],by omega⟩
structure Word (m : List UInt8 -> Nat) : Prop where
 le:∀ l,m l <= l.length
 nil:m [] = 0
 cut:∀ u v,m (u ++ v) = m u \/ u.length < m (u ++ v)
 zero:∀ c u v,m (c :: (u ++ v)) = 0 -> m (c :: u) = 0
theorem numL_word:Word numL where
 le l:=by
  cases l with
  | nil=>exact nlr _
  | cons c r =>
   rw [numL,List.length_cons];have:=(List.takeWhile_sublist digU (l:=r)).length_le
   split
   · split <;> omega
   · omega
 nil:=rfl
 cut u v:=by
  cases u with
  | nil =>
   rcases Nat.eq_zero_or_pos (numL v) with h | h
   · exact .inl (by rw [List.nil_append,h]; rfl)
   · exact .inr (by simpa using h)
  | cons c u =>
   rw [List.cons_append,numL,numL,List.length_cons]
   split
   ·
    split
    · exact .inl rfl
    ·
     rcases takeWhile_cut digU u v with h | ⟨h1,h2⟩
     · exact .inl (by omega)
     · exact .inr (by omega)
   · exact .inl rfl
 zero c u v h:=by
  rw [numL] at h ⊢
  split
  ·
   next hc =>
   rw [if_pos hc] at h
   split at h <;> omega
  · rfl
theorem namL_word:Word namL where
 le l:=by
  cases l with
  | nil=>exact nlr _
  | cons c r =>
   rw [namL,List.length_cons];have:=(List.takeWhile_sublist wordV (l:=r)).length_le
   split <;> omega
 nil:=rfl
 cut u v:=by
  cases u with
  | nil =>
   rcases Nat.eq_zero_or_pos (namL v) with h | h
   · exact .inl (by rw [List.nil_append,h]; rfl)
   · exact .inr (by simpa using h)
  | cons c u =>
   rw [List.cons_append,namL,namL,List.length_cons]
   split
   ·
    rcases takeWhile_cut wordV u v with h | ⟨h1,h2⟩
    · exact .inl (by omega)
    · exact .inr (by omega)
   · exact .inl rfl
 zero c u v h:=by
  rw [namL] at h ⊢
  split
  · next hc=>rw [if_pos hc] at h; omega
  · rfl
theorem Cuts.word {α:Type} {m:List UInt8 -> Nat} (N:Nat) (hm:Word m) (g:List UInt8 -> Option α) (e:Int) (he:e ≠ 9):Cuts N (fun l=>if m l = 0 then Go.Proofs.YtkjnkpkagcboeaaGreatDoor.lost l else match g (l.take (m l)) with
  | none=>.bad l.length e
  | some v=>.ok v (l.drop (m l))) (fun l=>if m l = 0 then Go.Proofs.YtkjnkpkagcboeaaGreatDoor.lost l else match g (l.take (m l)) with
  | none=>.bad l.length e
  | some v=>.ok v (l.drop (m l))) where
 sub l x r _ h:=by
  split at h
  · exact (lost_ok h).elim
  ·
   split at h
   · cases h
   · injection h with _ h; rw [<- h,List.length_drop]; omega
 far l k _ h:=by
  split at h
  · exact lost_far h
  ·
   split at h
   · injection h with h _; omega
   · cases h
 ok u v x r _ hv h hr:=by
  split at h
  · exact (lost_ok h).elim
  ·
   next h0 =>
   split at h
   · cases h
   ·
    next y hy =>
    injection h with h1 h2
    subst h1;rw [<- h2,List.length_drop,List.length_append] at hr;have hl:0 < v.length:=List.length_pos_iff.2 hv;rcases hm.cut u v with hc | hc
    ·
     rw [hc] at h0 hy h2;have hle:=hm.le u;rw [if_neg h0];rw [List.take_append_of_le_length hle] at hy;rw [List.drop_append_of_le_length hle] at h2;refine ⟨u.drop (m u),h2.symm,?_⟩;rw [hy]
    · omega
 form u v k _ hv h hk:=by
  split at h
  ·
   next h0 =>
   have h1:=(lost_cuts (α:=α) u v hv).1 k h hk
   cases u with
   | nil =>
    have:=lost_far h;rw [List.nil_append] at this
    omega
   | cons c u =>
    rw [if_pos (hm.zero c u v h0)];exact h1
  ·
   split at h
   · injection h with _ h; exact absurd h he
   · cases h
 edge u v _ hv h:=by
  split at h
  ·
   next h0 =>
   have h1:=(lost_cuts (α:=α) u v hv).2 h
   cases u with
   | nil=>rw [if_pos hm.nil]; exact h1
   | cons c u =>
    rw [if_pos (hm.zero c u v h0)];exact h1
  ·
   split at h
   · injection h with _ h; exact absurd h he
   · cases h
theorem Cuts.sameN {α:Type} {N:Nat} {G G' H H':List UInt8 -> Got α} (h:Cuts N G G') (e:∀ l,l.length < N -> G l = H l) (e':∀ l,l.length < N -> G' l = H' l):Cuts N H H' where
 sub l x r hN k:=h.sub l x r hN (by rw [e l hN]; exact k)
 far l k hN c:=h.far l k hN (by rw [e l hN]; exact c)
 ok u v x r hN hv k hr:=by rw [<- e' u (by rw [List.length_append] at hN; omega)]; exact h.ok u v x r hN hv (by rw [e _ hN]; exact k) hr
 form u v k hN hv c hk:=by rw [<- e' u (by rw [List.length_append] at hN; omega)]; exact h.form u v k hN hv (by rw [e _ hN]; exact c) hk
 edge u v hN hv c:=by rw [<- e' u (by rw [List.length_append] at hN; omega)]; exact h.edge u v hN hv (by rw [e _ hN]; exact c)
def oneG {α:Type} (m:List UInt8 -> Nat) (g:List UInt8 -> Option α) (e:Int) (l:List UInt8):Got α:=if m l = 0 then lost l else match g (l.take (m l)) with
  | none=>.bad l.length e
  | some v=>.ok v (l.drop (m l))
theorem oneG_cuts {α:Type} (N:Nat) {m:List UInt8 -> Nat} (hm:Word m) (g:List UInt8 -> Option α) (e:Int) (he:e ≠ 9):Cuts N (oneG m g e) (oneG m g e):=Cuts.word N hm g e he
theorem numG_word (l:List UInt8):oneG numL (fun s=>if 1000 < s.length then none else some s) 4 l = numG l:=by
 unfold numG oneG;have hl:(l.take (numL l)).length = numL l:=by rw [List.length_take]; have:=numL_word.le l; omega
 split
 · rfl
 ·
  by_cases h:1000 < numL l
  · simp only [hl,if_pos h]
  · simp only [hl,if_neg h]
theorem numG_cuts (N:Nat):Cuts N numG numG:=(oneG_cuts N numL_word _ 4 (by decide)).same numG_word numG_word
theorem namG_word (names:List ByteArray) (l:List UInt8):oneG namL (whoV names) 6 l = namG names l:=by
 unfold namG oneG
 split
 · rfl
 · cases whoV names (l.take (namL l)) <;> rfl
theorem namG_cuts (N:Nat) (names:List ByteArray):Cuts N (namG names) (namG names):=(oneG_cuts N namL_word (whoV names) 6 (by decide)).same (namG_word names) (namG_word names)
theorem powG_cuts (N:Nat) (names:List ByteArray):Cuts N (powG names) (powG names):=by
 refine Cuts.bnd (namG_cuts N names) fun a b v=>?_
 refine Cuts.look 94 (A:=fun l=>(numG l).bnd fun d r2=>if 1048576 < decL d then .bad l.length 4 else .ok (v,(decL d:Int)) r2) (A':=fun l=>(numG l).bnd fun d r2=>if 1048576 < decL d then .bad l.length 4 else .ok (v,(decL d:Int)) r2) ?_ (Cuts.pure N _);refine Cuts.bnd (numG_cuts _) fun a b d=>?_
 exact Cuts.ite _ (Cuts.err _ (fun _=>a.length) (fun _=>b.length) 4 4 (by decide)) (Cuts.pure _ _)
theorem proG_cuts (names:List ByteArray) (F F':Nat):∀ (N n n':Nat) (m:List Int),N <= n -> N <= n' -> Cuts N (proG names F n m) (proG names F' n' m)
 | 0,_,_,_,_,_=>⟨fun _ _ _ h=>(by omega),fun _ _ h=>(by omega),fun _ _ _ _ h=>(by omega),fun _ _ _ h=>(by omega),fun _ _ h=>(by omega)⟩
 | N + 1,n + 1,n' + 1,m,h,h'=>by
  have ih:=fun m=>proG_cuts names F F' N n n' m (by omega) (by omega)
  have:=Cuts.bnd (f:=fun _ p r=>if 1048576 < expAt m p.1 + p.2 then .bad F 4 else if r[0]? = some 42 then proG names F n (putM m p) (r.drop 1) else .ok (putM m p) r)
   (f':=fun _ p r=>if 1048576 < expAt m p.1 + p.2 then .bad F' 4 else if r[0]? = some 42 then proG names F' n' (putM m p) (r.drop 1) else .ok (putM m p) r) (powG_cuts (N + 1) names) fun a b p=>Cuts.ite _ (Cuts.err _ (fun _=>F) (fun _=>F') 4 4 (by decide)) (Cuts.look 42 (ih _) (Cuts.pure _ _))
  exact this.same (fun l=>by rw [proG]) (fun l=>by rw [proG])
 | N + 1,0,_,_,h,_=>by omega
 | N + 1,_,0,_,_,h=>by omega
theorem proG_fuel (names:List ByteArray) (F:Nat):∀ (n n':Nat) (m:List Int) (l:List UInt8),l.length < n -> l.length < n' -> proG names F n m l = proG names F n' m l
 | n + 1,n' + 1,m,l,h,h'=>by
  rw [proG,proG]
  cases hp:powG names l with
  | bad k e=>rfl
  | ok p r =>
   have hr:=(powG_cuts (l.length + 1) names).sub l p r (by omega) hp
   show (if _ then _ else _) = (if _ then _ else _)
   split
   · rfl
   ·
    split
    ·
     next hc =>
     have:=head_len hc;exact proG_fuel names F n n' _ _ (by rw [List.length_drop]; omega) (by rw [List.length_drop]; omega)
    · rfl
 | 0,_,_,_,h,_=>by omega
 | _,0,_,_,_,h=>by omega
theorem monG_cuts (N:Nat) (names:List ByteArray) (F F':Nat) (q:Rat):Cuts N (monG names F q) (monG names F' q):=by
 refine Cuts.bnd (G:=fun l=>proG names F (l.length + 1) zerM l) (G':=fun l=>proG names F' (l.length + 1) zerM l) (f:=fun _ m r=>.ok (q,cutM m) r) (f':=fun _ m r=>.ok (q,cutM m) r) ?_ fun a b m=>Cuts.pure _ _
 exact (proG_cuts names F F' N N N zerM (nlr _) (nlr _)).sameN (fun l h=>proG_fuel names F _ _ _ _ h (by omega)) (fun l h=>proG_fuel names F' _ _ _ _ h (by omega))
theorem cofG_cuts (N:Nat):Cuts N cofG cofG:=by
 refine Cuts.bnd (numG_cuts N) fun a b p=>?_
 refine Cuts.look 47 (A:=fun l=>(numG l).bnd fun q r2=>if decL q = 0 then .bad l.length 3 else .ok (qv false (decL p) (decL q)) r2) (A':=fun l=>(numG l).bnd fun q r2=>if decL q = 0 then .bad l.length 3 else .ok (qv false (decL p) (decL q)) r2) ?_ (Cuts.pure N _);refine Cuts.bnd (numG_cuts _) fun a b d=>?_
 exact Cuts.ite _ (Cuts.err _ (fun _=>a.length) (fun _=>b.length) 3 3 (by decide)) (Cuts.pure _ _)
theorem numG_eats {l:List UInt8} (h:numL l ≠ 0):(∀ d r,numG l = .ok d r -> r.length < l.length) /\ ∀ k,numG l ≠ .bad k 9:=by
 have hle:=numL_word.le l;unfold numG;rw [if_neg h]
 constructor
 ·
  intro d r e
  split at e
  · cases e
  · injection e with _ e; rw [<- e,List.length_drop]; omega
 ·
  intro k e
  split at e
  · injection e with _ e; exact absurd e (by decide)
  · cases e
theorem cofG_eats {l:List UInt8} (h:numL l ≠ 0):(∀ q r,cofG l = .ok q r -> r.length < l.length) /\ ∀ k,cofG l = .bad k 9 -> k < l.length:=by
 obtain ⟨h1,h2⟩:=numG_eats h;have hk:∀ p:List UInt8,Cuts (l.length + 1) (fun r=>if r[0]? = some 47 then (numG (r.drop 1)).bnd fun q r2=>if decL q = 0 then (.bad (r.drop 1).length 3:Got Rat) else .ok (qv false (decL p) (decL q)) r2 else .ok (qv false (decL p) 1) r) (fun r=>if r[0]? = some 47 then (numG (r.drop 1)).bnd fun q r2=>if decL q = 0 then (.bad (r.drop 1).length 3:Got Rat) else .ok (qv false (decL p) (decL q)) r2 else .ok (qv false (decL p) 1) r):=fun p=>by
  refine Cuts.look 47 (A:=fun l=>(numG l).bnd fun q r2=>if decL q = 0 then .bad l.length 3 else .ok (qv false (decL p) (decL q)) r2) (A':=fun l=>(numG l).bnd fun q r2=>if decL q = 0 then .bad l.length 3 else .ok (qv false (decL p) (decL q)) r2) ?_ (Cuts.pure _ _);refine Cuts.bnd (numG_cuts _) fun a b d=>?_
  exact Cuts.ite _ (Cuts.err _ (fun _=>a.length) (fun _=>b.length) 3 3 (by decide)) (Cuts.pure _ _)
 unfold cofG
 cases hn:numG l with
 | bad k e =>
  refine ⟨fun q r c=>(by cases c),fun k' c=>?_⟩;injection c with c1 c2
  subst c2;exact (h2 k hn).elim
 | ok p s =>
  have hs:=h1 p s hn;exact ⟨fun q r c=>Nat.lt_of_le_of_lt ((hk p).sub s q r (by omega) c) hs,fun k c=>Nat.lt_of_le_of_lt ((hk p).far s k (by omega) c) hs⟩
theorem terG_cuts (N:Nat) (names:List ByteArray):Cuts N (terG names) (terG names):=by
 have hk:∀ (a b:List UInt8) (q:Rat),Cuts N (fun r=>if r[0]? = some 42 then monG names a.length q (r.drop 1) else .ok (q,[]) r) (fun r=>if r[0]? = some 42 then monG names b.length q (r.drop 1) else .ok (q,[]) r):=fun a b q=>Cuts.look 42 (monG_cuts _ names _ _ q) (Cuts.pure _ _)
 have hA:=Cuts.bnd (f:=fun l q r=>if r[0]? = some 42 then monG names l.length q (r.drop 1) else .ok (q,[]) r) (f':=fun l q r=>if r[0]? = some 42 then monG names l.length q (r.drop 1) else .ok (q,[]) r) (cofG_cuts N) hk;have hB:Cuts N (fun l=>monG names l.length 1 l) (fun l=>monG names l.length 1 l):=by
  have:=Cuts.bnd (G:=fun l=>.ok () l) (G':=fun l=>.ok () l) (f:=fun l _ r=>monG names l.length 1 r) (f':=fun l _ r=>monG names l.length 1 r) (Cuts.pure N ()) fun a b _=>monG_cuts N names a.length b.length 1
  exact this
 have:=Cuts.pick (p:=fun l=>numL l ≠ 0) (A:=fun l=>(cofG l).bnd fun q r=>if r[0]? = some 42 then monG names l.length q (r.drop 1) else .ok (q,[]) r) (A':=fun l=>(cofG l).bnd fun q r=>if r[0]? = some 42 then monG names l.length q (r.drop 1) else .ok (q,[]) r)
  (fun c u v=>?_) (fun h=>h rfl) (fun l x r hN hp e=>?_) (fun l k hN hp e=>?_) (fun u v x r hN hv _ e hr=>hA.ok u v x r hN hv e hr) (fun u v k hN hv _ e hk=>hA.form u v k hN hv e hk) (fun u v hN hv _ e=>hA.edge u v hN hv e) hB
 ·
  refine this.same (fun l=>?_) (fun l=>?_) <;>
  ·
   unfold terG;by_cases h:numL l = 0
   · rw [if_pos h,if_neg (fun c=>c h)]
   · rw [if_neg h,if_pos h]
 ·
  have e:numL (c :: (u ++ v)) = 0 ↔ numL (c :: u) = 0:=by
   refine ⟨numL_word.zero c u v,fun h=>?_⟩;rw [numL] at h ⊢
   split
   ·
    next hc =>
    rw [if_pos hc] at h
    split at h <;> omega
   · rfl
  exact not_congr e
 ·
  obtain ⟨h1,h2⟩:=cofG_eats hp
  cases hc:cofG l with
  | bad k e'=>rw [hc] at e; cases e
  | ok q s =>
   rw [hc] at e;have h3:=h1 q s hc;exact Nat.lt_of_le_of_lt ((hk l l q).sub s x r (by omega) e) h3
 ·
  obtain ⟨h1,h2⟩:=cofG_eats hp
  cases hc:cofG l with
  | bad k' e' =>
   rw [hc] at e;have:k' = k /\ e' = 9:=by injection e with a b; exact ⟨a,b⟩
   obtain ⟨rfl,rfl⟩:=this;exact h2 k' hc
  | ok q s =>
   rw [hc] at e;have h3:=h1 q s hc;exact Nat.lt_of_le_of_lt ((hk l l q).far s k (by omega) e) h3
theorem eatG_cuts (N:Nat) (c:UInt8):Cuts N (eatG c) (eatG c):=Cuts.look c (A:=fun l=>.ok () l) (A':=fun l=>.ok () l) (Cuts.pure _ _) (Cuts.lost N)
theorem eatG_less {c:UInt8} {l r:List UInt8} {x:Unit} (h:eatG c l = .ok x r):r.length < l.length:=by
 unfold eatG at h
 split at h
 ·
  next hc =>
  have:=head_len hc;injection h with _ h; rw [<- h,List.length_drop]; omega
 · exact (lost_ok h).elim
theorem sepG_less {l r:List UInt8} {ng:Bool} (h:sepG l = .ok ng r):r.length < l.length:=by
 unfold sepG at h
 cases h1:eatG 32 l with
 | bad k e=>rw [h1] at h; cases h
 | ok x s =>
  rw [h1] at h;have h2:=eatG_less h1;have hk:Cuts (l.length + 1) (fun r=>if r[0]? = some 45 then (eatG 32 (r.drop 1)).bnd fun _ r'=>(.ok true r':Got Bool) else (eatG 43 r).bnd fun _ r1=>(eatG 32 r1).bnd fun _ r2=>.ok false r2) (fun r=>if r[0]? = some 45 then (eatG 32 (r.drop 1)).bnd fun _ r'=>(.ok true r':Got Bool) else (eatG 43 r).bnd fun _ r1=>(eatG 32 r1).bnd fun _ r2=>.ok false r2):=by
   refine Cuts.look 45 (A:=fun l=>(eatG 32 l).bnd fun _ r'=>.ok true r') (A':=fun l=>(eatG 32 l).bnd fun _ r'=>.ok true r') (Cuts.bnd (eatG_cuts _ 32) fun a b _=>Cuts.pure _ _) ?_;exact Cuts.bnd (eatG_cuts _ 43) fun a b _=>Cuts.bnd (eatG_cuts _ 32) fun a b _=>Cuts.pure _ _
  exact Nat.lt_of_le_of_lt (hk.sub s ng r (by omega) h) h2
def Fine {α:Type} (N:Nat) (g:Got α):Prop:=∀ k e,g = .bad k e -> k <= N /\ (e = 9 -> 0 < k) /\ (e = 10 -> k = 0) /\ e ≠ 0
theorem Fine.mono {α:Type} {N M:Nat} {g:Got α} (h:Fine N g) (hN:N <= M):Fine M g:=fun k e hk=>⟨Nat.le_trans (h k e hk).1 hN,(h k e hk).2⟩
theorem Fine.okk {α:Type} (N:Nat) (x:α) (r:List UInt8):Fine N (.ok x r):=fun _ _ h=>by cases h
theorem Fine.err {α:Type} {N k:Nat} {e:Int} (hk:k <= N) (h9:e ≠ 9) (h10:e ≠ 10) (h0:e ≠ 0:=by decide):Fine N (.bad k e:Got α):=fun k' e' h=>by
 injection h with a b
 subst a b;exact ⟨hk,fun c=>absurd c h9,fun c=>absurd c h10,h0⟩
theorem Fine.lost {α:Type} (l:List UInt8):Fine l.length (Go.Proofs.YtkjnkpkagcboeaaGreatDoor.lost l:Got α):=fun k e h=>by
 unfold Go.Proofs.YtkjnkpkagcboeaaGreatDoor.lost at h
 split at h
 ·
  injection h with a b
  subst a b;exact ⟨Nat.zero_le _,fun c=>absurd c (by decide),fun _=>rfl,by decide⟩
 ·
  injection h with a b
  subst a b;exact ⟨nlr _,fun _=>by omega,fun c=>absurd c (by decide),by decide⟩
theorem Fine.bnd {α β:Type} {N:Nat} {g:Got α} {f:α -> List UInt8 -> Got β} (hg:Fine N g) (hf:∀ x r,g = .ok x r -> Fine N (f x r)):Fine N (g.bnd f):=fun k e h=>by
 cases hc:g with
 | ok x r=>rw [hc] at h; exact hf x r hc k e h
 | bad k' e' =>
  rw [hc] at h;have:k' = k /\ e' = e:=by injection h with a b; exact ⟨a,b⟩
  obtain ⟨rfl,rfl⟩:=this;exact hg k' e' hc
theorem Fine.ite {α:Type} {N:Nat} {p:Prop} [Decidable p] {a b:Got α} (ha:p -> Fine N a) (hb:¬ p -> Fine N b):Fine N (if p then a else b):=by
 split
 · next h=>exact ha h
 · next h=>exact hb h
theorem drop_le1 (r:List UInt8):(r.drop 1).length <= r.length:=by rw [List.length_drop]; omega
theorem numG_fine (l:List UInt8):Fine l.length (numG l):=by
 unfold numG;exact Fine.ite (fun _=>Fine.lost l) fun _=>Fine.ite (fun _=>Fine.err (nlr _) (by decide) (by decide)) fun _=>Fine.okk _ _ _
theorem namG_fine (names:List ByteArray) (l:List UInt8):Fine l.length (namG names l):=by
 unfold namG;refine Fine.ite (fun _=>Fine.lost l) fun _=>?_
 split
 · exact Fine.err (nlr _) (by decide) (by decide)
 · exact Fine.okk _ _ _
theorem powG_fine (names:List ByteArray) (l:List UInt8):Fine l.length (powG names l):=by
 unfold powG;refine Fine.bnd (namG_fine names l) fun v r hr=>?_
 have h1:=(namG_cuts (l.length + 1) names).sub l v r (by omega) hr;have h2:=drop_le1 r;refine Fine.ite (fun _=>?_) fun _=>Fine.okk _ _ _
 refine Fine.bnd ((numG_fine _).mono (by omega)) fun d s _=>?_
 exact Fine.ite (fun _=>Fine.err (by omega) (by decide) (by decide)) fun _=>Fine.okk _ _ _
theorem proG_fine (names:List ByteArray) (F M:Nat) (hF:F <= M):∀ (n:Nat) (m:List Int) (l:List UInt8),l.length <= M -> Fine M (proG names F n m l)
 | 0,m,l,h=>by rw [proG]; exact Fine.err (Nat.zero_le _) (by decide) (by decide)
 | n + 1,m,l,h=>by
  rw [proG];refine Fine.bnd ((powG_fine names l).mono h) fun p r hr=>?_
  have h1:=(powG_cuts (l.length + 1) names).sub l p r (by omega) hr;have h2:=drop_le1 r;refine Fine.ite (fun _=>Fine.err hF (by decide) (by decide)) fun _=>Fine.ite (fun _=>proG_fine names F M hF n _ _ (by omega)) fun _=>Fine.okk _ _ _
theorem monG_fine (names:List ByteArray) (F M:Nat) (hF:F <= M) (q:Rat) (l:List UInt8) (h:l.length <= M):Fine M (monG names F q l):=by
 unfold monG;exact Fine.bnd (proG_fine names F M hF _ _ l h) fun _ _ _=>Fine.okk _ _ _
theorem cofG_fine (l:List UInt8):Fine l.length (cofG l):=by
 unfold cofG;refine Fine.bnd (numG_fine l) fun p r hr=>?_
 have h1:=(numG_cuts (l.length + 1)).sub l p r (by omega) hr;have h2:=drop_le1 r;refine Fine.ite (fun _=>?_) fun _=>Fine.okk _ _ _
 refine Fine.bnd ((numG_fine _).mono (by omega)) fun d s _=>?_
 exact Fine.ite (fun _=>Fine.err (by omega) (by decide) (by decide)) fun _=>Fine.okk _ _ _
theorem terG_fine (names:List ByteArray) (l:List UInt8):Fine l.length (terG names l):=by
 unfold terG;refine Fine.ite (fun _=>monG_fine names _ _ (nlr _) _ _ (nlr _)) fun _=>?_
 refine Fine.bnd (cofG_fine l) fun q r hr=>?_
 have h1:=(cofG_cuts (l.length + 1)).sub l q r (by omega) hr;have h2:=drop_le1 r;exact Fine.ite (fun _=>monG_fine names _ _ (nlr _) _ _ (by omega)) fun _=>Fine.okk _ _ _
theorem eatG_fine (c:UInt8) (l:List UInt8):Fine l.length (eatG c l):=by
 unfold eatG;exact Fine.ite (fun _=>Fine.okk _ _ _) fun _=>Fine.lost l
theorem sepG_fine (l:List UInt8):Fine l.length (sepG l):=by
 unfold sepG;refine Fine.bnd (eatG_fine 32 l) fun _ r hr=>?_
 have h1:=eatG_less hr;have h2:=drop_le1 r;refine Fine.ite (fun _=>Fine.bnd ((eatG_fine 32 _).mono (by omega)) fun _ _ _=>Fine.okk _ _ _) fun _=>?_
 refine Fine.bnd ((eatG_fine 43 _).mono (by omega)) fun _ r1 hr1=>?_
 have h3:=eatG_less hr1;exact Fine.bnd ((eatG_fine 32 _).mono (by omega)) fun _ _ _=>Fine.okk _ _ _
theorem sumG_fine (names:List ByteArray) (M:Nat):∀ (f:Nat) (neg:Bool) (acc:List (Rat × List Int)) (l:List UInt8),l.length <= M -> Fine M (sumG names f neg acc l)
 | 0,_,_,l,_=>by rw [sumG]; exact Fine.err (Nat.zero_le _) (by decide) (by decide)
 | f + 1,neg,acc,l,h=>by
  rw [sumG];refine Fine.ite (fun _=>Fine.err h (by decide) (by decide)) fun _=>?_
  refine Fine.bnd ((terG_fine names l).mono h) fun t r hr=>?_
  have h1:=(terG_cuts (l.length + 1) names).sub l t r (by omega) hr;refine Fine.ite (fun _=>Fine.okk _ _ _) fun _=>?_
  refine Fine.bnd ((sepG_fine r).mono (by omega)) fun ng s hs=>?_
  have h2:=sepG_less hs;exact sumG_fine names M f ng _ s (by omega)
theorem reaG_fine (names:List ByteArray) (l:List UInt8):Fine l.length (reaG names l):=by
 unfold reaG;exact Fine.ite (fun _=>sumG_fine names _ _ _ _ _ (drop_le1 l)) fun _=>sumG_fine names _ _ _ _ _ (nlr _)
def tl (s:ByteArray) (a:Nat):List UInt8:=s.data.toList.drop a
theorem tl_len (s:ByteArray) (a:Nat):(tl s a).length = s.size - a:=by simp [tl]
theorem tl_at {s:ByteArray} {a:Nat} (h:a < s.size):tl s a = s[a] :: tl s (a + 1):=by
 unfold tl;rw [List.drop_eq_getElem_cons (by simpa using h)]
 rfl
theorem tl_end {s:ByteArray} {a:Nat} (h:s.size <= a):tl s a = []:=List.eq_nil_of_length_eq_zero (by rw [tl_len]; omega)
theorem tl_drop (s:ByteArray) (a k:Nat):(tl s a).drop k = tl s (a + k):=by unfold tl; rw [List.drop_drop]
theorem tl_all (s:ByteArray):tl s 0 = s.data.toList:=by simp [tl]
def nxtB (l:List UInt8) (c:Int):Bool:=match l[0]? with
 | some x=>decide ((x.toNat:Int) = c)
 | none=>false
theorem nxtB_is (l:List UInt8) (c:UInt8) {z:Int} (hz:(c.toNat:Int) = z):nxtB l z = decide (l[0]? = some c):=by
 subst hz;unfold nxtB
 cases l[0]? with
 | none=>simp
 | some x =>
  simp only [Option.some.injEq];rw [decide_eq_decide]
  constructor
  · intro h; exact UInt8.toNat_inj.1 (by omega)
  · intro h; rw [h]
theorem nxtB_at {s:ByteArray} {a:Nat} (h:a < s.size) (c:Int):nxtB (tl s a) c = decide (((s[a]'h).toNat:Int) = c):=by rw [tl_at h]; rfl
theorem nxtB_end {s:ByteArray} {a:Nat} (h:s.size <= a) (c:Int):nxtB (tl s a) c = false:=by rw [tl_end h]; rfl
def RdA (w:World) (g:Nat) (s:ByteArray) (mb a:Nat) (e b:Int):Prop:=Blk w g 73 #[.string s,.int .i64 a,.map (some mb),.int .i64 e,.int .i64 b]
def StR (w:World) (g:Nat) (s:ByteArray) (mb:Nat) (l:List UInt8):Prop:=∃ a:Nat,a <= s.size /\ l = tl s a /\ RdA w g s mb a 0 0
def StE (w:World) (g:Nat) (s:ByteArray) (mb:Nat) (k:Nat) (e:Int):Prop:=∃ a:Nat,a <= s.size /\ k <= s.size /\ e ≠ 0 /\ RdA w g s mb a e ((s.size - k:Nat):Int)
def StG {α:Type} (w:World) (g:Nat) (s:ByteArray) (mb:Nat) (G:Got α):Prop:=match G with
 | .ok _ r=>StR w g s mb r
 | .bad k e=>StE w g s mb k e
section
variable {w w' : World} {g mb a : Nat} {s : ByteArray} {e b : Int}
theorem RdA.below (h:RdA w g s mb a e b) (hb:Below w.heap.size w w'):RdA w' g s mb a e b:=Blk.below' h hb
theorem RdA.lt (h:RdA w g s mb a e b):g < w.heap.size:=Blk.lt h
theorem RdA.set1 (h:RdA w g s mb a e b) (a':Nat):RdA (w.setCell ⟨g,1,none⟩ (.int .i64 a')) g s mb a' e b:=bS h rfl
theorem RdA.set34 (h:RdA w g s mb a e b) (e' b':Int):RdA ((w.setCell ⟨g,3,none⟩ (.int .i64 e')).setCell ⟨g,4,none⟩ (.int .i64 b')) g s mb a e' b':=bS (bS h rfl) rfl
theorem StE.below {k:Nat} {e:Int} (h:StE w g s mb k e) (hb:Below w.heap.size w w'):StE w' g s mb k e:=by obtain ⟨a,h1,h2,h3,h4⟩:=h; exact ⟨a,h1,h2,h3,h4.below hb⟩
end
abbrev Fg (g:Nat) (w w':World):Prop:=Fr (fun b=>b = g) w w'
theorem peek_any (g mb a:Nat) (s:ByteArray) (e b c:Int) (w:World) (h:RdA w g s mb a e b) (ha:a <= s.size) (hs:s.size <= 281474976710656) :
  Calls Tryz.prog 69 #[.pointer (some ⟨g,0,none⟩),.int .u8 c] w fun e w'=>e = .returned (.bool (nxtB (tl s a) c)) /\ Below w.heap.size w w':=by
 have z0:=Blk.cell h 0; have z1:=Blk.cell h 1; have z2:=Blk.cell h 2; have z3:=Blk.cell h 3; have z4:=Blk.cell h 4;have hl:=h.lt;have hbd:Below w.heap.size w w.drew:=brf.drew;by_cases hlt:a < s.size
 ·
  have hn:=nxtB_at hlt c;rw [hn];clear hn h;obtain ⟨y,hy⟩:∃ y:Nat,(s[a]'hlt).toNat = y:=⟨_,rfl⟩
  rw [hy];by_cases hyc:(y:Int) = c
  ·
   have hyb:((y:Int) == c) = true:=by simpa using hyc
   rw [decide_eq_true hyc];clear hyc;go_enter Tryz.func69,Tryz.ntmps69;go_wp2;refine wp_region_mix (S:=(fun x=>x = w.drew)) [(0,.q),(1,.q),(2,.q),(3,.q),(4,.q),(5,.q),(6,.q),(7,.q),(8,.q),(9,.q),(10,.q),(11,.q),(12,.q),(13,.q),(14,.q),(15,.q),(16,.q),(17,.q),(18,.q),(19,.q),(20,.q),(21,.p),(22,.p),(23,.p)] (by kernel_rfl) (by kernel_rfl) (by kernel_rfl) (fun d _ _ _ _ h=>by cases d <;> exact h) (rfl) ?_
   iterate 21 (refine wpMix_q rfl rfl (fun K hK=>?_); apply Exists.intro; refine ⟨fun w' hw'=>?_,?_⟩; (focus (go_simp; try rfl)); go_simp; refine hK _ _ ?_; clear hK K)
   iterate 3 (refine wpMix_p rfl rfl (fun K hK=>?_); apply Exists.intro; refine ⟨fun w'=>?_,?_⟩; (focus (go_simp; try rfl)); go_simp; refine hK _ _ ?_; clear hK K)
   refine wpMix_nil ?_;go_wp2;go_ret;exact ⟨rfl,hbd⟩
  ·
   have hyb:((y:Int) == c) = false:=by simpa using hyc
   rw [decide_eq_false hyc];clear hyc;go_enter Tryz.func69,Tryz.ntmps69;go_wp2;refine wp_region_mix (S:=(fun x=>x = w.drew)) [(0,.q),(1,.q),(2,.q),(3,.q),(4,.q),(5,.q),(6,.q),(7,.q),(8,.q),(9,.q),(10,.q),(11,.q),(12,.q),(13,.q),(14,.q),(15,.q),(16,.q),(17,.q),(18,.q),(19,.q),(20,.q),(21,.p),(22,.p),(23,.p)] (by kernel_rfl) (by kernel_rfl) (by kernel_rfl) (fun d _ _ _ _ h=>by cases d <;> exact h) (rfl) ?_
   iterate 21 (refine wpMix_q rfl rfl (fun K hK=>?_); apply Exists.intro; refine ⟨fun w' hw'=>?_,?_⟩; (focus (go_simp; try rfl)); go_simp; refine hK _ _ ?_; clear hK K)
   iterate 3 (refine wpMix_p rfl rfl (fun K hK=>?_); apply Exists.intro; refine ⟨fun w'=>?_,?_⟩; (focus (go_simp; try rfl)); go_simp; refine hK _ _ ?_; clear hK K)
   refine wpMix_nil ?_;go_wp2;go_ret;exact ⟨rfl,hbd⟩
 ·
  rw [nxtB_end (by omega)];clear h;go_enter Tryz.func69,Tryz.ntmps69;go_wp2;refine wp_region_mix (S:=(fun x=>x = w.drew)) [(0,.q),(1,.q),(2,.q),(3,.q),(4,.q),(5,.q),(6,.q),(7,.q),(8,.q),(9,.q),(10,.q),(11,.q),(12,.q),(13,.q),(14,.q),(15,.q),(16,.q),(17,.q),(18,.q),(19,.q),(20,.q),(21,.p),(22,.p),(23,.p)] (by kernel_rfl) (by kernel_rfl) (by kernel_rfl) (fun d _ _ _ _ h=>by cases d <;> exact h) (rfl) ?_
  iterate 11 (refine wpMix_q rfl rfl (fun K hK=>?_); apply Exists.intro; refine ⟨fun w' hw'=>?_,?_⟩; (focus (go_simp; try rfl)); go_simp; refine hK _ _ ?_; clear hK K)
  iterate 11 (refine wpMix_skip rfl rfl (fun K hK=>?_); go_simp; refine hK _ _ ?_; clear hK K)
  iterate 2 (refine wpMix_p rfl rfl (fun K hK=>?_); apply Exists.intro; refine ⟨fun w'=>?_,?_⟩; (focus (go_simp; try rfl)); go_simp; refine hK _ _ ?_; clear hK K)
  refine wpMix_nil ?_;go_wp2;go_ret;exact ⟨rfl,hbd⟩
theorem fail_any (g mb a:Nat) (s:ByteArray) (e x:Int) (w:World) (h:RdA w g s mb a 0 0) :
  Calls Tryz.prog 70 #[.pointer (some ⟨g,0,none⟩),.int .i64 x,.int .i64 e] w fun u w'=>u = .returned (.tuple #[]) /\ RdA w' g s mb a e x /\ Fg g w w':=by
 have z0:=Blk.cell h 0; have z1:=Blk.cell h 1; have z2:=Blk.cell h 2; have z3:=Blk.cell h 3; have z4:=Blk.cell h 4;have hl:=h.lt;have f3:=Blk.frozen h 3; have f4:=Blk.frozen h 4;have hF:=Hd (h.set34 e x);have hG:=Hd (((Fr.refl (fun b=>b = g) w).setc (g:=g) (i:=3) (u:=.int .i64 e) (.inl rfl)).setc (g:=g) (i:=4) (u:=.int .i64 x) (.inl rfl));clear h;go_enter Tryz.func70,Tryz.ntmps70;go_wp2
 first | go_end0 | ((try simp only [Exit.inBlock,Exit.then]); refine bodyPost_ret (results_none rfl _ _ _) rfl ?_)
 exact ⟨rfl,hF.out,hG.out⟩
theorem fail_no (g mb a:Nat) (s:ByteArray) (e0 b e x:Int) (w:World) (h:RdA w g s mb a e0 b) (h0:e0 ≠ 0) :
  Calls Tryz.prog 70 #[.pointer (some ⟨g,0,none⟩),.int .i64 x,.int .i64 e] w fun u w'=>u = .returned (.tuple #[]) /\ w = w':=by
 have z0:=Blk.cell h 0; have z1:=Blk.cell h 1; have z2:=Blk.cell h 2; have z3:=Blk.cell h 3; have z4:=Blk.cell h 4;have hl:=h.lt;have hz:(e0 == 0) = false:=by simpa using h0
 clear h;go_enter Tryz.func70,Tryz.ntmps70;go_wp2
 first | go_end0 | ((try simp only [Exit.inBlock,Exit.then]); refine bodyPost_ret (results_none rfl _ _ _) rfl ?_)
 exact ⟨rfl,rfl⟩
theorem refuse_any (g mb a:Nat) (s:ByteArray) (w:World) (h:RdA w g s mb a 0 0) (ha:a <= s.size) (hs:s.size <= 281474976710656) :
  Calls Tryz.prog 121 #[.pointer (some ⟨g,0,none⟩)] w fun u w'=>u = .returned (.tuple #[]) /\ StG w' g s mb (lost (α:=Unit) (tl s a)) /\ Fg g w w':=by
 have z0:=Blk.cell h 0; have z1:=Blk.cell h 1; have z2:=Blk.cell h 2; have z3:=Blk.cell h 3; have z4:=Blk.cell h 4;have hl:=h.lt;have C:=fun e=>fail_any g mb a s e (a:Int) w.drew h
 have hbd:Fg g w w.drew:=Fr.below (brf.drew);replace C:=Hd C; replace hbd:=Hd hbd;clear h;by_cases hlt:a = s.size
 ·
  have hb:((a:Int) == (s.size:Int)) = true:=by rw [beq_iff_eq]; omega
  have hL:lost (α:=Unit) (tl s a) = .bad 0 10:=by rw [tl_end (by omega)]; rfl
  rw [hL];replace hlt:=Hd hlt;go_enter Tryz.func121,Tryz.ntmps121;go_wp2;refine wp_region_mix (S:=(fun x=>x = w.drew)) [(0,.q),(1,.q),(2,.q),(3,.q),(4,.q),(5,.q),(6,.q),(7,.q),(8,.q),(9,.p)] (by kernel_rfl) (by kernel_rfl) (by kernel_rfl) (fun d _ _ _ _ h=>by cases d <;> exact h) (rfl) ?_
  iterate 9 (refine wpMix_q rfl rfl (fun K hK=>?_); apply Exists.intro; refine ⟨fun w' hw'=>?_,?_⟩; (focus (go_simp; try rfl)); go_simp; refine hK _ _ ?_; clear hK K)
  iterate 1 (refine wpMix_p rfl rfl (fun K hK=>?_); apply Exists.intro; refine ⟨fun w'=>?_,?_⟩; (focus (go_simp; try rfl)); go_simp; refine hK _ _ ?_; clear hK K)
  refine wpMix_nil ?_;go_wp2_with fail;refine (C.out 10).mono ?_;rintro e w1 ⟨rfl,h1,hf⟩;go_wp2
  first | go_end0 | ((try simp only [Exit.inBlock,Exit.then]); refine bodyPost_ret (results_none rfl _ _ _) rfl ?_)
  exact ⟨rfl,⟨a,ha,by omega,by decide,by rw [Nat.sub_zero,<- hlt.out]; exact h1⟩,hbd.out.trans hf⟩
 ·
  have hb:((a:Int) == (s.size:Int)) = false:=by rw [beq_eq_false_iff_ne]; omega
  have hL:lost (α:=Unit) (tl s a) = .bad (s.size - a) 9:=by unfold lost; rw [if_neg (by rw [tl_len]; omega),tl_len]
  rw [hL];replace hlt:=Hd hlt;go_enter Tryz.func121,Tryz.ntmps121;go_wp2;refine wp_region_mix (S:=(fun x=>x = w.drew)) [(0,.q),(1,.q),(2,.q),(3,.q),(4,.q),(5,.q),(6,.q),(7,.q),(8,.q),(9,.p)] (by kernel_rfl) (by kernel_rfl) (by kernel_rfl) (fun d _ _ _ _ h=>by cases d <;> exact h) (rfl) ?_
  iterate 9 (refine wpMix_q rfl rfl (fun K hK=>?_); apply Exists.intro; refine ⟨fun w' hw'=>?_,?_⟩; (focus (go_simp; try rfl)); go_simp; refine hK _ _ ?_; clear hK K)
  iterate 1 (refine wpMix_p rfl rfl (fun K hK=>?_); apply Exists.intro; refine ⟨fun w'=>?_,?_⟩; (focus (go_simp; try rfl)); go_simp; refine hK _ _ ?_; clear hK K)
  refine wpMix_nil ?_;go_wp2_with fail;refine (C.out 9).mono ?_;rintro e w1 ⟨rfl,h1,hf⟩;go_wp2
  first | go_end0 | ((try simp only [Exit.inBlock,Exit.then]); refine bodyPost_ret (results_none rfl _ _ _) rfl ?_)
  exact ⟨rfl,⟨a,ha,by omega,by decide,by rw [show s.size - (s.size - a) = a by omega]; exact h1⟩,hbd.out.trans hf⟩
theorem lost_unit {α β:Type} {w:World} {g mb:Nat} {s:ByteArray} {l:List UInt8} (h:StG w g s mb (lost (α:=α) l)):StG w g s mb (lost (α:=β) l):=by
 unfold lost at h ⊢
 split <;> simp_all [StG]
theorem take_any (g mb a:Nat) (s:ByteArray) (c:UInt8) (z:Int) (hz:(c.toNat:Int) = z) (w:World) (h:RdA w g s mb a 0 0) (ha:a <= s.size) (hs:s.size <= 281474976710656) :
  Calls Tryz.prog 73 #[.pointer (some ⟨g,0,none⟩),.int .u8 z] w fun u w'=>u = .returned (.tuple #[]) /\ StG w' g s mb (eatG c (tl s a)) /\ Fg g w w':=by
 have z0:=Blk.cell h 0; have z1:=Blk.cell h 1; have z2:=Blk.cell h 2; have z3:=Blk.cell h 3; have z4:=Blk.cell h 4;have hl:=h.lt;have f1:=Blk.frozen h 1;have CP:=peek_any g mb a s 0 0 z w h ha hs;have CR:=fun W (hW:Below w.heap.size w W)=>refuse_any g mb a s W (h.below hW) ha hs
 have hne:=nxtB_is (tl s a) c hz;replace CR:=Hd CR;obtain ⟨bp,hbp⟩:∃ b,nxtB (tl s a) z = b:=⟨_,rfl⟩
 rw [hbp] at CP hne;replace CP:=Hd CP
 cases bp
 ·
  have hE:eatG c (tl s a) = lost (tl s a):=by unfold eatG; rw [if_neg (by simpa using hne.symm)]
  rw [hE];clear h hbp hne hE hz;go_enter Tryz.func73,Tryz.ntmps73;go_wp2_with fail;refine CP.out.mono ?_;rintro e w0 ⟨rfl,hb0⟩;go_wp2_with fail;refine (CR.out w0 hb0).mono ?_;rintro e w1 ⟨rfl,h1,hf⟩;go_wp2
  first | go_end0 | ((try simp only [Exit.inBlock,Exit.then]); refine bodyPost_ret (results_none rfl _ _ _) rfl ?_)
  exact ⟨rfl,lost_unit h1,(Fr.below hb0).trans hf⟩
 ·
  have hn0:(tl s a)[0]? = some c:=by simpa using hne.symm
  have hlt:a < s.size:=by
   apply Nat.lt_of_not_le;intro hle;rw [tl_end hle] at hn0
   cases hn0
  have hE:eatG c (tl s a) = .ok () (tl s (a + 1)):=by unfold eatG; rw [if_pos hn0,tl_drop]
  rw [hE];have hcast:((a + 1:Nat):Int) = (a:Int) + 1:=by omega
  have HH:=Hd h;clear h hbp hne hE hz hn0 z0 z1 z2 z4 f1 hl CR;go_enter Tryz.func73,Tryz.ntmps73;go_wp2_with fail;refine CP.out.mono ?_;rintro e w1 ⟨rfl,hb1⟩;have h1:=HH.out.below hb1;have z0:=Blk.cell h1 0; have z1:=Blk.cell h1 1; have z2:=Blk.cell h1 2; have z3:=Blk.cell h1 3; have z4:=Blk.cell h1 4;have hl:=h1.lt;have f1:=Blk.frozen h1 1;have hF:=Hd (h1.set1 (a + 1));have hG:=Hd ((Fr.below (Y:=fun b=>b = g) hb1).setc (g:=g) (i:=1) (u:=.int .i64 ((a + 1:Nat):Int)) (.inl rfl));rw [hcast] at hG;unfold RdA at hF;rw [hcast] at hF;clear h1 hb1;go_wp2
  first | go_end0 | ((try simp only [Exit.inBlock,Exit.then]); refine bodyPost_ret (results_none rfl _ _ _) rfl ?_)
  exact ⟨rfl,⟨a + 1,by omega,rfl,by unfold RdA; rw [hcast]; exact hF.out⟩,hG.out⟩
theorem take_no (g mb a:Nat) (s:ByteArray) (z e0 b:Int) (w:World) (h:RdA w g s mb a e0 b) (h0:e0 ≠ 0) :
  Calls Tryz.prog 73 #[.pointer (some ⟨g,0,none⟩),.int .u8 z] w fun u w'=>u = .returned (.tuple #[]) /\ w = w':=by
 have z0:=Blk.cell h 0; have z1:=Blk.cell h 1; have z2:=Blk.cell h 2; have z3:=Blk.cell h 3; have z4:=Blk.cell h 4;have hl:=h.lt;have hz:(e0 != 0) = true:=by simpa using h0
 clear h;go_enter Tryz.func73,Tryz.ntmps73;go_wp2
 first | go_end0 | ((try simp only [Exit.inBlock,Exit.then]); refine bodyPost_ret (results_none rfl _ _ _) rfl ?_)
 exact ⟨rfl,rfl⟩
theorem tw_in {p:UInt8 -> Bool}:∀ {l:List UInt8} {j:Nat},j < (l.takeWhile p).length -> ∃ x,l[j]? = some x /\ p x = true
 | [],j,h=>by simp at h
 | c :: r,j,h=>by
  rw [List.takeWhile_cons] at h;by_cases hc:p c = true
  ·
   rw [if_pos hc] at h
   cases j with
   | zero=>exact ⟨c,rfl,hc⟩
   | succ j=>exact tw_in (l:=r) (by simpa using h)
  · rw [if_neg hc] at h; simp at h
theorem tw_out {p:UInt8 -> Bool}:∀ {l:List UInt8} {x:UInt8},l[(l.takeWhile p).length]? = some x -> p x = false
 | [],x,h=>by simp at h
 | c :: r,x,h=>by
  rw [List.takeWhile_cons] at h;by_cases hc:p c = true
  ·
   rw [if_pos hc] at h;exact tw_out (l:=r) (by simpa using h)
  ·
   rw [if_neg hc] at h;simp at h;subst h;simpa using hc
theorem tw_le (p:UInt8 -> Bool) (l:List UInt8):(l.takeWhile p).length <= l.length:=by
 induction l with
 | nil=>simp
 | cons c r ih=>rw [List.takeWhile_cons]; split <;> simp; omega
theorem tl_get {s:ByteArray} {a j:Nat} (h:a + j < s.size):(tl s a)[j]? = some (s[a + j]'h):=by
 unfold tl;rw [List.getElem?_drop];exact get_list h
theorem tl_take (s:ByteArray) (a n:Nat):s.extract a (a + n) = ofL ((tl s a).take n):=by
 apply ba_ext;rw [ofL_list,Lib.extract_data,Nat.add_sub_cancel_left]
 rfl
def runD (c:UInt8) (l:List UInt8):Nat:=if c = 48 then 0 else (l.takeWhile digU).length
theorem numL_run {c:UInt8} {l:List UInt8} (h:digU c = true):numL (c :: l) = 1 + runD c l:=by
 rw [numL,if_pos h];unfold runD
 split <;> rfl
theorem numeral_any (g mb a:Nat) (s:ByteArray) (w:World) (h:RdA w g s mb a 0 0) (ha:a <= s.size) (hs:s.size <= 281474976710656) :
  Calls Tryz.prog 158 #[.pointer (some ⟨g,0,none⟩)] w fun u w'=>∃ t,u = .returned (.tuple #[.string t,.int .i64 a]) /\ (∀ d r,numG (tl s a) = .ok d r -> t = ofL d) /\ StG w' g s mb (numG (tl s a)) /\ Fg g w w':=by
 have z0:=Blk.cell h 0; have z1:=Blk.cell h 1; have z2:=Blk.cell h 2; have z3:=Blk.cell h 3; have z4:=Blk.cell h 4;have hl:=h.lt;by_cases hlt:a < s.size
 ·
  have hb:((a:Int) == (s.size:Int)) = false:=by rw [beq_eq_false_iff_ne]; omega
  have hT:=tl_at hlt;obtain ⟨c,hc⟩:∃ c,s[a]'hlt = c:=⟨_,rfl⟩
  rw [hc] at hT;obtain ⟨y,hy⟩:∃ y:Nat,c.toNat = y:=⟨_,rfl⟩
  have hy0:(s[a]'hlt).toNat = y:=by rw [hc]; exact hy
  have CD:=digitS_any (y:Int);have hdy:digU c = digV (y:Int):=by unfold digU; rw [hy]
  obtain ⟨bd,hbd0⟩:∃ b,digV (y:Int) = b:=⟨_,rfl⟩
  simp only [hbd0] at CD;rw [hbd0] at hdy;replace CD:=Hd CD
  cases bd
  ·
   have hL:numG (tl s a) = lost (tl s a):=by unfold numG; rw [if_pos (by rw [hT,numL,hdy]; rfl)]
   have hy2:=Hd hy;clear hT hdy hbd0 hy hc;rw [hL];have CR:=Hd (fun W (hW:Below w.heap.size w W)=>refuse_any g mb a s W (h.below hW) ha hs);have hbd:Below w.heap.size w w.drew:=brf.drew;clear h;go_enter Tryz.func158,Tryz.ntmps158;go_wp2;refine wp_region_mix (S:=(fun x=>x = w.drew)) [(0,.q),(1,.q),(2,.q),(3,.q),(4,.q),(5,.q),(6,.q),(7,.q),(8,.q),(9,.q),(10,.q),(11,.q),(12,.q),(13,.q),(14,.q),(15,.q),(16,.q),(17,.q),(18,.q),(19,.q),(20,.t),(21,.p),(22,.p)] (by kernel_rfl) (by kernel_rfl) (by kernel_rfl) (fun d _ _ _ _ h=>by cases d <;> exact h) (rfl) ?_
   iterate 20 (refine wpMix_q rfl rfl (fun K hK=>?_); apply Exists.intro; refine ⟨fun w' hw'=>?_,?_⟩; (focus (go_simp; try rfl)); go_simp; refine hK _ _ ?_; clear hK K)
   refine wpMix_t rfl rfl (fun K hK=>?_);go_simp;refine (CD.out w.drew).mono ?_;rintro e w' ⟨rfl,rfl⟩;dsimp only;refine hK.out _ _ ?_;clear hK K
   iterate 2 (refine wpMix_p rfl rfl (fun K hK=>?_); apply Exists.intro; refine ⟨fun w'=>?_,?_⟩; (focus (go_simp; try rfl)); go_simp; refine hK _ _ ?_; clear hK K)
   refine wpMix_nil ?_;go_wp2_with fail;refine (CR.out w.drew hbd).mono ?_;rintro e w1 ⟨rfl,h1,hf⟩;go_wp2;go_ret2;exact ⟨⟨#[]⟩,rfl,fun d r e=>absurd e fun e=>lost_ok e,lost_unit h1,(Fr.below hbd).trans hf⟩
  ·
   have hn1:numL (tl s a) = 1 + runD c (tl s (a + 1)):=by rw [hT]; exact numL_run hdy
   obtain ⟨D,hD⟩:∃ D,runD c (tl s (a + 1)) = D:=⟨_,rfl⟩
   rw [hD] at hn1;have hDl:D <= s.size - (a + 1):=by
    rw [<- hD];unfold runD
    split
    · omega
    · have:=tw_le digU (tl s (a + 1)); rw [tl_len] at this; exact this
   have hDc:c = 48 -> D = 0:=fun e=>by rw [<- hD]; unfold runD; rw [if_pos e]
   have hDi:∀ j,j < D -> ∃ h:a + 1 + j < s.size,digV ((s[a + 1 + j]'h).toNat:Int) = true:=fun j hj=>by
    have h1:a + 1 + j < s.size:=by omega
    refine ⟨h1,?_⟩;rw [<- hD] at hj;unfold runD at hj
    split at hj
    · omega
    ·
     obtain ⟨x,hx,hp⟩:=tw_in hj;rw [tl_get h1] at hx;injection hx with hx
     subst hx;exact hp
   have hDo:c ≠ 48 -> ∀ h:a + 1 + D < s.size,digV ((s[a + 1 + D]'h).toNat:Int) = false:=fun hc48 h1=>by
    have h2:D = ((tl s (a + 1)).takeWhile digU).length:=by rw [<- hD]; unfold runD; rw [if_neg hc48]
    exact tw_out (p:=digU) (l:=tl s (a + 1)) (x:=s[a + 1 + D]'h1) (by rw [<- h2]; exact tl_get h1)
   have hc48:(c = 48) ↔ (y:Int) = 48:=by
    constructor
    · intro e; subst e; rw [<- hy]; rfl
    · intro e; exact UInt8.toNat_inj.1 (by rw [hy]; have:(48:UInt8).toNat = 48:=rfl; omega)
   have hcast:((a + 1:Nat):Int) = (a:Int) + 1:=by omega
   have hG:numG (tl s a) = if 1000 < 1 + D then .bad (s.size - a) 4 else .ok ((tl s a).take (1 + D)) (tl s (a + (1 + D))):=by
    unfold numG;rw [hn1,if_neg (by omega),tl_len,tl_drop]
   have hex:s.extract a (a + 1 + D) = ofL ((tl s a).take (1 + D)):=by rw [Nat.add_assoc]; exact tl_take s a (1 + D)
   have hbd:Below w.heap.size w w.drew:=brf.drew;have h2:RdA w.drew g s mb a 0 0:=h;have f1:=Blk.frozen h2 1;have h3:=h2.set1 (a + 1);have hf3:Fg g w (w.drew.setCell ⟨g,1,none⟩ (.int .i64 ((a + 1:Nat):Int))):=(Fr.below (Y:=fun b=>b = g) hbd).setc (.inl rfl);unfold RdA at h3;rw [hcast] at h3 hf3;obtain ⟨GG,hGG⟩:∃ G,numG (tl s a) = G:=⟨_,rfl⟩
   rw [hGG] at hG ⊢;have HGG:=Hd hG;replace hGG:=Hd hGG;have HH:=Hd h3; have HF:=Hd hf3; have HEX:=Hd hex; have HDI:=Hd hDi; have HDO:=Hd hDo; have HDC:=Hd hDc; have H48:=Hd hc48;have hy2:=Hd hy;clear h h2 h3 hf3 hT hdy hbd0 hy hc hn1 hD hDi hDo hDc hc48 hG hex;go_enter Tryz.func158,Tryz.ntmps158;go_wp2;refine wp_region_mix (S:=(fun x=>x = w.drew)) [(0,.q),(1,.q),(2,.q),(3,.q),(4,.q),(5,.q),(6,.q),(7,.q),(8,.q),(9,.q),(10,.q),(11,.q),(12,.q),(13,.q),(14,.q),(15,.q),(16,.q),(17,.q),(18,.q),(19,.q),(20,.t),(21,.p),(22,.p)] (by kernel_rfl) (by kernel_rfl) (by kernel_rfl) (fun d _ _ _ _ h=>by cases d <;> exact h) (rfl) ?_
   iterate 20 (refine wpMix_q rfl rfl (fun K hK=>?_); apply Exists.intro; refine ⟨fun w' hw'=>?_,?_⟩; (focus (go_simp; try rfl)); go_simp; refine hK _ _ ?_; clear hK K)
   refine wpMix_t rfl rfl (fun K hK=>?_);go_simp;refine (CD.out w.drew).mono ?_;rintro e w' ⟨rfl,rfl⟩;dsimp only;refine hK.out _ _ ?_;clear hK K
   iterate 2 (refine wpMix_p rfl rfl (fun K hK=>?_); apply Exists.intro; refine ⟨fun w'=>?_,?_⟩; (focus (go_simp; try rfl)); go_simp; refine hK _ _ ?_; clear hK K)
   refine wpMix_nil ?_;go_wp2;refine world_gen (fun W=>RdA W g s mb (a + 1) 0 0 /\ Fg g w W) ⟨by unfold RdA; rw [hcast]; exact HH.out,HF.out⟩ ?_;rintro w0 ⟨h0,hf0⟩;clear HH HF z0 z1 z2 z3 z4 f1 CD
   go_loopg [] D (fun m wr=>∃ j:Nat,Hid (j + m = D) /\ Hid (RdA wr g s mb (a + 1 + j) 0 0) /\ Fg g w wr)
   case atStart=>exact ⟨0,by show _ = _; omega,h0,hf0⟩
   case round =>
    clear h0 hf0;obtain ⟨j,hj,hR,hfr⟩:=hrel;have hRo:=hR.out;have z0:=Blk.cell hRo 0; have z1:=Blk.cell hRo 1; have z2:=Blk.cell hRo 2; have z3:=Blk.cell hRo 3; have z4:=Blk.cell hRo 4;have hl:=hRo.lt;have f1:=Blk.frozen hRo 1;have hcj:((a + 1 + j:Nat):Int) = (a:Int) + 1 + j:=by omega
    have hbd1:Below wr.heap.size wr wr.drew:=brf.drew;clear hRo;obtain ⟨p,hp⟩:∃ p,a + 1 + j = p:=⟨_,rfl⟩
    rw [hp] at z1 hR hcj;have hpc:((p + 1:Nat):Int) = (p:Int) + 1:=by omega
    by_cases hjD:j < D
    ·
     have h48:((y:Int) == 48) = false:=by
      rw [beq_eq_false_iff_ne];intro e;have:=HDC.out (H48.out.2 e)
      omega
     have h48n:((y:Int) != 48) = true:=by rw [bne,h48]; rfl
     obtain ⟨hps,hpd⟩:=HDI.out j hjD;simp only [hp] at hps hpd;obtain ⟨v,hv⟩:∃ v:Nat,(s[p]'hps).toNat = v:=⟨_,rfl⟩
     rw [hv] at hpd;have CD:=digitS_any (v:Int);rw [hpd] at CD;replace CD:=Hd CD; replace hp:=Hd hp; replace hpd:=Hd hpd;have hR3:=Hd ((show RdA wr.drew g s mb p 0 0 from hR.out).set1 (p + 1));have hF3:=Hd ((hfr.trans (Fr.below hbd1)).setc (g:=g) (i:=1) (u:=.int .i64 ((p + 1:Nat):Int)) (.inl rfl));unfold RdA at hR3;rw [hpc] at hR3 hF3;clear hR hcj hfr hbd1;go_wp2;refine wp_region_mix (S:=(fun x=>x = wr.drew)) [(0,.q),(1,.q),(2,.q),(3,.q),(4,.q),(5,.q),(6,.q),(7,.q),(8,.q),(9,.q),(10,.q),(11,.q),(12,.q),(13,.q),(14,.q),(15,.q),(16,.q),(17,.q),(18,.q),(19,.q),(20,.q),(21,.q),(22,.q),(23,.q),(24,.q),(25,.q),(26,.q),(27,.q),(28,.q),(29,.t),(30,.p)] (by kernel_rfl) (by kernel_rfl) (by kernel_rfl) (fun d _ _ _ _ h=>by cases d <;> exact h) (rfl) ?_
     iterate 29 (refine wpMix_q rfl rfl (fun K hK=>?_); apply Exists.intro; refine ⟨fun w' hw'=>?_,?_⟩; (focus (go_simp; try rfl)); go_simp; refine hK _ _ ?_; clear hK K)
     refine wpMix_t rfl rfl (fun K hK=>?_);go_simp;refine (CD.out wr.drew).mono ?_;rintro e w' ⟨rfl,rfl⟩;dsimp only;refine hK.out _ _ ?_;clear hK K
     iterate 1 (refine wpMix_p rfl rfl (fun K hK=>?_); apply Exists.intro; refine ⟨fun w'=>?_,?_⟩; (focus (go_simp; try rfl)); go_simp; refine hK _ _ ?_; clear hK K)
     refine wpMix_nil ?_;go_wp2;go_roundg (gk - 1)
     case rel=>exact ⟨j + 1,by have:=hj.out; show _ = _; omega,by unfold RdA; rw [show a + 1 + (j + 1) = p + 1 by have:=hp.out; omega,hpc]; exact hR3.out,hF3.out⟩
     case measure=>have:=hj.out; omega
    ·
     have hjD2:j = D:=by have:=hj.out; omega
     subst hjD2;have hex2:=HEX.out;rw [hp] at hex2;obtain ⟨t,ht⟩:∃ t,ofL ((tl s a).take (1 + j)) = t:=⟨_,rfl⟩
     rw [ht] at hex2;have htz:t.size = 1 + j:=by
      rw [<- ht];have:((tl s a).take (1 + j)).length = 1 + j:=by rw [List.length_take,tl_len]; omega
      exact this
     have hps:p <= s.size:=by omega
     have hap:a <= p:=by omega
     have hR3:RdA wr.drew.drew g s mb p 0 0:=hR.out;have hF3:Fg g w wr.drew.drew:=hfr.trans (Fr.below hbd1.drew);have CF:=Hd (fail_any g mb p s 4 (a:Int) wr.drew.drew hR3);replace hR3:=Hd hR3; replace hF3:=Hd hF3; replace ht:=Hd ht;have hp2:=Hd hp;clear hR hcj hfr hbd1;by_cases h48c:(y:Int) = 48
     ·
      have h48:((y:Int) == 48) = true:=by simpa using h48c
      have h48n:((y:Int) != 48) = false:=by rw [bne,h48]; rfl
      clear hp;replace h48c:=Hd h48c;go_wp2;refine wp_region_mix (S:=(fun x=>x = wr.drew)) [(0,.q),(1,.q),(2,.q),(3,.q),(4,.q),(5,.q),(6,.q),(7,.q),(8,.q),(9,.q),(10,.q),(11,.q),(12,.q),(13,.q),(14,.q),(15,.q),(16,.q),(17,.q),(18,.q),(19,.q),(20,.q),(21,.q),(22,.q),(23,.q),(24,.q),(25,.q),(26,.q),(27,.q),(28,.q),(29,.t),(30,.p)] (by kernel_rfl) (by kernel_rfl) (by kernel_rfl) (fun d _ _ _ _ h=>by cases d <;> exact h) (rfl) ?_
      iterate 8 (refine wpMix_q rfl rfl (fun K hK=>?_); apply Exists.intro; refine ⟨fun w' hw'=>?_,?_⟩; (focus (go_simp; try rfl)); go_simp; refine hK _ _ ?_; clear hK K)
      iterate 10 (refine wpMix_skip rfl rfl (fun K hK=>?_); go_simp; refine hK _ _ ?_; clear hK K)
      iterate 2 (refine wpMix_q rfl rfl (fun K hK=>?_); apply Exists.intro; refine ⟨fun w' hw'=>?_,?_⟩; (focus (go_simp; try rfl)); go_simp; refine hK _ _ ?_; clear hK K)
      iterate 10 (refine wpMix_skip rfl rfl (fun K hK=>?_); go_simp; refine hK _ _ ?_; clear hK K)
      iterate 1 (refine wpMix_p rfl rfl (fun K hK=>?_); apply Exists.intro; refine ⟨fun w'=>?_,?_⟩; (focus (go_simp; try rfl)); go_simp; refine hK _ _ ?_; clear hK K)
      refine wpMix_nil ?_;go_wp2;refine wp_region_mix (S:=(fun x=>x = wr.drew.drew)) [(0,.q),(1,.q),(2,.q),(3,.q),(4,.q),(5,.q),(6,.q),(7,.q),(8,.q),(9,.p),(10,.p)] (by kernel_rfl) (by kernel_rfl) (by kernel_rfl) (fun d _ _ _ _ h=>by cases d <;> exact h) (rfl) ?_
      iterate 9 (refine wpMix_q rfl rfl (fun K hK=>?_); apply Exists.intro; refine ⟨fun w' hw'=>?_,?_⟩; (focus (go_simp; try rfl)); go_simp; refine hK _ _ ?_; clear hK K)
      iterate 2 (refine wpMix_p rfl rfl (fun K hK=>?_); apply Exists.intro; refine ⟨fun w'=>?_,?_⟩; (focus (go_simp; try rfl)); go_simp; refine hK _ _ ?_; clear hK K)
      refine wpMix_nil ?_;by_cases hbig:1000 < 1 + j
      ·
       have hbig2:(1000:Int) < (t.size:Int):=by omega
       have hbg3:decide (1000 < t.size) = true:=by rw [decide_eq_true_eq]; omega
       replace hbig:=Hd hbig;replace htz:=Hd htz;go_wp2_with fail;refine CF.out.mono ?_;rintro e w1 ⟨rfl,h1,hf⟩;go_wp2;go_ret2;have hGe:=HGG.out;rw [if_pos hbig.out] at hGe;subst hGe;exact ⟨t,rfl,fun d r e=>(by cases e),⟨p,hps,by omega,by decide,by rw [show s.size - (s.size - a) = a by omega]; exact h1⟩,hF3.out.trans hf⟩
      ·
       have hbig2:¬ (1000:Int) < (t.size:Int):=by omega
       have hbg3:decide (1000 < t.size) = false:=by rw [decide_eq_false_iff_not]; omega
       replace hbig:=Hd hbig;replace htz:=Hd htz;go_wp2;go_ret2;have hGe:=HGG.out;rw [if_neg hbig.out] at hGe;subst hGe;exact ⟨t,rfl,fun d r e=>(by injection e with e1 e2; rw [<- e1]; exact ht.out.symm),⟨p,hps,by rw [show a + (1 + j) = p by have:=hp2.out; omega],hR3.out⟩,hF3.out⟩
     ·
      have h48:((y:Int) == 48) = false:=by simpa using h48c
      have h48n:((y:Int) != 48) = true:=by rw [bne,h48]; rfl
      by_cases hpz:p < s.size
      ·
       have hpd:=HDO.out (fun e=>h48c (H48.out.1 e)) (by rw [hp]; exact hpz);simp only [hp] at hpd;obtain ⟨v,hv⟩:∃ v:Nat,(s[p]'hpz).toNat = v:=⟨_,rfl⟩
       rw [hv] at hpd;have CD:=digitS_any (v:Int);rw [hpd] at CD;replace CD:=Hd CD; replace hpd:=Hd hpd;clear hp;replace h48c:=Hd h48c;go_wp2;refine wp_region_mix (S:=(fun x=>x = wr.drew)) [(0,.q),(1,.q),(2,.q),(3,.q),(4,.q),(5,.q),(6,.q),(7,.q),(8,.q),(9,.q),(10,.q),(11,.q),(12,.q),(13,.q),(14,.q),(15,.q),(16,.q),(17,.q),(18,.q),(19,.q),(20,.q),(21,.q),(22,.q),(23,.q),(24,.q),(25,.q),(26,.q),(27,.q),(28,.q),(29,.t),(30,.p)] (by kernel_rfl) (by kernel_rfl) (by kernel_rfl) (fun d _ _ _ _ h=>by cases d <;> exact h) (rfl) ?_
       iterate 29 (refine wpMix_q rfl rfl (fun K hK=>?_); apply Exists.intro; refine ⟨fun w' hw'=>?_,?_⟩; (focus (go_simp; try rfl)); go_simp; refine hK _ _ ?_; clear hK K)
       refine wpMix_t rfl rfl (fun K hK=>?_);go_simp;refine (CD.out wr.drew).mono ?_;rintro e w' ⟨rfl,rfl⟩;dsimp only;refine hK.out _ _ ?_;clear hK K
       iterate 1 (refine wpMix_p rfl rfl (fun K hK=>?_); apply Exists.intro; refine ⟨fun w'=>?_,?_⟩; (focus (go_simp; try rfl)); go_simp; refine hK _ _ ?_; clear hK K)
       refine wpMix_nil ?_;go_wp2;refine wp_region_mix (S:=(fun x=>x = wr.drew.drew)) [(0,.q),(1,.q),(2,.q),(3,.q),(4,.q),(5,.q),(6,.q),(7,.q),(8,.q),(9,.p),(10,.p)] (by kernel_rfl) (by kernel_rfl) (by kernel_rfl) (fun d _ _ _ _ h=>by cases d <;> exact h) (rfl) ?_
       iterate 9 (refine wpMix_q rfl rfl (fun K hK=>?_); apply Exists.intro; refine ⟨fun w' hw'=>?_,?_⟩; (focus (go_simp; try rfl)); go_simp; refine hK _ _ ?_; clear hK K)
       iterate 2 (refine wpMix_p rfl rfl (fun K hK=>?_); apply Exists.intro; refine ⟨fun w'=>?_,?_⟩; (focus (go_simp; try rfl)); go_simp; refine hK _ _ ?_; clear hK K)
       refine wpMix_nil ?_;by_cases hbig:1000 < 1 + j
       ·
        have hbig2:(1000:Int) < (t.size:Int):=by omega
        have hbg3:decide (1000 < t.size) = true:=by rw [decide_eq_true_eq]; omega
        replace hbig:=Hd hbig;replace htz:=Hd htz;go_wp2_with fail;refine CF.out.mono ?_;rintro e w1 ⟨rfl,h1,hf⟩;go_wp2;go_ret2;have hGe:=HGG.out;rw [if_pos hbig.out] at hGe;subst hGe;exact ⟨t,rfl,fun d r e=>(by cases e),⟨p,hps,by omega,by decide,by rw [show s.size - (s.size - a) = a by omega]; exact h1⟩,hF3.out.trans hf⟩
       ·
        have hbig2:¬ (1000:Int) < (t.size:Int):=by omega
        have hbg3:decide (1000 < t.size) = false:=by rw [decide_eq_false_iff_not]; omega
        replace hbig:=Hd hbig;replace htz:=Hd htz;go_wp2;go_ret2;have hGe:=HGG.out;rw [if_neg hbig.out] at hGe;subst hGe;exact ⟨t,rfl,fun d r e=>(by injection e with e1 e2; rw [<- e1]; exact ht.out.symm),⟨p,hps,by rw [show a + (1 + j) = p by have:=hp2.out; omega],hR3.out⟩,hF3.out⟩
      ·
       clear hp;replace h48c:=Hd h48c;go_wp2;refine wp_region_mix (S:=(fun x=>x = wr.drew)) [(0,.q),(1,.q),(2,.q),(3,.q),(4,.q),(5,.q),(6,.q),(7,.q),(8,.q),(9,.q),(10,.q),(11,.q),(12,.q),(13,.q),(14,.q),(15,.q),(16,.q),(17,.q),(18,.q),(19,.q),(20,.q),(21,.q),(22,.q),(23,.q),(24,.q),(25,.q),(26,.q),(27,.q),(28,.q),(29,.t),(30,.p)] (by kernel_rfl) (by kernel_rfl) (by kernel_rfl) (fun d _ _ _ _ h=>by cases d <;> exact h) (rfl) ?_
       iterate 20 (refine wpMix_q rfl rfl (fun K hK=>?_); apply Exists.intro; refine ⟨fun w' hw'=>?_,?_⟩; (focus (go_simp; try rfl)); go_simp; refine hK _ _ ?_; clear hK K)
       iterate 10 (refine wpMix_skip rfl rfl (fun K hK=>?_); go_simp; refine hK _ _ ?_; clear hK K)
       iterate 1 (refine wpMix_p rfl rfl (fun K hK=>?_); apply Exists.intro; refine ⟨fun w'=>?_,?_⟩; (focus (go_simp; try rfl)); go_simp; refine hK _ _ ?_; clear hK K)
       refine wpMix_nil ?_;go_wp2;refine wp_region_mix (S:=(fun x=>x = wr.drew.drew)) [(0,.q),(1,.q),(2,.q),(3,.q),(4,.q),(5,.q),(6,.q),(7,.q),(8,.q),(9,.p),(10,.p)] (by kernel_rfl) (by kernel_rfl) (by kernel_rfl) (fun d _ _ _ _ h=>by cases d <;> exact h) (rfl) ?_
       iterate 9 (refine wpMix_q rfl rfl (fun K hK=>?_); apply Exists.intro; refine ⟨fun w' hw'=>?_,?_⟩; (focus (go_simp; try rfl)); go_simp; refine hK _ _ ?_; clear hK K)
       iterate 2 (refine wpMix_p rfl rfl (fun K hK=>?_); apply Exists.intro; refine ⟨fun w'=>?_,?_⟩; (focus (go_simp; try rfl)); go_simp; refine hK _ _ ?_; clear hK K)
       refine wpMix_nil ?_;by_cases hbig:1000 < 1 + j
       ·
        have hbig2:(1000:Int) < (t.size:Int):=by omega
        have hbg3:decide (1000 < t.size) = true:=by rw [decide_eq_true_eq]; omega
        replace hbig:=Hd hbig;replace htz:=Hd htz;go_wp2_with fail;refine CF.out.mono ?_;rintro e w1 ⟨rfl,h1,hf⟩;go_wp2;go_ret2;have hGe:=HGG.out;rw [if_pos hbig.out] at hGe;subst hGe;exact ⟨t,rfl,fun d r e=>(by cases e),⟨p,hps,by omega,by decide,by rw [show s.size - (s.size - a) = a by omega]; exact h1⟩,hF3.out.trans hf⟩
       ·
        have hbig2:¬ (1000:Int) < (t.size:Int):=by omega
        have hbg3:decide (1000 < t.size) = false:=by rw [decide_eq_false_iff_not]; omega
        replace hbig:=Hd hbig;replace htz:=Hd htz;go_wp2;go_ret2;have hGe:=HGG.out;rw [if_neg hbig.out] at hGe;subst hGe;exact ⟨t,rfl,fun d r e=>(by injection e with e1 e2; rw [<- e1]; exact ht.out.symm),⟨p,hps,by rw [show a + (1 + j) = p by have:=hp2.out; omega],hR3.out⟩,hF3.out⟩
 ·
  have hae:a = s.size:=by omega
  have hb:((a:Int) == (s.size:Int)) = true:=by rw [beq_iff_eq]; omega
  have hL:numG (tl s a) = lost (tl s a):=by unfold numG; rw [if_pos (by rw [tl_end (by omega)]; rfl)]
  replace hae:=Hd hae;rw [hL];have CR:=Hd (fun W (hW:Below w.heap.size w W)=>refuse_any g mb a s W (h.below hW) ha hs);have hbd:Below w.heap.size w w.drew:=brf.drew;clear h;go_enter Tryz.func158,Tryz.ntmps158;go_wp2;refine wp_region_mix (S:=(fun x=>x = w.drew)) [(0,.q),(1,.q),(2,.q),(3,.q),(4,.q),(5,.q),(6,.q),(7,.q),(8,.q),(9,.q),(10,.q),(11,.q),(12,.q),(13,.q),(14,.q),(15,.q),(16,.q),(17,.q),(18,.q),(19,.q),(20,.t),(21,.p),(22,.p)] (by kernel_rfl) (by kernel_rfl) (by kernel_rfl) (fun d _ _ _ _ h=>by cases d <;> exact h) (rfl) ?_
  iterate 11 (refine wpMix_q rfl rfl (fun K hK=>?_); apply Exists.intro; refine ⟨fun w' hw'=>?_,?_⟩; (focus (go_simp; try rfl)); go_simp; refine hK _ _ ?_; clear hK K)
  iterate 11 (refine wpMix_skip rfl rfl (fun K hK=>?_); go_simp; refine hK _ _ ?_; clear hK K)
  iterate 1 (refine wpMix_p rfl rfl (fun K hK=>?_); apply Exists.intro; refine ⟨fun w'=>?_,?_⟩; (focus (go_simp; try rfl)); go_simp; refine hK _ _ ?_; clear hK K)
  refine wpMix_nil ?_;go_wp2_with fail;refine (CR.out w.drew hbd).mono ?_;rintro e w1 ⟨rfl,h1,hf⟩;go_wp2;go_ret2;exact ⟨⟨#[]⟩,rfl,fun d r e=>absurd e fun e=>lost_ok e,lost_unit h1,(Fr.below hbd).trans hf⟩
end Go.Proofs.YtkjnkpkagcboeaaGreatDoor
namespace Go.Proofs
open Go.Shelf
def Tryz.lays172_ren : Go.Shelf.Ren := ⟨fun | 172 => 135 | 244 => 171 | 245 => 172 | 247 => 197 | 279 => 198 | 280 => 199 | 281 => 200 | 282 => 201 | 287 => 220 | 316 => 221 | 171 => 49 | 205 => 222 | 321 => 229 | 322 => 230 | 243 => 95 | 246 => 137 | 283 => 178 | 284 => 179 | 285 => 180 | 286 => 181 | 129 => 210 | 317 => 209 | 318 => 211 | 319 => 212 | 320 => 213 | 337 => 227 | 338 => 228 | n => n, fun | 9 => 9 | 3 => 3 | 75 => 65 | 76 => 66 | 4 => 4 | 5 => 5 | 167 => 202 | 37 => 60 | 0 => 0 | 85 => 203 | 2 => 2 | 168 => 205 | 53 => 112 | 175 => 225 | 46 => 181 | 210 => 229 | 127 => 108 | 145 => 235 | 143 => 233 | 21 => 21 | 171 => 193 | 173 => 196 | 212 => 213 | 51 => 180 | 20 => 20 | 213 => 214 | 232 => 236 | 233 => 237 | 80 => 69 | n => n, fun | 15 => 4 | 16 => 5 | 17 => 1 | 18 => 6 | 19 => 7 | n => n⟩
theorem Tryz.lays172 : Go.Proofs.LaysC.n172 Tryz.prog Tryz.lays172_ren := {
  mixed := by kernel_rfl
  f129 := Tryz.func210.trans (congrArg some (by kernel_rfl))
  f171 := Tryz.func49.trans (congrArg some (by kernel_rfl))
  f172 := Tryz.func135.trans (congrArg some (by kernel_rfl))
  f205 := Tryz.func222.trans (congrArg some (by kernel_rfl))
  f243 := Tryz.func95.trans (congrArg some (by kernel_rfl))
  f244 := Tryz.func171.trans (congrArg some (by kernel_rfl))
  f245 := Tryz.func172.trans (congrArg some (by kernel_rfl))
  f246 := Tryz.func137.trans (congrArg some (by kernel_rfl))
  f247 := Tryz.func197.trans (congrArg some (by kernel_rfl))
  f279 := Tryz.func198.trans (congrArg some (by kernel_rfl))
  f280 := Tryz.func199.trans (congrArg some (by kernel_rfl))
  f281 := Tryz.func200.trans (congrArg some (by kernel_rfl))
  f282 := Tryz.func201.trans (congrArg some (by kernel_rfl))
  f283 := Tryz.func178.trans (congrArg some (by kernel_rfl))
  f284 := Tryz.func179.trans (congrArg some (by kernel_rfl))
  f285 := Tryz.func180.trans (congrArg some (by kernel_rfl))
  f286 := Tryz.func181.trans (congrArg some (by kernel_rfl))
  f287 := Tryz.func220.trans (congrArg some (by kernel_rfl))
  f316 := Tryz.func221.trans (congrArg some (by kernel_rfl))
  f317 := Tryz.func209.trans (congrArg some (by kernel_rfl))
  f318 := Tryz.func211.trans (congrArg some (by kernel_rfl))
  f319 := Tryz.func212.trans (congrArg some (by kernel_rfl))
  f320 := Tryz.func213.trans (congrArg some (by kernel_rfl))
  f321 := Tryz.func229.trans (congrArg some (by kernel_rfl))
  f322 := Tryz.func230.trans (congrArg some (by kernel_rfl))
  f337 := Tryz.func227.trans (congrArg some (by kernel_rfl))
  f338 := Tryz.func228.trans (congrArg some (by kernel_rfl))
  t0 := Tryz.underlying0
  a0 := Tryz.isAgg0
  z0 := Tryz.sizeOf0
  v0 := Tryz.zeroValue0
  t2 := Tryz.underlying2
  a2 := Tryz.isAgg2
  z2 := Tryz.sizeOf2
  v2 := Tryz.zeroValue2
  t3 := Tryz.underlying3
  a3 := Tryz.isAgg3
  z3 := Tryz.sizeOf3
  v3 := Tryz.zeroValue3
  t4 := Tryz.underlying4
  a4 := Tryz.isAgg4
  z4 := Tryz.sizeOf4
  v4 := Tryz.zeroValue4
  t5 := Tryz.underlying5
  a5 := Tryz.isAgg5
  z5 := Tryz.sizeOf5
  v5 := Tryz.zeroValue5
  t9 := Tryz.underlying9
  a9 := Tryz.isAgg9
  z9 := Tryz.sizeOf9
  v9 := Tryz.zeroValue9
  t20 := Tryz.underlying20
  a20 := Tryz.isAgg20
  z20 := Tryz.sizeOf20
  v20 := Tryz.zeroValue20
  t21 := Tryz.underlying21
  a21 := Tryz.isAgg21
  z21 := Tryz.sizeOf21
  v21 := Tryz.zeroValue21
  t37 := Tryz.underlying60
  a37 := Tryz.isAgg60
  z37 := Tryz.sizeOf60
  v37 := Tryz.zeroValue60
  t46 := Tryz.underlying181
  a46 := Tryz.isAgg181
  z46 := Tryz.sizeOf181
  v46 := Tryz.zeroValue181
  t51 := Tryz.underlying180
  a51 := Tryz.isAgg180
  z51 := Tryz.sizeOf180
  v51 := Tryz.zeroValue180
  t53 := Tryz.underlying112
  a53 := Tryz.isAgg112
  z53 := Tryz.sizeOf112
  v53 := Tryz.zeroValue112
  t75 := Tryz.underlying65
  a75 := Tryz.isAgg65
  z75 := Tryz.sizeOf65
  v75 := Tryz.zeroValue65
  t76 := Tryz.underlying66
  a76 := Tryz.isAgg66
  z76 := Tryz.sizeOf66
  v76 := Tryz.zeroValue66
  t85 := Tryz.underlying203
  a85 := Tryz.isAgg203
  z85 := Tryz.sizeOf203
  v85 := Tryz.zeroValue203
  t127 := Tryz.underlying108
  a127 := Tryz.isAgg108
  z127 := Tryz.sizeOf108
  v127 := Tryz.zeroValue108
  t143 := Tryz.underlying233
  a143 := Tryz.isAgg233
  z143 := Tryz.sizeOf233
  v143 := Tryz.zeroValue233
  t145 := Tryz.underlying235
  a145 := Tryz.isAgg235
  z145 := Tryz.sizeOf235
  v145 := Tryz.zeroValue235
  t167 := Tryz.underlying202
  a167 := Tryz.isAgg202
  z167 := Tryz.sizeOf202
  v167 := Tryz.zeroValue202
  t168 := Tryz.underlying205
  a168 := Tryz.isAgg205
  z168 := Tryz.sizeOf205
  v168 := Tryz.zeroValue205
  t171 := Tryz.underlying193
  a171 := Tryz.isAgg193
  z171 := Tryz.sizeOf193
  v171 := Tryz.zeroValue193
  t173 := Tryz.underlying196
  a173 := Tryz.isAgg196
  z173 := Tryz.sizeOf196
  v173 := Tryz.zeroValue196
  t175 := Tryz.underlying225
  a175 := Tryz.isAgg225
  z175 := Tryz.sizeOf225
  v175 := Tryz.zeroValue225
  t210 := Tryz.underlying229
  a210 := Tryz.isAgg229
  z210 := Tryz.sizeOf229
  v210 := Tryz.zeroValue229
  t212 := Tryz.underlying213
  a212 := Tryz.isAgg213
  z212 := Tryz.sizeOf213
  v212 := Tryz.zeroValue213
  t213 := Tryz.underlying214
  a213 := Tryz.isAgg214
  z213 := Tryz.sizeOf214
  t232 := Tryz.underlying236
  a232 := Tryz.isAgg236
  z232 := Tryz.sizeOf236
  v232 := Tryz.zeroValue236
  t233 := Tryz.underlying237
  a233 := Tryz.isAgg237
  z233 := Tryz.sizeOf237
  v233 := Tryz.zeroValue237
  g15 := by kernel_rfl
  g16 := by kernel_rfl
  g17 := by kernel_rfl
  g18 := by kernel_rfl
  g19 := by kernel_rfl
  t80 := Tryz.underlying69
  a80 := Tryz.isAgg69
  z80 := Tryz.sizeOf69
  v80 := Tryz.zeroValue69
  i0 := by kernel_rfl
  i2 := by kernel_rfl
  i3 := by kernel_rfl
  i4 := by kernel_rfl
  i5 := by kernel_rfl
  i9 := by kernel_rfl
  i20 := by kernel_rfl
  i21 := by kernel_rfl
  i37 := by kernel_rfl
  i46 := by kernel_rfl
  i51 := by kernel_rfl
  i53 := by kernel_rfl
  i75 := by kernel_rfl
  i76 := by kernel_rfl
  i80 := by kernel_rfl
  i85 := by kernel_rfl
  i127 := by kernel_rfl
  i143 := by kernel_rfl
  i145 := by kernel_rfl
  i167 := by kernel_rfl
  i168 := by kernel_rfl
  i171 := by kernel_rfl
  i173 := by kernel_rfl
  i175 := by kernel_rfl
  i210 := by kernel_rfl
  i212 := by kernel_rfl
  i232 := by kernel_rfl
  i233 := by kernel_rfl
  m15 := by kernel_rfl
  m16 := by kernel_rfl
  m17 := by kernel_rfl
  m18 := by kernel_rfl
  m19 := by kernel_rfl
  c0 := by kernel_rfl
  c2 := by kernel_rfl
  c3 := by kernel_rfl
  c4 := by kernel_rfl
  c5 := by kernel_rfl
  c9 := by kernel_rfl
  c20 := by kernel_rfl
  c21 := by kernel_rfl
  c37 := by kernel_rfl
  c46 := by kernel_rfl
  c51 := by kernel_rfl
  c53 := by kernel_rfl
  c75 := by kernel_rfl
  c76 := by kernel_rfl
  c80 := by kernel_rfl
  c85 := by kernel_rfl
  c127 := by kernel_rfl
  c143 := by kernel_rfl
  c145 := by kernel_rfl
  c167 := by kernel_rfl
  c168 := by kernel_rfl
  c171 := by kernel_rfl
  c173 := by kernel_rfl
  c175 := by kernel_rfl
  c210 := by kernel_rfl
  c212 := by kernel_rfl
  c213 := by kernel_rfl
  c232 := by kernel_rfl
  c233 := by kernel_rfl }
end Go.Proofs
namespace Go.Proofs.YtkjnkpkagcboeaaGreatDoor
open Go.RowKit
theorem fold_ge:∀ (l:List UInt8) (a:Nat),a <= l.foldl (fun a c=>10 * a + (c.toNat - 48)) a
 | [],a=>nlr _
 | c :: l,a=>by rw [List.foldl_cons]; exact Nat.le_trans (by omega) (fold_ge l _)
theorem par_num:∀ (l:List UInt8) (a:Nat),a < 18446744073709551616 -> (∀ c ∈ l,digU c = true) -> (Lib.parseUint10 a l = .ok (l.foldl (fun a c=>10 * a + (c.toNat - 48)) a) /\ l.foldl (fun a c=>10 * a + (c.toNat - 48)) a < 18446744073709551616) \/
  (Lib.parseUint10 a l = .range /\ 18446744073709551616 <= l.foldl (fun a c=>10 * a + (c.toNat - 48)) a)
 | [],a,h,_=>.inl ⟨rfl,h⟩
 | c :: l,a,h,hd=>by
  have h2:=hd c (by simp);unfold digU digV at h2;rw [decide_eq_true_eq] at h2;have hg:=fold_ge l (10 * a + (c.toNat - 48));rw [List.foldl_cons,Lib.parseUint10,if_pos (by omega)];by_cases h3:1844674407370955162 <= a
  ·
   rw [if_pos h3];exact .inr ⟨rfl,by omega⟩
  ·
   rw [if_neg h3,Nat.mul_comm a 10];by_cases h4:18446744073709551616 <= 10 * a + (c.toNat - 48)
   ·
    rw [if_pos h4];exact .inr ⟨rfl,by omega⟩
   ·
    rw [if_neg h4];exact par_num l _ (by omega) fun x hx=>hd x (by simp [hx])
theorem atoi_num {l:List UInt8} (h0:l ≠ []) (hd:∀ c ∈ l,digU c = true):(Lib.atoiAll l = .ok (decL l:Nat) /\ decL l < 9223372036854775808) \/ (Lib.atoiAll l = .range /\ 9223372036854775808 <= decL l):=by
 cases l with
 | nil=>exact absurd rfl h0
 | cons c r =>
  have h2:=hd c (by simp);unfold digU digV at h2;rw [decide_eq_true_eq] at h2;have hm:Lib.parseMag (c :: r) = Lib.parseUint10 0 (c :: r):=by unfold Lib.parseMag; rw [if_neg (by simp)]
  have hp:=par_num (c :: r) 0 (by decide) hd;unfold Lib.atoiAll;simp only;rw [if_neg (show ¬ (c.toNat = 43 \/ c.toNat = 45) by omega),hm];rcases hp with ⟨h1,h3⟩ | ⟨h1,h3⟩
  ·
   rw [h1]
   show (if ¬ (c.toNat = 45) /\ 9223372036854775808 <= decL (c :: r) then Lib.NumEnd.range else if c.toNat = 45 /\ 9223372036854775808 < decL (c :: r) then Lib.NumEnd.range else Lib.NumEnd.ok (if c.toNat = 45 then -(decL (c :: r):Int) else (decL (c :: r):Int))) = Lib.NumEnd.ok ((decL (c :: r):Nat):Int) /\ _ \/ _
   by_cases h4:9223372036854775808 <= decL (c :: r)
   · exact .inr ⟨if_pos ⟨by omega,h4⟩,h4⟩
   ·
    refine .inl ⟨?_,by omega⟩;rw [if_neg (by omega),if_neg (by omega),if_neg (by omega)]
  · exact .inr ⟨by rw [h1],by unfold decL; omega⟩
theorem numG_ok {l d r:List UInt8} (h:numG l = .ok d r):0 < d.length /\ d.length <= 1000 /\ (∀ c ∈ d,digU c = true) /\ (d.length = 1 \/ d[0]? ≠ some 48):=by
 unfold numG at h
 split at h
 · exact absurd h fun e=>lost_ok e
 ·
  next h0 =>
  split at h
  · cases h
  ·
   next h1 =>
   injection h with h2 h3
   cases l with
   | nil=>exact absurd rfl h0
   | cons c q =>
    by_cases hc:digU c = true
    ·
     have hn:=numL_run (c:=c) (l:=q) hc;rw [hn,Nat.add_comm,List.take_succ_cons] at h2;subst h2;have hr:runD c q <= q.length:=by unfold runD; split; omega; exact tw_le _ _
     refine ⟨by simp,by simp; omega,?_,?_⟩
     ·
      intro x hx;rcases List.mem_cons.1 hx with rfl | hx
      · exact hc
      ·
       unfold runD at hx
       split at hx
       · simp at hx
       ·
        obtain ⟨j,hj⟩:=List.getElem?_of_mem hx;rw [List.getElem?_take] at hj
        split at hj
        ·
         next hjl =>
         obtain ⟨y,hy,hp⟩:=tw_in (p:=digU) (l:=q) hjl;rw [hy] at hj;injection hj with hj
         subst hj;exact hp
        · cases hj
     ·
      by_cases h48:c = 48
      · left; unfold runD; rw [if_pos h48]; simp
      · right; simpa using h48
    · exact absurd (by rw [numL,if_neg hc]) h0
def ErrW (w:World):Prop:=∃ te pe,w.cell? ⟨Tryz.lays172_ren.g 16,0,none⟩ = some (.iface te pe)
theorem ErrW.below {w w':World} (h:ErrW w) (hb:Below w.heap.size w w'):ErrW w':=by obtain ⟨te,pe,h⟩:=h; exact ⟨te,pe,held h w' hb⟩
theorem ErrW.fr {w w':World} {g:Nat} (h:ErrW w) (hf:Fg g w w') (hg:Tryz.lays172_ren.g 16 ≠ g):ErrW w':=by obtain ⟨te,pe,h⟩:=h; exact ⟨te,pe,hf.agr _ _ hg h⟩
theorem atoi_small (s:ByteArray) (n:Nat) (w:World) (h0:s.data.toList ≠ []) (hd:∀ c ∈ s.data.toList,digU c = true) (hs:s.size <= 1000) (hn:decL s.data.toList = n) (hlt:n < 9223372036854775808) :
  Calls Tryz.prog 135 #[.string s] w fun e w'=>e = .returned (.tuple #[.int .i64 n,.nilIface]) /\ Below w.heap.size w w':=by
 rcases atoi_num h0 hd with ⟨h1,h2⟩ | ⟨h1,h2⟩
 ·
  rw [hn] at h1;refine (Any.strconv_Atoi_ok Tryz.lays172 s (by omega) n h1 w).mono ?_;rintro e w' ⟨rfl,hw⟩;refine ⟨rfl,?_⟩;rcases hw with rfl | ⟨t,rfl⟩
  · exact Below.refl _ _
  · exact Lib.bytesWorld_below _ _ _
 · omega
theorem atoi_great (s:ByteArray) (w:World) (h0:s.data.toList ≠ []) (hd:∀ c ∈ s.data.toList,digU c = true) (hs:s.size <= 1000) (hlt:9223372036854775808 <= decL s.data.toList) (he:ErrW w) :
  Calls Tryz.prog 135 #[.string s] w fun e w'=>∃ (x:Int) (t:TypeId) (q:Value),e = .returned (.tuple #[.int .i64 x,.iface t q]) /\ Below w.heap.size w w':=by
 rcases atoi_num h0 hd with ⟨h1,h2⟩ | ⟨h1,h2⟩
 · omega
 ·
  obtain ⟨te,pe,he⟩:=he;refine (Any.strconv_Atoi_range Tryz.lays172 s (by omega) h1 _ w he (.inr ⟨te,pe,rfl⟩)).mono ?_;rintro e w' ⟨N,rfl,_,_,hb⟩;exact ⟨_,_,_,rfl,hb⟩
end Go.Proofs.YtkjnkpkagcboeaaGreatDoor
namespace Go.Proofs.YtkjnkpkagcboeaaGreatDoor
open Go.RowKit
def linesL:List UInt8 -> List (List UInt8)
 | []=>[[]]
 | c :: r=>if c = 10 then [] :: linesL r else match linesL r with
  | []=>[[c]]
  | t :: q=>(c :: t) :: q
theorem linesL_cut:∀ s:List UInt8,linesL s = match cutL 10 s with
  | none=>[s]
  | some (t,r)=>t :: linesL r
 | []=>rfl
 | c :: r=>by
  rw [linesL,cutL];by_cases h:c = 10
  · rw [if_pos h,if_pos h]
  ·
   rw [if_neg h,if_neg h,linesL_cut r]
   cases cutL 10 r with
   | none=>rfl
   | some p=>rfl
theorem linesL_len:∀ s:List UInt8,0 < (linesL s).length /\ (linesL s).length <= s.length + 1
 | []=>by simp [linesL]
 | c :: r=>by
  have:=linesL_len r;rw [linesL,List.length_cons]
  split
  · rw [List.length_cons]; omega
  ·
   split
   · simp
   · next h=>rw [h] at this; simp only [List.length_cons] at this ⊢; omega
theorem linesL_short:∀ (s t:List UInt8),t ∈ linesL s -> t.length <= s.length
 | [],t,h=>by simp [linesL] at h; subst h; simp
 | c :: r,t,h=>by
  rw [linesL] at h;rw [List.length_cons]
  split at h
  ·
   rcases List.mem_cons.1 h with e | h
   · subst e; simp
   · have:=linesL_short r t h; omega
  ·
   split at h
   · rw [List.mem_singleton] at h; subst h; simp
   ·
    next t' q hq =>
    have hm:=fun u (hu:u ∈ t' :: q)=>linesL_short r u (by rw [hq]; exact hu)
    rcases List.mem_cons.1 h with e | h
    · subst e; have:=hm t' (by simp); rw [List.length_cons]; omega
    · have:=hm t (by simp [h]); omega
theorem linesL_none {s:List UInt8} (h:cutL 10 s = none):linesL s = [s]:=by rw [linesL_cut,h]
theorem linesL_some {s t r:List UInt8} (h:cutL 10 s = some (t,r)):linesL s = t :: linesL r:=by rw [linesL_cut,h]
theorem fidx_cut (b:UInt8):∀ (s:List UInt8) (n:Nat),fidx [b] s n = (cutL b s).map fun p=>n + p.1.length
 | [],_=>rfl
 | c :: r,n=>by
  unfold fidx;rw [cutL];by_cases h:c = b
  ·
   subst h;simp [List.isPrefixOf]
  ·
   have hp:List.isPrefixOf [b] (c :: r) = false:=by
    simp [List.isPrefixOf];exact fun e=>h e.symm
   rw [hp,if_neg h,if_neg (by simp),fidx_cut b r (n + 1)]
   cases cutL b r with
   | none=>rfl
   | some p=>simp; omega
theorem pieces_lines:∀ (k:Nat) (s:List UInt8),s.length < k -> pieces [10] k s = linesL s
 | 0,_,h=>by omega
 | k + 1,s,h=>by
  unfold pieces;rw [fidx_cut,linesL_cut]
  cases hc:cutL 10 s with
  | none=>rfl
  | some p =>
   obtain ⟨t,r⟩:=p;obtain ⟨g,_⟩:=cutL_some 10 s t r hc;simp only [Option.map_some,Nat.zero_add];subst g;have e1:(t ++ 10 :: r).take t.length = t:=by simp
   have e2:(t ++ 10 :: r).drop (t.length + [(10:UInt8)].length) = r:=by
    rw [List.drop_append];simp
   rw [e1,e2,pieces_lines k r (by simp at h; omega)]
theorem split_lines (l:List UInt8):Lib.splitB (ofL [10]) 0 (Lib.countB (ofL l) (ofL [10])) (ofL l) = (linesL l).map ofL /\ Lib.countB (ofL l) (ofL [10]) + 1 = (linesL l).length :=
 split_pieces (by simp) (l.length + 1) (pieces_lines _ l (Nat.lt_succ_self _)) (linesL_len l).2
theorem cut_cutL (b:UInt8) (s:List UInt8):Lib.cut s [b] = match cutL b s with
  | none=>(s,[],false)
  | some (t,r)=>(t,r,true):=by
 unfold Lib.cut;rcases fidx_index (sep:=[b]) (by simp) s 0 with ⟨h1,h2⟩ | ⟨i,h1,h2⟩
 ·
  rw [fidx_cut] at h1;rw [h2]
  cases hc:cutL b s with
  | none=>rfl
  | some p=>rw [hc] at h1; cases h1
 ·
  rw [fidx_cut] at h1;rw [h2]
  cases hc:cutL b s with
  | none=>rw [hc] at h1; cases h1
  | some p =>
   obtain ⟨t,r⟩:=p;obtain ⟨g,_⟩:=cutL_some b s t r hc;rw [hc] at h1;have hi:t.length = i:=by simpa using h1
   rw [if_pos (by omega)];subst g;rw [Int.toNat_natCast,<- hi];simp [List.drop_append]
def linP (names:List ByteArray) (part:Nat) (c:CrQ) (t:List UInt8):Option (Nat × CrQ) × Int :=
 if part = 0 then match firstQ t with
  | some c'=>(some (1,c'),0)
  | none=>(none,9)
 else if part = 3 then (none,9)
 else if t = wEnd then (some (3,c),0)
 else match lineQ names c t with
  | (some c',_)=>(some (if c'.C = [] then 1 else 2,c'),0)
  | (none,e)=>(none,e)
def runP (names:List ByteArray):Nat -> CrQ -> Nat -> List (List UInt8) -> CrQ × Nat × Int
 | _,_,n,[]=>(noQ,n,10)
 | part,c,n,t :: r=>if r = [] then (if t = [] /\ part = 3 then (c,0,0) else (noQ,n,10)) else match linP names part c t with
  | (some (q,c'),_)=>runP names q c' (n + 1) r
  | (none,e)=>(noQ,n,e)
theorem runP_one (names:List ByteArray) (part:Nat) (c:CrQ) (n:Nat) (t:List UInt8):runP names part c n [t] = if t = [] /\ part = 3 then (c,0,0) else (noQ,n,10):=by rw [runP,if_pos rfl]
theorem runP_more (names:List ByteArray) (part:Nat) (c:CrQ) (n:Nat) (t s:List UInt8):runP names part c n (t :: linesL s) = match linP names part c t with
  | (some (q,c'),_)=>runP names q c' (n + 1) (linesL s)
  | (none,e)=>(noQ,n,e):=by
 rw [runP,if_neg fun h=>by have:=(linesL_len s).1; rw [h] at this; exact absurd this (by simp)]
def partQ (c:CrQ):Nat:=if c.C = [] then 1 else 2
theorem runP_rest (names:List ByteArray):∀ (f n:Nat) (c:CrQ) (s:List UInt8),s.length < f -> runP names (partQ c) c n (linesL s) = restQ names f n c s
 | 0,_,_,_,h=>by omega
 | f + 1,n,c,s,h=>by
  have hp:partQ c ≠ 3 /\ partQ c ≠ 0:=by unfold partQ; split <;> decide
  rw [restQ]
  cases hc:cutL 10 s with
  | none=>rw [linesL_none hc,runP_one,if_neg fun e=>hp.1 e.2]
  | some p =>
   obtain ⟨t,r⟩:=p;obtain ⟨g,_⟩:=cutL_some 10 s t r hc;rw [linesL_some hc,runP_more];unfold linP;rw [if_neg hp.2,if_neg hp.1];dsimp only;by_cases he:t = wEnd
   ·
    rw [if_pos he,if_pos he];dsimp only
    cases hr:cutL 10 r with
    | none =>
     rw [linesL_none hr,runP_one];by_cases h0:r = []
     · rw [if_pos h0,if_pos ⟨h0,rfl⟩]
     · rw [if_neg h0,if_neg fun e=>h0 e.1]
    | some p =>
     obtain ⟨t',r'⟩:=p;have h0:r ≠ []:=fun e=>by rw [e] at hr; cases hr
     rw [linesL_some hr,runP_more,if_neg h0]
     rfl
   ·
    rw [if_neg he,if_neg he];rcases hl:lineQ names c t with ⟨_ | c',e⟩
    · rfl
    ·
     dsimp only;exact runP_rest names f (n + 1) c' r (by rw [g] at h; simp at h; omega)
theorem runP_read (names:List ByteArray) (s:List UInt8):runP names 0 noQ 1 (linesL s) = readQ names s:=by
 unfold readQ
 cases hc:cutL 10 s with
 | none=>rw [linesL_none hc,runP_one,if_neg fun e=>by cases e.2]
 | some p =>
  obtain ⟨t,r⟩:=p;rw [linesL_some hc,runP_more];unfold linP;rw [if_pos rfl];dsimp only
  cases hf:firstQ t with
  | none=>rfl
  | some c =>
   have h0:c.C = []:=by
    unfold firstQ at hf
    split at hf
    ·
     split at hf
     · obtain ⟨n,_,rfl⟩:=Option.map_eq_some_iff.1 hf; rfl
     · cases hf
    · cases hf
   have:=runP_rest names (r.length + 1) 2 c r (Nat.lt_succ_self _);unfold partQ at this;rw [if_pos h0] at this;exact this
theorem numC_one (s:List UInt8):numC 1 s = if numC 0 s = some 0 then none else numC 0 s:=by
 cases h:numC 0 s with
 | none =>
  rw [if_neg (by simp)]
  cases h1:numC 1 s with
  | none=>rfl
  | some n =>
   obtain ⟨a,b,c⟩:=numC_some h1;rw [<- c,numC_text (Nat.zero_le _) b] at h
   cases h
 | some n =>
  obtain ⟨_,b,c⟩:=numC_some h;by_cases h0:n = 0
  ·
   subst h0;rw [if_pos rfl]
   cases h1:numC 1 s with
   | none=>rfl
   | some m =>
    obtain ⟨a1,b1,c1⟩:=numC_some h1;have:=textN_inj (c1.trans c.symm)
    omega
  ·
   rw [if_neg (by simpa using h0),<- c];exact numC_text (by omega) b
theorem textN_dig (n:Nat):textN n ≠ [] /\ ∀ c ∈ textN n,digU c = true:=by
 unfold textN
 split
 · exact ⟨by simp,by intro c hc; simp at hc; subst hc; decide⟩
 · next h=>exact ⟨fun e=>by rw [digs_pos h] at e; simp at e,digs_all n⟩
theorem numC_atoi {s:List UInt8} {n:Nat} (h:numC 0 s = some n):Lib.atoiAll s = .ok n:=by
 obtain ⟨_,b,c⟩:=numC_some h;obtain ⟨h0,hd⟩:=textN_dig n;rw [c] at h0 hd;rcases atoi_num h0 hd with ⟨h1,h2⟩ | ⟨h1,h2⟩
 · rw [h1,<- c,decL_text]
 · rw [<- c,decL_text] at h2; omega
theorem numC_of {s:List UInt8} {v:Int} (h:Lib.atoiAll s = .ok v):numC 0 s = if 0 <= v /\ v <= 64 /\ textN v.toNat = s then some v.toNat else none:=by
 cases hn:numC 0 s with
 | none =>
  rw [if_neg];rintro ⟨h0,h1,h2⟩;rw [<- h2,numC_text (Nat.zero_le _) (by omega)] at hn
  cases hn
 | some n =>
  have h1:=numC_atoi hn;rw [h] at h1;injection h1 with h1
  subst h1;obtain ⟨_,b,c⟩:=numC_some hn;rw [if_pos ⟨by omega,by omega,by rw [Int.toNat_natCast]; exact c⟩,Int.toNat_natCast]
end Go.Proofs.YtkjnkpkagcboeaaGreatDoor
namespace Go.Proofs
open Go.Shelf
def Tryz.lays146_ren : Go.Shelf.Ren := ⟨fun | 146 => 41 | 221 => 88 | 268 => 131 | 138 => 132 | 143 => 133 | 195 => 167 | 197 => 168 | 218 => 169 | 219 => 170 | 260 => 192 | 217 => 193 | 225 => 194 | 224 => 195 | 267 => 196 | 266 => 218 | 314 => 219 | n => n, fun | 9 => 9 | 31 => 24 | 3 => 3 | 4 => 4 | 0 => 0 | 105 => 186 | 21 => 21 | 5 => 5 | 46 => 181 | 119 => 219 | 139 => 222 | 138 => 221 | 146 => 223 | 51 => 180 | n => n, fun | 1 => 0 | 3 => 2 | 4 => 3 | n => n⟩
theorem Tryz.lays146 : Go.Proofs.LaysM.n146 Tryz.prog Tryz.lays146_ren := {
  mixed := by kernel_rfl
  f138 := Tryz.func132.trans (congrArg some (by kernel_rfl))
  f143 := Tryz.func133.trans (congrArg some (by kernel_rfl))
  f146 := Tryz.func41.trans (congrArg some (by kernel_rfl))
  f195 := Tryz.func167.trans (congrArg some (by kernel_rfl))
  f197 := Tryz.func168.trans (congrArg some (by kernel_rfl))
  f217 := Tryz.func193.trans (congrArg some (by kernel_rfl))
  f218 := Tryz.func169.trans (congrArg some (by kernel_rfl))
  f219 := Tryz.func170.trans (congrArg some (by kernel_rfl))
  f221 := Tryz.func88.trans (congrArg some (by kernel_rfl))
  f224 := Tryz.func195.trans (congrArg some (by kernel_rfl))
  f225 := Tryz.func194.trans (congrArg some (by kernel_rfl))
  f260 := Tryz.func192.trans (congrArg some (by kernel_rfl))
  f266 := Tryz.func218.trans (congrArg some (by kernel_rfl))
  f267 := Tryz.func196.trans (congrArg some (by kernel_rfl))
  f268 := Tryz.func131.trans (congrArg some (by kernel_rfl))
  f314 := Tryz.func219.trans (congrArg some (by kernel_rfl))
  t0 := Tryz.underlying0
  a0 := Tryz.isAgg0
  z0 := Tryz.sizeOf0
  v0 := Tryz.zeroValue0
  t3 := Tryz.underlying3
  a3 := Tryz.isAgg3
  z3 := Tryz.sizeOf3
  v3 := Tryz.zeroValue3
  t4 := Tryz.underlying4
  a4 := Tryz.isAgg4
  z4 := Tryz.sizeOf4
  v4 := Tryz.zeroValue4
  t5 := Tryz.underlying5
  a5 := Tryz.isAgg5
  z5 := Tryz.sizeOf5
  v5 := Tryz.zeroValue5
  t9 := Tryz.underlying9
  a9 := Tryz.isAgg9
  z9 := Tryz.sizeOf9
  v9 := Tryz.zeroValue9
  t21 := Tryz.underlying21
  a21 := Tryz.isAgg21
  z21 := Tryz.sizeOf21
  v21 := Tryz.zeroValue21
  t31 := Tryz.underlying24
  a31 := Tryz.isAgg24
  z31 := Tryz.sizeOf24
  v31 := Tryz.zeroValue24
  t46 := Tryz.underlying181
  a46 := Tryz.isAgg181
  z46 := Tryz.sizeOf181
  v46 := Tryz.zeroValue181
  t51 := Tryz.underlying180
  a51 := Tryz.isAgg180
  z51 := Tryz.sizeOf180
  v51 := Tryz.zeroValue180
  t105 := Tryz.underlying186
  a105 := Tryz.isAgg186
  z105 := Tryz.sizeOf186
  v105 := Tryz.zeroValue186
  t119 := Tryz.underlying219
  a119 := Tryz.isAgg219
  z119 := Tryz.sizeOf219
  t138 := Tryz.underlying221
  a138 := Tryz.isAgg221
  z138 := Tryz.sizeOf221
  v138 := Tryz.zeroValue221
  t139 := Tryz.underlying222
  a139 := Tryz.isAgg222
  z139 := Tryz.sizeOf222
  v139 := Tryz.zeroValue222
  t146 := Tryz.underlying223
  a146 := Tryz.isAgg223
  z146 := Tryz.sizeOf223
  v146 := Tryz.zeroValue223
  g1 := by kernel_rfl
  g3 := by kernel_rfl
  g4 := by kernel_rfl
  i0 := by kernel_rfl
  i3 := by kernel_rfl
  i4 := by kernel_rfl
  i5 := by kernel_rfl
  i9 := by kernel_rfl
  i21 := by kernel_rfl
  i31 := by kernel_rfl
  i46 := by kernel_rfl
  i51 := by kernel_rfl
  i105 := by kernel_rfl
  i138 := by kernel_rfl
  i139 := by kernel_rfl
  i146 := by kernel_rfl
  m1 := by kernel_rfl
  s1_3 := fun w h => Go.Proofs.cell_of_shapedOpen_int (zero := #[.int .i64 0]) (t := 3) h (of_decide_eq_true (by kernel_rfl)) (by kernel_rfl) rfl (by kernel_rfl) (by kernel_rfl) Tryz.underlying3
  m3 := by kernel_rfl
  m4 := by kernel_rfl }
end Go.Proofs
namespace Go.Proofs.YtkjnkpkagcboeaaGreatDoor
open Go.RowKit
def MaxL (w:World):Prop:=∃ m,w.cell? ⟨Tryz.lays146_ren.g 1,0,none⟩ = some (.int .i64 m)
theorem MaxL.of {w:World} (h:w.ShapedOpen Tryz.prog):MaxL w:=Tryz.lays146.s1_3 w h
theorem MaxL.ext {w w':World} (h:MaxL w) (e:Ext w w'):MaxL w':=h.imp fun _ hm=>e _ _ hm
theorem split_any (s sep:ByteArray) (w:World) (h:MaxL w) (hs:s.size < 4294967281) (h1:1 <= sep.size) :
  Calls Tryz.prog 41 #[.string s,.string sep] w fun e w' =>
   e = .returned (.slice (some ⟨w.heap.size,0,none⟩) (Lib.countB s sep + 1) (Lib.countB s sep + 1)) /\ w' = w.alloc (.cells ((Lib.splitB sep 0 (Lib.countB s sep) s).map Value.string).toArray 9) :=
 let ⟨m,hm⟩:=h
 Any.strings_Split { Tryz.lays146 with } Tryz.lays146.i9 s sep m w hs hm h1
end Go.Proofs.YtkjnkpkagcboeaaGreatDoor
namespace Go.Proofs
open Go.Shelf
def Tryz.lays171_ren : Go.Shelf.Ren := ⟨fun | 171 => 49 | 243 => 95 | 246 => 137 | 283 => 178 | 284 => 179 | 285 => 180 | 286 => 181 | 129 => 210 | 317 => 209 | 318 => 211 | 319 => 212 | 320 => 213 | 337 => 227 | 338 => 228 | n => n, fun | 3 => 3 | 9 => 9 | 2 => 2 | 4 => 4 | 171 => 193 | 0 => 0 | 53 => 112 | 37 => 60 | 5 => 5 | 173 => 196 | 212 => 213 | 51 => 180 | 20 => 20 | 213 => 214 | 46 => 181 | 232 => 236 | 233 => 237 | n => n, fun | 17 => 1 | 18 => 6 | 19 => 7 | n => n⟩
theorem Tryz.lays171 : Go.Proofs.LaysM.n171 Tryz.prog Tryz.lays171_ren := {
  mixed := by kernel_rfl
  f129 := Tryz.func210.trans (congrArg some (by kernel_rfl))
  f171 := Tryz.func49.trans (congrArg some (by kernel_rfl))
  f243 := Tryz.func95.trans (congrArg some (by kernel_rfl))
  f246 := Tryz.func137.trans (congrArg some (by kernel_rfl))
  f283 := Tryz.func178.trans (congrArg some (by kernel_rfl))
  f284 := Tryz.func179.trans (congrArg some (by kernel_rfl))
  f285 := Tryz.func180.trans (congrArg some (by kernel_rfl))
  f286 := Tryz.func181.trans (congrArg some (by kernel_rfl))
  f317 := Tryz.func209.trans (congrArg some (by kernel_rfl))
  f318 := Tryz.func211.trans (congrArg some (by kernel_rfl))
  f319 := Tryz.func212.trans (congrArg some (by kernel_rfl))
  f320 := Tryz.func213.trans (congrArg some (by kernel_rfl))
  f337 := Tryz.func227.trans (congrArg some (by kernel_rfl))
  f338 := Tryz.func228.trans (congrArg some (by kernel_rfl))
  t0 := Tryz.underlying0
  a0 := Tryz.isAgg0
  z0 := Tryz.sizeOf0
  v0 := Tryz.zeroValue0
  t2 := Tryz.underlying2
  a2 := Tryz.isAgg2
  z2 := Tryz.sizeOf2
  v2 := Tryz.zeroValue2
  t3 := Tryz.underlying3
  a3 := Tryz.isAgg3
  z3 := Tryz.sizeOf3
  v3 := Tryz.zeroValue3
  t4 := Tryz.underlying4
  a4 := Tryz.isAgg4
  z4 := Tryz.sizeOf4
  v4 := Tryz.zeroValue4
  t5 := Tryz.underlying5
  a5 := Tryz.isAgg5
  z5 := Tryz.sizeOf5
  v5 := Tryz.zeroValue5
  t9 := Tryz.underlying9
  a9 := Tryz.isAgg9
  z9 := Tryz.sizeOf9
  v9 := Tryz.zeroValue9
  t20 := Tryz.underlying20
  a20 := Tryz.isAgg20
  z20 := Tryz.sizeOf20
  v20 := Tryz.zeroValue20
  t37 := Tryz.underlying60
  a37 := Tryz.isAgg60
  z37 := Tryz.sizeOf60
  v37 := Tryz.zeroValue60
  t46 := Tryz.underlying181
  a46 := Tryz.isAgg181
  z46 := Tryz.sizeOf181
  v46 := Tryz.zeroValue181
  t51 := Tryz.underlying180
  a51 := Tryz.isAgg180
  z51 := Tryz.sizeOf180
  v51 := Tryz.zeroValue180
  t53 := Tryz.underlying112
  a53 := Tryz.isAgg112
  z53 := Tryz.sizeOf112
  v53 := Tryz.zeroValue112
  t171 := Tryz.underlying193
  a171 := Tryz.isAgg193
  z171 := Tryz.sizeOf193
  v171 := Tryz.zeroValue193
  t173 := Tryz.underlying196
  a173 := Tryz.isAgg196
  z173 := Tryz.sizeOf196
  v173 := Tryz.zeroValue196
  t212 := Tryz.underlying213
  a212 := Tryz.isAgg213
  z212 := Tryz.sizeOf213
  v212 := Tryz.zeroValue213
  t213 := Tryz.underlying214
  a213 := Tryz.isAgg214
  z213 := Tryz.sizeOf214
  t232 := Tryz.underlying236
  a232 := Tryz.isAgg236
  z232 := Tryz.sizeOf236
  v232 := Tryz.zeroValue236
  t233 := Tryz.underlying237
  a233 := Tryz.isAgg237
  z233 := Tryz.sizeOf237
  v233 := Tryz.zeroValue237
  g17 := by kernel_rfl
  g18 := by kernel_rfl
  g19 := by kernel_rfl
  i0 := by kernel_rfl
  i2 := by kernel_rfl
  i3 := by kernel_rfl
  i4 := by kernel_rfl
  i5 := by kernel_rfl
  i9 := by kernel_rfl
  i20 := by kernel_rfl
  i37 := by kernel_rfl
  i46 := by kernel_rfl
  i51 := by kernel_rfl
  i53 := by kernel_rfl
  i171 := by kernel_rfl
  i173 := by kernel_rfl
  i212 := by kernel_rfl
  i232 := by kernel_rfl
  i233 := by kernel_rfl
  m17 := by kernel_rfl
  m18 := by kernel_rfl
  m19 := by kernel_rfl }
end Go.Proofs
namespace Go.Proofs.YtkjnkpkagcboeaaGreatDoor
open Go.RowKit
def TabW (w : World) : Prop := Lib.TabIs Tryz.prog w "internal/strconv.uint64pow10" .u64 Lib.pow10Tab
theorem TabW.below {w w':World} (h:TabW w) (hb:Below w.heap.size w w'):TabW w':=Lib.tabBelow_of_tabIs h w' hb
theorem dec_text (n:Nat):Lib.decDigits n = textN n:=by
 induction n using Nat.strongRecOn with
 | _ n ih =>
  rw [Lib.decDigits]
  split
  · next h=>rw [textN_small (by omega)]
  ·
   next h =>
   rw [ih (n / 10) (by omega)];unfold textN;rw [if_neg (by omega),if_neg (by omega),digs_pos (show n ≠ 0 by omega)]
   first | done | rfl
theorem itoaN_any (n:Nat) (w:World) (ht:TabW w) (hn:n <= 9223372036854775807) :
  Calls Tryz.prog 49 #[.int .i64 n] w fun e w'=>e = .returned (.string (ofL (textN n))) /\ Below w.heap.size w w':=by
 refine (Any.strconv_Itoa Tryz.lays171 n (by omega) (by omega) w ht).mono ?_;rintro e w' ⟨rfl,k,os,rfl⟩;refine ⟨ret_str ?_,Lib.below_grow _ _ (nlr _) _ _⟩;unfold Lib.itoa;rw [if_neg (by omega),Int.toNat_natCast,dec_text]
 first | done | rfl
end Go.Proofs.YtkjnkpkagcboeaaGreatDoor
namespace Go.Proofs
open Go.Shelf
def Tryz.lays145_ren : Go.Shelf.Ren := ⟨fun | 145 => 89 | 220 => 134 | 219 => 170 | 217 => 193 | 225 => 194 | 224 => 195 | 267 => 196 | 266 => 218 | 314 => 219 | n => n, fun | 9 => 9 | 4 => 4 | 59 => 90 | 3 => 3 | 5 => 5 | 46 => 181 | 146 => 223 | 51 => 180 | n => n, fun | 1 => 0 | n => n⟩
theorem Tryz.lays145 : Go.Proofs.LaysM.n145 Tryz.prog Tryz.lays145_ren := {
  mixed := by kernel_rfl
  f145 := Tryz.func89.trans (congrArg some (by kernel_rfl))
  f217 := Tryz.func193.trans (congrArg some (by kernel_rfl))
  f219 := Tryz.func170.trans (congrArg some (by kernel_rfl))
  f220 := Tryz.func134.trans (congrArg some (by kernel_rfl))
  f224 := Tryz.func195.trans (congrArg some (by kernel_rfl))
  f225 := Tryz.func194.trans (congrArg some (by kernel_rfl))
  f266 := Tryz.func218.trans (congrArg some (by kernel_rfl))
  f267 := Tryz.func196.trans (congrArg some (by kernel_rfl))
  f314 := Tryz.func219.trans (congrArg some (by kernel_rfl))
  t3 := Tryz.underlying3
  a3 := Tryz.isAgg3
  z3 := Tryz.sizeOf3
  v3 := Tryz.zeroValue3
  t4 := Tryz.underlying4
  a4 := Tryz.isAgg4
  z4 := Tryz.sizeOf4
  v4 := Tryz.zeroValue4
  t5 := Tryz.underlying5
  a5 := Tryz.isAgg5
  z5 := Tryz.sizeOf5
  v5 := Tryz.zeroValue5
  t9 := Tryz.underlying9
  a9 := Tryz.isAgg9
  z9 := Tryz.sizeOf9
  v9 := Tryz.zeroValue9
  t46 := Tryz.underlying181
  a46 := Tryz.isAgg181
  z46 := Tryz.sizeOf181
  v46 := Tryz.zeroValue181
  t51 := Tryz.underlying180
  a51 := Tryz.isAgg180
  z51 := Tryz.sizeOf180
  v51 := Tryz.zeroValue180
  t59 := Tryz.underlying90
  a59 := Tryz.isAgg90
  z59 := Tryz.sizeOf90
  v59 := Tryz.zeroValue90
  t146 := Tryz.underlying223
  a146 := Tryz.isAgg223
  z146 := Tryz.sizeOf223
  v146 := Tryz.zeroValue223
  g1 := by kernel_rfl
  i3 := by kernel_rfl
  i4 := by kernel_rfl
  i5 := by kernel_rfl
  i9 := by kernel_rfl
  i46 := by kernel_rfl
  i51 := by kernel_rfl
  i59 := by kernel_rfl
  i146 := by kernel_rfl
  m1 := by kernel_rfl
  s1_3 := fun w h => Go.Proofs.cell_of_shapedOpen_int (zero := #[.int .i64 0]) (t := 3) h (of_decide_eq_true (by kernel_rfl)) (by kernel_rfl) rfl (by kernel_rfl) (by kernel_rfl) Tryz.underlying3 }
end Go.Proofs
namespace Go.Proofs.YtkjnkpkagcboeaaGreatDoor
open Go.RowKit
def cutC (l:List UInt8):List UInt8 × List UInt8 × Bool:=match cutL 32 l with
 | none=>(l,[],false)
 | some (t,r)=>(t,r,true)
theorem cut_any (s:ByteArray) (w:World) (h:MaxL w) (hs:s.size < 4294967281) :
  Calls Tryz.prog 89 #[.string s,.string ⟨#[32]⟩] w fun e w'=>e = .returned (.tuple #[.string (ofL (cutC s.data.toList).1),.string (ofL (cutC s.data.toList).2.1),.bool (cutC s.data.toList).2.2]) /\ Below w.heap.size w w':=by
 obtain ⟨m,hm⟩:=h;refine (Any.strings_Cut { Tryz.lays145 with } s ⟨#[32]⟩ m w hs hm).mono ?_;rintro e w' ⟨rfl,n,rfl⟩;have e1:Lib.cut s.data.toList (⟨#[32]⟩:ByteArray).data.toList = cutC s.data.toList:=cut_cutL 32 _;rw [e1];exact ⟨rfl,⟨rfl,rfl,rfl,nlr _,fun _ _=>rfl⟩⟩
def ErrS (w:World):Prop:=∃ te pe,w.cell? ⟨Tryz.lays172_ren.g 15,0,none⟩ = some (.iface te pe)
theorem ErrS.below {w w':World} (h:ErrS w) (hb:Below w.heap.size w w'):ErrS w':=by obtain ⟨te,pe,h⟩:=h; exact ⟨te,pe,held h w' hb⟩
theorem atoi_ok (s:ByteArray) (v:Int) (w:World) (hs:s.size <= 281474976710656) (h:Lib.atoiAll s.data.toList = .ok v) :
  Calls Tryz.prog 135 #[.string s] w fun e w'=>e = .returned (.tuple #[.int .i64 v,.nilIface]) /\ Below w.heap.size w w':=by
 refine (Any.strconv_Atoi_ok Tryz.lays172 s (by omega) v h w).mono ?_;rintro e w' ⟨rfl,hw⟩;refine ⟨rfl,?_⟩;rcases hw with rfl | ⟨t,rfl⟩
 · exact Below.refl _ _
 · exact Lib.bytesWorld_below _ _ _
theorem atoi_no (s:ByteArray) (w:World) (hs:s.size <= 281474976710656) (h:∀ v,Lib.atoiAll s.data.toList ≠ .ok v) (he:ErrW w) (hy:ErrS w) :
  Calls Tryz.prog 135 #[.string s] w fun e w'=>∃ (x:Int) (t:TypeId) (q:Value),e = .returned (.tuple #[.int .i64 x,.iface t q]) /\ Below w.heap.size w w':=by
 cases ha:Lib.atoiAll s.data.toList with
 | ok v=>exact absurd ha (h v)
 | range =>
  obtain ⟨te,pe,he⟩:=he;refine (Any.strconv_Atoi_range Tryz.lays172 s (by omega) ha _ w he (.inr ⟨te,pe,rfl⟩)).mono ?_;rintro e w' ⟨N,rfl,_,_,hb⟩;exact ⟨_,_,_,rfl,hb⟩
 | _ =>
  obtain ⟨te,pe,hy⟩:=hy;refine (Any.strconv_Atoi_syntax Tryz.lays172 s (by omega) ha _ w hy (.inr ⟨te,pe,rfl⟩)).mono ?_;rintro e w' ⟨N,rfl,_,_,hb⟩;exact ⟨_,_,_,rfl,hb⟩
def RetNum (N:Option Nat) (w:World) (e:Ending) (w':World):Prop:=∃ (n:Int) (b:Bool),e = .returned (.tuple #[.int .i64 n,.bool b]) /\ Below w.heap.size w w' /\ (∀ k,N = some k -> n = k /\ b = true) /\ (N = none -> b = false)
theorem number_any (s:ByteArray) (w:World) (hs:s.size <= 281474976710656) (he:ErrW w) (hy:ErrS w) (ht:TabW w) :
  Calls Tryz.prog 90 #[.string s] w (RetNum (numC 0 s.data.toList) w):=by
 have HT:=Hd (fun W (hW:Below w.heap.size w W)=>ht.below hW);obtain ⟨N,hN⟩:∃ N,numC 0 s.data.toList = N:=⟨_,rfl⟩
 rw [hN];by_cases hok:∃ v,Lib.atoiAll s.data.toList = .ok v
 ·
  obtain ⟨v,hv⟩:=hok;have CA:=Hd (atoi_ok s v w hs hv);have hf:=numC_of hv;rw [hN] at hf;clear hN hv he hy ht;by_cases h0:0 <= v
  ·
   obtain ⟨n,rfl⟩:∃ n:Nat,v = (n:Int):=⟨v.toNat,by omega⟩
   rw [Int.toNat_natCast] at hf;by_cases h64:n <= 64
   ·
    have CI:=Hd (fun W (hW:Below w.heap.size w W)=>itoaN_any n W (HT.out W hW) (by omega));obtain ⟨b,hb⟩:∃ b,((ofL (textN n)).toList == s.toList) = b:=⟨_,rfl⟩
    have hbb:(textN n = s.data.toList) ↔ b = true:=by
     rw [<- hb,str_beq,decide_eq_true_iff];exact ⟨fun e=>by rw [e,ofL_data],fun e=>by rw [<- e,data_ofL]⟩
    have hN2:=Hd (show (∀ k,N = some k -> (n:Int) = k /\ b = true) /\ (N = none -> b = false) from by
     by_cases hq:textN n = s.data.toList
     ·
      rw [if_pos ⟨h0,by omega,hq⟩] at hf;subst hf;exact ⟨fun k hk=>⟨by injection hk with hk; rw [hk],hbb.1 hq⟩,fun h=>by cases h⟩
     ·
      rw [if_neg fun h=>hq h.2.2] at hf;subst hf;exact ⟨fun k hk=>(by cases hk),fun _=>(by
       cases b
       · rfl
       · exact absurd (hbb.2 rfl) hq)⟩)
    clear hf hbb;go_enter Tryz.func90,Tryz.ntmps90;go_wp2_with fail;refine CA.out.mono ?_;rintro e w1 ⟨rfl,hb1⟩;go_wp2_with fail;refine (CI.out w1 hb1).mono ?_;rintro e w2 ⟨rfl,hb2⟩;go_wp2;go_ret2;exact ⟨n,b,rfl,bth hb1 hb2,hN2.out⟩
   ·
    rw [if_neg (by omega)] at hf;subst hf;have d1:decide ((n:Int) <= 64) = false:=by rw [decide_eq_false_iff_not]; omega
    have d2:decide (n <= 64) = false:=by rw [decide_eq_false_iff_not]; exact h64
    clear h64;go_enter Tryz.func90,Tryz.ntmps90;go_wp2_with fail;refine CA.out.mono ?_;rintro e w1 ⟨rfl,hb1⟩;go_wp2;go_ret2;exact ⟨n,false,rfl,hb1,(fun k hk=>by cases hk),fun _=>rfl⟩
  ·
   rw [if_neg fun h=>h0 h.1] at hf;subst hf;have d1:decide (0 <= v) = false:=by rw [decide_eq_false_iff_not]; exact h0
   go_enter Tryz.func90,Tryz.ntmps90;go_wp2_with fail;refine CA.out.mono ?_;rintro e w1 ⟨rfl,hb1⟩;go_wp2;go_ret2;exact ⟨v,false,rfl,hb1,(fun k hk=>by cases hk),fun _=>rfl⟩
 ·
  have hno:∀ v,Lib.atoiAll s.data.toList ≠ .ok v:=fun v h=>hok ⟨v,h⟩
  have CA:=Hd (atoi_no s w hs hno he hy);have hN0:N = none:=by
   cases N with
   | none=>rfl
   | some k=>exact absurd (numC_atoi hN) (hno _)
  subst hN0;clear hok hno hN he hy ht;go_enter Tryz.func90,Tryz.ntmps90;go_wp2_with fail;refine CA.out.mono ?_;rintro e w1 ⟨x,t,q,rfl,hb1⟩;go_wp2;go_ret2;exact ⟨x,false,rfl,hb1,(fun k hk=>by cases hk),fun _=>rfl⟩
end Go.Proofs.YtkjnkpkagcboeaaGreatDoor
