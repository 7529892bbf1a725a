/- Walks: the program's natural numbers: Of, Uint. -/
import Derived.WalkKit
import Derived.WalkSpells
import Derived.WalkLawsBesides
import Derived.ProofKit
import Derived.LoopTactic
import Derived.Handy
import Derived.Lib.Hide
import Derived.OwnWalk
import Derived.Maps.AppendAt
import Derived.Deep.AppendLies
import Derived.Deep.DeepCutAuto
import Derived.Test.YtfaalkneigpcnaaGreatDoorProg
import Derived.Deep.QuietTactic
import Derived.BigQuiet
import Derived.Deep.OwnRows
import Derived.Laws.CopyOwn
import Derived.Maps.Range
import Derived.Laws.BitsAllLaws
import Derived.Deep.LoopGhost
set_option linter.all false
set_option maxRecDepth 100000
set_option maxHeartbeats 4000000
namespace Go.Proofs.YtfaalkneigpcnaaGreatDoor
open Go.RowKit
theorem Hd {p:Prop} (h:p):Hid p:=h
theorem qcc {k:IntKind} {a b:Int} (h:a=b):Ending.returned (.int k a)=.returned (.int k b):=by rw [h]
theorem qbf {a b:Bool} (h:a=b):Ending.returned (.bool a)=.returned (.bool b):=by rw [h]
theorem qdz {a b:ByteArray} (h:a=b):Ending.returned (.string a)=.returned (.string b):=by rw [h]
theorem qd2 {k:IntKind} {a b:Int} (h:a=b):Value.int k a=.int k b:=by rw [h]
theorem qbh {α:Type} {xs:List α} {k:Nat} {x:α} (h:xs[k]? = some x):xs.take (k+1)=xs.take k++[x]:=by rw [List.take_add_one,h];rfl
theorem qew {α:Type} {xs:List α} {k:Nat} (h:¬ k<xs.length):xs.take k=xs:=List.take_of_length_le (by omega)
theorem qaw {α:Type} {xs:List α} {k:Nat} {x:α} (h:xs[k]? = some x):k<xs.length:=(List.getElem?_eq_some_iff.1 h).1
theorem qac {α:Type} {xs:List α} {k:Nat} (h:k<xs.length):∃ x,xs[k]? = some x:=⟨_,List.getElem?_eq_getElem h⟩
theorem qnb (b:ByteArray):∀ (n i:Nat) (r:List UInt8),b.size-i=n->ByteArray.toList.loop b i r=r.reverse++b.data.toList.drop i:=by
 intro n
 induction n with
 | zero =>
  intro i r h;unfold ByteArray.toList.loop;rw [if_neg (by omega)]
  have : b.data.toList.length ≤ i := by have : b.data.toList.length = b.size := by rw [Array.length_toList]; rfl
                                        omega
  rw [List.drop_eq_nil_of_le this,List.append_nil]
 | succ n ih =>
  intro i r h;unfold ByteArray.toList.loop;rw [if_pos (by omega)]
  have hl : i < b.data.toList.length := by have : b.data.toList.length = b.size := by rw [Array.length_toList]; rfl
                                           omega
  rw [ih (i+1) _ (by omega),List.drop_eq_getElem_cons hl];have:b.get! i=b.data.toList[i]:=by
   have hs:i<b.data.size:=by simpa using hl
   simp [ByteArray.get!,getElem!_pos b.data i hs]
  simp [this]
theorem qfe (b:ByteArray):b.toList=b.data.toList:=by
 have h:=qnb b _ 0 [] rfl;simpa [ByteArray.toList] using h
theorem qrr {a b:ByteArray}:a.toList=b.toList↔a=b:=by
 rw [qfe,qfe]
 constructor
 ·
  intro h
  cases a;cases b
  simp at h;rw [h]
 · intro h;rw [h]
theorem qdv (a b:ByteArray):(a.toList==b.toList)=decide (a=b):=by
 rw [Bool.eq_iff_iff];simp [qrr]
theorem qq6 {a:ByteArray}:a.toList=[]↔a=⟨#[]⟩:=by
 rw [<- qrr (a:=a)];rw [qfe ⟨#[]⟩]
theorem qb5 (a:ByteArray):a.toList.isEmpty=decide (a=⟨#[]⟩):=by
 rw [Bool.eq_iff_iff];simp [qq6]
def Ext (w w':World):Prop:=∀ (a:Addr) (v:Value),w.cell? a=some v->w'.cell? a=some v
theorem Ext.refl (w:World):Ext w w:=fun _ _ h=>h
theorem Ext.alloc {w w':World} (h:Ext w w') (o:Obj):Ext w (w'.alloc o):=fun p v e=>by
 have e':=h p v e;rw [World.cell?_alloc_lt w' o p (World.block_lt_of_cell? w' p e')];exact e'
theorem Ext.below {w w':World} (h:Below w.heap.size w w'):Ext w w':=fun p v e=>by
 rw [h.cell (World.block_lt_of_cell? w p e)];exact e
theorem qw7 {w w1 w2:World} (h:Below w.heap.size w w1) (k:Below w1.heap.size w1 w2):Below w.heap.size w w2:=h.trans (k.mono h.size)
theorem bth {w w1 w2:World} (h:Below w.heap.size w w1) (k:Below w1.heap.size w1 w2):Below w.heap.size w w2:=h.trans (k.mono h.size)
theorem xbw {w w':World} (h:Below w.heap.size w w'):Ext w w':=fun p v e=>by rw [h.cell (World.block_lt_of_cell? w p e)];exact e
theorem brf {B:Nat} {w:World}:Below B w w:=Below.refl _ _
theorem ltl {a b c:Nat} (h:a<b) (k:b<=c):a<c:=by omega
theorem nlr (n:Nat):n<=n:=by omega
theorem qco (w:World) (o:Obj):Ext w (w.alloc o):=(Ext.refl w).alloc o
theorem held {w:World} {a:Addr} {v:Value} (h:w.cell? a=some v):∀ w',Below w.heap.size w w'->w'.cell? a=some v:=fun _ k=>xbw k _ _ h
def SlR {α:Type} (sz:Nat) (E:World->Nat->Nat->α->Prop) (w:World) (a:Option Addr) (cap:Nat) (xs:List α):Prop :=
 xs.length<=cap/\cap<=maxLen/\∀ (k:Nat) (x:α),xs[k]? = some x->∃ b off,a=some ⟨b,off,none⟩/\E w b (off+k*sz) x
section
variable {α : Type} {sz : Nat} {E E' : World -> Nat -> Nat -> α -> Prop} {w w' : World} {a : Option Addr} {cap : Nat} {xs : List α}
theorem SlR.nil:SlR sz E w none 0 []:=⟨nlr _,by simp [maxLen],fun k x h=>by simp at h⟩
theorem SlR.mono (h:SlR sz E w a cap xs) (hE:∀ b o x,x∈xs->E w b o x->E' w' b o x):SlR sz E' w' a cap xs:=by
 obtain ⟨h1,h2,h3⟩:=h;refine ⟨h1,h2,fun k x hx=>?_⟩;obtain ⟨b,off,ha,he⟩:=h3 k x hx;exact ⟨b,off,ha,hE _ _ _ (List.mem_of_getElem? hx) he⟩
theorem SlR.len (h:SlR sz E w a cap xs):xs.length<=9223372036854775807:=by have h1:=h.1;have h2:=h.2.1;unfold maxLen at h2;omega
end
def IntE (k:IntKind) (w:World) (b o:Nat) (x:Int):Prop:=w.cell? ⟨b,o,none⟩=some (.int k x)/\(Lit.int k x).wf=true
def BoolE (w:World) (b o:Nat) (x:Bool):Prop:=w.cell? ⟨b,o,none⟩=some (.bool x)
theorem IntE.ext {k:IntKind} {w w':World} {b o:Nat} {x:Int} (h:IntE k w b o x) (e:Ext w w'):IntE k w' b o x:=⟨e _ _ h.1,h.2⟩
def IntsR (w:World) (a:Option Addr) (cap:Nat) (xs:List Int):Prop:=SlR 1 (IntE .i64) w a cap xs
def NatR (w:World) (a:Option Addr) (cap:Nat) (xs:List Int):Prop:=SlR 1 (IntE .u16) w a cap xs
section
variable {w w' : World} {a : Option Addr} {cap : Nat}
theorem IntsR.ext {xs:List Int} (h:IntsR w a cap xs) (e:Ext w w'):IntsR w' a cap xs:=SlR.mono h fun _ _ _ _ h=>h.ext e
theorem NatR.ext {xs:List Int} (h:NatR w a cap xs) (e:Ext w w'):NatR w' a cap xs:=SlR.mono h fun _ _ _ _ h=>h.ext e
end
def InInt (x:Int):Prop:=-9223372036854775808<=x/\x<=9223372036854775807
theorem qd1 {x:Int} (h:(Lit.int .i64 x).wf=true):InInt x:=by
 simpa [Lit.wf,IntKind.min,IntKind.max,IntKind.signed,IntKind.bits,InInt] using h
theorem wf_of {x:Int} (h:InInt x):(Lit.int .i64 x).wf=true:=by
 simpa [Lit.wf,IntKind.min,IntKind.max,IntKind.signed,IntKind.bits,InInt] using h
theorem qwu {x:Int} (h:(Lit.int .u16 x).wf=true):0<=x/\x<=65535:=by
 simpa [Lit.wf,IntKind.min,IntKind.max,IntKind.signed,IntKind.bits] using h
theorem qgx {x:Int} (h:0<=x/\x<=65535):(Lit.int .u16 x).wf=true:=by
 simpa [Lit.wf,IntKind.min,IntKind.max,IntKind.signed,IntKind.bits] using h
theorem qf3 {α:Type} {f:α->List Value} {sz:Nat} (hf:∀ x,(f x).length=sz):∀ (l:List α) (k:Nat) (x:α) (j:Nat),l[k]? = some x->j<sz->(l.flatMap f)[k*sz+j]? = (f x)[j]?
 | [],k,x,j,h,_=>by simp at h
 | y :: l,0,x,j,h,hj=>by
  simp at h;subst h;simp only [List.flatMap_cons,Nat.zero_mul,Nat.zero_add];rw [List.getElem?_append_left (by rw [hf];exact hj)]
 | y :: l,k+1,x,j,h,hj=>by
  simp only [List.flatMap_cons];rw [List.getElem?_append_right (by rw [hf,Nat.add_mul];omega)];have:=qf3 hf l k x j (by simpa using h) hj;rw [<- this,hf,Nat.add_mul];congr 1;omega
theorem qd6 {α:Type} {f:α->List Value} {sz:Nat} (hf:∀ x,(f x).length=sz) (l:List α):(l.flatMap f).length=l.length*sz:=by
 induction l with
 | nil=>simp
 | cons x l ih=>simp only [List.flatMap_cons,List.length_append,List.length_cons,ih,hf,Nat.add_mul];omega
def Own {α:Type} (f:α->List Value) (sz:Nat) (t:TypeId) (B:Nat) (w:World) (a:Option Addr) (c:Nat) (l:List α):Prop :=
 w.ownsRow B t sz (.slice a l.length c) l.length (l.flatMap f)
section
variable {α : Type} {f : α -> List Value} {sz : Nat} {t : TypeId} {B : Nat} {w w' : World} {a : Option Addr} {c : Nat} {l : List α}
theorem Own.nil:Own f sz t B w none 0 ([]:List α):=World.ownsRow_nil w B t sz
theorem Own.alloc (h:Own f sz t B w a c l) (o:Obj):Own f sz t B (w.alloc o) a c l:=World.ownsRow.alloc h o
theorem Own.grown (h:Own f sz t B w a c l) {row:Option Nat} (hg:w.grownBy w' row) (hne:∀ g,a=some g->row≠some g.block):Own f sz t B w' a c l:=by
 refine World.ownsRow.kept h hg ?_
 cases a with
 | none=>exact .inl rfl
 | some g=>exact .inr (fun e=>hne g rfl (by rw [<- e];rfl))
theorem Own.lt (h:Own f sz t B w a c l) {g:Addr} (e:a=some g):B<=g.block/\g.block<w.heap.size:=World.ownsRow.lt h g.block (by subst e;rfl)
theorem Own.below (h:Own f sz t B w a c l) (hb:Below w.heap.size w w'):Own f sz t B w' a c l:=by
 refine ⟨h.1,?_⟩;rcases h.2 with hn | ⟨g,cap,cur,e,hg,hh,rest⟩
 · exact .inl hn
 · exact .inr ⟨g,cap,cur,e,hg,(hb.block g (Array.getElem?_eq_some_iff.1 hh).1).trans hh,rest⟩
theorem Own.base {B':Nat} (h:Own f sz t B w a c l) (hB:B'<=B):Own f sz t B' w a c l:=by
 refine ⟨h.1,?_⟩;rcases h.2 with hn | ⟨g,cap,cur,e,hg,rest⟩
 · exact .inl hn
 · exact .inr ⟨g,cap,cur,e,by omega,rest⟩
theorem Own.cap (h:Own f sz t B w a c l):l.length<=c/\c<=maxLen:=by
 rcases h.2 with ⟨e,hn⟩ | ⟨g,cap,cur,e,_,_,h1,h2,_⟩
 ·
  injection e with _ _ e3
  rw [hn,e3];exact ⟨nlr _,by simp [maxLen]⟩
 ·
  injection e with _ _ e3
  subst e3;exact ⟨h1,h2⟩
theorem Own.at_ (hf:∀ x,(f x).length=sz) (h:Own f sz t B w a c l) {k:Nat} {x:α} (hx:l[k]? = some x) :
  ∃ g,a=some ⟨g,0,none⟩/\B<=g/\g<w.heap.size/\∀ j u,(f x)[j]? = some u->w.cell? ⟨g,k*sz+j,none⟩=some u:=by
 have hk:=qaw hx;obtain ⟨g,cap,hv,hb,hlt⟩:=h.form (by omega);injection hv with h1 h2
 refine ⟨g,h1,hb,hlt,fun j u hu=>?_⟩;have hj:j<sz:=by rw [<- hf x];exact qaw hu
 have:=World.ownsRow.cells h (g:=g) (by rw [h1];rfl) (k*sz+j) u (by rw [qf3 hf l k x j hx hj];exact hu)
 rwa [Addr.add_lit,Nat.zero_add] at this
theorem Own.reads {E:World->Nat->Nat->α->Prop} (hf:∀ x,(f x).length=sz) (h:Own f sz t B w a c l)
  (hE:∀ g o x,x∈l->(∀ j u,(f x)[j]? = some u->w.cell? ⟨g,o+j,none⟩=some u)->E w g o x):SlR sz E w a c l:=by
 refine ⟨h.cap.1,h.cap.2,fun k x hx=>?_⟩;obtain ⟨g,ha,_,_,hc⟩:=h.at_ hf hx;exact ⟨g,0,ha,hE _ _ _ (List.mem_of_getElem? hx) (by simpa using hc)⟩
end
def Blk (w:World) (g:Nat) (t:TypeId) (cs:Array Value):Prop:=w.heap[g]? = some (.cells cs t (0,0))
section
variable {w w' : World} {g : Nat} {t : TypeId} {cs : Array Value}
theorem Blk.lt (h:Blk w g t cs):g<w.heap.size:=(Array.getElem?_eq_some_iff.1 h).1
theorem Blk.cell (h:Blk w g t cs) (i:Nat):w.cell? ⟨g,i,none⟩=cs[i]?:=cell_of_row w g i cs t (0,0) h
theorem Blk.frozen (h:Blk w g t cs) (i:Nat):w.frozen? ⟨g,i,none⟩=false:=by
 unfold Blk at h;simp [World.frozen?,h]
theorem Blk.new (w:World) (t:TypeId) (cs:Array Value):Blk (w.alloc (.cells cs t)) w.heap.size t cs:=heap_alloc_new w _
theorem Blk.drew (h:Blk w g t cs):Blk w.drew g t cs:=h
theorem Blk.alloc (h:Blk w g t cs) (o:Obj):Blk (w.alloc o) g t cs:=(Below.heap_alloc w o g h.lt).trans h
theorem Blk.set_ (h:Blk w g t cs) (i:Nat) (u:Value):Blk (w.setCell ⟨g,i,none⟩ u) g t (cs.setIfInBounds i u):=by
 unfold Blk at h ⊢;simp [World.setCell,Array.getElem?_modify,h]
theorem Blk.far (h:Blk w g t cs) {p:Addr} (hp:g≠p.block) (u:Value):Blk (w.setCell p u) g t cs:=(Below.heap_setCell w p u g hp).trans h
theorem Blk.below {B:Nat} (h:Blk w g t cs) (hb:Below B w w') (hg:g<B):Blk w' g t cs:=(hb.block g hg).trans h
theorem Blk.below' (h:Blk w g t cs) (hb:Below w.heap.size w w'):Blk w' g t cs:=h.below hb h.lt
theorem Blk.grown {row:Option Nat} (h:Blk w g t cs) (hb:w.grownBy w' row) (hg:some g≠row):Blk w' g t cs:=(hb.block g h.lt hg).trans h
theorem Blk.under {α:Type} {f:α->List Value} {sz:Nat} {te:TypeId} {B:Nat} {w0:World} {a:Option Addr} {c:Nat} {l:List α} (h:Blk w g t cs) (ho:Own f sz te B w0 a c l) (hg:g<B)
  (hb:w.grownBy w' (Value.ownBlock (.slice a l.length c))):Blk w' g t cs:=h.grown hb (fun e=>by
 cases a with
 | none=>simp [Value.ownBlock] at e
 | some p=>simp [Value.ownBlock] at e;have:=(ho.lt rfl).1;omega)
end
section
variable {α : Type} {f : α -> List Value} {sz : Nat} {t : TypeId} {B : Nat} {w : World} {l : List α} {P : Program}
theorem qd4 {o:Oper} {act:Act} {K:Act->World->Prop} {Q:Exit->Act->World->Prop} (s y:Operand) (ts:TypeId)
  (ho:o.op=.call { callee:=.builtin .append,args:=#[s,y],argTypes:=#[ts,ts] })
  {z:Value} {bytes:Nat} (ht:P.underlying ts=some (.slice t)) (hi:(P.info? t).map (fun i=>(i.zero,i.size,i.bytes))=some (some z,sz,bytes)) (hz:z.cells.size=sz) (hsz:0<sz) (hby:bytes<=1024)
  (hf:∀ x,(f x).length=sz) (a:Option Addr) (c:Nat) (hs:act.eval s=.slice a l.length c) (hown:Own f sz t B w a c l)
  (x:α) (hone:∀ u∈f x,u.oneCell'=true) (b c1:Nat) (hy:act.eval y=.slice (some ⟨b,0,none⟩) 1 c1) (hcell:∀ j u,(f x)[j]? = some u->w.cell? ⟨b,j,none⟩=some u)
  (l2:List α) (hl2:l2=l++[x]) (hlen:l2.length<=16777216) (hB:B<=w.heap.size)
  (h:∀ a' c' w',Own f sz t B w' a' c' l2->w.grownBy w' (Value.ownBlock (.slice a l.length c))->((∃ g,a'=some ⟨g,0,none⟩/\(a=some ⟨g,0,none⟩\/g=w.heap.size))) ->
   K (act.put o.dst (.slice a' l2.length c')) w'):o.wp P act w K Q:=by
 subst hl2;obtain ⟨i,hi0,hz0,hz1,hz2⟩:=info_parts hi;simp only [List.length_append,List.length_cons,List.length_nil,Nat.zero_add] at hlen;obtain ⟨v',w',hr,h2,h3,_,h5⟩:=run_append_own_at (P:=P) w B ts o.type t i z sz bytes ht hi0 hz0 hz1 hz2 hz hsz (.slice a l.length c) l.length (l.flatMap f) hown ⟨b,0,none⟩ 1 c1 (f x) (by rw [hf];omega)
  (fun j u hu=>by rw [Addr.add_lit,Nat.zero_add];exact hcell j u hu) hone (by unfold maxLen;omega)
  (by have : (l.length + 1) * bytes <= 16777216 * 1024 := Nat.mul_le_mul hlen hby
      omega) hB
 unfold Oper.wp execOp;simp only [ho,resolve,invoke,builtin,Sem.run_bind,Sem.run_pure,Result.andThen_ok,List.map_toArray,List.map_cons,List.map_nil,hs,hy,hr];have hf2:(l++[x]).flatMap f=l.flatMap f++f x:=by simp
 have hn:(l++[x]).length=l.length+1:=by simp
 obtain ⟨g,cap,hv,hb,hlt⟩:=h2.form (by omega);subst hv;rw [<- hn];refine h _ _ w' (by unfold Own;rw [hf2,hn];exact h2) h3 ⟨g,rfl,?_⟩;rcases h5 with h5 | h5
 ·
  left
  cases a with
  | none=>simp [Value.ownBlock] at h5
  | some g' =>
   have hg':g=g'.block:=by simpa [Value.ownBlock] using h5
   rcases hown.2 with ⟨e,_⟩ | ⟨g2,_,_,e,_⟩
   · cases e
   ·
    injection e with e1
    injection e1 with e1
    subst e1;simp at hg';rw [hg']
 ·
  right;simpa [Value.ownBlock] using h5
theorem qa7 {ops:Array Oper} {rest:List Oper} {o:Oper} {act:Act} {Q:Exit->Act->World->Prop} (hgd:o.guard=none) (s y:Operand) (ts:TypeId)
  (ho:o.op=.call { callee:=.builtin .append,args:=#[s,y],argTypes:=#[ts,ts] })
  {z:Value} {bytes:Nat} (ht:P.underlying ts=some (.slice t)) (hi:(P.info? t).map (fun i=>(i.zero,i.size,i.bytes))=some (some z,sz,bytes)) (hz:z.cells.size=sz) (hsz:0<sz) (hby:bytes<=1024)
  (hf:∀ x,(f x).length=sz) (a:Option Addr) (c:Nat) (hs:act.eval s=.slice a l.length c) (hown:Own f sz t B w a c l)
  (x:α) (hone:∀ u∈f x,u.oneCell'=true) (b c1:Nat) (hy:act.eval y=.slice (some ⟨b,0,none⟩) 1 c1) (hcell:∀ j u,(f x)[j]? = some u->w.cell? ⟨b,j,none⟩=some u)
  (l2:List α) (hl2:l2=l++[x]) (hlen:l2.length<=16777216) (hB:B<=w.heap.size)
  (h:∀ a' c' w',Own f sz t B w' a' c' l2->w.grownBy w' (Value.ownBlock (.slice a l.length c))->((∃ g,a'=some ⟨g,0,none⟩/\(a=some ⟨g,0,none⟩\/g=w.heap.size))) ->
   wpList P ops Q rest (act.put o.dst (.slice a' l2.length c')) w'):wpList P ops Q (o :: rest) act w :=
 wpList_plain hgd fun _ hK=>qd4 s y ts ho ht hi hz hsz hby hf a c hs hown x hone b c1 hy hcell l2 hl2 hlen hB fun a' c' w' h1 h2 h3=>hK _ _ (h a' c' w' h1 h2 h3)
end
theorem qlx {W w w':World} {a:Option Addr} {n c:Nat} (h:Below W.heap.size W w) (hg:w.grownBy w' (Value.ownBlock (.slice a n c))) (hr:∀ g,a=some g->W.heap.size<=g.block):Below W.heap.size W w' :=
 h.grown hg h.size (fun k hk=>by
  cases a with
  | none=>simp [Value.ownBlock] at hk
  | some g=>simp [Value.ownBlock] at hk;subst hk;exact hr g rfl)
theorem qaq {W w w':World} {α:Type} {f:α->List Value} {sz:Nat} {t:TypeId} {a:Option Addr} {c:Nat} {l:List α} (h:Below W.heap.size W w) (ho:Own f sz t W.heap.size w a c l)
  (hg:w.grownBy w' (Value.ownBlock (.slice a l.length c))):Below W.heap.size W w':=qlx h hg fun _ e=>(ho.lt e).1
section
variable {w:World} {g:Nat} {t:TypeId} {cs:Array Value}
theorem cq2 (h:Blk w g t cs):w.cell? ⟨g,0,none⟩=cs[0]? /\ w.cell? ⟨g,1,none⟩=cs[1]?:=⟨h.cell 0,h.cell 1⟩
theorem cq3 (h:Blk w g t cs):w.cell? ⟨g,0,none⟩=cs[0]? /\ w.cell? ⟨g,1,none⟩=cs[1]? /\ w.cell? ⟨g,2,none⟩=cs[2]?:=⟨h.cell 0,h.cell 1,h.cell 2⟩
theorem cq4 (h:Blk w g t cs):w.cell? ⟨g,0,none⟩=cs[0]? /\ w.cell? ⟨g,1,none⟩=cs[1]? /\ w.cell? ⟨g,2,none⟩=cs[2]? /\ w.cell? ⟨g,3,none⟩=cs[3]?:=⟨h.cell 0,h.cell 1,h.cell 2,h.cell 3⟩
theorem cq5 (h:Blk w g t cs):w.cell? ⟨g,0,none⟩=cs[0]? /\ w.cell? ⟨g,1,none⟩=cs[1]? /\ w.cell? ⟨g,2,none⟩=cs[2]? /\ w.cell? ⟨g,3,none⟩=cs[3]? /\ w.cell? ⟨g,4,none⟩=cs[4]?:=⟨h.cell 0,h.cell 1,h.cell 2,h.cell 3,h.cell 4⟩
theorem cq6 (h:Blk w g t cs):w.cell? ⟨g,0,none⟩=cs[0]? /\ w.cell? ⟨g,1,none⟩=cs[1]? /\ w.cell? ⟨g,2,none⟩=cs[2]? /\ w.cell? ⟨g,3,none⟩=cs[3]? /\ w.cell? ⟨g,4,none⟩=cs[4]? /\ w.cell? ⟨g,5,none⟩=cs[5]?:=⟨h.cell 0,h.cell 1,h.cell 2,h.cell 3,h.cell 4,h.cell 5⟩
theorem fq2 (h:Blk w g t cs):w.frozen? ⟨g,0,none⟩=false/\w.frozen? ⟨g,1,none⟩=false:=⟨h.frozen 0,h.frozen 1⟩
theorem fq3 (h:Blk w g t cs):w.frozen? ⟨g,0,none⟩=false/\w.frozen? ⟨g,1,none⟩=false/\w.frozen? ⟨g,2,none⟩=false:=⟨h.frozen 0,h.frozen 1,h.frozen 2⟩
theorem fq4 (h:Blk w g t cs):w.frozen? ⟨g,0,none⟩=false/\w.frozen? ⟨g,1,none⟩=false/\w.frozen? ⟨g,2,none⟩=false/\w.frozen? ⟨g,3,none⟩=false:=⟨h.frozen 0,h.frozen 1,h.frozen 2,h.frozen 3⟩
theorem fq5 (h:Blk w g t cs):w.frozen? ⟨g,0,none⟩=false/\w.frozen? ⟨g,1,none⟩=false/\w.frozen? ⟨g,2,none⟩=false/\w.frozen? ⟨g,3,none⟩=false/\w.frozen? ⟨g,4,none⟩=false:=⟨h.frozen 0,h.frozen 1,h.frozen 2,h.frozen 3,h.frozen 4⟩
theorem fq6 (h:Blk w g t cs):w.frozen? ⟨g,0,none⟩=false/\w.frozen? ⟨g,1,none⟩=false/\w.frozen? ⟨g,2,none⟩=false/\w.frozen? ⟨g,3,none⟩=false/\w.frozen? ⟨g,4,none⟩=false/\w.frozen? ⟨g,5,none⟩=false:=⟨h.frozen 0,h.frozen 1,h.frozen 2,h.frozen 3,h.frozen 4,h.frozen 5⟩
end
def New (B:Nat) (w V:World):Prop:=∀ p v,B<=p.block->w.cell? p=some v->V.cell? p=some v
def qc2 (B:Nat) (a:Option Addr) (w V:World):Prop:=∀ p v,B<=p.block->(∀ g,a=some g->p.block≠g.block)->w.cell? p=some v->V.cell? p=some v
theorem New.refl (B:Nat) (w:World):New B w w:=fun _ _ _ h=>h
theorem New.base {B B':Nat} {w V:World} (h:New B w V) (hB:B<=B'):New B' w V:=fun p v hp hc=>h p v (Nat.le_trans hB hp) hc
theorem New.but {B:Nat} {w V:World} (h:New B w V) (a:Option Addr):qc2 B a w V:=fun p v hp _ hc=>h p v hp hc
theorem qc2.back {B:Nat} {w w1 w2 V:World} {a a':Option Addr} {n c:Nat} (h:qc2 B a' w2 V) (hb:Below w.heap.size w w1) (hg:w1.grownBy w2 (Value.ownBlock (.slice a n c)))
  (ha:∃ g,a'=some ⟨g,0,none⟩/\(a=some ⟨g,0,none⟩\/g=w1.heap.size)):qc2 B a w V:=fun p v hp hne hc=>by
 obtain ⟨g,rfl,hga⟩:=ha;have hlt:=World.block_lt_of_cell? w p hc;have h1:w1.cell? p=some v:=(hb.cell hlt).trans hc;have hlt1:=World.block_lt_of_cell? w1 p h1;refine h p v hp (fun g' e=>?_) (hg.cell h1 (fun e=>?_))
 ·
  injection e with e
  subst e;rcases hga with h2 | h2
  · exact hne _ h2
  · simp;omega
 ·
  cases a with
  | none=>simp [Value.ownBlock] at e
  | some g0=>exact hne _ rfl (by simpa [Value.ownBlock] using e)
theorem qc2.fresh {B B':Nat} {w1 w2 w3 V:World} {a a':Option Addr} {n c:Nat} (h:qc2 B a' w3 V) (hB:B<=B') (hb:Below w1.heap.size w1 w2) (hg:w2.grownBy w3 (Value.ownBlock (.slice a n c)))
  (ha:∃ g,a'=some ⟨g,0,none⟩/\(a=some ⟨g,0,none⟩\/g=w2.heap.size)) (hlt:∀ g,a=some g->g.block<B'):New B' w1 V:=fun p v hp hc=>by
 refine qc2.back h hb hg ha p v (Nat.le_trans hB hp) (fun g e=>?_) hc;have:=hlt g e
 omega
section
variable {α : Type} {f : α -> List Value} {sz : Nat} {t : TypeId} {B : Nat} {w V : World} {a : Option Addr} {c : Nat} {l : List α}
theorem Own.readsIn {β:Type} {E:World->Nat->Nat->β->Prop} (g:α->β) (hf:∀ x,(f x).length=sz) (h:Own f sz t B w a c l) (hV:New B w V)
  (hE:∀ b o x,x∈l->(∀ j u,(f x)[j]? = some u->V.cell? ⟨b,o+j,none⟩=some u)->E V b o (g x)):SlR sz E V a c (l.map g):=by
 refine ⟨by simpa using h.cap.1,h.cap.2,fun k y hy=>?_⟩;rw [List.getElem?_map] at hy;obtain ⟨x,hx,rfl⟩:=Option.map_eq_some_iff.1 hy;obtain ⟨b,ha,hB,_,hc⟩:=h.at_ hf hx;exact ⟨b,0,ha,hE _ _ _ (List.mem_of_getElem? hx) (fun j u hu=>hV _ _ hB (by simpa using hc j u hu))⟩
end
section
variable {α : Type} {f : α -> List Value} {sz : Nat} {t : TypeId} {B : Nat} {w V : World} {a : Option Addr} {c : Nat} {l : List α}
theorem Own.far (h:Own f sz t B w a c l) {p:Addr} (hp:p.block<B) (u:Value):Own f sz t B (w.setCell p u) a c l:=by
 refine ⟨h.1,?_⟩;rcases h.2 with hn | ⟨g,cap,cur,e,hg,hh,rest⟩
 · exact .inl hn
 · exact .inr ⟨g,cap,cur,e,hg,(Below.heap_setCell w p u _ (by omega)).trans hh,rest⟩
end
theorem qc2.unset {B:Nat} {a:Option Addr} {w V:World} {p:Addr} {u:Value} (h:qc2 B a (w.setCell p u) V) (hp:p.block<B):qc2 B a w V:=fun q v hq hne hc =>
 h q v hq hne ((World.cell?_setCell_other w p q u (fun e=>by subst e;omega)).trans hc)
theorem New.unset {B:Nat} {w V:World} {p:Addr} {u:Value} (h:New B (w.setCell p u) V) (hp:p.block<B):New B w V:=fun q v hq hc =>
 h q v hq ((World.cell?_setCell_other w p q u (fun e=>by subst e;omega)).trans hc)
theorem qa5 (w:World) (o:Obj) (t:TypeId) (cs:Array Value):Blk ((w.alloc o).alloc (.cells cs t)) (w.heap.size+1) t cs:=by have:=Blk.new (w.alloc o) t cs;simpa using this
theorem qcn (w:World) (o o2:Obj) (t:TypeId) (cs:Array Value):Blk (((w.alloc o).alloc o2).alloc (.cells cs t)) (w.heap.size+1+1) t cs:=by have:=Blk.new ((w.alloc o).alloc o2) t cs;simpa using this
theorem New.below {B:Nat} {w w' V:World} (h:New B w' V) (hb:Below w.heap.size w w'):New B w V:=fun p v hp hc=>h p v hp ((hb.cell (World.block_lt_of_cell? w p hc)).trans hc)
theorem New.unalloc {B:Nat} {w V:World} {o:Obj} (h:New B (w.alloc o) V):New B w V:=fun p v hp hc=>h p v hp ((World.cell?_alloc_lt w o p (World.block_lt_of_cell? w p hc)).trans hc)
end Go.Proofs.YtfaalkneigpcnaaGreatDoor
namespace Go.Proofs.YtfaalkneigpcnaaGreatDoor
def val:List Int->Nat
 | []=>0
 | x :: l=>x.toNat+65536*val l
def limbs (n:Nat):List Int:=if h:n=0 then [] else ((n % 65536:Nat):Int) :: limbs (n / 65536)
termination_by n
decreasing_by omega
def U16 (l:List Int):Prop:=∀ x∈l,0<=x/\x<=65535
theorem U16.nil:U16 []:=fun _ h=>by cases h
theorem U16.cons {x:Int} {l:List Int} (h:0<=x/\x<=65535) (k:U16 l):U16 (x :: l):=fun y hy=>by
 rcases List.mem_cons.1 hy with rfl | hy
 · exact h
 · exact k y hy
theorem U16.head {x:Int} {l:List Int} (h:U16 (x :: l)):0<=x/\x<=65535:=h x (by simp)
theorem U16.tail {x:Int} {l:List Int} (h:U16 (x :: l)):U16 l:=fun y hy=>h y (by simp [hy])
theorem U16.app {l m:List Int} (h:U16 l) (k:U16 m):U16 (l++m):=fun y hy=>by
 rcases List.mem_append.1 hy with hy | hy
 · exact h y hy
 · exact k y hy
theorem U16.take {l:List Int} (h:U16 l) (k:Nat):U16 (l.take k):=fun y hy=>h y (List.mem_of_mem_take hy)
theorem U16.drop {l:List Int} (h:U16 l) (k:Nat):U16 (l.drop k):=fun y hy=>h y (List.mem_of_mem_drop hy)
theorem U16.get {l:List Int} (h:U16 l) {k:Nat} {x:Int} (hx:l[k]? = some x):0<=x/\x<=65535:=h x (List.mem_of_getElem? hx)
theorem U16.set_ {l:List Int} (h:U16 l) {k:Nat} {x:Int} (hx:0<=x/\x<=65535):U16 (l.set k x):=fun y hy=>by
 rcases List.mem_or_eq_of_mem_set hy with hy | rfl
 · exact h y hy
 · exact hx
theorem qag:limbs 0=[]:=by rw [limbs];simp
theorem qbq {n:Nat} (h:n≠0):limbs n=((n % 65536:Nat):Int) :: limbs (n / 65536):=by rw [limbs];simp [h]
theorem qa3 (n:Nat):U16 (limbs n):=by
 induction n using Nat.strongRecOn with
 | ind n ih =>
  by_cases h:n=0
  · subst h;rw [qag];exact U16.nil
  · rw [qbq h];exact U16.cons (by omega) (ih _ (by omega))
theorem qaa (n:Nat):val (limbs n)=n:=by
 induction n using Nat.strongRecOn with
 | ind n ih =>
  by_cases h:n=0
  · subst h;rw [qag];rfl
  · rw [qbq h,val,ih _ (by omega)];omega
theorem qeh (l m:List Int):val (l++m)=val l+65536 ^ l.length*val m:=by
 induction l with
 | nil=>simp [val]
 | cons x l ih =>
  simp only [List.cons_append,val,ih,List.length_cons,Nat.pow_succ];rw [Nat.mul_add,<- Nat.mul_assoc,Nat.mul_comm 65536 (65536 ^ l.length),Nat.add_assoc]
theorem qcg {l:List Int} (h:U16 l):val l<65536 ^ l.length:=by
 induction l with
 | nil=>simp [val]
 | cons x l ih =>
  have h1:=ih h.tail;have h2:=h.head;simp only [val,List.length_cons,Nat.pow_succ]
  omega
theorem qe0 (l:List Int) (x:Int):val (l++[x])=val l+65536 ^ l.length*x.toNat:=by rw [qeh];simp [val]
theorem qey {l:List Int} {k:Nat} {x:Int} (h:l[k]? = some x):val (l.take (k+1))=val (l.take k)+65536 ^ k*x.toNat:=by
 rw [qbh h,qe0];have:(l.take k).length=k:=by have:=qaw h;simp;omega
 rw [this]
theorem qb8 {l:List Int} {k:Nat} {x:Int} (h:l[k]? = some x):val (l.drop k)=x.toNat+65536*val (l.drop (k+1)):=by
 have hk:=qaw h;rw [List.drop_eq_getElem_cons hk];have:l[k]=x:=by rw [List.getElem?_eq_getElem hk] at h;exact Option.some.inj h
 rw [this,val]
theorem qby (l:List Int) (k:Nat):val l=val (l.take k)+65536 ^ (l.take k).length*val (l.drop k):=by
 have:=qeh (l.take k) (l.drop k)
 rwa [List.take_append_drop] at this
theorem qar {l:List Int} {k:Nat} (h:l.length<=k):val (l.drop k)=0:=by rw [List.drop_eq_nil_of_le h];rfl
theorem qau {l:List Int} {k:Nat} (h:l.length<=k):val (l.take k)=val l:=by rw [List.take_of_length_le h]
theorem qfi {l:List Int} (h:U16 l) (hc:∀ x,l.getLast? = some x->x≠0):limbs (val l)=l:=by
 induction l with
 | nil=>exact qag
 | cons x l ih =>
  have h1:=h.head;have hv:val (x :: l)=x.toNat+65536*val l:=rfl;have hl:limbs (val l)=l:=ih h.tail (fun y hy=>hc y (by
   cases l with
   | nil=>simp at hy
   | cons z l=>rw [List.getLast?_cons_cons];exact hy))
  have hne:val (x :: l)≠0:=by
   intro e;rw [hv] at e
   cases l with
   | nil=>exact hc x (by simp) (by omega)
   | cons z l =>
    have:val (z :: l)=0:=by omega
    rw [this,qag] at hl
    cases hl
  rw [qbq hne,hv];have e1:(x.toNat+65536*val l) % 65536=x.toNat:=by omega
  have e2:(x.toNat+65536*val l) / 65536=val l:=by omega
  rw [e1,e2,hl];congr 1
  omega
theorem qft {n:Nat} {x:Int} (h:(limbs n).getLast? = some x):x≠0:=by
 induction n using Nat.strongRecOn generalizing x with
 | ind n ih =>
  by_cases h0:n=0
  · subst h0;rw [qag] at h;simp at h
  ·
   rw [qbq h0] at h;by_cases h1:n / 65536=0
   ·
    rw [h1,qag] at h;simp at h
    omega
   ·
    have:limbs (n / 65536)≠[]:=by rw [qbq h1];simp
    obtain ⟨y,t,ht⟩:=List.exists_cons_of_ne_nil this;rw [ht,List.getLast?_cons_cons,<- ht] at h;exact ih _ (by omega) h
theorem qjz {n m:Nat}:limbs n=limbs m↔n=m:=by
 constructor
 · intro e;rw [<- qaa n,<- qaa m,e]
 · intro e;rw [e]
theorem qal {n k:Nat} (h:n<65536 ^ k):(limbs n).length<=k:=by
 induction k generalizing n with
 | zero => have : n = 0 := by simpa using h
           subst this;simp [qag]
 | succ k ih =>
  by_cases h0:n=0
  · subst h0;simp [qag]
  ·
   rw [qbq h0];have:=ih (n:=n / 65536) (by rw [Nat.pow_succ] at h;omega);simp only [List.length_cons]
   omega
theorem qan {n:Nat}:0<(limbs n).length↔0<n:=by
 constructor
 ·
  intro h;apply Nat.pos_of_ne_zero;intro e;subst e;simp [qag] at h
 · intro h;rw [qbq (by omega)];simp
theorem qa2 (n:Nat):n<65536 ^ (limbs n).length:=by have:=qcg (qa3 n);rwa [qaa] at this
theorem qap {n m:Nat} (h:n<=m):(limbs n).length<=(limbs m).length:=qal (Nat.lt_of_le_of_lt h (qa2 m))
theorem qaf {l:List Int} (h:U16 l):(limbs (val l)).length<=l.length:=qal (qcg h)
theorem qaz (a b:Nat):(limbs (a*b)).length<=(limbs a).length+(limbs b).length:=by
 apply qal;rw [Nat.pow_add];exact Nat.mul_lt_mul'' (qa2 a) (qa2 b)
theorem qde (a b:Nat):(limbs (a+b)).length<=max (limbs a).length (limbs b).length+1:=by
 apply qal;rw [Nat.pow_succ];have h1:=qa2 a;have h2:=qa2 b;have h3:65536 ^ (limbs a).length<=65536 ^ (max (limbs a).length (limbs b).length):=Nat.pow_le_pow_right (by omega) (by omega);have h4:65536 ^ (limbs b).length<=65536 ^ (max (limbs a).length (limbs b).length):=Nat.pow_le_pow_right (by omega) (by omega)
 omega
theorem qgl {l:List Int} (h:U16 l) {k:Nat} (hk:val (l.drop k)=0) (hc:∀ x,k≠0->l[k-1]? = some x->x≠0) (hkl:k<=l.length):limbs (val l)=l.take k:=by
 have h1:val l=val (l.take k):=by rw [qby l k,hk];omega
 rw [h1];apply qfi (h.take k);intro x hx;by_cases h0:k=0
 · subst h0;simp at hx
 ·
  refine hc x h0 ?_;rw [List.getLast?_eq_getElem?,List.length_take,List.getElem?_take] at hx;have e:min k l.length=k:=by omega
  rw [e,if_pos (by omega)] at hx;exact hx
def cmpN (a b:Nat):Int:=if a<b then -1 else if b<a then 1 else 0
theorem qjh {a b:Nat}:cmpN a b<0↔a<b:=by unfold cmpN;split <;> (try split) <;> omega
theorem qv7 {a b:Nat}:cmpN a b<=0↔a<=b:=by unfold cmpN;split <;> (try split) <;> omega
theorem qi8 {a b:Nat}:0<=cmpN a b↔b<=a:=by unfold cmpN;split <;> (try split) <;> omega
theorem qqq {a b:Nat}:cmpN a b=0↔a=b:=by unfold cmpN;split <;> (try split) <;> omega
def qae (l:List Int) (k:Nat):Int:=(l[k]?).getD 0
theorem qas {l:List Int} {k:Nat} {x:Int} (h:l[k]? = some x):qae l k=x:=by simp [qae,h]
theorem qbr {l:List Int} {k:Nat} (h:l.length<=k):qae l k=0:=by simp [qae,h]
theorem qa8 {l:List Int} (h:U16 l) (k:Nat):0<=qae l k/\qae l k<=65535:=by
 unfold qae
 cases hx:l[k]? with
 | none=>simp
 | some x=>exact h.get hx
theorem qa9 (l:List Int) (k:Nat):val (l.drop k)=(qae l k).toNat+65536*val (l.drop (k+1)):=by
 cases hx:l[k]? with
 | none =>
  have:=List.getElem?_eq_none_iff.1 hx;rw [qbr this,qar this,qar (by omega)];rfl
 | some x=>rw [qas hx];exact qb8 hx
theorem qci {l:List Int} (k:Nat):val (l.take (k+1))=val (l.take k)+65536 ^ k*(qae l k).toNat:=by
 cases hx:l[k]? with
 | none =>
  have:=List.getElem?_eq_none_iff.1 hx;rw [qbr this,qau this,qau (by omega)];simp
 | some x=>rw [qas hx];exact qey hx
theorem qbk {l:List Int} (h:U16 l) (k:Nat):∃ lo,lo<65536 ^ k/\val l=lo+65536 ^ k*val (l.drop k):=by
 refine ⟨val (l.take k),?_,?_⟩
 · refine ltl (qcg (h.take k)) (Nat.pow_le_pow_right (by omega) (by simp;omega))
 ·
  by_cases hk:k<=l.length
  ·
   have:=qby l k;have e:(l.take k).length=k:=by simp;omega
   rwa [e] at this
  · rw [qar (by omega),qau (by omega)];omega
theorem qfc {a b:List Int} (ha:U16 a) (hb:U16 b) (k:Nat) (he:val (a.drop (k+1))=val (b.drop (k+1))) (h:qae a k<qae b k):val a<val b:=by
 obtain ⟨p,hp,e1⟩:=qbk ha k;obtain ⟨q,hq,e2⟩:=qbk hb k;rw [qa9] at e1 e2;rw [e1,e2,he];have h1:=qa8 ha k;have h2:(qae a k).toNat+65536*val (b.drop (k+1))+1<=(qae b k).toNat+65536*val (b.drop (k+1)):=by omega
 have h3:=Nat.mul_le_mul_left (65536 ^ k) h2;rw [Nat.mul_add _ _ 1] at h3
 omega
end Go.Proofs.YtfaalkneigpcnaaGreatDoor
namespace Go.Proofs.YtfaalkneigpcnaaGreatDoor
open Go.RowKit
def natC (x:Int):List Value:=[.int .u16 x]
theorem qdf (s:Int):(natC s).length=1:=rfl
theorem qhv (s:Int):∀ u∈natC s,u.oneCell'=true:=by simp [natC,Value.oneCell']
theorem qkf {w:World} {b:Nat} {s:Int} (h:w.cell? ⟨b,0,none⟩=some (.int .u16 s)):∀ j u,(natC s)[j]? = some u->w.cell? ⟨b,j,none⟩=some u:=by
 intro j u hu
 match j,hu with
 | 0,hu=>simp [natC] at hu;subst hu;exact h
theorem qh2 (l:List Int):l.flatMap natC=l.map (Value.int .u16):=by
 induction l with
 | nil=>rfl
 | cons x l ih=>rw [List.flatMap_cons,ih];rfl
abbrev OwnN (B:Nat) (w:World) (a:Option Addr) (c:Nat) (l:List Int):Prop:=Own natC 1 102 B w a c l
theorem infoN:(Tryz.prog.info? 102).map (fun i=>(i.zero,i.size,i.bytes))=some (some (.int .u16 0),1,2):=by kernel_rfl
theorem NatR.u16 {w:World} {a:Option Addr} {c:Nat} {l:List Int} (h:NatR w a c l):U16 l:=fun x hx=>by
 obtain ⟨k,hk⟩:=List.mem_iff_getElem?.1 hx;obtain ⟨b,off,_,he⟩:=h.2.2 k x hk;exact qwu he.2
theorem NatR.take {w:World} {a:Option Addr} {c:Nat} {l:List Int} (h:NatR w a c l) (k:Nat):NatR w a c (l.take k):=by
 refine ⟨by have:=h.1;simp;omega,h.2.1,fun j x hx=>?_⟩;rw [List.getElem?_take] at hx
 split at hx
 · exact h.2.2 j x hx
 · cases hx
theorem NatR.zero {w:World} {a:Option Addr} {c:Nat} {l:List Int} (h:NatR w a c l):NatR w a c []:=by have:=h.take 0;simpa using this
theorem NatR.cell {w:World} {a:Option Addr} {c:Nat} {l:List Int} (h:NatR w a c l) {k:Nat} {x:Int} (hx:l[k]? = some x):∃ b off,a=some ⟨b,off,none⟩/\w.cell? ⟨b,off+k,none⟩=some (.int .u16 x):=by
 obtain ⟨b,off,e,hc⟩:=h.2.2 k x hx;exact ⟨b,off,e,by simpa using hc.1⟩
theorem OwnN.reads1 {B:Nat} {w:World} {a:Option Addr} {c:Nat} {l:List Int} (h:OwnN B w a c l) (hs:U16 l):NatR w a c l :=
 Own.reads qdf h fun g o x hx hc=>⟨by simpa using hc 0 _ rfl,qgx (hs x hx)⟩
theorem OwnN.readsV {B:Nat} {w V:World} {a:Option Addr} {c:Nat} {l:List Int} (h:OwnN B w a c l) (hV:New B w V) (hs:U16 l):NatR V a c l:=by
 have:=Own.readsIn (E:=IntE .u16) (β:=Int) id qdf h hV (fun b o x hx hc=>⟨by simpa using hc 0 _ rfl,qgx (hs x hx)⟩)
 rwa [List.map_id] at this
theorem qc5 {B:Nat} {w:World} {l:List Int} {ops:Array Oper} {rest:List Oper} {o:Oper} {act:Act} {Q:Exit->Act->World->Prop} (hgd:o.guard=none) (s y:Operand)
  (ho:o.op=.call { callee:=.builtin .append,args:=#[s,y],argTypes:=#[47,47] })
  (a:Option Addr) (c:Nat) (hs:act.eval s=.slice a l.length c) (hown:OwnN B w a c l)
  (x:Int) (b c1:Nat) (hy:act.eval y=.slice (some ⟨b,0,none⟩) 1 c1) (hcell:w.cell? ⟨b,0,none⟩=some (.int .u16 x))
  (l2:List Int) (hl2:l2=l++[x]) (hlen:l2.length<=16777216) (hB:B<=w.heap.size)
  (h:∀ a' c' w',OwnN B w' a' c' l2->w.grownBy w' (Value.ownBlock (.slice a l.length c))->((∃ g,a'=some ⟨g,0,none⟩/\(a=some ⟨g,0,none⟩\/g=w.heap.size))) ->
   wpList Tryz.prog ops Q rest (act.put o.dst (.slice a' l2.length c')) w'):wpList Tryz.prog ops Q (o :: rest) act w :=
 qa7 hgd s y 47 ho Tryz.underlying47 infoN rfl (by omega) (by omega) qdf a c hs hown x (qhv x) b c1 hy (qkf hcell) l2 hl2 hlen hB h
section
variable {α : Type} {f : α -> List Value} {sz : Nat} {t : TypeId} {B : Nat} {w : World} {l m : List α} {P : Program}
theorem qhe (ts ty e:TypeId) (i:TypeInfo) (ht:P.underlying ts=some (.slice e)) (hi:P.info? e=some i)
  (v:Value) (n:Nat) (xs:List Value) (size:Nat) (hown:w.ownsRow B e size v n xs) (c:Nat):(Builtin.append_ #[ts,ts] ty #[v,.slice none 0 c]).run P w=.ok v w:=by
 rcases hown.2 with ⟨rfl,rfl⟩ | ⟨g,cap,cur,rfl,_,_,hnc,_⟩
 · simp [Builtin.append_,run_underlying ht,sizeOf,typeInfo,hi,Builtin.lenOf,Builtin.firstCells]
 · simp [Builtin.append_,run_underlying ht,sizeOf,typeInfo,hi,Builtin.lenOf,Builtin.firstCells,hnc,storeCells]
theorem qhr {o:Oper} {act:Act} {K:Act->World->Prop} {Q:Exit->Act->World->Prop} (s y:Operand) (ts:TypeId)
  (ho:o.op=.call { callee:=.builtin .append,args:=#[s,y],argTypes:=#[ts,ts] })
  {z:Value} {bytes:Nat} (ht:P.underlying ts=some (.slice t)) (hi:(P.info? t).map (fun i=>(i.zero,i.size,i.bytes))=some (some z,sz,bytes)) (hz:z.cells.size=sz) (hsz:0<sz) (hby:bytes<=1024)
  (hf:∀ x,(f x).length=sz) (a:Option Addr) (c:Nat) (hs:act.eval s=.slice a l.length c) (hown:Own f sz t B w a c l)
  (hone:∀ x∈m,∀ u∈f x,u.oneCell'=true) (am:Option Addr) (cm:Nat) (hy:act.eval y=.slice am m.length cm)
  (hcell:∀ k x,m[k]? = some x->∃ b off,am=some ⟨b,off,none⟩/\∀ j u,(f x)[j]? = some u->w.cell? ⟨b,off+(k*sz+j),none⟩=some u)
  (l2:List α) (hl2:l2=l++m) (hlen:l2.length<=16777216) (hB:B<=w.heap.size)
  (h:∀ a' c' w',Own f sz t B w' a' c' l2->w.grownBy w' (Value.ownBlock (.slice a l.length c))->Below B w w' ->
   K (act.put o.dst (.slice a' l2.length c')) w'):o.wp P act w K Q:=by
 subst hl2;obtain ⟨i,hi0,hz0,hz1,hz2⟩:=info_parts hi;simp only [List.length_append] at hlen;have hf2:(l++m).flatMap f=l.flatMap f++m.flatMap f:=by simp
 have key:∃ v' w',(Builtin.append_ #[ts,ts] o.type #[.slice a l.length c,.slice am m.length cm]).run P w=.ok v' w'/\w'.ownsRow B t sz v' (l.length+m.length) (l.flatMap f++m.flatMap f)/\w.grownBy w' (Value.ownBlock (.slice a l.length c)):=by
  cases am with
  | none =>
   have hm:m=[]:=by
    cases m with
    | nil=>rfl
    | cons x m=>obtain ⟨b,off,e,_⟩:=hcell 0 x rfl;cases e
   subst hm;exact ⟨_,w,qhe ts o.type t i ht hi0 _ _ _ sz hown cm,by have:=hown;unfold Own at this;simpa using this,World.grownBy.refl w _⟩
  | some ad =>
   obtain ⟨v',w',hr,h2,h3,_,_⟩:=run_append_own_at (P:=P) w B ts o.type t i z sz bytes ht hi0 hz0 hz1 hz2 hz hsz (.slice a l.length c) l.length (l.flatMap f) hown ad m.length cm (m.flatMap f) (qd6 hf m)
    (fun j u hu=>by
     have hj:j<m.length*sz:=by rw [<- qd6 hf m];exact qaw hu
     have hk:j / sz<m.length:=(Nat.div_lt_iff_lt_mul hsz).2 hj;obtain ⟨x,hx⟩:=qac hk;obtain ⟨b,off,e,hc⟩:=hcell _ x hx;injection e with e
     subst e;have hd:j=j / sz*sz+j % sz:=by have:=Nat.div_add_mod j sz;rw [Nat.mul_comm] at this;omega
     have h1:=qf3 hf m (j / sz) x (j % sz) hx (Nat.mod_lt _ hsz);rw [<- hd,hu] at h1;have:=hc _ _ h1.symm;rw [Addr.add_lit,hd];exact this) (fun u hu=>by
     obtain ⟨x,hx,hux⟩:=List.mem_flatMap.1 hu;exact hone x hx u hux) (by unfold maxLen;omega)
    (by have : (l.length + m.length) * bytes <= 16777216 * 1024 := Nat.mul_le_mul hlen hby
        omega) hB
   exact ⟨v',w',hr,h2,h3⟩
 obtain ⟨v',w',hr,h2,h3⟩:=key;have hbel:Below B w w':=brf.grown h3 hB (fun k hk=>by
  cases a with
  | none=>simp [Value.ownBlock] at hk
  | some g=>simp [Value.ownBlock] at hk;subst hk;exact (hown.lt rfl).1)
 unfold Oper.wp execOp;simp only [ho,resolve,invoke,builtin,Sem.run_bind,Sem.run_pure,Result.andThen_ok,List.map_toArray,List.map_cons,List.map_nil,hs,hy,hr];have hn:(l++m).length=l.length+m.length:=by simp
 rcases h2.2 with ⟨e,e0⟩ | ⟨g,cap,cur,e,_⟩
 ·
  have hn0:(l++m).length=0:=by rw [hn,e0]
  subst e;have:=h none 0 w' (by unfold Own;rw [hf2,hn0];rw [e0] at h2;exact h2) h3 hbel;rw [hn0] at this;exact this
 ·
  subst e;have:=h (some ⟨g,0,none⟩) cap w' (by unfold Own;rw [hf2,hn];exact h2) h3 hbel;rw [hn] at this;exact this
end
theorem qcw {B:Nat} {w:World} {l m:List Int} {ops:Array Oper} {rest:List Oper} {o:Oper} {act:Act} {Q:Exit->Act->World->Prop} (hgd:o.guard=none) (s y:Operand)
  (ho:o.op=.call { callee:=.builtin .append,args:=#[s,y],argTypes:=#[47,47] })
  (a:Option Addr) (c:Nat) (hs:act.eval s=.slice a l.length c) (hown:OwnN B w a c l)
  (am:Option Addr) (cm:Nat) (hy:act.eval y=.slice am m.length cm) (hr:NatR w am cm m)
  (l2:List Int) (hl2:l2=l++m) (hlen:l2.length<=16777216) (hB:B<=w.heap.size)
  (h:∀ a' c' w',OwnN B w' a' c' l2->w.grownBy w' (Value.ownBlock (.slice a l.length c))->Below B w w' ->
   wpList Tryz.prog ops Q rest (act.put o.dst (.slice a' l2.length c')) w'):wpList Tryz.prog ops Q (o :: rest) act w :=
 wpList_plain hgd fun _ hK=>qhr s y 47 ho Tryz.underlying47 infoN rfl (by omega) (by omega) qdf a c hs hown (fun x _=>qhv x) am cm hy
  (fun k x hx=>by
   obtain ⟨b,off,e,hc⟩:=hr.cell hx;refine ⟨b,off,e,fun j u hu=>?_⟩
   match j,hu with
   | 0,hu=>simp [natC] at hu;subst hu;simpa using hc) l2 hl2 hlen hB fun a' c' w' h1 h2 h3=>hK _ _ (h a' c' w' h1 h2 h3)
def BlkN (w:World) (g:Nat) (l:List Int):Prop:=Blk w g 102 (l.map (Value.int .u16)).toArray
section
variable {w w' : World} {g : Nat} {l : List Int}
theorem BlkN.lt (h:BlkN w g l):g<w.heap.size:=Blk.lt h
theorem BlkN.cell (h:BlkN w g l) {i:Nat} {x:Int} (hx:l[i]? = some x):w.cell? ⟨g,i,none⟩=some (.int .u16 x):=by
 rw [Blk.cell h i];simp [hx]
theorem BlkN.frozen (h:BlkN w g l) (i:Nat):w.frozen? ⟨g,i,none⟩=false:=Blk.frozen h i
theorem BlkN.set_ (h:BlkN w g l) (i:Nat) (x:Int):BlkN (w.setCell ⟨g,i,none⟩ (.int .u16 x)) g (l.set i x):=by
 have:=Blk.set_ h i (.int .u16 x);unfold BlkN;rw [List.setIfInBounds_toArray,<- List.map_set] at this;exact this
theorem BlkN.below (h:BlkN w g l) (hb:Below w.heap.size w w'):BlkN w' g l:=Blk.below' h hb
theorem BlkN.alloc (h:BlkN w g l) (o:Obj):BlkN (w.alloc o) g l:=Blk.alloc h o
theorem BlkN.new (w:World) (n:Nat):BlkN (w.alloc (.cells (madeCells #[.int .u16 0] n) 102)) w.heap.size (List.replicate n 0):=by
 have:=Blk.new w 102 (madeCells #[.int .u16 0] n);unfold BlkN;have e:madeCells #[.int .u16 0] n=((List.replicate n (0:Int)).map (Value.int .u16)).toArray:=by
  apply Array.ext
  · simp [madeCells]
  ·
   intro i h1 h2;simp [madeCells,Nat.mod_one]
 rw [e] at this ⊢;exact this
theorem BlkN.own (h:BlkN w g l) {B:Nat} (hB:B<=g) (hl:l.length<=maxLen):OwnN B w (some ⟨g,0,none⟩) l.length l:=by
 refine ⟨by rw [qd6 qdf],.inr ⟨g,l.length,_,rfl,hB,h,nlr _,hl,by simp,?_⟩⟩;rw [qh2];simp only [Nat.mul_one];exact List.take_of_length_le (by simp)
theorem BlkN.readsV (h:BlkN w g l) {B:Nat} {V:World} (hB:B<=g) (hV:New B w V) (hs:U16 l) {c:Nat} (hc:l.length<=c) (hm:c<=maxLen):NatR V (some ⟨g,0,none⟩) c l :=
 ⟨hc,hm,fun k x hx=>⟨g,0,rfl,by simpa using hV _ _ (by simpa using hB) (h.cell hx),qgx (hs x (List.mem_of_getElem? hx))⟩⟩
end
theorem qca (k:IntKind) (n:Nat) (hn:n<=16777216) (w:World) :
  (Instr.makeSlice 47 (.int k (n:Int)) (.int k (n:Int))).run Tryz.prog w=.ok (.slice (some ⟨w.heap.size,0,none⟩) n n) (w.alloc (.cells (madeCells #[.int .u16 0] n) 102)) :=
 run_make_row' 47 102 (.int .u16 0) 2 Tryz.underlying47 infoN rfl k k n (by omega) (by omega) w
def NewN (l:List Int) (B:Nat) (w:World) (v:Value):Prop:=∃ a c,v=.slice a l.length c/\∀ V,New B w V->NatR V a c l
theorem NewN.own {l:List Int} {B:Nat} {w:World} {a:Option Addr} {c:Nat} (h:OwnN B w a c l) (hs:U16 l):NewN l B w (.slice a l.length c):=⟨a,c,rfl,fun _ hn=>h.readsV hn hs⟩
def RetN (l:List Int) (w:World) (e:Ending) (w':World):Prop:=∃ a c,e=.returned (.slice a l.length c)/\(∀ V,New w.heap.size w' V->NatR V a c l)/\Below w.heap.size w w'
theorem RetN.mk {l:List Int} {w w':World} {v:Value} (h:NewN l w.heap.size w' v) (hb:Below w.heap.size w w'):RetN l w (.returned v) w':=by
 obtain ⟨a,c,rfl,hV⟩:=h;exact ⟨a,c,rfl,hV,hb⟩
theorem RetN.own {l L:List Int} {w w':World} {a:Option Addr} {c n:Nat} (h:OwnN w.heap.size w' a c l) (hs:U16 l) (hb:Below w.heap.size w w') (hL:L=l) (hn:n=l.length):RetN L w (.returned (.slice a n c)) w':=by
 subst hL;subst hn;exact RetN.mk (NewN.own h hs) hb
end Go.Proofs.YtfaalkneigpcnaaGreatDoor
namespace Go.Proofs.YtfaalkneigpcnaaGreatDoor
theorem qkh {l:List Int} (h:U16 l):∀ n,n<=l.length->val (l.drop n)=0->∃ k,k<=n/\limbs (val l)=l.take k
 | 0,_,hv=>⟨0,nlr _,by rw [List.drop_zero] at hv;rw [hv,qag,List.take_zero]⟩
 | n+1,hn,hv=>by
  obtain ⟨x,hx⟩:=qac (xs:=l) (k:=n) (by omega);by_cases hx0:x=0
  ·
   obtain ⟨k,hk,e⟩:=qkh h n (by omega) (by rw [qb8 hx,hv,hx0];rfl);exact ⟨k,by omega,e⟩
  ·
   refine ⟨n+1,nlr _,qgl h hv (fun y _ hy=>?_) hn⟩;rw [Nat.add_sub_cancel,hx] at hy;injection hy with hy
   rw [<- hy];exact hx0
theorem qgo {l:List Int} (h:U16 l):∃ k,k<=l.length/\limbs (val l)=l.take k:=qkh h l.length (nlr _) (by rw [List.drop_length];rfl)
theorem NatR.trim {w:World} {a:Option Addr} {c:Nat} {l:List Int} (h:NatR w a c l):NatR w a c (limbs (val l)):=by
 obtain ⟨k,_,e⟩:=qgo h.u16;rw [e];exact h.take k
theorem qs1 {l:List Int} {n:Nat} {x:Int} (hx:l[n]? = some x) (h0:x=0) (hv:val (l.drop (n+1))=0):val (l.drop n)=0:=by
 rw [qb8 hx,hv,h0];rfl
theorem qsu {l:List Int} (h:U16 l) {n:Nat} {x:Int} (hx:l[n]? = some x) (h0:x≠0) (hv:val (l.drop (n+1))=0):limbs (val l)=l.take (n+1):=by
 refine qgl h hv (fun y _ hy=>?_) (qaw hx);rw [Nat.add_sub_cancel,hx] at hy;injection hy with hy
 rw [<- hy];exact h0
theorem qq4 {l:List Int} (hv:val (l.drop 0)=0):limbs (val l)=l.take 0:=by
 rw [List.drop_zero] at hv;rw [hv,qag,List.take_zero]
theorem qke {n:Nat}:(limbs n).length<=4↔n<18446744073709551616:=by
 constructor
 ·
  intro h;have h1:=qa2 n;have h2:65536 ^ (limbs n).length<=65536 ^ 4:=Nat.pow_le_pow_right (by omega) h;have h3:(65536:Nat) ^ 4=18446744073709551616:=by decide
  omega
 ·
  intro h;exact qal (by rw [show (65536:Nat) ^ 4=18446744073709551616 by decide];exact h)
theorem qvg {n x i:Nat} (h:n<65536 ^ i):n ||| x*65536 ^ i=n+65536 ^ i*x:=by
 have e:(65536:Nat) ^ i=2 ^ (16*i):=by rw [Nat.pow_mul]
 rw [e] at h ⊢;rw [Nat.or_comm,Nat.mul_comm x,<- Nat.two_pow_add_eq_or_of_lt h,Nat.add_comm]
end Go.Proofs.YtfaalkneigpcnaaGreatDoor
namespace Go.Proofs.YtfaalkneigpcnaaGreatDoor
open Go.RowKit
theorem qax (l:List Int) (a:Option Addr) (c:Nat) (w:World) (h:NatR w a c l) :
  Calls Tryz.prog 206 #[.slice a l.length c] w fun e w'=>e=.returned (.slice a (limbs (val l)).length c)/\w=w':=by
 have H:=Hd h;have hlen:=SlR.len h;have hcap:=h.1;have hcap2:=h.2.1;unfold maxLen at hcap2;obtain ⟨R,hR⟩:∃ q,(limbs (val l)).length=q:=⟨_,rfl⟩
 rw [hR];have HR:=Hd hR;clear h hR;go_enter Tryz.func206,Tryz.ntmps206;go_wp2;obtain ⟨wo,rfl⟩:∃ wo:World,wo=w:=⟨_,rfl⟩
 go_loopg [3] l.length (fun n q wr=>n<=l.length/\q=.int .i64 n/\wo=wr/\Hid (val (l.drop n)=0))
 case atStart=>exact ⟨nlr _,rfl,rfl,by simp [Hid,val]⟩
 case round =>
  obtain ⟨hn,rfl,rfl,hv⟩:=hrel;by_cases h0:gk=0
  ·
   subst h0;have hr:R=0:=by rw [<- HR.out,qq4 hv.out];simp
   subst hr;have hzc:(0:Int)<=(c:Int):=by omega
   have hz1:¬ ((0:Int)<((0:Nat):Int)):=by omega
   go_wp2;go_ret;exact ⟨rfl,rfl⟩
  ·
   obtain ⟨m,rfl⟩:∃ m,gk=m+1:=⟨gk-1,by omega⟩
   obtain ⟨x,hx⟩:=qac (xs:=l) (k:=m) (by omega);obtain ⟨b,off,rfl,hc⟩:=H.out.cell hx;have e1:(((m+1:Nat):Int))=(m:Int)+1:=by omega
   rw [e1];have hml:m<l.length:=by omega
   have HX:=Hd hx;by_cases hx0:x=0
   ·
    have hxb:(x==0)=true:=by simpa using hx0
    have hv2:=Hd (qs1 HX.out hx0 hv.out);clear hx0 hx hv e1;go_wp2;go_roundg m
    case rel=>exact ⟨by omega,by first | rfl | go_num,rfl,hv2.out⟩
    case measure=>omega
   ·
    have hxb:(x==0)=false:=by simpa using hx0
    have hr:R=m+1:=by rw [<- HR.out,qsu H.out.u16 HX.out hx0 hv.out,List.length_take];omega
    subst hr;have hmc:(m:Int)+1<=(c:Int):=by omega
    clear hx0 hx hv e1;go_wp2;go_ret;exact ⟨rfl,rfl⟩
theorem sizeN:(Tryz.prog.info? 102).map (·.size)=some 1:=by kernel_rfl
theorem qcs (l:List Int) (a:Option Addr) (c:Nat) (w:World) (h:NatR w a c l) (hl:l.length<=16777216) :
  Calls Tryz.prog 138 #[.slice a l.length c] w (RetN (limbs (val l)) w):=by
 have CT:=qax l a c w h;have hT:=h.trim;have hlT:(limbs (val l)).length<=16777216:=by have:=qaf h.u16;omega
 have huT:=qa3 (val l);revert CT hT hlT huT;generalize limbs (val l)=T;intro CT hT hlT huT;replace CT:=Hd CT;clear h;by_cases h0:T.length=0
 ·
  obtain rfl:T=[]:=List.length_eq_zero_iff.1 h0;clear h0 hT;go_enter Tryz.func138,Tryz.ntmps138;go_wp2_with fail;refine CT.out.mono ?_;rintro e w1 ⟨rfl,rfl⟩;go_wp2;go_ret;exact ⟨none,0,rfl,fun _ _=>SlR.nil,Below.refl _ _⟩
 ·
  obtain ⟨x,hx⟩:=qac (xs:=T) (k:=0) (by omega);obtain ⟨b,off,rfl,_⟩:=hT.cell hx;have HT:=Hd hT;have hmk:=qca .i64 T.length hlT w;have h0i:((T.length:Int)==0)=false:=by rw [beq_eq_false_iff_ne];omega
  clear hx hT h0;go_enter Tryz.func138,Tryz.ntmps138;go_wp2_with fail;refine CT.out.mono ?_;rintro e w1 ⟨rfl,rfl⟩;have hg:=Blk.new w 102 (madeCells #[.int .u16 0] T.length);have hms:(madeCells #[.int .u16 0] T.length).size=T.length:=by simp [madeCells]
  have hsrc:∀ j v,(T.map (Value.int .u16))[j]? = some v->(w.alloc (.cells (madeCells #[.int .u16 0] T.length) 102)).cell? ((⟨b,off,none⟩:Addr).add j)=some v:=fun j v hv=>by
   rw [List.getElem?_map] at hv;obtain ⟨y,hy,rfl⟩:=Option.map_eq_some_iff.1 hv;obtain ⟨b2,off2,e2,hc2⟩:=HT.out.cell hy;injection e2 with e2
   injection e2 with e3 e4
   subst e3;subst e4;rw [Addr.add_lit];exact Ext.alloc (Ext.refl w) _ _ _ hc2
  have HG:=Hd hg;have HSRC:=Hd hsrc;have HMS:=Hd hms;have HMK:=Hd hmk;clear hg hsrc hms;have hcp:=run_copy_row (P:=Tryz.prog) (w.alloc (.cells (madeCells #[.int .u16 0] T.length) 102)) 47 47 3 102 w.heap.size 0 T.length T.length ⟨b,off,none⟩ T.length c _ 102 (T.map (Value.int .u16)) Tryz.underlying47 sizeN HG.out (by simp) HSRC.out (by rw [HMS.out];simp) (by simp [Value.oneCell']);have hX:(madeCells #[.int .u16 0] T.length).toList.take 0++T.map (Value.int .u16)++(madeCells #[.int .u16 0] T.length).toList.drop (0+(T.map (Value.int .u16)).length)=T.map (Value.int .u16):=by
   rw [List.take_zero,List.nil_append,List.drop_eq_nil_of_le (by rw [Array.length_toList,HMS.out];simp),List.append_nil]
  rw [hX] at hcp;have hF:BlkN ((w.alloc (.cells (madeCells #[.int .u16 0] T.length) 102)).setRow w.heap.size (T.map (Value.int .u16)).toArray) w.heap.size T:=setRow_heap _ _ _ _ _ _ HG.out;have hB:Below w.heap.size w ((w.alloc (.cells (madeCells #[.int .u16 0] T.length) 102)).setRow w.heap.size (T.map (Value.int .u16)).toArray):=below_setRow (brf.alloc (nlr _) _) (nlr _) _;revert hF hB hcp;generalize (w.alloc (.cells (madeCells #[.int .u16 0] T.length) 102)).setRow w.heap.size (T.map (Value.int .u16)).toArray=w2;intro hcp hF hB;go_wp2;go_ret;exact ⟨_,_,rfl,fun V hV=>hF.readsV (nlr _) hV huT (nlr _) (by unfold maxLen;omega),hB⟩
section
variable {w w' w'' : World} {g : Nat}
theorem qh5 (w:World) (g:Nat):w.grownBy w (some g):=World.grownBy.refl _ _
theorem qdm (h:w.grownBy w' (some g)) (o:Obj):w.grownBy (w'.alloc o) (some g):=h.trans (World.grownBy_alloc _ _ _)
theorem qcz (h:w.grownBy w' (some g)):w.grownBy w'.drew (some g):=⟨h.os,h.tape,h.output,h.size,h.block⟩
theorem qi7 (h:w.grownBy w' (some g)) (i:Nat) (u:Value):w.grownBy (w'.setCell ⟨g,i,none⟩ u) (some g) :=
 h.trans ⟨rfl,rfl,rfl,by simp [World.setCell],fun k _ hk=>Below.heap_setCell _ _ _ _ (fun e=>hk (by simp at e;rw [e]))⟩
theorem qhn (h:w.grownBy w' (some g)) {p:Addr} (hp:w.heap.size<=p.block) (u:Value):w.grownBy (w'.setCell p u) (some g) :=
 ⟨h.os,h.tape,h.output,by have:=h.size;simpa [World.setCell] using this,fun k hk hne=>(Below.heap_setCell _ _ _ _ (by omega)).trans (h.block k hk hne)⟩
theorem qsd (h:w.grownBy w' (some g)) (hb:Below w'.heap.size w' w''):w.grownBy w'' (some g) :=
 ⟨hb.os.trans h.os,hb.tape.trans h.tape,hb.output.trans h.output,Nat.le_trans h.size hb.size,fun k hk hne=>(hb.block k (ltl hk h.size)).trans (h.block k hk hne)⟩
theorem qqe {B:Nat} {w0:World} (hb:Below B w0 w) (h:w.grownBy w' (some g)) (hg:B<=g) (hB:B<=w.heap.size):Below B w0 w':=hb.grown h hB (fun k hk=>by injection hk with hk;omega)
end
def RowN (w:World) (g:Nat) (l:List Int) (r:List Value):Prop:=Blk w g 102 (l.map (Value.int .u16)++r).toArray
section
variable {w w' : World} {g : Nat} {l : List Int} {r : List Value}
theorem RowN.lt (h:RowN w g l r):g<w.heap.size:=Blk.lt h
theorem RowN.cell (h:RowN w g l r) {i:Nat} {x:Int} (hx:l[i]? = some x):w.cell? ⟨g,i,none⟩=some (.int .u16 x):=by
 have hi:=qaw hx;rw [Blk.cell h i];simp only [List.getElem?_toArray];rw [List.getElem?_append_left (by simpa using hi),List.getElem?_map,hx]
 rfl
theorem RowN.frozen (h:RowN w g l r) (i:Nat):w.frozen? ⟨g,i,none⟩=false:=Blk.frozen h i
theorem RowN.set_ (h:RowN w g l r) {i:Nat} (hi:i<l.length) (x:Int):RowN (w.setCell ⟨g,i,none⟩ (.int .u16 x)) g (l.set i x) r:=by
 have:=Blk.set_ h i (.int .u16 x);unfold RowN;rw [List.setIfInBounds_toArray,List.set_append_left _ _ (by simpa using hi),<- List.map_set] at this;exact this
theorem RowN.below (h:RowN w g l r) (hb:Below w.heap.size w w'):RowN w' g l r:=Blk.below' h hb
theorem RowN.alloc (h:RowN w g l r) (o:Obj):RowN (w.alloc o) g l r:=Blk.alloc h o
theorem RowN.far (h:RowN w g l r) {p:Addr} (hp:g≠p.block) (u:Value):RowN (w.setCell p u) g l r:=Blk.far h hp u
theorem RowN.cut (h:RowN w g l r) (k:Nat):RowN w g (l.take k) ((l.drop k).map (Value.int .u16)++r):=by
 unfold RowN at h ⊢;rw [<- List.append_assoc,<- List.map_append,List.take_append_drop];exact h
theorem RowN.of (h:BlkN w g l):RowN w g l []:=by
 unfold RowN;rw [List.append_nil];exact h
theorem RowN.own (h:RowN w g l r) {B:Nat} (hB:B<=g) {c:Nat} (hc:c=l.length+r.length) (hm:c<=maxLen) (k:Nat) (hk:k<=l.length):OwnN B w (some ⟨g,0,none⟩) c (l.take k):=by
 subst hc;have hl:(l.take k).length=k:=by simp;omega
 refine ⟨by rw [qd6 qdf],.inr ⟨g,_,_,rfl,hB,h,by omega,hm,by simp,?_⟩⟩;rw [qh2,hl,Nat.mul_one,List.take_append_of_le_length (by simpa using hk),List.map_take]
theorem qvh {B:Nat} {a:Option Addr} {c:Nat} (h:OwnN B w a c l) (h0:0<l.length):∃ g r,a=some ⟨g,0,none⟩/\B<=g/\c=l.length+r.length/\RowN w g l r:=by
 rcases h.2 with ⟨_,hn⟩ | ⟨g,cap,cur,e,hg,hh,hc,hm,hs,ht⟩
 · omega
 ·
  injection e with e1 e2 e3
  subst e1;subst e3;refine ⟨g,cur.toList.drop l.length,rfl,hg,by simp only [List.length_drop,Array.length_toList,hs];omega,?_⟩;unfold RowN Blk;rw [hh];rw [qh2,Nat.mul_one] at ht;rw [<- ht,List.take_append_drop]
theorem RowN.readsAt (h:RowN w g l r) (hs:U16 l) (j k c:Nat) (hk:k<=c) (hc:c<=maxLen):NatR w (some ⟨g,j,none⟩) c ((l.drop j).take k):=by
 refine ⟨by simp;omega,hc,fun i x hx=>⟨g,j,rfl,?_⟩⟩;rw [List.getElem?_take] at hx
 split at hx
 ·
  rw [List.getElem?_drop] at hx;exact ⟨by simpa using h.cell hx,qgx (hs x (List.mem_of_getElem? hx))⟩
 · cases hx
theorem RowN.readsV (h:RowN w g l r) {B:Nat} {V:World} (hB:B<=g) (hV:New B w V) (hs:U16 l) {c:Nat} (hc:l.length<=c) (hm:c<=maxLen):NatR V (some ⟨g,0,none⟩) c l :=
 ⟨hc,hm,fun k x hx=>⟨g,0,rfl,by simpa using hV _ _ (by simpa using hB) (h.cell hx),qgx (hs x (List.mem_of_getElem? hx))⟩⟩
theorem NatR.other {a:Option Addr} {c:Nat} (h:NatR w a c l) (hg:w.grownBy w' (some g)) (hne:∀ p,a=some p->p.block≠g):NatR w' a c l:=by
 refine ⟨h.1,h.2.1,fun k x hx=>?_⟩;obtain ⟨b,off,rfl,hc,hw⟩:=h.2.2 k x hx;exact ⟨b,off,rfl,hg.cell hc (fun e=>hne _ rfl (by injection e)),hw⟩
end
theorem qef (k:IntKind) (n c:Nat) (hn:n<=c) (hc:c<=16777216) (w:World) :
  (Instr.makeSlice 47 (.int k (n:Int)) (.int k (c:Int))).run Tryz.prog w=.ok (.slice (some ⟨w.heap.size,0,none⟩) n c) (w.alloc (.cells (madeCells #[.int .u16 0] c) 102)):=by
 obtain ⟨i,hi,hzz⟩:=Option.map_eq_some_iff.1 infoN;simp only [Prod.mk.injEq] at hzz;obtain ⟨hz,hs,hb⟩:=hzz;have hr:=run_make (P:=Tryz.prog) w 47 102 i (.int .u16 0) Tryz.underlying47 hi hz k k n c (by omega) (by omega) (by rw [hb];omega) (by omega);simp only [Int.toNat_natCast,hs,Nat.mul_one] at hr;exact hr
theorem qe7 {n y q z:Nat} (c:Nat) (hn:n<c) (hy:y<=65535) (hc:c<=281474976710656) (hz:n ||| y*c=q) (e:(z:Int)=(y:Int)*(c:Int)):bits .or .u64 (n:Int) (z:Int)=(q:Int):=by
 have h1:z=y*c:=by
  have:((z:Nat):Int)=((y*c:Nat):Int):=by rw [e];simp
  omega
 subst h1;have h2:y*c<=65535*281474976710656:=Nat.mul_le_mul hy hc;rw [u64_or_nat _ _ (by omega) (by omega),hz]
theorem qbt (n:Nat):IntKind.u16.wrap (n:Int)=((n % 65536:Nat):Int):=by simp [IntKind.wrap,IntKind.bits,IntKind.signed]
theorem qob (n:Nat):IntKind.u32.wrap (n:Int)=((n % 4294967296:Nat):Int):=by simp [IntKind.wrap,IntKind.bits,IntKind.signed]
theorem qha (n:Nat):IntKind.u64.wrap (n:Int)=((n % 18446744073709551616:Nat):Int):=by simp [IntKind.wrap,IntKind.bits,IntKind.signed]
theorem qiu (n:Nat) (w:World) (hn:n<18446744073709551616) :
  Calls Tryz.prog 210 #[.int .u64 n] w (RetN (limbs n) w):=by
 go_enter Tryz.func210,Tryz.ntmps210;go_wp2
 go_loopw [0,3] (fun i s wr=>∃ (m:Nat) (l:List Int) (a:Option Addr) (c:Nat),m<=n/\i=.int .u64 m/\s=.slice a l.length c/\OwnN w.heap.size wr a c l/\U16 l/\l.length<=1000/\Below w.heap.size w wr/\Hid (limbs n=l++limbs m)) (fun i _ _=>(intOf i).toNat)
 case atStart=>exact ⟨n,[],none,0,nlr _,rfl,rfl,Own.nil,U16.nil,by simp,Below.refl _ _,rfl⟩
 case round =>
  obtain ⟨m,l,a,c,hm,rfl,rfl,ho,hU,hlen,hb,hr⟩:=hrel;have HO:=Hd ho;clear ho;by_cases h0:m=0
  ·
   subst h0;have HR:limbs n=l:=by have:=hr.out;rw [qag] at this;simpa using this
   replace HR:=Hd HR;go_wp2;go_ret;exact RetN.own HO.out hU hb HR.out rfl
  ·
   have hgt:decide ((0:Int)<(m:Int))=true:=by simp;omega
   have hs:limbs m=((m % 65536:Nat):Int) :: limbs (m / 65536):=qbq h0;have hr2:limbs n=(l++[((m % 65536:Nat):Int)])++limbs (m / 65536):=by rw [hr.out,hs];simp
   have HR:=Hd hr2;clear hs hr2;have hlt:m<18446744073709551616:=by omega
   have hm1:((m:Int) % 65536)=((m % 65536:Nat):Int):=by omega
   have hm2:((m:Int) / 65536)=((m / 65536:Nat):Int):=by omega
   have hw:=qbt m;have HM1:=Hd hm1;have HM2:=Hd hm2;clear hm1 hm2;go_wp2_with (at_builtin;go_must (refine qc5 rfl (.tmp 8) (.tmp 11) rfl a c rfl (HO.out.alloc _) ((m % 65536:Nat):Int) wr.heap.size 1 rfl (by simp <;> omega) (l++[((m % 65536:Nat):Int)]) rfl (by simp;omega) (by have:=hb.size;simp;omega) ?_);intro a2 c2 w2 ho2 hg2 hx2)
   go_roundw
   case rel =>
    have hb1:Below w.heap.size w w2:=qaq (hb.alloc hb.size _) (HO.out.alloc _) hg2;have hl4:(l++[((m % 65536:Nat):Int)]).length<=1000:=by
     have h4:(limbs n).length<=4:=qal (by simpa using hn);rw [HR.out] at h4;simp only [List.length_append] at h4 ⊢
     omega
    exact ⟨m / 65536,l++[((m % 65536:Nat):Int)],a2,c2,by omega,by rw [HM2.out],by simp,ho2,hU.app (U16.cons (by omega) U16.nil),hl4,hb1,HR.out⟩
   case measure=>rw [HM2.out];simp [intOf];omega
theorem qo1 (l:List Int) (n:Nat) (a:Option Addr) (c:Nat) (w:World) (h:NatR w a c l) (hn:val l=n) (hs:n<18446744073709551616) :
  Calls Tryz.prog 209 #[.slice a l.length c] w fun e w'=>e=.returned (.tuple #[.int .u64 n,.bool true])/\w=w':=by
 have CT:=qax l a c w h;have hT:=h.trim;have hu:=qa3 (val l);rw [hn] at CT hT hu;have hlen:(limbs n).length<=4:=qke.2 hs;have hvT:=qaa n;revert CT hT hlen hu hvT;generalize limbs n=T;intro CT hT hu hlen hvT;replace CT:=Hd CT;have HT:=Hd hT;have HV:=Hd hvT;clear h hn hT hvT;go_enter Tryz.func209,Tryz.ntmps209;go_wp2_with fail;refine CT.out.mono ?_;rintro e w1 ⟨rfl,rfl⟩;go_wp2;obtain ⟨wo,rfl⟩:∃ wo:World,wo=w:=⟨_,rfl⟩
 go_loopg [4,5,6,14] T.length (fun g x _ _ i wr=>∃ k:Nat,k+g=T.length/\i=.int .i64 k/\wo=wr/\x=.int .u64 (val (T.take k):Nat))
 case atStart=>exact ⟨0,by omega,rfl,rfl,by simp [val]⟩
 case round =>
  obtain ⟨k,hkg,rfl,rfl,rfl⟩:=hrel;have HKG:=Hd hkg;clear hkg;by_cases hlt:k<T.length
  ·
   obtain ⟨x,hx⟩:=qac hlt;obtain ⟨b,off,rfl,hc⟩:=HT.out.cell hx;obtain ⟨hx0,hx1⟩:=hu.get hx;obtain ⟨y,rfl⟩:∃ y:Nat,x=(y:Int):=⟨x.toNat,by omega⟩
   have hvt:=qey hx;have hlt2:val (T.take k)<65536 ^ k:=by
    have:=qcg (hu.take k);have e:(T.take k).length=k:=by simp;omega
    rwa [e] at this
   rw [Int.toNat_natCast] at hvt;have hor:=qvg (x:=y) hlt2;rw [<- hvt] at hor;have hkc:k=0\/k=1\/k=2\/k=3:=by omega
   have HOR:=Hd hor;revert hlt2;generalize val (T.take k)=p at *;intro hlt2;clear hvt hor hx;rcases hkc with rfl | rfl | rfl | rfl
   ·
    rw [Nat.add_zero] at hc;go_wp2;go_roundg (gk-1)
    case rel=>exact ⟨1,by have:=HKG.out;omega,by go_num,rfl,qd2 (qe7 (z:=y) (y:=y) 1 (by simpa using hlt2) (by omega) (by omega) (by have h:=HOR.out;rw [Nat.pow_zero] at h;exact h) (by simp))⟩
    case measure=>have:=HKG.out;omega
   ·
    go_wp2;go_roundg (gk-1)
    case rel=>exact ⟨2,by have:=HKG.out;omega,by go_num,rfl,qd2 (qe7 (z:=y*65536) 65536 (by simpa using hlt2) (by omega) (by omega) HOR.out (by simp))⟩
    case measure=>have:=HKG.out;omega
   ·
    go_wp2;go_roundg (gk-1)
    case rel=>exact ⟨3,by have:=HKG.out;omega,by go_num,rfl,qd2 (qe7 (z:=y*4294967296) 4294967296 (by simpa using hlt2) (by omega) (by omega) HOR.out (by simp))⟩
    case measure=>have:=HKG.out;omega
   ·
    go_wp2;go_roundg (gk-1)
    case rel=>exact ⟨4,by have:=HKG.out;omega,by go_num,rfl,qd2 (qe7 (z:=y*281474976710656) 281474976710656 (by simpa using hlt2) (by omega) (by omega) HOR.out (by simp))⟩
    case measure=>have:=HKG.out;omega
  ·
   have hr:val (T.take k)=n:=by rw [qew hlt];exact HV.out
   have HR:=Hd hr;clear hr;go_wp2;go_ret2;refine ⟨?_,rfl⟩;rw [HR.out]
   rfl
theorem qun (l:List Int) (n:Nat) (a:Option Addr) (c:Nat) (w:World) (h:NatR w a c l) (hn:val l=n) (hs:¬ n<18446744073709551616) :
  Calls Tryz.prog 209 #[.slice a l.length c] w fun e w'=>e=.returned (.tuple #[.int .u64 0,.bool false])/\w=w':=by
 have CT:=qax l a c w h;rw [hn] at CT;have hlen:¬ (limbs n).length<=4:=fun e=>hs (qke.1 e)
 have hmx:=h.len;have hle:=qaf h.u16;rw [hn] at hle;revert CT hlen hle;generalize limbs n=T;intro CT hlen hle;replace CT:=Hd CT;clear h hn hs;go_enter Tryz.func209,Tryz.ntmps209;go_wp2_with fail;refine CT.out.mono ?_;rintro e w1 ⟨rfl,rfl⟩;go_wp2;go_ret2;exact ⟨rfl,rfl⟩
end Go.Proofs.YtfaalkneigpcnaaGreatDoor
