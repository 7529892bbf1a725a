/- Walks of the reference's natural numbers: Valid, Same, Sub, Mul. -/
import Derived.WalkKit
import Derived.WalkSpells
import Derived.WalkLawsBesides
import Derived.ProofKit
import Derived.LoopTactic
import Derived.Handy
import Derived.Lib.Hide
import Derived.OwnWalk
import Derived.Maps.AppendAt
import Derived.Deep.AppendLies
import Derived.Deep.DeepCutAuto
import Derived.Test.YtmdlbpibipnapaaGreatProg
import Derived.Deep.QuietTactic
import Derived.BigQuiet
import Derived.Deep.OwnRows
set_option linter.all false
set_option maxRecDepth 100000
set_option maxHeartbeats 4000000
namespace Go.Proofs.YtmdlbpibipnapaaGreat
open Go.RowKit
abbrev bw (w W:World):Prop:=Below w.heap.size w W
theorem zg {P:Prop} (h:P:=by go_grown):P:=h
theorem oo {P:Prop} (h:P:=by omega):P:=h
theorem dd {P:Prop} (h:P:=by decide):P:=h
theorem nm {α:Sort _} (a:α):∃ g,a=g:=⟨_,rfl⟩
end Go.Proofs.YtmdlbpibipnapaaGreat
namespace Go.Proofs.YtmdlbpibipnapaaGreat
open Go.RowKit
theorem Hd {p:Prop} (h:p):Hid p:=h
theorem qcq {k:IntKind} {a b:Int} (h:a=b):Ending.returned (.int k a)=.returned (.int k b):=by rw [h]
theorem qbn {a b:Bool} (h:a=b):Ending.returned (.bool a)=.returned (.bool b):=by rw [h]
theorem qd7 {k:IntKind} {a b:Int} (h:a=b):Value.int k a=.int k b:=by rw [h]
theorem qbb {α:Type} {xs:List α} {k:Nat} {x:α} (h:xs[k]? = some x):xs.take (k+1)=xs.take k++[x]:=by rw [List.take_add_one,h];rfl
theorem qgs {α:Type} {xs:List α} {k:Nat} (h:¬ k<xs.length):xs.take k=xs:=List.take_of_length_le oo
theorem qai {α:Type} {xs:List α} {k:Nat} {x:α} (h:xs[k]? = some x):k<xs.length:=(List.getElem?_eq_some_iff.1 h).1
theorem qab {α:Type} {xs:List α} {k:Nat} (h:k<xs.length):∃ x,xs[k]? = some x:=⟨_,List.getElem?_eq_getElem h⟩
theorem qqo (b:ByteArray):∀ (n i:Nat) (r:List UInt8),b.size-i=n->ByteArray.toList.loop b i r=r.reverse++b.data.toList.drop i:=by
 intro n
 induction n with
 | zero =>
  intro i r h;unfold ByteArray.toList.loop;rw [if_neg oo]
  have : b.data.toList.length ≤ i := by have : b.data.toList.length = b.size := by rw [Array.length_toList]; rfl
                                        omega
  rw [List.drop_eq_nil_of_le this,List.append_nil]
 | succ n ih =>
  intro i r h;unfold ByteArray.toList.loop;rw [if_pos oo]
  have hl : i < b.data.toList.length := by have : b.data.toList.length = b.size := by rw [Array.length_toList]; rfl
                                           omega
  rw [ih (i+1) _ oo,List.drop_eq_getElem_cons hl];have:b.get! i=b.data.toList[i]:=by
   have hs:i<b.data.size:=by simpa using hl
   simp [ByteArray.get!,getElem!_pos b.data i hs]
  simp [this]
theorem qha (b:ByteArray):b.toList=b.data.toList:=by
 have h:=qqo b _ 0 [] rfl;simpa [ByteArray.toList] using h
theorem qu0 {a b:ByteArray}:a.toList=b.toList↔a=b:=by
 rw [qha,qha]
 constructor
 ·
  intro h
  cases a;cases b
  simp at h;rw [h]
 · intro h;rw [h]
theorem qfb (a b:ByteArray):(a.toList==b.toList)=decide (a=b):=by
 rw [Bool.eq_iff_iff];simp [qu0]
theorem qwg {a:ByteArray}:a.toList=[]↔a=⟨#[]⟩:=by
 rw [<- qu0 (a:=a)];rw [qha ⟨#[]⟩]
theorem qfg (a:ByteArray):a.toList.isEmpty=decide (a=⟨#[]⟩):=by
 rw [Bool.eq_iff_iff];simp [qwg]
def Ext (w w':World):Prop:=∀ (a:Addr) (v:Value),w.cell? a=some v->w'.cell? a=some v
theorem Ext.refl (w:World):Ext w w:=fun _ _ h=>h
theorem Ext.alloc {w w':World} (h:Ext w w') (o:Obj):Ext w (w'.alloc o):=fun p v e=>by
 have e':=h p v e;rw [World.cell?_alloc_lt w' o p (World.block_lt_of_cell? w' p e')];exact e'
theorem Ext.below {w w':World} (h:Below w.heap.size w w'):Ext w w':=fun p v e=>by
 rw [h.cell (World.block_lt_of_cell? w p e)];exact e
theorem qae1 {w w1 w2:World} (h:Below w.heap.size w w1) (k:Below w1.heap.size w1 w2):Below w.heap.size w w2:=h.trans (k.mono h.size)
theorem bth {w w1 w2:World} (h:Below w.heap.size w w1) (k:Below w1.heap.size w1 w2):Below w.heap.size w w2:=h.trans (k.mono h.size)
theorem xbw {w w':World} (h:Below w.heap.size w w'):Ext w w':=fun p v e=>by rw [h.cell (World.block_lt_of_cell? w p e)];exact e
theorem brf {B:Nat} {w:World}:Below B w w:=Below.refl _ _
theorem ltl {a b c:Nat} (h:a<b) (k:b<=c):a<c:=oo
theorem nlr (n:Nat):n<=n:=oo
theorem qfo (w:World) (o:Obj):Ext w (w.alloc o):=(Ext.refl w).alloc o
theorem held {w:World} {a:Addr} {v:Value} (h:w.cell? a=some v):∀ w',Below w.heap.size w w'->w'.cell? a=some v:=fun _ k=>xbw k _ _ h
def SlR {α:Type} (sz:Nat) (E:World->Nat->Nat->α->Prop) (w:World) (a:Option Addr) (cap:Nat) (xs:List α):Prop :=
 xs.length<=cap/\cap<=maxLen/\∀ (k:Nat) (x:α),xs[k]? = some x->∃ b off,a=some ⟨b,off,none⟩/\E w b (off+k*sz) x
section
variable {α : Type} {sz : Nat} {E E' : World -> Nat -> Nat -> α -> Prop} {w w' : World} {a : Option Addr} {cap : Nat} {xs : List α}
theorem SlR.nil:SlR sz E w none 0 []:=⟨nlr _,by simp [maxLen],fun k x h=>by simp at h⟩
theorem SlR.mono (h:SlR sz E w a cap xs) (hE:∀ b o x,x∈xs->E w b o x->E' w' b o x):SlR sz E' w' a cap xs:=by
 obtain ⟨h1,h2,h3⟩:=h;refine ⟨h1,h2,fun k x hx=>?_⟩;obtain ⟨b,off,ha,he⟩:=h3 k x hx;exact ⟨b,off,ha,hE _ _ _ (List.mem_of_getElem? hx) he⟩
theorem SlR.len (h:SlR sz E w a cap xs):xs.length<=9223372036854775807:=by have h1:=h.1;have h2:=h.2.1;unfold maxLen at h2;omega
end
def IntE (k:IntKind) (w:World) (b o:Nat) (x:Int):Prop:=w.cell? ⟨b,o,none⟩=some (.int k x)/\(Lit.int k x).wf=true
def BoolE (w:World) (b o:Nat) (x:Bool):Prop:=w.cell? ⟨b,o,none⟩=some (.bool x)
theorem IntE.ext {k:IntKind} {w w':World} {b o:Nat} {x:Int} (h:IntE k w b o x) (e:Ext w w'):IntE k w' b o x:=⟨e _ _ h.1,h.2⟩
def IntsR (w:World) (a:Option Addr) (cap:Nat) (xs:List Int):Prop:=SlR 1 (IntE .i64) w a cap xs
def NatR (w:World) (a:Option Addr) (cap:Nat) (xs:List Int):Prop:=SlR 1 (IntE .u16) w a cap xs
section
variable {w w' : World} {a : Option Addr} {cap : Nat}
theorem IntsR.ext {xs:List Int} (h:IntsR w a cap xs) (e:Ext w w'):IntsR w' a cap xs:=SlR.mono h fun _ _ _ _ h=>h.ext e
theorem NatR.ext {xs:List Int} (h:NatR w a cap xs) (e:Ext w w'):NatR w' a cap xs:=SlR.mono h fun _ _ _ _ h=>h.ext e
end
def InInt (x:Int):Prop:=-9223372036854775808<=x/\x<=9223372036854775807
theorem qdy {x:Int} (h:(Lit.int .i64 x).wf=true):InInt x:=by
 simpa [Lit.wf,IntKind.min,IntKind.max,IntKind.signed,IntKind.bits,InInt] using h
theorem wf_of {x:Int} (h:InInt x):(Lit.int .i64 x).wf=true:=by
 simpa [Lit.wf,IntKind.min,IntKind.max,IntKind.signed,IntKind.bits,InInt] using h
theorem qad4 {x:Int} (h:(Lit.int .u16 x).wf=true):0<=x/\x<=65535:=by
 simpa [Lit.wf,IntKind.min,IntKind.max,IntKind.signed,IntKind.bits] using h
theorem qiu {x:Int} (h:0<=x/\x<=65535):(Lit.int .u16 x).wf=true:=by
 simpa [Lit.wf,IntKind.min,IntKind.max,IntKind.signed,IntKind.bits] using h
theorem qh6 {α:Type} {f:α->List Value} {sz:Nat} (hf:∀ x,(f x).length=sz):∀ (l:List α) (k:Nat) (x:α) (j:Nat),l[k]? = some x->j<sz->(l.flatMap f)[k*sz+j]? = (f x)[j]?
 | [],k,x,j,h,_=>by simp at h
 | y :: l,0,x,j,h,hj=>by
  simp at h;subst h;simp only [List.flatMap_cons,Nat.zero_mul,Nat.zero_add];rw [List.getElem?_append_left (by rw [hf];exact hj)]
 | y :: l,k+1,x,j,h,hj=>by
  simp only [List.flatMap_cons];rw [List.getElem?_append_right (by rw [hf,Nat.add_mul];omega)];have:=qh6 hf l k x j (by simpa using h) hj;rw [<- this,hf,Nat.add_mul];congr 1;omega
theorem qfe {α:Type} {f:α->List Value} {sz:Nat} (hf:∀ x,(f x).length=sz) (l:List α):(l.flatMap f).length=l.length*sz:=by
 induction l with
 | nil=>simp
 | cons x l ih=>simp only [List.flatMap_cons,List.length_append,List.length_cons,ih,hf,Nat.add_mul];omega
def Own {α:Type} (f:α->List Value) (sz:Nat) (t:TypeId) (B:Nat) (w:World) (a:Option Addr) (c:Nat) (l:List α):Prop :=
 w.ownsRow B t sz (.slice a l.length c) l.length (l.flatMap f)
section
variable {α : Type} {f : α -> List Value} {sz : Nat} {t : TypeId} {B : Nat} {w w' : World} {a : Option Addr} {c : Nat} {l : List α}
theorem Own.nil:Own f sz t B w none 0 ([]:List α):=World.ownsRow_nil w B t sz
theorem Own.drew (h:Own f sz t B w a c l):Own f sz t B w.drew a c l:=h
theorem Own.alloc (h:Own f sz t B w a c l) (o:Obj):Own f sz t B (w.alloc o) a c l:=World.ownsRow.alloc h o
theorem Own.grown (h:Own f sz t B w a c l) {row:Option Nat} (hg:w.grownBy w' row) (hne:∀ g,a=some g->row≠some g.block):Own f sz t B w' a c l:=by
 refine World.ownsRow.kept h hg ?_
 cases a with
 | none=>exact .inl rfl
 | some g=>exact .inr (fun e=>hne g rfl (by rw [<- e];rfl))
theorem Own.lt (h:Own f sz t B w a c l) {g:Addr} (e:a=some g):B<=g.block/\g.block<w.heap.size:=World.ownsRow.lt h g.block (by subst e;rfl)
theorem Own.below (h:Own f sz t B w a c l) (hb:Below w.heap.size w w'):Own f sz t B w' a c l:=by
 refine ⟨h.1,?_⟩;rcases h.2 with hn | ⟨g,cap,cur,e,hg,hh,rest⟩
 · exact .inl hn
 · exact .inr ⟨g,cap,cur,e,hg,(hb.block g (Array.getElem?_eq_some_iff.1 hh).1).trans hh,rest⟩
theorem Own.base {B':Nat} (h:Own f sz t B w a c l) (hB:B'<=B):Own f sz t B' w a c l:=by
 refine ⟨h.1,?_⟩;rcases h.2 with hn | ⟨g,cap,cur,e,hg,rest⟩
 · exact .inl hn
 · exact .inr ⟨g,cap,cur,e,oo,rest⟩
theorem Own.cap (h:Own f sz t B w a c l):l.length<=c/\c<=maxLen:=by
 rcases h.2 with ⟨e,hn⟩ | ⟨g,cap,cur,e,_,_,h1,h2,_⟩
 ·
  injection e with _ _ e3
  rw [hn,e3];exact ⟨nlr _,by simp [maxLen]⟩
 ·
  injection e with _ _ e3
  subst e3;exact ⟨h1,h2⟩
theorem Own.at_ (hf:∀ x,(f x).length=sz) (h:Own f sz t B w a c l) {k:Nat} {x:α} (hx:l[k]? = some x) :
  ∃ g,a=some ⟨g,0,none⟩/\B<=g/\g<w.heap.size/\∀ j u,(f x)[j]? = some u->w.cell? ⟨g,k*sz+j,none⟩=some u:=by
 have hk:=qai hx;obtain ⟨g,cap,hv,hb,hlt⟩:=h.form oo;injection hv with h1 h2
 refine ⟨g,h1,hb,hlt,fun j u hu=>?_⟩;have hj:j<sz:=by rw [<- hf x];exact qai hu
 have:=World.ownsRow.cells h (g:=g) (by rw [h1];rfl) (k*sz+j) u (by rw [qh6 hf l k x j hx hj];exact hu)
 rwa [Addr.add_lit,Nat.zero_add] at this
theorem Own.reads {E:World->Nat->Nat->α->Prop} (hf:∀ x,(f x).length=sz) (h:Own f sz t B w a c l)
  (hE:∀ g o x,x∈l->(∀ j u,(f x)[j]? = some u->w.cell? ⟨g,o+j,none⟩=some u)->E w g o x):SlR sz E w a c l:=by
 refine ⟨h.cap.1,h.cap.2,fun k x hx=>?_⟩;obtain ⟨g,ha,_,_,hc⟩:=h.at_ hf hx;exact ⟨g,0,ha,hE _ _ _ (List.mem_of_getElem? hx) (by simpa using hc)⟩
end
def Blk (w:World) (g:Nat) (t:TypeId) (cs:Array Value):Prop:=w.heap[g]? = some (.cells cs t (0,0))
section
variable {w w' : World} {g : Nat} {t : TypeId} {cs : Array Value}
theorem Blk.lt (h:Blk w g t cs):g<w.heap.size:=(Array.getElem?_eq_some_iff.1 h).1
theorem Blk.cell (h:Blk w g t cs) (i:Nat):w.cell? ⟨g,i,none⟩=cs[i]?:=cell_of_row w g i cs t (0,0) h
theorem Blk.frozen (h:Blk w g t cs) (i:Nat):w.frozen? ⟨g,i,none⟩=false:=by
 unfold Blk at h;simp [World.frozen?,h]
theorem Blk.new (w:World) (t:TypeId) (cs:Array Value):Blk (w.alloc (.cells cs t)) w.heap.size t cs:=heap_alloc_new w _
theorem Blk.drew (h:Blk w g t cs):Blk w.drew g t cs:=h
theorem Blk.alloc (h:Blk w g t cs) (o:Obj):Blk (w.alloc o) g t cs:=(Below.heap_alloc w o g h.lt).trans h
theorem Blk.set_ (h:Blk w g t cs) (i:Nat) (u:Value):Blk (w.setCell ⟨g,i,none⟩ u) g t (cs.setIfInBounds i u):=by
 unfold Blk at h ⊢;simp [World.setCell,Array.getElem?_modify,h]
theorem Blk.far (h:Blk w g t cs) {p:Addr} (hp:g≠p.block) (u:Value):Blk (w.setCell p u) g t cs:=(Below.heap_setCell w p u g hp).trans h
theorem Blk.below {B:Nat} (h:Blk w g t cs) (hb:Below B w w') (hg:g<B):Blk w' g t cs:=(hb.block g hg).trans h
theorem Blk.below' (h:Blk w g t cs) (hb:Below w.heap.size w w'):Blk w' g t cs:=h.below hb h.lt
theorem Blk.grown {row:Option Nat} (h:Blk w g t cs) (hb:w.grownBy w' row) (hg:some g≠row):Blk w' g t cs:=(hb.block g h.lt hg).trans h
theorem Blk.under {α:Type} {f:α->List Value} {sz:Nat} {te:TypeId} {B:Nat} {w0:World} {a:Option Addr} {c:Nat} {l:List α} (h:Blk w g t cs) (ho:Own f sz te B w0 a c l) (hg:g<B)
  (hb:w.grownBy w' (Value.ownBlock (.slice a l.length c))):Blk w' g t cs:=h.grown hb (fun e=>by
 cases a with
 | none=>simp [Value.ownBlock] at e
 | some p=>simp [Value.ownBlock] at e;have:=(ho.lt rfl).1;omega)
end
section
variable {α : Type} {f : α -> List Value} {sz : Nat} {t : TypeId} {B : Nat} {w : World} {l : List α} {P : Program}
theorem qhb {o:Oper} {act:Act} {K:Act->World->Prop} {Q:Exit->Act->World->Prop} (s y:Operand) (ts:TypeId)
  (ho:o.op=.call { callee:=.builtin .append,args:=#[s,y],argTypes:=#[ts,ts] })
  {z:Value} {bytes:Nat} (ht:P.underlying ts=some (.slice t)) (hi:(P.info? t).map (fun i=>(i.zero,i.size,i.bytes))=some (some z,sz,bytes)) (hz:z.cells.size=sz) (hsz:0<sz) (hby:bytes<=1024)
  (hf:∀ x,(f x).length=sz) (a:Option Addr) (c:Nat) (hs:act.eval s=.slice a l.length c) (hown:Own f sz t B w a c l)
  (x:α) (hone:∀ u∈f x,u.oneCell'=true) (b c1:Nat) (hy:act.eval y=.slice (some ⟨b,0,none⟩) 1 c1) (hcell:∀ j u,(f x)[j]? = some u->w.cell? ⟨b,j,none⟩=some u)
  (l2:List α) (hl2:l2=l++[x]) (hlen:l2.length<=16777216) (hB:B<=w.heap.size)
  (h:∀ a' c' w',Own f sz t B w' a' c' l2->w.grownBy w' (Value.ownBlock (.slice a l.length c))->((∃ g,a'=some ⟨g,0,none⟩/\(a=some ⟨g,0,none⟩\/g=w.heap.size))) ->
   K (act.put o.dst (.slice a' l2.length c')) w'):o.wp P act w K Q:=by
 subst hl2;obtain ⟨i,hi0,hz0,hz1,hz2⟩:=info_parts hi;simp only [List.length_append,List.length_cons,List.length_nil,Nat.zero_add] at hlen;obtain ⟨v',w',hr,h2,h3,_,h5⟩:=run_append_own_at (P:=P) w B ts o.type t i z sz bytes ht hi0 hz0 hz1 hz2 hz hsz (.slice a l.length c) l.length (l.flatMap f) hown ⟨b,0,none⟩ 1 c1 (f x) (by rw [hf];omega)
  (fun j u hu=>by rw [Addr.add_lit,Nat.zero_add];exact hcell j u hu) hone (by unfold maxLen;omega)
  (by have : (l.length + 1) * bytes <= 16777216 * 1024 := Nat.mul_le_mul hlen hby
      omega) hB
 unfold Oper.wp execOp;simp only [ho,resolve,invoke,builtin,Sem.run_bind,Sem.run_pure,Result.andThen_ok,List.map_toArray,List.map_cons,List.map_nil,hs,hy,hr];have hf2:(l++[x]).flatMap f=l.flatMap f++f x:=by simp
 have hn:(l++[x]).length=l.length+1:=by simp
 obtain ⟨g,cap,hv,hb,hlt⟩:=h2.form oo;subst hv;rw [<- hn];refine h _ _ w' (by unfold Own;rw [hf2,hn];exact h2) h3 ⟨g,rfl,?_⟩;rcases h5 with h5 | h5
 ·
  left
  cases a with
  | none=>simp [Value.ownBlock] at h5
  | some g' =>
   have hg':g=g'.block:=by simpa [Value.ownBlock] using h5
   rcases hown.2 with ⟨e,_⟩ | ⟨g2,_,_,e,_⟩
   · cases e
   ·
    injection e with e1
    injection e1 with e1
    subst e1;simp at hg';rw [hg']
 ·
  right;simpa [Value.ownBlock] using h5
theorem qay {ops:Array Oper} {rest:List Oper} {o:Oper} {act:Act} {Q:Exit->Act->World->Prop} (hgd:o.guard=none) (s y:Operand) (ts:TypeId)
  (ho:o.op=.call { callee:=.builtin .append,args:=#[s,y],argTypes:=#[ts,ts] })
  {z:Value} {bytes:Nat} (ht:P.underlying ts=some (.slice t)) (hi:(P.info? t).map (fun i=>(i.zero,i.size,i.bytes))=some (some z,sz,bytes)) (hz:z.cells.size=sz) (hsz:0<sz) (hby:bytes<=1024)
  (hf:∀ x,(f x).length=sz) (a:Option Addr) (c:Nat) (hs:act.eval s=.slice a l.length c) (hown:Own f sz t B w a c l)
  (x:α) (hone:∀ u∈f x,u.oneCell'=true) (b c1:Nat) (hy:act.eval y=.slice (some ⟨b,0,none⟩) 1 c1) (hcell:∀ j u,(f x)[j]? = some u->w.cell? ⟨b,j,none⟩=some u)
  (l2:List α) (hl2:l2=l++[x]) (hlen:l2.length<=16777216) (hB:B<=w.heap.size)
  (h:∀ a' c' w',Own f sz t B w' a' c' l2->w.grownBy w' (Value.ownBlock (.slice a l.length c))->((∃ g,a'=some ⟨g,0,none⟩/\(a=some ⟨g,0,none⟩\/g=w.heap.size))) ->
   wpList P ops Q rest (act.put o.dst (.slice a' l2.length c')) w'):wpList P ops Q (o :: rest) act w :=
 wpList_plain hgd fun _ hK=>qhb s y ts ho ht hi hz hsz hby hf a c hs hown x hone b c1 hy hcell l2 hl2 hlen hB fun a' c' w' h1 h2 h3=>hK _ _ (h a' c' w' h1 h2 h3)
end
theorem qio {W w w':World} {a:Option Addr} {n c:Nat} (h:Below W.heap.size W w) (hg:w.grownBy w' (Value.ownBlock (.slice a n c))) (hr:∀ g,a=some g->W.heap.size<=g.block):Below W.heap.size W w' :=
 h.grown hg h.size (fun k hk=>by
  cases a with
  | none=>simp [Value.ownBlock] at hk
  | some g=>simp [Value.ownBlock] at hk;subst hk;exact hr g rfl)
theorem qal {W w w':World} {α:Type} {f:α->List Value} {sz:Nat} {t:TypeId} {a:Option Addr} {c:Nat} {l:List α} (h:Below W.heap.size W w) (ho:Own f sz t W.heap.size w a c l)
  (hg:w.grownBy w' (Value.ownBlock (.slice a l.length c))):Below W.heap.size W w':=qio h hg fun _ e=>(ho.lt e).1
section
variable {w:World} {g:Nat} {t:TypeId} {cs:Array Value}
theorem cq2 (h:Blk w g t cs):w.cell? ⟨g,0,none⟩=cs[0]? /\ w.cell? ⟨g,1,none⟩=cs[1]?:=⟨h.cell 0,h.cell 1⟩
theorem cq3 (h:Blk w g t cs):w.cell? ⟨g,0,none⟩=cs[0]? /\ w.cell? ⟨g,1,none⟩=cs[1]? /\ w.cell? ⟨g,2,none⟩=cs[2]?:=⟨h.cell 0,h.cell 1,h.cell 2⟩
theorem cq4 (h:Blk w g t cs):w.cell? ⟨g,0,none⟩=cs[0]? /\ w.cell? ⟨g,1,none⟩=cs[1]? /\ w.cell? ⟨g,2,none⟩=cs[2]? /\ w.cell? ⟨g,3,none⟩=cs[3]?:=⟨h.cell 0,h.cell 1,h.cell 2,h.cell 3⟩
theorem cq5 (h:Blk w g t cs):w.cell? ⟨g,0,none⟩=cs[0]? /\ w.cell? ⟨g,1,none⟩=cs[1]? /\ w.cell? ⟨g,2,none⟩=cs[2]? /\ w.cell? ⟨g,3,none⟩=cs[3]? /\ w.cell? ⟨g,4,none⟩=cs[4]?:=⟨h.cell 0,h.cell 1,h.cell 2,h.cell 3,h.cell 4⟩
theorem cq6 (h:Blk w g t cs):w.cell? ⟨g,0,none⟩=cs[0]? /\ w.cell? ⟨g,1,none⟩=cs[1]? /\ w.cell? ⟨g,2,none⟩=cs[2]? /\ w.cell? ⟨g,3,none⟩=cs[3]? /\ w.cell? ⟨g,4,none⟩=cs[4]? /\ w.cell? ⟨g,5,none⟩=cs[5]?:=⟨h.cell 0,h.cell 1,h.cell 2,h.cell 3,h.cell 4,h.cell 5⟩
theorem fq2 (h:Blk w g t cs):w.frozen? ⟨g,0,none⟩=false/\w.frozen? ⟨g,1,none⟩=false:=⟨h.frozen 0,h.frozen 1⟩
theorem fq3 (h:Blk w g t cs):w.frozen? ⟨g,0,none⟩=false/\w.frozen? ⟨g,1,none⟩=false/\w.frozen? ⟨g,2,none⟩=false:=⟨h.frozen 0,h.frozen 1,h.frozen 2⟩
theorem fq4 (h:Blk w g t cs):w.frozen? ⟨g,0,none⟩=false/\w.frozen? ⟨g,1,none⟩=false/\w.frozen? ⟨g,2,none⟩=false/\w.frozen? ⟨g,3,none⟩=false:=⟨h.frozen 0,h.frozen 1,h.frozen 2,h.frozen 3⟩
theorem fq5 (h:Blk w g t cs):w.frozen? ⟨g,0,none⟩=false/\w.frozen? ⟨g,1,none⟩=false/\w.frozen? ⟨g,2,none⟩=false/\w.frozen? ⟨g,3,none⟩=false/\w.frozen? ⟨g,4,none⟩=false:=⟨h.frozen 0,h.frozen 1,h.frozen 2,h.frozen 3,h.frozen 4⟩
theorem fq6 (h:Blk w g t cs):w.frozen? ⟨g,0,none⟩=false/\w.frozen? ⟨g,1,none⟩=false/\w.frozen? ⟨g,2,none⟩=false/\w.frozen? ⟨g,3,none⟩=false/\w.frozen? ⟨g,4,none⟩=false/\w.frozen? ⟨g,5,none⟩=false:=⟨h.frozen 0,h.frozen 1,h.frozen 2,h.frozen 3,h.frozen 4,h.frozen 5⟩
end
theorem bk {P:Prop} (h:P:=by ((with_reducible repeat first|assumption|(apply bF;focus omega)|apply bS|(apply bN;focus (simp;done))|apply bA|apply bD);all_goals rfl)):P:=h
def New (B:Nat) (w V:World):Prop:=∀ p v,B<=p.block->w.cell? p=some v->V.cell? p=some v
def qn9 (B:Nat) (a:Option Addr) (w V:World):Prop:=∀ p v,B<=p.block->(∀ g,a=some g->p.block≠g.block)->w.cell? p=some v->V.cell? p=some v
theorem New.refl (B:Nat) (w:World):New B w w:=fun _ _ _ h=>h
theorem New.base {B B':Nat} {w V:World} (h:New B w V) (hB:B<=B'):New B' w V:=fun p v hp hc=>h p v (Nat.le_trans hB hp) hc
section
variable {α : Type} {f : α -> List Value} {sz : Nat} {t : TypeId} {B : Nat} {w V : World} {a : Option Addr} {c : Nat} {l : List α}
theorem Own.readsIn {β:Type} {E:World->Nat->Nat->β->Prop} (g:α->β) (hf:∀ x,(f x).length=sz) (h:Own f sz t B w a c l) (hV:New B w V)
  (hE:∀ b o x,x∈l->(∀ j u,(f x)[j]? = some u->V.cell? ⟨b,o+j,none⟩=some u)->E V b o (g x)):SlR sz E V a c (l.map g):=by
 refine ⟨by simpa using h.cap.1,h.cap.2,fun k y hy=>?_⟩;rw [List.getElem?_map] at hy;obtain ⟨x,hx,rfl⟩:=Option.map_eq_some_iff.1 hy;obtain ⟨b,ha,hB,_,hc⟩:=h.at_ hf hx;exact ⟨b,0,ha,hE _ _ _ (List.mem_of_getElem? hx) (fun j u hu=>hV _ _ hB (by simpa using hc j u hu))⟩
end
section
variable {α : Type} {f : α -> List Value} {sz : Nat} {t : TypeId} {B : Nat} {w V : World} {a : Option Addr} {c : Nat} {l : List α}
theorem Own.far (h:Own f sz t B w a c l) {p:Addr} (hp:p.block<B) (u:Value):Own f sz t B (w.setCell p u) a c l:=by
 refine ⟨h.1,?_⟩;rcases h.2 with hn | ⟨g,cap,cur,e,hg,hh,rest⟩
 · exact .inl hn
 · exact .inr ⟨g,cap,cur,e,hg,(Below.heap_setCell w p u _ oo).trans hh,rest⟩
end
theorem qn9.unset {B:Nat} {a:Option Addr} {w V:World} {p:Addr} {u:Value} (h:qn9 B a (w.setCell p u) V) (hp:p.block<B):qn9 B a w V:=fun q v hq hne hc =>
 h q v hq hne ((World.cell?_setCell_other w p q u (fun e=>by subst e;omega)).trans hc)
theorem New.unset {B:Nat} {w V:World} {p:Addr} {u:Value} (h:New B (w.setCell p u) V) (hp:p.block<B):New B w V:=fun q v hq hc =>
 h q v hq ((World.cell?_setCell_other w p q u (fun e=>by subst e;omega)).trans hc)
theorem qa5 (w:World) (o:Obj) (t:TypeId) (cs:Array Value):Blk ((w.alloc o).alloc (.cells cs t)) (w.heap.size+1) t cs:=by have:=Blk.new (w.alloc o) t cs;simpa using this
theorem qb6 (w:World) (o o2:Obj) (t:TypeId) (cs:Array Value):Blk (((w.alloc o).alloc o2).alloc (.cells cs t)) (w.heap.size+1+1) t cs:=by have:=Blk.new ((w.alloc o).alloc o2) t cs;simpa using this
theorem New.below {B:Nat} {w w' V:World} (h:New B w' V) (hb:Below w.heap.size w w'):New B w V:=fun p v hp hc=>h p v hp ((hb.cell (World.block_lt_of_cell? w p hc)).trans hc)
theorem New.unalloc {B:Nat} {w V:World} {o:Obj} (h:New B (w.alloc o) V):New B w V:=fun p v hp hc=>h p v hp ((World.cell?_alloc_lt w o p (World.block_lt_of_cell? w p hc)).trans hc)
theorem Own.ne_blk {α:Type} {f:α->List Value} {sz:Nat} {t t':TypeId} {B g:Nat} {w:World} {a:Option Addr} {c:Nat} {l:List α} {cs:Array Value} (h:Own f sz t B w a c l) (hb:Blk w g t' cs) (hne:t≠t'):some g≠Value.ownBlock (.slice a l.length c):=by
 intro e
 cases a with
 | none=>simp [Value.ownBlock] at e
 | some p =>
  simp [Value.ownBlock] at e;rcases h.2 with ⟨hn,_⟩ | ⟨g',cap,cur,hv,_,hh,_⟩
  · cases hn
  ·
   injection hv with hv
   injection hv with hv
   subst hv;simp at e;subst e;unfold Blk at hb;rw [hb] at hh;injection hh with hh
   injection hh with _ ht
   exact hne ht.symm
end Go.Proofs.YtmdlbpibipnapaaGreat
namespace Go.Proofs.YtmdlbpibipnapaaGreat
def val:List Int->Nat
 | []=>0
 | x :: l=>x.toNat+65536*val l
def limbs (n:Nat):List Int:=if h:n=0 then [] else ((n % 65536:Nat):Int) :: limbs (n / 65536)
termination_by n
decreasing_by omega
def U16 (l:List Int):Prop:=∀ x∈l,0<=x/\x<=65535
theorem U16.nil:U16 []:=fun _ h=>by cases h
theorem U16.cons {x:Int} {l:List Int} (h:0<=x/\x<=65535) (k:U16 l):U16 (x :: l):=fun y hy=>by
 rcases List.mem_cons.1 hy with rfl | hy
 · exact h
 · exact k y hy
theorem U16.head {x:Int} {l:List Int} (h:U16 (x :: l)):0<=x/\x<=65535:=h x (by simp)
theorem U16.tail {x:Int} {l:List Int} (h:U16 (x :: l)):U16 l:=fun y hy=>h y (by simp [hy])
theorem U16.app {l m:List Int} (h:U16 l) (k:U16 m):U16 (l++m):=fun y hy=>by
 rcases List.mem_append.1 hy with hy | hy
 · exact h y hy
 · exact k y hy
theorem U16.take {l:List Int} (h:U16 l) (k:Nat):U16 (l.take k):=fun y hy=>h y (List.mem_of_mem_take hy)
theorem U16.drop {l:List Int} (h:U16 l) (k:Nat):U16 (l.drop k):=fun y hy=>h y (List.mem_of_mem_drop hy)
theorem U16.get {l:List Int} (h:U16 l) {k:Nat} {x:Int} (hx:l[k]? = some x):0<=x/\x<=65535:=h x (List.mem_of_getElem? hx)
theorem U16.set_ {l:List Int} (h:U16 l) {k:Nat} {x:Int} (hx:0<=x/\x<=65535):U16 (l.set k x):=fun y hy=>by
 rcases List.mem_or_eq_of_mem_set hy with hy | rfl
 · exact h y hy
 · exact hx
theorem qao:limbs 0=[]:=by rw [limbs];simp
theorem qb8 {n:Nat} (h:n≠0):limbs n=((n % 65536:Nat):Int) :: limbs (n / 65536):=by rw [limbs];simp [h]
theorem qa9 (n:Nat):U16 (limbs n):=by
 induction n using Nat.strongRecOn with
 | ind n ih =>
  by_cases h:n=0
  · subst h;rw [qao];exact U16.nil
  · rw [qb8 h];exact U16.cons oo (ih _ oo)
theorem qac (n:Nat):val (limbs n)=n:=by
 induction n using Nat.strongRecOn with
 | ind n ih =>
  by_cases h:n=0
  · subst h;rw [qao];rfl
  · rw [qb8 h,val,ih _ oo];omega
theorem qf3 (l m:List Int):val (l++m)=val l+65536 ^ l.length*val m:=by
 induction l with
 | nil=>simp [val]
 | cons x l ih =>
  simp only [List.cons_append,val,ih,List.length_cons,Nat.pow_succ];rw [Nat.mul_add,<- Nat.mul_assoc,Nat.mul_comm 65536 (65536 ^ l.length),Nat.add_assoc]
theorem qcs {l:List Int} (h:U16 l):val l<65536 ^ l.length:=by
 induction l with
 | nil=>simp [val]
 | cons x l ih =>
  have h1:=ih h.tail;have h2:=h.head;simp only [val,List.length_cons,Nat.pow_succ]
  omega
theorem qgo (l:List Int) (x:Int):val (l++[x])=val l+65536 ^ l.length*x.toNat:=by rw [qf3];simp [val]
theorem qgf {l:List Int} {k:Nat} {x:Int} (h:l[k]? = some x):val (l.take (k+1))=val (l.take k)+65536 ^ k*x.toNat:=by
 rw [qbb h,qgo];have:(l.take k).length=k:=by have:=qai h;simp;omega
 rw [this]
theorem qck {l:List Int} {k:Nat} {x:Int} (h:l[k]? = some x):val (l.drop k)=x.toNat+65536*val (l.drop (k+1)):=by
 have hk:=qai h;rw [List.drop_eq_getElem_cons hk];have:l[k]=x:=by rw [List.getElem?_eq_getElem hk] at h;exact Option.some.inj h
 rw [this,val]
theorem qcd (l:List Int) (k:Nat):val l=val (l.take k)+65536 ^ (l.take k).length*val (l.drop k):=by
 have:=qf3 (l.take k) (l.drop k)
 rwa [List.take_append_drop] at this
theorem qaw {l:List Int} {k:Nat} (h:l.length<=k):val (l.drop k)=0:=by rw [List.drop_eq_nil_of_le h];rfl
theorem qaz {l:List Int} {k:Nat} (h:l.length<=k):val (l.take k)=val l:=by rw [List.take_of_length_le h]
theorem qg6 {l:List Int} (h:U16 l) (hc:∀ x,l.getLast? = some x->x≠0):limbs (val l)=l:=by
 induction l with
 | nil=>exact qao
 | cons x l ih =>
  have h1:=h.head;have hv:val (x :: l)=x.toNat+65536*val l:=rfl;have hl:limbs (val l)=l:=ih h.tail (fun y hy=>hc y (by
   cases l with
   | nil=>simp at hy
   | cons z l=>rw [List.getLast?_cons_cons];exact hy))
  have hne:val (x :: l)≠0:=by
   intro e;rw [hv] at e
   cases l with
   | nil=>exact hc x (by simp) oo
   | cons z l =>
    have:val (z :: l)=0:=oo
    rw [this,qao] at hl
    cases hl
  rw [qb8 hne,hv];have e1:(x.toNat+65536*val l) % 65536=x.toNat:=oo
  have e2:(x.toNat+65536*val l) / 65536=val l:=oo
  rw [e1,e2,hl];congr 1
  omega
theorem qh0 {n:Nat} {x:Int} (h:(limbs n).getLast? = some x):x≠0:=by
 induction n using Nat.strongRecOn generalizing x with
 | ind n ih =>
  by_cases h0:n=0
  · subst h0;rw [qao] at h;simp at h
  ·
   rw [qb8 h0] at h;by_cases h1:n / 65536=0
   ·
    rw [h1,qao] at h;simp at h
    omega
   ·
    have:limbs (n / 65536)≠[]:=by rw [qb8 h1];simp
    obtain ⟨y,t,ht⟩:=List.exists_cons_of_ne_nil this;rw [ht,List.getLast?_cons_cons,<- ht] at h;exact ih _ oo h
theorem qwz {n m:Nat}:limbs n=limbs m↔n=m:=by
 constructor
 · intro e;rw [<- qac n,<- qac m,e]
 · intro e;rw [e]
theorem qam {n k:Nat} (h:n<65536 ^ k):(limbs n).length<=k:=by
 induction k generalizing n with
 | zero => have : n = 0 := by simpa using h
           subst this;simp [qao]
 | succ k ih =>
  by_cases h0:n=0
  · subst h0;simp [qao]
  ·
   rw [qb8 h0];have:=ih (n:=n / 65536) (by rw [Nat.pow_succ] at h;omega);simp only [List.length_cons]
   omega
theorem qat {n:Nat}:0<(limbs n).length↔0<n:=by
 constructor
 ·
  intro h;apply Nat.pos_of_ne_zero;intro e;subst e;simp [qao] at h
 · intro h;rw [qb8 oo];simp
theorem qa3 (n:Nat):n<65536 ^ (limbs n).length:=by have:=qcs (qa9 n);rwa [qac] at this
theorem qap {n m:Nat} (h:n<=m):(limbs n).length<=(limbs m).length:=qam (Nat.lt_of_le_of_lt h (qa3 m))
theorem qah {l:List Int} (h:U16 l):(limbs (val l)).length<=l.length:=qam (qcs h)
theorem qa0 (a b:Nat):(limbs (a*b)).length<=(limbs a).length+(limbs b).length:=by
 apply qam;rw [Nat.pow_add];exact Nat.mul_lt_mul'' (qa3 a) (qa3 b)
theorem qdm (a b:Nat):(limbs (a+b)).length<=max (limbs a).length (limbs b).length+1:=by
 apply qam;rw [Nat.pow_succ];have h1:=qa3 a;have h2:=qa3 b;have h3:65536 ^ (limbs a).length<=65536 ^ (max (limbs a).length (limbs b).length):=Nat.pow_le_pow_right oo oo;have h4:65536 ^ (limbs b).length<=65536 ^ (max (limbs a).length (limbs b).length):=Nat.pow_le_pow_right oo oo
 omega
theorem qi7 {l:List Int} (h:U16 l) {k:Nat} (hk:val (l.drop k)=0) (hc:∀ x,k≠0->l[k-1]? = some x->x≠0) (hkl:k<=l.length):limbs (val l)=l.take k:=by
 have h1:val l=val (l.take k):=by rw [qcd l k,hk];omega
 rw [h1];apply qg6 (h.take k);intro x hx;by_cases h0:k=0
 · subst h0;simp at hx
 ·
  refine hc x h0 ?_;rw [List.getLast?_eq_getElem?,List.length_take,List.getElem?_take] at hx;have e:min k l.length=k:=oo
  rw [e,if_pos oo] at hx;exact hx
def cmpN (a b:Nat):Int:=if a<b then -1 else if b<a then 1 else 0
theorem qmb {a b:Nat}:cmpN a b<0↔a<b:=by unfold cmpN;split <;> (try split) <;> omega
theorem qzq {a b:Nat}:cmpN a b<=0↔a<=b:=by unfold cmpN;split <;> (try split) <;> omega
theorem ql9 {a b:Nat}:0<=cmpN a b↔b<=a:=by unfold cmpN;split <;> (try split) <;> omega
theorem quh {a b:Nat}:cmpN a b=0↔a=b:=by unfold cmpN;split <;> (try split) <;> omega
def qag (l:List Int) (k:Nat):Int:=(l[k]?).getD 0
theorem qax {l:List Int} {k:Nat} {x:Int} (h:l[k]? = some x):qag l k=x:=by simp [qag,h]
theorem qb1 {l:List Int} {k:Nat} (h:l.length<=k):qag l k=0:=by simp [qag,h]
theorem qbd {l:List Int} (h:U16 l) (k:Nat):0<=qag l k/\qag l k<=65535:=by
 unfold qag
 cases hx:l[k]? with
 | none=>simp
 | some x=>exact h.get hx
theorem qbe (l:List Int) (k:Nat):val (l.drop k)=(qag l k).toNat+65536*val (l.drop (k+1)):=by
 cases hx:l[k]? with
 | none =>
  have:=List.getElem?_eq_none_iff.1 hx;rw [qb1 this,qaw this,qaw oo];rfl
 | some x=>rw [qax hx];exact qck hx
theorem qc5 {l:List Int} (k:Nat):val (l.take (k+1))=val (l.take k)+65536 ^ k*(qag l k).toNat:=by
 cases hx:l[k]? with
 | none =>
  have:=List.getElem?_eq_none_iff.1 hx;rw [qb1 this,qaz this,qaz oo];simp
 | some x=>rw [qax hx];exact qgf hx
theorem qbv {l:List Int} (h:U16 l) (k:Nat):∃ lo,lo<65536 ^ k/\val l=lo+65536 ^ k*val (l.drop k):=by
 refine ⟨val (l.take k),?_,?_⟩
 · refine ltl (qcs (h.take k)) (Nat.pow_le_pow_right oo (by simp;omega))
 ·
  by_cases hk:k<=l.length
  ·
   have:=qcd l k;have e:(l.take k).length=k:=by simp;omega
   rwa [e] at this
  · rw [qaw oo,qaz oo];omega
theorem qg5 {a b:List Int} (ha:U16 a) (hb:U16 b) (k:Nat) (he:val (a.drop (k+1))=val (b.drop (k+1))) (h:qag a k<qag b k):val a<val b:=by
 obtain ⟨p,hp,e1⟩:=qbv ha k;obtain ⟨q,hq,e2⟩:=qbv hb k;rw [qbe] at e1 e2;rw [e1,e2,he];have h1:=qbd ha k;have h2:(qag a k).toNat+65536*val (b.drop (k+1))+1<=(qag b k).toNat+65536*val (b.drop (k+1)):=oo
 have h3:=Nat.mul_le_mul_left (65536 ^ k) h2;rw [Nat.mul_add _ _ 1] at h3
 omega
end Go.Proofs.YtmdlbpibipnapaaGreat
namespace Go.Proofs.YtmdlbpibipnapaaGreat
open Go.RowKit
def natC (x:Int):List Value:=[.int .u16 x]
theorem qe7 (s:Int):(natC s).length=1:=rfl
theorem qox (s:Int):∀ u∈natC s,u.oneCell'=true:=by simp [natC,Value.oneCell']
theorem qwf {w:World} {b:Nat} {s:Int} (h:w.cell? ⟨b,0,none⟩=some (.int .u16 s)):∀ j u,(natC s)[j]? = some u->w.cell? ⟨b,j,none⟩=some u:=by
 intro j u hu
 match j,hu with
 | 0,hu=>simp [natC] at hu;subst hu;exact h
theorem qj4 (l:List Int):l.flatMap natC=l.map (Value.int .u16):=by
 induction l with
 | nil=>rfl
 | cons x l ih=>rw [List.flatMap_cons,ih];rfl
abbrev OwnN (B:Nat) (w:World) (a:Option Addr) (c:Nat) (l:List Int):Prop:=Own natC 1 105 B w a c l
theorem infoN:(Tryz.prog.info? 105).map (fun i=>(i.zero,i.size,i.bytes))=some (some (.int .u16 0),1,2):=by kernel_rfl
theorem NatR.u16 {w:World} {a:Option Addr} {c:Nat} {l:List Int} (h:NatR w a c l):U16 l:=fun x hx=>by
 obtain ⟨k,hk⟩:=List.mem_iff_getElem?.1 hx;obtain ⟨b,off,_,he⟩:=h.2.2 k x hk;exact qad4 he.2
theorem NatR.take {w:World} {a:Option Addr} {c:Nat} {l:List Int} (h:NatR w a c l) (k:Nat):NatR w a c (l.take k):=by
 refine ⟨by have:=h.1;simp;omega,h.2.1,fun j x hx=>?_⟩;rw [List.getElem?_take] at hx
 split at hx
 · exact h.2.2 j x hx
 · cases hx
theorem NatR.zero {w:World} {a:Option Addr} {c:Nat} {l:List Int} (h:NatR w a c l):NatR w a c []:=by have:=h.take 0;simpa using this
theorem NatR.cell {w:World} {a:Option Addr} {c:Nat} {l:List Int} (h:NatR w a c l) {k:Nat} {x:Int} (hx:l[k]? = some x):∃ b off,a=some ⟨b,off,none⟩/\w.cell? ⟨b,off+k,none⟩=some (.int .u16 x):=by
 obtain ⟨b,off,e,hc⟩:=h.2.2 k x hx;exact ⟨b,off,e,by simpa using hc.1⟩
theorem OwnN.reads1 {B:Nat} {w:World} {a:Option Addr} {c:Nat} {l:List Int} (h:OwnN B w a c l) (hs:U16 l):NatR w a c l :=
 Own.reads qe7 h fun g o x hx hc=>⟨by simpa using hc 0 _ rfl,qiu (hs x hx)⟩
theorem OwnN.readsV {B:Nat} {w V:World} {a:Option Addr} {c:Nat} {l:List Int} (h:OwnN B w a c l) (hV:New B w V) (hs:U16 l):NatR V a c l:=by
 have:=Own.readsIn (E:=IntE .u16) (β:=Int) id qe7 h hV (fun b o x hx hc=>⟨by simpa using hc 0 _ rfl,qiu (hs x hx)⟩)
 rwa [List.map_id] at this
theorem qd0 {B:Nat} {w:World} {l:List Int} {ops:Array Oper} {rest:List Oper} {o:Oper} {act:Act} {Q:Exit->Act->World->Prop} (hgd:o.guard=none) (s y:Operand)
  (ho:o.op=.call { callee:=.builtin .append,args:=#[s,y],argTypes:=#[28,28] })
  (a:Option Addr) (c:Nat) (hs:act.eval s=.slice a l.length c) (hown:OwnN B w a c l)
  (x:Int) (b c1:Nat) (hy:act.eval y=.slice (some ⟨b,0,none⟩) 1 c1) (hcell:w.cell? ⟨b,0,none⟩=some (.int .u16 x))
  (l2:List Int) (hl2:l2=l++[x]) (hlen:l2.length<=16777216) (hB:B<=w.heap.size)
  (h:∀ a' c' w',OwnN B w' a' c' l2->w.grownBy w' (Value.ownBlock (.slice a l.length c))->((∃ g,a'=some ⟨g,0,none⟩/\(a=some ⟨g,0,none⟩\/g=w.heap.size))) ->
   wpList Tryz.prog ops Q rest (act.put o.dst (.slice a' l2.length c')) w'):wpList Tryz.prog ops Q (o :: rest) act w :=
 qay hgd s y 28 ho Tryz.underlying28 infoN rfl oo oo qe7 a c hs hown x (qox x) b c1 hy (qwf hcell) l2 hl2 hlen hB h
section
variable {α : Type} {f : α -> List Value} {sz : Nat} {t : TypeId} {B : Nat} {w : World} {l m : List α} {P : Program}
theorem qjm (ts ty e:TypeId) (i:TypeInfo) (ht:P.underlying ts=some (.slice e)) (hi:P.info? e=some i)
  (v:Value) (n:Nat) (xs:List Value) (size:Nat) (hown:w.ownsRow B e size v n xs) (c:Nat):(Builtin.append_ #[ts,ts] ty #[v,.slice none 0 c]).run P w=.ok v w:=by
 rcases hown.2 with ⟨rfl,rfl⟩ | ⟨g,cap,cur,rfl,_,_,hnc,_⟩
 · simp [Builtin.append_,run_underlying ht,sizeOf,typeInfo,hi,Builtin.lenOf,Builtin.firstCells]
 · simp [Builtin.append_,run_underlying ht,sizeOf,typeInfo,hi,Builtin.lenOf,Builtin.firstCells,hnc,storeCells]
theorem qqy {o:Oper} {act:Act} {K:Act->World->Prop} {Q:Exit->Act->World->Prop} (s y:Operand) (ts:TypeId)
  (ho:o.op=.call { callee:=.builtin .append,args:=#[s,y],argTypes:=#[ts,ts] })
  {z:Value} {bytes:Nat} (ht:P.underlying ts=some (.slice t)) (hi:(P.info? t).map (fun i=>(i.zero,i.size,i.bytes))=some (some z,sz,bytes)) (hz:z.cells.size=sz) (hsz:0<sz) (hby:bytes<=1024)
  (hf:∀ x,(f x).length=sz) (a:Option Addr) (c:Nat) (hs:act.eval s=.slice a l.length c) (hown:Own f sz t B w a c l)
  (hone:∀ x∈m,∀ u∈f x,u.oneCell'=true) (am:Option Addr) (cm:Nat) (hy:act.eval y=.slice am m.length cm)
  (hcell:∀ k x,m[k]? = some x->∃ b off,am=some ⟨b,off,none⟩/\∀ j u,(f x)[j]? = some u->w.cell? ⟨b,off+(k*sz+j),none⟩=some u)
  (l2:List α) (hl2:l2=l++m) (hlen:l2.length<=16777216) (hB:B<=w.heap.size)
  (h:∀ a' c' w',Own f sz t B w' a' c' l2->w.grownBy w' (Value.ownBlock (.slice a l.length c))->Below B w w' ->
   K (act.put o.dst (.slice a' l2.length c')) w'):o.wp P act w K Q:=by
 subst hl2;obtain ⟨i,hi0,hz0,hz1,hz2⟩:=info_parts hi;simp only [List.length_append] at hlen;have hf2:(l++m).flatMap f=l.flatMap f++m.flatMap f:=by simp
 have key:∃ v' w',(Builtin.append_ #[ts,ts] o.type #[.slice a l.length c,.slice am m.length cm]).run P w=.ok v' w'/\w'.ownsRow B t sz v' (l.length+m.length) (l.flatMap f++m.flatMap f)/\w.grownBy w' (Value.ownBlock (.slice a l.length c)):=by
  cases am with
  | none =>
   have hm:m=[]:=by
    cases m with
    | nil=>rfl
    | cons x m=>obtain ⟨b,off,e,_⟩:=hcell 0 x rfl;cases e
   subst hm;exact ⟨_,w,qjm ts o.type t i ht hi0 _ _ _ sz hown cm,by have:=hown;unfold Own at this;simpa using this,World.grownBy.refl w _⟩
  | some ad =>
   obtain ⟨v',w',hr,h2,h3,_,_⟩:=run_append_own_at (P:=P) w B ts o.type t i z sz bytes ht hi0 hz0 hz1 hz2 hz hsz (.slice a l.length c) l.length (l.flatMap f) hown ad m.length cm (m.flatMap f) (qfe hf m)
    (fun j u hu=>by
     have hj:j<m.length*sz:=by rw [<- qfe hf m];exact qai hu
     have hk:j / sz<m.length:=(Nat.div_lt_iff_lt_mul hsz).2 hj;obtain ⟨x,hx⟩:=qab hk;obtain ⟨b,off,e,hc⟩:=hcell _ x hx;injection e with e
     subst e;have hd:j=j / sz*sz+j % sz:=by have:=Nat.div_add_mod j sz;rw [Nat.mul_comm] at this;omega
     have h1:=qh6 hf m (j / sz) x (j % sz) hx (Nat.mod_lt _ hsz);rw [<- hd,hu] at h1;have:=hc _ _ h1.symm;rw [Addr.add_lit,hd];exact this) (fun u hu=>by
     obtain ⟨x,hx,hux⟩:=List.mem_flatMap.1 hu;exact hone x hx u hux) (by unfold maxLen;omega)
    (by have : (l.length + m.length) * bytes <= 16777216 * 1024 := Nat.mul_le_mul hlen hby
        omega) hB
   exact ⟨v',w',hr,h2,h3⟩
 obtain ⟨v',w',hr,h2,h3⟩:=key;have hbel:Below B w w':=brf.grown h3 hB (fun k hk=>by
  cases a with
  | none=>simp [Value.ownBlock] at hk
  | some g=>simp [Value.ownBlock] at hk;subst hk;exact (hown.lt rfl).1)
 unfold Oper.wp execOp;simp only [ho,resolve,invoke,builtin,Sem.run_bind,Sem.run_pure,Result.andThen_ok,List.map_toArray,List.map_cons,List.map_nil,hs,hy,hr];have hn:(l++m).length=l.length+m.length:=by simp
 rcases h2.2 with ⟨e,e0⟩ | ⟨g,cap,cur,e,_⟩
 ·
  have hn0:(l++m).length=0:=by rw [hn,e0]
  subst e;have:=h none 0 w' (by unfold Own;rw [hf2,hn0];rw [e0] at h2;exact h2) h3 hbel;rw [hn0] at this;exact this
 ·
  subst e;have:=h (some ⟨g,0,none⟩) cap w' (by unfold Own;rw [hf2,hn];exact h2) h3 hbel;rw [hn] at this;exact this
end
theorem qec {B:Nat} {w:World} {l m:List Int} {ops:Array Oper} {rest:List Oper} {o:Oper} {act:Act} {Q:Exit->Act->World->Prop} (hgd:o.guard=none) (s y:Operand)
  (ho:o.op=.call { callee:=.builtin .append,args:=#[s,y],argTypes:=#[28,28] })
  (a:Option Addr) (c:Nat) (hs:act.eval s=.slice a l.length c) (hown:OwnN B w a c l)
  (am:Option Addr) (cm:Nat) (hy:act.eval y=.slice am m.length cm) (hr:NatR w am cm m)
  (l2:List Int) (hl2:l2=l++m) (hlen:l2.length<=16777216) (hB:B<=w.heap.size)
  (h:∀ a' c' w',OwnN B w' a' c' l2->w.grownBy w' (Value.ownBlock (.slice a l.length c))->Below B w w' ->
   wpList Tryz.prog ops Q rest (act.put o.dst (.slice a' l2.length c')) w'):wpList Tryz.prog ops Q (o :: rest) act w :=
 wpList_plain hgd fun _ hK=>qqy s y 28 ho Tryz.underlying28 infoN rfl oo oo qe7 a c hs hown (fun x _=>qox x) am cm hy
  (fun k x hx=>by
   obtain ⟨b,off,e,hc⟩:=hr.cell hx;refine ⟨b,off,e,fun j u hu=>?_⟩
   match j,hu with
   | 0,hu=>simp [natC] at hu;subst hu;simpa using hc) l2 hl2 hlen hB fun a' c' w' h1 h2 h3=>hK _ _ (h a' c' w' h1 h2 h3)
def BlkN (w:World) (g:Nat) (l:List Int):Prop:=Blk w g 105 (l.map (Value.int .u16)).toArray
section
variable {w w' : World} {g : Nat} {l : List Int}
theorem BlkN.lt (h:BlkN w g l):g<w.heap.size:=Blk.lt h
theorem BlkN.cell (h:BlkN w g l) {i:Nat} {x:Int} (hx:l[i]? = some x):w.cell? ⟨g,i,none⟩=some (.int .u16 x):=by
 rw [Blk.cell h i];simp [hx]
theorem BlkN.frozen (h:BlkN w g l) (i:Nat):w.frozen? ⟨g,i,none⟩=false:=Blk.frozen h i
theorem BlkN.set_ (h:BlkN w g l) (i:Nat) (x:Int):BlkN (w.setCell ⟨g,i,none⟩ (.int .u16 x)) g (l.set i x):=by
 have:=Blk.set_ h i (.int .u16 x);unfold BlkN;rw [List.setIfInBounds_toArray,<- List.map_set] at this;exact this
theorem BlkN.below (h:BlkN w g l) (hb:Below w.heap.size w w'):BlkN w' g l:=Blk.below' h hb
theorem BlkN.alloc (h:BlkN w g l) (o:Obj):BlkN (w.alloc o) g l:=Blk.alloc h o
theorem BlkN.new (w:World) (n:Nat):BlkN (w.alloc (.cells (madeCells #[.int .u16 0] n) 105)) w.heap.size (List.replicate n 0):=by
 have:=Blk.new w 105 (madeCells #[.int .u16 0] n);unfold BlkN;have e:madeCells #[.int .u16 0] n=((List.replicate n (0:Int)).map (Value.int .u16)).toArray:=by
  apply Array.ext
  · simp [madeCells]
  ·
   intro i h1 h2;simp [madeCells,Nat.mod_one]
 rw [e] at this ⊢;exact this
theorem BlkN.own (h:BlkN w g l) {B:Nat} (hB:B<=g) (hl:l.length<=maxLen):OwnN B w (some ⟨g,0,none⟩) l.length l:=by
 refine ⟨by rw [qfe qe7],.inr ⟨g,l.length,_,rfl,hB,h,nlr _,hl,by simp,?_⟩⟩;rw [qj4];simp only [Nat.mul_one];exact List.take_of_length_le (by simp)
theorem BlkN.readsV (h:BlkN w g l) {B:Nat} {V:World} (hB:B<=g) (hV:New B w V) (hs:U16 l) {c:Nat} (hc:l.length<=c) (hm:c<=maxLen):NatR V (some ⟨g,0,none⟩) c l :=
 ⟨hc,hm,fun k x hx=>⟨g,0,rfl,by simpa using hV _ _ (by simpa using hB) (h.cell hx),qiu (hs x (List.mem_of_getElem? hx))⟩⟩
end
theorem qco (k:IntKind) (n:Nat) (hn:n<=16777216) (w:World) :
  (Instr.makeSlice 28 (.int k (n:Int)) (.int k (n:Int))).run Tryz.prog w=.ok (.slice (some ⟨w.heap.size,0,none⟩) n n) (w.alloc (.cells (madeCells #[.int .u16 0] n) 105)) :=
 run_make_row' 28 105 (.int .u16 0) 2 Tryz.underlying28 infoN rfl k k n oo oo w
def NewN (l:List Int) (B:Nat) (w:World) (v:Value):Prop:=∃ a c,v=.slice a l.length c/\∀ V,New B w V->NatR V a c l
theorem NewN.own {l:List Int} {B:Nat} {w:World} {a:Option Addr} {c:Nat} (h:OwnN B w a c l) (hs:U16 l):NewN l B w (.slice a l.length c):=⟨a,c,rfl,fun _ hn=>h.readsV hn hs⟩
def RetN (l:List Int) (w:World) (e:Ending) (w':World):Prop:=∃ a c,e=.returned (.slice a l.length c)/\(∀ V,New w.heap.size w' V->NatR V a c l)/\Below w.heap.size w w'
theorem RetN.mk {l:List Int} {w w':World} {v:Value} (h:NewN l w.heap.size w' v) (hb:Below w.heap.size w w'):RetN l w (.returned v) w':=by
 obtain ⟨a,c,rfl,hV⟩:=h;exact ⟨a,c,rfl,hV,hb⟩
theorem RetN.own {l L:List Int} {w w':World} {a:Option Addr} {c n:Nat} (h:OwnN w.heap.size w' a c l) (hs:U16 l) (hb:Below w.heap.size w w') (hL:L=l) (hn:n=l.length):RetN L w (.returned (.slice a n c)) w':=by
 subst hL;subst hn;exact RetN.mk (NewN.own h hs) hb
theorem qdi (l:List Int) (k:Nat) (a:Option Addr) (c:Nat) (w:World) (h:NatR w a c l) :
  Calls Tryz.prog 75 #[.slice a l.length c,.int .i64 k] w fun r w'=>r=.returned (.int .i64 (qag l k))/\w=w':=by
 have hl:=h.len;have hU:=h.u16;by_cases hlt:k<l.length
 ·
  obtain ⟨x,hx⟩:=qab hlt;obtain ⟨b,off,rfl,hc⟩:=h.cell hx;have hxr:=hU.get hx;have he:qag l k=x:=qax hx;rw [he];clear h hU he hx;obtain ⟨hx0,hx1⟩:=hxr;go_enter Tryz.func75,Tryz.ntmps75;go_wp2;go_ret;exact ⟨rfl,rfl⟩
 ·
  have he:qag l k=0:=qb1 oo;rw [he];clear h hU he;go_enter Tryz.func75,Tryz.ntmps75;go_wp2;go_ret;exact ⟨rfl,rfl⟩
theorem qpb (l:List Int) (k:Nat) (a:Option Addr) (c:Nat) (w:World) (h:NatR w a c l) :
  Calls Tryz.prog 75 #[.slice a l.length c,.int .i64 k] w fun r w'=>r=.returned (.int .i64 (qag l k))/\w'=w :=
 (qdi l k a c w h).mono fun _ _ h=>⟨h.1,h.2.symm⟩
theorem qbk (l:List Int) (a:Option Addr) (c:Nat) (w:World) (h:NatR w a c l) (hl:l.length<=16777216) :
  Calls Tryz.prog 73 #[.slice a l.length c] w (RetN (limbs (val l)) w):=by
 have hcap:=h.1;have hmx:=h.2.1;have H:=Hd h;clear h;unfold maxLen at hmx;go_enter Tryz.func73,Tryz.ntmps73;go_wp2
 go_loop [3] (fun n=>∃ k:Nat,k<=l.length/\n=.int .i64 k/\Hid (val (l.drop k)=0)) (fun n=>(intOf n).toNat)
 case atStart=>exact ⟨l.length,nlr _,rfl,qaw (nlr _)⟩
 case round =>
  obtain ⟨k,hk,rfl,hz⟩:=hrel;by_cases h0:k=0
  ·
   subst h0;have hg:decide ((0:Int)<((0:Nat):Int))=false:=by simp
   have hcut:limbs (val l)=[]:=by
    have:val l=0:=by simpa using hz.out
    rw [this,qao]
   go_wp2_with (at_builtin;go_must (refine qec (B:=w.heap.size) rfl (.tmp 19) (.tmp 22) rfl none 0 (l:=[]) rfl Own.nil a c (m:=[]) rfl H.out.zero [] rfl (by simp) (nlr _) ?_);intro a' c' w1 hown hg1 hb1);go_ret;exact RetN.own hown U16.nil hb1 rfl rfl
  ·
   have hgt:decide ((0:Int)<(k:Int))=true:=by simp;omega
   have hk1:(k:Int)-1=((k-1:Nat):Int):=oo
   obtain ⟨x,hx⟩:=qab (xs:=l) (k:=k-1) oo;obtain ⟨b,off,rfl,hc⟩:=H.out.cell hx;have hr:=H.out.u16.get hx;have hge:(0:Int)<=(k:Int)-1:=oo
   have hvd:=qck hx;have ek:k-1+1=k:=oo
   rw [ek] at hvd;have HV:=Hd hvd;have HX:=Hd hx;have HK:=Hd hk1;have hc':w.cell? ⟨b,off+(k-1),none⟩=some (.int .u16 x):=hc;clear hvd hx hc ek hk1;by_cases hx0:x=0
   ·
    subst hx0;have e0:((0:Int)==0)=true:=rfl;go_wp2
    all_goals
     go_round
     case rel=>exact ⟨k-1,oo,by rw [HK.out],by show val _=0;rw [HV.out,hz.out];rfl⟩
     case measure=>simp [intOf];omega
   ·
    have e0:(x==0)=false:=by simpa using hx0
    have hcut:limbs (val l)=l.take k:=qi7 H.out.u16 hz.out (fun y _ hy=>by
     rw [HX.out] at hy;injection hy with hy
     rw [<- hy];exact hx0) hk
    have HC:=Hd hcut;clear hcut;have hlen:(l.take k).length=k:=by simp;omega
    have HL:=Hd hlen;clear hlen;go_wp2_with (at_builtin;go_must (refine qec (B:=w.heap.size) rfl (.tmp 19) (.tmp 22) rfl none 0 (l:=[]) rfl Own.nil (some ⟨b,off,none⟩) c (m:=l.take k) (by rw [HL.out];rfl) (H.out.take k) (l.take k) rfl (by rw [HL.out];omega) (nlr _) ?_);intro a' c' w1 hown hg1 hb1);go_ret;exact RetN.own hown (H.out.u16.take k) hb1 HC.out HL.out.symm
theorem qc4 (n:Nat) (w:World) (hn:n<18446744073709551616) :
  Calls Tryz.prog 72 #[.int .u64 n] w (RetN (limbs n) w):=by
 go_enter Tryz.func72,Tryz.ntmps72;go_wp2
 go_loopw [0,3] (fun i s wr=>∃ (m:Nat) (l:List Int) (a:Option Addr) (c:Nat),m<=n/\i=.int .u64 m/\s=.slice a l.length c/\OwnN w.heap.size wr a c l/\U16 l/\l.length<=1000/\Below w.heap.size w wr/\Hid (limbs n=l++limbs m)) (fun i _ _=>(intOf i).toNat)
 case atStart=>exact ⟨n,[],none,0,nlr _,rfl,rfl,Own.nil,U16.nil,by simp,Below.refl _ _,rfl⟩
 case round =>
  obtain ⟨m,l,a,c,hm,rfl,rfl,ho,hU,hlen,hb,hr⟩:=hrel;have HO:=Hd ho;clear ho;by_cases h0:m=0
  ·
   subst h0;have HR:limbs n=l:=by have:=hr.out;rw [qao] at this;simpa using this
   replace HR:=Hd HR;go_wp2;go_ret;exact RetN.own HO.out hU hb HR.out rfl
  ·
   have hgt:decide ((0:Int)<(m:Int))=true:=by simp;omega
   have hs:limbs m=((m % 65536:Nat):Int) :: limbs (m / 65536):=qb8 h0;have hr2:limbs n=(l++[((m % 65536:Nat):Int)])++limbs (m / 65536):=by rw [hr.out,hs];simp
   have HR:=Hd hr2;clear hs hr2;have hlt:m<18446744073709551616:=oo
   have hm1:((m:Int) % 65536)=((m % 65536:Nat):Int):=oo
   have hm2:((m:Int) / 65536)=((m / 65536:Nat):Int):=oo
   have HM1:=Hd hm1;have HM2:=Hd hm2;clear hm1 hm2;go_wp2_with (at_builtin;go_must (refine qd0 rfl (.tmp 6) (.tmp 10) rfl a c rfl (HO.out.alloc _) ((m % 65536:Nat):Int) wr.heap.size 1 rfl (by simp <;> omega) (l++[((m % 65536:Nat):Int)]) rfl (by simp;omega) (by have:=hb.size;simp;omega) ?_);intro a2 c2 w2 ho2 hg2 hx2)
   go_roundw
   case rel =>
    have hb1:Below w.heap.size w w2:=qal (hb.alloc hb.size _) (HO.out.alloc _) hg2;have hl4:(l++[((m % 65536:Nat):Int)]).length<=1000:=by
     have h4:(limbs n).length<=4:=qam (by simpa using hn);rw [HR.out] at h4;simp only [List.length_append] at h4 ⊢
     omega
    exact ⟨m / 65536,l++[((m % 65536:Nat):Int)],a2,c2,oo,by rw [HM2.out],by simp,ho2,hU.app (U16.cons oo U16.nil),hl4,hb1,HR.out⟩
   case measure=>rw [HM2.out];simp [intOf];omega
theorem qp8 (l:List Int) (k:Nat):val (l.drop k)<=val l:=by
 by_cases hk:k<=l.length
 ·
  have:=qcd l k;have h1:1<=65536 ^ (l.take k).length:=Nat.one_le_pow _ _ oo;have h2:=Nat.mul_le_mul_right (val (l.drop k)) h1
  omega
 · rw [qaw oo];omega
theorem qjo (l:List Int) (a:Option Addr) (c:Nat) (w:World) (h:NatR w a c l) (hv:val l<18446744073709551616) :
  Calls Tryz.prog 125 #[.slice a l.length c] w fun r w'=>r=.returned (.int .u64 (val l))/\w=w':=by
 have hlen:=h.len;have H:=Hd h;clear h;go_enter Tryz.func125,Tryz.ntmps125;go_wp2
 go_loop [3,4] (fun n i=>∃ k:Nat,k<=l.length/\i=.int .i64 ((k:Int)-1)/\n=.int .u64 (val (l.drop k):Nat)) (fun _ i=>(intOf i+1).toNat)
 case atStart=>exact ⟨l.length,nlr _,rfl,by rw [qaw (nlr _)];rfl⟩
 case round =>
  obtain ⟨k,hk,rfl,rfl⟩:=hrel;by_cases h0:k=0
  ·
   subst h0;go_wp2;go_ret;exact ⟨by simp,rfl⟩
  ·
   have hgt:decide ((0:Int)<=(k:Int)-1)=true:=by simp;omega
   have hge:(0:Int)<=(k:Int)-1:=oo
   obtain ⟨x,hx⟩:=qab (xs:=l) (k:=k-1) oo;obtain ⟨b,off,rfl,hc⟩:=H.out.cell hx;obtain ⟨hx0,hx1⟩:=H.out.u16.get hx;have hvd:=qck hx;have ek:k-1+1=k:=oo
   rw [ek] at hvd;have hle:=qp8 l (k-1);have HV:=Hd hvd;have hb1:(val (l.drop k):Int)*65536+x<=18446744073709551615:=oo
   have hb0:0<=(val (l.drop k):Int)*65536:=oo
   have hb2:(val (l.drop k):Int)*65536<=18446744073709551615:=oo
   clear hvd ek hx hle;go_wp2
   all_goals
    go_round
    case rel=>exact ⟨k-1,oo,by first | (congr 1;omega) | rfl,qd7 (by rw [HV.out];omega)⟩
    case measure=>simp [intOf];omega
theorem qfq (l m:List Int) (a a':Option Addr) (c c':Nat) (w:World) (h:NatR w a c l) (h':NatR w a' c' m) (hl:l.length<=16777216) (hm:m.length<=16777216) :
  Calls Tryz.prog 41 #[.slice a l.length c,.slice a' m.length c'] w fun r w'=>r=.returned (.int .i64 (cmpN (val l) (val m)))/\w=w':=by
 have hU:=h.u16;have hU':=h'.u16;have H:=Hd h;have H':=Hd h';clear h h';go_enter Tryz.func41,Tryz.ntmps41;go_wp2
 all_goals
  go_loop [5] (fun i=>∃ k:Nat,k<=16777216/\i=.int .i64 ((k:Int)-1)/\Hid (val (l.drop k)=val (m.drop k))) (fun i=>(intOf i+1).toNat)
  case atStart=>first
    | exact ⟨m.length,hm,rfl,by show _=_;rw [qaw oo,qaw oo]⟩
    | exact ⟨l.length,hl,rfl,by show _=_;rw [qaw oo,qaw oo]⟩
    | exact ⟨max l.length m.length,oo,qd7 oo,by show _=_;rw [qaw oo,qaw oo]⟩
  case round =>
   obtain ⟨k,hk,rfl,he⟩:=hrel;by_cases h0:k=0
   ·
    subst h0;have hz:cmpN (val l) (val m)=0:=by have:=he.out;simp at this;rw [this];simp [cmpN]
    replace hz:=Hd hz;go_wp2;go_ret;exact ⟨qcq hz.out.symm,rfl⟩
   ·
    have hgt:decide ((0:Int)<=(k:Int)-1)=true:=by simp;omega
    have hge:(0:Int)<=(k:Int)-1:=oo
    have ek:k-1+1=k:=oo
    have hkk:(k:Int)-1=((k-1:Nat):Int):=oo
    have CX:=qdi l (k-1) a c w H.out;have CY:=qdi m (k-1) a' c' w H'.out;have hlx:=qbd hU (k-1);have hly:=qbd hU' (k-1);have hL:val (l.drop k)=val (m.drop k)->qag l (k-1)<qag m (k-1)->val l<val m:=fun e=>qg5 hU hU' (k-1) (by rw [ek];exact e)
    have hG:val (l.drop k)=val (m.drop k)->qag m (k-1)<qag l (k-1)->val m<val l:=fun e=>qg5 hU' hU (k-1) (by rw [ek];exact e.symm)
    have hE:val (l.drop k)=val (m.drop k)->qag l (k-1)=qag m (k-1)->val (l.drop (k-1))=val (m.drop (k-1)):=fun e e2=>by rw [qbe,qbe (l:=m),ek,e,e2]
    rw [<- hkk] at CX CY;revert CX CY hlx hly hL hG hE;generalize qag l (k-1)=x;generalize qag m (k-1)=y;intro CX CY hlx hly hL hG hE;replace CX:=Hd CX;replace CY:=Hd CY;replace hL:=hL he.out;replace hG:=hG he.out;have HE:=Hd (hE he.out);clear hE hkk;by_cases hlt:x<y
    ·
     have hv:=hL hlt;clear hL hG HE;go_wp2_with (go_at_call 75;(first | ((with_reducible refine CX.out.mono ?_);rintro e w' ⟨rfl,rfl⟩) | ((with_reducible refine CY.out.mono ?_);rintro e w' ⟨rfl,rfl⟩)));go_ret;exact ⟨qcq (by unfold cmpN;rw [if_pos hv]),rfl⟩
    ·
     by_cases hgt2:y<x
     ·
      have hv:=hG hgt2;clear hL hG HE;go_wp2_with (go_at_call 75;(first | ((with_reducible refine CX.out.mono ?_);rintro e w' ⟨rfl,rfl⟩) | ((with_reducible refine CY.out.mono ?_);rintro e w' ⟨rfl,rfl⟩)));go_ret;exact ⟨qcq (by unfold cmpN;rw [if_neg oo,if_pos hv]),rfl⟩
     ·
      clear hL hG;go_wp2_with (go_at_call 75;(first | ((with_reducible refine CX.out.mono ?_);rintro e w' ⟨rfl,rfl⟩) | ((with_reducible refine CY.out.mono ?_);rintro e w' ⟨rfl,rfl⟩)))
      all_goals
       go_round
       case rel=>exact ⟨k-1,oo,by first | (congr 1;omega) | rfl,HE.out oo⟩
       case measure=>simp [intOf];omega
end Go.Proofs.YtmdlbpibipnapaaGreat
namespace Go.Proofs.YtmdlbpibipnapaaGreat
theorem qi1 (k:Nat):1<=65536 ^ k:=Nat.one_le_pow _ _ oo
theorem qok (l m o:List Int) (k bo bo2 d:Nat) (ho:o.length=k) (h:val (l.take k)+65536 ^ k*bo=val (m.take k)+val o)
  (hd:d+(qag m k).toNat+bo=(qag l k).toNat+65536*bo2):val (l.take (k+1))+65536 ^ (k+1)*bo2=val (m.take (k+1))+val (o++[(d:Int)]):=by
 rw [qc5,qc5,qgo,ho,Nat.pow_succ];have h1:=congrArg (65536 ^ k * ·) hd;simp only [Nat.mul_add] at h1;have e:((d:Int)).toNat=d:=oo
 rw [e,Nat.mul_assoc]
 omega
theorem qrc {l m o:List Int} {bo:Nat} (hl:U16 l) (hm:U16 m) (hou:U16 o) (ho:o.length=l.length) (h:val (l.take l.length)+65536 ^ l.length*bo=val (m.take l.length)+val o) (hge:val m<=val l):val o=val l-val m:=by
 rw [qaz (nlr _)] at h;have h1:=qcs hl;have h2:=qcs hou;rw [ho] at h2;have h3:val (m.take l.length)=val m:=by
  obtain ⟨lo,hlo,e⟩:=qbv hm l.length;by_cases hc:l.length<=m.length
  ·
   have e2:=qcd m l.length;have e3:(m.take l.length).length=l.length:=by simp;omega
   rw [e3] at e2;have:val (m.drop l.length)=0:=by
    apply Nat.eq_zero_of_not_pos;intro hp;have:=Nat.mul_le_mul_left (65536 ^ l.length) hp
    omega
   rw [this] at e2
   omega
  · rw [qaz oo]
 rw [h3] at h;have hb:bo=0:=by
  apply Nat.eq_zero_of_not_pos;intro hp;have:=Nat.mul_le_mul_left (65536 ^ l.length) hp
  omega
 subst hb
 omega
theorem qh2 (l m o:List Int) (k c c2 d:Nat) (ho:o.length=k) (h:val o+65536 ^ k*c=val (l.take k)+val (m.take k))
  (hd:d+65536*c2=(qag l k).toNat+(qag m k).toNat+c):val (o++[(d:Int)])+65536 ^ (k+1)*c2=val (l.take (k+1))+val (m.take (k+1)):=by
 rw [qc5,qc5,qgo,ho,Nat.pow_succ];have h1:=congrArg (65536 ^ k * ·) hd;simp only [Nat.mul_add] at h1;have e:((d:Int)).toNat=d:=oo
 rw [e,Nat.mul_assoc]
 omega
theorem qjj {o:List Int} {j:Nat} {z:Int} (hz:o[j]? = some z) (d:Int):val (o.set j d)+65536 ^ j*z.toNat=val o+65536 ^ j*d.toNat:=by
 have hj:=qai hz;have e1:=qcd (o.set j d) j;have e2:=qcd o j;have l1:((o.set j d).take j).length=j:=by simp;omega
 have l2:(o.take j).length=j:=by simp;omega
 have t:(o.set j d).take j=o.take j:=by rw [List.take_set_of_le (nlr _)]
 have g:(o.set j d)[j]? = some d:=by simp [hj]
 rw [l1,t,qck g,List.drop_set_of_lt oo] at e1;rw [l2,qck hz] at e2;rw [e1,e2,Nat.mul_add,Nat.mul_add]
 omega
theorem qo3 (l m o:List Int) (i k c c2 d:Nat) (z x y:Int) (hz:o[i+k]? = some z) (hy:qag m k=y)
  (h:val o+65536 ^ (i+k)*c=val (l.take i)*val m+65536 ^ i*(x.toNat*val (m.take k)))
  (hd:d+65536*c2=z.toNat+x.toNat*y.toNat+c) :
  val (o.set (i+k) (d:Int))+65536 ^ (i+(k+1))*c2=val (l.take i)*val m+65536 ^ i*(x.toNat*val (m.take (k+1))):=by
 have h1:=qjj hz (d:Int);have e:((d:Int)).toNat=d:=oo
 rw [e] at h1;have h2:=congrArg (65536 ^ (i+k) * ·) hd;simp only [Nat.mul_add] at h2;rw [qc5,hy,<- Nat.add_assoc,Nat.pow_succ];have e3:65536 ^ i*(x.toNat*(val (m.take k)+65536 ^ k*y.toNat))=65536 ^ i*(x.toNat*val (m.take k))+65536 ^ (i+k)*(x.toNat*y.toNat):=by
  rw [Nat.mul_add,Nat.mul_add,Nat.pow_add,Nat.mul_assoc (65536 ^ i) (65536 ^ k)];congr 2;rw [<- Nat.mul_assoc,Nat.mul_comm x.toNat,Nat.mul_assoc]
 rw [e3,Nat.mul_assoc (65536 ^ (i+k)) 65536 c2]
 omega
theorem qmc (l m:List Int) (i:Nat) (x:Int) (hx:l[i]? = some x):val (l.take i)*val m+65536 ^ i*(x.toNat*val m)=val (l.take (i+1))*val m:=by
 rw [qgf hx,Nat.add_mul,Nat.mul_assoc]
theorem qaa4 {l m o:List Int} {i k c:Nat} {x:Int} (hl:U16 l) (hm:U16 m) (hx:l[i]? = some x) (hk:m.length<=k) (hc:0<c)
  (h:val o+65536 ^ (i+k)*c=val (l.take i)*val m+65536 ^ i*(x.toNat*val (m.take k))):k<=m.length:=by
 rw [qaz hk,qmc l m i x hx] at h;have h1:=qcs (hl.take (i+1));have e1:(l.take (i+1)).length=i+1:=by have:=qai hx;simp;omega
 rw [e1] at h1;have h2:=qcs hm;have h3:val (l.take (i+1))*val m<65536 ^ (i+1)*65536 ^ m.length:=Nat.mul_lt_mul'' h1 h2;rw [<- Nat.pow_add] at h3;have h4:=Nat.mul_le_mul_left (65536 ^ (i+k)) hc;have h5:65536 ^ (i+k)<65536 ^ (i+1+m.length):=oo
 have h6:=(Nat.pow_lt_pow_iff_right (by omega:1<65536)).1 h5
 omega
theorem qph {z x y c d c2:Nat} (hz:z<=65535) (hx:x<=65535) (hy:y<=65535) (hc:c<=65535) (hd:d+65536*c2=z+x*y+c):c2<=65535:=by
 have:=Nat.mul_le_mul hx hy
 omega
theorem qfx (n:Nat):val (List.replicate n 0)=0:=by
 induction n with
 | zero=>rfl
 | succ n ih=>rw [List.replicate_succ,val,ih];rfl
theorem qbw (n:Nat):U16 (List.replicate n 0):=fun x hx=>by have:=List.eq_of_mem_replicate hx;omega
theorem qos (l q:List Int) (k b r d r2:Nat) (x:Int) (hx:l[k]? = some x) (h:val (l.drop (k+1))=val q*b+r) (hd:x.toNat+65536*r=d*b+r2) :
  val (l.drop k)=val ((d:Int) :: q)*b+r2:=by
 rw [qck hx,h,val];have e:((d:Int)).toNat=d:=oo
 rw [e,Nat.add_mul,Nat.mul_add,<- Nat.mul_assoc]
 omega
theorem qmu {x b r:Nat} (hx:x<=65535) (hr:r<b):(x+65536*r) / b<=65535:=by
 have:(x+65536*r) / b<65536:=by
  apply (Nat.div_lt_iff_lt_mul oo).2
  omega
 omega
end Go.Proofs.YtmdlbpibipnapaaGreat
namespace Go.Proofs.YtmdlbpibipnapaaGreat
open Go.RowKit
def qch (l:List Int):Bool:=decide (limbs (val l)=l)
theorem qhe {l:List Int} (h:U16 l) {x:Int} (hx:l[l.length-1]? = some x) (_:0<l.length):qch l = !(x==0):=by
 unfold qch;by_cases hx0:x=0
 ·
  subst hx0;simp only [beq_self_eq_true,Bool.not_true,decide_eq_false_iff_not];intro e;have:(limbs (val l)).getLast? = some 0:=by rw [e,List.getLast?_eq_getElem?];exact hx
  exact qh0 this rfl
 ·
  have e:(x==0)=false:=by simpa using hx0
  rw [e];simp only [Bool.not_false,decide_eq_true_eq];refine qg6 h fun y hy=>?_
  rw [List.getLast?_eq_getElem?,hx] at hy;injection hy with hy
  rw [<- hy];exact hx0
theorem qjq (l:List Int) (a:Option Addr) (c:Nat) (w:World) (h:NatR w a c l) :
  Calls Tryz.prog 69 #[.slice a l.length c] w fun r w'=>r=.returned (.bool (qch l))/\w=w':=by
 have hlen:=h.len;have H:=Hd h;clear h;by_cases h0:l.length=0
 ·
  have hl:l=[]:=List.eq_nil_of_length_eq_zero h0;subst hl;have hc:qch []=true:=by simp [qch,val,qao]
  rw [hc];clear hc h0;go_enter Tryz.func69,Tryz.ntmps69;go_wp2;go_ret;exact ⟨rfl,rfl⟩
 ·
  obtain ⟨x,hx⟩:=qab (xs:=l) (k:=l.length-1) oo;obtain ⟨b,off,rfl,hc⟩:=H.out.cell hx;have hcan:=qhe H.out.u16 hx oo;have HC:=Hd hcan;have hb:((l.length:Int)==0)=false:=by simp;exact fun e=>h0 (by simp [e])
  have hge:(0:Int)<=(l.length:Int)-1:=oo
  clear hcan hx;by_cases hx0:x=0
  ·
   subst hx0;go_enter Tryz.func69,Tryz.ntmps69;go_wp2;go_ret;exact ⟨qbn (by rw [HC.out];rfl),rfl⟩
  ·
   have e0:(x==0)=false:=by simpa using hx0
   have e1:(x != 0)=true:=by simpa using hx0
   go_enter Tryz.func69,Tryz.ntmps69;go_wp2;go_ret;exact ⟨qbn (by rw [HC.out,e0];rfl),rfl⟩
theorem qso (xs ys:List Int) (a a':Option Addr) (c c':Nat) (w:World) (h:NatR w a c xs) (h':NatR w a' c' ys) :
  Calls Tryz.prog 70 #[.slice a xs.length c,.slice a' ys.length c'] w fun r w'=>r=.returned (.bool (decide (xs=ys)))/\Below w.heap.size w w':=by
 have H:=Hd h;have H':=Hd h';have hl:=h.len;have hl':=h'.len;clear h h';by_cases hlen:xs.length=ys.length
 ·
  have hlb:((xs.length:Int) != (ys.length:Int))=false:=by simp;omega
  have HL:=Hd hlen;clear hlen;go_enter Tryz.func70,Tryz.ntmps70;go_wp2
  go_loopw [5] (fun i wr=>∃ k:Nat,k<=xs.length/\i=.int .i64 k/\Below w.heap.size w wr/\Hid (xs.take k=ys.take k)) (fun i _=>xs.length-(intOf i).toNat)
  case atStart=>exact ⟨0,oo,rfl,Below.refl _ _,by simp [Hid]⟩
  case round =>
   obtain ⟨k,hk,rfl,hb,hp⟩:=hrel;by_cases hlt:k<xs.length
   ·
    obtain ⟨x,hx⟩:=qab hlt;obtain ⟨y,hy⟩:=qab (xs:=ys) (k:=k) (by have:=HL.out;omega);obtain ⟨b,off,rfl,hE⟩:=H.out.2.2 k x hx;obtain ⟨b',off',rfl,hE'⟩:=H'.out.2.2 k y hy;have hc:wr.cell? ⟨b,off+k,none⟩=some (.int .u16 x):=by have:=(hE.ext (xbw hb)).1;simpa using this
    have hc':wr.cell? ⟨b',off'+k,none⟩=some (.int .u16 y):=by have:=(hE'.ext (xbw hb)).1;simpa using this
    have hky:(k:Int)<(ys.length:Int):=by have:=HL.out;omega
    have HX:=Hd hx;have HY:=Hd hy;clear hx hy hE hE';by_cases he:x=y
    ·
     have hbe:(x != y)=false:=by simpa using he
     have HE:=Hd he;clear he;go_wp2
     go_quiet (fail)
     go_wp2;refine ⟨⟨k+1,oo,by go_num,below_drewN hb _,?_⟩,by simp [intOf];omega⟩;rw [qbb HX.out,qbb HY.out,hp.out,HE.out];rfl
    ·
     have hbe:(x != y)=true:=by simpa using he
     have HE:=Hd he;clear he;go_wp2
     go_quiet (fail)
     go_wp2;go_ret;refine ⟨qbn ?_,below_drewN hb _⟩;refine (decide_eq_false (fun e=>HE.out ?_)).symm;have h1:=HX.out;have h2:=HY.out;rw [e,h2] at h1;exact (Option.some.inj h1).symm
   ·
    go_wp2;go_ret;refine ⟨qbn ?_,hb⟩;have:=hp.out;rw [qgs hlt,List.take_of_length_le (by have:=HL.out;omega)] at this;rw [this];simp
 ·
  have hlb:((xs.length:Int) != (ys.length:Int))=true:=by simp;omega
  have hd:decide (xs=ys)=false:=decide_eq_false (fun e=>hlen (by rw [e]));rw [hd];clear hlen hd;go_enter Tryz.func70,Tryz.ntmps70;go_wp2;go_ret;exact ⟨rfl,Below.refl _ _⟩
end Go.Proofs.YtmdlbpibipnapaaGreat
