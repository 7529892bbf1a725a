/- A list whose middle is replaced from the left on. No function of the program in sight. -/
import Derived.WalkKit
import Derived.WalkSpells
import Derived.WalkLawsBesides
import Derived.ProofKit
import Derived.LoopTactic
import Derived.Handy
import Derived.Lib.Hide
import Derived.OwnWalk
import Derived.Maps.AppendAt
import Derived.Deep.AppendLies
import Derived.Deep.DeepCutAuto
import Derived.Test.YtkjnkpkagcboeaaGreatDoorProg
import Derived.Deep.QuietTactic
import Derived.BigQuiet
import Derived.Deep.OwnRows
import Derived.Laws.CopyOwn
import Derived.Maps.Range
import Derived.Laws.BitsAllLaws
import Derived.Deep.LoopGhost
import Derived.Lib.ItoaNum
set_option linter.all false
set_option maxRecDepth 100000
set_option maxHeartbeats 4000000
namespace Go.Proofs.YtkjnkpkagcboeaaGreatDoor
open Go.RowKit
theorem Hd {p:Prop} (h:p):Hid p:=h
theorem ret_int {k:IntKind} {a b:Int} (h:a = b):Ending.returned (.int k a) = .returned (.int k b):=by rw [h]
theorem ret_bool {a b:Bool} (h:a = b):Ending.returned (.bool a) = .returned (.bool b):=by rw [h]
theorem ret_str {a b:ByteArray} (h:a = b):Ending.returned (.string a) = .returned (.string b):=by rw [h]
theorem val_int {k:IntKind} {a b:Int} (h:a = b):Value.int k a = .int k b:=by rw [h]
theorem take_more {α:Type} {xs:List α} {k:Nat} {x:α} (h:xs[k]? = some x):xs.take (k + 1) = xs.take k ++ [x]:=by rw [List.take_add_one,h]; rfl
theorem take_all {α:Type} {xs:List α} {k:Nat} (h:¬ k < xs.length):xs.take k = xs:=List.take_of_length_le (by omega)
theorem lt_of_get {α:Type} {xs:List α} {k:Nat} {x:α} (h:xs[k]? = some x):k < xs.length:=(List.getElem?_eq_some_iff.1 h).1
theorem get_of_lt {α:Type} {xs:List α} {k:Nat} (h:k < xs.length):∃ x,xs[k]? = some x:=⟨_,List.getElem?_eq_getElem h⟩
theorem toList_loop (b:ByteArray):∀ (n i:Nat) (r:List UInt8),b.size - i = n -> ByteArray.toList.loop b i r = r.reverse ++ b.data.toList.drop i:=by
 intro n
 induction n with
 | zero =>
  intro i r h;unfold ByteArray.toList.loop;rw [if_neg (by omega)]
  have : b.data.toList.length ≤ i := by have : b.data.toList.length = b.size := by rw [Array.length_toList]; rfl
                                        omega
  rw [List.drop_eq_nil_of_le this,List.append_nil]
 | succ n ih =>
  intro i r h;unfold ByteArray.toList.loop;rw [if_pos (by omega)]
  have hl : i < b.data.toList.length := by have : b.data.toList.length = b.size := by rw [Array.length_toList]; rfl
                                           omega
  rw [ih (i + 1) _ (by omega),List.drop_eq_getElem_cons hl];have:b.get! i = b.data.toList[i]:=by
   have hs:i < b.data.size:=by simpa using hl
   simp [ByteArray.get!,getElem!_pos b.data i hs]
  simp [this]
theorem toList_data (b:ByteArray):b.toList = b.data.toList:=by
 have h:=toList_loop b _ 0 [] rfl;simpa [ByteArray.toList] using h
theorem str_eq {a b:ByteArray}:a.toList = b.toList ↔ a = b:=by
 rw [toList_data,toList_data]
 constructor
 ·
  intro h
  cases a; cases b
  simp at h;rw [h]
 · intro h; rw [h]
theorem str_beq (a b:ByteArray):(a.toList == b.toList) = decide (a = b):=by
 rw [Bool.eq_iff_iff]; simp [str_eq]
theorem str_empty {a:ByteArray}:a.toList = [] ↔ a = ⟨#[]⟩:=by
 rw [<- str_eq (a:=a)]; rw [toList_data ⟨#[]⟩]
theorem str_isEmpty (a:ByteArray):a.toList.isEmpty = decide (a = ⟨#[]⟩):=by
 rw [Bool.eq_iff_iff]; simp [str_empty]
def Ext (w w':World):Prop:=∀ (a:Addr) (v:Value),w.cell? a = some v -> w'.cell? a = some v
theorem Ext.refl (w:World):Ext w w:=fun _ _ h=>h
theorem Ext.alloc {w w':World} (h:Ext w w') (o:Obj):Ext w (w'.alloc o):=fun p v e=>by
 have e':=h p v e;rw [World.cell?_alloc_lt w' o p (World.block_lt_of_cell? w' p e')]; exact e'
theorem Ext.below {w w':World} (h:Below w.heap.size w w'):Ext w w':=fun p v e=>by
 rw [h.cell (World.block_lt_of_cell? w p e)]; exact e
theorem below_then {w w1 w2:World} (h:Below w.heap.size w w1) (k:Below w1.heap.size w1 w2):Below w.heap.size w w2:=h.trans (k.mono h.size)
theorem bth {w w1 w2:World} (h:Below w.heap.size w w1) (k:Below w1.heap.size w1 w2):Below w.heap.size w w2:=h.trans (k.mono h.size)
theorem xbw {w w':World} (h:Below w.heap.size w w'):Ext w w':=fun p v e=>by rw [h.cell (World.block_lt_of_cell? w p e)]; exact e
theorem brf {B:Nat} {w:World}:Below B w w:=Below.refl _ _
theorem ltl {a b c:Nat} (h:a < b) (k:b <= c):a < c:=by omega
theorem nlr (n:Nat):n <= n:=by omega
theorem ext_alloc (w:World) (o:Obj):Ext w (w.alloc o):=(Ext.refl w).alloc o
theorem held {w:World} {a:Addr} {v:Value} (h:w.cell? a = some v):∀ w',Below w.heap.size w w' -> w'.cell? a = some v:=fun _ k=>xbw k _ _ h
def SlR {α:Type} (sz:Nat) (E:World -> Nat -> Nat -> α -> Prop) (w:World) (a:Option Addr) (cap:Nat) (xs:List α):Prop :=
 xs.length <= cap /\ cap <= maxLen /\ ∀ (k:Nat) (x:α),xs[k]? = some x -> ∃ b off,a = some ⟨b,off,none⟩ /\ E w b (off + k * sz) x
section
variable {α : Type} {sz : Nat} {E E' : World -> Nat -> Nat -> α -> Prop} {w w' : World} {a : Option Addr} {cap : Nat} {xs : List α}
theorem SlR.nil:SlR sz E w none 0 []:=⟨nlr _,by simp [maxLen],fun k x h=>by simp at h⟩
theorem SlR.mono (h:SlR sz E w a cap xs) (hE:∀ b o x,x ∈ xs -> E w b o x -> E' w' b o x):SlR sz E' w' a cap xs:=by
 obtain ⟨h1,h2,h3⟩:=h;refine ⟨h1,h2,fun k x hx=>?_⟩;obtain ⟨b,off,ha,he⟩:=h3 k x hx;exact ⟨b,off,ha,hE _ _ _ (List.mem_of_getElem? hx) he⟩
theorem SlR.len (h:SlR sz E w a cap xs):xs.length <= 9223372036854775807:=by have h1:=h.1; have h2:=h.2.1; unfold maxLen at h2; omega
end
def IntE (k:IntKind) (w:World) (b o:Nat) (x:Int):Prop:=w.cell? ⟨b,o,none⟩ = some (.int k x) /\ (Lit.int k x).wf = true
def StrE (w:World) (b o:Nat) (x:ByteArray):Prop:=w.cell? ⟨b,o,none⟩ = some (.string x)
theorem IntE.ext {k:IntKind} {w w':World} {b o:Nat} {x:Int} (h:IntE k w b o x) (e:Ext w w'):IntE k w' b o x:=⟨e _ _ h.1,h.2⟩
theorem StrE.ext {w w':World} {b o:Nat} {x:ByteArray} (h:StrE w b o x) (e:Ext w w'):StrE w' b o x:=e _ _ h
def IntsR (w:World) (a:Option Addr) (cap:Nat) (xs:List Int):Prop:=SlR 1 (IntE .i64) w a cap xs
def NatR (w:World) (a:Option Addr) (cap:Nat) (xs:List Int):Prop:=SlR 1 (IntE .u16) w a cap xs
def StrsR (w:World) (a:Option Addr) (cap:Nat) (xs:List ByteArray):Prop:=SlR 1 StrE w a cap xs
section
variable {w w' : World} {a : Option Addr} {cap : Nat}
theorem IntsR.ext {xs:List Int} (h:IntsR w a cap xs) (e:Ext w w'):IntsR w' a cap xs:=SlR.mono h fun _ _ _ _ h=>h.ext e
theorem NatR.ext {xs:List Int} (h:NatR w a cap xs) (e:Ext w w'):NatR w' a cap xs:=SlR.mono h fun _ _ _ _ h=>h.ext e
theorem StrsR.ext {xs:List ByteArray} (h:StrsR w a cap xs) (e:Ext w w'):StrsR w' a cap xs:=SlR.mono h fun _ _ _ _ h=>h.ext e
end
def InInt (x:Int):Prop:=-9223372036854775808 <= x /\ x <= 9223372036854775807
theorem inInt_of {x:Int} (h:(Lit.int .i64 x).wf = true):InInt x:=by
 simpa [Lit.wf,IntKind.min,IntKind.max,IntKind.signed,IntKind.bits,InInt] using h
theorem wf_of {x:Int} (h:InInt x):(Lit.int .i64 x).wf = true:=by
 simpa [Lit.wf,IntKind.min,IntKind.max,IntKind.signed,IntKind.bits,InInt] using h
theorem u16_of {x:Int} (h:(Lit.int .u16 x).wf = true):0 <= x /\ x <= 65535:=by
 simpa [Lit.wf,IntKind.min,IntKind.max,IntKind.signed,IntKind.bits] using h
theorem u16_wf {x:Int} (h:0 <= x /\ x <= 65535):(Lit.int .u16 x).wf = true:=by
 simpa [Lit.wf,IntKind.min,IntKind.max,IntKind.signed,IntKind.bits] using h
theorem flatMap_at {α:Type} {f:α -> List Value} {sz:Nat} (hf:∀ x,(f x).length = sz):∀ (l:List α) (k:Nat) (x:α) (j:Nat),l[k]? = some x -> j < sz -> (l.flatMap f)[k * sz + j]? = (f x)[j]?
 | [],k,x,j,h,_=>by simp at h
 | y :: l,0,x,j,h,hj=>by
  simp at h; subst h;simp only [List.flatMap_cons,Nat.zero_mul,Nat.zero_add];rw [List.getElem?_append_left (by rw [hf]; exact hj)]
 | y :: l,k + 1,x,j,h,hj=>by
  simp only [List.flatMap_cons];rw [List.getElem?_append_right (by rw [hf,Nat.add_mul]; omega)];have:=flatMap_at hf l k x j (by simpa using h) hj;rw [<- this,hf,Nat.add_mul];congr 1; omega
theorem flatMap_len {α:Type} {f:α -> List Value} {sz:Nat} (hf:∀ x,(f x).length = sz) (l:List α):(l.flatMap f).length = l.length * sz:=by
 induction l with
 | nil=>simp
 | cons x l ih=>simp only [List.flatMap_cons,List.length_append,List.length_cons,ih,hf,Nat.add_mul]; omega
def Own {α:Type} (f:α -> List Value) (sz:Nat) (t:TypeId) (B:Nat) (w:World) (a:Option Addr) (c:Nat) (l:List α):Prop :=
 w.ownsRow B t sz (.slice a l.length c) l.length (l.flatMap f)
section
variable {α : Type} {f : α -> List Value} {sz : Nat} {t : TypeId} {B : Nat} {w w' : World} {a : Option Addr} {c : Nat} {l : List α}
theorem Own.nil:Own f sz t B w none 0 ([]:List α):=World.ownsRow_nil w B t sz
theorem Own.alloc (h:Own f sz t B w a c l) (o:Obj):Own f sz t B (w.alloc o) a c l:=World.ownsRow.alloc h o
theorem Own.grown (h:Own f sz t B w a c l) {row:Option Nat} (hg:w.grownBy w' row) (hne:∀ g,a = some g -> row ≠ some g.block):Own f sz t B w' a c l:=by
 refine World.ownsRow.kept h hg ?_
 cases a with
 | none=>exact .inl rfl
 | some g=>exact .inr (fun e=>hne g rfl (by rw [<- e]; rfl))
theorem Own.lt (h:Own f sz t B w a c l) {g:Addr} (e:a = some g):B <= g.block /\ g.block < w.heap.size:=World.ownsRow.lt h g.block (by subst e; rfl)
theorem Own.below (h:Own f sz t B w a c l) (hb:Below w.heap.size w w'):Own f sz t B w' a c l:=by
 refine ⟨h.1,?_⟩;rcases h.2 with hn | ⟨g,cap,cur,e,hg,hh,rest⟩
 · exact .inl hn
 · exact .inr ⟨g,cap,cur,e,hg,(hb.block g (Array.getElem?_eq_some_iff.1 hh).1).trans hh,rest⟩
theorem Own.base {B':Nat} (h:Own f sz t B w a c l) (hB:B' <= B):Own f sz t B' w a c l:=by
 refine ⟨h.1,?_⟩;rcases h.2 with hn | ⟨g,cap,cur,e,hg,rest⟩
 · exact .inl hn
 · exact .inr ⟨g,cap,cur,e,by omega,rest⟩
theorem Own.cap (h:Own f sz t B w a c l):l.length <= c /\ c <= maxLen:=by
 rcases h.2 with ⟨e,hn⟩ | ⟨g,cap,cur,e,_,_,h1,h2,_⟩
 ·
  injection e with _ _ e3
  rw [hn,e3]; exact ⟨nlr _,by simp [maxLen]⟩
 ·
  injection e with _ _ e3
  subst e3;exact ⟨h1,h2⟩
theorem Own.at_ (hf:∀ x,(f x).length = sz) (h:Own f sz t B w a c l) {k:Nat} {x:α} (hx:l[k]? = some x) :
  ∃ g,a = some ⟨g,0,none⟩ /\ B <= g /\ g < w.heap.size /\ ∀ j u,(f x)[j]? = some u -> w.cell? ⟨g,k * sz + j,none⟩ = some u:=by
 have hk:=lt_of_get hx;obtain ⟨g,cap,hv,hb,hlt⟩:=h.form (by omega);injection hv with h1 h2
 refine ⟨g,h1,hb,hlt,fun j u hu=>?_⟩;have hj:j < sz:=by rw [<- hf x]; exact lt_of_get hu
 have:=World.ownsRow.cells h (g:=g) (by rw [h1]; rfl) (k * sz + j) u (by rw [flatMap_at hf l k x j hx hj]; exact hu)
 rwa [Addr.add_lit,Nat.zero_add] at this
theorem Own.reads {E:World -> Nat -> Nat -> α -> Prop} (hf:∀ x,(f x).length = sz) (h:Own f sz t B w a c l)
  (hE:∀ g o x,x ∈ l -> (∀ j u,(f x)[j]? = some u -> w.cell? ⟨g,o + j,none⟩ = some u) -> E w g o x):SlR sz E w a c l:=by
 refine ⟨h.cap.1,h.cap.2,fun k x hx=>?_⟩;obtain ⟨g,ha,_,_,hc⟩:=h.at_ hf hx;exact ⟨g,0,ha,hE _ _ _ (List.mem_of_getElem? hx) (by simpa using hc)⟩
end
def Blk (w:World) (g:Nat) (t:TypeId) (cs:Array Value):Prop:=w.heap[g]? = some (.cells cs t (0,0))
section
variable {w w' : World} {g : Nat} {t : TypeId} {cs : Array Value}
theorem Blk.lt (h:Blk w g t cs):g < w.heap.size:=(Array.getElem?_eq_some_iff.1 h).1
theorem Blk.cell (h:Blk w g t cs) (i:Nat):w.cell? ⟨g,i,none⟩ = cs[i]?:=cell_of_row w g i cs t (0,0) h
theorem Blk.frozen (h:Blk w g t cs) (i:Nat):w.frozen? ⟨g,i,none⟩ = false:=by
 unfold Blk at h;simp [World.frozen?,h]
theorem Blk.new (w:World) (t:TypeId) (cs:Array Value):Blk (w.alloc (.cells cs t)) w.heap.size t cs:=heap_alloc_new w _
theorem Blk.drew (h:Blk w g t cs):Blk w.drew g t cs:=h
theorem Blk.alloc (h:Blk w g t cs) (o:Obj):Blk (w.alloc o) g t cs:=(Below.heap_alloc w o g h.lt).trans h
theorem Blk.set_ (h:Blk w g t cs) (i:Nat) (u:Value):Blk (w.setCell ⟨g,i,none⟩ u) g t (cs.setIfInBounds i u):=by
 unfold Blk at h ⊢;simp [World.setCell,Array.getElem?_modify,h]
theorem Blk.far (h:Blk w g t cs) {p:Addr} (hp:g ≠ p.block) (u:Value):Blk (w.setCell p u) g t cs:=(Below.heap_setCell w p u g hp).trans h
theorem Blk.below {B:Nat} (h:Blk w g t cs) (hb:Below B w w') (hg:g < B):Blk w' g t cs:=(hb.block g hg).trans h
theorem Blk.below' (h:Blk w g t cs) (hb:Below w.heap.size w w'):Blk w' g t cs:=h.below hb h.lt
theorem Blk.grown {row:Option Nat} (h:Blk w g t cs) (hb:w.grownBy w' row) (hg:some g ≠ row):Blk w' g t cs:=(hb.block g h.lt hg).trans h
theorem Blk.under {α:Type} {f:α -> List Value} {sz:Nat} {te:TypeId} {B:Nat} {w0:World} {a:Option Addr} {c:Nat} {l:List α} (h:Blk w g t cs) (ho:Own f sz te B w0 a c l) (hg:g < B)
  (hb:w.grownBy w' (Value.ownBlock (.slice a l.length c))):Blk w' g t cs:=h.grown hb (fun e=>by
 cases a with
 | none=>simp [Value.ownBlock] at e
 | some p=>simp [Value.ownBlock] at e; have:=(ho.lt rfl).1; omega)
end
section
variable {α : Type} {f : α -> List Value} {sz : Nat} {t : TypeId} {B : Nat} {w : World} {l : List α} {P : Program}
theorem wp_append_1 {o:Oper} {act:Act} {K:Act -> World -> Prop} {Q:Exit -> Act -> World -> Prop} (s y:Operand) (ts:TypeId)
  (ho:o.op = .call { callee:=.builtin .append,args:=#[s,y],argTypes:=#[ts,ts] })
  {z:Value} {bytes:Nat} (ht:P.underlying ts = some (.slice t)) (hi:(P.info? t).map (fun i=>(i.zero,i.size,i.bytes)) = some (some z,sz,bytes)) (hz:z.cells.size = sz) (hsz:0 < sz) (hby:bytes <= 1024)
  (hf:∀ x,(f x).length = sz) (a:Option Addr) (c:Nat) (hs:act.eval s = .slice a l.length c) (hown:Own f sz t B w a c l)
  (x:α) (hone:∀ u ∈ f x,u.oneCell' = true) (b c1:Nat) (hy:act.eval y = .slice (some ⟨b,0,none⟩) 1 c1) (hcell:∀ j u,(f x)[j]? = some u -> w.cell? ⟨b,j,none⟩ = some u)
  (l2:List α) (hl2:l2 = l ++ [x]) (hlen:l2.length <= 16777216) (hB:B <= w.heap.size)
  (h:∀ a' c' w',Own f sz t B w' a' c' l2 -> w.grownBy w' (Value.ownBlock (.slice a l.length c)) -> ((∃ g,a' = some ⟨g,0,none⟩ /\ (a = some ⟨g,0,none⟩ \/ g = w.heap.size))) ->
   K (act.put o.dst (.slice a' l2.length c')) w'):o.wp P act w K Q:=by
 subst hl2;obtain ⟨i,hi0,hz0,hz1,hz2⟩:=info_parts hi;simp only [List.length_append,List.length_cons,List.length_nil,Nat.zero_add] at hlen;obtain ⟨v',w',hr,h2,h3,_,h5⟩:=run_append_own_at (P:=P) w B ts o.type t i z sz bytes ht hi0 hz0 hz1 hz2 hz hsz (.slice a l.length c) l.length (l.flatMap f) hown ⟨b,0,none⟩ 1 c1 (f x) (by rw [hf]; omega)
  (fun j u hu=>by rw [Addr.add_lit,Nat.zero_add]; exact hcell j u hu) hone (by unfold maxLen; omega)
  (by have : (l.length + 1) * bytes <= 16777216 * 1024 := Nat.mul_le_mul hlen hby
      omega) hB
 unfold Oper.wp execOp;simp only [ho,resolve,invoke,builtin,Sem.run_bind,Sem.run_pure,Result.andThen_ok,List.map_toArray,List.map_cons,List.map_nil,hs,hy,hr];have hf2:(l ++ [x]).flatMap f = l.flatMap f ++ f x:=by simp
 have hn:(l ++ [x]).length = l.length + 1:=by simp
 obtain ⟨g,cap,hv,hb,hlt⟩:=h2.form (by omega);subst hv;rw [<- hn];refine h _ _ w' (by unfold Own; rw [hf2,hn]; exact h2) h3 ⟨g,rfl,?_⟩;rcases h5 with h5 | h5
 ·
  left
  cases a with
  | none=>simp [Value.ownBlock] at h5
  | some g' =>
   have hg':g = g'.block:=by simpa [Value.ownBlock] using h5
   rcases hown.2 with ⟨e,_⟩ | ⟨g2,_,_,e,_⟩
   · cases e
   ·
    injection e with e1
    injection e1 with e1
    subst e1;simp at hg';rw [hg']
 ·
  right;simpa [Value.ownBlock] using h5
theorem wpList_append_1 {ops:Array Oper} {rest:List Oper} {o:Oper} {act:Act} {Q:Exit -> Act -> World -> Prop} (hgd:o.guard = none) (s y:Operand) (ts:TypeId)
  (ho:o.op = .call { callee:=.builtin .append,args:=#[s,y],argTypes:=#[ts,ts] })
  {z:Value} {bytes:Nat} (ht:P.underlying ts = some (.slice t)) (hi:(P.info? t).map (fun i=>(i.zero,i.size,i.bytes)) = some (some z,sz,bytes)) (hz:z.cells.size = sz) (hsz:0 < sz) (hby:bytes <= 1024)
  (hf:∀ x,(f x).length = sz) (a:Option Addr) (c:Nat) (hs:act.eval s = .slice a l.length c) (hown:Own f sz t B w a c l)
  (x:α) (hone:∀ u ∈ f x,u.oneCell' = true) (b c1:Nat) (hy:act.eval y = .slice (some ⟨b,0,none⟩) 1 c1) (hcell:∀ j u,(f x)[j]? = some u -> w.cell? ⟨b,j,none⟩ = some u)
  (l2:List α) (hl2:l2 = l ++ [x]) (hlen:l2.length <= 16777216) (hB:B <= w.heap.size)
  (h:∀ a' c' w',Own f sz t B w' a' c' l2 -> w.grownBy w' (Value.ownBlock (.slice a l.length c)) -> ((∃ g,a' = some ⟨g,0,none⟩ /\ (a = some ⟨g,0,none⟩ \/ g = w.heap.size))) ->
   wpList P ops Q rest (act.put o.dst (.slice a' l2.length c')) w'):wpList P ops Q (o :: rest) act w :=
 wpList_plain hgd fun _ hK=>wp_append_1 s y ts ho ht hi hz hsz hby hf a c hs hown x hone b c1 hy hcell l2 hl2 hlen hB fun a' c' w' h1 h2 h3=>hK _ _ (h a' c' w' h1 h2 h3)
end
theorem below_append {W w w':World} {a:Option Addr} {n c:Nat} (h:Below W.heap.size W w) (hg:w.grownBy w' (Value.ownBlock (.slice a n c))) (hr:∀ g,a = some g -> W.heap.size <= g.block):Below W.heap.size W w' :=
 h.grown hg h.size (fun k hk=>by
  cases a with
  | none=>simp [Value.ownBlock] at hk
  | some g=>simp [Value.ownBlock] at hk; subst hk; exact hr g rfl)
theorem below_append' {W w w':World} {α:Type} {f:α -> List Value} {sz:Nat} {t:TypeId} {a:Option Addr} {c:Nat} {l:List α} (h:Below W.heap.size W w) (ho:Own f sz t W.heap.size w a c l)
  (hg:w.grownBy w' (Value.ownBlock (.slice a l.length c))):Below W.heap.size W w':=below_append h hg fun _ e=>(ho.lt e).1
def New (B:Nat) (w V:World):Prop:=∀ p v,B <= p.block -> w.cell? p = some v -> V.cell? p = some v
def NewBut (B:Nat) (a:Option Addr) (w V:World):Prop:=∀ p v,B <= p.block -> (∀ g,a = some g -> p.block ≠ g.block) -> w.cell? p = some v -> V.cell? p = some v
theorem New.refl (B:Nat) (w:World):New B w w:=fun _ _ _ h=>h
theorem New.base {B B':Nat} {w V:World} (h:New B w V) (hB:B <= B'):New B' w V:=fun p v hp hc=>h p v (Nat.le_trans hB hp) hc
theorem New.but {B:Nat} {w V:World} (h:New B w V) (a:Option Addr):NewBut B a w V:=fun p v hp _ hc=>h p v hp hc
theorem NewBut.back {B:Nat} {w w1 w2 V:World} {a a':Option Addr} {n c:Nat} (h:NewBut B a' w2 V) (hb:Below w.heap.size w w1) (hg:w1.grownBy w2 (Value.ownBlock (.slice a n c)))
  (ha:∃ g,a' = some ⟨g,0,none⟩ /\ (a = some ⟨g,0,none⟩ \/ g = w1.heap.size)):NewBut B a w V:=fun p v hp hne hc=>by
 obtain ⟨g,rfl,hga⟩:=ha;have hlt:=World.block_lt_of_cell? w p hc;have h1:w1.cell? p = some v:=(hb.cell hlt).trans hc;have hlt1:=World.block_lt_of_cell? w1 p h1;refine h p v hp (fun g' e=>?_) (hg.cell h1 (fun e=>?_))
 ·
  injection e with e
  subst e;rcases hga with h2 | h2
  · exact hne _ h2
  · simp; omega
 ·
  cases a with
  | none=>simp [Value.ownBlock] at e
  | some g0=>exact hne _ rfl (by simpa [Value.ownBlock] using e)
theorem NewBut.fresh {B B':Nat} {w1 w2 w3 V:World} {a a':Option Addr} {n c:Nat} (h:NewBut B a' w3 V) (hB:B <= B') (hb:Below w1.heap.size w1 w2) (hg:w2.grownBy w3 (Value.ownBlock (.slice a n c)))
  (ha:∃ g,a' = some ⟨g,0,none⟩ /\ (a = some ⟨g,0,none⟩ \/ g = w2.heap.size)) (hlt:∀ g,a = some g -> g.block < B'):New B' w1 V:=fun p v hp hc=>by
 refine NewBut.back h hb hg ha p v (Nat.le_trans hB hp) (fun g e=>?_) hc;have:=hlt g e
 omega
section
variable {α : Type} {f : α -> List Value} {sz : Nat} {t : TypeId} {B : Nat} {w V : World} {a : Option Addr} {c : Nat} {l : List α}
theorem Own.readsIn {β:Type} {E:World -> Nat -> Nat -> β -> Prop} (g:α -> β) (hf:∀ x,(f x).length = sz) (h:Own f sz t B w a c l) (hV:New B w V)
  (hE:∀ b o x,x ∈ l -> (∀ j u,(f x)[j]? = some u -> V.cell? ⟨b,o + j,none⟩ = some u) -> E V b o (g x)):SlR sz E V a c (l.map g):=by
 refine ⟨by simpa using h.cap.1,h.cap.2,fun k y hy=>?_⟩;rw [List.getElem?_map] at hy;obtain ⟨x,hx,rfl⟩:=Option.map_eq_some_iff.1 hy;obtain ⟨b,ha,hB,_,hc⟩:=h.at_ hf hx;exact ⟨b,0,ha,hE _ _ _ (List.mem_of_getElem? hx) (fun j u hu=>hV _ _ hB (by simpa using hc j u hu))⟩
end
section
variable {α : Type} {f : α -> List Value} {sz : Nat} {t : TypeId} {B : Nat} {w V : World} {a : Option Addr} {c : Nat} {l : List α}
end
theorem NewBut.unset {B:Nat} {a:Option Addr} {w V:World} {p:Addr} {u:Value} (h:NewBut B a (w.setCell p u) V) (hp:p.block < B):NewBut B a w V:=fun q v hq hne hc =>
 h q v hq hne ((World.cell?_setCell_other w p q u (fun e=>by subst e; omega)).trans hc)
theorem New.unset {B:Nat} {w V:World} {p:Addr} {u:Value} (h:New B (w.setCell p u) V) (hp:p.block < B):New B w V:=fun q v hq hc =>
 h q v hq ((World.cell?_setCell_other w p q u (fun e=>by subst e; omega)).trans hc)
theorem blk_at1 (w:World) (o:Obj) (t:TypeId) (cs:Array Value):Blk ((w.alloc o).alloc (.cells cs t)) (w.heap.size + 1) t cs:=by have:=Blk.new (w.alloc o) t cs; simpa using this
theorem blk_at2 (w:World) (o o2:Obj) (t:TypeId) (cs:Array Value):Blk (((w.alloc o).alloc o2).alloc (.cells cs t)) (w.heap.size + 1 + 1) t cs:=by have:=Blk.new ((w.alloc o).alloc o2) t cs; simpa using this
theorem New.below {B:Nat} {w w' V:World} (h:New B w' V) (hb:Below w.heap.size w w'):New B w V:=fun p v hp hc=>h p v hp ((hb.cell (World.block_lt_of_cell? w p hc)).trans hc)
theorem New.unalloc {B:Nat} {w V:World} {o:Obj} (h:New B (w.alloc o) V):New B w V:=fun p v hp hc=>h p v hp ((World.cell?_alloc_lt w o p (World.block_lt_of_cell? w p hc)).trans hc)
end Go.Proofs.YtkjnkpkagcboeaaGreatDoor
namespace Go.Proofs.YtkjnkpkagcboeaaGreatDoor
def val:List Int -> Nat
 | []=>0
 | x :: l=>x.toNat + 65536 * val l
def limbs (n:Nat):List Int:=if h:n = 0 then [] else ((n % 65536:Nat):Int) :: limbs (n / 65536)
termination_by n
decreasing_by omega
def U16 (l:List Int):Prop:=∀ x ∈ l,0 <= x /\ x <= 65535
theorem U16.nil:U16 []:=fun _ h=>by cases h
theorem U16.cons {x:Int} {l:List Int} (h:0 <= x /\ x <= 65535) (k:U16 l):U16 (x :: l):=fun y hy=>by
 rcases List.mem_cons.1 hy with rfl | hy
 · exact h
 · exact k y hy
theorem U16.head {x:Int} {l:List Int} (h:U16 (x :: l)):0 <= x /\ x <= 65535:=h x (by simp)
theorem U16.tail {x:Int} {l:List Int} (h:U16 (x :: l)):U16 l:=fun y hy=>h y (by simp [hy])
theorem U16.app {l m:List Int} (h:U16 l) (k:U16 m):U16 (l ++ m):=fun y hy=>by
 rcases List.mem_append.1 hy with hy | hy
 · exact h y hy
 · exact k y hy
theorem U16.take {l:List Int} (h:U16 l) (k:Nat):U16 (l.take k):=fun y hy=>h y (List.mem_of_mem_take hy)
theorem U16.drop {l:List Int} (h:U16 l) (k:Nat):U16 (l.drop k):=fun y hy=>h y (List.mem_of_mem_drop hy)
theorem U16.get {l:List Int} (h:U16 l) {k:Nat} {x:Int} (hx:l[k]? = some x):0 <= x /\ x <= 65535:=h x (List.mem_of_getElem? hx)
theorem U16.set_ {l:List Int} (h:U16 l) {k:Nat} {x:Int} (hx:0 <= x /\ x <= 65535):U16 (l.set k x):=fun y hy=>by
 rcases List.mem_or_eq_of_mem_set hy with hy | rfl
 · exact h y hy
 · exact hx
theorem limbs_zero:limbs 0 = []:=by rw [limbs]; simp
theorem limbs_pos {n:Nat} (h:n ≠ 0):limbs n = ((n % 65536:Nat):Int) :: limbs (n / 65536):=by rw [limbs]; simp [h]
theorem limbs_u16 (n:Nat):U16 (limbs n):=by
 induction n using Nat.strongRecOn with
 | ind n ih =>
  by_cases h:n = 0
  · subst h; rw [limbs_zero]; exact U16.nil
  · rw [limbs_pos h]; exact U16.cons (by omega) (ih _ (by omega))
theorem val_limbs (n:Nat):val (limbs n) = n:=by
 induction n using Nat.strongRecOn with
 | ind n ih =>
  by_cases h:n = 0
  · subst h; rw [limbs_zero]; rfl
  · rw [limbs_pos h,val,ih _ (by omega)]; omega
theorem val_append (l m:List Int):val (l ++ m) = val l + 65536 ^ l.length * val m:=by
 induction l with
 | nil=>simp [val]
 | cons x l ih =>
  simp only [List.cons_append,val,ih,List.length_cons,Nat.pow_succ];rw [Nat.mul_add,<- Nat.mul_assoc,Nat.mul_comm 65536 (65536 ^ l.length),Nat.add_assoc]
theorem val_lt {l:List Int} (h:U16 l):val l < 65536 ^ l.length:=by
 induction l with
 | nil=>simp [val]
 | cons x l ih =>
  have h1:=ih h.tail;have h2:=h.head;simp only [val,List.length_cons,Nat.pow_succ]
  omega
theorem val_snoc (l:List Int) (x:Int):val (l ++ [x]) = val l + 65536 ^ l.length * x.toNat:=by rw [val_append]; simp [val]
theorem val_take {l:List Int} {k:Nat} {x:Int} (h:l[k]? = some x):val (l.take (k + 1)) = val (l.take k) + 65536 ^ k * x.toNat:=by
 rw [take_more h,val_snoc];have:(l.take k).length = k:=by have:=lt_of_get h; simp; omega
 rw [this]
theorem val_drop {l:List Int} {k:Nat} {x:Int} (h:l[k]? = some x):val (l.drop k) = x.toNat + 65536 * val (l.drop (k + 1)):=by
 have hk:=lt_of_get h;rw [List.drop_eq_getElem_cons hk];have:l[k] = x:=by rw [List.getElem?_eq_getElem hk] at h; exact Option.some.inj h
 rw [this,val]
theorem val_split (l:List Int) (k:Nat):val l = val (l.take k) + 65536 ^ (l.take k).length * val (l.drop k):=by
 have:=val_append (l.take k) (l.drop k)
 rwa [List.take_append_drop] at this
theorem val_drop_all {l:List Int} {k:Nat} (h:l.length <= k):val (l.drop k) = 0:=by rw [List.drop_eq_nil_of_le h]; rfl
theorem val_take_all {l:List Int} {k:Nat} (h:l.length <= k):val (l.take k) = val l:=by rw [List.take_of_length_le h]
theorem limbs_canon {l:List Int} (h:U16 l) (hc:∀ x,l.getLast? = some x -> x ≠ 0):limbs (val l) = l:=by
 induction l with
 | nil=>exact limbs_zero
 | cons x l ih =>
  have h1:=h.head;have hv:val (x :: l) = x.toNat + 65536 * val l:=rfl;have hl:limbs (val l) = l:=ih h.tail (fun y hy=>hc y (by
   cases l with
   | nil=>simp at hy
   | cons z l=>rw [List.getLast?_cons_cons]; exact hy))
  have hne:val (x :: l) ≠ 0:=by
   intro e;rw [hv] at e
   cases l with
   | nil=>exact hc x (by simp) (by omega)
   | cons z l =>
    have:val (z :: l) = 0:=by omega
    rw [this,limbs_zero] at hl
    cases hl
  rw [limbs_pos hne,hv];have e1:(x.toNat + 65536 * val l) % 65536 = x.toNat:=by omega
  have e2:(x.toNat + 65536 * val l) / 65536 = val l:=by omega
  rw [e1,e2,hl];congr 1
  omega
theorem limbs_last {n:Nat} {x:Int} (h:(limbs n).getLast? = some x):x ≠ 0:=by
 induction n using Nat.strongRecOn generalizing x with
 | ind n ih =>
  by_cases h0:n = 0
  · subst h0; rw [limbs_zero] at h; simp at h
  ·
   rw [limbs_pos h0] at h;by_cases h1:n / 65536 = 0
   ·
    rw [h1,limbs_zero] at h;simp at h
    omega
   ·
    have:limbs (n / 65536) ≠ []:=by rw [limbs_pos h1]; simp
    obtain ⟨y,t,ht⟩:=List.exists_cons_of_ne_nil this;rw [ht,List.getLast?_cons_cons,<- ht] at h;exact ih _ (by omega) h
theorem limbs_inj {n m:Nat}:limbs n = limbs m ↔ n = m:=by
 constructor
 · intro e; rw [<- val_limbs n,<- val_limbs m,e]
 · intro e; rw [e]
theorem limbs_len_le {n k:Nat} (h:n < 65536 ^ k):(limbs n).length <= k:=by
 induction k generalizing n with
 | zero => have : n = 0 := by simpa using h
           subst this; simp [limbs_zero]
 | succ k ih =>
  by_cases h0:n = 0
  · subst h0; simp [limbs_zero]
  ·
   rw [limbs_pos h0];have:=ih (n:=n / 65536) (by rw [Nat.pow_succ] at h; omega);simp only [List.length_cons]
   omega
theorem limbs_len_pos {n:Nat}:0 < (limbs n).length ↔ 0 < n:=by
 constructor
 ·
  intro h;apply Nat.pos_of_ne_zero;intro e; subst e; simp [limbs_zero] at h
 · intro h; rw [limbs_pos (by omega)]; simp
theorem lt_pow_limbs (n:Nat):n < 65536 ^ (limbs n).length:=by have:=val_lt (limbs_u16 n); rwa [val_limbs] at this
theorem limbs_len_mono {n m:Nat} (h:n <= m):(limbs n).length <= (limbs m).length:=limbs_len_le (Nat.lt_of_le_of_lt h (lt_pow_limbs m))
theorem limbs_len_val {l:List Int} (h:U16 l):(limbs (val l)).length <= l.length:=limbs_len_le (val_lt h)
theorem limbs_len_mul (a b:Nat):(limbs (a * b)).length <= (limbs a).length + (limbs b).length:=by
 apply limbs_len_le;rw [Nat.pow_add];exact Nat.mul_lt_mul'' (lt_pow_limbs a) (lt_pow_limbs b)
theorem limbs_len_add (a b:Nat):(limbs (a + b)).length <= max (limbs a).length (limbs b).length + 1:=by
 apply limbs_len_le;rw [Nat.pow_succ];have h1:=lt_pow_limbs a;have h2:=lt_pow_limbs b;have h3:65536 ^ (limbs a).length <= 65536 ^ (max (limbs a).length (limbs b).length):=Nat.pow_le_pow_right (by omega) (by omega);have h4:65536 ^ (limbs b).length <= 65536 ^ (max (limbs a).length (limbs b).length):=Nat.pow_le_pow_right (by omega) (by omega)
 omega
theorem limbs_cut {l:List Int} (h:U16 l) {k:Nat} (hk:val (l.drop k) = 0) (hc:∀ x,k ≠ 0 -> l[k - 1]? = some x -> x ≠ 0) (hkl:k <= l.length):limbs (val l) = l.take k:=by
 have h1:val l = val (l.take k):=by rw [val_split l k,hk]; omega
 rw [h1];apply limbs_canon (h.take k);intro x hx;by_cases h0:k = 0
 · subst h0; simp at hx
 ·
  refine hc x h0 ?_;rw [List.getLast?_eq_getElem?,List.length_take,List.getElem?_take] at hx;have e:min k l.length = k:=by omega
  rw [e,if_pos (by omega)] at hx;exact hx
def cmpN (a b:Nat):Int:=if a < b then -1 else if b < a then 1 else 0
theorem cmpN_lt {a b:Nat}:cmpN a b < 0 ↔ a < b:=by unfold cmpN; split <;> (try split) <;> omega
theorem cmpN_le {a b:Nat}:cmpN a b <= 0 ↔ a <= b:=by unfold cmpN; split <;> (try split) <;> omega
theorem cmpN_ge {a b:Nat}:0 <= cmpN a b ↔ b <= a:=by unfold cmpN; split <;> (try split) <;> omega
theorem cmpN_zero {a b:Nat}:cmpN a b = 0 ↔ a = b:=by unfold cmpN; split <;> (try split) <;> omega
def limbAt (l:List Int) (k:Nat):Int:=(l[k]?).getD 0
theorem limbAt_some {l:List Int} {k:Nat} {x:Int} (h:l[k]? = some x):limbAt l k = x:=by simp [limbAt,h]
theorem limbAt_none {l:List Int} {k:Nat} (h:l.length <= k):limbAt l k = 0:=by simp [limbAt,h]
theorem limbAt_in {l:List Int} (h:U16 l) (k:Nat):0 <= limbAt l k /\ limbAt l k <= 65535:=by
 unfold limbAt
 cases hx:l[k]? with
 | none=>simp
 | some x=>exact h.get hx
theorem val_drop_at (l:List Int) (k:Nat):val (l.drop k) = (limbAt l k).toNat + 65536 * val (l.drop (k + 1)):=by
 cases hx:l[k]? with
 | none =>
  have:=List.getElem?_eq_none_iff.1 hx;rw [limbAt_none this,val_drop_all this,val_drop_all (by omega)]; rfl
 | some x=>rw [limbAt_some hx]; exact val_drop hx
theorem val_take_at {l:List Int} (k:Nat):val (l.take (k + 1)) = val (l.take k) + 65536 ^ k * (limbAt l k).toNat:=by
 cases hx:l[k]? with
 | none =>
  have:=List.getElem?_eq_none_iff.1 hx;rw [limbAt_none this,val_take_all this,val_take_all (by omega)]; simp
 | some x=>rw [limbAt_some hx]; exact val_take hx
theorem val_split_at {l:List Int} (h:U16 l) (k:Nat):∃ lo,lo < 65536 ^ k /\ val l = lo + 65536 ^ k * val (l.drop k):=by
 refine ⟨val (l.take k),?_,?_⟩
 · refine ltl (val_lt (h.take k)) (Nat.pow_le_pow_right (by omega) (by simp; omega))
 ·
  by_cases hk:k <= l.length
  ·
   have:=val_split l k;have e:(l.take k).length = k:=by simp; omega
   rwa [e] at this
  · rw [val_drop_all (by omega),val_take_all (by omega)]; omega
theorem val_lt_of {a b:List Int} (ha:U16 a) (hb:U16 b) (k:Nat) (he:val (a.drop (k + 1)) = val (b.drop (k + 1))) (h:limbAt a k < limbAt b k):val a < val b:=by
 obtain ⟨p,hp,e1⟩:=val_split_at ha k;obtain ⟨q,hq,e2⟩:=val_split_at hb k;rw [val_drop_at] at e1 e2;rw [e1,e2,he];have h1:=limbAt_in ha k;have h2:(limbAt a k).toNat + 65536 * val (b.drop (k + 1)) + 1 <= (limbAt b k).toNat + 65536 * val (b.drop (k + 1)):=by omega
 have h3:=Nat.mul_le_mul_left (65536 ^ k) h2;rw [Nat.mul_add _ _ 1] at h3
 omega
end Go.Proofs.YtkjnkpkagcboeaaGreatDoor
namespace Go.Proofs.YtkjnkpkagcboeaaGreatDoor
open Go.RowKit
def natC (x:Int):List Value:=[.int .u16 x]
theorem natC_len (s:Int):(natC s).length = 1:=rfl
theorem natC_one (s:Int):∀ u ∈ natC s,u.oneCell' = true:=by simp [natC,Value.oneCell']
theorem natC_cell {w:World} {b:Nat} {s:Int} (h:w.cell? ⟨b,0,none⟩ = some (.int .u16 s)):∀ j u,(natC s)[j]? = some u -> w.cell? ⟨b,j,none⟩ = some u:=by
 intro j u hu
 match j,hu with
 | 0,hu=>simp [natC] at hu; subst hu; exact h
theorem natC_map (l:List Int):l.flatMap natC = l.map (Value.int .u16):=by
 induction l with
 | nil=>rfl
 | cons x l ih=>rw [List.flatMap_cons,ih]; rfl
abbrev OwnN (B:Nat) (w:World) (a:Option Addr) (c:Nat) (l:List Int):Prop:=Own natC 1 47 B w a c l
theorem infoN:(Tryz.prog.info? 47).map (fun i=>(i.zero,i.size,i.bytes)) = some (some (.int .u16 0),1,2):=by kernel_rfl
theorem NatR.u16 {w:World} {a:Option Addr} {c:Nat} {l:List Int} (h:NatR w a c l):U16 l:=fun x hx=>by
 obtain ⟨k,hk⟩:=List.mem_iff_getElem?.1 hx;obtain ⟨b,off,_,he⟩:=h.2.2 k x hk;exact u16_of he.2
theorem NatR.take {w:World} {a:Option Addr} {c:Nat} {l:List Int} (h:NatR w a c l) (k:Nat):NatR w a c (l.take k):=by
 refine ⟨by have:=h.1; simp; omega,h.2.1,fun j x hx=>?_⟩;rw [List.getElem?_take] at hx
 split at hx
 · exact h.2.2 j x hx
 · cases hx
theorem NatR.zero {w:World} {a:Option Addr} {c:Nat} {l:List Int} (h:NatR w a c l):NatR w a c []:=by have:=h.take 0; simpa using this
theorem NatR.cell {w:World} {a:Option Addr} {c:Nat} {l:List Int} (h:NatR w a c l) {k:Nat} {x:Int} (hx:l[k]? = some x):∃ b off,a = some ⟨b,off,none⟩ /\ w.cell? ⟨b,off + k,none⟩ = some (.int .u16 x):=by
 obtain ⟨b,off,e,hc⟩:=h.2.2 k x hx;exact ⟨b,off,e,by simpa using hc.1⟩
theorem OwnN.reads1 {B:Nat} {w:World} {a:Option Addr} {c:Nat} {l:List Int} (h:OwnN B w a c l) (hs:U16 l):NatR w a c l :=
 Own.reads natC_len h fun g o x hx hc=>⟨by simpa using hc 0 _ rfl,u16_wf (hs x hx)⟩
theorem OwnN.readsV {B:Nat} {w V:World} {a:Option Addr} {c:Nat} {l:List Int} (h:OwnN B w a c l) (hV:New B w V) (hs:U16 l):NatR V a c l:=by
 have:=Own.readsIn (E:=IntE .u16) (β:=Int) id natC_len h hV (fun b o x hx hc=>⟨by simpa using hc 0 _ rfl,u16_wf (hs x hx)⟩)
 rwa [List.map_id] at this
theorem append_nat {B:Nat} {w:World} {l:List Int} {ops:Array Oper} {rest:List Oper} {o:Oper} {act:Act} {Q:Exit -> Act -> World -> Prop} (hgd:o.guard = none) (s y:Operand)
  (ho:o.op = .call { callee:=.builtin .append,args:=#[s,y],argTypes:=#[50,50] })
  (a:Option Addr) (c:Nat) (hs:act.eval s = .slice a l.length c) (hown:OwnN B w a c l)
  (x:Int) (b c1:Nat) (hy:act.eval y = .slice (some ⟨b,0,none⟩) 1 c1) (hcell:w.cell? ⟨b,0,none⟩ = some (.int .u16 x))
  (l2:List Int) (hl2:l2 = l ++ [x]) (hlen:l2.length <= 16777216) (hB:B <= w.heap.size)
  (h:∀ a' c' w',OwnN B w' a' c' l2 -> w.grownBy w' (Value.ownBlock (.slice a l.length c)) -> ((∃ g,a' = some ⟨g,0,none⟩ /\ (a = some ⟨g,0,none⟩ \/ g = w.heap.size))) ->
   wpList Tryz.prog ops Q rest (act.put o.dst (.slice a' l2.length c')) w'):wpList Tryz.prog ops Q (o :: rest) act w :=
 wpList_append_1 hgd s y 50 ho Tryz.underlying50 infoN rfl (by omega) (by omega) natC_len a c hs hown x (natC_one x) b c1 hy (natC_cell hcell) l2 hl2 hlen hB h
section
variable {α : Type} {f : α -> List Value} {sz : Nat} {t : TypeId} {B : Nat} {w : World} {l m : List α} {P : Program}
theorem run_append_of_nil (ts ty e:TypeId) (i:TypeInfo) (ht:P.underlying ts = some (.slice e)) (hi:P.info? e = some i)
  (v:Value) (n:Nat) (xs:List Value) (size:Nat) (hown:w.ownsRow B e size v n xs) (c:Nat):(Builtin.append_ #[ts,ts] ty #[v,.slice none 0 c]).run P w = .ok v w:=by
 rcases hown.2 with ⟨rfl,rfl⟩ | ⟨g,cap,cur,rfl,_,_,hnc,_⟩
 · simp [Builtin.append_,run_underlying ht,sizeOf,typeInfo,hi,Builtin.lenOf,Builtin.firstCells]
 · simp [Builtin.append_,run_underlying ht,sizeOf,typeInfo,hi,Builtin.lenOf,Builtin.firstCells,hnc,storeCells]
theorem wp_append_m {o:Oper} {act:Act} {K:Act -> World -> Prop} {Q:Exit -> Act -> World -> Prop} (s y:Operand) (ts:TypeId)
  (ho:o.op = .call { callee:=.builtin .append,args:=#[s,y],argTypes:=#[ts,ts] })
  {z:Value} {bytes:Nat} (ht:P.underlying ts = some (.slice t)) (hi:(P.info? t).map (fun i=>(i.zero,i.size,i.bytes)) = some (some z,sz,bytes)) (hz:z.cells.size = sz) (hsz:0 < sz) (hby:bytes <= 1024)
  (hf:∀ x,(f x).length = sz) (a:Option Addr) (c:Nat) (hs:act.eval s = .slice a l.length c) (hown:Own f sz t B w a c l)
  (hone:∀ x ∈ m,∀ u ∈ f x,u.oneCell' = true) (am:Option Addr) (cm:Nat) (hy:act.eval y = .slice am m.length cm)
  (hcell:∀ k x,m[k]? = some x -> ∃ b off,am = some ⟨b,off,none⟩ /\ ∀ j u,(f x)[j]? = some u -> w.cell? ⟨b,off + (k * sz + j),none⟩ = some u)
  (l2:List α) (hl2:l2 = l ++ m) (hlen:l2.length <= 16777216) (hB:B <= w.heap.size)
  (h:∀ a' c' w',Own f sz t B w' a' c' l2 -> w.grownBy w' (Value.ownBlock (.slice a l.length c)) -> Below B w w' ->
   K (act.put o.dst (.slice a' l2.length c')) w'):o.wp P act w K Q:=by
 subst hl2;obtain ⟨i,hi0,hz0,hz1,hz2⟩:=info_parts hi;simp only [List.length_append] at hlen;have hf2:(l ++ m).flatMap f = l.flatMap f ++ m.flatMap f:=by simp
 have key:∃ v' w',(Builtin.append_ #[ts,ts] o.type #[.slice a l.length c,.slice am m.length cm]).run P w = .ok v' w' /\ w'.ownsRow B t sz v' (l.length + m.length) (l.flatMap f ++ m.flatMap f) /\ w.grownBy w' (Value.ownBlock (.slice a l.length c)):=by
  cases am with
  | none =>
   have hm:m = []:=by
    cases m with
    | nil=>rfl
    | cons x m=>obtain ⟨b,off,e,_⟩:=hcell 0 x rfl; cases e
   subst hm;exact ⟨_,w,run_append_of_nil ts o.type t i ht hi0 _ _ _ sz hown cm,by have:=hown; unfold Own at this; simpa using this,World.grownBy.refl w _⟩
  | some ad =>
   obtain ⟨v',w',hr,h2,h3,_,_⟩:=run_append_own_at (P:=P) w B ts o.type t i z sz bytes ht hi0 hz0 hz1 hz2 hz hsz (.slice a l.length c) l.length (l.flatMap f) hown ad m.length cm (m.flatMap f) (flatMap_len hf m)
    (fun j u hu=>by
     have hj:j < m.length * sz:=by rw [<- flatMap_len hf m]; exact lt_of_get hu
     have hk:j / sz < m.length:=(Nat.div_lt_iff_lt_mul hsz).2 hj;obtain ⟨x,hx⟩:=get_of_lt hk;obtain ⟨b,off,e,hc⟩:=hcell _ x hx;injection e with e
     subst e;have hd:j = j / sz * sz + j % sz:=by have:=Nat.div_add_mod j sz; rw [Nat.mul_comm] at this; omega
     have h1:=flatMap_at hf m (j / sz) x (j % sz) hx (Nat.mod_lt _ hsz);rw [<- hd,hu] at h1;have:=hc _ _ h1.symm;rw [Addr.add_lit,hd];exact this) (fun u hu=>by
     obtain ⟨x,hx,hux⟩:=List.mem_flatMap.1 hu;exact hone x hx u hux) (by unfold maxLen; omega)
    (by have : (l.length + m.length) * bytes <= 16777216 * 1024 := Nat.mul_le_mul hlen hby
        omega) hB
   exact ⟨v',w',hr,h2,h3⟩
 obtain ⟨v',w',hr,h2,h3⟩:=key;have hbel:Below B w w':=brf.grown h3 hB (fun k hk=>by
  cases a with
  | none=>simp [Value.ownBlock] at hk
  | some g=>simp [Value.ownBlock] at hk; subst hk; exact (hown.lt rfl).1)
 unfold Oper.wp execOp;simp only [ho,resolve,invoke,builtin,Sem.run_bind,Sem.run_pure,Result.andThen_ok,List.map_toArray,List.map_cons,List.map_nil,hs,hy,hr];have hn:(l ++ m).length = l.length + m.length:=by simp
 rcases h2.2 with ⟨e,e0⟩ | ⟨g,cap,cur,e,_⟩
 ·
  have hn0:(l ++ m).length = 0:=by rw [hn,e0]
  subst e;have:=h none 0 w' (by unfold Own; rw [hf2,hn0]; rw [e0] at h2; exact h2) h3 hbel;rw [hn0] at this;exact this
 ·
  subst e;have:=h (some ⟨g,0,none⟩) cap w' (by unfold Own; rw [hf2,hn]; exact h2) h3 hbel;rw [hn] at this;exact this
end
theorem append_nats {B:Nat} {w:World} {l m:List Int} {ops:Array Oper} {rest:List Oper} {o:Oper} {act:Act} {Q:Exit -> Act -> World -> Prop} (hgd:o.guard = none) (s y:Operand)
  (ho:o.op = .call { callee:=.builtin .append,args:=#[s,y],argTypes:=#[50,50] })
  (a:Option Addr) (c:Nat) (hs:act.eval s = .slice a l.length c) (hown:OwnN B w a c l)
  (am:Option Addr) (cm:Nat) (hy:act.eval y = .slice am m.length cm) (hr:NatR w am cm m)
  (l2:List Int) (hl2:l2 = l ++ m) (hlen:l2.length <= 16777216) (hB:B <= w.heap.size)
  (h:∀ a' c' w',OwnN B w' a' c' l2 -> w.grownBy w' (Value.ownBlock (.slice a l.length c)) -> Below B w w' ->
   wpList Tryz.prog ops Q rest (act.put o.dst (.slice a' l2.length c')) w'):wpList Tryz.prog ops Q (o :: rest) act w :=
 wpList_plain hgd fun _ hK=>wp_append_m s y 50 ho Tryz.underlying50 infoN rfl (by omega) (by omega) natC_len a c hs hown (fun x _=>natC_one x) am cm hy
  (fun k x hx=>by
   obtain ⟨b,off,e,hc⟩:=hr.cell hx;refine ⟨b,off,e,fun j u hu=>?_⟩
   match j,hu with
   | 0,hu=>simp [natC] at hu; subst hu; simpa using hc) l2 hl2 hlen hB fun a' c' w' h1 h2 h3=>hK _ _ (h a' c' w' h1 h2 h3)
def BlkN (w:World) (g:Nat) (l:List Int):Prop:=Blk w g 47 (l.map (Value.int .u16)).toArray
section
variable {w w' : World} {g : Nat} {l : List Int}
theorem BlkN.lt (h:BlkN w g l):g < w.heap.size:=Blk.lt h
theorem BlkN.cell (h:BlkN w g l) {i:Nat} {x:Int} (hx:l[i]? = some x):w.cell? ⟨g,i,none⟩ = some (.int .u16 x):=by
 rw [Blk.cell h i]; simp [hx]
theorem BlkN.frozen (h:BlkN w g l) (i:Nat):w.frozen? ⟨g,i,none⟩ = false:=Blk.frozen h i
theorem BlkN.set_ (h:BlkN w g l) (i:Nat) (x:Int):BlkN (w.setCell ⟨g,i,none⟩ (.int .u16 x)) g (l.set i x):=by
 have:=Blk.set_ h i (.int .u16 x);unfold BlkN;rw [List.setIfInBounds_toArray,<- List.map_set] at this;exact this
theorem BlkN.below (h:BlkN w g l) (hb:Below w.heap.size w w'):BlkN w' g l:=Blk.below' h hb
theorem BlkN.alloc (h:BlkN w g l) (o:Obj):BlkN (w.alloc o) g l:=Blk.alloc h o
theorem BlkN.new (w:World) (n:Nat):BlkN (w.alloc (.cells (madeCells #[.int .u16 0] n) 47)) w.heap.size (List.replicate n 0):=by
 have:=Blk.new w 47 (madeCells #[.int .u16 0] n);unfold BlkN;have e:madeCells #[.int .u16 0] n = ((List.replicate n (0:Int)).map (Value.int .u16)).toArray:=by
  apply Array.ext
  · simp [madeCells]
  ·
   intro i h1 h2;simp [madeCells,Nat.mod_one]
 rw [e] at this ⊢;exact this
theorem BlkN.own (h:BlkN w g l) {B:Nat} (hB:B <= g) (hl:l.length <= maxLen):OwnN B w (some ⟨g,0,none⟩) l.length l:=by
 refine ⟨by rw [flatMap_len natC_len],.inr ⟨g,l.length,_,rfl,hB,h,nlr _,hl,by simp,?_⟩⟩;rw [natC_map];simp only [Nat.mul_one];exact List.take_of_length_le (by simp)
theorem BlkN.readsV (h:BlkN w g l) {B:Nat} {V:World} (hB:B <= g) (hV:New B w V) (hs:U16 l) {c:Nat} (hc:l.length <= c) (hm:c <= maxLen):NatR V (some ⟨g,0,none⟩) c l :=
 ⟨hc,hm,fun k x hx=>⟨g,0,rfl,by simpa using hV _ _ (by simpa using hB) (h.cell hx),u16_wf (hs x (List.mem_of_getElem? hx))⟩⟩
end
theorem run_make_nat (k:IntKind) (n:Nat) (hn:n <= 16777216) (w:World) :
  (Instr.makeSlice 50 (.int k (n:Int)) (.int k (n:Int))).run Tryz.prog w = .ok (.slice (some ⟨w.heap.size,0,none⟩) n n) (w.alloc (.cells (madeCells #[.int .u16 0] n) 47)) :=
 run_make_row' 50 47 (.int .u16 0) 2 Tryz.underlying50 infoN rfl k k n (by omega) (by omega) w
def NewN (l:List Int) (B:Nat) (w:World) (v:Value):Prop:=∃ a c,v = .slice a l.length c /\ ∀ V,New B w V -> NatR V a c l
theorem NewN.own {l:List Int} {B:Nat} {w:World} {a:Option Addr} {c:Nat} (h:OwnN B w a c l) (hs:U16 l):NewN l B w (.slice a l.length c):=⟨a,c,rfl,fun _ hn=>h.readsV hn hs⟩
def RetN (l:List Int) (w:World) (e:Ending) (w':World):Prop:=∃ a c,e = .returned (.slice a l.length c) /\ (∀ V,New w.heap.size w' V -> NatR V a c l) /\ Below w.heap.size w w'
theorem RetN.mk {l:List Int} {w w':World} {v:Value} (h:NewN l w.heap.size w' v) (hb:Below w.heap.size w w'):RetN l w (.returned v) w':=by
 obtain ⟨a,c,rfl,hV⟩:=h;exact ⟨a,c,rfl,hV,hb⟩
theorem RetN.own {l L:List Int} {w w':World} {a:Option Addr} {c n:Nat} (h:OwnN w.heap.size w' a c l) (hs:U16 l) (hb:Below w.heap.size w w') (hL:L = l) (hn:n = l.length):RetN L w (.returned (.slice a n c)) w':=by
 subst hL; subst hn; exact RetN.mk (NewN.own h hs) hb
end Go.Proofs.YtkjnkpkagcboeaaGreatDoor
namespace Go.Proofs.YtkjnkpkagcboeaaGreatDoor
theorem trim_take {l:List Int} (h:U16 l):∀ n,n <= l.length -> val (l.drop n) = 0 -> ∃ k,k <= n /\ limbs (val l) = l.take k
 | 0,_,hv=>⟨0,nlr _,by rw [List.drop_zero] at hv; rw [hv,limbs_zero,List.take_zero]⟩
 | n + 1,hn,hv=>by
  obtain ⟨x,hx⟩:=get_of_lt (xs:=l) (k:=n) (by omega);by_cases hx0:x = 0
  ·
   obtain ⟨k,hk,e⟩:=trim_take h n (by omega) (by rw [val_drop hx,hv,hx0]; rfl);exact ⟨k,by omega,e⟩
  ·
   refine ⟨n + 1,nlr _,limbs_cut h hv (fun y _ hy=>?_) hn⟩;rw [Nat.add_sub_cancel,hx] at hy;injection hy with hy
   rw [<- hy];exact hx0
theorem trim_some {l:List Int} (h:U16 l):∃ k,k <= l.length /\ limbs (val l) = l.take k:=trim_take h l.length (nlr _) (by rw [List.drop_length]; rfl)
theorem NatR.trim {w:World} {a:Option Addr} {c:Nat} {l:List Int} (h:NatR w a c l):NatR w a c (limbs (val l)):=by
 obtain ⟨k,_,e⟩:=trim_some h.u16;rw [e];exact h.take k
theorem trim_more {l:List Int} {n:Nat} {x:Int} (hx:l[n]? = some x) (h0:x = 0) (hv:val (l.drop (n + 1)) = 0):val (l.drop n) = 0:=by
 rw [val_drop hx,hv,h0]; rfl
theorem trim_stop {l:List Int} (h:U16 l) {n:Nat} {x:Int} (hx:l[n]? = some x) (h0:x ≠ 0) (hv:val (l.drop (n + 1)) = 0):limbs (val l) = l.take (n + 1):=by
 refine limbs_cut h hv (fun y _ hy=>?_) (lt_of_get hx);rw [Nat.add_sub_cancel,hx] at hy;injection hy with hy
 rw [<- hy];exact h0
theorem trim_zero {l:List Int} (hv:val (l.drop 0) = 0):limbs (val l) = l.take 0:=by
 rw [List.drop_zero] at hv;rw [hv,limbs_zero,List.take_zero]
theorem small_iff {n:Nat}:(limbs n).length <= 4 ↔ n < 18446744073709551616:=by
 constructor
 ·
  intro h;have h1:=lt_pow_limbs n;have h2:65536 ^ (limbs n).length <= 65536 ^ 4:=Nat.pow_le_pow_right (by omega) h;have h3:(65536:Nat) ^ 4 = 18446744073709551616:=by decide
  omega
 ·
  intro h;exact limbs_len_le (by rw [show (65536:Nat) ^ 4 = 18446744073709551616 by decide]; exact h)
theorem uint_or {n x i:Nat} (h:n < 65536 ^ i):n ||| x * 65536 ^ i = n + 65536 ^ i * x:=by
 have e:(65536:Nat) ^ i = 2 ^ (16 * i):=by rw [Nat.pow_mul]
 rw [e] at h ⊢;rw [Nat.or_comm,Nat.mul_comm x,<- Nat.two_pow_add_eq_or_of_lt h,Nat.add_comm]
end Go.Proofs.YtkjnkpkagcboeaaGreatDoor
namespace Go.Proofs.YtkjnkpkagcboeaaGreatDoor
open Go.RowKit
theorem trim_any (l:List Int) (a:Option Addr) (c:Nat) (w:World) (h:NatR w a c l) :
  Calls Tryz.prog 145 #[.slice a l.length c] w fun e w'=>e = .returned (.slice a (limbs (val l)).length c) /\ w = w':=by
 have H:=Hd h;have hlen:=SlR.len h;have hcap:=h.1;have hcap2:=h.2.1;unfold maxLen at hcap2;obtain ⟨R,hR⟩:∃ q,(limbs (val l)).length = q:=⟨_,rfl⟩
 rw [hR];have HR:=Hd hR;clear h hR;go_enter Tryz.func145,Tryz.ntmps145;go_wp2;obtain ⟨wo,rfl⟩:∃ wo:World,wo = w:=⟨_,rfl⟩
 go_loopg [3] l.length (fun n q wr=>n <= l.length /\ q = .int .i64 n /\ wo = wr /\ Hid (val (l.drop n) = 0))
 case atStart=>exact ⟨nlr _,rfl,rfl,by simp [Hid,val]⟩
 case round =>
  obtain ⟨hn,rfl,rfl,hv⟩:=hrel;by_cases h0:gk = 0
  ·
   subst h0;have hr:R = 0:=by rw [<- HR.out,trim_zero hv.out]; simp
   subst hr;have hzc:(0:Int) <= (c:Int):=by omega
   have hz1:¬ ((0:Int) < ((0:Nat):Int)):=by omega
   go_wp2;go_ret;exact ⟨rfl,rfl⟩
  ·
   obtain ⟨m,rfl⟩:∃ m,gk = m + 1:=⟨gk - 1,by omega⟩
   obtain ⟨x,hx⟩:=get_of_lt (xs:=l) (k:=m) (by omega);obtain ⟨b,off,rfl,hc⟩:=H.out.cell hx;have e1:(((m + 1:Nat):Int)) = (m:Int) + 1:=by omega
   rw [e1];have hml:m < l.length:=by omega
   have HX:=Hd hx;by_cases hx0:x = 0
   ·
    have hxb:(x == 0) = true:=by simpa using hx0
    have hv2:=Hd (trim_more HX.out hx0 hv.out);clear hx0 hx hv e1;go_wp2;go_roundg m
    case rel=>exact ⟨by omega,by first | rfl | go_num,rfl,hv2.out⟩
    case measure=>omega
   ·
    have hxb:(x == 0) = false:=by simpa using hx0
    have hr:R = m + 1:=by rw [<- HR.out,trim_stop H.out.u16 HX.out hx0 hv.out,List.length_take]; omega
    subst hr;have hmc:(m:Int) + 1 <= (c:Int):=by omega
    clear hx0 hx hv e1;go_wp2;go_ret;exact ⟨rfl,rfl⟩
theorem sizeN:(Tryz.prog.info? 47).map (·.size) = some 1:=by kernel_rfl
theorem norm_any (l:List Int) (a:Option Addr) (c:Nat) (w:World) (h:NatR w a c l) (hl:l.length <= 16777216) :
  Calls Tryz.prog 139 #[.slice a l.length c] w (RetN (limbs (val l)) w):=by
 have CT:=trim_any l a c w h;have hT:=h.trim;have hlT:(limbs (val l)).length <= 16777216:=by have:=limbs_len_val h.u16; omega
 have huT:=limbs_u16 (val l);revert CT hT hlT huT;generalize limbs (val l) = T;intro CT hT hlT huT;replace CT:=Hd CT;clear h;by_cases h0:T.length = 0
 ·
  obtain rfl:T = []:=List.length_eq_zero_iff.1 h0;clear h0 hT;go_enter Tryz.func139,Tryz.ntmps139;go_wp2_with fail;refine CT.out.mono ?_;rintro e w1 ⟨rfl,rfl⟩;go_wp2;go_ret;exact ⟨none,0,rfl,fun _ _=>SlR.nil,Below.refl _ _⟩
 ·
  obtain ⟨x,hx⟩:=get_of_lt (xs:=T) (k:=0) (by omega);obtain ⟨b,off,rfl,_⟩:=hT.cell hx;have HT:=Hd hT;have hmk:=run_make_nat .i64 T.length hlT w;have h0i:((T.length:Int) == 0) = false:=by rw [beq_eq_false_iff_ne]; omega
  clear hx hT h0;go_enter Tryz.func139,Tryz.ntmps139;go_wp2_with fail;refine CT.out.mono ?_;rintro e w1 ⟨rfl,rfl⟩;have hg:=Blk.new w 47 (madeCells #[.int .u16 0] T.length);have hms:(madeCells #[.int .u16 0] T.length).size = T.length:=by simp [madeCells]
  have hsrc:∀ j v,(T.map (Value.int .u16))[j]? = some v -> (w.alloc (.cells (madeCells #[.int .u16 0] T.length) 47)).cell? ((⟨b,off,none⟩:Addr).add j) = some v:=fun j v hv=>by
   rw [List.getElem?_map] at hv;obtain ⟨y,hy,rfl⟩:=Option.map_eq_some_iff.1 hv;obtain ⟨b2,off2,e2,hc2⟩:=HT.out.cell hy;injection e2 with e2
   injection e2 with e3 e4
   subst e3;subst e4;rw [Addr.add_lit];exact Ext.alloc (Ext.refl w) _ _ _ hc2
  have HG:=Hd hg;have HSRC:=Hd hsrc;have HMS:=Hd hms;have HMK:=Hd hmk;clear hg hsrc hms;have hcp:=run_copy_row (P:=Tryz.prog) (w.alloc (.cells (madeCells #[.int .u16 0] T.length) 47)) 50 50 3 47 w.heap.size 0 T.length T.length ⟨b,off,none⟩ T.length c _ 47 (T.map (Value.int .u16)) Tryz.underlying50 sizeN HG.out (by simp) HSRC.out (by rw [HMS.out]; simp) (by simp [Value.oneCell']);have hX:(madeCells #[.int .u16 0] T.length).toList.take 0 ++ T.map (Value.int .u16) ++ (madeCells #[.int .u16 0] T.length).toList.drop (0 + (T.map (Value.int .u16)).length) = T.map (Value.int .u16):=by
   rw [List.take_zero,List.nil_append,List.drop_eq_nil_of_le (by rw [Array.length_toList,HMS.out]; simp),List.append_nil]
  rw [hX] at hcp;have hF:BlkN ((w.alloc (.cells (madeCells #[.int .u16 0] T.length) 47)).setRow w.heap.size (T.map (Value.int .u16)).toArray) w.heap.size T:=setRow_heap _ _ _ _ _ _ HG.out;have hB:Below w.heap.size w ((w.alloc (.cells (madeCells #[.int .u16 0] T.length) 47)).setRow w.heap.size (T.map (Value.int .u16)).toArray):=below_setRow (brf.alloc (nlr _) _) (nlr _) _;revert hF hB hcp;generalize (w.alloc (.cells (madeCells #[.int .u16 0] T.length) 47)).setRow w.heap.size (T.map (Value.int .u16)).toArray = w2;intro hcp hF hB;go_wp2;go_ret;exact ⟨_,_,rfl,fun V hV=>hF.readsV (nlr _) hV huT (nlr _) (by unfold maxLen; omega),hB⟩
section
variable {w w' w'' : World} {g : Nat}
theorem but_refl (w:World) (g:Nat):w.grownBy w (some g):=World.grownBy.refl _ _
theorem but_alloc (h:w.grownBy w' (some g)) (o:Obj):w.grownBy (w'.alloc o) (some g):=h.trans (World.grownBy_alloc _ _ _)
theorem but_drew (h:w.grownBy w' (some g)):w.grownBy w'.drew (some g):=⟨h.os,h.tape,h.output,h.size,h.block⟩
theorem but_set (h:w.grownBy w' (some g)) (i:Nat) (u:Value):w.grownBy (w'.setCell ⟨g,i,none⟩ u) (some g) :=
 h.trans ⟨rfl,rfl,rfl,by simp [World.setCell],fun k _ hk=>Below.heap_setCell _ _ _ _ (fun e=>hk (by simp at e; rw [e]))⟩
theorem but_set_new (h:w.grownBy w' (some g)) {p:Addr} (hp:w.heap.size <= p.block) (u:Value):w.grownBy (w'.setCell p u) (some g) :=
 ⟨h.os,h.tape,h.output,by have:=h.size; simpa [World.setCell] using this,fun k hk hne=>(Below.heap_setCell _ _ _ _ (by omega)).trans (h.block k hk hne)⟩
theorem but_below (h:w.grownBy w' (some g)) (hb:Below w'.heap.size w' w''):w.grownBy w'' (some g) :=
 ⟨hb.os.trans h.os,hb.tape.trans h.tape,hb.output.trans h.output,Nat.le_trans h.size hb.size,fun k hk hne=>(hb.block k (ltl hk h.size)).trans (h.block k hk hne)⟩
theorem below_but {B:Nat} {w0:World} (hb:Below B w0 w) (h:w.grownBy w' (some g)) (hg:B <= g) (hB:B <= w.heap.size):Below B w0 w':=hb.grown h hB (fun k hk=>by injection hk with hk; omega)
end
def RowN (w:World) (g:Nat) (l:List Int) (r:List Value):Prop:=Blk w g 47 (l.map (Value.int .u16) ++ r).toArray
section
variable {w w' : World} {g : Nat} {l : List Int} {r : List Value}
theorem RowN.lt (h:RowN w g l r):g < w.heap.size:=Blk.lt h
theorem RowN.cell (h:RowN w g l r) {i:Nat} {x:Int} (hx:l[i]? = some x):w.cell? ⟨g,i,none⟩ = some (.int .u16 x):=by
 have hi:=lt_of_get hx;rw [Blk.cell h i];simp only [List.getElem?_toArray];rw [List.getElem?_append_left (by simpa using hi),List.getElem?_map,hx]
 rfl
theorem RowN.frozen (h:RowN w g l r) (i:Nat):w.frozen? ⟨g,i,none⟩ = false:=Blk.frozen h i
theorem RowN.set_ (h:RowN w g l r) {i:Nat} (hi:i < l.length) (x:Int):RowN (w.setCell ⟨g,i,none⟩ (.int .u16 x)) g (l.set i x) r:=by
 have:=Blk.set_ h i (.int .u16 x);unfold RowN;rw [List.setIfInBounds_toArray,List.set_append_left _ _ (by simpa using hi),<- List.map_set] at this;exact this
theorem RowN.below (h:RowN w g l r) (hb:Below w.heap.size w w'):RowN w' g l r:=Blk.below' h hb
theorem RowN.alloc (h:RowN w g l r) (o:Obj):RowN (w.alloc o) g l r:=Blk.alloc h o
theorem RowN.far (h:RowN w g l r) {p:Addr} (hp:g ≠ p.block) (u:Value):RowN (w.setCell p u) g l r:=Blk.far h hp u
theorem RowN.cut (h:RowN w g l r) (k:Nat):RowN w g (l.take k) ((l.drop k).map (Value.int .u16) ++ r):=by
 unfold RowN at h ⊢;rw [<- List.append_assoc,<- List.map_append,List.take_append_drop];exact h
theorem RowN.of (h:BlkN w g l):RowN w g l []:=by
 unfold RowN;rw [List.append_nil];exact h
theorem RowN.own (h:RowN w g l r) {B:Nat} (hB:B <= g) {c:Nat} (hc:c = l.length + r.length) (hm:c <= maxLen) (k:Nat) (hk:k <= l.length):OwnN B w (some ⟨g,0,none⟩) c (l.take k):=by
 subst hc;have hl:(l.take k).length = k:=by simp; omega
 refine ⟨by rw [flatMap_len natC_len],.inr ⟨g,_,_,rfl,hB,h,by omega,hm,by simp,?_⟩⟩;rw [natC_map,hl,Nat.mul_one,List.take_append_of_le_length (by simpa using hk),List.map_take]
theorem own_row {B:Nat} {a:Option Addr} {c:Nat} (h:OwnN B w a c l) (h0:0 < l.length):∃ g r,a = some ⟨g,0,none⟩ /\ B <= g /\ c = l.length + r.length /\ RowN w g l r:=by
 rcases h.2 with ⟨_,hn⟩ | ⟨g,cap,cur,e,hg,hh,hc,hm,hs,ht⟩
 · omega
 ·
  injection e with e1 e2 e3
  subst e1;subst e3;refine ⟨g,cur.toList.drop l.length,rfl,hg,by simp only [List.length_drop,Array.length_toList,hs]; omega,?_⟩;unfold RowN Blk;rw [hh];rw [natC_map,Nat.mul_one] at ht;rw [<- ht,List.take_append_drop]
theorem RowN.readsAt (h:RowN w g l r) (hs:U16 l) (j k c:Nat) (hk:k <= c) (hc:c <= maxLen):NatR w (some ⟨g,j,none⟩) c ((l.drop j).take k):=by
 refine ⟨by simp; omega,hc,fun i x hx=>⟨g,j,rfl,?_⟩⟩;rw [List.getElem?_take] at hx
 split at hx
 ·
  rw [List.getElem?_drop] at hx;exact ⟨by simpa using h.cell hx,u16_wf (hs x (List.mem_of_getElem? hx))⟩
 · cases hx
theorem RowN.readsV (h:RowN w g l r) {B:Nat} {V:World} (hB:B <= g) (hV:New B w V) (hs:U16 l) {c:Nat} (hc:l.length <= c) (hm:c <= maxLen):NatR V (some ⟨g,0,none⟩) c l :=
 ⟨hc,hm,fun k x hx=>⟨g,0,rfl,by simpa using hV _ _ (by simpa using hB) (h.cell hx),u16_wf (hs x (List.mem_of_getElem? hx))⟩⟩
theorem NatR.other {a:Option Addr} {c:Nat} (h:NatR w a c l) (hg:w.grownBy w' (some g)) (hne:∀ p,a = some p -> p.block ≠ g):NatR w' a c l:=by
 refine ⟨h.1,h.2.1,fun k x hx=>?_⟩;obtain ⟨b,off,rfl,hc,hw⟩:=h.2.2 k x hx;exact ⟨b,off,rfl,hg.cell hc (fun e=>hne _ rfl (by injection e)),hw⟩
end
theorem run_make_nat2 (k:IntKind) (n c:Nat) (hn:n <= c) (hc:c <= 16777216) (w:World) :
  (Instr.makeSlice 50 (.int k (n:Int)) (.int k (c:Int))).run Tryz.prog w = .ok (.slice (some ⟨w.heap.size,0,none⟩) n c) (w.alloc (.cells (madeCells #[.int .u16 0] c) 47)):=by
 obtain ⟨i,hi,hzz⟩:=Option.map_eq_some_iff.1 infoN;simp only [Prod.mk.injEq] at hzz;obtain ⟨hz,hs,hb⟩:=hzz;have hr:=run_make (P:=Tryz.prog) w 50 47 i (.int .u16 0) Tryz.underlying50 hi hz k k n c (by omega) (by omega) (by rw [hb]; omega) (by omega);simp only [Int.toNat_natCast,hs,Nat.mul_one] at hr;exact hr
theorem uint_bits {n y q z:Nat} (c:Nat) (hn:n < c) (hy:y <= 65535) (hc:c <= 281474976710656) (hz:n ||| y * c = q) (e:(z:Int) = (y:Int) * (c:Int)):bits .or .u64 (n:Int) (z:Int) = (q:Int):=by
 have h1:z = y * c:=by
  have:((z:Nat):Int) = ((y * c:Nat):Int):=by rw [e]; simp
  omega
 subst h1;have h2:y * c <= 65535 * 281474976710656:=Nat.mul_le_mul hy hc;rw [u64_or_nat _ _ (by omega) (by omega),hz]
theorem wrap16 (n:Nat):IntKind.u16.wrap (n:Int) = ((n % 65536:Nat):Int):=by simp [IntKind.wrap,IntKind.bits,IntKind.signed]
theorem wrap32u (n:Nat):IntKind.u32.wrap (n:Int) = ((n % 4294967296:Nat):Int):=by simp [IntKind.wrap,IntKind.bits,IntKind.signed]
theorem wrap64u (n:Nat):IntKind.u64.wrap (n:Int) = ((n % 18446744073709551616:Nat):Int):=by simp [IntKind.wrap,IntKind.bits,IntKind.signed]
theorem of_any (n:Nat) (w:World) (hn:n < 18446744073709551616) :
  Calls Tryz.prog 141 #[.int .u64 n] w (RetN (limbs n) w):=by
 go_enter Tryz.func141,Tryz.ntmps141;go_wp2
 go_loopw [0,3] (fun i s wr=>∃ (m:Nat) (l:List Int) (a:Option Addr) (c:Nat),m <= n /\ i = .int .u64 m /\ s = .slice a l.length c /\ OwnN w.heap.size wr a c l /\ U16 l /\ l.length <= 1000 /\ Below w.heap.size w wr /\ Hid (limbs n = l ++ limbs m)) (fun i _ _=>(intOf i).toNat)
 case atStart=>exact ⟨n,[],none,0,nlr _,rfl,rfl,Own.nil,U16.nil,by simp,Below.refl _ _,rfl⟩
 case round =>
  obtain ⟨m,l,a,c,hm,rfl,rfl,ho,hU,hlen,hb,hr⟩:=hrel;have HO:=Hd ho;clear ho;by_cases h0:m = 0
  ·
   subst h0;have HR:limbs n = l:=by have:=hr.out; rw [limbs_zero] at this; simpa using this
   replace HR:=Hd HR;go_wp2;go_ret;exact RetN.own HO.out hU hb HR.out rfl
  ·
   have hgt:decide ((0:Int) < (m:Int)) = true:=by simp; omega
   have hs:limbs m = ((m % 65536:Nat):Int) :: limbs (m / 65536):=limbs_pos h0;have hr2:limbs n = (l ++ [((m % 65536:Nat):Int)]) ++ limbs (m / 65536):=by rw [hr.out,hs]; simp
   have HR:=Hd hr2;clear hs hr2;have hlt:m < 18446744073709551616:=by omega
   have hm1:((m:Int) % 65536) = ((m % 65536:Nat):Int):=by omega
   have hm2:((m:Int) / 65536) = ((m / 65536:Nat):Int):=by omega
   have hw:=wrap16 m;have HM1:=Hd hm1;have HM2:=Hd hm2;clear hm1 hm2;go_wp2_with (at_builtin; go_must (refine append_nat rfl (.tmp 8) (.tmp 11) rfl a c rfl (HO.out.alloc _) ((m % 65536:Nat):Int) wr.heap.size 1 rfl (by simp <;> omega) (l ++ [((m % 65536:Nat):Int)]) rfl (by simp; omega) (by have:=hb.size; simp; omega) ?_); intro a2 c2 w2 ho2 hg2 hx2)
   go_roundw
   case rel =>
    have hb1:Below w.heap.size w w2:=below_append' (hb.alloc hb.size _) (HO.out.alloc _) hg2;have hl4:(l ++ [((m % 65536:Nat):Int)]).length <= 1000:=by
     have h4:(limbs n).length <= 4:=limbs_len_le (by simpa using hn);rw [HR.out] at h4;simp only [List.length_append] at h4 ⊢
     omega
    exact ⟨m / 65536,l ++ [((m % 65536:Nat):Int)],a2,c2,by omega,by rw [HM2.out],by simp,ho2,hU.app (U16.cons (by omega) U16.nil),hl4,hb1,HR.out⟩
   case measure=>rw [HM2.out]; simp [intOf]; omega
theorem uint_small (l:List Int) (n:Nat) (a:Option Addr) (c:Nat) (w:World) (h:NatR w a c l) (hn:val l = n) (hs:n < 18446744073709551616) :
  Calls Tryz.prog 140 #[.slice a l.length c] w fun e w'=>e = .returned (.tuple #[.int .u64 n,.bool true]) /\ w = w':=by
 have CT:=trim_any l a c w h;have hT:=h.trim;have hu:=limbs_u16 (val l);rw [hn] at CT hT hu;have hlen:(limbs n).length <= 4:=small_iff.2 hs;have hvT:=val_limbs n;revert CT hT hlen hu hvT;generalize limbs n = T;intro CT hT hu hlen hvT;replace CT:=Hd CT;have HT:=Hd hT;have HV:=Hd hvT;clear h hn hT hvT;go_enter Tryz.func140,Tryz.ntmps140;go_wp2_with fail;refine CT.out.mono ?_;rintro e w1 ⟨rfl,rfl⟩;go_wp2;obtain ⟨wo,rfl⟩:∃ wo:World,wo = w:=⟨_,rfl⟩
 go_loopg [4,5,6,14] T.length (fun g x _ _ i wr=>∃ k:Nat,k + g = T.length /\ i = .int .i64 k /\ wo = wr /\ x = .int .u64 (val (T.take k):Nat))
 case atStart=>exact ⟨0,by omega,rfl,rfl,by simp [val]⟩
 case round =>
  obtain ⟨k,hkg,rfl,rfl,rfl⟩:=hrel;have HKG:=Hd hkg;clear hkg;by_cases hlt:k < T.length
  ·
   obtain ⟨x,hx⟩:=get_of_lt hlt;obtain ⟨b,off,rfl,hc⟩:=HT.out.cell hx;obtain ⟨hx0,hx1⟩:=hu.get hx;obtain ⟨y,rfl⟩:∃ y:Nat,x = (y:Int):=⟨x.toNat,by omega⟩
   have hvt:=val_take hx;have hlt2:val (T.take k) < 65536 ^ k:=by
    have:=val_lt (hu.take k);have e:(T.take k).length = k:=by simp; omega
    rwa [e] at this
   rw [Int.toNat_natCast] at hvt;have hor:=uint_or (x:=y) hlt2;rw [<- hvt] at hor;have hkc:k = 0 \/ k = 1 \/ k = 2 \/ k = 3:=by omega
   have HOR:=Hd hor;revert hlt2;generalize val (T.take k) = p at *;intro hlt2;clear hvt hor hx;rcases hkc with rfl | rfl | rfl | rfl
   ·
    rw [Nat.add_zero] at hc;go_wp2;go_roundg (gk - 1)
    case rel=>exact ⟨1,by have:=HKG.out; omega,by go_num,rfl,val_int (uint_bits (z:=y) (y:=y) 1 (by simpa using hlt2) (by omega) (by omega) (by have h:=HOR.out; rw [Nat.pow_zero] at h; exact h) (by simp))⟩
    case measure=>have:=HKG.out; omega
   ·
    go_wp2;go_roundg (gk - 1)
    case rel=>exact ⟨2,by have:=HKG.out; omega,by go_num,rfl,val_int (uint_bits (z:=y * 65536) 65536 (by simpa using hlt2) (by omega) (by omega) HOR.out (by simp))⟩
    case measure=>have:=HKG.out; omega
   ·
    go_wp2;go_roundg (gk - 1)
    case rel=>exact ⟨3,by have:=HKG.out; omega,by go_num,rfl,val_int (uint_bits (z:=y * 4294967296) 4294967296 (by simpa using hlt2) (by omega) (by omega) HOR.out (by simp))⟩
    case measure=>have:=HKG.out; omega
   ·
    go_wp2;go_roundg (gk - 1)
    case rel=>exact ⟨4,by have:=HKG.out; omega,by go_num,rfl,val_int (uint_bits (z:=y * 281474976710656) 281474976710656 (by simpa using hlt2) (by omega) (by omega) HOR.out (by simp))⟩
    case measure=>have:=HKG.out; omega
  ·
   have hr:val (T.take k) = n:=by rw [take_all hlt]; exact HV.out
   have HR:=Hd hr;clear hr;go_wp2;go_ret2;refine ⟨?_,rfl⟩;rw [HR.out]
   rfl
theorem uint_big (l:List Int) (n:Nat) (a:Option Addr) (c:Nat) (w:World) (h:NatR w a c l) (hn:val l = n) (hs:¬ n < 18446744073709551616) :
  Calls Tryz.prog 140 #[.slice a l.length c] w fun e w'=>e = .returned (.tuple #[.int .u64 0,.bool false]) /\ w = w':=by
 have CT:=trim_any l a c w h;rw [hn] at CT;have hlen:¬ (limbs n).length <= 4:=fun e=>hs (small_iff.1 e)
 have hmx:=h.len;have hle:=limbs_len_val h.u16;rw [hn] at hle;revert CT hlen hle;generalize limbs n = T;intro CT hlen hle;replace CT:=Hd CT;clear h hn hs;go_enter Tryz.func140,Tryz.ntmps140;go_wp2_with fail;refine CT.out.mono ?_;rintro e w1 ⟨rfl,rfl⟩;go_wp2;go_ret2;exact ⟨rfl,rfl⟩
end Go.Proofs.YtkjnkpkagcboeaaGreatDoor
namespace Go.Proofs.YtkjnkpkagcboeaaGreatDoor
theorem pow_pos16 (k:Nat):1 <= 65536 ^ k:=Nat.one_le_pow _ _ (by omega)
theorem sub_step (l m o:List Int) (k bo bo2 d:Nat) (ho:o.length = k) (h:val (l.take k) + 65536 ^ k * bo = val (m.take k) + val o)
  (hd:d + (limbAt m k).toNat + bo = (limbAt l k).toNat + 65536 * bo2):val (l.take (k + 1)) + 65536 ^ (k + 1) * bo2 = val (m.take (k + 1)) + val (o ++ [(d:Int)]):=by
 rw [val_take_at,val_take_at,val_snoc,ho,Nat.pow_succ];have h1:=congrArg (65536 ^ k * ·) hd;simp only [Nat.mul_add] at h1;have e:((d:Int)).toNat = d:=by omega
 rw [e,Nat.mul_assoc]
 omega
theorem sub_end {l m o:List Int} {bo:Nat} (hl:U16 l) (hm:U16 m) (hou:U16 o) (ho:o.length = l.length) (h:val (l.take l.length) + 65536 ^ l.length * bo = val (m.take l.length) + val o) (hge:val m <= val l):val o = val l - val m:=by
 rw [val_take_all (nlr _)] at h;have h1:=val_lt hl;have h2:=val_lt hou;rw [ho] at h2;have h3:val (m.take l.length) = val m:=by
  obtain ⟨lo,hlo,e⟩:=val_split_at hm l.length;by_cases hc:l.length <= m.length
  ·
   have e2:=val_split m l.length;have e3:(m.take l.length).length = l.length:=by simp; omega
   rw [e3] at e2;have:val (m.drop l.length) = 0:=by
    apply Nat.eq_zero_of_not_pos;intro hp;have:=Nat.mul_le_mul_left (65536 ^ l.length) hp
    omega
   rw [this] at e2
   omega
  · rw [val_take_all (by omega)]
 rw [h3] at h;have hb:bo = 0:=by
  apply Nat.eq_zero_of_not_pos;intro hp;have:=Nat.mul_le_mul_left (65536 ^ l.length) hp
  omega
 subst hb
 omega
theorem add_step (l m o:List Int) (k c c2 d:Nat) (ho:o.length = k) (h:val o + 65536 ^ k * c = val (l.take k) + val (m.take k))
  (hd:d + 65536 * c2 = (limbAt l k).toNat + (limbAt m k).toNat + c):val (o ++ [(d:Int)]) + 65536 ^ (k + 1) * c2 = val (l.take (k + 1)) + val (m.take (k + 1)):=by
 rw [val_take_at,val_take_at,val_snoc,ho,Nat.pow_succ];have h1:=congrArg (65536 ^ k * ·) hd;simp only [Nat.mul_add] at h1;have e:((d:Int)).toNat = d:=by omega
 rw [e,Nat.mul_assoc]
 omega
theorem val_set {o:List Int} {j:Nat} {z:Int} (hz:o[j]? = some z) (d:Int):val (o.set j d) + 65536 ^ j * z.toNat = val o + 65536 ^ j * d.toNat:=by
 have hj:=lt_of_get hz;have e1:=val_split (o.set j d) j;have e2:=val_split o j;have l1:((o.set j d).take j).length = j:=by simp; omega
 have l2:(o.take j).length = j:=by simp; omega
 have t:(o.set j d).take j = o.take j:=by rw [List.take_set_of_le (nlr _)]
 have g:(o.set j d)[j]? = some d:=by simp [hj]
 rw [l1,t,val_drop g,List.drop_set_of_lt (by omega)] at e1;rw [l2,val_drop hz] at e2;rw [e1,e2,Nat.mul_add,Nat.mul_add]
 omega
theorem mul_step (l m o:List Int) (i k c c2 d:Nat) (z x y:Int) (hz:o[i + k]? = some z) (hy:limbAt m k = y)
  (h:val o + 65536 ^ (i + k) * c = val (l.take i) * val m + 65536 ^ i * (x.toNat * val (m.take k)))
  (hd:d + 65536 * c2 = z.toNat + x.toNat * y.toNat + c) :
  val (o.set (i + k) (d:Int)) + 65536 ^ (i + (k + 1)) * c2 = val (l.take i) * val m + 65536 ^ i * (x.toNat * val (m.take (k + 1))):=by
 have h1:=val_set hz (d:Int);have e:((d:Int)).toNat = d:=by omega
 rw [e] at h1;have h2:=congrArg (65536 ^ (i + k) * ·) hd;simp only [Nat.mul_add] at h2;rw [val_take_at,hy,<- Nat.add_assoc,Nat.pow_succ];have e3:65536 ^ i * (x.toNat * (val (m.take k) + 65536 ^ k * y.toNat)) = 65536 ^ i * (x.toNat * val (m.take k)) + 65536 ^ (i + k) * (x.toNat * y.toNat):=by
  rw [Nat.mul_add,Nat.mul_add,Nat.pow_add,Nat.mul_assoc (65536 ^ i) (65536 ^ k)];congr 2;rw [<- Nat.mul_assoc,Nat.mul_comm x.toNat,Nat.mul_assoc]
 rw [e3,Nat.mul_assoc (65536 ^ (i + k)) 65536 c2]
 omega
theorem mul_end (l m:List Int) (i:Nat) (x:Int) (hx:l[i]? = some x):val (l.take i) * val m + 65536 ^ i * (x.toNat * val m) = val (l.take (i + 1)) * val m:=by
 rw [val_take hx,Nat.add_mul,Nat.mul_assoc]
theorem mul_far {l m o:List Int} {i k c:Nat} {x:Int} (hl:U16 l) (hm:U16 m) (hx:l[i]? = some x) (hk:m.length <= k) (hc:0 < c)
  (h:val o + 65536 ^ (i + k) * c = val (l.take i) * val m + 65536 ^ i * (x.toNat * val (m.take k))):k <= m.length:=by
 rw [val_take_all hk,mul_end l m i x hx] at h;have h1:=val_lt (hl.take (i + 1));have e1:(l.take (i + 1)).length = i + 1:=by have:=lt_of_get hx; simp; omega
 rw [e1] at h1;have h2:=val_lt hm;have h3:val (l.take (i + 1)) * val m < 65536 ^ (i + 1) * 65536 ^ m.length:=Nat.mul_lt_mul'' h1 h2;rw [<- Nat.pow_add] at h3;have h4:=Nat.mul_le_mul_left (65536 ^ (i + k)) hc;have h5:65536 ^ (i + k) < 65536 ^ (i + 1 + m.length):=by omega
 have h6:=(Nat.pow_lt_pow_iff_right (by omega:1 < 65536)).1 h5
 omega
theorem carry_lt {z x y c d c2:Nat} (hz:z <= 65535) (hx:x <= 65535) (hy:y <= 65535) (hc:c <= 65535) (hd:d + 65536 * c2 = z + x * y + c):c2 <= 65535:=by
 have:=Nat.mul_le_mul hx hy
 omega
theorem val_replicate (n:Nat):val (List.replicate n 0) = 0:=by
 induction n with
 | zero=>rfl
 | succ n ih=>rw [List.replicate_succ,val,ih]; rfl
theorem u16_replicate (n:Nat):U16 (List.replicate n 0):=fun x hx=>by have:=List.eq_of_mem_replicate hx; omega
theorem div_step (l q:List Int) (k b r d r2:Nat) (x:Int) (hx:l[k]? = some x) (h:val (l.drop (k + 1)) = val q * b + r) (hd:x.toNat + 65536 * r = d * b + r2) :
  val (l.drop k) = val ((d:Int) :: q) * b + r2:=by
 rw [val_drop hx,h,val];have e:((d:Int)).toNat = d:=by omega
 rw [e,Nat.add_mul,Nat.mul_add,<- Nat.mul_assoc]
 omega
theorem div_digit {x b r:Nat} (hx:x <= 65535) (hr:r < b):(x + 65536 * r) / b <= 65535:=by
 have:(x + 65536 * r) / b < 65536:=by
  apply (Nat.div_lt_iff_lt_mul (by omega)).2
  omega
 omega
end Go.Proofs.YtkjnkpkagcboeaaGreatDoor
namespace Go.Proofs.YtkjnkpkagcboeaaGreatDoor
open Go.RowKit
theorem cmp_any (l m:List Int) (n1 n2:Nat) (a a':Option Addr) (c c':Nat) (w:World) (h:NatR w a c l) (h':NatR w a' c' m) (hn:val l = n1) (hk:val m = n2) :
  Calls Tryz.prog 183 #[.slice a l.length c,.slice a' m.length c'] w fun e w'=>e = .returned (.int .i64 (cmpN n1 n2)) /\ Below w.heap.size w w':=by
 have C1:=trim_any l a c w h;have C2:=trim_any m a' c' w h';have hT:=h.trim;have hT':=h'.trim;rw [hn] at C1 hT;rw [hk] at C2 hT';have hu1:=limbs_u16 n1;have hu2:=limbs_u16 n2;have hv1:=val_limbs n1;have hv2:=val_limbs n2;have hm1:=fun (e:n1 <= n2)=>limbs_len_mono e
 have hm2:=fun (e:n2 <= n1)=>limbs_len_mono e
 have hlen1:=hT.len;have hlen2:=hT'.len;revert C1 C2 hT hT' hu1 hu2 hv1 hv2 hm1 hm2 hlen1 hlen2;generalize limbs n1 = T;generalize limbs n2 = U;intro C1 C2 hT hT' hu1 hu2 hv1 hv2 hm1 hm2 hlen1 hlen2;replace C1:=Hd C1;replace C2:=Hd C2;have HT:=Hd hT;have HU:=Hd hT';have HV1:=Hd hv1;have HV2:=Hd hv2;obtain ⟨R,hR⟩:∃ q,cmpN n1 n2 = q:=⟨_,rfl⟩
 rw [hR];have HR:=Hd hR;clear h h' hn hk hT hT' hv1 hv2 hR;by_cases hlt:T.length < U.length
 ·
  have hr:R = -1:=by
   rw [<- HR.out];unfold cmpN;rw [if_pos (by apply Nat.lt_of_not_le; intro e; have:=hm2 e; omega)]
  subst hr;clear hm1 hm2;have hne:((T.length:Int) != (U.length:Int)) = true:=by simp; omega
  go_enter Tryz.func183,Tryz.ntmps183;go_wp2_with fail;refine C1.out.mono ?_;rintro e w1 ⟨rfl,rfl⟩;go_wp2_with fail;refine C2.out.mono ?_;rintro e w1 ⟨rfl,rfl⟩;go_wp2;go_ret;exact ⟨rfl,Below.refl _ _⟩
 ·
  by_cases hgt:U.length < T.length
  ·
   have hr:R = 1:=by
    have h1:n2 < n1:=by apply Nat.lt_of_not_le; intro e; have:=hm1 e; omega
    rw [<- HR.out];unfold cmpN;rw [if_neg (by omega),if_pos h1]
   subst hr;clear hm1 hm2;have hne:((T.length:Int) != (U.length:Int)) = true:=by simp; omega
   go_enter Tryz.func183,Tryz.ntmps183;go_wp2_with fail;refine C1.out.mono ?_;rintro e w1 ⟨rfl,rfl⟩;go_wp2_with fail;refine C2.out.mono ?_;rintro e w1 ⟨rfl,rfl⟩;go_wp2;go_ret;exact ⟨rfl,Below.refl _ _⟩
  ·
   have he:T.length = U.length:=by omega
   have hne:((T.length:Int) != (U.length:Int)) = false:=by simp; omega
   have HE:=Hd he;clear hm1 hm2 hlt hgt he;go_enter Tryz.func183,Tryz.ntmps183;go_wp2_with fail;refine C1.out.mono ?_;rintro e w1 ⟨rfl,rfl⟩;go_wp2_with fail;refine C2.out.mono ?_;rintro e w1 ⟨rfl,rfl⟩;go_wp2;clear hne;obtain ⟨wo,rfl⟩:∃ wo:World,wo = w:=⟨_,rfl⟩
   go_loopg [5] T.length (fun g i wr=>g <= T.length /\ i = .int .i64 ((g:Int) - 1) /\ Below wo.heap.size wo wr /\ Hid (val (T.drop g) = val (U.drop g)))
   case atStart=>exact ⟨nlr _,rfl,Below.refl _ _,by show _ = _; rw [val_drop_all (nlr _),val_drop_all (by have:=HE.out; omega)]⟩
   case round =>
    obtain ⟨hg,rfl,hwr,hv⟩:=hrel;by_cases h0:gk = 0
    ·
     subst h0;have hr:R = 0:=by
      have h1:=hv.out;rw [List.drop_zero,List.drop_zero,HV1.out,HV2.out] at h1;rw [<- HR.out];exact cmpN_zero.2 h1
     subst hr;go_wp2;go_ret;exact ⟨rfl,hwr⟩
    ·
     obtain ⟨k,rfl⟩:∃ k,gk = k + 1:=⟨gk - 1,by omega⟩
     obtain ⟨x,hx⟩:=get_of_lt (xs:=T) (k:=k) (by omega);obtain ⟨y,hy⟩:=get_of_lt (xs:=U) (k:=k) (by have:=HE.out; omega);obtain ⟨b,off,rfl,hc⟩:=(HT.out.ext (xbw hwr)).cell hx;obtain ⟨b2,off2,rfl,hc2⟩:=(HU.out.ext (xbw hwr)).cell hy;have hkl:k < T.length:=by omega
     have hkl2:k < U.length:=by have:=HE.out; omega
     have e1:(((k + 1:Nat):Int) - 1) = (k:Int):=by omega
     rw [e1];have HX:=Hd hx;have HY:=Hd hy;have hx2:=limbAt_some hx;have hy2:=limbAt_some hy;have HX2:=Hd hx2;have HY2:=Hd hy2;clear hx hy hx2 hy2 e1;by_cases hlt:x < y
     ·
      have hr:R = -1:=by
       have h1:=val_lt_of hu1 hu2 k hv.out (by rw [HX2.out,HY2.out]; exact hlt);rw [HV1.out,HV2.out] at h1;rw [<- HR.out];unfold cmpN;rw [if_pos h1]
      subst hr;have hd:=decide_eq_true hlt;go_wp2
      go_region
      go_wp2;go_ret;exact ⟨rfl,by go_grown⟩
     ·
      by_cases hgt:y < x
      ·
       have hr:R = 1:=by
        have h1:=val_lt_of hu2 hu1 k hv.out.symm (by rw [HX2.out,HY2.out]; exact hgt);rw [HV1.out,HV2.out] at h1;rw [<- HR.out];unfold cmpN;rw [if_neg (by omega),if_pos h1]
       subst hr;go_wp2
       go_region
       go_wp2
       go_region
       go_wp2;go_ret;exact ⟨rfl,by go_grown⟩
      ·
       have hxy:x = y:=by omega
       have hv2:val (T.drop k) = val (U.drop k):=by
        rw [val_drop HX.out,val_drop HY.out,hv.out,hxy]
       have HV:=Hd hv2;clear hxy hv2;go_wp2
       go_region
       go_wp2
       go_region
       go_wp2;go_roundg k
       case rel=>exact ⟨by omega,rfl,by go_grown,HV.out⟩
       case measure=>omega
theorem byLimb_or {r x:Nat} (hx:x < 65536):r * 65536 ||| x = r * 65536 + x:=by
 have:(65536:Nat) = 2 ^ 16:=rfl;rw [Nat.mul_comm,this] at *;rw [<- Nat.two_pow_add_eq_or_of_lt hx]
theorem byLimb_any (l:List Int) (n d:Nat) (a:Option Addr) (c:Nat) (w:World) (h:NatR w a c l) (hn:val l = n) (hl:l.length <= 16777216) (hd:0 < d) (hd2:d <= 65535) :
  Calls Tryz.prog 150 #[.slice a l.length c,.int .u16 d] w fun e w'=>∃ a1 c1,e = .returned (.tuple #[.slice a1 (limbs (n / d)).length c1,.int .u16 ((n % d:Nat):Int)]) /\
   (∀ V,New w.heap.size w' V -> NatR V a1 c1 (limbs (n / d))) /\ Below w.heap.size w w':=by
 have H:=Hd h;have HN:=Hd hn;have hmk:=run_make_nat .i64 l.length hl w;have hu:=h.u16;clear h hn;go_enter Tryz.func150,Tryz.ntmps150;go_wp2;clear hmk;have hz:=BlkN.new w l.length;have hb0:Below w.heap.size w (w.alloc (.cells (madeCells #[.int .u16 0] l.length) 47)):=brf.alloc (nlr _) _;revert hz hb0;generalize w.alloc (.cells (madeCells #[.int .u16 0] l.length) 47) = w0;intro hz hb0
 go_loopg [7,8] l.length (fun g r i wr=>∃ (rv:Nat) (Q:List Int),g <= l.length /\ i = .int .i64 ((g:Int) - 1) /\ r = .int .u32 rv /\ rv < d /\ BlkN wr w.heap.size Q /\ Hid (Q.length = l.length) /\ U16 Q /\ Below w.heap.size w wr /\ Hid (val (l.drop g) = val (Q.drop g) * d + rv))
 case atStart=>exact ⟨0,List.replicate l.length 0,nlr _,rfl,rfl,hd,hz,by show _ = _; simp,u16_replicate _,hb0,by show _ = _; rw [val_drop_all (nlr _),val_drop_all (by simp)]; simp⟩
 case round =>
  clear hz hb0;obtain ⟨rv,Q,hg,rfl,rfl,hrv,hQ,hQl,hQu,hwr,hv⟩:=hrel;have HQ:=Hd hQ;by_cases h0:gk = 0
  ·
   subst h0;have hfin:val Q = n / d /\ rv = n % d:=by
    have:=hv.out;rw [List.drop_zero,List.drop_zero,HN.out] at this;have h1:n / d = val Q:=by rw [this,Nat.mul_comm,Nat.mul_add_div (by omega),Nat.div_eq_of_lt hrv,Nat.add_zero]
    have h2:n % d = rv:=by rw [this,Nat.mul_comm,Nat.mul_add_mod,Nat.mod_eq_of_lt hrv]
    exact ⟨h1.symm,h2.symm⟩
   have hcap:Q.length <= maxLen:=by rw [hQl.out]; unfold maxLen; omega
   have hread:NatR wr (some ⟨w.heap.size,0,none⟩) Q.length Q:=hQ.readsV (nlr _) (New.refl _ _) hQu (nlr _) hcap;have hread2:∀ V,New w.heap.size wr V -> NatR V (some ⟨w.heap.size,0,none⟩) Q.length (limbs (n / d)):=fun V hV=>by
    rw [<- hfin.1];exact (hQ.readsV (nlr _) hV hQu (nlr _) hcap).trim
   have CT:=trim_any Q _ _ wr hread;rw [hfin.1,hQl.out] at CT;rw [hQl.out] at hread2;replace CT:=Hd CT;have HRD:=Hd hread2;have HRV:=Hd hfin.2;clear hread hread2 hfin hQ;go_wp2_with fail;refine CT.out.mono ?_;rintro e w1 ⟨rfl,rfl⟩;go_wp2;go_ret2;exact ⟨_,_,by rw [HRV.out]; rfl,HRD.out,hwr⟩
  ·
   obtain ⟨k,rfl⟩:∃ k,gk = k + 1:=⟨gk - 1,by omega⟩
   obtain ⟨x,hx⟩:=get_of_lt (xs:=l) (k:=k) (by omega);obtain ⟨b,off,rfl,hc⟩:=(H.out.ext (xbw hwr)).cell hx;obtain ⟨hx0,hx1⟩:=hu.get hx;obtain ⟨y,rfl⟩:∃ y:Nat,x = (y:Int):=⟨x.toNat,by omega⟩
   have hkl:k < l.length:=by omega
   have hkq:k < Q.length:=by rw [hQl.out]; omega
   obtain ⟨N,hN⟩:∃ N,N = y + 65536 * rv:=⟨_,rfl⟩
   have hor:bits .or .u32 ((rv:Int) * 65536) (y:Int) = (N:Int):=by
    have h1:=byLimb_or (r:=rv) (x:=y) (by omega);have h2:=u32_or_nat (rv * 65536) y (by omega) (by omega);rw [h1] at h2;simp only [Int.natCast_mul] at h2;rw [hN,show y + 65536 * rv = rv * 65536 + y by omega];exact h2
   have hN2:N < 4294967296:=by omega
   have hqd:N / d <= 65535:=by rw [hN]; exact div_digit (by omega) hrv
   have hrm:N % d < d:=Nat.mod_lt _ hd;have hqm:N = N / d * d + N % d:=by rw [Nat.mul_comm]; exact (Nat.div_add_mod N d).symm
   have hdiv:(N:Int).tdiv (d:Int) = ((N / d:Nat):Int):=rfl;have hmod:(N:Int).tmod (d:Int) = ((N % d:Nat):Int):=rfl;have hvd:=div_step l (Q.drop (k + 1)) k d rv (N / d) (N % d) (y:Int) hx hv.out (by rw [Int.toNat_natCast,<- hN]; exact hqm);have hdrop:∀ z:Int,(Q.set k z).drop k = z :: Q.drop (k + 1):=fun z=>by
    rw [List.drop_eq_getElem_cons (by simpa using hkq),List.getElem_set_self,List.drop_set_of_lt (by omega)]
   rw [<- hdrop] at hvd;have hcell:∃ u,wr.cell? ⟨w.heap.size,k,none⟩ = some u:=by
    obtain ⟨z,hz⟩:=get_of_lt hkq;exact ⟨_,HQ.out.cell hz⟩
   obtain ⟨u,hcell⟩:=hcell;have hfr:=HQ.out.frozen k;have hw16:IntKind.u16.wrap ((N / d:Nat):Int) = ((N / d:Nat):Int):=by
    rw [wrap16];congr 1;exact Nat.mod_eq_of_lt (by omega)
   have hd0:((d:Int) == 0) = false:=by simp; omega
   have hd1:(d:Int) ≠ 0:=by omega
   have e1:(((k + 1:Nat):Int) - 1) = (k:Int):=by omega
   rw [e1];have HVD:=Hd hvd;revert hqd hrm hdiv hmod hw16 HVD;generalize N / d = dq;generalize N % d = dr;intro hqd hrm hdiv hmod hw16 HVD;clear hx hN hqm hvd hdrop hQ hv;go_wp2;go_roundg k
   case rel=>exact ⟨dr,Q.set k (dq:Int),by omega,rfl,rfl,hrm,HQ.out.set_ k _,by show _ = _; rw [List.length_set]; exact hQl.out,hQu.set_ ⟨by omega,by omega⟩,hwr.setCell (nlr _) _,HVD.out⟩
   case measure=>omega
end Go.Proofs.YtkjnkpkagcboeaaGreatDoor
namespace Go.Proofs.YtkjnkpkagcboeaaGreatDoor
theorem guess_ge {U V B u2 v2 q d:Nat} (hB:0 < B) (hu:U < (u2 + 1) * B) (hv:v2 * B <= V) (hq:q * V <= U) (hq2:q <= 65535) (hd:d = 65535 \/ u2 < (d + 1) * v2):q <= d:=by
 rcases hd with rfl | hd
 · exact hq2
 ·
  have h1:q * (v2 * B) <= q * V:=Nat.mul_le_mul_left _ hv;have h2:q * v2 * B < (u2 + 1) * B:=by rw [Nat.mul_assoc]; omega
  have h3:q * v2 < u2 + 1:=Nat.lt_of_mul_lt_mul_right h2;by_cases hle:q <= d
  · exact hle
  ·
   have h4:(d + 1) * v2 <= q * v2:=Nat.mul_le_mul_right _ (by omega)
   omega
theorem guess_le {U V B u2 v2 q d:Nat} (hB:0 < B) (hu:u2 * B <= U) (hv:V < (v2 + 1) * B) (hq:U < (q + 1) * V) (hd:d * v2 <= u2) (hd2:d <= 65535) (hv2:65536 <= v2):d <= q + 1:=by
 by_cases hle:d <= q + 1
 · exact hle
 ·
  exfalso;have h1:(q + 1) * V <= (d - 1) * V:=Nat.mul_le_mul_right _ (by omega);have h2:(d - 1) * V <= (d - 1) * ((v2 + 1) * B):=Nat.mul_le_mul_left _ (by omega);have h3:u2 * B < (d - 1) * (v2 + 1) * B:=by rw [Nat.mul_assoc]; omega
  have h4:u2 < (d - 1) * (v2 + 1):=Nat.lt_of_mul_lt_mul_right h3;obtain ⟨e,rfl⟩:∃ e,d = e + 1:=⟨d - 1,by omega⟩
  have h5:e + 1 - 1 = e:=by omega
  rw [h5,Nat.mul_add,Nat.mul_one] at h4;rw [Nat.add_mul,Nat.one_mul] at hd
  omega
end Go.Proofs.YtkjnkpkagcboeaaGreatDoor
namespace Go.Proofs.YtkjnkpkagcboeaaGreatDoor
theorem mulsub_step (u v o:List Int) (k q c b c2 b2 x p lo:Nat) (hol:o.length = k) (h:val (u.take k) + 65536 ^ k * (c + b) = q * val (v.take k) + val o)
  (hp:p = c + q * (limbAt v k).toNat) (hlo:p = lo + 65536 * c2) (hx:x + lo + b = (limbAt u k).toNat + 65536 * b2) :
  val (u.take (k + 1)) + 65536 ^ (k + 1) * (c2 + b2) = q * val (v.take (k + 1)) + val (o ++ [(x:Int)]):=by
 rw [val_take_at,val_take_at,val_snoc,hol,Nat.pow_succ];have e:((x:Int)).toNat = x:=by omega
 rw [e];have h1:x + p + b = (limbAt u k).toNat + 65536 * (c2 + b2):=by omega
 have h2:=congrArg (65536 ^ k * ·) h1;simp only [Nat.mul_add] at h2;rw [hp,Nat.mul_add] at h2;have e3:q * (val (v.take k) + 65536 ^ k * (limbAt v k).toNat) = q * val (v.take k) + 65536 ^ k * (q * (limbAt v k).toNat):=by
  rw [Nat.mul_add,<- Nat.mul_assoc q,Nat.mul_comm q (65536 ^ k),Nat.mul_assoc]
 rw [e3,Nat.mul_assoc,Nat.mul_add,Nat.mul_add];rw [Nat.mul_add] at h
 omega
theorem mulsub_end {u v o:List Int} {n q c b:Nat} (ho:U16 o) (hul:u.length = n + 1) (hvl:v.length = n) (hol:o.length = n + 1) (hb:b <= 1)
  (h:val (u.take (n + 1)) + 65536 ^ (n + 1) * (c + b) = q * val (v.take (n + 1)) + val o) (hc:c = 0) :
  val u + 65536 ^ (n + 1) * b = q * val v + val o /\ (b = 1 ↔ val u < q * val v):=by
 rw [val_take_all (by omega),val_take_all (by omega),hc,Nat.zero_add] at h;refine ⟨h,?_⟩;have h1:=val_lt ho;rw [hol] at h1
 constructor
 ·
  intro hb1;subst hb1
  omega
 ·
  intro hlt;have:b = 0 \/ b = 1:=by omega
  rcases this with rfl | rfl
  · omega
  · rfl
theorem addback_end {u v o:List Int} {n c:Nat} (hul:u.length = n + 1) (hvl:v.length = n)
  (h:val o + 65536 ^ (n + 1) * c = val (u.take (n + 1)) + val (v.take (n + 1))):val o + 65536 ^ (n + 1) * c = val u + val v:=by
 rw [val_take_all (by omega),val_take_all (by omega)] at h;exact h
theorem guess_first {u2 u1 v1:Nat} (hv:32768 <= v1) (hv2:v1 <= 65535) (hu1:u1 <= 65535) (hu:u2 <= v1):(65536 * u2 + u1) / v1 <= 65537:=by
 have h1:65536 * u2 + u1 < 65538 * v1:=by
  have:=Nat.mul_le_mul_left 65536 hu
  omega
 have:=(Nat.div_lt_iff_lt_mul (by omega:0 < v1)).2 h1
 omega
theorem div_sum (x v:Nat):x = x / v * v + x % v:=by
 have:=Nat.div_add_mod x v;rw [Nat.mul_comm] at this;exact this.symm
theorem div_more (x:Nat) {v:Nat} (hv:0 < v):x < (x / v + 1) * v:=by
 have h1:=div_sum x v;have h2:=Nat.mod_lt x hv;rw [Nat.add_mul,Nat.one_mul]
 omega
structure Guess (u2 u1 u0 v1 v2 d r : Nat) : Prop where
 sum:65536 * u2 + u1 = d * v1 + r
 top:d <= 65537
 low:65535 <= d \/ 65536 * (65536 * u2 + u1) + u0 < (d + 1) * (65536 * v1 + v2)
theorem Guess.start {u2 u1 u0 v1 v2:Nat} (hv:32768 <= v1) (hv2:v1 <= 65535) (hu1:u1 <= 65535) (hu0:u0 <= 65535) (hu:u2 <= v1):Guess u2 u1 u0 v1 v2 ((65536 * u2 + u1) / v1) ((65536 * u2 + u1) % v1):=by
 refine ⟨div_sum _ _,guess_first hv hv2 hu1 hu,.inr ?_⟩;have h1:=div_more (65536 * u2 + u1) (v:=v1) (by omega);generalize (65536 * u2 + u1) / v1 + 1 = e at h1;rw [Nat.mul_add e];have h4:e * (65536 * v1) = 65536 * (e * v1):=by rw [<- Nat.mul_assoc,Nat.mul_comm e,Nat.mul_assoc]
 rw [h4];have h5:0 <= e * v2:=Nat.zero_le _
 omega
theorem Guess.less {u2 u1 u0 v1 v2 d r:Nat} (h:Guess u2 u1 u0 v1 v2 d r) (hd:65536 <= d \/ 65536 * r + u0 < d * v2) (hd0:0 < d):Guess u2 u1 u0 v1 v2 (d - 1) (r + v1):=by
 obtain ⟨e,rfl⟩:∃ e,d = e + 1:=⟨d - 1,by omega⟩
 have hs:=h.sum;have ht:=h.top;rw [Nat.add_mul,Nat.one_mul] at hs;have hs2:65536 * u2 + u1 = e * v1 + (r + v1):=by omega
 refine ⟨by simpa using hs2,by omega,?_⟩;rcases hd with hd | hd
 · exact .inl (by omega)
 ·
  right;rw [Nat.add_sub_cancel];rw [Nat.mul_add (e + 1),hs2];have h4:(e + 1) * (65536 * v1) = 65536 * (e * v1 + v1):=by rw [Nat.add_mul,Nat.one_mul,Nat.mul_add,<- Nat.mul_assoc,Nat.mul_comm e,Nat.mul_assoc]
  rw [h4]
  omega
theorem Guess.done {u2 u1 u0 v1 v2 d r:Nat} (h:Guess u2 u1 u0 v1 v2 d r) (hv2:v2 <= 65535) (hu1:u1 <= 65535) (hu:u2 <= v1) (he:65536 <= r \/ (d <= 65535 /\ d * v2 <= 65536 * r + u0)) :
  d <= 65535 /\ d * (65536 * v1 + v2) <= 65536 * (65536 * u2 + u1) + u0 /\ (d = 65535 \/ 65536 * (65536 * u2 + u1) + u0 < (d + 1) * (65536 * v1 + v2)):=by
 have hs:=h.sum;have hd:d <= 65535:=by
  rcases he with he | he
  ·
   apply Nat.le_of_not_lt;intro hc;have h1:65536 * v1 <= d * v1:=Nat.mul_le_mul_right _ hc;have h2:=Nat.mul_le_mul_left 65536 hu
   omega
  · exact he.1
 refine ⟨hd,?_,?_⟩
 ·
  rw [hs,Nat.mul_add];have h4:d * (65536 * v1) = 65536 * (d * v1):=by rw [<- Nat.mul_assoc,Nat.mul_comm d,Nat.mul_assoc]
  rw [h4];rcases he with he | he
  ·
   have h5:d * v2 <= 65535 * 65535:=Nat.mul_le_mul hd hv2
   omega
  · omega
 ·
  rcases h.low with hl | hl
  · exact .inl (by omega)
  · exact .inr hl
theorem digit_of {U V B u0 u1 u2 v1 v2 d:Nat} (hB:0 < B) (hU1:(65536 * (65536 * u2 + u1) + u0) * B <= U) (hU2:U < (65536 * (65536 * u2 + u1) + u0 + 1) * B) (hV1:(65536 * v1 + v2) * B <= V) (hV2:V < (65536 * v1 + v2 + 1) * B)
  (hv:32768 <= v1) (hlt:U < 65536 * V) (hd:d <= 65535) (hg:d * (65536 * v1 + v2) <= 65536 * (65536 * u2 + u1) + u0) (hl:d = 65535 \/ 65536 * (65536 * u2 + u1) + u0 < (d + 1) * (65536 * v1 + v2)) :
  (d = U / V \/ d = U / V + 1) /\ (U < d * V ↔ d = U / V + 1):=by
 have hV:0 < V:=by
  have:0 < (65536 * v1 + v2) * B:=Nat.mul_pos (by omega) hB
  omega
 have hq1:U / V * V <= U:=Nat.div_mul_le_self _ _;have hq2:U < (U / V + 1) * V:=div_more U hV;have hq:U / V <= 65535:=by
  have:=(Nat.div_lt_iff_lt_mul hV).2 hlt
  omega
 have h1:=guess_ge hB hU2 hV1 hq1 hq hl;have h2:=guess_le hB hU1 hV2 hq2 hg hd (by omega);have h3:d = U / V \/ d = U / V + 1:=by omega
 refine ⟨h3,?_⟩
 constructor
 ·
  intro hlt2;rcases h3 with h3 | h3
  · rw [h3] at hlt2; omega
  · exact h3
 ·
  intro e;rw [e];exact hq2
end Go.Proofs.YtkjnkpkagcboeaaGreatDoor
namespace Go.Proofs.YtkjnkpkagcboeaaGreatDoor
theorem top2 {v:List Int} {n:Nat} (hv:U16 v) (hl:v.length = n + 2):∃ lo,lo < 65536 ^ n /\ val v = lo + 65536 ^ n * (65536 * (limbAt v (n + 1)).toNat + (limbAt v n).toNat):=by
 obtain ⟨lo,hlo,e⟩:=val_split_at hv n;refine ⟨lo,hlo,?_⟩;rw [e,val_drop_at v n,val_drop_at v (n + 1),val_drop_all (l:=v) (k:=n + 1 + 1) (by omega)];rw [Nat.mul_zero,Nat.add_zero,Nat.add_comm (limbAt v n).toNat]
theorem top3 {u:List Int} {n:Nat} (hu:U16 u) (hl:u.length = n + 3):∃ lo,lo < 65536 ^ n /\ val u = lo + 65536 ^ n * (65536 * (65536 * (limbAt u (n + 2)).toNat + (limbAt u (n + 1)).toNat) + (limbAt u n).toNat):=by
 obtain ⟨lo,hlo,e⟩:=val_split_at hu n;refine ⟨lo,hlo,?_⟩;rw [e,val_drop_at u n,val_drop_at u (n + 1),val_drop_at u (n + 1 + 1),val_drop_all (l:=u) (k:=n + 1 + 1 + 1) (by omega)];rw [Nat.mul_zero,Nat.add_comm (limbAt u (n + 1)).toNat,Nat.add_comm (limbAt u n).toNat]
 rfl
theorem split_le {lo B x y:Nat} (hlo:lo < B) (e:y = lo + B * x):x * B <= y /\ y < (x + 1) * B:=by
 rw [e,Nat.add_mul,Nat.one_mul,Nat.mul_comm B]
 constructor <;> omega
theorem seg_val {u v:List Int} {n j:Nat} (hv:U16 v) (hvl:v.length = n) (hjl:j + n < u.length) (hlt:val (u.drop (j + 1)) < val v) :
  val (u.drop j) = val ((u.drop j).take (n + 1)) /\ val ((u.drop j).drop (n + 1)) = 0 /\ ((u.drop j).take (n + 1)).length = n + 1:=by
 have h1:=val_lt hv;rw [hvl] at h1;have e1:=val_split (u.drop (j + 1)) n;have l1:((u.drop (j + 1)).take n).length = n:=by simp; omega
 rw [l1,List.drop_drop] at e1;have h0:val (u.drop (j + 1 + n)) = 0:=by
  apply Nat.eq_zero_of_not_pos;intro hp;have:=Nat.mul_le_mul_left (65536 ^ n) hp
  omega
 have l2:((u.drop j).take (n + 1)).length = n + 1:=by simp; omega
 have e2:=val_split (u.drop j) (n + 1);rw [l2,List.drop_drop,show j + (n + 1) = j + 1 + n by omega,h0] at e2;refine ⟨by omega,?_,l2⟩;rw [List.drop_drop,show j + (n + 1) = j + 1 + n by omega];exact h0
theorem limbAt_drop (u:List Int) (j k:Nat):limbAt (u.drop j) k = limbAt u (j + k):=by
 unfold limbAt;rw [List.getElem?_drop]
theorem limbAt_take {u:List Int} {m k:Nat} (h:k < m):limbAt (u.take m) k = limbAt u k:=by
 unfold limbAt;rw [List.getElem?_take_of_lt h]
theorem top_le {u v:List Int} {n j:Nat} (hu:U16 u) (hv:U16 v) (hvl:v.length = n + 2) (hjl:j + (n + 2) < u.length) (hlt:val (u.drop (j + 1)) < val v):limbAt u (j + (n + 2)) <= limbAt v (n + 1):=by
 obtain ⟨hs,_,hl⟩:=seg_val hv hvl hjl hlt;obtain ⟨lo,hlo,e⟩:=top2 hv hvl;have e1:=val_split (u.drop (j + 1)) (n + 1);have l1:((u.drop (j + 1)).take (n + 1)).length = n + 1:=by simp; omega
 rw [l1,List.drop_drop,show j + 1 + (n + 1) = j + (n + 2) by omega,val_drop_at u (j + (n + 2))] at e1;have h1:=limbAt_in hu (j + (n + 2));have h2:=limbAt_in hv (n + 1);have h3:=limbAt_in hv n;by_cases hc:limbAt u (j + (n + 2)) <= limbAt v (n + 1)
 · exact hc
 ·
  exfalso;have h4:(limbAt v (n + 1)).toNat + 1 <= (limbAt u (j + (n + 2))).toNat + 65536 * val (u.drop (j + (n + 2) + 1)):=by omega
  have h5:=Nat.mul_le_mul_left (65536 ^ (n + 1)) h4;have h6:65536 * (limbAt v (n + 1)).toNat + (limbAt v n).toNat + 1 <= 65536 * ((limbAt v (n + 1)).toNat + 1):=by omega
  have h7:=Nat.mul_le_mul_left (65536 ^ n) h6;have hp:(65536:Nat) ^ (n + 1) = 65536 ^ n * 65536:=Nat.pow_succ _ _;rw [<- Nat.mul_assoc,<- hp,Nat.mul_add (65536 ^ n) _ 1] at h7
  omega
theorem norm_shift {x:Nat} (h0:x ≠ 0) (h1:x <= 65535):1 <= Lib.bitLen x /\ Lib.bitLen x <= 16 /\ 32768 <= x * 2 ^ (16 - Lib.bitLen x) /\ (x + 1) * 2 ^ (16 - Lib.bitLen x) <= 65536:=by
 obtain ⟨h2,h3,h4⟩:=Lib.bitLenAux_bounds 64 x (by omega) h0
 change 1 <= Lib.bitLen x at h2
 change 2 ^ (Lib.bitLen x - 1) <= x at h3
 change x < 2 ^ Lib.bitLen x at h4
 generalize Lib.bitLen x = b at *;have hb:b <= 16:=by
  apply Nat.le_of_not_lt;intro hc;have:2 ^ 16 <= 2 ^ (b - 1):=Nat.pow_le_pow_right (by omega) (by omega)
  omega
 refine ⟨h2,hb,?_,?_⟩
 ·
  have h5:=Nat.mul_le_mul_right (2 ^ (16 - b)) h3;rw [<- Nat.pow_add,show b - 1 + (16 - b) = 15 by omega] at h5;simpa using h5
 ·
  have h5:=Nat.mul_le_mul_right (2 ^ (16 - b)) h4;rw [<- Nat.pow_add,show b + (16 - b) = 16 by omega] at h5;simpa using h5
end Go.Proofs.YtkjnkpkagcboeaaGreatDoor
namespace Go.Proofs.YtkjnkpkagcboeaaGreatDoor
def midL (L o:List Int) (j:Nat):List Int:=L.take j ++ o ++ L.drop (j + o.length)
section
variable {L o : List Int} {j : Nat}
theorem midL_nil (L:List Int) (j:Nat):midL L [] j = L:=by simp [midL]
theorem midL_len (h:j + o.length <= L.length):(midL L o j).length = L.length:=by simp [midL]; omega
theorem midL_get (h:j + o.length < L.length):(midL L o j)[j + o.length]? = L[j + o.length]?:=by
 unfold midL;rw [List.getElem?_append_right (by simp; omega)];have e:(L.take j ++ o).length = j + o.length:=by simp; omega
 rw [e,Nat.sub_self,List.getElem?_drop,Nat.add_zero]
theorem midL_set (h:j + o.length < L.length) (x:Int):(midL L o j).set (j + o.length) x = midL L (o ++ [x]) j:=by
 unfold midL;have e:(L.take j ++ o).length = j + o.length:=by simp; omega
 rw [List.set_append_right _ _ (by omega),e,Nat.sub_self,List.drop_eq_getElem_cons h,List.set_cons_zero];simp [Nat.add_assoc]
theorem midL_u16 (hL:U16 L) (ho:U16 o):U16 (midL L o j):=((hL.take _).app ho).app (hL.drop _)
theorem midL_drop (h:j + o.length <= L.length):(midL L o j).drop j = o ++ L.drop (j + o.length):=by
 unfold midL;have e:(L.take j).length = j:=by simp; omega
 rw [List.append_assoc,List.drop_append,e,Nat.sub_self,List.drop_zero,List.drop_eq_nil_of_le (by omega),List.nil_append]
theorem midL_take (h:j + o.length <= L.length):(midL L o j).take j = L.take j:=by
 unfold midL;have e:(L.take j).length = j:=by simp; omega
 rw [List.append_assoc,List.take_append,e,Nat.sub_self,List.take_zero,List.append_nil,List.take_take,Nat.min_self]
theorem midL_seg (h:j + o.length <= L.length):((midL L o j).drop j).take o.length = o:=by
 rw [midL_drop h,List.take_append_of_le_length (nlr _),List.take_length]
theorem midL_mid {o2:List Int} (h:j + o.length <= L.length) (h2:o2.length = o.length):midL (midL L o j) o2 j = midL L o2 j:=by
 unfold midL;have e:(L.take j).length = j:=by simp; omega
 have e2:(L.take j ++ o).length = j + o.length:=by simp; omega
 congr 1
 ·
  congr 1;have:=midL_take (L:=L) (o:=o) h;unfold midL at this;exact this
 · rw [h2,List.drop_append,e2,Nat.sub_self,List.drop_zero,List.drop_eq_nil_of_le (by omega),List.nil_append]
end
theorem limbAt_seg {L:List Int} {j n k:Nat} (hk:k < n):limbAt ((L.drop j).take n) k = limbAt L (j + k):=by
 rw [limbAt_take hk,limbAt_drop]
theorem long_step {L v o O:List Int} {U n j:Nat} {q:Nat} (hv:U16 v) (hvl:v.length = n) (hjl:j + n < L.length) (hol:o.length = n + 1) (hO:O.length = L.length - n)
  (hlt:val (L.drop (j + 1)) < val v) (hU:U = val (O.drop (j + 1)) * (65536 ^ (j + 1) * val v) + val L)
  (hq:q = val ((L.drop j).take (n + 1)) / val v) (ho:val o = val ((L.drop j).take (n + 1)) % val v) :
  val ((midL L o j).drop j) < val v /\ U = val ((O.set j (q:Int)).drop j) * (65536 ^ j * val v) + val (midL L o j):=by
 obtain ⟨h1,h2,h3⟩:=seg_val hv hvl hjl hlt;have hV:0 < val v:=by omega
 have hd:=midL_drop (L:=L) (o:=o) (j:=j) (by omega);have e1:val ((midL L o j).drop j) = val o:=by
  rw [hd,val_append,hol];rw [List.drop_drop,show j + (n + 1) = j + (n + 1) by rfl] at h2;rw [h2,Nat.mul_zero,Nat.add_zero]
 have hjO:j < O.length:=by omega
 have l1:(L.take j).length = j:=by simp; omega
 have e2:=val_split L j;have e3:=val_split (midL L o j) j;rw [midL_take (by omega),l1,e1] at e3;rw [l1,h1] at e2;have e4:val ((O.set j (q:Int)).drop j) = q + 65536 * val (O.drop (j + 1)):=by
  have g:(O.set j (q:Int))[j]? = some (q:Int):=by simp [hjO]
  rw [val_drop g,List.drop_set_of_lt (by omega)];simp
 refine ⟨by rw [e1,ho]; exact Nat.mod_lt _ hV,?_⟩;rw [hU,e4,e3,e2];have e5:=div_sum (val ((L.drop j).take (n + 1))) (val v);rw [<- hq,<- ho] at e5;rw [e5];generalize val (O.drop (j + 1)) = A;generalize val v = V;generalize val (L.take j) = B;generalize val o = R;rw [Nat.pow_succ,Nat.add_mul,Nat.mul_add (65536 ^ j)];have e6:A * (65536 ^ j * 65536 * V) = 65536 * A * (65536 ^ j * V):=by
  rw [Nat.mul_comm (65536 ^ j) 65536,Nat.mul_assoc 65536 (65536 ^ j),<- Nat.mul_assoc A 65536,Nat.mul_comm A 65536]
 have e7:65536 ^ j * (q * V) = q * (65536 ^ j * V):=by rw [<- Nat.mul_assoc,Nat.mul_comm (65536 ^ j) q,Nat.mul_assoc]
 rw [e6,e7]
 omega
theorem long_done {L v O:List Int} {U:Nat} (hlt:val (L.drop 0) < val v) (hU:U = val (O.drop 0) * (65536 ^ 0 * val v) + val L):val O = U / val v /\ val L = U % val v:=by
 rw [List.drop_zero] at hlt hU;rw [Nat.pow_zero,Nat.one_mul] at hU;subst hU
 constructor
 · rw [Nat.mul_comm,Nat.mul_add_div (by omega),Nat.div_eq_of_lt hlt,Nat.add_zero]
 · rw [Nat.mul_comm,Nat.mul_add_mod,Nat.mod_eq_of_lt hlt]
theorem back_val {s q V o o2 c P:Nat} (h1:s + P = q * V + o) (h2:o2 + P * c = o + V) (ho:o < P) (ho2:o2 < P) (hq:q = s / V + 1) (hV:0 < V) (hVP:V < P):o2 = s % V:=by
 subst hq;have e:=div_sum s V;have hm:=Nat.mod_lt s hV;rw [Nat.add_mul,Nat.one_mul] at h1;have h3:o2 + P * c = s % V + P:=by omega
 have hc:c = 0 \/ c = 1 \/ 2 <= c:=by omega
 rcases hc with rfl | rfl | hc
 · omega
 · omega
 ·
  have:=Nat.mul_le_mul_left P hc
  omega
end Go.Proofs.YtkjnkpkagcboeaaGreatDoor
