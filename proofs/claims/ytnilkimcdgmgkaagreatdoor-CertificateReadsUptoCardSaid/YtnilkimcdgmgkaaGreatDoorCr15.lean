/- A monomial without the zeros at its end (the program): trim, Norm. -/
import Derived.Test.YtnilkimcdgmgkaaGreatDoorCr13
import Derived.Test.YtnilkimcdgmgkaaGreatDoorCr11
import Derived.Test.YtnilkimcdgmgkaaGreatDoorCr14
import Derived.Lib.IndexMore
import Derived.Test.YtnilkimcdgmgkaaGreatDoorProg
import Derived.Ground.NamesProg
import Derived.Test.YtnilkimcdgmgkaaGreatDoorCr1
import Derived.Shelf.Lays
import Derived.Shelf.LaysM
import Derived.Shelf.Strings.SplitShaped
import Derived.Shelf.Strconv.Itoa3
import Derived.Lib.AppendIntMem
import Derived.Shelf.Strings.Cut
import Derived.Test.YtnilkimcdgmgkaaGreatDoorCr10
import Derived.Test.YtnilkimcdgmgkaaGreatDoorCr7
import Derived.Deep.LoopGhost
import Derived.Test.YtnilkimcdgmgkaaGreatDoorCr9
set_option linter.all false
set_option maxRecDepth 100000
set_option maxHeartbeats 4000000
namespace Go.Proofs.YtnilkimcdgmgkaaGreatDoor
open Go.RowKit
def qba:List UInt8->List (List UInt8)
 | []=>[[]]
 | c :: r=>if c=10 then [] :: qba r else match qba r with
  | []=>[[c]]
  | t :: q=>(c :: t) :: q
theorem qf8:∀ s:List UInt8,qba s=match cutL 10 s with
  | none=>[s]
  | some (t,r)=>t :: qba r
 | []=>rfl
 | c :: r=>by
  rw [qba,cutL];by_cases h:c=10
  · rw [if_pos h,if_pos h]
  ·
   rw [if_neg h,if_neg h,qf8 r]
   cases cutL 10 r with
   | none=>rfl
   | some p=>rfl
theorem qer:∀ s:List UInt8,0<(qba s).length/\(qba s).length<=s.length+1
 | []=>by simp [qba]
 | c :: r=>by
  have:=qer r;rw [qba,List.length_cons]
  split
  · rw [List.length_cons];omega
  ·
   split
   · simp
   · next h=>rw [h] at this;simp only [List.length_cons] at this ⊢;omega
theorem qem:∀ (s t:List UInt8),t∈qba s->t.length<=s.length
 | [],t,h=>by simp [qba] at h;subst h;simp
 | c :: r,t,h=>by
  rw [qba] at h;rw [List.length_cons]
  split at h
  ·
   rcases List.mem_cons.1 h with e | h
   · subst e;simp
   · have:=qem r t h;omega
  ·
   split at h
   · rw [List.mem_singleton] at h;subst h;simp
   ·
    next t' q hq =>
    have hm:=fun u (hu:u∈t' :: q)=>qem r u (by rw [hq];exact hu)
    rcases List.mem_cons.1 h with e | h
    · subst e;have:=hm t' (by simp);rw [List.length_cons];omega
    · have:=hm t (by simp [h]);omega
theorem qhq {s:List UInt8} (h:cutL 10 s=none):qba s=[s]:=by rw [qf8,h]
theorem qhu {s t r:List UInt8} (h:cutL 10 s=some (t,r)):qba s=t :: qba r:=by rw [qf8,h]
theorem qiu (b:UInt8):∀ (s:List UInt8) (n:Nat),fidx [b] s n=(cutL b s).map fun p=>n+p.1.length
 | [],_=>rfl
 | c :: r,n=>by
  unfold fidx;rw [cutL];by_cases h:c=b
  ·
   subst h;simp [List.isPrefixOf]
  ·
   have hp:List.isPrefixOf [b] (c :: r)=false:=by
    simp [List.isPrefixOf];exact fun e=>h e.symm
   rw [hp,if_neg h,if_neg (by simp),qiu b r (n+1)]
   cases cutL b r with
   | none=>rfl
   | some p=>simp;omega
theorem qj8:∀ (k:Nat) (s:List UInt8),s.length<k->qe0 [10] k s=qba s
 | 0,_,h=>by omega
 | k+1,s,h=>by
  unfold qe0;rw [qiu,qf8]
  cases hc:cutL 10 s with
  | none=>rfl
  | some p =>
   obtain ⟨t,r⟩:=p;obtain ⟨g,_⟩:=qa9 10 s t r hc;simp only [Option.map_some,Nat.zero_add];subst g;have e1:(t++10 :: r).take t.length=t:=by simp
   have e2:(t++10 :: r).drop (t.length+[(10:UInt8)].length)=r:=by
    rw [List.drop_append];simp
   rw [e1,e2,qj8 k r (by simp at h;omega)]
theorem qrt (l:List UInt8):Lib.splitB (ofL [10]) 0 (Lib.countB (ofL l) (ofL [10])) (ofL l)=(qba l).map ofL/\Lib.countB (ofL l) (ofL [10])+1=(qba l).length :=
 qpr (by simp) (l.length+1) (qj8 _ l (Nat.lt_succ_self _)) (qer l).2
theorem qz4 (b:UInt8) (s:List UInt8):Lib.cut s [b]=match cutL b s with
  | none=>(s,[],false)
  | some (t,r)=>(t,r,true):=by
 unfold Lib.cut;rcases qit (sep:=[b]) (by simp) s 0 with ⟨h1,h2⟩ | ⟨i,h1,h2⟩
 ·
  rw [qiu] at h1;rw [h2]
  cases hc:cutL b s with
  | none=>rfl
  | some p=>rw [hc] at h1;cases h1
 ·
  rw [qiu] at h1;rw [h2]
  cases hc:cutL b s with
  | none=>rw [hc] at h1;cases h1
  | some p =>
   obtain ⟨t,r⟩:=p;obtain ⟨g,_⟩:=qa9 b s t r hc;rw [hc] at h1;have hi:t.length=i:=by simpa using h1
   rw [if_pos (by omega)];subst g;rw [Int.toNat_natCast,<- hi];simp [List.drop_append]
def linP (names:List ByteArray) (part:Nat) (c:CrQ) (t:List UInt8):Option (Nat × CrQ) × Int :=
 if part=0 then match qc3 t with
  | some c'=>(some (1,c'),0)
  | none=>(none,9)
 else if part=3 then (none,9)
 else if t=wEnd then (some (3,c),0)
 else match lineQ names c t with
  | (some c',_)=>(some (if c'.C=[] then 1 else 2,c'),0)
  | (none,e)=>(none,e)
def runP (names:List ByteArray):Nat->CrQ->Nat->List (List UInt8)->CrQ × Nat × Int
 | _,_,n,[]=>(noQ,n,10)
 | part,c,n,t :: r=>if r=[] then (if t=[]/\part=3 then (c,0,0) else (noQ,n,10)) else match linP names part c t with
  | (some (q,c'),_)=>runP names q c' (n+1) r
  | (none,e)=>(noQ,n,e)
theorem qif (names:List ByteArray) (part:Nat) (c:CrQ) (n:Nat) (t:List UInt8):runP names part c n [t]=if t=[]/\part=3 then (c,0,0) else (noQ,n,10):=by rw [runP,if_pos rfl]
theorem qka (names:List ByteArray) (part:Nat) (c:CrQ) (n:Nat) (t s:List UInt8):runP names part c n (t :: qba s)=match linP names part c t with
  | (some (q,c'),_)=>runP names q c' (n+1) (qba s)
  | (none,e)=>(noQ,n,e):=by
 rw [runP,if_neg fun h=>by have:=(qer s).1;rw [h] at this;exact absurd this (by simp)]
def partQ (c:CrQ):Nat:=if c.C=[] then 1 else 2
theorem qog (names:List ByteArray):∀ (f n:Nat) (c:CrQ) (s:List UInt8),s.length<f->runP names (partQ c) c n (qba s)=restQ names f n c s
 | 0,_,_,_,h=>by omega
 | f+1,n,c,s,h=>by
  have hp:partQ c≠3/\partQ c≠0:=by unfold partQ;split <;> decide
  rw [restQ]
  cases hc:cutL 10 s with
  | none=>rw [qhq hc,qif,if_neg fun e=>hp.1 e.2]
  | some p =>
   obtain ⟨t,r⟩:=p;obtain ⟨g,_⟩:=qa9 10 s t r hc;rw [qhu hc,qka];unfold linP;rw [if_neg hp.2,if_neg hp.1];dsimp only;by_cases he:t=wEnd
   ·
    rw [if_pos he,if_pos he];dsimp only
    cases hr:cutL 10 r with
    | none =>
     rw [qhq hr,qif];by_cases h0:r=[]
     · rw [if_pos h0,if_pos ⟨h0,rfl⟩]
     · rw [if_neg h0,if_neg fun e=>h0 e.1]
    | some p =>
     obtain ⟨t',r'⟩:=p;have h0:r≠[]:=fun e=>by rw [e] at hr;cases hr
     rw [qhu hr,qka,if_neg h0]
     rfl
   ·
    rw [if_neg he,if_neg he];rcases hl:lineQ names c t with ⟨_ | c',e⟩
    · rfl
    ·
     dsimp only;exact qog names f (n+1) c' r (by rw [g] at h;simp at h;omega)
theorem qjk (names:List ByteArray) (s:List UInt8):runP names 0 noQ 1 (qba s)=readQ names s:=by
 unfold readQ
 cases hc:cutL 10 s with
 | none=>rw [qhq hc,qif,if_neg fun e=>by cases e.2]
 | some p =>
  obtain ⟨t,r⟩:=p;rw [qhu hc,qka];unfold linP;rw [if_pos rfl];dsimp only
  cases hf:qc3 t with
  | none=>rfl
  | some c =>
   have h0:c.C=[]:=by
    unfold qc3 at hf
    split at hf
    ·
     split at hf
     · obtain ⟨n,_,rfl⟩:=Option.map_eq_some_iff.1 hf;rfl
     · cases hf
    · cases hf
   have:=qog names (r.length+1) 2 c r (Nat.lt_succ_self _);unfold partQ at this;rw [if_pos h0] at this;exact this
theorem qy4 (s:List UInt8):numC 1 s=if numC 0 s=some 0 then none else numC 0 s:=by
 cases h:numC 0 s with
 | none =>
  rw [if_neg (by simp)]
  cases h1:numC 1 s with
  | none=>rfl
  | some n =>
   obtain ⟨a,b,c⟩:=qcv h1;rw [<- c,qg1 (Nat.zero_le _) b] at h
   cases h
 | some n =>
  obtain ⟨_,b,c⟩:=qcv h;by_cases h0:n=0
  ·
   subst h0;rw [if_pos rfl]
   cases h1:numC 1 s with
   | none=>rfl
   | some m =>
    obtain ⟨a1,b1,c1⟩:=qcv h1;have:=qo1 (c1.trans c.symm)
    omega
  ·
   rw [if_neg (by simpa using h0),<- c];exact qg1 (by omega) b
theorem qw0 (n:Nat):textN n≠[]/\∀ c∈textN n,digU c=true:=by
 unfold textN
 split
 · exact ⟨by simp,by intro c hc;simp at hc;subst hc;decide⟩
 · next h=>exact ⟨fun e=>by rw [qci h] at e;simp at e,qac8 n⟩
theorem qnv {s:List UInt8} {n:Nat} (h:numC 0 s=some n):Lib.atoiAll s=.ok n:=by
 obtain ⟨_,b,c⟩:=qcv h;obtain ⟨h0,hd⟩:=qw0 n;rw [c] at h0 hd;rcases qlc h0 hd with ⟨h1,h2⟩ | ⟨h1,h2⟩
 · rw [h1,<- c,qhi]
 · rw [<- c,qhi] at h2;omega
theorem qad9 {s:List UInt8} {v:Int} (h:Lib.atoiAll s=.ok v):numC 0 s=if 0<=v/\v<=64/\textN v.toNat=s then some v.toNat else none:=by
 cases hn:numC 0 s with
 | none =>
  rw [if_neg];rintro ⟨h0,h1,h2⟩;rw [<- h2,qg1 (Nat.zero_le _) (by omega)] at hn
  cases hn
 | some n =>
  have h1:=qnv hn;rw [h] at h1;injection h1 with h1
  subst h1;obtain ⟨_,b,c⟩:=qcv hn;rw [if_pos ⟨by omega,by omega,by rw [Int.toNat_natCast];exact c⟩,Int.toNat_natCast]
end Go.Proofs.YtnilkimcdgmgkaaGreatDoor
namespace Go.Proofs
open Go.Shelf
def Tryz.lays146_ren : Go.Shelf.Ren := ⟨fun | 146 => 7 | 221 => 14 | 268 => 23 | 138 => 24 | 143 => 25 | 195 => 40 | 197 => 41 | 218 => 42 | 219 => 43 | 260 => 79 | 217 => 80 | 225 => 81 | 224 => 82 | 267 => 83 | 266 => 130 | 314 => 131 | n => n, fun | 9 => 9 | 31 => 22 | 3 => 3 | 4 => 4 | 0 => 0 | 105 => 87 | 21 => 21 | 5 => 5 | 46 => 128 | 119 => 164 | 139 => 167 | 138 => 166 | 146 => 169 | 51 => 168 | n => n, fun | 1 => 0 | 3 => 1 | 4 => 2 | n => n⟩
theorem Tryz.lays146 : Go.Proofs.LaysM.n146 Tryz.prog Tryz.lays146_ren := {
  mixed := by kernel_rfl
  f138 := Tryz.func24.trans (congrArg some (by kernel_rfl))
  f143 := Tryz.func25.trans (congrArg some (by kernel_rfl))
  f146 := Tryz.func7.trans (congrArg some (by kernel_rfl))
  f195 := Tryz.func40.trans (congrArg some (by kernel_rfl))
  f197 := Tryz.func41.trans (congrArg some (by kernel_rfl))
  f217 := Tryz.func80.trans (congrArg some (by kernel_rfl))
  f218 := Tryz.func42.trans (congrArg some (by kernel_rfl))
  f219 := Tryz.func43.trans (congrArg some (by kernel_rfl))
  f221 := Tryz.func14.trans (congrArg some (by kernel_rfl))
  f224 := Tryz.func82.trans (congrArg some (by kernel_rfl))
  f225 := Tryz.func81.trans (congrArg some (by kernel_rfl))
  f260 := Tryz.func79.trans (congrArg some (by kernel_rfl))
  f266 := Tryz.func130.trans (congrArg some (by kernel_rfl))
  f267 := Tryz.func83.trans (congrArg some (by kernel_rfl))
  f268 := Tryz.func23.trans (congrArg some (by kernel_rfl))
  f314 := Tryz.func131.trans (congrArg some (by kernel_rfl))
  t0 := Tryz.underlying0
  a0 := Tryz.isAgg0
  z0 := Tryz.sizeOf0
  v0 := Tryz.zeroValue0
  t3 := Tryz.underlying3
  a3 := Tryz.isAgg3
  z3 := Tryz.sizeOf3
  v3 := Tryz.zeroValue3
  t4 := Tryz.underlying4
  a4 := Tryz.isAgg4
  z4 := Tryz.sizeOf4
  v4 := Tryz.zeroValue4
  t5 := Tryz.underlying5
  a5 := Tryz.isAgg5
  z5 := Tryz.sizeOf5
  v5 := Tryz.zeroValue5
  t9 := Tryz.underlying9
  a9 := Tryz.isAgg9
  z9 := Tryz.sizeOf9
  v9 := Tryz.zeroValue9
  t21 := Tryz.underlying21
  a21 := Tryz.isAgg21
  z21 := Tryz.sizeOf21
  v21 := Tryz.zeroValue21
  t31 := Tryz.underlying22
  a31 := Tryz.isAgg22
  z31 := Tryz.sizeOf22
  v31 := Tryz.zeroValue22
  t46 := Tryz.underlying128
  a46 := Tryz.isAgg128
  z46 := Tryz.sizeOf128
  v46 := Tryz.zeroValue128
  t51 := Tryz.underlying168
  a51 := Tryz.isAgg168
  z51 := Tryz.sizeOf168
  v51 := Tryz.zeroValue168
  t105 := Tryz.underlying87
  a105 := Tryz.isAgg87
  z105 := Tryz.sizeOf87
  v105 := Tryz.zeroValue87
  t119 := Tryz.underlying164
  a119 := Tryz.isAgg164
  z119 := Tryz.sizeOf164
  t138 := Tryz.underlying166
  a138 := Tryz.isAgg166
  z138 := Tryz.sizeOf166
  v138 := Tryz.zeroValue166
  t139 := Tryz.underlying167
  a139 := Tryz.isAgg167
  z139 := Tryz.sizeOf167
  v139 := Tryz.zeroValue167
  t146 := Tryz.underlying169
  a146 := Tryz.isAgg169
  z146 := Tryz.sizeOf169
  v146 := Tryz.zeroValue169
  g1 := by kernel_rfl
  g3 := by kernel_rfl
  g4 := by kernel_rfl
  i0 := by kernel_rfl
  i3 := by kernel_rfl
  i4 := by kernel_rfl
  i5 := by kernel_rfl
  i9 := by kernel_rfl
  i21 := by kernel_rfl
  i31 := by kernel_rfl
  i46 := by kernel_rfl
  i51 := by kernel_rfl
  i105 := by kernel_rfl
  i138 := by kernel_rfl
  i139 := by kernel_rfl
  i146 := by kernel_rfl
  m1 := by kernel_rfl
  s1_3 := fun w h => Go.Proofs.cell_of_shapedOpen_int (zero := #[.int .i64 0]) (t := 3) h (of_decide_eq_true (by kernel_rfl)) (by kernel_rfl) rfl (by kernel_rfl) (by kernel_rfl) Tryz.underlying3
  m3 := by kernel_rfl
  m4 := by kernel_rfl }
end Go.Proofs
namespace Go.Proofs.YtnilkimcdgmgkaaGreatDoor
open Go.RowKit
def MaxL (w:World):Prop:=∃ m,w.cell? ⟨Tryz.lays146_ren.g 1,0,none⟩=some (.int .i64 m)
theorem MaxL.of {w:World} (h:w.ShapedOpen Tryz.prog):MaxL w:=Tryz.lays146.s1_3 w h
theorem MaxL.ext {w w':World} (h:MaxL w) (e:Ext w w'):MaxL w':=h.imp fun _ hm=>e _ _ hm
theorem qw3 (s sep:ByteArray) (w:World) (h:MaxL w) (hs:s.size<4294967281) (h1:1<=sep.size) :
  Calls Tryz.prog 7 #[.string s,.string sep] w fun e w' =>
   e=.returned (.slice (some ⟨w.heap.size,0,none⟩) (Lib.countB s sep+1) (Lib.countB s sep+1))/\w'=w.alloc (.cells ((Lib.splitB sep 0 (Lib.countB s sep) s).map Value.string).toArray 9) :=
 let ⟨m,hm⟩:=h
 Any.strings_Split { Tryz.lays146 with } Tryz.lays146.i9 s sep m w hs hm h1
end Go.Proofs.YtnilkimcdgmgkaaGreatDoor
namespace Go.Proofs
open Go.Shelf
def Tryz.lays171_ren : Go.Shelf.Ren := ⟨fun | 171 => 28 | 243 => 46 | 246 => 89 | 283 => 135 | 284 => 136 | 285 => 137 | 286 => 138 | 129 => 176 | 317 => 175 | 318 => 177 | 319 => 178 | 320 => 179 | 337 => 205 | 338 => 206 | n => n, fun | 3 => 3 | 9 => 9 | 2 => 2 | 4 => 4 | 171 => 177 | 0 => 0 | 53 => 108 | 37 => 100 | 5 => 5 | 173 => 180 | 212 => 202 | 51 => 168 | 20 => 20 | 213 => 203 | 46 => 128 | 232 => 226 | 233 => 227 | n => n, fun | 17 => 5 | 18 => 6 | 19 => 7 | n => n⟩
theorem Tryz.lays171 : Go.Proofs.LaysM.n171 Tryz.prog Tryz.lays171_ren := {
  mixed := by kernel_rfl
  f129 := Tryz.func176.trans (congrArg some (by kernel_rfl))
  f171 := Tryz.func28.trans (congrArg some (by kernel_rfl))
  f243 := Tryz.func46.trans (congrArg some (by kernel_rfl))
  f246 := Tryz.func89.trans (congrArg some (by kernel_rfl))
  f283 := Tryz.func135.trans (congrArg some (by kernel_rfl))
  f284 := Tryz.func136.trans (congrArg some (by kernel_rfl))
  f285 := Tryz.func137.trans (congrArg some (by kernel_rfl))
  f286 := Tryz.func138.trans (congrArg some (by kernel_rfl))
  f317 := Tryz.func175.trans (congrArg some (by kernel_rfl))
  f318 := Tryz.func177.trans (congrArg some (by kernel_rfl))
  f319 := Tryz.func178.trans (congrArg some (by kernel_rfl))
  f320 := Tryz.func179.trans (congrArg some (by kernel_rfl))
  f337 := Tryz.func205.trans (congrArg some (by kernel_rfl))
  f338 := Tryz.func206.trans (congrArg some (by kernel_rfl))
  t0 := Tryz.underlying0
  a0 := Tryz.isAgg0
  z0 := Tryz.sizeOf0
  v0 := Tryz.zeroValue0
  t2 := Tryz.underlying2
  a2 := Tryz.isAgg2
  z2 := Tryz.sizeOf2
  v2 := Tryz.zeroValue2
  t3 := Tryz.underlying3
  a3 := Tryz.isAgg3
  z3 := Tryz.sizeOf3
  v3 := Tryz.zeroValue3
  t4 := Tryz.underlying4
  a4 := Tryz.isAgg4
  z4 := Tryz.sizeOf4
  v4 := Tryz.zeroValue4
  t5 := Tryz.underlying5
  a5 := Tryz.isAgg5
  z5 := Tryz.sizeOf5
  v5 := Tryz.zeroValue5
  t9 := Tryz.underlying9
  a9 := Tryz.isAgg9
  z9 := Tryz.sizeOf9
  v9 := Tryz.zeroValue9
  t20 := Tryz.underlying20
  a20 := Tryz.isAgg20
  z20 := Tryz.sizeOf20
  v20 := Tryz.zeroValue20
  t37 := Tryz.underlying100
  a37 := Tryz.isAgg100
  z37 := Tryz.sizeOf100
  v37 := Tryz.zeroValue100
  t46 := Tryz.underlying128
  a46 := Tryz.isAgg128
  z46 := Tryz.sizeOf128
  v46 := Tryz.zeroValue128
  t51 := Tryz.underlying168
  a51 := Tryz.isAgg168
  z51 := Tryz.sizeOf168
  v51 := Tryz.zeroValue168
  t53 := Tryz.underlying108
  a53 := Tryz.isAgg108
  z53 := Tryz.sizeOf108
  v53 := Tryz.zeroValue108
  t171 := Tryz.underlying177
  a171 := Tryz.isAgg177
  z171 := Tryz.sizeOf177
  v171 := Tryz.zeroValue177
  t173 := Tryz.underlying180
  a173 := Tryz.isAgg180
  z173 := Tryz.sizeOf180
  v173 := Tryz.zeroValue180
  t212 := Tryz.underlying202
  a212 := Tryz.isAgg202
  z212 := Tryz.sizeOf202
  v212 := Tryz.zeroValue202
  t213 := Tryz.underlying203
  a213 := Tryz.isAgg203
  z213 := Tryz.sizeOf203
  t232 := Tryz.underlying226
  a232 := Tryz.isAgg226
  z232 := Tryz.sizeOf226
  v232 := Tryz.zeroValue226
  t233 := Tryz.underlying227
  a233 := Tryz.isAgg227
  z233 := Tryz.sizeOf227
  v233 := Tryz.zeroValue227
  g17 := by kernel_rfl
  g18 := by kernel_rfl
  g19 := by kernel_rfl
  i0 := by kernel_rfl
  i2 := by kernel_rfl
  i3 := by kernel_rfl
  i4 := by kernel_rfl
  i5 := by kernel_rfl
  i9 := by kernel_rfl
  i20 := by kernel_rfl
  i37 := by kernel_rfl
  i46 := by kernel_rfl
  i51 := by kernel_rfl
  i53 := by kernel_rfl
  i171 := by kernel_rfl
  i173 := by kernel_rfl
  i212 := by kernel_rfl
  i232 := by kernel_rfl
  i233 := by kernel_rfl
  m17 := by kernel_rfl
  m18 := by kernel_rfl
  m19 := by kernel_rfl }
end Go.Proofs
namespace Go.Proofs.YtnilkimcdgmgkaaGreatDoor
open Go.RowKit
def TabW (w : World) : Prop := Lib.TabIs Tryz.prog w "internal/strconv.uint64pow10" .u64 Lib.pow10Tab
theorem TabW.below {w w':World} (h:TabW w) (hb:Below w.heap.size w w'):TabW w':=Lib.tabBelow_of_tabIs h w' hb
theorem qzk (n:Nat):Lib.decDigits n=textN n:=by
 induction n using Nat.strongRecOn with
 | _ n ih =>
  rw [Lib.decDigits]
  split
  · next h=>rw [qrn (by omega)]
  ·
   next h =>
   rw [ih (n / 10) (by omega)];unfold textN;rw [if_neg (by omega),if_neg (by omega),qci (show n≠0 by omega)]
   first | done | rfl
theorem qoy (n:Nat) (w:World) (ht:TabW w) (hn:n<=9223372036854775807) :
  Calls Tryz.prog 28 #[.int .i64 n] w fun e w'=>e=.returned (.string (ofL (textN n)))/\Below w.heap.size w w':=by
 refine (Any.strconv_Itoa Tryz.lays171 n (by omega) (by omega) w ht).mono ?_;rintro e w' ⟨rfl,k,os,rfl⟩;refine ⟨qe7 ?_,Lib.below_grow _ _ (nlr _) _ _⟩;unfold Lib.itoa;rw [if_neg (by omega),Int.toNat_natCast,qzk]
 first | done | rfl
end Go.Proofs.YtnilkimcdgmgkaaGreatDoor
namespace Go.Proofs
open Go.Shelf
def Tryz.lays145_ren : Go.Shelf.Ren := ⟨fun | 145 => 15 | 220 => 26 | 219 => 43 | 217 => 80 | 225 => 81 | 224 => 82 | 267 => 83 | 266 => 130 | 314 => 131 | n => n, fun | 9 => 9 | 4 => 4 | 59 => 41 | 3 => 3 | 5 => 5 | 46 => 128 | 146 => 169 | 51 => 168 | n => n, fun | 1 => 0 | n => n⟩
theorem Tryz.lays145 : Go.Proofs.LaysM.n145 Tryz.prog Tryz.lays145_ren := {
  mixed := by kernel_rfl
  f145 := Tryz.func15.trans (congrArg some (by kernel_rfl))
  f217 := Tryz.func80.trans (congrArg some (by kernel_rfl))
  f219 := Tryz.func43.trans (congrArg some (by kernel_rfl))
  f220 := Tryz.func26.trans (congrArg some (by kernel_rfl))
  f224 := Tryz.func82.trans (congrArg some (by kernel_rfl))
  f225 := Tryz.func81.trans (congrArg some (by kernel_rfl))
  f266 := Tryz.func130.trans (congrArg some (by kernel_rfl))
  f267 := Tryz.func83.trans (congrArg some (by kernel_rfl))
  f314 := Tryz.func131.trans (congrArg some (by kernel_rfl))
  t3 := Tryz.underlying3
  a3 := Tryz.isAgg3
  z3 := Tryz.sizeOf3
  v3 := Tryz.zeroValue3
  t4 := Tryz.underlying4
  a4 := Tryz.isAgg4
  z4 := Tryz.sizeOf4
  v4 := Tryz.zeroValue4
  t5 := Tryz.underlying5
  a5 := Tryz.isAgg5
  z5 := Tryz.sizeOf5
  v5 := Tryz.zeroValue5
  t9 := Tryz.underlying9
  a9 := Tryz.isAgg9
  z9 := Tryz.sizeOf9
  v9 := Tryz.zeroValue9
  t46 := Tryz.underlying128
  a46 := Tryz.isAgg128
  z46 := Tryz.sizeOf128
  v46 := Tryz.zeroValue128
  t51 := Tryz.underlying168
  a51 := Tryz.isAgg168
  z51 := Tryz.sizeOf168
  v51 := Tryz.zeroValue168
  t59 := Tryz.underlying41
  a59 := Tryz.isAgg41
  z59 := Tryz.sizeOf41
  v59 := Tryz.zeroValue41
  t146 := Tryz.underlying169
  a146 := Tryz.isAgg169
  z146 := Tryz.sizeOf169
  v146 := Tryz.zeroValue169
  g1 := by kernel_rfl
  i3 := by kernel_rfl
  i4 := by kernel_rfl
  i5 := by kernel_rfl
  i9 := by kernel_rfl
  i46 := by kernel_rfl
  i51 := by kernel_rfl
  i59 := by kernel_rfl
  i146 := by kernel_rfl
  m1 := by kernel_rfl
  s1_3 := fun w h => Go.Proofs.cell_of_shapedOpen_int (zero := #[.int .i64 0]) (t := 3) h (of_decide_eq_true (by kernel_rfl)) (by kernel_rfl) rfl (by kernel_rfl) (by kernel_rfl) Tryz.underlying3 }
end Go.Proofs
namespace Go.Proofs.YtnilkimcdgmgkaaGreatDoor
open Go.RowKit
def cutC (l:List UInt8):List UInt8 × List UInt8 × Bool:=match cutL 32 l with
 | none=>(l,[],false)
 | some (t,r)=>(t,r,true)
theorem qki (s:ByteArray) (w:World) (h:MaxL w) (hs:s.size<4294967281) :
  Calls Tryz.prog 15 #[.string s,.string ⟨#[32]⟩] w fun e w'=>e=.returned (.tuple #[.string (ofL (cutC s.data.toList).1),.string (ofL (cutC s.data.toList).2.1),.bool (cutC s.data.toList).2.2])/\Below w.heap.size w w':=by
 obtain ⟨m,hm⟩:=h;refine (Any.strings_Cut { Tryz.lays145 with } s ⟨#[32]⟩ m w hs hm).mono ?_;rintro e w' ⟨rfl,n,rfl⟩;have e1:Lib.cut s.data.toList (⟨#[32]⟩:ByteArray).data.toList=cutC s.data.toList:=qz4 32 _;rw [e1];exact ⟨rfl,⟨rfl,rfl,rfl,nlr _,fun _ _=>rfl⟩⟩
def ErrS (w:World):Prop:=∃ te pe,w.cell? ⟨Tryz.lays172_ren.g 15,0,none⟩=some (.iface te pe)
theorem ErrS.below {w w':World} (h:ErrS w) (hb:Below w.heap.size w w'):ErrS w':=by obtain ⟨te,pe,h⟩:=h;exact ⟨te,pe,held h w' hb⟩
theorem qad3 (s:ByteArray) (v:Int) (w:World) (hs:s.size<=281474976710656) (h:Lib.atoiAll s.data.toList=.ok v) :
  Calls Tryz.prog 27 #[.string s] w fun e w'=>e=.returned (.tuple #[.int .i64 v,.nilIface])/\Below w.heap.size w w':=by
 refine (Any.strconv_Atoi_ok Tryz.lays172 s (by omega) v h w).mono ?_;rintro e w' ⟨rfl,hw⟩;refine ⟨rfl,?_⟩;rcases hw with rfl | ⟨t,rfl⟩
 · exact Below.refl _ _
 · exact Lib.bytesWorld_below _ _ _
theorem qai3 (s:ByteArray) (w:World) (hs:s.size<=281474976710656) (h:∀ v,Lib.atoiAll s.data.toList≠.ok v) (he:ErrW w) (hy:ErrS w) :
  Calls Tryz.prog 27 #[.string s] w fun e w'=>∃ (x:Int) (t:TypeId) (q:Value),e=.returned (.tuple #[.int .i64 x,.iface t q])/\Below w.heap.size w w':=by
 cases ha:Lib.atoiAll s.data.toList with
 | ok v=>exact absurd ha (h v)
 | range =>
  obtain ⟨te,pe,he⟩:=he;refine (Any.strconv_Atoi_range Tryz.lays172 s (by omega) ha _ w he (.inr ⟨te,pe,rfl⟩)).mono ?_;rintro e w' ⟨N,rfl,_,_,hb⟩;exact ⟨_,_,_,rfl,hb⟩
 | _ =>
  obtain ⟨te,pe,hy⟩:=hy;refine (Any.strconv_Atoi_syntax Tryz.lays172 s (by omega) ha _ w hy (.inr ⟨te,pe,rfl⟩)).mono ?_;rintro e w' ⟨N,rfl,_,_,hb⟩;exact ⟨_,_,_,rfl,hb⟩
def qak5 (N:Option Nat) (w:World) (e:Ending) (w':World):Prop:=∃ (n:Int) (b:Bool),e=.returned (.tuple #[.int .i64 n,.bool b])/\Below w.heap.size w w'/\(∀ k,N=some k->n=k/\b=true)/\(N=none->b=false)
theorem qf4 (s:ByteArray) (w:World) (hs:s.size<=281474976710656) (he:ErrW w) (hy:ErrS w) (ht:TabW w) :
  Calls Tryz.prog 16 #[.string s] w (qak5 (numC 0 s.data.toList) w):=by
 have HT:=Hd (fun W (hW:Below w.heap.size w W)=>ht.below hW);obtain ⟨N,hN⟩:∃ N,numC 0 s.data.toList=N:=⟨_,rfl⟩
 rw [hN];by_cases hok:∃ v,Lib.atoiAll s.data.toList=.ok v
 ·
  obtain ⟨v,hv⟩:=hok;have CA:=Hd (qad3 s v w hs hv);have hf:=qad9 hv;rw [hN] at hf;clear hN hv he hy ht;by_cases h0:0<=v
  ·
   obtain ⟨n,rfl⟩:∃ n:Nat,v=(n:Int):=⟨v.toNat,by omega⟩
   rw [Int.toNat_natCast] at hf;by_cases h64:n<=64
   ·
    have CI:=Hd (fun W (hW:Below w.heap.size w W)=>qoy n W (HT.out W hW) (by omega));obtain ⟨b,hb⟩:∃ b,((ofL (textN n)).toList==s.toList)=b:=⟨_,rfl⟩
    have hbb:(textN n=s.data.toList)↔b=true:=by
     rw [<- hb,qe4,decide_eq_true_iff];exact ⟨fun e=>by rw [e,qc1],fun e=>by rw [<- e,qaw]⟩
    have hN2:=Hd (show (∀ k,N=some k->(n:Int)=k/\b=true)/\(N=none->b=false) from by
     by_cases hq:textN n=s.data.toList
     ·
      rw [if_pos ⟨h0,by omega,hq⟩] at hf;subst hf;exact ⟨fun k hk=>⟨by injection hk with hk;rw [hk],hbb.1 hq⟩,fun h=>by cases h⟩
     ·
      rw [if_neg fun h=>hq h.2.2] at hf;subst hf;exact ⟨fun k hk=>(by cases hk),fun _=>(by
       cases b
       · rfl
       · exact absurd (hbb.2 rfl) hq)⟩)
    clear hf hbb;go_enter Tryz.func16,Tryz.ntmps16;go_wp2_with fail;refine CA.out.mono ?_;rintro e w1 ⟨rfl,hb1⟩;go_wp2_with fail;refine (CI.out w1 hb1).mono ?_;rintro e w2 ⟨rfl,hb2⟩;go_wp2;go_ret2;exact ⟨n,b,rfl,bth hb1 hb2,hN2.out⟩
   ·
    rw [if_neg (by omega)] at hf;subst hf;have d1:decide ((n:Int)<=64)=false:=by rw [decide_eq_false_iff_not];omega
    have d2:decide (n<=64)=false:=by rw [decide_eq_false_iff_not];exact h64
    clear h64;go_enter Tryz.func16,Tryz.ntmps16;go_wp2_with fail;refine CA.out.mono ?_;rintro e w1 ⟨rfl,hb1⟩;go_wp2;go_ret2;exact ⟨n,false,rfl,hb1,(fun k hk=>by cases hk),fun _=>rfl⟩
  ·
   rw [if_neg fun h=>h0 h.1] at hf;subst hf;have d1:decide (0<=v)=false:=by rw [decide_eq_false_iff_not];exact h0
   go_enter Tryz.func16,Tryz.ntmps16;go_wp2_with fail;refine CA.out.mono ?_;rintro e w1 ⟨rfl,hb1⟩;go_wp2;go_ret2;exact ⟨v,false,rfl,hb1,(fun k hk=>by cases hk),fun _=>rfl⟩
 ·
  have hno:∀ v,Lib.atoiAll s.data.toList≠.ok v:=fun v h=>hok ⟨v,h⟩
  have CA:=Hd (qai3 s w hs hno he hy);have hN0:N=none:=by
   cases N with
   | none=>rfl
   | some k=>exact absurd (qnv hN) (hno _)
  subst hN0;clear hok hno hN he hy ht;go_enter Tryz.func16,Tryz.ntmps16;go_wp2_with fail;refine CA.out.mono ?_;rintro e w1 ⟨x,t,q,rfl,hb1⟩;go_wp2;go_ret2;exact ⟨x,false,rfl,hb1,(fun k hk=>by cases hk),fun _=>rfl⟩
end Go.Proofs.YtnilkimcdgmgkaaGreatDoor
namespace Go.Proofs.YtnilkimcdgmgkaaGreatDoor
open Go.RowKit
theorem qab1 {c:UInt8} {l:List UInt8} (h:letU c=true):namL (c :: l)=((c :: l).takeWhile wordV).length:=by
 have hw:wordV c=true:=by unfold wordV;unfold letU at h;rw [h];rfl
 rw [namL,if_pos h,List.takeWhile_cons,if_pos hw,List.length_cons]
 omega
theorem zz40 {P:Prop} (h:P:=by
 refine qac ?_;go_wp2_with fail;refine (CR.out w.drew hbd).mono ?_;rintro e w1 ⟨rfl,h1,hf⟩;go_wp2;go_ret;exact ⟨0,rfl,by decide,fun v r e=>absurd (hGe.out.symm.trans e) fun e=>qc4 e,by rw [hGe.out];exact qjc h1,(Fr.below hbd).trans hf⟩
 ):P:=h
theorem zz41 {P:Prop} (h:P:=by
 refine qac ?_;go_wp2;go_roundg (gk-1)
 case rel=>exact ⟨j+1,by have:=hj.out;show _=_;omega,by unfold RdA;rw [show a+(j+1)=p+1 by have:=hp.out;omega,hpc];exact hR3.out,hF3.out⟩
 case measure=>have:=hj.out;omega
 ):P:=h
theorem qzf (g mb a nm:Nat) (s:ByteArray) (names:List ByteArray) (w:World) (h:RdA w g s mb a 0 0) (ha:a<=s.size) (hs:s.size<=281474976710656) (hm:OwnV w mb nm (names.take 64)) (hne:mb≠g) :
  Calls Tryz.prog 183 #[.pointer (some ⟨g,0,none⟩)] w fun u w'=>∃ n:Nat,u=.returned (.int .i64 n)/\n<64/\(∀ v r,namG names (tl s a)=.ok v r->n=v)/\StG w' g s mb (namG names (tl s a))/\Fg g w w':=by
 obtain ⟨z0,z1,z2,z3,z4⟩:=cq5 h;have hl:=h.lt;obtain ⟨GG,hGG⟩:∃ G,namG names (tl s a)=G:=⟨_,rfl⟩
 rw [hGG];replace hGG:=Hd hGG;have HM:=Hd (fun W (hW:Fg g w W)=>hm.fr hW hne);clear hm;by_cases hlt:a<s.size
 ·
  have hb:((a:Int)==(s.size:Int))=false:=by rw [beq_eq_false_iff_ne];omega
  have hT:=tl_at hlt;obtain ⟨c,hc⟩:∃ c,s[a]'hlt=c:=⟨_,rfl⟩
  rw [hc] at hT;obtain ⟨y,hy⟩:∃ y:Nat,c.toNat=y:=⟨_,rfl⟩
  have hy0:(s[a]'hlt).toNat=y:=by rw [hc];exact hy
  have CD:=qff (y:Int);have hdy:letU c=letV (y:Int):=by unfold letU;rw [hy]
  obtain ⟨bd,hbd0⟩:∃ b,letV (y:Int)=b:=⟨_,rfl⟩
  simp only [hbd0] at CD;rw [hbd0] at hdy;replace CD:=Hd CD
  cases bd
  ·
   have hL:namG names (tl s a)=lost (tl s a):=by unfold namG;rw [if_pos (by rw [hT,namL,hdy];rfl)]
   have hy2:=Hd hy;clear hT hdy hbd0 hy hc HM;have hGe:GG=lost (tl s a):=hGG.out.symm.trans hL;have CR:=Hd (fun W (hW:Below w.heap.size w W)=>qet g mb a s W (h.below hW) ha hs);have hbd:Below w.heap.size w w.drew:=brf.drew;replace hGe:=Hd hGe;clear h hL;go_enter Tryz.func183,Tryz.ntmps183;go_wp2;refine wrx (S:=(fun x=>x=w.drew)) [(0,.q),(1,.q),(2,.q),(3,.q),(4,.q),(5,.q),(6,.q),(7,.q),(8,.q),(9,.q),(10,.q),(11,.q),(12,.q),(13,.q),(14,.q),(15,.q),(16,.q),(17,.q),(18,.q),(19,.q),(20,.t),(21,.p),(22,.p)] (rfl) ?_
   iterate 20 (refine qab rfl rfl fun K hK=>xq ?_;go_simp;refine hK _ _ ?_;clear hK K)
   refine qam rfl rfl (fun K hK=>?_);go_simp;refine (CD.out w.drew).mono ?_;rintro e w' ⟨rfl,rfl⟩;dsimp only;refine hK.out _ _ ?_;clear hK K
   iterate 2 (refine qae rfl rfl fun K hK=>xp ?_;go_simp;refine hK _ _ ?_;clear hK K)
   exact zz40
  ·
   have hn1:namL (tl s a)=((tl s a).takeWhile wordV).length:=by rw [hT];exact qab1 hdy
   obtain ⟨D,hD⟩:∃ D,((tl s a).takeWhile wordV).length=D:=⟨_,rfl⟩
   rw [hD] at hn1;have hDl:D<=s.size-a:=by rw [<- hD];have:=tw_le wordV (tl s a);rw [qaq] at this;exact this
   have hD0:0<D:=by rw [<- hn1,hT,namL,if_pos hdy];omega
   have hDi:∀ j,j<D->∃ h:a+j<s.size,(letV ((s[a+j]'h).toNat:Int)||digV ((s[a+j]'h).toNat:Int))=true:=fun j hj=>by
    have h1:a+j<s.size:=by omega
    refine ⟨h1,?_⟩;rw [<- hD] at hj;obtain ⟨x,hx,hp⟩:=tw_in hj;rw [qd4 h1] at hx;injection hx with hx
    subst hx;exact hp
   have hDo:∀ h:a+D<s.size,(letV ((s[a+D]'h).toNat:Int)||digV ((s[a+D]'h).toNat:Int))=false:=fun h1 =>
    qkc (p:=wordV) (l:=tl s a) (x:=s[a+D]'h1) (by rw [hD];exact qd4 h1)
   have hG:GG=match whoL (names.take 64) (ofL ((tl s a).take D)) with | none=>.bad (s.size-a) 6 | some v=>.ok v (tl s (a+D)):=by
    rw [<- hGG.out];unfold namG;rw [hn1,if_neg (by omega),qaq,qbi]
    rfl
   have hex:s.extract a (a+D)=ofL ((tl s a).take D):=qkh s a D;have HEX:=Hd hex;have HDI:=Hd hDi;have HDO:=Hd hDo;have hy2:=Hd hy;have HGG:=Hd hG;have HDL:=Hd hDl;have HD0:=Hd hD0;have hbd:Below w.heap.size w w.drew:=brf.drew;have hR0:=Hd (show RdA w.drew g s mb a 0 0 from h);have hF0:=Hd (show Fg g w w.drew from Fr.below hbd);clear h hT hdy hbd0 hy hc hn1 hD hDi hDo hG hex hGG hDl hD0 hbd;go_enter Tryz.func183,Tryz.ntmps183;go_wp2;refine wrx (S:=(fun x=>x=w.drew)) [(0,.q),(1,.q),(2,.q),(3,.q),(4,.q),(5,.q),(6,.q),(7,.q),(8,.q),(9,.q),(10,.q),(11,.q),(12,.q),(13,.q),(14,.q),(15,.q),(16,.q),(17,.q),(18,.q),(19,.q),(20,.t),(21,.p),(22,.p)] (rfl) ?_
   iterate 20 (refine qab rfl rfl fun K hK=>xq ?_;go_simp;refine hK _ _ ?_;clear hK K)
   refine qam rfl rfl (fun K hK=>?_);go_simp;refine (CD.out w.drew).mono ?_;rintro e w' ⟨rfl,rfl⟩;dsimp only;refine hK.out _ _ ?_;clear hK K
   iterate 2 (refine qae rfl rfl fun K hK=>xp ?_;go_simp;refine hK _ _ ?_;clear hK K)
   refine qac ?_;go_wp2;refine qak (fun W=>RdA W g s mb a 0 0/\Fg g w W) ⟨hR0.out,hF0.out⟩ ?_;rintro w0 ⟨h0,hf0⟩;clear hR0 hF0 z0 z1 z2 z3 z4 CD hl
   go_loopg [] D (fun m wr=>∃ j:Nat,Hid (j+m=D)/\Hid (RdA wr g s mb (a+j) 0 0)/\Fg g w wr)
   case atStart=>exact ⟨0,by show _=_;omega,h0,hf0⟩
   case round =>
    clear h0 hf0;obtain ⟨j,hj,hR,hfr⟩:=hrel;have hRo:=hR.out;obtain ⟨z0,z1,z2,z3,z4⟩:=cq5 hRo;have hl:=hRo.lt;have f1:=Blk.frozen hRo 1;have hbd1:Below wr.heap.size wr wr.drew:=brf.drew;clear hRo;obtain ⟨p,hp⟩:∃ p,a+j=p:=⟨_,rfl⟩
    rw [hp] at z1 hR;have hpc:((p+1:Nat):Int)=(p:Int)+1:=by omega
    by_cases hjD:j<D
    ·
     obtain ⟨hps,hpd⟩:=HDI.out j hjD;simp only [hp] at hps hpd;obtain ⟨v,hv⟩:∃ v:Nat,(s[p]'hps).toNat=v:=⟨_,rfl⟩
     rw [hv] at hpd;have CL:=qff (v:Int);have CD:=qcr (v:Int);replace hp:=Hd hp;have hR3:=Hd ((show RdA wr.drew g s mb p 0 0 from hR.out).set1 (p+1));have hF3:=Hd ((hfr.trans (Fr.below hbd1)).setc (g:=g) (i:=1) (u:=.int .i64 ((p+1:Nat):Int)) (.inl rfl));unfold RdA at hR3;rw [hpc] at hR3 hF3;obtain ⟨bl,hbl⟩:∃ b,letV (v:Int)=b:=⟨_,rfl⟩
     obtain ⟨bd,hbd⟩:∃ b,digV (v:Int)=b:=⟨_,rfl⟩
     simp only [hbl] at CL;simp only [hbd] at CD;rw [hbl,hbd] at hpd;replace CL:=Hd CL;replace CD:=Hd CD;replace hbl:=Hd hbl;replace hbd:=Hd hbd;clear hR hfr hbd1
     cases bl
     ·
      have hbt:bd=true:=by simpa using hpd
      subst hbt;clear hpd;go_wp2;refine wrx (S:=(fun x=>x=wr.drew)) [(0,.q),(1,.q),(2,.q),(3,.q),(4,.q),(5,.q),(6,.q),(7,.q),(8,.q),(9,.q),(10,.q),(11,.q),(12,.q),(13,.q),(14,.q),(15,.q),(16,.q),(17,.q),(18,.q),(19,.q),(20,.l),(21,.q),(22,.q),(23,.q),(24,.q),(25,.q),(26,.q),(27,.q),(28,.q),(29,.q),(30,.q),(31,.t),(32,.p),(33,.p)] (rfl) ?_
      iterate 20 (refine qab rfl rfl fun K hK=>xq ?_;go_simp;refine hK _ _ ?_;clear hK K)
      refine qal rfl rfl (fun K hK=>?_);go_simp;refine (CL.out wr.drew).mono ?_;rintro e w' ⟨rfl,rfl⟩;dsimp only;refine hK.out _ _ (rfl) (fun _=>?_);clear hK K
      iterate 10 (refine qab rfl rfl fun K hK=>xq ?_;go_simp;refine hK _ _ ?_;clear hK K)
      refine qam rfl rfl (fun K hK=>?_);go_simp;refine (CD.out wr.drew).mono ?_;rintro e w' ⟨rfl,rfl⟩;dsimp only;refine hK.out _ _ ?_;clear hK K
      iterate 2 (refine qae rfl rfl fun K hK=>xp ?_;go_simp;refine hK _ _ ?_;clear hK K)
      exact zz41
     ·
      clear hpd;go_wp2;refine wrx (S:=(fun x=>x=wr.drew)) [(0,.q),(1,.q),(2,.q),(3,.q),(4,.q),(5,.q),(6,.q),(7,.q),(8,.q),(9,.q),(10,.q),(11,.q),(12,.q),(13,.q),(14,.q),(15,.q),(16,.q),(17,.q),(18,.q),(19,.q),(20,.l),(21,.q),(22,.q),(23,.q),(24,.q),(25,.q),(26,.q),(27,.q),(28,.q),(29,.q),(30,.q),(31,.t),(32,.p),(33,.p)] (rfl) ?_
      iterate 20 (refine qab rfl rfl fun K hK=>xq ?_;go_simp;refine hK _ _ ?_;clear hK K)
      refine qal rfl rfl (fun K hK=>?_);go_simp;refine (CL.out wr.drew).mono ?_;rintro e w' ⟨rfl,rfl⟩;dsimp only;refine hK.out _ _ (rfl) (fun _=>?_);clear hK K
      iterate 1 (refine qab rfl rfl fun K hK=>xq ?_;go_simp;refine hK _ _ ?_;clear hK K)
      iterate 10 (refine qar rfl rfl (fun K hK=>?_);go_simp;refine hK _ _ ?_;clear hK K)
      iterate 2 (refine qae rfl rfl fun K hK=>xp ?_;go_simp;refine hK _ _ ?_;clear hK K)
      exact zz41
    ·
     have hjD2:j=D:=by have:=hj.out;omega
     subst hjD2;have hex2:=HEX.out;rw [hp] at hex2;have HWHO:Hid (whoL (names.take 64) (ofL ((tl s a).take j))=whoL (names.take 64) (ofL ((tl s a).take j))):=Hd rfl;obtain ⟨t,ht⟩:∃ t,ofL ((tl s a).take j)=t:=⟨_,rfl⟩
     rw [ht] at hex2 HGG;have htz:t.size=j:=by
      rw [<- ht];have:((tl s a).take j).length=j:=by rw [List.length_take,qaq];have:=HDL.out;omega
      exact this
     have hps:p<=s.size:=by have:=HDL.out;omega
     have hap:a<=p:=by omega
     have htm:t.size<=maxLen:=by unfold maxLen;omega
     have hR3:RdA wr.drew.drew g s mb p 0 0:=hR.out;have hF3:Fg g w wr.drew.drew:=hfr.trans (Fr.below hbd1.drew);have hlook:=(HM.out wr.drew.drew hF3).look htm;have hw64:=fun v h=>qah4 (l:=names.take 64) (s:=t) (v:=v) h
     obtain ⟨wh,hwh⟩:∃ o,whoL (names.take 64) t=o:=⟨_,rfl⟩
     rw [hwh] at hlook HGG;rw [hwh] at hw64;have CF:=Hd (qdd g mb p s 6 (a:Int) wr.drew.drew hR3);replace hR3:=Hd hR3;replace hF3:=Hd hF3;replace ht:=Hd ht;replace hwh:=Hd hwh;have hp2:=Hd hp;replace htz:=Hd htz;clear hR hfr hbd1 HWHO htm;by_cases hpz:p<s.size
     ·
      have hpd:=HDO.out (by rw [hp];exact hpz);simp only [hp] at hpd;obtain ⟨v,hv⟩:∃ v:Nat,(s[p]'hpz).toNat=v:=⟨_,rfl⟩
      rw [hv,Bool.or_eq_false_iff] at hpd;have CL:=qff (v:Int);have CD:=qcr (v:Int);rw [hpd.1] at CL;rw [hpd.2] at CD;replace CL:=Hd CL;replace CD:=Hd CD;clear hpd hp;go_wp2;refine wrx (S:=(fun x=>x=wr.drew)) [(0,.q),(1,.q),(2,.q),(3,.q),(4,.q),(5,.q),(6,.q),(7,.q),(8,.q),(9,.q),(10,.q),(11,.q),(12,.q),(13,.q),(14,.q),(15,.q),(16,.q),(17,.q),(18,.q),(19,.q),(20,.l),(21,.q),(22,.q),(23,.q),(24,.q),(25,.q),(26,.q),(27,.q),(28,.q),(29,.q),(30,.q),(31,.t),(32,.p),(33,.p)] (rfl) ?_
      iterate 20 (refine qab rfl rfl fun K hK=>xq ?_;go_simp;refine hK _ _ ?_;clear hK K)
      refine qal rfl rfl (fun K hK=>?_);go_simp;refine (CL.out wr.drew).mono ?_;rintro e w' ⟨rfl,rfl⟩;dsimp only;refine hK.out _ _ (rfl) (fun _=>?_);clear hK K
      iterate 10 (refine qab rfl rfl fun K hK=>xq ?_;go_simp;refine hK _ _ ?_;clear hK K)
      refine qam rfl rfl (fun K hK=>?_);go_simp;refine (CD.out wr.drew).mono ?_;rintro e w' ⟨rfl,rfl⟩;dsimp only;refine hK.out _ _ ?_;clear hK K
      iterate 2 (refine qae rfl rfl fun K hK=>xp ?_;go_simp;refine hK _ _ ?_;clear hK K)
      refine qac ?_
      cases wh with
      | none =>
       have hGe:GG=.bad (s.size-a) 6:=HGG.out;replace hGe:=Hd hGe;go_wp2;refine wrx (S:=(fun x=>x=wr.drew.drew)) [(0,.q),(1,.q),(2,.q),(3,.q),(4,.q),(5,.q),(6,.q),(7,.q),(8,.q),(9,.q),(10,.q),(11,.q),(12,.q),(13,.q),(14,.q),(15,.p),(16,.p),(17,.p),(18,.p),(19,.p)] (rfl) ?_
       iterate 15 (refine qab rfl rfl fun K hK=>xq ?_;go_simp;refine hK _ _ ?_;clear hK K)
       iterate 5 (refine qae rfl rfl fun K hK=>xp ?_;go_simp;refine hK _ _ ?_;clear hK K)
       refine qac ?_;go_wp2_with fail;refine CF.out.mono ?_;rintro e w1 ⟨rfl,h1,hf⟩;go_wp2;go_ret;exact ⟨0,rfl,by decide,fun v r e=>(by cases hGe.out.symm.trans e),by rw [hGe.out];exact ⟨p,hps,by omega,by decide,by rw [show s.size-(s.size-a)=a by omega];exact h1⟩,hF3.out.trans hf⟩
      | some u =>
       have hGe:GG=.ok u (tl s (a+j)):=HGG.out;have hu64:=hw64 u rfl;replace hGe:=Hd hGe;replace hu64:=Hd hu64;go_wp2;refine wrx (S:=(fun x=>x=wr.drew.drew)) [(0,.q),(1,.q),(2,.q),(3,.q),(4,.q),(5,.q),(6,.q),(7,.q),(8,.q),(9,.q),(10,.q),(11,.q),(12,.q),(13,.q),(14,.q),(15,.p),(16,.p),(17,.p),(18,.p),(19,.p)] (rfl) ?_
       iterate 15 (refine qab rfl rfl fun K hK=>xq ?_;go_simp;refine hK _ _ ?_;clear hK K)
       iterate 5 (refine qae rfl rfl fun K hK=>xp ?_;go_simp;refine hK _ _ ?_;clear hK K)
       refine qac ?_;go_wp2;go_ret;exact ⟨u,rfl,by have:=hu64.out;rw [List.length_take] at this;omega,fun v r e=>(by injection hGe.out.symm.trans e),by rw [hGe.out];exact ⟨p,hps,by rw [show a+j=p by have:=hp2.out;omega],hR3.out⟩,hF3.out⟩
     ·
      clear hp;go_wp2;refine wrx (S:=(fun x=>x=wr.drew)) [(0,.q),(1,.q),(2,.q),(3,.q),(4,.q),(5,.q),(6,.q),(7,.q),(8,.q),(9,.q),(10,.q),(11,.q),(12,.q),(13,.q),(14,.q),(15,.q),(16,.q),(17,.q),(18,.q),(19,.q),(20,.l),(21,.q),(22,.q),(23,.q),(24,.q),(25,.q),(26,.q),(27,.q),(28,.q),(29,.q),(30,.q),(31,.t),(32,.p),(33,.p)] (rfl) ?_
      iterate 11 (refine qab rfl rfl fun K hK=>xq ?_;go_simp;refine hK _ _ ?_;clear hK K)
      iterate 22 (refine qar rfl rfl (fun K hK=>?_);go_simp;refine hK _ _ ?_;clear hK K)
      iterate 1 (refine qae rfl rfl fun K hK=>xp ?_;go_simp;refine hK _ _ ?_;clear hK K)
      refine qac ?_
      cases wh with
      | none =>
       have hGe:GG=.bad (s.size-a) 6:=HGG.out;replace hGe:=Hd hGe;go_wp2;refine wrx (S:=(fun x=>x=wr.drew.drew)) [(0,.q),(1,.q),(2,.q),(3,.q),(4,.q),(5,.q),(6,.q),(7,.q),(8,.q),(9,.q),(10,.q),(11,.q),(12,.q),(13,.q),(14,.q),(15,.p),(16,.p),(17,.p),(18,.p),(19,.p)] (rfl) ?_
       iterate 15 (refine qab rfl rfl fun K hK=>xq ?_;go_simp;refine hK _ _ ?_;clear hK K)
       iterate 5 (refine qae rfl rfl fun K hK=>xp ?_;go_simp;refine hK _ _ ?_;clear hK K)
       refine qac ?_;go_wp2_with fail;refine CF.out.mono ?_;rintro e w1 ⟨rfl,h1,hf⟩;go_wp2;go_ret;exact ⟨0,rfl,by decide,fun v r e=>(by cases hGe.out.symm.trans e),by rw [hGe.out];exact ⟨p,hps,by omega,by decide,by rw [show s.size-(s.size-a)=a by omega];exact h1⟩,hF3.out.trans hf⟩
      | some u =>
       have hGe:GG=.ok u (tl s (a+j)):=HGG.out;have hu64:=hw64 u rfl;replace hGe:=Hd hGe;replace hu64:=Hd hu64;go_wp2;refine wrx (S:=(fun x=>x=wr.drew.drew)) [(0,.q),(1,.q),(2,.q),(3,.q),(4,.q),(5,.q),(6,.q),(7,.q),(8,.q),(9,.q),(10,.q),(11,.q),(12,.q),(13,.q),(14,.q),(15,.p),(16,.p),(17,.p),(18,.p),(19,.p)] (rfl) ?_
       iterate 15 (refine qab rfl rfl fun K hK=>xq ?_;go_simp;refine hK _ _ ?_;clear hK K)
       iterate 5 (refine qae rfl rfl fun K hK=>xp ?_;go_simp;refine hK _ _ ?_;clear hK K)
       refine qac ?_;go_wp2;go_ret;exact ⟨u,rfl,by have:=hu64.out;rw [List.length_take] at this;omega,fun v r e=>(by injection hGe.out.symm.trans e),by rw [hGe.out];exact ⟨p,hps,by rw [show a+j=p by have:=hp2.out;omega],hR3.out⟩,hF3.out⟩
 ·
  have hae:a=s.size:=by omega
  have hb:((a:Int)==(s.size:Int))=true:=by rw [beq_iff_eq];omega
  have hL:namG names (tl s a)=lost (tl s a):=by unfold namG;rw [if_pos (by rw [qbn (by omega)];rfl)]
  replace hae:=Hd hae;clear HM;have hGe:GG=lost (tl s a):=hGG.out.symm.trans hL;have CR:=Hd (fun W (hW:Below w.heap.size w W)=>qet g mb a s W (h.below hW) ha hs);have hbd:Below w.heap.size w w.drew:=brf.drew;replace hGe:=Hd hGe;clear h hL;go_enter Tryz.func183,Tryz.ntmps183;go_wp2;refine wrx (S:=(fun x=>x=w.drew)) [(0,.q),(1,.q),(2,.q),(3,.q),(4,.q),(5,.q),(6,.q),(7,.q),(8,.q),(9,.q),(10,.q),(11,.q),(12,.q),(13,.q),(14,.q),(15,.q),(16,.q),(17,.q),(18,.q),(19,.q),(20,.t),(21,.p),(22,.p)] (rfl) ?_
  iterate 11 (refine qab rfl rfl fun K hK=>xq ?_;go_simp;refine hK _ _ ?_;clear hK K)
  iterate 11 (refine qar rfl rfl (fun K hK=>?_);go_simp;refine hK _ _ ?_;clear hK K)
  iterate 1 (refine qae rfl rfl fun K hK=>xp ?_;go_simp;refine hK _ _ ?_;clear hK K)
  exact zz40
def expG (l:List UInt8):Got Nat:=(numG l).bnd fun d r=>if 1048576<decL d then .bad l.length 4 else .ok (decL d) r
theorem zz42 {P:Prop} (h:P:=by
 go_wp2_with fail;refine (CF.out w2 hb2).mono ?_;rintro e w3 ⟨rfl,h3,hf3⟩;go_wp2;go_ret;exact ⟨0,rfl,by omega,fun v r e=>(by cases hG1.out.symm.trans e),by rw [hG1.out];exact ⟨p,hp,by omega,by decide,by rw [show s.size-(s.size-a)=a by omega];exact h3⟩,(hf.call hb2).trans hf3⟩
 ):P:=h
theorem qq9 (g mb a:Nat) (s:ByteArray) (w:World) (h:RdA w g s mb a 0 0) (ha:a<=s.size) (hs:s.size<=281474976710656) (he:ErrW w) (hne:Tryz.lays172_ren.g 16≠g) :
  Calls Tryz.prog 184 #[.pointer (some ⟨g,0,none⟩)] w fun u w'=>∃ n:Nat,u=.returned (.int .i64 n)/\n<=1048576/\(∀ v r,expG (tl s a)=.ok v r->n=v)/\StG w' g s mb (expG (tl s a))/\Fg g w w':=by
 have CN:=qhw g mb a s w h ha hs;have HE:=Hd (fun W (hW:Fg g w W)=>he.fr hW hne);obtain ⟨GG,hGG⟩:∃ G,expG (tl s a)=G:=⟨_,rfl⟩
 rw [hGG];unfold expG at hGG;rw [qaq] at hGG;have hok:=fun d r (e:numG (tl s a)=.ok d r)=>qgg e
 obtain ⟨NG,hNG⟩:∃ G,numG (tl s a)=G:=⟨_,rfl⟩
 rw [hNG] at CN hGG;rw [hNG] at hok;replace CN:=Hd CN;replace hGG:=Hd hGG;clear h he hNG;go_enter Tryz.func184,Tryz.ntmps184;go_wp2_with fail;refine CN.out.mono ?_;rintro e w1 ⟨t,rfl,ht,hS,hf⟩;clear CN
 cases NG with
 | bad k er =>
  have hGe:=Hd (show GG=.bad k er from hGG.out.symm);obtain ⟨p,hp,hk,h0,hR⟩:=hS;obtain ⟨z0,z1,z2,z3,z4⟩:=cq5 hR;have hl:=hR.lt;have hz:(er != 0)=true:=by simpa using h0
  have hR2:=Hd hR;clear hR ht hok hGG;replace h0:=Hd h0;go_wp2;go_ret;exact ⟨0,rfl,by omega,fun v r e=>(by cases hGe.out.symm.trans e),by rw [hGe.out];exact ⟨p,hp,hk,h0.out,hR2.out⟩,hf⟩
 | ok d r =>
  have htd:=ht d r rfl;subst htd;obtain ⟨o1,o2,o3,_⟩:=hok d r rfl;obtain ⟨p,hp,hr,hR⟩:=hS;have hG1:GG=if 1048576<decL d then .bad (s.size-a) 4 else .ok (decL d) r:=hGG.out.symm
  have hdl:(ofL d).data.toList=d:=qed d;have hds:(ofL d).size<=1000:=o2;have hne0:(ofL d).data.toList≠[]:=by rw [hdl];intro e;rw [e] at o1;cases o1
  have hdd:∀ c∈(ofL d).data.toList,digU c=true:=by rw [hdl];exact o3
  have hdec:decL (ofL d).data.toList=decL d:=by rw [hdl]
  obtain ⟨n,hn⟩:∃ n,decL d=n:=⟨_,rfl⟩
  rw [hn] at hG1 hdec;have HR:=Hd (fun W (hW:Below w1.heap.size w1 W)=>hR.below hW);obtain ⟨z0,z1,z2,z3,z4⟩:=cq5 hR;have hl:=hR.lt;by_cases hsm:n<9223372036854775808
  ·
   have CA:=Hd (qun (ofL d) n w1 hne0 hdd hds hdec hsm);have CF:=Hd (fun W (hW:Below w1.heap.size w1 W)=>qdd g mb p s 4 (a:Int) W (HR.out W hW));replace hr:=Hd hr;clear hn hok hGG ht hR hne0 hdd hdl hds hdec o1 o2 o3;go_wp2_with fail;refine CA.out.mono ?_;rintro e w2 ⟨rfl,hb2⟩;clear z0 z1 z2 z3 z4 CA;by_cases hbig:1048576<n
   ·
    have hbc:decide ((1048576:Int)<(n:Int))=true:=by rw [decide_eq_true_eq];omega
    rw [if_pos hbig] at hG1;replace hG1:=Hd hG1;exact zz42
   ·
    have hbc:decide ((1048576:Int)<(n:Int))=false:=by rw [decide_eq_false_iff_not];omega
    rw [if_neg hbig] at hG1;replace hG1:=Hd hG1;go_wp2;go_ret;exact ⟨n,rfl,by omega,fun v r e=>(by injection hG1.out.symm.trans e),by rw [hG1.out];exact ⟨p,hp,hr.out,HR.out w2 hb2⟩,hf.call hb2⟩
  ·
   have CA:=Hd (qva (ofL d) w1 hne0 hdd hds (by rw [hdec];omega) (HE.out w1 hf));have CF:=Hd (fun W (hW:Below w1.heap.size w1 W)=>qdd g mb p s 4 (a:Int) W (HR.out W hW));rw [if_pos (by omega)] at hG1;replace hr:=Hd hr;replace hG1:=Hd hG1;clear hn hok hGG ht hR hne0 hdd hdl hds hdec o1 o2 o3;go_wp2_with fail;refine CA.out.mono ?_;rintro e w2 ⟨x,t2,q,rfl,hb2⟩;clear z0 z1 z2 z3 z4 CA;exact zz42
def RowZ (w:World) (g:Nat) (l:List Int):Prop:=Blk w g 3 (l.map (Value.int .i64)).toArray
section
variable {w w' : World} {g : Nat} {l : List Int}
theorem RowZ.lt (h:RowZ w g l):g<w.heap.size:=Blk.lt h
theorem RowZ.cell (h:RowZ w g l) {i:Nat} {x:Int} (hx:l[i]? = some x):w.cell? ⟨g,i,none⟩=some (.int .i64 x):=by
 rw [Blk.cell h i];simp [hx]
theorem RowZ.frozen (h:RowZ w g l) (i:Nat):w.frozen? ⟨g,i,none⟩=false:=Blk.frozen h i
theorem RowZ.set_ (h:RowZ w g l) (i:Nat) (x:Int):RowZ (w.setCell ⟨g,i,none⟩ (.int .i64 x)) g (l.set i x):=by
 have:=Blk.set_ h i (.int .i64 x);unfold RowZ;rw [List.setIfInBounds_toArray,<- List.map_set] at this;exact this
theorem RowZ.below (h:RowZ w g l) (hb:Below w.heap.size w w'):RowZ w' g l:=Blk.below' h hb
end
theorem infoZ:(Tryz.prog.info? 3).map (fun i=>(i.zero,i.size,i.bytes))=some (some (.int .i64 0),1,8):=by kernel_rfl
theorem qxy (n:Nat):madeCells #[.int .i64 0] n=((List.replicate n (0:Int)).map (Value.int .i64)).toArray:=by
 apply Array.ext
 · simp [madeCells]
 ·
  intro i h1 h2;simp [madeCells,Nat.mod_one]
theorem qaf1 (ts:TypeId) (hu:Tryz.prog.underlying ts=some (.slice 3)) (n:Nat) (hn:n<=1000000) (w:World) :
  (Instr.makeSlice ts (.int .i64 (n:Int)) (.int .i64 (n:Int))).run Tryz.prog w=.ok (.slice (some ⟨w.heap.size,0,none⟩) n n) (w.alloc (.cells (((List.replicate n (0:Int)).map (Value.int .i64)).toArray) 3)):=by
 obtain ⟨i,hi,hz,hsz,hby⟩:=info_parts infoZ;have:=run_makeSlice (w:=w) ts 3 i _ hu hi hz .i64 .i64 n n (by omega) (by omega) (by rw [hsz];simp;omega) (by rw [hby];omega) (by omega);rw [hsz] at this;simp only [Int.toNat_natCast,Nat.mul_one,Value.cells] at this;rw [qxy] at this;exact this
def RetMo (m:List Int) (w:World) (e:Ending) (w':World):Prop:=∃ a c,e=.returned (.slice a m.length c)/\Kp (fun V=>IntsR V a c m) w.heap.size w'.heap.size w'/\Below w.heap.size w w'
theorem qag6 {w:World} {a:Option Addr} {c:Nat} {l:List Int} (h:IntsR w a c l) {k:Nat} {x:Int} (hx:l[k]? = some x):∃ b off,a=some ⟨b,off,none⟩/\w.cell? ⟨b,off+k,none⟩=some (.int .i64 x):=by
 obtain ⟨b,off,ha,hc⟩:=h.2.2 k x hx;exact ⟨b,off,ha,by simpa using hc.1⟩
theorem OwnI.newZ {B:Nat} {w V:World} {a:Option Addr} {c:Nat} {l:List Int} (h:OwnI B w a c l) (hV:New B w V) (hs:∀ x∈l,InInt x):IntsR V a c l:=by
 have:=Own.readsIn (E:=IntE .i64) (β:=Int) id qe3 h hV (fun b o x hx hc=>⟨by simpa using hc 0 _ rfl,wf_of (hs x hx)⟩)
 rwa [List.map_id] at this
theorem qbd {α β:Type} {g:Got α} {f:α->List UInt8->Got β} {y:β} {r:List UInt8} (h:g.bnd f=.ok y r):∃ x s,g=.ok x s/\f x s=.ok y r:=by
 cases g with
 | ok x s=>exact ⟨x,s,rfl,h⟩
 | bad k e=>cases h
theorem qac3 {names:List ByteArray} {l r:List UInt8} {p:Nat × Int} (h:powG names l=.ok p r):0<=p.2:=by
 unfold powG at h;obtain ⟨v,s,_,h⟩:=qbd h
 split at h
 ·
  obtain ⟨d,s2,_,h⟩:=qbd h
  split at h
  · cases h
  · injection h with h _;rw [<- h];exact Int.natCast_nonneg _
 · injection h with h _;rw [<- h];exact (by decide:(0:Int)<=1)
def InM (m:List Int):Prop:=m.length=64/\∀ x∈m,0<=x/\x<=1048576
theorem qso {names:List ByteArray} {F:Nat}:∀ {n:Nat} {m m':List Int} {l r:List UInt8},InM m->proG names F n m l=.ok m' r->InM m'
 | 0,_,_,_,_,_,h=>by rw [proG] at h;cases h
 | n+1,m,m',l,r,hm,h=>by
  rw [proG] at h;obtain ⟨p,s,hp,h⟩:=qbd h;have h0:=qac3 hp
  split at h
  · cases h
  ·
   next hle =>
   have hput:InM (putM m p):=by
    refine ⟨by rw [qaa6];exact hm.1,fun x hx=>?_⟩;unfold putM at hx;rcases List.mem_or_eq_of_mem_set hx with hx | hx
    · exact hm.2 x hx
    ·
     have:=(qlj hm.2 p.1).1
     omega
   split at h
   · exact qso hput h
   · injection h with h _;rw [<- h];exact hput
theorem qs4 {m:List Int} (h:InM m):Mok 1048576 (cutM m):=by
 obtain ⟨z,h1,_,h3⟩:=qf9 m;refine ⟨fun x hx=>h.2 x ?_,h3,?_⟩
 · rw [h1];exact List.mem_append_left _ hx
 · have:=congrArg List.length h1;rw [List.length_append,h.1] at this;omega
theorem qmr:InM zerM:=by
 refine ⟨by simp [zerM],fun x hx=>?_⟩;unfold zerM at hx;have:=List.eq_of_mem_replicate hx;subst this;decide
theorem qsx {names:List ByteArray} {F:Nat} {q:Rat} {l r:List UInt8} {t:Rat × List Int} (h:monG names F q l=.ok t r):Mok 1048576 t.2:=by
 unfold monG at h;obtain ⟨m,s,hm,h⟩:=qbd h;injection h with h _
 rw [<- h];exact qs4 (qso qmr hm)
theorem qag9 {names:List ByteArray} {l r:List UInt8} {t:Rat × List Int} (h:terG names l=.ok t r):Mok 1048576 t.2:=by
 unfold terG at h
 split at h
 · exact qsx h
 ·
  obtain ⟨q,s,_,h⟩:=qbd h
  split at h
  · exact qsx h
  · injection h with h _;rw [<- h];exact Mok.nil _
theorem qmw {names:List ByteArray}:∀ {f:Nat} {neg:Bool} {acc L:List (Rat × List Int)} {l r:List UInt8},(∀ t∈acc,Mok 1048576 t.2)->sumG names f neg acc l=.ok L r->r=[]/\∀ t∈L,Mok 1048576 t.2
 | 0,_,_,_,_,_,_,h=>by rw [sumG] at h;cases h
 | f+1,neg,acc,L,l,r,ha,h=>by
  rw [sumG] at h
  split at h
  · cases h
  ·
   next h4 =>
   obtain ⟨t,s,ht,h⟩:=qbd h;have hacc:∀ u∈acc++[sgnT neg t],Mok 1048576 u.2:=fun u hu=>by
    rcases List.mem_append.1 hu with hu | hu
    · exact ha u hu
    · rw [List.mem_singleton] at hu;subst hu;show Mok 1048576 t.2;exact qag9 ht
   split at h
   ·
    next hs =>
    injection h with h1 h2
    subst h1 h2;exact ⟨List.length_eq_zero_iff.1 hs,hacc⟩
   ·
    obtain ⟨ng,s',_,h⟩:=qbd h;exact qmw hacc h
theorem qh3 {names:List ByteArray} {l r:List UInt8} {L:List (Rat × List Int)} (h:reaG names l=.ok L r):r=[]/\∀ t∈L,Mok 1048576 t.2:=by
 unfold reaG at h
 split at h
 · exact qmw (fun t ht=>by cases ht) h
 · exact qmw (fun t ht=>by cases ht) h
theorem qzi {names:List ByteArray} {l r:List UInt8} {p:List Tm} (h:readP names l=.ok p r):r=[]/\Pok 1048576 p:=by
 unfold readP at h;obtain ⟨L,s,hL,h⟩:=qbd h;obtain ⟨h1,h2⟩:=qh3 hL;injection h with a b
 subst a b;exact ⟨h1,(qix h2).1⟩
theorem qte {names:List ByteArray} {s:List UInt8} {p:List Tm} {e:Int} (h:polC names s=(some p,e)):e=0/\qdf names p=(s,0)/\Pok 1048576 p:=by
 obtain ⟨h1,h2,r,h3⟩:=qng h;exact ⟨h1,h2,(qzi h3).2⟩
def CrOk (names:List ByteArray) (c:CrQ):Prop:=(1<=c.n/\c.n<=64)/\c.P.length=c.F.length/\(∀ x∈c.P,0<=x/\x<=64)/\(∀ p∈c.F,p≠[]/\Pok 1048576 p/\(qdf names p).2=0)/\∀ p∈c.C,Pok 1048576 p/\(qdf names p).2=0
def headQ (names:List ByteArray) (c:CrQ):List UInt8:=qfl++32 :: (textN c.n.toNat++[10])++((List.zip c.P c.F).flatMap fun x=>lnFQ x.1 (qdf names x.2).1++[10])++(c.C.flatMap fun p=>lnCQ (qdf names p).1++[10])
theorem qvs {names:List ByteArray} {t:List UInt8} {c:CrQ} (h:qc3 t=some c):CrOk names c/\headQ names c=t++[10]:=by
 unfold qc3 at h
 split at h
 ·
  next w r hc =>
  obtain ⟨g1,_⟩:=qa9 32 t w r hc
  split at h
  ·
   next hw =>
   cases hn:numC 1 r with
   | none=>rw [hn] at h;cases h
   | some n =>
    rw [hn] at h;obtain ⟨k1,k2,k3⟩:=qcv hn;have e:(⟨[],[],n,[]⟩:CrQ)=c:=by injection h
    subst e;refine ⟨⟨⟨by simp;omega,by simp;omega⟩,rfl,(fun x hx=>by cases hx),(fun x hx=>by cases hx),(fun x hx=>by cases hx)⟩,?_⟩;unfold headQ;simp [g1,hw,k3]
  · cases h
 · cases h
theorem qy0 {names:List ByteArray} {t:List UInt8} {c c':CrQ} {e:Int} (hc:CrOk names c) (h:lineQ names c t=(some c',e)):CrOk names c'/\headQ names c'=headQ names c++(t++[10]):=by
 obtain ⟨o1,o2,o3,o4,o5⟩:=hc;unfold lineQ at h
 split at h
 · cases h
 ·
  next w r hcut =>
  obtain ⟨g1,_⟩:=qa9 32 t w r hcut
  split at h
  ·
   next hw =>
   split at h
   ·
    next p _ hp =>
    have e1:{ c with C:=c.C++[p] }=c':=by injection h with h _;injection h
    obtain ⟨_,k2,k3⟩:=qte hp;subst e1;refine ⟨⟨o1,o2,o3,o4,fun q hq=>?_⟩,?_⟩
    ·
     rcases List.mem_append.1 hq with hq | hq
     · exact o5 q hq
     · rw [List.mem_singleton] at hq;subst hq;exact ⟨k3,by rw [k2]⟩
    ·
     unfold headQ;simp [g1,hw,k2,lnCQ]
   · cases h
  ·
   split at h
   ·
    next hw =>
    split at h
    · cases h
    ·
     next d x hcut2 =>
     obtain ⟨g2,_⟩:=qa9 32 r d x hcut2
     split at h
     · cases h
     ·
      next k hk =>
      obtain ⟨_,n2,n3⟩:=qcv hk
      split at h
      ·
       next hC =>
       split at h
       ·
        next p _ hp =>
        split at h
        · cases h
        ·
         next hne =>
         have e1:{ c with F:=c.F++[p],P:=c.P++[(k:Int)] }=c':=by injection h with h _;injection h
         obtain ⟨_,k2,k3⟩:=qte hp;subst e1;refine ⟨⟨o1,by simp [o2],fun y hy=>?_,fun q hq=>?_,o5⟩,?_⟩
         ·
          rcases List.mem_append.1 hy with hy | hy
          · exact o3 y hy
          · rw [List.mem_singleton] at hy;subst hy;omega
         ·
          rcases List.mem_append.1 hq with hq | hq
          · exact o4 q hq
          · rw [List.mem_singleton] at hq;subst hq;exact ⟨hne,k3,by rw [k2]⟩
         ·
          unfold headQ;dsimp only;rw [List.zip_append o2,hC];simp [g1,g2,hw,k2,lnFQ,n3]
       · cases h
      · cases h
   · cases h
theorem qpo {names:List ByteArray} {s:List UInt8} {e:Int} (h:polC names s=(none,e)):e≠0:=by
 unfold polC at h
 split at h
 ·
  split at h
  ·
   next k e' hr =>
   have e1:e'=e:=by injection h
   subst e1;unfold readP at hr;refine (Fine.bnd (N:=s.length) (qvw names s) (fun x r _=>Fine.okk _ _ _) k e' hr).2.2.2
  ·
   split at h
   · cases h
   ·
    have e1:(9:Int)=e:=by injection h
    subst e1;decide
 ·
  next h0 =>
  have e1:errNm names=e:=by injection h
  subst e1;exact h0
theorem qwx {names:List ByteArray} {t:List UInt8} {c:CrQ} {e:Int} (h:lineQ names c t=(none,e)):e≠0:=by
 have h9:∀ {e:Int},((none:Option CrQ),(9:Int))=(none,e)->e≠0:=fun h=>by
  injection h with _ h;subst h;decide
 unfold lineQ at h
 split at h
 · exact h9 h
 ·
  split at h
  ·
   split at h
   · cases h
   ·
    next e' hp =>
    have e1:e'=e:=by injection h
    subst e1;exact qpo hp
  ·
   split at h
   ·
    split at h
    · exact h9 h
    ·
     split at h
     · exact h9 h
     ·
      split at h
      ·
       split at h
       ·
        split at h
        ·
         have e1:(3:Int)=e:=by injection h
         subst e1;decide
        · cases h
       ·
        next e' hp =>
        have e1:e'=e:=by injection h
        subst e1;exact qpo hp
      · exact h9 h
   · exact h9 h
theorem qqb {names:List ByteArray}:∀ {f n:Nat} {c c':CrQ} {s:List UInt8} {k:Nat},s.length<f->0<n->CrOk names c->restQ names f n c s=(c',k,0)->k=0/\CrOk names c'/\headQ names c'++(wEnd++[10])=headQ names c++s
 | f+1,n,c,c',s,k,hf,hn,hc,h=>by
  rw [restQ] at h
  split at h
  · cases h
  ·
   next t r hcut =>
   obtain ⟨g1,_⟩:=qa9 10 s t r hcut
   split at h
   ·
    next ht =>
    split at h
    ·
     next hr =>
     have e1:c=c'/\0=k:=by injection h with a b;injection b with b _;exact ⟨a,b⟩
     obtain ⟨rfl,rfl⟩:=e1;exact ⟨rfl,hc,by rw [g1,ht,hr]⟩
    · split at h <;> cases h
   ·
    split at h
    ·
     next c2 _ hl =>
     obtain ⟨k1,k2⟩:=qy0 hc hl;have hlen:r.length<f:=by rw [g1] at hf;simp at hf;omega
     obtain ⟨m1,m2,m3⟩:=qqb hlen (by omega) k1 h;refine ⟨m1,m2,?_⟩;rw [m3,k2,g1];simp
    ·
     next e hl =>
     have e1:e=0:=by injection h with _ b;injection b
     exact (qwx hl e1).elim
 | 0,_,_,_,_,_,h,_,_,_=>by omega
theorem qio {names:List ByteArray} {s:List UInt8} {c:CrQ} {k:Nat} (h:readQ names s=(c,k,0)):k=0/\CrOk names c/\headQ names c++(wEnd++[10])=s:=by
 unfold readQ at h
 split at h
 · cases h
 ·
  next t r hcut =>
  obtain ⟨g1,_⟩:=qa9 10 s t r hcut
  split at h
  · cases h
  ·
   next c1 hf =>
   obtain ⟨k1,k2⟩:=qvs (names:=names) hf;obtain ⟨m1,m2,m3⟩:=qqb (Nat.lt_succ_self _) (by decide) k1 h;refine ⟨m1,m2,?_⟩;rw [m3,k2,g1];simp
theorem qn4 {names:List ByteArray}:∀ {f n:Nat} {c c':CrQ} {s:List UInt8} {k:Nat} {e:Int},s.length<f->0<n->restQ names f n c s=(c',k,e)->e≠0->c'=noQ/\0<k
 | f+1,n,c,c',s,k,e,hf,hn,h,he=>by
  rw [restQ] at h
  split at h
  · injection h with a b;injection b with b _;subst a b;exact ⟨rfl,hn⟩
  ·
   next t r hcut =>
   obtain ⟨g1,_⟩:=qa9 10 s t r hcut
   split at h
   ·
    split at h
    · injection h with _ b;injection b with _ b;exact (he b.symm).elim
    ·
     split at h
     · injection h with a b;injection b with b _;subst a b;exact ⟨rfl,by omega⟩
     · injection h with a b;injection b with b _;subst a b;exact ⟨rfl,by omega⟩
   ·
    split at h
    · exact qn4 (by rw [g1] at hf;simp at hf;omega) (by omega) h he
    · injection h with a b;injection b with b _;subst a b;exact ⟨rfl,hn⟩
 | 0,_,_,_,_,_,_,h,_,_,_=>by omega
theorem qx0 {names:List ByteArray} {s:List UInt8} {c:CrQ} {k:Nat} {e:Int} (h:readQ names s=(c,k,e)) (he:e≠0):c=noQ/\0<k:=by
 unfold readQ at h
 split at h
 · injection h with a b;injection b with b _;subst a b;exact ⟨rfl,by decide⟩
 ·
  split at h
  · injection h with a b;injection b with b _;subst a b;exact ⟨rfl,by decide⟩
  · exact qn4 (Nat.lt_succ_self _) (by decide) h he
theorem qyg (l:List Int) (x:Int):cutM (l++[x])=if x=0 then cutM l else l++[x]:=by
 unfold cutM;rw [List.reverse_append];simp only [List.reverse_cons,List.reverse_nil,List.nil_append,List.singleton_append,List.dropWhile_cons];by_cases h:x=0
 · rw [if_pos (by simpa using h),if_pos h]
 ·
  rw [if_neg (by simpa using h),if_neg h];simp
theorem qnn {l:List Int} {n:Nat} {x:Int} (h:l[n]? = some x):cutM (l.take (n+1))=if x=0 then cutM (l.take n) else l.take (n+1):=by
 rw [qbc h,qyg]
theorem qxr (a:Option Addr) (m c n:Nat) (hn:n<=c) (w:World) :
  (Instr.slice 79 (.slice a m c) none (some (.int .i64 (n:Int))) (some (.int .i64 (n:Int)))).run Tryz.prog w=.ok (.slice a n n) w:=by
 obtain ⟨d,hd,hz,hsz,hby⟩:=info_parts infoZ;have hu:=Tryz.underlying79;have he:Tryz.prog.elem 79=3:=by unfold Program.elem;rw [hu]
 have:=run_slice_hm (P:=Tryz.prog) (w:=w) 79 a m c (by rw [hu,he]) .i64 .i64 n n (by omega) (by omega) (by omega);rw [this,he];simp [sizeOf,typeInfo,hd,hsz,sliced];intro _
 cases a with
 | none=>rfl
 | some g=>rfl
theorem IntsR.cut {w:World} {a:Option Addr} {c n:Nat} {l:List Int} (h:IntsR w a c l):IntsR w a (l.take n).length (l.take n) :=
 ⟨nlr _,by have h1:=h.1;have h2:=h.2.1;rw [List.length_take];omega,fun k x hx=>by
  rw [List.getElem?_take] at hx
  split at hx
  · exact h.2.2 k x hx
  · cases hx⟩
theorem qxk (l:List Int) (a:Option Addr) (c:Nat) (w:World) (h:IntsR w a c l) (hl:l.length<=1000000) :
  Calls Tryz.prog 152 #[.slice a l.length c] w fun e w'=>∃ a' c',e=.returned (.slice a' (cutM l).length c')/\(∀ V,Ext w V->IntsR V a' c' (cutM l))/\w=w':=by
 have hc:=h.1;have HI:=Hd h;obtain ⟨R,hR⟩:∃ R,cutM l=R:=⟨_,rfl⟩
 rw [hR];replace hR:=Hd hR;clear h;go_enter Tryz.func152,Tryz.ntmps152;go_wp2
 go_loopg [3] l.length (fun g q wr=>q=.int .i64 g/\Hid (g<=l.length)/\Hid (cutM (l.take g)=R)/\w=wr)
 case atStart=>exact ⟨rfl,nlr _,by show _=_;rw [List.take_length];exact hR.out,rfl⟩
 case round =>
  obtain ⟨rfl,hg,hcut,rfl⟩:=hrel
  cases gk with
  | zero =>
   have hR0:R=[]:=by rw [<- hcut.out];rfl
   subst hR0;clear hR hcut;go_wp2;go_ret;exact ⟨none,0,rfl,fun _ _=>SlR.nil,rfl⟩
  | succ n =>
   have hn1:(((n+1:Nat):Int)-1)=(n:Int):=by omega
   have hnc:((n+1:Nat):Int)=(n:Int)+1:=by omega
   have hnl:n<l.length:=by have:=hg.out;omega
   obtain ⟨x,hx⟩:=qad hnl;obtain ⟨b,off,rfl,hcx,hix⟩:=qbx HI.out hx;have hct:=qnn hx;have hpos:(0:Int)<(n:Int)+1:=by omega
   have hne:(((n:Int)+1)==0)=false:=by rw [beq_eq_false_iff_ne];omega
   by_cases h0:x=0
   ·
    have hx0:(x==0)=true:=by simpa using h0
    rw [if_pos h0] at hct;have hcut2:=Hd (hct.symm.trans hcut.out);clear hct hcut hx h0 hix;rw [hnc];go_wp2;go_roundg n
    case rel=>exact ⟨by first | rfl | go_num,by have:=hg.out;show _<=_;omega,hcut2.out,rfl⟩
    case measure=>omega
   ·
    have hx0:(x==0)=false:=by simpa using h0
    rw [if_neg h0] at hct;have hcut2:R=l.take (n+1):=hcut.out.symm.trans hct;have hrl:R.length=n+1:=by rw [hcut2,List.length_take];omega
    have hsl:=fun W=>qxr (some ⟨b,off,none⟩) l.length c (n+1) (by omega) W
    rw [hnc] at hsl;have hF:=Hd (fun V (hV:Ext w V)=>(show IntsR V (some ⟨b,off,none⟩) (n+1) R from by
     have:=((HI.out.ext hV).cut (n:=n+1))
     rw [<- hcut2,hrl] at this;exact this))
    replace hrl:=Hd hrl;clear hct hcut hx h0 hcut2 hix;rw [hnc];go_wp2;go_ret;exact ⟨some ⟨b,off,none⟩,n+1,by rw [hrl.out];rfl,hF.out,rfl⟩
theorem qoq {l:List Int} (h:InM l):monoB (cutM l)=true:=by
 have hk:=qs4 h;refine qf5 hk.2.2 hk.2.1 ?_;rw [List.all_eq_true];exact fun x hx=>by simpa using hk.1 x hx
theorem qg8 (l:List Int) (a:Option Addr) (c:Nat) (w:World) (h:IntsR w a c l) (hl:l.length<=1000000) :
  Calls Tryz.prog 100 #[.slice a l.length c] w (RetMo (if monoB (cutM l)=true then cutM l else []) w):=by
 have CT:=qxk l a c w h hl;have hlc:(cutM l).length<=1000000:=by
  obtain ⟨z,hz,_⟩:=qf9 l;have:=congrArg List.length hz;rw [List.length_append] at this
  omega
 have hin:∀ x∈cutM l,InInt x:=fun x hx=>by
  obtain ⟨z,hz,_⟩:=qf9 l;obtain ⟨k,hk⟩:=List.getElem?_of_mem (show x∈l by rw [hz];simp [hx]);obtain ⟨_,_,_,_,hi⟩:=qbx h hk;exact hi
 revert CT hlc hin;generalize cutM l=R;intro CT hlc hin;replace CT:=Hd CT;replace hin:=Hd hin;clear h;obtain ⟨b,hb⟩:∃ b,monoB R=b:=⟨_,rfl⟩
 rw [hb];obtain ⟨Q,hQ⟩:∃ Q,(if b=true then R else [])=Q:=⟨_,rfl⟩
 rw [hQ];replace hQ:=Hd hQ;have CR:=fun a' c' W (hI:IntsR W a' c' R)=>qjq R a' c' W hI
 simp only [hb] at CR;replace CR:=Hd CR;clear hb;go_enter Tryz.func100,Tryz.ntmps100;go_wp2_with fail;refine CT.out.mono ?_;rintro e w1 ⟨a1,c1,rfl,hV,rfl⟩;have HV:=Hd hV;clear hV;go_wp2_with fail;refine (CR.out a1 c1 w (HV.out w (Ext.refl _))).mono ?_;rintro e w1 ⟨rfl,rfl⟩
 cases b
 ·
  have hq0:=hQ.out;rw [if_neg (by decide)] at hq0;subst hq0;go_wp2;go_ret;exact ⟨none,0,rfl,fun V _=>SlR.nil,Below.refl _ _⟩
 ·
  have hq0:=hQ.out;rw [if_pos rfl] at hq0;subst hq0;go_wp2_with (at_builtin;go_must (refine wpList_plain rfl fun _ hK=>qhs (B:=w.heap.size) (.const (.slice none 0 0)) (.tmp 8) 79 rfl Tryz.underlying79 infoI rfl (by omega) (by omega) qe3 none 0 (l:=[]) rfl Own.nil (fun x _=>qlk x) a1 c1 (m:=R) rfl (fun k x hx=>by obtain ⟨b,off,e,hc,_⟩:=qbx (HV.out w (Ext.refl _)) hx;exact ⟨b,off,e,fun j u hu=>by match j,hu with | 0,hu=>simp [intC] at hu;subst hu;simpa using hc⟩) R rfl (by omega) (nlr _) ?_);intro a2 c2 w2 ho2 hg2 hb2;refine hK _ _ ?_);go_ret;exact ⟨a2,c2,rfl,Kp.made fun V hV=>OwnI.newZ ho2 hV hin.out,hb2⟩
end Go.Proofs.YtnilkimcdgmgkaaGreatDoor
