/- A certificate read from its text. Plain. -/
import Derived.Test.YtkjnkpkagcboeaaGreatDoorCa6
import Derived.Test.YtkjnkpkagcboeaaGreatDoorCa7
import Derived.Test.YtkjnkpkagcboeaaGreatDoorCa5
import Derived.Shelf.Strings.OnBuilder
import Derived.Test.YtkjnkpkagcboeaaGreatDoorCa1
import Derived.Test.YtkjnkpkagcboeaaGreatDoorCa4
import Derived.Laws.RangeString
import Derived.Test.YtkjnkpkagcboeaaGreatDoorProg
import Derived.Laws.RangeAny
import Derived.Maps.OwnSet
import Derived.Maps.OwnOps
import Derived.StringKeys
import Derived.ChangeMaps5
import Derived.Test.YtkjnkpkagcboeaaGreatDoorCa2
set_option linter.all false
set_option maxRecDepth 100000
set_option maxHeartbeats 4000000
namespace Go.Proofs.YtkjnkpkagcboeaaGreatDoor
open Go.RowKit
def absQ (q:Rat):Rat:=if q < 0 then -q else q
def textQ (q:Rat):List UInt8:=textF (trip q)
def QA.pos (x:QA):QA:=⟨false,x.n,x.a,x.c,x.m,x.b,x.d⟩
theorem num_neg_iff {q:Rat}:q.num < 0 ↔ q < 0:=by
 rw [<- Rat.not_le,<- Rat.num_nonneg]; omega
theorem QK.abs {k:Nat} {w:World} {x:QA} {q:Rat} (h:QK k w x q):QK k w x.pos (absQ q):=by
 obtain ⟨⟨h1,h2,h3,h4,h5⟩,h6⟩:=h;unfold absQ
 split
 ·
  next hn =>
  have hnn:=num_neg_iff.2 hn;refine ⟨⟨?_,by simpa [QA.pos] using h2,by simpa [QA.pos] using h3,by simpa [QA.pos] using h4,by simpa [QA.pos] using h5⟩,by rw [qsz_neg]; exact h6⟩
  show false = decide ((-q).num < 0)
  rw [Rat.neg_num,decide_eq_false]
  omega
 ·
  next hn =>
  have hnn:¬ q.num < 0:=fun h=>hn (num_neg_iff.1 h)
  refine ⟨⟨?_,h2,h3,h4,h5⟩,h6⟩
  show false = decide (q.num < 0)
  rw [decide_eq_false hnn]
theorem lowest_self (q:Rat):lowest (decide (q.num < 0)) q.num.natAbs q.den = trip q:=by rw [lowest_qv,qv_parts]
theorem text_q (x:QA) (q:Rat) (k:Nat) (w:World) (H:QK k w x q) (hk:k <= 100000):Calls Tryz.prog 60 #[.agg #[.bool x.neg,.slice x.a x.n x.c,.slice x.b x.m x.d]] w fun e w'=>e = .returned (.string (ofL (textQ q))) /\ Below w.heap.size w w':=by
 obtain ⟨s1,n1,a1,c1,m1,b1,d1⟩:=x;obtain ⟨⟨e1,e2,e3,r1,r2⟩,z1⟩:=H;dsimp only at e1 e2 e3 r1 r2 ⊢;subst e1 e2 e3;have l1:=qsz_num q;have l2:=qsz_den q;have:=qtext_any (decide (q.num < 0)) (limbs q.num.natAbs) (limbs q.den) q.num.natAbs q.den a1 b1 c1 d1 w r1 r2 (val_limbs _) (val_limbs _) (by omega) (by omega) q.den_nz
 rwa [lowest_self] at this
theorem low_unit:lowest (decide ((1:Int) < 0)) (1:Int).natAbs 1 = trip 1:=by
 have:=lowest_z 1 1;rw [this]
 rfl
theorem qsz_unit:qsz 1 <= 1:=qsz_le (limbs_len_le (by decide)) (limbs_len_le (by decide))
theorem unit_q (w:World):Calls Tryz.prog 59 #[.int .i64 1] w (RetQK 1 1 w):=by
 have:=qint_any 1 w ⟨by omega,by omega⟩;rw [low_unit] at this;exact this.mono fun _ _ h=>retF_q qsz_unit h
theorem equal_q (x y:QA) (p q:Rat) (k:Nat) (w:World) (H1:QK k w x p) (H2:QK k w y q) (hk:k <= 100000):Calls Tryz.prog 58 #[.agg #[.bool x.neg,.slice x.a x.n x.c,.slice x.b x.m x.d],.agg #[.bool y.neg,.slice y.a y.n y.c,.slice y.b y.m y.d]] w fun e w'=>e = .returned (.bool (decide (p = q))) /\ Below w.heap.size w w':=by
 have CC:=fun W (hW:Below w.heap.size w W)=>cmp_q x y p q k k W (H1.ext (xbw hW)) (H2.ext (xbw hW)) hk hk
 have hz:(cmpQ p q == 0) = decide (p = q):=by rw [Bool.eq_iff_iff,beq_iff_eq,decide_eq_true_eq]; exact cmpQ_zero
 replace CC:=Hd CC;obtain ⟨r,hr⟩:∃ r,cmpQ p q = r:=⟨_,rfl⟩
 rw [hr] at hz;simp only [hr] at CC;replace CC:=Hd CC.out; replace hz:=Hd hz;clear H1 H2 hr;go_enter Tryz.func58,Tryz.ntmps58;go_wp2_with fail;refine calls_gen (fun W=>Below w.heap.size w W) (by go_grown) ?_;rintro w0 hw0;refine (CC.out w0 hw0).mono ?_;rintro e w1 ⟨rfl,hb⟩;go_wp2;go_ret;exact ⟨ret_bool hz.out,bth hw0 hb⟩
end Go.Proofs.YtkjnkpkagcboeaaGreatDoor
namespace Go.Proofs
open Go.Shelf
def Tryz.lays156_ren : Go.Shelf.Ren := ⟨fun | 156 => 50 | 165 => 96 | 166 => 29 | 169 => 31 | 240 => 57 | 241 => 138 | 276 => 105 | 277 => 182 | n => n, fun | 31 => 24 | 9 => 9 | 3 => 3 | 4 => 4 | 0 => 0 | 20 => 20 | 72 => 62 | 76 => 66 | 70 => 59 | 37 => 60 | 75 => 65 | 127 => 108 | 164 => 140 | 5 => 5 | 80 => 69 | n => n, fun | n => n⟩
theorem Tryz.lays156 : Go.Proofs.Lays.n156 Tryz.prog Tryz.lays156_ren := {
  mixed := by kernel_rfl
  f156 := Tryz.func50.trans (congrArg some (by kernel_rfl))
  f165 := Tryz.func96.trans (congrArg some (by kernel_rfl))
  f166 := Tryz.func29.trans (congrArg some (by kernel_rfl))
  f169 := Tryz.func31.trans (congrArg some (by kernel_rfl))
  f240 := Tryz.func57.trans (congrArg some (by kernel_rfl))
  f241 := Tryz.func138.trans (congrArg some (by kernel_rfl))
  f276 := Tryz.func105.trans (congrArg some (by kernel_rfl))
  f277 := Tryz.func182.trans (congrArg some (by kernel_rfl))
  t0 := Tryz.underlying0
  a0 := Tryz.isAgg0
  z0 := Tryz.sizeOf0
  v0 := Tryz.zeroValue0
  t3 := Tryz.underlying3
  a3 := Tryz.isAgg3
  z3 := Tryz.sizeOf3
  v3 := Tryz.zeroValue3
  t4 := Tryz.underlying4
  a4 := Tryz.isAgg4
  z4 := Tryz.sizeOf4
  v4 := Tryz.zeroValue4
  t9 := Tryz.underlying9
  a9 := Tryz.isAgg9
  z9 := Tryz.sizeOf9
  v9 := Tryz.zeroValue9
  t20 := Tryz.underlying20
  a20 := Tryz.isAgg20
  z20 := Tryz.sizeOf20
  v20 := Tryz.zeroValue20
  t31 := Tryz.underlying24
  a31 := Tryz.isAgg24
  z31 := Tryz.sizeOf24
  v31 := Tryz.zeroValue24
  t37 := Tryz.underlying60
  a37 := Tryz.isAgg60
  z37 := Tryz.sizeOf60
  v37 := Tryz.zeroValue60
  t70 := Tryz.underlying59
  a70 := Tryz.isAgg59
  z70 := Tryz.sizeOf59
  v70 := Tryz.zeroValue59
  t72 := Tryz.underlying62
  a72 := Tryz.isAgg62
  z72 := Tryz.sizeOf62
  v72 := Tryz.zeroValue62
  t75 := Tryz.underlying65
  a75 := Tryz.isAgg65
  z75 := Tryz.sizeOf65
  v75 := Tryz.zeroValue65
  t76 := Tryz.underlying66
  a76 := Tryz.isAgg66
  z76 := Tryz.sizeOf66
  v76 := Tryz.zeroValue66
  t127 := Tryz.underlying108
  a127 := Tryz.isAgg108
  z127 := Tryz.sizeOf108
  v127 := Tryz.zeroValue108
  t164 := Tryz.underlying140
  a164 := Tryz.isAgg140
  z164 := Tryz.sizeOf140
  v164 := Tryz.zeroValue140 }
theorem Tryz.Extra156:Builder.Extra Tryz.prog Tryz.lays156_ren where
 sizeBuilder:=by kernel_rfl
 liesBuilder:=by kernel_rfl
 t5:=Tryz.underlying5
 a5:=Tryz.isAgg5
 z5:=Tryz.sizeOf5
 v5:=Tryz.zeroValue5
 infoByte:=by kernel_rfl
 cellsByte:=by kernel_rfl
 sizeByte:=by kernel_rfl
 neB5:=by decide
end Go.Proofs
namespace Go.Proofs.YtkjnkpkagcboeaaGreatDoor
open Go.RowKit
def joinB (l:List ByteArray) (sep:ByteArray):ByteArray:=⟨(Lib.join (l.map (·.data.toList)) sep.data.toList).toArray⟩
theorem join_any (l:List ByteArray) (sep:ByteArray) (a:Option Addr) (c:Nat) (w:World) (h:StrsR w a c l) (hN:l.length <= 140737488355328) (hlen:(joinB l sep).size <= 140737488355328) :
  Calls Tryz.prog 50 #[.slice a l.length c,.string sep] w fun e w'=>e = .returned (.string (joinB l sep)) /\ Below w.heap.size w w':=by
 have hlen2:(Lib.join (l.map (·.data.toList)) sep.data.toList).length <= 140737488355328:=by
  have:(joinB l sep).size = (Lib.join (l.map (·.data.toList)) sep.data.toList).length:=by show Array.size _ = _; simp
  omega
 cases l with
 | nil=>exact (Any.strings_Join_none Tryz.lays156 Tryz.Extra156 a c sep w).mono fun e w' ⟨he,hw⟩=>⟨he,hw ▸ Below.refl _ _⟩
 | cons x r =>
  obtain ⟨b,o,rfl,h0⟩:=h.2.2 0 x rfl;have hb:b < w.heap.size:=World.block_lt_of_cell? w _ h0;refine Any.strings_Join Tryz.lays156 Tryz.Extra156 b o c (x :: r) sep w (fun j y hy=>?_) hb hN h.1 hlen2;obtain ⟨b2,o2,e,h2⟩:=h.2.2 j y hy;injection e with e
  injection e with e1 e2
  subst e1 e2;simpa [StrE] using h2
end Go.Proofs.YtkjnkpkagcboeaaGreatDoor
namespace Go.Proofs.YtkjnkpkagcboeaaGreatDoor
open Go.RowKit
def starB:ByteArray:=⟨#[42]⟩
def nameA (names:List ByteArray) (v:Nat):ByteArray:=names.getD v ⟨#[]⟩
def facP (names:List ByteArray) (v:Nat) (x:Int):List ByteArray:=if x = 1 then [nameA names v] else if 1 < x then [nameA names v ++ ⟨#[94]⟩ ++ ofL (textN x.toNat)] else []
def cofP (q:Rat) (m:List Int):List ByteArray:=if m.length = 0 \/ absQ q ≠ 1 then [ofL (textQ (absQ q))] else []
def partsT (q:Rat) (m:List Int) (names:List ByteArray) (k:Nat):List ByteArray:=cofP q m ++ (List.range k).flatMap fun v=>facP names v (expAt m v)
def termB (q:Rat) (m:List Int) (names:List ByteArray):ByteArray:=joinB (partsT q m names m.length) starB
theorem partsT_zero (q:Rat) (m:List Int) (names:List ByteArray):partsT q m names 0 = cofP q m:=by simp [partsT]
theorem partsT_succ {q:Rat} {m:List Int} {names:List ByteArray} {k:Nat} {x:Int} (h:m[k]? = some x):partsT q m names (k + 1) = partsT q m names k ++ facP names k x:=by
 have hx:expAt m k = x:=by unfold expAt; rw [List.getD_eq_getElem?_getD,h]; rfl
 unfold partsT;rw [List.range_succ,List.flatMap_append,List.append_assoc];simp [hx]
theorem facP_one (names:List ByteArray) (v:Nat):facP names v 1 = [nameA names v]:=by simp [facP]
theorem facP_more {names:List ByteArray} {v:Nat} {x:Int} (h:1 < x):facP names v x = [nameA names v ++ ⟨#[94]⟩ ++ ofL (textN x.toNat)]:=by
 unfold facP; rw [if_neg (by omega),if_pos h]
theorem facP_none {names:List ByteArray} {v:Nat} {x:Int} (h:x < 1):facP names v x = []:=by
 unfold facP; rw [if_neg (by omega),if_neg (by omega)]
theorem facP_len (names:List ByteArray) (v:Nat) (x:Int):(facP names v x).length <= 1:=by unfold facP; split <;> (try split) <;> simp
theorem partsT_len (q:Rat) (m:List Int) (names:List ByteArray) (k:Nat):(partsT q m names k).length <= k + 1:=by
 induction k with
 | zero=>rw [partsT_zero]; unfold cofP; split <;> simp
 | succ k ih =>
  unfold partsT at ih ⊢;rw [List.range_succ,List.flatMap_append,<- List.append_assoc,List.length_append];have:=facP_len names k (expAt m k);simp at ih this ⊢
  omega
def shortP (L:Nat) (l:List ByteArray):Prop:=∀ s ∈ l,s.size <= L
theorem digs_1m (x:Int) (h:x <= 1048576):(textN x.toNat).length <= 10:=by
 unfold textN
 split
 · simp
 · exact digs_len 10 _ (by omega)
theorem facP_short {names:List ByteArray} {N:Nat} (hn:∀ s ∈ names,s.size <= N) (v:Nat) (x:Int) (hx:x <= 1048576):shortP (N + 11) (facP names v x):=by
 have h1:(nameA names v).size <= N:=by
  unfold nameA;rw [List.getD_eq_getElem?_getD]
  cases h:names[v]? with
  | none=>exact Nat.zero_le _
  | some s=>exact hn s (List.mem_of_getElem? h)
 have h2:=digs_1m x hx;intro s hs;unfold facP at hs
 split at hs
 · simp at hs; subst hs; omega
 ·
  split at hs
  ·
   simp at hs;subst hs;rw [ByteArray.size_append,ByteArray.size_append,ofL_size];have:(⟨#[94]⟩:ByteArray).size = 1:=rfl
   omega
  · cases hs
theorem partsT_short {q:Rat} {m:List Int} {names:List ByteArray} {N T:Nat} (hn:∀ s ∈ names,s.size <= N) (hm:∀ x ∈ m,x <= 1048576) (ht:(textQ (absQ q)).length <= T) (k:Nat):shortP (N + 11 + T) (partsT q m names k):=by
 intro s hs;unfold partsT at hs;rcases List.mem_append.1 hs with hs | hs
 ·
  unfold cofP at hs
  split at hs
  · simp at hs; subst hs; rw [ofL_size]; omega
  · cases hs
 ·
  obtain ⟨v,_,hv⟩:=List.mem_flatMap.1 hs;have hx:expAt m v <= 1048576:=by
   unfold expAt;rw [List.getD_eq_getElem?_getD]
   cases h:m[v]? with
   | none=>simp
   | some x=>exact hm x (List.mem_of_getElem? h)
  have:=facP_short hn v _ hx s hv
  omega
theorem joinB_size {L:Nat}:∀ {l:List ByteArray},shortP L l -> (joinB l starB).size <= l.length * (L + 1)
 | [],_=>Nat.zero_le _
 | x :: r,h=>by
  have e:(joinB (x :: r) starB).size = (Lib.join ((x :: r).map (·.data.toList)) starB.data.toList).length:=ofL_size _;rw [e,List.map_cons,Lib.join_length];have e2:∀ (l:List ByteArray),shortP L l -> Lib.lens (l.map (·.data.toList)) <= l.length * L:=by
   intro l hl
   induction l with
   | nil=>simp [Lib.lens]
   | cons y t ih =>
    have h1:=hl y (by simp);have h2:=ih fun s hs=>hl s (by simp [hs])
    have h3:y.data.toList.length = y.size:=by show y.data.toList.length = y.data.size; simp
    unfold Lib.lens at h2 ⊢;rw [List.map_cons,List.map_cons,List.sum_cons,List.length_cons,Nat.succ_mul]
    omega
  have e3:=e2 (x :: r) h;have e4:starB.data.toList.length = 1:=rfl;rw [List.map_cons] at e3;rw [e4,List.length_map];rw [List.length_cons] at e3 ⊢;rw [Nat.mul_add]
  omega
theorem ba_ext {a b:ByteArray} (h:a.data.toList = b.data.toList):a = b:=by
 cases a; cases b
 simp at h;rw [h]
def seenB (p:List Trm) (v:Nat):Bool:=p.any fun t=>!(decide (expAt t.mono v = 0))
def seenC (S:Nat -> Bool):Array Value:=((List.range 64).map fun v=>Value.bool (S v)).toArray
theorem seenC_size (S:Nat -> Bool):(seenC S).size = 64:=by simp [seenC]
theorem seenC_at (S:Nat -> Bool) (v:Nat) (h:v < 64):(seenC S)[v]? = some (.bool (S v)):=by simp [seenC,h]
theorem seenC_set (S:Nat -> Bool) (v:Nat):(seenC S).setIfInBounds v (.bool true) = seenC (fun u=>decide (u = v) || S u):=by
 apply Array.ext_getElem?;intro i;rw [Array.getElem?_setIfInBounds];by_cases h:v = i
 ·
  subst h;by_cases h2:v < 64
  · rw [if_pos rfl,if_pos (by rw [seenC_size]; exact h2),seenC_at _ _ h2]; simp
  · rw [if_pos rfl,if_neg (by rw [seenC_size]; exact h2)]; simp [seenC,h2]
 ·
  rw [if_neg h];by_cases h2:i < 64
  · rw [seenC_at _ _ h2,seenC_at _ _ h2,decide_eq_false (fun e=>h e.symm)]; rfl
  · simp [seenC,h2]
theorem seenC_congr {S S':Nat -> Bool} (h:∀ v,S v = S' v):seenC S = seenC S':=by rw [show S = S' from funext h]
theorem seenB_succ {l:List Trm} {k:Nat} {t:Trm} (h:l[k]? = some t) (v:Nat):seenB (l.take (k + 1)) v = (seenB (l.take k) v || !(decide (expAt t.mono v = 0))):=by
 unfold seenB; rw [take_more h,List.any_append]; simp
def seenT (m:List Int) (j v:Nat):Bool:=decide (v < j) && !(decide (expAt m v = 0))
theorem seenT_all (m:List Int) (v:Nat):seenT m m.length v = !(decide (expAt m v = 0)):=by
 unfold seenT;by_cases h:v < m.length
 · rw [decide_eq_true h]; rfl
 ·
  have:expAt m v = 0:=by unfold expAt; rw [List.getD_eq_getElem?_getD,List.getElem?_eq_none (by omega)]; rfl
  rw [this]; simp
theorem seenT_succ {m:List Int} {j:Nat} {x:Int} (h:m[j]? = some x) (v:Nat):seenT m (j + 1) v = (if x = 0 then seenT m j v else (decide (v = j) || seenT m j v)):=by
 have hx:expAt m j = x:=by unfold expAt; rw [List.getD_eq_getElem?_getD,h]; rfl
 unfold seenT;by_cases hv:v = j
 ·
  subst hv;rw [hx,decide_eq_true (show v < v + 1 by omega),decide_eq_false (show ¬ v < v by omega)];by_cases h0:x = 0 <;> simp [h0]
 ·
  rw [show decide (v < j + 1) = decide (v < j) by rw [decide_eq_decide]; omega,decide_eq_false hv]
  split <;> simp
def varsI (p:List Trm) (i:Nat):List Int:=((List.range i).filter (seenB p)).map fun (v:Nat)=>(v:Int)
theorem varsI_succ (p:List Trm) (i:Nat):varsI p (i + 1) = if seenB p i = true then varsI p i ++ [(i:Int)] else varsI p i:=by
 unfold varsI;rw [List.range_succ,List.filter_append,List.map_append];by_cases h:seenB p i = true
 · rw [if_pos h]; simp [h]
 · rw [if_neg h]; simp [h]
theorem varsI_len (p:List Trm) (i:Nat):(varsI p i).length <= i:=by
 unfold varsI; rw [List.length_map]; exact Nat.le_trans (List.length_filter_le _ _) (by simp)
theorem varsI_in (p:List Trm) (i:Nat):∀ x ∈ varsI p i,0 <= x /\ x < i:=fun x hx=>by
 unfold varsI at hx;obtain ⟨v,hv,rfl⟩:=List.mem_map.1 hx;have:=List.mem_range.1 (List.mem_filter.1 hv).1
 omega
theorem seen_index (w:World) (S:Nat -> Bool) (i:Nat) (h:i < 64):(Instr.index 101 (.agg (seenC S)) (.int .i64 i)).run Tryz.prog w = .ok (.bool (S i)) w:=by
 have h1:0 <= (i:Int) /\ (i:Int) < ((64:Nat):Int):=by omega
 simp [Instr.index,run_underlying Tryz.underlying101,asIntOf,h1,go_sem];rw [if_pos h,seenC_at S i h]
 rfl
theorem vars_any (l:List Trm) (a:Option Addr) (c:Nat) (w:World) (h:PolyR w a c l) (hl:l.length <= 1000000) (hm:∀ t ∈ l,t.mono.length <= 64) :
  Calls Tryz.prog 27 #[.slice a l.length c] w fun e w'=>∃ a' c',e = .returned (.slice a' (varsI l 64).length c') /\ IntsR w' a' c' (varsI l 64) /\ Below w.heap.size w w':=by
 have HL:=Hd h; have HM:=Hd hm;clear h hm;go_enter Tryz.func27,Tryz.ntmps27;go_wp2;refine world_gen (fun W=>Blk W w.heap.size 101 (seenC fun _=>false) /\ Below w.heap.size w W) ⟨Blk.new w _ _,by go_grown⟩ ?_;rintro w0 ⟨hz,hw0⟩;obtain ⟨g0,hg0⟩:∃ g,g = w.heap.size:=⟨_,rfl⟩
 rw [<- hg0] at hz ⊢;have hgw:w.heap.size <= g0:=by omega
 replace hg0:=Hd hg0
 go_loopg [5,6,7,13] l.length (fun n _ _ _ s13 wr=>∃ k:Nat,Hid (k + n = l.length) /\ s13 = .int .i64 k /\ Blk wr g0 101 (seenC (seenB (l.take k))) /\ Below w.heap.size w wr)
 case atStart=>exact ⟨0,by show _ = _; omega,rfl,hz,hw0⟩
 case round =>
  clear hz hw0;obtain ⟨k,hk,rfl,hz,hwr⟩:=hrel;by_cases hlt:k < l.length
  ·
   obtain ⟨t,ht⟩:=get_of_lt hlt;obtain ⟨b,o,rfl,p,hC,hR⟩:=HL.out.2.2 k t ht;obtain ⟨c0,c1,c2,c3⟩:=hC;have d0:=held c0 wr hwr; have d1:=held c1 wr hwr; have d2:=held c2 wr hwr; have d3:=held c3 wr hwr;have hbl:b < wr.heap.size:=World.block_lt_of_cell? wr _ d0;have hml:=HM.out t (List.mem_of_getElem? ht);have HI:=Hd (fun W (hW:Below w.heap.size w W)=>hR.1.ext (xbw hW));have ht2:=Hd ht;have hzl:=hz.lt;obtain ⟨wo,rfl⟩:∃ wo:World,wo = wr:=⟨_,rfl⟩
   obtain ⟨go,rfl⟩:∃ n,n = gk:=⟨_,rfl⟩
   clear c0 c1 c2 c3 hR ht;go_wp2;refine world_gen (fun W=>Blk W g0 101 (seenC fun v=>seenB (l.take k) v || seenT t.mono 0 v) /\ Below w.heap.size w W) ⟨by rw [seenC_congr (S':=seenB (l.take k)) (fun v=>by simp [seenT])]; exact hz.alloc _,hwr.alloc hwr.size _⟩ ?_;rintro w1 ⟨hz1,hw1⟩;clear hz hwr d0 d1 d2 d3 hbl hzl
   go_loopg [6,7,20] t.mono.length (fun n _ _ s20 w3=>∃ j:Nat,Hid (j + n = t.mono.length) /\ s20 = .int .i64 j /\ Blk w3 g0 101 (seenC fun v=>seenB (l.take k) v || seenT t.mono j v) /\ Below w.heap.size w w3)
   case atStart=>exact ⟨0,by show _ = _; omega,rfl,hz1,hw1⟩
   case round =>
    clear hz1 hw1;obtain ⟨j,hj,rfl,hz,hwr⟩:=hrel;by_cases hjt:j < t.mono.length
    ·
     obtain ⟨x,hx⟩:=get_of_lt hjt;obtain ⟨bm,om,hpa,hcx,hxw⟩:=(HI.out wr hwr).2.2 j x hx;simp only [Nat.mul_one] at hcx;have hj64:(j:Int) < 64:=by omega
     have hj64n:j < 64:=by omega
     have hsu:=Hd (fun v=>seenT_succ hx v);have hzc:=hz.cell j;have hzf:=hz.frozen j;rw [seenC_at _ _ hj64n] at hzc;have HZ:=Hd hz;clear hxw hx hz;by_cases hx0:x = 0
     ·
      have hx1:(x != 0) = false:=by simp [hx0]
      have hS:Blk wr g0 101 (seenC fun v=>seenB (l.take k) v || seenT t.mono (j + 1) v):=by
       rw [seenC_congr (S':=fun v=>seenB (l.take k) v || seenT t.mono j v) (fun v=>by rw [hsu.out v,if_pos hx0])]; exact HZ.out
      replace hS:=Hd hS;clear hx0 HZ;go_wp2;go_roundg (gk - 1)
      case rel=>exact ⟨j + 1,by have:=hj.out; show _ = _; omega,by go_num,hS.out,hwr⟩
      case measure=>have:=hj.out; omega
     ·
      have hx1:(x != 0) = true:=by simp [hx0]
      have hS:=(HZ.out.set_ j (.bool true))
      rw [seenC_set] at hS;rw [seenC_congr (S':=fun v=>seenB (l.take k) v || seenT t.mono (j + 1) v) (fun v=>by rw [hsu.out v,if_neg hx0]; cases decide (v = j) <;> simp)] at hS;replace hS:=Hd hS;clear hx0;go_wp2;go_roundg (gk - 1)
      case rel=>exact ⟨j + 1,by have:=hj.out; show _ = _; omega,by go_num,hS.out,hwr.setCell (by simpa using hgw) _⟩
      case measure=>have:=hj.out; omega
    ·
     have hjl:j = t.mono.length:=by have:=hj.out; omega
     subst hjl;have hS:Blk wr g0 101 (seenC (seenB (l.take (k + 1)))):=by
      rw [seenC_congr (S':=fun v=>seenB (l.take k) v || seenT t.mono t.mono.length v) (fun v=>by rw [seenB_succ ht2.out,seenT_all])]; exact hz
     replace hS:=Hd hS;clear hz;go_wp2;go_roundg (go - 1)
     case rel=>exact ⟨k + 1,by have:=hk.out; show _ = _; omega,by go_num,hS.out,hwr⟩
     case measure=>have:=hk.out; omega
  ·
   have hkl:k = l.length:=by have:=hk.out; omega
   subst hkl;rw [List.take_length] at hz;have HZ:=Hd hz;obtain ⟨wo,rfl⟩:∃ wo:World,wo = wr:=⟨_,rfl⟩
   clear hz;go_wp2_with (refine wpList_load_row rfl 101 _ rfl g0 rfl 101 _ (0,0) _ HZ.out Tryz.underlying101 rfl (by rw [seenC_size]; kernel_rfl) ?_)
   go_loopg [8,9,10,36] 64 (fun n s8 _ _ s36 w3=>∃ (i:Nat) (a2:Option Addr) (c2:Nat),Hid (i + n = 64) /\ s36 = .int .i64 i /\ s8 = .slice a2 (varsI l i).length c2 /\ OwnI w.heap.size w3 a2 c2 (varsI l i) /\ Below w.heap.size w w3)
   case atStart=>exact ⟨0,none,0,by show _ = _; omega,rfl,rfl,Own.nil,hwr⟩
   case round =>
    clear hwr HZ;obtain ⟨i,a2,c2,hi,rfl,rfl,hO,hwr⟩:=hrel;have HO:=Hd hO;have hin:=varsI_len l i;by_cases hi64:i < 64
    ·
     have hidx:=seen_index wr (seenB l) i hi64;have hii:(i:Int) < 64:=by omega
     have hsu:=varsI_succ l i;have hsz:=seenC_size (seenB l)
     cases hsb:seenB l i
     ·
      rw [hsb] at hidx hsu;have hs2:=Hd hsu;clear hsb hsu hO;have hi2:varsI l (i + 1) = varsI l i:=by rw [hs2.out]; rfl
      replace hi2:=Hd hi2;go_wp2;go_roundg (gk - 1)
      case rel=>exact ⟨i + 1,a2,c2,by have:=hi.out; show _ = _; omega,by go_num,by rw [hi2.out],by rw [hi2.out]; exact HO.out,hwr⟩
      case measure=>have:=hi.out; omega
     ·
      rw [hsb] at hidx hsu;have hs2:=Hd hsu;clear hsb hsu hO;have hi2:varsI l (i + 1) = varsI l i ++ [(i:Int)]:=by rw [hs2.out]; rfl
      replace hi2:=Hd hi2;have HLE:Hid ((varsI l i ++ [(i:Int)]).length <= 16777216):=Hd (by rw [List.length_append]; simp; omega);go_wp2_with (at_builtin; go_must (refine append_int rfl (.tmp 41) (.tmp 43) rfl a2 c2 rfl (HO.out.alloc _) (i:Int) wr.heap.size 1 rfl (by simp) (varsI l i ++ [(i:Int)]) rfl HLE.out (by have:=hwr.size; simp; omega) ?_); intro a3 c3 w4 ho3 hg3 hx3);have hw4:=below_append' (hwr.alloc hwr.size _) (HO.out.alloc _) hg3;replace ho3:=Hd ho3; replace hw4:=Hd hw4;clear hx3 hg3 HO;go_roundg (gk - 1)
      case rel=>exact ⟨i + 1,a3,c3,by have:=hi.out; show _ = _; omega,by go_num,by rw [hi2.out,List.length_append]; rfl,by rw [hi2.out]; exact ho3.out,hw4.out⟩
      case measure=>have:=hi.out; omega
    ·
     have hi6:i = 64:=by have:=hi.out; omega
     subst hi6;have HR:=Hd (hO.reads1 fun s hs=>by have:=varsI_in l 64 s hs; exact ⟨by omega,by omega⟩);clear hO HO;go_wp2;go_ret;exact ⟨a2,c2,rfl,HR.out,hwr⟩
def Itr (w:World) (g:Nat) (s:ByteArray) (pos:Nat):Prop:=w.heap[g]? = some (.stringIter s pos)
def setItr (w:World) (g:Nat) (s:ByteArray) (pos:Nat):World:={ w with heap:=w.heap.setIfInBounds g (.stringIter s pos) }
theorem run_next_at {P:Program} (w:World) (g:Nat) (s:ByteArray) (pos:Nat) (ty:TypeId) (hi:Itr w g s pos) (h:pos < s.size) (ha:(s[pos]'h).toNat < 128) :
  (Instr.next (.pointer (some ⟨g,0,none⟩)) true ty).run P w = .ok (.tuple #[.bool true,.int .i64 pos,.int .i32 (s[pos]'h).toNat]) (setItr w g s (pos + 1)):=by
 unfold Itr at hi;simp only [Instr.next,getObj,setObj,Sem.run_bind,Sem.run,hi,Result.andThen,h,if_true,decode_ascii s pos h ha];simp [goInt,setItr]
theorem run_next_stop {P:Program} (w:World) (g:Nat) (s:ByteArray) (pos:Nat) (ty:TypeId) (hi:Itr w g s pos) (h:¬ pos < s.size) :
  (Instr.next (.pointer (some ⟨g,0,none⟩)) true ty).run P w = .ok (.tuple #[.bool false]) w:=by
 unfold Itr at hi;simp [Instr.next,getObj,Sem.run,hi,h]
theorem Itr.lt {w:World} {g:Nat} {s:ByteArray} {pos:Nat} (h:Itr w g s pos):g < w.heap.size:=(Array.getElem?_eq_some_iff.1 h).1
theorem Itr.set {w:World} {g:Nat} {s:ByteArray} {pos:Nat} (h:Itr w g s pos) (pos':Nat):Itr (setItr w g s pos') g s pos':=by
 unfold Itr setItr;simp [h.lt]
theorem setItr_size (w:World) (g:Nat) (s:ByteArray) (pos:Nat):(setItr w g s pos).heap.size = w.heap.size:=by simp [setItr]
theorem setItr_far (w:World) (g:Nat) (s:ByteArray) (pos:Nat) (k:Nat) (hk:k ≠ g):(setItr w g s pos).heap[k]? = w.heap[k]?:=by
 simp [setItr,Ne.symm hk]
theorem below_setItr {B:Nat} {a w:World} (h:Below B a w) {g:Nat} (hg:B <= g) (s:ByteArray) (pos:Nat):Below B a (setItr w g s pos) :=
 h.trans ⟨rfl,rfl,rfl,by rw [setItr_size]; exact nlr _,fun k hk=>setItr_far _ _ _ _ _ (by omega)⟩
theorem size_zero {s:ByteArray}:s.size = 0 ↔ s = ⟨#[]⟩:=by
 constructor
 ·
  intro h
  cases s with
  | mk d=>congr 1; exact Array.eq_empty_of_size_eq_zero h
 · intro h; subst h; rfl
theorem get_list {s:ByteArray} {k:Nat} (h:k < s.size):s.data.toList[k]? = some (s[k]'h):=by simp [h]; rfl
def letV (c:Int):Bool:=decide (97 <= c /\ c <= 122 \/ 65 <= c /\ c <= 90 \/ c = 95 \/ c = 46 \/ c = 36)
def digV (c:Int):Bool:=decide (48 <= c /\ c <= 57)
def wordV (c:UInt8):Bool:=letV c.toNat || digV c.toNat
def nameV:List UInt8 -> Bool
 | []=>false
 | c :: r=>letV c.toNat && r.all wordV
theorem letterS_any (c:Int) (w:World):Calls Tryz.prog 102 #[.int .u8 c] w fun e w'=>e = .returned (.bool (letV c)) /\ w = w':=by
 go_enter Tryz.func102,Tryz.ntmps102;by_cases h1:97 <= c <;> by_cases h2:c <= 122 <;> by_cases h3:65 <= c <;> by_cases h4:c <= 90
 all_goals
  first
  | (exfalso; omega)
  | (go_wp2 <;> (go_ret; exact ⟨ret_bool (by unfold letV; rw [Bool.eq_iff_iff]; (try simp_all) <;> omega),rfl⟩))
theorem digitS_any (c:Int) (w:World):Calls Tryz.prog 101 #[.int .u8 c] w fun e w'=>e = .returned (.bool (digV c)) /\ w = w':=by
 go_enter Tryz.func101,Tryz.ntmps101;by_cases h1:48 <= c <;> by_cases h2:c <= 57
 all_goals (go_wp2 <;> (go_ret; exact ⟨ret_bool (by unfold digV; rw [Bool.eq_iff_iff]; (try simp_all) <;> omega),rfl⟩))
theorem run_next_rune {P:Program} (w:World) (g:Nat) (s:ByteArray) (pos:Nat) (hi:Itr w g s pos) (h:pos < s.size) :
  ∃ (r:Nat) (n:Nat),(∀ ty:TypeId,(Instr.next (.pointer (some ⟨g,0,none⟩)) true ty).run P w = .ok (.tuple #[.bool true,.int .i64 pos,.int .i32 (r:Int)]) (setItr w g s (pos + n))) /\ ((s[pos]'h).toNat < 128 -> n = 1 /\ r = (s[pos]'h).toNat) /\ (128 <= (s[pos]'h).toNat -> 128 <= r):=by
 by_cases ha:(s[pos]'h).toNat < 128
 · exact ⟨_,1,fun ty=>run_next_at w g s pos ty hi h ha,fun _=>⟨rfl,rfl⟩,fun hb=>by omega⟩
 ·
  unfold Itr at hi;refine ⟨(Utf8.decode s pos).1,(Utf8.decode s pos).2,fun ty=>?_,fun h=>absurd h ha,fun hb=>(decode_high s pos h hb).1⟩;simp only [Instr.next,getObj,setObj,Sem.run_bind,Sem.run,hi,Result.andThen,h,if_true];simp [goInt,setItr]
theorem letV_ascii {c:Nat} (h:letV c = true):c < 128:=by unfold letV at h; rw [decide_eq_true_eq] at h; omega
theorem digV_ascii {c:Nat} (h:digV c = true):c < 128:=by unfold digV at h; rw [decide_eq_true_eq] at h; omega
theorem letV_digV (c:Int):letV c = (!(digV c) && (letV c || digV c)):=by
 rw [Bool.eq_iff_iff]; unfold letV digV; simp; omega
theorem nameV_all (l:List UInt8) (c:UInt8) (r:List UInt8) (h:l = c :: r):nameV l = (!(digV c.toNat) && l.all wordV):=by
 subst h
 show (letV c.toNat && r.all wordV) = (!(digV c.toNat) && (wordV c && r.all wordV))
 rw [letV_digV,<- Bool.and_assoc]; rfl
theorem nameV_at {s:ByteArray} (h:0 < s.size):nameV s.data.toList = (!(digV ((s[0]'h).toNat:Nat)) && s.data.toList.all wordV):=by
 have h':0 < s.data.toList.length:=by simpa using h
 have e:s.data.toList = s.data.toList[0] :: s.data.toList.drop 1:=by
  have:=List.drop_eq_getElem_cons (l:=s.data.toList) (i:=0) h';simpa using this
 exact nameV_all _ _ _ e
theorem all_bad {s:ByteArray} {pos:Nat} (h:pos < s.size) (hw:wordV (s[pos]'h) = false):s.data.toList.all wordV = false:=by
 rw [List.all_eq_false]; exact ⟨_,List.mem_of_getElem? (get_list h),by simp [hw]⟩
theorem isNameS_any (s:ByteArray) (w:World) (hs:s.size <= 9223372036854775807) :
  Calls Tryz.prog 54 #[.string s] w fun e w'=>e = .returned (.bool (nameV s.data.toList)) /\ Below w.heap.size w w':=by
 by_cases h0:s.size = 0
 ·
  have e:=size_zero.1 h0;subst e;clear h0 hs;go_enter Tryz.func54,Tryz.ntmps54;go_wp2;go_ret;exact ⟨rfl,Below.refl _ _⟩
 have hse:s.toList.isEmpty = false:=by rw [str_isEmpty]; simp; exact fun e=>h0 (size_zero.2 e)
 have hse2:s.toList ≠ []:=by intro e; rw [e] at hse; cases hse
 have hp:0 < s.size:=by omega
 have hnm:=nameV_at hp;have CD:=digitS_any ((s[0]'hp).toNat:Nat) w;obtain ⟨r,hr⟩:∃ r,nameV s.data.toList = r:=⟨_,rfl⟩
 rw [hr] at hnm ⊢;obtain ⟨b,hb⟩:∃ b,digV ((s[0]'hp).toNat:Nat) = b:=⟨_,rfl⟩
 rw [hb] at CD hnm;replace CD:=Hd CD;clear hb hr h0;go_enter Tryz.func54,Tryz.ntmps54
 cases b
 ·
  have HN:=Hd hnm;clear hnm;go_wp2_with fail;refine CD.out.mono ?_;rintro e w' ⟨rfl,rfl⟩;go_wp2;have hi0:=World.iter_heap w s 0;have hb0:Below w.heap.size w (w.iter s 0):=(Below.refl _ w).alloc (nlr _) _;revert hi0 hb0;generalize w.iter s 0 = w0;intro hi0 hb0;clear CD
  go_loopg [4] s.size (fun g _ wr=>∃ pos:Nat,pos + g = s.size /\ Itr wr w.heap.size s pos /\ Below w.heap.size w wr /\ (s.data.toList.take pos).all wordV = true)
  case atStart=>exact ⟨0,by omega,hi0,hb0,rfl⟩
  case round =>
   obtain ⟨pos,hpos,hi,hb,hall⟩:=hrel;clear hi0 hb0;have HA:=Hd hall;have HP:=Hd hpos;have hsz:=hi.lt;clear hall;by_cases hlt:pos < s.size
   ·
    obtain ⟨rr,n,hnx,hn1,hn2⟩:=run_next_rune (P:=Tryz.prog) wr w.heap.size s pos hi hlt;have hw:wordV (s[pos]'hlt) = (letV ((s[pos]'hlt).toNat:Nat) || digV ((s[pos]'hlt).toNat:Nat)):=rfl;have hgl:=get_list hlt;have hbad:=fun h=>all_bad (s:=s) (pos:=pos) hlt h
    have hi2:=hi.set (pos + 1);have hb2:Below w.heap.size w (setItr wr w.heap.size s (pos + n)):=below_setItr hb (nlr _) s _;by_cases ha:(s[pos]'hlt).toNat < 128
    ·
     obtain ⟨rfl,rfl⟩:=hn1 ha;obtain ⟨c,hc⟩:∃ c,s[pos]'hlt = c:=⟨_,rfl⟩
     rw [hc] at hw hgl hbad hnx ha;have CL:=Hd (letterS_any (c.toNat:Nat));have CD:=Hd (digitS_any (c.toNat:Nat));have hall2:wordV c = true -> (s.data.toList.take (pos + 1)).all wordV = true:=fun h=>by rw [take_more hgl,List.all_append,HA.out]; simp [h]
     replace hall2:=Hd hall2; replace hbad:=Hd hbad; replace hw:=Hd hw;have h128:((c.toNat:Nat):Int) < 128:=by omega
     have h256:((c.toNat:Nat):Int) % 256 = ((c.toNat:Nat):Int):=by omega
     obtain ⟨y,hy⟩:∃ y:Nat,c.toNat = y:=⟨_,rfl⟩
     rw [hy] at hw CL CD hnx h128 h256;obtain ⟨w2,hw2⟩:∃ W,setItr wr w.heap.size s (pos + 1) = W:=⟨_,rfl⟩
     rw [hw2] at hnx hi2 hb2;obtain ⟨bl,hbl⟩:∃ b,letV (y:Int) = b:=⟨_,rfl⟩
     obtain ⟨bd,hbd⟩:∃ b,digV (y:Int) = b:=⟨_,rfl⟩
     have hw3:=hw.out;rw [hbl,hbd] at hw3;simp only [hbl] at CL;simp only [hbd] at CD;have CL2:=Hd CL.out; have CD2:=Hd CD.out;replace hbl:=Hd hbl; replace hbd:=Hd hbd; replace hw3:=Hd hw3;clear CL CD hn2 hy hc hw2 hw hgl
     cases bl
     ·
      cases bd
      ·
       have hfin:=hbad.out (by rw [hw3.out]; rfl);have HF:=Hd (HN.out.trans (by rw [hfin,Bool.and_false]));clear hfin;go_wp2_with fail;refine (CL2.out _).mono ?_;rintro e w' ⟨rfl,rfl⟩;go_wp2_with fail;refine (CD2.out _).mono ?_;rintro e w' ⟨rfl,rfl⟩;go_wp2;go_ret;exact ⟨ret_bool HF.out.symm,hb2⟩
      ·
       have hfin:=Hd (hall2.out (by rw [hw3.out]; rfl));go_wp2_with fail;refine (CL2.out _).mono ?_;rintro e w' ⟨rfl,rfl⟩;go_wp2_with fail;refine (CD2.out _).mono ?_;rintro e w' ⟨rfl,rfl⟩;go_wp2;go_roundg (gk - 1)
       case rel=>exact ⟨pos + 1,by have:=HP.out; omega,hi2,hb2,hfin.out⟩
       case measure=>have:=HP.out; omega
     ·
      have hfin:=Hd (hall2.out (by rw [hw3.out]; rfl));go_wp2_with fail;refine (CL2.out _).mono ?_;rintro e w' ⟨rfl,rfl⟩;go_wp2;go_roundg (gk - 1)
      case rel=>exact ⟨pos + 1,by have:=HP.out; omega,hi2,hb2,hfin.out⟩
      case measure=>have:=HP.out; omega
    ·
     have hr128:(128:Int) <= (rr:Int):=by have:=hn2 (by omega); omega
     have hwf:wordV (s[pos]'hlt) = false:=by
      rw [hw,Bool.or_eq_false_iff];exact ⟨Bool.eq_false_iff.2 fun h=>ha (by simpa using letV_ascii h),Bool.eq_false_iff.2 fun h=>ha (by simpa using digV_ascii h)⟩
     have HF:=Hd (HN.out.trans (by rw [hbad hwf,Bool.and_false]));clear hwf hbad hw hgl hi2 hn1 hn2;go_wp2;go_ret;exact ⟨ret_bool HF.out.symm,hb2⟩
   ·
    have hns:=fun ty=>run_next_stop (P:=Tryz.prog) wr w.heap.size s pos ty hi hlt
    have HF:Hid (r = true):=Hd (HN.out.trans (by
     have:=HA.out;rw [List.take_of_length_le (by have:s.data.toList.length = s.size:=by { simp }; omega)] at this;rw [this]; first | done | rfl))
    go_wp2;go_ret;exact ⟨ret_bool HF.out.symm,hb⟩
 ·
  simp at hnm;subst hnm;go_wp2_with fail;refine CD.out.mono ?_;rintro e w' ⟨rfl,rfl⟩;go_wp2;go_ret;exact ⟨rfl,Below.refl _ _⟩
end Go.Proofs.YtkjnkpkagcboeaaGreatDoor
namespace Go.Proofs.YtkjnkpkagcboeaaGreatDoor
open Go.RowKit Go.Maps Go.WideMaps
theorem keyedS:Keyed Tryz.prog 9:=string_keyed Tryz.underlying9
theorem zeroB (w:World):(zeroValue 4).run Tryz.prog w = .ok (.bool false) w:=by kernel_rfl
def OwnM (w:World) (b n:Nat) (S:ByteArray -> Bool):Prop :=
 ∃ D:DataW Unit,w.ownsMap Tryz.prog 9 (plainElem Tryz.prog 4) b n D /\ ∀ s:ByteArray,D.atKey (.string s.data.toList) (.lit (.bool false)) = .lit (.bool (S s))
theorem strLit_ne {s t:ByteArray} (h:s ≠ t):Lit.string s.data.toList ≠ Lit.string t.data.toList:=fun e=>h (by
 injection e with e
 cases s; cases t
 simp at e;rw [e])
section
variable {w w' : World} {b n : Nat} {S : ByteArray -> Bool}
theorem OwnM.made (w:World):OwnM (w.alloc (.map #[] 0)) w.heap.size 0 (fun _=>false):=⟨.map [],World.ownsMap_made _ _ _ _,fun _=>rfl⟩
theorem OwnM.lt (h:OwnM w b n S):b < w.heap.size:=by obtain ⟨D,h1,_⟩:=h; exact h1.lt
theorem OwnM.look (h:OwnM w b n S) {s:ByteArray} (hs:s.size <= maxLen):(Instr.lookup 100 (.map (some b)) (.string s) false).run Tryz.prog w = .ok (.bool (S s)) w:=by
 obtain ⟨D,h1,h2⟩:=h;obtain ⟨v,ps,hr,hv⟩:=h1.lookup keyedS Tryz.underlying100 (zeroB w) (plainElem_bool Tryz.underlying4 false) (keyOf_string_mk Tryz.underlying9 hs);rw [h2 s] at hv;rw [hr];unfold plainElem at hv;simp [Tryz.underlying4] at hv
 cases v <;> simp at hv
 rw [hv.1]
end
section
variable {w : World} {b n : Nat} {S : ByteArray -> Bool} {ops : Array Oper} {rest : List Oper} {o : Oper} {a : Act} {Q : Exit -> Act -> World -> Prop}
theorem map_put (hg:o.guard = none) (m x v:Operand) (hop:o.op = Op.mapUpdate 100 m x v) (hm:a.eval m = .map (some b)) (hown:OwnM w b n S) (hn:n < 16777216)
  (s:ByteArray) (hs:s.size <= maxLen) (hx:a.eval x = .string s) (hv:a.eval v = .bool true)
  (hK:∀ w',OwnM w' b (n + 1) (fun t=>decide (t = s) || S t) -> w.grownBy w' (some b) -> wpList Tryz.prog ops Q rest (a.put o.dst undef) w'):wpList Tryz.prog ops Q (o :: rest) a w:=by
 obtain ⟨D,h1,h2⟩:=hown;refine wpList_mapUpdate_own w hg m x v 100 hop 9 4 keyedS Tryz.underlying100 (plainElem Tryz.prog 4) b n D hm h1 (by unfold maxLen; omega) _ _ (.string s.data.toList) hx hv
  (keyOf_string_mk Tryz.underlying9 hs) (.lit (.bool true)) [] (plainElem_bool Tryz.underlying4 true) fun w' r1 r2=>hK w' ⟨_,r1,fun t=>?_⟩ r2
 by_cases he:t = s
 ·
  subst he;rw [atKey_put_same (h1.isMap) (show WideAt.IsKeyLit (.string _) from trivial)];simp
 ·
  rw [atKey_put_other (strLit_ne he),h2 t];simp [he]
end
end Go.Proofs.YtkjnkpkagcboeaaGreatDoor
namespace Go.Proofs.YtkjnkpkagcboeaaGreatDoor
open Go.RowKit
def nmB (s:ByteArray):Bool:=nameV s.data.toList
def inB (l:List ByteArray) (s:ByteArray):Bool:=l.any fun t=>decide (t = s)
def dupAt (l:List ByteArray) (i:Nat):Bool:=match l[i]? with
 | some s=>inB (l.take i) s
 | none=>false
def errNm (l:List ByteArray):Int:=if l.all nmB = true then (if (List.range l.length).any (dupAt l) = true then 7 else 0) else 9
theorem errNm_bad {l:List ByteArray} {k:Nat} {s:ByteArray} (h:l[k]? = some s) (hb:nmB s = false):errNm l = 9:=by
 unfold errNm;rw [if_neg];intro h2;rw [List.all_eq_true] at h2;rw [h2 s (List.mem_of_getElem? h)] at hb
 cases hb
theorem errNm_dup {l:List ByteArray} {k:Nat} {s:ByteArray} (ha:l.all nmB = true) (h:l[k]? = some s) (hb:inB (l.take k) s = true):errNm l = 7:=by
 unfold errNm;rw [if_pos ha,if_pos];rw [List.any_eq_true];exact ⟨k,List.mem_range.2 (lt_of_get h),by unfold dupAt; rw [h]; simp [hb]⟩
theorem errNm_good {l:List ByteArray} (ha:l.all nmB = true) (hb:∀ k s,l[k]? = some s -> inB (l.take k) s = false):errNm l = 0:=by
 unfold errNm;rw [if_pos ha,if_neg];rw [List.any_eq_true];rintro ⟨k,hk,h⟩;obtain ⟨s,hs⟩:=get_of_lt (List.mem_range.1 hk);unfold dupAt at h;rw [hs] at h;have h2:inB (l.take k) s = true:=h;rw [hb k s hs] at h2; cases h2
theorem inB_succ {l:List ByteArray} {k:Nat} {x:ByteArray} (hx:l[k]? = some x):inB (l.take (k + 1)) = fun t=>decide (t = x) || inB (l.take k) t:=by
 funext t
 unfold inB;rw [take_more hx,List.any_append,Bool.or_comm];congr 1;simp only [List.any_cons,List.any_nil,Bool.or_false];rw [decide_eq_decide];exact eq_comm
theorem fresh_succ {l:List ByteArray} {k:Nat} {x:ByteArray} (h:∀ j s,j < k -> l[j]? = some s -> inB (l.take j) s = false) (hx:l[k]? = some x) (hn:inB (l.take k) x = false):∀ j s,j < k + 1 -> l[j]? = some s -> inB (l.take j) s = false:=fun j s hj hs=>by
 by_cases e:j = k
 · subst e; rw [hx] at hs; injection hs with hs; subst hs; exact hn
 · exact h j s (by omega) hs
theorem checkS_any (l:List ByteArray) (a:Option Addr) (c:Nat) (w:World) (h:StrsR w a c l) (hz:∀ s ∈ l,s.size <= 1048576) (hl:l.length <= 1000000) :
  Calls Tryz.prog 26 #[.slice a l.length c] w fun e w'=>e = .returned (.int .i64 (errNm l)) /\ Below w.heap.size w w':=by
 have HL:=Hd h; have HZ:=Hd hz;clear h hz;have hmm:=@run_makeMap Tryz.prog;go_enter Tryz.func26,Tryz.ntmps26;go_wp2
 go_loopg [4,10] l.length (fun g _ s10 wr=>∃ k:Nat,k + g = l.length /\ s10 = .int .i64 k /\ Hid ((l.take k).all nmB = true) /\ Below w.heap.size w wr)
 case atStart=>exact ⟨0,by omega,rfl,rfl,Below.refl _ _⟩
 case round =>
  obtain ⟨k,hk,rfl,hall,hb⟩:=hrel;have HK:=Hd hk;clear hk;by_cases hlt:k < l.length
  ·
   obtain ⟨x,hx⟩:=get_of_lt hlt;obtain ⟨b,o,rfl,hc⟩:=HL.out.2.2 k x hx;simp only [Nat.mul_one] at hc;have hc2:=held hc wr hb;have CN:=isNameS_any x wr (by have:=HZ.out x (List.mem_of_getElem? hx); omega);have hx2:=Hd hx;have hall2:nmB x = true -> (l.take (k + 1)).all nmB = true:=fun h=>by rw [take_more hx,List.all_append,hall.out]; simp [h]
   obtain ⟨bn,hbn⟩:∃ b,nameV x.data.toList = b:=⟨_,rfl⟩
   rw [hbn] at CN;have hnb:=Hd (show nmB x = bn from hbn);replace CN:=Hd CN; replace hall2:=Hd hall2;clear hbn hx hc;go_wp2_with fail;refine CN.out.mono ?_;rintro e w2 ⟨rfl,hb2⟩;have hw2:=bth hb hb2
   cases bn
   ·
    have hf:=Hd (errNm_bad hx2.out hnb.out);go_wp2;go_ret;exact ⟨ret_int hf.out.symm,hw2⟩
   ·
    have hf:=Hd (hall2.out hnb.out);go_wp2;go_roundg (gk - 1)
    case rel=>exact ⟨k + 1,by have:=HK.out; omega,by go_num,hf.out,hw2⟩
    case measure=>have:=HK.out; omega
  ·
   have HA:Hid (l.all nmB = true):=Hd (by have:=hall.out; rwa [take_all hlt] at this);obtain ⟨wo,rfl⟩:∃ wo:World,wo = wr:=⟨_,rfl⟩
   clear hall HK;go_wp2;have hm:=OwnM.made wo;have hb0:Below w.heap.size w (wo.alloc (.map #[] 0)):=hb.alloc hb.size _;revert hm hb0;generalize wo.alloc (.map #[] 0) = w0;intro hm hb0;obtain ⟨mb,hmb⟩:∃ q,wo.heap.size = q:=⟨_,rfl⟩
   have hmw:w.heap.size <= mb:=by have:=hb.size; omega
   rw [hmb] at hm ⊢;clear hmb hb hmm
   go_loopg [7,21] l.length (fun g _ s21 w2=>∃ j:Nat,j + g = l.length /\ s21 = .int .i64 j /\ OwnM w2 mb j (inB (l.take j)) /\ Hid (∀ i s,i < j -> l[i]? = some s -> inB (l.take i) s = false) /\ Below w.heap.size w w2)
   case atStart=>exact ⟨0,by omega,rfl,hm,by intro i s hi; omega,hb0⟩
   case round =>
    clear hm hb0;obtain ⟨j,hj,rfl,hm,hfr,hb⟩:=hrel;have HJ:=Hd hj;clear hj;by_cases hlt:j < l.length
    ·
     obtain ⟨x,hx⟩:=get_of_lt hlt;obtain ⟨b,o,rfl,hc⟩:=HL.out.2.2 j x hx;simp only [Nat.mul_one] at hc;have hc2:=held hc wr hb;have hxs:x.size <= maxLen:=by have:=HZ.out x (List.mem_of_getElem? hx); unfold maxLen; omega
     have hlook:=hm.look hxs;have hsu:=Hd (inB_succ hx);have hx2:=Hd hx;have HM:=Hd hm;have hml:=hm.lt;obtain ⟨bi,hbi⟩:∃ q,inB (l.take j) x = q:=⟨_,rfl⟩
     rw [hbi] at hlook;have hbi2:=Hd hbi;clear hbi hx hc hm
     cases bi
     ·
      have hf2:=Hd (fresh_succ hfr.out hx2.out hbi2.out);go_wp2_with (at_mapUpdate; go_must (refine map_put rfl (.tmp 28) (.tmp 29) (.const (.bool true)) rfl rfl HM.out (by omega) x hxs rfl rfl ?_); intro w2 hm2 hg2);rw [<- hsu.out] at hm2;have hw2:Below w.heap.size w w2:=hb.grown hg2 hb.size (fun k hk=>by injection hk with hk; omega);go_roundg (gk - 1)
      case rel=>exact ⟨j + 1,by have:=HJ.out; omega,by go_num,hm2,hf2.out,hw2⟩
      case measure=>have:=HJ.out; omega
     ·
      have hf:=Hd (errNm_dup HA.out hx2.out hbi2.out);go_wp2;go_ret;exact ⟨ret_int hf.out.symm,hb⟩
    ·
     have hf:=Hd (errNm_good HA.out fun i s hs=>hfr.out i s (by have:=lt_of_get hs; omega) hs);go_wp2;go_ret;exact ⟨ret_int hf.out.symm,hb⟩
theorem varsI_last (p:List Trm):∀ (i:Nat) (v:Int),(varsI p i)[(varsI p i).length - 1]? = some v -> v ∈ varsI p i /\ ∀ u ∈ varsI p i,u <= v
 | 0,v,h=>by simp [varsI] at h
 | i + 1,v,h=>by
  rw [varsI_succ] at h ⊢;by_cases hs:seenB p i = true
  ·
   rw [if_pos hs] at h ⊢;simp at h;subst h;refine ⟨by simp,fun u hu=>?_⟩;rcases List.mem_append.1 hu with hu | hu
   · have:=varsI_in p i u hu; omega
   · simp at hu; omega
  ·
   rw [if_neg hs] at h ⊢;exact varsI_last p i v h
theorem varsI_mem {p:List Trm} {i v:Nat} (hv:v < i) (hs:seenB p v = true):(v:Int) ∈ varsI p i:=by
 unfold varsI;exact List.mem_map.2 ⟨v,List.mem_filter.2 ⟨List.mem_range.2 hv,hs⟩,rfl⟩
theorem varsI_seen {p:List Trm} {i:Nat} {u:Int} (h:u ∈ varsI p i):∃ v:Nat,u = v /\ seenB p v = true:=by
 unfold varsI at h;obtain ⟨v,hv,rfl⟩:=List.mem_map.1 h;exact ⟨v,rfl,(List.mem_filter.1 hv).2⟩
def bigB (l:List Trm) (n:Nat):Bool:=l.any fun t=>decide (n < t.mono.length)
theorem expAt_lt {m:List Int} {v:Nat} (h:expAt m v ≠ 0):v < m.length:=by
 apply Nat.lt_of_not_le;intro hc;apply h;unfold expAt; rw [List.getD_eq_getElem?_getD,List.getElem?_eq_none hc]; rfl
theorem bigB_last {l:List Trm} {n:Nat} {v:Int} (hm:∀ t ∈ l,monoB t.mono = true) (h:(varsI l 64)[(varsI l 64).length - 1]? = some v):bigB l n = decide ((n:Int) <= v):=by
 obtain ⟨h1,h2⟩:=varsI_last l 64 v h;rw [Bool.eq_iff_iff,decide_eq_true_eq];unfold bigB;rw [List.any_eq_true]
 constructor
 ·
  rintro ⟨t,ht,hb⟩;have hb':n < t.mono.length:=by simpa using hb
  have hmt:=hm t ht;have hme:=monoB_mem hmt;have hne:expAt t.mono (t.mono.length - 1) ≠ 0:=by
   intro e0;have hlt:t.mono.length - 1 < t.mono.length:=by omega
   obtain ⟨x,hx⟩:=get_of_lt hlt;have hx0:x = 0:=by unfold expAt at e0; rw [List.getD_eq_getElem?_getD,hx] at e0; exact e0
   rw [monoB_last (by rw [hx,hx0])] at hmt
   cases hmt
  have:=h2 _ (varsI_mem (p:=l) (i:=64) (v:=t.mono.length - 1) (by omega) (by unfold seenB; rw [List.any_eq_true]; exact ⟨t,ht,by simp [hne]⟩))
  omega
 ·
  intro hn;obtain ⟨u,rfl,hs⟩:=varsI_seen h1;unfold seenB at hs;rw [List.any_eq_true] at hs;obtain ⟨t,ht,hx⟩:=hs;have:=expAt_lt (m:=t.mono) (v:=u) (by simpa using hx);exact ⟨t,ht,by simp; omega⟩
theorem bigB_none {l:List Trm} {n:Nat} (hm:∀ t ∈ l,monoB t.mono = true) (h:(varsI l 64).length = 0):bigB l n = false:=by
 rw [Bool.eq_false_iff];intro hb;unfold bigB at hb;rw [List.any_eq_true] at hb;obtain ⟨t,ht,hb⟩:=hb;have hb':n < t.mono.length:=by simpa using hb
 have hmt:=hm t ht;have hme:=monoB_mem hmt;have hne:expAt t.mono (t.mono.length - 1) ≠ 0:=by
  intro e0;obtain ⟨x,hx⟩:=get_of_lt (show t.mono.length - 1 < t.mono.length by omega);have hx0:x = 0:=by unfold expAt at e0; rw [List.getD_eq_getElem?_getD,hx] at e0; exact e0
  rw [monoB_last (by rw [hx,hx0])] at hmt
  cases hmt
 have:=varsI_mem (p:=l) (i:=64) (v:=t.mono.length - 1) (by omega) (by unfold seenB; rw [List.any_eq_true]; exact ⟨t,ht,by simp [hne]⟩);rw [List.length_eq_zero_iff] at h;rw [h] at this
 cases this
theorem polyB_terms {l:List Trm} (h:polyB l = true):∀ t ∈ l,t.coef.right = true /\ monoB t.mono = true:=fun t ht=>by
 obtain ⟨i,hi⟩:=List.getElem?_of_mem ht;have hil:=(List.getElem?_eq_some_iff.1 hi).1;unfold polyB at h;rw [List.all_eq_true] at h;have:=h i (List.mem_range.2 hil);have ho:=badAt_ok hi (by simpa using this);unfold okT at ho;simp only [Bool.and_eq_true] at ho;exact ⟨ho.1.1,ho.2⟩
def signP (k:Nat) (q:Rat):ByteArray:=if k = 0 then (if q < 0 then ⟨#[45]⟩ else ⟨#[]⟩) else if q < 0 then ⟨#[32,45,32]⟩ else ⟨#[32,43,32]⟩
def polyTo (l:List Trm) (names:List ByteArray):Nat -> ByteArray
 | 0=>⟨#[]⟩
 | k + 1=>match l[k]? with
  | some t=>polyTo l names k ++ signP k t.coef.q ++ termB t.coef.q t.mono names
  | none=>polyTo l names k
theorem polyTo_succ {l:List Trm} {names:List ByteArray} {k:Nat} {t:Trm} (h:l[k]? = some t):polyTo l names (k + 1) = polyTo l names k ++ signP k t.coef.q ++ termB t.coef.q t.mono names:=by rw [polyTo,h]
def printP (l:List Trm) (names:List ByteArray):ByteArray × Int :=
 if polyB l = true then if errNm names = 0 then if bigB l names.length = true then (⟨#[]⟩,6) else if l.length = 0 then (⟨#[48]⟩,0) else (polyTo l names l.length,0) else (⟨#[]⟩,errNm names) else (⟨#[]⟩,1)
theorem signP_size (k:Nat) (q:Rat):(signP k q).size <= 3:=by unfold signP; split <;> split <;> simp [ByteArray.size]
theorem polyTo_size {l:List Trm} {names:List ByteArray} {M:Nat} (h:∀ t ∈ l,(termB t.coef.q t.mono names).size <= M):∀ k,(polyTo l names k).size <= k * (M + 3)
 | 0=>by simp [polyTo,ByteArray.size]
 | k + 1=>by
  have ih:=polyTo_size h k;rw [polyTo]
  split
  ·
   next t ht =>
   have h1:=h t (List.mem_of_getElem? ht);have h2:=signP_size k t.coef.q;rw [ByteArray.size_append,ByteArray.size_append,Nat.succ_mul]
   omega
  · rw [Nat.succ_mul]; omega
inductive Got (α : Type) where
 | ok (v:α) (r:List UInt8)
 | bad (k:Nat) (e:Int)
def Got.bnd {α β:Type} (g:Got α) (f:α -> List UInt8 -> Got β):Got β:=match g with
 | .ok v r=>f v r
 | .bad k e=>.bad k e
def lost {α:Type} (l:List UInt8):Got α:=if l.length = 0 then .bad 0 10 else .bad l.length 9
def digU (c:UInt8):Bool:=digV c.toNat
def letU (c:UInt8):Bool:=letV c.toNat
def numL:List UInt8 -> Nat
 | []=>0
 | c :: r=>if digU c = true then (if c = 48 then 1 else 1 + (r.takeWhile digU).length) else 0
def decL (l:List UInt8):Nat:=l.foldl (fun a c=>10 * a + (c.toNat - 48)) 0
def numG (l:List UInt8):Got (List UInt8):=if numL l = 0 then lost l else if 1000 < numL l then .bad l.length 4 else .ok (l.take (numL l)) (l.drop (numL l))
def namL:List UInt8 -> Nat
 | []=>0
 | c :: r=>if letU c = true then 1 + (r.takeWhile wordV).length else 0
def whoV (names:List ByteArray) (s:List UInt8):Option Nat:=(names.take 64).findIdx? fun x=>decide (x = ofL s)
def namG (names:List ByteArray) (l:List UInt8):Got Nat:=if namL l = 0 then lost l else match whoV names (l.take (namL l)) with
 | none=>.bad l.length 6
 | some v=>.ok v (l.drop (namL l))
def powG (names:List ByteArray) (l:List UInt8):Got (Nat × Int):=(namG names l).bnd fun v r=>if r[0]? = some 94 then (numG (r.drop 1)).bnd fun d r2=>if 1048576 < decL d then .bad (r.drop 1).length 4 else .ok (v,decL d) r2 else .ok (v,1) r
def putM (m:List Int) (p:Nat × Int):List Int:=m.set p.1 (expAt m p.1 + p.2)
def proG (names:List ByteArray) (F:Nat):Nat -> List Int -> List UInt8 -> Got (List Int)
 | 0,_,_=>.bad 0 4
 | n + 1,m,l=>(powG names l).bnd fun p r=>if 1048576 < expAt m p.1 + p.2 then .bad F 4 else if r[0]? = some 42 then proG names F n (putM m p) (r.drop 1) else .ok (putM m p) r
def zerM:List Int:=List.replicate 64 0
def cutM (m:List Int):List Int:=(m.reverse.dropWhile fun x=>decide (x = 0)).reverse
def cofG (l:List UInt8):Got Rat:=(numG l).bnd fun p r=>if r[0]? = some 47 then (numG (r.drop 1)).bnd fun q r2=>if decL q = 0 then .bad (r.drop 1).length 3 else .ok (qv false (decL p) (decL q)) r2 else .ok (qv false (decL p) 1) r
def monG (names:List ByteArray) (F:Nat) (q:Rat) (l:List UInt8):Got (Rat × List Int):=(proG names F (l.length + 1) zerM l).bnd fun m r=>.ok (q,cutM m) r
def terG (names:List ByteArray) (l:List UInt8):Got (Rat × List Int):=if numL l = 0 then monG names l.length 1 l else (cofG l).bnd fun q r=>if r[0]? = some 42 then monG names l.length q (r.drop 1) else .ok (q,[]) r
def eatG (c:UInt8) (l:List UInt8):Got Unit:=if l[0]? = some c then .ok () (l.drop 1) else lost l
def sepG (l:List UInt8):Got Bool:=(eatG 32 l).bnd fun _ r=>if r[0]? = some 45 then (eatG 32 (r.drop 1)).bnd fun _ r'=>.ok true r' else (eatG 43 r).bnd fun _ r1=>(eatG 32 r1).bnd fun _ r2=>.ok false r2
def sgnT (neg:Bool) (t:Rat × List Int):Rat × List Int:=(if neg = true then -t.1 else t.1,t.2)
def sumG (names:List ByteArray):Nat -> Bool -> List (Rat × List Int) -> List UInt8 -> Got (List (Rat × List Int))
 | 0,_,_,_=>.bad 0 4
 | f + 1,neg,acc,l=>if acc.length = 4000 then .bad l.length 4 else (terG names l).bnd fun t r=>if r.length = 0 then .ok (acc ++ [sgnT neg t]) r else (sepG r).bnd fun ng r'=>sumG names f ng (acc ++ [sgnT neg t]) r'
def reaG (names:List ByteArray) (l:List UInt8):Got (List (Rat × List Int)):=if l[0]? = some 45 then sumG names (l.length + 1) true [] (l.drop 1) else sumG names (l.length + 1) false [] l
theorem decL_snoc (l:List UInt8) (c:UInt8):decL (l ++ [c]) = 10 * decL l + (c.toNat - 48):=by unfold decL; rw [List.foldl_append]; rfl
theorem dig_nat {d:Nat} (h:d < 10):(48 + d).toUInt8.toNat = 48 + d:=by
 rw [Nat.toUInt8,UInt8.toNat_ofNat']; omega
theorem decL_digs (n:Nat):decL (digs n) = n:=by
 induction n using Nat.strongRecOn with
 | _ n ih =>
  by_cases h:n = 0
  · subst h; rw [digs_zero]; rfl
  ·
   rw [digs_pos h,decL_snoc,ih (n / 10) (by omega),dig_nat (Nat.mod_lt n (by omega)),Nat.add_sub_cancel_left,Nat.mul_comm,Nat.add_comm];exact Nat.mod_add_div' n 10
theorem digU_dig {d:Nat} (h:d < 10):digU (48 + d).toUInt8 = true:=by
 unfold digU digV; rw [dig_nat h]; simp; omega
theorem digs_all (n:Nat):∀ c ∈ digs n,digU c = true:=by
 induction n using Nat.strongRecOn with
 | _ n ih =>
  by_cases h:n = 0
  · subst h; rw [digs_zero]; intro c hc; cases hc
  ·
   rw [digs_pos h];intro c hc;rcases List.mem_append.1 hc with hc | hc
   · exact ih (n / 10) (by omega) c hc
   · rw [List.mem_singleton] at hc; subst hc; exact digU_dig (Nat.mod_lt n (by omega))
theorem digs_head (n:Nat) (h:n ≠ 0):∃ c r,digs n = c :: r /\ c ≠ 48:=by
 induction n using Nat.strongRecOn with
 | _ n ih =>
  rw [digs_pos h];by_cases h1:n / 10 = 0
  ·
   rw [h1,digs_zero];refine ⟨_,_,rfl,fun e=>?_⟩;have:=congrArg UInt8.toNat e;rw [dig_nat (Nat.mod_lt _ (by omega))] at this;have h2:(48:UInt8).toNat = 48:=rfl
   omega
  ·
   obtain ⟨c,r,e,hc⟩:=ih (n / 10) (by omega) h1;exact ⟨c,r ++ [(48 + n % 10).toUInt8],by rw [e]; rfl,hc⟩
def frontN (p:UInt8 -> Bool) (z:List UInt8):Prop:=∀ c,z[0]? = some c -> p c = false
theorem takeWhile_front {p:UInt8 -> Bool} {l z:List UInt8} (h:∀ c ∈ l,p c = true) (hz:frontN p z):(l ++ z).takeWhile p = l:=by
 rw [List.takeWhile_append_of_pos h]
 cases z with
 | nil=>simp
 | cons c r=>rw [List.takeWhile_cons,hz c rfl]; simp
theorem numL_text (n:Nat) (z:List UInt8) (hz:frontN digU z):numL (textN n ++ z) = (textN n).length:=by
 unfold textN
 split
 · next h=>rfl
 ·
  next h =>
  obtain ⟨c,r,e,hc⟩:=digs_head n h;have ha:=digs_all n;rw [e] at ha ⊢;rw [List.cons_append,numL,if_pos (ha c (by simp)),if_neg hc,takeWhile_front (fun x hx=>ha x (by simp [hx])) hz,List.length_cons]
  omega
theorem textN_pos (n:Nat):0 < (textN n).length:=by
 unfold textN
 split
 · decide
 · next h=>exact (digs_len_pos n).2 h
theorem decL_text (n:Nat):decL (textN n) = n:=by
 unfold textN
 split
 · next h=>subst h; rfl
 · exact decL_digs n
theorem numG_text (n:Nat) (z:List UInt8) (hz:frontN digU z) (hn:(textN n).length <= 1000):numG (textN n ++ z) = .ok (textN n) z:=by
 have h1:=numL_text n z hz;have h2:=textN_pos n;unfold numG;rw [h1,if_neg (by omega),if_neg (by omega),List.take_left,List.drop_left]
theorem errNm_zero {l:List ByteArray} (h:errNm l = 0):(∀ s ∈ l,nmB s = true) /\ ∀ (i j:Nat) (s t:ByteArray),i < j -> l[i]? = some s -> l[j]? = some t -> s ≠ t:=by
 unfold errNm at h
 split at h
 ·
  next ha =>
  split at h
  · cases h
  ·
   next hd =>
   refine ⟨List.all_eq_true.1 ha,fun i j s t hij hs ht e=>hd ?_⟩;rw [List.any_eq_true];refine ⟨j,List.mem_range.2 (lt_of_get ht),?_⟩;unfold dupAt;rw [ht]
   show inB (l.take j) t = true
   unfold inB;rw [List.any_eq_true];refine ⟨s,List.mem_of_getElem? (i:=i) ?_,by simp [e]⟩;rw [List.getElem?_take,if_pos hij,hs]
 · cases h
def endZ (z:List UInt8):Prop:=∀ c,z[0]? = some c -> c = 32 \/ c = 42 \/ c = 47
theorem endZ.word {z:List UInt8} (h:endZ z):frontN wordV z:=fun c hc=>by
 rcases h c hc with e | e | e <;> subst e <;> decide
theorem endZ.dig {z:List UInt8} (h:endZ z):frontN digU z:=fun c hc=>by
 rcases h c hc with e | e | e <;> subst e <;> decide
theorem endZ.hat {z:List UInt8} (h:endZ z):z[0]? ≠ some 94:=fun e=>by
 rcases h _ e with e | e | e <;> revert e <;> decide
theorem namL_text {s z:List UInt8} (h:nameV s = true) (hz:frontN wordV z):namL (s ++ z) = s.length /\ 0 < s.length:=by
 cases s with
 | nil=>cases h
 | cons c r =>
  have h':(letV c.toNat && r.all wordV) = true:=h;rw [Bool.and_eq_true,List.all_eq_true] at h';refine ⟨?_,by simp⟩;rw [List.cons_append,namL,if_pos (show letU c = true from h'.1),takeWhile_front h'.2 hz,List.length_cons]
  omega
theorem ofL_self (s:ByteArray):ofL s.data.toList = s:=by unfold ofL; simp
theorem whoV_at {names:List ByteArray} (hn:errNm names = 0) {v:Nat} {s:ByteArray} (h:names[v]? = some s) (hv:v < 64):whoV names s.data.toList = some v:=by
 have hd:=(errNm_zero hn).2;have hl:=lt_of_get h;unfold whoV;rw [List.findIdx?_eq_some_iff_getElem,ofL_self];have hg:∀ j,(hj:j < (names.take 64).length) -> names[j]? = some (names.take 64)[j]:=fun j hj=>by
  rw [List.getElem_take,List.getElem?_eq_getElem]
 have hlt:v < (names.take 64).length:=by rw [List.length_take]; omega
 refine ⟨hlt,?_,fun j hj hp=>?_⟩
 ·
  have:=hg v hlt;rw [h] at this; injection this with this
  simp [<- this]
 ·
  have e:=of_decide_eq_true hp;exact hd j v _ s hj (hg j _) h e
theorem namG_text {names:List ByteArray} (hn:errNm names = 0) {v:Nat} {s:ByteArray} (h:names[v]? = some s) (hv:v < 64) {z:List UInt8} (hz:frontN wordV z):namG names (s.data.toList ++ z) = .ok v z:=by
 obtain ⟨h1,h2⟩:=namL_text ((errNm_zero hn).1 s (List.mem_of_getElem? h)) hz;unfold namG;rw [h1,if_neg (by omega),List.take_left,whoV_at hn h hv,List.drop_left]
def facL (names:List ByteArray) (p:Nat × Int):List UInt8:=if p.2 = 1 then (nameA names p.1).data.toList else (nameA names p.1).data.toList ++ 94 :: textN p.2.toNat
def goodP (names:List ByteArray) (p:Nat × Int):Prop:=p.1 < names.length /\ p.1 < 64 /\ 1 <= p.2 /\ p.2 <= 1048576
theorem nameA_at {names:List ByteArray} {v:Nat} (h:v < names.length):names[v]? = some (nameA names v):=by
 unfold nameA; rw [List.getD_eq_getElem?_getD,List.getElem?_eq_getElem h]; rfl
theorem text_1m {n:Nat} (h:n <= 1048576):(textN n).length <= 1000:=by
 unfold textN
 split
 · simp
 · have:=digs_len 10 n (by omega); omega
theorem powG_text {names:List ByteArray} (hn:errNm names = 0) {p:Nat × Int} (h:goodP names p) {z:List UInt8} (hz:endZ z):powG names (facL names p ++ z) = .ok p z:=by
 obtain ⟨h1,h2,h3,h4⟩:=h;have hv:=nameA_at h1;unfold facL powG;by_cases e:p.2 = 1
 ·
  rw [if_pos e,namG_text hn hv h2 hz.word];unfold Got.bnd;dsimp only;rw [if_neg hz.hat,<- e]
 ·
  rw [if_neg e,List.append_assoc,namG_text hn hv h2 (fun c hc=>by simp at hc; subst hc; decide)];unfold Got.bnd;dsimp only;rw [if_pos (by simp),List.cons_append,List.drop_one,List.tail_cons,numG_text _ _ hz.dig (text_1m (by omega))];dsimp only;rw [decL_text,if_neg (by omega),Int.toNat_of_nonneg (by omega)]
def facsL (names:List ByteArray):List (Nat × Int) -> List UInt8
 | []=>[]
 | p :: r=>facL names p ++ r.flatMap fun q=>42 :: facL names q
theorem expAt_put {m:List Int} {p:Nat × Int} (h:p.1 < m.length) (u:Nat):expAt (putM m p) u = if u = p.1 then expAt m u + p.2 else expAt m u:=by
 unfold putM expAt;simp only [List.getD_eq_getElem?_getD,List.getElem?_set];by_cases e:p.1 = u
 · subst e; rw [if_pos rfl,if_pos h,if_pos rfl]; rfl
 · rw [if_neg e,if_neg (fun e'=>e e'.symm)]
theorem putM_len (m:List Int) (p:Nat × Int):(putM m p).length = m.length:=by simp [putM]
theorem proG_text {names:List ByteArray} (hn:errNm names = 0) (F:Nat) {z:List UInt8} (hz:endZ z) (hs:z[0]? ≠ some 42):∀ (p:Nat × Int) (r:List (Nat × Int)) (n:Nat) (m:List Int),r.length < n -> m.length = 64 ->
  (∀ q ∈ p :: r,goodP names q /\ expAt m q.1 = 0) -> ((p :: r).map (·.1)).Nodup -> proG names F n m (facsL names (p :: r) ++ z) = .ok ((p :: r).foldl putM m) z
 | p,[],n + 1,m,_,hm,hg,_=>by
  obtain ⟨h1,h2⟩:=hg p (by simp);rw [show facsL names [p] = facL names p from List.append_nil _,proG,powG_text hn h1 hz];unfold Got.bnd;dsimp only;have:=h1.2.2.2;rw [if_neg (by omega),if_neg hs]
  rfl
 | p,q :: r,n + 1,m,hl,hm,hg,hd=>by
  obtain ⟨h1,h2⟩:=hg p (by simp);rw [show facsL names (p :: q :: r) ++ z = facL names p ++ (42 :: (facsL names (q :: r) ++ z)) by simp [facsL],proG,powG_text hn h1 (fun c hc=>by simp at hc; subst hc; simp)];unfold Got.bnd;dsimp only;have h3:=h1.2.2.2;rw [if_neg (by omega),if_pos (by simp),List.drop_one,List.tail_cons];rw [List.map_cons,List.nodup_cons] at hd;refine (proG_text hn F hz hs q r n (putM m p) (by simp at hl; omega) (by rw [putM_len,hm]) (fun x hx=>?_) hd.2).trans rfl;obtain ⟨g1,g2⟩:=hg x (List.mem_cons_of_mem _ hx);refine ⟨g1,?_⟩;rw [expAt_put (by rw [hm]; exact h1.2.1),if_neg,g2];intro e;exact hd.1 (by rw [<- e]; exact List.mem_map.2 ⟨x,hx,rfl⟩)
 | p,r,0,m,hl,_,_,_=>by omega
def prsF (f:Nat -> Int) (vs:List Nat):List (Nat × Int):=(vs.map fun v=>(v,f v)).filter fun p=>decide (0 < p.2)
theorem prsF_cons (f:Nat -> Int) (v:Nat) (vs:List Nat):prsF f (v :: vs) = if 0 < f v then (v,f v) :: prsF f vs else prsF f vs:=by
 unfold prsF;rw [List.map_cons,List.filter_cons];by_cases h:0 < f v
 · rw [if_pos (by simpa using h),if_pos h]
 · rw [if_neg (by simpa using h),if_neg h]
theorem prsF_exp (f:Nat -> Int):∀ (vs:List Nat) (m:List Int),vs.Nodup -> (∀ v ∈ vs,v < m.length) -> ∀ u,expAt ((prsF f vs).foldl putM m) u = if u ∈ vs /\ 0 < f u then expAt m u + f u else expAt m u
 | [],m,_,_,u=>by simp [prsF]
 | v :: vs,m,hd,hm,u=>by
  rw [List.nodup_cons] at hd;rw [prsF_cons];by_cases h:0 < f v
  ·
   rw [if_pos h,List.foldl_cons,prsF_exp f vs _ hd.2 (fun x hx=>by rw [putM_len]; exact hm x (by simp [hx])) u,expAt_put (hm v (by simp))];by_cases e:u = v
   · subst e; rw [if_neg (fun c=>hd.1 c.1),if_pos rfl,if_pos ⟨by simp,h⟩]
   · rw [if_neg e]; simp [e]
  ·
   rw [if_neg h,prsF_exp f vs m hd.2 (fun x hx=>hm x (by simp [hx])) u];by_cases e:u = v
   · subst e; simp [h]
   · simp [e]
theorem prsF_mem {f:Nat -> Int} {vs:List Nat} {p:Nat × Int} (h:p ∈ prsF f vs):p.1 ∈ vs /\ p.2 = f p.1 /\ 0 < p.2:=by
 unfold prsF at h;rw [List.mem_filter,List.mem_map] at h;obtain ⟨⟨v,hv,rfl⟩,h2⟩:=h;exact ⟨hv,rfl,by simpa using h2⟩
theorem prsF_nodup {f:Nat -> Int}:∀ {vs:List Nat},vs.Nodup -> ((prsF f vs).map (·.1)).Nodup
 | [],_=>by simp [prsF]
 | v :: vs,h=>by
  rw [List.nodup_cons] at h;rw [prsF_cons];have ih:=prsF_nodup (f:=f) h.2
  split
  ·
   rw [List.map_cons,List.nodup_cons];refine ⟨fun hc=>?_,ih⟩;obtain ⟨p,hp,e⟩:=List.mem_map.1 hc;have:=(prsF_mem hp).1;rw [e] at this;exact h.1 this
  · exact ih
theorem prsF_len (f:Nat -> Int) (vs:List Nat):(prsF f vs).length <= vs.length:=by
 unfold prsF;have:=List.length_filter_le (fun p:Nat × Int=>decide (0 < p.2)) (vs.map fun v=>(v,f v));simpa using this
theorem cutM_zeros (a:List Int):∃ z,a = cutM a ++ z /\ (∀ x ∈ z,x = 0) /\ (cutM a)[(cutM a).length - 1]? ≠ some 0:=by
 have h:=List.takeWhile_append_dropWhile (p:=fun x:Int=>decide (x = 0)) (l:=a.reverse);refine ⟨(a.reverse.takeWhile fun x=>decide (x = 0)).reverse,?_,fun x hx=>?_,?_⟩
 ·
  unfold cutM;rw [<- List.reverse_append,h,List.reverse_reverse]
 ·
  rw [List.mem_reverse] at hx;have:=List.all_eq_true.1 (List.all_takeWhile (p:=fun x:Int=>decide (x = 0)) (l:=a.reverse)) x hx;simpa using this
 ·
  unfold cutM;intro e;rw [<- List.getLast?_eq_getElem?,List.getLast?_reverse] at e;have hh:=List.head?_dropWhile_not (fun x:Int=>decide (x = 0)) a.reverse;rw [e] at hh;simp at hh
theorem expAt_app (a z:List Int) (hz:∀ x ∈ z,x = 0) (u:Nat):expAt (a ++ z) u = expAt a u:=by
 unfold expAt;rw [List.getD_eq_getElem?_getD,List.getD_eq_getElem?_getD,List.getElem?_append]
 split
 · rfl
 ·
  next h =>
  rw [List.getElem?_eq_none (l:=a) (by omega)]
  cases hx:z[u - a.length]? with
  | none=>rfl
  | some x=>exact hz x (List.mem_of_getElem? hx)
theorem cutM_exp (a:List Int) (u:Nat):expAt (cutM a) u = expAt a u:=by
 obtain ⟨z,h1,h2,_⟩:=cutM_zeros a
 conv=>rhs; rw [h1]
 rw [expAt_app _ _ h2]
theorem cutM_eq {a m:List Int} (ha:a.length <= 64) (hm:monoB m = true) (h:∀ u,expAt a u = expAt m u):cutM a = m:=by
 obtain ⟨z,h1,h2,h3⟩:=cutM_zeros a;obtain ⟨g1,g2⟩:=monoB_mem hm;have gl:m[m.length - 1]? ≠ some 0:=fun e=>by rw [monoB_last e] at hm; cases hm
 have he:∀ u,expAt (cutM a) u = expAt m u:=fun u=>(cutM_exp a u).trans (h u)
 have hl:(cutM a).length <= 64:=by have:=congrArg List.length h1; rw [List.length_append] at this; omega
 refine mok_ext (B:=1048576) (B':=1048576) ⟨fun x hx=>?_,h3,hl⟩ ⟨g2,gl,g1⟩ he;obtain ⟨i,hi⟩:=List.getElem?_of_mem hx;have:=he i;rw [expAt_get hi] at this;rw [this];exact expAt_in g2 i
theorem zerM_exp (u:Nat):expAt zerM u = 0:=by
 unfold expAt zerM;rw [List.getD_eq_getElem?_getD,List.getElem?_replicate]
 split <;> rfl
def prsM (m:List Int):List (Nat × Int):=prsF (expAt m) (List.range m.length)
theorem fold_len (l:List (Nat × Int)) (m:List Int):(l.foldl putM m).length = m.length:=by
 induction l generalizing m with
 | nil=>rfl
 | cons p r ih=>rw [List.foldl_cons,ih,putM_len]
theorem prsM_back {m:List Int} (hm:monoB m = true):cutM ((prsM m).foldl putM zerM) = m:=by
 have g:=monoB_mem hm;have hz:zerM.length = 64:=by simp [zerM]
 refine cutM_eq (by rw [fold_len,hz]; omega) hm fun u=>?_
 unfold prsM;rw [prsF_exp _ _ _ List.nodup_range (fun v hv=>by rw [hz]; have:=List.mem_range.1 hv; omega),zerM_exp];have h0:=(expAt_in g.2 u).1
 split
 · omega
 ·
  next hc =>
  apply Decidable.byContradiction;intro hne;exact hc ⟨List.mem_range.2 (expAt_lt (fun e=>hne e.symm)),by omega⟩
theorem prsM_ne {m:List Int} (hm:monoB m = true) (h0:m.length ≠ 0):prsM m ≠ []:=fun e=>by
 have hb:=prsM_back hm;rw [e] at hb;have:cutM zerM = []:=by decide
 rw [List.foldl_nil,this] at hb;rw [<- hb] at h0;exact h0 rfl
theorem monG_text {names:List ByteArray} (hn:errNm names = 0) (F:Nat) (q:Rat) {m:List Int} (hm:monoB m = true) (hl:m.length <= names.length) (h0:m.length ≠ 0) {z:List UInt8} (hz:endZ z) (hs:z[0]? ≠ some 42) :
  monG names F q (facsL names (prsM m) ++ z) = .ok (q,m) z:=by
 have g:=monoB_mem hm;have hne:=prsM_ne hm h0;have hb:=prsM_back hm;have hlen:=prsF_len (expAt m) (List.range m.length);have hnd:=prsF_nodup (f:=expAt m) (List.nodup_range (n:=m.length));have hmem:∀ p ∈ prsM m,goodP names p /\ expAt zerM p.1 = 0:=fun p hp=>by
  obtain ⟨h1,h2,h3⟩:=prsF_mem hp;have h1':=List.mem_range.1 h1;refine ⟨⟨by omega,by omega,by omega,?_⟩,zerM_exp _⟩;rw [h2]; exact (expAt_in g.2 _).2
 unfold monG
 change (prsM m).length <= _ at hlen
 change ((prsM m).map (·.1)).Nodup at hnd
 generalize prsM m = l at hne hb hlen hnd hmem ⊢
 cases l with
 | nil=>exact absurd rfl hne
 | cons p r =>
  have hlo:r.length < (facsL names (p :: r) ++ z).length + 1:=by
   have:r.length <= (r.flatMap fun q=>42 :: facL names q).length:=by
    clear hne hb hlen hnd hmem
    induction r with
    | nil=>simp
    | cons x r ih=>rw [List.flatMap_cons,List.length_append,List.length_cons,List.length_cons]; omega
   unfold facsL;rw [List.length_append,List.length_append]; omega
  rw [proG_text hn F hz hs p r _ zerM hlo (by simp [zerM]) hmem hnd];unfold Got.bnd;dsimp only;rw [hb]
theorem ofL_list (l:List UInt8):(ofL l).data.toList = l:=by unfold ofL; simp
theorem absQ_nonneg (q:Rat):0 <= absQ q:=by
 unfold absQ
 split
 · next h=>have:=Rat.neg_le_neg (Rat.le_of_lt h); simpa using this
 · next h=>exact Rat.not_lt.1 h
theorem textQ_pos {q:Rat} (h:0 <= q):textQ q = if q.den = 1 then textN q.num.natAbs else textN q.num.natAbs ++ 47 :: textN q.den:=by
 have hn:decide (q.num < 0) = false:=by
  have:=Rat.num_nonneg.2 h;simp; omega
 unfold textQ textF trip textZ;dsimp only;rw [hn];simp
theorem qv_back {q:Rat} (h:0 <= q):qv false q.num.natAbs q.den = q:=by
 have hn:decide (q.num < 0) = false:=by
  have:=Rat.num_nonneg.2 h;simp; omega
 have:=qv_parts q
 rwa [hn] at this
def shortQ (q:Rat):Prop:=(textN q.num.natAbs).length <= 1000 /\ (textN q.den).length <= 1000
theorem numL_textQ {q:Rat} (h:0 <= q) (z:List UInt8) (hz:frontN digU z):numL (textQ q ++ z) ≠ 0:=by
 have h1:=textN_pos q.num.natAbs;rw [textQ_pos h]
 split
 · rw [numL_text _ _ hz]; omega
 · rw [List.append_assoc,numL_text _ _ (fun c hc=>by simp at hc; subst hc; decide)]; omega
theorem cofG_text {q:Rat} (h:0 <= q) (hs:shortQ q) {z:List UInt8} (hz:endZ z) (h47:z[0]? ≠ some 47):cofG (textQ q ++ z) = .ok q z:=by
 have hb:=qv_back h;rw [textQ_pos h];unfold cofG
 split
 ·
  next hd =>
  rw [numG_text _ _ hz.dig hs.1];unfold Got.bnd;dsimp only;rw [if_neg h47,decL_text,<- hd,hb]
 ·
  next hd =>
  rw [List.append_assoc,numG_text _ _ (fun c hc=>by simp at hc; subst hc; decide) hs.1];unfold Got.bnd;dsimp only;rw [if_pos (by simp),List.cons_append,List.drop_one,List.tail_cons,numG_text _ _ hz.dig hs.2];dsimp only;rw [decL_text,decL_text,if_neg q.den_nz,hb]
theorem facP_list (names:List ByteArray) (v:Nat) (x:Int):(facP names v x).map (·.data.toList) = if 0 < x then [facL names (v,x)] else []:=by
 unfold facP facL;by_cases h1:x = 1
 · rw [if_pos h1,if_pos (by omega),if_pos h1]; rfl
 ·
  rw [if_neg h1];by_cases h2:1 < x
  ·
   rw [if_pos h2,if_pos (by omega),if_neg h1];simp [ByteArray.data_append,ofL_list]
  · rw [if_neg h2,if_neg (by omega)]; rfl
theorem facs_list (names:List ByteArray) (f:Nat -> Int):∀ vs:List Nat,(vs.flatMap fun v=>facP names v (f v)).map (·.data.toList) = (prsF f vs).map (facL names)
 | []=>rfl
 | v :: vs=>by
  rw [List.flatMap_cons,List.map_append,facP_list,facs_list names f vs,prsF_cons]
  split <;> simp
theorem joinTail_flat (r:List (List UInt8)):Lib.joinTail [42] r = r.flatMap fun x=>42 :: x:=by
 unfold Lib.joinTail
 induction r with
 | nil=>rfl
 | cons x r ih=>rw [List.map_cons,List.flatten_cons,List.flatMap_cons,ih]; rfl
def termL (names:List ByteArray) (q:Rat) (m:List Int):List UInt8:=if m.length = 0 \/ absQ q ≠ 1 then textQ (absQ q) ++ (prsM m).flatMap fun p=>42 :: facL names p else facsL names (prsM m)
theorem termB_list (names:List ByteArray) (q:Rat) (m:List Int):(termB q m names).data.toList = termL names q m:=by
 have e:(termB q m names).data.toList = Lib.join ((partsT q m names m.length).map (·.data.toList)) [42]:=ofL_list _;rw [e];unfold partsT cofP termL;rw [List.map_append,facs_list]
 change Lib.join (_ ++ (prsM m).map (facL names)) [42] = _
 split
 · rw [List.map_cons,List.map_nil,List.singleton_append,Lib.join_cons,joinTail_flat,ofL_list,List.flatMap_map]
 ·
  rw [List.map_nil,List.nil_append];generalize prsM m = l
  cases l with
  | nil=>rfl
  | cons p r=>rw [List.map_cons,Lib.join_cons,joinTail_flat,List.flatMap_map]; rfl
theorem facL_front {names:List ByteArray} (hn:errNm names = 0) {p:Nat × Int} (h:goodP names p) (z:List UInt8):∃ c r,facL names p ++ z = c :: r /\ letU c = true:=by
 have hm:=(errNm_zero hn).1 _ (List.mem_of_getElem? (nameA_at h.1));have hm':nameV (nameA names p.1).data.toList = true:=hm;have:∃ c r,(nameA names p.1).data.toList = c :: r /\ letU c = true:=by
  cases hx:(nameA names p.1).data.toList with
  | nil=>rw [hx] at hm'; cases hm'
  | cons c r =>
   rw [hx] at hm';have h':(letV c.toNat && r.all wordV) = true:=hm';exact ⟨c,r,rfl,(Bool.and_eq_true _ _ ▸ h').1⟩
 obtain ⟨c,r,e,hc⟩:=this;unfold facL
 split
 · exact ⟨c,r ++ z,by rw [e]; rfl,hc⟩
 · exact ⟨c,_,by rw [e]; rfl,hc⟩
theorem numL_letter {c:UInt8} (r:List UInt8) (h:letU c = true):numL (c :: r) = 0:=by
 rw [numL,if_neg];unfold letU letV at h;unfold digU digV;rw [decide_eq_true_eq] at h;simp
 omega
theorem prsM_good {names:List ByteArray} {m:List Int} (hm:monoB m = true) (hl:m.length <= names.length):∀ p ∈ prsM m,goodP names p:=fun p hp=>by
 have g:=monoB_mem hm;obtain ⟨h1,h2,h3⟩:=prsF_mem hp;have h1':=List.mem_range.1 h1;exact ⟨by omega,by omega,by omega,by rw [h2]; exact (expAt_in g.2 _).2⟩
theorem terG_text {names:List ByteArray} (hn:errNm names = 0) {q:Rat} {m:List Int} (hm:monoB m = true) (hl:m.length <= names.length) (hs:shortQ (absQ q)) {z:List UInt8} (hz:endZ z) (h42:z[0]? ≠ some 42) (h47:z[0]? ≠ some 47) :
  terG names (termL names q m ++ z) = .ok (absQ q,m) z:=by
 have hp:=absQ_nonneg q;have hgood:=prsM_good hm hl;unfold termL terG;by_cases h0:m.length = 0
 ·
  have e0:m = []:=List.length_eq_zero_iff.1 h0;subst e0;have hor:(([]:List Int).length = 0 \/ absQ q ≠ 1):=.inl rfl;rw [if_pos hor,show prsM [] = [] from rfl,List.flatMap_nil,List.append_nil,if_neg (numL_textQ hp _ hz.dig),cofG_text hp hs hz h47];unfold Got.bnd;dsimp only;rw [if_neg h42]
 ·
  have hne:=prsM_ne hm h0;have hb:=fun F q'=>monG_text hn F q' hm hl h0 hz h42
  split
  ·
   have ht:((prsM m).flatMap fun p=>42 :: facL names p) = 42 :: facsL names (prsM m):=by
    generalize prsM m = l at hne ⊢
    cases l with
    | nil=>exact absurd rfl hne
    | cons p r=>rw [List.flatMap_cons]; rfl
   have hz2:endZ (42 :: (facsL names (prsM m) ++ z)):=fun c hc=>by simp at hc; subst hc; simp
   rw [ht,List.append_assoc,List.cons_append,if_neg (numL_textQ hp _ hz2.dig),cofG_text hp hs hz2 (by simp)];unfold Got.bnd;dsimp only;rw [if_pos (by simp),List.drop_one,List.tail_cons,hb]
  ·
   next hc =>
   have hq:absQ q = 1:=Decidable.byContradiction fun e=>hc (.inr e)
   have hf:numL (facsL names (prsM m) ++ z) = 0:=by
    generalize prsM m = l at hne hgood ⊢
    cases l with
    | nil=>exact absurd rfl hne
    | cons p r =>
     unfold facsL;rw [List.append_assoc];obtain ⟨c,r',e,hc⟩:=facL_front hn (hgood p (by simp)) ((r.flatMap fun q=>42 :: facL names q) ++ z);rw [e];exact numL_letter r' hc
   rw [if_pos hf,hb,hq]
def trmQ (t:Trm):Rat × List Int:=(t.coef.q,t.mono)
theorem sgnT_back (q:Rat) (m:List Int):sgnT (decide (q < 0)) (absQ q,m) = (q,m):=by
 unfold sgnT absQ;by_cases h:q < 0
 · simp [h,Rat.neg_neg]
 · simp [h]
def sepL (q:Rat):List UInt8:=if q < 0 then [32,45,32] else [32,43,32]
def tailL (names:List ByteArray) (l:List Trm):List UInt8:=l.flatMap fun t=>sepL t.coef.q ++ termL names t.coef.q t.mono
def goodT (names:List ByteArray) (t:Trm):Prop:=monoB t.mono = true /\ t.mono.length <= names.length /\ shortQ (absQ t.coef.q)
theorem tailL_end (names:List ByteArray) (l:List Trm):endZ (tailL names l) /\ (tailL names l)[0]? ≠ some 42 /\ (tailL names l)[0]? ≠ some 47:=by
 cases l with
 | nil=>exact ⟨fun c hc=>by simp [tailL] at hc,by simp [tailL],by simp [tailL]⟩
 | cons t r =>
  have:(tailL names (t :: r))[0]? = some 32:=by
   unfold tailL sepL;rw [List.flatMap_cons]
   split <;> rfl
  rw [endZ,this];exact ⟨fun c hc=>by simp at hc; exact .inl hc.symm,by decide,by decide⟩
theorem sepG_text (q:Rat) (z:List UInt8):sepG (sepL q ++ z) = .ok (decide (q < 0)) z:=by
 unfold sepL;by_cases h:q < 0
 ·
  rw [if_pos h,decide_eq_true h];simp [sepG,eatG,Got.bnd]
 ·
  rw [if_neg h,decide_eq_false h];simp [sepG,eatG,Got.bnd]
theorem sumG_text {names:List ByteArray} (hn:errNm names = 0):∀ (r:List Trm) (t:Trm) (f:Nat) (acc:List (Rat × List Int)),r.length < f -> acc.length + r.length < 4000 -> (∀ x ∈ t :: r,goodT names x) ->
  sumG names f (decide (t.coef.q < 0)) acc (termL names t.coef.q t.mono ++ tailL names r) = .ok (acc ++ (t :: r).map trmQ) []
 | [],t,f + 1,acc,_,ha,hg=>by
  obtain ⟨h1,h2,h3⟩:=hg t (by simp);have he:=tailL_end names [];rw [sumG,if_neg (by simp at ha; omega),terG_text hn h1 h2 h3 he.1 he.2.1 he.2.2];unfold Got.bnd;dsimp only;rw [if_pos (show (tailL names []).length = 0 from rfl),sgnT_back]
  rfl
 | u :: r,t,f + 1,acc,hf,ha,hg=>by
  obtain ⟨h1,h2,h3⟩:=hg t (by simp);have he:=tailL_end names (u :: r);rw [List.length_cons] at hf ha;rw [sumG,if_neg (by omega),terG_text hn h1 h2 h3 he.1 he.2.1 he.2.2];have hl:(tailL names (u :: r)).length ≠ 0:=by
   unfold tailL sepL;rw [List.flatMap_cons]
   split <;> simp
  have ht:tailL names (u :: r) = sepL u.coef.q ++ (termL names u.coef.q u.mono ++ tailL names r):=by
   unfold tailL; rw [List.flatMap_cons,List.append_assoc]
  unfold Got.bnd;dsimp only;rw [if_neg hl,ht,sepG_text,sgnT_back];dsimp only
  change sumG names f (decide (u.coef.q < 0)) (acc ++ [trmQ t]) _ = _
  rw [sumG_text hn r u f (acc ++ [trmQ t]) (by omega) (by simp; omega) (fun x hx=>hg x (List.mem_cons_of_mem _ hx))];simp
 | r,t,0,acc,hf,_,_=>by omega
def bodyL (names:List ByteArray):List Trm -> List UInt8
 | []=>[]
 | t :: r=>(if t.coef.q < 0 then [45] else []) ++ (termL names t.coef.q t.mono ++ tailL names r)
theorem polyTo_list (names:List ByteArray) (t:Trm) (r:List Trm):∀ k,k <= r.length -> (polyTo (t :: r) names (k + 1)).data.toList ++ tailL names (r.drop k) = bodyL names (t :: r)
 | 0,_=>by
  rw [polyTo_succ (t:=t) rfl];unfold bodyL signP polyTo;rw [if_pos rfl,List.drop_zero];simp only [ByteArray.data_append,Array.toList_append,termB_list]
  split <;> simp
 | k + 1,h=>by
  have hk:k < r.length:=by omega
  have ih:=polyTo_list names t r k (by omega);rw [List.drop_eq_getElem_cons hk] at ih;rw [polyTo_succ (t:=r[k]) (by rw [List.getElem?_cons_succ,List.getElem?_eq_getElem hk])];rw [<- ih];unfold signP tailL sepL;rw [if_neg (by omega)];simp only [ByteArray.data_append,Array.toList_append,termB_list,List.flatMap_cons,List.append_assoc]
  split <;> simp
theorem polyTo_all (names:List ByteArray) (l:List Trm):(polyTo l names l.length).data.toList = bodyL names l:=by
 cases l with
 | nil=>rfl
 | cons t r =>
  have:=polyTo_list names t r r.length (nlr _);rw [List.drop_length] at this;simpa [tailL] using this
theorem termL_front {names:List ByteArray} (hn:errNm names = 0) {t:Trm} (ht:goodT names t) (z:List UInt8):(termL names t.coef.q t.mono ++ z)[0]? ≠ some 45:=by
 obtain ⟨h1,h2,h3⟩:=ht;have hgood:=prsM_good h1 h2;unfold termL
 split
 ·
  rw [List.append_assoc,textQ_pos (absQ_nonneg _)];have hx:∀ y,(textN (absQ t.coef.q).num.natAbs ++ y)[0]? ≠ some 45:=fun y e=>by
   have h4:=numL_text (absQ t.coef.q).num.natAbs [] (fun c hc=>by simp at hc);have h5:=textN_pos (absQ t.coef.q).num.natAbs;rw [List.append_nil] at h4
   cases hc:textN (absQ t.coef.q).num.natAbs with
   | nil=>rw [hc] at h5; simp at h5
   | cons c r =>
    rw [hc] at e h4;have e':c = 45:=by simpa using e
    subst e';have:numL (45 :: r) = 0:=by rw [numL,if_neg (by decide)]
    rw [this] at h4;simp at h4
  split
  · exact hx _
  · rw [List.append_assoc]; exact hx _
 ·
  next hc =>
  have hne:=prsM_ne h1 (fun e=>hc (.inl e));generalize prsM t.mono = l at hne hgood ⊢
  cases l with
  | nil=>exact absurd rfl hne
  | cons p r =>
   unfold facsL;rw [List.append_assoc];obtain ⟨c,r',e,hl⟩:=facL_front hn (hgood p (by simp)) ((r.flatMap fun q=>42 :: facL names q) ++ z);rw [e];intro e2;have e3:c = 45:=by simpa using e2
   subst e3;revert hl; decide
theorem reaG_text {names:List ByteArray} (hn:errNm names = 0) {l:List Trm} (h0:l ≠ []) (hl:l.length <= 4000) (hg:∀ t ∈ l,goodT names t):reaG names (bodyL names l) = .ok (l.map trmQ) []:=by
 cases l with
 | nil=>exact absurd rfl h0
 | cons t r =>
  have hlen:r.length <= (tailL names r).length:=by
   unfold tailL;clear hl hg h0
   induction r with
   | nil=>simp
   | cons x r ih=>rw [List.flatMap_cons,List.length_append,List.length_append,List.length_cons]; have:(sepL x.coef.q).length = 3:=by { unfold sepL; split <;> rfl }; omega
  rw [List.length_cons] at hl;rw [bodyL];unfold reaG;by_cases hs:t.coef.q < 0
  ·
   rw [if_pos hs,if_pos (by rfl)];have:=sumG_text hn r t ([45] ++ (termL names t.coef.q t.mono ++ tailL names r)).length.succ [] (by simp; omega) (by simp; omega) hg;rw [decide_eq_true hs] at this;exact this
  ·
   rw [if_neg hs,List.nil_append,if_neg (termL_front hn (hg t (by simp)) _)];have:=sumG_text hn r t (termL names t.coef.q t.mono ++ tailL names r).length.succ [] (by rw [List.length_append]; omega) (by simp; omega) hg;rw [decide_eq_false hs] at this;exact this
theorem reaG_zero (names:List ByteArray):reaG names [48] = .ok [(0,[])] []:=by
 have h:(digU 48) = true:=by decide
 simp [reaG,sumG,terG,cofG,numG,numL,h,Got.bnd,decL,sgnT,qv_zero]
def oneP (t:Tm):List Tm:=if t.1 = 0 then [] else [t]
def normP (l:List Tm):List Tm:=l.foldl (fun p t=>addP p (oneP t)) []
theorem oneP_ok {B:Int} {t:Tm} (h:Mok B t.2):Pok B (oneP t):=by
 unfold oneP
 split
 · exact Pok.nil B
 · next h0=>exact (Pok.nil B).cons h h0 fun s hs=>by cases hs
theorem oneP_coef (t:Tm) (m:List Int):coefP (oneP t) m = if t.2 = m then t.1 else 0:=by
 unfold oneP
 split
 · next h=>rw [h]; simp [coefP]
 · rw [coefP_cons]; simp [coefP,Rat.add_zero]
theorem normP_from {B:Int}:∀ (l p:List Tm),Pok B p -> (∀ t ∈ l,Mok B t.2) -> Pok B (l.foldl (fun p t=>addP p (oneP t)) p) /\ ∀ m,coefP (l.foldl (fun p t=>addP p (oneP t)) p) m = coefP p m + coefP l m
 | [],p,hp,_=>⟨hp,fun m=>by simp [coefP,Rat.add_zero]⟩
 | t :: l,p,hp,hl=>by
  have h1:=oneP_ok (hl t (by simp));obtain ⟨h2,h3⟩:=normP_from l _ (addP_ok hp h1) fun x hx=>hl x (by simp [hx])
  refine ⟨h2,fun m=>?_⟩;rw [List.foldl_cons,h3,coefP_add hp.1 h1.1,oneP_coef,coefP_cons,Rat.add_assoc]
theorem normP_ok {B:Int} {l:List Tm} (h:∀ t ∈ l,Mok B t.2):Pok B (normP l) /\ ∀ m,coefP (normP l) m = coefP l m:=by
 obtain ⟨h1,h2⟩:=normP_from l [] (Pok.nil B) h;exact ⟨h1,fun m=>by unfold normP; rw [h2]; simp [coefP,Rat.zero_add]⟩
theorem normP_self {B:Int} {p:List Tm} (h:Pok B p):normP p = p:=by
 obtain ⟨h1,h2⟩:=normP_ok fun t ht=>(h.1 t ht).1
 exact pok_ext h1 h h2
theorem sumC_ones:∀ (l:List Tm) (m:List Int),sumC ((l.filter fun t=>!(decide (t.1 = 0))).map fun t=>[t]) m = coefP l m
 | [],m=>rfl
 | t :: l,m=>by
  rw [List.filter_cons,coefP_cons,<- sumC_ones l m];by_cases h:t.1 = 0
  · rw [if_neg (by simp [h]),h]; simp [Rat.zero_add]
  ·
   rw [if_pos (by simp [h]),List.map_cons,sumC,coefP_cons];simp [coefP,Rat.add_zero]
theorem normP_halves {B:Int} {l:List Tm} (h:∀ t ∈ l,Mok B t.2):halvesP ((l.filter fun t=>!(decide (t.1 = 0))).map fun t=>[t]) = normP l:=by
 obtain ⟨h1,h2⟩:=normP_ok h;have h5:∀ p ∈ (l.filter fun t=>!(decide (t.1 = 0))).map fun t=>[t],Pok B p:=fun p hp=>by
  obtain ⟨t,ht,rfl⟩:=List.mem_map.1 hp;rw [List.mem_filter] at ht;exact (Pok.nil B).cons (h t ht.1) (by simpa using ht.2) fun s hs=>by cases hs
 obtain ⟨h3,h4⟩:=halvesP_ok _ h5;exact pok_ext h3 h1 fun m=>by rw [h4,h2,sumC_ones]
theorem monoB_ok {m:List Int} (h:monoB m = true):Mok 1048576 m:=by
 have g:=monoB_mem h;exact ⟨g.2,(fun e=>by rw [monoB_last e] at h; cases h),g.1⟩
theorem okT_fine {t:Trm} (h:okT t = true):t.coef.right = true /\ monoB t.mono = true /\ t.coef.q ≠ 0:=by
 unfold okT at h;simp only [Bool.and_eq_true,Bool.not_eq_true',decide_eq_false_iff_not] at h;refine ⟨h.1.1,h.2,fun e=>h.1.2 ?_⟩;have hr:=(right_trip h.1.1).2.1;rw [e] at hr;rw [<- hr,show (0:Rat).num.natAbs = 0 from rfl,limbs_zero]
 rfl
theorem polyB_at {l:List Trm} (h:polyB l = true) {i:Nat} (hi:i < l.length):badAt l i = false:=by
 unfold polyB at h;rw [List.all_eq_true] at h;simpa using h i (List.mem_range.2 hi)
theorem polyB_pok {l:List Trm} (h:polyB l = true):Pok 1048576 (l.map trmQ):=by
 have hok:∀ t ∈ l,okT t = true:=fun t ht=>by
  obtain ⟨i,hi⟩:=List.getElem?_of_mem ht;exact badAt_ok hi (polyB_at h (lt_of_get hi))
 refine ⟨fun s hs=>?_,?_⟩
 ·
  obtain ⟨t,ht,rfl⟩:=List.mem_map.1 hs;obtain ⟨h1,h2,h3⟩:=okT_fine (hok t ht);exact ⟨monoB_ok h2,h3⟩
 ·
  rw [List.pairwise_map];have hnext:∀ i (hi:i + 1 < l.length),gtM l[i].mono l[i + 1].mono:=fun i hi=>by
   have h1:=polyB_at h hi;rw [badAt_succ (List.getElem?_eq_getElem hi) (List.getElem?_eq_getElem (by omega)) (hok _ (List.getElem_mem hi))] at h1;rw [<- lexI_pos];have:=of_decide_eq_false h1
   omega
  rw [List.pairwise_iff_getElem];intro i j hi hj hij
  show gtM l[i].mono l[j].mono
  clear h hok
  induction j with
  | zero=>omega
  | succ j ih =>
   by_cases e:i = j
   · subst e; exact hnext i hj
   · exact gtM_trans (ih (by omega) (by omega)) (hnext j hj)
theorem normP_poly {l:List Trm} (h:polyB l = true):normP (l.map trmQ) = l.map trmQ:=normP_self (polyB_pok h)
theorem right_ext {r s:Rt} (hr:r.right = true) (hs:s.right = true) (h:r.q = s.q):r = s:=by
 obtain ⟨a1,a2,a3⟩:=right_trip hr;obtain ⟨b1,b2,b3⟩:=right_trip hs;rw [h] at a1 a2 a3
 cases r; cases s
 simp only [Rt.mk.injEq];exact ⟨a1.trans b1.symm,a2.symm.trans b2,a3.symm.trans b3⟩
theorem trmQ_ext {s t:Trm} (hs:okT s = true) (ht:okT t = true) (h:trmQ s = trmQ t):s = t:=by
 unfold trmQ at h;injection h with h1 h2
 have:=right_ext (okT_fine hs).1 (okT_fine ht).1 h1
 cases s; cases t
 simp only at this h2;subst this h2
 rfl
theorem polyB_ok {l:List Trm} (h:polyB l = true):∀ t ∈ l,okT t = true:=fun t ht=>by
 obtain ⟨i,hi⟩:=List.getElem?_of_mem ht;exact badAt_ok hi (polyB_at h (lt_of_get hi))
theorem polyQ_ext:∀ {l k:List Trm},(∀ t ∈ l,okT t = true) -> (∀ t ∈ k,okT t = true) -> l.map trmQ = k.map trmQ -> l = k
 | [],[],_,_,_=>rfl
 | [],t :: k,_,_,h=>by cases h
 | t :: l,[],_,_,h=>by cases h
 | s :: l,t :: k,hl,hk,h=>by
  rw [List.map_cons,List.map_cons] at h;injection h with h1 h2
  rw [trmQ_ext (hl s (by simp)) (hk t (by simp)) h1,polyQ_ext (fun x hx=>hl x (by simp [hx])) (fun x hx=>hk x (by simp [hx])) h2]
theorem bigB_no {l:List Trm} {n:Nat} (h:bigB l n = false):∀ t ∈ l,t.mono.length <= n:=fun t ht=>by
 unfold bigB at h;rw [List.any_eq_false] at h;have:=h t ht;simp at this
 omega
theorem printP_good {l:List Trm} {names:List ByteArray} (h:(printP l names).2 = 0):polyB l = true /\ errNm names = 0 /\ bigB l names.length = false /\ (printP l names).1.data.toList = if l.length = 0 then [48] else bodyL names l:=by
 unfold printP at h ⊢
 split
 ·
  next h1 =>
  rw [if_pos h1] at h
  split
  ·
   next h2 =>
   rw [if_pos h2] at h
   split
   · next h3=>rw [if_pos h3] at h; simp at h
   ·
    next h3 =>
    refine ⟨h1,h2,by simpa using h3,?_⟩
    split
    · rfl
    · exact polyTo_all names l
  · next h2=>rw [if_neg h2] at h; exact (h2 h).elim
 · next h1=>rw [if_neg h1] at h; cases h
def readP (names:List ByteArray) (s:List UInt8):Got (List Tm):=(reaG names s).bnd fun l r=>.ok (normP l) r
theorem readP_print {l:List Trm} {names:List ByteArray} (h:(printP l names).2 = 0) (hl:l.length <= 4000) (hs:∀ t ∈ l,shortQ (absQ t.coef.q)):readP names (printP l names).1.data.toList = .ok (l.map trmQ) []:=by
 obtain ⟨h1,h2,h3,h4⟩:=printP_good h;rw [h4];unfold readP
 split
 ·
  next h0 =>
  have e:l = []:=List.length_eq_zero_iff.1 h0;subst e;rw [reaG_zero]
  show Got.ok (normP [(0,[])]) [] = _
  have:normP [((0:Rat),([]:List Int))] = []:=by simp [normP,oneP,addP_nil]
  rw [this]
  rfl
 ·
  next h0 =>
  rw [reaG_text h2 (fun e=>h0 (by rw [e]; rfl)) hl fun t ht=>⟨(polyB_terms h1 t ht).2,bigB_no h3 t ht,hs t ht⟩]
  show Got.ok (normP (l.map trmQ)) [] = _
  rw [normP_poly h1]
def tailT (names:List ByteArray) (p:List Tm):List UInt8:=p.flatMap fun t=>sepL t.1 ++ termL names t.1 t.2
def bodyT (names:List ByteArray):List Tm -> List UInt8
 | []=>[48]
 | t :: r=>(if t.1 < 0 then [45] else []) ++ (termL names t.1 t.2 ++ tailT names r)
def bigT (p:List Tm) (n:Nat):Bool:=p.any fun t=>decide (n < t.2.length)
def printT (names:List ByteArray) (p:List Tm):List UInt8 × Int:=if errNm names = 0 then if bigT p names.length = true then ([],6) else (bodyT names p,0) else ([],errNm names)
theorem tailT_of (names:List ByteArray) (l:List Trm):tailL names l = tailT names (l.map trmQ):=by
 unfold tailL tailT; rw [List.flatMap_map]; rfl
theorem bodyT_of (names:List ByteArray) (l:List Trm):(if l.length = 0 then [48] else bodyL names l) = bodyT names (l.map trmQ):=by
 cases l with
 | nil=>rfl
 | cons t r =>
  rw [if_neg (by simp),bodyL,tailT_of]
  rfl
theorem bigT_of (l:List Trm) (n:Nat):bigB l n = bigT (l.map trmQ) n:=by unfold bigB bigT; rw [List.any_map]; rfl
theorem printT_of {names:List ByteArray} {l:List Trm} (h:polyB l = true):printP l names = (ofL (printT names (l.map trmQ)).1,(printT names (l.map trmQ)).2):=by
 unfold printP printT;rw [if_pos h,<- bigT_of,<- bodyT_of]
 split
 ·
  split
  · rfl
  ·
   split
   · rfl
   ·
    refine Prod.ext ?_ rfl;apply ba_ext;rw [polyTo_all,ofL_list]
 · rfl
def polC (names:List ByteArray) (s:List UInt8):Option (List Tm) × Int :=
 if errNm names = 0 then match readP names s with
  | .bad _ e=>(none,e)
  | .ok p _=>if printT names p = (s,0) then (some p,0) else (none,9)
 else (none,errNm names)
theorem polC_print {l:List Trm} {names:List ByteArray} (h:(printP l names).2 = 0) (hl:l.length <= 4000) (hs:∀ t ∈ l,shortQ (absQ t.coef.q)):polC names (printP l names).1.data.toList = (some (l.map trmQ),0):=by
 have h1:=readP_print h hl hs;have h2:=printP_good h;unfold polC;rw [if_pos h2.2.1,h1];dsimp only;rw [if_pos];have h3:=printT_of (names:=names) h2.1;have h4:(printT names (l.map trmQ)).2 = 0:=by rw [h3] at h; exact h
 refine Prod.ext ?_ h4;rw [h3,ofL_list]
theorem polC_form {names:List ByteArray} {s:List UInt8} {p:List Tm} {e:Int} (h:polC names s = (some p,e)):e = 0 /\ printT names p = (s,0) /\ ∃ r,readP names s = .ok p r:=by
 unfold polC at h
 split at h
 ·
  split at h
  · cases h
  ·
   next p' r hr =>
   split at h
   ·
    next hp =>
    injection h with a b
    injection a with a
    subst a;exact ⟨b.symm,hp,r,hr⟩
   · cases h
 · cases h
def cutL (b:UInt8):List UInt8 -> Option (List UInt8 × List UInt8)
 | []=>none
 | c :: r=>if c = b then some ([],r) else (cutL b r).map fun p=>(c :: p.1,p.2)
theorem cutL_at (b:UInt8):∀ (t r:List UInt8),(∀ c ∈ t,c ≠ b) -> cutL b (t ++ b :: r) = some (t,r)
 | [],r,_=>by rw [List.nil_append,cutL,if_pos rfl]
 | c :: t,r,h=>by
  rw [List.cons_append,cutL,if_neg (h c (by simp)),cutL_at b t r fun x hx=>h x (by simp [hx])]
  rfl
theorem cutL_some (b:UInt8):∀ (l t r:List UInt8),cutL b l = some (t,r) -> l = t ++ b :: r /\ ∀ c ∈ t,c ≠ b
 | [],_,_,h=>by cases h
 | c :: l,t,r,h=>by
  rw [cutL] at h
  split at h
  ·
   next hc =>
   injection h with h
   injection h with h1 h2
   subst h1 h2 hc;exact ⟨rfl,fun x hx=>by cases hx⟩
  ·
   next hc =>
   cases hl:cutL b l with
   | none=>rw [hl] at h; cases h
   | some p =>
    rw [hl] at h;injection h with h
    injection h with h1 h2
    obtain ⟨g1,g2⟩:=cutL_some b l p.1 p.2 hl;subst h1 h2;refine ⟨by rw [List.cons_append,<- g1],fun x hx=>?_⟩;rcases List.mem_cons.1 hx with e | e
    · subst e; exact hc
    · exact g2 x e
def numC (least:Nat) (s:List UInt8):Option Nat:=(List.range 65).find? fun n=>decide (least <= n) && decide (textN n = s)
theorem textN_inj {n m:Nat} (h:textN n = textN m):n = m:=by rw [<- decL_text n,h,decL_text]
theorem numC_text {least n:Nat} (h:least <= n) (hn:n <= 64):numC least (textN n) = some n:=by
 unfold numC;rw [List.find?_eq_some_iff_getElem];refine ⟨by simp [h],n,by simp; omega,by simp,fun j hj=>?_⟩;simp only [List.getElem_range,Bool.not_eq_true',Bool.and_eq_false_iff,decide_eq_false_iff_not];exact .inr fun e=>by have:=textN_inj e; omega
theorem numC_some {least n:Nat} {s:List UInt8} (h:numC least s = some n):least <= n /\ n <= 64 /\ textN n = s:=by
 unfold numC at h;have h1:=List.find?_some h;have h2:=List.mem_of_find?_eq_some h;rw [List.mem_range] at h2;simp only [Bool.and_eq_true,decide_eq_true_eq] at h1;exact ⟨h1.1,by omega,h1.2⟩
def lnF (names:List ByteArray) (p:List Trm) (x:Int):ByteArray:=⟨#[102,97,99,116,111,114,32]⟩ ++ ofL (textN x.toNat) ++ ⟨#[32]⟩ ++ (printP p names).1
def lnC (names:List ByteArray) (p:List Trm):ByteArray:=⟨#[99,111,102,97,99,116,111,114,32]⟩ ++ (printP p names).1
def ln0 (n:Int):ByteArray:=⟨#[112,111,119,101,114,32]⟩ ++ ofL (textN n.toNat)
def lnsF (names:List ByteArray) (F:List (List Trm)) (P:List Int) (n:Int) (k:Nat):List ByteArray:=ln0 n :: (List.range k).map fun i=>lnF names (F.getD i []) (P.getD i 0)
def lnsC (names:List ByteArray) (F C:List (List Trm)) (P:List Int) (n:Int) (k:Nat):List ByteArray:=lnsF names F P n F.length ++ (List.range k).map fun i=>lnC names (C.getD i [])
theorem lnsF_succ {names:List ByteArray} {F:List (List Trm)} {P:List Int} {n:Int} {k:Nat} {p:List Trm} {x:Int} (h:F[k]? = some p) (h':P[k]? = some x):lnsF names F P n (k + 1) = lnsF names F P n k ++ [lnF names p x]:=by
 unfold lnsF;rw [List.range_succ,List.map_append];simp [h,h']
theorem lnsC_zero (names:List ByteArray) (F C:List (List Trm)) (P:List Int) (n:Int):lnsC names F C P n 0 = lnsF names F P n F.length:=by simp [lnsC]
theorem lnsC_succ {names:List ByteArray} {F C:List (List Trm)} {P:List Int} {n:Int} {k:Nat} {p:List Trm} (h:C[k]? = some p):lnsC names F C P n (k + 1) = lnsC names F C P n k ++ [lnC names p]:=by
 unfold lnsC;rw [List.range_succ,List.map_append];simp [h]
theorem lnsF_len (names:List ByteArray) (F:List (List Trm)) (P:List Int) (n:Int) (k:Nat):(lnsF names F P n k).length = k + 1:=by simp [lnsF]
theorem lnsC_len (names:List ByteArray) (F C:List (List Trm)) (P:List Int) (n:Int) (k:Nat):(lnsC names F C P n k).length = F.length + 1 + k:=by simp [lnsC,lnsF]; omega
def nlB:ByteArray:=⟨#[10]⟩
def catL (l:List ByteArray):ByteArray:=ofL (l.flatMap fun x=>x.data.toList ++ [10])
theorem catL_join (l:List ByteArray) (h:l ≠ []):joinB l nlB ++ nlB = catL l:=by
 cases l with
 | nil=>exact absurd rfl h
 | cons x r =>
  apply ba_ext;unfold catL ofL joinB nlB;rw [List.map_cons,Lib.join_cons];unfold Lib.joinTail;simp only [ByteArray.data_append,Array.toList_append,List.flatMap_cons,List.append_assoc];congr 1;clear h
  induction r with
  | nil=>rfl
  | cons y t ih =>
   simp only [List.map_cons,List.flatten_cons,List.flatMap_cons,List.append_assoc] at ih ⊢;rw [ih]
   first | done | simp
def errL (names:List ByteArray):List (List Trm) -> Int
 | []=>0
 | p :: r=>if (printP p names).2 = 0 then errL names r else (printP p names).2
theorem errL_at {names:List ByteArray} {l:List (List Trm)} {k:Nat} {p:List Trm} (h:l[k]? = some p):errL names (l.drop k) = if (printP p names).2 = 0 then errL names (l.drop (k + 1)) else (printP p names).2:=by
 have hk:=lt_of_get h;rw [List.drop_eq_getElem_cons hk,show l[k] = p from (List.getElem?_eq_some_iff.1 h).2,errL]
theorem errL_end (names:List ByteArray) (l:List (List Trm)):errL names (l.drop l.length) = 0:=by rw [List.drop_length]; rfl
def endB:ByteArray:=⟨#[101,110,100,10]⟩
def textC (names:List ByteArray) (F C:List (List Trm)) (P:List Int) (n:Int) (b:Bool):ByteArray × Int :=
 if b = true then if errL names F = 0 then if errL names C = 0 then (catL (lnsC names F C P n C.length) ++ endB,0) else (⟨#[]⟩,errL names C) else (⟨#[]⟩,errL names F) else (⟨#[]⟩,1)
theorem printP_size {p:List Trm} {names:List ByteArray} (hq:∀ t ∈ p,(termB t.coef.q t.mono names).size <= 1400000000) (hl:p.length <= 1000):(printP p names).1.size <= 1400000003000:=by
 unfold printP
 split
 ·
  split
  ·
   split
   · exact Nat.zero_le _
   ·
    split
    · show 1 <= _; omega
    · exact Nat.le_trans (polyTo_size hq _) (Nat.le_trans (Nat.mul_le_mul_right _ hl) (by omega))
  · exact Nat.zero_le _
 · exact Nat.zero_le _
theorem catL_size {L:Nat}:∀ {l:List ByteArray},shortP L l -> (catL l).size <= l.length * (L + 1)
 | [],_=>Nat.zero_le _
 | x :: r,h=>by
  have ih:=catL_size (l:=r) fun s hs=>h s (by simp [hs])
  have hx:=h x (by simp);have e:(catL (x :: r)).size = x.size + 1 + (catL r).size:=by
   unfold catL;rw [ofL_size,ofL_size,List.flatMap_cons,List.length_append,List.length_append]
   show x.data.toList.length + 1 + _ = x.data.size + 1 + _
   simp
  rw [e,List.length_cons,Nat.succ_mul]
  omega
theorem lnsC_short {M:Nat} {names:List ByteArray} {F C:List (List Trm)} {P:List Int} {n:Int} (hF:∀ p ∈ F,(printP p names).1.size <= M) (hC:∀ p ∈ C,(printP p names).1.size <= M) (hP:∀ x ∈ P,x <= 64) (hl:P.length = F.length) (hn:n <= 64) (k:Nat) (hk:k <= C.length) :
  shortP (M + 100) (lnsC names F C P n k):=by
 intro s hs;unfold lnsC lnsF at hs;simp only [List.cons_append,List.mem_cons,List.mem_append,List.mem_map,List.mem_range] at hs;rcases hs with rfl | ⟨i,hi,rfl⟩ | ⟨i,hi,rfl⟩
 ·
  unfold ln0;have:=digs_1m n (by omega);rw [ByteArray.size_append,ofL_size]
  show 6 + _ <= _
  omega
 ·
  obtain ⟨p,hp⟩:=get_of_lt (xs:=F) (k:=i) hi;obtain ⟨x,hx⟩:=get_of_lt (xs:=P) (k:=i) (by omega);have h1:=hF p (List.mem_of_getElem? hp);have h2:=digs_1m x (by have:=hP x (List.mem_of_getElem? hx); omega);unfold lnF;rw [List.getD_eq_getElem?_getD,List.getD_eq_getElem?_getD,hp,hx,Option.getD_some,Option.getD_some,ByteArray.size_append,ByteArray.size_append,ByteArray.size_append,ofL_size]
  show 7 + _ + 1 + _ <= _
  omega
 ·
  obtain ⟨p,hp⟩:=get_of_lt (xs:=C) (k:=i) (by omega);have h1:=hC p (List.mem_of_getElem? hp);unfold lnC;rw [List.getD_eq_getElem?_getD,hp,Option.getD_some,ByteArray.size_append]
  show 9 + _ <= _
  omega
structure CrQ where
 F:List (List Tm)
 P:List Int
 n:Int
 C:List (List Tm)
def noQ:CrQ:=⟨[],[],0,[]⟩
def wPower:List UInt8:=[112,111,119,101,114]
def wFactor:List UInt8:=[102,97,99,116,111,114]
def wCof:List UInt8:=[99,111,102,97,99,116,111,114]
def wEnd:List UInt8:=[101,110,100]
def firstQ (t:List UInt8):Option CrQ:=match cutL 32 t with
 | some (w,r)=>if w = wPower then (numC 1 r).map fun n=>⟨[],[],n,[]⟩ else none
 | none=>none
def lineQ (names:List ByteArray) (c:CrQ) (t:List UInt8):Option CrQ × Int:=match cutL 32 t with
 | none=>(none,9)
 | some (w,r) =>
  if w = wCof then match polC names r with
   | (some p,_)=>(some { c with C:=c.C ++ [p] },0)
   | (none,e)=>(none,e)
  else if w = wFactor then match cutL 32 r with
   | none=>(none,9)
   | some (d,x)=>match numC 0 d with
    | none=>(none,9)
    | some k=>if c.C = [] then match polC names x with
      | (some p,_)=>if p = [] then (none,3) else (some { c with F:=c.F ++ [p],P:=c.P ++ [(k:Int)] },0)
      | (none,e)=>(none,e)
     else (none,9)
  else (none,9)
def restQ (names:List ByteArray):Nat -> Nat -> CrQ -> List UInt8 -> CrQ × Nat × Int
 | 0,_,_,_=>(noQ,0,0)
 | f + 1,n,c,s=>match cutL 10 s with
  | none=>(noQ,n,10)
  | some (t,r)=>if t = wEnd then (if r = [] then (c,0,0) else match cutL 10 r with
    | none=>(noQ,n + 1,10)
    | some _=>(noQ,n + 1,9))
   else match lineQ names c t with
    | (some c',_)=>restQ names f (n + 1) c' r
    | (none,e)=>(noQ,n,e)
def readQ (names:List ByteArray) (s:List UInt8):CrQ × Nat × Int:=match cutL 10 s with
 | none=>(noQ,1,10)
 | some (t,r)=>match firstQ t with
  | none=>(noQ,1,9)
  | some c=>restQ names (r.length + 1) 2 c r
def oneL (l:List UInt8):Prop:=∀ c ∈ l,c ≠ 10
def lnFQ (x:Int) (t:List UInt8):List UInt8:=wFactor ++ 32 :: (textN x.toNat ++ 32 :: t)
def lnCQ (t:List UInt8):List UInt8:=wCof ++ 32 :: t
theorem noSp_text (n:Nat):∀ c ∈ textN n,c ≠ 32 /\ c ≠ 10:=fun c hc=>by
 have h:digU c = true:=by
  unfold textN at hc
  split at hc
  · simp at hc; subst hc; decide
  · exact digs_all n c hc
 constructor <;> (intro e; subst e; revert h; decide)
theorem lineQ_cof {names:List ByteArray} {c:CrQ} {t:List UInt8} {p:List Tm} (h:polC names t = (some p,0)):lineQ names c (lnCQ t) = (some { c with C:=c.C ++ [p] },0):=by
 unfold lineQ lnCQ;rw [cutL_at 32 wCof t (by decide)];dsimp only;rw [if_pos rfl,h]
theorem lineQ_fac {names:List ByteArray} {c:CrQ} {t:List UInt8} {p:List Tm} {x:Int} (hx:0 <= x /\ x <= 64) (hc:c.C = []) (hp:p ≠ []) (h:polC names t = (some p,0)):lineQ names c (lnFQ x t) = (some { c with F:=c.F ++ [p],P:=c.P ++ [x] },0):=by
 unfold lineQ lnFQ;rw [cutL_at 32 wFactor _ (by decide)];dsimp only;rw [if_neg (by decide),if_pos rfl,cutL_at 32 (textN x.toNat) t fun d hd=>(noSp_text _ d hd).1];dsimp only;rw [numC_text (Nat.zero_le _) (by omega)];dsimp only;rw [if_pos hc,h];dsimp only;rw [if_neg hp,Int.toNat_of_nonneg hx.1]
theorem wEnd_other {w t:List UInt8} (hw:w ≠ wEnd.take w.length):w ++ t ≠ wEnd:=fun e=>hw (by rw [<- e,List.take_left])
theorem restQ_cofs {names:List ByteArray}:∀ (L:List (List UInt8 × List Tm)) (f n:Nat) (c:CrQ),L.length < f -> (∀ x ∈ L,polC names x.1 = (some x.2,0) /\ oneL x.1) ->
  restQ names f n c ((L.flatMap fun x=>lnCQ x.1 ++ [10]) ++ (wEnd ++ [10])) = ({ c with C:=c.C ++ L.map (·.2) },0,0)
 | [],f + 1,n,c,_,_=>by
  rw [List.flatMap_nil,List.nil_append,restQ,show wEnd ++ [10] = wEnd ++ 10 :: [] from rfl,cutL_at 10 wEnd [] (by decide)];dsimp only;rw [if_pos rfl,if_pos rfl];simp
 | x :: L,f + 1,n,c,hf,hL=>by
  obtain ⟨h1,h2⟩:=hL x (by simp);rw [List.flatMap_cons,show (lnCQ x.1 ++ [10] ++ (L.flatMap fun x=>lnCQ x.1 ++ [10])) ++ (wEnd ++ [10]) = lnCQ x.1 ++ 10 :: ((L.flatMap fun x=>lnCQ x.1 ++ [10]) ++ (wEnd ++ [10])) by simp,restQ];rw [cutL_at 10 (lnCQ x.1) _ fun d hd=>by
   unfold lnCQ at hd;rcases List.mem_append.1 hd with hd | hd
   · exact (by decide:∀ d ∈ wCof,d ≠ 10) d hd
   ·
    rcases List.mem_cons.1 hd with e | hd
    · subst e; decide
    · exact h2 d hd]
  dsimp only;rw [if_neg (by unfold lnCQ; exact wEnd_other (by decide)),lineQ_cof h1];dsimp only;rw [restQ_cofs L f (n + 1) _ (by simp at hf; omega) fun y hy=>hL y (by simp [hy])];simp
 | L,0,_,_,hf,_=>by omega
theorem restQ_facs {names:List ByteArray}:∀ (L:List (Int × List UInt8 × List Tm)) (K:List (List UInt8 × List Tm)) (f n:Nat) (c:CrQ),L.length + K.length < f -> c.C = [] -> (∀ x ∈ L,(0 <= x.1 /\ x.1 <= 64) /\ polC names x.2.1 = (some x.2.2,0) /\ oneL x.2.1 /\ x.2.2 ≠ []) -> (∀ x ∈ K,polC names x.1 = (some x.2,0) /\ oneL x.1) ->
  restQ names f n c ((L.flatMap fun x=>lnFQ x.1 x.2.1 ++ [10]) ++ ((K.flatMap fun x=>lnCQ x.1 ++ [10]) ++ (wEnd ++ [10]))) = (⟨c.F ++ L.map (·.2.2),c.P ++ L.map (·.1),c.n,K.map (·.2)⟩,0,0)
 | [],K,f,n,c,hf,hc,_,hK=>by
  rw [List.flatMap_nil,List.nil_append,restQ_cofs K f n c (by simp at hf; omega) hK,hc];simp
 | x :: L,K,f + 1,n,c,hf,hc,hL,hK=>by
  obtain ⟨h0,h1,h2,h3⟩:=hL x (by simp);rw [List.flatMap_cons,show (lnFQ x.1 x.2.1 ++ [10] ++ (L.flatMap fun x=>lnFQ x.1 x.2.1 ++ [10])) ++ ((K.flatMap fun x=>lnCQ x.1 ++ [10]) ++ (wEnd ++ [10])) = lnFQ x.1 x.2.1 ++ 10 :: ((L.flatMap fun x=>lnFQ x.1 x.2.1 ++ [10]) ++ ((K.flatMap fun x=>lnCQ x.1 ++ [10]) ++ (wEnd ++ [10]))) by simp,restQ];rw [cutL_at 10 (lnFQ x.1 x.2.1) _ fun d hd=>by
   unfold lnFQ at hd;rcases List.mem_append.1 hd with hd | hd
   · exact (by decide:∀ d ∈ wFactor,d ≠ 10) d hd
   ·
    rcases List.mem_cons.1 hd with e | hd
    · subst e; decide
    ·
     rcases List.mem_append.1 hd with hd | hd
     · exact (noSp_text _ d hd).2
     ·
      rcases List.mem_cons.1 hd with e | hd
      · subst e; decide
      · exact h2 d hd]
  dsimp only;rw [if_neg (by unfold lnFQ; exact wEnd_other (by decide)),lineQ_fac h0 hc h3 h1];dsimp only;rw [restQ_facs L K f (n + 1) { c with F:=c.F ++ [x.2.2],P:=c.P ++ [x.1] } (by simp at hf; omega) hc (fun y hy=>hL y (by simp [hy])) hK];simp
 | L,K,0,_,_,hf,_,_,_=>by omega
theorem readQ_text {names:List ByteArray} {n:Int} (hn:1 <= n /\ n <= 64) {L:List (Int × List UInt8 × List Tm)} {K:List (List UInt8 × List Tm)} (hL:∀ x ∈ L,(0 <= x.1 /\ x.1 <= 64) /\ polC names x.2.1 = (some x.2.2,0) /\ oneL x.2.1 /\ x.2.2 ≠ []) (hK:∀ x ∈ K,polC names x.1 = (some x.2,0) /\ oneL x.1) :
  readQ names (wPower ++ 32 :: (textN n.toNat ++ 10 :: ((L.flatMap fun x=>lnFQ x.1 x.2.1 ++ [10]) ++ ((K.flatMap fun x=>lnCQ x.1 ++ [10]) ++ (wEnd ++ [10]))))) = (⟨L.map (·.2.2),L.map (·.1),n,K.map (·.2)⟩,0,0):=by
 have e:wPower ++ 32 :: (textN n.toNat ++ 10 :: ((L.flatMap fun x=>lnFQ x.1 x.2.1 ++ [10]) ++ ((K.flatMap fun x=>lnCQ x.1 ++ [10]) ++ (wEnd ++ [10])))) = (wPower ++ 32 :: textN n.toNat) ++ 10 :: ((L.flatMap fun x=>lnFQ x.1 x.2.1 ++ [10]) ++ ((K.flatMap fun x=>lnCQ x.1 ++ [10]) ++ (wEnd ++ [10]))):=by simp
 unfold readQ;rw [e,cutL_at 10 (wPower ++ 32 :: textN n.toNat) _ fun d hd=>by
  rcases List.mem_append.1 hd with hd | hd
  · exact (by decide:∀ d ∈ wPower,d ≠ 10) d hd
  ·
   rcases List.mem_cons.1 hd with e | hd
   · subst e; decide
   · exact (noSp_text _ d hd).2]
 dsimp only;have h1:firstQ (wPower ++ 32 :: textN n.toNat) = some ⟨[],[],n,[]⟩:=by
  unfold firstQ;rw [cutL_at 32 wPower _ (by decide)];dsimp only;rw [if_pos rfl,numC_text (by omega) (by omega)]
  show some (CrQ.mk [] [] ((n.toNat:Nat):Int) []) = _
  rw [Int.toNat_of_nonneg (by omega)]
 rw [h1];dsimp only;have hlen:∀ {α:Type} (g:α -> List UInt8) (M:List α),M.length <= (M.flatMap fun x=>g x ++ [10]).length:=fun g M=>by
  induction M with
  | nil=>simp
  | cons y M ih=>rw [List.flatMap_cons,List.length_append,List.length_append,List.length_cons,List.length_singleton]; omega
 have a1:=hlen (fun x:Int × List UInt8 × List Tm=>lnFQ x.1 x.2.1) L;have a2:=hlen (fun x:List UInt8 × List Tm=>lnCQ x.1) K;rw [restQ_facs L K _ 2 ⟨[],[],n,[]⟩ (by simp only [List.length_append]; omega) rfl hL hK]
 rfl
end Go.Proofs.YtkjnkpkagcboeaaGreatDoor
