/- A polynomial read from a text, plain; numerals. -/
import Derived.Test.YtkjnkpkagcboeaaGreatDoorPp14
import Derived.Test.YtkjnkpkagcboeaaGreatDoorPp1
import Derived.Test.YtkjnkpkagcboeaaGreatDoorPp13
import Derived.Shelf.Strings.OnBuilder
import Derived.Test.YtkjnkpkagcboeaaGreatDoorPp11
import Derived.Test.YtkjnkpkagcboeaaGreatDoorPp2
import Derived.Test.YtkjnkpkagcboeaaGreatDoorPp9
import Derived.Laws.RangeString
import Derived.Test.YtkjnkpkagcboeaaGreatDoorProg
import Derived.Laws.RangeAny
import Derived.Test.YtkjnkpkagcboeaaGreatDoorPp4
set_option linter.all false
set_option maxRecDepth 100000
set_option maxHeartbeats 4000000
namespace Go.Proofs
open Go.Shelf
def Tryz.lays156_ren : Go.Shelf.Ren := ⟨fun | 156 => 50 | 165 => 96 | 166 => 29 | 169 => 31 | 240 => 57 | 241 => 138 | 276 => 105 | 277 => 182 | n => n, fun | 31 => 24 | 9 => 9 | 3 => 3 | 4 => 4 | 0 => 0 | 20 => 20 | 72 => 62 | 76 => 66 | 70 => 59 | 37 => 60 | 75 => 65 | 127 => 108 | 164 => 140 | 5 => 5 | 80 => 69 | n => n, fun | n => n⟩
theorem Tryz.lays156 : Go.Proofs.Lays.n156 Tryz.prog Tryz.lays156_ren := {
  mixed := by kernel_rfl
  f156 := Tryz.func50.trans (congrArg some (by kernel_rfl))
  f165 := Tryz.func96.trans (congrArg some (by kernel_rfl))
  f166 := Tryz.func29.trans (congrArg some (by kernel_rfl))
  f169 := Tryz.func31.trans (congrArg some (by kernel_rfl))
  f240 := Tryz.func57.trans (congrArg some (by kernel_rfl))
  f241 := Tryz.func138.trans (congrArg some (by kernel_rfl))
  f276 := Tryz.func105.trans (congrArg some (by kernel_rfl))
  f277 := Tryz.func182.trans (congrArg some (by kernel_rfl))
  t0 := Tryz.underlying0
  a0 := Tryz.isAgg0
  z0 := Tryz.sizeOf0
  v0 := Tryz.zeroValue0
  t3 := Tryz.underlying3
  a3 := Tryz.isAgg3
  z3 := Tryz.sizeOf3
  v3 := Tryz.zeroValue3
  t4 := Tryz.underlying4
  a4 := Tryz.isAgg4
  z4 := Tryz.sizeOf4
  v4 := Tryz.zeroValue4
  t9 := Tryz.underlying9
  a9 := Tryz.isAgg9
  z9 := Tryz.sizeOf9
  v9 := Tryz.zeroValue9
  t20 := Tryz.underlying20
  a20 := Tryz.isAgg20
  z20 := Tryz.sizeOf20
  v20 := Tryz.zeroValue20
  t31 := Tryz.underlying24
  a31 := Tryz.isAgg24
  z31 := Tryz.sizeOf24
  v31 := Tryz.zeroValue24
  t37 := Tryz.underlying60
  a37 := Tryz.isAgg60
  z37 := Tryz.sizeOf60
  v37 := Tryz.zeroValue60
  t70 := Tryz.underlying59
  a70 := Tryz.isAgg59
  z70 := Tryz.sizeOf59
  v70 := Tryz.zeroValue59
  t72 := Tryz.underlying62
  a72 := Tryz.isAgg62
  z72 := Tryz.sizeOf62
  v72 := Tryz.zeroValue62
  t75 := Tryz.underlying65
  a75 := Tryz.isAgg65
  z75 := Tryz.sizeOf65
  v75 := Tryz.zeroValue65
  t76 := Tryz.underlying66
  a76 := Tryz.isAgg66
  z76 := Tryz.sizeOf66
  v76 := Tryz.zeroValue66
  t127 := Tryz.underlying108
  a127 := Tryz.isAgg108
  z127 := Tryz.sizeOf108
  v127 := Tryz.zeroValue108
  t164 := Tryz.underlying140
  a164 := Tryz.isAgg140
  z164 := Tryz.sizeOf140
  v164 := Tryz.zeroValue140 }
theorem Tryz.Extra156 : Builder.Extra Tryz.prog Tryz.lays156_ren where
 sizeBuilder := by kernel_rfl
 liesBuilder := by kernel_rfl
 t5 := Tryz.underlying5
 a5 := Tryz.isAgg5
 z5 := Tryz.sizeOf5
 v5 := Tryz.zeroValue5
 infoByte := by kernel_rfl
 cellsByte := by kernel_rfl
 sizeByte := by kernel_rfl
 neB5 := by decide
end Go.Proofs
namespace Go.Proofs.YtkjnkpkagcboeaaGreatDoor
open Go.RowKit
def joinB (l : List ByteArray) (sep : ByteArray) : ByteArray := ⟨(Lib.join (l.map (·.data.toList)) sep.data.toList).toArray⟩
theorem join_any (l : List ByteArray) (sep : ByteArray) (a : Option Addr) (c : Nat) (w : World) (h : StrsR w a c l) (hN : l.length <= 140737488355328) (hlen : (joinB l sep).size <= 140737488355328) :
  Calls Tryz.prog 50 #[.slice a l.length c, .string sep] w fun e w' => e = .returned (.string (joinB l sep)) /\ Below w.heap.size w w' := by
 have hlen2 : (Lib.join (l.map (·.data.toList)) sep.data.toList).length <= 140737488355328 := by
  have : (joinB l sep).size = (Lib.join (l.map (·.data.toList)) sep.data.toList).length := by show Array.size _ = _; simp
  omega
 cases l with
 | nil => exact (Any.strings_Join_none Tryz.lays156 Tryz.Extra156 a c sep w).mono fun e w' ⟨he, hw⟩ => ⟨he, hw ▸ Below.refl _ _⟩
 | cons x r =>
  obtain ⟨b, o, rfl, h0⟩ := h.2.2 0 x rfl
  have hb : b < w.heap.size := World.block_lt_of_cell? w _ h0
  refine Any.strings_Join Tryz.lays156 Tryz.Extra156 b o c (x :: r) sep w (fun j y hy => ?_) hb hN h.1 hlen2
  obtain ⟨b2, o2, e, h2⟩ := h.2.2 j y hy
  injection e with e
  injection e with e1 e2
  subst e1 e2
  simpa [StrE] using h2
end Go.Proofs.YtkjnkpkagcboeaaGreatDoor
namespace Go.Proofs.YtkjnkpkagcboeaaGreatDoor
open Go.RowKit
def starB : ByteArray := ⟨#[42]⟩
def nameA (names : List ByteArray) (v : Nat) : ByteArray := names.getD v ⟨#[]⟩
def facP (names : List ByteArray) (v : Nat) (x : Int) : List ByteArray := if x = 1 then [nameA names v] else if 1 < x then [nameA names v ++ ⟨#[94]⟩ ++ ofL (textN x.toNat)] else []
def cofP (q : Rat) (m : List Int) : List ByteArray := if m.length = 0 \/ absQ q ≠ 1 then [ofL (textQ (absQ q))] else []
def partsT (q : Rat) (m : List Int) (names : List ByteArray) (k : Nat) : List ByteArray := cofP q m ++ (List.range k).flatMap fun v => facP names v (expAt m v)
def termB (q : Rat) (m : List Int) (names : List ByteArray) : ByteArray := joinB (partsT q m names m.length) starB
theorem partsT_zero (q : Rat) (m : List Int) (names : List ByteArray) : partsT q m names 0 = cofP q m := by simp [partsT]
theorem partsT_succ {q : Rat} {m : List Int} {names : List ByteArray} {k : Nat} {x : Int} (h : m[k]? = some x) : partsT q m names (k + 1) = partsT q m names k ++ facP names k x := by
 have hx : expAt m k = x := by unfold expAt; rw [List.getD_eq_getElem?_getD, h]; rfl
 unfold partsT
 rw [List.range_succ, List.flatMap_append, List.append_assoc]
 simp [hx]
theorem facP_one (names : List ByteArray) (v : Nat) : facP names v 1 = [nameA names v] := by simp [facP]
theorem facP_more {names : List ByteArray} {v : Nat} {x : Int} (h : 1 < x) : facP names v x = [nameA names v ++ ⟨#[94]⟩ ++ ofL (textN x.toNat)] := by
 unfold facP; rw [if_neg (by omega), if_pos h]
theorem facP_none {names : List ByteArray} {v : Nat} {x : Int} (h : x < 1) : facP names v x = [] := by
 unfold facP; rw [if_neg (by omega), if_neg (by omega)]
theorem facP_len (names : List ByteArray) (v : Nat) (x : Int) : (facP names v x).length <= 1 := by unfold facP; split <;> (try split) <;> simp
theorem partsT_len (q : Rat) (m : List Int) (names : List ByteArray) (k : Nat) : (partsT q m names k).length <= k + 1 := by
 induction k with
 | zero => rw [partsT_zero]; unfold cofP; split <;> simp
 | succ k ih =>
  unfold partsT at ih ⊢
  rw [List.range_succ, List.flatMap_append, <- List.append_assoc, List.length_append]
  have := facP_len names k (expAt m k)
  simp at ih this ⊢
  omega
def shortP (L : Nat) (l : List ByteArray) : Prop := ∀ s ∈ l, s.size <= L
theorem digs_1m (x : Int) (h : x <= 1048576) : (textN x.toNat).length <= 10 := by
 unfold textN
 split
 · simp
 · exact digs_len 10 _ (by omega)
theorem facP_short {names : List ByteArray} {N : Nat} (hn : ∀ s ∈ names, s.size <= N) (v : Nat) (x : Int) (hx : x <= 1048576) : shortP (N + 11) (facP names v x) := by
 have h1 : (nameA names v).size <= N := by
  unfold nameA
  rw [List.getD_eq_getElem?_getD]
  cases h : names[v]? with
  | none => exact Nat.zero_le _
  | some s => exact hn s (List.mem_of_getElem? h)
 have h2 := digs_1m x hx
 intro s hs
 unfold facP at hs
 split at hs
 · simp at hs; subst hs; omega
 ·
  split at hs
  ·
   simp at hs
   subst hs
   rw [ByteArray.size_append, ByteArray.size_append, ofL_size]
   have : (⟨#[94]⟩ : ByteArray).size = 1 := rfl
   omega
  · cases hs
theorem partsT_short {q : Rat} {m : List Int} {names : List ByteArray} {N T : Nat} (hn : ∀ s ∈ names, s.size <= N) (hm : ∀ x ∈ m, x <= 1048576) (ht : (textQ (absQ q)).length <= T) (k : Nat) : shortP (N + 11 + T) (partsT q m names k) := by
 intro s hs
 unfold partsT at hs
 rcases List.mem_append.1 hs with hs | hs
 ·
  unfold cofP at hs
  split at hs
  · simp at hs; subst hs; rw [ofL_size]; omega
  · cases hs
 ·
  obtain ⟨v, _, hv⟩ := List.mem_flatMap.1 hs
  have hx : expAt m v <= 1048576 := by
   unfold expAt
   rw [List.getD_eq_getElem?_getD]
   cases h : m[v]? with
   | none => simp
   | some x => exact hm x (List.mem_of_getElem? h)
  have := facP_short hn v _ hx s hv
  omega
theorem joinB_size {L : Nat} : ∀ {l : List ByteArray}, shortP L l -> (joinB l starB).size <= l.length * (L + 1)
 | [], _ => Nat.zero_le _
 | x :: r, h => by
  have e : (joinB (x :: r) starB).size = (Lib.join ((x :: r).map (·.data.toList)) starB.data.toList).length := ofL_size _
  rw [e, List.map_cons, Lib.join_length]
  have e2 : ∀ (l : List ByteArray), shortP L l -> Lib.lens (l.map (·.data.toList)) <= l.length * L := by
   intro l hl
   induction l with
   | nil => simp [Lib.lens]
   | cons y t ih =>
    have h1 := hl y (by simp)
    have h2 := ih fun s hs => hl s (by simp [hs])
    have h3 : y.data.toList.length = y.size := by show y.data.toList.length = y.data.size; simp
    unfold Lib.lens at h2 ⊢
    rw [List.map_cons, List.map_cons, List.sum_cons, List.length_cons, Nat.succ_mul]
    omega
  have e3 := e2 (x :: r) h
  have e4 : starB.data.toList.length = 1 := rfl
  rw [List.map_cons] at e3
  rw [e4, List.length_map]
  rw [List.length_cons] at e3 ⊢
  rw [Nat.mul_add]
  omega
theorem ba_ext {a b : ByteArray} (h : a.data.toList = b.data.toList) : a = b := by
 cases a; cases b
 simp at h
 rw [h]
theorem joinB_one (y : ByteArray) (sep : ByteArray) : joinB [y] sep = y := by
 apply ba_ext; unfold joinB; simp [Lib.join_one]
theorem joinB_snoc (l : List ByteArray) (y sep : ByteArray) (h : l ≠ []) : joinB (l ++ [y]) sep = joinB l sep ++ sep ++ y := by
 cases l with
 | nil => exact absurd rfl h
 | cons x r =>
  apply ba_ext
  unfold joinB
  rw [List.cons_append, List.map_cons, List.map_cons, Lib.join_cons, Lib.join_cons]
  unfold Lib.joinTail
  simp [ByteArray.data_append]
theorem joinB_ne {l : List ByteArray} (h : l ≠ []) (hn : ∀ s ∈ l, s.size ≠ 0) (sep : ByteArray) : (joinB l sep).size ≠ 0 := by
 cases l with
 | nil => exact absurd rfl h
 | cons x r =>
  have e : (joinB (x :: r) sep).size = (Lib.join ((x :: r).map (·.data.toList)) sep.data.toList).length := ofL_size _
  have hx := hn x (by simp)
  rw [e, List.map_cons, Lib.join_cons, List.length_append]
  have : x.data.toList.length = x.size := by show x.data.toList.length = x.data.size; simp
  omega
theorem partsT_ne {q : Rat} {m : List Int} {names : List ByteArray} (hn : ∀ s ∈ names, s.size ≠ 0) (hl : m.length <= names.length) (ht : textQ (absQ q) ≠ []) (k : Nat) (hk : k <= m.length) : ∀ s ∈ partsT q m names k, s.size ≠ 0 := by
 intro s hs
 unfold partsT at hs
 rcases List.mem_append.1 hs with hs | hs
 ·
  unfold cofP at hs
  split at hs
  · simp at hs; subst hs; rw [ofL_size]; intro e; exact ht (List.eq_nil_of_length_eq_zero e)
  · cases hs
 ·
  obtain ⟨v, hv0, hv⟩ := List.mem_flatMap.1 hs
  have hvk := List.mem_range.1 hv0
  have h1 : (nameA names v).size ≠ 0 := by
   unfold nameA
   rw [List.getD_eq_getElem?_getD]
   obtain ⟨y, hy⟩ := get_of_lt (show v < names.length by omega)
   rw [hy]
   exact hn y (List.mem_of_getElem? hy)
  unfold facP at hv
  split at hv
  · simp at hv; subst hv; exact h1
  ·
   split at hv
   ·
    simp at hv
    subst hv
    rw [ByteArray.size_append, ByteArray.size_append]
    omega
   · cases hv
theorem textQ_ne (q : Rat) : textQ q ≠ [] := by
 have h1 : ∀ n, textN n ≠ [] := fun n => by
  unfold textN
  split
  · simp
  · next h => intro e; have := (digs_len_pos n).2 h; rw [e] at this; simp at this
 have h2 : ∀ b n, textZ b n ≠ [] := fun b n => by
  unfold textZ
  split
  · simp
  · exact h1 n
 unfold textQ textF
 split
 · exact h2 _ _
 · intro e; exact h2 _ _ (List.append_eq_nil_iff.1 e).1
def seenB (p : List Trm) (v : Nat) : Bool := p.any fun t => !(decide (expAt t.mono v = 0))
def seenC (S : Nat -> Bool) : Array Value := ((List.range 64).map fun v => Value.bool (S v)).toArray
theorem seenC_size (S : Nat -> Bool) : (seenC S).size = 64 := by simp [seenC]
theorem seenC_at (S : Nat -> Bool) (v : Nat) (h : v < 64) : (seenC S)[v]? = some (.bool (S v)) := by simp [seenC, h]
theorem seenC_set (S : Nat -> Bool) (v : Nat) : (seenC S).setIfInBounds v (.bool true) = seenC (fun u => decide (u = v) || S u) := by
 apply Array.ext_getElem?
 intro i
 rw [Array.getElem?_setIfInBounds]
 by_cases h : v = i
 ·
  subst h
  by_cases h2 : v < 64
  · rw [if_pos rfl, if_pos (by rw [seenC_size]; exact h2), seenC_at _ _ h2]; simp
  · rw [if_pos rfl, if_neg (by rw [seenC_size]; exact h2)]; simp [seenC, h2]
 ·
  rw [if_neg h]
  by_cases h2 : i < 64
  · rw [seenC_at _ _ h2, seenC_at _ _ h2, decide_eq_false (fun e => h e.symm)]; rfl
  · simp [seenC, h2]
theorem seenC_congr {S S' : Nat -> Bool} (h : ∀ v, S v = S' v) : seenC S = seenC S' := by rw [show S = S' from funext h]
theorem seenB_succ {l : List Trm} {k : Nat} {t : Trm} (h : l[k]? = some t) (v : Nat) : seenB (l.take (k + 1)) v = (seenB (l.take k) v || !(decide (expAt t.mono v = 0))) := by
 unfold seenB; rw [take_more h, List.any_append]; simp
def seenT (m : List Int) (j v : Nat) : Bool := decide (v < j) && !(decide (expAt m v = 0))
theorem seenT_all (m : List Int) (v : Nat) : seenT m m.length v = !(decide (expAt m v = 0)) := by
 unfold seenT
 by_cases h : v < m.length
 · rw [decide_eq_true h]; rfl
 ·
  have : expAt m v = 0 := by unfold expAt; rw [List.getD_eq_getElem?_getD, List.getElem?_eq_none (by omega)]; rfl
  rw [this]; simp
theorem seenT_succ {m : List Int} {j : Nat} {x : Int} (h : m[j]? = some x) (v : Nat) : seenT m (j + 1) v = (if x = 0 then seenT m j v else (decide (v = j) || seenT m j v)) := by
 have hx : expAt m j = x := by unfold expAt; rw [List.getD_eq_getElem?_getD, h]; rfl
 unfold seenT
 by_cases hv : v = j
 ·
  subst hv
  rw [hx, decide_eq_true (show v < v + 1 by omega), decide_eq_false (show ¬ v < v by omega)]
  by_cases h0 : x = 0 <;> simp [h0]
 ·
  rw [show decide (v < j + 1) = decide (v < j) by rw [decide_eq_decide]; omega, decide_eq_false hv]
  split <;> simp
def varsI (p : List Trm) (i : Nat) : List Int := ((List.range i).filter (seenB p)).map fun (v : Nat) => (v : Int)
theorem varsI_succ (p : List Trm) (i : Nat) : varsI p (i + 1) = if seenB p i = true then varsI p i ++ [(i : Int)] else varsI p i := by
 unfold varsI
 rw [List.range_succ, List.filter_append, List.map_append]
 by_cases h : seenB p i = true
 · rw [if_pos h]; simp [h]
 · rw [if_neg h]; simp [h]
theorem varsI_len (p : List Trm) (i : Nat) : (varsI p i).length <= i := by
 unfold varsI; rw [List.length_map]; exact Nat.le_trans (List.length_filter_le _ _) (by simp)
theorem varsI_in (p : List Trm) (i : Nat) : ∀ x ∈ varsI p i, 0 <= x /\ x < i := fun x hx => by
 unfold varsI at hx
 obtain ⟨v, hv, rfl⟩ := List.mem_map.1 hx
 have := List.mem_range.1 (List.mem_filter.1 hv).1
 omega
theorem seen_index (w : World) (S : Nat -> Bool) (i : Nat) (h : i < 64) : (Instr.index 101 (.agg (seenC S)) (.int .i64 i)).run Tryz.prog w = .ok (.bool (S i)) w := by
 have h1 : 0 <= (i : Int) /\ (i : Int) < ((64 : Nat) : Int) := by omega
 simp [Instr.index, run_underlying Tryz.underlying101, asIntOf, h1, go_sem]
 rw [if_pos h, seenC_at S i h]
 rfl
theorem vars_any (l : List Trm) (a : Option Addr) (c : Nat) (w : World) (h : PolyR w a c l) (hl : l.length <= 1000000) (hm : ∀ t ∈ l, t.mono.length <= 64) :
  Calls Tryz.prog 27 #[.slice a l.length c] w fun e w' => ∃ a' c', e = .returned (.slice a' (varsI l 64).length c') /\ IntsR w' a' c' (varsI l 64) /\ Below w.heap.size w w' := by
 have HL := Hd h; have HM := Hd hm
 clear h hm
 go_enter Tryz.func27, Tryz.ntmps27
 go_wp2
 refine world_gen (fun W => Blk W w.heap.size 101 (seenC fun _ => false) /\ Below w.heap.size w W) ⟨Blk.new w _ _, by go_grown⟩ ?_
 rintro w0 ⟨hz, hw0⟩
 obtain ⟨g0, hg0⟩ : ∃ g, g = w.heap.size := ⟨_, rfl⟩
 rw [<- hg0] at hz ⊢
 have hgw : w.heap.size <= g0 := by omega
 replace hg0 := Hd hg0
 go_loopg [5, 6, 7, 13] l.length (fun n _ _ _ s13 wr => ∃ k : Nat, Hid (k + n = l.length) /\ s13 = .int .i64 k /\ Blk wr g0 101 (seenC (seenB (l.take k))) /\ Below w.heap.size w wr)
 case atStart => exact ⟨0, by show _ = _; omega, rfl, hz, hw0⟩
 case round =>
  clear hz hw0
  obtain ⟨k, hk, rfl, hz, hwr⟩ := hrel
  by_cases hlt : k < l.length
  ·
   obtain ⟨t, ht⟩ := get_of_lt hlt
   obtain ⟨b, o, rfl, p, hC, hR⟩ := HL.out.2.2 k t ht
   obtain ⟨c0, c1, c2, c3⟩ := hC
   have d0 := held c0 wr hwr; have d1 := held c1 wr hwr; have d2 := held c2 wr hwr; have d3 := held c3 wr hwr
   have hbl : b < wr.heap.size := World.block_lt_of_cell? wr _ d0
   have hml := HM.out t (List.mem_of_getElem? ht)
   have HI := Hd (fun W (hW : Below w.heap.size w W) => hR.1.ext (xbw hW))
   have ht2 := Hd ht
   have hzl := hz.lt
   obtain ⟨wo, rfl⟩ : ∃ wo : World, wo = wr := ⟨_, rfl⟩
   obtain ⟨go, rfl⟩ : ∃ n, n = gk := ⟨_, rfl⟩
   clear c0 c1 c2 c3 hR ht
   go_wp2
   refine world_gen (fun W => Blk W g0 101 (seenC fun v => seenB (l.take k) v || seenT t.mono 0 v) /\ Below w.heap.size w W) ⟨by rw [seenC_congr (S' := seenB (l.take k)) (fun v => by simp [seenT])]; exact hz.alloc _, hwr.alloc hwr.size _⟩ ?_
   rintro w1 ⟨hz1, hw1⟩
   clear hz hwr d0 d1 d2 d3 hbl hzl
   go_loopg [6, 7, 20] t.mono.length (fun n _ _ s20 w3 => ∃ j : Nat, Hid (j + n = t.mono.length) /\ s20 = .int .i64 j /\ Blk w3 g0 101 (seenC fun v => seenB (l.take k) v || seenT t.mono j v) /\ Below w.heap.size w w3)
   case atStart => exact ⟨0, by show _ = _; omega, rfl, hz1, hw1⟩
   case round =>
    clear hz1 hw1
    obtain ⟨j, hj, rfl, hz, hwr⟩ := hrel
    by_cases hjt : j < t.mono.length
    ·
     obtain ⟨x, hx⟩ := get_of_lt hjt
     obtain ⟨bm, om, hpa, hcx, hxw⟩ := (HI.out wr hwr).2.2 j x hx
     simp only [Nat.mul_one] at hcx
     have hj64 : (j : Int) < 64 := by omega
     have hj64n : j < 64 := by omega
     have hsu := Hd (fun v => seenT_succ hx v)
     have hzc := hz.cell j
     have hzf := hz.frozen j
     rw [seenC_at _ _ hj64n] at hzc
     have HZ := Hd hz
     clear hxw hx hz
     by_cases hx0 : x = 0
     ·
      have hx1 : (x != 0) = false := by simp [hx0]
      have hS : Blk wr g0 101 (seenC fun v => seenB (l.take k) v || seenT t.mono (j + 1) v) := by
       rw [seenC_congr (S' := fun v => seenB (l.take k) v || seenT t.mono j v) (fun v => by rw [hsu.out v, if_pos hx0])]; exact HZ.out
      replace hS := Hd hS
      clear hx0 HZ
      go_wp2
      go_roundg (gk - 1)
      case rel => exact ⟨j + 1, by have := hj.out; show _ = _; omega, by go_num, hS.out, hwr⟩
      case measure => have := hj.out; omega
     ·
      have hx1 : (x != 0) = true := by simp [hx0]
      have hS := (HZ.out.set_ j (.bool true))
      rw [seenC_set] at hS
      rw [seenC_congr (S' := fun v => seenB (l.take k) v || seenT t.mono (j + 1) v) (fun v => by rw [hsu.out v, if_neg hx0]; cases decide (v = j) <;> simp)] at hS
      replace hS := Hd hS
      clear hx0
      go_wp2
      go_roundg (gk - 1)
      case rel => exact ⟨j + 1, by have := hj.out; show _ = _; omega, by go_num, hS.out, hwr.setCell (by simpa using hgw) _⟩
      case measure => have := hj.out; omega
    ·
     have hjl : j = t.mono.length := by have := hj.out; omega
     subst hjl
     have hS : Blk wr g0 101 (seenC (seenB (l.take (k + 1)))) := by
      rw [seenC_congr (S' := fun v => seenB (l.take k) v || seenT t.mono t.mono.length v) (fun v => by rw [seenB_succ ht2.out, seenT_all])]; exact hz
     replace hS := Hd hS
     clear hz
     go_wp2
     go_roundg (go - 1)
     case rel => exact ⟨k + 1, by have := hk.out; show _ = _; omega, by go_num, hS.out, hwr⟩
     case measure => have := hk.out; omega
  ·
   have hkl : k = l.length := by have := hk.out; omega
   subst hkl
   rw [List.take_length] at hz
   have HZ := Hd hz
   obtain ⟨wo, rfl⟩ : ∃ wo : World, wo = wr := ⟨_, rfl⟩
   clear hz
   go_wp2_with (refine wpList_load_row rfl 101 _ rfl g0 rfl 101 _ (0, 0) _ HZ.out Tryz.underlying101 rfl (by rw [seenC_size]; kernel_rfl) ?_)
   go_loopg [8, 9, 10, 36] 64 (fun n s8 _ _ s36 w3 => ∃ (i : Nat) (a2 : Option Addr) (c2 : Nat), Hid (i + n = 64) /\ s36 = .int .i64 i /\ s8 = .slice a2 (varsI l i).length c2 /\ OwnI w.heap.size w3 a2 c2 (varsI l i) /\ Below w.heap.size w w3)
   case atStart => exact ⟨0, none, 0, by show _ = _; omega, rfl, rfl, Own.nil, hwr⟩
   case round =>
    clear hwr HZ
    obtain ⟨i, a2, c2, hi, rfl, rfl, hO, hwr⟩ := hrel
    have HO := Hd hO
    have hin := varsI_len l i
    by_cases hi64 : i < 64
    ·
     have hidx := seen_index wr (seenB l) i hi64
     have hii : (i : Int) < 64 := by omega
     have hsu := varsI_succ l i
     have hsz := seenC_size (seenB l)
     cases hsb : seenB l i
     ·
      rw [hsb] at hidx hsu
      have hs2 := Hd hsu
      clear hsb hsu hO
      have hi2 : varsI l (i + 1) = varsI l i := by rw [hs2.out]; rfl
      replace hi2 := Hd hi2
      go_wp2
      go_roundg (gk - 1)
      case rel => exact ⟨i + 1, a2, c2, by have := hi.out; show _ = _; omega, by go_num, by rw [hi2.out], by rw [hi2.out]; exact HO.out, hwr⟩
      case measure => have := hi.out; omega
     ·
      rw [hsb] at hidx hsu
      have hs2 := Hd hsu
      clear hsb hsu hO
      have hi2 : varsI l (i + 1) = varsI l i ++ [(i : Int)] := by rw [hs2.out]; rfl
      replace hi2 := Hd hi2
      have HLE : Hid ((varsI l i ++ [(i : Int)]).length <= 16777216) := Hd (by rw [List.length_append]; simp; omega)
      go_wp2_with (at_builtin; go_must (refine append_int rfl (.tmp 41) (.tmp 43) rfl a2 c2 rfl (HO.out.alloc _) (i : Int) wr.heap.size 1 rfl (by simp) (varsI l i ++ [(i : Int)]) rfl HLE.out (by have := hwr.size; simp; omega) ?_); intro a3 c3 w4 ho3 hg3 hx3)
      have hw4 := below_append' (hwr.alloc hwr.size _) (HO.out.alloc _) hg3
      replace ho3 := Hd ho3; replace hw4 := Hd hw4
      clear hx3 hg3 HO
      go_roundg (gk - 1)
      case rel => exact ⟨i + 1, a3, c3, by have := hi.out; show _ = _; omega, by go_num, by rw [hi2.out, List.length_append]; rfl, by rw [hi2.out]; exact ho3.out, hw4.out⟩
      case measure => have := hi.out; omega
    ·
     have hi6 : i = 64 := by have := hi.out; omega
     subst hi6
     have HR := Hd (hO.reads1 fun s hs => by have := varsI_in l 64 s hs; exact ⟨by omega, by omega⟩)
     clear hO HO
     go_wp2
     go_ret
     exact ⟨a2, c2, rfl, HR.out, hwr⟩
def Itr (w : World) (g : Nat) (s : ByteArray) (pos : Nat) : Prop := w.heap[g]? = some (.stringIter s pos)
def setItr (w : World) (g : Nat) (s : ByteArray) (pos : Nat) : World := { w with heap := w.heap.setIfInBounds g (.stringIter s pos) }
theorem run_next_at {P : Program} (w : World) (g : Nat) (s : ByteArray) (pos : Nat) (ty : TypeId) (hi : Itr w g s pos) (h : pos < s.size) (ha : (s[pos]'h).toNat < 128) :
  (Instr.next (.pointer (some ⟨g, 0, none⟩)) true ty).run P w = .ok (.tuple #[.bool true, .int .i64 pos, .int .i32 (s[pos]'h).toNat]) (setItr w g s (pos + 1)) := by
 unfold Itr at hi
 simp only [Instr.next, getObj, setObj, Sem.run_bind, Sem.run, hi, Result.andThen, h, if_true, decode_ascii s pos h ha]
 simp [goInt, setItr]
theorem run_next_stop {P : Program} (w : World) (g : Nat) (s : ByteArray) (pos : Nat) (ty : TypeId) (hi : Itr w g s pos) (h : ¬ pos < s.size) :
  (Instr.next (.pointer (some ⟨g, 0, none⟩)) true ty).run P w = .ok (.tuple #[.bool false]) w := by
 unfold Itr at hi
 simp [Instr.next, getObj, Sem.run, hi, h]
theorem Itr.lt {w : World} {g : Nat} {s : ByteArray} {pos : Nat} (h : Itr w g s pos) : g < w.heap.size := (Array.getElem?_eq_some_iff.1 h).1
theorem Itr.set {w : World} {g : Nat} {s : ByteArray} {pos : Nat} (h : Itr w g s pos) (pos' : Nat) : Itr (setItr w g s pos') g s pos' := by
 unfold Itr setItr
 simp [h.lt]
theorem setItr_size (w : World) (g : Nat) (s : ByteArray) (pos : Nat) : (setItr w g s pos).heap.size = w.heap.size := by simp [setItr]
theorem setItr_far (w : World) (g : Nat) (s : ByteArray) (pos : Nat) (k : Nat) (hk : k ≠ g) : (setItr w g s pos).heap[k]? = w.heap[k]? := by
 simp [setItr, Ne.symm hk]
theorem below_setItr {B : Nat} {a w : World} (h : Below B a w) {g : Nat} (hg : B <= g) (s : ByteArray) (pos : Nat) : Below B a (setItr w g s pos) :=
 h.trans ⟨rfl, rfl, rfl, by rw [setItr_size]; exact nlr _, fun k hk => setItr_far _ _ _ _ _ (by omega)⟩
theorem size_zero {s : ByteArray} : s.size = 0 ↔ s = ⟨#[]⟩ := by
 constructor
 ·
  intro h
  cases s with
  | mk d => congr 1; exact Array.eq_empty_of_size_eq_zero h
 · intro h; subst h; rfl
theorem get_list {s : ByteArray} {k : Nat} (h : k < s.size) : s.data.toList[k]? = some (s[k]'h) := by simp [h]; rfl
def letV (c : Int) : Bool := decide (97 <= c /\ c <= 122 \/ 65 <= c /\ c <= 90 \/ c = 95 \/ c = 46 \/ c = 36)
def digV (c : Int) : Bool := decide (48 <= c /\ c <= 57)
def wordV (c : UInt8) : Bool := letV c.toNat || digV c.toNat
def nameV : List UInt8 -> Bool
 | [] => false
 | c :: r => letV c.toNat && r.all wordV
theorem letterS_any (c : Int) (w : World) : Calls Tryz.prog 102 #[.int .u8 c] w fun e w' => e = .returned (.bool (letV c)) /\ w = w' := by
 go_enter Tryz.func102, Tryz.ntmps102
 by_cases h1 : 97 <= c <;> by_cases h2 : c <= 122 <;> by_cases h3 : 65 <= c <;> by_cases h4 : c <= 90
 all_goals
  first
  | (exfalso; omega)
  | (go_wp2 <;> (go_ret; exact ⟨ret_bool (by unfold letV; rw [Bool.eq_iff_iff]; (try simp_all) <;> omega), rfl⟩))
theorem letterR_any (c : Int) (w : World) : Calls Tryz.prog 86 #[.int .u8 c] w fun e w' => e = .returned (.bool (letV c)) /\ w = w' := by
 go_enter Tryz.func86, Tryz.ntmps86
 by_cases h1 : 97 <= c <;> by_cases h2 : c <= 122 <;> by_cases h3 : 65 <= c <;> by_cases h4 : c <= 90
 all_goals
  first
  | (exfalso; omega)
  | (go_wp2 <;> (go_ret; exact ⟨ret_bool (by unfold letV; rw [Bool.eq_iff_iff]; (try simp_all) <;> omega), rfl⟩))
theorem digitS_any (c : Int) (w : World) : Calls Tryz.prog 101 #[.int .u8 c] w fun e w' => e = .returned (.bool (digV c)) /\ w = w' := by
 go_enter Tryz.func101, Tryz.ntmps101
 by_cases h1 : 48 <= c <;> by_cases h2 : c <= 57
 all_goals (go_wp2 <;> (go_ret; exact ⟨ret_bool (by unfold digV; rw [Bool.eq_iff_iff]; (try simp_all) <;> omega), rfl⟩))
theorem digitR_any (c : Int) (w : World) : Calls Tryz.prog 87 #[.int .u8 c] w fun e w' => e = .returned (.bool (digV c)) /\ w = w' := by
 go_enter Tryz.func87, Tryz.ntmps87
 by_cases h1 : 48 <= c <;> by_cases h2 : c <= 57
 all_goals (go_wp2 <;> (go_ret; exact ⟨ret_bool (by unfold digV; rw [Bool.eq_iff_iff]; (try simp_all) <;> omega), rfl⟩))
theorem run_next_rune {P : Program} (w : World) (g : Nat) (s : ByteArray) (pos : Nat) (hi : Itr w g s pos) (h : pos < s.size) :
  ∃ (r : Nat) (n : Nat), (∀ ty : TypeId, (Instr.next (.pointer (some ⟨g, 0, none⟩)) true ty).run P w = .ok (.tuple #[.bool true, .int .i64 pos, .int .i32 (r : Int)]) (setItr w g s (pos + n))) /\ ((s[pos]'h).toNat < 128 -> n = 1 /\ r = (s[pos]'h).toNat) /\ (128 <= (s[pos]'h).toNat -> 128 <= r) := by
 by_cases ha : (s[pos]'h).toNat < 128
 · exact ⟨_, 1, fun ty => run_next_at w g s pos ty hi h ha, fun _ => ⟨rfl, rfl⟩, fun hb => by omega⟩
 ·
  unfold Itr at hi
  refine ⟨(Utf8.decode s pos).1, (Utf8.decode s pos).2, fun ty => ?_, fun h => absurd h ha, fun hb => (decode_high s pos h hb).1⟩
  simp only [Instr.next, getObj, setObj, Sem.run_bind, Sem.run, hi, Result.andThen, h, if_true]
  simp [goInt, setItr]
theorem letV_ascii {c : Nat} (h : letV c = true) : c < 128 := by unfold letV at h; rw [decide_eq_true_eq] at h; omega
theorem digV_ascii {c : Nat} (h : digV c = true) : c < 128 := by unfold digV at h; rw [decide_eq_true_eq] at h; omega
theorem letV_digV (c : Int) : letV c = (!(digV c) && (letV c || digV c)) := by
 rw [Bool.eq_iff_iff]; unfold letV digV; simp; omega
theorem nameV_all (l : List UInt8) (c : UInt8) (r : List UInt8) (h : l = c :: r) : nameV l = (!(digV c.toNat) && l.all wordV) := by
 subst h
 show (letV c.toNat && r.all wordV) = (!(digV c.toNat) && (wordV c && r.all wordV))
 rw [letV_digV, <- Bool.and_assoc]; rfl
theorem nameV_at {s : ByteArray} (h : 0 < s.size) : nameV s.data.toList = (!(digV ((s[0]'h).toNat : Nat)) && s.data.toList.all wordV) := by
 have h' : 0 < s.data.toList.length := by simpa using h
 have e : s.data.toList = s.data.toList[0] :: s.data.toList.drop 1 := by
  have := List.drop_eq_getElem_cons (l := s.data.toList) (i := 0) h'
  simpa using this
 exact nameV_all _ _ _ e
theorem all_bad {s : ByteArray} {pos : Nat} (h : pos < s.size) (hw : wordV (s[pos]'h) = false) : s.data.toList.all wordV = false := by
 rw [List.all_eq_false]; exact ⟨_, List.mem_of_getElem? (get_list h), by simp [hw]⟩
theorem isNameS_any (s : ByteArray) (w : World) (hs : s.size <= 9223372036854775807) :
  Calls Tryz.prog 54 #[.string s] w fun e w' => e = .returned (.bool (nameV s.data.toList)) /\ Below w.heap.size w w' := by
 by_cases h0 : s.size = 0
 ·
  have e := size_zero.1 h0
  subst e
  clear h0 hs
  go_enter Tryz.func54, Tryz.ntmps54
  go_wp2
  go_ret
  exact ⟨rfl, Below.refl _ _⟩
 have hse : s.toList.isEmpty = false := by rw [str_isEmpty]; simp; exact fun e => h0 (size_zero.2 e)
 have hse2 : s.toList ≠ [] := by intro e; rw [e] at hse; cases hse
 have hp : 0 < s.size := by omega
 have hnm := nameV_at hp
 have CD := digitS_any ((s[0]'hp).toNat : Nat) w
 obtain ⟨r, hr⟩ : ∃ r, nameV s.data.toList = r := ⟨_, rfl⟩
 rw [hr] at hnm ⊢
 obtain ⟨b, hb⟩ : ∃ b, digV ((s[0]'hp).toNat : Nat) = b := ⟨_, rfl⟩
 rw [hb] at CD hnm
 replace CD := Hd CD
 clear hb hr h0
 go_enter Tryz.func54, Tryz.ntmps54
 cases b
 ·
  have HN := Hd hnm
  clear hnm
  go_wp2_with fail
  refine CD.out.mono ?_
  rintro e w' ⟨rfl, rfl⟩
  go_wp2
  have hi0 := World.iter_heap w s 0
  have hb0 : Below w.heap.size w (w.iter s 0) := (Below.refl _ w).alloc (nlr _) _
  revert hi0 hb0
  generalize w.iter s 0 = w0
  intro hi0 hb0
  clear CD
  go_loopg [4] s.size (fun g _ wr => ∃ pos : Nat, pos + g = s.size /\ Itr wr w.heap.size s pos /\ Below w.heap.size w wr /\ (s.data.toList.take pos).all wordV = true)
  case atStart => exact ⟨0, by omega, hi0, hb0, rfl⟩
  case round =>
   obtain ⟨pos, hpos, hi, hb, hall⟩ := hrel
   clear hi0 hb0
   have HA := Hd hall
   have HP := Hd hpos
   have hsz := hi.lt
   clear hall
   by_cases hlt : pos < s.size
   ·
    obtain ⟨rr, n, hnx, hn1, hn2⟩ := run_next_rune (P := Tryz.prog) wr w.heap.size s pos hi hlt
    have hw : wordV (s[pos]'hlt) = (letV ((s[pos]'hlt).toNat : Nat) || digV ((s[pos]'hlt).toNat : Nat)) := rfl
    have hgl := get_list hlt
    have hbad := fun h => all_bad (s := s) (pos := pos) hlt h
    have hi2 := hi.set (pos + 1)
    have hb2 : Below w.heap.size w (setItr wr w.heap.size s (pos + n)) := below_setItr hb (nlr _) s _
    by_cases ha : (s[pos]'hlt).toNat < 128
    ·
     obtain ⟨rfl, rfl⟩ := hn1 ha
     obtain ⟨c, hc⟩ : ∃ c, s[pos]'hlt = c := ⟨_, rfl⟩
     rw [hc] at hw hgl hbad hnx ha
     have CL := Hd (letterS_any (c.toNat : Nat))
     have CD := Hd (digitS_any (c.toNat : Nat))
     have hall2 : wordV c = true -> (s.data.toList.take (pos + 1)).all wordV = true := fun h => by rw [take_more hgl, List.all_append, HA.out]; simp [h]
     replace hall2 := Hd hall2; replace hbad := Hd hbad; replace hw := Hd hw
     have h128 : ((c.toNat : Nat) : Int) < 128 := by omega
     have h256 : ((c.toNat : Nat) : Int) % 256 = ((c.toNat : Nat) : Int) := by omega
     obtain ⟨y, hy⟩ : ∃ y : Nat, c.toNat = y := ⟨_, rfl⟩
     rw [hy] at hw CL CD hnx h128 h256
     obtain ⟨w2, hw2⟩ : ∃ W, setItr wr w.heap.size s (pos + 1) = W := ⟨_, rfl⟩
     rw [hw2] at hnx hi2 hb2
     obtain ⟨bl, hbl⟩ : ∃ b, letV (y : Int) = b := ⟨_, rfl⟩
     obtain ⟨bd, hbd⟩ : ∃ b, digV (y : Int) = b := ⟨_, rfl⟩
     have hw3 := hw.out
     rw [hbl, hbd] at hw3
     simp only [hbl] at CL
     simp only [hbd] at CD
     have CL2 := Hd CL.out; have CD2 := Hd CD.out
     replace hbl := Hd hbl; replace hbd := Hd hbd; replace hw3 := Hd hw3
     clear CL CD hn2 hy hc hw2 hw hgl
     cases bl
     ·
      cases bd
      ·
       have hfin := hbad.out (by rw [hw3.out]; rfl)
       have HF := Hd (HN.out.trans (by rw [hfin, Bool.and_false]))
       clear hfin
       go_wp2_with fail
       refine (CL2.out _).mono ?_
       rintro e w' ⟨rfl, rfl⟩
       go_wp2_with fail
       refine (CD2.out _).mono ?_
       rintro e w' ⟨rfl, rfl⟩
       go_wp2
       go_ret
       exact ⟨ret_bool HF.out.symm, hb2⟩
      ·
       have hfin := Hd (hall2.out (by rw [hw3.out]; rfl))
       go_wp2_with fail
       refine (CL2.out _).mono ?_
       rintro e w' ⟨rfl, rfl⟩
       go_wp2_with fail
       refine (CD2.out _).mono ?_
       rintro e w' ⟨rfl, rfl⟩
       go_wp2
       go_roundg (gk - 1)
       case rel => exact ⟨pos + 1, by have := HP.out; omega, hi2, hb2, hfin.out⟩
       case measure => have := HP.out; omega
     ·
      have hfin := Hd (hall2.out (by rw [hw3.out]; rfl))
      go_wp2_with fail
      refine (CL2.out _).mono ?_
      rintro e w' ⟨rfl, rfl⟩
      go_wp2
      go_roundg (gk - 1)
      case rel => exact ⟨pos + 1, by have := HP.out; omega, hi2, hb2, hfin.out⟩
      case measure => have := HP.out; omega
    ·
     have hr128 : (128 : Int) <= (rr : Int) := by have := hn2 (by omega); omega
     have hwf : wordV (s[pos]'hlt) = false := by
      rw [hw, Bool.or_eq_false_iff]
      exact ⟨Bool.eq_false_iff.2 fun h => ha (by simpa using letV_ascii h), Bool.eq_false_iff.2 fun h => ha (by simpa using digV_ascii h)⟩
     have HF := Hd (HN.out.trans (by rw [hbad hwf, Bool.and_false]))
     clear hwf hbad hw hgl hi2 hn1 hn2
     go_wp2
     go_ret
     exact ⟨ret_bool HF.out.symm, hb2⟩
   ·
    have hns := fun ty => run_next_stop (P := Tryz.prog) wr w.heap.size s pos ty hi hlt
    have HF : Hid (r = true) := Hd (HN.out.trans (by
     have := HA.out
     rw [List.take_of_length_le (by have : s.data.toList.length = s.size := by { simp }; omega)] at this
     rw [this]; first | done | rfl))
    go_wp2
    go_ret
    exact ⟨ret_bool HF.out.symm, hb⟩
 ·
  simp at hnm
  subst hnm
  go_wp2_with fail
  refine CD.out.mono ?_
  rintro e w' ⟨rfl, rfl⟩
  go_wp2
  go_ret
  exact ⟨rfl, Below.refl _ _⟩
def okTo (s : List UInt8) (k : Nat) : Bool := (List.range k).all fun i => match s[i]? with
 | some c => letV c.toNat || (!(decide (i = 0)) && digV c.toNat)
 | none => true
theorem okTo_succ (s : List UInt8) (k : Nat) (c : UInt8) (h : s[k]? = some c) : okTo s (k + 1) = (okTo s k && (letV c.toNat || (!(decide (k = 0)) && digV c.toNat))) := by
 unfold okTo; rw [List.range_succ, List.all_append]; simp [h]
theorem okTo_false (s : List UInt8) (k m : Nat) (h : k <= m) (hf : okTo s k = false) : okTo s m = false := by
 unfold okTo at hf ⊢
 rw [List.all_eq_false] at hf ⊢
 obtain ⟨i, hi, h2⟩ := hf
 exact ⟨i, List.mem_range.2 (ltl (List.mem_range.1 hi) h), h2⟩
theorem okTo_name (l : List UInt8) (hl : l ≠ []) : okTo l l.length = nameV l := by
 cases l with
 | nil => exact absurd rfl hl
 | cons c r =>
  rw [Bool.eq_iff_iff]
  unfold okTo nameV
  rw [List.all_eq_true, Bool.and_eq_true, List.all_eq_true]
  constructor
  ·
   intro h
   constructor
   ·
    have := h 0 (List.mem_range.2 (by simp))
    simpa using this
   ·
    intro x hx
    obtain ⟨i, hi⟩ := List.getElem?_of_mem hx
    have := h (i + 1) (List.mem_range.2 (by have := (List.getElem?_eq_some_iff.1 hi).1; simp; omega))
    simp [hi] at this
    unfold wordV
    simpa using this
  ·
   rintro ⟨h1, h2⟩ i hi
   cases i with
   | zero => simp [h1]
   | succ i =>
    have hi' : i < r.length := by have := List.mem_range.1 hi; simp at this; omega
    have := h2 r[i] (List.getElem_mem hi')
    simp [hi']
    unfold wordV at this
    simpa using this
theorem isNameR_any (s : ByteArray) (w : World) (hs : s.size <= 9223372036854775807) :
  Calls Tryz.prog 40 #[.string s] w fun e w' => e = .returned (.bool (nameV s.data.toList)) /\ w = w' := by
 go_enter Tryz.func40, Tryz.ntmps40
 go_wp2
 go_loopg [3] s.size (fun g s3 wr => ∃ k : Nat, k + g = s.size /\ s3 = .int .i64 k /\ okTo s.data.toList k = true /\ w = wr)
 case atStart => exact ⟨0, by omega, rfl, rfl, rfl⟩
 case round =>
  obtain ⟨k, hk, rfl, hok, rfl⟩ := hrel
  have HK := Hd hk
  clear hk
  by_cases hlt : k < s.size
  ·
   have hgl := get_list hlt
   have hsc := okTo_succ s.data.toList k _ hgl
   have hff := fun h => okTo_false s.data.toList (k + 1) s.size (by omega) h
   have hnn : okTo s.data.toList s.size = nameV s.data.toList := by
    rw [<- okTo_name _ (by intro e; have : s.data.toList.length = s.size := by { simp }; rw [e] at this; simp at this; omega)]
    congr 1
   obtain ⟨y, hy⟩ : ∃ y : Nat, (s[k]'hlt).toNat = y := ⟨_, rfl⟩
   rw [hy] at hsc
   have CL := letterR_any (y : Int) w
   have CD := digitR_any (y : Int) w
   rw [hok, Bool.true_and] at hsc
   rw [hnn] at hff
   obtain ⟨bl, hbl⟩ : ∃ b, letV (y : Int) = b := ⟨_, rfl⟩
   obtain ⟨bd, hbd⟩ : ∃ b, digV (y : Int) = b := ⟨_, rfl⟩
   rw [hbl] at CL hsc
   rw [hbd] at CD hsc
   replace CL := Hd CL; replace CD := Hd CD; replace hff := Hd hff; replace hsc := Hd hsc
   clear hnn hgl hbl hbd hok
   cases bl
   ·
    by_cases k0 : k = 0
    ·
     subst k0
     have hf : Hid (nameV s.data.toList = false) := Hd (hff.out (by rw [hsc.out]; rfl))
     clear CD hff hsc
     go_wp2_with fail
     refine CL.out.mono ?_
     rintro e w' ⟨rfl, rfl⟩
     go_wp2
     go_ret
     exact ⟨ret_bool hf.out.symm, rfl⟩
    ·
     have hk0 : ((k : Int) == 0) = false := by simp; omega
     cases bd
     ·
      have hf : Hid (nameV s.data.toList = false) := Hd (hff.out (by rw [hsc.out]; simp))
      clear hff hsc
      go_wp2_with fail
      refine CL.out.mono ?_
      rintro e w' ⟨rfl, rfl⟩
      go_wp2_with fail
      refine CD.out.mono ?_
      rintro e w' ⟨rfl, rfl⟩
      go_wp2
      go_ret
      exact ⟨ret_bool hf.out.symm, rfl⟩
     ·
      have hf : Hid (okTo s.data.toList (k + 1) = true) := Hd (by rw [hsc.out]; simp [k0])
      clear hff hsc
      go_wp2_with fail
      refine CL.out.mono ?_
      rintro e w' ⟨rfl, rfl⟩
      go_wp2_with fail
      refine CD.out.mono ?_
      rintro e w' ⟨rfl, rfl⟩
      go_wp2
      go_roundg (gk - 1)
      case rel => exact ⟨k + 1, by have := HK.out; omega, by go_num, hf.out, rfl⟩
      case measure => have := HK.out; omega
   ·
    have hf : Hid (okTo s.data.toList (k + 1) = true) := Hd (by rw [hsc.out]; rfl)
    clear hff hsc CD
    go_wp2_with fail
    refine CL.out.mono ?_
    rintro e w' ⟨rfl, rfl⟩
    go_wp2
    go_roundg (gk - 1)
    case rel => exact ⟨k + 1, by have := HK.out; omega, by go_num, hf.out, rfl⟩
    case measure => have := HK.out; omega
  ·
   have hs0 : s.data.toList.length = s.size := by simp
   by_cases h0 : s.size = 0
   ·
    have e := size_zero.1 h0
    subst e
    clear h0 hs0 hok
    go_wp2
    go_ret
    exact ⟨rfl, rfl⟩
   ·
    have hse : s.toList.isEmpty = false := by rw [str_isEmpty]; simp; exact fun e => h0 (size_zero.2 e)
    have hse2 : s.toList ≠ [] := by intro e; rw [e] at hse; cases hse
    have hn : nameV s.data.toList = true := by
     rw [<- okTo_name _ (by intro e; rw [e] at hs0; simp at hs0; omega), hs0, show s.size = k by have := HK.out; omega]; exact hok
    have HN := Hd hn
    have hb := str_bne s ⟨#[]⟩
    clear hn hok hs0
    go_wp2
    go_ret
    exact ⟨ret_bool HN.out.symm, rfl⟩
def nmB (s : ByteArray) : Bool := nameV s.data.toList
def inB (l : List ByteArray) (s : ByteArray) : Bool := l.any fun t => decide (t = s)
def dupAt (l : List ByteArray) (i : Nat) : Bool := match l[i]? with
 | some s => inB (l.take i) s
 | none => false
def errNm (l : List ByteArray) : Int := if l.all nmB = true then (if (List.range l.length).any (dupAt l) = true then 7 else 0) else 9
theorem errNm_bad {l : List ByteArray} {k : Nat} {s : ByteArray} (h : l[k]? = some s) (hb : nmB s = false) : errNm l = 9 := by
 unfold errNm
 rw [if_neg]
 intro h2
 rw [List.all_eq_true] at h2
 rw [h2 s (List.mem_of_getElem? h)] at hb
 cases hb
theorem errNm_dup {l : List ByteArray} {k : Nat} {s : ByteArray} (ha : l.all nmB = true) (h : l[k]? = some s) (hb : inB (l.take k) s = true) : errNm l = 7 := by
 unfold errNm
 rw [if_pos ha, if_pos]
 rw [List.any_eq_true]
 exact ⟨k, List.mem_range.2 (lt_of_get h), by unfold dupAt; rw [h]; simp [hb]⟩
theorem errNm_good {l : List ByteArray} (ha : l.all nmB = true) (hb : ∀ k s, l[k]? = some s -> inB (l.take k) s = false) : errNm l = 0 := by
 unfold errNm
 rw [if_pos ha, if_neg]
 rw [List.any_eq_true]
 rintro ⟨k, hk, h⟩
 obtain ⟨s, hs⟩ := get_of_lt (List.mem_range.1 hk)
 unfold dupAt at h
 rw [hs] at h
 have h2 : inB (l.take k) s = true := h
 rw [hb k s hs] at h2; cases h2
theorem inB_succ {l : List ByteArray} {k : Nat} {x : ByteArray} (hx : l[k]? = some x) : inB (l.take (k + 1)) = fun t => decide (t = x) || inB (l.take k) t := by
 funext t
 unfold inB
 rw [take_more hx, List.any_append, Bool.or_comm]
 congr 1
 simp only [List.any_cons, List.any_nil, Bool.or_false]
 rw [decide_eq_decide]
 exact eq_comm
theorem fresh_succ {l : List ByteArray} {k : Nat} {x : ByteArray} (h : ∀ j s, j < k -> l[j]? = some s -> inB (l.take j) s = false) (hx : l[k]? = some x) (hn : inB (l.take k) x = false) : ∀ j s, j < k + 1 -> l[j]? = some s -> inB (l.take j) s = false := fun j s hj hs => by
 by_cases e : j = k
 · subst e; rw [hx] at hs; injection hs with hs; subst hs; exact hn
 · exact h j s (by omega) hs
theorem checkS_any (l : List ByteArray) (a : Option Addr) (c : Nat) (w : World) (h : StrsR w a c l) (hz : ∀ s ∈ l, s.size <= 1048576) (hl : l.length <= 1000000) :
  Calls Tryz.prog 26 #[.slice a l.length c] w fun e w' => e = .returned (.int .i64 (errNm l)) /\ Below w.heap.size w w' := by
 have HL := Hd h; have HZ := Hd hz
 clear h hz
 have hmm := @run_makeMap Tryz.prog
 go_enter Tryz.func26, Tryz.ntmps26
 go_wp2
 go_loopg [4, 10] l.length (fun g _ s10 wr => ∃ k : Nat, k + g = l.length /\ s10 = .int .i64 k /\ Hid ((l.take k).all nmB = true) /\ Below w.heap.size w wr)
 case atStart => exact ⟨0, by omega, rfl, rfl, Below.refl _ _⟩
 case round =>
  obtain ⟨k, hk, rfl, hall, hb⟩ := hrel
  have HK := Hd hk
  clear hk
  by_cases hlt : k < l.length
  ·
   obtain ⟨x, hx⟩ := get_of_lt hlt
   obtain ⟨b, o, rfl, hc⟩ := HL.out.2.2 k x hx
   simp only [Nat.mul_one] at hc
   have hc2 := held hc wr hb
   have CN := isNameS_any x wr (by have := HZ.out x (List.mem_of_getElem? hx); omega)
   have hx2 := Hd hx
   have hall2 : nmB x = true -> (l.take (k + 1)).all nmB = true := fun h => by rw [take_more hx, List.all_append, hall.out]; simp [h]
   obtain ⟨bn, hbn⟩ : ∃ b, nameV x.data.toList = b := ⟨_, rfl⟩
   rw [hbn] at CN
   have hnb := Hd (show nmB x = bn from hbn)
   replace CN := Hd CN; replace hall2 := Hd hall2
   clear hbn hx hc
   go_wp2_with fail
   refine CN.out.mono ?_
   rintro e w2 ⟨rfl, hb2⟩
   have hw2 := bth hb hb2
   cases bn
   ·
    have hf := Hd (errNm_bad hx2.out hnb.out)
    go_wp2
    go_ret
    exact ⟨ret_int hf.out.symm, hw2⟩
   ·
    have hf := Hd (hall2.out hnb.out)
    go_wp2
    go_roundg (gk - 1)
    case rel => exact ⟨k + 1, by have := HK.out; omega, by go_num, hf.out, hw2⟩
    case measure => have := HK.out; omega
  ·
   have HA : Hid (l.all nmB = true) := Hd (by have := hall.out; rwa [take_all hlt] at this)
   obtain ⟨wo, rfl⟩ : ∃ wo : World, wo = wr := ⟨_, rfl⟩
   clear hall HK
   go_wp2
   have hm := OwnM.made wo
   have hb0 : Below w.heap.size w (wo.alloc (.map #[] 0)) := hb.alloc hb.size _
   revert hm hb0
   generalize wo.alloc (.map #[] 0) = w0
   intro hm hb0
   obtain ⟨mb, hmb⟩ : ∃ q, wo.heap.size = q := ⟨_, rfl⟩
   have hmw : w.heap.size <= mb := by have := hb.size; omega
   rw [hmb] at hm ⊢
   clear hmb hb hmm
   go_loopg [7, 21] l.length (fun g _ s21 w2 => ∃ j : Nat, j + g = l.length /\ s21 = .int .i64 j /\ OwnM w2 mb j (inB (l.take j)) /\ Hid (∀ i s, i < j -> l[i]? = some s -> inB (l.take i) s = false) /\ Below w.heap.size w w2)
   case atStart => exact ⟨0, by omega, rfl, hm, by intro i s hi; omega, hb0⟩
   case round =>
    clear hm hb0
    obtain ⟨j, hj, rfl, hm, hfr, hb⟩ := hrel
    have HJ := Hd hj
    clear hj
    by_cases hlt : j < l.length
    ·
     obtain ⟨x, hx⟩ := get_of_lt hlt
     obtain ⟨b, o, rfl, hc⟩ := HL.out.2.2 j x hx
     simp only [Nat.mul_one] at hc
     have hc2 := held hc wr hb
     have hxs : x.size <= maxLen := by have := HZ.out x (List.mem_of_getElem? hx); unfold maxLen; omega
     have hlook := hm.look hxs
     have hsu := Hd (inB_succ hx)
     have hx2 := Hd hx
     have HM := Hd hm
     have hml := hm.lt
     obtain ⟨bi, hbi⟩ : ∃ q, inB (l.take j) x = q := ⟨_, rfl⟩
     rw [hbi] at hlook
     have hbi2 := Hd hbi
     clear hbi hx hc hm
     cases bi
     ·
      have hf2 := Hd (fresh_succ hfr.out hx2.out hbi2.out)
      go_wp2_with (at_mapUpdate; go_must (refine map_put rfl (.tmp 28) (.tmp 29) (.const (.bool true)) rfl rfl HM.out (by omega) x hxs rfl rfl ?_); intro w2 hm2 hg2)
      rw [<- hsu.out] at hm2
      have hw2 : Below w.heap.size w w2 := hb.grown hg2 hb.size (fun k hk => by injection hk with hk; omega)
      go_roundg (gk - 1)
      case rel => exact ⟨j + 1, by have := HJ.out; omega, by go_num, hm2, hf2.out, hw2⟩
      case measure => have := HJ.out; omega
     ·
      have hf := Hd (errNm_dup HA.out hx2.out hbi2.out)
      go_wp2
      go_ret
      exact ⟨ret_int hf.out.symm, hb⟩
    ·
     have hf := Hd (errNm_good HA.out fun i s hs => hfr.out i s (by have := lt_of_get hs; omega) hs)
     go_wp2
     go_ret
     exact ⟨ret_int hf.out.symm, hb⟩
theorem checkR_any (l : List ByteArray) (a : Option Addr) (c : Nat) (w : World) (h : StrsR w a c l) (hz : ∀ s ∈ l, s.size <= 1048576) (hl : l.length <= 1000000) :
  Calls Tryz.prog 18 #[.slice a l.length c] w fun e w' => e = .returned (.int .i64 (errNm l)) /\ Below w.heap.size w w' := by
 have HL := Hd h; have HZ := Hd hz
 clear h hz
 go_enter Tryz.func18, Tryz.ntmps18
 go_wp2
 go_loopg [3] l.length (fun g s3 wr => ∃ k : Nat, k + g = l.length /\ s3 = .int .i64 k /\ Hid ((l.take k).all nmB = true) /\ Below w.heap.size w wr)
 case atStart => exact ⟨0, by omega, rfl, rfl, Below.refl _ _⟩
 case round =>
  obtain ⟨k, hk, rfl, hall, hb⟩ := hrel
  have HK := Hd hk
  clear hk
  by_cases hlt : k < l.length
  ·
   obtain ⟨x, hx⟩ := get_of_lt hlt
   obtain ⟨b, o, rfl, hc⟩ := HL.out.2.2 k x hx
   simp only [Nat.mul_one] at hc
   have hc2 := held hc wr hb
   have CN := isNameR_any x wr (by have := HZ.out x (List.mem_of_getElem? hx); omega)
   have hx2 := Hd hx
   have hall2 : nmB x = true -> (l.take (k + 1)).all nmB = true := fun h => by rw [take_more hx, List.all_append, hall.out]; simp [h]
   obtain ⟨bn, hbn⟩ : ∃ b, nameV x.data.toList = b := ⟨_, rfl⟩
   rw [hbn] at CN
   have hnb := Hd (show nmB x = bn from hbn)
   replace CN := Hd CN; replace hall2 := Hd hall2
   clear hbn hx hc
   go_wp2_with fail
   refine CN.out.mono ?_
   rintro e w2 ⟨rfl, rfl⟩
   cases bn
   ·
    have hf := Hd (errNm_bad hx2.out hnb.out)
    go_wp2
    go_ret
    exact ⟨ret_int hf.out.symm, hb⟩
   ·
    have hf := Hd (hall2.out hnb.out)
    go_wp2
    go_roundg (gk - 1)
    case rel => exact ⟨k + 1, by have := HK.out; omega, by go_num, hf.out, hb⟩
    case measure => have := HK.out; omega
  ·
   have HA : Hid (l.all nmB = true) := Hd (by have := hall.out; rwa [take_all hlt] at this)
   obtain ⟨wo, rfl⟩ : ∃ wo : World, wo = wr := ⟨_, rfl⟩
   clear hall HK
   go_wp2
   go_loopg [4, 5] l.length (fun g s4 _ w2 => ∃ j : Nat, j + g = l.length /\ s4 = .int .i64 j /\ Hid (∀ i s, i < j -> l[i]? = some s -> inB (l.take i) s = false) /\ Below w.heap.size w w2)
   case atStart => exact ⟨0, by omega, rfl, by intro i s hi; omega, hb⟩
   case round =>
    clear hb
    obtain ⟨j, hj, rfl, hfr, hb⟩ := hrel
    have HJ := Hd hj
    clear hj
    by_cases hlt : j < l.length
    ·
     obtain ⟨x, hx⟩ := get_of_lt hlt
     have hx2 := Hd hx
     obtain ⟨w2, rfl⟩ : ∃ wo : World, wo = wr := ⟨_, rfl⟩
     obtain ⟨gj, rfl⟩ : ∃ n, n = gk := ⟨_, rfl⟩
     go_wp2
     go_loopg [5] j (fun g s5 w3 => ∃ i : Nat, i + g = j /\ s5 = .int .i64 i /\ Hid (inB (l.take i) x = false) /\ Below w.heap.size w w3)
     case atStart => exact ⟨0, by omega, rfl, rfl, hb⟩
     case round =>
      clear hb
      obtain ⟨i, hi, rfl, hno, hb⟩ := hrel
      have HI := Hd hi
      clear hi
      by_cases hij : i < j
      ·
       have hil : i < l.length := by omega
       obtain ⟨y, hy⟩ := get_of_lt hil
       obtain ⟨b, o, rfl, hc⟩ := HL.out.2.2 j x hx2.out
       obtain ⟨b2, o2, e2, hcy⟩ := HL.out.2.2 i y hy
       injection e2 with e2
       injection e2 with eb eo
       subst eb eo
       simp only [Nat.mul_one] at hc hcy
       have hc2 := held (held hc wr hb); have hcy2 := held (held hcy wr hb)
       have hsu := inB_succ hy
       have hbeq := str_beq x y
       have hy2 := Hd hy
       replace hsu := Hd hsu
       clear hy hc hcy hx
       have s0 : Below wr.heap.size wr wr.drew := brf.drew
       by_cases hxy : x = y
       ·
        have hdup : inB (l.take j) x = true := by
         unfold inB
         rw [List.any_eq_true]
         exact ⟨y, List.mem_of_getElem? (by rw [List.getElem?_take_of_lt hij]; exact hy2.out), by simp [hxy]⟩
        have hf := Hd (errNm_dup HA.out hx2.out hdup)
        rw [decide_eq_true hxy] at hbeq
        have HXY := Hd hxy
        clear hdup hxy
        go_wp2
        refine wp_region_mix (S := Below wr.heap.size wr) [(0, .q), (1, .q), (2, .q), (3, .q), (4, .q), (5, .q), (6, .q), (7, .q), (8, .p)] (by kernel_rfl) (by kernel_rfl) (by kernel_rfl) (fun d _ _ _ _ h => by cases d <;> exact h) (s0) ?_
        iterate 8 (refine wpMix_q rfl rfl (fun K hK => ?_); apply Exists.intro; refine ⟨fun w' hw' => ?_, ?_⟩; (focus (go_simp; try rfl)); go_simp; refine hK _ _ ?_; clear hK K)
        iterate 1 (refine wpMix_p rfl rfl (fun K hK => ?_); apply Exists.intro; refine ⟨fun w' => ?_, ?_⟩; (focus (go_simp; try rfl)); go_simp; refine hK _ _ ?_; clear hK K)
        refine wpMix_nil ?_
        go_wp2
        go_ret
        exact ⟨ret_int hf.out.symm, hb.trans (s0.mono hb.size)⟩
       ·
        have hno2 : inB (l.take (i + 1)) x = false := by rw [hsu.out]; simp [hno.out, hxy]
        rw [decide_eq_false hxy] at hbeq
        have HXY := Hd hxy
        replace hno2 := Hd hno2
        clear hxy
        go_wp2
        refine wp_region_mix (S := Below wr.heap.size wr) [(0, .q), (1, .q), (2, .q), (3, .q), (4, .q), (5, .q), (6, .q), (7, .q), (8, .p)] (by kernel_rfl) (by kernel_rfl) (by kernel_rfl) (fun d _ _ _ _ h => by cases d <;> exact h) (s0) ?_
        iterate 8 (refine wpMix_q rfl rfl (fun K hK => ?_); apply Exists.intro; refine ⟨fun w' hw' => ?_, ?_⟩; (focus (go_simp; try rfl)); go_simp; refine hK _ _ ?_; clear hK K)
        iterate 1 (refine wpMix_p rfl rfl (fun K hK => ?_); apply Exists.intro; refine ⟨fun w' => ?_, ?_⟩; (focus (go_simp; try rfl)); go_simp; refine hK _ _ ?_; clear hK K)
        refine wpMix_nil ?_
        go_wp2
        go_roundg (gk - 1)
        case rel => exact ⟨i + 1, by have := HI.out; omega, by go_num, hno2.out, hb.trans (s0.mono hb.size)⟩
        case measure => have := HI.out; omega
      ·
       have hij2 : i = j := by have := HI.out; omega
       subst hij2
       have hf2 := Hd (fresh_succ hfr.out hx2.out hno.out)
       go_wp2
       go_roundg (gj - 1)
       case rel => exact ⟨i + 1, by have := HJ.out; omega, by go_num, hf2.out, hb⟩
       case measure => have := HJ.out; omega
    ·
     have hf := Hd (errNm_good HA.out fun i s hs => hfr.out i s (by have := lt_of_get hs; omega) hs)
     go_wp2
     go_ret
     exact ⟨ret_int hf.out.symm, hb⟩
theorem varsI_last (p : List Trm) : ∀ (i : Nat) (v : Int), (varsI p i)[(varsI p i).length - 1]? = some v -> v ∈ varsI p i /\ ∀ u ∈ varsI p i, u <= v
 | 0, v, h => by simp [varsI] at h
 | i + 1, v, h => by
  rw [varsI_succ] at h ⊢
  by_cases hs : seenB p i = true
  ·
   rw [if_pos hs] at h ⊢
   simp at h
   subst h
   refine ⟨by simp, fun u hu => ?_⟩
   rcases List.mem_append.1 hu with hu | hu
   · have := varsI_in p i u hu; omega
   · simp at hu; omega
  ·
   rw [if_neg hs] at h ⊢
   exact varsI_last p i v h
theorem varsI_mem {p : List Trm} {i v : Nat} (hv : v < i) (hs : seenB p v = true) : (v : Int) ∈ varsI p i := by
 unfold varsI
 exact List.mem_map.2 ⟨v, List.mem_filter.2 ⟨List.mem_range.2 hv, hs⟩, rfl⟩
theorem varsI_seen {p : List Trm} {i : Nat} {u : Int} (h : u ∈ varsI p i) : ∃ v : Nat, u = v /\ seenB p v = true := by
 unfold varsI at h
 obtain ⟨v, hv, rfl⟩ := List.mem_map.1 h
 exact ⟨v, rfl, (List.mem_filter.1 hv).2⟩
def bigB (l : List Trm) (n : Nat) : Bool := l.any fun t => decide (n < t.mono.length)
theorem expAt_lt {m : List Int} {v : Nat} (h : expAt m v ≠ 0) : v < m.length := by
 apply Nat.lt_of_not_le
 intro hc
 apply h
 unfold expAt; rw [List.getD_eq_getElem?_getD, List.getElem?_eq_none hc]; rfl
theorem bigB_last {l : List Trm} {n : Nat} {v : Int} (hm : ∀ t ∈ l, monoB t.mono = true) (h : (varsI l 64)[(varsI l 64).length - 1]? = some v) : bigB l n = decide ((n : Int) <= v) := by
 obtain ⟨h1, h2⟩ := varsI_last l 64 v h
 rw [Bool.eq_iff_iff, decide_eq_true_eq]
 unfold bigB
 rw [List.any_eq_true]
 constructor
 ·
  rintro ⟨t, ht, hb⟩
  have hb' : n < t.mono.length := by simpa using hb
  have hmt := hm t ht
  have hme := monoB_mem hmt
  have hne : expAt t.mono (t.mono.length - 1) ≠ 0 := by
   intro e0
   have hlt : t.mono.length - 1 < t.mono.length := by omega
   obtain ⟨x, hx⟩ := get_of_lt hlt
   have hx0 : x = 0 := by unfold expAt at e0; rw [List.getD_eq_getElem?_getD, hx] at e0; exact e0
   rw [monoB_last (by rw [hx, hx0])] at hmt
   cases hmt
  have := h2 _ (varsI_mem (p := l) (i := 64) (v := t.mono.length - 1) (by omega) (by unfold seenB; rw [List.any_eq_true]; exact ⟨t, ht, by simp [hne]⟩))
  omega
 ·
  intro hn
  obtain ⟨u, rfl, hs⟩ := varsI_seen h1
  unfold seenB at hs
  rw [List.any_eq_true] at hs
  obtain ⟨t, ht, hx⟩ := hs
  have := expAt_lt (m := t.mono) (v := u) (by simpa using hx)
  exact ⟨t, ht, by simp; omega⟩
theorem bigB_none {l : List Trm} {n : Nat} (hm : ∀ t ∈ l, monoB t.mono = true) (h : (varsI l 64).length = 0) : bigB l n = false := by
 rw [Bool.eq_false_iff]
 intro hb
 unfold bigB at hb
 rw [List.any_eq_true] at hb
 obtain ⟨t, ht, hb⟩ := hb
 have hb' : n < t.mono.length := by simpa using hb
 have hmt := hm t ht
 have hme := monoB_mem hmt
 have hne : expAt t.mono (t.mono.length - 1) ≠ 0 := by
  intro e0
  obtain ⟨x, hx⟩ := get_of_lt (show t.mono.length - 1 < t.mono.length by omega)
  have hx0 : x = 0 := by unfold expAt at e0; rw [List.getD_eq_getElem?_getD, hx] at e0; exact e0
  rw [monoB_last (by rw [hx, hx0])] at hmt
  cases hmt
 have := varsI_mem (p := l) (i := 64) (v := t.mono.length - 1) (by omega) (by unfold seenB; rw [List.any_eq_true]; exact ⟨t, ht, by simp [hne]⟩)
 rw [List.length_eq_zero_iff] at h
 rw [h] at this
 cases this
theorem polyB_terms {l : List Trm} (h : polyB l = true) : ∀ t ∈ l, t.coef.right = true /\ monoB t.mono = true := fun t ht => by
 obtain ⟨i, hi⟩ := List.getElem?_of_mem ht
 have hil := (List.getElem?_eq_some_iff.1 hi).1
 unfold polyB at h
 rw [List.all_eq_true] at h
 have := h i (List.mem_range.2 hil)
 have ho := badAt_ok hi (by simpa using this)
 unfold okT at ho
 simp only [Bool.and_eq_true] at ho
 exact ⟨ho.1.1, ho.2⟩
def signP (k : Nat) (q : Rat) : ByteArray := if k = 0 then (if q < 0 then ⟨#[45]⟩ else ⟨#[]⟩) else if q < 0 then ⟨#[32, 45, 32]⟩ else ⟨#[32, 43, 32]⟩
def polyTo (l : List Trm) (names : List ByteArray) : Nat -> ByteArray
 | 0 => ⟨#[]⟩
 | k + 1 => match l[k]? with
  | some t => polyTo l names k ++ signP k t.coef.q ++ termB t.coef.q t.mono names
  | none => polyTo l names k
theorem polyTo_succ {l : List Trm} {names : List ByteArray} {k : Nat} {t : Trm} (h : l[k]? = some t) : polyTo l names (k + 1) = polyTo l names k ++ signP k t.coef.q ++ termB t.coef.q t.mono names := by rw [polyTo, h]
def printP (l : List Trm) (names : List ByteArray) : ByteArray × Int :=
 if polyB l = true then if errNm names = 0 then if bigB l names.length = true then (⟨#[]⟩, 6) else if l.length = 0 then (⟨#[48]⟩, 0) else (polyTo l names l.length, 0) else (⟨#[]⟩, errNm names) else (⟨#[]⟩, 1)
theorem signP_size (k : Nat) (q : Rat) : (signP k q).size <= 3 := by unfold signP; split <;> split <;> simp [ByteArray.size]
theorem polyTo_size {l : List Trm} {names : List ByteArray} {M : Nat} (h : ∀ t ∈ l, (termB t.coef.q t.mono names).size <= M) : ∀ k, (polyTo l names k).size <= k * (M + 3)
 | 0 => by simp [polyTo, ByteArray.size]
 | k + 1 => by
  have ih := polyTo_size h k
  rw [polyTo]
  split
  ·
   next t ht =>
   have h1 := h t (List.mem_of_getElem? ht)
   have h2 := signP_size k t.coef.q
   rw [ByteArray.size_append, ByteArray.size_append, Nat.succ_mul]
   omega
  · rw [Nat.succ_mul]; omega
inductive Got (α : Type) where
 | ok (v : α) (r : List UInt8)
 | bad (k : Nat) (e : Int)
def Got.bnd {α β : Type} (g : Got α) (f : α -> List UInt8 -> Got β) : Got β := match g with
 | .ok v r => f v r
 | .bad k e => .bad k e
def lost {α : Type} (l : List UInt8) : Got α := if l.length = 0 then .bad 0 10 else .bad l.length 9
def digU (c : UInt8) : Bool := digV c.toNat
def letU (c : UInt8) : Bool := letV c.toNat
def numL : List UInt8 -> Nat
 | [] => 0
 | c :: r => if digU c = true then (if c = 48 then 1 else 1 + (r.takeWhile digU).length) else 0
def decL (l : List UInt8) : Nat := l.foldl (fun a c => 10 * a + (c.toNat - 48)) 0
def numG (l : List UInt8) : Got (List UInt8) := if numL l = 0 then lost l else if 1000 < numL l then .bad l.length 4 else .ok (l.take (numL l)) (l.drop (numL l))
def namL : List UInt8 -> Nat
 | [] => 0
 | c :: r => if letU c = true then 1 + (r.takeWhile wordV).length else 0
def whoV (names : List ByteArray) (s : List UInt8) : Option Nat := (names.take 64).findIdx? fun x => decide (x = ofL s)
def namG (names : List ByteArray) (l : List UInt8) : Got Nat := if namL l = 0 then lost l else match whoV names (l.take (namL l)) with
 | none => .bad l.length 6
 | some v => .ok v (l.drop (namL l))
def powG (names : List ByteArray) (l : List UInt8) : Got (Nat × Int) := (namG names l).bnd fun v r => if r[0]? = some 94 then (numG (r.drop 1)).bnd fun d r2 => if 1048576 < decL d then .bad (r.drop 1).length 4 else .ok (v, decL d) r2 else .ok (v, 1) r
def putM (m : List Int) (p : Nat × Int) : List Int := m.set p.1 (expAt m p.1 + p.2)
def proG (names : List ByteArray) (F : Nat) : Nat -> List Int -> List UInt8 -> Got (List Int)
 | 0, _, _ => .bad 0 4
 | n + 1, m, l => (powG names l).bnd fun p r => if 1048576 < expAt m p.1 + p.2 then .bad F 4 else if r[0]? = some 42 then proG names F n (putM m p) (r.drop 1) else .ok (putM m p) r
def zerM : List Int := List.replicate 64 0
def cutM (m : List Int) : List Int := (m.reverse.dropWhile fun x => decide (x = 0)).reverse
def cofG (l : List UInt8) : Got Rat := (numG l).bnd fun p r => if r[0]? = some 47 then (numG (r.drop 1)).bnd fun q r2 => if decL q = 0 then .bad (r.drop 1).length 3 else .ok (qv false (decL p) (decL q)) r2 else .ok (qv false (decL p) 1) r
def monG (names : List ByteArray) (F : Nat) (q : Rat) (l : List UInt8) : Got (Rat × List Int) := (proG names F (l.length + 1) zerM l).bnd fun m r => .ok (q, cutM m) r
def terG (names : List ByteArray) (l : List UInt8) : Got (Rat × List Int) := if numL l = 0 then monG names l.length 1 l else (cofG l).bnd fun q r => if r[0]? = some 42 then monG names l.length q (r.drop 1) else .ok (q, []) r
def eatG (c : UInt8) (l : List UInt8) : Got Unit := if l[0]? = some c then .ok () (l.drop 1) else lost l
def sepG (l : List UInt8) : Got Bool := (eatG 32 l).bnd fun _ r => if r[0]? = some 45 then (eatG 32 (r.drop 1)).bnd fun _ r' => .ok true r' else (eatG 43 r).bnd fun _ r1 => (eatG 32 r1).bnd fun _ r2 => .ok false r2
def sgnT (neg : Bool) (t : Rat × List Int) : Rat × List Int := (if neg = true then -t.1 else t.1, t.2)
def sumG (names : List ByteArray) : Nat -> Bool -> List (Rat × List Int) -> List UInt8 -> Got (List (Rat × List Int))
 | 0, _, _, _ => .bad 0 4
 | f + 1, neg, acc, l => if acc.length = 4000 then .bad l.length 4 else (terG names l).bnd fun t r => if r.length = 0 then .ok (acc ++ [sgnT neg t]) r else (sepG r).bnd fun ng r' => sumG names f ng (acc ++ [sgnT neg t]) r'
def reaG (names : List ByteArray) (l : List UInt8) : Got (List (Rat × List Int)) := if l[0]? = some 45 then sumG names (l.length + 1) true [] (l.drop 1) else sumG names (l.length + 1) false [] l
theorem decL_snoc (l : List UInt8) (c : UInt8) : decL (l ++ [c]) = 10 * decL l + (c.toNat - 48) := by unfold decL; rw [List.foldl_append]; rfl
end Go.Proofs.YtkjnkpkagcboeaaGreatDoor
