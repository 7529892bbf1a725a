/- Walk: a numeral read from a text (the program). -/
import Derived.Test.YtkjnkpkagcboeaaGreatDoorPp15
import Derived.Test.YtkjnkpkagcboeaaGreatDoorPp12
import Derived.Test.YtkjnkpkagcboeaaGreatDoorPp1
import Derived.Test.YtkjnkpkagcboeaaGreatDoorPp9
import Derived.Test.YtkjnkpkagcboeaaGreatDoorPp4
set_option linter.all false
set_option maxRecDepth 100000
set_option maxHeartbeats 4000000
namespace Go.Proofs.YtkjnkpkagcboeaaGreatDoor
open Go.RowKit
def facL (names : List ByteArray) (p : Nat × Int) : List UInt8 := if p.2 = 1 then (nameA names p.1).data.toList else (nameA names p.1).data.toList ++ 94 :: textN p.2.toNat
def facsL (names : List ByteArray) : List (Nat × Int) -> List UInt8
 | [] => []
 | p :: r => facL names p ++ r.flatMap fun q => 42 :: facL names q
theorem putM_len (m : List Int) (p : Nat × Int) : (putM m p).length = m.length := by simp [putM]
def prsF (f : Nat -> Int) (vs : List Nat) : List (Nat × Int) := (vs.map fun v => (v, f v)).filter fun p => decide (0 < p.2)
theorem prsF_cons (f : Nat -> Int) (v : Nat) (vs : List Nat) : prsF f (v :: vs) = if 0 < f v then (v, f v) :: prsF f vs else prsF f vs := by
 unfold prsF
 rw [List.map_cons, List.filter_cons]
 by_cases h : 0 < f v
 · rw [if_pos (by simpa using h), if_pos h]
 · rw [if_neg (by simpa using h), if_neg h]
theorem cutM_zeros (a : List Int) : ∃ z, a = cutM a ++ z /\ (∀ x ∈ z, x = 0) /\ (cutM a)[(cutM a).length - 1]? ≠ some 0 := by
 have h := List.takeWhile_append_dropWhile (p := fun x : Int => decide (x = 0)) (l := a.reverse)
 refine ⟨(a.reverse.takeWhile fun x => decide (x = 0)).reverse, ?_, fun x hx => ?_, ?_⟩
 ·
  unfold cutM
  rw [<- List.reverse_append, h, List.reverse_reverse]
 ·
  rw [List.mem_reverse] at hx
  have := List.all_eq_true.1 (List.all_takeWhile (p := fun x : Int => decide (x = 0)) (l := a.reverse)) x hx
  simpa using this
 ·
  unfold cutM
  intro e
  rw [<- List.getLast?_eq_getElem?, List.getLast?_reverse] at e
  have hh := List.head?_dropWhile_not (fun x : Int => decide (x = 0)) a.reverse
  rw [e] at hh
  simp at hh
def prsM (m : List Int) : List (Nat × Int) := prsF (expAt m) (List.range m.length)
theorem ofL_list (l : List UInt8) : (ofL l).data.toList = l := by unfold ofL; simp
theorem textQ_pos {q : Rat} (h : 0 <= q) : textQ q = if q.den = 1 then textN q.num.natAbs else textN q.num.natAbs ++ 47 :: textN q.den := by
 have hn : decide (q.num < 0) = false := by
  have := Rat.num_nonneg.2 h
  simp; omega
 unfold textQ textF trip textZ
 dsimp only
 rw [hn]
 simp
theorem facP_list (names : List ByteArray) (v : Nat) (x : Int) : (facP names v x).map (·.data.toList) = if 0 < x then [facL names (v, x)] else [] := by
 unfold facP facL
 by_cases h1 : x = 1
 · rw [if_pos h1, if_pos (by omega), if_pos h1]; rfl
 ·
  rw [if_neg h1]
  by_cases h2 : 1 < x
  ·
   rw [if_pos h2, if_pos (by omega), if_neg h1]
   simp [ByteArray.data_append, ofL_list]
  · rw [if_neg h2, if_neg (by omega)]; rfl
theorem facs_list (names : List ByteArray) (f : Nat -> Int) : ∀ vs : List Nat, (vs.flatMap fun v => facP names v (f v)).map (·.data.toList) = (prsF f vs).map (facL names)
 | [] => rfl
 | v :: vs => by
  rw [List.flatMap_cons, List.map_append, facP_list, facs_list names f vs, prsF_cons]
  split <;> simp
theorem joinTail_flat (r : List (List UInt8)) : Lib.joinTail [42] r = r.flatMap fun x => 42 :: x := by
 unfold Lib.joinTail
 induction r with
 | nil => rfl
 | cons x r ih => rw [List.map_cons, List.flatten_cons, List.flatMap_cons, ih]; rfl
def termL (names : List ByteArray) (q : Rat) (m : List Int) : List UInt8 := if m.length = 0 \/ absQ q ≠ 1 then textQ (absQ q) ++ (prsM m).flatMap fun p => 42 :: facL names p else facsL names (prsM m)
theorem termB_list (names : List ByteArray) (q : Rat) (m : List Int) : (termB q m names).data.toList = termL names q m := by
 have e : (termB q m names).data.toList = Lib.join ((partsT q m names m.length).map (·.data.toList)) [42] := ofL_list _
 rw [e]
 unfold partsT cofP termL
 rw [List.map_append, facs_list]
 change Lib.join (_ ++ (prsM m).map (facL names)) [42] = _
 split
 · rw [List.map_cons, List.map_nil, List.singleton_append, Lib.join_cons, joinTail_flat, ofL_list, List.flatMap_map]
 ·
  rw [List.map_nil, List.nil_append]
  generalize prsM m = l
  cases l with
  | nil => rfl
  | cons p r => rw [List.map_cons, Lib.join_cons, joinTail_flat, List.flatMap_map]; rfl
def trmQ (t : Trm) : Rat × List Int := (t.coef.q, t.mono)
def sepL (q : Rat) : List UInt8 := if q < 0 then [32, 45, 32] else [32, 43, 32]
def tailL (names : List ByteArray) (l : List Trm) : List UInt8 := l.flatMap fun t => sepL t.coef.q ++ termL names t.coef.q t.mono
def bodyL (names : List ByteArray) : List Trm -> List UInt8
 | [] => []
 | t :: r => (if t.coef.q < 0 then [45] else []) ++ (termL names t.coef.q t.mono ++ tailL names r)
theorem polyTo_list (names : List ByteArray) (t : Trm) (r : List Trm) : ∀ k, k <= r.length -> (polyTo (t :: r) names (k + 1)).data.toList ++ tailL names (r.drop k) = bodyL names (t :: r)
 | 0, _ => by
  rw [polyTo_succ (t := t) rfl]
  unfold bodyL signP polyTo
  rw [if_pos rfl, List.drop_zero]
  simp only [ByteArray.data_append, Array.toList_append, termB_list]
  split <;> simp
 | k + 1, h => by
  have hk : k < r.length := by omega
  have ih := polyTo_list names t r k (by omega)
  rw [List.drop_eq_getElem_cons hk] at ih
  rw [polyTo_succ (t := r[k]) (by rw [List.getElem?_cons_succ, List.getElem?_eq_getElem hk])]
  rw [<- ih]
  unfold signP tailL sepL
  rw [if_neg (by omega)]
  simp only [ByteArray.data_append, Array.toList_append, termB_list, List.flatMap_cons, List.append_assoc]
  split <;> simp
theorem polyTo_all (names : List ByteArray) (l : List Trm) : (polyTo l names l.length).data.toList = bodyL names l := by
 cases l with
 | nil => rfl
 | cons t r =>
  have := polyTo_list names t r r.length (nlr _)
  rw [List.drop_length] at this
  simpa [tailL] using this
structure Cuts {α : Type} (N : Nat) (G G' : List UInt8 -> Got α) : Prop where
 sub : ∀ l x r, l.length < N -> G l = .ok x r -> r.length <= l.length
 far : ∀ l k, l.length < N -> G l = .bad k 9 -> k <= l.length
 ok : ∀ u v x r, (u ++ v).length < N -> v ≠ [] -> G (u ++ v) = .ok x r -> v.length <= r.length -> ∃ r', r = r' ++ v /\ G' u = .ok x r'
 form : ∀ u v k, (u ++ v).length < N -> v ≠ [] -> G (u ++ v) = .bad k 9 -> v.length < k -> G' u = .bad (k - v.length) 9
 edge : ∀ u v, (u ++ v).length < N -> v ≠ [] -> G (u ++ v) = .bad v.length 9 -> G' u = .bad 0 10
theorem lost_ok {α : Type} {l : List UInt8} {x : α} {r : List UInt8} (h : (lost l : Got α) = .ok x r) : False := by
 unfold lost at h
 split at h <;> cases h
theorem head_len {c : UInt8} {l : List UInt8} (h : l[0]? = some c) : 0 < l.length := by
 cases l with
 | nil => cases h
 | cons d l => simp
structure Word (m : List UInt8 -> Nat) : Prop where
 le : ∀ l, m l <= l.length
 nil : m [] = 0
 cut : ∀ u v, m (u ++ v) = m u \/ u.length < m (u ++ v)
 zero : ∀ c u v, m (c :: (u ++ v)) = 0 -> m (c :: u) = 0
theorem eatG_less {c : UInt8} {l r : List UInt8} {x : Unit} (h : eatG c l = .ok x r) : r.length < l.length := by
 unfold eatG at h
 split at h
 ·
  next hc =>
  have := head_len hc
  injection h with _ h; rw [<- h, List.length_drop]; omega
 · exact (lost_ok h).elim
def tl (s : ByteArray) (a : Nat) : List UInt8 := s.data.toList.drop a
theorem tl_len (s : ByteArray) (a : Nat) : (tl s a).length = s.size - a := by simp [tl]
theorem tl_at {s : ByteArray} {a : Nat} (h : a < s.size) : tl s a = s[a] :: tl s (a + 1) := by
 unfold tl
 rw [List.drop_eq_getElem_cons (by simpa using h)]
 rfl
theorem tl_end {s : ByteArray} {a : Nat} (h : s.size <= a) : tl s a = [] := List.eq_nil_of_length_eq_zero (by rw [tl_len]; omega)
theorem tl_drop (s : ByteArray) (a k : Nat) : (tl s a).drop k = tl s (a + k) := by unfold tl; rw [List.drop_drop]
theorem tl_all (s : ByteArray) : tl s 0 = s.data.toList := by simp [tl]
def nxtB (l : List UInt8) (c : Int) : Bool := match l[0]? with
 | some x => decide ((x.toNat : Int) = c)
 | none => false
theorem nxtB_is (l : List UInt8) (c : UInt8) {z : Int} (hz : (c.toNat : Int) = z) : nxtB l z = decide (l[0]? = some c) := by
 subst hz
 unfold nxtB
 cases l[0]? with
 | none => simp
 | some x =>
  simp only [Option.some.injEq]
  rw [decide_eq_decide]
  constructor
  · intro h; exact UInt8.toNat_inj.1 (by omega)
  · intro h; rw [h]
theorem nxtB_at {s : ByteArray} {a : Nat} (h : a < s.size) (c : Int) : nxtB (tl s a) c = decide (((s[a]'h).toNat : Int) = c) := by rw [tl_at h]; rfl
theorem nxtB_end {s : ByteArray} {a : Nat} (h : s.size <= a) (c : Int) : nxtB (tl s a) c = false := by rw [tl_end h]; rfl
def RdA (w : World) (g : Nat) (s : ByteArray) (mb a : Nat) (e b : Int) : Prop := Blk w g 73 #[.string s, .int .i64 a, .map (some mb), .int .i64 e, .int .i64 b]
def StR (w : World) (g : Nat) (s : ByteArray) (mb : Nat) (l : List UInt8) : Prop := ∃ a : Nat, a <= s.size /\ l = tl s a /\ RdA w g s mb a 0 0
def StE (w : World) (g : Nat) (s : ByteArray) (mb : Nat) (k : Nat) (e : Int) : Prop := ∃ a : Nat, a <= s.size /\ k <= s.size /\ e ≠ 0 /\ RdA w g s mb a e ((s.size - k : Nat) : Int)
def StG {α : Type} (w : World) (g : Nat) (s : ByteArray) (mb : Nat) (G : Got α) : Prop := match G with
 | .ok _ r => StR w g s mb r
 | .bad k e => StE w g s mb k e
section
variable {w w' : World} {g mb a : Nat} {s : ByteArray} {e b : Int}
theorem RdA.below (h : RdA w g s mb a e b) (hb : Below w.heap.size w w') : RdA w' g s mb a e b := Blk.below' h hb
theorem RdA.lt (h : RdA w g s mb a e b) : g < w.heap.size := Blk.lt h
theorem RdA.set1 (h : RdA w g s mb a e b) (a' : Nat) : RdA (w.setCell ⟨g, 1, none⟩ (.int .i64 a')) g s mb a' e b := bS h rfl
theorem RdA.set34 (h : RdA w g s mb a e b) (e' b' : Int) : RdA ((w.setCell ⟨g, 3, none⟩ (.int .i64 e')).setCell ⟨g, 4, none⟩ (.int .i64 b')) g s mb a e' b' := bS (bS h rfl) rfl
theorem StE.below {k : Nat} {e : Int} (h : StE w g s mb k e) (hb : Below w.heap.size w w') : StE w' g s mb k e := by obtain ⟨a, h1, h2, h3, h4⟩ := h; exact ⟨a, h1, h2, h3, h4.below hb⟩
end
abbrev Fg (g : Nat) (w w' : World) : Prop := Fr (fun b => b = g) w w'
theorem peek_any (g mb a : Nat) (s : ByteArray) (e b c : Int) (w : World) (h : RdA w g s mb a e b) (ha : a <= s.size) (hs : s.size <= 281474976710656) :
  Calls Tryz.prog 69 #[.pointer (some ⟨g, 0, none⟩), .int .u8 c] w fun e w' => e = .returned (.bool (nxtB (tl s a) c)) /\ Below w.heap.size w w' := by
 have z0 := Blk.cell h 0; have z1 := Blk.cell h 1; have z2 := Blk.cell h 2; have z3 := Blk.cell h 3; have z4 := Blk.cell h 4
 have hl := h.lt
 have hbd : Below w.heap.size w w.drew := brf.drew
 by_cases hlt : a < s.size
 ·
  have hn := nxtB_at hlt c
  rw [hn]
  clear hn h
  obtain ⟨y, hy⟩ : ∃ y : Nat, (s[a]'hlt).toNat = y := ⟨_, rfl⟩
  rw [hy]
  by_cases hyc : (y : Int) = c
  ·
   have hyb : ((y : Int) == c) = true := by simpa using hyc
   rw [decide_eq_true hyc]
   clear hyc
   go_enter Tryz.func69, Tryz.ntmps69
   go_wp2
   refine wp_region_mix (S := (fun x => x = w.drew)) [(0, .q), (1, .q), (2, .q), (3, .q), (4, .q), (5, .q), (6, .q), (7, .q), (8, .q), (9, .q), (10, .q), (11, .q), (12, .q), (13, .q), (14, .q), (15, .q), (16, .q), (17, .q), (18, .q), (19, .q), (20, .q), (21, .p), (22, .p), (23, .p)] (by kernel_rfl) (by kernel_rfl) (by kernel_rfl) (fun d _ _ _ _ h => by cases d <;> exact h) (rfl) ?_
   iterate 21 (refine wpMix_q rfl rfl (fun K hK => ?_); apply Exists.intro; refine ⟨fun w' hw' => ?_, ?_⟩; (focus (go_simp; try rfl)); go_simp; refine hK _ _ ?_; clear hK K)
   iterate 3 (refine wpMix_p rfl rfl (fun K hK => ?_); apply Exists.intro; refine ⟨fun w' => ?_, ?_⟩; (focus (go_simp; try rfl)); go_simp; refine hK _ _ ?_; clear hK K)
   refine wpMix_nil ?_
   go_wp2
   go_ret
   exact ⟨rfl, hbd⟩
  ·
   have hyb : ((y : Int) == c) = false := by simpa using hyc
   rw [decide_eq_false hyc]
   clear hyc
   go_enter Tryz.func69, Tryz.ntmps69
   go_wp2
   refine wp_region_mix (S := (fun x => x = w.drew)) [(0, .q), (1, .q), (2, .q), (3, .q), (4, .q), (5, .q), (6, .q), (7, .q), (8, .q), (9, .q), (10, .q), (11, .q), (12, .q), (13, .q), (14, .q), (15, .q), (16, .q), (17, .q), (18, .q), (19, .q), (20, .q), (21, .p), (22, .p), (23, .p)] (by kernel_rfl) (by kernel_rfl) (by kernel_rfl) (fun d _ _ _ _ h => by cases d <;> exact h) (rfl) ?_
   iterate 21 (refine wpMix_q rfl rfl (fun K hK => ?_); apply Exists.intro; refine ⟨fun w' hw' => ?_, ?_⟩; (focus (go_simp; try rfl)); go_simp; refine hK _ _ ?_; clear hK K)
   iterate 3 (refine wpMix_p rfl rfl (fun K hK => ?_); apply Exists.intro; refine ⟨fun w' => ?_, ?_⟩; (focus (go_simp; try rfl)); go_simp; refine hK _ _ ?_; clear hK K)
   refine wpMix_nil ?_
   go_wp2
   go_ret
   exact ⟨rfl, hbd⟩
 ·
  rw [nxtB_end (by omega)]
  clear h
  go_enter Tryz.func69, Tryz.ntmps69
  go_wp2
  refine wp_region_mix (S := (fun x => x = w.drew)) [(0, .q), (1, .q), (2, .q), (3, .q), (4, .q), (5, .q), (6, .q), (7, .q), (8, .q), (9, .q), (10, .q), (11, .q), (12, .q), (13, .q), (14, .q), (15, .q), (16, .q), (17, .q), (18, .q), (19, .q), (20, .q), (21, .p), (22, .p), (23, .p)] (by kernel_rfl) (by kernel_rfl) (by kernel_rfl) (fun d _ _ _ _ h => by cases d <;> exact h) (rfl) ?_
  iterate 11 (refine wpMix_q rfl rfl (fun K hK => ?_); apply Exists.intro; refine ⟨fun w' hw' => ?_, ?_⟩; (focus (go_simp; try rfl)); go_simp; refine hK _ _ ?_; clear hK K)
  iterate 11 (refine wpMix_skip rfl rfl (fun K hK => ?_); go_simp; refine hK _ _ ?_; clear hK K)
  iterate 2 (refine wpMix_p rfl rfl (fun K hK => ?_); apply Exists.intro; refine ⟨fun w' => ?_, ?_⟩; (focus (go_simp; try rfl)); go_simp; refine hK _ _ ?_; clear hK K)
  refine wpMix_nil ?_
  go_wp2
  go_ret
  exact ⟨rfl, hbd⟩
theorem fail_any (g mb a : Nat) (s : ByteArray) (e x : Int) (w : World) (h : RdA w g s mb a 0 0) :
  Calls Tryz.prog 70 #[.pointer (some ⟨g, 0, none⟩), .int .i64 x, .int .i64 e] w fun u w' => u = .returned (.tuple #[]) /\ RdA w' g s mb a e x /\ Fg g w w' := by
 have z0 := Blk.cell h 0; have z1 := Blk.cell h 1; have z2 := Blk.cell h 2; have z3 := Blk.cell h 3; have z4 := Blk.cell h 4
 have hl := h.lt
 have f3 := Blk.frozen h 3; have f4 := Blk.frozen h 4
 have hF := Hd (h.set34 e x)
 have hG := Hd (((Fr.refl (fun b => b = g) w).setc (g := g) (i := 3) (u := .int .i64 e) (.inl rfl)).setc (g := g) (i := 4) (u := .int .i64 x) (.inl rfl))
 clear h
 go_enter Tryz.func70, Tryz.ntmps70
 go_wp2
 first | go_end0 | ((try simp only [Exit.inBlock, Exit.then]); refine bodyPost_ret (results_none rfl _ _ _) rfl ?_)
 exact ⟨rfl, hF.out, hG.out⟩
theorem fail_no (g mb a : Nat) (s : ByteArray) (e0 b e x : Int) (w : World) (h : RdA w g s mb a e0 b) (h0 : e0 ≠ 0) :
  Calls Tryz.prog 70 #[.pointer (some ⟨g, 0, none⟩), .int .i64 x, .int .i64 e] w fun u w' => u = .returned (.tuple #[]) /\ w = w' := by
 have z0 := Blk.cell h 0; have z1 := Blk.cell h 1; have z2 := Blk.cell h 2; have z3 := Blk.cell h 3; have z4 := Blk.cell h 4
 have hl := h.lt
 have hz : (e0 == 0) = false := by simpa using h0
 clear h
 go_enter Tryz.func70, Tryz.ntmps70
 go_wp2
 first | go_end0 | ((try simp only [Exit.inBlock, Exit.then]); refine bodyPost_ret (results_none rfl _ _ _) rfl ?_)
 exact ⟨rfl, rfl⟩
theorem refuse_any (g mb a : Nat) (s : ByteArray) (w : World) (h : RdA w g s mb a 0 0) (ha : a <= s.size) (hs : s.size <= 281474976710656) :
  Calls Tryz.prog 121 #[.pointer (some ⟨g, 0, none⟩)] w fun u w' => u = .returned (.tuple #[]) /\ StG w' g s mb (lost (α := Unit) (tl s a)) /\ Fg g w w' := by
 have z0 := Blk.cell h 0; have z1 := Blk.cell h 1; have z2 := Blk.cell h 2; have z3 := Blk.cell h 3; have z4 := Blk.cell h 4
 have hl := h.lt
 have C := fun e => fail_any g mb a s e (a : Int) w.drew h
 have hbd : Fg g w w.drew := Fr.below (brf.drew)
 replace C := Hd C; replace hbd := Hd hbd
 clear h
 by_cases hlt : a = s.size
 ·
  have hb : ((a : Int) == (s.size : Int)) = true := by rw [beq_iff_eq]; omega
  have hL : lost (α := Unit) (tl s a) = .bad 0 10 := by rw [tl_end (by omega)]; rfl
  rw [hL]
  replace hlt := Hd hlt
  go_enter Tryz.func121, Tryz.ntmps121
  go_wp2
  refine wp_region_mix (S := (fun x => x = w.drew)) [(0, .q), (1, .q), (2, .q), (3, .q), (4, .q), (5, .q), (6, .q), (7, .q), (8, .q), (9, .p)] (by kernel_rfl) (by kernel_rfl) (by kernel_rfl) (fun d _ _ _ _ h => by cases d <;> exact h) (rfl) ?_
  iterate 9 (refine wpMix_q rfl rfl (fun K hK => ?_); apply Exists.intro; refine ⟨fun w' hw' => ?_, ?_⟩; (focus (go_simp; try rfl)); go_simp; refine hK _ _ ?_; clear hK K)
  iterate 1 (refine wpMix_p rfl rfl (fun K hK => ?_); apply Exists.intro; refine ⟨fun w' => ?_, ?_⟩; (focus (go_simp; try rfl)); go_simp; refine hK _ _ ?_; clear hK K)
  refine wpMix_nil ?_
  go_wp2_with fail
  refine (C.out 10).mono ?_
  rintro e w1 ⟨rfl, h1, hf⟩
  go_wp2
  first | go_end0 | ((try simp only [Exit.inBlock, Exit.then]); refine bodyPost_ret (results_none rfl _ _ _) rfl ?_)
  exact ⟨rfl, ⟨a, ha, by omega, by decide, by rw [Nat.sub_zero, <- hlt.out]; exact h1⟩, hbd.out.trans hf⟩
 ·
  have hb : ((a : Int) == (s.size : Int)) = false := by rw [beq_eq_false_iff_ne]; omega
  have hL : lost (α := Unit) (tl s a) = .bad (s.size - a) 9 := by unfold lost; rw [if_neg (by rw [tl_len]; omega), tl_len]
  rw [hL]
  replace hlt := Hd hlt
  go_enter Tryz.func121, Tryz.ntmps121
  go_wp2
  refine wp_region_mix (S := (fun x => x = w.drew)) [(0, .q), (1, .q), (2, .q), (3, .q), (4, .q), (5, .q), (6, .q), (7, .q), (8, .q), (9, .p)] (by kernel_rfl) (by kernel_rfl) (by kernel_rfl) (fun d _ _ _ _ h => by cases d <;> exact h) (rfl) ?_
  iterate 9 (refine wpMix_q rfl rfl (fun K hK => ?_); apply Exists.intro; refine ⟨fun w' hw' => ?_, ?_⟩; (focus (go_simp; try rfl)); go_simp; refine hK _ _ ?_; clear hK K)
  iterate 1 (refine wpMix_p rfl rfl (fun K hK => ?_); apply Exists.intro; refine ⟨fun w' => ?_, ?_⟩; (focus (go_simp; try rfl)); go_simp; refine hK _ _ ?_; clear hK K)
  refine wpMix_nil ?_
  go_wp2_with fail
  refine (C.out 9).mono ?_
  rintro e w1 ⟨rfl, h1, hf⟩
  go_wp2
  first | go_end0 | ((try simp only [Exit.inBlock, Exit.then]); refine bodyPost_ret (results_none rfl _ _ _) rfl ?_)
  exact ⟨rfl, ⟨a, ha, by omega, by decide, by rw [show s.size - (s.size - a) = a by omega]; exact h1⟩, hbd.out.trans hf⟩
theorem lost_unit {α β : Type} {w : World} {g mb : Nat} {s : ByteArray} {l : List UInt8} (h : StG w g s mb (lost (α := α) l)) : StG w g s mb (lost (α := β) l) := by
 unfold lost at h ⊢
 split <;> simp_all [StG]
theorem take_any (g mb a : Nat) (s : ByteArray) (c : UInt8) (z : Int) (hz : (c.toNat : Int) = z) (w : World) (h : RdA w g s mb a 0 0) (ha : a <= s.size) (hs : s.size <= 281474976710656) :
  Calls Tryz.prog 73 #[.pointer (some ⟨g, 0, none⟩), .int .u8 z] w fun u w' => u = .returned (.tuple #[]) /\ StG w' g s mb (eatG c (tl s a)) /\ Fg g w w' := by
 have z0 := Blk.cell h 0; have z1 := Blk.cell h 1; have z2 := Blk.cell h 2; have z3 := Blk.cell h 3; have z4 := Blk.cell h 4
 have hl := h.lt
 have f1 := Blk.frozen h 1
 have CP := peek_any g mb a s 0 0 z w h ha hs
 have CR := fun W (hW : Below w.heap.size w W) => refuse_any g mb a s W (h.below hW) ha hs
 have hne := nxtB_is (tl s a) c hz
 replace CR := Hd CR
 obtain ⟨bp, hbp⟩ : ∃ b, nxtB (tl s a) z = b := ⟨_, rfl⟩
 rw [hbp] at CP hne
 replace CP := Hd CP
 cases bp
 ·
  have hE : eatG c (tl s a) = lost (tl s a) := by unfold eatG; rw [if_neg (by simpa using hne.symm)]
  rw [hE]
  clear h hbp hne hE hz
  go_enter Tryz.func73, Tryz.ntmps73
  go_wp2_with fail
  refine CP.out.mono ?_
  rintro e w0 ⟨rfl, hb0⟩
  go_wp2_with fail
  refine (CR.out w0 hb0).mono ?_
  rintro e w1 ⟨rfl, h1, hf⟩
  go_wp2
  first | go_end0 | ((try simp only [Exit.inBlock, Exit.then]); refine bodyPost_ret (results_none rfl _ _ _) rfl ?_)
  exact ⟨rfl, lost_unit h1, (Fr.below hb0).trans hf⟩
 ·
  have hn0 : (tl s a)[0]? = some c := by simpa using hne.symm
  have hlt : a < s.size := by
   apply Nat.lt_of_not_le
   intro hle
   rw [tl_end hle] at hn0
   cases hn0
  have hE : eatG c (tl s a) = .ok () (tl s (a + 1)) := by unfold eatG; rw [if_pos hn0, tl_drop]
  rw [hE]
  have hcast : ((a + 1 : Nat) : Int) = (a : Int) + 1 := by omega
  have HH := Hd h
  clear h hbp hne hE hz hn0 z0 z1 z2 z4 f1 hl CR
  go_enter Tryz.func73, Tryz.ntmps73
  go_wp2_with fail
  refine CP.out.mono ?_
  rintro e w1 ⟨rfl, hb1⟩
  have h1 := HH.out.below hb1
  have z0 := Blk.cell h1 0; have z1 := Blk.cell h1 1; have z2 := Blk.cell h1 2; have z3 := Blk.cell h1 3; have z4 := Blk.cell h1 4
  have hl := h1.lt
  have f1 := Blk.frozen h1 1
  have hF := Hd (h1.set1 (a + 1))
  have hG := Hd ((Fr.below (Y := fun b => b = g) hb1).setc (g := g) (i := 1) (u := .int .i64 ((a + 1 : Nat) : Int)) (.inl rfl))
  rw [hcast] at hG
  unfold RdA at hF
  rw [hcast] at hF
  clear h1 hb1
  go_wp2
  first | go_end0 | ((try simp only [Exit.inBlock, Exit.then]); refine bodyPost_ret (results_none rfl _ _ _) rfl ?_)
  exact ⟨rfl, ⟨a + 1, by omega, rfl, by unfold RdA; rw [hcast]; exact hF.out⟩, hG.out⟩
theorem take_no (g mb a : Nat) (s : ByteArray) (z e0 b : Int) (w : World) (h : RdA w g s mb a e0 b) (h0 : e0 ≠ 0) :
  Calls Tryz.prog 73 #[.pointer (some ⟨g, 0, none⟩), .int .u8 z] w fun u w' => u = .returned (.tuple #[]) /\ w = w' := by
 have z0 := Blk.cell h 0; have z1 := Blk.cell h 1; have z2 := Blk.cell h 2; have z3 := Blk.cell h 3; have z4 := Blk.cell h 4
 have hl := h.lt
 have hz : (e0 != 0) = true := by simpa using h0
 clear h
 go_enter Tryz.func73, Tryz.ntmps73
 go_wp2
 first | go_end0 | ((try simp only [Exit.inBlock, Exit.then]); refine bodyPost_ret (results_none rfl _ _ _) rfl ?_)
 exact ⟨rfl, rfl⟩
theorem tw_in {p : UInt8 -> Bool} : ∀ {l : List UInt8} {j : Nat}, j < (l.takeWhile p).length -> ∃ x, l[j]? = some x /\ p x = true
 | [], j, h => by simp at h
 | c :: r, j, h => by
  rw [List.takeWhile_cons] at h
  by_cases hc : p c = true
  ·
   rw [if_pos hc] at h
   cases j with
   | zero => exact ⟨c, rfl, hc⟩
   | succ j => exact tw_in (l := r) (by simpa using h)
  · rw [if_neg hc] at h; simp at h
theorem tw_out {p : UInt8 -> Bool} : ∀ {l : List UInt8} {x : UInt8}, l[(l.takeWhile p).length]? = some x -> p x = false
 | [], x, h => by simp at h
 | c :: r, x, h => by
  rw [List.takeWhile_cons] at h
  by_cases hc : p c = true
  ·
   rw [if_pos hc] at h
   exact tw_out (l := r) (by simpa using h)
  ·
   rw [if_neg hc] at h
   simp at h
   subst h
   simpa using hc
theorem tw_le (p : UInt8 -> Bool) (l : List UInt8) : (l.takeWhile p).length <= l.length := by
 induction l with
 | nil => simp
 | cons c r ih => rw [List.takeWhile_cons]; split <;> simp; omega
theorem tl_get {s : ByteArray} {a j : Nat} (h : a + j < s.size) : (tl s a)[j]? = some (s[a + j]'h) := by
 unfold tl
 rw [List.getElem?_drop]
 exact get_list h
theorem tl_take (s : ByteArray) (a n : Nat) : s.extract a (a + n) = ofL ((tl s a).take n) := by
 apply ba_ext
 rw [ofL_list, Lib.extract_data, Nat.add_sub_cancel_left]
 rfl
def runD (c : UInt8) (l : List UInt8) : Nat := if c = 48 then 0 else (l.takeWhile digU).length
theorem numL_run {c : UInt8} {l : List UInt8} (h : digU c = true) : numL (c :: l) = 1 + runD c l := by
 rw [numL, if_pos h]
 unfold runD
 split <;> rfl
theorem numeral_any (g mb a : Nat) (s : ByteArray) (w : World) (h : RdA w g s mb a 0 0) (ha : a <= s.size) (hs : s.size <= 281474976710656) :
  Calls Tryz.prog 158 #[.pointer (some ⟨g, 0, none⟩)] w fun u w' => ∃ t, u = .returned (.tuple #[.string t, .int .i64 a]) /\ (∀ d r, numG (tl s a) = .ok d r -> t = ofL d) /\ StG w' g s mb (numG (tl s a)) /\ Fg g w w' := by
 have z0 := Blk.cell h 0; have z1 := Blk.cell h 1; have z2 := Blk.cell h 2; have z3 := Blk.cell h 3; have z4 := Blk.cell h 4
 have hl := h.lt
 by_cases hlt : a < s.size
 ·
  have hb : ((a : Int) == (s.size : Int)) = false := by rw [beq_eq_false_iff_ne]; omega
  have hT := tl_at hlt
  obtain ⟨c, hc⟩ : ∃ c, s[a]'hlt = c := ⟨_, rfl⟩
  rw [hc] at hT
  obtain ⟨y, hy⟩ : ∃ y : Nat, c.toNat = y := ⟨_, rfl⟩
  have hy0 : (s[a]'hlt).toNat = y := by rw [hc]; exact hy
  have CD := digitS_any (y : Int)
  have hdy : digU c = digV (y : Int) := by unfold digU; rw [hy]
  obtain ⟨bd, hbd0⟩ : ∃ b, digV (y : Int) = b := ⟨_, rfl⟩
  simp only [hbd0] at CD
  rw [hbd0] at hdy
  replace CD := Hd CD
  cases bd
  ·
   have hL : numG (tl s a) = lost (tl s a) := by unfold numG; rw [if_pos (by rw [hT, numL, hdy]; rfl)]
   have hy2 := Hd hy
   clear hT hdy hbd0 hy hc
   rw [hL]
   have CR := Hd (fun W (hW : Below w.heap.size w W) => refuse_any g mb a s W (h.below hW) ha hs)
   have hbd : Below w.heap.size w w.drew := brf.drew
   clear h
   go_enter Tryz.func158, Tryz.ntmps158
   go_wp2
   refine wp_region_mix (S := (fun x => x = w.drew)) [(0, .q), (1, .q), (2, .q), (3, .q), (4, .q), (5, .q), (6, .q), (7, .q), (8, .q), (9, .q), (10, .q), (11, .q), (12, .q), (13, .q), (14, .q), (15, .q), (16, .q), (17, .q), (18, .q), (19, .q), (20, .t), (21, .p), (22, .p)] (by kernel_rfl) (by kernel_rfl) (by kernel_rfl) (fun d _ _ _ _ h => by cases d <;> exact h) (rfl) ?_
   iterate 20 (refine wpMix_q rfl rfl (fun K hK => ?_); apply Exists.intro; refine ⟨fun w' hw' => ?_, ?_⟩; (focus (go_simp; try rfl)); go_simp; refine hK _ _ ?_; clear hK K)
   refine wpMix_t rfl rfl (fun K hK => ?_)
   go_simp
   refine (CD.out w.drew).mono ?_
   rintro e w' ⟨rfl, rfl⟩
   dsimp only
   refine hK.out _ _ ?_
   clear hK K
   iterate 2 (refine wpMix_p rfl rfl (fun K hK => ?_); apply Exists.intro; refine ⟨fun w' => ?_, ?_⟩; (focus (go_simp; try rfl)); go_simp; refine hK _ _ ?_; clear hK K)
   refine wpMix_nil ?_
   go_wp2_with fail
   refine (CR.out w.drew hbd).mono ?_
   rintro e w1 ⟨rfl, h1, hf⟩
   go_wp2
   go_ret2
   exact ⟨⟨#[]⟩, rfl, fun d r e => absurd e fun e => lost_ok e, lost_unit h1, (Fr.below hbd).trans hf⟩
  ·
   have hn1 : numL (tl s a) = 1 + runD c (tl s (a + 1)) := by rw [hT]; exact numL_run hdy
   obtain ⟨D, hD⟩ : ∃ D, runD c (tl s (a + 1)) = D := ⟨_, rfl⟩
   rw [hD] at hn1
   have hDl : D <= s.size - (a + 1) := by
    rw [<- hD]
    unfold runD
    split
    · omega
    · have := tw_le digU (tl s (a + 1)); rw [tl_len] at this; exact this
   have hDc : c = 48 -> D = 0 := fun e => by rw [<- hD]; unfold runD; rw [if_pos e]
   have hDi : ∀ j, j < D -> ∃ h : a + 1 + j < s.size, digV ((s[a + 1 + j]'h).toNat : Int) = true := fun j hj => by
    have h1 : a + 1 + j < s.size := by omega
    refine ⟨h1, ?_⟩
    rw [<- hD] at hj
    unfold runD at hj
    split at hj
    · omega
    ·
     obtain ⟨x, hx, hp⟩ := tw_in hj
     rw [tl_get h1] at hx
     injection hx with hx
     subst hx
     exact hp
   have hDo : c ≠ 48 -> ∀ h : a + 1 + D < s.size, digV ((s[a + 1 + D]'h).toNat : Int) = false := fun hc48 h1 => by
    have h2 : D = ((tl s (a + 1)).takeWhile digU).length := by rw [<- hD]; unfold runD; rw [if_neg hc48]
    exact tw_out (p := digU) (l := tl s (a + 1)) (x := s[a + 1 + D]'h1) (by rw [<- h2]; exact tl_get h1)
   have hc48 : (c = 48) ↔ (y : Int) = 48 := by
    constructor
    · intro e; subst e; rw [<- hy]; rfl
    · intro e; exact UInt8.toNat_inj.1 (by rw [hy]; have : (48 : UInt8).toNat = 48 := rfl; omega)
   have hcast : ((a + 1 : Nat) : Int) = (a : Int) + 1 := by omega
   have hG : numG (tl s a) = if 1000 < 1 + D then .bad (s.size - a) 4 else .ok ((tl s a).take (1 + D)) (tl s (a + (1 + D))) := by
    unfold numG
    rw [hn1, if_neg (by omega), tl_len, tl_drop]
   have hex : s.extract a (a + 1 + D) = ofL ((tl s a).take (1 + D)) := by rw [Nat.add_assoc]; exact tl_take s a (1 + D)
   have hbd : Below w.heap.size w w.drew := brf.drew
   have h2 : RdA w.drew g s mb a 0 0 := h
   have f1 := Blk.frozen h2 1
   have h3 := h2.set1 (a + 1)
   have hf3 : Fg g w (w.drew.setCell ⟨g, 1, none⟩ (.int .i64 ((a + 1 : Nat) : Int))) := (Fr.below (Y := fun b => b = g) hbd).setc (.inl rfl)
   unfold RdA at h3
   rw [hcast] at h3 hf3
   obtain ⟨GG, hGG⟩ : ∃ G, numG (tl s a) = G := ⟨_, rfl⟩
   rw [hGG] at hG ⊢
   have HGG := Hd hG
   replace hGG := Hd hGG
   have HH := Hd h3; have HF := Hd hf3; have HEX := Hd hex; have HDI := Hd hDi; have HDO := Hd hDo; have HDC := Hd hDc; have H48 := Hd hc48
   have hy2 := Hd hy
   clear h h2 h3 hf3 hT hdy hbd0 hy hc hn1 hD hDi hDo hDc hc48 hG hex
   go_enter Tryz.func158, Tryz.ntmps158
   go_wp2
   refine wp_region_mix (S := (fun x => x = w.drew)) [(0, .q), (1, .q), (2, .q), (3, .q), (4, .q), (5, .q), (6, .q), (7, .q), (8, .q), (9, .q), (10, .q), (11, .q), (12, .q), (13, .q), (14, .q), (15, .q), (16, .q), (17, .q), (18, .q), (19, .q), (20, .t), (21, .p), (22, .p)] (by kernel_rfl) (by kernel_rfl) (by kernel_rfl) (fun d _ _ _ _ h => by cases d <;> exact h) (rfl) ?_
   iterate 20 (refine wpMix_q rfl rfl (fun K hK => ?_); apply Exists.intro; refine ⟨fun w' hw' => ?_, ?_⟩; (focus (go_simp; try rfl)); go_simp; refine hK _ _ ?_; clear hK K)
   refine wpMix_t rfl rfl (fun K hK => ?_)
   go_simp
   refine (CD.out w.drew).mono ?_
   rintro e w' ⟨rfl, rfl⟩
   dsimp only
   refine hK.out _ _ ?_
   clear hK K
   iterate 2 (refine wpMix_p rfl rfl (fun K hK => ?_); apply Exists.intro; refine ⟨fun w' => ?_, ?_⟩; (focus (go_simp; try rfl)); go_simp; refine hK _ _ ?_; clear hK K)
   refine wpMix_nil ?_
   go_wp2
   refine world_gen (fun W => RdA W g s mb (a + 1) 0 0 /\ Fg g w W) ⟨by unfold RdA; rw [hcast]; exact HH.out, HF.out⟩ ?_
   rintro w0 ⟨h0, hf0⟩
   clear HH HF z0 z1 z2 z3 z4 f1 CD
   go_loopg [] D (fun m wr => ∃ j : Nat, Hid (j + m = D) /\ Hid (RdA wr g s mb (a + 1 + j) 0 0) /\ Fg g w wr)
   case atStart => exact ⟨0, by show _ = _; omega, h0, hf0⟩
   case round =>
    clear h0 hf0
    obtain ⟨j, hj, hR, hfr⟩ := hrel
    have hRo := hR.out
    have z0 := Blk.cell hRo 0; have z1 := Blk.cell hRo 1; have z2 := Blk.cell hRo 2; have z3 := Blk.cell hRo 3; have z4 := Blk.cell hRo 4
    have hl := hRo.lt
    have f1 := Blk.frozen hRo 1
    have hcj : ((a + 1 + j : Nat) : Int) = (a : Int) + 1 + j := by omega
    have hbd1 : Below wr.heap.size wr wr.drew := brf.drew
    clear hRo
    obtain ⟨p, hp⟩ : ∃ p, a + 1 + j = p := ⟨_, rfl⟩
    rw [hp] at z1 hR hcj
    have hpc : ((p + 1 : Nat) : Int) = (p : Int) + 1 := by omega
    by_cases hjD : j < D
    ·
     have h48 : ((y : Int) == 48) = false := by
      rw [beq_eq_false_iff_ne]
      intro e
      have := HDC.out (H48.out.2 e)
      omega
     have h48n : ((y : Int) != 48) = true := by rw [bne, h48]; rfl
     obtain ⟨hps, hpd⟩ := HDI.out j hjD
     simp only [hp] at hps hpd
     obtain ⟨v, hv⟩ : ∃ v : Nat, (s[p]'hps).toNat = v := ⟨_, rfl⟩
     rw [hv] at hpd
     have CD := digitS_any (v : Int)
     rw [hpd] at CD
     replace CD := Hd CD; replace hp := Hd hp; replace hpd := Hd hpd
     have hR3 := Hd ((show RdA wr.drew g s mb p 0 0 from hR.out).set1 (p + 1))
     have hF3 := Hd ((hfr.trans (Fr.below hbd1)).setc (g := g) (i := 1) (u := .int .i64 ((p + 1 : Nat) : Int)) (.inl rfl))
     unfold RdA at hR3
     rw [hpc] at hR3 hF3
     clear hR hcj hfr hbd1
     go_wp2
     refine wp_region_mix (S := (fun x => x = wr.drew)) [(0, .q), (1, .q), (2, .q), (3, .q), (4, .q), (5, .q), (6, .q), (7, .q), (8, .q), (9, .q), (10, .q), (11, .q), (12, .q), (13, .q), (14, .q), (15, .q), (16, .q), (17, .q), (18, .q), (19, .q), (20, .q), (21, .q), (22, .q), (23, .q), (24, .q), (25, .q), (26, .q), (27, .q), (28, .q), (29, .t), (30, .p)] (by kernel_rfl) (by kernel_rfl) (by kernel_rfl) (fun d _ _ _ _ h => by cases d <;> exact h) (rfl) ?_
     iterate 29 (refine wpMix_q rfl rfl (fun K hK => ?_); apply Exists.intro; refine ⟨fun w' hw' => ?_, ?_⟩; (focus (go_simp; try rfl)); go_simp; refine hK _ _ ?_; clear hK K)
     refine wpMix_t rfl rfl (fun K hK => ?_)
     go_simp
     refine (CD.out wr.drew).mono ?_
     rintro e w' ⟨rfl, rfl⟩
     dsimp only
     refine hK.out _ _ ?_
     clear hK K
     iterate 1 (refine wpMix_p rfl rfl (fun K hK => ?_); apply Exists.intro; refine ⟨fun w' => ?_, ?_⟩; (focus (go_simp; try rfl)); go_simp; refine hK _ _ ?_; clear hK K)
     refine wpMix_nil ?_
     go_wp2
     go_roundg (gk - 1)
     case rel => exact ⟨j + 1, by have := hj.out; show _ = _; omega, by unfold RdA; rw [show a + 1 + (j + 1) = p + 1 by have := hp.out; omega, hpc]; exact hR3.out, hF3.out⟩
     case measure => have := hj.out; omega
    ·
     have hjD2 : j = D := by have := hj.out; omega
     subst hjD2
     have hex2 := HEX.out
     rw [hp] at hex2
     obtain ⟨t, ht⟩ : ∃ t, ofL ((tl s a).take (1 + j)) = t := ⟨_, rfl⟩
     rw [ht] at hex2
     have htz : t.size = 1 + j := by
      rw [<- ht]
      have : ((tl s a).take (1 + j)).length = 1 + j := by rw [List.length_take, tl_len]; omega
      exact this
     have hps : p <= s.size := by omega
     have hap : a <= p := by omega
     have hR3 : RdA wr.drew.drew g s mb p 0 0 := hR.out
     have hF3 : Fg g w wr.drew.drew := hfr.trans (Fr.below hbd1.drew)
     have CF := Hd (fail_any g mb p s 4 (a : Int) wr.drew.drew hR3)
     replace hR3 := Hd hR3; replace hF3 := Hd hF3; replace ht := Hd ht
     have hp2 := Hd hp
     clear hR hcj hfr hbd1
     by_cases h48c : (y : Int) = 48
     ·
      have h48 : ((y : Int) == 48) = true := by simpa using h48c
      have h48n : ((y : Int) != 48) = false := by rw [bne, h48]; rfl
      clear hp
      replace h48c := Hd h48c
      go_wp2
      refine wp_region_mix (S := (fun x => x = wr.drew)) [(0, .q), (1, .q), (2, .q), (3, .q), (4, .q), (5, .q), (6, .q), (7, .q), (8, .q), (9, .q), (10, .q), (11, .q), (12, .q), (13, .q), (14, .q), (15, .q), (16, .q), (17, .q), (18, .q), (19, .q), (20, .q), (21, .q), (22, .q), (23, .q), (24, .q), (25, .q), (26, .q), (27, .q), (28, .q), (29, .t), (30, .p)] (by kernel_rfl) (by kernel_rfl) (by kernel_rfl) (fun d _ _ _ _ h => by cases d <;> exact h) (rfl) ?_
      iterate 8 (refine wpMix_q rfl rfl (fun K hK => ?_); apply Exists.intro; refine ⟨fun w' hw' => ?_, ?_⟩; (focus (go_simp; try rfl)); go_simp; refine hK _ _ ?_; clear hK K)
      iterate 10 (refine wpMix_skip rfl rfl (fun K hK => ?_); go_simp; refine hK _ _ ?_; clear hK K)
      iterate 2 (refine wpMix_q rfl rfl (fun K hK => ?_); apply Exists.intro; refine ⟨fun w' hw' => ?_, ?_⟩; (focus (go_simp; try rfl)); go_simp; refine hK _ _ ?_; clear hK K)
      iterate 10 (refine wpMix_skip rfl rfl (fun K hK => ?_); go_simp; refine hK _ _ ?_; clear hK K)
      iterate 1 (refine wpMix_p rfl rfl (fun K hK => ?_); apply Exists.intro; refine ⟨fun w' => ?_, ?_⟩; (focus (go_simp; try rfl)); go_simp; refine hK _ _ ?_; clear hK K)
      refine wpMix_nil ?_
      go_wp2
      refine wp_region_mix (S := (fun x => x = wr.drew.drew)) [(0, .q), (1, .q), (2, .q), (3, .q), (4, .q), (5, .q), (6, .q), (7, .q), (8, .q), (9, .p), (10, .p)] (by kernel_rfl) (by kernel_rfl) (by kernel_rfl) (fun d _ _ _ _ h => by cases d <;> exact h) (rfl) ?_
      iterate 9 (refine wpMix_q rfl rfl (fun K hK => ?_); apply Exists.intro; refine ⟨fun w' hw' => ?_, ?_⟩; (focus (go_simp; try rfl)); go_simp; refine hK _ _ ?_; clear hK K)
      iterate 2 (refine wpMix_p rfl rfl (fun K hK => ?_); apply Exists.intro; refine ⟨fun w' => ?_, ?_⟩; (focus (go_simp; try rfl)); go_simp; refine hK _ _ ?_; clear hK K)
      refine wpMix_nil ?_
      by_cases hbig : 1000 < 1 + j
      ·
       have hbig2 : (1000 : Int) < (t.size : Int) := by omega
       have hbg3 : decide (1000 < t.size) = true := by rw [decide_eq_true_eq]; omega
       replace hbig := Hd hbig
       replace htz := Hd htz
       go_wp2_with fail
       refine CF.out.mono ?_
       rintro e w1 ⟨rfl, h1, hf⟩
       go_wp2
       go_ret2
       have hGe := HGG.out
       rw [if_pos hbig.out] at hGe
       subst hGe
       exact ⟨t, rfl, fun d r e => (by cases e), ⟨p, hps, by omega, by decide, by rw [show s.size - (s.size - a) = a by omega]; exact h1⟩, hF3.out.trans hf⟩
      ·
       have hbig2 : ¬ (1000 : Int) < (t.size : Int) := by omega
       have hbg3 : decide (1000 < t.size) = false := by rw [decide_eq_false_iff_not]; omega
       replace hbig := Hd hbig
       replace htz := Hd htz
       go_wp2
       go_ret2
       have hGe := HGG.out
       rw [if_neg hbig.out] at hGe
       subst hGe
       exact ⟨t, rfl, fun d r e => (by injection e with e1 e2; rw [<- e1]; exact ht.out.symm), ⟨p, hps, by rw [show a + (1 + j) = p by have := hp2.out; omega], hR3.out⟩, hF3.out⟩
     ·
      have h48 : ((y : Int) == 48) = false := by simpa using h48c
      have h48n : ((y : Int) != 48) = true := by rw [bne, h48]; rfl
      by_cases hpz : p < s.size
      ·
       have hpd := HDO.out (fun e => h48c (H48.out.1 e)) (by rw [hp]; exact hpz)
       simp only [hp] at hpd
       obtain ⟨v, hv⟩ : ∃ v : Nat, (s[p]'hpz).toNat = v := ⟨_, rfl⟩
       rw [hv] at hpd
       have CD := digitS_any (v : Int)
       rw [hpd] at CD
       replace CD := Hd CD; replace hpd := Hd hpd
       clear hp
       replace h48c := Hd h48c
       go_wp2
       refine wp_region_mix (S := (fun x => x = wr.drew)) [(0, .q), (1, .q), (2, .q), (3, .q), (4, .q), (5, .q), (6, .q), (7, .q), (8, .q), (9, .q), (10, .q), (11, .q), (12, .q), (13, .q), (14, .q), (15, .q), (16, .q), (17, .q), (18, .q), (19, .q), (20, .q), (21, .q), (22, .q), (23, .q), (24, .q), (25, .q), (26, .q), (27, .q), (28, .q), (29, .t), (30, .p)] (by kernel_rfl) (by kernel_rfl) (by kernel_rfl) (fun d _ _ _ _ h => by cases d <;> exact h) (rfl) ?_
       iterate 29 (refine wpMix_q rfl rfl (fun K hK => ?_); apply Exists.intro; refine ⟨fun w' hw' => ?_, ?_⟩; (focus (go_simp; try rfl)); go_simp; refine hK _ _ ?_; clear hK K)
       refine wpMix_t rfl rfl (fun K hK => ?_)
       go_simp
       refine (CD.out wr.drew).mono ?_
       rintro e w' ⟨rfl, rfl⟩
       dsimp only
       refine hK.out _ _ ?_
       clear hK K
       iterate 1 (refine wpMix_p rfl rfl (fun K hK => ?_); apply Exists.intro; refine ⟨fun w' => ?_, ?_⟩; (focus (go_simp; try rfl)); go_simp; refine hK _ _ ?_; clear hK K)
       refine wpMix_nil ?_
       go_wp2
       refine wp_region_mix (S := (fun x => x = wr.drew.drew)) [(0, .q), (1, .q), (2, .q), (3, .q), (4, .q), (5, .q), (6, .q), (7, .q), (8, .q), (9, .p), (10, .p)] (by kernel_rfl) (by kernel_rfl) (by kernel_rfl) (fun d _ _ _ _ h => by cases d <;> exact h) (rfl) ?_
       iterate 9 (refine wpMix_q rfl rfl (fun K hK => ?_); apply Exists.intro; refine ⟨fun w' hw' => ?_, ?_⟩; (focus (go_simp; try rfl)); go_simp; refine hK _ _ ?_; clear hK K)
       iterate 2 (refine wpMix_p rfl rfl (fun K hK => ?_); apply Exists.intro; refine ⟨fun w' => ?_, ?_⟩; (focus (go_simp; try rfl)); go_simp; refine hK _ _ ?_; clear hK K)
       refine wpMix_nil ?_
       by_cases hbig : 1000 < 1 + j
       ·
        have hbig2 : (1000 : Int) < (t.size : Int) := by omega
        have hbg3 : decide (1000 < t.size) = true := by rw [decide_eq_true_eq]; omega
        replace hbig := Hd hbig
        replace htz := Hd htz
        go_wp2_with fail
        refine CF.out.mono ?_
        rintro e w1 ⟨rfl, h1, hf⟩
        go_wp2
        go_ret2
        have hGe := HGG.out
        rw [if_pos hbig.out] at hGe
        subst hGe
        exact ⟨t, rfl, fun d r e => (by cases e), ⟨p, hps, by omega, by decide, by rw [show s.size - (s.size - a) = a by omega]; exact h1⟩, hF3.out.trans hf⟩
       ·
        have hbig2 : ¬ (1000 : Int) < (t.size : Int) := by omega
        have hbg3 : decide (1000 < t.size) = false := by rw [decide_eq_false_iff_not]; omega
        replace hbig := Hd hbig
        replace htz := Hd htz
        go_wp2
        go_ret2
        have hGe := HGG.out
        rw [if_neg hbig.out] at hGe
        subst hGe
        exact ⟨t, rfl, fun d r e => (by injection e with e1 e2; rw [<- e1]; exact ht.out.symm), ⟨p, hps, by rw [show a + (1 + j) = p by have := hp2.out; omega], hR3.out⟩, hF3.out⟩
      ·
       clear hp
       replace h48c := Hd h48c
       go_wp2
       refine wp_region_mix (S := (fun x => x = wr.drew)) [(0, .q), (1, .q), (2, .q), (3, .q), (4, .q), (5, .q), (6, .q), (7, .q), (8, .q), (9, .q), (10, .q), (11, .q), (12, .q), (13, .q), (14, .q), (15, .q), (16, .q), (17, .q), (18, .q), (19, .q), (20, .q), (21, .q), (22, .q), (23, .q), (24, .q), (25, .q), (26, .q), (27, .q), (28, .q), (29, .t), (30, .p)] (by kernel_rfl) (by kernel_rfl) (by kernel_rfl) (fun d _ _ _ _ h => by cases d <;> exact h) (rfl) ?_
       iterate 20 (refine wpMix_q rfl rfl (fun K hK => ?_); apply Exists.intro; refine ⟨fun w' hw' => ?_, ?_⟩; (focus (go_simp; try rfl)); go_simp; refine hK _ _ ?_; clear hK K)
       iterate 10 (refine wpMix_skip rfl rfl (fun K hK => ?_); go_simp; refine hK _ _ ?_; clear hK K)
       iterate 1 (refine wpMix_p rfl rfl (fun K hK => ?_); apply Exists.intro; refine ⟨fun w' => ?_, ?_⟩; (focus (go_simp; try rfl)); go_simp; refine hK _ _ ?_; clear hK K)
       refine wpMix_nil ?_
       go_wp2
       refine wp_region_mix (S := (fun x => x = wr.drew.drew)) [(0, .q), (1, .q), (2, .q), (3, .q), (4, .q), (5, .q), (6, .q), (7, .q), (8, .q), (9, .p), (10, .p)] (by kernel_rfl) (by kernel_rfl) (by kernel_rfl) (fun d _ _ _ _ h => by cases d <;> exact h) (rfl) ?_
       iterate 9 (refine wpMix_q rfl rfl (fun K hK => ?_); apply Exists.intro; refine ⟨fun w' hw' => ?_, ?_⟩; (focus (go_simp; try rfl)); go_simp; refine hK _ _ ?_; clear hK K)
       iterate 2 (refine wpMix_p rfl rfl (fun K hK => ?_); apply Exists.intro; refine ⟨fun w' => ?_, ?_⟩; (focus (go_simp; try rfl)); go_simp; refine hK _ _ ?_; clear hK K)
       refine wpMix_nil ?_
       by_cases hbig : 1000 < 1 + j
       ·
        have hbig2 : (1000 : Int) < (t.size : Int) := by omega
        have hbg3 : decide (1000 < t.size) = true := by rw [decide_eq_true_eq]; omega
        replace hbig := Hd hbig
        replace htz := Hd htz
        go_wp2_with fail
        refine CF.out.mono ?_
        rintro e w1 ⟨rfl, h1, hf⟩
        go_wp2
        go_ret2
        have hGe := HGG.out
        rw [if_pos hbig.out] at hGe
        subst hGe
        exact ⟨t, rfl, fun d r e => (by cases e), ⟨p, hps, by omega, by decide, by rw [show s.size - (s.size - a) = a by omega]; exact h1⟩, hF3.out.trans hf⟩
       ·
        have hbig2 : ¬ (1000 : Int) < (t.size : Int) := by omega
        have hbg3 : decide (1000 < t.size) = false := by rw [decide_eq_false_iff_not]; omega
        replace hbig := Hd hbig
        replace htz := Hd htz
        go_wp2
        go_ret2
        have hGe := HGG.out
        rw [if_neg hbig.out] at hGe
        subst hGe
        exact ⟨t, rfl, fun d r e => (by injection e with e1 e2; rw [<- e1]; exact ht.out.symm), ⟨p, hps, by rw [show a + (1 + j) = p by have := hp2.out; omega], hR3.out⟩, hF3.out⟩
 ·
  have hae : a = s.size := by omega
  have hb : ((a : Int) == (s.size : Int)) = true := by rw [beq_iff_eq]; omega
  have hL : numG (tl s a) = lost (tl s a) := by unfold numG; rw [if_pos (by rw [tl_end (by omega)]; rfl)]
  replace hae := Hd hae
  rw [hL]
  have CR := Hd (fun W (hW : Below w.heap.size w W) => refuse_any g mb a s W (h.below hW) ha hs)
  have hbd : Below w.heap.size w w.drew := brf.drew
  clear h
  go_enter Tryz.func158, Tryz.ntmps158
  go_wp2
  refine wp_region_mix (S := (fun x => x = w.drew)) [(0, .q), (1, .q), (2, .q), (3, .q), (4, .q), (5, .q), (6, .q), (7, .q), (8, .q), (9, .q), (10, .q), (11, .q), (12, .q), (13, .q), (14, .q), (15, .q), (16, .q), (17, .q), (18, .q), (19, .q), (20, .t), (21, .p), (22, .p)] (by kernel_rfl) (by kernel_rfl) (by kernel_rfl) (fun d _ _ _ _ h => by cases d <;> exact h) (rfl) ?_
  iterate 11 (refine wpMix_q rfl rfl (fun K hK => ?_); apply Exists.intro; refine ⟨fun w' hw' => ?_, ?_⟩; (focus (go_simp; try rfl)); go_simp; refine hK _ _ ?_; clear hK K)
  iterate 11 (refine wpMix_skip rfl rfl (fun K hK => ?_); go_simp; refine hK _ _ ?_; clear hK K)
  iterate 1 (refine wpMix_p rfl rfl (fun K hK => ?_); apply Exists.intro; refine ⟨fun w' => ?_, ?_⟩; (focus (go_simp; try rfl)); go_simp; refine hK _ _ ?_; clear hK K)
  refine wpMix_nil ?_
  go_wp2_with fail
  refine (CR.out w.drew hbd).mono ?_
  rintro e w1 ⟨rfl, h1, hf⟩
  go_wp2
  go_ret2
  exact ⟨⟨#[]⟩, rfl, fun d r e => absurd e fun e => lost_ok e, lost_unit h1, (Fr.below hbd).trans hf⟩
end Go.Proofs.YtkjnkpkagcboeaaGreatDoor
