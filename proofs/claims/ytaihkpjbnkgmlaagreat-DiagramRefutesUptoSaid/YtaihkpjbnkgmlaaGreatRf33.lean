/- A statement whose order is open, of calls that each make some numbers, and of as many cells that take them, in whatever order they come (lanes). No function of the program in sight. -/
import Derived.Test.YtaihkpjbnkgmlaaGreatRf13
import Derived.Test.YtaihkpjbnkgmlaaGreatRf17
import Derived.Test.YtaihkpjbnkgmlaaGreatRf22

/- A statement whose order is open, of calls that each make some numbers, and of as many cells that take them, in whatever order they come (lanes). No function of the program in sight. -/
namespace Go.Proofs.YtaihkpjbnkgmlaaGreat
open Go.RowKit

/-- the cells of numbers -/
def cellsQ : List QA → List Value
 | [] => []
 | x :: l => .bool x.neg :: .slice x.a x.n x.c :: .slice x.b x.m x.d :: cellsQ l
def zerosQ : Nat → List Value
 | 0 => []
 | n + 1 => .bool false :: .slice none 0 0 :: .slice none 0 0 :: zerosQ n
theorem cellsQ_len (l : List QA) : (cellsQ l).length = (zerosQ l.length).length := by
 induction l with
 | nil => rfl
 | cons x l ih => simp [cellsQ, zerosQ, ih]
/-- cells written one behind the other -/
def putAll (g : Nat) : Nat → List Value → World → World
 | _, [], w => w
 | i, v :: l, w => putAll g (i + 1) l (w.setCell ⟨g, i, none⟩ v)
theorem putAll_below {B g : Nat} (hg : B ≤ g) : ∀ (l : List Value) (i : Nat) (w0 w : World), Below B w0 w → Below B w0 (putAll g i l w)
 | [], _, _, _, h => h
 | v :: l, i, w0, w, h => putAll_below hg l (i + 1) w0 _ (h.setCell hg _)
theorem putAll_kp {R : World → Prop} {B T g : Nat} (hg : g < B ∨ T ≤ g) : ∀ (l : List Value) (i : Nat) (w : World), Kp R B T w → Kp R B T (putAll g i l w)
 | [], _, _, h => h
 | v :: l, i, w, h => putAll_kp hg l (i + 1) _ (h.setc hg)
theorem putAll_far {g g' : Nat} {t : TypeId} {cs : Array Value} (hg : g' ≠ g) : ∀ (l : List Value) (i : Nat) (w : World), Blk w g' t cs → Blk (putAll g i l w) g' t cs
 | [], _, _, h => h
 | v :: l, i, w, h => putAll_far hg l (i + 1) _ (Blk.farAt hg h)
theorem putAll_size (g : Nat) : ∀ (l : List Value) (i : Nat) (w : World), (putAll g i l w).heap.size = w.heap.size
 | [], _, _ => rfl
 | v :: l, i, w => by rw [putAll, putAll_size g l]; simp
theorem putAll_blk {g : Nat} {t : TypeId} : ∀ (l pre post : List Value) (w : World), post.length = l.length → Blk w g t (pre ++ post).toArray → Blk (putAll g pre.length l w) g t (pre ++ l).toArray
 | [], pre, post, w, hl, h => by
  obtain rfl := List.length_eq_zero_iff.1 hl
  exact h
 | v :: l, pre, post, w, hl, h => by
  cases post with
  | nil => simp at hl
  | cons u post =>
   have h1 : Blk (w.setCell ⟨g, pre.length, none⟩ v) g t ((pre ++ [v]) ++ post).toArray := by
    have := h.set_ pre.length v
    rwa [List.setIfInBounds_toArray, List.set_append_right _ _ (Nat.le_refl _), Nat.sub_self, List.set_cons_zero, show pre ++ v :: post = (pre ++ [v]) ++ post by simp] at this
   have := putAll_blk l (pre ++ [v]) post _ (by simpa using hl) h1
   rw [putAll]
   simpa using this
structure LaneR where
 t : TypeId
 n : Nat
 R : List QA → World → Prop
def upd (f : Nat → Value) (k : Nat) (x : Value) : Nat → Value := fun i => if i = k then x else f i
/-- what has come up: c the calls, a the cells, s the stores; v the values, p the pointers -/
def LaneJ (w0 : World) (n : Nat) (Rs : Nat → LaneR) (c a s : Nat → Bool) (v p : Nat → Value) (w : World) : Prop :=
 Below w0.heap.size w0 w ∧ ∃ (z : Nat → List QA) (B T g : Nat → Nat),
  (∀ i, i < n → s i = true → c i = true ∧ a i = true) ∧
  (∀ i, i < n → c i = true → v i = .agg (cellsQ (z i)).toArray ∧ (z i).length = (Rs i).n ∧ w0.heap.size ≤ B i ∧ T i ≤ w.heap.size ∧ Kp ((Rs i).R (z i)) (B i) (T i) w) ∧
  (∀ i, i < n → a i = true → p i = .pointer (some ⟨g i, 0, none⟩) ∧ w0.heap.size ≤ g i ∧ Blk w (g i) (Rs i).t (if s i = true then cellsQ (z i) else zerosQ (Rs i).n).toArray) ∧
  (∀ i j, i < n → j < n → c i = true → a j = true → g j < B i ∨ T i ≤ g j) ∧
  (∀ i j, i < n → j < n → i ≠ j → a i = true → a j = true → g i ≠ g j)
section
variable {w0 w w' : World} {n : Nat} {Rs : Nat → LaneR} {c a s c' a' s' : Nat → Bool} {v p : Nat → Value}
theorem LaneJ.start (h1 : ∀ i, i < n → c i = false) (h2 : ∀ i, i < n → a i = false) (h3 : ∀ i, i < n → s i = false) : LaneJ w0 n Rs c a s v p w0 :=
 ⟨Below.refl _ _, fun _ => [], fun _ => 0, fun _ => 0, fun _ => 0, fun i hi e => (by rw [h3 i hi] at e; cases e), fun i hi e => (by rw [h1 i hi] at e; cases e), fun i hi e => (by rw [h2 i hi] at e; cases e),
  fun i j hi _ e => (by rw [h1 i hi] at e; cases e), fun i j hi _ _ e => (by rw [h2 i hi] at e; cases e)⟩
theorem LaneJ.call (h : LaneJ w0 n Rs c a s v p w) {k : Nat} (hk : k < n) (h0 : c k = false) (hc : ∀ j, j < n → c' j = if j = k then true else c j) (ha : ∀ j, j < n → a' j = a j) (hs : ∀ j, j < n → s' j = s j)
  (hb : Below w.heap.size w w') {zz : List QA} (hz : zz.length = (Rs k).n) (hK : Kp ((Rs k).R zz) w.heap.size w'.heap.size w') : LaneJ w0 n Rs c' a' s' (upd v k (.agg (cellsQ zz).toArray)) p w' := by
 obtain ⟨b0, z, B, T, g, q1, q2, q3, q4, q5⟩ := h
 have hsk : s k = false := by
  cases e : s k
  · rfl
  · have := (q1 k hk e).1; rw [h0] at this; cases this
 refine ⟨below_then b0 hb, fun i => if i = k then zz else z i, fun i => if i = k then w.heap.size else B i, fun i => if i = k then w'.heap.size else T i, g, fun i hi e => ?_, fun i hi e => ?_, fun i hi e => ?_, fun i j hi hj e e' => ?_, fun i j hi hj hne e e' => ?_⟩
 ·
  rw [hs i hi] at e
  obtain ⟨e1, e2⟩ := q1 i hi e
  rw [hc i hi, ha i hi]
  refine ⟨?_, e2⟩
  by_cases h : i = k
  · simp [h]
  · simpa [h] using e1
 ·
  by_cases h : i = k
  ·
   subst h
   simp only [if_true, upd]
   exact ⟨trivial, hz, b0.size, Nat.le_refl _, hK⟩
  ·
   rw [hc i hi] at e
   simp only [h, if_false, upd] at e ⊢
   obtain ⟨e1, e2, e3, e4, e5⟩ := q2 i hi e
   exact ⟨e1, e2, e3, Nat.le_trans e4 hb.size, e5.call hb⟩
 ·
  rw [ha i hi] at e
  obtain ⟨e1, e2, e3⟩ := q3 i hi e
  refine ⟨e1, e2, ?_⟩
  rw [hs i hi]
  by_cases h : i = k
  ·
   subst h
   simp only [hsk, if_true] at e3 ⊢
   exact e3.below' hb
  ·
   simp only [h, if_false]
   exact e3.below' hb
 ·
  rw [ha j hj] at e'
  by_cases h : i = k
  ·
   simp only [h, if_true]
   exact .inl (q3 j hj e').2.2.lt
  ·
   rw [hc i hi] at e
   simp only [h, if_false] at e ⊢
   exact q4 i j hi hj e e'
 ·
  rw [ha i hi] at e; rw [ha j hj] at e'
  exact q5 i j hi hj hne e e'
theorem LaneJ.new (h : LaneJ w0 n Rs c a s v p w) {k : Nat} (hk : k < n) (h0 : a k = false) (hc : ∀ j, j < n → c' j = c j) (ha : ∀ j, j < n → a' j = if j = k then true else a j) (hs : ∀ j, j < n → s' j = s j) :
  LaneJ w0 n Rs c' a' s' v (upd p k (.pointer (some ⟨w.heap.size, 0, none⟩))) (w.alloc (.cells (zerosQ (Rs k).n).toArray (Rs k).t)) := by
 obtain ⟨b0, z, B, T, g, q1, q2, q3, q4, q5⟩ := h
 have hsk : s k = false := by
  cases e : s k
  · rfl
  · have := (q1 k hk e).2; rw [h0] at this; cases this
 refine ⟨b0.alloc b0.size _, z, B, T, fun i => if i = k then w.heap.size else g i, fun i hi e => ?_, fun i hi e => ?_, fun i hi e => ?_, fun i j hi hj e e' => ?_, fun i j hi hj hne e e' => ?_⟩
 ·
  rw [hs i hi] at e
  obtain ⟨e1, e2⟩ := q1 i hi e
  rw [hc i hi, ha i hi]
  refine ⟨e1, ?_⟩
  by_cases h : i = k
  · simp [h]
  · simpa [h] using e2
 ·
  rw [hc i hi] at e
  obtain ⟨e1, e2, e3, e4, e5⟩ := q2 i hi e
  exact ⟨e1, e2, e3, by simp; omega, e5.alloc⟩
 ·
  rw [hs i hi]
  by_cases h : i = k
  ·
   subst h
   simp only [if_true, upd, hsk]
   exact ⟨trivial, b0.size, Blk.new w _ _⟩
  ·
   rw [ha i hi] at e
   simp only [h, if_false, upd] at e ⊢
   obtain ⟨e1, e2, e3⟩ := q3 i hi e
   exact ⟨e1, e2, e3.alloc _⟩
 ·
  rw [hc i hi] at e
  by_cases h : j = k
  ·
   simp only [h, if_true]
   exact .inr (q2 i hi e).2.2.2.1
  ·
   rw [ha j hj] at e'
   simp only [h, if_false] at e' ⊢
   exact q4 i j hi hj e e'
 ·
  rw [ha i hi] at e; rw [ha j hj] at e'
  by_cases h1 : i = k
  ·
   have h2 : j ≠ k := fun h2 => hne (h1.trans h2.symm)
   simp only [h1, h2, if_true, if_false] at e' ⊢
   have := (q3 j hj e').2.2.lt
   omega
  ·
   by_cases h2 : j = k
   ·
    simp only [h1, h2, if_true, if_false] at e ⊢
    have := (q3 i hi e).2.2.lt
    omega
   ·
    simp only [h1, h2, if_false] at e e' ⊢
    exact q5 i j hi hj hne e e'
theorem LaneJ.store (h : LaneJ w0 n Rs c a s v p w) {k : Nat} (hk : k < n) (h1 : c k = true) (h2 : a k = true) (h3 : s k = false) (hc : ∀ j, j < n → c' j = c j) (ha : ∀ j, j < n → a' j = a j) (hs : ∀ j, j < n → s' j = if j = k then true else s j) :
  ∃ (z : List QA) (g : Nat), z.length = (Rs k).n ∧ v k = .agg (cellsQ z).toArray ∧ p k = .pointer (some ⟨g, 0, none⟩) ∧ Blk w g (Rs k).t (zerosQ (Rs k).n).toArray ∧ LaneJ w0 n Rs c' a' s' v p (putAll g 0 (cellsQ z) w) := by
 obtain ⟨b0, z, B, T, g, q1, q2, q3, q4, q5⟩ := h
 obtain ⟨x1, x2, x3, x4, x5⟩ := q2 k hk h1
 obtain ⟨y1, y2, y3⟩ := q3 k hk h2
 simp only [h3] at y3
 refine ⟨z k, g k, x2, x1, y1, by simpa using y3, putAll_below y2 _ _ _ _ b0, z, B, T, g, fun i hi e => ?_, fun i hi e => ?_, fun i hi e => ?_, fun i j hi hj e e' => ?_, fun i j hi hj hne e e' => ?_⟩
 ·
  rw [hc i hi, ha i hi]
  by_cases h : i = k
  · subst h; exact ⟨h1, h2⟩
  ·
   rw [hs i hi, if_neg h] at e
   exact q1 i hi e
 ·
  rw [hc i hi] at e
  obtain ⟨e1, e2, e3, e4, e5⟩ := q2 i hi e
  exact ⟨e1, e2, e3, by rw [putAll_size]; exact e4, putAll_kp (q4 i k hi hk e h2) _ _ _ e5⟩
 ·
  rw [ha i hi] at e
  obtain ⟨e1, e2, e3⟩ := q3 i hi e
  refine ⟨e1, e2, ?_⟩
  rw [hs i hi]
  by_cases h : i = k
  ·
   subst h
   simp only [if_true]
   exact putAll_blk (cellsQ (z i)) [] (zerosQ (Rs i).n) w (by rw [cellsQ_len, x2]) (by simpa using y3)
  ·
   simp only [h, if_false]
   exact putAll_far (q5 i k hi hk h e h2) _ _ _ e3
 ·
  rw [hc i hi] at e; rw [ha j hj] at e'
  exact q4 i j hi hj e e'
 ·
  rw [ha i hi] at e; rw [ha j hj] at e'
  exact q5 i j hi hj hne e e'
theorem LaneJ.congr (h : LaneJ w0 n Rs c a s v p w) (hc : ∀ j, j < n → c' j = c j) (ha : ∀ j, j < n → a' j = a j) (hs : ∀ j, j < n → s' j = s j) : LaneJ w0 n Rs c' a' s' v p w := by
 obtain ⟨b0, z, B, T, g, q1, q2, q3, q4, q5⟩ := h
 refine ⟨b0, z, B, T, g, fun i hi e => ?_, fun i hi e => q2 i hi ((hc i hi).symm.trans e), fun i hi e => ?_, fun i j hi hj e e' => q4 i j hi hj ((hc i hi).symm.trans e) ((ha j hj).symm.trans e'), fun i j hi hj hne e e' => q5 i j hi hj hne ((ha i hi).symm.trans e) ((ha j hj).symm.trans e')⟩
 · rw [hc i hi, ha i hi]; exact q1 i hi ((hs i hi).symm.trans e)
 · rw [hs i hi]; exact q3 i hi ((ha i hi).symm.trans e)
theorem LaneJ.all (h : LaneJ w0 n Rs (fun _ => true) (fun _ => true) (fun _ => true) v p w) : Below w0.heap.size w0 w ∧ ∃ (z : Nat → List QA) (g : Nat → Nat), ∀ i, i < n →
  v i = .agg (cellsQ (z i)).toArray ∧ p i = .pointer (some ⟨g i, 0, none⟩) ∧ (z i).length = (Rs i).n ∧ w0.heap.size ≤ g i ∧ Blk w (g i) (Rs i).t (cellsQ (z i)).toArray ∧ Kp ((Rs i).R (z i)) w0.heap.size w.heap.size w := by
 obtain ⟨b0, z, B, T, g, q1, q2, q3, q4, q5⟩ := h
 refine ⟨b0, z, g, fun i hi => ?_⟩
 obtain ⟨x1, x2, x3, x4, x5⟩ := q2 i hi rfl
 obtain ⟨y1, y2, y3⟩ := q3 i hi rfl
 exact ⟨x1, y1, x2, y2, by simpa using y3, fun V hV => x5 V fun p v h1 h2 h3 => hV p v (Nat.le_trans x3 h1) (Nat.lt_of_lt_of_le h2 x4) h3⟩
end
section
variable {P : Program} {ops : Array Oper} {Q : Exit → Act → World → Prop} {S : World → Prop}
def LaneI (w0 : World) (F : (Nat → Value) → (Nat → Value) → Act) (l C A T : List Nat) (Rs : Nat → LaneR) (N : Nat) (listed : Array Bool) (a : Act) (W : World) : Prop :=
 listed.size = N ∧ (∀ i, i ∈ l → listed.getD i false = true) ∧ ∃ v p, a = F v p ∧ LaneJ w0 C.length Rs (fun k => listed.getD (C.getD k 0) false) (fun k => listed.getD (A.getD k 0) false) (fun k => listed.getD (T.getD k 0) false) v p W
/-- each operation comes behind those that it waits for -/
def topoOk (ops : Array Oper) : List Nat → List Nat → Bool
 | _, [] => true
 | seen, i :: r => (match ops[i]? with
  | none => false
  | some o => o.after.toList.all (fun e => !Region.binds .any e || seen.contains e.on)) && topoOk ops (i :: seen) r
theorem all_listed {listed : Array Bool} (hr : Region.ready .any ops listed = []) (hsz : listed.size = ops.size) : ∀ (L seen : List Nat), topoOk ops seen L = true → (∀ i, i ∈ seen → listed.getD i false = true) → ∀ i, i ∈ L → listed.getD i false = true
 | [], _, _, _, i, hi => by cases hi
 | k :: r, seen, h, hs, i, hi => by
  simp only [topoOk, Bool.and_eq_true] at h
  obtain ⟨h1, h2⟩ := h
  have hk : listed.getD k false = true := by
   cases ho : ops[k]? with
   | none => rw [ho] at h1; cases h1
   | some o =>
    rw [ho] at h1
    simp only [List.all_eq_true, Bool.or_eq_true, Bool.not_eq_true', List.contains_eq_mem, decide_eq_true_eq] at h1
    cases e : listed.getD k false
    ·
     exfalso
     have hlt : k < listed.size := by rw [hsz]; exact (Array.getElem?_eq_some_iff.1 ho).1
     refine List.eq_nil_iff_forall_not_mem.1 hr k (mem_ready.2 ⟨getD_ft hlt e, o, ho, fun x hx hb => ?_⟩)
     rcases h1 x (by simpa using hx) with h | h
     · rw [hb] at h; cases h
     · exact hs _ h
    · rfl
  rcases List.mem_cons.1 hi with rfl | hi
  · exact hk
  ·
   exact all_listed hr hsz r (k :: seen) h2 (fun j hj => by
    rcases List.mem_cons.1 hj with rfl | hj
    · exact hk
    · exact hs j hj) i hi
/-- the lists of operations fit -/
def lanesOk (ops : Array Oper) (l C A T : List Nat) : Bool :=
 ((A.length == C.length) && ((T.length == C.length) && ((List.range ops.size).all (fun i => l.contains i || (C.contains i || (A.contains i || T.contains i)))))) &&
 ((List.range C.length).all (fun k => (List.range C.length).all (fun j => (j == k || ((C.getD j 0 != C.getD k 0) && ((A.getD j 0 != A.getD k 0) && (T.getD j 0 != T.getD k 0)))) && ((C.getD j 0 != A.getD k 0) && ((C.getD j 0 != T.getD k 0) && (A.getD j 0 != T.getD k 0))))) &&
  ((List.range C.length).all (fun k => (decide (C.getD k 0 < ops.size) && (decide (A.getD k 0 < ops.size) && decide (T.getD k 0 < ops.size))) && (match ops[T.getD k 0]? with
   | none => false
   | some o => (o.after.any (fun e => (e.on == C.getD k 0) && Region.binds .any e)) && (o.after.any (fun e => (e.on == A.getD k 0) && Region.binds .any e))))))
theorem flag_set {listed : Array Bool} {X : List Nat} {n k i : Nat} (hi : X.getD k 0 = i) (hlt : i < listed.size) (hd : ∀ j, j < n → j ≠ k → X.getD j 0 ≠ X.getD k 0) (j : Nat) (hj : j < n) :
  (listed.setIfInBounds i true).getD (X.getD j 0) false = if j = k then true else listed.getD (X.getD j 0) false := by
 by_cases h : j = k
 · subst h; rw [hi, if_pos rfl]; exact getD_set_eq hlt
 ·
  rw [if_neg h]
  exact getD_set_ne (fun e => hd j hj h (e.symm.trans hi.symm))
theorem flag_keep {listed : Array Bool} {X : List Nat} {n i : Nat} (hd : ∀ j, j < n → X.getD j 0 ≠ i) (j : Nat) (hj : j < n) :
  (listed.setIfInBounds i true).getD (X.getD j 0) false = listed.getD (X.getD j 0) false := getD_set_ne (fun e => hd j hj e.symm)
/-- nothing but what reads has come up -/
def startOk (l C A T : List Nat) (N : Nat) (listed : Array Bool) : Bool := (listed.size == N) && (l.all (fun i => listed.getD i false) && ((List.range C.length).all (fun k => !listed.getD (C.getD k 0) false && (!listed.getD (A.getD k 0) false && !listed.getD (T.getD k 0) false))))
theorem LaneI.start {w0 : World} {F : (Nat → Value) → (Nat → Value) → Act} {l C A T : List Nat} {Rs : Nat → LaneR} {N : Nat} {listed : Array Bool} {a : Act} (v p : Nat → Value) (h : startOk l C A T N listed = true) (ha : a = F v p) : LaneI w0 F l C A T Rs N listed a w0 := by
 unfold startOk at h
 simp only [Bool.and_eq_true, beq_iff_eq, List.all_eq_true, List.mem_range, Bool.not_eq_true'] at h
 obtain ⟨h1, h2, h3⟩ := h
 exact ⟨h1, h2, v, p, ha, LaneJ.start (fun i hi => (h3 i hi).1) (fun i hi => (h3 i hi).2.1) (fun i hi => (h3 i hi).2.2)⟩
/-- THE REGION OF LANES -/
theorem wp_region_lanes {id : Nat} {a : Act} {w : World} (l C A T : List Nat) (Rs : Nat → LaneR) (F : (Nat → Value) → (Nat → Value) → Act) (hm : P.follows .mixedOrders = true) (hs : Region.noSelect ops = true)
  (hB : (preB .any ops T l (Array.replicate ops.size false) && decide (l.length ≤ ops.size)) = true) (hd : decide (due (restOf l (Array.replicate ops.size false)) ≤ ops.size - l.length) = true)
  (hQ : ∀ d v c a w, Q (.panic c) (a.put d v) w → Q (.panic c) a w) (hS : ∀ W, Below w.drew.heap.size w.drew W → S W) (hok : lanesOk ops l C A T = true) (htop : topoOk ops [] (l ++ (C ++ (A ++ T))) = true)
  (hC : ∀ k, k < C.length → ∀ v p W, S W → wpOp P ops Q (C.getD k 0) (fun a' W' => ∃ zz, a' = F (upd v k (.agg (cellsQ zz).toArray)) p ∧ zz.length = (Rs k).n ∧ Kp ((Rs k).R zz) W.heap.size W'.heap.size W' ∧ Below W.heap.size W W') (F v p) W)
  (hA : ∀ k, k < C.length → ∀ v p W, wpOp P ops Q (A.getD k 0) (fun a' W' => a' = F v (upd p k (.pointer (some ⟨W.heap.size, 0, none⟩))) ∧ W' = W.alloc (.cells (zerosQ (Rs k).n).toArray (Rs k).t)) (F v p) W)
  (hT : ∀ k, k < C.length → ∀ v p W zz g, zz.length = (Rs k).n → v k = .agg (cellsQ zz).toArray → p k = .pointer (some ⟨g, 0, none⟩) → Blk W g (Rs k).t (zerosQ (Rs k).n).toArray → wpOp P ops Q (T.getD k 0) (fun a' W' => a' = F v p ∧ W' = putAll g 0 (cellsQ zz) W) (F v p) W)
  (hend : ∀ v p W, LaneJ w.drew C.length Rs (fun _ => true) (fun _ => true) (fun _ => true) v p W → Q .normal (F v p) W)
  (h : wpPre P ops S (LaneI w.drew F l C A T Rs ops.size (restOf l (Array.replicate ops.size false))) l a w.drew) : (Code.region id ops true).wp P Q a w := by
 unfold lanesOk at hok
 simp only [Bool.and_eq_true, List.all_eq_true, List.mem_range, beq_iff_eq, Bool.or_eq_true, List.contains_eq_mem, decide_eq_true_eq, bne_iff_ne, ne_eq] at hok
 obtain ⟨⟨hlA, hlT, hcov⟩, hdis, hdep⟩ := hok
 have dC : ∀ k, k < C.length → ∀ j, j < C.length → j ≠ k → C.getD j 0 ≠ C.getD k 0 := fun k hk j hj hne => by
  rcases (hdis k hk j hj).1 with h | h
  · exact absurd h hne
  · exact h.1
 have dA : ∀ k, k < C.length → ∀ j, j < C.length → j ≠ k → A.getD j 0 ≠ A.getD k 0 := fun k hk j hj hne => by
  rcases (hdis k hk j hj).1 with h | h
  · exact absurd h hne
  · exact h.2.1
 have dT : ∀ k, k < C.length → ∀ j, j < C.length → j ≠ k → T.getD j 0 ≠ T.getD k 0 := fun k hk j hj hne => by
  rcases (hdis k hk j hj).1 with h | h
  · exact absurd h hne
  · exact h.2.2
 have dCA : ∀ k, k < C.length → ∀ j, j < C.length → C.getD j 0 ≠ A.getD k 0 := fun k hk j hj => (hdis k hk j hj).2.1
 have dCT : ∀ k, k < C.length → ∀ j, j < C.length → C.getD j 0 ≠ T.getD k 0 := fun k hk j hj => (hdis k hk j hj).2.2.1
 have dAT : ∀ k, k < C.length → ∀ j, j < C.length → A.getD j 0 ≠ T.getD k 0 := fun k hk j hj => (hdis k hk j hj).2.2.2
 refine wp_region_rest (S := S) l T (LaneI w.drew F l C A T Rs ops.size) hm hs hB hd hQ (hS _ (Below.refl _ _)) ?_ ?_ h
 ·
  rintro listed a W i o ⟨hsz, hl, v, p, rfl, hJ⟩ ho hi0 hafter
  have hi := getD_tf hi0
  have hlt : i < ops.size := (Array.getElem?_eq_some_iff.1 ho).1
  have hlt' : i < listed.size := by omega
  have hl' : ∀ j, j ∈ l → (listed.setIfInBounds i true).getD j false = true := fun j hj => by
   by_cases e : i = j
   · subst e; exact getD_set_eq hlt'
   · rw [getD_set_ne e]; exact hl j hj
  have sW : S W := hS W hJ.1
  have idx : ∀ X : List Nat, i ∈ X → ∃ k, k < X.length ∧ X.getD k 0 = i := fun X hX => by
   obtain ⟨k, hk, e⟩ := List.getElem_of_mem hX
   exact ⟨k, hk, by simp [hk, e]⟩
  rcases hcov i hlt with hh | hh | hh | hh
  · have := hl i hh; rw [hi] at this; cases this
  ·
   obtain ⟨k, hk, e⟩ := idx C hh
   have := hC k hk v p W sW
   rw [e] at this
   refine wpOp_mono (fun a' W' hW => ?_) this
   obtain ⟨zz, rfl, hz, hK, hb⟩ := hW
   refine ⟨fun _ => hS _ (below_then hJ.1 hb), by simpa using hsz, hl', _, _, rfl, hJ.call hk (by rw [e]; exact hi) (flag_set e hlt' (dC k hk)) (flag_keep fun j hj => ?_) (flag_keep fun j hj => ?_) hb hz hK⟩
   · rw [← e]; exact (dCA j hj k hk).symm
   · rw [← e]; exact (dCT j hj k hk).symm
  ·
   obtain ⟨k, hk, e⟩ := idx A hh
   rw [hlA] at hk
   have := hA k hk v p W
   rw [e] at this
   refine wpOp_mono (fun a' W' hW => ?_) this
   obtain ⟨rfl, rfl⟩ := hW
   refine ⟨fun _ => hS _ (hJ.1.alloc hJ.1.size _), by simpa using hsz, hl', _, _, rfl, hJ.new hk (by rw [e]; exact hi) (flag_keep fun j hj => ?_) (flag_set e hlt' (dA k hk)) (flag_keep fun j hj => ?_)⟩
   · rw [← e]; exact dCA k hk j hj
   · rw [← e]; exact (dAT j hj k hk).symm
  ·
   obtain ⟨k, hk, e⟩ := idx T hh
   rw [hlT] at hk
   obtain ⟨_, hdk⟩ := hdep k hk
   rw [e, ho] at hdk
   simp only [Bool.and_eq_true, List.any_eq_true, Array.any_eq_true', beq_iff_eq] at hdk
   obtain ⟨⟨e1, m1, n1, b1⟩, e2, m2, n2, b2⟩ := hdk
   have f1 := hafter e1 (by simpa using m1) b1
   have f2 := hafter e2 (by simpa using m2) b2
   rw [n1] at f1; rw [n2] at f2
   obtain ⟨zz, g, q1, q2, q3, q4, q5⟩ := hJ.store (c' := fun j => (listed.setIfInBounds i true).getD (C.getD j 0) false) (a' := fun j => (listed.setIfInBounds i true).getD (A.getD j 0) false) (s' := fun j => (listed.setIfInBounds i true).getD (T.getD j 0) false) hk f1 f2 (by rw [e]; exact hi) (flag_keep fun j hj => by rw [← e]; exact dCT k hk j hj) (flag_keep fun j hj => by rw [← e]; exact dAT k hk j hj) (flag_set e hlt' (dT k hk))
   have := hT k hk v p W zz g q1 q2 q3 q4
   rw [e] at this
   refine wpOp_mono (fun a' W' hW => ?_) this
   obtain ⟨rfl, rfl⟩ := hW
   refine ⟨fun hT' => ?_, by simpa using hsz, hl', _, _, rfl, q5⟩
   rw [hasT, List.contains_eq_mem, decide_eq_false_iff_not] at hT'
   exact absurd hh hT'
 ·
  rintro listed a W ⟨hsz, hl, v, p, rfl, hJ⟩ hr
  have key := all_listed hr hsz _ _ htop (fun i hi => by cases hi)
  refine hend v p W (hJ.congr (fun j hj => ?_) (fun j hj => ?_) (fun j hj => ?_))
  · exact (key _ (List.mem_append_right _ (List.mem_append_left _ (by simp [hj])))).symm
  · exact (key _ (List.mem_append_right _ (List.mem_append_right _ (List.mem_append_left _ (by simp [hlA, hj]))))).symm
  · exact (key _ (List.mem_append_right _ (List.mem_append_right _ (List.mem_append_right _ (by simp [hlT, hj]))))).symm
end
end Go.Proofs.YtaihkpjbnkgmlaaGreat
