/- Walks: places in lists of integers, by the program. -/
import Derived.Test.YtgbnadckhjfebaaRRLs4
import Derived.Test.YtgbnadckhjfebaaRRLs2
import Derived.Test.YtgbnadckhjfebaaRRLs1
import Derived.Test.YtgbnadckhjfebaaRRRows
import Derived.Deep.LoopGhost

/- What a name is. No function of the program in sight. -/
namespace Go.Proofs.YtgbnadckhjfebaaRR
open Go.RowKit

def letB (c : Int) : Bool := decide (65 ≤ c ∧ c ≤ 90 ∨ 97 ≤ c ∧ c ≤ 122)
def digB (c : Int) : Bool := decide (48 ≤ c ∧ c ≤ 57)
/-- the keywords: angle, apex, bisector, center, circle, circum, collinear, common, concyclic, congruent, cross, cut, divide, foot, line, meet, midpoint, mirror, on, other, parallel, perpendicular, points, prove, ratio, reflect, same, shift, turn -/
def keywords : List ByteArray := [⟨#[97, 110, 103, 108, 101]⟩,
  ⟨#[97, 112, 101, 120]⟩,
  ⟨#[98, 105, 115, 101, 99, 116, 111, 114]⟩,
  ⟨#[99, 101, 110, 116, 101, 114]⟩,
  ⟨#[99, 105, 114, 99, 108, 101]⟩,
  ⟨#[99, 105, 114, 99, 117, 109]⟩,
  ⟨#[99, 111, 108, 108, 105, 110, 101, 97, 114]⟩,
  ⟨#[99, 111, 109, 109, 111, 110]⟩,
  ⟨#[99, 111, 110, 99, 121, 99, 108, 105, 99]⟩,
  ⟨#[99, 111, 110, 103, 114, 117, 101, 110, 116]⟩,
  ⟨#[99, 114, 111, 115, 115]⟩,
  ⟨#[99, 117, 116]⟩,
  ⟨#[100, 105, 118, 105, 100, 101]⟩,
  ⟨#[102, 111, 111, 116]⟩,
  ⟨#[108, 105, 110, 101]⟩,
  ⟨#[109, 101, 101, 116]⟩,
  ⟨#[109, 105, 100, 112, 111, 105, 110, 116]⟩,
  ⟨#[109, 105, 114, 114, 111, 114]⟩,
  ⟨#[111, 110]⟩,
  ⟨#[111, 116, 104, 101, 114]⟩,
  ⟨#[112, 97, 114, 97, 108, 108, 101, 108]⟩,
  ⟨#[112, 101, 114, 112, 101, 110, 100, 105, 99, 117, 108, 97, 114]⟩,
  ⟨#[112, 111, 105, 110, 116, 115]⟩,
  ⟨#[112, 114, 111, 118, 101]⟩,
  ⟨#[114, 97, 116, 105, 111]⟩,
  ⟨#[114, 101, 102, 108, 101, 99, 116]⟩,
  ⟨#[115, 97, 109, 101]⟩,
  ⟨#[115, 104, 105, 102, 116]⟩,
  ⟨#[116, 117, 114, 110]⟩]
def wordB (c : UInt8) : Bool := letB c.toNat || digB c.toNat
/-- does a string begin with a letter? -/
def headB (s : ByteArray) : Bool := match s.data.toList with
  | [] => false
  | c :: _ => letB c.toNat
def keyB (s : ByteArray) : Bool := keywords.any fun k => decide (s = k)
def isNameB (s : ByteArray) : Bool := decide (s.size ≤ 20) && headB s && s.data.toList.all wordB && !keyB s

theorem keywords_len : keywords.length = 29 := rfl
theorem headB_cons {s : ByteArray} (h : 0 < s.size) : headB s = letB ((s[0]'h).toNat : Nat) := by
  unfold headB
  have h' : 0 < s.data.toList.length := by simpa using h
  have e : s.data.toList = s.data.toList[0] :: s.data.toList.drop 1 := by
    have := List.drop_eq_getElem_cons (l := s.data.toList) (i := 0) h'
    simpa using this
  rw [e]
  rfl
theorem headB_nil {s : ByteArray} (h : s.size = 0) : headB s = false := by
  unfold headB
  have : s.data.toList = [] := List.eq_nil_of_length_eq_zero (by simpa using h)
  rw [this]
theorem size_zero {s : ByteArray} : s.size = 0 ↔ s = ⟨#[]⟩ := by
  constructor
  · intro h
    cases s with
    | mk d => congr 1; exact Array.eq_empty_of_size_eq_zero h
  · intro h; subst h; rfl
theorem get_list {s : ByteArray} {k : Nat} (h : k < s.size) : s.data.toList[k]? = some (s[k]'h) := by simp [h]; rfl
theorem isNameB_empty : isNameB ⟨#[]⟩ = false := by decide

/-- one more rune of a string that is ranged over, whatever it is -/
theorem run_next_any {P : Program} (w : World) (g : Nat) (s : ByteArray) (pos : Nat) (hi : Itr w g s pos) (h : pos < s.size) :
    ∃ (r : Int) (n : Nat), (∀ ty : TypeId, (Instr.next (.pointer (some ⟨g, 0, none⟩)) true ty).run P w = .ok (.tuple #[.bool true, .int .i64 pos, .int .i32 r]) (setItr w g s (pos + n))) ∧ ((s[pos]'h).toNat < 128 → n = 1) := by
  by_cases ha : (s[pos]'h).toNat < 128
  · exact ⟨_, 1, fun ty => run_next_at w g s pos ty hi h ha, fun _ => rfl⟩
  · unfold Itr at hi
    refine ⟨((Utf8.decode s pos).1 : Nat), (Utf8.decode s pos).2, fun ty => ?_, fun h => absurd h ha⟩
    simp only [Instr.next, getObj, setObj, Sem.run_bind, Sem.run, hi, Result.andThen, h, if_true]
    simp [goInt, setItr]
end Go.Proofs.YtgbnadckhjfebaaRR

/- Figures: steps and facts as they lie in memory, and which are right. No walk. -/
namespace Go.Proofs.YtgbnadckhjfebaaRR
open Go.RowKit

/-- is a number the zero value? -/
def Rt.none (r : Rt) : Bool := !r.neg && decide (r.num.length = 0) && decide (r.den.length = 0)
def arity14 (k : Int) : Int := if k = 1 ∨ k = 5 then 3 else if k = 2 ∨ k = 3 ∨ k = 4 ∨ k = 6 ∨ k = 9 then 4 else if k = 7 then 8 else if k = 8 then 2 else 0
def arity20 (k : Int) : Int := if k = 1 then 0 else if k = 2 ∨ k = 5 ∨ k = 6 ∨ k = 14 then 2 else if k = 3 ∨ k = 4 ∨ k = 7 ∨ k = 8 ∨ k = 10 ∨ k = 11 then 3 else if k = 9 ∨ k = 12 ∨ k = 13 then 4 else -1
/-- is an argument no number below n? -/
def badArg (n a : Int) : Bool := decide (a < 0 ∨ n ≤ a)
def errFct (f : Fct) (n : Int) : Int :=
  if arity14 f.kind = 0 then 8
  else if (f.args.length : Int) ≠ arity14 f.kind then 1
  else if f.args.any (badArg n) = true then 2
  else if f.kind = 9 ∧ f.ratio.right = false then 1
  else if f.kind ≠ 9 ∧ f.ratio.none = false then 1
  else 0
def errStep (l : List Step) (s : Step) (i : Nat) : Int :=
  if arity20 s.kind < 0 then 8
  else if (s.args.length : Int) ≠ arity20 s.kind then 1
  else if s.args.any (badArg i) = true then 2
  else if s.kind = 2 ∧ s.ratio.right = false then 1
  else if s.kind ≠ 2 ∧ s.ratio.none = false then 1
  else if s.point = ⟨#[]⟩ then 0
  else if isNameB s.point = false then 6
  else if (l.take i).any (fun t => decide (t.point = s.point)) = true then 7
  else 0
/-- the first error of steps from the one with the number i on -/
def errSteps (l : List Step) : List Step → Nat → Int
  | [], _ => 0
  | s :: r, i => if errStep l s i ≠ 0 then errStep l s i else errSteps l r (i + 1)
def errGoals (n : Int) : List Fct → Int
  | [] => 0
  | f :: r => if errFct f n ≠ 0 then errFct f n else errGoals n r
def Fig.err (f : Fig) : Int := if 40 < f.steps.length ∨ 8 < f.goals.length then 4 else if errSteps f.steps f.steps 0 ≠ 0 then errSteps f.steps f.steps 0 else errGoals f.steps.length f.goals

/-! ### What is right -/
theorem errSteps_at {l : List Step} : ∀ {r : List Step} {i k : Nat} {s : Step}, errSteps l r i = 0 → r[k]? = some s → errStep l s (i + k) = 0
  | [], _, _, _, _, h => by simp at h
  | s :: r, i, 0, t, h, hk => by
    simp at hk; subst hk
    unfold errSteps at h
    by_cases h0 : errStep l s i = 0
    · simpa using h0
    · rw [if_pos h0] at h; exact absurd h h0
  | s :: r, i, k + 1, t, h, hk => by
    unfold errSteps at h
    by_cases h0 : errStep l s i = 0
    · rw [if_neg (by simp [h0])] at h
      have := errSteps_at (k := k) h (by simpa using hk)
      rwa [show i + 1 + k = i + (k + 1) by omega] at this
    · rw [if_pos h0] at h; exact absurd h h0
theorem errStep_args {l : List Step} {s : Step} {i : Nat} (h : errStep l s i = 0) : ∀ a ∈ s.args, 0 ≤ a ∧ a < i := by
  intro a ha
  unfold errStep at h
  split at h
  · omega
  split at h
  · omega
  split at h
  · omega
  · rename_i hno
    simp only [List.any_eq_true, not_exists, not_and, badArg] at hno
    have := hno a ha
    simp at this
    omega
theorem Fig.args_of {f : Fig} (h : f.err = 0) {k : Nat} {s : Step} (hk : f.steps[k]? = some s) : ∀ a ∈ s.args, 0 ≤ a ∧ a < k := by
  unfold Fig.err at h
  split at h
  · omega
  split at h
  · contradiction
  · rename_i h1
    have := errSteps_at (by simpa using h1) hk
    rw [Nat.zero_add] at this
    exact errStep_args this
end Go.Proofs.YtgbnadckhjfebaaRR

/- Which points are needed, qs lists; rows of booleans in memory. -/
namespace Go.Proofs.YtgbnadckhjfebaaRR
open Go.RowKit

/-- points marked at the start -/
def mark0 (l : List Bool) (ps : List Int) : List Bool := ps.foldl (fun l (p : Int) => if 0 ≤ p ∧ p < (l.length : Int) then l.set p.toNat true else l) l
/-- the arguments of a needed step marked -/
def markArgs (l : List Bool) (qs : List Int) : List Bool := qs.foldl (fun l (a : Int) => l.set a.toNat true) l
def markStep (steps : List Step) (k : Nat) (l : List Bool) : List Bool := if l.getD k false = true then markArgs l ((steps[k]?.map Step.args).getD []) else l
/-- the steps k - 1, .., 0 gone through -/
def markDown (steps : List Step) : Nat → List Bool → List Bool
  | 0, l => l
  | k + 1, l => markDown steps k (markStep steps k l)
def trues (l : List Bool) : Nat → List Int
  | 0 => []
  | k + 1 => trues l k ++ if l.getD k false = true then [(k : Int)] else []
def marked (steps : List Step) (ps : List Int) : List Bool := markDown steps steps.length (mark0 (List.replicate steps.length false) ps)
def needs (steps : List Step) (ps : List Int) : List Int := trues (marked steps ps) steps.length

theorem mark0_snoc (l : List Bool) (ps : List Int) (p : Int) : mark0 l (ps ++ [p]) = if 0 ≤ p ∧ p < ((mark0 l ps).length : Int) then (mark0 l ps).set p.toNat true else mark0 l ps := by
  unfold mark0; rw [List.foldl_append]; rfl
theorem mark0_len (l : List Bool) (ps : List Int) : (mark0 l ps).length = l.length := by
  induction ps generalizing l with
  | nil => rfl
  | cons p ps ih =>
    unfold mark0 at ih ⊢
    rw [List.foldl_cons, ih]
    split <;> simp
theorem markArgs_snoc (l : List Bool) (qs : List Int) (a : Int) : markArgs l (qs ++ [a]) = (markArgs l qs).set a.toNat true := by simp [markArgs, List.foldl_append]
theorem markArgs_len (l : List Bool) (qs : List Int) : (markArgs l qs).length = l.length := by
  induction qs generalizing l with
  | nil => rfl
  | cons a qs ih => unfold markArgs at ih ⊢; rw [List.foldl_cons, ih]; simp
theorem markArgs_far (l : List Bool) (qs : List Int) (k : Nat) (h : ∀ a ∈ qs, 0 ≤ a ∧ a < k) : (markArgs l qs)[k]? = l[k]? := by
  induction qs generalizing l with
  | nil => rfl
  | cons a qs ih =>
    have := ih (l.set a.toNat true) (fun b hb => h b (by simp [hb]))
    unfold markArgs at this ⊢
    rw [List.foldl_cons, this]
    have h1 := h a (by simp)
    rw [List.getElem?_set_ne (by omega)]
theorem markStep_len (steps : List Step) (k : Nat) (l : List Bool) : (markStep steps k l).length = l.length := by
  unfold markStep
  split
  · exact markArgs_len _ _
  · rfl
theorem markDown_len (steps : List Step) (k : Nat) (l : List Bool) : (markDown steps k l).length = l.length := by
  induction k generalizing l with
  | zero => rfl
  | succ k ih => rw [markDown, ih, markStep_len]
theorem marked_len (steps : List Step) (ps : List Int) : (marked steps ps).length = steps.length := by rw [marked, markDown_len, mark0_len]; simp
theorem trues_in (l : List Bool) (k : Nat) : ∀ x ∈ trues l k, 0 ≤ x ∧ x < k := by
  induction k with
  | zero => intro x hx; cases hx
  | succ k ih =>
    intro x hx
    rw [trues] at hx
    rcases List.mem_append.1 hx with h | h
    · have := ih x h; omega
    · split at h
      · have : x = (k : Int) := by simpa using h
        omega
      · cases h
theorem trues_len (l : List Bool) (k : Nat) : (trues l k).length ≤ k := by
  induction k with
  | zero => simp [trues]
  | succ k ih => rw [trues, List.length_append]; split <;> simp <;> omega

/-! ### Rows of booleans -/
theorem infoB : (Try.prog.info? 4).map (fun i => (i.zero, i.size, i.bytes)) = some (some (.bool false), 1, 1) := by kernel_rfl
def BlkB (w : World) (g : Nat) (l : List Bool) : Prop := Blk w g 4 (l.map Value.bool).toArray
section
variable {w w' : World} {g : Nat} {l : List Bool}
theorem BlkB.lt (h : BlkB w g l) : g < w.heap.size := Blk.lt h
theorem BlkB.cell (h : BlkB w g l) {i : Nat} {x : Bool} (hx : l[i]? = some x) : w.cell? ⟨g, i, none⟩ = some (.bool x) := by
  rw [Blk.cell h i]; simp [hx]
theorem BlkB.frozen (h : BlkB w g l) (i : Nat) : w.frozen? ⟨g, i, none⟩ = false := Blk.frozen h i
theorem BlkB.set_ (h : BlkB w g l) (i : Nat) (x : Bool) : BlkB (w.setCell ⟨g, i, none⟩ (.bool x)) g (l.set i x) := by
  have := Blk.set_ h i (.bool x)
  unfold BlkB
  rw [List.setIfInBounds_toArray, ← List.map_set] at this
  exact this
theorem BlkB.below (h : BlkB w g l) (hb : Below w.heap.size w w') : BlkB w' g l := Blk.below' h hb
theorem BlkB.alloc (h : BlkB w g l) (o : Obj) : BlkB (w.alloc o) g l := Blk.alloc h o
theorem BlkB.new (w : World) (n : Nat) : BlkB (w.alloc (.cells (madeCells #[.bool false] n) 4)) w.heap.size (List.replicate n false) := by
  have := Blk.new w 4 (madeCells #[.bool false] n)
  unfold BlkB
  have e : madeCells #[.bool false] n = ((List.replicate n false).map Value.bool).toArray := by
    apply Array.ext
    · simp [madeCells]
    · intro i h1 h2
      simp [madeCells, Nat.mod_one]
  rw [e] at this ⊢
  exact this
end
/-- 'make([]bool, n)' -/
theorem run_make_bool (k : IntKind) (n : Nat) (hn : n ≤ 16777216) (w : World) :
    (Instr.makeSlice 48 (.int k (n : Int)) (.int k (n : Int))).run Try.prog w = .ok (.slice (some ⟨w.heap.size, 0, none⟩) n n) (w.alloc (.cells (madeCells #[.bool false] n) 4)) :=
  run_make_row' 48 4 (.bool false) 1 Try.underlying48 infoB rfl k k n (by omega) (by omega) w
theorem getD_some {l : List Bool} {k : Nat} {b : Bool} (h : l[k]? = some b) : l.getD k false = b := by simp [List.getD_eq_getElem?_getD, h]
end Go.Proofs.YtgbnadckhjfebaaRR

/- Pruned figures as lists, and steps in slices that a call makes itself. -/
namespace Go.Proofs.YtgbnadckhjfebaaRR
open Go.RowKit

/-- the place of n in a list whose first place is i, -1 if there is none -/
def placeFrom (n : Int) (i : Nat) : List Int → Int
  | [] => -1
  | x :: r => if x = n then (i : Int) else placeFrom n (i + 1) r
def place (l : List Int) (n : Int) : Int := placeFrom n 0 l
def placed (l ns : List Int) : List Int := ns.map (place l)
theorem placeFrom_at {l : List Int} {n x : Int} {k : Nat} (h : l[k]? = some x) : placeFrom n k (l.drop k) = if x = n then (k : Int) else placeFrom n (k + 1) (l.drop (k + 1)) := by
  have hk := lt_of_get h
  rw [List.drop_eq_getElem_cons hk]
  have : l[k] = x := by rw [List.getElem?_eq_getElem hk] at h; exact Option.some.inj h
  rw [this, placeFrom]
theorem placeFrom_end {l : List Int} {n : Int} {k : Nat} (h : ¬ k < l.length) : placeFrom n k (l.drop k) = -1 := by rw [List.drop_eq_nil_of_le (by omega)]; rfl
theorem placeFrom_in (n : Int) (l : List Int) (i : Nat) : -1 ≤ placeFrom n i l ∧ placeFrom n i l < i + l.length + 1 := by
  induction l generalizing i with
  | nil => simp [placeFrom]; omega
  | cons x l ih =>
    unfold placeFrom
    have := ih (i + 1)
    split
    · simp; omega
    · simp only [List.length_cons]; omega
theorem placed_in (l ns : List Int) (hl : l.length ≤ 1000000) : ∀ x ∈ placed l ns, InInt x := fun x hx => by
  obtain ⟨n, _, rfl⟩ := List.mem_map.1 hx
  have := placeFrom_in n l 0
  unfold place
  constructor <;> omega
theorem placed_take {l ns : List Int} {n : Int} {k : Nat} (h : ns[k]? = some n) : placed l (ns.take (k + 1)) = placed l (ns.take k) ++ [place l n] := by
  rw [take_more h]; simp [placed]

def Step.with (s : Step) (qs : List Int) : Step := { s with args := qs }
def Fct.with (s : Fct) (qs : List Int) : Fct := { s with args := qs }
def prunedSteps (steps : List Step) (L : List Int) (m : List Int) : List Step := m.filterMap fun i => steps[i.toNat]?.map fun s => s.with (placed L s.args)
def pruned (f : Fig) (g : Fct) : Fig := ⟨prunedSteps f.steps (needs f.steps g.args) (needs f.steps g.args), [g.with (placed (needs f.steps g.args) g.args)]⟩
theorem prunedSteps_take {steps : List Step} {L m : List Int} {k : Nat} {x : Int} {s : Step} (h : m[k]? = some x) (hs : steps[x.toNat]? = some s) :
    prunedSteps steps L (m.take (k + 1)) = prunedSteps steps L (m.take k) ++ [s.with (placed L s.args)] := by
  rw [take_more h]; simp [prunedSteps, hs]

/-- a step with the addresses of its slices -/
structure SP where
  s : Step
  p : RA
def SP.cs (q : SP) : List Value := [.int .i64 q.s.kind, .string q.s.point, .slice q.p.aa q.s.args.length q.p.ac, .bool q.s.ratio.neg, .slice q.p.na q.s.ratio.num.length q.p.nc, .slice q.p.da q.s.ratio.den.length q.p.dc]
theorem SP.cs_len (q : SP) : q.cs.length = 6 := rfl
theorem SP.cs_one (q : SP) : ∀ u ∈ q.cs, u.oneCell' = true := by simp [SP.cs, Value.oneCell']
abbrev OwnSt (B : Nat) (w : World) (a : Option Addr) (c : Nat) (l : List SP) : Prop := Own SP.cs 6 47 B w a c l
theorem infoSt : (Try.prog.info? 47).map (fun i => (i.zero, i.size, i.bytes)) = some (some (.agg #[.int .i64 0, .string ⟨#[]⟩, .slice none 0 0, .bool false, .slice none 0 0, .slice none 0 0]), 6, 104) := by kernel_rfl
theorem SP.cells {w : World} {b o : Nat} {q : SP} (h : ∀ j u, q.cs[j]? = some u → w.cell? ⟨b, o + j, none⟩ = some u) : StepC w b o q.p q.s :=
  ⟨by simpa using h 0 _ rfl, h 1 _ rfl, h 2 _ rfl, h 3 _ rfl, h 4 _ rfl, h 5 _ rfl⟩
def SP.R (w : World) (q : SP) : Prop := PartsR w q.p q.s.args q.s.ratio ∧ InInt q.s.kind ∧ q.s.point.size ≤ 9223372036854775807
theorem OwnSt.readsIn {B : Nat} {w V : World} {a : Option Addr} {c : Nat} {l : List SP} (h : OwnSt B w a c l) (hV : New B w V) (hr : ∀ q ∈ l, q.R V) : StepsR V a c (l.map SP.s) :=
  Own.readsIn SP.s SP.cs_len h hV fun _b _o q hq hc => ⟨q.p, SP.cells hc, hr q hq⟩
/-- 'l = append(l, s)', s a step: an operation -/
theorem wp_append_step {B : Nat} {w : World} {l : List SP} {o : Oper} {act : Act} {K : Act → World → Prop} {Q : Exit → Act → World → Prop} (s y : Operand)
    (ho : o.op = .call { callee := .builtin .append, args := #[s, y], argTypes := #[22, 22] })
    (a : Option Addr) (c : Nat) (hs : act.eval s = .slice a l.length c) (hown : OwnSt B w a c l)
    (x : SP) (b c1 : Nat) (hy : act.eval y = .slice (some ⟨b, 0, none⟩) 1 c1) (hcell : ∀ j u, x.cs[j]? = some u → w.cell? ⟨b, j, none⟩ = some u)
    (l2 : List SP) (hl2 : l2 = l ++ [x]) (hlen : l2.length ≤ 16777216) (hB : B ≤ w.heap.size)
    (h : ∀ a' c' w', OwnSt B w' a' c' l2 → w.grownBy w' (Value.ownBlock (.slice a l.length c)) → ((∃ g, a' = some ⟨g, 0, none⟩ ∧ (a = some ⟨g, 0, none⟩ ∨ g = w.heap.size))) →
      K (act.put o.dst (.slice a' l2.length c')) w') : o.wp Try.prog act w K Q :=
  wp_append_1 s y 22 ho Try.underlying22 infoSt rfl (by omega) (by omega) SP.cs_len a c hs hown x (SP.cs_one x) b c1 hy hcell l2 hl2 hlen hB h
theorem append_step {B : Nat} {w : World} {l : List SP} {ops : Array Oper} {rest : List Oper} {o : Oper} {act : Act} {Q : Exit → Act → World → Prop} (hgd : o.guard = none) (s y : Operand)
    (ho : o.op = .call { callee := .builtin .append, args := #[s, y], argTypes := #[22, 22] })
    (a : Option Addr) (c : Nat) (hs : act.eval s = .slice a l.length c) (hown : OwnSt B w a c l)
    (x : SP) (b c1 : Nat) (hy : act.eval y = .slice (some ⟨b, 0, none⟩) 1 c1) (hcell : ∀ j u, x.cs[j]? = some u → w.cell? ⟨b, j, none⟩ = some u)
    (l2 : List SP) (hl2 : l2 = l ++ [x]) (hlen : l2.length ≤ 16777216) (hB : B ≤ w.heap.size)
    (h : ∀ a' c' w', OwnSt B w' a' c' l2 → w.grownBy w' (Value.ownBlock (.slice a l.length c)) → ((∃ g, a' = some ⟨g, 0, none⟩ ∧ (a = some ⟨g, 0, none⟩ ∨ g = w.heap.size))) →
      wpList Try.prog ops Q rest (act.put o.dst (.slice a' l2.length c')) w') : wpList Try.prog ops Q (o :: rest) act w :=
  wpList_append_1 hgd s y 22 ho Try.underlying22 infoSt rfl (by omega) (by omega) SP.cs_len a c hs hown x (SP.cs_one x) b c1 hy hcell l2 hl2 hlen hB h
/-- what a call gives that makes a figure out of what is read in W0, and an error -/
def RetFig (W0 w : World) (g : Fig) (x : Int) (e : Ending) (w' : World) : Prop :=
  ∃ sa sc ga gc, e = .returned (.tuple #[g.val sa sc ga gc, .int .i64 x]) ∧ Below w.heap.size w w' ∧ ∀ V, Ext W0 V → New w.heap.size w' V → FigR V sa sc ga gc g
theorem fct_one {w : World} {b : Nat} {p : RA} {s : Fct} (hc : FctC w b 0 p s) (hp : PartsR w p s.args s.ratio) (hk : InInt s.kind) : FctsR w (some ⟨b, 0, none⟩) 1 [s] := by
  refine ⟨by simp, by simp [maxLen], fun k x hx => ?_⟩
  cases k with
  | zero => simp at hx; subst hx; exact ⟨b, 0, rfl, by simpa using ⟨p, hc, hp, hk⟩⟩
  | succ k => simp at hx
end Go.Proofs.YtgbnadckhjfebaaRR

/- Walks: arities and the zero value, by the reference. -/
namespace Go.Proofs.YtgbnadckhjfebaaRR
open Go.RowKit

theorem eqb_false {a b : Int} (h : ¬ a = b) : (a == b) = false := by simpa using h
set_option maxHeartbeats 2000000 in
theorem arity14_any (k : Int) (w : World) : Calls Try.prog 20 #[.int .i64 k] w fun e w' => e = .returned (.int .i64 (arity14 k)) ∧ w = w' := by
  by_cases hk : 1 ≤ k ∧ k ≤ 9
  · have hc : k = 1 ∨ k = 2 ∨ k = 3 ∨ k = 4 ∨ k = 5 ∨ k = 6 ∨ k = 7 ∨ k = 8 ∨ k = 9 := by omega
    clear hk
    rcases hc with rfl | rfl | rfl | rfl | rfl | rfl | rfl | rfl | rfl
    all_goals
      go_enter Try.func20, Try.ntmps20
      go_wp2
      go_ret
      exact ⟨ret_int (by decide), rfl⟩
  · have h1 := eqb_false (a := k) (b := 1) (by omega); have h2 := eqb_false (a := k) (b := 2) (by omega); have h3 := eqb_false (a := k) (b := 3) (by omega)
    have h4 := eqb_false (a := k) (b := 4) (by omega); have h5 := eqb_false (a := k) (b := 5) (by omega); have h6 := eqb_false (a := k) (b := 6) (by omega)
    have h7 := eqb_false (a := k) (b := 7) (by omega); have h8 := eqb_false (a := k) (b := 8) (by omega); have h9 := eqb_false (a := k) (b := 9) (by omega)
    have hr : arity14 k = 0 := by unfold arity14; rw [if_neg (by omega), if_neg (by omega), if_neg (by omega), if_neg (by omega)]
    rw [hr]
    clear hr hk
    go_enter Try.func20, Try.ntmps20
    go_wp2
    go_ret
    exact ⟨rfl, rfl⟩
set_option maxHeartbeats 2000000 in
theorem arity20_any (k : Int) (w : World) : Calls Try.prog 16 #[.int .i64 k] w fun e w' => e = .returned (.int .i64 (arity20 k)) ∧ w = w' := by
  by_cases hk : 1 ≤ k ∧ k ≤ 14
  · have hc : k = 1 ∨ k = 2 ∨ k = 3 ∨ k = 4 ∨ k = 5 ∨ k = 6 ∨ k = 7 ∨ k = 8 ∨ k = 9 ∨ k = 10 ∨ k = 11 ∨ k = 12 ∨ k = 13 ∨ k = 14 := by omega
    clear hk
    rcases hc with rfl | rfl | rfl | rfl | rfl | rfl | rfl | rfl | rfl | rfl | rfl | rfl | rfl | rfl
    all_goals
      go_enter Try.func16, Try.ntmps16
      go_wp2
      go_ret
      exact ⟨ret_int (by decide), rfl⟩
  · have h1 := eqb_false (a := k) (b := 1) (by omega); have h2 := eqb_false (a := k) (b := 2) (by omega); have h3 := eqb_false (a := k) (b := 3) (by omega)
    have h4 := eqb_false (a := k) (b := 4) (by omega); have h5 := eqb_false (a := k) (b := 5) (by omega); have h6 := eqb_false (a := k) (b := 6) (by omega)
    have h7 := eqb_false (a := k) (b := 7) (by omega); have h8 := eqb_false (a := k) (b := 8) (by omega); have h9 := eqb_false (a := k) (b := 9) (by omega)
    have h10 := eqb_false (a := k) (b := 10) (by omega); have h11 := eqb_false (a := k) (b := 11) (by omega); have h12 := eqb_false (a := k) (b := 12) (by omega)
    have h13 := eqb_false (a := k) (b := 13) (by omega); have h14 := eqb_false (a := k) (b := 14) (by omega)
    have hr : arity20 k = -1 := by unfold arity20; rw [if_neg (by omega), if_neg (by omega), if_neg (by omega), if_neg (by omega)]
    rw [hr]
    clear hr hk
    go_enter Try.func16, Try.ntmps16
    go_wp2
    go_ret
    exact ⟨rfl, rfl⟩
theorem arity14_in (k : Int) : 0 ≤ arity14 k ∧ arity14 k ≤ 8 := by unfold arity14; split <;> (try split) <;> (try split) <;> (try split) <;> omega
theorem arity20_in (k : Int) : -1 ≤ arity20 k ∧ arity20 k ≤ 4 := by unfold arity20; split <;> (try split) <;> (try split) <;> (try split) <;> omega

set_option maxHeartbeats 1000000 in
theorem none14_any (r : Rt) (na : Option Addr) (nc : Nat) (da : Option Addr) (dc : Nat) (w : World) (hl : r.num.length ≤ 2000000) (hm : r.den.length ≤ 2000000) :
    Calls Try.prog 21 #[r.val na nc da dc] w fun e w' => e = .returned (.bool r.none) ∧ Below w.heap.size w w' := by
  obtain ⟨neg, num, den⟩ := r
  unfold Rt.val Rt.none
  dsimp only at hl hm ⊢
  by_cases h1 : num.length = 0 <;> by_cases h2 : den.length = 0
  all_goals
    have e1 : ((num.length : Int) == 0) = decide (num.length = 0) := by rw [Bool.eq_iff_iff]; simp
    have e2 : ((den.length : Int) == 0) = decide (den.length = 0) := by rw [Bool.eq_iff_iff]; simp
    have d1 : decide (num.length = 0) = decide (num.length = 0) := rfl
    simp only [h1, h2, decide_true, decide_false] at e1 e2
    have HH : (decide (num.length = 0), decide (den.length = 0)) = (decide (num.length = 0), decide (den.length = 0)) := rfl
    simp only [h1, h2, decide_true, decide_false] at HH ⊢
    clear HH d1
    cases neg
    all_goals
      have H1 := Lib.hid h1
      have H2 := Lib.hid h2
      clear h1 h2
      go_enter Try.func21, Try.ntmps21
      go_wp2
      go_ret
      exact ⟨rfl, (Below.refl _ _).alloc (Nat.le_refl _) _⟩
set_option maxHeartbeats 1000000 in
theorem none20_any (r : Rt) (na : Option Addr) (nc : Nat) (da : Option Addr) (dc : Nat) (w : World) (hl : r.num.length ≤ 2000000) (hm : r.den.length ≤ 2000000) :
    Calls Try.prog 18 #[r.val na nc da dc] w fun e w' => e = .returned (.bool r.none) ∧ Below w.heap.size w w' := by
  obtain ⟨neg, num, den⟩ := r
  unfold Rt.val Rt.none
  dsimp only at hl hm ⊢
  by_cases h1 : num.length = 0 <;> by_cases h2 : den.length = 0
  all_goals
    have e1 : ((num.length : Int) == 0) = decide (num.length = 0) := by rw [Bool.eq_iff_iff]; simp
    have e2 : ((den.length : Int) == 0) = decide (den.length = 0) := by rw [Bool.eq_iff_iff]; simp
    have d1 : decide (num.length = 0) = decide (num.length = 0) := rfl
    simp only [h1, h2, decide_true, decide_false] at e1 e2
    have HH : (decide (num.length = 0), decide (den.length = 0)) = (decide (num.length = 0), decide (den.length = 0)) := rfl
    simp only [h1, h2, decide_true, decide_false] at HH ⊢
    clear HH d1
    cases neg
    all_goals
      have H1 := Lib.hid h1
      have H2 := Lib.hid h2
      clear h1 h2
      go_enter Try.func18, Try.ntmps18
      go_wp2
      go_ret
      exact ⟨rfl, (Below.refl _ _).alloc (Nat.le_refl _) _⟩
end Go.Proofs.YtgbnadckhjfebaaRR

/- Needed points: what the walks of the program and of the reference share. -/
namespace Go.Proofs.YtgbnadckhjfebaaRR
open Go.RowKit

theorem take_getD {l : List Step} {k : Nat} {s : Step} (h : l[k]? = some s) : ((l[k]?.map Step.args).getD []) = s.args := by rw [h]; rfl
theorem Own.ne_blk {α : Type} {f : α → List Value} {sz : Nat} {t t' : TypeId} {B g : Nat} {w : World} {a : Option Addr} {c : Nat} {l : List α} {cs : Array Value} (h : Own f sz t B w a c l) (hb : Blk w g t' cs) (hne : t ≠ t') : some g ≠ Value.ownBlock (.slice a l.length c) := by
  intro e
  cases a with
  | none => simp [Value.ownBlock] at e
  | some p =>
    simp [Value.ownBlock] at e
    rcases h.2 with ⟨hn, _⟩ | ⟨g', cap, cur, hv, _, hh, _⟩
    · cases hn
    · injection hv with hv
      injection hv with hv
      subst hv
      simp at e
      subst e
      unfold Blk at hb
      rw [hb] at hh
      injection hh with hh
      injection hh with _ ht
      exact hne ht.symm
theorem int_ne_bool : 3 ≠ 4 := by decide
theorem trues_true {l : List Bool} {k : Nat} (h : l[k]? = some true) : trues l (k + 1) = trues l k ++ [(k : Int)] := by rw [trues, getD_some h, if_pos rfl]
theorem trues_false {l : List Bool} {k : Nat} (h : l[k]? = some false) : trues l (k + 1) = trues l k := by rw [trues, getD_some h, if_neg (by simp), List.append_nil]

/-- what a call gives that makes integers -/
def RetI (l : List Int) (w : World) (e : Ending) (w' : World) : Prop := ∃ a c, e = .returned (.slice a l.length c) ∧ OwnI w.heap.size w' a c l ∧ Below w.heap.size w w'
end Go.Proofs.YtgbnadckhjfebaaRR

/- Walks: places in lists of integers, by the program. -/
namespace Go.Proofs.YtgbnadckhjfebaaRR
open Go.RowKit

theorem OwnI.readsV {B : Nat} {w V : World} {a : Option Addr} {c : Nat} {l : List Int} (h : OwnI B w a c l) (hV : New B w V) (hs : ∀ x ∈ l, InInt x) : IntsR V a c l := by
  have := Own.readsIn (E := IntE .i64) (β := Int) id intC_len h hV (fun b o x hx hc => ⟨by simpa using hc 0 _ rfl, wf_of (hs x hx)⟩)
  rwa [List.map_id] at this
theorem figR_none (V : World) : FigR V none 0 none 0 ⟨[], []⟩ := ⟨SlR.nil, SlR.nil⟩
set_option maxHeartbeats 1000000 in
theorem index_any (l : List Int) (n : Int) (a : Option Addr) (c : Nat) (w : World) (h : IntsR w a c l) :
    Calls Try.prog 12 #[.slice a l.length c, .int .i64 n] w fun e w' => e = .returned (.int .i64 (place l n)) ∧ w = w' := by
  have H := Lib.hid h
  have hlen := h.len
  obtain ⟨r, hr⟩ : ∃ r, place l n = r := ⟨_, rfl⟩
  rw [hr]
  have HR := Lib.hid hr
  clear h hr
  go_enter Try.func12, Try.ntmps12
  go_wp2
  go_loop [5, 8] (fun _ q => ∃ k : Nat, k ≤ l.length ∧ q = .int .i64 k ∧ Hid (placeFrom n k (l.drop k) = r)) (fun _ q => l.length - (intOf q).toNat)
  case atStart => exact ⟨0, by omega, rfl, HR.out⟩
  case round =>
    obtain ⟨k, hk, rfl, hp⟩ := hrel
    by_cases hlt : k < l.length
    · obtain ⟨x, hx⟩ := get_of_lt hlt
      obtain ⟨b, off, rfl, hc⟩ := H.out.2.2 k x hx
      have hc1 : w.cell? ⟨b, off + k, none⟩ = some (.int .i64 x) := by simpa using hc.1
      have hpa := hp.out
      rw [placeFrom_at hx] at hpa
      replace hpa := Lib.hid hpa
      clear hx hc
      by_cases he : x = n
      · have hb : (n == x) = true := by simpa using he.symm
        have hrk : r = k := by have := hpa.out; rw [if_pos he] at this; exact this.symm
        subst hrk
        clear he
        go_wp2
        go_ret
        exact ⟨rfl, rfl⟩
      · have hb : (n == x) = false := by simpa using fun e => he e.symm
        have hpn := hpa.out
        rw [if_neg he] at hpn
        replace hpn := Lib.hid hpn
        clear he
        go_wp2
        go_round
        case rel => exact ⟨k + 1, by omega, by go_num, hpn.out⟩
        case measure => simp [intOf]; omega
    · have hrk : r = -1 := by rw [← hp.out, placeFrom_end hlt]
      subst hrk
      go_wp2
      go_ret
      exact ⟨rfl, rfl⟩

set_option maxHeartbeats 1000000 in
theorem movedF_any (l ns : List Int) (g : Nat) (a : Option Addr) (c : Nat) (a' : Option Addr) (c' : Nat) (w : World) (hg : Blk w g 30 #[.slice a l.length c]) (h : IntsR w a c l) (h' : IntsR w a' c' ns) (hl : ns.length ≤ 1000000) :
    Calls Try.prog 11 #[.slice a' ns.length c', .pointer (some ⟨g, 0, none⟩)] w (RetI (placed l ns) w) := by
  have H := Lib.hid h
  have H' := Lib.hid h'
  have hlen := h.len
  have HG := Lib.hid hg
  clear h h' hg
  go_enter Try.func11, Try.ntmps11
  go_wp2
  go_loopg [4, 6, 9] ns.length (fun n s _ q wr => ∃ (k : Nat) (ao : Option Addr) (co : Nat) (o : List Int), k + n = ns.length ∧ q = .int .i64 k ∧ s = .slice ao o.length co ∧ OwnI w.heap.size wr ao co o ∧ Below w.heap.size w wr ∧ o = placed l (ns.take k))
  case atStart => exact ⟨0, none, 0, [], by omega, rfl, rfl, Own.nil, Below.refl _ _, rfl⟩
  case round =>
    obtain ⟨k, ao, co, o, hkg, rfl, rfl, ho, hb, hv⟩ := hrel
    have hol : o.length = k := by rw [hv]; simp [placed]; omega
    have HKG := Lib.hid hkg
    have HO := Lib.hid ho
    have HV := Lib.hid hv
    have HOL := Lib.hid hol
    have z0 := (HG.out.below' hb).cell 0
    clear hkg ho hv hol
    by_cases hlt : k < ns.length
    · obtain ⟨x, hx⟩ := get_of_lt hlt
      obtain ⟨b, off, rfl, hc⟩ := (H'.out.ext (Ext.below hb)).2.2 k x hx
      have hc1 : wr.cell? ⟨b, off + k, none⟩ = some (.int .i64 x) := by simpa using hc.1
      have C := index_any l x a c wr (H.out.ext (Ext.below hb))
      have hnx := placed_take (l := l) hx
      revert C hnx
      generalize place l x = y
      intro C hnx
      replace C := Lib.hid C
      have HNX := Lib.hid hnx
      clear hx hc hnx
      go_wp2_with (first
        | (go_at_call 12; refine C.out.mono ?_; rintro e w' ⟨rfl, rfl⟩)
        | (at_builtin; go_must (refine append_int rfl (.tmp 13) (.tmp 17) rfl ao co rfl (HO.out.alloc _) y wr.heap.size 1 rfl (by simp) (o ++ [y]) rfl (by have := HOL.out; simp; omega) (by have := hb.size; simp; omega) ?_); intro a2 c2 w2 ho2 hg2 hx2))
      go_roundg (gk - 1)
      case rel => exact ⟨k + 1, a2, c2, o ++ [y], by have := HKG.out; omega, by go_num, by simp, ho2, below_append' (hb.alloc hb.size _) (HO.out.alloc _) hg2, by rw [HNX.out, HV.out]⟩
      case measure => have := HKG.out; omega
    · have hfin : o = placed l ns := by have := HV.out; rwa [take_all hlt] at this
      have HF := Lib.hid hfin
      clear hfin
      go_wp2
      go_ret
      rw [← HF.out]
      exact ⟨ao, co, rfl, HO.out, hb⟩
end Go.Proofs.YtgbnadckhjfebaaRR
