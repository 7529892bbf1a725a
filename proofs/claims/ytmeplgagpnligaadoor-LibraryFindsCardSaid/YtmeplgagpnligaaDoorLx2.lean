/- What a call has made, or what came in, keeps its reading while the caller writes cells of its own. No function of the program in sight. -/
import Derived.Test.YtmeplgagpnligaaDoorLx1
import Derived.Lib.SplitLaws
import Derived.Test.YtmeplgagpnligaaDoorProg
import Derived.KernelRfl
import Derived.Lib.Strings
import Derived.OrdersHeld
import Derived.Deep.RegionWith

/- Cutting a text at a word: the pieces computed, and that the library's split gives them. No function of the program in sight. -/
namespace Go.Proofs.YtmeplgagpnligaaDoor
open Go.RowKit Go.Lib

def fidx (sep : List UInt8) : List UInt8 → Nat → Option Nat
  | [], _ => none
  | b :: l, n => if sep.isPrefixOf (b :: l) then some n else fidx sep l (n + 1)
theorem fidx_index {sep : List UInt8} (hsep : sep ≠ []) : ∀ (s : List UInt8) (n : Nat), (fidx sep s n = none ∧ index s sep = -1) ∨ (∃ i, fidx sep s n = some (n + i) ∧ index s sep = (i : Int))
  | [], n => .inl ⟨rfl, by unfold index; rw [if_neg (by simpa using hsep)]⟩
  | b :: l, n => by
    unfold fidx index
    by_cases h : sep.isPrefixOf (b :: l) = true
    · rw [if_pos h, if_pos h]
      exact .inr ⟨0, rfl, rfl⟩
    · rw [if_neg h, if_neg h]
      rcases fidx_index hsep l (n + 1) with ⟨h1, h2⟩ | ⟨i, h1, h2⟩
      · exact .inl ⟨h1, by rw [h2]; rfl⟩
      · refine .inr ⟨i + 1, by rw [h1]; congr 1; omega, ?_⟩
        rw [h2]
        have : ((i : Int) == -1) = false := by rw [beq_eq_false_iff_ne]; omega
        simp [this]
def pieces (sep : List UInt8) : Nat → List UInt8 → List (List UInt8)
  | 0, s => [s]
  | k + 1, s => match fidx sep s 0 with
    | none => [s]
    | some i => s.take i :: pieces sep k (s.drop (i + sep.length))
theorem pieces_split {sep : List UInt8} (hsep : sep ≠ []) : ∀ (k : Nat) (s : List UInt8), (pieces sep k s).length ≤ k → splitK sep 0 (count s sep) s = pieces sep k s ∧ count s sep + 1 = (pieces sep k s).length
  | 0, s, h => by simp [pieces] at h
  | k + 1, s, h => by
    unfold pieces at h ⊢
    rcases fidx_index hsep s 0 with ⟨h1, h2⟩ | ⟨i, h1, h2⟩
    · rw [h1]
      rw [count_miss h2]
      exact ⟨rfl, rfl⟩
    · rw [Nat.zero_add] at h1
      rw [h1] at h ⊢
      simp only [List.length_cons] at h ⊢
      obtain ⟨e1, e2⟩ := pieces_split hsep k (s.drop (i + sep.length)) (by omega)
      rw [count_hit hsep h2]
      have hm : ¬ (index s sep == -1) = true := fun e => by have := beq_iff_eq.1 e; omega
      refine ⟨?_, by omega⟩
      rw [Nat.add_comm 1, splitK, if_neg hm, h2]
      simp only [Int.toNat_natCast, Nat.add_zero]
      rw [e1]
def ofL (l : List UInt8) : ByteArray := ⟨l.toArray⟩
theorem ofL_data (s : ByteArray) : ofL s.data.toList = s := by cases s; rfl
theorem data_ofL (l : List UInt8) : (ofL l).data.toList = l := rfl
theorem ofL_inj {a b : List UInt8} (h : ofL a = ofL b) : a = b := by rw [← data_ofL a, h, data_ofL]
theorem ofL_app (a b : List UInt8) : ofL a ++ ofL b = ofL (a ++ b) := by
  rw [← ofL_data (ofL a ++ ofL b)]
  simp [ofL]
theorem ofL_size (a : List UInt8) : (ofL a).size = a.length := by simp [ofL, ByteArray.size]
/-- the same for the library's words -/
theorem split_pieces {sep s : List UInt8} (hsep : sep ≠ []) (k : Nat) {l : List (List UInt8)} (hl : pieces sep k s = l) (hk : l.length ≤ k) :
    splitB (ofL sep) 0 (countB (ofL s) (ofL sep)) (ofL s) = l.map ofL ∧ countB (ofL s) (ofL sep) + 1 = l.length := by
  subst hl
  obtain ⟨h1, h2⟩ := pieces_split hsep k s hk
  have h3 := splitB_data (ofL sep) 0 (count s sep) (ofL s)
  refine ⟨?_, h2⟩
  show splitB (ofL sep) 0 (count s sep) (ofL s) = _
  rw [data_ofL, data_ofL, h1] at h3
  rw [← h3, List.map_map]
  have : (ofL ∘ fun x : ByteArray => x.data.toList) = id := by funext x; exact ofL_data x
  rw [this, List.map_id]
end Go.Proofs.YtmeplgagpnligaaDoor

/- Decimal digits, plain. No function of the program in sight. -/
namespace Go.Proofs.YtmeplgagpnligaaDoor
/-- the decimal digits of a number, none of 0 -/
def digs (n : Nat) : List UInt8 := if h : n = 0 then [] else digs (n / 10) ++ [(48 + n % 10).toUInt8]
termination_by n
decreasing_by omega
theorem digs_zero : digs 0 = [] := by rw [digs]; simp
theorem digs_pos {n : Nat} (h : n ≠ 0) : digs n = digs (n / 10) ++ [(48 + n % 10).toUInt8] := by rw [digs]; simp [h]
/-- the decimal digits of a number -/
def textN (n : Nat) : List UInt8 := if n = 0 then [48] else digs n
/-- with a sign -/
def textZ (neg : Bool) (n : Nat) : List UInt8 := if neg = true then 45 :: textN n else textN n
theorem digs_small {n : Nat} (h0 : n ≠ 0) (h : n < 10) : digs n = [(48 + n).toUInt8] := by
  rw [digs_pos h0, show n / 10 = 0 by omega, digs_zero, show n % 10 = n by omega]; rfl
theorem textN_small {n : Nat} (h : n < 10) : textN n = [(48 + n).toUInt8] := by
  unfold textN
  split
  · next h0 => subst h0; rfl
  · next h0 => exact digs_small h0 h
theorem textN_two {n : Nat} (h : n < 100) (h1 : 10 ≤ n) : textN n = [(48 + n / 10).toUInt8, (48 + n % 10).toUInt8] := by
  unfold textN
  rw [if_neg (by omega), digs_pos (by omega), digs_small (by omega) (by omega)]; rfl
theorem digs_len (k n : Nat) (h : n < 10 ^ k) : (digs n).length ≤ k := by
  induction k generalizing n with
  | zero => simp at h; subst h; rw [digs_zero]; simp
  | succ k ih =>
    by_cases h0 : n = 0
    · subst h0; rw [digs_zero]; simp
    · rw [digs_pos h0, List.length_append]
      have := ih (n / 10) (by rw [Nat.pow_succ] at h; omega)
      simp; omega
end Go.Proofs.YtmeplgagpnligaaDoor

/- The library's tables: what the two texts of the program hold, as plain lists, and that both give the same entries. -/
namespace Go.Proofs.YtmeplgagpnligaaDoor
open Go.RowKit

def strOf : Operand → Option ByteArray
  | .const (.string s) => some s
  | _ => none
def opStrs : Op → List ByteArray
  | .build _ ps => ps.toList.filterMap fun x => strOf x.2
  | .call c => c.args.toList.filterMap strOf
  | _ => []
/-- the strings that the operations of a function name, a list an operation -/
def codeStrs : Code → List (List ByteArray)
  | .region _ ops _ => ops.toList.map fun o => opStrs o.op
  | .seq a b => codeStrs a ++ codeStrs b
  | .cond _ a b => codeStrs a ++ codeStrs b
  | .block _ b => codeStrs b
  | .loop b => codeStrs b
  | _ => []
def funStrs (f : Func) : List (List ByteArray) := match f.body with
  | some c => codeStrs c
  | none => []
/-- the program's table, one text -/
noncomputable def famT : ByteArray := (((funStrs Tryd.f16).filter fun l => l.length == 2).headD []).headD ⟨#[]⟩
/-- the reference's table -/
noncomputable def famR : List (List ByteArray) := (funStrs Tryd.f18).filter fun l => l.length == 4

structure Fm where
  name : List UInt8
  steps : List (List UInt8)
  thm : List UInt8
  wrong : List UInt8
def trimSemi (l : List UInt8) : List UInt8 := Lib.trimSuffix l [59]
noncomputable def linesP : List (List UInt8) := pieces [10] 100 famT.data.toList
def partsP (l : List UInt8) : List (List UInt8) := pieces [32, 124, 32] 100 l
def stepsP (l : List UInt8) : List (List UInt8) := pieces [59, 32] 100 (trimSemi l)
def part (l : List (List UInt8)) (k : Nat) : List UInt8 := (l[k]?).getD []
def fmOf (l : List UInt8) : Fm := ⟨part (partsP l) 0, stepsP (part (partsP l) 1), part (partsP l) 2, part (partsP l) 3⟩
noncomputable def fams : List Fm := linesP.map fmOf
structure Rf where
  name : List UInt8
  steps : List UInt8
  thm : List UInt8
  wrong : List UInt8
def strAt (l : List ByteArray) (k : Nat) : List UInt8 := match l[k]? with
  | some s => s.data.toList
  | none => []
def rfOf (l : List ByteArray) : Rf := ⟨strAt l 0, strAt l 1, strAt l 2, strAt l 3⟩
noncomputable def refs : List Rf := famR.map rfOf

/-- a letter or a digit -/
def letB (c : UInt8) : Bool := (decide (97 ≤ c.toNat) && decide (c.toNat ≤ 122)) || (decide (65 ≤ c.toNat) && decide (c.toNat ≤ 90)) || (decide (48 ≤ c.toNat) && decide (c.toNat ≤ 57))
def abc (c : UInt8) : Bool := decide (65 ≤ c.toNat) && decide (c.toNat ≤ 67)
def toAt (pm : List UInt8) (c : UInt8) : UInt8 := (pm[c.toNat - 65]?).getD 0
/-- the program's replacement: what is written so far, the word that is open -/
def flushP (pm word : List UInt8) : List UInt8 := match word with
  | [c] => if abc c then [toAt pm c] else [c]
  | _ => word
def replTo (pm : List UInt8) : List UInt8 → List UInt8 → List UInt8 → List UInt8
  | out, word, [] => out ++ flushP pm word
  | out, word, c :: r => if letB c then replTo pm out (word ++ [c]) r else replTo pm (out ++ flushP pm word ++ [c]) [] r
def replP (pm s : List UInt8) : List UInt8 := replTo pm [] [] s
/-- the reference's replacement: is the sign ahead a letter? -/
def renC (pm : List UInt8) (prev : Bool) (c : UInt8) (next : List UInt8) : UInt8 :=
  if (!prev && (match next with | [] => true | d :: _ => !letB d)) && abc c then toAt pm c else c
def renTo (pm : List UInt8) : Bool → List UInt8 → List UInt8
  | _, [] => []
  | prev, c :: r => renC pm prev c r :: renTo pm (letB c) r
/-- one statement a line: is the sign ahead a semicolon? -/
def linTo : Bool → List UInt8 → List UInt8
  | _, [] => []
  | prev, c :: r => if c == 32 && prev then linTo false r else if c == 59 then c :: 10 :: linTo true r else c :: linTo false r

def perm (v : Nat) : List UInt8 := match v with
  | 0 => [65, 66, 67]
  | 1 => [65, 67, 66]
  | 2 => [66, 65, 67]
  | 3 => [66, 67, 65]
  | 4 => [67, 65, 66]
  | _ => [67, 66, 65]
def stepLines (pm : List UInt8) : List (List UInt8) → List UInt8
  | [] => []
  | s :: r => replP pm s ++ [59, 10] ++ stepLines pm r
/-- "points A, B, C;" and its line's end -/
def headL : List UInt8 := [112, 111, 105, 110, 116, 115, 32, 65, 44, 32, 66, 44, 32, 67, 59, 10]
def proveL : List UInt8 := [112, 114, 111, 118, 101, 32]
def unkL : List UInt8 := [101, 113, 117, 105, 108, 97, 116, 101, 114, 97, 108]
/-- the two tables say the same at family k, variant v -/
def sameAt (f : Fm) (r : Rf) (v : Nat) : Bool :=
  stepLines (perm v) f.steps == linTo false (renTo (perm v) false r.steps) && (replP (perm v) f.thm == renTo (perm v) false r.thm && replP (perm v) f.wrong == renTo (perm v) false r.wrong)
def sameF (f : Fm) (r : Rf) : Bool := f.name == r.name && ((List.range 6).all fun v => sameAt f r v)
def sameAll : List Fm → List Rf → Bool
  | [], [] => true
  | f :: fs, r :: rs => sameF f r && sameAll fs rs
  | _, _ => false
def asciiL (l : List UInt8) : Bool := l.all fun c => decide (c.toNat < 128)
theorem lines_len : linesP.length = 24 := by decide +kernel
theorem parts_len : (linesP.all fun l => (partsP l).length == 4 && ((stepsP (part (partsP l) 1)).length ≤ 99)) = true := by decide +kernel
theorem same_all : sameAll fams refs = true := by decide +kernel
end Go.Proofs.YtmeplgagpnligaaDoor

/- A statement whose order is open, walked once: what only reads is taken as soon as it may come up; what is left comes up one by one. No function of the program in sight. -/
namespace Go.Proofs.YtmeplgagpnligaaDoor
open Go.RowKit

section
variable {P : Program} {ops : Array Oper} {Q : Exit → Act → World → Prop} {md : Region.Mode} {S : World → Prop}

/-- what has come up holds, with each operation, all that it waits for -/
def Closed (md : Region.Mode) (ops : Array Oper) (listed : Array Bool) : Prop :=
  ∀ k o, ops[k]? = some o → listed.getD k false = true → ∀ e ∈ o.after, Region.binds md e = true → listed.getD e.on false = true
theorem Closed.set_ {listed : Array Bool} {j : Nat} (h : Closed md ops listed) (hj : j ∈ Region.ready md ops listed) : Closed md ops (listed.setIfInBounds j true) := by
  intro k o ho hk e he hb
  obtain ⟨_, oj, hoj, hall⟩ := mem_ready.1 hj
  by_cases hkj : j = k
  · subst hkj
    rw [hoj] at ho
    injection ho with ho
    subst ho
    exact getD_set_true (hall e he hb)
  · rw [getD_set_ne false hkj] at hk
    exact getD_set_true (h k o ho hk e he hb)
/-- does operation j wait for i, over at most so many others? -/
def dep (md : Region.Mode) (ops : Array Oper) : Nat → Nat → Nat → Bool
  | 0, _, _ => false
  | n + 1, j, i => match ops[j]? with
    | none => false
    | some o => o.after.any fun e => Region.binds md e && (e.on == i || dep md ops n e.on i)
theorem dep_listed {listed : Array Bool} (h : Closed md ops listed) : ∀ (n j i : Nat) (oj : Oper), ops[j]? = some oj → dep md ops n j i = true →
    (∀ e ∈ oj.after, Region.binds md e = true → listed.getD e.on false = true) → listed.getD i false = true
  | 0, _, _, _, _, hd, _ => by simp [dep] at hd
  | n + 1, j, i, oj, hoj, hd, hall => by
    simp only [dep, hoj] at hd
    obtain ⟨e, he, hb⟩ := Array.any_eq_true'.1 hd
    simp only [Bool.and_eq_true, Bool.or_eq_true, beq_iff_eq] at hb
    rcases hb.2 with h1 | h1
    · rw [← h1]; exact hall e he hb.1
    · have hl := hall e he hb.1
      cases ho : ops[e.on]? with
      | none =>
        cases n with
        | zero => simp [dep] at h1
        | succ n => simp [dep, ho] at h1
      | some oe => exact dep_listed h n e.on i oe ho h1 (fun e' he' hb' => h e.on oe ho hl e' he' hb')

/-- whatever order is picked from here on; behind each operation that is not of the tail S holds -/
def wpAnyX (P : Program) (md : Region.Mode) (ops : Array Oper) (Q : Exit → Act → World → Prop) (S : World → Prop) (tl : Nat → Bool) : Nat → Array Bool → Act → World → Prop
  | 0, listed, a, w => Region.ready md ops listed = [] ∧ Q .normal a w
  | fuel + 1, listed, a, w =>
    (Region.ready md ops listed = [] → Q .normal a w) ∧
    ∀ i ∈ Region.ready md ops listed, wpOp P ops Q i (fun a' w' => (tl i = false → S w') ∧ wpAnyX P md ops Q S tl fuel (listed.setIfInBounds i true) a' w') a w
theorem wpAny_of_X {tl : Nat → Bool} : ∀ (fuel : Nat) (listed : Array Bool) (a : Act) (w : World), wpAnyX P md ops Q S tl fuel listed a w → wpAny P md ops Q fuel listed a w
  | 0, _, _, _, h => h
  | fuel + 1, _, _, _, h => ⟨h.1, fun i hi => wpOp_mono (fun a' w' h' => wpAny_of_X fuel _ a' w' h'.2) (h.2 i hi)⟩

theorem wpAnyX_first {tl : Nat → Bool} {i : Nat} {oi : Oper} {v : Value} (hi : ops[i]? = some oi) (hti : tl i = false) (hsel : ∀ (j : Nat) (o : Oper) cs b, ops[j]? = some o → o.op ≠ .select cs b)
    (hQ : ∀ c a w, Q (.panic c) (a.put oi.dst v) w → Q (.panic c) a w) :
    ∀ (fuel : Nat) (listed : Array Bool) (a : Act) (w : World),
      (∀ j oj, ops[j]? = some oj → j ≠ i → listed.getD j true = false → (∀ e ∈ oj.after, Region.binds md e = true → e.on ≠ i) → oi.apart ops oj = true) →
      (∀ j, tl j = true → dep md ops ops.size j i = true) → Closed md ops listed →
      i ∈ Region.ready md ops listed → YieldsIf P ops S oi v a → S w →
      wpAnyX P md ops Q S tl fuel (listed.setIfInBounds i true) (a.put oi.dst v) w → wpAnyX P md ops Q S tl (fuel + 1) listed a w := by
  intro fuel
  induction fuel with
  | zero =>
    intro listed a w _ _ _ hr hy hS H
    refine ⟨fun h => (by rw [h] at hr; cases hr), fun j hj => ?_⟩
    by_cases hji : j = i
    · subst hji; exact hy.wpOp hi hS ⟨fun _ => hS, H⟩
    · have := ready_mono hj hji
      rw [H.1] at this
      cases this
  | succ fuel ih =>
    intro listed a w hfree htl hcl hr hy hS H
    refine ⟨fun h => (by rw [h] at hr; cases hr), fun j hj => ?_⟩
    by_cases hji : j = i
    · subst hji; exact hy.wpOp hi hS ⟨fun _ => hS, H⟩
    · have h1 := H.2 j (ready_mono hj hji)
      obtain ⟨hjun, oj, hoj, hall⟩ := mem_ready.1 hj
      have hiun := (mem_ready.1 hr).1
      have hnl : listed.getD i false = false := by
        rcases Nat.lt_or_ge i listed.size with h' | h'
        · simp [h'] at hiun ⊢; exact hiun
        · simp [Array.getElem?_eq_none h']
      have htj : tl j = false := by
        cases htj : tl j with
        | false => rfl
        | true =>
          have := dep_listed hcl ops.size j i oj hoj (htl j htj) hall
          rw [hnl] at this; cases this
      have hnot : ∀ e ∈ oj.after, Region.binds md e = true → e.on ≠ i := fun e he hb heq => by
        have h1 := hall e he hb
        rw [heq, hnl] at h1; cases h1
      have h2 := wpOp_putIf hoj (hfree j oj hoj hji hjun hnot) (fun cs b => hsel i oi cs b hi) (fun cs b => hsel j oj cs b hoj) hQ hy h1
      have hfree' : ∀ k ok, ops[k]? = some ok → k ≠ i → (listed.setIfInBounds j true).getD k true = false →
          (∀ e ∈ ok.after, Region.binds md e = true → e.on ≠ i) → oi.apart ops ok = true := fun k ok hk hki hun hno => by
        refine hfree k ok hk hki ?_ hno
        by_cases hjk : j = k
        · subst hjk; exact hjun
        · rw [getD_set_ne true hjk] at hun; exact hun
      refine wpOp_mono (fun a' w' h3 => ⟨h3.2.1, ih (listed.setIfInBounds j true) a' w' hfree' htl (hcl.set_ hj) (ready_mono hr (Ne.symm hji)) h3.1 (h3.2.1 htj) ?_⟩) h2
      rw [Array.setIfInBounds_comm _ _ hji]
      exact h3.2.2

/-- the same for an operation that yields in whatever world: nothing is asked of the tail -/
theorem wpAnyX_pure {tl : Nat → Bool} {i : Nat} {oi : Oper} {v : Value} (hi : ops[i]? = some oi) (hti : tl i = true) (hsel : ∀ (j : Nat) (o : Oper) cs b, ops[j]? = some o → o.op ≠ .select cs b)
    (hQ : ∀ c a w, Q (.panic c) (a.put oi.dst v) w → Q (.panic c) a w) :
    ∀ (fuel : Nat) (listed : Array Bool) (a : Act) (w : World),
      (∀ j oj, ops[j]? = some oj → j ≠ i → listed.getD j true = false → (∀ e ∈ oj.after, Region.binds md e = true → e.on ≠ i) → oi.apart ops oj = true) →
      i ∈ Region.ready md ops listed → Yields P ops oi v a →
      wpAnyX P md ops Q S tl fuel (listed.setIfInBounds i true) (a.put oi.dst v) w → wpAnyX P md ops Q S tl (fuel + 1) listed a w := by
  intro fuel
  induction fuel with
  | zero =>
    intro listed a w _ hr hy H
    refine ⟨fun h => (by rw [h] at hr; cases hr), fun j hj => ?_⟩
    by_cases hji : j = i
    · subst hji; exact hy.wpOp hi ⟨(fun h => by rw [hti] at h; cases h), H⟩
    · have := ready_mono hj hji
      rw [H.1] at this
      cases this
  | succ fuel ih =>
    intro listed a w hfree hr hy H
    refine ⟨fun h => (by rw [h] at hr; cases hr), fun j hj => ?_⟩
    by_cases hji : j = i
    · subst hji; exact hy.wpOp hi ⟨(fun h => by rw [hti] at h; cases h), H⟩
    · have h1 := H.2 j (ready_mono hj hji)
      obtain ⟨hjun, oj, hoj, hall⟩ := mem_ready.1 hj
      have hiun := (mem_ready.1 hr).1
      have hnl : listed.getD i false = false := by
        rcases Nat.lt_or_ge i listed.size with h' | h'
        · simp [h'] at hiun ⊢; exact hiun
        · simp [Array.getElem?_eq_none h']
      have hnot : ∀ e ∈ oj.after, Region.binds md e = true → e.on ≠ i := fun e he hb heq => by
        have h1 := hall e he hb
        rw [heq, hnl] at h1; cases h1
      have h2 := wpOp_put hoj (hfree j oj hoj hji hjun hnot) (fun cs b => hsel i oi cs b hi) (fun cs b => hsel j oj cs b hoj) hQ hy h1
      have hfree' : ∀ k ok, ops[k]? = some ok → k ≠ i → (listed.setIfInBounds j true).getD k true = false →
          (∀ e ∈ ok.after, Region.binds md e = true → e.on ≠ i) → oi.apart ops ok = true := fun k ok hk hki hun hno => by
        refine hfree k ok hk hki ?_ hno
        by_cases hjk : j = k
        · subst hjk; exact hjun
        · rw [getD_set_ne true hjk] at hun; exact hun
      refine wpOp_mono (fun a' w' h3 => ⟨h3.2.1, ih (listed.setIfInBounds j true) a' w' hfree' (ready_mono hr (Ne.symm hji)) h3.1 ?_⟩) h2
      rw [Array.setIfInBounds_comm _ _ hji]
      exact h3.2.2

/-- how an operation is taken: read while S holds · any other while S holds · any other of the tail, where S is asked no more · of the tail, and the same in whatever world -/
inductive Mode4 where
  | q | l | t | p
  deriving DecidableEq

def Mode4.tail : Mode4 → Bool
  | .t => true
  | .p => true
  | _ => false
/-- which numbers are of the tail -/
def tailOf (l : List (Nat × Mode4)) (i : Nat) : Bool := l.any fun x => x.1 == i && x.2.tail

/-- may the operations come up in this order? -/
def mixB (md : Region.Mode) (ops : Array Oper) : List (Nat × Mode4) → Array Bool → Bool
  | [], listed => (Region.ready md ops listed).isEmpty
  | (i, .q) :: r, listed => Region.free md ops listed i && ((Region.ready md ops listed).contains i && mixB md ops r (listed.setIfInBounds i true))
  | (i, .p) :: r, listed => Region.free md ops listed i && ((Region.ready md ops listed).contains i && mixB md ops r (listed.setIfInBounds i true))
  | (i, _) :: r, listed => (Region.ready md ops listed == [i]) && mixB md ops r (listed.setIfInBounds i true)
/-- no number twice; what reads comes ahead of the tail; what is of the tail waits for all that reads -/
def orderB (md : Region.Mode) (ops : Array Oper) (l : List (Nat × Mode4)) : Bool :=
  decide (l.map (·.1)).Nodup && l.all (fun x => match x.2 with
    | .q => l.all fun y => !y.2.tail || dep md ops ops.size y.1 x.1
    | _ => true)
/-- behind the first of the tail nothing reads any more -/
def lateB : List (Nat × Mode4) → Bool → Bool
  | [], _ => true
  | (_, m) :: r, late => (!(late && (m == .q || m == .l))) && lateB r (late || m.tail)

/-- an operation by its number, so that it is read off the list as it is written -/
def opAt (ops : Array Oper) (i : Nat) : Option Oper := (ops.toList.drop i).head?
theorem opAt_eq (ops : Array Oper) (i : Nat) : opAt ops i = ops[i]? := by simp [opAt]
/-- the walk in that order -/
def wpMix (P : Program) (ops : Array Oper) (Q : Exit → Act → World → Prop) (S : World → Prop) : List (Nat × Mode4) → Act → World → Prop
  | [], a, w => Q .normal a w
  | (i, m) :: r, a, w => match opAt ops i with
    | none => False
    | some o => if Region.wanted o (yielded ops a.tmps) = true then
        (match m with
          | .q => ∃ v, (∀ w', S w' → (execOp a.eval o).run P w' = .ok (.value v) w') ∧ wpMix P ops Q S r (a.put o.dst v) w
          | .p => ∃ v, (∀ w', (execOp a.eval o).run P w' = .ok (.value v) w') ∧ wpMix P ops Q S r (a.put o.dst v) w
          | .l => o.wp P a w (fun a' w' => S w' ∧ wpMix P ops Q S r a' w') Q
          | .t => o.wp P a w (fun a' w' => wpMix P ops Q S r a' w') Q)
      else wpMix P ops Q S r (a.put o.dst undef) w

theorem nodup_snd {l : List (Nat × Mode4)} : ∀ {i : Nat} {m m' : Mode4}, (l.map (·.1)).Nodup → (i, m) ∈ l → (i, m') ∈ l → m = m' := by
  induction l with
  | nil => intro i m m' _ h; cases h
  | cons y l ih =>
    intro i m m' hn h h'
    simp only [List.map_cons, List.nodup_cons] at hn
    rcases List.mem_cons.1 h with h1 | h1 <;> rcases List.mem_cons.1 h' with h2 | h2
    · rw [← h1] at h2; injection h2 with _ e; exact e.symm
    · subst h1; exact absurd (List.mem_map.2 ⟨_, h2, rfl⟩) hn.1
    · subst h2; exact absurd (List.mem_map.2 ⟨_, h1, rfl⟩) hn.1
    · exact ih hn.2 h1 h2
theorem tailOf_mem {l : List (Nat × Mode4)} {i : Nat} {m : Mode4} (hn : (l.map (·.1)).Nodup) (h : (i, m) ∈ l) : tailOf l i = m.tail := by
  unfold tailOf
  rw [Bool.eq_iff_iff, List.any_eq_true]
  constructor
  · rintro ⟨⟨j, m'⟩, hj, hb⟩
    simp only [Bool.and_eq_true, beq_iff_eq] at hb
    obtain ⟨rfl, hb⟩ := hb
    have : m' = m := nodup_snd hn hj h
    rw [← this]; exact hb
  · intro hb
    exact ⟨(i, m), h, by simp [hb]⟩
theorem mem_of_tail {l : List (Nat × Mode4)} {j : Nat} (h : tailOf l j = true) : ∃ m, (j, m) ∈ l ∧ m.tail = true := by
  unfold tailOf at h
  obtain ⟨⟨i, m⟩, hm, hb⟩ := List.any_eq_true.1 h
  simp only [Bool.and_eq_true, beq_iff_eq] at hb
  obtain ⟨rfl, hb⟩ := hb
  exact ⟨m, hm, hb⟩

theorem wpMix_any (hs : Region.noSelect ops = true) (hQ : ∀ d v c a w, Q (.panic c) (a.put d v) w → Q (.panic c) a w) (L : List (Nat × Mode4)) (hL : orderB md ops L = true) :
    ∀ (l : List (Nat × Mode4)) (listed : Array Bool) (a : Act) (w : World) (late : Bool), (∀ x ∈ l, x ∈ L) → mixB md ops l listed = true → lateB l late = true → Closed md ops listed → (late = false → S w) → wpMix P ops Q S l a w →
      wpAnyX P md ops Q S (tailOf L) l.length listed a w
  | [], listed, a, w, _, _, hB, _, _, _, h => by
    unfold wpAnyX
    exact ⟨by simpa [mixB] using hB, h⟩
  | (i, m) :: r, listed, a, w, late, hsub, hB, hlate, hcl, hS, h => by
    have hL' := hL
    simp only [orderB, Bool.and_eq_true, decide_eq_true_eq, List.all_eq_true] at hL'
    have hti := tailOf_mem hL'.1 (hsub (i, m) (by simp))
    have hsub' : ∀ x ∈ r, x ∈ L := fun x hx => hsub x (by simp [hx])
    simp only [lateB, Bool.and_eq_true] at hlate
    unfold wpMix at h
    rw [opAt_eq] at h
    cases ho : ops[i]? with
    | none => rw [ho] at h; exact h.elim
    | some o =>
      rw [ho] at h
      simp only at h
      cases m with
      | q =>
        simp only [mixB, Bool.and_eq_true] at hB
        obtain ⟨h1, h2, h3⟩ := hB
        have hnl : late = false := by
          cases late with
          | false => rfl
          | true => simp at hlate
        have h2' : i ∈ Region.ready md ops listed := by simpa using h2
        have htl : ∀ j, tailOf L j = true → dep md ops ops.size j i = true := fun j hj => by
          obtain ⟨mj, hmj, htj⟩ := mem_of_tail hj
          have := hL'.2 (i, .q) (hsub _ (by simp))
          simp only [List.all_eq_true] at this
          have := this (j, mj) hmj
          simpa [htj] using this
        have hlr : lateB r late = true := by simpa [Mode4.tail] using hlate.2
        by_cases hw : Region.wanted o (yielded ops a.tmps) = true
        · rw [if_pos hw] at h
          obtain ⟨v, hv, hn⟩ := h
          exact wpAnyX_first ho hti (Region.noSelect_spec hs) (fun c a w => hQ _ _ c a w) _ _ _ _ (Region.free_spec ho h1) htl hcl h2' (.inl ⟨hw, hv⟩) (hS hnl) (wpMix_any hs hQ L hL r _ _ _ late hsub' h3 hlr (hcl.set_ h2') hS hn)
        · rw [if_neg hw] at h
          exact wpAnyX_first ho hti (Region.noSelect_spec hs) (fun c a w => hQ _ _ c a w) _ _ _ _ (Region.free_spec ho h1) htl hcl h2' (.inr ⟨by simpa using hw, rfl⟩) (hS hnl) (wpMix_any hs hQ L hL r _ _ _ late hsub' h3 hlr (hcl.set_ h2') hS h)
      | p =>
        simp only [mixB, Bool.and_eq_true] at hB
        obtain ⟨h1, h2, h3⟩ := hB
        have h2' : i ∈ Region.ready md ops listed := by simpa using h2
        have hlr : lateB r true = true := by simpa [Mode4.tail] using hlate.2
        by_cases hw : Region.wanted o (yielded ops a.tmps) = true
        · rw [if_pos hw] at h
          obtain ⟨v, hv, hn⟩ := h
          exact wpAnyX_pure ho hti (Region.noSelect_spec hs) (fun c a w => hQ _ _ c a w) _ _ _ _ (Region.free_spec ho h1) h2' (.inl ⟨hw, hv⟩) (wpMix_any hs hQ L hL r _ _ _ true hsub' h3 hlr (hcl.set_ h2') (fun h => by cases h) hn)
        · rw [if_neg hw] at h
          exact wpAnyX_pure ho hti (Region.noSelect_spec hs) (fun c a w => hQ _ _ c a w) _ _ _ _ (Region.free_spec ho h1) h2' (.inr ⟨by simpa using hw, rfl⟩) (wpMix_any hs hQ L hL r _ _ _ true hsub' h3 hlr (hcl.set_ h2') (fun h => by cases h) h)
      | l =>
        simp only [mixB, Bool.and_eq_true, beq_iff_eq] at hB
        obtain ⟨h1, h3⟩ := hB
        have h2' : i ∈ Region.ready md ops listed := by rw [h1]; simp
        have hlr : lateB r late = true := by simpa [Mode4.tail] using hlate.2
        unfold wpAnyX
        refine ⟨(fun h0 => by rw [h1] at h0; cases h0), fun j hj => ?_⟩
        obtain rfl : j = i := by rw [h1] at hj; simpa using hj
        unfold wpOp
        rw [ho]
        simp only
        by_cases hw : Region.wanted o (yielded ops a.tmps) = true
        · rw [if_pos hw] at h ⊢
          exact .inl (Oper.wp_mono (fun a' w' hh => ⟨fun _ => hh.1, wpMix_any hs hQ L hL r _ a' w' late hsub' h3 hlr (hcl.set_ h2') (fun _ => hh.1) hh.2⟩) h)
        · rw [if_neg hw] at h ⊢
          cases late with
          | false => exact ⟨fun _ => hS rfl, wpMix_any hs hQ L hL r _ _ _ false hsub' h3 hlr (hcl.set_ h2') hS h⟩
          | true => simp at hlate
      | t =>
        simp only [mixB, Bool.and_eq_true, beq_iff_eq] at hB
        obtain ⟨h1, h3⟩ := hB
        have h2' : i ∈ Region.ready md ops listed := by rw [h1]; simp
        have hlr : lateB r true = true := by simpa [Mode4.tail] using hlate.2
        unfold wpAnyX
        refine ⟨(fun h0 => by rw [h1] at h0; cases h0), fun j hj => ?_⟩
        obtain rfl : j = i := by rw [h1] at hj; simpa using hj
        unfold wpOp
        rw [ho]
        simp only
        have hno : tailOf L j = false → False := fun h => by rw [hti] at h; cases h
        by_cases hw : Region.wanted o (yielded ops a.tmps) = true
        · rw [if_pos hw] at h ⊢
          exact .inl (Oper.wp_mono (fun a' w' hh => ⟨fun h => (hno h).elim, wpMix_any hs hQ L hL r _ a' w' true hsub' h3 hlr (hcl.set_ h2') (fun h => by cases h) hh⟩) h)
        · rw [if_neg hw] at h ⊢
          exact ⟨fun h => (hno h).elim, wpMix_any hs hQ L hL r _ _ _ true hsub' h3 hlr (hcl.set_ h2') (fun h => by cases h) h⟩

-- a goal with this head is never laid open by the way
attribute [irreducible] wpMix

/-- THE REGION: 'l' is the order; S is what every operation ahead of the tail leaves as it is. -/
theorem wp_region_mix {id : Nat} {a : Act} {w : World} (l : List (Nat × Mode4)) (hm : P.follows .mixedOrders = true) (hs : Region.noSelect ops = true)
    (hB : (l.length == ops.size && (orderB .any ops l && (lateB l false && mixB .any ops l (Array.replicate ops.size false)))) = true)
    (hQ : ∀ d v c a w, Q (.panic c) (a.put d v) w → Q (.panic c) a w) (hS : S w.drew) (h : wpMix P ops Q S l a w.drew) : (Code.region id ops true).wp P Q a w := by
  simp only [Bool.and_eq_true, beq_iff_eq] at hB
  refine wp_region_any hm (wpAny_of_X (S := S) (tl := tailOf l) _ _ _ _ ?_)
  have hc : Closed .any ops (Array.replicate ops.size false) := fun k o _ hk => by
    exfalso
    rcases Nat.lt_or_ge k ops.size with h' | h'
    · simp [h'] at hk
    · simp [Nat.not_lt.2 h'] at hk
  have := wpMix_any (md := .any) hs hQ l hB.2.1 l _ a w.drew false (fun _ h => h) hB.2.2.2 hB.2.2.1 hc (fun _ => hS) h
  rwa [hB.1] at this

theorem wpMix_nil {a : Act} {w : World} (h : Q .normal a w) : wpMix P ops Q S [] a w := by unfold wpMix; exact h
/-- an operation whose guard is not met -/
theorem wpMix_skip {i : Nat} {m : Mode4} {r : List (Nat × Mode4)} {o : Oper} {a : Act} {w : World} (ho : opAt ops i = some o) (hw : Region.wanted o (yielded ops a.tmps) = false)
    (h : ∀ K : Act → World → Prop, (∀ a' w', wpMix P ops Q S r a' w' → K a' w') → K (a.put o.dst undef) w) : wpMix P ops Q S ((i, m) :: r) a w := by
  unfold wpMix
  rw [ho]
  simp only
  rw [if_neg (by simp [hw])]
  exact h _ (fun _ _ h => h)
/-- an operation that only reads -/
theorem wpMix_q {i : Nat} {r : List (Nat × Mode4)} {o : Oper} {a : Act} {w : World} (ho : opAt ops i = some o) (hw : Region.wanted o (yielded ops a.tmps) = true)
    (h : ∀ K : Act → World → Prop, (∀ a' w', wpMix P ops Q S r a' w' → K a' w') → ∃ v, (∀ w', S w' → (execOp a.eval o).run P w' = .ok (.value v) w') ∧ K (a.put o.dst v) w) :
    wpMix P ops Q S ((i, .q) :: r) a w := by
  unfold wpMix
  rw [ho]
  simp only
  rw [if_pos hw]
  exact h _ (fun _ _ h => h)
/-- an operation of the tail that is the same in whatever world -/
theorem wpMix_p {i : Nat} {r : List (Nat × Mode4)} {o : Oper} {a : Act} {w : World} (ho : opAt ops i = some o) (hw : Region.wanted o (yielded ops a.tmps) = true)
    (h : ∀ K : Act → World → Prop, (∀ a' w', wpMix P ops Q S r a' w' → K a' w') → ∃ v, (∀ w', (execOp a.eval o).run P w' = .ok (.value v) w') ∧ K (a.put o.dst v) w) :
    wpMix P ops Q S ((i, .p) :: r) a w := by
  unfold wpMix
  rw [ho]
  simp only
  rw [if_pos hw]
  exact h _ (fun _ _ h => h)
/-- any other operation -/
theorem wpMix_l {i : Nat} {r : List (Nat × Mode4)} {o : Oper} {a : Act} {w : World} (ho : opAt ops i = some o) (hw : Region.wanted o (yielded ops a.tmps) = true)
    (h : ∀ K : Act → World → Prop, Hid (∀ a' w', S w' → (S w' → wpMix P ops Q S r a' w') → K a' w') → o.wp P a w K Q) :
    wpMix P ops Q S ((i, .l) :: r) a w := by
  unfold wpMix
  rw [ho]
  simp only
  rw [if_pos hw]
  exact h _ (fun _ _ h1 h2 => ⟨h1, h2 h1⟩)
/-- any other operation of the tail -/
theorem wpMix_t {i : Nat} {r : List (Nat × Mode4)} {o : Oper} {a : Act} {w : World} (ho : opAt ops i = some o) (hw : Region.wanted o (yielded ops a.tmps) = true)
    (h : ∀ K : Act → World → Prop, Hid (∀ a' w', wpMix P ops Q S r a' w' → K a' w') → o.wp P a w K Q) :
    wpMix P ops Q S ((i, .t) :: r) a w := by
  unfold wpMix
  rw [ho]
  simp only
  rw [if_pos hw]
  exact h _ (fun _ _ h => h)
end

end Go.Proofs.YtmeplgagpnligaaDoor

/- What a call has made, or what came in, keeps its reading while the caller writes cells of its own. No function of the program in sight. -/
namespace Go.Proofs.YtmeplgagpnligaaDoor
open Go.RowKit

/-- the cells of w in the blocks from B on and below T are those of V -/
def NewIn (B T : Nat) (w V : World) : Prop := ∀ p v, B ≤ p.block → p.block < T → w.cell? p = some v → V.cell? p = some v
/-- R holds in every world with these cells -/
def Kp (R : World → Prop) (B T : Nat) (w : World) : Prop := ∀ V, NewIn B T w V → R V
section
variable {R R' : World → Prop} {B T : Nat} {w w' : World}
theorem Kp.now (h : Kp R B T w) : R w := h w fun _ _ _ _ h => h
theorem Kp.imp (h : Kp R B T w) (e : ∀ V, R V → R' V) : Kp R' B T w := fun V hV => e V (h V hV)
theorem Kp.alloc (h : Kp R B T w) {o : Obj} : Kp R B T (w.alloc o) := fun V hV => h V fun p v h1 h2 h3 => hV p v h1 h2 ((World.cell?_alloc_lt w o p (World.block_lt_of_cell? w p h3)).trans h3)
theorem Kp.drew (h : Kp R B T w) : Kp R B T w.drew := h
theorem Kp.drewN (h : Kp R B T w) (n : Nat) : Kp R B T (w.drewN n) := h
theorem Kp.setc {g i : Nat} {u : Value} (hg : g < B ∨ T ≤ g) (h : Kp R B T w) : Kp R B T (w.setCell ⟨g, i, none⟩ u) := fun V hV => h V fun p v h1 h2 h3 =>
  hV p v h1 h2 ((World.cell?_setCell_other w ⟨g, i, none⟩ p u (fun e => by subst e; simp at h1 h2; omega)).trans h3)
theorem Kp.call (h : Kp R B T w) (hb : Below w.heap.size w w') : Kp R B T w' := fun V hV => h V fun p v h1 h2 h3 => hV p v h1 h2 ((hb.cell (World.block_lt_of_cell? w p h3)).trans h3)
/-- what a call has made -/
theorem Kp.made (h : ∀ V, New B w V → R V) : Kp R B w.heap.size w := fun V hV => h V fun p v h1 h2 => hV p v h1 (World.block_lt_of_cell? w p h2) h2
/-- what came in -/
theorem Kp.arg (hR : ∀ V, Ext w V → R V) : Kp R 0 w.heap.size w := fun V hV => hR V fun p v h => hV p v (Nat.zero_le _) (World.block_lt_of_cell? w p h) h
/-- handed back by the caller itself -/
theorem Kp.fin (h : Kp R B T w) {B' : Nat} (hB : B' ≤ B) : ∀ V, New B' w V → R V := fun V hV => h V fun p v h1 _ h3 => hV p v (Nat.le_trans hB h1) h3
end
section
variable {w w' : World} {g g2 i : Nat} {t : TypeId} {cs cs' : Array Value} {u : Value}
theorem Blk.newAt (h : g = w.heap.size) : Blk (w.alloc (.cells cs t)) g t cs := by subst h; exact Blk.new w t cs
theorem Blk.farAt (hg : g ≠ g2) (h : Blk w g t cs) : Blk (w.setCell ⟨g2, i, none⟩ u) g t cs := h.far (p := ⟨g2, i, none⟩) hg u
theorem Blk.setb (h : Blk w g t cs') (e : cs'.setIfInBounds i u = cs) : Blk (w.setCell ⟨g, i, none⟩ u) g t cs := e ▸ h.set_ i u
end
/-- the world in front of a call under one name -/
theorem calls_gen {P : Program} {f : Nat} {args : Array Value} {W : World} {Q : Ending → World → Prop} (R : World → Prop) (hR : R W) (h : ∀ W', R W' → Calls P f args W' Q) : Calls P f args W Q := h W hR
/-- the world at the end under one name -/
theorem world_gen {G : World → Prop} {W : World} (R : World → Prop) (hR : R W) (h : ∀ W', R W' → G W') : G W := h W hR
end Go.Proofs.YtmeplgagpnligaaDoor
