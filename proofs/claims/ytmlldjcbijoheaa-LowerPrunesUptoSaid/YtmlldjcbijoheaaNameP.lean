/- What a name is. No function of the program in sight. -/
import Derived.Test.YtmlldjcbijoheaaIter
namespace Go.Proofs.Ytmlldjcbijoheaa
open Go.RowKit

def letB (c : Int) : Bool := decide (65 ≤ c ∧ c ≤ 90 ∨ 97 ≤ c ∧ c ≤ 122)
def digB (c : Int) : Bool := decide (48 ≤ c ∧ c ≤ 57)
/-- the keywords: angle, apex, bisector, center, circle, circum, collinear, common, concyclic, congruent, cross, cut, divide, foot, line, meet, midpoint, mirror, on, other, parallel, perpendicular, points, prove, ratio, reflect, same, shift, turn -/
def keywords : List ByteArray := [⟨#[97, 110, 103, 108, 101]⟩,
  ⟨#[97, 112, 101, 120]⟩,
  ⟨#[98, 105, 115, 101, 99, 116, 111, 114]⟩,
  ⟨#[99, 101, 110, 116, 101, 114]⟩,
  ⟨#[99, 105, 114, 99, 108, 101]⟩,
  ⟨#[99, 105, 114, 99, 117, 109]⟩,
  ⟨#[99, 111, 108, 108, 105, 110, 101, 97, 114]⟩,
  ⟨#[99, 111, 109, 109, 111, 110]⟩,
  ⟨#[99, 111, 110, 99, 121, 99, 108, 105, 99]⟩,
  ⟨#[99, 111, 110, 103, 114, 117, 101, 110, 116]⟩,
  ⟨#[99, 114, 111, 115, 115]⟩,
  ⟨#[99, 117, 116]⟩,
  ⟨#[100, 105, 118, 105, 100, 101]⟩,
  ⟨#[102, 111, 111, 116]⟩,
  ⟨#[108, 105, 110, 101]⟩,
  ⟨#[109, 101, 101, 116]⟩,
  ⟨#[109, 105, 100, 112, 111, 105, 110, 116]⟩,
  ⟨#[109, 105, 114, 114, 111, 114]⟩,
  ⟨#[111, 110]⟩,
  ⟨#[111, 116, 104, 101, 114]⟩,
  ⟨#[112, 97, 114, 97, 108, 108, 101, 108]⟩,
  ⟨#[112, 101, 114, 112, 101, 110, 100, 105, 99, 117, 108, 97, 114]⟩,
  ⟨#[112, 111, 105, 110, 116, 115]⟩,
  ⟨#[112, 114, 111, 118, 101]⟩,
  ⟨#[114, 97, 116, 105, 111]⟩,
  ⟨#[114, 101, 102, 108, 101, 99, 116]⟩,
  ⟨#[115, 97, 109, 101]⟩,
  ⟨#[115, 104, 105, 102, 116]⟩,
  ⟨#[116, 117, 114, 110]⟩]
def wordB (c : UInt8) : Bool := letB c.toNat || digB c.toNat
/-- does a string begin with a letter? -/
def headB (s : ByteArray) : Bool := match s.data.toList with
  | [] => false
  | c :: _ => letB c.toNat
def keyB (s : ByteArray) : Bool := keywords.any fun k => decide (s = k)
def isNameB (s : ByteArray) : Bool := decide (s.size ≤ 20) && headB s && s.data.toList.all wordB && !keyB s

theorem keywords_len : keywords.length = 29 := rfl
theorem headB_cons {s : ByteArray} (h : 0 < s.size) : headB s = letB ((s[0]'h).toNat : Nat) := by
  unfold headB
  have h' : 0 < s.data.toList.length := by simpa using h
  have e : s.data.toList = s.data.toList[0] :: s.data.toList.drop 1 := by
    have := List.drop_eq_getElem_cons (l := s.data.toList) (i := 0) h'
    simpa using this
  rw [e]
  rfl
theorem headB_nil {s : ByteArray} (h : s.size = 0) : headB s = false := by
  unfold headB
  have : s.data.toList = [] := List.eq_nil_of_length_eq_zero (by simpa using h)
  rw [this]
theorem size_zero {s : ByteArray} : s.size = 0 ↔ s = ⟨#[]⟩ := by
  constructor
  · intro h
    cases s with
    | mk d => congr 1; exact Array.eq_empty_of_size_eq_zero h
  · intro h; subst h; rfl
theorem get_list {s : ByteArray} {k : Nat} (h : k < s.size) : s.data.toList[k]? = some (s[k]'h) := by simp [h]; rfl
theorem isNameB_empty : isNameB ⟨#[]⟩ = false := by decide

/-- one more rune of a string that is ranged over, whatever it is -/
theorem run_next_any {P : Program} (w : World) (g : Nat) (s : ByteArray) (pos : Nat) (hi : Itr w g s pos) (h : pos < s.size) :
    ∃ (r : Int) (n : Nat), (∀ ty : TypeId, (Instr.next (.pointer (some ⟨g, 0, none⟩)) true ty).run P w = .ok (.tuple #[.bool true, .int .i64 pos, .int .i32 r]) (setItr w g s (pos + n))) ∧ ((s[pos]'h).toNat < 128 → n = 1) := by
  by_cases ha : (s[pos]'h).toNat < 128
  · exact ⟨_, 1, fun ty => run_next_at w g s pos ty hi h ha, fun _ => rfl⟩
  · unfold Itr at hi
    refine ⟨((Utf8.decode s pos).1 : Nat), (Utf8.decode s pos).2, fun ty => ?_, fun h => absurd h ha⟩
    simp only [Instr.next, getObj, setObj, Sem.run_bind, Sem.run, hi, Result.andThen, h, if_true]
    simp [goInt, setItr]
end Go.Proofs.Ytmlldjcbijoheaa
