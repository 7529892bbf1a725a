/- Which points are needed, qs lists; rows of booleans in memory. -/
import Derived.Test.YtmlldjcbijoheaaFigP
import Derived.Test.YtmlldjcbijoheaaNatW
namespace Go.Proofs.Ytmlldjcbijoheaa
open Go.RowKit

/-- points marked at the start -/
def mark0 (l : List Bool) (ps : List Int) : List Bool := ps.foldl (fun l (p : Int) => if 0 ≤ p ∧ p < (l.length : Int) then l.set p.toNat true else l) l
/-- the arguments of a needed step marked -/
def markArgs (l : List Bool) (qs : List Int) : List Bool := qs.foldl (fun l (a : Int) => l.set a.toNat true) l
def markStep (steps : List Step) (k : Nat) (l : List Bool) : List Bool := if l.getD k false = true then markArgs l ((steps[k]?.map Step.args).getD []) else l
/-- the steps k - 1, .., 0 gone through -/
def markDown (steps : List Step) : Nat → List Bool → List Bool
  | 0, l => l
  | k + 1, l => markDown steps k (markStep steps k l)
def trues (l : List Bool) : Nat → List Int
  | 0 => []
  | k + 1 => trues l k ++ if l.getD k false = true then [(k : Int)] else []
def marked (steps : List Step) (ps : List Int) : List Bool := markDown steps steps.length (mark0 (List.replicate steps.length false) ps)
def needs (steps : List Step) (ps : List Int) : List Int := trues (marked steps ps) steps.length

theorem mark0_snoc (l : List Bool) (ps : List Int) (p : Int) : mark0 l (ps ++ [p]) = if 0 ≤ p ∧ p < ((mark0 l ps).length : Int) then (mark0 l ps).set p.toNat true else mark0 l ps := by
  unfold mark0; rw [List.foldl_append]; rfl
theorem mark0_len (l : List Bool) (ps : List Int) : (mark0 l ps).length = l.length := by
  induction ps generalizing l with
  | nil => rfl
  | cons p ps ih =>
    unfold mark0 at ih ⊢
    rw [List.foldl_cons, ih]
    split <;> simp
theorem markArgs_snoc (l : List Bool) (qs : List Int) (a : Int) : markArgs l (qs ++ [a]) = (markArgs l qs).set a.toNat true := by simp [markArgs, List.foldl_append]
theorem markArgs_len (l : List Bool) (qs : List Int) : (markArgs l qs).length = l.length := by
  induction qs generalizing l with
  | nil => rfl
  | cons a qs ih => unfold markArgs at ih ⊢; rw [List.foldl_cons, ih]; simp
theorem markArgs_far (l : List Bool) (qs : List Int) (k : Nat) (h : ∀ a ∈ qs, 0 ≤ a ∧ a < k) : (markArgs l qs)[k]? = l[k]? := by
  induction qs generalizing l with
  | nil => rfl
  | cons a qs ih =>
    have := ih (l.set a.toNat true) (fun b hb => h b (by simp [hb]))
    unfold markArgs at this ⊢
    rw [List.foldl_cons, this]
    have h1 := h a (by simp)
    rw [List.getElem?_set_ne (by omega)]
theorem markStep_len (steps : List Step) (k : Nat) (l : List Bool) : (markStep steps k l).length = l.length := by
  unfold markStep
  split
  · exact markArgs_len _ _
  · rfl
theorem markDown_len (steps : List Step) (k : Nat) (l : List Bool) : (markDown steps k l).length = l.length := by
  induction k generalizing l with
  | zero => rfl
  | succ k ih => rw [markDown, ih, markStep_len]
theorem marked_len (steps : List Step) (ps : List Int) : (marked steps ps).length = steps.length := by rw [marked, markDown_len, mark0_len]; simp
theorem trues_in (l : List Bool) (k : Nat) : ∀ x ∈ trues l k, 0 ≤ x ∧ x < k := by
  induction k with
  | zero => intro x hx; cases hx
  | succ k ih =>
    intro x hx
    rw [trues] at hx
    rcases List.mem_append.1 hx with h | h
    · have := ih x h; omega
    · split at h
      · have : x = (k : Int) := by simpa using h
        omega
      · cases h
theorem trues_len (l : List Bool) (k : Nat) : (trues l k).length ≤ k := by
  induction k with
  | zero => simp [trues]
  | succ k ih => rw [trues, List.length_append]; split <;> simp <;> omega

/-! ### Rows of booleans -/
theorem infoB : (Try.prog.info? 4).map (fun i => (i.zero, i.size, i.bytes)) = some (some (.bool false), 1, 1) := by kernel_rfl
def BlkB (w : World) (g : Nat) (l : List Bool) : Prop := Blk w g 4 (l.map Value.bool).toArray
section
variable {w w' : World} {g : Nat} {l : List Bool}
theorem BlkB.lt (h : BlkB w g l) : g < w.heap.size := Blk.lt h
theorem BlkB.cell (h : BlkB w g l) {i : Nat} {x : Bool} (hx : l[i]? = some x) : w.cell? ⟨g, i, none⟩ = some (.bool x) := by
  rw [Blk.cell h i]; simp [hx]
theorem BlkB.frozen (h : BlkB w g l) (i : Nat) : w.frozen? ⟨g, i, none⟩ = false := Blk.frozen h i
theorem BlkB.set_ (h : BlkB w g l) (i : Nat) (x : Bool) : BlkB (w.setCell ⟨g, i, none⟩ (.bool x)) g (l.set i x) := by
  have := Blk.set_ h i (.bool x)
  unfold BlkB
  rw [List.setIfInBounds_toArray, ← List.map_set] at this
  exact this
theorem BlkB.below (h : BlkB w g l) (hb : Below w.heap.size w w') : BlkB w' g l := Blk.below' h hb
theorem BlkB.alloc (h : BlkB w g l) (o : Obj) : BlkB (w.alloc o) g l := Blk.alloc h o
theorem BlkB.new (w : World) (n : Nat) : BlkB (w.alloc (.cells (madeCells #[.bool false] n) 4)) w.heap.size (List.replicate n false) := by
  have := Blk.new w 4 (madeCells #[.bool false] n)
  unfold BlkB
  have e : madeCells #[.bool false] n = ((List.replicate n false).map Value.bool).toArray := by
    apply Array.ext
    · simp [madeCells]
    · intro i h1 h2
      simp [madeCells, Nat.mod_one]
  rw [e] at this ⊢
  exact this
end
/-- 'make([]bool, n)' -/
theorem run_make_bool (k : IntKind) (n : Nat) (hn : n ≤ 16777216) (w : World) :
    (Instr.makeSlice 80 (.int k (n : Int)) (.int k (n : Int))).run Try.prog w = .ok (.slice (some ⟨w.heap.size, 0, none⟩) n n) (w.alloc (.cells (madeCells #[.bool false] n) 4)) :=
  run_make_row' 80 4 (.bool false) 1 Try.underlying80 infoB rfl k k n (by omega) (by omega) w
theorem getD_some {l : List Bool} {k : Nat} {b : Bool} (h : l[k]? = some b) : l.getD k false = b := by simp [List.getD_eq_getElem?_getD, h]
end Go.Proofs.Ytmlldjcbijoheaa
