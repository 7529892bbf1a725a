/- Walk: the points that are needed, by the reference. -/
import Derived.Test.YtmlldjcbijoheaaNeedsR
namespace Go.Proofs.Ytmlldjcbijoheaa
open Go.RowKit

theorem Own.ne_blk {α : Type} {f : α → List Value} {sz : Nat} {t t' : TypeId} {B g : Nat} {w : World} {a : Option Addr} {c : Nat} {l : List α} {cs : Array Value} (h : Own f sz t B w a c l) (hb : Blk w g t' cs) (hne : t ≠ t') : some g ≠ Value.ownBlock (.slice a l.length c) := by
  intro e
  cases a with
  | none => simp [Value.ownBlock] at e
  | some p =>
    simp [Value.ownBlock] at e
    rcases h.2 with ⟨hn, _⟩ | ⟨g', cap, cur, hv, _, hh, _⟩
    · cases hn
    · injection hv with hv
      injection hv with hv
      subst hv
      simp at e
      subst e
      unfold Blk at hb
      rw [hb] at hh
      injection hh with hh
      injection hh with _ ht
      exact hne ht.symm
theorem int_ne_bool : 3 ≠ 4 := by decide
theorem trues_true {l : List Bool} {k : Nat} (h : l[k]? = some true) : trues l (k + 1) = trues l k ++ [(k : Int)] := by rw [trues, getD_some h, if_pos rfl]
theorem trues_false {l : List Bool} {k : Nat} (h : l[k]? = some false) : trues l (k + 1) = trues l k := by rw [trues, getD_some h, if_neg (by simp), List.append_nil]

/-- what a call gives that makes integers -/
def RetI (l : List Int) (w : World) (e : Ending) (w' : World) : Prop := ∃ a c, e = .returned (.slice a l.length c) ∧ OwnI w.heap.size w' a c l ∧ Below w.heap.size w w'
set_option maxRecDepth 100000 in
set_option maxHeartbeats 2000000 in
theorem needsR_any (f : Fig) (ps : List Int) (sa : Option Addr) (sc : Nat) (ga : Option Addr) (gc : Nat) (pa : Option Addr) (pc : Nat) (w : World) (h : FigR w sa sc ga gc f) (hp : IntsR w pa pc ps) (hl : f.steps.length ≤ 40) (hok : ∀ (k : Nat) (s : Step), f.steps[k]? = some s → ∀ a ∈ s.args, 0 ≤ a ∧ a < (k : Int)) :
    Calls Try.prog 14 #[f.val sa sc ga gc, .slice pa ps.length pc] w (RetI (needs f.steps ps) w) := by
  have C := fun W (hW : Below w.heap.size w W) => markedR_any f ps sa sc ga gc pa pc W (h.ext (Ext.below hW)) (hp.ext (Ext.below hW)) hl hok
  have hML := marked_len f.steps ps
  obtain ⟨steps, goals⟩ := f
  have hN : needs steps ps = trues (marked steps ps) steps.length := rfl
  unfold Fig.val at C ⊢
  dsimp only at C hl hML ⊢
  rw [hN]
  revert C hML
  generalize marked steps ps = L
  intro C hML
  have HML := Lib.hid hML
  replace C := Lib.hid C
  clear h hp hok hN hML
  go_enter Try.func14, Try.ntmps14
  go_wp2_with fail
  refine (C.out _ ((Below.refl _ _).alloc (Nat.le_refl _) _)).mono ?_
  rintro e w1 ⟨g, hg, rfl, hB, hb⟩
  have hw := below_then1 (Below.refl _ w) hb
  have hgw : w.heap.size < g := by simp at hg; omega
  clear hb C hg
  go_wp2
  go_loopg [5, 6, 7, 12] steps.length (fun n s _ _ q wr => ∃ (k : Nat) (a : Option Addr) (c : Nat), k + n = steps.length ∧ q = .int .i64 k ∧ s = .slice a (trues L k).length c ∧ OwnI w.heap.size wr a c (trues L k) ∧ BlkB wr g L ∧ Below w.heap.size w wr)
  case atStart => exact ⟨0, none, 0, by omega, rfl, rfl, Own.nil, hB, hw⟩
  case round =>
    clear hB hw
    obtain ⟨k, a, c, hkg, rfl, rfl, ho, hB, hw⟩ := hrel
    have HKG := Lib.hid hkg
    have HO := Lib.hid ho
    have HB := Lib.hid hB
    have hgl := hB.lt
    have hlt0 := trues_len L k
    clear hkg ho hB
    by_cases hlt : k < steps.length
    · obtain ⟨y, hy⟩ := get_of_lt (xs := L) (k := k) (by rw [HML.out]; exact hlt)
      have cy := HB.out.cell hy
      have HY := Lib.hid hy
      clear hy
      cases y
      · have HT := Lib.hid (trues_false HY.out)
        go_wp2
        go_roundg (gk - 1)
        case rel => exact ⟨k + 1, a, c, by have := HKG.out; omega, by go_num, by rw [HT.out], by rw [HT.out]; exact HO.out, HB.out, hw⟩
        case measure => have := HKG.out; omega
      · have HT := Lib.hid (trues_true HY.out)
        go_wp2_with (at_builtin; go_must (refine append_int rfl (.tmp 18) (.tmp 20) rfl a c rfl (HO.out.alloc _) (k : Int) wr.heap.size 1 rfl (by simp) (trues L k ++ [(k : Int)]) rfl (by simp; omega) (by have := hw.size; simp; omega) ?_); intro a2 c2 w2 ho2 hg2 hx2)
        go_roundg (gk - 1)
        case rel =>
          have hb1 : Below w.heap.size w w2 := below_append' (hw.alloc hw.size _) (HO.out.alloc _) hg2
          have hB2 : BlkB w2 g L := Blk.grown (Blk.alloc HB.out (.cells #[.int .i64 (k : Int)] 3)) hg2 (Own.ne_blk (HO.out.alloc (.cells #[.int .i64 (k : Int)] 3)) (Blk.alloc HB.out (.cells #[.int .i64 (k : Int)] 3)) int_ne_bool)
          exact ⟨k + 1, a2, c2, by have := HKG.out; omega, by go_num, by rw [HT.out]; simp, by rw [HT.out]; exact ho2, hB2, hb1⟩
        case measure => have := HKG.out; omega
    · obtain rfl : k = steps.length := by have := HKG.out; omega
      go_wp2
      go_ret
      exact ⟨a, c, rfl, HO.out, hw⟩
end Go.Proofs.Ytmlldjcbijoheaa
