/- Walks: the names of the points of a figure, by the program and by the reference. -/
import Derived.Test.YtmlldjcbijoheaaDoorDig
import Derived.Test.YtmlldjcbijoheaaDoorFigS
import Derived.Deep.LoopGhost
namespace Go.Proofs.YtmlldjcbijoheaaDoor
open Go.RowKit

/-- the name of the point i whose step says s -/
def nameAt (s : ByteArray) (i : Nat) : ByteArray := if s = ⟨#[]⟩ then ⟨#[36]⟩ ++ decS i else s
def namesTo (l : List Step) : Nat → List ByteArray
  | 0 => []
  | k + 1 => namesTo l k ++ [nameAt ((l[k]?.map Step.point).getD ⟨#[]⟩) k]
theorem namesTo_len (l : List Step) (k : Nat) : (namesTo l k).length = k := by
  induction k with
  | zero => rfl
  | succ k ih => rw [namesTo, List.length_append, ih]; rfl
theorem namesTo_at {l : List Step} {k : Nat} {s : Step} (h : l[k]? = some s) : namesTo l (k + 1) = namesTo l k ++ [nameAt s.point k] := by rw [namesTo, h]; rfl
/-- what a call gives that makes strings -/
def RetS (l : List ByteArray) (w : World) (e : Ending) (w' : World) : Prop := ∃ a c, e = .returned (.slice a l.length c) ∧ OwnS w.heap.size w' a c l ∧ Below w.heap.size w w'

set_option maxRecDepth 100000 in
set_option maxHeartbeats 4000000 in
theorem names_any (f : Fig) (sa : Option Addr) (sc : Nat) (ga : Option Addr) (gc : Nat) (w : World) (h : FigR w sa sc ga gc f) (hl : f.steps.length ≤ 60) :
    Calls Tryd.prog 6 #[f.val sa sc ga gc] w (RetS (namesTo f.steps f.steps.length) w) := by
  obtain ⟨steps, goals⟩ := f
  obtain ⟨hS, hG⟩ := h
  unfold Fig.val
  dsimp only at hS hl ⊢
  have HS := Lib.hid hS
  have hz := Blk.new w 25 #[.slice sa steps.length sc, .slice ga goals.length gc]
  have hb0 : Below w.heap.size w (w.alloc (.cells #[.slice sa steps.length sc, .slice ga goals.length gc] 25)) := by go_grown
  clear hS hG
  go_enter Tryd.func6, Tryd.ntmps6
  go_wp2
  revert hz hb0
  generalize w.alloc (.cells #[.slice sa steps.length sc, .slice ga goals.length gc] 25) = w0
  intro hz hb0
  go_loopg [3, 4, 5, 6, 10] steps.length (fun n s _ _ _ q wr => ∃ (k : Nat) (a : Option Addr) (c : Nat), k + n = steps.length ∧ q = .int .i64 k ∧ s = .slice a (namesTo steps k).length c ∧ OwnS w.heap.size wr a c (namesTo steps k) ∧ Below w.heap.size w wr)
  case atStart => exact ⟨0, none, 0, by omega, rfl, rfl, Own.nil, hb0⟩
  case round =>
    clear hz hb0
    obtain ⟨k, a, c, hkg, rfl, rfl, ho, hw⟩ := hrel
    have HKG := Lib.hid hkg
    have HO := Lib.hid ho
    have HLN := Lib.hid (namesTo_len steps k)
    clear hkg ho
    by_cases hlt : k < steps.length
    · obtain ⟨s, hs⟩ := get_of_lt hlt
      obtain ⟨b, off, rfl, p, hC, hP, _, _⟩ := (HS.out.ext (Ext.below hw)).2.2 k s hs
      obtain ⟨c0, c1, c2, c3, c4, c5⟩ := hC
      have hnx := namesTo_at hs
      have HNX := Lib.hid hnx
      clear hs hP hnx
      have hw1 := hw.alloc hw.size (.cells #[.int .i64 s.kind, .string s.point, .slice p.aa s.args.length p.ac, .bool s.ratio.neg, .slice p.na s.ratio.num.length p.nc, .slice p.da s.ratio.den.length p.dc] 40)
      by_cases he : s.point = ⟨#[]⟩
      · have hse : s.point.toList.isEmpty = true := by rw [str_isEmpty]; simpa using he
        have hse2 : s.point.toList = [] := by simpa using hse
        have hn : nameAt s.point k = ⟨#[36]⟩ ++ decS k := by unfold nameAt; rw [if_pos he]
        rw [hn] at HNX
        replace HNX := Lib.hid HNX.out
        have CI := fun W => itoa_any k W (by omega)
        have hsz := decS_size k
        revert HNX CI hsz
        generalize decS k = D
        intro HNX CI hsz
        replace CI := Lib.hid CI
        have hadd : (⟨#[36]⟩ ++ D : ByteArray).size ≤ 3 := by simp; have : (⟨#[36]⟩ : ByteArray).size = 1 := rfl; omega
        clear he hn
        go_wp2_with fail
        refine (CI.out _).mono ?_
        rintro e w' ⟨rfl, rfl⟩
        go_wp2_with (at_builtin; go_must (refine append_str rfl (.tmp 22) (.tmp 24) rfl a c rfl ((HO.out.alloc _).alloc _) (⟨#[36]⟩ ++ D) (wr.heap.size + 1) 1 rfl (by simp) (namesTo steps k ++ [⟨#[36]⟩ ++ D]) rfl (by have := HLN.out; simp; omega) (by have := hw.size; simp; omega) ?_); intro a2 c2 w2 ho2 hg2 hx2)
        go_roundg (gk - 1)
        case rel => exact ⟨k + 1, a2, c2, by have := HKG.out; omega, by go_num, by rw [HNX.out]; simp, by rw [HNX.out]; exact ho2, below_append' (hw1.alloc hw1.size _) ((HO.out.alloc _).alloc _) hg2⟩
        case measure => have := HKG.out; omega
      · have hse : s.point.toList.isEmpty = false := by rw [str_isEmpty]; simpa using he
        have hse2 : s.point.toList ≠ [] := by intro e; rw [e] at hse; cases hse
        have hn : nameAt s.point k = s.point := by unfold nameAt; rw [if_neg he]
        rw [hn] at HNX
        replace HNX := Lib.hid HNX.out
        clear he hn
        go_wp2_with (at_builtin; go_must (refine append_str rfl (.tmp 22) (.tmp 24) rfl a c rfl ((HO.out.alloc _).alloc _) s.point (wr.heap.size + 1) 1 rfl (by simp) (namesTo steps k ++ [s.point]) rfl (by have := HLN.out; simp; omega) (by have := hw.size; simp; omega) ?_); intro a2 c2 w2 ho2 hg2 hx2)
        go_roundg (gk - 1)
        case rel => exact ⟨k + 1, a2, c2, by have := HKG.out; omega, by go_num, by rw [HNX.out]; simp, by rw [HNX.out]; exact ho2, below_append' (hw1.alloc hw1.size _) ((HO.out.alloc _).alloc _) hg2⟩
        case measure => have := HKG.out; omega
    · obtain rfl : k = steps.length := by have := HKG.out; omega
      go_wp2
      go_ret
      exact ⟨a, c, rfl, HO.out, hw⟩

set_option maxRecDepth 100000 in
set_option maxHeartbeats 4000000 in
theorem namesR_any (f : Fig) (sa : Option Addr) (sc : Nat) (ga : Option Addr) (gc : Nat) (w : World) (h : FigR w sa sc ga gc f) (hl : f.steps.length ≤ 60) :
    Calls Tryd.prog 7 #[f.val sa sc ga gc] w (RetS (namesTo f.steps f.steps.length) w) := by
  obtain ⟨steps, goals⟩ := f
  obtain ⟨hS, hG⟩ := h
  unfold Fig.val
  dsimp only at hS hl ⊢
  have HS := Lib.hid hS
  have hz := Blk.new w 25 #[.slice sa steps.length sc, .slice ga goals.length gc]
  have hb0 : Below w.heap.size w (w.alloc (.cells #[.slice sa steps.length sc, .slice ga goals.length gc] 25)) := by go_grown
  clear hS hG
  go_enter Tryd.func7, Tryd.ntmps7
  go_wp2
  revert hz hb0
  generalize w.alloc (.cells #[.slice sa steps.length sc, .slice ga goals.length gc] 25) = w0
  intro hz hb0
  go_loopg [3, 4, 5, 9] steps.length (fun n s _ _ q wr => ∃ (k : Nat) (a : Option Addr) (c : Nat), k + n = steps.length ∧ q = .int .i64 k ∧ s = .slice a (namesTo steps k).length c ∧ OwnS w.heap.size wr a c (namesTo steps k) ∧ Below w.heap.size w wr)
  case atStart => exact ⟨0, none, 0, by omega, rfl, rfl, Own.nil, hb0⟩
  case round =>
    clear hz hb0
    obtain ⟨k, a, c, hkg, rfl, rfl, ho, hw⟩ := hrel
    have HKG := Lib.hid hkg
    have HO := Lib.hid ho
    have HLN := Lib.hid (namesTo_len steps k)
    clear hkg ho
    by_cases hlt : k < steps.length
    · obtain ⟨s, hs⟩ := get_of_lt hlt
      obtain ⟨b, off, rfl, p, hC, hP, _, _⟩ := (HS.out.ext (Ext.below hw)).2.2 k s hs
      obtain ⟨c0, c1, c2, c3, c4, c5⟩ := hC
      have hnx := namesTo_at hs
      have HNX := Lib.hid hnx
      clear hs hP hnx
      have hw1 := hw.alloc hw.size (.cells #[.int .i64 s.kind, .string s.point, .slice p.aa s.args.length p.ac, .bool s.ratio.neg, .slice p.na s.ratio.num.length p.nc, .slice p.da s.ratio.den.length p.dc] 40)
      have ho1 := HO.out.alloc (.cells #[.int .i64 s.kind, .string s.point, .slice p.aa s.args.length p.ac, .bool s.ratio.neg, .slice p.na s.ratio.num.length p.nc, .slice p.da s.ratio.den.length p.dc] 40)
      by_cases he : s.point = ⟨#[]⟩
      · have hse : s.point.toList.isEmpty = true := by rw [str_isEmpty]; simpa using he
        have hse2 : s.point.toList = [] := by simpa using hse
        have hse3 : (!s.point.toList.isEmpty) = false := by rw [hse]; rfl
        have hn : nameAt s.point k = ⟨#[36]⟩ ++ decS k := by unfold nameAt; rw [if_pos he]
        rw [hn] at HNX
        replace HNX := Lib.hid HNX.out
        have CI := fun W => digits_any k W (by omega)
        have hsz := decS_size k
        revert HNX CI hsz
        generalize decS k = D
        intro HNX CI hsz
        replace CI := Lib.hid CI
        clear he hn
        go_wp2_with fail
        revert hw1 ho1
        generalize wr.alloc (.cells #[.int .i64 s.kind, .string s.point, .slice p.aa s.args.length p.ac, .bool s.ratio.neg, .slice p.na s.ratio.num.length p.nc, .slice p.da s.ratio.den.length p.dc] 40) = w1
        intro hw1 ho1
        refine (CI.out _).mono ?_
        rintro e w3 ⟨rfl, hb3⟩
        have hw3 := below_then hw1 hb3
        have ho3 := Lib.hid (ho1.below hb3)
        clear ho1 hb3
        go_wp2_with (at_builtin; go_must (refine append_str rfl (.tmp 22) (.tmp 26) rfl a c rfl (ho3.out.alloc _) (⟨#[36]⟩ ++ D) w3.heap.size 1 rfl (by simp) (namesTo steps k ++ [⟨#[36]⟩ ++ D]) rfl (by have := HLN.out; simp; omega) (by have := hw3.size; simp; omega) ?_); intro a2 c2 w2 ho2 hg2 hx2)
        go_roundg (gk - 1)
        case rel => exact ⟨k + 1, a2, c2, by have := HKG.out; omega, by go_num, by rw [HNX.out]; simp, by rw [HNX.out]; exact ho2, below_append' (hw3.alloc hw3.size _) (ho3.out.alloc _) hg2⟩
        case measure => have := HKG.out; omega
      · have hse : s.point.toList.isEmpty = false := by rw [str_isEmpty]; simpa using he
        have hse2 : s.point.toList ≠ [] := by intro e; rw [e] at hse; cases hse
        have hse3 : (!s.point.toList.isEmpty) = true := by rw [hse]; rfl
        have hn : nameAt s.point k = s.point := by unfold nameAt; rw [if_neg he]
        rw [hn] at HNX
        replace HNX := Lib.hid HNX.out
        clear he hn
        go_wp2_with (at_builtin; go_must (refine append_str rfl (.tmp 17) (.tmp 20) rfl a c rfl ((HO.out.alloc _).alloc _) s.point (wr.heap.size + 1) 1 rfl (by simp) (namesTo steps k ++ [s.point]) rfl (by have := HLN.out; simp; omega) (by have := hw.size; simp; omega) ?_); intro a2 c2 w2 ho2 hg2 hx2)
        go_roundg (gk - 1)
        case rel => exact ⟨k + 1, a2, c2, by have := HKG.out; omega, by go_num, by rw [HNX.out]; simp, by rw [HNX.out]; exact ho2, below_append' (hw1.alloc hw1.size _) ((HO.out.alloc _).alloc _) hg2⟩
        case measure => have := HKG.out; omega
    · obtain rfl : k = steps.length := by have := HKG.out; omega
      go_wp2
      go_ret
      exact ⟨a, c, rfl, HO.out, hw⟩
end Go.Proofs.YtmlldjcbijoheaaDoor

