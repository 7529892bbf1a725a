/- The walk of LowerPrunes. -/
import Derived.Test.YtmlldjcbijoheaaPrune
import Derived.Test.YtmlldjcbijoheaaSame20
import Derived.Test.YtmlldjcbijoheaaFigD
import Derived.Test.YtmlldjcbijoheaaFigOpen
namespace Go.Proofs.Ytmlldjcbijoheaa
open Go.RowKit

theorem errStep_len {l : List Step} {s : Step} {i : Nat} (h : errStep l s i = 0) : s.args.length ≤ 4 := by
  unfold errStep at h
  split at h
  · omega
  split at h
  · omega
  · rename_i h1
    have := arity20_in s.kind
    simp at h1
    omega
theorem errFct_len {s : Fct} {n : Int} (h : errFct s n = 0) : s.args.length ≤ 8 := by
  unfold errFct at h
  split at h
  · omega
  split at h
  · omega
  · rename_i h1
    have := arity14_in s.kind
    simp at h1
    omega
theorem errGoals_of {n : Int} : ∀ {r : List Fct} {g : Fct}, errGoals n r = 0 → g ∈ r → errFct g n = 0
  | [], _, _, h => by cases h
  | s :: r, g, h, hg => by
    unfold errGoals at h
    by_cases h0 : errFct s n = 0
    · rw [if_neg (by simp [h0])] at h
      rcases List.mem_cons.1 hg with rfl | hg
      · exact h0
      · exact errGoals_of h hg
    · rw [if_pos h0] at h; exact absurd h h0
theorem Fig.lens {f : Fig} (h : f.err = 0) : (∀ s ∈ f.steps, s.args.length ≤ 100) ∧ (∀ g ∈ f.goals, g.args.length ≤ 100) ∧ f.steps.length ≤ 40 := by
  unfold Fig.err at h
  split at h
  · omega
  split at h
  · contradiction
  · rename_i h1 h2
    refine ⟨fun s hs => ?_, fun g hg => ?_, by omega⟩
    · obtain ⟨k, hk⟩ := List.mem_iff_getElem?.1 hs
      have := errStep_len (errSteps_at (by simpa using h2) hk)
      omega
    · have := errFct_len (errGoals_of h hg)
      omega

set_option maxRecDepth 100000 in
set_option maxHeartbeats 2000000 in
theorem lowerPrunes_fig (f : Fig) (goal : Int) (sa : Option Addr) (sc : Nat) (ga : Option Addr) (gc : Nat) (w : World) (h : FigR w sa sc ga gc f) (hq : f.few) (hi : InInt goal) :
    Calls Try.prog 6 #[f.val sa sc ga gc, .int .i64 goal] w fun e w' => e = .returned (.bool true) ∧ Below w.heap.size w w' := by
  have CR := fun W (hW : Below w.heap.size w W) => right20_any f sa sc ga gc W (h.ext (Ext.below hW)) hq
  have hlg := h.2.len
  have HF := Lib.hid h
  obtain ⟨ev, hev⟩ : ∃ x, f.err = x := ⟨_, rfl⟩
  rw [hev] at CR
  have HEV := Lib.hid hev
  replace CR := Lib.hid CR
  clear h hq hev
  have hz := Blk.new w 25 #[.slice sa f.steps.length sc, .slice ga f.goals.length gc]
  have hb0 : Below w.heap.size w (w.alloc (.cells #[.slice sa f.steps.length sc, .slice ga f.goals.length gc] 25)) := (Below.refl _ _).alloc (Nat.le_refl _) _
  by_cases h0 : ev = 0
  · subst h0
    have hok := fun (k : Nat) (s : Step) (hk : f.steps[k]? = some s) => Fig.args_of HEV.out hk
    have hlens := Fig.lens HEV.out
    have key : ∃ (g : Fig) (x : Int), (∀ W, Below w.heap.size w W → Calls Try.prog 25 #[f.val sa sc ga gc, .int .i64 goal] W (RetFig W W g x)) ∧ (∀ W, Below w.heap.size w W → Calls Try.prog 26 #[f.val sa sc ga gc, .int .i64 goal] W (RetFig W W g x)) := by
      by_cases hbad : goal < 0 ∨ (f.goals.length : Int) ≤ goal
      · exact ⟨⟨[], []⟩, 2, fun W _ => prune_err f goal sa sc ga gc W W hlg hbad hi, fun W _ => pruneR_err f goal sa sc ga gc W W hlg hbad hi⟩
      · obtain ⟨n, rfl⟩ : ∃ n : Nat, goal = n := ⟨goal.toNat, by omega⟩
        obtain ⟨g, hg⟩ := get_of_lt (xs := f.goals) (k := n) (by omega)
        have hgl := hlens.2.1 g (List.mem_of_getElem? hg)
        exact ⟨pruned f g, 0, fun W hW => prune_ok f n g sa sc ga gc W (HF.out.ext (Ext.below hW)) hlens.2.2 hok hg hlens.1 hgl, fun W hW => pruneR_ok f n g sa sc ga gc W (HF.out.ext (Ext.below hW)) hlens.2.2 hok hg hlens.1 hgl⟩
    obtain ⟨g, x, C1, C2⟩ := key
    replace C1 := Lib.hid C1; replace C2 := Lib.hid C2
    unfold Fig.val at C1 C2 CR ⊢
    clear hok hlens HEV HF
    go_enter Try.func6, Try.ntmps6
    go_wp2_with fail
    revert hz hb0
    generalize w.alloc (.cells #[.slice sa f.steps.length sc, .slice ga f.goals.length gc] 25) = w0
    intro hz hb0
    refine (CR.out _ hb0).mono ?_
    rintro e w1 ⟨rfl, hb1⟩
    have hw1 := below_then hb0 hb1
    have hz1 := hz.below' hb1
    have z0 := hz1.cell 0; have z1 := hz1.cell 1
    clear hb1 hb0 hz CR
    go_wp2_with fail
    refine (C1.out _ hw1).mono ?_
    rintro e w2 ⟨pa, pc, qa, qc, rfl, hb2, hV2⟩
    have hw2 := below_then hw1 hb2
    have hz2 := hz1.below' hb2
    have HV2 := Lib.hid hV2
    clear z0 z1 hV2
    unfold Fig.val
    have hy := Blk.new w2 25 #[.slice pa g.steps.length pc, .slice qa g.goals.length qc]
    have hbA : Below w2.heap.size w2 (w2.alloc (.cells #[.slice pa g.steps.length pc, .slice qa g.goals.length qc] 25)) := (Below.refl _ _).alloc (Nat.le_refl _) _
    have z0 := hz2.cell 0; have z1 := hz2.cell 1
    have hzl := hz2.lt
    go_wp2_with fail
    revert hy hbA
    generalize w2.alloc (.cells #[.slice pa g.steps.length pc, .slice qa g.goals.length qc] 25) = w3
    intro hy hbA
    have hw3 := below_then hw2 hbA
    refine (C2.out _ hw3).mono ?_
    rintro e w4 ⟨pa', pc', qa', qc', rfl, hb4, hV4⟩
    have HV4 := Lib.hid hV4
    have hw4 := below_then hw3 hb4
    have hy4 := hy.below' hb4
    unfold Fig.val
    have hx := Blk.new w4 25 #[.slice pa' g.steps.length pc', .slice qa' g.goals.length qc']
    have hbB : Below w4.heap.size w4 (w4.alloc (.cells #[.slice pa' g.steps.length pc', .slice qa' g.goals.length qc'] 25)) := (Below.refl _ _).alloc (Nat.le_refl _) _
    have y0 := hy4.cell 0; have y1 := hy4.cell 1
    have hyl := hy4.lt
    clear z0 z1 hV4
    have he : (x == x) = true := by simp
    go_wp2_with fail
    revert hx hbB
    generalize w4.alloc (.cells #[.slice pa' g.steps.length pc', .slice qa' g.goals.length qc'] 25) = w5
    intro hx hbB
    have hw5 := below_then hw4 hbB
    have hF1 : FigR w5 pa pc qa qc g := HV2.out w5 (Ext.below (below_then hb2 (below_then hbA (below_then hb4 hbB)))) ((New.refl _ _).below (below_then hbA (below_then hb4 hbB)))
    have hF2 : FigR w5 pa' pc' qa' qc' g := HV4.out w5 (Ext.below (below_then hb4 hbB)) ((New.refl _ _).below hbB)
    have CS := same20_eq g pa pc qa qc pa' pc' qa' qc' w5 hF1 hF2
    unfold Fig.val at CS
    replace CS := Lib.hid CS
    clear hF1 hF2
    refine CS.out.mono ?_
    rintro e w6 ⟨rfl, hb6⟩
    have hw6 := below_then hw5 hb6
    go_wp2
    go_ret
    exact ⟨rfl, hw6⟩
  · have hb : (ev != 0) = true := by simpa using h0
    clear h0
    unfold Fig.val at CR ⊢
    go_enter Try.func6, Try.ntmps6
    go_wp2_with fail
    refine (CR.out _ hb0).mono ?_
    rintro e w1 ⟨rfl, hb1⟩
    have hw1 := below_then hb0 hb1
    go_wp2
    go_ret
    exact ⟨rfl, hw1⟩
theorem lowerPrunes_law {v : Value} {w : World} {k : Nat} (h : ∃ (f : Fig) (sa : Option Addr) (sc : Nat) (ga : Option Addr) (gc : Nat), v = f.val sa sc ga gc ∧ FigR w sa sc ga gc f ∧ f.weight ≤ k)
    (goal : Int) (hg : (Lit.int .i64 goal).wf = true) (hk : k ≤ 1048576) :
    Calls Try.prog 6 #[v, .int .i64 goal] w fun r w' => r = .returned (.bool true) ∧ Below w.heap.size w w' := by
  obtain ⟨f, sa, sc, ga, gc, rfl, hr, hw⟩ := h
  exact lowerPrunes_fig f goal sa sc ga gc w hr (Fig.few_of (by omega)) (inInt_of hg)
end Go.Proofs.Ytmlldjcbijoheaa

