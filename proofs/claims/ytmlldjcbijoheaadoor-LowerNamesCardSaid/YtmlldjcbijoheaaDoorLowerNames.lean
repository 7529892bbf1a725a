/- The walk of LowerNames. -/
import Derived.Test.YtmlldjcbijoheaaDoorNFind
import Derived.Test.YtmlldjcbijoheaaDoorFits
import Derived.Test.YtmlldjcbijoheaaDoorFigOpen
import Derived.Test.YtmlldjcbijoheaaDoorRegion
namespace Go.Proofs.YtmlldjcbijoheaaDoor
open Go.RowKit

set_option maxRecDepth 100000 in
set_option maxHeartbeats 2000000 in
theorem lowerNames_fig (f : Fig) (n : ByteArray) (sa : Option Addr) (sc : Nat) (ga : Option Addr) (gc : Nat) (w : World) (h : FigR w sa sc ga gc f) :
    Calls Tryd.prog 3 #[f.val sa sc ga gc, .string n] w fun e w' => e = .returned (.bool true) ∧ Below w.heap.size w w' := by
  have CF := fun W (hW : Below w.heap.size w W) => fits_any f sa sc ga gc W (h.ext (Ext.below hW))
  have HF := Lib.hid h
  obtain ⟨b, hb⟩ : ∃ x, f.fits = x := ⟨_, rfl⟩
  rw [hb] at CF
  replace CF := Lib.hid CF
  clear h
  have hz := Blk.new w 25 #[.slice sa f.steps.length sc, .slice ga f.goals.length gc]
  have hb0 : Below w.heap.size w (w.alloc (.cells #[.slice sa f.steps.length sc, .slice ga f.goals.length gc] 25)) := (Below.refl _ _).alloc (Nat.le_refl _) _
  unfold Fig.val at CF ⊢
  cases b
  · clear hb
    go_enter Tryd.func3, Tryd.ntmps3
    go_wp2
    revert hz hb0
    generalize w.alloc (.cells #[.slice sa f.steps.length sc, .slice ga f.goals.length gc] 25) = w1
    intro hz hw1
    have z0 := fun w' (hw' : Below w1.heap.size w1 w') => (hz.below' hw').cell 0
    have z1 := fun w' (hw' : Below w1.heap.size w1 w') => (hz.below' hw').cell 1
    clear hz
    have s0 : Below w1.heap.size w1 w1.drew := (Below.refl _ _).drew
    refine wp_region_mix (S := Below w1.heap.size w1) [(0, .q), (1, .l), (2, .q), (3, .q), (4, .q), (6, .q), (5, .l), (7, .l), (8, .l), (9, .q), (10, .q), (11, .q), (13, .q), (14, .q), (12, .l), (15, .t), (16, .p), (17, .p), (18, .p), (19, .p)] (by kernel_rfl) (by kernel_rfl) (by kernel_rfl) (fun d _ _ _ _ h => by cases d <;> exact h) (s0) ?_
    iterate 1 (refine wpMix_q rfl rfl (fun K hK => ?_); apply Exists.intro; refine ⟨fun w' hw' => ?_, ?_⟩; (focus (go_simp; try rfl)); go_simp; refine hK _ _ ?_; clear hK K)
    refine wpMix_l rfl rfl (fun K hK => ?_)
    go_simp
    refine (CF.out _ (below_then hw1 s0)).mono ?_
    rintro r w2 ⟨rfl, hb2⟩
    dsimp only
    refine hK.out _ _ (below_then s0 hb2) (fun _ => ?_)
    clear hK K
    have s2 := below_then s0 hb2
    iterate 2 (refine wpMix_q rfl rfl (fun K hK => ?_); apply Exists.intro; refine ⟨fun w' hw' => ?_, ?_⟩; (focus (go_simp; try rfl)); go_simp; refine hK _ _ ?_; clear hK K)
    iterate 14 (refine wpMix_skip rfl rfl (fun K hK => ?_); go_simp; refine hK _ _ ?_; clear hK K)
    iterate 2 (refine wpMix_p rfl rfl (fun K hK => ?_); apply Exists.intro; refine ⟨fun w' => ?_, ?_⟩; (focus (go_simp; try rfl)); go_simp; refine hK _ _ ?_; clear hK K)
    refine wpMix_nil ?_
    go_wp2
    go_ret
    exact ⟨rfl, below_then hw1 s2⟩
  · have hl : f.steps.length ≤ 60 := by
      unfold Fig.fits at hb
      simp only [Bool.and_eq_true, decide_eq_true_eq] at hb
      exact hb.1.2
    clear hb
    have C1 := fun W (hW : Below w.heap.size w W) => names_any f sa sc ga gc W (HF.out.ext (Ext.below hW)) hl
    have C2 := fun W (hW : Below w.heap.size w W) => namesR_any f sa sc ga gc W (HF.out.ext (Ext.below hW)) hl
    have C3 := fun W (hW : Below w.heap.size w W) => find20_any f n sa sc ga gc W (HF.out.ext (Ext.below hW)) hl
    have C4 := fun W (hW : Below w.heap.size w W) => findR20_any f n sa sc ga gc W (HF.out.ext (Ext.below hW)) hl
    revert C1 C2 C3 C4
    generalize namesTo f.steps f.steps.length = L
    generalize findFrom n 0 L = q
    intro C1 C2 C3 C4
    unfold Fig.val at C1 C2 C3 C4
    replace C1 := Lib.hid C1; replace C2 := Lib.hid C2; replace C3 := Lib.hid C3; replace C4 := Lib.hid C4
    go_enter Tryd.func3, Tryd.ntmps3
    go_wp2
    revert hz hb0
    generalize w.alloc (.cells #[.slice sa f.steps.length sc, .slice ga f.goals.length gc] 25) = w1
    intro hz hw1
    have z0 := fun w' (hw' : Below w1.heap.size w1 w') => (hz.below' hw').cell 0
    have z1 := fun w' (hw' : Below w1.heap.size w1 w') => (hz.below' hw').cell 1
    clear hz
    have s0 : Below w1.heap.size w1 w1.drew := (Below.refl _ _).drew
    refine wp_region_mix (S := Below w1.heap.size w1) [(0, .q), (1, .l), (2, .q), (3, .q), (4, .q), (6, .q), (5, .l), (7, .l), (8, .l), (9, .q), (10, .q), (11, .q), (13, .q), (14, .q), (12, .l), (15, .t), (16, .p), (17, .p), (18, .p), (19, .p)] (by kernel_rfl) (by kernel_rfl) (by kernel_rfl) (fun d _ _ _ _ h => by cases d <;> exact h) (s0) ?_
    iterate 1 (refine wpMix_q rfl rfl (fun K hK => ?_); apply Exists.intro; refine ⟨fun w' hw' => ?_, ?_⟩; (focus (go_simp; try rfl)); go_simp; refine hK _ _ ?_; clear hK K)
    refine wpMix_l rfl rfl (fun K hK => ?_)
    go_simp
    refine (CF.out _ (below_then hw1 s0)).mono ?_
    rintro r w2 ⟨rfl, hb2⟩
    dsimp only
    refine hK.out _ _ (below_then s0 hb2) (fun _ => ?_)
    clear hK K
    have s2 := below_then s0 hb2
    iterate 4 (refine wpMix_q rfl rfl (fun K hK => ?_); apply Exists.intro; refine ⟨fun w' hw' => ?_, ?_⟩; (focus (go_simp; try rfl)); go_simp; refine hK _ _ ?_; clear hK K)
    refine wpMix_l rfl rfl (fun K hK => ?_)
    go_simp
    refine (C1.out _ (below_then hw1 s2)).mono ?_
    rintro r w3 ⟨a3, c3, rfl, ho3, hb3⟩
    dsimp only
    refine hK.out _ _ (below_then s2 hb3) (fun _ => ?_)
    clear hK K
    have s3 := below_then s2 hb3
    refine wpMix_l rfl rfl (fun K hK => ?_)
    go_simp
    refine (C2.out _ (below_then hw1 s3)).mono ?_
    rintro r w4 ⟨a4, c4, rfl, ho4, hb4⟩
    dsimp only
    refine hK.out _ _ (below_then s3 hb4) (fun _ => ?_)
    clear hK K
    have s4 := below_then s3 hb4
    refine wpMix_l rfl rfl (fun K hK => ?_)
    go_simp
    refine (sameStrings20_eq L a3 a4 c3 c4 _ (OwnS.reads1 (ho3.below hb4)) (OwnS.reads1 ho4)).mono ?_
    rintro r w5 ⟨rfl, hb5⟩
    dsimp only
    refine hK.out _ _ (below_then s4 hb5) (fun _ => ?_)
    clear hK K
    have s5 := below_then s4 hb5
    clear ho3 ho4
    iterate 5 (refine wpMix_q rfl rfl (fun K hK => ?_); apply Exists.intro; refine ⟨fun w' hw' => ?_, ?_⟩; (focus (go_simp; try rfl)); go_simp; refine hK _ _ ?_; clear hK K)
    refine wpMix_l rfl rfl (fun K hK => ?_)
    go_simp
    refine (C3.out _ (below_then hw1 s5)).mono ?_
    rintro r w6 ⟨rfl, hb6⟩
    dsimp only
    refine hK.out _ _ (below_then s5 hb6) (fun _ => ?_)
    clear hK K
    have s6 := below_then s5 hb6
    refine wpMix_t rfl rfl (fun K hK => ?_)
    go_simp
    refine (C4.out _ (below_then hw1 s6)).mono ?_
    rintro r w7 ⟨rfl, hb7⟩
    dsimp only
    refine hK.out _ _ ?_
    clear hK K
    have s7 := below_then s6 hb7
    iterate 4 (refine wpMix_p rfl rfl (fun K hK => ?_); apply Exists.intro; refine ⟨fun w' => ?_, ?_⟩; (focus (go_simp; try rfl)); go_simp; refine hK _ _ ?_; clear hK K)
    refine wpMix_nil ?_
    go_wp2
    go_ret
    exact ⟨by simp, below_then hw1 s7⟩
theorem lowerNames_law {v : Value} {n : ByteArray} {w : World} (h : ∃ (f : Fig) (sa : Option Addr) (sc : Nat) (ga : Option Addr) (gc : Nat), v = f.val sa sc ga gc ∧ FigR w sa sc ga gc f) :
    Calls Tryd.prog 3 #[v, .string n] w fun r w' => r = .returned (.bool true) ∧ Below w.heap.size w w' := by
  obtain ⟨f, sa, sc, ga, gc, rfl, hr⟩ := h
  exact lowerNames_fig f n sa sc ga gc w hr
end Go.Proofs.YtmlldjcbijoheaaDoor

