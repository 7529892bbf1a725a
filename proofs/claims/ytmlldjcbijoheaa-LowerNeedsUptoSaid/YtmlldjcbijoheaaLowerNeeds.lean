/- The walk of LowerNeeds. -/
import Derived.Test.YtmlldjcbijoheaaNeeds
import Derived.Test.YtmlldjcbijoheaaFigD
import Derived.Test.YtmlldjcbijoheaaFigOpen
import Derived.Test.YtmlldjcbijoheaaRegion
namespace Go.Proofs.Ytmlldjcbijoheaa
open Go.RowKit

set_option maxHeartbeats 400000 in
theorem sameInts20_eq (xs : List Int) (a a' : Option Addr) (c c' : Nat) (w : World) (h : IntsR w a c xs) (h' : IntsR w a' c' xs) :
    Calls Try.prog 12 #[.slice a xs.length c, .slice a' xs.length c'] w fun r w' => r = .returned (.bool true) ∧ Below w.heap.size w w' := by
  have H := Lib.hid h
  have H' := Lib.hid h'
  have hl := h.len
  clear h h'
  go_enter Try.func12, Try.ntmps12
  go_wp2
  go_loopw [5, 13] (fun _ i wr => ∃ k : Nat, k ≤ xs.length ∧ i = .int .i64 k ∧ Below w.heap.size w wr) (fun _ i _ => xs.length - (intOf i).toNat)
  case atStart => exact ⟨0, by omega, rfl, Below.refl _ _⟩
  case round =>
    obtain ⟨k, hk, rfl, hb⟩ := hrel
    by_cases hlt : k < xs.length
    · obtain ⟨x, hx⟩ := get_of_lt hlt
      obtain ⟨b, off, rfl, hE⟩ := H.out.2.2 k x hx
      obtain ⟨b', off', rfl, hE'⟩ := H'.out.2.2 k x hx
      have hc : wr.cell? ⟨b, off + k, none⟩ = some (.int .i64 x) := by have := (hE.ext (Ext.below hb)).1; simpa using this
      have hc' : wr.cell? ⟨b', off' + k, none⟩ = some (.int .i64 x) := by have := (hE'.ext (Ext.below hb)).1; simpa using this
      clear hx hE hE'
      go_wp2
      go_quiet (fail)
      go_wp2
      refine ⟨⟨k + 1, by omega, by go_num, below_drewN hb _⟩, by simp [intOf]; omega⟩
    · go_wp2
      go_ret
      exact ⟨rfl, hb⟩

set_option maxRecDepth 100000 in
set_option maxHeartbeats 2000000 in
theorem lowerNeeds_fig (f : Fig) (ps : List Int) (sa : Option Addr) (sc : Nat) (ga : Option Addr) (gc : Nat) (pa : Option Addr) (pc : Nat) (w : World) (h : FigR w sa sc ga gc f) (hp : IntsR w pa pc ps) (hq : f.few) :
    Calls Try.prog 3 #[f.val sa sc ga gc, .slice pa ps.length pc] w fun e w' => e = .returned (.bool true) ∧ Below w.heap.size w w' := by
  have hlp := hp.len
  have CR := fun W (hW : Below w.heap.size w W) => right20_any f sa sc ga gc W (h.ext (Ext.below hW)) hq
  have HF := Lib.hid h
  have HP := Lib.hid hp
  obtain ⟨ev, hev⟩ : ∃ x, f.err = x := ⟨_, rfl⟩
  rw [hev] at CR
  have HEV := Lib.hid hev
  replace CR := Lib.hid CR
  clear h hp hq hev
  have hz := Blk.new w 25 #[.slice sa f.steps.length sc, .slice ga f.goals.length gc]
  have hb0 : Below w.heap.size w (w.alloc (.cells #[.slice sa f.steps.length sc, .slice ga f.goals.length gc] 25)) := (Below.refl _ _).alloc (Nat.le_refl _) _
  unfold Fig.val at CR ⊢
  by_cases h0 : ev = 0
  · subst h0
    by_cases h60 : 60 < ps.length
    · go_enter Try.func3, Try.ntmps3
      go_wp2_with fail
      refine (CR.out _ hb0).mono ?_
      rintro e w1 ⟨rfl, hb1⟩
      have hw1 := below_then hb0 hb1
      go_wp2
      go_ret
      exact ⟨rfl, hw1⟩
    · have hok := fun (k : Nat) (s : Step) (hk : f.steps[k]? = some s) => Fig.args_of HEV.out hk
      have hl : f.steps.length ≤ 40 := by
        have := HEV.out
        unfold Fig.err at this
        split at this
        · omega
        · omega
      have C1 := fun W (hW : Below w.heap.size w W) => needs_any f ps sa sc ga gc pa pc W (HF.out.ext (Ext.below hW)) (HP.out.ext (Ext.below hW)) hl hok
      have C2 := fun W (hW : Below w.heap.size w W) => needsR_any f ps sa sc ga gc pa pc W (HF.out.ext (Ext.below hW)) (HP.out.ext (Ext.below hW)) hl hok
      have hin : ∀ x ∈ needs f.steps ps, InInt x := fun x hx => by have := trues_in _ _ x hx; constructor <;> omega
      revert C1 C2 hin
      generalize needs f.steps ps = L
      intro C1 C2 hin
      unfold Fig.val at C1 C2
      replace C1 := Lib.hid C1; replace C2 := Lib.hid C2
      have HIN := Lib.hid hin
      clear hok hin
      go_enter Try.func3, Try.ntmps3
      go_wp2_with fail
      revert hz hb0
      generalize w.alloc (.cells #[.slice sa f.steps.length sc, .slice ga f.goals.length gc] 25) = w0
      intro hz hb0
      refine (CR.out _ hb0).mono ?_
      rintro e w1 ⟨rfl, hb1⟩
      have hw1 := below_then hb0 hb1
      have hz1 := hz.below' hb1
      have z0 := fun w' (hw' : Below w1.heap.size w1 w') => (hz1.below' hw').cell 0
      have z1 := fun w' (hw' : Below w1.heap.size w1 w') => (hz1.below' hw').cell 1
      clear hb1 hb0 hz
      go_wp2
      have s0 : Below w1.heap.size w1 w1.drew := (Below.refl _ _).drew
      refine wp_region_mix (S := Below w1.heap.size w1) [(0, .q), (1, .q), (3, .q), (4, .q), (2, .l), (5, .t), (6, .t), (7, .p)] (by kernel_rfl) (by kernel_rfl) (by kernel_rfl) (fun d _ _ _ _ h => by cases d <;> exact h) (s0) ?_
      iterate 4 (refine wpMix_q rfl rfl (fun K hK => ?_); apply Exists.intro; refine ⟨fun w' hw' => ?_, ?_⟩; (focus (go_simp; try rfl)); go_simp; refine hK _ _ ?_; clear hK K)
      refine wpMix_l rfl rfl (fun K hK => ?_)
      go_simp
      refine (C1.out _ (below_then hw1 s0)).mono ?_
      rintro r w2 ⟨a2, c2, rfl, ho2, hb2⟩
      dsimp only
      refine hK.out _ _ (below_then s0 hb2) (fun _ => ?_)
      clear hK K
      have s2 := below_then s0 hb2
      refine wpMix_t rfl rfl (fun K hK => ?_)
      go_simp
      refine (C2.out _ (below_then hw1 s2)).mono ?_
      rintro r w3 ⟨a3, c3, rfl, ho3, hb3⟩
      dsimp only
      refine hK.out _ _ ?_
      clear hK K
      have s3 := below_then s2 hb3
      refine wpMix_t rfl rfl (fun K hK => ?_)
      go_simp
      refine (sameInts20_eq L a2 a3 c2 c3 _ (OwnI.reads1 (ho2.below hb3) HIN.out) (OwnI.reads1 ho3 HIN.out)).mono ?_
      rintro r w4 ⟨rfl, hb4⟩
      dsimp only
      refine hK.out _ _ ?_
      clear hK K
      have s4 := below_then s3 hb4
      iterate 1 (refine wpMix_p rfl rfl (fun K hK => ?_); apply Exists.intro; refine ⟨fun w' => ?_, ?_⟩; (focus (go_simp; try rfl)); go_simp; refine hK _ _ ?_; clear hK K)
      refine wpMix_nil ?_
      go_wp2
      go_ret
      exact ⟨rfl, below_then hw1 s4⟩
  · have hb : (ev != 0) = true := by simpa using h0
    clear h0
    go_enter Try.func3, Try.ntmps3
    go_wp2_with fail
    refine (CR.out _ hb0).mono ?_
    rintro e w1 ⟨rfl, hb1⟩
    have hw1 := below_then hb0 hb1
    go_wp2
    go_ret
    exact ⟨rfl, hw1⟩
theorem lowerNeeds_law {v v' : Value} {w : World} {k k' : Nat} (h : ∃ (f : Fig) (sa : Option Addr) (sc : Nat) (ga : Option Addr) (gc : Nat), v = f.val sa sc ga gc ∧ FigR w sa sc ga gc f ∧ f.weight ≤ k)
    (h' : ∃ (l : List Int) (a : Option Addr) (c : Nat), v' = .slice a l.length c ∧ IntsR w a c l ∧ l.length + 1 ≤ k') (hk : k ≤ 1048576) (_ : k' ≤ 1048576) :
    Calls Try.prog 3 #[v, v'] w fun r w' => r = .returned (.bool true) ∧ Below w.heap.size w w' := by
  obtain ⟨f, sa, sc, ga, gc, rfl, hr, hw⟩ := h
  obtain ⟨l, a, c, rfl, hi, hl⟩ := h'
  exact lowerNeeds_fig f l sa sc ga gc a c w hr hi (Fig.few_of (by omega))
end Go.Proofs.Ytmlldjcbijoheaa
