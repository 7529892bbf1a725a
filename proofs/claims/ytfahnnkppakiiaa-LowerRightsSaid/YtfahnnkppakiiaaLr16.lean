/- The row of the law LowerRights: for every input the call returns true, and each argument reads behind the call as it read before. Condition: none. -/
import Derived.Test.YtfahnnkppakiiaaLr15
import Derived.Test.YtfahnnkppakiiaaLr8
import Derived.Test.YtfahnnkppakiiaaLr1
import Derived.JoinedCond
import Derived.ChangeMaps5

/- The walk of LowerRights. -/
namespace Go.Proofs.Ytfahnnkppakiiaa
open Go.RowKit

theorem few_of_fits {f : Fig} (h : f.fits = true) : f.few := by
  unfold Fig.fits at h
  simp only [Bool.and_eq_true, List.all_eq_true] at h
  obtain ⟨⟨⟨h1, h2⟩, _⟩, _⟩ := h
  refine ⟨fun s hs => ?_, fun g hg => ?_⟩
  · have := h1 s hs
    unfold fitS at this
    simp only [Bool.and_eq_true, decide_eq_true_eq] at this
    exact ⟨by omega, by omega⟩
  · have := h2 g hg
    unfold fitS at this
    simp only [Bool.and_eq_true, decide_eq_true_eq] at this
    exact ⟨by omega, by omega⟩
set_option maxRecDepth 100000 in
set_option maxHeartbeats 2000000 in
theorem lowerRights_fig (f : Fig) (k : Int) (sa : Option Addr) (sc : Nat) (ga : Option Addr) (gc : Nat) (w : World) (h : FigR w sa sc ga gc f) :
    Calls Try.prog 5 #[f.val sa sc ga gc, .int .i64 k] w fun e w' => e = .returned (.bool true) ∧ Below w.heap.size w w' := by
  have CF := fun W (hW : Below w.heap.size w W) => fits_any f sa sc ga gc W (h.ext (Ext.below hW))
  have CA := fun W => arityL_any k W
  have CB := fun W => arity20_any k W
  obtain ⟨ar, har⟩ : ∃ x, arity20 k = x := ⟨_, rfl⟩
  rw [har] at CA CB
  obtain ⟨b, hb⟩ : ∃ x, f.fits = x := ⟨_, rfl⟩
  rw [hb] at CF
  replace CF := Lib.hid CF
  replace CA := Lib.hid CA
  replace CB := Lib.hid CB
  have HF := Lib.hid h
  clear h har
  have hz := Blk.new w 41 #[.slice sa f.steps.length sc, .slice ga f.goals.length gc]
  have hb0 : Below w.heap.size w (w.alloc (.cells #[.slice sa f.steps.length sc, .slice ga f.goals.length gc] 41)) := (Below.refl _ _).alloc (Nat.le_refl _) _
  unfold Fig.val at CF ⊢
  cases b
  · clear hb
    go_enter Try.func5, Try.ntmps5
    go_wp2
    revert hz hb0
    generalize w.alloc (.cells #[.slice sa f.steps.length sc, .slice ga f.goals.length gc] 41) = w1
    intro hz hw1
    have z0 := fun w' (hw' : Below w1.heap.size w1 w') => (hz.below' hw').cell 0
    have z1 := fun w' (hw' : Below w1.heap.size w1 w') => (hz.below' hw').cell 1
    clear hz
    have s0 : Below w1.heap.size w1 w1.drew := (Below.refl _ _).drew
    refine wp_region_mix (S := Below w1.heap.size w1) [(0, .q), (2, .q), (1, .l), (3, .l), (4, .q), (5, .q), (6, .q), (7, .l), (8, .q), (9, .q), (10, .q), (12, .q), (11, .l), (13, .t), (14, .p), (15, .p), (16, .p), (17, .p)] (by kernel_rfl) (by kernel_rfl) (by kernel_rfl) (fun d _ _ _ _ h => by cases d <;> exact h) (s0) ?_
    iterate 2 (refine wpMix_q rfl rfl (fun K hK => ?_); apply Exists.intro; refine ⟨fun w' hw' => ?_, ?_⟩; (focus (go_simp; try rfl)); go_simp; refine hK _ _ ?_; clear hK K)
    refine wpMix_l rfl rfl (fun K hK => ?_)
    go_simp
    refine (CA.out _).mono ?_
    rintro r w2 ⟨rfl, rfl⟩
    dsimp only
    refine hK.out _ _ (s0) (fun _ => ?_)
    clear hK K
    refine wpMix_l rfl rfl (fun K hK => ?_)
    go_simp
    refine (CB.out _).mono ?_
    rintro r w2 ⟨rfl, rfl⟩
    dsimp only
    refine hK.out _ _ (s0) (fun _ => ?_)
    clear hK K
    iterate 3 (refine wpMix_q rfl rfl (fun K hK => ?_); apply Exists.intro; refine ⟨fun w' hw' => ?_, ?_⟩; (focus (go_simp; try rfl)); go_simp; refine hK _ _ ?_; clear hK K)
    refine wpMix_l rfl rfl (fun K hK => ?_)
    go_simp
    refine (CF.out _ (below_then hw1 s0)).mono ?_
    rintro r w2 ⟨rfl, hb2⟩
    dsimp only
    refine hK.out _ _ (below_then s0 hb2) (fun _ => ?_)
    clear hK K
    have s2 := below_then s0 hb2
    iterate 2 (refine wpMix_q rfl rfl (fun K hK => ?_); apply Exists.intro; refine ⟨fun w' hw' => ?_, ?_⟩; (focus (go_simp; try rfl)); go_simp; refine hK _ _ ?_; clear hK K)
    iterate 5 (refine wpMix_skip rfl rfl (fun K hK => ?_); go_simp; refine hK _ _ ?_; clear hK K)
    iterate 3 (refine wpMix_p rfl rfl (fun K hK => ?_); apply Exists.intro; refine ⟨fun w' => ?_, ?_⟩; (focus (go_simp; try rfl)); go_simp; refine hK _ _ ?_; clear hK K)
    refine wpMix_nil ?_
    go_wp2
    go_ret
    exact ⟨rfl, below_then hw1 s2⟩
  · have hq := few_of_fits hb
    have C1 := fun W (hW : Below w.heap.size w W) => rightL_any f sa sc ga gc W (HF.out.ext (Ext.below hW)) hq
    have C2 := fun W (hW : Below w.heap.size w W) => right20_any f sa sc ga gc W (HF.out.ext (Ext.below hW)) hq
    clear hb hq
    revert C1 C2
    generalize f.err = ev
    intro C1 C2
    unfold Fig.val at C1 C2
    replace C1 := Lib.hid C1; replace C2 := Lib.hid C2
    go_enter Try.func5, Try.ntmps5
    go_wp2
    revert hz hb0
    generalize w.alloc (.cells #[.slice sa f.steps.length sc, .slice ga f.goals.length gc] 41) = w1
    intro hz hw1
    have z0 := fun w' (hw' : Below w1.heap.size w1 w') => (hz.below' hw').cell 0
    have z1 := fun w' (hw' : Below w1.heap.size w1 w') => (hz.below' hw').cell 1
    clear hz
    have s0 : Below w1.heap.size w1 w1.drew := (Below.refl _ _).drew
    refine wp_region_mix (S := Below w1.heap.size w1) [(0, .q), (2, .q), (1, .l), (3, .l), (4, .q), (5, .q), (6, .q), (7, .l), (8, .q), (9, .q), (10, .q), (12, .q), (11, .l), (13, .t), (14, .p), (15, .p), (16, .p), (17, .p)] (by kernel_rfl) (by kernel_rfl) (by kernel_rfl) (fun d _ _ _ _ h => by cases d <;> exact h) (s0) ?_
    iterate 2 (refine wpMix_q rfl rfl (fun K hK => ?_); apply Exists.intro; refine ⟨fun w' hw' => ?_, ?_⟩; (focus (go_simp; try rfl)); go_simp; refine hK _ _ ?_; clear hK K)
    refine wpMix_l rfl rfl (fun K hK => ?_)
    go_simp
    refine (CA.out _).mono ?_
    rintro r w2 ⟨rfl, rfl⟩
    dsimp only
    refine hK.out _ _ (s0) (fun _ => ?_)
    clear hK K
    refine wpMix_l rfl rfl (fun K hK => ?_)
    go_simp
    refine (CB.out _).mono ?_
    rintro r w2 ⟨rfl, rfl⟩
    dsimp only
    refine hK.out _ _ (s0) (fun _ => ?_)
    clear hK K
    iterate 3 (refine wpMix_q rfl rfl (fun K hK => ?_); apply Exists.intro; refine ⟨fun w' hw' => ?_, ?_⟩; (focus (go_simp; try rfl)); go_simp; refine hK _ _ ?_; clear hK K)
    refine wpMix_l rfl rfl (fun K hK => ?_)
    go_simp
    refine (CF.out _ (below_then hw1 s0)).mono ?_
    rintro r w2 ⟨rfl, hb2⟩
    dsimp only
    refine hK.out _ _ (below_then s0 hb2) (fun _ => ?_)
    clear hK K
    have s2 := below_then s0 hb2
    iterate 4 (refine wpMix_q rfl rfl (fun K hK => ?_); apply Exists.intro; refine ⟨fun w' hw' => ?_, ?_⟩; (focus (go_simp; try rfl)); go_simp; refine hK _ _ ?_; clear hK K)
    refine wpMix_l rfl rfl (fun K hK => ?_)
    go_simp
    refine (C1.out _ (below_then hw1 s2)).mono ?_
    rintro r w3 ⟨rfl, hb3⟩
    dsimp only
    refine hK.out _ _ (below_then s2 hb3) (fun _ => ?_)
    clear hK K
    have s3 := below_then s2 hb3
    refine wpMix_t rfl rfl (fun K hK => ?_)
    go_simp
    refine (C2.out _ (below_then hw1 s3)).mono ?_
    rintro r w4 ⟨rfl, hb4⟩
    dsimp only
    refine hK.out _ _ ?_
    clear hK K
    have s4 := below_then s3 hb4
    iterate 4 (refine wpMix_p rfl rfl (fun K hK => ?_); apply Exists.intro; refine ⟨fun w' => ?_, ?_⟩; (focus (go_simp; try rfl)); go_simp; refine hK _ _ ?_; clear hK K)
    refine wpMix_nil ?_
    go_wp2
    go_ret
    exact ⟨by simp, below_then hw1 s4⟩
theorem lowerRights_law {v : Value} {w : World} {m : Nat} (h : ∃ (f : Fig) (sa : Option Addr) (sc : Nat) (ga : Option Addr) (gc : Nat), v = f.val sa sc ga gc ∧ FigR w sa sc ga gc f ∧ f.weight ≤ m) (k : Int) (_ : (Lit.int .i64 k).wf = true) :
    Calls Try.prog 5 #[v, .int .i64 k] w fun r w' => r = .returned (.bool true) ∧ Below w.heap.size w w' := by
  obtain ⟨f, sa, sc, ga, gc, rfl, hr, _⟩ := h
  exact lowerRights_fig f k sa sc ga gc w hr
end Go.Proofs.Ytfahnnkppakiiaa

/- How a law's row is closed: the call answers true and turns nothing that was there before, so each argument reads as it did. No function of the program in sight. -/
namespace Go.Proofs.Ytfahnnkppakiiaa
open Go.ChangeShapes Go.WideShapes Go.ChangeAt Go.RowKit

theorem trodAll_below {H : Type} {enc : TypeId × Value → H} {P : Program} (hl : laidOutB P = true) {W W' : World} (hB : Below W.heap.size W W') :
    ∀ (ts : List TypeId) (vs : List Value) (ds : List (DataW H)) (p : List MemPlace), (ts.all fun t => P.readableRec t && decide (t < P.types.size)) = true →
      (∀ x ∈ p, x.block < W.heap.size) → DataW.TrodAll enc P W 0 (fun _ => true) true ts vs ds p → DataW.TrodAll enc P W' 0 (fun b => decide (b < W.heap.size)) true ts vs ds p := by
  intro ts
  induction ts with
  | nil => intro vs ds p _ _ h; cases vs <;> cases ds <;> first | exact h | exact h.elim
  | cons t ts ih =>
    intro vs ds p ha hp h
    cases vs with
    | nil => exact h.elim
    | cons v vs =>
      cases ds with
      | nil => exact h.elim
      | cons d ds =>
        obtain ⟨p1, q1, h1, h2, rfl⟩ := h
        simp only [List.all_cons, Bool.and_eq_true, decide_eq_true_eq] at ha
        exact ⟨p1, q1, Below.trod hl ha.1.1 ha.1.2 h1 hB (fun x hx => hp x (by simp [hx])), ih vs ds q1 ha.2 (fun x hx => hp x (by simp [hx])) h2, rfl⟩

theorem law_post {H : Type} {enc : TypeId × Value → H} {P : Program} {f : Func} {s : ChangeSpec} {W W' : World} {args : Array Value} {ds gs : List (DataW H)} {before : List MemPlace} {tb : TypeId}
    (hl : laidOutB P = true) (hts : (f.params.toList.all fun t => P.readableRec t && decide (t < P.types.size)) = true) (hr : f.resultTypes = #[tb]) (hb : P.underlying tb = some .bool) (hv : s.vars = [])
    (hW : DataW.Whole enc P f.params.toList s.vars false W args.toList ds gs before) (hfn : s.fn H (ds ++ gs) = { results := [.lit (.bool true)], args := ds, vars := [] })
    (hB : Below W.heap.size W W') : s.post enc P f false true false false W args (.bool true) W' := by
  have hlt := hW.lt
  have hW0 := hW
  obtain ⟨p, q, hA, hV, rfl, _, _⟩ := hW
  rw [hv] at hV
  obtain ⟨rfl, rfl⟩ := trodVars_none hV
  refine ⟨ds, _, _, [], p, [], hW0, ?_, ?_, ?_, hB.frame _, fun h => by cases h⟩
  · rw [hfn, hr]
    exact trodAll_mk1 (shut_bool hb true)
  · rw [hfn]
    exact trodAll_below hl hB _ _ _ _ hts (fun x hx => by simpa using hlt x (by simp [hx])) hA
  · rw [hfn, hv]
    rfl
end Go.Proofs.Ytfahnnkppakiiaa

/- The row of the law LowerRights: for every input the call returns true, and each argument reads behind the call as it read before. Condition: none. -/
namespace Go.Proofs.Ytfahnnkppakiiaa.lowerRights
open Go.ChangeShapes Go.WideShapes Go.ChangeAt Go.RowKit
set_option linter.unusedVariables false

theorem own : ownKnob Try.prog.godebug = none := by kernel_rfl
theorem laidOut : laidOutB Try.prog = true := by kernel_rfl
theorem readable : (Try.f5.params.toList.all fun t => Try.prog.readableRec t && decide (t < Try.prog.types.size)) = true := by kernel_rfl

set_option maxRecDepth 100000 in
theorem contract (H : Type) (enc : TypeId × Value → H) (W : World) (base : Nat) (args : Array Value) (ds gs : List (DataW H)) (before : List MemPlace)
    (hval : ∀ (j : Nat) t v, Try.f5.params[j]? = some t → args[j]? = some v → Value.okWide Try.prog W .any base t v)
    (hW : DataW.Whole enc Try.prog Try.f5.params.toList Rows.lowerRightsSpec.vars false W args.toList ds gs before) :
    Calls Try.prog 5 args W fun e W' => ∃ v, e = .returned v ∧ Rows.lowerRightsSpec.post enc Try.prog Try.f5 false true false false W args v W' := by
  have hW' := hW
  obtain ⟨p, q, hA0, hV, rfl, hfz, hnd⟩ := hW
  have hA : DataW.TrodAll enc Try.prog W 0 (fun _ => true) true Try.f5.params.toList args.toList ds p := hA0
  rw [Try.params5] at hA hval
  obtain ⟨v0, vs0, d0, ds0, p0, q0, hargs, rfl, rfl, h0, r0⟩ := trodAll_cons hA
  obtain ⟨v1, vs1, d1, ds1, p1, q1, rfl, rfl, rfl, h1, r1⟩ := trodAll_cons r0
  obtain ⟨rfl, rfl, rfl⟩ := trodAll_nil r1
  obtain rfl : args = #[v0, v1] := by cases args; simp_all
  obtain ⟨rfl, rfl⟩ := trodVars_none hV
  clear hA0 hA r0 r1
  have hx0 := open_figure (hval 0 41 v0 rfl rfl) h0
  obtain ⟨a1, rfl, rfl, rfl, wa1⟩ := open_int Try.underlying3 (hval 1 3 v1 rfl rfl) h1
  refine (lowerRights_law hx0 a1 wa1).mono fun e W' ⟨he, hg⟩ => ?_
  subst he
  exact ⟨_, rfl, law_post laidOut readable (by kernel_rfl) Try.underlying4 rfl hW' (by rfl) hg⟩

set_option maxRecDepth 100000 in
theorem lifted (os : Os) (started : os.Started) (H : Type) (enc : TypeId × Value → H) :
    ReturnsInHanded {} Try.checked os 5 .any (Rows.lowerRightsSpec.pre6 enc Try.prog Try.f5 Rows.lowerRightsRow.domain false) (Rows.lowerRightsSpec.post enc Try.prog Try.f5 false true false false) := by
  refine returnsInHanded_of_change (C := Try.checked) own started (by kernel_rfl) Try.func5
    (ChangeSpec.witness6 (enc := enc) (C := Try.checked) false ⟨#[], #[.agg #[.slice none 0 0, .slice none 0 0], .int .i64 0], []⟩ 8 (by kernel_rfl) (by kernel_rfl) (by kernel_rfl) (by kernel_rfl)) ?_
  intro W base args ds gs before hval hW _ _
  exact contract H enc W base args ds gs before hval hW

theorem proved : Rows.LowerRightsSaid :=
  OpenClaim.holds_of_wide 5 Try.f5 rfl rfl rfl rfl rfl rfl rfl ⟨rfl, rfl, rfl, rfl, rfl⟩ rfl rfl rfl rfl rfl (by kernel_rfl) Try.func5 (by kernel_rfl)
    (of_decide_eq_true (by kernel_rfl)) (by unfold Func.isWrapper; first | (rw [if_pos (by decide +kernel)]; kernel_rfl) | (rw [if_neg (by decide +kernel)]; exact ⟨rfl, rfl⟩))
    (fun os started H enc _ => lifted os started H enc)
#print axioms proved
end Go.Proofs.Ytfahnnkppakiiaa.lowerRights
