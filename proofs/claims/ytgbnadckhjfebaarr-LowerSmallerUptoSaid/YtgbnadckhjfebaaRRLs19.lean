/- The row of the law LowerSmaller: for each input the call returns true, and each argument reads behind the call as it read before. Condition: the arguments hold together at most 1048576 values and letters. -/
import Derived.Test.YtgbnadckhjfebaaRRLs8
import Derived.Test.YtgbnadckhjfebaaRRLs9
import Derived.Test.YtgbnadckhjfebaaRRLs10
import Derived.Test.YtgbnadckhjfebaaRRLs17
import Derived.Test.YtgbnadckhjfebaaRRLs18
import Derived.Test.YtgbnadckhjfebaaRRLs1
import Derived.JoinedCond
import Derived.ChangeMaps5

/- The walk of LowerSmaller. -/
namespace Go.Proofs.YtgbnadckhjfebaaRR
open Go.RowKit

theorem pruned_few {f : Fig} (h : f.err = 0) {g : Fct} (hg : g ∈ f.goals) (hq : f.few) : (pruned f g).few := by
  refine ⟨fun t ht => ?_, fun t ht => ?_⟩
  · obtain ⟨k, hk⟩ := List.mem_iff_getElem?.1 ht
    have hk' : (prunedSteps f.steps (needs f.steps g.args) (needs f.steps g.args))[k]? = some t := hk
    obtain ⟨i, s, _, hs, rfl⟩ := small_get (Fig.needy h hg) hk'
    exact hq.1 s (List.mem_of_getElem? hs)
  · have ht' : t ∈ [g.with (placed (needs f.steps g.args) g.args)] := ht
    obtain rfl := List.mem_singleton.1 ht'
    exact hq.2 g hg
set_option maxRecDepth 100000 in
set_option maxHeartbeats 8000000 in
theorem lowerSmaller_fig (f : Fig) (goal : Int) (sa : Option Addr) (sc : Nat) (ga : Option Addr) (gc : Nat) (w : World) (h : FigR w sa sc ga gc f) (hq : f.few) (hi : InInt goal) :
    Calls Try.prog 3 #[f.val sa sc ga gc, .int .i64 goal] w fun e w' => e = .returned (.bool true) ∧ Below w.heap.size w w' := by
  have CR := fun W (hW : Below w.heap.size w W) => right20_any f sa sc ga gc W (h.ext (Ext.below hW)) hq
  have hlg := h.2.len
  have hls := h.1.len
  have HF := Lib.hid h
  obtain ⟨ev, hev⟩ : ∃ x, f.err = x := ⟨_, rfl⟩
  rw [hev] at CR
  have HEV := Lib.hid hev
  have HQ := Lib.hid hq
  replace CR := Lib.hid CR
  clear h hq hev
  have hz := Blk.new w 25 #[.slice sa f.steps.length sc, .slice ga f.goals.length gc]
  have hb0 : Below w.heap.size w (w.alloc (.cells #[.slice sa f.steps.length sc, .slice ga f.goals.length gc] 25)) := (Below.refl _ _).alloc (Nat.le_refl _) _
  by_cases h0 : ev = 0
  case neg =>
    have hb : (ev != 0) = true := by simpa using h0
    clear h0
    unfold Fig.val at CR ⊢
    go_enter Try.func3, Try.ntmps3
    go_wp2_with fail
    refine (CR.out _ hb0).mono ?_
    rintro e w1 ⟨rfl, hb1⟩
    have hw1 := below_then hb0 hb1
    go_wp2
    go_ret
    exact ⟨rfl, hw1⟩
  subst h0
  have hok := fun (k : Nat) (s : Step) (hk : f.steps[k]? = some s) => Fig.args_of HEV.out hk
  have hlens := Fig.lens HEV.out
  by_cases hbad : goal < 0 ∨ (f.goals.length : Int) ≤ goal
  · have C1 := fun W => prune_err f goal sa sc ga gc W W hlg hbad hi
    unfold RetFig Fig.val at C1
    unfold Fig.val at CR ⊢
    replace C1 := Lib.hid C1
    obtain ⟨hi1, hi2⟩ := hi
    by_cases hneg : goal < 0
    all_goals
      first
        | have hge : (f.goals.length : Int) ≤ goal := by omega
        | skip
      clear hbad hok hlens
      go_enter Try.func3, Try.ntmps3
      go_wp2_with fail
      revert hz hb0
      generalize w.alloc (.cells #[.slice sa f.steps.length sc, .slice ga f.goals.length gc] 25) = w0
      intro hz hb0
      refine (CR.out _ hb0).mono ?_
      rintro e w1 ⟨rfl, hb1⟩
      have hw1 := below_then hb0 hb1
      have hz1 := hz.below' hb1
      have z0 := hz1.cell 0; have z1 := hz1.cell 1
      clear hb1 hb0 hz CR
      go_wp2_with fail
      refine (C1.out _).mono ?_
      rintro e w2 ⟨pa, pc, qa, qc, rfl, hb2, _⟩
      have hw2 := below_then hw1 hb2
      have hz2 := hz1.below' hb2
      have y0 := hz2.cell 0; have y1 := hz2.cell 1
      have hzl := hz2.lt
      have hzl2 : w.heap.size < w2.heap.size + 1 := by omega
      have hwF : Below w.heap.size w (w2.alloc (.cells #[.slice pa 0 pc, .slice qa 0 qc] 25)) := hw2.alloc hw2.size _
      clear hb2 hz1 z0 z1 C1
      go_wp2
      go_ret
      exact ⟨rfl, by simpa using hwF⟩
  obtain ⟨n, rfl⟩ : ∃ n : Nat, goal = n := ⟨goal.toNat, by omega⟩
  obtain ⟨g, hg⟩ := get_of_lt (xs := f.goals) (k := n) (by omega)
  have hgm := List.mem_of_getElem? hg
  have hgl := hlens.2.1 g hgm
  have C1 := fun W (hW : Below w.heap.size w W) => prune_ok f n g sa sc ga gc W (HF.out.ext (Ext.below hW)) hlens.2.2 hok hg hlens.1 hgl
  have p1 := pruned_err HEV.out hgm
  have p2 := pruned_len HEV.out hgm
  have p3 := pruned_needs HEV.out hgm
  have p4 := pruned_again HEV.out hgm
  have p5 := pruned_few HEV.out hgm HQ.out
  have p6 : (pruned f g).goals = [g.with (placed (needs f.steps g.args) g.args)] := rfl
  revert C1 p1 p2 p3 p4 p5 p6
  generalize pruned f g = P
  generalize hg' : g.with (placed (needs f.steps g.args) g.args) = g'
  have e3 : placed (needs f.steps g.args) g.args = g'.args := by rw [← hg']; rfl
  rw [e3]
  intro C1 p1 p2 p3 p4 p5 p6
  obtain ⟨ps, pg⟩ := P
  dsimp only at p2 p3 p6
  subst p6
  have hok2 := fun (k : Nat) (s : Step) (hk : ps[k]? = some s) => Fig.args_of p1 hk
  have hlens2 := Fig.lens p1
  dsimp only at hlens2
  have CR2 := fun pa pc qa qc W hF => rightL_any ⟨ps, [g']⟩ pa pc qa qc W hF p5
  rw [p1] at CR2
  have CN := fun pa pc qa qc aa ac W hF hI => needs_any ⟨ps, [g']⟩ g'.args pa pc qa qc aa ac W hF hI hlens2.2.2 hok2
  dsimp only at CN
  rw [p3] at CN
  unfold RetI at CN
  simp only [List.length_map, List.length_range] at CN
  have C2 := fun pa pc qa qc W hF => prune_ok ⟨ps, [g']⟩ 0 g' pa pc qa qc W hF hlens2.2.2 hok2 rfl hlens2.1 (hlens2.2.1 g' (by simp))
  rw [p4] at C2
  have CS := fun pa pc qa qc pa' pc' qa' qc' W hF hF' => same20_eq ⟨ps, [g']⟩ pa pc qa qc pa' pc' qa' qc' W hF hF'
  have h40 := hlens2.2.2
  have h41 := hlens.2.2
  clear p1 p3 p4 p5 hok hok2 hlens hlens2 hg hgm hgl hg' e3 HEV HQ HF
  unfold RetFig at C1 C2
  unfold Fig.val at C1 C2 CR CR2 CN CS ⊢
  dsimp only [List.length_cons, List.length_nil] at C1 C2 CR2 CN CS
  replace C1 := Lib.hid C1; replace C2 := Lib.hid C2; replace CR2 := Lib.hid CR2; replace CN := Lib.hid CN; replace CS := Lib.hid CS
  have hn0 : (n : Int) < (f.goals.length : Int) := by omega
  clear hbad
  go_enter Try.func3, Try.ntmps3
  go_wp2_with fail
  revert hz hb0
  generalize w.alloc (.cells #[.slice sa f.steps.length sc, .slice ga f.goals.length gc] 25) = w0
  intro hz hb0
  refine (CR.out _ hb0).mono ?_
  rintro e w1 ⟨rfl, hb1⟩
  have hw1 := below_then hb0 hb1
  have hz1 := hz.below' hb1
  have z0 := hz1.cell 0; have z1 := hz1.cell 1
  clear hb1 hb0 hz CR
  go_wp2_with fail
  refine (C1.out _ hw1).mono ?_
  rintro e w2 ⟨pa, pc, qa, qc, rfl, hb2, hV2⟩
  have hw2 := below_then hw1 hb2
  have hz2 := hz1.below' hb2
  have HV2 := Lib.hid hV2
  clear z0 z1 hV2
  have hy := Blk.new w2 25 #[.slice pa ps.length pc, .slice qa 1 qc]
  have hbA : Below w2.heap.size w2 (w2.alloc (.cells #[.slice pa ps.length pc, .slice qa 1 qc] 25)) := (Below.refl _ _).alloc (Nat.le_refl _) _
  have z0 := hz2.cell 0; have z1 := hz2.cell 1
  have hzl := hz2.lt
  go_wp2_with fail
  revert hy hbA
  generalize w2.alloc (.cells #[.slice pa ps.length pc, .slice qa 1 qc] 25) = w3
  intro hy hbA
  have hw3 := below_then hw2 hbA
  have hF3 : FigR w3 pa pc qa qc ⟨ps, [g']⟩ := HV2.out w3 (Ext.below (below_then hb2 hbA)) ((New.refl _ _).below hbA)
  refine (CR2.out pa pc qa qc w3 hF3).mono ?_
  rintro e w4 ⟨rfl, hb4⟩
  have hw4 := below_then hw3 hb4
  have hy4 := hy.below' hb4
  have hz4 := (hz2.below' hbA).below' hb4
  have hF4 := hF3.ext (Ext.below hb4)
  clear z0 z1 hzl hy hz2 hbA hb4 hb2 hF3 CR2 C1 HV2
  have z0 := hz4.cell 0; have z1 := hz4.cell 1; have y0 := hy4.cell 0; have y1 := hy4.cell 1
  obtain ⟨bg, og, rfl, p, hC, hP, _⟩ := hF4.2.2.2 0 g' rfl
  have hC1 : w4.cell? ⟨bg, og + 1, none⟩ = some (.slice p.aa g'.args.length p.ac) := by have := hC.2.1; simpa using this
  have hple : decide ((f.steps.length : Int) < (ps.length : Int)) = false := by simp; omega
  have hple2 : decide (f.steps.length < ps.length) = false := by simp; omega
  have hpI : (ps.length : Int) ≤ (f.steps.length : Int) := by omega
  go_wp2
  clear z0 z1 y0 y1
  have z0 := held (hz4.cell 0); have z1 := held (hz4.cell 1); have y0 := held (hy4.cell 0); have y1 := held (hy4.cell 1); have k5 := held hC1
  have s0 : Below w4.heap.size w4 w4.drew := (Below.refl _ _).drew
  refine wp_region_mix (S := Below w4.heap.size w4) [(0, .q), (1, .q), (2, .q), (3, .q), (4, .q), (5, .q), (8, .q), (9, .q), (10, .q), (6, .l), (7, .q), (11, .p)] (by kernel_rfl) (by kernel_rfl) (by kernel_rfl) (fun d _ _ _ _ h => by cases d <;> exact h) (s0) ?_
  iterate 9 (refine wpMix_q rfl rfl (fun K hK => ?_); apply Exists.intro; refine ⟨fun w' hw' => ?_, ?_⟩; (focus (go_simp; try rfl)); go_simp; refine hK _ _ ?_; clear hK K)
  refine wpMix_l rfl rfl (fun K hK => ?_)
  go_simp
  refine (CN.out pa pc _ qc p.aa p.ac _ (hF4.ext (Ext.below s0)) (hP.1.ext (Ext.below s0))).mono ?_
  rintro r w5 ⟨a5, c5, rfl, ho5, hb5⟩
  dsimp only
  refine hK.out _ _ (below_then s0 hb5) (fun _ => ?_)
  clear hK K
  iterate 1 (refine wpMix_q rfl rfl (fun K hK => ?_); apply Exists.intro; refine ⟨fun w' hw' => ?_, ?_⟩; (focus (go_simp; try rfl)); go_simp; refine hK _ _ ?_; clear hK K)
  iterate 1 (refine wpMix_p rfl rfl (fun K hK => ?_); apply Exists.intro; refine ⟨fun w' => ?_, ?_⟩; (focus (go_simp; try rfl)); go_simp; refine hK _ _ ?_; clear hK K)
  refine wpMix_nil ?_
  have s5 := below_then s0 hb5
  have hw5 := below_then hw4 s5
  have hy5 := hy4.below' s5
  have hF5 := hF4.ext (Ext.below s5)
  clear z0 z1 y0 y1 k5 ho5 hb5 hC hP hC1
  have y0 := hy5.cell 0; have y1 := hy5.cell 1
  have C3 := C2.out pa pc _ qc w5 hF5
  have e0 : ((0 : Nat) : Int) = 0 := rfl
  rw [e0] at C3
  replace C3 := Lib.hid C3
  go_wp2_with fail
  refine C3.out.mono ?_
  rintro e w6 ⟨pa', pc', qa', qc', rfl, hb6, hV6⟩
  have hw6 := below_then hw5 hb6
  have hy6 := hy5.below' hb6
  have HV6 := Lib.hid hV6
  clear y0 y1 hV6 C2 C3 CN
  have hx := Blk.new w6 25 #[.slice pa' ps.length pc', .slice qa' 1 qc']
  have hbB : Below w6.heap.size w6 (w6.alloc (.cells #[.slice pa' ps.length pc', .slice qa' 1 qc'] 25)) := (Below.refl _ _).alloc (Nat.le_refl _) _
  have y0 := hy6.cell 0; have y1 := hy6.cell 1
  have hyl := hy6.lt
  go_wp2_with fail
  revert hx hbB
  generalize w6.alloc (.cells #[.slice pa' ps.length pc', .slice qa' 1 qc'] 25) = w7
  intro hx hbB
  have hw7 := below_then hw6 hbB
  have hA : FigR w7 pa pc _ qc ⟨ps, [g']⟩ := hF5.ext (Ext.below (below_then hb6 hbB))
  have hB : FigR w7 pa' pc' qa' qc' ⟨ps, [g']⟩ := HV6.out w7 (Ext.below (below_then hb6 hbB)) ((New.refl _ _).below hbB)
  have CS2 := CS.out _ _ _ _ _ _ _ _ w7 hA hB
  replace CS2 := Lib.hid CS2
  clear hA hB
  refine CS2.out.mono ?_
  rintro e w8 ⟨rfl, hb8⟩
  have hw8 := below_then hw7 hb8
  go_wp2
  go_ret
  exact ⟨rfl, hw8⟩
theorem lowerSmaller_law {v : Value} {w : World} {k : Nat} (h : ∃ (f : Fig) (sa : Option Addr) (sc : Nat) (ga : Option Addr) (gc : Nat), v = f.val sa sc ga gc ∧ FigR w sa sc ga gc f ∧ f.weight ≤ k)
    (goal : Int) (hg : (Lit.int .i64 goal).wf = true) (hk : k ≤ 1048576) :
    Calls Try.prog 3 #[v, .int .i64 goal] w fun r w' => r = .returned (.bool true) ∧ Below w.heap.size w w' := by
  obtain ⟨f, sa, sc, ga, gc, rfl, hr, hw⟩ := h
  exact lowerSmaller_fig f goal sa sc ga gc w hr (Fig.few_of (by omega)) (inInt_of hg)
end Go.Proofs.YtgbnadckhjfebaaRR

/- How a law's row is closed: the call answers true and turns nothing that was there before, so each argument reads as it did. No function of the program in sight. -/
namespace Go.Proofs.YtgbnadckhjfebaaRR
open Go.ChangeShapes Go.WideShapes Go.ChangeAt Go.RowKit

theorem trodAll_below {H : Type} {enc : TypeId × Value → H} {P : Program} (hl : laidOutB P = true) {W W' : World} (hB : Below W.heap.size W W') :
    ∀ (ts : List TypeId) (vs : List Value) (ds : List (DataW H)) (p : List MemPlace), (ts.all fun t => P.readableRec t && decide (t < P.types.size)) = true →
      (∀ x ∈ p, x.block < W.heap.size) → DataW.TrodAll enc P W 0 (fun _ => true) true ts vs ds p → DataW.TrodAll enc P W' 0 (fun b => decide (b < W.heap.size)) true ts vs ds p := by
  intro ts
  induction ts with
  | nil => intro vs ds p _ _ h; cases vs <;> cases ds <;> first | exact h | exact h.elim
  | cons t ts ih =>
    intro vs ds p ha hp h
    cases vs with
    | nil => exact h.elim
    | cons v vs =>
      cases ds with
      | nil => exact h.elim
      | cons d ds =>
        obtain ⟨p1, q1, h1, h2, rfl⟩ := h
        simp only [List.all_cons, Bool.and_eq_true, decide_eq_true_eq] at ha
        exact ⟨p1, q1, Below.trod hl ha.1.1 ha.1.2 h1 hB (fun x hx => hp x (by simp [hx])), ih vs ds q1 ha.2 (fun x hx => hp x (by simp [hx])) h2, rfl⟩

theorem law_post {H : Type} {enc : TypeId × Value → H} {P : Program} {f : Func} {s : ChangeSpec} {W W' : World} {args : Array Value} {ds gs : List (DataW H)} {before : List MemPlace} {tb : TypeId}
    (hl : laidOutB P = true) (hts : (f.params.toList.all fun t => P.readableRec t && decide (t < P.types.size)) = true) (hr : f.resultTypes = #[tb]) (hb : P.underlying tb = some .bool) (hv : s.vars = [])
    (hW : DataW.Whole enc P f.params.toList s.vars false W args.toList ds gs before) (hfn : s.fn H (ds ++ gs) = { results := [.lit (.bool true)], args := ds, vars := [] })
    (hB : Below W.heap.size W W') : s.post enc P f false true false false W args (.bool true) W' := by
  have hlt := hW.lt
  have hW0 := hW
  obtain ⟨p, q, hA, hV, rfl, _, _⟩ := hW
  rw [hv] at hV
  obtain ⟨rfl, rfl⟩ := trodVars_none hV
  refine ⟨ds, _, _, [], p, [], hW0, ?_, ?_, ?_, hB.frame _, fun h => by cases h⟩
  · rw [hfn, hr]
    exact trodAll_mk1 (shut_bool hb true)
  · rw [hfn]
    exact trodAll_below hl hB _ _ _ _ hts (fun x hx => by simpa using hlt x (by simp [hx])) hA
  · rw [hfn, hv]
    rfl
end Go.Proofs.YtgbnadckhjfebaaRR

/- The row of the law LowerSmaller: for each input the call returns true, and each argument reads behind the call as it read before. Condition: the arguments hold together at most 1048576 values and letters. -/
namespace Go.Proofs.YtgbnadckhjfebaaRR.lowerSmallerUpto
open Go.ChangeShapes Go.WideShapes Go.ChangeAt Go.RowKit
set_option linter.unusedVariables false

theorem own : ownKnob Try.prog.godebug = none := by kernel_rfl
theorem laidOut : laidOutB Try.prog = true := by kernel_rfl
theorem readable : (Try.f3.params.toList.all fun t => Try.prog.readableRec t && decide (t < Try.prog.types.size)) = true := by kernel_rfl

set_option maxRecDepth 100000 in
theorem contract (H : Type) (enc : TypeId × Value → H) (W : World) (base : Nat) (args : Array Value) (ds gs : List (DataW H)) (before : List MemPlace)
    (hval : ∀ (j : Nat) t v, Try.f3.params[j]? = some t → args[j]? = some v → Value.okWide Try.prog W .any base t v)
    (hW : DataW.Whole enc Try.prog Try.f3.params.toList Rows.lowerSmallerSpec.vars false W args.toList ds gs before) (hk : Rows.uptoSmall H (ds ++ gs) = true) :
    Calls Try.prog 3 args W fun e W' => ∃ v, e = .returned v ∧ Rows.lowerSmallerSpec.post enc Try.prog Try.f3 false true false false W args v W' := by
  have hW' := hW
  obtain ⟨p, q, hA0, hV, rfl, hfz, hnd⟩ := hW
  have hA : DataW.TrodAll enc Try.prog W 0 (fun _ => true) true Try.f3.params.toList args.toList ds p := hA0
  rw [Try.params3] at hA hval
  obtain ⟨v0, vs0, d0, ds0, p0, q0, hargs, rfl, rfl, h0, r0⟩ := trodAll_cons hA
  obtain ⟨v1, vs1, d1, ds1, p1, q1, rfl, rfl, rfl, h1, r1⟩ := trodAll_cons r0
  obtain ⟨rfl, rfl, rfl⟩ := trodAll_nil r1
  obtain rfl : args = #[v0, v1] := by cases args; simp_all
  obtain ⟨rfl, rfl⟩ := trodVars_none hV
  clear hA0 hA r0 r1
  have hbulk := of_decide_eq_true hk
  simp only [List.cons_append, List.nil_append, Rows.uptoBulkAll] at hbulk
  have hx0 := open_figure (hval 0 25 v0 rfl rfl) h0
  obtain ⟨a1, rfl, rfl, rfl, wa1⟩ := open_int Try.underlying3 (hval 1 3 v1 rfl rfl) h1
  refine (lowerSmaller_law hx0 a1 wa1 (by omega)).mono fun e W' ⟨he, hg⟩ => ?_
  subst he
  exact ⟨_, rfl, law_post laidOut readable (by kernel_rfl) Try.underlying4 rfl hW' (by rfl) hg⟩

set_option maxRecDepth 100000 in
theorem lifted (os : Os) (started : os.Started) (H : Type) (enc : TypeId × Value → H) (F : Stop.Interp) :
    ReturnsInHanded {} Try.checked os 3 .any ((Rows.OpenSpec.upto Rows.lowerSmallerSpec).pre6 enc Try.prog Try.f3 Rows.lowerSmallerUptoRow.domain false) (((Rows.OpenSpec.upto Rows.lowerSmallerSpec).at F).post enc Try.prog Try.f3 false true false false) := by
  refine returnsInHanded_of_cond (C := Try.checked) (s := Rows.OpenSpec.upto Rows.lowerSmallerSpec) (k := Rows.uptoSmall) rfl own started (by kernel_rfl) Try.func3
    (OpenSpec.witness (enc := enc) (C := Try.checked) (s := Rows.OpenSpec.upto Rows.lowerSmallerSpec) (k := Rows.uptoSmall) rfl false ⟨#[], #[.agg #[.slice none 0 0, .slice none 0 0], .int .i64 0], []⟩ 8 (by kernel_rfl) (by kernel_rfl) (by kernel_rfl)
      (x := ([.agg [.nil, .nil], .lit (.int .i64 0)], [], [])) (by kernel_rfl) rfl (by kernel_rfl)) ?_
  intro W base args ds gs before hval hW _ hk _
  exact contract H enc W base args ds gs before hval hW hk

theorem proved : Rows.LowerSmallerUptoSaid :=
  OpenClaim.holds_of_cond 3 Try.f3 rfl rfl rfl rfl rfl rfl rfl ⟨rfl, rfl, rfl, rfl, rfl⟩ rfl rfl rfl rfl rfl (by kernel_rfl) Try.func3 (by kernel_rfl)
    (of_decide_eq_true (by kernel_rfl)) (by unfold Func.isWrapper; first | (rw [if_pos (by decide +kernel)]; kernel_rfl) | (rw [if_neg (by decide +kernel)]; exact ⟨rfl, rfl⟩))
    (fun os started H enc _ F => lifted os started H enc F)
#print axioms proved
end Go.Proofs.YtgbnadckhjfebaaRR.lowerSmallerUpto
