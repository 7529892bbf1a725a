/- The row of the law DiagramRefutes: for each input the call returns true, and each argument reads behind the call as it read before. Condition: the arguments hold together at most 1048576 values and letters. -/
import Derived.Test.YtaihkpjbnkgmlaaGreatRf40
import Derived.Test.YtaihkpjbnkgmlaaGreatRf41
import Derived.Test.YtaihkpjbnkgmlaaGreatRf27
import Derived.Test.YtaihkpjbnkgmlaaGreatRf1
import Derived.JoinedCond
import Derived.ChangeMaps5

/- Walk: the law DiagramRefutes: for each input the call returns true. -/
namespace Go.Proofs.YtaihkpjbnkgmlaaGreat
open Go.RowKit

set_option maxRecDepth 100000 in
set_option maxHeartbeats 4000000 in
theorem diagramRefutes_any (f : Fig) (sa : Option Addr) (sc : Nat) (ga : Option Addr) (gc : Nat) (goal : Int) (l : List Bx) (a : Option Addr) (c : Nat) (w : World) (hF : FigR w sa sc ga gc f) (hB : BoxesR w a c l) (hq : f.few) (hf : ∀ x ∈ l, Bx.few x) :
  Calls Tryz.prog 3 #[f.val sa sc ga gc, .int .i64 goal, .slice a l.length c] w fun e w' => e = .returned (.bool true) ∧ Below w.heap.size w w' := by
 have C1 := fun W (hW : Below w.heap.size w W) => fitsC_any ⟨f, [], 0, 0⟩ sa sc ga gc none 0 none 0 W (hF.ext (Ext.below hW)) SlR.nil (fun r h => by cases h) (Nat.zero_le _)
 have C2 := fun W (hW : Below w.heap.size w W) => boxes44_any l a c W (hB.ext (Ext.below hW)) hf
 have C3 := fun hs hg W (hW : Below w.heap.size w W) => refutesS_any f sa sc ga gc goal l a c W (hF.ext (Ext.below hW)) (hB.ext (Ext.below hW)) hs hq hg
 have C4 := fun hs hg W (hW : Below w.heap.size w W) => refutesR_any f sa sc ga gc goal l a c W (hF.ext (Ext.below hW)) (hB.ext (Ext.below hW)) hs hq hg
 obtain ⟨u1, hu1⟩ : ∃ u, Cse.fits ⟨f, [], 0, 0⟩ = u := ⟨_, rfl⟩
 obtain ⟨u2, hu2⟩ : ∃ u, boxesB l = u := ⟨_, rfl⟩
 dsimp only at C1
 rw [hu1] at C1
 rw [hu2] at C2
 replace C1 := Lib.hid C1; replace C2 := Lib.hid C2
 obtain ⟨steps, goals⟩ := f
 unfold Fig.val at C3 C4 ⊢
 dsimp only [List.length_nil] at C1 C3 C4 ⊢
 cases u1
 ·
  clear hF hB hq hf hu1 hu2 C3 C4
  go_enter Tryz.func3, Tryz.ntmps3
  go_wp2_with fail
  refine calls_gen (fun W => Blk W w.heap.size 25 #[.slice sa steps.length sc, .slice ga goals.length gc] ∧ Below w.heap.size w W) ⟨by ((repeat first|with_reducible assumption|((with_reducible apply Blk.farAt);focus omega)|with_reducible apply Blk.setb|((with_reducible apply Blk.newAt);focus (simp;done))|with_reducible apply Blk.alloc|with_reducible apply Blk.drew);all_goals (show @Eq (Array Value) _ _;rfl)), by go_grown⟩ ?_
  rintro w0 ⟨hx, hw0⟩
  refine (C1.out _ hw0).mono ?_
  rintro e w1 ⟨rfl, hb1⟩
  go_wp2
  go_ret
  exact ⟨rfl, below_then hw0 hb1⟩
 ·
  cases u2
  ·
   clear hF hB hq hf hu1 hu2 C3 C4
   go_enter Tryz.func3, Tryz.ntmps3
   go_wp2_with fail
   refine calls_gen (fun W => Blk W w.heap.size 25 #[.slice sa steps.length sc, .slice ga goals.length gc] ∧ Below w.heap.size w W) ⟨by ((repeat first|with_reducible assumption|((with_reducible apply Blk.farAt);focus omega)|with_reducible apply Blk.setb|((with_reducible apply Blk.newAt);focus (simp;done))|with_reducible apply Blk.alloc|with_reducible apply Blk.drew);all_goals (show @Eq (Array Value) _ _;rfl)), by go_grown⟩ ?_
   rintro w0 ⟨hx, hw0⟩
   refine (C1.out _ hw0).mono ?_
   rintro e w1 ⟨rfl, hb1⟩
   have hw1 := below_then hw0 hb1
   go_wp2_with fail
   refine (C2.out _ hw1).mono ?_
   rintro e w2 ⟨rfl, hb2⟩
   go_wp2
   go_ret
   exact ⟨rfl, below_then hw1 hb2⟩
  ·
   have hs : l.all Bx.short = true := by unfold boxesB at hu2; simp only [Bool.and_eq_true] at hu2; exact hu2.1
   have hg : ∀ g ∈ goals, g.ratio.num.length ≤ 2 ∧ g.ratio.den.length ≤ 2 := fun g hg => by
    unfold Cse.fits at hu1
    simp only [Bool.and_eq_true] at hu1
    have := List.all_eq_true.1 hu1.2.1 g hg
    unfold fitQ at this
    simp only [Bool.and_eq_true, decide_eq_true_eq] at this
    exact this.1
   replace C3 := C3 hs hg; replace C4 := C4 hs hg
   clear hF hB hq hf hu1 hu2 hs hg
   revert C3 C4
   generalize refB ⟨steps, goals⟩ goal l = R
   obtain ⟨b, n⟩ := R
   dsimp only
   intro C3 C4
   replace C3 := Lib.hid C3; replace C4 := Lib.hid C4
   have g1 : (b == b) = true := by simp
   have g2 : (n == n) = true := by simp
   go_enter Tryz.func3, Tryz.ntmps3
   go_wp2_with fail
   refine calls_gen (fun W => Blk W w.heap.size 25 #[.slice sa steps.length sc, .slice ga goals.length gc] ∧ Below w.heap.size w W) ⟨by ((repeat first|with_reducible assumption|((with_reducible apply Blk.farAt);focus omega)|with_reducible apply Blk.setb|((with_reducible apply Blk.newAt);focus (simp;done))|with_reducible apply Blk.alloc|with_reducible apply Blk.drew);all_goals (show @Eq (Array Value) _ _;rfl)), by go_grown⟩ ?_
   rintro w0 ⟨hx, hw0⟩
   refine (C1.out _ hw0).mono ?_
   rintro e w1 ⟨rfl, hb1⟩
   have hw1 := below_then hw0 hb1
   replace hx := hx.below' hb1
   go_wp2_with fail
   refine (C2.out _ hw1).mono ?_
   rintro e w2 ⟨rfl, hb2⟩
   have hw2 := below_then hw1 hb2
   replace hx := hx.below' hb2
   have z0 := hx.cell 0; have z1 := hx.cell 1
   go_wp2_with fail
   refine (C3.out _ hw2).mono ?_
   rintro e w3 ⟨rfl, hb3⟩
   have hw3 := below_then hw2 hb3
   replace hx := hx.below' hb3
   clear z0 z1
   have z0 := hx.cell 0; have z1 := hx.cell 1
   go_wp2_with fail
   refine (C4.out _ hw3).mono ?_
   rintro e w4 ⟨rfl, hb4⟩
   have hw4 := below_then hw3 hb4
   go_wp2
   go_ret
   exact ⟨rfl, hw4⟩
theorem diagramRefutes_law {v v' : Value} {w : World} {k k' : Nat} (h : ∃ (f : Fig) (sa : Option Addr) (sc : Nat) (ga : Option Addr) (gc : Nat), v = f.val sa sc ga gc ∧ FigR w sa sc ga gc f ∧ f.weight ≤ k) (goal : Int) (_hi : (Lit.int .i64 goal).wf = true)
  (h' : ∃ (l : List Bx) (a : Option Addr) (c : Nat), v' = .slice a l.length c ∧ BoxesR w a c l ∧ (l.map Bx.heft).sum + 1 ≤ k') (hk : k ≤ 1048576) (hk' : k' ≤ 1048576) :
  Calls Tryz.prog 3 #[v, .int .i64 goal, v'] w fun r w' => r = .returned (.bool true) ∧ Below w.heap.size w w' := by
 obtain ⟨f, sa, sc, ga, gc, rfl, hr, hw⟩ := h
 obtain ⟨l, a, c, rfl, hr', hw'⟩ := h'
 exact diagramRefutes_any f sa sc ga gc goal l a c w hr hr' (Fig.few_of (by omega)) (boxes_few (by omega))
end Go.Proofs.YtaihkpjbnkgmlaaGreat

/- How a law's row is closed: the call answers true and turns nothing that was there before, so each argument reads as it did. No function of the program in sight. -/
namespace Go.Proofs.YtaihkpjbnkgmlaaGreat
open Go.ChangeShapes Go.WideShapes Go.ChangeAt Go.RowKit

theorem trodAll_below {H : Type} {enc : TypeId × Value → H} {P : Program} (hl : laidOutB P = true) {W W' : World} (hB : Below W.heap.size W W') :
  ∀ (ts : List TypeId) (vs : List Value) (ds : List (DataW H)) (p : List MemPlace), (ts.all fun t => P.readableRec t && decide (t < P.types.size)) = true →
   (∀ x ∈ p, x.block < W.heap.size) → DataW.TrodAll enc P W 0 (fun _ => true) true ts vs ds p → DataW.TrodAll enc P W' 0 (fun b => decide (b < W.heap.size)) true ts vs ds p := by
 intro ts
 induction ts with
 | nil => intro vs ds p _ _ h; cases vs <;> cases ds <;> first | exact h | exact h.elim
 | cons t ts ih =>
  intro vs ds p ha hp h
  cases vs with
  | nil => exact h.elim
  | cons v vs =>
   cases ds with
   | nil => exact h.elim
   | cons d ds =>
    obtain ⟨p1, q1, h1, h2, rfl⟩ := h
    simp only [List.all_cons, Bool.and_eq_true, decide_eq_true_eq] at ha
    exact ⟨p1, q1, Below.trod hl ha.1.1 ha.1.2 h1 hB (fun x hx => hp x (by simp [hx])), ih vs ds q1 ha.2 (fun x hx => hp x (by simp [hx])) h2, rfl⟩

theorem law_post {H : Type} {enc : TypeId × Value → H} {P : Program} {f : Func} {s : ChangeSpec} {W W' : World} {args : Array Value} {ds gs : List (DataW H)} {before : List MemPlace} {tb : TypeId}
  (hl : laidOutB P = true) (hts : (f.params.toList.all fun t => P.readableRec t && decide (t < P.types.size)) = true) (hr : f.resultTypes = #[tb]) (hb : P.underlying tb = some .bool) (hv : s.vars = [])
  (hW : DataW.Whole enc P f.params.toList s.vars false W args.toList ds gs before) (hfn : s.fn H (ds ++ gs) = { results := [.lit (.bool true)], args := ds, vars := [] })
  (hB : Below W.heap.size W W') : s.post enc P f false true false false W args (.bool true) W' := by
 have hlt := hW.lt
 have hW0 := hW
 obtain ⟨p, q, hA, hV, rfl, _, _⟩ := hW
 rw [hv] at hV
 obtain ⟨rfl, rfl⟩ := trodVars_none hV
 refine ⟨ds, _, _, [], p, [], hW0, ?_, ?_, ?_, hB.frame _, fun h => by cases h⟩
 ·
  rw [hfn, hr]
  exact trodAll_mk1 (shut_bool hb true)
 ·
  rw [hfn]
  exact trodAll_below hl hB _ _ _ _ hts (fun x hx => by simpa using hlt x (by simp [hx])) hA
 ·
  rw [hfn, hv]
  rfl
end Go.Proofs.YtaihkpjbnkgmlaaGreat

/- The row of the law DiagramRefutes: for each input the call returns true, and each argument reads behind the call as it read before. Condition: the arguments hold together at most 1048576 values and letters. -/
namespace Go.Proofs.YtaihkpjbnkgmlaaGreat.diagramRefutesUpto
open Go.ChangeShapes Go.WideShapes Go.ChangeAt Go.RowKit
set_option linter.unusedVariables false

theorem own : ownKnob Tryz.prog.godebug = none := by kernel_rfl
theorem laidOut : laidOutB Tryz.prog = true := by kernel_rfl
theorem readable : (Tryz.f3.params.toList.all fun t => Tryz.prog.readableRec t && decide (t < Tryz.prog.types.size)) = true := by kernel_rfl

set_option maxRecDepth 100000 in
theorem contract (H : Type) (enc : TypeId × Value → H) (W : World) (base : Nat) (args : Array Value) (ds gs : List (DataW H)) (before : List MemPlace)
  (hval : ∀ (j : Nat) t v, Tryz.f3.params[j]? = some t → args[j]? = some v → Value.okWide Tryz.prog W .any base t v)
  (hW : DataW.Whole enc Tryz.prog Tryz.f3.params.toList Rows.diagramRefutesSpec.vars false W args.toList ds gs before) (hk : Rows.uptoSmall H (ds ++ gs) = true) :
  Calls Tryz.prog 3 args W fun e W' => ∃ v, e = .returned v ∧ Rows.diagramRefutesSpec.post enc Tryz.prog Tryz.f3 false true false false W args v W' := by
 have hW' := hW
 obtain ⟨p, q, hA0, hV, rfl, hfz, hnd⟩ := hW
 have hA : DataW.TrodAll enc Tryz.prog W 0 (fun _ => true) true Tryz.f3.params.toList args.toList ds p := hA0
 rw [Tryz.params3] at hA hval
 obtain ⟨v0, vs0, d0, ds0, p0, q0, hargs, rfl, rfl, h0, r0⟩ := trodAll_cons hA
 obtain ⟨v1, vs1, d1, ds1, p1, q1, rfl, rfl, rfl, h1, r1⟩ := trodAll_cons r0
 obtain ⟨v2, vs2, d2, ds2, p2, q2, rfl, rfl, rfl, h2, r2⟩ := trodAll_cons r1
 obtain ⟨rfl, rfl, rfl⟩ := trodAll_nil r2
 obtain rfl : args = #[v0, v1, v2] := by cases args; simp_all
 obtain ⟨rfl, rfl⟩ := trodVars_none hV
 clear hA0 hA r0 r1 r2
 have hbulk := of_decide_eq_true hk
 simp only [List.cons_append, List.nil_append, Rows.uptoBulkAll] at hbulk
 have hx0 := open_figure (hval 0 25 v0 rfl rfl) h0
 obtain ⟨a1, rfl, rfl, rfl, wa1⟩ := open_int Tryz.underlying3 (hval 1 3 v1 rfl rfl) h1
 have hx2 := open_boxes (hval 2 26 v2 rfl rfl) h2
 refine (diagramRefutes_law hx0 a1 wa1 hx2 (by omega) (by omega)).mono fun e W' ⟨he, hg⟩ => ?_
 subst he
 exact ⟨_, rfl, law_post laidOut readable (by kernel_rfl) Tryz.underlying4 rfl hW' (by rfl) hg⟩

set_option maxRecDepth 100000 in
theorem lifted (os : Os) (started : os.Started) (H : Type) (enc : TypeId × Value → H) (F : Stop.Interp) :
  ReturnsInHanded {} Tryz.checked os 3 .any ((Rows.OpenSpec.upto Rows.diagramRefutesSpec).pre6 enc Tryz.prog Tryz.f3 Rows.diagramRefutesUptoRow.domain false) (((Rows.OpenSpec.upto Rows.diagramRefutesSpec).at F).post enc Tryz.prog Tryz.f3 false true false false) := by
 refine returnsInHanded_of_cond (C := Tryz.checked) (s := Rows.OpenSpec.upto Rows.diagramRefutesSpec) (k := Rows.uptoSmall) rfl own started (by kernel_rfl) Tryz.func3
  (OpenSpec.witness (enc := enc) (C := Tryz.checked) (s := Rows.OpenSpec.upto Rows.diagramRefutesSpec) (k := Rows.uptoSmall) rfl false ⟨#[], #[.agg #[.slice none 0 0, .slice none 0 0], .int .i64 0, .slice none 0 0], []⟩ 8 (by kernel_rfl) (by kernel_rfl) (by kernel_rfl)
   (x := ([.agg [.nil, .nil], .lit (.int .i64 0), .nil], [], [])) (by kernel_rfl) rfl (by kernel_rfl)) ?_
 intro W base args ds gs before hval hW _ hk _
 exact contract H enc W base args ds gs before hval hW hk

set_option maxHeartbeats 0 in
theorem closed : joinedFacts Tryz.pinned.checked.prog 3 Tryz.f3 (Rows.OpenSpec.upto Rows.diagramRefutesSpec).bare Rows.diagramRefutesUptoRow = true := by
 simp only [joinedFacts, Bool.and_eq_true]
 repeat' apply And.intro
 all_goals (as_aux_lemma => kernel_rfl)

theorem proved : Rows.DiagramRefutesUptoSaid :=
 OpenClaim.holds_of_cond 3 Tryz.f3 rfl rfl rfl rfl rfl rfl rfl ⟨rfl, rfl, rfl, rfl, rfl⟩ rfl rfl rfl rfl rfl (by kernel_rfl) Tryz.func3 closed
  (of_decide_eq_true (by kernel_rfl)) (by unfold Func.isWrapper; first | (rw [if_pos (by decide +kernel)]; kernel_rfl) | (rw [if_neg (by decide +kernel)]; exact ⟨rfl, rfl⟩))
  (fun os started H enc _ F => lifted os started H enc F)
#print axioms proved
end Go.Proofs.YtaihkpjbnkgmlaaGreat.diagramRefutesUpto
