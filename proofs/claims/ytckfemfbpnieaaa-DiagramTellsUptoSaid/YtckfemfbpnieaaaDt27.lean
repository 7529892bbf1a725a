/- The row of the law DiagramTells: for each input the call returns true, and each argument reads behind the call as it read before. Condition: the arguments hold together at most 1048576 values and letters. -/
import Derived.Test.YtckfemfbpnieaaaDt26
import Derived.Test.YtckfemfbpnieaaaDt22
import Derived.Test.YtckfemfbpnieaaaDt25
import Derived.Test.YtckfemfbpnieaaaDt1
import Derived.JoinedCond
import Derived.ChangeMaps5

/- Boxes and points that came in, opened. -/
namespace Go.Proofs.Ytckfemfbpnieaaa
open Go.ChangeShapes Go.WideShapes Go.ChangeAt Go.RowKit

def Rt.heft (r : Rt) : Nat := r.num.length + r.den.length
def Bx.heft (x : Bx) : Nat := x.a.heft + x.b.heft + x.c.heft + x.d.heft
def Pt.heft (x : Pt) : Nat := x.x.heft + x.y.heft
theorem heft_le {α : Type} (g : α → Nat) {l : List α} {x : α} (h : x ∈ l) : g x ≤ (l.map g).sum := by
  induction l with
  | nil => cases h
  | cons y l ih =>
    simp only [List.map_cons, List.sum_cons]
    rcases List.mem_cons.1 h with rfl | h
    · omega
    · have := ih h; omega
theorem boxes_few {l : List Bx} (h : (l.map Bx.heft).sum ≤ 2000000) : ∀ x ∈ l, Bx.few x := fun x hx => by
  have h1 := heft_le Bx.heft hx
  have h2 : x.heft = (x.a.num.length + x.a.den.length) + (x.b.num.length + x.b.den.length) + (x.c.num.length + x.c.den.length) + (x.d.num.length + x.d.den.length) := rfl
  unfold Bx.few Rt.few2
  omega
theorem pts_few {l : List Pt} (h : (l.map Pt.heft).sum ≤ 2000000) : ∀ x ∈ l, Pt.few x := fun x hx => by
  have h1 := heft_le Pt.heft hx
  have h2 : x.heft = (x.x.num.length + x.x.den.length) + (x.y.num.length + x.y.den.length) := rfl
  unfold Pt.few Rt.few2
  omega
theorem cellsIv : Try.prog.cellsOf 36 = 6 := by kernel_rfl
theorem cellsBox : Try.prog.cellsOf 38 = 12 := by kernel_rfl
theorem cellsPt : Try.prog.cellsOf 41 = 6 := by kernel_rfl
theorem len12 {α : Type} {l : List α} (h : l.length = 12) : ∃ a b c d e f g h i j k m, l = [a, b, c, d, e, f, g, h, i, j, k, m] := by
  match l, h with
  | [a, b, c, d, e, f, g, h, i, j, k, m], _ => exact ⟨a, b, c, d, e, f, g, h, i, j, k, m, rfl⟩
def QA.list (x : QA) : List Value := [.bool x.neg, .slice x.a x.n x.c, .slice x.b x.m x.d]
section
variable {H : Type} {enc : TypeId × Value → H} {W : World} {sp : Nat → Bool} {held : Bool}
theorem open_ratz {n : Nat} {cs : List Value} {y : DataW H × List MemPlace} (h : DataW.trod enc Try.prog W 0 sp held n 34 cs = some y) :
    ∃ (r : Rt) (z : QA), cs = z.list ∧ RtZ W r z ∧ r.heft ≤ Rows.uptoBulk y.1 := by
  obtain ⟨b, na, nc, num, da, dc, den, e, h1, h2, h3⟩ := open_rat h
  refine ⟨⟨b, num, den⟩, ⟨b, num.length, na, nc, den.length, da, dc⟩, e, ⟨rfl, rfl, rfl, h1, h2⟩, ?_⟩
  unfold Rt.heft
  dsimp only
  omega
theorem open_ivz {n : Nat} {cs : List Value} {y : DataW H × List MemPlace} (h : DataW.trod enc Try.prog W 0 sp held n 36 cs = some y) :
    ∃ (r s : Rt) (z v : QA), cs = z.list ++ v.list ∧ RtZ W r z ∧ RtZ W s v ∧ r.heft + s.heft ≤ Rows.uptoBulk y.1 := by
  obtain ⟨xs, m, rfl, rfl, hcl, hxl, hf⟩ := DataW.trod_struct Try.underlying36 h
  rw [cellsIv] at hcl
  obtain ⟨c0, c1, c2, c3, c4, c5, rfl⟩ := len6 hcl
  obtain ⟨y0, y1, rfl⟩ := len2 (show xs.length = 2 from hxl)
  have h0 := hf 0 _ rfl
  have h1 := hf 1 _ rfl
  simp [cellsRat] at h0 h1
  obtain ⟨r, z, e0, r0, w0⟩ := open_ratz h0
  obtain ⟨s, v, e1, r1, w1⟩ := open_ratz h1
  refine ⟨r, s, z, v, ?_, r0, r1, ?_⟩
  · rw [← e0, ← e1]; rfl
  · simp [Rows.uptoBulk, Rows.uptoBulkAll] at w0 w1 ⊢
    omega
theorem open_ptz {n : Nat} {cs : List Value} {y : DataW H × List MemPlace} (h : DataW.trod enc Try.prog W 0 sp held n 41 cs = some y) :
    ∃ (r s : Rt) (z v : QA), cs = z.list ++ v.list ∧ RtZ W r z ∧ RtZ W s v ∧ r.heft + s.heft ≤ Rows.uptoBulk y.1 := by
  obtain ⟨xs, m, rfl, rfl, hcl, hxl, hf⟩ := DataW.trod_struct Try.underlying41 h
  rw [cellsPt] at hcl
  obtain ⟨c0, c1, c2, c3, c4, c5, rfl⟩ := len6 hcl
  obtain ⟨y0, y1, rfl⟩ := len2 (show xs.length = 2 from hxl)
  have h0 := hf 0 _ rfl
  have h1 := hf 1 _ rfl
  simp [cellsRat] at h0 h1
  obtain ⟨r, z, e0, r0, w0⟩ := open_ratz h0
  obtain ⟨s, v, e1, r1, w1⟩ := open_ratz h1
  refine ⟨r, s, z, v, ?_, r0, r1, ?_⟩
  · rw [← e0, ← e1]; rfl
  · simp [Rows.uptoBulk, Rows.uptoBulkAll] at w0 w1 ⊢
    omega
theorem open_boxz {n : Nat} {cs : List Value} {y : DataW H × List MemPlace} (h : DataW.trod enc Try.prog W 0 sp held n 38 cs = some y) :
    ∃ (x : Bx) (z1 z2 z3 z4 : QA), cs = z1.list ++ z2.list ++ (z3.list ++ z4.list) ∧ RtZ W x.a z1 ∧ RtZ W x.b z2 ∧ RtZ W x.c z3 ∧ RtZ W x.d z4 ∧ x.heft ≤ Rows.uptoBulk y.1 := by
  obtain ⟨xs, m, rfl, rfl, hcl, hxl, hf⟩ := DataW.trod_struct Try.underlying38 h
  rw [cellsBox] at hcl
  obtain ⟨c0, c1, c2, c3, c4, c5, c6, c7, c8, c9, c10, c11, rfl⟩ := len12 hcl
  obtain ⟨y0, y1, rfl⟩ := len2 (show xs.length = 2 from hxl)
  have h0 := hf 0 _ rfl
  have h1 := hf 1 _ rfl
  simp [cellsIv] at h0 h1
  obtain ⟨a, b, z1, z2, e0, r1, r2, w0⟩ := open_ivz h0
  obtain ⟨c, d, z3, z4, e1, r3, r4, w1⟩ := open_ivz h1
  refine ⟨⟨a, b, c, d⟩, z1, z2, z3, z4, ?_, r1, r2, r3, r4, ?_⟩
  · rw [← e0, ← e1]; rfl
  · unfold Bx.heft
    simp [Rows.uptoBulk, Rows.uptoBulkAll] at w0 w1 ⊢
    omega
set_option maxRecDepth 100000 in
/-- BOXES THAT CAME IN -/
theorem open_boxes {r : Reach} {b0 : Nat} {v : Value} {d : DataW H} {p : List MemPlace} (hv : Value.okWide Try.prog W r b0 22 v) (h : DataW.Trod enc Try.prog W 0 sp held 22 v d p) :
    ∃ (l : List Bx) (a : Option Addr) (c : Nat), v = .slice a l.length c ∧ BoxesR W a c l ∧ (l.map Bx.heft).sum + 1 ≤ Rows.uptoBulk d := by
  obtain ⟨n, hn⟩ := h
  obtain ⟨a, c, zs, h1, h2, h3⟩ := open_sl Try.underlying22 cellsBox (by omega) hn BoxE Bx.heft (fun k cs' y b o hk ht hl hc => by
    obtain ⟨x, z1, z2, z3, z4, rfl, r1, r2, r3, r4, hw⟩ := open_boxz ht
    refine ⟨x, ⟨z1, z2, z3, z4, ⟨?_, ?_, ?_⟩, ⟨?_, ?_, ?_⟩, ⟨?_, ?_, ?_⟩, ⟨?_, ?_, ?_⟩, r1, r2, r3, r4⟩, hw⟩
    · have := hc 0 (by omega); simpa [QA.list] using this
    · have := hc 1 (by omega); simpa [QA.list] using this
    · have := hc 2 (by omega); simpa [QA.list] using this
    · have := hc 3 (by omega); simpa [QA.list] using this
    · have := hc 4 (by omega); simpa [QA.list] using this
    · have := hc 5 (by omega); simpa [QA.list] using this
    · have := hc 6 (by omega); simpa [QA.list] using this
    · have := hc 7 (by omega); simpa [QA.list] using this
    · have := hc 8 (by omega); simpa [QA.list] using this
    · have := hc 9 (by omega); simpa [QA.list] using this
    · have := hc 10 (by omega); simpa [QA.list] using this
    · have := hc 11 (by omega); simpa [QA.list] using this)
  obtain ⟨a', l', c', rfl⟩ := okWide_slice Try.underlying22 hv
  refine ⟨zs, a, c, ?_, h2, h3⟩
  simpa [Value.cells] using h1
set_option maxRecDepth 100000 in
/-- POINTS THAT CAME IN -/
theorem open_points {r : Reach} {b0 : Nat} {v : Value} {d : DataW H} {p : List MemPlace} (hv : Value.okWide Try.prog W r b0 23 v) (h : DataW.Trod enc Try.prog W 0 sp held 23 v d p) :
    ∃ (l : List Pt) (a : Option Addr) (c : Nat), v = .slice a l.length c ∧ PtsR W a c l ∧ (l.map Pt.heft).sum + 1 ≤ Rows.uptoBulk d := by
  obtain ⟨n, hn⟩ := h
  obtain ⟨a, c, zs, h1, h2, h3⟩ := open_sl Try.underlying23 cellsPt (by omega) hn PtE Pt.heft (fun k cs' y b o hk ht hl hc => by
    obtain ⟨x, s, z1, z2, rfl, r1, r2, hw⟩ := open_ptz ht
    refine ⟨⟨x, s⟩, ⟨z1, z2, ⟨?_, ?_, ?_⟩, ⟨?_, ?_, ?_⟩, r1, r2⟩, hw⟩
    · have := hc 0 (by omega); simpa [QA.list] using this
    · have := hc 1 (by omega); simpa [QA.list] using this
    · have := hc 2 (by omega); simpa [QA.list] using this
    · have := hc 3 (by omega); simpa [QA.list] using this
    · have := hc 4 (by omega); simpa [QA.list] using this
    · have := hc 5 (by omega); simpa [QA.list] using this)
  obtain ⟨a', l', c', rfl⟩ := okWide_slice Try.underlying23 hv
  refine ⟨zs, a, c, ?_, h2, h3⟩
  simpa [Value.cells] using h1
end
end Go.Proofs.Ytckfemfbpnieaaa

/- Walk: the law DiagramTells: for each input the call returns true. -/
namespace Go.Proofs.Ytckfemfbpnieaaa
open Go.RowKit

set_option maxRecDepth 100000 in
set_option maxHeartbeats 4000000 in
theorem diagramTells_any (l : List Bx) (p : List Pt) (bits : Int) (a a' : Option Addr) (c c' : Nat) (w : World) (h : BoxesR w a c l) (h' : PtsR w a' c' p) (hi : InInt bits) (hf : ∀ x ∈ l, Bx.few x) (hg : ∀ x ∈ p, Pt.few x) :
    Calls Try.prog 3 #[.slice a l.length c, .slice a' p.length c', .int .i64 bits] w fun e w' => e = .returned (.bool true) ∧ Below w.heap.size w w' := by
  have C1 := fun W (hW : Below w.heap.size w W) => boxes44_any l a c W (h.ext (Ext.below hW)) hf
  have C2 := fun W (hW : Below w.heap.size w W) => points44_any p a' c' W (h'.ext (Ext.below hW)) hg
  have C3 := fun hs ht W (hW : Below w.heap.size w W) => hasP_any l p a a' c c' W (h.ext (Ext.below hW)) (h'.ext (Ext.below hW)) hs ht
  have C4 := fun hs ht W (hW : Below w.heap.size w W) => hasR_any l p a a' c c' W (h.ext (Ext.below hW)) (h'.ext (Ext.below hW)) hs ht
  have C5 := fun hs W (hW : Below w.heap.size w W) => apartP_any l a c W (h.ext (Ext.below hW)) hs
  have C6 := fun hs W (hW : Below w.heap.size w W) => apartR_any l a c W (h.ext (Ext.below hW)) hs
  have C7 := fun hs W (hW : Below w.heap.size w W) => withinP_any l bits a c W (h.ext (Ext.below hW)) hs hi
  have C8 := fun hs W (hW : Below w.heap.size w W) => withinR_any l bits a c W (h.ext (Ext.below hW)) hs hi
  obtain ⟨u1, hu1⟩ : ∃ u, boxesB l = u := ⟨_, rfl⟩
  obtain ⟨u2, hu2⟩ : ∃ u, ptsB p = u := ⟨_, rfl⟩
  rw [hu1] at C1
  rw [hu2] at C2
  replace C1 := Lib.hid C1; replace C2 := Lib.hid C2
  cases u1
  · clear h h' hf hg hu1 hu2 C3 C4 C5 C6 C7 C8
    go_enter Try.func3, Try.ntmps3
    go_wp2_with fail
    refine (C1.out _ (Below.refl _ _)).mono ?_
    rintro e w1 ⟨rfl, hb1⟩
    go_wp2
    go_ret
    exact ⟨rfl, hb1⟩
  · have hs : l.all Bx.short = true := by unfold boxesB at hu1; simp only [Bool.and_eq_true] at hu1; exact hu1.1
    cases u2
    · clear h h' hf hg hu1 hu2 C3 C4 C5 C6 C7 C8 hs
      go_enter Try.func3, Try.ntmps3
      go_wp2_with fail
      refine (C1.out _ (Below.refl _ _)).mono ?_
      rintro e w1 ⟨rfl, hb1⟩
      go_wp2_with fail
      refine (C2.out _ hb1).mono ?_
      rintro e w2 ⟨rfl, hb2⟩
      go_wp2
      go_ret
      exact ⟨rfl, below_then hb1 hb2⟩
    · have ht : p.all Pt.short = true := by unfold ptsB at hu2; simp only [Bool.and_eq_true] at hu2; exact hu2.1
      replace C3 := C3 hs ht; replace C4 := C4 hs ht; replace C5 := C5 hs; replace C6 := C6 hs; replace C7 := C7 hs; replace C8 := C8 hs
      clear h h' hf hg hu1 hu2 hs ht
      revert C3 C4 C5 C6 C7 C8
      generalize hasB l p = b1
      generalize apartB l = b2
      generalize withinB l bits = b3
      intro C3 C4 C5 C6 C7 C8
      replace C3 := Lib.hid C3; replace C4 := Lib.hid C4; replace C5 := Lib.hid C5; replace C6 := Lib.hid C6; replace C7 := Lib.hid C7; replace C8 := Lib.hid C8
      have g1 : (b1 == b1) = true := by simp
      have g2 : (b2 == b2) = true := by simp
      have g3 : (b3 == b3) = true := by simp
      go_enter Try.func3, Try.ntmps3
      go_wp2_with fail
      refine (C1.out _ (Below.refl _ _)).mono ?_
      rintro e w1 ⟨rfl, hw1⟩
      go_wp2_with fail
      refine (C2.out _ hw1).mono ?_
      rintro e w2 ⟨rfl, hb2⟩
      have hw2 := below_then hw1 hb2
      go_wp2_with fail
      refine (C3.out _ hw2).mono ?_
      rintro e w3 ⟨rfl, hb3⟩
      have hw3 := below_then hw2 hb3
      go_wp2_with fail
      refine (C4.out _ hw3).mono ?_
      rintro e w4 ⟨rfl, hb4⟩
      have hw4 := below_then hw3 hb4
      go_wp2_with fail
      refine (C5.out _ hw4).mono ?_
      rintro e w5 ⟨rfl, hb5⟩
      have hw5 := below_then hw4 hb5
      go_wp2_with fail
      refine (C6.out _ hw5).mono ?_
      rintro e w6 ⟨rfl, hb6⟩
      have hw6 := below_then hw5 hb6
      go_wp2_with fail
      refine (C7.out _ hw6).mono ?_
      rintro e w7 ⟨rfl, hb7⟩
      have hw7 := below_then hw6 hb7
      go_wp2_with fail
      refine (C8.out _ hw7).mono ?_
      rintro e w8 ⟨rfl, hb8⟩
      have hw8 := below_then hw7 hb8
      go_wp2
      go_ret
      exact ⟨rfl, hw8⟩
theorem diagramTells_law {v v' : Value} {w : World} {k k' : Nat} (h : ∃ (l : List Bx) (a : Option Addr) (c : Nat), v = .slice a l.length c ∧ BoxesR w a c l ∧ (l.map Bx.heft).sum + 1 ≤ k)
    (h' : ∃ (l : List Pt) (a : Option Addr) (c : Nat), v' = .slice a l.length c ∧ PtsR w a c l ∧ (l.map Pt.heft).sum + 1 ≤ k') (bits : Int) (hi : (Lit.int .i64 bits).wf = true) (hk : k ≤ 1048576) (hk' : k' ≤ 1048576) :
    Calls Try.prog 3 #[v, v', .int .i64 bits] w fun r w' => r = .returned (.bool true) ∧ Below w.heap.size w w' := by
  obtain ⟨l, a, c, rfl, hr, hw⟩ := h
  obtain ⟨p, a', c', rfl, hr', hw'⟩ := h'
  exact diagramTells_any l p bits a a' c c' w hr hr' (inInt_of hi) (boxes_few (by omega)) (pts_few (by omega))
end Go.Proofs.Ytckfemfbpnieaaa

/- How a law's row is closed: the call answers true and turns nothing that was there before, so each argument reads as it did. No function of the program in sight. -/
namespace Go.Proofs.Ytckfemfbpnieaaa
open Go.ChangeShapes Go.WideShapes Go.ChangeAt Go.RowKit

theorem trodAll_below {H : Type} {enc : TypeId × Value → H} {P : Program} (hl : laidOutB P = true) {W W' : World} (hB : Below W.heap.size W W') :
    ∀ (ts : List TypeId) (vs : List Value) (ds : List (DataW H)) (p : List MemPlace), (ts.all fun t => P.readableRec t && decide (t < P.types.size)) = true →
      (∀ x ∈ p, x.block < W.heap.size) → DataW.TrodAll enc P W 0 (fun _ => true) true ts vs ds p → DataW.TrodAll enc P W' 0 (fun b => decide (b < W.heap.size)) true ts vs ds p := by
  intro ts
  induction ts with
  | nil => intro vs ds p _ _ h; cases vs <;> cases ds <;> first | exact h | exact h.elim
  | cons t ts ih =>
    intro vs ds p ha hp h
    cases vs with
    | nil => exact h.elim
    | cons v vs =>
      cases ds with
      | nil => exact h.elim
      | cons d ds =>
        obtain ⟨p1, q1, h1, h2, rfl⟩ := h
        simp only [List.all_cons, Bool.and_eq_true, decide_eq_true_eq] at ha
        exact ⟨p1, q1, Below.trod hl ha.1.1 ha.1.2 h1 hB (fun x hx => hp x (by simp [hx])), ih vs ds q1 ha.2 (fun x hx => hp x (by simp [hx])) h2, rfl⟩

theorem law_post {H : Type} {enc : TypeId × Value → H} {P : Program} {f : Func} {s : ChangeSpec} {W W' : World} {args : Array Value} {ds gs : List (DataW H)} {before : List MemPlace} {tb : TypeId}
    (hl : laidOutB P = true) (hts : (f.params.toList.all fun t => P.readableRec t && decide (t < P.types.size)) = true) (hr : f.resultTypes = #[tb]) (hb : P.underlying tb = some .bool) (hv : s.vars = [])
    (hW : DataW.Whole enc P f.params.toList s.vars false W args.toList ds gs before) (hfn : s.fn H (ds ++ gs) = { results := [.lit (.bool true)], args := ds, vars := [] })
    (hB : Below W.heap.size W W') : s.post enc P f false true false false W args (.bool true) W' := by
  have hlt := hW.lt
  have hW0 := hW
  obtain ⟨p, q, hA, hV, rfl, _, _⟩ := hW
  rw [hv] at hV
  obtain ⟨rfl, rfl⟩ := trodVars_none hV
  refine ⟨ds, _, _, [], p, [], hW0, ?_, ?_, ?_, hB.frame _, fun h => by cases h⟩
  · rw [hfn, hr]
    exact trodAll_mk1 (shut_bool hb true)
  · rw [hfn]
    exact trodAll_below hl hB _ _ _ _ hts (fun x hx => by simpa using hlt x (by simp [hx])) hA
  · rw [hfn, hv]
    rfl
end Go.Proofs.Ytckfemfbpnieaaa

/- The row of the law DiagramTells: for each input the call returns true, and each argument reads behind the call as it read before. Condition: the arguments hold together at most 1048576 values and letters. -/
namespace Go.Proofs.Ytckfemfbpnieaaa.diagramTellsUpto
open Go.ChangeShapes Go.WideShapes Go.ChangeAt Go.RowKit
set_option linter.unusedVariables false

theorem own : ownKnob Try.prog.godebug = none := by kernel_rfl
theorem laidOut : laidOutB Try.prog = true := by kernel_rfl
theorem readable : (Try.f3.params.toList.all fun t => Try.prog.readableRec t && decide (t < Try.prog.types.size)) = true := by kernel_rfl

set_option maxRecDepth 100000 in
theorem contract (H : Type) (enc : TypeId × Value → H) (W : World) (base : Nat) (args : Array Value) (ds gs : List (DataW H)) (before : List MemPlace)
    (hval : ∀ (j : Nat) t v, Try.f3.params[j]? = some t → args[j]? = some v → Value.okWide Try.prog W .any base t v)
    (hW : DataW.Whole enc Try.prog Try.f3.params.toList Rows.diagramTellsSpec.vars false W args.toList ds gs before) (hk : Rows.uptoSmall H (ds ++ gs) = true) :
    Calls Try.prog 3 args W fun e W' => ∃ v, e = .returned v ∧ Rows.diagramTellsSpec.post enc Try.prog Try.f3 false true false false W args v W' := by
  have hW' := hW
  obtain ⟨p, q, hA0, hV, rfl, hfz, hnd⟩ := hW
  have hA : DataW.TrodAll enc Try.prog W 0 (fun _ => true) true Try.f3.params.toList args.toList ds p := hA0
  rw [Try.params3] at hA hval
  obtain ⟨v0, vs0, d0, ds0, p0, q0, hargs, rfl, rfl, h0, r0⟩ := trodAll_cons hA
  obtain ⟨v1, vs1, d1, ds1, p1, q1, rfl, rfl, rfl, h1, r1⟩ := trodAll_cons r0
  obtain ⟨v2, vs2, d2, ds2, p2, q2, rfl, rfl, rfl, h2, r2⟩ := trodAll_cons r1
  obtain ⟨rfl, rfl, rfl⟩ := trodAll_nil r2
  obtain rfl : args = #[v0, v1, v2] := by cases args; simp_all
  obtain ⟨rfl, rfl⟩ := trodVars_none hV
  clear hA0 hA r0 r1 r2
  have hbulk := of_decide_eq_true hk
  simp only [List.cons_append, List.nil_append, Rows.uptoBulkAll] at hbulk
  have hx0 := open_boxes (hval 0 22 v0 rfl rfl) h0
  have hx1 := open_points (hval 1 23 v1 rfl rfl) h1
  obtain ⟨a2, rfl, rfl, rfl, wa2⟩ := open_int Try.underlying3 (hval 2 3 v2 rfl rfl) h2
  refine (diagramTells_law hx0 hx1 a2 wa2 (by omega) (by omega)).mono fun e W' ⟨he, hg⟩ => ?_
  subst he
  exact ⟨_, rfl, law_post laidOut readable (by kernel_rfl) Try.underlying4 rfl hW' (by rfl) hg⟩

set_option maxRecDepth 100000 in
theorem lifted (os : Os) (started : os.Started) (H : Type) (enc : TypeId × Value → H) (F : Stop.Interp) :
    ReturnsInHanded {} Try.checked os 3 .any ((Rows.OpenSpec.upto Rows.diagramTellsSpec).pre6 enc Try.prog Try.f3 Rows.diagramTellsUptoRow.domain false) (((Rows.OpenSpec.upto Rows.diagramTellsSpec).at F).post enc Try.prog Try.f3 false true false false) := by
  refine returnsInHanded_of_cond (C := Try.checked) (s := Rows.OpenSpec.upto Rows.diagramTellsSpec) (k := Rows.uptoSmall) rfl own started (by kernel_rfl) Try.func3
    (OpenSpec.witness (enc := enc) (C := Try.checked) (s := Rows.OpenSpec.upto Rows.diagramTellsSpec) (k := Rows.uptoSmall) rfl false ⟨#[], #[.slice none 0 0, .slice none 0 0, .int .i64 0], []⟩ 8 (by kernel_rfl) (by kernel_rfl) (by kernel_rfl)
      (x := ([.nil, .nil, .lit (.int .i64 0)], [], [])) (by kernel_rfl) rfl (by kernel_rfl)) ?_
  intro W base args ds gs before hval hW _ hk _
  exact contract H enc W base args ds gs before hval hW hk

theorem proved : Rows.DiagramTellsUptoSaid :=
  OpenClaim.holds_of_cond 3 Try.f3 rfl rfl rfl rfl rfl rfl rfl ⟨rfl, rfl, rfl, rfl, rfl⟩ rfl rfl rfl rfl rfl (by kernel_rfl) Try.func3 (by kernel_rfl)
    (of_decide_eq_true (by kernel_rfl)) (by unfold Func.isWrapper; first | (rw [if_pos (by decide +kernel)]; kernel_rfl) | (rw [if_neg (by decide +kernel)]; exact ⟨rfl, rfl⟩))
    (fun os started H enc _ F => lifted os started H enc F)
#print axioms proved
end Go.Proofs.Ytckfemfbpnieaaa.diagramTellsUpto
