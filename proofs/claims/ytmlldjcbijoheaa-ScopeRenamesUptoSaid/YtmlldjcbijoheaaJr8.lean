/- Walks: arities and the zero value, by the reference. -/
import Derived.Test.YtmlldjcbijoheaaJr7
import Derived.Deep.DeepCutAuto
import Derived.Test.YtmlldjcbijoheaaRows

/- Walks: the row of a kind, and what is read off it. -/
namespace Go.Proofs.Ytmlldjcbijoheaa
open Go.RowKit
def KRow.val (r : KRow) (a : Option Addr) (c : Nat) : Value := .agg #[.int .i64 r.kind, .int .i64 r.sort, .string r.word, .slice a r.params.length c]
/-- what a call gives that makes a row -/
def RetRow (w : World) (q : KRow) (r : Ending) (w' : World) : Prop := ∃ a c, r = .returned (q.val a c) ∧ IntsR w' a c q.params ∧ Below w.heap.size w w'
theorem rows16_new (w : World) :
    Calls Try.prog 87 #[] w fun r w' => ∃ b, r = .returned (.slice (some ⟨b, 0, none⟩) 30 30) ∧ Below w.heap.size w w' ∧ ∀ k x, kindTable[k]? = some x → ∃ a c, ∀ V, New w.heap.size w' V →
      V.cell? ⟨b, k * 4, none⟩ = some (.int .i64 x.kind) ∧ V.cell? ⟨b, k * 4 + 1, none⟩ = some (.int .i64 x.sort) ∧ V.cell? ⟨b, k * 4 + 2, none⟩ = some (.string x.word) ∧ V.cell? ⟨b, k * 4 + 3, none⟩ = some (.slice a x.params.length c) ∧ IntsR V a c x.params := by
  refine (rows16_raw w).mono ?_
  rintro r w' ⟨rfl, rfl⟩
  refine ⟨_, rfl, table_below _ _ w kindTable, fun k r hr => ⟨some ⟨w.heap.size + k, 0, none⟩, r.params.length, fun V hV => ?_⟩⟩
  have hk := lt_of_get hr
  have hB : Blk (tableWorld 3 107 w kindTable) (w.heap.size + 30) 107 (rowVals w.heap.size kindTable).toArray := by
    have := Blk.new (allocs w (kindTable.map fun r => intObj 3 r.params)) 107 (rowVals w.heap.size kindTable).toArray
    rw [allocs_size, List.length_map, kindTable_len] at this
    exact this
  have hP : Blk (tableWorld 3 107 w kindTable) (w.heap.size + k) 3 (r.params.map (Value.int .i64)).toArray :=
    Blk.alloc (allocs_at (kindTable.map fun (r : KRow) => intObj 3 r.params) w k 3 (r.params.map (Value.int .i64)).toArray (by rw [List.getElem?_map, hr]; rfl)) _
  obtain ⟨h0, h1, h2, h3⟩ := rowVals_at kindTable w.heap.size k r hr
  have hm := List.mem_of_getElem? hr
  have hI := intsR_blk hP (kindTable_ok r hm).1 (kindTable_ok r hm).2
  refine ⟨?_, ?_, ?_, ?_, ⟨hI.1, hI.2.1, fun j y hy => ?_⟩⟩
  · exact hV _ _ (by simp) (by rw [hB.cell]; simpa using h0)
  · exact hV _ _ (by simp) (by rw [hB.cell]; simpa using h1)
  · exact hV _ _ (by simp) (by rw [hB.cell]; simpa using h2)
  · exact hV _ _ (by simp) (by rw [hB.cell]; simpa using h3)
  · obtain ⟨b, o, e, hc⟩ := hI.2.2 j y hy
    injection e with e
    injection e with e1 e2
    subst e1 e2
    exact ⟨_, _, rfl, hV _ _ (by simp) hc.1, hc.2⟩
set_option maxRecDepth 100000 in
set_option maxHeartbeats 1000000 in
theorem find16_any (q : Int) (w : World) :
    Calls Try.prog 85 #[.int .i64 q] w (RetRow w (findRow q)) := by
  go_enter Try.func85, Try.ntmps85
  go_wp2_with fail
  refine (rows16_new _).mono ?_
  rintro r w1 ⟨ab, rfl, hb1, hT⟩
  have hz : Blk (w.alloc (.cells #[.int .i64 0, .int .i64 0, .string ⟨#[]⟩, .slice none 0 0] 107)) w.heap.size 107 #[.int .i64 0, .int .i64 0, .string ⟨#[]⟩, .slice none 0 0] := Blk.new w _ _
  replace hz := hz.below' hb1
  have hw1 := below_then1 (Below.refl _ w) hb1
  have HT := Lib.hid hT
  clear hT hb1
  go_wp2_with fail
  go_loopw [7] (fun i wr => ∃ k : Nat, k ≤ 30 ∧ i = .int .i64 k ∧ Below w.heap.size w wr ∧ Below w1.heap.size w1 wr ∧ Blk wr w.heap.size 107 #[.int .i64 0, .int .i64 0, .string ⟨#[]⟩, .slice none 0 0] ∧
    Hid (∀ y ∈ kindTable.take k, (y.kind == q) = false)) (fun i _ => 30 - (intOf i).toNat)
  case atStart => exact ⟨0, by omega, rfl, hw1, Below.refl _ _, hz, by simp [Hid]⟩
  case round =>
    obtain ⟨k, hk, rfl, hb, hb1, hz1, hp⟩ := hrel
    clear hz hw1
    have z0 := hz1.cell 0; have z1 := hz1.cell 1; have z2 := hz1.cell 2; have z3 := hz1.cell 3
    have y0 := hz1.frozen 0; have y1 := hz1.frozen 1; have y2 := hz1.frozen 2; have y3 := hz1.frozen 3
    have hlt0 := hz1.lt
    by_cases hlt : k < 30
    · obtain ⟨x, hx⟩ := get_of_lt (xs := kindTable) (k := k) (by rw [kindTable_len]; exact hlt)
      obtain ⟨a, c, hE⟩ := HT.out k x hx
      have hNew : New (w.alloc (.cells #[.int .i64 0, .int .i64 0, .string ⟨#[]⟩, .slice none 0 0] 107)).heap.size w1 wr := (New.refl _ wr).below hb1
      obtain ⟨q0, q1, q2, q3, hi⟩ := hE wr hNew
      have HEE := Lib.hid hE
      have HXX := Lib.hid hx
      clear hx hE hi hNew
      have hfx : (x.kind == q) = true → findRow q = x := fun h => by unfold findRow; rw [find_here HXX.out h hp.out]; rfl
      replace hfx := Lib.hid hfx
      by_cases he : x.kind = q
      · have hb2 : (x.kind == q) = true := by simpa using he
        have HE := Lib.hid hb2
        clear he
        go_wp2_with fail
        have hF := ((((hz1.set_ 0 (.int .i64 x.kind)).set_ 1 (.int .i64 x.sort)).set_ 2 (.string x.word)).set_ 3 (.slice a x.params.length c)).alloc (.cells #[.int .i64 x.kind, .int .i64 x.sort, .string x.word, .slice a x.params.length c] 107)
        have hBf : Below w.heap.size w (((((wr.setCell ⟨w.heap.size, 0, none⟩ (.int .i64 x.kind)).setCell ⟨w.heap.size, 1, none⟩ (.int .i64 x.sort)).setCell ⟨w.heap.size, 2, none⟩ (.string x.word)).setCell ⟨w.heap.size, 3, none⟩ (.slice a x.params.length c)).alloc (.cells #[.int .i64 x.kind, .int .i64 x.sort, .string x.word, .slice a x.params.length c] 107)) := ((((hb.setCell (p := ⟨w.heap.size, 0, none⟩) (by simp) _).setCell (p := ⟨w.heap.size, 1, none⟩) (by simp) _).setCell (p := ⟨w.heap.size, 2, none⟩) (by simp) _).setCell (p := ⟨w.heap.size, 3, none⟩) (by simp) _).alloc (by have := hb.size; simp; omega) _
        have hIf : IntsR (((((wr.setCell ⟨w.heap.size, 0, none⟩ (.int .i64 x.kind)).setCell ⟨w.heap.size, 1, none⟩ (.int .i64 x.sort)).setCell ⟨w.heap.size, 2, none⟩ (.string x.word)).setCell ⟨w.heap.size, 3, none⟩ (.slice a x.params.length c)).alloc (.cells #[.int .i64 x.kind, .int .i64 x.sort, .string x.word, .slice a x.params.length c] 107)) a c x.params := by
          refine (HEE.out _ ?_).2.2.2.2
          have h0 : New (w.alloc (.cells #[.int .i64 0, .int .i64 0, .string ⟨#[]⟩, .slice none 0 0] 107)).heap.size (((((wr.setCell ⟨w.heap.size, 0, none⟩ (.int .i64 x.kind)).setCell ⟨w.heap.size, 1, none⟩ (.int .i64 x.sort)).setCell ⟨w.heap.size, 2, none⟩ (.string x.word)).setCell ⟨w.heap.size, 3, none⟩ (.slice a x.params.length c)).alloc (.cells #[.int .i64 x.kind, .int .i64 x.sort, .string x.word, .slice a x.params.length c] 107)) (((((wr.setCell ⟨w.heap.size, 0, none⟩ (.int .i64 x.kind)).setCell ⟨w.heap.size, 1, none⟩ (.int .i64 x.sort)).setCell ⟨w.heap.size, 2, none⟩ (.string x.word)).setCell ⟨w.heap.size, 3, none⟩ (.slice a x.params.length c)).alloc (.cells #[.int .i64 x.kind, .int .i64 x.sort, .string x.word, .slice a x.params.length c] 107)) := New.refl _ _
          exact ((((h0.unalloc.unset (by simp)).unset (by simp)).unset (by simp)).unset (by simp)).below hb1
        revert hF hBf hIf
        generalize (((((wr.setCell ⟨w.heap.size, 0, none⟩ (.int .i64 x.kind)).setCell ⟨w.heap.size, 1, none⟩ (.int .i64 x.sort)).setCell ⟨w.heap.size, 2, none⟩ (.string x.word)).setCell ⟨w.heap.size, 3, none⟩ (.slice a x.params.length c)).alloc (.cells #[.int .i64 x.kind, .int .i64 x.sort, .string x.word, .slice a x.params.length c] 107)) = wf
        intro hF hBf hIf
        simp at hF
        have f0 := hF.cell 0; have f1 := hF.cell 1; have f2 := hF.cell 2; have f3 := hF.cell 3
        simp only [List.getElem?_toArray, List.getElem?_cons_zero, List.getElem?_cons_succ] at f0 f1 f2 f3
        refine bodyPost_ret (v := x.val a c) (by simp [results, Try.results85, go_sem, f0, f1, f2, f3, KRow.val]) rfl ?_
        rw [hfx.out HE.out]
        exact ⟨a, c, rfl, hIf, hBf⟩
      · have hb2 : (x.kind == q) = false := by simpa using he
        have HE := Lib.hid hb2
        clear he
        go_wp2_with fail
        refine ⟨⟨k + 1, by omega, by go_num, by go_grown, ?_, hz1.alloc _, ?_⟩, by simp [intOf]; omega⟩
        · exact hb1.alloc hb1.size _
        · intro y hy
          rw [take_more HXX.out] at hy
          rcases List.mem_append.1 hy with hy | hy
          · exact hp.out y hy
          · simp at hy; subst hy; exact HE.out
    · have hl30 : decide ((k : Int) < 30) = false := by simp; omega
      have hfn : findRow q = ⟨0, 0, ⟨#[]⟩, []⟩ := by
        have := hp.out
        rw [take_all (by rw [kindTable_len]; exact hlt)] at this
        unfold findRow; rw [find_none this]; rfl
      replace hfn := Lib.hid hfn
      go_wp2_with fail
      have hF := (((hz1.set_ 0 (.int .i64 0)).set_ 1 (.int .i64 0)).set_ 2 (.string ⟨#[]⟩)).set_ 3 (.slice none 0 0)
      have hBf : Below w.heap.size w ((((wr.setCell ⟨w.heap.size, 0, none⟩ (.int .i64 0)).setCell ⟨w.heap.size, 1, none⟩ (.int .i64 0)).setCell ⟨w.heap.size, 2, none⟩ (.string ⟨#[]⟩)).setCell ⟨w.heap.size, 3, none⟩ (.slice none 0 0)) := (((hb.setCell (p := ⟨w.heap.size, 0, none⟩) (by simp) _).setCell (p := ⟨w.heap.size, 1, none⟩) (by simp) _).setCell (p := ⟨w.heap.size, 2, none⟩) (by simp) _).setCell (p := ⟨w.heap.size, 3, none⟩) (by simp) _
      revert hF hBf
      generalize ((((wr.setCell ⟨w.heap.size, 0, none⟩ (.int .i64 0)).setCell ⟨w.heap.size, 1, none⟩ (.int .i64 0)).setCell ⟨w.heap.size, 2, none⟩ (.string ⟨#[]⟩)).setCell ⟨w.heap.size, 3, none⟩ (.slice none 0 0)) = wf
      intro hF hBf
      simp at hF
      have f0 := hF.cell 0; have f1 := hF.cell 1; have f2 := hF.cell 2; have f3 := hF.cell 3
      simp only [List.getElem?_toArray, List.getElem?_cons_zero, List.getElem?_cons_succ] at f0 f1 f2 f3
      refine bodyPost_ret (v := (findRow q).val none 0) (by rw [hfn.out]; simp [results, Try.results85, go_sem, f0, f1, f2, f3, KRow.val]) rfl ?_
      refine ⟨none, 0, rfl, ?_, hBf⟩
      rw [hfn.out]
      exact ⟨by simp, by simp [maxLen], fun k x hx => by simp at hx⟩
end Go.Proofs.Ytmlldjcbijoheaa

/- Walks: what is read off a row of the table. -/
namespace Go.Proofs.Ytmlldjcbijoheaa
open Go.RowKit
theorem row_f1 (k s : Int) (t : ByteArray) (v : Value) (w : World) : (Instr.field 107 (.agg #[.int .i64 k, .int .i64 s, .string t, v]) 1).run Try.prog w = .ok (.int .i64 s) w := by kernel_rfl
theorem row_f2 (k s : Int) (t : ByteArray) (v : Value) (w : World) : (Instr.field 107 (.agg #[.int .i64 k, .int .i64 s, .string t, v]) 2).run Try.prog w = .ok (.string t) w := by kernel_rfl
theorem row_f3 (k s : Int) (t : ByteArray) (v : Value) (w : World) : (Instr.field 107 (.agg #[.int .i64 k, .int .i64 s, .string t, v]) 3).run Try.prog w = .ok v w := by kernel_rfl
theorem row_f0 (k s : Int) (t : ByteArray) (v : Value) (w : World) : (Instr.field 107 (.agg #[.int .i64 k, .int .i64 s, .string t, v]) 0).run Try.prog w = .ok (.int .i64 k) w := by kernel_rfl
def findWord2 (w : ByteArray) : KRow := (kindTable.find? fun r => decide (r.word = w)).getD ⟨0, 0, ⟨#[]⟩, []⟩
set_option maxRecDepth 100000 in
theorem sort16_any (q : Int) (w : World) :
    Calls Try.prog 46 #[.int .i64 q] w fun r w' => r = .returned (.int .i64 (findRow q).sort) ∧ Below w.heap.size w w' := by
  have F := find16_any q w
  revert F
  generalize findRow q = R
  intro F
  go_enter Try.func46, Try.ntmps46
  go_wp2_with fail
  refine F.mono ?_
  clear F
  rintro r w1 ⟨a, c, rfl, hi, hb⟩
  unfold KRow.val
  have hfd := fun w => row_f1 R.kind R.sort R.word (.slice a R.params.length c) w
  go_wp2_with fail
  go_ret
  exact ⟨rfl, hb⟩
set_option maxRecDepth 100000 in
theorem word16_any (q : Int) (w : World) :
    Calls Try.prog 50 #[.int .i64 q] w fun r w' => r = .returned (.string (findRow q).word) ∧ Below w.heap.size w w' := by
  have F := find16_any q w
  revert F
  generalize findRow q = R
  intro F
  go_enter Try.func50, Try.ntmps50
  go_wp2_with fail
  refine F.mono ?_
  clear F
  rintro r w1 ⟨a, c, rfl, hi, hb⟩
  unfold KRow.val
  have hfd := fun w => row_f2 R.kind R.sort R.word (.slice a R.params.length c) w
  go_wp2_with fail
  go_ret
  exact ⟨rfl, hb⟩
set_option maxRecDepth 100000 in
theorem params16_any (q : Int) (w : World) :
    Calls Try.prog 49 #[.int .i64 q] w fun r w' => ∃ a c, r = .returned (.slice a (findRow q).params.length c) ∧ IntsR w' a c (findRow q).params ∧ Below w.heap.size w w' := by
  have F := find16_any q w
  revert F
  generalize findRow q = R
  intro F
  go_enter Try.func49, Try.ntmps49
  go_wp2_with fail
  refine F.mono ?_
  clear F
  rintro r w1 ⟨a, c, rfl, hi, hb⟩
  unfold KRow.val
  have hfd := fun w => row_f3 R.kind R.sort R.word (.slice a R.params.length c) w
  go_wp2_with fail
  go_ret
  exact ⟨a, c, rfl, hi, hb⟩

set_option maxRecDepth 100000 in
set_option maxHeartbeats 1000000 in
theorem kind16_any (q : ByteArray) (w : World) :
    Calls Try.prog 51 #[.string q] w fun r w' => r = .returned (.int .i64 (findWord2 q).kind) ∧ Below w.heap.size w w' := by
  go_enter Try.func51, Try.ntmps51
  go_wp2_with fail
  refine (rows16_new _).mono ?_
  rintro r w1 ⟨ab, rfl, hb1, hT⟩
  have HT := Lib.hid hT
  clear hT
  go_wp2_with fail
  go_loopw [7] (fun i wr => ∃ k : Nat, k ≤ 30 ∧ i = .int .i64 k ∧ Below w.heap.size w wr ∧ Below w1.heap.size w1 wr ∧ Hid (∀ y ∈ kindTable.take k, decide (y.word = q) = false)) (fun i _ => 30 - (intOf i).toNat)
  case atStart => exact ⟨0, by omega, rfl, hb1, Below.refl _ _, by simp [Hid]⟩
  case round =>
    obtain ⟨k, hk, rfl, hb, hb2, hp⟩ := hrel
    clear hb1
    by_cases hlt : k < 30
    · obtain ⟨x, hx⟩ := get_of_lt (xs := kindTable) (k := k) (by rw [kindTable_len]; exact hlt)
      obtain ⟨a, c, hE⟩ := HT.out k x hx
      have hNew : New w.heap.size w1 wr := (New.refl _ wr).below hb2
      obtain ⟨q0, q1, q2, q3, -⟩ := hE wr hNew
      have HXX := Lib.hid hx
      clear hx hE hNew
      by_cases he : x.word = q
      · have hb3 : (x.word.toList == q.toList) = true := by rw [str_beq]; simpa using he
        have hb4 : decide (x.word = q) = true := decide_eq_true he
        have HE := Lib.hid hb4
        clear he hb4
        go_wp2_with fail
        go_ret
        refine ⟨ret_int ?_, hb.alloc hb.size _⟩
        unfold findWord2; rw [find_here HXX.out HE.out hp.out]; rfl
      · have hb3 : (x.word.toList == q.toList) = false := by rw [str_beq]; simpa using he
        have hb4 : decide (x.word = q) = false := decide_eq_false he
        have HE := Lib.hid hb4
        clear he hb4
        go_wp2_with fail
        refine ⟨⟨k + 1, by omega, by go_num, hb.alloc hb.size _, hb2.alloc hb2.size _, ?_⟩, by simp [intOf]; omega⟩
        intro y hy
        rw [take_more HXX.out] at hy
        rcases List.mem_append.1 hy with hy | hy
        · exact hp.out y hy
        · simp at hy; subst hy; exact HE.out
    · have hl30 : decide ((k : Int) < 30) = false := by simp; omega
      go_wp2_with fail
      go_ret
      refine ⟨ret_int ?_, hb⟩
      have := hp.out
      rw [take_all (by rw [kindTable_len]; exact hlt)] at this
      unfold findWord2; rw [find_none this]; rfl
end Go.Proofs.Ytmlldjcbijoheaa

/- Walks: arities and the zero value, by the reference. -/
namespace Go.Proofs.Ytmlldjcbijoheaa
open Go.RowKit

theorem eqb_false {a b : Int} (h : ¬ a = b) : (a == b) = false := by simpa using h
set_option maxHeartbeats 2000000 in
theorem arity14_any (k : Int) (w : World) : Calls Try.prog 91 #[.int .i64 k] w fun e w' => e = .returned (.int .i64 (arity14 k)) ∧ w = w' := by
  by_cases hk : 1 ≤ k ∧ k ≤ 9
  · have hc : k = 1 ∨ k = 2 ∨ k = 3 ∨ k = 4 ∨ k = 5 ∨ k = 6 ∨ k = 7 ∨ k = 8 ∨ k = 9 := by omega
    clear hk
    rcases hc with rfl | rfl | rfl | rfl | rfl | rfl | rfl | rfl | rfl
    all_goals
      go_enter Try.func91, Try.ntmps91
      go_wp2
      go_ret
      exact ⟨ret_int (by decide), rfl⟩
  · have h1 := eqb_false (a := k) (b := 1) (by omega); have h2 := eqb_false (a := k) (b := 2) (by omega); have h3 := eqb_false (a := k) (b := 3) (by omega)
    have h4 := eqb_false (a := k) (b := 4) (by omega); have h5 := eqb_false (a := k) (b := 5) (by omega); have h6 := eqb_false (a := k) (b := 6) (by omega)
    have h7 := eqb_false (a := k) (b := 7) (by omega); have h8 := eqb_false (a := k) (b := 8) (by omega); have h9 := eqb_false (a := k) (b := 9) (by omega)
    have hr : arity14 k = 0 := by unfold arity14; rw [if_neg (by omega), if_neg (by omega), if_neg (by omega), if_neg (by omega)]
    rw [hr]
    clear hr hk
    go_enter Try.func91, Try.ntmps91
    go_wp2
    go_ret
    exact ⟨rfl, rfl⟩
set_option maxHeartbeats 2000000 in
theorem arity20_any (k : Int) (w : World) : Calls Try.prog 88 #[.int .i64 k] w fun e w' => e = .returned (.int .i64 (arity20 k)) ∧ w = w' := by
  by_cases hk : 1 ≤ k ∧ k ≤ 14
  · have hc : k = 1 ∨ k = 2 ∨ k = 3 ∨ k = 4 ∨ k = 5 ∨ k = 6 ∨ k = 7 ∨ k = 8 ∨ k = 9 ∨ k = 10 ∨ k = 11 ∨ k = 12 ∨ k = 13 ∨ k = 14 := by omega
    clear hk
    rcases hc with rfl | rfl | rfl | rfl | rfl | rfl | rfl | rfl | rfl | rfl | rfl | rfl | rfl | rfl
    all_goals
      go_enter Try.func88, Try.ntmps88
      go_wp2
      go_ret
      exact ⟨ret_int (by decide), rfl⟩
  · have h1 := eqb_false (a := k) (b := 1) (by omega); have h2 := eqb_false (a := k) (b := 2) (by omega); have h3 := eqb_false (a := k) (b := 3) (by omega)
    have h4 := eqb_false (a := k) (b := 4) (by omega); have h5 := eqb_false (a := k) (b := 5) (by omega); have h6 := eqb_false (a := k) (b := 6) (by omega)
    have h7 := eqb_false (a := k) (b := 7) (by omega); have h8 := eqb_false (a := k) (b := 8) (by omega); have h9 := eqb_false (a := k) (b := 9) (by omega)
    have h10 := eqb_false (a := k) (b := 10) (by omega); have h11 := eqb_false (a := k) (b := 11) (by omega); have h12 := eqb_false (a := k) (b := 12) (by omega)
    have h13 := eqb_false (a := k) (b := 13) (by omega); have h14 := eqb_false (a := k) (b := 14) (by omega)
    have hr : arity20 k = -1 := by unfold arity20; rw [if_neg (by omega), if_neg (by omega), if_neg (by omega), if_neg (by omega)]
    rw [hr]
    clear hr hk
    go_enter Try.func88, Try.ntmps88
    go_wp2
    go_ret
    exact ⟨rfl, rfl⟩
theorem arity14_in (k : Int) : 0 ≤ arity14 k ∧ arity14 k ≤ 8 := by unfold arity14; split <;> (try split) <;> (try split) <;> (try split) <;> omega
theorem arity20_in (k : Int) : -1 ≤ arity20 k ∧ arity20 k ≤ 4 := by unfold arity20; split <;> (try split) <;> (try split) <;> (try split) <;> omega

set_option maxHeartbeats 1000000 in
theorem none14_any (r : Rt) (na : Option Addr) (nc : Nat) (da : Option Addr) (dc : Nat) (w : World) (hl : r.num.length ≤ 2000000) (hm : r.den.length ≤ 2000000) :
    Calls Try.prog 92 #[r.val na nc da dc] w fun e w' => e = .returned (.bool r.none) ∧ Below w.heap.size w w' := by
  obtain ⟨neg, num, den⟩ := r
  unfold Rt.val Rt.none
  dsimp only at hl hm ⊢
  by_cases h1 : num.length = 0 <;> by_cases h2 : den.length = 0
  all_goals
    have e1 : ((num.length : Int) == 0) = decide (num.length = 0) := by rw [Bool.eq_iff_iff]; simp
    have e2 : ((den.length : Int) == 0) = decide (den.length = 0) := by rw [Bool.eq_iff_iff]; simp
    have d1 : decide (num.length = 0) = decide (num.length = 0) := rfl
    simp only [h1, h2, decide_true, decide_false, if_true, if_false] at e1 e2
    have HH : (decide (num.length = 0), decide (den.length = 0)) = (decide (num.length = 0), decide (den.length = 0)) := rfl
    simp only [h1, h2, decide_true, decide_false] at HH ⊢
    clear HH d1
    cases neg
    all_goals
      have H1 := Lib.hid h1
      have H2 := Lib.hid h2
      clear h1 h2
      go_enter Try.func92, Try.ntmps92
      go_wp2
      go_ret
      exact ⟨rfl, (Below.refl _ _).alloc (Nat.le_refl _) _⟩
set_option maxHeartbeats 1000000 in
theorem none20_any (r : Rt) (na : Option Addr) (nc : Nat) (da : Option Addr) (dc : Nat) (w : World) (hl : r.num.length ≤ 2000000) (hm : r.den.length ≤ 2000000) :
    Calls Try.prog 90 #[r.val na nc da dc] w fun e w' => e = .returned (.bool r.none) ∧ Below w.heap.size w w' := by
  obtain ⟨neg, num, den⟩ := r
  unfold Rt.val Rt.none
  dsimp only at hl hm ⊢
  by_cases h1 : num.length = 0 <;> by_cases h2 : den.length = 0
  all_goals
    have e1 : ((num.length : Int) == 0) = decide (num.length = 0) := by rw [Bool.eq_iff_iff]; simp
    have e2 : ((den.length : Int) == 0) = decide (den.length = 0) := by rw [Bool.eq_iff_iff]; simp
    have d1 : decide (num.length = 0) = decide (num.length = 0) := rfl
    simp only [h1, h2, decide_true, decide_false, if_true, if_false] at e1 e2
    have HH : (decide (num.length = 0), decide (den.length = 0)) = (decide (num.length = 0), decide (den.length = 0)) := rfl
    simp only [h1, h2, decide_true, decide_false] at HH ⊢
    clear HH d1
    cases neg
    all_goals
      have H1 := Lib.hid h1
      have H2 := Lib.hid h2
      clear h1 h2
      go_enter Try.func90, Try.ntmps90
      go_wp2
      go_ret
      exact ⟨rfl, (Below.refl _ _).alloc (Nat.le_refl _) _⟩
end Go.Proofs.Ytmlldjcbijoheaa
