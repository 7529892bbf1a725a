/- Walks: whether a string is a name, by the reference and by the program. -/
import Derived.Test.YtmlldjcbijoheaaKs5
import Derived.Deep.DeepCutAuto
import Derived.Test.YtmlldjcbijoheaaRows
import Derived.Test.YtmlldjcbijoheaaKs2

/- Walks: the row of a kind, and what is read off it. -/
namespace Go.Proofs.Ytmlldjcbijoheaa
open Go.RowKit
def KRow.val (r : KRow) (a : Option Addr) (c : Nat) : Value := .agg #[.int .i64 r.kind, .int .i64 r.sort, .string r.word, .slice a r.params.length c]
/-- what a call gives that makes a row -/
def RetRow (w : World) (q : KRow) (r : Ending) (w' : World) : Prop := ∃ a c, r = .returned (q.val a c) ∧ IntsR w' a c q.params ∧ Below w.heap.size w w'
theorem rows16_new (w : World) :
    Calls Try.prog 87 #[] w fun r w' => ∃ b, r = .returned (.slice (some ⟨b, 0, none⟩) 30 30) ∧ Below w.heap.size w w' ∧ ∀ k x, kindTable[k]? = some x → ∃ a c, ∀ V, New w.heap.size w' V →
      V.cell? ⟨b, k * 4, none⟩ = some (.int .i64 x.kind) ∧ V.cell? ⟨b, k * 4 + 1, none⟩ = some (.int .i64 x.sort) ∧ V.cell? ⟨b, k * 4 + 2, none⟩ = some (.string x.word) ∧ V.cell? ⟨b, k * 4 + 3, none⟩ = some (.slice a x.params.length c) ∧ IntsR V a c x.params := by
  refine (rows16_raw w).mono ?_
  rintro r w' ⟨rfl, rfl⟩
  refine ⟨_, rfl, table_below _ _ w kindTable, fun k r hr => ⟨some ⟨w.heap.size + k, 0, none⟩, r.params.length, fun V hV => ?_⟩⟩
  have hk := lt_of_get hr
  have hB : Blk (tableWorld 3 107 w kindTable) (w.heap.size + 30) 107 (rowVals w.heap.size kindTable).toArray := by
    have := Blk.new (allocs w (kindTable.map fun r => intObj 3 r.params)) 107 (rowVals w.heap.size kindTable).toArray
    rw [allocs_size, List.length_map, kindTable_len] at this
    exact this
  have hP : Blk (tableWorld 3 107 w kindTable) (w.heap.size + k) 3 (r.params.map (Value.int .i64)).toArray :=
    Blk.alloc (allocs_at (kindTable.map fun (r : KRow) => intObj 3 r.params) w k 3 (r.params.map (Value.int .i64)).toArray (by rw [List.getElem?_map, hr]; rfl)) _
  obtain ⟨h0, h1, h2, h3⟩ := rowVals_at kindTable w.heap.size k r hr
  have hm := List.mem_of_getElem? hr
  have hI := intsR_blk hP (kindTable_ok r hm).1 (kindTable_ok r hm).2
  refine ⟨?_, ?_, ?_, ?_, ⟨hI.1, hI.2.1, fun j y hy => ?_⟩⟩
  · exact hV _ _ (by simp) (by rw [hB.cell]; simpa using h0)
  · exact hV _ _ (by simp) (by rw [hB.cell]; simpa using h1)
  · exact hV _ _ (by simp) (by rw [hB.cell]; simpa using h2)
  · exact hV _ _ (by simp) (by rw [hB.cell]; simpa using h3)
  · obtain ⟨b, o, e, hc⟩ := hI.2.2 j y hy
    injection e with e
    injection e with e1 e2
    subst e1 e2
    exact ⟨_, _, rfl, hV _ _ (by simp) hc.1, hc.2⟩
set_option maxRecDepth 100000 in
set_option maxHeartbeats 1000000 in
theorem find16_any (q : Int) (w : World) :
    Calls Try.prog 85 #[.int .i64 q] w (RetRow w (findRow q)) := by
  go_enter Try.func85, Try.ntmps85
  go_wp2_with fail
  refine (rows16_new _).mono ?_
  rintro r w1 ⟨ab, rfl, hb1, hT⟩
  have hz : Blk (w.alloc (.cells #[.int .i64 0, .int .i64 0, .string ⟨#[]⟩, .slice none 0 0] 107)) w.heap.size 107 #[.int .i64 0, .int .i64 0, .string ⟨#[]⟩, .slice none 0 0] := Blk.new w _ _
  replace hz := hz.below' hb1
  have hw1 := below_then1 (Below.refl _ w) hb1
  have HT := Lib.hid hT
  clear hT hb1
  go_wp2_with fail
  go_loopw [7] (fun i wr => ∃ k : Nat, k ≤ 30 ∧ i = .int .i64 k ∧ Below w.heap.size w wr ∧ Below w1.heap.size w1 wr ∧ Blk wr w.heap.size 107 #[.int .i64 0, .int .i64 0, .string ⟨#[]⟩, .slice none 0 0] ∧
    Hid (∀ y ∈ kindTable.take k, (y.kind == q) = false)) (fun i _ => 30 - (intOf i).toNat)
  case atStart => exact ⟨0, by omega, rfl, hw1, Below.refl _ _, hz, by simp [Hid]⟩
  case round =>
    obtain ⟨k, hk, rfl, hb, hb1, hz1, hp⟩ := hrel
    clear hz hw1
    have z0 := hz1.cell 0; have z1 := hz1.cell 1; have z2 := hz1.cell 2; have z3 := hz1.cell 3
    have y0 := hz1.frozen 0; have y1 := hz1.frozen 1; have y2 := hz1.frozen 2; have y3 := hz1.frozen 3
    have hlt0 := hz1.lt
    by_cases hlt : k < 30
    · obtain ⟨x, hx⟩ := get_of_lt (xs := kindTable) (k := k) (by rw [kindTable_len]; exact hlt)
      obtain ⟨a, c, hE⟩ := HT.out k x hx
      have hNew : New (w.alloc (.cells #[.int .i64 0, .int .i64 0, .string ⟨#[]⟩, .slice none 0 0] 107)).heap.size w1 wr := (New.refl _ wr).below hb1
      obtain ⟨q0, q1, q2, q3, hi⟩ := hE wr hNew
      have HEE := Lib.hid hE
      have HXX := Lib.hid hx
      clear hx hE hi hNew
      have hfx : (x.kind == q) = true → findRow q = x := fun h => by unfold findRow; rw [find_here HXX.out h hp.out]; rfl
      replace hfx := Lib.hid hfx
      by_cases he : x.kind = q
      · have hb2 : (x.kind == q) = true := by simpa using he
        have HE := Lib.hid hb2
        clear he
        go_wp2_with fail
        have hF := ((((hz1.set_ 0 (.int .i64 x.kind)).set_ 1 (.int .i64 x.sort)).set_ 2 (.string x.word)).set_ 3 (.slice a x.params.length c)).alloc (.cells #[.int .i64 x.kind, .int .i64 x.sort, .string x.word, .slice a x.params.length c] 107)
        have hBf : Below w.heap.size w (((((wr.setCell ⟨w.heap.size, 0, none⟩ (.int .i64 x.kind)).setCell ⟨w.heap.size, 1, none⟩ (.int .i64 x.sort)).setCell ⟨w.heap.size, 2, none⟩ (.string x.word)).setCell ⟨w.heap.size, 3, none⟩ (.slice a x.params.length c)).alloc (.cells #[.int .i64 x.kind, .int .i64 x.sort, .string x.word, .slice a x.params.length c] 107)) := ((((hb.setCell (p := ⟨w.heap.size, 0, none⟩) (by simp) _).setCell (p := ⟨w.heap.size, 1, none⟩) (by simp) _).setCell (p := ⟨w.heap.size, 2, none⟩) (by simp) _).setCell (p := ⟨w.heap.size, 3, none⟩) (by simp) _).alloc (by have := hb.size; simp; omega) _
        have hIf : IntsR (((((wr.setCell ⟨w.heap.size, 0, none⟩ (.int .i64 x.kind)).setCell ⟨w.heap.size, 1, none⟩ (.int .i64 x.sort)).setCell ⟨w.heap.size, 2, none⟩ (.string x.word)).setCell ⟨w.heap.size, 3, none⟩ (.slice a x.params.length c)).alloc (.cells #[.int .i64 x.kind, .int .i64 x.sort, .string x.word, .slice a x.params.length c] 107)) a c x.params := by
          refine (HEE.out _ ?_).2.2.2.2
          have h0 : New (w.alloc (.cells #[.int .i64 0, .int .i64 0, .string ⟨#[]⟩, .slice none 0 0] 107)).heap.size (((((wr.setCell ⟨w.heap.size, 0, none⟩ (.int .i64 x.kind)).setCell ⟨w.heap.size, 1, none⟩ (.int .i64 x.sort)).setCell ⟨w.heap.size, 2, none⟩ (.string x.word)).setCell ⟨w.heap.size, 3, none⟩ (.slice a x.params.length c)).alloc (.cells #[.int .i64 x.kind, .int .i64 x.sort, .string x.word, .slice a x.params.length c] 107)) (((((wr.setCell ⟨w.heap.size, 0, none⟩ (.int .i64 x.kind)).setCell ⟨w.heap.size, 1, none⟩ (.int .i64 x.sort)).setCell ⟨w.heap.size, 2, none⟩ (.string x.word)).setCell ⟨w.heap.size, 3, none⟩ (.slice a x.params.length c)).alloc (.cells #[.int .i64 x.kind, .int .i64 x.sort, .string x.word, .slice a x.params.length c] 107)) := New.refl _ _
          exact ((((h0.unalloc.unset (by simp)).unset (by simp)).unset (by simp)).unset (by simp)).below hb1
        revert hF hBf hIf
        generalize (((((wr.setCell ⟨w.heap.size, 0, none⟩ (.int .i64 x.kind)).setCell ⟨w.heap.size, 1, none⟩ (.int .i64 x.sort)).setCell ⟨w.heap.size, 2, none⟩ (.string x.word)).setCell ⟨w.heap.size, 3, none⟩ (.slice a x.params.length c)).alloc (.cells #[.int .i64 x.kind, .int .i64 x.sort, .string x.word, .slice a x.params.length c] 107)) = wf
        intro hF hBf hIf
        simp at hF
        have f0 := hF.cell 0; have f1 := hF.cell 1; have f2 := hF.cell 2; have f3 := hF.cell 3
        simp only [List.getElem?_toArray, List.getElem?_cons_zero, List.getElem?_cons_succ] at f0 f1 f2 f3
        refine bodyPost_ret (v := x.val a c) (by simp [results, Try.results85, go_sem, f0, f1, f2, f3, KRow.val]) rfl ?_
        rw [hfx.out HE.out]
        exact ⟨a, c, rfl, hIf, hBf⟩
      · have hb2 : (x.kind == q) = false := by simpa using he
        have HE := Lib.hid hb2
        clear he
        go_wp2_with fail
        refine ⟨⟨k + 1, by omega, by go_num, by go_grown, ?_, hz1.alloc _, ?_⟩, by simp [intOf]; omega⟩
        · exact hb1.alloc hb1.size _
        · intro y hy
          rw [take_more HXX.out] at hy
          rcases List.mem_append.1 hy with hy | hy
          · exact hp.out y hy
          · simp at hy; subst hy; exact HE.out
    · have hl30 : decide ((k : Int) < 30) = false := by simp; omega
      have hfn : findRow q = ⟨0, 0, ⟨#[]⟩, []⟩ := by
        have := hp.out
        rw [take_all (by rw [kindTable_len]; exact hlt)] at this
        unfold findRow; rw [find_none this]; rfl
      replace hfn := Lib.hid hfn
      go_wp2_with fail
      have hF := (((hz1.set_ 0 (.int .i64 0)).set_ 1 (.int .i64 0)).set_ 2 (.string ⟨#[]⟩)).set_ 3 (.slice none 0 0)
      have hBf : Below w.heap.size w ((((wr.setCell ⟨w.heap.size, 0, none⟩ (.int .i64 0)).setCell ⟨w.heap.size, 1, none⟩ (.int .i64 0)).setCell ⟨w.heap.size, 2, none⟩ (.string ⟨#[]⟩)).setCell ⟨w.heap.size, 3, none⟩ (.slice none 0 0)) := (((hb.setCell (p := ⟨w.heap.size, 0, none⟩) (by simp) _).setCell (p := ⟨w.heap.size, 1, none⟩) (by simp) _).setCell (p := ⟨w.heap.size, 2, none⟩) (by simp) _).setCell (p := ⟨w.heap.size, 3, none⟩) (by simp) _
      revert hF hBf
      generalize ((((wr.setCell ⟨w.heap.size, 0, none⟩ (.int .i64 0)).setCell ⟨w.heap.size, 1, none⟩ (.int .i64 0)).setCell ⟨w.heap.size, 2, none⟩ (.string ⟨#[]⟩)).setCell ⟨w.heap.size, 3, none⟩ (.slice none 0 0)) = wf
      intro hF hBf
      simp at hF
      have f0 := hF.cell 0; have f1 := hF.cell 1; have f2 := hF.cell 2; have f3 := hF.cell 3
      simp only [List.getElem?_toArray, List.getElem?_cons_zero, List.getElem?_cons_succ] at f0 f1 f2 f3
      refine bodyPost_ret (v := (findRow q).val none 0) (by rw [hfn.out]; simp [results, Try.results85, go_sem, f0, f1, f2, f3, KRow.val]) rfl ?_
      refine ⟨none, 0, rfl, ?_, hBf⟩
      rw [hfn.out]
      exact ⟨by simp, by simp [maxLen], fun k x hx => by simp at hx⟩
end Go.Proofs.Ytmlldjcbijoheaa

/- Walks: what is read off a row of the table. -/
namespace Go.Proofs.Ytmlldjcbijoheaa
open Go.RowKit
theorem row_f1 (k s : Int) (t : ByteArray) (v : Value) (w : World) : (Instr.field 107 (.agg #[.int .i64 k, .int .i64 s, .string t, v]) 1).run Try.prog w = .ok (.int .i64 s) w := by kernel_rfl
theorem row_f2 (k s : Int) (t : ByteArray) (v : Value) (w : World) : (Instr.field 107 (.agg #[.int .i64 k, .int .i64 s, .string t, v]) 2).run Try.prog w = .ok (.string t) w := by kernel_rfl
theorem row_f3 (k s : Int) (t : ByteArray) (v : Value) (w : World) : (Instr.field 107 (.agg #[.int .i64 k, .int .i64 s, .string t, v]) 3).run Try.prog w = .ok v w := by kernel_rfl
theorem row_f0 (k s : Int) (t : ByteArray) (v : Value) (w : World) : (Instr.field 107 (.agg #[.int .i64 k, .int .i64 s, .string t, v]) 0).run Try.prog w = .ok (.int .i64 k) w := by kernel_rfl
def findWord2 (w : ByteArray) : KRow := (kindTable.find? fun r => decide (r.word = w)).getD ⟨0, 0, ⟨#[]⟩, []⟩
set_option maxRecDepth 100000 in
theorem sort16_any (q : Int) (w : World) :
    Calls Try.prog 46 #[.int .i64 q] w fun r w' => r = .returned (.int .i64 (findRow q).sort) ∧ Below w.heap.size w w' := by
  have F := find16_any q w
  revert F
  generalize findRow q = R
  intro F
  go_enter Try.func46, Try.ntmps46
  go_wp2_with fail
  refine F.mono ?_
  clear F
  rintro r w1 ⟨a, c, rfl, hi, hb⟩
  unfold KRow.val
  have hfd := fun w => row_f1 R.kind R.sort R.word (.slice a R.params.length c) w
  go_wp2_with fail
  go_ret
  exact ⟨rfl, hb⟩
set_option maxRecDepth 100000 in
theorem word16_any (q : Int) (w : World) :
    Calls Try.prog 50 #[.int .i64 q] w fun r w' => r = .returned (.string (findRow q).word) ∧ Below w.heap.size w w' := by
  have F := find16_any q w
  revert F
  generalize findRow q = R
  intro F
  go_enter Try.func50, Try.ntmps50
  go_wp2_with fail
  refine F.mono ?_
  clear F
  rintro r w1 ⟨a, c, rfl, hi, hb⟩
  unfold KRow.val
  have hfd := fun w => row_f2 R.kind R.sort R.word (.slice a R.params.length c) w
  go_wp2_with fail
  go_ret
  exact ⟨rfl, hb⟩
set_option maxRecDepth 100000 in
theorem params16_any (q : Int) (w : World) :
    Calls Try.prog 49 #[.int .i64 q] w fun r w' => ∃ a c, r = .returned (.slice a (findRow q).params.length c) ∧ IntsR w' a c (findRow q).params ∧ Below w.heap.size w w' := by
  have F := find16_any q w
  revert F
  generalize findRow q = R
  intro F
  go_enter Try.func49, Try.ntmps49
  go_wp2_with fail
  refine F.mono ?_
  clear F
  rintro r w1 ⟨a, c, rfl, hi, hb⟩
  unfold KRow.val
  have hfd := fun w => row_f3 R.kind R.sort R.word (.slice a R.params.length c) w
  go_wp2_with fail
  go_ret
  exact ⟨a, c, rfl, hi, hb⟩

set_option maxRecDepth 100000 in
set_option maxHeartbeats 1000000 in
theorem kind16_any (q : ByteArray) (w : World) :
    Calls Try.prog 51 #[.string q] w fun r w' => r = .returned (.int .i64 (findWord2 q).kind) ∧ Below w.heap.size w w' := by
  go_enter Try.func51, Try.ntmps51
  go_wp2_with fail
  refine (rows16_new _).mono ?_
  rintro r w1 ⟨ab, rfl, hb1, hT⟩
  have HT := Lib.hid hT
  clear hT
  go_wp2_with fail
  go_loopw [7] (fun i wr => ∃ k : Nat, k ≤ 30 ∧ i = .int .i64 k ∧ Below w.heap.size w wr ∧ Below w1.heap.size w1 wr ∧ Hid (∀ y ∈ kindTable.take k, decide (y.word = q) = false)) (fun i _ => 30 - (intOf i).toNat)
  case atStart => exact ⟨0, by omega, rfl, hb1, Below.refl _ _, by simp [Hid]⟩
  case round =>
    obtain ⟨k, hk, rfl, hb, hb2, hp⟩ := hrel
    clear hb1
    by_cases hlt : k < 30
    · obtain ⟨x, hx⟩ := get_of_lt (xs := kindTable) (k := k) (by rw [kindTable_len]; exact hlt)
      obtain ⟨a, c, hE⟩ := HT.out k x hx
      have hNew : New w.heap.size w1 wr := (New.refl _ wr).below hb2
      obtain ⟨q0, q1, q2, q3, -⟩ := hE wr hNew
      have HXX := Lib.hid hx
      clear hx hE hNew
      by_cases he : x.word = q
      · have hb3 : (x.word.toList == q.toList) = true := by rw [str_beq]; simpa using he
        have hb4 : decide (x.word = q) = true := decide_eq_true he
        have HE := Lib.hid hb4
        clear he hb4
        go_wp2_with fail
        go_ret
        refine ⟨ret_int ?_, hb.alloc hb.size _⟩
        unfold findWord2; rw [find_here HXX.out HE.out hp.out]; rfl
      · have hb3 : (x.word.toList == q.toList) = false := by rw [str_beq]; simpa using he
        have hb4 : decide (x.word = q) = false := decide_eq_false he
        have HE := Lib.hid hb4
        clear he hb4
        go_wp2_with fail
        refine ⟨⟨k + 1, by omega, by go_num, hb.alloc hb.size _, hb2.alloc hb2.size _, ?_⟩, by simp [intOf]; omega⟩
        intro y hy
        rw [take_more HXX.out] at hy
        rcases List.mem_append.1 hy with hy | hy
        · exact hp.out y hy
        · simp at hy; subst hy; exact HE.out
    · have hl30 : decide ((k : Int) < 30) = false := by simp; omega
      go_wp2_with fail
      go_ret
      refine ⟨ret_int ?_, hb⟩
      have := hp.out
      rw [take_all (by rw [kindTable_len]; exact hlt)] at this
      unfold findWord2; rw [find_none this]; rfl
end Go.Proofs.Ytmlldjcbijoheaa

/- Walks: arities and the zero value, by the reference. -/
namespace Go.Proofs.Ytmlldjcbijoheaa
open Go.RowKit

theorem eqb_false {a b : Int} (h : ¬ a = b) : (a == b) = false := by simpa using h
set_option maxHeartbeats 2000000 in
theorem arity14_any (k : Int) (w : World) : Calls Try.prog 91 #[.int .i64 k] w fun e w' => e = .returned (.int .i64 (arity14 k)) ∧ w = w' := by
  by_cases hk : 1 ≤ k ∧ k ≤ 9
  · have hc : k = 1 ∨ k = 2 ∨ k = 3 ∨ k = 4 ∨ k = 5 ∨ k = 6 ∨ k = 7 ∨ k = 8 ∨ k = 9 := by omega
    clear hk
    rcases hc with rfl | rfl | rfl | rfl | rfl | rfl | rfl | rfl | rfl
    all_goals
      go_enter Try.func91, Try.ntmps91
      go_wp2
      go_ret
      exact ⟨ret_int (by decide), rfl⟩
  · have h1 := eqb_false (a := k) (b := 1) (by omega); have h2 := eqb_false (a := k) (b := 2) (by omega); have h3 := eqb_false (a := k) (b := 3) (by omega)
    have h4 := eqb_false (a := k) (b := 4) (by omega); have h5 := eqb_false (a := k) (b := 5) (by omega); have h6 := eqb_false (a := k) (b := 6) (by omega)
    have h7 := eqb_false (a := k) (b := 7) (by omega); have h8 := eqb_false (a := k) (b := 8) (by omega); have h9 := eqb_false (a := k) (b := 9) (by omega)
    have hr : arity14 k = 0 := by unfold arity14; rw [if_neg (by omega), if_neg (by omega), if_neg (by omega), if_neg (by omega)]
    rw [hr]
    clear hr hk
    go_enter Try.func91, Try.ntmps91
    go_wp2
    go_ret
    exact ⟨rfl, rfl⟩
set_option maxHeartbeats 2000000 in
theorem arity20_any (k : Int) (w : World) : Calls Try.prog 88 #[.int .i64 k] w fun e w' => e = .returned (.int .i64 (arity20 k)) ∧ w = w' := by
  by_cases hk : 1 ≤ k ∧ k ≤ 14
  · have hc : k = 1 ∨ k = 2 ∨ k = 3 ∨ k = 4 ∨ k = 5 ∨ k = 6 ∨ k = 7 ∨ k = 8 ∨ k = 9 ∨ k = 10 ∨ k = 11 ∨ k = 12 ∨ k = 13 ∨ k = 14 := by omega
    clear hk
    rcases hc with rfl | rfl | rfl | rfl | rfl | rfl | rfl | rfl | rfl | rfl | rfl | rfl | rfl | rfl
    all_goals
      go_enter Try.func88, Try.ntmps88
      go_wp2
      go_ret
      exact ⟨ret_int (by decide), rfl⟩
  · have h1 := eqb_false (a := k) (b := 1) (by omega); have h2 := eqb_false (a := k) (b := 2) (by omega); have h3 := eqb_false (a := k) (b := 3) (by omega)
    have h4 := eqb_false (a := k) (b := 4) (by omega); have h5 := eqb_false (a := k) (b := 5) (by omega); have h6 := eqb_false (a := k) (b := 6) (by omega)
    have h7 := eqb_false (a := k) (b := 7) (by omega); have h8 := eqb_false (a := k) (b := 8) (by omega); have h9 := eqb_false (a := k) (b := 9) (by omega)
    have h10 := eqb_false (a := k) (b := 10) (by omega); have h11 := eqb_false (a := k) (b := 11) (by omega); have h12 := eqb_false (a := k) (b := 12) (by omega)
    have h13 := eqb_false (a := k) (b := 13) (by omega); have h14 := eqb_false (a := k) (b := 14) (by omega)
    have hr : arity20 k = -1 := by unfold arity20; rw [if_neg (by omega), if_neg (by omega), if_neg (by omega), if_neg (by omega)]
    rw [hr]
    clear hr hk
    go_enter Try.func88, Try.ntmps88
    go_wp2
    go_ret
    exact ⟨rfl, rfl⟩
theorem arity14_in (k : Int) : 0 ≤ arity14 k ∧ arity14 k ≤ 8 := by unfold arity14; split <;> (try split) <;> (try split) <;> (try split) <;> omega
theorem arity20_in (k : Int) : -1 ≤ arity20 k ∧ arity20 k ≤ 4 := by unfold arity20; split <;> (try split) <;> (try split) <;> (try split) <;> omega

set_option maxHeartbeats 1000000 in
theorem none14_any (r : Rt) (na : Option Addr) (nc : Nat) (da : Option Addr) (dc : Nat) (w : World) (hl : r.num.length ≤ 2000000) (hm : r.den.length ≤ 2000000) :
    Calls Try.prog 92 #[r.val na nc da dc] w fun e w' => e = .returned (.bool r.none) ∧ Below w.heap.size w w' := by
  obtain ⟨neg, num, den⟩ := r
  unfold Rt.val Rt.none
  dsimp only at hl hm ⊢
  by_cases h1 : num.length = 0 <;> by_cases h2 : den.length = 0
  all_goals
    have e1 : ((num.length : Int) == 0) = decide (num.length = 0) := by rw [Bool.eq_iff_iff]; simp
    have e2 : ((den.length : Int) == 0) = decide (den.length = 0) := by rw [Bool.eq_iff_iff]; simp
    have d1 : decide (num.length = 0) = decide (num.length = 0) := rfl
    simp only [h1, h2, decide_true, decide_false, if_true, if_false] at e1 e2
    have HH : (decide (num.length = 0), decide (den.length = 0)) = (decide (num.length = 0), decide (den.length = 0)) := rfl
    simp only [h1, h2, decide_true, decide_false] at HH ⊢
    clear HH d1
    cases neg
    all_goals
      have H1 := Lib.hid h1
      have H2 := Lib.hid h2
      clear h1 h2
      go_enter Try.func92, Try.ntmps92
      go_wp2
      go_ret
      exact ⟨rfl, (Below.refl _ _).alloc (Nat.le_refl _) _⟩
set_option maxHeartbeats 1000000 in
theorem none20_any (r : Rt) (na : Option Addr) (nc : Nat) (da : Option Addr) (dc : Nat) (w : World) (hl : r.num.length ≤ 2000000) (hm : r.den.length ≤ 2000000) :
    Calls Try.prog 90 #[r.val na nc da dc] w fun e w' => e = .returned (.bool r.none) ∧ Below w.heap.size w w' := by
  obtain ⟨neg, num, den⟩ := r
  unfold Rt.val Rt.none
  dsimp only at hl hm ⊢
  by_cases h1 : num.length = 0 <;> by_cases h2 : den.length = 0
  all_goals
    have e1 : ((num.length : Int) == 0) = decide (num.length = 0) := by rw [Bool.eq_iff_iff]; simp
    have e2 : ((den.length : Int) == 0) = decide (den.length = 0) := by rw [Bool.eq_iff_iff]; simp
    have d1 : decide (num.length = 0) = decide (num.length = 0) := rfl
    simp only [h1, h2, decide_true, decide_false, if_true, if_false] at e1 e2
    have HH : (decide (num.length = 0), decide (den.length = 0)) = (decide (num.length = 0), decide (den.length = 0)) := rfl
    simp only [h1, h2, decide_true, decide_false] at HH ⊢
    clear HH d1
    cases neg
    all_goals
      have H1 := Lib.hid h1
      have H2 := Lib.hid h2
      clear h1 h2
      go_enter Try.func90, Try.ntmps90
      go_wp2
      go_ret
      exact ⟨rfl, (Below.refl _ _).alloc (Nat.le_refl _) _⟩
end Go.Proofs.Ytmlldjcbijoheaa

/- Walks: small questions about kinds and sorts, by the reference. -/
namespace Go.Proofs.Ytmlldjcbijoheaa
open Go.RowKit

set_option maxHeartbeats 1000000 in
theorem hasRatio16_any (k : Int) (w : World) : Calls Try.prog 137 #[.int .i64 k] w fun e w' => e = .returned (.bool (hasRatioB k)) ∧ w = w' := by
  by_cases h1 : k = 11
  · subst h1
    go_enter Try.func137, Try.ntmps137
    go_wp2
    go_ret
    exact ⟨ret_bool (by decide), rfl⟩
  · by_cases h2 : k = 68
    · subst h2
      go_enter Try.func137, Try.ntmps137
      go_wp2
      go_ret
      exact ⟨ret_bool (by decide), rfl⟩
    · have e1 := eqb_false h1
      have e2 := eqb_false h2
      have hr : hasRatioB k = false := by unfold hasRatioB; exact decide_eq_false (by omega)
      rw [hr]
      clear hr h1 h2
      go_enter Try.func137, Try.ntmps137
      go_wp2
      go_ret
      exact ⟨rfl, rfl⟩
set_option maxHeartbeats 1000000 in
theorem stmtSort16_any (k : Int) (w : World) : Calls Try.prog 120 #[.int .i64 k] w fun e w' => e = .returned (.int .i64 (stmtSort k)) ∧ w = w' := by
  by_cases hk : 2 ≤ k ∧ k ≤ 5
  · have hc : k = 2 ∨ k = 3 ∨ k = 4 ∨ k = 5 := by omega
    clear hk
    rcases hc with rfl | rfl | rfl | rfl
    all_goals
      go_enter Try.func120, Try.ntmps120
      go_wp2
      go_ret
      exact ⟨ret_int (by decide), rfl⟩
  · have h2 := eqb_false (a := k) (b := 2) (by omega); have h3 := eqb_false (a := k) (b := 3) (by omega)
    have h4 := eqb_false (a := k) (b := 4) (by omega); have h5 := eqb_false (a := k) (b := 5) (by omega)
    have hr : stmtSort k = 0 := by unfold stmtSort; rw [if_neg (by omega), if_neg (by omega), if_neg (by omega), if_neg (by omega)]
    rw [hr]
    clear hr hk
    go_enter Try.func120, Try.ntmps120
    go_wp2
    go_ret
    exact ⟨rfl, rfl⟩
set_option maxHeartbeats 1000000 in
theorem sortOf19_any (k : Int) (w : World) : Calls Try.prog 78 #[.int .i64 k] w fun e w' => e = .returned (.int .i64 (sortOf k)) ∧ w = w' := by
  by_cases hk : 1 ≤ k ∧ k ≤ 4
  · have hc : k = 1 ∨ k = 2 ∨ k = 3 ∨ k = 4 := by omega
    clear hk
    rcases hc with rfl | rfl | rfl | rfl
    all_goals
      go_enter Try.func78, Try.ntmps78
      go_wp2
      go_ret
      exact ⟨ret_int (by decide), rfl⟩
  · have h2 := eqb_false (a := k) (b := 2) (by omega); have h3 := eqb_false (a := k) (b := 3) (by omega)
    have h4 := eqb_false (a := k) (b := 4) (by omega); have h1 := eqb_false (a := k) (b := 1) (by omega)
    have hr : sortOf k = 0 := by unfold sortOf; rw [if_neg (by omega), if_neg (by omega), if_neg (by omega)]
    rw [hr]
    clear hr hk
    go_enter Try.func78, Try.ntmps78
    go_wp2
    go_ret
    exact ⟨rfl, rfl⟩

set_option maxHeartbeats 1000000 in
theorem none16_any (r : Rt) (na : Option Addr) (nc : Nat) (da : Option Addr) (dc : Nat) (w : World) (hl : r.num.length ≤ 2000000) (hm : r.den.length ≤ 2000000) :
    Calls Try.prog 132 #[r.val na nc da dc] w fun e w' => e = .returned (.bool r.none) ∧ Below w.heap.size w w' := by
  obtain ⟨neg, num, den⟩ := r
  unfold Rt.val Rt.none
  dsimp only at hl hm ⊢
  by_cases h1 : num.length = 0 <;> by_cases h2 : den.length = 0
  all_goals
    have e1 : ((num.length : Int) == 0) = decide (num.length = 0) := by rw [Bool.eq_iff_iff]; simp
    have e2 : ((den.length : Int) == 0) = decide (den.length = 0) := by rw [Bool.eq_iff_iff]; simp
    have d1 : decide (num.length = 0) = decide (num.length = 0) := rfl
    simp only [h1, h2, decide_true, decide_false] at e1 e2
    have HH : (decide (num.length = 0), decide (den.length = 0)) = (decide (num.length = 0), decide (den.length = 0)) := rfl
    simp only [h1, h2, decide_true, decide_false] at HH ⊢
    clear HH d1
    cases neg
    all_goals
      have H1 := Lib.hid h1
      have H2 := Lib.hid h2
      clear h1 h2
      go_enter Try.func132, Try.ntmps132
      go_wp2
      go_ret
      exact ⟨rfl, (Below.refl _ _).alloc (Nat.le_refl _) _⟩
set_option maxRecDepth 100000 in
set_option maxHeartbeats 1000000 in
/-- 'of' at a sort other than 0 -/
theorem of16_one (e : Expr) (s : Int) (na : Option Addr) (nc : Nat) (da : Option Addr) (dc : Nat) (aa : Option Addr) (ac : Nat) (w : World) (h0 : s ≠ 0) :
    Calls Try.prog 136 #[e.val na nc da dc aa ac, .int .i64 s] w fun r w' => r = .returned (.bool (sortB e.kind s)) ∧ Below w.heap.size w w' := by
  have CF := fun W => find16_any e.kind W
  have CS := fun W => sort16_any e.kind W
  obtain ⟨b, hb⟩ : ∃ b, sortB e.kind s = b := ⟨_, rfl⟩
  rw [hb]
  unfold sortB at hb
  revert CF CS hb
  generalize findRow e.kind = R
  intro CF CS hb
  have HB := Lib.hid hb
  replace CF := Lib.hid CF; replace CS := Lib.hid CS
  have hs := eqb_false h0
  unfold Expr.val
  have hz := Blk.new w 40 #[.int .i64 e.kind, .string e.name, .bool e.neg, .slice na e.num.length nc, .slice da e.den.length dc, .slice aa e.args.length ac, .int .i64 e.pos]
  have hb0 : Below w.heap.size w (w.alloc (.cells #[.int .i64 e.kind, .string e.name, .bool e.neg, .slice na e.num.length nc, .slice da e.den.length dc, .slice aa e.args.length ac, .int .i64 e.pos] 40)) := by go_grown
  clear hb h0
  by_cases hk : e.kind = 1
  · have hk1 : (e.kind == 1) = true := by simpa using hk
    have HK := Lib.hid hk
    clear hk hz
    by_cases h4 : s = 4
    · have e4 : (s != 4) = false := by simpa using h4
      have hbv : b = false := by rw [← HB.out, if_pos HK.out]; simp [h4]
      subst hbv
      clear h4
      go_enter Try.func136, Try.ntmps136
      go_wp2
      go_ret
      exact ⟨rfl, hb0⟩
    · have e4 : (s != 4) = true := by simpa using h4
      have hbv : b = true := by rw [← HB.out, if_pos HK.out]; simp [h4]
      subst hbv
      clear h4
      go_enter Try.func136, Try.ntmps136
      go_wp2
      go_ret
      exact ⟨rfl, hb0⟩
  · have hk1 := eqb_false hk
    have HB2 := HB.out
    rw [if_neg hk] at HB2
    replace HB2 := Lib.hid HB2
    clear hk HB
    go_enter Try.func136, Try.ntmps136
    go_wp2_with fail
    revert hz hb0
    generalize w.alloc (.cells _ _) = w0
    intro hz hb0
    refine (CF.out _).mono ?_
    rintro r w1 ⟨a, c, rfl, hi, hb1⟩
    unfold KRow.val
    have hfd := fun w => row_f0 R.kind R.sort R.word (.slice a R.params.length c) w
    have hw1 := below_then hb0 hb1
    have hz1 := hz.below' hb1
    have z0 := hz1.cell 0
    clear hi hb1 hb0 hz
    by_cases hr0 : R.kind = 0
    · have er : (R.kind != 0) = false := by simpa using hr0
      have hbv : b = false := by rw [← HB2.out]; simp [hr0]
      subst hbv
      clear hr0
      go_wp2
      go_ret
      exact ⟨rfl, hw1⟩
    · have er : (R.kind != 0) = true := by simpa using hr0
      have hbv : b = decide (R.sort = s) := by rw [← HB2.out]; simp [hr0]
      have HBV := Lib.hid hbv
      clear hr0 hbv
      go_wp2_with fail
      refine (CS.out _).mono ?_
      rintro r w2 ⟨rfl, hb2⟩
      have hw2 := below_then hw1 hb2
      go_wp2
      go_ret
      exact ⟨ret_bool (by rw [HBV.out]; rw [Bool.eq_iff_iff]; simp), hw2⟩
set_option maxRecDepth 100000 in
set_option maxHeartbeats 1000000 in
theorem of16_any (e : Expr) (s : Int) (na : Option Addr) (nc : Nat) (da : Option Addr) (dc : Nat) (aa : Option Addr) (ac : Nat) (w : World) :
    Calls Try.prog 136 #[e.val na nc da dc aa ac, .int .i64 s] w fun r w' => r = .returned (.bool (ofB e.kind s)) ∧ Below w.heap.size w w' := by
  unfold ofB
  by_cases h0 : s = 0
  · subst h0
    rw [if_pos rfl]
    have C2 := fun W => of16_one e 2 na nc da dc aa ac W (by omega)
    have C3 := fun W => of16_one e 3 na nc da dc aa ac W (by omega)
    revert C2 C3
    generalize sortB e.kind 2 = b2
    generalize sortB e.kind 3 = b3
    intro C2 C3
    unfold Expr.val at C2 C3 ⊢
    replace C2 := Lib.hid C2; replace C3 := Lib.hid C3
    have hz := Blk.new w 40 #[.int .i64 e.kind, .string e.name, .bool e.neg, .slice na e.num.length nc, .slice da e.den.length dc, .slice aa e.args.length ac, .int .i64 e.pos]
    have hb0 : Below w.heap.size w (w.alloc (.cells #[.int .i64 e.kind, .string e.name, .bool e.neg, .slice na e.num.length nc, .slice da e.den.length dc, .slice aa e.args.length ac, .int .i64 e.pos] 40)) := by go_grown
    cases b2
    · go_enter Try.func136, Try.ntmps136
      go_wp2_with fail
      revert hz hb0
      generalize w.alloc (.cells _ _) = w0
      intro hz hb0
      refine (C2.out _).mono ?_
      rintro r w1 ⟨rfl, hb1⟩
      have hw1 := below_then hb0 hb1
      have hz1 := hz.below' hb1
      have z0 := hz1.cell 0; have z1 := hz1.cell 1; have z2 := hz1.cell 2; have z3 := hz1.cell 3; have z4 := hz1.cell 4; have z5 := hz1.cell 5; have z6 := hz1.cell 6
      clear hb1 hb0 hz
      go_wp2_with fail
      refine (C3.out _).mono ?_
      rintro r w2 ⟨rfl, hb2⟩
      have hw2 := below_then hw1 hb2
      go_wp2
      go_ret
      exact ⟨ret_bool (by simp), hw2⟩
    · go_enter Try.func136, Try.ntmps136
      go_wp2_with fail
      refine (C2.out _).mono ?_
      rintro r w1 ⟨rfl, hb1⟩
      have hw1 := below_then hb0 hb1
      go_wp2
      go_ret
      exact ⟨rfl, hw1⟩
  · rw [if_neg h0]
    exact of16_one e s na nc da dc aa ac w h0
end Go.Proofs.Ytmlldjcbijoheaa

/- Walks: the measures of expressions. -/
namespace Go.Proofs.Ytmlldjcbijoheaa
open Go.RowKit

set_option maxHeartbeats 400000 in
theorem depth_any (d : Nat) : ∀ (e : Expr) (na : Option Addr) (nc : Nat) (da : Option Addr) (dc : Nat) (aa : Option Addr) (ac : Nat) (w : World), ExprR d w na nc da dc aa ac e → e.count ≤ 1048576 →
    Calls Try.prog 19 #[e.val na nc da dc aa ac] w fun r w' => r = .returned (.int .i64 (e.depth : Nat)) ∧ Below w.heap.size w w' := by
  induction d with
  | zero => intro e na nc da dc aa ac w h; exact h.elim
  | succ d ih =>
    intro e na nc da dc aa ac w h hc
    obtain ⟨-, -, -, -, -, hx⟩ := h.of_succ
    have IH := Lib.hid ih
    clear ih
    have HX := Lib.hid hx
    have hl := hx.len
    clear hx
    unfold Expr.val
    go_enter Try.func19, Try.ntmps19
    go_wp2
    go_loopw [3, 9] (fun m i wr => ∃ k : Nat, k ≤ e.args.length ∧ i = .int .i64 k ∧ m = .int .i64 (Expr.depths (e.args.take k) : Nat) ∧ Below w.heap.size w wr) (fun _ i _ => e.args.length - (intOf i).toNat)
    case atStart => exact ⟨0, by omega, rfl, by simp [Expr.depths], by go_grown⟩
    case round =>
      obtain ⟨k, hk, rfl, rfl, hb⟩ := hrel
      by_cases hlt : k < e.args.length
      · obtain ⟨x, hx⟩ := get_of_lt hlt
        obtain ⟨b, off, rfl, hE⟩ := HX.out.2.2 k x hx
        obtain ⟨na', nc', da', dc', aa', ac', ⟨c0, c1, c2, c3, c4, c5, c6⟩, hr⟩ := hE.ext (Ext.below hb)
        have hcx := count_arg (List.mem_of_getElem? hx)
        have HXX := Lib.hid hx
        clear hx
        go_wp2_with fail
        refine (IH.out x na' nc' da' dc' aa' ac' _ (hr.ext (ext_alloc _ _)) (by omega)).mono ?_
        rintro r w' ⟨rfl, hb'⟩
        go_wp2_with fail
        refine ⟨⟨k + 1, by omega, by go_num, val_int ?_, below_then1 hb hb'⟩, by simp [intOf]; omega⟩
        rw [take_more HXX.out, depths_append]
        simp only [Expr.depths]
        split <;> omega
      · have hT : Expr.depths (e.args.take k) + 1 ≤ 1048576 := by
          have := depth_le_count e
          rw [take_all hlt, ← Expr.depth_eq]; omega
        go_wp2_with fail
        go_ret
        refine ⟨ret_int ?_, hb⟩
        rw [Expr.depth_eq, take_all hlt]
        omega
set_option maxHeartbeats 400000 in
theorem depthR_any (d : Nat) : ∀ (e : Expr) (na : Option Addr) (nc : Nat) (da : Option Addr) (dc : Nat) (aa : Option Addr) (ac : Nat) (w : World), ExprR d w na nc da dc aa ac e → e.count ≤ 1048576 →
    Calls Try.prog 20 #[e.val na nc da dc aa ac] w fun r w' => r = .returned (.int .i64 (e.depth : Nat)) ∧ Below w.heap.size w w' := by
  induction d with
  | zero => intro e na nc da dc aa ac w h; exact h.elim
  | succ d ih =>
    intro e na nc da dc aa ac w h hc
    obtain ⟨-, -, -, -, -, hx⟩ := h.of_succ
    have IH := Lib.hid ih
    clear ih
    have HX := Lib.hid hx
    have hl := hx.len
    clear hx
    unfold Expr.val
    go_enter Try.func20, Try.ntmps20
    go_wp2
    go_loopw [3, 9] (fun m i wr => ∃ k : Nat, k ≤ e.args.length ∧ i = .int .i64 k ∧ m = .int .i64 (Expr.depths (e.args.take k) : Nat) ∧ Below w.heap.size w wr) (fun _ i _ => e.args.length - (intOf i).toNat)
    case atStart => exact ⟨0, by omega, rfl, by simp [Expr.depths], by go_grown⟩
    case round =>
      obtain ⟨k, hk, rfl, rfl, hb⟩ := hrel
      by_cases hlt : k < e.args.length
      · obtain ⟨x, hx⟩ := get_of_lt hlt
        obtain ⟨b, off, rfl, hE⟩ := HX.out.2.2 k x hx
        obtain ⟨na', nc', da', dc', aa', ac', ⟨c0, c1, c2, c3, c4, c5, c6⟩, hr⟩ := hE.ext (Ext.below hb)
        have hcx := count_arg (List.mem_of_getElem? hx)
        have HXX := Lib.hid hx
        clear hx
        go_wp2_with fail
        refine (IH.out x na' nc' da' dc' aa' ac' _ (hr.ext (ext_alloc _ _)) (by omega)).mono ?_
        rintro r w' ⟨rfl, hb'⟩
        go_wp2_with fail
        refine ⟨⟨k + 1, by omega, by go_num, val_int ?_, below_then1 hb hb'⟩, by simp [intOf]; omega⟩
        rw [take_more HXX.out, depths_append]
        simp only [Expr.depths]
        split <;> omega
      · have hT : Expr.depths (e.args.take k) + 1 ≤ 1048576 := by
          have := depth_le_count e
          rw [take_all hlt, ← Expr.depth_eq]; omega
        go_wp2_with fail
        go_ret
        refine ⟨ret_int ?_, hb⟩
        rw [Expr.depth_eq, take_all hlt]
        omega
set_option maxHeartbeats 400000 in
theorem count_any (d : Nat) : ∀ (e : Expr) (na : Option Addr) (nc : Nat) (da : Option Addr) (dc : Nat) (aa : Option Addr) (ac : Nat) (w : World), ExprR d w na nc da dc aa ac e → e.count ≤ 1048576 →
    Calls Try.prog 55 #[e.val na nc da dc aa ac] w fun r w' => r = .returned (.int .i64 (e.count : Nat)) ∧ Below w.heap.size w w' := by
  induction d with
  | zero => intro e na nc da dc aa ac w h; exact h.elim
  | succ d ih =>
    intro e na nc da dc aa ac w h hc
    obtain ⟨-, -, -, -, -, hx⟩ := h.of_succ
    have IH := Lib.hid ih
    clear ih
    have HX := Lib.hid hx
    have hl := hx.len
    clear hx
    unfold Expr.val
    go_enter Try.func55, Try.ntmps55
    go_wp2
    go_loopw [3, 9] (fun m i wr => ∃ k : Nat, k ≤ e.args.length ∧ i = .int .i64 k ∧ m = .int .i64 (1 + Expr.counts (e.args.take k) : Nat) ∧ Below w.heap.size w wr) (fun _ i _ => e.args.length - (intOf i).toNat)
    case atStart => exact ⟨0, by omega, rfl, by simp [Expr.counts], by go_grown⟩
    case round =>
      obtain ⟨k, hk, rfl, rfl, hb⟩ := hrel
      by_cases hlt : k < e.args.length
      · obtain ⟨x, hx⟩ := get_of_lt hlt
        obtain ⟨b, off, rfl, hE⟩ := HX.out.2.2 k x hx
        obtain ⟨na', nc', da', dc', aa', ac', ⟨c0, c1, c2, c3, c4, c5, c6⟩, hr⟩ := hE.ext (Ext.below hb)
        have hcx := count_arg (List.mem_of_getElem? hx)
        have hcs : 1 + Expr.counts (e.args.take k) + x.count ≤ 1048576 := by
          have h2 := counts_append (e.args.take k) [x]
          have h3 := counts_append (e.args.take (k + 1)) (e.args.drop (k + 1))
          rw [List.take_append_drop, take_more hx, h2] at h3
          have h4 := Expr.count_eq e
          simp only [Expr.counts] at h3
          omega
        have HXX := Lib.hid hx
        clear hx
        go_wp2_with fail
        refine (IH.out x na' nc' da' dc' aa' ac' _ (hr.ext (ext_alloc _ _)) (by omega)).mono ?_
        rintro r w' ⟨rfl, hb'⟩
        go_wp2_with fail
        refine ⟨⟨k + 1, by omega, by go_num, val_int ?_, below_then1 hb hb'⟩, by simp [intOf]; omega⟩
        rw [take_more HXX.out, counts_append]
        simp only [Expr.counts]
        omega
      · go_wp2_with fail
        go_ret
        refine ⟨ret_int ?_, hb⟩
        rw [Expr.count_eq, take_all hlt]
end Go.Proofs.Ytmlldjcbijoheaa

/- Walks: whether a string is a name, by the reference and by the program. -/
namespace Go.Proofs.Ytmlldjcbijoheaa
open Go.RowKit

set_option maxHeartbeats 1000000 in
theorem letter15_any (c : Int) (w : World) (h0 : 0 ≤ c) (h1 : c ≤ 255) :
    Calls Try.prog 104 #[.int .u8 c] w fun e w' => e = .returned (.bool (letB c)) ∧ w = w' := by
  obtain ⟨b, hb⟩ : ∃ b, letB c = b := ⟨_, rfl⟩
  have hb2 := hb
  unfold letB at hb2
  rw [hb]
  have HB := Lib.hid hb2
  clear hb hb2
  by_cases h2 : 65 ≤ c <;> by_cases h3 : c ≤ 90 <;> by_cases h4 : 97 ≤ c <;> by_cases h5 : c ≤ 122 <;> first | (exfalso; omega) | skip
  all_goals
    go_enter Try.func104, Try.ntmps104
    go_wp2
    go_ret
    refine ⟨ret_bool ?_, rfl⟩
    rw [← HB.out]
    first | (symm; apply decide_eq_true; omega) | (symm; apply decide_eq_false; omega)
set_option maxHeartbeats 1000000 in
theorem digit15_any (c : Int) (w : World) (h0 : 0 ≤ c) (h1 : c ≤ 255) :
    Calls Try.prog 105 #[.int .u8 c] w fun e w' => e = .returned (.bool (digB c)) ∧ w = w' := by
  obtain ⟨b, hb⟩ : ∃ b, digB c = b := ⟨_, rfl⟩
  have hb2 := hb
  unfold digB at hb2
  rw [hb]
  have HB := Lib.hid hb2
  clear hb hb2
  by_cases h2 : 48 ≤ c <;> by_cases h3 : c ≤ 57 <;> first | (exfalso; omega) | skip
  all_goals
    go_enter Try.func105, Try.ntmps105
    go_wp2
    go_ret
    refine ⟨ret_bool ?_, rfl⟩
    rw [← HB.out]
    first | (symm; apply decide_eq_true; omega) | (symm; apply decide_eq_false; omega)

theorem keywords15_any (w : World) : Calls Try.prog 106 #[] w fun e w' => e = .returned (.slice (some ⟨w.heap.size, 0, none⟩) 29 29) ∧ w.alloc (.cells (keywords.map Value.string).toArray 9) = w' := by
  go_enter Try.func106, Try.ntmps106
  go_wp2
  go_ret
  exact ⟨rfl, rfl⟩
theorem keywords_any (w : World) : Calls Try.prog 103 #[] w fun e w' => e = .returned (.slice (some ⟨w.heap.size, 0, none⟩) 29 29) ∧ w.alloc (.cells (keywords.map Value.string).toArray 9) = w' := by
  go_enter Try.func103, Try.ntmps103
  go_wp2
  go_ret
  exact ⟨rfl, rfl⟩
end Go.Proofs.Ytmlldjcbijoheaa
