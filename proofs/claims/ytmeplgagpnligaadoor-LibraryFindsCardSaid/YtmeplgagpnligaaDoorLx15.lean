/- The row of LibraryFinds and its card: for every input the call returns true, and each argument reads behind the call as it read before. The row lists tables of Go's library; the call answers true whatever they hold. Condition: none. -/
import Derived.Test.YtmeplgagpnligaaDoorLx14
import Derived.Test.YtmeplgagpnligaaDoorLx1
import Derived.JoinedCond
import Derived.Test.YtmeplgagpnligaaDoorCards
import Derived.Test.YtmeplgagpnligaaDoorTie
import Derived.ChangeMaps5
import Derived.WalkKit
import Derived.ProofKit
import Derived.OpenShut
import Derived.Deep.DeepHandedRow
import Derived.Lib.LaidTab
import Derived.Lay

/- Walks: the law's check of its examples; LibraryEntries and LibraryFinds. -/
namespace Go.Proofs.YtmeplgagpnligaaDoor
open Go.RowKit

def exMid : List UInt8 := [109, 105, 100, 108, 105, 110, 101, 45, 55]
def exSrc : List UInt8 := [112, 111, 105, 110, 116, 115, 32, 65, 44, 32, 66, 44, 32, 67, 59, 10, 77, 32, 58, 61, 32, 109, 105, 100, 112, 111, 105, 110, 116, 40, 67, 44, 32, 66, 41, 59, 10, 78, 32, 58, 61, 32, 109, 105, 100, 112, 111, 105, 110, 116, 40, 65, 44, 32, 66, 41, 59, 10, 112, 114, 111, 118, 101, 32, 112, 97, 114, 97, 108, 108, 101, 108, 40, 108, 105, 110, 101, 40, 77, 44, 32, 78, 41, 44, 32, 108, 105, 110, 101, 40, 65, 44, 32, 67, 41, 41, 59, 10, 112, 114, 111, 118, 101, 32, 99, 111, 110, 103, 114, 117, 101, 110, 116, 40, 77, 44, 32, 78, 44, 32, 65, 44, 32, 67, 41, 59, 10]
def exTha : List UInt8 := [116, 104, 97, 108, 101, 115]
theorem ref_mid : (refs[0]?.map fun r => (r.name == [109, 105, 100, 108, 105, 110, 101]) && (srcR r 7 == exSrc)) = some true := by decide +kernel
theorem ref_tha : (refs[10]?.map fun r => r.name == exTha) = some true := by decide +kernel
theorem fam_mid : ∃ f, fams[0]? = some f ∧ nmP f 7 = exMid ∧ srcP f 7 = exSrc := by
  obtain ⟨f, hf⟩ := get_of_lt (xs := fams) (k := 0) (by rw [fams_len]; omega)
  obtain ⟨r, hr, hs⟩ := sameAll_at fams refs 0 f same_all hf
  obtain ⟨e1, e2, _⟩ := sameF_eq hs 7
  have h := ref_mid
  rw [hr] at h
  simp only [Option.map_some, Option.some.injEq, Bool.and_eq_true, beq_iff_eq] at h
  refine ⟨f, hf, ?_, e1.trans h.2⟩
  rw [e2]
  unfold nmR
  rw [h.1, textN_small (by omega)]
  rfl
theorem fam_tha : ∃ f, fams[10]? = some f ∧ f.name = exTha ∧ nmAt 131 = exTha ++ [45, 49, 49] := by
  obtain ⟨f, hf⟩ := get_of_lt (xs := fams) (k := 10) (by rw [fams_len]; omega)
  obtain ⟨r, hr, hs⟩ := sameAll_at fams refs 10 f same_all hf
  have hn : f.name = r.name := by simp only [sameF, Bool.and_eq_true, beq_iff_eq] at hs; exact hs.1
  have h := ref_tha
  rw [hr] at h
  simp only [Option.map_some, Option.some.injEq, beq_iff_eq] at h
  refine ⟨f, hf, hn.trans h, ?_⟩
  rw [show (131 : Nat) = 12 * 10 + 11 by omega, nmAt_eq (by omega) hf]
  unfold nmP
  rw [hn, h, textN_two (by omega) (by omega)]
  rfl
set_option maxRecDepth 100000 in
set_option maxHeartbeats 4000000 in
theorem awake49_any (w : World) (hM : MaxL w) : Calls Tryd.prog 10 #[] w fun e w' => e = .returned (.bool true) ∧ Below w.heap.size w w' := by
  obtain ⟨f0, hf0, hn0, hs0⟩ := fam_mid
  obtain ⟨f1, hf1, hn1, hat⟩ := fam_tha
  have C1 := fun W (hW : Below w.heap.size w W) => entryP_any 0 7 (by omega) (by omega) 7 (by omega) f0 hf0 W (hM.ext (Ext.below hW))
  rw [hn0, hs0] at C1
  have C2 := fun W (hW : Below w.heap.size w W) => familyP_any 10 11 (by omega) (by omega) 131 (by omega) f1 hf1 W (hM.ext (Ext.below hW))
  rw [hn1] at C2
  have C3 := fun W (hW : Below w.heap.size w W) => countP_any W (hM.ext (Ext.below hW))
  have C4 := fun W (hW : Below w.heap.size w W) => findP_any (ofL (exTha ++ [45, 49, 49])) W (hM.ext (Ext.below hW))
  have e4 := findF_at 288 0 131 (by omega) (by omega) (by omega)
  rw [hat] at e4
  rw [e4] at C4
  have b1 : ((ofL exMid).toList == [109, 105, 100, 108, 105, 110, 101, 45, 55]) = true := by rw [toList_data, data_ofL]; rfl
  have b2 : ((ofL exSrc).toList == [112, 111, 105, 110, 116, 115, 32, 65, 44, 32, 66, 44, 32, 67, 59, 10, 77, 32, 58, 61, 32, 109, 105, 100, 112, 111, 105, 110, 116, 40, 67, 44, 32, 66, 41, 59, 10, 78, 32, 58, 61, 32, 109, 105, 100, 112, 111, 105, 110, 116, 40, 65, 44, 32, 66, 41, 59, 10, 112, 114, 111, 118, 101, 32, 112, 97, 114, 97, 108, 108, 101, 108, 40, 108, 105, 110, 101, 40, 77, 44, 32, 78, 41, 44, 32, 108, 105, 110, 101, 40, 65, 44, 32, 67, 41, 41, 59, 10, 112, 114, 111, 118, 101, 32, 99, 111, 110, 103, 114, 117, 101, 110, 116, 40, 77, 44, 32, 78, 44, 32, 65, 44, 32, 67, 41, 59, 10]) = true := by rw [toList_data, data_ofL]; rfl
  have b3 : ((ofL exTha).toList == [116, 104, 97, 108, 101, 115]) = true := by rw [toList_data, data_ofL]; rfl
  replace C1 := Lib.hid C1; replace C2 := Lib.hid C2; replace C3 := Lib.hid C3; replace C4 := Lib.hid C4
  clear hf0 hn0 hs0 hf1 hn1 hat e4 hM
  go_enter Tryd.func10, Tryd.ntmps10
  go_wp2_with fail
  refine (C1.out w (Below.refl _ _)).mono ?_
  rintro e w1 ⟨a1, c1, rfl, _, hb1⟩
  go_wp2_with fail
  have hz : Blk (w1.alloc (.cells #[.string (ofL exMid), .string (ofL exSrc), .slice a1 (osP f0 7).length c1] 24)) w1.heap.size 24 #[.string (ofL exMid), .string (ofL exSrc), .slice a1 (osP f0 7).length c1] := Blk.new _ _ _
  have hw1 : Below w.heap.size w (w1.alloc (.cells #[.string (ofL exMid), .string (ofL exSrc), .slice a1 (osP f0 7).length c1] 24)) := hb1.alloc hb1.size _
  revert hz hw1
  generalize w1.alloc (.cells #[.string (ofL exMid), .string (ofL exSrc), .slice a1 (osP f0 7).length c1] 24) = w2
  generalize w1.heap.size = n1
  intro hz hw1
  clear hb1
  refine (C2.out w2 hw1).mono ?_
  rintro e w3 ⟨rfl, hb3⟩
  have hw3 := below_then hw1 hb3
  have hz3 := hz.below' hb3
  clear hz hb3
  go_wp2_with fail
  refine (C3.out w3 hw3).mono ?_
  rintro e w4 ⟨rfl, hb4⟩
  have hw4 := below_then hw3 hb4
  have hz4 := hz3.below' hb4
  have z0 := hz4.cell 0; have z1 := hz4.cell 1
  clear hz3 hb4
  go_wp2_with fail
  refine (C4.out w4 hw4).mono ?_
  rintro e w5 ⟨rfl, hb5⟩
  have hw5 := below_then hw4 hb5
  go_wp2
  go_ret
  exact ⟨rfl, hw5⟩
set_option maxRecDepth 100000 in
set_option maxHeartbeats 4000000 in
theorem entries_core (i : Int) (nm src fnm : List UInt8) (os : List Int) (x fv fx : Int) (w : World) (hM : MaxL w)
    (C1 : ∀ W, Below w.heap.size w W → Calls Tryd.prog 5 #[.int .i64 i] W (RetEnt nm src os x W))
    (C2 : ∀ W, Below w.heap.size w W → Calls Tryd.prog 6 #[.int .i64 i] W (RetEnt nm src os x W))
    (C3 : ∀ W, Below w.heap.size w W → Calls Tryd.prog 7 #[.int .i64 i] W (RetFm fnm fv fx W))
    (C4 : ∀ W, Below w.heap.size w W → Calls Tryd.prog 8 #[.int .i64 i] W (RetFm fnm fv fx W)) :
    Calls Tryd.prog 3 #[.int .i64 i] w fun e w' => e = .returned (.bool true) ∧ Below w.heap.size w w' := by
  have C5 := Lib.hid (fun W (hW : Below w.heap.size w W) => awake49_any W (hM.ext (Ext.below hW)))
  replace C1 := Lib.hid C1; replace C2 := Lib.hid C2; replace C3 := Lib.hid C3; replace C4 := Lib.hid C4
  clear hM
  go_enter Tryd.func3, Tryd.ntmps3
  go_wp2_with fail
  refine (C1.out w (Below.refl _ _)).mono ?_
  rintro e w1 ⟨a1, c1, rfl, hV1, hb1⟩
  have R1 := Lib.hid (hV1 w1 (New.refl _ _))
  clear hV1 C1
  go_wp2_with fail
  have hz : Blk (w1.alloc (.cells #[.string (ofL nm), .string (ofL src), .slice a1 os.length c1] 24)) w1.heap.size 24 #[.string (ofL nm), .string (ofL src), .slice a1 os.length c1] := Blk.new _ _ _
  have hw1 : Below w.heap.size w (w1.alloc (.cells #[.string (ofL nm), .string (ofL src), .slice a1 os.length c1] 24)) := hb1.alloc hb1.size _
  have R1' := Lib.hid (R1.out.ext ((Ext.refl w1).alloc (.cells #[.string (ofL nm), .string (ofL src), .slice a1 os.length c1] 24)))
  revert hz hw1 R1'
  generalize w1.alloc (.cells #[.string (ofL nm), .string (ofL src), .slice a1 os.length c1] 24) = w2
  generalize w1.heap.size = n1
  intro hz hw2 R1
  clear hb1
  refine (C2.out w2 hw2).mono ?_
  rintro e w3 ⟨a3, c3, rfl, hV3, hb3⟩
  have R3 := Lib.hid (hV3 w3 (New.refl _ _))
  have hz3 := hz.below' hb3
  have hw3 := below_then hw2 hb3
  have R13 := Lib.hid (R1.out.ext (Ext.below hb3))
  clear hV3 C2 hz hw2 R1 hb3
  go_wp2_with fail
  have hy : Blk (w3.alloc (.cells #[.string (ofL nm), .string (ofL src), .slice a3 os.length c3] 24)) w3.heap.size 24 #[.string (ofL nm), .string (ofL src), .slice a3 os.length c3] := Blk.new _ _ _
  have hz4 := hz3.alloc (.cells #[.string (ofL nm), .string (ofL src), .slice a3 os.length c3] 24)
  have hw4 : Below w.heap.size w (w3.alloc (.cells #[.string (ofL nm), .string (ofL src), .slice a3 os.length c3] 24)) := hw3.alloc hw3.size _
  have R1' := Lib.hid (R13.out.ext ((Ext.refl w3).alloc (.cells #[.string (ofL nm), .string (ofL src), .slice a3 os.length c3] 24)))
  have R3' := Lib.hid (R3.out.ext ((Ext.refl w3).alloc (.cells #[.string (ofL nm), .string (ofL src), .slice a3 os.length c3] 24)))
  revert hy hz4 hw4 R1' R3'
  generalize w3.alloc (.cells #[.string (ofL nm), .string (ofL src), .slice a3 os.length c3] 24) = w4
  generalize w3.heap.size = n3
  intro hy hz hw4 R1 R3
  clear hz3 hw3 R13
  refine (C3.out w4 hw4).mono ?_
  rintro e w5 ⟨rfl, hb5⟩
  have hw5 := below_then hw4 hb5
  have hy5 := hy.below' hb5
  have hz5 := hz.below' hb5
  have R15 := Lib.hid (R1.out.ext (Ext.below hb5))
  have R35 := Lib.hid (R3.out.ext (Ext.below hb5))
  clear hy hz hw4 R1 R3 hb5 C3
  go_wp2_with fail
  refine (C4.out w5 hw5).mono ?_
  rintro e w6 ⟨rfl, hb6⟩
  have hw6 := below_then hw5 hb6
  have hy6 := hy5.below' hb6
  have hz6 := hz5.below' hb6
  have CS := Lib.hid (same49_any nm src os a1 a3 c1 c3 w6 (R15.out.ext (Ext.below hb6)) (R35.out.ext (Ext.below hb6)))
  have y0 := hy6.cell 0; have y1 := hy6.cell 1; have y2 := hy6.cell 2; have z0 := hz6.cell 0; have z1 := hz6.cell 1; have z2 := hz6.cell 2
  clear hy5 hz5 hw5 R15 R35 hb6 C4
  go_wp2_with fail
  refine CS.out.mono ?_
  rintro e w7 ⟨rfl, hb7⟩
  have hw7 := below_then hw6 hb7
  go_wp2_with fail
  refine (C5.out w7 hw7).mono ?_
  rintro e w8 ⟨rfl, hb8⟩
  go_wp2
  go_ret
  exact ⟨rfl, below_then hw7 hb8⟩
theorem libraryEntries_law (i : Int) (hi : InInt i) (w : World) (hM : MaxL w) :
    Calls Tryd.prog 3 #[.int .i64 i] w fun e w' => e = .returned (.bool true) ∧ Below w.heap.size w w' := by
  by_cases h : i < 0 ∨ 288 ≤ i
  · exact entries_core i [] [] [] [] 2 0 2 w hM (fun W hW => entryP_out i hi h W (hM.ext (Ext.below hW))) (fun W _ => entryR_out i hi h W) (fun W hW => familyP_out i hi h W (hM.ext (Ext.below hW))) (fun W _ => familyR_out i hi h W)
  · obtain ⟨n, rfl⟩ : ∃ n : Nat, i = n := ⟨i.toNat, by omega⟩
    obtain ⟨f, hf⟩ := get_of_lt (xs := fams) (k := n / 12) (by rw [fams_len]; omega)
    obtain ⟨r, hr, hs⟩ := sameAll_at fams refs (n / 12) f same_all hf
    obtain ⟨e1, e2, e3⟩ := sameF_eq hs (n % 12)
    have hn : f.name = r.name := by simp only [sameF, Bool.and_eq_true, beq_iff_eq] at hs; exact hs.1
    refine entries_core n (nmP f (n % 12)) (srcP f (n % 12)) f.name (osP f (n % 12)) 0 (n % 12 : Nat) 0 w hM (fun W hW => entryP_any (n / 12) (n % 12) (by omega) (by omega) n (by omega) f hf W (hM.ext (Ext.below hW))) (fun W _ => ?_)
      (fun W hW => familyP_any (n / 12) (n % 12) (by omega) (by omega) n (by omega) f hf W (hM.ext (Ext.below hW))) (fun W _ => ?_)
    · rw [e1, e2, e3]
      exact entryR_any (n / 12) (n % 12) (by omega) (by omega) n (by omega) r hr W
    · rw [hn]
      exact familyR_any (n / 12) (n % 12) (by omega) (by omega) n (by omega) r hr W
set_option maxRecDepth 100000 in
set_option maxHeartbeats 4000000 in
theorem libraryFinds_law (s : ByteArray) (i : Nat) (hi : i < 65536) (hs : s.size ≤ 9223372036854775807) (w : World) (hM : MaxL w) :
    Calls Tryd.prog 4 #[.string s, .int .u16 i] w fun e w' => e = .returned (.bool true) ∧ Below w.heap.size w w' := by
  have C5 := Lib.hid (fun W (hW : Below w.heap.size w W) => awake49_any W (hM.ext (Ext.below hW)))
  by_cases h40 : s.size ≤ 40
  · obtain ⟨n, hn⟩ : ∃ n, i % 288 = n := ⟨_, rfl⟩
    have hnl : n < 288 := by omega
    obtain ⟨f, hf⟩ := get_of_lt (xs := fams) (k := n / 12) (by rw [fams_len]; omega)
    have CI := fun W => index_any i hi W
    rw [hn] at CI
    have hat := nmAt_eq (k := n / 12) (v := n % 12) (by omega) hf
    rw [show 12 * (n / 12) + n % 12 = n by omega] at hat
    have C1 := fun W (hW : Below w.heap.size w W) => entryP_any (n / 12) (n % 12) (by omega) (by omega) n (by omega) f hf W (hM.ext (Ext.below hW))
    have C2 := fun W (hW : Below w.heap.size w W) => findP_any s W (hM.ext (Ext.below hW))
    have C3 := fun W => findR_any s W
    have C4 := fun W (hW : Below w.heap.size w W) => findP_any (ofL (nmAt n)) W (hM.ext (Ext.below hW))
    rw [findF_at 288 0 n (by omega) (by omega) (by omega)] at C4
    rw [hat] at C4
    obtain ⟨nm, hnm⟩ : ∃ x, nmP f (n % 12) = x := ⟨_, rfl⟩
    obtain ⟨sr, hsr⟩ : ∃ x, srcP f (n % 12) = x := ⟨_, rfl⟩
    obtain ⟨os, hos⟩ : ∃ x, osP f (n % 12) = x := ⟨_, rfl⟩
    obtain ⟨q, hq⟩ : ∃ x, findF s 0 288 = x := ⟨_, rfl⟩
    simp only [hnm, hsr, hos] at C1 C4
    rw [hq] at C2 C3
    replace C1 := Lib.hid C1; replace C2 := Lib.hid C2; replace C3 := Lib.hid C3; replace C4 := Lib.hid C4; replace CI := Lib.hid CI
    clear hn hf hat hnm hsr hos hq hM hi
    go_enter Tryd.func4, Tryd.ntmps4
    go_wp2_with fail
    refine (CI.out _).mono ?_
    rintro e w1 ⟨rfl, rfl⟩
    go_wp2_with fail
    refine (C1.out w (Below.refl _ _)).mono ?_
    rintro e w1 ⟨a1, c1, rfl, _, hb1⟩
    go_wp2_with fail
    have hz : Blk (w1.alloc (.cells #[.string (ofL nm), .string (ofL sr), .slice a1 os.length c1] 24)) w1.heap.size 24 #[.string (ofL nm), .string (ofL sr), .slice a1 os.length c1] := Blk.new _ _ _
    have hw1 : Below w.heap.size w (w1.alloc (.cells #[.string (ofL nm), .string (ofL sr), .slice a1 os.length c1] 24)) := hb1.alloc hb1.size _
    revert hz hw1
    generalize w1.alloc (.cells #[.string (ofL nm), .string (ofL sr), .slice a1 os.length c1] 24) = w2
    generalize w1.heap.size = n1
    intro hz hw2
    clear hb1
    refine (C2.out w2 hw2).mono ?_
    rintro e w3 ⟨rfl, hb3⟩
    have hw3 := below_then hw2 hb3
    have hz3 := hz.below' hb3
    clear hz hb3 hw2
    go_wp2_with fail
    refine (C3.out w3).mono ?_
    rintro e w4 ⟨rfl, hb4⟩
    have hw4 := below_then hw3 hb4
    have hz4 := hz3.below' hb4
    have z0 := hz4.cell 0
    clear hz3 hb4 hw3
    go_wp2_with fail
    refine (C4.out w4 hw4).mono ?_
    rintro e w5 ⟨rfl, hb5⟩
    have hw5 := below_then hw4 hb5
    clear hb5 z0
    go_wp2_with fail
    refine (CI.out _).mono ?_
    rintro e w6 ⟨rfl, rfl⟩
    go_wp2_with fail
    refine (C5.out w5 hw5).mono ?_
    rintro e w6 ⟨rfl, hb6⟩
    go_wp2
    go_ret
    exact ⟨rfl, below_then hw5 hb6⟩
  · have h41 : (40 : Int) < (s.size : Int) := by omega
    clear hM h40
    go_enter Tryd.func4, Tryd.ntmps4
    go_wp2_with fail
    refine (C5.out w (Below.refl _ _)).mono ?_
    rintro e w1 ⟨rfl, hb1⟩
    go_wp2
    go_ret
    exact ⟨rfl, hb1⟩
end Go.Proofs.YtmeplgagpnligaaDoor

/- How a law's row is closed: the call answers true and turns nothing that was there before, so each argument reads as it did. No function of the program in sight. -/
namespace Go.Proofs.YtmeplgagpnligaaDoor
open Go.ChangeShapes Go.WideShapes Go.ChangeAt Go.RowKit

theorem trodAll_below {H : Type} {enc : TypeId × Value → H} {P : Program} (hl : laidOutB P = true) {W W' : World} (hB : Below W.heap.size W W') :
    ∀ (ts : List TypeId) (vs : List Value) (ds : List (DataW H)) (p : List MemPlace), (ts.all fun t => P.readableRec t && decide (t < P.types.size)) = true →
      (∀ x ∈ p, x.block < W.heap.size) → DataW.TrodAll enc P W 0 (fun _ => true) true ts vs ds p → DataW.TrodAll enc P W' 0 (fun b => decide (b < W.heap.size)) true ts vs ds p := by
  intro ts
  induction ts with
  | nil => intro vs ds p _ _ h; cases vs <;> cases ds <;> first | exact h | exact h.elim
  | cons t ts ih =>
    intro vs ds p ha hp h
    cases vs with
    | nil => exact h.elim
    | cons v vs =>
      cases ds with
      | nil => exact h.elim
      | cons d ds =>
        obtain ⟨p1, q1, h1, h2, rfl⟩ := h
        simp only [List.all_cons, Bool.and_eq_true, decide_eq_true_eq] at ha
        exact ⟨p1, q1, Below.trod hl ha.1.1 ha.1.2 h1 hB (fun x hx => hp x (by simp [hx])), ih vs ds q1 ha.2 (fun x hx => hp x (by simp [hx])) h2, rfl⟩

theorem law_post {H : Type} {enc : TypeId × Value → H} {P : Program} {f : Func} {s : ChangeSpec} {W W' : World} {args : Array Value} {ds gs : List (DataW H)} {before : List MemPlace} {tb : TypeId}
    (hl : laidOutB P = true) (hts : (f.params.toList.all fun t => P.readableRec t && decide (t < P.types.size)) = true) (hr : f.resultTypes = #[tb]) (hb : P.underlying tb = some .bool) (hv : s.vars = [])
    (hW : DataW.Whole enc P f.params.toList s.vars false W args.toList ds gs before) (hfn : s.fn H (ds ++ gs) = { results := [.lit (.bool true)], args := ds, vars := [] })
    (hB : Below W.heap.size W W') : s.post enc P f false true false false W args (.bool true) W' := by
  have hlt := hW.lt
  have hW0 := hW
  obtain ⟨p, q, hA, hV, rfl, _, _⟩ := hW
  rw [hv] at hV
  obtain ⟨rfl, rfl⟩ := trodVars_none hV
  refine ⟨ds, _, _, [], p, [], hW0, ?_, ?_, ?_, hB.frame _, fun h => by cases h⟩
  · rw [hfn, hr]
    exact trodAll_mk1 (shut_bool hb true)
  · rw [hfn]
    exact trodAll_below hl hB _ _ _ _ hts (fun x hx => by simpa using hlt x (by simp [hx])) hA
  · rw [hfn, hv]
    rfl
end Go.Proofs.YtmeplgagpnligaaDoor

/- The row of LibraryFinds and its card: for every input the call returns true, and each argument reads behind the call as it read before. The row lists tables of Go's library; the call answers true whatever they hold. Condition: none. -/
namespace Go.Proofs.YtmeplgagpnligaaDoor.libraryFinds
open Go.ChangeShapes Go.WideShapes Go.ChangeAt Go.RowKit
set_option linter.unusedVariables false

theorem own : ownKnob Tryd.prog.godebug = none := by kernel_rfl
theorem laidOut : laidOutB Tryd.prog = true := by kernel_rfl
theorem readable : (Tryd.f4.params.toList.all fun t => Tryd.prog.readableRec t && decide (t < Tryd.prog.types.size)) = true := by kernel_rfl

set_option maxRecDepth 100000 in
theorem contract (H : Type) (enc : TypeId × Value → H) (W : World) (base : Nat) (args : Array Value) (ds gs : List (DataW H)) (before : List MemPlace)
    (hval : ∀ (j : Nat) t v, Tryd.f4.params[j]? = some t → args[j]? = some v → Value.okWide Tryd.prog W .any base t v)
    (hW : DataW.Whole enc Tryd.prog Tryd.f4.params.toList Rows.libraryFindsSpec.vars false W args.toList ds gs before) (hsh : W.ShapedOpen Tryd.prog) :
    Calls Tryd.prog 4 args W fun e W' => ∃ v, e = .returned v ∧ Rows.libraryFindsSpec.post enc Tryd.prog Tryd.f4 false true false false W args v W' := by
  have hW' := hW
  obtain ⟨p, q, hA0, hV, rfl, hfz, hnd⟩ := hW
  have hA : DataW.TrodAll enc Tryd.prog W 0 (fun _ => true) true Tryd.f4.params.toList args.toList ds p := hA0
  rw [Tryd.params4] at hA hval
  obtain ⟨v0, vs0, d0, ds0, p0, q0, hargs, rfl, rfl, h0, r0⟩ := trodAll_cons hA
  obtain ⟨v1, vs1, d1, ds1, p1, q1, rfl, rfl, rfl, h1, r1⟩ := trodAll_cons r0
  obtain ⟨rfl, rfl, rfl⟩ := trodAll_nil r1
  obtain rfl : args = #[v0, v1] := by cases args; simp_all
  obtain ⟨rfl, rfl⟩ := trodVars_none hV
  clear hA0 hA r0 r1
  obtain ⟨a0, rfl, rfl, rfl, wa0⟩ := Go.ChangeMaps.open_string Tryd.underlying9 (hval 0 9 v0 rfl rfl) h0
  obtain ⟨a1, rfl, rfl, rfl, wa1⟩ := open_int Tryd.underlying33 (hval 1 33 v1 rfl rfl) h1
  have wb1 := u16_of wa1
  obtain ⟨n1, rfl⟩ : ∃ n : Nat, a1 = n := ⟨a1.toNat, by omega⟩
  refine (libraryFinds_law a0 n1 (by omega) wa0 W (MaxL.of hsh)).mono fun e W' ⟨he, hg⟩ => ?_
  subst he
  exact ⟨_, rfl, law_post laidOut readable (by kernel_rfl) Tryd.underlying4 rfl hW' (by rfl) hg⟩

/-- A WORLD FOR THE WITNESS: each listed variable holds what the row lists. -/
noncomputable def laidWorld (os : Os) : World := World.laidAll Tryd.prog os Rows.libraryFindsRow.laid
def wargs : Array Value := #[.string ⟨#[]⟩, .int .u16 0]
theorem laid_met (os : Os) : laidMet Tryd.prog Rows.libraryFindsRow.laid ((laidWorld os).forCall (fun _ _ => 0) ⟨#[], wargs, []⟩).memory :=
  laidMet_laidAll wargs (by kernel_rfl) (by kernel_rfl)
theorem reads (os : Os) {H : Type} (enc : TypeId × Value → H) : ∃ places, DataW.whole enc Tryd.prog ((laidWorld os).forCall (fun _ _ => 0) ⟨#[], wargs, []⟩).memory Tryd.f4.params.toList Rows.libraryFindsSpec.vars false wargs.toList 8 = some ([.lit (.string []), .lit (.int .u16 0)], [], places) :=
  ⟨[], by kernel_rfl⟩

set_option maxRecDepth 100000 in
theorem lifted (os : Os) (started : os.Started) (H : Type) (enc : TypeId × Value → H) (F : Stop.Interp) :
    ReturnsInHanded {} Tryd.checked os 4 .any ((OpenSpec.ofChange Rows.libraryFindsSpec).preRow enc Tryd.prog Tryd.f4 Rows.libraryFindsRow.domain false Rows.libraryFindsRow.laid) (((OpenSpec.ofChange Rows.libraryFindsSpec).at F).post enc Tryd.prog Tryd.f4 false true false false) := by
  obtain ⟨places, hx⟩ := reads os enc
  refine returnsInHanded_of_row (C := Tryd.checked) (s := OpenSpec.ofChange Rows.libraryFindsSpec) own started (by kernel_rfl) Tryd.func4
    (witness_row_at (enc := enc) (C := Tryd.checked) false (laidWorld os) wargs (World.laidAll_os _ _ _) (by kernel_rfl) (by kernel_rfl) (by kernel_rfl)
      (OpenSpec.preRow_of_cond 8 hx (by kernel_rfl) (fun k hk => by cases hk) (by kernel_rfl) (laid_met os))) ?_
  intro W base args ds gs before hval hW _ _ _ _ hsh _
  exact contract H enc W base args ds gs before hval hW hsh

theorem said : Rows.LibraryFindsSaid :=
  OpenClaim.holds_of_cond 4 Tryd.f4 rfl rfl rfl rfl rfl rfl rfl ⟨rfl, rfl, rfl, rfl, rfl⟩ rfl rfl rfl rfl rfl (by kernel_rfl) Tryd.func4 (by kernel_rfl)
    (of_decide_eq_true (by kernel_rfl)) (by unfold Func.isWrapper; first | (rw [if_pos (by decide +kernel)]; kernel_rfl) | (rw [if_neg (by decide +kernel)]; exact ⟨rfl, rfl⟩))
    (fun os started H enc _ F => by rw [OpenClaim.pre_eq_preRow]; exact lifted os started H enc F)

theorem plain (f : FuncId) (fn : Func) (hf : Tryd.pinned.checked.prog.funcNamed "geoprover/geoproverlaw49.LibraryFinds" = some f) (hfn : Tryd.pinned.checked.prog.funcs[f]? = some fn) :
    false = Tryd.pinned.checked.prog.looks [] ∧ ∀ (j : Nat) t, fn.params[j]? = some t → Tryd.pinned.checked.prog.wantsStandIn t = false := by
  obtain rfl : f = 4 := Option.some.inj ((show Tryd.prog.funcNamed "geoprover/geoproverlaw49.LibraryFinds" = some 4 by kernel_rfl).symm.trans hf) |>.symm
  obtain rfl : fn = Tryd.f4 := (Option.some.inj (Tryd.func4.symm.trans hfn)).symm
  refine ⟨by kernel_rfl, fun j t ht => ?_⟩
  rw [Tryd.params4] at ht
  obtain rfl | rfl : t = 9 ∨ t = 33 := by simpa using Array.mem_of_getElem? ht
  · exact (show Tryd.prog.wantsStandIn 9 = false by kernel_rfl)
  · exact (show Tryd.prog.wantsStandIn 33 = false by kernel_rfl)

/-- The card. -/
theorem card : Rows.LibraryFindsCardSaid :=
  Claim7.holds_tied_plain_at .later [] _ _ _ _ said (fun _ h => by cases h) (by kernel_rfl) (fun _ h => by cases h) libraryFinds_row_tie rfl ⟨rfl, rfl⟩ (by kernel_rfl) rfl plain (by kernel_rfl)
#print axioms said
#print axioms card
end Go.Proofs.YtmeplgagpnligaaDoor.libraryFinds
