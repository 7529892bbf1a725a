/- The names of the entries are different. No walk here. -/
import Derived.Test.YtmeplgagpnligaaDoorLx6
import Derived.Test.YtmeplgagpnligaaDoorLx13

/- Walks: Count, Entry, Family of the library; Family of the reference. -/
namespace Go.Proofs.YtmeplgagpnligaaDoor
open Go.RowKit

set_option maxHeartbeats 1000000 in
theorem countP_any (w : World) (hM : MaxL w) : Calls Tryd.prog 14 #[] w fun e w' => e = .returned (.int .i64 288) ∧ Below w.heap.size w w' := by
  have C := Lib.hid (all_any w hM)
  clear hM
  go_enter Tryd.func14, Tryd.ntmps14
  go_wp2_with fail
  refine C.out.mono ?_
  rintro e w1 ⟨a, c, vs, rfl, _, _, _, hb⟩
  go_wp2
  go_ret
  exact ⟨rfl, hb⟩
/-- the family k as it lies in the row -/
theorem fam_cells {B : Nat} {w : World} {a : Option Addr} {c : Nat} {vs : List FmV} {k : Nat} {f : Fm} (ho : OwnF B w a c vs) (hv : vs.map FmV.fm = fams) (hs : ∀ v ∈ vs, StB B w v) (hf : fams[k]? = some f) :
    ∃ g gs, a = some ⟨g, 0, none⟩ ∧ Blk w gs 9 (strsOf f.steps) ∧ w.cell? ⟨g, k * 4, none⟩ = some (.string (ofL f.name)) ∧ w.cell? ⟨g, k * 4 + 1, none⟩ = some (.slice (some ⟨gs, 0, none⟩) f.steps.length f.steps.length) ∧
      w.cell? ⟨g, k * 4 + 2, none⟩ = some (.string (ofL f.thm)) ∧ w.cell? ⟨g, k * 4 + 3, none⟩ = some (.string (ofL f.wrong)) := by
  rw [← hv, List.getElem?_map] at hf
  obtain ⟨x, hx, rfl⟩ := Option.map_eq_some_iff.1 hf
  obtain ⟨g, ha, _, _, hc⟩ := ho.at_ FmV.cs_len hx
  exact ⟨g, x.g, ha, (hs x (List.mem_of_getElem? hx)).2, hc 0 _ rfl, hc 1 _ rfl, hc 2 _ rfl, hc 3 _ rfl⟩
set_option maxRecDepth 100000 in
set_option maxHeartbeats 2000000 in
theorem entryP_out (i : Int) (hi : InInt i) (h : i < 0 ∨ 288 ≤ i) (w : World) (hM : MaxL w) : Calls Tryd.prog 5 #[.int .i64 i] w (RetEnt [] [] [] 2 w) := by
  have C := Lib.hid (fun W (hW : Below w.heap.size w W) => countP_any W (hM.ext (Ext.below hW)))
  have hz : Blk (w.alloc (.cells #[.string ⟨#[]⟩, .string ⟨#[]⟩, .slice none 0 0] 24)) w.heap.size 24 #[.string ⟨#[]⟩, .string ⟨#[]⟩, .slice none 0 0] := Blk.new w _ _
  have hb0 : Below w.heap.size w (w.alloc (.cells #[.string ⟨#[]⟩, .string ⟨#[]⟩, .slice none 0 0] 24)) := by go_grown
  clear hM
  by_cases h0 : i < 0
  · clear h
    go_enter Tryd.func5, Tryd.ntmps5
    have j0 := hz.cell 0; have j1 := hz.cell 1; have j2 := hz.cell 2; have f0 := hz.frozen 0; have f1 := hz.frozen 1; have f2 := hz.frozen 2
    go_wp2
    refine world_gen (fun W => Blk W w.heap.size 24 #[.string ⟨#[]⟩, .string ⟨#[]⟩, .slice none 0 0] ∧ Below w.heap.size w W) ⟨by first | (have hNN := hz; ((repeat (first | (with_reducible assumption) | ((with_reducible apply Blk.farAt); (focus omega)) | (with_reducible apply Blk.setb) | ((with_reducible apply Blk.newAt); (focus (simp; done))) | (with_reducible apply Blk.alloc) | (with_reducible apply Blk.drew))); all_goals (show @Eq (Array Value) _ _; rfl))), by first | exact hb0 | exact ((hb0.setCell (Nat.le_refl _) _).setCell (Nat.le_refl _) _).setCell (Nat.le_refl _) _⟩ ?_
    clear j0 j1 j2
    rintro w9 ⟨hN9, hw9⟩
    have j0 := hN9.cell 0; have j1 := hN9.cell 1; have j2 := hN9.cell 2
    refine bodyPost_ret (v := .tuple #[.agg #[.string ⟨#[]⟩, .string ⟨#[]⟩, .slice none 0 0], .int .i64 2]) (by simp [results, Tryd.results5, go_sem, j0, j1, j2]) rfl ?_
    exact ⟨none, 0, rfl, fun V hV => SlR.nil, hw9⟩
  · have h1 : 288 ≤ i := by omega
    clear h
    go_enter Tryd.func5, Tryd.ntmps5
    go_wp2_with fail
    refine (C.out _ hb0).mono ?_
    rintro e w1 ⟨rfl, hb1⟩
    have hz1 := hz.below' hb1
    have hw1 := below_then hb0 hb1
    clear hz hb0 hb1
    have j0 := hz1.cell 0; have j1 := hz1.cell 1; have j2 := hz1.cell 2; have f0 := hz1.frozen 0; have f1 := hz1.frozen 1; have f2 := hz1.frozen 2
    go_wp2
    refine world_gen (fun W => Blk W w.heap.size 24 #[.string ⟨#[]⟩, .string ⟨#[]⟩, .slice none 0 0] ∧ Below w.heap.size w W) ⟨by first | (have hNN := hz1; ((repeat (first | (with_reducible assumption) | ((with_reducible apply Blk.farAt); (focus omega)) | (with_reducible apply Blk.setb) | ((with_reducible apply Blk.newAt); (focus (simp; done))) | (with_reducible apply Blk.alloc) | (with_reducible apply Blk.drew))); all_goals (show @Eq (Array Value) _ _; rfl))), by first | exact hw1 | exact ((hw1.setCell (Nat.le_refl _) _).setCell (Nat.le_refl _) _).setCell (Nat.le_refl _) _⟩ ?_
    clear j0 j1 j2
    rintro w9 ⟨hN9, hw9⟩
    have j0 := hN9.cell 0; have j1 := hN9.cell 1; have j2 := hN9.cell 2
    refine bodyPost_ret (v := .tuple #[.agg #[.string ⟨#[]⟩, .string ⟨#[]⟩, .slice none 0 0], .int .i64 2]) (by simp [results, Tryd.results5, go_sem, j0, j1, j2]) rfl ?_
    exact ⟨none, 0, rfl, fun V hV => SlR.nil, hw9⟩
set_option maxRecDepth 100000 in
set_option maxHeartbeats 2000000 in
theorem entryP_any (k v : Nat) (hk : k < 24) (hv : v < 12) (i : Int) (hi : i = 12 * k + v) (f : Fm) (hf : fams[k]? = some f) (w : World) (hM : MaxL w) :
    Calls Tryd.prog 5 #[.int .i64 i] w (RetEnt (nmP f v) (srcP f v) (osP f v) 0 w) := by
  have C := Lib.hid (fun W (hW : Below w.heap.size w W) => countP_any W (hM.ext (Ext.below hW)))
  have CA := Lib.hid (fun W (hW : Below w.heap.size w W) => all_any W (hM.ext (Ext.below hW)))
  have hok : okF f = true := List.all_eq_true.1 fams_ok f (List.mem_of_getElem? hf)
  have CE := Lib.hid (fun g W hg => entry_any f hok v hv g W hg)
  have hz : Blk (w.alloc (.cells #[.string ⟨#[]⟩, .string ⟨#[]⟩, .slice none 0 0] 24)) w.heap.size 24 #[.string ⟨#[]⟩, .string ⟨#[]⟩, .slice none 0 0] := Blk.new w _ _
  have hb0 : Below w.heap.size w (w.alloc (.cells #[.string ⟨#[]⟩, .string ⟨#[]⟩, .slice none 0 0] 24)) := by go_grown
  have hi0 : 0 ≤ i := by omega
  have hi1 : i < 288 := by omega
  have hq : i / 12 = (k : Int) := by omega
  have hr : i % 12 = (v : Int) := by omega
  have hk24 : (k : Int) < 24 := by omega
  have hk0 : 0 ≤ (k : Int) := by omega
  have hvv : 0 ≤ (v : Int) := by omega
  have HF := Lib.hid hf
  clear hM hok hf hi hk hv
  go_enter Tryd.func5, Tryd.ntmps5
  go_wp2_with fail
  refine (C.out _ hb0).mono ?_
  rintro e w1 ⟨rfl, hb1⟩
  have hz1 := hz.below' hb1
  have hw1 := below_then hb0 hb1
  clear hz hb0 hb1
  go_wp2_with fail
  refine (CA.out _ hw1).mono ?_
  rintro e w2 ⟨a, c, vs, rfl, hvs, ho, hst, hb2⟩
  have hz2 := hz1.below' hb2
  have hw2 := below_then hw1 hb2
  obtain ⟨g, gs, rfl, hgs, x0, x1, x2, x3⟩ := fam_cells ho hvs hst HF.out
  have HGS := Lib.hid hgs
  clear hvs ho hst hz1 hw1 hb2 hgs C CA
  go_wp2_with fail
  try rw [hr]
  refine (CE.out gs w2 HGS.out).mono ?_
  rintro e w3 ⟨a3, c3, rfl, hV3, hb3⟩
  have hz3 := hz2.below' hb3
  have hw3 := below_then hw2 hb3
  have HV3 := Lib.hid hV3
  have j0 := hz3.cell 0; have j1 := hz3.cell 1; have j2 := hz3.cell 2; have f0 := hz3.frozen 0; have f1 := hz3.frozen 1; have f2 := hz3.frozen 2
  have hwl : w.heap.size < w2.heap.size := hz2.lt
  clear hV3 x0 x1 x2 x3 hr hq
  go_wp2
  refine world_gen (fun W => Blk W w.heap.size 24 #[.string (ofL (nmP f v)), .string (ofL (srcP f v)), .slice a3 (osP f v).length c3] ∧ (∀ V, New w.heap.size W V → IntsR V a3 c3 (osP f v)) ∧ Below w.heap.size w W) ⟨by ((repeat (first | (with_reducible assumption) | ((with_reducible apply Blk.farAt); (focus omega)) | (with_reducible apply Blk.setb) | ((with_reducible apply Blk.newAt); (focus (simp; done))) | (with_reducible apply Blk.alloc) | (with_reducible apply Blk.drew))); all_goals (show @Eq (Array Value) _ _; rfl)), fun V hV => HV3.out V (back3 hV (Nat.le_of_lt hwl) hwl), ((hw3.setCell (Nat.le_refl _) _).setCell (Nat.le_refl _) _).setCell (Nat.le_refl _) _⟩ ?_
  clear j0 j1 j2
  rintro w9 ⟨hN9, hV9, hw9⟩
  have j0 := hN9.cell 0; have j1 := hN9.cell 1; have j2 := hN9.cell 2
  refine bodyPost_ret (v := .tuple #[.agg #[.string (ofL (nmP f v)), .string (ofL (srcP f v)), .slice a3 (osP f v).length c3], .int .i64 0]) (by simp [results, Tryd.results5, go_sem, j0, j1, j2]) rfl ?_
  exact ⟨a3, c3, rfl, hV9, hw9⟩
/-- what a call gives that names a family -/
def RetFm (nm : List UInt8) (v x : Int) (w : World) (e : Ending) (w' : World) : Prop := e = .returned (.tuple #[.string (ofL nm), .int .i64 v, .int .i64 x]) ∧ Below w.heap.size w w'
set_option maxRecDepth 100000 in
set_option maxHeartbeats 2000000 in
theorem familyP_out (i : Int) (hi : InInt i) (h : i < 0 ∨ 288 ≤ i) (w : World) (hM : MaxL w) : Calls Tryd.prog 7 #[.int .i64 i] w (RetFm [] 0 2 w) := by
  have C := Lib.hid (countP_any w hM)
  clear hM
  by_cases h0 : i < 0
  · clear h
    go_enter Tryd.func7, Tryd.ntmps7
    go_wp2
    go_ret3
    exact ⟨rfl, Below.refl _ _⟩
  · have h1 : 288 ≤ i := by omega
    clear h
    go_enter Tryd.func7, Tryd.ntmps7
    go_wp2_with fail
    refine C.out.mono ?_
    rintro e w1 ⟨rfl, hb1⟩
    go_wp2
    go_ret3
    exact ⟨rfl, hb1⟩
end Go.Proofs.YtmeplgagpnligaaDoor

/- Walks: Family on both sides; Find on both sides. -/
namespace Go.Proofs.YtmeplgagpnligaaDoor
open Go.RowKit

set_option maxRecDepth 100000 in
set_option maxHeartbeats 2000000 in
theorem familyP_any (k v : Nat) (hk : k < 24) (hv : v < 12) (i : Int) (hi : i = 12 * k + v) (f : Fm) (hf : fams[k]? = some f) (w : World) (hM : MaxL w) :
    Calls Tryd.prog 7 #[.int .i64 i] w (RetFm f.name v 0 w) := by
  have C := Lib.hid (countP_any w hM)
  have CA := Lib.hid (fun W (hW : Below w.heap.size w W) => all_any W (hM.ext (Ext.below hW)))
  have hi0 : 0 ≤ i := by omega
  have hi1 : i < 288 := by omega
  have hq : i / 12 = (k : Int) := by omega
  have hr : i % 12 = (v : Int) := by omega
  have hk24 : (k : Int) < 24 := by omega
  have hk0 : 0 ≤ (k : Int) := by omega
  have hvv : 0 ≤ (v : Int) := by omega
  have HF := Lib.hid hf
  clear hM hf hi hk hv
  go_enter Tryd.func7, Tryd.ntmps7
  go_wp2_with fail
  refine C.out.mono ?_
  rintro e w1 ⟨rfl, hw1⟩
  go_wp2_with fail
  refine (CA.out _ hw1).mono ?_
  rintro e w2 ⟨a, c, vs, rfl, hvs, ho, hst, hb2⟩
  have hw2 := below_then hw1 hb2
  obtain ⟨g, gs, rfl, hgs, x0, x1, x2, x3⟩ := fam_cells ho hvs hst HF.out
  clear hvs ho hst hw1 hb2 hgs C CA
  go_wp2
  go_ret3
  exact ⟨by first | rfl | (rw [hr]; rfl), hw2⟩
set_option maxRecDepth 100000 in
set_option maxHeartbeats 2000000 in
theorem familyR_out (i : Int) (hi : InInt i) (h : i < 0 ∨ 288 ≤ i) (w : World) : Calls Tryd.prog 8 #[.int .i64 i] w (RetFm [] 0 2 w) := by
  have C := Lib.hid (count_any w)
  by_cases h0 : i < 0
  · clear h
    go_enter Tryd.func8, Tryd.ntmps8
    go_wp2
    go_ret3
    exact ⟨rfl, Below.refl _ _⟩
  · have h1 : 288 ≤ i := by omega
    clear h
    go_enter Tryd.func8, Tryd.ntmps8
    go_wp2_with fail
    refine C.out.mono ?_
    rintro e w1 ⟨rfl, rfl⟩
    go_wp2
    go_ret3
    exact ⟨rfl, Below.refl _ _⟩
set_option maxRecDepth 100000 in
set_option maxHeartbeats 2000000 in
theorem familyR_any (k v : Nat) (hk : k < 24) (hv : v < 12) (i : Int) (hi : i = 12 * k + v) (f : Rf) (hf : refs[k]? = some f) (w : World) :
    Calls Tryd.prog 8 #[.int .i64 i] w (RetFm f.name v 0 w) := by
  have C := Lib.hid (count_any w)
  have CF := Lib.hid families_any
  have hi0 : 0 ≤ i := by omega
  have hi1 : i < 288 := by omega
  have hq : i / 12 = (k : Int) := by omega
  have hr : i % 12 = (v : Int) := by omega
  have hk24 : (k : Int) < 24 := by omega
  have hk0 : 0 ≤ (k : Int) := by omega
  have hvv : 0 ≤ (v : Int) := by omega
  have c0 : refCells[k * 4]? = some (.string (ofL f.name)) := refCells_at hf 0 (by omega)
  clear hf hi hk hv
  go_enter Tryd.func8, Tryd.ntmps8
  go_wp2_with fail
  refine C.out.mono ?_
  rintro e w1 ⟨rfl, rfl⟩
  go_wp2_with fail
  refine (CF.out _).mono ?_
  rintro e w1 ⟨rfl, hw1⟩
  have z1 : Blk w1 w.heap.size 45 refCells := by rw [← hw1]; exact Blk.new _ _ _
  have b1 : Below w.heap.size w w1 := by rw [← hw1]; exact (Below.refl _ _).alloc (Nat.le_refl _) _
  have x0 : w1.cell? ⟨w.heap.size, k * 4, none⟩ = some (.string (ofL f.name)) := (z1.cell _).trans c0
  clear hw1 z1 c0 C CF
  go_wp2
  go_ret3
  exact ⟨by first | rfl | (rw [hr]; rfl), b1⟩

/-! ### Find -/
/-- the name of the entry n -/
noncomputable def nmAt (n : Nat) : List UInt8 := match fams[n / 12]? with
  | some f => nmP f (n % 12)
  | none => []
theorem nmAt_eq {k v : Nat} (hv : v < 12) {f : Fm} (hf : fams[k]? = some f) : nmAt (12 * k + v) = nmP f v := by
  unfold nmAt
  rw [show (12 * k + v) / 12 = k by omega, show (12 * k + v) % 12 = v by omega, hf]
/-- the first of m indices from n on whose entry has the name -/
noncomputable def findF (s : ByteArray) : Nat → Nat → Int
  | _, 0 => -1
  | n, m + 1 => if ofL (nmAt n) = s then (n : Int) else findF s (n + 1) m
theorem findF_in (s : ByteArray) : ∀ (m n : Nat), n + m ≤ 288 → -1 ≤ findF s n m ∧ findF s n m ≤ 287
  | 0, n, _ => by simp [findF]
  | m + 1, n, h => by
    unfold findF
    split
    · omega
    · exact findF_in s m (n + 1) (by omega)
theorem findF_yes {s : ByteArray} {n m : Nat} (h : ofL (nmAt n) = s) : findF s n (m + 1) = n := by unfold findF; rw [if_pos h]
theorem findF_no {s : ByteArray} {n m : Nat} (h : ¬ ofL (nmAt n) = s) : findF s n (m + 1) = findF s (n + 1) m := by rw [findF, if_neg h]
theorem nmP_len (f : Fm) (v : Nat) (hv : v < 12) (hf : okF f = true) : (nmP f v).length ≤ 103 ∧ f.name.length ≤ 100 ∧ (textN v).length ≤ 2 := by
  have h1 : f.name.length ≤ 100 := by
    simp only [okF, Bool.and_eq_true, decide_eq_true_eq] at hf
    exact hf.2.2.2.2.1
  have h2 : (textN v).length ≤ 2 := by
    rcases Nat.lt_or_ge v 10 with h | h
    · rw [textN_small h]; simp
    · rw [textN_two (by omega) h]; simp
  refine ⟨?_, h1, h2⟩
  unfold nmP
  simp; omega
set_option maxRecDepth 100000 in
set_option maxHeartbeats 4000000 in
theorem findP_any (s : ByteArray) (w : World) (hM : MaxL w) : Calls Tryd.prog 12 #[.string s] w fun e w' => e = .returned (.int .i64 (findF s 0 288)) ∧ Below w.heap.size w w' := by
  obtain ⟨R, hR⟩ : ∃ R, findF s 0 288 = R := ⟨_, rfl⟩
  have HR := Lib.hid hR
  rw [hR]
  have C := Lib.hid (all_any w hM)
  clear hM hR
  go_enter Tryd.func12, Tryd.ntmps12
  go_wp2_with fail
  refine C.out.mono ?_
  rintro e w1 ⟨a, c, vs, rfl, hvs, ho, hst, hb⟩
  have HVS := Lib.hid hvs; have HO := Lib.hid ho; have HST := Lib.hid hst
  clear hvs ho hst C
  go_wp2
  go_loopg [3, 4, 5, 8] 24 (fun g _ _ _ si wr => ∃ k : Nat, k + g = 24 ∧ si = .int .i64 k ∧ Below w1.heap.size w1 wr ∧ findF s (12 * k) (288 - 12 * k) = R)
  case atStart => exact ⟨0, by omega, rfl, Below.refl _ _, HR.out⟩
  case round =>
    obtain ⟨k, hkg, rfl, hw, hr⟩ := hrel
    have HKG := Lib.hid hkg
    have HRR := Lib.hid hr
    clear hkg hr HR
    by_cases hlt : k < 24
    · obtain ⟨f, hf⟩ := get_of_lt (xs := fams) (k := k) (by rw [fams_len]; exact hlt)
      have hok : okF f = true := List.all_eq_true.1 fams_ok f (List.mem_of_getElem? hf)
      obtain ⟨g, gs, hga, hgs, x0, x1, x2, x3⟩ := fam_cells HO.out HVS.out HST.out hf
      subst hga
      replace x0 := Ext.below hw _ _ x0; replace x1 := Ext.below hw _ _ x1; replace x2 := Ext.below hw _ _ x2; replace x3 := Ext.below hw _ _ x3
      have HF := Lib.hid hf
      have HOK := Lib.hid hok
      have hkd : decide ((k : Int) < 24) = true := by simp; omega
      clear hf hok hgs
      have hz : Blk (wr.alloc (.cells #[.string (ofL f.name), .slice (some ⟨gs, 0, none⟩) f.steps.length f.steps.length, .string (ofL f.thm), .string (ofL f.wrong)] 41)) wr.heap.size 41 #[.string (ofL f.name), .slice (some ⟨gs, 0, none⟩) f.steps.length f.steps.length, .string (ofL f.thm), .string (ofL f.wrong)] := Blk.new _ _ _
      have hwi : Below w1.heap.size w1 (wr.alloc (.cells #[.string (ofL f.name), .slice (some ⟨gs, 0, none⟩) f.steps.length f.steps.length, .string (ofL f.thm), .string (ofL f.wrong)] 41)) := hw.alloc hw.size _
      go_wp2
      revert hz hwi
      generalize wr.alloc (.cells #[.string (ofL f.name), .slice (some ⟨gs, 0, none⟩) f.steps.length f.steps.length, .string (ofL f.thm), .string (ofL f.wrong)] 41) = wi
      generalize wr.heap.size = n4
      intro hz hwi
      have HZ := Lib.hid hz
      clear x0 x1 x2 x3 hz hw
      obtain ⟨gk0, rfl⟩ : ∃ n, n = gk := ⟨_, rfl⟩
      go_loopg [5, 13] 12 (fun g2 _ si2 wr2 => ∃ v : Nat, v + g2 = 12 ∧ si2 = .int .i64 v ∧ Blk wr2 n4 41 #[.string (ofL f.name), .slice (some ⟨gs, 0, none⟩) f.steps.length f.steps.length, .string (ofL f.thm), .string (ofL f.wrong)] ∧ Below w1.heap.size w1 wr2 ∧ findF s (12 * k + v) (288 - (12 * k + v)) = R)
      case atStart => exact ⟨0, by omega, rfl, HZ.out, hwi, HRR.out⟩
      case round =>
        obtain ⟨v, hvg, rfl, hz, hw, hr⟩ := hrel
        have HVG := Lib.hid hvg
        have HRV := Lib.hid hr
        have HZ2 := Lib.hid hz
        clear hvg hr hz hwi HZ HRR
        by_cases hvlt : v < 12
        · have hnm : ofL f.name ++ ⟨#[45]⟩ ++ ofL (textN v) = ofL (nmP f v) := by
            show ofL f.name ++ ofL [45] ++ ofL (textN v) = _
            rw [ofL_app, ofL_app]; rfl
          obtain ⟨l1, l2, l3⟩ := nmP_len f v hvlt HOK.out
          have CI := fun W => itoa_any v W (by omega)
          rw [decS_text (by omega)] at CI
          have hat := nmAt_eq (v := v) hvlt HF.out
          have z0 := HZ2.out.cell 0
          have q1 : (ofL f.name).size ≤ 100 := by rw [ofL_size]; exact l2
          have q2 : (ofL (textN v)).size ≤ 2 := by rw [ofL_size]; exact l3
          have q3 : ¬ 9223372036854775807 < (ofL f.name).size + 1 := by omega
          have q4 : ¬ 9223372036854775807 < (ofL f.name).size + 1 + (ofL (textN v)).size := by omega
          replace CI := Lib.hid CI
          have hrv := HRV.out
          rw [show 288 - (12 * k + v) = (287 - (12 * k + v)) + 1 by omega] at hrv
          by_cases hs : ofL (nmP f v) = s
          · have hun : ((ofL f.name ++ ⟨#[45]⟩ ++ ofL (textN v)).toList == s.toList) = true := by rw [hnm, str_beq, hs]; simp
            have hR : R = ((12 * k + v : Nat) : Int) := by rw [← hrv, findF_yes (by rw [hat]; exact hs)]
            have HRE := Lib.hid hR
            clear hR hs
            clear hnm hat l1 l2 l3 hrv
            go_upto_region 7 with fail
            refine wp_region_mix (S := (fun V => V = wr.drew)) [(0, .q), (1, .q), (2, .q), (3, .q), (6, .q), (4, .l), (5, .q), (7, .p)] (by kernel_rfl) (by kernel_rfl) (by kernel_rfl) (fun d _ _ _ _ h => by cases d <;> exact h) (rfl) ?_
            iterate 5 (refine wpMix_q rfl rfl (fun K hK => ?_); apply Exists.intro; refine ⟨fun w' hw' => ?_, ?_⟩; (focus (go_simp; try rfl)); go_simp; refine hK _ _ ?_; clear hK K)
            refine wpMix_l rfl rfl (fun K hK => ?_)
            go_simp
            refine (CI.out _).mono ?_
            rintro r w5 ⟨rfl, rfl⟩
            dsimp only
            refine hK.out _ _ (rfl) (fun _ => ?_)
            clear hK K
            iterate 1 (refine wpMix_q rfl rfl (fun K hK => ?_); apply Exists.intro; refine ⟨fun w' hw' => ?_, ?_⟩; (focus (go_simp; try rfl)); go_simp; refine hK _ _ ?_; clear hK K)
            iterate 1 (refine wpMix_p rfl rfl (fun K hK => ?_); apply Exists.intro; refine ⟨fun w' => ?_, ?_⟩; (focus (go_simp; try rfl)); go_simp; refine hK _ _ ?_; clear hK K)
            refine wpMix_nil ?_
            go_wp2
            go_ret
            exact ⟨by rw [HRE.out]; simp, below_then hb hw.drew⟩
          · have hun : ((ofL f.name ++ ⟨#[45]⟩ ++ ofL (textN v)).toList == s.toList) = false := by rw [hnm, str_beq]; simpa using hs
            rw [findF_no (by rw [hat]; exact hs)] at hrv
            have HRN := Lib.hid hrv
            clear hs
            clear hnm hat l1 l2 l3 hrv
            go_upto_region 7 with fail
            refine wp_region_mix (S := (fun V => V = wr.drew)) [(0, .q), (1, .q), (2, .q), (3, .q), (6, .q), (4, .l), (5, .q), (7, .p)] (by kernel_rfl) (by kernel_rfl) (by kernel_rfl) (fun d _ _ _ _ h => by cases d <;> exact h) (rfl) ?_
            iterate 5 (refine wpMix_q rfl rfl (fun K hK => ?_); apply Exists.intro; refine ⟨fun w' hw' => ?_, ?_⟩; (focus (go_simp; try rfl)); go_simp; refine hK _ _ ?_; clear hK K)
            refine wpMix_l rfl rfl (fun K hK => ?_)
            go_simp
            refine (CI.out _).mono ?_
            rintro r w5 ⟨rfl, rfl⟩
            dsimp only
            refine hK.out _ _ (rfl) (fun _ => ?_)
            clear hK K
            iterate 1 (refine wpMix_q rfl rfl (fun K hK => ?_); apply Exists.intro; refine ⟨fun w' hw' => ?_, ?_⟩; (focus (go_simp; try rfl)); go_simp; refine hK _ _ ?_; clear hK K)
            iterate 1 (refine wpMix_p rfl rfl (fun K hK => ?_); apply Exists.intro; refine ⟨fun w' => ?_, ?_⟩; (focus (go_simp; try rfl)); go_simp; refine hK _ _ ?_; clear hK K)
            refine wpMix_nil ?_
            go_wp2
            go_roundg (gk - 1)
            case rel => exact ⟨v + 1, by have := HVG.out; omega, by go_num, HZ2.out.drew, hw.drew, by rw [← HRN.out, show 12 * k + (v + 1) = 12 * k + v + 1 by omega, show 288 - (12 * k + v + 1) = 287 - (12 * k + v) by omega]⟩
            case measure => have := HVG.out; omega
        · have hv12 : v = 12 := by have := HVG.out; omega
          have hrv := HRV.out
          rw [hv12] at hrv
          have HRN := Lib.hid hrv
          clear hrv hv12
          go_wp2
          go_roundg (gk0 - 1)
          case rel => exact ⟨k + 1, by have := HKG.out; omega, by go_num, hw, by rw [← HRN.out, show 12 * (k + 1) = 12 * k + 12 by omega]⟩
          case measure => have := HKG.out; omega
    · have hk : k = 24 := by have := HKG.out; omega
      have hrr := HRR.out
      rw [hk] at hrr
      have hR : R = -1 := by rw [← hrr]; rfl
      have HRE := Lib.hid hR
      clear hrr hR hk
      go_wp2
      go_ret
      exact ⟨by rw [HRE.out]; rfl, below_then hb hw⟩
end Go.Proofs.YtmeplgagpnligaaDoor

/- Walks: Find of the reference; the law's helpers; what the entries' names are. -/
namespace Go.Proofs.YtmeplgagpnligaaDoor
open Go.RowKit

set_option maxRecDepth 100000 in
set_option maxHeartbeats 4000000 in
theorem findR_any (s : ByteArray) (w : World) : Calls Tryd.prog 13 #[.string s] w fun e w' => e = .returned (.int .i64 (findF s 0 288)) ∧ Below w.heap.size w w' := by
  obtain ⟨R, hR⟩ : ∃ R, findF s 0 288 = R := ⟨_, rfl⟩
  have HR := Lib.hid hR
  rw [hR]
  clear hR
  have C := Lib.hid count_any
  go_enter Tryd.func13, Tryd.ntmps13
  go_wp2
  go_loopg [3, 4, 5, 11] 288 (fun g si _ _ _ wr => ∃ n : Nat, n + g = 288 ∧ si = .int .i64 n ∧ Below w.heap.size w wr ∧ findF s n (288 - n) = R)
  case atStart => exact ⟨0, by omega, rfl, Below.refl _ _, HR.out⟩
  case round =>
    obtain ⟨n, hng, rfl, hw, hr⟩ := hrel
    have HNG := Lib.hid hng
    have HRR := Lib.hid hr
    clear hng hr HR
    by_cases hlt : n < 288
    · obtain ⟨f, hf⟩ := get_of_lt (xs := fams) (k := n / 12) (by rw [fams_len]; omega)
      obtain ⟨rf, hrf, hsm⟩ := sameAll_at fams refs (n / 12) f same_all hf
      have hat := nmAt_eq (k := n / 12) (v := n % 12) (by omega) hf
      rw [show 12 * (n / 12) + n % 12 = n by omega] at hat
      obtain ⟨e1, e2, e3⟩ := sameF_eq hsm (n % 12)
      have CE := fun W => entryR_any (n / 12) (n % 12) (by omega) (by omega) (n : Int) (by omega) rf hrf W
      rw [← e1, ← e2, ← e3] at CE
      obtain ⟨nm, hnm⟩ : ∃ x, nmP f (n % 12) = x := ⟨_, rfl⟩
      obtain ⟨sr, hsr⟩ : ∃ x, srcP f (n % 12) = x := ⟨_, rfl⟩
      obtain ⟨os, hos⟩ : ∃ x, osP f (n % 12) = x := ⟨_, rfl⟩
      rw [hnm] at hat
      simp only [hnm, hsr, hos] at CE
      replace CE := Lib.hid CE
      have hrv := HRR.out
      rw [show 288 - n = (287 - n) + 1 by omega] at hrv
      clear hf hrf hsm e1 e2 e3 hnm hsr hos
      by_cases hs : ofL nm = s
      · have hun : ((ofL nm).toList == s.toList) = true := by rw [str_beq, hs]; simp
        have hR : R = (n : Int) := by rw [← hrv, findF_yes (by rw [hat]; exact hs)]
        have HRE := Lib.hid hR
        clear hR hs
        clear hat hrv
        go_wp2_with fail
        refine (C.out _).mono ?_
        rintro e w1 ⟨rfl, rfl⟩
        go_wp2_with fail
        refine (CE.out wr).mono ?_
        rintro e w1 ⟨a1, c1, rfl, _, hb1⟩
        have hw1 := below_then hw hb1
        clear CE
        go_wp2
        go_ret
        exact ⟨by rw [HRE.out]; rfl, hw1.alloc hw1.size _⟩
      · have hun : ((ofL nm).toList == s.toList) = false := by rw [str_beq]; simpa using hs
        rw [findF_no (by rw [hat]; exact hs)] at hrv
        have HRN := Lib.hid hrv
        clear hs
        clear hat hrv
        go_wp2_with fail
        refine (C.out _).mono ?_
        rintro e w1 ⟨rfl, rfl⟩
        go_wp2_with fail
        refine (CE.out wr).mono ?_
        rintro e w1 ⟨a1, c1, rfl, _, hb1⟩
        have hw1 := below_then hw hb1
        clear CE
        go_wp2
        go_roundg (gk - 1)
        case rel => exact ⟨n + 1, by have := HNG.out; omega, by go_num, hw1.alloc hw1.size _, by rw [← HRN.out, show 288 - (n + 1) = 287 - n by omega]⟩
        case measure => have := HNG.out; omega
    · have hn : n = 288 := by have := HNG.out; omega
      have hrr := HRR.out
      rw [hn] at hrr
      have hR : R = -1 := by rw [← hrr]; rfl
      have HRE := Lib.hid hR
      clear hrr hR hn
      go_wp2_with fail
      refine (C.out _).mono ?_
      rintro e w1 ⟨rfl, rfl⟩
      go_wp2
      go_ret
      exact ⟨by rw [HRE.out]; rfl, hw⟩
theorem index_any (i : Nat) (hi : i < 65536) (w : World) : Calls Tryd.prog 11 #[.int .u16 i] w fun e w' => e = .returned (.int .i64 ((i % 288 : Nat) : Int)) ∧ w = w' := by
  have C := Lib.hid count_any
  have h1 : (i : Int) ≤ 65535 := by omega
  go_enter Tryd.func11, Tryd.ntmps11
  go_wp2_with fail
  refine (C.out _).mono ?_
  rintro e w1 ⟨rfl, rfl⟩
  go_wp2
  go_ret
  exact ⟨by first | rfl | simp, rfl⟩
set_option maxHeartbeats 1000000 in
theorem same49_any (nm src : List UInt8) (os : List Int) (a b : Option Addr) (c d : Nat) (w : World) (h : IntsR w a c os) (h' : IntsR w b d os) :
    Calls Tryd.prog 9 #[.agg #[.string (ofL nm), .string (ofL src), .slice a os.length c], .agg #[.string (ofL nm), .string (ofL src), .slice b os.length d]] w fun e w' => e = .returned (.bool true) ∧ Below w.heap.size w w' := by
  have hl := h.len
  have H := Lib.hid h; have H' := Lib.hid h'
  have hb0 : Below w.heap.size w ((w.alloc (.cells #[.string (ofL nm), .string (ofL src), .slice a os.length c] 24)).alloc (.cells #[.string (ofL nm), .string (ofL src), .slice b os.length d] 24)) := by go_grown
  have hz1 : Blk ((w.alloc (.cells #[.string (ofL nm), .string (ofL src), .slice a os.length c] 24)).alloc (.cells #[.string (ofL nm), .string (ofL src), .slice b os.length d] 24)) w.heap.size 24 #[.string (ofL nm), .string (ofL src), .slice a os.length c] := (Blk.new _ _ _).alloc _
  have hz2 : Blk ((w.alloc (.cells #[.string (ofL nm), .string (ofL src), .slice a os.length c] 24)).alloc (.cells #[.string (ofL nm), .string (ofL src), .slice b os.length d] 24)) (w.heap.size + 1) 24 #[.string (ofL nm), .string (ofL src), .slice b os.length d] := blk_at1 _ _ _ _
  clear h h'
  go_enter Tryd.func9, Tryd.ntmps9
  go_wp2
  revert hb0 hz1 hz2
  generalize (w.alloc (.cells #[.string (ofL nm), .string (ofL src), .slice a os.length c] 24)).alloc (.cells #[.string (ofL nm), .string (ofL src), .slice b os.length d] 24) = w0
  generalize w.heap.size + 1 = n1
  intro hb0 hz1 hz2
  have HZ1 := Lib.hid hz1; have HZ2 := Lib.hid hz2
  clear hz1 hz2
  go_loopg [5] os.length (fun g si wr => ∃ k : Nat, k + g = os.length ∧ si = .int .i64 k ∧ Below w0.heap.size w0 wr)
  case atStart => exact ⟨0, by omega, rfl, Below.refl _ _⟩
  case round =>
    obtain ⟨k, hkg, rfl, hw⟩ := hrel
    have HKG := Lib.hid hkg
    clear hkg
    have z0 := (HZ1.out.below' hw).cell 2
    have z1 := (HZ2.out.below' hw).cell 2
    by_cases hlt : k < os.length
    · obtain ⟨x, hx⟩ := get_of_lt hlt
      obtain ⟨g1, o1, rfl, hc1, _⟩ := H.out.2.2 k x hx
      obtain ⟨g2, o2, rfl, hc2, _⟩ := H'.out.2.2 k x hx
      have y1 : wr.cell? ⟨g1, o1 + k, none⟩ = some (.int .i64 x) := by have := Ext.below (below_then hb0 hw) _ _ hc1; simpa using this
      have y2 : wr.cell? ⟨g2, o2 + k, none⟩ = some (.int .i64 x) := by have := Ext.below (below_then hb0 hw) _ _ hc2; simpa using this
      clear hx hc1 hc2
      go_wp2
      go_quiet (fail)
      go_wp2
      go_roundg (gk - 1)
      case rel => exact ⟨k + 1, by have := HKG.out; omega, by go_num, below_drewN hw _⟩
      case measure => have := HKG.out; omega
    · go_wp2
      go_ret
      exact ⟨rfl, below_then hb0 hw⟩
end Go.Proofs.YtmeplgagpnligaaDoor

/- The names of the entries are different. No walk here. -/
namespace Go.Proofs.YtmeplgagpnligaaDoor
open Go.RowKit

theorem names_apart : (refs.map Rf.name).Nodup := by
  have : decide ((refs.map Rf.name).Nodup) = true := by decide +kernel
  exact of_decide_eq_true this
theorem names_dash : (refs.all fun r => !r.name.contains 45) = true := by decide +kernel
theorem dash_split : ∀ (a b c d : List UInt8), 45 ∉ a → 45 ∉ b → a ++ 45 :: c = b ++ 45 :: d → a = b ∧ c = d
  | [], [], c, d, _, _, h => ⟨rfl, by simpa using h⟩
  | [], y :: b, c, d, _, hb, h => by
    simp at h
    exact absurd h.1 (fun e => hb (by rw [← e]; simp))
  | x :: a, [], c, d, ha, _, h => by
    simp at h
    exact absurd h.1 (fun e => ha (by rw [e]; simp))
  | x :: a, y :: b, c, d, ha, hb, h => by
    simp only [List.cons_append, List.cons.injEq] at h
    obtain ⟨h1, h2⟩ := dash_split a b c d (fun e => ha (by simp [e])) (fun e => hb (by simp [e])) h.2
    exact ⟨by rw [h.1, h1], h2⟩
theorem textN_inj {v v' : Nat} (hv : v < 12) (hv' : v' < 12) (h : textN v = textN v') : v = v' := by
  rcases Nat.lt_or_ge v 10 with h1 | h1 <;> rcases Nat.lt_or_ge v' 10 with h2 | h2
  · rw [textN_small h1, textN_small h2] at h
    simp only [List.cons.injEq, and_true] at h
    have := congrArg UInt8.toNat h
    simp at this
    omega
  · rw [textN_small h1, textN_two (by omega) h2] at h
    simp at h
  · rw [textN_two (by omega) h1, textN_small h2] at h
    simp at h
  · rw [textN_two (by omega) h1, textN_two (by omega) h2] at h
    simp only [List.cons.injEq, and_true] at h
    have := congrArg UInt8.toNat h.2
    simp at this
    omega
theorem nmAt_inj {n m : Nat} (hn : n < 288) (hm : m < 288) (h : nmAt n = nmAt m) : n = m := by
  obtain ⟨f, hf⟩ := get_of_lt (xs := fams) (k := n / 12) (by rw [fams_len]; omega)
  obtain ⟨f', hf'⟩ := get_of_lt (xs := fams) (k := m / 12) (by rw [fams_len]; omega)
  obtain ⟨r, hr, hs⟩ := sameAll_at fams refs (n / 12) f same_all hf
  obtain ⟨r', hr', hs'⟩ := sameAll_at fams refs (m / 12) f' same_all hf'
  have e1 := nmAt_eq (k := n / 12) (v := n % 12) (by omega) hf
  have e2 := nmAt_eq (k := m / 12) (v := m % 12) (by omega) hf'
  rw [show 12 * (n / 12) + n % 12 = n by omega, (sameF_eq hs _).2.1] at e1
  rw [show 12 * (m / 12) + m % 12 = m by omega, (sameF_eq hs' _).2.1] at e2
  rw [e1, e2] at h
  have d1 : 45 ∉ r.name := by have := List.all_eq_true.1 names_dash r (List.mem_of_getElem? hr); simpa using this
  have d2 : 45 ∉ r'.name := by have := List.all_eq_true.1 names_dash r' (List.mem_of_getElem? hr'); simpa using this
  unfold nmR at h
  rw [List.append_assoc, List.append_assoc] at h
  obtain ⟨h1, h2⟩ := dash_split _ _ _ _ d1 d2 h
  have h3 := textN_inj (Nat.mod_lt _ (by omega)) (Nat.mod_lt _ (by omega)) h2
  have hk : n / 12 = m / 12 := by
    have a1 : (refs.map Rf.name)[n / 12]? = some r.name := by rw [List.getElem?_map, hr]; rfl
    have a2 : (refs.map Rf.name)[m / 12]? = some r.name := by rw [List.getElem?_map, hr', h1]; rfl
    have l1 := lt_of_get a1
    exact (List.getElem?_inj l1 names_apart).1 (a1.trans a2.symm)
  omega
theorem findF_at : ∀ (m n j : Nat), n ≤ j → j < n + m → n + m ≤ 288 → findF (ofL (nmAt j)) n m = j
  | 0, n, j, h1, h2, _ => by omega
  | m + 1, n, j, h1, h2, h3 => by
    by_cases h : ofL (nmAt n) = ofL (nmAt j)
    · have := nmAt_inj (by omega) (by omega) (ofL_inj h)
      subst this
      exact findF_yes rfl
    · rw [findF_no h]
      have hne : n ≠ j := fun e => h (by rw [e])
      exact findF_at m (n + 1) j (by omega) (by omega) (by omega)
end Go.Proofs.YtmeplgagpnligaaDoor
