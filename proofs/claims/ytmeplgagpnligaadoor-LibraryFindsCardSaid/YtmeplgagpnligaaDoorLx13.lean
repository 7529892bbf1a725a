/- Walk: the reference's entry of an index. -/
import Derived.Test.YtmeplgagpnligaaDoorLx5
import Derived.Test.YtmeplgagpnligaaDoorLx7
import Derived.Test.YtmeplgagpnligaaDoorLx12
import Derived.Deep.CutRange

/- Walk: the reference's entry of an index. -/
namespace Go.Proofs.YtmeplgagpnligaaDoor
open Go.RowKit

theorem lowest_int (v : Nat) : lowest false v 1 = (false, v, 1) := by
  unfold lowest
  rw [if_neg (by omega), Nat.gcd_one_right, Nat.div_one, Nat.div_one]
  rfl
theorem num_any (v : Nat) (hv : v < 12) (w : World) : Calls Tryd.prog 20 #[.int .i64 v] w (RetQ false v 1 w) := by
  have h := qintR_any (v : Int) w ⟨by omega, by omega⟩
  have e1 : decide ((v : Int) < 0) = false := decide_eq_false (by omega)
  have e2 : (v : Int).natAbs = v := by omega
  rw [e1, e2, lowest_int] at h
  exact h
theorem numText_any (v : Nat) (hv : v < 12) (na da : Option Addr) (nc dc : Nat) (w : World) (h1 : NatR w na nc (limbs v)) (h2 : NatR w da dc (limbs 1)) :
    Calls Tryd.prog 19 #[.agg #[.bool false, .slice na (limbs v).length nc, .slice da (limbs 1).length dc]] w fun e w' => e = .returned (.string (ofL (textN v))) ∧ Below w.heap.size w w' := by
  have a1 : (limbs v).length ≤ 1 := limbs_len_le (by omega)
  have a2 : (limbs 1).length ≤ 1 := limbs_len_le (by omega)
  have h := text03_any false (limbs v) (limbs 1) v 1 na da nc dc w h1 h2 (val_limbs _) (val_limbs _) (by omega) (by omega)
  rw [lowest_int] at h
  exact h
theorem count_any (w : World) : Calls Tryd.prog 17 #[] w fun e w' => e = .returned (.int .i64 288) ∧ w = w' := by
  go_enter Tryd.func17, Tryd.ntmps17
  go_wp2
  go_ret
  exact ⟨rfl, rfl⟩
set_option maxRecDepth 100000 in
set_option maxHeartbeats 4000000 in
theorem entryR_out (i : Int) (hi : InInt i) (h : i < 0 ∨ 288 ≤ i) (w : World) : Calls Tryd.prog 6 #[.int .i64 i] w (RetEnt [] [] [] 2 w) := by
  have C := Lib.hid count_any
  have hz : Blk (w.alloc (.cells #[.string ⟨#[]⟩, .string ⟨#[]⟩, .slice none 0 0] 24)) w.heap.size 24 #[.string ⟨#[]⟩, .string ⟨#[]⟩, .slice none 0 0] := Blk.new w _ _
  have hb0 : Below w.heap.size w (w.alloc (.cells #[.string ⟨#[]⟩, .string ⟨#[]⟩, .slice none 0 0] 24)) := by go_grown
  by_cases h0 : i < 0
  · clear h
    go_enter Tryd.func6, Tryd.ntmps6
    go_wp2
    refine world_gen (fun W => Blk W w.heap.size 24 #[.string ⟨#[]⟩, .string ⟨#[]⟩, .slice none 0 0] ∧ Below w.heap.size w W) ⟨by ((repeat (first | (with_reducible assumption) | ((with_reducible apply Blk.farAt); (focus omega)) | (with_reducible apply Blk.setb) | ((with_reducible apply Blk.newAt); (focus (simp; done))) | (with_reducible apply Blk.alloc) | (with_reducible apply Blk.drew))); all_goals (show @Eq (Array Value) _ _; rfl)), hb0⟩ ?_
    rintro w9 ⟨hN9, hw9⟩
    have j0 := hN9.cell 0; have j1 := hN9.cell 1; have j2 := hN9.cell 2
    refine bodyPost_ret (v := .tuple #[.agg #[.string ⟨#[]⟩, .string ⟨#[]⟩, .slice none 0 0], .int .i64 2]) (by simp [results, Tryd.results6, go_sem, j0, j1, j2]) rfl ?_
    exact ⟨none, 0, rfl, fun V hV => SlR.nil, hw9⟩
  · have h1 : 288 ≤ i := by omega
    clear h
    go_enter Tryd.func6, Tryd.ntmps6
    go_wp2_with fail
    refine (C.out _).mono ?_
    rintro e w1 ⟨rfl, rfl⟩
    go_wp2
    refine world_gen (fun W => Blk W w.heap.size 24 #[.string ⟨#[]⟩, .string ⟨#[]⟩, .slice none 0 0] ∧ Below w.heap.size w W) ⟨by ((repeat (first | (with_reducible assumption) | ((with_reducible apply Blk.farAt); (focus omega)) | (with_reducible apply Blk.setb) | ((with_reducible apply Blk.newAt); (focus (simp; done))) | (with_reducible apply Blk.alloc) | (with_reducible apply Blk.drew))); all_goals (show @Eq (Array Value) _ _; rfl)), hb0⟩ ?_
    rintro w9 ⟨hN9, hw9⟩
    have j0 := hN9.cell 0; have j1 := hN9.cell 1; have j2 := hN9.cell 2
    refine bodyPost_ret (v := .tuple #[.agg #[.string ⟨#[]⟩, .string ⟨#[]⟩, .slice none 0 0], .int .i64 2]) (by simp [results, Tryd.results6, go_sem, j0, j1, j2]) rfl ?_
    exact ⟨none, 0, rfl, fun V hV => SlR.nil, hw9⟩
theorem refCells_at {k : Nat} {f : Rf} (h : refs[k]? = some f) (j : Nat) (hj : j < 4) : refCells[k * 4 + j]? = (famC f)[j]? := by
  unfold refCells
  rw [List.getElem?_toArray]
  exact flatMap_at famC_len refs k f j h hj
theorem perm_get {v : Nat} (h : v < 6) : (#[Value.string ⟨#[65, 66, 67]⟩, .string ⟨#[65, 67, 66]⟩, .string ⟨#[66, 65, 67]⟩, .string ⟨#[66, 67, 65]⟩, .string ⟨#[67, 65, 66]⟩, .string ⟨#[67, 66, 65]⟩] : Array Value)[v]? = some (.string (ofL (perm v))) := by
  rcases six h with rfl | rfl | rfl | rfl | rfl | rfl <;> rfl
set_option maxRecDepth 100000 in
set_option maxHeartbeats 4000000 in
theorem entryR_any (k v : Nat) (hk : k < 24) (hv : v < 12) (i : Int) (hi : i = 12 * k + v) (f : Rf) (hf : refs[k]? = some f) (w : World) :
    Calls Tryd.prog 6 #[.int .i64 i] w (RetEnt (nmR f v) (srcR f v) (osR f v) 0 w) := by
  have hok : okR f = true := List.all_eq_true.1 refs_ok f (List.mem_of_getElem? hf)
  simp only [okR, Bool.and_eq_true, decide_eq_true_eq] at hok
  obtain ⟨hs0, hs1, hs2, hs3⟩ := hok
  have C := Lib.hid count_any
  have CF := Lib.hid families_any
  have CO := Lib.hid (fun W => num_any v hv W)
  have CTX := Lib.hid (fun na nc da dc W h1 h2 => numText_any v hv na da nc dc W h1 h2)
  have hi0 : 0 ≤ i := by omega
  have hi1 : i < 288 := by omega
  have hq : i / 12 = (k : Int) := by omega
  have hr : i % 12 = (v : Int) := by omega
  have c0 : refCells[k * 4]? = some (.string (ofL f.name)) := refCells_at hf 0 (by omega)
  have c1 : refCells[k * 4 + 1]? = some (.string (ofL f.steps)) := refCells_at hf 1 (by omega)
  have c2 : refCells[k * 4 + 2]? = some (.string (ofL f.thm)) := refCells_at hf 2 (by omega)
  have c3 : refCells[k * 4 + 3]? = some (.string (ofL f.wrong)) := refCells_at hf 3 (by omega)
  have hz0 : Blk (w.alloc (.cells #[.string ⟨#[]⟩, .string ⟨#[]⟩, .slice none 0 0] 24)) w.heap.size 24 #[.string ⟨#[]⟩, .string ⟨#[]⟩, .slice none 0 0] := Blk.new w _ _
  have hb0 : Below w.heap.size w (w.alloc (.cells #[.string ⟨#[]⟩, .string ⟨#[]⟩, .slice none 0 0] 24)) := by go_grown
  have hvv : 0 ≤ (v : Int) := by omega
  have hk24 : (k : Int) < 24 := by omega
  have hk0 : 0 ≤ (k : Int) := by omega
  have HV := Lib.hid hv
  have HF := Lib.hid hf
  clear hi hf hk hv
  go_enter Tryd.func6, Tryd.ntmps6
  go_wp2_with fail
  refine (C.out _).mono ?_
  rintro e w1 ⟨rfl, rfl⟩
  go_wp2_with fail
  revert hz0 hb0
  generalize w.alloc (.cells #[.string ⟨#[]⟩, .string ⟨#[]⟩, .slice none 0 0] 24) = w0
  intro hz0 hb0
  refine (CF.out _).mono ?_
  rintro e w1 ⟨rfl, hw1⟩
  have z1 : Blk w1 w0.heap.size 45 refCells := by rw [← hw1]; exact Blk.new _ _ _
  have b1 : Below w0.heap.size w0 w1 := by rw [← hw1]; exact (Below.refl _ _).alloc (Nat.le_refl _) _
  have x0 : w1.cell? ⟨w0.heap.size, k * 4, none⟩ = some (.string (ofL f.name)) := (z1.cell _).trans c0
  have x1 : w1.cell? ⟨w0.heap.size, k * 4 + 1, none⟩ = some (.string (ofL f.steps)) := (z1.cell _).trans c1
  have x2 : w1.cell? ⟨w0.heap.size, k * 4 + 2, none⟩ = some (.string (ofL f.thm)) := (z1.cell _).trans c2
  have x3 : w1.cell? ⟨w0.heap.size, k * 4 + 3, none⟩ = some (.string (ofL f.wrong)) := (z1.cell _).trans c3
  have hzE := Lib.hid (hz0.below' b1)
  have hw1' := below_then hb0 b1
  clear hw1 z1 c0 c1 c2 c3 hz0 b1 hb0 C CF
  go_upto_region 4 with fail
  try rw [hr]
  clear hr hq hi0 hi1 x0 x1 x2 x3
  have hzF : Blk (w1.alloc (.cells #[.string (ofL f.name), .string (ofL f.steps), .string (ofL f.thm), .string (ofL f.wrong)] 45)) w1.heap.size 45 #[.string (ofL f.name), .string (ofL f.steps), .string (ofL f.thm), .string (ofL f.wrong)] := Blk.new _ _ _
  have hzE1 := Lib.hid (hzE.out.alloc (.cells #[.string (ofL f.name), .string (ofL f.steps), .string (ofL f.thm), .string (ofL f.wrong)] 45))
  have hw2 : Below w.heap.size w (w1.alloc (.cells #[.string (ofL f.name), .string (ofL f.steps), .string (ofL f.thm), .string (ofL f.wrong)] 45)) := hw1'.alloc hw1'.size _
  have hlt1 : w.heap.size < w1.heap.size := hzE.out.lt
  revert hzF hzE1 hw2
  generalize w1.alloc (.cells #[.string (ofL f.name), .string (ofL f.steps), .string (ofL f.thm), .string (ofL f.wrong)] 45) = w2
  generalize w1.heap.size = n2 at hlt1 ⊢
  intro hzF hzE hw2
  go_cut [6] from 23 to 27 (fun s6 wc => s6 = .string (ofL (perm (v % 6))) ∧ Below w2.heap.size w2 wc)
  case first =>
    have hp := perm_get (v := v % 6) (Nat.mod_lt _ (by omega))
    have hm : (v : Int) % 6 = ((v % 6 : Nat) : Int) := by omega
    have hml : v % 6 < 6 := Nat.mod_lt _ (by omega)
    obtain ⟨m, hmm⟩ : ∃ m, v % 6 = m := ⟨_, rfl⟩
    have HMM := Lib.hid hmm
    rw [hmm] at hp hm hml
    have hc := (Blk.new w2 9 #[Value.string ⟨#[65, 66, 67]⟩, .string ⟨#[65, 67, 66]⟩, .string ⟨#[66, 65, 67]⟩, .string ⟨#[66, 67, 65]⟩, .string ⟨#[67, 65, 66]⟩, .string ⟨#[67, 66, 65]⟩]).cell m
    rw [hp] at hc
    have hml' : (m : Int) < 6 := by omega
    clear hp hmm hml
    go_wp2
    go_meet
    case rel => exact ⟨by rw [HMM.out], (Below.refl _ _).alloc (Nat.le_refl _) _⟩
  case rest =>
    obtain ⟨rfl, hb3⟩ := hcut
    obtain ⟨w3, rfl⟩ : ∃ w3, w3 = wc := ⟨_, rfl⟩
    have HZF := Lib.hid (hzF.below' hb3)
    have HZE := Lib.hid (hzE.out.below' hb3)
    have hw3 := below_then hw2 hb3
    have hn2 : n2 < w3.heap.size := HZF.out.lt
    clear hzF hzE hw2 hb3
    obtain ⟨pm, hpm⟩ : ∃ pm, perm (v % 6) = pm := ⟨_, rfl⟩
    have hpl : pm.length = 3 := by rw [← hpm]; exact perm_len _
    rw [hpm]
    have HPM := Lib.hid hpm
    clear hpm
    go_upto_region 5 with fail
    go_cut [7] from 28 to 36 (fun s7 wc => ∃ gb gq, s7 = .pointer (some ⟨gb, 0, none⟩) ∧ Blk wc gb 24 #[.string (ofL (nmR f v)), .string ⟨#[]⟩, .slice (some ⟨gq, 0, none⟩) 1 1] ∧ RowI wc gq 1 [1] ∧ w3.heap.size ≤ gb ∧ w3.heap.size ≤ gq ∧ Below w3.heap.size w3 wc)
    case first =>
      have z0 : ∀ w', Below w3.heap.size w3 w' → w'.cell? ⟨n2, 0, none⟩ = some (.string (ofL f.name)) := fun w' hw' => (HZF.out.below' hw').cell 0
      have hn1 : (ofL f.name).size + 1 ≤ 101 := by rw [ofL_size]; omega
      have htl : (textN v).length ≤ 2 := by
        rcases Nat.lt_or_ge v 10 with h | h
        · rw [textN_small h]; simp
        · rw [textN_two (by have := HV.out; omega) h]; simp
      have hm2 : ¬ 9223372036854775807 < (ofL f.name).size + 1 := by omega
      have htl2 : (ofL (textN v)).size ≤ 2 := by rw [ofL_size]; exact htl
      have hm3 : ¬ 9223372036854775807 < (ofL f.name).size + 1 + (ofL (textN v)).size := by omega
      have hnm : ofL (nmR f v) = ofL f.name ++ ⟨#[45]⟩ ++ ofL (textN v) := by
        show _ = ofL f.name ++ ofL [45] ++ ofL (textN v)
        rw [ofL_app, ofL_app]; rfl
      have HNM := Lib.hid hnm
      clear hnm htl
      have s0 : Below w3.heap.size w3 w3.drew := (Below.refl _ _).drew
      obtain ⟨v0, hv0⟩ : ∃ v, w3.drew = v := ⟨_, rfl⟩
      refine wp_region_tree (S := Below w3.heap.size w3) (.q 0 (.q 1 (.q 2 (.q 3 (.three 4 (.three 5 (.q 6 (.two 7 (.q 8 (.l 9 (.t 10 .nil))) 9 (.l 7 (.q 8 (.t 10 .nil))))) 7 (.two 5 (.q 6 (.q 8 (.l 9 (.t 10 .nil)))) 9 (.l 5 (.q 6 (.q 8 (.t 10 .nil))))) 9 (.two 5 (.q 6 (.l 7 (.q 8 (.t 10 .nil)))) 7 (.l 5 (.q 6 (.q 8 (.t 10 .nil)))))) 7 (.two 4 (.two 5 (.q 6 (.q 8 (.l 9 (.t 10 .nil)))) 9 (.l 5 (.q 6 (.q 8 (.t 10 .nil))))) 9 (.l 4 (.l 5 (.q 6 (.q 8 (.t 10 .nil)))))) 9 (.two 4 (.two 5 (.q 6 (.l 7 (.q 8 (.t 10 .nil)))) 7 (.l 5 (.q 6 (.q 8 (.t 10 .nil))))) 7 (.l 4 (.l 5 (.q 6 (.q 8 (.t 10 .nil))))))))))) [10] (by kernel_rfl) (by kernel_rfl) (by kernel_rfl) (fun d _ _ _ _ h => by cases d <;> exact h) s0 ?_
      rw [hv0] at s0 ⊢
      iterate 1 (refine wpMT_q rfl rfl (fun K hK => ?_); apply Exists.intro; refine ⟨fun w' hw' => ?_, ?_⟩; (focus (go_simp; try rfl)); go_simp; refine hK _ _ ?_; clear hK K)
      iterate 1 (refine wpMT_q rfl rfl (fun K hK => ?_); apply Exists.intro; refine ⟨fun w' hw' => ?_, ?_⟩; (focus (go_simp; try rfl)); go_simp; refine hK _ _ ?_; clear hK K)
      iterate 1 (refine wpMT_q rfl rfl (fun K hK => ?_); apply Exists.intro; refine ⟨fun w' hw' => ?_, ?_⟩; (focus (go_simp; try rfl)); go_simp; refine hK _ _ ?_; clear hK K)
      iterate 1 (refine wpMT_q rfl rfl (fun K hK => ?_); apply Exists.intro; refine ⟨fun w' hw' => ?_, ?_⟩; (focus (go_simp; try rfl)); go_simp; refine hK _ _ ?_; clear hK K)
      refine wpMT_three ?_ ?_ ?_
      · skip
        refine wpMT_l rfl rfl (fun K hK => ?_)
        go_simp
        refine (CO.out v0).mono ?_
        rintro r v1 ⟨na, nc, da, dc, rfl, hN, hD, hb1⟩
        dsimp only
        have s1 := below_then s0 hb1
        refine hK.out _ _ s1 (fun _ => ?_)
        clear hK K
        have CT := Lib.hid (fun W (hW : Below v1.heap.size v1 W) => CTX.out na nc da dc W (hN W ((New.refl _ _).below hW)) (hD W ((New.refl _ _).below hW)))
        clear hN hD
        have hcur : Below v1.heap.size v1 v1 := Below.refl _ _
        refine wpMT_three ?_ ?_ ?_
        · skip
          refine wpMT_l rfl rfl (fun K hK => ?_)
          go_simp
          refine (CT.out v1 hcur).mono ?_
          rintro r v2 ⟨rfl, hb2⟩
          dsimp only
          have s2 := below_then s1 hb2
          refine hK.out _ _ s2 (fun _ => ?_)
          clear hK K hcur CT
          iterate 1 (refine wpMT_q rfl rfl (fun K hK => ?_); apply Exists.intro; refine ⟨fun w' hw' => ?_, ?_⟩; (focus (go_simp; try rfl)); go_simp; refine hK _ _ ?_; clear hK K)
          refine wpMT_two ?_ ?_
          · skip
            refine wpMT_l rfl rfl (fun K hK => ?_)
            go_simp
            refine hK.out _ _ (s2.alloc s2.size _) (fun _ => ?_)
            clear hK K
            refine world_gen (fun W => Blk W v2.heap.size 3 #[.int .i64 1] ∧ Below w3.heap.size w3 W) ⟨by ((repeat (first | (with_reducible assumption) | ((with_reducible apply Blk.farAt); (focus omega)) | (with_reducible apply Blk.setb) | ((with_reducible apply Blk.newAt); (focus (simp; done))) | (with_reducible apply Blk.alloc) | (with_reducible apply Blk.drew))); all_goals (show @Eq (Array Value) _ _; rfl)), s2.alloc s2.size _⟩ ?_
            rintro v3 ⟨hQ, s3⟩
            have ltQ : w3.heap.size ≤ v2.heap.size := s2.size
            obtain ⟨gQ, egQ⟩ : ∃ q, v2.heap.size = q := ⟨_, rfl⟩
            rw [egQ] at hQ ltQ ⊢
            have lt_of_gQ : gQ < v3.heap.size := hQ.lt
            clear egQ
            iterate 1 (refine wpMT_q rfl rfl (fun K hK => ?_); apply Exists.intro; refine ⟨fun w' hw' => ?_, ?_⟩; (focus (go_simp; try rfl)); go_simp; refine hK _ _ ?_; clear hK K)
            refine wpMT_l rfl rfl (fun K hK => ?_)
            go_simp
            refine hK.out _ _ (s3.alloc s3.size _) (fun _ => ?_)
            clear hK K
            refine world_gen (fun W => Blk W v3.heap.size 24 #[.string ⟨#[]⟩, .string ⟨#[]⟩, .slice none 0 0] ∧ Blk W gQ 3 #[.int .i64 1] ∧ Below w3.heap.size w3 W) ⟨by ((repeat (first | (with_reducible assumption) | ((with_reducible apply Blk.farAt); (focus omega)) | (with_reducible apply Blk.setb) | ((with_reducible apply Blk.newAt); (focus (simp; done))) | (with_reducible apply Blk.alloc) | (with_reducible apply Blk.drew))); all_goals (show @Eq (Array Value) _ _; rfl)), by ((repeat (first | (with_reducible assumption) | ((with_reducible apply Blk.farAt); (focus omega)) | (with_reducible apply Blk.setb) | ((with_reducible apply Blk.newAt); (focus (simp; done))) | (with_reducible apply Blk.alloc) | (with_reducible apply Blk.drew))); all_goals (show @Eq (Array Value) _ _; rfl)), s3.alloc s3.size _⟩ ?_
            clear hQ
            rintro v4 ⟨hE, hQ, s4⟩
            have ltE : w3.heap.size ≤ v3.heap.size := s3.size
            have neE : gQ ≠ v3.heap.size := by have := lt_of_gQ; omega
            obtain ⟨gE, egE⟩ : ∃ q, v3.heap.size = q := ⟨_, rfl⟩
            rw [egE] at hE ltE neE ⊢
            have neEQ : gE ≠ gQ := Ne.symm neE
            have lt_of_gE : gE < v4.heap.size := hE.lt
            clear egE
            have y0 := hE.cell 0; have y1 := hE.cell 1; have y2 := hE.cell 2; have f0 := hE.frozen 0; have f1 := hE.frozen 1; have f2 := hE.frozen 2
            refine wpMT_t rfl rfl (fun K hK => ?_)
            go_simp
            refine hK.out _ _ ?_
            clear hK K
            refine wpMT_nil ?_
            go_wp2
            go_meet
            case rel => exact ⟨gE, gQ, rfl, by rw [HNM.out]; ((repeat (first | (with_reducible assumption) | ((with_reducible apply Blk.farAt); (focus omega)) | (with_reducible apply Blk.setb) | ((with_reducible apply Blk.newAt); (focus (simp; done))) | (with_reducible apply Blk.alloc) | (with_reducible apply Blk.drew))); all_goals (show @Eq (Array Value) _ _; rfl)), ⟨#[.int .i64 1], by ((repeat (first | (with_reducible assumption) | ((with_reducible apply Blk.farAt); (focus omega)) | (with_reducible apply Blk.setb) | ((with_reducible apply Blk.newAt); (focus (simp; done))) | (with_reducible apply Blk.alloc) | (with_reducible apply Blk.drew))); all_goals (show @Eq (Array Value) _ _; rfl)), rfl, Nat.le_refl _, by simp [maxLen], rfl⟩, ltE, ltQ, ((s4.setCell ltE _).setCell ltE _).setCell ltE _⟩
          · skip
            refine wpMT_l rfl rfl (fun K hK => ?_)
            go_simp
            refine hK.out _ _ (s2.alloc s2.size _) (fun _ => ?_)
            clear hK K
            refine world_gen (fun W => Blk W v2.heap.size 24 #[.string ⟨#[]⟩, .string ⟨#[]⟩, .slice none 0 0] ∧ Below w3.heap.size w3 W) ⟨by ((repeat (first | (with_reducible assumption) | ((with_reducible apply Blk.farAt); (focus omega)) | (with_reducible apply Blk.setb) | ((with_reducible apply Blk.newAt); (focus (simp; done))) | (with_reducible apply Blk.alloc) | (with_reducible apply Blk.drew))); all_goals (show @Eq (Array Value) _ _; rfl)), s2.alloc s2.size _⟩ ?_
            rintro v3 ⟨hE, s3⟩
            have ltE : w3.heap.size ≤ v2.heap.size := s2.size
            obtain ⟨gE, egE⟩ : ∃ q, v2.heap.size = q := ⟨_, rfl⟩
            rw [egE] at hE ltE ⊢
            have lt_of_gE : gE < v3.heap.size := hE.lt
            clear egE
            refine wpMT_l rfl rfl (fun K hK => ?_)
            go_simp
            refine hK.out _ _ (s3.alloc s3.size _) (fun _ => ?_)
            clear hK K
            refine world_gen (fun W => Blk W v3.heap.size 3 #[.int .i64 1] ∧ Blk W gE 24 #[.string ⟨#[]⟩, .string ⟨#[]⟩, .slice none 0 0] ∧ Below w3.heap.size w3 W) ⟨by ((repeat (first | (with_reducible assumption) | ((with_reducible apply Blk.farAt); (focus omega)) | (with_reducible apply Blk.setb) | ((with_reducible apply Blk.newAt); (focus (simp; done))) | (with_reducible apply Blk.alloc) | (with_reducible apply Blk.drew))); all_goals (show @Eq (Array Value) _ _; rfl)), by ((repeat (first | (with_reducible assumption) | ((with_reducible apply Blk.farAt); (focus omega)) | (with_reducible apply Blk.setb) | ((with_reducible apply Blk.newAt); (focus (simp; done))) | (with_reducible apply Blk.alloc) | (with_reducible apply Blk.drew))); all_goals (show @Eq (Array Value) _ _; rfl)), s3.alloc s3.size _⟩ ?_
            clear hE
            rintro v4 ⟨hQ, hE, s4⟩
            have ltQ : w3.heap.size ≤ v3.heap.size := s3.size
            have neQ : gE ≠ v3.heap.size := by have := lt_of_gE; omega
            obtain ⟨gQ, egQ⟩ : ∃ q, v3.heap.size = q := ⟨_, rfl⟩
            rw [egQ] at hQ ltQ neQ ⊢
            have neEQ : gE ≠ gQ := neQ
            have lt_of_gQ : gQ < v4.heap.size := hQ.lt
            clear egQ
            iterate 1 (refine wpMT_q rfl rfl (fun K hK => ?_); apply Exists.intro; refine ⟨fun w' hw' => ?_, ?_⟩; (focus (go_simp; try rfl)); go_simp; refine hK _ _ ?_; clear hK K)
            have y0 := hE.cell 0; have y1 := hE.cell 1; have y2 := hE.cell 2; have f0 := hE.frozen 0; have f1 := hE.frozen 1; have f2 := hE.frozen 2
            refine wpMT_t rfl rfl (fun K hK => ?_)
            go_simp
            refine hK.out _ _ ?_
            clear hK K
            refine wpMT_nil ?_
            go_wp2
            go_meet
            case rel => exact ⟨gE, gQ, rfl, by rw [HNM.out]; ((repeat (first | (with_reducible assumption) | ((with_reducible apply Blk.farAt); (focus omega)) | (with_reducible apply Blk.setb) | ((with_reducible apply Blk.newAt); (focus (simp; done))) | (with_reducible apply Blk.alloc) | (with_reducible apply Blk.drew))); all_goals (show @Eq (Array Value) _ _; rfl)), ⟨#[.int .i64 1], by ((repeat (first | (with_reducible assumption) | ((with_reducible apply Blk.farAt); (focus omega)) | (with_reducible apply Blk.setb) | ((with_reducible apply Blk.newAt); (focus (simp; done))) | (with_reducible apply Blk.alloc) | (with_reducible apply Blk.drew))); all_goals (show @Eq (Array Value) _ _; rfl)), rfl, Nat.le_refl _, by simp [maxLen], rfl⟩, ltE, ltQ, ((s4.setCell ltE _).setCell ltE _).setCell ltE _⟩
        · skip
          refine wpMT_l rfl rfl (fun K hK => ?_)
          go_simp
          refine hK.out _ _ (s1.alloc s1.size _) (fun _ => ?_)
          clear hK K
          refine world_gen (fun W => Blk W v1.heap.size 3 #[.int .i64 1] ∧ Below v1.heap.size v1 W ∧ Below w3.heap.size w3 W) ⟨by ((repeat (first | (with_reducible assumption) | ((with_reducible apply Blk.farAt); (focus omega)) | (with_reducible apply Blk.setb) | ((with_reducible apply Blk.newAt); (focus (simp; done))) | (with_reducible apply Blk.alloc) | (with_reducible apply Blk.drew))); all_goals (show @Eq (Array Value) _ _; rfl)), hcur.alloc hcur.size _, s1.alloc s1.size _⟩ ?_
          clear hcur
          rintro v2 ⟨hQ, hcur, s2⟩
          have ltQ : w3.heap.size ≤ v1.heap.size := s1.size
          obtain ⟨gQ, egQ⟩ : ∃ q, v1.heap.size = q := ⟨_, rfl⟩
          rw [egQ] at hQ ltQ ⊢
          have lt_of_gQ : gQ < v2.heap.size := hQ.lt
          clear egQ
          refine wpMT_two ?_ ?_
          · skip
            refine wpMT_l rfl rfl (fun K hK => ?_)
            go_simp
            refine (CT.out v2 hcur).mono ?_
            rintro r v3 ⟨rfl, hb3⟩
            dsimp only
            have s3 := below_then s2 hb3
            refine hK.out _ _ s3 (fun _ => ?_)
            clear hK K hcur CT
            replace hQ := hQ.below' hb3
            have lt_of_gQ := hQ.lt
            iterate 1 (refine wpMT_q rfl rfl (fun K hK => ?_); apply Exists.intro; refine ⟨fun w' hw' => ?_, ?_⟩; (focus (go_simp; try rfl)); go_simp; refine hK _ _ ?_; clear hK K)
            iterate 1 (refine wpMT_q rfl rfl (fun K hK => ?_); apply Exists.intro; refine ⟨fun w' hw' => ?_, ?_⟩; (focus (go_simp; try rfl)); go_simp; refine hK _ _ ?_; clear hK K)
            refine wpMT_l rfl rfl (fun K hK => ?_)
            go_simp
            refine hK.out _ _ (s3.alloc s3.size _) (fun _ => ?_)
            clear hK K
            refine world_gen (fun W => Blk W v3.heap.size 24 #[.string ⟨#[]⟩, .string ⟨#[]⟩, .slice none 0 0] ∧ Blk W gQ 3 #[.int .i64 1] ∧ Below w3.heap.size w3 W) ⟨by ((repeat (first | (with_reducible assumption) | ((with_reducible apply Blk.farAt); (focus omega)) | (with_reducible apply Blk.setb) | ((with_reducible apply Blk.newAt); (focus (simp; done))) | (with_reducible apply Blk.alloc) | (with_reducible apply Blk.drew))); all_goals (show @Eq (Array Value) _ _; rfl)), by ((repeat (first | (with_reducible assumption) | ((with_reducible apply Blk.farAt); (focus omega)) | (with_reducible apply Blk.setb) | ((with_reducible apply Blk.newAt); (focus (simp; done))) | (with_reducible apply Blk.alloc) | (with_reducible apply Blk.drew))); all_goals (show @Eq (Array Value) _ _; rfl)), s3.alloc s3.size _⟩ ?_
            clear hQ
            rintro v4 ⟨hE, hQ, s4⟩
            have ltE : w3.heap.size ≤ v3.heap.size := s3.size
            have neE : gQ ≠ v3.heap.size := by have := lt_of_gQ; omega
            obtain ⟨gE, egE⟩ : ∃ q, v3.heap.size = q := ⟨_, rfl⟩
            rw [egE] at hE ltE neE ⊢
            have neEQ : gE ≠ gQ := Ne.symm neE
            have lt_of_gE : gE < v4.heap.size := hE.lt
            clear egE
            have y0 := hE.cell 0; have y1 := hE.cell 1; have y2 := hE.cell 2; have f0 := hE.frozen 0; have f1 := hE.frozen 1; have f2 := hE.frozen 2
            refine wpMT_t rfl rfl (fun K hK => ?_)
            go_simp
            refine hK.out _ _ ?_
            clear hK K
            refine wpMT_nil ?_
            go_wp2
            go_meet
            case rel => exact ⟨gE, gQ, rfl, by rw [HNM.out]; ((repeat (first | (with_reducible assumption) | ((with_reducible apply Blk.farAt); (focus omega)) | (with_reducible apply Blk.setb) | ((with_reducible apply Blk.newAt); (focus (simp; done))) | (with_reducible apply Blk.alloc) | (with_reducible apply Blk.drew))); all_goals (show @Eq (Array Value) _ _; rfl)), ⟨#[.int .i64 1], by ((repeat (first | (with_reducible assumption) | ((with_reducible apply Blk.farAt); (focus omega)) | (with_reducible apply Blk.setb) | ((with_reducible apply Blk.newAt); (focus (simp; done))) | (with_reducible apply Blk.alloc) | (with_reducible apply Blk.drew))); all_goals (show @Eq (Array Value) _ _; rfl)), rfl, Nat.le_refl _, by simp [maxLen], rfl⟩, ltE, ltQ, ((s4.setCell ltE _).setCell ltE _).setCell ltE _⟩
          · skip
            refine wpMT_l rfl rfl (fun K hK => ?_)
            go_simp
            refine hK.out _ _ (s2.alloc s2.size _) (fun _ => ?_)
            clear hK K
            refine world_gen (fun W => Blk W v2.heap.size 24 #[.string ⟨#[]⟩, .string ⟨#[]⟩, .slice none 0 0] ∧ Blk W gQ 3 #[.int .i64 1] ∧ Below v1.heap.size v1 W ∧ Below w3.heap.size w3 W) ⟨by ((repeat (first | (with_reducible assumption) | ((with_reducible apply Blk.farAt); (focus omega)) | (with_reducible apply Blk.setb) | ((with_reducible apply Blk.newAt); (focus (simp; done))) | (with_reducible apply Blk.alloc) | (with_reducible apply Blk.drew))); all_goals (show @Eq (Array Value) _ _; rfl)), by ((repeat (first | (with_reducible assumption) | ((with_reducible apply Blk.farAt); (focus omega)) | (with_reducible apply Blk.setb) | ((with_reducible apply Blk.newAt); (focus (simp; done))) | (with_reducible apply Blk.alloc) | (with_reducible apply Blk.drew))); all_goals (show @Eq (Array Value) _ _; rfl)), hcur.alloc hcur.size _, s2.alloc s2.size _⟩ ?_
            clear hQ
            clear hcur
            rintro v3 ⟨hE, hQ, hcur, s3⟩
            have ltE : w3.heap.size ≤ v2.heap.size := s2.size
            have neE : gQ ≠ v2.heap.size := by have := lt_of_gQ; omega
            obtain ⟨gE, egE⟩ : ∃ q, v2.heap.size = q := ⟨_, rfl⟩
            rw [egE] at hE ltE neE ⊢
            have neEQ : gE ≠ gQ := Ne.symm neE
            have lt_of_gE : gE < v3.heap.size := hE.lt
            clear egE
            refine wpMT_l rfl rfl (fun K hK => ?_)
            go_simp
            refine (CT.out v3 hcur).mono ?_
            rintro r v4 ⟨rfl, hb4⟩
            dsimp only
            have s4 := below_then s3 hb4
            refine hK.out _ _ s4 (fun _ => ?_)
            clear hK K hcur CT
            replace hE := hE.below' hb4
            replace hQ := hQ.below' hb4
            have lt_of_gE := hE.lt
            have lt_of_gQ := hQ.lt
            iterate 1 (refine wpMT_q rfl rfl (fun K hK => ?_); apply Exists.intro; refine ⟨fun w' hw' => ?_, ?_⟩; (focus (go_simp; try rfl)); go_simp; refine hK _ _ ?_; clear hK K)
            iterate 1 (refine wpMT_q rfl rfl (fun K hK => ?_); apply Exists.intro; refine ⟨fun w' hw' => ?_, ?_⟩; (focus (go_simp; try rfl)); go_simp; refine hK _ _ ?_; clear hK K)
            have y0 := hE.cell 0; have y1 := hE.cell 1; have y2 := hE.cell 2; have f0 := hE.frozen 0; have f1 := hE.frozen 1; have f2 := hE.frozen 2
            refine wpMT_t rfl rfl (fun K hK => ?_)
            go_simp
            refine hK.out _ _ ?_
            clear hK K
            refine wpMT_nil ?_
            go_wp2
            go_meet
            case rel => exact ⟨gE, gQ, rfl, by rw [HNM.out]; ((repeat (first | (with_reducible assumption) | ((with_reducible apply Blk.farAt); (focus omega)) | (with_reducible apply Blk.setb) | ((with_reducible apply Blk.newAt); (focus (simp; done))) | (with_reducible apply Blk.alloc) | (with_reducible apply Blk.drew))); all_goals (show @Eq (Array Value) _ _; rfl)), ⟨#[.int .i64 1], by ((repeat (first | (with_reducible assumption) | ((with_reducible apply Blk.farAt); (focus omega)) | (with_reducible apply Blk.setb) | ((with_reducible apply Blk.newAt); (focus (simp; done))) | (with_reducible apply Blk.alloc) | (with_reducible apply Blk.drew))); all_goals (show @Eq (Array Value) _ _; rfl)), rfl, Nat.le_refl _, by simp [maxLen], rfl⟩, ltE, ltQ, ((s4.setCell ltE _).setCell ltE _).setCell ltE _⟩
        · skip
          refine wpMT_l rfl rfl (fun K hK => ?_)
          go_simp
          refine hK.out _ _ (s1.alloc s1.size _) (fun _ => ?_)
          clear hK K
          refine world_gen (fun W => Blk W v1.heap.size 24 #[.string ⟨#[]⟩, .string ⟨#[]⟩, .slice none 0 0] ∧ Below v1.heap.size v1 W ∧ Below w3.heap.size w3 W) ⟨by ((repeat (first | (with_reducible assumption) | ((with_reducible apply Blk.farAt); (focus omega)) | (with_reducible apply Blk.setb) | ((with_reducible apply Blk.newAt); (focus (simp; done))) | (with_reducible apply Blk.alloc) | (with_reducible apply Blk.drew))); all_goals (show @Eq (Array Value) _ _; rfl)), hcur.alloc hcur.size _, s1.alloc s1.size _⟩ ?_
          clear hcur
          rintro v2 ⟨hE, hcur, s2⟩
          have ltE : w3.heap.size ≤ v1.heap.size := s1.size
          obtain ⟨gE, egE⟩ : ∃ q, v1.heap.size = q := ⟨_, rfl⟩
          rw [egE] at hE ltE ⊢
          have lt_of_gE : gE < v2.heap.size := hE.lt
          clear egE
          refine wpMT_two ?_ ?_
          · skip
            refine wpMT_l rfl rfl (fun K hK => ?_)
            go_simp
            refine (CT.out v2 hcur).mono ?_
            rintro r v3 ⟨rfl, hb3⟩
            dsimp only
            have s3 := below_then s2 hb3
            refine hK.out _ _ s3 (fun _ => ?_)
            clear hK K hcur CT
            replace hE := hE.below' hb3
            have lt_of_gE := hE.lt
            iterate 1 (refine wpMT_q rfl rfl (fun K hK => ?_); apply Exists.intro; refine ⟨fun w' hw' => ?_, ?_⟩; (focus (go_simp; try rfl)); go_simp; refine hK _ _ ?_; clear hK K)
            refine wpMT_l rfl rfl (fun K hK => ?_)
            go_simp
            refine hK.out _ _ (s3.alloc s3.size _) (fun _ => ?_)
            clear hK K
            refine world_gen (fun W => Blk W v3.heap.size 3 #[.int .i64 1] ∧ Blk W gE 24 #[.string ⟨#[]⟩, .string ⟨#[]⟩, .slice none 0 0] ∧ Below w3.heap.size w3 W) ⟨by ((repeat (first | (with_reducible assumption) | ((with_reducible apply Blk.farAt); (focus omega)) | (with_reducible apply Blk.setb) | ((with_reducible apply Blk.newAt); (focus (simp; done))) | (with_reducible apply Blk.alloc) | (with_reducible apply Blk.drew))); all_goals (show @Eq (Array Value) _ _; rfl)), by ((repeat (first | (with_reducible assumption) | ((with_reducible apply Blk.farAt); (focus omega)) | (with_reducible apply Blk.setb) | ((with_reducible apply Blk.newAt); (focus (simp; done))) | (with_reducible apply Blk.alloc) | (with_reducible apply Blk.drew))); all_goals (show @Eq (Array Value) _ _; rfl)), s3.alloc s3.size _⟩ ?_
            clear hE
            rintro v4 ⟨hQ, hE, s4⟩
            have ltQ : w3.heap.size ≤ v3.heap.size := s3.size
            have neQ : gE ≠ v3.heap.size := by have := lt_of_gE; omega
            obtain ⟨gQ, egQ⟩ : ∃ q, v3.heap.size = q := ⟨_, rfl⟩
            rw [egQ] at hQ ltQ neQ ⊢
            have neEQ : gE ≠ gQ := neQ
            have lt_of_gQ : gQ < v4.heap.size := hQ.lt
            clear egQ
            iterate 1 (refine wpMT_q rfl rfl (fun K hK => ?_); apply Exists.intro; refine ⟨fun w' hw' => ?_, ?_⟩; (focus (go_simp; try rfl)); go_simp; refine hK _ _ ?_; clear hK K)
            have y0 := hE.cell 0; have y1 := hE.cell 1; have y2 := hE.cell 2; have f0 := hE.frozen 0; have f1 := hE.frozen 1; have f2 := hE.frozen 2
            refine wpMT_t rfl rfl (fun K hK => ?_)
            go_simp
            refine hK.out _ _ ?_
            clear hK K
            refine wpMT_nil ?_
            go_wp2
            go_meet
            case rel => exact ⟨gE, gQ, rfl, by rw [HNM.out]; ((repeat (first | (with_reducible assumption) | ((with_reducible apply Blk.farAt); (focus omega)) | (with_reducible apply Blk.setb) | ((with_reducible apply Blk.newAt); (focus (simp; done))) | (with_reducible apply Blk.alloc) | (with_reducible apply Blk.drew))); all_goals (show @Eq (Array Value) _ _; rfl)), ⟨#[.int .i64 1], by ((repeat (first | (with_reducible assumption) | ((with_reducible apply Blk.farAt); (focus omega)) | (with_reducible apply Blk.setb) | ((with_reducible apply Blk.newAt); (focus (simp; done))) | (with_reducible apply Blk.alloc) | (with_reducible apply Blk.drew))); all_goals (show @Eq (Array Value) _ _; rfl)), rfl, Nat.le_refl _, by simp [maxLen], rfl⟩, ltE, ltQ, ((s4.setCell ltE _).setCell ltE _).setCell ltE _⟩
          · skip
            refine wpMT_l rfl rfl (fun K hK => ?_)
            go_simp
            refine hK.out _ _ (s2.alloc s2.size _) (fun _ => ?_)
            clear hK K
            refine world_gen (fun W => Blk W v2.heap.size 3 #[.int .i64 1] ∧ Blk W gE 24 #[.string ⟨#[]⟩, .string ⟨#[]⟩, .slice none 0 0] ∧ Below v1.heap.size v1 W ∧ Below w3.heap.size w3 W) ⟨by ((repeat (first | (with_reducible assumption) | ((with_reducible apply Blk.farAt); (focus omega)) | (with_reducible apply Blk.setb) | ((with_reducible apply Blk.newAt); (focus (simp; done))) | (with_reducible apply Blk.alloc) | (with_reducible apply Blk.drew))); all_goals (show @Eq (Array Value) _ _; rfl)), by ((repeat (first | (with_reducible assumption) | ((with_reducible apply Blk.farAt); (focus omega)) | (with_reducible apply Blk.setb) | ((with_reducible apply Blk.newAt); (focus (simp; done))) | (with_reducible apply Blk.alloc) | (with_reducible apply Blk.drew))); all_goals (show @Eq (Array Value) _ _; rfl)), hcur.alloc hcur.size _, s2.alloc s2.size _⟩ ?_
            clear hE
            clear hcur
            rintro v3 ⟨hQ, hE, hcur, s3⟩
            have ltQ : w3.heap.size ≤ v2.heap.size := s2.size
            have neQ : gE ≠ v2.heap.size := by have := lt_of_gE; omega
            obtain ⟨gQ, egQ⟩ : ∃ q, v2.heap.size = q := ⟨_, rfl⟩
            rw [egQ] at hQ ltQ neQ ⊢
            have neEQ : gE ≠ gQ := neQ
            have lt_of_gQ : gQ < v3.heap.size := hQ.lt
            clear egQ
            refine wpMT_l rfl rfl (fun K hK => ?_)
            go_simp
            refine (CT.out v3 hcur).mono ?_
            rintro r v4 ⟨rfl, hb4⟩
            dsimp only
            have s4 := below_then s3 hb4
            refine hK.out _ _ s4 (fun _ => ?_)
            clear hK K hcur CT
            replace hE := hE.below' hb4
            replace hQ := hQ.below' hb4
            have lt_of_gE := hE.lt
            have lt_of_gQ := hQ.lt
            iterate 1 (refine wpMT_q rfl rfl (fun K hK => ?_); apply Exists.intro; refine ⟨fun w' hw' => ?_, ?_⟩; (focus (go_simp; try rfl)); go_simp; refine hK _ _ ?_; clear hK K)
            iterate 1 (refine wpMT_q rfl rfl (fun K hK => ?_); apply Exists.intro; refine ⟨fun w' hw' => ?_, ?_⟩; (focus (go_simp; try rfl)); go_simp; refine hK _ _ ?_; clear hK K)
            have y0 := hE.cell 0; have y1 := hE.cell 1; have y2 := hE.cell 2; have f0 := hE.frozen 0; have f1 := hE.frozen 1; have f2 := hE.frozen 2
            refine wpMT_t rfl rfl (fun K hK => ?_)
            go_simp
            refine hK.out _ _ ?_
            clear hK K
            refine wpMT_nil ?_
            go_wp2
            go_meet
            case rel => exact ⟨gE, gQ, rfl, by rw [HNM.out]; ((repeat (first | (with_reducible assumption) | ((with_reducible apply Blk.farAt); (focus omega)) | (with_reducible apply Blk.setb) | ((with_reducible apply Blk.newAt); (focus (simp; done))) | (with_reducible apply Blk.alloc) | (with_reducible apply Blk.drew))); all_goals (show @Eq (Array Value) _ _; rfl)), ⟨#[.int .i64 1], by ((repeat (first | (with_reducible assumption) | ((with_reducible apply Blk.farAt); (focus omega)) | (with_reducible apply Blk.setb) | ((with_reducible apply Blk.newAt); (focus (simp; done))) | (with_reducible apply Blk.alloc) | (with_reducible apply Blk.drew))); all_goals (show @Eq (Array Value) _ _; rfl)), rfl, Nat.le_refl _, by simp [maxLen], rfl⟩, ltE, ltQ, ((s4.setCell ltE _).setCell ltE _).setCell ltE _⟩
      · skip
        refine wpMT_l rfl rfl (fun K hK => ?_)
        go_simp
        refine hK.out _ _ (s0.alloc s0.size _) (fun _ => ?_)
        clear hK K
        refine world_gen (fun W => Blk W v0.heap.size 3 #[.int .i64 1] ∧ Below w3.heap.size w3 W) ⟨by ((repeat (first | (with_reducible assumption) | ((with_reducible apply Blk.farAt); (focus omega)) | (with_reducible apply Blk.setb) | ((with_reducible apply Blk.newAt); (focus (simp; done))) | (with_reducible apply Blk.alloc) | (with_reducible apply Blk.drew))); all_goals (show @Eq (Array Value) _ _; rfl)), s0.alloc s0.size _⟩ ?_
        rintro v1 ⟨hQ, s1⟩
        have ltQ : w3.heap.size ≤ v0.heap.size := s0.size
        obtain ⟨gQ, egQ⟩ : ∃ q, v0.heap.size = q := ⟨_, rfl⟩
        rw [egQ] at hQ ltQ ⊢
        have lt_of_gQ : gQ < v1.heap.size := hQ.lt
        clear egQ
        refine wpMT_two ?_ ?_
        · skip
          refine wpMT_l rfl rfl (fun K hK => ?_)
          go_simp
          refine (CO.out v1).mono ?_
          rintro r v2 ⟨na, nc, da, dc, rfl, hN, hD, hb2⟩
          dsimp only
          have s2 := below_then s1 hb2
          refine hK.out _ _ s2 (fun _ => ?_)
          clear hK K
          have CT := Lib.hid (fun W (hW : Below v2.heap.size v2 W) => CTX.out na nc da dc W (hN W ((New.refl _ _).below hW)) (hD W ((New.refl _ _).below hW)))
          clear hN hD
          have hcur : Below v2.heap.size v2 v2 := Below.refl _ _
          replace hQ := hQ.below' hb2
          have lt_of_gQ := hQ.lt
          refine wpMT_two ?_ ?_
          · skip
            refine wpMT_l rfl rfl (fun K hK => ?_)
            go_simp
            refine (CT.out v2 hcur).mono ?_
            rintro r v3 ⟨rfl, hb3⟩
            dsimp only
            have s3 := below_then s2 hb3
            refine hK.out _ _ s3 (fun _ => ?_)
            clear hK K hcur CT
            replace hQ := hQ.below' hb3
            have lt_of_gQ := hQ.lt
            iterate 1 (refine wpMT_q rfl rfl (fun K hK => ?_); apply Exists.intro; refine ⟨fun w' hw' => ?_, ?_⟩; (focus (go_simp; try rfl)); go_simp; refine hK _ _ ?_; clear hK K)
            iterate 1 (refine wpMT_q rfl rfl (fun K hK => ?_); apply Exists.intro; refine ⟨fun w' hw' => ?_, ?_⟩; (focus (go_simp; try rfl)); go_simp; refine hK _ _ ?_; clear hK K)
            refine wpMT_l rfl rfl (fun K hK => ?_)
            go_simp
            refine hK.out _ _ (s3.alloc s3.size _) (fun _ => ?_)
            clear hK K
            refine world_gen (fun W => Blk W v3.heap.size 24 #[.string ⟨#[]⟩, .string ⟨#[]⟩, .slice none 0 0] ∧ Blk W gQ 3 #[.int .i64 1] ∧ Below w3.heap.size w3 W) ⟨by ((repeat (first | (with_reducible assumption) | ((with_reducible apply Blk.farAt); (focus omega)) | (with_reducible apply Blk.setb) | ((with_reducible apply Blk.newAt); (focus (simp; done))) | (with_reducible apply Blk.alloc) | (with_reducible apply Blk.drew))); all_goals (show @Eq (Array Value) _ _; rfl)), by ((repeat (first | (with_reducible assumption) | ((with_reducible apply Blk.farAt); (focus omega)) | (with_reducible apply Blk.setb) | ((with_reducible apply Blk.newAt); (focus (simp; done))) | (with_reducible apply Blk.alloc) | (with_reducible apply Blk.drew))); all_goals (show @Eq (Array Value) _ _; rfl)), s3.alloc s3.size _⟩ ?_
            clear hQ
            rintro v4 ⟨hE, hQ, s4⟩
            have ltE : w3.heap.size ≤ v3.heap.size := s3.size
            have neE : gQ ≠ v3.heap.size := by have := lt_of_gQ; omega
            obtain ⟨gE, egE⟩ : ∃ q, v3.heap.size = q := ⟨_, rfl⟩
            rw [egE] at hE ltE neE ⊢
            have neEQ : gE ≠ gQ := Ne.symm neE
            have lt_of_gE : gE < v4.heap.size := hE.lt
            clear egE
            have y0 := hE.cell 0; have y1 := hE.cell 1; have y2 := hE.cell 2; have f0 := hE.frozen 0; have f1 := hE.frozen 1; have f2 := hE.frozen 2
            refine wpMT_t rfl rfl (fun K hK => ?_)
            go_simp
            refine hK.out _ _ ?_
            clear hK K
            refine wpMT_nil ?_
            go_wp2
            go_meet
            case rel => exact ⟨gE, gQ, rfl, by rw [HNM.out]; ((repeat (first | (with_reducible assumption) | ((with_reducible apply Blk.farAt); (focus omega)) | (with_reducible apply Blk.setb) | ((with_reducible apply Blk.newAt); (focus (simp; done))) | (with_reducible apply Blk.alloc) | (with_reducible apply Blk.drew))); all_goals (show @Eq (Array Value) _ _; rfl)), ⟨#[.int .i64 1], by ((repeat (first | (with_reducible assumption) | ((with_reducible apply Blk.farAt); (focus omega)) | (with_reducible apply Blk.setb) | ((with_reducible apply Blk.newAt); (focus (simp; done))) | (with_reducible apply Blk.alloc) | (with_reducible apply Blk.drew))); all_goals (show @Eq (Array Value) _ _; rfl)), rfl, Nat.le_refl _, by simp [maxLen], rfl⟩, ltE, ltQ, ((s4.setCell ltE _).setCell ltE _).setCell ltE _⟩
          · skip
            refine wpMT_l rfl rfl (fun K hK => ?_)
            go_simp
            refine hK.out _ _ (s2.alloc s2.size _) (fun _ => ?_)
            clear hK K
            refine world_gen (fun W => Blk W v2.heap.size 24 #[.string ⟨#[]⟩, .string ⟨#[]⟩, .slice none 0 0] ∧ Blk W gQ 3 #[.int .i64 1] ∧ Below v2.heap.size v2 W ∧ Below w3.heap.size w3 W) ⟨by ((repeat (first | (with_reducible assumption) | ((with_reducible apply Blk.farAt); (focus omega)) | (with_reducible apply Blk.setb) | ((with_reducible apply Blk.newAt); (focus (simp; done))) | (with_reducible apply Blk.alloc) | (with_reducible apply Blk.drew))); all_goals (show @Eq (Array Value) _ _; rfl)), by ((repeat (first | (with_reducible assumption) | ((with_reducible apply Blk.farAt); (focus omega)) | (with_reducible apply Blk.setb) | ((with_reducible apply Blk.newAt); (focus (simp; done))) | (with_reducible apply Blk.alloc) | (with_reducible apply Blk.drew))); all_goals (show @Eq (Array Value) _ _; rfl)), hcur.alloc hcur.size _, s2.alloc s2.size _⟩ ?_
            clear hQ
            clear hcur
            rintro v3 ⟨hE, hQ, hcur, s3⟩
            have ltE : w3.heap.size ≤ v2.heap.size := s2.size
            have neE : gQ ≠ v2.heap.size := by have := lt_of_gQ; omega
            obtain ⟨gE, egE⟩ : ∃ q, v2.heap.size = q := ⟨_, rfl⟩
            rw [egE] at hE ltE neE ⊢
            have neEQ : gE ≠ gQ := Ne.symm neE
            have lt_of_gE : gE < v3.heap.size := hE.lt
            clear egE
            refine wpMT_l rfl rfl (fun K hK => ?_)
            go_simp
            refine (CT.out v3 hcur).mono ?_
            rintro r v4 ⟨rfl, hb4⟩
            dsimp only
            have s4 := below_then s3 hb4
            refine hK.out _ _ s4 (fun _ => ?_)
            clear hK K hcur CT
            replace hE := hE.below' hb4
            replace hQ := hQ.below' hb4
            have lt_of_gE := hE.lt
            have lt_of_gQ := hQ.lt
            iterate 1 (refine wpMT_q rfl rfl (fun K hK => ?_); apply Exists.intro; refine ⟨fun w' hw' => ?_, ?_⟩; (focus (go_simp; try rfl)); go_simp; refine hK _ _ ?_; clear hK K)
            iterate 1 (refine wpMT_q rfl rfl (fun K hK => ?_); apply Exists.intro; refine ⟨fun w' hw' => ?_, ?_⟩; (focus (go_simp; try rfl)); go_simp; refine hK _ _ ?_; clear hK K)
            have y0 := hE.cell 0; have y1 := hE.cell 1; have y2 := hE.cell 2; have f0 := hE.frozen 0; have f1 := hE.frozen 1; have f2 := hE.frozen 2
            refine wpMT_t rfl rfl (fun K hK => ?_)
            go_simp
            refine hK.out _ _ ?_
            clear hK K
            refine wpMT_nil ?_
            go_wp2
            go_meet
            case rel => exact ⟨gE, gQ, rfl, by rw [HNM.out]; ((repeat (first | (with_reducible assumption) | ((with_reducible apply Blk.farAt); (focus omega)) | (with_reducible apply Blk.setb) | ((with_reducible apply Blk.newAt); (focus (simp; done))) | (with_reducible apply Blk.alloc) | (with_reducible apply Blk.drew))); all_goals (show @Eq (Array Value) _ _; rfl)), ⟨#[.int .i64 1], by ((repeat (first | (with_reducible assumption) | ((with_reducible apply Blk.farAt); (focus omega)) | (with_reducible apply Blk.setb) | ((with_reducible apply Blk.newAt); (focus (simp; done))) | (with_reducible apply Blk.alloc) | (with_reducible apply Blk.drew))); all_goals (show @Eq (Array Value) _ _; rfl)), rfl, Nat.le_refl _, by simp [maxLen], rfl⟩, ltE, ltQ, ((s4.setCell ltE _).setCell ltE _).setCell ltE _⟩
        · skip
          refine wpMT_l rfl rfl (fun K hK => ?_)
          go_simp
          refine hK.out _ _ (s1.alloc s1.size _) (fun _ => ?_)
          clear hK K
          refine world_gen (fun W => Blk W v1.heap.size 24 #[.string ⟨#[]⟩, .string ⟨#[]⟩, .slice none 0 0] ∧ Blk W gQ 3 #[.int .i64 1] ∧ Below w3.heap.size w3 W) ⟨by ((repeat (first | (with_reducible assumption) | ((with_reducible apply Blk.farAt); (focus omega)) | (with_reducible apply Blk.setb) | ((with_reducible apply Blk.newAt); (focus (simp; done))) | (with_reducible apply Blk.alloc) | (with_reducible apply Blk.drew))); all_goals (show @Eq (Array Value) _ _; rfl)), by ((repeat (first | (with_reducible assumption) | ((with_reducible apply Blk.farAt); (focus omega)) | (with_reducible apply Blk.setb) | ((with_reducible apply Blk.newAt); (focus (simp; done))) | (with_reducible apply Blk.alloc) | (with_reducible apply Blk.drew))); all_goals (show @Eq (Array Value) _ _; rfl)), s1.alloc s1.size _⟩ ?_
          clear hQ
          rintro v2 ⟨hE, hQ, s2⟩
          have ltE : w3.heap.size ≤ v1.heap.size := s1.size
          have neE : gQ ≠ v1.heap.size := by have := lt_of_gQ; omega
          obtain ⟨gE, egE⟩ : ∃ q, v1.heap.size = q := ⟨_, rfl⟩
          rw [egE] at hE ltE neE ⊢
          have neEQ : gE ≠ gQ := Ne.symm neE
          have lt_of_gE : gE < v2.heap.size := hE.lt
          clear egE
          refine wpMT_l rfl rfl (fun K hK => ?_)
          go_simp
          refine (CO.out v2).mono ?_
          rintro r v3 ⟨na, nc, da, dc, rfl, hN, hD, hb3⟩
          dsimp only
          have s3 := below_then s2 hb3
          refine hK.out _ _ s3 (fun _ => ?_)
          clear hK K
          have CT := Lib.hid (fun W (hW : Below v3.heap.size v3 W) => CTX.out na nc da dc W (hN W ((New.refl _ _).below hW)) (hD W ((New.refl _ _).below hW)))
          clear hN hD
          have hcur : Below v3.heap.size v3 v3 := Below.refl _ _
          replace hE := hE.below' hb3
          replace hQ := hQ.below' hb3
          have lt_of_gE := hE.lt
          have lt_of_gQ := hQ.lt
          refine wpMT_l rfl rfl (fun K hK => ?_)
          go_simp
          refine (CT.out v3 hcur).mono ?_
          rintro r v4 ⟨rfl, hb4⟩
          dsimp only
          have s4 := below_then s3 hb4
          refine hK.out _ _ s4 (fun _ => ?_)
          clear hK K hcur CT
          replace hE := hE.below' hb4
          replace hQ := hQ.below' hb4
          have lt_of_gE := hE.lt
          have lt_of_gQ := hQ.lt
          iterate 1 (refine wpMT_q rfl rfl (fun K hK => ?_); apply Exists.intro; refine ⟨fun w' hw' => ?_, ?_⟩; (focus (go_simp; try rfl)); go_simp; refine hK _ _ ?_; clear hK K)
          iterate 1 (refine wpMT_q rfl rfl (fun K hK => ?_); apply Exists.intro; refine ⟨fun w' hw' => ?_, ?_⟩; (focus (go_simp; try rfl)); go_simp; refine hK _ _ ?_; clear hK K)
          have y0 := hE.cell 0; have y1 := hE.cell 1; have y2 := hE.cell 2; have f0 := hE.frozen 0; have f1 := hE.frozen 1; have f2 := hE.frozen 2
          refine wpMT_t rfl rfl (fun K hK => ?_)
          go_simp
          refine hK.out _ _ ?_
          clear hK K
          refine wpMT_nil ?_
          go_wp2
          go_meet
          case rel => exact ⟨gE, gQ, rfl, by rw [HNM.out]; ((repeat (first | (with_reducible assumption) | ((with_reducible apply Blk.farAt); (focus omega)) | (with_reducible apply Blk.setb) | ((with_reducible apply Blk.newAt); (focus (simp; done))) | (with_reducible apply Blk.alloc) | (with_reducible apply Blk.drew))); all_goals (show @Eq (Array Value) _ _; rfl)), ⟨#[.int .i64 1], by ((repeat (first | (with_reducible assumption) | ((with_reducible apply Blk.farAt); (focus omega)) | (with_reducible apply Blk.setb) | ((with_reducible apply Blk.newAt); (focus (simp; done))) | (with_reducible apply Blk.alloc) | (with_reducible apply Blk.drew))); all_goals (show @Eq (Array Value) _ _; rfl)), rfl, Nat.le_refl _, by simp [maxLen], rfl⟩, ltE, ltQ, ((s4.setCell ltE _).setCell ltE _).setCell ltE _⟩
      · skip
        refine wpMT_l rfl rfl (fun K hK => ?_)
        go_simp
        refine hK.out _ _ (s0.alloc s0.size _) (fun _ => ?_)
        clear hK K
        refine world_gen (fun W => Blk W v0.heap.size 24 #[.string ⟨#[]⟩, .string ⟨#[]⟩, .slice none 0 0] ∧ Below w3.heap.size w3 W) ⟨by ((repeat (first | (with_reducible assumption) | ((with_reducible apply Blk.farAt); (focus omega)) | (with_reducible apply Blk.setb) | ((with_reducible apply Blk.newAt); (focus (simp; done))) | (with_reducible apply Blk.alloc) | (with_reducible apply Blk.drew))); all_goals (show @Eq (Array Value) _ _; rfl)), s0.alloc s0.size _⟩ ?_
        rintro v1 ⟨hE, s1⟩
        have ltE : w3.heap.size ≤ v0.heap.size := s0.size
        obtain ⟨gE, egE⟩ : ∃ q, v0.heap.size = q := ⟨_, rfl⟩
        rw [egE] at hE ltE ⊢
        have lt_of_gE : gE < v1.heap.size := hE.lt
        clear egE
        refine wpMT_two ?_ ?_
        · skip
          refine wpMT_l rfl rfl (fun K hK => ?_)
          go_simp
          refine (CO.out v1).mono ?_
          rintro r v2 ⟨na, nc, da, dc, rfl, hN, hD, hb2⟩
          dsimp only
          have s2 := below_then s1 hb2
          refine hK.out _ _ s2 (fun _ => ?_)
          clear hK K
          have CT := Lib.hid (fun W (hW : Below v2.heap.size v2 W) => CTX.out na nc da dc W (hN W ((New.refl _ _).below hW)) (hD W ((New.refl _ _).below hW)))
          clear hN hD
          have hcur : Below v2.heap.size v2 v2 := Below.refl _ _
          replace hE := hE.below' hb2
          have lt_of_gE := hE.lt
          refine wpMT_two ?_ ?_
          · skip
            refine wpMT_l rfl rfl (fun K hK => ?_)
            go_simp
            refine (CT.out v2 hcur).mono ?_
            rintro r v3 ⟨rfl, hb3⟩
            dsimp only
            have s3 := below_then s2 hb3
            refine hK.out _ _ s3 (fun _ => ?_)
            clear hK K hcur CT
            replace hE := hE.below' hb3
            have lt_of_gE := hE.lt
            iterate 1 (refine wpMT_q rfl rfl (fun K hK => ?_); apply Exists.intro; refine ⟨fun w' hw' => ?_, ?_⟩; (focus (go_simp; try rfl)); go_simp; refine hK _ _ ?_; clear hK K)
            refine wpMT_l rfl rfl (fun K hK => ?_)
            go_simp
            refine hK.out _ _ (s3.alloc s3.size _) (fun _ => ?_)
            clear hK K
            refine world_gen (fun W => Blk W v3.heap.size 3 #[.int .i64 1] ∧ Blk W gE 24 #[.string ⟨#[]⟩, .string ⟨#[]⟩, .slice none 0 0] ∧ Below w3.heap.size w3 W) ⟨by ((repeat (first | (with_reducible assumption) | ((with_reducible apply Blk.farAt); (focus omega)) | (with_reducible apply Blk.setb) | ((with_reducible apply Blk.newAt); (focus (simp; done))) | (with_reducible apply Blk.alloc) | (with_reducible apply Blk.drew))); all_goals (show @Eq (Array Value) _ _; rfl)), by ((repeat (first | (with_reducible assumption) | ((with_reducible apply Blk.farAt); (focus omega)) | (with_reducible apply Blk.setb) | ((with_reducible apply Blk.newAt); (focus (simp; done))) | (with_reducible apply Blk.alloc) | (with_reducible apply Blk.drew))); all_goals (show @Eq (Array Value) _ _; rfl)), s3.alloc s3.size _⟩ ?_
            clear hE
            rintro v4 ⟨hQ, hE, s4⟩
            have ltQ : w3.heap.size ≤ v3.heap.size := s3.size
            have neQ : gE ≠ v3.heap.size := by have := lt_of_gE; omega
            obtain ⟨gQ, egQ⟩ : ∃ q, v3.heap.size = q := ⟨_, rfl⟩
            rw [egQ] at hQ ltQ neQ ⊢
            have neEQ : gE ≠ gQ := neQ
            have lt_of_gQ : gQ < v4.heap.size := hQ.lt
            clear egQ
            iterate 1 (refine wpMT_q rfl rfl (fun K hK => ?_); apply Exists.intro; refine ⟨fun w' hw' => ?_, ?_⟩; (focus (go_simp; try rfl)); go_simp; refine hK _ _ ?_; clear hK K)
            have y0 := hE.cell 0; have y1 := hE.cell 1; have y2 := hE.cell 2; have f0 := hE.frozen 0; have f1 := hE.frozen 1; have f2 := hE.frozen 2
            refine wpMT_t rfl rfl (fun K hK => ?_)
            go_simp
            refine hK.out _ _ ?_
            clear hK K
            refine wpMT_nil ?_
            go_wp2
            go_meet
            case rel => exact ⟨gE, gQ, rfl, by rw [HNM.out]; ((repeat (first | (with_reducible assumption) | ((with_reducible apply Blk.farAt); (focus omega)) | (with_reducible apply Blk.setb) | ((with_reducible apply Blk.newAt); (focus (simp; done))) | (with_reducible apply Blk.alloc) | (with_reducible apply Blk.drew))); all_goals (show @Eq (Array Value) _ _; rfl)), ⟨#[.int .i64 1], by ((repeat (first | (with_reducible assumption) | ((with_reducible apply Blk.farAt); (focus omega)) | (with_reducible apply Blk.setb) | ((with_reducible apply Blk.newAt); (focus (simp; done))) | (with_reducible apply Blk.alloc) | (with_reducible apply Blk.drew))); all_goals (show @Eq (Array Value) _ _; rfl)), rfl, Nat.le_refl _, by simp [maxLen], rfl⟩, ltE, ltQ, ((s4.setCell ltE _).setCell ltE _).setCell ltE _⟩
          · skip
            refine wpMT_l rfl rfl (fun K hK => ?_)
            go_simp
            refine hK.out _ _ (s2.alloc s2.size _) (fun _ => ?_)
            clear hK K
            refine world_gen (fun W => Blk W v2.heap.size 3 #[.int .i64 1] ∧ Blk W gE 24 #[.string ⟨#[]⟩, .string ⟨#[]⟩, .slice none 0 0] ∧ Below v2.heap.size v2 W ∧ Below w3.heap.size w3 W) ⟨by ((repeat (first | (with_reducible assumption) | ((with_reducible apply Blk.farAt); (focus omega)) | (with_reducible apply Blk.setb) | ((with_reducible apply Blk.newAt); (focus (simp; done))) | (with_reducible apply Blk.alloc) | (with_reducible apply Blk.drew))); all_goals (show @Eq (Array Value) _ _; rfl)), by ((repeat (first | (with_reducible assumption) | ((with_reducible apply Blk.farAt); (focus omega)) | (with_reducible apply Blk.setb) | ((with_reducible apply Blk.newAt); (focus (simp; done))) | (with_reducible apply Blk.alloc) | (with_reducible apply Blk.drew))); all_goals (show @Eq (Array Value) _ _; rfl)), hcur.alloc hcur.size _, s2.alloc s2.size _⟩ ?_
            clear hE
            clear hcur
            rintro v3 ⟨hQ, hE, hcur, s3⟩
            have ltQ : w3.heap.size ≤ v2.heap.size := s2.size
            have neQ : gE ≠ v2.heap.size := by have := lt_of_gE; omega
            obtain ⟨gQ, egQ⟩ : ∃ q, v2.heap.size = q := ⟨_, rfl⟩
            rw [egQ] at hQ ltQ neQ ⊢
            have neEQ : gE ≠ gQ := neQ
            have lt_of_gQ : gQ < v3.heap.size := hQ.lt
            clear egQ
            refine wpMT_l rfl rfl (fun K hK => ?_)
            go_simp
            refine (CT.out v3 hcur).mono ?_
            rintro r v4 ⟨rfl, hb4⟩
            dsimp only
            have s4 := below_then s3 hb4
            refine hK.out _ _ s4 (fun _ => ?_)
            clear hK K hcur CT
            replace hE := hE.below' hb4
            replace hQ := hQ.below' hb4
            have lt_of_gE := hE.lt
            have lt_of_gQ := hQ.lt
            iterate 1 (refine wpMT_q rfl rfl (fun K hK => ?_); apply Exists.intro; refine ⟨fun w' hw' => ?_, ?_⟩; (focus (go_simp; try rfl)); go_simp; refine hK _ _ ?_; clear hK K)
            iterate 1 (refine wpMT_q rfl rfl (fun K hK => ?_); apply Exists.intro; refine ⟨fun w' hw' => ?_, ?_⟩; (focus (go_simp; try rfl)); go_simp; refine hK _ _ ?_; clear hK K)
            have y0 := hE.cell 0; have y1 := hE.cell 1; have y2 := hE.cell 2; have f0 := hE.frozen 0; have f1 := hE.frozen 1; have f2 := hE.frozen 2
            refine wpMT_t rfl rfl (fun K hK => ?_)
            go_simp
            refine hK.out _ _ ?_
            clear hK K
            refine wpMT_nil ?_
            go_wp2
            go_meet
            case rel => exact ⟨gE, gQ, rfl, by rw [HNM.out]; ((repeat (first | (with_reducible assumption) | ((with_reducible apply Blk.farAt); (focus omega)) | (with_reducible apply Blk.setb) | ((with_reducible apply Blk.newAt); (focus (simp; done))) | (with_reducible apply Blk.alloc) | (with_reducible apply Blk.drew))); all_goals (show @Eq (Array Value) _ _; rfl)), ⟨#[.int .i64 1], by ((repeat (first | (with_reducible assumption) | ((with_reducible apply Blk.farAt); (focus omega)) | (with_reducible apply Blk.setb) | ((with_reducible apply Blk.newAt); (focus (simp; done))) | (with_reducible apply Blk.alloc) | (with_reducible apply Blk.drew))); all_goals (show @Eq (Array Value) _ _; rfl)), rfl, Nat.le_refl _, by simp [maxLen], rfl⟩, ltE, ltQ, ((s4.setCell ltE _).setCell ltE _).setCell ltE _⟩
        · skip
          refine wpMT_l rfl rfl (fun K hK => ?_)
          go_simp
          refine hK.out _ _ (s1.alloc s1.size _) (fun _ => ?_)
          clear hK K
          refine world_gen (fun W => Blk W v1.heap.size 3 #[.int .i64 1] ∧ Blk W gE 24 #[.string ⟨#[]⟩, .string ⟨#[]⟩, .slice none 0 0] ∧ Below w3.heap.size w3 W) ⟨by ((repeat (first | (with_reducible assumption) | ((with_reducible apply Blk.farAt); (focus omega)) | (with_reducible apply Blk.setb) | ((with_reducible apply Blk.newAt); (focus (simp; done))) | (with_reducible apply Blk.alloc) | (with_reducible apply Blk.drew))); all_goals (show @Eq (Array Value) _ _; rfl)), by ((repeat (first | (with_reducible assumption) | ((with_reducible apply Blk.farAt); (focus omega)) | (with_reducible apply Blk.setb) | ((with_reducible apply Blk.newAt); (focus (simp; done))) | (with_reducible apply Blk.alloc) | (with_reducible apply Blk.drew))); all_goals (show @Eq (Array Value) _ _; rfl)), s1.alloc s1.size _⟩ ?_
          clear hE
          rintro v2 ⟨hQ, hE, s2⟩
          have ltQ : w3.heap.size ≤ v1.heap.size := s1.size
          have neQ : gE ≠ v1.heap.size := by have := lt_of_gE; omega
          obtain ⟨gQ, egQ⟩ : ∃ q, v1.heap.size = q := ⟨_, rfl⟩
          rw [egQ] at hQ ltQ neQ ⊢
          have neEQ : gE ≠ gQ := neQ
          have lt_of_gQ : gQ < v2.heap.size := hQ.lt
          clear egQ
          refine wpMT_l rfl rfl (fun K hK => ?_)
          go_simp
          refine (CO.out v2).mono ?_
          rintro r v3 ⟨na, nc, da, dc, rfl, hN, hD, hb3⟩
          dsimp only
          have s3 := below_then s2 hb3
          refine hK.out _ _ s3 (fun _ => ?_)
          clear hK K
          have CT := Lib.hid (fun W (hW : Below v3.heap.size v3 W) => CTX.out na nc da dc W (hN W ((New.refl _ _).below hW)) (hD W ((New.refl _ _).below hW)))
          clear hN hD
          have hcur : Below v3.heap.size v3 v3 := Below.refl _ _
          replace hE := hE.below' hb3
          replace hQ := hQ.below' hb3
          have lt_of_gE := hE.lt
          have lt_of_gQ := hQ.lt
          refine wpMT_l rfl rfl (fun K hK => ?_)
          go_simp
          refine (CT.out v3 hcur).mono ?_
          rintro r v4 ⟨rfl, hb4⟩
          dsimp only
          have s4 := below_then s3 hb4
          refine hK.out _ _ s4 (fun _ => ?_)
          clear hK K hcur CT
          replace hE := hE.below' hb4
          replace hQ := hQ.below' hb4
          have lt_of_gE := hE.lt
          have lt_of_gQ := hQ.lt
          iterate 1 (refine wpMT_q rfl rfl (fun K hK => ?_); apply Exists.intro; refine ⟨fun w' hw' => ?_, ?_⟩; (focus (go_simp; try rfl)); go_simp; refine hK _ _ ?_; clear hK K)
          iterate 1 (refine wpMT_q rfl rfl (fun K hK => ?_); apply Exists.intro; refine ⟨fun w' hw' => ?_, ?_⟩; (focus (go_simp; try rfl)); go_simp; refine hK _ _ ?_; clear hK K)
          have y0 := hE.cell 0; have y1 := hE.cell 1; have y2 := hE.cell 2; have f0 := hE.frozen 0; have f1 := hE.frozen 1; have f2 := hE.frozen 2
          refine wpMT_t rfl rfl (fun K hK => ?_)
          go_simp
          refine hK.out _ _ ?_
          clear hK K
          refine wpMT_nil ?_
          go_wp2
          go_meet
          case rel => exact ⟨gE, gQ, rfl, by rw [HNM.out]; ((repeat (first | (with_reducible assumption) | ((with_reducible apply Blk.farAt); (focus omega)) | (with_reducible apply Blk.setb) | ((with_reducible apply Blk.newAt); (focus (simp; done))) | (with_reducible apply Blk.alloc) | (with_reducible apply Blk.drew))); all_goals (show @Eq (Array Value) _ _; rfl)), ⟨#[.int .i64 1], by ((repeat (first | (with_reducible assumption) | ((with_reducible apply Blk.farAt); (focus omega)) | (with_reducible apply Blk.setb) | ((with_reducible apply Blk.newAt); (focus (simp; done))) | (with_reducible apply Blk.alloc) | (with_reducible apply Blk.drew))); all_goals (show @Eq (Array Value) _ _; rfl)), rfl, Nat.le_refl _, by simp [maxLen], rfl⟩, ltE, ltQ, ((s4.setCell ltE _).setCell ltE _).setCell ltE _⟩
    case rest =>
      obtain ⟨gb, gq, rfl, he, hq, hgb, hgq, hc⟩ := hcut
      obtain ⟨w4, rfl⟩ : ∃ w4, w4 = wc := ⟨_, rfl⟩
      have HF4 := Lib.hid (HZF.out.below' hc)
      have HN4 := Lib.hid (HZE.out.below' hc)
      have hw4 := below_then hw3 hc
      have HE4 := Lib.hid he
      have HQ4 := Lib.hid hq
      have hgbw : w.heap.size ≤ gb := by have := hw3.size; omega
      have hgqw : w.heap.size ≤ gq := by have := hw3.size; omega
      have hgbn : gb ≠ n2 := by omega
      have hgbz : gb ≠ w.heap.size := by omega
      have hgqz : gq ≠ w.heap.size := by omega
      clear he hq HZF HZE hc hw3 CO CTX
      obtain ⟨A, hA⟩ : ∃ A, linTo false (renTo pm false f.steps) = A := ⟨_, rfl⟩
      obtain ⟨B, hB⟩ : ∃ B, renTo pm false f.thm = B := ⟨_, rfl⟩
      obtain ⟨D, hD⟩ : ∃ D, renTo pm false f.wrong = D := ⟨_, rfl⟩
      have hAl : (ofL A).size ≤ 10000 := by rw [ofL_size, ← hA]; have := linTo_len (renTo pm false f.steps) false; rw [renTo_len] at this; omega
      have hBl : (ofL B).size ≤ 1000 := by rw [ofL_size, ← hB, renTo_len]; exact hs1
      have hDl : (ofL D).size ≤ 1000 := by rw [ofL_size, ← hD, renTo_len]; exact hs2
      have C1 := fun W => renamed_any pm f.steps hpl (by omega) W
      have C2 := fun W => lines_any (renTo pm false f.steps) (by rw [renTo_len]; omega) W
      have C3 := fun W => renamed_any pm f.thm hpl (by omega) W
      have C4 := fun W => renamed_any pm f.wrong hpl (by omega) W
      rw [hA] at C2
      rw [hB] at C3
      rw [hD] at C4
      obtain ⟨G, hG⟩ : ∃ G, renTo pm false f.steps = G := ⟨_, rfl⟩
      rw [hG] at C1 C2
      have HSR : Hid (srcR f v = headL ++ A ++ proveL ++ B ++ [59, 10] ++ (if 6 ≤ v then proveL ++ D ++ [59, 10] else [])) := Lib.hid (by unfold srcR; rw [HPM.out, hA, hB, hD])
      replace C1 := Lib.hid C1; replace C2 := Lib.hid C2; replace C3 := Lib.hid C3; replace C4 := Lib.hid C4
      clear hA hB hD hG
      have z1 : ∀ w', Below w4.heap.size w4 w' → w'.cell? ⟨n2, 1, none⟩ = some (.string (ofL f.steps)) := fun w' hw' => (HF4.out.below' hw').cell 1
      have z2 : ∀ w', Below w4.heap.size w4 w' → w'.cell? ⟨n2, 2, none⟩ = some (.string (ofL f.thm)) := fun w' hw' => (HF4.out.below' hw').cell 2
      have p1 : ¬ 9223372036854775807 < 16 + (ofL A).size := by omega
      have p2 : ¬ 9223372036854775807 < 16 + (ofL A).size + 6 := by omega
      have p3 : ¬ 9223372036854775807 < 16 + (ofL A).size + 6 + (ofL B).size := by omega
      have p4 : ¬ 9223372036854775807 < 16 + (ofL A).size + 6 + (ofL B).size + 2 := by omega
      go_upto_region 6 with fail
      have s0 : Below w4.heap.size w4 w4.drew := (Below.refl _ _).drew
      refine wp_region_mix (S := Below w4.heap.size w4) [(0, .q), (1, .q), (2, .q), (7, .q), (8, .q), (9, .q), (3, .l), (4, .l), (5, .q), (6, .q), (10, .l), (11, .p), (12, .p), (13, .p), (14, .t)] (by kernel_rfl) (by kernel_rfl) (by kernel_rfl) (fun d _ _ _ _ h => by cases d <;> exact h) (s0) ?_
      iterate 6 (refine wpMix_q rfl rfl (fun K hK => ?_); apply Exists.intro; refine ⟨fun w' hw' => ?_, ?_⟩; (focus (go_simp; try rfl)); go_simp; refine hK _ _ ?_; clear hK K)
      refine wpMix_l rfl rfl (fun K hK => ?_)
      go_simp
      refine (C1.out _).mono ?_
      rintro r w5 ⟨rfl, hb5⟩
      dsimp only
      refine hK.out _ _ (below_then s0 hb5) (fun _ => ?_)
      clear hK K
      have s5 := below_then s0 hb5
      refine wpMix_l rfl rfl (fun K hK => ?_)
      go_simp
      refine (C2.out _).mono ?_
      rintro r w5' ⟨rfl, rfl⟩
      dsimp only
      refine hK.out _ _ (s5) (fun _ => ?_)
      clear hK K
      iterate 2 (refine wpMix_q rfl rfl (fun K hK => ?_); apply Exists.intro; refine ⟨fun w' hw' => ?_, ?_⟩; (focus (go_simp; try rfl)); go_simp; refine hK _ _ ?_; clear hK K)
      refine wpMix_l rfl rfl (fun K hK => ?_)
      go_simp
      refine (C3.out _).mono ?_
      rintro r w6 ⟨rfl, hb6⟩
      dsimp only
      refine hK.out _ _ (below_then s5 hb6) (fun _ => ?_)
      clear hK K
      have s6 := below_then s5 hb6
      iterate 3 (refine wpMix_p rfl rfl (fun K hK => ?_); apply Exists.intro; refine ⟨fun w' => ?_, ?_⟩; (focus (go_simp; try rfl)); go_simp; refine hK _ _ ?_; clear hK K)
      have hE6 := HE4.out.below' s6
      have y0 := hE6.cell 0; have y1 := hE6.cell 1; have y2 := hE6.cell 2; have f0 := hE6.frozen 0; have f1 := hE6.frozen 1; have f2 := hE6.frozen 2
      refine wpMix_t rfl rfl (fun K hK => ?_)
      go_simp
      refine hK.out _ _ ?_
      clear hK K
      refine wpMix_nil ?_
      have hF6 := HF4.out.below' s6
      have hN6 := HN4.out.below' s6
      have hQ6 := HQ4.out.blk fun cs h => h.below' s6
      have hw6 := below_then hw4 s6
      have hqe : gq ≠ gb := hQ6.ne hE6 (by decide)
      have hfe : n2 ≠ gb := Ne.symm hgbn
      have hne : w.heap.size ≠ gb := Ne.symm hgbz
      obtain ⟨S1, hS1⟩ : ∃ S1, headL ++ A ++ proveL ++ B ++ [59, 10] = S1 := ⟨_, rfl⟩
      have hS1l : (ofL S1).size ≤ 11100 := by rw [ofL_size, ← hS1]; rw [ofL_size] at hAl hBl; simp [headL, proveL]; omega
      have hlit : (⟨#[112, 111, 105, 110, 116, 115, 32, 65, 44, 32, 66, 44, 32, 67, 59, 10]⟩ ++ ofL A ++ ⟨#[112, 114, 111, 118, 101, 32]⟩ ++ ofL B ++ ⟨#[59, 10]⟩ : ByteArray) = ofL S1 := by
        rw [← hS1]
        show ofL headL ++ ofL A ++ ofL proveL ++ ofL B ++ ofL [59, 10] = _
        rw [ofL_app, ofL_app, ofL_app, ofL_app]
      rw [hS1] at HSR
      refine world_gen (fun W => Blk W gb 24 #[.string (ofL (nmR f v)), .string (ofL S1), .slice (some ⟨gq, 0, none⟩) 1 1] ∧ RowI W gq 1 [1] ∧ Blk W n2 45 #[.string (ofL f.name), .string (ofL f.steps), .string (ofL f.thm), .string (ofL f.wrong)] ∧ Blk W w.heap.size 24 #[.string ⟨#[]⟩, .string ⟨#[]⟩, .slice none 0 0] ∧ Below w.heap.size w W) ⟨by rw [← hlit]; ((repeat (first | (with_reducible assumption) | ((with_reducible apply Blk.farAt); (focus omega)) | (with_reducible apply Blk.setb) | ((with_reducible apply Blk.newAt); (focus (simp; done))) | (with_reducible apply Blk.alloc) | (with_reducible apply Blk.drew))); all_goals (show @Eq (Array Value) _ _; rfl)), hQ6.blk fun cs h => by ((repeat (first | (with_reducible assumption) | ((with_reducible apply Blk.farAt); (focus omega)) | (with_reducible apply Blk.setb) | ((with_reducible apply Blk.newAt); (focus (simp; done))) | (with_reducible apply Blk.alloc) | (with_reducible apply Blk.drew))); all_goals (show @Eq (Array Value) _ _; rfl)), by ((repeat (first | (with_reducible assumption) | ((with_reducible apply Blk.farAt); (focus omega)) | (with_reducible apply Blk.setb) | ((with_reducible apply Blk.newAt); (focus (simp; done))) | (with_reducible apply Blk.alloc) | (with_reducible apply Blk.drew))); all_goals (show @Eq (Array Value) _ _; rfl)), by ((repeat (first | (with_reducible assumption) | ((with_reducible apply Blk.farAt); (focus omega)) | (with_reducible apply Blk.setb) | ((with_reducible apply Blk.newAt); (focus (simp; done))) | (with_reducible apply Blk.alloc) | (with_reducible apply Blk.drew))); all_goals (show @Eq (Array Value) _ _; rfl)), by first | exact hw6.setCell hgbw _ | exact (hw6.setCell hgbw _).drew⟩ ?_
      clear hF6 hN6 hQ6 hE6 hw6 y0 y1 y2 f0 f1 f2 hlit hS1 s0 s5 s6 hb5 hb6 z1 z2 HF4 HN4 HE4 HQ4 hw4 C1 C2 C3 p1 p2 p3 p4
      rintro w7 ⟨hE, hQ, hF, hN, hw⟩
      have HE := Lib.hid hE; have HQ := Lib.hid hQ; have HF := Lib.hid hF; have HN := Lib.hid hN
      clear hE hQ hF hN
      by_cases h6 : 6 ≤ v
      · have hd6 : ¬ (v : Int) < 6 := by omega
        have hsrc : srcR f v = S1 ++ (proveL ++ D ++ [59, 10]) := by rw [HSR.out, if_pos h6]
        have z3 : ∀ w', Below w7.heap.size w7 w' → w'.cell? ⟨n2, 3, none⟩ = some (.string (ofL f.wrong)) := fun w' hw' => (HF.out.below' hw').cell 3
        have t1 : ∀ w', Below w7.heap.size w7 w' → w'.cell? ⟨gb, 1, none⟩ = some (.string (ofL S1)) := fun w' hw' => (HE.out.below' hw').cell 1
        have p1 : ¬ 9223372036854775807 < (ofL S1).size + 6 := by omega
        have p2 : ¬ 9223372036854775807 < (ofL S1).size + 6 + (ofL D).size := by omega
        have p3 : ¬ 9223372036854775807 < (ofL S1).size + 6 + (ofL D).size + 2 := by omega
        go_upto_region 9 with fail
        have s0 : Below w7.heap.size w7 w7.drew := (Below.refl _ _).drew
        refine wp_region_mix (S := Below w7.heap.size w7) [(0, .q), (1, .q), (2, .q), (3, .q), (4, .q), (5, .q), (6, .l), (7, .p), (8, .p), (9, .p), (10, .t)] (by kernel_rfl) (by kernel_rfl) (by kernel_rfl) (fun d _ _ _ _ h => by cases d <;> exact h) (s0) ?_
        iterate 6 (refine wpMix_q rfl rfl (fun K hK => ?_); apply Exists.intro; refine ⟨fun w' hw' => ?_, ?_⟩; (focus (go_simp; try rfl)); go_simp; refine hK _ _ ?_; clear hK K)
        refine wpMix_l rfl rfl (fun K hK => ?_)
        go_simp
        refine (C4.out _).mono ?_
        rintro r w8 ⟨rfl, hb8⟩
        dsimp only
        refine hK.out _ _ (below_then s0 hb8) (fun _ => ?_)
        clear hK K
        have s8 := below_then s0 hb8
        iterate 3 (refine wpMix_p rfl rfl (fun K hK => ?_); apply Exists.intro; refine ⟨fun w' => ?_, ?_⟩; (focus (go_simp; try rfl)); go_simp; refine hK _ _ ?_; clear hK K)
        have hE8 := HE.out.below' s8
        have y0 := hE8.cell 0; have y1 := hE8.cell 1; have y2 := hE8.cell 2; have f0 := hE8.frozen 0; have f1 := hE8.frozen 1; have f2 := hE8.frozen 2
        refine wpMix_t rfl rfl (fun K hK => ?_)
        go_simp
        refine hK.out _ _ ?_
        clear hK K
        refine wpMix_nil ?_
        have hF8 := HF.out.below' s8
        have hN8 := HN.out.below' s8
        have hQ8 := HQ.out.blk fun cs h => h.below' s8
        have hw8 := below_then hw s8
        obtain ⟨S2, hS2⟩ : ∃ S2, S1 ++ (proveL ++ D ++ [59, 10]) = S2 := ⟨_, rfl⟩
        have hlit : (ofL S1 ++ ⟨#[112, 114, 111, 118, 101, 32]⟩ ++ ofL D ++ ⟨#[59, 10]⟩ : ByteArray) = ofL S2 := by
          rw [← hS2]
          show ofL S1 ++ ofL proveL ++ ofL D ++ ofL [59, 10] = _
          rw [ofL_app, ofL_app, ofL_app]
          simp only [List.append_assoc]
        rw [hS2] at hsrc
        have HSRC := Lib.hid hsrc
        refine world_gen (fun W => Blk W gb 24 #[.string (ofL (nmR f v)), .string (ofL S2), .slice (some ⟨gq, 0, none⟩) 1 1] ∧ RowI W gq 1 [1] ∧ Blk W n2 45 #[.string (ofL f.name), .string (ofL f.steps), .string (ofL f.thm), .string (ofL f.wrong)] ∧ Blk W w.heap.size 24 #[.string ⟨#[]⟩, .string ⟨#[]⟩, .slice none 0 0] ∧ Below w.heap.size w W) ⟨by rw [← hlit]; ((repeat (first | (with_reducible assumption) | ((with_reducible apply Blk.farAt); (focus omega)) | (with_reducible apply Blk.setb) | ((with_reducible apply Blk.newAt); (focus (simp; done))) | (with_reducible apply Blk.alloc) | (with_reducible apply Blk.drew))); all_goals (show @Eq (Array Value) _ _; rfl)), hQ8.blk fun cs h => by ((repeat (first | (with_reducible assumption) | ((with_reducible apply Blk.farAt); (focus omega)) | (with_reducible apply Blk.setb) | ((with_reducible apply Blk.newAt); (focus (simp; done))) | (with_reducible apply Blk.alloc) | (with_reducible apply Blk.drew))); all_goals (show @Eq (Array Value) _ _; rfl)), by ((repeat (first | (with_reducible assumption) | ((with_reducible apply Blk.farAt); (focus omega)) | (with_reducible apply Blk.setb) | ((with_reducible apply Blk.newAt); (focus (simp; done))) | (with_reducible apply Blk.alloc) | (with_reducible apply Blk.drew))); all_goals (show @Eq (Array Value) _ _; rfl)), by ((repeat (first | (with_reducible assumption) | ((with_reducible apply Blk.farAt); (focus omega)) | (with_reducible apply Blk.setb) | ((with_reducible apply Blk.newAt); (focus (simp; done))) | (with_reducible apply Blk.alloc) | (with_reducible apply Blk.drew))); all_goals (show @Eq (Array Value) _ _; rfl)), by first | exact hw8.setCell hgbw _ | exact (hw8.setCell hgbw _).drew⟩ ?_
        clear hF8 hN8 hQ8 hE8 hw8 y0 y1 y2 f0 f1 f2 hlit hS2 s0 s8 hb8 z3 t1 HF HE HN HQ hw C4 p1 p2 p3 hsrc HSR
        rintro w9 ⟨hE, hQ, hF, hN, hw⟩
        have x0 := hF.cell 0
        have q2 := hE.cell 2
        have HE := Lib.hid hE; have HQ := Lib.hid hQ; have HN := Lib.hid hN
        clear hE hQ hF hN
        by_cases hu : f.name = unkL
        · have hun : ((ofL f.name).toList == [101, 113, 117, 105, 108, 97, 116, 101, 114, 97, 108]) = true := by rw [toList_data, data_ofL, hu]; rfl
          have hos : osR f v = [1, 0] := by unfold osR; rw [if_pos h6, if_pos hu]
          clear hu
          have HOS := Lib.hid hos
          clear hos
          go_upto_region 13 with (at_builtin; go_must (refine append_int rfl (.tmp 68) (.tmp 69) rfl (some ⟨gq, 0, none⟩) 1 rfl ((HQ.out.own (Nat.le_refl gq)).alloc _) 0 w9.heap.size 1 rfl (by simp) [1, 0] rfl (by simp) (by have := HQ.out.lt; simp; omega) ?_); intro a3 c3 w3 ho3 hg3 hx3; have f3 := ((HE.out.alloc (.cells #[.int .i64 0] 3)).grown hg3 (fun e => by simp [Value.ownBlock] at e; exact HQ.out.ne HE.out (by decide) e.symm)).frozen 2; have f4 := ((HE.out.alloc (.cells #[.int .i64 0] 3)).grown hg3 (fun e => by simp [Value.ownBlock] at e; exact HQ.out.ne HE.out (by decide) e.symm)).cell 2)
          obtain ⟨g2, rfl, hg2⟩ := hx3
          have HQ9 := Lib.hid (RowI.of ho3)
          have hgr : ((w9.alloc (.cells #[.int .i64 0] 3))).grownBy w3 (some gq) := hg3
          have hge : some gb ≠ some gq := fun e => by injection e with e; exact HQ.out.ne HE.out (by decide) e.symm
          have hE3 := (HE.out.alloc (.cells #[.int .i64 0] 3)).grown hgr hge
          have hN3 := (HN.out.alloc (.cells #[.int .i64 0] 3)).grown hgr (fun e => by injection e with e; exact hgqz e.symm)
          have hw3 : Below w.heap.size w w3 := Below.grown (hw.alloc hw.size (.cells #[.int .i64 0] 3)) hgr (by have := hw.size; simp; omega) (fun k hk => by injection hk with hk; omega)
          have hg2w : w.heap.size ≤ g2 := by
            have := hw.size
            rcases hg2 with e | e
            · injection e with e; injection e with e; omega
            · simp at e; omega
          have hqe2 : g2 ≠ gb := HQ9.out.ne hE3 (by decide)
          have hgn : g2 ≠ w.heap.size := HQ9.out.ne hN3 (by decide)
          refine world_gen (fun W => Blk W gb 24 #[.string (ofL (nmR f v)), .string (ofL S2), .slice (some ⟨g2, 0, none⟩) 2 c3] ∧ RowI W g2 c3 [1, 0] ∧ Blk W w.heap.size 24 #[.string ⟨#[]⟩, .string ⟨#[]⟩, .slice none 0 0] ∧ Below w.heap.size w W) ⟨by ((repeat (first | (with_reducible assumption) | ((with_reducible apply Blk.farAt); (focus omega)) | (with_reducible apply Blk.setb) | ((with_reducible apply Blk.newAt); (focus (simp; done))) | (with_reducible apply Blk.alloc) | (with_reducible apply Blk.drew))); all_goals (show @Eq (Array Value) _ _; rfl)), HQ9.out.blk fun cs h => by ((repeat (first | (with_reducible assumption) | ((with_reducible apply Blk.farAt); (focus omega)) | (with_reducible apply Blk.setb) | ((with_reducible apply Blk.newAt); (focus (simp; done))) | (with_reducible apply Blk.alloc) | (with_reducible apply Blk.drew))); all_goals (show @Eq (Array Value) _ _; rfl)), by ((repeat (first | (with_reducible assumption) | ((with_reducible apply Blk.farAt); (focus omega)) | (with_reducible apply Blk.setb) | ((with_reducible apply Blk.newAt); (focus (simp; done))) | (with_reducible apply Blk.alloc) | (with_reducible apply Blk.drew))); all_goals (show @Eq (Array Value) _ _; rfl)), hw3.setCell hgbw _⟩ ?_
          clear HE HQ HN hE3 hN3 hw3 HQ9 f3 f4 hg3 hgr ho3 x0 q2
          rintro w5 ⟨hE, hQ, hN, hw5⟩
          have HE := Lib.hid hE; have HQ := Lib.hid hQ; have HN := Lib.hid hN
          clear hE hQ hN
          have e0 := HE.out.cell 0; have e1 := HE.out.cell 1; have e2 := HE.out.cell 2
          have d0 := HN.out.cell 0; have d1 := HN.out.cell 1; have d2 := HN.out.cell 2; have k0 := HN.out.frozen 0; have k1 := HN.out.frozen 1; have k2 := HN.out.frozen 2
          go_wp2
          refine world_gen (fun W => Blk W w.heap.size 24 #[.string (ofL (nmR f v)), .string (ofL S2), .slice (some ⟨g2, 0, none⟩) 2 c3] ∧ RowI W g2 c3 [1, 0] ∧ Below w.heap.size w W) ⟨by have hNN := HN.out; ((repeat (first | (with_reducible assumption) | ((with_reducible apply Blk.farAt); (focus omega)) | (with_reducible apply Blk.setb) | ((with_reducible apply Blk.newAt); (focus (simp; done))) | (with_reducible apply Blk.alloc) | (with_reducible apply Blk.drew))); all_goals (show @Eq (Array Value) _ _; rfl)), HQ.out.blk fun cs h => by ((repeat (first | (with_reducible assumption) | ((with_reducible apply Blk.farAt); (focus omega)) | (with_reducible apply Blk.setb) | ((with_reducible apply Blk.newAt); (focus (simp; done))) | (with_reducible apply Blk.alloc) | (with_reducible apply Blk.drew))); all_goals (show @Eq (Array Value) _ _; rfl)), ((hw5.setCell (Nat.le_refl _) _).setCell (Nat.le_refl _) _).setCell (Nat.le_refl _) _⟩ ?_
          rintro w9 ⟨hN9, hQ9, hw9⟩
          have j0 := hN9.cell 0; have j1 := hN9.cell 1; have j2 := hN9.cell 2
          refine bodyPost_ret (v := .tuple #[.agg #[.string (ofL (nmR f v)), .string (ofL S2), .slice (some ⟨g2, 0, none⟩) 2 c3], .int .i64 0]) (by simp [results, Tryd.results6, go_sem, j0, j1, j2]) rfl ?_
          exact ⟨_, _, by rw [HSRC.out, HOS.out]; rfl, fun V hV => by rw [HOS.out]; exact hQ9.reads hg2w hV (by simp [InInt]), hw9⟩
        · have hun : ((ofL f.name).toList == [101, 113, 117, 105, 108, 97, 116, 101, 114, 97, 108]) = false := by rw [toList_data, data_ofL, beq_eq_false_iff_ne]; exact hu
          have hos : osR f v = [1, 2] := by unfold osR; rw [if_pos h6, if_neg hu]
          clear hu
          have HOS := Lib.hid hos
          clear hos
          go_upto_region 13 with (at_builtin; go_must (refine append_int rfl (.tmp 73) (.tmp 74) rfl (some ⟨gq, 0, none⟩) 1 rfl ((HQ.out.own (Nat.le_refl gq)).alloc _) 2 w9.heap.size 1 rfl (by simp) [1, 2] rfl (by simp) (by have := HQ.out.lt; simp; omega) ?_); intro a3 c3 w3 ho3 hg3 hx3; have f3 := ((HE.out.alloc (.cells #[.int .i64 2] 3)).grown hg3 (fun e => by simp [Value.ownBlock] at e; exact HQ.out.ne HE.out (by decide) e.symm)).frozen 2; have f4 := ((HE.out.alloc (.cells #[.int .i64 2] 3)).grown hg3 (fun e => by simp [Value.ownBlock] at e; exact HQ.out.ne HE.out (by decide) e.symm)).cell 2)
          obtain ⟨g2, rfl, hg2⟩ := hx3
          have HQ9 := Lib.hid (RowI.of ho3)
          have hgr : ((w9.alloc (.cells #[.int .i64 2] 3))).grownBy w3 (some gq) := hg3
          have hge : some gb ≠ some gq := fun e => by injection e with e; exact HQ.out.ne HE.out (by decide) e.symm
          have hE3 := (HE.out.alloc (.cells #[.int .i64 2] 3)).grown hgr hge
          have hN3 := (HN.out.alloc (.cells #[.int .i64 2] 3)).grown hgr (fun e => by injection e with e; exact hgqz e.symm)
          have hw3 : Below w.heap.size w w3 := Below.grown (hw.alloc hw.size (.cells #[.int .i64 2] 3)) hgr (by have := hw.size; simp; omega) (fun k hk => by injection hk with hk; omega)
          have hg2w : w.heap.size ≤ g2 := by
            have := hw.size
            rcases hg2 with e | e
            · injection e with e; injection e with e; omega
            · simp at e; omega
          have hqe2 : g2 ≠ gb := HQ9.out.ne hE3 (by decide)
          have hgn : g2 ≠ w.heap.size := HQ9.out.ne hN3 (by decide)
          refine world_gen (fun W => Blk W gb 24 #[.string (ofL (nmR f v)), .string (ofL S2), .slice (some ⟨g2, 0, none⟩) 2 c3] ∧ RowI W g2 c3 [1, 2] ∧ Blk W w.heap.size 24 #[.string ⟨#[]⟩, .string ⟨#[]⟩, .slice none 0 0] ∧ Below w.heap.size w W) ⟨by ((repeat (first | (with_reducible assumption) | ((with_reducible apply Blk.farAt); (focus omega)) | (with_reducible apply Blk.setb) | ((with_reducible apply Blk.newAt); (focus (simp; done))) | (with_reducible apply Blk.alloc) | (with_reducible apply Blk.drew))); all_goals (show @Eq (Array Value) _ _; rfl)), HQ9.out.blk fun cs h => by ((repeat (first | (with_reducible assumption) | ((with_reducible apply Blk.farAt); (focus omega)) | (with_reducible apply Blk.setb) | ((with_reducible apply Blk.newAt); (focus (simp; done))) | (with_reducible apply Blk.alloc) | (with_reducible apply Blk.drew))); all_goals (show @Eq (Array Value) _ _; rfl)), by ((repeat (first | (with_reducible assumption) | ((with_reducible apply Blk.farAt); (focus omega)) | (with_reducible apply Blk.setb) | ((with_reducible apply Blk.newAt); (focus (simp; done))) | (with_reducible apply Blk.alloc) | (with_reducible apply Blk.drew))); all_goals (show @Eq (Array Value) _ _; rfl)), hw3.setCell hgbw _⟩ ?_
          clear HE HQ HN hE3 hN3 hw3 HQ9 f3 f4 hg3 hgr ho3 x0 q2
          rintro w5 ⟨hE, hQ, hN, hw5⟩
          have HE := Lib.hid hE; have HQ := Lib.hid hQ; have HN := Lib.hid hN
          clear hE hQ hN
          have e0 := HE.out.cell 0; have e1 := HE.out.cell 1; have e2 := HE.out.cell 2
          have d0 := HN.out.cell 0; have d1 := HN.out.cell 1; have d2 := HN.out.cell 2; have k0 := HN.out.frozen 0; have k1 := HN.out.frozen 1; have k2 := HN.out.frozen 2
          go_wp2
          refine world_gen (fun W => Blk W w.heap.size 24 #[.string (ofL (nmR f v)), .string (ofL S2), .slice (some ⟨g2, 0, none⟩) 2 c3] ∧ RowI W g2 c3 [1, 2] ∧ Below w.heap.size w W) ⟨by have hNN := HN.out; ((repeat (first | (with_reducible assumption) | ((with_reducible apply Blk.farAt); (focus omega)) | (with_reducible apply Blk.setb) | ((with_reducible apply Blk.newAt); (focus (simp; done))) | (with_reducible apply Blk.alloc) | (with_reducible apply Blk.drew))); all_goals (show @Eq (Array Value) _ _; rfl)), HQ.out.blk fun cs h => by ((repeat (first | (with_reducible assumption) | ((with_reducible apply Blk.farAt); (focus omega)) | (with_reducible apply Blk.setb) | ((with_reducible apply Blk.newAt); (focus (simp; done))) | (with_reducible apply Blk.alloc) | (with_reducible apply Blk.drew))); all_goals (show @Eq (Array Value) _ _; rfl)), ((hw5.setCell (Nat.le_refl _) _).setCell (Nat.le_refl _) _).setCell (Nat.le_refl _) _⟩ ?_
          rintro w9 ⟨hN9, hQ9, hw9⟩
          have j0 := hN9.cell 0; have j1 := hN9.cell 1; have j2 := hN9.cell 2
          refine bodyPost_ret (v := .tuple #[.agg #[.string (ofL (nmR f v)), .string (ofL S2), .slice (some ⟨g2, 0, none⟩) 2 c3], .int .i64 0]) (by simp [results, Tryd.results6, go_sem, j0, j1, j2]) rfl ?_
          exact ⟨_, _, by rw [HSRC.out, HOS.out]; rfl, fun V hV => by rw [HOS.out]; exact hQ9.reads hg2w hV (by simp [InInt]), hw9⟩
      · have hd6 : (v : Int) < 6 := by omega
        have hos : osR f v = [1] := by unfold osR; rw [if_neg h6]
        have hsrc : srcR f v = S1 := by rw [HSR.out, if_neg h6, List.append_nil]
        have HOS := Lib.hid hos; have HSRC := Lib.hid hsrc
        clear hos hsrc
        have e0 := HE.out.cell 0; have e1 := HE.out.cell 1; have e2 := HE.out.cell 2
        have d0 := HN.out.cell 0; have d1 := HN.out.cell 1; have d2 := HN.out.cell 2; have k0 := HN.out.frozen 0; have k1 := HN.out.frozen 1; have k2 := HN.out.frozen 2
        go_wp2
        refine world_gen (fun W => Blk W w.heap.size 24 #[.string (ofL (nmR f v)), .string (ofL S1), .slice (some ⟨gq, 0, none⟩) 1 1] ∧ RowI W gq 1 [1] ∧ Below w.heap.size w W) ⟨by have hNN := HN.out; ((repeat (first | (with_reducible assumption) | ((with_reducible apply Blk.farAt); (focus omega)) | (with_reducible apply Blk.setb) | ((with_reducible apply Blk.newAt); (focus (simp; done))) | (with_reducible apply Blk.alloc) | (with_reducible apply Blk.drew))); all_goals (show @Eq (Array Value) _ _; rfl)), HQ.out.blk fun cs h => by ((repeat (first | (with_reducible assumption) | ((with_reducible apply Blk.farAt); (focus omega)) | (with_reducible apply Blk.setb) | ((with_reducible apply Blk.newAt); (focus (simp; done))) | (with_reducible apply Blk.alloc) | (with_reducible apply Blk.drew))); all_goals (show @Eq (Array Value) _ _; rfl)), ((hw.setCell (Nat.le_refl _) _).setCell (Nat.le_refl _) _).setCell (Nat.le_refl _) _⟩ ?_
        rintro w9 ⟨hN9, hQ9, hw9⟩
        have j0 := hN9.cell 0; have j1 := hN9.cell 1; have j2 := hN9.cell 2
        refine bodyPost_ret (v := .tuple #[.agg #[.string (ofL (nmR f v)), .string (ofL S1), .slice (some ⟨gq, 0, none⟩) 1 1], .int .i64 0]) (by simp [results, Tryd.results6, go_sem, j0, j1, j2]) rfl ?_
        exact ⟨_, _, by rw [HSRC.out, HOS.out]; rfl, fun V hV => by rw [HOS.out]; exact hQ9.reads hgqw hV (by simp [InInt]), hw9⟩
end Go.Proofs.YtmeplgagpnligaaDoor
