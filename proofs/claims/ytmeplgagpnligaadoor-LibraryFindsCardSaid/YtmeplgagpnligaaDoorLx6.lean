/- Walk: the program's entry of a family and a variant. -/
import Derived.Test.YtmeplgagpnligaaDoorLx5
import Derived.Deep.CutRange

/- Walk: the program's entry of a family and a variant. -/
namespace Go.Proofs.YtmeplgagpnligaaDoor
open Go.RowKit

theorem decS_text {v : Nat} (h : v < 60) : decS v = ofL (textN v) := by
  unfold decS
  split
  · next h1 => rw [textN_small h1]; rfl
  · next h1 => rw [textN_two (by omega) (by omega)]; rfl
set_option maxRecDepth 100000 in
set_option maxHeartbeats 4000000 in
theorem entry_any (f : Fm) (hf : okF f = true) (v : Nat) (hv : v < 12) (g : Nat) (w : World) (hg : Blk w g 9 (strsOf f.steps)) :
    Calls Tryd.prog 15 #[.agg #[.string (ofL f.name), .slice (some ⟨g, 0, none⟩) f.steps.length f.steps.length, .string (ofL f.thm), .string (ofL f.wrong)], .int .i64 v] w (RetEn1 (nmP f v) (srcP f v) (osP f v) w) := by
  have hsz : f.thm.length ≤ 1000 ∧ f.wrong.length ≤ 1000 ∧ f.name.length ≤ 100 ∧ f.steps.length ≤ 99 := by
    simp only [okF, Bool.and_eq_true, decide_eq_true_eq] at hf
    exact ⟨hf.2.2.1, hf.2.2.2.1, hf.2.2.2.2.1, hf.2.2.2.2.2⟩
  obtain ⟨hs1, hs2, hs3, hs4⟩ := hsz
  have hst : ∀ s ∈ f.steps, Asc s ∧ s.length ≤ 1000 := by
    simp only [okF, Bool.and_eq_true, List.all_eq_true] at hf
    intro s hs
    have := hf.2.1 s hs
    simp only [decide_eq_true_eq] at this
    exact ⟨asc_of this.1, this.2⟩
  have hta : Asc f.thm := by simp only [okF, Bool.and_eq_true] at hf; exact asc_of hf.1.1
  have hwa : Asc f.wrong := by simp only [okF, Bool.and_eq_true] at hf; exact asc_of hf.1.2
  obtain ⟨pm, hpm⟩ : ∃ pm, perm (v % 6) = pm := ⟨_, rfl⟩
  have hpa : Asc pm := by rw [← hpm]; exact perm_asc _
  have hpl : pm.length = 3 := by rw [← hpm]; exact perm_len _
  have CL := fun W => letters_any (v % 6) (by omega) W
  rw [hpm] at CL
  have CR := fun (l : List UInt8) (ha : Asc l) (hl : l.length ≤ 1000) W => replaced_any pm l hpl hpa ha (by omega) W
  have CI := fun W => itoa_any v W (by omega)
  rw [decS_text (by omega)] at CI
  have HST := Lib.hid hst; have HTA := Lib.hid hta; have HWA := Lib.hid hwa
  have HPM := Lib.hid hpm
  replace CL := Lib.hid CL; replace CR := Lib.hid CR; replace CI := Lib.hid CI
  have HV := Lib.hid hv
  have hz0 : Blk (((w.alloc (.cells #[.string (ofL f.name), .slice (some ⟨g, 0, none⟩) f.steps.length f.steps.length, .string (ofL f.thm), .string (ofL f.wrong)] 41)).alloc (.cells #[.string ⟨#[]⟩, .string ⟨#[]⟩, .slice none 0 0] 24)).alloc (.cells #[.pointer none, .slice none 0 0] 62)) w.heap.size 41 #[.string (ofL f.name), .slice (some ⟨g, 0, none⟩) f.steps.length f.steps.length, .string (ofL f.thm), .string (ofL f.wrong)] := ((Blk.new w _ _).alloc _).alloc _
  have hz1 : Blk (((w.alloc (.cells #[.string (ofL f.name), .slice (some ⟨g, 0, none⟩) f.steps.length f.steps.length, .string (ofL f.thm), .string (ofL f.wrong)] 41)).alloc (.cells #[.string ⟨#[]⟩, .string ⟨#[]⟩, .slice none 0 0] 24)).alloc (.cells #[.pointer none, .slice none 0 0] 62)) (w.heap.size + 1) 24 #[.string ⟨#[]⟩, .string ⟨#[]⟩, .slice none 0 0] := (blk_at1 w _ _ _).alloc _
  have hzb : Bld (w.heap.size + 1 + 1) [] (((w.alloc (.cells #[.string (ofL f.name), .slice (some ⟨g, 0, none⟩) f.steps.length f.steps.length, .string (ofL f.thm), .string (ofL f.wrong)] 41)).alloc (.cells #[.string ⟨#[]⟩, .string ⟨#[]⟩, .slice none 0 0] 24)).alloc (.cells #[.pointer none, .slice none 0 0] 62)) := by
    have := Bld.new ((w.alloc (.cells #[.string (ofL f.name), .slice (some ⟨g, 0, none⟩) f.steps.length f.steps.length, .string (ofL f.thm), .string (ofL f.wrong)] 41)).alloc (.cells #[.string ⟨#[]⟩, .string ⟨#[]⟩, .slice none 0 0] 24)); simpa using this
  have hb0 : Below w.heap.size w (((w.alloc (.cells #[.string (ofL f.name), .slice (some ⟨g, 0, none⟩) f.steps.length f.steps.length, .string (ofL f.thm), .string (ofL f.wrong)] 41)).alloc (.cells #[.string ⟨#[]⟩, .string ⟨#[]⟩, .slice none 0 0] 24)).alloc (.cells #[.pointer none, .slice none 0 0] 62)) := by go_grown
  have hm : ((v : Int) % 6) = ((v % 6 : Nat) : Int) := by omega
  have HM := Lib.hid hm
  have hv0 : 0 ≤ (v : Int) := by omega
  have hgl := hg.lt
  have HG := Lib.hid hg
  clear hf hst hta hwa hpm hpa hpl hm hg
  go_enter Tryd.func15, Tryd.ntmps15
  go_wp2_with fail
  rw [HM.out]
  refine (CL.out _).mono ?_
  rintro e w1 ⟨rfl, rfl⟩
  go_wp2_with fail
  revert hz0 hz1 hzb hb0
  generalize ((w.alloc (.cells #[.string (ofL f.name), .slice (some ⟨g, 0, none⟩) f.steps.length f.steps.length, .string (ofL f.thm), .string (ofL f.wrong)] 41)).alloc (.cells #[.string ⟨#[]⟩, .string ⟨#[]⟩, .slice none 0 0] 24)).alloc (.cells #[.pointer none, .slice none 0 0] 62) = w0
  obtain ⟨b, hb⟩ : ∃ b, w.heap.size + 1 + 1 = b := ⟨_, rfl⟩
  obtain ⟨n1, hn1⟩ : ∃ n1, w.heap.size + 1 = n1 := ⟨_, rfl⟩
  rw [hb, hn1]
  intro hz0 hz1 hzb hb0
  have hwb : w.heap.size < b := by omega
  have hnb : n1 < b := by omega
  have hwn : w.heap.size < n1 := by omega
  clear hb hn1
  refine (write_any b [] (ofL headL) w0 hzb (by rw [ofL_size]; decide)).mono ?_
  rintro e w2 ⟨⟨u2, rfl⟩, hB2, hb2, _⟩
  have hb2' : Below w.heap.size w w2 := hb0.trans (hb2.mono (by omega))
  replace hz0 := hz0.below hb2 hwb
  replace hz1 := hz1.below hb2 hnb
  have hB2 : Bld b (headL ++ stepLines pm (f.steps.take 0)) w2 := by simpa [stepLines, ofL] using hB2
  clear hb0 hzb hb2
  have x1 := hz0.cell 1
  have HZ0 := Lib.hid hz0; have HZ1 := Lib.hid hz1; have HB2 := Lib.hid hB2
  clear hz0 hz1 hB2
  go_wp2
  go_loopg [8, 18] f.steps.length (fun q _ si wr => ∃ k : Nat, k + q = f.steps.length ∧ si = .int .i64 k ∧ Blk wr w.heap.size 41 #[.string (ofL f.name), .slice (some ⟨g, 0, none⟩) f.steps.length f.steps.length, .string (ofL f.thm), .string (ofL f.wrong)] ∧ Blk wr n1 24 #[.string ⟨#[]⟩, .string ⟨#[]⟩, .slice none 0 0] ∧ Bld b (headL ++ stepLines pm (f.steps.take k)) wr ∧ Below w.heap.size w wr)
  case atStart => exact ⟨0, by omega, rfl, HZ0.out, HZ1.out, HB2.out, hb2'⟩
  case round =>
    obtain ⟨k, hkg, rfl, hz0, hz1, hB, hw⟩ := hrel
    have HKG := Lib.hid hkg
    have HZ0 := Lib.hid hz0; have HZ1 := Lib.hid hz1; have HB := Lib.hid hB
    clear hkg hz0 hz1 hB hb2' x1 HB2
    by_cases hlt : k < f.steps.length
    · obtain ⟨s, hs⟩ := get_of_lt hlt
      obtain ⟨hsa, hsl⟩ := HST.out s (List.mem_of_getElem? hs)
      have hc : wr.cell? ⟨g, k, none⟩ = some (.string (ofL s)) := by
        rw [(HG.out.below hw hgl).cell k]
        simp [strsOf, hs]
      have hk4 : (stepLines pm (f.steps.take k)).length ≤ 1002 * 99 := by
        have h5 := stepLines_len pm (f.steps.take k) (fun x hx => (HST.out x (List.mem_of_mem_take hx)).2)
        have h6 : (f.steps.take k).length ≤ 99 := by rw [List.length_take]; omega
        exact Nat.le_trans h5 (Nat.mul_le_mul_left _ h6)
      have hnx : stepLines pm (f.steps.take (k + 1)) = stepLines pm (f.steps.take k) ++ (replP pm s ++ [59, 10]) := by
        rw [take_more hs, stepLines_app]; simp [stepLines]
      have HNX := Lib.hid hnx
      have hrl : (replP pm s).length ≤ 1000 := by unfold replP; rw [replTo_len]; simp; exact hsl
      have CR1 := Lib.hid (fun W => CR.out s hsa hsl W)
      obtain ⟨R, hR⟩ : ∃ R, replP pm s = R := ⟨_, rfl⟩
      rw [hR] at hrl
      simp only [hR] at CR1 HNX
      have hzz : (ofL R).size + 2 ≤ 1002 := by rw [ofL_size]; omega
      have hap : ofL R ++ ⟨#[59, 10]⟩ = ofL (R ++ [59, 10]) := ofL_app R [59, 10]
      have HAP := Lib.hid hap
      clear hs hsa hsl hnx hR hap
      go_wp2_with fail
      refine (CR1.out _).mono ?_
      rintro e w3 ⟨rfl, hb3⟩
      have hB3 := HB.out.below hb3
      have hz0 := HZ0.out.below' hb3
      have hz1 := HZ1.out.below' hb3
      have hw3 := below_then hw hb3
      have HB3 := Lib.hid hB3; have HY0 := Lib.hid hz0; have HY1 := Lib.hid hz1
      clear hB3 hz0 hz1 HB HZ0 HZ1 hb3 hc CR1
      go_wp2_with fail
      rw [HAP.out]
      refine (write_any b _ (ofL (R ++ [59, 10])) w3 HB3.out (by rw [ofL_size]; simp [headL]; omega)).mono ?_
      rintro e w4 ⟨⟨u4, rfl⟩, hB4, hb4, _⟩
      go_wp2
      go_roundg (gk - 1)
      case rel => exact ⟨k + 1, by have := HKG.out; omega, by go_num, HY0.out.below hb4 hwb, HY1.out.below hb4 hnb, by rw [HNX.out, ← List.append_assoc]; exact hB4, hw3.trans (hb4.mono (by omega))⟩
      case measure => have := HKG.out; omega
    · have hk : f.steps.take k = f.steps := List.take_of_length_le (by omega)
      have hB := HB.out
      rw [hk] at hB
      have hsl : (stepLines pm f.steps).length ≤ 1002 * 99 := by
        have h5 := stepLines_len pm f.steps (fun x hx => (HST.out x hx).2)
        exact Nat.le_trans h5 (Nat.mul_le_mul_left _ hs4)
      obtain ⟨L1, hL1⟩ : ∃ L1, headL ++ stepLines pm f.steps = L1 := ⟨_, rfl⟩
      have hl1 : L1.length ≤ 100000 := by rw [← hL1]; simp [headL]; omega
      rw [hL1] at hB
      have HL1 := Lib.hid hL1
      have HBB := Lib.hid hB
      have CR1 := Lib.hid (fun W => CR.out f.thm HTA.out hs1 W)
      have hrl : (replP pm f.thm).length ≤ 1000 := by unfold replP; rw [replTo_len]; simp; exact hs1
      obtain ⟨R, hR⟩ : ∃ R, replP pm f.thm = R := ⟨_, rfl⟩
      rw [hR] at hrl
      simp only [hR] at CR1
      have HR := Lib.hid hR
      have hzz : (ofL R).size + 8 ≤ 1008 := by rw [ofL_size]; omega
      have hap : ⟨#[112, 114, 111, 118, 101, 32]⟩ ++ ofL R ++ ⟨#[59, 10]⟩ = ofL (proveL ++ R ++ [59, 10]) := by
        show ofL proveL ++ ofL R ++ ofL [59, 10] = _
        rw [ofL_app, ofL_app]
      have HAP := Lib.hid hap
      have y2 := HZ0.out.cell 2
      have hz6 : 6 + (ofL R).size ≤ 1008 := by omega
      have hz7 : 6 + (ofL R).size + 2 ≤ 1008 := by omega
      have hlt' : ¬ (k : Int) < (f.steps.length : Int) := by omega
      clear hk hB hsl hL1 hR hap HB
      go_wp2_with fail
      refine (CR1.out _).mono ?_
      rintro e w3 ⟨rfl, hb3⟩
      have HB3 := Lib.hid (HBB.out.below hb3)
      have HY0 := Lib.hid (HZ0.out.below' hb3)
      have HY1 := Lib.hid (HZ1.out.below' hb3)
      have hw3 := below_then hw hb3
      clear HBB HZ0 HZ1 hb3 CR1 y2 hw
      go_wp2_with fail
      rw [HAP.out]
      refine (write_any b _ (ofL (proveL ++ R ++ [59, 10])) w3 HB3.out (by rw [ofL_size]; simp [proveL]; omega)).mono ?_
      rintro e w4 ⟨⟨u4, rfl⟩, hB4, hb4, _⟩
      have hB4 : Bld b (L1 ++ (proveL ++ R ++ [59, 10])) w4 := hB4
      obtain ⟨L2, hL2⟩ : ∃ L2, L1 ++ (proveL ++ R ++ [59, 10]) = L2 := ⟨_, rfl⟩
      have hl2 : L2.length ≤ 110000 := by rw [← hL2]; simp [proveL]; omega
      rw [hL2] at hB4
      have HL2 := Lib.hid hL2
      have HB4 := Lib.hid hB4
      have HX0 := Lib.hid (HY0.out.below hb4 hwb)
      have HX1 := Lib.hid (HY1.out.below hb4 hnb)
      have hw4 : Below w.heap.size w w4 := hw3.trans (hb4.mono (by omega))
      clear hB4 hL2 HB3 HY0 HY1 hb4 hw3 HAP hzz hz6 hz7 hrl
      go_upto_region 10 with fail
      go_cut [9] from 35 to 42 (fun s9 wc => ∃ gb gq, s9 = .pointer (some ⟨gb, 0, none⟩) ∧ Blk wc gb 24 #[.string (ofL (nmP f v)), .string ⟨#[]⟩, .slice (some ⟨gq, 0, none⟩) 1 1] ∧ RowI wc gq 1 [1] ∧ w4.heap.size ≤ gb ∧ w4.heap.size ≤ gq ∧ Below w4.heap.size w4 wc)
      case first =>
        have z0 : ∀ w', Below w4.heap.size w4 w' → w'.cell? ⟨w.heap.size, 0, none⟩ = some (.string (ofL f.name)) := fun w' hw' => (HX0.out.below' hw').cell 0
        have hn1 : (ofL f.name).size + 1 ≤ 101 := by rw [ofL_size]; omega
        have htl : (textN v).length ≤ 2 := by
          rcases Nat.lt_or_ge v 10 with h | h
          · rw [textN_small h]; simp
          · rw [textN_two (by have := HV.out; omega) h]; simp
        have hn2 : ¬ 9223372036854775807 < (ofL f.name).size + 1 := by omega
        have htl2 : (ofL (textN v)).size ≤ 2 := by rw [ofL_size]; exact htl
        have hn3 : ¬ 9223372036854775807 < (ofL f.name).size + 1 + (ofL (textN v)).size := by omega
        have hnm : ofL (nmP f v) = ofL f.name ++ ⟨#[45]⟩ ++ ofL (textN v) := by
          show _ = ofL f.name ++ ofL [45] ++ ofL (textN v)
          rw [ofL_app, ofL_app]; rfl
        have HNM := Lib.hid hnm
        clear hnm htl
        have s0 : Below w4.heap.size w4 w4.drew := (Below.refl _ _).drew
        obtain ⟨v0, hv0⟩ : ∃ v, w4.drew = v := ⟨_, rfl⟩
        refine wp_region_tree (S := Below w4.heap.size w4) (.q 0 (.q 1 (.q 2 (.q 3 (.three 4 (.q 5 (.two 6 (.q 7 (.l 8 (.t 9 .nil))) 8 (.l 6 (.q 7 (.t 9 .nil))))) 6 (.two 4 (.q 5 (.q 7 (.l 8 (.t 9 .nil)))) 8 (.l 4 (.q 5 (.q 7 (.t 9 .nil))))) 8 (.two 4 (.q 5 (.l 6 (.q 7 (.t 9 .nil)))) 6 (.l 4 (.q 5 (.q 7 (.t 9 .nil)))))))))) [9] (by kernel_rfl) (by kernel_rfl) (by kernel_rfl) (fun d _ _ _ _ h => by cases d <;> exact h) s0 ?_
        rw [hv0] at s0 ⊢
        iterate 1 (refine wpMT_q rfl rfl (fun K hK => ?_); apply Exists.intro; refine ⟨fun w' hw' => ?_, ?_⟩; (focus (go_simp; try rfl)); go_simp; refine hK _ _ ?_; clear hK K)
        iterate 1 (refine wpMT_q rfl rfl (fun K hK => ?_); apply Exists.intro; refine ⟨fun w' hw' => ?_, ?_⟩; (focus (go_simp; try rfl)); go_simp; refine hK _ _ ?_; clear hK K)
        iterate 1 (refine wpMT_q rfl rfl (fun K hK => ?_); apply Exists.intro; refine ⟨fun w' hw' => ?_, ?_⟩; (focus (go_simp; try rfl)); go_simp; refine hK _ _ ?_; clear hK K)
        iterate 1 (refine wpMT_q rfl rfl (fun K hK => ?_); apply Exists.intro; refine ⟨fun w' hw' => ?_, ?_⟩; (focus (go_simp; try rfl)); go_simp; refine hK _ _ ?_; clear hK K)
        refine wpMT_three ?_ ?_ ?_
        · skip
          refine wpMT_l rfl rfl (fun K hK => ?_)
          go_simp
          refine (CI.out _).mono ?_
          rintro r v1 ⟨rfl, rfl⟩
          dsimp only
          obtain ⟨v1, hv1⟩ : ∃ v, v = v0 := ⟨_, rfl⟩
          rw [← hv1]
          have s1 := s0
          rw [← hv1] at s1
          clear hv1
          refine hK.out _ _ s1 (fun _ => ?_)
          clear hK K
          iterate 1 (refine wpMT_q rfl rfl (fun K hK => ?_); apply Exists.intro; refine ⟨fun w' hw' => ?_, ?_⟩; (focus (go_simp; try rfl)); go_simp; refine hK _ _ ?_; clear hK K)
          refine wpMT_two ?_ ?_
          · skip
            refine wpMT_l rfl rfl (fun K hK => ?_)
            go_simp
            refine hK.out _ _ (s1.alloc s1.size _) (fun _ => ?_)
            clear hK K
            refine world_gen (fun W => Blk W v1.heap.size 3 #[.int .i64 1] ∧ Below w4.heap.size w4 W) ⟨by ((repeat (first | (with_reducible assumption) | ((with_reducible apply Blk.farAt); (focus omega)) | (with_reducible apply Blk.setb) | ((with_reducible apply Blk.newAt); (focus (simp; done))) | (with_reducible apply Blk.alloc) | (with_reducible apply Blk.drew))); all_goals (show @Eq (Array Value) _ _; rfl)), s1.alloc s1.size _⟩ ?_
            rintro v2 ⟨hQ, s2⟩
            have ltQ : w4.heap.size ≤ v1.heap.size := s1.size
            obtain ⟨gQ, egQ⟩ : ∃ q, v1.heap.size = q := ⟨_, rfl⟩
            rw [egQ] at hQ ltQ ⊢
            have lt_of_gQ : gQ < v2.heap.size := hQ.lt
            clear egQ
            iterate 1 (refine wpMT_q rfl rfl (fun K hK => ?_); apply Exists.intro; refine ⟨fun w' hw' => ?_, ?_⟩; (focus (go_simp; try rfl)); go_simp; refine hK _ _ ?_; clear hK K)
            refine wpMT_l rfl rfl (fun K hK => ?_)
            go_simp
            refine hK.out _ _ (s2.alloc s2.size _) (fun _ => ?_)
            clear hK K
            refine world_gen (fun W => Blk W v2.heap.size 24 #[.string ⟨#[]⟩, .string ⟨#[]⟩, .slice none 0 0] ∧ Blk W gQ 3 #[.int .i64 1] ∧ Below w4.heap.size w4 W) ⟨by ((repeat (first | (with_reducible assumption) | ((with_reducible apply Blk.farAt); (focus omega)) | (with_reducible apply Blk.setb) | ((with_reducible apply Blk.newAt); (focus (simp; done))) | (with_reducible apply Blk.alloc) | (with_reducible apply Blk.drew))); all_goals (show @Eq (Array Value) _ _; rfl)), by ((repeat (first | (with_reducible assumption) | ((with_reducible apply Blk.farAt); (focus omega)) | (with_reducible apply Blk.setb) | ((with_reducible apply Blk.newAt); (focus (simp; done))) | (with_reducible apply Blk.alloc) | (with_reducible apply Blk.drew))); all_goals (show @Eq (Array Value) _ _; rfl)), s2.alloc s2.size _⟩ ?_
            clear hQ
            rintro v3 ⟨hE, hQ, s3⟩
            have ltE : w4.heap.size ≤ v2.heap.size := s2.size
            have neE : gQ ≠ v2.heap.size := by have := lt_of_gQ; omega
            obtain ⟨gE, egE⟩ : ∃ q, v2.heap.size = q := ⟨_, rfl⟩
            rw [egE] at hE ltE neE ⊢
            have neEQ : gE ≠ gQ := Ne.symm neE
            have lt_of_gE : gE < v3.heap.size := hE.lt
            clear egE
            have y0 := hE.cell 0; have y1 := hE.cell 1; have y2 := hE.cell 2; have f0 := hE.frozen 0; have f1 := hE.frozen 1; have f2 := hE.frozen 2
            refine wpMT_t rfl rfl (fun K hK => ?_)
            go_simp
            refine hK.out _ _ ?_
            clear hK K
            refine wpMT_nil ?_
            go_wp2
            go_meet
            case rel => exact ⟨gE, gQ, rfl, by rw [HNM.out]; ((repeat (first | (with_reducible assumption) | ((with_reducible apply Blk.farAt); (focus omega)) | (with_reducible apply Blk.setb) | ((with_reducible apply Blk.newAt); (focus (simp; done))) | (with_reducible apply Blk.alloc) | (with_reducible apply Blk.drew))); all_goals (show @Eq (Array Value) _ _; rfl)), ⟨#[.int .i64 1], by ((repeat (first | (with_reducible assumption) | ((with_reducible apply Blk.farAt); (focus omega)) | (with_reducible apply Blk.setb) | ((with_reducible apply Blk.newAt); (focus (simp; done))) | (with_reducible apply Blk.alloc) | (with_reducible apply Blk.drew))); all_goals (show @Eq (Array Value) _ _; rfl)), rfl, Nat.le_refl _, by simp [maxLen], rfl⟩, ltE, ltQ, ((s3.setCell ltE _).setCell ltE _).setCell ltE _⟩
          · skip
            refine wpMT_l rfl rfl (fun K hK => ?_)
            go_simp
            refine hK.out _ _ (s1.alloc s1.size _) (fun _ => ?_)
            clear hK K
            refine world_gen (fun W => Blk W v1.heap.size 24 #[.string ⟨#[]⟩, .string ⟨#[]⟩, .slice none 0 0] ∧ Below w4.heap.size w4 W) ⟨by ((repeat (first | (with_reducible assumption) | ((with_reducible apply Blk.farAt); (focus omega)) | (with_reducible apply Blk.setb) | ((with_reducible apply Blk.newAt); (focus (simp; done))) | (with_reducible apply Blk.alloc) | (with_reducible apply Blk.drew))); all_goals (show @Eq (Array Value) _ _; rfl)), s1.alloc s1.size _⟩ ?_
            rintro v2 ⟨hE, s2⟩
            have ltE : w4.heap.size ≤ v1.heap.size := s1.size
            obtain ⟨gE, egE⟩ : ∃ q, v1.heap.size = q := ⟨_, rfl⟩
            rw [egE] at hE ltE ⊢
            have lt_of_gE : gE < v2.heap.size := hE.lt
            clear egE
            refine wpMT_l rfl rfl (fun K hK => ?_)
            go_simp
            refine hK.out _ _ (s2.alloc s2.size _) (fun _ => ?_)
            clear hK K
            refine world_gen (fun W => Blk W v2.heap.size 3 #[.int .i64 1] ∧ Blk W gE 24 #[.string ⟨#[]⟩, .string ⟨#[]⟩, .slice none 0 0] ∧ Below w4.heap.size w4 W) ⟨by ((repeat (first | (with_reducible assumption) | ((with_reducible apply Blk.farAt); (focus omega)) | (with_reducible apply Blk.setb) | ((with_reducible apply Blk.newAt); (focus (simp; done))) | (with_reducible apply Blk.alloc) | (with_reducible apply Blk.drew))); all_goals (show @Eq (Array Value) _ _; rfl)), by ((repeat (first | (with_reducible assumption) | ((with_reducible apply Blk.farAt); (focus omega)) | (with_reducible apply Blk.setb) | ((with_reducible apply Blk.newAt); (focus (simp; done))) | (with_reducible apply Blk.alloc) | (with_reducible apply Blk.drew))); all_goals (show @Eq (Array Value) _ _; rfl)), s2.alloc s2.size _⟩ ?_
            clear hE
            rintro v3 ⟨hQ, hE, s3⟩
            have ltQ : w4.heap.size ≤ v2.heap.size := s2.size
            have neQ : gE ≠ v2.heap.size := by have := lt_of_gE; omega
            obtain ⟨gQ, egQ⟩ : ∃ q, v2.heap.size = q := ⟨_, rfl⟩
            rw [egQ] at hQ ltQ neQ ⊢
            have neEQ : gE ≠ gQ := neQ
            have lt_of_gQ : gQ < v3.heap.size := hQ.lt
            clear egQ
            iterate 1 (refine wpMT_q rfl rfl (fun K hK => ?_); apply Exists.intro; refine ⟨fun w' hw' => ?_, ?_⟩; (focus (go_simp; try rfl)); go_simp; refine hK _ _ ?_; clear hK K)
            have y0 := hE.cell 0; have y1 := hE.cell 1; have y2 := hE.cell 2; have f0 := hE.frozen 0; have f1 := hE.frozen 1; have f2 := hE.frozen 2
            refine wpMT_t rfl rfl (fun K hK => ?_)
            go_simp
            refine hK.out _ _ ?_
            clear hK K
            refine wpMT_nil ?_
            go_wp2
            go_meet
            case rel => exact ⟨gE, gQ, rfl, by rw [HNM.out]; ((repeat (first | (with_reducible assumption) | ((with_reducible apply Blk.farAt); (focus omega)) | (with_reducible apply Blk.setb) | ((with_reducible apply Blk.newAt); (focus (simp; done))) | (with_reducible apply Blk.alloc) | (with_reducible apply Blk.drew))); all_goals (show @Eq (Array Value) _ _; rfl)), ⟨#[.int .i64 1], by ((repeat (first | (with_reducible assumption) | ((with_reducible apply Blk.farAt); (focus omega)) | (with_reducible apply Blk.setb) | ((with_reducible apply Blk.newAt); (focus (simp; done))) | (with_reducible apply Blk.alloc) | (with_reducible apply Blk.drew))); all_goals (show @Eq (Array Value) _ _; rfl)), rfl, Nat.le_refl _, by simp [maxLen], rfl⟩, ltE, ltQ, ((s3.setCell ltE _).setCell ltE _).setCell ltE _⟩
        · skip
          refine wpMT_l rfl rfl (fun K hK => ?_)
          go_simp
          refine hK.out _ _ (s0.alloc s0.size _) (fun _ => ?_)
          clear hK K
          refine world_gen (fun W => Blk W v0.heap.size 3 #[.int .i64 1] ∧ Below w4.heap.size w4 W) ⟨by ((repeat (first | (with_reducible assumption) | ((with_reducible apply Blk.farAt); (focus omega)) | (with_reducible apply Blk.setb) | ((with_reducible apply Blk.newAt); (focus (simp; done))) | (with_reducible apply Blk.alloc) | (with_reducible apply Blk.drew))); all_goals (show @Eq (Array Value) _ _; rfl)), s0.alloc s0.size _⟩ ?_
          rintro v1 ⟨hQ, s1⟩
          have ltQ : w4.heap.size ≤ v0.heap.size := s0.size
          obtain ⟨gQ, egQ⟩ : ∃ q, v0.heap.size = q := ⟨_, rfl⟩
          rw [egQ] at hQ ltQ ⊢
          have lt_of_gQ : gQ < v1.heap.size := hQ.lt
          clear egQ
          refine wpMT_two ?_ ?_
          · skip
            refine wpMT_l rfl rfl (fun K hK => ?_)
            go_simp
            refine (CI.out _).mono ?_
            rintro r v2 ⟨rfl, rfl⟩
            dsimp only
            obtain ⟨v2, hv2⟩ : ∃ v, v = v1 := ⟨_, rfl⟩
            rw [← hv2]
            have s2 := s1
            rw [← hv2] at s2
            rw [← hv2] at hQ
            have lt_of_gQ := hQ.lt
            clear hv2
            refine hK.out _ _ s2 (fun _ => ?_)
            clear hK K
            iterate 1 (refine wpMT_q rfl rfl (fun K hK => ?_); apply Exists.intro; refine ⟨fun w' hw' => ?_, ?_⟩; (focus (go_simp; try rfl)); go_simp; refine hK _ _ ?_; clear hK K)
            iterate 1 (refine wpMT_q rfl rfl (fun K hK => ?_); apply Exists.intro; refine ⟨fun w' hw' => ?_, ?_⟩; (focus (go_simp; try rfl)); go_simp; refine hK _ _ ?_; clear hK K)
            refine wpMT_l rfl rfl (fun K hK => ?_)
            go_simp
            refine hK.out _ _ (s2.alloc s2.size _) (fun _ => ?_)
            clear hK K
            refine world_gen (fun W => Blk W v2.heap.size 24 #[.string ⟨#[]⟩, .string ⟨#[]⟩, .slice none 0 0] ∧ Blk W gQ 3 #[.int .i64 1] ∧ Below w4.heap.size w4 W) ⟨by ((repeat (first | (with_reducible assumption) | ((with_reducible apply Blk.farAt); (focus omega)) | (with_reducible apply Blk.setb) | ((with_reducible apply Blk.newAt); (focus (simp; done))) | (with_reducible apply Blk.alloc) | (with_reducible apply Blk.drew))); all_goals (show @Eq (Array Value) _ _; rfl)), by ((repeat (first | (with_reducible assumption) | ((with_reducible apply Blk.farAt); (focus omega)) | (with_reducible apply Blk.setb) | ((with_reducible apply Blk.newAt); (focus (simp; done))) | (with_reducible apply Blk.alloc) | (with_reducible apply Blk.drew))); all_goals (show @Eq (Array Value) _ _; rfl)), s2.alloc s2.size _⟩ ?_
            clear hQ
            rintro v3 ⟨hE, hQ, s3⟩
            have ltE : w4.heap.size ≤ v2.heap.size := s2.size
            have neE : gQ ≠ v2.heap.size := by have := lt_of_gQ; omega
            obtain ⟨gE, egE⟩ : ∃ q, v2.heap.size = q := ⟨_, rfl⟩
            rw [egE] at hE ltE neE ⊢
            have neEQ : gE ≠ gQ := Ne.symm neE
            have lt_of_gE : gE < v3.heap.size := hE.lt
            clear egE
            have y0 := hE.cell 0; have y1 := hE.cell 1; have y2 := hE.cell 2; have f0 := hE.frozen 0; have f1 := hE.frozen 1; have f2 := hE.frozen 2
            refine wpMT_t rfl rfl (fun K hK => ?_)
            go_simp
            refine hK.out _ _ ?_
            clear hK K
            refine wpMT_nil ?_
            go_wp2
            go_meet
            case rel => exact ⟨gE, gQ, rfl, by rw [HNM.out]; ((repeat (first | (with_reducible assumption) | ((with_reducible apply Blk.farAt); (focus omega)) | (with_reducible apply Blk.setb) | ((with_reducible apply Blk.newAt); (focus (simp; done))) | (with_reducible apply Blk.alloc) | (with_reducible apply Blk.drew))); all_goals (show @Eq (Array Value) _ _; rfl)), ⟨#[.int .i64 1], by ((repeat (first | (with_reducible assumption) | ((with_reducible apply Blk.farAt); (focus omega)) | (with_reducible apply Blk.setb) | ((with_reducible apply Blk.newAt); (focus (simp; done))) | (with_reducible apply Blk.alloc) | (with_reducible apply Blk.drew))); all_goals (show @Eq (Array Value) _ _; rfl)), rfl, Nat.le_refl _, by simp [maxLen], rfl⟩, ltE, ltQ, ((s3.setCell ltE _).setCell ltE _).setCell ltE _⟩
          · skip
            refine wpMT_l rfl rfl (fun K hK => ?_)
            go_simp
            refine hK.out _ _ (s1.alloc s1.size _) (fun _ => ?_)
            clear hK K
            refine world_gen (fun W => Blk W v1.heap.size 24 #[.string ⟨#[]⟩, .string ⟨#[]⟩, .slice none 0 0] ∧ Blk W gQ 3 #[.int .i64 1] ∧ Below w4.heap.size w4 W) ⟨by ((repeat (first | (with_reducible assumption) | ((with_reducible apply Blk.farAt); (focus omega)) | (with_reducible apply Blk.setb) | ((with_reducible apply Blk.newAt); (focus (simp; done))) | (with_reducible apply Blk.alloc) | (with_reducible apply Blk.drew))); all_goals (show @Eq (Array Value) _ _; rfl)), by ((repeat (first | (with_reducible assumption) | ((with_reducible apply Blk.farAt); (focus omega)) | (with_reducible apply Blk.setb) | ((with_reducible apply Blk.newAt); (focus (simp; done))) | (with_reducible apply Blk.alloc) | (with_reducible apply Blk.drew))); all_goals (show @Eq (Array Value) _ _; rfl)), s1.alloc s1.size _⟩ ?_
            clear hQ
            rintro v2 ⟨hE, hQ, s2⟩
            have ltE : w4.heap.size ≤ v1.heap.size := s1.size
            have neE : gQ ≠ v1.heap.size := by have := lt_of_gQ; omega
            obtain ⟨gE, egE⟩ : ∃ q, v1.heap.size = q := ⟨_, rfl⟩
            rw [egE] at hE ltE neE ⊢
            have neEQ : gE ≠ gQ := Ne.symm neE
            have lt_of_gE : gE < v2.heap.size := hE.lt
            clear egE
            refine wpMT_l rfl rfl (fun K hK => ?_)
            go_simp
            refine (CI.out _).mono ?_
            rintro r v3 ⟨rfl, rfl⟩
            dsimp only
            obtain ⟨v3, hv3⟩ : ∃ v, v = v2 := ⟨_, rfl⟩
            rw [← hv3]
            have s3 := s2
            rw [← hv3] at s3
            rw [← hv3] at hE
            rw [← hv3] at hQ
            have lt_of_gE := hE.lt
            have lt_of_gQ := hQ.lt
            clear hv3
            refine hK.out _ _ s3 (fun _ => ?_)
            clear hK K
            iterate 1 (refine wpMT_q rfl rfl (fun K hK => ?_); apply Exists.intro; refine ⟨fun w' hw' => ?_, ?_⟩; (focus (go_simp; try rfl)); go_simp; refine hK _ _ ?_; clear hK K)
            iterate 1 (refine wpMT_q rfl rfl (fun K hK => ?_); apply Exists.intro; refine ⟨fun w' hw' => ?_, ?_⟩; (focus (go_simp; try rfl)); go_simp; refine hK _ _ ?_; clear hK K)
            have y0 := hE.cell 0; have y1 := hE.cell 1; have y2 := hE.cell 2; have f0 := hE.frozen 0; have f1 := hE.frozen 1; have f2 := hE.frozen 2
            refine wpMT_t rfl rfl (fun K hK => ?_)
            go_simp
            refine hK.out _ _ ?_
            clear hK K
            refine wpMT_nil ?_
            go_wp2
            go_meet
            case rel => exact ⟨gE, gQ, rfl, by rw [HNM.out]; ((repeat (first | (with_reducible assumption) | ((with_reducible apply Blk.farAt); (focus omega)) | (with_reducible apply Blk.setb) | ((with_reducible apply Blk.newAt); (focus (simp; done))) | (with_reducible apply Blk.alloc) | (with_reducible apply Blk.drew))); all_goals (show @Eq (Array Value) _ _; rfl)), ⟨#[.int .i64 1], by ((repeat (first | (with_reducible assumption) | ((with_reducible apply Blk.farAt); (focus omega)) | (with_reducible apply Blk.setb) | ((with_reducible apply Blk.newAt); (focus (simp; done))) | (with_reducible apply Blk.alloc) | (with_reducible apply Blk.drew))); all_goals (show @Eq (Array Value) _ _; rfl)), rfl, Nat.le_refl _, by simp [maxLen], rfl⟩, ltE, ltQ, ((s3.setCell ltE _).setCell ltE _).setCell ltE _⟩
        · skip
          refine wpMT_l rfl rfl (fun K hK => ?_)
          go_simp
          refine hK.out _ _ (s0.alloc s0.size _) (fun _ => ?_)
          clear hK K
          refine world_gen (fun W => Blk W v0.heap.size 24 #[.string ⟨#[]⟩, .string ⟨#[]⟩, .slice none 0 0] ∧ Below w4.heap.size w4 W) ⟨by ((repeat (first | (with_reducible assumption) | ((with_reducible apply Blk.farAt); (focus omega)) | (with_reducible apply Blk.setb) | ((with_reducible apply Blk.newAt); (focus (simp; done))) | (with_reducible apply Blk.alloc) | (with_reducible apply Blk.drew))); all_goals (show @Eq (Array Value) _ _; rfl)), s0.alloc s0.size _⟩ ?_
          rintro v1 ⟨hE, s1⟩
          have ltE : w4.heap.size ≤ v0.heap.size := s0.size
          obtain ⟨gE, egE⟩ : ∃ q, v0.heap.size = q := ⟨_, rfl⟩
          rw [egE] at hE ltE ⊢
          have lt_of_gE : gE < v1.heap.size := hE.lt
          clear egE
          refine wpMT_two ?_ ?_
          · skip
            refine wpMT_l rfl rfl (fun K hK => ?_)
            go_simp
            refine (CI.out _).mono ?_
            rintro r v2 ⟨rfl, rfl⟩
            dsimp only
            obtain ⟨v2, hv2⟩ : ∃ v, v = v1 := ⟨_, rfl⟩
            rw [← hv2]
            have s2 := s1
            rw [← hv2] at s2
            rw [← hv2] at hE
            have lt_of_gE := hE.lt
            clear hv2
            refine hK.out _ _ s2 (fun _ => ?_)
            clear hK K
            iterate 1 (refine wpMT_q rfl rfl (fun K hK => ?_); apply Exists.intro; refine ⟨fun w' hw' => ?_, ?_⟩; (focus (go_simp; try rfl)); go_simp; refine hK _ _ ?_; clear hK K)
            refine wpMT_l rfl rfl (fun K hK => ?_)
            go_simp
            refine hK.out _ _ (s2.alloc s2.size _) (fun _ => ?_)
            clear hK K
            refine world_gen (fun W => Blk W v2.heap.size 3 #[.int .i64 1] ∧ Blk W gE 24 #[.string ⟨#[]⟩, .string ⟨#[]⟩, .slice none 0 0] ∧ Below w4.heap.size w4 W) ⟨by ((repeat (first | (with_reducible assumption) | ((with_reducible apply Blk.farAt); (focus omega)) | (with_reducible apply Blk.setb) | ((with_reducible apply Blk.newAt); (focus (simp; done))) | (with_reducible apply Blk.alloc) | (with_reducible apply Blk.drew))); all_goals (show @Eq (Array Value) _ _; rfl)), by ((repeat (first | (with_reducible assumption) | ((with_reducible apply Blk.farAt); (focus omega)) | (with_reducible apply Blk.setb) | ((with_reducible apply Blk.newAt); (focus (simp; done))) | (with_reducible apply Blk.alloc) | (with_reducible apply Blk.drew))); all_goals (show @Eq (Array Value) _ _; rfl)), s2.alloc s2.size _⟩ ?_
            clear hE
            rintro v3 ⟨hQ, hE, s3⟩
            have ltQ : w4.heap.size ≤ v2.heap.size := s2.size
            have neQ : gE ≠ v2.heap.size := by have := lt_of_gE; omega
            obtain ⟨gQ, egQ⟩ : ∃ q, v2.heap.size = q := ⟨_, rfl⟩
            rw [egQ] at hQ ltQ neQ ⊢
            have neEQ : gE ≠ gQ := neQ
            have lt_of_gQ : gQ < v3.heap.size := hQ.lt
            clear egQ
            iterate 1 (refine wpMT_q rfl rfl (fun K hK => ?_); apply Exists.intro; refine ⟨fun w' hw' => ?_, ?_⟩; (focus (go_simp; try rfl)); go_simp; refine hK _ _ ?_; clear hK K)
            have y0 := hE.cell 0; have y1 := hE.cell 1; have y2 := hE.cell 2; have f0 := hE.frozen 0; have f1 := hE.frozen 1; have f2 := hE.frozen 2
            refine wpMT_t rfl rfl (fun K hK => ?_)
            go_simp
            refine hK.out _ _ ?_
            clear hK K
            refine wpMT_nil ?_
            go_wp2
            go_meet
            case rel => exact ⟨gE, gQ, rfl, by rw [HNM.out]; ((repeat (first | (with_reducible assumption) | ((with_reducible apply Blk.farAt); (focus omega)) | (with_reducible apply Blk.setb) | ((with_reducible apply Blk.newAt); (focus (simp; done))) | (with_reducible apply Blk.alloc) | (with_reducible apply Blk.drew))); all_goals (show @Eq (Array Value) _ _; rfl)), ⟨#[.int .i64 1], by ((repeat (first | (with_reducible assumption) | ((with_reducible apply Blk.farAt); (focus omega)) | (with_reducible apply Blk.setb) | ((with_reducible apply Blk.newAt); (focus (simp; done))) | (with_reducible apply Blk.alloc) | (with_reducible apply Blk.drew))); all_goals (show @Eq (Array Value) _ _; rfl)), rfl, Nat.le_refl _, by simp [maxLen], rfl⟩, ltE, ltQ, ((s3.setCell ltE _).setCell ltE _).setCell ltE _⟩
          · skip
            refine wpMT_l rfl rfl (fun K hK => ?_)
            go_simp
            refine hK.out _ _ (s1.alloc s1.size _) (fun _ => ?_)
            clear hK K
            refine world_gen (fun W => Blk W v1.heap.size 3 #[.int .i64 1] ∧ Blk W gE 24 #[.string ⟨#[]⟩, .string ⟨#[]⟩, .slice none 0 0] ∧ Below w4.heap.size w4 W) ⟨by ((repeat (first | (with_reducible assumption) | ((with_reducible apply Blk.farAt); (focus omega)) | (with_reducible apply Blk.setb) | ((with_reducible apply Blk.newAt); (focus (simp; done))) | (with_reducible apply Blk.alloc) | (with_reducible apply Blk.drew))); all_goals (show @Eq (Array Value) _ _; rfl)), by ((repeat (first | (with_reducible assumption) | ((with_reducible apply Blk.farAt); (focus omega)) | (with_reducible apply Blk.setb) | ((with_reducible apply Blk.newAt); (focus (simp; done))) | (with_reducible apply Blk.alloc) | (with_reducible apply Blk.drew))); all_goals (show @Eq (Array Value) _ _; rfl)), s1.alloc s1.size _⟩ ?_
            clear hE
            rintro v2 ⟨hQ, hE, s2⟩
            have ltQ : w4.heap.size ≤ v1.heap.size := s1.size
            have neQ : gE ≠ v1.heap.size := by have := lt_of_gE; omega
            obtain ⟨gQ, egQ⟩ : ∃ q, v1.heap.size = q := ⟨_, rfl⟩
            rw [egQ] at hQ ltQ neQ ⊢
            have neEQ : gE ≠ gQ := neQ
            have lt_of_gQ : gQ < v2.heap.size := hQ.lt
            clear egQ
            refine wpMT_l rfl rfl (fun K hK => ?_)
            go_simp
            refine (CI.out _).mono ?_
            rintro r v3 ⟨rfl, rfl⟩
            dsimp only
            obtain ⟨v3, hv3⟩ : ∃ v, v = v2 := ⟨_, rfl⟩
            rw [← hv3]
            have s3 := s2
            rw [← hv3] at s3
            rw [← hv3] at hE
            rw [← hv3] at hQ
            have lt_of_gE := hE.lt
            have lt_of_gQ := hQ.lt
            clear hv3
            refine hK.out _ _ s3 (fun _ => ?_)
            clear hK K
            iterate 1 (refine wpMT_q rfl rfl (fun K hK => ?_); apply Exists.intro; refine ⟨fun w' hw' => ?_, ?_⟩; (focus (go_simp; try rfl)); go_simp; refine hK _ _ ?_; clear hK K)
            iterate 1 (refine wpMT_q rfl rfl (fun K hK => ?_); apply Exists.intro; refine ⟨fun w' hw' => ?_, ?_⟩; (focus (go_simp; try rfl)); go_simp; refine hK _ _ ?_; clear hK K)
            have y0 := hE.cell 0; have y1 := hE.cell 1; have y2 := hE.cell 2; have f0 := hE.frozen 0; have f1 := hE.frozen 1; have f2 := hE.frozen 2
            refine wpMT_t rfl rfl (fun K hK => ?_)
            go_simp
            refine hK.out _ _ ?_
            clear hK K
            refine wpMT_nil ?_
            go_wp2
            go_meet
            case rel => exact ⟨gE, gQ, rfl, by rw [HNM.out]; ((repeat (first | (with_reducible assumption) | ((with_reducible apply Blk.farAt); (focus omega)) | (with_reducible apply Blk.setb) | ((with_reducible apply Blk.newAt); (focus (simp; done))) | (with_reducible apply Blk.alloc) | (with_reducible apply Blk.drew))); all_goals (show @Eq (Array Value) _ _; rfl)), ⟨#[.int .i64 1], by ((repeat (first | (with_reducible assumption) | ((with_reducible apply Blk.farAt); (focus omega)) | (with_reducible apply Blk.setb) | ((with_reducible apply Blk.newAt); (focus (simp; done))) | (with_reducible apply Blk.alloc) | (with_reducible apply Blk.drew))); all_goals (show @Eq (Array Value) _ _; rfl)), rfl, Nat.le_refl _, by simp [maxLen], rfl⟩, ltE, ltQ, ((s3.setCell ltE _).setCell ltE _).setCell ltE _⟩
      case rest =>
        obtain ⟨gb, gq, rfl, he, hq, hgb, hgq, hc⟩ := hcut
        rename_i wc
        have hbl := HB4.out.lt
        have HBC := Lib.hid (HB4.out.below hc)
        have HXC := Lib.hid (HX0.out.below' hc)
        have HNC := Lib.hid (HX1.out.below' hc)
        have hwc := below_then hw4 hc
        have HE := Lib.hid he
        have HQ := Lib.hid hq
        have hgbb : gb ≠ b := by omega
        have hgqb : gq ≠ b := by omega
        have hgbn : gb ≠ n1 := by omega
        have hgbw : w.heap.size ≤ gb := by have := hw4.size; omega
        have hgqw : w.heap.size ≤ gq := by have := hw4.size; omega
        clear he hq HX0 HX1 HB4 hc
        by_cases h6 : 6 ≤ v
        · have hd6 : (6 : Int) ≤ (v : Int) := by omega
          have CR1 := Lib.hid (fun W => CR.out f.wrong HWA.out hs2 W)
          have hrl : (replP pm f.wrong).length ≤ 1000 := by unfold replP; rw [replTo_len]; simp; exact hs2
          obtain ⟨R2, hR2⟩ : ∃ R2, replP pm f.wrong = R2 := ⟨_, rfl⟩
          rw [hR2] at hrl
          simp only [hR2] at CR1
          have HR2 := Lib.hid hR2
          have hap : ⟨#[112, 114, 111, 118, 101, 32]⟩ ++ ofL R2 ++ ⟨#[59, 10]⟩ = ofL (proveL ++ R2 ++ [59, 10]) := by
            show ofL proveL ++ ofL R2 ++ ofL [59, 10] = _
            rw [ofL_app, ofL_app]
          have HAP := Lib.hid hap
          have y3 := HXC.out.cell 3
          have hz6 : 6 + (ofL R2).size ≤ 1008 := by rw [ofL_size]; omega
          have hz7 : 6 + (ofL R2).size + 2 ≤ 1008 := by rw [ofL_size]; omega
          clear hR2 hap
          go_wp2_with fail
          refine (CR1.out _).mono ?_
          rintro e w5 ⟨rfl, hb5⟩
          have HB5 := Lib.hid (HBC.out.below hb5)
          have HX5 := Lib.hid (HXC.out.below' hb5)
          have HN5 := Lib.hid (HNC.out.below' hb5)
          have HE5 := Lib.hid (HE.out.below' hb5)
          have HQ5 := Lib.hid (HQ.out.blk fun cs h => h.below' hb5)
          have hw5 := below_then hwc hb5
          clear HBC HXC HNC HE HQ hb5 CR1 y3 hwc
          go_wp2_with fail
          rw [HAP.out]
          refine (write_any b _ (ofL (proveL ++ R2 ++ [59, 10])) w5 HB5.out (by rw [ofL_size]; simp [proveL]; omega)).mono ?_
          rintro e w6 ⟨⟨u6, rfl⟩, hB6, hb6, ho6⟩
          have hB6 : Bld b (L2 ++ (proveL ++ R2 ++ [59, 10])) w6 := hB6
          obtain ⟨L3, hL3⟩ : ∃ L3, L2 ++ (proveL ++ R2 ++ [59, 10]) = L3 := ⟨_, rfl⟩
          rw [hL3] at hB6
          have HL3 := Lib.hid hL3
          have hX6 := HX5.out.below hb6 hwb
          have hN6 := HN5.out.below hb6 hnb
          have hE6 := Oth.blk ho6 HE5.out hgbb (by decide)
          have hQ6 := HQ5.out.blk fun cs h => Oth.blk ho6 h hgqb (by decide)
          have hw6 : Below w.heap.size w w6 := hw5.trans (hb6.mono (by omega))
          have HB6 := Lib.hid hB6; have HX6 := Lib.hid hX6; have HN6 := Lib.hid hN6; have HE6 := Lib.hid hE6; have HQ6 := Lib.hid hQ6
          have x0 := hX6.cell 0
          have q2 := hE6.cell 2
          have hsrc : srcP f v = L3 := by
            unfold srcP
            rw [if_pos h6, HPM.out, HL1.out, HR.out, HL2.out, HR2.out, HL3.out]
          have HSRC := Lib.hid hsrc
          clear hB6 hL3 hX6 hN6 hE6 hQ6 HB5 HX5 HN5 HE5 HQ5 hb6 ho6 hw5 hsrc
          by_cases hu : f.name = unkL
          · have hun : ((ofL f.name).toList == [101, 113, 117, 105, 108, 97, 116, 101, 114, 97, 108]) = true := by rw [toList_data, data_ofL, hu]; rfl
            have hos : osP f v = [1, 0] := by unfold osP; rw [if_pos h6, if_pos hu]
            clear hu
            have HOS := Lib.hid hos
            clear hos
            go_upto_region 17 with (at_builtin; go_must (refine append_int rfl (.tmp 56) (.tmp 58) rfl (some ⟨gq, 0, none⟩) 1 rfl ((HQ6.out.own (Nat.le_refl gq)).alloc _) 0 w6.heap.size 1 rfl (by simp) [1, 0] rfl (by simp) (by have := HQ6.out.lt; simp; omega) ?_); intro a3 c3 w3 ho3 hg3 hx3; have f3 := ((HE6.out.alloc (.cells #[.int .i64 0] 3)).grown hg3 (fun e => by simp [Value.ownBlock] at e; exact HQ6.out.ne HE6.out (by decide) e.symm)).frozen 2; have f4 := ((HE6.out.alloc (.cells #[.int .i64 0] 3)).grown hg3 (fun e => by simp [Value.ownBlock] at e; exact HQ6.out.ne HE6.out (by decide) e.symm)).cell 2)
            obtain ⟨g2, rfl, hg2⟩ := hx3
            have HQ9 := Lib.hid (RowI.of ho3)
            have hgr : ((w6.alloc (.cells #[.int .i64 0] 3))).grownBy w3 (some gq) := hg3
            have hge : some gb ≠ some gq := fun e => by injection e with e; exact HQ6.out.ne HE6.out (by decide) e.symm
            have hE3 := (HE6.out.alloc (.cells #[.int .i64 0] 3)).grown hgr hge
            have hN3 := (HN6.out.alloc (.cells #[.int .i64 0] 3)).grown hgr (fun e => by injection e with e; omega)
            have hB3 : Bld b L3 w3 := by
              obtain ⟨cur, hcur, _⟩ := HQ6.out
              exact Bld.grown (HB6.out.alloc (.cells #[.int .i64 0] 3)) (hcur.alloc _) (by decide) (by decide) hgr
            have hw3 : Below w.heap.size w w3 := Below.grown (hw6.alloc hw6.size (.cells #[.int .i64 0] 3)) hgr (by have := hw6.size; simp; omega) (fun k hk => by injection hk with hk; omega)
            have hg2b : g2 ≠ b := by
              have hbl6 := HB6.out.lt
              rcases hg2 with e | e
              · injection e with e; injection e with e; omega
              · simp at e; omega
            have hg2w : w.heap.size ≤ g2 := by
              have := hw6.size
              rcases hg2 with e | e
              · injection e with e; injection e with e; omega
              · simp at e; omega
            have hqe : g2 ≠ gb := HQ9.out.ne hE3 (by decide)
            have hgn : g2 ≠ n1 := HQ9.out.ne hN3 (by decide) |> fun h => h
            have hBS : Bld b L3 (w3.setCell ⟨gb, 2, none⟩ (.slice (some ⟨g2, 0, none⟩) 2 c3)) := Bld.grown hB3 hE3 (by decide) (by decide) (grown_set w3 gb 2 _)
            refine world_gen (fun W => Bld b L3 W ∧ Blk W gb 24 #[.string (ofL (nmP f v)), .string ⟨#[]⟩, .slice (some ⟨g2, 0, none⟩) 2 c3] ∧ RowI W g2 c3 [1, 0] ∧ Blk W n1 24 #[.string ⟨#[]⟩, .string ⟨#[]⟩, .slice none 0 0] ∧ Below w.heap.size w W) ⟨hBS, (by ((repeat (first | (with_reducible assumption) | ((with_reducible apply Blk.farAt); (focus omega)) | (with_reducible apply Blk.setb) | ((with_reducible apply Blk.newAt); (focus (simp; done))) | (with_reducible apply Blk.alloc) | (with_reducible apply Blk.drew))); all_goals (show @Eq (Array Value) _ _; rfl))), (HQ9.out.blk fun cs h => by ((repeat (first | (with_reducible assumption) | ((with_reducible apply Blk.farAt); (focus omega)) | (with_reducible apply Blk.setb) | ((with_reducible apply Blk.newAt); (focus (simp; done))) | (with_reducible apply Blk.alloc) | (with_reducible apply Blk.drew))); all_goals (show @Eq (Array Value) _ _; rfl))), (by ((repeat (first | (with_reducible assumption) | ((with_reducible apply Blk.farAt); (focus omega)) | (with_reducible apply Blk.setb) | ((with_reducible apply Blk.newAt); (focus (simp; done))) | (with_reducible apply Blk.alloc) | (with_reducible apply Blk.drew))); all_goals (show @Eq (Array Value) _ _; rfl))), (hw3.setCell hgbw _)⟩ ?_
            rintro w7 ⟨hB7, hE7, hQ7, hN7, hw7⟩
            have HB7 := Lib.hid hB7; have HE7 := Lib.hid hE7; have HQ7 := Lib.hid hQ7; have HN7 := Lib.hid hN7
            clear hB7 hE7 hQ7 hN7
            go_wp2_with fail
            refine (string_any b L3 w7 HB7.out).mono ?_
            rintro e w8 ⟨rfl, hb8, ho8⟩
            have hE8 := Oth.blk ho8 HE7.out hgbb (by decide)
            have hN8 := HN7.out.below hb8 hnb
            have hqe : g2 ≠ gb := HQ7.out.ne HE7.out (by decide)
            have HQ8 := Lib.hid (HQ7.out.blk fun cs h => Oth.blk ho8 h hg2b (by decide))
            have hw8 : Below w.heap.size w w8 := hw7.trans (hb8.mono (by omega))
            have e0 := hE8.cell 0; have e1 := hE8.cell 1; have e2 := hE8.cell 2; have f0 := hE8.frozen 0; have f1 := hE8.frozen 1; have f2 := hE8.frozen 2
            have d0 := hN8.cell 0; have d1 := hN8.cell 1; have d2 := hN8.cell 2; have k0 := hN8.frozen 0; have k1 := hN8.frozen 1; have k2 := hN8.frozen 2
            clear HB7 HE7 HQ7 HN7 ho8
            go_wp2
            refine world_gen (fun W => Blk W n1 24 #[.string (ofL (nmP f v)), .string (ofL L3), .slice (some ⟨g2, 0, none⟩) 2 c3] ∧ RowI W g2 c3 [1, 0] ∧ Below w.heap.size w W) ⟨by ((repeat (first | (with_reducible assumption) | ((with_reducible apply Blk.farAt); (focus omega)) | (with_reducible apply Blk.setb) | ((with_reducible apply Blk.newAt); (focus (simp; done))) | (with_reducible apply Blk.alloc) | (with_reducible apply Blk.drew))); all_goals (show @Eq (Array Value) _ _; rfl)), HQ8.out.blk fun cs h => by ((repeat (first | (with_reducible assumption) | ((with_reducible apply Blk.farAt); (focus omega)) | (with_reducible apply Blk.setb) | ((with_reducible apply Blk.newAt); (focus (simp; done))) | (with_reducible apply Blk.alloc) | (with_reducible apply Blk.drew))); all_goals (show @Eq (Array Value) _ _; rfl)), (((hw8.setCell hgbw _).setCell (Nat.le_of_lt hwn) _).setCell (Nat.le_of_lt hwn) _).setCell (Nat.le_of_lt hwn) _⟩ ?_
            rintro w9 ⟨hN9, hQ9, hw9⟩
            have j0 := hN9.cell 0; have j1 := hN9.cell 1; have j2 := hN9.cell 2
            refine bodyPost_ret (v := .agg #[.string (ofL (nmP f v)), .string (ofL L3), .slice (some ⟨g2, 0, none⟩) 2 c3]) (by simp [results, Tryd.results15, go_sem, j0, j1, j2]) rfl ?_
            exact ⟨_, _, by rw [HSRC.out, HOS.out]; rfl, fun V hV => by rw [HOS.out]; exact hQ9.reads hg2w hV (by simp [InInt]), hw9⟩
          · have hun : ((ofL f.name).toList == [101, 113, 117, 105, 108, 97, 116, 101, 114, 97, 108]) = false := by rw [toList_data, data_ofL, beq_eq_false_iff_ne]; exact hu
            have hos : osP f v = [1, 2] := by unfold osP; rw [if_pos h6, if_neg hu]
            clear hu
            have HOS := Lib.hid hos
            clear hos
            go_upto_region 17 with (at_builtin; go_must (refine append_int rfl (.tmp 56) (.tmp 58) rfl (some ⟨gq, 0, none⟩) 1 rfl ((HQ6.out.own (Nat.le_refl gq)).alloc _) 2 w6.heap.size 1 rfl (by simp) [1, 2] rfl (by simp) (by have := HQ6.out.lt; simp; omega) ?_); intro a3 c3 w3 ho3 hg3 hx3; have f3 := ((HE6.out.alloc (.cells #[.int .i64 2] 3)).grown hg3 (fun e => by simp [Value.ownBlock] at e; exact HQ6.out.ne HE6.out (by decide) e.symm)).frozen 2; have f4 := ((HE6.out.alloc (.cells #[.int .i64 2] 3)).grown hg3 (fun e => by simp [Value.ownBlock] at e; exact HQ6.out.ne HE6.out (by decide) e.symm)).cell 2)
            obtain ⟨g2, rfl, hg2⟩ := hx3
            have HQ9 := Lib.hid (RowI.of ho3)
            have hgr : ((w6.alloc (.cells #[.int .i64 2] 3))).grownBy w3 (some gq) := hg3
            have hge : some gb ≠ some gq := fun e => by injection e with e; exact HQ6.out.ne HE6.out (by decide) e.symm
            have hE3 := (HE6.out.alloc (.cells #[.int .i64 2] 3)).grown hgr hge
            have hN3 := (HN6.out.alloc (.cells #[.int .i64 2] 3)).grown hgr (fun e => by injection e with e; omega)
            have hB3 : Bld b L3 w3 := by
              obtain ⟨cur, hcur, _⟩ := HQ6.out
              exact Bld.grown (HB6.out.alloc (.cells #[.int .i64 2] 3)) (hcur.alloc _) (by decide) (by decide) hgr
            have hw3 : Below w.heap.size w w3 := Below.grown (hw6.alloc hw6.size (.cells #[.int .i64 2] 3)) hgr (by have := hw6.size; simp; omega) (fun k hk => by injection hk with hk; omega)
            have hg2b : g2 ≠ b := by
              have hbl6 := HB6.out.lt
              rcases hg2 with e | e
              · injection e with e; injection e with e; omega
              · simp at e; omega
            have hg2w : w.heap.size ≤ g2 := by
              have := hw6.size
              rcases hg2 with e | e
              · injection e with e; injection e with e; omega
              · simp at e; omega
            have hqe : g2 ≠ gb := HQ9.out.ne hE3 (by decide)
            have hgn : g2 ≠ n1 := HQ9.out.ne hN3 (by decide) |> fun h => h
            have hBS : Bld b L3 (w3.setCell ⟨gb, 2, none⟩ (.slice (some ⟨g2, 0, none⟩) 2 c3)) := Bld.grown hB3 hE3 (by decide) (by decide) (grown_set w3 gb 2 _)
            refine world_gen (fun W => Bld b L3 W ∧ Blk W gb 24 #[.string (ofL (nmP f v)), .string ⟨#[]⟩, .slice (some ⟨g2, 0, none⟩) 2 c3] ∧ RowI W g2 c3 [1, 2] ∧ Blk W n1 24 #[.string ⟨#[]⟩, .string ⟨#[]⟩, .slice none 0 0] ∧ Below w.heap.size w W) ⟨hBS, (by ((repeat (first | (with_reducible assumption) | ((with_reducible apply Blk.farAt); (focus omega)) | (with_reducible apply Blk.setb) | ((with_reducible apply Blk.newAt); (focus (simp; done))) | (with_reducible apply Blk.alloc) | (with_reducible apply Blk.drew))); all_goals (show @Eq (Array Value) _ _; rfl))), (HQ9.out.blk fun cs h => by ((repeat (first | (with_reducible assumption) | ((with_reducible apply Blk.farAt); (focus omega)) | (with_reducible apply Blk.setb) | ((with_reducible apply Blk.newAt); (focus (simp; done))) | (with_reducible apply Blk.alloc) | (with_reducible apply Blk.drew))); all_goals (show @Eq (Array Value) _ _; rfl))), (by ((repeat (first | (with_reducible assumption) | ((with_reducible apply Blk.farAt); (focus omega)) | (with_reducible apply Blk.setb) | ((with_reducible apply Blk.newAt); (focus (simp; done))) | (with_reducible apply Blk.alloc) | (with_reducible apply Blk.drew))); all_goals (show @Eq (Array Value) _ _; rfl))), (hw3.setCell hgbw _)⟩ ?_
            rintro w7 ⟨hB7, hE7, hQ7, hN7, hw7⟩
            have HB7 := Lib.hid hB7; have HE7 := Lib.hid hE7; have HQ7 := Lib.hid hQ7; have HN7 := Lib.hid hN7
            clear hB7 hE7 hQ7 hN7
            go_wp2_with fail
            refine (string_any b L3 w7 HB7.out).mono ?_
            rintro e w8 ⟨rfl, hb8, ho8⟩
            have hE8 := Oth.blk ho8 HE7.out hgbb (by decide)
            have hN8 := HN7.out.below hb8 hnb
            have hqe : g2 ≠ gb := HQ7.out.ne HE7.out (by decide)
            have HQ8 := Lib.hid (HQ7.out.blk fun cs h => Oth.blk ho8 h hg2b (by decide))
            have hw8 : Below w.heap.size w w8 := hw7.trans (hb8.mono (by omega))
            have e0 := hE8.cell 0; have e1 := hE8.cell 1; have e2 := hE8.cell 2; have f0 := hE8.frozen 0; have f1 := hE8.frozen 1; have f2 := hE8.frozen 2
            have d0 := hN8.cell 0; have d1 := hN8.cell 1; have d2 := hN8.cell 2; have k0 := hN8.frozen 0; have k1 := hN8.frozen 1; have k2 := hN8.frozen 2
            clear HB7 HE7 HQ7 HN7 ho8
            go_wp2
            refine world_gen (fun W => Blk W n1 24 #[.string (ofL (nmP f v)), .string (ofL L3), .slice (some ⟨g2, 0, none⟩) 2 c3] ∧ RowI W g2 c3 [1, 2] ∧ Below w.heap.size w W) ⟨by ((repeat (first | (with_reducible assumption) | ((with_reducible apply Blk.farAt); (focus omega)) | (with_reducible apply Blk.setb) | ((with_reducible apply Blk.newAt); (focus (simp; done))) | (with_reducible apply Blk.alloc) | (with_reducible apply Blk.drew))); all_goals (show @Eq (Array Value) _ _; rfl)), HQ8.out.blk fun cs h => by ((repeat (first | (with_reducible assumption) | ((with_reducible apply Blk.farAt); (focus omega)) | (with_reducible apply Blk.setb) | ((with_reducible apply Blk.newAt); (focus (simp; done))) | (with_reducible apply Blk.alloc) | (with_reducible apply Blk.drew))); all_goals (show @Eq (Array Value) _ _; rfl)), (((hw8.setCell hgbw _).setCell (Nat.le_of_lt hwn) _).setCell (Nat.le_of_lt hwn) _).setCell (Nat.le_of_lt hwn) _⟩ ?_
            rintro w9 ⟨hN9, hQ9, hw9⟩
            have j0 := hN9.cell 0; have j1 := hN9.cell 1; have j2 := hN9.cell 2
            refine bodyPost_ret (v := .agg #[.string (ofL (nmP f v)), .string (ofL L3), .slice (some ⟨g2, 0, none⟩) 2 c3]) (by simp [results, Tryd.results15, go_sem, j0, j1, j2]) rfl ?_
            exact ⟨_, _, by rw [HSRC.out, HOS.out]; rfl, fun V hV => by rw [HOS.out]; exact hQ9.reads hg2w hV (by simp [InInt]), hw9⟩
        · have hd6 : ¬ (6 : Int) ≤ (v : Int) := by omega
          have hos : osP f v = [1] := by unfold osP; rw [if_neg h6]
          have hsrc : srcP f v = L2 := by
            unfold srcP
            rw [if_neg h6, HPM.out, HL1.out, HR.out, HL2.out, List.append_nil]
          have HOS := Lib.hid hos; have HSRC := Lib.hid hsrc
          clear hos hsrc
          go_upto_region 17 with fail
          refine world_gen (fun W => Bld b L2 W ∧ Blk W gb 24 #[.string (ofL (nmP f v)), .string ⟨#[]⟩, .slice (some ⟨gq, 0, none⟩) 1 1] ∧ RowI W gq 1 [1] ∧ Blk W n1 24 #[.string ⟨#[]⟩, .string ⟨#[]⟩, .slice none 0 0] ∧ Below w.heap.size w W) ⟨HBC.out, HE.out, HQ.out, HNC.out, hwc⟩ ?_
          rintro w7 ⟨hB7, hE7, hQ7, hN7, hw7⟩
          have HB7 := Lib.hid hB7; have HE7 := Lib.hid hE7; have HQ7 := Lib.hid hQ7; have HN7 := Lib.hid hN7
          clear hB7 hE7 hQ7 hN7
          go_wp2_with fail
          refine (string_any b L2 w7 HB7.out).mono ?_
          rintro e w8 ⟨rfl, hb8, ho8⟩
          have hE8 := Oth.blk ho8 HE7.out hgbb (by decide)
          have hN8 := HN7.out.below hb8 hnb
          have hqe : gq ≠ gb := HQ7.out.ne HE7.out (by decide)
          have HQ8 := Lib.hid (HQ7.out.blk fun cs h => Oth.blk ho8 h hgqb (by decide))
          have hw8 : Below w.heap.size w w8 := hw7.trans (hb8.mono (by omega))
          have e0 := hE8.cell 0; have e1 := hE8.cell 1; have e2 := hE8.cell 2; have f0 := hE8.frozen 0; have f1 := hE8.frozen 1; have f2 := hE8.frozen 2
          have d0 := hN8.cell 0; have d1 := hN8.cell 1; have d2 := hN8.cell 2; have k0 := hN8.frozen 0; have k1 := hN8.frozen 1; have k2 := hN8.frozen 2
          clear HB7 HE7 HQ7 HN7 ho8
          go_wp2
          refine world_gen (fun W => Blk W n1 24 #[.string (ofL (nmP f v)), .string (ofL L2), .slice (some ⟨gq, 0, none⟩) 1 1] ∧ RowI W gq 1 [1] ∧ Below w.heap.size w W) ⟨by ((repeat (first | (with_reducible assumption) | ((with_reducible apply Blk.farAt); (focus omega)) | (with_reducible apply Blk.setb) | ((with_reducible apply Blk.newAt); (focus (simp; done))) | (with_reducible apply Blk.alloc) | (with_reducible apply Blk.drew))); all_goals (show @Eq (Array Value) _ _; rfl)), HQ8.out.blk fun cs h => by ((repeat (first | (with_reducible assumption) | ((with_reducible apply Blk.farAt); (focus omega)) | (with_reducible apply Blk.setb) | ((with_reducible apply Blk.newAt); (focus (simp; done))) | (with_reducible apply Blk.alloc) | (with_reducible apply Blk.drew))); all_goals (show @Eq (Array Value) _ _; rfl)), (((hw8.setCell hgbw _).setCell (Nat.le_of_lt hwn) _).setCell (Nat.le_of_lt hwn) _).setCell (Nat.le_of_lt hwn) _⟩ ?_
          rintro w9 ⟨hN9, hQ9, hw9⟩
          have j0 := hN9.cell 0; have j1 := hN9.cell 1; have j2 := hN9.cell 2
          refine bodyPost_ret (v := .agg #[.string (ofL (nmP f v)), .string (ofL L2), .slice (some ⟨gq, 0, none⟩) 1 1]) (by simp [results, Tryd.results15, go_sem, j0, j1, j2]) rfl ?_
          exact ⟨_, _, by rw [HSRC.out, HOS.out]; rfl, fun V hV => by rw [HOS.out]; exact hQ9.reads hgqw hV (by simp [InInt]), hw9⟩
end Go.Proofs.YtmeplgagpnligaaDoor
