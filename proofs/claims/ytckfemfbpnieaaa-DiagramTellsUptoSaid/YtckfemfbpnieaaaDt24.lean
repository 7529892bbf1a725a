/- Walks: the intersection of two intervals, by the program and by the reference. -/
import Derived.Test.YtckfemfbpnieaaaDt21
import Derived.Test.YtckfemfbpnieaaaDt6
import Derived.Deep.CutRange

/- Walks: the intersection of two intervals, by the program and by the reference. -/
namespace Go.Proofs.Ytckfemfbpnieaaa
open Go.RowKit

/-- an interval, whatever it is, and whether two intervals meet -/
def Met (b : Bool) (e : Ending) : Prop := ∃ z1 z2 : QA, e = .returned (.tuple #[.agg #[.bool z1.neg, .slice z1.a z1.n z1.c, .slice z1.b z1.m z1.d, .bool z2.neg, .slice z2.a z2.n z2.c, .slice z2.b z2.m z2.d], .bool b])
def PkQ (z x y : QA) (p q r : Rat) : Prop := Hid (∀ k W, QK k W x p → QK k W y q → QK k W z r)

set_option maxRecDepth 100000 in
set_option maxHeartbeats 8000000 in
theorem imeet_q (x1 x2 y1 y2 : QA) (a b c d : Rat) (k : Nat) (w : World) (H1 : QK k w x1 a) (H2 : QK k w x2 b) (H3 : QK k w y1 c) (H4 : QK k w y2 d) (hk : k ≤ 100000) :
    Calls Try.prog 16 #[.agg #[.bool x1.neg, .slice x1.a x1.n x1.c, .slice x1.b x1.m x1.d, .bool x2.neg, .slice x2.a x2.n x2.c, .slice x2.b x2.m x2.d], .agg #[.bool y1.neg, .slice y1.a y1.n y1.c, .slice y1.b y1.m y1.d, .bool y2.neg, .slice y2.a y2.n y2.c, .slice y2.b y2.m y2.d]] w fun e w' => Met (decide (qmax a c ≤ qmin b d)) e ∧ Below w.heap.size w w' := by
  have R1 := Lib.hid (fun W (hW : Below w.heap.size w W) => H1.ext (Ext.below hW))
  have R2 := Lib.hid (fun W (hW : Below w.heap.size w W) => H2.ext (Ext.below hW))
  have R3 := Lib.hid (fun W (hW : Below w.heap.size w W) => H3.ext (Ext.below hW))
  have R4 := Lib.hid (fun W (hW : Below w.heap.size w W) => H4.ext (Ext.below hW))
  clear H1 H2 H3 H4
  obtain ⟨R, hR⟩ : ∃ R, decide (qmax a c ≤ qmin b d) = R := ⟨_, rfl⟩
  rw [hR]
  replace hR := Lib.hid hR
  go_enter Try.func16, Try.ntmps16
  go_wp2
  refine world_gen (fun W => Blk W w.heap.size 36 #[.bool x1.neg, .slice x1.a x1.n x1.c, .slice x1.b x1.m x1.d, .bool x2.neg, .slice x2.a x2.n x2.c, .slice x2.b x2.m x2.d] ∧ Blk W (w.heap.size + 1) 36 #[.bool y1.neg, .slice y1.a y1.n y1.c, .slice y1.b y1.m y1.d, .bool y2.neg, .slice y2.a y2.n y2.c, .slice y2.b y2.m y2.d] ∧ Blk W (w.heap.size + 1 + 1) 36 #[.bool false, .slice none 0 0, .slice none 0 0, .bool false, .slice none 0 0, .slice none 0 0] ∧ Below w.heap.size w W ∧ w.heap.size < w.heap.size + 1 + 1 ∧ w.heap.size + 1 + 1 < W.heap.size) ⟨((Blk.new w _ _).alloc _).alloc _, (blk_at1 w _ _ _).alloc _, blk_at2 w _ _ _ _, by go_grown, by omega, by simp⟩ ?_
  rintro w0 ⟨hx, hy, hz, hw0, hg3, hg4⟩
  revert hx hy hz hg3 hg4
  generalize w.heap.size + 1 + 1 = g3
  generalize w.heap.size + 1 = g2
  intro hx hy hz hg3 hg4
  have k0 := held (hx.cell 0); have j0 := held (hy.cell 0)
  have k1 := held (hx.cell 1); have j1 := held (hy.cell 1)
  have k2 := held (hx.cell 2); have j2 := held (hy.cell 2)
  have k3 := held (hx.cell 3); have j3 := held (hy.cell 3)
  have k4 := held (hx.cell 4); have j4 := held (hy.cell 4)
  have k5 := held (hx.cell 5); have j5 := held (hy.cell 5)
  have s0 : Below w0.heap.size w0 w0.drew := (Below.refl _ _).drew
  obtain ⟨v0, hv0⟩ : ∃ v, w0.drew = v := ⟨_, rfl⟩
  go_cut [6] from 7 to 20 (fun s6 wc => ∃ (g6 : Nat) (z1 z2 : QA), s6 = .pointer (some ⟨g6, 0, none⟩) ∧ Blk wc g6 36 #[.bool z1.neg, .slice z1.a z1.n z1.c, .slice z1.b z1.m z1.d, .bool z2.neg, .slice z2.a z2.n z2.c, .slice z2.b z2.m z2.d] ∧ PkQ z1 x1 y1 a c (qmax a c) ∧ PkQ z2 x2 y2 b d (qmin b d) ∧ Below w0.heap.size w0 wc)
  case first =>
    refine wp_region_tree (S := Below w0.heap.size w0) (.q 0 (.q 1 (.q 2 (.q 3 (.q 6 (.q 7 (.q 8 (.q 9 (.three 4 (.three 5 (.two 10 (.two 11 (.q 12 (.l 13 (.t 14 .nil))) 13 (.l 11 (.q 12 (.t 14 .nil)))) 13 (.l 10 (.l 11 (.q 12 (.t 14 .nil))))) 10 (.two 5 (.two 11 (.q 12 (.l 13 (.t 14 .nil))) 13 (.l 11 (.q 12 (.t 14 .nil)))) 13 (.l 5 (.l 11 (.q 12 (.t 14 .nil))))) 13 (.two 5 (.l 10 (.l 11 (.q 12 (.t 14 .nil)))) 10 (.l 5 (.l 11 (.q 12 (.t 14 .nil)))))) 10 (.two 4 (.two 5 (.two 11 (.q 12 (.l 13 (.t 14 .nil))) 13 (.l 11 (.q 12 (.t 14 .nil)))) 13 (.l 5 (.l 11 (.q 12 (.t 14 .nil))))) 13 (.l 4 (.l 5 (.l 11 (.q 12 (.t 14 .nil)))))) 13 (.two 4 (.two 5 (.l 10 (.l 11 (.q 12 (.t 14 .nil)))) 10 (.l 5 (.l 11 (.q 12 (.t 14 .nil))))) 10 (.l 4 (.l 5 (.l 11 (.q 12 (.t 14 .nil))))))))))))))) [14] (by kernel_rfl) (by kernel_rfl) (by kernel_rfl) (fun d _ _ _ _ h => by cases d <;> exact h) s0 ?_
    rw [hv0] at s0 ⊢
    iterate 8 (refine wpMT_q rfl rfl (fun K hK => ?_); apply Exists.intro; refine ⟨fun w' hw' => ?_, ?_⟩; (focus (go_simp; try rfl)); go_simp; refine hK _ _ ?_; clear hK K)
    refine wpMT_three ?_ ?_ ?_
    · skip
      refine wpMT_l rfl rfl (fun K hK => ?_)
      go_simp
      refine hK.out _ _ (s0.alloc s0.size _) (fun _ => ?_)
      clear hK K
      refine world_gen (fun W => Blk W v0.heap.size 34 #[.bool y1.neg, .slice y1.a y1.n y1.c, .slice y1.b y1.m y1.d] ∧ Below w0.heap.size w0 W) ⟨by ((repeat (first | (with_reducible assumption) | ((with_reducible apply Blk.farAt); (focus omega)) | (with_reducible apply Blk.setb) | ((with_reducible apply Blk.newAt); (focus (simp; done))) | (with_reducible apply Blk.alloc) | (with_reducible apply Blk.drew))); all_goals (show @Eq (Array Value) _ _; rfl)), s0.alloc s0.size _⟩ ?_
      rintro v1 ⟨hA, s1⟩
      obtain ⟨gA, egA⟩ : ∃ q, v0.heap.size = q := ⟨_, rfl⟩
      rw [egA] at hA ⊢
      clear egA
      refine wpMT_three ?_ ?_ ?_
      · skip
        refine wpMT_l rfl rfl (fun K hK => ?_)
        go_simp
        refine (great_q x1 y1 a c k gA 1 v1 (R1.out _ (below_then hw0 s1)) (R3.out _ (below_then hw0 s1)) hk (hA.cell 0) (hA.cell 1) (hA.cell 2)).mono ?_
        rintro r v2 ⟨⟨z1, rfl, HZ1⟩, hb2⟩
        dsimp only
        have s2 := below_then s1 hb2
        refine hK.out _ _ s2 (fun _ => ?_)
        clear hK K
        refine wpMT_two ?_ ?_
        · skip
          refine wpMT_l rfl rfl (fun K hK => ?_)
          go_simp
          refine hK.out _ _ (s2.alloc s2.size _) (fun _ => ?_)
          clear hK K
          refine world_gen (fun W => Blk W v2.heap.size 34 #[.bool y2.neg, .slice y2.a y2.n y2.c, .slice y2.b y2.m y2.d] ∧ Below w0.heap.size w0 W) ⟨by ((repeat (first | (with_reducible assumption) | ((with_reducible apply Blk.farAt); (focus omega)) | (with_reducible apply Blk.setb) | ((with_reducible apply Blk.newAt); (focus (simp; done))) | (with_reducible apply Blk.alloc) | (with_reducible apply Blk.drew))); all_goals (show @Eq (Array Value) _ _; rfl)), s2.alloc s2.size _⟩ ?_
          rintro v3 ⟨hB, s3⟩
          obtain ⟨gB, egB⟩ : ∃ q, v2.heap.size = q := ⟨_, rfl⟩
          rw [egB] at hB ⊢
          clear egB
          refine wpMT_two ?_ ?_
          · skip
            refine wpMT_l rfl rfl (fun K hK => ?_)
            go_simp
            refine (least_q x2 y2 b d k gB 1 v3 (R2.out _ (below_then hw0 s3)) (R4.out _ (below_then hw0 s3)) hk (hB.cell 0) (hB.cell 1) (hB.cell 2)).mono ?_
            rintro r v4 ⟨⟨z2, rfl, HZ2⟩, hb4⟩
            dsimp only
            have s4 := below_then s3 hb4
            refine hK.out _ _ s4 (fun _ => ?_)
            clear hK K
            iterate 1 (refine wpMT_q rfl rfl (fun K hK => ?_); apply Exists.intro; refine ⟨fun w' hw' => ?_, ?_⟩; (focus (go_simp; try rfl)); go_simp; refine hK _ _ ?_; clear hK K)
            refine wpMT_l rfl rfl (fun K hK => ?_)
            go_simp
            refine hK.out _ _ (s4.alloc s4.size _) (fun _ => ?_)
            clear hK K
            refine world_gen (fun W => Blk W v4.heap.size 36 #[.bool false, .slice none 0 0, .slice none 0 0, .bool false, .slice none 0 0, .slice none 0 0] ∧ Below w0.heap.size w0 W) ⟨by ((repeat (first | (with_reducible assumption) | ((with_reducible apply Blk.farAt); (focus omega)) | (with_reducible apply Blk.setb) | ((with_reducible apply Blk.newAt); (focus (simp; done))) | (with_reducible apply Blk.alloc) | (with_reducible apply Blk.drew))); all_goals (show @Eq (Array Value) _ _; rfl)), s4.alloc s4.size _⟩ ?_
            rintro v5 ⟨h6, s5⟩
            obtain ⟨g6, eg6⟩ : ∃ q, v4.heap.size = q := ⟨_, rfl⟩
            rw [eg6] at h6 ⊢
            have lt6 : w0.heap.size ≤ g6 := by rw [← eg6]; exact s4.size
            clear eg6
            have y0 := h6.cell 0; have f0 := h6.frozen 0; have y1 := h6.cell 1; have f1 := h6.frozen 1; have y2 := h6.cell 2; have f2 := h6.frozen 2; have y3 := h6.cell 3; have f3 := h6.frozen 3; have y4 := h6.cell 4; have f4 := h6.frozen 4; have y5 := h6.cell 5; have f5 := h6.frozen 5
            refine wpMT_t rfl rfl (fun K hK => ?_)
            go_simp
            refine hK.out _ _ ?_
            clear hK K
            refine wpMT_nil ?_
            go_wp2
            go_meet
            case rel => exact ⟨_, z1, z2, rfl, by ((repeat (first | (with_reducible assumption) | ((with_reducible apply Blk.farAt); (focus omega)) | (with_reducible apply Blk.setb) | ((with_reducible apply Blk.newAt); (focus (simp; done))) | (with_reducible apply Blk.alloc) | (with_reducible apply Blk.drew))); all_goals (show @Eq (Array Value) _ _; rfl)), HZ1, HZ2, by (go_grown <;> exact lt6)⟩
          · skip
            refine wpMT_l rfl rfl (fun K hK => ?_)
            go_simp
            refine hK.out _ _ (s3.alloc s3.size _) (fun _ => ?_)
            clear hK K
            refine world_gen (fun W => Blk W v3.heap.size 36 #[.bool false, .slice none 0 0, .slice none 0 0, .bool false, .slice none 0 0, .slice none 0 0] ∧ Blk W gB 34 #[.bool y2.neg, .slice y2.a y2.n y2.c, .slice y2.b y2.m y2.d] ∧ Below w0.heap.size w0 W) ⟨by ((repeat (first | (with_reducible assumption) | ((with_reducible apply Blk.farAt); (focus omega)) | (with_reducible apply Blk.setb) | ((with_reducible apply Blk.newAt); (focus (simp; done))) | (with_reducible apply Blk.alloc) | (with_reducible apply Blk.drew))); all_goals (show @Eq (Array Value) _ _; rfl)), by ((repeat (first | (with_reducible assumption) | ((with_reducible apply Blk.farAt); (focus omega)) | (with_reducible apply Blk.setb) | ((with_reducible apply Blk.newAt); (focus (simp; done))) | (with_reducible apply Blk.alloc) | (with_reducible apply Blk.drew))); all_goals (show @Eq (Array Value) _ _; rfl)), s3.alloc s3.size _⟩ ?_
            clear hB
            rintro v4 ⟨h6, hB, s4⟩
            obtain ⟨g6, eg6⟩ : ∃ q, v3.heap.size = q := ⟨_, rfl⟩
            rw [eg6] at h6 ⊢
            have lt6 : w0.heap.size ≤ g6 := by rw [← eg6]; exact s3.size
            clear eg6
            refine wpMT_l rfl rfl (fun K hK => ?_)
            go_simp
            refine (least_q x2 y2 b d k gB 1 v4 (R2.out _ (below_then hw0 s4)) (R4.out _ (below_then hw0 s4)) hk (hB.cell 0) (hB.cell 1) (hB.cell 2)).mono ?_
            rintro r v5 ⟨⟨z2, rfl, HZ2⟩, hb5⟩
            dsimp only
            have s5 := below_then s4 hb5
            refine hK.out _ _ s5 (fun _ => ?_)
            clear hK K
            replace h6 := h6.below' hb5
            iterate 1 (refine wpMT_q rfl rfl (fun K hK => ?_); apply Exists.intro; refine ⟨fun w' hw' => ?_, ?_⟩; (focus (go_simp; try rfl)); go_simp; refine hK _ _ ?_; clear hK K)
            have y0 := h6.cell 0; have f0 := h6.frozen 0; have y1 := h6.cell 1; have f1 := h6.frozen 1; have y2 := h6.cell 2; have f2 := h6.frozen 2; have y3 := h6.cell 3; have f3 := h6.frozen 3; have y4 := h6.cell 4; have f4 := h6.frozen 4; have y5 := h6.cell 5; have f5 := h6.frozen 5
            refine wpMT_t rfl rfl (fun K hK => ?_)
            go_simp
            refine hK.out _ _ ?_
            clear hK K
            refine wpMT_nil ?_
            go_wp2
            go_meet
            case rel => exact ⟨_, z1, z2, rfl, by ((repeat (first | (with_reducible assumption) | ((with_reducible apply Blk.farAt); (focus omega)) | (with_reducible apply Blk.setb) | ((with_reducible apply Blk.newAt); (focus (simp; done))) | (with_reducible apply Blk.alloc) | (with_reducible apply Blk.drew))); all_goals (show @Eq (Array Value) _ _; rfl)), HZ1, HZ2, by (go_grown <;> exact lt6)⟩
        · skip
          refine wpMT_l rfl rfl (fun K hK => ?_)
          go_simp
          refine hK.out _ _ (s2.alloc s2.size _) (fun _ => ?_)
          clear hK K
          refine world_gen (fun W => Blk W v2.heap.size 36 #[.bool false, .slice none 0 0, .slice none 0 0, .bool false, .slice none 0 0, .slice none 0 0] ∧ Below w0.heap.size w0 W) ⟨by ((repeat (first | (with_reducible assumption) | ((with_reducible apply Blk.farAt); (focus omega)) | (with_reducible apply Blk.setb) | ((with_reducible apply Blk.newAt); (focus (simp; done))) | (with_reducible apply Blk.alloc) | (with_reducible apply Blk.drew))); all_goals (show @Eq (Array Value) _ _; rfl)), s2.alloc s2.size _⟩ ?_
          rintro v3 ⟨h6, s3⟩
          obtain ⟨g6, eg6⟩ : ∃ q, v2.heap.size = q := ⟨_, rfl⟩
          rw [eg6] at h6 ⊢
          have lt6 : w0.heap.size ≤ g6 := by rw [← eg6]; exact s2.size
          clear eg6
          refine wpMT_l rfl rfl (fun K hK => ?_)
          go_simp
          refine hK.out _ _ (s3.alloc s3.size _) (fun _ => ?_)
          clear hK K
          refine world_gen (fun W => Blk W v3.heap.size 34 #[.bool y2.neg, .slice y2.a y2.n y2.c, .slice y2.b y2.m y2.d] ∧ Blk W g6 36 #[.bool false, .slice none 0 0, .slice none 0 0, .bool false, .slice none 0 0, .slice none 0 0] ∧ Below w0.heap.size w0 W) ⟨by ((repeat (first | (with_reducible assumption) | ((with_reducible apply Blk.farAt); (focus omega)) | (with_reducible apply Blk.setb) | ((with_reducible apply Blk.newAt); (focus (simp; done))) | (with_reducible apply Blk.alloc) | (with_reducible apply Blk.drew))); all_goals (show @Eq (Array Value) _ _; rfl)), by ((repeat (first | (with_reducible assumption) | ((with_reducible apply Blk.farAt); (focus omega)) | (with_reducible apply Blk.setb) | ((with_reducible apply Blk.newAt); (focus (simp; done))) | (with_reducible apply Blk.alloc) | (with_reducible apply Blk.drew))); all_goals (show @Eq (Array Value) _ _; rfl)), s3.alloc s3.size _⟩ ?_
          clear h6
          rintro v4 ⟨hB, h6, s4⟩
          obtain ⟨gB, egB⟩ : ∃ q, v3.heap.size = q := ⟨_, rfl⟩
          rw [egB] at hB ⊢
          clear egB
          refine wpMT_l rfl rfl (fun K hK => ?_)
          go_simp
          refine (least_q x2 y2 b d k gB 1 v4 (R2.out _ (below_then hw0 s4)) (R4.out _ (below_then hw0 s4)) hk (hB.cell 0) (hB.cell 1) (hB.cell 2)).mono ?_
          rintro r v5 ⟨⟨z2, rfl, HZ2⟩, hb5⟩
          dsimp only
          have s5 := below_then s4 hb5
          refine hK.out _ _ s5 (fun _ => ?_)
          clear hK K
          replace h6 := h6.below' hb5
          iterate 1 (refine wpMT_q rfl rfl (fun K hK => ?_); apply Exists.intro; refine ⟨fun w' hw' => ?_, ?_⟩; (focus (go_simp; try rfl)); go_simp; refine hK _ _ ?_; clear hK K)
          have y0 := h6.cell 0; have f0 := h6.frozen 0; have y1 := h6.cell 1; have f1 := h6.frozen 1; have y2 := h6.cell 2; have f2 := h6.frozen 2; have y3 := h6.cell 3; have f3 := h6.frozen 3; have y4 := h6.cell 4; have f4 := h6.frozen 4; have y5 := h6.cell 5; have f5 := h6.frozen 5
          refine wpMT_t rfl rfl (fun K hK => ?_)
          go_simp
          refine hK.out _ _ ?_
          clear hK K
          refine wpMT_nil ?_
          go_wp2
          go_meet
          case rel => exact ⟨_, z1, z2, rfl, by ((repeat (first | (with_reducible assumption) | ((with_reducible apply Blk.farAt); (focus omega)) | (with_reducible apply Blk.setb) | ((with_reducible apply Blk.newAt); (focus (simp; done))) | (with_reducible apply Blk.alloc) | (with_reducible apply Blk.drew))); all_goals (show @Eq (Array Value) _ _; rfl)), HZ1, HZ2, by (go_grown <;> exact lt6)⟩
      · skip
        refine wpMT_l rfl rfl (fun K hK => ?_)
        go_simp
        refine hK.out _ _ (s1.alloc s1.size _) (fun _ => ?_)
        clear hK K
        refine world_gen (fun W => Blk W v1.heap.size 34 #[.bool y2.neg, .slice y2.a y2.n y2.c, .slice y2.b y2.m y2.d] ∧ Blk W gA 34 #[.bool y1.neg, .slice y1.a y1.n y1.c, .slice y1.b y1.m y1.d] ∧ Below w0.heap.size w0 W) ⟨by ((repeat (first | (with_reducible assumption) | ((with_reducible apply Blk.farAt); (focus omega)) | (with_reducible apply Blk.setb) | ((with_reducible apply Blk.newAt); (focus (simp; done))) | (with_reducible apply Blk.alloc) | (with_reducible apply Blk.drew))); all_goals (show @Eq (Array Value) _ _; rfl)), by ((repeat (first | (with_reducible assumption) | ((with_reducible apply Blk.farAt); (focus omega)) | (with_reducible apply Blk.setb) | ((with_reducible apply Blk.newAt); (focus (simp; done))) | (with_reducible apply Blk.alloc) | (with_reducible apply Blk.drew))); all_goals (show @Eq (Array Value) _ _; rfl)), s1.alloc s1.size _⟩ ?_
        clear hA
        rintro v2 ⟨hB, hA, s2⟩
        obtain ⟨gB, egB⟩ : ∃ q, v1.heap.size = q := ⟨_, rfl⟩
        rw [egB] at hB ⊢
        clear egB
        refine wpMT_two ?_ ?_
        · skip
          refine wpMT_l rfl rfl (fun K hK => ?_)
          go_simp
          refine (great_q x1 y1 a c k gA 1 v2 (R1.out _ (below_then hw0 s2)) (R3.out _ (below_then hw0 s2)) hk (hA.cell 0) (hA.cell 1) (hA.cell 2)).mono ?_
          rintro r v3 ⟨⟨z1, rfl, HZ1⟩, hb3⟩
          dsimp only
          have s3 := below_then s2 hb3
          refine hK.out _ _ s3 (fun _ => ?_)
          clear hK K
          replace hB := hB.below' hb3
          refine wpMT_two ?_ ?_
          · skip
            refine wpMT_l rfl rfl (fun K hK => ?_)
            go_simp
            refine (least_q x2 y2 b d k gB 1 v3 (R2.out _ (below_then hw0 s3)) (R4.out _ (below_then hw0 s3)) hk (hB.cell 0) (hB.cell 1) (hB.cell 2)).mono ?_
            rintro r v4 ⟨⟨z2, rfl, HZ2⟩, hb4⟩
            dsimp only
            have s4 := below_then s3 hb4
            refine hK.out _ _ s4 (fun _ => ?_)
            clear hK K
            iterate 1 (refine wpMT_q rfl rfl (fun K hK => ?_); apply Exists.intro; refine ⟨fun w' hw' => ?_, ?_⟩; (focus (go_simp; try rfl)); go_simp; refine hK _ _ ?_; clear hK K)
            refine wpMT_l rfl rfl (fun K hK => ?_)
            go_simp
            refine hK.out _ _ (s4.alloc s4.size _) (fun _ => ?_)
            clear hK K
            refine world_gen (fun W => Blk W v4.heap.size 36 #[.bool false, .slice none 0 0, .slice none 0 0, .bool false, .slice none 0 0, .slice none 0 0] ∧ Below w0.heap.size w0 W) ⟨by ((repeat (first | (with_reducible assumption) | ((with_reducible apply Blk.farAt); (focus omega)) | (with_reducible apply Blk.setb) | ((with_reducible apply Blk.newAt); (focus (simp; done))) | (with_reducible apply Blk.alloc) | (with_reducible apply Blk.drew))); all_goals (show @Eq (Array Value) _ _; rfl)), s4.alloc s4.size _⟩ ?_
            rintro v5 ⟨h6, s5⟩
            obtain ⟨g6, eg6⟩ : ∃ q, v4.heap.size = q := ⟨_, rfl⟩
            rw [eg6] at h6 ⊢
            have lt6 : w0.heap.size ≤ g6 := by rw [← eg6]; exact s4.size
            clear eg6
            have y0 := h6.cell 0; have f0 := h6.frozen 0; have y1 := h6.cell 1; have f1 := h6.frozen 1; have y2 := h6.cell 2; have f2 := h6.frozen 2; have y3 := h6.cell 3; have f3 := h6.frozen 3; have y4 := h6.cell 4; have f4 := h6.frozen 4; have y5 := h6.cell 5; have f5 := h6.frozen 5
            refine wpMT_t rfl rfl (fun K hK => ?_)
            go_simp
            refine hK.out _ _ ?_
            clear hK K
            refine wpMT_nil ?_
            go_wp2
            go_meet
            case rel => exact ⟨_, z1, z2, rfl, by ((repeat (first | (with_reducible assumption) | ((with_reducible apply Blk.farAt); (focus omega)) | (with_reducible apply Blk.setb) | ((with_reducible apply Blk.newAt); (focus (simp; done))) | (with_reducible apply Blk.alloc) | (with_reducible apply Blk.drew))); all_goals (show @Eq (Array Value) _ _; rfl)), HZ1, HZ2, by (go_grown <;> exact lt6)⟩
          · skip
            refine wpMT_l rfl rfl (fun K hK => ?_)
            go_simp
            refine hK.out _ _ (s3.alloc s3.size _) (fun _ => ?_)
            clear hK K
            refine world_gen (fun W => Blk W v3.heap.size 36 #[.bool false, .slice none 0 0, .slice none 0 0, .bool false, .slice none 0 0, .slice none 0 0] ∧ Blk W gB 34 #[.bool y2.neg, .slice y2.a y2.n y2.c, .slice y2.b y2.m y2.d] ∧ Below w0.heap.size w0 W) ⟨by ((repeat (first | (with_reducible assumption) | ((with_reducible apply Blk.farAt); (focus omega)) | (with_reducible apply Blk.setb) | ((with_reducible apply Blk.newAt); (focus (simp; done))) | (with_reducible apply Blk.alloc) | (with_reducible apply Blk.drew))); all_goals (show @Eq (Array Value) _ _; rfl)), by ((repeat (first | (with_reducible assumption) | ((with_reducible apply Blk.farAt); (focus omega)) | (with_reducible apply Blk.setb) | ((with_reducible apply Blk.newAt); (focus (simp; done))) | (with_reducible apply Blk.alloc) | (with_reducible apply Blk.drew))); all_goals (show @Eq (Array Value) _ _; rfl)), s3.alloc s3.size _⟩ ?_
            clear hB
            rintro v4 ⟨h6, hB, s4⟩
            obtain ⟨g6, eg6⟩ : ∃ q, v3.heap.size = q := ⟨_, rfl⟩
            rw [eg6] at h6 ⊢
            have lt6 : w0.heap.size ≤ g6 := by rw [← eg6]; exact s3.size
            clear eg6
            refine wpMT_l rfl rfl (fun K hK => ?_)
            go_simp
            refine (least_q x2 y2 b d k gB 1 v4 (R2.out _ (below_then hw0 s4)) (R4.out _ (below_then hw0 s4)) hk (hB.cell 0) (hB.cell 1) (hB.cell 2)).mono ?_
            rintro r v5 ⟨⟨z2, rfl, HZ2⟩, hb5⟩
            dsimp only
            have s5 := below_then s4 hb5
            refine hK.out _ _ s5 (fun _ => ?_)
            clear hK K
            replace h6 := h6.below' hb5
            iterate 1 (refine wpMT_q rfl rfl (fun K hK => ?_); apply Exists.intro; refine ⟨fun w' hw' => ?_, ?_⟩; (focus (go_simp; try rfl)); go_simp; refine hK _ _ ?_; clear hK K)
            have y0 := h6.cell 0; have f0 := h6.frozen 0; have y1 := h6.cell 1; have f1 := h6.frozen 1; have y2 := h6.cell 2; have f2 := h6.frozen 2; have y3 := h6.cell 3; have f3 := h6.frozen 3; have y4 := h6.cell 4; have f4 := h6.frozen 4; have y5 := h6.cell 5; have f5 := h6.frozen 5
            refine wpMT_t rfl rfl (fun K hK => ?_)
            go_simp
            refine hK.out _ _ ?_
            clear hK K
            refine wpMT_nil ?_
            go_wp2
            go_meet
            case rel => exact ⟨_, z1, z2, rfl, by ((repeat (first | (with_reducible assumption) | ((with_reducible apply Blk.farAt); (focus omega)) | (with_reducible apply Blk.setb) | ((with_reducible apply Blk.newAt); (focus (simp; done))) | (with_reducible apply Blk.alloc) | (with_reducible apply Blk.drew))); all_goals (show @Eq (Array Value) _ _; rfl)), HZ1, HZ2, by (go_grown <;> exact lt6)⟩
        · skip
          refine wpMT_l rfl rfl (fun K hK => ?_)
          go_simp
          refine hK.out _ _ (s2.alloc s2.size _) (fun _ => ?_)
          clear hK K
          refine world_gen (fun W => Blk W v2.heap.size 36 #[.bool false, .slice none 0 0, .slice none 0 0, .bool false, .slice none 0 0, .slice none 0 0] ∧ Blk W gA 34 #[.bool y1.neg, .slice y1.a y1.n y1.c, .slice y1.b y1.m y1.d] ∧ Blk W gB 34 #[.bool y2.neg, .slice y2.a y2.n y2.c, .slice y2.b y2.m y2.d] ∧ Below w0.heap.size w0 W) ⟨by ((repeat (first | (with_reducible assumption) | ((with_reducible apply Blk.farAt); (focus omega)) | (with_reducible apply Blk.setb) | ((with_reducible apply Blk.newAt); (focus (simp; done))) | (with_reducible apply Blk.alloc) | (with_reducible apply Blk.drew))); all_goals (show @Eq (Array Value) _ _; rfl)), by ((repeat (first | (with_reducible assumption) | ((with_reducible apply Blk.farAt); (focus omega)) | (with_reducible apply Blk.setb) | ((with_reducible apply Blk.newAt); (focus (simp; done))) | (with_reducible apply Blk.alloc) | (with_reducible apply Blk.drew))); all_goals (show @Eq (Array Value) _ _; rfl)), by ((repeat (first | (with_reducible assumption) | ((with_reducible apply Blk.farAt); (focus omega)) | (with_reducible apply Blk.setb) | ((with_reducible apply Blk.newAt); (focus (simp; done))) | (with_reducible apply Blk.alloc) | (with_reducible apply Blk.drew))); all_goals (show @Eq (Array Value) _ _; rfl)), s2.alloc s2.size _⟩ ?_
          clear hA hB
          rintro v3 ⟨h6, hA, hB, s3⟩
          obtain ⟨g6, eg6⟩ : ∃ q, v2.heap.size = q := ⟨_, rfl⟩
          rw [eg6] at h6 ⊢
          have lt6 : w0.heap.size ≤ g6 := by rw [← eg6]; exact s2.size
          clear eg6
          refine wpMT_l rfl rfl (fun K hK => ?_)
          go_simp
          refine (great_q x1 y1 a c k gA 1 v3 (R1.out _ (below_then hw0 s3)) (R3.out _ (below_then hw0 s3)) hk (hA.cell 0) (hA.cell 1) (hA.cell 2)).mono ?_
          rintro r v4 ⟨⟨z1, rfl, HZ1⟩, hb4⟩
          dsimp only
          have s4 := below_then s3 hb4
          refine hK.out _ _ s4 (fun _ => ?_)
          clear hK K
          replace hB := hB.below' hb4
          replace h6 := h6.below' hb4
          refine wpMT_l rfl rfl (fun K hK => ?_)
          go_simp
          refine (least_q x2 y2 b d k gB 1 v4 (R2.out _ (below_then hw0 s4)) (R4.out _ (below_then hw0 s4)) hk (hB.cell 0) (hB.cell 1) (hB.cell 2)).mono ?_
          rintro r v5 ⟨⟨z2, rfl, HZ2⟩, hb5⟩
          dsimp only
          have s5 := below_then s4 hb5
          refine hK.out _ _ s5 (fun _ => ?_)
          clear hK K
          replace h6 := h6.below' hb5
          iterate 1 (refine wpMT_q rfl rfl (fun K hK => ?_); apply Exists.intro; refine ⟨fun w' hw' => ?_, ?_⟩; (focus (go_simp; try rfl)); go_simp; refine hK _ _ ?_; clear hK K)
          have y0 := h6.cell 0; have f0 := h6.frozen 0; have y1 := h6.cell 1; have f1 := h6.frozen 1; have y2 := h6.cell 2; have f2 := h6.frozen 2; have y3 := h6.cell 3; have f3 := h6.frozen 3; have y4 := h6.cell 4; have f4 := h6.frozen 4; have y5 := h6.cell 5; have f5 := h6.frozen 5
          refine wpMT_t rfl rfl (fun K hK => ?_)
          go_simp
          refine hK.out _ _ ?_
          clear hK K
          refine wpMT_nil ?_
          go_wp2
          go_meet
          case rel => exact ⟨_, z1, z2, rfl, by ((repeat (first | (with_reducible assumption) | ((with_reducible apply Blk.farAt); (focus omega)) | (with_reducible apply Blk.setb) | ((with_reducible apply Blk.newAt); (focus (simp; done))) | (with_reducible apply Blk.alloc) | (with_reducible apply Blk.drew))); all_goals (show @Eq (Array Value) _ _; rfl)), HZ1, HZ2, by (go_grown <;> exact lt6)⟩
      · skip
        refine wpMT_l rfl rfl (fun K hK => ?_)
        go_simp
        refine hK.out _ _ (s1.alloc s1.size _) (fun _ => ?_)
        clear hK K
        refine world_gen (fun W => Blk W v1.heap.size 36 #[.bool false, .slice none 0 0, .slice none 0 0, .bool false, .slice none 0 0, .slice none 0 0] ∧ Blk W gA 34 #[.bool y1.neg, .slice y1.a y1.n y1.c, .slice y1.b y1.m y1.d] ∧ Below w0.heap.size w0 W) ⟨by ((repeat (first | (with_reducible assumption) | ((with_reducible apply Blk.farAt); (focus omega)) | (with_reducible apply Blk.setb) | ((with_reducible apply Blk.newAt); (focus (simp; done))) | (with_reducible apply Blk.alloc) | (with_reducible apply Blk.drew))); all_goals (show @Eq (Array Value) _ _; rfl)), by ((repeat (first | (with_reducible assumption) | ((with_reducible apply Blk.farAt); (focus omega)) | (with_reducible apply Blk.setb) | ((with_reducible apply Blk.newAt); (focus (simp; done))) | (with_reducible apply Blk.alloc) | (with_reducible apply Blk.drew))); all_goals (show @Eq (Array Value) _ _; rfl)), s1.alloc s1.size _⟩ ?_
        clear hA
        rintro v2 ⟨h6, hA, s2⟩
        obtain ⟨g6, eg6⟩ : ∃ q, v1.heap.size = q := ⟨_, rfl⟩
        rw [eg6] at h6 ⊢
        have lt6 : w0.heap.size ≤ g6 := by rw [← eg6]; exact s1.size
        clear eg6
        refine wpMT_two ?_ ?_
        · skip
          refine wpMT_l rfl rfl (fun K hK => ?_)
          go_simp
          refine (great_q x1 y1 a c k gA 1 v2 (R1.out _ (below_then hw0 s2)) (R3.out _ (below_then hw0 s2)) hk (hA.cell 0) (hA.cell 1) (hA.cell 2)).mono ?_
          rintro r v3 ⟨⟨z1, rfl, HZ1⟩, hb3⟩
          dsimp only
          have s3 := below_then s2 hb3
          refine hK.out _ _ s3 (fun _ => ?_)
          clear hK K
          replace h6 := h6.below' hb3
          refine wpMT_l rfl rfl (fun K hK => ?_)
          go_simp
          refine hK.out _ _ (s3.alloc s3.size _) (fun _ => ?_)
          clear hK K
          refine world_gen (fun W => Blk W v3.heap.size 34 #[.bool y2.neg, .slice y2.a y2.n y2.c, .slice y2.b y2.m y2.d] ∧ Blk W g6 36 #[.bool false, .slice none 0 0, .slice none 0 0, .bool false, .slice none 0 0, .slice none 0 0] ∧ Below w0.heap.size w0 W) ⟨by ((repeat (first | (with_reducible assumption) | ((with_reducible apply Blk.farAt); (focus omega)) | (with_reducible apply Blk.setb) | ((with_reducible apply Blk.newAt); (focus (simp; done))) | (with_reducible apply Blk.alloc) | (with_reducible apply Blk.drew))); all_goals (show @Eq (Array Value) _ _; rfl)), by ((repeat (first | (with_reducible assumption) | ((with_reducible apply Blk.farAt); (focus omega)) | (with_reducible apply Blk.setb) | ((with_reducible apply Blk.newAt); (focus (simp; done))) | (with_reducible apply Blk.alloc) | (with_reducible apply Blk.drew))); all_goals (show @Eq (Array Value) _ _; rfl)), s3.alloc s3.size _⟩ ?_
          clear h6
          rintro v4 ⟨hB, h6, s4⟩
          obtain ⟨gB, egB⟩ : ∃ q, v3.heap.size = q := ⟨_, rfl⟩
          rw [egB] at hB ⊢
          clear egB
          refine wpMT_l rfl rfl (fun K hK => ?_)
          go_simp
          refine (least_q x2 y2 b d k gB 1 v4 (R2.out _ (below_then hw0 s4)) (R4.out _ (below_then hw0 s4)) hk (hB.cell 0) (hB.cell 1) (hB.cell 2)).mono ?_
          rintro r v5 ⟨⟨z2, rfl, HZ2⟩, hb5⟩
          dsimp only
          have s5 := below_then s4 hb5
          refine hK.out _ _ s5 (fun _ => ?_)
          clear hK K
          replace h6 := h6.below' hb5
          iterate 1 (refine wpMT_q rfl rfl (fun K hK => ?_); apply Exists.intro; refine ⟨fun w' hw' => ?_, ?_⟩; (focus (go_simp; try rfl)); go_simp; refine hK _ _ ?_; clear hK K)
          have y0 := h6.cell 0; have f0 := h6.frozen 0; have y1 := h6.cell 1; have f1 := h6.frozen 1; have y2 := h6.cell 2; have f2 := h6.frozen 2; have y3 := h6.cell 3; have f3 := h6.frozen 3; have y4 := h6.cell 4; have f4 := h6.frozen 4; have y5 := h6.cell 5; have f5 := h6.frozen 5
          refine wpMT_t rfl rfl (fun K hK => ?_)
          go_simp
          refine hK.out _ _ ?_
          clear hK K
          refine wpMT_nil ?_
          go_wp2
          go_meet
          case rel => exact ⟨_, z1, z2, rfl, by ((repeat (first | (with_reducible assumption) | ((with_reducible apply Blk.farAt); (focus omega)) | (with_reducible apply Blk.setb) | ((with_reducible apply Blk.newAt); (focus (simp; done))) | (with_reducible apply Blk.alloc) | (with_reducible apply Blk.drew))); all_goals (show @Eq (Array Value) _ _; rfl)), HZ1, HZ2, by (go_grown <;> exact lt6)⟩
        · skip
          refine wpMT_l rfl rfl (fun K hK => ?_)
          go_simp
          refine hK.out _ _ (s2.alloc s2.size _) (fun _ => ?_)
          clear hK K
          refine world_gen (fun W => Blk W v2.heap.size 34 #[.bool y2.neg, .slice y2.a y2.n y2.c, .slice y2.b y2.m y2.d] ∧ Blk W gA 34 #[.bool y1.neg, .slice y1.a y1.n y1.c, .slice y1.b y1.m y1.d] ∧ Blk W g6 36 #[.bool false, .slice none 0 0, .slice none 0 0, .bool false, .slice none 0 0, .slice none 0 0] ∧ Below w0.heap.size w0 W) ⟨by ((repeat (first | (with_reducible assumption) | ((with_reducible apply Blk.farAt); (focus omega)) | (with_reducible apply Blk.setb) | ((with_reducible apply Blk.newAt); (focus (simp; done))) | (with_reducible apply Blk.alloc) | (with_reducible apply Blk.drew))); all_goals (show @Eq (Array Value) _ _; rfl)), by ((repeat (first | (with_reducible assumption) | ((with_reducible apply Blk.farAt); (focus omega)) | (with_reducible apply Blk.setb) | ((with_reducible apply Blk.newAt); (focus (simp; done))) | (with_reducible apply Blk.alloc) | (with_reducible apply Blk.drew))); all_goals (show @Eq (Array Value) _ _; rfl)), by ((repeat (first | (with_reducible assumption) | ((with_reducible apply Blk.farAt); (focus omega)) | (with_reducible apply Blk.setb) | ((with_reducible apply Blk.newAt); (focus (simp; done))) | (with_reducible apply Blk.alloc) | (with_reducible apply Blk.drew))); all_goals (show @Eq (Array Value) _ _; rfl)), s2.alloc s2.size _⟩ ?_
          clear hA h6
          rintro v3 ⟨hB, hA, h6, s3⟩
          obtain ⟨gB, egB⟩ : ∃ q, v2.heap.size = q := ⟨_, rfl⟩
          rw [egB] at hB ⊢
          clear egB
          refine wpMT_l rfl rfl (fun K hK => ?_)
          go_simp
          refine (great_q x1 y1 a c k gA 1 v3 (R1.out _ (below_then hw0 s3)) (R3.out _ (below_then hw0 s3)) hk (hA.cell 0) (hA.cell 1) (hA.cell 2)).mono ?_
          rintro r v4 ⟨⟨z1, rfl, HZ1⟩, hb4⟩
          dsimp only
          have s4 := below_then s3 hb4
          refine hK.out _ _ s4 (fun _ => ?_)
          clear hK K
          replace hB := hB.below' hb4
          replace h6 := h6.below' hb4
          refine wpMT_l rfl rfl (fun K hK => ?_)
          go_simp
          refine (least_q x2 y2 b d k gB 1 v4 (R2.out _ (below_then hw0 s4)) (R4.out _ (below_then hw0 s4)) hk (hB.cell 0) (hB.cell 1) (hB.cell 2)).mono ?_
          rintro r v5 ⟨⟨z2, rfl, HZ2⟩, hb5⟩
          dsimp only
          have s5 := below_then s4 hb5
          refine hK.out _ _ s5 (fun _ => ?_)
          clear hK K
          replace h6 := h6.below' hb5
          iterate 1 (refine wpMT_q rfl rfl (fun K hK => ?_); apply Exists.intro; refine ⟨fun w' hw' => ?_, ?_⟩; (focus (go_simp; try rfl)); go_simp; refine hK _ _ ?_; clear hK K)
          have y0 := h6.cell 0; have f0 := h6.frozen 0; have y1 := h6.cell 1; have f1 := h6.frozen 1; have y2 := h6.cell 2; have f2 := h6.frozen 2; have y3 := h6.cell 3; have f3 := h6.frozen 3; have y4 := h6.cell 4; have f4 := h6.frozen 4; have y5 := h6.cell 5; have f5 := h6.frozen 5
          refine wpMT_t rfl rfl (fun K hK => ?_)
          go_simp
          refine hK.out _ _ ?_
          clear hK K
          refine wpMT_nil ?_
          go_wp2
          go_meet
          case rel => exact ⟨_, z1, z2, rfl, by ((repeat (first | (with_reducible assumption) | ((with_reducible apply Blk.farAt); (focus omega)) | (with_reducible apply Blk.setb) | ((with_reducible apply Blk.newAt); (focus (simp; done))) | (with_reducible apply Blk.alloc) | (with_reducible apply Blk.drew))); all_goals (show @Eq (Array Value) _ _; rfl)), HZ1, HZ2, by (go_grown <;> exact lt6)⟩
    · skip
      refine wpMT_l rfl rfl (fun K hK => ?_)
      go_simp
      refine hK.out _ _ (s0.alloc s0.size _) (fun _ => ?_)
      clear hK K
      refine world_gen (fun W => Blk W v0.heap.size 34 #[.bool y2.neg, .slice y2.a y2.n y2.c, .slice y2.b y2.m y2.d] ∧ Below w0.heap.size w0 W) ⟨by ((repeat (first | (with_reducible assumption) | ((with_reducible apply Blk.farAt); (focus omega)) | (with_reducible apply Blk.setb) | ((with_reducible apply Blk.newAt); (focus (simp; done))) | (with_reducible apply Blk.alloc) | (with_reducible apply Blk.drew))); all_goals (show @Eq (Array Value) _ _; rfl)), s0.alloc s0.size _⟩ ?_
      rintro v1 ⟨hB, s1⟩
      obtain ⟨gB, egB⟩ : ∃ q, v0.heap.size = q := ⟨_, rfl⟩
      rw [egB] at hB ⊢
      clear egB
      refine wpMT_two ?_ ?_
      · skip
        refine wpMT_l rfl rfl (fun K hK => ?_)
        go_simp
        refine hK.out _ _ (s1.alloc s1.size _) (fun _ => ?_)
        clear hK K
        refine world_gen (fun W => Blk W v1.heap.size 34 #[.bool y1.neg, .slice y1.a y1.n y1.c, .slice y1.b y1.m y1.d] ∧ Blk W gB 34 #[.bool y2.neg, .slice y2.a y2.n y2.c, .slice y2.b y2.m y2.d] ∧ Below w0.heap.size w0 W) ⟨by ((repeat (first | (with_reducible assumption) | ((with_reducible apply Blk.farAt); (focus omega)) | (with_reducible apply Blk.setb) | ((with_reducible apply Blk.newAt); (focus (simp; done))) | (with_reducible apply Blk.alloc) | (with_reducible apply Blk.drew))); all_goals (show @Eq (Array Value) _ _; rfl)), by ((repeat (first | (with_reducible assumption) | ((with_reducible apply Blk.farAt); (focus omega)) | (with_reducible apply Blk.setb) | ((with_reducible apply Blk.newAt); (focus (simp; done))) | (with_reducible apply Blk.alloc) | (with_reducible apply Blk.drew))); all_goals (show @Eq (Array Value) _ _; rfl)), s1.alloc s1.size _⟩ ?_
        clear hB
        rintro v2 ⟨hA, hB, s2⟩
        obtain ⟨gA, egA⟩ : ∃ q, v1.heap.size = q := ⟨_, rfl⟩
        rw [egA] at hA ⊢
        clear egA
        refine wpMT_two ?_ ?_
        · skip
          refine wpMT_l rfl rfl (fun K hK => ?_)
          go_simp
          refine (great_q x1 y1 a c k gA 1 v2 (R1.out _ (below_then hw0 s2)) (R3.out _ (below_then hw0 s2)) hk (hA.cell 0) (hA.cell 1) (hA.cell 2)).mono ?_
          rintro r v3 ⟨⟨z1, rfl, HZ1⟩, hb3⟩
          dsimp only
          have s3 := below_then s2 hb3
          refine hK.out _ _ s3 (fun _ => ?_)
          clear hK K
          replace hB := hB.below' hb3
          refine wpMT_two ?_ ?_
          · skip
            refine wpMT_l rfl rfl (fun K hK => ?_)
            go_simp
            refine (least_q x2 y2 b d k gB 1 v3 (R2.out _ (below_then hw0 s3)) (R4.out _ (below_then hw0 s3)) hk (hB.cell 0) (hB.cell 1) (hB.cell 2)).mono ?_
            rintro r v4 ⟨⟨z2, rfl, HZ2⟩, hb4⟩
            dsimp only
            have s4 := below_then s3 hb4
            refine hK.out _ _ s4 (fun _ => ?_)
            clear hK K
            iterate 1 (refine wpMT_q rfl rfl (fun K hK => ?_); apply Exists.intro; refine ⟨fun w' hw' => ?_, ?_⟩; (focus (go_simp; try rfl)); go_simp; refine hK _ _ ?_; clear hK K)
            refine wpMT_l rfl rfl (fun K hK => ?_)
            go_simp
            refine hK.out _ _ (s4.alloc s4.size _) (fun _ => ?_)
            clear hK K
            refine world_gen (fun W => Blk W v4.heap.size 36 #[.bool false, .slice none 0 0, .slice none 0 0, .bool false, .slice none 0 0, .slice none 0 0] ∧ Below w0.heap.size w0 W) ⟨by ((repeat (first | (with_reducible assumption) | ((with_reducible apply Blk.farAt); (focus omega)) | (with_reducible apply Blk.setb) | ((with_reducible apply Blk.newAt); (focus (simp; done))) | (with_reducible apply Blk.alloc) | (with_reducible apply Blk.drew))); all_goals (show @Eq (Array Value) _ _; rfl)), s4.alloc s4.size _⟩ ?_
            rintro v5 ⟨h6, s5⟩
            obtain ⟨g6, eg6⟩ : ∃ q, v4.heap.size = q := ⟨_, rfl⟩
            rw [eg6] at h6 ⊢
            have lt6 : w0.heap.size ≤ g6 := by rw [← eg6]; exact s4.size
            clear eg6
            have y0 := h6.cell 0; have f0 := h6.frozen 0; have y1 := h6.cell 1; have f1 := h6.frozen 1; have y2 := h6.cell 2; have f2 := h6.frozen 2; have y3 := h6.cell 3; have f3 := h6.frozen 3; have y4 := h6.cell 4; have f4 := h6.frozen 4; have y5 := h6.cell 5; have f5 := h6.frozen 5
            refine wpMT_t rfl rfl (fun K hK => ?_)
            go_simp
            refine hK.out _ _ ?_
            clear hK K
            refine wpMT_nil ?_
            go_wp2
            go_meet
            case rel => exact ⟨_, z1, z2, rfl, by ((repeat (first | (with_reducible assumption) | ((with_reducible apply Blk.farAt); (focus omega)) | (with_reducible apply Blk.setb) | ((with_reducible apply Blk.newAt); (focus (simp; done))) | (with_reducible apply Blk.alloc) | (with_reducible apply Blk.drew))); all_goals (show @Eq (Array Value) _ _; rfl)), HZ1, HZ2, by (go_grown <;> exact lt6)⟩
          · skip
            refine wpMT_l rfl rfl (fun K hK => ?_)
            go_simp
            refine hK.out _ _ (s3.alloc s3.size _) (fun _ => ?_)
            clear hK K
            refine world_gen (fun W => Blk W v3.heap.size 36 #[.bool false, .slice none 0 0, .slice none 0 0, .bool false, .slice none 0 0, .slice none 0 0] ∧ Blk W gB 34 #[.bool y2.neg, .slice y2.a y2.n y2.c, .slice y2.b y2.m y2.d] ∧ Below w0.heap.size w0 W) ⟨by ((repeat (first | (with_reducible assumption) | ((with_reducible apply Blk.farAt); (focus omega)) | (with_reducible apply Blk.setb) | ((with_reducible apply Blk.newAt); (focus (simp; done))) | (with_reducible apply Blk.alloc) | (with_reducible apply Blk.drew))); all_goals (show @Eq (Array Value) _ _; rfl)), by ((repeat (first | (with_reducible assumption) | ((with_reducible apply Blk.farAt); (focus omega)) | (with_reducible apply Blk.setb) | ((with_reducible apply Blk.newAt); (focus (simp; done))) | (with_reducible apply Blk.alloc) | (with_reducible apply Blk.drew))); all_goals (show @Eq (Array Value) _ _; rfl)), s3.alloc s3.size _⟩ ?_
            clear hB
            rintro v4 ⟨h6, hB, s4⟩
            obtain ⟨g6, eg6⟩ : ∃ q, v3.heap.size = q := ⟨_, rfl⟩
            rw [eg6] at h6 ⊢
            have lt6 : w0.heap.size ≤ g6 := by rw [← eg6]; exact s3.size
            clear eg6
            refine wpMT_l rfl rfl (fun K hK => ?_)
            go_simp
            refine (least_q x2 y2 b d k gB 1 v4 (R2.out _ (below_then hw0 s4)) (R4.out _ (below_then hw0 s4)) hk (hB.cell 0) (hB.cell 1) (hB.cell 2)).mono ?_
            rintro r v5 ⟨⟨z2, rfl, HZ2⟩, hb5⟩
            dsimp only
            have s5 := below_then s4 hb5
            refine hK.out _ _ s5 (fun _ => ?_)
            clear hK K
            replace h6 := h6.below' hb5
            iterate 1 (refine wpMT_q rfl rfl (fun K hK => ?_); apply Exists.intro; refine ⟨fun w' hw' => ?_, ?_⟩; (focus (go_simp; try rfl)); go_simp; refine hK _ _ ?_; clear hK K)
            have y0 := h6.cell 0; have f0 := h6.frozen 0; have y1 := h6.cell 1; have f1 := h6.frozen 1; have y2 := h6.cell 2; have f2 := h6.frozen 2; have y3 := h6.cell 3; have f3 := h6.frozen 3; have y4 := h6.cell 4; have f4 := h6.frozen 4; have y5 := h6.cell 5; have f5 := h6.frozen 5
            refine wpMT_t rfl rfl (fun K hK => ?_)
            go_simp
            refine hK.out _ _ ?_
            clear hK K
            refine wpMT_nil ?_
            go_wp2
            go_meet
            case rel => exact ⟨_, z1, z2, rfl, by ((repeat (first | (with_reducible assumption) | ((with_reducible apply Blk.farAt); (focus omega)) | (with_reducible apply Blk.setb) | ((with_reducible apply Blk.newAt); (focus (simp; done))) | (with_reducible apply Blk.alloc) | (with_reducible apply Blk.drew))); all_goals (show @Eq (Array Value) _ _; rfl)), HZ1, HZ2, by (go_grown <;> exact lt6)⟩
        · skip
          refine wpMT_l rfl rfl (fun K hK => ?_)
          go_simp
          refine hK.out _ _ (s2.alloc s2.size _) (fun _ => ?_)
          clear hK K
          refine world_gen (fun W => Blk W v2.heap.size 36 #[.bool false, .slice none 0 0, .slice none 0 0, .bool false, .slice none 0 0, .slice none 0 0] ∧ Blk W gA 34 #[.bool y1.neg, .slice y1.a y1.n y1.c, .slice y1.b y1.m y1.d] ∧ Blk W gB 34 #[.bool y2.neg, .slice y2.a y2.n y2.c, .slice y2.b y2.m y2.d] ∧ Below w0.heap.size w0 W) ⟨by ((repeat (first | (with_reducible assumption) | ((with_reducible apply Blk.farAt); (focus omega)) | (with_reducible apply Blk.setb) | ((with_reducible apply Blk.newAt); (focus (simp; done))) | (with_reducible apply Blk.alloc) | (with_reducible apply Blk.drew))); all_goals (show @Eq (Array Value) _ _; rfl)), by ((repeat (first | (with_reducible assumption) | ((with_reducible apply Blk.farAt); (focus omega)) | (with_reducible apply Blk.setb) | ((with_reducible apply Blk.newAt); (focus (simp; done))) | (with_reducible apply Blk.alloc) | (with_reducible apply Blk.drew))); all_goals (show @Eq (Array Value) _ _; rfl)), by ((repeat (first | (with_reducible assumption) | ((with_reducible apply Blk.farAt); (focus omega)) | (with_reducible apply Blk.setb) | ((with_reducible apply Blk.newAt); (focus (simp; done))) | (with_reducible apply Blk.alloc) | (with_reducible apply Blk.drew))); all_goals (show @Eq (Array Value) _ _; rfl)), s2.alloc s2.size _⟩ ?_
          clear hA hB
          rintro v3 ⟨h6, hA, hB, s3⟩
          obtain ⟨g6, eg6⟩ : ∃ q, v2.heap.size = q := ⟨_, rfl⟩
          rw [eg6] at h6 ⊢
          have lt6 : w0.heap.size ≤ g6 := by rw [← eg6]; exact s2.size
          clear eg6
          refine wpMT_l rfl rfl (fun K hK => ?_)
          go_simp
          refine (great_q x1 y1 a c k gA 1 v3 (R1.out _ (below_then hw0 s3)) (R3.out _ (below_then hw0 s3)) hk (hA.cell 0) (hA.cell 1) (hA.cell 2)).mono ?_
          rintro r v4 ⟨⟨z1, rfl, HZ1⟩, hb4⟩
          dsimp only
          have s4 := below_then s3 hb4
          refine hK.out _ _ s4 (fun _ => ?_)
          clear hK K
          replace hB := hB.below' hb4
          replace h6 := h6.below' hb4
          refine wpMT_l rfl rfl (fun K hK => ?_)
          go_simp
          refine (least_q x2 y2 b d k gB 1 v4 (R2.out _ (below_then hw0 s4)) (R4.out _ (below_then hw0 s4)) hk (hB.cell 0) (hB.cell 1) (hB.cell 2)).mono ?_
          rintro r v5 ⟨⟨z2, rfl, HZ2⟩, hb5⟩
          dsimp only
          have s5 := below_then s4 hb5
          refine hK.out _ _ s5 (fun _ => ?_)
          clear hK K
          replace h6 := h6.below' hb5
          iterate 1 (refine wpMT_q rfl rfl (fun K hK => ?_); apply Exists.intro; refine ⟨fun w' hw' => ?_, ?_⟩; (focus (go_simp; try rfl)); go_simp; refine hK _ _ ?_; clear hK K)
          have y0 := h6.cell 0; have f0 := h6.frozen 0; have y1 := h6.cell 1; have f1 := h6.frozen 1; have y2 := h6.cell 2; have f2 := h6.frozen 2; have y3 := h6.cell 3; have f3 := h6.frozen 3; have y4 := h6.cell 4; have f4 := h6.frozen 4; have y5 := h6.cell 5; have f5 := h6.frozen 5
          refine wpMT_t rfl rfl (fun K hK => ?_)
          go_simp
          refine hK.out _ _ ?_
          clear hK K
          refine wpMT_nil ?_
          go_wp2
          go_meet
          case rel => exact ⟨_, z1, z2, rfl, by ((repeat (first | (with_reducible assumption) | ((with_reducible apply Blk.farAt); (focus omega)) | (with_reducible apply Blk.setb) | ((with_reducible apply Blk.newAt); (focus (simp; done))) | (with_reducible apply Blk.alloc) | (with_reducible apply Blk.drew))); all_goals (show @Eq (Array Value) _ _; rfl)), HZ1, HZ2, by (go_grown <;> exact lt6)⟩
      · skip
        refine wpMT_l rfl rfl (fun K hK => ?_)
        go_simp
        refine hK.out _ _ (s1.alloc s1.size _) (fun _ => ?_)
        clear hK K
        refine world_gen (fun W => Blk W v1.heap.size 36 #[.bool false, .slice none 0 0, .slice none 0 0, .bool false, .slice none 0 0, .slice none 0 0] ∧ Blk W gB 34 #[.bool y2.neg, .slice y2.a y2.n y2.c, .slice y2.b y2.m y2.d] ∧ Below w0.heap.size w0 W) ⟨by ((repeat (first | (with_reducible assumption) | ((with_reducible apply Blk.farAt); (focus omega)) | (with_reducible apply Blk.setb) | ((with_reducible apply Blk.newAt); (focus (simp; done))) | (with_reducible apply Blk.alloc) | (with_reducible apply Blk.drew))); all_goals (show @Eq (Array Value) _ _; rfl)), by ((repeat (first | (with_reducible assumption) | ((with_reducible apply Blk.farAt); (focus omega)) | (with_reducible apply Blk.setb) | ((with_reducible apply Blk.newAt); (focus (simp; done))) | (with_reducible apply Blk.alloc) | (with_reducible apply Blk.drew))); all_goals (show @Eq (Array Value) _ _; rfl)), s1.alloc s1.size _⟩ ?_
        clear hB
        rintro v2 ⟨h6, hB, s2⟩
        obtain ⟨g6, eg6⟩ : ∃ q, v1.heap.size = q := ⟨_, rfl⟩
        rw [eg6] at h6 ⊢
        have lt6 : w0.heap.size ≤ g6 := by rw [← eg6]; exact s1.size
        clear eg6
        refine wpMT_l rfl rfl (fun K hK => ?_)
        go_simp
        refine hK.out _ _ (s2.alloc s2.size _) (fun _ => ?_)
        clear hK K
        refine world_gen (fun W => Blk W v2.heap.size 34 #[.bool y1.neg, .slice y1.a y1.n y1.c, .slice y1.b y1.m y1.d] ∧ Blk W gB 34 #[.bool y2.neg, .slice y2.a y2.n y2.c, .slice y2.b y2.m y2.d] ∧ Blk W g6 36 #[.bool false, .slice none 0 0, .slice none 0 0, .bool false, .slice none 0 0, .slice none 0 0] ∧ Below w0.heap.size w0 W) ⟨by ((repeat (first | (with_reducible assumption) | ((with_reducible apply Blk.farAt); (focus omega)) | (with_reducible apply Blk.setb) | ((with_reducible apply Blk.newAt); (focus (simp; done))) | (with_reducible apply Blk.alloc) | (with_reducible apply Blk.drew))); all_goals (show @Eq (Array Value) _ _; rfl)), by ((repeat (first | (with_reducible assumption) | ((with_reducible apply Blk.farAt); (focus omega)) | (with_reducible apply Blk.setb) | ((with_reducible apply Blk.newAt); (focus (simp; done))) | (with_reducible apply Blk.alloc) | (with_reducible apply Blk.drew))); all_goals (show @Eq (Array Value) _ _; rfl)), by ((repeat (first | (with_reducible assumption) | ((with_reducible apply Blk.farAt); (focus omega)) | (with_reducible apply Blk.setb) | ((with_reducible apply Blk.newAt); (focus (simp; done))) | (with_reducible apply Blk.alloc) | (with_reducible apply Blk.drew))); all_goals (show @Eq (Array Value) _ _; rfl)), s2.alloc s2.size _⟩ ?_
        clear hB h6
        rintro v3 ⟨hA, hB, h6, s3⟩
        obtain ⟨gA, egA⟩ : ∃ q, v2.heap.size = q := ⟨_, rfl⟩
        rw [egA] at hA ⊢
        clear egA
        refine wpMT_l rfl rfl (fun K hK => ?_)
        go_simp
        refine (great_q x1 y1 a c k gA 1 v3 (R1.out _ (below_then hw0 s3)) (R3.out _ (below_then hw0 s3)) hk (hA.cell 0) (hA.cell 1) (hA.cell 2)).mono ?_
        rintro r v4 ⟨⟨z1, rfl, HZ1⟩, hb4⟩
        dsimp only
        have s4 := below_then s3 hb4
        refine hK.out _ _ s4 (fun _ => ?_)
        clear hK K
        replace hB := hB.below' hb4
        replace h6 := h6.below' hb4
        refine wpMT_l rfl rfl (fun K hK => ?_)
        go_simp
        refine (least_q x2 y2 b d k gB 1 v4 (R2.out _ (below_then hw0 s4)) (R4.out _ (below_then hw0 s4)) hk (hB.cell 0) (hB.cell 1) (hB.cell 2)).mono ?_
        rintro r v5 ⟨⟨z2, rfl, HZ2⟩, hb5⟩
        dsimp only
        have s5 := below_then s4 hb5
        refine hK.out _ _ s5 (fun _ => ?_)
        clear hK K
        replace h6 := h6.below' hb5
        iterate 1 (refine wpMT_q rfl rfl (fun K hK => ?_); apply Exists.intro; refine ⟨fun w' hw' => ?_, ?_⟩; (focus (go_simp; try rfl)); go_simp; refine hK _ _ ?_; clear hK K)
        have y0 := h6.cell 0; have f0 := h6.frozen 0; have y1 := h6.cell 1; have f1 := h6.frozen 1; have y2 := h6.cell 2; have f2 := h6.frozen 2; have y3 := h6.cell 3; have f3 := h6.frozen 3; have y4 := h6.cell 4; have f4 := h6.frozen 4; have y5 := h6.cell 5; have f5 := h6.frozen 5
        refine wpMT_t rfl rfl (fun K hK => ?_)
        go_simp
        refine hK.out _ _ ?_
        clear hK K
        refine wpMT_nil ?_
        go_wp2
        go_meet
        case rel => exact ⟨_, z1, z2, rfl, by ((repeat (first | (with_reducible assumption) | ((with_reducible apply Blk.farAt); (focus omega)) | (with_reducible apply Blk.setb) | ((with_reducible apply Blk.newAt); (focus (simp; done))) | (with_reducible apply Blk.alloc) | (with_reducible apply Blk.drew))); all_goals (show @Eq (Array Value) _ _; rfl)), HZ1, HZ2, by (go_grown <;> exact lt6)⟩
    · skip
      refine wpMT_l rfl rfl (fun K hK => ?_)
      go_simp
      refine hK.out _ _ (s0.alloc s0.size _) (fun _ => ?_)
      clear hK K
      refine world_gen (fun W => Blk W v0.heap.size 36 #[.bool false, .slice none 0 0, .slice none 0 0, .bool false, .slice none 0 0, .slice none 0 0] ∧ Below w0.heap.size w0 W) ⟨by ((repeat (first | (with_reducible assumption) | ((with_reducible apply Blk.farAt); (focus omega)) | (with_reducible apply Blk.setb) | ((with_reducible apply Blk.newAt); (focus (simp; done))) | (with_reducible apply Blk.alloc) | (with_reducible apply Blk.drew))); all_goals (show @Eq (Array Value) _ _; rfl)), s0.alloc s0.size _⟩ ?_
      rintro v1 ⟨h6, s1⟩
      obtain ⟨g6, eg6⟩ : ∃ q, v0.heap.size = q := ⟨_, rfl⟩
      rw [eg6] at h6 ⊢
      have lt6 : w0.heap.size ≤ g6 := by rw [← eg6]; exact s0.size
      clear eg6
      refine wpMT_two ?_ ?_
      · skip
        refine wpMT_l rfl rfl (fun K hK => ?_)
        go_simp
        refine hK.out _ _ (s1.alloc s1.size _) (fun _ => ?_)
        clear hK K
        refine world_gen (fun W => Blk W v1.heap.size 34 #[.bool y1.neg, .slice y1.a y1.n y1.c, .slice y1.b y1.m y1.d] ∧ Blk W g6 36 #[.bool false, .slice none 0 0, .slice none 0 0, .bool false, .slice none 0 0, .slice none 0 0] ∧ Below w0.heap.size w0 W) ⟨by ((repeat (first | (with_reducible assumption) | ((with_reducible apply Blk.farAt); (focus omega)) | (with_reducible apply Blk.setb) | ((with_reducible apply Blk.newAt); (focus (simp; done))) | (with_reducible apply Blk.alloc) | (with_reducible apply Blk.drew))); all_goals (show @Eq (Array Value) _ _; rfl)), by ((repeat (first | (with_reducible assumption) | ((with_reducible apply Blk.farAt); (focus omega)) | (with_reducible apply Blk.setb) | ((with_reducible apply Blk.newAt); (focus (simp; done))) | (with_reducible apply Blk.alloc) | (with_reducible apply Blk.drew))); all_goals (show @Eq (Array Value) _ _; rfl)), s1.alloc s1.size _⟩ ?_
        clear h6
        rintro v2 ⟨hA, h6, s2⟩
        obtain ⟨gA, egA⟩ : ∃ q, v1.heap.size = q := ⟨_, rfl⟩
        rw [egA] at hA ⊢
        clear egA
        refine wpMT_two ?_ ?_
        · skip
          refine wpMT_l rfl rfl (fun K hK => ?_)
          go_simp
          refine (great_q x1 y1 a c k gA 1 v2 (R1.out _ (below_then hw0 s2)) (R3.out _ (below_then hw0 s2)) hk (hA.cell 0) (hA.cell 1) (hA.cell 2)).mono ?_
          rintro r v3 ⟨⟨z1, rfl, HZ1⟩, hb3⟩
          dsimp only
          have s3 := below_then s2 hb3
          refine hK.out _ _ s3 (fun _ => ?_)
          clear hK K
          replace h6 := h6.below' hb3
          refine wpMT_l rfl rfl (fun K hK => ?_)
          go_simp
          refine hK.out _ _ (s3.alloc s3.size _) (fun _ => ?_)
          clear hK K
          refine world_gen (fun W => Blk W v3.heap.size 34 #[.bool y2.neg, .slice y2.a y2.n y2.c, .slice y2.b y2.m y2.d] ∧ Blk W g6 36 #[.bool false, .slice none 0 0, .slice none 0 0, .bool false, .slice none 0 0, .slice none 0 0] ∧ Below w0.heap.size w0 W) ⟨by ((repeat (first | (with_reducible assumption) | ((with_reducible apply Blk.farAt); (focus omega)) | (with_reducible apply Blk.setb) | ((with_reducible apply Blk.newAt); (focus (simp; done))) | (with_reducible apply Blk.alloc) | (with_reducible apply Blk.drew))); all_goals (show @Eq (Array Value) _ _; rfl)), by ((repeat (first | (with_reducible assumption) | ((with_reducible apply Blk.farAt); (focus omega)) | (with_reducible apply Blk.setb) | ((with_reducible apply Blk.newAt); (focus (simp; done))) | (with_reducible apply Blk.alloc) | (with_reducible apply Blk.drew))); all_goals (show @Eq (Array Value) _ _; rfl)), s3.alloc s3.size _⟩ ?_
          clear h6
          rintro v4 ⟨hB, h6, s4⟩
          obtain ⟨gB, egB⟩ : ∃ q, v3.heap.size = q := ⟨_, rfl⟩
          rw [egB] at hB ⊢
          clear egB
          refine wpMT_l rfl rfl (fun K hK => ?_)
          go_simp
          refine (least_q x2 y2 b d k gB 1 v4 (R2.out _ (below_then hw0 s4)) (R4.out _ (below_then hw0 s4)) hk (hB.cell 0) (hB.cell 1) (hB.cell 2)).mono ?_
          rintro r v5 ⟨⟨z2, rfl, HZ2⟩, hb5⟩
          dsimp only
          have s5 := below_then s4 hb5
          refine hK.out _ _ s5 (fun _ => ?_)
          clear hK K
          replace h6 := h6.below' hb5
          iterate 1 (refine wpMT_q rfl rfl (fun K hK => ?_); apply Exists.intro; refine ⟨fun w' hw' => ?_, ?_⟩; (focus (go_simp; try rfl)); go_simp; refine hK _ _ ?_; clear hK K)
          have y0 := h6.cell 0; have f0 := h6.frozen 0; have y1 := h6.cell 1; have f1 := h6.frozen 1; have y2 := h6.cell 2; have f2 := h6.frozen 2; have y3 := h6.cell 3; have f3 := h6.frozen 3; have y4 := h6.cell 4; have f4 := h6.frozen 4; have y5 := h6.cell 5; have f5 := h6.frozen 5
          refine wpMT_t rfl rfl (fun K hK => ?_)
          go_simp
          refine hK.out _ _ ?_
          clear hK K
          refine wpMT_nil ?_
          go_wp2
          go_meet
          case rel => exact ⟨_, z1, z2, rfl, by ((repeat (first | (with_reducible assumption) | ((with_reducible apply Blk.farAt); (focus omega)) | (with_reducible apply Blk.setb) | ((with_reducible apply Blk.newAt); (focus (simp; done))) | (with_reducible apply Blk.alloc) | (with_reducible apply Blk.drew))); all_goals (show @Eq (Array Value) _ _; rfl)), HZ1, HZ2, by (go_grown <;> exact lt6)⟩
        · skip
          refine wpMT_l rfl rfl (fun K hK => ?_)
          go_simp
          refine hK.out _ _ (s2.alloc s2.size _) (fun _ => ?_)
          clear hK K
          refine world_gen (fun W => Blk W v2.heap.size 34 #[.bool y2.neg, .slice y2.a y2.n y2.c, .slice y2.b y2.m y2.d] ∧ Blk W gA 34 #[.bool y1.neg, .slice y1.a y1.n y1.c, .slice y1.b y1.m y1.d] ∧ Blk W g6 36 #[.bool false, .slice none 0 0, .slice none 0 0, .bool false, .slice none 0 0, .slice none 0 0] ∧ Below w0.heap.size w0 W) ⟨by ((repeat (first | (with_reducible assumption) | ((with_reducible apply Blk.farAt); (focus omega)) | (with_reducible apply Blk.setb) | ((with_reducible apply Blk.newAt); (focus (simp; done))) | (with_reducible apply Blk.alloc) | (with_reducible apply Blk.drew))); all_goals (show @Eq (Array Value) _ _; rfl)), by ((repeat (first | (with_reducible assumption) | ((with_reducible apply Blk.farAt); (focus omega)) | (with_reducible apply Blk.setb) | ((with_reducible apply Blk.newAt); (focus (simp; done))) | (with_reducible apply Blk.alloc) | (with_reducible apply Blk.drew))); all_goals (show @Eq (Array Value) _ _; rfl)), by ((repeat (first | (with_reducible assumption) | ((with_reducible apply Blk.farAt); (focus omega)) | (with_reducible apply Blk.setb) | ((with_reducible apply Blk.newAt); (focus (simp; done))) | (with_reducible apply Blk.alloc) | (with_reducible apply Blk.drew))); all_goals (show @Eq (Array Value) _ _; rfl)), s2.alloc s2.size _⟩ ?_
          clear hA h6
          rintro v3 ⟨hB, hA, h6, s3⟩
          obtain ⟨gB, egB⟩ : ∃ q, v2.heap.size = q := ⟨_, rfl⟩
          rw [egB] at hB ⊢
          clear egB
          refine wpMT_l rfl rfl (fun K hK => ?_)
          go_simp
          refine (great_q x1 y1 a c k gA 1 v3 (R1.out _ (below_then hw0 s3)) (R3.out _ (below_then hw0 s3)) hk (hA.cell 0) (hA.cell 1) (hA.cell 2)).mono ?_
          rintro r v4 ⟨⟨z1, rfl, HZ1⟩, hb4⟩
          dsimp only
          have s4 := below_then s3 hb4
          refine hK.out _ _ s4 (fun _ => ?_)
          clear hK K
          replace hB := hB.below' hb4
          replace h6 := h6.below' hb4
          refine wpMT_l rfl rfl (fun K hK => ?_)
          go_simp
          refine (least_q x2 y2 b d k gB 1 v4 (R2.out _ (below_then hw0 s4)) (R4.out _ (below_then hw0 s4)) hk (hB.cell 0) (hB.cell 1) (hB.cell 2)).mono ?_
          rintro r v5 ⟨⟨z2, rfl, HZ2⟩, hb5⟩
          dsimp only
          have s5 := below_then s4 hb5
          refine hK.out _ _ s5 (fun _ => ?_)
          clear hK K
          replace h6 := h6.below' hb5
          iterate 1 (refine wpMT_q rfl rfl (fun K hK => ?_); apply Exists.intro; refine ⟨fun w' hw' => ?_, ?_⟩; (focus (go_simp; try rfl)); go_simp; refine hK _ _ ?_; clear hK K)
          have y0 := h6.cell 0; have f0 := h6.frozen 0; have y1 := h6.cell 1; have f1 := h6.frozen 1; have y2 := h6.cell 2; have f2 := h6.frozen 2; have y3 := h6.cell 3; have f3 := h6.frozen 3; have y4 := h6.cell 4; have f4 := h6.frozen 4; have y5 := h6.cell 5; have f5 := h6.frozen 5
          refine wpMT_t rfl rfl (fun K hK => ?_)
          go_simp
          refine hK.out _ _ ?_
          clear hK K
          refine wpMT_nil ?_
          go_wp2
          go_meet
          case rel => exact ⟨_, z1, z2, rfl, by ((repeat (first | (with_reducible assumption) | ((with_reducible apply Blk.farAt); (focus omega)) | (with_reducible apply Blk.setb) | ((with_reducible apply Blk.newAt); (focus (simp; done))) | (with_reducible apply Blk.alloc) | (with_reducible apply Blk.drew))); all_goals (show @Eq (Array Value) _ _; rfl)), HZ1, HZ2, by (go_grown <;> exact lt6)⟩
      · skip
        refine wpMT_l rfl rfl (fun K hK => ?_)
        go_simp
        refine hK.out _ _ (s1.alloc s1.size _) (fun _ => ?_)
        clear hK K
        refine world_gen (fun W => Blk W v1.heap.size 34 #[.bool y2.neg, .slice y2.a y2.n y2.c, .slice y2.b y2.m y2.d] ∧ Blk W g6 36 #[.bool false, .slice none 0 0, .slice none 0 0, .bool false, .slice none 0 0, .slice none 0 0] ∧ Below w0.heap.size w0 W) ⟨by ((repeat (first | (with_reducible assumption) | ((with_reducible apply Blk.farAt); (focus omega)) | (with_reducible apply Blk.setb) | ((with_reducible apply Blk.newAt); (focus (simp; done))) | (with_reducible apply Blk.alloc) | (with_reducible apply Blk.drew))); all_goals (show @Eq (Array Value) _ _; rfl)), by ((repeat (first | (with_reducible assumption) | ((with_reducible apply Blk.farAt); (focus omega)) | (with_reducible apply Blk.setb) | ((with_reducible apply Blk.newAt); (focus (simp; done))) | (with_reducible apply Blk.alloc) | (with_reducible apply Blk.drew))); all_goals (show @Eq (Array Value) _ _; rfl)), s1.alloc s1.size _⟩ ?_
        clear h6
        rintro v2 ⟨hB, h6, s2⟩
        obtain ⟨gB, egB⟩ : ∃ q, v1.heap.size = q := ⟨_, rfl⟩
        rw [egB] at hB ⊢
        clear egB
        refine wpMT_l rfl rfl (fun K hK => ?_)
        go_simp
        refine hK.out _ _ (s2.alloc s2.size _) (fun _ => ?_)
        clear hK K
        refine world_gen (fun W => Blk W v2.heap.size 34 #[.bool y1.neg, .slice y1.a y1.n y1.c, .slice y1.b y1.m y1.d] ∧ Blk W gB 34 #[.bool y2.neg, .slice y2.a y2.n y2.c, .slice y2.b y2.m y2.d] ∧ Blk W g6 36 #[.bool false, .slice none 0 0, .slice none 0 0, .bool false, .slice none 0 0, .slice none 0 0] ∧ Below w0.heap.size w0 W) ⟨by ((repeat (first | (with_reducible assumption) | ((with_reducible apply Blk.farAt); (focus omega)) | (with_reducible apply Blk.setb) | ((with_reducible apply Blk.newAt); (focus (simp; done))) | (with_reducible apply Blk.alloc) | (with_reducible apply Blk.drew))); all_goals (show @Eq (Array Value) _ _; rfl)), by ((repeat (first | (with_reducible assumption) | ((with_reducible apply Blk.farAt); (focus omega)) | (with_reducible apply Blk.setb) | ((with_reducible apply Blk.newAt); (focus (simp; done))) | (with_reducible apply Blk.alloc) | (with_reducible apply Blk.drew))); all_goals (show @Eq (Array Value) _ _; rfl)), by ((repeat (first | (with_reducible assumption) | ((with_reducible apply Blk.farAt); (focus omega)) | (with_reducible apply Blk.setb) | ((with_reducible apply Blk.newAt); (focus (simp; done))) | (with_reducible apply Blk.alloc) | (with_reducible apply Blk.drew))); all_goals (show @Eq (Array Value) _ _; rfl)), s2.alloc s2.size _⟩ ?_
        clear hB h6
        rintro v3 ⟨hA, hB, h6, s3⟩
        obtain ⟨gA, egA⟩ : ∃ q, v2.heap.size = q := ⟨_, rfl⟩
        rw [egA] at hA ⊢
        clear egA
        refine wpMT_l rfl rfl (fun K hK => ?_)
        go_simp
        refine (great_q x1 y1 a c k gA 1 v3 (R1.out _ (below_then hw0 s3)) (R3.out _ (below_then hw0 s3)) hk (hA.cell 0) (hA.cell 1) (hA.cell 2)).mono ?_
        rintro r v4 ⟨⟨z1, rfl, HZ1⟩, hb4⟩
        dsimp only
        have s4 := below_then s3 hb4
        refine hK.out _ _ s4 (fun _ => ?_)
        clear hK K
        replace hB := hB.below' hb4
        replace h6 := h6.below' hb4
        refine wpMT_l rfl rfl (fun K hK => ?_)
        go_simp
        refine (least_q x2 y2 b d k gB 1 v4 (R2.out _ (below_then hw0 s4)) (R4.out _ (below_then hw0 s4)) hk (hB.cell 0) (hB.cell 1) (hB.cell 2)).mono ?_
        rintro r v5 ⟨⟨z2, rfl, HZ2⟩, hb5⟩
        dsimp only
        have s5 := below_then s4 hb5
        refine hK.out _ _ s5 (fun _ => ?_)
        clear hK K
        replace h6 := h6.below' hb5
        iterate 1 (refine wpMT_q rfl rfl (fun K hK => ?_); apply Exists.intro; refine ⟨fun w' hw' => ?_, ?_⟩; (focus (go_simp; try rfl)); go_simp; refine hK _ _ ?_; clear hK K)
        have y0 := h6.cell 0; have f0 := h6.frozen 0; have y1 := h6.cell 1; have f1 := h6.frozen 1; have y2 := h6.cell 2; have f2 := h6.frozen 2; have y3 := h6.cell 3; have f3 := h6.frozen 3; have y4 := h6.cell 4; have f4 := h6.frozen 4; have y5 := h6.cell 5; have f5 := h6.frozen 5
        refine wpMT_t rfl rfl (fun K hK => ?_)
        go_simp
        refine hK.out _ _ ?_
        clear hK K
        refine wpMT_nil ?_
        go_wp2
        go_meet
        case rel => exact ⟨_, z1, z2, rfl, by ((repeat (first | (with_reducible assumption) | ((with_reducible apply Blk.farAt); (focus omega)) | (with_reducible apply Blk.setb) | ((with_reducible apply Blk.newAt); (focus (simp; done))) | (with_reducible apply Blk.alloc) | (with_reducible apply Blk.drew))); all_goals (show @Eq (Array Value) _ _; rfl)), HZ1, HZ2, by (go_grown <;> exact lt6)⟩
  case rest =>
    obtain ⟨g6, z1, z2, rfl, h6, HZ1, HZ2, s1⟩ := hcut
    skip
    have hw1 := below_then hw0 s1
    replace hz := hz.below' s1
    have C1 := fun W (hW : Below w.heap.size w W) => cmp_q z1 z2 (qmax a c) (qmin b d) k k W (HZ1.out k W (R1.out _ hW) (R3.out _ hW)) (HZ2.out k W (R2.out _ hW) (R4.out _ hW)) hk hk
    have e1 := cmpQ_gt (p := qmax a c) (q := qmin b d)
    revert C1 e1
    generalize cmpQ (qmax a c) (qmin b d) = u
    intro C1 e1
    replace C1 := Lib.hid C1; replace e1 := Lib.hid e1
    clear k0 k1 k2 k3 k4 k5 j0 j1 j2 j3 j4 j5 s0 R1 R2 R3 R4 HZ1 HZ2 hv0 v0 hx hy
    have y0 := h6.cell 0; have y1 := h6.cell 1; have y2 := h6.cell 2; have y3 := h6.cell 3; have y4 := h6.cell 4; have y5 := h6.cell 5
    go_wp2_with fail
    refine (C1.out _ hw1).mono ?_
    rintro e w2 ⟨rfl, hb2⟩
    replace h6 := h6.below' hb2
    replace hz := hz.below' hb2
    have hw2 := below_then hw1 hb2
    clear y0 y1 y2 y3 y4 y5
    have y0 := h6.cell 0; have y1 := h6.cell 1; have y2 := h6.cell 2; have y3 := h6.cell 3; have y4 := h6.cell 4; have y5 := h6.cell 5
    have z0 := hz.cell 0; have q1 := hz.cell 1; have q2 := hz.cell 2; have q3 := hz.cell 3; have q4 := hz.cell 4; have q5 := hz.cell 5
    have f0 := hz.frozen 0; have f1 := hz.frozen 1; have f2 := hz.frozen 2; have f3 := hz.frozen 3; have f4 := hz.frozen 4; have f5 := hz.frozen 5
    by_cases h0 : 0 < u
    · have hr : R = false := by rw [← hR.out, decide_eq_false_iff_not]; exact Rat.not_le.2 (e1.out.1 h0)
      subst hr
      go_wp2
      refine world_gen (fun W => Blk W g3 36 #[.bool false, .slice none 0 0, .slice none 0 0, .bool false, .slice none 0 0, .slice none 0 0] ∧ Below w.heap.size w W) ⟨by ((repeat (first | (with_reducible assumption) | ((with_reducible apply Blk.farAt); (focus omega)) | (with_reducible apply Blk.setb) | ((with_reducible apply Blk.newAt); (focus (simp; done))) | (with_reducible apply Blk.alloc) | (with_reducible apply Blk.drew))); all_goals (show @Eq (Array Value) _ _; rfl)), by go_grown⟩ ?_
      rintro w3 ⟨hF, hw3⟩
      have e0 := hF.cell 0; have e1' := hF.cell 1; have e2 := hF.cell 2; have e3 := hF.cell 3; have e4 := hF.cell 4; have e5 := hF.cell 5
      refine bodyPost_ret (v := .tuple #[.agg #[.bool false, .slice none 0 0, .slice none 0 0, .bool false, .slice none 0 0, .slice none 0 0], .bool false]) (by simp [results, Try.results16, go_sem, e0, e1', e2, e3, e4, e5]) rfl ?_
      exact ⟨⟨⟨false, 0, none, 0, 0, none, 0⟩, ⟨false, 0, none, 0, 0, none, 0⟩, rfl⟩, hw3⟩
    · have hr : R = true := by rw [← hR.out, decide_eq_true_eq]; exact Rat.not_lt.1 (fun h => by have := e1.out.2 h; omega)
      subst hr
      go_wp2
      refine world_gen (fun W => Blk W g3 36 #[.bool z1.neg, .slice z1.a z1.n z1.c, .slice z1.b z1.m z1.d, .bool z2.neg, .slice z2.a z2.n z2.c, .slice z2.b z2.m z2.d] ∧ Below w.heap.size w W) ⟨by ((repeat (first | (with_reducible assumption) | ((with_reducible apply Blk.farAt); (focus omega)) | (with_reducible apply Blk.setb) | ((with_reducible apply Blk.newAt); (focus (simp; done))) | (with_reducible apply Blk.alloc) | (with_reducible apply Blk.drew))); all_goals (show @Eq (Array Value) _ _; rfl)), by go_grown⟩ ?_
      rintro w3 ⟨hF, hw3⟩
      have e0 := hF.cell 0; have e1' := hF.cell 1; have e2 := hF.cell 2; have e3 := hF.cell 3; have e4 := hF.cell 4; have e5 := hF.cell 5
      refine bodyPost_ret (v := .tuple #[.agg #[.bool z1.neg, .slice z1.a z1.n z1.c, .slice z1.b z1.m z1.d, .bool z2.neg, .slice z2.a z2.n z2.c, .slice z2.b z2.m z2.d], .bool true]) (by simp [results, Try.results16, go_sem, e0, e1', e2, e3, e4, e5]) rfl ?_
      exact ⟨⟨z1, z2, rfl⟩, hw3⟩
set_option maxRecDepth 100000 in
set_option maxHeartbeats 8000000 in
theorem imeetR_q (x1 x2 y1 y2 : QA) (a b c d : Rat) (k : Nat) (w : World) (H1 : QK k w x1 a) (H2 : QK k w x2 b) (H3 : QK k w y1 c) (H4 : QK k w y2 d) (hk : k ≤ 100000) :
    Calls Try.prog 17 #[.agg #[.bool x1.neg, .slice x1.a x1.n x1.c, .slice x1.b x1.m x1.d, .bool x2.neg, .slice x2.a x2.n x2.c, .slice x2.b x2.m x2.d], .agg #[.bool y1.neg, .slice y1.a y1.n y1.c, .slice y1.b y1.m y1.d, .bool y2.neg, .slice y2.a y2.n y2.c, .slice y2.b y2.m y2.d]] w fun e w' => Met (decide (qmax a c ≤ qmin b d)) e ∧ Below w.heap.size w w' := by
  have R1 := Lib.hid (fun W (hW : Below w.heap.size w W) => H1.ext (Ext.below hW))
  have R2 := Lib.hid (fun W (hW : Below w.heap.size w W) => H2.ext (Ext.below hW))
  have R3 := Lib.hid (fun W (hW : Below w.heap.size w W) => H3.ext (Ext.below hW))
  have R4 := Lib.hid (fun W (hW : Below w.heap.size w W) => H4.ext (Ext.below hW))
  clear H1 H2 H3 H4
  obtain ⟨R, hR⟩ : ∃ R, decide (qmax a c ≤ qmin b d) = R := ⟨_, rfl⟩
  rw [hR]
  replace hR := Lib.hid hR
  go_enter Try.func17, Try.ntmps17
  go_wp2
  refine world_gen (fun W => Blk W w.heap.size 36 #[.bool x1.neg, .slice x1.a x1.n x1.c, .slice x1.b x1.m x1.d, .bool x2.neg, .slice x2.a x2.n x2.c, .slice x2.b x2.m x2.d] ∧ Blk W (w.heap.size + 1) 36 #[.bool y1.neg, .slice y1.a y1.n y1.c, .slice y1.b y1.m y1.d, .bool y2.neg, .slice y2.a y2.n y2.c, .slice y2.b y2.m y2.d] ∧ Blk W (w.heap.size + 1 + 1) 36 #[.bool false, .slice none 0 0, .slice none 0 0, .bool false, .slice none 0 0, .slice none 0 0] ∧ Below w.heap.size w W ∧ w.heap.size < w.heap.size + 1 + 1 ∧ w.heap.size + 1 + 1 < W.heap.size) ⟨((Blk.new w _ _).alloc _).alloc _, (blk_at1 w _ _ _).alloc _, blk_at2 w _ _ _ _, by go_grown, by omega, by simp⟩ ?_
  rintro w0 ⟨hx, hy, hz, hw0, hg3, hg4⟩
  revert hx hy hz hg3 hg4
  generalize w.heap.size + 1 + 1 = g3
  generalize w.heap.size + 1 = g2
  intro hx hy hz hg3 hg4
  have k0 := held (hx.cell 0); have j0 := held (hy.cell 0)
  have k1 := held (hx.cell 1); have j1 := held (hy.cell 1)
  have k2 := held (hx.cell 2); have j2 := held (hy.cell 2)
  have k3 := held (hx.cell 3); have j3 := held (hy.cell 3)
  have k4 := held (hx.cell 4); have j4 := held (hy.cell 4)
  have k5 := held (hx.cell 5); have j5 := held (hy.cell 5)
  have s0 : Below w0.heap.size w0 w0.drew := (Below.refl _ _).drew
  obtain ⟨v0, hv0⟩ : ∃ v, w0.drew = v := ⟨_, rfl⟩
  go_cut [6] from 7 to 20 (fun s6 wc => ∃ (g6 : Nat) (z1 z2 : QA), s6 = .pointer (some ⟨g6, 0, none⟩) ∧ Blk wc g6 36 #[.bool z1.neg, .slice z1.a z1.n z1.c, .slice z1.b z1.m z1.d, .bool z2.neg, .slice z2.a z2.n z2.c, .slice z2.b z2.m z2.d] ∧ PkQ z1 x1 y1 a c (qmax a c) ∧ PkQ z2 x2 y2 b d (qmin b d) ∧ Below w0.heap.size w0 wc)
  case first =>
    refine wp_region_tree (S := Below w0.heap.size w0) (.q 0 (.q 1 (.q 2 (.q 3 (.q 6 (.q 7 (.q 8 (.q 9 (.three 4 (.three 5 (.two 10 (.two 11 (.q 12 (.l 13 (.t 14 .nil))) 13 (.l 11 (.q 12 (.t 14 .nil)))) 13 (.l 10 (.l 11 (.q 12 (.t 14 .nil))))) 10 (.two 5 (.two 11 (.q 12 (.l 13 (.t 14 .nil))) 13 (.l 11 (.q 12 (.t 14 .nil)))) 13 (.l 5 (.l 11 (.q 12 (.t 14 .nil))))) 13 (.two 5 (.l 10 (.l 11 (.q 12 (.t 14 .nil)))) 10 (.l 5 (.l 11 (.q 12 (.t 14 .nil)))))) 10 (.two 4 (.two 5 (.two 11 (.q 12 (.l 13 (.t 14 .nil))) 13 (.l 11 (.q 12 (.t 14 .nil)))) 13 (.l 5 (.l 11 (.q 12 (.t 14 .nil))))) 13 (.l 4 (.l 5 (.l 11 (.q 12 (.t 14 .nil)))))) 13 (.two 4 (.two 5 (.l 10 (.l 11 (.q 12 (.t 14 .nil)))) 10 (.l 5 (.l 11 (.q 12 (.t 14 .nil))))) 10 (.l 4 (.l 5 (.l 11 (.q 12 (.t 14 .nil))))))))))))))) [14] (by kernel_rfl) (by kernel_rfl) (by kernel_rfl) (fun d _ _ _ _ h => by cases d <;> exact h) s0 ?_
    rw [hv0] at s0 ⊢
    iterate 8 (refine wpMT_q rfl rfl (fun K hK => ?_); apply Exists.intro; refine ⟨fun w' hw' => ?_, ?_⟩; (focus (go_simp; try rfl)); go_simp; refine hK _ _ ?_; clear hK K)
    refine wpMT_three ?_ ?_ ?_
    · skip
      refine wpMT_l rfl rfl (fun K hK => ?_)
      go_simp
      refine hK.out _ _ (s0.alloc s0.size _) (fun _ => ?_)
      clear hK K
      refine world_gen (fun W => Blk W v0.heap.size 34 #[.bool x1.neg, .slice x1.a x1.n x1.c, .slice x1.b x1.m x1.d, .bool y1.neg, .slice y1.a y1.n y1.c, .slice y1.b y1.m y1.d] ∧ Below w0.heap.size w0 W) ⟨by ((repeat (first | (with_reducible assumption) | ((with_reducible apply Blk.farAt); (focus omega)) | (with_reducible apply Blk.setb) | ((with_reducible apply Blk.newAt); (focus (simp; done))) | (with_reducible apply Blk.alloc) | (with_reducible apply Blk.drew))); all_goals (show @Eq (Array Value) _ _; rfl)), s0.alloc s0.size _⟩ ?_
      rintro v1 ⟨hA, s1⟩
      obtain ⟨gA, egA⟩ : ∃ q, v0.heap.size = q := ⟨_, rfl⟩
      rw [egA] at hA ⊢
      clear egA
      refine wpMT_three ?_ ?_ ?_
      · skip
        refine wpMT_l rfl rfl (fun K hK => ?_)
        go_simp
        refine (greatR_q x1 y1 a c k gA 2 v1 (R1.out _ (below_then hw0 s1)) (R3.out _ (below_then hw0 s1)) hk (hA.cell 0) (hA.cell 1) (hA.cell 2) (hA.cell 3) (hA.cell 4) (hA.cell 5)).mono ?_
        rintro r v2 ⟨⟨z1, rfl, HZ1⟩, hb2⟩
        dsimp only
        have s2 := below_then s1 hb2
        refine hK.out _ _ s2 (fun _ => ?_)
        clear hK K
        refine wpMT_two ?_ ?_
        · skip
          refine wpMT_l rfl rfl (fun K hK => ?_)
          go_simp
          refine hK.out _ _ (s2.alloc s2.size _) (fun _ => ?_)
          clear hK K
          refine world_gen (fun W => Blk W v2.heap.size 34 #[.bool x2.neg, .slice x2.a x2.n x2.c, .slice x2.b x2.m x2.d, .bool y2.neg, .slice y2.a y2.n y2.c, .slice y2.b y2.m y2.d] ∧ Below w0.heap.size w0 W) ⟨by ((repeat (first | (with_reducible assumption) | ((with_reducible apply Blk.farAt); (focus omega)) | (with_reducible apply Blk.setb) | ((with_reducible apply Blk.newAt); (focus (simp; done))) | (with_reducible apply Blk.alloc) | (with_reducible apply Blk.drew))); all_goals (show @Eq (Array Value) _ _; rfl)), s2.alloc s2.size _⟩ ?_
          rintro v3 ⟨hB, s3⟩
          obtain ⟨gB, egB⟩ : ∃ q, v2.heap.size = q := ⟨_, rfl⟩
          rw [egB] at hB ⊢
          clear egB
          refine wpMT_two ?_ ?_
          · skip
            refine wpMT_l rfl rfl (fun K hK => ?_)
            go_simp
            refine (leastR_q x2 y2 b d k gB 2 v3 (R2.out _ (below_then hw0 s3)) (R4.out _ (below_then hw0 s3)) hk (hB.cell 0) (hB.cell 1) (hB.cell 2) (hB.cell 3) (hB.cell 4) (hB.cell 5)).mono ?_
            rintro r v4 ⟨⟨z2, rfl, HZ2⟩, hb4⟩
            dsimp only
            have s4 := below_then s3 hb4
            refine hK.out _ _ s4 (fun _ => ?_)
            clear hK K
            iterate 1 (refine wpMT_q rfl rfl (fun K hK => ?_); apply Exists.intro; refine ⟨fun w' hw' => ?_, ?_⟩; (focus (go_simp; try rfl)); go_simp; refine hK _ _ ?_; clear hK K)
            refine wpMT_l rfl rfl (fun K hK => ?_)
            go_simp
            refine hK.out _ _ (s4.alloc s4.size _) (fun _ => ?_)
            clear hK K
            refine world_gen (fun W => Blk W v4.heap.size 36 #[.bool false, .slice none 0 0, .slice none 0 0, .bool false, .slice none 0 0, .slice none 0 0] ∧ Below w0.heap.size w0 W) ⟨by ((repeat (first | (with_reducible assumption) | ((with_reducible apply Blk.farAt); (focus omega)) | (with_reducible apply Blk.setb) | ((with_reducible apply Blk.newAt); (focus (simp; done))) | (with_reducible apply Blk.alloc) | (with_reducible apply Blk.drew))); all_goals (show @Eq (Array Value) _ _; rfl)), s4.alloc s4.size _⟩ ?_
            rintro v5 ⟨h6, s5⟩
            obtain ⟨g6, eg6⟩ : ∃ q, v4.heap.size = q := ⟨_, rfl⟩
            rw [eg6] at h6 ⊢
            have lt6 : w0.heap.size ≤ g6 := by rw [← eg6]; exact s4.size
            clear eg6
            have y0 := h6.cell 0; have f0 := h6.frozen 0; have y1 := h6.cell 1; have f1 := h6.frozen 1; have y2 := h6.cell 2; have f2 := h6.frozen 2; have y3 := h6.cell 3; have f3 := h6.frozen 3; have y4 := h6.cell 4; have f4 := h6.frozen 4; have y5 := h6.cell 5; have f5 := h6.frozen 5
            refine wpMT_t rfl rfl (fun K hK => ?_)
            go_simp
            refine hK.out _ _ ?_
            clear hK K
            refine wpMT_nil ?_
            go_wp2
            go_meet
            case rel => exact ⟨_, z1, z2, rfl, by ((repeat (first | (with_reducible assumption) | ((with_reducible apply Blk.farAt); (focus omega)) | (with_reducible apply Blk.setb) | ((with_reducible apply Blk.newAt); (focus (simp; done))) | (with_reducible apply Blk.alloc) | (with_reducible apply Blk.drew))); all_goals (show @Eq (Array Value) _ _; rfl)), HZ1, HZ2, by (go_grown <;> exact lt6)⟩
          · skip
            refine wpMT_l rfl rfl (fun K hK => ?_)
            go_simp
            refine hK.out _ _ (s3.alloc s3.size _) (fun _ => ?_)
            clear hK K
            refine world_gen (fun W => Blk W v3.heap.size 36 #[.bool false, .slice none 0 0, .slice none 0 0, .bool false, .slice none 0 0, .slice none 0 0] ∧ Blk W gB 34 #[.bool x2.neg, .slice x2.a x2.n x2.c, .slice x2.b x2.m x2.d, .bool y2.neg, .slice y2.a y2.n y2.c, .slice y2.b y2.m y2.d] ∧ Below w0.heap.size w0 W) ⟨by ((repeat (first | (with_reducible assumption) | ((with_reducible apply Blk.farAt); (focus omega)) | (with_reducible apply Blk.setb) | ((with_reducible apply Blk.newAt); (focus (simp; done))) | (with_reducible apply Blk.alloc) | (with_reducible apply Blk.drew))); all_goals (show @Eq (Array Value) _ _; rfl)), by ((repeat (first | (with_reducible assumption) | ((with_reducible apply Blk.farAt); (focus omega)) | (with_reducible apply Blk.setb) | ((with_reducible apply Blk.newAt); (focus (simp; done))) | (with_reducible apply Blk.alloc) | (with_reducible apply Blk.drew))); all_goals (show @Eq (Array Value) _ _; rfl)), s3.alloc s3.size _⟩ ?_
            clear hB
            rintro v4 ⟨h6, hB, s4⟩
            obtain ⟨g6, eg6⟩ : ∃ q, v3.heap.size = q := ⟨_, rfl⟩
            rw [eg6] at h6 ⊢
            have lt6 : w0.heap.size ≤ g6 := by rw [← eg6]; exact s3.size
            clear eg6
            refine wpMT_l rfl rfl (fun K hK => ?_)
            go_simp
            refine (leastR_q x2 y2 b d k gB 2 v4 (R2.out _ (below_then hw0 s4)) (R4.out _ (below_then hw0 s4)) hk (hB.cell 0) (hB.cell 1) (hB.cell 2) (hB.cell 3) (hB.cell 4) (hB.cell 5)).mono ?_
            rintro r v5 ⟨⟨z2, rfl, HZ2⟩, hb5⟩
            dsimp only
            have s5 := below_then s4 hb5
            refine hK.out _ _ s5 (fun _ => ?_)
            clear hK K
            replace h6 := h6.below' hb5
            iterate 1 (refine wpMT_q rfl rfl (fun K hK => ?_); apply Exists.intro; refine ⟨fun w' hw' => ?_, ?_⟩; (focus (go_simp; try rfl)); go_simp; refine hK _ _ ?_; clear hK K)
            have y0 := h6.cell 0; have f0 := h6.frozen 0; have y1 := h6.cell 1; have f1 := h6.frozen 1; have y2 := h6.cell 2; have f2 := h6.frozen 2; have y3 := h6.cell 3; have f3 := h6.frozen 3; have y4 := h6.cell 4; have f4 := h6.frozen 4; have y5 := h6.cell 5; have f5 := h6.frozen 5
            refine wpMT_t rfl rfl (fun K hK => ?_)
            go_simp
            refine hK.out _ _ ?_
            clear hK K
            refine wpMT_nil ?_
            go_wp2
            go_meet
            case rel => exact ⟨_, z1, z2, rfl, by ((repeat (first | (with_reducible assumption) | ((with_reducible apply Blk.farAt); (focus omega)) | (with_reducible apply Blk.setb) | ((with_reducible apply Blk.newAt); (focus (simp; done))) | (with_reducible apply Blk.alloc) | (with_reducible apply Blk.drew))); all_goals (show @Eq (Array Value) _ _; rfl)), HZ1, HZ2, by (go_grown <;> exact lt6)⟩
        · skip
          refine wpMT_l rfl rfl (fun K hK => ?_)
          go_simp
          refine hK.out _ _ (s2.alloc s2.size _) (fun _ => ?_)
          clear hK K
          refine world_gen (fun W => Blk W v2.heap.size 36 #[.bool false, .slice none 0 0, .slice none 0 0, .bool false, .slice none 0 0, .slice none 0 0] ∧ Below w0.heap.size w0 W) ⟨by ((repeat (first | (with_reducible assumption) | ((with_reducible apply Blk.farAt); (focus omega)) | (with_reducible apply Blk.setb) | ((with_reducible apply Blk.newAt); (focus (simp; done))) | (with_reducible apply Blk.alloc) | (with_reducible apply Blk.drew))); all_goals (show @Eq (Array Value) _ _; rfl)), s2.alloc s2.size _⟩ ?_
          rintro v3 ⟨h6, s3⟩
          obtain ⟨g6, eg6⟩ : ∃ q, v2.heap.size = q := ⟨_, rfl⟩
          rw [eg6] at h6 ⊢
          have lt6 : w0.heap.size ≤ g6 := by rw [← eg6]; exact s2.size
          clear eg6
          refine wpMT_l rfl rfl (fun K hK => ?_)
          go_simp
          refine hK.out _ _ (s3.alloc s3.size _) (fun _ => ?_)
          clear hK K
          refine world_gen (fun W => Blk W v3.heap.size 34 #[.bool x2.neg, .slice x2.a x2.n x2.c, .slice x2.b x2.m x2.d, .bool y2.neg, .slice y2.a y2.n y2.c, .slice y2.b y2.m y2.d] ∧ Blk W g6 36 #[.bool false, .slice none 0 0, .slice none 0 0, .bool false, .slice none 0 0, .slice none 0 0] ∧ Below w0.heap.size w0 W) ⟨by ((repeat (first | (with_reducible assumption) | ((with_reducible apply Blk.farAt); (focus omega)) | (with_reducible apply Blk.setb) | ((with_reducible apply Blk.newAt); (focus (simp; done))) | (with_reducible apply Blk.alloc) | (with_reducible apply Blk.drew))); all_goals (show @Eq (Array Value) _ _; rfl)), by ((repeat (first | (with_reducible assumption) | ((with_reducible apply Blk.farAt); (focus omega)) | (with_reducible apply Blk.setb) | ((with_reducible apply Blk.newAt); (focus (simp; done))) | (with_reducible apply Blk.alloc) | (with_reducible apply Blk.drew))); all_goals (show @Eq (Array Value) _ _; rfl)), s3.alloc s3.size _⟩ ?_
          clear h6
          rintro v4 ⟨hB, h6, s4⟩
          obtain ⟨gB, egB⟩ : ∃ q, v3.heap.size = q := ⟨_, rfl⟩
          rw [egB] at hB ⊢
          clear egB
          refine wpMT_l rfl rfl (fun K hK => ?_)
          go_simp
          refine (leastR_q x2 y2 b d k gB 2 v4 (R2.out _ (below_then hw0 s4)) (R4.out _ (below_then hw0 s4)) hk (hB.cell 0) (hB.cell 1) (hB.cell 2) (hB.cell 3) (hB.cell 4) (hB.cell 5)).mono ?_
          rintro r v5 ⟨⟨z2, rfl, HZ2⟩, hb5⟩
          dsimp only
          have s5 := below_then s4 hb5
          refine hK.out _ _ s5 (fun _ => ?_)
          clear hK K
          replace h6 := h6.below' hb5
          iterate 1 (refine wpMT_q rfl rfl (fun K hK => ?_); apply Exists.intro; refine ⟨fun w' hw' => ?_, ?_⟩; (focus (go_simp; try rfl)); go_simp; refine hK _ _ ?_; clear hK K)
          have y0 := h6.cell 0; have f0 := h6.frozen 0; have y1 := h6.cell 1; have f1 := h6.frozen 1; have y2 := h6.cell 2; have f2 := h6.frozen 2; have y3 := h6.cell 3; have f3 := h6.frozen 3; have y4 := h6.cell 4; have f4 := h6.frozen 4; have y5 := h6.cell 5; have f5 := h6.frozen 5
          refine wpMT_t rfl rfl (fun K hK => ?_)
          go_simp
          refine hK.out _ _ ?_
          clear hK K
          refine wpMT_nil ?_
          go_wp2
          go_meet
          case rel => exact ⟨_, z1, z2, rfl, by ((repeat (first | (with_reducible assumption) | ((with_reducible apply Blk.farAt); (focus omega)) | (with_reducible apply Blk.setb) | ((with_reducible apply Blk.newAt); (focus (simp; done))) | (with_reducible apply Blk.alloc) | (with_reducible apply Blk.drew))); all_goals (show @Eq (Array Value) _ _; rfl)), HZ1, HZ2, by (go_grown <;> exact lt6)⟩
      · skip
        refine wpMT_l rfl rfl (fun K hK => ?_)
        go_simp
        refine hK.out _ _ (s1.alloc s1.size _) (fun _ => ?_)
        clear hK K
        refine world_gen (fun W => Blk W v1.heap.size 34 #[.bool x2.neg, .slice x2.a x2.n x2.c, .slice x2.b x2.m x2.d, .bool y2.neg, .slice y2.a y2.n y2.c, .slice y2.b y2.m y2.d] ∧ Blk W gA 34 #[.bool x1.neg, .slice x1.a x1.n x1.c, .slice x1.b x1.m x1.d, .bool y1.neg, .slice y1.a y1.n y1.c, .slice y1.b y1.m y1.d] ∧ Below w0.heap.size w0 W) ⟨by ((repeat (first | (with_reducible assumption) | ((with_reducible apply Blk.farAt); (focus omega)) | (with_reducible apply Blk.setb) | ((with_reducible apply Blk.newAt); (focus (simp; done))) | (with_reducible apply Blk.alloc) | (with_reducible apply Blk.drew))); all_goals (show @Eq (Array Value) _ _; rfl)), by ((repeat (first | (with_reducible assumption) | ((with_reducible apply Blk.farAt); (focus omega)) | (with_reducible apply Blk.setb) | ((with_reducible apply Blk.newAt); (focus (simp; done))) | (with_reducible apply Blk.alloc) | (with_reducible apply Blk.drew))); all_goals (show @Eq (Array Value) _ _; rfl)), s1.alloc s1.size _⟩ ?_
        clear hA
        rintro v2 ⟨hB, hA, s2⟩
        obtain ⟨gB, egB⟩ : ∃ q, v1.heap.size = q := ⟨_, rfl⟩
        rw [egB] at hB ⊢
        clear egB
        refine wpMT_two ?_ ?_
        · skip
          refine wpMT_l rfl rfl (fun K hK => ?_)
          go_simp
          refine (greatR_q x1 y1 a c k gA 2 v2 (R1.out _ (below_then hw0 s2)) (R3.out _ (below_then hw0 s2)) hk (hA.cell 0) (hA.cell 1) (hA.cell 2) (hA.cell 3) (hA.cell 4) (hA.cell 5)).mono ?_
          rintro r v3 ⟨⟨z1, rfl, HZ1⟩, hb3⟩
          dsimp only
          have s3 := below_then s2 hb3
          refine hK.out _ _ s3 (fun _ => ?_)
          clear hK K
          replace hB := hB.below' hb3
          refine wpMT_two ?_ ?_
          · skip
            refine wpMT_l rfl rfl (fun K hK => ?_)
            go_simp
            refine (leastR_q x2 y2 b d k gB 2 v3 (R2.out _ (below_then hw0 s3)) (R4.out _ (below_then hw0 s3)) hk (hB.cell 0) (hB.cell 1) (hB.cell 2) (hB.cell 3) (hB.cell 4) (hB.cell 5)).mono ?_
            rintro r v4 ⟨⟨z2, rfl, HZ2⟩, hb4⟩
            dsimp only
            have s4 := below_then s3 hb4
            refine hK.out _ _ s4 (fun _ => ?_)
            clear hK K
            iterate 1 (refine wpMT_q rfl rfl (fun K hK => ?_); apply Exists.intro; refine ⟨fun w' hw' => ?_, ?_⟩; (focus (go_simp; try rfl)); go_simp; refine hK _ _ ?_; clear hK K)
            refine wpMT_l rfl rfl (fun K hK => ?_)
            go_simp
            refine hK.out _ _ (s4.alloc s4.size _) (fun _ => ?_)
            clear hK K
            refine world_gen (fun W => Blk W v4.heap.size 36 #[.bool false, .slice none 0 0, .slice none 0 0, .bool false, .slice none 0 0, .slice none 0 0] ∧ Below w0.heap.size w0 W) ⟨by ((repeat (first | (with_reducible assumption) | ((with_reducible apply Blk.farAt); (focus omega)) | (with_reducible apply Blk.setb) | ((with_reducible apply Blk.newAt); (focus (simp; done))) | (with_reducible apply Blk.alloc) | (with_reducible apply Blk.drew))); all_goals (show @Eq (Array Value) _ _; rfl)), s4.alloc s4.size _⟩ ?_
            rintro v5 ⟨h6, s5⟩
            obtain ⟨g6, eg6⟩ : ∃ q, v4.heap.size = q := ⟨_, rfl⟩
            rw [eg6] at h6 ⊢
            have lt6 : w0.heap.size ≤ g6 := by rw [← eg6]; exact s4.size
            clear eg6
            have y0 := h6.cell 0; have f0 := h6.frozen 0; have y1 := h6.cell 1; have f1 := h6.frozen 1; have y2 := h6.cell 2; have f2 := h6.frozen 2; have y3 := h6.cell 3; have f3 := h6.frozen 3; have y4 := h6.cell 4; have f4 := h6.frozen 4; have y5 := h6.cell 5; have f5 := h6.frozen 5
            refine wpMT_t rfl rfl (fun K hK => ?_)
            go_simp
            refine hK.out _ _ ?_
            clear hK K
            refine wpMT_nil ?_
            go_wp2
            go_meet
            case rel => exact ⟨_, z1, z2, rfl, by ((repeat (first | (with_reducible assumption) | ((with_reducible apply Blk.farAt); (focus omega)) | (with_reducible apply Blk.setb) | ((with_reducible apply Blk.newAt); (focus (simp; done))) | (with_reducible apply Blk.alloc) | (with_reducible apply Blk.drew))); all_goals (show @Eq (Array Value) _ _; rfl)), HZ1, HZ2, by (go_grown <;> exact lt6)⟩
          · skip
            refine wpMT_l rfl rfl (fun K hK => ?_)
            go_simp
            refine hK.out _ _ (s3.alloc s3.size _) (fun _ => ?_)
            clear hK K
            refine world_gen (fun W => Blk W v3.heap.size 36 #[.bool false, .slice none 0 0, .slice none 0 0, .bool false, .slice none 0 0, .slice none 0 0] ∧ Blk W gB 34 #[.bool x2.neg, .slice x2.a x2.n x2.c, .slice x2.b x2.m x2.d, .bool y2.neg, .slice y2.a y2.n y2.c, .slice y2.b y2.m y2.d] ∧ Below w0.heap.size w0 W) ⟨by ((repeat (first | (with_reducible assumption) | ((with_reducible apply Blk.farAt); (focus omega)) | (with_reducible apply Blk.setb) | ((with_reducible apply Blk.newAt); (focus (simp; done))) | (with_reducible apply Blk.alloc) | (with_reducible apply Blk.drew))); all_goals (show @Eq (Array Value) _ _; rfl)), by ((repeat (first | (with_reducible assumption) | ((with_reducible apply Blk.farAt); (focus omega)) | (with_reducible apply Blk.setb) | ((with_reducible apply Blk.newAt); (focus (simp; done))) | (with_reducible apply Blk.alloc) | (with_reducible apply Blk.drew))); all_goals (show @Eq (Array Value) _ _; rfl)), s3.alloc s3.size _⟩ ?_
            clear hB
            rintro v4 ⟨h6, hB, s4⟩
            obtain ⟨g6, eg6⟩ : ∃ q, v3.heap.size = q := ⟨_, rfl⟩
            rw [eg6] at h6 ⊢
            have lt6 : w0.heap.size ≤ g6 := by rw [← eg6]; exact s3.size
            clear eg6
            refine wpMT_l rfl rfl (fun K hK => ?_)
            go_simp
            refine (leastR_q x2 y2 b d k gB 2 v4 (R2.out _ (below_then hw0 s4)) (R4.out _ (below_then hw0 s4)) hk (hB.cell 0) (hB.cell 1) (hB.cell 2) (hB.cell 3) (hB.cell 4) (hB.cell 5)).mono ?_
            rintro r v5 ⟨⟨z2, rfl, HZ2⟩, hb5⟩
            dsimp only
            have s5 := below_then s4 hb5
            refine hK.out _ _ s5 (fun _ => ?_)
            clear hK K
            replace h6 := h6.below' hb5
            iterate 1 (refine wpMT_q rfl rfl (fun K hK => ?_); apply Exists.intro; refine ⟨fun w' hw' => ?_, ?_⟩; (focus (go_simp; try rfl)); go_simp; refine hK _ _ ?_; clear hK K)
            have y0 := h6.cell 0; have f0 := h6.frozen 0; have y1 := h6.cell 1; have f1 := h6.frozen 1; have y2 := h6.cell 2; have f2 := h6.frozen 2; have y3 := h6.cell 3; have f3 := h6.frozen 3; have y4 := h6.cell 4; have f4 := h6.frozen 4; have y5 := h6.cell 5; have f5 := h6.frozen 5
            refine wpMT_t rfl rfl (fun K hK => ?_)
            go_simp
            refine hK.out _ _ ?_
            clear hK K
            refine wpMT_nil ?_
            go_wp2
            go_meet
            case rel => exact ⟨_, z1, z2, rfl, by ((repeat (first | (with_reducible assumption) | ((with_reducible apply Blk.farAt); (focus omega)) | (with_reducible apply Blk.setb) | ((with_reducible apply Blk.newAt); (focus (simp; done))) | (with_reducible apply Blk.alloc) | (with_reducible apply Blk.drew))); all_goals (show @Eq (Array Value) _ _; rfl)), HZ1, HZ2, by (go_grown <;> exact lt6)⟩
        · skip
          refine wpMT_l rfl rfl (fun K hK => ?_)
          go_simp
          refine hK.out _ _ (s2.alloc s2.size _) (fun _ => ?_)
          clear hK K
          refine world_gen (fun W => Blk W v2.heap.size 36 #[.bool false, .slice none 0 0, .slice none 0 0, .bool false, .slice none 0 0, .slice none 0 0] ∧ Blk W gA 34 #[.bool x1.neg, .slice x1.a x1.n x1.c, .slice x1.b x1.m x1.d, .bool y1.neg, .slice y1.a y1.n y1.c, .slice y1.b y1.m y1.d] ∧ Blk W gB 34 #[.bool x2.neg, .slice x2.a x2.n x2.c, .slice x2.b x2.m x2.d, .bool y2.neg, .slice y2.a y2.n y2.c, .slice y2.b y2.m y2.d] ∧ Below w0.heap.size w0 W) ⟨by ((repeat (first | (with_reducible assumption) | ((with_reducible apply Blk.farAt); (focus omega)) | (with_reducible apply Blk.setb) | ((with_reducible apply Blk.newAt); (focus (simp; done))) | (with_reducible apply Blk.alloc) | (with_reducible apply Blk.drew))); all_goals (show @Eq (Array Value) _ _; rfl)), by ((repeat (first | (with_reducible assumption) | ((with_reducible apply Blk.farAt); (focus omega)) | (with_reducible apply Blk.setb) | ((with_reducible apply Blk.newAt); (focus (simp; done))) | (with_reducible apply Blk.alloc) | (with_reducible apply Blk.drew))); all_goals (show @Eq (Array Value) _ _; rfl)), by ((repeat (first | (with_reducible assumption) | ((with_reducible apply Blk.farAt); (focus omega)) | (with_reducible apply Blk.setb) | ((with_reducible apply Blk.newAt); (focus (simp; done))) | (with_reducible apply Blk.alloc) | (with_reducible apply Blk.drew))); all_goals (show @Eq (Array Value) _ _; rfl)), s2.alloc s2.size _⟩ ?_
          clear hA hB
          rintro v3 ⟨h6, hA, hB, s3⟩
          obtain ⟨g6, eg6⟩ : ∃ q, v2.heap.size = q := ⟨_, rfl⟩
          rw [eg6] at h6 ⊢
          have lt6 : w0.heap.size ≤ g6 := by rw [← eg6]; exact s2.size
          clear eg6
          refine wpMT_l rfl rfl (fun K hK => ?_)
          go_simp
          refine (greatR_q x1 y1 a c k gA 2 v3 (R1.out _ (below_then hw0 s3)) (R3.out _ (below_then hw0 s3)) hk (hA.cell 0) (hA.cell 1) (hA.cell 2) (hA.cell 3) (hA.cell 4) (hA.cell 5)).mono ?_
          rintro r v4 ⟨⟨z1, rfl, HZ1⟩, hb4⟩
          dsimp only
          have s4 := below_then s3 hb4
          refine hK.out _ _ s4 (fun _ => ?_)
          clear hK K
          replace hB := hB.below' hb4
          replace h6 := h6.below' hb4
          refine wpMT_l rfl rfl (fun K hK => ?_)
          go_simp
          refine (leastR_q x2 y2 b d k gB 2 v4 (R2.out _ (below_then hw0 s4)) (R4.out _ (below_then hw0 s4)) hk (hB.cell 0) (hB.cell 1) (hB.cell 2) (hB.cell 3) (hB.cell 4) (hB.cell 5)).mono ?_
          rintro r v5 ⟨⟨z2, rfl, HZ2⟩, hb5⟩
          dsimp only
          have s5 := below_then s4 hb5
          refine hK.out _ _ s5 (fun _ => ?_)
          clear hK K
          replace h6 := h6.below' hb5
          iterate 1 (refine wpMT_q rfl rfl (fun K hK => ?_); apply Exists.intro; refine ⟨fun w' hw' => ?_, ?_⟩; (focus (go_simp; try rfl)); go_simp; refine hK _ _ ?_; clear hK K)
          have y0 := h6.cell 0; have f0 := h6.frozen 0; have y1 := h6.cell 1; have f1 := h6.frozen 1; have y2 := h6.cell 2; have f2 := h6.frozen 2; have y3 := h6.cell 3; have f3 := h6.frozen 3; have y4 := h6.cell 4; have f4 := h6.frozen 4; have y5 := h6.cell 5; have f5 := h6.frozen 5
          refine wpMT_t rfl rfl (fun K hK => ?_)
          go_simp
          refine hK.out _ _ ?_
          clear hK K
          refine wpMT_nil ?_
          go_wp2
          go_meet
          case rel => exact ⟨_, z1, z2, rfl, by ((repeat (first | (with_reducible assumption) | ((with_reducible apply Blk.farAt); (focus omega)) | (with_reducible apply Blk.setb) | ((with_reducible apply Blk.newAt); (focus (simp; done))) | (with_reducible apply Blk.alloc) | (with_reducible apply Blk.drew))); all_goals (show @Eq (Array Value) _ _; rfl)), HZ1, HZ2, by (go_grown <;> exact lt6)⟩
      · skip
        refine wpMT_l rfl rfl (fun K hK => ?_)
        go_simp
        refine hK.out _ _ (s1.alloc s1.size _) (fun _ => ?_)
        clear hK K
        refine world_gen (fun W => Blk W v1.heap.size 36 #[.bool false, .slice none 0 0, .slice none 0 0, .bool false, .slice none 0 0, .slice none 0 0] ∧ Blk W gA 34 #[.bool x1.neg, .slice x1.a x1.n x1.c, .slice x1.b x1.m x1.d, .bool y1.neg, .slice y1.a y1.n y1.c, .slice y1.b y1.m y1.d] ∧ Below w0.heap.size w0 W) ⟨by ((repeat (first | (with_reducible assumption) | ((with_reducible apply Blk.farAt); (focus omega)) | (with_reducible apply Blk.setb) | ((with_reducible apply Blk.newAt); (focus (simp; done))) | (with_reducible apply Blk.alloc) | (with_reducible apply Blk.drew))); all_goals (show @Eq (Array Value) _ _; rfl)), by ((repeat (first | (with_reducible assumption) | ((with_reducible apply Blk.farAt); (focus omega)) | (with_reducible apply Blk.setb) | ((with_reducible apply Blk.newAt); (focus (simp; done))) | (with_reducible apply Blk.alloc) | (with_reducible apply Blk.drew))); all_goals (show @Eq (Array Value) _ _; rfl)), s1.alloc s1.size _⟩ ?_
        clear hA
        rintro v2 ⟨h6, hA, s2⟩
        obtain ⟨g6, eg6⟩ : ∃ q, v1.heap.size = q := ⟨_, rfl⟩
        rw [eg6] at h6 ⊢
        have lt6 : w0.heap.size ≤ g6 := by rw [← eg6]; exact s1.size
        clear eg6
        refine wpMT_two ?_ ?_
        · skip
          refine wpMT_l rfl rfl (fun K hK => ?_)
          go_simp
          refine (greatR_q x1 y1 a c k gA 2 v2 (R1.out _ (below_then hw0 s2)) (R3.out _ (below_then hw0 s2)) hk (hA.cell 0) (hA.cell 1) (hA.cell 2) (hA.cell 3) (hA.cell 4) (hA.cell 5)).mono ?_
          rintro r v3 ⟨⟨z1, rfl, HZ1⟩, hb3⟩
          dsimp only
          have s3 := below_then s2 hb3
          refine hK.out _ _ s3 (fun _ => ?_)
          clear hK K
          replace h6 := h6.below' hb3
          refine wpMT_l rfl rfl (fun K hK => ?_)
          go_simp
          refine hK.out _ _ (s3.alloc s3.size _) (fun _ => ?_)
          clear hK K
          refine world_gen (fun W => Blk W v3.heap.size 34 #[.bool x2.neg, .slice x2.a x2.n x2.c, .slice x2.b x2.m x2.d, .bool y2.neg, .slice y2.a y2.n y2.c, .slice y2.b y2.m y2.d] ∧ Blk W g6 36 #[.bool false, .slice none 0 0, .slice none 0 0, .bool false, .slice none 0 0, .slice none 0 0] ∧ Below w0.heap.size w0 W) ⟨by ((repeat (first | (with_reducible assumption) | ((with_reducible apply Blk.farAt); (focus omega)) | (with_reducible apply Blk.setb) | ((with_reducible apply Blk.newAt); (focus (simp; done))) | (with_reducible apply Blk.alloc) | (with_reducible apply Blk.drew))); all_goals (show @Eq (Array Value) _ _; rfl)), by ((repeat (first | (with_reducible assumption) | ((with_reducible apply Blk.farAt); (focus omega)) | (with_reducible apply Blk.setb) | ((with_reducible apply Blk.newAt); (focus (simp; done))) | (with_reducible apply Blk.alloc) | (with_reducible apply Blk.drew))); all_goals (show @Eq (Array Value) _ _; rfl)), s3.alloc s3.size _⟩ ?_
          clear h6
          rintro v4 ⟨hB, h6, s4⟩
          obtain ⟨gB, egB⟩ : ∃ q, v3.heap.size = q := ⟨_, rfl⟩
          rw [egB] at hB ⊢
          clear egB
          refine wpMT_l rfl rfl (fun K hK => ?_)
          go_simp
          refine (leastR_q x2 y2 b d k gB 2 v4 (R2.out _ (below_then hw0 s4)) (R4.out _ (below_then hw0 s4)) hk (hB.cell 0) (hB.cell 1) (hB.cell 2) (hB.cell 3) (hB.cell 4) (hB.cell 5)).mono ?_
          rintro r v5 ⟨⟨z2, rfl, HZ2⟩, hb5⟩
          dsimp only
          have s5 := below_then s4 hb5
          refine hK.out _ _ s5 (fun _ => ?_)
          clear hK K
          replace h6 := h6.below' hb5
          iterate 1 (refine wpMT_q rfl rfl (fun K hK => ?_); apply Exists.intro; refine ⟨fun w' hw' => ?_, ?_⟩; (focus (go_simp; try rfl)); go_simp; refine hK _ _ ?_; clear hK K)
          have y0 := h6.cell 0; have f0 := h6.frozen 0; have y1 := h6.cell 1; have f1 := h6.frozen 1; have y2 := h6.cell 2; have f2 := h6.frozen 2; have y3 := h6.cell 3; have f3 := h6.frozen 3; have y4 := h6.cell 4; have f4 := h6.frozen 4; have y5 := h6.cell 5; have f5 := h6.frozen 5
          refine wpMT_t rfl rfl (fun K hK => ?_)
          go_simp
          refine hK.out _ _ ?_
          clear hK K
          refine wpMT_nil ?_
          go_wp2
          go_meet
          case rel => exact ⟨_, z1, z2, rfl, by ((repeat (first | (with_reducible assumption) | ((with_reducible apply Blk.farAt); (focus omega)) | (with_reducible apply Blk.setb) | ((with_reducible apply Blk.newAt); (focus (simp; done))) | (with_reducible apply Blk.alloc) | (with_reducible apply Blk.drew))); all_goals (show @Eq (Array Value) _ _; rfl)), HZ1, HZ2, by (go_grown <;> exact lt6)⟩
        · skip
          refine wpMT_l rfl rfl (fun K hK => ?_)
          go_simp
          refine hK.out _ _ (s2.alloc s2.size _) (fun _ => ?_)
          clear hK K
          refine world_gen (fun W => Blk W v2.heap.size 34 #[.bool x2.neg, .slice x2.a x2.n x2.c, .slice x2.b x2.m x2.d, .bool y2.neg, .slice y2.a y2.n y2.c, .slice y2.b y2.m y2.d] ∧ Blk W gA 34 #[.bool x1.neg, .slice x1.a x1.n x1.c, .slice x1.b x1.m x1.d, .bool y1.neg, .slice y1.a y1.n y1.c, .slice y1.b y1.m y1.d] ∧ Blk W g6 36 #[.bool false, .slice none 0 0, .slice none 0 0, .bool false, .slice none 0 0, .slice none 0 0] ∧ Below w0.heap.size w0 W) ⟨by ((repeat (first | (with_reducible assumption) | ((with_reducible apply Blk.farAt); (focus omega)) | (with_reducible apply Blk.setb) | ((with_reducible apply Blk.newAt); (focus (simp; done))) | (with_reducible apply Blk.alloc) | (with_reducible apply Blk.drew))); all_goals (show @Eq (Array Value) _ _; rfl)), by ((repeat (first | (with_reducible assumption) | ((with_reducible apply Blk.farAt); (focus omega)) | (with_reducible apply Blk.setb) | ((with_reducible apply Blk.newAt); (focus (simp; done))) | (with_reducible apply Blk.alloc) | (with_reducible apply Blk.drew))); all_goals (show @Eq (Array Value) _ _; rfl)), by ((repeat (first | (with_reducible assumption) | ((with_reducible apply Blk.farAt); (focus omega)) | (with_reducible apply Blk.setb) | ((with_reducible apply Blk.newAt); (focus (simp; done))) | (with_reducible apply Blk.alloc) | (with_reducible apply Blk.drew))); all_goals (show @Eq (Array Value) _ _; rfl)), s2.alloc s2.size _⟩ ?_
          clear hA h6
          rintro v3 ⟨hB, hA, h6, s3⟩
          obtain ⟨gB, egB⟩ : ∃ q, v2.heap.size = q := ⟨_, rfl⟩
          rw [egB] at hB ⊢
          clear egB
          refine wpMT_l rfl rfl (fun K hK => ?_)
          go_simp
          refine (greatR_q x1 y1 a c k gA 2 v3 (R1.out _ (below_then hw0 s3)) (R3.out _ (below_then hw0 s3)) hk (hA.cell 0) (hA.cell 1) (hA.cell 2) (hA.cell 3) (hA.cell 4) (hA.cell 5)).mono ?_
          rintro r v4 ⟨⟨z1, rfl, HZ1⟩, hb4⟩
          dsimp only
          have s4 := below_then s3 hb4
          refine hK.out _ _ s4 (fun _ => ?_)
          clear hK K
          replace hB := hB.below' hb4
          replace h6 := h6.below' hb4
          refine wpMT_l rfl rfl (fun K hK => ?_)
          go_simp
          refine (leastR_q x2 y2 b d k gB 2 v4 (R2.out _ (below_then hw0 s4)) (R4.out _ (below_then hw0 s4)) hk (hB.cell 0) (hB.cell 1) (hB.cell 2) (hB.cell 3) (hB.cell 4) (hB.cell 5)).mono ?_
          rintro r v5 ⟨⟨z2, rfl, HZ2⟩, hb5⟩
          dsimp only
          have s5 := below_then s4 hb5
          refine hK.out _ _ s5 (fun _ => ?_)
          clear hK K
          replace h6 := h6.below' hb5
          iterate 1 (refine wpMT_q rfl rfl (fun K hK => ?_); apply Exists.intro; refine ⟨fun w' hw' => ?_, ?_⟩; (focus (go_simp; try rfl)); go_simp; refine hK _ _ ?_; clear hK K)
          have y0 := h6.cell 0; have f0 := h6.frozen 0; have y1 := h6.cell 1; have f1 := h6.frozen 1; have y2 := h6.cell 2; have f2 := h6.frozen 2; have y3 := h6.cell 3; have f3 := h6.frozen 3; have y4 := h6.cell 4; have f4 := h6.frozen 4; have y5 := h6.cell 5; have f5 := h6.frozen 5
          refine wpMT_t rfl rfl (fun K hK => ?_)
          go_simp
          refine hK.out _ _ ?_
          clear hK K
          refine wpMT_nil ?_
          go_wp2
          go_meet
          case rel => exact ⟨_, z1, z2, rfl, by ((repeat (first | (with_reducible assumption) | ((with_reducible apply Blk.farAt); (focus omega)) | (with_reducible apply Blk.setb) | ((with_reducible apply Blk.newAt); (focus (simp; done))) | (with_reducible apply Blk.alloc) | (with_reducible apply Blk.drew))); all_goals (show @Eq (Array Value) _ _; rfl)), HZ1, HZ2, by (go_grown <;> exact lt6)⟩
    · skip
      refine wpMT_l rfl rfl (fun K hK => ?_)
      go_simp
      refine hK.out _ _ (s0.alloc s0.size _) (fun _ => ?_)
      clear hK K
      refine world_gen (fun W => Blk W v0.heap.size 34 #[.bool x2.neg, .slice x2.a x2.n x2.c, .slice x2.b x2.m x2.d, .bool y2.neg, .slice y2.a y2.n y2.c, .slice y2.b y2.m y2.d] ∧ Below w0.heap.size w0 W) ⟨by ((repeat (first | (with_reducible assumption) | ((with_reducible apply Blk.farAt); (focus omega)) | (with_reducible apply Blk.setb) | ((with_reducible apply Blk.newAt); (focus (simp; done))) | (with_reducible apply Blk.alloc) | (with_reducible apply Blk.drew))); all_goals (show @Eq (Array Value) _ _; rfl)), s0.alloc s0.size _⟩ ?_
      rintro v1 ⟨hB, s1⟩
      obtain ⟨gB, egB⟩ : ∃ q, v0.heap.size = q := ⟨_, rfl⟩
      rw [egB] at hB ⊢
      clear egB
      refine wpMT_two ?_ ?_
      · skip
        refine wpMT_l rfl rfl (fun K hK => ?_)
        go_simp
        refine hK.out _ _ (s1.alloc s1.size _) (fun _ => ?_)
        clear hK K
        refine world_gen (fun W => Blk W v1.heap.size 34 #[.bool x1.neg, .slice x1.a x1.n x1.c, .slice x1.b x1.m x1.d, .bool y1.neg, .slice y1.a y1.n y1.c, .slice y1.b y1.m y1.d] ∧ Blk W gB 34 #[.bool x2.neg, .slice x2.a x2.n x2.c, .slice x2.b x2.m x2.d, .bool y2.neg, .slice y2.a y2.n y2.c, .slice y2.b y2.m y2.d] ∧ Below w0.heap.size w0 W) ⟨by ((repeat (first | (with_reducible assumption) | ((with_reducible apply Blk.farAt); (focus omega)) | (with_reducible apply Blk.setb) | ((with_reducible apply Blk.newAt); (focus (simp; done))) | (with_reducible apply Blk.alloc) | (with_reducible apply Blk.drew))); all_goals (show @Eq (Array Value) _ _; rfl)), by ((repeat (first | (with_reducible assumption) | ((with_reducible apply Blk.farAt); (focus omega)) | (with_reducible apply Blk.setb) | ((with_reducible apply Blk.newAt); (focus (simp; done))) | (with_reducible apply Blk.alloc) | (with_reducible apply Blk.drew))); all_goals (show @Eq (Array Value) _ _; rfl)), s1.alloc s1.size _⟩ ?_
        clear hB
        rintro v2 ⟨hA, hB, s2⟩
        obtain ⟨gA, egA⟩ : ∃ q, v1.heap.size = q := ⟨_, rfl⟩
        rw [egA] at hA ⊢
        clear egA
        refine wpMT_two ?_ ?_
        · skip
          refine wpMT_l rfl rfl (fun K hK => ?_)
          go_simp
          refine (greatR_q x1 y1 a c k gA 2 v2 (R1.out _ (below_then hw0 s2)) (R3.out _ (below_then hw0 s2)) hk (hA.cell 0) (hA.cell 1) (hA.cell 2) (hA.cell 3) (hA.cell 4) (hA.cell 5)).mono ?_
          rintro r v3 ⟨⟨z1, rfl, HZ1⟩, hb3⟩
          dsimp only
          have s3 := below_then s2 hb3
          refine hK.out _ _ s3 (fun _ => ?_)
          clear hK K
          replace hB := hB.below' hb3
          refine wpMT_two ?_ ?_
          · skip
            refine wpMT_l rfl rfl (fun K hK => ?_)
            go_simp
            refine (leastR_q x2 y2 b d k gB 2 v3 (R2.out _ (below_then hw0 s3)) (R4.out _ (below_then hw0 s3)) hk (hB.cell 0) (hB.cell 1) (hB.cell 2) (hB.cell 3) (hB.cell 4) (hB.cell 5)).mono ?_
            rintro r v4 ⟨⟨z2, rfl, HZ2⟩, hb4⟩
            dsimp only
            have s4 := below_then s3 hb4
            refine hK.out _ _ s4 (fun _ => ?_)
            clear hK K
            iterate 1 (refine wpMT_q rfl rfl (fun K hK => ?_); apply Exists.intro; refine ⟨fun w' hw' => ?_, ?_⟩; (focus (go_simp; try rfl)); go_simp; refine hK _ _ ?_; clear hK K)
            refine wpMT_l rfl rfl (fun K hK => ?_)
            go_simp
            refine hK.out _ _ (s4.alloc s4.size _) (fun _ => ?_)
            clear hK K
            refine world_gen (fun W => Blk W v4.heap.size 36 #[.bool false, .slice none 0 0, .slice none 0 0, .bool false, .slice none 0 0, .slice none 0 0] ∧ Below w0.heap.size w0 W) ⟨by ((repeat (first | (with_reducible assumption) | ((with_reducible apply Blk.farAt); (focus omega)) | (with_reducible apply Blk.setb) | ((with_reducible apply Blk.newAt); (focus (simp; done))) | (with_reducible apply Blk.alloc) | (with_reducible apply Blk.drew))); all_goals (show @Eq (Array Value) _ _; rfl)), s4.alloc s4.size _⟩ ?_
            rintro v5 ⟨h6, s5⟩
            obtain ⟨g6, eg6⟩ : ∃ q, v4.heap.size = q := ⟨_, rfl⟩
            rw [eg6] at h6 ⊢
            have lt6 : w0.heap.size ≤ g6 := by rw [← eg6]; exact s4.size
            clear eg6
            have y0 := h6.cell 0; have f0 := h6.frozen 0; have y1 := h6.cell 1; have f1 := h6.frozen 1; have y2 := h6.cell 2; have f2 := h6.frozen 2; have y3 := h6.cell 3; have f3 := h6.frozen 3; have y4 := h6.cell 4; have f4 := h6.frozen 4; have y5 := h6.cell 5; have f5 := h6.frozen 5
            refine wpMT_t rfl rfl (fun K hK => ?_)
            go_simp
            refine hK.out _ _ ?_
            clear hK K
            refine wpMT_nil ?_
            go_wp2
            go_meet
            case rel => exact ⟨_, z1, z2, rfl, by ((repeat (first | (with_reducible assumption) | ((with_reducible apply Blk.farAt); (focus omega)) | (with_reducible apply Blk.setb) | ((with_reducible apply Blk.newAt); (focus (simp; done))) | (with_reducible apply Blk.alloc) | (with_reducible apply Blk.drew))); all_goals (show @Eq (Array Value) _ _; rfl)), HZ1, HZ2, by (go_grown <;> exact lt6)⟩
          · skip
            refine wpMT_l rfl rfl (fun K hK => ?_)
            go_simp
            refine hK.out _ _ (s3.alloc s3.size _) (fun _ => ?_)
            clear hK K
            refine world_gen (fun W => Blk W v3.heap.size 36 #[.bool false, .slice none 0 0, .slice none 0 0, .bool false, .slice none 0 0, .slice none 0 0] ∧ Blk W gB 34 #[.bool x2.neg, .slice x2.a x2.n x2.c, .slice x2.b x2.m x2.d, .bool y2.neg, .slice y2.a y2.n y2.c, .slice y2.b y2.m y2.d] ∧ Below w0.heap.size w0 W) ⟨by ((repeat (first | (with_reducible assumption) | ((with_reducible apply Blk.farAt); (focus omega)) | (with_reducible apply Blk.setb) | ((with_reducible apply Blk.newAt); (focus (simp; done))) | (with_reducible apply Blk.alloc) | (with_reducible apply Blk.drew))); all_goals (show @Eq (Array Value) _ _; rfl)), by ((repeat (first | (with_reducible assumption) | ((with_reducible apply Blk.farAt); (focus omega)) | (with_reducible apply Blk.setb) | ((with_reducible apply Blk.newAt); (focus (simp; done))) | (with_reducible apply Blk.alloc) | (with_reducible apply Blk.drew))); all_goals (show @Eq (Array Value) _ _; rfl)), s3.alloc s3.size _⟩ ?_
            clear hB
            rintro v4 ⟨h6, hB, s4⟩
            obtain ⟨g6, eg6⟩ : ∃ q, v3.heap.size = q := ⟨_, rfl⟩
            rw [eg6] at h6 ⊢
            have lt6 : w0.heap.size ≤ g6 := by rw [← eg6]; exact s3.size
            clear eg6
            refine wpMT_l rfl rfl (fun K hK => ?_)
            go_simp
            refine (leastR_q x2 y2 b d k gB 2 v4 (R2.out _ (below_then hw0 s4)) (R4.out _ (below_then hw0 s4)) hk (hB.cell 0) (hB.cell 1) (hB.cell 2) (hB.cell 3) (hB.cell 4) (hB.cell 5)).mono ?_
            rintro r v5 ⟨⟨z2, rfl, HZ2⟩, hb5⟩
            dsimp only
            have s5 := below_then s4 hb5
            refine hK.out _ _ s5 (fun _ => ?_)
            clear hK K
            replace h6 := h6.below' hb5
            iterate 1 (refine wpMT_q rfl rfl (fun K hK => ?_); apply Exists.intro; refine ⟨fun w' hw' => ?_, ?_⟩; (focus (go_simp; try rfl)); go_simp; refine hK _ _ ?_; clear hK K)
            have y0 := h6.cell 0; have f0 := h6.frozen 0; have y1 := h6.cell 1; have f1 := h6.frozen 1; have y2 := h6.cell 2; have f2 := h6.frozen 2; have y3 := h6.cell 3; have f3 := h6.frozen 3; have y4 := h6.cell 4; have f4 := h6.frozen 4; have y5 := h6.cell 5; have f5 := h6.frozen 5
            refine wpMT_t rfl rfl (fun K hK => ?_)
            go_simp
            refine hK.out _ _ ?_
            clear hK K
            refine wpMT_nil ?_
            go_wp2
            go_meet
            case rel => exact ⟨_, z1, z2, rfl, by ((repeat (first | (with_reducible assumption) | ((with_reducible apply Blk.farAt); (focus omega)) | (with_reducible apply Blk.setb) | ((with_reducible apply Blk.newAt); (focus (simp; done))) | (with_reducible apply Blk.alloc) | (with_reducible apply Blk.drew))); all_goals (show @Eq (Array Value) _ _; rfl)), HZ1, HZ2, by (go_grown <;> exact lt6)⟩
        · skip
          refine wpMT_l rfl rfl (fun K hK => ?_)
          go_simp
          refine hK.out _ _ (s2.alloc s2.size _) (fun _ => ?_)
          clear hK K
          refine world_gen (fun W => Blk W v2.heap.size 36 #[.bool false, .slice none 0 0, .slice none 0 0, .bool false, .slice none 0 0, .slice none 0 0] ∧ Blk W gA 34 #[.bool x1.neg, .slice x1.a x1.n x1.c, .slice x1.b x1.m x1.d, .bool y1.neg, .slice y1.a y1.n y1.c, .slice y1.b y1.m y1.d] ∧ Blk W gB 34 #[.bool x2.neg, .slice x2.a x2.n x2.c, .slice x2.b x2.m x2.d, .bool y2.neg, .slice y2.a y2.n y2.c, .slice y2.b y2.m y2.d] ∧ Below w0.heap.size w0 W) ⟨by ((repeat (first | (with_reducible assumption) | ((with_reducible apply Blk.farAt); (focus omega)) | (with_reducible apply Blk.setb) | ((with_reducible apply Blk.newAt); (focus (simp; done))) | (with_reducible apply Blk.alloc) | (with_reducible apply Blk.drew))); all_goals (show @Eq (Array Value) _ _; rfl)), by ((repeat (first | (with_reducible assumption) | ((with_reducible apply Blk.farAt); (focus omega)) | (with_reducible apply Blk.setb) | ((with_reducible apply Blk.newAt); (focus (simp; done))) | (with_reducible apply Blk.alloc) | (with_reducible apply Blk.drew))); all_goals (show @Eq (Array Value) _ _; rfl)), by ((repeat (first | (with_reducible assumption) | ((with_reducible apply Blk.farAt); (focus omega)) | (with_reducible apply Blk.setb) | ((with_reducible apply Blk.newAt); (focus (simp; done))) | (with_reducible apply Blk.alloc) | (with_reducible apply Blk.drew))); all_goals (show @Eq (Array Value) _ _; rfl)), s2.alloc s2.size _⟩ ?_
          clear hA hB
          rintro v3 ⟨h6, hA, hB, s3⟩
          obtain ⟨g6, eg6⟩ : ∃ q, v2.heap.size = q := ⟨_, rfl⟩
          rw [eg6] at h6 ⊢
          have lt6 : w0.heap.size ≤ g6 := by rw [← eg6]; exact s2.size
          clear eg6
          refine wpMT_l rfl rfl (fun K hK => ?_)
          go_simp
          refine (greatR_q x1 y1 a c k gA 2 v3 (R1.out _ (below_then hw0 s3)) (R3.out _ (below_then hw0 s3)) hk (hA.cell 0) (hA.cell 1) (hA.cell 2) (hA.cell 3) (hA.cell 4) (hA.cell 5)).mono ?_
          rintro r v4 ⟨⟨z1, rfl, HZ1⟩, hb4⟩
          dsimp only
          have s4 := below_then s3 hb4
          refine hK.out _ _ s4 (fun _ => ?_)
          clear hK K
          replace hB := hB.below' hb4
          replace h6 := h6.below' hb4
          refine wpMT_l rfl rfl (fun K hK => ?_)
          go_simp
          refine (leastR_q x2 y2 b d k gB 2 v4 (R2.out _ (below_then hw0 s4)) (R4.out _ (below_then hw0 s4)) hk (hB.cell 0) (hB.cell 1) (hB.cell 2) (hB.cell 3) (hB.cell 4) (hB.cell 5)).mono ?_
          rintro r v5 ⟨⟨z2, rfl, HZ2⟩, hb5⟩
          dsimp only
          have s5 := below_then s4 hb5
          refine hK.out _ _ s5 (fun _ => ?_)
          clear hK K
          replace h6 := h6.below' hb5
          iterate 1 (refine wpMT_q rfl rfl (fun K hK => ?_); apply Exists.intro; refine ⟨fun w' hw' => ?_, ?_⟩; (focus (go_simp; try rfl)); go_simp; refine hK _ _ ?_; clear hK K)
          have y0 := h6.cell 0; have f0 := h6.frozen 0; have y1 := h6.cell 1; have f1 := h6.frozen 1; have y2 := h6.cell 2; have f2 := h6.frozen 2; have y3 := h6.cell 3; have f3 := h6.frozen 3; have y4 := h6.cell 4; have f4 := h6.frozen 4; have y5 := h6.cell 5; have f5 := h6.frozen 5
          refine wpMT_t rfl rfl (fun K hK => ?_)
          go_simp
          refine hK.out _ _ ?_
          clear hK K
          refine wpMT_nil ?_
          go_wp2
          go_meet
          case rel => exact ⟨_, z1, z2, rfl, by ((repeat (first | (with_reducible assumption) | ((with_reducible apply Blk.farAt); (focus omega)) | (with_reducible apply Blk.setb) | ((with_reducible apply Blk.newAt); (focus (simp; done))) | (with_reducible apply Blk.alloc) | (with_reducible apply Blk.drew))); all_goals (show @Eq (Array Value) _ _; rfl)), HZ1, HZ2, by (go_grown <;> exact lt6)⟩
      · skip
        refine wpMT_l rfl rfl (fun K hK => ?_)
        go_simp
        refine hK.out _ _ (s1.alloc s1.size _) (fun _ => ?_)
        clear hK K
        refine world_gen (fun W => Blk W v1.heap.size 36 #[.bool false, .slice none 0 0, .slice none 0 0, .bool false, .slice none 0 0, .slice none 0 0] ∧ Blk W gB 34 #[.bool x2.neg, .slice x2.a x2.n x2.c, .slice x2.b x2.m x2.d, .bool y2.neg, .slice y2.a y2.n y2.c, .slice y2.b y2.m y2.d] ∧ Below w0.heap.size w0 W) ⟨by ((repeat (first | (with_reducible assumption) | ((with_reducible apply Blk.farAt); (focus omega)) | (with_reducible apply Blk.setb) | ((with_reducible apply Blk.newAt); (focus (simp; done))) | (with_reducible apply Blk.alloc) | (with_reducible apply Blk.drew))); all_goals (show @Eq (Array Value) _ _; rfl)), by ((repeat (first | (with_reducible assumption) | ((with_reducible apply Blk.farAt); (focus omega)) | (with_reducible apply Blk.setb) | ((with_reducible apply Blk.newAt); (focus (simp; done))) | (with_reducible apply Blk.alloc) | (with_reducible apply Blk.drew))); all_goals (show @Eq (Array Value) _ _; rfl)), s1.alloc s1.size _⟩ ?_
        clear hB
        rintro v2 ⟨h6, hB, s2⟩
        obtain ⟨g6, eg6⟩ : ∃ q, v1.heap.size = q := ⟨_, rfl⟩
        rw [eg6] at h6 ⊢
        have lt6 : w0.heap.size ≤ g6 := by rw [← eg6]; exact s1.size
        clear eg6
        refine wpMT_l rfl rfl (fun K hK => ?_)
        go_simp
        refine hK.out _ _ (s2.alloc s2.size _) (fun _ => ?_)
        clear hK K
        refine world_gen (fun W => Blk W v2.heap.size 34 #[.bool x1.neg, .slice x1.a x1.n x1.c, .slice x1.b x1.m x1.d, .bool y1.neg, .slice y1.a y1.n y1.c, .slice y1.b y1.m y1.d] ∧ Blk W gB 34 #[.bool x2.neg, .slice x2.a x2.n x2.c, .slice x2.b x2.m x2.d, .bool y2.neg, .slice y2.a y2.n y2.c, .slice y2.b y2.m y2.d] ∧ Blk W g6 36 #[.bool false, .slice none 0 0, .slice none 0 0, .bool false, .slice none 0 0, .slice none 0 0] ∧ Below w0.heap.size w0 W) ⟨by ((repeat (first | (with_reducible assumption) | ((with_reducible apply Blk.farAt); (focus omega)) | (with_reducible apply Blk.setb) | ((with_reducible apply Blk.newAt); (focus (simp; done))) | (with_reducible apply Blk.alloc) | (with_reducible apply Blk.drew))); all_goals (show @Eq (Array Value) _ _; rfl)), by ((repeat (first | (with_reducible assumption) | ((with_reducible apply Blk.farAt); (focus omega)) | (with_reducible apply Blk.setb) | ((with_reducible apply Blk.newAt); (focus (simp; done))) | (with_reducible apply Blk.alloc) | (with_reducible apply Blk.drew))); all_goals (show @Eq (Array Value) _ _; rfl)), by ((repeat (first | (with_reducible assumption) | ((with_reducible apply Blk.farAt); (focus omega)) | (with_reducible apply Blk.setb) | ((with_reducible apply Blk.newAt); (focus (simp; done))) | (with_reducible apply Blk.alloc) | (with_reducible apply Blk.drew))); all_goals (show @Eq (Array Value) _ _; rfl)), s2.alloc s2.size _⟩ ?_
        clear hB h6
        rintro v3 ⟨hA, hB, h6, s3⟩
        obtain ⟨gA, egA⟩ : ∃ q, v2.heap.size = q := ⟨_, rfl⟩
        rw [egA] at hA ⊢
        clear egA
        refine wpMT_l rfl rfl (fun K hK => ?_)
        go_simp
        refine (greatR_q x1 y1 a c k gA 2 v3 (R1.out _ (below_then hw0 s3)) (R3.out _ (below_then hw0 s3)) hk (hA.cell 0) (hA.cell 1) (hA.cell 2) (hA.cell 3) (hA.cell 4) (hA.cell 5)).mono ?_
        rintro r v4 ⟨⟨z1, rfl, HZ1⟩, hb4⟩
        dsimp only
        have s4 := below_then s3 hb4
        refine hK.out _ _ s4 (fun _ => ?_)
        clear hK K
        replace hB := hB.below' hb4
        replace h6 := h6.below' hb4
        refine wpMT_l rfl rfl (fun K hK => ?_)
        go_simp
        refine (leastR_q x2 y2 b d k gB 2 v4 (R2.out _ (below_then hw0 s4)) (R4.out _ (below_then hw0 s4)) hk (hB.cell 0) (hB.cell 1) (hB.cell 2) (hB.cell 3) (hB.cell 4) (hB.cell 5)).mono ?_
        rintro r v5 ⟨⟨z2, rfl, HZ2⟩, hb5⟩
        dsimp only
        have s5 := below_then s4 hb5
        refine hK.out _ _ s5 (fun _ => ?_)
        clear hK K
        replace h6 := h6.below' hb5
        iterate 1 (refine wpMT_q rfl rfl (fun K hK => ?_); apply Exists.intro; refine ⟨fun w' hw' => ?_, ?_⟩; (focus (go_simp; try rfl)); go_simp; refine hK _ _ ?_; clear hK K)
        have y0 := h6.cell 0; have f0 := h6.frozen 0; have y1 := h6.cell 1; have f1 := h6.frozen 1; have y2 := h6.cell 2; have f2 := h6.frozen 2; have y3 := h6.cell 3; have f3 := h6.frozen 3; have y4 := h6.cell 4; have f4 := h6.frozen 4; have y5 := h6.cell 5; have f5 := h6.frozen 5
        refine wpMT_t rfl rfl (fun K hK => ?_)
        go_simp
        refine hK.out _ _ ?_
        clear hK K
        refine wpMT_nil ?_
        go_wp2
        go_meet
        case rel => exact ⟨_, z1, z2, rfl, by ((repeat (first | (with_reducible assumption) | ((with_reducible apply Blk.farAt); (focus omega)) | (with_reducible apply Blk.setb) | ((with_reducible apply Blk.newAt); (focus (simp; done))) | (with_reducible apply Blk.alloc) | (with_reducible apply Blk.drew))); all_goals (show @Eq (Array Value) _ _; rfl)), HZ1, HZ2, by (go_grown <;> exact lt6)⟩
    · skip
      refine wpMT_l rfl rfl (fun K hK => ?_)
      go_simp
      refine hK.out _ _ (s0.alloc s0.size _) (fun _ => ?_)
      clear hK K
      refine world_gen (fun W => Blk W v0.heap.size 36 #[.bool false, .slice none 0 0, .slice none 0 0, .bool false, .slice none 0 0, .slice none 0 0] ∧ Below w0.heap.size w0 W) ⟨by ((repeat (first | (with_reducible assumption) | ((with_reducible apply Blk.farAt); (focus omega)) | (with_reducible apply Blk.setb) | ((with_reducible apply Blk.newAt); (focus (simp; done))) | (with_reducible apply Blk.alloc) | (with_reducible apply Blk.drew))); all_goals (show @Eq (Array Value) _ _; rfl)), s0.alloc s0.size _⟩ ?_
      rintro v1 ⟨h6, s1⟩
      obtain ⟨g6, eg6⟩ : ∃ q, v0.heap.size = q := ⟨_, rfl⟩
      rw [eg6] at h6 ⊢
      have lt6 : w0.heap.size ≤ g6 := by rw [← eg6]; exact s0.size
      clear eg6
      refine wpMT_two ?_ ?_
      · skip
        refine wpMT_l rfl rfl (fun K hK => ?_)
        go_simp
        refine hK.out _ _ (s1.alloc s1.size _) (fun _ => ?_)
        clear hK K
        refine world_gen (fun W => Blk W v1.heap.size 34 #[.bool x1.neg, .slice x1.a x1.n x1.c, .slice x1.b x1.m x1.d, .bool y1.neg, .slice y1.a y1.n y1.c, .slice y1.b y1.m y1.d] ∧ Blk W g6 36 #[.bool false, .slice none 0 0, .slice none 0 0, .bool false, .slice none 0 0, .slice none 0 0] ∧ Below w0.heap.size w0 W) ⟨by ((repeat (first | (with_reducible assumption) | ((with_reducible apply Blk.farAt); (focus omega)) | (with_reducible apply Blk.setb) | ((with_reducible apply Blk.newAt); (focus (simp; done))) | (with_reducible apply Blk.alloc) | (with_reducible apply Blk.drew))); all_goals (show @Eq (Array Value) _ _; rfl)), by ((repeat (first | (with_reducible assumption) | ((with_reducible apply Blk.farAt); (focus omega)) | (with_reducible apply Blk.setb) | ((with_reducible apply Blk.newAt); (focus (simp; done))) | (with_reducible apply Blk.alloc) | (with_reducible apply Blk.drew))); all_goals (show @Eq (Array Value) _ _; rfl)), s1.alloc s1.size _⟩ ?_
        clear h6
        rintro v2 ⟨hA, h6, s2⟩
        obtain ⟨gA, egA⟩ : ∃ q, v1.heap.size = q := ⟨_, rfl⟩
        rw [egA] at hA ⊢
        clear egA
        refine wpMT_two ?_ ?_
        · skip
          refine wpMT_l rfl rfl (fun K hK => ?_)
          go_simp
          refine (greatR_q x1 y1 a c k gA 2 v2 (R1.out _ (below_then hw0 s2)) (R3.out _ (below_then hw0 s2)) hk (hA.cell 0) (hA.cell 1) (hA.cell 2) (hA.cell 3) (hA.cell 4) (hA.cell 5)).mono ?_
          rintro r v3 ⟨⟨z1, rfl, HZ1⟩, hb3⟩
          dsimp only
          have s3 := below_then s2 hb3
          refine hK.out _ _ s3 (fun _ => ?_)
          clear hK K
          replace h6 := h6.below' hb3
          refine wpMT_l rfl rfl (fun K hK => ?_)
          go_simp
          refine hK.out _ _ (s3.alloc s3.size _) (fun _ => ?_)
          clear hK K
          refine world_gen (fun W => Blk W v3.heap.size 34 #[.bool x2.neg, .slice x2.a x2.n x2.c, .slice x2.b x2.m x2.d, .bool y2.neg, .slice y2.a y2.n y2.c, .slice y2.b y2.m y2.d] ∧ Blk W g6 36 #[.bool false, .slice none 0 0, .slice none 0 0, .bool false, .slice none 0 0, .slice none 0 0] ∧ Below w0.heap.size w0 W) ⟨by ((repeat (first | (with_reducible assumption) | ((with_reducible apply Blk.farAt); (focus omega)) | (with_reducible apply Blk.setb) | ((with_reducible apply Blk.newAt); (focus (simp; done))) | (with_reducible apply Blk.alloc) | (with_reducible apply Blk.drew))); all_goals (show @Eq (Array Value) _ _; rfl)), by ((repeat (first | (with_reducible assumption) | ((with_reducible apply Blk.farAt); (focus omega)) | (with_reducible apply Blk.setb) | ((with_reducible apply Blk.newAt); (focus (simp; done))) | (with_reducible apply Blk.alloc) | (with_reducible apply Blk.drew))); all_goals (show @Eq (Array Value) _ _; rfl)), s3.alloc s3.size _⟩ ?_
          clear h6
          rintro v4 ⟨hB, h6, s4⟩
          obtain ⟨gB, egB⟩ : ∃ q, v3.heap.size = q := ⟨_, rfl⟩
          rw [egB] at hB ⊢
          clear egB
          refine wpMT_l rfl rfl (fun K hK => ?_)
          go_simp
          refine (leastR_q x2 y2 b d k gB 2 v4 (R2.out _ (below_then hw0 s4)) (R4.out _ (below_then hw0 s4)) hk (hB.cell 0) (hB.cell 1) (hB.cell 2) (hB.cell 3) (hB.cell 4) (hB.cell 5)).mono ?_
          rintro r v5 ⟨⟨z2, rfl, HZ2⟩, hb5⟩
          dsimp only
          have s5 := below_then s4 hb5
          refine hK.out _ _ s5 (fun _ => ?_)
          clear hK K
          replace h6 := h6.below' hb5
          iterate 1 (refine wpMT_q rfl rfl (fun K hK => ?_); apply Exists.intro; refine ⟨fun w' hw' => ?_, ?_⟩; (focus (go_simp; try rfl)); go_simp; refine hK _ _ ?_; clear hK K)
          have y0 := h6.cell 0; have f0 := h6.frozen 0; have y1 := h6.cell 1; have f1 := h6.frozen 1; have y2 := h6.cell 2; have f2 := h6.frozen 2; have y3 := h6.cell 3; have f3 := h6.frozen 3; have y4 := h6.cell 4; have f4 := h6.frozen 4; have y5 := h6.cell 5; have f5 := h6.frozen 5
          refine wpMT_t rfl rfl (fun K hK => ?_)
          go_simp
          refine hK.out _ _ ?_
          clear hK K
          refine wpMT_nil ?_
          go_wp2
          go_meet
          case rel => exact ⟨_, z1, z2, rfl, by ((repeat (first | (with_reducible assumption) | ((with_reducible apply Blk.farAt); (focus omega)) | (with_reducible apply Blk.setb) | ((with_reducible apply Blk.newAt); (focus (simp; done))) | (with_reducible apply Blk.alloc) | (with_reducible apply Blk.drew))); all_goals (show @Eq (Array Value) _ _; rfl)), HZ1, HZ2, by (go_grown <;> exact lt6)⟩
        · skip
          refine wpMT_l rfl rfl (fun K hK => ?_)
          go_simp
          refine hK.out _ _ (s2.alloc s2.size _) (fun _ => ?_)
          clear hK K
          refine world_gen (fun W => Blk W v2.heap.size 34 #[.bool x2.neg, .slice x2.a x2.n x2.c, .slice x2.b x2.m x2.d, .bool y2.neg, .slice y2.a y2.n y2.c, .slice y2.b y2.m y2.d] ∧ Blk W gA 34 #[.bool x1.neg, .slice x1.a x1.n x1.c, .slice x1.b x1.m x1.d, .bool y1.neg, .slice y1.a y1.n y1.c, .slice y1.b y1.m y1.d] ∧ Blk W g6 36 #[.bool false, .slice none 0 0, .slice none 0 0, .bool false, .slice none 0 0, .slice none 0 0] ∧ Below w0.heap.size w0 W) ⟨by ((repeat (first | (with_reducible assumption) | ((with_reducible apply Blk.farAt); (focus omega)) | (with_reducible apply Blk.setb) | ((with_reducible apply Blk.newAt); (focus (simp; done))) | (with_reducible apply Blk.alloc) | (with_reducible apply Blk.drew))); all_goals (show @Eq (Array Value) _ _; rfl)), by ((repeat (first | (with_reducible assumption) | ((with_reducible apply Blk.farAt); (focus omega)) | (with_reducible apply Blk.setb) | ((with_reducible apply Blk.newAt); (focus (simp; done))) | (with_reducible apply Blk.alloc) | (with_reducible apply Blk.drew))); all_goals (show @Eq (Array Value) _ _; rfl)), by ((repeat (first | (with_reducible assumption) | ((with_reducible apply Blk.farAt); (focus omega)) | (with_reducible apply Blk.setb) | ((with_reducible apply Blk.newAt); (focus (simp; done))) | (with_reducible apply Blk.alloc) | (with_reducible apply Blk.drew))); all_goals (show @Eq (Array Value) _ _; rfl)), s2.alloc s2.size _⟩ ?_
          clear hA h6
          rintro v3 ⟨hB, hA, h6, s3⟩
          obtain ⟨gB, egB⟩ : ∃ q, v2.heap.size = q := ⟨_, rfl⟩
          rw [egB] at hB ⊢
          clear egB
          refine wpMT_l rfl rfl (fun K hK => ?_)
          go_simp
          refine (greatR_q x1 y1 a c k gA 2 v3 (R1.out _ (below_then hw0 s3)) (R3.out _ (below_then hw0 s3)) hk (hA.cell 0) (hA.cell 1) (hA.cell 2) (hA.cell 3) (hA.cell 4) (hA.cell 5)).mono ?_
          rintro r v4 ⟨⟨z1, rfl, HZ1⟩, hb4⟩
          dsimp only
          have s4 := below_then s3 hb4
          refine hK.out _ _ s4 (fun _ => ?_)
          clear hK K
          replace hB := hB.below' hb4
          replace h6 := h6.below' hb4
          refine wpMT_l rfl rfl (fun K hK => ?_)
          go_simp
          refine (leastR_q x2 y2 b d k gB 2 v4 (R2.out _ (below_then hw0 s4)) (R4.out _ (below_then hw0 s4)) hk (hB.cell 0) (hB.cell 1) (hB.cell 2) (hB.cell 3) (hB.cell 4) (hB.cell 5)).mono ?_
          rintro r v5 ⟨⟨z2, rfl, HZ2⟩, hb5⟩
          dsimp only
          have s5 := below_then s4 hb5
          refine hK.out _ _ s5 (fun _ => ?_)
          clear hK K
          replace h6 := h6.below' hb5
          iterate 1 (refine wpMT_q rfl rfl (fun K hK => ?_); apply Exists.intro; refine ⟨fun w' hw' => ?_, ?_⟩; (focus (go_simp; try rfl)); go_simp; refine hK _ _ ?_; clear hK K)
          have y0 := h6.cell 0; have f0 := h6.frozen 0; have y1 := h6.cell 1; have f1 := h6.frozen 1; have y2 := h6.cell 2; have f2 := h6.frozen 2; have y3 := h6.cell 3; have f3 := h6.frozen 3; have y4 := h6.cell 4; have f4 := h6.frozen 4; have y5 := h6.cell 5; have f5 := h6.frozen 5
          refine wpMT_t rfl rfl (fun K hK => ?_)
          go_simp
          refine hK.out _ _ ?_
          clear hK K
          refine wpMT_nil ?_
          go_wp2
          go_meet
          case rel => exact ⟨_, z1, z2, rfl, by ((repeat (first | (with_reducible assumption) | ((with_reducible apply Blk.farAt); (focus omega)) | (with_reducible apply Blk.setb) | ((with_reducible apply Blk.newAt); (focus (simp; done))) | (with_reducible apply Blk.alloc) | (with_reducible apply Blk.drew))); all_goals (show @Eq (Array Value) _ _; rfl)), HZ1, HZ2, by (go_grown <;> exact lt6)⟩
      · skip
        refine wpMT_l rfl rfl (fun K hK => ?_)
        go_simp
        refine hK.out _ _ (s1.alloc s1.size _) (fun _ => ?_)
        clear hK K
        refine world_gen (fun W => Blk W v1.heap.size 34 #[.bool x2.neg, .slice x2.a x2.n x2.c, .slice x2.b x2.m x2.d, .bool y2.neg, .slice y2.a y2.n y2.c, .slice y2.b y2.m y2.d] ∧ Blk W g6 36 #[.bool false, .slice none 0 0, .slice none 0 0, .bool false, .slice none 0 0, .slice none 0 0] ∧ Below w0.heap.size w0 W) ⟨by ((repeat (first | (with_reducible assumption) | ((with_reducible apply Blk.farAt); (focus omega)) | (with_reducible apply Blk.setb) | ((with_reducible apply Blk.newAt); (focus (simp; done))) | (with_reducible apply Blk.alloc) | (with_reducible apply Blk.drew))); all_goals (show @Eq (Array Value) _ _; rfl)), by ((repeat (first | (with_reducible assumption) | ((with_reducible apply Blk.farAt); (focus omega)) | (with_reducible apply Blk.setb) | ((with_reducible apply Blk.newAt); (focus (simp; done))) | (with_reducible apply Blk.alloc) | (with_reducible apply Blk.drew))); all_goals (show @Eq (Array Value) _ _; rfl)), s1.alloc s1.size _⟩ ?_
        clear h6
        rintro v2 ⟨hB, h6, s2⟩
        obtain ⟨gB, egB⟩ : ∃ q, v1.heap.size = q := ⟨_, rfl⟩
        rw [egB] at hB ⊢
        clear egB
        refine wpMT_l rfl rfl (fun K hK => ?_)
        go_simp
        refine hK.out _ _ (s2.alloc s2.size _) (fun _ => ?_)
        clear hK K
        refine world_gen (fun W => Blk W v2.heap.size 34 #[.bool x1.neg, .slice x1.a x1.n x1.c, .slice x1.b x1.m x1.d, .bool y1.neg, .slice y1.a y1.n y1.c, .slice y1.b y1.m y1.d] ∧ Blk W gB 34 #[.bool x2.neg, .slice x2.a x2.n x2.c, .slice x2.b x2.m x2.d, .bool y2.neg, .slice y2.a y2.n y2.c, .slice y2.b y2.m y2.d] ∧ Blk W g6 36 #[.bool false, .slice none 0 0, .slice none 0 0, .bool false, .slice none 0 0, .slice none 0 0] ∧ Below w0.heap.size w0 W) ⟨by ((repeat (first | (with_reducible assumption) | ((with_reducible apply Blk.farAt); (focus omega)) | (with_reducible apply Blk.setb) | ((with_reducible apply Blk.newAt); (focus (simp; done))) | (with_reducible apply Blk.alloc) | (with_reducible apply Blk.drew))); all_goals (show @Eq (Array Value) _ _; rfl)), by ((repeat (first | (with_reducible assumption) | ((with_reducible apply Blk.farAt); (focus omega)) | (with_reducible apply Blk.setb) | ((with_reducible apply Blk.newAt); (focus (simp; done))) | (with_reducible apply Blk.alloc) | (with_reducible apply Blk.drew))); all_goals (show @Eq (Array Value) _ _; rfl)), by ((repeat (first | (with_reducible assumption) | ((with_reducible apply Blk.farAt); (focus omega)) | (with_reducible apply Blk.setb) | ((with_reducible apply Blk.newAt); (focus (simp; done))) | (with_reducible apply Blk.alloc) | (with_reducible apply Blk.drew))); all_goals (show @Eq (Array Value) _ _; rfl)), s2.alloc s2.size _⟩ ?_
        clear hB h6
        rintro v3 ⟨hA, hB, h6, s3⟩
        obtain ⟨gA, egA⟩ : ∃ q, v2.heap.size = q := ⟨_, rfl⟩
        rw [egA] at hA ⊢
        clear egA
        refine wpMT_l rfl rfl (fun K hK => ?_)
        go_simp
        refine (greatR_q x1 y1 a c k gA 2 v3 (R1.out _ (below_then hw0 s3)) (R3.out _ (below_then hw0 s3)) hk (hA.cell 0) (hA.cell 1) (hA.cell 2) (hA.cell 3) (hA.cell 4) (hA.cell 5)).mono ?_
        rintro r v4 ⟨⟨z1, rfl, HZ1⟩, hb4⟩
        dsimp only
        have s4 := below_then s3 hb4
        refine hK.out _ _ s4 (fun _ => ?_)
        clear hK K
        replace hB := hB.below' hb4
        replace h6 := h6.below' hb4
        refine wpMT_l rfl rfl (fun K hK => ?_)
        go_simp
        refine (leastR_q x2 y2 b d k gB 2 v4 (R2.out _ (below_then hw0 s4)) (R4.out _ (below_then hw0 s4)) hk (hB.cell 0) (hB.cell 1) (hB.cell 2) (hB.cell 3) (hB.cell 4) (hB.cell 5)).mono ?_
        rintro r v5 ⟨⟨z2, rfl, HZ2⟩, hb5⟩
        dsimp only
        have s5 := below_then s4 hb5
        refine hK.out _ _ s5 (fun _ => ?_)
        clear hK K
        replace h6 := h6.below' hb5
        iterate 1 (refine wpMT_q rfl rfl (fun K hK => ?_); apply Exists.intro; refine ⟨fun w' hw' => ?_, ?_⟩; (focus (go_simp; try rfl)); go_simp; refine hK _ _ ?_; clear hK K)
        have y0 := h6.cell 0; have f0 := h6.frozen 0; have y1 := h6.cell 1; have f1 := h6.frozen 1; have y2 := h6.cell 2; have f2 := h6.frozen 2; have y3 := h6.cell 3; have f3 := h6.frozen 3; have y4 := h6.cell 4; have f4 := h6.frozen 4; have y5 := h6.cell 5; have f5 := h6.frozen 5
        refine wpMT_t rfl rfl (fun K hK => ?_)
        go_simp
        refine hK.out _ _ ?_
        clear hK K
        refine wpMT_nil ?_
        go_wp2
        go_meet
        case rel => exact ⟨_, z1, z2, rfl, by ((repeat (first | (with_reducible assumption) | ((with_reducible apply Blk.farAt); (focus omega)) | (with_reducible apply Blk.setb) | ((with_reducible apply Blk.newAt); (focus (simp; done))) | (with_reducible apply Blk.alloc) | (with_reducible apply Blk.drew))); all_goals (show @Eq (Array Value) _ _; rfl)), HZ1, HZ2, by (go_grown <;> exact lt6)⟩
  case rest =>
    obtain ⟨g6, z1, z2, rfl, h6, HZ1, HZ2, s1⟩ := hcut
    skip
    have hw1 := below_then hw0 s1
    replace hz := hz.below' s1
    have C1 := fun W (hW : Below w.heap.size w W) => cmpR_q z1 z2 (qmax a c) (qmin b d) k k W (HZ1.out k W (R1.out _ hW) (R3.out _ hW)) (HZ2.out k W (R2.out _ hW) (R4.out _ hW)) hk hk
    have e1 := cmpQ_gt (p := qmax a c) (q := qmin b d)
    revert C1 e1
    generalize cmpQ (qmax a c) (qmin b d) = u
    intro C1 e1
    replace C1 := Lib.hid C1; replace e1 := Lib.hid e1
    clear k0 k1 k2 k3 k4 k5 j0 j1 j2 j3 j4 j5 s0 R1 R2 R3 R4 HZ1 HZ2 hv0 v0 hx hy
    have y0 := h6.cell 0; have y1 := h6.cell 1; have y2 := h6.cell 2; have y3 := h6.cell 3; have y4 := h6.cell 4; have y5 := h6.cell 5
    go_wp2_with fail
    refine (C1.out _ hw1).mono ?_
    rintro e w2 ⟨rfl, hb2⟩
    replace h6 := h6.below' hb2
    replace hz := hz.below' hb2
    have hw2 := below_then hw1 hb2
    clear y0 y1 y2 y3 y4 y5
    have y0 := h6.cell 0; have y1 := h6.cell 1; have y2 := h6.cell 2; have y3 := h6.cell 3; have y4 := h6.cell 4; have y5 := h6.cell 5
    have z0 := hz.cell 0; have q1 := hz.cell 1; have q2 := hz.cell 2; have q3 := hz.cell 3; have q4 := hz.cell 4; have q5 := hz.cell 5
    have f0 := hz.frozen 0; have f1 := hz.frozen 1; have f2 := hz.frozen 2; have f3 := hz.frozen 3; have f4 := hz.frozen 4; have f5 := hz.frozen 5
    by_cases h0 : 0 < u
    · have hr : R = false := by rw [← hR.out, decide_eq_false_iff_not]; exact Rat.not_le.2 (e1.out.1 h0)
      subst hr
      go_wp2
      refine world_gen (fun W => Blk W g3 36 #[.bool false, .slice none 0 0, .slice none 0 0, .bool false, .slice none 0 0, .slice none 0 0] ∧ Below w.heap.size w W) ⟨by ((repeat (first | (with_reducible assumption) | ((with_reducible apply Blk.farAt); (focus omega)) | (with_reducible apply Blk.setb) | ((with_reducible apply Blk.newAt); (focus (simp; done))) | (with_reducible apply Blk.alloc) | (with_reducible apply Blk.drew))); all_goals (show @Eq (Array Value) _ _; rfl)), by go_grown⟩ ?_
      rintro w3 ⟨hF, hw3⟩
      have e0 := hF.cell 0; have e1' := hF.cell 1; have e2 := hF.cell 2; have e3 := hF.cell 3; have e4 := hF.cell 4; have e5 := hF.cell 5
      refine bodyPost_ret (v := .tuple #[.agg #[.bool false, .slice none 0 0, .slice none 0 0, .bool false, .slice none 0 0, .slice none 0 0], .bool false]) (by simp [results, Try.results17, go_sem, e0, e1', e2, e3, e4, e5]) rfl ?_
      exact ⟨⟨⟨false, 0, none, 0, 0, none, 0⟩, ⟨false, 0, none, 0, 0, none, 0⟩, rfl⟩, hw3⟩
    · have hr : R = true := by rw [← hR.out, decide_eq_true_eq]; exact Rat.not_lt.1 (fun h => by have := e1.out.2 h; omega)
      subst hr
      go_wp2
      refine world_gen (fun W => Blk W g3 36 #[.bool z1.neg, .slice z1.a z1.n z1.c, .slice z1.b z1.m z1.d, .bool z2.neg, .slice z2.a z2.n z2.c, .slice z2.b z2.m z2.d] ∧ Below w.heap.size w W) ⟨by ((repeat (first | (with_reducible assumption) | ((with_reducible apply Blk.farAt); (focus omega)) | (with_reducible apply Blk.setb) | ((with_reducible apply Blk.newAt); (focus (simp; done))) | (with_reducible apply Blk.alloc) | (with_reducible apply Blk.drew))); all_goals (show @Eq (Array Value) _ _; rfl)), by go_grown⟩ ?_
      rintro w3 ⟨hF, hw3⟩
      have e0 := hF.cell 0; have e1' := hF.cell 1; have e2 := hF.cell 2; have e3 := hF.cell 3; have e4 := hF.cell 4; have e5 := hF.cell 5
      refine bodyPost_ret (v := .tuple #[.agg #[.bool z1.neg, .slice z1.a z1.n z1.c, .slice z1.b z1.m z1.d, .bool z2.neg, .slice z2.a z2.n z2.c, .slice z2.b z2.m z2.d], .bool true]) (by simp [results, Try.results17, go_sem, e0, e1', e2, e3, e4, e5]) rfl ?_
      exact ⟨⟨z1, z2, rfl⟩, hw3⟩
end Go.Proofs.Ytckfemfbpnieaaa
