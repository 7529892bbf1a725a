/- Walks: squares of intervals by the reference. (Printed by sqr.py.) -/
import Derived.Test.YtaihkpjbnkgmlaaGreatRf29
import Derived.Test.YtaihkpjbnkgmlaaGreatRf25

/- Walks: squares of intervals by the reference. (Printed by sqr.py.) -/
namespace Go.Proofs.YtaihkpjbnkgmlaaGreat
open Go.RowKit

set_option maxRecDepth 100000 in
set_option maxHeartbeats 4000000 in
theorem isqR_i (x1 x2 : QA) (X : Iq) (k : Nat) (w : World) (H1 : QK k w x1 X.1) (H2 : QK k w x2 X.2) (hk : k ≤ 10000) :
  Calls Tryz.prog 169 #[.agg #[.bool x1.neg, .slice x1.a x1.n x1.c, .slice x1.b x1.m x1.d, .bool x2.neg, .slice x2.a x2.n x2.c, .slice x2.b x2.m x2.d]] w (RetI2 (k + k + 1) (sqI X).1 (sqI X).2 w) := by
 have R1 := Lib.hid (fun W (hW : Below w.heap.size w W) => H1.ext (Ext.below hW))
 have R2 := Lib.hid (fun W (hW : Below w.heap.size w W) => H2.ext (Ext.below hW))
 clear H1 H2
 go_enter Tryz.func169, Tryz.ntmps169
 go_wp2
 refine world_gen (fun W => Blk W w.heap.size 73 #[.bool x1.neg, .slice x1.a x1.n x1.c, .slice x1.b x1.m x1.d, .bool x2.neg, .slice x2.a x2.n x2.c, .slice x2.b x2.m x2.d] ∧ Blk W (w.heap.size + 1) 73 #[.bool false, .slice none 0 0, .slice none 0 0, .bool false, .slice none 0 0, .slice none 0 0] ∧ Below w.heap.size w W ∧ w.heap.size < w.heap.size + 1 ∧ w.heap.size + 1 < W.heap.size) ⟨(Blk.new w _ _).alloc _, blk_at1 w _ _ _, by go_grown, by omega, by simp⟩ ?_
 rintro w0 ⟨h0, h1, hw0, hg, hgw⟩
 revert h0 h1 hg hgw
 generalize w.heap.size + 1 = g1
 intro h0 h1 hg hgw
 have k0_0 := held (h0.cell 0)
 have k0_1 := held (h0.cell 1)
 have k0_2 := held (h0.cell 2)
 have k0_3 := held (h0.cell 3)
 have k0_4 := held (h0.cell 4)
 have k0_5 := held (h0.cell 5)
 have s0 : Below w0.heap.size w0 w0.drew := (Below.refl _ _).drew
 refine wp_mono (Q := fun x a W => x = .normal ∧ (∃ (za1 za2 z1 z2 : QA) (gC B1 T1 B2 T2 : Nat) (u4 u5 u6 u7 u8 u9 u10 u11 u12 u13 u14 u15 : Value), a = ⟨#[.agg #[.bool x1.neg, .slice x1.a x1.n x1.c, .slice x1.b x1.m x1.d, .bool x2.neg, .slice x2.a x2.n x2.c, .slice x2.b x2.m x2.d], .pointer (some ⟨w.heap.size, 0, none⟩), .pointer (some ⟨g1, 0, none⟩), .pointer (some ⟨gC, 0, none⟩), u4, u5, u6, u7, u8, u9, u10, u11, u12, u13, u14, u15, undef, undef, undef, undef, undef, undef], []⟩ ∧ Below w0.heap.size w0 W ∧ Blk W gC 73 #[.bool z1.neg, .slice z1.a z1.n z1.c, .slice z1.b z1.m z1.d, .bool z2.neg, .slice z2.a z2.n z2.c, .slice z2.b z2.m z2.d] ∧ Kp (fun V => QK (k + k) V za1 (X.1 * X.1)) B1 T1 W ∧ Kp (fun V => QK (k + k) V za2 (X.2 * X.2)) B2 T2 W ∧ (∀ k W, AllQ k W [za1, za2] [X.1 * X.1, X.2 * X.2] → QK k W z1 (leastQ (X.1 * X.1) [X.2 * X.2])) ∧ (∀ k W, AllQ k W [za1, za2] [X.1 * X.1, X.2 * X.2] → QK k W z2 (greatQ (X.1 * X.1) [X.2 * X.2])) ∧ (w0.heap.size ≤ B1 ∧ w0.heap.size ≤ B2 ∧ w0.heap.size ≤ gC ∧ T1 ≤ W.heap.size ∧ T2 ≤ W.heap.size ∧ (gC < B1 ∨ T1 ≤ gC) ∧ (gC < B2 ∨ T2 ≤ gC)))) ?_ ?_
 ·
  skip
  obtain ⟨v0, hv0⟩ : ∃ v, w0.drew = v := ⟨_, rfl⟩
  have n0 : w0.heap.size ≤ w0.drew.heap.size := Nat.le_refl _
  refine wp_region_tree (S := Below w0.heap.size w0) (.q 0 (.q 1 (.q 2 (.q 3 (.q 5 (.q 6 (.q 7 (.q 8 (.two 4 (.two 9 (.two 10 (.two 11 (.l 12 (.t 13 .nil)) 12 (.l 11 (.t 13 .nil))) 12 (.l 10 (.l 11 (.t 13 .nil)))) 12 (.l 9 (.l 10 (.l 11 (.t 13 .nil))))) 12 (.l 4 (.l 9 (.l 10 (.l 11 (.t 13 .nil)))))))))))))) [13] (by kernel_rfl) (by kernel_rfl) (by kernel_rfl) (fun d _ _ _ _ h => nomatch h.1) s0 ?_
  rw [hv0] at s0 n0 ⊢
  iterate 8 (refine wpMT_q rfl rfl (fun K hK => ?_); apply Exists.intro; refine ⟨fun w' hw' => ?_, ?_⟩; (focus (go_simp; try rfl)); go_simp; refine hK _ _ ?_; clear hK K)
  refine wpMT_two ?_ ?_
  ·
   skip
   refine wpMT_l rfl rfl (fun K hK => ?_)
   go_simp
   refine (mulR_q x1 x1 X.1 X.1 k k v0 (R1.out _ (below_then hw0 s0)) (R1.out _ (below_then hw0 s0)) (by omega) (by omega)).mono ?_
   rintro r v1 ⟨za1, rfl, K1, hb⟩
   dsimp only
   have s1 := below_then s0 hb
   have m1 := hb.size
   refine hK.out _ _ s1 (fun _ => ?_)
   clear hK K
   clear hb
   replace K1 := Lib.hid K1
   refine wpMT_two ?_ ?_
   ·
    skip
    refine wpMT_l rfl rfl (fun K hK => ?_)
    go_simp
    refine (mulR_q x2 x2 X.2 X.2 k k v1 (R2.out _ (below_then hw0 s1)) (R2.out _ (below_then hw0 s1)) (by omega) (by omega)).mono ?_
    rintro r v2 ⟨za2, rfl, K2, hb⟩
    dsimp only
    have s2 := below_then s1 hb
    have m2 := hb.size
    refine hK.out _ _ s2 (fun _ => ?_)
    clear hK K
    replace K1 := Lib.hid (K1.out.call hb)
    clear hb
    replace K2 := Lib.hid K2
    refine wpMT_two ?_ ?_
    ·
     skip
     refine wpMT_l rfl rfl (fun K hK => ?_)
     go_simp
     refine hK.out _ _ (s2.alloc s2.size _) (fun _ => ?_)
     clear hK K
     refine world_gen (fun W => Blk W v2.heap.size 43 #[.bool za1.neg, .slice za1.a za1.n za1.c, .slice za1.b za1.m za1.d, .bool za2.neg, .slice za2.a za2.n za2.c, .slice za2.b za2.m za2.d] ∧ Below w0.heap.size w0 W ∧ v2.heap.size < W.heap.size ∧ Kp (fun V => QK (k + k) V za1 (X.1 * X.1)) v0.heap.size v1.heap.size W ∧ Kp (fun V => QK (k + k) V za2 (X.2 * X.2)) v1.heap.size v2.heap.size W) ⟨by ((repeat first|with_reducible assumption|((with_reducible apply Blk.farAt);focus omega)|with_reducible apply Blk.setb|((with_reducible apply Blk.newAt);focus (simp;done))|with_reducible apply Blk.alloc|with_reducible apply Blk.drew);all_goals (show @Eq (Array Value) _ _;rfl)), s2.alloc s2.size _, by simp, K1.out.alloc, K2.out.alloc⟩ ?_
     rintro v3 ⟨hR, s3, m3, K1, K2⟩
     replace K1 := Lib.hid K1
     replace K2 := Lib.hid K2
     obtain ⟨gR, egR⟩ : ∃ q, v2.heap.size = q := ⟨_, rfl⟩
     rw [egR] at hR ⊢
     replace egR := Lib.hid egR
     refine wpMT_two ?_ ?_
     ·
      skip
      refine wpMT_l rfl rfl (fun K hK => ?_)
      go_simp
      refine (span_q za1 (X.1 * X.1) [za2] [X.2 * X.2] (k + k) gR 2 v3 ⟨rfl, fun i x q hx hq => ?_⟩ (RowQ.n2 hR) (Nat.le_of_ble_eq_true rfl) (by omega)).mono ?_
      ·
       match i, hx, hq with
       | 0, hx, hq => cases hx; cases hq; exact K1.out.now
       | 1, hx, hq => cases hx; cases hq; exact K2.out.now
      rintro r v4 ⟨⟨z1, z2, rfl, P1, P2⟩, hb⟩
      dsimp only
      have s4 := below_then s3 hb
      have m4 := hb.size
      refine hK.out _ _ s4 (fun _ => ?_)
      clear hK K
      replace K1 := Lib.hid (K1.out.call hb)
      replace K2 := Lib.hid (K2.out.call hb)
      clear hR
      clear hb
      replace P1 := Lib.hid P1
      replace P2 := Lib.hid P2
      refine wpMT_l rfl rfl (fun K hK => ?_)
      go_simp
      refine hK.out _ _ (s4.alloc s4.size _) (fun _ => ?_)
      clear hK K
      refine world_gen (fun W => Blk W v4.heap.size 73 #[.bool false, .slice none 0 0, .slice none 0 0, .bool false, .slice none 0 0, .slice none 0 0] ∧ Below w0.heap.size w0 W ∧ v4.heap.size < W.heap.size ∧ Kp (fun V => QK (k + k) V za1 (X.1 * X.1)) v0.heap.size v1.heap.size W ∧ Kp (fun V => QK (k + k) V za2 (X.2 * X.2)) v1.heap.size v2.heap.size W) ⟨by ((repeat first|with_reducible assumption|((with_reducible apply Blk.farAt);focus omega)|with_reducible apply Blk.setb|((with_reducible apply Blk.newAt);focus (simp;done))|with_reducible apply Blk.alloc|with_reducible apply Blk.drew);all_goals (show @Eq (Array Value) _ _;rfl)), s4.alloc s4.size _, by simp, K1.out.alloc, K2.out.alloc⟩ ?_
      rintro v5 ⟨hC, s5, m5, K1, K2⟩
      replace K1 := Lib.hid K1
      replace K2 := Lib.hid K2
      obtain ⟨gC, egC⟩ : ∃ q, v4.heap.size = q := ⟨_, rfl⟩
      rw [egC] at hC ⊢
      replace egC := Lib.hid egC
      have y0 := hC.cell 0; have f0 := hC.frozen 0
      have y1 := hC.cell 1; have f1 := hC.frozen 1
      have y2 := hC.cell 2; have f2 := hC.frozen 2
      have y3 := hC.cell 3; have f3 := hC.frozen 3
      have y4 := hC.cell 4; have f4 := hC.frozen 4
      have y5 := hC.cell 5; have f5 := hC.frozen 5
      have hgC := Lib.hid (show w0.heap.size ≤ gC by have := egC.out; have := s4.size; have := n0; have := m1; have := m2; have := m3; have := m4; have := m5;  omega)
      refine wpMT_t rfl rfl (fun K hK => ?_)
      go_simp
      refine hK.out _ _ ?_
      clear hK K
      refine wpMT_nil ?_
      have eg := egC.out
      refine ⟨rfl, za1, za2, z1, z2, gC, v0.heap.size, v1.heap.size, v1.heap.size, v2.heap.size, _, _, _, _, _, _, _, _, _, _, _, _, rfl, ?_, by ((repeat first|with_reducible assumption|((with_reducible apply Blk.farAt);focus omega)|with_reducible apply Blk.setb|((with_reducible apply Blk.newAt);focus (simp;done))|with_reducible apply Blk.alloc|with_reducible apply Blk.drew);all_goals (show @Eq (Array Value) _ _;rfl)), ?_, ?_, P1.out, P2.out, by omega, by omega, hgC.out, by simp; omega, by simp; omega, by omega, by omega⟩
      ·
       iterate 6 (with_reducible refine Below.setCell ?_ hgC.out _)
       exact s5
      ·
       iterate 6 (refine Kp.setc (by omega) ?_)
       exact K1.out
      ·
       iterate 6 (refine Kp.setc (by omega) ?_)
       exact K2.out
     ·
      skip
      refine wpMT_l rfl rfl (fun K hK => ?_)
      go_simp
      refine hK.out _ _ (s3.alloc s3.size _) (fun _ => ?_)
      clear hK K
      refine world_gen (fun W => Blk W v3.heap.size 73 #[.bool false, .slice none 0 0, .slice none 0 0, .bool false, .slice none 0 0, .slice none 0 0] ∧ Below w0.heap.size w0 W ∧ v3.heap.size < W.heap.size ∧ Kp (fun V => QK (k + k) V za1 (X.1 * X.1)) v0.heap.size v1.heap.size W ∧ Kp (fun V => QK (k + k) V za2 (X.2 * X.2)) v1.heap.size v2.heap.size W ∧ Blk W gR 43 #[.bool za1.neg, .slice za1.a za1.n za1.c, .slice za1.b za1.m za1.d, .bool za2.neg, .slice za2.a za2.n za2.c, .slice za2.b za2.m za2.d]) ⟨by ((repeat first|with_reducible assumption|((with_reducible apply Blk.farAt);focus omega)|with_reducible apply Blk.setb|((with_reducible apply Blk.newAt);focus (simp;done))|with_reducible apply Blk.alloc|with_reducible apply Blk.drew);all_goals (show @Eq (Array Value) _ _;rfl)), s3.alloc s3.size _, by simp, K1.out.alloc, K2.out.alloc, by ((repeat first|with_reducible assumption|((with_reducible apply Blk.farAt);focus omega)|with_reducible apply Blk.setb|((with_reducible apply Blk.newAt);focus (simp;done))|with_reducible apply Blk.alloc|with_reducible apply Blk.drew);all_goals (show @Eq (Array Value) _ _;rfl))⟩ ?_
      rintro v4 ⟨hC, s4, m4, K1, K2, hR⟩
      replace K1 := Lib.hid K1
      replace K2 := Lib.hid K2
      obtain ⟨gC, egC⟩ : ∃ q, v3.heap.size = q := ⟨_, rfl⟩
      rw [egC] at hC ⊢
      replace egC := Lib.hid egC
      refine wpMT_l rfl rfl (fun K hK => ?_)
      go_simp
      refine (span_q za1 (X.1 * X.1) [za2] [X.2 * X.2] (k + k) gR 2 v4 ⟨rfl, fun i x q hx hq => ?_⟩ (RowQ.n2 hR) (Nat.le_of_ble_eq_true rfl) (by omega)).mono ?_
      ·
       match i, hx, hq with
       | 0, hx, hq => cases hx; cases hq; exact K1.out.now
       | 1, hx, hq => cases hx; cases hq; exact K2.out.now
      rintro r v5 ⟨⟨z1, z2, rfl, P1, P2⟩, hb⟩
      dsimp only
      have s5 := below_then s4 hb
      have m5 := hb.size
      refine hK.out _ _ s5 (fun _ => ?_)
      clear hK K
      replace K1 := Lib.hid (K1.out.call hb)
      replace K2 := Lib.hid (K2.out.call hb)
      replace hC := hC.below' hb
      clear hR
      clear hb
      replace P1 := Lib.hid P1
      replace P2 := Lib.hid P2
      have y0 := hC.cell 0; have f0 := hC.frozen 0
      have y1 := hC.cell 1; have f1 := hC.frozen 1
      have y2 := hC.cell 2; have f2 := hC.frozen 2
      have y3 := hC.cell 3; have f3 := hC.frozen 3
      have y4 := hC.cell 4; have f4 := hC.frozen 4
      have y5 := hC.cell 5; have f5 := hC.frozen 5
      have hgC := Lib.hid (show w0.heap.size ≤ gC by have := egC.out; have := s3.size; have := n0; have := m1; have := m2; have := m3; have := m4; have := m5;  omega)
      refine wpMT_t rfl rfl (fun K hK => ?_)
      go_simp
      refine hK.out _ _ ?_
      clear hK K
      refine wpMT_nil ?_
      have eg := egC.out
      refine ⟨rfl, za1, za2, z1, z2, gC, v0.heap.size, v1.heap.size, v1.heap.size, v2.heap.size, _, _, _, _, _, _, _, _, _, _, _, _, rfl, ?_, by ((repeat first|with_reducible assumption|((with_reducible apply Blk.farAt);focus omega)|with_reducible apply Blk.setb|((with_reducible apply Blk.newAt);focus (simp;done))|with_reducible apply Blk.alloc|with_reducible apply Blk.drew);all_goals (show @Eq (Array Value) _ _;rfl)), ?_, ?_, P1.out, P2.out, by omega, by omega, hgC.out, by simp; omega, by simp; omega, by omega, by omega⟩
      ·
       iterate 6 (with_reducible refine Below.setCell ?_ hgC.out _)
       exact s5
      ·
       iterate 6 (refine Kp.setc (by omega) ?_)
       exact K1.out
      ·
       iterate 6 (refine Kp.setc (by omega) ?_)
       exact K2.out
    ·
     skip
     refine wpMT_l rfl rfl (fun K hK => ?_)
     go_simp
     refine hK.out _ _ (s2.alloc s2.size _) (fun _ => ?_)
     clear hK K
     refine world_gen (fun W => Blk W v2.heap.size 73 #[.bool false, .slice none 0 0, .slice none 0 0, .bool false, .slice none 0 0, .slice none 0 0] ∧ Below w0.heap.size w0 W ∧ v2.heap.size < W.heap.size ∧ Kp (fun V => QK (k + k) V za1 (X.1 * X.1)) v0.heap.size v1.heap.size W ∧ Kp (fun V => QK (k + k) V za2 (X.2 * X.2)) v1.heap.size v2.heap.size W) ⟨by ((repeat first|with_reducible assumption|((with_reducible apply Blk.farAt);focus omega)|with_reducible apply Blk.setb|((with_reducible apply Blk.newAt);focus (simp;done))|with_reducible apply Blk.alloc|with_reducible apply Blk.drew);all_goals (show @Eq (Array Value) _ _;rfl)), s2.alloc s2.size _, by simp, K1.out.alloc, K2.out.alloc⟩ ?_
     rintro v3 ⟨hC, s3, m3, K1, K2⟩
     replace K1 := Lib.hid K1
     replace K2 := Lib.hid K2
     obtain ⟨gC, egC⟩ : ∃ q, v2.heap.size = q := ⟨_, rfl⟩
     rw [egC] at hC ⊢
     replace egC := Lib.hid egC
     refine wpMT_l rfl rfl (fun K hK => ?_)
     go_simp
     refine hK.out _ _ (s3.alloc s3.size _) (fun _ => ?_)
     clear hK K
     refine world_gen (fun W => Blk W v3.heap.size 43 #[.bool za1.neg, .slice za1.a za1.n za1.c, .slice za1.b za1.m za1.d, .bool za2.neg, .slice za2.a za2.n za2.c, .slice za2.b za2.m za2.d] ∧ Below w0.heap.size w0 W ∧ v3.heap.size < W.heap.size ∧ Kp (fun V => QK (k + k) V za1 (X.1 * X.1)) v0.heap.size v1.heap.size W ∧ Kp (fun V => QK (k + k) V za2 (X.2 * X.2)) v1.heap.size v2.heap.size W ∧ Blk W gC 73 #[.bool false, .slice none 0 0, .slice none 0 0, .bool false, .slice none 0 0, .slice none 0 0]) ⟨by ((repeat first|with_reducible assumption|((with_reducible apply Blk.farAt);focus omega)|with_reducible apply Blk.setb|((with_reducible apply Blk.newAt);focus (simp;done))|with_reducible apply Blk.alloc|with_reducible apply Blk.drew);all_goals (show @Eq (Array Value) _ _;rfl)), s3.alloc s3.size _, by simp, K1.out.alloc, K2.out.alloc, by ((repeat first|with_reducible assumption|((with_reducible apply Blk.farAt);focus omega)|with_reducible apply Blk.setb|((with_reducible apply Blk.newAt);focus (simp;done))|with_reducible apply Blk.alloc|with_reducible apply Blk.drew);all_goals (show @Eq (Array Value) _ _;rfl))⟩ ?_
     rintro v4 ⟨hR, s4, m4, K1, K2, hC⟩
     replace K1 := Lib.hid K1
     replace K2 := Lib.hid K2
     obtain ⟨gR, egR⟩ : ∃ q, v3.heap.size = q := ⟨_, rfl⟩
     rw [egR] at hR ⊢
     replace egR := Lib.hid egR
     refine wpMT_l rfl rfl (fun K hK => ?_)
     go_simp
     refine (span_q za1 (X.1 * X.1) [za2] [X.2 * X.2] (k + k) gR 2 v4 ⟨rfl, fun i x q hx hq => ?_⟩ (RowQ.n2 hR) (Nat.le_of_ble_eq_true rfl) (by omega)).mono ?_
     ·
      match i, hx, hq with
      | 0, hx, hq => cases hx; cases hq; exact K1.out.now
      | 1, hx, hq => cases hx; cases hq; exact K2.out.now
     rintro r v5 ⟨⟨z1, z2, rfl, P1, P2⟩, hb⟩
     dsimp only
     have s5 := below_then s4 hb
     have m5 := hb.size
     refine hK.out _ _ s5 (fun _ => ?_)
     clear hK K
     replace K1 := Lib.hid (K1.out.call hb)
     replace K2 := Lib.hid (K2.out.call hb)
     replace hC := hC.below' hb
     clear hR
     clear hb
     replace P1 := Lib.hid P1
     replace P2 := Lib.hid P2
     have y0 := hC.cell 0; have f0 := hC.frozen 0
     have y1 := hC.cell 1; have f1 := hC.frozen 1
     have y2 := hC.cell 2; have f2 := hC.frozen 2
     have y3 := hC.cell 3; have f3 := hC.frozen 3
     have y4 := hC.cell 4; have f4 := hC.frozen 4
     have y5 := hC.cell 5; have f5 := hC.frozen 5
     have hgC := Lib.hid (show w0.heap.size ≤ gC by have := egC.out; have := s2.size; have := n0; have := m1; have := m2; have := m3; have := m4; have := m5;  omega)
     refine wpMT_t rfl rfl (fun K hK => ?_)
     go_simp
     refine hK.out _ _ ?_
     clear hK K
     refine wpMT_nil ?_
     have eg := egC.out
     refine ⟨rfl, za1, za2, z1, z2, gC, v0.heap.size, v1.heap.size, v1.heap.size, v2.heap.size, _, _, _, _, _, _, _, _, _, _, _, _, rfl, ?_, by ((repeat first|with_reducible assumption|((with_reducible apply Blk.farAt);focus omega)|with_reducible apply Blk.setb|((with_reducible apply Blk.newAt);focus (simp;done))|with_reducible apply Blk.alloc|with_reducible apply Blk.drew);all_goals (show @Eq (Array Value) _ _;rfl)), ?_, ?_, P1.out, P2.out, by omega, by omega, hgC.out, by simp; omega, by simp; omega, by omega, by omega⟩
     ·
      iterate 6 (with_reducible refine Below.setCell ?_ hgC.out _)
      exact s5
     ·
      iterate 6 (refine Kp.setc (by omega) ?_)
      exact K1.out
     ·
      iterate 6 (refine Kp.setc (by omega) ?_)
      exact K2.out
   ·
    skip
    refine wpMT_l rfl rfl (fun K hK => ?_)
    go_simp
    refine hK.out _ _ (s1.alloc s1.size _) (fun _ => ?_)
    clear hK K
    refine world_gen (fun W => Blk W v1.heap.size 73 #[.bool false, .slice none 0 0, .slice none 0 0, .bool false, .slice none 0 0, .slice none 0 0] ∧ Below w0.heap.size w0 W ∧ v1.heap.size < W.heap.size ∧ Kp (fun V => QK (k + k) V za1 (X.1 * X.1)) v0.heap.size v1.heap.size W) ⟨by ((repeat first|with_reducible assumption|((with_reducible apply Blk.farAt);focus omega)|with_reducible apply Blk.setb|((with_reducible apply Blk.newAt);focus (simp;done))|with_reducible apply Blk.alloc|with_reducible apply Blk.drew);all_goals (show @Eq (Array Value) _ _;rfl)), s1.alloc s1.size _, by simp, K1.out.alloc⟩ ?_
    rintro v2 ⟨hC, s2, m2, K1⟩
    replace K1 := Lib.hid K1
    obtain ⟨gC, egC⟩ : ∃ q, v1.heap.size = q := ⟨_, rfl⟩
    rw [egC] at hC ⊢
    replace egC := Lib.hid egC
    refine wpMT_l rfl rfl (fun K hK => ?_)
    go_simp
    refine (mulR_q x2 x2 X.2 X.2 k k v2 (R2.out _ (below_then hw0 s2)) (R2.out _ (below_then hw0 s2)) (by omega) (by omega)).mono ?_
    rintro r v3 ⟨za2, rfl, K2, hb⟩
    dsimp only
    have s3 := below_then s2 hb
    have m3 := hb.size
    refine hK.out _ _ s3 (fun _ => ?_)
    clear hK K
    replace K1 := Lib.hid (K1.out.call hb)
    replace hC := hC.below' hb
    clear hb
    replace K2 := Lib.hid K2
    refine wpMT_l rfl rfl (fun K hK => ?_)
    go_simp
    refine hK.out _ _ (s3.alloc s3.size _) (fun _ => ?_)
    clear hK K
    refine world_gen (fun W => Blk W v3.heap.size 43 #[.bool za1.neg, .slice za1.a za1.n za1.c, .slice za1.b za1.m za1.d, .bool za2.neg, .slice za2.a za2.n za2.c, .slice za2.b za2.m za2.d] ∧ Below w0.heap.size w0 W ∧ v3.heap.size < W.heap.size ∧ Kp (fun V => QK (k + k) V za1 (X.1 * X.1)) v0.heap.size v1.heap.size W ∧ Kp (fun V => QK (k + k) V za2 (X.2 * X.2)) v2.heap.size v3.heap.size W ∧ Blk W gC 73 #[.bool false, .slice none 0 0, .slice none 0 0, .bool false, .slice none 0 0, .slice none 0 0]) ⟨by ((repeat first|with_reducible assumption|((with_reducible apply Blk.farAt);focus omega)|with_reducible apply Blk.setb|((with_reducible apply Blk.newAt);focus (simp;done))|with_reducible apply Blk.alloc|with_reducible apply Blk.drew);all_goals (show @Eq (Array Value) _ _;rfl)), s3.alloc s3.size _, by simp, K1.out.alloc, K2.out.alloc, by ((repeat first|with_reducible assumption|((with_reducible apply Blk.farAt);focus omega)|with_reducible apply Blk.setb|((with_reducible apply Blk.newAt);focus (simp;done))|with_reducible apply Blk.alloc|with_reducible apply Blk.drew);all_goals (show @Eq (Array Value) _ _;rfl))⟩ ?_
    rintro v4 ⟨hR, s4, m4, K1, K2, hC⟩
    replace K1 := Lib.hid K1
    replace K2 := Lib.hid K2
    obtain ⟨gR, egR⟩ : ∃ q, v3.heap.size = q := ⟨_, rfl⟩
    rw [egR] at hR ⊢
    replace egR := Lib.hid egR
    refine wpMT_l rfl rfl (fun K hK => ?_)
    go_simp
    refine (span_q za1 (X.1 * X.1) [za2] [X.2 * X.2] (k + k) gR 2 v4 ⟨rfl, fun i x q hx hq => ?_⟩ (RowQ.n2 hR) (Nat.le_of_ble_eq_true rfl) (by omega)).mono ?_
    ·
     match i, hx, hq with
     | 0, hx, hq => cases hx; cases hq; exact K1.out.now
     | 1, hx, hq => cases hx; cases hq; exact K2.out.now
    rintro r v5 ⟨⟨z1, z2, rfl, P1, P2⟩, hb⟩
    dsimp only
    have s5 := below_then s4 hb
    have m5 := hb.size
    refine hK.out _ _ s5 (fun _ => ?_)
    clear hK K
    replace K1 := Lib.hid (K1.out.call hb)
    replace K2 := Lib.hid (K2.out.call hb)
    replace hC := hC.below' hb
    clear hR
    clear hb
    replace P1 := Lib.hid P1
    replace P2 := Lib.hid P2
    have y0 := hC.cell 0; have f0 := hC.frozen 0
    have y1 := hC.cell 1; have f1 := hC.frozen 1
    have y2 := hC.cell 2; have f2 := hC.frozen 2
    have y3 := hC.cell 3; have f3 := hC.frozen 3
    have y4 := hC.cell 4; have f4 := hC.frozen 4
    have y5 := hC.cell 5; have f5 := hC.frozen 5
    have hgC := Lib.hid (show w0.heap.size ≤ gC by have := egC.out; have := s1.size; have := n0; have := m1; have := m2; have := m3; have := m4; have := m5;  omega)
    refine wpMT_t rfl rfl (fun K hK => ?_)
    go_simp
    refine hK.out _ _ ?_
    clear hK K
    refine wpMT_nil ?_
    have eg := egC.out
    refine ⟨rfl, za1, za2, z1, z2, gC, v0.heap.size, v1.heap.size, v2.heap.size, v3.heap.size, _, _, _, _, _, _, _, _, _, _, _, _, rfl, ?_, by ((repeat first|with_reducible assumption|((with_reducible apply Blk.farAt);focus omega)|with_reducible apply Blk.setb|((with_reducible apply Blk.newAt);focus (simp;done))|with_reducible apply Blk.alloc|with_reducible apply Blk.drew);all_goals (show @Eq (Array Value) _ _;rfl)), ?_, ?_, P1.out, P2.out, by omega, by omega, hgC.out, by simp; omega, by simp; omega, by omega, by omega⟩
    ·
     iterate 6 (with_reducible refine Below.setCell ?_ hgC.out _)
     exact s5
    ·
     iterate 6 (refine Kp.setc (by omega) ?_)
     exact K1.out
    ·
     iterate 6 (refine Kp.setc (by omega) ?_)
     exact K2.out
  ·
   skip
   refine wpMT_l rfl rfl (fun K hK => ?_)
   go_simp
   refine hK.out _ _ (s0.alloc s0.size _) (fun _ => ?_)
   clear hK K
   refine world_gen (fun W => Blk W v0.heap.size 73 #[.bool false, .slice none 0 0, .slice none 0 0, .bool false, .slice none 0 0, .slice none 0 0] ∧ Below w0.heap.size w0 W ∧ v0.heap.size < W.heap.size) ⟨by ((repeat first|with_reducible assumption|((with_reducible apply Blk.farAt);focus omega)|with_reducible apply Blk.setb|((with_reducible apply Blk.newAt);focus (simp;done))|with_reducible apply Blk.alloc|with_reducible apply Blk.drew);all_goals (show @Eq (Array Value) _ _;rfl)), s0.alloc s0.size _, by simp⟩ ?_
   rintro v1 ⟨hC, s1, m1⟩
   obtain ⟨gC, egC⟩ : ∃ q, v0.heap.size = q := ⟨_, rfl⟩
   rw [egC] at hC ⊢
   replace egC := Lib.hid egC
   refine wpMT_l rfl rfl (fun K hK => ?_)
   go_simp
   refine (mulR_q x1 x1 X.1 X.1 k k v1 (R1.out _ (below_then hw0 s1)) (R1.out _ (below_then hw0 s1)) (by omega) (by omega)).mono ?_
   rintro r v2 ⟨za1, rfl, K1, hb⟩
   dsimp only
   have s2 := below_then s1 hb
   have m2 := hb.size
   refine hK.out _ _ s2 (fun _ => ?_)
   clear hK K
   replace hC := hC.below' hb
   clear hb
   replace K1 := Lib.hid K1
   refine wpMT_l rfl rfl (fun K hK => ?_)
   go_simp
   refine (mulR_q x2 x2 X.2 X.2 k k v2 (R2.out _ (below_then hw0 s2)) (R2.out _ (below_then hw0 s2)) (by omega) (by omega)).mono ?_
   rintro r v3 ⟨za2, rfl, K2, hb⟩
   dsimp only
   have s3 := below_then s2 hb
   have m3 := hb.size
   refine hK.out _ _ s3 (fun _ => ?_)
   clear hK K
   replace K1 := Lib.hid (K1.out.call hb)
   replace hC := hC.below' hb
   clear hb
   replace K2 := Lib.hid K2
   refine wpMT_l rfl rfl (fun K hK => ?_)
   go_simp
   refine hK.out _ _ (s3.alloc s3.size _) (fun _ => ?_)
   clear hK K
   refine world_gen (fun W => Blk W v3.heap.size 43 #[.bool za1.neg, .slice za1.a za1.n za1.c, .slice za1.b za1.m za1.d, .bool za2.neg, .slice za2.a za2.n za2.c, .slice za2.b za2.m za2.d] ∧ Below w0.heap.size w0 W ∧ v3.heap.size < W.heap.size ∧ Kp (fun V => QK (k + k) V za1 (X.1 * X.1)) v1.heap.size v2.heap.size W ∧ Kp (fun V => QK (k + k) V za2 (X.2 * X.2)) v2.heap.size v3.heap.size W ∧ Blk W gC 73 #[.bool false, .slice none 0 0, .slice none 0 0, .bool false, .slice none 0 0, .slice none 0 0]) ⟨by ((repeat first|with_reducible assumption|((with_reducible apply Blk.farAt);focus omega)|with_reducible apply Blk.setb|((with_reducible apply Blk.newAt);focus (simp;done))|with_reducible apply Blk.alloc|with_reducible apply Blk.drew);all_goals (show @Eq (Array Value) _ _;rfl)), s3.alloc s3.size _, by simp, K1.out.alloc, K2.out.alloc, by ((repeat first|with_reducible assumption|((with_reducible apply Blk.farAt);focus omega)|with_reducible apply Blk.setb|((with_reducible apply Blk.newAt);focus (simp;done))|with_reducible apply Blk.alloc|with_reducible apply Blk.drew);all_goals (show @Eq (Array Value) _ _;rfl))⟩ ?_
   rintro v4 ⟨hR, s4, m4, K1, K2, hC⟩
   replace K1 := Lib.hid K1
   replace K2 := Lib.hid K2
   obtain ⟨gR, egR⟩ : ∃ q, v3.heap.size = q := ⟨_, rfl⟩
   rw [egR] at hR ⊢
   replace egR := Lib.hid egR
   refine wpMT_l rfl rfl (fun K hK => ?_)
   go_simp
   refine (span_q za1 (X.1 * X.1) [za2] [X.2 * X.2] (k + k) gR 2 v4 ⟨rfl, fun i x q hx hq => ?_⟩ (RowQ.n2 hR) (Nat.le_of_ble_eq_true rfl) (by omega)).mono ?_
   ·
    match i, hx, hq with
    | 0, hx, hq => cases hx; cases hq; exact K1.out.now
    | 1, hx, hq => cases hx; cases hq; exact K2.out.now
   rintro r v5 ⟨⟨z1, z2, rfl, P1, P2⟩, hb⟩
   dsimp only
   have s5 := below_then s4 hb
   have m5 := hb.size
   refine hK.out _ _ s5 (fun _ => ?_)
   clear hK K
   replace K1 := Lib.hid (K1.out.call hb)
   replace K2 := Lib.hid (K2.out.call hb)
   replace hC := hC.below' hb
   clear hR
   clear hb
   replace P1 := Lib.hid P1
   replace P2 := Lib.hid P2
   have y0 := hC.cell 0; have f0 := hC.frozen 0
   have y1 := hC.cell 1; have f1 := hC.frozen 1
   have y2 := hC.cell 2; have f2 := hC.frozen 2
   have y3 := hC.cell 3; have f3 := hC.frozen 3
   have y4 := hC.cell 4; have f4 := hC.frozen 4
   have y5 := hC.cell 5; have f5 := hC.frozen 5
   have hgC := Lib.hid (show w0.heap.size ≤ gC by have := egC.out; have := s0.size; have := n0; have := m1; have := m2; have := m3; have := m4; have := m5;  omega)
   refine wpMT_t rfl rfl (fun K hK => ?_)
   go_simp
   refine hK.out _ _ ?_
   clear hK K
   refine wpMT_nil ?_
   have eg := egC.out
   refine ⟨rfl, za1, za2, z1, z2, gC, v1.heap.size, v2.heap.size, v2.heap.size, v3.heap.size, _, _, _, _, _, _, _, _, _, _, _, _, rfl, ?_, by ((repeat first|with_reducible assumption|((with_reducible apply Blk.farAt);focus omega)|with_reducible apply Blk.setb|((with_reducible apply Blk.newAt);focus (simp;done))|with_reducible apply Blk.alloc|with_reducible apply Blk.drew);all_goals (show @Eq (Array Value) _ _;rfl)), ?_, ?_, P1.out, P2.out, by omega, by omega, hgC.out, by simp; omega, by simp; omega, by omega, by omega⟩
   ·
    iterate 6 (with_reducible refine Below.setCell ?_ hgC.out _)
    exact s5
   ·
    iterate 6 (refine Kp.setc (by omega) ?_)
    exact K1.out
   ·
    iterate 6 (refine Kp.setc (by omega) ?_)
    exact K2.out
 rintro x a wz ⟨rfl, za1, za2, z1, z2, gC, B1, T1, B2, T2, u4, u5, u6, u7, u8, u9, u10, u11, u12, u13, u14, u15, rfl, sz, hC, K1, K2, P1, P2, b1, b2, b3, b4, b5, b6, b7⟩
 replace K1 := Lib.hid K1; replace K2 := Lib.hid K2; replace P1 := Lib.hid P1; replace P2 := Lib.hid P2; replace b6 := Lib.hid b6; replace b7 := Lib.hid b7; replace b4 := Lib.hid b4; replace b5 := Lib.hid b5
 have hz : Blk wz g1 73 #[.bool false, .slice none 0 0, .slice none 0 0, .bool false, .slice none 0 0, .slice none 0 0] := h1.below' sz
 have hx : Blk wz w.heap.size 73 #[.bool x1.neg, .slice x1.a x1.n x1.c, .slice x1.b x1.m x1.d, .bool x2.neg, .slice x2.a x2.n x2.c, .slice x2.b x2.m x2.d] := h0.below' sz
 have hwz := below_then hw0 sz
 have hwg : w.heap.size ≤ w0.heap.size := hw0.size
 have lwz : w0.heap.size ≤ wz.heap.size := sz.size
 have hgC : gC < wz.heap.size := hC.lt
 clear k0_0 k0_1 k0_2 k0_3 k0_4 k0_5 s0 h0 h1 hw0
 have k0_0 := held (hx.cell 0)
 have k0_1 := held (hx.cell 1)
 have k0_2 := held (hx.cell 2)
 have k0_3 := held (hx.cell 3)
 have k0_4 := held (hx.cell 4)
 have k0_5 := held (hx.cell 5)
 clear hx
 go_wp2
 have s0 : Below wz.heap.size wz wz.drew := (Below.refl _ _).drew
 refine wp_region_mix (S := Below wz.heap.size wz) [(0, .q), (1, .l), (2, .t)] (by kernel_rfl) (by kernel_rfl) (by kernel_rfl) (fun d _ _ _ _ h => by cases d <;> exact h) (s0) ?_
 iterate 1 (refine wpMix_q rfl rfl (fun K hK => ?_); apply Exists.intro; refine ⟨fun w' hw' => ?_, ?_⟩; (focus (go_simp; try rfl)); go_simp; refine hK _ _ ?_; clear hK K)
 refine wpMix_l rfl rfl (fun K hK => ?_)
 go_simp
 refine (zeroR_q _).mono ?_
 rintro r w1 ⟨zr, rfl, J1, hb1⟩
 dsimp only
 refine hK.out _ _ (below_then s0 hb1) (fun _ => ?_)
 clear hK K
 have s1 := below_then s0 hb1
 refine wpMix_t rfl rfl (fun K hK => ?_)
 go_simp
 refine (ihasR_q x1 x2 zr X.1 X.2 0 k 1 _ (R1.out _ (below_then hwz s1)) (R2.out _ (below_then hwz s1)) J1.now (by omega) (by omega)).mono ?_
 rintro r w2 ⟨rfl, hb2⟩
 dsimp only
 refine hK.out _ _ ?_
 clear hK K
 have s2 := below_then s1 hb2
 clear J1 hb1 hb2 k0_0 k0_1 k0_2 k0_3 k0_4 k0_5
 refine wpMix_nil ?_
 replace hz := hz.below' s2; replace hC := hC.below' s2; replace K1 := Lib.hid (K1.out.call s2); replace K2 := Lib.hid (K2.out.call s2)
 replace hwz := below_then hwz s2
 have lz := s2.size
 clear s0 s1 s2 sz R1 R2
 have hne : gC ≠ g1 := by omega
 by_cases h0 : X.1 ≤ 0 ∧ 0 ≤ X.2
 ·
  have es : sqI X = (0, greatQ (X.1 * X.1) [X.2 * X.2]) := by unfold sqI; rw [if_pos h0]
  rw [decide_eq_true h0]
  replace es := Lib.hid es
  clear h0
  go_wp2_with fail
  refine (zeroR_q _).mono ?_
  rintro r w3 ⟨zs, rfl, KZ, hb3⟩
  replace hz := hz.below' hb3; replace hC := hC.below' hb3; replace K1 := Lib.hid (K1.out.call hb3); replace K2 := Lib.hid (K2.out.call hb3); replace KZ := Lib.hid KZ
  replace hwz := below_then hwz hb3
  have lz3 := hb3.size
  clear hb3
  have y0 := hC.cell 0; have f0 := hC.frozen 0; have y1 := hC.cell 1; have f1 := hC.frozen 1; have y2 := hC.cell 2; have f2 := hC.frozen 2
  have hC0 := hC
  have c0 := hC.cell 0
  have c1 := hC.cell 1
  have c2 := hC.cell 2
  have c3 := hC.cell 3
  have c4 := hC.cell 4
  have c5 := hC.cell 5
  have y0 := hz.cell 0; have f0 := hz.frozen 0
  have y1 := hz.cell 1; have f1 := hz.frozen 1
  have y2 := hz.cell 2; have f2 := hz.frozen 2
  have y3 := hz.cell 3; have f3 := hz.frozen 3
  have y4 := hz.cell 4; have f4 := hz.frozen 4
  have y5 := hz.cell 5; have f5 := hz.frozen 5
  go_wp2
  refine world_gen (fun W => Blk W g1 73 #[.bool zs.neg, .slice zs.a zs.n zs.c, .slice zs.b zs.m zs.d, .bool z2.neg, .slice z2.a z2.n z2.c, .slice z2.b z2.m z2.d] ∧ Below w.heap.size w W ∧ Kp (fun V => QK (k + k) V za1 (X.1 * X.1)) B1 T1 W ∧ Kp (fun V => QK (k + k) V za2 (X.2 * X.2)) B2 T2 W ∧ Kp (fun V => QK 1 V zs 0) w2.heap.size W.heap.size W) ⟨by ((repeat first|with_reducible assumption|((with_reducible apply Blk.farAt);focus omega)|with_reducible apply Blk.setb|((with_reducible apply Blk.newAt);focus (simp;done))|with_reducible apply Blk.alloc|with_reducible apply Blk.drew);all_goals (show @Eq (Array Value) _ _;rfl)), by go_grown, ?_, ?_, ?_⟩ ?_
  ·
   iterate 6 (refine Kp.setc (.inl (by omega)) ?_)
   iterate 3 (refine Kp.setc b6.out ?_)
   exact K1.out
  ·
   iterate 6 (refine Kp.setc (.inl (by omega)) ?_)
   iterate 3 (refine Kp.setc b7.out ?_)
   exact K2.out
  ·
   refine Kp.wide (B := w2.heap.size) (T := w3.heap.size) ?_ (Nat.le_refl _) (by first | (simp; done) | (simp; omega))
   iterate 9 (refine Kp.setc (.inl (by omega)) ?_)
   exact KZ.out
  rintro wF ⟨hF, hwF, L1, L2, LZ⟩
  have e0 := hF.cell 0; have e1 := hF.cell 1; have e2 := hF.cell 2; have e3 := hF.cell 3; have e4 := hF.cell 4; have e5 := hF.cell 5
  refine bodyPost_ret (v := .agg #[.bool zs.neg, .slice zs.a zs.n zs.c, .slice zs.b zs.m zs.d, .bool z2.neg, .slice z2.a z2.n z2.c, .slice z2.b z2.m z2.d]) (by simp [results, Tryz.results169, go_sem, e0, e1, e2, e3, e4, e5]) rfl ?_
  rw [es.out]
  have key : ∀ V, New w.heap.size wF V → AllQ (k + k) V [za1, za2] [X.1 * X.1, X.2 * X.2] := fun V hV => ⟨rfl, fun i x q hx hq => by
   match i, hx, hq with
   | 0, hx, hq => cases hx; cases hq; exact L1.fin (Nat.le_trans hwg b1) V hV
   | 1, hx, hq => cases hx; cases hq; exact L2.fin (Nat.le_trans hwg b2) V hV⟩
  exact ⟨zs, z2, rfl, Kp.made ((LZ.imp (fun V h => (QK.more h (by omega) : QK (k + k + 1) V zs _))).fin (show w.heap.size ≤ w2.heap.size by omega)), Kp.made (fun V hV => QK.more (P2.out _ _ (key V hV)) (by omega)), hwF⟩
 ·
  have es : sqI X = (leastQ (X.1 * X.1) [X.2 * X.2], greatQ (X.1 * X.1) [X.2 * X.2]) := by unfold sqI; rw [if_neg h0]
  rw [decide_eq_false h0]
  replace es := Lib.hid es
  clear h0
  have c0 := hC.cell 0
  have c1 := hC.cell 1
  have c2 := hC.cell 2
  have c3 := hC.cell 3
  have c4 := hC.cell 4
  have c5 := hC.cell 5
  have y0 := hz.cell 0; have f0 := hz.frozen 0
  have y1 := hz.cell 1; have f1 := hz.frozen 1
  have y2 := hz.cell 2; have f2 := hz.frozen 2
  have y3 := hz.cell 3; have f3 := hz.frozen 3
  have y4 := hz.cell 4; have f4 := hz.frozen 4
  have y5 := hz.cell 5; have f5 := hz.frozen 5
  go_wp2
  refine world_gen (fun W => Blk W g1 73 #[.bool z1.neg, .slice z1.a z1.n z1.c, .slice z1.b z1.m z1.d, .bool z2.neg, .slice z2.a z2.n z2.c, .slice z2.b z2.m z2.d] ∧ Below w.heap.size w W ∧ Kp (fun V => QK (k + k) V za1 (X.1 * X.1)) B1 T1 W ∧ Kp (fun V => QK (k + k) V za2 (X.2 * X.2)) B2 T2 W) ⟨by ((repeat first|with_reducible assumption|((with_reducible apply Blk.farAt);focus omega)|with_reducible apply Blk.setb|((with_reducible apply Blk.newAt);focus (simp;done))|with_reducible apply Blk.alloc|with_reducible apply Blk.drew);all_goals (show @Eq (Array Value) _ _;rfl)), by go_grown, ?_, ?_⟩ ?_
  ·
   iterate 6 (refine Kp.setc (.inl (by omega)) ?_)
   exact K1.out
  ·
   iterate 6 (refine Kp.setc (.inl (by omega)) ?_)
   exact K2.out
  rintro wF ⟨hF, hwF, L1, L2⟩
  have e0 := hF.cell 0; have e1 := hF.cell 1; have e2 := hF.cell 2; have e3 := hF.cell 3; have e4 := hF.cell 4; have e5 := hF.cell 5
  refine bodyPost_ret (v := .agg #[.bool z1.neg, .slice z1.a z1.n z1.c, .slice z1.b z1.m z1.d, .bool z2.neg, .slice z2.a z2.n z2.c, .slice z2.b z2.m z2.d]) (by simp [results, Tryz.results169, go_sem, e0, e1, e2, e3, e4, e5]) rfl ?_
  rw [es.out]
  have key : ∀ V, New w.heap.size wF V → AllQ (k + k) V [za1, za2] [X.1 * X.1, X.2 * X.2] := fun V hV => ⟨rfl, fun i x q hx hq => by
   match i, hx, hq with
   | 0, hx, hq => cases hx; cases hq; exact L1.fin (Nat.le_trans hwg b1) V hV
   | 1, hx, hq => cases hx; cases hq; exact L2.fin (Nat.le_trans hwg b2) V hV⟩
  exact ⟨z1, z2, rfl, Kp.made (fun V hV => QK.more (P1.out _ _ (key V hV)) (by omega)), Kp.made (fun V hV => QK.more (P2.out _ _ (key V hV)) (by omega)), hwF⟩
end Go.Proofs.YtaihkpjbnkgmlaaGreat
