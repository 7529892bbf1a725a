/- Walks: whether points are in boxes, by the program and by the reference. -/
import Derived.Test.YtckfemfbpnieaaaDt22

/- Walks: whether points are in boxes, by the program and by the reference. -/
namespace Go.Proofs.Ytckfemfbpnieaaa
open Go.RowKit

def inB (x : Bx) (y : Pt) : Bool := decide (x.a.q ≤ y.x.q ∧ y.x.q ≤ x.b.q) && decide (x.c.q ≤ y.y.q ∧ y.y.q ≤ x.d.q)
def hasZ : List Bx → List Pt → Bool
  | x :: l, y :: p => inB x y && hasZ l p
  | _, _ => true
def hasB (l : List Bx) (p : List Pt) : Bool := decide (l.length = p.length) && hasZ l p
theorem hasZ_split {l : List Bx} {p : List Pt} {k : Nat} {x : Bx} {y : Pt} (hx : l[k]? = some x) (hy : p[k]? = some y) : hasZ (l.drop k) (p.drop k) = (inB x y && hasZ (l.drop (k + 1)) (p.drop (k + 1))) := by
  have h1 := lt_of_get hx
  have h2 := lt_of_get hy
  rw [List.drop_eq_getElem_cons h1, List.drop_eq_getElem_cons h2]
  have e1 : l[k] = x := by rw [List.getElem?_eq_getElem h1] at hx; exact Option.some.inj hx
  have e2 : p[k] = y := by rw [List.getElem?_eq_getElem h2] at hy; exact Option.some.inj hy
  rw [e1, e2]
  rfl
theorem short_of {l : List Bx} (h : l.all Bx.short = true) {k : Nat} {x : Bx} (hx : l[k]? = some x) : x.a.short = true ∧ x.b.short = true ∧ x.c.short = true ∧ x.d.short = true := by
  rw [List.all_eq_true] at h
  have := h x (List.mem_of_getElem? hx)
  unfold Bx.short at this
  simp only [Bool.and_eq_true] at this
  exact ⟨this.1.1.1, this.1.1.2, this.1.2, this.2⟩
theorem shortP_of {l : List Pt} (h : l.all Pt.short = true) {k : Nat} {x : Pt} (hx : l[k]? = some x) : x.x.short = true ∧ x.y.short = true := by
  rw [List.all_eq_true] at h
  have := h x (List.mem_of_getElem? hx)
  unfold Pt.short at this
  simp only [Bool.and_eq_true] at this
  exact this
set_option maxRecDepth 100000 in
set_option maxHeartbeats 4000000 in
theorem hasP_any (l : List Bx) (p : List Pt) (a a' : Option Addr) (c c' : Nat) (w : World) (h : BoxesR w a c l) (h' : PtsR w a' c' p) (hs : l.all Bx.short = true) (ht : p.all Pt.short = true) :
    Calls Try.prog 6 #[.slice a l.length c, .slice a' p.length c'] w fun e w' => e = .returned (.bool (hasB l p)) ∧ Below w.heap.size w w' := by
  have HL := Lib.hid h
  have HP := Lib.hid h'
  have hlen := SlR.len h
  have hlen2 := SlR.len h'
  have HS := Lib.hid hs
  have HT := Lib.hid ht
  obtain ⟨R, hR⟩ : ∃ R, hasB l p = R := ⟨_, rfl⟩
  rw [hR]
  unfold hasB at hR
  by_cases hll : l.length = p.length
  · rw [decide_eq_true hll, Bool.true_and] at hR
    replace hR := Lib.hid hR
    have hne : ((l.length : Int) != (p.length : Int)) = false := by simp; omega
    have HLL := Lib.hid hll
    clear h h' hs ht hll
    go_enter Try.func6, Try.ntmps6
    go_wp2
    clear hne
    obtain ⟨wo, rfl⟩ : ∃ wo : World, wo = w := ⟨_, rfl⟩
    go_loopg [5, 6, 14] l.length (fun g _ _ s14 wr => ∃ k : Nat, k + g = l.length ∧ s14 = .int .i64 k ∧ Below wo.heap.size wo wr ∧ Hid (R = hasZ (l.drop k) (p.drop k)))
    case atStart => exact ⟨0, by omega, rfl, Below.refl _ _, hR.out.symm⟩
    case round =>
      obtain ⟨k, hkg, rfl, hwr, hv⟩ := hrel
      have HKG := Lib.hid hkg
      clear hkg
      by_cases hlt : k < l.length
      · obtain ⟨x, hx⟩ := get_of_lt hlt
        obtain ⟨y, hy⟩ := get_of_lt (xs := p) (k := k) (by have := HLL.out; omega)
        have hv2 := hv.out
        rw [hasZ_split hx hy] at hv2
        obtain ⟨s1, s2, s3, s4⟩ := short_of HS.out hx
        obtain ⟨t1, t2⟩ := shortP_of HT.out hy
        obtain ⟨bb, off, rfl, z1, z2, z3, z4, q1, q2, q3, q4, r1, r2, r3, r4⟩ := (HL.out.ext (Ext.below hwr)).2.2 k x hx
        obtain ⟨bp, offp, rfl, v1, v2, u1, u2, m1, m2⟩ := (HP.out.ext (Ext.below hwr)).2.2 k y hy
        obtain ⟨q1, q1', q1''⟩ := q1
        obtain ⟨q2, q2', q2''⟩ := q2
        obtain ⟨q3, q3', q3''⟩ := q3
        obtain ⟨q4, q4', q4''⟩ := q4
        obtain ⟨u1, u1', u1''⟩ := u1
        obtain ⟨u2, u2', u2''⟩ := u2
        have hkI : (k : Int) < l.length := by omega
        have hkP : (k : Int) < p.length := by have := HLL.out; omega
        have hkP2 : k < p.length := by omega
        have C1 := fun W (hW : Below wr.heap.size wr W) => ihas_q z1 z2 v1 x.a.q x.b.q y.x.q 2 2 W ((r1.ext (Ext.below hW)).sk s1) ((r2.ext (Ext.below hW)).sk s2) ((m1.ext (Ext.below hW)).sk t1) (by omega) (by omega)
        have C2 := fun W (hW : Below wr.heap.size wr W) => ihas_q z3 z4 v2 x.c.q x.d.q y.y.q 2 2 W ((r3.ext (Ext.below hW)).sk s3) ((r4.ext (Ext.below hW)).sk s4) ((m2.ext (Ext.below hW)).sk t2) (by omega) (by omega)
        unfold inB at hv2
        revert C1 C2 hv2
        generalize decide (x.a.q ≤ y.x.q ∧ y.x.q ≤ x.b.q) = b1
        generalize decide (x.c.q ≤ y.y.q ∧ y.y.q ≤ x.d.q) = b2
        intro hv2 C1 C2
        have HV2 := Lib.hid hv2
        replace C1 := Lib.hid C1; replace C2 := Lib.hid C2
        have P0 := Lib.hid (held u1); have P1 := Lib.hid (held u1'); have P2 := Lib.hid (held u1''); have P3 := Lib.hid (held u2); have P4 := Lib.hid (held u2'); have P5 := Lib.hid (held u2'')
        have hbp : bp < wr.heap.size := by have := World.block_lt_of_cell? wr _ u1; simpa using this
        clear hx hy s1 s2 s3 s4 t1 t2 r1 r2 r3 r4 m1 m2 hv2 u1 u1' u1'' u2 u2' u2''
        go_wp2
        refine world_gen (fun W => Blk W wr.heap.size 38 #[.bool z1.neg, .slice z1.a z1.n z1.c, .slice z1.b z1.m z1.d, .bool z2.neg, .slice z2.a z2.n z2.c, .slice z2.b z2.m z2.d, .bool z3.neg, .slice z3.a z3.n z3.c, .slice z3.b z3.m z3.d, .bool z4.neg, .slice z4.a z4.n z4.c, .slice z4.b z4.m z4.d] ∧ Below wr.heap.size wr W) ⟨by ((repeat (first | (with_reducible assumption) | ((with_reducible apply Blk.farAt); (focus omega)) | (with_reducible apply Blk.setb) | ((with_reducible apply Blk.newAt); (focus (simp; done))) | (with_reducible apply Blk.alloc) | (with_reducible apply Blk.drew))); all_goals (show @Eq (Array Value) _ _; rfl)), by go_grown⟩ ?_
        clear q1 q1' q1'' q2 q2' q2'' q3 q3' q3'' q4 q4' q4''
        rintro w1 ⟨hb, hw1⟩
        have hw0 := hwr
        have P0' := held (P0.out _ hw1); have P1' := held (P1.out _ hw1); have P2' := held (P2.out _ hw1); have P3' := held (P3.out _ hw1); have P4' := held (P4.out _ hw1); have P5' := held (P5.out _ hw1)
        have y0 := held (hb.cell 0); have y1 := held (hb.cell 1); have y2 := held (hb.cell 2); have y3 := held (hb.cell 3); have y4 := held (hb.cell 4); have y5 := held (hb.cell 5); have y6 := held (hb.cell 6); have y7 := held (hb.cell 7); have y8 := held (hb.cell 8); have y9 := held (hb.cell 9); have y10 := held (hb.cell 10); have y11 := held (hb.cell 11)
        have s0 : Below w1.heap.size w1 w1.drew := (Below.refl _ _).drew
        cases b1
        · have hr : R = false := by rw [HV2.out]; rfl
          subst hr
          refine wp_region_mix (S := Below w1.heap.size w1) [(0, .q), (1, .q), (2, .q), (3, .q), (4, .q), (5, .q), (6, .q), (7, .l), (8, .q), (9, .q), (10, .q), (11, .q), (12, .q), (13, .q), (14, .q), (15, .q), (16, .q), (17, .t), (18, .p), (19, .p)] (by kernel_rfl) (by kernel_rfl) (by kernel_rfl) (fun d _ _ _ _ h => by cases d <;> exact h) (s0) ?_
          iterate 7 (refine wpMix_q rfl rfl (fun K hK => ?_); apply Exists.intro; refine ⟨fun w' hw' => ?_, ?_⟩; (focus (go_simp; try rfl)); go_simp; refine hK _ _ ?_; clear hK K)
          refine wpMix_l rfl rfl (fun K hK => ?_)
          go_simp
          refine (C1.out _ (below_then hw1 s0)).mono ?_
          rintro r w2 ⟨rfl, hb2⟩
          dsimp only
          refine hK.out _ _ (below_then s0 hb2) (fun _ => ?_)
          clear hK K
          have t2 := below_then s0 hb2
          iterate 2 (refine wpMix_q rfl rfl (fun K hK => ?_); apply Exists.intro; refine ⟨fun w' hw' => ?_, ?_⟩; (focus (go_simp; try rfl)); go_simp; refine hK _ _ ?_; clear hK K)
          iterate 9 (refine wpMix_skip rfl rfl (fun K hK => ?_); go_simp; refine hK _ _ ?_; clear hK K)
          iterate 1 (refine wpMix_p rfl rfl (fun K hK => ?_); apply Exists.intro; refine ⟨fun w' => ?_, ?_⟩; (focus (go_simp; try rfl)); go_simp; refine hK _ _ ?_; clear hK K)
          refine wpMix_nil ?_
          go_wp2
          go_ret
          exact ⟨rfl, below_then hwr (below_then hw1 t2)⟩
        · skip
          refine wp_region_mix (S := Below w1.heap.size w1) [(0, .q), (1, .q), (2, .q), (3, .q), (4, .q), (5, .q), (6, .q), (7, .l), (8, .q), (9, .q), (10, .q), (11, .q), (12, .q), (13, .q), (14, .q), (15, .q), (16, .q), (17, .t), (18, .p), (19, .p)] (by kernel_rfl) (by kernel_rfl) (by kernel_rfl) (fun d _ _ _ _ h => by cases d <;> exact h) (s0) ?_
          iterate 7 (refine wpMix_q rfl rfl (fun K hK => ?_); apply Exists.intro; refine ⟨fun w' hw' => ?_, ?_⟩; (focus (go_simp; try rfl)); go_simp; refine hK _ _ ?_; clear hK K)
          refine wpMix_l rfl rfl (fun K hK => ?_)
          go_simp
          refine (C1.out _ (below_then hw1 s0)).mono ?_
          rintro r w2 ⟨rfl, hb2⟩
          dsimp only
          refine hK.out _ _ (below_then s0 hb2) (fun _ => ?_)
          clear hK K
          have t2 := below_then s0 hb2
          iterate 9 (refine wpMix_q rfl rfl (fun K hK => ?_); apply Exists.intro; refine ⟨fun w' hw' => ?_, ?_⟩; (focus (go_simp; try rfl)); go_simp; refine hK _ _ ?_; clear hK K)
          refine wpMix_t rfl rfl (fun K hK => ?_)
          go_simp
          refine (C2.out _ (below_then hw1 t2)).mono ?_
          rintro r w3 ⟨rfl, hb3⟩
          dsimp only
          refine hK.out _ _ ?_
          clear hK K
          have t3 := below_then hwr (below_then hw1 (below_then t2 hb3))
          iterate 2 (refine wpMix_p rfl rfl (fun K hK => ?_); apply Exists.intro; refine ⟨fun w' => ?_, ?_⟩; (focus (go_simp; try rfl)); go_simp; refine hK _ _ ?_; clear hK K)
          refine wpMix_nil ?_
          clear y0 y1 y2 y3 y4 y5 y6 y7 y8 y9 y10 y11 P0' P1' P2' P3' P4' P5'
          cases b2
          · have hr : R = false := by rw [HV2.out]; rfl
            subst hr
            go_wp2
            go_ret
            exact ⟨rfl, t3⟩
          · go_wp2
            go_roundg (gk - 1)
            case rel => exact ⟨k + 1, by have := HKG.out; omega, by go_num, t3, by show _ = _; rw [HV2.out]; rfl⟩
            case measure => have := HKG.out; omega
      · have hr : R = true := by
          rw [hv.out, List.drop_eq_nil_of_le (by omega)]
          cases p.drop k <;> rfl
        subst hr
        go_wp2
        go_ret
        exact ⟨rfl, hwr⟩
  · have hr : R = false := by rw [← hR, decide_eq_false hll]; rfl
    subst hr
    have hne : ((l.length : Int) != (p.length : Int)) = true := by simp; omega
    clear h h' hs ht hR
    go_enter Try.func6, Try.ntmps6
    go_wp2
    go_ret
    exact ⟨rfl, Below.refl _ _⟩
set_option maxRecDepth 100000 in
set_option maxHeartbeats 4000000 in
theorem hasR_any (l : List Bx) (p : List Pt) (a a' : Option Addr) (c c' : Nat) (w : World) (h : BoxesR w a c l) (h' : PtsR w a' c' p) (hs : l.all Bx.short = true) (ht : p.all Pt.short = true) :
    Calls Try.prog 7 #[.slice a l.length c, .slice a' p.length c'] w fun e w' => e = .returned (.bool (hasB l p)) ∧ Below w.heap.size w w' := by
  have HL := Lib.hid h
  have HP := Lib.hid h'
  have hlen := SlR.len h
  have hlen2 := SlR.len h'
  have HS := Lib.hid hs
  have HT := Lib.hid ht
  obtain ⟨R, hR⟩ : ∃ R, hasB l p = R := ⟨_, rfl⟩
  rw [hR]
  unfold hasB at hR
  by_cases hll : l.length = p.length
  · rw [decide_eq_true hll, Bool.true_and] at hR
    replace hR := Lib.hid hR
    have hne : ((l.length : Int) != (p.length : Int)) = false := by simp; omega
    have HLL := Lib.hid hll
    clear h h' hs ht hll
    go_enter Try.func7, Try.ntmps7
    go_wp2
    clear hne
    obtain ⟨wo, rfl⟩ : ∃ wo : World, wo = w := ⟨_, rfl⟩
    go_loopg [5, 6, 14] l.length (fun g _ _ s14 wr => ∃ k : Nat, k + g = l.length ∧ s14 = .int .i64 k ∧ Below wo.heap.size wo wr ∧ Hid (R = hasZ (l.drop k) (p.drop k)))
    case atStart => exact ⟨0, by omega, rfl, Below.refl _ _, hR.out.symm⟩
    case round =>
      obtain ⟨k, hkg, rfl, hwr, hv⟩ := hrel
      have HKG := Lib.hid hkg
      clear hkg
      by_cases hlt : k < l.length
      · obtain ⟨x, hx⟩ := get_of_lt hlt
        obtain ⟨y, hy⟩ := get_of_lt (xs := p) (k := k) (by have := HLL.out; omega)
        have hv2 := hv.out
        rw [hasZ_split hx hy] at hv2
        obtain ⟨s1, s2, s3, s4⟩ := short_of HS.out hx
        obtain ⟨t1, t2⟩ := shortP_of HT.out hy
        obtain ⟨bb, off, rfl, z1, z2, z3, z4, q1, q2, q3, q4, r1, r2, r3, r4⟩ := (HL.out.ext (Ext.below hwr)).2.2 k x hx
        obtain ⟨bp, offp, rfl, v1, v2, u1, u2, m1, m2⟩ := (HP.out.ext (Ext.below hwr)).2.2 k y hy
        obtain ⟨q1, q1', q1''⟩ := q1
        obtain ⟨q2, q2', q2''⟩ := q2
        obtain ⟨q3, q3', q3''⟩ := q3
        obtain ⟨q4, q4', q4''⟩ := q4
        obtain ⟨u1, u1', u1''⟩ := u1
        obtain ⟨u2, u2', u2''⟩ := u2
        have hkI : (k : Int) < l.length := by omega
        have hkP : (k : Int) < p.length := by have := HLL.out; omega
        have hkP2 : k < p.length := by omega
        have C1 := fun W (hW : Below wr.heap.size wr W) => ihasR_q z1 z2 v1 x.a.q x.b.q y.x.q 2 2 W ((r1.ext (Ext.below hW)).sk s1) ((r2.ext (Ext.below hW)).sk s2) ((m1.ext (Ext.below hW)).sk t1) (by omega) (by omega)
        have C2 := fun W (hW : Below wr.heap.size wr W) => ihasR_q z3 z4 v2 x.c.q x.d.q y.y.q 2 2 W ((r3.ext (Ext.below hW)).sk s3) ((r4.ext (Ext.below hW)).sk s4) ((m2.ext (Ext.below hW)).sk t2) (by omega) (by omega)
        unfold inB at hv2
        revert C1 C2 hv2
        generalize decide (x.a.q ≤ y.x.q ∧ y.x.q ≤ x.b.q) = b1
        generalize decide (x.c.q ≤ y.y.q ∧ y.y.q ≤ x.d.q) = b2
        intro hv2 C1 C2
        have HV2 := Lib.hid hv2
        replace C1 := Lib.hid C1; replace C2 := Lib.hid C2
        have P0 := Lib.hid (held u1); have P1 := Lib.hid (held u1'); have P2 := Lib.hid (held u1''); have P3 := Lib.hid (held u2); have P4 := Lib.hid (held u2'); have P5 := Lib.hid (held u2'')
        have hbp : bp < wr.heap.size := by have := World.block_lt_of_cell? wr _ u1; simpa using this
        clear hx hy s1 s2 s3 s4 t1 t2 r1 r2 r3 r4 m1 m2 hv2 u1 u1' u1'' u2 u2' u2''
        go_wp2
        refine world_gen (fun W => Blk W wr.heap.size 38 #[.bool z1.neg, .slice z1.a z1.n z1.c, .slice z1.b z1.m z1.d, .bool z2.neg, .slice z2.a z2.n z2.c, .slice z2.b z2.m z2.d, .bool z3.neg, .slice z3.a z3.n z3.c, .slice z3.b z3.m z3.d, .bool z4.neg, .slice z4.a z4.n z4.c, .slice z4.b z4.m z4.d] ∧ Below wr.heap.size wr W) ⟨by ((repeat (first | (with_reducible assumption) | ((with_reducible apply Blk.farAt); (focus omega)) | (with_reducible apply Blk.setb) | ((with_reducible apply Blk.newAt); (focus (simp; done))) | (with_reducible apply Blk.alloc) | (with_reducible apply Blk.drew))); all_goals (show @Eq (Array Value) _ _; rfl)), by go_grown⟩ ?_
        clear q1 q1' q1'' q2 q2' q2'' q3 q3' q3'' q4 q4' q4''
        rintro w1 ⟨hb, hw1⟩
        have hw0 := hwr
        have P0' := held (P0.out _ hw1); have P1' := held (P1.out _ hw1); have P2' := held (P2.out _ hw1); have P3' := held (P3.out _ hw1); have P4' := held (P4.out _ hw1); have P5' := held (P5.out _ hw1)
        have y0 := held (hb.cell 0); have y1 := held (hb.cell 1); have y2 := held (hb.cell 2); have y3 := held (hb.cell 3); have y4 := held (hb.cell 4); have y5 := held (hb.cell 5); have y6 := held (hb.cell 6); have y7 := held (hb.cell 7); have y8 := held (hb.cell 8); have y9 := held (hb.cell 9); have y10 := held (hb.cell 10); have y11 := held (hb.cell 11)
        have s0 : Below w1.heap.size w1 w1.drew := (Below.refl _ _).drew
        cases b1
        · have hr : R = false := by rw [HV2.out]; rfl
          subst hr
          refine wp_region_mix (S := Below w1.heap.size w1) [(0, .q), (1, .q), (2, .q), (3, .q), (4, .q), (5, .q), (6, .q), (7, .l), (8, .q), (9, .q), (10, .q), (11, .q), (12, .q), (13, .q), (14, .q), (15, .q), (16, .q), (17, .t), (18, .p), (19, .p)] (by kernel_rfl) (by kernel_rfl) (by kernel_rfl) (fun d _ _ _ _ h => by cases d <;> exact h) (s0) ?_
          iterate 7 (refine wpMix_q rfl rfl (fun K hK => ?_); apply Exists.intro; refine ⟨fun w' hw' => ?_, ?_⟩; (focus (go_simp; try rfl)); go_simp; refine hK _ _ ?_; clear hK K)
          refine wpMix_l rfl rfl (fun K hK => ?_)
          go_simp
          refine (C1.out _ (below_then hw1 s0)).mono ?_
          rintro r w2 ⟨rfl, hb2⟩
          dsimp only
          refine hK.out _ _ (below_then s0 hb2) (fun _ => ?_)
          clear hK K
          have t2 := below_then s0 hb2
          iterate 2 (refine wpMix_q rfl rfl (fun K hK => ?_); apply Exists.intro; refine ⟨fun w' hw' => ?_, ?_⟩; (focus (go_simp; try rfl)); go_simp; refine hK _ _ ?_; clear hK K)
          iterate 9 (refine wpMix_skip rfl rfl (fun K hK => ?_); go_simp; refine hK _ _ ?_; clear hK K)
          iterate 1 (refine wpMix_p rfl rfl (fun K hK => ?_); apply Exists.intro; refine ⟨fun w' => ?_, ?_⟩; (focus (go_simp; try rfl)); go_simp; refine hK _ _ ?_; clear hK K)
          refine wpMix_nil ?_
          go_wp2
          go_ret
          exact ⟨rfl, below_then hwr (below_then hw1 t2)⟩
        · skip
          refine wp_region_mix (S := Below w1.heap.size w1) [(0, .q), (1, .q), (2, .q), (3, .q), (4, .q), (5, .q), (6, .q), (7, .l), (8, .q), (9, .q), (10, .q), (11, .q), (12, .q), (13, .q), (14, .q), (15, .q), (16, .q), (17, .t), (18, .p), (19, .p)] (by kernel_rfl) (by kernel_rfl) (by kernel_rfl) (fun d _ _ _ _ h => by cases d <;> exact h) (s0) ?_
          iterate 7 (refine wpMix_q rfl rfl (fun K hK => ?_); apply Exists.intro; refine ⟨fun w' hw' => ?_, ?_⟩; (focus (go_simp; try rfl)); go_simp; refine hK _ _ ?_; clear hK K)
          refine wpMix_l rfl rfl (fun K hK => ?_)
          go_simp
          refine (C1.out _ (below_then hw1 s0)).mono ?_
          rintro r w2 ⟨rfl, hb2⟩
          dsimp only
          refine hK.out _ _ (below_then s0 hb2) (fun _ => ?_)
          clear hK K
          have t2 := below_then s0 hb2
          iterate 9 (refine wpMix_q rfl rfl (fun K hK => ?_); apply Exists.intro; refine ⟨fun w' hw' => ?_, ?_⟩; (focus (go_simp; try rfl)); go_simp; refine hK _ _ ?_; clear hK K)
          refine wpMix_t rfl rfl (fun K hK => ?_)
          go_simp
          refine (C2.out _ (below_then hw1 t2)).mono ?_
          rintro r w3 ⟨rfl, hb3⟩
          dsimp only
          refine hK.out _ _ ?_
          clear hK K
          have t3 := below_then hwr (below_then hw1 (below_then t2 hb3))
          iterate 2 (refine wpMix_p rfl rfl (fun K hK => ?_); apply Exists.intro; refine ⟨fun w' => ?_, ?_⟩; (focus (go_simp; try rfl)); go_simp; refine hK _ _ ?_; clear hK K)
          refine wpMix_nil ?_
          clear y0 y1 y2 y3 y4 y5 y6 y7 y8 y9 y10 y11 P0' P1' P2' P3' P4' P5'
          cases b2
          · have hr : R = false := by rw [HV2.out]; rfl
            subst hr
            go_wp2
            go_ret
            exact ⟨rfl, t3⟩
          · go_wp2
            go_roundg (gk - 1)
            case rel => exact ⟨k + 1, by have := HKG.out; omega, by go_num, t3, by show _ = _; rw [HV2.out]; rfl⟩
            case measure => have := HKG.out; omega
      · have hr : R = true := by
          rw [hv.out, List.drop_eq_nil_of_le (by omega)]
          cases p.drop k <;> rfl
        subst hr
        go_wp2
        go_ret
        exact ⟨rfl, hwr⟩
  · have hr : R = false := by rw [← hR, decide_eq_false hll]; rfl
    subst hr
    have hne : ((l.length : Int) != (p.length : Int)) = true := by simp; omega
    clear h h' hs ht hR
    go_enter Try.func7, Try.ntmps7
    go_wp2
    go_ret
    exact ⟨rfl, Below.refl _ _⟩
end Go.Proofs.Ytckfemfbpnieaaa
