/- Walks: a power of one half; whether boxes are small, by the program and by the reference. -/
import Derived.Test.YtckfemfbpnieaaaDt23
import Derived.Test.YtckfemfbpnieaaaDt24
import Derived.Test.YtckfemfbpnieaaaDt17
import Derived.Test.YtckfemfbpnieaaaDt15

/- Walks: whether boxes are apart, by the program and by the reference. -/
namespace Go.Proofs.Ytckfemfbpnieaaa
open Go.RowKit

def meetB (x y : Bx) : Bool := decide (qmax x.a.q y.a.q ≤ qmin x.b.q y.b.q) && decide (qmax x.c.q y.c.q ≤ qmin x.d.q y.d.q)
def rowB (l : List Bx) (i : Nat) : Bool := match l[i]? with
  | none => true
  | some x => (l.take i).all fun y => !meetB x y
def apartF (l : List Bx) : Nat → Bool
  | 0 => true
  | g + 1 => rowB l (l.length - (g + 1)) && apartF l g
def apartB (l : List Bx) : Bool := apartF l l.length
theorem rowB_some {l : List Bx} {i : Nat} {x : Bx} (h : l[i]? = some x) : rowB l i = (l.take i).all fun y => !meetB x y := by unfold rowB; rw [h]
set_option maxRecDepth 100000 in
set_option maxHeartbeats 8000000 in
theorem apartP_any (l : List Bx) (a : Option Addr) (c : Nat) (w : World) (h : BoxesR w a c l) (hs : l.all Bx.short = true) :
    Calls Try.prog 8 #[.slice a l.length c] w fun e w' => e = .returned (.bool (apartB l)) ∧ Below w.heap.size w w' := by
  have HL := Lib.hid h
  have hlen := SlR.len h
  have hcap := h.1
  have hcap2 := h.2.1
  unfold maxLen at hcap2
  have HS := Lib.hid hs
  obtain ⟨R, hR⟩ : ∃ R, apartB l = R := ⟨_, rfl⟩
  rw [hR]
  unfold apartB at hR
  replace hR := Lib.hid hR
  clear h hs
  go_enter Try.func8, Try.ntmps8
  go_wp2
  obtain ⟨wo, rfl⟩ : ∃ wo : World, wo = w := ⟨_, rfl⟩
  go_loopg [3, 4, 6, 7, 8, 9, 10, 13] l.length (fun g _ _ _ _ _ _ _ s13 wr => ∃ k : Nat, k + g = l.length ∧ s13 = .int .i64 k ∧ Below wo.heap.size wo wr ∧ Hid (R = apartF l g))
  case atStart => exact ⟨0, by omega, rfl, Below.refl _ _, hR.out.symm⟩
  case round =>
    obtain ⟨k, hkg, rfl, hwr, hv⟩ := hrel
    have HKG := Lib.hid hkg
    clear hkg
    by_cases hlt : k < l.length
    · obtain ⟨x, hx⟩ := get_of_lt hlt
      obtain ⟨g', hg'⟩ : ∃ g', gk = g' + 1 := ⟨gk - 1, by have := HKG.out; omega⟩
      have hv2 := hv.out
      rw [hg'] at hv2
      have hk2 : l.length - (g' + 1) = k := by have := HKG.out; omega
      rw [apartF, hk2, rowB_some hx] at hv2
      have HV2 := Lib.hid hv2
      have HG := Lib.hid hg'
      obtain ⟨s1, s2, s3, s4⟩ := short_of HS.out hx
      obtain ⟨bb, off, rfl, z1, z2, z3, z4, q1, q2, q3, q4, r1, r2, r3, r4⟩ := (HL.out.ext (Ext.below hwr)).2.2 k x hx
      obtain ⟨q1, q1', q1''⟩ := q1
      obtain ⟨q2, q2', q2''⟩ := q2
      obtain ⟨q3, q3', q3''⟩ := q3
      obtain ⟨q4, q4', q4''⟩ := q4
      have hkI : (k : Int) < l.length := by omega
      have hkc : (k : Int) ≤ c := by omega
      have hkc2 : k ≤ c := by omega
      have hlk : (l.take k).length = k := by rw [List.length_take]; omega
      have Z1 := Lib.hid (r1.sk s1); have Z2 := Lib.hid (r2.sk s2); have Z3 := Lib.hid (r3.sk s3); have Z4 := Lib.hid (r4.sk s4)
      have HLK := Lib.hid hlk
      clear hx s1 s2 s3 s4 r1 r2 r3 r4 hv hv2 hg' hk2 hlk
      go_wp2
      refine world_gen (fun W => Blk W wr.heap.size 38 #[.bool z1.neg, .slice z1.a z1.n z1.c, .slice z1.b z1.m z1.d, .bool z2.neg, .slice z2.a z2.n z2.c, .slice z2.b z2.m z2.d, .bool z3.neg, .slice z3.a z3.n z3.c, .slice z3.b z3.m z3.d, .bool z4.neg, .slice z4.a z4.n z4.c, .slice z4.b z4.m z4.d] ∧ Below wr.heap.size wr W ∧ wr.heap.size < W.heap.size) ⟨by ((repeat (first | (with_reducible assumption) | ((with_reducible apply Blk.farAt); (focus omega)) | (with_reducible apply Blk.setb) | ((with_reducible apply Blk.newAt); (focus (simp; done))) | (with_reducible apply Blk.alloc) | (with_reducible apply Blk.drew))); all_goals (show @Eq (Array Value) _ _; rfl)), by go_grown, by simp⟩ ?_
      clear q1 q1' q1'' q2 q2' q2'' q3 q3' q3'' q4 q4' q4''
      rintro w1 ⟨hb, hw1, hs1⟩
      obtain ⟨g4, hg4⟩ : ∃ g4, wr.heap.size = g4 := ⟨_, rfl⟩
      rw [hg4] at hb hs1 ⊢
      replace hg4 := Lib.hid hg4
      obtain ⟨wp, rfl⟩ : ∃ wp : World, wp = wr := ⟨_, rfl⟩
      obtain ⟨gk0, rfl⟩ : ∃ gk0 : Nat, gk0 = gk := ⟨_, rfl⟩
      go_loopg [6, 7, 8, 9, 10, 22] k (fun g _ _ _ _ _ s22 w2 => ∃ j : Nat, j + g = k ∧ s22 = .int .i64 j ∧ Blk w2 g4 38 #[.bool z1.neg, .slice z1.a z1.n z1.c, .slice z1.b z1.m z1.d, .bool z2.neg, .slice z2.a z2.n z2.c, .slice z2.b z2.m z2.d, .bool z3.neg, .slice z3.a z3.n z3.c, .slice z3.b z3.m z3.d, .bool z4.neg, .slice z4.a z4.n z4.c, .slice z4.b z4.m z4.d] ∧ Below wp.heap.size wp w2 ∧ w1.heap.size ≤ w2.heap.size ∧ Hid (R = ((((l.take k).drop j).all fun y => !meetB x y) && apartF l g')))
      case atStart => exact ⟨0, by omega, rfl, hb, hw1, Nat.le_refl _, HV2.out⟩
      case round =>
        clear hb hw1
        obtain ⟨j, hjg, rfl, hb, hw1, hs2, hv⟩ := hrel
        have HJG := Lib.hid hjg
        clear hjg
        have hwo := below_then hwr hw1
        by_cases hjt : j < k
        · obtain ⟨y, hy⟩ := get_of_lt (xs := l) (k := j) (by omega)
          have hyt : (l.take k)[j]? = some y := by rw [List.getElem?_take, if_pos hjt]; exact hy
          have hv2 := hv.out
          rw [all_split hyt] at hv2
          obtain ⟨s1, s2, s3, s4⟩ := short_of HS.out hy
          obtain ⟨bb2, off2, eb, v1, v2, v3, v4, q1, q2, q3, q4, r1, r2, r3, r4⟩ := (HL.out.ext (Ext.below hwo)).2.2 j y hy
          injection eb with eb
          injection eb with eb1 eb2
          subst eb1
          subst eb2
          obtain ⟨q1, q1', q1''⟩ := q1
          obtain ⟨q2, q2', q2''⟩ := q2
          obtain ⟨q3, q3', q3''⟩ := q3
          obtain ⟨q4, q4', q4''⟩ := q4
          have hjI : (j : Int) < k := by omega
          have M1 := fun W (hW : Below wr.heap.size wr W) => imeet_q z1 z2 v1 v2 x.a.q x.b.q y.a.q y.b.q 2 W (Z1.out.ext (Ext.below (below_then hw1 hW))) (Z2.out.ext (Ext.below (below_then hw1 hW))) ((r1.ext (Ext.below hW)).sk s1) ((r2.ext (Ext.below hW)).sk s2) (by omega)
          have M2 := fun W (hW : Below wr.heap.size wr W) => imeet_q z3 z4 v3 v4 x.c.q x.d.q y.c.q y.d.q 2 W (Z3.out.ext (Ext.below (below_then hw1 hW))) (Z4.out.ext (Ext.below (below_then hw1 hW))) ((r3.ext (Ext.below hW)).sk s3) ((r4.ext (Ext.below hW)).sk s4) (by omega)
          rw [show meetB x y = (decide (qmax x.a.q y.a.q ≤ qmin x.b.q y.b.q) && decide (qmax x.c.q y.c.q ≤ qmin x.d.q y.d.q)) from rfl] at hv2
          revert M1 M2 hv2
          generalize decide (qmax x.a.q y.a.q ≤ qmin x.b.q y.b.q) = b1
          generalize decide (qmax x.c.q y.c.q ≤ qmin x.d.q y.d.q) = b2
          intro hv2 M1 M2
          have HV3 := Lib.hid hv2
          unfold Met at M1 M2
          replace M1 := Lib.hid M1; replace M2 := Lib.hid M2
          have hlg4 := hb.lt
          have x0 := hb.cell 0; have x1 := hb.cell 1; have x2 := hb.cell 2; have x3 := hb.cell 3; have x4 := hb.cell 4; have x5 := hb.cell 5
          clear hy hyt s1 s2 s3 s4 r1 r2 r3 r4 hv hv2
          go_wp2_with fail
          refine calls_gen (fun W => Blk W g4 38 #[.bool z1.neg, .slice z1.a z1.n z1.c, .slice z1.b z1.m z1.d, .bool z2.neg, .slice z2.a z2.n z2.c, .slice z2.b z2.m z2.d, .bool z3.neg, .slice z3.a z3.n z3.c, .slice z3.b z3.m z3.d, .bool z4.neg, .slice z4.a z4.n z4.c, .slice z4.b z4.m z4.d] ∧ Blk W wr.heap.size 38 #[.bool v1.neg, .slice v1.a v1.n v1.c, .slice v1.b v1.m v1.d, .bool v2.neg, .slice v2.a v2.n v2.c, .slice v2.b v2.m v2.d, .bool v3.neg, .slice v3.a v3.n v3.c, .slice v3.b v3.m v3.d, .bool v4.neg, .slice v4.a v4.n v4.c, .slice v4.b v4.m v4.d] ∧ Below wr.heap.size wr W ∧ wr.heap.size < W.heap.size) ⟨by ((repeat (first | (with_reducible assumption) | ((with_reducible apply Blk.farAt); (focus omega)) | (with_reducible apply Blk.setb) | ((with_reducible apply Blk.newAt); (focus (simp; done))) | (with_reducible apply Blk.alloc) | (with_reducible apply Blk.drew))); all_goals (show @Eq (Array Value) _ _; rfl)), by ((repeat (first | (with_reducible assumption) | ((with_reducible apply Blk.farAt); (focus omega)) | (with_reducible apply Blk.setb) | ((with_reducible apply Blk.newAt); (focus (simp; done))) | (with_reducible apply Blk.alloc) | (with_reducible apply Blk.drew))); all_goals (show @Eq (Array Value) _ _; rfl)), by go_grown, by simp⟩ ?_
          clear x0 x1 x2 x3 x4 x5 q1 q1' q1'' q2 q2' q2'' q3 q3' q3'' q4 q4' q4'' hb
          rintro w3 ⟨hb, hc, hw3, hs3⟩
          refine (M1.out _ hw3).mono ?_
          rintro e w4 ⟨⟨t1, t2, rfl⟩, hb4⟩
          replace hb := hb.below' hb4
          replace hc := hc.below' hb4
          have hw4 := below_then hw3 hb4
          have hs4 := hb4.size
          have hl1 := hb.lt
          have hl2 := hc.lt
          have x0 := hb.cell 6; have x1 := hb.cell 7; have x2 := hb.cell 8; have x3 := hb.cell 9; have x4 := hb.cell 10; have x5 := hb.cell 11
          have y0 := hc.cell 6; have y1 := hc.cell 7; have y2 := hc.cell 8; have y3 := hc.cell 9; have y4 := hc.cell 10; have y5 := hc.cell 11
          go_wp2_with fail
          refine calls_gen (fun W => Blk W g4 38 #[.bool z1.neg, .slice z1.a z1.n z1.c, .slice z1.b z1.m z1.d, .bool z2.neg, .slice z2.a z2.n z2.c, .slice z2.b z2.m z2.d, .bool z3.neg, .slice z3.a z3.n z3.c, .slice z3.b z3.m z3.d, .bool z4.neg, .slice z4.a z4.n z4.c, .slice z4.b z4.m z4.d] ∧ Below wr.heap.size wr W ∧ w4.heap.size ≤ W.heap.size) ⟨by ((repeat (first | (with_reducible assumption) | ((with_reducible apply Blk.farAt); (focus omega)) | (with_reducible apply Blk.setb) | ((with_reducible apply Blk.newAt); (focus (simp; done))) | (with_reducible apply Blk.alloc) | (with_reducible apply Blk.drew))); all_goals (show @Eq (Array Value) _ _; rfl)), by go_grown, by simp⟩ ?_
          clear x0 x1 x2 x3 x4 x5 y0 y1 y2 y3 y4 y5 hb hc hl1 hl2
          rintro w5 ⟨hb, hw5, hs5⟩
          refine (M2.out _ hw5).mono ?_
          rintro e w6 ⟨⟨t3, t4, rfl⟩, hb6⟩
          replace hb := hb.below' hb6
          have hw6 := below_then hw5 hb6
          have hs6 := hb6.size
          have hl1 := hb.lt
          cases b1
          · go_wp2
            go_roundg (gk - 1)
            case rel => exact ⟨j + 1, by have := HJG.out; omega, by go_num, by ((repeat (first | (with_reducible assumption) | ((with_reducible apply Blk.farAt); (focus omega)) | (with_reducible apply Blk.setb) | ((with_reducible apply Blk.newAt); (focus (simp; done))) | (with_reducible apply Blk.alloc) | (with_reducible apply Blk.drew))); all_goals (show @Eq (Array Value) _ _; rfl)), (below_then hw1 hw6).alloc (below_then hw1 hw6).size _, by simp; omega, by show _ = _; rw [HV3.out]; rfl⟩
            case measure => have := HJG.out; omega
          · cases b2
            · go_wp2
              go_roundg (gk - 1)
              case rel => exact ⟨j + 1, by have := HJG.out; omega, by go_num, by ((repeat (first | (with_reducible assumption) | ((with_reducible apply Blk.farAt); (focus omega)) | (with_reducible apply Blk.setb) | ((with_reducible apply Blk.newAt); (focus (simp; done))) | (with_reducible apply Blk.alloc) | (with_reducible apply Blk.drew))); all_goals (show @Eq (Array Value) _ _; rfl)), (below_then hw1 hw6).alloc (below_then hw1 hw6).size _, by simp; omega, by show _ = _; rw [HV3.out]; rfl⟩
              case measure => have := HJG.out; omega
            · have hr : R = false := by rw [HV3.out]; rfl
              subst hr
              go_wp2
              go_ret
              exact ⟨rfl, below_then hwr ((below_then hw1 hw6).alloc (below_then hw1 hw6).size _)⟩
        · have hvf : R = apartF l g' := by rw [hv.out, all_end (by rw [HLK.out]; exact hjt)]; rfl
          replace hvf := Lib.hid hvf
          go_wp2
          go_roundg (gk0 - 1)
          case rel => exact ⟨k + 1, by have := HKG.out; have := HG.out; omega, by go_num, hwo, by show _ = _; rw [hvf.out]; congr 1; have := HG.out; omega⟩
          case measure => have := HG.out; omega
    · have hr : R = true := by
        have h0 : gk = 0 := by have := HKG.out; omega
        rw [hv.out, h0]; rfl
      subst hr
      go_wp2
      go_ret
      exact ⟨rfl, hwr⟩
set_option maxRecDepth 100000 in
set_option maxHeartbeats 8000000 in
theorem apartR_any (l : List Bx) (a : Option Addr) (c : Nat) (w : World) (h : BoxesR w a c l) (hs : l.all Bx.short = true) :
    Calls Try.prog 9 #[.slice a l.length c] w fun e w' => e = .returned (.bool (apartB l)) ∧ Below w.heap.size w w' := by
  have HL := Lib.hid h
  have hlen := SlR.len h
  have hcap := h.1
  have hcap2 := h.2.1
  unfold maxLen at hcap2
  have HS := Lib.hid hs
  obtain ⟨R, hR⟩ : ∃ R, apartB l = R := ⟨_, rfl⟩
  rw [hR]
  unfold apartB at hR
  replace hR := Lib.hid hR
  clear h hs
  go_enter Try.func9, Try.ntmps9
  go_wp2
  obtain ⟨wo, rfl⟩ : ∃ wo : World, wo = w := ⟨_, rfl⟩
  go_loopg [3, 4, 6, 7, 8, 9, 10, 13] l.length (fun g _ _ _ _ _ _ _ s13 wr => ∃ k : Nat, k + g = l.length ∧ s13 = .int .i64 k ∧ Below wo.heap.size wo wr ∧ Hid (R = apartF l g))
  case atStart => exact ⟨0, by omega, rfl, Below.refl _ _, hR.out.symm⟩
  case round =>
    obtain ⟨k, hkg, rfl, hwr, hv⟩ := hrel
    have HKG := Lib.hid hkg
    clear hkg
    by_cases hlt : k < l.length
    · obtain ⟨x, hx⟩ := get_of_lt hlt
      obtain ⟨g', hg'⟩ : ∃ g', gk = g' + 1 := ⟨gk - 1, by have := HKG.out; omega⟩
      have hv2 := hv.out
      rw [hg'] at hv2
      have hk2 : l.length - (g' + 1) = k := by have := HKG.out; omega
      rw [apartF, hk2, rowB_some hx] at hv2
      have HV2 := Lib.hid hv2
      have HG := Lib.hid hg'
      obtain ⟨s1, s2, s3, s4⟩ := short_of HS.out hx
      obtain ⟨bb, off, rfl, z1, z2, z3, z4, q1, q2, q3, q4, r1, r2, r3, r4⟩ := (HL.out.ext (Ext.below hwr)).2.2 k x hx
      obtain ⟨q1, q1', q1''⟩ := q1
      obtain ⟨q2, q2', q2''⟩ := q2
      obtain ⟨q3, q3', q3''⟩ := q3
      obtain ⟨q4, q4', q4''⟩ := q4
      have hkI : (k : Int) < l.length := by omega
      have hkc : (k : Int) ≤ c := by omega
      have hkc2 : k ≤ c := by omega
      have hlk : (l.take k).length = k := by rw [List.length_take]; omega
      have Z1 := Lib.hid (r1.sk s1); have Z2 := Lib.hid (r2.sk s2); have Z3 := Lib.hid (r3.sk s3); have Z4 := Lib.hid (r4.sk s4)
      have HLK := Lib.hid hlk
      clear hx s1 s2 s3 s4 r1 r2 r3 r4 hv hv2 hg' hk2 hlk
      go_wp2
      refine world_gen (fun W => Blk W wr.heap.size 38 #[.bool z1.neg, .slice z1.a z1.n z1.c, .slice z1.b z1.m z1.d, .bool z2.neg, .slice z2.a z2.n z2.c, .slice z2.b z2.m z2.d, .bool z3.neg, .slice z3.a z3.n z3.c, .slice z3.b z3.m z3.d, .bool z4.neg, .slice z4.a z4.n z4.c, .slice z4.b z4.m z4.d] ∧ Below wr.heap.size wr W ∧ wr.heap.size < W.heap.size) ⟨by ((repeat (first | (with_reducible assumption) | ((with_reducible apply Blk.farAt); (focus omega)) | (with_reducible apply Blk.setb) | ((with_reducible apply Blk.newAt); (focus (simp; done))) | (with_reducible apply Blk.alloc) | (with_reducible apply Blk.drew))); all_goals (show @Eq (Array Value) _ _; rfl)), by go_grown, by simp⟩ ?_
      clear q1 q1' q1'' q2 q2' q2'' q3 q3' q3'' q4 q4' q4''
      rintro w1 ⟨hb, hw1, hs1⟩
      obtain ⟨g4, hg4⟩ : ∃ g4, wr.heap.size = g4 := ⟨_, rfl⟩
      rw [hg4] at hb hs1 ⊢
      replace hg4 := Lib.hid hg4
      obtain ⟨wp, rfl⟩ : ∃ wp : World, wp = wr := ⟨_, rfl⟩
      obtain ⟨gk0, rfl⟩ : ∃ gk0 : Nat, gk0 = gk := ⟨_, rfl⟩
      go_loopg [6, 7, 8, 9, 10, 22] k (fun g _ _ _ _ _ s22 w2 => ∃ j : Nat, j + g = k ∧ s22 = .int .i64 j ∧ Blk w2 g4 38 #[.bool z1.neg, .slice z1.a z1.n z1.c, .slice z1.b z1.m z1.d, .bool z2.neg, .slice z2.a z2.n z2.c, .slice z2.b z2.m z2.d, .bool z3.neg, .slice z3.a z3.n z3.c, .slice z3.b z3.m z3.d, .bool z4.neg, .slice z4.a z4.n z4.c, .slice z4.b z4.m z4.d] ∧ Below wp.heap.size wp w2 ∧ w1.heap.size ≤ w2.heap.size ∧ Hid (R = ((((l.take k).drop j).all fun y => !meetB x y) && apartF l g')))
      case atStart => exact ⟨0, by omega, rfl, hb, hw1, Nat.le_refl _, HV2.out⟩
      case round =>
        clear hb hw1
        obtain ⟨j, hjg, rfl, hb, hw1, hs2, hv⟩ := hrel
        have HJG := Lib.hid hjg
        clear hjg
        have hwo := below_then hwr hw1
        by_cases hjt : j < k
        · obtain ⟨y, hy⟩ := get_of_lt (xs := l) (k := j) (by omega)
          have hyt : (l.take k)[j]? = some y := by rw [List.getElem?_take, if_pos hjt]; exact hy
          have hv2 := hv.out
          rw [all_split hyt] at hv2
          obtain ⟨s1, s2, s3, s4⟩ := short_of HS.out hy
          obtain ⟨bb2, off2, eb, v1, v2, v3, v4, q1, q2, q3, q4, r1, r2, r3, r4⟩ := (HL.out.ext (Ext.below hwo)).2.2 j y hy
          injection eb with eb
          injection eb with eb1 eb2
          subst eb1
          subst eb2
          obtain ⟨q1, q1', q1''⟩ := q1
          obtain ⟨q2, q2', q2''⟩ := q2
          obtain ⟨q3, q3', q3''⟩ := q3
          obtain ⟨q4, q4', q4''⟩ := q4
          have hjI : (j : Int) < k := by omega
          have M1 := fun W (hW : Below wr.heap.size wr W) => imeetR_q z1 z2 v1 v2 x.a.q x.b.q y.a.q y.b.q 2 W (Z1.out.ext (Ext.below (below_then hw1 hW))) (Z2.out.ext (Ext.below (below_then hw1 hW))) ((r1.ext (Ext.below hW)).sk s1) ((r2.ext (Ext.below hW)).sk s2) (by omega)
          have M2 := fun W (hW : Below wr.heap.size wr W) => imeetR_q z3 z4 v3 v4 x.c.q x.d.q y.c.q y.d.q 2 W (Z3.out.ext (Ext.below (below_then hw1 hW))) (Z4.out.ext (Ext.below (below_then hw1 hW))) ((r3.ext (Ext.below hW)).sk s3) ((r4.ext (Ext.below hW)).sk s4) (by omega)
          rw [show meetB x y = (decide (qmax x.a.q y.a.q ≤ qmin x.b.q y.b.q) && decide (qmax x.c.q y.c.q ≤ qmin x.d.q y.d.q)) from rfl] at hv2
          revert M1 M2 hv2
          generalize decide (qmax x.a.q y.a.q ≤ qmin x.b.q y.b.q) = b1
          generalize decide (qmax x.c.q y.c.q ≤ qmin x.d.q y.d.q) = b2
          intro hv2 M1 M2
          have HV3 := Lib.hid hv2
          unfold Met at M1 M2
          replace M1 := Lib.hid M1; replace M2 := Lib.hid M2
          have hlg4 := hb.lt
          have x0 := hb.cell 0; have x1 := hb.cell 1; have x2 := hb.cell 2; have x3 := hb.cell 3; have x4 := hb.cell 4; have x5 := hb.cell 5
          clear hy hyt s1 s2 s3 s4 r1 r2 r3 r4 hv hv2
          go_wp2_with fail
          refine calls_gen (fun W => Blk W g4 38 #[.bool z1.neg, .slice z1.a z1.n z1.c, .slice z1.b z1.m z1.d, .bool z2.neg, .slice z2.a z2.n z2.c, .slice z2.b z2.m z2.d, .bool z3.neg, .slice z3.a z3.n z3.c, .slice z3.b z3.m z3.d, .bool z4.neg, .slice z4.a z4.n z4.c, .slice z4.b z4.m z4.d] ∧ Blk W wr.heap.size 38 #[.bool v1.neg, .slice v1.a v1.n v1.c, .slice v1.b v1.m v1.d, .bool v2.neg, .slice v2.a v2.n v2.c, .slice v2.b v2.m v2.d, .bool v3.neg, .slice v3.a v3.n v3.c, .slice v3.b v3.m v3.d, .bool v4.neg, .slice v4.a v4.n v4.c, .slice v4.b v4.m v4.d] ∧ Below wr.heap.size wr W ∧ wr.heap.size < W.heap.size) ⟨by ((repeat (first | (with_reducible assumption) | ((with_reducible apply Blk.farAt); (focus omega)) | (with_reducible apply Blk.setb) | ((with_reducible apply Blk.newAt); (focus (simp; done))) | (with_reducible apply Blk.alloc) | (with_reducible apply Blk.drew))); all_goals (show @Eq (Array Value) _ _; rfl)), by ((repeat (first | (with_reducible assumption) | ((with_reducible apply Blk.farAt); (focus omega)) | (with_reducible apply Blk.setb) | ((with_reducible apply Blk.newAt); (focus (simp; done))) | (with_reducible apply Blk.alloc) | (with_reducible apply Blk.drew))); all_goals (show @Eq (Array Value) _ _; rfl)), by go_grown, by simp⟩ ?_
          clear x0 x1 x2 x3 x4 x5 q1 q1' q1'' q2 q2' q2'' q3 q3' q3'' q4 q4' q4'' hb
          rintro w3 ⟨hb, hc, hw3, hs3⟩
          refine (M1.out _ hw3).mono ?_
          rintro e w4 ⟨⟨t1, t2, rfl⟩, hb4⟩
          replace hb := hb.below' hb4
          replace hc := hc.below' hb4
          have hw4 := below_then hw3 hb4
          have hs4 := hb4.size
          have hl1 := hb.lt
          have hl2 := hc.lt
          have x0 := hb.cell 6; have x1 := hb.cell 7; have x2 := hb.cell 8; have x3 := hb.cell 9; have x4 := hb.cell 10; have x5 := hb.cell 11
          have y0 := hc.cell 6; have y1 := hc.cell 7; have y2 := hc.cell 8; have y3 := hc.cell 9; have y4 := hc.cell 10; have y5 := hc.cell 11
          go_wp2_with fail
          refine calls_gen (fun W => Blk W g4 38 #[.bool z1.neg, .slice z1.a z1.n z1.c, .slice z1.b z1.m z1.d, .bool z2.neg, .slice z2.a z2.n z2.c, .slice z2.b z2.m z2.d, .bool z3.neg, .slice z3.a z3.n z3.c, .slice z3.b z3.m z3.d, .bool z4.neg, .slice z4.a z4.n z4.c, .slice z4.b z4.m z4.d] ∧ Below wr.heap.size wr W ∧ w4.heap.size ≤ W.heap.size) ⟨by ((repeat (first | (with_reducible assumption) | ((with_reducible apply Blk.farAt); (focus omega)) | (with_reducible apply Blk.setb) | ((with_reducible apply Blk.newAt); (focus (simp; done))) | (with_reducible apply Blk.alloc) | (with_reducible apply Blk.drew))); all_goals (show @Eq (Array Value) _ _; rfl)), by go_grown, by simp⟩ ?_
          clear x0 x1 x2 x3 x4 x5 y0 y1 y2 y3 y4 y5 hb hc hl1 hl2
          rintro w5 ⟨hb, hw5, hs5⟩
          refine (M2.out _ hw5).mono ?_
          rintro e w6 ⟨⟨t3, t4, rfl⟩, hb6⟩
          replace hb := hb.below' hb6
          have hw6 := below_then hw5 hb6
          have hs6 := hb6.size
          have hl1 := hb.lt
          cases b1
          · go_wp2
            go_roundg (gk - 1)
            case rel => exact ⟨j + 1, by have := HJG.out; omega, by go_num, by ((repeat (first | (with_reducible assumption) | ((with_reducible apply Blk.farAt); (focus omega)) | (with_reducible apply Blk.setb) | ((with_reducible apply Blk.newAt); (focus (simp; done))) | (with_reducible apply Blk.alloc) | (with_reducible apply Blk.drew))); all_goals (show @Eq (Array Value) _ _; rfl)), (below_then hw1 hw6).alloc (below_then hw1 hw6).size _, by simp; omega, by show _ = _; rw [HV3.out]; rfl⟩
            case measure => have := HJG.out; omega
          · cases b2
            · go_wp2
              go_roundg (gk - 1)
              case rel => exact ⟨j + 1, by have := HJG.out; omega, by go_num, by ((repeat (first | (with_reducible assumption) | ((with_reducible apply Blk.farAt); (focus omega)) | (with_reducible apply Blk.setb) | ((with_reducible apply Blk.newAt); (focus (simp; done))) | (with_reducible apply Blk.alloc) | (with_reducible apply Blk.drew))); all_goals (show @Eq (Array Value) _ _; rfl)), (below_then hw1 hw6).alloc (below_then hw1 hw6).size _, by simp; omega, by show _ = _; rw [HV3.out]; rfl⟩
              case measure => have := HJG.out; omega
            · have hr : R = false := by rw [HV3.out]; rfl
              subst hr
              go_wp2
              go_ret
              exact ⟨rfl, below_then hwr ((below_then hw1 hw6).alloc (below_then hw1 hw6).size _)⟩
        · have hvf : R = apartF l g' := by rw [hv.out, all_end (by rw [HLK.out]; exact hjt)]; rfl
          replace hvf := Lib.hid hvf
          go_wp2
          go_roundg (gk0 - 1)
          case rel => exact ⟨k + 1, by have := HKG.out; have := HG.out; omega, by go_num, hwo, by show _ = _; rw [hvf.out]; congr 1; have := HG.out; omega⟩
          case measure => have := HG.out; omega
    · have hr : R = true := by
        have h0 : gk = 0 := by have := HKG.out; omega
        rw [hv.out, h0]; rfl
      subst hr
      go_wp2
      go_ret
      exact ⟨rfl, hwr⟩
end Go.Proofs.Ytckfemfbpnieaaa

/- Walks: the program's rational numbers: Frac. -/
namespace Go.Proofs.Ytckfemfbpnieaaa
open Go.RowKit

set_option maxRecDepth 100000 in
set_option maxHeartbeats 1000000 in
/-- a fraction of two integers -/
theorem qfrac_any (z y : Int) (w : World) (hi : InInt z) (hj : InInt y) (h0 : y ≠ 0) :
    Calls Try.prog 20 #[.int .i64 z, .int .i64 y] w (RetF (lowest (decide (z < 0) != decide (y < 0)) z.natAbs y.natAbs) w) := by
  have hl4 := limbs_int hi
  have hl5 := limbs_int hj
  have CZ := fun W => zint_any z W hi
  have CY := fun W => zint_any y W hj
  have CO := fun a a' c c' W h h' => qmake_any (decide (z < 0)) (decide (y < 0)) (limbs z.natAbs) (limbs y.natAbs) z.natAbs y.natAbs a a' c c' W h h' (val_limbs _) (val_limbs _) (by omega) (by omega) (by omega)
  obtain ⟨t, ht⟩ : ∃ t, lowest (decide (z < 0) != decide (y < 0)) z.natAbs y.natAbs = t := ⟨_, rfl⟩
  obtain ⟨ng, hng⟩ : ∃ q, decide (z < 0) = q := ⟨_, rfl⟩
  obtain ⟨nz, hnz⟩ : ∃ q, z.natAbs = q := ⟨_, rfl⟩
  obtain ⟨mg, hmg⟩ : ∃ q, decide (y < 0) = q := ⟨_, rfl⟩
  obtain ⟨mz, hmz⟩ : ∃ q, y.natAbs = q := ⟨_, rfl⟩
  rw [ht] at CO ⊢
  simp only [hng, hnz] at CO CZ
  simp only [hmg, hmz] at CO CY
  obtain ⟨s, N, D⟩ := t
  unfold RetM at CO
  unfold RetF
  dsimp only at CO ⊢
  replace CZ := Lib.hid CZ; replace CY := Lib.hid CY; replace CO := Lib.hid CO
  have hz : Blk (w.alloc (.cells #[.bool false, .slice none 0 0, .slice none 0 0] 34)) w.heap.size 34 #[.bool false, .slice none 0 0, .slice none 0 0] := Blk.new w _ _
  have hb0 : Below w.heap.size w (w.alloc (.cells #[.bool false, .slice none 0 0, .slice none 0 0] 34)) := (Below.refl _ _).alloc (Nat.le_refl _) _
  clear ht hng hnz hl4 hl5 hmg hmz h0
  go_enter Try.func20, Try.ntmps20
  go_wp2_with fail
  revert hz hb0
  generalize w.alloc (.cells #[.bool false, .slice none 0 0, .slice none 0 0] 34) = w0
  intro hz hb0
  refine (CZ.out _).mono ?_
  rintro e w1 ⟨a1, c1, rfl, hV1, hb1⟩
  have hw1 := below_then hb0 hb1
  have hz1 := hz.below' hb1
  have HV1 := Lib.hid hV1
  clear hV1
  go_wp2_with fail
  refine (CY.out _).mono ?_
  rintro e w2 ⟨a2, c2, rfl, hV2, hb2⟩
  have hw2 := below_then hw1 hb2
  have hz2 := hz1.below' hb2
  have CF := CO.out a1 a2 c1 c2 w2 (HV1.out w2 ((New.refl _ _).below hb2)) (hV2 w2 (New.refl _ _))
  replace CF := Lib.hid CF
  clear hV2
  go_wp2_with fail
  refine CF.out.mono ?_
  rintro e w3 ⟨a3, c3, a4, c4, rfl, hV3, hV4, hb3⟩
  have hw3 := below_then hw2 hb3
  have hz3 := hz2.below' hb3
  have HV3 := Lib.hid hV3
  have HV4 := Lib.hid hV4
  have hs2 := hw2.size
  have hgl2 := hz2.lt
  have hz4 := hz3.alloc (.cells #[.bool s, .slice a3 (limbs N).length c3, .slice a4 (limbs D).length c4] 34)
  have hw4 := hw3.alloc hw3.size (.cells #[.bool s, .slice a3 (limbs N).length c3, .slice a4 (limbs D).length c4] 34)
  have z0 := hz4.cell 0; have z1 := hz4.cell 1; have z2 := hz4.cell 2; have f0 := hz4.frozen 0; have f1 := hz4.frozen 1; have f2 := hz4.frozen 2
  clear hV3 hV4
  go_wp2
  have hF := blk3 (x := .bool s) (y := .slice a3 (limbs N).length c3) (z := .slice a4 (limbs D).length c4) hz4
  have e0 := hF.cell 0; have e1 := hF.cell 1; have e2 := hF.cell 2
  refine bodyPost_ret (v := .agg #[.bool s, .slice a3 (limbs N).length c3, .slice a4 (limbs D).length c4]) (by simp [results, Try.results20, go_sem, e0, e1, e2]) rfl ?_
  exact ⟨a3, c3, a4, c4, rfl, fun V hV => HV3.out V (back3 hV hs2 hgl2).unalloc, fun V hV => HV4.out V (back3 hV hs2 hgl2).unalloc, below3 hw4 (Nat.le_refl _)⟩
end Go.Proofs.Ytckfemfbpnieaaa

/- Walks: a power of one half; whether boxes are small, by the program and by the reference. -/
namespace Go.Proofs.Ytckfemfbpnieaaa
open Go.RowKit

def half : Rat := mkRat 1 2
def halfPow : Nat → Rat
  | 0 => 1
  | n + 1 => halfPow n * half
theorem limbs_small {n : Nat} (h : n < 65536) : (limbs n).length ≤ 1 := limbs_len_le (by omega)
theorem qsz_one : qsz 1 ≤ 1 := qsz_le (limbs_small (by decide)) (limbs_small (by decide))
theorem qsz_half : qsz half ≤ 1 := qsz_le (limbs_small (by decide)) (limbs_small (by decide))
theorem one_q (w : World) : Calls Try.prog 18 #[.int .i64 1] w (RetQK 1 1 w) := by
  have := qint_any 1 w ⟨by omega, by omega⟩
  have e : lowest (decide ((1 : Int) < 0)) (1 : Int).natAbs 1 = trip 1 := by
    have := lowest_z 1 1
    rw [this]
    rfl
  rw [e] at this
  exact this.mono fun _ _ h => retF_q qsz_one h
theorem oneR_q (w : World) : Calls Try.prog 40 #[.int .i64 1] w (RetQK 1 1 w) := by
  have := qintR_any 1 w ⟨by omega, by omega⟩
  have e : lowest (decide ((1 : Int) < 0)) (1 : Int).natAbs 1 = trip 1 := by
    have := lowest_z 1 1
    rw [this]
    rfl
  rw [e] at this
  exact this.mono fun _ _ h => retF_q qsz_one h
theorem half_low : lowest (decide ((1 : Int) < 0) != decide ((2 : Int) < 0)) (1 : Int).natAbs (2 : Int).natAbs = trip half := by
  rw [show (decide ((1 : Int) < 0) != decide ((2 : Int) < 0)) = decide ((1 : Int) < 0) by decide]
  exact lowest_z 1 2
theorem half_q (w : World) : Calls Try.prog 20 #[.int .i64 1, .int .i64 2] w (RetQK 1 half w) := by
  have := qfrac_any 1 2 w ⟨by omega, by omega⟩ ⟨by omega, by omega⟩ (by omega)
  rw [half_low] at this
  exact this.mono fun _ _ h => retF_q qsz_half h
theorem halfR_q (w : World) : Calls Try.prog 42 #[.int .i64 1, .int .i64 2] w (RetQK 1 half w) := by
  have := qfracR_any 1 2 w ⟨by omega, by omega⟩ ⟨by omega, by omega⟩ (by omega)
  rw [half_low] at this
  exact this.mono fun _ _ h => retF_q qsz_half h
set_option maxRecDepth 100000 in
set_option maxHeartbeats 4000000 in
theorem small_q (n : Nat) (w : World) (hn : n ≤ 200) : Calls Try.prog 22 #[.int .i64 n] w (RetQK (n + 1) (halfPow n) w) := by
  go_enter Try.func22, Try.ntmps22
  go_wp2_with fail
  refine calls_gen (fun W => Blk W w.heap.size 34 #[.bool false, .slice none 0 0, .slice none 0 0] ∧ Below w.heap.size w W ∧ w.heap.size < W.heap.size) ⟨Blk.new w _ _, by go_grown, by simp⟩ ?_
  rintro w0 ⟨hz, hw0, hg0⟩
  refine (oneR_q _).mono ?_
  rintro e w1 ⟨x, rfl, hX, hb1⟩
  replace hz := hz.below' hb1
  have hw1 := below_then hw0 hb1
  have hs1 := hb1.size
  replace hX := Lib.hid hX
  have hl1 := hz.lt
  go_wp2
  refine world_gen (fun W => Blk W w.heap.size 34 #[.bool false, .slice none 0 0, .slice none 0 0] ∧ Blk W w1.heap.size 34 #[.bool x.neg, .slice x.a x.n x.c, .slice x.b x.m x.d] ∧ Below w.heap.size w W ∧ w1.heap.size < W.heap.size ∧ Kp (fun V => QK 1 V x 1) w0.heap.size w1.heap.size W) ⟨by ((repeat (first | (with_reducible assumption) | ((with_reducible apply Blk.farAt); (focus omega)) | (with_reducible apply Blk.setb) | ((with_reducible apply Blk.newAt); (focus (simp; done))) | (with_reducible apply Blk.alloc) | (with_reducible apply Blk.drew))); all_goals (show @Eq (Array Value) _ _; rfl)), by ((repeat (first | (with_reducible assumption) | ((with_reducible apply Blk.farAt); (focus omega)) | (with_reducible apply Blk.setb) | ((with_reducible apply Blk.newAt); (focus (simp; done))) | (with_reducible apply Blk.alloc) | (with_reducible apply Blk.drew))); all_goals (show @Eq (Array Value) _ _; rfl)), by go_grown, by simp, by (repeat (first | (with_reducible exact hX.out) | ((with_reducible refine Kp.setc ?_ ?_); (focus omega)) | (with_reducible refine Kp.alloc ?_) | (with_reducible refine Kp.drew ?_)))⟩ ?_
  clear hz hX
  rintro w2 ⟨hz, hx, hw2, hg2, hK⟩
  obtain ⟨g3, hg3⟩ : ∃ g3, w1.heap.size = g3 := ⟨_, rfl⟩
  rw [hg3] at hx hg2 hl1 ⊢
  replace hg3 := Lib.hid hg3
  go_loopg [6] n (fun g s6 wr => ∃ (k : Nat) (x : QA) (B T : Nat), k + g = n ∧ s6 = .int .i64 k ∧ Blk wr w.heap.size 34 #[.bool false, .slice none 0 0, .slice none 0 0] ∧ Blk wr g3 34 #[.bool x.neg, .slice x.a x.n x.c, .slice x.b x.m x.d] ∧ Below w.heap.size w wr ∧ Kp (fun V => QK (k + 1) V x (halfPow k)) B T wr ∧ w.heap.size < B ∧ T ≤ wr.heap.size ∧ (g3 < B ∨ T ≤ g3))
  case atStart => exact ⟨0, x, w0.heap.size, w1.heap.size, by omega, rfl, hz, hx, hw2, hK, hg0, by rw [hg3.out]; omega, by right; rw [hg3.out]; exact Nat.le_refl _⟩
  case round =>
    clear hz hx hw2 hK
    obtain ⟨k, x, B, T, hkg, rfl, hz, hx, hwr, hK, hB, hT, hgB⟩ := hrel
    have HKG := Lib.hid hkg
    clear hkg
    by_cases hlt : k < n
    · have hkI : (k : Int) < n := by omega
      have hlz := hz.lt
      have hlr := hx.lt
      have k0 := held (hx.cell 0); have k1 := held (hx.cell 1); have k2 := held (hx.cell 2)
      have s0 : Below wr.heap.size wr wr.drew := (Below.refl _ _).drew
      replace hK := Lib.hid hK
      go_wp2
      refine wp_region_mix (S := Below wr.heap.size wr) [(0, .q), (1, .l), (2, .t), (3, .t)] (by kernel_rfl) (by kernel_rfl) (by kernel_rfl) (fun d _ _ _ _ h => by cases d <;> exact h) (s0) ?_
      iterate 1 (refine wpMix_q rfl rfl (fun K hK => ?_); apply Exists.intro; refine ⟨fun w' hw' => ?_, ?_⟩; (focus (go_simp; try rfl)); go_simp; refine hK _ _ ?_; clear hK K)
      refine wpMix_l rfl rfl (fun K hK => ?_)
      go_simp
      refine (halfR_q _).mono ?_
      rintro r w1 ⟨y, rfl, hY, hb1⟩
      dsimp only
      refine hK.out _ _ (below_then s0 hb1) (fun _ => ?_)
      clear hK K
      have t1 := below_then s0 hb1
      have CM := mulR_q x y (halfPow k) half (k + 1) 1 w1 ((hK.out.call t1).now) hY.now (by omega) (by omega)
      replace CM := Lib.hid CM
      refine wpMix_t rfl rfl (fun K hK => ?_)
      go_simp
      refine (CM.out).mono ?_
      rintro r w2 ⟨z, rfl, hZ, hb2⟩
      dsimp only
      refine hK.out _ _ ?_
      clear hK K
      have t2 := below_then t1 hb2
      replace hx := hx.below' t2
      replace hz := hz.below' t2
      have hwr2 := below_then hwr t2
      have hs1 := t1.size
      replace hZ := Lib.hid hZ
      have hsz := t2.size
      have hlx := hx.lt
      have hsz2 := hwr.size
      clear hY hK k0 k1 k2
      have x0 := hx.cell 0; have x1 := hx.cell 1; have x2 := hx.cell 2; have f0 := hx.frozen 0; have f1 := hx.frozen 1; have f2 := hx.frozen 2
      refine wpMix_t rfl rfl (fun K hK => ?_)
      go_simp
      refine hK.out _ _ ?_
      clear hK K
      refine wpMix_nil ?_
      go_wp2
      have hne3 : ¬ w.heap.size = g3 := by omega
      refine world_gen (fun W => Blk W w.heap.size 34 #[.bool false, .slice none 0 0, .slice none 0 0] ∧ Blk W g3 34 #[.bool z.neg, .slice z.a z.n z.c, .slice z.b z.m z.d] ∧ Below w.heap.size w W ∧ w2.heap.size ≤ W.heap.size ∧ Kp (fun V => QK (k + 1 + 1) V z (halfPow k * half)) w1.heap.size w2.heap.size W) ⟨by ((repeat (first | (with_reducible assumption) | ((with_reducible apply Blk.farAt); (focus omega)) | (with_reducible apply Blk.setb) | ((with_reducible apply Blk.newAt); (focus (simp; done))) | (with_reducible apply Blk.alloc) | (with_reducible apply Blk.drew))); all_goals (show @Eq (Array Value) _ _; rfl)), by ((repeat (first | (with_reducible assumption) | ((with_reducible apply Blk.farAt); (focus omega)) | (with_reducible apply Blk.setb) | ((with_reducible apply Blk.newAt); (focus (simp; done))) | (with_reducible apply Blk.alloc) | (with_reducible apply Blk.drew))); all_goals (show @Eq (Array Value) _ _; rfl)), by go_grown, by simp, by (repeat (first | (with_reducible exact hZ.out) | ((with_reducible refine Kp.setc ?_ ?_); (focus omega)) | (with_reducible refine Kp.alloc ?_) | (with_reducible refine Kp.drew ?_)))⟩ ?_
      clear x0 x1 x2 f0 f1 f2
      rintro w3 ⟨hz, hx, hw3, hs3, hK⟩
      go_roundg (gk - 1)
      case rel => exact ⟨k + 1, z, _, _, by have := HKG.out; omega, by go_num, hz, hx, hw3, hK, by omega, hs3, by left; omega⟩
      case measure => have := HKG.out; omega
    · obtain rfl : k = n := by have := HKG.out; omega
      have x0 := hx.cell 0; have x1 := hx.cell 1; have x2 := hx.cell 2
      have z0 := hz.cell 0; have z1 := hz.cell 1; have z2 := hz.cell 2; have f0 := hz.frozen 0; have f1 := hz.frozen 1; have f2 := hz.frozen 2
      replace hK := Lib.hid hK
      go_wp2
      refine world_gen (fun W => Blk W w.heap.size 34 #[.bool x.neg, .slice x.a x.n x.c, .slice x.b x.m x.d] ∧ Below w.heap.size w W ∧ Kp (fun V => QK (k + 1) V x (halfPow k)) B T W) ⟨by ((repeat (first | (with_reducible assumption) | ((with_reducible apply Blk.farAt); (focus omega)) | (with_reducible apply Blk.setb) | ((with_reducible apply Blk.newAt); (focus (simp; done))) | (with_reducible apply Blk.alloc) | (with_reducible apply Blk.drew))); all_goals (show @Eq (Array Value) _ _; rfl)), by go_grown, by (repeat (first | (with_reducible exact hK.out) | ((with_reducible refine Kp.setc ?_ ?_); (focus omega)) | (with_reducible refine Kp.alloc ?_) | (with_reducible refine Kp.drew ?_)))⟩ ?_
      rintro w3 ⟨hF, hw3, hK3⟩
      have e0 := hF.cell 0; have e1 := hF.cell 1; have e2 := hF.cell 2
      refine bodyPost_ret (v := .agg #[.bool x.neg, .slice x.a x.n x.c, .slice x.b x.m x.d]) (by simp [results, Try.results22, go_sem, e0, e1, e2]) rfl ?_
      exact ⟨x, rfl, Kp.made (hK3.fin (Nat.le_of_lt hB)), hw3⟩
set_option maxRecDepth 100000 in
set_option maxHeartbeats 2000000 in
theorem narrow_q (x1 x2 y : QA) (a b q : Rat) (k1 k2 : Nat) (w : World) (H1 : QK k1 w x1 a) (H2 : QK k1 w x2 b) (H3 : QK k2 w y q) (h1 : k1 ≤ 10000) (h2 : k2 ≤ 10000) :
    Calls Try.prog 21 #[.agg #[.bool x1.neg, .slice x1.a x1.n x1.c, .slice x1.b x1.m x1.d, .bool x2.neg, .slice x2.a x2.n x2.c, .slice x2.b x2.m x2.d], .agg #[.bool y.neg, .slice y.a y.n y.c, .slice y.b y.m y.d]] w fun e w' => e = .returned (.bool (decide (b - a ≤ q))) ∧ Below w.heap.size w w' := by
  have C1 := fun W (hW : Below w.heap.size w W) => sub_q x2 x1 b a k1 k1 W (H2.ext (Ext.below hW)) (H1.ext (Ext.below hW)) (by omega) (by omega)
  have C2 := fun z W (hW : Below w.heap.size w W) hz => cmp_q z y (b - a) q (k1 + k1 + 1) k2 W hz (H3.ext (Ext.below hW)) (by omega) (by omega)
  have e1 := cmpQ_le (p := b - a) (q := q)
  revert C2 e1
  generalize cmpQ (b - a) q = u
  intro C2 e1
  obtain ⟨R, hR⟩ : ∃ R, decide (b - a ≤ q) = R := ⟨_, rfl⟩
  rw [hR]
  replace C1 := Lib.hid C1; replace C2 := Lib.hid C2; replace e1 := Lib.hid e1; replace hR := Lib.hid hR
  clear H1 H2 H3
  go_enter Try.func21, Try.ntmps21
  go_wp2
  refine world_gen (fun W => Blk W w.heap.size 36 #[.bool x1.neg, .slice x1.a x1.n x1.c, .slice x1.b x1.m x1.d, .bool x2.neg, .slice x2.a x2.n x2.c, .slice x2.b x2.m x2.d] ∧ Blk W (w.heap.size + 1) 34 #[.bool y.neg, .slice y.a y.n y.c, .slice y.b y.m y.d] ∧ Below w.heap.size w W) ⟨(Blk.new w _ _).alloc _, blk_at1 w _ _ _, by go_grown⟩ ?_
  rintro w0 ⟨hx, hy, hw0⟩
  revert hx hy
  generalize w.heap.size + 1 = g2
  intro hx hy
  have k0 := held (hx.cell 0); have k1' := held (hx.cell 1); have k2' := held (hx.cell 2); have k3 := held (hx.cell 3); have k4 := held (hx.cell 4); have k5 := held (hx.cell 5)
  have j0 := held (hy.cell 0); have j1 := held (hy.cell 1); have j2 := held (hy.cell 2)
  have s0 : Below w0.heap.size w0 w0.drew := (Below.refl _ _).drew
  refine wp_region_mix (S := Below w0.heap.size w0) [(0, .q), (1, .q), (2, .q), (3, .q), (5, .q), (4, .l), (6, .t), (7, .p), (8, .p)] (by kernel_rfl) (by kernel_rfl) (by kernel_rfl) (fun d _ _ _ _ h => by cases d <;> exact h) (s0) ?_
  iterate 5 (refine wpMix_q rfl rfl (fun K hK => ?_); apply Exists.intro; refine ⟨fun w' hw' => ?_, ?_⟩; (focus (go_simp; try rfl)); go_simp; refine hK _ _ ?_; clear hK K)
  refine wpMix_l rfl rfl (fun K hK => ?_)
  go_simp
  refine (C1.out _ (below_then hw0 s0)).mono ?_
  rintro r w1 ⟨z, rfl, hZ, hb1⟩
  dsimp only
  refine hK.out _ _ (below_then s0 hb1) (fun _ => ?_)
  clear hK K
  have t1 := below_then s0 hb1
  have CD := C2.out z w1 (below_then hw0 t1) hZ.now
  replace CD := Lib.hid CD
  clear hZ
  refine wpMix_t rfl rfl (fun K hK => ?_)
  go_simp
  refine (CD.out).mono ?_
  rintro r w2 ⟨rfl, hb2⟩
  dsimp only
  refine hK.out _ _ ?_
  clear hK K
  have t2 := below_then hw0 (below_then t1 hb2)
  iterate 2 (refine wpMix_p rfl rfl (fun K hK => ?_); apply Exists.intro; refine ⟨fun w' => ?_, ?_⟩; (focus (go_simp; try rfl)); go_simp; refine hK _ _ ?_; clear hK K)
  refine wpMix_nil ?_
  go_wp2
  go_ret
  refine ⟨ret_bool ?_, t2⟩
  rw [← hR.out, decide_eq_decide, e1.out]
end Go.Proofs.Ytckfemfbpnieaaa
