/- Walk: a pruned figure, by the reference. -/
import Derived.Test.YtmlldjcbijoheaaPlaced
import Derived.Test.YtmlldjcbijoheaaRegion
namespace Go.Proofs.Ytmlldjcbijoheaa
open Go.RowKit

theorem OwnI.readsV {B : Nat} {w V : World} {a : Option Addr} {c : Nat} {l : List Int} (h : OwnI B w a c l) (hV : New B w V) (hs : ∀ x ∈ l, InInt x) : IntsR V a c l := by
  have := Own.readsIn (E := IntE .i64) (β := Int) id intC_len h hV (fun b o x hx hc => ⟨by simpa using hc 0 _ rfl, wf_of (hs x hx)⟩)
  rwa [List.map_id] at this
theorem figR_none (V : World) : FigR V none 0 none 0 ⟨[], []⟩ := ⟨SlR.nil, SlR.nil⟩
set_option maxRecDepth 100000 in
set_option maxHeartbeats 1000000 in
theorem pruneR_err (f : Fig) (goal : Int) (sa : Option Addr) (sc : Nat) (ga : Option Addr) (gc : Nat) (W0 w : World) (hl : f.goals.length ≤ 9223372036854775807) (hbad : goal < 0 ∨ (f.goals.length : Int) ≤ goal) (hi : InInt goal) :
    Calls Try.prog 26 #[f.val sa sc ga gc, .int .i64 goal] w (RetFig W0 w ⟨[], []⟩ 2) := by
  obtain ⟨steps, goals⟩ := f
  obtain ⟨hi1, hi2⟩ := hi
  unfold Fig.val
  dsimp only at hl hbad ⊢
  have hb0 : Below w.heap.size w ((w.alloc (.cells #[.slice sa steps.length sc, .slice ga goals.length gc] 25)).alloc (.cells #[.slice none 0 0, .slice none 0 0] 25)) := by go_grown
  by_cases h0 : goal < 0
  · clear hbad
    go_enter Try.func26, Try.ntmps26
    go_wp2
    refine bodyPost_ret (v := .tuple #[.agg #[.slice none 0 0, .slice none 0 0], .int .i64 2]) (by simp [results, Try.results26, go_sem]) rfl ⟨none, 0, none, 0, rfl, hb0, fun V _ _ => figR_none V⟩
  · have h1 : (goals.length : Int) ≤ goal := by omega
    clear hbad
    go_enter Try.func26, Try.ntmps26
    go_wp2
    refine bodyPost_ret (v := .tuple #[.agg #[.slice none 0 0, .slice none 0 0], .int .i64 2]) (by simp [results, Try.results26, go_sem]) rfl ⟨none, 0, none, 0, rfl, hb0, fun V _ _ => figR_none V⟩

set_option maxRecDepth 100000 in
set_option maxHeartbeats 4000000 in
theorem pruneR_ok (f : Fig) (goal : Nat) (g : Fct) (sa : Option Addr) (sc : Nat) (ga : Option Addr) (gc : Nat) (w : World) (h : FigR w sa sc ga gc f) (hl : f.steps.length ≤ 40) (hok : ∀ (k : Nat) (s : Step), f.steps[k]? = some s → ∀ a ∈ s.args, 0 ≤ a ∧ a < (k : Int)) (hgo : f.goals[goal]? = some g)
    (hal : ∀ s ∈ f.steps, s.args.length ≤ 100) (hgl : g.args.length ≤ 100) :
    Calls Try.prog 26 #[f.val sa sc ga gc, .int .i64 goal] w (RetFig w w (pruned f g) 0) := by
  obtain ⟨bg, og, rfl, ⟨aa, ac, na, nc, da, dc⟩, hC, hP, hgk⟩ := h.2.2.2 goal g hgo
  have CN := fun W (hW : Below w.heap.size w W) => needsR_any f g.args sa sc (some ⟨bg, og, none⟩) gc aa ac W (h.ext (Ext.below hW)) (hP.1.ext (Ext.below hW)) hl hok
  have hln := trues_len (marked f.steps g.args) f.steps.length
  have hin := trues_in (marked f.steps g.args) f.steps.length
  have hpr : pruned f g = ⟨prunedSteps f.steps (needs f.steps g.args) (needs f.steps g.args), [g.with (placed (needs f.steps g.args) g.args)]⟩ := rfl
  rw [hpr]
  change (needs f.steps g.args).length ≤ _ at hln
  change ∀ x ∈ needs f.steps g.args, _ at hin
  revert CN hln hin
  generalize needs f.steps g.args = L
  intro CN hln hin
  obtain ⟨steps, goals⟩ := f
  obtain ⟨hS, hG⟩ := h
  obtain ⟨kind, args, ⟨neg, num, den⟩⟩ := g
  obtain ⟨c0, c1, c2, c3, c4⟩ := hC
  obtain ⟨hpa, hpn, hpd⟩ := hP
  have hbg := World.block_lt_of_cell? w _ c0
  simp only at hbg
  have hbg1 : bg < w.heap.size + 1 := by omega
  unfold Fig.val at CN ⊢
  dsimp only at CN hS hG hl hal hgl hgk hln hin hpa hpn hpd c0 c1 c2 c3 c4 ⊢
  have hgo2 := lt_of_get hgo
  dsimp only at hgo2
  have hlg := hG.len
  have hL2 : L.length ≤ 40 := by omega
  have HS := Lib.hid hS
  have HIN := Lib.hid hin
  have HAL := Lib.hid hal
  have HPA := Lib.hid hpa; have HPN := Lib.hid hpn; have HPD := Lib.hid hpd
  have HGK := Lib.hid hgk
  replace CN := Lib.hid CN
  have hlt : (goal : Int) < (goals.length : Int) := by omega
  clear hS hG hok hgo hpr hin hal hpa hpn hpd hgk hln
  have hz := ((Blk.new w 25 #[.slice sa steps.length sc, .slice (some ⟨bg, og, none⟩) goals.length gc]).alloc (.cells #[.slice none 0 0, .slice none 0 0] 25)).alloc (.cells #[.int .i64 kind, .slice aa args.length ac, .bool neg, .slice na num.length nc, .slice da den.length dc] 78)
  have hr := (blk_at1 w (.cells #[.slice sa steps.length sc, .slice (some ⟨bg, og, none⟩) goals.length gc] 25) 25 #[.slice none 0 0, .slice none 0 0]).alloc (.cells #[.int .i64 kind, .slice aa args.length ac, .bool neg, .slice na num.length nc, .slice da den.length dc] 78)
  have hf := blk_at2 w (.cells #[.slice sa steps.length sc, .slice (some ⟨bg, og, none⟩) goals.length gc] 25) (.cells #[.slice none 0 0, .slice none 0 0] 25) 78 #[.int .i64 kind, .slice aa args.length ac, .bool neg, .slice na num.length nc, .slice da den.length dc]
  have hb0 : Below w.heap.size w (((w.alloc (.cells #[.slice sa steps.length sc, .slice (some ⟨bg, og, none⟩) goals.length gc] 25)).alloc (.cells #[.slice none 0 0, .slice none 0 0] 25)).alloc (.cells #[.int .i64 kind, .slice aa args.length ac, .bool neg, .slice na num.length nc, .slice da den.length dc] 78)) := by go_grown
  have hs0 : (((w.alloc (.cells #[.slice sa steps.length sc, .slice (some ⟨bg, og, none⟩) goals.length gc] 25)).alloc (.cells #[.slice none 0 0, .slice none 0 0] 25)).alloc (.cells #[.int .i64 kind, .slice aa args.length ac, .bool neg, .slice na num.length nc, .slice da den.length dc] 78)).heap.size = w.heap.size + 3 := by simp
  go_enter Try.func26, Try.ntmps26
  go_wp2_with fail
  revert hz hr hf hb0 hs0
  generalize ((w.alloc (.cells #[.slice sa steps.length sc, .slice (some ⟨bg, og, none⟩) goals.length gc] 25)).alloc (.cells #[.slice none 0 0, .slice none 0 0] 25)).alloc (.cells #[.int .i64 kind, .slice aa args.length ac, .bool neg, .slice na num.length nc, .slice da den.length dc] 78) = w0
  intro hz hr hf hb0 hs0
  have hs0' : w.heap.size + 3 ≤ w0.heap.size := by omega
  clear hs0
  refine (CN.out _ hb0).mono ?_
  rintro e w1 ⟨la, lc, rfl, hoL, hb1⟩
  have hLr : IntsR w1 la lc L := OwnI.reads1 hoL (fun x hx => by have := HIN.out x hx; constructor <;> omega)
  have HLR := Lib.hid hLr
  have hw1 := below_then hb0 hb1
  have hz1 := hz.below' hb1
  have hr1 := hr.below' hb1
  have hf1 := hf.below' hb1
  have hs1 : w.heap.size + 3 ≤ w1.heap.size := Nat.le_trans hs0' hb1.size
  clear hoL hLr hb0 hb1 hz hr hf hs0' CN c0 c1 c2 c3 c4
  have hy := Blk.new w1 25 #[.slice none 0 0, .slice none 0 0]
  have hb2 : Below w1.heap.size w1 (w1.alloc (.cells #[.slice none 0 0, .slice none 0 0] 25)) := by go_grown
  have f0 := hf1.cell 0; have f1 := hf1.cell 1
  go_wp2
  revert hy hb2
  generalize w1.alloc (.cells #[.slice none 0 0, .slice none 0 0] 25) = w2
  intro hy hb2
  go_loopg [10, 11, 33] L.length (fun n _ _ q wr => ∃ (k : Nat) (l : List SP) (a1 : Option Addr) (c1 : Nat), k + n = L.length ∧ q = .int .i64 k ∧ Below w1.heap.size w1 wr ∧ Blk wr w1.heap.size 25 #[.slice a1 l.length c1, .slice none 0 0] ∧
    OwnSt (w1.heap.size + 1) wr a1 c1 l ∧ (∀ q ∈ l, ∀ V, Ext w V → NewBut (w1.heap.size + 1) a1 wr V → q.R V) ∧ l.map SP.s = prunedSteps steps L (L.take k) ∧ l.length = k)
  case atStart => exact ⟨0, [], none, 0, by omega, rfl, hb2, hy, Own.nil, by simp, rfl, rfl⟩
  case round =>
    obtain ⟨k, l, a1, c1, hkn, rfl, hbr, hyr, ho, hR, hmap, hll⟩ := hrel
    have hwr := below_then hw1 hbr
    have hzr := hz1.below' hbr
    have hrr := hr1.below' hbr
    have hfr := hf1.below' hbr
    have HKN := Lib.hid hkn
    have HR := Lib.hid hR
    have HMAP := Lib.hid hmap
    have HLL := Lib.hid hll
    have HO := Lib.hid ho
    have hsr := hbr.size
    clear hkn hR hmap hll ho hy hb2 f0 f1
    by_cases hlt : k < L.length
    · obtain ⟨x, hx⟩ := get_of_lt hlt
      obtain ⟨bl, ol, rfl, hcx⟩ := (HLR.out.ext (Ext.below hbr)).2.2 k x hx
      have hcx1 : wr.cell? ⟨bl, ol + k, none⟩ = some (.int .i64 x) := by simpa using hcx.1
      obtain ⟨hx0, hx1⟩ := HIN.out x (List.mem_of_getElem? hx)
      obtain ⟨s, hs⟩ := get_of_lt (xs := steps) (k := x.toNat) (by omega)
      obtain ⟨bs, os, rfl, ⟨sa1, sc1, sn, snc, sd, sdc⟩, hCs, hPs, hki, hpt⟩ := HS.out.2.2 x.toNat s hs
      obtain ⟨q0, q1, q2, q3, q4, q5⟩ := hCs.ext (Ext.below hwr)
      have HX := Lib.hid hx
      have HSS := Lib.hid hs
      have HPS := Lib.hid hPs
      have HKI := Lib.hid (And.intro hki hpt)
      have z0 := hzr.cell 0
      have hzl := hzr.lt
      dsimp only at q0 q1 q2 q3 q4 q5
      clear hx hs hCs hPs hki hpt hcx
      go_wp2_with fail
      have hbz : Below wr.heap.size wr (wr.alloc (.cells #[.int .i64 s.kind, .string s.point, .slice sa1 s.args.length sc1, .bool s.ratio.neg, .slice sn s.ratio.num.length snc, .slice sd s.ratio.den.length sdc] 82)) := by go_grown
      have hxz := Blk.new wr 82 #[.int .i64 s.kind, .string s.point, .slice sa1 s.args.length sc1, .bool s.ratio.neg, .slice sn s.ratio.num.length snc, .slice sd s.ratio.den.length sdc]
      revert hbz hxz
      generalize wr.alloc (.cells #[.int .i64 s.kind, .string s.point, .slice sa1 s.args.length sc1, .bool s.ratio.neg, .slice sn s.ratio.num.length snc, .slice sd s.ratio.den.length sdc] 82) = wz
      intro hbz hxz
      have k0 := held (hxz.cell 0); have k1 := held (hxz.cell 1); have k2 := held (hxz.cell 2); have k3 := held (hxz.cell 3); have k4 := held (hxz.cell 4); have k5 := held (hxz.cell 5)
      have hyz := hyr.below' hbz
      have hoz := HO.out.below hbz
      have y0 := held (hyz.cell 0)
      have hwz := below_then hwr hbz
      have hbrz := below_then hbr hbz
      have s0 : Below wz.heap.size wz wz.drew := (Below.refl _ _).drew
      have hyl := hyr.lt
      clear q0 q1 q2 q3 q4 q5 z0 hzl hxz
      refine wp_region_mix (S := Below wz.heap.size wz) [(0, .q), (1, .q), (2, .q), (3, .q), (4, .q), (5, .q), (6, .q), (7, .q), (8, .q), (10, .q), (11, .q), (9, .l), (12, .q), (13, .l), (14, .t), (15, .p), (16, .t)] (by kernel_rfl) (by kernel_rfl) (by kernel_rfl) (fun d _ _ _ _ h => by cases d <;> exact h) (s0) ?_
      iterate 11 (refine wpMix_q rfl rfl (fun K hK => ?_); apply Exists.intro; refine ⟨fun w' hw' => ?_, ?_⟩; (focus (go_simp; try rfl)); go_simp; refine hK _ _ ?_; clear hK K)
      refine wpMix_l rfl rfl (fun K hK => ?_)
      go_simp
      refine (placedR_any L s.args _ lc _ sc1 _ (HLR.out.ext (Ext.below (below_then hbrz s0))) (HPS.out.1.ext (Ext.below (below_then hwz s0))) (by have := HAL.out s (List.mem_of_getElem? HSS.out); omega)).mono ?_
      rintro r w3 ⟨pa, pc, rfl, hop, hb3⟩
      dsimp only
      refine hK.out _ _ (below_then s0 hb3) (fun _ => ?_)
      clear hK K
      have s3 := below_then s0 hb3
      have hs3 := s3.size
      have hs0 := hbz.size
      have ho3 := hoz.below s3
      have hy3 := hyz.below' s3
      iterate 1 (refine wpMix_q rfl rfl (fun K hK => ?_); apply Exists.intro; refine ⟨fun w' hw' => ?_, ?_⟩; (focus (go_simp; try rfl)); go_simp; refine hK _ _ ?_; clear hK K)
      refine wpMix_l rfl rfl (fun K hK => ?_)
      go_simp
      refine hK.out _ _ (s3.alloc hs3 _) (fun _ => ?_)
      clear hK K
      refine wpMix_t rfl rfl (fun K hK => ?_)
      refine wp_append_step (.tmp 43) (.tmp 55) rfl a1 c1 rfl (ho3.alloc _) (SP.mk (s.with (placed L s.args)) ⟨pa, pc, sn, snc, sd, sdc⟩) w3.heap.size 1 rfl (fun j u hu => ?_) (l ++ [(SP.mk (s.with (placed L s.args)) ⟨pa, pc, sn, snc, sd, sdc⟩)]) rfl (by have := HLL.out; simp; omega) (by simp; omega) ?_
      · have e1 := (Blk.new w3 82 (SP.cs (SP.mk (s.with (placed L s.args)) ⟨pa, pc, sn, snc, sd, sdc⟩)).toArray).cell j
        simp only [List.getElem?_toArray] at e1
        exact e1.trans hu
      intro a4 c4 w4 ho4 hg4 hx4
      go_simp
      refine hK.out _ _ ?_
      clear hK K
      have hy4 := (hy3.alloc (.cells (SP.cs (SP.mk (s.with (placed L s.args)) ⟨pa, pc, sn, snc, sd, sdc⟩)).toArray 82)).under (ho3.alloc (.cells (SP.cs (SP.mk (s.with (placed L s.args)) ⟨pa, pc, sn, snc, sd, sdc⟩)).toArray 82)) (Nat.lt_succ_self _) hg4
      have hc4 := hy4.cell 0
      have hf4 := hy4.frozen 0
      iterate 1 (refine wpMix_p rfl rfl (fun K hK => ?_); apply Exists.intro; refine ⟨fun w' => ?_, ?_⟩; (focus (go_simp; try rfl)); go_simp; refine hK _ _ ?_; clear hK K)
      refine wpMix_t rfl rfl (fun K hK => ?_)
      go_simp
      refine hK.out _ _ ?_
      clear hK K
      refine wpMix_nil ?_
      go_wp2
      have hwz4 : Below w1.heap.size w1 (w4.setCell ⟨w1.heap.size, 0, none⟩ (.slice a4 (l ++ [(SP.mk (s.with (placed L s.args)) ⟨pa, pc, sn, snc, sd, sdc⟩)]).length c4)) := (below_append' (below_then hbrz (s3.alloc hs3 _)) (Own.base (ho3.alloc _) (Nat.le_succ _)) hg4).setCell (Nat.le_refl _) _
      have hs4 := hy4.set_ 0 (.slice a4 (l ++ [(SP.mk (s.with (placed L s.args)) ⟨pa, pc, sn, snc, sd, sdc⟩)]).length c4)
      have hof := ho4.far (p := ⟨w1.heap.size, 0, none⟩) (Nat.lt_succ_self _) (.slice a4 (l ++ [(SP.mk (s.with (placed L s.args)) ⟨pa, pc, sn, snc, sd, sdc⟩)]).length c4)
      simp only [List.length_append, List.length_cons, List.length_nil, Nat.zero_add] at hwz4 hs4 hof
      go_roundg (gk - 1)
      case rel =>
        refine ⟨k + 1, _, a4, c4, by have := HKN.out; omega, by go_num, hwz4, by simpa using hs4, hof, ?_, ?_, by have := HLL.out; simp; omega⟩
        · intro q hq V hV hN
          replace hN := hN.unset (Nat.lt_succ_self _)
          rcases List.mem_append.1 hq with hq | hq
          · exact HR.out q hq V hV (hN.back (below_then hbz (s3.alloc hs3 _)) hg4 hx4)
          · simp at hq
            subst hq
            have hNf : New wz.drew.heap.size w3 V := hN.fresh (B' := wz.drew.heap.size) (by simp; omega) (Below.alloc (Below.refl _ _) (Nat.le_refl _) _) hg4 hx4 (fun g e => (hoz.lt e).2)
            exact ⟨⟨hop.readsV hNf (placed_in L s.args (by omega)), HPS.out.2.1.ext hV, HPS.out.2.2.ext hV⟩, HKI.out.1, HKI.out.2⟩
        · rw [List.map_append, HMAP.out, prunedSteps_take HX.out HSS.out]
          rfl
      case measure => have := HKN.out; omega
    · obtain rfl : k = L.length := by have := HKN.out; omega
      have f0 := held (hfr.cell 0); have f1 := held (hfr.cell 1); have f2 := held (hfr.cell 2); have f3 := held (hfr.cell 3); have f4 := held (hfr.cell 4)
      have hyl := hyr.lt
      go_wp2
      have s0 : Below wr.heap.size wr wr.drew := (Below.refl _ _).drew
      refine wp_region_mix (S := Below wr.heap.size wr) [(0, .q), (1, .q), (2, .q), (3, .q), (4, .q), (6, .q), (7, .q), (5, .l), (8, .p), (9, .t), (10, .p), (11, .t)] (by kernel_rfl) (by kernel_rfl) (by kernel_rfl) (fun d _ _ _ _ h => by cases d <;> exact h) (s0) ?_
      iterate 7 (refine wpMix_q rfl rfl (fun K hK => ?_); apply Exists.intro; refine ⟨fun w' hw' => ?_, ?_⟩; (focus (go_simp; try rfl)); go_simp; refine hK _ _ ?_; clear hK K)
      refine wpMix_l rfl rfl (fun K hK => ?_)
      go_simp
      refine (placedR_any L args _ lc _ ac _ (HLR.out.ext (Ext.below (below_then hbr s0))) (HPA.out.ext (Ext.below (below_then hwr s0))) (by omega)).mono ?_
      rintro r w5 ⟨pa, pc, rfl, hop, hb5⟩
      dsimp only
      refine hK.out _ _ (below_then s0 hb5) (fun _ => ?_)
      clear hK K
      have s5 := below_then s0 hb5
      have hs5 := s5.size
      have hyx := (hyr.below' s5).alloc (.cells #[.int .i64 kind, .slice pa (placed L args).length pc, .bool neg, .slice na num.length nc, .slice da den.length dc] 78)
      have hc5 := hyx.cell 1
      have hf5 := hyx.frozen 1
      iterate 1 (refine wpMix_p rfl rfl (fun K hK => ?_); apply Exists.intro; refine ⟨fun w' => ?_, ?_⟩; (focus (go_simp; try rfl)); go_simp; refine hK _ _ ?_; clear hK K)
      refine wpMix_t rfl rfl (fun K hK => ?_)
      go_simp
      refine hK.out _ _ ?_
      clear hK K
      iterate 1 (refine wpMix_p rfl rfl (fun K hK => ?_); apply Exists.intro; refine ⟨fun w' => ?_, ?_⟩; (focus (go_simp; try rfl)); go_simp; refine hK _ _ ?_; clear hK K)
      refine wpMix_t rfl rfl (fun K hK => ?_)
      go_simp
      refine hK.out _ _ ?_
      clear hK K
      refine wpMix_nil ?_
      have hgb := (Blk.new w5 78 #[.int .i64 kind, .slice pa (placed L args).length pc, .bool neg, .slice na num.length nc, .slice da den.length dc]).far (p := ⟨w1.heap.size, 1, none⟩) (by simp; omega) (.slice (some ⟨w5.heap.size, 0, none⟩) 1 1)
      have hy6 := hyx.set_ 1 (.slice (some ⟨w5.heap.size, 0, none⟩) 1 1)
      have hr6 := ((hrr.below' s5).alloc (.cells #[.int .i64 kind, .slice pa (placed L args).length pc, .bool neg, .slice na num.length nc, .slice da den.length dc] 78)).far (p := ⟨w1.heap.size, 1, none⟩) (by simp; omega) (.slice (some ⟨w5.heap.size, 0, none⟩) 1 1)
      have ho6 := ((HO.out.below s5).alloc (.cells #[.int .i64 kind, .slice pa (placed L args).length pc, .bool neg, .slice na num.length nc, .slice da den.length dc] 78)).far (p := ⟨w1.heap.size, 1, none⟩) (Nat.lt_succ_self _) (.slice (some ⟨w5.heap.size, 0, none⟩) 1 1)
      have hw6 : Below w.heap.size w ((w5.alloc (.cells #[.int .i64 kind, .slice pa (placed L args).length pc, .bool neg, .slice na num.length nc, .slice da den.length dc] 78)).setCell ⟨w1.heap.size, 1, none⟩ (.slice (some ⟨w5.heap.size, 0, none⟩) 1 1)) := ((below_then hwr s5).alloc (below_then hwr s5).size _).setCell (by simp; omega) _
      have hN6 : ∀ V, New (w1.heap.size + 1) ((w5.alloc (.cells #[.int .i64 kind, .slice pa (placed L args).length pc, .bool neg, .slice na num.length nc, .slice da den.length dc] 78)).setCell ⟨w1.heap.size, 1, none⟩ (.slice (some ⟨w5.heap.size, 0, none⟩) 1 1)) V → New (w1.heap.size + 1) w5 V := fun V h => (h.unset (Nat.lt_succ_self _)).unalloc
      revert hgb hy6 hr6 ho6 hw6 hN6
      generalize (w5.alloc (.cells #[.int .i64 kind, .slice pa (placed L args).length pc, .bool neg, .slice na num.length nc, .slice da den.length dc] 78)).setCell ⟨w1.heap.size, 1, none⟩ (.slice (some ⟨w5.heap.size, 0, none⟩) 1 1) = w6
      intro hgb hy6 hr6 ho6 hw6 hN6
      simp at hy6
      have y0 := hy6.cell 0; have y1 := hy6.cell 1
      have r0 := hr6.cell 0; have r1 := hr6.cell 1
      have g0 := hr6.frozen 0; have g1 := hr6.frozen 1
      clear hyx hc5 hf5 f0 f1 f2 f3 f4
      go_wp2
      have hrF := (hr6.set_ 0 (.slice a1 l.length c1)).set_ 1 (.slice (some ⟨w5.heap.size, 0, none⟩) 1 1)
      have hoF := (ho6.far (p := ⟨w.heap.size + 1, 0, none⟩) (by simp; omega) (.slice a1 l.length c1)).far (p := ⟨w.heap.size + 1, 1, none⟩) (by simp; omega) (.slice (some ⟨w5.heap.size, 0, none⟩) 1 1)
      have hgF := (hgb.far (p := ⟨w.heap.size + 1, 0, none⟩) (by simp; omega) (.slice a1 l.length c1)).far (p := ⟨w.heap.size + 1, 1, none⟩) (by simp; omega) (.slice (some ⟨w5.heap.size, 0, none⟩) 1 1)
      have hwF := (hw6.setCell (p := ⟨w.heap.size + 1, 0, none⟩) (by simp) (.slice a1 l.length c1)).setCell (p := ⟨w.heap.size + 1, 1, none⟩) (by simp) (.slice (some ⟨w5.heap.size, 0, none⟩) 1 1)
      have hNF : ∀ V, New (w1.heap.size + 1) ((w6.setCell ⟨w.heap.size + 1, 0, none⟩ (.slice a1 l.length c1)).setCell ⟨w.heap.size + 1, 1, none⟩ (.slice (some ⟨w5.heap.size, 0, none⟩) 1 1)) V → New (w1.heap.size + 1) w5 V := fun V h => hN6 V ((h.unset (by simp; omega)).unset (by simp; omega))
      revert hrF hoF hgF hwF hNF
      generalize (w6.setCell ⟨w.heap.size + 1, 0, none⟩ (.slice a1 l.length c1)).setCell ⟨w.heap.size + 1, 1, none⟩ (.slice (some ⟨w5.heap.size, 0, none⟩) 1 1) = wf
      intro hrF hoF hgF hwF hNF
      simp at hrF
      have e0 := hrF.cell 0; have e1 := hrF.cell 1
      simp only [List.getElem?_toArray, List.getElem?_cons_zero, List.getElem?_cons_succ] at e0 e1
      have hmap2 := HMAP.out
      rw [List.take_of_length_le (Nat.le_refl _)] at hmap2
      have hlen2 : (prunedSteps steps L L).length = l.length := by rw [← hmap2, List.length_map]
      refine bodyPost_ret (v := .tuple #[.agg #[.slice a1 l.length c1, .slice (some ⟨w5.heap.size, 0, none⟩) 1 1], .int .i64 0]) (by simp [results, Try.results26, go_sem, e0, e1]) rfl ?_
      refine ⟨a1, c1, some ⟨w5.heap.size, 0, none⟩, 1, by simp [Fig.val, hlen2], hwF, fun V hV hN => ⟨?_, ?_⟩⟩
      · show StepsR V a1 c1 (prunedSteps steps L L)
        rw [← hmap2]
        have hNV := hN.base (B' := w1.heap.size + 1) (by omega)
        exact OwnSt.readsIn hoF hNV (fun q hq => HR.out q hq V hV (((hNF V hNV).below s5).but a1))
      · have hNV := hN.base (B' := w1.heap.size + 1) (by omega)
        refine fct_one (p := ⟨pa, pc, na, nc, da, dc⟩) ⟨?_, ?_, ?_, ?_, ?_⟩ ⟨hop.readsV ((hNF V hNV).base (by simp; omega)) (placed_in L args (by omega)), HPN.out.ext hV, HPD.out.ext hV⟩ HGK.out
        · exact hN _ _ (by simp; omega) (hgF.cell 0)
        · exact hN _ _ (by simp; omega) (hgF.cell 1)
        · exact hN _ _ (by simp; omega) (hgF.cell 2)
        · exact hN _ _ (by simp; omega) (hgF.cell 3)
        · exact hN _ _ (by simp; omega) (hgF.cell 4)
end Go.Proofs.Ytmlldjcbijoheaa
