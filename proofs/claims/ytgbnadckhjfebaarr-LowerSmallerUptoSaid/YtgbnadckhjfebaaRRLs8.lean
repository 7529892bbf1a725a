/- Walk: a pruned figure, by the program. -/
import Derived.Test.YtgbnadckhjfebaaRRLs5
import Derived.Test.YtgbnadckhjfebaaRRLs6
import Derived.Test.YtgbnadckhjfebaaRRLs7

/- Walk: a pruned figure, by the program. -/
namespace Go.Proofs.YtgbnadckhjfebaaRR
open Go.RowKit

set_option maxRecDepth 100000 in
set_option maxHeartbeats 1000000 in
theorem prune_err (f : Fig) (goal : Int) (sa : Option Addr) (sc : Nat) (ga : Option Addr) (gc : Nat) (W0 w : World) (hl : f.goals.length ≤ 9223372036854775807) (hbad : goal < 0 ∨ (f.goals.length : Int) ≤ goal) (hi : InInt goal) :
    Calls Try.prog 5 #[f.val sa sc ga gc, .int .i64 goal] w (RetFig W0 w ⟨[], []⟩ 2) := by
  obtain ⟨steps, goals⟩ := f
  obtain ⟨hi1, hi2⟩ := hi
  unfold Fig.val
  dsimp only at hl hbad ⊢
  have hb0 : Below w.heap.size w ((w.alloc (.cells #[.slice sa steps.length sc, .slice ga goals.length gc] 25)).alloc (.cells #[.slice none 0 0, .slice none 0 0] 25)) := by go_grown
  by_cases h0 : goal < 0
  · clear hbad
    go_enter Try.func5, Try.ntmps5
    go_wp2
    refine bodyPost_ret (v := .tuple #[.agg #[.slice none 0 0, .slice none 0 0], .int .i64 2]) (by simp [results, Try.results5, go_sem]) rfl ⟨none, 0, none, 0, rfl, hb0, fun V _ _ => figR_none V⟩
  · have h1 : (goals.length : Int) ≤ goal := by omega
    clear hbad
    go_enter Try.func5, Try.ntmps5
    go_wp2
    refine bodyPost_ret (v := .tuple #[.agg #[.slice none 0 0, .slice none 0 0], .int .i64 2]) (by simp [results, Try.results5, go_sem]) rfl ⟨none, 0, none, 0, rfl, hb0, fun V _ _ => figR_none V⟩


set_option maxRecDepth 100000 in
set_option maxHeartbeats 8000000 in
theorem prune_ok (f : Fig) (goal : Nat) (g : Fct) (sa : Option Addr) (sc : Nat) (ga : Option Addr) (gc : Nat) (w : World) (h : FigR w sa sc ga gc f) (hl : f.steps.length ≤ 40) (hok : ∀ (k : Nat) (s : Step), f.steps[k]? = some s → ∀ a ∈ s.args, 0 ≤ a ∧ a < (k : Int)) (hgo : f.goals[goal]? = some g)
    (hal : ∀ s ∈ f.steps, s.args.length ≤ 100) (hgl : g.args.length ≤ 100) :
    Calls Try.prog 5 #[f.val sa sc ga gc, .int .i64 goal] w (RetFig w w (pruned f g) 0) := by
  obtain ⟨bg, og, rfl, ⟨aa, ac, na, nc, da, dc⟩, hC, hP, hgk⟩ := h.2.2.2 goal g hgo
  have CN := fun W (hW : Below w.heap.size w W) => needs_any f g.args sa sc (some ⟨bg, og, none⟩) gc aa ac W (h.ext (Ext.below hW)) (hP.1.ext (Ext.below hW)) hl hok
  have hln := trues_len (marked f.steps g.args) f.steps.length
  have hin := trues_in (marked f.steps g.args) f.steps.length
  have hpr : pruned f g = ⟨prunedSteps f.steps (needs f.steps g.args) (needs f.steps g.args), [g.with (placed (needs f.steps g.args) g.args)]⟩ := rfl
  rw [hpr]
  change (needs f.steps g.args).length ≤ _ at hln
  change ∀ x ∈ needs f.steps g.args, _ at hin
  revert CN hln hin
  generalize needs f.steps g.args = L
  intro CN hln hin
  obtain ⟨steps, goals⟩ := f
  obtain ⟨hS, hG⟩ := h
  obtain ⟨kind, args, ⟨neg, num, den⟩⟩ := g
  obtain ⟨c0, c1, c2, c3, c4⟩ := hC
  obtain ⟨hpa, hpn, hpd⟩ := hP
  have hbg := World.block_lt_of_cell? w _ c0
  simp only at hbg
  have hbg1 : bg < w.heap.size + 1 := by omega
  unfold Fig.val at CN ⊢
  dsimp only at CN hS hG hl hal hgl hgk hln hin hpa hpn hpd c0 c1 c2 c3 c4 ⊢
  have hgo2 := lt_of_get hgo
  dsimp only at hgo2
  have hlg := hG.len
  have hL2 : L.length ≤ 40 := by omega
  have HS := Lib.hid hS
  have HIN := Lib.hid hin
  have HAL := Lib.hid hal
  have HPA := Lib.hid hpa; have HPN := Lib.hid hpn; have HPD := Lib.hid hpd
  have HGK := Lib.hid hgk
  have HC := Lib.hid (show FctC w bg (og + goal * 5) ⟨aa, ac, na, nc, da, dc⟩ ⟨kind, args, ⟨neg, num, den⟩⟩ from ⟨c0, c1, c2, c3, c4⟩)
  replace CN := Lib.hid CN
  have hlt : (goal : Int) < (goals.length : Int) := by omega
  clear hS hG hok hgo hpr hin hal hpa hpn hpd hgk hln
  have hz := (Blk.new w 25 #[.slice sa steps.length sc, .slice (some ⟨bg, og, none⟩) goals.length gc]).alloc (.cells #[.slice none 0 0, .slice none 0 0] 25)
  have hr := blk_at1 w (.cells #[.slice sa steps.length sc, .slice (some ⟨bg, og, none⟩) goals.length gc] 25) 25 #[.slice none 0 0, .slice none 0 0]
  have hb0 : Below w.heap.size w ((w.alloc (.cells #[.slice sa steps.length sc, .slice (some ⟨bg, og, none⟩) goals.length gc] 25)).alloc (.cells #[.slice none 0 0, .slice none 0 0] 25)) := by go_grown
  have hs0 : ((w.alloc (.cells #[.slice sa steps.length sc, .slice (some ⟨bg, og, none⟩) goals.length gc] 25)).alloc (.cells #[.slice none 0 0, .slice none 0 0] 25)).heap.size = w.heap.size + 2 := by simp
  go_enter Try.func5, Try.ntmps5
  go_wp2
  revert hz hr hb0 hs0
  generalize (w.alloc (.cells #[.slice sa steps.length sc, .slice (some ⟨bg, og, none⟩) goals.length gc] 25)).alloc (.cells #[.slice none 0 0, .slice none 0 0] 25) = w0
  intro hz hr hb0 hs0
  have hs0' : w.heap.size + 2 ≤ w0.heap.size := by omega
  clear hs0 c0 c1 c2 c3 c4
  have d1 := held ((HC.out.ext (Ext.below hb0)).2.1)
  dsimp only at d1
  have z0 := held (hz.cell 0); have z1 := held (hz.cell 1)
  have s0 : Below w0.heap.size w0 w0.drew := (Below.refl _ _).drew
  refine wp_region_tree (S := Below w0.heap.size w0) (.q 0 (.q 1 (.q 2 (.q 3 (.q 4 (.q 5 (.q 6 (.two 7 (.l 8 (.t 9 .nil)) 8 (.l 7 (.t 9 .nil))))))))) ) [9] (by kernel_rfl) (by kernel_rfl) (by kernel_rfl) (fun d _ _ _ _ h => by cases d <;> exact h) s0 ?_
  iterate 7 (refine wpMT_q rfl rfl (fun K hK => ?_); apply Exists.intro; refine ⟨fun w' hw' => ?_, ?_⟩; (focus (go_simp; try rfl)); go_simp; refine hK _ _ ?_; clear hK K)
  refine wpMT_two ?_ ?_
  · skip
    refine wpMT_l rfl rfl (fun K hK => ?_)
    go_simp
    refine (CN.out _ (below_then hb0 s0)).mono ?_
    rintro r w1 ⟨la, lc, rfl, hoL, hb1⟩
    dsimp only
    refine hK.out _ _ (below_then s0 hb1) (fun _ => ?_)
    clear hK K
    have s1 := below_then s0 hb1
    refine wpMT_l rfl rfl (fun K hK => ?_)
    go_simp
    refine hK.out _ _ (s1.alloc s1.size _) (fun _ => ?_)
    clear hK K
    refine wpMT_t rfl rfl (fun K hK => ?_)
    go_simp
    refine hK.out _ _ ?_
    clear hK K
    refine wpMT_nil ?_
    have hbN := s1.alloc s1.size (.cells #[.slice la L.length lc] 30)
    have h6 := Blk.new w1 30 #[.slice la L.length lc]
    have hlN : IntsR (w1.alloc (.cells #[.slice la L.length lc] 30)) la lc L := OwnI.reads1 (hoL.alloc _) (fun x hx => by have := HIN.out x hx; constructor <;> omega)
    have hn6 : w0.heap.size ≤ w1.heap.size := s1.size
    clear hoL hb1 s1
    revert hbN h6 hlN hn6
    generalize w1.alloc (.cells #[.slice la L.length lc] 30) = wN
    generalize w1.heap.size = n6
    intro hbN h6 hlN hn6
    replace hlN := Lib.hid hlN
    have hwN := below_then hb0 hbN
    have hzN := hz.below' hbN
    have hrN := hr.below' hbN
    have hsN := hbN.size
    have h6l := h6.lt
    clear z0 z1 d1 s0 hz hr hb0 hbN CN
    have hy := Blk.new wN 25 #[.slice none 0 0, .slice none 0 0]
    have hb2 : Below wN.heap.size wN (wN.alloc (.cells #[.slice none 0 0, .slice none 0 0] 25)) := by go_grown
    have e6 := h6.cell 0
    go_wp2
    revert hy hb2
    generalize wN.alloc (.cells #[.slice none 0 0, .slice none 0 0] 25) = w2
    intro hy hb2
    go_loopg [10, 11, 34] L.length (fun n _ _ q wr => ∃ (k : Nat) (l : List SP) (a1 : Option Addr) (c1 : Nat), k + n = L.length ∧ q = .int .i64 k ∧ Below wN.heap.size wN wr ∧ Blk wr wN.heap.size 25 #[.slice a1 l.length c1, .slice none 0 0] ∧
      OwnSt (wN.heap.size + 1) wr a1 c1 l ∧ (∀ q ∈ l, ∀ V, Ext w V → NewBut (wN.heap.size + 1) a1 wr V → q.R V) ∧ l.map SP.s = prunedSteps steps L (L.take k) ∧ l.length = k)
    case atStart => exact ⟨0, [], none, 0, by omega, rfl, hb2, hy, Own.nil, by simp, rfl, rfl⟩
    case round =>
      obtain ⟨k, l, a1, c1, hkn, rfl, hbr, hyr, ho, hR, hmap, hll⟩ := hrel
      have hwr := below_then hwN hbr
      have hzr := hzN.below' hbr
      have hrr := hrN.below' hbr
      have h6r := h6.below' hbr
      have HKN := Lib.hid hkn
      have HR := Lib.hid hR
      have HMAP := Lib.hid hmap
      have HLL := Lib.hid hll
      have HO := Lib.hid ho
      have hsr := hbr.size
      have hyl := hyr.lt
      clear hkn hR hmap hll ho hy hb2 e6
      by_cases hlt : k < L.length
      · obtain ⟨x, hx⟩ := get_of_lt hlt
        obtain ⟨bl, ol, rfl, hcx⟩ := (hlN.out.ext (Ext.below hbr)).2.2 k x hx
        have hcx1 : wr.cell? ⟨bl, ol + k, none⟩ = some (.int .i64 x) := by simpa using hcx.1
        obtain ⟨hx0, hx1⟩ := HIN.out x (List.mem_of_getElem? hx)
        obtain ⟨s, hs⟩ := get_of_lt (xs := steps) (k := x.toNat) (by omega)
        obtain ⟨bs, os, rfl, ⟨sa1, sc1, sn, snc, sd, sdc⟩, hCs, hPs, hki, hpt⟩ := HS.out.2.2 x.toNat s hs
        obtain ⟨q0, q1, q2, q3, q4, q5⟩ := hCs.ext (Ext.below hwr)
        have HX := Lib.hid hx
        have HSS := Lib.hid hs
        have HPS := Lib.hid hPs
        have HKI := Lib.hid (And.intro hki hpt)
        have z0 := hzr.cell 0
        have hzl := hzr.lt
        dsimp only at q0 q1 q2 q3 q4 q5
        have hal1 := HAL.out s (List.mem_of_getElem? hs)
        clear hx hs hCs hPs hki hpt hcx
        go_wp2_with fail
        have hbz : Below wr.heap.size wr (wr.alloc (.cells #[.int .i64 s.kind, .string s.point, .slice sa1 s.args.length sc1, .bool s.ratio.neg, .slice sn s.ratio.num.length snc, .slice sd s.ratio.den.length sdc] 47)) := by go_grown
        have hxz := Blk.new wr 47 #[.int .i64 s.kind, .string s.point, .slice sa1 s.args.length sc1, .bool s.ratio.neg, .slice sn s.ratio.num.length snc, .slice sd s.ratio.den.length sdc]
        have hsz : (wr.alloc (.cells #[.int .i64 s.kind, .string s.point, .slice sa1 s.args.length sc1, .bool s.ratio.neg, .slice sn s.ratio.num.length snc, .slice sd s.ratio.den.length sdc] 47)).heap.size = wr.heap.size + 1 := by simp
        revert hbz hxz hsz
        generalize wr.alloc (.cells #[.int .i64 s.kind, .string s.point, .slice sa1 s.args.length sc1, .bool s.ratio.neg, .slice sn s.ratio.num.length snc, .slice sd s.ratio.den.length sdc] 47) = wz
        intro hbz hxz hsz
        have hsz' : wr.heap.size < wz.heap.size := by omega
        have HSZ := Lib.hid hsz
        have hbrz := below_then hbr hbz
        have hwz := below_then hwr hbz
        clear q0 q1 q2 q3 q4 q5 z0 hzl hsz
        refine (movedF_any L s.args n6 _ lc _ sc1 wz (h6r.below' hbz) (hlN.out.ext (Ext.below hbrz)) (HPS.out.1.ext (Ext.below hwz)) (by omega)).mono ?_
        rintro r w3 ⟨pa, pc, rfl, hop, hb3⟩
        have hx3 := hxz.below' hb3
        have c0 := hx3.cell 0; have c1' := hx3.cell 1; have c2 := hx3.cell 2; have c3 := hx3.cell 3; have c4' := hx3.cell 4; have c5 := hx3.cell 5
        have m2 := hx3.frozen 2
        have hb03 : Below wr.heap.size wr w3 := below_then hbz hb3
        have hs3 := hb3.size
        have hy3 := hyr.below' hb03
        have y0 := hy3.cell 0
        have hbW : Below wr.heap.size wr ((w3.setCell ⟨wr.heap.size, 2, none⟩ (.slice pa (placed L s.args).length pc)).alloc (.cells (SP.cs (SP.mk (s.with (placed L s.args)) ⟨pa, pc, sn, snc, sd, sdc⟩)).toArray 47)) := (hb03.setCell (Nat.le_refl _) _).alloc (by simp; omega) _
        have ho5 := HO.out.below hbW
        have hyW := hyr.below' hbW
        have HO5 := Lib.hid ho5
        have HYW := Lib.hid hyW
        have HBW := Lib.hid hbW
        have hcell : ∀ j u, (SP.cs (SP.mk (s.with (placed L s.args)) ⟨pa, pc, sn, snc, sd, sdc⟩))[j]? = some u → ((w3.setCell ⟨wr.heap.size, 2, none⟩ (.slice pa (placed L s.args).length pc)).alloc (.cells (SP.cs (SP.mk (s.with (placed L s.args)) ⟨pa, pc, sn, snc, sd, sdc⟩)).toArray 47)).cell? ⟨w3.heap.size, j, none⟩ = some u := by
          intro j u hu
          have e1 := (Blk.new (w3.setCell ⟨wr.heap.size, 2, none⟩ (.slice pa (placed L s.args).length pc)) 47 (SP.cs (SP.mk (s.with (placed L s.args)) ⟨pa, pc, sn, snc, sd, sdc⟩)).toArray).cell j
          rw [show (w3.setCell ⟨wr.heap.size, 2, none⟩ (.slice pa (placed L s.args).length pc)).heap.size = w3.heap.size by simp] at e1
          simp only [List.getElem?_toArray] at e1
          exact e1.trans hu
        have HCELL := Lib.hid hcell
        clear ho5 hyW hbW hcell
        go_wp2_with (at_builtin; go_must (refine append_step rfl (.tmp 49) (.tmp 51) rfl a1 c1 rfl HO5.out (SP.mk (s.with (placed L s.args)) ⟨pa, pc, sn, snc, sd, sdc⟩) w3.heap.size 1 rfl (fun j u hu => HCELL.out j u hu) (l ++ [(SP.mk (s.with (placed L s.args)) ⟨pa, pc, sn, snc, sd, sdc⟩)]) rfl (by have := HLL.out; simp; omega) (by simp; omega) ?_); intro a4 c4 w4 ho4 hg4 hx4; have hy4 := HYW.out.under HO5.out (Nat.lt_succ_self _) hg4; have hc4 := hy4.cell 0; have hf4 := hy4.frozen 0)
        have hwz4 : Below wN.heap.size wN (w4.setCell ⟨wN.heap.size, 0, none⟩ (.slice a4 (l ++ [(SP.mk (s.with (placed L s.args)) ⟨pa, pc, sn, snc, sd, sdc⟩)]).length c4)) := (below_append' (below_then hbr HBW.out) (Own.base HO5.out (Nat.le_succ _)) hg4).setCell (Nat.le_refl _) _
        have hs4 := hy4.set_ 0 (.slice a4 (l ++ [(SP.mk (s.with (placed L s.args)) ⟨pa, pc, sn, snc, sd, sdc⟩)]).length c4)
        have hof := ho4.far (p := ⟨wN.heap.size, 0, none⟩) (Nat.lt_succ_self _) (.slice a4 (l ++ [(SP.mk (s.with (placed L s.args)) ⟨pa, pc, sn, snc, sd, sdc⟩)]).length c4)
        simp only [List.length_append, List.length_cons, List.length_nil, Nat.zero_add] at hwz4 hs4 hof
        go_roundg (gk - 1)
        case rel =>
          refine ⟨k + 1, _, a4, c4, by have := HKN.out; omega, by go_num, hwz4, by simpa using hs4, hof, ?_, ?_, by have := HLL.out; simp; omega⟩
          · intro q hq V hV hN
            replace hN := hN.unset (Nat.lt_succ_self _)
            have hx4' : ∃ g, a4 = some ⟨g, 0, none⟩ ∧ (a1 = some ⟨g, 0, none⟩ ∨ g = ((w3.setCell ⟨wr.heap.size, 2, none⟩ (.slice pa (placed L s.args).length pc)).alloc (.cells (SP.cs (SP.mk (s.with (placed L s.args)) ⟨pa, pc, sn, snc, sd, sdc⟩)).toArray 47)).heap.size) := by simpa using hx4
            rcases List.mem_append.1 hq with hq | hq
            · exact HR.out q hq V hV (hN.back HBW.out hg4 hx4')
            · simp at hq
              subst hq
              have hNf : New wz.heap.size (w3.setCell ⟨wr.heap.size, 2, none⟩ (.slice pa (placed L s.args).length pc)) V := hN.fresh (B' := wz.heap.size) (by omega) (Below.alloc (Below.refl _ _) (Nat.le_refl _) _) hg4 hx4' (fun g e => Nat.lt_of_lt_of_le (HO.out.lt e).2 (by omega))
              replace hNf := hNf.unset (by simpa using hsz')
              exact ⟨⟨hop.readsV hNf (placed_in L s.args (by omega)), HPS.out.2.1.ext hV, HPS.out.2.2.ext hV⟩, HKI.out.1, HKI.out.2⟩
          · rw [List.map_append, HMAP.out, prunedSteps_take HX.out HSS.out]
            rfl
        case measure => have := HKN.out; omega
      · obtain rfl : k = L.length := by have := HKN.out; omega
        obtain ⟨f0, f1, f2, f3, f4⟩ := HC.out.ext (Ext.below hwr)
        dsimp only at f0 f1 f2 f3 f4
        have z1 := hzr.cell 1
        have hzl := hzr.lt
        go_wp2_with fail
        have hbz : Below wr.heap.size wr (wr.alloc (.cells #[.int .i64 kind, .slice aa args.length ac, .bool neg, .slice na num.length nc, .slice da den.length dc] 39)) := by go_grown
        have hxz := Blk.new wr 39 #[.int .i64 kind, .slice aa args.length ac, .bool neg, .slice na num.length nc, .slice da den.length dc]
        revert hbz hxz
        generalize wr.alloc (.cells #[.int .i64 kind, .slice aa args.length ac, .bool neg, .slice na num.length nc, .slice da den.length dc] 39) = wz
        intro hbz hxz
        have hbrz := below_then hbr hbz
        have hwz := below_then hwr hbz
        clear f0 f1 f2 f3 f4 z1 hzl
        refine (movedF_any L args n6 _ lc _ ac wz (h6r.below' hbz) (hlN.out.ext (Ext.below hbrz)) (HPA.out.ext (Ext.below hwz)) (by omega)).mono ?_
        rintro r w5 ⟨pa, pc, rfl, hop, hb5⟩
        have hx5 := hxz.below' hb5
        have c0 := hx5.cell 0; have c1' := hx5.cell 1; have c2 := hx5.cell 2; have c3 := hx5.cell 3; have c4 := hx5.cell 4
        have m1 := hx5.frozen 1
        have hb05 : Below wr.heap.size wr w5 := below_then hbz hb5
        have hs5 : wr.heap.size < w5.heap.size := hx5.lt
        have hy5 := hyr.below' hb05
        have y0 := hy5.cell 0; have y1 := hy5.cell 1; have my1 := hy5.frozen 1
        have hr5 := hrr.below' hb05
        have r0 := hr5.cell 0; have r1 := hr5.cell 1; have g0 := hr5.frozen 0; have g1 := hr5.frozen 1
        have hle1 : w.heap.size + 1 < wN.heap.size := by omega
        have ho5 := HO.out.below hb05
        have hw5 := below_then hwr hb05
        have HO5 := Lib.hid ho5
        have hf6 := hbz.size
        have hl5 : wN.heap.size < w5.heap.size := by omega
        have hl6 : w.heap.size + 1 < w5.heap.size := by omega
        clear ho5
        go_wp2
        have hb5A : Below wr.heap.size wr (w5.setCell ⟨wr.heap.size, 1, none⟩ (.slice pa (placed L args).length pc)) := hb05.setCell (Nat.le_refl _) _
        have hgF := Blk.new ((((w5.setCell ⟨wr.heap.size, 1, none⟩ (.slice pa (placed L args).length pc)).setCell ⟨wN.heap.size, 1, none⟩ (.slice (some ⟨w5.heap.size, 0, none⟩) 1 1)).setCell ⟨w.heap.size + 1, 0, none⟩ (.slice a1 l.length c1)).setCell ⟨w.heap.size + 1, 1, none⟩ (.slice (some ⟨w5.heap.size, 0, none⟩) 1 1)) 39 #[.int .i64 kind, .slice pa (placed L args).length pc, .bool neg, .slice na num.length nc, .slice da den.length dc]
        rw [show ((((w5.setCell ⟨wr.heap.size, 1, none⟩ (.slice pa (placed L args).length pc)).setCell ⟨wN.heap.size, 1, none⟩ (.slice (some ⟨w5.heap.size, 0, none⟩) 1 1)).setCell ⟨w.heap.size + 1, 0, none⟩ (.slice a1 l.length c1)).setCell ⟨w.heap.size + 1, 1, none⟩ (.slice (some ⟨w5.heap.size, 0, none⟩) 1 1)).heap.size = w5.heap.size by simp] at hgF
        have hrF := ((((hr5.far (p := ⟨wr.heap.size, 1, none⟩) (by simp; omega) (.slice pa (placed L args).length pc)).far (p := ⟨wN.heap.size, 1, none⟩) (by simp; omega) (.slice (some ⟨w5.heap.size, 0, none⟩) 1 1)).set_ 0 (.slice a1 l.length c1)).set_ 1 (.slice (some ⟨w5.heap.size, 0, none⟩) 1 1)).alloc (.cells #[.int .i64 kind, .slice pa (placed L args).length pc, .bool neg, .slice na num.length nc, .slice da den.length dc] 39)
        have hoF := ((((HO.out.below hb5A).far (p := ⟨wN.heap.size, 1, none⟩) (Nat.lt_succ_self _) (.slice (some ⟨w5.heap.size, 0, none⟩) 1 1)).far (p := ⟨w.heap.size + 1, 0, none⟩) (by simp; omega) (.slice a1 l.length c1)).far (p := ⟨w.heap.size + 1, 1, none⟩) (by simp; omega) (.slice (some ⟨w5.heap.size, 0, none⟩) 1 1)).alloc (.cells #[.int .i64 kind, .slice pa (placed L args).length pc, .bool neg, .slice na num.length nc, .slice da den.length dc] 39)
        have hwF := ((((below_then hwr hb5A).setCell (p := ⟨wN.heap.size, 1, none⟩) (by simp; omega) (.slice (some ⟨w5.heap.size, 0, none⟩) 1 1)).setCell (p := ⟨w.heap.size + 1, 0, none⟩) (by simp) (.slice a1 l.length c1)).setCell (p := ⟨w.heap.size + 1, 1, none⟩) (by simp) (.slice (some ⟨w5.heap.size, 0, none⟩) 1 1)).alloc (by simp; omega) (.cells #[.int .i64 kind, .slice pa (placed L args).length pc, .bool neg, .slice na num.length nc, .slice da den.length dc] 39)
        have hNF : ∀ V, New (wN.heap.size + 1) (((((w5.setCell ⟨wr.heap.size, 1, none⟩ (.slice pa (placed L args).length pc)).setCell ⟨wN.heap.size, 1, none⟩ (.slice (some ⟨w5.heap.size, 0, none⟩) 1 1)).setCell ⟨w.heap.size + 1, 0, none⟩ (.slice a1 l.length c1)).setCell ⟨w.heap.size + 1, 1, none⟩ (.slice (some ⟨w5.heap.size, 0, none⟩) 1 1)).alloc (.cells #[.int .i64 kind, .slice pa (placed L args).length pc, .bool neg, .slice na num.length nc, .slice da den.length dc] 39)) V → New (wN.heap.size + 1) (w5.setCell ⟨wr.heap.size, 1, none⟩ (.slice pa (placed L args).length pc)) V := fun V h => ((h.unalloc.unset (by simp; omega)).unset (by simp; omega)).unset (Nat.lt_succ_self _)
        revert hrF hoF hgF hwF hNF
        generalize (((((w5.setCell ⟨wr.heap.size, 1, none⟩ (.slice pa (placed L args).length pc)).setCell ⟨wN.heap.size, 1, none⟩ (.slice (some ⟨w5.heap.size, 0, none⟩) 1 1)).setCell ⟨w.heap.size + 1, 0, none⟩ (.slice a1 l.length c1)).setCell ⟨w.heap.size + 1, 1, none⟩ (.slice (some ⟨w5.heap.size, 0, none⟩) 1 1)).alloc (.cells #[.int .i64 kind, .slice pa (placed L args).length pc, .bool neg, .slice na num.length nc, .slice da den.length dc] 39)) = wf
        intro hgF hrF hoF hwF hNF
        simp at hrF
        have e0 := hrF.cell 0; have e1 := hrF.cell 1
        simp only [List.getElem?_toArray, List.getElem?_cons_zero, List.getElem?_cons_succ] at e0 e1
        have hmap2 := HMAP.out
        rw [List.take_of_length_le (Nat.le_refl _)] at hmap2
        have hlen2 : (prunedSteps steps L L).length = l.length := by rw [← hmap2, List.length_map]
        refine bodyPost_ret (v := .tuple #[.agg #[.slice a1 l.length c1, .slice (some ⟨w5.heap.size, 0, none⟩) 1 1], .int .i64 0]) (by simp [results, Try.results5, go_sem, e0, e1]) rfl ?_
        refine ⟨a1, c1, some ⟨w5.heap.size, 0, none⟩, 1, by simp [Fig.val, hlen2], hwF, fun V hV hN => ⟨?_, ?_⟩⟩
        · show StepsR V a1 c1 (prunedSteps steps L L)
          rw [← hmap2]
          have hNV := hN.base (B' := wN.heap.size + 1) (by omega)
          exact OwnSt.readsIn hoF hNV (fun q hq => HR.out q hq V hV (((hNF V hNV).below hb5A).but a1))
        · have hNV := hN.base (B' := wN.heap.size + 1) (by omega)
          have hNz : New wz.heap.size w5 V := ((hNF V hNV).base (by omega)).unset (p := ⟨wr.heap.size, 1, none⟩) (show wr.heap.size < wz.heap.size from hxz.lt)
          refine fct_one (p := ⟨pa, pc, na, nc, da, dc⟩) ⟨?_, ?_, ?_, ?_, ?_⟩ ⟨hop.readsV hNz (placed_in L args (by omega)), HPN.out.ext hV, HPD.out.ext hV⟩ HGK.out
          · exact hN _ _ (by simp; omega) (hgF.cell 0)
          · exact hN _ _ (by simp; omega) (hgF.cell 1)
          · exact hN _ _ (by simp; omega) (hgF.cell 2)
          · exact hN _ _ (by simp; omega) (hgF.cell 3)
          · exact hN _ _ (by simp; omega) (hgF.cell 4)
  · skip
    refine wpMT_l rfl rfl (fun K hK => ?_)
    go_simp
    refine hK.out _ _ (s0.alloc s0.size _) (fun _ => ?_)
    clear hK K
    have s1 : Below w0.heap.size w0 (w0.alloc (.cells #[.slice none 0 0] 30)).drew := ((Below.refl _ _).alloc (Nat.le_refl _) _).drew
    refine wpMT_l rfl rfl (fun K hK => ?_)
    go_simp
    refine (CN.out _ (below_then hb0 s1)).mono ?_
    rintro r w1 ⟨la, lc, rfl, hoL, hb1⟩
    dsimp only
    refine hK.out _ _ (below_then s1 hb1) (fun _ => ?_)
    clear hK K
    have hn6 := (show Blk (w0.alloc (.cells #[.slice none 0 0] 30)).drew w0.heap.size 30 #[.slice none 0 0] from Blk.new w0 30 #[.slice none 0 0]).below' hb1
    have n0 := hn6.cell 0
    have m0 := hn6.frozen 0
    refine wpMT_t rfl rfl (fun K hK => ?_)
    go_simp
    refine hK.out _ _ ?_
    clear hK K
    refine wpMT_nil ?_
    have hbN := (below_then s1 hb1).setCell (p := ⟨w0.heap.size, 0, none⟩) (Nat.le_refl _) (.slice la L.length lc)
    have h6 : Blk (w1.setCell ⟨w0.heap.size, 0, none⟩ (.slice la L.length lc)) w0.heap.size 30 #[.slice la L.length lc] := hn6.set_ 0 (.slice la L.length lc)
    have hlN : IntsR (w1.setCell ⟨w0.heap.size, 0, none⟩ (.slice la L.length lc)) la lc L := OwnI.reads1 (hoL.far (p := ⟨w0.heap.size, 0, none⟩) (by simp) _) (fun x hx => by have := HIN.out x hx; constructor <;> omega)
    clear hoL hb1 s1 hn6 n0 m0
    revert hbN h6 hlN
    generalize w1.setCell ⟨w0.heap.size, 0, none⟩ (.slice la L.length lc) = wN
    intro hbN h6 hlN
    obtain ⟨n6, hn6e⟩ : ∃ n, n = w0.heap.size := ⟨_, rfl⟩
    rw [← hn6e] at h6
    rw [← hn6e]
    have hn6 : w0.heap.size ≤ n6 := by omega
    replace hn6e := Lib.hid hn6e
    replace hlN := Lib.hid hlN
    have hwN := below_then hb0 hbN
    have hzN := hz.below' hbN
    have hrN := hr.below' hbN
    have hsN := hbN.size
    have h6l := h6.lt
    clear z0 z1 d1 s0 hz hr hb0 hbN CN
    have hy := Blk.new wN 25 #[.slice none 0 0, .slice none 0 0]
    have hb2 : Below wN.heap.size wN (wN.alloc (.cells #[.slice none 0 0, .slice none 0 0] 25)) := by go_grown
    have e6 := h6.cell 0
    go_wp2
    revert hy hb2
    generalize wN.alloc (.cells #[.slice none 0 0, .slice none 0 0] 25) = w2
    intro hy hb2
    go_loopg [10, 11, 34] L.length (fun n _ _ q wr => ∃ (k : Nat) (l : List SP) (a1 : Option Addr) (c1 : Nat), k + n = L.length ∧ q = .int .i64 k ∧ Below wN.heap.size wN wr ∧ Blk wr wN.heap.size 25 #[.slice a1 l.length c1, .slice none 0 0] ∧
      OwnSt (wN.heap.size + 1) wr a1 c1 l ∧ (∀ q ∈ l, ∀ V, Ext w V → NewBut (wN.heap.size + 1) a1 wr V → q.R V) ∧ l.map SP.s = prunedSteps steps L (L.take k) ∧ l.length = k)
    case atStart => exact ⟨0, [], none, 0, by omega, rfl, hb2, hy, Own.nil, by simp, rfl, rfl⟩
    case round =>
      obtain ⟨k, l, a1, c1, hkn, rfl, hbr, hyr, ho, hR, hmap, hll⟩ := hrel
      have hwr := below_then hwN hbr
      have hzr := hzN.below' hbr
      have hrr := hrN.below' hbr
      have h6r := h6.below' hbr
      have HKN := Lib.hid hkn
      have HR := Lib.hid hR
      have HMAP := Lib.hid hmap
      have HLL := Lib.hid hll
      have HO := Lib.hid ho
      have hsr := hbr.size
      have hyl := hyr.lt
      clear hkn hR hmap hll ho hy hb2 e6
      by_cases hlt : k < L.length
      · obtain ⟨x, hx⟩ := get_of_lt hlt
        obtain ⟨bl, ol, rfl, hcx⟩ := (hlN.out.ext (Ext.below hbr)).2.2 k x hx
        have hcx1 : wr.cell? ⟨bl, ol + k, none⟩ = some (.int .i64 x) := by simpa using hcx.1
        obtain ⟨hx0, hx1⟩ := HIN.out x (List.mem_of_getElem? hx)
        obtain ⟨s, hs⟩ := get_of_lt (xs := steps) (k := x.toNat) (by omega)
        obtain ⟨bs, os, rfl, ⟨sa1, sc1, sn, snc, sd, sdc⟩, hCs, hPs, hki, hpt⟩ := HS.out.2.2 x.toNat s hs
        obtain ⟨q0, q1, q2, q3, q4, q5⟩ := hCs.ext (Ext.below hwr)
        have HX := Lib.hid hx
        have HSS := Lib.hid hs
        have HPS := Lib.hid hPs
        have HKI := Lib.hid (And.intro hki hpt)
        have z0 := hzr.cell 0
        have hzl := hzr.lt
        dsimp only at q0 q1 q2 q3 q4 q5
        have hal1 := HAL.out s (List.mem_of_getElem? hs)
        clear hx hs hCs hPs hki hpt hcx
        go_wp2_with fail
        have hbz : Below wr.heap.size wr (wr.alloc (.cells #[.int .i64 s.kind, .string s.point, .slice sa1 s.args.length sc1, .bool s.ratio.neg, .slice sn s.ratio.num.length snc, .slice sd s.ratio.den.length sdc] 47)) := by go_grown
        have hxz := Blk.new wr 47 #[.int .i64 s.kind, .string s.point, .slice sa1 s.args.length sc1, .bool s.ratio.neg, .slice sn s.ratio.num.length snc, .slice sd s.ratio.den.length sdc]
        have hsz : (wr.alloc (.cells #[.int .i64 s.kind, .string s.point, .slice sa1 s.args.length sc1, .bool s.ratio.neg, .slice sn s.ratio.num.length snc, .slice sd s.ratio.den.length sdc] 47)).heap.size = wr.heap.size + 1 := by simp
        revert hbz hxz hsz
        generalize wr.alloc (.cells #[.int .i64 s.kind, .string s.point, .slice sa1 s.args.length sc1, .bool s.ratio.neg, .slice sn s.ratio.num.length snc, .slice sd s.ratio.den.length sdc] 47) = wz
        intro hbz hxz hsz
        have hsz' : wr.heap.size < wz.heap.size := by omega
        have HSZ := Lib.hid hsz
        have hbrz := below_then hbr hbz
        have hwz := below_then hwr hbz
        clear q0 q1 q2 q3 q4 q5 z0 hzl hsz
        refine (movedF_any L s.args n6 _ lc _ sc1 wz (h6r.below' hbz) (hlN.out.ext (Ext.below hbrz)) (HPS.out.1.ext (Ext.below hwz)) (by omega)).mono ?_
        rintro r w3 ⟨pa, pc, rfl, hop, hb3⟩
        have hx3 := hxz.below' hb3
        have c0 := hx3.cell 0; have c1' := hx3.cell 1; have c2 := hx3.cell 2; have c3 := hx3.cell 3; have c4' := hx3.cell 4; have c5 := hx3.cell 5
        have m2 := hx3.frozen 2
        have hb03 : Below wr.heap.size wr w3 := below_then hbz hb3
        have hs3 := hb3.size
        have hy3 := hyr.below' hb03
        have y0 := hy3.cell 0
        have hbW : Below wr.heap.size wr ((w3.setCell ⟨wr.heap.size, 2, none⟩ (.slice pa (placed L s.args).length pc)).alloc (.cells (SP.cs (SP.mk (s.with (placed L s.args)) ⟨pa, pc, sn, snc, sd, sdc⟩)).toArray 47)) := (hb03.setCell (Nat.le_refl _) _).alloc (by simp; omega) _
        have ho5 := HO.out.below hbW
        have hyW := hyr.below' hbW
        have HO5 := Lib.hid ho5
        have HYW := Lib.hid hyW
        have HBW := Lib.hid hbW
        have hcell : ∀ j u, (SP.cs (SP.mk (s.with (placed L s.args)) ⟨pa, pc, sn, snc, sd, sdc⟩))[j]? = some u → ((w3.setCell ⟨wr.heap.size, 2, none⟩ (.slice pa (placed L s.args).length pc)).alloc (.cells (SP.cs (SP.mk (s.with (placed L s.args)) ⟨pa, pc, sn, snc, sd, sdc⟩)).toArray 47)).cell? ⟨w3.heap.size, j, none⟩ = some u := by
          intro j u hu
          have e1 := (Blk.new (w3.setCell ⟨wr.heap.size, 2, none⟩ (.slice pa (placed L s.args).length pc)) 47 (SP.cs (SP.mk (s.with (placed L s.args)) ⟨pa, pc, sn, snc, sd, sdc⟩)).toArray).cell j
          rw [show (w3.setCell ⟨wr.heap.size, 2, none⟩ (.slice pa (placed L s.args).length pc)).heap.size = w3.heap.size by simp] at e1
          simp only [List.getElem?_toArray] at e1
          exact e1.trans hu
        have HCELL := Lib.hid hcell
        clear ho5 hyW hbW hcell
        go_wp2_with (at_builtin; go_must (refine append_step rfl (.tmp 49) (.tmp 51) rfl a1 c1 rfl HO5.out (SP.mk (s.with (placed L s.args)) ⟨pa, pc, sn, snc, sd, sdc⟩) w3.heap.size 1 rfl (fun j u hu => HCELL.out j u hu) (l ++ [(SP.mk (s.with (placed L s.args)) ⟨pa, pc, sn, snc, sd, sdc⟩)]) rfl (by have := HLL.out; simp; omega) (by simp; omega) ?_); intro a4 c4 w4 ho4 hg4 hx4; have hy4 := HYW.out.under HO5.out (Nat.lt_succ_self _) hg4; have hc4 := hy4.cell 0; have hf4 := hy4.frozen 0)
        have hwz4 : Below wN.heap.size wN (w4.setCell ⟨wN.heap.size, 0, none⟩ (.slice a4 (l ++ [(SP.mk (s.with (placed L s.args)) ⟨pa, pc, sn, snc, sd, sdc⟩)]).length c4)) := (below_append' (below_then hbr HBW.out) (Own.base HO5.out (Nat.le_succ _)) hg4).setCell (Nat.le_refl _) _
        have hs4 := hy4.set_ 0 (.slice a4 (l ++ [(SP.mk (s.with (placed L s.args)) ⟨pa, pc, sn, snc, sd, sdc⟩)]).length c4)
        have hof := ho4.far (p := ⟨wN.heap.size, 0, none⟩) (Nat.lt_succ_self _) (.slice a4 (l ++ [(SP.mk (s.with (placed L s.args)) ⟨pa, pc, sn, snc, sd, sdc⟩)]).length c4)
        simp only [List.length_append, List.length_cons, List.length_nil, Nat.zero_add] at hwz4 hs4 hof
        go_roundg (gk - 1)
        case rel =>
          refine ⟨k + 1, _, a4, c4, by have := HKN.out; omega, by go_num, hwz4, by simpa using hs4, hof, ?_, ?_, by have := HLL.out; simp; omega⟩
          · intro q hq V hV hN
            replace hN := hN.unset (Nat.lt_succ_self _)
            have hx4' : ∃ g, a4 = some ⟨g, 0, none⟩ ∧ (a1 = some ⟨g, 0, none⟩ ∨ g = ((w3.setCell ⟨wr.heap.size, 2, none⟩ (.slice pa (placed L s.args).length pc)).alloc (.cells (SP.cs (SP.mk (s.with (placed L s.args)) ⟨pa, pc, sn, snc, sd, sdc⟩)).toArray 47)).heap.size) := by simpa using hx4
            rcases List.mem_append.1 hq with hq | hq
            · exact HR.out q hq V hV (hN.back HBW.out hg4 hx4')
            · simp at hq
              subst hq
              have hNf : New wz.heap.size (w3.setCell ⟨wr.heap.size, 2, none⟩ (.slice pa (placed L s.args).length pc)) V := hN.fresh (B' := wz.heap.size) (by omega) (Below.alloc (Below.refl _ _) (Nat.le_refl _) _) hg4 hx4' (fun g e => Nat.lt_of_lt_of_le (HO.out.lt e).2 (by omega))
              replace hNf := hNf.unset (by simpa using hsz')
              exact ⟨⟨hop.readsV hNf (placed_in L s.args (by omega)), HPS.out.2.1.ext hV, HPS.out.2.2.ext hV⟩, HKI.out.1, HKI.out.2⟩
          · rw [List.map_append, HMAP.out, prunedSteps_take HX.out HSS.out]
            rfl
        case measure => have := HKN.out; omega
      · obtain rfl : k = L.length := by have := HKN.out; omega
        obtain ⟨f0, f1, f2, f3, f4⟩ := HC.out.ext (Ext.below hwr)
        dsimp only at f0 f1 f2 f3 f4
        have z1 := hzr.cell 1
        have hzl := hzr.lt
        go_wp2_with fail
        have hbz : Below wr.heap.size wr (wr.alloc (.cells #[.int .i64 kind, .slice aa args.length ac, .bool neg, .slice na num.length nc, .slice da den.length dc] 39)) := by go_grown
        have hxz := Blk.new wr 39 #[.int .i64 kind, .slice aa args.length ac, .bool neg, .slice na num.length nc, .slice da den.length dc]
        revert hbz hxz
        generalize wr.alloc (.cells #[.int .i64 kind, .slice aa args.length ac, .bool neg, .slice na num.length nc, .slice da den.length dc] 39) = wz
        intro hbz hxz
        have hbrz := below_then hbr hbz
        have hwz := below_then hwr hbz
        clear f0 f1 f2 f3 f4 z1 hzl
        refine (movedF_any L args n6 _ lc _ ac wz (h6r.below' hbz) (hlN.out.ext (Ext.below hbrz)) (HPA.out.ext (Ext.below hwz)) (by omega)).mono ?_
        rintro r w5 ⟨pa, pc, rfl, hop, hb5⟩
        have hx5 := hxz.below' hb5
        have c0 := hx5.cell 0; have c1' := hx5.cell 1; have c2 := hx5.cell 2; have c3 := hx5.cell 3; have c4 := hx5.cell 4
        have m1 := hx5.frozen 1
        have hb05 : Below wr.heap.size wr w5 := below_then hbz hb5
        have hs5 : wr.heap.size < w5.heap.size := hx5.lt
        have hy5 := hyr.below' hb05
        have y0 := hy5.cell 0; have y1 := hy5.cell 1; have my1 := hy5.frozen 1
        have hr5 := hrr.below' hb05
        have r0 := hr5.cell 0; have r1 := hr5.cell 1; have g0 := hr5.frozen 0; have g1 := hr5.frozen 1
        have hle1 : w.heap.size + 1 < wN.heap.size := by omega
        have ho5 := HO.out.below hb05
        have hw5 := below_then hwr hb05
        have HO5 := Lib.hid ho5
        have hf6 := hbz.size
        have hl5 : wN.heap.size < w5.heap.size := by omega
        have hl6 : w.heap.size + 1 < w5.heap.size := by omega
        clear ho5
        go_wp2
        have hb5A : Below wr.heap.size wr (w5.setCell ⟨wr.heap.size, 1, none⟩ (.slice pa (placed L args).length pc)) := hb05.setCell (Nat.le_refl _) _
        have hgF := Blk.new ((((w5.setCell ⟨wr.heap.size, 1, none⟩ (.slice pa (placed L args).length pc)).setCell ⟨wN.heap.size, 1, none⟩ (.slice (some ⟨w5.heap.size, 0, none⟩) 1 1)).setCell ⟨w.heap.size + 1, 0, none⟩ (.slice a1 l.length c1)).setCell ⟨w.heap.size + 1, 1, none⟩ (.slice (some ⟨w5.heap.size, 0, none⟩) 1 1)) 39 #[.int .i64 kind, .slice pa (placed L args).length pc, .bool neg, .slice na num.length nc, .slice da den.length dc]
        rw [show ((((w5.setCell ⟨wr.heap.size, 1, none⟩ (.slice pa (placed L args).length pc)).setCell ⟨wN.heap.size, 1, none⟩ (.slice (some ⟨w5.heap.size, 0, none⟩) 1 1)).setCell ⟨w.heap.size + 1, 0, none⟩ (.slice a1 l.length c1)).setCell ⟨w.heap.size + 1, 1, none⟩ (.slice (some ⟨w5.heap.size, 0, none⟩) 1 1)).heap.size = w5.heap.size by simp] at hgF
        have hrF := ((((hr5.far (p := ⟨wr.heap.size, 1, none⟩) (by simp; omega) (.slice pa (placed L args).length pc)).far (p := ⟨wN.heap.size, 1, none⟩) (by simp; omega) (.slice (some ⟨w5.heap.size, 0, none⟩) 1 1)).set_ 0 (.slice a1 l.length c1)).set_ 1 (.slice (some ⟨w5.heap.size, 0, none⟩) 1 1)).alloc (.cells #[.int .i64 kind, .slice pa (placed L args).length pc, .bool neg, .slice na num.length nc, .slice da den.length dc] 39)
        have hoF := ((((HO.out.below hb5A).far (p := ⟨wN.heap.size, 1, none⟩) (Nat.lt_succ_self _) (.slice (some ⟨w5.heap.size, 0, none⟩) 1 1)).far (p := ⟨w.heap.size + 1, 0, none⟩) (by simp; omega) (.slice a1 l.length c1)).far (p := ⟨w.heap.size + 1, 1, none⟩) (by simp; omega) (.slice (some ⟨w5.heap.size, 0, none⟩) 1 1)).alloc (.cells #[.int .i64 kind, .slice pa (placed L args).length pc, .bool neg, .slice na num.length nc, .slice da den.length dc] 39)
        have hwF := ((((below_then hwr hb5A).setCell (p := ⟨wN.heap.size, 1, none⟩) (by simp; omega) (.slice (some ⟨w5.heap.size, 0, none⟩) 1 1)).setCell (p := ⟨w.heap.size + 1, 0, none⟩) (by simp) (.slice a1 l.length c1)).setCell (p := ⟨w.heap.size + 1, 1, none⟩) (by simp) (.slice (some ⟨w5.heap.size, 0, none⟩) 1 1)).alloc (by simp; omega) (.cells #[.int .i64 kind, .slice pa (placed L args).length pc, .bool neg, .slice na num.length nc, .slice da den.length dc] 39)
        have hNF : ∀ V, New (wN.heap.size + 1) (((((w5.setCell ⟨wr.heap.size, 1, none⟩ (.slice pa (placed L args).length pc)).setCell ⟨wN.heap.size, 1, none⟩ (.slice (some ⟨w5.heap.size, 0, none⟩) 1 1)).setCell ⟨w.heap.size + 1, 0, none⟩ (.slice a1 l.length c1)).setCell ⟨w.heap.size + 1, 1, none⟩ (.slice (some ⟨w5.heap.size, 0, none⟩) 1 1)).alloc (.cells #[.int .i64 kind, .slice pa (placed L args).length pc, .bool neg, .slice na num.length nc, .slice da den.length dc] 39)) V → New (wN.heap.size + 1) (w5.setCell ⟨wr.heap.size, 1, none⟩ (.slice pa (placed L args).length pc)) V := fun V h => ((h.unalloc.unset (by simp; omega)).unset (by simp; omega)).unset (Nat.lt_succ_self _)
        revert hrF hoF hgF hwF hNF
        generalize (((((w5.setCell ⟨wr.heap.size, 1, none⟩ (.slice pa (placed L args).length pc)).setCell ⟨wN.heap.size, 1, none⟩ (.slice (some ⟨w5.heap.size, 0, none⟩) 1 1)).setCell ⟨w.heap.size + 1, 0, none⟩ (.slice a1 l.length c1)).setCell ⟨w.heap.size + 1, 1, none⟩ (.slice (some ⟨w5.heap.size, 0, none⟩) 1 1)).alloc (.cells #[.int .i64 kind, .slice pa (placed L args).length pc, .bool neg, .slice na num.length nc, .slice da den.length dc] 39)) = wf
        intro hgF hrF hoF hwF hNF
        simp at hrF
        have e0 := hrF.cell 0; have e1 := hrF.cell 1
        simp only [List.getElem?_toArray, List.getElem?_cons_zero, List.getElem?_cons_succ] at e0 e1
        have hmap2 := HMAP.out
        rw [List.take_of_length_le (Nat.le_refl _)] at hmap2
        have hlen2 : (prunedSteps steps L L).length = l.length := by rw [← hmap2, List.length_map]
        refine bodyPost_ret (v := .tuple #[.agg #[.slice a1 l.length c1, .slice (some ⟨w5.heap.size, 0, none⟩) 1 1], .int .i64 0]) (by simp [results, Try.results5, go_sem, e0, e1]) rfl ?_
        refine ⟨a1, c1, some ⟨w5.heap.size, 0, none⟩, 1, by simp [Fig.val, hlen2], hwF, fun V hV hN => ⟨?_, ?_⟩⟩
        · show StepsR V a1 c1 (prunedSteps steps L L)
          rw [← hmap2]
          have hNV := hN.base (B' := wN.heap.size + 1) (by omega)
          exact OwnSt.readsIn hoF hNV (fun q hq => HR.out q hq V hV (((hNF V hNV).below hb5A).but a1))
        · have hNV := hN.base (B' := wN.heap.size + 1) (by omega)
          have hNz : New wz.heap.size w5 V := ((hNF V hNV).base (by omega)).unset (p := ⟨wr.heap.size, 1, none⟩) (show wr.heap.size < wz.heap.size from hxz.lt)
          refine fct_one (p := ⟨pa, pc, na, nc, da, dc⟩) ⟨?_, ?_, ?_, ?_, ?_⟩ ⟨hop.readsV hNz (placed_in L args (by omega)), HPN.out.ext hV, HPD.out.ext hV⟩ HGK.out
          · exact hN _ _ (by simp; omega) (hgF.cell 0)
          · exact hN _ _ (by simp; omega) (hgF.cell 1)
          · exact hN _ _ (by simp; omega) (hgF.cell 2)
          · exact hN _ _ (by simp; omega) (hgF.cell 3)
          · exact hN _ _ (by simp; omega) (hgF.cell 4)
end Go.Proofs.YtgbnadckhjfebaaRR
