/- Walks: two figures that read alike are the same, by the reference. -/
import Derived.Test.YtmlldjcbijoheaaFigA
import Derived.Test.YtmlldjcbijoheaaRegion
import Derived.Deep.LoopGhost
namespace Go.Proofs.Ytmlldjcbijoheaa
open Go.RowKit

set_option maxHeartbeats 400000 in
theorem sameNat14_eq (xs : List Int) (a a' : Option Addr) (c c' : Nat) (w : World) (h : NatR w a c xs) (h' : NatR w a' c' xs) :
    Calls Try.prog 117 #[.slice a xs.length c, .slice a' xs.length c'] w fun r w' => r = .returned (.bool true) ∧ Below w.heap.size w w' := by
  have H := Lib.hid h
  have H' := Lib.hid h'
  have hl := h.len
  clear h h'
  go_enter Try.func117, Try.ntmps117
  go_wp2
  go_loopw [5, 13] (fun _ i wr => ∃ k : Nat, k ≤ xs.length ∧ i = .int .i64 k ∧ Below w.heap.size w wr) (fun _ i _ => xs.length - (intOf i).toNat)
  case atStart => exact ⟨0, by omega, rfl, Below.refl _ _⟩
  case round =>
    obtain ⟨k, hk, rfl, hb⟩ := hrel
    by_cases hlt : k < xs.length
    · obtain ⟨x, hx⟩ := get_of_lt hlt
      obtain ⟨b, off, rfl, hE⟩ := H.out.2.2 k x hx
      obtain ⟨b', off', rfl, hE'⟩ := H'.out.2.2 k x hx
      have hc : wr.cell? ⟨b, off + k, none⟩ = some (.int .u16 x) := by have := (hE.ext (Ext.below hb)).1; simpa using this
      have hc' : wr.cell? ⟨b', off' + k, none⟩ = some (.int .u16 x) := by have := (hE'.ext (Ext.below hb)).1; simpa using this
      clear hx hE hE'
      go_wp2
      go_quiet (fail)
      go_wp2
      refine ⟨⟨k + 1, by omega, by go_num, below_drewN hb _⟩, by simp [intOf]; omega⟩
    · go_wp2
      go_ret
      exact ⟨rfl, hb⟩
set_option maxRecDepth 100000 in
set_option maxHeartbeats 1000000 in
theorem sameRat14_eq (r : Rt) (na : Option Addr) (nc : Nat) (da : Option Addr) (dc : Nat) (na' : Option Addr) (nc' : Nat) (da' : Option Addr) (dc' : Nat) (w : World) (h1 : NatR w na nc r.num) (h2 : NatR w da dc r.den) (h3 : NatR w na' nc' r.num) (h4 : NatR w da' dc' r.den) :
    Calls Try.prog 96 #[r.val na nc da dc, r.val na' nc' da' dc'] w fun e w' => e = .returned (.bool true) ∧ Below w.heap.size w w' := by
  obtain ⟨neg, num, den⟩ := r
  unfold Rt.val
  dsimp only at h1 h2 h3 h4 ⊢
  have C1 := fun W (hW : Below w.heap.size w W) => sameNat14_eq num na na' nc nc' W (h1.ext (Ext.below hW)) (h3.ext (Ext.below hW))
  have C2 := fun W (hW : Below w.heap.size w W) => sameNat14_eq den da da' dc dc' W (h2.ext (Ext.below hW)) (h4.ext (Ext.below hW))
  replace C1 := Lib.hid C1; replace C2 := Lib.hid C2
  clear h1 h2 h3 h4
  have hz := (Blk.new w 37 #[.bool neg, .slice na num.length nc, .slice da den.length dc]).alloc (.cells #[.bool neg, .slice na' num.length nc', .slice da' den.length dc'] 37)
  have hy := blk_at1 w (.cells #[.bool neg, .slice na num.length nc, .slice da den.length dc] 37) 37 #[.bool neg, .slice na' num.length nc', .slice da' den.length dc']
  have hb0 : Below w.heap.size w ((w.alloc (.cells #[.bool neg, .slice na num.length nc, .slice da den.length dc] 37)).alloc (.cells #[.bool neg, .slice na' num.length nc', .slice da' den.length dc'] 37)) := by go_grown
  cases neg
  all_goals
    go_enter Try.func96, Try.ntmps96
    go_wp2_with fail
    revert hz hy hb0
    generalize (w.alloc (.cells _ _)).alloc (.cells _ _) = w0
    intro hz hy hb0
    refine (C1.out _ hb0).mono ?_
    rintro e w1 ⟨rfl, hb1⟩
    have hw1 := below_then hb0 hb1
    replace hz := hz.below' hb1
    replace hy := hy.below' hb1
    have z0 := hz.cell 0; have z1 := hz.cell 1; have z2 := hz.cell 2
    have y0 := hy.cell 0; have y1 := hy.cell 1; have y2 := hy.cell 2
    clear hb1 hb0
    go_wp2_with fail
    refine (C2.out _ hw1).mono ?_
    rintro e w2 ⟨rfl, hb2⟩
    have hw2 := below_then hw1 hb2
    go_wp2
    go_ret
    exact ⟨rfl, hw2⟩

set_option maxRecDepth 100000 in
set_option maxHeartbeats 1000000 in
theorem same14_eq (f : Fct) (p p' : RA) (w : World) (h : PartsR w p f.args f.ratio) (h' : PartsR w p' f.args f.ratio) :
    Calls Try.prog 64 #[f.val p.aa p.ac p.na p.nc p.da p.dc, f.val p'.aa p'.ac p'.na p'.nc p'.da p'.dc] w fun e w' => e = .returned (.bool true) ∧ Below w.heap.size w w' := by
  obtain ⟨kind, args, r⟩ := f
  obtain ⟨aa, ac, na, nc, da, dc⟩ := p
  obtain ⟨aa', ac', na', nc', da', dc'⟩ := p'
  obtain ⟨hI, hN, hD⟩ := h
  obtain ⟨hI', hN', hD'⟩ := h'
  dsimp only at hI hN hD hI' hN' hD'
  have CR := fun W (hW : Below w.heap.size w W) => sameRat14_eq r na nc da dc na' nc' da' dc' W (hN.ext (Ext.below hW)) (hD.ext (Ext.below hW)) (hN'.ext (Ext.below hW)) (hD'.ext (Ext.below hW))
  have hlen := hI.len
  obtain ⟨neg, num, den⟩ := r
  unfold Rt.val at CR
  unfold Fct.val
  dsimp only at CR ⊢
  replace CR := Lib.hid CR
  have HI := Lib.hid hI
  have HI' := Lib.hid hI'
  clear hI hN hD hI' hN' hD'
  have e1 : (kind != kind) = false := by simp
  have e2 : ((args.length : Int) != args.length) = false := by simp
  have hz := (Blk.new w 78 #[.int .i64 kind, .slice aa args.length ac, .bool neg, .slice na num.length nc, .slice da den.length dc]).alloc (.cells #[.int .i64 kind, .slice aa' args.length ac', .bool neg, .slice na' num.length nc', .slice da' den.length dc'] 78)
  have hy := blk_at1 w (.cells #[.int .i64 kind, .slice aa args.length ac, .bool neg, .slice na num.length nc, .slice da den.length dc] 78) 78 #[.int .i64 kind, .slice aa' args.length ac', .bool neg, .slice na' num.length nc', .slice da' den.length dc']
  have hb0 : Below w.heap.size w ((w.alloc (.cells #[.int .i64 kind, .slice aa args.length ac, .bool neg, .slice na num.length nc, .slice da den.length dc] 78)).alloc (.cells #[.int .i64 kind, .slice aa' args.length ac', .bool neg, .slice na' num.length nc', .slice da' den.length dc'] 78)) := by go_grown
  go_enter Try.func64, Try.ntmps64
  go_wp2_with fail
  revert hz hy hb0
  generalize (w.alloc (.cells _ _)).alloc (.cells _ _) = w0
  intro hz hy hb0
  refine (CR.out _ hb0).mono ?_
  rintro e w1 ⟨rfl, hb1⟩
  have hw1 := below_then hb0 hb1
  replace hz := hz.below' hb1
  replace hy := hy.below' hb1
  have z0 := hz.cell 0; have z1 := hz.cell 1; have z2 := hz.cell 2
  have y0 := hy.cell 0; have y1 := hy.cell 1; have y2 := hy.cell 2
  clear hb1 hb0 CR
  go_wp2
  go_loopg [5, 31] args.length (fun g _ q wr => ∃ k : Nat, k + g = args.length ∧ q = .int .i64 k ∧ Below w1.heap.size w1 wr)
  case atStart => exact ⟨0, by omega, rfl, Below.refl _ _⟩
  case round =>
    obtain ⟨k, hkg, rfl, hb⟩ := hrel
    have HKG := Lib.hid hkg
    clear hkg z0 z1 z2 y0 y1 y2
    have z1 := (hz.below' hb).cell 1
    have y1 := (hy.below' hb).cell 1
    by_cases hlt : k < args.length
    · obtain ⟨x, hx⟩ := get_of_lt hlt
      obtain ⟨b, off, rfl, hE⟩ := (HI.out.ext (Ext.below (below_then hw1 hb))).2.2 k x hx
      obtain ⟨b', off', rfl, hE'⟩ := (HI'.out.ext (Ext.below (below_then hw1 hb))).2.2 k x hx
      have hc : wr.cell? ⟨b, off + k, none⟩ = some (.int .i64 x) := by simpa using hE.1
      have hc' : wr.cell? ⟨b', off' + k, none⟩ = some (.int .i64 x) := by simpa using hE'.1
      have e3 : (x != x) = false := by simp
      clear hx hE hE'
      go_wp2
      go_quiet (fail)
      go_wp2
      go_roundg (gk - 1)
      case rel => exact ⟨k + 1, by have := HKG.out; omega, by go_num, below_drewN hb _⟩
      case measure => have := HKG.out; omega
    · go_wp2
      go_ret
      exact ⟨rfl, below_then hw1 hb⟩

set_option maxRecDepth 100000 in
set_option maxHeartbeats 2000000 in
theorem same20_eq (f : Fig) (sa : Option Addr) (sc : Nat) (ga : Option Addr) (gc : Nat) (sa' : Option Addr) (sc' : Nat) (ga' : Option Addr) (gc' : Nat) (w : World) (h : FigR w sa sc ga gc f) (h' : FigR w sa' sc' ga' gc' f) :
    Calls Try.prog 27 #[f.val sa sc ga gc, f.val sa' sc' ga' gc'] w fun e w' => e = .returned (.bool true) ∧ Below w.heap.size w w' := by
  obtain ⟨steps, goals⟩ := f
  obtain ⟨hS, hG⟩ := h
  obtain ⟨hS', hG'⟩ := h'
  dsimp only at hS hG hS' hG'
  have hl1 := hS.len
  have hl2 := hG.len
  unfold Fig.val
  dsimp only
  have HS := Lib.hid hS; have HG := Lib.hid hG; have HS' := Lib.hid hS'; have HG' := Lib.hid hG'
  clear hS hG hS' hG'
  have e1 : ((steps.length : Int) != steps.length) = false := by simp
  have e2 : ((goals.length : Int) != goals.length) = false := by simp
  have hz := (Blk.new w 25 #[.slice sa steps.length sc, .slice ga goals.length gc]).alloc (.cells #[.slice sa' steps.length sc', .slice ga' goals.length gc'] 25)
  have hy := blk_at1 w (.cells #[.slice sa steps.length sc, .slice ga goals.length gc] 25) 25 #[.slice sa' steps.length sc', .slice ga' goals.length gc']
  have hb0 : Below w.heap.size w ((w.alloc (.cells #[.slice sa steps.length sc, .slice ga goals.length gc] 25)).alloc (.cells #[.slice sa' steps.length sc', .slice ga' goals.length gc'] 25)) := by go_grown
  go_enter Try.func27, Try.ntmps27
  go_wp2
  revert hz hy hb0
  generalize (w.alloc (.cells #[.slice sa steps.length sc, .slice ga goals.length gc] 25)).alloc (.cells #[.slice sa' steps.length sc', .slice ga' goals.length gc'] 25) = w0
  intro hz hy hb0
  go_loopg [5, 6, 7, 28] steps.length (fun g _ _ _ q wr => ∃ k : Nat, k + g = steps.length ∧ q = .int .i64 k ∧ Below w0.heap.size w0 wr)
  case atStart => exact ⟨0, by omega, rfl, Below.refl _ _⟩
  case round =>
    obtain ⟨k, hkg, rfl, hb⟩ := hrel
    have HKG := Lib.hid hkg
    clear hkg
    have hzr := hz.below' hb
    have hyr := hy.below' hb
    have z0 := hzr.cell 0; have z1 := hzr.cell 1
    have y0 := hyr.cell 0; have y1 := hyr.cell 1
    have hzl := hzr.lt
    have hyl := hyr.lt
    by_cases hlt : k < steps.length
    · obtain ⟨s, hs⟩ := get_of_lt hlt
      obtain ⟨b, off, rfl, p, hC, hP, _, _⟩ := (HS.out.ext (Ext.below (below_then hb0 hb))).2.2 k s hs
      obtain ⟨b', off', rfl, p', hC', hP', _, _⟩ := (HS'.out.ext (Ext.below (below_then hb0 hb))).2.2 k s hs
      obtain ⟨c0, c1, c2, c3, c4, c5⟩ := hC
      obtain ⟨d0, d1, d2, d3, d4, d5⟩ := hC'
      have e3 : (s.point.toList != s.point.toList) = false := by simp
      have hlb := World.block_lt_of_cell? wr _ c0
      have hlb' := World.block_lt_of_cell? wr _ d0
      have hlb2 : b' < wr.heap.size + 1 := by simp at hlb'; omega
      have C := fun W (hW : Below wr.heap.size wr W) => same14_eq ⟨s.kind, s.args, s.ratio⟩ p p' W (hP.ext (Ext.below hW)) (hP'.ext (Ext.below hW))
      unfold Fct.val at C
      replace C := Lib.hid C
      clear hs hP hP'
      go_wp2_with fail
      refine (C.out _ (by go_grown)).mono ?_
      rintro e w2 ⟨rfl, hb2⟩
      have hw2 : Below w0.heap.size w0 w2 := below_then2 hb hb2
      clear hb2
      go_wp2
      go_roundg (gk - 1)
      case rel => exact ⟨k + 1, by have := HKG.out; omega, by go_num, hw2⟩
      case measure => have := HKG.out; omega
    · obtain ⟨wo, rfl⟩ : ∃ wo : World, wo = wr := ⟨_, rfl⟩
      clear HKG
      go_wp2
      go_loopg [8, 65] goals.length (fun g _ q wr => ∃ k : Nat, k + g = goals.length ∧ q = .int .i64 k ∧ Below wo.heap.size wo wr)
      case atStart => exact ⟨0, by omega, rfl, Below.refl _ _⟩
      case round =>
        obtain ⟨k2, hkg, rfl, hb2⟩ := hrel
        have HKG := Lib.hid hkg
        have hzs := hzr.below' hb2
        have hys := hyr.below' hb2
        have hw := below_then hb0 (below_then hb hb2)
        clear hkg z0 z1 y0 y1 hzr hyr hzl hyl hb
        have hzl := hzs.lt
        have hyl := hys.lt
        by_cases hlt2 : k2 < goals.length
        · obtain ⟨s, hs⟩ := get_of_lt hlt2
          obtain ⟨b, off, rfl, p, hC, hP, _⟩ := (HG.out.ext (Ext.below hw)).2.2 k2 s hs
          obtain ⟨b', off', rfl, p', hC', hP', _⟩ := (HG'.out.ext (Ext.below hw)).2.2 k2 s hs
          have C := fun W (hW : Below wr.heap.size wr W) => same14_eq s p p' W (hP.ext (Ext.below hW)) (hP'.ext (Ext.below hW))
          unfold Fct.val at C
          replace C := Lib.hid C
          have z1 := fun w' (hw' : Below wr.heap.size wr w') => (hzs.below' hw').cell 1
          have y1 := fun w' (hw' : Below wr.heap.size wr w') => (hys.below' hw').cell 1
          have c0 := held hC.1; have c1 := held hC.2.1; have c2 := held hC.2.2.1; have c3 := held hC.2.2.2.1; have c4 := held hC.2.2.2.2
          have d0 := held hC'.1; have d1 := held hC'.2.1; have d2 := held hC'.2.2.1; have d3 := held hC'.2.2.2.1; have d4 := held hC'.2.2.2.2
          clear hs hP hP' hC hC'
          have s0 : Below wr.heap.size wr wr.drew := (Below.refl _ _).drew
          go_wp2
          refine wp_region_mix (S := Below wr.heap.size wr) [(0, .q), (1, .q), (2, .q), (3, .q), (4, .q), (5, .q), (6, .q), (7, .q), (8, .q), (9, .q), (10, .t), (11, .p)] (by kernel_rfl) (by kernel_rfl) (by kernel_rfl) (fun d _ _ _ _ h => by cases d <;> exact h) (s0) ?_
          iterate 10 (refine wpMix_q rfl rfl (fun K hK => ?_); apply Exists.intro; refine ⟨fun w' hw' => ?_, ?_⟩; (focus (go_simp; try rfl)); go_simp; refine hK _ _ ?_; clear hK K)
          refine wpMix_t rfl rfl (fun K hK => ?_)
          go_simp
          refine (C.out _ s0).mono ?_
          rintro r w4 ⟨rfl, hb4⟩
          dsimp only
          refine hK.out _ _ ?_
          clear hK K
          have s4 := below_then s0 hb4
          iterate 1 (refine wpMix_p rfl rfl (fun K hK => ?_); apply Exists.intro; refine ⟨fun w' => ?_, ?_⟩; (focus (go_simp; try rfl)); go_simp; refine hK _ _ ?_; clear hK K)
          refine wpMix_nil ?_
          go_wp2
          go_roundg (gk - 1)
          case rel => exact ⟨k2 + 1, by have := HKG.out; omega, by go_num, below_then hb2 s4⟩
          case measure => have := HKG.out; omega
        · have z1 := hzs.cell 1
          have y1 := hys.cell 1
          go_wp2
          go_ret
          exact ⟨rfl, hw⟩
end Go.Proofs.Ytmlldjcbijoheaa
