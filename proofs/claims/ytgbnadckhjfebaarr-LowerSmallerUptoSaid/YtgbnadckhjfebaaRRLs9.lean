/- Walk: whether a string is a name, by the reference. -/
import Derived.Test.YtgbnadckhjfebaaRRLs5
import Derived.Test.YtgbnadckhjfebaaRRLs6
import Derived.Deep.LoopGhost
import Derived.Test.YtgbnadckhjfebaaRRLs1
import Derived.Test.YtgbnadckhjfebaaRRRows

/- Walks: two figures that read alike are the same, by the reference. -/
namespace Go.Proofs.YtgbnadckhjfebaaRR
open Go.RowKit

set_option maxHeartbeats 400000 in
theorem sameNat14_eq (xs : List Int) (a a' : Option Addr) (c c' : Nat) (w : World) (h : NatR w a c xs) (h' : NatR w a' c' xs) :
    Calls Try.prog 49 #[.slice a xs.length c, .slice a' xs.length c'] w fun r w' => r = .returned (.bool true) ∧ Below w.heap.size w w' := by
  have H := Lib.hid h
  have H' := Lib.hid h'
  have hl := h.len
  clear h h'
  go_enter Try.func49, Try.ntmps49
  go_wp2
  go_loopw [5, 13] (fun _ i wr => ∃ k : Nat, k ≤ xs.length ∧ i = .int .i64 k ∧ Below w.heap.size w wr) (fun _ i _ => xs.length - (intOf i).toNat)
  case atStart => exact ⟨0, by omega, rfl, Below.refl _ _⟩
  case round =>
    obtain ⟨k, hk, rfl, hb⟩ := hrel
    by_cases hlt : k < xs.length
    · obtain ⟨x, hx⟩ := get_of_lt hlt
      obtain ⟨b, off, rfl, hE⟩ := H.out.2.2 k x hx
      obtain ⟨b', off', rfl, hE'⟩ := H'.out.2.2 k x hx
      have hc : wr.cell? ⟨b, off + k, none⟩ = some (.int .u16 x) := by have := (hE.ext (Ext.below hb)).1; simpa using this
      have hc' : wr.cell? ⟨b', off' + k, none⟩ = some (.int .u16 x) := by have := (hE'.ext (Ext.below hb)).1; simpa using this
      clear hx hE hE'
      go_wp2
      go_quiet (fail)
      go_wp2
      refine ⟨⟨k + 1, by omega, by go_num, below_drewN hb _⟩, by simp [intOf]; omega⟩
    · go_wp2
      go_ret
      exact ⟨rfl, hb⟩
set_option maxRecDepth 100000 in
set_option maxHeartbeats 1000000 in
theorem sameRat14_eq (r : Rt) (na : Option Addr) (nc : Nat) (da : Option Addr) (dc : Nat) (na' : Option Addr) (nc' : Nat) (da' : Option Addr) (dc' : Nat) (w : World) (h1 : NatR w na nc r.num) (h2 : NatR w da dc r.den) (h3 : NatR w na' nc' r.num) (h4 : NatR w da' dc' r.den) :
    Calls Try.prog 32 #[r.val na nc da dc, r.val na' nc' da' dc'] w fun e w' => e = .returned (.bool true) ∧ Below w.heap.size w w' := by
  obtain ⟨neg, num, den⟩ := r
  unfold Rt.val
  dsimp only at h1 h2 h3 h4 ⊢
  have C1 := fun W (hW : Below w.heap.size w W) => sameNat14_eq num na na' nc nc' W (h1.ext (Ext.below hW)) (h3.ext (Ext.below hW))
  have C2 := fun W (hW : Below w.heap.size w W) => sameNat14_eq den da da' dc dc' W (h2.ext (Ext.below hW)) (h4.ext (Ext.below hW))
  replace C1 := Lib.hid C1; replace C2 := Lib.hid C2
  clear h1 h2 h3 h4
  have hz := (Blk.new w 37 #[.bool neg, .slice na num.length nc, .slice da den.length dc]).alloc (.cells #[.bool neg, .slice na' num.length nc', .slice da' den.length dc'] 37)
  have hy := blk_at1 w (.cells #[.bool neg, .slice na num.length nc, .slice da den.length dc] 37) 37 #[.bool neg, .slice na' num.length nc', .slice da' den.length dc']
  have hb0 : Below w.heap.size w ((w.alloc (.cells #[.bool neg, .slice na num.length nc, .slice da den.length dc] 37)).alloc (.cells #[.bool neg, .slice na' num.length nc', .slice da' den.length dc'] 37)) := by go_grown
  cases neg
  all_goals
    go_enter Try.func32, Try.ntmps32
    go_wp2_with fail
    revert hz hy hb0
    generalize (w.alloc (.cells _ _)).alloc (.cells _ _) = w0
    intro hz hy hb0
    refine (C1.out _ hb0).mono ?_
    rintro e w1 ⟨rfl, hb1⟩
    have hw1 := below_then hb0 hb1
    replace hz := hz.below' hb1
    replace hy := hy.below' hb1
    have z0 := hz.cell 0; have z1 := hz.cell 1; have z2 := hz.cell 2
    have y0 := hy.cell 0; have y1 := hy.cell 1; have y2 := hy.cell 2
    clear hb1 hb0
    go_wp2_with fail
    refine (C2.out _ hw1).mono ?_
    rintro e w2 ⟨rfl, hb2⟩
    have hw2 := below_then hw1 hb2
    go_wp2
    go_ret
    exact ⟨rfl, hw2⟩

set_option maxRecDepth 100000 in
set_option maxHeartbeats 1000000 in
theorem same14_eq (f : Fct) (p p' : RA) (w : World) (h : PartsR w p f.args f.ratio) (h' : PartsR w p' f.args f.ratio) :
    Calls Try.prog 15 #[f.val p.aa p.ac p.na p.nc p.da p.dc, f.val p'.aa p'.ac p'.na p'.nc p'.da p'.dc] w fun e w' => e = .returned (.bool true) ∧ Below w.heap.size w w' := by
  obtain ⟨kind, args, r⟩ := f
  obtain ⟨aa, ac, na, nc, da, dc⟩ := p
  obtain ⟨aa', ac', na', nc', da', dc'⟩ := p'
  obtain ⟨hI, hN, hD⟩ := h
  obtain ⟨hI', hN', hD'⟩ := h'
  dsimp only at hI hN hD hI' hN' hD'
  have CR := fun W (hW : Below w.heap.size w W) => sameRat14_eq r na nc da dc na' nc' da' dc' W (hN.ext (Ext.below hW)) (hD.ext (Ext.below hW)) (hN'.ext (Ext.below hW)) (hD'.ext (Ext.below hW))
  have hlen := hI.len
  obtain ⟨neg, num, den⟩ := r
  unfold Rt.val at CR
  unfold Fct.val
  dsimp only at CR ⊢
  replace CR := Lib.hid CR
  have HI := Lib.hid hI
  have HI' := Lib.hid hI'
  clear hI hN hD hI' hN' hD'
  have e1 : (kind != kind) = false := by simp
  have e2 : ((args.length : Int) != args.length) = false := by simp
  have hz := (Blk.new w 39 #[.int .i64 kind, .slice aa args.length ac, .bool neg, .slice na num.length nc, .slice da den.length dc]).alloc (.cells #[.int .i64 kind, .slice aa' args.length ac', .bool neg, .slice na' num.length nc', .slice da' den.length dc'] 39)
  have hy := blk_at1 w (.cells #[.int .i64 kind, .slice aa args.length ac, .bool neg, .slice na num.length nc, .slice da den.length dc] 39) 39 #[.int .i64 kind, .slice aa' args.length ac', .bool neg, .slice na' num.length nc', .slice da' den.length dc']
  have hb0 : Below w.heap.size w ((w.alloc (.cells #[.int .i64 kind, .slice aa args.length ac, .bool neg, .slice na num.length nc, .slice da den.length dc] 39)).alloc (.cells #[.int .i64 kind, .slice aa' args.length ac', .bool neg, .slice na' num.length nc', .slice da' den.length dc'] 39)) := by go_grown
  go_enter Try.func15, Try.ntmps15
  go_wp2_with fail
  revert hz hy hb0
  generalize (w.alloc (.cells _ _)).alloc (.cells _ _) = w0
  intro hz hy hb0
  refine (CR.out _ hb0).mono ?_
  rintro e w1 ⟨rfl, hb1⟩
  have hw1 := below_then hb0 hb1
  replace hz := hz.below' hb1
  replace hy := hy.below' hb1
  have z0 := hz.cell 0; have z1 := hz.cell 1; have z2 := hz.cell 2
  have y0 := hy.cell 0; have y1 := hy.cell 1; have y2 := hy.cell 2
  clear hb1 hb0 CR
  go_wp2
  go_loopg [5, 31] args.length (fun g _ q wr => ∃ k : Nat, k + g = args.length ∧ q = .int .i64 k ∧ Below w1.heap.size w1 wr)
  case atStart => exact ⟨0, by omega, rfl, Below.refl _ _⟩
  case round =>
    obtain ⟨k, hkg, rfl, hb⟩ := hrel
    have HKG := Lib.hid hkg
    clear hkg z0 z1 z2 y0 y1 y2
    have z1 := (hz.below' hb).cell 1
    have y1 := (hy.below' hb).cell 1
    by_cases hlt : k < args.length
    · obtain ⟨x, hx⟩ := get_of_lt hlt
      obtain ⟨b, off, rfl, hE⟩ := (HI.out.ext (Ext.below (below_then hw1 hb))).2.2 k x hx
      obtain ⟨b', off', rfl, hE'⟩ := (HI'.out.ext (Ext.below (below_then hw1 hb))).2.2 k x hx
      have hc : wr.cell? ⟨b, off + k, none⟩ = some (.int .i64 x) := by simpa using hE.1
      have hc' : wr.cell? ⟨b', off' + k, none⟩ = some (.int .i64 x) := by simpa using hE'.1
      have e3 : (x != x) = false := by simp
      clear hx hE hE'
      go_wp2
      go_quiet (fail)
      go_wp2
      go_roundg (gk - 1)
      case rel => exact ⟨k + 1, by have := HKG.out; omega, by go_num, below_drewN hb _⟩
      case measure => have := HKG.out; omega
    · go_wp2
      go_ret
      exact ⟨rfl, below_then hw1 hb⟩

set_option maxRecDepth 100000 in
set_option maxHeartbeats 2000000 in
theorem same20_eq (f : Fig) (sa : Option Addr) (sc : Nat) (ga : Option Addr) (gc : Nat) (sa' : Option Addr) (sc' : Nat) (ga' : Option Addr) (gc' : Nat) (w : World) (h : FigR w sa sc ga gc f) (h' : FigR w sa' sc' ga' gc' f) :
    Calls Try.prog 8 #[f.val sa sc ga gc, f.val sa' sc' ga' gc'] w fun e w' => e = .returned (.bool true) ∧ Below w.heap.size w w' := by
  obtain ⟨steps, goals⟩ := f
  obtain ⟨hS, hG⟩ := h
  obtain ⟨hS', hG'⟩ := h'
  dsimp only at hS hG hS' hG'
  have hl1 := hS.len
  have hl2 := hG.len
  unfold Fig.val
  dsimp only
  have HS := Lib.hid hS; have HG := Lib.hid hG; have HS' := Lib.hid hS'; have HG' := Lib.hid hG'
  clear hS hG hS' hG'
  have e1 : ((steps.length : Int) != steps.length) = false := by simp
  have e2 : ((goals.length : Int) != goals.length) = false := by simp
  have hz := (Blk.new w 25 #[.slice sa steps.length sc, .slice ga goals.length gc]).alloc (.cells #[.slice sa' steps.length sc', .slice ga' goals.length gc'] 25)
  have hy := blk_at1 w (.cells #[.slice sa steps.length sc, .slice ga goals.length gc] 25) 25 #[.slice sa' steps.length sc', .slice ga' goals.length gc']
  have hb0 : Below w.heap.size w ((w.alloc (.cells #[.slice sa steps.length sc, .slice ga goals.length gc] 25)).alloc (.cells #[.slice sa' steps.length sc', .slice ga' goals.length gc'] 25)) := by go_grown
  go_enter Try.func8, Try.ntmps8
  go_wp2
  revert hz hy hb0
  generalize (w.alloc (.cells #[.slice sa steps.length sc, .slice ga goals.length gc] 25)).alloc (.cells #[.slice sa' steps.length sc', .slice ga' goals.length gc'] 25) = w0
  intro hz hy hb0
  go_loopg [5, 6, 7, 28] steps.length (fun g _ _ _ q wr => ∃ k : Nat, k + g = steps.length ∧ q = .int .i64 k ∧ Below w0.heap.size w0 wr)
  case atStart => exact ⟨0, by omega, rfl, Below.refl _ _⟩
  case round =>
    obtain ⟨k, hkg, rfl, hb⟩ := hrel
    have HKG := Lib.hid hkg
    clear hkg
    have hzr := hz.below' hb
    have hyr := hy.below' hb
    have z0 := hzr.cell 0; have z1 := hzr.cell 1
    have y0 := hyr.cell 0; have y1 := hyr.cell 1
    have hzl := hzr.lt
    have hyl := hyr.lt
    by_cases hlt : k < steps.length
    · obtain ⟨s, hs⟩ := get_of_lt hlt
      obtain ⟨b, off, rfl, p, hC, hP, _, _⟩ := (HS.out.ext (Ext.below (below_then hb0 hb))).2.2 k s hs
      obtain ⟨b', off', rfl, p', hC', hP', _, _⟩ := (HS'.out.ext (Ext.below (below_then hb0 hb))).2.2 k s hs
      obtain ⟨c0, c1, c2, c3, c4, c5⟩ := hC
      obtain ⟨d0, d1, d2, d3, d4, d5⟩ := hC'
      have e3 : (s.point.toList != s.point.toList) = false := by simp
      have hlb := World.block_lt_of_cell? wr _ c0
      have hlb' := World.block_lt_of_cell? wr _ d0
      have hlb2 : b' < wr.heap.size + 1 := by simp at hlb'; omega
      have C := fun W (hW : Below wr.heap.size wr W) => same14_eq ⟨s.kind, s.args, s.ratio⟩ p p' W (hP.ext (Ext.below hW)) (hP'.ext (Ext.below hW))
      unfold Fct.val at C
      replace C := Lib.hid C
      clear hs hP hP'
      go_wp2_with fail
      refine (C.out _ (by go_grown)).mono ?_
      rintro e w2 ⟨rfl, hb2⟩
      have hw2 : Below w0.heap.size w0 w2 := below_then2 hb hb2
      clear hb2
      go_wp2
      go_roundg (gk - 1)
      case rel => exact ⟨k + 1, by have := HKG.out; omega, by go_num, hw2⟩
      case measure => have := HKG.out; omega
    · obtain ⟨wo, rfl⟩ : ∃ wo : World, wo = wr := ⟨_, rfl⟩
      clear HKG
      go_wp2
      go_loopg [8, 65] goals.length (fun g _ q wr => ∃ k : Nat, k + g = goals.length ∧ q = .int .i64 k ∧ Below wo.heap.size wo wr)
      case atStart => exact ⟨0, by omega, rfl, Below.refl _ _⟩
      case round =>
        obtain ⟨k2, hkg, rfl, hb2⟩ := hrel
        have HKG := Lib.hid hkg
        have hzs := hzr.below' hb2
        have hys := hyr.below' hb2
        have hw := below_then hb0 (below_then hb hb2)
        clear hkg z0 z1 y0 y1 hzr hyr hzl hyl hb
        have hzl := hzs.lt
        have hyl := hys.lt
        by_cases hlt2 : k2 < goals.length
        · obtain ⟨s, hs⟩ := get_of_lt hlt2
          obtain ⟨b, off, rfl, p, hC, hP, _⟩ := (HG.out.ext (Ext.below hw)).2.2 k2 s hs
          obtain ⟨b', off', rfl, p', hC', hP', _⟩ := (HG'.out.ext (Ext.below hw)).2.2 k2 s hs
          have C := fun W (hW : Below wr.heap.size wr W) => same14_eq s p p' W (hP.ext (Ext.below hW)) (hP'.ext (Ext.below hW))
          unfold Fct.val at C
          replace C := Lib.hid C
          have z1 := fun w' (hw' : Below wr.heap.size wr w') => (hzs.below' hw').cell 1
          have y1 := fun w' (hw' : Below wr.heap.size wr w') => (hys.below' hw').cell 1
          have c0 := held hC.1; have c1 := held hC.2.1; have c2 := held hC.2.2.1; have c3 := held hC.2.2.2.1; have c4 := held hC.2.2.2.2
          have d0 := held hC'.1; have d1 := held hC'.2.1; have d2 := held hC'.2.2.1; have d3 := held hC'.2.2.2.1; have d4 := held hC'.2.2.2.2
          clear hs hP hP' hC hC'
          have s0 : Below wr.heap.size wr wr.drew := (Below.refl _ _).drew
          go_wp2
          refine wp_region_mix (S := Below wr.heap.size wr) [(0, .q), (1, .q), (2, .q), (3, .q), (4, .q), (5, .q), (6, .q), (7, .q), (8, .q), (9, .q), (10, .t), (11, .p)] (by kernel_rfl) (by kernel_rfl) (by kernel_rfl) (fun d _ _ _ _ h => by cases d <;> exact h) (s0) ?_
          iterate 10 (refine wpMix_q rfl rfl (fun K hK => ?_); apply Exists.intro; refine ⟨fun w' hw' => ?_, ?_⟩; (focus (go_simp; try rfl)); go_simp; refine hK _ _ ?_; clear hK K)
          refine wpMix_t rfl rfl (fun K hK => ?_)
          go_simp
          refine (C.out _ s0).mono ?_
          rintro r w4 ⟨rfl, hb4⟩
          dsimp only
          refine hK.out _ _ ?_
          clear hK K
          have s4 := below_then s0 hb4
          iterate 1 (refine wpMix_p rfl rfl (fun K hK => ?_); apply Exists.intro; refine ⟨fun w' => ?_, ?_⟩; (focus (go_simp; try rfl)); go_simp; refine hK _ _ ?_; clear hK K)
          refine wpMix_nil ?_
          go_wp2
          go_roundg (gk - 1)
          case rel => exact ⟨k2 + 1, by have := HKG.out; omega, by go_num, below_then hb2 s4⟩
          case measure => have := HKG.out; omega
        · have z1 := hzs.cell 1
          have y1 := hys.cell 1
          go_wp2
          go_ret
          exact ⟨rfl, hw⟩
end Go.Proofs.YtgbnadckhjfebaaRR

/- Walk: whether a fact is right, by the reference. -/
namespace Go.Proofs.YtgbnadckhjfebaaRR
open Go.RowKit

theorem any_take {α : Type} {p : α → Bool} {l : List α} {k : Nat} {x : α} (h : l[k]? = some x) : (l.take (k + 1)).any p = ((l.take k).any p || p x) := by
  rw [take_more h, List.any_append]; simp
theorem any_mem {α : Type} {p : α → Bool} {l : List α} {k : Nat} {x : α} (h : l[k]? = some x) (e : p x = true) : l.any p = true := by
  rw [List.any_eq_true]; exact ⟨x, List.mem_of_getElem? h, e⟩

set_option maxRecDepth 100000 in
set_option maxHeartbeats 2000000 in
theorem right14_any (f : Fct) (n : Int) (p : RA) (w : World) (h : PartsR w p f.args f.ratio) (hq : f.ratio.few) (hn : InInt n) (hk : InInt f.kind) :
    Calls Try.prog 10 #[f.val p.aa p.ac p.na p.nc p.da p.dc, .int .i64 n] w fun e w' => e = .returned (.int .i64 (errFct f n)) ∧ Below w.heap.size w w' := by
  obtain ⟨kind, args, r⟩ := f
  obtain ⟨aa, ac, na, nc, da, dc⟩ := p
  obtain ⟨hI, hN, hD⟩ := h
  dsimp only at hI hN hD hq hk
  obtain ⟨res, hres⟩ : ∃ x, errFct ⟨kind, args, r⟩ n = x := ⟨_, rfl⟩
  rw [hres]
  unfold errFct at hres
  dsimp only at hres
  have CA := arity14_any kind
  have hA := arity14_in kind
  have CR := fun W (hW : Below w.heap.size w W) => right03_any r na nc da dc W (hN.ext (Ext.below hW)) (hD.ext (Ext.below hW)) hq.1 hq.2
  have CN := fun W => none14_any r na nc da dc W hq.1 hq.2
  have hlen := hI.len
  have hIn : ∀ a ∈ args, InInt a := fun a ha => by
    obtain ⟨k, hk⟩ := List.mem_iff_getElem?.1 ha
    obtain ⟨b, off, _, hc, hw⟩ := hI.2.2 k a hk
    exact inInt_of hw
  have HI := Lib.hid hI
  have HIn := Lib.hid hIn
  revert CA hA hres CR CN
  generalize arity14 kind = ar
  generalize r.right = br
  generalize r.none = bn
  intro hres CA hA CR CN
  replace CA := Lib.hid CA; replace CR := Lib.hid CR; replace CN := Lib.hid CN
  have HRES := Lib.hid hres
  obtain ⟨hn1, hn2⟩ := hn
  obtain ⟨hk1, hk2⟩ := hk
  obtain ⟨neg, num, den⟩ := r
  unfold Rt.val at CR CN
  unfold Fct.val
  dsimp only at CR CN ⊢
  clear hres hI hN hD hIn hq
  have hz := Blk.new w 39 #[.int .i64 kind, .slice aa args.length ac, .bool neg, .slice na num.length nc, .slice da den.length dc]
  have hb0 : Below w.heap.size w (w.alloc (.cells #[.int .i64 kind, .slice aa args.length ac, .bool neg, .slice na num.length nc, .slice da den.length dc] 39)) := (Below.refl _ _).alloc (Nat.le_refl _) _
  by_cases h0 : ar = 0
  · have he : (ar == 0) = true := by simpa using h0
    have hr : res = 8 := by rw [← HRES.out, if_pos h0]
    subst hr
    clear h0 hz
    go_enter Try.func10, Try.ntmps10
    go_wp2_with (go_at_call 20; refine (CA.out _).mono ?_; rintro e w' ⟨rfl, rfl⟩)
    go_ret
    exact ⟨rfl, hb0⟩
  · have he : (ar == 0) = false := by simpa using h0
    have H0 := Lib.hid h0
    clear h0
    by_cases h1 : (args.length : Int) = ar
    · have he1 : ((args.length : Int) != ar) = false := by simpa using h1
      have H1 := Lib.hid h1
      clear h1
      go_enter Try.func10, Try.ntmps10
      go_wp2_with fail
      revert hz hb0
      generalize w.alloc (.cells #[.int .i64 kind, .slice aa args.length ac, .bool neg, .slice na num.length nc, .slice da den.length dc] 39) = w0
      intro hz hb0
      have z0 := hz.cell 0; have z1 := hz.cell 1; have z2 := hz.cell 2; have z3 := hz.cell 3; have z4 := hz.cell 4
      refine (CA.out _).mono ?_
      rintro e w' ⟨rfl, rfl⟩
      go_wp2
      go_quiet ((go_at_call 20; exact Calls.quiet_of_same ((CA.out _).mono fun _ _ h => ⟨h.1, h.2.symm⟩)))
      have hz1 : Blk (w0.drewN nq) w.heap.size 39 #[.int .i64 kind, .slice aa args.length ac, .bool neg, .slice na num.length nc, .slice da den.length dc] := hz
      have hb1 := below_drewN hb0 nq
      clear z0 z1 z2 z3 z4 hz hb0 CA
      revert hz1 hb1
      generalize w0.drewN nq = w1
      intro hz1 hb1
      have z0 := hz1.cell 0; have z1 := hz1.cell 1; have z2 := hz1.cell 2; have z3 := hz1.cell 3; have z4 := hz1.cell 4
      go_wp2
      go_loop [6, 21] (fun _ i => ∃ k : Nat, k ≤ args.length ∧ i = .int .i64 k ∧ Hid ((args.take k).any (badArg n) = false)) (fun _ i => args.length - (intOf i).toNat)
      case atStart => exact ⟨0, by omega, rfl, rfl⟩
      case round =>
        obtain ⟨k, hk, rfl, hno⟩ := hrel
        by_cases hlt : k < args.length
        · obtain ⟨x, hx⟩ := get_of_lt hlt
          obtain ⟨b, off, rfl, hc⟩ := (HI.out.ext (Ext.below hb1)).2.2 k x hx
          have hc1 : w1.cell? ⟨b, off + k, none⟩ = some (.int .i64 x) := by simpa using hc.1
          obtain ⟨hx1, hx2⟩ := HIn.out x (List.mem_of_getElem? hx)
          have HX := Lib.hid hx
          clear hc hx
          by_cases hbad : x < 0 ∨ n ≤ x
          · have hr : res = 2 := by
              have hany : args.any (badArg n) = true := any_mem HX.out (by unfold badArg; exact decide_eq_true hbad)
              rw [← HRES.out, if_neg H0.out, if_neg (by simpa using H1.out), if_pos hany]
            subst hr
            by_cases hx0 : x < 0
            · clear hbad
              go_wp2
              go_ret
              exact ⟨rfl, hb1⟩
            · have hge : n ≤ x := by omega
              clear hbad
              go_wp2
              go_ret
              exact ⟨rfl, hb1⟩
          · have hx0 : 0 ≤ x := by omega
            have hxn : x < n := by omega
            have hbf : badArg n x = false := by unfold badArg; exact decide_eq_false hbad
            have HBF := Lib.hid hbf
            clear hbad hbf
            go_wp2
            go_round
            case rel => exact ⟨k + 1, by omega, by go_num, by show _ = _; rw [any_take HX.out, hno.out, HBF.out]; rfl⟩
            case measure => simp [intOf]; omega
        · have hany : args.any (badArg n) = false := by
            have := hno.out
            rwa [take_all hlt] at this
          have hres2 : (if kind = 9 ∧ br = false then (1 : Int) else if kind ≠ 9 ∧ bn = false then 1 else 0) = res := by
            have := HRES.out
            rw [if_neg H0.out, if_neg (by simpa using H1.out), if_neg (by rw [hany]; simp)] at this
            exact this
          have HR2 := Lib.hid hres2
          clear hres2 hany
          by_cases hk9 : kind = 9
          · have hke : (kind == 9) = true := by simpa using hk9
            have hkn : (kind != 9) = false := by simpa using hk9
            have HK9 := Lib.hid hk9
            clear hk9
            cases br
            · have hr : res = 1 := by rw [← HR2.out, if_pos ⟨HK9.out, rfl⟩]
              subst hr
              go_wp2_with fail
              refine (CR.out _ hb1).mono ?_
              rintro e w2 ⟨rfl, hb2⟩
              have hb3 := below_then hb1 hb2
              go_wp2
              go_ret
              exact ⟨rfl, hb3⟩
            · have hr : res = 0 := by rw [← HR2.out, if_neg (by simp), if_neg (by simp [HK9.out])]
              subst hr
              go_wp2_with fail
              refine (CR.out _ hb1).mono ?_
              rintro e w2 ⟨rfl, hb2⟩
              have hb3 := below_then hb1 hb2
              have hz2 := hz1.below' hb2
              have y0 := hz2.cell 0
              clear hb2 hz2
              go_wp2
              go_ret
              exact ⟨rfl, hb3⟩
          · have hke : (kind == 9) = false := by simpa using hk9
            have hkn : (kind != 9) = true := by simpa using hk9
            have HK9 := Lib.hid hk9
            clear hk9
            cases bn
            · have hr : res = 1 := by rw [← HR2.out, if_neg (fun h => HK9.out h.1), if_pos ⟨HK9.out, rfl⟩]
              subst hr
              go_wp2_with fail
              refine (CN.out _).mono ?_
              rintro e w2 ⟨rfl, hb2⟩
              have hb3 := below_then hb1 hb2
              go_wp2
              go_ret
              exact ⟨rfl, hb3⟩
            · have hr : res = 0 := by rw [← HR2.out, if_neg (fun h => HK9.out h.1), if_neg (by simp)]
              subst hr
              go_wp2_with fail
              refine (CN.out _).mono ?_
              rintro e w2 ⟨rfl, hb2⟩
              have hb3 := below_then hb1 hb2
              go_wp2
              go_ret
              exact ⟨rfl, hb3⟩
    · have he1 : ((args.length : Int) != ar) = true := by simpa using h1
      have hr : res = 1 := by rw [← HRES.out, if_neg H0.out, if_pos h1]
      subst hr
      clear h1
      go_enter Try.func10, Try.ntmps10
      go_wp2_with fail
      revert hz hb0
      generalize w.alloc (.cells #[.int .i64 kind, .slice aa args.length ac, .bool neg, .slice na num.length nc, .slice da den.length dc] 39) = w0
      intro hz hb0
      have z0 := hz.cell 0; have z1 := hz.cell 1; have z2 := hz.cell 2; have z3 := hz.cell 3; have z4 := hz.cell 4
      refine (CA.out _).mono ?_
      rintro e w' ⟨rfl, rfl⟩
      go_wp2
      go_quiet ((go_at_call 20; exact Calls.quiet_of_same ((CA.out _).mono fun _ _ h => ⟨h.1, h.2.symm⟩)))
      go_wp2
      go_ret
      exact ⟨rfl, below_drewN hb0 _⟩
end Go.Proofs.YtgbnadckhjfebaaRR

/- Walks: whether a string is a name, by the reference and by the program. -/
namespace Go.Proofs.YtgbnadckhjfebaaRR
open Go.RowKit

set_option maxHeartbeats 1000000 in
theorem letter15_any (c : Int) (w : World) (h0 : 0 ≤ c) (h1 : c ≤ 255) :
    Calls Try.prog 38 #[.int .u8 c] w fun e w' => e = .returned (.bool (letB c)) ∧ w = w' := by
  obtain ⟨b, hb⟩ : ∃ b, letB c = b := ⟨_, rfl⟩
  have hb2 := hb
  unfold letB at hb2
  rw [hb]
  have HB := Lib.hid hb2
  clear hb hb2
  by_cases h2 : 65 ≤ c <;> by_cases h3 : c ≤ 90 <;> by_cases h4 : 97 ≤ c <;> by_cases h5 : c ≤ 122 <;> first | (exfalso; omega) | skip
  all_goals
    go_enter Try.func38, Try.ntmps38
    go_wp2
    go_ret
    refine ⟨ret_bool ?_, rfl⟩
    rw [← HB.out]
    first | (symm; apply decide_eq_true; omega) | (symm; apply decide_eq_false; omega)
set_option maxHeartbeats 1000000 in
theorem digit15_any (c : Int) (w : World) (h0 : 0 ≤ c) (h1 : c ≤ 255) :
    Calls Try.prog 39 #[.int .u8 c] w fun e w' => e = .returned (.bool (digB c)) ∧ w = w' := by
  obtain ⟨b, hb⟩ : ∃ b, digB c = b := ⟨_, rfl⟩
  have hb2 := hb
  unfold digB at hb2
  rw [hb]
  have HB := Lib.hid hb2
  clear hb hb2
  by_cases h2 : 48 ≤ c <;> by_cases h3 : c ≤ 57 <;> first | (exfalso; omega) | skip
  all_goals
    go_enter Try.func39, Try.ntmps39
    go_wp2
    go_ret
    refine ⟨ret_bool ?_, rfl⟩
    rw [← HB.out]
    first | (symm; apply decide_eq_true; omega) | (symm; apply decide_eq_false; omega)

theorem keywords15_any (w : World) : Calls Try.prog 40 #[] w fun e w' => e = .returned (.slice (some ⟨w.heap.size, 0, none⟩) 29 29) ∧ w.alloc (.cells (keywords.map Value.string).toArray 9) = w' := by
  go_enter Try.func40, Try.ntmps40
  go_wp2
  go_ret
  exact ⟨rfl, rfl⟩
theorem keywords_any (w : World) : Calls Try.prog 47 #[] w fun e w' => e = .returned (.slice (some ⟨w.heap.size, 0, none⟩) 29 29) ∧ w.alloc (.cells (keywords.map Value.string).toArray 9) = w' := by
  go_enter Try.func47, Try.ntmps47
  go_wp2
  go_ret
  exact ⟨rfl, rfl⟩
end Go.Proofs.YtgbnadckhjfebaaRR

/- Walk: whether a string is a name, by the reference. -/
namespace Go.Proofs.YtgbnadckhjfebaaRR
open Go.RowKit

theorem keyB_take {s : ByteArray} {k : Nat} {x : ByteArray} (h : keywords[k]? = some x) : ((keywords.take (k + 1)).any fun k => decide (s = k)) = (((keywords.take k).any fun k => decide (s = k)) || decide (s = x)) := by
  rw [take_more h, List.any_append]; simp
theorem keyB_mem {s x : ByteArray} {k : Nat} (h : keywords[k]? = some x) (e : s = x) : keyB s = true := by
  unfold keyB
  rw [List.any_eq_true]
  exact ⟨x, List.mem_of_getElem? h, by simp [e]⟩

set_option maxHeartbeats 1000000 in
theorem isName15_any (s : ByteArray) (w : World) (hs : s.size ≤ 9223372036854775807) :
    Calls Try.prog 19 #[.string s] w fun e w' => e = .returned (.bool (isNameB s)) ∧ Below w.heap.size w w' := by
  obtain ⟨r, hr⟩ : ∃ r, isNameB s = r := ⟨_, rfl⟩
  rw [hr]
  have HR := Lib.hid hr
  clear hr
  by_cases h0 : s.size = 0
  · have e := size_zero.1 h0
    subst e
    have hr : r = false := by rw [← HR.out]; exact isNameB_empty
    subst hr
    clear h0 hs
    go_enter Try.func19, Try.ntmps19
    go_wp2
    go_ret
    exact ⟨rfl, Below.refl _ _⟩
  · have hse : s.toList.isEmpty = false := by rw [str_isEmpty]; simp; exact fun e => h0 (size_zero.2 e)
    have hse2 : s.toList ≠ [] := by intro e; rw [e] at hse; cases hse
    have H0 := Lib.hid h0
    clear h0
    by_cases h20 : s.size ≤ 20
    · have hp : 0 < s.size := by have := H0.out; omega
      have CL := letter15_any ((s[0]'hp).toNat : Nat) w (by omega) (by have := (s[0]'hp).toNat_lt; omega)
      rw [← headB_cons hp] at CL
      obtain ⟨b, hb⟩ : ∃ b, headB s = b := ⟨_, rfl⟩
      rw [hb] at CL
      replace CL := Lib.hid CL
      have HB := Lib.hid hb
      clear hb
      cases b
      · have hr : r = false := by rw [← HR.out]; simp [isNameB, HB.out]
        subst hr
        go_enter Try.func19, Try.ntmps19
        go_wp2_with (go_at_call 38; refine CL.out.mono ?_; rintro e w' ⟨rfl, rfl⟩)
        go_ret
        exact ⟨rfl, Below.refl _ _⟩
      · go_enter Try.func19, Try.ntmps19
        go_wp2_with (go_at_call 38; refine CL.out.mono ?_; rintro e w' ⟨rfl, rfl⟩)
        have hi0 := World.iter_heap w s 0
        have hb0 : Below w.heap.size w (w.iter s 0) := (Below.refl _ w).alloc (Nat.le_refl _) _
        revert hi0 hb0
        generalize w.iter s 0 = w0
        intro hi0 hb0
        clear CL
        go_loopg [3] s.size (fun g _ wr => ∃ pos : Nat, pos + g = s.size ∧ Itr wr w.heap.size s pos ∧ Below w.heap.size w wr ∧ (s.data.toList.take pos).all wordB = true)
        case atStart => exact ⟨0, by omega, hi0, hb0, rfl⟩
        case round =>
          obtain ⟨pos, hpos, hi, hb, hall⟩ := hrel
          clear hi0 hb0
          have HA := Lib.hid hall
          have HP := Lib.hid hpos
          have hsz := hi.lt
          clear hall
          by_cases hlt : pos < s.size
          · obtain ⟨rr, n, hnx, hn1⟩ := run_next_any (P := Try.prog) wr w.heap.size s pos hi hlt
            have CL := fun W => letter15_any ((s[pos]'hlt).toNat : Nat) W (by omega) (by have := (s[pos]'hlt).toNat_lt; omega)
            have CD := fun W => digit15_any ((s[pos]'hlt).toNat : Nat) W (by omega) (by have := (s[pos]'hlt).toNat_lt; omega)
            have hw : wordB (s[pos]'hlt) = (letB ((s[pos]'hlt).toNat : Nat) || digB ((s[pos]'hlt).toNat : Nat)) := rfl
            have hasc : wordB (s[pos]'hlt) = true → (s[pos]'hlt).toNat < 128 := by
              intro h
              simp only [wordB, letB, digB, Bool.or_eq_true, decide_eq_true_eq] at h
              omega
            have hgl := get_list hlt
            have hnot : wordB (s[pos]'hlt) = false → isNameB s = false := by
              intro h
              have : s.data.toList.all wordB = false := by
                rw [List.all_eq_false]
                exact ⟨_, List.mem_of_getElem? hgl, by simp [h]⟩
              simp [isNameB, this]
            obtain ⟨bl, hbl⟩ : ∃ b, letB ((s[pos]'hlt).toNat : Nat) = b := ⟨_, rfl⟩
            obtain ⟨bd, hbd⟩ : ∃ b, digB ((s[pos]'hlt).toNat : Nat) = b := ⟨_, rfl⟩
            rw [hbl, hbd] at hw
            rw [hbl] at CL
            rw [hbd] at CD
            have HW := Lib.hid hw
            have HN1 := Lib.hid hn1
            have HASC := Lib.hid hasc
            have HNOT := Lib.hid hnot
            have HGL := Lib.hid hgl
            replace CL := Lib.hid CL
            replace CD := Lib.hid CD
            have hnb : Below w.heap.size w (setItr wr w.heap.size s (pos + n)) := below_setItr hb (Nat.le_refl _) _ _
            have hni : Itr (setItr wr w.heap.size s (pos + n)) w.heap.size s (pos + n) := hi.set _
            clear hw hn1 hasc hnot hgl hbl hbd hi hb hpos
            revert hnb hni hnx
            generalize setItr wr w.heap.size s (pos + n) = w2
            intro hnx hnb hni
            cases bl
            · cases bd
              · have hr : r = false := by rw [← HR.out]; exact HNOT.out HW.out
                subst hr
                go_wp2_with (first | (go_at_call 38; refine (CL.out _).mono ?_; rintro e w' ⟨rfl, rfl⟩) | (go_at_call 39; refine (CD.out _).mono ?_; rintro e w' ⟨rfl, rfl⟩))
                go_ret
                exact ⟨rfl, hnb⟩
              · go_wp2_with (first | (go_at_call 38; refine (CL.out _).mono ?_; rintro e w' ⟨rfl, rfl⟩) | (go_at_call 39; refine (CD.out _).mono ?_; rintro e w' ⟨rfl, rfl⟩))
                have e1 := HN1.out (HASC.out HW.out)
                subst e1
                go_roundg (gk - 1)
                case rel => exact ⟨pos + 1, by have := HP.out; omega, hni, hnb, by rw [take_more HGL.out, List.all_append, HA.out]; simp [HW.out]⟩
                case measure => have := HP.out; omega
            · go_wp2_with (first | (go_at_call 38; refine (CL.out _).mono ?_; rintro e w' ⟨rfl, rfl⟩) | (go_at_call 39; refine (CD.out _).mono ?_; rintro e w' ⟨rfl, rfl⟩))
              have hwt : wordB (s[pos]'hlt) = true := by rw [HW.out]; rfl
              have e1 := HN1.out (HASC.out hwt)
              subst e1
              go_roundg (gk - 1)
              case rel => exact ⟨pos + 1, by have := HP.out; omega, hni, hnb, by rw [take_more HGL.out, List.all_append, HA.out]; simp [hwt]⟩
              case measure => have := HP.out; omega
          · obtain ⟨wo, rfl⟩ : ∃ wo : World, wo = wr := ⟨_, rfl⟩
            have hnx := fun ty => run_next_stop (P := Try.prog) wo w.heap.size s pos ty hi hlt
            have hall : s.data.toList.all wordB = true := by
              have := HA.out
              rwa [List.take_of_length_le (by simp; omega)] at this
            have HALL := Lib.hid hall
            have HK : r = !keyB s := by rw [← HR.out]; simp [isNameB, HB.out, hall, h20]
            replace HK := Lib.hid HK
            have hk0 := Blk.new wo 9 (keywords.map Value.string).toArray
            have hkb : Below w.heap.size w (wo.alloc (.cells (keywords.map Value.string).toArray 9)) := hb.alloc hb.size _
            have CK := keywords15_any wo
            replace CK := Lib.hid CK
            clear hall hi hpos HA
            go_wp2_with (go_at_call 40; refine CK.out.mono ?_; rintro e w' ⟨rfl, rfl⟩)
            revert hk0 hkb
            generalize wo.alloc (.cells (keywords.map Value.string).toArray 9) = w3
            intro hk0 hkb
            clear CK
            go_loopg [5, 38] 29 (fun g _ i wv => ∃ k : Nat, k + g = 29 ∧ i = .int .i64 k ∧ Blk wv wo.heap.size 9 (keywords.map Value.string).toArray ∧ Below w.heap.size w wv ∧ ((keywords.take k).any fun k => decide (s = k)) = false)
            case atStart => exact ⟨0, by omega, rfl, hk0, hkb, rfl⟩
            case round =>
              obtain ⟨k, hkg, rfl, hk, hbv, hno⟩ := hrel
              have HNO := Lib.hid hno
              have HKG := Lib.hid hkg
              have HKB := Lib.hid hk
              have hsz3 := hk.lt
              clear hk0 hkb hno hkg hk
              by_cases hlt2 : k < 29
              · obtain ⟨x, hx⟩ := get_of_lt (xs := keywords) (k := k) (by rw [keywords_len]; exact hlt2)
                have hc : wr.cell? ⟨wo.heap.size, k, none⟩ = some (.string x) := by rw [HKB.out.cell]; simp [hx]
                have HX := Lib.hid hx
                clear hx
                by_cases he : s = x
                · have hbe : (s.toList == x.toList) = true := by rw [str_beq]; simpa using he
                  have HE := Lib.hid he
                  clear he
                  go_wp2
                  go_ret
                  exact ⟨ret_bool (by rw [HK.out, keyB_mem HX.out HE.out]; rfl), hbv⟩
                · have hbe : (s.toList == x.toList) = false := by rw [str_beq]; simpa using he
                  have HE := Lib.hid he
                  clear he
                  go_wp2
                  go_roundg (gk - 1)
                  case rel => exact ⟨k + 1, by have := HKG.out; omega, by go_num, HKB.out, hbv, by rw [keyB_take HX.out, HNO.out]; simp [HE.out]⟩
                  case measure => have := HKG.out; omega
              · go_wp2
                go_ret
                refine ⟨ret_bool ?_, hbv⟩
                have := HNO.out
                rw [List.take_of_length_le (by rw [keywords_len]; omega)] at this
                rw [HK.out, keyB, this]; rfl
    · have hr : r = false := by rw [← HR.out]; simp [isNameB]; omega
      subst hr
      go_enter Try.func19, Try.ntmps19
      go_wp2
      go_ret
      exact ⟨rfl, Below.refl _ _⟩
end Go.Proofs.YtgbnadckhjfebaaRR
