/- Walks: the size of a certificate, by the program and by the reference. -/
import Derived.Test.YtfahnnkppakiiaaCr15
import Derived.Test.YtfahnnkppakiiaaCr5
import Derived.Test.YtfahnnkppakiiaaCr1
import Derived.LoopTactic
import Derived.Deep.LoopGhost

/- Walks: whether a polynomial is right, by the reference. -/
namespace Go.Proofs.Ytfahnnkppakiiaa
open Go.RowKit

set_option maxRecDepth 100000 in
set_option maxHeartbeats 8000000 in
theorem polyR_any (l : List Trm) (a : Option Addr) (c : Nat) (w : World) (h : PolyR w a c l) (hq : ∀ t ∈ l, t.coef.num.length ≤ 2000000 ∧ t.coef.den.length ≤ 2000000) :
    Calls Try.prog 22 #[.slice a l.length c] w fun e w' => e = .returned (.bool (polyB l)) ∧ Below w.heap.size w w' := by
  have hlen := h.len
  obtain ⟨res, hres⟩ : ∃ x, polyB l = x := ⟨_, rfl⟩
  rw [hres]
  have HRES := Lib.hid hres
  have HP := Lib.hid h
  have HQ := Lib.hid hq
  clear hres h hq
  go_enter Try.func22, Try.ntmps22
  go_wp2
  go_loopg [3] l.length (fun g q wr => ∃ k : Nat, k + g = l.length ∧ q = .int .i64 k ∧ Below w.heap.size w wr ∧ ∀ j, j < k → badAt l j = false)
  case atStart => exact ⟨0, by omega, rfl, Below.refl _ _, fun j hj => by omega⟩
  case round =>
    obtain ⟨k, hkg, rfl, hwr, hall⟩ := hrel
    have HKG := Lib.hid hkg
    have HA := Lib.hid hall
    clear hkg hall
    by_cases hlt : k < l.length
    · obtain ⟨t, ht⟩ := get_of_lt hlt
      have hPr := HP.out.ext (Ext.below hwr)
      have htq := HQ.out t (List.mem_of_getElem? ht)
      obtain ⟨b, off, hao, p, hC, hP⟩ := hPr.2.2 k t ht
      subst hao
      obtain ⟨c0, c1, c2, c3⟩ := hC
      obtain ⟨hP1, hP2, hP3⟩ := hP
      have HT := Lib.hid ht
      have HPR := Lib.hid hPr
      obtain ⟨⟨neg, num, den⟩, mono⟩ := t
      dsimp only at c0 c1 c2 c3 hP1 hP2 hP3 htq
      have CR := fun W (hW : Below wr.heap.size wr W) => right03_any ⟨neg, num, den⟩ p.na p.nc p.da p.dc W (hP2.ext (Ext.below hW)) (hP3.ext (Ext.below hW)) htq.1 htq.2
      unfold Rt.val at CR
      dsimp only at CR
      replace CR := Lib.hid CR
      have HP1 := Lib.hid hP1; have HP2 := Lib.hid hP2; have HP3 := Lib.hid hP3; have HTQ := Lib.hid htq
      have hbl : b < wr.heap.size := World.block_lt_of_cell? wr _ c0
      clear ht hPr hP1 hP2 hP3 htq
      have d0 := held c0; have d1 := held c1; have d2 := held c2; have d3 := held c3
      have hw0 := Below.refl wr.heap.size wr
      cases hr : Rt.right ⟨neg, num, den⟩ with
      | false =>
        rw [hr] at CR
        obtain rfl : res = false := by rw [← HRES.out]; exact polyB_bad hlt (badAt_term HT.out (okT_coef hr))
        clear hr
        go_wp2_with fail
        refine (CR.out _ hw0).mono ?_
        rintro e w3 ⟨rfl, hb3⟩
        have hw3 := below_then hw0 hb3
        go_wp2
        go_ret
        exact ⟨rfl, below_then hwr hb3⟩
      | true =>
        rw [hr] at CR
        have h0 : val den ≠ 0 := right_pos hr
        have CS := fun W (hW : Below wr.heap.size wr W) => qsignR_any neg num den (val num) p.na p.da p.nc p.dc W (HP2.out.ext (Ext.below hW)) (HP3.out.ext (Ext.below hW)) rfl h0 HTQ.out.1 HTQ.out.2
        have CM := fun W (hW : Below wr.heap.size wr W) => monoR_any mono p.aa p.ac W (HP1.out.ext (Ext.below hW))
        have hsg := sgnZ_eq neg (val num)
        have HR := Lib.hid hr
        clear h0 hr
        by_cases hn0 : val num = 0
        · rw [decide_eq_true hn0] at hsg
          obtain rfl : res = false := by rw [← HRES.out]; exact polyB_bad hlt (badAt_term HT.out (okT_zero hn0))
          revert CS hsg
          generalize sgnZ neg (val num) = sg
          intro CS hsg
          replace CS := Lib.hid CS; replace CM := Lib.hid CM
          clear hn0
          go_wp2_with fail
          refine (CR.out _ hw0).mono ?_
          rintro e w3 ⟨rfl, hb3⟩
          have hw3 := below_then hw0 hb3
          go_wp2_with fail
          refine (CS.out _ hw3).mono ?_
          rintro e w4 ⟨rfl, hb4⟩
          have hw4 := below_then hw3 hb4
          go_wp2
          go_ret
          exact ⟨rfl, below_then hwr hw4⟩
        · rw [decide_eq_false hn0] at hsg
          have HN0 := Lib.hid hn0
          revert CS hsg
          generalize sgnZ neg (val num) = sg
          intro CS hsg
          replace CS := Lib.hid CS
          clear hn0
          cases hm : monoB mono with
          | false =>
            rw [hm] at CM
            replace CM := Lib.hid CM
            obtain rfl : res = false := by rw [← HRES.out]; exact polyB_bad hlt (badAt_term HT.out (okT_mono hm))
            clear hm
            go_wp2_with fail
            refine (CR.out _ hw0).mono ?_
            rintro e w3 ⟨rfl, hb3⟩
            have hw3 := below_then hw0 hb3
            go_wp2_with fail
            refine (CS.out _ hw3).mono ?_
            rintro e w4 ⟨rfl, hb4⟩
            have hw4 := below_then hw3 hb4
            go_wp2_with fail
            refine (CM.out _ hw4).mono ?_
            rintro e w5 ⟨rfl, rfl⟩
            go_wp2
            go_ret
            exact ⟨rfl, below_then hwr hw4⟩
          | true =>
            rw [hm] at CM
            replace CM := Lib.hid CM
            have hok : okT ⟨⟨neg, num, den⟩, mono⟩ = true := okT_all HR.out HN0.out hm
            have HOK := Lib.hid hok
            clear hm hok
            go_wp2_with fail
            refine (CR.out _ hw0).mono ?_
            rintro e w3 ⟨rfl, hb3⟩
            have hw3 := below_then hw0 hb3
            go_wp2_with fail
            refine (CS.out _ hw3).mono ?_
            rintro e w4 ⟨rfl, hb4⟩
            have hw4 := below_then hw3 hb4
            go_wp2_with fail
            refine (CM.out _ hw4).mono ?_
            rintro e w5 ⟨rfl, rfl⟩
            go_wp2
            have s0 : Below wr.heap.size wr w4.drew := hw4.drew
            cases k with
            | zero =>
              have hbad := badAt_zero HT.out HOK.out
              have HB := Lib.hid hbad
              clear hbad
              refine wp_region_mixM (S := Below wr.heap.size wr) [(0, .q), (1, .q), (2, .q), (3, .q), (4, .q), (5, .q), (6, .q), (7, .q), (8, .q), (9, .q), (10, .q), (11, .q), (12, .q), (13, .q), (14, .t), (15, .p), (16, .p)] (by kernel_rfl) (by kernel_rfl) (by kernel_rfl) (fun d _ _ _ _ h => by cases d <;> exact h) (s0) ?_
              iterate 3 (refine wpMix_q rfl rfl (fun K hK => ?_); apply Exists.intro; refine ⟨fun w' hw' => ?_, ?_⟩; (focus (go_simp; try rfl)); go_simp; refine hK _ _ ?_; clear hK K)
              iterate 13 (refine wpMix_skip rfl rfl (fun K hK => ?_); go_simp; refine hK _ _ ?_; clear hK K)
              iterate 1 (refine wpMix_p rfl rfl (fun K hK => ?_); apply Exists.intro; refine ⟨fun w' => ?_, ?_⟩; (focus (go_simp; try rfl)); go_simp; refine hK _ _ ?_; clear hK K)
              refine wpMix_nil ?_
              go_wp2
              go_roundg (gk - 1)
              case rel => exact ⟨1, by have := HKG.out; omega, by go_num, below_then hwr s0, all_succ HA.out HB.out⟩
              case measure => have := HKG.out; omega
            | succ j =>
              obtain ⟨s, hs⟩ := get_of_lt (xs := l) (k := j) (by omega)
              obtain ⟨b', off', hao, p', hC', hP'⟩ := HPR.out.2.2 j s hs
              injection hao with hao
              injection hao with hao1 hao2
              subst hao1 hao2
              obtain ⟨y0, y1, y2, y3⟩ := hC'
              have hbad := badAt_succ HT.out hs HOK.out
              have e3 := held y3
              have hpv : okT s = true := badAt_ok hs (HA.out j (by omega))
              have CL := fun W (hW : Below wr.heap.size wr W) => cmpR5_any s.mono mono p'.aa p.aa p'.ac p.ac W (hP'.1.ext (Ext.below hW)) (HP1.out.ext (Ext.below hW)) (okT_range hpv) (okT_range HOK.out)
              dsimp only at hbad
              revert CL hbad
              generalize lexI s.mono mono = lx
              intro hbad CL
              have hwk : IntKind.i64.wrap (j : Int) = (j : Int) := by rw [IntKind.wrap_i64]; omega
              replace CL := Lib.hid CL
              have HBD := Lib.hid hbad
              have hjl : j < l.length := by omega
              have hj0 : (0 : Int) ≤ (j : Int) + 1 := by omega
              have hj1 : (j : Int) + 1 < (l.length : Int) := by omega
              clear hbad hP' hs y0 y1 y2 y3 hpv
              by_cases hlx : lx ≤ 0
              · have hle : decide (lx ≤ 0) = true := by simpa using hlx
                obtain rfl : res = false := by rw [← HRES.out]; exact polyB_bad hlt (HBD.out.trans hle)
                clear hlx HBD
                refine wp_region_mixM (S := Below wr.heap.size wr) [(0, .q), (1, .q), (2, .q), (3, .q), (4, .q), (5, .q), (6, .q), (7, .q), (8, .q), (9, .q), (10, .q), (11, .q), (12, .q), (13, .q), (14, .t), (15, .p), (16, .p)] (by kernel_rfl) (by kernel_rfl) (by kernel_rfl) (fun d _ _ _ _ h => by cases d <;> exact h) (s0) ?_
                iterate 14 (refine wpMix_q rfl rfl (fun K hK => ?_); apply Exists.intro; refine ⟨fun w' hw' => ?_, ?_⟩; (focus (go_simp; try rfl)); go_simp; refine hK _ _ ?_; clear hK K)
                refine wpMix_t rfl rfl (fun K hK => ?_)
                go_simp
                refine (CL.out _ s0).mono ?_
                rintro r w6 ⟨rfl, rfl⟩
                dsimp only
                refine hK.out _ _ ?_
                clear hK K
                iterate 2 (refine wpMix_p rfl rfl (fun K hK => ?_); apply Exists.intro; refine ⟨fun w' => ?_, ?_⟩; (focus (go_simp; try rfl)); go_simp; refine hK _ _ ?_; clear hK K)
                refine wpMix_nil ?_
                go_wp2
                go_ret
                exact ⟨rfl, below_then hwr s0⟩
              · have hle : decide (lx ≤ 0) = false := by simpa using hlx
                have HB := Lib.hid (HBD.out.trans hle)
                clear hlx HBD
                refine wp_region_mixM (S := Below wr.heap.size wr) [(0, .q), (1, .q), (2, .q), (3, .q), (4, .q), (5, .q), (6, .q), (7, .q), (8, .q), (9, .q), (10, .q), (11, .q), (12, .q), (13, .q), (14, .t), (15, .p), (16, .p)] (by kernel_rfl) (by kernel_rfl) (by kernel_rfl) (fun d _ _ _ _ h => by cases d <;> exact h) (s0) ?_
                iterate 14 (refine wpMix_q rfl rfl (fun K hK => ?_); apply Exists.intro; refine ⟨fun w' hw' => ?_, ?_⟩; (focus (go_simp; try rfl)); go_simp; refine hK _ _ ?_; clear hK K)
                refine wpMix_t rfl rfl (fun K hK => ?_)
                go_simp
                refine (CL.out _ s0).mono ?_
                rintro r w6 ⟨rfl, rfl⟩
                dsimp only
                refine hK.out _ _ ?_
                clear hK K
                iterate 2 (refine wpMix_p rfl rfl (fun K hK => ?_); apply Exists.intro; refine ⟨fun w' => ?_, ?_⟩; (focus (go_simp; try rfl)); go_simp; refine hK _ _ ?_; clear hK K)
                refine wpMix_nil ?_
                go_wp2
                go_roundg (gk - 1)
                case rel => exact ⟨j + 1 + 1, by have := HKG.out; omega, by go_num, below_then hwr s0, all_succ HA.out HB.out⟩
                case measure => have := HKG.out; omega
    · obtain rfl : res = true := by rw [← HRES.out]; exact polyB_good fun i hi => HA.out i (by omega)
      go_wp2
      go_ret
      exact ⟨rfl, hwr⟩
end Go.Proofs.Ytfahnnkppakiiaa

/- Walks: whether a certificate is right, by the program and by the reference. -/
namespace Go.Proofs.Ytfahnnkppakiiaa
open Go.RowKit

set_option maxRecDepth 100000 in
set_option maxHeartbeats 8000000 in
theorem crtP_any (F C : List (List Trm)) (P : List Int) (n : Int) (fa wa ca : Option Addr) (fc wc cc : Nat) (w : World) (h1 : PolysR w fa fc F) (h2 : IntsR w wa wc P) (h3 : PolysR w ca cc C) (hn : InInt n)
    (hq1 : ∀ p ∈ F, ∀ t ∈ p, t.coef.num.length ≤ 2000000 ∧ t.coef.den.length ≤ 2000000) (hq2 : ∀ p ∈ C, ∀ t ∈ p, t.coef.num.length ≤ 2000000 ∧ t.coef.den.length ≤ 2000000) :
    Calls Try.prog 7 #[.agg #[.slice fa F.length fc, .slice wa P.length wc, .int .i64 n, .slice ca C.length cc]] w fun e w' => e = .returned (.bool (crtB ⟨F, P, n, C⟩)) ∧ Below w.heap.size w w' := by
  have hl1 := h1.len; have hl2 := h2.len; have hl3 := h3.len
  obtain ⟨hn1, hn2⟩ := hn
  obtain ⟨res, hres⟩ : ∃ x, crtB ⟨F, P, n, C⟩ = x := ⟨_, rfl⟩
  rw [hres]
  have HRES := Lib.hid hres
  have H1 := Lib.hid h1; have H2 := Lib.hid h2; have H3 := Lib.hid h3; have Q1 := Lib.hid hq1; have Q2 := Lib.hid hq2
  have hx := Blk.new w 25 #[.slice fa F.length fc, .slice wa P.length wc, .int .i64 n, .slice ca C.length cc]
  have hw0 : Below w.heap.size w (w.alloc (.cells #[.slice fa F.length fc, .slice wa P.length wc, .int .i64 n, .slice ca C.length cc] 25)) := (Below.refl _ _).alloc (Nat.le_refl _) _
  clear hres h1 h2 h3 hq1 hq2
  by_cases hpf : P.length = F.length
  case neg =>
    obtain rfl : res = false := by rw [← HRES.out]; exact crtB_len hpf
    have hne : ((P.length : Int) != (F.length : Int)) = true := by simp; omega
    clear hpf
    go_enter Try.func7, Try.ntmps7
    go_wp2
    go_ret
    exact ⟨rfl, hw0⟩
  have hne : ((P.length : Int) != (F.length : Int)) = false := by simp; omega
  by_cases hp : 1 ≤ n ∧ n ≤ 64
  case neg =>
    obtain rfl : res = false := by rw [← HRES.out]; exact crtB_pow hp
    clear hpf
    by_cases hlo : n < 1
    · clear hp
      go_enter Try.func7, Try.ntmps7
      go_wp2
      go_ret
      exact ⟨rfl, hw0⟩
    · have hhi : 64 < n := by omega
      clear hp
      go_enter Try.func7, Try.ntmps7
      go_wp2
      go_ret
      exact ⟨rfl, hw0⟩
  have HPF := Lib.hid hpf
  obtain ⟨hp1, hp2⟩ := hp
  clear hpf
  go_enter Try.func7, Try.ntmps7
  go_wp2
  revert hx hw0
  generalize w.alloc (.cells #[.slice fa F.length fc, .slice wa P.length wc, .int .i64 n, .slice ca C.length cc] 25) = w0
  intro hx hw0
  clear hne
  go_loopg [27] F.length (fun g q wr => ∃ k : Nat, k + g = F.length ∧ q = .int .i64 k ∧ Below w.heap.size w wr ∧ Blk wr w.heap.size 25 #[.slice fa F.length fc, .slice wa P.length wc, .int .i64 n, .slice ca C.length cc] ∧ ∀ j, j < k → facB ⟨F, P, n, C⟩ j = true)
  case atStart => exact ⟨0, by omega, rfl, hw0, hx, fun j hj => by omega⟩
  case round =>
    clear hx hw0
    obtain ⟨k, hkg, rfl, hwr, hx, hall⟩ := hrel
    have HKG := Lib.hid hkg
    have HA := Lib.hid hall
    have hxl := hx.lt
    have z0 := hx.cell 0; have z1 := hx.cell 1; have z2 := hx.cell 2; have z3 := hx.cell 3
    have HX := Lib.hid hx
    clear hkg hall hx
    by_cases hlt : k < F.length
    · obtain ⟨x, hxx⟩ := get_of_lt (xs := P) (k := k) (by rw [HPF.out]; exact hlt)
      obtain ⟨f, hf⟩ := get_of_lt hlt
      have hkp : k < P.length := lt_of_get hxx
      obtain ⟨b, off, hao, hc, hx1, hx2⟩ := ints_cell (H2.out.ext (Ext.below hwr)) hxx
      obtain ⟨b', off', hao', pa, pc, hc', hPR⟩ := (H1.out.ext (Ext.below hwr)).2.2 k f hf
      subst hao hao'
      have hfl := hPR.len
      have hfac := facB_of (c := ⟨F, P, n, C⟩) hxx hf
      have CP := polyP_any f pa pc wr hPR (Q1.out f (List.mem_of_getElem? hf))
      have HF := Lib.hid hfac
      simp only [Nat.mul_one] at hc'
      have hbl : b < wr.heap.size := World.block_lt_of_cell? wr _ hc
      have hbl' : b' < wr.heap.size := World.block_lt_of_cell? wr _ hc'
      clear hxx hf hPR hfac
      by_cases hxr : 0 ≤ x ∧ x ≤ 64
      case neg =>
        obtain rfl : res = false := by rw [← HRES.out]; exact crtB_fac hlt (by rw [HF.out, decide_eq_false hxr]; rfl)
        clear CP
        by_cases hx0 : x < 0
        · clear hxr
          go_wp2
          go_ret
          exact ⟨rfl, hwr⟩
        · have hx64 : 64 < x := by omega
          clear hxr
          go_wp2
          go_ret
          exact ⟨rfl, hwr⟩
      have HF2 := HF.out
      rw [decide_eq_true hxr] at HF2
      obtain ⟨hxr1, hxr2⟩ := hxr
      by_cases hf0 : f.length = 0
      · obtain rfl : res = false := by rw [← HRES.out]; exact crtB_fac hlt (by rw [HF2, decide_eq_true hf0]; rfl)
        have he0 : ((f.length : Int) == 0) = true := by simp [hf0]
        clear CP HF2 hf0
        go_wp2
        go_ret
        exact ⟨rfl, hwr⟩
      · have he0 : ((f.length : Int) == 0) = false := by simp; exact fun e => hf0 (by simp [e])
        rw [decide_eq_false hf0] at HF2
        revert CP HF2
        generalize polyB f = pb
        intro CP HF2
        replace CP := Lib.hid CP
        replace HF2 := Lib.hid HF2
        clear hf0 HF
        cases pb
        · obtain rfl : res = false := by rw [← HRES.out]; exact crtB_fac hlt (by rw [HF2.out]; rfl)
          clear HF2
          go_wp2_with fail
          refine CP.out.mono ?_
          rintro e w2 ⟨rfl, hb2⟩
          have hw2 := below_then hwr hb2
          go_wp2
          go_ret
          exact ⟨rfl, hw2⟩
        · go_wp2_with fail
          refine CP.out.mono ?_
          rintro e w2 ⟨rfl, hb2⟩
          have hw2 := below_then hwr hb2
          have hx2 := HX.out.below' hb2
          go_wp2
          go_roundg (gk - 1)
          case rel => exact ⟨k + 1, by have := HKG.out; omega, by go_num, hw2, hx2, all_succ HA.out (by rw [HF2.out]; rfl)⟩
          case measure => have := HKG.out; omega
    · have hfin : ∀ j, j < F.length → facB ⟨F, P, n, C⟩ j = true := fun j hj => HA.out j (by omega)
      have HFIN := Lib.hid hfin
      obtain ⟨wo, rfl⟩ : ∃ wo : World, wo = wr := ⟨_, rfl⟩
      clear hfin HKG HA
      go_wp2
      go_loopg [60] C.length (fun g q wr => ∃ k : Nat, k + g = C.length ∧ q = .int .i64 k ∧ Below w.heap.size w wr ∧ (C.take k).all polyB = true)
      case atStart => exact ⟨0, by omega, rfl, hwr, rfl⟩
      case round =>
        clear HX z0 z1 z2 z3 hxl hwr
        obtain ⟨k2, hkg, rfl, hwr, hall⟩ := hrel
        have HKG := Lib.hid hkg
        have HA := Lib.hid hall
        clear hkg hall
        by_cases hlt2 : k2 < C.length
        · obtain ⟨f, hf⟩ := get_of_lt hlt2
          obtain ⟨b', off', hao', pa, pc, hc', hPR⟩ := (H3.out.ext (Ext.below hwr)).2.2 k2 f hf
          subst hao'
          have hfl := hPR.len
          have CP := polyP_any f pa pc wr hPR (Q2.out f (List.mem_of_getElem? hf))
          have HF := Lib.hid hf
          simp only [Nat.mul_one] at hc'
          have hbl' : b' < wr.heap.size := World.block_lt_of_cell? wr _ hc'
          clear hf hPR
          cases hpb : polyB f
          · rw [hpb] at CP
            obtain rfl : res = false := by rw [← HRES.out]; exact crtB_cof HF.out hpb
            replace CP := Lib.hid CP
            clear hpb
            go_wp2_with fail
            refine CP.out.mono ?_
            rintro e w2 ⟨rfl, hb2⟩
            have hw2 := below_then hwr hb2
            go_wp2
            go_ret
            exact ⟨rfl, hw2⟩
          · rw [hpb] at CP
            replace CP := Lib.hid CP
            have HPB := Lib.hid hpb
            clear hpb
            go_wp2_with fail
            refine CP.out.mono ?_
            rintro e w2 ⟨rfl, hb2⟩
            have hw2 := below_then hwr hb2
            go_wp2
            go_roundg (gk - 1)
            case rel => exact ⟨k2 + 1, by have := HKG.out; omega, by go_num, hw2, all_take HA.out HF.out HPB.out⟩
            case measure => have := HKG.out; omega
        · have HA2 := HA.out
          rw [show k2 = C.length by have := HKG.out; omega] at HA2
          obtain rfl : res = true := by rw [← HRES.out]; exact crtB_good HPF.out ⟨hp1, hp2⟩ HFIN.out HA2
          clear HA2
          go_wp2
          go_ret
          exact ⟨rfl, hwr⟩
set_option maxRecDepth 100000 in
set_option maxHeartbeats 8000000 in
theorem crtR_any (F C : List (List Trm)) (P : List Int) (n : Int) (fa wa ca : Option Addr) (fc wc cc : Nat) (w : World) (h1 : PolysR w fa fc F) (h2 : IntsR w wa wc P) (h3 : PolysR w ca cc C) (hn : InInt n)
    (hq1 : ∀ p ∈ F, ∀ t ∈ p, t.coef.num.length ≤ 2000000 ∧ t.coef.den.length ≤ 2000000) (hq2 : ∀ p ∈ C, ∀ t ∈ p, t.coef.num.length ≤ 2000000 ∧ t.coef.den.length ≤ 2000000) :
    Calls Try.prog 8 #[.agg #[.slice fa F.length fc, .slice wa P.length wc, .int .i64 n, .slice ca C.length cc]] w fun e w' => e = .returned (.bool (crtB ⟨F, P, n, C⟩)) ∧ Below w.heap.size w w' := by
  have hl1 := h1.len; have hl2 := h2.len; have hl3 := h3.len
  obtain ⟨hn1, hn2⟩ := hn
  obtain ⟨res, hres⟩ : ∃ x, crtB ⟨F, P, n, C⟩ = x := ⟨_, rfl⟩
  rw [hres]
  have HRES := Lib.hid hres
  have H1 := Lib.hid h1; have H2 := Lib.hid h2; have H3 := Lib.hid h3; have Q1 := Lib.hid hq1; have Q2 := Lib.hid hq2
  have hx := Blk.new w 25 #[.slice fa F.length fc, .slice wa P.length wc, .int .i64 n, .slice ca C.length cc]
  have hw0 : Below w.heap.size w (w.alloc (.cells #[.slice fa F.length fc, .slice wa P.length wc, .int .i64 n, .slice ca C.length cc] 25)) := (Below.refl _ _).alloc (Nat.le_refl _) _
  clear hres h1 h2 h3 hq1 hq2
  by_cases hpf : P.length = F.length
  case neg =>
    obtain rfl : res = false := by rw [← HRES.out]; exact crtB_len hpf
    have hne : ((P.length : Int) != (F.length : Int)) = true := by simp; omega
    clear hpf
    go_enter Try.func8, Try.ntmps8
    go_wp2
    go_ret
    exact ⟨rfl, hw0⟩
  have hne : ((P.length : Int) != (F.length : Int)) = false := by simp; omega
  by_cases hp : 1 ≤ n ∧ n ≤ 64
  case neg =>
    obtain rfl : res = false := by rw [← HRES.out]; exact crtB_pow hp
    clear hpf
    by_cases hlo : n < 1
    · clear hp
      go_enter Try.func8, Try.ntmps8
      go_wp2
      go_ret
      exact ⟨rfl, hw0⟩
    · have hhi : 64 < n := by omega
      clear hp
      go_enter Try.func8, Try.ntmps8
      go_wp2
      go_ret
      exact ⟨rfl, hw0⟩
  have HPF := Lib.hid hpf
  obtain ⟨hp1, hp2⟩ := hp
  clear hpf
  go_enter Try.func8, Try.ntmps8
  go_wp2
  revert hx hw0
  generalize w.alloc (.cells #[.slice fa F.length fc, .slice wa P.length wc, .int .i64 n, .slice ca C.length cc] 25) = w0
  intro hx hw0
  clear hne
  go_loopg [27] F.length (fun g q wr => ∃ k : Nat, k + g = F.length ∧ q = .int .i64 k ∧ Below w.heap.size w wr ∧ Blk wr w.heap.size 25 #[.slice fa F.length fc, .slice wa P.length wc, .int .i64 n, .slice ca C.length cc] ∧ ∀ j, j < k → facB ⟨F, P, n, C⟩ j = true)
  case atStart => exact ⟨0, by omega, rfl, hw0, hx, fun j hj => by omega⟩
  case round =>
    clear hx hw0
    obtain ⟨k, hkg, rfl, hwr, hx, hall⟩ := hrel
    have HKG := Lib.hid hkg
    have HA := Lib.hid hall
    have hxl := hx.lt
    have z0 := hx.cell 0; have z1 := hx.cell 1; have z2 := hx.cell 2; have z3 := hx.cell 3
    have HX := Lib.hid hx
    clear hkg hall hx
    by_cases hlt : k < F.length
    · obtain ⟨x, hxx⟩ := get_of_lt (xs := P) (k := k) (by rw [HPF.out]; exact hlt)
      obtain ⟨f, hf⟩ := get_of_lt hlt
      have hkp : k < P.length := lt_of_get hxx
      obtain ⟨b, off, hao, hc, hx1, hx2⟩ := ints_cell (H2.out.ext (Ext.below hwr)) hxx
      obtain ⟨b', off', hao', pa, pc, hc', hPR⟩ := (H1.out.ext (Ext.below hwr)).2.2 k f hf
      subst hao hao'
      have hfl := hPR.len
      have hfac := facB_of (c := ⟨F, P, n, C⟩) hxx hf
      have CP := polyR_any f pa pc wr hPR (Q1.out f (List.mem_of_getElem? hf))
      have HF := Lib.hid hfac
      simp only [Nat.mul_one] at hc'
      have hbl : b < wr.heap.size := World.block_lt_of_cell? wr _ hc
      have hbl' : b' < wr.heap.size := World.block_lt_of_cell? wr _ hc'
      clear hxx hf hPR hfac
      by_cases hxr : 0 ≤ x ∧ x ≤ 64
      case neg =>
        obtain rfl : res = false := by rw [← HRES.out]; exact crtB_fac hlt (by rw [HF.out, decide_eq_false hxr]; rfl)
        clear CP
        by_cases hx0 : x < 0
        · clear hxr
          go_wp2
          go_ret
          exact ⟨rfl, hwr⟩
        · have hx64 : 64 < x := by omega
          clear hxr
          go_wp2
          go_ret
          exact ⟨rfl, hwr⟩
      have HF2 := HF.out
      rw [decide_eq_true hxr] at HF2
      obtain ⟨hxr1, hxr2⟩ := hxr
      by_cases hf0 : f.length = 0
      · obtain rfl : res = false := by rw [← HRES.out]; exact crtB_fac hlt (by rw [HF2, decide_eq_true hf0]; rfl)
        have he0 : ((f.length : Int) == 0) = true := by simp [hf0]
        clear CP HF2 hf0
        go_wp2
        go_ret
        exact ⟨rfl, hwr⟩
      · have he0 : ((f.length : Int) == 0) = false := by simp; exact fun e => hf0 (by simp [e])
        rw [decide_eq_false hf0] at HF2
        revert CP HF2
        generalize polyB f = pb
        intro CP HF2
        replace CP := Lib.hid CP
        replace HF2 := Lib.hid HF2
        clear hf0 HF
        cases pb
        · obtain rfl : res = false := by rw [← HRES.out]; exact crtB_fac hlt (by rw [HF2.out]; rfl)
          clear HF2
          go_wp2_with fail
          refine CP.out.mono ?_
          rintro e w2 ⟨rfl, hb2⟩
          have hw2 := below_then hwr hb2
          go_wp2
          go_ret
          exact ⟨rfl, hw2⟩
        · go_wp2_with fail
          refine CP.out.mono ?_
          rintro e w2 ⟨rfl, hb2⟩
          have hw2 := below_then hwr hb2
          have hx2 := HX.out.below' hb2
          go_wp2
          go_roundg (gk - 1)
          case rel => exact ⟨k + 1, by have := HKG.out; omega, by go_num, hw2, hx2, all_succ HA.out (by rw [HF2.out]; rfl)⟩
          case measure => have := HKG.out; omega
    · have hfin : ∀ j, j < F.length → facB ⟨F, P, n, C⟩ j = true := fun j hj => HA.out j (by omega)
      have HFIN := Lib.hid hfin
      obtain ⟨wo, rfl⟩ : ∃ wo : World, wo = wr := ⟨_, rfl⟩
      clear hfin HKG HA
      go_wp2
      go_loopg [60] C.length (fun g q wr => ∃ k : Nat, k + g = C.length ∧ q = .int .i64 k ∧ Below w.heap.size w wr ∧ (C.take k).all polyB = true)
      case atStart => exact ⟨0, by omega, rfl, hwr, rfl⟩
      case round =>
        clear HX z0 z1 z2 z3 hxl hwr
        obtain ⟨k2, hkg, rfl, hwr, hall⟩ := hrel
        have HKG := Lib.hid hkg
        have HA := Lib.hid hall
        clear hkg hall
        by_cases hlt2 : k2 < C.length
        · obtain ⟨f, hf⟩ := get_of_lt hlt2
          obtain ⟨b', off', hao', pa, pc, hc', hPR⟩ := (H3.out.ext (Ext.below hwr)).2.2 k2 f hf
          subst hao'
          have hfl := hPR.len
          have CP := polyR_any f pa pc wr hPR (Q2.out f (List.mem_of_getElem? hf))
          have HF := Lib.hid hf
          simp only [Nat.mul_one] at hc'
          have hbl' : b' < wr.heap.size := World.block_lt_of_cell? wr _ hc'
          clear hf hPR
          cases hpb : polyB f
          · rw [hpb] at CP
            obtain rfl : res = false := by rw [← HRES.out]; exact crtB_cof HF.out hpb
            replace CP := Lib.hid CP
            clear hpb
            go_wp2_with fail
            refine CP.out.mono ?_
            rintro e w2 ⟨rfl, hb2⟩
            have hw2 := below_then hwr hb2
            go_wp2
            go_ret
            exact ⟨rfl, hw2⟩
          · rw [hpb] at CP
            replace CP := Lib.hid CP
            have HPB := Lib.hid hpb
            clear hpb
            go_wp2_with fail
            refine CP.out.mono ?_
            rintro e w2 ⟨rfl, hb2⟩
            have hw2 := below_then hwr hb2
            go_wp2
            go_roundg (gk - 1)
            case rel => exact ⟨k2 + 1, by have := HKG.out; omega, by go_num, hw2, all_take HA.out HF.out HPB.out⟩
            case measure => have := HKG.out; omega
        · have HA2 := HA.out
          rw [show k2 = C.length by have := HKG.out; omega] at HA2
          obtain rfl : res = true := by rw [← HRES.out]; exact crtB_good HPF.out ⟨hp1, hp2⟩ HFIN.out HA2
          clear HA2
          go_wp2
          go_ret
          exact ⟨rfl, hwr⟩
end Go.Proofs.Ytfahnnkppakiiaa

/- Walks: the size of a certificate, by the program and by the reference. -/
namespace Go.Proofs.Ytfahnnkppakiiaa
open Go.RowKit

theorem sum_take {α : Type} {l : List (List α)} {k : Nat} {x : List α} (h : l[k]? = some x) : ((l.take (k + 1)).map List.length).sum = ((l.take k).map List.length).sum + x.length := by
  rw [take_more h, List.map_append, List.sum_append]; simp
theorem sum_few {l : List (List Trm)} (h : fitL l = true) (k : Nat) : ((l.take k).map List.length).sum ≤ 48 := by
  obtain ⟨h1, h2⟩ := fitL_mem h
  have h3 : ∀ (m : List (List Trm)), (∀ p ∈ m, p.length ≤ 8) → (m.map List.length).sum ≤ 8 * m.length := by
    intro m
    induction m with
    | nil => simp
    | cons p m ih =>
      intro hm
      have := ih fun q hq => hm q (by simp [hq])
      have := hm p (by simp)
      simp only [List.map_cons, List.sum_cons, List.length_cons]; omega
  have h4 := h3 (l.take k) fun p hp => (h2 p (List.mem_of_mem_take hp)).1
  have h5 : (l.take k).length ≤ 6 := by rw [List.length_take]; omega
  omega
set_option maxRecDepth 100000 in
set_option maxHeartbeats 4000000 in
theorem sizeP_any (F C : List (List Trm)) (P : List Int) (n : Int) (fa wa ca : Option Addr) (fc wc cc : Nat) (w : World) (h1 : PolysR w fa fc F) (h3 : PolysR w ca cc C) (hf1 : fitL F = true) (hf2 : fitL C = true) :
    Calls Try.prog 9 #[.agg #[.slice fa F.length fc, .slice wa P.length wc, .int .i64 n, .slice ca C.length cc]] w fun e w' => e = .returned (.int .i64 (((F.map List.length).sum + (C.map List.length).sum : Nat) : Int)) ∧ Below w.heap.size w w' := by
  have hl1 := h1.len; have hl3 := h3.len
  have S1 := sum_few hf1
  have S2 := sum_few hf2
  obtain ⟨res, hres⟩ : ∃ x, (F.map List.length).sum + (C.map List.length).sum = x := ⟨_, rfl⟩
  rw [hres]
  have HRES := Lib.hid hres
  have H1 := Lib.hid h1; have H3 := Lib.hid h3
  replace S1 := Lib.hid S1; replace S2 := Lib.hid S2
  have hx := Blk.new w 25 #[.slice fa F.length fc, .slice wa P.length wc, .int .i64 n, .slice ca C.length cc]
  have hw0 : Below w.heap.size w (w.alloc (.cells #[.slice fa F.length fc, .slice wa P.length wc, .int .i64 n, .slice ca C.length cc] 25)) := (Below.refl _ _).alloc (Nat.le_refl _) _
  clear hres h1 h3 hf1 hf2
  go_enter Try.func9, Try.ntmps9
  go_wp2
  revert hx hw0
  generalize w.alloc (.cells #[.slice fa F.length fc, .slice wa P.length wc, .int .i64 n, .slice ca C.length cc] 25) = w0
  intro hx hw0
  go_loopg [3, 11] F.length (fun g s q wr => ∃ k : Nat, k + g = F.length ∧ s = .int .i64 ((((F.take k).map List.length).sum : Nat) : Int) ∧ q = .int .i64 k ∧ w0 = wr)
  case atStart => exact ⟨0, by omega, rfl, rfl, rfl⟩
  case round =>
    obtain ⟨k, hkg, rfl, rfl, rfl⟩ := hrel
    have HKG := Lib.hid hkg
    have z3 := hx.cell 3
    have hxl := hx.lt
    clear hkg
    have hs1 := S1.out k
    by_cases hlt : k < F.length
    · obtain ⟨f, hf⟩ := get_of_lt hlt
      obtain ⟨b', off', hao', pa, pc, hc', hPR⟩ := (H1.out.ext (Ext.below hw0)).2.2 k f hf
      subst hao'
      have hfl := hPR.len
      have hst := sum_take hf
      have hs2 := S1.out (k + 1)
      rw [hst] at hs2
      simp only [Nat.mul_one] at hc'
      have hbl' : b' < w0.heap.size := World.block_lt_of_cell? w0 _ hc'
      have HST := Lib.hid hst
      clear hf hPR hst
      generalize hsm : ((F.take k).map List.length).sum = sm at HST hs1 hs2 ⊢
      clear hsm
      go_wp2
      go_roundg (gk - 1)
      case rel => exact ⟨k + 1, by have := HKG.out; omega, by rw [HST.out]; go_num, by go_num, rfl⟩
      case measure => have := HKG.out; omega
    · have HF : Hid (((F.take k).map List.length).sum = (F.map List.length).sum) := Lib.hid (by rw [List.take_of_length_le (by omega)])
      obtain ⟨sm, hsm⟩ : ∃ x, ((F.take k).map List.length).sum = x := ⟨_, rfl⟩
      have HF2 := HF.out
      rw [hsm] at HF2 hs1 ⊢
      have HR := HRES.out
      rw [← HF2] at HR
      replace HR := Lib.hid HR
      clear HKG HF HF2 HRES hsm S1
      obtain ⟨wo, rfl⟩ : ∃ wo : World, wo = w0 := ⟨_, rfl⟩
      go_wp2
      go_loopg [3, 23] C.length (fun g s q wr => ∃ k : Nat, k + g = C.length ∧ s = .int .i64 ((sm + ((C.take k).map List.length).sum : Nat) : Int) ∧ q = .int .i64 k ∧ wo = wr)
      case atStart => exact ⟨0, by omega, rfl, rfl, rfl⟩
      case round =>
        obtain ⟨k2, hkg, rfl, rfl, rfl⟩ := hrel
        have HKG := Lib.hid hkg
        clear hkg
        have hs3 := S2.out k2
        by_cases hlt2 : k2 < C.length
        · obtain ⟨f, hf⟩ := get_of_lt hlt2
          obtain ⟨b', off', hao', pa, pc, hc', hPR⟩ := (H3.out.ext (Ext.below hw0)).2.2 k2 f hf
          subst hao'
          have hfl := hPR.len
          have hst := sum_take hf
          have hs2 := S2.out (k2 + 1)
          rw [hst] at hs2
          simp only [Nat.mul_one] at hc'
          have hbl' : b' < wo.heap.size := World.block_lt_of_cell? wo _ hc'
          have HST := Lib.hid hst
          clear hf hPR hst
          generalize hsm : ((C.take k2).map List.length).sum = sn at HST hs3 hs2 ⊢
          clear hsm
          go_wp2
          go_roundg (gk - 1)
          case rel => exact ⟨k2 + 1, by have := HKG.out; omega, by rw [HST.out]; go_num, by go_num, rfl⟩
          case measure => have := HKG.out; omega
        · have HR2 := HR.out
          rw [← List.take_of_length_le (show C.length ≤ k2 by omega) (l := C)] at HR2
          subst HR2
          go_wp2
          go_ret
          exact ⟨rfl, hw0⟩
set_option maxRecDepth 100000 in
set_option maxHeartbeats 4000000 in
theorem sizeR_any (F C : List (List Trm)) (P : List Int) (n : Int) (fa wa ca : Option Addr) (fc wc cc : Nat) (w : World) (h1 : PolysR w fa fc F) (h3 : PolysR w ca cc C) (hf1 : fitL F = true) (hf2 : fitL C = true) :
    Calls Try.prog 10 #[.agg #[.slice fa F.length fc, .slice wa P.length wc, .int .i64 n, .slice ca C.length cc]] w fun e w' => e = .returned (.int .i64 (((F.map List.length).sum + (C.map List.length).sum : Nat) : Int)) ∧ Below w.heap.size w w' := by
  have hl1 := h1.len; have hl3 := h3.len
  have S1 := sum_few hf1
  have S2 := sum_few hf2
  obtain ⟨res, hres⟩ : ∃ x, (F.map List.length).sum + (C.map List.length).sum = x := ⟨_, rfl⟩
  rw [hres]
  have HRES := Lib.hid hres
  have H1 := Lib.hid h1; have H3 := Lib.hid h3
  replace S1 := Lib.hid S1; replace S2 := Lib.hid S2
  have hx := Blk.new w 25 #[.slice fa F.length fc, .slice wa P.length wc, .int .i64 n, .slice ca C.length cc]
  have hw0 : Below w.heap.size w (w.alloc (.cells #[.slice fa F.length fc, .slice wa P.length wc, .int .i64 n, .slice ca C.length cc] 25)) := (Below.refl _ _).alloc (Nat.le_refl _) _
  clear hres h1 h3 hf1 hf2
  go_enter Try.func10, Try.ntmps10
  go_wp2
  revert hx hw0
  generalize w.alloc (.cells #[.slice fa F.length fc, .slice wa P.length wc, .int .i64 n, .slice ca C.length cc] 25) = w0
  intro hx hw0
  go_loopg [3, 11] F.length (fun g s q wr => ∃ k : Nat, k + g = F.length ∧ s = .int .i64 ((((F.take k).map List.length).sum : Nat) : Int) ∧ q = .int .i64 k ∧ w0 = wr)
  case atStart => exact ⟨0, by omega, rfl, rfl, rfl⟩
  case round =>
    obtain ⟨k, hkg, rfl, rfl, rfl⟩ := hrel
    have HKG := Lib.hid hkg
    have z3 := hx.cell 3
    have hxl := hx.lt
    clear hkg
    have hs1 := S1.out k
    by_cases hlt : k < F.length
    · obtain ⟨f, hf⟩ := get_of_lt hlt
      obtain ⟨b', off', hao', pa, pc, hc', hPR⟩ := (H1.out.ext (Ext.below hw0)).2.2 k f hf
      subst hao'
      have hfl := hPR.len
      have hst := sum_take hf
      have hs2 := S1.out (k + 1)
      rw [hst] at hs2
      simp only [Nat.mul_one] at hc'
      have hbl' : b' < w0.heap.size := World.block_lt_of_cell? w0 _ hc'
      have HST := Lib.hid hst
      clear hf hPR hst
      generalize hsm : ((F.take k).map List.length).sum = sm at HST hs1 hs2 ⊢
      clear hsm
      go_wp2
      go_roundg (gk - 1)
      case rel => exact ⟨k + 1, by have := HKG.out; omega, by rw [HST.out]; go_num, by go_num, rfl⟩
      case measure => have := HKG.out; omega
    · have HF : Hid (((F.take k).map List.length).sum = (F.map List.length).sum) := Lib.hid (by rw [List.take_of_length_le (by omega)])
      obtain ⟨sm, hsm⟩ : ∃ x, ((F.take k).map List.length).sum = x := ⟨_, rfl⟩
      have HF2 := HF.out
      rw [hsm] at HF2 hs1 ⊢
      have HR := HRES.out
      rw [← HF2] at HR
      replace HR := Lib.hid HR
      clear HKG HF HF2 HRES hsm S1
      obtain ⟨wo, rfl⟩ : ∃ wo : World, wo = w0 := ⟨_, rfl⟩
      go_wp2
      go_loopg [3, 23] C.length (fun g s q wr => ∃ k : Nat, k + g = C.length ∧ s = .int .i64 ((sm + ((C.take k).map List.length).sum : Nat) : Int) ∧ q = .int .i64 k ∧ wo = wr)
      case atStart => exact ⟨0, by omega, rfl, rfl, rfl⟩
      case round =>
        obtain ⟨k2, hkg, rfl, rfl, rfl⟩ := hrel
        have HKG := Lib.hid hkg
        clear hkg
        have hs3 := S2.out k2
        by_cases hlt2 : k2 < C.length
        · obtain ⟨f, hf⟩ := get_of_lt hlt2
          obtain ⟨b', off', hao', pa, pc, hc', hPR⟩ := (H3.out.ext (Ext.below hw0)).2.2 k2 f hf
          subst hao'
          have hfl := hPR.len
          have hst := sum_take hf
          have hs2 := S2.out (k2 + 1)
          rw [hst] at hs2
          simp only [Nat.mul_one] at hc'
          have hbl' : b' < wo.heap.size := World.block_lt_of_cell? wo _ hc'
          have HST := Lib.hid hst
          clear hf hPR hst
          generalize hsm : ((C.take k2).map List.length).sum = sn at HST hs3 hs2 ⊢
          clear hsm
          go_wp2
          go_roundg (gk - 1)
          case rel => exact ⟨k2 + 1, by have := HKG.out; omega, by rw [HST.out]; go_num, by go_num, rfl⟩
          case measure => have := HKG.out; omega
        · have HR2 := HR.out
          rw [← List.take_of_length_le (show C.length ≤ k2 by omega) (l := C)] at HR2
          subst HR2
          go_wp2
          go_ret
          exact ⟨rfl, hw0⟩
end Go.Proofs.Ytfahnnkppakiiaa
