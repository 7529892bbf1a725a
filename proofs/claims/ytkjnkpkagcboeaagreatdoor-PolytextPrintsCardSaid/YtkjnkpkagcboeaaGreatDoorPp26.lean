/- Walks: whether a certificate is right, by the program and by the reference. -/
import Derived.Test.YtkjnkpkagcboeaaGreatDoorPp13
import Derived.Test.YtkjnkpkagcboeaaGreatDoorPp25
import Derived.Test.YtkjnkpkagcboeaaGreatDoorPp17
set_option linter.all false
set_option maxRecDepth 100000
set_option maxHeartbeats 4000000
namespace Go.Proofs.YtkjnkpkagcboeaaGreatDoor
open Go.RowKit
theorem polyR_any (l : List Trm) (a : Option Addr) (c : Nat) (w : World) (h : PolyR w a c l) (hq : ∀ t ∈ l, t.coef.num.length <= 2000000 /\ t.coef.den.length <= 2000000) :
  Calls Tryz.prog 17 #[.slice a l.length c] w fun e w' => e = .returned (.bool (polyB l)) /\ Below w.heap.size w w' := by
 have hlen := h.len
 obtain ⟨res, hres⟩ : ∃ x, polyB l = x := ⟨_, rfl⟩
 rw [hres]
 have HRES := Hd hres
 have HP := Hd h
 have HQ := Hd hq
 clear hres h hq
 go_enter Tryz.func17, Tryz.ntmps17
 go_wp2
 go_loopg [3] l.length (fun g q wr => ∃ k : Nat, k + g = l.length /\ q = .int .i64 k /\ Below w.heap.size w wr /\ ∀ j, j < k -> badAt l j = false)
 case atStart => exact ⟨0, by omega, rfl, Below.refl _ _, fun j hj => by omega⟩
 case round =>
  obtain ⟨k, hkg, rfl, hwr, hall⟩ := hrel
  have HKG := Hd hkg
  have HA := Hd hall
  clear hkg hall
  by_cases hlt : k < l.length
  ·
   obtain ⟨t, ht⟩ := get_of_lt hlt
   have hPr := HP.out.ext (xbw hwr)
   have htq := HQ.out t (List.mem_of_getElem? ht)
   obtain ⟨b, off, hao, p, hC, hP⟩ := hPr.2.2 k t ht
   subst hao
   obtain ⟨c0, c1, c2, c3⟩ := hC
   obtain ⟨hP1, hP2, hP3⟩ := hP
   have HT := Hd ht
   have HPR := Hd hPr
   obtain ⟨⟨neg, num, den⟩, mono⟩ := t
   dsimp only at c0 c1 c2 c3 hP1 hP2 hP3 htq
   have CR := fun W (hW : Below wr.heap.size wr W) => right03_any ⟨neg, num, den⟩ p.na p.nc p.da p.dc W (hP2.ext (xbw hW)) (hP3.ext (xbw hW)) htq.1 htq.2
   unfold Rt.val at CR
   dsimp only at CR
   replace CR := Hd CR
   have HP1 := Hd hP1; have HP2 := Hd hP2; have HP3 := Hd hP3; have HTQ := Hd htq
   have hbl : b < wr.heap.size := World.block_lt_of_cell? wr _ c0
   clear ht hPr hP1 hP2 hP3 htq
   have d0 := held c0; have d1 := held c1; have d2 := held c2; have d3 := held c3
   have hw0 := Below.refl wr.heap.size wr
   cases hr : Rt.right ⟨neg, num, den⟩ with
   | false =>
    rw [hr] at CR
    obtain rfl : res = false := by rw [<- HRES.out]; exact polyB_bad hlt (badAt_term HT.out (okT_coef hr))
    clear hr
    go_wp2_with fail
    refine (CR.out _ hw0).mono ?_
    rintro e w3 ⟨rfl, hb3⟩
    have hw3 := bth hw0 hb3
    go_wp2
    go_ret
    exact ⟨rfl, bth hwr hb3⟩
   | true =>
    rw [hr] at CR
    have h0 : val den ≠ 0 := right_pos hr
    have CS := fun W (hW : Below wr.heap.size wr W) => qsignR_any neg num den (val num) p.na p.da p.nc p.dc W (HP2.out.ext (xbw hW)) (HP3.out.ext (xbw hW)) rfl h0 HTQ.out.1 HTQ.out.2
    have CM := fun W (hW : Below wr.heap.size wr W) => monoR_any mono p.aa p.ac W (HP1.out.ext (xbw hW))
    have hsg := sgnZ_eq neg (val num)
    have HR := Hd hr
    clear h0 hr
    by_cases hn0 : val num = 0
    ·
     rw [decide_eq_true hn0] at hsg
     obtain rfl : res = false := by rw [<- HRES.out]; exact polyB_bad hlt (badAt_term HT.out (okT_zero hn0))
     revert CS hsg
     generalize sgnZ neg (val num) = sg
     intro CS hsg
     replace CS := Hd CS; replace CM := Hd CM
     clear hn0
     go_wp2_with fail
     refine (CR.out _ hw0).mono ?_
     rintro e w3 ⟨rfl, hb3⟩
     have hw3 := bth hw0 hb3
     go_wp2_with fail
     refine (CS.out _ hw3).mono ?_
     rintro e w4 ⟨rfl, hb4⟩
     have hw4 := bth hw3 hb4
     go_wp2
     go_ret
     exact ⟨rfl, bth hwr hw4⟩
    ·
     rw [decide_eq_false hn0] at hsg
     have HN0 := Hd hn0
     revert CS hsg
     generalize sgnZ neg (val num) = sg
     intro CS hsg
     replace CS := Hd CS
     clear hn0
     cases hm : monoB mono with
     | false =>
      rw [hm] at CM
      replace CM := Hd CM
      obtain rfl : res = false := by rw [<- HRES.out]; exact polyB_bad hlt (badAt_term HT.out (okT_mono hm))
      clear hm
      go_wp2_with fail
      refine (CR.out _ hw0).mono ?_
      rintro e w3 ⟨rfl, hb3⟩
      have hw3 := bth hw0 hb3
      go_wp2_with fail
      refine (CS.out _ hw3).mono ?_
      rintro e w4 ⟨rfl, hb4⟩
      have hw4 := bth hw3 hb4
      go_wp2_with fail
      refine (CM.out _ hw4).mono ?_
      rintro e w5 ⟨rfl, rfl⟩
      go_wp2
      go_ret
      exact ⟨rfl, bth hwr hw4⟩
     | true =>
      rw [hm] at CM
      replace CM := Hd CM
      have hok : okT ⟨⟨neg, num, den⟩, mono⟩ = true := okT_all HR.out HN0.out hm
      have HOK := Hd hok
      clear hm hok
      go_wp2_with fail
      refine (CR.out _ hw0).mono ?_
      rintro e w3 ⟨rfl, hb3⟩
      have hw3 := bth hw0 hb3
      go_wp2_with fail
      refine (CS.out _ hw3).mono ?_
      rintro e w4 ⟨rfl, hb4⟩
      have hw4 := bth hw3 hb4
      go_wp2_with fail
      refine (CM.out _ hw4).mono ?_
      rintro e w5 ⟨rfl, rfl⟩
      go_wp2
      have s0 : Below wr.heap.size wr w4.drew := hw4.drew
      cases k with
      | zero =>
       have hbad := badAt_zero HT.out HOK.out
       have HB := Hd hbad
       clear hbad
       refine wp_region_mixM (S := Below wr.heap.size wr) [(0, .q), (1, .q), (2, .q), (3, .q), (4, .q), (5, .q), (6, .q), (7, .q), (8, .q), (9, .q), (10, .q), (11, .q), (12, .q), (13, .q), (14, .t), (15, .p), (16, .p)] (by kernel_rfl) (by kernel_rfl) (by kernel_rfl) (fun d _ _ _ _ h => by cases d <;> exact h) (s0) ?_
       iterate 3 (refine wpMix_q rfl rfl (fun K hK => ?_); apply Exists.intro; refine ⟨fun w' hw' => ?_, ?_⟩; (focus (go_simp; try rfl)); go_simp; refine hK _ _ ?_; clear hK K)
       iterate 13 (refine wpMix_skip rfl rfl (fun K hK => ?_); go_simp; refine hK _ _ ?_; clear hK K)
       iterate 1 (refine wpMix_p rfl rfl (fun K hK => ?_); apply Exists.intro; refine ⟨fun w' => ?_, ?_⟩; (focus (go_simp; try rfl)); go_simp; refine hK _ _ ?_; clear hK K)
       refine wpMix_nil ?_
       go_wp2
       go_roundg (gk - 1)
       case rel => exact ⟨1, by have := HKG.out; omega, by go_num, bth hwr s0, all_succ HA.out HB.out⟩
       case measure => have := HKG.out; omega
      | succ j =>
       obtain ⟨s, hs⟩ := get_of_lt (xs := l) (k := j) (by omega)
       obtain ⟨b', off', hao, p', hC', hP'⟩ := HPR.out.2.2 j s hs
       injection hao with hao
       injection hao with hao1 hao2
       subst hao1 hao2
       obtain ⟨y0, y1, y2, y3⟩ := hC'
       have hbad := badAt_succ HT.out hs HOK.out
       have e3 := held y3
       have hpv : okT s = true := badAt_ok hs (HA.out j (by omega))
       have CL := fun W (hW : Below wr.heap.size wr W) => cmpR5_any s.mono mono p'.aa p.aa p'.ac p.ac W (hP'.1.ext (xbw hW)) (HP1.out.ext (xbw hW)) (okT_range hpv) (okT_range HOK.out)
       dsimp only at hbad
       revert CL hbad
       generalize lexI s.mono mono = lx
       intro hbad CL
       have hwk : IntKind.i64.wrap (j : Int) = (j : Int) := by rw [IntKind.wrap_i64]; omega
       replace CL := Hd CL
       have HBD := Hd hbad
       have hjl : j < l.length := by omega
       have hj0 : (0 : Int) <= (j : Int) + 1 := by omega
       have hj1 : (j : Int) + 1 < (l.length : Int) := by omega
       clear hbad hP' hs y0 y1 y2 y3 hpv
       by_cases hlx : lx <= 0
       ·
        have hle : decide (lx <= 0) = true := by simpa using hlx
        obtain rfl : res = false := by rw [<- HRES.out]; exact polyB_bad hlt (HBD.out.trans hle)
        clear hlx HBD
        refine wp_region_mixM (S := Below wr.heap.size wr) [(0, .q), (1, .q), (2, .q), (3, .q), (4, .q), (5, .q), (6, .q), (7, .q), (8, .q), (9, .q), (10, .q), (11, .q), (12, .q), (13, .q), (14, .t), (15, .p), (16, .p)] (by kernel_rfl) (by kernel_rfl) (by kernel_rfl) (fun d _ _ _ _ h => by cases d <;> exact h) (s0) ?_
        iterate 14 (refine wpMix_q rfl rfl (fun K hK => ?_); apply Exists.intro; refine ⟨fun w' hw' => ?_, ?_⟩; (focus (go_simp; try rfl)); go_simp; refine hK _ _ ?_; clear hK K)
        refine wpMix_t rfl rfl (fun K hK => ?_)
        go_simp
        refine (CL.out _ s0).mono ?_
        rintro r w6 ⟨rfl, rfl⟩
        dsimp only
        refine hK.out _ _ ?_
        clear hK K
        iterate 2 (refine wpMix_p rfl rfl (fun K hK => ?_); apply Exists.intro; refine ⟨fun w' => ?_, ?_⟩; (focus (go_simp; try rfl)); go_simp; refine hK _ _ ?_; clear hK K)
        refine wpMix_nil ?_
        go_wp2
        go_ret
        exact ⟨rfl, bth hwr s0⟩
       ·
        have hle : decide (lx <= 0) = false := by simpa using hlx
        have HB := Hd (HBD.out.trans hle)
        clear hlx HBD
        refine wp_region_mixM (S := Below wr.heap.size wr) [(0, .q), (1, .q), (2, .q), (3, .q), (4, .q), (5, .q), (6, .q), (7, .q), (8, .q), (9, .q), (10, .q), (11, .q), (12, .q), (13, .q), (14, .t), (15, .p), (16, .p)] (by kernel_rfl) (by kernel_rfl) (by kernel_rfl) (fun d _ _ _ _ h => by cases d <;> exact h) (s0) ?_
        iterate 14 (refine wpMix_q rfl rfl (fun K hK => ?_); apply Exists.intro; refine ⟨fun w' hw' => ?_, ?_⟩; (focus (go_simp; try rfl)); go_simp; refine hK _ _ ?_; clear hK K)
        refine wpMix_t rfl rfl (fun K hK => ?_)
        go_simp
        refine (CL.out _ s0).mono ?_
        rintro r w6 ⟨rfl, rfl⟩
        dsimp only
        refine hK.out _ _ ?_
        clear hK K
        iterate 2 (refine wpMix_p rfl rfl (fun K hK => ?_); apply Exists.intro; refine ⟨fun w' => ?_, ?_⟩; (focus (go_simp; try rfl)); go_simp; refine hK _ _ ?_; clear hK K)
        refine wpMix_nil ?_
        go_wp2
        go_roundg (gk - 1)
        case rel => exact ⟨j + 1 + 1, by have := HKG.out; omega, by go_num, bth hwr s0, all_succ HA.out HB.out⟩
        case measure => have := HKG.out; omega
  ·
   obtain rfl : res = true := by rw [<- HRES.out]; exact polyB_good fun i hi => HA.out i (by omega)
   go_wp2
   go_ret
   exact ⟨rfl, hwr⟩
end Go.Proofs.YtkjnkpkagcboeaaGreatDoor
