/- Walk: the error of an expression, by the reference. -/
import Derived.Test.YtmlldjcbijoheaaKs6
import Derived.Test.YtmlldjcbijoheaaKs7

/- Walk: the error of an expression, by the reference. -/
namespace Go.Proofs.Ytmlldjcbijoheaa
open Go.RowKit

theorem head8 {k : Int} {n : ByteArray} {r : Rt} {len : Nat} {s : Int} (h : ofB k s = false) : headErr k n r len s = 8 := by unfold headErr; rw [if_pos h]
theorem head6 {k : Int} {n : ByteArray} {r : Rt} {len : Nat} {s : Int} (h : ofB k s = true) (h2 : k = 1 ∧ isNameB n = false) : headErr k n r len s = 6 := by unfold headErr; rw [if_neg (by simp [h]), if_pos h2]
theorem head1a {k : Int} {n : ByteArray} {r : Rt} {len : Nat} {s : Int} (h : ofB k s = true) (h2 : ¬ (k = 1 ∧ isNameB n = false)) (h3 : (k ≠ 1 ∧ n ≠ ⟨#[]⟩) ∨ len ≠ (findRow k).params.length) : headErr k n r len s = 1 := by
  unfold headErr; rw [if_neg (by simp [h]), if_neg h2, if_pos h3]
theorem head1b {k : Int} {n : ByteArray} {r : Rt} {len : Nat} {s : Int} (h : ofB k s = true) (h2 : ¬ (k = 1 ∧ isNameB n = false)) (h3 : ¬ ((k ≠ 1 ∧ n ≠ ⟨#[]⟩) ∨ len ≠ (findRow k).params.length)) (h4 : ratioB k r = false) : headErr k n r len s = 1 := by
  unfold headErr; rw [if_neg (by simp [h]), if_neg h2, if_neg h3, if_pos h4]
theorem head0 {k : Int} {n : ByteArray} {r : Rt} {len : Nat} {s : Int} (h : ofB k s = true) (h2 : ¬ (k = 1 ∧ isNameB n = false)) (h3 : ¬ ((k ≠ 1 ∧ n ≠ ⟨#[]⟩) ∨ len ≠ (findRow k).params.length)) (h4 : ratioB k r = true) : headErr k n r len s = 0 := by
  unfold headErr; rw [if_neg (by simp [h]), if_neg h2, if_neg h3, if_neg (by simp [h4])]

set_option maxRecDepth 100000 in
set_option maxHeartbeats 8000000 in
theorem check16_any (d : Nat) : ∀ (e : Expr) (s : Int) (na : Option Addr) (nc : Nat) (da : Option Addr) (dc : Nat) (aa : Option Addr) (ac : Nat) (w : World), ExprR d w na nc da dc aa ac e → e.few →
    Calls Try.prog 133 #[e.val na nc da dc aa ac, .int .i64 s] w fun r w' => r = .returned (.int .i64 (e.err s)) ∧ Below w.heap.size w w' := by
  induction d with
  | zero => intro e s na nc da dc aa ac w h; exact h.elim
  | succ d ih =>
    intro e s na nc da dc aa ac w h hfew
    obtain ⟨-, -, hname, hn, hd, hx⟩ := h.of_succ
    have hl := hx.len
    have hrt := Expr.few_rt hfew
    have CO := fun W => of16_any e s na nc da dc aa ac W
    have CI := fun W => isName15_any e.name W (by unfold maxLen at hname; omega)
    have CP := fun W => params16_any e.kind W
    have CH := fun W => hasRatio16_any e.kind W
    have CR := fun W (hW : Below w.heap.size w W) => right03_any e.rt na nc da dc W (hn.ext (Ext.below hW)) (hd.ext (Ext.below hW)) hrt.1 hrt.2
    have CN := fun W => none16_any e.rt na nc da dc W hrt.1 hrt.2
    obtain ⟨res, hres⟩ : ∃ x, e.err s = x := ⟨_, rfl⟩
    rw [hres]
    rw [Expr.err_eq] at hres
    have HRES := Lib.hid hres
    have HX := Lib.hid hx
    have HF := Lib.hid (Expr.few_args hfew)
    have IH := Lib.hid ih
    unfold Rt.val Expr.rt at CR CN
    unfold Expr.val at CO ⊢
    dsimp only at CR CN
    replace CO := Lib.hid CO; replace CI := Lib.hid CI; replace CP := Lib.hid CP; replace CH := Lib.hid CH; replace CR := Lib.hid CR; replace CN := Lib.hid CN
    clear h hfew hname hn hd hx hrt hres ih
    have hz := Blk.new w 40 #[.int .i64 e.kind, .string e.name, .bool e.neg, .slice na e.num.length nc, .slice da e.den.length dc, .slice aa e.args.length ac, .int .i64 e.pos]
    have hb0 : Below w.heap.size w (w.alloc (.cells #[.int .i64 e.kind, .string e.name, .bool e.neg, .slice na e.num.length nc, .slice da e.den.length dc, .slice aa e.args.length ac, .int .i64 e.pos] 40)) := by go_grown
    obtain ⟨bo, hbo⟩ : ∃ b, ofB e.kind s = b := ⟨_, rfl⟩
    rw [hbo] at CO
    have HBO := Lib.hid hbo
    clear hbo
    cases bo
    · have hr : res = 8 := by rw [← HRES.out, if_pos (by rw [head8 HBO.out]; omega), head8 HBO.out]
      subst hr
      go_enter Try.func133, Try.ntmps133
      go_wp2_with fail
      refine (CO.out _).mono ?_
      rintro r w1 ⟨rfl, hb1⟩
      have hw1 := below_then hb0 hb1
      go_wp2
      go_ret
      exact ⟨rfl, hw1⟩
    · obtain ⟨bi, hbi⟩ : ∃ b, isNameB e.name = b := ⟨_, rfl⟩
      rw [hbi] at CI
      have HBI := Lib.hid hbi
      clear hbi
      by_cases hbad6 : e.kind = 1 ∧ bi = false
      · obtain ⟨hk, rfl⟩ := hbad6
        have hr : res = 6 := by rw [← HRES.out, if_pos (by rw [head6 HBO.out ⟨hk, HBI.out⟩]; omega), head6 HBO.out ⟨hk, HBI.out⟩]
        subst hr
        have hk1 : (e.kind == 1) = true := by simpa using hk
        clear hk
        go_enter Try.func133, Try.ntmps133
        go_wp2_with fail
        revert hz hb0
        generalize w.alloc (.cells _ _) = w0
        intro hz hb0
        refine (CO.out _).mono ?_
        rintro r w1 ⟨rfl, hb1⟩
        have hw1 := below_then hb0 hb1
        have hz1 := hz.below' hb1
        have z0 := hz1.cell 0; have z1 := hz1.cell 1
        clear hb1 hz hb0
        go_wp2_with fail
        refine (CI.out _).mono ?_
        rintro r w2 ⟨rfl, hb2⟩
        have hw2 := below_then hw1 hb2
        go_wp2
        go_ret
        exact ⟨rfl, hw2⟩
      · have h6 : ¬ (e.kind = 1 ∧ isNameB e.name = false) := by rw [HBI.out]; exact hbad6
        have H6 := Lib.hid h6
        clear h6
        obtain ⟨P, hP⟩ : ∃ P, (findRow e.kind).params = P := ⟨_, rfl⟩
        rw [hP] at CP
        obtain ⟨hh, hhh⟩ : ∃ b, hasRatioB e.kind = b := ⟨_, rfl⟩
        rw [hhh] at CH
        obtain ⟨br, hbr⟩ : ∃ b, e.rt.right = b := ⟨_, rfl⟩
        obtain ⟨bn, hbn⟩ : ∃ b, e.rt.none = b := ⟨_, rfl⟩
        unfold Expr.rt at hbr hbn
        rw [hbr] at CR
        rw [hbn] at CN
        have hrat : ratioB e.kind e.rt = if hh = true then br else bn := by unfold ratioB Expr.rt; rw [hhh, hbr, hbn]
        have HRAT := Lib.hid hrat
        have HP := Lib.hid hP
        have HHH := Lib.hid hhh
        clear hP hhh hbr hbn hrat
        by_cases hA : e.kind ≠ 1 ∧ e.name ≠ ⟨#[]⟩
        · obtain ⟨hk, hnm⟩ := hA
          have hk1 : (e.kind == 1) = false := by simpa using hk
          have hk2 : (e.kind != 1) = true := by simpa using hk
          have hse : e.name.toList.isEmpty = false := by rw [str_isEmpty]; simpa using hnm
          have hse2 : e.name.toList ≠ [] := by intro x; rw [x] at hse; cases hse
          have hr : res = 1 := by
            have h1 := head1a (r := e.rt) (len := e.args.length) HBO.out H6.out (Or.inl ⟨hk, hnm⟩)
            rw [← HRES.out, if_pos (by rw [h1]; omega), h1]
          subst hr
          clear hk hnm hbad6
          skip
          go_enter Try.func133, Try.ntmps133
          go_wp2_with fail
          revert hz hb0
          generalize w.alloc (.cells _ _) = w0
          intro hz hb0
          refine (CO.out _).mono ?_
          rintro r w1 ⟨rfl, hb1⟩
          have hw1 := below_then hb0 hb1
          have hz1 := hz.below' hb1
          have z0 := hz1.cell 0; have z1 := hz1.cell 1
          have hw2 := hw1
          have hz2 := hz1
          clear hb1 hz hb0
          have k0 := held (hz2.cell 0); have k1 := held (hz2.cell 1); have k5 := held (hz2.cell 5)
          obtain ⟨w2, rfl⟩ : ∃ w2 : World, w2 = w1 := ⟨_, rfl⟩
          go_wp2
          have s0 : Below w2.heap.size w2 w2.drew := (Below.refl _ _).drew
          refine wp_region_mix (S := Below w2.heap.size w2) [(0, .q), (1, .q), (2, .q), (3, .q), (4, .q), (5, .q), (6, .q), (7, .q), (8, .q), (9, .q), (10, .q), (11, .q), (12, .q), (13, .q), (14, .l), (15, .q), (16, .p), (17, .p)] (by kernel_rfl) (by kernel_rfl) (by kernel_rfl) (fun d _ _ _ _ h => by cases d <;> exact h) (s0) ?_
          iterate 9 (refine wpMix_q rfl rfl (fun K hK => ?_); apply Exists.intro; refine ⟨fun w' hw' => ?_, ?_⟩; (focus (go_simp; try rfl)); go_simp; refine hK _ _ ?_; clear hK K)
          iterate 8 (refine wpMix_skip rfl rfl (fun K hK => ?_); go_simp; refine hK _ _ ?_; clear hK K)
          iterate 1 (refine wpMix_p rfl rfl (fun K hK => ?_); apply Exists.intro; refine ⟨fun w' => ?_, ?_⟩; (focus (go_simp; try rfl)); go_simp; refine hK _ _ ?_; clear hK K)
          refine wpMix_nil ?_
          go_wp2
          go_ret
          exact ⟨rfl, below_then hw2 s0⟩
        · have hgood : (e.kind = 1 ∧ bi = true) ∨ (e.kind ≠ 1 ∧ e.name = ⟨#[]⟩) := by
            by_cases hk : e.kind = 1
            · left; refine ⟨hk, ?_⟩; cases bi
              · exact absurd ⟨hk, rfl⟩ hbad6
              · rfl
            · right; refine ⟨hk, ?_⟩
              by_cases hn : e.name = ⟨#[]⟩
              · exact hn
              · exact absurd ⟨hk, hn⟩ hA
          clear hbad6 hA
          rcases hgood with ⟨hk, rfl⟩ | ⟨hk, hnm⟩
          · have hk1 : (e.kind == 1) = true := by simpa using hk
            have hk2 : (e.kind != 1) = false := by simpa using hk
            have HK := Lib.hid hk
            clear hk
            go_enter Try.func133, Try.ntmps133
            go_wp2_with fail
            revert hz hb0
            generalize w.alloc (.cells _ _) = w0
            intro hz hb0
            refine (CO.out _).mono ?_
            rintro r w1 ⟨rfl, hb1⟩
            have hw1 := below_then hb0 hb1
            have hz1 := hz.below' hb1
            have z0 := hz1.cell 0; have z1 := hz1.cell 1
            clear hb1 hz hb0
            go_wp2_with fail
            refine (CI.out _).mono ?_
            rintro r w2 ⟨rfl, hb2⟩
            have hw2 := below_then hw1 hb2
            have hz2 := hz1.below' hb2
            clear hb2 hz1 hw1 z0 z1
            have k0 := held (hz2.cell 0); have k1 := held (hz2.cell 1); have k5 := held (hz2.cell 5)
            go_wp2
            have s0 : Below w2.heap.size w2 w2.drew := (Below.refl _ _).drew
            refine wp_region_mix (S := Below w2.heap.size w2) [(0, .q), (1, .q), (2, .q), (3, .q), (4, .q), (5, .q), (6, .q), (7, .q), (8, .q), (9, .q), (10, .q), (11, .q), (12, .q), (13, .q), (14, .l), (15, .q), (16, .p), (17, .p)] (by kernel_rfl) (by kernel_rfl) (by kernel_rfl) (fun d _ _ _ _ h => by cases d <;> exact h) (s0) ?_
            iterate 4 (refine wpMix_q rfl rfl (fun K hK => ?_); apply Exists.intro; refine ⟨fun w' hw' => ?_, ?_⟩; (focus (go_simp; try rfl)); go_simp; refine hK _ _ ?_; clear hK K)
            iterate 3 (refine wpMix_skip rfl rfl (fun K hK => ?_); go_simp; refine hK _ _ ?_; clear hK K)
            iterate 7 (refine wpMix_q rfl rfl (fun K hK => ?_); apply Exists.intro; refine ⟨fun w' hw' => ?_, ?_⟩; (focus (go_simp; try rfl)); go_simp; refine hK _ _ ?_; clear hK K)
            refine wpMix_l rfl rfl (fun K hK => ?_)
            go_simp
            refine (CP.out _).mono ?_
            rintro r w3 ⟨pa, pc, rfl, hpi, hb3⟩
            dsimp only
            refine hK.out _ _ (below_then s0 hb3) (fun _ => ?_)
            clear hK K
            have hw3 := below_then hw2 (below_then s0 hb3)
            have hz3 := hz2.below' (below_then s0 hb3)
            have hpl := hpi.len
            clear hb3 s0 hz2 hw2 hpi k0 k1 k5
            iterate 1 (refine wpMix_q rfl rfl (fun K hK => ?_); apply Exists.intro; refine ⟨fun w' hw' => ?_, ?_⟩; (focus (go_simp; try rfl)); go_simp; refine hK _ _ ?_; clear hK K)
            iterate 2 (refine wpMix_p rfl rfl (fun K hK => ?_); apply Exists.intro; refine ⟨fun w' => ?_, ?_⟩; (focus (go_simp; try rfl)); go_simp; refine hK _ _ ?_; clear hK K)
            refine wpMix_nil ?_
            by_cases hlen : e.args.length = P.length
            · have hlb : ((e.args.length : Int) != (P.length : Int)) = false := by rw [hlen]; simp
              have H1 : Hid (¬ ((e.kind ≠ 1 ∧ e.name ≠ ⟨#[]⟩) ∨ e.args.length ≠ (findRow e.kind).params.length)) := Lib.hid (by rw [HP.out]; rintro (h | h); exact h.1 HK.out; exact h hlen)
              have HLEN := Lib.hid hlen
              clear hlen hpl
              have z0 := hz3.cell 0; have z2 := hz3.cell 2; have z3 := hz3.cell 3; have z4 := hz3.cell 4
              have hhf : hh = false := by rw [← HHH.out]; exact decide_eq_false (by have := HK.out; omega)
              subst hhf
              go_wp2_with fail
              refine (CH.out _).mono ?_
              rintro r w3b ⟨rfl, rfl⟩
              go_wp2_with fail
              refine (CH.out _).mono ?_
              rintro r w3c ⟨rfl, rfl⟩
              go_wp2_with fail
              refine (CN.out _).mono ?_
              rintro r w4 ⟨rfl, hb4⟩
              have hw4 := below_then hw3 hb4
              have hz4 := hz3.below' hb4
              have HRAT2 : Hid (¬ ratioB e.kind e.rt = false ↔ bn = true) := Lib.hid (by rw [HRAT.out]; simp)
              clear hb4 hz3 hw3 z0 z2 z3 z4
              cases bn
              · have hr : res = 1 := by
                  have h1 := head1b HBO.out H6.out H1.out (by have := HRAT2.out; simpa using this)
                  rw [← HRES.out, if_pos (by rw [h1]; omega), h1]
                subst hr
                go_wp2
                go_ret
                exact ⟨rfl, hw4⟩
              · replace HRAT2 : Hid (¬ ratioB e.kind e.rt = false) := Lib.hid (HRAT2.out.2 rfl)
                have z5 := hz4.cell 5
                have hres0 : Expr.errs e.args P = res := by
                  have h0 := head0 HBO.out H6.out H1.out (by simpa using HRAT2.out)
                  have := HRES.out
                  rw [if_neg (by rw [h0]; simp), HP.out] at this
                  exact this
                have HRES0 := Lib.hid hres0
                clear hres0 CR CN CH CO CI
                go_wp2
                go_loopg [5, 6, 7, 63] e.args.length (fun g _ _ _ q wr => ∃ k : Nat, k + g = e.args.length ∧ q = .int .i64 k ∧ Below w.heap.size w wr ∧ Blk wr w.heap.size 40 #[.int .i64 e.kind, .string e.name, .bool e.neg, .slice na e.num.length nc, .slice da e.den.length dc, .slice aa e.args.length ac, .int .i64 e.pos] ∧
                  Expr.errs (e.args.drop k) (P.drop k) = res)
                case atStart => exact ⟨0, by omega, rfl, hw4, hz4, HRES0.out⟩
                case round =>
                  clear hz4 hw4
                  obtain ⟨k, hkg, rfl, hwr, hzr, he⟩ := hrel
                  have HKG := Lib.hid hkg
                  have HE := Lib.hid he
                  have HZR := Lib.hid hzr
                  have z0 := hzr.cell 0; have z5 := hzr.cell 5
                  have hzl := hzr.lt
                  clear hkg he hzr
                  by_cases hlt : k < e.args.length
                  · obtain ⟨x, hx⟩ := get_of_lt hlt
                    obtain ⟨p, hp⟩ := get_of_lt (xs := P) (k := k) (by have := HLEN.out; omega)
                    obtain ⟨bx, ox, rfl, na2, nc2, da2, dc2, aa2, ac2, hC, hR⟩ := (HX.out.mono fun b o y _ he => ExprE.ext he (Ext.below hwr) : SlR 7 (ExprE d) wr aa ac e.args).2.2 k x hx
                    obtain ⟨q0, q1, q2, q3, q4, q5, q6⟩ := hC
                    have hbz : Below wr.heap.size wr (wr.alloc (.cells #[.int .i64 x.kind, .string x.name, .bool x.neg, .slice na2 x.num.length nc2, .slice da2 x.den.length dc2, .slice aa2 x.args.length ac2, .int .i64 x.pos] 40)) := by go_grown
                    have hxz := Blk.new wr 40 #[.int .i64 x.kind, .string x.name, .bool x.neg, .slice na2 x.num.length nc2, .slice da2 x.den.length dc2, .slice aa2 x.args.length ac2, .int .i64 x.pos]
                    have hez := errs_at hx hp
                    rw [HE.out] at hez
                    have IHX := fun W (hW : Below wr.heap.size wr W) => IH.out x p na2 nc2 da2 dc2 aa2 ac2 W (hR.ext (Ext.below hW)) (fews_mem HF.out (List.mem_of_getElem? hx))
                    unfold Expr.val at IHX
                    revert IHX hez
                    generalize Expr.err x p = ev
                    intro hez IHX
                    have HEZ := Lib.hid hez
                    replace IHX := Lib.hid IHX
                    have HPX := Lib.hid hp
                    clear hx hp hR hez
                    go_wp2_with fail
                    revert hbz hxz
                    generalize wr.alloc (.cells #[.int .i64 x.kind, .string x.name, .bool x.neg, .slice na2 x.num.length nc2, .slice da2 x.den.length dc2, .slice aa2 x.args.length ac2, .int .i64 x.pos] 40) = wz
                    intro hbz hxz
                    have k0 := held (hxz.cell 0); have k1 := held (hxz.cell 1); have k2 := held (hxz.cell 2); have k3 := held (hxz.cell 3); have k4 := held (hxz.cell 4); have k5 := held (hxz.cell 5); have k6 := held (hxz.cell 6)
                    have hzz := HZR.out.below' hbz
                    have y0 := held (hzz.cell 0)
                    have s0 : Below wz.heap.size wz wz.drew := (Below.refl _ _).drew
                    clear q0 q1 q2 q3 q4 q5 q6 z0 z5
                    refine wp_region_mix (S := Below wz.heap.size wz) [(0, .q), (1, .q), (2, .q), (4, .q), (3, .l), (5, .q), (6, .l), (7, .t), (8, .p)] (by kernel_rfl) (by kernel_rfl) (by kernel_rfl) (fun d _ _ _ _ h => by cases d <;> exact h) (s0) ?_
                    iterate 4 (refine wpMix_q rfl rfl (fun K hK => ?_); apply Exists.intro; refine ⟨fun w' hw' => ?_, ?_⟩; (focus (go_simp; try rfl)); go_simp; refine hK _ _ ?_; clear hK K)
                    refine wpMix_l rfl rfl (fun K hK => ?_)
                    go_simp
                    refine (CP.out _).mono ?_
                    rintro r w5 ⟨pa, pc, rfl, hpi, hb5⟩
                    dsimp only
                    refine hK.out _ _ (below_then s0 hb5) (fun _ => ?_)
                    clear hK K
                    have s5 := below_then s0 hb5
                    obtain ⟨pb, po, rfl, hpc⟩ := hpi.2.2 k p HPX.out
                    have hpk := hpi.1
                    have hc5 : w5.cell? ⟨pb, po + k, none⟩ = some (.int .i64 p) := by simpa using hpc.1
                    have hPl : (k : Int) < (P.length : Int) := by have := lt_of_get HPX.out; omega
                    iterate 1 (refine wpMix_q rfl rfl (fun K hK => ?_); apply Exists.intro; refine ⟨fun w' hw' => ?_, ?_⟩; (focus (go_simp; try rfl)); go_simp; refine hK _ _ ?_; clear hK K)
                    refine wpMix_l rfl rfl (fun K hK => ?_)
                    go_simp
                    refine hK.out _ _ (s5) (fun _ => ?_)
                    clear hK K
                    refine wpMix_t rfl rfl (fun K hK => ?_)
                    go_simp
                    refine (IHX.out _ (below_then hbz s5)).mono ?_
                    rintro r w6 ⟨rfl, hb6⟩
                    dsimp only
                    refine hK.out _ _ ?_
                    clear hK K
                    have s6 := below_then s5 hb6
                    have hw6 := below_then hwr (below_then hbz s6)
                    have hz6 := hzz.below' s6
                    iterate 1 (refine wpMix_p rfl rfl (fun K hK => ?_); apply Exists.intro; refine ⟨fun w' => ?_, ?_⟩; (focus (go_simp; try rfl)); go_simp; refine hK _ _ ?_; clear hK K)
                    refine wpMix_nil ?_
                    clear hc5 hPl hpk hpi hpc s5 s0 hb5 k0 k1 k2 k3 k4 k5 k6 y0 hzz hxz hbz hzl
                    by_cases hev : ev = 0
                    · have hez2 := HEZ.out
                      rw [if_neg (by simp [hev])] at hez2
                      have HEZ2 := Lib.hid hez2
                      subst hev
                      clear HEZ hez2
                      go_wp2
                      go_roundg (gk - 1)
                      case rel => exact ⟨k + 1, by have := HKG.out; omega, by go_num, hw6, hz6, HEZ2.out.symm⟩
                      case measure => have := HKG.out; omega
                    · have hr : res = ev := by rw [HEZ.out, if_pos hev]
                      have hb : (ev != 0) = true := by simpa using hev
                      subst hr
                      clear hev HEZ
                      go_wp2
                      go_ret
                      exact ⟨rfl, hw6⟩
                  · have hr : res = 0 := by
                      rw [← HE.out, List.drop_eq_nil_of_le (by omega)]; rfl
                    subst hr
                    go_wp2
                    go_ret
                    exact ⟨rfl, hwr⟩
            · have hlb : ((e.args.length : Int) != (P.length : Int)) = true := by simp; omega
              have hr : res = 1 := by
                have h1 := head1a (r := e.rt) (len := e.args.length) HBO.out H6.out (Or.inr (by rw [HP.out]; exact hlen))
                rw [← HRES.out, if_pos (by rw [h1]; omega), h1]
              subst hr
              clear hlen hpl
              go_wp2
              go_ret
              exact ⟨rfl, hw3⟩
          · have hk1 : (e.kind == 1) = false := by simpa using hk
            have hk2 : (e.kind != 1) = true := by simpa using hk
            have hse : e.name.toList.isEmpty = true := by rw [str_isEmpty]; simpa using hnm
            have hse2 : e.name.toList = [] := List.isEmpty_iff.1 hse
            have HNM := Lib.hid hnm
            clear hk hnm
            go_enter Try.func133, Try.ntmps133
            go_wp2_with fail
            revert hz hb0
            generalize w.alloc (.cells _ _) = w0
            intro hz hb0
            refine (CO.out _).mono ?_
            rintro r w1 ⟨rfl, hb1⟩
            have hw1 := below_then hb0 hb1
            have hz1 := hz.below' hb1
            have z0 := hz1.cell 0; have z1 := hz1.cell 1
            have hw2 := hw1
            have hz2 := hz1
            clear hb1 hz hb0
            have k0 := held (hz2.cell 0); have k1 := held (hz2.cell 1); have k5 := held (hz2.cell 5)
            obtain ⟨w2, rfl⟩ : ∃ w2 : World, w2 = w1 := ⟨_, rfl⟩
            go_wp2
            have s0 : Below w2.heap.size w2 w2.drew := (Below.refl _ _).drew
            refine wp_region_mix (S := Below w2.heap.size w2) [(0, .q), (1, .q), (2, .q), (3, .q), (4, .q), (5, .q), (6, .q), (7, .q), (8, .q), (9, .q), (10, .q), (11, .q), (12, .q), (13, .q), (14, .l), (15, .q), (16, .p), (17, .p)] (by kernel_rfl) (by kernel_rfl) (by kernel_rfl) (fun d _ _ _ _ h => by cases d <;> exact h) (s0) ?_
            iterate 14 (refine wpMix_q rfl rfl (fun K hK => ?_); apply Exists.intro; refine ⟨fun w' hw' => ?_, ?_⟩; (focus (go_simp; try rfl)); go_simp; refine hK _ _ ?_; clear hK K)
            refine wpMix_l rfl rfl (fun K hK => ?_)
            go_simp
            refine (CP.out _).mono ?_
            rintro r w3 ⟨pa, pc, rfl, hpi, hb3⟩
            dsimp only
            refine hK.out _ _ (below_then s0 hb3) (fun _ => ?_)
            clear hK K
            have hw3 := below_then hw2 (below_then s0 hb3)
            have hz3 := hz2.below' (below_then s0 hb3)
            have hpl := hpi.len
            clear hb3 s0 hz2 hw2 hpi k0 k1 k5
            iterate 1 (refine wpMix_q rfl rfl (fun K hK => ?_); apply Exists.intro; refine ⟨fun w' hw' => ?_, ?_⟩; (focus (go_simp; try rfl)); go_simp; refine hK _ _ ?_; clear hK K)
            iterate 2 (refine wpMix_p rfl rfl (fun K hK => ?_); apply Exists.intro; refine ⟨fun w' => ?_, ?_⟩; (focus (go_simp; try rfl)); go_simp; refine hK _ _ ?_; clear hK K)
            refine wpMix_nil ?_
            by_cases hlen : e.args.length = P.length
            · have hlb : ((e.args.length : Int) != (P.length : Int)) = false := by rw [hlen]; simp
              have H1 : Hid (¬ ((e.kind ≠ 1 ∧ e.name ≠ ⟨#[]⟩) ∨ e.args.length ≠ (findRow e.kind).params.length)) := Lib.hid (by rw [HP.out]; rintro (h | h); exact h.2 HNM.out; exact h hlen)
              have HLEN := Lib.hid hlen
              clear hlen hpl
              have z0 := hz3.cell 0; have z2 := hz3.cell 2; have z3 := hz3.cell 3; have z4 := hz3.cell 4
              go_wp2_with fail
              refine (CH.out _).mono ?_
              rintro r w3b ⟨rfl, rfl⟩
              cases hh
              · skip
                go_wp2_with fail
                refine (CH.out _).mono ?_
                rintro r w3c ⟨rfl, rfl⟩
                go_wp2_with fail
                refine (CN.out _).mono ?_
                rintro r w4 ⟨rfl, hb4⟩
                have hw4 := below_then hw3 hb4
                have hz4 := hz3.below' hb4
                have HRAT2 : Hid (¬ ratioB e.kind e.rt = false ↔ bn = true) := Lib.hid (by rw [HRAT.out]; simp)
                clear hb4 hz3 hw3 z0 z2 z3 z4
                cases bn
                · have hr : res = 1 := by
                    have h1 := head1b HBO.out H6.out H1.out (by have := HRAT2.out; simpa using this)
                    rw [← HRES.out, if_pos (by rw [h1]; omega), h1]
                  subst hr
                  go_wp2
                  go_ret
                  exact ⟨rfl, hw4⟩
                · replace HRAT2 : Hid (¬ ratioB e.kind e.rt = false) := Lib.hid (HRAT2.out.2 rfl)
                  have z5 := hz4.cell 5
                  have hres0 : Expr.errs e.args P = res := by
                    have h0 := head0 HBO.out H6.out H1.out (by simpa using HRAT2.out)
                    have := HRES.out
                    rw [if_neg (by rw [h0]; simp), HP.out] at this
                    exact this
                  have HRES0 := Lib.hid hres0
                  clear hres0 CR CN CH CO CI
                  go_wp2
                  go_loopg [5, 6, 7, 63] e.args.length (fun g _ _ _ q wr => ∃ k : Nat, k + g = e.args.length ∧ q = .int .i64 k ∧ Below w.heap.size w wr ∧ Blk wr w.heap.size 40 #[.int .i64 e.kind, .string e.name, .bool e.neg, .slice na e.num.length nc, .slice da e.den.length dc, .slice aa e.args.length ac, .int .i64 e.pos] ∧
                    Expr.errs (e.args.drop k) (P.drop k) = res)
                  case atStart => exact ⟨0, by omega, rfl, hw4, hz4, HRES0.out⟩
                  case round =>
                    clear hz4 hw4
                    obtain ⟨k, hkg, rfl, hwr, hzr, he⟩ := hrel
                    have HKG := Lib.hid hkg
                    have HE := Lib.hid he
                    have HZR := Lib.hid hzr
                    have z0 := hzr.cell 0; have z5 := hzr.cell 5
                    have hzl := hzr.lt
                    clear hkg he hzr
                    by_cases hlt : k < e.args.length
                    · obtain ⟨x, hx⟩ := get_of_lt hlt
                      obtain ⟨p, hp⟩ := get_of_lt (xs := P) (k := k) (by have := HLEN.out; omega)
                      obtain ⟨bx, ox, rfl, na2, nc2, da2, dc2, aa2, ac2, hC, hR⟩ := (HX.out.mono fun b o y _ he => ExprE.ext he (Ext.below hwr) : SlR 7 (ExprE d) wr aa ac e.args).2.2 k x hx
                      obtain ⟨q0, q1, q2, q3, q4, q5, q6⟩ := hC
                      have hbz : Below wr.heap.size wr (wr.alloc (.cells #[.int .i64 x.kind, .string x.name, .bool x.neg, .slice na2 x.num.length nc2, .slice da2 x.den.length dc2, .slice aa2 x.args.length ac2, .int .i64 x.pos] 40)) := by go_grown
                      have hxz := Blk.new wr 40 #[.int .i64 x.kind, .string x.name, .bool x.neg, .slice na2 x.num.length nc2, .slice da2 x.den.length dc2, .slice aa2 x.args.length ac2, .int .i64 x.pos]
                      have hez := errs_at hx hp
                      rw [HE.out] at hez
                      have IHX := fun W (hW : Below wr.heap.size wr W) => IH.out x p na2 nc2 da2 dc2 aa2 ac2 W (hR.ext (Ext.below hW)) (fews_mem HF.out (List.mem_of_getElem? hx))
                      unfold Expr.val at IHX
                      revert IHX hez
                      generalize Expr.err x p = ev
                      intro hez IHX
                      have HEZ := Lib.hid hez
                      replace IHX := Lib.hid IHX
                      have HPX := Lib.hid hp
                      clear hx hp hR hez
                      go_wp2_with fail
                      revert hbz hxz
                      generalize wr.alloc (.cells #[.int .i64 x.kind, .string x.name, .bool x.neg, .slice na2 x.num.length nc2, .slice da2 x.den.length dc2, .slice aa2 x.args.length ac2, .int .i64 x.pos] 40) = wz
                      intro hbz hxz
                      have k0 := held (hxz.cell 0); have k1 := held (hxz.cell 1); have k2 := held (hxz.cell 2); have k3 := held (hxz.cell 3); have k4 := held (hxz.cell 4); have k5 := held (hxz.cell 5); have k6 := held (hxz.cell 6)
                      have hzz := HZR.out.below' hbz
                      have y0 := held (hzz.cell 0)
                      have s0 : Below wz.heap.size wz wz.drew := (Below.refl _ _).drew
                      clear q0 q1 q2 q3 q4 q5 q6 z0 z5
                      refine wp_region_mix (S := Below wz.heap.size wz) [(0, .q), (1, .q), (2, .q), (4, .q), (3, .l), (5, .q), (6, .l), (7, .t), (8, .p)] (by kernel_rfl) (by kernel_rfl) (by kernel_rfl) (fun d _ _ _ _ h => by cases d <;> exact h) (s0) ?_
                      iterate 4 (refine wpMix_q rfl rfl (fun K hK => ?_); apply Exists.intro; refine ⟨fun w' hw' => ?_, ?_⟩; (focus (go_simp; try rfl)); go_simp; refine hK _ _ ?_; clear hK K)
                      refine wpMix_l rfl rfl (fun K hK => ?_)
                      go_simp
                      refine (CP.out _).mono ?_
                      rintro r w5 ⟨pa, pc, rfl, hpi, hb5⟩
                      dsimp only
                      refine hK.out _ _ (below_then s0 hb5) (fun _ => ?_)
                      clear hK K
                      have s5 := below_then s0 hb5
                      obtain ⟨pb, po, rfl, hpc⟩ := hpi.2.2 k p HPX.out
                      have hpk := hpi.1
                      have hc5 : w5.cell? ⟨pb, po + k, none⟩ = some (.int .i64 p) := by simpa using hpc.1
                      have hPl : (k : Int) < (P.length : Int) := by have := lt_of_get HPX.out; omega
                      iterate 1 (refine wpMix_q rfl rfl (fun K hK => ?_); apply Exists.intro; refine ⟨fun w' hw' => ?_, ?_⟩; (focus (go_simp; try rfl)); go_simp; refine hK _ _ ?_; clear hK K)
                      refine wpMix_l rfl rfl (fun K hK => ?_)
                      go_simp
                      refine hK.out _ _ (s5) (fun _ => ?_)
                      clear hK K
                      refine wpMix_t rfl rfl (fun K hK => ?_)
                      go_simp
                      refine (IHX.out _ (below_then hbz s5)).mono ?_
                      rintro r w6 ⟨rfl, hb6⟩
                      dsimp only
                      refine hK.out _ _ ?_
                      clear hK K
                      have s6 := below_then s5 hb6
                      have hw6 := below_then hwr (below_then hbz s6)
                      have hz6 := hzz.below' s6
                      iterate 1 (refine wpMix_p rfl rfl (fun K hK => ?_); apply Exists.intro; refine ⟨fun w' => ?_, ?_⟩; (focus (go_simp; try rfl)); go_simp; refine hK _ _ ?_; clear hK K)
                      refine wpMix_nil ?_
                      clear hc5 hPl hpk hpi hpc s5 s0 hb5 k0 k1 k2 k3 k4 k5 k6 y0 hzz hxz hbz hzl
                      by_cases hev : ev = 0
                      · have hez2 := HEZ.out
                        rw [if_neg (by simp [hev])] at hez2
                        have HEZ2 := Lib.hid hez2
                        subst hev
                        clear HEZ hez2
                        go_wp2
                        go_roundg (gk - 1)
                        case rel => exact ⟨k + 1, by have := HKG.out; omega, by go_num, hw6, hz6, HEZ2.out.symm⟩
                        case measure => have := HKG.out; omega
                      · have hr : res = ev := by rw [HEZ.out, if_pos hev]
                        have hb : (ev != 0) = true := by simpa using hev
                        subst hr
                        clear hev HEZ
                        go_wp2
                        go_ret
                        exact ⟨rfl, hw6⟩
                    · have hr : res = 0 := by
                        rw [← HE.out, List.drop_eq_nil_of_le (by omega)]; rfl
                      subst hr
                      go_wp2
                      go_ret
                      exact ⟨rfl, hwr⟩
              · skip
                go_wp2_with fail
                refine (CR.out _ hw3).mono ?_
                rintro r w4 ⟨rfl, hb4⟩
                have hw4 := below_then hw3 hb4
                have hz4 := hz3.below' hb4
                have HRAT2 : Hid (¬ ratioB e.kind e.rt = false ↔ br = true) := Lib.hid (by rw [HRAT.out]; simp)
                clear hb4 hz3 hw3 z0 z2 z3 z4
                cases br
                · have hr : res = 1 := by
                    have h1 := head1b HBO.out H6.out H1.out (by have := HRAT2.out; simpa using this)
                    rw [← HRES.out, if_pos (by rw [h1]; omega), h1]
                  subst hr
                  go_wp2
                  go_ret
                  exact ⟨rfl, hw4⟩
                · replace HRAT2 : Hid (¬ ratioB e.kind e.rt = false) := Lib.hid (HRAT2.out.2 rfl)
                  have z0' := hz4.cell 0
                  have z5 := hz4.cell 5
                  go_wp2_with fail
                  refine (CH.out _).mono ?_
                  rintro r w4b ⟨rfl, rfl⟩
                  clear z0'
                  have hres0 : Expr.errs e.args P = res := by
                    have h0 := head0 HBO.out H6.out H1.out (by simpa using HRAT2.out)
                    have := HRES.out
                    rw [if_neg (by rw [h0]; simp), HP.out] at this
                    exact this
                  have HRES0 := Lib.hid hres0
                  clear hres0 CR CN CH CO CI
                  go_wp2
                  go_loopg [5, 6, 7, 63] e.args.length (fun g _ _ _ q wr => ∃ k : Nat, k + g = e.args.length ∧ q = .int .i64 k ∧ Below w.heap.size w wr ∧ Blk wr w.heap.size 40 #[.int .i64 e.kind, .string e.name, .bool e.neg, .slice na e.num.length nc, .slice da e.den.length dc, .slice aa e.args.length ac, .int .i64 e.pos] ∧
                    Expr.errs (e.args.drop k) (P.drop k) = res)
                  case atStart => exact ⟨0, by omega, rfl, hw4, hz4, HRES0.out⟩
                  case round =>
                    clear hz4 hw4
                    obtain ⟨k, hkg, rfl, hwr, hzr, he⟩ := hrel
                    have HKG := Lib.hid hkg
                    have HE := Lib.hid he
                    have HZR := Lib.hid hzr
                    have z0 := hzr.cell 0; have z5 := hzr.cell 5
                    have hzl := hzr.lt
                    clear hkg he hzr
                    by_cases hlt : k < e.args.length
                    · obtain ⟨x, hx⟩ := get_of_lt hlt
                      obtain ⟨p, hp⟩ := get_of_lt (xs := P) (k := k) (by have := HLEN.out; omega)
                      obtain ⟨bx, ox, rfl, na2, nc2, da2, dc2, aa2, ac2, hC, hR⟩ := (HX.out.mono fun b o y _ he => ExprE.ext he (Ext.below hwr) : SlR 7 (ExprE d) wr aa ac e.args).2.2 k x hx
                      obtain ⟨q0, q1, q2, q3, q4, q5, q6⟩ := hC
                      have hbz : Below wr.heap.size wr (wr.alloc (.cells #[.int .i64 x.kind, .string x.name, .bool x.neg, .slice na2 x.num.length nc2, .slice da2 x.den.length dc2, .slice aa2 x.args.length ac2, .int .i64 x.pos] 40)) := by go_grown
                      have hxz := Blk.new wr 40 #[.int .i64 x.kind, .string x.name, .bool x.neg, .slice na2 x.num.length nc2, .slice da2 x.den.length dc2, .slice aa2 x.args.length ac2, .int .i64 x.pos]
                      have hez := errs_at hx hp
                      rw [HE.out] at hez
                      have IHX := fun W (hW : Below wr.heap.size wr W) => IH.out x p na2 nc2 da2 dc2 aa2 ac2 W (hR.ext (Ext.below hW)) (fews_mem HF.out (List.mem_of_getElem? hx))
                      unfold Expr.val at IHX
                      revert IHX hez
                      generalize Expr.err x p = ev
                      intro hez IHX
                      have HEZ := Lib.hid hez
                      replace IHX := Lib.hid IHX
                      have HPX := Lib.hid hp
                      clear hx hp hR hez
                      go_wp2_with fail
                      revert hbz hxz
                      generalize wr.alloc (.cells #[.int .i64 x.kind, .string x.name, .bool x.neg, .slice na2 x.num.length nc2, .slice da2 x.den.length dc2, .slice aa2 x.args.length ac2, .int .i64 x.pos] 40) = wz
                      intro hbz hxz
                      have k0 := held (hxz.cell 0); have k1 := held (hxz.cell 1); have k2 := held (hxz.cell 2); have k3 := held (hxz.cell 3); have k4 := held (hxz.cell 4); have k5 := held (hxz.cell 5); have k6 := held (hxz.cell 6)
                      have hzz := HZR.out.below' hbz
                      have y0 := held (hzz.cell 0)
                      have s0 : Below wz.heap.size wz wz.drew := (Below.refl _ _).drew
                      clear q0 q1 q2 q3 q4 q5 q6 z0 z5
                      refine wp_region_mix (S := Below wz.heap.size wz) [(0, .q), (1, .q), (2, .q), (4, .q), (3, .l), (5, .q), (6, .l), (7, .t), (8, .p)] (by kernel_rfl) (by kernel_rfl) (by kernel_rfl) (fun d _ _ _ _ h => by cases d <;> exact h) (s0) ?_
                      iterate 4 (refine wpMix_q rfl rfl (fun K hK => ?_); apply Exists.intro; refine ⟨fun w' hw' => ?_, ?_⟩; (focus (go_simp; try rfl)); go_simp; refine hK _ _ ?_; clear hK K)
                      refine wpMix_l rfl rfl (fun K hK => ?_)
                      go_simp
                      refine (CP.out _).mono ?_
                      rintro r w5 ⟨pa, pc, rfl, hpi, hb5⟩
                      dsimp only
                      refine hK.out _ _ (below_then s0 hb5) (fun _ => ?_)
                      clear hK K
                      have s5 := below_then s0 hb5
                      obtain ⟨pb, po, rfl, hpc⟩ := hpi.2.2 k p HPX.out
                      have hpk := hpi.1
                      have hc5 : w5.cell? ⟨pb, po + k, none⟩ = some (.int .i64 p) := by simpa using hpc.1
                      have hPl : (k : Int) < (P.length : Int) := by have := lt_of_get HPX.out; omega
                      iterate 1 (refine wpMix_q rfl rfl (fun K hK => ?_); apply Exists.intro; refine ⟨fun w' hw' => ?_, ?_⟩; (focus (go_simp; try rfl)); go_simp; refine hK _ _ ?_; clear hK K)
                      refine wpMix_l rfl rfl (fun K hK => ?_)
                      go_simp
                      refine hK.out _ _ (s5) (fun _ => ?_)
                      clear hK K
                      refine wpMix_t rfl rfl (fun K hK => ?_)
                      go_simp
                      refine (IHX.out _ (below_then hbz s5)).mono ?_
                      rintro r w6 ⟨rfl, hb6⟩
                      dsimp only
                      refine hK.out _ _ ?_
                      clear hK K
                      have s6 := below_then s5 hb6
                      have hw6 := below_then hwr (below_then hbz s6)
                      have hz6 := hzz.below' s6
                      iterate 1 (refine wpMix_p rfl rfl (fun K hK => ?_); apply Exists.intro; refine ⟨fun w' => ?_, ?_⟩; (focus (go_simp; try rfl)); go_simp; refine hK _ _ ?_; clear hK K)
                      refine wpMix_nil ?_
                      clear hc5 hPl hpk hpi hpc s5 s0 hb5 k0 k1 k2 k3 k4 k5 k6 y0 hzz hxz hbz hzl
                      by_cases hev : ev = 0
                      · have hez2 := HEZ.out
                        rw [if_neg (by simp [hev])] at hez2
                        have HEZ2 := Lib.hid hez2
                        subst hev
                        clear HEZ hez2
                        go_wp2
                        go_roundg (gk - 1)
                        case rel => exact ⟨k + 1, by have := HKG.out; omega, by go_num, hw6, hz6, HEZ2.out.symm⟩
                        case measure => have := HKG.out; omega
                      · have hr : res = ev := by rw [HEZ.out, if_pos hev]
                        have hb : (ev != 0) = true := by simpa using hev
                        subst hr
                        clear hev HEZ
                        go_wp2
                        go_ret
                        exact ⟨rfl, hw6⟩
                    · have hr : res = 0 := by
                        rw [← HE.out, List.drop_eq_nil_of_le (by omega)]; rfl
                      subst hr
                      go_wp2
                      go_ret
                      exact ⟨rfl, hwr⟩
            · have hlb : ((e.args.length : Int) != (P.length : Int)) = true := by simp; omega
              have hr : res = 1 := by
                have h1 := head1a (r := e.rt) (len := e.args.length) HBO.out H6.out (Or.inr (by rw [HP.out]; exact hlen))
                rw [← HRES.out, if_pos (by rw [h1]; omega), h1]
              subst hr
              clear hlen hpl
              go_wp2
              go_ret
              exact ⟨rfl, hw3⟩
end Go.Proofs.Ytmlldjcbijoheaa
