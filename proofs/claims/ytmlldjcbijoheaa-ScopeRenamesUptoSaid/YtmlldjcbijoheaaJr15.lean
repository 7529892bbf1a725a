/- Walks: whether two lists of limbs are equal. -/
import Derived.Test.YtmlldjcbijoheaaJr14
import Derived.Test.YtmlldjcbijoheaaJr3

/- Walk: R19.statement. -/
namespace Go.Proofs.Ytmlldjcbijoheaa
open Go.RowKit

theorem SlR.take {α : Type} {sz : Nat} {E : World → Nat → Nat → α → Prop} {w : World} {a : Option Addr} {c : Nat} {xs : List α} (h : SlR sz E w a c xs) (k : Nat) : SlR sz E w a c (xs.take k) :=
  ⟨by have := h.1; simp only [List.length_take]; omega, h.2.1, fun j x hj => h.2.2 j x (by
    rw [List.getElem?_take] at hj
    split at hj
    · exact hj
    · cases hj)⟩
theorem twices_at {l : List Stmt} {names : List ByteArray} {k : Nat} {x : ByteArray} (h : names[k]? = some x) : twices l names k (names.drop k) = (twiceB l names k x || twices l names (k + 1) (names.drop (k + 1))) := by
  have hk := lt_of_get h
  rw [List.drop_eq_getElem_cons hk]
  have : names[k] = x := by rw [List.getElem?_eq_getElem hk] at h; exact Option.some.inj h
  rw [this, twices]
theorem Stmt.err_zero {s : Stmt} (h : s.err = 0) (hk : s.kind ≠ 1) : s.expr.err (stmtSort s.kind) = 0 := by
  unfold Stmt.err Expr.check at h
  repeat' split at h
  all_goals first | exact h | omega | contradiction

set_option maxRecDepth 100000 in
set_option maxHeartbeats 8000000 in
theorem statement19_arg (dl : Nat) (l : List Stmt) (la : Option Addr) (lc : Nat) (d : Nat) (s : Stmt) (sa : Option Addr) (sc : Nat) (na : Option Addr) (nc : Nat) (da : Option Addr) (dc : Nat) (aa : Option Addr) (ac : Nat) (w : World)
    (hL : StmtsR dl w la lc l) (hn : StrsR w sa sc s.names) (h : ExprR d w na nc da dc aa ac s.expr) (hf : s.expr.few) (hcount : s.expr.count ≤ 1048576) (hsz : ∀ n ∈ s.names, n.size ≤ 1048576) :
    Calls Try.prog 99 #[.slice la l.length lc, .agg #[.int .i64 s.kind, .slice sa s.names.length sc, .int .i64 s.expr.kind, .string s.expr.name, .bool s.expr.neg, .slice na s.expr.num.length nc, .slice da s.expr.den.length dc, .slice aa s.expr.args.length ac, .int .i64 s.expr.pos, .int .i64 s.pos]] w fun r w' => r = .returned (.int .i64 (s.behind l)) ∧ Below w.heap.size w w' := by
  have CC := fun W (hW : Below w.heap.size w W) => checkStmt16_arg d s sa sc na nc da dc aa ac W (hn.ext (Ext.below hW)) (h.ext (Ext.below hW)) hf hcount hsz
  have CS := fun W => stmtSort16_any s.kind W
  have CU := fun (hz : s.expr.err (stmtSort s.kind) = 0) W (hW : Below w.heap.size w W) => uses19_any dl l la lc d s.expr (stmtSort s.kind) na nc da dc aa ac W (h.ext (Ext.below hW)) (hL.ext (Ext.below hW)) hz
  have CD := fun n W (hW : Below w.heap.size w W) => defined19_any dl l n la lc W (hL.ext (Ext.below hW))
  have HN := Lib.hid hn
  have hnl := hn.len
  have hll := hL.len
  have hnc := hn.1
  obtain ⟨res, hres⟩ : ∃ x, s.behind l = x := ⟨_, rfl⟩
  rw [hres]
  unfold Stmt.behind at hres
  obtain ⟨es, hes⟩ : ∃ x, s.err = x := ⟨_, rfl⟩
  rw [hes] at hres CC
  have hee : es = 0 → s.kind ≠ 1 → s.expr.err (stmtSort s.kind) = 0 := fun h0 hk => Stmt.err_zero (by rw [hes, h0]) hk
  obtain ⟨eu, heu⟩ : ∃ x, s.expr.uses l (stmtSort s.kind) = x := ⟨_, rfl⟩
  rw [heu] at hres CU
  have HEE := Lib.hid hee
  have HRES := Lib.hid hres
  obtain ⟨ss, hss⟩ : ∃ x, stmtSort s.kind = x := ⟨_, rfl⟩
  rw [hss] at CS CU
  have HSS := Lib.hid hss
  unfold Expr.val at CU
  replace CC := Lib.hid CC; replace CS := Lib.hid CS; replace CU := Lib.hid CU; replace CD := Lib.hid CD
  clear h hn hL hf hcount hsz hres hes hee heu hss
  have hz := Blk.new w 49 #[.int .i64 s.kind, .slice sa s.names.length sc, .int .i64 s.expr.kind, .string s.expr.name, .bool s.expr.neg, .slice na s.expr.num.length nc, .slice da s.expr.den.length dc, .slice aa s.expr.args.length ac, .int .i64 s.expr.pos, .int .i64 s.pos]
  have hb0 : Below w.heap.size w (w.alloc (.cells #[.int .i64 s.kind, .slice sa s.names.length sc, .int .i64 s.expr.kind, .string s.expr.name, .bool s.expr.neg, .slice na s.expr.num.length nc, .slice da s.expr.den.length dc, .slice aa s.expr.args.length ac, .int .i64 s.expr.pos, .int .i64 s.pos] 49)) := (Below.refl _ _).alloc (Nat.le_refl _) _
  by_cases he0 : es = 0
  · have hr := HRES.out
    rw [if_neg (by simp [he0])] at hr
    have heb : (es != 0) = false := by simpa using he0
    obtain ⟨bt, hbt⟩ : ∃ b, twices l s.names 0 s.names = b := ⟨_, rfl⟩
    rw [hbt] at hr
    have HBT : Hid (twices l s.names 0 (s.names.drop 0) = bt) := Lib.hid (by simpa using hbt)
    by_cases hk : s.kind = 1
    · have hkb : (s.kind != 1) = false := by simpa using hk
      rw [if_neg (by rintro ⟨h, _⟩; exact h hk)] at hr
      have HRT := Lib.hid hr
      clear hr HRES he0 hk hbt HEE
      go_enter Try.func99, Try.ntmps99
      go_wp2_with fail
      revert hz hb0
      generalize w.alloc (.cells #[.int .i64 s.kind, .slice sa s.names.length sc, .int .i64 s.expr.kind, .string s.expr.name, .bool s.expr.neg, .slice na s.expr.num.length nc, .slice da s.expr.den.length dc, .slice aa s.expr.args.length ac, .int .i64 s.expr.pos, .int .i64 s.pos] 49) = w0
      intro hz hb0
      refine (CC.out _ hb0).mono ?_
      rintro r w1 ⟨rfl, hb1⟩
      have hw1 := below_then hb0 hb1
      have hz1 := hz.below' hb1
      have z0 := hz1.cell 0; have z1 := hz1.cell 1
      clear hz hb0 hb1
      obtain ⟨wb, rfl⟩ : ∃ wb : World, wb = w1 := ⟨_, rfl⟩
      have hwb := hw1
      have hzb := hz1
      clear hw1 hz1
      go_wp2
      obtain ⟨wo, rfl⟩ : ∃ wo : World, wo = wb := ⟨_, rfl⟩
      go_loopg [7, 8, 30] s.names.length (fun g _ _ q wr => ∃ k : Nat, k + g = s.names.length ∧ q = .int .i64 k ∧ Below w.heap.size w wr ∧ Blk wr w.heap.size 49 #[.int .i64 s.kind, .slice sa s.names.length sc, .int .i64 s.expr.kind, .string s.expr.name, .bool s.expr.neg, .slice na s.expr.num.length nc, .slice da s.expr.den.length dc, .slice aa s.expr.args.length ac, .int .i64 s.expr.pos, .int .i64 s.pos] ∧ twices l s.names k (s.names.drop k) = bt)
      case atStart => exact ⟨0, by omega, rfl, hwb, hzb, HBT.out⟩
      case round =>
        clear hzb hwb
        obtain ⟨k, hkg, rfl, hwr, hzr, ha⟩ := hrel
        have HKG := Lib.hid hkg
        have HAK := Lib.hid ha
        have hzl := hzr.lt
        have z0 := hzr.cell 0; have z1 := hzr.cell 1
        clear hkg ha
        by_cases hlt : k < s.names.length
        · obtain ⟨x, hx⟩ := get_of_lt hlt
          have CHH := fun W (hW : Below wr.heap.size wr W) => has_any (s.names.take k) sa sc x W ((HN.out.ext (Ext.below (below_then hwr hW))).take k)
          obtain ⟨bx, ox, rfl, hc⟩ := (HN.out.ext (Ext.below hwr)).2.2 k x hx
          have hc1 : wr.cell? ⟨bx, ox + k, none⟩ = some (.string x) := by simpa [StrE] using hc
          have hlk : (s.names.take k).length = k := by simp only [List.length_take]; omega
          simp only [hlk] at CHH
          have CDX := fun W (hW : Below w.heap.size w W) => CD.out x W hW
          have hak := HAK.out
          rw [twices_at hx] at hak
          unfold twiceB at hak
          obtain ⟨qd, hqd⟩ : ∃ b, definedS l x = b := ⟨_, rfl⟩
          rw [hqd] at CDX hak
          obtain ⟨bh, hbh⟩ : ∃ b, hasName (s.names.take k) x = b := ⟨_, rfl⟩
          rw [hbh] at CHH hak
          have HAX := Lib.hid hak
          replace CDX := Lib.hid CDX; replace CHH := Lib.hid CHH
          have hkc : k ≤ sc := by omega
          have hkn : k ≤ s.names.length := by omega
          clear hx hc hqd hbh HAK hak hlk
          go_wp2_with fail
          refine (CDX.out _ hwr).mono ?_
          rintro r w2 ⟨rfl, hb2⟩
          have hw2 := below_then hwr hb2
          have hz2 := hzr.below' hb2
          have y0 := hz2.cell 0; have y1 := hz2.cell 1
          clear hc1 z0 z1
          by_cases hq : qd = 0
          · have hqb : (qd != 0) = false := by simpa using hq
            have hax : (bh || twices l s.names (k + 1) (s.names.drop (k + 1))) = bt := by have := HAX.out; rw [decide_eq_false (by simpa using hq), Bool.false_or] at this; exact this
            have HAY := Lib.hid hax
            clear hq hax HAX
            go_wp2_with fail
            refine (CHH.out _ hb2).mono ?_
            rintro r w3 ⟨rfl, rfl⟩
            cases bh
            · have HAZ : Hid (twices l s.names (k + 1) (s.names.drop (k + 1)) = bt) := Lib.hid (by have := HAY.out; simpa using this)
              clear HAY hb2 hzr hzl hwr y0 y1
              go_wp2
              go_roundg (gk - 1)
              case rel => exact ⟨k + 1, by have := HKG.out; omega, by go_num, hw2, hz2, HAZ.out⟩
              case measure => have := HKG.out; omega
            · have hbt : bt = true := by rw [← HAY.out]; rfl
              have hr : res = 7 := by rw [← HRT.out, if_pos hbt]
              subst hr
              clear hbt
              go_wp2
              go_ret
              exact ⟨rfl, hw2⟩
          · have hqb : (qd != 0) = true := by simpa using hq
            have hbt : bt = true := by rw [← HAX.out, decide_eq_true (by simpa using hq)]; rfl
            have hr : res = 7 := by rw [← HRT.out, if_pos hbt]
            subst hr
            clear hbt hq
            go_wp2
            go_ret
            exact ⟨rfl, hw2⟩
        · have hbt : bt = false := by rw [← HAK.out, List.drop_eq_nil_of_le (by omega)]; rfl
          have hr : res = 0 := by rw [← HRT.out, hbt]; rfl
          subst hr
          clear hbt
          go_wp2
          go_ret
          exact ⟨rfl, hwr⟩
    · have hkb : (s.kind != 1) = true := by simpa using hk
      have CUX := CU.out (by have := HEE.out he0 hk; rwa [HSS.out] at this)
      replace CUX := Lib.hid CUX
      by_cases hu : eu = 0
      · have hub : (eu != 0) = false := by simpa using hu
        rw [if_neg (by rintro ⟨_, h⟩; exact h hu)] at hr
        have HRT := Lib.hid hr
        clear hr HRES he0 hk hbt HEE hu
        go_enter Try.func99, Try.ntmps99
        go_wp2_with fail
        revert hz hb0
        generalize w.alloc (.cells #[.int .i64 s.kind, .slice sa s.names.length sc, .int .i64 s.expr.kind, .string s.expr.name, .bool s.expr.neg, .slice na s.expr.num.length nc, .slice da s.expr.den.length dc, .slice aa s.expr.args.length ac, .int .i64 s.expr.pos, .int .i64 s.pos] 49) = w0
        intro hz hb0
        refine (CC.out _ hb0).mono ?_
        rintro r w1 ⟨rfl, hb1⟩
        have hw1 := below_then hb0 hb1
        have hz1 := hz.below' hb1
        have z0 := hz1.cell 0; have z1 := hz1.cell 1
        clear hz hb0 hb1
        have k0 := held z0; have k1 := held z1; have k2 := held (hz1.cell 2); have k3 := held (hz1.cell 3); have k4 := held (hz1.cell 4); have k5 := held (hz1.cell 5); have k6 := held (hz1.cell 6); have k7 := held (hz1.cell 7); have k8 := held (hz1.cell 8)
        go_wp2
        have s0 : Below w1.heap.size w1 w1.drew := (Below.refl _ _).drew
        clear z0 z1
        refine wp_region_mix (S := Below w1.heap.size w1) [(0, .q), (1, .q), (2, .q), (3, .q), (4, .q), (5, .l), (6, .t), (7, .p)] (by kernel_rfl) (by kernel_rfl) (by kernel_rfl) (fun d _ _ _ _ h => by cases d <;> exact h) (s0) ?_
        iterate 5 (refine wpMix_q rfl rfl (fun K hK => ?_); apply Exists.intro; refine ⟨fun w' hw' => ?_, ?_⟩; (focus (go_simp; try rfl)); go_simp; refine hK _ _ ?_; clear hK K)
        refine wpMix_l rfl rfl (fun K hK => ?_)
        go_simp
        refine (CS.out _).mono ?_
        rintro r w2 ⟨rfl, rfl⟩
        dsimp only
        refine hK.out _ _ (s0) (fun _ => ?_)
        clear hK K
        refine wpMix_t rfl rfl (fun K hK => ?_)
        go_simp
        refine (CUX.out _ (below_then hw1 s0)).mono ?_
        rintro r wb ⟨rfl, hb2⟩
        dsimp only
        refine hK.out _ _ ?_
        clear hK K
        have hwb := below_then hw1 (below_then s0 hb2)
        have hzb := hz1.below' (below_then s0 hb2)
        iterate 1 (refine wpMix_p rfl rfl (fun K hK => ?_); apply Exists.intro; refine ⟨fun w' => ?_, ?_⟩; (focus (go_simp; try rfl)); go_simp; refine hK _ _ ?_; clear hK K)
        refine wpMix_nil ?_
        have z0 := hzb.cell 0; have z1 := hzb.cell 1
        clear k0 k1 k2 k3 k4 k5 k6 k7 k8 s0 hb2 hw1 hz1
        go_wp2
        obtain ⟨wo, rfl⟩ : ∃ wo : World, wo = wb := ⟨_, rfl⟩
        go_loopg [7, 8, 30] s.names.length (fun g _ _ q wr => ∃ k : Nat, k + g = s.names.length ∧ q = .int .i64 k ∧ Below w.heap.size w wr ∧ Blk wr w.heap.size 49 #[.int .i64 s.kind, .slice sa s.names.length sc, .int .i64 s.expr.kind, .string s.expr.name, .bool s.expr.neg, .slice na s.expr.num.length nc, .slice da s.expr.den.length dc, .slice aa s.expr.args.length ac, .int .i64 s.expr.pos, .int .i64 s.pos] ∧ twices l s.names k (s.names.drop k) = bt)
        case atStart => exact ⟨0, by omega, rfl, hwb, hzb, HBT.out⟩
        case round =>
          clear hzb hwb
          obtain ⟨k, hkg, rfl, hwr, hzr, ha⟩ := hrel
          have HKG := Lib.hid hkg
          have HAK := Lib.hid ha
          have hzl := hzr.lt
          have z0 := hzr.cell 0; have z1 := hzr.cell 1
          clear hkg ha
          by_cases hlt : k < s.names.length
          · obtain ⟨x, hx⟩ := get_of_lt hlt
            have CHH := fun W (hW : Below wr.heap.size wr W) => has_any (s.names.take k) sa sc x W ((HN.out.ext (Ext.below (below_then hwr hW))).take k)
            obtain ⟨bx, ox, rfl, hc⟩ := (HN.out.ext (Ext.below hwr)).2.2 k x hx
            have hc1 : wr.cell? ⟨bx, ox + k, none⟩ = some (.string x) := by simpa [StrE] using hc
            have hlk : (s.names.take k).length = k := by simp only [List.length_take]; omega
            simp only [hlk] at CHH
            have CDX := fun W (hW : Below w.heap.size w W) => CD.out x W hW
            have hak := HAK.out
            rw [twices_at hx] at hak
            unfold twiceB at hak
            obtain ⟨qd, hqd⟩ : ∃ b, definedS l x = b := ⟨_, rfl⟩
            rw [hqd] at CDX hak
            obtain ⟨bh, hbh⟩ : ∃ b, hasName (s.names.take k) x = b := ⟨_, rfl⟩
            rw [hbh] at CHH hak
            have HAX := Lib.hid hak
            replace CDX := Lib.hid CDX; replace CHH := Lib.hid CHH
            have hkc : k ≤ sc := by omega
            have hkn : k ≤ s.names.length := by omega
            clear hx hc hqd hbh HAK hak hlk
            go_wp2_with fail
            refine (CDX.out _ hwr).mono ?_
            rintro r w2 ⟨rfl, hb2⟩
            have hw2 := below_then hwr hb2
            have hz2 := hzr.below' hb2
            have y0 := hz2.cell 0; have y1 := hz2.cell 1
            clear hc1 z0 z1
            by_cases hq : qd = 0
            · have hqb : (qd != 0) = false := by simpa using hq
              have hax : (bh || twices l s.names (k + 1) (s.names.drop (k + 1))) = bt := by have := HAX.out; rw [decide_eq_false (by simpa using hq), Bool.false_or] at this; exact this
              have HAY := Lib.hid hax
              clear hq hax HAX
              go_wp2_with fail
              refine (CHH.out _ hb2).mono ?_
              rintro r w3 ⟨rfl, rfl⟩
              cases bh
              · have HAZ : Hid (twices l s.names (k + 1) (s.names.drop (k + 1)) = bt) := Lib.hid (by have := HAY.out; simpa using this)
                clear HAY hb2 hzr hzl hwr y0 y1
                go_wp2
                go_roundg (gk - 1)
                case rel => exact ⟨k + 1, by have := HKG.out; omega, by go_num, hw2, hz2, HAZ.out⟩
                case measure => have := HKG.out; omega
              · have hbt : bt = true := by rw [← HAY.out]; rfl
                have hr : res = 7 := by rw [← HRT.out, if_pos hbt]
                subst hr
                clear hbt
                go_wp2
                go_ret
                exact ⟨rfl, hw2⟩
            · have hqb : (qd != 0) = true := by simpa using hq
              have hbt : bt = true := by rw [← HAX.out, decide_eq_true (by simpa using hq)]; rfl
              have hr : res = 7 := by rw [← HRT.out, if_pos hbt]
              subst hr
              clear hbt hq
              go_wp2
              go_ret
              exact ⟨rfl, hw2⟩
          · have hbt : bt = false := by rw [← HAK.out, List.drop_eq_nil_of_le (by omega)]; rfl
            have hr : res = 0 := by rw [← HRT.out, hbt]; rfl
            subst hr
            clear hbt
            go_wp2
            go_ret
            exact ⟨rfl, hwr⟩
      · have hub : (eu != 0) = true := by simpa using hu
        rw [if_pos ⟨hk, hu⟩] at hr
        subst hr
        clear HRES he0 hk hbt HEE hu HBT
        go_enter Try.func99, Try.ntmps99
        go_wp2_with fail
        revert hz hb0
        generalize w.alloc (.cells #[.int .i64 s.kind, .slice sa s.names.length sc, .int .i64 s.expr.kind, .string s.expr.name, .bool s.expr.neg, .slice na s.expr.num.length nc, .slice da s.expr.den.length dc, .slice aa s.expr.args.length ac, .int .i64 s.expr.pos, .int .i64 s.pos] 49) = w0
        intro hz hb0
        refine (CC.out _ hb0).mono ?_
        rintro r w1 ⟨rfl, hb1⟩
        have hw1 := below_then hb0 hb1
        have hz1 := hz.below' hb1
        have z0 := hz1.cell 0; have z1 := hz1.cell 1
        clear hz hb0 hb1
        have k0 := held z0; have k1 := held z1; have k2 := held (hz1.cell 2); have k3 := held (hz1.cell 3); have k4 := held (hz1.cell 4); have k5 := held (hz1.cell 5); have k6 := held (hz1.cell 6); have k7 := held (hz1.cell 7); have k8 := held (hz1.cell 8)
        go_wp2
        have s0 : Below w1.heap.size w1 w1.drew := (Below.refl _ _).drew
        clear z0 z1
        refine wp_region_mix (S := Below w1.heap.size w1) [(0, .q), (1, .q), (2, .q), (3, .q), (4, .q), (5, .l), (6, .t), (7, .p)] (by kernel_rfl) (by kernel_rfl) (by kernel_rfl) (fun d _ _ _ _ h => by cases d <;> exact h) (s0) ?_
        iterate 5 (refine wpMix_q rfl rfl (fun K hK => ?_); apply Exists.intro; refine ⟨fun w' hw' => ?_, ?_⟩; (focus (go_simp; try rfl)); go_simp; refine hK _ _ ?_; clear hK K)
        refine wpMix_l rfl rfl (fun K hK => ?_)
        go_simp
        refine (CS.out _).mono ?_
        rintro r w2 ⟨rfl, rfl⟩
        dsimp only
        refine hK.out _ _ (s0) (fun _ => ?_)
        clear hK K
        refine wpMix_t rfl rfl (fun K hK => ?_)
        go_simp
        refine (CUX.out _ (below_then hw1 s0)).mono ?_
        rintro r wb ⟨rfl, hb2⟩
        dsimp only
        refine hK.out _ _ ?_
        clear hK K
        have hwb := below_then hw1 (below_then s0 hb2)
        iterate 1 (refine wpMix_p rfl rfl (fun K hK => ?_); apply Exists.intro; refine ⟨fun w' => ?_, ?_⟩; (focus (go_simp; try rfl)); go_simp; refine hK _ _ ?_; clear hK K)
        refine wpMix_nil ?_
        clear k0 k1 k2 k3 k4 k5 k6 k7 k8 s0 hb2 hw1 hz1
        go_wp2
        go_ret
        exact ⟨rfl, hwb⟩
  · have heb : (es != 0) = true := by simpa using he0
    have hr : res = es := by rw [← HRES.out, if_pos he0]
    subst hr
    clear he0 HRES HEE
    go_enter Try.func99, Try.ntmps99
    go_wp2_with fail
    revert hz hb0
    generalize w.alloc (.cells #[.int .i64 s.kind, .slice sa s.names.length sc, .int .i64 s.expr.kind, .string s.expr.name, .bool s.expr.neg, .slice na s.expr.num.length nc, .slice da s.expr.den.length dc, .slice aa s.expr.args.length ac, .int .i64 s.expr.pos, .int .i64 s.pos] 49) = w0
    intro hz hb0
    refine (CC.out _ hb0).mono ?_
    rintro r w1 ⟨rfl, hb1⟩
    have hw1 := below_then hb0 hb1
    have hz1 := hz.below' hb1
    have z0 := hz1.cell 0; have z1 := hz1.cell 1
    clear hz hb0 hb1
    go_wp2
    go_ret
    exact ⟨rfl, hw1⟩
end Go.Proofs.Ytmlldjcbijoheaa

/- Walks: whether two lists of limbs are equal. -/
namespace Go.Proofs.Ytmlldjcbijoheaa
open Go.RowKit

set_option maxHeartbeats 400000 in
theorem sameNat16_any (xs ys : List Int) (a a' : Option Addr) (c c' : Nat) (w : World) (h : NatR w a c xs) (h' : NatR w a' c' ys) :
    Calls Try.prog 93 #[.slice a xs.length c, .slice a' ys.length c'] w fun r w' => r = .returned (.bool (decide (xs = ys))) ∧ Below w.heap.size w w' := by
  have H := Lib.hid h
  have H' := Lib.hid h'
  have hl := h.len
  have hl' := h'.len
  clear h h'
  by_cases hlen : xs.length = ys.length
  · have hlb : ((xs.length : Int) == (ys.length : Int)) = true := by rw [beq_iff_eq]; omega
    have HL := Lib.hid hlen
    clear hlen
    go_enter Try.func93, Try.ntmps93
    go_wp2
    go_loopw [13] (fun i wr => ∃ k : Nat, k ≤ xs.length ∧ i = .int .i64 k ∧ Below w.heap.size w wr ∧ Hid (xs.take k = ys.take k)) (fun i _ => xs.length - (intOf i).toNat)
    case atStart => exact ⟨0, by omega, rfl, Below.refl _ _, by simp [Hid]⟩
    case round =>
      obtain ⟨k, hk, rfl, hb, hp⟩ := hrel
      by_cases hlt : k < xs.length
      · obtain ⟨x, hx⟩ := get_of_lt hlt
        obtain ⟨y, hy⟩ := get_of_lt (xs := ys) (k := k) (by have := HL.out; omega)
        obtain ⟨b, off, rfl, hE⟩ := H.out.2.2 k x hx
        obtain ⟨b', off', rfl, hE'⟩ := H'.out.2.2 k y hy
        have hc : wr.cell? ⟨b, off + k, none⟩ = some (.int .u16 x) := by have := (hE.ext (Ext.below hb)).1; simpa using this
        have hc' : wr.cell? ⟨b', off' + k, none⟩ = some (.int .u16 y) := by have := (hE'.ext (Ext.below hb)).1; simpa using this
        have hky : (k : Int) < (ys.length : Int) := by have := HL.out; omega
        have HX := Lib.hid hx
        have HY := Lib.hid hy
        clear hx hy hE hE'
        by_cases he : x = y
        · have hbe : (x == y) = true := by simpa using he
          have HE := Lib.hid he
          clear he
          go_wp2
          go_quiet (fail)
          go_wp2
          refine ⟨⟨k + 1, by omega, by go_num, below_drewN hb _, ?_⟩, by simp [intOf]; omega⟩
          rw [take_more HX.out, take_more HY.out, hp.out, HE.out]; rfl
        · have hbe : (x == y) = false := by simpa using he
          have HE := Lib.hid he
          clear he
          go_wp2
          go_quiet (fail)
          go_wp2
          go_ret
          refine ⟨ret_bool ?_, below_drewN hb _⟩
          refine (decide_eq_false (fun e => HE.out ?_)).symm
          have h1 := HX.out
          have h2 := HY.out
          rw [e, h2] at h1
          exact (Option.some.inj h1).symm
      · go_wp2
        go_ret
        refine ⟨ret_bool ?_, hb⟩
        have := hp.out
        rw [take_all hlt, take_all (by have := HL.out; omega)] at this
        exact (decide_eq_true this).symm
  · have hlb : ((xs.length : Int) == (ys.length : Int)) = false := by simp; omega
    have hne : xs ≠ ys := fun e => hlen (by rw [e])
    have HN := Lib.hid hne
    clear hne hlen
    go_enter Try.func93, Try.ntmps93
    go_wp2
    go_ret
    exact ⟨ret_bool (decide_eq_false HN.out).symm, Below.refl _ _⟩

set_option maxHeartbeats 400000 in
theorem equalNat_any (xs ys : List Int) (a a' : Option Addr) (c c' : Nat) (w : World) (h : NatR w a c xs) (h' : NatR w a' c' ys) :
    Calls Try.prog 94 #[.slice a xs.length c, .slice a' ys.length c'] w fun r w' => r = .returned (.bool (decide (xs = ys))) ∧ Below w.heap.size w w' := by
  have H := Lib.hid h
  have H' := Lib.hid h'
  have hl := h.len
  have hl' := h'.len
  clear h h'
  by_cases hlen : xs.length = ys.length
  · have hlb : ((xs.length : Int) == (ys.length : Int)) = true := by rw [beq_iff_eq]; omega
    have HL := Lib.hid hlen
    clear hlen
    go_enter Try.func94, Try.ntmps94
    go_wp2
    go_loopw [13] (fun i wr => ∃ k : Nat, k ≤ xs.length ∧ i = .int .i64 k ∧ Below w.heap.size w wr ∧ Hid (xs.take k = ys.take k)) (fun i _ => xs.length - (intOf i).toNat)
    case atStart => exact ⟨0, by omega, rfl, Below.refl _ _, by simp [Hid]⟩
    case round =>
      obtain ⟨k, hk, rfl, hb, hp⟩ := hrel
      by_cases hlt : k < xs.length
      · obtain ⟨x, hx⟩ := get_of_lt hlt
        obtain ⟨y, hy⟩ := get_of_lt (xs := ys) (k := k) (by have := HL.out; omega)
        obtain ⟨b, off, rfl, hE⟩ := H.out.2.2 k x hx
        obtain ⟨b', off', rfl, hE'⟩ := H'.out.2.2 k y hy
        have hc : wr.cell? ⟨b, off + k, none⟩ = some (.int .u16 x) := by have := (hE.ext (Ext.below hb)).1; simpa using this
        have hc' : wr.cell? ⟨b', off' + k, none⟩ = some (.int .u16 y) := by have := (hE'.ext (Ext.below hb)).1; simpa using this
        have hky : (k : Int) < (ys.length : Int) := by have := HL.out; omega
        have HX := Lib.hid hx
        have HY := Lib.hid hy
        clear hx hy hE hE'
        by_cases he : x = y
        · have hbe : (x == y) = true := by simpa using he
          have HE := Lib.hid he
          clear he
          go_wp2
          go_quiet (fail)
          go_wp2
          refine ⟨⟨k + 1, by omega, by go_num, below_drewN hb _, ?_⟩, by simp [intOf]; omega⟩
          rw [take_more HX.out, take_more HY.out, hp.out, HE.out]; rfl
        · have hbe : (x == y) = false := by simpa using he
          have HE := Lib.hid he
          clear he
          go_wp2
          go_quiet (fail)
          go_wp2
          go_ret
          refine ⟨ret_bool ?_, below_drewN hb _⟩
          refine (decide_eq_false (fun e => HE.out ?_)).symm
          have h1 := HX.out
          have h2 := HY.out
          rw [e, h2] at h1
          exact (Option.some.inj h1).symm
      · go_wp2
        go_ret
        refine ⟨ret_bool ?_, hb⟩
        have := hp.out
        rw [take_all hlt, take_all (by have := HL.out; omega)] at this
        exact (decide_eq_true this).symm
  · have hlb : ((xs.length : Int) == (ys.length : Int)) = false := by simp; omega
    have hne : xs ≠ ys := fun e => hlen (by rw [e])
    have HN := Lib.hid hne
    clear hne hlen
    go_enter Try.func94, Try.ntmps94
    go_wp2
    go_ret
    exact ⟨ret_bool (decide_eq_false HN.out).symm, Below.refl _ _⟩

end Go.Proofs.Ytmlldjcbijoheaa
