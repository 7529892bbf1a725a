/- Walk: R19.uses. -/
import Derived.Test.YtmlldjcbijoheaaJr13
import Derived.Test.YtmlldjcbijoheaaJr10

/- Walk: R19.defined. -/
namespace Go.Proofs.Ytmlldjcbijoheaa
open Go.RowKit

theorem definedS_at {l : List Stmt} {n : ByteArray} {k : Nat} {s : Stmt} (h : l[k]? = some s) : definedS (l.drop k) n = if hasName s.names n = true then sortOf s.kind else definedS (l.drop (k + 1)) n := by
  have hk := lt_of_get h
  rw [List.drop_eq_getElem_cons hk]
  have : l[k] = s := by rw [List.getElem?_eq_getElem hk] at h; exact Option.some.inj h
  rw [this, definedS]

set_option maxRecDepth 100000 in
set_option maxHeartbeats 2000000 in
theorem defined19_any (d : Nat) (l : List Stmt) (n : ByteArray) (la : Option Addr) (lc : Nat) (w : World) (h : StmtsR d w la lc l) :
    Calls Try.prog 121 #[.slice la l.length lc, .string n] w fun r w' => r = .returned (.int .i64 (definedS l n)) ∧ Below w.heap.size w w' := by
  have HL := Lib.hid h
  have hlen := h.len
  obtain ⟨res, hres⟩ : ∃ x, definedS l n = x := ⟨_, rfl⟩
  rw [hres]
  have HRES := Lib.hid hres
  clear h hres
  go_enter Try.func121, Try.ntmps121
  go_wp2
  obtain ⟨wo, rfl⟩ : ∃ wo : World, wo = w := ⟨_, rfl⟩
  go_loopg [6, 9] l.length (fun g _ q wr => ∃ k : Nat, k + g = l.length ∧ q = .int .i64 k ∧ Below wo.heap.size wo wr ∧ definedS (l.drop k) n = res)
  case atStart => exact ⟨0, by omega, rfl, Below.refl _ _, HRES.out⟩
  case round =>
    obtain ⟨k, hkg, rfl, hwr, he⟩ := hrel
    have HKG := Lib.hid hkg
    have HE := Lib.hid he
    clear hkg he
    by_cases hlt : k < l.length
    · obtain ⟨x, hx⟩ := get_of_lt hlt
      obtain ⟨bx, ox, rfl, p, hC, hR⟩ := (HL.out.ext (Ext.below hwr)).2.2 k x hx
      obtain ⟨c0, c1, c2, c3, c4, c5, c6, c7, c8, c9⟩ := hC
      have hez := HE.out
      rw [definedS_at hx] at hez
      have CS := fun W => sortOf19_any x.kind W
      have CH := fun W (hW : Below wr.heap.size wr W) => has_any x.names p.sa p.sc n W (hR.names.ext (Ext.below hW))
      obtain ⟨bh, hbh⟩ : ∃ b, hasName x.names n = b := ⟨_, rfl⟩
      rw [hbh] at hez CH
      obtain ⟨sk, hsk⟩ : ∃ b, sortOf x.kind = b := ⟨_, rfl⟩
      rw [hsk] at hez CS
      have HEZ := Lib.hid hez
      replace CS := Lib.hid CS; replace CH := Lib.hid CH
      have hnl := hR.names.len
      have hxz := Blk.new wr 49 #[.int .i64 x.kind, .slice p.sa x.names.length p.sc, .int .i64 x.expr.kind, .string x.expr.name, .bool x.expr.neg, .slice p.na x.expr.num.length p.nc, .slice p.da x.expr.den.length p.dc, .slice p.aa x.expr.args.length p.ac, .int .i64 x.expr.pos, .int .i64 x.pos]
      have hbz : Below wr.heap.size wr (wr.alloc (.cells #[.int .i64 x.kind, .slice p.sa x.names.length p.sc, .int .i64 x.expr.kind, .string x.expr.name, .bool x.expr.neg, .slice p.na x.expr.num.length p.nc, .slice p.da x.expr.den.length p.dc, .slice p.aa x.expr.args.length p.ac, .int .i64 x.expr.pos, .int .i64 x.pos] 49)) := by go_grown
      clear hx hR hez hbh hsk HE
      go_wp2_with fail
      revert hbz hxz
      generalize wr.alloc (.cells #[.int .i64 x.kind, .slice p.sa x.names.length p.sc, .int .i64 x.expr.kind, .string x.expr.name, .bool x.expr.neg, .slice p.na x.expr.num.length p.nc, .slice p.da x.expr.den.length p.dc, .slice p.aa x.expr.args.length p.ac, .int .i64 x.expr.pos, .int .i64 x.pos] 49) = wz
      intro hxz hbz
      have hwz := below_then hwr hbz
      have z0 := hxz.cell 0; have z1 := hxz.cell 1
      refine (CH.out _ hbz).mono ?_
      rintro r w1 ⟨rfl, rfl⟩
      clear c0 c1 c2 c3 c4 c5 c6 c7 c8 c9 hnl
      cases bh
      · have hez2 : definedS (l.drop (k + 1)) n = res := by have := HEZ.out; simpa using this
        have HEZ2 := Lib.hid hez2
        clear HEZ hez2 hbz hxz z0 z1
        go_wp2
        go_roundg (gk - 1)
        case rel => exact ⟨k + 1, by have := HKG.out; omega, by go_num, hwz, HEZ2.out⟩
        case measure => have := HKG.out; omega
      · have hr : sk = res := by have := HEZ.out; simpa using this
        subst hr
        clear HEZ
        go_wp2_with fail
        refine (CS.out _).mono ?_
        rintro r w2 ⟨rfl, rfl⟩
        go_wp2
        go_ret
        exact ⟨rfl, hwz⟩
    · have hr : res = 0 := by rw [← HE.out, List.drop_eq_nil_of_le (by omega)]; rfl
      subst hr
      go_wp2
      go_ret
      exact ⟨rfl, hwr⟩
end Go.Proofs.Ytmlldjcbijoheaa

/- Walk: R19.uses. -/
namespace Go.Proofs.Ytmlldjcbijoheaa
open Go.RowKit

theorem errs_zero : ∀ (es : List Expr) (ps : List Int), Expr.errs es ps = 0 → ∀ (k : Nat) (e : Expr) (p : Int), es[k]? = some e → ps[k]? = some p → e.err p = 0
  | [], _, _, k, e, p, h, _ => by simp at h
  | x :: es, [], _, k, e, p, _, h => by simp at h
  | x :: es, q :: ps, h, k, e, p, he, hp => by
    have h' : (if x.err q ≠ 0 then x.err q else Expr.errs es ps) = 0 := by rw [Expr.errs] at h; exact h
    clear h
    by_cases hx : x.err q ≠ 0
    · rw [if_pos hx] at h'; exact absurd h' hx
    · rw [if_neg hx] at h'
      cases k with
      | zero => simp at he hp; subst he; subst hp; simpa using hx
      | succ k => exact errs_zero es ps h' k e p (by simpa using he) (by simpa using hp)
theorem err_zero {e : Expr} {s : Int} (h : e.err s = 0) : e.args.length = (findRow e.kind).params.length ∧ Expr.errs e.args (findRow e.kind).params = 0 := by
  rw [Expr.err_eq] at h
  by_cases h0 : headErr e.kind e.name e.rt e.args.length s ≠ 0
  · rw [if_pos h0] at h; exact absurd h h0
  · rw [if_neg h0] at h
    refine ⟨?_, h⟩
    rw [Decidable.not_not] at h0
    unfold headErr at h0
    split at h0
    · omega
    · split at h0
      · omega
      · split at h0
        · omega
        · rename_i hh; apply Decidable.byContradiction; intro hne; exact hh (Or.inr hne)

set_option maxRecDepth 100000 in
set_option maxHeartbeats 8000000 in
theorem uses19_any (dl : Nat) (l : List Stmt) (la : Option Addr) (lc : Nat) (d : Nat) : ∀ (e : Expr) (s : Int) (na : Option Addr) (nc : Nat) (da : Option Addr) (dc : Nat) (aa : Option Addr) (ac : Nat) (w : World), ExprR d w na nc da dc aa ac e → StmtsR dl w la lc l → e.err s = 0 →
    Calls Try.prog 119 #[.slice la l.length lc, e.val na nc da dc aa ac, .int .i64 s] w fun r w' => r = .returned (.int .i64 (e.uses l s)) ∧ Below w.heap.size w w' := by
  induction d with
  | zero => intro e s na nc da dc aa ac w h; exact h.elim
  | succ d ih =>
    intro e s na nc da dc aa ac w h hL herr
    obtain ⟨-, -, hname, hn, hd, hx⟩ := h.of_succ
    have hl := hx.len
    have hll := hL.len
    obtain ⟨hlen, hzero⟩ := err_zero herr
    have CD := fun W (hW : Below w.heap.size w W) => defined19_any dl l e.name la lc W (hL.ext (Ext.below hW))
    have CP := fun W => params16_any e.kind W
    have HZ := Lib.hid (errs_zero _ _ hzero)
    obtain ⟨res, hres⟩ : ∃ x, e.uses l s = x := ⟨_, rfl⟩
    rw [hres]
    rw [Expr.uses_eq] at hres
    obtain ⟨qd, hqd⟩ : ∃ x, definedS l e.name = x := ⟨_, rfl⟩
    rw [hqd] at hres CD
    obtain ⟨P, hP⟩ : ∃ P, (findRow e.kind).params = P := ⟨_, rfl⟩
    rw [hP] at CP hlen HZ hres
    have HRES := Lib.hid hres
    have HX := Lib.hid hx
    have HL := Lib.hid hL
    have HLEN := Lib.hid hlen
    have IH := Lib.hid ih
    unfold Expr.val
    replace CD := Lib.hid CD; replace CP := Lib.hid CP
    clear h hL herr hname hn hd hx hlen hzero hres hqd hP ih
    have hz := Blk.new w 40 #[.int .i64 e.kind, .string e.name, .bool e.neg, .slice na e.num.length nc, .slice da e.den.length dc, .slice aa e.args.length ac, .int .i64 e.pos]
    have hb0 : Below w.heap.size w (w.alloc (.cells #[.int .i64 e.kind, .string e.name, .bool e.neg, .slice na e.num.length nc, .slice da e.den.length dc, .slice aa e.args.length ac, .int .i64 e.pos] 40)) := (Below.refl _ _).alloc (Nat.le_refl _) _
    by_cases hk : e.kind = 1
    · have hkb : (e.kind == 1) = true := by simpa using hk
      have hr := HRES.out
      rw [if_pos hk] at hr
      have HR := Lib.hid hr
      clear hk hr HRES HX HZ IH CP HLEN HL
      by_cases q0 : qd = 0
      · have hr : res = 6 := by rw [← HR.out]; unfold useErr; rw [if_pos q0]
        have hq : (qd == 0) = true := by simpa using q0
        clear q0
        subst hr
        go_enter Try.func119, Try.ntmps119
        go_wp2_with fail
        revert hz hb0
        generalize w.alloc (.cells _ _) = w0
        intro hz hb0
        refine (CD.out _ hb0).mono ?_
        rintro r w1 ⟨rfl, hb1⟩
        have hw1 := below_then hb0 hb1
        clear hz hb0 hb1
        go_wp2
        go_ret
        exact ⟨rfl, hw1⟩
      · have hq : (qd == 0) = false := by simpa using q0
        by_cases hs0 : s = 0
        · have hsb : (s == 0) = true := by simpa using hs0
          have hsn : (s != 0) = false := by simpa using hs0
          by_cases q1 : qd = 1
          · have hq1 : (qd == 1) = true := by simpa using q1
            have hr : res = 8 := by rw [← HR.out]; unfold useErr; rw [if_neg q0, if_pos (Or.inl ⟨hs0, q1⟩)]
            clear HR q0 q1 hs0
            subst hr
            go_enter Try.func119, Try.ntmps119
            go_wp2_with fail
            revert hz hb0
            generalize w.alloc (.cells _ _) = w0
            intro hz hb0
            refine (CD.out _ hb0).mono ?_
            rintro r w1 ⟨rfl, hb1⟩
            have hw1 := below_then hb0 hb1
            clear hz hb0 hb1
            go_wp2
            go_ret
            exact ⟨rfl, hw1⟩
          · have hq1 : (qd == 1) = false := by simpa using q1
            have hr : res = 0 := by rw [← HR.out]; unfold useErr; rw [if_neg q0, if_neg (by rintro (h | h); exact q1 h.2; exact h.1 hs0)]
            clear HR q0 q1 hs0
            subst hr
            go_enter Try.func119, Try.ntmps119
            go_wp2_with fail
            revert hz hb0
            generalize w.alloc (.cells _ _) = w0
            intro hz hb0
            refine (CD.out _ hb0).mono ?_
            rintro r w1 ⟨rfl, hb1⟩
            have hw1 := below_then hb0 hb1
            clear hz hb0 hb1
            go_wp2
            go_ret
            exact ⟨rfl, hw1⟩
        · have hsb : (s == 0) = false := by simpa using hs0
          have hsn : (s != 0) = true := by simpa using hs0
          by_cases q1 : qd = s
          · have hq1 : (qd != s) = false := by simpa using q1
            have hr : res = 0 := by rw [← HR.out]; unfold useErr; rw [if_neg q0, if_neg (by rintro (h | h); exact hs0 h.1; exact h.2 q1)]
            clear HR q0 q1 hs0
            subst hr
            go_enter Try.func119, Try.ntmps119
            go_wp2_with fail
            revert hz hb0
            generalize w.alloc (.cells _ _) = w0
            intro hz hb0
            refine (CD.out _ hb0).mono ?_
            rintro r w1 ⟨rfl, hb1⟩
            have hw1 := below_then hb0 hb1
            clear hz hb0 hb1
            go_wp2
            go_ret
            exact ⟨rfl, hw1⟩
          · have hq1 : (qd != s) = true := by simpa using q1
            have hr : res = 8 := by rw [← HR.out]; unfold useErr; rw [if_neg q0, if_pos (Or.inr ⟨hs0, q1⟩)]
            clear HR q0 q1 hs0
            subst hr
            go_enter Try.func119, Try.ntmps119
            go_wp2_with fail
            revert hz hb0
            generalize w.alloc (.cells _ _) = w0
            intro hz hb0
            refine (CD.out _ hb0).mono ?_
            rintro r w1 ⟨rfl, hb1⟩
            have hw1 := below_then hb0 hb1
            clear hz hb0 hb1
            go_wp2
            go_ret
            exact ⟨rfl, hw1⟩
    · have hkb : (e.kind == 1) = false := by simpa using hk
      have hr := HRES.out
      rw [if_neg hk] at hr
      have HR := Lib.hid hr
      clear hk hr HRES CD
      go_enter Try.func119, Try.ntmps119
      go_wp2
      revert hz hb0
      generalize w.alloc (.cells #[.int .i64 e.kind, .string e.name, .bool e.neg, .slice na e.num.length nc, .slice da e.den.length dc, .slice aa e.args.length ac, .int .i64 e.pos] 40) = w0
      intro hz hb0
      obtain ⟨wo, rfl⟩ : ∃ wo : World, wo = w0 := ⟨_, rfl⟩
      go_loopg [8, 9, 10, 38] e.args.length (fun g _ _ _ q wr => ∃ k : Nat, k + g = e.args.length ∧ q = .int .i64 k ∧ Below w.heap.size w wr ∧ Blk wr w.heap.size 40 #[.int .i64 e.kind, .string e.name, .bool e.neg, .slice na e.num.length nc, .slice da e.den.length dc, .slice aa e.args.length ac, .int .i64 e.pos] ∧ Expr.usess l (e.args.drop k) (P.drop k) = res)
      case atStart => exact ⟨0, by omega, rfl, hb0, hz, HR.out⟩
      case round =>
        clear hz hb0
        obtain ⟨k, hkg, rfl, hwr, hzr, he⟩ := hrel
        have HKG := Lib.hid hkg
        have HE := Lib.hid he
        have HZR := Lib.hid hzr
        have z0 := hzr.cell 0; have z5 := hzr.cell 5
        have hzl := hzr.lt
        clear hkg he hzr
        by_cases hlt : k < e.args.length
        · obtain ⟨x, hx⟩ := get_of_lt hlt
          obtain ⟨p, hp⟩ := get_of_lt (xs := P) (k := k) (by have := HLEN.out; omega)
          obtain ⟨bx, ox, rfl, na2, nc2, da2, dc2, aa2, ac2, hC, hR⟩ := (HX.out.mono fun b o y _ he => ExprE.ext he (Ext.below hwr) : SlR 7 (ExprE d) wr aa ac e.args).2.2 k x hx
          obtain ⟨q0, q1, q2, q3, q4, q5, q6⟩ := hC
          have hbz : Below wr.heap.size wr (wr.alloc (.cells #[.int .i64 x.kind, .string x.name, .bool x.neg, .slice na2 x.num.length nc2, .slice da2 x.den.length dc2, .slice aa2 x.args.length ac2, .int .i64 x.pos] 40)) := by go_grown
          have hxz := Blk.new wr 40 #[.int .i64 x.kind, .string x.name, .bool x.neg, .slice na2 x.num.length nc2, .slice da2 x.den.length dc2, .slice aa2 x.args.length ac2, .int .i64 x.pos]
          have hez := usess_at (l := l) hx hp
          rw [HE.out] at hez
          have IHX := fun W (hW : Below wr.heap.size wr W) => IH.out x p na2 nc2 da2 dc2 aa2 ac2 W (hR.ext (Ext.below hW)) (HL.out.ext (Ext.below (below_then hwr hW))) (HZ.out k x p hx hp)
          unfold Expr.val at IHX
          revert IHX hez
          generalize Expr.uses l x p = ev
          intro hez IHX
          have HEZ := Lib.hid hez
          replace IHX := Lib.hid IHX
          have HPX := Lib.hid hp
          clear hx hp hR hez
          go_wp2_with fail
          revert hbz hxz
          generalize wr.alloc (.cells #[.int .i64 x.kind, .string x.name, .bool x.neg, .slice na2 x.num.length nc2, .slice da2 x.den.length dc2, .slice aa2 x.args.length ac2, .int .i64 x.pos] 40) = wz
          intro hbz hxz
          have k0 := held (hxz.cell 0); have k1 := held (hxz.cell 1); have k2 := held (hxz.cell 2); have k3 := held (hxz.cell 3); have k4 := held (hxz.cell 4); have k5 := held (hxz.cell 5); have k6 := held (hxz.cell 6)
          have hzz := HZR.out.below' hbz
          have y0 := held (hzz.cell 0)
          have s0 : Below wz.heap.size wz wz.drew := (Below.refl _ _).drew
          clear q0 q1 q2 q3 q4 q5 q6 z0 z5
          refine wp_region_mix (S := Below wz.heap.size wz) [(0, .q), (1, .q), (2, .q), (3, .q), (5, .q), (4, .l), (6, .q), (7, .l), (8, .t), (9, .p)] (by kernel_rfl) (by kernel_rfl) (by kernel_rfl) (fun d _ _ _ _ h => by cases d <;> exact h) (s0) ?_
          iterate 5 (refine wpMix_q rfl rfl (fun K hK => ?_); apply Exists.intro; refine ⟨fun w' hw' => ?_, ?_⟩; (focus (go_simp; try rfl)); go_simp; refine hK _ _ ?_; clear hK K)
          refine wpMix_l rfl rfl (fun K hK => ?_)
          go_simp
          refine (CP.out _).mono ?_
          rintro r w5 ⟨pa, pc, rfl, hpi, hb5⟩
          dsimp only
          refine hK.out _ _ (below_then s0 hb5) (fun _ => ?_)
          clear hK K
          have s5 := below_then s0 hb5
          obtain ⟨pb, po, rfl, hpc⟩ := hpi.2.2 k p HPX.out
          have hpk := hpi.1
          have hc5 : w5.cell? ⟨pb, po + k, none⟩ = some (.int .i64 p) := by simpa using hpc.1
          have hPl : (k : Int) < (P.length : Int) := by have := lt_of_get HPX.out; omega
          iterate 1 (refine wpMix_q rfl rfl (fun K hK => ?_); apply Exists.intro; refine ⟨fun w' hw' => ?_, ?_⟩; (focus (go_simp; try rfl)); go_simp; refine hK _ _ ?_; clear hK K)
          refine wpMix_l rfl rfl (fun K hK => ?_)
          go_simp
          refine hK.out _ _ (s5) (fun _ => ?_)
          clear hK K
          refine wpMix_t rfl rfl (fun K hK => ?_)
          go_simp
          refine (IHX.out _ (below_then hbz s5)).mono ?_
          rintro r w6 ⟨rfl, hb6⟩
          dsimp only
          refine hK.out _ _ ?_
          clear hK K
          have s6 := below_then s5 hb6
          have hw6 := below_then hwr (below_then hbz s6)
          have hz6 := hzz.below' s6
          iterate 1 (refine wpMix_p rfl rfl (fun K hK => ?_); apply Exists.intro; refine ⟨fun w' => ?_, ?_⟩; (focus (go_simp; try rfl)); go_simp; refine hK _ _ ?_; clear hK K)
          refine wpMix_nil ?_
          clear hc5 hPl hpk hpi hpc s5 s0 hb5 k0 k1 k2 k3 k4 k5 k6 y0 hzz hxz hbz hzl
          by_cases hev : ev = 0
          · have hez2 := HEZ.out
            rw [if_neg (by simp [hev])] at hez2
            have HEZ2 := Lib.hid hez2
            subst hev
            clear HEZ hez2
            go_wp2
            go_roundg (gk - 1)
            case rel => exact ⟨k + 1, by have := HKG.out; omega, by go_num, hw6, hz6, HEZ2.out.symm⟩
            case measure => have := HKG.out; omega
          · have hr : res = ev := by rw [HEZ.out, if_pos hev]
            have hb : (ev != 0) = true := by simpa using hev
            subst hr
            clear hev HEZ
            go_wp2
            go_ret
            exact ⟨rfl, hw6⟩
        · have hr : res = 0 := by
            rw [← HE.out, List.drop_eq_nil_of_le (by omega)]; rfl
          subst hr
          go_wp2
          go_ret
          exact ⟨rfl, hwr⟩
end Go.Proofs.Ytmlldjcbijoheaa
