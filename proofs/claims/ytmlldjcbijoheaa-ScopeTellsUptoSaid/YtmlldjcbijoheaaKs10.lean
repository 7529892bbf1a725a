/- Walk: R19.statement. -/
import Derived.Test.YtmlldjcbijoheaaKs9
import Derived.Test.YtmlldjcbijoheaaKs7

/- Walk: R19.defined. -/
namespace Go.Proofs.Ytmlldjcbijoheaa
open Go.RowKit

theorem definedS_at {l : List Stmt} {n : ByteArray} {k : Nat} {s : Stmt} (h : l[k]? = some s) : definedS (l.drop k) n = if hasName s.names n = true then sortOf s.kind else definedS (l.drop (k + 1)) n := by
  have hk := lt_of_get h
  rw [List.drop_eq_getElem_cons hk]
  have : l[k] = s := by rw [List.getElem?_eq_getElem hk] at h; exact Option.some.inj h
  rw [this, definedS]

set_option maxRecDepth 100000 in
set_option maxHeartbeats 2000000 in
theorem defined19_any (d : Nat) (l : List Stmt) (n : ByteArray) (la : Option Addr) (lc : Nat) (w : World) (h : StmtsR d w la lc l) :
    Calls Try.prog 121 #[.slice la l.length lc, .string n] w fun r w' => r = .returned (.int .i64 (definedS l n)) ∧ Below w.heap.size w w' := by
  have HL := Lib.hid h
  have hlen := h.len
  obtain ⟨res, hres⟩ : ∃ x, definedS l n = x := ⟨_, rfl⟩
  rw [hres]
  have HRES := Lib.hid hres
  clear h hres
  go_enter Try.func121, Try.ntmps121
  go_wp2
  obtain ⟨wo, rfl⟩ : ∃ wo : World, wo = w := ⟨_, rfl⟩
  go_loopg [6, 9] l.length (fun g _ q wr => ∃ k : Nat, k + g = l.length ∧ q = .int .i64 k ∧ Below wo.heap.size wo wr ∧ definedS (l.drop k) n = res)
  case atStart => exact ⟨0, by omega, rfl, Below.refl _ _, HRES.out⟩
  case round =>
    obtain ⟨k, hkg, rfl, hwr, he⟩ := hrel
    have HKG := Lib.hid hkg
    have HE := Lib.hid he
    clear hkg he
    by_cases hlt : k < l.length
    · obtain ⟨x, hx⟩ := get_of_lt hlt
      obtain ⟨bx, ox, rfl, p, hC, hR⟩ := (HL.out.ext (Ext.below hwr)).2.2 k x hx
      obtain ⟨c0, c1, c2, c3, c4, c5, c6, c7, c8, c9⟩ := hC
      have hez := HE.out
      rw [definedS_at hx] at hez
      have CS := fun W => sortOf19_any x.kind W
      have CH := fun W (hW : Below wr.heap.size wr W) => has_any x.names p.sa p.sc n W (hR.names.ext (Ext.below hW))
      obtain ⟨bh, hbh⟩ : ∃ b, hasName x.names n = b := ⟨_, rfl⟩
      rw [hbh] at hez CH
      obtain ⟨sk, hsk⟩ : ∃ b, sortOf x.kind = b := ⟨_, rfl⟩
      rw [hsk] at hez CS
      have HEZ := Lib.hid hez
      replace CS := Lib.hid CS; replace CH := Lib.hid CH
      have hnl := hR.names.len
      have hxz := Blk.new wr 49 #[.int .i64 x.kind, .slice p.sa x.names.length p.sc, .int .i64 x.expr.kind, .string x.expr.name, .bool x.expr.neg, .slice p.na x.expr.num.length p.nc, .slice p.da x.expr.den.length p.dc, .slice p.aa x.expr.args.length p.ac, .int .i64 x.expr.pos, .int .i64 x.pos]
      have hbz : Below wr.heap.size wr (wr.alloc (.cells #[.int .i64 x.kind, .slice p.sa x.names.length p.sc, .int .i64 x.expr.kind, .string x.expr.name, .bool x.expr.neg, .slice p.na x.expr.num.length p.nc, .slice p.da x.expr.den.length p.dc, .slice p.aa x.expr.args.length p.ac, .int .i64 x.expr.pos, .int .i64 x.pos] 49)) := by go_grown
      clear hx hR hez hbh hsk HE
      go_wp2_with fail
      revert hbz hxz
      generalize wr.alloc (.cells #[.int .i64 x.kind, .slice p.sa x.names.length p.sc, .int .i64 x.expr.kind, .string x.expr.name, .bool x.expr.neg, .slice p.na x.expr.num.length p.nc, .slice p.da x.expr.den.length p.dc, .slice p.aa x.expr.args.length p.ac, .int .i64 x.expr.pos, .int .i64 x.pos] 49) = wz
      intro hxz hbz
      have hwz := below_then hwr hbz
      have z0 := hxz.cell 0; have z1 := hxz.cell 1
      refine (CH.out _ hbz).mono ?_
      rintro r w1 ⟨rfl, rfl⟩
      clear c0 c1 c2 c3 c4 c5 c6 c7 c8 c9 hnl
      cases bh
      · have hez2 : definedS (l.drop (k + 1)) n = res := by have := HEZ.out; simpa using this
        have HEZ2 := Lib.hid hez2
        clear HEZ hez2 hbz hxz z0 z1
        go_wp2
        go_roundg (gk - 1)
        case rel => exact ⟨k + 1, by have := HKG.out; omega, by go_num, hwz, HEZ2.out⟩
        case measure => have := HKG.out; omega
      · have hr : sk = res := by have := HEZ.out; simpa using this
        subst hr
        clear HEZ
        go_wp2_with fail
        refine (CS.out _).mono ?_
        rintro r w2 ⟨rfl, rfl⟩
        go_wp2
        go_ret
        exact ⟨rfl, hwz⟩
    · have hr : res = 0 := by rw [← HE.out, List.drop_eq_nil_of_le (by omega)]; rfl
      subst hr
      go_wp2
      go_ret
      exact ⟨rfl, hwr⟩
end Go.Proofs.Ytmlldjcbijoheaa

/- Walk: R19.uses. -/
namespace Go.Proofs.Ytmlldjcbijoheaa
open Go.RowKit

theorem errs_zero : ∀ (es : List Expr) (ps : List Int), Expr.errs es ps = 0 → ∀ (k : Nat) (e : Expr) (p : Int), es[k]? = some e → ps[k]? = some p → e.err p = 0
  | [], _, _, k, e, p, h, _ => by simp at h
  | x :: es, [], _, k, e, p, _, h => by simp at h
  | x :: es, q :: ps, h, k, e, p, he, hp => by
    have h' : (if x.err q ≠ 0 then x.err q else Expr.errs es ps) = 0 := by rw [Expr.errs] at h; exact h
    clear h
    by_cases hx : x.err q ≠ 0
    · rw [if_pos hx] at h'; exact absurd h' hx
    · rw [if_neg hx] at h'
      cases k with
      | zero => simp at he hp; subst he; subst hp; simpa using hx
      | succ k => exact errs_zero es ps h' k e p (by simpa using he) (by simpa using hp)
theorem err_zero {e : Expr} {s : Int} (h : e.err s = 0) : e.args.length = (findRow e.kind).params.length ∧ Expr.errs e.args (findRow e.kind).params = 0 := by
  rw [Expr.err_eq] at h
  by_cases h0 : headErr e.kind e.name e.rt e.args.length s ≠ 0
  · rw [if_pos h0] at h; exact absurd h h0
  · rw [if_neg h0] at h
    refine ⟨?_, h⟩
    rw [Decidable.not_not] at h0
    unfold headErr at h0
    split at h0
    · omega
    · split at h0
      · omega
      · split at h0
        · omega
        · rename_i hh; apply Decidable.byContradiction; intro hne; exact hh (Or.inr hne)

set_option maxRecDepth 100000 in
set_option maxHeartbeats 8000000 in
theorem uses19_any (dl : Nat) (l : List Stmt) (la : Option Addr) (lc : Nat) (d : Nat) : ∀ (e : Expr) (s : Int) (na : Option Addr) (nc : Nat) (da : Option Addr) (dc : Nat) (aa : Option Addr) (ac : Nat) (w : World), ExprR d w na nc da dc aa ac e → StmtsR dl w la lc l → e.err s = 0 →
    Calls Try.prog 119 #[.slice la l.length lc, e.val na nc da dc aa ac, .int .i64 s] w fun r w' => r = .returned (.int .i64 (e.uses l s)) ∧ Below w.heap.size w w' := by
  induction d with
  | zero => intro e s na nc da dc aa ac w h; exact h.elim
  | succ d ih =>
    intro e s na nc da dc aa ac w h hL herr
    obtain ⟨-, -, hname, hn, hd, hx⟩ := h.of_succ
    have hl := hx.len
    have hll := hL.len
    obtain ⟨hlen, hzero⟩ := err_zero herr
    have CD := fun W (hW : Below w.heap.size w W) => defined19_any dl l e.name la lc W (hL.ext (Ext.below hW))
    have CP := fun W => params16_any e.kind W
    have HZ := Lib.hid (errs_zero _ _ hzero)
    obtain ⟨res, hres⟩ : ∃ x, e.uses l s = x := ⟨_, rfl⟩
    rw [hres]
    rw [Expr.uses_eq] at hres
    obtain ⟨qd, hqd⟩ : ∃ x, definedS l e.name = x := ⟨_, rfl⟩
    rw [hqd] at hres CD
    obtain ⟨P, hP⟩ : ∃ P, (findRow e.kind).params = P := ⟨_, rfl⟩
    rw [hP] at CP hlen HZ hres
    have HRES := Lib.hid hres
    have HX := Lib.hid hx
    have HL := Lib.hid hL
    have HLEN := Lib.hid hlen
    have IH := Lib.hid ih
    unfold Expr.val
    replace CD := Lib.hid CD; replace CP := Lib.hid CP
    clear h hL herr hname hn hd hx hlen hzero hres hqd hP ih
    have hz := Blk.new w 40 #[.int .i64 e.kind, .string e.name, .bool e.neg, .slice na e.num.length nc, .slice da e.den.length dc, .slice aa e.args.length ac, .int .i64 e.pos]
    have hb0 : Below w.heap.size w (w.alloc (.cells #[.int .i64 e.kind, .string e.name, .bool e.neg, .slice na e.num.length nc, .slice da e.den.length dc, .slice aa e.args.length ac, .int .i64 e.pos] 40)) := (Below.refl _ _).alloc (Nat.le_refl _) _
    by_cases hk : e.kind = 1
    · have hkb : (e.kind == 1) = true := by simpa using hk
      have hr := HRES.out
      rw [if_pos hk] at hr
      have HR := Lib.hid hr
      clear hk hr HRES HX HZ IH CP HLEN HL
      by_cases q0 : qd = 0
      · have hr : res = 6 := by rw [← HR.out]; unfold useErr; rw [if_pos q0]
        have hq : (qd == 0) = true := by simpa using q0
        clear q0
        subst hr
        go_enter Try.func119, Try.ntmps119
        go_wp2_with fail
        revert hz hb0
        generalize w.alloc (.cells _ _) = w0
        intro hz hb0
        refine (CD.out _ hb0).mono ?_
        rintro r w1 ⟨rfl, hb1⟩
        have hw1 := below_then hb0 hb1
        clear hz hb0 hb1
        go_wp2
        go_ret
        exact ⟨rfl, hw1⟩
      · have hq : (qd == 0) = false := by simpa using q0
        by_cases hs0 : s = 0
        · have hsb : (s == 0) = true := by simpa using hs0
          have hsn : (s != 0) = false := by simpa using hs0
          by_cases q1 : qd = 1
          · have hq1 : (qd == 1) = true := by simpa using q1
            have hr : res = 8 := by rw [← HR.out]; unfold useErr; rw [if_neg q0, if_pos (Or.inl ⟨hs0, q1⟩)]
            clear HR q0 q1 hs0
            subst hr
            go_enter Try.func119, Try.ntmps119
            go_wp2_with fail
            revert hz hb0
            generalize w.alloc (.cells _ _) = w0
            intro hz hb0
            refine (CD.out _ hb0).mono ?_
            rintro r w1 ⟨rfl, hb1⟩
            have hw1 := below_then hb0 hb1
            clear hz hb0 hb1
            go_wp2
            go_ret
            exact ⟨rfl, hw1⟩
          · have hq1 : (qd == 1) = false := by simpa using q1
            have hr : res = 0 := by rw [← HR.out]; unfold useErr; rw [if_neg q0, if_neg (by rintro (h | h); exact q1 h.2; exact h.1 hs0)]
            clear HR q0 q1 hs0
            subst hr
            go_enter Try.func119, Try.ntmps119
            go_wp2_with fail
            revert hz hb0
            generalize w.alloc (.cells _ _) = w0
            intro hz hb0
            refine (CD.out _ hb0).mono ?_
            rintro r w1 ⟨rfl, hb1⟩
            have hw1 := below_then hb0 hb1
            clear hz hb0 hb1
            go_wp2
            go_ret
            exact ⟨rfl, hw1⟩
        · have hsb : (s == 0) = false := by simpa using hs0
          have hsn : (s != 0) = true := by simpa using hs0
          by_cases q1 : qd = s
          · have hq1 : (qd != s) = false := by simpa using q1
            have hr : res = 0 := by rw [← HR.out]; unfold useErr; rw [if_neg q0, if_neg (by rintro (h | h); exact hs0 h.1; exact h.2 q1)]
            clear HR q0 q1 hs0
            subst hr
            go_enter Try.func119, Try.ntmps119
            go_wp2_with fail
            revert hz hb0
            generalize w.alloc (.cells _ _) = w0
            intro hz hb0
            refine (CD.out _ hb0).mono ?_
            rintro r w1 ⟨rfl, hb1⟩
            have hw1 := below_then hb0 hb1
            clear hz hb0 hb1
            go_wp2
            go_ret
            exact ⟨rfl, hw1⟩
          · have hq1 : (qd != s) = true := by simpa using q1
            have hr : res = 8 := by rw [← HR.out]; unfold useErr; rw [if_neg q0, if_pos (Or.inr ⟨hs0, q1⟩)]
            clear HR q0 q1 hs0
            subst hr
            go_enter Try.func119, Try.ntmps119
            go_wp2_with fail
            revert hz hb0
            generalize w.alloc (.cells _ _) = w0
            intro hz hb0
            refine (CD.out _ hb0).mono ?_
            rintro r w1 ⟨rfl, hb1⟩
            have hw1 := below_then hb0 hb1
            clear hz hb0 hb1
            go_wp2
            go_ret
            exact ⟨rfl, hw1⟩
    · have hkb : (e.kind == 1) = false := by simpa using hk
      have hr := HRES.out
      rw [if_neg hk] at hr
      have HR := Lib.hid hr
      clear hk hr HRES CD
      go_enter Try.func119, Try.ntmps119
      go_wp2
      revert hz hb0
      generalize w.alloc (.cells #[.int .i64 e.kind, .string e.name, .bool e.neg, .slice na e.num.length nc, .slice da e.den.length dc, .slice aa e.args.length ac, .int .i64 e.pos] 40) = w0
      intro hz hb0
      obtain ⟨wo, rfl⟩ : ∃ wo : World, wo = w0 := ⟨_, rfl⟩
      go_loopg [8, 9, 10, 38] e.args.length (fun g _ _ _ q wr => ∃ k : Nat, k + g = e.args.length ∧ q = .int .i64 k ∧ Below w.heap.size w wr ∧ Blk wr w.heap.size 40 #[.int .i64 e.kind, .string e.name, .bool e.neg, .slice na e.num.length nc, .slice da e.den.length dc, .slice aa e.args.length ac, .int .i64 e.pos] ∧ Expr.usess l (e.args.drop k) (P.drop k) = res)
      case atStart => exact ⟨0, by omega, rfl, hb0, hz, HR.out⟩
      case round =>
        clear hz hb0
        obtain ⟨k, hkg, rfl, hwr, hzr, he⟩ := hrel
        have HKG := Lib.hid hkg
        have HE := Lib.hid he
        have HZR := Lib.hid hzr
        have z0 := hzr.cell 0; have z5 := hzr.cell 5
        have hzl := hzr.lt
        clear hkg he hzr
        by_cases hlt : k < e.args.length
        · obtain ⟨x, hx⟩ := get_of_lt hlt
          obtain ⟨p, hp⟩ := get_of_lt (xs := P) (k := k) (by have := HLEN.out; omega)
          obtain ⟨bx, ox, rfl, na2, nc2, da2, dc2, aa2, ac2, hC, hR⟩ := (HX.out.mono fun b o y _ he => ExprE.ext he (Ext.below hwr) : SlR 7 (ExprE d) wr aa ac e.args).2.2 k x hx
          obtain ⟨q0, q1, q2, q3, q4, q5, q6⟩ := hC
          have hbz : Below wr.heap.size wr (wr.alloc (.cells #[.int .i64 x.kind, .string x.name, .bool x.neg, .slice na2 x.num.length nc2, .slice da2 x.den.length dc2, .slice aa2 x.args.length ac2, .int .i64 x.pos] 40)) := by go_grown
          have hxz := Blk.new wr 40 #[.int .i64 x.kind, .string x.name, .bool x.neg, .slice na2 x.num.length nc2, .slice da2 x.den.length dc2, .slice aa2 x.args.length ac2, .int .i64 x.pos]
          have hez := usess_at (l := l) hx hp
          rw [HE.out] at hez
          have IHX := fun W (hW : Below wr.heap.size wr W) => IH.out x p na2 nc2 da2 dc2 aa2 ac2 W (hR.ext (Ext.below hW)) (HL.out.ext (Ext.below (below_then hwr hW))) (HZ.out k x p hx hp)
          unfold Expr.val at IHX
          revert IHX hez
          generalize Expr.uses l x p = ev
          intro hez IHX
          have HEZ := Lib.hid hez
          replace IHX := Lib.hid IHX
          have HPX := Lib.hid hp
          clear hx hp hR hez
          go_wp2_with fail
          revert hbz hxz
          generalize wr.alloc (.cells #[.int .i64 x.kind, .string x.name, .bool x.neg, .slice na2 x.num.length nc2, .slice da2 x.den.length dc2, .slice aa2 x.args.length ac2, .int .i64 x.pos] 40) = wz
          intro hbz hxz
          have k0 := held (hxz.cell 0); have k1 := held (hxz.cell 1); have k2 := held (hxz.cell 2); have k3 := held (hxz.cell 3); have k4 := held (hxz.cell 4); have k5 := held (hxz.cell 5); have k6 := held (hxz.cell 6)
          have hzz := HZR.out.below' hbz
          have y0 := held (hzz.cell 0)
          have s0 : Below wz.heap.size wz wz.drew := (Below.refl _ _).drew
          clear q0 q1 q2 q3 q4 q5 q6 z0 z5
          refine wp_region_mix (S := Below wz.heap.size wz) [(0, .q), (1, .q), (2, .q), (3, .q), (5, .q), (4, .l), (6, .q), (7, .l), (8, .t), (9, .p)] (by kernel_rfl) (by kernel_rfl) (by kernel_rfl) (fun d _ _ _ _ h => by cases d <;> exact h) (s0) ?_
          iterate 5 (refine wpMix_q rfl rfl (fun K hK => ?_); apply Exists.intro; refine ⟨fun w' hw' => ?_, ?_⟩; (focus (go_simp; try rfl)); go_simp; refine hK _ _ ?_; clear hK K)
          refine wpMix_l rfl rfl (fun K hK => ?_)
          go_simp
          refine (CP.out _).mono ?_
          rintro r w5 ⟨pa, pc, rfl, hpi, hb5⟩
          dsimp only
          refine hK.out _ _ (below_then s0 hb5) (fun _ => ?_)
          clear hK K
          have s5 := below_then s0 hb5
          obtain ⟨pb, po, rfl, hpc⟩ := hpi.2.2 k p HPX.out
          have hpk := hpi.1
          have hc5 : w5.cell? ⟨pb, po + k, none⟩ = some (.int .i64 p) := by simpa using hpc.1
          have hPl : (k : Int) < (P.length : Int) := by have := lt_of_get HPX.out; omega
          iterate 1 (refine wpMix_q rfl rfl (fun K hK => ?_); apply Exists.intro; refine ⟨fun w' hw' => ?_, ?_⟩; (focus (go_simp; try rfl)); go_simp; refine hK _ _ ?_; clear hK K)
          refine wpMix_l rfl rfl (fun K hK => ?_)
          go_simp
          refine hK.out _ _ (s5) (fun _ => ?_)
          clear hK K
          refine wpMix_t rfl rfl (fun K hK => ?_)
          go_simp
          refine (IHX.out _ (below_then hbz s5)).mono ?_
          rintro r w6 ⟨rfl, hb6⟩
          dsimp only
          refine hK.out _ _ ?_
          clear hK K
          have s6 := below_then s5 hb6
          have hw6 := below_then hwr (below_then hbz s6)
          have hz6 := hzz.below' s6
          iterate 1 (refine wpMix_p rfl rfl (fun K hK => ?_); apply Exists.intro; refine ⟨fun w' => ?_, ?_⟩; (focus (go_simp; try rfl)); go_simp; refine hK _ _ ?_; clear hK K)
          refine wpMix_nil ?_
          clear hc5 hPl hpk hpi hpc s5 s0 hb5 k0 k1 k2 k3 k4 k5 k6 y0 hzz hxz hbz hzl
          by_cases hev : ev = 0
          · have hez2 := HEZ.out
            rw [if_neg (by simp [hev])] at hez2
            have HEZ2 := Lib.hid hez2
            subst hev
            clear HEZ hez2
            go_wp2
            go_roundg (gk - 1)
            case rel => exact ⟨k + 1, by have := HKG.out; omega, by go_num, hw6, hz6, HEZ2.out.symm⟩
            case measure => have := HKG.out; omega
          · have hr : res = ev := by rw [HEZ.out, if_pos hev]
            have hb : (ev != 0) = true := by simpa using hev
            subst hr
            clear hev HEZ
            go_wp2
            go_ret
            exact ⟨rfl, hw6⟩
        · have hr : res = 0 := by
            rw [← HE.out, List.drop_eq_nil_of_le (by omega)]; rfl
          subst hr
          go_wp2
          go_ret
          exact ⟨rfl, hwr⟩
end Go.Proofs.Ytmlldjcbijoheaa

/- Walk: R19.statement. -/
namespace Go.Proofs.Ytmlldjcbijoheaa
open Go.RowKit

theorem SlR.take {α : Type} {sz : Nat} {E : World → Nat → Nat → α → Prop} {w : World} {a : Option Addr} {c : Nat} {xs : List α} (h : SlR sz E w a c xs) (k : Nat) : SlR sz E w a c (xs.take k) :=
  ⟨by have := h.1; simp only [List.length_take]; omega, h.2.1, fun j x hj => h.2.2 j x (by
    rw [List.getElem?_take] at hj
    split at hj
    · exact hj
    · cases hj)⟩
theorem twices_at {l : List Stmt} {names : List ByteArray} {k : Nat} {x : ByteArray} (h : names[k]? = some x) : twices l names k (names.drop k) = (twiceB l names k x || twices l names (k + 1) (names.drop (k + 1))) := by
  have hk := lt_of_get h
  rw [List.drop_eq_getElem_cons hk]
  have : names[k] = x := by rw [List.getElem?_eq_getElem hk] at h; exact Option.some.inj h
  rw [this, twices]
theorem Stmt.err_zero {s : Stmt} (h : s.err = 0) (hk : s.kind ≠ 1) : s.expr.err (stmtSort s.kind) = 0 := by
  unfold Stmt.err Expr.check at h
  repeat' split at h
  all_goals first | exact h | omega | contradiction

set_option maxRecDepth 100000 in
set_option maxHeartbeats 8000000 in
theorem statement19_arg (dl : Nat) (l : List Stmt) (la : Option Addr) (lc : Nat) (d : Nat) (s : Stmt) (sa : Option Addr) (sc : Nat) (na : Option Addr) (nc : Nat) (da : Option Addr) (dc : Nat) (aa : Option Addr) (ac : Nat) (w : World)
    (hL : StmtsR dl w la lc l) (hn : StrsR w sa sc s.names) (h : ExprR d w na nc da dc aa ac s.expr) (hf : s.expr.few) (hcount : s.expr.count ≤ 1048576) (hsz : ∀ n ∈ s.names, n.size ≤ 1048576) :
    Calls Try.prog 99 #[.slice la l.length lc, .agg #[.int .i64 s.kind, .slice sa s.names.length sc, .int .i64 s.expr.kind, .string s.expr.name, .bool s.expr.neg, .slice na s.expr.num.length nc, .slice da s.expr.den.length dc, .slice aa s.expr.args.length ac, .int .i64 s.expr.pos, .int .i64 s.pos]] w fun r w' => r = .returned (.int .i64 (s.behind l)) ∧ Below w.heap.size w w' := by
  have CC := fun W (hW : Below w.heap.size w W) => checkStmt16_arg d s sa sc na nc da dc aa ac W (hn.ext (Ext.below hW)) (h.ext (Ext.below hW)) hf hcount hsz
  have CS := fun W => stmtSort16_any s.kind W
  have CU := fun (hz : s.expr.err (stmtSort s.kind) = 0) W (hW : Below w.heap.size w W) => uses19_any dl l la lc d s.expr (stmtSort s.kind) na nc da dc aa ac W (h.ext (Ext.below hW)) (hL.ext (Ext.below hW)) hz
  have CD := fun n W (hW : Below w.heap.size w W) => defined19_any dl l n la lc W (hL.ext (Ext.below hW))
  have HN := Lib.hid hn
  have hnl := hn.len
  have hll := hL.len
  have hnc := hn.1
  obtain ⟨res, hres⟩ : ∃ x, s.behind l = x := ⟨_, rfl⟩
  rw [hres]
  unfold Stmt.behind at hres
  obtain ⟨es, hes⟩ : ∃ x, s.err = x := ⟨_, rfl⟩
  rw [hes] at hres CC
  have hee : es = 0 → s.kind ≠ 1 → s.expr.err (stmtSort s.kind) = 0 := fun h0 hk => Stmt.err_zero (by rw [hes, h0]) hk
  obtain ⟨eu, heu⟩ : ∃ x, s.expr.uses l (stmtSort s.kind) = x := ⟨_, rfl⟩
  rw [heu] at hres CU
  have HEE := Lib.hid hee
  have HRES := Lib.hid hres
  obtain ⟨ss, hss⟩ : ∃ x, stmtSort s.kind = x := ⟨_, rfl⟩
  rw [hss] at CS CU
  have HSS := Lib.hid hss
  unfold Expr.val at CU
  replace CC := Lib.hid CC; replace CS := Lib.hid CS; replace CU := Lib.hid CU; replace CD := Lib.hid CD
  clear h hn hL hf hcount hsz hres hes hee heu hss
  have hz := Blk.new w 49 #[.int .i64 s.kind, .slice sa s.names.length sc, .int .i64 s.expr.kind, .string s.expr.name, .bool s.expr.neg, .slice na s.expr.num.length nc, .slice da s.expr.den.length dc, .slice aa s.expr.args.length ac, .int .i64 s.expr.pos, .int .i64 s.pos]
  have hb0 : Below w.heap.size w (w.alloc (.cells #[.int .i64 s.kind, .slice sa s.names.length sc, .int .i64 s.expr.kind, .string s.expr.name, .bool s.expr.neg, .slice na s.expr.num.length nc, .slice da s.expr.den.length dc, .slice aa s.expr.args.length ac, .int .i64 s.expr.pos, .int .i64 s.pos] 49)) := (Below.refl _ _).alloc (Nat.le_refl _) _
  by_cases he0 : es = 0
  · have hr := HRES.out
    rw [if_neg (by simp [he0])] at hr
    have heb : (es != 0) = false := by simpa using he0
    obtain ⟨bt, hbt⟩ : ∃ b, twices l s.names 0 s.names = b := ⟨_, rfl⟩
    rw [hbt] at hr
    have HBT : Hid (twices l s.names 0 (s.names.drop 0) = bt) := Lib.hid (by simpa using hbt)
    by_cases hk : s.kind = 1
    · have hkb : (s.kind != 1) = false := by simpa using hk
      rw [if_neg (by rintro ⟨h, _⟩; exact h hk)] at hr
      have HRT := Lib.hid hr
      clear hr HRES he0 hk hbt HEE
      go_enter Try.func99, Try.ntmps99
      go_wp2_with fail
      revert hz hb0
      generalize w.alloc (.cells #[.int .i64 s.kind, .slice sa s.names.length sc, .int .i64 s.expr.kind, .string s.expr.name, .bool s.expr.neg, .slice na s.expr.num.length nc, .slice da s.expr.den.length dc, .slice aa s.expr.args.length ac, .int .i64 s.expr.pos, .int .i64 s.pos] 49) = w0
      intro hz hb0
      refine (CC.out _ hb0).mono ?_
      rintro r w1 ⟨rfl, hb1⟩
      have hw1 := below_then hb0 hb1
      have hz1 := hz.below' hb1
      have z0 := hz1.cell 0; have z1 := hz1.cell 1
      clear hz hb0 hb1
      obtain ⟨wb, rfl⟩ : ∃ wb : World, wb = w1 := ⟨_, rfl⟩
      have hwb := hw1
      have hzb := hz1
      clear hw1 hz1
      go_wp2
      obtain ⟨wo, rfl⟩ : ∃ wo : World, wo = wb := ⟨_, rfl⟩
      go_loopg [7, 8, 30] s.names.length (fun g _ _ q wr => ∃ k : Nat, k + g = s.names.length ∧ q = .int .i64 k ∧ Below w.heap.size w wr ∧ Blk wr w.heap.size 49 #[.int .i64 s.kind, .slice sa s.names.length sc, .int .i64 s.expr.kind, .string s.expr.name, .bool s.expr.neg, .slice na s.expr.num.length nc, .slice da s.expr.den.length dc, .slice aa s.expr.args.length ac, .int .i64 s.expr.pos, .int .i64 s.pos] ∧ twices l s.names k (s.names.drop k) = bt)
      case atStart => exact ⟨0, by omega, rfl, hwb, hzb, HBT.out⟩
      case round =>
        clear hzb hwb
        obtain ⟨k, hkg, rfl, hwr, hzr, ha⟩ := hrel
        have HKG := Lib.hid hkg
        have HAK := Lib.hid ha
        have hzl := hzr.lt
        have z0 := hzr.cell 0; have z1 := hzr.cell 1
        clear hkg ha
        by_cases hlt : k < s.names.length
        · obtain ⟨x, hx⟩ := get_of_lt hlt
          have CHH := fun W (hW : Below wr.heap.size wr W) => has_any (s.names.take k) sa sc x W ((HN.out.ext (Ext.below (below_then hwr hW))).take k)
          obtain ⟨bx, ox, rfl, hc⟩ := (HN.out.ext (Ext.below hwr)).2.2 k x hx
          have hc1 : wr.cell? ⟨bx, ox + k, none⟩ = some (.string x) := by simpa [StrE] using hc
          have hlk : (s.names.take k).length = k := by simp only [List.length_take]; omega
          simp only [hlk] at CHH
          have CDX := fun W (hW : Below w.heap.size w W) => CD.out x W hW
          have hak := HAK.out
          rw [twices_at hx] at hak
          unfold twiceB at hak
          obtain ⟨qd, hqd⟩ : ∃ b, definedS l x = b := ⟨_, rfl⟩
          rw [hqd] at CDX hak
          obtain ⟨bh, hbh⟩ : ∃ b, hasName (s.names.take k) x = b := ⟨_, rfl⟩
          rw [hbh] at CHH hak
          have HAX := Lib.hid hak
          replace CDX := Lib.hid CDX; replace CHH := Lib.hid CHH
          have hkc : k ≤ sc := by omega
          have hkn : k ≤ s.names.length := by omega
          clear hx hc hqd hbh HAK hak hlk
          go_wp2_with fail
          refine (CDX.out _ hwr).mono ?_
          rintro r w2 ⟨rfl, hb2⟩
          have hw2 := below_then hwr hb2
          have hz2 := hzr.below' hb2
          have y0 := hz2.cell 0; have y1 := hz2.cell 1
          clear hc1 z0 z1
          by_cases hq : qd = 0
          · have hqb : (qd != 0) = false := by simpa using hq
            have hax : (bh || twices l s.names (k + 1) (s.names.drop (k + 1))) = bt := by have := HAX.out; rw [decide_eq_false (by simpa using hq), Bool.false_or] at this; exact this
            have HAY := Lib.hid hax
            clear hq hax HAX
            go_wp2_with fail
            refine (CHH.out _ hb2).mono ?_
            rintro r w3 ⟨rfl, rfl⟩
            cases bh
            · have HAZ : Hid (twices l s.names (k + 1) (s.names.drop (k + 1)) = bt) := Lib.hid (by have := HAY.out; simpa using this)
              clear HAY hb2 hzr hzl hwr y0 y1
              go_wp2
              go_roundg (gk - 1)
              case rel => exact ⟨k + 1, by have := HKG.out; omega, by go_num, hw2, hz2, HAZ.out⟩
              case measure => have := HKG.out; omega
            · have hbt : bt = true := by rw [← HAY.out]; rfl
              have hr : res = 7 := by rw [← HRT.out, if_pos hbt]
              subst hr
              clear hbt
              go_wp2
              go_ret
              exact ⟨rfl, hw2⟩
          · have hqb : (qd != 0) = true := by simpa using hq
            have hbt : bt = true := by rw [← HAX.out, decide_eq_true (by simpa using hq)]; rfl
            have hr : res = 7 := by rw [← HRT.out, if_pos hbt]
            subst hr
            clear hbt hq
            go_wp2
            go_ret
            exact ⟨rfl, hw2⟩
        · have hbt : bt = false := by rw [← HAK.out, List.drop_eq_nil_of_le (by omega)]; rfl
          have hr : res = 0 := by rw [← HRT.out, hbt]; rfl
          subst hr
          clear hbt
          go_wp2
          go_ret
          exact ⟨rfl, hwr⟩
    · have hkb : (s.kind != 1) = true := by simpa using hk
      have CUX := CU.out (by have := HEE.out he0 hk; rwa [HSS.out] at this)
      replace CUX := Lib.hid CUX
      by_cases hu : eu = 0
      · have hub : (eu != 0) = false := by simpa using hu
        rw [if_neg (by rintro ⟨_, h⟩; exact h hu)] at hr
        have HRT := Lib.hid hr
        clear hr HRES he0 hk hbt HEE hu
        go_enter Try.func99, Try.ntmps99
        go_wp2_with fail
        revert hz hb0
        generalize w.alloc (.cells #[.int .i64 s.kind, .slice sa s.names.length sc, .int .i64 s.expr.kind, .string s.expr.name, .bool s.expr.neg, .slice na s.expr.num.length nc, .slice da s.expr.den.length dc, .slice aa s.expr.args.length ac, .int .i64 s.expr.pos, .int .i64 s.pos] 49) = w0
        intro hz hb0
        refine (CC.out _ hb0).mono ?_
        rintro r w1 ⟨rfl, hb1⟩
        have hw1 := below_then hb0 hb1
        have hz1 := hz.below' hb1
        have z0 := hz1.cell 0; have z1 := hz1.cell 1
        clear hz hb0 hb1
        have k0 := held z0; have k1 := held z1; have k2 := held (hz1.cell 2); have k3 := held (hz1.cell 3); have k4 := held (hz1.cell 4); have k5 := held (hz1.cell 5); have k6 := held (hz1.cell 6); have k7 := held (hz1.cell 7); have k8 := held (hz1.cell 8)
        go_wp2
        have s0 : Below w1.heap.size w1 w1.drew := (Below.refl _ _).drew
        clear z0 z1
        refine wp_region_mix (S := Below w1.heap.size w1) [(0, .q), (1, .q), (2, .q), (3, .q), (4, .q), (5, .l), (6, .t), (7, .p)] (by kernel_rfl) (by kernel_rfl) (by kernel_rfl) (fun d _ _ _ _ h => by cases d <;> exact h) (s0) ?_
        iterate 5 (refine wpMix_q rfl rfl (fun K hK => ?_); apply Exists.intro; refine ⟨fun w' hw' => ?_, ?_⟩; (focus (go_simp; try rfl)); go_simp; refine hK _ _ ?_; clear hK K)
        refine wpMix_l rfl rfl (fun K hK => ?_)
        go_simp
        refine (CS.out _).mono ?_
        rintro r w2 ⟨rfl, rfl⟩
        dsimp only
        refine hK.out _ _ (s0) (fun _ => ?_)
        clear hK K
        refine wpMix_t rfl rfl (fun K hK => ?_)
        go_simp
        refine (CUX.out _ (below_then hw1 s0)).mono ?_
        rintro r wb ⟨rfl, hb2⟩
        dsimp only
        refine hK.out _ _ ?_
        clear hK K
        have hwb := below_then hw1 (below_then s0 hb2)
        have hzb := hz1.below' (below_then s0 hb2)
        iterate 1 (refine wpMix_p rfl rfl (fun K hK => ?_); apply Exists.intro; refine ⟨fun w' => ?_, ?_⟩; (focus (go_simp; try rfl)); go_simp; refine hK _ _ ?_; clear hK K)
        refine wpMix_nil ?_
        have z0 := hzb.cell 0; have z1 := hzb.cell 1
        clear k0 k1 k2 k3 k4 k5 k6 k7 k8 s0 hb2 hw1 hz1
        go_wp2
        obtain ⟨wo, rfl⟩ : ∃ wo : World, wo = wb := ⟨_, rfl⟩
        go_loopg [7, 8, 30] s.names.length (fun g _ _ q wr => ∃ k : Nat, k + g = s.names.length ∧ q = .int .i64 k ∧ Below w.heap.size w wr ∧ Blk wr w.heap.size 49 #[.int .i64 s.kind, .slice sa s.names.length sc, .int .i64 s.expr.kind, .string s.expr.name, .bool s.expr.neg, .slice na s.expr.num.length nc, .slice da s.expr.den.length dc, .slice aa s.expr.args.length ac, .int .i64 s.expr.pos, .int .i64 s.pos] ∧ twices l s.names k (s.names.drop k) = bt)
        case atStart => exact ⟨0, by omega, rfl, hwb, hzb, HBT.out⟩
        case round =>
          clear hzb hwb
          obtain ⟨k, hkg, rfl, hwr, hzr, ha⟩ := hrel
          have HKG := Lib.hid hkg
          have HAK := Lib.hid ha
          have hzl := hzr.lt
          have z0 := hzr.cell 0; have z1 := hzr.cell 1
          clear hkg ha
          by_cases hlt : k < s.names.length
          · obtain ⟨x, hx⟩ := get_of_lt hlt
            have CHH := fun W (hW : Below wr.heap.size wr W) => has_any (s.names.take k) sa sc x W ((HN.out.ext (Ext.below (below_then hwr hW))).take k)
            obtain ⟨bx, ox, rfl, hc⟩ := (HN.out.ext (Ext.below hwr)).2.2 k x hx
            have hc1 : wr.cell? ⟨bx, ox + k, none⟩ = some (.string x) := by simpa [StrE] using hc
            have hlk : (s.names.take k).length = k := by simp only [List.length_take]; omega
            simp only [hlk] at CHH
            have CDX := fun W (hW : Below w.heap.size w W) => CD.out x W hW
            have hak := HAK.out
            rw [twices_at hx] at hak
            unfold twiceB at hak
            obtain ⟨qd, hqd⟩ : ∃ b, definedS l x = b := ⟨_, rfl⟩
            rw [hqd] at CDX hak
            obtain ⟨bh, hbh⟩ : ∃ b, hasName (s.names.take k) x = b := ⟨_, rfl⟩
            rw [hbh] at CHH hak
            have HAX := Lib.hid hak
            replace CDX := Lib.hid CDX; replace CHH := Lib.hid CHH
            have hkc : k ≤ sc := by omega
            have hkn : k ≤ s.names.length := by omega
            clear hx hc hqd hbh HAK hak hlk
            go_wp2_with fail
            refine (CDX.out _ hwr).mono ?_
            rintro r w2 ⟨rfl, hb2⟩
            have hw2 := below_then hwr hb2
            have hz2 := hzr.below' hb2
            have y0 := hz2.cell 0; have y1 := hz2.cell 1
            clear hc1 z0 z1
            by_cases hq : qd = 0
            · have hqb : (qd != 0) = false := by simpa using hq
              have hax : (bh || twices l s.names (k + 1) (s.names.drop (k + 1))) = bt := by have := HAX.out; rw [decide_eq_false (by simpa using hq), Bool.false_or] at this; exact this
              have HAY := Lib.hid hax
              clear hq hax HAX
              go_wp2_with fail
              refine (CHH.out _ hb2).mono ?_
              rintro r w3 ⟨rfl, rfl⟩
              cases bh
              · have HAZ : Hid (twices l s.names (k + 1) (s.names.drop (k + 1)) = bt) := Lib.hid (by have := HAY.out; simpa using this)
                clear HAY hb2 hzr hzl hwr y0 y1
                go_wp2
                go_roundg (gk - 1)
                case rel => exact ⟨k + 1, by have := HKG.out; omega, by go_num, hw2, hz2, HAZ.out⟩
                case measure => have := HKG.out; omega
              · have hbt : bt = true := by rw [← HAY.out]; rfl
                have hr : res = 7 := by rw [← HRT.out, if_pos hbt]
                subst hr
                clear hbt
                go_wp2
                go_ret
                exact ⟨rfl, hw2⟩
            · have hqb : (qd != 0) = true := by simpa using hq
              have hbt : bt = true := by rw [← HAX.out, decide_eq_true (by simpa using hq)]; rfl
              have hr : res = 7 := by rw [← HRT.out, if_pos hbt]
              subst hr
              clear hbt hq
              go_wp2
              go_ret
              exact ⟨rfl, hw2⟩
          · have hbt : bt = false := by rw [← HAK.out, List.drop_eq_nil_of_le (by omega)]; rfl
            have hr : res = 0 := by rw [← HRT.out, hbt]; rfl
            subst hr
            clear hbt
            go_wp2
            go_ret
            exact ⟨rfl, hwr⟩
      · have hub : (eu != 0) = true := by simpa using hu
        rw [if_pos ⟨hk, hu⟩] at hr
        subst hr
        clear HRES he0 hk hbt HEE hu HBT
        go_enter Try.func99, Try.ntmps99
        go_wp2_with fail
        revert hz hb0
        generalize w.alloc (.cells #[.int .i64 s.kind, .slice sa s.names.length sc, .int .i64 s.expr.kind, .string s.expr.name, .bool s.expr.neg, .slice na s.expr.num.length nc, .slice da s.expr.den.length dc, .slice aa s.expr.args.length ac, .int .i64 s.expr.pos, .int .i64 s.pos] 49) = w0
        intro hz hb0
        refine (CC.out _ hb0).mono ?_
        rintro r w1 ⟨rfl, hb1⟩
        have hw1 := below_then hb0 hb1
        have hz1 := hz.below' hb1
        have z0 := hz1.cell 0; have z1 := hz1.cell 1
        clear hz hb0 hb1
        have k0 := held z0; have k1 := held z1; have k2 := held (hz1.cell 2); have k3 := held (hz1.cell 3); have k4 := held (hz1.cell 4); have k5 := held (hz1.cell 5); have k6 := held (hz1.cell 6); have k7 := held (hz1.cell 7); have k8 := held (hz1.cell 8)
        go_wp2
        have s0 : Below w1.heap.size w1 w1.drew := (Below.refl _ _).drew
        clear z0 z1
        refine wp_region_mix (S := Below w1.heap.size w1) [(0, .q), (1, .q), (2, .q), (3, .q), (4, .q), (5, .l), (6, .t), (7, .p)] (by kernel_rfl) (by kernel_rfl) (by kernel_rfl) (fun d _ _ _ _ h => by cases d <;> exact h) (s0) ?_
        iterate 5 (refine wpMix_q rfl rfl (fun K hK => ?_); apply Exists.intro; refine ⟨fun w' hw' => ?_, ?_⟩; (focus (go_simp; try rfl)); go_simp; refine hK _ _ ?_; clear hK K)
        refine wpMix_l rfl rfl (fun K hK => ?_)
        go_simp
        refine (CS.out _).mono ?_
        rintro r w2 ⟨rfl, rfl⟩
        dsimp only
        refine hK.out _ _ (s0) (fun _ => ?_)
        clear hK K
        refine wpMix_t rfl rfl (fun K hK => ?_)
        go_simp
        refine (CUX.out _ (below_then hw1 s0)).mono ?_
        rintro r wb ⟨rfl, hb2⟩
        dsimp only
        refine hK.out _ _ ?_
        clear hK K
        have hwb := below_then hw1 (below_then s0 hb2)
        iterate 1 (refine wpMix_p rfl rfl (fun K hK => ?_); apply Exists.intro; refine ⟨fun w' => ?_, ?_⟩; (focus (go_simp; try rfl)); go_simp; refine hK _ _ ?_; clear hK K)
        refine wpMix_nil ?_
        clear k0 k1 k2 k3 k4 k5 k6 k7 k8 s0 hb2 hw1 hz1
        go_wp2
        go_ret
        exact ⟨rfl, hwb⟩
  · have heb : (es != 0) = true := by simpa using he0
    have hr : res = es := by rw [← HRES.out, if_pos he0]
    subst hr
    clear he0 HRES HEE
    go_enter Try.func99, Try.ntmps99
    go_wp2_with fail
    revert hz hb0
    generalize w.alloc (.cells #[.int .i64 s.kind, .slice sa s.names.length sc, .int .i64 s.expr.kind, .string s.expr.name, .bool s.expr.neg, .slice na s.expr.num.length nc, .slice da s.expr.den.length dc, .slice aa s.expr.args.length ac, .int .i64 s.expr.pos, .int .i64 s.pos] 49) = w0
    intro hz hb0
    refine (CC.out _ hb0).mono ?_
    rintro r w1 ⟨rfl, hb1⟩
    have hw1 := below_then hb0 hb1
    have hz1 := hz.below' hb1
    have z0 := hz1.cell 0; have z1 := hz1.cell 1
    clear hz hb0 hb1
    go_wp2
    go_ret
    exact ⟨rfl, hw1⟩
end Go.Proofs.Ytmlldjcbijoheaa
