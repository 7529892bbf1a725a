/- Walks: a string in a list, two lists of strings, the number of expressions. -/
import Derived.Test.YtmlldjcbijoheaaKs8
import Derived.Test.YtmlldjcbijoheaaKs2

/- Walks: R16.Check and R16.empty. -/
namespace Go.Proofs.Ytmlldjcbijoheaa
open Go.RowKit

set_option maxRecDepth 100000 in
set_option maxHeartbeats 2000000 in
theorem checkTop16_any (d : Nat) (e : Expr) (s : Int) (na : Option Addr) (nc : Nat) (da : Option Addr) (dc : Nat) (aa : Option Addr) (ac : Nat) (w : World) (h : ExprR d w na nc da dc aa ac e) (hf : e.few) (hcount : e.count ≤ 1048576) :
    Calls Try.prog 126 #[e.val na nc da dc aa ac, .int .i64 s] w fun r w' => r = .returned (.int .i64 (e.check s)) ∧ Below w.heap.size w w' := by
  have CD := fun W (hW : Below w.heap.size w W) => depthR_any d e na nc da dc aa ac W (h.ext (Ext.below hW)) hcount
  have CK := fun W (hW : Below w.heap.size w W) => check16_any d e s na nc da dc aa ac W (h.ext (Ext.below hW)) hf
  obtain ⟨res, hres⟩ : ∃ x, e.check s = x := ⟨_, rfl⟩
  rw [hres]
  unfold Expr.check at hres
  have HRES := Lib.hid hres
  obtain ⟨n, hn⟩ : ∃ n, e.depth = n := ⟨_, rfl⟩
  obtain ⟨ev, hev⟩ : ∃ n, e.err s = n := ⟨_, rfl⟩
  rw [hn] at CD
  rw [hev] at CK
  have HN := Lib.hid hn; have HEV := Lib.hid hev
  unfold Expr.val at CD CK ⊢
  replace CD := Lib.hid CD; replace CK := Lib.hid CK
  clear h hf hcount hres hn hev
  have hz := Blk.new w 40 #[.int .i64 e.kind, .string e.name, .bool e.neg, .slice na e.num.length nc, .slice da e.den.length dc, .slice aa e.args.length ac, .int .i64 e.pos]
  have hb0 : Below w.heap.size w (w.alloc (.cells #[.int .i64 e.kind, .string e.name, .bool e.neg, .slice na e.num.length nc, .slice da e.den.length dc, .slice aa e.args.length ac, .int .i64 e.pos] 40)) := (Below.refl _ _).alloc (Nat.le_refl _) _
  by_cases h1 : s < 1
  · have hr : res = 1 := by rw [← HRES.out, if_pos (Or.inl h1)]
    subst hr
    go_enter Try.func126, Try.ntmps126
    go_wp2
    go_ret
    exact ⟨rfl, hb0⟩
  · by_cases h2 : 4 < s
    · have hr : res = 1 := by rw [← HRES.out, if_pos (Or.inr h2)]
      subst hr
      go_enter Try.func126, Try.ntmps126
      go_wp2
      go_ret
      exact ⟨rfl, hb0⟩
    · have hr := HRES.out
      rw [if_neg (by omega), HN.out, HEV.out] at hr
      have HR := Lib.hid hr
      clear hr HRES
      by_cases h3 : (20 : Int) < (n : Int)
      · have hr : res = 4 := by rw [← HR.out, if_pos (by omega)]
        subst hr
        clear HR
        go_enter Try.func126, Try.ntmps126
        go_wp2_with fail
        revert hz hb0
        generalize w.alloc (.cells _ _) = w0
        intro hz hb0
        refine (CD.out _ hb0).mono ?_
        rintro r w1 ⟨rfl, hb1⟩
        have hw1 := below_then hb0 hb1
        clear hb1 hz hb0
        go_wp2
        go_ret
        exact ⟨rfl, hw1⟩
      · have hr : res = ev := by rw [← HR.out, if_neg (by omega)]
        subst hr
        clear HR HEV
        go_enter Try.func126, Try.ntmps126
        go_wp2_with fail
        revert hz hb0
        generalize w.alloc (.cells _ _) = w0
        intro hz hb0
        refine (CD.out _ hb0).mono ?_
        rintro r w1 ⟨rfl, hb1⟩
        have hw1 := below_then hb0 hb1
        have hz1 := hz.below' hb1
        have z0 := hz1.cell 0; have z1 := hz1.cell 1; have z2 := hz1.cell 2; have z3 := hz1.cell 3; have z4 := hz1.cell 4; have z5 := hz1.cell 5; have z6 := hz1.cell 6
        clear hb1 hz hb0
        go_wp2_with fail
        refine (CK.out _ hw1).mono ?_
        rintro r w2 ⟨rfl, hb2⟩
        have hw2 := below_then hw1 hb2
        clear hb2 hz1 z0 z1 z2 z3 z4 z5 z6
        go_wp2
        go_ret
        exact ⟨rfl, hw2⟩

set_option maxRecDepth 100000 in
set_option maxHeartbeats 2000000 in
theorem empty16_any (e : Expr) (na : Option Addr) (nc : Nat) (da : Option Addr) (dc : Nat) (aa : Option Addr) (ac : Nat) (w : World) (hf : e.few) :
    Calls Try.prog 125 #[e.val na nc da dc aa ac] w fun r w' => r = .returned (.bool e.emptyB) ∧ Below w.heap.size w w' := by
  have hrt := Expr.few_rt hf
  have CN := fun W => none16_any e.rt na nc da dc W hrt.1 hrt.2
  obtain ⟨res, hres⟩ : ∃ x, e.emptyB = x := ⟨_, rfl⟩
  rw [hres]
  unfold Expr.emptyB at hres
  obtain ⟨bn, hbn⟩ : ∃ x, e.rt.none = x := ⟨_, rfl⟩
  rw [hbn] at CN hres
  have HRES := Lib.hid hres
  unfold Rt.val Expr.rt at CN
  dsimp only at CN
  unfold Expr.val
  replace CN := Lib.hid CN
  clear hf hrt hres hbn
  have hz := Blk.new w 40 #[.int .i64 e.kind, .string e.name, .bool e.neg, .slice na e.num.length nc, .slice da e.den.length dc, .slice aa e.args.length ac, .int .i64 e.pos]
  have hb0 : Below w.heap.size w (w.alloc (.cells #[.int .i64 e.kind, .string e.name, .bool e.neg, .slice na e.num.length nc, .slice da e.den.length dc, .slice aa e.args.length ac, .int .i64 e.pos] 40)) := (Below.refl _ _).alloc (Nat.le_refl _) _
  by_cases h1 : e.kind = 0
  · have hk : (e.kind == 0) = true := by simpa using h1
    by_cases h2 : e.name = ⟨#[]⟩
    · have hse : e.name.toList.isEmpty = true := by rw [str_isEmpty]; simpa using h2
      have hse2 : e.name.toList = [] := List.isEmpty_iff.1 hse
      have hr := HRES.out
      rw [decide_eq_true h1, decide_eq_true h2, Bool.true_and, Bool.true_and] at hr
      have HR := Lib.hid hr
      clear h1 h2 hr HRES
      go_enter Try.func125, Try.ntmps125
      go_wp2_with fail
      revert hz hb0
      generalize w.alloc (.cells _ _) = w0
      intro hz hb0
      refine (CN.out _).mono ?_
      rintro r w1 ⟨rfl, hb1⟩
      have hw1 := below_then hb0 hb1
      have hz1 := hz.below' hb1
      have z5 := hz1.cell 5
      clear hb1 hz hb0
      cases bn
      · have hr : res = false := by rw [← HR.out]; rfl
        subst hr
        go_wp2
        go_ret
        exact ⟨rfl, hw1⟩
      · have hr : res = decide (e.args.length = 0) := by rw [← HR.out]; rfl
        subst hr
        go_wp2
        go_ret
        exact ⟨ret_bool (by rw [Bool.eq_iff_iff]; simp), hw1⟩
    · have hse : e.name.toList.isEmpty = false := by rw [str_isEmpty]; simpa using h2
      have hse2 : e.name.toList ≠ [] := by intro x; rw [x] at hse; cases hse
      have hr : res = false := by rw [← HRES.out, decide_eq_false h2]; simp
      subst hr
      clear h1 h2
      go_enter Try.func125, Try.ntmps125
      go_wp2
      go_ret
      exact ⟨rfl, hb0⟩
  · have hk : (e.kind == 0) = false := by simpa using h1
    have hr : res = false := by rw [← HRES.out, decide_eq_false h1]; simp
    subst hr
    clear h1
    go_enter Try.func125, Try.ntmps125
    go_wp2
    go_ret
    exact ⟨rfl, hb0⟩
end Go.Proofs.Ytmlldjcbijoheaa

/- Steps of a program in memory. -/
namespace Go.Proofs.Ytmlldjcbijoheaa
open Go.RowKit

/-- where the slices of a step lie -/
structure SA where
  sa : Option Addr
  sc : Nat
  na : Option Addr
  nc : Nat
  da : Option Addr
  dc : Nat
  aa : Option Addr
  ac : Nat
def Stmt.val (s : Stmt) (p : SA) : Value :=
  .agg #[.int .i64 s.kind, .slice p.sa s.names.length p.sc, .int .i64 s.expr.kind, .string s.expr.name, .bool s.expr.neg, .slice p.na s.expr.num.length p.nc, .slice p.da s.expr.den.length p.dc, .slice p.aa s.expr.args.length p.ac, .int .i64 s.expr.pos, .int .i64 s.pos]
def StmtC (w : World) (b o : Nat) (p : SA) (s : Stmt) : Prop :=
  w.cell? ⟨b, o, none⟩ = some (.int .i64 s.kind) ∧ w.cell? ⟨b, o + 1, none⟩ = some (.slice p.sa s.names.length p.sc) ∧
  w.cell? ⟨b, o + 2, none⟩ = some (.int .i64 s.expr.kind) ∧ w.cell? ⟨b, o + 3, none⟩ = some (.string s.expr.name) ∧ w.cell? ⟨b, o + 4, none⟩ = some (.bool s.expr.neg) ∧
  w.cell? ⟨b, o + 5, none⟩ = some (.slice p.na s.expr.num.length p.nc) ∧ w.cell? ⟨b, o + 6, none⟩ = some (.slice p.da s.expr.den.length p.dc) ∧
  w.cell? ⟨b, o + 7, none⟩ = some (.slice p.aa s.expr.args.length p.ac) ∧ w.cell? ⟨b, o + 8, none⟩ = some (.int .i64 s.expr.pos) ∧ w.cell? ⟨b, o + 9, none⟩ = some (.int .i64 s.pos)
theorem StmtC.ext {w w' : World} {b o : Nat} {p : SA} {s : Stmt} (h : StmtC w b o p s) (x : Ext w w') : StmtC w' b o p s := by
  obtain ⟨c0, c1, c2, c3, c4, c5, c6, c7, c8, c9⟩ := h
  exact ⟨x _ _ c0, x _ _ c1, x _ _ c2, x _ _ c3, x _ _ c4, x _ _ c5, x _ _ c6, x _ _ c7, x _ _ c8, x _ _ c9⟩
/-- what the slices of a step read as -/
structure StmtR (d : Nat) (w : World) (p : SA) (s : Stmt) : Prop where
  kind : InInt s.kind
  names : StrsR w p.sa p.sc s.names
  expr : ExprR d w p.na p.nc p.da p.dc p.aa p.ac s.expr
  pos : InInt s.pos
theorem StmtR.ext {d : Nat} {w w' : World} {p : SA} {s : Stmt} (h : StmtR d w p s) (x : Ext w w') : StmtR d w' p s := ⟨h.kind, h.names.ext x, h.expr.ext x, h.pos⟩
theorem StmtR.more {d d' : Nat} {w : World} {p : SA} {s : Stmt} (h : StmtR d w p s) (hd : d ≤ d') : StmtR d' w p s := ⟨h.kind, h.names, h.expr.more hd, h.pos⟩
def StmtE (d : Nat) (w : World) (b o : Nat) (s : Stmt) : Prop := ∃ p, StmtC w b o p s ∧ StmtR d w p s
theorem StmtE.ext {d : Nat} {w w' : World} {b o : Nat} {s : Stmt} (h : StmtE d w b o s) (x : Ext w w') : StmtE d w' b o s := by
  obtain ⟨p, h1, h2⟩ := h
  exact ⟨p, h1.ext x, h2.ext x⟩
def StmtsR (d : Nat) (w : World) (a : Option Addr) (c : Nat) (l : List Stmt) : Prop := SlR 10 (StmtE d) w a c l
theorem StmtsR.ext {d : Nat} {w w' : World} {a : Option Addr} {c : Nat} {l : List Stmt} (h : StmtsR d w a c l) (x : Ext w w') : StmtsR d w' a c l := SlR.mono h fun _ _ _ _ h => h.ext x
end Go.Proofs.Ytmlldjcbijoheaa

/- Walk: R16.CheckStmt. -/
namespace Go.Proofs.Ytmlldjcbijoheaa
open Go.RowKit

theorem any_at {α : Type} {f : α → Bool} {l : List α} {k : Nat} {x : α} (h : l[k]? = some x) : (l.drop k).any f = (f x || (l.drop (k + 1)).any f) := by
  have hk := lt_of_get h
  rw [List.drop_eq_getElem_cons hk]
  have : l[k] = x := by rw [List.getElem?_eq_getElem hk] at h; exact Option.some.inj h
  rw [this, List.any_cons]

set_option maxRecDepth 100000 in
set_option maxHeartbeats 8000000 in
theorem checkStmt16_arg (d : Nat) (s : Stmt) (sa : Option Addr) (sc : Nat) (na : Option Addr) (nc : Nat) (da : Option Addr) (dc : Nat) (aa : Option Addr) (ac : Nat) (w : World) (hn : StrsR w sa sc s.names) (h : ExprR d w na nc da dc aa ac s.expr) (hf : s.expr.few) (hcount : s.expr.count ≤ 1048576) (hsz : ∀ n ∈ s.names, n.size ≤ 1048576) :
    Calls Try.prog 118 #[.agg #[.int .i64 s.kind, .slice sa s.names.length sc, .int .i64 s.expr.kind, .string s.expr.name, .bool s.expr.neg, .slice na s.expr.num.length nc, .slice da s.expr.den.length dc, .slice aa s.expr.args.length ac, .int .i64 s.expr.pos, .int .i64 s.pos]] w fun r w' => r = .returned (.int .i64 s.err) ∧ Below w.heap.size w w' := by
  have CE := fun W => empty16_any s.expr na nc da dc aa ac W hf
  have CK := fun W (hW : Below w.heap.size w W) => checkTop16_any d s.expr (stmtSort s.kind) na nc da dc aa ac W (h.ext (Ext.below hW)) hf hcount
  have CS := fun W => stmtSort16_any s.kind W
  obtain ⟨ss, hss⟩ : ∃ x, stmtSort s.kind = x := ⟨_, rfl⟩
  rw [hss] at CK CS
  have HS := Lib.hid hn
  have hnl := hn.len
  have HSZ := Lib.hid hsz
  obtain ⟨res, hres⟩ : ∃ x, s.err = x := ⟨_, rfl⟩
  rw [hres]
  unfold Stmt.err at hres
  rw [hss] at hres
  have HRES := Lib.hid hres
  obtain ⟨be, hbe⟩ : ∃ x, s.expr.emptyB = x := ⟨_, rfl⟩
  rw [hbe] at CE
  obtain ⟨ek, hek⟩ : ∃ x, s.expr.check ss = x := ⟨_, rfl⟩
  rw [hek] at CK
  have HBE := Lib.hid hbe; have HEK := Lib.hid hek
  unfold Expr.val at CE CK
  replace CE := Lib.hid CE; replace CK := Lib.hid CK; replace CS := Lib.hid CS
  clear h hn hf hcount hss hsz hres hbe hek
  have hz := Blk.new w 49 #[.int .i64 s.kind, .slice sa s.names.length sc, .int .i64 s.expr.kind, .string s.expr.name, .bool s.expr.neg, .slice na s.expr.num.length nc, .slice da s.expr.den.length dc, .slice aa s.expr.args.length ac, .int .i64 s.expr.pos, .int .i64 s.pos]
  have hb0 : Below w.heap.size w (w.alloc (.cells #[.int .i64 s.kind, .slice sa s.names.length sc, .int .i64 s.expr.kind, .string s.expr.name, .bool s.expr.neg, .slice na s.expr.num.length nc, .slice da s.expr.den.length dc, .slice aa s.expr.args.length ac, .int .i64 s.expr.pos, .int .i64 s.pos] 49)) := (Below.refl _ _).alloc (Nat.le_refl _) _
  by_cases h1 : s.kind < 1
  · have hr : res = 8 := by rw [← HRES.out, if_pos (Or.inl h1)]
    subst hr
    go_enter Try.func118, Try.ntmps118
    go_wp2
    go_ret
    exact ⟨rfl, hb0⟩
  · by_cases h5 : 5 < s.kind
    · have hr : res = 8 := by rw [← HRES.out, if_pos (Or.inr h5)]
      subst hr
      go_enter Try.func118, Try.ntmps118
      go_wp2
      go_ret
      exact ⟨rfl, hb0⟩
    · have hr := HRES.out
      rw [if_neg (by omega)] at hr
      have HR0 := Lib.hid hr
      clear hr HRES
      obtain ⟨ba, hba⟩ : ∃ b, s.names.any (fun n => !isNameB n) = b := ⟨_, rfl⟩
      have HA : Hid ((s.names.drop 0).any (fun n => !isNameB n) = ba) := Lib.hid (by simpa using hba)
      by_cases hk : s.kind = 1
      · have k1 : (s.kind == 1) = true := by simpa using hk
        have kn1 : (s.kind != 1) = false := by simpa using hk
        have k5 : (s.kind == 5) = false := by simp; omega
        have HK := Lib.hid hk
        by_cases hl : s.names.length = 0
        · have hlb : ((s.names.length : Int) == 0) = true := by simp [hl]
          have hr : res = 1 := by rw [← HR0.out, if_pos (Or.inl ⟨hk, hl⟩)]
          subst hr
          clear hk hl hba HA
          go_enter Try.func118, Try.ntmps118
          go_wp2
          go_ret
          exact ⟨rfl, hb0⟩
        · have hlb : ((s.names.length : Int) == 0) = false := eqb_false (by omega)
          have hr6 : (if ba = true then 6 else (if s.kind = 1 then (if s.expr.emptyB = false then 1 else 0) else if s.expr.kind = 1 then 8 else s.expr.check ss)) = res := by
            rw [← HR0.out, if_neg (c := _ ∨ _) (by omega), if_neg (c := _ ∧ _) (by omega), hba]
          have HR6 := Lib.hid hr6
          clear hk hl hba HR0 hr6
          go_enter Try.func118, Try.ntmps118
          go_wp2
          revert hz hb0
          generalize w.alloc (.cells #[.int .i64 s.kind, .slice sa s.names.length sc, .int .i64 s.expr.kind, .string s.expr.name, .bool s.expr.neg, .slice na s.expr.num.length nc, .slice da s.expr.den.length dc, .slice aa s.expr.args.length ac, .int .i64 s.expr.pos, .int .i64 s.pos] 49) = w0
          intro hz hb0
          obtain ⟨wo, rfl⟩ : ∃ wo : World, wo = w0 := ⟨_, rfl⟩
          go_loopg [5, 48] s.names.length (fun g _ q wr => ∃ k : Nat, k + g = s.names.length ∧ q = .int .i64 k ∧ Below w.heap.size w wr ∧ Blk wr w.heap.size 49 #[.int .i64 s.kind, .slice sa s.names.length sc, .int .i64 s.expr.kind, .string s.expr.name, .bool s.expr.neg, .slice na s.expr.num.length nc, .slice da s.expr.den.length dc, .slice aa s.expr.args.length ac, .int .i64 s.expr.pos, .int .i64 s.pos] ∧
            (s.names.drop k).any (fun n => !isNameB n) = ba)
          case atStart => exact ⟨0, by omega, rfl, hb0, hz, HA.out⟩
          case round =>
            clear hz hb0
            obtain ⟨k, hkg, rfl, hwr, hzr, ha⟩ := hrel
            have HKG := Lib.hid hkg
            have HAK := Lib.hid ha
            have hzl := hzr.lt
            have z0 := hzr.cell 0; have z2 := hzr.cell 2; have z3 := hzr.cell 3; have z4 := hzr.cell 4; have z5 := hzr.cell 5; have z6 := hzr.cell 6; have z7 := hzr.cell 7; have z8 := hzr.cell 8
            clear hkg ha
            by_cases hlt : k < s.names.length
            · obtain ⟨x, hx⟩ := get_of_lt hlt
              obtain ⟨bx, ox, rfl, hc⟩ := (HS.out.ext (Ext.below hwr)).2.2 k x hx
              have hc1 : wr.cell? ⟨bx, ox + k, none⟩ = some (.string x) := by simpa [StrE] using hc
              have CI := fun W => isName15_any x W (by have := HSZ.out x (List.mem_of_getElem? hx); omega)
              have hak := HAK.out
              rw [any_at hx] at hak
              obtain ⟨bi, hbi⟩ : ∃ b, isNameB x = b := ⟨_, rfl⟩
              rw [hbi] at CI hak
              replace CI := Lib.hid CI
              clear hx hc hbi HAK z0 z2 z3 z4 z5 z6 z7 z8
              go_wp2_with fail
              refine (CI.out _).mono ?_
              rintro r w1 ⟨rfl, hb1⟩
              have hw1 := below_then hwr hb1
              have hz1 := hzr.below' hb1
              cases bi
              · have hba : ba = true := by rw [← hak]; simp
                have hr : res = 6 := by rw [← HR6.out, hba]; rfl
                clear hak hb1 hzr hwr hzl hz1
                subst hr
                go_wp2
                go_ret
                exact ⟨rfl, hw1⟩
              · have hak2 : (s.names.drop (k + 1)).any (fun n => !isNameB n) = ba := by simpa using hak
                have HAK := Lib.hid hak2
                clear hak hak2 hb1 hzr hwr hzl
                go_wp2
                go_roundg (gk - 1)
                case rel => exact ⟨k + 1, by have := HKG.out; omega, by go_num, hw1, hz1, HAK.out⟩
                case measure => have := HKG.out; omega
            · have hba : ba = false := by have := HAK.out; rw [← this, List.drop_eq_nil_of_le (by omega)]; rfl
              have hr6 : (if s.kind = 1 then (if s.expr.emptyB = false then 1 else 0) else if s.expr.kind = 1 then 8 else s.expr.check ss) = res := by rw [← HR6.out, hba]; rfl
              have HRE := Lib.hid hr6
              clear hba hr6 HAK HKG HR6
              have hr := HRE.out
              rw [if_pos HK.out, HBE.out] at hr
              have HR := Lib.hid hr
              clear hr HRE
              go_wp2_with fail
              refine (CE.out _).mono ?_
              rintro r w1 ⟨rfl, hb1⟩
              have hw1 := below_then hwr hb1
              clear hb1 hzr hwr hzl z0 z2 z3 z4 z5 z6 z7 z8
              cases be
              · have hr : res = 1 := by rw [← HR.out]; rfl
                subst hr
                clear HR
                go_wp2
                go_ret
                exact ⟨rfl, hw1⟩
              · have hr : res = 0 := by rw [← HR.out]; rfl
                subst hr
                clear HR
                go_wp2
                go_ret
                exact ⟨rfl, hw1⟩
      · have k1 : (s.kind == 1) = false := by simpa using hk
        have kn1 : (s.kind != 1) = true := by simpa using hk
        have HK := Lib.hid hk
        by_cases hk5 : s.kind = 5
        · have k5 : (s.kind == 5) = true := by simpa using hk5
          have kn5 : (s.kind != 5) = false := by simpa using hk5
          by_cases hl : s.names.length = 0
          · have hlb : ((s.names.length : Int) != 0) = false := by simp [hl]
            have hr6 : (if ba = true then 6 else (if s.kind = 1 then (if s.expr.emptyB = false then 1 else 0) else if s.expr.kind = 1 then 8 else s.expr.check ss)) = res := by
              rw [← HR0.out, if_neg (c := _ ∨ _) (by omega), if_neg (c := _ ∧ _) (by omega), hba]
            have HR6 := Lib.hid hr6
            have HL := Lib.hid hl
            clear hk hk5 hl hba HR0 hr6
            go_enter Try.func118, Try.ntmps118
            go_wp2
            revert hz hb0
            generalize w.alloc (.cells #[.int .i64 s.kind, .slice sa s.names.length sc, .int .i64 s.expr.kind, .string s.expr.name, .bool s.expr.neg, .slice na s.expr.num.length nc, .slice da s.expr.den.length dc, .slice aa s.expr.args.length ac, .int .i64 s.expr.pos, .int .i64 s.pos] 49) = w0
            intro hz hb0
            obtain ⟨wo, rfl⟩ : ∃ wo : World, wo = w0 := ⟨_, rfl⟩
            go_loopg [5, 48] s.names.length (fun g _ q wr => ∃ k : Nat, k + g = s.names.length ∧ q = .int .i64 k ∧ Below w.heap.size w wr ∧ Blk wr w.heap.size 49 #[.int .i64 s.kind, .slice sa s.names.length sc, .int .i64 s.expr.kind, .string s.expr.name, .bool s.expr.neg, .slice na s.expr.num.length nc, .slice da s.expr.den.length dc, .slice aa s.expr.args.length ac, .int .i64 s.expr.pos, .int .i64 s.pos] ∧
              (s.names.drop k).any (fun n => !isNameB n) = ba)
            case atStart => exact ⟨0, by omega, rfl, hb0, hz, HA.out⟩
            case round =>
              clear hz hb0
              obtain ⟨k, hkg, rfl, hwr, hzr, ha⟩ := hrel
              have HKG := Lib.hid hkg
              have HAK := Lib.hid ha
              have hzl := hzr.lt
              have z0 := hzr.cell 0; have z2 := hzr.cell 2; have z3 := hzr.cell 3; have z4 := hzr.cell 4; have z5 := hzr.cell 5; have z6 := hzr.cell 6; have z7 := hzr.cell 7; have z8 := hzr.cell 8
              clear hkg ha
              by_cases hlt : k < s.names.length
              · obtain ⟨x, hx⟩ := get_of_lt hlt
                obtain ⟨bx, ox, rfl, hc⟩ := (HS.out.ext (Ext.below hwr)).2.2 k x hx
                have hc1 : wr.cell? ⟨bx, ox + k, none⟩ = some (.string x) := by simpa [StrE] using hc
                have CI := fun W => isName15_any x W (by have := HSZ.out x (List.mem_of_getElem? hx); omega)
                have hak := HAK.out
                rw [any_at hx] at hak
                obtain ⟨bi, hbi⟩ : ∃ b, isNameB x = b := ⟨_, rfl⟩
                rw [hbi] at CI hak
                replace CI := Lib.hid CI
                clear hx hc hbi HAK z0 z2 z3 z4 z5 z6 z7 z8
                go_wp2_with fail
                refine (CI.out _).mono ?_
                rintro r w1 ⟨rfl, hb1⟩
                have hw1 := below_then hwr hb1
                have hz1 := hzr.below' hb1
                cases bi
                · have hba : ba = true := by rw [← hak]; simp
                  have hr : res = 6 := by rw [← HR6.out, hba]; rfl
                  clear hak hb1 hzr hwr hzl hz1
                  subst hr
                  go_wp2
                  go_ret
                  exact ⟨rfl, hw1⟩
                · have hak2 : (s.names.drop (k + 1)).any (fun n => !isNameB n) = ba := by simpa using hak
                  have HAK := Lib.hid hak2
                  clear hak hak2 hb1 hzr hwr hzl
                  go_wp2
                  go_roundg (gk - 1)
                  case rel => exact ⟨k + 1, by have := HKG.out; omega, by go_num, hw1, hz1, HAK.out⟩
                  case measure => have := HKG.out; omega
              · have hba : ba = false := by have := HAK.out; rw [← this, List.drop_eq_nil_of_le (by omega)]; rfl
                have hr6 : (if s.kind = 1 then (if s.expr.emptyB = false then 1 else 0) else if s.expr.kind = 1 then 8 else s.expr.check ss) = res := by rw [← HR6.out, hba]; rfl
                have HRE := Lib.hid hr6
                clear hba hr6 HAK HKG HR6
                have hr := HRE.out
                rw [if_neg HK.out] at hr
                by_cases hx1 : s.expr.kind = 1
                · have hxb : (s.expr.kind == 1) = true := by simpa using hx1
                  have hr : res = 8 := by rw [← hr, if_pos hx1]
                  subst hr
                  clear hx1 hr HRE
                  go_wp2
                  go_ret
                  exact ⟨rfl, hwr⟩
                · have hxb : (s.expr.kind == 1) = false := by simpa using hx1
                  rw [if_neg hx1, HEK.out] at hr
                  subst hr
                  clear hx1 HRE
                  go_wp2
                  have k0 := held z0; have k2 := held z2; have k3 := held z3; have k4 := held z4; have k5 := held z5; have k6 := held z6; have k7 := held z7; have k8 := held z8
                  clear z0 z2 z3 z4 z5 z6 z7 z8 hzr hzl
                  have s0 : Below wr.heap.size wr wr.drew := (Below.refl _ _).drew
                  refine wp_region_mix (S := Below wr.heap.size wr) [(0, .q), (1, .q), (2, .q), (3, .q), (4, .l), (5, .t), (6, .p)] (by kernel_rfl) (by kernel_rfl) (by kernel_rfl) (fun d _ _ _ _ h => by cases d <;> exact h) (s0) ?_
                  iterate 4 (refine wpMix_q rfl rfl (fun K hK => ?_); apply Exists.intro; refine ⟨fun w' hw' => ?_, ?_⟩; (focus (go_simp; try rfl)); go_simp; refine hK _ _ ?_; clear hK K)
                  refine wpMix_l rfl rfl (fun K hK => ?_)
                  go_simp
                  refine (CS.out _).mono ?_
                  rintro r w1 ⟨rfl, rfl⟩
                  dsimp only
                  refine hK.out _ _ (s0) (fun _ => ?_)
                  clear hK K
                  refine wpMix_t rfl rfl (fun K hK => ?_)
                  go_simp
                  refine (CK.out _ (below_then hwr s0)).mono ?_
                  rintro r w2 ⟨rfl, hb2⟩
                  dsimp only
                  refine hK.out _ _ ?_
                  clear hK K
                  have hw2 := below_then hwr (below_then s0 hb2)
                  iterate 1 (refine wpMix_p rfl rfl (fun K hK => ?_); apply Exists.intro; refine ⟨fun w' => ?_, ?_⟩; (focus (go_simp; try rfl)); go_simp; refine hK _ _ ?_; clear hK K)
                  refine wpMix_nil ?_
                  go_wp2
                  go_ret
                  exact ⟨rfl, hw2⟩
          · have hlb : ((s.names.length : Int) != 0) = true := bne_iff_ne.2 (by omega)
            have hr : res = 1 := by rw [← HR0.out, if_pos (Or.inr ⟨hk5, hl⟩)]
            subst hr
            clear hk hk5 hl hba HA
            go_enter Try.func118, Try.ntmps118
            go_wp2
            go_ret
            exact ⟨rfl, hb0⟩
        · have k5 : (s.kind == 5) = false := by simpa using hk5
          have kn5 : (s.kind != 5) = true := by simpa using hk5
          by_cases hl : s.names.length = 1
          · have hlb : ((s.names.length : Int) != 1) = false := by rw [hl]; simp
            have hr6 : (if ba = true then 6 else (if s.kind = 1 then (if s.expr.emptyB = false then 1 else 0) else if s.expr.kind = 1 then 8 else s.expr.check ss)) = res := by
              rw [← HR0.out, if_neg (c := _ ∨ _) (by omega), if_neg (c := _ ∧ _) (by omega), hba]
            have HR6 := Lib.hid hr6
            have HL := Lib.hid hl
            clear hk hk5 hl hba HR0 hr6
            go_enter Try.func118, Try.ntmps118
            go_wp2
            revert hz hb0
            generalize w.alloc (.cells #[.int .i64 s.kind, .slice sa s.names.length sc, .int .i64 s.expr.kind, .string s.expr.name, .bool s.expr.neg, .slice na s.expr.num.length nc, .slice da s.expr.den.length dc, .slice aa s.expr.args.length ac, .int .i64 s.expr.pos, .int .i64 s.pos] 49) = w0
            intro hz hb0
            obtain ⟨wo, rfl⟩ : ∃ wo : World, wo = w0 := ⟨_, rfl⟩
            go_loopg [5, 48] s.names.length (fun g _ q wr => ∃ k : Nat, k + g = s.names.length ∧ q = .int .i64 k ∧ Below w.heap.size w wr ∧ Blk wr w.heap.size 49 #[.int .i64 s.kind, .slice sa s.names.length sc, .int .i64 s.expr.kind, .string s.expr.name, .bool s.expr.neg, .slice na s.expr.num.length nc, .slice da s.expr.den.length dc, .slice aa s.expr.args.length ac, .int .i64 s.expr.pos, .int .i64 s.pos] ∧
              (s.names.drop k).any (fun n => !isNameB n) = ba)
            case atStart => exact ⟨0, by omega, rfl, hb0, hz, HA.out⟩
            case round =>
              clear hz hb0
              obtain ⟨k, hkg, rfl, hwr, hzr, ha⟩ := hrel
              have HKG := Lib.hid hkg
              have HAK := Lib.hid ha
              have hzl := hzr.lt
              have z0 := hzr.cell 0; have z2 := hzr.cell 2; have z3 := hzr.cell 3; have z4 := hzr.cell 4; have z5 := hzr.cell 5; have z6 := hzr.cell 6; have z7 := hzr.cell 7; have z8 := hzr.cell 8
              clear hkg ha
              by_cases hlt : k < s.names.length
              · obtain ⟨x, hx⟩ := get_of_lt hlt
                obtain ⟨bx, ox, rfl, hc⟩ := (HS.out.ext (Ext.below hwr)).2.2 k x hx
                have hc1 : wr.cell? ⟨bx, ox + k, none⟩ = some (.string x) := by simpa [StrE] using hc
                have CI := fun W => isName15_any x W (by have := HSZ.out x (List.mem_of_getElem? hx); omega)
                have hak := HAK.out
                rw [any_at hx] at hak
                obtain ⟨bi, hbi⟩ : ∃ b, isNameB x = b := ⟨_, rfl⟩
                rw [hbi] at CI hak
                replace CI := Lib.hid CI
                clear hx hc hbi HAK z0 z2 z3 z4 z5 z6 z7 z8
                go_wp2_with fail
                refine (CI.out _).mono ?_
                rintro r w1 ⟨rfl, hb1⟩
                have hw1 := below_then hwr hb1
                have hz1 := hzr.below' hb1
                cases bi
                · have hba : ba = true := by rw [← hak]; simp
                  have hr : res = 6 := by rw [← HR6.out, hba]; rfl
                  clear hak hb1 hzr hwr hzl hz1
                  subst hr
                  go_wp2
                  go_ret
                  exact ⟨rfl, hw1⟩
                · have hak2 : (s.names.drop (k + 1)).any (fun n => !isNameB n) = ba := by simpa using hak
                  have HAK := Lib.hid hak2
                  clear hak hak2 hb1 hzr hwr hzl
                  go_wp2
                  go_roundg (gk - 1)
                  case rel => exact ⟨k + 1, by have := HKG.out; omega, by go_num, hw1, hz1, HAK.out⟩
                  case measure => have := HKG.out; omega
              · have hba : ba = false := by have := HAK.out; rw [← this, List.drop_eq_nil_of_le (by omega)]; rfl
                have hr6 : (if s.kind = 1 then (if s.expr.emptyB = false then 1 else 0) else if s.expr.kind = 1 then 8 else s.expr.check ss) = res := by rw [← HR6.out, hba]; rfl
                have HRE := Lib.hid hr6
                clear hba hr6 HAK HKG HR6
                have hr := HRE.out
                rw [if_neg HK.out] at hr
                by_cases hx1 : s.expr.kind = 1
                · have hxb : (s.expr.kind == 1) = true := by simpa using hx1
                  have hr : res = 8 := by rw [← hr, if_pos hx1]
                  subst hr
                  clear hx1 hr HRE
                  go_wp2
                  go_ret
                  exact ⟨rfl, hwr⟩
                · have hxb : (s.expr.kind == 1) = false := by simpa using hx1
                  rw [if_neg hx1, HEK.out] at hr
                  subst hr
                  clear hx1 HRE
                  go_wp2
                  have k0 := held z0; have k2 := held z2; have k3 := held z3; have k4 := held z4; have k5 := held z5; have k6 := held z6; have k7 := held z7; have k8 := held z8
                  clear z0 z2 z3 z4 z5 z6 z7 z8 hzr hzl
                  have s0 : Below wr.heap.size wr wr.drew := (Below.refl _ _).drew
                  refine wp_region_mix (S := Below wr.heap.size wr) [(0, .q), (1, .q), (2, .q), (3, .q), (4, .l), (5, .t), (6, .p)] (by kernel_rfl) (by kernel_rfl) (by kernel_rfl) (fun d _ _ _ _ h => by cases d <;> exact h) (s0) ?_
                  iterate 4 (refine wpMix_q rfl rfl (fun K hK => ?_); apply Exists.intro; refine ⟨fun w' hw' => ?_, ?_⟩; (focus (go_simp; try rfl)); go_simp; refine hK _ _ ?_; clear hK K)
                  refine wpMix_l rfl rfl (fun K hK => ?_)
                  go_simp
                  refine (CS.out _).mono ?_
                  rintro r w1 ⟨rfl, rfl⟩
                  dsimp only
                  refine hK.out _ _ (s0) (fun _ => ?_)
                  clear hK K
                  refine wpMix_t rfl rfl (fun K hK => ?_)
                  go_simp
                  refine (CK.out _ (below_then hwr s0)).mono ?_
                  rintro r w2 ⟨rfl, hb2⟩
                  dsimp only
                  refine hK.out _ _ ?_
                  clear hK K
                  have hw2 := below_then hwr (below_then s0 hb2)
                  iterate 1 (refine wpMix_p rfl rfl (fun K hK => ?_); apply Exists.intro; refine ⟨fun w' => ?_, ?_⟩; (focus (go_simp; try rfl)); go_simp; refine hK _ _ ?_; clear hK K)
                  refine wpMix_nil ?_
                  go_wp2
                  go_ret
                  exact ⟨rfl, hw2⟩
          · have hlb : ((s.names.length : Int) != 1) = true := bne_iff_ne.2 (by omega)
            have hr : res = 1 := by rw [← HR0.out, if_neg (c := _ ∨ _) (by omega), if_pos ⟨hk, hk5, hl⟩]
            subst hr
            clear hk hk5 hl hba HA
            go_enter Try.func118, Try.ntmps118
            go_wp2
            go_ret
            exact ⟨rfl, hb0⟩
theorem checkStmt16_any (d : Nat) (s : Stmt) (p : SA) (w : World) (h : StmtR d w p s) (hf : s.expr.few) (hcount : s.expr.count ≤ 1048576) (hsz : ∀ n ∈ s.names, n.size ≤ 1048576) :
    Calls Try.prog 118 #[s.val p] w fun r w' => r = .returned (.int .i64 s.err) ∧ Below w.heap.size w w' :=
  checkStmt16_arg d s p.sa p.sc p.na p.nc p.da p.dc p.aa p.ac w h.names h.expr hf hcount hsz
end Go.Proofs.Ytmlldjcbijoheaa

/- Walks: a string in a list, two lists of strings, the number of expressions. -/
namespace Go.Proofs.Ytmlldjcbijoheaa
open Go.RowKit

set_option maxHeartbeats 400000 in
theorem has_any (l : List ByteArray) (a : Option Addr) (c : Nat) (s : ByteArray) (w : World) (h : StrsR w a c l) :
    Calls Try.prog 57 #[.slice a l.length c, .string s] w fun r w' => r = .returned (.bool (hasName l s)) ∧ w = w' := by
  have H := Lib.hid h
  have hl := h.len
  clear h
  go_enter Try.func57, Try.ntmps57
  go_wp2
  go_loop [9] (fun i => ∃ k : Nat, k ≤ l.length ∧ i = .int .i64 k ∧ Hid (hasName (l.take k) s = false)) (fun i => l.length - (intOf i).toNat)
  case atStart => exact ⟨0, by omega, rfl, by simp [Hid, hasName]⟩
  case round =>
    obtain ⟨k, hk, rfl, hf⟩ := hrel
    by_cases hlt : k < l.length
    · obtain ⟨x, hx⟩ := get_of_lt hlt
      obtain ⟨b, off, rfl, hE⟩ := H.out.2.2 k x hx
      have hc : w.cell? ⟨b, off + k, none⟩ = some (.string x) := by simpa [StrE] using hE
      have HXX := Lib.hid hx
      clear hx hE
      by_cases he : x = s
      · have hb : (x.toList == s.toList) = true := by rw [str_beq]; simpa using he
        have HE := Lib.hid he
        clear he
        go_wp2
        go_ret
        refine ⟨ret_bool ?_, rfl⟩
        have : hasName (l.take (k + 1)) s = true := by rw [take_more HXX.out, hasName_more, hf.out, HE.out]; simp
        have h2 : s ∈ l.take (k + 1) := hasName_iff.1 this
        exact (hasName_iff.2 (List.mem_of_mem_take h2)).symm
      · have hb : (x.toList == s.toList) = false := by rw [str_beq]; simpa using he
        have HE := Lib.hid he
        clear he
        go_wp2
        refine ⟨⟨k + 1, by omega, by go_num, ?_⟩, by simp [intOf]; omega⟩
        rw [take_more HXX.out, hasName_more, hf.out]
        simpa [Hid] using HE.out
    · go_wp2
      go_ret
      refine ⟨ret_bool ?_, rfl⟩
      have := hf.out
      rw [take_all hlt] at this
      exact this.symm

set_option maxHeartbeats 400000 in
theorem sameStrings16_any (l : List ByteArray) (a a' : Option Addr) (c c' : Nat) (w : World) (h : StrsR w a c l) (h' : StrsR w a' c' l) :
    Calls Try.prog 16 #[.slice a l.length c, .slice a' l.length c'] w fun r w' => r = .returned (.bool true) ∧ Below w.heap.size w w' := by
  have H := Lib.hid h
  have H' := Lib.hid h'
  have hl := h.len
  clear h h'
  go_enter Try.func16, Try.ntmps16
  go_wp2
  go_loopw [13] (fun i wr => ∃ k : Nat, k ≤ l.length ∧ i = .int .i64 k ∧ Below w.heap.size w wr) (fun i _ => l.length - (intOf i).toNat)
  case atStart => exact ⟨0, by omega, rfl, Below.refl _ _⟩
  case round =>
    obtain ⟨k, hk, rfl, hb⟩ := hrel
    by_cases hlt : k < l.length
    · obtain ⟨x, hx⟩ := get_of_lt hlt
      obtain ⟨b, off, rfl, hE⟩ := H.out.2.2 k x hx
      obtain ⟨b', off', rfl, hE'⟩ := H'.out.2.2 k x hx
      have hc : wr.cell? ⟨b, off + k, none⟩ = some (.string x) := by have := hE.ext (Ext.below hb); simpa [StrE] using this
      have hc' : wr.cell? ⟨b', off' + k, none⟩ = some (.string x) := by have := hE'.ext (Ext.below hb); simpa [StrE] using this
      clear hx hE hE'
      go_wp2
      go_quiet (fail)
      go_wp2
      exact ⟨⟨k + 1, by omega, by go_num, below_drewN hb _⟩, by simp [intOf]; omega⟩
    · go_wp2
      go_ret
      exact ⟨rfl, hb⟩
end Go.Proofs.Ytmlldjcbijoheaa
