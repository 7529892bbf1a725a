/- Slices of expressions that a call makes itself. -/
import Derived.Test.YtmlldjcbijoheaaKs11
import Derived.Test.YtmlldjcbijoheaaKs2
import Derived.Deep.Upon
import Derived.Test.YtmlldjcbijoheaaKs6
import Derived.Test.YtmlldjcbijoheaaKs1

/- Walks: small and right of the law of scopes. -/
namespace Go.Proofs.Ytmlldjcbijoheaa
open Go.RowKit

def smallS (s : Stmt) : Bool := decide (s.expr.count ≤ 300) && decide (s.names.length ≤ 40)
def smallP (l : List Stmt) : Bool := l.all smallS && decide (l.length ≤ 40)
theorem allS_at {l : List Stmt} {k : Nat} {x : Stmt} (h : l[k]? = some x) : (l.drop k).all smallS = (smallS x && (l.drop (k + 1)).all smallS) := by
  have hk := lt_of_get h
  rw [List.drop_eq_getElem_cons hk]
  have : l[k] = x := by rw [List.getElem?_eq_getElem hk] at h; exact Option.some.inj h
  rw [this, List.all_cons]

set_option maxRecDepth 100000 in
set_option maxHeartbeats 4000000 in
theorem small19_any (d : Nat) (l : List Stmt) (la : Option Addr) (lc : Nat) (w : World) (h : StmtsR d w la lc l) (hs : ∀ s ∈ l, s.small) :
    Calls Try.prog 66 #[progVal l.length la lc] w fun r w' => r = .returned (.bool (smallP l)) ∧ Below w.heap.size w w' := by
  have HL := Lib.hid h
  have HS := Lib.hid hs
  have hlen := h.len
  obtain ⟨res, hres⟩ : ∃ x, smallP l = x := ⟨_, rfl⟩
  rw [hres]
  unfold smallP at hres
  have HR : Hid (((l.drop 0).all smallS && decide (l.length ≤ 40)) = res) := Lib.hid (by simpa using hres)
  unfold progVal
  clear h hs hres
  have hz := Blk.new w 52 #[.slice la l.length lc]
  have hb0 : Below w.heap.size w (w.alloc (.cells #[.slice la l.length lc] 52)) := (Below.refl _ _).alloc (Nat.le_refl _) _
  go_enter Try.func66, Try.ntmps66
  go_wp2
  revert hz hb0
  generalize w.alloc (.cells #[.slice la l.length lc] 52) = w0
  intro hz hb0
  obtain ⟨wo, rfl⟩ : ∃ wo : World, wo = w0 := ⟨_, rfl⟩
  go_loopg [4, 8] l.length (fun g _ q wr => ∃ k : Nat, k + g = l.length ∧ q = .int .i64 k ∧ Below w.heap.size w wr ∧ Blk wr w.heap.size 52 #[.slice la l.length lc] ∧ ((l.drop k).all smallS && decide (l.length ≤ 40)) = res)
  case atStart => exact ⟨0, by omega, rfl, hb0, hz, HR.out⟩
  case round =>
    clear hz hb0
    obtain ⟨k, hkg, rfl, hwr, hzr, ha⟩ := hrel
    have HKG := Lib.hid hkg
    have HA := Lib.hid ha
    have hzl := hzr.lt
    have z0 := hzr.cell 0
    clear hkg ha
    by_cases hlt : k < l.length
    · obtain ⟨x, hx⟩ := get_of_lt hlt
      have hxs := HS.out x (List.mem_of_getElem? hx)
      obtain ⟨bx, ox, rfl, p, hC, hR⟩ := (HL.out.ext (Ext.below hwr)).2.2 k x hx
      obtain ⟨c0, c1, c2, c3, c4, c5, c6, c7, c8, c9⟩ := hC
      have CC := fun W (hW : Below wr.heap.size wr W) => count_any d x.expr p.na p.nc p.da p.dc p.aa p.ac W (hR.expr.ext (Ext.below hW)) hxs.2.1
      have hnl := hR.names.len
      have hax : (((decide (x.expr.count ≤ 300) && decide (x.names.length ≤ 40)) && (l.drop (k + 1)).all smallS) && decide (l.length ≤ 40)) = res := by
        have := HA.out
        rw [allS_at hx] at this
        exact this
      obtain ⟨n, hn⟩ : ∃ n, x.expr.count = n := ⟨_, rfl⟩
      rw [hn] at hax CC
      have HAX := Lib.hid hax
      unfold Expr.val at CC
      replace CC := Lib.hid CC
      have hxz := Blk.new wr 49 #[.int .i64 x.kind, .slice p.sa x.names.length p.sc, .int .i64 x.expr.kind, .string x.expr.name, .bool x.expr.neg, .slice p.na x.expr.num.length p.nc, .slice p.da x.expr.den.length p.dc, .slice p.aa x.expr.args.length p.ac, .int .i64 x.expr.pos, .int .i64 x.pos]
      have hbz : Below wr.heap.size wr (wr.alloc (.cells #[.int .i64 x.kind, .slice p.sa x.names.length p.sc, .int .i64 x.expr.kind, .string x.expr.name, .bool x.expr.neg, .slice p.na x.expr.num.length p.nc, .slice p.da x.expr.den.length p.dc, .slice p.aa x.expr.args.length p.ac, .int .i64 x.expr.pos, .int .i64 x.pos] 49)) := by go_grown
      clear hx hR hax hn HA hxs
      go_wp2_with fail
      revert hbz hxz
      generalize wr.alloc (.cells #[.int .i64 x.kind, .slice p.sa x.names.length p.sc, .int .i64 x.expr.kind, .string x.expr.name, .bool x.expr.neg, .slice p.na x.expr.num.length p.nc, .slice p.da x.expr.den.length p.dc, .slice p.aa x.expr.args.length p.ac, .int .i64 x.expr.pos, .int .i64 x.pos] 49) = wz
      intro hxz hbz
      refine (CC.out _ hbz).mono ?_
      rintro r w1 ⟨rfl, hb1⟩
      have hw1 := below_then hwr (below_then hbz hb1)
      have hz1 := (hzr.below' hbz).below' hb1
      have y1 := (hxz.below' hb1).cell 1
      clear c0 c1 c2 c3 c4 c5 c6 c7 c8 c9 z0 hb1 hbz hxz hzr hzl hwr
      by_cases h1 : n ≤ 300
      · have h1i : ¬ ((300 : Int) < (n : Int)) := by omega
        by_cases h2 : x.names.length ≤ 40
        · have h2i : ¬ ((40 : Int) < (x.names.length : Int)) := by omega
          have HA2 : Hid (((l.drop (k + 1)).all smallS && decide (l.length ≤ 40)) = res) := Lib.hid (by have := HAX.out; rw [decide_eq_true h1, decide_eq_true h2] at this; simpa using this)
          clear h1 h2 HAX
          go_wp2
          go_roundg (gk - 1)
          case rel => exact ⟨k + 1, by have := HKG.out; omega, by go_num, hw1, hz1, HA2.out⟩
          case measure => have := HKG.out; omega
        · have h2i : (40 : Int) < (x.names.length : Int) := by omega
          have hr : res = false := by rw [← HAX.out, decide_eq_false h2]; simp
          subst hr
          clear h1 h2 HAX
          go_wp2
          go_ret
          exact ⟨rfl, hw1⟩
      · have h1i : (300 : Int) < (n : Int) := by omega
        have hr : res = false := by rw [← HAX.out, decide_eq_false h1]; simp
        subst hr
        clear h1 HAX
        go_wp2
        go_ret
        exact ⟨rfl, hw1⟩
    · have hr : res = decide (l.length ≤ 40) := by rw [← HA.out, List.drop_eq_nil_of_le (by omega)]; rfl
      subst hr
      go_wp2
      go_ret
      exact ⟨ret_bool (by rw [Bool.eq_iff_iff]; simp; omega), hwr⟩

def rightP (l : List Stmt) : Bool := smallP l && decide (progErr l 0 l = 0)
set_option maxRecDepth 100000 in
set_option maxHeartbeats 1000000 in
theorem right19_any (d : Nat) (l : List Stmt) (la : Option Addr) (lc : Nat) (w : World) (h : StmtsR d w la lc l) (hs : ∀ s ∈ l, s.small) :
    Calls Try.prog 32 #[progVal l.length la lc] w fun r w' => r = .returned (.bool (rightP l)) ∧ Below w.heap.size w w' := by
  have CS := fun W (hW : Below w.heap.size w W) => small19_any d l la lc W (h.ext (Ext.below hW)) hs
  have CC := fun W (hW : Below w.heap.size w W) => check19_any d l la lc W (h.ext (Ext.below hW)) hs
  obtain ⟨res, hres⟩ : ∃ x, rightP l = x := ⟨_, rfl⟩
  rw [hres]
  unfold rightP at hres
  obtain ⟨bs, hbs⟩ : ∃ x, smallP l = x := ⟨_, rfl⟩
  obtain ⟨pe, hpe⟩ : ∃ x, progErr l 0 l = x := ⟨_, rfl⟩
  obtain ⟨pa, hpa⟩ : ∃ x, progAt l 0 l = x := ⟨_, rfl⟩
  rw [hbs, hpe] at hres
  rw [hbs] at CS
  rw [hpe, hpa] at CC
  have HR := Lib.hid hres
  unfold progVal at CS CC ⊢
  replace CS := Lib.hid CS; replace CC := Lib.hid CC
  clear h hs hres hbs hpe hpa
  have hz := Blk.new w 52 #[.slice la l.length lc]
  have hb0 : Below w.heap.size w (w.alloc (.cells #[.slice la l.length lc] 52)) := (Below.refl _ _).alloc (Nat.le_refl _) _
  go_enter Try.func32, Try.ntmps32
  go_wp2_with fail
  revert hz hb0
  generalize w.alloc (.cells #[.slice la l.length lc] 52) = w0
  intro hz hb0
  refine (CS.out _ hb0).mono ?_
  rintro r w1 ⟨rfl, hb1⟩
  have hw1 := below_then hb0 hb1
  have hz1 := hz.below' hb1
  have z0 := hz1.cell 0
  clear hz hb0 hb1
  cases bs
  · have hr : res = false := by rw [← HR.out]; rfl
    subst hr
    go_wp2
    go_ret
    exact ⟨rfl, hw1⟩
  · have hr : res = decide (pe = 0) := by rw [← HR.out]; rfl
    subst hr
    clear HR
    go_wp2_with fail
    refine (CC.out _ hw1).mono ?_
    rintro r w2 ⟨rfl, hb2⟩
    have hw2 := below_then hw1 hb2
    clear z0 hz1 hb2 hw1
    go_wp2
    go_ret
    exact ⟨ret_bool (by rw [Bool.eq_iff_iff]; simp), hw2⟩
end Go.Proofs.Ytmlldjcbijoheaa

/- 'l = append(l, m...)', m a row of some elements. No function of the program in sight. -/
namespace Go.Proofs.Ytmlldjcbijoheaa
open Go.RowKit
section
variable {α : Type} {f : α → List Value} {sz : Nat} {t : TypeId} {B : Nat} {w : World} {l : List α} {P : Program}
theorem wp_append_n {o : Oper} {act : Act} {K : Act → World → Prop} {Q : Exit → Act → World → Prop} (s y : Operand) (ts : TypeId)
    (ho : o.op = .call { callee := .builtin .append, args := #[s, y], argTypes := #[ts, ts] })
    {z : Value} {bytes : Nat} (ht : P.underlying ts = some (.slice t)) (hi : (P.info? t).map (fun i => (i.zero, i.size, i.bytes)) = some (some z, sz, bytes)) (hz : z.cells.size = sz) (hsz : 0 < sz) (hby : bytes ≤ 1024)
    (hf : ∀ x, (f x).length = sz) (a : Option Addr) (c : Nat) (hs : act.eval s = .slice a l.length c) (hown : Own f sz t B w a c l)
    (m : List α) (hm : m ≠ []) (hone : ∀ u ∈ m.flatMap f, u.oneCell' = true) (p : Addr) (c1 : Nat) (hy : act.eval y = .slice (some p) m.length c1) (hcell : ∀ j u, (m.flatMap f)[j]? = some u → w.cell? (p.add j) = some u)
    (l2 : List α) (hl2 : l2 = l ++ m) (hlen : l2.length ≤ 16777216) (hB : B ≤ w.heap.size)
    (h : ∀ a' c' w', Own f sz t B w' a' c' l2 → w.grownBy w' (Value.ownBlock (.slice a l.length c)) → ((∃ g, a' = some ⟨g, 0, none⟩ ∧ (a = some ⟨g, 0, none⟩ ∨ g = w.heap.size))) →
      K (act.put o.dst (.slice a' l2.length c')) w') : o.wp P act w K Q := by
  subst hl2
  obtain ⟨i, hi0, hz0, hz1, hz2⟩ := info_parts hi
  simp only [List.length_append] at hlen
  have hml : 0 < m.length := List.length_pos_iff.2 hm
  have hfl : (m.flatMap f).length = m.length * sz := by
    clear hone hcell hm hy hlen hml h
    induction m with
    | nil => simp
    | cons x m ih => simp only [List.flatMap_cons, List.length_append, List.length_cons, ih, hf, Nat.add_mul]; omega
  obtain ⟨v', w', hr, h2, h3, _, h5⟩ := run_append_own_at (P := P) w B ts o.type t i z sz bytes ht hi0 hz0 hz1 hz2 hz hsz (.slice a l.length c) l.length (l.flatMap f) hown p m.length c1 (m.flatMap f) hfl
    hcell hone (by unfold maxLen; omega)
    (by have : (l.length + m.length) * bytes ≤ 16777216 * 1024 := Nat.mul_le_mul hlen hby
        omega) hB
  unfold Oper.wp execOp
  simp only [ho, resolve, invoke, builtin, Sem.run_bind, Sem.run_pure, Result.andThen_ok, List.map_toArray, List.map_cons, List.map_nil, hs, hy, hr]
  have hf2 : (l ++ m).flatMap f = l.flatMap f ++ m.flatMap f := by simp
  have hn : (l ++ m).length = l.length + m.length := by simp
  obtain ⟨g, cap, hv, hb, hlt⟩ := h2.form (by omega)
  subst hv
  rw [← hn]
  refine h _ _ w' (by unfold Own; rw [hf2, hn]; exact h2) h3 ⟨g, rfl, ?_⟩
  rcases h5 with h5 | h5
  · left
    cases a with
    | none => simp [Value.ownBlock] at h5
    | some g' =>
      have hg' : g = g'.block := by simpa [Value.ownBlock] using h5
      rcases hown.2 with ⟨e, _⟩ | ⟨g2, _, _, e, _⟩
      · cases e
      · injection e with e1
        injection e1 with e1
        subst e1
        simp at hg'
        rw [hg']
  · right
    simpa [Value.ownBlock] using h5
/-- the empty row -/
theorem wp_append_0 {o : Oper} {act : Act} {K : Act → World → Prop} {Q : Exit → Act → World → Prop} (s y : Operand) (ts : TypeId)
    (ho : o.op = .call { callee := .builtin .append, args := #[s, y], argTypes := #[ts, ts] })
    (ht : P.underlying ts = some (.slice t)) {i : TypeInfo} (hi : P.info? t = some i)
    (a : Option Addr) (n c : Nat) (hnc : n ≤ c) (hs : act.eval s = .slice a n c) (b : Option Addr) (c1 : Nat) (hy : act.eval y = .slice b 0 c1)
    (h : K (act.put o.dst (.slice a n c)) w) : o.wp P act w K Q := by
  have hsrc : Src P i.size ts (.slice b 0 c1) 0 [] w := by
    cases b with
    | none => exact Src.ofNil w ht c1
    | some p => exact Src.ofSlice w ht p 0 c1 [] (by simp) (fun j u hu => by simp at hu) (fun u hu => by cases hu)
  have hr := run_append_nothing (P := P) w ts ts o.type t i ht hi a n c hnc _ hsrc
  unfold Oper.wp execOp
  simp only [ho, resolve, invoke, builtin, Sem.run_bind, Sem.run_pure, Result.andThen_ok, List.map_toArray, List.map_cons, List.map_nil, hs, hy, hr]
  exact h
end
/-- 'l = append(l, m...)', m a row of strings, empty or not -/
theorem append_strs {B : Nat} {w : World} {l : List ByteArray} {ops : Array Oper} {rest : List Oper} {o : Oper} {act : Act} {Q : Exit → Act → World → Prop} (hgd : o.guard = none) (s y : Operand)
    (ho : o.op = .call { callee := .builtin .append, args := #[s, y], argTypes := #[43, 43] })
    (a : Option Addr) (c : Nat) (hs : act.eval s = .slice a l.length c) (hown : OwnS B w a c l) (m : List ByteArray) (b : Option Addr) (c1 : Nat) (hy : act.eval y = .slice b m.length c1) (hm : StrsR w b c1 m)
    (l2 : List ByteArray) (hl2 : l2 = l ++ m) (hlen : l2.length ≤ 16777216) (hB : B ≤ w.heap.size)
    (h : ∀ a' c' w', OwnS B w' a' c' l2 → w.grownBy w' (Value.ownBlock (.slice a l.length c)) → wpList Try.prog ops Q rest (act.put o.dst (.slice a' l2.length c')) w') : wpList Try.prog ops Q (o :: rest) act w := by
  subst hl2
  refine wpList_plain hgd fun _ hK => ?_
  cases m with
  | nil =>
    obtain ⟨i, hi, _⟩ := info_parts infoS
    refine wp_append_0 s y 43 ho Try.underlying43 hi a l.length c hown.cap.1 hs b c1 hy ?_
    have := h a c w (by simpa using hown) (World.grownBy.refl _ _)
    simp only [List.append_nil] at this
    exact hK _ _ this
  | cons x m =>
    obtain ⟨bb, off, hb, _⟩ := hm.2.2 0 x rfl
    refine wp_append_n s y 43 ho Try.underlying43 infoS rfl (by omega) (by omega) strC_len a c hs hown (x :: m) (by simp) ?_ ⟨bb, off, none⟩ c1 (by rw [hy, hb]) ?_ _ rfl hlen hB
      fun a' c' w' h1 h2 _ => hK _ _ (h a' c' w' h1 h2)
    · intro u hu
      simp only [List.mem_flatMap] at hu
      obtain ⟨z, _, hz⟩ := hu
      exact strC_one z u hz
    · intro j u hu
      have hf : (x :: m).flatMap strC = (x :: m).map Value.string := by
        generalize (x :: m) = q
        induction q with
        | nil => rfl
        | cons y q ih => simp [strC] at ih ⊢; exact ih
      rw [hf, List.getElem?_map] at hu
      obtain ⟨z, hz, rfl⟩ := Option.map_eq_some_iff.1 hu
      obtain ⟨b2, off2, hb2, hc⟩ := hm.2.2 j z hz
      rw [hb] at hb2
      injection hb2 with e
      injection e with e1 e2
      subst e1
      subst e2
      rw [Addr.add_lit]
      simpa [StrE] using hc
end Go.Proofs.Ytmlldjcbijoheaa

/- Walk: R19.Defined. -/
namespace Go.Proofs.Ytmlldjcbijoheaa
open Go.RowKit

def namesOf (f : Int → Bool) : List Stmt → List ByteArray
  | [] => []
  | x :: r => if f (sortOf x.kind) = true then x.names ++ namesOf f r else namesOf f r
def takesR (s q : Int) : Bool := decide (q = s) || decide (s = 0)
theorem namesOf_at {f : Int → Bool} {l : List Stmt} {k : Nat} {x : Stmt} (h : l[k]? = some x) : namesOf f (l.drop k) = if f (sortOf x.kind) = true then x.names ++ namesOf f (l.drop (k + 1)) else namesOf f (l.drop (k + 1)) := by
  have hk := lt_of_get h
  rw [List.drop_eq_getElem_cons hk]
  have : l[k] = x := by rw [List.getElem?_eq_getElem hk] at h; exact Option.some.inj h
  rw [this, namesOf]
def RetS19 (l : List ByteArray) (w : World) (e : Ending) (w' : World) : Prop := ∃ a c, e = .returned (.slice a l.length c) ∧ OwnS w.heap.size w' a c l ∧ Below w.heap.size w w'

set_option maxRecDepth 100000 in
set_option maxHeartbeats 4000000 in
theorem definedR_any (d : Nat) (l : List Stmt) (s : Int) (la : Option Addr) (lc : Nat) (w : World) (h : StmtsR d w la lc l) (hlen : (namesOf (takesR s) l).length ≤ 16777216) :
    Calls Try.prog 38 #[progVal l.length la lc, .int .i64 s] w (RetS19 (namesOf (takesR s) l) w) := by
  have HL := Lib.hid h
  have hll := h.len
  obtain ⟨L, hL⟩ : ∃ x, namesOf (takesR s) l = x := ⟨_, rfl⟩
  rw [hL] at hlen ⊢
  have HR : Hid ([] ++ namesOf (takesR s) (l.drop 0) = L) := Lib.hid (by simpa using hL)
  have HLEN := Lib.hid hlen
  unfold progVal
  clear h hL hlen
  have hb0 : Below w.heap.size w (w.alloc (.cells #[.slice la l.length lc] 52)) := (Below.refl _ _).alloc (Nat.le_refl _) _
  go_enter Try.func38, Try.ntmps38
  go_wp2
  revert hb0
  generalize w.alloc (.cells #[.slice la l.length lc] 52) = w0
  intro hb0
  obtain ⟨wo, rfl⟩ : ∃ wo : World, wo = w0 := ⟨_, rfl⟩
  go_loopg [5, 7, 11] l.length (fun g r _ q wr => ∃ (k : Nat) (a : Option Addr) (c : Nat) (acc : List ByteArray), k + g = l.length ∧ q = .int .i64 k ∧ r = .slice a acc.length c ∧ OwnS w.heap.size wr a c acc ∧ Below w.heap.size w wr ∧ acc ++ namesOf (takesR s) (l.drop k) = L)
  case atStart => exact ⟨0, none, 0, [], by omega, rfl, rfl, Own.nil, hb0, HR.out⟩
  case round =>
    clear hb0
    obtain ⟨k, a, c, acc, hkg, rfl, rfl, ho, hwr, ha⟩ := hrel
    have HKG := Lib.hid hkg
    have HA := Lib.hid ha
    have HO := Lib.hid ho
    clear hkg ha ho
    by_cases hlt : k < l.length
    · obtain ⟨x, hx⟩ := get_of_lt hlt
      obtain ⟨bx, ox, rfl, p, hC, hR⟩ := (HL.out.ext (Ext.below hwr)).2.2 k x hx
      obtain ⟨c0, c1, c2, c3, c4, c5, c6, c7, c8, c9⟩ := hC
      have CS := fun W => sortOf19_any x.kind W
      have hax := HA.out
      rw [namesOf_at hx] at hax
      obtain ⟨sk, hsk⟩ : ∃ q, sortOf x.kind = q := ⟨_, rfl⟩
      rw [hsk] at hax CS
      have HAX := Lib.hid hax
      replace CS := Lib.hid CS
      have HN := Lib.hid hR.names
      have hnl := hR.names.len
      have hxz := Blk.new wr 49 #[.int .i64 x.kind, .slice p.sa x.names.length p.sc, .int .i64 x.expr.kind, .string x.expr.name, .bool x.expr.neg, .slice p.na x.expr.num.length p.nc, .slice p.da x.expr.den.length p.dc, .slice p.aa x.expr.args.length p.ac, .int .i64 x.expr.pos, .int .i64 x.pos]
      have hbz : Below wr.heap.size wr (wr.alloc (.cells #[.int .i64 x.kind, .slice p.sa x.names.length p.sc, .int .i64 x.expr.kind, .string x.expr.name, .bool x.expr.neg, .slice p.na x.expr.num.length p.nc, .slice p.da x.expr.den.length p.dc, .slice p.aa x.expr.args.length p.ac, .int .i64 x.expr.pos, .int .i64 x.pos] 49)) := by go_grown
      clear hx hR hax hsk HA
      go_wp2_with fail
      revert hbz hxz
      generalize wr.alloc (.cells #[.int .i64 x.kind, .slice p.sa x.names.length p.sc, .int .i64 x.expr.kind, .string x.expr.name, .bool x.expr.neg, .slice p.na x.expr.num.length p.nc, .slice p.da x.expr.den.length p.dc, .slice p.aa x.expr.args.length p.ac, .int .i64 x.expr.pos, .int .i64 x.pos] 49) = wz
      intro hxz hbz
      have hwz := below_then hwr hbz
      have z0 := hxz.cell 0; have z1 := hxz.cell 1
      have HOZ := Lib.hid (HO.out.below hbz)
      have HNZ := Lib.hid (HN.out.ext (Ext.below hbz))
      have hBz : w.heap.size ≤ wz.heap.size := hwz.size
      refine (CS.out _).mono ?_
      rintro r w1 ⟨rfl, rfl⟩
      clear c0 c1 c2 c3 c4 c5 c6 c7 c8 c9 HO HN hbz hxz
      by_cases h1 : sk = s
      · have hb1 : (sk == s) = true := by simpa using h1
        have HT : sk = s ∨ s = 0 := Or.inl h1
        have HTC := h1
        clear h1
        have hax2 : (acc ++ x.names) ++ namesOf (takesR s) (l.drop (k + 1)) = L := by have := HAX.out; rw [if_pos (by unfold takesR; simp [HT])] at this; rw [List.append_assoc]; exact this
        have hln : (acc ++ x.names).length ≤ 16777216 := by have := HLEN.out; rw [← hax2] at this; simp only [List.length_append] at this ⊢; omega
        have HAX2 := Lib.hid hax2
        clear HT HTC HAX hax2
        go_wp2_with (at_builtin; go_must (refine append_strs rfl (.tmp 24) (.tmp 26) rfl a c rfl HOZ.out x.names p.sa p.sc rfl HNZ.out (acc ++ x.names) rfl hln hBz ?_; intro a2 c2 w2 ho2 hg2))
        have hw2 : Below w.heap.size w w2 := below_append' hwz HOZ.out hg2
        go_roundg (gk - 1)
        case rel => exact ⟨k + 1, a2, c2, acc ++ x.names, by have := HKG.out; omega, by go_num, by rw [List.length_append], ho2, hw2, HAX2.out⟩
        case measure => have := HKG.out; omega
      · have hb1 : (sk == s) = false := by simpa using h1
        by_cases h2 : s = 0
        · have hb2 : (s == 0) = true := by simpa using h2
          have HT : sk = s ∨ s = 0 := Or.inr h2
          have HTC := h2
          clear h1 h2
          have hax2 : (acc ++ x.names) ++ namesOf (takesR s) (l.drop (k + 1)) = L := by have := HAX.out; rw [if_pos (by unfold takesR; simp [HT])] at this; rw [List.append_assoc]; exact this
          have hln : (acc ++ x.names).length ≤ 16777216 := by have := HLEN.out; rw [← hax2] at this; simp only [List.length_append] at this ⊢; omega
          have HAX2 := Lib.hid hax2
          clear HT HTC HAX hax2
          go_wp2_with (at_builtin; go_must (refine append_strs rfl (.tmp 24) (.tmp 26) rfl a c rfl HOZ.out x.names p.sa p.sc rfl HNZ.out (acc ++ x.names) rfl hln hBz ?_; intro a2 c2 w2 ho2 hg2))
          have hw2 : Below w.heap.size w w2 := below_append' hwz HOZ.out hg2
          go_roundg (gk - 1)
          case rel => exact ⟨k + 1, a2, c2, acc ++ x.names, by have := HKG.out; omega, by go_num, by rw [List.length_append], ho2, hw2, HAX2.out⟩
          case measure => have := HKG.out; omega
        · have hb2 : (s == 0) = false := by simpa using h2
          have hax2 : acc ++ namesOf (takesR s) (l.drop (k + 1)) = L := by have := HAX.out; rw [if_neg (by unfold takesR; simp [h1, h2])] at this; exact this
          have HAX2 := Lib.hid hax2
          clear h1 h2 hax2 HAX
          go_wp2
          go_roundg (gk - 1)
          case rel => exact ⟨k + 1, a, c, acc, by have := HKG.out; omega, by go_num, rfl, HOZ.out, hwz, HAX2.out⟩
          case measure => have := HKG.out; omega
    · have hr : acc = L := by rw [← HA.out, List.drop_eq_nil_of_le (by omega)]; simp [namesOf]
      subst hr
      go_wp2
      go_ret
      exact ⟨a, c, rfl, HO.out, hwr⟩
end Go.Proofs.Ytmlldjcbijoheaa

/- Walk: scope.sortOf. -/
namespace Go.Proofs.Ytmlldjcbijoheaa
open Go.RowKit

set_option maxHeartbeats 1000000 in
theorem sortOfS_any (k : Int) (w : World) : Calls Try.prog 77 #[.int .i64 k] w fun e w' => e = .returned (.int .i64 (sortOf k)) ∧ w = w' := by
  by_cases hk : 1 ≤ k ∧ k ≤ 4
  · have hc : k = 1 ∨ k = 2 ∨ k = 3 ∨ k = 4 := by omega
    clear hk
    rcases hc with rfl | rfl | rfl | rfl
    all_goals
      go_enter Try.func77, Try.ntmps77
      go_wp2
      go_ret
      exact ⟨ret_int (by decide), rfl⟩
  · have h2 := eqb_false (a := k) (b := 2) (by omega); have h3 := eqb_false (a := k) (b := 3) (by omega)
    have h4 := eqb_false (a := k) (b := 4) (by omega); have h1 := eqb_false (a := k) (b := 1) (by omega)
    have hr : sortOf k = 0 := by unfold sortOf; rw [if_neg (by omega), if_neg (by omega), if_neg (by omega)]
    rw [hr]
    clear hr hk
    go_enter Try.func77, Try.ntmps77
    go_wp2
    go_ret
    exact ⟨rfl, rfl⟩
end Go.Proofs.Ytmlldjcbijoheaa

/- Walk: scope.Defined. -/
namespace Go.Proofs.Ytmlldjcbijoheaa
open Go.RowKit

def takesS (s q : Int) : Bool := decide (q ≠ 0) && (decide (s = 0) || decide (s = q))

set_option maxRecDepth 100000 in
set_option maxHeartbeats 4000000 in
theorem definedS_any (d : Nat) (l : List Stmt) (s : Int) (la : Option Addr) (lc : Nat) (w : World) (h : StmtsR d w la lc l) (hlen : (namesOf (takesS s) l).length ≤ 16777216) :
    Calls Try.prog 37 #[progVal l.length la lc, .int .i64 s] w (RetS19 (namesOf (takesS s) l) w) := by
  have HL := Lib.hid h
  have hll := h.len
  obtain ⟨L, hL⟩ : ∃ x, namesOf (takesS s) l = x := ⟨_, rfl⟩
  rw [hL] at hlen ⊢
  have HR : Hid ([] ++ namesOf (takesS s) (l.drop 0) = L) := Lib.hid (by simpa using hL)
  have HLEN := Lib.hid hlen
  unfold progVal
  clear h hL hlen
  have hb0 : Below w.heap.size w (w.alloc (.cells #[.slice la l.length lc] 52)) := (Below.refl _ _).alloc (Nat.le_refl _) _
  go_enter Try.func37, Try.ntmps37
  go_wp2
  revert hb0
  generalize w.alloc (.cells #[.slice la l.length lc] 52) = w0
  intro hb0
  obtain ⟨wo, rfl⟩ : ∃ wo : World, wo = w0 := ⟨_, rfl⟩
  go_loopg [5, 7, 8, 12] l.length (fun g r _ _ q wr => ∃ (k : Nat) (a : Option Addr) (c : Nat) (acc : List ByteArray), k + g = l.length ∧ q = .int .i64 k ∧ r = .slice a acc.length c ∧ OwnS w.heap.size wr a c acc ∧ Below w.heap.size w wr ∧ acc ++ namesOf (takesS s) (l.drop k) = L)
  case atStart => exact ⟨0, none, 0, [], by omega, rfl, rfl, Own.nil, hb0, HR.out⟩
  case round =>
    clear hb0
    obtain ⟨k, a, c, acc, hkg, rfl, rfl, ho, hwr, ha⟩ := hrel
    have HKG := Lib.hid hkg
    have HA := Lib.hid ha
    have HO := Lib.hid ho
    clear hkg ha ho
    by_cases hlt : k < l.length
    · obtain ⟨x, hx⟩ := get_of_lt hlt
      obtain ⟨bx, ox, rfl, p, hC, hR⟩ := (HL.out.ext (Ext.below hwr)).2.2 k x hx
      obtain ⟨c0, c1, c2, c3, c4, c5, c6, c7, c8, c9⟩ := hC
      have CS := fun W => sortOfS_any x.kind W
      have hax := HA.out
      rw [namesOf_at hx] at hax
      obtain ⟨sk, hsk⟩ : ∃ q, sortOf x.kind = q := ⟨_, rfl⟩
      rw [hsk] at hax CS
      have HAX := Lib.hid hax
      replace CS := Lib.hid CS
      have HN := Lib.hid hR.names
      have hnl := hR.names.len
      have hxz := Blk.new wr 49 #[.int .i64 x.kind, .slice p.sa x.names.length p.sc, .int .i64 x.expr.kind, .string x.expr.name, .bool x.expr.neg, .slice p.na x.expr.num.length p.nc, .slice p.da x.expr.den.length p.dc, .slice p.aa x.expr.args.length p.ac, .int .i64 x.expr.pos, .int .i64 x.pos]
      have hbz : Below wr.heap.size wr (wr.alloc (.cells #[.int .i64 x.kind, .slice p.sa x.names.length p.sc, .int .i64 x.expr.kind, .string x.expr.name, .bool x.expr.neg, .slice p.na x.expr.num.length p.nc, .slice p.da x.expr.den.length p.dc, .slice p.aa x.expr.args.length p.ac, .int .i64 x.expr.pos, .int .i64 x.pos] 49)) := by go_grown
      clear hx hR hax hsk HA
      go_wp2_with fail
      revert hbz hxz
      generalize wr.alloc (.cells #[.int .i64 x.kind, .slice p.sa x.names.length p.sc, .int .i64 x.expr.kind, .string x.expr.name, .bool x.expr.neg, .slice p.na x.expr.num.length p.nc, .slice p.da x.expr.den.length p.dc, .slice p.aa x.expr.args.length p.ac, .int .i64 x.expr.pos, .int .i64 x.pos] 49) = wz
      intro hxz hbz
      have hwz := below_then hwr hbz
      have z0 := hxz.cell 0; have z1 := hxz.cell 1
      have HOZ := Lib.hid (HO.out.below hbz)
      have HNZ := Lib.hid (HN.out.ext (Ext.below hbz))
      have hBz : w.heap.size ≤ wz.heap.size := hwz.size
      refine (CS.out _).mono ?_
      rintro r w1 ⟨rfl, rfl⟩
      clear c0 c1 c2 c3 c4 c5 c6 c7 c8 c9 HO HN hbz hxz
      by_cases h0 : sk = 0
      · have hb0' : (sk != 0) = false := by simpa using h0
        have h1 : ¬ (sk ≠ 0 ∧ (s = 0 ∨ s = sk)) := by rintro ⟨h, _⟩; exact h h0
        clear h0
        have hax2 : acc ++ namesOf (takesS s) (l.drop (k + 1)) = L := by have := HAX.out; rw [if_neg (by unfold takesS; simpa using h1)] at this; exact this
        have HAX2 := Lib.hid hax2
        clear h1 hax2 HAX
        go_wp2
        go_roundg (gk - 1)
        case rel => exact ⟨k + 1, a, c, acc, by have := HKG.out; omega, by go_num, rfl, HOZ.out, hwz, HAX2.out⟩
        case measure => have := HKG.out; omega
      · have hb0' : (sk != 0) = true := by simpa using h0
        by_cases hs : s = 0
        · have hb1 : (s == 0) = true := by simpa using hs
          have HT : sk ≠ 0 ∧ (s = 0 ∨ s = sk) := ⟨h0, Or.inl hs⟩
          replace HT := Lib.hid HT
          clear h0 hs
          have hax2 : (acc ++ x.names) ++ namesOf (takesS s) (l.drop (k + 1)) = L := by have := HAX.out; rw [if_pos (by unfold takesS; simpa using HT.out)] at this; rw [List.append_assoc]; exact this
          have hln : (acc ++ x.names).length ≤ 16777216 := by have := HLEN.out; rw [← hax2] at this; simp only [List.length_append] at this ⊢; omega
          have HAX2 := Lib.hid hax2
          clear HT HAX hax2
          go_wp2_with (at_builtin; go_must (refine append_strs rfl (.tmp 30) (.tmp 32) rfl a c rfl HOZ.out x.names p.sa p.sc rfl HNZ.out (acc ++ x.names) rfl hln hBz ?_; intro a2 c2 w2 ho2 hg2))
          have hw2 : Below w.heap.size w w2 := below_append' hwz HOZ.out hg2
          go_roundg (gk - 1)
          case rel => exact ⟨k + 1, a2, c2, acc ++ x.names, by have := HKG.out; omega, by go_num, by rw [List.length_append], ho2, hw2, HAX2.out⟩
          case measure => have := HKG.out; omega
        · have hb1 : (s == 0) = false := by simpa using hs
          by_cases h2 : s = sk
          · have hb2 : (s == sk) = true := by simpa using h2
            have HT : sk ≠ 0 ∧ (s = 0 ∨ s = sk) := ⟨h0, Or.inr h2⟩
            replace HT := Lib.hid HT
            clear h0 hs h2
            have hax2 : (acc ++ x.names) ++ namesOf (takesS s) (l.drop (k + 1)) = L := by have := HAX.out; rw [if_pos (by unfold takesS; simpa using HT.out)] at this; rw [List.append_assoc]; exact this
            have hln : (acc ++ x.names).length ≤ 16777216 := by have := HLEN.out; rw [← hax2] at this; simp only [List.length_append] at this ⊢; omega
            have HAX2 := Lib.hid hax2
            clear HT HAX hax2
            go_wp2_with (at_builtin; go_must (refine append_strs rfl (.tmp 30) (.tmp 32) rfl a c rfl HOZ.out x.names p.sa p.sc rfl HNZ.out (acc ++ x.names) rfl hln hBz ?_; intro a2 c2 w2 ho2 hg2))
            have hw2 : Below w.heap.size w w2 := below_append' hwz HOZ.out hg2
            go_roundg (gk - 1)
            case rel => exact ⟨k + 1, a2, c2, acc ++ x.names, by have := HKG.out; omega, by go_num, by rw [List.length_append], ho2, hw2, HAX2.out⟩
            case measure => have := HKG.out; omega
          · have hb2 : (s == sk) = false := by simpa using h2
            have h1 : ¬ (sk ≠ 0 ∧ (s = 0 ∨ s = sk)) := by rintro ⟨_, h | h⟩; exact hs h; exact h2 h
            clear h0 hs h2
            have hax2 : acc ++ namesOf (takesS s) (l.drop (k + 1)) = L := by have := HAX.out; rw [if_neg (by unfold takesS; simpa using h1)] at this; exact this
            have HAX2 := Lib.hid hax2
            clear h1 hax2 HAX
            go_wp2
            go_roundg (gk - 1)
            case rel => exact ⟨k + 1, a, c, acc, by have := HKG.out; omega, by go_num, rfl, HOZ.out, hwz, HAX2.out⟩
            case measure => have := HKG.out; omega
    · have hr : acc = L := by rw [← HA.out, List.drop_eq_nil_of_le (by omega)]; simp [namesOf]
      subst hr
      go_wp2
      go_ret
      exact ⟨a, c, rfl, HO.out, hwr⟩
end Go.Proofs.Ytmlldjcbijoheaa

/- A name is replaced in an expression and in a program. No walk. -/
namespace Go.Proofs.Ytmlldjcbijoheaa
open Go.RowKit

def other (n f t : ByteArray) : ByteArray := if n = f then t else n
mutual
def Expr.renamed (f t : ByteArray) : Expr → Expr
  | .mk k n b nu de xs p => .mk k (if k = 1 ∧ n = f then t else n) b nu de (Expr.renameds f t xs) p
def Expr.renameds (f t : ByteArray) : List Expr → List Expr
  | [] => []
  | x :: l => x.renamed f t :: Expr.renameds f t l
end
theorem renameds_eq (f t : ByteArray) (l : List Expr) : Expr.renameds f t l = l.map (·.renamed f t) := by induction l with
  | nil => rfl
  | cons x l ih => simp [Expr.renameds, ih]
theorem renameds_length (f t : ByteArray) (l : List Expr) : (Expr.renameds f t l).length = l.length := by rw [renameds_eq, List.length_map]
theorem Expr.renamed_eq (e : Expr) (f t : ByteArray) : e.renamed f t = .mk e.kind (if e.kind = 1 ∧ e.name = f then t else e.name) e.neg e.num e.den (Expr.renameds f t e.args) e.pos := by cases e; rfl
mutual
theorem count_renamed (f t : ByteArray) : ∀ e : Expr, (e.renamed f t).count = e.count
  | .mk k n b nu de xs p => by simp [Expr.renamed, Expr.count, counts_renameds f t xs]
theorem counts_renameds (f t : ByteArray) : ∀ l : List Expr, Expr.counts (Expr.renameds f t l) = Expr.counts l
  | [] => rfl
  | x :: l => by simp [Expr.renameds, Expr.counts, count_renamed f t x, counts_renameds f t l]
end
/-- nothing is replaced in an expression that is no name and has no arguments -/
theorem renamed_none {e : Expr} {f t : ByteArray} (h : e.kind ≠ 1) (ha : e.args.length = 0) : e.renamed f t = e := by
  cases e with
  | mk k n b nu de xs p =>
    have hx : xs = [] := List.length_eq_zero_iff.1 ha
    subst hx
    have hk : ¬ (k = 1 ∧ n = f) := fun e => h e.1
    simp only [Expr.renamed, Expr.renameds]
    rw [if_neg hk]
def Stmt.renamed (s : Stmt) (f t : ByteArray) : Stmt := ⟨s.kind, s.names.map (other · f t), s.expr.renamed f t, s.pos⟩
/-- as the program does it -/
def Stmt.renamedS (s : Stmt) (f t : ByteArray) : Stmt := ⟨s.kind, s.names.map (other · f t), if s.kind = 1 then s.expr else s.expr.renamed f t, s.pos⟩
theorem renamedS_eq {s : Stmt} {f t : ByteArray} (h : s.err = 0) : s.renamedS f t = s.renamed f t := by
  unfold Stmt.renamedS Stmt.renamed
  by_cases hk : s.kind = 1
  · rw [if_pos hk]
    have hm : s.expr.emptyB = true := by
      unfold Stmt.err at h
      repeat' split at h
      all_goals first | omega | skip
      all_goals simp_all
    simp only [Expr.emptyB, Bool.and_eq_true, decide_eq_true_eq] at hm
    rw [renamed_none (by omega) hm.2]
  · rw [if_neg hk]
/-- the error of a renaming: 0 for none -/
def renErr (all : List ByteArray) (f t : ByteArray) : Int := if hasName all f = false then 6 else if isNameB t = false then 1 else if t ≠ f ∧ hasName all t = true then 7 else 0

/-! ### The names of a right program -/
theorem namesOf_same {s : Int} {l : List Stmt} (h : ∀ x ∈ l, sortOf x.kind = 0 → x.names = []) : namesOf (takesS s) l = namesOf (takesR s) l := by
  induction l with
  | nil => rfl
  | cons x l ih =>
    have ih := ih fun y hy => h y (List.mem_cons_of_mem _ hy)
    have hx := h x (List.mem_cons_self ..)
    unfold namesOf
    rw [ih]
    by_cases h0 : sortOf x.kind = 0
    · rw [hx h0]; simp
    · congr 1
      rw [eq_iff_iff]
      unfold takesS takesR
      simp [h0]
      constructor
      · rintro (h | h); exact .inr h; exact .inl h.symm
      · rintro (h | h); exact .inr h.symm; exact .inl h
theorem progErr_mem {p : List Stmt} : ∀ {r : List Stmt} {i : Nat} {x : Stmt}, progErr p i r = 0 → x ∈ r → x.err = 0
  | [], _, _, _, h => by cases h
  | s :: r, i, x, h, hx => by
    rw [progErr] at h
    split at h
    · rename_i hn; exact absurd h hn
    · rename_i hn
      rcases List.mem_cons.1 hx with rfl | hx
      · have hb : x.behind (p.take i) = 0 := by simpa using hn
        unfold Stmt.behind at hb
        split at hb
        · rename_i he; exact absurd hb he
        · rename_i he; simpa using he
      · exact progErr_mem h hx
theorem err_names {s : Stmt} (h : s.err = 0) (h0 : sortOf s.kind = 0) : s.names = [] := by
  have hk : s.kind = 5 ∨ s.kind < 1 ∨ 5 < s.kind := by
    unfold sortOf at h0
    repeat' split at h0
    all_goals omega
  unfold Stmt.err at h
  repeat' split at h
  all_goals first | omega | skip
  all_goals
    rename_i h1 h2 h3 _
    refine List.length_eq_zero_iff.1 ?_
    by_cases hl : s.names.length = 0
    · exact hl
    · exfalso; omega
theorem rightP_err {l : List Stmt} (h : rightP l = true) {x : Stmt} (hx : x ∈ l) : x.err = 0 := by
  unfold rightP at h
  simp only [Bool.and_eq_true, decide_eq_true_eq] at h
  exact progErr_mem h.2 hx
theorem rightP_names {l : List Stmt} (h : rightP l = true) (s : Int) : namesOf (takesS s) l = namesOf (takesR s) l :=
  namesOf_same fun _ hx h0 => err_names (rightP_err h hx) h0
theorem rightP_small {l : List Stmt} (h : rightP l = true) : l.length ≤ 40 ∧ ∀ x ∈ l, x.expr.count ≤ 300 ∧ x.names.length ≤ 40 := by
  unfold rightP smallP at h
  simp only [Bool.and_eq_true, decide_eq_true_eq, List.all_eq_true, smallS] at h
  exact ⟨h.1.2, fun x hx => h.1.1 x hx⟩
theorem namesOf_length {g : Int → Bool} {l : List Stmt} (h : ∀ x ∈ l, x.names.length ≤ 40) : (namesOf g l).length ≤ 40 * l.length := by
  induction l with
  | nil => simp [namesOf]
  | cons x l ih =>
    have h1 := ih fun y hy => h y (List.mem_cons_of_mem _ hy)
    have h2 := h x (List.mem_cons_self ..)
    unfold namesOf
    split <;> simp <;> omega
theorem renamedS_all {l : List Stmt} (h : rightP l = true) (f t : ByteArray) : l.map (·.renamedS f t) = l.map (·.renamed f t) :=
  List.map_congr_left fun x hx => renamedS_eq (rightP_err h hx)
end Go.Proofs.Ytmlldjcbijoheaa

/- Slices of expressions that a call makes itself. -/
namespace Go.Proofs.Ytmlldjcbijoheaa
open Go.RowKit

/-- an expression with the addresses of its slices -/
structure XP where
  e : Expr
  na : Option Addr
  nc : Nat
  da : Option Addr
  dc : Nat
  aa : Option Addr
  ac : Nat
def XP.val (p : XP) : Value := p.e.val p.na p.nc p.da p.dc p.aa p.ac
def XP.R (d : Nat) (w : World) (p : XP) : Prop := ExprR d w p.na p.nc p.da p.dc p.aa p.ac p.e
def exprC (p : XP) : List Value := [.int .i64 p.e.kind, .string p.e.name, .bool p.e.neg, .slice p.na p.e.num.length p.nc, .slice p.da p.e.den.length p.dc, .slice p.aa p.e.args.length p.ac, .int .i64 p.e.pos]
theorem exprC_len (p : XP) : (exprC p).length = 7 := rfl
theorem exprC_one (p : XP) : ∀ u ∈ exprC p, u.oneCell' = true := by simp [exprC, Value.oneCell']
abbrev OwnX (B : Nat) (w : World) (a : Option Addr) (c : Nat) (l : List XP) : Prop := Own exprC 7 40 B w a c l
theorem infoX : (Try.prog.info? 40).map (fun i => (i.zero, i.size, i.bytes)) = some (some (.agg #[.int .i64 0, .string ⟨#[]⟩, .bool false, .slice none 0 0, .slice none 0 0, .slice none 0 0, .int .i64 0]), 7, 112) := by kernel_rfl
theorem exprC_cells {w : World} {b o : Nat} {p : XP} (h : ∀ j u, (exprC p)[j]? = some u → w.cell? ⟨b, o + j, none⟩ = some u) : ExprC w b o p.na p.nc p.da p.dc p.aa p.ac p.e :=
  ⟨by simpa using h 0 _ rfl, h 1 _ rfl, h 2 _ rfl, h 3 _ rfl, h 4 _ rfl, h 5 _ rfl, h 6 _ rfl⟩
theorem OwnX.readsX {B : Nat} {w : World} {a : Option Addr} {c d : Nat} {l : List XP} (h : OwnX B w a c l) (hr : ∀ p ∈ l, p.R d w) : SlR 7 (ExprE d) w a c (l.map XP.e) :=
  Own.readsM XP.e exprC_len h fun _b _o p hp hc => ⟨p.na, p.nc, p.da, p.dc, p.aa, p.ac, exprC_cells hc, hr p hp⟩
/-- 'l = append(l, x)', x an expression: an operation -/
theorem wp_append_expr {B : Nat} {w : World} {l : List XP} {o : Oper} {act : Act} {K : Act → World → Prop} {Q : Exit → Act → World → Prop} (s y : Operand)
    (ho : o.op = .call { callee := .builtin .append, args := #[s, y], argTypes := #[38, 38] })
    (a : Option Addr) (c : Nat) (hs : act.eval s = .slice a l.length c) (hown : OwnX B w a c l)
    (x : XP) (b c1 : Nat) (hy : act.eval y = .slice (some ⟨b, 0, none⟩) 1 c1) (hcell : ∀ j u, (exprC x)[j]? = some u → w.cell? ⟨b, j, none⟩ = some u)
    (l2 : List XP) (hl2 : l2 = l ++ [x]) (hlen : l2.length ≤ 16777216) (hB : B ≤ w.heap.size)
    (h : ∀ a' c' w', OwnX B w' a' c' l2 → w.grownBy w' (Value.ownBlock (.slice a l.length c)) → ((∃ g, a' = some ⟨g, 0, none⟩ ∧ (a = some ⟨g, 0, none⟩ ∨ g = w.heap.size))) →
      K (act.put o.dst (.slice a' l2.length c')) w') : o.wp Try.prog act w K Q :=
  wp_append_1 s y 38 ho Try.underlying38 infoX rfl (by omega) (by omega) exprC_len a c hs hown x (exprC_one x) b c1 hy hcell l2 hl2 hlen hB h
theorem OwnX.readsIn {B : Nat} {w V : World} {a : Option Addr} {c d : Nat} {l : List XP} (h : OwnX B w a c l) (hV : New B w V) (hr : ∀ p ∈ l, p.R d V) : SlR 7 (ExprE d) V a c (l.map XP.e) :=
  Own.readsIn XP.e exprC_len h hV fun _b _o p hp hc => ⟨p.na, p.nc, p.da, p.dc, p.aa, p.ac, exprC_cells hc, hr p hp⟩
/-- what a call gives that makes an expression out of what is read in W0 -/
def RetX (W0 w : World) (d : Nat) (e : Expr) (r : Ending) (w' : World) : Prop :=
  ∃ p : XP, r = .returned p.val ∧ p.e = e ∧ Below w.heap.size w w' ∧ ∀ V, Ext W0 V → New w.heap.size w' V → p.R d V
end Go.Proofs.Ytmlldjcbijoheaa
