/- A world in which only one block that was there may have turned. No function of the program in sight. -/
import Derived.Test.YtmlldjcbijoheaaKs12
import Derived.Test.YtmlldjcbijoheaaKs13
import Derived.Deep.CutRange
import Derived.Test.YtmlldjcbijoheaaKs2
import Derived.Test.YtmlldjcbijoheaaKs1
import Derived.Maps.OwnSet
import Derived.Maps.OwnOps
import Derived.StringKeys
import Derived.ChangeMaps5
import Derived.Maps.Range
import Derived.Maps.AppendAt

/- Walks: the names that a statement uses, and the statements that use a name, by the program and by the reference. -/
namespace Go.Proofs.Ytmlldjcbijoheaa
open Go.RowKit


/-- the names that a statement uses, as the program has them, and as the reference has them -/
def usedS (s : Stmt) : List ByteArray := if s.kind = 1 then [] else s.expr.names
def RetI19 (l : List Int) (w : World) (e : Ending) (w' : World) : Prop := ∃ a c, e = .returned (.slice a l.length c) ∧ OwnI w.heap.size w' a c l ∧ Below w.heap.size w w'
def usedR (s : Stmt) : List ByteArray := s.expr.names
/-- the numbers of the statements that use a name, from the number i on -/
def usesL (g : Stmt → List ByteArray) (n : ByteArray) : Nat → List Stmt → List Int
  | _, [] => []
  | i, s :: r => if hasName (g s) n = true then (i : Int) :: usesL g n (i + 1) r else usesL g n (i + 1) r
theorem usesL_at {g : Stmt → List ByteArray} {n : ByteArray} {l : List Stmt} {k : Nat} {x : Stmt} (h : l[k]? = some x) : usesL g n k (l.drop k) = if hasName (g x) n = true then (k : Int) :: usesL g n (k + 1) (l.drop (k + 1)) else usesL g n (k + 1) (l.drop (k + 1)) := by
  have hk := lt_of_get h
  rw [List.drop_eq_getElem_cons hk]
  have : l[k] = x := by rw [List.getElem?_eq_getElem hk] at h; exact Option.some.inj h
  rw [this, usesL]
theorem usesL_len (g : Stmt → List ByteArray) (n : ByteArray) : ∀ (l : List Stmt) (i : Nat), (usesL g n i l).length ≤ l.length
  | [], i => by simp [usesL]
  | s :: r, i => by
    have := usesL_len g n r (i + 1)
    unfold usesL
    split <;> simp <;> omega
theorem usesL_in (g : Stmt → List ByteArray) (n : ByteArray) : ∀ (l : List Stmt) (i : Nat), i + l.length ≤ 1000000 → ∀ x ∈ usesL g n i l, InInt x
  | [], i, _, x, hx => by cases hx
  | s :: r, i, h, x, hx => by
    simp only [List.length_cons] at h
    unfold usesL at hx
    split at hx
    · rcases List.mem_cons.1 hx with rfl | hx
      · constructor <;> omega
      · exact usesL_in g n r (i + 1) (by omega) x hx
    · exact usesL_in g n r (i + 1) (by omega) x hx

set_option maxHeartbeats 400000 in
theorem sameStrings19_any (l : List ByteArray) (a a' : Option Addr) (c c' : Nat) (w : World) (h : StrsR w a c l) (h' : StrsR w a' c' l) :
    Calls Try.prog 36 #[.slice a l.length c, .slice a' l.length c'] w fun r w' => r = .returned (.bool true) ∧ Below w.heap.size w w' := by
  have H := Lib.hid h
  have H' := Lib.hid h'
  have hl := h.len
  clear h h'
  go_enter Try.func36, Try.ntmps36
  go_wp2
  go_loopw [13] (fun i wr => ∃ k : Nat, k ≤ l.length ∧ i = .int .i64 k ∧ Below w.heap.size w wr) (fun i _ => l.length - (intOf i).toNat)
  case atStart => exact ⟨0, by omega, rfl, Below.refl _ _⟩
  case round =>
    obtain ⟨k, hk, rfl, hb⟩ := hrel
    by_cases hlt : k < l.length
    · obtain ⟨x, hx⟩ := get_of_lt hlt
      obtain ⟨b, off, rfl, hE⟩ := H.out.2.2 k x hx
      obtain ⟨b', off', rfl, hE'⟩ := H'.out.2.2 k x hx
      have hc : wr.cell? ⟨b, off + k, none⟩ = some (.string x) := by have := hE.ext (Ext.below hb); simpa [StrE] using this
      have hc' : wr.cell? ⟨b', off' + k, none⟩ = some (.string x) := by have := hE'.ext (Ext.below hb); simpa [StrE] using this
      clear hx hE hE'
      go_wp2
      go_quiet (fail)
      go_wp2
      exact ⟨⟨k + 1, by omega, by go_num, below_drewN hb _⟩, by simp [intOf]; omega⟩
    · go_wp2
      go_ret
      exact ⟨rfl, hb⟩

set_option maxHeartbeats 400000 in
theorem sameInts19_eq (xs : List Int) (a a' : Option Addr) (c c' : Nat) (w : World) (h : IntsR w a c xs) (h' : IntsR w a' c' xs) :
    Calls Try.prog 41 #[.slice a xs.length c, .slice a' xs.length c'] w fun r w' => r = .returned (.bool true) ∧ Below w.heap.size w w' := by
  have H := Lib.hid h
  have H' := Lib.hid h'
  have hl := h.len
  clear h h'
  go_enter Try.func41, Try.ntmps41
  go_wp2
  go_loopw [5, 13] (fun _ i wr => ∃ k : Nat, k ≤ xs.length ∧ i = .int .i64 k ∧ Below w.heap.size w wr) (fun _ i _ => xs.length - (intOf i).toNat)
  case atStart => exact ⟨0, by omega, rfl, Below.refl _ _⟩
  case round =>
    obtain ⟨k, hk, rfl, hb⟩ := hrel
    by_cases hlt : k < xs.length
    · obtain ⟨x, hx⟩ := get_of_lt hlt
      obtain ⟨b, off, rfl, hE⟩ := H.out.2.2 k x hx
      obtain ⟨b', off', rfl, hE'⟩ := H'.out.2.2 k x hx
      have hc : wr.cell? ⟨b, off + k, none⟩ = some (.int .i64 x) := by have := (hE.ext (Ext.below hb)).1; simpa using this
      have hc' : wr.cell? ⟨b', off' + k, none⟩ = some (.int .i64 x) := by have := (hE'.ext (Ext.below hb)).1; simpa using this
      clear hx hE hE'
      go_wp2
      go_quiet (fail)
      go_wp2
      refine ⟨⟨k + 1, by omega, by go_num, below_drewN hb _⟩, by simp [intOf]; omega⟩
    · go_wp2
      go_ret
      exact ⟨rfl, hb⟩


set_option maxRecDepth 100000 in
set_option maxHeartbeats 1000000 in
theorem used_any (d : Nat) (s : Stmt) (p : SA) (w : World) (h : StmtR d w p s) (hc : s.expr.count ≤ 1048576) :
    Calls Try.prog 79 #[s.val p] w (RetS19 (usedS s) w) := by
  have CN := fun W (hW : Below w.heap.size w W) => names_any d s.expr p.na p.nc p.da p.dc p.aa p.ac W (h.expr.ext (Ext.below hW)) hc
  obtain ⟨L, hL⟩ : ∃ q, usedS s = q := ⟨_, rfl⟩
  rw [hL]
  unfold Expr.val at CN
  unfold Stmt.val
  have hb0 : Below w.heap.size w (w.alloc (.cells #[.int .i64 s.kind, .slice p.sa s.names.length p.sc, .int .i64 s.expr.kind, .string s.expr.name, .bool s.expr.neg, .slice p.na s.expr.num.length p.nc, .slice p.da s.expr.den.length p.dc, .slice p.aa s.expr.args.length p.ac, .int .i64 s.expr.pos, .int .i64 s.pos] 49)) := by go_grown
  by_cases hk : s.kind = 1
  · have hkb : (s.kind == 1) = true := by simpa using hk
    have hLn : L = [] := by rw [← hL]; unfold usedS; rw [if_pos hk]
    subst hLn
    clear hk hL CN h
    go_enter Try.func79, Try.ntmps79
    go_wp2_with fail
    go_ret
    exact ⟨none, 0, rfl, Own.nil, hb0⟩
  · have hkb : (s.kind == 1) = false := by simpa using hk
    have hLn : s.expr.names = L := by rw [← hL]; unfold usedS; rw [if_neg hk]
    rw [hLn] at CN
    replace CN := Lib.hid CN
    clear hk hL h
    go_enter Try.func79, Try.ntmps79
    go_wp2_with fail
    refine (CN.out _ hb0).mono ?_
    rintro r w1 ⟨a, c, rfl, ho, hb⟩
    go_wp2_with fail
    go_ret
    exact ⟨a, c, rfl, ho.base hb0.size, below_then hb0 hb⟩

set_option maxRecDepth 100000 in
set_option maxHeartbeats 4000000 in
theorem usesS_any (d : Nat) (l : List Stmt) (n : ByteArray) (la : Option Addr) (lc : Nat) (w : World) (h : StmtsR d w la lc l) (hl : l.length ≤ 40) (hc : ∀ s ∈ l, s.expr.count ≤ 1048576) :
    Calls Try.prog 42 #[progVal l.length la lc, .string n] w (RetI19 (usesL usedS n 0 l) w) := by
  have HL := Lib.hid h
  have HC := Lib.hid hc
  obtain ⟨L, hL⟩ : ∃ x, usesL usedS n 0 l = x := ⟨_, rfl⟩
  rw [hL]
  have hlen := usesL_len usedS n l 0
  rw [hL] at hlen
  have HLEN := Lib.hid hlen
  have HR : Hid ([] ++ usesL usedS n 0 (l.drop 0) = L) := Lib.hid (by simpa using hL)
  unfold progVal
  clear h hc hL hlen
  have hb0 : Below w.heap.size w (w.alloc (.cells #[.slice la l.length lc] 52)) := by go_grown
  go_enter Try.func42, Try.ntmps42
  go_wp2
  revert hb0
  generalize w.alloc (.cells #[.slice la l.length lc] 52) = w0
  intro hb0
  go_loopg [5, 11] l.length (fun g r q wr => ∃ (k : Nat) (a : Option Addr) (c : Nat) (acc : List Int), k + g = l.length ∧ q = .int .i64 k ∧ r = .slice a acc.length c ∧ OwnI w.heap.size wr a c acc ∧ Below w.heap.size w wr ∧ acc ++ usesL usedS n k (l.drop k) = L)
  case atStart => exact ⟨0, none, 0, [], by omega, rfl, rfl, Own.nil, hb0, HR.out⟩
  case round =>
    clear hb0
    obtain ⟨k, a, c, acc, hkg, rfl, rfl, ho, hwr, ha⟩ := hrel
    have HKG := Lib.hid hkg
    have HA := Lib.hid ha
    have HO := Lib.hid ho
    clear hkg ha ho
    by_cases hlt : k < l.length
    · obtain ⟨x, hx⟩ := get_of_lt hlt
      obtain ⟨bx, ox, rfl, p, hC, hR⟩ := (HL.out.ext (Ext.below hwr)).2.2 k x hx
      obtain ⟨c0, c1, c2, c3, c4, c5, c6, c7, c8, c9⟩ := hC
      have hax := HA.out
      rw [usesL_at hx] at hax
      have hxc := HC.out x (List.mem_of_getElem? hx)
      have CU := fun W (hW : Below wr.heap.size wr W) => used_any d x p W (hR.ext (Ext.below hW)) hxc
      have hbz : Below wr.heap.size wr (wr.alloc (.cells #[.int .i64 x.kind, .slice p.sa x.names.length p.sc, .int .i64 x.expr.kind, .string x.expr.name, .bool x.expr.neg, .slice p.na x.expr.num.length p.nc, .slice p.da x.expr.den.length p.dc, .slice p.aa x.expr.args.length p.ac, .int .i64 x.expr.pos, .int .i64 x.pos] 49)) := by go_grown
      obtain ⟨N, hN⟩ : ∃ q, usedS x = q := ⟨_, rfl⟩
      rw [hN] at CU hax
      obtain ⟨b, hb⟩ : ∃ q, hasName N n = q := ⟨_, rfl⟩
      rw [hb] at hax
      unfold Stmt.val at CU
      have HAX := Lib.hid hax
      replace CU := Lib.hid CU
      have HB := Lib.hid hb
      clear hx hR hax hN hb HA
      go_wp2_with fail
      revert hbz
      generalize wr.alloc (.cells #[.int .i64 x.kind, .slice p.sa x.names.length p.sc, .int .i64 x.expr.kind, .string x.expr.name, .bool x.expr.neg, .slice p.na x.expr.num.length p.nc, .slice p.da x.expr.den.length p.dc, .slice p.aa x.expr.args.length p.ac, .int .i64 x.expr.pos, .int .i64 x.pos] 49) = wz
      intro hbz
      refine (CU.out _ hbz).mono ?_
      rintro r w1 ⟨a1, c1', rfl, ho1, hb1⟩
      have hw1 := below_then hwr (below_then hbz hb1)
      have HO1 := Lib.hid (HO.out.below (below_then hbz hb1))
      have CH := containsS_any N n a1 c1' w1 ho1.reads1
      rw [HB.out] at CH
      replace CH := Lib.hid CH
      have hs1 := hw1.size
      clear c0 c1 c2 c3 c4 c5 c6 c7 c8 c9 HO CU hbz hb1 ho1
      go_wp2_with fail
      refine CH.out.mono ?_
      rintro r w2 ⟨rfl, rfl⟩
      cases b
      · have HAX2 : Hid (acc ++ usesL usedS n (k + 1) (l.drop (k + 1)) = L) := Lib.hid (by simpa using HAX.out)
        clear HAX
        go_wp2
        go_roundg (gk - 1)
        case rel => exact ⟨k + 1, a, c, acc, by have := HKG.out; omega, by go_num, rfl, HO1.out, hw1, HAX2.out⟩
        case measure => have := HKG.out; omega
      · have HAX2 : Hid ((acc ++ [(k : Int)]) ++ usesL usedS n (k + 1) (l.drop (k + 1)) = L) := Lib.hid (by rw [List.append_assoc]; simpa using HAX.out)
        have hln : (acc ++ [(k : Int)]).length ≤ 16777216 := by have h1 := HLEN.out; rw [← HAX2.out] at h1; simp only [List.length_append] at h1 ⊢; omega
        clear HAX
        go_wp2_with (at_builtin; go_must (refine append_int rfl (.tmp 20) (.tmp 22) rfl a c rfl (HO1.out.alloc _) (k : Int) w1.heap.size 1 rfl (by simp) (acc ++ [(k : Int)]) rfl hln (by simp; omega) ?_); intro a2 c2 w2 ho2 hg2 hx2)
        go_roundg (gk - 1)
        case rel => exact ⟨k + 1, a2, c2, acc ++ [(k : Int)], by have := HKG.out; omega, by go_num, by simp, ho2, below_append' (hw1.alloc hs1 _) (HO1.out.alloc _) hg2, HAX2.out⟩
        case measure => have := HKG.out; omega
    · have hr : acc = L := by rw [← HA.out, List.drop_eq_nil_of_le (by omega)]; simp [usesL]
      subst hr
      go_wp2
      go_ret
      exact ⟨a, c, rfl, HO.out, hwr⟩

set_option maxRecDepth 100000 in
set_option maxHeartbeats 4000000 in
theorem usesR_any (d : Nat) (l : List Stmt) (n : ByteArray) (la : Option Addr) (lc : Nat) (w : World) (h : StmtsR d w la lc l) (hl : l.length ≤ 40) (hc : ∀ s ∈ l, s.expr.count ≤ 1048576) :
    Calls Try.prog 43 #[progVal l.length la lc, .string n] w (RetI19 (usesL usedR n 0 l) w) := by
  have HL := Lib.hid h
  have HC := Lib.hid hc
  obtain ⟨L, hL⟩ : ∃ x, usesL usedR n 0 l = x := ⟨_, rfl⟩
  rw [hL]
  have hlen := usesL_len usedR n l 0
  rw [hL] at hlen
  have HLEN := Lib.hid hlen
  have HR : Hid ([] ++ usesL usedR n 0 (l.drop 0) = L) := Lib.hid (by simpa using hL)
  unfold progVal
  clear h hc hL hlen
  have hb0 : Below w.heap.size w (w.alloc (.cells #[.slice la l.length lc] 52)) := by go_grown
  go_enter Try.func43, Try.ntmps43
  go_wp2
  revert hb0
  generalize w.alloc (.cells #[.slice la l.length lc] 52) = w0
  intro hb0
  go_loopg [5, 11] l.length (fun g r q wr => ∃ (k : Nat) (a : Option Addr) (c : Nat) (acc : List Int), k + g = l.length ∧ q = .int .i64 k ∧ r = .slice a acc.length c ∧ OwnI w.heap.size wr a c acc ∧ Below w.heap.size w wr ∧ acc ++ usesL usedR n k (l.drop k) = L)
  case atStart => exact ⟨0, none, 0, [], by omega, rfl, rfl, Own.nil, hb0, HR.out⟩
  case round =>
    clear hb0
    obtain ⟨k, a, c, acc, hkg, rfl, rfl, ho, hwr, ha⟩ := hrel
    have HKG := Lib.hid hkg
    have HA := Lib.hid ha
    have HO := Lib.hid ho
    clear hkg ha ho
    by_cases hlt : k < l.length
    · obtain ⟨x, hx⟩ := get_of_lt hlt
      obtain ⟨bx, ox, rfl, p, hC, hR⟩ := (HL.out.ext (Ext.below hwr)).2.2 k x hx
      obtain ⟨c0, c1, c2, c3, c4, c5, c6, c7, c8, c9⟩ := hC
      have hax := HA.out
      rw [usesL_at hx] at hax
      have hxc := HC.out x (List.mem_of_getElem? hx)
      have CU := fun W (hW : Below wr.heap.size wr W) => (show Calls Try.prog 18 #[x.expr.val p.na p.nc p.da p.dc p.aa p.ac] W (RetOwnS W (usedR x)) from namesR_any d x.expr p.na p.nc p.da p.dc p.aa p.ac W (hR.expr.ext (Ext.below hW)) hxc)
      have hbz : Below wr.heap.size wr (wr.alloc (.cells #[.int .i64 x.kind, .slice p.sa x.names.length p.sc, .int .i64 x.expr.kind, .string x.expr.name, .bool x.expr.neg, .slice p.na x.expr.num.length p.nc, .slice p.da x.expr.den.length p.dc, .slice p.aa x.expr.args.length p.ac, .int .i64 x.expr.pos, .int .i64 x.pos] 49)) := by go_grown
      obtain ⟨N, hN⟩ : ∃ q, usedR x = q := ⟨_, rfl⟩
      rw [hN] at CU hax
      obtain ⟨b, hb⟩ : ∃ q, hasName N n = q := ⟨_, rfl⟩
      rw [hb] at hax
      unfold Expr.val at CU
      have HAX := Lib.hid hax
      replace CU := Lib.hid CU
      have HB := Lib.hid hb
      clear hx hR hax hN hb HA
      go_wp2_with fail
      revert hbz
      generalize wr.alloc (.cells #[.int .i64 x.kind, .slice p.sa x.names.length p.sc, .int .i64 x.expr.kind, .string x.expr.name, .bool x.expr.neg, .slice p.na x.expr.num.length p.nc, .slice p.da x.expr.den.length p.dc, .slice p.aa x.expr.args.length p.ac, .int .i64 x.expr.pos, .int .i64 x.pos] 49) = wz
      intro hbz
      refine (CU.out _ hbz).mono ?_
      rintro r w1 ⟨a1, c1', rfl, ho1, hb1⟩
      have hw1 := below_then hwr (below_then hbz hb1)
      have HO1 := Lib.hid (HO.out.below (below_then hbz hb1))
      have CH := has_any N a1 c1' n w1 ho1.reads1
      rw [HB.out] at CH
      replace CH := Lib.hid CH
      have hs1 := hw1.size
      clear c0 c1 c2 c3 c4 c5 c6 c7 c8 c9 HO CU hbz hb1 ho1
      go_wp2_with fail
      refine CH.out.mono ?_
      rintro r w2 ⟨rfl, rfl⟩
      cases b
      · have HAX2 : Hid (acc ++ usesL usedR n (k + 1) (l.drop (k + 1)) = L) := Lib.hid (by simpa using HAX.out)
        clear HAX
        go_wp2
        go_roundg (gk - 1)
        case rel => exact ⟨k + 1, a, c, acc, by have := HKG.out; omega, by go_num, rfl, HO1.out, hw1, HAX2.out⟩
        case measure => have := HKG.out; omega
      · have HAX2 : Hid ((acc ++ [(k : Int)]) ++ usesL usedR n (k + 1) (l.drop (k + 1)) = L) := Lib.hid (by rw [List.append_assoc]; simpa using HAX.out)
        have hln : (acc ++ [(k : Int)]).length ≤ 16777216 := by have h1 := HLEN.out; rw [← HAX2.out] at h1; simp only [List.length_append] at h1 ⊢; omega
        clear HAX
        go_wp2_with (at_builtin; go_must (refine append_int rfl (.tmp 21) (.tmp 23) rfl a c rfl (HO1.out.alloc _) (k : Int) w1.heap.size 1 rfl (by simp) (acc ++ [(k : Int)]) rfl hln (by simp; omega) ?_); intro a2 c2 w2 ho2 hg2 hx2)
        go_roundg (gk - 1)
        case rel => exact ⟨k + 1, a2, c2, acc ++ [(k : Int)], by have := HKG.out; omega, by go_num, by simp, ho2, below_append' (hw1.alloc hs1 _) (HO1.out.alloc _) hg2, HAX2.out⟩
        case measure => have := HKG.out; omega
    · have hr : acc = L := by rw [← HA.out, List.drop_eq_nil_of_le (by omega)]; simp [usesL]
      subst hr
      go_wp2
      go_ret
      exact ⟨a, c, rfl, HO.out, hwr⟩

end Go.Proofs.Ytmlldjcbijoheaa

/- A map from strings to bools that a call makes itself: a set of strings. -/
namespace Go.Proofs.Ytmlldjcbijoheaa
open Go.RowKit Go.Maps Go.WideMaps

theorem keyedS : Keyed Try.prog 9 := string_keyed Try.underlying9
theorem zeroB (w : World) : (zeroValue 4).run Try.prog w = .ok (.bool false) w := by kernel_rfl
/-- block b is a map that holds true for just the strings of S -/
def OwnM (w : World) (b n : Nat) (S : ByteArray → Bool) : Prop :=
  ∃ D : DataW Unit, w.ownsMap Try.prog 9 (plainElem Try.prog 4) b n D ∧ ∀ s : ByteArray, D.atKey (.string s.data.toList) (.lit (.bool false)) = .lit (.bool (S s))
theorem strLit_ne {s t : ByteArray} (h : s ≠ t) : Lit.string s.data.toList ≠ Lit.string t.data.toList := fun e => h (by
  injection e with e
  cases s; cases t
  simp at e
  rw [e])
section
variable {w w' : World} {b n : Nat} {S : ByteArray → Bool}
theorem OwnM.made (w : World) : OwnM (w.alloc (.map #[] 0)) w.heap.size 0 (fun _ => false) := ⟨.map [], World.ownsMap_made _ _ _ _, fun _ => rfl⟩
theorem OwnM.lt (h : OwnM w b n S) : b < w.heap.size := by obtain ⟨D, h1, _⟩ := h; exact h1.lt
theorem OwnM.kept {row : Option Nat} (h : OwnM w b n S) (hg : w.grownBy w' row) (hne : some b ≠ row) : OwnM w' b n S := by obtain ⟨D, h1, h2⟩ := h; exact ⟨D, h1.kept hg hne, h2⟩
theorem OwnM.alloc (h : OwnM w b n S) (o : Obj) : OwnM (w.alloc o) b n S := by obtain ⟨D, h1, h2⟩ := h; exact ⟨D, h1.alloc o, h2⟩
theorem OwnM.drew (h : OwnM w b n S) : OwnM w.drew b n S := h
theorem OwnM.below (h : OwnM w b n S) (hb : Below w.heap.size w w') : OwnM w' b n S :=
  h.kept (row := none) ⟨hb.os, hb.tape, hb.output, hb.size, fun k hk _ => hb.block k hk⟩ (by simp)
theorem OwnM.mono (h : OwnM w b n S) {m : Nat} (hm : n ≤ m) : OwnM w b m S := by obtain ⟨D, h1, h2⟩ := h; exact ⟨D, h1.mono hm, h2⟩
theorem OwnM.congr {S' : ByteArray → Bool} (h : OwnM w b n S) (e : ∀ s, S s = S' s) : OwnM w b n S' := by
  have : S = S' := funext e
  rwa [← this]
theorem OwnM.under {α : Type} {f : α → List Value} {sz : Nat} {t : TypeId} {B : Nat} {W : World} {a : Option Addr} {c : Nat} {l : List α} (h : OwnM w b n S) (ho : Own f sz t B W a c l) (hB : b < B)
    (hg : w.grownBy w' (Value.ownBlock (.slice a l.length c))) : OwnM w' b n S := h.kept hg fun e => by
  cases a with
  | none => simp [Value.ownBlock] at e
  | some p => simp [Value.ownBlock] at e; have := (ho.lt rfl).1; omega
theorem OwnM.look (h : OwnM w b n S) {s : ByteArray} (hs : s.size ≤ maxLen) : (Instr.lookup 100 (.map (some b)) (.string s) false).run Try.prog w = .ok (.bool (S s)) w := by
  obtain ⟨D, h1, h2⟩ := h
  obtain ⟨v, ps, hr, hv⟩ := h1.lookup keyedS Try.underlying100 (zeroB w) (plainElem_bool Try.underlying4 false) (keyOf_string_mk Try.underlying9 hs)
  rw [h2 s] at hv
  rw [hr]
  unfold plainElem at hv
  simp [Try.underlying4] at hv
  cases v <;> simp at hv
  rw [hv.1]
end
section
variable {w : World} {b n : Nat} {S : ByteArray → Bool} {ops : Array Oper} {rest : List Oper} {o : Oper} {a : Act} {Q : Exit → Act → World → Prop}
/-- 'm[s] = true' -/
theorem map_put (hg : o.guard = none) (m x v : Operand) (hop : o.op = Op.mapUpdate 100 m x v) (hm : a.eval m = .map (some b)) (hown : OwnM w b n S) (hn : n < 16777216)
    (s : ByteArray) (hs : s.size ≤ maxLen) (hx : a.eval x = .string s) (hv : a.eval v = .bool true)
    (hK : ∀ w', OwnM w' b (n + 1) (fun t => decide (t = s) || S t) → w.grownBy w' (some b) → wpList Try.prog ops Q rest (a.put o.dst undef) w') : wpList Try.prog ops Q (o :: rest) a w := by
  obtain ⟨D, h1, h2⟩ := hown
  refine wpList_mapUpdate_own w hg m x v 100 hop 9 4 keyedS Try.underlying100 (plainElem Try.prog 4) b n D hm h1 (by unfold maxLen; omega) _ _ (.string s.data.toList) hx hv
    (keyOf_string_mk Try.underlying9 hs) (.lit (.bool true)) [] (plainElem_bool Try.underlying4 true) fun w' r1 r2 => hK w' ⟨_, r1, fun t => ?_⟩ r2
  by_cases he : t = s
  · subst he
    rw [atKey_put_same (h1.isMap) (show WideAt.IsKeyLit (.string _) from trivial)]
    simp
  · rw [atKey_put_other (strLit_ne he), h2 t]
    simp [he]
/-- 'delete(m, s)' -/
theorem map_del (hg : o.guard = none) (m x : Operand) (hop : o.op = Op.call { callee := Callee.builtin Builtin.delete, args := #[m, x], argTypes := #[100, 9] }) (hm : a.eval m = .map (some b)) (hown : OwnM w b n S)
    (s : ByteArray) (hs : s.size ≤ maxLen) (hx : a.eval x = .string s)
    (hK : ∀ w', OwnM w' b n (fun t => !decide (t = s) && S t) → w.grownBy w' (some b) → wpList Try.prog ops Q rest (a.put o.dst (.tuple #[])) w') : wpList Try.prog ops Q (o :: rest) a w := by
  obtain ⟨D, h1, h2⟩ := hown
  refine wpList_delete_own w hg m x 100 9 hop 4 keyedS Try.underlying100 (plainElem Try.prog 4) b n D hm h1 _ (.string s.data.toList) hx
    (keyOf_string_mk Try.underlying9 hs) fun w' r1 r2 => hK w' ⟨_, r1, fun t => ?_⟩ r2.grown
  by_cases he : t = s
  · subst he
    rw [atKey_del_same]
    simp
  · rw [atKey_del_other (strLit_ne he), h2 t]
    simp [he]
end
end Go.Proofs.Ytmlldjcbijoheaa

/- A world in which only one block that was there may have turned. No function of the program in sight. -/
namespace Go.Proofs.Ytmlldjcbijoheaa
open Go.RowKit
section
variable {w w' w'' : World} {g : Nat}
theorem but_refl (w : World) (g : Nat) : w.grownBy w (some g) := World.grownBy.refl _ _
theorem but_alloc (h : w.grownBy w' (some g)) (o : Obj) : w.grownBy (w'.alloc o) (some g) := h.trans (World.grownBy_alloc _ _ _)
theorem but_drew (h : w.grownBy w' (some g)) : w.grownBy w'.drew (some g) := ⟨h.os, h.tape, h.output, h.size, h.block⟩
theorem but_drewN (h : w.grownBy w' (some g)) (n : Nat) : w.grownBy (w'.drewN n) (some g) := ⟨h.os, h.tape, h.output, h.size, h.block⟩
theorem but_set (h : w.grownBy w' (some g)) (i : Nat) (u : Value) : w.grownBy (w'.setCell ⟨g, i, none⟩ u) (some g) :=
  h.trans ⟨rfl, rfl, rfl, by simp [World.setCell], fun k _ hk => Below.heap_setCell _ _ _ _ (fun e => hk (by simp at e; rw [e]))⟩
theorem but_set_new (h : w.grownBy w' (some g)) {p : Addr} (hp : w.heap.size ≤ p.block) (u : Value) : w.grownBy (w'.setCell p u) (some g) :=
  ⟨h.os, h.tape, h.output, by have := h.size; simpa [World.setCell] using this, fun k hk hne => (Below.heap_setCell _ _ _ _ (by omega)).trans (h.block k hk hne)⟩
theorem but_below (h : w.grownBy w' (some g)) (hb : Below w'.heap.size w' w'') : w.grownBy w'' (some g) :=
  ⟨hb.os.trans h.os, hb.tape.trans h.tape, hb.output.trans h.output, Nat.le_trans h.size hb.size, fun k hk hne => (hb.block k (Nat.lt_of_lt_of_le hk h.size)).trans (h.block k hk hne)⟩
theorem but_append {α : Type} {f : α → List Value} {sz : Nat} {t : TypeId} {B : Nat} {W : World} {a : Option Addr} {c : Nat} {l : List α} (h : w.grownBy w' (some g)) (ho : Own f sz t B W a c l) (hB : w.heap.size ≤ B)
    (hg : w'.grownBy w'' (Value.ownBlock (.slice a l.length c))) : w.grownBy w'' (some g) :=
  h.andThen hg fun j hj => .inl (by
    cases a with
    | none => simp [Value.ownBlock] at hj
    | some p => simp [Value.ownBlock] at hj; have := (ho.lt rfl).1; omega)
theorem below_but {B : Nat} {w0 : World} (hb : Below B w0 w) (h : w.grownBy w' (some g)) (hg : B ≤ g) (hB : B ≤ w.heap.size) : Below B w0 w' := hb.grown h hB (fun k hk => by injection hk with hk; omega)
theorem New.but_back {B : Nat} {V : World} (h : New B w' V) (hg : w.grownBy w' (some g)) : NewBut B (some ⟨g, 0, none⟩) w V := fun p v hp hne hc =>
  h p v hp (hg.cell hc (fun e => hne _ rfl (by injection e)))
theorem NewBut.but_back {B : Nat} {V : World} (h : NewBut B (some ⟨g, 0, none⟩) w' V) (hg : w.grownBy w' (some g)) : NewBut B (some ⟨g, 0, none⟩) w V := fun p v hp hne hc =>
  h p v hp hne (hg.cell hc (fun e => hne _ rfl (by injection e)))
theorem Own.but {α : Type} {f : α → List Value} {sz : Nat} {t : TypeId} {B : Nat} {a : Option Addr} {c : Nat} {l : List α} (ho : Own f sz t B w a c l) (h : w.grownBy w' (some g)) (hB : g < B) : Own f sz t B w' a c l :=
  ho.grown h fun p hp e => by have := (ho.lt hp).1; injection e with e; omega
theorem Own.but2 {α : Type} {f : α → List Value} {sz : Nat} {t : TypeId} {B : Nat} {a : Option Addr} {c : Nat} {l : List α} (ho : Own f sz t B w a c l) (h : w.grownBy w' (some g)) (hne : ∀ p, a = some p → p.block ≠ g) : Own f sz t B w' a c l :=
  ho.grown h fun p hp e => by have := hne p hp; injection e with e; omega
theorem below_app {α : Type} {f : α → List Value} {sz : Nat} {t : TypeId} {B B' : Nat} {w0 W : World} {a : Option Addr} {c : Nat} {l : List α} (h : Below B w0 w) (ho : Own f sz t B' W a c l) (hB : B ≤ B') (hs : B ≤ w.heap.size)
    (hg : w.grownBy w' (Value.ownBlock (.slice a l.length c))) : Below B w0 w' := h.grown hg hs fun k hk => by
  cases a with
  | none => simp [Value.ownBlock] at hk
  | some p => simp [Value.ownBlock] at hk; have := (ho.lt rfl).1; omega
end
end Go.Proofs.Ytmlldjcbijoheaa
