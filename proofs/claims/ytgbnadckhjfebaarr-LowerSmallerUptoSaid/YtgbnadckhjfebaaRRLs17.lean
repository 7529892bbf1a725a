/- How an argument that came in is opened: slices of whatever elements, and what they weigh. -/
import Derived.Test.YtgbnadckhjfebaaRRLs16
import Derived.Deep.LoopGhost
import Derived.Test.YtgbnadckhjfebaaRRLs10
import Derived.Test.YtgbnadckhjfebaaRRLs5
import Derived.Test.YtgbnadckhjfebaaRRLs1
import Derived.Test.YtgbnadckhjfebaaRRRows

/- Walks: the functions that lower.check hands to slices.ContainsFunc; slices.IndexFunc and ContainsFunc with them. -/
namespace Go.Proofs.YtgbnadckhjfebaaRR
open Go.RowKit

/-- the number of the first element, from i on, of which p holds -/
def idxB {α : Type} (p : α → Bool) (i : Nat) : List α → Int
  | [] => -1
  | s :: r => if p s = true then (i : Int) else idxB p (i + 1) r
theorem idxB_at {α : Type} {p : α → Bool} {l : List α} {k : Nat} {x : α} (h : l[k]? = some x) : idxB p k (l.drop k) = if p x = true then (k : Int) else idxB p (k + 1) (l.drop (k + 1)) := by
  have hk := lt_of_get h
  rw [List.drop_eq_getElem_cons hk]
  have : l[k] = x := by rw [List.getElem?_eq_getElem hk] at h; exact Option.some.inj h
  rw [this, idxB]
theorem idxB_any {α : Type} (p : α → Bool) : ∀ (l : List α) (i : Nat), decide (0 ≤ idxB p i l) = l.any p
  | [], i => by simp [idxB]
  | x :: r, i => by
    have ih := idxB_any p r (i + 1)
    rw [idxB, List.any_cons]
    by_cases h : p x = true
    · rw [if_pos h, h]; simp
    · rw [if_neg h, ih]; simp [h]
theorem SlR.taken {α : Type} {sz : Nat} {E : World → Nat → Nat → α → Prop} {w : World} {a : Option Addr} {c : Nat} {l : List α} (h : SlR sz E w a c l) (k : Nat) : SlR sz E w a c (l.take k) := by
  refine ⟨by have := h.1; simp; omega, h.2.1, fun j x hx => ?_⟩
  rw [List.getElem?_take] at hx
  split at hx
  · exact h.2.2 j x hx
  · cases hx

set_option maxHeartbeats 1000000 in
theorem badL_any (a : Int) (i g : Nat) (w : World) (hg : w.cell? ⟨g, 0, none⟩ = some (.int .i64 i)) :
    Calls Try.prog 24 #[.int .i64 a, .pointer (some ⟨g, 0, none⟩)] w fun r w' => r = .returned (.bool (badArg i a)) ∧ w = w' := by
  unfold badArg
  by_cases h0 : a < 0
  · have hr : decide (a < 0 ∨ (i : Int) ≤ a) = true := by simp [h0]
    rw [hr]
    clear hr
    go_enter Try.func24, Try.ntmps24
    go_wp2
    go_ret
    exact ⟨rfl, rfl⟩
  · have hr : decide (a < 0 ∨ (i : Int) ≤ a) = decide ((i : Int) ≤ a) := by simp [h0]
    rw [hr]
    clear hr
    go_enter Try.func24, Try.ntmps24
    go_wp2
    go_ret
    exact ⟨rfl, rfl⟩
set_option maxRecDepth 100000 in
set_option maxHeartbeats 4000000 in
theorem indexBad_any (l : List Int) (i g : Nat) (la : Option Addr) (lc : Nat) (w : World) (h : IntsR w la lc l) (hg : w.cell? ⟨g, 0, none⟩ = some (.int .i64 i)) :
    Calls Try.prog 41 #[.slice la l.length lc, .func (Fn.func 24) #[] #[.pointer (some ⟨g, 0, none⟩)]] w fun r w' => r = .returned (.int .i64 (idxB (badArg i) 0 l)) ∧ w = w' := by
  have HL := Lib.hid h
  have HG := Lib.hid hg
  have hll := h.len
  obtain ⟨R, hR⟩ : ∃ q, idxB (badArg i) 0 l = q := ⟨_, rfl⟩
  rw [hR]
  have HR : Hid (idxB (badArg i) 0 (l.drop 0) = R) := Lib.hid hR
  clear h hR hg
  go_enter Try.func41, Try.ntmps41
  go_wp2
  obtain ⟨wo, rfl⟩ : ∃ wo : World, wo = w := ⟨_, rfl⟩
  go_loopg [5, 8] l.length (fun m _ q wr => ∃ k : Nat, k + m = l.length ∧ q = .int .i64 k ∧ wo = wr ∧ idxB (badArg i) k (l.drop k) = R)
  case atStart => exact ⟨0, by omega, rfl, rfl, HR.out⟩
  case round =>
    obtain ⟨k, hkg, rfl, rfl, ha⟩ := hrel
    have HKG := Lib.hid hkg
    have HA := Lib.hid ha
    clear hkg ha
    by_cases hlt : k < l.length
    · obtain ⟨x, hx⟩ := get_of_lt hlt
      obtain ⟨bx, ox, rfl, hcx⟩ := HL.out.2.2 k x hx
      have u0 : wo.cell? ⟨bx, ox + k, none⟩ = some (.int .i64 x) := by simpa [IntE] using hcx.1
      have hax := HA.out
      rw [idxB_at hx] at hax
      have CD := badL_any x i g wo HG.out
      obtain ⟨bv, hb⟩ : ∃ q, badArg i x = q := ⟨_, rfl⟩
      rw [hb] at CD hax
      have HAX := Lib.hid hax
      replace CD := Lib.hid CD
      clear hx hcx hax hb HA
      go_wp2_with fail
      refine CD.out.mono ?_
      rintro r w1 ⟨rfl, rfl⟩
      clear CD u0
      cases bv
      · have HAX2 : Hid (idxB (badArg i) (k + 1) (l.drop (k + 1)) = R) := Lib.hid (by simpa using HAX.out)
        clear HAX
        go_wp2
        go_roundg (gk - 1)
        case rel => exact ⟨k + 1, by have := HKG.out; omega, by go_num, rfl, HAX2.out⟩
        case measure => have := HKG.out; omega
      · have hkR : (k : Int) = R := by simpa using HAX.out
        subst hkR
        clear HAX
        go_wp2
        go_ret
        exact ⟨rfl, rfl⟩
    · have hr : (-1 : Int) = R := by rw [← HA.out, List.drop_eq_nil_of_le (by omega)]; rfl
      subst hr
      go_wp2
      go_ret
      exact ⟨rfl, rfl⟩
set_option maxRecDepth 100000 in
set_option maxHeartbeats 1000000 in
theorem anyBad_any (l : List Int) (i g : Nat) (la : Option Addr) (lc : Nat) (w : World) (h : IntsR w la lc l) (hg : w.cell? ⟨g, 0, none⟩ = some (.int .i64 i)) :
    Calls Try.prog 23 #[.slice la l.length lc, .func (Fn.func 24) #[] #[.pointer (some ⟨g, 0, none⟩)]] w fun r w' => r = .returned (.bool (l.any (badArg i))) ∧ w = w' := by
  have CI := indexBad_any l i g la lc w h hg
  have hf := idxB_any (badArg i) l 0
  revert CI hf
  generalize idxB (badArg i) 0 l = q
  intro CI hf
  rw [← hf]
  clear h hf hg
  replace CI := Lib.hid CI
  go_enter Try.func23, Try.ntmps23
  go_wp2_with fail
  refine CI.out.mono ?_
  rintro e w1 ⟨rfl, rfl⟩
  go_wp2
  go_ret
  exact ⟨rfl, rfl⟩

set_option maxRecDepth 100000 in
set_option maxHeartbeats 1000000 in
theorem sameL_any (s : Step) (p : RA) (n : ByteArray) (g : Nat) (w : World) (hg : w.cell? ⟨g, 1, none⟩ = some (.string n)) :
    Calls Try.prog 29 #[s.val p.aa p.ac p.na p.nc p.da p.dc, .pointer (some ⟨g, 0, none⟩)] w fun r w' => r = .returned (.bool (decide (s.point = n))) ∧ Below w.heap.size w w' := by
  unfold Step.val
  have hb0 : Below w.heap.size w (w.alloc (.cells #[.int .i64 s.kind, .string s.point, .slice p.aa s.args.length p.ac, .bool s.ratio.neg, .slice p.na s.ratio.num.length p.nc, .slice p.da s.ratio.den.length p.dc] 47)) := (Below.refl _ _).alloc (Nat.le_refl _) _
  have hk := held hg
  have hgl : g < w.heap.size := World.block_lt_of_cell? w _ hg
  have hgl2 : g < w.heap.size + 1 := by omega
  obtain ⟨b, hb⟩ : ∃ b, (s.point.toList == n.toList) = b := ⟨_, rfl⟩
  have hb2 := str_beq s.point n
  rw [hb] at hb2
  rw [← hb2]
  clear hb2
  go_enter Try.func29, Try.ntmps29
  go_wp2
  go_ret
  exact ⟨rfl, hb0⟩
set_option maxRecDepth 100000 in
set_option maxHeartbeats 4000000 in
theorem indexSame_any (l : List Step) (n : ByteArray) (g : Nat) (la : Option Addr) (lc : Nat) (w : World) (h : StepsR w la lc l) (hg : w.cell? ⟨g, 1, none⟩ = some (.string n)) :
    Calls Try.prog 48 #[.slice la l.length lc, .func (Fn.func 29) #[] #[.pointer (some ⟨g, 0, none⟩)]] w fun r w' => r = .returned (.int .i64 (idxB (fun t : Step => decide (t.point = n)) 0 l)) ∧ Below w.heap.size w w' := by
  have HL := Lib.hid h
  have hll := h.len
  obtain ⟨R, hR⟩ : ∃ q, idxB (fun t : Step => decide (t.point = n)) 0 l = q := ⟨_, rfl⟩
  rw [hR]
  have HR : Hid (idxB (fun t : Step => decide (t.point = n)) 0 (l.drop 0) = R) := Lib.hid hR
  have HG := Lib.hid hg
  clear h hR hg
  go_enter Try.func48, Try.ntmps48
  go_wp2
  obtain ⟨wo, rfl⟩ : ∃ wo : World, wo = w := ⟨_, rfl⟩
  go_loopg [5, 8] l.length (fun m _ q wr => ∃ k : Nat, k + m = l.length ∧ q = .int .i64 k ∧ Below wo.heap.size wo wr ∧ idxB (fun t : Step => decide (t.point = n)) k (l.drop k) = R)
  case atStart => exact ⟨0, by omega, rfl, Below.refl _ _, HR.out⟩
  case round =>
    obtain ⟨k, hkg, rfl, hwr, ha⟩ := hrel
    have HKG := Lib.hid hkg
    have HA := Lib.hid ha
    clear hkg ha
    by_cases hlt : k < l.length
    · obtain ⟨x, hx⟩ := get_of_lt hlt
      obtain ⟨bx, ox, rfl, p, hC, hP, _, _⟩ := (HL.out.ext (Ext.below hwr)).2.2 k x hx
      obtain ⟨c0, c1, c2, c3, c4, c5⟩ := hC
      have hax := HA.out
      rw [idxB_at hx] at hax
      have CD := sameL_any x p n g wr (Ext.below hwr _ _ HG.out)
      obtain ⟨b, hb⟩ : ∃ q, decide (x.point = n) = q := ⟨_, rfl⟩
      rw [hb] at CD hax
      unfold Step.val at CD
      have HAX := Lib.hid hax
      replace CD := Lib.hid CD
      clear hx hP hax hb HA
      go_wp2_with fail
      refine CD.out.mono ?_
      rintro r w1 ⟨rfl, hb1⟩
      have hw1 := below_then hwr hb1
      clear c0 c1 c2 c3 c4 c5 CD
      cases b
      · have HAX2 : Hid (idxB (fun t : Step => decide (t.point = n)) (k + 1) (l.drop (k + 1)) = R) := Lib.hid (by simpa using HAX.out)
        clear HAX
        go_wp2
        go_roundg (gk - 1)
        case rel => exact ⟨k + 1, by have := HKG.out; omega, by go_num, hw1, HAX2.out⟩
        case measure => have := HKG.out; omega
      · have hkR : (k : Int) = R := by simpa using HAX.out
        subst hkR
        clear HAX
        go_wp2
        go_ret
        exact ⟨rfl, hw1⟩
    · have hr : (-1 : Int) = R := by rw [← HA.out, List.drop_eq_nil_of_le (by omega)]; rfl
      subst hr
      go_wp2
      go_ret
      exact ⟨rfl, hwr⟩
set_option maxRecDepth 100000 in
set_option maxHeartbeats 1000000 in
theorem anySame_any (l : List Step) (n : ByteArray) (g : Nat) (la : Option Addr) (lc : Nat) (w : World) (h : StepsR w la lc l) (hg : w.cell? ⟨g, 1, none⟩ = some (.string n)) :
    Calls Try.prog 28 #[.slice la l.length lc, .func (Fn.func 29) #[] #[.pointer (some ⟨g, 0, none⟩)]] w fun r w' => r = .returned (.bool (l.any fun t => decide (t.point = n))) ∧ Below w.heap.size w w' := by
  have CI := indexSame_any l n g la lc w h hg
  have hf := idxB_any (fun t : Step => decide (t.point = n)) l 0
  revert CI hf
  generalize idxB (fun t : Step => decide (t.point = n)) 0 l = q
  intro CI hf
  rw [← hf]
  clear h hf hg
  replace CI := Lib.hid CI
  go_enter Try.func28, Try.ntmps28
  go_wp2_with fail
  refine CI.out.mono ?_
  rintro e w1 ⟨rfl, hb1⟩
  go_wp2
  go_ret
  exact ⟨rfl, hb1⟩
end Go.Proofs.YtgbnadckhjfebaaRR

/- Walk: whether a step is right, by the program. -/
namespace Go.Proofs.YtgbnadckhjfebaaRR
open Go.RowKit

set_option maxRecDepth 100000 in
set_option maxHeartbeats 4000000 in
theorem checkL_any (l : List Step) (i : Nat) (s : Step) (a : Option Addr) (c : Nat) (w : World) (h : StepsR w a c l) (hs : l[i]? = some s) (hq : s.ratio.few) :
    Calls Try.prog 13 #[.slice a l.length c, .int .i64 i] w fun e w' => e = .returned (.int .i64 (errStep l s i)) ∧ Below w.heap.size w w' := by
  have hlen := h.len
  have hcap0 := h.1
  have hcm0 := h.2.1
  have hi := lt_of_get hs
  obtain ⟨b, off, rfl, p, hC, hP, hkind, hpt⟩ := h.2.2 i s hs
  obtain ⟨kind, point, args, r⟩ := s
  obtain ⟨aa, ac, na, nc, da, dc⟩ := p
  obtain ⟨hI, hN, hD⟩ := hP
  dsimp only at hI hN hD hq hkind hpt
  obtain ⟨c0, c1, c2, c3, c4, c5⟩ := hC
  dsimp only at c0 c1 c2 c3 c4 c5
  obtain ⟨res, hres⟩ : ∃ x, errStep l ⟨kind, point, args, r⟩ i = x := ⟨_, rfl⟩
  rw [hres]
  unfold errStep at hres
  dsimp only at hres
  have CA := arityL_any kind
  have hA := arity20_in kind
  have CR := fun W (hW : Below w.heap.size w W) => rightQ_any r na nc da dc W (hN.ext (Ext.below hW)) (hD.ext (Ext.below hW)) hq.1 hq.2
  have CN := fun W => noneL_any r na nc da dc W hq.1 hq.2
  have CI := fun W => isName_any point W hpt
  have CB := fun W (hW : Below w.heap.size w W) (g : Nat) => anyBad_any args i g aa ac W (hI.ext (Ext.below hW))
  have CS := fun W (hW : Below w.heap.size w W) (g : Nat) => anySame_any (l.take i) point g (some ⟨b, off, none⟩) c W (StepsR.ext (SlR.taken h i) (Ext.below hW))
  have htl : (l.take i).length = i := by simp; omega
  rw [htl] at CS
  have hlena := hI.len
  have hk0 := held c0; have hk1 := held c1; have hk2 := held c2; have hk3 := held c3; have hk4 := held c4; have hk5 := held c5
  have hbl : b < w.heap.size := World.block_lt_of_cell? w _ c0
  revert CA hA hres CR CN CI CB CS
  generalize arity20 kind = ar
  generalize r.right = br
  generalize r.none = bn
  generalize isNameB point = bi
  generalize args.any (badArg i) = bb
  generalize ((l.take i).any fun t => decide (t.point = point)) = bs
  intro hres CA hA CR CN CI CB CS
  replace CA := Lib.hid CA; replace CR := Lib.hid CR; replace CN := Lib.hid CN; replace CI := Lib.hid CI; replace CB := Lib.hid CB; replace CS := Lib.hid CS
  have HRES := Lib.hid hres
  obtain ⟨hk1', hk2'⟩ := hkind
  obtain ⟨neg, num, den⟩ := r
  unfold Rt.val at CR CN
  dsimp only at CR CN c0 c1 c2 c3 c4 c5 hk3 hk4 hk5 ⊢
  unfold maxLen at hcm0
  have hii : (i : Int) ≤ (c : Int) := by omega
  have hic : i ≤ c := by omega
  clear hres hI hN hD hq h hs htl
  have hz : Blk ((w.alloc (.cells #[.int .i64 (i : Int)] 3)).alloc (.cells #[.int .i64 kind, .string point, .slice aa args.length ac, .bool neg, .slice na num.length nc, .slice da den.length dc] 47)) (w.heap.size + 1) 47 #[.int .i64 kind, .string point, .slice aa args.length ac, .bool neg, .slice na num.length nc, .slice da den.length dc] := blk_at1 w _ _ _
  have hzi : Blk ((w.alloc (.cells #[.int .i64 (i : Int)] 3)).alloc (.cells #[.int .i64 kind, .string point, .slice aa args.length ac, .bool neg, .slice na num.length nc, .slice da den.length dc] 47)) w.heap.size 3 #[.int .i64 (i : Int)] := (Blk.new w _ _).alloc _
  have hb0 : Below w.heap.size w ((w.alloc (.cells #[.int .i64 (i : Int)] 3)).alloc (.cells #[.int .i64 kind, .string point, .slice aa args.length ac, .bool neg, .slice na num.length nc, .slice da den.length dc] 47)) := ((Below.refl _ _).alloc (Nat.le_refl _) _).alloc (by simp) _
  go_enter Try.func13, Try.ntmps13
  go_wp2_with fail
  revert hz hzi hb0
  generalize (w.alloc (.cells #[.int .i64 (i : Int)] 3)).alloc (.cells #[.int .i64 kind, .string point, .slice aa args.length ac, .bool neg, .slice na num.length nc, .slice da den.length dc] 47) = w0
  intro hz hzi hb0
  refine (CA.out _).mono ?_
  rintro e w' ⟨rfl, rfl⟩
  have z0 := hz.cell 0; have z1 := hz.cell 1; have z2 := hz.cell 2; have z3 := hz.cell 3; have z4 := hz.cell 4; have z5 := hz.cell 5
  have zi := hzi.cell 0
  clear c0 c1 c2 c3 c4 c5 hk0 hk1 hk2 hk3 hk4 hk5
  by_cases h0 : ar < 0
  · have he : decide (ar < 0) = true := by simpa using h0
    have hr : res = 8 := by rw [← HRES.out, if_pos h0]
    subst hr
    clear h0
    go_wp2
    go_ret
    exact ⟨rfl, hb0⟩
  have he : decide (ar < 0) = false := by simpa using h0
  have HR1 := HRES.out
  rw [if_neg h0] at HR1
  replace HR1 := Lib.hid HR1
  clear h0 HRES
  by_cases h1 : (args.length : Int) = ar
  case neg =>
    have he1 : ((args.length : Int) != ar) = true := by simpa using h1
    have hr : res = 1 := by rw [← HR1.out, if_pos h1]
    subst hr
    clear h1
    go_wp2
    go_ret
    exact ⟨rfl, hb0⟩
  have he1 : ((args.length : Int) != ar) = false := by simpa using h1
  have HR2 := HR1.out
  rw [if_neg (by simpa using h1)] at HR2
  replace HR2 := Lib.hid HR2
  clear h1 HR1
  have CB2 := CB.out w0 hb0 w.heap.size zi
  replace CB2 := Lib.hid CB2
  clear CB
  cases bb
  case true =>
    have hr : res = 2 := by rw [← HR2.out, if_pos rfl]
    subst hr
    go_wp2_with fail
    refine CB2.out.mono ?_
    rintro e w1 ⟨rfl, rfl⟩
    go_wp2
    go_ret
    exact ⟨rfl, hb0⟩
  have HR3 := HR2.out
  rw [if_neg (by simp)] at HR3
  replace HR3 := Lib.hid HR3
  clear HR2
  go_wp2_with fail
  refine CB2.out.mono ?_
  rintro e w1 ⟨rfl, rfl⟩
  clear CB2 CA
  by_cases hb2 : kind = 2 ∧ br = false
  · obtain ⟨hk2, rfl⟩ := hb2
    have hr : res = 1 := by rw [← HR3.out, if_pos ⟨hk2, rfl⟩]
    subst hr
    have hke : (kind == 2) = true := by simpa using hk2
    have hkn : (kind != 2) = false := by simpa using hk2
    clear hk2
    go_wp2_with fail
    refine (CR.out _ hb0).mono ?_
    rintro e w2 ⟨rfl, hb2⟩
    have hb3 := below_then hb0 hb2
    go_wp2
    go_ret
    exact ⟨rfl, hb3⟩
  · by_cases hb2' : kind ≠ 2 ∧ bn = false
    · have hr : res = 1 := by rw [← HR3.out, if_neg hb2, if_pos hb2']
      subst hr
      obtain ⟨hk2, rfl⟩ := hb2'
      have hke : (kind == 2) = false := by simpa using hk2
      have hkn : (kind != 2) = true := by simpa using hk2
      clear hk2 hb2
      go_wp2_with fail
      refine (CN.out _).mono ?_
      rintro e w2 ⟨rfl, hb2⟩
      have hb3 := below_then hb0 hb2
      go_wp2
      go_ret
      exact ⟨rfl, hb3⟩
    · have hgood : (kind = 2 ∧ br = true) ∨ (kind ≠ 2 ∧ bn = true) := by
        by_cases hk2 : kind = 2
        · left; refine ⟨hk2, ?_⟩; cases br
          · exact absurd ⟨hk2, rfl⟩ hb2
          · rfl
        · right; refine ⟨hk2, ?_⟩; cases bn
          · exact absurd ⟨hk2, rfl⟩ hb2'
          · rfl
      have HR4 := HR3.out
      rw [if_neg hb2, if_neg hb2'] at HR4
      replace HR4 := Lib.hid HR4
      clear hb2 hb2' HR3
      rcases hgood with ⟨hk2, rfl⟩ | ⟨hk2, rfl⟩
      all_goals
        first
          | have hke : (kind == 2) = true := by simpa using hk2
          | have hke : (kind == 2) = false := by simpa using hk2
        first
          | have hkn : (kind != 2) = false := by simpa using hk2
          | have hkn : (kind != 2) = true := by simpa using hk2
        clear hk2
        go_wp2_with fail
        first
          | refine (CR.out _ hb0).mono ?_
          | refine (CN.out _).mono ?_
        rintro e w2 ⟨rfl, hb2⟩
        have hz2 := hz.below' hb2
        have hzi2 := hzi.below' hb2
        have hw2 := below_then hb0 hb2
        clear hb2 z0 z1 z2 z3 z4 z5 zi hz hzi hb0 CR CN
        have z0 := hz2.cell 0; have z1 := hz2.cell 1; have z2 := hz2.cell 2; have z3 := hz2.cell 3; have z4 := hz2.cell 4; have z5 := hz2.cell 5
        have zi := hzi2.cell 0
        by_cases hpe : point = ⟨#[]⟩
        · have hr : res = 0 := by rw [← HR4.out, if_pos hpe]
          subst hr
          subst hpe
          go_wp2
          go_ret
          exact ⟨rfl, hw2⟩
        · have hse : point.toList.isEmpty = false := by rw [str_isEmpty]; simpa using hpe
          have HR5 := HR4.out
          rw [if_neg hpe] at HR5
          replace HR5 := Lib.hid HR5
          clear hpe HR4
          cases bi
          · have hr : res = 6 := by rw [← HR5.out, if_pos rfl]
            subst hr
            go_wp2_with fail
            refine (CI.out _).mono ?_
            rintro e w3 ⟨rfl, hb3⟩
            have hw3 := below_then hw2 hb3
            go_wp2
            go_ret
            exact ⟨rfl, hw3⟩
          · have HR6 := HR5.out
            rw [if_neg (by simp)] at HR6
            replace HR6 := Lib.hid HR6
            clear HR5
            go_wp2_with fail
            refine (CI.out _).mono ?_
            rintro e w3 ⟨rfl, hb3⟩
            have hw3 := below_then hw2 hb3
            have hz3 := hz2.below' hb3
            have hzi3 := hzi2.below' hb3
            clear hb3 z0 z1 z2 z3 z4 z5 zi hz2 hzi2 hw2 CI
            have z1 := hz3.cell 1
            have zi := hzi3.cell 0
            have CS2 := CS.out w3 hw3 (w.heap.size + 1) z1
            replace CS2 := Lib.hid CS2
            clear CS
            go_wp2_with fail
            refine CS2.out.mono ?_
            rintro e w4 ⟨rfl, hb4⟩
            have hw4 := below_then hw3 hb4
            cases bs
            · have hr : res = 0 := by rw [← HR6.out, if_neg (by simp)]
              subst hr
              go_wp2
              go_ret
              exact ⟨rfl, hw4⟩
            · have hr : res = 7 := by rw [← HR6.out, if_pos rfl]
              subst hr
              go_wp2
              go_ret
              exact ⟨rfl, hw4⟩
end Go.Proofs.YtgbnadckhjfebaaRR

/- Walk: the first error of a figure, by the program. -/
namespace Go.Proofs.YtgbnadckhjfebaaRR
open Go.RowKit

set_option maxRecDepth 100000 in
set_option maxHeartbeats 4000000 in
theorem rightL_any (f : Fig) (sa : Option Addr) (sc : Nat) (ga : Option Addr) (gc : Nat) (w : World) (h : FigR w sa sc ga gc f) (hq : f.few) :
    Calls Try.prog 6 #[f.val sa sc ga gc] w fun e w' => e = .returned (.int .i64 f.err) ∧ Below w.heap.size w w' := by
  obtain ⟨steps, goals⟩ := f
  obtain ⟨hS, hG⟩ := h
  dsimp only at hS hG
  have hl1 := hS.len
  have hl2 := hG.len
  obtain ⟨res, hres⟩ : ∃ x, Fig.err ⟨steps, goals⟩ = x := ⟨_, rfl⟩
  rw [hres]
  unfold Fig.err at hres
  unfold Fig.val
  dsimp only at hres ⊢
  have HS := Lib.hid hS
  have HG := Lib.hid hG
  have HQ := Lib.hid hq
  have HRES := Lib.hid hres
  clear hS hG hq hres
  have hz := Blk.new w 25 #[.slice sa steps.length sc, .slice ga goals.length gc]
  have hb0 : Below w.heap.size w (w.alloc (.cells #[.slice sa steps.length sc, .slice ga goals.length gc] 25)) := (Below.refl _ _).alloc (Nat.le_refl _) _
  by_cases hbig : 40 < steps.length ∨ 8 < goals.length
  · have hr : res = 4 := by rw [← HRES.out, if_pos hbig]
    subst hr
    clear hz
    by_cases h1 : 40 < steps.length
    · clear hbig
      go_enter Try.func6, Try.ntmps6
      go_wp2
      go_ret
      exact ⟨rfl, hb0⟩
    · have h2 : 8 < goals.length := by omega
      clear hbig
      go_enter Try.func6, Try.ntmps6
      go_wp2
      go_ret
      exact ⟨rfl, hb0⟩
  · have h1 : steps.length ≤ 40 := by omega
    have h2 : goals.length ≤ 8 := by omega
    have HR1 := HRES.out
    rw [if_neg hbig] at HR1
    replace HR1 := Lib.hid HR1
    clear hbig HRES
    go_enter Try.func6, Try.ntmps6
    go_wp2
    revert hz hb0
    generalize w.alloc (.cells #[.slice sa steps.length sc, .slice ga goals.length gc] 25) = w0
    intro hz hb0
    go_loopg [3, 4, 21] steps.length (fun g _ _ q wr => ∃ k : Nat, k + g = steps.length ∧ q = .int .i64 k ∧ Below w.heap.size w wr ∧ Blk wr w.heap.size 25 #[.slice sa steps.length sc, .slice ga goals.length gc] ∧ errSteps steps (steps.drop k) k = errSteps steps steps 0)
    case atStart => exact ⟨0, by omega, rfl, hb0, hz, rfl⟩
    case round =>
      obtain ⟨k, hkg, rfl, hwr, hzr, he⟩ := hrel
      have HKG := Lib.hid hkg
      have HE := Lib.hid he
      have HZR := Lib.hid hzr
      have z0 := hzr.cell 0; have z1 := hzr.cell 1
      have hzl := hzr.lt
      clear hb0 hz hkg he hzr
      by_cases hlt : k < steps.length
      · obtain ⟨s, hs⟩ := get_of_lt hlt
        have C := checkL_any steps k s sa sc wr (HS.out.ext (Ext.below hwr)) hs (HQ.out.1 s (List.mem_of_getElem? hs))
        have hes := errSteps_cons (l := steps) hs
        rw [HE.out] at hes
        revert C hes
        generalize errStep steps s k = ev
        intro C hes
        replace C := Lib.hid C
        have HES := Lib.hid hes
        clear hes hs
        by_cases hev : ev = 0
        · have hb : (ev != 0) = false := by simpa using hev
          have HE2 := HES.out
          rw [if_neg (by simpa using hev)] at HE2
          replace HE2 := Lib.hid HE2
          clear hev HES HE
          go_wp2_with fail
          refine C.out.mono ?_
          rintro e w2 ⟨rfl, hb2⟩
          have hw2 := below_then hwr hb2
          have hz2 := HZR.out.below' hb2
          clear hb2 C
          go_wp2
          go_roundg (gk - 1)
          case rel => exact ⟨k + 1, by have := HKG.out; omega, by go_num, hw2, hz2, HE2.out.symm⟩
          case measure => have := HKG.out; omega
        · have hb : (ev != 0) = true := by simpa using hev
          have hr : res = ev := by
            have h3 := HES.out
            rw [if_pos hev] at h3
            have := HR1.out
            rw [h3, if_pos hev] at this
            exact this.symm
          subst hr
          clear hev HES HE HR1
          go_wp2_with fail
          refine C.out.mono ?_
          rintro e w2 ⟨rfl, hb2⟩
          have hw2 := below_then hwr hb2
          clear hb2 C
          go_wp2
          go_ret
          exact ⟨rfl, hw2⟩
      · have HR2 := HR1.out
        have hz3 : errSteps steps steps 0 = 0 := by
          rw [← HE.out, List.drop_eq_nil_of_le (by omega)]; rfl
        rw [if_neg (by rw [hz3]; simp)] at HR2
        replace HR2 := Lib.hid HR2
        obtain ⟨wo, rfl⟩ : ∃ wo : World, wo = wr := ⟨_, rfl⟩
        clear hz3 HR1 HE HKG
        go_wp2
        go_loopg [6, 7, 35] goals.length (fun g _ _ q wr => ∃ k : Nat, k + g = goals.length ∧ q = .int .i64 k ∧ Below w.heap.size w wr ∧ Blk wr w.heap.size 25 #[.slice sa steps.length sc, .slice ga goals.length gc] ∧ errGoals steps.length (goals.drop k) = errGoals steps.length goals)
        case atStart => exact ⟨0, by omega, rfl, hwr, HZR.out, rfl⟩
        case round =>
          clear HZR z0 z1 hzl hwr
          obtain ⟨k2, hkg, rfl, hwr, hzr, he⟩ := hrel
          have HKG := Lib.hid hkg
          have HE := Lib.hid he
          have HZR := Lib.hid hzr
          have z0 := hzr.cell 0; have z1 := hzr.cell 1
          have hzl := hzr.lt
          clear hkg he hzr
          by_cases hlt2 : k2 < goals.length
          · obtain ⟨s, hs⟩ := get_of_lt hlt2
            obtain ⟨b, off, rfl, p, hC, hP, hki⟩ := (HG.out.ext (Ext.below hwr)).2.2 k2 s hs
            have hP' : PartsR (wr.alloc (.cells #[.int .i64 s.kind, .slice p.aa s.args.length p.ac, .bool s.ratio.neg, .slice p.na s.ratio.num.length p.nc, .slice p.da s.ratio.den.length p.dc] 39)) p s.args s.ratio := hP.ext (ext_alloc _ _)
            have C := rightP_any s steps.length p _ hP' (HQ.out.2 s (List.mem_of_getElem? hs)) (by constructor <;> omega) hki
            obtain ⟨c0, c1, c2, c3, c4⟩ := hC
            have hes := errGoals_cons (n := steps.length) hs
            rw [HE.out] at hes
            unfold Fct.val at C
            revert C hes
            generalize errFct s steps.length = ev
            intro C hes
            replace C := Lib.hid C
            have HES := Lib.hid hes
            have hw1 := hwr.alloc hwr.size (.cells #[.int .i64 s.kind, .slice p.aa s.args.length p.ac, .bool s.ratio.neg, .slice p.na s.ratio.num.length p.nc, .slice p.da s.ratio.den.length p.dc] 39)
            have hz1 := HZR.out.alloc (.cells #[.int .i64 s.kind, .slice p.aa s.args.length p.ac, .bool s.ratio.neg, .slice p.na s.ratio.num.length p.nc, .slice p.da s.ratio.den.length p.dc] 39)
            clear hes hs hP hP' hki
            by_cases hev : ev = 0
            · have hb : (ev != 0) = false := by simpa using hev
              have HE2 := HES.out
              rw [if_neg (by simpa using hev)] at HE2
              replace HE2 := Lib.hid HE2
              clear hev HES HE
              go_wp2_with fail
              refine C.out.mono ?_
              rintro e w2 ⟨rfl, hb2⟩
              have hw2 := below_then hw1 hb2
              have hz2 := hz1.below' hb2
              clear hb2 C
              go_wp2
              go_roundg (gk - 1)
              case rel => exact ⟨k2 + 1, by have := HKG.out; omega, by go_num, hw2, hz2, HE2.out.symm⟩
              case measure => have := HKG.out; omega
            · have hb : (ev != 0) = true := by simpa using hev
              have hr : res = ev := by
                have h3 := HES.out
                rw [if_pos hev] at h3
                rw [← h3]; exact HR2.out.symm
              subst hr
              clear hev HES HE HR2
              go_wp2_with fail
              refine C.out.mono ?_
              rintro e w2 ⟨rfl, hb2⟩
              have hw2 := below_then hw1 hb2
              clear hb2 C
              go_wp2
              go_ret
              exact ⟨rfl, hw2⟩
          · have hr : res = 0 := by
              have h3 := HE.out
              rw [List.drop_eq_nil_of_le (by omega)] at h3
              rw [← HR2.out, ← h3]; rfl
            subst hr
            go_wp2
            go_ret
            exact ⟨rfl, hwr⟩
end Go.Proofs.YtgbnadckhjfebaaRR

/- Right figures have few steps and few arguments. No walk. -/
namespace Go.Proofs.YtgbnadckhjfebaaRR
open Go.RowKit

theorem errStep_len {l : List Step} {s : Step} {i : Nat} (h : errStep l s i = 0) : s.args.length ≤ 4 := by
  unfold errStep at h
  split at h
  · omega
  split at h
  · omega
  · rename_i h1
    have := arity20_in s.kind
    simp at h1
    omega
theorem errFct_len {s : Fct} {n : Int} (h : errFct s n = 0) : s.args.length ≤ 8 := by
  unfold errFct at h
  split at h
  · omega
  split at h
  · omega
  · rename_i h1
    have := arity14_in s.kind
    simp at h1
    omega
theorem errGoals_of {n : Int} : ∀ {r : List Fct} {g : Fct}, errGoals n r = 0 → g ∈ r → errFct g n = 0
  | [], _, _, h => by cases h
  | s :: r, g, h, hg => by
    unfold errGoals at h
    by_cases h0 : errFct s n = 0
    · rw [if_neg (by simp [h0])] at h
      rcases List.mem_cons.1 hg with rfl | hg
      · exact h0
      · exact errGoals_of h hg
    · rw [if_pos h0] at h; exact absurd h h0
theorem Fig.lens {f : Fig} (h : f.err = 0) : (∀ s ∈ f.steps, s.args.length ≤ 100) ∧ (∀ g ∈ f.goals, g.args.length ≤ 100) ∧ f.steps.length ≤ 40 := by
  unfold Fig.err at h
  split at h
  · omega
  split at h
  · contradiction
  · rename_i h1 h2
    refine ⟨fun s hs => ?_, fun g hg => ?_, by omega⟩
    · obtain ⟨k, hk⟩ := List.mem_iff_getElem?.1 hs
      have := errStep_len (errSteps_at (by simpa using h2) hk)
      omega
    · have := errFct_len (errGoals_of h hg)
      omega
end Go.Proofs.YtgbnadckhjfebaaRR

/- How an argument that came in is opened: slices of whatever elements, and what they weigh. -/
namespace Go.Proofs.YtgbnadckhjfebaaRR
open Go.ChangeShapes Go.WideShapes Go.ChangeAt Go.RowKit

theorem len1 {α : Type} {l : List α} (h : l.length = 1) : ∃ x0, l = [x0] := by
  match l, h with
  | [x0], _ => exact ⟨x0, rfl⟩
theorem len2 {α : Type} {l : List α} (h : l.length = 2) : ∃ x0 x1, l = [x0, x1] := by
  match l, h with
  | [x0, x1], _ => exact ⟨x0, x1, rfl⟩
theorem len3 {α : Type} {l : List α} (h : l.length = 3) : ∃ x0 x1 x2, l = [x0, x1, x2] := by
  match l, h with
  | [x0, x1, x2], _ => exact ⟨x0, x1, x2, rfl⟩
theorem len4 {α : Type} {l : List α} (h : l.length = 4) : ∃ x0 x1 x2 x3, l = [x0, x1, x2, x3] := by
  match l, h with
  | [x0, x1, x2, x3], _ => exact ⟨x0, x1, x2, x3, rfl⟩
theorem len5 {α : Type} {l : List α} (h : l.length = 5) : ∃ x0 x1 x2 x3 x4, l = [x0, x1, x2, x3, x4] := by
  match l, h with
  | [x0, x1, x2, x3, x4], _ => exact ⟨x0, x1, x2, x3, x4, rfl⟩
theorem len6 {α : Type} {l : List α} (h : l.length = 6) : ∃ x0 x1 x2 x3 x4 x5, l = [x0, x1, x2, x3, x4, x5] := by
  match l, h with
  | [x0, x1, x2, x3, x4, x5], _ => exact ⟨x0, x1, x2, x3, x4, x5, rfl⟩
theorem len7 {α : Type} {l : List α} (h : l.length = 7) : ∃ x0 x1 x2 x3 x4 x5 x6, l = [x0, x1, x2, x3, x4, x5, x6] := by
  match l, h with
  | [x0, x1, x2, x3, x4, x5, x6], _ => exact ⟨x0, x1, x2, x3, x4, x5, x6, rfl⟩
theorem list_choose {α β : Type} {p : Nat → β → α → Prop} (l : List β) (h : ∀ i y, l[i]? = some y → ∃ z, p i y z) :
    ∃ zs : List α, zs.length = l.length ∧ ∀ (i : Nat) (z : α), zs[i]? = some z → ∃ y, l[i]? = some y ∧ p i y z := by
  induction l generalizing p with
  | nil => exact ⟨[], rfl, fun i z hz => by simp at hz⟩
  | cons x l ih =>
    obtain ⟨z0, h0⟩ := h 0 x rfl
    obtain ⟨zs, hl, hz⟩ := ih (p := fun i => p (i + 1)) (fun i y hy => h (i + 1) y (by simpa using hy))
    refine ⟨z0 :: zs, by simp [hl], fun i z hi => ?_⟩
    cases i with
    | zero => simp at hi; subst hi; exact ⟨x, rfl, h0⟩
    | succ i => simpa using hz i z (by simpa using hi)

theorem sum_le_bulk {H α : Type} (size : α → Nat) : ∀ (ds : List (DataW H)) (zs : List α), zs.length = ds.length → (∀ (i : Nat) (z : α) (d : DataW H), zs[i]? = some z → ds[i]? = some d → size z ≤ Rows.uptoBulk d) →
    (zs.map size).sum ≤ Rows.uptoBulkAll ds
  | [], zs, hl, _ => by
    have : zs = [] := List.eq_nil_of_length_eq_zero (by simpa using hl)
    subst this; simp
  | d :: ds, [], hl, _ => by simp at hl
  | d :: ds, z :: zs, hl, h => by
    have h0 := h 0 z d rfl rfl
    have h1 := sum_le_bulk size ds zs (by simpa using hl) (fun i z d hz hd => h (i + 1) z d (by simpa using hz) (by simpa using hd))
    simp only [List.map_cons, List.sum_cons, Rows.uptoBulkAll]
    omega

section
variable {H : Type} {enc : TypeId × Value → H} {P : Program} {W : World} {sp : Nat → Bool} {held : Bool}
/-- A SLICE OPENED: its elements as a list, what each is read as being told by 'conv' -/
theorem open_sl {t e : TypeId} {sz fuel : Nat} {cs : List Value} {x : DataW H × List MemPlace} (ht : P.underlying t = some (.slice e)) (hc : P.cellsOf e = sz) (hs : 0 < sz)
    (h : DataW.trod enc P W 0 sp held fuel t cs = some x) {α : Type} (E : World → Nat → Nat → α → Prop) (size : α → Nat)
    (conv : ∀ n cs' y b o, n < fuel → DataW.trod enc P W 0 sp held n e cs' = some y → cs'.length = sz → (∀ j, j < sz → W.cell? ⟨b, o + j, none⟩ = cs'[j]?) → ∃ z, E W b o z ∧ size z ≤ Rows.uptoBulk y.1) :
    ∃ (a : Option Addr) (cap : Nat) (zs : List α), cs = [.slice a zs.length cap] ∧ SlR sz E W a cap zs ∧ (zs.map size).sum + 1 ≤ Rows.uptoBulk x.1 := by
  rcases DataW.trod_slice ht h with ⟨rfl, rfl⟩ | ⟨a, len, cap, elems, rest, n, hn, rfl, rfl, _, hl, hm, hlen, hel, _, _⟩
  · exact ⟨none, 0, [], rfl, SlR.nil, by simp [Rows.uptoBulk]⟩
  · rw [hc] at hel
    have key : ∀ i y, elems[i]? = some y → ∃ z, (∃ b off, a = ⟨b, off, none⟩ ∧ E W b (off + i * sz) z) ∧ size z ≤ Rows.uptoBulk y.1 := by
      intro i y hy
      have hi : i < len := by rw [← hlen]; exact lt_of_get hy
      have h1 := hel i hi
      rw [hy] at h1
      obtain ⟨cs', hcs, hty⟩ := Option.bind_eq_some_iff.1 h1
      obtain ⟨_, hl', hcell⟩ := World.cells?_some hcs
      have hspot : ∃ b off, a = ⟨b, off, none⟩ := by
        have h0 := hcell 0 hs
        rw [List.getElem?_eq_getElem (by omega)] at h0
        have := World.cell?_spot h0
        obtain ⟨b, off, spot⟩ := a
        by_cases hi0 : i * sz = 0
        · simp [Addr.add, hi0] at this
          subst this
          exact ⟨b, off, rfl⟩
        · have h2 := hel 0 (by omega)
          obtain ⟨y0, hy0⟩ := get_of_lt (xs := elems) (k := 0) (by omega)
          rw [hy0] at h2
          obtain ⟨cs0, hcs0, _⟩ := Option.bind_eq_some_iff.1 h2
          obtain ⟨_, hl0, hcell0⟩ := World.cells?_some hcs0
          have h3 := hcell0 0 hs
          rw [List.getElem?_eq_getElem (by omega)] at h3
          have := World.cell?_spot h3
          simp [Addr.add] at this
          subst this
          exact ⟨b, off, rfl⟩
      obtain ⟨b, off, rfl⟩ := hspot
      obtain ⟨z, hz, hsz⟩ := conv n cs' y b (off + i * sz) (by omega) hty hl' (fun j hj => by
        rw [← hcell j hj, add_plain, add_plain])
      exact ⟨z, ⟨b, off, rfl, hz⟩, hsz⟩
    obtain ⟨zs, hzl, hz⟩ := list_choose (p := fun i y z => (∃ b off, a = ⟨b, off, none⟩ ∧ E W b (off + i * sz) z) ∧ size z ≤ Rows.uptoBulk y.1) elems key
    refine ⟨some a, cap, zs, by rw [hzl, hlen], ⟨by omega, hm, fun k z hk => ?_⟩, ?_⟩
    · obtain ⟨y, hy, ⟨b, off, rfl, he⟩, _⟩ := hz k z hk
      exact ⟨b, off, rfl, he⟩
    · have h1 := sum_le_bulk size (elems.map (·.1)) zs (by simpa using hzl) (fun i z d hzi hd => by
        obtain ⟨y, hy, _, hs⟩ := hz i z hzi
        rw [List.getElem?_map, hy] at hd
        simp at hd; subst hd; exact hs)
      simp only [Rows.uptoBulk]
      omega
end

/-- one cell that holds an integer -/
theorem conv_int {H : Type} {enc : TypeId × Value → H} {P : Program} {W : World} {sp : Nat → Bool} {held : Bool} {e : TypeId} {k : IntKind} (he : P.underlying e = some (.int k)) (n : Nat) (cs' : List Value) (y : DataW H × List MemPlace) (b o : Nat)
    (h : DataW.trod enc P W 0 sp held n e cs' = some y) (hc : ∀ j, j < 1 → W.cell? ⟨b, o + j, none⟩ = cs'[j]?) : ∃ z, IntE k W b o z ∧ 1 ≤ Rows.uptoBulk y.1 := by
  obtain ⟨z, rfl, rfl, hw⟩ := DataW.trod_int he h
  exact ⟨z, ⟨by have := hc 0 (by omega); simpa using this, hw⟩, by simp [Rows.uptoBulk]⟩
theorem conv_str {H : Type} {enc : TypeId × Value → H} {P : Program} {W : World} {sp : Nat → Bool} {held : Bool} {e : TypeId} (he : P.underlying e = some .string) (n : Nat) (cs' : List Value) (y : DataW H × List MemPlace) (b o : Nat)
    (h : DataW.trod enc P W 0 sp held n e cs' = some y) (hc : ∀ j, j < 1 → W.cell? ⟨b, o + j, none⟩ = cs'[j]?) : ∃ z : ByteArray, StrE W b o z ∧ z.size + 1 ≤ Rows.uptoBulk y.1 := by
  obtain ⟨z, rfl, rfl, hw⟩ := DataW.trod_string he h
  exact ⟨z, by have := hc 0 (by omega); simpa [StrE] using this, by simp [Rows.uptoBulk]⟩

end Go.Proofs.YtgbnadckhjfebaaRR
