/- The row of the law CertificateRights: for every input the call returns true, and each argument reads behind the call as it read before. Condition: none. -/
import Derived.Test.YtfahnnkppakiiaaCr5
import Derived.Test.YtfahnnkppakiiaaCr1
import Derived.LoopTactic
import Derived.Deep.LoopGhost
import Derived.Test.YtfahnnkppakiiaaRows
import Derived.Test.YtfahnnkppakiiaaCr16
import Derived.Test.YtfahnnkppakiiaaCr8
import Derived.JoinedCond
import Derived.ChangeMaps5

/- Walks: whether a certificate is small. -/
namespace Go.Proofs.Ytfahnnkppakiiaa
open Go.RowKit

set_option maxRecDepth 100000 in
set_option maxHeartbeats 4000000 in
theorem fitsPolys_any (l : List (List Trm)) (a : Option Addr) (c : Nat) (w : World) (h : PolysR w a c l) :
    Calls Try.prog 20 #[.slice a l.length c] w fun e w' => e = .returned (.bool (fitL l)) ∧ Below w.heap.size w w' := by
  have hlen := h.len
  obtain ⟨res, hres⟩ : ∃ x, fitL l = x := ⟨_, rfl⟩
  rw [hres]
  have HRES := Lib.hid hres
  have HP := Lib.hid h
  clear hres h
  go_enter Try.func20, Try.ntmps20
  go_wp2
  go_loopg [9] l.length (fun g q wr => ∃ k : Nat, k + g = l.length ∧ q = .int .i64 k ∧ Below w.heap.size w wr ∧ (l.take k).all fitP = true)
  case atStart => exact ⟨0, by omega, rfl, Below.refl _ _, rfl⟩
  case round =>
    obtain ⟨k, hkg, rfl, hwr, hall⟩ := hrel
    have HKG := Lib.hid hkg
    have HA := Lib.hid hall
    clear hkg hall
    obtain ⟨gko, rfl⟩ : ∃ x : Nat, x = gk := ⟨_, rfl⟩
    obtain ⟨wo, rfl⟩ : ∃ wo : World, wo = wr := ⟨_, rfl⟩
    by_cases hlt : k < l.length
    · obtain ⟨p, hp⟩ := get_of_lt hlt
      obtain ⟨b, off, hao, pa, pc, hc0, hPP⟩ := (HP.out.ext (Ext.below hwr)).2.2 k p hp
      subst hao
      have HPK := Lib.hid hp
      have HPP := Lib.hid hPP
      have hpl := hPP.len
      have hbl : b < wo.heap.size := World.block_lt_of_cell? wo _ hc0
      simp only [Nat.mul_one] at hc0
      clear hp hPP
      go_wp2
      go_loopg [15] p.length (fun g q wr => ∃ j : Nat, j + g = p.length ∧ q = .int .i64 j ∧ Below wo.heap.size wo wr ∧ (p.take j).all fitT = true)
      case atStart => exact ⟨0, by omega, rfl, Below.refl _ _, rfl⟩
      case round =>
        obtain ⟨j, hjg, rfl, hwj, hall⟩ := hrel
        have HJG := Lib.hid hjg
        have HJ := Lib.hid hall
        clear hjg hall
        by_cases hjl : j < p.length
        · obtain ⟨t, ht⟩ := get_of_lt hjl
          obtain ⟨b2, off2, hao2, q, hC, _⟩ := (HPP.out.ext (Ext.below hwj)).2.2 j t ht
          subst hao2
          obtain ⟨c0, c1, c2, c3⟩ := hC
          obtain ⟨aa, ac, na, nc, da, dc⟩ := q
          obtain ⟨⟨neg, num, den⟩, mono⟩ := t
          have HT := Lib.hid ht
          dsimp only at c0 c1 c2 c3
          have hbl2 : b2 < wr.heap.size := World.block_lt_of_cell? wr _ c0
          have hw2 := below_then hwr (hwj.alloc hwj.size (.cells #[.bool neg, .slice na num.length nc, .slice da den.length dc, .slice aa mono.length ac] 67))
          have hwj2 := hwj.alloc hwj.size (.cells #[.bool neg, .slice na num.length nc, .slice da den.length dc, .slice aa mono.length ac] 67)
          clear ht
          by_cases hm6 : 6 < mono.length
          · obtain rfl : res = false := by rw [← HRES.out]; exact fitL_term HPK.out HT.out (by unfold fitT; dsimp only; rw [decide_eq_false (by omega)]; simp)
            go_wp2
            go_ret
            exact ⟨rfl, hw2⟩
          · by_cases hn4 : 4 < num.length
            · obtain rfl : res = false := by rw [← HRES.out]; exact fitL_term HPK.out HT.out (by unfold fitT; dsimp only; rw [decide_eq_false (show ¬ num.length ≤ 4 by omega)]; simp)
              go_wp2
              go_ret
              exact ⟨rfl, hw2⟩
            · by_cases hd4 : 4 < den.length
              · obtain rfl : res = false := by rw [← HRES.out]; exact fitL_term HPK.out HT.out (by unfold fitT; dsimp only; rw [decide_eq_false (show ¬ den.length ≤ 4 by omega)]; simp)
                go_wp2
                go_ret
                exact ⟨rfl, hw2⟩
              · have hft : fitT ⟨⟨neg, num, den⟩, mono⟩ = true := by unfold fitT; dsimp only; simp only [Bool.and_eq_true, decide_eq_true_eq]; omega
                have HF := Lib.hid hft
                clear hft
                go_wp2
                go_roundg (gk - 1)
                case rel => exact ⟨j + 1, by have := HJG.out; omega, by go_num, hwj2, all_take HJ.out HT.out HF.out⟩
                case measure => have := HJG.out; omega
        · have HJ2 := HJ.out
          rw [show j = p.length by have := HJG.out; omega] at HJ2
          by_cases h8 : 8 < p.length
          · obtain rfl : res = false := by rw [← HRES.out]; exact fitL_long HPK.out h8
            clear HJ2
            go_wp2
            go_ret
            exact ⟨rfl, below_then hwr hwj⟩
          · have HF := Lib.hid (fitP_end HJ2 (by omega))
            have hwn := below_then hwr hwj
            clear HJ2
            go_wp2
            go_roundg (gko - 1)
            case rel => exact ⟨k + 1, by have := HKG.out; omega, by go_num, hwn, all_take HA.out HPK.out HF.out⟩
            case measure => have := HKG.out; omega
    · have HA2 := HA.out
      rw [show k = l.length by have := HKG.out; omega] at HA2
      have hr := HRES.out
      rw [fitL_end HA2] at hr
      clear HA2
      by_cases h6 : l.length ≤ 6
      · obtain rfl : res = true := by rw [← hr, decide_eq_true h6]
        clear hr
        go_wp2
        go_ret
        exact ⟨ret_bool (decide_eq_true (by omega)), hwr⟩
      · obtain rfl : res = false := by rw [← hr, decide_eq_false h6]
        clear hr
        go_wp2
        go_ret
        exact ⟨ret_bool (decide_eq_false (by omega)), hwr⟩

set_option maxRecDepth 100000 in
set_option maxHeartbeats 4000000 in
theorem fits30_any (F C : List (List Trm)) (P : List Int) (n : Int) (fa wa ca : Option Addr) (fc wc cc : Nat) (w : World) (h1 : PolysR w fa fc F) (h2 : IntsR w wa wc P) (h3 : PolysR w ca cc C) :
    Calls Try.prog 6 #[.agg #[.slice fa F.length fc, .slice wa P.length wc, .int .i64 n, .slice ca C.length cc]] w fun e w' => e = .returned (.bool (fitL F && fitL C && decide (P.length ≤ 6))) ∧ Below w.heap.size w w' := by
  have C1 := fun W (hW : Below w.heap.size w W) => fitsPolys_any F fa fc W (h1.ext (Ext.below hW))
  have C2 := fun W (hW : Below w.heap.size w W) => fitsPolys_any C ca cc W (h3.ext (Ext.below hW))
  have hl := h2.len
  revert C1 C2
  generalize fitL F = b1
  generalize fitL C = b2
  intro C1 C2
  replace C1 := Lib.hid C1; replace C2 := Lib.hid C2
  have hx := Blk.new w 25 #[.slice fa F.length fc, .slice wa P.length wc, .int .i64 n, .slice ca C.length cc]
  have hw0 : Below w.heap.size w (w.alloc (.cells #[.slice fa F.length fc, .slice wa P.length wc, .int .i64 n, .slice ca C.length cc] 25)) := (Below.refl _ _).alloc (Nat.le_refl _) _
  clear h1 h2 h3
  cases b1
  · go_enter Try.func6, Try.ntmps6
    go_wp2_with fail
    revert hx hw0
    generalize w.alloc (.cells #[.slice fa F.length fc, .slice wa P.length wc, .int .i64 n, .slice ca C.length cc] 25) = w0
    intro hx hw0
    have z0 := hx.cell 0
    go_wp2_with fail
    refine (C1.out _ hw0).mono ?_
    rintro e w1 ⟨rfl, hb1⟩
    have hw1 := below_then hw0 hb1
    go_wp2
    go_ret
    exact ⟨rfl, hw1⟩
  · cases b2
    · go_enter Try.func6, Try.ntmps6
      go_wp2_with fail
      revert hx hw0
      generalize w.alloc (.cells #[.slice fa F.length fc, .slice wa P.length wc, .int .i64 n, .slice ca C.length cc] 25) = w0
      intro hx hw0
      have z0 := hx.cell 0
      go_wp2_with fail
      refine (C1.out _ hw0).mono ?_
      rintro e w1 ⟨rfl, hb1⟩
      have hw1 := below_then hw0 hb1
      have z3 := (hx.below' hb1).cell 3
      go_wp2_with fail
      refine (C2.out _ hw1).mono ?_
      rintro e w2 ⟨rfl, hb2⟩
      have hw2 := below_then hw1 hb2
      go_wp2
      go_ret
      exact ⟨rfl, hw2⟩
    · have hd : decide ((P.length : Int) ≤ 6) = decide (P.length ≤ 6) := by rw [decide_eq_decide]; omega
      obtain ⟨b, hb⟩ : ∃ b, decide (P.length ≤ 6) = b := ⟨_, rfl⟩
      rw [hb] at hd ⊢
      have HD := Lib.hid hd
      clear hb hd
      · skip
        go_enter Try.func6, Try.ntmps6
        go_wp2_with fail
        revert hx hw0
        generalize w.alloc (.cells #[.slice fa F.length fc, .slice wa P.length wc, .int .i64 n, .slice ca C.length cc] 25) = w0
        intro hx hw0
        have z0 := hx.cell 0
        go_wp2_with fail
        refine (C1.out _ hw0).mono ?_
        rintro e w1 ⟨rfl, hb1⟩
        have hw1 := below_then hw0 hb1
        have hx1 := hx.below' hb1
        have z3 := hx1.cell 3
        go_wp2_with fail
        refine (C2.out _ hw1).mono ?_
        rintro e w2 ⟨rfl, hb2⟩
        have hw2 := below_then hw1 hb2
        have z1 := (hx1.below' hb2).cell 1
        go_wp2
        go_ret
        exact ⟨ret_bool (by rw [HD.out]; rfl), hw2⟩
end Go.Proofs.Ytfahnnkppakiiaa

/- How an argument that came in is opened: slices of whatever elements, and what they weigh. -/
namespace Go.Proofs.Ytfahnnkppakiiaa
open Go.ChangeShapes Go.WideShapes Go.ChangeAt Go.RowKit

theorem len1 {α : Type} {l : List α} (h : l.length = 1) : ∃ x0, l = [x0] := by
  match l, h with
  | [x0], _ => exact ⟨x0, rfl⟩
theorem len2 {α : Type} {l : List α} (h : l.length = 2) : ∃ x0 x1, l = [x0, x1] := by
  match l, h with
  | [x0, x1], _ => exact ⟨x0, x1, rfl⟩
theorem len3 {α : Type} {l : List α} (h : l.length = 3) : ∃ x0 x1 x2, l = [x0, x1, x2] := by
  match l, h with
  | [x0, x1, x2], _ => exact ⟨x0, x1, x2, rfl⟩
theorem len4 {α : Type} {l : List α} (h : l.length = 4) : ∃ x0 x1 x2 x3, l = [x0, x1, x2, x3] := by
  match l, h with
  | [x0, x1, x2, x3], _ => exact ⟨x0, x1, x2, x3, rfl⟩
theorem len5 {α : Type} {l : List α} (h : l.length = 5) : ∃ x0 x1 x2 x3 x4, l = [x0, x1, x2, x3, x4] := by
  match l, h with
  | [x0, x1, x2, x3, x4], _ => exact ⟨x0, x1, x2, x3, x4, rfl⟩
theorem len6 {α : Type} {l : List α} (h : l.length = 6) : ∃ x0 x1 x2 x3 x4 x5, l = [x0, x1, x2, x3, x4, x5] := by
  match l, h with
  | [x0, x1, x2, x3, x4, x5], _ => exact ⟨x0, x1, x2, x3, x4, x5, rfl⟩
theorem len7 {α : Type} {l : List α} (h : l.length = 7) : ∃ x0 x1 x2 x3 x4 x5 x6, l = [x0, x1, x2, x3, x4, x5, x6] := by
  match l, h with
  | [x0, x1, x2, x3, x4, x5, x6], _ => exact ⟨x0, x1, x2, x3, x4, x5, x6, rfl⟩
theorem list_choose {α β : Type} {p : Nat → β → α → Prop} (l : List β) (h : ∀ i y, l[i]? = some y → ∃ z, p i y z) :
    ∃ zs : List α, zs.length = l.length ∧ ∀ (i : Nat) (z : α), zs[i]? = some z → ∃ y, l[i]? = some y ∧ p i y z := by
  induction l generalizing p with
  | nil => exact ⟨[], rfl, fun i z hz => by simp at hz⟩
  | cons x l ih =>
    obtain ⟨z0, h0⟩ := h 0 x rfl
    obtain ⟨zs, hl, hz⟩ := ih (p := fun i => p (i + 1)) (fun i y hy => h (i + 1) y (by simpa using hy))
    refine ⟨z0 :: zs, by simp [hl], fun i z hi => ?_⟩
    cases i with
    | zero => simp at hi; subst hi; exact ⟨x, rfl, h0⟩
    | succ i => simpa using hz i z (by simpa using hi)

theorem sum_le_bulk {H α : Type} (size : α → Nat) : ∀ (ds : List (DataW H)) (zs : List α), zs.length = ds.length → (∀ (i : Nat) (z : α) (d : DataW H), zs[i]? = some z → ds[i]? = some d → size z ≤ Rows.uptoBulk d) →
    (zs.map size).sum ≤ Rows.uptoBulkAll ds
  | [], zs, hl, _ => by
    have : zs = [] := List.eq_nil_of_length_eq_zero (by simpa using hl)
    subst this; simp
  | d :: ds, [], hl, _ => by simp at hl
  | d :: ds, z :: zs, hl, h => by
    have h0 := h 0 z d rfl rfl
    have h1 := sum_le_bulk size ds zs (by simpa using hl) (fun i z d hz hd => h (i + 1) z d (by simpa using hz) (by simpa using hd))
    simp only [List.map_cons, List.sum_cons, Rows.uptoBulkAll]
    omega

section
variable {H : Type} {enc : TypeId × Value → H} {P : Program} {W : World} {sp : Nat → Bool} {held : Bool}
/-- A SLICE OPENED: its elements as a list, what each is read as being told by 'conv' -/
theorem open_sl {t e : TypeId} {sz fuel : Nat} {cs : List Value} {x : DataW H × List MemPlace} (ht : P.underlying t = some (.slice e)) (hc : P.cellsOf e = sz) (hs : 0 < sz)
    (h : DataW.trod enc P W 0 sp held fuel t cs = some x) {α : Type} (E : World → Nat → Nat → α → Prop) (size : α → Nat)
    (conv : ∀ n cs' y b o, n < fuel → DataW.trod enc P W 0 sp held n e cs' = some y → cs'.length = sz → (∀ j, j < sz → W.cell? ⟨b, o + j, none⟩ = cs'[j]?) → ∃ z, E W b o z ∧ size z ≤ Rows.uptoBulk y.1) :
    ∃ (a : Option Addr) (cap : Nat) (zs : List α), cs = [.slice a zs.length cap] ∧ SlR sz E W a cap zs ∧ (zs.map size).sum + 1 ≤ Rows.uptoBulk x.1 := by
  rcases DataW.trod_slice ht h with ⟨rfl, rfl⟩ | ⟨a, len, cap, elems, rest, n, hn, rfl, rfl, _, hl, hm, hlen, hel, _, _⟩
  · exact ⟨none, 0, [], rfl, SlR.nil, by simp [Rows.uptoBulk]⟩
  · rw [hc] at hel
    have key : ∀ i y, elems[i]? = some y → ∃ z, (∃ b off, a = ⟨b, off, none⟩ ∧ E W b (off + i * sz) z) ∧ size z ≤ Rows.uptoBulk y.1 := by
      intro i y hy
      have hi : i < len := by rw [← hlen]; exact lt_of_get hy
      have h1 := hel i hi
      rw [hy] at h1
      obtain ⟨cs', hcs, hty⟩ := Option.bind_eq_some_iff.1 h1
      obtain ⟨_, hl', hcell⟩ := World.cells?_some hcs
      have hspot : ∃ b off, a = ⟨b, off, none⟩ := by
        have h0 := hcell 0 hs
        rw [List.getElem?_eq_getElem (by omega)] at h0
        have := World.cell?_spot h0
        obtain ⟨b, off, spot⟩ := a
        by_cases hi0 : i * sz = 0
        · simp [Addr.add, hi0] at this
          subst this
          exact ⟨b, off, rfl⟩
        · have h2 := hel 0 (by omega)
          obtain ⟨y0, hy0⟩ := get_of_lt (xs := elems) (k := 0) (by omega)
          rw [hy0] at h2
          obtain ⟨cs0, hcs0, _⟩ := Option.bind_eq_some_iff.1 h2
          obtain ⟨_, hl0, hcell0⟩ := World.cells?_some hcs0
          have h3 := hcell0 0 hs
          rw [List.getElem?_eq_getElem (by omega)] at h3
          have := World.cell?_spot h3
          simp [Addr.add] at this
          subst this
          exact ⟨b, off, rfl⟩
      obtain ⟨b, off, rfl⟩ := hspot
      obtain ⟨z, hz, hsz⟩ := conv n cs' y b (off + i * sz) (by omega) hty hl' (fun j hj => by
        rw [← hcell j hj, add_plain, add_plain])
      exact ⟨z, ⟨b, off, rfl, hz⟩, hsz⟩
    obtain ⟨zs, hzl, hz⟩ := list_choose (p := fun i y z => (∃ b off, a = ⟨b, off, none⟩ ∧ E W b (off + i * sz) z) ∧ size z ≤ Rows.uptoBulk y.1) elems key
    refine ⟨some a, cap, zs, by rw [hzl, hlen], ⟨by omega, hm, fun k z hk => ?_⟩, ?_⟩
    · obtain ⟨y, hy, ⟨b, off, rfl, he⟩, _⟩ := hz k z hk
      exact ⟨b, off, rfl, he⟩
    · have h1 := sum_le_bulk size (elems.map (·.1)) zs (by simpa using hzl) (fun i z d hzi hd => by
        obtain ⟨y, hy, _, hs⟩ := hz i z hzi
        rw [List.getElem?_map, hy] at hd
        simp at hd; subst hd; exact hs)
      simp only [Rows.uptoBulk]
      omega
end

/-- one cell that holds an integer -/
theorem conv_int {H : Type} {enc : TypeId × Value → H} {P : Program} {W : World} {sp : Nat → Bool} {held : Bool} {e : TypeId} {k : IntKind} (he : P.underlying e = some (.int k)) (n : Nat) (cs' : List Value) (y : DataW H × List MemPlace) (b o : Nat)
    (h : DataW.trod enc P W 0 sp held n e cs' = some y) (hc : ∀ j, j < 1 → W.cell? ⟨b, o + j, none⟩ = cs'[j]?) : ∃ z, IntE k W b o z ∧ 1 ≤ Rows.uptoBulk y.1 := by
  obtain ⟨z, rfl, rfl, hw⟩ := DataW.trod_int he h
  exact ⟨z, ⟨by have := hc 0 (by omega); simpa using this, hw⟩, by simp [Rows.uptoBulk]⟩
theorem conv_str {H : Type} {enc : TypeId × Value → H} {P : Program} {W : World} {sp : Nat → Bool} {held : Bool} {e : TypeId} (he : P.underlying e = some .string) (n : Nat) (cs' : List Value) (y : DataW H × List MemPlace) (b o : Nat)
    (h : DataW.trod enc P W 0 sp held n e cs' = some y) (hc : ∀ j, j < 1 → W.cell? ⟨b, o + j, none⟩ = cs'[j]?) : ∃ z : ByteArray, StrE W b o z ∧ z.size + 1 ≤ Rows.uptoBulk y.1 := by
  obtain ⟨z, rfl, rfl, hw⟩ := DataW.trod_string he h
  exact ⟨z, by have := hc 0 (by omega); simpa [StrE] using this, by simp [Rows.uptoBulk]⟩

end Go.Proofs.Ytfahnnkppakiiaa

/- Rational numbers that came in, opened. -/
namespace Go.Proofs.Ytfahnnkppakiiaa
open Go.ChangeShapes Go.WideShapes Go.ChangeAt Go.RowKit

theorem cellsRat : Try.prog.cellsOf 33 = 3 := by kernel_rfl
theorem cellsInt : Try.prog.cellsOf 31 = 2 := by kernel_rfl
theorem cellsNat : Try.prog.cellsOf 29 = 1 := by kernel_rfl
theorem cellsInts : Try.prog.cellsOf 23 = 1 := by kernel_rfl
theorem cellsI : Try.prog.cellsOf 3 = 1 := by kernel_rfl
theorem cellsB : Try.prog.cellsOf 4 = 1 := by kernel_rfl
theorem cellsS : Try.prog.cellsOf 9 = 1 := by kernel_rfl
theorem cellsU16 : Try.prog.cellsOf 80 = 1 := by kernel_rfl

theorem list_sum_ones {α : Type} (l : List α) : (l.map fun _ => 1).sum = l.length := by induction l with
  | nil => rfl
  | cons x l ih => simp only [List.map_cons, List.sum_cons, ih, List.length_cons]; omega

section
variable {H : Type} {enc : TypeId × Value → H} {W : World} {sp : Nat → Bool} {held : Bool} {n : Nat}
theorem open_nat {cs : List Value} {y : DataW H × List MemPlace} (h : DataW.trod enc Try.prog W 0 sp held n 29 cs = some y) :
    ∃ a c zs, cs = [.slice a (List.length zs) c] ∧ NatR W a c zs ∧ zs.length + 1 ≤ Rows.uptoBulk y.1 := by
  obtain ⟨a, c, zs, h1, h2, h3⟩ := open_sl Try.underlying29 cellsU16 (by omega) h (IntE .u16) (fun _ => 1) (fun m cs' y b o _ ht _ hc => conv_int Try.underlying80 m cs' y b o ht hc)
  rw [list_sum_ones] at h3
  exact ⟨a, c, zs, h1, h2, h3⟩
theorem open_intsl {cs : List Value} {y : DataW H × List MemPlace} (h : DataW.trod enc Try.prog W 0 sp held n 23 cs = some y) :
    ∃ a c zs, cs = [.slice a (List.length zs) c] ∧ IntsR W a c zs ∧ zs.length + 1 ≤ Rows.uptoBulk y.1 := by
  obtain ⟨a, c, zs, h1, h2, h3⟩ := open_sl Try.underlying23 cellsI (by omega) h (IntE .i64) (fun _ => 1) (fun m cs' y b o _ ht _ hc => conv_int Try.underlying3 m cs' y b o ht hc)
  rw [list_sum_ones] at h3
  exact ⟨a, c, zs, h1, h2, h3⟩
theorem open_strsl {cs : List Value} {y : DataW H × List MemPlace} (h : DataW.trod enc Try.prog W 0 sp held n 111 cs = some y) :
    ∃ a c zs, cs = [.slice a (List.length zs) c] ∧ StrsR W a c zs ∧ (zs.map fun s => s.size + 1).sum + 1 ≤ Rows.uptoBulk y.1 :=
  open_sl Try.underlying111 cellsS (by omega) h StrE (fun s => s.size + 1) (fun m cs' y b o _ ht _ hc => conv_str Try.underlying9 m cs' y b o ht hc)
theorem open_intst {cs : List Value} {y : DataW H × List MemPlace} (h : DataW.trod enc Try.prog W 0 sp held n 31 cs = some y) :
    ∃ b a c zs, cs = [.bool b, .slice a (List.length zs) c] ∧ NatR W a c zs ∧ zs.length + 2 ≤ Rows.uptoBulk y.1 := by
  obtain ⟨xs, m, rfl, rfl, hcl, hxl, hf⟩ := DataW.trod_struct Try.underlying31 h
  rw [cellsInt] at hcl
  obtain ⟨c0, c1, rfl⟩ := len2 hcl
  obtain ⟨y0, y1, rfl⟩ := len2 (show xs.length = 2 from hxl)
  · have h0 := hf 0 _ rfl
    have h1 := hf 1 _ rfl
    simp [cellsB, cellsNat] at h0 h1
    obtain ⟨b, e0, rfl⟩ := DataW.trod_bool Try.underlying4 h0
    obtain ⟨a, c, zs, e1, h2, h3⟩ := open_nat h1
    simp at e0 e1; subst e0; subst e1
    refine ⟨b, a, c, zs, rfl, h2, ?_⟩
    simp [Rows.uptoBulk, Rows.uptoBulkAll] at h3 ⊢
    omega
theorem open_rat {cs : List Value} {y : DataW H × List MemPlace} (h : DataW.trod enc Try.prog W 0 sp held n 33 cs = some y) :
    ∃ b na nc num da dc den, cs = [.bool b, .slice na (List.length num) nc, .slice da (List.length den) dc] ∧ NatR W na nc num ∧ NatR W da dc den ∧ num.length + den.length + 2 ≤ Rows.uptoBulk y.1 := by
  obtain ⟨xs, m, rfl, rfl, hcl, hxl, hf⟩ := DataW.trod_struct Try.underlying33 h
  rw [cellsRat] at hcl
  obtain ⟨c0, c1, c2, rfl⟩ := len3 hcl
  obtain ⟨y0, y1, rfl⟩ := len2 (show xs.length = 2 from hxl)
  · have h0 := hf 0 _ rfl
    have h1 := hf 1 _ rfl
    simp [cellsInt, cellsNat] at h0 h1
    obtain ⟨b, na, nc, num, e0, h2, h3⟩ := open_intst h0
    obtain ⟨da, dc, den, e1, h4, h5⟩ := open_nat h1
    simp at e0 e1
    obtain ⟨rfl, rfl⟩ := e0
    subst e1
    refine ⟨b, na, nc, num, da, dc, den, rfl, h2, h4, ?_⟩
    simp [Rows.uptoBulk, Rows.uptoBulkAll] at h3 h5 ⊢
    omega
end
end Go.Proofs.Ytfahnnkppakiiaa

/- Polynomials and certificates that came in, opened. -/
namespace Go.Proofs.Ytfahnnkppakiiaa
open Go.ChangeShapes Go.WideShapes Go.ChangeAt Go.RowKit

theorem cellsTerm : Try.prog.cellsOf 67 = 4 := by kernel_rfl
theorem cellsMono : Try.prog.cellsOf 65 = 1 := by kernel_rfl
theorem cellsPoly : Try.prog.cellsOf 49 = 1 := by kernel_rfl
theorem cellsPolys : Try.prog.cellsOf 22 = 1 := by kernel_rfl
theorem cellsCrt : Try.prog.cellsOf 25 = 4 := by kernel_rfl

section
variable {H : Type} {enc : TypeId × Value → H} {W : World} {sp : Nat → Bool} {held : Bool}
theorem open_mono {n : Nat} {cs : List Value} {y : DataW H × List MemPlace} (h : DataW.trod enc Try.prog W 0 sp held n 65 cs = some y) :
    ∃ a c zs, cs = [.slice a (List.length zs) c] ∧ IntsR W a c zs := by
  obtain ⟨a, c, zs, h1, h2, _⟩ := open_sl Try.underlying65 cellsI (by omega) h (IntE .i64) (fun _ => 1) (fun m cs' y b o _ ht _ hc => conv_int Try.underlying3 m cs' y b o ht hc)
  exact ⟨a, c, zs, h1, h2⟩
theorem open_term {n : Nat} {cs : List Value} {y : DataW H × List MemPlace} (h : DataW.trod enc Try.prog W 0 sp held n 67 cs = some y) :
    ∃ (t : Trm) (p : RA), cs = [.bool t.coef.neg, .slice p.na t.coef.num.length p.nc, .slice p.da t.coef.den.length p.dc, .slice p.aa t.mono.length p.ac] ∧ PartsR W p t.mono t.coef := by
  obtain ⟨xs, m, rfl, rfl, hcl, hxl, hf⟩ := DataW.trod_struct Try.underlying67 h
  rw [cellsTerm] at hcl
  obtain ⟨c0, c1, c2, c3, rfl⟩ := len4 hcl
  obtain ⟨y0, y1, rfl⟩ := len2 (show xs.length = 2 from hxl)
  · have h0 := hf 0 _ rfl
    have h1 := hf 1 _ rfl
    simp [cellsRat, cellsMono] at h0 h1
    obtain ⟨neg, na, nc, num, da, dc, den, e0, r3, r4, _⟩ := open_rat h0
    obtain ⟨aa, ac, mono, e1, r2⟩ := open_mono h1
    simp at e0 e1
    obtain ⟨rfl, rfl, rfl⟩ := e0
    subst e1
    exact ⟨⟨⟨neg, num, den⟩, mono⟩, ⟨aa, ac, na, nc, da, dc⟩, rfl, r2, r3, r4⟩
theorem open_poly {n : Nat} {cs : List Value} {y : DataW H × List MemPlace} (h : DataW.trod enc Try.prog W 0 sp held n 49 cs = some y) :
    ∃ a c zs, cs = [.slice a (List.length zs) c] ∧ PolyR W a c zs := by
  obtain ⟨a, c, zs, h1, h2, _⟩ := open_sl Try.underlying49 cellsTerm (by omega) h TrmE (fun _ => 0) (fun m cs' y b o _ ht _ hc => by
      obtain ⟨t, p, rfl, hP⟩ := open_term ht
      refine ⟨t, ⟨p, ⟨?_, ?_, ?_, ?_⟩, hP⟩, by omega⟩
      · have := hc 0 (by omega); simpa using this
      · have := hc 1 (by omega); simpa using this
      · have := hc 2 (by omega); simpa using this
      · have := hc 3 (by omega); simpa using this)
  exact ⟨a, c, zs, h1, h2⟩
theorem open_polys {n : Nat} {cs : List Value} {y : DataW H × List MemPlace} (h : DataW.trod enc Try.prog W 0 sp held n 22 cs = some y) :
    ∃ a c zs, cs = [.slice a (List.length zs) c] ∧ PolysR W a c zs := by
  obtain ⟨a, c, zs, h1, h2, _⟩ := open_sl Try.underlying22 cellsPoly (by omega) h PolyE (fun _ => 0) (fun m cs' y b o _ ht _ hc => by
      obtain ⟨a, c, zs, rfl, hP⟩ := open_poly ht
      exact ⟨zs, ⟨a, c, by have := hc 0 (by omega); simpa using this, hP⟩, by omega⟩)
  exact ⟨a, c, zs, h1, h2⟩
set_option maxRecDepth 100000 in
/-- A CERTIFICATE THAT CAME IN -/
theorem open_certificate {r : Reach} {b0 : Nat} {v : Value} {d : DataW H} {p : List MemPlace} (hv : Value.okWide Try.prog W r b0 25 v) (h : DataW.Trod enc Try.prog W 0 sp held 25 v d p) :
    ∃ (c : Crt) (p : CA), v = c.val p ∧ CrtR W p c := by
  obtain ⟨cs, rfl, _⟩ := okWide_struct Try.underlying25 hv
  obtain ⟨n, hn⟩ := h
  obtain ⟨l⟩ := cs
  obtain ⟨xs, m, rfl, _, hcl, hxl, hf⟩ := DataW.trod_struct Try.underlying25 hn
  rw [cellsCrt] at hcl
  obtain ⟨c0, c1, c2, c3, hcs⟩ := len4 hcl
  simp only [Value.cells] at hcs
  have hcs' : l = [c0, c1, c2, c3] := by simpa using hcs
  subst hcs'
  obtain ⟨y0, y1, y2, y3, rfl⟩ := len4 (show xs.length = 4 from hxl)
  · have h0 := hf 0 _ rfl
    have h1 := hf 1 _ rfl
    have h2 := hf 2 _ rfl
    have h3 := hf 3 _ rfl
    simp [Value.cells, cellsPolys, cellsInts, cellsI] at h0 h1 h2 h3
    obtain ⟨fa, fc, F, e0, r0⟩ := open_polys h0
    obtain ⟨wa, wc, P, e1, r1, _⟩ := open_intsl h1
    obtain ⟨pw, e2, rfl, w2⟩ := DataW.trod_int Try.underlying3 h2
    obtain ⟨ca, cc, C, e3, r3⟩ := open_polys h3
    simp at e0 e1 e2 e3
    subst e0 e1 e2 e3
    exact ⟨⟨F, P, pw, C⟩, ⟨fa, fc, wa, wc, ca, cc⟩, rfl, r0, r1, r3, inInt_of w2⟩
end
end Go.Proofs.Ytfahnnkppakiiaa

/- The law CertificateRights, walked. -/
namespace Go.Proofs.Ytfahnnkppakiiaa
open Go.RowKit

theorem few_polys {l : List (List Trm)} (h : fitL l = true) : ∀ p ∈ l, ∀ t ∈ p, t.coef.num.length ≤ 2000000 ∧ t.coef.den.length ≤ 2000000 := fun p hp t ht => by
  have := ((fitL_mem h).2 p hp).2 t ht
  omega
set_option maxRecDepth 100000 in
set_option maxHeartbeats 4000000 in
theorem certificateRights_crt (F C : List (List Trm)) (P : List Int) (n : Int) (fa wa ca : Option Addr) (fc wc cc : Nat) (w : World) (h1 : PolysR w fa fc F) (h2 : IntsR w wa wc P) (h3 : PolysR w ca cc C) (hn : InInt n) :
    Calls Try.prog 3 #[.agg #[.slice fa F.length fc, .slice wa P.length wc, .int .i64 n, .slice ca C.length cc]] w fun e w' => e = .returned (.bool true) ∧ Below w.heap.size w w' := by
  have CF := fun W (hW : Below w.heap.size w W) => fits30_any F C P n fa wa ca fc wc cc W (h1.ext (Ext.below hW)) (h2.ext (Ext.below hW)) (h3.ext (Ext.below hW))
  obtain ⟨b, hb⟩ : ∃ x, (fitL F && fitL C && decide (P.length ≤ 6)) = x := ⟨_, rfl⟩
  rw [hb] at CF
  replace CF := Lib.hid CF
  have H1 := Lib.hid h1; have H2 := Lib.hid h2; have H3 := Lib.hid h3
  have hz := Blk.new w 25 #[.slice fa F.length fc, .slice wa P.length wc, .int .i64 n, .slice ca C.length cc]
  have hb0 : Below w.heap.size w (w.alloc (.cells #[.slice fa F.length fc, .slice wa P.length wc, .int .i64 n, .slice ca C.length cc] 25)) := (Below.refl _ _).alloc (Nat.le_refl _) _
  clear h1 h2 h3
  cases b
  · clear hb
    go_enter Try.func3, Try.ntmps3
    go_wp2
    revert hz hb0
    generalize w.alloc (.cells #[.slice fa F.length fc, .slice wa P.length wc, .int .i64 n, .slice ca C.length cc] 25) = w1
    intro hz hw1
    have z0 := held (hz.cell 0); have z1 := held (hz.cell 1); have z2 := held (hz.cell 2); have z3 := held (hz.cell 3)
    clear hz
    have s0 : Below w1.heap.size w1 w1.drew := (Below.refl _ _).drew
    refine wp_region_mix (S := Below w1.heap.size w1) [(0, .q), (1, .l), (2, .q), (3, .q), (4, .q), (6, .q), (5, .l), (7, .l), (8, .q), (9, .q), (10, .q), (12, .q), (11, .l), (13, .t), (14, .p), (15, .p), (16, .p), (17, .p)] (by kernel_rfl) (by kernel_rfl) (by kernel_rfl) (fun d _ _ _ _ h => by cases d <;> exact h) (s0) ?_
    iterate 1 (refine wpMix_q rfl rfl (fun K hK => ?_); apply Exists.intro; refine ⟨fun w' hw' => ?_, ?_⟩; (focus (go_simp; try rfl)); go_simp; refine hK _ _ ?_; clear hK K)
    refine wpMix_l rfl rfl (fun K hK => ?_)
    go_simp
    refine (CF.out _ (below_then hw1 s0)).mono ?_
    rintro r w2 ⟨rfl, hb2⟩
    dsimp only
    refine hK.out _ _ (below_then s0 hb2) (fun _ => ?_)
    clear hK K
    have s1 := below_then s0 hb2
    iterate 2 (refine wpMix_q rfl rfl (fun K hK => ?_); apply Exists.intro; refine ⟨fun w' hw' => ?_, ?_⟩; (focus (go_simp; try rfl)); go_simp; refine hK _ _ ?_; clear hK K)
    iterate 12 (refine wpMix_skip rfl rfl (fun K hK => ?_); go_simp; refine hK _ _ ?_; clear hK K)
    iterate 2 (refine wpMix_p rfl rfl (fun K hK => ?_); apply Exists.intro; refine ⟨fun w' => ?_, ?_⟩; (focus (go_simp; try rfl)); go_simp; refine hK _ _ ?_; clear hK K)
    refine wpMix_nil ?_
    go_wp2
    go_ret
    exact ⟨rfl, below_then hw1 s1⟩
  · simp only [Bool.and_eq_true, decide_eq_true_eq] at hb
    obtain ⟨⟨hf1, hf2⟩, _⟩ := hb
    have C1 := fun W (hW : Below w.heap.size w W) => crtP_any F C P n fa wa ca fc wc cc W (H1.out.ext (Ext.below hW)) (H2.out.ext (Ext.below hW)) (H3.out.ext (Ext.below hW)) hn (few_polys hf1) (few_polys hf2)
    have C2 := fun W (hW : Below w.heap.size w W) => crtR_any F C P n fa wa ca fc wc cc W (H1.out.ext (Ext.below hW)) (H2.out.ext (Ext.below hW)) (H3.out.ext (Ext.below hW)) hn (few_polys hf1) (few_polys hf2)
    have C3 := fun W (hW : Below w.heap.size w W) => sizeP_any F C P n fa wa ca fc wc cc W (H1.out.ext (Ext.below hW)) (H3.out.ext (Ext.below hW)) hf1 hf2
    have C4 := fun W (hW : Below w.heap.size w W) => sizeR_any F C P n fa wa ca fc wc cc W (H1.out.ext (Ext.below hW)) (H3.out.ext (Ext.below hW)) hf1 hf2
    clear hf1 hf2 hn
    revert C1 C2 C3 C4
    generalize crtB ⟨F, P, n, C⟩ = b1
    generalize ((F.map List.length).sum + (C.map List.length).sum) = sz
    intro C1 C2 C3 C4
    replace C1 := Lib.hid C1; replace C2 := Lib.hid C2; replace C3 := Lib.hid C3; replace C4 := Lib.hid C4
    have hself : (b1 == b1) = true := by cases b1 <;> rfl
    go_enter Try.func3, Try.ntmps3
    go_wp2
    revert hz hb0
    generalize w.alloc (.cells #[.slice fa F.length fc, .slice wa P.length wc, .int .i64 n, .slice ca C.length cc] 25) = w1
    intro hz hw1
    have z0 := held (hz.cell 0); have z1 := held (hz.cell 1); have z2 := held (hz.cell 2); have z3 := held (hz.cell 3)
    clear hz
    have s0 : Below w1.heap.size w1 w1.drew := (Below.refl _ _).drew
    refine wp_region_mix (S := Below w1.heap.size w1) [(0, .q), (1, .l), (2, .q), (3, .q), (4, .q), (6, .q), (5, .l), (7, .l), (8, .q), (9, .q), (10, .q), (12, .q), (11, .l), (13, .t), (14, .p), (15, .p), (16, .p), (17, .p)] (by kernel_rfl) (by kernel_rfl) (by kernel_rfl) (fun d _ _ _ _ h => by cases d <;> exact h) (s0) ?_
    iterate 1 (refine wpMix_q rfl rfl (fun K hK => ?_); apply Exists.intro; refine ⟨fun w' hw' => ?_, ?_⟩; (focus (go_simp; try rfl)); go_simp; refine hK _ _ ?_; clear hK K)
    refine wpMix_l rfl rfl (fun K hK => ?_)
    go_simp
    refine (CF.out _ (below_then hw1 s0)).mono ?_
    rintro r w2 ⟨rfl, hb2⟩
    dsimp only
    refine hK.out _ _ (below_then s0 hb2) (fun _ => ?_)
    clear hK K
    have s1 := below_then s0 hb2
    iterate 4 (refine wpMix_q rfl rfl (fun K hK => ?_); apply Exists.intro; refine ⟨fun w' hw' => ?_, ?_⟩; (focus (go_simp; try rfl)); go_simp; refine hK _ _ ?_; clear hK K)
    refine wpMix_l rfl rfl (fun K hK => ?_)
    go_simp
    refine (C1.out _ (below_then hw1 s1)).mono ?_
    rintro r w3 ⟨rfl, hb3⟩
    dsimp only
    refine hK.out _ _ (below_then s1 hb3) (fun _ => ?_)
    clear hK K
    have s2 := below_then s1 hb3
    refine wpMix_l rfl rfl (fun K hK => ?_)
    go_simp
    refine (C2.out _ (below_then hw1 s2)).mono ?_
    rintro r w4 ⟨rfl, hb4⟩
    dsimp only
    refine hK.out _ _ (below_then s2 hb4) (fun _ => ?_)
    clear hK K
    have s3 := below_then s2 hb4
    iterate 4 (refine wpMix_q rfl rfl (fun K hK => ?_); apply Exists.intro; refine ⟨fun w' hw' => ?_, ?_⟩; (focus (go_simp; try rfl)); go_simp; refine hK _ _ ?_; clear hK K)
    refine wpMix_l rfl rfl (fun K hK => ?_)
    go_simp
    refine (C3.out _ (below_then hw1 s3)).mono ?_
    rintro r w5 ⟨rfl, hb5⟩
    dsimp only
    refine hK.out _ _ (below_then s3 hb5) (fun _ => ?_)
    clear hK K
    have s4 := below_then s3 hb5
    refine wpMix_t rfl rfl (fun K hK => ?_)
    go_simp
    refine (C4.out _ (below_then hw1 s4)).mono ?_
    rintro r w6 ⟨rfl, hb6⟩
    dsimp only
    refine hK.out _ _ ?_
    clear hK K
    have s5 := below_then s4 hb6
    iterate 4 (refine wpMix_p rfl rfl (fun K hK => ?_); apply Exists.intro; refine ⟨fun w' => ?_, ?_⟩; (focus (go_simp; try rfl)); go_simp; refine hK _ _ ?_; clear hK K)
    refine wpMix_nil ?_
    go_wp2
    go_ret
    exact ⟨ret_bool (by simp), below_then hw1 s5⟩
theorem certificateRights_law {v : Value} {w : World} (h : ∃ (c : Crt) (p : CA), v = c.val p ∧ CrtR w p c) :
    Calls Try.prog 3 #[v] w fun r w' => r = .returned (.bool true) ∧ Below w.heap.size w w' := by
  obtain ⟨⟨F, P, n, C⟩, ⟨fa, fc, wa, wc, ca, cc⟩, rfl, h1, h2, h3, h4⟩ := h
  exact certificateRights_crt F C P n fa wa ca fc wc cc w h1 h2 h3 h4
end Go.Proofs.Ytfahnnkppakiiaa

/- How a law's row is closed: the call answers true and turns nothing that was there before, so each argument reads as it did. No function of the program in sight. -/
namespace Go.Proofs.Ytfahnnkppakiiaa
open Go.ChangeShapes Go.WideShapes Go.ChangeAt Go.RowKit

theorem trodAll_below {H : Type} {enc : TypeId × Value → H} {P : Program} (hl : laidOutB P = true) {W W' : World} (hB : Below W.heap.size W W') :
    ∀ (ts : List TypeId) (vs : List Value) (ds : List (DataW H)) (p : List MemPlace), (ts.all fun t => P.readableRec t && decide (t < P.types.size)) = true →
      (∀ x ∈ p, x.block < W.heap.size) → DataW.TrodAll enc P W 0 (fun _ => true) true ts vs ds p → DataW.TrodAll enc P W' 0 (fun b => decide (b < W.heap.size)) true ts vs ds p := by
  intro ts
  induction ts with
  | nil => intro vs ds p _ _ h; cases vs <;> cases ds <;> first | exact h | exact h.elim
  | cons t ts ih =>
    intro vs ds p ha hp h
    cases vs with
    | nil => exact h.elim
    | cons v vs =>
      cases ds with
      | nil => exact h.elim
      | cons d ds =>
        obtain ⟨p1, q1, h1, h2, rfl⟩ := h
        simp only [List.all_cons, Bool.and_eq_true, decide_eq_true_eq] at ha
        exact ⟨p1, q1, Below.trod hl ha.1.1 ha.1.2 h1 hB (fun x hx => hp x (by simp [hx])), ih vs ds q1 ha.2 (fun x hx => hp x (by simp [hx])) h2, rfl⟩

theorem law_post {H : Type} {enc : TypeId × Value → H} {P : Program} {f : Func} {s : ChangeSpec} {W W' : World} {args : Array Value} {ds gs : List (DataW H)} {before : List MemPlace} {tb : TypeId}
    (hl : laidOutB P = true) (hts : (f.params.toList.all fun t => P.readableRec t && decide (t < P.types.size)) = true) (hr : f.resultTypes = #[tb]) (hb : P.underlying tb = some .bool) (hv : s.vars = [])
    (hW : DataW.Whole enc P f.params.toList s.vars false W args.toList ds gs before) (hfn : s.fn H (ds ++ gs) = { results := [.lit (.bool true)], args := ds, vars := [] })
    (hB : Below W.heap.size W W') : s.post enc P f false true false false W args (.bool true) W' := by
  have hlt := hW.lt
  have hW0 := hW
  obtain ⟨p, q, hA, hV, rfl, _, _⟩ := hW
  rw [hv] at hV
  obtain ⟨rfl, rfl⟩ := trodVars_none hV
  refine ⟨ds, _, _, [], p, [], hW0, ?_, ?_, ?_, hB.frame _, fun h => by cases h⟩
  · rw [hfn, hr]
    exact trodAll_mk1 (shut_bool hb true)
  · rw [hfn]
    exact trodAll_below hl hB _ _ _ _ hts (fun x hx => by simpa using hlt x (by simp [hx])) hA
  · rw [hfn, hv]
    rfl
end Go.Proofs.Ytfahnnkppakiiaa

/- The row of the law CertificateRights: for every input the call returns true, and each argument reads behind the call as it read before. Condition: none. -/
namespace Go.Proofs.Ytfahnnkppakiiaa.certificateRights
open Go.ChangeShapes Go.WideShapes Go.ChangeAt Go.RowKit
set_option linter.unusedVariables false

theorem own : ownKnob Try.prog.godebug = none := by kernel_rfl
theorem laidOut : laidOutB Try.prog = true := by kernel_rfl
theorem readable : (Try.f3.params.toList.all fun t => Try.prog.readableRec t && decide (t < Try.prog.types.size)) = true := by kernel_rfl

set_option maxRecDepth 100000 in
theorem contract (H : Type) (enc : TypeId × Value → H) (W : World) (base : Nat) (args : Array Value) (ds gs : List (DataW H)) (before : List MemPlace)
    (hval : ∀ (j : Nat) t v, Try.f3.params[j]? = some t → args[j]? = some v → Value.okWide Try.prog W .any base t v)
    (hW : DataW.Whole enc Try.prog Try.f3.params.toList Rows.certificateRightsSpec.vars false W args.toList ds gs before) :
    Calls Try.prog 3 args W fun e W' => ∃ v, e = .returned v ∧ Rows.certificateRightsSpec.post enc Try.prog Try.f3 false true false false W args v W' := by
  have hW' := hW
  obtain ⟨p, q, hA0, hV, rfl, hfz, hnd⟩ := hW
  have hA : DataW.TrodAll enc Try.prog W 0 (fun _ => true) true Try.f3.params.toList args.toList ds p := hA0
  rw [Try.params3] at hA hval
  obtain ⟨v0, vs0, d0, ds0, p0, q0, hargs, rfl, rfl, h0, r0⟩ := trodAll_cons hA
  obtain ⟨rfl, rfl, rfl⟩ := trodAll_nil r0
  obtain rfl : args = #[v0] := by cases args; simp_all
  obtain ⟨rfl, rfl⟩ := trodVars_none hV
  clear hA0 hA r0
  have hx0 := open_certificate (hval 0 25 v0 rfl rfl) h0
  refine (certificateRights_law hx0).mono fun e W' ⟨he, hg⟩ => ?_
  subst he
  exact ⟨_, rfl, law_post laidOut readable (by kernel_rfl) Try.underlying4 rfl hW' (by rfl) hg⟩

set_option maxRecDepth 100000 in
theorem lifted (os : Os) (started : os.Started) (H : Type) (enc : TypeId × Value → H) :
    ReturnsInHanded {} Try.checked os 3 .any (Rows.certificateRightsSpec.pre6 enc Try.prog Try.f3 Rows.certificateRightsRow.domain false) (Rows.certificateRightsSpec.post enc Try.prog Try.f3 false true false false) := by
  refine returnsInHanded_of_change (C := Try.checked) own started (by kernel_rfl) Try.func3
    (ChangeSpec.witness6 (enc := enc) (C := Try.checked) false ⟨#[], #[.agg #[.slice none 0 0, .slice none 0 0, .int .i64 0, .slice none 0 0]], []⟩ 8 (by kernel_rfl) (by kernel_rfl) (by kernel_rfl) (by kernel_rfl)) ?_
  intro W base args ds gs before hval hW _ _
  exact contract H enc W base args ds gs before hval hW

theorem proved : Rows.CertificateRightsSaid :=
  OpenClaim.holds_of_wide 3 Try.f3 rfl rfl rfl rfl rfl rfl rfl ⟨rfl, rfl, rfl, rfl, rfl⟩ rfl rfl rfl rfl rfl (by kernel_rfl) Try.func3 (by kernel_rfl)
    (of_decide_eq_true (by kernel_rfl)) (by unfold Func.isWrapper; first | (rw [if_pos (by decide +kernel)]; kernel_rfl) | (rw [if_neg (by decide +kernel)]; exact ⟨rfl, rfl⟩))
    (fun os started H enc _ => lifted os started H enc)
#print axioms proved
end Go.Proofs.Ytfahnnkppakiiaa.certificateRights
