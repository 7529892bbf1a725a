/- How an argument that came in is opened: slices of whatever elements, and what they weigh. -/
import Derived.Test.YtmlldjcbijoheaaDoorBase
import Derived.Test.YtmlldjcbijoheaaDoorRows
namespace Go.Proofs.YtmlldjcbijoheaaDoor
open Go.ChangeShapes Go.WideShapes Go.ChangeAt Go.RowKit

theorem len1 {α : Type} {l : List α} (h : l.length = 1) : ∃ x0, l = [x0] := by
  match l, h with
  | [x0], _ => exact ⟨x0, rfl⟩
theorem len2 {α : Type} {l : List α} (h : l.length = 2) : ∃ x0 x1, l = [x0, x1] := by
  match l, h with
  | [x0, x1], _ => exact ⟨x0, x1, rfl⟩
theorem len3 {α : Type} {l : List α} (h : l.length = 3) : ∃ x0 x1 x2, l = [x0, x1, x2] := by
  match l, h with
  | [x0, x1, x2], _ => exact ⟨x0, x1, x2, rfl⟩
theorem len4 {α : Type} {l : List α} (h : l.length = 4) : ∃ x0 x1 x2 x3, l = [x0, x1, x2, x3] := by
  match l, h with
  | [x0, x1, x2, x3], _ => exact ⟨x0, x1, x2, x3, rfl⟩
theorem len5 {α : Type} {l : List α} (h : l.length = 5) : ∃ x0 x1 x2 x3 x4, l = [x0, x1, x2, x3, x4] := by
  match l, h with
  | [x0, x1, x2, x3, x4], _ => exact ⟨x0, x1, x2, x3, x4, rfl⟩
theorem len6 {α : Type} {l : List α} (h : l.length = 6) : ∃ x0 x1 x2 x3 x4 x5, l = [x0, x1, x2, x3, x4, x5] := by
  match l, h with
  | [x0, x1, x2, x3, x4, x5], _ => exact ⟨x0, x1, x2, x3, x4, x5, rfl⟩
theorem len7 {α : Type} {l : List α} (h : l.length = 7) : ∃ x0 x1 x2 x3 x4 x5 x6, l = [x0, x1, x2, x3, x4, x5, x6] := by
  match l, h with
  | [x0, x1, x2, x3, x4, x5, x6], _ => exact ⟨x0, x1, x2, x3, x4, x5, x6, rfl⟩
theorem list_choose {α β : Type} {p : Nat → β → α → Prop} (l : List β) (h : ∀ i y, l[i]? = some y → ∃ z, p i y z) :
    ∃ zs : List α, zs.length = l.length ∧ ∀ (i : Nat) (z : α), zs[i]? = some z → ∃ y, l[i]? = some y ∧ p i y z := by
  induction l generalizing p with
  | nil => exact ⟨[], rfl, fun i z hz => by simp at hz⟩
  | cons x l ih =>
    obtain ⟨z0, h0⟩ := h 0 x rfl
    obtain ⟨zs, hl, hz⟩ := ih (p := fun i => p (i + 1)) (fun i y hy => h (i + 1) y (by simpa using hy))
    refine ⟨z0 :: zs, by simp [hl], fun i z hi => ?_⟩
    cases i with
    | zero => simp at hi; subst hi; exact ⟨x, rfl, h0⟩
    | succ i => simpa using hz i z (by simpa using hi)

theorem sum_le_bulk {H α : Type} (size : α → Nat) : ∀ (ds : List (DataW H)) (zs : List α), zs.length = ds.length → (∀ (i : Nat) (z : α) (d : DataW H), zs[i]? = some z → ds[i]? = some d → size z ≤ Rows.uptoBulk d) →
    (zs.map size).sum ≤ Rows.uptoBulkAll ds
  | [], zs, hl, _ => by
    have : zs = [] := List.eq_nil_of_length_eq_zero (by simpa using hl)
    subst this; simp
  | d :: ds, [], hl, _ => by simp at hl
  | d :: ds, z :: zs, hl, h => by
    have h0 := h 0 z d rfl rfl
    have h1 := sum_le_bulk size ds zs (by simpa using hl) (fun i z d hz hd => h (i + 1) z d (by simpa using hz) (by simpa using hd))
    simp only [List.map_cons, List.sum_cons, Rows.uptoBulkAll]
    omega

section
variable {H : Type} {enc : TypeId × Value → H} {P : Program} {W : World} {sp : Nat → Bool} {held : Bool}
/-- A SLICE OPENED: its elements as a list, what each is read as being told by 'conv' -/
theorem open_sl {t e : TypeId} {sz fuel : Nat} {cs : List Value} {x : DataW H × List MemPlace} (ht : P.underlying t = some (.slice e)) (hc : P.cellsOf e = sz) (hs : 0 < sz)
    (h : DataW.trod enc P W 0 sp held fuel t cs = some x) {α : Type} (E : World → Nat → Nat → α → Prop) (size : α → Nat)
    (conv : ∀ n cs' y b o, n < fuel → DataW.trod enc P W 0 sp held n e cs' = some y → cs'.length = sz → (∀ j, j < sz → W.cell? ⟨b, o + j, none⟩ = cs'[j]?) → ∃ z, E W b o z ∧ size z ≤ Rows.uptoBulk y.1) :
    ∃ (a : Option Addr) (cap : Nat) (zs : List α), cs = [.slice a zs.length cap] ∧ SlR sz E W a cap zs ∧ (zs.map size).sum + 1 ≤ Rows.uptoBulk x.1 := by
  rcases DataW.trod_slice ht h with ⟨rfl, rfl⟩ | ⟨a, len, cap, elems, rest, n, hn, rfl, rfl, _, hl, hm, hlen, hel, _, _⟩
  · exact ⟨none, 0, [], rfl, SlR.nil, by simp [Rows.uptoBulk]⟩
  · rw [hc] at hel
    have key : ∀ i y, elems[i]? = some y → ∃ z, (∃ b off, a = ⟨b, off, none⟩ ∧ E W b (off + i * sz) z) ∧ size z ≤ Rows.uptoBulk y.1 := by
      intro i y hy
      have hi : i < len := by rw [← hlen]; exact lt_of_get hy
      have h1 := hel i hi
      rw [hy] at h1
      obtain ⟨cs', hcs, hty⟩ := Option.bind_eq_some_iff.1 h1
      obtain ⟨_, hl', hcell⟩ := World.cells?_some hcs
      have hspot : ∃ b off, a = ⟨b, off, none⟩ := by
        have h0 := hcell 0 hs
        rw [List.getElem?_eq_getElem (by omega)] at h0
        have := World.cell?_spot h0
        obtain ⟨b, off, spot⟩ := a
        by_cases hi0 : i * sz = 0
        · simp [Addr.add, hi0] at this
          subst this
          exact ⟨b, off, rfl⟩
        · have h2 := hel 0 (by omega)
          obtain ⟨y0, hy0⟩ := get_of_lt (xs := elems) (k := 0) (by omega)
          rw [hy0] at h2
          obtain ⟨cs0, hcs0, _⟩ := Option.bind_eq_some_iff.1 h2
          obtain ⟨_, hl0, hcell0⟩ := World.cells?_some hcs0
          have h3 := hcell0 0 hs
          rw [List.getElem?_eq_getElem (by omega)] at h3
          have := World.cell?_spot h3
          simp [Addr.add] at this
          subst this
          exact ⟨b, off, rfl⟩
      obtain ⟨b, off, rfl⟩ := hspot
      obtain ⟨z, hz, hsz⟩ := conv n cs' y b (off + i * sz) (by omega) hty hl' (fun j hj => by
        rw [← hcell j hj, add_plain, add_plain])
      exact ⟨z, ⟨b, off, rfl, hz⟩, hsz⟩
    obtain ⟨zs, hzl, hz⟩ := list_choose (p := fun i y z => (∃ b off, a = ⟨b, off, none⟩ ∧ E W b (off + i * sz) z) ∧ size z ≤ Rows.uptoBulk y.1) elems key
    refine ⟨some a, cap, zs, by rw [hzl, hlen], ⟨by omega, hm, fun k z hk => ?_⟩, ?_⟩
    · obtain ⟨y, hy, ⟨b, off, rfl, he⟩, _⟩ := hz k z hk
      exact ⟨b, off, rfl, he⟩
    · have h1 := sum_le_bulk size (elems.map (·.1)) zs (by simpa using hzl) (fun i z d hzi hd => by
        obtain ⟨y, hy, _, hs⟩ := hz i z hzi
        rw [List.getElem?_map, hy] at hd
        simp at hd; subst hd; exact hs)
      simp only [Rows.uptoBulk]
      omega
end

/-- one cell that holds an integer -/
theorem conv_int {H : Type} {enc : TypeId × Value → H} {P : Program} {W : World} {sp : Nat → Bool} {held : Bool} {e : TypeId} {k : IntKind} (he : P.underlying e = some (.int k)) (n : Nat) (cs' : List Value) (y : DataW H × List MemPlace) (b o : Nat)
    (h : DataW.trod enc P W 0 sp held n e cs' = some y) (hc : ∀ j, j < 1 → W.cell? ⟨b, o + j, none⟩ = cs'[j]?) : ∃ z, IntE k W b o z ∧ 1 ≤ Rows.uptoBulk y.1 := by
  obtain ⟨z, rfl, rfl, hw⟩ := DataW.trod_int he h
  exact ⟨z, ⟨by have := hc 0 (by omega); simpa using this, hw⟩, by simp [Rows.uptoBulk]⟩
theorem conv_str {H : Type} {enc : TypeId × Value → H} {P : Program} {W : World} {sp : Nat → Bool} {held : Bool} {e : TypeId} (he : P.underlying e = some .string) (n : Nat) (cs' : List Value) (y : DataW H × List MemPlace) (b o : Nat)
    (h : DataW.trod enc P W 0 sp held n e cs' = some y) (hc : ∀ j, j < 1 → W.cell? ⟨b, o + j, none⟩ = cs'[j]?) : ∃ z : ByteArray, StrE W b o z ∧ z.size + 1 ≤ Rows.uptoBulk y.1 := by
  obtain ⟨z, rfl, rfl, hw⟩ := DataW.trod_string he h
  exact ⟨z, by have := hc 0 (by omega); simpa [StrE] using this, by simp [Rows.uptoBulk]⟩

end Go.Proofs.YtmlldjcbijoheaaDoor

