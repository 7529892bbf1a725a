/- Walks: the number of the point with a name, by the program and by the reference; whether a figure is small; strings compared. -/
import Derived.Test.YtmlldjcbijoheaaDoorNames
namespace Go.Proofs.YtmlldjcbijoheaaDoor
open Go.RowKit

/-- the place of n in a list whose first place is i, -1 if there is none -/
def findFrom (n : ByteArray) (i : Nat) : List ByteArray → Int
  | [] => -1
  | x :: r => if x = n then (i : Int) else findFrom n (i + 1) r
theorem findFrom_at {l : List ByteArray} {n x : ByteArray} {k : Nat} (h : l[k]? = some x) : findFrom n k (l.drop k) = if x = n then (k : Int) else findFrom n (k + 1) (l.drop (k + 1)) := by
  have hk := lt_of_get h
  rw [List.drop_eq_getElem_cons hk]
  have : l[k] = x := by rw [List.getElem?_eq_getElem hk] at h; exact Option.some.inj h
  rw [this, findFrom]
theorem findFrom_end {l : List ByteArray} {n : ByteArray} {k : Nat} (h : ¬ k < l.length) : findFrom n k (l.drop k) = -1 := by rw [List.drop_eq_nil_of_le (by omega)]; rfl

set_option maxHeartbeats 1000000 in
theorem indexS_any (l : List ByteArray) (n : ByteArray) (a : Option Addr) (c : Nat) (w : World) (h : StrsR w a c l) :
    Calls Tryd.prog 12 #[.slice a l.length c, .string n] w fun e w' => e = .returned (.int .i64 (findFrom n 0 l)) ∧ w = w' := by
  have H := Lib.hid h
  have hlen := h.len
  obtain ⟨r, hr⟩ : ∃ r, findFrom n 0 l = r := ⟨_, rfl⟩
  rw [hr]
  have HR := Lib.hid hr
  clear h hr
  go_enter Tryd.func12, Tryd.ntmps12
  go_wp2
  go_loop [5, 8] (fun _ q => ∃ k : Nat, k ≤ l.length ∧ q = .int .i64 k ∧ Hid (findFrom n k (l.drop k) = r)) (fun _ q => l.length - (intOf q).toNat)
  case atStart => exact ⟨0, by omega, rfl, HR.out⟩
  case round =>
    obtain ⟨k, hk, rfl, hp⟩ := hrel
    by_cases hlt : k < l.length
    · obtain ⟨x, hx⟩ := get_of_lt hlt
      obtain ⟨b, off, rfl, hc⟩ := H.out.2.2 k x hx
      have hc1 : w.cell? ⟨b, off + k, none⟩ = some (.string x) := by simpa [StrE] using hc
      have hpa := hp.out
      rw [findFrom_at hx] at hpa
      replace hpa := Lib.hid hpa
      clear hx hc
      by_cases he : x = n
      · have hb : (n.toList == x.toList) = true := by rw [str_beq]; simpa using he.symm
        have hrk : r = k := by have := hpa.out; rw [if_pos he] at this; exact this.symm
        subst hrk
        clear he
        go_wp2
        go_ret
        exact ⟨rfl, rfl⟩
      · have hb : (n.toList == x.toList) = false := by rw [str_beq]; simpa using fun e => he e.symm
        have hpn := hpa.out
        rw [if_neg he] at hpn
        replace hpn := Lib.hid hpn
        clear he
        go_wp2
        go_round
        case rel => exact ⟨k + 1, by omega, by go_num, hpn.out⟩
        case measure => simp [intOf]; omega
    · have hrk : r = -1 := by rw [← hp.out, findFrom_end hlt]
      subst hrk
      go_wp2
      go_ret
      exact ⟨rfl, rfl⟩

set_option maxRecDepth 100000 in
set_option maxHeartbeats 1000000 in
theorem find20_any (f : Fig) (n : ByteArray) (sa : Option Addr) (sc : Nat) (ga : Option Addr) (gc : Nat) (w : World) (h : FigR w sa sc ga gc f) (hl : f.steps.length ≤ 60) :
    Calls Tryd.prog 8 #[f.val sa sc ga gc, .string n] w fun e w' => e = .returned (.int .i64 (findFrom n 0 (namesTo f.steps f.steps.length))) ∧ Below w.heap.size w w' := by
  have CN := fun W (hW : Below w.heap.size w W) => names_any f sa sc ga gc W (h.ext (Ext.below hW)) hl
  revert CN
  generalize namesTo f.steps f.steps.length = L
  intro CN
  unfold Fig.val at CN ⊢
  replace CN := Lib.hid CN
  clear h
  go_enter Tryd.func8, Tryd.ntmps8
  go_wp2_with fail
  refine (CN.out _ ((Below.refl _ _).alloc (Nat.le_refl _) _)).mono ?_
  rintro e w1 ⟨a, c, rfl, ho, hb1⟩
  have hw1 := below_then1 (Below.refl _ w) hb1
  have CI := indexS_any L n a c w1 (OwnS.reads1 ho)
  replace CI := Lib.hid CI
  clear ho hb1
  go_wp2_with fail
  refine CI.out.mono ?_
  rintro e w2 ⟨rfl, rfl⟩
  go_wp2
  go_ret
  exact ⟨rfl, hw1⟩
set_option maxRecDepth 100000 in
set_option maxHeartbeats 1000000 in
theorem findR20_any (f : Fig) (n : ByteArray) (sa : Option Addr) (sc : Nat) (ga : Option Addr) (gc : Nat) (w : World) (h : FigR w sa sc ga gc f) (hl : f.steps.length ≤ 60) :
    Calls Tryd.prog 9 #[f.val sa sc ga gc, .string n] w fun e w' => e = .returned (.int .i64 (findFrom n 0 (namesTo f.steps f.steps.length))) ∧ Below w.heap.size w w' := by
  have CN := fun W (hW : Below w.heap.size w W) => namesR_any f sa sc ga gc W (h.ext (Ext.below hW)) hl
  have hln := namesTo_len f.steps f.steps.length
  revert CN hln
  generalize namesTo f.steps f.steps.length = L
  intro CN hln
  obtain ⟨r, hr⟩ : ∃ r, findFrom n 0 L = r := ⟨_, rfl⟩
  rw [hr]
  have HR := Lib.hid hr
  have hL : L.length ≤ 60 := by omega
  unfold Fig.val at CN ⊢
  replace CN := Lib.hid CN
  clear h hr hln
  go_enter Tryd.func9, Tryd.ntmps9
  go_wp2_with fail
  refine (CN.out _ ((Below.refl _ _).alloc (Nat.le_refl _) _)).mono ?_
  rintro e w1 ⟨a, c, rfl, ho, hb1⟩
  have hw1 := below_then1 (Below.refl _ w) hb1
  have H := Lib.hid (OwnS.reads1 ho)
  clear ho hb1 CN
  go_wp2
  go_loop [5, 6, 10] (fun _ _ q => ∃ k : Nat, k ≤ L.length ∧ q = .int .i64 k ∧ Hid (findFrom n k (L.drop k) = r)) (fun _ _ q => L.length - (intOf q).toNat)
  case atStart => exact ⟨0, by omega, rfl, HR.out⟩
  case round =>
    obtain ⟨k, hk, rfl, hp⟩ := hrel
    by_cases hlt : k < L.length
    · obtain ⟨x, hx⟩ := get_of_lt hlt
      obtain ⟨b, off, rfl, hc⟩ := H.out.2.2 k x hx
      have hc1 : w1.cell? ⟨b, off + k, none⟩ = some (.string x) := by simpa [StrE] using hc
      have hpa := hp.out
      rw [findFrom_at hx] at hpa
      replace hpa := Lib.hid hpa
      clear hx hc
      by_cases he : x = n
      · have hb : (x.toList == n.toList) = true := by rw [str_beq]; simpa using he
        have hrk : r = k := by have := hpa.out; rw [if_pos he] at this; exact this.symm
        subst hrk
        clear he
        go_wp2
        go_ret
        exact ⟨rfl, hw1⟩
      · have hb : (x.toList == n.toList) = false := by rw [str_beq]; simpa using he
        have hpn := hpa.out
        rw [if_neg he] at hpn
        replace hpn := Lib.hid hpn
        clear he
        go_wp2
        go_round
        case rel => exact ⟨k + 1, by omega, by go_num, hpn.out⟩
        case measure => simp [intOf]; omega
    · have hrk : r = -1 := by rw [← hp.out, findFrom_end hlt]
      subst hrk
      go_wp2
      go_ret
      exact ⟨rfl, hw1⟩

set_option maxHeartbeats 400000 in
theorem sameStrings20_eq (xs : List ByteArray) (a a' : Option Addr) (c c' : Nat) (w : World) (h : StrsR w a c xs) (h' : StrsR w a' c' xs) :
    Calls Tryd.prog 5 #[.slice a xs.length c, .slice a' xs.length c'] w fun r w' => r = .returned (.bool true) ∧ Below w.heap.size w w' := by
  have H := Lib.hid h
  have H' := Lib.hid h'
  have hl := h.len
  clear h h'
  go_enter Tryd.func5, Tryd.ntmps5
  go_wp2
  go_loopw [5, 13] (fun _ i wr => ∃ k : Nat, k ≤ xs.length ∧ i = .int .i64 k ∧ Below w.heap.size w wr) (fun _ i _ => xs.length - (intOf i).toNat)
  case atStart => exact ⟨0, by omega, rfl, Below.refl _ _⟩
  case round =>
    obtain ⟨k, hk, rfl, hb⟩ := hrel
    by_cases hlt : k < xs.length
    · obtain ⟨x, hx⟩ := get_of_lt hlt
      obtain ⟨b, off, rfl, hE⟩ := H.out.2.2 k x hx
      obtain ⟨b', off', rfl, hE'⟩ := H'.out.2.2 k x hx
      have hc : wr.cell? ⟨b, off + k, none⟩ = some (.string x) := by have := hE.ext (Ext.below hb); simpa [StrE] using this
      have hc' : wr.cell? ⟨b', off' + k, none⟩ = some (.string x) := by have := hE'.ext (Ext.below hb); simpa [StrE] using this
      have hbe : (x.toList != x.toList) = false := by simp
      clear hx hE hE'
      go_wp2
      go_quiet (fail)
      go_wp2
      refine ⟨⟨k + 1, by omega, by go_num, below_drewN hb _⟩, by simp [intOf]; omega⟩
    · go_wp2
      go_ret
      exact ⟨rfl, hb⟩
end Go.Proofs.YtmlldjcbijoheaaDoor

