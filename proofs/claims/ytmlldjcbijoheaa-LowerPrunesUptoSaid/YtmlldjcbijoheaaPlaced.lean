/- Walks: the places of numbers in a list, by the reference and by the program. -/
import Derived.Test.YtmlldjcbijoheaaPruneP
import Derived.Test.YtmlldjcbijoheaaNeedsQ
namespace Go.Proofs.Ytmlldjcbijoheaa
open Go.RowKit

set_option maxHeartbeats 1000000 in
theorem placeR_any (l : List Int) (n : Int) (a : Option Addr) (c : Nat) (w : World) (h : IntsR w a c l) :
    Calls Try.prog 95 #[.slice a l.length c, .int .i64 n] w fun e w' => e = .returned (.int .i64 (place l n)) ∧ w = w' := by
  have H := Lib.hid h
  have hlen := h.len
  obtain ⟨r, hr⟩ : ∃ r, place l n = r := ⟨_, rfl⟩
  rw [hr]
  have HR := Lib.hid hr
  clear h hr
  go_enter Try.func95, Try.ntmps95
  go_wp2
  go_loop [5, 6, 9] (fun _ _ q => ∃ k : Nat, k ≤ l.length ∧ q = .int .i64 k ∧ Hid (placeFrom n k (l.drop k) = r)) (fun _ _ q => l.length - (intOf q).toNat)
  case atStart => exact ⟨0, by omega, rfl, HR.out⟩
  case round =>
    obtain ⟨k, hk, rfl, hp⟩ := hrel
    by_cases hlt : k < l.length
    · obtain ⟨x, hx⟩ := get_of_lt hlt
      obtain ⟨b, off, rfl, hc⟩ := H.out.2.2 k x hx
      have hc1 : w.cell? ⟨b, off + k, none⟩ = some (.int .i64 x) := by simpa using hc.1
      have hpa := hp.out
      rw [placeFrom_at hx] at hpa
      replace hpa := Lib.hid hpa
      clear hx hc
      by_cases he : x = n
      · have hb : (x == n) = true := by simpa using he
        have hrk : r = k := by have := hpa.out; rw [if_pos he] at this; exact this.symm
        subst hrk
        clear he
        go_wp2
        go_ret
        exact ⟨rfl, rfl⟩
      · have hb : (x == n) = false := by simpa using he
        have hpn := hpa.out
        rw [if_neg he] at hpn
        replace hpn := Lib.hid hpn
        clear he
        go_wp2
        go_round
        case rel => exact ⟨k + 1, by omega, by go_num, hpn.out⟩
        case measure => simp [intOf]; omega
    · have hrk : r = -1 := by rw [← hp.out, placeFrom_end hlt]
      subst hrk
      go_wp2
      go_ret
      exact ⟨rfl, rfl⟩
set_option maxHeartbeats 1000000 in
theorem index_any (l : List Int) (n : Int) (a : Option Addr) (c : Nat) (w : World) (h : IntsR w a c l) :
    Calls Try.prog 62 #[.slice a l.length c, .int .i64 n] w fun e w' => e = .returned (.int .i64 (place l n)) ∧ w = w' := by
  have H := Lib.hid h
  have hlen := h.len
  obtain ⟨r, hr⟩ : ∃ r, place l n = r := ⟨_, rfl⟩
  rw [hr]
  have HR := Lib.hid hr
  clear h hr
  go_enter Try.func62, Try.ntmps62
  go_wp2
  go_loop [5, 8] (fun _ q => ∃ k : Nat, k ≤ l.length ∧ q = .int .i64 k ∧ Hid (placeFrom n k (l.drop k) = r)) (fun _ q => l.length - (intOf q).toNat)
  case atStart => exact ⟨0, by omega, rfl, HR.out⟩
  case round =>
    obtain ⟨k, hk, rfl, hp⟩ := hrel
    by_cases hlt : k < l.length
    · obtain ⟨x, hx⟩ := get_of_lt hlt
      obtain ⟨b, off, rfl, hc⟩ := H.out.2.2 k x hx
      have hc1 : w.cell? ⟨b, off + k, none⟩ = some (.int .i64 x) := by simpa using hc.1
      have hpa := hp.out
      rw [placeFrom_at hx] at hpa
      replace hpa := Lib.hid hpa
      clear hx hc
      by_cases he : x = n
      · have hb : (n == x) = true := by simpa using he.symm
        have hrk : r = k := by have := hpa.out; rw [if_pos he] at this; exact this.symm
        subst hrk
        clear he
        go_wp2
        go_ret
        exact ⟨rfl, rfl⟩
      · have hb : (n == x) = false := by simpa using fun e => he e.symm
        have hpn := hpa.out
        rw [if_neg he] at hpn
        replace hpn := Lib.hid hpn
        clear he
        go_wp2
        go_round
        case rel => exact ⟨k + 1, by omega, by go_num, hpn.out⟩
        case measure => simp [intOf]; omega
    · have hrk : r = -1 := by rw [← hp.out, placeFrom_end hlt]
      subst hrk
      go_wp2
      go_ret
      exact ⟨rfl, rfl⟩

set_option maxHeartbeats 1000000 in
theorem placedR_any (l ns : List Int) (a : Option Addr) (c : Nat) (a' : Option Addr) (c' : Nat) (w : World) (h : IntsR w a c l) (h' : IntsR w a' c' ns) (hl : ns.length ≤ 1000000) :
    Calls Try.prog 63 #[.slice a l.length c, .slice a' ns.length c'] w (RetI (placed l ns) w) := by
  have H := Lib.hid h
  have H' := Lib.hid h'
  have hlen := h.len
  clear h h'
  go_enter Try.func63, Try.ntmps63
  go_wp2
  go_loopg [5, 7, 10] ns.length (fun g s _ q wr => ∃ (k : Nat) (ao : Option Addr) (co : Nat) (o : List Int), k + g = ns.length ∧ q = .int .i64 k ∧ s = .slice ao o.length co ∧ OwnI w.heap.size wr ao co o ∧ Below w.heap.size w wr ∧ o = placed l (ns.take k))
  case atStart => exact ⟨0, none, 0, [], by omega, rfl, rfl, Own.nil, Below.refl _ _, rfl⟩
  case round =>
    obtain ⟨k, ao, co, o, hkg, rfl, rfl, ho, hb, hv⟩ := hrel
    have hol : o.length = k := by rw [hv]; simp [placed]; omega
    have HKG := Lib.hid hkg
    have HO := Lib.hid ho
    have HV := Lib.hid hv
    have HOL := Lib.hid hol
    clear hkg ho hv hol
    by_cases hlt : k < ns.length
    · obtain ⟨x, hx⟩ := get_of_lt hlt
      obtain ⟨b, off, rfl, hc⟩ := (H'.out.ext (Ext.below hb)).2.2 k x hx
      have hc1 : wr.cell? ⟨b, off + k, none⟩ = some (.int .i64 x) := by simpa using hc.1
      have C := placeR_any l x a c wr (H.out.ext (Ext.below hb))
      have hnx := placed_take (l := l) hx
      revert C hnx
      generalize place l x = y
      intro C hnx
      replace C := Lib.hid C
      have HNX := Lib.hid hnx
      clear hx hc hnx
      go_wp2_with (first
        | (go_at_call 95; refine C.out.mono ?_; rintro e w' ⟨rfl, rfl⟩)
        | (at_builtin; go_must (refine append_int rfl (.tmp 14) (.tmp 18) rfl ao co rfl (HO.out.alloc _) y wr.heap.size 1 rfl (by simp) (o ++ [y]) rfl (by have := HOL.out; simp; omega) (by have := hb.size; simp; omega) ?_); intro a2 c2 w2 ho2 hg2 hx2))
      go_roundg (gk - 1)
      case rel => exact ⟨k + 1, a2, c2, o ++ [y], by have := HKG.out; omega, by go_num, by simp, ho2, below_append' (hb.alloc hb.size _) (HO.out.alloc _) hg2, by rw [HNX.out, HV.out]⟩
      case measure => have := HKG.out; omega
    · have hfin : o = placed l ns := by have := HV.out; rwa [take_all hlt] at this
      have HF := Lib.hid hfin
      clear hfin
      go_wp2
      go_ret
      rw [← HF.out]
      exact ⟨ao, co, rfl, HO.out, hb⟩
set_option maxHeartbeats 1000000 in
theorem movedF_any (l ns : List Int) (g : Nat) (a : Option Addr) (c : Nat) (a' : Option Addr) (c' : Nat) (w : World) (hg : Blk w g 26 #[.slice a l.length c]) (h : IntsR w a c l) (h' : IntsR w a' c' ns) (hl : ns.length ≤ 1000000) :
    Calls Try.prog 61 #[.slice a' ns.length c', .pointer (some ⟨g, 0, none⟩)] w (RetI (placed l ns) w) := by
  have H := Lib.hid h
  have H' := Lib.hid h'
  have hlen := h.len
  have HG := Lib.hid hg
  clear h h' hg
  go_enter Try.func61, Try.ntmps61
  go_wp2
  go_loopg [4, 6, 9] ns.length (fun n s _ q wr => ∃ (k : Nat) (ao : Option Addr) (co : Nat) (o : List Int), k + n = ns.length ∧ q = .int .i64 k ∧ s = .slice ao o.length co ∧ OwnI w.heap.size wr ao co o ∧ Below w.heap.size w wr ∧ o = placed l (ns.take k))
  case atStart => exact ⟨0, none, 0, [], by omega, rfl, rfl, Own.nil, Below.refl _ _, rfl⟩
  case round =>
    obtain ⟨k, ao, co, o, hkg, rfl, rfl, ho, hb, hv⟩ := hrel
    have hol : o.length = k := by rw [hv]; simp [placed]; omega
    have HKG := Lib.hid hkg
    have HO := Lib.hid ho
    have HV := Lib.hid hv
    have HOL := Lib.hid hol
    have z0 := (HG.out.below' hb).cell 0
    clear hkg ho hv hol
    by_cases hlt : k < ns.length
    · obtain ⟨x, hx⟩ := get_of_lt hlt
      obtain ⟨b, off, rfl, hc⟩ := (H'.out.ext (Ext.below hb)).2.2 k x hx
      have hc1 : wr.cell? ⟨b, off + k, none⟩ = some (.int .i64 x) := by simpa using hc.1
      have C := index_any l x a c wr (H.out.ext (Ext.below hb))
      have hnx := placed_take (l := l) hx
      revert C hnx
      generalize place l x = y
      intro C hnx
      replace C := Lib.hid C
      have HNX := Lib.hid hnx
      clear hx hc hnx
      go_wp2_with (first
        | (go_at_call 62; refine C.out.mono ?_; rintro e w' ⟨rfl, rfl⟩)
        | (at_builtin; go_must (refine append_int rfl (.tmp 13) (.tmp 17) rfl ao co rfl (HO.out.alloc _) y wr.heap.size 1 rfl (by simp) (o ++ [y]) rfl (by have := HOL.out; simp; omega) (by have := hb.size; simp; omega) ?_); intro a2 c2 w2 ho2 hg2 hx2))
      go_roundg (gk - 1)
      case rel => exact ⟨k + 1, a2, c2, o ++ [y], by have := HKG.out; omega, by go_num, by simp, ho2, below_append' (hb.alloc hb.size _) (HO.out.alloc _) hg2, by rw [HNX.out, HV.out]⟩
      case measure => have := HKG.out; omega
    · have hfin : o = placed l ns := by have := HV.out; rwa [take_all hlt] at this
      have HF := Lib.hid hfin
      clear hfin
      go_wp2
      go_ret
      rw [← HF.out]
      exact ⟨ao, co, rfl, HO.out, hb⟩
end Go.Proofs.Ytmlldjcbijoheaa
