/- Walks of the reference's natural numbers: limb, Norm, Of, short, Cmp, Valid, Same. -/
import Derived.Test.YtmlldjcbijoheaaNatW
namespace Go.Proofs.Ytmlldjcbijoheaa
open Go.RowKit

set_option maxHeartbeats 400000 in
theorem limb01_any (l : List Int) (k : Nat) (a : Option Addr) (c : Nat) (w : World) (h : NatR w a c l) :
    Calls Try.prog 135 #[.slice a l.length c, .int .i64 k] w fun r w' => r = .returned (.int .i64 (limbAt l k)) ∧ w = w' := by
  have hl := h.len
  have hU := h.u16
  by_cases hlt : k < l.length
  · obtain ⟨x, hx⟩ := get_of_lt hlt
    obtain ⟨b, off, rfl, hc⟩ := h.cell hx
    have hxr := hU.get hx
    have he : limbAt l k = x := limbAt_some hx
    rw [he]
    clear h hU he hx
    obtain ⟨hx0, hx1⟩ := hxr
    go_enter Try.func135, Try.ntmps135
    go_wp2
    go_ret
    exact ⟨rfl, rfl⟩
  · have he : limbAt l k = 0 := limbAt_none (by omega)
    rw [he]
    clear h hU he
    go_enter Try.func135, Try.ntmps135
    go_wp2
    go_ret
    exact ⟨rfl, rfl⟩
theorem limb01_quiet (l : List Int) (k : Nat) (a : Option Addr) (c : Nat) (w : World) (h : NatR w a c l) :
    Calls Try.prog 135 #[.slice a l.length c, .int .i64 k] w fun r w' => r = .returned (.int .i64 (limbAt l k)) ∧ w' = w :=
  (limb01_any l k a c w h).mono fun _ _ h => ⟨h.1, h.2.symm⟩

set_option maxHeartbeats 400000 in
theorem norm01_any (l : List Int) (a : Option Addr) (c : Nat) (w : World) (h : NatR w a c l) (hl : l.length ≤ 16777216) :
    Calls Try.prog 123 #[.slice a l.length c] w (RetN (limbs (val l)) w) := by
  have hcap := h.1
  have hmx := h.2.1
  have H := Lib.hid h
  clear h
  unfold maxLen at hmx
  go_enter Try.func123, Try.ntmps123
  go_wp2
  go_loop [3] (fun n => ∃ k : Nat, k ≤ l.length ∧ n = .int .i64 k ∧ Hid (val (l.drop k) = 0)) (fun n => (intOf n).toNat)
  case atStart => exact ⟨l.length, Nat.le_refl _, rfl, val_drop_all (Nat.le_refl _)⟩
  case round =>
    obtain ⟨k, hk, rfl, hz⟩ := hrel
    by_cases h0 : k = 0
    · subst h0
      have hg : decide ((0 : Int) < ((0 : Nat) : Int)) = false := by simp
      have hcut : limbs (val l) = [] := by
        have : val l = 0 := by simpa using hz.out
        rw [this, limbs_zero]
      go_wp2_with (at_builtin; go_must (refine append_nats (B := w.heap.size) rfl (.tmp 19) (.tmp 22) rfl none 0 (l := []) rfl Own.nil a c (m := []) rfl H.out.zero [] rfl (by simp) (Nat.le_refl _) ?_); intro a' c' w1 hown hg1 hb1)
      go_ret
      exact RetN.own hown U16.nil hb1 rfl rfl
    · have hgt : decide ((0 : Int) < (k : Int)) = true := by simp; omega
      have hk1 : (k : Int) - 1 = ((k - 1 : Nat) : Int) := by omega
      obtain ⟨x, hx⟩ := get_of_lt (xs := l) (k := k - 1) (by omega)
      obtain ⟨b, off, rfl, hc⟩ := H.out.cell hx
      have hr := H.out.u16.get hx
      have hge : (0 : Int) ≤ (k : Int) - 1 := by omega
      have hvd := val_drop hx
      have ek : k - 1 + 1 = k := by omega
      rw [ek] at hvd
      have HV := Lib.hid hvd
      have HX := Lib.hid hx
      have HK := Lib.hid hk1
      have hc' : w.cell? ⟨b, off + (k - 1), none⟩ = some (.int .u16 x) := hc
      clear hvd hx hc ek hk1
      by_cases hx0 : x = 0
      · subst hx0
        have e0 : ((0 : Int) == 0) = true := rfl
        go_wp2
        all_goals
          go_round
          case rel => exact ⟨k - 1, by omega, by rw [HK.out], by show val _ = 0; rw [HV.out, hz.out]; rfl⟩
          case measure => simp [intOf]; omega
      · have e0 : (x == 0) = false := by simpa using hx0
        have hcut : limbs (val l) = l.take k := limbs_cut H.out.u16 hz.out (fun y _ hy => by
          rw [HX.out] at hy
          injection hy with hy
          rw [← hy]; exact hx0) hk
        have HC := Lib.hid hcut
        clear hcut
        have hlen : (l.take k).length = k := by simp; omega
        have HL := Lib.hid hlen
        clear hlen
        go_wp2_with (at_builtin; go_must (refine append_nats (B := w.heap.size) rfl (.tmp 19) (.tmp 22) rfl none 0 (l := []) rfl Own.nil (some ⟨b, off, none⟩) c (m := l.take k) (by rw [HL.out]; rfl) (H.out.take k) (l.take k) rfl (by rw [HL.out]; omega) (Nat.le_refl _) ?_); intro a' c' w1 hown hg1 hb1)
        go_ret
        exact RetN.own hown (H.out.u16.take k) hb1 HC.out HL.out.symm

theorem take_limbs (n : Nat) : U16 (limbs n) := limbs_u16 n
set_option maxHeartbeats 400000 in
theorem of01_any (n : Nat) (w : World) (hn : n < 18446744073709551616) :
    Calls Try.prog 116 #[.int .u64 n] w (RetN (limbs n) w) := by
  go_enter Try.func116, Try.ntmps116
  go_wp2
  go_loopw [0, 3] (fun i s wr => ∃ (m : Nat) (l : List Int) (a : Option Addr) (c : Nat), m ≤ n ∧ i = .int .u64 m ∧ s = .slice a l.length c ∧ OwnN w.heap.size wr a c l ∧ U16 l ∧ l.length ≤ 1000 ∧ Below w.heap.size w wr ∧ Hid (limbs n = l ++ limbs m)) (fun i _ _ => (intOf i).toNat)
  case atStart => exact ⟨n, [], none, 0, Nat.le_refl _, rfl, rfl, Own.nil, U16.nil, by simp, Below.refl _ _, rfl⟩
  case round =>
    obtain ⟨m, l, a, c, hm, rfl, rfl, ho, hU, hlen, hb, hr⟩ := hrel
    have HO := Lib.hid ho
    clear ho
    by_cases h0 : m = 0
    · subst h0
      have HR : limbs n = l := by have := hr.out; rw [limbs_zero] at this; simpa using this
      replace HR := Lib.hid HR
      go_wp2
      go_ret
      exact RetN.own HO.out hU hb HR.out rfl
    · have hgt : decide ((0 : Int) < (m : Int)) = true := by simp; omega
      have hs : limbs m = ((m % 65536 : Nat) : Int) :: limbs (m / 65536) := limbs_pos h0
      have hr2 : limbs n = (l ++ [((m % 65536 : Nat) : Int)]) ++ limbs (m / 65536) := by rw [hr.out, hs]; simp
      have HR := Lib.hid hr2
      clear hs hr2
      have hlt : m < 18446744073709551616 := by omega
      have hm1 : ((m : Int) % 65536) = ((m % 65536 : Nat) : Int) := by omega
      have hm2 : ((m : Int) / 65536) = ((m / 65536 : Nat) : Int) := by omega
      have HM1 := Lib.hid hm1
      have HM2 := Lib.hid hm2
      clear hm1 hm2
      go_wp2_with (at_builtin; go_must (refine append_nat rfl (.tmp 6) (.tmp 10) rfl a c rfl (HO.out.alloc _) ((m % 65536 : Nat) : Int) wr.heap.size 1 rfl (by simp <;> omega) (l ++ [((m % 65536 : Nat) : Int)]) rfl (by simp; omega) (by have := hb.size; simp; omega) ?_); intro a2 c2 w2 ho2 hg2 hx2)
      go_roundw
      case rel =>
        have hb1 : Below w.heap.size w w2 := below_append' (hb.alloc hb.size _) (HO.out.alloc _) hg2
        have hl4 : (l ++ [((m % 65536 : Nat) : Int)]).length ≤ 1000 := by
          have h4 : (limbs n).length ≤ 4 := limbs_len_le (by simpa using hn)
          rw [HR.out] at h4
          simp only [List.length_append] at h4 ⊢
          omega
        exact ⟨m / 65536, l ++ [((m % 65536 : Nat) : Int)], a2, c2, by omega, by rw [HM2.out], by simp, ho2, hU.app (U16.cons (by omega) U16.nil), hl4, hb1, HR.out⟩
      case measure => rw [HM2.out]; simp [intOf]; omega

theorem val_drop_le (l : List Int) (k : Nat) : val (l.drop k) ≤ val l := by
  by_cases hk : k ≤ l.length
  · have := val_split l k
    have h1 : 1 ≤ 65536 ^ (l.take k).length := Nat.one_le_pow _ _ (by omega)
    have h2 := Nat.mul_le_mul_right (val (l.drop k)) h1
    omega
  · rw [val_drop_all (by omega)]; omega
set_option maxHeartbeats 400000 in
theorem short01_any (l : List Int) (a : Option Addr) (c : Nat) (w : World) (h : NatR w a c l) (hv : val l < 18446744073709551616) :
    Calls Try.prog 128 #[.slice a l.length c] w fun r w' => r = .returned (.int .u64 (val l)) ∧ w = w' := by
  have hlen := h.len
  have H := Lib.hid h
  clear h
  go_enter Try.func128, Try.ntmps128
  go_wp2
  go_loop [3, 4] (fun n i => ∃ k : Nat, k ≤ l.length ∧ i = .int .i64 ((k : Int) - 1) ∧ n = .int .u64 (val (l.drop k) : Nat)) (fun _ i => (intOf i + 1).toNat)
  case atStart => exact ⟨l.length, Nat.le_refl _, rfl, by rw [val_drop_all (Nat.le_refl _)]; rfl⟩
  case round =>
    obtain ⟨k, hk, rfl, rfl⟩ := hrel
    by_cases h0 : k = 0
    · subst h0
      go_wp2
      go_ret
      exact ⟨by simp, rfl⟩
    · have hgt : decide ((0 : Int) ≤ (k : Int) - 1) = true := by simp; omega
      have hge : (0 : Int) ≤ (k : Int) - 1 := by omega
      obtain ⟨x, hx⟩ := get_of_lt (xs := l) (k := k - 1) (by omega)
      obtain ⟨b, off, rfl, hc⟩ := H.out.cell hx
      obtain ⟨hx0, hx1⟩ := H.out.u16.get hx
      have hvd := val_drop hx
      have ek : k - 1 + 1 = k := by omega
      rw [ek] at hvd
      have hle := val_drop_le l (k - 1)
      have HV := Lib.hid hvd
      have hb1 : (val (l.drop k) : Int) * 65536 + x ≤ 18446744073709551615 := by omega
      have hb0 : 0 ≤ (val (l.drop k) : Int) * 65536 := by omega
      have hb2 : (val (l.drop k) : Int) * 65536 ≤ 18446744073709551615 := by omega
      clear hvd ek hx hle
      go_wp2
      all_goals
        go_round
        case rel => exact ⟨k - 1, by omega, by first | (congr 1; omega) | rfl, val_int (by rw [HV.out]; omega)⟩
        case measure => simp [intOf]; omega

set_option maxHeartbeats 400000 in
theorem cmp01_any (l m : List Int) (a a' : Option Addr) (c c' : Nat) (w : World) (h : NatR w a c l) (h' : NatR w a' c' m) (hl : l.length ≤ 16777216) (hm : m.length ≤ 16777216) :
    Calls Try.prog 134 #[.slice a l.length c, .slice a' m.length c'] w fun r w' => r = .returned (.int .i64 (cmpN (val l) (val m))) ∧ w = w' := by
  have hU := h.u16
  have hU' := h'.u16
  have H := Lib.hid h
  have H' := Lib.hid h'
  clear h h'
  go_enter Try.func134, Try.ntmps134
  go_wp2
  all_goals
    go_loop [5] (fun i => ∃ k : Nat, k ≤ 16777216 ∧ i = .int .i64 ((k : Int) - 1) ∧ Hid (val (l.drop k) = val (m.drop k))) (fun i => (intOf i + 1).toNat)
    case atStart => first
        | exact ⟨m.length, hm, rfl, by show _ = _; rw [val_drop_all (by omega), val_drop_all (by omega)]⟩
        | exact ⟨l.length, hl, rfl, by show _ = _; rw [val_drop_all (by omega), val_drop_all (by omega)]⟩
    case round =>
      obtain ⟨k, hk, rfl, he⟩ := hrel
      by_cases h0 : k = 0
      · subst h0
        have hz : cmpN (val l) (val m) = 0 := by have := he.out; simp at this; rw [this]; simp [cmpN]
        replace hz := Lib.hid hz
        go_wp2
        go_ret
        exact ⟨ret_int hz.out.symm, rfl⟩
      · have hgt : decide ((0 : Int) ≤ (k : Int) - 1) = true := by simp; omega
        have hge : (0 : Int) ≤ (k : Int) - 1 := by omega
        have ek : k - 1 + 1 = k := by omega
        have hkk : (k : Int) - 1 = ((k - 1 : Nat) : Int) := by omega
        have CX := limb01_any l (k - 1) a c w H.out
        have CY := limb01_any m (k - 1) a' c' w H'.out
        have hlx := limbAt_in hU (k - 1)
        have hly := limbAt_in hU' (k - 1)
        have hL : val (l.drop k) = val (m.drop k) → limbAt l (k - 1) < limbAt m (k - 1) → val l < val m := fun e => val_lt_of hU hU' (k - 1) (by rw [ek]; exact e)
        have hG : val (l.drop k) = val (m.drop k) → limbAt m (k - 1) < limbAt l (k - 1) → val m < val l := fun e => val_lt_of hU' hU (k - 1) (by rw [ek]; exact e.symm)
        have hE : val (l.drop k) = val (m.drop k) → limbAt l (k - 1) = limbAt m (k - 1) → val (l.drop (k - 1)) = val (m.drop (k - 1)) := fun e e2 => by rw [val_drop_at, val_drop_at (l := m), ek, e, e2]
        rw [← hkk] at CX CY
        revert CX CY hlx hly hL hG hE
        generalize limbAt l (k - 1) = x
        generalize limbAt m (k - 1) = y
        intro CX CY hlx hly hL hG hE
        replace CX := Lib.hid CX
        replace CY := Lib.hid CY
        replace hL := hL he.out
        replace hG := hG he.out
        have HE := Lib.hid (hE he.out)
        clear hE hkk
        by_cases hlt : x < y
        · have hv := hL hlt
          clear hL hG HE
          go_wp2_with (go_at_call 135; (first | ((with_reducible refine CX.out.mono ?_); rintro e w' ⟨rfl, rfl⟩) | ((with_reducible refine CY.out.mono ?_); rintro e w' ⟨rfl, rfl⟩)))
          go_ret
          exact ⟨ret_int (by unfold cmpN; rw [if_pos hv]), rfl⟩
        · by_cases hgt2 : y < x
          · have hv := hG hgt2
            clear hL hG HE
            go_wp2_with (go_at_call 135; (first | ((with_reducible refine CX.out.mono ?_); rintro e w' ⟨rfl, rfl⟩) | ((with_reducible refine CY.out.mono ?_); rintro e w' ⟨rfl, rfl⟩)))
            go_ret
            exact ⟨ret_int (by unfold cmpN; rw [if_neg (by omega), if_pos hv]), rfl⟩
          · clear hL hG
            go_wp2_with (go_at_call 135; (first | ((with_reducible refine CX.out.mono ?_); rintro e w' ⟨rfl, rfl⟩) | ((with_reducible refine CY.out.mono ?_); rintro e w' ⟨rfl, rfl⟩)))
            all_goals
              go_round
              case rel => exact ⟨k - 1, by omega, by first | (congr 1; omega) | rfl, HE.out (by omega)⟩
              case measure => simp [intOf]; omega
end Go.Proofs.Ytmlldjcbijoheaa
