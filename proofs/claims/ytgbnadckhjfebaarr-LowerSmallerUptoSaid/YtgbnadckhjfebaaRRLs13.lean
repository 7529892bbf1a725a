/- One digit of the long division: the guess, what is left. No function of the program in sight. -/
import Derived.Test.YtgbnadckhjfebaaRRLs12
import Derived.Test.YtgbnadckhjfebaaRRLs6

/- Walks: the program's natural numbers: right, Shift. -/
namespace Go.Proofs.YtgbnadckhjfebaaRR
open Go.RowKit

theorem val_drop_div {l : List Int} (h : U16 l) (k : Nat) : val (l.drop k) = val l / 65536 ^ k := by
  obtain ⟨lo, hlo, e⟩ := val_split_at h k
  have e2 : val l / 65536 ^ k = val (l.drop k) := by rw [e, Nat.add_comm, Nat.mul_add_div (by have := pow_pos16 k; omega), Nat.div_eq_of_lt hlo, Nat.add_zero]
  exact e2.symm
theorem shr_split {n s : Nat} : n / 65536 ^ (s / 16) / 2 ^ (s % 16) = n / 2 ^ s := by
  rw [Nat.div_div_eq_div_mul, show (65536 : Nat) = 2 ^ 16 by rfl, ← Nat.pow_mul, ← Nat.pow_add]
  congr 2
  omega
/-- limbs shifted to the right so far -/
structure Shr (a o : List Int) (s i : Nat) : Prop where
  u16 : U16 o
  sum : val a / 2 ^ s = val (o.take i) + 65536 ^ i * (val (a.drop i) / 2 ^ s)
theorem Shr.start (a : List Int) (s n : Nat) : Shr a (List.replicate n 0) s 0 := ⟨u16_replicate _, by simp [val]⟩
theorem Shr.next {a o : List Int} {s i : Nat} (h : Shr a o s i) (ha : U16 a) (hs : s ≤ 16) (hi : i < o.length) :
    Shr a (o.set i ((((limbAt a i).toNat + 65536 * (limbAt a (i + 1)).toNat) / 2 ^ s % 65536 : Nat) : Int)) s (i + 1) := by
  have e := shr_step ha i hs
  have e1 := h.sum
  rw [e] at e1
  have hx : ((limbAt a i).toNat + 65536 * (limbAt a (i + 1)).toNat) / 2 ^ s % 65536 ≤ 65535 := by omega
  generalize ((limbAt a i).toNat + 65536 * (limbAt a (i + 1)).toNat) / 2 ^ s % 65536 = x at e1 hx ⊢
  refine ⟨h.u16.set_ (by omega), ?_⟩
  have g : (o.set i (x : Int))[i]? = some (x : Int) := by simp [hi]
  rw [val_take g, List.take_set_of_le (Nat.le_refl _), e1, Nat.mul_add, Nat.pow_succ, Nat.mul_assoc]
  simp
  omega
theorem limbs_shl_len (n s : Nat) : (limbs (n * 2 ^ s)).length ≤ (limbs n).length + s / 16 + 1 := by
  apply limbs_len_le
  have h1 := lt_pow_limbs n
  have h2 : 2 ^ s = 65536 ^ (s / 16) * 2 ^ (s % 16) := by
    rw [show (65536 : Nat) = 2 ^ 16 by rfl, ← Nat.pow_mul, ← Nat.pow_add]
    congr 1; omega
  have h3 : 2 ^ (s % 16) < 65536 := by
    have := pow_le15 (s := s % 16) (by omega)
    omega
  rw [h2, Nat.pow_add, Nat.pow_add, Nat.pow_one]
  have h4 : n * (65536 ^ (s / 16) * 2 ^ (s % 16)) = n * 65536 ^ (s / 16) * 2 ^ (s % 16) := by rw [Nat.mul_assoc]
  rw [h4]
  exact Nat.mul_lt_mul'' (Nat.mul_lt_mul_of_pos_right h1 (Nat.pow_pos (by omega))) h3

set_option maxRecDepth 100000 in
set_option maxHeartbeats 4000000 in
theorem right_any (l : List Int) (n s : Nat) (a : Option Addr) (c : Nat) (w : World) (h : NatR w a c l) (hn : val l = n) (hl : l.length ≤ 16777216) (hs : s ≤ 1048576) :
    Calls Try.prog 69 #[.slice a l.length c, .int .i64 s] w (RetN (limbs (n / 2 ^ s)) w) := by
  have H := Lib.hid h
  have hu := h.u16
  have HN := Lib.hid hn
  have hq : ((s : Int)).tdiv 16 = ((s / 16 : Nat) : Int) := rfl
  have hr : ((s : Int)).tmod 16 = ((s % 16 : Nat) : Int) := rfl
  have hsp := shr_split (n := n) (s := s)
  have ht : s % 16 ≤ 15 := by omega
  have hk : s / 16 ≤ 65536 := by omega
  have HSP := Lib.hid hsp
  revert hq hr ht hk HSP
  generalize s / 16 = k
  generalize s % 16 = t
  intro hq hr ht hk HSP
  clear h hn hsp
  by_cases hkl : l.length ≤ k
  · have h0 : n / 2 ^ s = 0 := by
      rw [← HSP.out, Nat.div_eq_of_lt (a := n), Nat.zero_div]
      have h1 := val_lt hu
      rw [HN.out] at h1
      exact Nat.lt_of_lt_of_le h1 (Nat.pow_le_pow_right (by omega) hkl)
    rw [h0, limbs_zero]
    clear h0
    go_enter Try.func69, Try.ntmps69
    go_wp2
    go_ret
    exact ⟨none, 0, rfl, fun _ _ => SlR.nil, Below.refl _ _⟩
  · obtain ⟨m, hm⟩ : ∃ m : Nat, l.length = k + m := ⟨l.length - k, by omega⟩
    have hm0 : 0 < m := by omega
    have hmi : (l.length : Int) - (k : Int) = (m : Int) := by omega
    have hmk := run_make_nat .i64 m (by omega) w
    have HM := Lib.hid hm
    have hkl2 : k < l.length := by omega
    have hdk : decide (l.length ≤ k) = false := by simp; omega
    clear hm hkl
    go_enter Try.func69, Try.ntmps69
    go_wp2
    clear hmk
    have hz := BlkN.new w m
    have hb0 : Below w.heap.size w (w.alloc (.cells (madeCells #[.int .u16 0] m) 68)) := (Below.refl _ _).alloc (Nat.le_refl _) _
    revert hz hb0
    generalize w.alloc (.cells (madeCells #[.int .u16 0] m) 68) = w0
    intro hz hb0
    go_loopg [8, 9, 25] m (fun g _ _ s25 wr => ∃ (i : Nat) (O : List Int), i + g = m ∧ s25 = .int .i64 i ∧ BlkN wr w.heap.size O ∧ Hid (O.length = m) ∧ Below w.heap.size w wr ∧ Shr (l.drop k) O t i)
    case atStart => exact ⟨0, List.replicate m 0, by omega, rfl, hz, by show _ = _; simp, hb0, Shr.start _ _ _⟩
    case round =>
      clear hz hb0
      obtain ⟨i, O, hig, rfl, hO, hOl, hwr, hS⟩ := hrel
      have HIG := Lib.hid hig
      have HO := Lib.hid hO
      clear hig hO
      by_cases hlt : i < m
      · obtain ⟨x, hx⟩ := get_of_lt (xs := l) (k := k + i) (by have := HM.out; omega)
        obtain ⟨b, off, rfl, hc⟩ := (H.out.ext (Ext.below hwr)).cell hx
        obtain ⟨hx0, hx1⟩ := hu.get hx
        obtain ⟨y, rfl⟩ : ∃ y : Nat, x = (y : Int) := ⟨x.toNat, by omega⟩
        have hc2 : wr.cell? ⟨b, off + (i + k), none⟩ = some (.int .u16 y) := by rw [Nat.add_comm i k]; exact hc
        have hil : i + k < l.length := by have := HM.out; omega
        obtain ⟨u, hu2⟩ := get_of_lt (xs := O) (k := i) (by rw [hOl.out]; exact hlt)
        have hcell := HO.out.cell hu2
        have hfr := HO.out.frozen i
        have hnext := hS.next (hu.drop k) (show t ≤ 16 by omega) (show i < O.length by rw [hOl.out]; exact hlt)
        rw [limbAt_drop, limbAt_drop, limbAt_some hx, Int.toNat_natCast] at hnext
        have HNX := Lib.hid hnext
        clear hnext hS
        by_cases hlast : i + 1 < m
        · obtain ⟨x2, hx2⟩ := get_of_lt (xs := l) (k := k + i + 1) (by have := HM.out; omega)
          obtain ⟨b3, off3, e3, hc3⟩ := (H.out.ext (Ext.below hwr)).cell hx2
          injection e3 with e3
          injection e3 with e3 e4
          subst e3
          subst e4
          obtain ⟨hy0, hy1⟩ := hu.get hx2
          obtain ⟨z, rfl⟩ : ∃ z : Nat, x2 = (z : Int) := ⟨x2.toNat, by omega⟩
          have hc4 : wr.cell? ⟨b, off + (i + k + 1), none⟩ = some (.int .u16 z) := by rw [Nat.add_comm i k]; exact hc3
          have hil2 : i + k + 1 < l.length := by have := HM.out; omega
          have hnx := HNX.out
          rw [show k + (i + 1) = k + i + 1 by omega, limbAt_some hx2, Int.toNat_natCast] at hnx
          obtain ⟨W, hW⟩ : ∃ W, y + 65536 * z = W := ⟨_, rfl⟩
          obtain ⟨X, hX⟩ : ∃ X, W / 2 ^ t % 65536 = X := ⟨_, rfl⟩
          rw [hW, hX] at hnx
          have hor : bits .or .u32 (y : Int) ((z : Int) * 65536) = (W : Int) := by
            have h1 := byLimb_or (r := z) (x := y) (by omega)
            have h2 := u32_or_nat y (z * 65536) (by omega) (by omega)
            rw [Nat.or_comm, h1, show z * 65536 + y = W by omega] at h2
            simpa using h2
          have hshr : IntKind.u16.wrap ((W : Int) / 2 ^ t) = (X : Int) := by
            have := wrap16 (W / 2 ^ t)
            rw [hX] at this
            rw [← this]
            simp
          have HNX2 := Lib.hid hnx
          have hX2 : X ≤ 65535 := by omega
          clear hc3 hx2 hx hW hX hnx HNX
          go_wp2
          go_roundg (gk - 1)
          case rel => exact ⟨i + 1, O.set i (X : Int), by have := HIG.out; omega, by go_num, HO.out.set_ i _, by show _ = _; rw [List.length_set]; exact hOl.out, hwr.setCell (Nat.le_refl _) _, HNX2.out⟩
          case measure => have := HIG.out; omega
        · have hil2 : l.length = i + k + 1 := by have := HM.out; omega
          have HIL := Lib.hid hil2
          have hdl : decide (((i : Int) + (k : Int) + 1) < (l.length : Int)) = false := by simp; omega
          have hnx := HNX.out
          rw [limbAt_none (by omega)] at hnx
          obtain ⟨X, hX⟩ : ∃ X, y / 2 ^ t % 65536 = X := ⟨_, rfl⟩
          rw [show y + 65536 * (0 : Int).toNat = y by simp, hX] at hnx
          have hshr : IntKind.u16.wrap ((y : Int) / 2 ^ t) = (X : Int) := by
            have := wrap16 (y / 2 ^ t)
            rw [hX] at this
            rw [← this]
            simp
          have HNX2 := Lib.hid hnx
          have hX2 : X ≤ 65535 := by omega
          have hge : ¬ ((i : Int) + (k : Int) + 1 < (l.length : Int)) := by omega
          clear hx hX hnx HNX hil2
          go_wp2
          go_roundg (gk - 1)
          case rel => exact ⟨i + 1, O.set i (X : Int), by have := HIG.out; omega, by go_num, HO.out.set_ i _, by show _ = _; rw [List.length_set]; exact hOl.out, hwr.setCell (Nat.le_refl _) _, HNX2.out⟩
          case measure => have := HIG.out; omega
      · have hval : val O = n / 2 ^ s := by
          have h1 := hS.sum
          rw [val_drop_div hu, HN.out, HSP.out, List.drop_drop, val_drop_all (by have := HM.out; omega), Nat.zero_div, Nat.mul_zero, Nat.add_zero, val_take_all (by rw [hOl.out]; omega)] at h1
          exact h1.symm
        have hcap : O.length ≤ maxLen := by rw [hOl.out]; unfold maxLen; omega
        have CT := trim_any O _ _ wr (HO.out.readsV (Nat.le_refl _) (New.refl _ _) hS.u16 (Nat.le_refl _) hcap)
        have hrd : ∀ V, New w.heap.size wr V → NatR V (some ⟨w.heap.size, 0, none⟩) O.length (limbs (n / 2 ^ s)) := fun V hV => by
          rw [← hval]
          exact (HO.out.readsV (Nat.le_refl _) hV hS.u16 (Nat.le_refl _) hcap).trim
        rw [hval, hOl.out] at CT
        rw [hOl.out] at hrd
        replace CT := Lib.hid CT
        have HRD := Lib.hid hrd
        clear hrd hval hS
        go_wp2_with fail
        refine CT.out.mono ?_
        rintro e w1 ⟨rfl, rfl⟩
        go_wp2
        go_ret
        exact ⟨_, _, rfl, HRD.out, hwr⟩

theorem quo16 (s : Nat) : ((s : Int)).tdiv 16 = ((s / 16 : Nat) : Int) := rfl
theorem rem16 (s : Nat) : ((s : Int)).tmod 16 = ((s % 16 : Nat) : Int) := rfl
set_option maxRecDepth 100000 in
set_option maxHeartbeats 4000000 in
/-- a shift to the left of a number other than 0: the row is the call's own -/
theorem shift_any (l : List Int) (n s : Nat) (a : Option Addr) (c : Nat) (w : World) (h : NatR w a c l) (hn : val l = n) (h0 : 0 < n) (hl : l.length ≤ 10000000) (hs : s ≤ 1048576) :
    Calls Try.prog 64 #[.slice a l.length c, .int .i64 s] w fun e w' => ∃ a1 c1, e = .returned (.slice a1 (limbs (n * 2 ^ s)).length c1) ∧ OwnN w.heap.size w' a1 c1 (limbs (n * 2 ^ s)) ∧ Below w.heap.size w w' := by
  have CT := trim_any l a c w h
  have hT := h.trim
  have hlt := limbs_len_val h.u16
  rw [hn] at CT hT hlt
  have hTl : (limbs n).length ≤ 10000000 := by omega
  have hTp := limbs_len_pos.2 h0
  have hu := limbs_u16 n
  have hv := val_limbs n
  revert CT hT hTl hTp hu hv
  generalize limbs n = T
  intro CT hT hTl hTp hu hv
  have hq := quo16 s
  have hr := rem16 s
  have hsp : 16 * (s / 16) + s % 16 = s := by omega
  have ht : s % 16 ≤ 15 := by omega
  have hk : s / 16 ≤ 65536 := by omega
  have HSP := Lib.hid hsp
  revert hq hr ht hk HSP
  generalize s / 16 = k
  generalize s % 16 = t
  intro hq hr ht hk HSP
  have HT := Lib.hid hT
  have HV := Lib.hid hv
  replace CT := Lib.hid CT
  have hmk := run_make_nat2 .i64 (T.length + k + 1) (T.length + k + 3) (by omega) (by omega) w
  simp only [Int.natCast_add, Int.cast_ofNat_Int] at hmk
  have hne : ((T.length : Int) == 0) = false := by rw [beq_eq_false_iff_ne]; omega
  clear h hn hlt hT hv hsp h0
  go_enter Try.func64, Try.ntmps64
  go_wp2_with fail
  refine CT.out.mono ?_
  rintro e w1 ⟨rfl, rfl⟩
  go_wp2
  clear hmk hne
  have hz0 := BlkN.new w (T.length + k + 3)
  have hb0 : Below w.heap.size w (w.alloc (.cells (madeCells #[.int .u16 0] (T.length + k + 3)) 68)) := (Below.refl _ _).alloc (Nat.le_refl _) _
  have hz : RowN (w.alloc (.cells (madeCells #[.int .u16 0] (T.length + k + 3)) 68)) w.heap.size (List.replicate (T.length + k + 1) 0) [.int .u16 0, .int .u16 0] := by
    have h1 := (RowN.of hz0).cut (T.length + k + 1)
    have e1 : (List.replicate (T.length + k + 3) (0 : Int)).take (T.length + k + 1) = List.replicate (T.length + k + 1) 0 := by rw [List.take_replicate]; congr 1; omega
    have e2 : (List.replicate (T.length + k + 3) (0 : Int)).drop (T.length + k + 1) = [0, 0] := by rw [List.drop_replicate, show T.length + k + 3 - (T.length + k + 1) = 2 by omega]; rfl
    rw [e1, e2] at h1
    exact h1
  clear hz0
  revert hz hb0
  generalize w.alloc (.cells (madeCells #[.int .u16 0] (T.length + k + 3)) 68) = w0
  intro hb0 hz
  go_loopg [8, 9, 10, 47] T.length (fun g _ _ _ s47 wr => ∃ (i : Nat) (O : List Int), i + g = T.length ∧ s47 = .int .i64 i ∧ RowN wr w.heap.size O [.int .u16 0, .int .u16 0] ∧ Below w.heap.size w wr ∧ Shl T O k t i)
  case atStart => exact ⟨0, _, by omega, rfl, hz, hb0, Shl.start _ _ _⟩
  case round =>
    clear hz hb0
    obtain ⟨i, O, hig, rfl, hO, hwr, hS⟩ := hrel
    have HIG := Lib.hid hig
    have HO := Lib.hid hO
    have HSL := Lib.hid hS.len
    clear hig hO
    by_cases hlt : i < T.length
    · obtain ⟨x, hx⟩ := get_of_lt hlt
      obtain ⟨b, off, rfl, hc⟩ := (HT.out.ext (Ext.below hwr)).cell hx
      obtain ⟨hx0, hx1⟩ := hu.get hx
      obtain ⟨y, rfl⟩ : ∃ y : Nat, x = (y : Int) := ⟨x.toNat, by omega⟩
      obtain ⟨h, hh, hh2⟩ := hS.cur
      have hiO : i + k < O.length := by have := HSL.out; omega
      have hiO2 : i + k + 1 < O.length := by have := HSL.out; omega
      have hnx := hS.next ht hx (by omega) hh
      have hfar := hS.far (i + k + 1) (by omega) hiO2
      have hcell := HO.out.cell hh
      have hcell2 := HO.out.cell hfar
      have hfr := HO.out.frozen (i + k)
      have hfr2 := HO.out.frozen (i + k + 1)
      have hset := (HO.out.set_ hiO (((h ||| y * 2 ^ t % 65536 : Nat)) : Int)).set_ (i := i + k + 1) (by simpa using hiO2) ((y * 2 ^ t / 65536 : Nat) : Int)
      have hwl : y * 2 ^ t ≤ 65535 * 32768 := Nat.mul_le_mul (by omega) (pow_le15 ht)
      have hyt : (y : Int) * 2 ^ t % 4294967296 = ((y * 2 ^ t : Nat) : Int) := by
        have e1 : ((y * 2 ^ t : Nat) : Int) = (y : Int) * 2 ^ t := by simp
        rw [← e1]
        omega
      have hh3 : h ≤ 65535 := by have := pow_le15 ht; omega
      revert hnx hset hwl hyt
      generalize y * 2 ^ t = W
      intro hnx hset hwl hyt
      obtain ⟨lo, hlo⟩ : ∃ lo, W % 65536 = lo := ⟨_, rfl⟩
      obtain ⟨hi, hhi⟩ : ∃ hi, W / 65536 = hi := ⟨_, rfl⟩
      rw [hlo, hhi] at hnx hset
      have hw1 : IntKind.u16.wrap (W : Int) = (lo : Int) := by rw [wrap16, hlo]
      have hw2 : IntKind.u16.wrap ((W : Int) / 65536) = (hi : Int) := by
        have := wrap16 (W / 65536)
        rw [hhi, Nat.mod_eq_of_lt (by omega)] at this
        rw [← this, ← hhi]
        simp
      have hor := u16_or_nat h lo (by omega) (by omega)
      have HNX := Lib.hid hnx
      have HSET := Lib.hid hset
      revert hor HNX HSET
      generalize h ||| lo = ho
      intro hor HNX HSET
      clear hnx hset hlo hhi hx hS hh hfar
      go_wp2
      go_roundg (gk - 1)
      case rel => exact ⟨i + 1, _, by have := HIG.out; omega, by go_num, HSET.out, (hwr.setCell (Nat.le_refl _) _).setCell (Nat.le_refl _) _, HNX.out⟩
      case measure => have := HIG.out; omega
    · have hit : i = T.length := by have := HIG.out; omega
      have hval : val O = n * 2 ^ s := by
        rw [hit] at hS
        rw [hS.done, HV.out, HSP.out]
      have hcap : T.length + k + 3 ≤ maxLen := by unfold maxLen; omega
      have hrd : NatR wr (some ⟨w.heap.size, 0, none⟩) (T.length + k + 3) O := HO.out.readsV (Nat.le_refl _) (New.refl _ _) hS.u16 (by rw [HSL.out]; omega) hcap
      have CT2 := trim_any O _ _ wr hrd
      obtain ⟨m, hm, e⟩ := trim_some hS.u16
      have hown : OwnN w.heap.size wr (some ⟨w.heap.size, 0, none⟩) (T.length + k + 3) (O.take m) := HO.out.own (Nat.le_refl _) (by rw [HSL.out]; simp) hcap m hm
      rw [← e, hval] at hown
      rw [hval, HSL.out] at CT2
      replace CT2 := Lib.hid CT2
      have HOWN := Lib.hid hown
      clear hown hval hS e hrd hit
      go_wp2_with fail
      refine CT2.out.mono ?_
      rintro e w1 ⟨rfl, rfl⟩
      go_wp2
      go_ret
      exact ⟨_, _, rfl, HOWN.out, hwr⟩
end Go.Proofs.YtgbnadckhjfebaaRR

/- Walks: the program's natural numbers: Shift of 0 and to the right; the question of a digit's guess. -/
namespace Go.Proofs.YtgbnadckhjfebaaRR
open Go.RowKit

set_option maxHeartbeats 1000000 in
theorem shift_zero (l : List Int) (d : Int) (a : Option Addr) (c : Nat) (w : World) (h : NatR w a c l) (hn : val l = 0) (hd : -1048576 ≤ d ∧ d ≤ 1048576) :
    Calls Try.prog 64 #[.slice a l.length c, .int .i64 d] w fun e w' => e = .returned (.slice none 0 0) ∧ w = w' := by
  have CT := trim_any l a c w h
  rw [hn, limbs_zero] at CT
  replace CT := Lib.hid CT
  obtain ⟨hd1, hd2⟩ := hd
  clear h hn
  go_enter Try.func64, Try.ntmps64
  go_wp2_with fail
  refine CT.out.mono ?_
  rintro e w1 ⟨rfl, rfl⟩
  go_wp2
  go_ret
  exact ⟨rfl, rfl⟩
set_option maxHeartbeats 1000000 in
theorem shift_neg (l : List Int) (n s : Nat) (a : Option Addr) (c : Nat) (w : World) (h : NatR w a c l) (hn : val l = n) (h0 : 0 < n) (hl : l.length ≤ 10000000) (hs0 : 0 < s) (hs : s ≤ 1048576) :
    Calls Try.prog 64 #[.slice a l.length c, .int .i64 (-(s : Int))] w (RetN (limbs (n / 2 ^ s)) w) := by
  have CT := trim_any l a c w h
  have hT := h.trim
  have hlt := limbs_len_val h.u16
  rw [hn] at CT hT hlt
  have CR := right_any (limbs n) n s a c w hT (val_limbs n) (by omega) (by omega)
  have hTp := limbs_len_pos.2 h0
  revert CT CR hTp
  generalize (limbs n).length = T
  intro CT CR hTp
  replace CT := Lib.hid CT
  replace CR := Lib.hid CR
  have hne : ((T : Int) == 0) = false := by rw [beq_eq_false_iff_ne]; omega
  have hneg : - -(s : Int) = (s : Int) := by omega
  clear h hn hlt hT h0
  go_enter Try.func64, Try.ntmps64
  go_wp2_with fail
  refine CT.out.mono ?_
  rintro e w1 ⟨rfl, rfl⟩
  go_wp2_with fail
  refine CR.out.mono ?_
  rintro e w1 ⟨a1, c1, rfl, hV1, hb1⟩
  have HV := Lib.hid hV1
  clear hV1
  go_wp2
  go_ret
  exact ⟨_, _, rfl, HV.out, hb1⟩

/-- is the guess of a digit too great? -/
def tooGreat (d r v2 u0 : Nat) : Bool := decide (65536 ≤ d) || decide (r * 65536 + u0 < d * v2)
set_option maxRecDepth 100000 in
set_option maxHeartbeats 2000000 in
theorem tooGreat_any (v : List Int) (n j d r v2 u0 uc vc : Nat) (bd bv bn br bu bj g : Nat) (ul : Nat) (av : Option Addr) (w : World)
    (h0 : w.cell? ⟨bd, 0, none⟩ = some (.int .u64 d)) (h1 : w.cell? ⟨bv, 0, none⟩ = some (.slice av v.length vc)) (h2 : w.cell? ⟨bn, 0, none⟩ = some (.int .i64 ((n + 2 : Nat) : Int)))
    (h3 : w.cell? ⟨br, 0, none⟩ = some (.int .u64 r)) (h4 : w.cell? ⟨bu, 0, none⟩ = some (.slice (some ⟨g, 0, none⟩) ul uc)) (h5 : w.cell? ⟨bj, 0, none⟩ = some (.int .i64 j))
    (hv : ∃ b off, av = some ⟨b, off, none⟩ ∧ w.cell? ⟨b, off + n, none⟩ = some (.int .u16 v2)) (hu : w.cell? ⟨g, j + n, none⟩ = some (.int .u16 u0)) (hvl : v.length = n + 2) (hul : j + (n + 2) < ul) (hul2 : ul ≤ 16777216)
    (hd : d ≤ 65537) (hr : r < 65536) (hv2 : v2 ≤ 65535) (hu0 : u0 ≤ 65535) :
    Calls Try.prog 70 #[.pointer (some ⟨bd, 0, none⟩), .pointer (some ⟨bv, 0, none⟩), .pointer (some ⟨bn, 0, none⟩), .pointer (some ⟨br, 0, none⟩), .pointer (some ⟨bu, 0, none⟩), .pointer (some ⟨bj, 0, none⟩)] w
      fun e w' => e = .returned (.bool (tooGreat d r v2 u0)) ∧ w' = w.drew := by
  obtain ⟨b, off, rfl, hcv⟩ := hv
  have hp : d * v2 ≤ 65537 * 65535 := Nat.mul_le_mul hd hv2
  have hpi : (d : Int) * (v2 : Int) = ((d * v2 : Nat) : Int) := by simp
  unfold tooGreat
  revert hp hpi
  generalize d * v2 = P
  intro hp hpi
  obtain ⟨W, hW⟩ : ∃ W, r * 65536 + u0 = W := ⟨_, rfl⟩
  rw [hW]
  have hor : bits .or .u64 ((r : Int) * 65536) (u0 : Int) = (W : Int) := by
    have h1 := byLimb_or (r := r) (x := u0) (by omega)
    have h2 := u64_or_nat (r * 65536) u0 (by omega) (by omega)
    rw [h1, hW] at h2
    simpa using h2
  have e1 : ((n + 2 : Nat) : Int) = (n : Int) + 2 := by omega
  rw [e1] at h2
  have hn1 : (n : Int) + 2 - 2 = (n : Int) := by omega
  have hn2 : (j : Int) + ((n : Int) + 2) - 2 = ((j + n : Nat) : Int) := by omega
  have hvl2 : n < v.length := by omega
  have hul3 : j + n < ul := by omega
  have f1 : IntKind.i64.wrap (n : Int) = (n : Int) := by rw [IntKind.wrap_i64]; omega
  have f2 : IntKind.i64.wrap ((j : Int) + (n : Int)) = (j : Int) + (n : Int) := by rw [IntKind.wrap_i64]; omega
  have f3 : IntKind.i64.wrap ((j : Int) + ((n : Int) + 2)) = (j : Int) + ((n : Int) + 2) := by rw [IntKind.wrap_i64]; omega
  have f4 : IntKind.u64.wrap (P : Int) = (P : Int) := by rw [wrap64u]; congr 1; exact Nat.mod_eq_of_lt (by omega)
  have f5 : IntKind.u64.wrap ((r : Int) * 65536) = (r : Int) * 65536 := by simp [IntKind.wrap, IntKind.bits, IntKind.signed]; omega
  have f6 : IntKind.u64.wrap (v2 : Int) = (v2 : Int) := by rw [wrap64u]; congr 1; exact Nat.mod_eq_of_lt (by omega)
  have f7 : IntKind.u64.wrap (u0 : Int) = (u0 : Int) := by rw [wrap64u]; congr 1; exact Nat.mod_eq_of_lt (by omega)
  have f8 : (0 : Int) ≤ (n : Int) ∧ (n : Int) < (v.length : Int) := by omega
  have f9 : (0 : Int) ≤ (j : Int) + (n : Int) ∧ (j : Int) + (n : Int) < (ul : Int) := by omega
  have f10 : ((j : Int) + (n : Int)).toNat = j + n := by omega
  clear hW e1 hvl
  by_cases hg : 65536 ≤ d
  · have hgi : decide ((65536 : Int) ≤ (d : Int)) = true := by simp; omega
    have hgn : decide (65536 ≤ d) = true := by simpa using hg
    rw [hgn]
    clear hg
    go_enter Try.func70, Try.ntmps70
    go_wp2
    refine wp_region_mix (S := (fun x => x = w.drew)) [(0, .q), (1, .q), (2, .q), (3, .q), (4, .q), (5, .q), (6, .q), (7, .q), (8, .q), (9, .q), (10, .q), (11, .q), (12, .q), (13, .q), (14, .q), (15, .q), (16, .q), (17, .q), (18, .q), (19, .q), (20, .q), (21, .q), (22, .p), (23, .p), (24, .p)] (by kernel_rfl) (by kernel_rfl) (by kernel_rfl) (fun d _ _ _ _ h => by cases d <;> exact h) (rfl) ?_
    iterate 3 (refine wpMix_q rfl rfl (fun K hK => ?_); apply Exists.intro; refine ⟨fun w' hw' => ?_, ?_⟩; (focus (go_simp; try rfl)); go_simp; refine hK _ _ ?_; clear hK K)
    iterate 20 (refine wpMix_skip rfl rfl (fun K hK => ?_); go_simp; refine hK _ _ ?_; clear hK K)
    iterate 2 (refine wpMix_p rfl rfl (fun K hK => ?_); apply Exists.intro; refine ⟨fun w' => ?_, ?_⟩; (focus (go_simp; try rfl)); go_simp; refine hK _ _ ?_; clear hK K)
    refine wpMix_nil ?_
    go_wp2
    go_ret
    exact ⟨by simp, rfl⟩
  · have hgi : decide ((65536 : Int) ≤ (d : Int)) = false := by simp; omega
    have hgn : decide (65536 ≤ d) = false := by simpa using hg
    rw [hgn]
    clear hg
    go_enter Try.func70, Try.ntmps70
    go_wp2
    refine wp_region_mix (S := (fun x => x = w.drew)) [(0, .q), (1, .q), (2, .q), (3, .q), (4, .q), (5, .q), (6, .q), (7, .q), (8, .q), (9, .q), (10, .q), (11, .q), (12, .q), (13, .q), (14, .q), (15, .q), (16, .q), (17, .q), (18, .q), (19, .q), (20, .q), (21, .q), (22, .p), (23, .p), (24, .p)] (by kernel_rfl) (by kernel_rfl) (by kernel_rfl) (fun d _ _ _ _ h => by cases d <;> exact h) (rfl) ?_
    iterate 22 (refine wpMix_q rfl rfl (fun K hK => ?_); apply Exists.intro; refine ⟨fun w' hw' => ?_, ?_⟩; (focus (go_simp; try rfl)); go_simp; refine hK _ _ ?_; clear hK K)
    iterate 3 (refine wpMix_p rfl rfl (fun K hK => ?_); apply Exists.intro; refine ⟨fun w' => ?_, ?_⟩; (focus (go_simp; try rfl)); go_simp; refine hK _ _ ?_; clear hK K)
    refine wpMix_nil ?_
    go_wp2
    go_ret
    exact ⟨by simp, rfl⟩
end Go.Proofs.YtgbnadckhjfebaaRR

/- One digit of the long division: the guess, what is left. No function of the program in sight. -/
namespace Go.Proofs.YtgbnadckhjfebaaRR

/-- the limbs of which a digit is guessed -/
structure Top (L v : List Int) (n j u2 u1 u0 v1 v2 : Nat) : Prop where
  e2 : limbAt L (j + (n + 2)) = u2
  e1 : limbAt L (j + (n + 1)) = u1
  e0 : limbAt L (j + n) = u0
  f1 : limbAt v (n + 1) = v1
  f2 : limbAt v n = v2
theorem top_bounds {L v : List Int} {n j u2 u1 u0 v1 v2 : Nat} (h : Top L v n j u2 u1 u0 v1 v2) (hL : U16 L) (hv : U16 v) : u2 ≤ 65535 ∧ u1 ≤ 65535 ∧ u0 ≤ 65535 ∧ v1 ≤ 65535 ∧ v2 ≤ 65535 := by
  have a := limbAt_in hL (j + (n + 2))
  have b := limbAt_in hL (j + (n + 1))
  have c := limbAt_in hL (j + n)
  have d := limbAt_in hv (n + 1)
  have e := limbAt_in hv n
  rw [h.e2] at a
  rw [h.e1] at b
  rw [h.e0] at c
  rw [h.f1] at d
  rw [h.f2] at e
  omega
section
variable {L v : List Int} {n j u2 u1 u0 v1 v2 : Nat}
theorem guess_start (h : Top L v n j u2 u1 u0 v1 v2) (hL : U16 L) (hv : U16 v) (hvl : v.length = n + 2) (hjl : j + (n + 2) < L.length) (hlt : val (L.drop (j + 1)) < val v) (htop : 32768 ≤ v1) :
    Guess u2 u1 u0 v1 v2 ((65536 * u2 + u1) / v1) ((65536 * u2 + u1) % v1) := by
  obtain ⟨a, b, c, d, e⟩ := top_bounds h hL hv
  have h1 := top_le hL hv hvl hjl hlt
  rw [h.e2, h.f1] at h1
  exact Guess.start htop d b c (by omega)
theorem guess_end (h : Top L v n j u2 u1 u0 v1 v2) (hL : U16 L) (hv : U16 v) (hvl : v.length = n + 2) (hjl : j + (n + 2) < L.length) (hlt : val (L.drop (j + 1)) < val v) (htop : 32768 ≤ v1) {d r : Nat} (hG : Guess u2 u1 u0 v1 v2 d r)
    (he : 65536 ≤ r ∨ (d ≤ 65535 ∧ d * v2 ≤ r * 65536 + u0)) :
    d ≤ 65535 ∧ (d = val ((L.drop j).take (n + 3)) / val v ∨ d = val ((L.drop j).take (n + 3)) / val v + 1) ∧ (val ((L.drop j).take (n + 3)) < d * val v ↔ d = val ((L.drop j).take (n + 3)) / val v + 1) := by
  obtain ⟨a, b, c, f, e⟩ := top_bounds h hL hv
  have h1 := top_le hL hv hvl hjl hlt
  rw [h.e2, h.f1] at h1
  obtain ⟨g1, g2, g3⟩ := hG.done e b (by omega) (by rw [Nat.mul_comm 65536 r]; exact he)
  obtain ⟨s1, _, s3⟩ := seg_val hv hvl hjl hlt
  rw [show n + 2 + 1 = n + 3 by rfl] at s1 s3
  have hsu : U16 ((L.drop j).take (n + 3)) := (hL.drop _).take _
  obtain ⟨lo, hlo, t⟩ := top3 hsu s3
  rw [limbAt_seg (by omega), limbAt_seg (by omega), limbAt_seg (by omega), h.e2, h.e1, h.e0] at t
  simp only [Int.toNat_natCast] at t
  obtain ⟨lo2, hlo2, t2⟩ := top2 hv hvl
  rw [h.f1, h.f2] at t2
  simp only [Int.toNat_natCast] at t2
  obtain ⟨p1, p2⟩ := split_le hlo t
  obtain ⟨p3, p4⟩ := split_le hlo2 t2
  have hUV : val ((L.drop j).take (n + 3)) < 65536 * val v := by
    rw [← s1, val_drop_at L j]
    have := limbAt_in hL j
    omega
  obtain ⟨d1, d2⟩ := digit_of (by have := pow_pos16 n; omega) p1 p2 p3 p4 htop hUV g1 g2 g3
  exact ⟨g1, d1, d2⟩
end
/-- no more was taken than there was -/
theorem digit_ok {U V d o P b : Nat} (h : U + P * b = d * V + o) (hb : b = 0) (hlt : ¬ U < d * V) (hd : d = U / V ∨ d = U / V + 1) (hi : U < d * V ↔ d = U / V + 1) : d = U / V ∧ o = U % V := by
  have h1 : d = U / V := by
    rcases hd with h | h
    · exact h
    · exact (hlt (hi.2 h)).elim
  refine ⟨h1, ?_⟩
  subst hb
  have := div_sum U V
  rw [← h1] at this
  omega
end Go.Proofs.YtgbnadckhjfebaaRR
