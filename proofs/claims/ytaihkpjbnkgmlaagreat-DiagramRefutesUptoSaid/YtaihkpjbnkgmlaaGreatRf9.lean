/- Walks of the reference's natural numbers: Mul. -/
import Derived.Test.YtaihkpjbnkgmlaaGreatRf2
import Derived.Test.YtaihkpjbnkgmlaaGreatRf3
import Derived.Deep.DeepCutAuto

/- Walks of the reference's natural numbers: limb, Norm, Of, short, Cmp, Valid, Same. -/
namespace Go.Proofs.YtaihkpjbnkgmlaaGreat
open Go.RowKit

set_option maxHeartbeats 400000 in
theorem limb01_any (l : List Int) (k : Nat) (a : Option Addr) (c : Nat) (w : World) (h : NatR w a c l) :
  Calls Tryz.prog 242 #[.slice a l.length c, .int .i64 k] w fun r w' => r = .returned (.int .i64 (limbAt l k)) ∧ w = w' := by
 have hl := h.len
 have hU := h.u16
 by_cases hlt : k < l.length
 ·
  obtain ⟨x, hx⟩ := get_of_lt hlt
  obtain ⟨b, off, rfl, hc⟩ := h.cell hx
  have hxr := hU.get hx
  have he : limbAt l k = x := limbAt_some hx
  rw [he]
  clear h hU he hx
  obtain ⟨hx0, hx1⟩ := hxr
  go_enter Tryz.func242, Tryz.ntmps242
  go_wp2
  go_ret
  exact ⟨rfl, rfl⟩
 ·
  have he : limbAt l k = 0 := limbAt_none (by omega)
  rw [he]
  clear h hU he
  go_enter Tryz.func242, Tryz.ntmps242
  go_wp2
  go_ret
  exact ⟨rfl, rfl⟩
theorem limb01_quiet (l : List Int) (k : Nat) (a : Option Addr) (c : Nat) (w : World) (h : NatR w a c l) :
  Calls Tryz.prog 242 #[.slice a l.length c, .int .i64 k] w fun r w' => r = .returned (.int .i64 (limbAt l k)) ∧ w' = w :=
 (limb01_any l k a c w h).mono fun _ _ h => ⟨h.1, h.2.symm⟩

set_option maxHeartbeats 400000 in
theorem norm01_any (l : List Int) (a : Option Addr) (c : Nat) (w : World) (h : NatR w a c l) (hl : l.length ≤ 16777216) :
  Calls Tryz.prog 172 #[.slice a l.length c] w (RetN (limbs (val l)) w) := by
 have hcap := h.1
 have hmx := h.2.1
 have H := Lib.hid h
 clear h
 unfold maxLen at hmx
 go_enter Tryz.func172, Tryz.ntmps172
 go_wp2
 go_loop [3] (fun n => ∃ k : Nat, k ≤ l.length ∧ n = .int .i64 k ∧ Hid (val (l.drop k) = 0)) (fun n => (intOf n).toNat)
 case atStart => exact ⟨l.length, Nat.le_refl _, rfl, val_drop_all (Nat.le_refl _)⟩
 case round =>
  obtain ⟨k, hk, rfl, hz⟩ := hrel
  by_cases h0 : k = 0
  ·
   subst h0
   have hg : decide ((0 : Int) < ((0 : Nat) : Int)) = false := by simp
   have hcut : limbs (val l) = [] := by
    have : val l = 0 := by simpa using hz.out
    rw [this, limbs_zero]
   go_wp2_with (at_builtin; go_must (refine append_nats (B := w.heap.size) rfl (.tmp 19) (.tmp 22) rfl none 0 (l := []) rfl Own.nil a c (m := []) rfl H.out.zero [] rfl (by simp) (Nat.le_refl _) ?_); intro a' c' w1 hown hg1 hb1)
   go_ret
   exact RetN.own hown U16.nil hb1 rfl rfl
  ·
   have hgt : decide ((0 : Int) < (k : Int)) = true := by simp; omega
   have hk1 : (k : Int) - 1 = ((k - 1 : Nat) : Int) := by omega
   obtain ⟨x, hx⟩ := get_of_lt (xs := l) (k := k - 1) (by omega)
   obtain ⟨b, off, rfl, hc⟩ := H.out.cell hx
   have hr := H.out.u16.get hx
   have hge : (0 : Int) ≤ (k : Int) - 1 := by omega
   have hvd := val_drop hx
   have ek : k - 1 + 1 = k := by omega
   rw [ek] at hvd
   have HV := Lib.hid hvd
   have HX := Lib.hid hx
   have HK := Lib.hid hk1
   have hc' : w.cell? ⟨b, off + (k - 1), none⟩ = some (.int .u16 x) := hc
   clear hvd hx hc ek hk1
   by_cases hx0 : x = 0
   ·
    subst hx0
    have e0 : ((0 : Int) == 0) = true := rfl
    go_wp2
    all_goals
     go_round
     case rel => exact ⟨k - 1, by omega, by rw [HK.out], by show val _ = 0; rw [HV.out, hz.out]; rfl⟩
     case measure => simp [intOf]; omega
   ·
    have e0 : (x == 0) = false := by simpa using hx0
    have hcut : limbs (val l) = l.take k := limbs_cut H.out.u16 hz.out (fun y _ hy => by
     rw [HX.out] at hy
     injection hy with hy
     rw [← hy]; exact hx0) hk
    have HC := Lib.hid hcut
    clear hcut
    have hlen : (l.take k).length = k := by simp; omega
    have HL := Lib.hid hlen
    clear hlen
    go_wp2_with (at_builtin; go_must (refine append_nats (B := w.heap.size) rfl (.tmp 19) (.tmp 22) rfl none 0 (l := []) rfl Own.nil (some ⟨b, off, none⟩) c (m := l.take k) (by rw [HL.out]; rfl) (H.out.take k) (l.take k) rfl (by rw [HL.out]; omega) (Nat.le_refl _) ?_); intro a' c' w1 hown hg1 hb1)
    go_ret
    exact RetN.own hown (H.out.u16.take k) hb1 HC.out HL.out.symm

set_option maxHeartbeats 400000 in
theorem of01_any (n : Nat) (w : World) (hn : n < 18446744073709551616) :
  Calls Tryz.prog 95 #[.int .u64 n] w (RetN (limbs n) w) := by
 go_enter Tryz.func95, Tryz.ntmps95
 go_wp2
 go_loopw [0, 3] (fun i s wr => ∃ (m : Nat) (l : List Int) (a : Option Addr) (c : Nat), m ≤ n ∧ i = .int .u64 m ∧ s = .slice a l.length c ∧ OwnN w.heap.size wr a c l ∧ U16 l ∧ l.length ≤ 1000 ∧ Below w.heap.size w wr ∧ Hid (limbs n = l ++ limbs m)) (fun i _ _ => (intOf i).toNat)
 case atStart => exact ⟨n, [], none, 0, Nat.le_refl _, rfl, rfl, Own.nil, U16.nil, by simp, Below.refl _ _, rfl⟩
 case round =>
  obtain ⟨m, l, a, c, hm, rfl, rfl, ho, hU, hlen, hb, hr⟩ := hrel
  have HO := Lib.hid ho
  clear ho
  by_cases h0 : m = 0
  ·
   subst h0
   have HR : limbs n = l := by have := hr.out; rw [limbs_zero] at this; simpa using this
   replace HR := Lib.hid HR
   go_wp2
   go_ret
   exact RetN.own HO.out hU hb HR.out rfl
  ·
   have hgt : decide ((0 : Int) < (m : Int)) = true := by simp; omega
   have hs : limbs m = ((m % 65536 : Nat) : Int) :: limbs (m / 65536) := limbs_pos h0
   have hr2 : limbs n = (l ++ [((m % 65536 : Nat) : Int)]) ++ limbs (m / 65536) := by rw [hr.out, hs]; simp
   have HR := Lib.hid hr2
   clear hs hr2
   have hlt : m < 18446744073709551616 := by omega
   have hm1 : ((m : Int) % 65536) = ((m % 65536 : Nat) : Int) := by omega
   have hm2 : ((m : Int) / 65536) = ((m / 65536 : Nat) : Int) := by omega
   have HM1 := Lib.hid hm1
   have HM2 := Lib.hid hm2
   clear hm1 hm2
   go_wp2_with (at_builtin; go_must (refine append_nat rfl (.tmp 6) (.tmp 10) rfl a c rfl (HO.out.alloc _) ((m % 65536 : Nat) : Int) wr.heap.size 1 rfl (by simp <;> omega) (l ++ [((m % 65536 : Nat) : Int)]) rfl (by simp; omega) (by have := hb.size; simp; omega) ?_); intro a2 c2 w2 ho2 hg2 hx2)
   go_roundw
   case rel =>
    have hb1 : Below w.heap.size w w2 := below_append' (hb.alloc hb.size _) (HO.out.alloc _) hg2
    have hl4 : (l ++ [((m % 65536 : Nat) : Int)]).length ≤ 1000 := by
     have h4 : (limbs n).length ≤ 4 := limbs_len_le (by simpa using hn)
     rw [HR.out] at h4
     simp only [List.length_append] at h4 ⊢
     omega
    exact ⟨m / 65536, l ++ [((m % 65536 : Nat) : Int)], a2, c2, by omega, by rw [HM2.out], by simp, ho2, hU.app (U16.cons (by omega) U16.nil), hl4, hb1, HR.out⟩
   case measure => rw [HM2.out]; simp [intOf]; omega

theorem val_drop_le (l : List Int) (k : Nat) : val (l.drop k) ≤ val l := by
 by_cases hk : k ≤ l.length
 ·
  have := val_split l k
  have h1 : 1 ≤ 65536 ^ (l.take k).length := Nat.one_le_pow _ _ (by omega)
  have h2 := Nat.mul_le_mul_right (val (l.drop k)) h1
  omega
 · rw [val_drop_all (by omega)]; omega
set_option maxHeartbeats 400000 in
theorem short01_any (l : List Int) (a : Option Addr) (c : Nat) (w : World) (h : NatR w a c l) (hv : val l < 18446744073709551616) :
  Calls Tryz.prog 239 #[.slice a l.length c] w fun r w' => r = .returned (.int .u64 (val l)) ∧ w = w' := by
 have hlen := h.len
 have H := Lib.hid h
 clear h
 go_enter Tryz.func239, Tryz.ntmps239
 go_wp2
 go_loop [3, 4] (fun n i => ∃ k : Nat, k ≤ l.length ∧ i = .int .i64 ((k : Int) - 1) ∧ n = .int .u64 (val (l.drop k) : Nat)) (fun _ i => (intOf i + 1).toNat)
 case atStart => exact ⟨l.length, Nat.le_refl _, rfl, by rw [val_drop_all (Nat.le_refl _)]; rfl⟩
 case round =>
  obtain ⟨k, hk, rfl, rfl⟩ := hrel
  by_cases h0 : k = 0
  ·
   subst h0
   go_wp2
   go_ret
   exact ⟨by simp, rfl⟩
  ·
   have hgt : decide ((0 : Int) ≤ (k : Int) - 1) = true := by simp; omega
   have hge : (0 : Int) ≤ (k : Int) - 1 := by omega
   obtain ⟨x, hx⟩ := get_of_lt (xs := l) (k := k - 1) (by omega)
   obtain ⟨b, off, rfl, hc⟩ := H.out.cell hx
   obtain ⟨hx0, hx1⟩ := H.out.u16.get hx
   have hvd := val_drop hx
   have ek : k - 1 + 1 = k := by omega
   rw [ek] at hvd
   have hle := val_drop_le l (k - 1)
   have HV := Lib.hid hvd
   have hb1 : (val (l.drop k) : Int) * 65536 + x ≤ 18446744073709551615 := by omega
   have hb0 : 0 ≤ (val (l.drop k) : Int) * 65536 := by omega
   have hb2 : (val (l.drop k) : Int) * 65536 ≤ 18446744073709551615 := by omega
   clear hvd ek hx hle
   go_wp2
   all_goals
    go_round
    case rel => exact ⟨k - 1, by omega, by first | (congr 1; omega) | rfl, val_int (by rw [HV.out]; omega)⟩
    case measure => simp [intOf]; omega

set_option maxHeartbeats 400000 in
theorem cmp01_any (l m : List Int) (a a' : Option Addr) (c c' : Nat) (w : World) (h : NatR w a c l) (h' : NatR w a' c' m) (hl : l.length ≤ 16777216) (hm : m.length ≤ 16777216) :
  Calls Tryz.prog 181 #[.slice a l.length c, .slice a' m.length c'] w fun r w' => r = .returned (.int .i64 (cmpN (val l) (val m))) ∧ w = w' := by
 have hU := h.u16
 have hU' := h'.u16
 have H := Lib.hid h
 have H' := Lib.hid h'
 clear h h'
 go_enter Tryz.func181, Tryz.ntmps181
 go_wp2
 all_goals
  go_loop [5] (fun i => ∃ k : Nat, k ≤ 16777216 ∧ i = .int .i64 ((k : Int) - 1) ∧ Hid (val (l.drop k) = val (m.drop k))) (fun i => (intOf i + 1).toNat)
  case atStart => first
    | exact ⟨m.length, hm, rfl, by show _ = _; rw [val_drop_all (by omega), val_drop_all (by omega)]⟩
    | exact ⟨l.length, hl, rfl, by show _ = _; rw [val_drop_all (by omega), val_drop_all (by omega)]⟩
    | exact ⟨max l.length m.length, by omega, val_int (by omega), by show _ = _; rw [val_drop_all (by omega), val_drop_all (by omega)]⟩
  case round =>
   obtain ⟨k, hk, rfl, he⟩ := hrel
   by_cases h0 : k = 0
   ·
    subst h0
    have hz : cmpN (val l) (val m) = 0 := by have := he.out; simp at this; rw [this]; simp [cmpN]
    replace hz := Lib.hid hz
    go_wp2
    go_ret
    exact ⟨ret_int hz.out.symm, rfl⟩
   ·
    have hgt : decide ((0 : Int) ≤ (k : Int) - 1) = true := by simp; omega
    have hge : (0 : Int) ≤ (k : Int) - 1 := by omega
    have ek : k - 1 + 1 = k := by omega
    have hkk : (k : Int) - 1 = ((k - 1 : Nat) : Int) := by omega
    have CX := limb01_any l (k - 1) a c w H.out
    have CY := limb01_any m (k - 1) a' c' w H'.out
    have hlx := limbAt_in hU (k - 1)
    have hly := limbAt_in hU' (k - 1)
    have hL : val (l.drop k) = val (m.drop k) → limbAt l (k - 1) < limbAt m (k - 1) → val l < val m := fun e => val_lt_of hU hU' (k - 1) (by rw [ek]; exact e)
    have hG : val (l.drop k) = val (m.drop k) → limbAt m (k - 1) < limbAt l (k - 1) → val m < val l := fun e => val_lt_of hU' hU (k - 1) (by rw [ek]; exact e.symm)
    have hE : val (l.drop k) = val (m.drop k) → limbAt l (k - 1) = limbAt m (k - 1) → val (l.drop (k - 1)) = val (m.drop (k - 1)) := fun e e2 => by rw [val_drop_at, val_drop_at (l := m), ek, e, e2]
    rw [← hkk] at CX CY
    revert CX CY hlx hly hL hG hE
    generalize limbAt l (k - 1) = x
    generalize limbAt m (k - 1) = y
    intro CX CY hlx hly hL hG hE
    replace CX := Lib.hid CX
    replace CY := Lib.hid CY
    replace hL := hL he.out
    replace hG := hG he.out
    have HE := Lib.hid (hE he.out)
    clear hE hkk
    by_cases hlt : x < y
    ·
     have hv := hL hlt
     clear hL hG HE
     go_wp2_with (go_at_call 242; (first | ((with_reducible refine CX.out.mono ?_); rintro e w' ⟨rfl, rfl⟩) | ((with_reducible refine CY.out.mono ?_); rintro e w' ⟨rfl, rfl⟩)))
     go_ret
     exact ⟨ret_int (by unfold cmpN; rw [if_pos hv]), rfl⟩
    ·
     by_cases hgt2 : y < x
     ·
      have hv := hG hgt2
      clear hL hG HE
      go_wp2_with (go_at_call 242; (first | ((with_reducible refine CX.out.mono ?_); rintro e w' ⟨rfl, rfl⟩) | ((with_reducible refine CY.out.mono ?_); rintro e w' ⟨rfl, rfl⟩)))
      go_ret
      exact ⟨ret_int (by unfold cmpN; rw [if_neg (by omega), if_pos hv]), rfl⟩
     ·
      clear hL hG
      go_wp2_with (go_at_call 242; (first | ((with_reducible refine CX.out.mono ?_); rintro e w' ⟨rfl, rfl⟩) | ((with_reducible refine CY.out.mono ?_); rintro e w' ⟨rfl, rfl⟩)))
      all_goals
       go_round
       case rel => exact ⟨k - 1, by omega, by first | (congr 1; omega) | rfl, HE.out (by omega)⟩
       case measure => simp [intOf]; omega
end Go.Proofs.YtaihkpjbnkgmlaaGreat

/- Walks of the reference's natural numbers: Valid, Same, Sub, Mul. -/
namespace Go.Proofs.YtaihkpjbnkgmlaaGreat
open Go.RowKit

/-- without leading zeros -/
def canonB (l : List Int) : Bool := decide (limbs (val l) = l)
theorem canonB_last {l : List Int} (h : U16 l) {x : Int} (hx : l[l.length - 1]? = some x) (_ : 0 < l.length) : canonB l = !(x == 0) := by
 unfold canonB
 by_cases hx0 : x = 0
 ·
  subst hx0
  simp only [beq_self_eq_true, Bool.not_true, decide_eq_false_iff_not]
  intro e
  have : (limbs (val l)).getLast? = some 0 := by rw [e, List.getLast?_eq_getElem?]; exact hx
  exact limbs_last this rfl
 ·
  have e : (x == 0) = false := by simpa using hx0
  rw [e]
  simp only [Bool.not_false, decide_eq_true_eq]
  refine limbs_canon h fun y hy => ?_
  rw [List.getLast?_eq_getElem?, hx] at hy
  injection hy with hy
  rw [← hy]; exact hx0
set_option maxHeartbeats 400000 in
theorem valid01_any (l : List Int) (a : Option Addr) (c : Nat) (w : World) (h : NatR w a c l) :
  Calls Tryz.prog 103 #[.slice a l.length c] w fun r w' => r = .returned (.bool (canonB l)) ∧ w = w' := by
 have hlen := h.len
 have H := Lib.hid h
 clear h
 by_cases h0 : l.length = 0
 ·
  have hl : l = [] := List.eq_nil_of_length_eq_zero h0
  subst hl
  have hc : canonB [] = true := by simp [canonB, val, limbs_zero]
  rw [hc]
  clear hc h0
  go_enter Tryz.func103, Tryz.ntmps103
  go_wp2
  go_ret
  exact ⟨rfl, rfl⟩
 ·
  obtain ⟨x, hx⟩ := get_of_lt (xs := l) (k := l.length - 1) (by omega)
  obtain ⟨b, off, rfl, hc⟩ := H.out.cell hx
  have hcan := canonB_last H.out.u16 hx (by omega)
  have HC := Lib.hid hcan
  have hb : ((l.length : Int) == 0) = false := by simp; exact fun e => h0 (by simp [e])
  have hge : (0 : Int) ≤ (l.length : Int) - 1 := by omega
  clear hcan hx
  by_cases hx0 : x = 0
  ·
   subst hx0
   go_enter Tryz.func103, Tryz.ntmps103
   go_wp2
   go_ret
   exact ⟨ret_bool (by rw [HC.out]; rfl), rfl⟩
  ·
   have e0 : (x == 0) = false := by simpa using hx0
   have e1 : (x != 0) = true := by simpa using hx0
   go_enter Tryz.func103, Tryz.ntmps103
   go_wp2
   go_ret
   exact ⟨ret_bool (by rw [HC.out, e0]; rfl), rfl⟩

set_option maxHeartbeats 400000 in
theorem same01_any (xs ys : List Int) (a a' : Option Addr) (c c' : Nat) (w : World) (h : NatR w a c xs) (h' : NatR w a' c' ys) :
  Calls Tryz.prog 104 #[.slice a xs.length c, .slice a' ys.length c'] w fun r w' => r = .returned (.bool (decide (xs = ys))) ∧ Below w.heap.size w w' := by
 have H := Lib.hid h
 have H' := Lib.hid h'
 have hl := h.len
 have hl' := h'.len
 clear h h'
 by_cases hlen : xs.length = ys.length
 ·
  have hlb : ((xs.length : Int) != (ys.length : Int)) = false := by simp; omega
  have HL := Lib.hid hlen
  clear hlen
  go_enter Tryz.func104, Tryz.ntmps104
  go_wp2
  go_loopw [5] (fun i wr => ∃ k : Nat, k ≤ xs.length ∧ i = .int .i64 k ∧ Below w.heap.size w wr ∧ Hid (xs.take k = ys.take k)) (fun i _ => xs.length - (intOf i).toNat)
  case atStart => exact ⟨0, by omega, rfl, Below.refl _ _, by simp [Hid]⟩
  case round =>
   obtain ⟨k, hk, rfl, hb, hp⟩ := hrel
   by_cases hlt : k < xs.length
   ·
    obtain ⟨x, hx⟩ := get_of_lt hlt
    obtain ⟨y, hy⟩ := get_of_lt (xs := ys) (k := k) (by have := HL.out; omega)
    obtain ⟨b, off, rfl, hE⟩ := H.out.2.2 k x hx
    obtain ⟨b', off', rfl, hE'⟩ := H'.out.2.2 k y hy
    have hc : wr.cell? ⟨b, off + k, none⟩ = some (.int .u16 x) := by have := (hE.ext (Ext.below hb)).1; simpa using this
    have hc' : wr.cell? ⟨b', off' + k, none⟩ = some (.int .u16 y) := by have := (hE'.ext (Ext.below hb)).1; simpa using this
    have hky : (k : Int) < (ys.length : Int) := by have := HL.out; omega
    have HX := Lib.hid hx
    have HY := Lib.hid hy
    clear hx hy hE hE'
    by_cases he : x = y
    ·
     have hbe : (x != y) = false := by simpa using he
     have HE := Lib.hid he
     clear he
     go_wp2
     go_quiet (fail)
     go_wp2
     refine ⟨⟨k + 1, by omega, by go_num, below_drewN hb _, ?_⟩, by simp [intOf]; omega⟩
     rw [take_more HX.out, take_more HY.out, hp.out, HE.out]; rfl
    ·
     have hbe : (x != y) = true := by simpa using he
     have HE := Lib.hid he
     clear he
     go_wp2
     go_quiet (fail)
     go_wp2
     go_ret
     refine ⟨ret_bool ?_, below_drewN hb _⟩
     refine (decide_eq_false (fun e => HE.out ?_)).symm
     have h1 := HX.out
     have h2 := HY.out
     rw [e, h2] at h1
     exact (Option.some.inj h1).symm
   ·
    go_wp2
    go_ret
    refine ⟨ret_bool ?_, hb⟩
    have := hp.out
    rw [take_all hlt, List.take_of_length_le (by have := HL.out; omega)] at this
    rw [this]; simp
 ·
  have hlb : ((xs.length : Int) != (ys.length : Int)) = true := by simp; omega
  have hd : decide (xs = ys) = false := decide_eq_false (fun e => hlen (by rw [e]))
  rw [hd]
  clear hlen hd
  go_enter Tryz.func104, Tryz.ntmps104
  go_wp2
  go_ret
  exact ⟨rfl, Below.refl _ _⟩
end Go.Proofs.YtaihkpjbnkgmlaaGreat

/- Walks of the reference's natural numbers: Sub. -/
namespace Go.Proofs.YtaihkpjbnkgmlaaGreat
open Go.RowKit

/-- what a call gives that makes the limbs l and an error -/
def RetNE (l : List Int) (x : Int) (w : World) (e : Ending) (w' : World) : Prop := ∃ a c, e = .returned (.tuple #[.slice a l.length c, .int .i64 x]) ∧ (∀ V, New w.heap.size w' V → NatR V a c l) ∧ Below w.heap.size w w'

theorem sub01_less (l m : List Int) (n k : Nat) (a a' : Option Addr) (c c' : Nat) (w : World) (h : NatR w a c l) (h' : NatR w a' c' m) (hn : val l = n) (hk : val m = k) (hl : l.length ≤ 16777216) (hm : m.length ≤ 16777216) (hlt : n < k) :
  Calls Tryz.prog 241 #[.slice a l.length c, .slice a' m.length c'] w (RetNE [] 2 w) := by
 have C := cmp01_any l m a a' c c' w h h' hl hm
 have hc : cmpN (val l) (val m) = -1 := by subst hn; subst hk; unfold cmpN; rw [if_pos hlt]
 rw [hc] at C
 replace C := Lib.hid C
 clear h h' hn hk hc hlt
 go_enter Tryz.func241, Tryz.ntmps241
 go_wp2_with (go_at_call 181; refine C.out.mono ?_; rintro e w' ⟨rfl, rfl⟩)
 go_ret2
 exact ⟨none, 0, rfl, fun _ _ => SlR.nil, Below.refl _ _⟩

set_option maxHeartbeats 800000 in
theorem sub01_any (l m : List Int) (n k : Nat) (a a' : Option Addr) (c c' : Nat) (w : World) (h : NatR w a c l) (h' : NatR w a' c' m) (hn : val l = n) (hk : val m = k) (hl : l.length ≤ 16777215) (hm : m.length ≤ 16777216) (hge : k ≤ n) :
  Calls Tryz.prog 241 #[.slice a l.length c, .slice a' m.length c'] w (RetNE (limbs (n - k)) 0 w) := by
 have C := cmp01_any l m a a' c c' w h h' (by omega) hm
 have hc : 0 ≤ cmpN (val l) (val m) := by subst hn; subst hk; exact cmpN_ge.2 hge
 have hU := h.u16
 have hU' := h'.u16
 have H := Lib.hid h
 have H' := Lib.hid h'
 have HN := Lib.hid hn
 have HK := Lib.hid hk
 have HU := Lib.hid hU
 have HU' := Lib.hid hU'
 revert C hc
 generalize cmpN (val l) (val m) = q
 intro C hc
 replace C := Lib.hid C
 have hcf : decide (q < 0) = false := by simp; omega
 clear h h' hn hk hU hU' hc
 go_enter Tryz.func241, Tryz.ntmps241
 go_wp2_with (go_at_call 181; refine C.out.mono ?_; rintro e w' ⟨rfl, rfl⟩)
 clear C hcf
 go_loopw [6, 7, 8, 9] (fun s b i _ wr => ∃ (j bo : Nat) (o : List Int) (ao : Option Addr) (co : Nat), j ≤ l.length ∧ bo ≤ 1 ∧ i = .int .i64 j ∧ b = .int .i64 bo ∧ s = .slice ao o.length co ∧ OwnN w.heap.size wr ao co o ∧ U16 o ∧ Below w.heap.size w wr ∧
  Hid (o.length = j) ∧ Hid (val (l.take j) + 65536 ^ j * bo = val (m.take j) + val o)) (fun _ _ i _ _ => l.length - (intOf i).toNat)
 case atStart => exact ⟨0, 0, [], none, 0, by omega, by omega, rfl, rfl, rfl, Own.nil, U16.nil, Below.refl _ _, rfl, by simp [Hid, val]⟩
 case round =>
  obtain ⟨j, bo, o, ao, co, hj, hbo, rfl, rfl, rfl, ho, hUo, hb, hlen, hv⟩ := hrel
  have HO := Lib.hid ho
  have HUO := Lib.hid hUo
  clear ho hUo
  by_cases hlt : j < l.length
  ·
   have CX := limb01_any l j a c wr (H.out.ext (Ext.below hb))
   have CY := limb01_any m j a' c' wr (H'.out.ext (Ext.below hb))
   obtain ⟨hx0, hx1⟩ := limbAt_in HU.out j
   obtain ⟨hy0, hy1⟩ := limbAt_in HU'.out j
   have hstep := fun bo2 d => sub_step l m o j bo bo2 d hlen.out hv.out
   revert CX CY hx0 hx1 hy0 hy1 hstep
   generalize limbAt l j = x
   generalize limbAt m j = y
   intro CX CY hx0 hx1 hy0 hy1 hstep
   replace CX := Lib.hid CX
   replace CY := Lib.hid CY
   have HS := Lib.hid hstep
   clear hstep
   by_cases hd : x - y - bo < 0
   ·
    have HS2 := HS.out 1 (x - y - bo + 65536).toNat (by omega)
    have ed : ((x - y - (bo : Int) + 65536).toNat : Int) = x - y - bo + 65536 := by omega
    rw [ed] at HS2
    replace HS2 := Lib.hid HS2
    clear ed
    go_wp2_with (first
     | (go_at_call 242; (first | ((with_reducible refine CX.out.mono ?_); rintro e w' ⟨rfl, rfl⟩) | ((with_reducible refine CY.out.mono ?_); rintro e w' ⟨rfl, rfl⟩)))
     | (at_builtin; go_must (refine append_nat rfl (.tmp 33) (.tmp 36) rfl ao co rfl (HO.out.alloc _) (x - y - bo + 65536) wr.heap.size 1 rfl (by simp) (o ++ [x - y - bo + 65536]) rfl (by have := hlen.out; simp; omega) (by have := hb.size; simp; omega) ?_); intro a2 c2 w2 ho2 hg2 hx2))
    go_roundw
    case rel =>
     have hb1 : Below w.heap.size w w2 := below_append' (hb.alloc hb.size _) (HO.out.alloc _) hg2
     exact ⟨j + 1, 1, _, a2, c2, by omega, by omega, by go_num, rfl, by simp, ho2, HUO.out.app (U16.cons (by omega) U16.nil), hb1, by show _ = _; rw [List.length_append, hlen.out]; rfl, HS2.out⟩
    case measure => simp [intOf]; omega
   ·
    have HS2 := HS.out 0 (x - y - bo).toNat (by omega)
    have ed : ((x - y - (bo : Int)).toNat : Int) = x - y - bo := by omega
    rw [ed] at HS2
    replace HS2 := Lib.hid HS2
    clear ed
    go_wp2_with (first
     | (go_at_call 242; (first | ((with_reducible refine CX.out.mono ?_); rintro e w' ⟨rfl, rfl⟩) | ((with_reducible refine CY.out.mono ?_); rintro e w' ⟨rfl, rfl⟩)))
     | (at_builtin; go_must (refine append_nat rfl (.tmp 33) (.tmp 36) rfl ao co rfl (HO.out.alloc _) (x - y - bo) wr.heap.size 1 rfl (by simp) (o ++ [x - y - bo]) rfl (by have := hlen.out; simp; omega) (by have := hb.size; simp; omega) ?_); intro a2 c2 w2 ho2 hg2 hx2))
    go_roundw
    case rel =>
     have hb1 : Below w.heap.size w w2 := below_append' (hb.alloc hb.size _) (HO.out.alloc _) hg2
     exact ⟨j + 1, 0, _, a2, c2, by omega, by omega, by go_num, rfl, by simp, ho2, HUO.out.app (U16.cons (by omega) U16.nil), hb1, by show _ = _; rw [List.length_append, hlen.out]; rfl, HS2.out⟩
    case measure => simp [intOf]; omega
  ·
   obtain rfl : j = l.length := by omega
   have hval : val o = n - k := by
    have := sub_end HU.out HU'.out HUO.out hlen.out hv.out (by rw [HN.out, HK.out]; exact hge)
    rw [this, HN.out, HK.out]
   have CN := norm01_any o ao co wr (HO.out.reads1 HUO.out) (by have := hlen.out; omega)
   rw [hval] at CN
   replace CN := Lib.hid CN
   clear hval
   go_wp2_with (go_at_call 172; refine CN.out.mono ?_; rintro e w2 ⟨a2, c2, rfl, hV, hb2⟩)
   go_ret2
   exact ⟨a2, c2, rfl, fun V hV' => hV V (hV'.base hb.size), below_then hb hb2⟩
end Go.Proofs.YtaihkpjbnkgmlaaGreat

/- Walks of the reference's natural numbers: Mul. -/
namespace Go.Proofs.YtaihkpjbnkgmlaaGreat
open Go.RowKit

set_option maxHeartbeats 1000000 in
theorem mul01_any (l m : List Int) (n1 n2 : Nat) (a a' : Option Addr) (c c' : Nat) (w : World) (h : NatR w a c l) (h' : NatR w a' c' m) (hn : val l = n1) (hk : val m = n2) (hl : l.length ≤ 8000000) (hm : m.length ≤ 8000000) :
  Calls Tryz.prog 182 #[.slice a l.length c, .slice a' m.length c'] w (RetN (limbs (n1 * n2)) w) := by
 have hU := h.u16
 have hU' := h'.u16
 have H := Lib.hid h
 have H' := Lib.hid h'
 have HN := Lib.hid hn
 have HK := Lib.hid hk
 have HU := Lib.hid hU
 have HU' := Lib.hid hU'
 have hmk : ∀ w, (Instr.makeSlice 39 (.int .i64 ((l.length : Int) + m.length + 1)) (.int .i64 ((l.length : Int) + m.length + 1))).run Tryz.prog w = .ok (.slice (some ⟨w.heap.size, 0, none⟩) (l.length + m.length + 1) (l.length + m.length + 1)) (w.alloc (.cells (madeCells #[.int .u16 0] (l.length + m.length + 1)) 205)) := fun w => by
  have := run_make_nat .i64 (l.length + m.length + 1) (by omega) w
  simpa using this
 clear h h' hn hk hU hU'
 go_enter Tryz.func182, Tryz.ntmps182
 go_wp2
 have hB0 := BlkN.new w (l.length + m.length + 1)
 have hb0 : Below w.heap.size w (w.alloc (.cells (madeCells #[.int .u16 0] (l.length + m.length + 1)) 205)) := (Below.refl _ _).alloc (Nat.le_refl _) _
 revert hB0 hb0
 generalize w.alloc (.cells (madeCells #[.int .u16 0] (l.length + m.length + 1)) 205) = w0
 intro hB0 hb0
 clear hmk
 go_loopw [6, 7, 8, 9] (fun i _ _ _ wr => ∃ (j : Nat) (o : List Int), j ≤ l.length ∧ i = .int .i64 j ∧ BlkN wr w.heap.size o ∧ U16 o ∧ Below w.heap.size w wr ∧ Hid (o.length = l.length + m.length + 1) ∧ Hid (val o = val (l.take j) * val m)) (fun i _ _ _ _ => l.length - (intOf i).toNat)
 case atStart => exact ⟨0, _, by omega, rfl, hB0, u16_replicate _, hb0, by simp [Hid], by show _ = _; rw [val_replicate]; simp [val]⟩
 case round =>
  obtain ⟨j, o, hj, rfl, hB, hUo, hb, hlen, hv⟩ := hrel
  clear hB0 hb0
  by_cases hlt : j < l.length
  ·
   obtain ⟨x, hx⟩ := get_of_lt hlt
   have hxr := HU.out.get hx
   have HX := Lib.hid hx
   obtain ⟨ba, oa, rfl, hcx⟩ := H.out.cell hx
   have HCX := Lib.hid hcx
   have HB := Lib.hid hB
   have HUO := Lib.hid hUo
   clear hx hcx hB hUo
   obtain ⟨hx0, hx1⟩ := hxr
   go_wp2
   go_loopw [7, 8, 9] (fun ca k _ w2 => ∃ (cy kk : Nat) (o2 : List Int), kk ≤ m.length + 1 ∧ cy ≤ 65535 ∧ ca = .int .u64 cy ∧ k = .int .i64 kk ∧ BlkN w2 w.heap.size o2 ∧ U16 o2 ∧ Below w.heap.size w w2 ∧ Hid (o2.length = l.length + m.length + 1) ∧
    Hid (val o2 + 65536 ^ (j + kk) * cy = val (l.take j) * val m + 65536 ^ j * (x.toNat * val (m.take kk)))) (fun _ k _ _ => m.length + 2 - (intOf k).toNat)
   case atStart => exact ⟨0, 0, o, by omega, by omega, rfl, rfl, HB.out, HUO.out, hb, hlen.out, by show _ = _; rw [hv.out]; simp [val]⟩
   case round =>
    clear HB HUO hlen hv hb o
    obtain ⟨cy, kk, o, hkk, hcy, rfl, rfl, hB, hUo, hb, hlen, hv⟩ := hrel
    have HB := Lib.hid hB
    have HUO := Lib.hid hUo
    clear hB hUo
    by_cases hA : kk < m.length ∨ 0 < cy
    ·
     have hk2 : kk ≤ m.length := by
      rcases Nat.lt_or_ge kk m.length with h1 | h1
      · omega
      · exact mul_far HU.out HU'.out HX.out h1 (by omega) hv.out
     obtain ⟨z, hz⟩ := get_of_lt (xs := o) (k := j + kk) (by have := hlen.out; omega)
     obtain ⟨hz0, hz1⟩ := HUO.out.get hz
     have CY := fun n => limb01_quiet m kk a' c' (wr.drewN n) (H'.out.ext (Ext.below (below_drewN hb n)))
     obtain ⟨hy0, hy1⟩ := limbAt_in HU'.out kk
     have hstep := fun c2 d y e => mul_step l m o j kk cy c2 d z x y hz e hv.out
     have hcar := fun (c2 d : Nat) (y : Int) (hy0 : 0 ≤ y) (hy1 : y ≤ 65535) => carry_lt (z := z.toNat) (x := x.toNat) (y := y.toNat) (c := cy) (d := d) (c2 := c2) (by omega) (by omega) (by omega) hcy
     have cx := Ext.below hb _ _ HCX.out
     have cz := HB.out.cell hz
     have fz := HB.out.frozen (j + kk)
     have hgl := HB.out.lt
     replace hstep := fun c2 d => hstep c2 d _ rfl
     revert CY hy0 hy1 hstep
     generalize limbAt m kk = y
     intro CY hy0 hy1 hstep
     have HZ := Lib.hid hz
     have HS := Lib.hid hstep
     have HC := Lib.hid hcar
     clear hz hstep hcar
     have hxy : 0 ≤ x * y := Int.mul_nonneg hx0 hy0
     have hxy2 : x * y ≤ 4294836225 := by
      have := Int.mul_le_mul hx1 hy1 hy0 (by omega)
      omega
     have wi1 : IntKind.i64.wrap ((j : Int) + kk) = (j : Int) + kk := IntWalk.i64_in _ (by omega)
     have wu1 : IntKind.u64.wrap (x * y) = x * y := IntWalk.u64_in _ (by omega)
     have wu2 : IntKind.u64.wrap (z + x * y) = z + x * y := IntWalk.u64_in _ (by omega)
     have wu3 : IntKind.u64.wrap (z + x * y + cy) = z + x * y + cy := IntWalk.u64_in _ (by omega)
     have wx : IntKind.u64.wrap x = x := IntWalk.u64_in _ (by omega)
     have wz : IntKind.u64.wrap z = z := IntWalk.u64_in _ (by omega)
     have wy : IntKind.u64.wrap y = y := IntWalk.u64_in _ (by omega)
     have hji : (0 : Int) ≤ (j : Int) + kk := by omega
     have hjt : ((j : Int) + kk).toNat = j + kk := by omega
     have hsl : (j : Int) + kk < (l.length : Int) + m.length + 1 := by omega
     replace CY := Lib.hid CY
     by_cases hkl : kk < m.length
     all_goals
      go_wp2
      go_quiet ((go_at_call 242; exact Calls.quiet_of_same (CY.out _)))
      clear wi1 wu1 wu2 wu3 wy wx wz hjt
      go_wp2
      go_roundw
      case rel =>
       obtain ⟨s, es⟩ : ∃ s : Nat, (s : Int) = z + x * y + cy := ⟨(z + x * y + cy).toNat, by omega⟩
       have es2 : s = z.toNat + x.toNat * y.toNat + cy := by
        have ex : (x.toNat : Int) = x := by omega
        have ey : (y.toNat : Int) = y := by omega
        have ez : (z.toNat : Int) = z := by omega
        have : ((z.toNat + x.toNat * y.toNat + cy : Nat) : Int) = z + x * y + cy := by
         rw [Int.natCast_add, Int.natCast_add, Int.natCast_mul, ex, ey, ez]
        omega
       have em : (z + x * y + (cy : Int)) % 65536 = ((s % 65536 : Nat) : Int) := by omega
       have ed : (z + x * y + (cy : Int)) / 65536 = ((s / 65536 : Nat) : Int) := by omega
       have hd : s % 65536 + 65536 * (s / 65536) = z.toNat + x.toNat * y.toNat + cy := by omega
       have hset : BlkN ((wr.drewN nq).setCell ⟨w.heap.size, j + kk, none⟩ (.int .u16 ((z + x * y + (cy : Int)) % 65536))) w.heap.size (o.set (j + kk) ((s % 65536 : Nat) : Int)) := by
        rw [em]
        exact BlkN.set_ (show BlkN (wr.drewN nq) w.heap.size o from HB.out) _ _
       exact ⟨s / 65536, kk + 1, o.set (j + kk) ((s % 65536 : Nat) : Int), by omega, HC.out _ _ y hy0 hy1 hd, by rw [ed], by go_num, hset, HUO.out.set_ (by omega),
        (below_drewN hb nq).setCell (p := ⟨w.heap.size, j + kk, none⟩) (Nat.le_refl _) _, by show _ = _; rw [List.length_set, hlen.out], HS.out _ _ hd⟩
      case measure => simp [intOf]; omega
    ·
     obtain rfl : cy = 0 := by omega
     have hk2 : m.length ≤ kk := by omega
     have hfin : val o = val (l.take (j + 1)) * val m := by
      have := hv.out
      rw [val_take_all hk2, mul_end l m j x HX.out] at this
      simpa using this
     replace hfin := Lib.hid hfin
     go_wp2
     go_roundw
     case rel => exact ⟨j + 1, o, by omega, by go_num, HB.out, HUO.out, hb, hlen.out, hfin.out⟩
     case measure => simp [intOf]; omega
  ·
   obtain rfl : j = l.length := by omega
   have hval : val o = n1 * n2 := by
    have := hv.out
    rw [this, val_take_all (Nat.le_refl _), HN.out, HK.out]
   have hol := hlen.out
   have CN := norm01_any o (some ⟨w.heap.size, 0, none⟩) (l.length + m.length + 1) wr (hB.readsV (Nat.le_refl _) (New.refl _ _) hUo (by omega) (by simp [maxLen]; omega)) (by omega)
   rw [hval, hlen.out] at CN
   replace CN := Lib.hid CN
   clear hval hol
   go_wp2_with (go_at_call 172; refine CN.out.mono ?_; rintro e w2 ⟨a2, c2, rfl, hV, hb2⟩)
   go_ret
   exact ⟨a2, c2, rfl, fun V hV' => hV V (hV'.base hb.size), below_then hb hb2⟩
end Go.Proofs.YtaihkpjbnkgmlaaGreat
