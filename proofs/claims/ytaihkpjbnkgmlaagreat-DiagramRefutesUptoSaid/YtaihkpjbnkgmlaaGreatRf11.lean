/- Walk: comparison of integers, by the reference. -/
import Derived.Test.YtaihkpjbnkgmlaaGreatRf10
import Derived.Test.YtaihkpjbnkgmlaaGreatRf5

/- Walks: bits of a number, signs, sums of the reference, integers out of int. -/
namespace Go.Proofs.YtaihkpjbnkgmlaaGreat
open Go.RowKit

theorem bits_of {n k x : Nat} (hl : (limbs n).length = k + 1) (hx : limbAt (limbs n) k = x) (hx0 : x ≠ 0) (hx1 : x ≤ 65535) : 1 ≤ Lib.bitLen x ∧ Lib.bitLen x ≤ 16 ∧ 2 ^ (16 * k + Lib.bitLen x - 1) ≤ n ∧ n < 2 ^ (16 * k + Lib.bitLen x) := by
 obtain ⟨h2, h3, h4⟩ := Lib.bitLenAux_bounds 64 x (by omega) hx0
 change 1 ≤ Lib.bitLen x at h2
 change 2 ^ (Lib.bitLen x - 1) ≤ x at h3
 change x < 2 ^ Lib.bitLen x at h4
 obtain ⟨q1, q2, _, _⟩ := norm_shift hx0 hx1
 obtain ⟨lo, hlo, e⟩ := val_split_at (limbs_u16 n) k
 rw [val_limbs, val_drop_at, hx, val_drop_all (by omega), Int.toNat_natCast] at e
 simp only [Nat.mul_zero, Nat.add_zero] at e
 have hp : (65536 : Nat) ^ k = 2 ^ (16 * k) := by rw [Nat.pow_mul]
 rw [hp] at e hlo
 generalize Lib.bitLen x = b at *
 refine ⟨q1, q2, ?_, ?_⟩
 ·
  rw [show 16 * k + b - 1 = 16 * k + (b - 1) by omega, Nat.pow_add]
  have := Nat.mul_le_mul_left (2 ^ (16 * k)) h3
  omega
 ·
  rw [Nat.pow_add]
  have := Nat.mul_le_mul_left (2 ^ (16 * k)) (show x + 1 ≤ 2 ^ b by omega)
  rw [Nat.mul_add, Nat.mul_one] at this
  omega
set_option maxHeartbeats 1000000 in
/-- the number of binary digits -/
theorem bits_any (l : List Int) (n : Nat) (a : Option Addr) (c : Nat) (w : World) (h : NatR w a c l) (hn : val l = n) (hl : l.length ≤ 16777216) :
  Calls Tryz.prog 186 #[.slice a l.length c] w fun e w' => ∃ b : Nat, e = .returned (.int .i64 b) ∧ Hid ((n = 0 → b = 0) ∧ (0 < n → 1 ≤ b ∧ 2 ^ (b - 1) ≤ n ∧ n < 2 ^ b) ∧ b ≤ 16 * (limbs n).length) ∧ w = w' := by
 have CT := trim_any l a c w h
 have hT := h.trim
 have hll := limbs_len_val h.u16
 rw [hn] at CT hT hll
 by_cases h0 : n = 0
 ·
  subst h0
  rw [limbs_zero] at CT
  replace CT := Lib.hid CT
  clear h hn hT hll
  go_enter Tryz.func186, Tryz.ntmps186
  go_wp2_with fail
  refine CT.out.mono ?_
  rintro e w1 ⟨rfl, rfl⟩
  go_wp2
  go_ret
  exact ⟨0, rfl, Lib.hid ⟨fun _ => rfl, fun h => by omega, by omega⟩, rfl⟩
 ·
  have hp := limbs_len_pos.2 (show 0 < n by omega)
  obtain ⟨k, hk⟩ : ∃ k, (limbs n).length = k + 1 := ⟨(limbs n).length - 1, by omega⟩
  obtain ⟨xi, hxi⟩ := get_of_lt (xs := limbs n) (k := k) (by omega)
  obtain ⟨b, off, rfl, hc⟩ := hT.cell hxi
  have hxb := (limbs_u16 n).get hxi
  have hx0 : xi ≠ 0 := limbs_last (n := n) (by rw [List.getLast?_eq_getElem?, hk]; exact hxi)
  obtain ⟨x, rfl⟩ : ∃ x : Nat, xi = (x : Int) := ⟨xi.toNat, by omega⟩
  have hb := bits_of hk (limbAt_some hxi) (by omega) (by omega)
  have CL := fun w => len16_any x w (by omega)
  have hkl : k ≤ 16777216 := by omega
  have HK := Lib.hid hk
  rw [hk] at CT
  revert hb CL
  generalize Lib.bitLen x = bl
  intro hb CL
  have hbl : (bl : Int) ≤ 16 := by omega
  have hbl0 : (0 : Int) ≤ (bl : Int) := by omega
  have HB := Lib.hid hb
  replace CT := Lib.hid CT
  replace CL := Lib.hid CL
  have hkI : (k : Int) ≤ 16777216 := by omega
  have hne : ((k : Int) + 1 == 0) = false := by rw [beq_eq_false_iff_ne]; omega
  have hx2 : (x : Int) ≤ 65535 := by omega
  clear h hn hT hll hp hk hxi hxb hx0 hb hkl
  go_enter Tryz.func186, Tryz.ntmps186
  go_wp2_with fail
  refine CT.out.mono ?_
  rintro e w1 ⟨rfl, rfl⟩
  go_wp2_with fail
  refine (CL.out _).mono ?_
  rintro e w1 ⟨rfl, rfl⟩
  go_wp2
  go_ret
  refine ⟨16 * k + bl, ?_, Lib.hid ⟨fun e => absurd e h0, fun _ => ⟨by have := HB.out; omega, HB.out.2.2.1, HB.out.2.2.2⟩, by have := HB.out; have := HK.out; omega⟩, rfl⟩
  exact ret_int (by simp <;> omega)

/-- the sign of an integer -/
def sgnZ (neg : Bool) (n : Nat) : Int := if n = 0 then 0 else if neg = true then -1 else 1
set_option maxRecDepth 100000 in
set_option maxHeartbeats 1000000 in
theorem zsign_any (neg : Bool) (l : List Int) (n : Nat) (a : Option Addr) (c : Nat) (w : World) (h : NatR w a c l) (hn : val l = n) (hl : l.length ≤ 16777216) :
  Calls Tryz.prog 145 #[.agg #[.bool neg, .slice a l.length c]] w fun e w' => e = .returned (.int .i64 (sgnZ neg n)) ∧ Below w.heap.size w w' := by
 have CB := fun W (hW : Below w.heap.size w W) => bits_any l n a c W (h.ext (Ext.below hW)) hn hl
 replace CB := Lib.hid CB
 have hz : Blk (w.alloc (.cells #[.bool neg, .slice a l.length c] 41)) w.heap.size 41 #[.bool neg, .slice a l.length c] := Blk.new w _ _
 have hb0 : Below w.heap.size w (w.alloc (.cells #[.bool neg, .slice a l.length c] 41)) := (Below.refl _ _).alloc (Nat.le_refl _) _
 obtain ⟨R, hR⟩ : ∃ q, sgnZ neg n = q := ⟨_, rfl⟩
 rw [hR]
 have HR := Lib.hid hR
 clear h hn hR
 go_enter Tryz.func145, Tryz.ntmps145
 go_wp2_with fail
 revert hz hb0
 generalize w.alloc (.cells #[.bool neg, .slice a l.length c] 41) = w0
 intro hz hb0
 refine (CB.out _ hb0).mono ?_
 rintro e w1 ⟨b, rfl, hb, rfl⟩
 have z0 := hz.cell 0; have z1 := hz.cell 1
 by_cases h0 : n = 0
 ·
  have e0 := hb.out.1 h0
  subst e0
  have hs : R = 0 := by rw [← HR.out]; unfold sgnZ; rw [if_pos h0]
  subst hs
  clear h0
  go_wp2
  go_ret
  exact ⟨rfl, hb0⟩
 ·
  have e0 : ((b : Int) == 0) = false := by rw [beq_eq_false_iff_ne]; have := hb.out.2.1 (by omega); omega
  have hs : R = if neg = true then -1 else 1 := by rw [← HR.out]; unfold sgnZ; rw [if_neg h0]
  clear h0
  cases neg
  ·
   obtain rfl : R = 1 := by simpa using hs
   clear hs
   go_wp2
   go_ret
   exact ⟨rfl, hb0⟩
  ·
   obtain rfl : R = -1 := by simpa using hs
   clear hs
   go_wp2
   go_ret
   exact ⟨rfl, hb0⟩
set_option maxRecDepth 100000 in
set_option maxHeartbeats 1000000 in
theorem zsignR_any (neg : Bool) (l : List Int) (n : Nat) (a : Option Addr) (c : Nat) (w : World) (h : NatR w a c l) (hn : val l = n) (hl : l.length ≤ 16777216) :
  Calls Tryz.prog 217 #[.agg #[.bool neg, .slice a l.length c]] w fun e w' => e = .returned (.int .i64 (sgnZ neg n)) ∧ Below w.heap.size w w' := by
 have CN := fun W (hW : Below w.heap.size w W) => znormR_any neg l n a c W (h.ext (Ext.below hW)) hn hl
 replace CN := Lib.hid CN
 have hz : Blk (w.alloc (.cells #[.bool neg, .slice a l.length c] 41)) w.heap.size 41 #[.bool neg, .slice a l.length c] := Blk.new w _ _
 have hb0 : Below w.heap.size w (w.alloc (.cells #[.bool neg, .slice a l.length c] 41)) := (Below.refl _ _).alloc (Nat.le_refl _) _
 have hp := limbs_len_pos (n := n)
 obtain ⟨R, hR⟩ : ∃ q, sgnZ neg n = q := ⟨_, rfl⟩
 rw [hR]
 have HR := Lib.hid hR
 clear h hn hR
 go_enter Tryz.func217, Tryz.ntmps217
 go_wp2_with fail
 revert hz hb0
 generalize w.alloc (.cells #[.bool neg, .slice a l.length c] 41) = w0
 intro hz hb0
 refine (CN.out _ hb0).mono ?_
 rintro e w1 ⟨a1, c1, rfl, _, hb1⟩
 obtain ⟨T, hT⟩ : ∃ T, (limbs n).length = T := ⟨_, rfl⟩
 rw [hT] at hp ⊢
 clear hT
 have hw1 := below_then hb0 hb1
 have hz1 := hz.below' hb1
 have z0 := hz1.cell 0; have z1 := hz1.cell 1; have f0 := hz1.frozen 0; have f1 := hz1.frozen 1
 have hF := blk2 (x := .bool (neg && decide (0 < n))) (y := .slice a1 T c1) hz1
 have hwF := below2 (x := .bool (neg && decide (0 < n))) (y := .slice a1 T c1) hw1 (Nat.le_refl _)
 have e0 := hF.cell 0; have e1 := hF.cell 1
 clear hz hb0 hb1 hw1
 by_cases h0 : n = 0
 ·
  have hs : R = 0 := by rw [← HR.out]; unfold sgnZ; rw [if_pos h0]
  subst hs
  obtain rfl : T = 0 := by omega
  clear h0 hp
  go_wp2
  go_ret
  exact ⟨rfl, hwF⟩
 ·
  have hs : R = if neg = true then -1 else 1 := by rw [← HR.out]; unfold sgnZ; rw [if_neg h0]
  have hd : decide (0 < n) = true := by rw [decide_eq_true_eq]; omega
  have hl0 : ((T : Int) == 0) = false := by rw [beq_eq_false_iff_ne]; omega
  simp only [hd, Bool.and_true] at hwF e0 e1 ⊢
  clear h0 hp hd
  cases neg
  ·
   obtain rfl : R = 1 := by simpa using hs
   clear hs
   go_wp2
   go_ret
   exact ⟨rfl, hwF⟩
  ·
   obtain rfl : R = -1 := by simpa using hs
   clear hs
   go_wp2
   go_ret
   exact ⟨rfl, hwF⟩
end Go.Proofs.YtaihkpjbnkgmlaaGreat

/- Walks: sums of the reference; integers out of int. -/
namespace Go.Proofs.YtaihkpjbnkgmlaaGreat
open Go.RowKit

set_option maxRecDepth 100000 in
set_option maxHeartbeats 4000000 in
theorem add01_any (l m : List Int) (n1 n2 : Nat) (a a' : Option Addr) (c c' : Nat) (w : World) (h : NatR w a c l) (h' : NatR w a' c' m) (hn : val l = n1) (hk : val m = n2) (hl : l.length ≤ 4000000) (hm : m.length ≤ 4000000) :
  Calls Tryz.prog 176 #[.slice a l.length c, .slice a' m.length c'] w (RetN (limbs (n1 + n2)) w) := by
 have H := Lib.hid h
 have H' := Lib.hid h'
 have HN := Lib.hid hn
 have HK := Lib.hid hk
 have hu := h.u16
 have hu' := h'.u16
 obtain ⟨M, hM⟩ : ∃ M, M = max l.length m.length + 1 := ⟨_, rfl⟩
 have hMl : l.length < M := by omega
 have hMm : m.length < M := by omega
 have hM2 : M ≤ 4000001 := by omega
 have HM := Lib.hid hM
 clear h h' hn hk hM
 go_enter Tryz.func176, Tryz.ntmps176
 go_wp2
 go_loopg [5, 6, 7, 8] M (fun g s5 s6 s7 _ wr => ∃ (k cc : Nat) (o : List Int) (ao : Option Addr) (co : Nat), k + g = M ∧ s5 = .slice ao o.length co ∧ s6 = .int .i64 cc ∧ s7 = .int .i64 k ∧ cc ≤ 1 ∧ Hid (k = M → cc = 0) ∧ Hid (o.length = k) ∧ U16 o ∧ OwnN w.heap.size wr ao co o ∧ Below w.heap.size w wr ∧
  Hid (val o + 65536 ^ k * cc = val (l.take k) + val (m.take k)))
 case atStart => exact ⟨0, 0, [], none, 0, by omega, rfl, rfl, rfl, by omega, fun _ => rfl, rfl, U16.nil, Own.nil, Below.refl _ _, by show _ = _; simp [val]⟩
 case round =>
  obtain ⟨k, cc, o, ao, co, hkg, rfl, rfl, rfl, hc1, hcz, hol, hou, ho, hw, hv⟩ := hrel
  have HO := Lib.hid ho
  have HKG := Lib.hid hkg
  clear ho
  by_cases hstop : ¬ k < l.length ∧ ¬ k < m.length ∧ cc = 0
  ·
   obtain ⟨h1, h2, rfl⟩ := hstop
   have hval : val o = n1 + n2 := by
    have := hv.out
    rw [val_take_all (by omega), val_take_all (by omega), HN.out, HK.out] at this
    omega
   have CN := norm01_any o ao co wr (HO.out.reads1 hou) (by rw [hol.out]; omega)
   rw [hval] at CN
   replace CN := Lib.hid CN
   have g1 : decide (k < l.length) = false := by rw [decide_eq_false_iff_not]; omega
   have g2 : decide (k < m.length) = false := by rw [decide_eq_false_iff_not]; omega
   clear hval hkg
   go_wp2_with fail
   refine CN.out.mono ?_
   rintro e w1 ⟨a1, c1, rfl, hV, hb1⟩
   have HV := Lib.hid hV
   have hb2 := below_then hw hb1
   clear hV
   go_wp2
   go_ret
   exact ⟨a1, c1, rfl, fun V hV => HV.out V (hV.base hw.size), hb2⟩
  ·
   have hkM : k < M := by
    apply Nat.lt_of_not_le
    intro hc
    have : k = M := by omega
    have := hcz.out this
    omega
   have hx := limbAt_in hu k
   have hy := limbAt_in hu' k
   have CX := fun W (hW : Below w.heap.size w W) => limb01_any l k a c W (H.out.ext (Ext.below hW))
   have CY := fun W (hW : Below w.heap.size w W) => limb01_any m k a' c' W (H'.out.ext (Ext.below hW))
   have hstep := fun c2 d h1 => add_step l m o k cc c2 d hol.out hv.out h1
   have hx0 : ¬ k < l.length → limbAt l k = 0 := fun e => limbAt_none (by omega)
   have hy0 : ¬ k < m.length → limbAt m k = 0 := fun e => limbAt_none (by omega)
   revert CX CY hx hy hstep hx0 hy0
   generalize limbAt l k = xi
   generalize limbAt m k = yi
   intro hx hy CX CY hstep hx0 hy0
   obtain ⟨x, rfl⟩ : ∃ x : Nat, xi = (x : Int) := ⟨xi.toNat, by omega⟩
   obtain ⟨y, rfl⟩ : ∃ y : Nat, yi = (y : Int) := ⟨yi.toNat, by omega⟩
   simp only [Int.toNat_natCast] at hstep
   obtain ⟨lo, hlo⟩ : ∃ lo, (x + y + cc) % 65536 = lo := ⟨_, rfl⟩
   obtain ⟨c2, hc2⟩ : ∃ c2, (x + y + cc) / 65536 = c2 := ⟨_, rfl⟩
   have hs := hstep c2 lo (by omega)
   have hc21 : c2 ≤ 1 := by omega
   have hlo1 : lo ≤ 65535 := by omega
   have hcz2 : k + 1 = M → c2 = 0 := fun e => by
    have h1 := hx0 (by have := HM.out; omega)
    have h2 := hy0 (by have := HM.out; omega)
    omega
   have w1 : ((x : Int) + (y : Int) + (cc : Int)).tmod 65536 = (lo : Int) := by
    have : (((x + y + cc : Nat) : Int)).tmod ((65536 : Nat) : Int) = (((x + y + cc) % 65536 : Nat) : Int) := rfl
    rw [hlo] at this
    simpa using this
   have w2 : ((x : Int) + (y : Int) + (cc : Int)).tdiv 65536 = (c2 : Int) := by
    have : (((x + y + cc : Nat) : Int)).tdiv ((65536 : Nat) : Int) = (((x + y + cc) / 65536 : Nat) : Int) := rfl
    rw [hc2] at this
    simpa using this
   have HS := Lib.hid hs
   have HCZ2 := Lib.hid hcz2
   have hkI : (k : Int) ≤ 4000001 := by omega
   replace CX := Lib.hid CX
   replace CY := Lib.hid CY
   have HLEN : Hid (o.length + 1 ≤ 16777216) := Lib.hid (by rw [hol.out]; omega)
   have HKM := Lib.hid hkM
   have hgB := hw.size
   by_cases h1 : k < l.length
   ·
    have g1 : decide (k < l.length) = true := by rw [decide_eq_true_eq]; omega
    clear hstop hkg hstep hs hcz2 hlo hc2 hx0 hy0 h1 hkM
    go_wp2_with fail
    refine (CX.out _ hw).mono ?_
    rintro e w3 ⟨rfl, rfl⟩
    go_wp2_with fail
    refine (CY.out _ hw).mono ?_
    rintro e w3 ⟨rfl, rfl⟩
    go_wp2_with (at_builtin; go_must (refine append_nat rfl (.tmp 34) (.tmp 38) rfl ao co rfl (HO.out.alloc _) (lo : Int) wr.heap.size 1 rfl (by simp) (o ++ [(lo : Int)]) rfl (by have := HLEN.out; simpa using this) (by simp; omega) ?_); intro a2 c2' w2' ho2 hg2 hx2)
    go_roundg (gk - 1)
    case rel => exact ⟨k + 1, c2, o ++ [(lo : Int)], a2, c2', by have := HKG.out; have := HKM.out; omega, by first | rfl | simp, rfl, by go_num, by omega, HCZ2.out, by show _ = _; rw [List.length_append, hol.out]; rfl, hou.app (U16.cons (by omega) U16.nil), ho2, below_append' (hw.alloc hw.size _) (HO.out.alloc _) hg2, HS.out⟩
    case measure => have := HKG.out; have := HKM.out; omega
   ·
    have g1 : decide (k < l.length) = false := by rw [decide_eq_false_iff_not]; omega
    by_cases h2 : k < m.length
    ·
     have g2 : decide (k < m.length) = true := by rw [decide_eq_true_eq]; omega
     clear hstop hkg hstep hs hcz2 hlo hc2 hx0 hy0 h1 h2 hkM
     go_wp2_with fail
     refine (CX.out _ hw).mono ?_
     rintro e w3 ⟨rfl, rfl⟩
     go_wp2_with fail
     refine (CY.out _ hw).mono ?_
     rintro e w3 ⟨rfl, rfl⟩
     go_wp2_with (at_builtin; go_must (refine append_nat rfl (.tmp 34) (.tmp 38) rfl ao co rfl (HO.out.alloc _) (lo : Int) wr.heap.size 1 rfl (by simp) (o ++ [(lo : Int)]) rfl (by have := HLEN.out; simpa using this) (by simp; omega) ?_); intro a2 c2' w2' ho2 hg2 hx2)
     go_roundg (gk - 1)
     case rel => exact ⟨k + 1, c2, o ++ [(lo : Int)], a2, c2', by have := HKG.out; have := HKM.out; omega, by first | rfl | simp, rfl, by go_num, by omega, HCZ2.out, by show _ = _; rw [List.length_append, hol.out]; rfl, hou.app (U16.cons (by omega) U16.nil), ho2, below_append' (hw.alloc hw.size _) (HO.out.alloc _) hg2, HS.out⟩
     case measure => have := HKG.out; have := HKM.out; omega
    ·
     have g2 : decide (k < m.length) = false := by rw [decide_eq_false_iff_not]; omega
     have g3 : decide (0 < cc) = true := by rw [decide_eq_true_eq]; omega
     clear hstop hkg hstep hs hcz2 hlo hc2 hx0 hy0 h1 h2 hkM
     go_wp2_with fail
     refine (CX.out _ hw).mono ?_
     rintro e w3 ⟨rfl, rfl⟩
     go_wp2_with fail
     refine (CY.out _ hw).mono ?_
     rintro e w3 ⟨rfl, rfl⟩
     go_wp2_with (at_builtin; go_must (refine append_nat rfl (.tmp 34) (.tmp 38) rfl ao co rfl (HO.out.alloc _) (lo : Int) wr.heap.size 1 rfl (by simp) (o ++ [(lo : Int)]) rfl (by have := HLEN.out; simpa using this) (by simp; omega) ?_); intro a2 c2' w2' ho2 hg2 hx2)
     go_roundg (gk - 1)
     case rel => exact ⟨k + 1, c2, o ++ [(lo : Int)], a2, c2', by have := HKG.out; have := HKM.out; omega, by first | rfl | simp, rfl, by go_num, by omega, HCZ2.out, by show _ = _; rw [List.length_append, hol.out]; rfl, hou.app (U16.cons (by omega) U16.nil), ho2, below_append' (hw.alloc hw.size _) (HO.out.alloc _) hg2, HS.out⟩
     case measure => have := HKG.out; have := HKM.out; omega
end Go.Proofs.YtaihkpjbnkgmlaaGreat

/- Walks: integers out of int, by the program and by the reference. -/
namespace Go.Proofs.YtaihkpjbnkgmlaaGreat
open Go.RowKit

set_option maxRecDepth 100000 in
set_option maxHeartbeats 1000000 in
theorem zint_any (z : Int) (w : World) (hi : InInt z) :
  Calls Tryz.prog 82 #[.int .i64 z] w (RetZ (decide (z < 0)) z.natAbs w) := by
 obtain ⟨hi1, hi2⟩ := hi
 by_cases hneg : z < 0
 ·
  obtain ⟨m, rfl⟩ : ∃ m : Nat, z = -((m : Int) + 1) := ⟨(-(z + 1)).toNat, by omega⟩
  have hna : (-((m : Int) + 1)).natAbs = m + 1 := by omega
  have hd : decide (-((m : Int) + 1) < 0) = true := by rw [decide_eq_true_eq]; omega
  rw [hna, hd]
  have CO := fun W => of_any (m + 1) W (by omega)
  have e1 : ((m + 1 : Nat) : Int) = (m : Int) + 1 := by omega
  simp only [e1] at CO
  have CM := fun a c W => made_any true (m + 1) a c W
  have hd2 : decide (0 < m + 1) = true := by rw [decide_eq_true_eq]; omega
  simp only [hd2, Bool.and_true] at CM
  replace CO := Lib.hid CO; replace CM := Lib.hid CM
  have f1 : -(-((m : Int) + 1) + 1) = (m : Int) := by omega
  have hm : (m : Int) ≤ 9223372036854775807 := by omega
  have hlt : decide (-((m : Int) + 1) < 0) = true := hd
  clear hna hd hd2 e1 hneg
  have hz : Blk (w.alloc (.cells #[.bool false, .slice none 0 0] 41)) w.heap.size 41 #[.bool false, .slice none 0 0] := Blk.new w _ _
  have hb0 : Below w.heap.size w (w.alloc (.cells #[.bool false, .slice none 0 0] 41)) := (Below.refl _ _).alloc (Nat.le_refl _) _
  have hgl := hz.lt
  go_enter Tryz.func82, Tryz.ntmps82
  go_wp2_with fail
  revert hz hb0 hgl
  generalize w.alloc (.cells #[.bool false, .slice none 0 0] 41) = w0
  intro hz hb0 hgl
  have hs0 := hb0.size
  refine (CO.out _).mono ?_
  rintro e w1 ⟨a1, c1, rfl, hV, hb1⟩
  have hw1 := below_then hb0 hb1
  have hz1 := hz.below' hb1
  have HV := Lib.hid hV
  clear hV
  go_wp2_with fail
  refine (CM.out _ _ _).mono ?_
  rintro e w3 ⟨rfl, hb3⟩
  have hw3 := below_then hw1 hb3
  have hz3 := hz1.below' hb3
  have z0 := hz3.cell 0; have z1 := hz3.cell 1; have f0 := hz3.frozen 0; have f1 := hz3.frozen 1
  go_wp2
  have hF := blk2 (x := .bool true) (y := .slice a1 (limbs (m+1)).length c1) hz3
  have e0 := hF.cell 0; have e1 := hF.cell 1
  refine bodyPost_ret (v := .agg #[.bool true, .slice a1 (limbs (m+1)).length c1]) (by simp [results, Tryz.results82, go_sem, e0, e1]) rfl ?_
  exact ⟨a1, c1, rfl, fun V hV => HV.out V ((back2 hV hs0 hgl).below hb3), below2 hw3 (Nat.le_refl _)⟩
 ·
  obtain ⟨m, rfl⟩ : ∃ m : Nat, z = (m : Int) := ⟨z.toNat, by omega⟩
  have hna : ((m : Nat) : Int).natAbs = m := by omega
  have hd : decide (((m : Nat) : Int) < 0) = false := by rw [decide_eq_false_iff_not]; omega
  rw [hna, hd]
  have CO := fun W => of_any m W (by omega)
  have CM := fun a c W => made_any false m a c W
  simp only [Bool.false_and] at CM
  replace CO := Lib.hid CO; replace CM := Lib.hid CM
  clear hna hneg
  have hz : Blk (w.alloc (.cells #[.bool false, .slice none 0 0] 41)) w.heap.size 41 #[.bool false, .slice none 0 0] := Blk.new w _ _
  have hb0 : Below w.heap.size w (w.alloc (.cells #[.bool false, .slice none 0 0] 41)) := (Below.refl _ _).alloc (Nat.le_refl _) _
  have hgl := hz.lt
  go_enter Tryz.func82, Tryz.ntmps82
  go_wp2_with fail
  revert hz hb0 hgl
  generalize w.alloc (.cells #[.bool false, .slice none 0 0] 41) = w0
  intro hz hb0 hgl
  have hs0 := hb0.size
  refine (CO.out _).mono ?_
  rintro e w1 ⟨a1, c1, rfl, hV, hb1⟩
  have hw1 := below_then hb0 hb1
  have hz1 := hz.below' hb1
  have HV := Lib.hid hV
  clear hV
  go_wp2_with fail
  refine (CM.out _ _ _).mono ?_
  rintro e w3 ⟨rfl, hb3⟩
  have hw3 := below_then hw1 hb3
  have hz3 := hz1.below' hb3
  have z0 := hz3.cell 0; have z1 := hz3.cell 1; have f0 := hz3.frozen 0; have f1 := hz3.frozen 1
  go_wp2
  have hF := blk2 (x := .bool false) (y := .slice a1 (limbs m).length c1) hz3
  have e0 := hF.cell 0; have e1 := hF.cell 1
  refine bodyPost_ret (v := .agg #[.bool false, .slice a1 (limbs m).length c1]) (by simp [results, Tryz.results82, go_sem, e0, e1]) rfl ?_
  exact ⟨a1, c1, rfl, fun V hV => HV.out V ((back2 hV hs0 hgl).below hb3), below2 hw3 (Nat.le_refl _)⟩
set_option maxRecDepth 100000 in
set_option maxHeartbeats 1000000 in
theorem zintR_any (z : Int) (w : World) (hi : InInt z) :
  Calls Tryz.prog 94 #[.int .i64 z] w (RetZ (decide (z < 0)) z.natAbs w) := by
 obtain ⟨hi1, hi2⟩ := hi
 by_cases hneg : z < 0
 ·
  obtain ⟨m, rfl⟩ : ∃ m : Nat, z = -((m : Int) + 1) := ⟨(-(z + 1)).toNat, by omega⟩
  have hna : (-((m : Int) + 1)).natAbs = m + 1 := by omega
  have hd : decide (-((m : Int) + 1) < 0) = true := by rw [decide_eq_true_eq]; omega
  rw [hna, hd]
  have CO := fun W => of01_any m W (by omega)
  have CO1 := fun W => of01_any 1 W (by omega)
  have hml : (limbs m).length ≤ 4 := limbs_len_le (by have : (65536 : Nat) ^ 4 = 18446744073709551616 := by decide
                                                      omega)
  have hml1 : (limbs 1).length ≤ 4 := limbs_len_le (by decide)
  have hml2 : (limbs (m + 1)).length ≤ 5 := limbs_len_le (by have : (65536 : Nat) ^ 5 = 1208925819614629174706176 := by decide
                                                             omega)
  have CA := fun a1 a2 c1 c2 W h1 h2 => add01_any (limbs m) (limbs 1) m 1 a1 a2 c1 c2 W h1 h2 (val_limbs _) (val_limbs _) (by omega) (by omega)
  have CF := fun a c W h => zofR_any true (limbs (m + 1)) (m + 1) a c W h (val_limbs _) (by omega)
  have hd2 : decide (0 < m + 1) = true := by rw [decide_eq_true_eq]; omega
  simp only [hd2, Bool.and_true] at CF
  replace CO := Lib.hid CO; replace CO1 := Lib.hid CO1; replace CA := Lib.hid CA; replace CF := Lib.hid CF
  have f1 : -(-((m : Int) + 1) + 1) = (m : Int) := by omega
  have hm : (m : Int) ≤ 9223372036854775807 := by omega
  clear hna hd2 hneg hml hml1 hml2
  have hz : Blk (w.alloc (.cells #[.bool false, .slice none 0 0] 41)) w.heap.size 41 #[.bool false, .slice none 0 0] := Blk.new w _ _
  have hb0 : Below w.heap.size w (w.alloc (.cells #[.bool false, .slice none 0 0] 41)) := (Below.refl _ _).alloc (Nat.le_refl _) _
  have hgl := hz.lt
  go_enter Tryz.func94, Tryz.ntmps94
  go_wp2_with fail
  revert hz hb0 hgl
  generalize w.alloc (.cells #[.bool false, .slice none 0 0] 41) = w0
  intro hz hb0 hgl
  have hs0 := hb0.size
  refine (CO.out _).mono ?_
  rintro e w1 ⟨a3, c3, rfl, hV3, hb1⟩
  have hw1 := below_then hb0 hb1
  have hz1 := hz.below' hb1
  have HV3 := Lib.hid hV3
  clear hV3
  go_wp2_with fail
  refine (CO1.out _).mono ?_
  rintro e w2 ⟨a4, c4, rfl, hV4, hb2⟩
  have hw2 := below_then hw1 hb2
  have hz2 := hz1.below' hb2
  have CA2 := CA.out _ _ _ _ w2 (HV3.out w2 ((New.refl _ _).below hb2)) (hV4 w2 (New.refl _ _))
  replace CA2 := Lib.hid CA2
  clear hV4
  go_wp2_with fail
  refine CA2.out.mono ?_
  rintro e w4 ⟨a5, c5, rfl, hV5, hb4⟩
  have hw4 := below_then hw2 hb4
  have hz4 := hz2.below' hb4
  have CF2 := CF.out _ _ w4 (hV5 w4 (New.refl _ _))
  replace CF2 := Lib.hid CF2
  clear hV5
  go_wp2_with fail
  refine CF2.out.mono ?_
  rintro e w3 ⟨a1, c1, rfl, hV, hb3⟩
  have hw3 := below_then hw4 hb3
  have hz3 := hz4.below' hb3
  have hg4 := hz4.lt
  have HV := Lib.hid hV
  clear hV
  have z0 := hz3.cell 0; have z1 := hz3.cell 1; have f0 := hz3.frozen 0; have f1 := hz3.frozen 1
  go_wp2
  have hF := blk2 (x := .bool true) (y := .slice a1 (limbs (m+1)).length c1) hz3
  have e0 := hF.cell 0; have e1 := hF.cell 1
  refine bodyPost_ret (v := .agg #[.bool true, .slice a1 (limbs (m+1)).length c1]) (by simp [results, Tryz.results94, go_sem, e0, e1]) rfl ?_
  exact ⟨a1, c1, rfl, fun V hV => HV.out V (back2 hV hw4.size hg4), below2 hw3 (Nat.le_refl _)⟩
 ·
  obtain ⟨m, rfl⟩ : ∃ m : Nat, z = (m : Int) := ⟨z.toNat, by omega⟩
  have hna : ((m : Nat) : Int).natAbs = m := by omega
  have hd : decide (((m : Nat) : Int) < 0) = false := by rw [decide_eq_false_iff_not]; omega
  rw [hna, hd]
  have hml : (limbs m).length ≤ 4 := limbs_len_le (by have : (65536 : Nat) ^ 4 = 18446744073709551616 := by decide
                                                      omega)
  have CO := fun W => of01_any m W (by omega)
  have CF := fun a c W h => zofR_any false (limbs m) m a c W h (val_limbs _) (by omega)
  simp only [Bool.false_and] at CF
  replace CO := Lib.hid CO; replace CF := Lib.hid CF
  clear hna hneg hml
  have hz : Blk (w.alloc (.cells #[.bool false, .slice none 0 0] 41)) w.heap.size 41 #[.bool false, .slice none 0 0] := Blk.new w _ _
  have hb0 : Below w.heap.size w (w.alloc (.cells #[.bool false, .slice none 0 0] 41)) := (Below.refl _ _).alloc (Nat.le_refl _) _
  have hgl := hz.lt
  go_enter Tryz.func94, Tryz.ntmps94
  go_wp2_with fail
  revert hz hb0 hgl
  generalize w.alloc (.cells #[.bool false, .slice none 0 0] 41) = w0
  intro hz hb0 hgl
  have hs0 := hb0.size
  refine (CO.out _).mono ?_
  rintro e w4 ⟨a3, c3, rfl, hV3, hb1⟩
  have hw4 := below_then hb0 hb1
  have hz4 := hz.below' hb1
  have CF2 := CF.out _ _ w4 (hV3 w4 (New.refl _ _))
  replace CF2 := Lib.hid CF2
  clear hV3
  go_wp2_with fail
  refine CF2.out.mono ?_
  rintro e w3 ⟨a1, c1, rfl, hV, hb3⟩
  have hw3 := below_then hw4 hb3
  have hz3 := hz4.below' hb3
  have hg4 := hz4.lt
  have HV := Lib.hid hV
  clear hV
  have z0 := hz3.cell 0; have z1 := hz3.cell 1; have f0 := hz3.frozen 0; have f1 := hz3.frozen 1
  go_wp2
  have hF := blk2 (x := .bool false) (y := .slice a1 (limbs m).length c1) hz3
  have e0 := hF.cell 0; have e1 := hF.cell 1
  refine bodyPost_ret (v := .agg #[.bool false, .slice a1 (limbs m).length c1]) (by simp [results, Tryz.results94, go_sem, e0, e1]) rfl ?_
  exact ⟨a1, c1, rfl, fun V hV => HV.out V (back2 hV hw4.size hg4), below2 hw3 (Nat.le_refl _)⟩
end Go.Proofs.YtaihkpjbnkgmlaaGreat

/- Walks: products and comparisons of integers, by the reference. -/
namespace Go.Proofs.YtaihkpjbnkgmlaaGreat
open Go.RowKit

/-- an integer out of sign and size -/
def zval (neg : Bool) (n : Nat) : Int := if neg = true then -(n : Int) else n
/-- Go's order of two integers -/
def cmpI (a b : Int) : Int := if a < b then -1 else if b < a then 1 else 0
set_option maxRecDepth 100000 in
set_option maxHeartbeats 2000000 in
theorem zmulR_any (neg1 neg2 : Bool) (l m : List Int) (n1 n2 : Nat) (a a' : Option Addr) (c c' : Nat) (w : World) (h : NatR w a c l) (h' : NatR w a' c' m) (hn : val l = n1) (hk : val m = n2) (hl : l.length ≤ 2000000) (hm : m.length ≤ 2000000) :
  Calls Tryz.prog 108 #[.agg #[.bool neg1, .slice a l.length c], .agg #[.bool neg2, .slice a' m.length c']] w (RetZ ((neg1 != neg2) && decide (0 < n1 * n2)) (n1 * n2) w) := by
 have hll := limbs_len_val h.u16
 have hlm := limbs_len_val h'.u16
 rw [hn] at hll
 rw [hk] at hlm
 have hp := limbs_len_mul n1 n2
 have CM := fun W (hW : Below w.heap.size w W) => mul01_any l m n1 n2 a a' c c' W (h.ext (Ext.below hW)) (h'.ext (Ext.below hW)) hn hk (by omega) (by omega)
 have CF := fun a c W h => zofR_any (neg1 != neg2) (limbs (n1 * n2)) (n1 * n2) a c W h (val_limbs _) (by omega)
 obtain ⟨R, hR⟩ : ∃ q, ((neg1 != neg2) && decide (0 < n1 * n2)) = q := ⟨_, rfl⟩
 rw [hR] at CF ⊢
 have hR0 : True := trivial
 revert CM CF
 generalize n1 * n2 = n
 intro CM CF
 replace CM := Lib.hid CM; replace CF := Lib.hid CF
 have hz : Blk (((w.alloc (.cells #[.bool neg1, .slice a l.length c] 41)).alloc (.cells #[.bool neg2, .slice a' m.length c'] 41)).alloc (.cells #[.bool false, .slice none 0 0] 41)) (w.heap.size + 1 + 1) 41 #[.bool false, .slice none 0 0] := blk_at2 w _ _ _ _
 have hx1 : Blk (((w.alloc (.cells #[.bool neg1, .slice a l.length c] 41)).alloc (.cells #[.bool neg2, .slice a' m.length c'] 41)).alloc (.cells #[.bool false, .slice none 0 0] 41)) w.heap.size 41 #[.bool neg1, .slice a l.length c] := ((Blk.new w _ _).alloc _).alloc _
 have hx2 : Blk (((w.alloc (.cells #[.bool neg1, .slice a l.length c] 41)).alloc (.cells #[.bool neg2, .slice a' m.length c'] 41)).alloc (.cells #[.bool false, .slice none 0 0] 41)) (w.heap.size + 1) 41 #[.bool neg2, .slice a' m.length c'] := (blk_at1 w _ _ _).alloc _
 have hb0 : Below w.heap.size w (((w.alloc (.cells #[.bool neg1, .slice a l.length c] 41)).alloc (.cells #[.bool neg2, .slice a' m.length c'] 41)).alloc (.cells #[.bool false, .slice none 0 0] 41)) := by go_grown
 have hgB : w.heap.size ≤ w.heap.size + 1 + 1 := by omega
 clear h h' hn hk hll hlm hp hR
 go_enter Tryz.func108, Tryz.ntmps108
 go_wp2
 revert hz hx1 hx2 hb0 hgB
 generalize ((w.alloc (.cells #[.bool neg1, .slice a l.length c] 41)).alloc (.cells #[.bool neg2, .slice a' m.length c'] 41)).alloc (.cells #[.bool false, .slice none 0 0] 41) = w0
 generalize w.heap.size + 1 + 1 = g
 intro hz hx1 hx2 hb0 hgB
 have k0 := held (hx1.cell 0); have k1 := held (hx1.cell 1); have k2 := held (hx2.cell 0); have k3 := held (hx2.cell 1)
 have s0 : Below w0.heap.size w0 w0.drew := (Below.refl _ _).drew
 have hgl := hz.lt
 have HR := Lib.hid hR0
 clear hR0
 cases neg1 <;> cases neg2
 all_goals
  refine wp_region_mix (S := Below w0.heap.size w0) [(0, .q), (1, .q), (2, .q), (3, .q), (4, .q), (5, .q), (6, .q), (7, .q), (8, .q), (9, .l), (10, .t), (11, .t)] (by kernel_rfl) (by kernel_rfl) (by kernel_rfl) (fun d _ _ _ _ h => by cases d <;> exact h) (s0) ?_
  iterate 9 (refine wpMix_q rfl rfl (fun K hK => ?_); apply Exists.intro; refine ⟨fun w' hw' => ?_, ?_⟩; (focus (go_simp; try rfl)); go_simp; refine hK _ _ ?_; clear hK K)
  refine wpMix_l rfl rfl (fun K hK => ?_)
  go_simp
  refine (CM.out _ (below_then hb0 s0)).mono ?_
  rintro r w1 ⟨a3, c3, rfl, hV3, hb1⟩
  dsimp only
  refine hK.out _ _ (below_then s0 hb1) (fun _ => ?_)
  clear hK K
  have s1 := below_then s0 hb1
  have hr3 := hV3 w1 (New.refl _ _)
  clear hV3
  refine wpMix_t rfl rfl (fun K hK => ?_)
  go_simp
  refine (CF.out _ _ _ hr3).mono ?_
  rintro r w2 ⟨a1, c1, rfl, hV, hb2⟩
  dsimp only
  refine hK.out _ _ ?_
  clear hK K
  have s2 := below_then s1 hb2
  have hz3 := hz.below' s2
  have z0 := hz3.cell 0; have z1 := hz3.cell 1; have f0 := hz3.frozen 0; have f1 := hz3.frozen 1
  have hw2 := below_then hb0 s2
  have hs1 := (below_then hb0 s1).size
  have hg1 : g < w1.heap.size := Nat.lt_of_lt_of_le hgl s1.size
  have HV := Lib.hid hV
  clear hV hr3 k0 k1 k2 k3
  refine wpMix_t rfl rfl (fun K hK => ?_)
  go_simp
  refine hK.out _ _ ?_
  clear hK K
  refine wpMix_nil ?_
  go_wp2
  have hF := blk2 (x := .bool R) (y := .slice a1 (limbs n).length c1) hz3
  have e0 := hF.cell 0; have e1 := hF.cell 1
  refine bodyPost_ret (v := .agg #[.bool R, .slice a1 (limbs n).length c1]) (by simp [results, Tryz.results108, go_sem, e0, e1]) rfl ?_
  exact ⟨a1, c1, rfl, fun V hV => HV.out V (back2 hV hs1 hg1), below2 hw2 hgB⟩
end Go.Proofs.YtaihkpjbnkgmlaaGreat

/- Walk: comparison of integers, by the reference. -/
namespace Go.Proofs.YtaihkpjbnkgmlaaGreat
open Go.RowKit

theorem zcmp_cases (neg1 neg2 : Bool) (n1 n2 : Nat) {b1 b2 : Bool} (h1 : (neg1 && decide (0 < n1)) = b1) (h2 : (neg2 && decide (0 < n2)) = b2) :
  cmpI (zval neg1 n1) (zval neg2 n2) = if (b1 && !b2) = true then -1 else if (b2 && !b1) = true then 1 else if b1 = true then cmpN n2 n1 else cmpN n1 n2 := by
 subst h1 h2
 unfold cmpI zval cmpN
 cases neg1 <;> cases neg2 <;> by_cases p1 : 0 < n1 <;> by_cases p2 : 0 < n2 <;> simp [p1, p2]
 all_goals (repeat' split) <;> omega

set_option maxRecDepth 100000 in
set_option maxHeartbeats 2000000 in
theorem zcmpR_any (neg1 neg2 : Bool) (l m : List Int) (n1 n2 : Nat) (a a' : Option Addr) (c c' : Nat) (w : World) (h : NatR w a c l) (h' : NatR w a' c' m) (hn : val l = n1) (hk : val m = n2) (hl : l.length ≤ 4000000) (hm : m.length ≤ 4000000) :
  Calls Tryz.prog 107 #[.agg #[.bool neg1, .slice a l.length c], .agg #[.bool neg2, .slice a' m.length c']] w fun e w' => e = .returned (.int .i64 (cmpI (zval neg1 n1) (zval neg2 n2))) ∧ Below w.heap.size w w' := by
 have hll := limbs_len_val h.u16
 have hlm := limbs_len_val h'.u16
 rw [hn] at hll
 rw [hk] at hlm
 have C1 := fun W (hW : Below w.heap.size w W) => znormR_any neg1 l n1 a c W (h.ext (Ext.below hW)) hn (by omega)
 have C2 := fun W (hW : Below w.heap.size w W) => znormR_any neg2 m n2 a' c' W (h'.ext (Ext.below hW)) hk (by omega)
 have CA := fun a1 a2 c1 c2 W h1 h2 => cmp01_any (limbs n1) (limbs n2) a1 a2 c1 c2 W h1 h2 (by omega) (by omega)
 have CB := fun a1 a2 c1 c2 W h1 h2 => cmp01_any (limbs n2) (limbs n1) a1 a2 c1 c2 W h1 h2 (by omega) (by omega)
 simp only [val_limbs] at CA CB
 obtain ⟨b1, hb1'⟩ : ∃ q, (neg1 && decide (0 < n1)) = q := ⟨_, rfl⟩
 obtain ⟨b2, hb2'⟩ : ∃ q, (neg2 && decide (0 < n2)) = q := ⟨_, rfl⟩
 have hres := zcmp_cases neg1 neg2 n1 n2 hb1' hb2'
 rw [hb1'] at C1
 rw [hb2'] at C2
 obtain ⟨R, hR⟩ : ∃ q, cmpI (zval neg1 n1) (zval neg2 n2) = q := ⟨_, rfl⟩
 rw [hR] at hres ⊢
 have HRES := Lib.hid hres
 replace C1 := Lib.hid C1; replace C2 := Lib.hid C2; replace CA := Lib.hid CA; replace CB := Lib.hid CB
 have hx1 : Blk ((w.alloc (.cells #[.bool neg1, .slice a l.length c] 41)).alloc (.cells #[.bool neg2, .slice a' m.length c'] 41)) w.heap.size 41 #[.bool neg1, .slice a l.length c] := (Blk.new w _ _).alloc _
 have hx2 : Blk ((w.alloc (.cells #[.bool neg1, .slice a l.length c] 41)).alloc (.cells #[.bool neg2, .slice a' m.length c'] 41)) (w.heap.size + 1) 41 #[.bool neg2, .slice a' m.length c'] := blk_at1 w _ _ _
 have hb0 : Below w.heap.size w ((w.alloc (.cells #[.bool neg1, .slice a l.length c] 41)).alloc (.cells #[.bool neg2, .slice a' m.length c'] 41)) := by go_grown
 have hgB : w.heap.size < w.heap.size + 1 := by omega
 clear h h' hn hk hll hlm hR hres hb1' hb2'
 go_enter Tryz.func107, Tryz.ntmps107
 go_wp2
 revert hx1 hx2 hb0 hgB
 generalize (w.alloc (.cells #[.bool neg1, .slice a l.length c] 41)).alloc (.cells #[.bool neg2, .slice a' m.length c'] 41) = w0
 generalize w.heap.size + 1 = g
 intro hx1 hx2 hb0 hgB
 have k0 := held (hx1.cell 0); have k1 := held (hx1.cell 1); have k2 := held (hx2.cell 0); have k3 := held (hx2.cell 1)
 have s0 : Below w0.heap.size w0 w0.drew := (Below.refl _ _).drew
 have hgl := hx2.lt
 refine wp_region_mix (S := Below w0.heap.size w0) [(0, .q), (2, .q), (1, .l), (3, .t), (4, .t), (5, .t)] (by kernel_rfl) (by kernel_rfl) (by kernel_rfl) (fun d _ _ _ _ h => by cases d <;> exact h) (s0) ?_
 iterate 2 (refine wpMix_q rfl rfl (fun K hK => ?_); apply Exists.intro; refine ⟨fun w' hw' => ?_, ?_⟩; (focus (go_simp; try rfl)); go_simp; refine hK _ _ ?_; clear hK K)
 refine wpMix_l rfl rfl (fun K hK => ?_)
 go_simp
 refine (C1.out _ (below_then hb0 s0)).mono ?_
 rintro r w1 ⟨a1, c1, rfl, hV1, hb1⟩
 dsimp only
 refine hK.out _ _ (below_then s0 hb1) (fun _ => ?_)
 clear hK K
 have s1 := below_then s0 hb1
 refine wpMix_t rfl rfl (fun K hK => ?_)
 go_simp
 refine (C2.out _ (below_then hb0 s1)).mono ?_
 rintro r w2 ⟨a2, c2, rfl, hV2, hb2⟩
 dsimp only
 refine hK.out _ _ ?_
 clear hK K
 have s2 := below_then s1 hb2
 have hy1 := hx1.below' s2
 have hy2 := hx2.below' s2
 have z0 := hy1.cell 0; have z1 := hy1.cell 1; have z2 := hy2.cell 0; have z3 := hy2.cell 1
 have f0 := hy1.frozen 0; have f1 := hy1.frozen 1; have f2 := hy2.frozen 0; have f3 := hy2.frozen 1
 have hne : ¬ g = w.heap.size := by omega
 have hne2 : ¬ w.heap.size = g := by omega
 have HV1 := Lib.hid hV1
 have HV2 := Lib.hid hV2
 have hw2 := below_then hb0 s2
 have hs1 := s1.size
 have hs2 := s2.size
 clear hV1 hV2 k0 k1 k2 k3
 refine wpMix_t rfl rfl (fun K hK => ?_)
 go_simp
 refine hK.out _ _ ?_
 clear hK K
 refine wpMix_t rfl rfl (fun K hK => ?_)
 go_simp
 refine hK.out _ _ ?_
 clear hK K
 refine wpMix_nil ?_
 have hF1 := ((blk2 (x := .bool b1) (y := .slice a1 (limbs n1).length c1) hy1).far (p := ⟨g, 0, none⟩) hne2 (.bool b2)).far (p := ⟨g, 1, none⟩) hne2 (.slice a2 (limbs n2).length c2)
 have hF2 := blk2 (x := .bool b2) (y := .slice a2 (limbs n2).length c2) ((hy2.far (p := ⟨w.heap.size, 0, none⟩) hne (.bool b1)).far (p := ⟨w.heap.size, 1, none⟩) hne (.slice a1 (limbs n1).length c1))
 have hwF := below2 (x := .bool b2) (y := .slice a2 (limbs n2).length c2) (below2 (x := .bool b1) (y := .slice a1 (limbs n1).length c1) hw2 (Nat.le_refl _)) (Nat.le_of_lt hgB)
 have hN := New.refl w0.heap.size ((((w2.setCell ⟨w.heap.size, 0, none⟩ (.bool b1)).setCell ⟨w.heap.size, 1, none⟩ (.slice a1 (limbs n1).length c1)).setCell ⟨g, 0, none⟩ (.bool b2)).setCell ⟨g, 1, none⟩ (.slice a2 (limbs n2).length c2))
 have hN2 := back2 (back2 hN (Nat.le_refl _) hgl) (Nat.le_refl _) hx1.lt
 revert hF1 hF2 hwF hN2
 generalize (((w2.setCell ⟨w.heap.size, 0, none⟩ (.bool b1)).setCell ⟨w.heap.size, 1, none⟩ (.slice a1 (limbs n1).length c1)).setCell ⟨g, 0, none⟩ (.bool b2)).setCell ⟨g, 1, none⟩ (.slice a2 (limbs n2).length c2) = wF
 intro hF1 hF2 hwF hN2
 have r2 := HV2.out wF (hN2.base hs1)
 have r1 := HV1.out wF (hN2.below hb2)
 clear hN hy1 hy2 z0 z1 z2 z3 f0 f1 f2 f3 hx1 hx2 HV1 HV2 s0 s1 s2 hb1 hb2
 have z0 := hF1.cell 0; have z1 := hF1.cell 1; have z2 := hF2.cell 0; have z3 := hF2.cell 1
 have CA2 := CA.out _ _ _ _ wF r1 r2
 have CB2 := CB.out _ _ _ _ wF r2 r1
 replace CA2 := Lib.hid CA2
 replace CB2 := Lib.hid CB2
 clear r1 r2
 cases b1 <;> cases b2
 ·
  obtain rfl : R = cmpN n1 n2 := by simpa using HRES.out
  go_wp2_with fail
  refine CA2.out.mono ?_
  rintro e w5 ⟨rfl, rfl⟩
  go_wp2
  go_ret
  exact ⟨rfl, hwF⟩
 ·
  obtain rfl : R = 1 := by simpa using HRES.out
  go_wp2
  go_ret
  exact ⟨rfl, hwF⟩
 ·
  obtain rfl : R = -1 := by simpa using HRES.out
  go_wp2
  go_ret
  exact ⟨rfl, hwF⟩
 ·
  obtain rfl : R = cmpN n2 n1 := by simpa using HRES.out
  go_wp2_with fail
  refine CB2.out.mono ?_
  rintro e w5 ⟨rfl, rfl⟩
  go_wp2
  go_ret
  exact ⟨rfl, hwF⟩
end Go.Proofs.YtaihkpjbnkgmlaaGreat
