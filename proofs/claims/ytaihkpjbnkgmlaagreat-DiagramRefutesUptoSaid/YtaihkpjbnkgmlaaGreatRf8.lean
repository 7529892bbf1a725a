/- Walks: the program's rational numbers: one. -/
import Derived.Test.YtaihkpjbnkgmlaaGreatRf7
import Derived.Test.YtaihkpjbnkgmlaaGreatProg
import Derived.Ground.NamesProg
import Derived.Shelf.Lays
import Derived.Shelf.Small.Bits
import Derived.Test.YtaihkpjbnkgmlaaGreatRf5
import Derived.Test.YtaihkpjbnkgmlaaGreatRf4
import Derived.Deep.LoopGhost

/- Walks: the program's natural numbers: DivMod. -/
namespace Go.Proofs.YtaihkpjbnkgmlaaGreat
open Go.RowKit

/-- what a call gives that divides -/
def RetQR (n1 n2 : Nat) (w : World) (e : Ending) (w' : World) : Prop := ∃ a1 c1 a2 c2, e = .returned (.tuple #[.slice a1 (limbs (n1 / n2)).length c1, .slice a2 (limbs (n1 % n2)).length c2, .int .i64 0]) ∧
   (∀ V, New w.heap.size w' V → NatR V a1 c1 (limbs (n1 / n2))) ∧ (∀ V, New w.heap.size w' V → NatR V a2 c2 (limbs (n1 % n2))) ∧ Below w.heap.size w w'
set_option maxHeartbeats 1000000 in
theorem divMod_less (l m : List Int) (n1 n2 : Nat) (a a' : Option Addr) (c c' : Nat) (w : World) (h : NatR w a c l) (h' : NatR w a' c' m) (hn : val l = n1) (hk : val m = n2) (hl : l.length ≤ 10000000) (hlt : n1 < n2) :
  Calls Tryz.prog 191 #[.slice a l.length c, .slice a' m.length c'] w (RetQR n1 n2 w) := by
 have hlen := limbs_len_val h.u16
 rw [hn] at hlen
 have C1 := trim_any l a c w h
 have C2 := trim_any m a' c' w h'
 have hT1 := h.trim
 have hT2 := h'.trim
 rw [hn] at C1 hT1
 rw [hk] at C2 hT2
 have hp := limbs_len_pos.2 (show 0 < n2 by omega)
 have hq : n1 / n2 = 0 := Nat.div_eq_of_lt hlt
 have hr : n1 % n2 = n1 := Nat.mod_eq_of_lt hlt
 have CC := cmp_any (limbs n1) (limbs n2) n1 n2 a a' c c' w hT1 hT2 (val_limbs _) (val_limbs _)
 have CN := fun W (hW : Below w.heap.size w W) => norm_any (limbs n1) a c W (hT1.ext (Ext.below hW)) (by omega)
 rw [val_limbs] at CN
 have hcv : decide (cmpN n1 n2 < 0) = true := by simpa using cmpN_lt.2 hlt
 unfold RetQR
 rw [hq, hr, limbs_zero]
 revert CC hcv
 generalize cmpN n1 n2 = cv
 intro CC hcv
 replace C1 := Lib.hid C1
 replace C2 := Lib.hid C2
 replace CC := Lib.hid CC
 replace CN := Lib.hid CN
 have hne : (((limbs n2).length : Int) == 0) = false := by rw [beq_eq_false_iff_ne]; omega
 clear h h' hn hk hT1 hT2 hp hq hr hlt hlen
 go_enter Tryz.func191, Tryz.ntmps191
 go_wp2_with fail
 refine C1.out.mono ?_
 rintro e w1 ⟨rfl, rfl⟩
 go_wp2_with fail
 refine C2.out.mono ?_
 rintro e w1 ⟨rfl, rfl⟩
 go_wp2_with fail
 refine CC.out.mono ?_
 rintro e w1 ⟨rfl, hb1⟩
 go_wp2_with fail
 refine (CN.out _ hb1).mono ?_
 rintro e w2 ⟨a2, c2, rfl, hV, hb2⟩
 have HV := Lib.hid hV
 have hb3 := below_then hb1 hb2
 clear hV
 go_wp2
 go_ret3
 exact ⟨none, 0, a2, c2, rfl, fun _ _ => SlR.nil, fun V hV => HV.out V (hV.base hb1.size), hb3⟩
set_option maxHeartbeats 1000000 in
theorem divMod_one (l m : List Int) (n1 n2 : Nat) (a a' : Option Addr) (c c' : Nat) (w : World) (h : NatR w a c l) (h' : NatR w a' c' m) (hn : val l = n1) (hk : val m = n2) (hl : l.length ≤ 10000000) (hge : n2 ≤ n1) (h0 : 0 < n2) (h1 : n2 ≤ 65535) :
  Calls Tryz.prog 191 #[.slice a l.length c, .slice a' m.length c'] w (RetQR n1 n2 w) := by
 have hlen := limbs_len_val h.u16
 rw [hn] at hlen
 have C1 := trim_any l a c w h
 have C2 := trim_any m a' c' w h'
 have hT1 := h.trim
 have hT2 := h'.trim
 rw [hn] at C1 hT1
 rw [hk] at C2 hT2
 have e2 : limbs n2 = [(n2 : Int)] := by
  rw [limbs_pos (by omega), Nat.div_eq_of_lt (by omega), limbs_zero, Nat.mod_eq_of_lt (by omega)]
 have CC := cmp_any (limbs n1) (limbs n2) n1 n2 a a' c c' w hT1 hT2 (val_limbs _) (val_limbs _)
 rw [e2] at C2 CC hT2
 have CB := fun W (hW : Below w.heap.size w W) => byLimb_any (limbs n1) n1 n2 a c W (hT1.ext (Ext.below hW)) (val_limbs _) (by omega) h0 h1
 have hr2 : n1 % n2 < 18446744073709551616 := by have := Nat.mod_lt n1 h0; omega
 have CO := fun W => of_any (n1 % n2) W hr2
 have hcv : decide (cmpN n1 n2 < 0) = false := by
  have := cmpN_lt (a := n1) (b := n2)
  simp
  have h3 : ¬ cmpN n1 n2 < 0 := fun e => by have := this.1 e; omega
  omega
 obtain ⟨b2, off2, rfl, hc2⟩ := hT2.cell (k := 0) rfl
 have hc3 : w.cell? ⟨b2, off2, none⟩ = some (.int .u16 n2) := by simpa using hc2
 revert CC hcv
 generalize cmpN n1 n2 = cv
 intro hcv CC
 unfold RetQR
 have hrm : n1 % n2 ≤ 65535 := by have := Nat.mod_lt n1 h0; omega
 revert CB CO hrm
 generalize n1 % n2 = rm
 generalize n1 / n2 = qu
 intro CB CO hrm
 have hrm2 : (rm : Int) ≤ 65535 := by omega
 replace C1 := Lib.hid C1
 replace C2 := Lib.hid C2
 replace CC := Lib.hid CC
 replace CB := Lib.hid CB
 replace CO := Lib.hid CO
 have k3 := held hc3
 clear h h' hn hk hT1 hT2 hlen e2 hr2 hc2 h1 hge hrm hc3
 go_enter Tryz.func191, Tryz.ntmps191
 go_wp2_with fail
 refine C1.out.mono ?_
 rintro e w1 ⟨rfl, rfl⟩
 go_wp2_with fail
 refine C2.out.mono ?_
 rintro e w1 ⟨rfl, rfl⟩
 go_wp2_with fail
 refine CC.out.mono ?_
 rintro e w1 ⟨rfl, hb1⟩
 have k4 := k3 _ hb1
 go_wp2_with fail
 refine (CB.out _ hb1).mono ?_
 rintro e w2 ⟨a2, c2, rfl, hV2, hb2⟩
 have HV2 := Lib.hid hV2
 have hb3 := below_then hb1 hb2
 clear hV2 k4
 go_wp2_with fail
 refine (CO.out _).mono ?_
 rintro e w3 ⟨a3, c3, rfl, hV3, hb4⟩
 have HV3 := Lib.hid hV3
 have hb5 := below_then hb3 hb4
 clear hV3
 go_wp2
 go_ret3
 exact ⟨a2, c2, a3, c3, rfl, fun V hV => HV2.out V ((hV.below hb4).base hb1.size), fun V hV => HV3.out V (hV.base hb3.size), hb5⟩
end Go.Proofs.YtaihkpjbnkgmlaaGreat

/- math/bits.LeadingZeros16, laid at this program. -/
namespace Go.Proofs
open Go.Shelf
def Tryz.lays132_ren : Go.Shelf.Ren := ⟨fun | 132 => 262 | 127 => 258 | n => n, fun | 49 => 205 | 3 => 3 | 4 => 4 | 46 => 93 | 5 => 5 | 9 => 9 | n => n, fun | n => n⟩
theorem Tryz.lays132 : Go.Proofs.Lays.n132 Tryz.prog Tryz.lays132_ren := {
  mixed := by kernel_rfl
  f127 := Tryz.func258.trans (congrArg some (by kernel_rfl))
  f132 := Tryz.func262.trans (congrArg some (by kernel_rfl))
  t3 := Tryz.underlying3
  a3 := Tryz.isAgg3
  z3 := Tryz.sizeOf3
  v3 := Tryz.zeroValue3
  t4 := Tryz.underlying4
  a4 := Tryz.isAgg4
  z4 := Tryz.sizeOf4
  v4 := Tryz.zeroValue4
  t5 := Tryz.underlying5
  a5 := Tryz.isAgg5
  z5 := Tryz.sizeOf5
  v5 := Tryz.zeroValue5
  t9 := Tryz.underlying9
  a9 := Tryz.isAgg9
  z9 := Tryz.sizeOf9
  v9 := Tryz.zeroValue9
  t46 := Tryz.underlying93
  a46 := Tryz.isAgg93
  z46 := Tryz.sizeOf93
  v46 := Tryz.zeroValue93
  t49 := Tryz.underlying205
  a49 := Tryz.isAgg205
  z49 := Tryz.sizeOf205
  v49 := Tryz.zeroValue205 }
end Go.Proofs
namespace Go.Proofs.YtaihkpjbnkgmlaaGreat

theorem lead16_any (x : Nat) (w : World) (h1 : x ≤ 65535) :
  Calls Tryz.prog 262 #[.int .u16 x] w fun e w' => e = .returned (.int .i64 (16 - (Lib.bitLen x : Int))) ∧ w' = w := by
 have := Any.bits_LeadingZeros16 Tryz.lays132 (x : Int) w (by omega) (by omega)
 rw [Int.toNat_natCast] at this
 exact this
end Go.Proofs.YtaihkpjbnkgmlaaGreat

/- Numbers normed ahead of a long division. No function of the program in sight. -/
namespace Go.Proofs.YtaihkpjbnkgmlaaGreat

theorem norm_len {n2 n x s : Nat} (hl : (limbs n2).length = n + 2) (hx : limbAt (limbs n2) (n + 1) = x) (h1 : 32768 ≤ x * 2 ^ s) (h2 : (x + 1) * 2 ^ s ≤ 65536) :
  (limbs (n2 * 2 ^ s)).length = n + 2 ∧ 32768 ≤ limbAt (limbs (n2 * 2 ^ s)) (n + 1) ∧ 65536 ^ (n + 1) * 32768 ≤ n2 * 2 ^ s := by
 obtain ⟨lo, hlo, e⟩ := val_split_at (limbs_u16 n2) (n + 1)
 rw [val_limbs, val_drop_at, hx, val_drop_all (by omega), Int.toNat_natCast] at e
 simp only [Nat.mul_zero, Nat.add_zero] at e
 have hlow : 65536 ^ (n + 1) * 32768 ≤ n2 * 2 ^ s := by
  have h3 := Nat.mul_le_mul_left (65536 ^ (n + 1)) h1
  have h4 : 65536 ^ (n + 1) * (x * 2 ^ s) ≤ n2 * 2 ^ s := by
   rw [← Nat.mul_assoc]
   exact Nat.mul_le_mul_right _ (by omega)
  omega
 have hup : n2 * 2 ^ s < 65536 ^ (n + 2) := by
  have h3 : n2 < 65536 ^ (n + 1) * (x + 1) := by rw [Nat.mul_add, Nat.mul_one]; omega
  have h4 := Nat.mul_lt_mul_of_pos_right h3 (Nat.two_pow_pos s)
  rw [Nat.mul_assoc] at h4
  have h5 := Nat.mul_le_mul_left (65536 ^ (n + 1)) h2
  rw [Nat.pow_succ 65536 (n + 1)]
  omega
 have hlen : (limbs (n2 * 2 ^ s)).length = n + 2 := by
  have h3 := limbs_len_le hup
  apply Nat.le_antisymm h3
  apply Nat.le_of_not_lt
  intro hc
  have h4 := lt_pow_limbs (n2 * 2 ^ s)
  have h5 : 65536 ^ (limbs (n2 * 2 ^ s)).length ≤ 65536 ^ (n + 1) := Nat.pow_le_pow_right (by omega) (by omega)
  have h6 := pow_pos16 (n + 1)
  omega
 refine ⟨hlen, ?_, hlow⟩
 obtain ⟨lo2, hlo2, e2⟩ := val_split_at (limbs_u16 (n2 * 2 ^ s)) (n + 1)
 rw [val_limbs, val_drop_at, val_drop_all (l := limbs (n2 * 2 ^ s)) (by omega)] at e2
 simp only [Nat.mul_zero, Nat.add_zero] at e2
 have hin := limbAt_in (limbs_u16 (n2 * 2 ^ s)) (n + 1)
 refine Int.not_lt.1 (fun hc => ?_)
 have h3 : (limbAt (limbs (n2 * 2 ^ s)) (n + 1)).toNat + 1 ≤ 32768 := by omega
 have h4 := Nat.mul_le_mul_left (65536 ^ (n + 1)) h3
 rw [Nat.mul_add, Nat.mul_one] at h4
 omega
/-- the dividend with zeros above it -/
theorem pad_val {S : List Int} {k : Nat} (h1 : S.length ≤ k) (h2 : k ≤ S.length + 2) : ((S ++ [0, 0]).take k).length = k ∧ val ((S ++ [0, 0]).take k) = val S := by
 refine ⟨by simp; omega, ?_⟩
 have e : k = S.length ∨ k = S.length + 1 ∨ k = S.length + 2 := by omega
 rw [List.take_append, List.take_of_length_le h1, val_append]
 have z : val (([0, 0] : List Int).take (k - S.length)) = 0 := by
  rcases e with e | e | e
  · rw [e, Nat.sub_self]; rfl
  · rw [e, show S.length + 1 - S.length = 1 by omega]; rfl
  · rw [e, show S.length + 2 - S.length = 2 by omega]; rfl
 rw [z, Nat.mul_zero, Nat.add_zero]
theorem shl_lens {n1 s : Nat} (hs : s ≤ 15) : (limbs n1).length ≤ (limbs (n1 * 2 ^ s)).length ∧ (limbs (n1 * 2 ^ s)).length ≤ (limbs n1).length + 1 := by
 constructor
 · exact limbs_len_mono (Nat.le_mul_of_pos_right _ (Nat.two_pow_pos s))
 ·
  apply limbs_len_le
  rw [Nat.pow_succ]
  have h1 := lt_pow_limbs n1
  have h2 := pow_le15 hs
  exact Nat.mul_lt_mul'' h1 (by omega)
/-- the first digits of the dividend are below the divisor -/
theorem long_first {L : List Int} {n1 m s n : Nat} (hL : U16 L) (hv : val L = n1 * 2 ^ s) (hs : s ≤ 15) (hl : L.length = (limbs n1).length + 1) (hn : n + 2 ≤ (limbs n1).length) (hm : 65536 ^ (n + 1) * 32768 ≤ m) : val (L.drop (L.length - (n + 2))) < m := by
 obtain ⟨k, hk⟩ : ∃ k, L.length - (n + 2) = k := ⟨_, rfl⟩
 rw [hk]
 obtain ⟨lo, hlo, e⟩ := val_split_at hL k
 rw [hv] at e
 have h1 := lt_pow_limbs n1
 have h2 := pow_le15 hs
 have h3 : n1 * 2 ^ s < 65536 ^ (limbs n1).length * 32768 := by
  have h4 := Nat.mul_lt_mul_of_pos_right h1 (Nat.two_pow_pos s)
  have h5 := Nat.mul_le_mul_left (65536 ^ (limbs n1).length) h2
  omega
 have h6 : 65536 ^ (limbs n1).length * 32768 = 65536 ^ k * (65536 ^ (n + 1) * 32768) := by
  rw [← Nat.mul_assoc, ← Nat.pow_add]
  congr 2
  omega
 have h7 := Nat.mul_le_mul_left (65536 ^ k) hm
 apply Nat.lt_of_not_le
 intro hc
 have h8 := Nat.mul_le_mul_left (65536 ^ k) hc
 omega
end Go.Proofs.YtaihkpjbnkgmlaaGreat

/- Walks: the program's natural numbers: DivMod of two long numbers; Gcd. -/
namespace Go.Proofs.YtaihkpjbnkgmlaaGreat
open Go.RowKit

/-- shifted back -/
theorem shift_back (l : List Int) (R s : Nat) (a : Option Addr) (c : Nat) (w : World) (h : NatR w a c l) (hv : val l = R * 2 ^ s) (hl : l.length ≤ 10000000) (hs : s ≤ 15) :
  Calls Tryz.prog 263 #[.slice a l.length c, .int .i64 (-(s : Int))] w (RetN (limbs R) w) := by
 by_cases hR : R = 0
 ·
  subst hR
  rw [limbs_zero]
  exact (shift_zero l _ a c w h (by simpa using hv) (by omega)).mono fun e w' ⟨he, hw⟩ => by subst he; subst hw; exact ⟨none, 0, rfl, fun _ _ => SlR.nil, Below.refl _ _⟩
 ·
  by_cases hs0 : s = 0
  ·
   subst hs0
   have e : R * 2 ^ 0 = R := by simp
   have C := shift_any l R 0 a c w h (by rw [hv, e]) (by omega) hl (by omega)
   rw [e] at C
   have e2 : (-((0 : Nat) : Int)) = ((0 : Nat) : Int) := by simp
   rw [e2]
   exact C.mono fun e w' ⟨a1, c1, he, ho, hb⟩ => by subst he; exact RetN.own ho (limbs_u16 _) hb rfl rfl
  ·
   have hp : 0 < R * 2 ^ s := Nat.mul_pos (by omega) (Nat.two_pow_pos s)
   have C := shift_neg l (R * 2 ^ s) s a c w h hv hp hl (by omega) (by omega)
   rw [Nat.mul_div_cancel _ (Nat.two_pow_pos s)] at C
   exact C

theorem zeros2 (w : World) : NatR (w.alloc (.cells #[.int .u16 0, .int .u16 0] 205)) (some ⟨w.heap.size, 0, none⟩) 2 [0, 0] :=
 BlkN.readsV (l := [0, 0]) (B := w.heap.size) (Blk.new w _ _) (Nat.le_refl _) (New.refl _ _) (by intro x hx; simp at hx; omega) (by simp) (by simp [maxLen])
set_option maxRecDepth 100000 in
set_option maxHeartbeats 8000000 in
theorem divMod_big (l m : List Int) (n1 n2 n : Nat) (a a' : Option Addr) (c c' : Nat) (w : World) (h : NatR w a c l) (h' : NatR w a' c' m) (hn : val l = n1) (hk : val m = n2) (hl : l.length ≤ 4000000) (hm : m.length ≤ 4000000) (hge : n2 ≤ n1) (h2 : (limbs n2).length = n + 2) :
  Calls Tryz.prog 191 #[.slice a l.length c, .slice a' m.length c'] w (RetQR n1 n2 w) := by
 have hlen := limbs_len_val h.u16
 rw [hn] at hlen
 have hlen2 := limbs_len_val h'.u16
 rw [hk] at hlen2
 have hle := limbs_len_mono hge
 have h0 : 0 < n2 := limbs_len_pos.1 (by omega)
 have C1 := trim_any l a c w h
 have C2 := trim_any m a' c' w h'
 have hT1 := h.trim
 have hT2 := h'.trim
 rw [hn] at C1 hT1
 rw [hk] at C2 hT2
 have CC := cmp_any (limbs n1) (limbs n2) n1 n2 a a' c c' w hT1 hT2 (val_limbs _) (val_limbs _)
 have hcv : decide (cmpN n1 n2 < 0) = false := by
  have := cmpN_lt (a := n1) (b := n2)
  simp
  have h3 : ¬ cmpN n1 n2 < 0 := fun e => by have := this.1 e; omega
  omega
 obtain ⟨xi, hxi⟩ := get_of_lt (xs := limbs n2) (k := n + 1) (by omega)
 obtain ⟨b2, off2, rfl, hcx⟩ := hT2.cell hxi
 have hxb := (limbs_u16 n2).get hxi
 have hx0 : xi ≠ 0 := limbs_last (n := n2) (by rw [List.getLast?_eq_getElem?, h2]; exact hxi)
 obtain ⟨x, rfl⟩ : ∃ x : Nat, xi = (x : Int) := ⟨xi.toNat, by omega⟩
 obtain ⟨q1, q2, q3, q4⟩ := norm_shift (x := x) (by omega) (by omega)
 have CL := fun w => lead16_any x w (by omega)
 have hsi : (16 : Int) - (Lib.bitLen x : Int) = ((16 - Lib.bitLen x : Nat) : Int) := by omega
 have hs : 16 - Lib.bitLen x ≤ 15 := by omega
 revert CL q3 q4 hsi hs
 generalize 16 - Lib.bitLen x = s
 intro q3 q4 CL hsi hs
 simp only [hsi] at CL
 obtain ⟨r1, r2, r3⟩ := norm_len h2 (limbAt_some hxi) q3 q4
 have hn1 : 0 < n1 := by omega
 have CS1 := fun W (hW : Below w.heap.size w W) => shift_any (limbs n1) n1 s a c W (hT1.ext (Ext.below hW)) (val_limbs _) hn1 (by omega) (by omega)
 have CS2 := fun W (hW : Below w.heap.size w W) => shift_any (limbs n2) n2 s (some ⟨b2, off2, none⟩) c' W (hT2.ext (Ext.below hW)) (val_limbs _) h0 (by omega) (by omega)
 obtain ⟨s1, s2⟩ := shl_lens (n1 := n1) hs
 have hfst := fun (L : List Int) hL hv hl => long_first (n1 := n1) (m := n2 * 2 ^ s) (s := s) (n := n) (L := L) hL hv hs hl (by omega) r3
 have hdq : n1 * 2 ^ s / (n2 * 2 ^ s) = n1 / n2 := Nat.mul_div_mul_right _ _ (Nat.two_pow_pos s)
 have hdr : n1 * 2 ^ s % (n2 * 2 ^ s) = n1 % n2 * 2 ^ s := Nat.mul_mod_mul_right _ _ _
 have hla : n + 2 ≤ (limbs n1).length := by omega
 have hla2 : (limbs n1).length ≤ 4000000 := by omega
 have hk3 := held (by simpa using hcx : w.cell? ⟨b2, off2 + (n + 1), none⟩ = some (.int .u16 x))
 have hvS := val_limbs (n1 * 2 ^ s)
 have huS := limbs_u16 (n1 * 2 ^ s)
 have hvV := val_limbs (n2 * 2 ^ s)
 have huV := limbs_u16 (n2 * 2 ^ s)
 simp only [h2, r1] at C2 CC CS2
 obtain ⟨cv, hcv0⟩ : ∃ cv, cmpN n1 n2 = cv := ⟨_, rfl⟩
 obtain ⟨S, hS0⟩ : ∃ S, limbs (n1 * 2 ^ s) = S := ⟨_, rfl⟩
 obtain ⟨V2, hV0⟩ : ∃ V2, limbs (n2 * 2 ^ s) = V2 := ⟨_, rfl⟩
 obtain ⟨la, hla0⟩ : ∃ la, (limbs n1).length = la := ⟨_, rfl⟩
 simp only [hcv0, hS0, hV0, hla0] at C1 CC CS1 CS2 s1 s2 hfst hla hla2 hcv hvS huS hvV huV r1 r2
 clear hcv0 hS0 hV0 hla0
 replace C1 := Lib.hid C1
 replace C2 := Lib.hid C2
 replace CC := Lib.hid CC
 replace CL := Lib.hid CL
 replace CS1 := Lib.hid CS1
 replace CS2 := Lib.hid CS2
 have HF := Lib.hid hfst
 have HR1 := Lib.hid r1
 have HR2 := Lib.hid r2
 have HDQ := Lib.hid hdq
 have HDR := Lib.hid hdr
 have HVS := Lib.hid hvS
 have HVV := Lib.hid hvV
 have HS1 := Lib.hid s1
 have HS2 := Lib.hid s2
 have hxi' : (x : Int) ≤ 65535 := by omega
 have hsI : (s : Int) ≤ 15 := by omega
 have hnI : (n : Int) ≤ 16777216 := by omega
 have hne1 : ((n : Int) + 2 == 0) = false := by rw [beq_eq_false_iff_ne]; omega
 have hne2 : ((n : Int) + 2 == 1) = false := by rw [beq_eq_false_iff_ne]; omega
 clear h h' hn hk hT1 hT2 hlen hlen2 hle hxi hcx hxb hx0 q1 q2 q3 q4 hsi r1 r2 r3 hdq hdr hvS hvV s1 s2 hfst h2 hge
 go_enter Tryz.func191, Tryz.ntmps191
 go_wp2_with fail
 refine C1.out.mono ?_
 rintro e w1 ⟨rfl, rfl⟩
 go_wp2_with fail
 refine C2.out.mono ?_
 rintro e w1 ⟨rfl, rfl⟩
 go_wp2_with fail
 refine CC.out.mono ?_
 rintro e w1 ⟨rfl, hb1⟩
 have k4 := hk3 _ hb1
 go_wp2_with fail
 refine (CL.out _).mono ?_
 rintro e w1' ⟨rfl, rfl⟩
 go_wp2_with fail
 refine (CS1.out _ hb1).mono ?_
 rintro e w2 ⟨a1, c1, rfl, ho2, hb2⟩
 have hb3 := below_then hb1 hb2
 clear k4
 have HO2 := Lib.hid ho2
 clear ho2
 go_wp2_with (at_builtin; go_must (refine append_nats (B := w1'.heap.size) rfl (.tmp 52) (.tmp 53) rfl a1 c1 (l := S) rfl (HO2.out.alloc _) (some ⟨w2.heap.size, 0, none⟩) 2 (m := [0, 0]) rfl (zeros2 w2) (S ++ [0, 0]) rfl (by have := HS2.out; simp; omega) (by have := hb2.size; simp; omega) ?_); intro a3 c3 w3 hown3 hg3 hbb3; have hcap3 : la + 1 ≤ c3 := (by have h1 := hown3.cap.1; have h2 := HS1.out; simp only [List.length_append, List.length_cons, List.length_nil] at h1; omega))
 obtain ⟨g, r, rfl, hBg, hc3, hrow⟩ := own_row hown3 (by simp)
 have hc3b := hown3.cap.2
 have hb4 : Below w1'.heap.size w1' w3 := hb2.trans (((Below.refl _ w2).alloc (Nat.le_refl _) _).mono hb2.size |>.trans hbb3)
 have hgl := hrow.lt
 have hb5 := below_then hb1 hb4
 obtain ⟨p1, p2⟩ := pad_val (S := S) (k := la + 1) HS2.out (by have := HS1.out; omega)
 have hrow2 := hrow.cut (la + 1)
 have hUL : U16 ((S ++ [0, 0]).take (la + 1)) := (huS.app (by intro x hx; simp at hx; omega)).take _
 rw [HVS.out] at p2
 obtain ⟨L, hL⟩ : ∃ L, (S ++ [0, 0]).take (la + 1) = L := ⟨_, rfl⟩
 obtain ⟨r2, hr2⟩ : ∃ r2, ((S ++ [0, 0]).drop (la + 1)).map (Value.int .u16) ++ r = r2 := ⟨_, rfl⟩
 rw [hL] at p1 p2 hrow2 hUL
 rw [hr2] at hrow2
 have HP1 := Lib.hid p1
 have HP2 := Lib.hid p2
 have HROW := Lib.hid hrow2
 have HC3B := Lib.hid hc3b
 clear hL hr2 hrow hrow2 p1 p2 hown3 hg3 hbb3 hc3 hc3b HO2 hb2 hb3
 refine (CS2.out _ hb5).mono ?_
 rintro e w4 ⟨a5, c5, rfl, ho4, hb6⟩
 have hb7 := below_then hb5 hb6
 have hvr := ho4.reads1 huV
 have hvg : ∀ p, a5 = some p → p.block ≠ g := fun p e => by have := (ho4.lt e).1; omega
 have hwg : w.heap.size ≤ g := Nat.le_trans hb1.size hBg
 have CLG := long_any L V2 r2 g n c3 c5 a5 w4 (HROW.out.below hb6) hUL (by rw [HP1.out]; omega) hvr HR1.out hvg (by rw [HP1.out]; omega) HR2.out (by rw [HVV.out]; exact HF.out L hUL HP2.out HP1.out) (by rw [HP1.out]; exact hcap3) HC3B.out
 rw [HP1.out, HR1.out, HP2.out, HVV.out, HDQ.out, HDR.out] at CLG
 replace CLG := Lib.hid CLG
 clear hvr ho4 hvg
 go_wp2_with fail
 refine CLG.out.mono ?_
 rintro e w5 ⟨L', a6, c6, rfl, hq6, hrow6, hU6, hl6, hv6, hg6⟩
 have hb8 := below_but hb7 hg6 hwg hb7.size
 have hrd := hrow6.readsAt hU6 0 L'.length c3 (by omega) HC3B.out
 rw [List.drop_zero, List.take_length] at hrd
 have CTR := trim_any L' _ _ w5 hrd
 have hrd2 := hrd.trim
 rw [hv6, hl6] at CTR
 rw [hv6] at hrd2
 have hll := limbs_len_val hU6
 rw [hv6, hl6] at hll
 have CB := shift_back (limbs (n1 % n2 * 2 ^ s)) (n1 % n2) s _ _ w5 hrd2 (val_limbs _) (by omega) hs
 replace CB := Lib.hid CB
 replace CTR := Lib.hid CTR
 have HQ6 := Lib.hid hq6
 clear hrd hrd2 hv6 hl6 hrow6 hg6 hll hq6 CLG hU6
 go_wp2_with fail
 refine CTR.out.mono ?_
 rintro e w6 ⟨rfl, rfl⟩
 go_wp2_with fail
 refine CB.out.mono ?_
 rintro e w6 ⟨a7, c7, rfl, hV7, hb9⟩
 have HV7 := Lib.hid hV7
 have hbf := below_then hb8 hb9
 clear hV7
 go_wp2
 go_ret3
 exact ⟨a6, c6, a7, c7, rfl, fun V hV => HQ6.out V ((hV.below hb9).base hb7.size), fun V hV => HV7.out V (hV.base hb8.size), hbf⟩
end Go.Proofs.YtaihkpjbnkgmlaaGreat

/- Walks: the program's natural numbers: DivMod, Gcd. -/
namespace Go.Proofs.YtaihkpjbnkgmlaaGreat
open Go.RowKit

theorem divMod_any (l m : List Int) (n1 n2 : Nat) (a a' : Option Addr) (c c' : Nat) (w : World) (h : NatR w a c l) (h' : NatR w a' c' m) (hn : val l = n1) (hk : val m = n2) (hl : l.length ≤ 4000000) (hm : m.length ≤ 4000000) (h0 : 0 < n2) :
  Calls Tryz.prog 191 #[.slice a l.length c, .slice a' m.length c'] w (RetQR n1 n2 w) := by
 by_cases hlt : n1 < n2
 · exact divMod_less l m n1 n2 a a' c c' w h h' hn hk (by omega) hlt
 ·
  by_cases h1 : n2 ≤ 65535
  · exact divMod_one l m n1 n2 a a' c c' w h h' hn hk (by omega) (by omega) h0 h1
  ·
   obtain ⟨n, h2⟩ : ∃ n, (limbs n2).length = n + 2 := by
    refine ⟨(limbs n2).length - 2, ?_⟩
    have h3 : ¬ (limbs n2).length ≤ 1 := fun e => by
     have h4 := lt_pow_limbs n2
     have h5 : 65536 ^ (limbs n2).length ≤ 65536 ^ 1 := Nat.pow_le_pow_right (by omega) e
     omega
    omega
   exact divMod_big l m n1 n2 n a a' c c' w h h' hn hk hl hm (by omega) h2
/-- the value of a number below 2^64 -/
theorem uint_any (l : List Int) (n : Nat) (a : Option Addr) (c : Nat) (w : World) (h : NatR w a c l) (hn : val l = n) :
  Calls Tryz.prog 260 #[.slice a l.length c] w fun e w' => ∃ (u : Nat) (b : Bool), e = .returned (.tuple #[.int .u64 u, .bool b]) ∧ (b = true → u = n) ∧ Hid (u < 18446744073709551616) ∧ w = w' := by
 by_cases hs : n < 18446744073709551616
 · exact (uint_small l n a c w h hn hs).mono fun e w' ⟨he, hw⟩ => ⟨n, true, he, fun _ => rfl, hs, hw⟩
 · exact (uint_big l n a c w h hn hs).mono fun e w' ⟨he, hw⟩ => ⟨0, false, he, (fun h => by cases h), Lib.hid (by omega), hw⟩

set_option maxRecDepth 100000 in
set_option maxHeartbeats 4000000 in
theorem gcd_any (l m : List Int) (n1 n2 : Nat) (a a' : Option Addr) (c c' : Nat) (w : World) (h : NatR w a c l) (h' : NatR w a' c' m) (hn : val l = n1) (hk : val m = n2) (hl : l.length ≤ 2000000) (hm : m.length ≤ 2000000) :
  Calls Tryz.prog 190 #[.slice a l.length c, .slice a' m.length c'] w (RetN (limbs (Nat.gcd n1 n2)) w) := by
 have H := Lib.hid h
 have H' := Lib.hid h'
 have C1 := norm_any l a c w h (by omega)
 rw [hn] at C1
 replace C1 := Lib.hid C1
 have hL1 : (limbs n1).length ≤ 2000000 := by have := limbs_len_val h.u16; rw [hn] at this; omega
 have hL2 : (limbs n2).length ≤ 2000000 := by have := limbs_len_val h'.u16; rw [hk] at this; omega
 have HK := Lib.hid hk
 clear h h' hn hk
 go_enter Tryz.func190, Tryz.ntmps190
 go_wp2_with fail
 refine C1.out.mono ?_
 rintro e w1 ⟨a1, c1, rfl, hV1, hb1⟩
 have C2 := norm_any m a' c' w1 (H'.out.ext (Ext.below hb1)) (by omega)
 rw [HK.out] at C2
 replace C2 := Lib.hid C2
 have HV1 := Lib.hid hV1
 clear hV1 C1
 go_wp2_with fail
 refine C2.out.mono ?_
 rintro e w2 ⟨a2, c2, rfl, hV2, hb2⟩
 have hb := below_then hb1 hb2
 have HV2 := Lib.hid hV2
 clear hV2 C2 H H' HK
 go_wp2
 go_loopg [0, 1, 5, 6, 7, 8, 9, 10, 11] n2 (fun g sx sy _ _ _ _ _ _ _ wr => ∃ (x : Nat) (ax : Option Addr) (cx : Nat) (ay : Option Addr) (cy : Nat), sx = .slice ax (limbs x).length cx ∧ sy = .slice ay (limbs g).length cy ∧ (∀ V, New w.heap.size wr V → NatR V ax cx (limbs x)) ∧
  (∀ V, New w.heap.size wr V → NatR V ay cy (limbs g)) ∧ (limbs x).length ≤ 2000000 ∧ (limbs g).length ≤ 2000000 ∧ Below w.heap.size w wr ∧ Nat.gcd x g = Nat.gcd n1 n2)
 case atStart => exact ⟨n1, a1, c1, a2, c2, rfl, rfl, fun V hV => HV1.out V (hV.below hb2), fun V hV => HV2.out V (hV.base hb1.size), hL1, hL2, hb, rfl⟩
 case round =>
  obtain ⟨x, ax, cx, ay, cy, rfl, rfl, hx, hy, hlx, hly, hb', hg⟩ := hrel
  have HX := Lib.hid hx
  have HY := Lib.hid hy
  have HG := Lib.hid hg
  clear hx hy hg hb1 hb2 hb
  by_cases h0 : gk = 0
  ·
   subst h0
   have hgz : decide (0 < (limbs 0).length) = false := by rw [limbs_zero]; rfl
   have hX := HX.out
   have hgc : limbs (Nat.gcd n1 n2) = limbs x := by rw [← HG.out, Nat.gcd_zero_right]
   have HGC := Lib.hid hgc
   clear hgc
   replace hX := Lib.hid hX
   go_wp2
   go_ret
   rw [HGC.out]
   exact ⟨ax, cx, rfl, hX.out, hb'⟩
  ·
   have hgz : decide (0 < (limbs gk).length) = true := by have := limbs_len_pos (n := gk); simp; omega
   have CU1 := uint_any (limbs x) x ax cx wr (HX.out wr (New.refl _ _)) (val_limbs _)
   have CU2 := uint_any (limbs gk) gk ay cy wr (HY.out wr (New.refl _ _)) (val_limbs _)
   have CD := divMod_any (limbs x) (limbs gk) x gk ax ay cx cy wr (HX.out wr (New.refl _ _)) (HY.out wr (New.refl _ _)) (val_limbs _) (val_limbs _) (by omega) (by omega) (by omega)
   have hr : x % gk < gk := Nat.mod_lt _ (by omega)
   have hgr : Nat.gcd gk (x % gk) = Nat.gcd n1 n2 := by rw [← HG.out, Nat.gcd_comm x gk, Nat.gcd_rec gk x, Nat.gcd_comm]
   have HGR := Lib.hid hgr
   have HR := Lib.hid hr
   have hlr : (limbs (x % gk)).length ≤ 2000000 := Nat.le_trans (limbs_len_mono (Nat.le_of_lt hr)) hly
   unfold RetQR at CD
   replace CU1 := Lib.hid CU1
   replace CU2 := Lib.hid CU2
   replace CD := Lib.hid CD
   clear hgr hr
   go_wp2_with fail
   refine CU1.out.mono ?_
   rintro e w3 ⟨u1, s1, rfl, hu1, hu1b, rfl⟩
   go_wp2_with fail
   refine CU2.out.mono ?_
   rintro e w3 ⟨u2, s2, rfl, hu2, hu2b, rfl⟩
   cases s1
   ·
    clear hu1 hu2
    go_wp2_with fail
    refine CD.out.mono ?_
    rintro e w3 ⟨a3, c3, a4, c4, rfl, hV3, hV4, hb3⟩
    have HV4 := Lib.hid hV4
    clear hV3 hV4 CD
    go_wp2
    go_roundg (x % gk)
    case rel => exact ⟨gk, ay, cy, a4, c4, rfl, rfl, fun V hV => HY.out V (hV.below hb3), fun V hV => HV4.out V (hV.base hb'.size), hly, hlr, below_then hb' hb3, HGR.out⟩
    case measure => exact HR.out
   ·
    cases s2
    ·
     clear hu1 hu2
     go_wp2_with fail
     refine CD.out.mono ?_
     rintro e w3 ⟨a3, c3, a4, c4, rfl, hV3, hV4, hb3⟩
     have HV4 := Lib.hid hV4
     clear hV3 hV4 CD
     go_wp2
     go_roundg (x % gk)
     case rel => exact ⟨gk, ay, cy, a4, c4, rfl, rfl, fun V hV => HY.out V (hV.below hb3), fun V hV => HV4.out V (hV.base hb'.size), hly, hlr, below_then hb' hb3, HGR.out⟩
     case measure => exact HR.out
    ·
     obtain rfl := hu1 rfl
     obtain rfl := hu2 rfl
     clear CD CU1 CU2 HGR HR hlr hu1 hu2
     go_wp2
     go_loopg [5, 7] u2 (fun y s5 s7 wi => ∃ z : Nat, s5 = .int .u64 z ∧ s7 = .int .u64 y ∧ Hid (z < 18446744073709551616) ∧ Hid (y < 18446744073709551616) ∧ Hid (Nat.gcd z y = Nat.gcd n1 n2) ∧ Below w.heap.size w wi)
     case atStart => exact ⟨u1, rfl, rfl, hu1b, hu2b, HG.out, hb'⟩
     case round =>
      clear hb'
      obtain ⟨z, rfl, rfl, hz, hy, hzy, hwi⟩ := hrel
      by_cases hy0 : gk = 0
      ·
       subst hy0
       have hgc : Nat.gcd n1 n2 = z := by rw [← hzy.out, Nat.gcd_zero_right]
       have HGC2 := Lib.hid hgc
       have CO := fun W => of_any z W hz.out
       replace CO := Lib.hid CO
       clear hgc
       go_wp2_with fail
       refine (CO.out _).mono ?_
       rintro e w3 ⟨a3, c3, rfl, hV3, hb3⟩
       have HV3 := Lib.hid hV3
       have hb4 := below_then hwi hb3
       clear hV3
       go_wp2
       go_ret
       rw [HGC2.out]
       exact ⟨a3, c3, rfl, fun V hV => HV3.out V (hV.base hwi.size), hb4⟩
      ·
       have hmod : (z : Int).tmod (gk : Int) = ((z % gk : Nat) : Int) := rfl
       have hne : ¬ gk = 0 := hy0
       have hpos : decide ((0 : Int) < (gk : Int)) = true := by simp; omega
       have hlt : z % gk < gk := Nat.mod_lt _ (by omega)
       have hgc : Nat.gcd gk (z % gk) = Nat.gcd n1 n2 := by rw [← hzy.out, Nat.gcd_comm z gk, Nat.gcd_rec gk z, Nat.gcd_comm]
       have hb5 : z % gk < 18446744073709551616 := by have := hy.out; omega
       have HB5 := Lib.hid hb5
       have HLT := Lib.hid hlt
       have HGC := Lib.hid hgc
       have w1' : IntKind.u64.wrap ((z % gk : Nat) : Int) = ((z % gk : Nat) : Int) := by rw [wrap64u, Nat.mod_eq_of_lt hb5]
       clear hlt hgc hb5 hy0
       go_wp2
       go_region
       go_wp2
       go_roundg (z % gk)
       case rel => exact ⟨gk, rfl, rfl, hy, HB5.out, HGC.out, hwi.drew⟩
       case measure => exact HLT.out
end Go.Proofs.YtaihkpjbnkgmlaaGreat

/- Walks: the program's rational numbers: one. -/
namespace Go.Proofs.YtaihkpjbnkgmlaaGreat
open Go.RowKit

set_option maxRecDepth 100000 in
set_option maxHeartbeats 1000000 in
theorem one_any (l : List Int) (a : Option Addr) (c : Nat) (w : World) (h : NatR w a c l) :
  Calls Tryz.prog 189 #[.slice a l.length c] w fun e w' => e = .returned (.bool (decide (l.length = 1 ∧ limbAt l 0 = 1))) ∧ Below w.heap.size w w' := by
 have hlen := h.len
 have hu := h.u16
 by_cases h0 : l.length = 0
 ·
  obtain rfl : l = [] := List.length_eq_zero_iff.1 h0
  clear h hu h0
  go_enter Tryz.func189, Tryz.ntmps189
  go_wp2
  go_ret
  exact ⟨rfl, (Below.refl _ _).alloc (Nat.le_refl _) _⟩
 ·
  obtain ⟨x, hx⟩ := get_of_lt (xs := l) (k := 0) (by omega)
  obtain ⟨b, off, rfl, hc⟩ := h.cell hx
  obtain ⟨hx0, hx1⟩ := hu.get hx
  rw [limbAt_some hx]
  have hc2 : w.cell? ⟨b, off, none⟩ = some (.int .u16 x) := by simpa using hc
  have hk := held hc2
  have hgt : decide ((0 : Int) < (l.length : Int)) = true := by rw [decide_eq_true_eq]; omega
  have hbl : b < w.heap.size + 1 := by have := World.block_lt_of_cell? w _ hc2; simp at this; omega
  have hb2 : b < w.heap.size := by have := World.block_lt_of_cell? w _ hc2; simpa using this
  clear h hu hx hc
  go_enter Tryz.func189, Tryz.ntmps189
  go_wp2
  all_goals go_ret
  all_goals refine ⟨ret_bool ?_, (Below.refl _ _).alloc (Nat.le_refl _) _⟩
  all_goals (simp <;> omega)
/-- a number without leading zeros is 1 -/
theorem one_limbs (n : Nat) : decide ((limbs n).length = 1 ∧ limbAt (limbs n) 0 = 1) = decide (n = 1) := by
 rw [decide_eq_decide]
 constructor
 ·
  rintro ⟨h1, h2⟩
  match hl : limbs n, h1 with
  | [x], _ =>
   rw [hl] at h2
   have hv := val_limbs n
   rw [hl] at hv
   simp [limbAt] at h2
   subst h2
   simp [val] at hv
   exact hv.symm
 ·
  rintro rfl
  have e : limbs 1 = [1] := by rw [limbs_pos (by omega)]; simp [limbs_zero]
  rw [e]
  exact ⟨rfl, rfl⟩

end Go.Proofs.YtaihkpjbnkgmlaaGreat
