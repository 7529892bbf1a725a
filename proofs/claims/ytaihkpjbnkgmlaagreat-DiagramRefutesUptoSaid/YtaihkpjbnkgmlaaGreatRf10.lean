/- math/bits.Len16, laid at this program. -/
import Derived.Test.YtaihkpjbnkgmlaaGreatRf9
import Derived.Deep.LoopGhost
import Derived.Test.YtaihkpjbnkgmlaaGreatRf8
import Derived.Deep.CutRange
import Derived.Test.YtaihkpjbnkgmlaaGreatProg
import Derived.Ground.NamesProg
import Derived.Shelf.Lays
import Derived.Shelf.Small.Bits

/- Walks of the reference's natural numbers: digit, DivMod, Gcd. -/
namespace Go.Proofs.YtaihkpjbnkgmlaaGreat
open Go.RowKit

set_option maxHeartbeats 1000000 in
/-- the quotient of two numbers, if it is one limb -/
theorem digit01_any (l m : List Int) (n1 n2 : Nat) (a a' : Option Addr) (c c' : Nat) (w : World) (h : NatR w a c l) (h' : NatR w a' c' m) (hn : val l = n1) (hk : val m = n2) (hl : l.length ≤ 4000000) (hm : m.length ≤ 4000000)
  (h0 : 0 < n2) (hq : n1 / n2 ≤ 65535) :
  Calls Tryz.prog 240 #[.slice a l.length c, .slice a' m.length c'] w fun e w' => e = .returned (.int .u64 ((n1 / n2 : Nat) : Int)) ∧ Below w.heap.size w w' := by
 have H := Lib.hid h
 have H' := Lib.hid h'
 have HN := Lib.hid hn
 have HK := Lib.hid hk
 obtain ⟨q, hqe⟩ : ∃ q, n1 / n2 = q := ⟨_, rfl⟩
 have hdiv : ∀ d, d * n2 ≤ n1 ↔ d ≤ q := fun d => by rw [← hqe]; exact (Nat.le_div_iff_mul_le h0).symm
 rw [hqe] at hq ⊢
 have HD := Lib.hid hdiv
 clear h h' hn hk hqe hdiv
 go_enter Tryz.func240, Tryz.ntmps240
 go_wp2
 go_loopw [5, 6, 7] (fun x y _ wr => ∃ lo hi : Nat, lo ≤ q ∧ q ≤ hi ∧ hi ≤ 65535 ∧ x = .int .u64 lo ∧ y = .int .u64 hi ∧ Below w.heap.size w wr) (fun x y _ _ => (intOf y).toNat - (intOf x).toNat)
 case atStart => exact ⟨0, 65535, by omega, by omega, by omega, rfl, rfl, Below.refl _ _⟩
 case round =>
  obtain ⟨lo, hi, hlo, hhi, hhi2, rfl, rfl, hb⟩ := hrel
  by_cases hlt : lo < hi
  ·
   obtain ⟨d, hd⟩ : ∃ d : Nat, d = (lo + hi + 1) / 2 := ⟨_, rfl⟩
   have hd1 : lo < d := by omega
   have hd2 : d ≤ hi := by omega
   have hde : ((lo : Int) + hi + 1) / 2 = (d : Int) := by omega
   have hd3 : d < 18446744073709551616 := by omega
   have HDE := Lib.hid hde
   clear hd hde
   have CO := fun w => of01_any d w hd3
   replace CO := Lib.hid CO
   go_wp2_with fail
   rw [HDE.out]
   refine (CO.out _).mono ?_
   rintro e w1 ⟨a1, c1, rfl, hV1, hb1⟩
   have hbw1 := below_then hb hb1
   have hr1 := hV1 w1 (New.refl _ _)
   have hlen1 : (limbs d).length ≤ 1 := limbs_len_le (by omega)
   have CM := mul01_any m (limbs d) n2 d a' a1 c' c1 w1 (H'.out.ext (Ext.below hbw1)) hr1 HK.out (val_limbs d) (by omega) (by omega)
   replace CM := Lib.hid CM
   clear hV1 hr1 hb1 hb CO
   go_wp2_with fail
   refine CM.out.mono ?_
   rintro e w2 ⟨a2, c2, rfl, hV2, hb2⟩
   have hbw2 := below_then hbw1 hb2
   have hr2 := hV2 w2 (New.refl _ _)
   have hlen2 : (limbs (n2 * d)).length ≤ 4000001 := by
    have h1 := limbs_len_mul n2 d
    have h2 := limbs_len_val H'.out.u16
    rw [HK.out] at h2
    omega
   have CC := cmp01_any (limbs (n2 * d)) l a2 a c2 c w2 hr2 (H.out.ext (Ext.below hbw2)) (by omega) (by omega)
   rw [val_limbs, HN.out] at CC
   have hcm : cmpN (n2 * d) n1 ≤ 0 ↔ d ≤ q := by rw [cmpN_le, Nat.mul_comm]; exact HD.out d
   revert CC hcm
   generalize cmpN (n2 * d) n1 = cv
   intro CC hcm
   replace CC := Lib.hid CC
   clear hV2 hr2 hb2 hbw1 CM hlen2 hlen1
   by_cases hle : d ≤ q
   ·
    have hcv : decide (cv ≤ 0) = true := by simpa using hcm.2 hle
    clear hcm
    go_wp2_with fail
    refine CC.out.mono ?_
    rintro e w3 ⟨rfl, rfl⟩
    go_wp2
    go_roundw
    case rel => exact ⟨d, hi, hle, hhi, hhi2, rfl, rfl, hbw2⟩
    case measure => simp [intOf]; omega
   ·
    have hcv : decide (cv ≤ 0) = false := by simp; have := fun h => hle (hcm.1 h); omega
    clear hcm
    go_wp2_with fail
    refine CC.out.mono ?_
    rintro e w3 ⟨rfl, rfl⟩
    go_wp2
    go_roundw
    case rel => exact ⟨lo, d - 1, hlo, by omega, by omega, rfl, val_int (by omega), hbw2⟩
    case measure => simp [intOf]; omega
  ·
   obtain rfl : lo = q := by omega
   go_wp2
   go_ret
   exact ⟨rfl, hb⟩

/-- what a call gives that divides -/
def RetDM (n1 n2 : Nat) (w : World) (e : Ending) (w' : World) : Prop := ∃ a1 c1 a2 c2, e = .returned (.tuple #[.slice a1 (limbs (n1 / n2)).length c1, .slice a2 (limbs (n1 % n2)).length c2, .int .i64 0]) ∧
   (∀ V, New w.heap.size w' V → NatR V a1 c1 (limbs (n1 / n2))) ∧ (∀ V, New w.heap.size w' V → NatR V a2 c2 (limbs (n1 % n2))) ∧ Below w.heap.size w w'
set_option maxHeartbeats 1000000 in
theorem divMod01_small (l m : List Int) (n1 n2 : Nat) (a a' : Option Addr) (c c' : Nat) (w : World) (h : NatR w a c l) (h' : NatR w a' c' m) (hn : val l = n1) (hk : val m = n2) (hl : l.length ≤ 2000000) (hm : m.length ≤ 2000000)
  (h0 : 0 < n2) (hs1 : (limbs n1).length ≤ 4) (hs2 : (limbs n2).length ≤ 4) :
  Calls Tryz.prog 173 #[.slice a l.length c, .slice a' m.length c'] w (RetDM n1 n2 w) := by
 have H := Lib.hid h
 have H' := Lib.hid h'
 have C1 := norm01_any l a c w h (by omega)
 rw [hn] at C1
 replace C1 := Lib.hid C1
 have hv1 : n1 < 18446744073709551616 := by have := lt_pow_limbs n1; have h2 := Nat.pow_le_pow_right (show 0 < 65536 by omega) hs1; omega
 have hv2 : n2 < 18446744073709551616 := by have := lt_pow_limbs n2; have h2 := Nat.pow_le_pow_right (show 0 < 65536 by omega) hs2; omega
 have hne : ((limbs n2).length : Int) ≠ 0 := by have := limbs_len_pos.2 h0; omega
 have hbz : (((limbs n2).length : Int) == 0) = false := by simpa using hne
 have hd1 : decide (((limbs n1).length : Int) ≤ 4) = true := by simp; omega
 have hd2 : decide (((limbs n2).length : Int) ≤ 4) = true := by simp; omega
 have HK := Lib.hid hk
 clear h h' hn hne hs1 hs2 hk
 go_enter Tryz.func173, Tryz.ntmps173
 go_wp2_with fail
 refine C1.out.mono ?_
 rintro e w1 ⟨a1, c1, rfl, hV1, hb1⟩
 have C2 := norm01_any m a' c' w1 (H'.out.ext (Ext.below hb1)) (by omega)
 rw [HK.out] at C2
 replace C2 := Lib.hid C2
 clear C1
 have HV1 := Lib.hid hV1
 clear hV1
 go_wp2_with fail
 refine C2.out.mono ?_
 rintro e w2 ⟨a2, c2, rfl, hV2, hb2⟩
 have hb := below_then hb1 hb2
 have hr1 := HV1.out w2 ((New.refl _ w2).below hb2)
 have hr2 := hV2 w2 (New.refl _ _)
 have S1 := fun W (hW : Below w2.heap.size w2 W) => short01_any (limbs n1) a1 c1 W (hr1.ext (Ext.below hW)) (by rw [val_limbs]; exact hv1)
 have S2 := fun W (hW : Below w2.heap.size w2 W) => short01_any (limbs n2) a2 c2 W (hr2.ext (Ext.below hW)) (by rw [val_limbs]; exact hv2)
 rw [val_limbs] at S1 S2
 replace S1 := Lib.hid S1
 replace S2 := Lib.hid S2
 have hz2 : ((n2 : Int) == 0) = false := by simp; omega
 clear hV2 hb1 hb2 C2 HV1 hr1 hr2
 have hq1 : n1 / n2 < 18446744073709551616 := Nat.lt_of_le_of_lt (Nat.div_le_self _ _) hv1
 have hq2 : n1 % n2 < 18446744073709551616 := Nat.lt_of_le_of_lt (Nat.mod_le _ _) hv1
 have hm1 : IntKind.u64.wrap ((n1 : Int) / n2) = ((n1 / n2 : Nat) : Int) := by
  have e : ((n1 : Int) / n2) = ((n1 / n2 : Nat) : Int) := by simp
  rw [e]
  exact IntWalk.u64_in _ ⟨Int.natCast_nonneg _, by omega⟩
 have hm2 : ((n1 : Int) % n2) = ((n1 % n2 : Nat) : Int) := by simp
 have HM1 := Lib.hid hm1
 have HM2 := Lib.hid hm2
 have CO1 := fun w => of01_any (n1 / n2) w hq1
 have CO2 := fun w => of01_any (n1 % n2) w hq2
 replace CO1 := Lib.hid CO1
 replace CO2 := Lib.hid CO2
 have hn2 : (1 : Int) ≤ n2 := by omega
 clear hm1 hm2 hq1 hq2 hv1 hv2
 go_wp2_with fail
 refine (S1.out _ (Below.refl _ _)).mono ?_
 rintro e w3 ⟨rfl, rfl⟩
 go_wp2_with fail
 refine (S2.out _ (Below.refl _ _)).mono ?_
 rintro e w3 ⟨rfl, rfl⟩
 go_wp2_with fail
 rw [HM1.out]
 refine (CO1.out _).mono ?_
 rintro e w3 ⟨a3, c3, rfl, hV3, hb3⟩
 have HV3 := Lib.hid hV3
 clear hV3
 go_wp2_with fail
 refine (S1.out _ hb3).mono ?_
 rintro e w4 ⟨rfl, rfl⟩
 go_wp2_with fail
 refine (S2.out _ hb3).mono ?_
 rintro e w4 ⟨rfl, rfl⟩
 go_wp2_with fail
 rw [HM2.out]
 refine (CO2.out _).mono ?_
 rintro e w4 ⟨a4, c4, rfl, hV4, hb4⟩
 have HV4 := Lib.hid hV4
 clear hV4
 go_wp2
 go_ret3
 exact ⟨a3, c3, a4, c4, rfl, fun V hV => HV3.out V ((hV.below hb4).base hb.size), fun V hV => HV4.out V (hV.base (Nat.le_trans hb.size hb3.size)), below_then (below_then hb hb3) hb4⟩

theorem ownN_one (w : World) (x : Int) {B : Nat} (hB : B ≤ w.heap.size) : OwnN B (w.alloc (.cells #[.int .u16 x] 205)) (some ⟨w.heap.size, 0, none⟩) 1 [x] :=
 BlkN.own (l := [x]) (Blk.new w _ _) hB (by simp [maxLen])
theorem div_last {n1 n2 q r : Nat} (h : n1 = q * n2 + r) (hr : r < n2) : q = n1 / n2 ∧ r = n1 % n2 := by
 subst h
 constructor
 · rw [Nat.mul_comm, Nat.mul_add_div (by omega), Nat.div_eq_of_lt hr, Nat.add_zero]
 · rw [Nat.mul_comm, Nat.mul_add_mod, Nat.mod_eq_of_lt hr]
set_option maxHeartbeats 2000000 in
theorem divMod01_big (l m : List Int) (n1 n2 : Nat) (a a' : Option Addr) (c c' : Nat) (w : World) (h : NatR w a c l) (h' : NatR w a' c' m) (hn : val l = n1) (hk : val m = n2) (hl : l.length ≤ 2000000) (hm : m.length ≤ 2000000)
  (h0 : 0 < n2) (hs : ¬ ((limbs n1).length ≤ 4 ∧ (limbs n2).length ≤ 4)) :
  Calls Tryz.prog 173 #[.slice a l.length c, .slice a' m.length c'] w (RetDM n1 n2 w) := by
 have H := Lib.hid h
 have H' := Lib.hid h'
 have C1 := norm01_any l a c w h (by omega)
 rw [hn] at C1
 replace C1 := Lib.hid C1
 have hne : ((limbs n2).length : Int) ≠ 0 := by have := limbs_len_pos.2 h0; omega
 have hbz : (((limbs n2).length : Int) == 0) = false := by simpa using hne
 have hL1 : (limbs n1).length ≤ 2000000 := by have := limbs_len_val h.u16; rw [hn] at this; omega
 have hL2 : (limbs n2).length ≤ 2000000 := by have := limbs_len_val h'.u16; rw [hk] at this; omega
 have HK := Lib.hid hk
 clear h h' hn hne hk
 have hcase : decide (((limbs n1).length : Int) ≤ 4) = true ∧ decide (((limbs n2).length : Int) ≤ 4) = false ∨ decide (((limbs n1).length : Int) ≤ 4) = false := by
  simp; omega
 clear hs
 go_enter Tryz.func173, Tryz.ntmps173
 go_wp2_with fail
 refine C1.out.mono ?_
 rintro e w1 ⟨a1, c1, rfl, hV1, hb1⟩
 have C2 := norm01_any m a' c' w1 (H'.out.ext (Ext.below hb1)) (by omega)
 rw [HK.out] at C2
 replace C2 := Lib.hid C2
 clear C1
 have HV1 := Lib.hid hV1
 clear hV1
 go_wp2_with fail
 refine C2.out.mono ?_
 rintro e w2 ⟨a2, c2, rfl, hV2, hb2⟩
 have hb := below_then hb1 hb2
 have HA := Lib.hid (HV1.out w2 ((New.refl _ w2).below hb2))
 have HM := Lib.hid (hV2 w2 (New.refl _ _))
 clear hV2 hb1 hb2 C2 HV1 H H' HK
 have hnb : ∃ b1 b2 : Bool, decide (((limbs n1).length : Int) ≤ 4) = b1 ∧ decide (((limbs n2).length : Int) ≤ 4) = b2 ∧ (b1 && b2) = false := ⟨_, _, rfl, rfl, by rcases hcase with ⟨h1, h2⟩ | h1 <;> simp [h1] <;> simp_all⟩
 rcases hcase with ⟨hc1, hc2⟩ | hc1
 all_goals
  go_wp2
  clear hnb
  go_loopw [7, 8, 9, 10] (fun sq sr i _ wr => ∃ (k : Nat) (ql : List Int) (rv : Nat) (aq : Option Addr) (cq : Nat) (ar : Option Addr) (cr : Nat), k ≤ (limbs n1).length ∧ i = .int .i64 ((k : Int) - 1) ∧ sq = .slice aq ql.length cq ∧ sr = .slice ar (limbs rv).length cr ∧
   Hid (∀ V, New w.heap.size wr V → NatR V aq cq ql) ∧ Hid (∀ V, New w.heap.size wr V → NatR V ar cr (limbs rv)) ∧ rv < n2 ∧ Below w.heap.size w wr ∧ Below w2.heap.size w2 wr ∧ Hid (val ((limbs n1).drop k) = val ql * n2 + rv) ∧ Hid (ql.length + k = (limbs n1).length)) (fun _ _ i _ _ => (intOf i + 1).toNat)
  case atStart => exact ⟨(limbs n1).length, [], 0, none, 0, none, 0, Nat.le_refl _, rfl, rfl, by rw [limbs_zero]; rfl, fun _ _ => SlR.nil, fun _ _ => by rw [limbs_zero]; exact SlR.nil, h0, hb, Below.refl _ _, by show _ = _; rw [val_drop_all (Nat.le_refl _)]; simp [val], by show _ = _; simp⟩
  case round =>
   clear hb
   obtain ⟨k, ql, rv, aq, cq, ar, cr, hk, rfl, rfl, rfl, HQ, HR, hrv, hb, hb2, hv, hlq⟩ := hrel
   by_cases hk0 : k = 0
   ·
    subst hk0
    have hfin : val ql = n1 / n2 ∧ rv = n1 % n2 := by
     have := hv.out
     simp only [List.drop_zero, val_limbs] at this
     exact div_last this hrv
    obtain ⟨hf1, hf2⟩ := hfin
    have CN := norm01_any ql aq cq wr (HQ.out wr (New.refl _ _)) (by have := hlq.out; omega)
    rw [hf1] at CN
    replace CN := Lib.hid CN
    have HF2 := Lib.hid hf2
    clear hf1 hf2
    go_wp2_with fail
    refine CN.out.mono ?_
    rintro e w3 ⟨a3, c3, rfl, hV3, hb3⟩
    have HV3 := Lib.hid hV3
    clear hV3 CN
    go_wp2
    go_ret3
    have e2 := HF2.out
    have hR := HR.out
    subst e2
    exact ⟨a3, c3, ar, cr, rfl, fun V hV => HV3.out V (hV.base hb.size), fun V hV => hR V (hV.below hb3), below_then hb hb3⟩
   ·
    have hgt : decide ((0 : Int) ≤ (k : Int) - 1) = true := by simp; omega
    have hge : (0 : Int) ≤ (k : Int) - 1 := by omega
    obtain ⟨x, hx⟩ := get_of_lt (xs := limbs n1) (k := k - 1) (by omega)
    obtain ⟨ba, oa, rfl, hcx⟩ := (HA.out.ext (Ext.below hb2)).cell hx
    obtain ⟨hx0, hx1⟩ := (limbs_u16 n1).get hx
    obtain ⟨N, hN⟩ : ∃ N, N = x.toNat + 65536 * rv := ⟨_, rfl⟩
    have hqd : N / n2 ≤ 65535 := by rw [hN]; exact div_digit (by omega) hrv
    have hqm : N = N / n2 * n2 + N % n2 := by rw [Nat.mul_comm]; exact (Nat.div_add_mod N n2).symm
    have hrm : N % n2 < n2 := Nat.mod_lt _ h0
    have hvd := div_step (limbs n1) ql (k - 1) n2 rv (N / n2) (N % n2) x hx (by rw [show k - 1 + 1 = k by omega]; exact hv.out) (by rw [← hN]; exact hqm)
    have hle : n2 * (N / n2) ≤ N := Nat.mul_div_le N n2
    have hsub : N - n2 * (N / n2) = N % n2 := by have := Nat.div_add_mod N n2; omega
    have hNl : (limbs N).length ≤ 2000001 := by
     refine Nat.le_trans (limbs_len_le (k := (limbs n2).length + 1) ?_) (by omega)
     have := lt_pow_limbs n2
     rw [Nat.pow_succ]
     omega
    obtain ⟨d, hd⟩ : ∃ d, N / n2 = d := ⟨_, rfl⟩
    obtain ⟨r2, hr2⟩ : ∃ r2, N % n2 = r2 := ⟨_, rfl⟩
    rw [hd] at hqd hqm hvd hle hsub
    rw [hr2] at hqm hrm hvd hsub
    have HD := Lib.hid hd
    clear hd hr2
    have hrl : (limbs rv).length ≤ 2000000 := Nat.le_trans (limbs_len_mono (Nat.le_of_lt hrv)) hL2
    have HVD := Lib.hid hvd
    have HSUB := Lib.hid hsub
    have HN := Lib.hid hN
    have HQM := Lib.hid hqm
    have HLE := Lib.hid hle
    have HL := Lib.hid hNl
    have HRL := Lib.hid hrl
    clear hx hN hvd hsub hqm hle hNl hrl
    go_wp2_with (at_builtin; go_must (refine append_nats (B := wr.heap.size) rfl (.tmp 49) (.tmp 50) rfl (some ⟨wr.heap.size, 0, none⟩) 1 (l := [x]) rfl (ownN_one wr x (Nat.le_refl _)) ar cr (m := limbs rv) rfl (HR.out _ ((New.refl _ _).unalloc)) (x :: limbs rv) rfl (by have := HRL.out; simp; omega) (by simp) ?_); intro a3 c3 w3 hown3 hg3 hbb3)
    have hb3 : Below wr.heap.size wr w3 := ((Below.refl _ wr).alloc (Nat.le_refl _) _).trans hbb3
    have hu3 : U16 (x :: limbs rv) := U16.cons ⟨hx0, hx1⟩ (limbs_u16 rv)
    have CN := norm01_any (x :: limbs rv) a3 c3 w3 (hown3.reads1 hu3) (by have := HRL.out; simp; omega)
    have ev : val (x :: limbs rv) = N := by rw [HN.out, val, val_limbs]
    rw [ev] at CN
    replace CN := Lib.hid CN
    clear hown3 hg3 hbb3 hu3 ev hcx
    refine CN.out.mono ?_
    rintro e w4 ⟨a4, c4, rfl, hV4, hb4⟩
    have HV4 := Lib.hid hV4
    replace hb4 := below_then hb3 hb4
    clear hV4 CN hb3
    have CD := digit01_any (limbs N) (limbs n2) N n2 a4 a2 c4 c2 w4 (HV4.out w4 (New.refl _ _)) (HM.out.ext (Ext.below (below_then hb2 hb4))) (val_limbs N) (val_limbs n2) (by have := HL.out; omega) (by omega) h0 (by rw [HD.out]; exact hqd)
    rw [HD.out] at CD
    replace CD := Lib.hid CD
    go_wp2_with fail
    refine CD.out.mono ?_
    rintro e w5 ⟨rfl, hb5⟩
    have hb45 := hb5
    replace hb5 := below_then hb4 hb5
    clear CD
    have hdd : (d : Int) ≤ 65535 := by omega
    go_wp2_with (at_builtin; go_must (refine append_nats (B := w5.heap.size) rfl (.tmp 58) (.tmp 59) rfl (some ⟨w5.heap.size, 0, none⟩) 1 (l := [(d : Int)]) rfl (ownN_one w5 d (Nat.le_refl _)) aq cq (m := ql) rfl (HQ.out _ ((New.refl _ _).unalloc.below hb5)) ((d : Int) :: ql) rfl (by have := hlq.out; simp; omega) (by simp) ?_); intro a6 c6 w6 hown6 hg6 hbb6)
    have hb56 : Below w5.heap.size w5 w6 := ((Below.refl _ w5).alloc (Nat.le_refl _) _).trans hbb6
    have hb6 := below_then hb5 hb56
    have hu6 : U16 ((d : Int) :: ql) := U16.cons (by omega) (HQ.out wr (New.refl _ _)).u16
    have HO6 := Lib.hid hown6
    clear hown6 hg6 hbb6
    have CO := of01_any d w6 (by omega)
    replace CO := Lib.hid CO
    refine CO.out.mono ?_
    rintro e w7 ⟨a7, c7, rfl, hV7, hb67⟩
    have hb7 := below_then hb6 hb67
    have CM := mul01_any (limbs n2) (limbs d) n2 d a2 a7 c2 c7 w7 (HM.out.ext (Ext.below (below_then hb2 hb7))) (hV7 w7 (New.refl _ _)) (val_limbs _) (val_limbs _) (by omega) (by have := limbs_len_le (n := d) (k := 1) (by omega); omega)
    replace CM := Lib.hid CM
    clear hV7 CO
    go_wp2_with fail
    refine CM.out.mono ?_
    rintro e w8 ⟨a8, c8, rfl, hV8, hb78⟩
    have hb8 := below_then hb7 hb78
    have hp8 : (limbs (n2 * d)).length ≤ 4000001 := by
     have h1 := limbs_len_mul n2 d
     have h2 := limbs_len_le (n := d) (k := 1) (by omega)
     omega
    have CS := sub01_any (limbs N) (limbs (n2 * d)) N (n2 * d) a4 a8 c4 c8 w8 (HV4.out w8 ((New.refl _ w8).below (below_then hb45 (below_then hb56 (below_then hb67 hb78))))) (hV8 w8 (New.refl _ _)) (val_limbs _) (val_limbs _) (by have := HL.out; omega) (by omega) HLE.out
    rw [HSUB.out] at CS
    replace CS := Lib.hid CS
    clear hV8 CM hp8
    go_wp2_with fail
    refine CS.out.mono ?_
    rintro e w9 ⟨a9, c9, rfl, hV9, hb89⟩
    have hb9 := below_then hb8 hb89
    have HV9 := Lib.hid hV9
    clear hV9 CS
    go_wp2
    go_roundw
    case rel => exact ⟨k - 1, (d : Int) :: ql, r2, a6, c6, a9, c9, by omega, by first | (congr 1; omega) | rfl, by simp, rfl,
     fun V hV => HO6.out.readsV ((hV.below (below_then hb67 (below_then hb78 hb89))).base (Nat.le_trans hb.size hb5.size)) hu6, fun V hV => HV9.out V (hV.base (Nat.le_trans hb.size hb8.size)), hrm, below_then hb hb9, below_then hb2 hb9, HVD.out, by have := hlq.out; show _ = _; simp; omega⟩
    case measure => simp [intOf]; omega
end Go.Proofs.YtaihkpjbnkgmlaaGreat

/- Walks of the reference's natural numbers: Gcd. -/
namespace Go.Proofs.YtaihkpjbnkgmlaaGreat
open Go.RowKit

theorem divMod01_any (l m : List Int) (n1 n2 : Nat) (a a' : Option Addr) (c c' : Nat) (w : World) (h : NatR w a c l) (h' : NatR w a' c' m) (hn : val l = n1) (hk : val m = n2) (hl : l.length ≤ 2000000) (hm : m.length ≤ 2000000)
  (h0 : 0 < n2) :
  Calls Tryz.prog 173 #[.slice a l.length c, .slice a' m.length c'] w (RetDM n1 n2 w) := by
 by_cases hs : (limbs n1).length ≤ 4 ∧ (limbs n2).length ≤ 4
 · exact divMod01_small l m n1 n2 a a' c c' w h h' hn hk hl hm h0 hs.1 hs.2
 · exact divMod01_big l m n1 n2 a a' c c' w h h' hn hk hl hm h0 hs

set_option maxHeartbeats 1000000 in
theorem gcd01_any (l m : List Int) (n1 n2 : Nat) (a a' : Option Addr) (c c' : Nat) (w : World) (h : NatR w a c l) (h' : NatR w a' c' m) (hn : val l = n1) (hk : val m = n2) (hl : l.length ≤ 2000000) (hm : m.length ≤ 2000000) :
  Calls Tryz.prog 105 #[.slice a l.length c, .slice a' m.length c'] w (RetN (limbs (Nat.gcd n1 n2)) w) := by
 have H := Lib.hid h
 have H' := Lib.hid h'
 have C1 := norm01_any l a c w h (by omega)
 rw [hn] at C1
 replace C1 := Lib.hid C1
 have hL1 : (limbs n1).length ≤ 2000000 := by have := limbs_len_val h.u16; rw [hn] at this; omega
 have hL2 : (limbs n2).length ≤ 2000000 := by have := limbs_len_val h'.u16; rw [hk] at this; omega
 have HK := Lib.hid hk
 clear h h' hn hk
 go_enter Tryz.func105, Tryz.ntmps105
 go_wp2_with fail
 refine C1.out.mono ?_
 rintro e w1 ⟨a1, c1, rfl, hV1, hb1⟩
 have C2 := norm01_any m a' c' w1 (H'.out.ext (Ext.below hb1)) (by omega)
 rw [HK.out] at C2
 replace C2 := Lib.hid C2
 have HV1 := Lib.hid hV1
 clear hV1 C1
 go_wp2_with fail
 refine C2.out.mono ?_
 rintro e w2 ⟨a2, c2, rfl, hV2, hb2⟩
 have hb := below_then hb1 hb2
 have HV2 := Lib.hid hV2
 clear hV2 C2 H H' HK
 go_wp2
 go_loopg [0, 1, 5, 6, 7] n2 (fun g sx sy _ _ _ wr => ∃ (x : Nat) (ax : Option Addr) (cx : Nat) (ay : Option Addr) (cy : Nat), sx = .slice ax (limbs x).length cx ∧ sy = .slice ay (limbs g).length cy ∧ (∀ V, New w.heap.size wr V → NatR V ax cx (limbs x)) ∧
  (∀ V, New w.heap.size wr V → NatR V ay cy (limbs g)) ∧ (limbs x).length ≤ 2000000 ∧ (limbs g).length ≤ 2000000 ∧ Below w.heap.size w wr ∧ Nat.gcd x g = Nat.gcd n1 n2)
 case atStart => exact ⟨n1, a1, c1, a2, c2, rfl, rfl, fun V hV => HV1.out V (hV.below hb2), fun V hV => HV2.out V (hV.base hb1.size), hL1, hL2, hb, rfl⟩
 case round =>
  obtain ⟨x, ax, cx, ay, cy, rfl, rfl, hx, hy, hlx, hly, hb', hg⟩ := hrel
  have HX := Lib.hid hx
  have HY := Lib.hid hy
  have HG := Lib.hid hg
  clear hx hy hg hb1 hb2 hb
  by_cases h0 : gk = 0
  ·
   subst h0
   have hgz : decide (0 < (limbs 0).length) = false := by rw [limbs_zero]; rfl
   have hX := HX.out
   have hgc : limbs (Nat.gcd n1 n2) = limbs x := by rw [← HG.out, Nat.gcd_zero_right]
   have HGC := Lib.hid hgc
   clear hgc
   replace hX := Lib.hid hX
   go_wp2
   go_ret
   rw [HGC.out]
   exact ⟨ax, cx, rfl, hX.out, hb'⟩
  ·
   have hgz : decide (0 < (limbs gk).length) = true := by have := limbs_len_pos (n := gk); simp; omega
   have CD := divMod01_any (limbs x) (limbs gk) x gk ax ay cx cy wr (HX.out wr (New.refl _ _)) (HY.out wr (New.refl _ _)) (val_limbs _) (val_limbs _) hlx hly (by omega)
   replace CD := Lib.hid CD
   have hr : x % gk < gk := Nat.mod_lt _ (by omega)
   have hgr : Nat.gcd gk (x % gk) = Nat.gcd n1 n2 := by rw [← HG.out, Nat.gcd_comm x gk, Nat.gcd_rec gk x, Nat.gcd_comm]
   have HGR := Lib.hid hgr
   have hlr : (limbs (x % gk)).length ≤ 2000000 := Nat.le_trans (limbs_len_mono (Nat.le_of_lt hr)) hly
   clear hgr
   go_wp2_with fail
   refine CD.out.mono ?_
   rintro e w3 ⟨a3, c3, a4, c4, rfl, hV3, hV4, hb3⟩
   have HV4 := Lib.hid hV4
   clear hV3 hV4 CD
   go_wp2
   go_roundg (x % gk)
   case rel => exact ⟨gk, ay, cy, a4, c4, rfl, rfl, fun V hV => HY.out V (hV.below hb3), fun V hV => HV4.out V (hV.base hb'.size), hly, hlr, below_then hb' hb3, HGR.out⟩
   case measure => exact hr
end Go.Proofs.YtaihkpjbnkgmlaaGreat

/- Walks: integers: of, made, Norm, Of; by the program and by the reference. -/
namespace Go.Proofs.YtaihkpjbnkgmlaaGreat
open Go.RowKit

/-- what a call gives that makes an integer -/
def RetZ (neg : Bool) (n : Nat) (w : World) (e : Ending) (w' : World) : Prop := ∃ a c, e = .returned (.agg #[.bool neg, .slice a (limbs n).length c]) ∧ (∀ V, New w.heap.size w' V → NatR V a c (limbs n)) ∧ Below w.heap.size w w'
theorem dec_pos (n : Nat) : decide (0 < (limbs n).length) = decide (0 < n) := by
 have := limbs_len_pos (n := n)
 rw [decide_eq_decide]
 omega
section
variable {w V : World} {g B B' : Nat} {t : TypeId} {x y z u v r : Value}
theorem back2 (h : New B ((w.setCell ⟨g, 0, none⟩ x).setCell ⟨g, 1, none⟩ y) V) (hB : B ≤ B') (hg : g < B') : New B' w V := ((h.base hB).unset hg).unset hg
theorem back3 (h : New B (((w.setCell ⟨g, 0, none⟩ x).setCell ⟨g, 1, none⟩ y).setCell ⟨g, 2, none⟩ z) V) (hB : B ≤ B') (hg : g < B') : New B' w V := (((h.base hB).unset hg).unset hg).unset hg
theorem blk2 (h : Blk w g t #[u, v]) : Blk ((w.setCell ⟨g, 0, none⟩ x).setCell ⟨g, 1, none⟩ y) g t #[x, y] := by have := (h.set_ 0 x).set_ 1 y; simpa using this
theorem blk3 (h : Blk w g t #[u, v, r]) : Blk (((w.setCell ⟨g, 0, none⟩ x).setCell ⟨g, 1, none⟩ y).setCell ⟨g, 2, none⟩ z) g t #[x, y, z] := by have := ((h.set_ 0 x).set_ 1 y).set_ 2 z; simpa using this
theorem below2 {w0 : World} (h : Below B w0 w) (hg : B ≤ g) : Below B w0 ((w.setCell ⟨g, 0, none⟩ x).setCell ⟨g, 1, none⟩ y) := (h.setCell (p := ⟨g, 0, none⟩) hg x).setCell (p := ⟨g, 1, none⟩) hg y
theorem below3 {w0 : World} (h : Below B w0 w) (hg : B ≤ g) : Below B w0 (((w.setCell ⟨g, 0, none⟩ x).setCell ⟨g, 1, none⟩ y).setCell ⟨g, 2, none⟩ z) := ((h.setCell (p := ⟨g, 0, none⟩) hg x).setCell (p := ⟨g, 1, none⟩) hg y).setCell (p := ⟨g, 2, none⟩) hg z
end

set_option maxRecDepth 100000 in
set_option maxHeartbeats 1000000 in
theorem zof_any (neg : Bool) (l : List Int) (n : Nat) (a : Option Addr) (c : Nat) (w : World) (h : NatR w a c l) (hn : val l = n) (hl : l.length ≤ 16777216) :
  Calls Tryz.prog 259 #[.bool neg, .slice a l.length c] w (RetZ (neg && decide (0 < n)) n w) := by
 have CN := fun W (hW : Below w.heap.size w W) => norm_any l a c W (h.ext (Ext.below hW)) hl
 rw [hn] at CN
 replace CN := Lib.hid CN
 have hd := dec_pos n
 obtain ⟨b, hb⟩ : ∃ b, decide (0 < n) = b := ⟨_, rfl⟩
 rw [hb] at hd ⊢
 have hz : Blk (w.alloc (.cells #[.bool false, .slice none 0 0] 41)) w.heap.size 41 #[.bool false, .slice none 0 0] := Blk.new w _ _
 have hb0 : Below w.heap.size w (w.alloc (.cells #[.bool false, .slice none 0 0] 41)) := (Below.refl _ _).alloc (Nat.le_refl _) _
 clear h hb
 cases neg
 ·
  rw [Bool.false_and]
  go_enter Tryz.func259, Tryz.ntmps259
  go_wp2_with fail
  have hgl := hz.lt
  revert hz hb0 hgl
  generalize w.alloc (.cells #[.bool false, .slice none 0 0] 41) = w0
  intro hz hb0 hgl
  refine (CN.out _ hb0).mono ?_
  rintro e w1 ⟨a1, c1, rfl, hV, hb1⟩
  have hw1 := below_then hb0 hb1
  have HV := Lib.hid hV
  have hz1 := hz.below' hb1
  have z0 := hz1.cell 0; have z1 := hz1.cell 1; have f0 := hz1.frozen 0; have f1 := hz1.frozen 1
  have hs0 := hb0.size
  clear hV hb0 hz
  go_wp2
  have hF := blk2 (x := .bool false) (y := .slice a1 (limbs n).length c1) hz1
  have e0 := hF.cell 0; have e1 := hF.cell 1
  refine bodyPost_ret (v := .agg #[.bool false, .slice a1 (limbs n).length c1]) (by simp [results, Tryz.results259, go_sem, e0, e1]) rfl ?_
  exact ⟨a1, c1, rfl, fun V hV => HV.out V (back2 hV hs0 hgl), below2 hw1 (Nat.le_refl _)⟩
 ·
  rw [Bool.true_and]
  go_enter Tryz.func259, Tryz.ntmps259
  go_wp2_with fail
  have hgl := hz.lt
  revert hz hb0 hgl
  generalize w.alloc (.cells #[.bool false, .slice none 0 0] 41) = w0
  intro hz hb0 hgl
  refine (CN.out _ hb0).mono ?_
  rintro e w1 ⟨a1, c1, rfl, hV, hb1⟩
  have hw1 := below_then hb0 hb1
  have HV := Lib.hid hV
  have hz1 := hz.below' hb1
  have z0 := hz1.cell 0; have z1 := hz1.cell 1; have f0 := hz1.frozen 0; have f1 := hz1.frozen 1
  have hs0 := hb0.size
  clear hV hb0 hz
  go_wp2
  have hF := blk2 (x := .bool b) (y := .slice a1 (limbs n).length c1) hz1
  have e0 := hF.cell 0; have e1 := hF.cell 1
  refine bodyPost_ret (v := .agg #[.bool b, .slice a1 (limbs n).length c1]) (by simp [results, Tryz.results259, go_sem, e0, e1]) rfl ?_
  exact ⟨a1, c1, rfl, fun V hV => HV.out V (back2 hV hs0 hgl), below2 hw1 (Nat.le_refl _)⟩
set_option maxRecDepth 100000 in
set_option maxHeartbeats 1000000 in
theorem zofR_any (neg : Bool) (l : List Int) (n : Nat) (a : Option Addr) (c : Nat) (w : World) (h : NatR w a c l) (hn : val l = n) (hl : l.length ≤ 16777216) :
  Calls Tryz.prog 175 #[.bool neg, .slice a l.length c] w (RetZ (neg && decide (0 < n)) n w) := by
 have CN := fun W (hW : Below w.heap.size w W) => norm01_any l a c W (h.ext (Ext.below hW)) hl
 rw [hn] at CN
 replace CN := Lib.hid CN
 have hd := dec_pos n
 obtain ⟨b, hb⟩ : ∃ b, decide (0 < n) = b := ⟨_, rfl⟩
 rw [hb] at hd ⊢
 have hz : Blk (w.alloc (.cells #[.bool false, .slice none 0 0] 41)) w.heap.size 41 #[.bool false, .slice none 0 0] := Blk.new w _ _
 have hb0 : Below w.heap.size w (w.alloc (.cells #[.bool false, .slice none 0 0] 41)) := (Below.refl _ _).alloc (Nat.le_refl _) _
 clear h hb
 cases neg
 ·
  rw [Bool.false_and]
  go_enter Tryz.func175, Tryz.ntmps175
  go_wp2_with fail
  have hgl := hz.lt
  revert hz hb0 hgl
  generalize w.alloc (.cells #[.bool false, .slice none 0 0] 41) = w0
  intro hz hb0 hgl
  refine (CN.out _ hb0).mono ?_
  rintro e w1 ⟨a1, c1, rfl, hV, hb1⟩
  have hw1 := below_then hb0 hb1
  have HV := Lib.hid hV
  have hz1 := hz.below' hb1
  have z0 := hz1.cell 0; have z1 := hz1.cell 1; have f0 := hz1.frozen 0; have f1 := hz1.frozen 1
  have hs0 := hb0.size
  clear hV hb0 hz
  go_wp2
  have hF := blk2 (x := .bool false) (y := .slice a1 (limbs n).length c1) hz1
  have e0 := hF.cell 0; have e1 := hF.cell 1
  refine bodyPost_ret (v := .agg #[.bool false, .slice a1 (limbs n).length c1]) (by simp [results, Tryz.results175, go_sem, e0, e1]) rfl ?_
  exact ⟨a1, c1, rfl, fun V hV => HV.out V (back2 hV hs0 hgl), below2 hw1 (Nat.le_refl _)⟩
 ·
  rw [Bool.true_and]
  go_enter Tryz.func175, Tryz.ntmps175
  go_wp2_with fail
  have hgl := hz.lt
  revert hz hb0 hgl
  generalize w.alloc (.cells #[.bool false, .slice none 0 0] 41) = w0
  intro hz hb0 hgl
  refine (CN.out _ hb0).mono ?_
  rintro e w1 ⟨a1, c1, rfl, hV, hb1⟩
  have hw1 := below_then hb0 hb1
  have HV := Lib.hid hV
  have hz1 := hz.below' hb1
  have z0 := hz1.cell 0; have z1 := hz1.cell 1; have f0 := hz1.frozen 0; have f1 := hz1.frozen 1
  have hs0 := hb0.size
  clear hV hb0 hz
  go_wp2
  have hF := blk2 (x := .bool b) (y := .slice a1 (limbs n).length c1) hz1
  have e0 := hF.cell 0; have e1 := hF.cell 1
  refine bodyPost_ret (v := .agg #[.bool b, .slice a1 (limbs n).length c1]) (by simp [results, Tryz.results175, go_sem, e0, e1]) rfl ?_
  exact ⟨a1, c1, rfl, fun V hV => HV.out V (back2 hV hs0 hgl), below2 hw1 (Nat.le_refl _)⟩
set_option maxRecDepth 100000 in
set_option maxHeartbeats 1000000 in
/-- the sign and the limbs as they are -/
theorem made_any (neg : Bool) (n : Nat) (a : Option Addr) (c : Nat) (w : World) :
  Calls Tryz.prog 166 #[.bool neg, .slice a (limbs n).length c] w fun e w' => e = .returned (.agg #[.bool (neg && decide (0 < n)), .slice a (limbs n).length c]) ∧ Below w.heap.size w w' := by
 have hd := dec_pos n
 obtain ⟨b, hb⟩ : ∃ b, decide (0 < n) = b := ⟨_, rfl⟩
 rw [hb] at hd ⊢
 clear hb
 cases neg
 ·
  rw [Bool.false_and]
  go_enter Tryz.func166, Tryz.ntmps166
  go_wp2
  have hF := Blk.new w 41 #[.bool false, .slice a (limbs n).length c]
  have e0 := hF.cell 0; have e1 := hF.cell 1
  refine bodyPost_ret (v := .agg #[.bool false, .slice a (limbs n).length c]) (by simp [results, Tryz.results166, go_sem]) rfl ?_
  exact ⟨rfl, (Below.refl _ _).alloc (Nat.le_refl _) _⟩
 ·
  rw [Bool.true_and]
  go_enter Tryz.func166, Tryz.ntmps166
  go_wp2
  have hF := Blk.new w 41 #[.bool b, .slice a (limbs n).length c]
  have e0 := hF.cell 0; have e1 := hF.cell 1
  refine bodyPost_ret (v := .agg #[.bool b, .slice a (limbs n).length c]) (by simp [results, Tryz.results166, go_sem]) rfl ?_
  exact ⟨rfl, (Below.refl _ _).alloc (Nat.le_refl _) _⟩
set_option maxRecDepth 100000 in
set_option maxHeartbeats 1000000 in
theorem znorm_any (neg : Bool) (l : List Int) (n : Nat) (a : Option Addr) (c : Nat) (w : World) (h : NatR w a c l) (hn : val l = n) (hl : l.length ≤ 16777216) :
  Calls Tryz.prog 188 #[.agg #[.bool neg, .slice a l.length c]] w (RetZ (neg && decide (0 < n)) n w) := by
 have CN := fun W (hW : Below w.heap.size w W) => zof_any neg l n a c W (h.ext (Ext.below hW)) hn hl
 replace CN := Lib.hid CN
 have hz : Blk ((w.alloc (.cells #[.bool neg, .slice a l.length c] 41)).alloc (.cells #[.bool false, .slice none 0 0] 41)) (w.heap.size + 1) 41 #[.bool false, .slice none 0 0] := blk_at1 w _ _ _
 have hb0 : Below w.heap.size w ((w.alloc (.cells #[.bool neg, .slice a l.length c] 41)).alloc (.cells #[.bool false, .slice none 0 0] 41)) := ((Below.refl _ _).alloc (Nat.le_refl _) _).alloc (by simp) _
 have hgB : w.heap.size ≤ w.heap.size + 1 := by omega
 have hgl := hz.lt
 clear h hn
 go_enter Tryz.func188, Tryz.ntmps188
 go_wp2_with fail
 revert hz hb0 hgl hgB
 generalize (w.alloc (.cells #[.bool neg, .slice a l.length c] 41)).alloc (.cells #[.bool false, .slice none 0 0] 41) = w0
 generalize w.heap.size + 1 = g
 intro hz hb0 hgB hgl
 refine (CN.out _ hb0).mono ?_
 rintro e w1 ⟨a1, c1, rfl, hV, hb1⟩
 have hw1 := below_then hb0 hb1
 have HV := Lib.hid hV
 have hz1 := hz.below' hb1
 have z0 := hz1.cell 0; have z1 := hz1.cell 1; have f0 := hz1.frozen 0; have f1 := hz1.frozen 1
 have hs0 := hb0.size
 clear hV hb0 hz
 go_wp2
 have hF := blk2 (x := .bool (neg && decide (0 < n))) (y := .slice a1 (limbs n).length c1) hz1
 have e0 := hF.cell 0; have e1 := hF.cell 1
 refine bodyPost_ret (v := .agg #[.bool (neg && decide (0 < n)), .slice a1 (limbs n).length c1]) (by simp [results, Tryz.results188, go_sem, e0, e1]) rfl ?_
 exact ⟨a1, c1, rfl, fun V hV => HV.out V (back2 hV hs0 hgl), below2 hw1 hgB⟩
set_option maxRecDepth 100000 in
set_option maxHeartbeats 1000000 in
theorem znormR_any (neg : Bool) (l : List Int) (n : Nat) (a : Option Addr) (c : Nat) (w : World) (h : NatR w a c l) (hn : val l = n) (hl : l.length ≤ 16777216) :
  Calls Tryz.prog 174 #[.agg #[.bool neg, .slice a l.length c]] w (RetZ (neg && decide (0 < n)) n w) := by
 have CN := fun W (hW : Below w.heap.size w W) => zofR_any neg l n a c W (h.ext (Ext.below hW)) hn hl
 replace CN := Lib.hid CN
 have hz : Blk ((w.alloc (.cells #[.bool neg, .slice a l.length c] 41)).alloc (.cells #[.bool false, .slice none 0 0] 41)) (w.heap.size + 1) 41 #[.bool false, .slice none 0 0] := blk_at1 w _ _ _
 have hb0 : Below w.heap.size w ((w.alloc (.cells #[.bool neg, .slice a l.length c] 41)).alloc (.cells #[.bool false, .slice none 0 0] 41)) := ((Below.refl _ _).alloc (Nat.le_refl _) _).alloc (by simp) _
 have hgB : w.heap.size ≤ w.heap.size + 1 := by omega
 have hgl := hz.lt
 clear h hn
 go_enter Tryz.func174, Tryz.ntmps174
 go_wp2_with fail
 revert hz hb0 hgl hgB
 generalize (w.alloc (.cells #[.bool neg, .slice a l.length c] 41)).alloc (.cells #[.bool false, .slice none 0 0] 41) = w0
 generalize w.heap.size + 1 = g
 intro hz hb0 hgB hgl
 refine (CN.out _ hb0).mono ?_
 rintro e w1 ⟨a1, c1, rfl, hV, hb1⟩
 have hw1 := below_then hb0 hb1
 have HV := Lib.hid hV
 have hz1 := hz.below' hb1
 have z0 := hz1.cell 0; have z1 := hz1.cell 1; have f0 := hz1.frozen 0; have f1 := hz1.frozen 1
 have hs0 := hb0.size
 clear hV hb0 hz
 go_wp2
 have hF := blk2 (x := .bool (neg && decide (0 < n))) (y := .slice a1 (limbs n).length c1) hz1
 have e0 := hF.cell 0; have e1 := hF.cell 1
 refine bodyPost_ret (v := .agg #[.bool (neg && decide (0 < n)), .slice a1 (limbs n).length c1]) (by simp [results, Tryz.results174, go_sem, e0, e1]) rfl ?_
 exact ⟨a1, c1, rfl, fun V hV => HV.out V (back2 hV hs0 hgl), below2 hw1 hgB⟩
set_option maxRecDepth 100000 in
set_option maxHeartbeats 1000000 in
theorem znegR_any (neg : Bool) (l : List Int) (n : Nat) (a : Option Addr) (c : Nat) (w : World) (h : NatR w a c l) (hn : val l = n) (hl : l.length ≤ 16777216) :
  Calls Tryz.prog 180 #[.agg #[.bool neg, .slice a l.length c]] w (RetZ (!neg && decide (0 < n)) n w) := by
 have CN := fun W (hW : Below w.heap.size w W) => zofR_any (!neg) l n a c W (h.ext (Ext.below hW)) hn hl
 replace CN := Lib.hid CN
 have hz : Blk ((w.alloc (.cells #[.bool neg, .slice a l.length c] 41)).alloc (.cells #[.bool false, .slice none 0 0] 41)) (w.heap.size + 1) 41 #[.bool false, .slice none 0 0] := blk_at1 w _ _ _
 have hb0 : Below w.heap.size w ((w.alloc (.cells #[.bool neg, .slice a l.length c] 41)).alloc (.cells #[.bool false, .slice none 0 0] 41)) := ((Below.refl _ _).alloc (Nat.le_refl _) _).alloc (by simp) _
 have hgB : w.heap.size ≤ w.heap.size + 1 := by omega
 have hgl := hz.lt
 clear h hn
 go_enter Tryz.func180, Tryz.ntmps180
 go_wp2_with fail
 revert hz hb0 hgl hgB
 generalize (w.alloc (.cells #[.bool neg, .slice a l.length c] 41)).alloc (.cells #[.bool false, .slice none 0 0] 41) = w0
 generalize w.heap.size + 1 = g
 intro hz hb0 hgB hgl
 refine (CN.out _ hb0).mono ?_
 rintro e w1 ⟨a1, c1, rfl, hV, hb1⟩
 have hw1 := below_then hb0 hb1
 have HV := Lib.hid hV
 have hz1 := hz.below' hb1
 have z0 := hz1.cell 0; have z1 := hz1.cell 1; have f0 := hz1.frozen 0; have f1 := hz1.frozen 1
 have hs0 := hb0.size
 clear hV hb0 hz
 go_wp2
 have hF := blk2 (x := .bool ((!neg) && decide (0 < n))) (y := .slice a1 (limbs n).length c1) hz1
 have e0 := hF.cell 0; have e1 := hF.cell 1
 refine bodyPost_ret (v := .agg #[.bool ((!neg) && decide (0 < n)), .slice a1 (limbs n).length c1]) (by simp [results, Tryz.results180, go_sem, e0, e1]) rfl ?_
 exact ⟨a1, c1, rfl, fun V hV => HV.out V (back2 hV hs0 hgl), below2 hw1 hgB⟩
end Go.Proofs.YtaihkpjbnkgmlaaGreat

/- math/bits.Len16, laid at this program. -/
namespace Go.Proofs
open Go.Shelf
def Tryz.lays127_ren : Go.Shelf.Ren := ⟨fun | 127 => 258 | n => n, fun | 49 => 205 | 3 => 3 | 4 => 4 | 46 => 93 | 5 => 5 | 9 => 9 | n => n, fun | n => n⟩
theorem Tryz.lays127 : Go.Proofs.Lays.n127 Tryz.prog Tryz.lays127_ren := {
  mixed := by kernel_rfl
  f127 := Tryz.func258.trans (congrArg some (by kernel_rfl))
  t3 := Tryz.underlying3
  a3 := Tryz.isAgg3
  z3 := Tryz.sizeOf3
  v3 := Tryz.zeroValue3
  t4 := Tryz.underlying4
  a4 := Tryz.isAgg4
  z4 := Tryz.sizeOf4
  v4 := Tryz.zeroValue4
  t5 := Tryz.underlying5
  a5 := Tryz.isAgg5
  z5 := Tryz.sizeOf5
  v5 := Tryz.zeroValue5
  t9 := Tryz.underlying9
  a9 := Tryz.isAgg9
  z9 := Tryz.sizeOf9
  v9 := Tryz.zeroValue9
  t46 := Tryz.underlying93
  a46 := Tryz.isAgg93
  z46 := Tryz.sizeOf93
  v46 := Tryz.zeroValue93
  t49 := Tryz.underlying205
  a49 := Tryz.isAgg205
  z49 := Tryz.sizeOf205
  v49 := Tryz.zeroValue205 }
end Go.Proofs
namespace Go.Proofs.YtaihkpjbnkgmlaaGreat
theorem len16_any (x : Nat) (w : World) (h1 : x ≤ 65535) :
  Calls Tryz.prog 258 #[.int .u16 x] w fun e w' => e = .returned (.int .i64 (Lib.bitLen x : Int)) ∧ w' = w := by
 have := Any.bits_Len16 Tryz.lays127 (x : Int) w (by omega) (by omega)
 rw [Int.toNat_natCast] at this
 exact this
end Go.Proofs.YtaihkpjbnkgmlaaGreat
