/- Shifts of limbs by bits, plain. No function of the program in sight. -/
import Derived.Test.YtckfemfbpnieaaaDt3

/- A list whose middle is replaced from the left on. No function of the program in sight. -/
namespace Go.Proofs.Ytckfemfbpnieaaa

/-- L, from place j on the list o -/
def midL (L o : List Int) (j : Nat) : List Int := L.take j ++ o ++ L.drop (j + o.length)
section
variable {L o : List Int} {j : Nat}
theorem midL_nil (L : List Int) (j : Nat) : midL L [] j = L := by simp [midL]
theorem midL_len (h : j + o.length ≤ L.length) : (midL L o j).length = L.length := by simp [midL]; omega
theorem midL_get (h : j + o.length < L.length) : (midL L o j)[j + o.length]? = L[j + o.length]? := by
  unfold midL
  rw [List.getElem?_append_right (by simp; omega)]
  have e : (L.take j ++ o).length = j + o.length := by simp; omega
  rw [e, Nat.sub_self, List.getElem?_drop, Nat.add_zero]
theorem midL_set (h : j + o.length < L.length) (x : Int) : (midL L o j).set (j + o.length) x = midL L (o ++ [x]) j := by
  unfold midL
  have e : (L.take j ++ o).length = j + o.length := by simp; omega
  rw [List.set_append_right _ _ (by omega), e, Nat.sub_self, List.drop_eq_getElem_cons h, List.set_cons_zero]
  simp [Nat.add_assoc]
theorem midL_u16 (hL : U16 L) (ho : U16 o) : U16 (midL L o j) := ((hL.take _).app ho).app (hL.drop _)
theorem midL_drop (h : j + o.length ≤ L.length) : (midL L o j).drop j = o ++ L.drop (j + o.length) := by
  unfold midL
  have e : (L.take j).length = j := by simp; omega
  rw [List.append_assoc, List.drop_append, e, Nat.sub_self, List.drop_zero, List.drop_eq_nil_of_le (by omega), List.nil_append]
theorem midL_take (h : j + o.length ≤ L.length) : (midL L o j).take j = L.take j := by
  unfold midL
  have e : (L.take j).length = j := by simp; omega
  rw [List.append_assoc, List.take_append, e, Nat.sub_self, List.take_zero, List.append_nil, List.take_take, Nat.min_self]
theorem midL_seg (h : j + o.length ≤ L.length) : ((midL L o j).drop j).take o.length = o := by
  rw [midL_drop h, List.take_append_of_le_length (Nat.le_refl _), List.take_length]
/-- the middle is replaced a second time -/
theorem midL_mid {o2 : List Int} (h : j + o.length ≤ L.length) (h2 : o2.length = o.length) : midL (midL L o j) o2 j = midL L o2 j := by
  unfold midL
  have e : (L.take j).length = j := by simp; omega
  have e2 : (L.take j ++ o).length = j + o.length := by simp; omega
  congr 1
  · congr 1
    have := midL_take (L := L) (o := o) h
    unfold midL at this
    exact this
  · rw [h2, List.drop_append, e2, Nat.sub_self, List.drop_zero, List.drop_eq_nil_of_le (by omega), List.nil_append]
end
theorem limbAt_seg {L : List Int} {j n k : Nat} (hk : k < n) : limbAt ((L.drop j).take n) k = limbAt L (j + k) := by
  rw [limbAt_take hk, limbAt_drop]

/-- one digit of the long division: the part from j on is replaced by what is left of it -/
theorem long_step {L v o O : List Int} {U n j : Nat} {q : Nat} (hv : U16 v) (hvl : v.length = n) (hjl : j + n < L.length) (hol : o.length = n + 1) (hO : O.length = L.length - n)
    (hlt : val (L.drop (j + 1)) < val v) (hU : U = val (O.drop (j + 1)) * (65536 ^ (j + 1) * val v) + val L)
    (hq : q = val ((L.drop j).take (n + 1)) / val v) (ho : val o = val ((L.drop j).take (n + 1)) % val v) :
    val ((midL L o j).drop j) < val v ∧ U = val ((O.set j (q : Int)).drop j) * (65536 ^ j * val v) + val (midL L o j) := by
  obtain ⟨h1, h2, h3⟩ := seg_val hv hvl hjl hlt
  have hV : 0 < val v := by omega
  have hd := midL_drop (L := L) (o := o) (j := j) (by omega)
  have e1 : val ((midL L o j).drop j) = val o := by
    rw [hd, val_append, hol]
    rw [List.drop_drop, show j + (n + 1) = j + (n + 1) by rfl] at h2
    rw [h2, Nat.mul_zero, Nat.add_zero]
  have hjO : j < O.length := by omega
  have l1 : (L.take j).length = j := by simp; omega
  have e2 := val_split L j
  have e3 := val_split (midL L o j) j
  rw [midL_take (by omega), l1, e1] at e3
  rw [l1, h1] at e2
  have e4 : val ((O.set j (q : Int)).drop j) = q + 65536 * val (O.drop (j + 1)) := by
    have g : (O.set j (q : Int))[j]? = some (q : Int) := by simp [hjO]
    rw [val_drop g, List.drop_set_of_lt (by omega)]
    simp
  refine ⟨by rw [e1, ho]; exact Nat.mod_lt _ hV, ?_⟩
  rw [hU, e4, e3, e2]
  have e5 := div_sum (val ((L.drop j).take (n + 1))) (val v)
  rw [← hq, ← ho] at e5
  rw [e5]
  generalize val (O.drop (j + 1)) = A
  generalize val v = V
  generalize val (L.take j) = B
  generalize val o = R
  rw [Nat.pow_succ, Nat.add_mul, Nat.mul_add (65536 ^ j)]
  have e6 : A * (65536 ^ j * 65536 * V) = 65536 * A * (65536 ^ j * V) := by
    rw [Nat.mul_comm (65536 ^ j) 65536, Nat.mul_assoc 65536 (65536 ^ j), ← Nat.mul_assoc A 65536, Nat.mul_comm A 65536]
  have e7 : 65536 ^ j * (q * V) = q * (65536 ^ j * V) := by rw [← Nat.mul_assoc, Nat.mul_comm (65536 ^ j) q, Nat.mul_assoc]
  rw [e6, e7]
  omega
theorem long_done {L v O : List Int} {U : Nat} (hlt : val (L.drop 0) < val v) (hU : U = val (O.drop 0) * (65536 ^ 0 * val v) + val L) : val O = U / val v ∧ val L = U % val v := by
  rw [List.drop_zero] at hlt hU
  rw [Nat.pow_zero, Nat.one_mul] at hU
  subst hU
  constructor
  · rw [Nat.mul_comm, Nat.mul_add_div (by omega), Nat.div_eq_of_lt hlt, Nat.add_zero]
  · rw [Nat.mul_comm, Nat.mul_add_mod, Nat.mod_eq_of_lt hlt]
/-- adding back where the guess was one too great -/
theorem back_val {s q V o o2 c P : Nat} (h1 : s + P = q * V + o) (h2 : o2 + P * c = o + V) (ho : o < P) (ho2 : o2 < P) (hq : q = s / V + 1) (hV : 0 < V) (hVP : V < P) : o2 = s % V := by
  subst hq
  have e := div_sum s V
  have hm := Nat.mod_lt s hV
  rw [Nat.add_mul, Nat.one_mul] at h1
  have h3 : o2 + P * c = s % V + P := by omega
  have hc : c = 0 ∨ c = 1 ∨ 2 ≤ c := by omega
  rcases hc with rfl | rfl | hc
  · omega
  · omega
  · have := Nat.mul_le_mul_left P hc
    omega
end Go.Proofs.Ytckfemfbpnieaaa

/- Walks: the program's natural numbers: subtract, restore. -/
namespace Go.Proofs.Ytckfemfbpnieaaa
open Go.RowKit

set_option maxRecDepth 100000 in
set_option maxHeartbeats 4000000 in
/-- a multiple of v is subtracted from the limbs j .. j + n of a row -/
theorem subtract_any (L v : List Int) (r : List Value) (g j n q cu : Nat) (av : Option Addr) (cv : Nat) (w : World) (hR : RowN w g L r) (hU : U16 L) (hj : j + n + 1 ≤ L.length)
    (hv : NatR w av cv v) (hvl : v.length = n) (hvg : ∀ p, av = some p → p.block ≠ g) (hq : q ≤ 65535) (hcu : n + 1 ≤ cu) (hcu2 : cu ≤ maxLen) :
    Calls Try.prog 97 #[.slice (some ⟨g, j, none⟩) (n + 1) cu, .slice av v.length cv, .int .u32 q] w fun e w' => ∃ (o : List Int) (b : Nat), e = .returned (.bool (decide (b = 1))) ∧
      RowN w' g (midL L o j) r ∧ U16 o ∧ o.length = n + 1 ∧ b ≤ 1 ∧ val ((L.drop j).take (n + 1)) + 65536 ^ (n + 1) * b = q * val v + val o ∧ (b = 1 ↔ val ((L.drop j).take (n + 1)) < q * val v) ∧ w.grownBy w' (some g) := by
  have HV := Lib.hid hv
  have HVG := Lib.hid hvg
  have huv := hv.u16
  have hlv := hv.len
  have hsl : ((L.drop j).take (n + 1)).length = n + 1 := by simp; omega
  have hsa : ∀ k, k < n + 1 → limbAt ((L.drop j).take (n + 1)) k = limbAt L (j + k) := fun k hk => limbAt_seg hk
  revert hsl hsa
  generalize (L.drop j).take (n + 1) = sg
  intro hsl hsa
  have HSL := Lib.hid hsl
  have HSA := Lib.hid hsa
  have HVL := Lib.hid hvl
  have HR0 := Lib.hid hR
  have hlvn : v.length < n + 1 := by omega
  unfold maxLen at hcu2
  clear hv hvg hsl hsa hvl hR
  go_enter Try.func97, Try.ntmps97
  go_wp2
  obtain ⟨wo, rfl⟩ : ∃ wo : World, wo = w := ⟨_, rfl⟩
  go_loopg [7, 8, 9, 10, 13] (n + 1) (fun m s7 s8 _ _ s13 wr => ∃ (k c b : Nat) (o : List Int), k + m = n + 1 ∧ s13 = .int .i64 k ∧ s7 = .int .u32 c ∧ s8 = .int .i32 b ∧ b ≤ 1 ∧ c ≤ 65535 ∧ Hid (k = n + 1 → c = 0) ∧ Hid (o.length = k) ∧ U16 o ∧
    RowN wr g (midL L o j) r ∧ wo.grownBy wr (some g) ∧ Hid (val (sg.take k) + 65536 ^ k * (c + b) = q * val (v.take k) + val o))
  case atStart => exact ⟨0, 0, 0, [], by omega, rfl, rfl, rfl, by omega, by omega, fun h => by omega, rfl, U16.nil, by rw [midL_nil]; exact HR0.out, but_refl _ _, by show _ = _; simp [val]⟩
  case round =>
    obtain ⟨k, cc, bb, o, hkm, rfl, rfl, rfl, hb1, hc1, hcz, hol, hou, hrow, hgr, hval⟩ := hrel
    have HROW := Lib.hid hrow
    have HKM := Lib.hid hkm
    clear hrow hkm
    by_cases hlt : k < n + 1
    · obtain ⟨x, hx⟩ := get_of_lt (xs := L) (k := j + k) (by omega)
      obtain ⟨hx0, hx1⟩ := hU.get hx
      have hmg : (midL L o j)[j + k]? = some x := by
        have := midL_get (L := L) (o := o) (j := j) (by rw [hol.out]; omega)
        rw [hol.out] at this
        rw [this, hx]
      have hcell := HROW.out.cell hmg
      have hfr := HROW.out.frozen (j + k)
      have hsx : limbAt sg k = x := by rw [HSA.out k hlt, limbAt_some hx]
      have HSX := Lib.hid hsx
      clear hmg hx hsx
      obtain ⟨y, rfl⟩ : ∃ y : Nat, x = (y : Int) := ⟨x.toNat, by omega⟩
      have hset := fun z : Int => HROW.out.set_ (i := j + k) (by rw [midL_len (by rw [hol.out]; omega)]; omega) z
      have hset2 : ∀ z : Int, RowN (wr.setCell ⟨g, j + k, none⟩ (.int .u16 z)) g (midL L (o ++ [z]) j) r := fun z => by
        have h1 := midL_set (L := L) (o := o) (j := j) (by rw [hol.out]; omega) z
        rw [hol.out] at h1
        rw [← h1]
        exact hset z
      have HSET := Lib.hid hset2
      have hstep := fun c2 b2 x p lo h1 h2 h3 => mulsub_step sg v o k q cc bb c2 b2 x p lo hol.out hval.out h1 h2 h3
      rw [HSX.out, Int.toNat_natCast] at hstep
      have HSTEP := Lib.hid hstep
      clear hset hset2 hstep hval HSX hlv
      by_cases hkn : k < v.length
      · obtain ⟨z, hz⟩ := get_of_lt hkn
        obtain ⟨bv, ov, rfl, hcv⟩ := HV.out.cell hz
        obtain ⟨hz0, hz1⟩ := huv.get hz
        have hcv2 : wr.cell? ⟨bv, ov + k, none⟩ = some (.int .u16 z) := hgr.cell hcv (fun e => HVG.out _ rfl (by injection e))
        obtain ⟨t, rfl⟩ : ∃ t : Nat, z = (t : Int) := ⟨z.toNat, by omega⟩
        have hzl := limbAt_some hz
        have hp : q * t ≤ 65535 * 65535 := Nat.mul_le_mul hq (by omega)
        have hpi : (q : Int) * (t : Int) = ((q * t : Nat) : Int) := by simp
        have HST := HSTEP.out
        rw [hzl, Int.toNat_natCast] at HST
        have HVL2 := HVL.out
        revert hp hpi HST
        generalize q * t = P
        intro hp hpi HST
        obtain ⟨lo, hlo⟩ : ∃ lo, (cc + P) % 65536 = lo := ⟨_, rfl⟩
        obtain ⟨c2, hc2⟩ : ∃ c2, (cc + P) / 65536 = c2 := ⟨_, rfl⟩
        have hw1 : IntKind.u16.wrap ((cc : Int) + (P : Int)) = (lo : Int) := by
          have := wrap16 (cc + P)
          rw [hlo] at this
          rw [← this]
          simp
        have hw2 : ((cc : Int) + (P : Int)) / 65536 = (c2 : Int) := by omega
        have hlo1 : lo ≤ 65535 := by omega
        have hc21 : c2 ≤ 65535 := by omega
        have hpl : cc + P = lo + 65536 * c2 := by omega
        have HCZ : Hid (k + 1 ≠ n + 1) := Lib.hid (by omega)
        clear hcv hz hzl hlo hc2 HVL2
        by_cases hneg : (y : Int) - lo - bb < 0
        · obtain ⟨x, hx⟩ : ∃ x : Nat, (y : Int) - lo - bb + 65536 = (x : Int) := ⟨((y : Int) - lo - bb + 65536).toNat, by omega⟩
          replace HST := Lib.hid (HST c2 1 x (cc + P) lo rfl hpl (by omega))
          have hx65 : x ≤ 65535 := by omega
          clear hpl
          go_wp2
          go_roundg (gk - 1)
          case rel => exact ⟨k + 1, c2, 1, o ++ [(x : Int)], by have := HKM.out; omega, by go_num, rfl, rfl, by omega, by omega, fun e => by have := HCZ.out; omega, by show _ = _; rw [List.length_append, hol.out]; rfl, hou.app (U16.cons (by omega) U16.nil), HSET.out x, but_set hgr _ _, HST.out⟩
          case measure => have := HKM.out; omega
        · obtain ⟨x, hx⟩ : ∃ x : Nat, (y : Int) - lo - bb = (x : Int) := ⟨((y : Int) - lo - bb).toNat, by omega⟩
          replace HST := Lib.hid (HST c2 0 x (cc + P) lo rfl hpl (by omega))
          have hx65 : x ≤ 65535 := by omega
          clear hpl
          go_wp2
          go_roundg (gk - 1)
          case rel => exact ⟨k + 1, c2, 0, o ++ [(x : Int)], by have := HKM.out; omega, by go_num, rfl, rfl, by omega, by omega, fun e => by have := HCZ.out; omega, by show _ = _; rw [List.length_append, hol.out]; rfl, hou.app (U16.cons (by omega) U16.nil), HSET.out x, but_set hgr _ _, HST.out⟩
          case measure => have := HKM.out; omega
      · have HST := HSTEP.out
        rw [limbAt_none (by omega)] at HST
        obtain ⟨c2, hc2⟩ : ∃ c2 : Nat, c2 = 0 := ⟨_, rfl⟩
        have hw2 : (cc : Int) / 65536 = (c2 : Int) := by omega
        have hc21 : c2 ≤ 65535 := by omega
        have HCZ : Hid (c2 = 0) := Lib.hid hc2
        have hpl : cc + q * (0 : Int).toNat = cc + 65536 * c2 := by simp [hc2]
        clear hc2
        by_cases hneg : (y : Int) - cc - bb < 0
        · obtain ⟨x, hx⟩ : ∃ x : Nat, (y : Int) - cc - bb + 65536 = (x : Int) := ⟨((y : Int) - cc - bb + 65536).toNat, by omega⟩
          replace HST := Lib.hid (HST c2 1 x _ cc rfl hpl (by omega))
          have hx65 : x ≤ 65535 := by omega
          clear hpl
          go_wp2
          go_roundg (gk - 1)
          case rel => exact ⟨k + 1, c2, 1, o ++ [(x : Int)], by have := HKM.out; omega, by go_num, rfl, rfl, by omega, by omega, fun e => by have := HCZ.out; omega, by show _ = _; rw [List.length_append, hol.out]; rfl, hou.app (U16.cons (by omega) U16.nil), HSET.out x, but_set hgr _ _, HST.out⟩
          case measure => have := HKM.out; omega
        · obtain ⟨x, hx⟩ : ∃ x : Nat, (y : Int) - cc - bb = (x : Int) := ⟨((y : Int) - cc - bb).toNat, by omega⟩
          replace HST := Lib.hid (HST c2 0 x _ cc rfl hpl (by omega))
          have hx65 : x ≤ 65535 := by omega
          clear hpl
          go_wp2
          go_roundg (gk - 1)
          case rel => exact ⟨k + 1, c2, 0, o ++ [(x : Int)], by have := HKM.out; omega, by go_num, rfl, rfl, by omega, by omega, fun e => by have := HCZ.out; omega, by show _ = _; rw [List.length_append, hol.out]; rfl, hou.app (U16.cons (by omega) U16.nil), HSET.out x, but_set hgr _ _, HST.out⟩
          case measure => have := HKM.out; omega
    · have hke : k = n + 1 := by have := HKM.out; omega
      have hfin := mulsub_end hou HSL.out HVL.out (by rw [hol.out]; exact hke) hb1 (by have := hval.out; rw [hke] at this; exact this) (hcz.out hke)
      have HFIN := Lib.hid hfin
      clear hfin
      go_wp2
      go_ret
      refine ⟨o, bb, ret_bool ?_, HROW.out, hou, by rw [hol.out]; exact hke, hb1, HFIN.out.1, HFIN.out.2, hgr⟩
      rw [decide_eq_decide]
      omega

set_option maxRecDepth 100000 in
set_option maxHeartbeats 4000000 in
/-- v is added to the limbs j .. j + n of a row -/
theorem restore_any (L v : List Int) (r : List Value) (g j n cu : Nat) (av : Option Addr) (cv : Nat) (w : World) (hR : RowN w g L r) (hU : U16 L) (hj : j + n + 1 ≤ L.length)
    (hv : NatR w av cv v) (hvl : v.length = n) (hvg : ∀ p, av = some p → p.block ≠ g) (hcu : n + 1 ≤ cu) (hcu2 : cu ≤ maxLen) :
    Calls Try.prog 98 #[.slice (some ⟨g, j, none⟩) (n + 1) cu, .slice av v.length cv] w fun e w' => ∃ (o : List Int) (c : Nat), e = .returned (.tuple #[]) ∧
      RowN w' g (midL L o j) r ∧ U16 o ∧ o.length = n + 1 ∧ val o + 65536 ^ (n + 1) * c = val ((L.drop j).take (n + 1)) + val v ∧ w.grownBy w' (some g) := by
  have HV := Lib.hid hv
  have HVG := Lib.hid hvg
  have huv := hv.u16
  have hlv := hv.len
  have hsl : ((L.drop j).take (n + 1)).length = n + 1 := by simp; omega
  have hsa : ∀ k, k < n + 1 → limbAt ((L.drop j).take (n + 1)) k = limbAt L (j + k) := fun k hk => limbAt_seg hk
  revert hsl hsa
  generalize (L.drop j).take (n + 1) = sg
  intro hsl hsa
  have HSL := Lib.hid hsl
  have HSA := Lib.hid hsa
  have HVL := Lib.hid hvl
  have HR0 := Lib.hid hR
  have hlvn : v.length < n + 1 := by omega
  unfold maxLen at hcu2
  clear hv hvg hsl hsa hvl hR
  go_enter Try.func98, Try.ntmps98
  go_wp2
  obtain ⟨wo, rfl⟩ : ∃ wo : World, wo = w := ⟨_, rfl⟩
  go_loopg [4, 5, 8] (n + 1) (fun m s4 _ s8 wr => ∃ (k c : Nat) (o : List Int), k + m = n + 1 ∧ s8 = .int .i64 k ∧ s4 = .int .u32 c ∧ c ≤ 1 ∧ Hid (o.length = k) ∧ U16 o ∧
    RowN wr g (midL L o j) r ∧ wo.grownBy wr (some g) ∧ Hid (val o + 65536 ^ k * c = val (sg.take k) + val (v.take k)))
  case atStart => exact ⟨0, 0, [], by omega, rfl, rfl, by omega, rfl, U16.nil, by rw [midL_nil]; exact HR0.out, but_refl _ _, by show _ = _; simp [val]⟩
  case round =>
    obtain ⟨k, cc, o, hkm, rfl, rfl, hc1, hol, hou, hrow, hgr, hval⟩ := hrel
    have HROW := Lib.hid hrow
    have HKM := Lib.hid hkm
    clear hrow hkm
    by_cases hlt : k < n + 1
    · obtain ⟨x, hx⟩ := get_of_lt (xs := L) (k := j + k) (by omega)
      obtain ⟨hx0, hx1⟩ := hU.get hx
      have hmg : (midL L o j)[j + k]? = some x := by
        have := midL_get (L := L) (o := o) (j := j) (by rw [hol.out]; omega)
        rw [hol.out] at this
        rw [this, hx]
      have hcell := HROW.out.cell hmg
      have hfr := HROW.out.frozen (j + k)
      have hsx : limbAt sg k = x := by rw [HSA.out k hlt, limbAt_some hx]
      have HSX := Lib.hid hsx
      clear hmg hx hsx
      obtain ⟨y, rfl⟩ : ∃ y : Nat, x = (y : Int) := ⟨x.toNat, by omega⟩
      have hset := fun z : Int => HROW.out.set_ (i := j + k) (by rw [midL_len (by rw [hol.out]; omega)]; omega) z
      have hset2 : ∀ z : Int, RowN (wr.setCell ⟨g, j + k, none⟩ (.int .u16 z)) g (midL L (o ++ [z]) j) r := fun z => by
        have h1 := midL_set (L := L) (o := o) (j := j) (by rw [hol.out]; omega) z
        rw [hol.out] at h1
        rw [← h1]
        exact hset z
      have HSET := Lib.hid hset2
      have hstep := fun c2 d h1 => add_step sg v o k cc c2 d hol.out hval.out h1
      rw [HSX.out, Int.toNat_natCast] at hstep
      have HSTEP := Lib.hid hstep
      clear hset hset2 hstep hval HSX hlv
      by_cases hkn : k < v.length
      · obtain ⟨z, hz⟩ := get_of_lt hkn
        obtain ⟨bv, ov, rfl, hcv⟩ := HV.out.cell hz
        obtain ⟨hz0, hz1⟩ := huv.get hz
        have hcv2 : wr.cell? ⟨bv, ov + k, none⟩ = some (.int .u16 z) := hgr.cell hcv (fun e => HVG.out _ rfl (by injection e))
        obtain ⟨t, rfl⟩ : ∃ t : Nat, z = (t : Int) := ⟨z.toNat, by omega⟩
        have hzl := limbAt_some hz
        have HST := HSTEP.out
        rw [hzl, Int.toNat_natCast] at HST
        obtain ⟨lo, hlo⟩ : ∃ lo, (cc + y + t) % 65536 = lo := ⟨_, rfl⟩
        obtain ⟨c2, hc2⟩ : ∃ c2, (cc + y + t) / 65536 = c2 := ⟨_, rfl⟩
        have hw1 : IntKind.u16.wrap ((cc : Int) + (y : Int) + (t : Int)) = (lo : Int) := by
          have := wrap16 (cc + y + t)
          rw [hlo] at this
          rw [← this]
          simp
        have hw2 : ((cc : Int) + (y : Int) + (t : Int)) / 65536 = (c2 : Int) := by omega
        have hlo1 : lo ≤ 65535 := by omega
        have hc21 : c2 ≤ 1 := by omega
        replace HST := Lib.hid (HST c2 lo (by omega))
        clear hcv hz hzl hlo hc2
        go_wp2
        go_roundg (gk - 1)
        case rel => exact ⟨k + 1, c2, o ++ [(lo : Int)], by have := HKM.out; omega, by go_num, rfl, by omega, by show _ = _; rw [List.length_append, hol.out]; rfl, hou.app (U16.cons (by omega) U16.nil), HSET.out lo, but_set hgr _ _, HST.out⟩
        case measure => have := HKM.out; omega
      · have HST := HSTEP.out
        rw [limbAt_none (by omega)] at HST
        obtain ⟨lo, hlo⟩ : ∃ lo, (cc + y) % 65536 = lo := ⟨_, rfl⟩
        obtain ⟨c2, hc2⟩ : ∃ c2, (cc + y) / 65536 = c2 := ⟨_, rfl⟩
        have hw1 : IntKind.u16.wrap ((cc : Int) + (y : Int)) = (lo : Int) := by
          have := wrap16 (cc + y)
          rw [hlo] at this
          rw [← this]
          simp
        have hw2 : ((cc : Int) + (y : Int)) / 65536 = (c2 : Int) := by omega
        have hlo1 : lo ≤ 65535 := by omega
        have hc21 : c2 ≤ 1 := by omega
        replace HST := Lib.hid (HST c2 lo (by simp; omega))
        clear hlo hc2
        go_wp2
        go_roundg (gk - 1)
        case rel => exact ⟨k + 1, c2, o ++ [(lo : Int)], by have := HKM.out; omega, by go_num, rfl, by omega, by show _ = _; rw [List.length_append, hol.out]; rfl, hou.app (U16.cons (by omega) U16.nil), HSET.out lo, but_set hgr _ _, HST.out⟩
        case measure => have := HKM.out; omega
    · have hke : k = n + 1 := by have := HKM.out; omega
      have hfin := addback_end HSL.out HVL.out (by have := hval.out; rw [hke] at this; exact this)
      have HFIN := Lib.hid hfin
      clear hfin
      go_wp2
      exact ⟨rfl, .tuple #[], by kernel_rfl, o, cc, rfl, HROW.out, hou, by rw [hol.out]; exact hke, HFIN.out, hgr⟩
end Go.Proofs.Ytckfemfbpnieaaa

/- Shifts of limbs by bits, plain. No function of the program in sight. -/
namespace Go.Proofs.Ytckfemfbpnieaaa

theorem pow_split {s : Nat} (hs : s ≤ 16) : 65536 = 2 ^ (16 - s) * 2 ^ s := by
  rw [← Nat.pow_add, Nat.sub_add_cancel hs]
/-- the low bits of a shifted limb and what was carried into it do not meet -/
theorem shl_or {x s h : Nat} (hs : s ≤ 16) (hh : h < 2 ^ s) : h ||| (x * 2 ^ s) % 65536 = h + (x * 2 ^ s) % 65536 := by
  have e : (x * 2 ^ s) % 65536 = 2 ^ s * (x % 2 ^ (16 - s)) := by
    rw [pow_split hs, Nat.mul_mod_mul_right, Nat.mul_comm]
  rw [e, Nat.or_comm, ← Nat.two_pow_add_eq_or_of_lt hh, Nat.add_comm]
theorem shl_hi {x s : Nat} (hx : x ≤ 65535) : (x * 2 ^ s) / 65536 < 2 ^ s := by
  apply (Nat.div_lt_iff_lt_mul (by omega)).2
  have h1 : 0 < 2 ^ s := Nat.two_pow_pos s
  have h2 : x * 2 ^ s ≤ 65535 * 2 ^ s := Nat.mul_le_mul_right _ hx
  omega
theorem pow_le15 {s : Nat} (hs : s ≤ 15) : 2 ^ s ≤ 32768 := by
  have := Nat.pow_le_pow_right (n := 2) (by omega) hs
  simpa using this
/-- limbs shifted so far -/
structure Shl (a o : List Int) (k s i : Nat) : Prop where
  len : o.length = a.length + k + 1
  u16 : U16 o
  sum : val o = 65536 ^ k * (2 ^ s * val (a.take i))
  cur : ∃ h : Nat, o[i + k]? = some (h : Int) ∧ h < 2 ^ s
  far : ∀ j, i + k < j → j < o.length → o[j]? = some 0
theorem Shl.start (a : List Int) (k s : Nat) : Shl a (List.replicate (a.length + k + 1) 0) k s 0 := by
  refine ⟨by simp, u16_replicate _, by simp [val_replicate, val], ⟨0, ?_, Nat.two_pow_pos s⟩, fun j hj hl => ?_⟩
  · rw [List.getElem?_replicate, if_pos (by omega)]; rfl
  · simp at hl
    rw [List.getElem?_replicate, if_pos hl]
theorem Shl.next {a o : List Int} {k s i : Nat} {x h : Nat} (hS : Shl a o k s i) (hs : s ≤ 15) (hx : a[i]? = some (x : Int)) (hx2 : x ≤ 65535) (hh : o[i + k]? = some (h : Int)) :
    Shl a ((o.set (i + k) ((h ||| (x * 2 ^ s) % 65536 : Nat) : Int)).set (i + k + 1) ((x * 2 ^ s / 65536 : Nat) : Int)) k s (i + 1) := by
  obtain ⟨h', hc, hlt⟩ := hS.cur
  rw [hh] at hc
  injection hc with hc
  obtain rfl : h = h' := by omega
  have hil := lt_of_get hx
  have hol := hS.len
  have hp := pow_le15 hs
  have hw : x * 2 ^ s ≤ 65535 * 32768 := Nat.mul_le_mul hx2 hp
  have hor := shl_or (x := x) (s := s) (h := h) (by omega) hlt
  have hnext : o[i + k + 1]? = some 0 := hS.far _ (by omega) (by omega)
  have hdvd : (x * 2 ^ s) % 65536 = 2 ^ s * (x % 2 ^ (16 - s)) := by
    rw [pow_split (s := s) (by omega), Nat.mul_mod_mul_right, Nat.mul_comm]
  have hsum : h + (x * 2 ^ s) % 65536 ≤ 65535 := by
    rw [hdvd]
    have h1 : x % 2 ^ (16 - s) < 2 ^ (16 - s) := Nat.mod_lt _ (Nat.two_pow_pos _)
    have h2 : 2 ^ s * (x % 2 ^ (16 - s) + 1) ≤ 2 ^ s * 2 ^ (16 - s) := Nat.mul_le_mul_left _ h1
    have h3 := pow_split (s := s) (by omega)
    rw [Nat.mul_comm] at h3
    rw [Nat.mul_add, ← h3] at h2
    omega
  have hhi := shl_hi (s := s) hx2
  have e1 := val_set hh ((h ||| (x * 2 ^ s) % 65536 : Nat) : Int)
  have hn2 : (o.set (i + k) ((h ||| (x * 2 ^ s) % 65536 : Nat) : Int))[i + k + 1]? = some 0 := by rw [List.getElem?_set_ne (by omega)]; exact hnext
  have e2 := val_set hn2 ((x * 2 ^ s / 65536 : Nat) : Int)
  refine ⟨by simpa using hol, (hS.u16.set_ ⟨by omega, by omega⟩).set_ ⟨by omega, by omega⟩, ?_, ⟨x * 2 ^ s / 65536, ?_, hhi⟩, fun j hj hl => ?_⟩
  · have hdm := Nat.div_add_mod (x * 2 ^ s) 65536
    rw [hor] at e1 e2 ⊢
    rw [Nat.pow_succ] at e2
    simp only [Int.toNat_natCast, Int.toNat_zero, Nat.mul_zero, Nat.add_zero] at e1 e2
    rw [Nat.mul_add] at e1
    rw [val_take hx, Int.toNat_natCast, Nat.mul_add, Nat.mul_add, ← hS.sum]
    have e4 : 65536 ^ k * (2 ^ s * (65536 ^ i * x)) = 65536 ^ (i + k) * (x * 2 ^ s) := by
      rw [Nat.pow_add, Nat.mul_comm (2 ^ s), Nat.mul_assoc (65536 ^ i) x, ← Nat.mul_assoc (65536 ^ k), Nat.mul_comm (65536 ^ k) (65536 ^ i)]
    rw [e4]
    have e5 := congrArg (65536 ^ (i + k) * ·) hdm
    simp only [Nat.mul_add] at e5
    rw [← Nat.mul_assoc (65536 ^ (i + k)) 65536] at e5
    omega
  · rw [show i + 1 + k = i + k + 1 by omega, List.getElem?_set_self (by simp; omega)]
  · rw [List.getElem?_set_ne (by omega), List.getElem?_set_ne (by omega)]
    exact hS.far j (by omega) (by simpa using hl)
theorem Shl.done {a o : List Int} {k s : Nat} (h : Shl a o k s a.length) : val o = val a * 2 ^ (16 * k + s) := by
  rw [h.sum, val_take_all (Nat.le_refl _), Nat.pow_add, Nat.pow_mul, show 2 ^ 16 = 65536 by rfl, Nat.mul_comm (2 ^ s), ← Nat.mul_assoc, Nat.mul_comm (65536 ^ k), Nat.mul_assoc]

theorem shr_num {x y z s : Nat} (hs : s ≤ 16) (hx : x < 65536) : (x + 65536 * (y + 65536 * z)) / 2 ^ s = (x + 65536 * y) / 2 ^ s % 65536 + 65536 * ((y + 65536 * z) / 2 ^ s) := by
  have e1 : (x + 65536 * (y + 65536 * z)) / 2 ^ s / 65536 = (y + 65536 * z) / 2 ^ s := by
    rw [Nat.div_div_eq_div_mul, Nat.mul_comm (2 ^ s) 65536, ← Nat.div_div_eq_div_mul]
    congr 1
    omega
  have e2 : (x + 65536 * (y + 65536 * z)) / 2 ^ s % 65536 = (x + 65536 * y) / 2 ^ s % 65536 := by
    have h3 : x + 65536 * (y + 65536 * z) = (x + 65536 * y) + 2 ^ s * (65536 * (2 ^ (16 - s) * z)) := by
      have h4 := pow_split hs
      have h5 : 2 ^ s * (65536 * (2 ^ (16 - s) * z)) = 65536 * (65536 * z) := by
        rw [← Nat.mul_assoc (2 ^ s), Nat.mul_comm (2 ^ s) 65536, Nat.mul_assoc 65536, ← Nat.mul_assoc (2 ^ s), Nat.mul_comm (2 ^ s) (2 ^ (16 - s)), ← h4]
      rw [h5]
      omega
    rw [h3, Nat.add_mul_div_left _ _ (Nat.two_pow_pos s), Nat.add_mul_mod_self_left]
  have h6 := Nat.div_add_mod ((x + 65536 * (y + 65536 * z)) / 2 ^ s) 65536
  rw [e1, e2] at h6
  omega
/-- one limb of what is shifted to the right -/
theorem shr_step {a : List Int} (ha : U16 a) {s : Nat} (i : Nat) (hs : s ≤ 16) : val (a.drop i) / 2 ^ s = ((limbAt a i).toNat + 65536 * (limbAt a (i + 1)).toNat) / 2 ^ s % 65536 + 65536 * (val (a.drop (i + 1)) / 2 ^ s) := by
  have hx := limbAt_in ha i
  rw [val_drop_at a i, val_drop_at a (i + 1)]
  exact shr_num hs (by omega)
end Go.Proofs.Ytckfemfbpnieaaa
