/- Walks: the program's natural numbers: right, Shift. -/
import Derived.Test.YtkjnkpkagcboeaaGreatDoorPp2
import Derived.Lib.ItoaNum
set_option linter.all false
set_option maxRecDepth 100000
set_option maxHeartbeats 4000000
namespace Go.Proofs.YtkjnkpkagcboeaaGreatDoor
theorem top2 {v : List Int} {n : Nat} (hv : U16 v) (hl : v.length = n + 2) : ∃ lo, lo < 65536 ^ n /\ val v = lo + 65536 ^ n * (65536 * (limbAt v (n + 1)).toNat + (limbAt v n).toNat) := by
 obtain ⟨lo, hlo, e⟩ := val_split_at hv n
 refine ⟨lo, hlo, ?_⟩
 rw [e, val_drop_at v n, val_drop_at v (n + 1), val_drop_all (l := v) (k := n + 1 + 1) (by omega)]
 rw [Nat.mul_zero, Nat.add_zero, Nat.add_comm (limbAt v n).toNat]
theorem top3 {u : List Int} {n : Nat} (hu : U16 u) (hl : u.length = n + 3) : ∃ lo, lo < 65536 ^ n /\ val u = lo + 65536 ^ n * (65536 * (65536 * (limbAt u (n + 2)).toNat + (limbAt u (n + 1)).toNat) + (limbAt u n).toNat) := by
 obtain ⟨lo, hlo, e⟩ := val_split_at hu n
 refine ⟨lo, hlo, ?_⟩
 rw [e, val_drop_at u n, val_drop_at u (n + 1), val_drop_at u (n + 1 + 1), val_drop_all (l := u) (k := n + 1 + 1 + 1) (by omega)]
 rw [Nat.mul_zero, Nat.add_comm (limbAt u (n + 1)).toNat, Nat.add_comm (limbAt u n).toNat]
 rfl
theorem split_le {lo B x y : Nat} (hlo : lo < B) (e : y = lo + B * x) : x * B <= y /\ y < (x + 1) * B := by
 rw [e, Nat.add_mul, Nat.one_mul, Nat.mul_comm B]
 constructor <;> omega
theorem seg_val {u v : List Int} {n j : Nat} (hv : U16 v) (hvl : v.length = n) (hjl : j + n < u.length) (hlt : val (u.drop (j + 1)) < val v) :
  val (u.drop j) = val ((u.drop j).take (n + 1)) /\ val ((u.drop j).drop (n + 1)) = 0 /\ ((u.drop j).take (n + 1)).length = n + 1 := by
 have h1 := val_lt hv
 rw [hvl] at h1
 have e1 := val_split (u.drop (j + 1)) n
 have l1 : ((u.drop (j + 1)).take n).length = n := by simp; omega
 rw [l1, List.drop_drop] at e1
 have h0 : val (u.drop (j + 1 + n)) = 0 := by
  apply Nat.eq_zero_of_not_pos
  intro hp
  have := Nat.mul_le_mul_left (65536 ^ n) hp
  omega
 have l2 : ((u.drop j).take (n + 1)).length = n + 1 := by simp; omega
 have e2 := val_split (u.drop j) (n + 1)
 rw [l2, List.drop_drop, show j + (n + 1) = j + 1 + n by omega, h0] at e2
 refine ⟨by omega, ?_, l2⟩
 rw [List.drop_drop, show j + (n + 1) = j + 1 + n by omega]
 exact h0
theorem limbAt_drop (u : List Int) (j k : Nat) : limbAt (u.drop j) k = limbAt u (j + k) := by
 unfold limbAt
 rw [List.getElem?_drop]
theorem limbAt_take {u : List Int} {m k : Nat} (h : k < m) : limbAt (u.take m) k = limbAt u k := by
 unfold limbAt
 rw [List.getElem?_take_of_lt h]
theorem top_le {u v : List Int} {n j : Nat} (hu : U16 u) (hv : U16 v) (hvl : v.length = n + 2) (hjl : j + (n + 2) < u.length) (hlt : val (u.drop (j + 1)) < val v) : limbAt u (j + (n + 2)) <= limbAt v (n + 1) := by
 obtain ⟨hs, _, hl⟩ := seg_val hv hvl hjl hlt
 obtain ⟨lo, hlo, e⟩ := top2 hv hvl
 have e1 := val_split (u.drop (j + 1)) (n + 1)
 have l1 : ((u.drop (j + 1)).take (n + 1)).length = n + 1 := by simp; omega
 rw [l1, List.drop_drop, show j + 1 + (n + 1) = j + (n + 2) by omega, val_drop_at u (j + (n + 2))] at e1
 have h1 := limbAt_in hu (j + (n + 2))
 have h2 := limbAt_in hv (n + 1)
 have h3 := limbAt_in hv n
 by_cases hc : limbAt u (j + (n + 2)) <= limbAt v (n + 1)
 · exact hc
 ·
  exfalso
  have h4 : (limbAt v (n + 1)).toNat + 1 <= (limbAt u (j + (n + 2))).toNat + 65536 * val (u.drop (j + (n + 2) + 1)) := by omega
  have h5 := Nat.mul_le_mul_left (65536 ^ (n + 1)) h4
  have h6 : 65536 * (limbAt v (n + 1)).toNat + (limbAt v n).toNat + 1 <= 65536 * ((limbAt v (n + 1)).toNat + 1) := by omega
  have h7 := Nat.mul_le_mul_left (65536 ^ n) h6
  have hp : (65536 : Nat) ^ (n + 1) = 65536 ^ n * 65536 := Nat.pow_succ _ _
  rw [<- Nat.mul_assoc, <- hp, Nat.mul_add (65536 ^ n) _ 1] at h7
  omega
theorem norm_shift {x : Nat} (h0 : x ≠ 0) (h1 : x <= 65535) : 1 <= Lib.bitLen x /\ Lib.bitLen x <= 16 /\ 32768 <= x * 2 ^ (16 - Lib.bitLen x) /\ (x + 1) * 2 ^ (16 - Lib.bitLen x) <= 65536 := by
 obtain ⟨h2, h3, h4⟩ := Lib.bitLenAux_bounds 64 x (by omega) h0
 change 1 <= Lib.bitLen x at h2
 change 2 ^ (Lib.bitLen x - 1) <= x at h3
 change x < 2 ^ Lib.bitLen x at h4
 generalize Lib.bitLen x = b at *
 have hb : b <= 16 := by
  apply Nat.le_of_not_lt
  intro hc
  have : 2 ^ 16 <= 2 ^ (b - 1) := Nat.pow_le_pow_right (by omega) (by omega)
  omega
 refine ⟨h2, hb, ?_, ?_⟩
 ·
  have h5 := Nat.mul_le_mul_right (2 ^ (16 - b)) h3
  rw [<- Nat.pow_add, show b - 1 + (16 - b) = 15 by omega] at h5
  simpa using h5
 ·
  have h5 := Nat.mul_le_mul_right (2 ^ (16 - b)) h4
  rw [<- Nat.pow_add, show b + (16 - b) = 16 by omega] at h5
  simpa using h5
end Go.Proofs.YtkjnkpkagcboeaaGreatDoor
namespace Go.Proofs.YtkjnkpkagcboeaaGreatDoor
def midL (L o : List Int) (j : Nat) : List Int := L.take j ++ o ++ L.drop (j + o.length)
section
variable {L o : List Int} {j : Nat}
theorem midL_nil (L : List Int) (j : Nat) : midL L [] j = L := by simp [midL]
theorem midL_len (h : j + o.length <= L.length) : (midL L o j).length = L.length := by simp [midL]; omega
theorem midL_get (h : j + o.length < L.length) : (midL L o j)[j + o.length]? = L[j + o.length]? := by
 unfold midL
 rw [List.getElem?_append_right (by simp; omega)]
 have e : (L.take j ++ o).length = j + o.length := by simp; omega
 rw [e, Nat.sub_self, List.getElem?_drop, Nat.add_zero]
theorem midL_set (h : j + o.length < L.length) (x : Int) : (midL L o j).set (j + o.length) x = midL L (o ++ [x]) j := by
 unfold midL
 have e : (L.take j ++ o).length = j + o.length := by simp; omega
 rw [List.set_append_right _ _ (by omega), e, Nat.sub_self, List.drop_eq_getElem_cons h, List.set_cons_zero]
 simp [Nat.add_assoc]
theorem midL_u16 (hL : U16 L) (ho : U16 o) : U16 (midL L o j) := ((hL.take _).app ho).app (hL.drop _)
theorem midL_drop (h : j + o.length <= L.length) : (midL L o j).drop j = o ++ L.drop (j + o.length) := by
 unfold midL
 have e : (L.take j).length = j := by simp; omega
 rw [List.append_assoc, List.drop_append, e, Nat.sub_self, List.drop_zero, List.drop_eq_nil_of_le (by omega), List.nil_append]
theorem midL_take (h : j + o.length <= L.length) : (midL L o j).take j = L.take j := by
 unfold midL
 have e : (L.take j).length = j := by simp; omega
 rw [List.append_assoc, List.take_append, e, Nat.sub_self, List.take_zero, List.append_nil, List.take_take, Nat.min_self]
theorem midL_seg (h : j + o.length <= L.length) : ((midL L o j).drop j).take o.length = o := by
 rw [midL_drop h, List.take_append_of_le_length (nlr _), List.take_length]
theorem midL_mid {o2 : List Int} (h : j + o.length <= L.length) (h2 : o2.length = o.length) : midL (midL L o j) o2 j = midL L o2 j := by
 unfold midL
 have e : (L.take j).length = j := by simp; omega
 have e2 : (L.take j ++ o).length = j + o.length := by simp; omega
 congr 1
 ·
  congr 1
  have := midL_take (L := L) (o := o) h
  unfold midL at this
  exact this
 · rw [h2, List.drop_append, e2, Nat.sub_self, List.drop_zero, List.drop_eq_nil_of_le (by omega), List.nil_append]
end
theorem limbAt_seg {L : List Int} {j n k : Nat} (hk : k < n) : limbAt ((L.drop j).take n) k = limbAt L (j + k) := by
 rw [limbAt_take hk, limbAt_drop]
theorem long_step {L v o O : List Int} {U n j : Nat} {q : Nat} (hv : U16 v) (hvl : v.length = n) (hjl : j + n < L.length) (hol : o.length = n + 1) (hO : O.length = L.length - n)
  (hlt : val (L.drop (j + 1)) < val v) (hU : U = val (O.drop (j + 1)) * (65536 ^ (j + 1) * val v) + val L)
  (hq : q = val ((L.drop j).take (n + 1)) / val v) (ho : val o = val ((L.drop j).take (n + 1)) % val v) :
  val ((midL L o j).drop j) < val v /\ U = val ((O.set j (q : Int)).drop j) * (65536 ^ j * val v) + val (midL L o j) := by
 obtain ⟨h1, h2, h3⟩ := seg_val hv hvl hjl hlt
 have hV : 0 < val v := by omega
 have hd := midL_drop (L := L) (o := o) (j := j) (by omega)
 have e1 : val ((midL L o j).drop j) = val o := by
  rw [hd, val_append, hol]
  rw [List.drop_drop, show j + (n + 1) = j + (n + 1) by rfl] at h2
  rw [h2, Nat.mul_zero, Nat.add_zero]
 have hjO : j < O.length := by omega
 have l1 : (L.take j).length = j := by simp; omega
 have e2 := val_split L j
 have e3 := val_split (midL L o j) j
 rw [midL_take (by omega), l1, e1] at e3
 rw [l1, h1] at e2
 have e4 : val ((O.set j (q : Int)).drop j) = q + 65536 * val (O.drop (j + 1)) := by
  have g : (O.set j (q : Int))[j]? = some (q : Int) := by simp [hjO]
  rw [val_drop g, List.drop_set_of_lt (by omega)]
  simp
 refine ⟨by rw [e1, ho]; exact Nat.mod_lt _ hV, ?_⟩
 rw [hU, e4, e3, e2]
 have e5 := div_sum (val ((L.drop j).take (n + 1))) (val v)
 rw [<- hq, <- ho] at e5
 rw [e5]
 generalize val (O.drop (j + 1)) = A
 generalize val v = V
 generalize val (L.take j) = B
 generalize val o = R
 rw [Nat.pow_succ, Nat.add_mul, Nat.mul_add (65536 ^ j)]
 have e6 : A * (65536 ^ j * 65536 * V) = 65536 * A * (65536 ^ j * V) := by
  rw [Nat.mul_comm (65536 ^ j) 65536, Nat.mul_assoc 65536 (65536 ^ j), <- Nat.mul_assoc A 65536, Nat.mul_comm A 65536]
 have e7 : 65536 ^ j * (q * V) = q * (65536 ^ j * V) := by rw [<- Nat.mul_assoc, Nat.mul_comm (65536 ^ j) q, Nat.mul_assoc]
 rw [e6, e7]
 omega
theorem long_done {L v O : List Int} {U : Nat} (hlt : val (L.drop 0) < val v) (hU : U = val (O.drop 0) * (65536 ^ 0 * val v) + val L) : val O = U / val v /\ val L = U % val v := by
 rw [List.drop_zero] at hlt hU
 rw [Nat.pow_zero, Nat.one_mul] at hU
 subst hU
 constructor
 · rw [Nat.mul_comm, Nat.mul_add_div (by omega), Nat.div_eq_of_lt hlt, Nat.add_zero]
 · rw [Nat.mul_comm, Nat.mul_add_mod, Nat.mod_eq_of_lt hlt]
theorem back_val {s q V o o2 c P : Nat} (h1 : s + P = q * V + o) (h2 : o2 + P * c = o + V) (ho : o < P) (ho2 : o2 < P) (hq : q = s / V + 1) (hV : 0 < V) (hVP : V < P) : o2 = s % V := by
 subst hq
 have e := div_sum s V
 have hm := Nat.mod_lt s hV
 rw [Nat.add_mul, Nat.one_mul] at h1
 have h3 : o2 + P * c = s % V + P := by omega
 have hc : c = 0 \/ c = 1 \/ 2 <= c := by omega
 rcases hc with rfl | rfl | hc
 · omega
 · omega
 ·
  have := Nat.mul_le_mul_left P hc
  omega
end Go.Proofs.YtkjnkpkagcboeaaGreatDoor
namespace Go.Proofs.YtkjnkpkagcboeaaGreatDoor
open Go.RowKit
theorem subtract_any (L v : List Int) (r : List Value) (g j n q cu : Nat) (av : Option Addr) (cv : Nat) (w : World) (hR : RowN w g L r) (hU : U16 L) (hj : j + n + 1 <= L.length)
  (hv : NatR w av cv v) (hvl : v.length = n) (hvg : ∀ p, av = some p -> p.block ≠ g) (hq : q <= 65535) (hcu : n + 1 <= cu) (hcu2 : cu <= maxLen) :
  Calls Tryz.prog 216 #[.slice (some ⟨g, j, none⟩) (n + 1) cu, .slice av v.length cv, .int .u32 q] w fun e w' => ∃ (o : List Int) (b : Nat), e = .returned (.bool (decide (b = 1))) /\
   RowN w' g (midL L o j) r /\ U16 o /\ o.length = n + 1 /\ b <= 1 /\ val ((L.drop j).take (n + 1)) + 65536 ^ (n + 1) * b = q * val v + val o /\ (b = 1 ↔ val ((L.drop j).take (n + 1)) < q * val v) /\ w.grownBy w' (some g) := by
 have HV := Hd hv
 have HVG := Hd hvg
 have huv := hv.u16
 have hlv := hv.len
 have hsl : ((L.drop j).take (n + 1)).length = n + 1 := by simp; omega
 have hsa : ∀ k, k < n + 1 -> limbAt ((L.drop j).take (n + 1)) k = limbAt L (j + k) := fun k hk => limbAt_seg hk
 revert hsl hsa
 generalize (L.drop j).take (n + 1) = sg
 intro hsl hsa
 have HSL := Hd hsl
 have HSA := Hd hsa
 have HVL := Hd hvl
 have HR0 := Hd hR
 have hlvn : v.length < n + 1 := by omega
 unfold maxLen at hcu2
 clear hv hvg hsl hsa hvl hR
 go_enter Tryz.func216, Tryz.ntmps216
 go_wp2
 obtain ⟨wo, rfl⟩ : ∃ wo : World, wo = w := ⟨_, rfl⟩
 go_loopg [7, 8, 9, 10, 13] (n + 1) (fun m s7 s8 _ _ s13 wr => ∃ (k c b : Nat) (o : List Int), k + m = n + 1 /\ s13 = .int .i64 k /\ s7 = .int .u32 c /\ s8 = .int .i32 b /\ b <= 1 /\ c <= 65535 /\ Hid (k = n + 1 -> c = 0) /\ Hid (o.length = k) /\ U16 o /\
  RowN wr g (midL L o j) r /\ wo.grownBy wr (some g) /\ Hid (val (sg.take k) + 65536 ^ k * (c + b) = q * val (v.take k) + val o))
 case atStart => exact ⟨0, 0, 0, [], by omega, rfl, rfl, rfl, by omega, by omega, fun h => by omega, rfl, U16.nil, by rw [midL_nil]; exact HR0.out, but_refl _ _, by show _ = _; simp [val]⟩
 case round =>
  obtain ⟨k, cc, bb, o, hkm, rfl, rfl, rfl, hb1, hc1, hcz, hol, hou, hrow, hgr, hval⟩ := hrel
  have HROW := Hd hrow
  have HKM := Hd hkm
  clear hrow hkm
  by_cases hlt : k < n + 1
  ·
   obtain ⟨x, hx⟩ := get_of_lt (xs := L) (k := j + k) (by omega)
   obtain ⟨hx0, hx1⟩ := hU.get hx
   have hmg : (midL L o j)[j + k]? = some x := by
    have := midL_get (L := L) (o := o) (j := j) (by rw [hol.out]; omega)
    rw [hol.out] at this
    rw [this, hx]
   have hcell := HROW.out.cell hmg
   have hfr := HROW.out.frozen (j + k)
   have hsx : limbAt sg k = x := by rw [HSA.out k hlt, limbAt_some hx]
   have HSX := Hd hsx
   clear hmg hx hsx
   obtain ⟨y, rfl⟩ : ∃ y : Nat, x = (y : Int) := ⟨x.toNat, by omega⟩
   have hset := fun z : Int => HROW.out.set_ (i := j + k) (by rw [midL_len (by rw [hol.out]; omega)]; omega) z
   have hset2 : ∀ z : Int, RowN (wr.setCell ⟨g, j + k, none⟩ (.int .u16 z)) g (midL L (o ++ [z]) j) r := fun z => by
    have h1 := midL_set (L := L) (o := o) (j := j) (by rw [hol.out]; omega) z
    rw [hol.out] at h1
    rw [<- h1]
    exact hset z
   have HSET := Hd hset2
   have hstep := fun c2 b2 x p lo h1 h2 h3 => mulsub_step sg v o k q cc bb c2 b2 x p lo hol.out hval.out h1 h2 h3
   rw [HSX.out, Int.toNat_natCast] at hstep
   have HSTEP := Hd hstep
   clear hset hset2 hstep hval HSX hlv
   by_cases hkn : k < v.length
   ·
    obtain ⟨z, hz⟩ := get_of_lt hkn
    obtain ⟨bv, ov, rfl, hcv⟩ := HV.out.cell hz
    obtain ⟨hz0, hz1⟩ := huv.get hz
    have hcv2 : wr.cell? ⟨bv, ov + k, none⟩ = some (.int .u16 z) := hgr.cell hcv (fun e => HVG.out _ rfl (by injection e))
    obtain ⟨t, rfl⟩ : ∃ t : Nat, z = (t : Int) := ⟨z.toNat, by omega⟩
    have hzl := limbAt_some hz
    have hp : q * t <= 65535 * 65535 := Nat.mul_le_mul hq (by omega)
    have hpi : (q : Int) * (t : Int) = ((q * t : Nat) : Int) := by simp
    have HST := HSTEP.out
    rw [hzl, Int.toNat_natCast] at HST
    have HVL2 := HVL.out
    revert hp hpi HST
    generalize q * t = P
    intro hp hpi HST
    obtain ⟨lo, hlo⟩ : ∃ lo, (cc + P) % 65536 = lo := ⟨_, rfl⟩
    obtain ⟨c2, hc2⟩ : ∃ c2, (cc + P) / 65536 = c2 := ⟨_, rfl⟩
    have hw1 : IntKind.u16.wrap ((cc : Int) + (P : Int)) = (lo : Int) := by
     have := wrap16 (cc + P)
     rw [hlo] at this
     rw [<- this]
     simp
    have hw2 : ((cc : Int) + (P : Int)) / 65536 = (c2 : Int) := by omega
    have hlo1 : lo <= 65535 := by omega
    have hc21 : c2 <= 65535 := by omega
    have hpl : cc + P = lo + 65536 * c2 := by omega
    have HCZ : Hid (k + 1 ≠ n + 1) := Hd (by omega)
    clear hcv hz hzl hlo hc2 HVL2
    by_cases hneg : (y : Int) - lo - bb < 0
    ·
     obtain ⟨x, hx⟩ : ∃ x : Nat, (y : Int) - lo - bb + 65536 = (x : Int) := ⟨((y : Int) - lo - bb + 65536).toNat, by omega⟩
     replace HST := Hd (HST c2 1 x (cc + P) lo rfl hpl (by omega))
     have hx65 : x <= 65535 := by omega
     clear hpl
     go_wp2
     go_roundg (gk - 1)
     case rel => exact ⟨k + 1, c2, 1, o ++ [(x : Int)], by have := HKM.out; omega, by go_num, rfl, rfl, by omega, by omega, fun e => by have := HCZ.out; omega, by show _ = _; rw [List.length_append, hol.out]; rfl, hou.app (U16.cons (by omega) U16.nil), HSET.out x, but_set hgr _ _, HST.out⟩
     case measure => have := HKM.out; omega
    ·
     obtain ⟨x, hx⟩ : ∃ x : Nat, (y : Int) - lo - bb = (x : Int) := ⟨((y : Int) - lo - bb).toNat, by omega⟩
     replace HST := Hd (HST c2 0 x (cc + P) lo rfl hpl (by omega))
     have hx65 : x <= 65535 := by omega
     clear hpl
     go_wp2
     go_roundg (gk - 1)
     case rel => exact ⟨k + 1, c2, 0, o ++ [(x : Int)], by have := HKM.out; omega, by go_num, rfl, rfl, by omega, by omega, fun e => by have := HCZ.out; omega, by show _ = _; rw [List.length_append, hol.out]; rfl, hou.app (U16.cons (by omega) U16.nil), HSET.out x, but_set hgr _ _, HST.out⟩
     case measure => have := HKM.out; omega
   ·
    have HST := HSTEP.out
    rw [limbAt_none (by omega)] at HST
    obtain ⟨c2, hc2⟩ : ∃ c2 : Nat, c2 = 0 := ⟨_, rfl⟩
    have hw2 : (cc : Int) / 65536 = (c2 : Int) := by omega
    have hc21 : c2 <= 65535 := by omega
    have HCZ : Hid (c2 = 0) := Hd hc2
    have hpl : cc + q * (0 : Int).toNat = cc + 65536 * c2 := by simp [hc2]
    clear hc2
    by_cases hneg : (y : Int) - cc - bb < 0
    ·
     obtain ⟨x, hx⟩ : ∃ x : Nat, (y : Int) - cc - bb + 65536 = (x : Int) := ⟨((y : Int) - cc - bb + 65536).toNat, by omega⟩
     replace HST := Hd (HST c2 1 x _ cc rfl hpl (by omega))
     have hx65 : x <= 65535 := by omega
     clear hpl
     go_wp2
     go_roundg (gk - 1)
     case rel => exact ⟨k + 1, c2, 1, o ++ [(x : Int)], by have := HKM.out; omega, by go_num, rfl, rfl, by omega, by omega, fun e => by have := HCZ.out; omega, by show _ = _; rw [List.length_append, hol.out]; rfl, hou.app (U16.cons (by omega) U16.nil), HSET.out x, but_set hgr _ _, HST.out⟩
     case measure => have := HKM.out; omega
    ·
     obtain ⟨x, hx⟩ : ∃ x : Nat, (y : Int) - cc - bb = (x : Int) := ⟨((y : Int) - cc - bb).toNat, by omega⟩
     replace HST := Hd (HST c2 0 x _ cc rfl hpl (by omega))
     have hx65 : x <= 65535 := by omega
     clear hpl
     go_wp2
     go_roundg (gk - 1)
     case rel => exact ⟨k + 1, c2, 0, o ++ [(x : Int)], by have := HKM.out; omega, by go_num, rfl, rfl, by omega, by omega, fun e => by have := HCZ.out; omega, by show _ = _; rw [List.length_append, hol.out]; rfl, hou.app (U16.cons (by omega) U16.nil), HSET.out x, but_set hgr _ _, HST.out⟩
     case measure => have := HKM.out; omega
  ·
   have hke : k = n + 1 := by have := HKM.out; omega
   have hfin := mulsub_end hou HSL.out HVL.out (by rw [hol.out]; exact hke) hb1 (by have := hval.out; rw [hke] at this; exact this) (hcz.out hke)
   have HFIN := Hd hfin
   clear hfin
   go_wp2
   go_ret
   refine ⟨o, bb, ret_bool ?_, HROW.out, hou, by rw [hol.out]; exact hke, hb1, HFIN.out.1, HFIN.out.2, hgr⟩
   rw [decide_eq_decide]
   omega
theorem restore_any (L v : List Int) (r : List Value) (g j n cu : Nat) (av : Option Addr) (cv : Nat) (w : World) (hR : RowN w g L r) (hU : U16 L) (hj : j + n + 1 <= L.length)
  (hv : NatR w av cv v) (hvl : v.length = n) (hvg : ∀ p, av = some p -> p.block ≠ g) (hcu : n + 1 <= cu) (hcu2 : cu <= maxLen) :
  Calls Tryz.prog 217 #[.slice (some ⟨g, j, none⟩) (n + 1) cu, .slice av v.length cv] w fun e w' => ∃ (o : List Int) (c : Nat), e = .returned (.tuple #[]) /\
   RowN w' g (midL L o j) r /\ U16 o /\ o.length = n + 1 /\ val o + 65536 ^ (n + 1) * c = val ((L.drop j).take (n + 1)) + val v /\ w.grownBy w' (some g) := by
 have HV := Hd hv
 have HVG := Hd hvg
 have huv := hv.u16
 have hlv := hv.len
 have hsl : ((L.drop j).take (n + 1)).length = n + 1 := by simp; omega
 have hsa : ∀ k, k < n + 1 -> limbAt ((L.drop j).take (n + 1)) k = limbAt L (j + k) := fun k hk => limbAt_seg hk
 revert hsl hsa
 generalize (L.drop j).take (n + 1) = sg
 intro hsl hsa
 have HSL := Hd hsl
 have HSA := Hd hsa
 have HVL := Hd hvl
 have HR0 := Hd hR
 have hlvn : v.length < n + 1 := by omega
 unfold maxLen at hcu2
 clear hv hvg hsl hsa hvl hR
 go_enter Tryz.func217, Tryz.ntmps217
 go_wp2
 obtain ⟨wo, rfl⟩ : ∃ wo : World, wo = w := ⟨_, rfl⟩
 go_loopg [4, 5, 8] (n + 1) (fun m s4 _ s8 wr => ∃ (k c : Nat) (o : List Int), k + m = n + 1 /\ s8 = .int .i64 k /\ s4 = .int .u32 c /\ c <= 1 /\ Hid (o.length = k) /\ U16 o /\
  RowN wr g (midL L o j) r /\ wo.grownBy wr (some g) /\ Hid (val o + 65536 ^ k * c = val (sg.take k) + val (v.take k)))
 case atStart => exact ⟨0, 0, [], by omega, rfl, rfl, by omega, rfl, U16.nil, by rw [midL_nil]; exact HR0.out, but_refl _ _, by show _ = _; simp [val]⟩
 case round =>
  obtain ⟨k, cc, o, hkm, rfl, rfl, hc1, hol, hou, hrow, hgr, hval⟩ := hrel
  have HROW := Hd hrow
  have HKM := Hd hkm
  clear hrow hkm
  by_cases hlt : k < n + 1
  ·
   obtain ⟨x, hx⟩ := get_of_lt (xs := L) (k := j + k) (by omega)
   obtain ⟨hx0, hx1⟩ := hU.get hx
   have hmg : (midL L o j)[j + k]? = some x := by
    have := midL_get (L := L) (o := o) (j := j) (by rw [hol.out]; omega)
    rw [hol.out] at this
    rw [this, hx]
   have hcell := HROW.out.cell hmg
   have hfr := HROW.out.frozen (j + k)
   have hsx : limbAt sg k = x := by rw [HSA.out k hlt, limbAt_some hx]
   have HSX := Hd hsx
   clear hmg hx hsx
   obtain ⟨y, rfl⟩ : ∃ y : Nat, x = (y : Int) := ⟨x.toNat, by omega⟩
   have hset := fun z : Int => HROW.out.set_ (i := j + k) (by rw [midL_len (by rw [hol.out]; omega)]; omega) z
   have hset2 : ∀ z : Int, RowN (wr.setCell ⟨g, j + k, none⟩ (.int .u16 z)) g (midL L (o ++ [z]) j) r := fun z => by
    have h1 := midL_set (L := L) (o := o) (j := j) (by rw [hol.out]; omega) z
    rw [hol.out] at h1
    rw [<- h1]
    exact hset z
   have HSET := Hd hset2
   have hstep := fun c2 d h1 => add_step sg v o k cc c2 d hol.out hval.out h1
   rw [HSX.out, Int.toNat_natCast] at hstep
   have HSTEP := Hd hstep
   clear hset hset2 hstep hval HSX hlv
   by_cases hkn : k < v.length
   ·
    obtain ⟨z, hz⟩ := get_of_lt hkn
    obtain ⟨bv, ov, rfl, hcv⟩ := HV.out.cell hz
    obtain ⟨hz0, hz1⟩ := huv.get hz
    have hcv2 : wr.cell? ⟨bv, ov + k, none⟩ = some (.int .u16 z) := hgr.cell hcv (fun e => HVG.out _ rfl (by injection e))
    obtain ⟨t, rfl⟩ : ∃ t : Nat, z = (t : Int) := ⟨z.toNat, by omega⟩
    have hzl := limbAt_some hz
    have HST := HSTEP.out
    rw [hzl, Int.toNat_natCast] at HST
    obtain ⟨lo, hlo⟩ : ∃ lo, (cc + y + t) % 65536 = lo := ⟨_, rfl⟩
    obtain ⟨c2, hc2⟩ : ∃ c2, (cc + y + t) / 65536 = c2 := ⟨_, rfl⟩
    have hw1 : IntKind.u16.wrap ((cc : Int) + (y : Int) + (t : Int)) = (lo : Int) := by
     have := wrap16 (cc + y + t)
     rw [hlo] at this
     rw [<- this]
     simp
    have hw2 : ((cc : Int) + (y : Int) + (t : Int)) / 65536 = (c2 : Int) := by omega
    have hlo1 : lo <= 65535 := by omega
    have hc21 : c2 <= 1 := by omega
    replace HST := Hd (HST c2 lo (by omega))
    clear hcv hz hzl hlo hc2
    go_wp2
    go_roundg (gk - 1)
    case rel => exact ⟨k + 1, c2, o ++ [(lo : Int)], by have := HKM.out; omega, by go_num, rfl, by omega, by show _ = _; rw [List.length_append, hol.out]; rfl, hou.app (U16.cons (by omega) U16.nil), HSET.out lo, but_set hgr _ _, HST.out⟩
    case measure => have := HKM.out; omega
   ·
    have HST := HSTEP.out
    rw [limbAt_none (by omega)] at HST
    obtain ⟨lo, hlo⟩ : ∃ lo, (cc + y) % 65536 = lo := ⟨_, rfl⟩
    obtain ⟨c2, hc2⟩ : ∃ c2, (cc + y) / 65536 = c2 := ⟨_, rfl⟩
    have hw1 : IntKind.u16.wrap ((cc : Int) + (y : Int)) = (lo : Int) := by
     have := wrap16 (cc + y)
     rw [hlo] at this
     rw [<- this]
     simp
    have hw2 : ((cc : Int) + (y : Int)) / 65536 = (c2 : Int) := by omega
    have hlo1 : lo <= 65535 := by omega
    have hc21 : c2 <= 1 := by omega
    replace HST := Hd (HST c2 lo (by simp; omega))
    clear hlo hc2
    go_wp2
    go_roundg (gk - 1)
    case rel => exact ⟨k + 1, c2, o ++ [(lo : Int)], by have := HKM.out; omega, by go_num, rfl, by omega, by show _ = _; rw [List.length_append, hol.out]; rfl, hou.app (U16.cons (by omega) U16.nil), HSET.out lo, but_set hgr _ _, HST.out⟩
    case measure => have := HKM.out; omega
  ·
   have hke : k = n + 1 := by have := HKM.out; omega
   have hfin := addback_end HSL.out HVL.out (by have := hval.out; rw [hke] at this; exact this)
   have HFIN := Hd hfin
   clear hfin
   go_wp2
   exact ⟨rfl, .tuple #[], by kernel_rfl, o, cc, rfl, HROW.out, hou, by rw [hol.out]; exact hke, HFIN.out, hgr⟩
end Go.Proofs.YtkjnkpkagcboeaaGreatDoor
namespace Go.Proofs.YtkjnkpkagcboeaaGreatDoor
theorem pow_split {s : Nat} (hs : s <= 16) : 65536 = 2 ^ (16 - s) * 2 ^ s := by
 rw [<- Nat.pow_add, Nat.sub_add_cancel hs]
theorem shl_or {x s h : Nat} (hs : s <= 16) (hh : h < 2 ^ s) : h ||| (x * 2 ^ s) % 65536 = h + (x * 2 ^ s) % 65536 := by
 have e : (x * 2 ^ s) % 65536 = 2 ^ s * (x % 2 ^ (16 - s)) := by
  rw [pow_split hs, Nat.mul_mod_mul_right, Nat.mul_comm]
 rw [e, Nat.or_comm, <- Nat.two_pow_add_eq_or_of_lt hh, Nat.add_comm]
theorem shl_hi {x s : Nat} (hx : x <= 65535) : (x * 2 ^ s) / 65536 < 2 ^ s := by
 apply (Nat.div_lt_iff_lt_mul (by omega)).2
 have h1 : 0 < 2 ^ s := Nat.two_pow_pos s
 have h2 : x * 2 ^ s <= 65535 * 2 ^ s := Nat.mul_le_mul_right _ hx
 omega
theorem pow_le15 {s : Nat} (hs : s <= 15) : 2 ^ s <= 32768 := by
 have := Nat.pow_le_pow_right (n := 2) (by omega) hs
 simpa using this
structure Shl (a o : List Int) (k s i : Nat) : Prop where
 len : o.length = a.length + k + 1
 u16 : U16 o
 sum : val o = 65536 ^ k * (2 ^ s * val (a.take i))
 cur : ∃ h : Nat, o[i + k]? = some (h : Int) /\ h < 2 ^ s
 far : ∀ j, i + k < j -> j < o.length -> o[j]? = some 0
theorem Shl.start (a : List Int) (k s : Nat) : Shl a (List.replicate (a.length + k + 1) 0) k s 0 := by
 refine ⟨by simp, u16_replicate _, by simp [val_replicate, val], ⟨0, ?_, Nat.two_pow_pos s⟩, fun j hj hl => ?_⟩
 · rw [List.getElem?_replicate, if_pos (by omega)]; rfl
 ·
  simp at hl
  rw [List.getElem?_replicate, if_pos hl]
theorem Shl.next {a o : List Int} {k s i : Nat} {x h : Nat} (hS : Shl a o k s i) (hs : s <= 15) (hx : a[i]? = some (x : Int)) (hx2 : x <= 65535) (hh : o[i + k]? = some (h : Int)) :
  Shl a ((o.set (i + k) ((h ||| (x * 2 ^ s) % 65536 : Nat) : Int)).set (i + k + 1) ((x * 2 ^ s / 65536 : Nat) : Int)) k s (i + 1) := by
 obtain ⟨h', hc, hlt⟩ := hS.cur
 rw [hh] at hc
 injection hc with hc
 obtain rfl : h = h' := by omega
 have hil := lt_of_get hx
 have hol := hS.len
 have hp := pow_le15 hs
 have hw : x * 2 ^ s <= 65535 * 32768 := Nat.mul_le_mul hx2 hp
 have hor := shl_or (x := x) (s := s) (h := h) (by omega) hlt
 have hnext : o[i + k + 1]? = some 0 := hS.far _ (by omega) (by omega)
 have hdvd : (x * 2 ^ s) % 65536 = 2 ^ s * (x % 2 ^ (16 - s)) := by
  rw [pow_split (s := s) (by omega), Nat.mul_mod_mul_right, Nat.mul_comm]
 have hsum : h + (x * 2 ^ s) % 65536 <= 65535 := by
  rw [hdvd]
  have h1 : x % 2 ^ (16 - s) < 2 ^ (16 - s) := Nat.mod_lt _ (Nat.two_pow_pos _)
  have h2 : 2 ^ s * (x % 2 ^ (16 - s) + 1) <= 2 ^ s * 2 ^ (16 - s) := Nat.mul_le_mul_left _ h1
  have h3 := pow_split (s := s) (by omega)
  rw [Nat.mul_comm] at h3
  rw [Nat.mul_add, <- h3] at h2
  omega
 have hhi := shl_hi (s := s) hx2
 have e1 := val_set hh ((h ||| (x * 2 ^ s) % 65536 : Nat) : Int)
 have hn2 : (o.set (i + k) ((h ||| (x * 2 ^ s) % 65536 : Nat) : Int))[i + k + 1]? = some 0 := by rw [List.getElem?_set_ne (by omega)]; exact hnext
 have e2 := val_set hn2 ((x * 2 ^ s / 65536 : Nat) : Int)
 refine ⟨by simpa using hol, (hS.u16.set_ ⟨by omega, by omega⟩).set_ ⟨by omega, by omega⟩, ?_, ⟨x * 2 ^ s / 65536, ?_, hhi⟩, fun j hj hl => ?_⟩
 ·
  have hdm := Nat.div_add_mod (x * 2 ^ s) 65536
  rw [hor] at e1 e2 ⊢
  rw [Nat.pow_succ] at e2
  simp only [Int.toNat_natCast, Int.toNat_zero, Nat.mul_zero, Nat.add_zero] at e1 e2
  rw [Nat.mul_add] at e1
  rw [val_take hx, Int.toNat_natCast, Nat.mul_add, Nat.mul_add, <- hS.sum]
  have e4 : 65536 ^ k * (2 ^ s * (65536 ^ i * x)) = 65536 ^ (i + k) * (x * 2 ^ s) := by
   rw [Nat.pow_add, Nat.mul_comm (2 ^ s), Nat.mul_assoc (65536 ^ i) x, <- Nat.mul_assoc (65536 ^ k), Nat.mul_comm (65536 ^ k) (65536 ^ i)]
  rw [e4]
  have e5 := congrArg (65536 ^ (i + k) * ·) hdm
  simp only [Nat.mul_add] at e5
  rw [<- Nat.mul_assoc (65536 ^ (i + k)) 65536] at e5
  omega
 · rw [show i + 1 + k = i + k + 1 by omega, List.getElem?_set_self (by simp; omega)]
 ·
  rw [List.getElem?_set_ne (by omega), List.getElem?_set_ne (by omega)]
  exact hS.far j (by omega) (by simpa using hl)
theorem Shl.done {a o : List Int} {k s : Nat} (h : Shl a o k s a.length) : val o = val a * 2 ^ (16 * k + s) := by
 rw [h.sum, val_take_all (nlr _), Nat.pow_add, Nat.pow_mul, show 2 ^ 16 = 65536 by rfl, Nat.mul_comm (2 ^ s), <- Nat.mul_assoc, Nat.mul_comm (65536 ^ k), Nat.mul_assoc]
theorem shr_num {x y z s : Nat} (hs : s <= 16) (hx : x < 65536) : (x + 65536 * (y + 65536 * z)) / 2 ^ s = (x + 65536 * y) / 2 ^ s % 65536 + 65536 * ((y + 65536 * z) / 2 ^ s) := by
 have e1 : (x + 65536 * (y + 65536 * z)) / 2 ^ s / 65536 = (y + 65536 * z) / 2 ^ s := by
  rw [Nat.div_div_eq_div_mul, Nat.mul_comm (2 ^ s) 65536, <- Nat.div_div_eq_div_mul]
  congr 1
  omega
 have e2 : (x + 65536 * (y + 65536 * z)) / 2 ^ s % 65536 = (x + 65536 * y) / 2 ^ s % 65536 := by
  have h3 : x + 65536 * (y + 65536 * z) = (x + 65536 * y) + 2 ^ s * (65536 * (2 ^ (16 - s) * z)) := by
   have h4 := pow_split hs
   have h5 : 2 ^ s * (65536 * (2 ^ (16 - s) * z)) = 65536 * (65536 * z) := by
    rw [<- Nat.mul_assoc (2 ^ s), Nat.mul_comm (2 ^ s) 65536, Nat.mul_assoc 65536, <- Nat.mul_assoc (2 ^ s), Nat.mul_comm (2 ^ s) (2 ^ (16 - s)), <- h4]
   rw [h5]
   omega
  rw [h3, Nat.add_mul_div_left _ _ (Nat.two_pow_pos s), Nat.add_mul_mod_self_left]
 have h6 := Nat.div_add_mod ((x + 65536 * (y + 65536 * z)) / 2 ^ s) 65536
 rw [e1, e2] at h6
 omega
theorem shr_step {a : List Int} (ha : U16 a) {s : Nat} (i : Nat) (hs : s <= 16) : val (a.drop i) / 2 ^ s = ((limbAt a i).toNat + 65536 * (limbAt a (i + 1)).toNat) / 2 ^ s % 65536 + 65536 * (val (a.drop (i + 1)) / 2 ^ s) := by
 have hx := limbAt_in ha i
 rw [val_drop_at a i, val_drop_at a (i + 1)]
 exact shr_num hs (by omega)
end Go.Proofs.YtkjnkpkagcboeaaGreatDoor
namespace Go.Proofs.YtkjnkpkagcboeaaGreatDoor
open Go.RowKit
theorem val_drop_div {l : List Int} (h : U16 l) (k : Nat) : val (l.drop k) = val l / 65536 ^ k := by
 obtain ⟨lo, hlo, e⟩ := val_split_at h k
 have e2 : val l / 65536 ^ k = val (l.drop k) := by rw [e, Nat.add_comm, Nat.mul_add_div (by have := pow_pos16 k; omega), Nat.div_eq_of_lt hlo, Nat.add_zero]
 exact e2.symm
theorem shr_split {n s : Nat} : n / 65536 ^ (s / 16) / 2 ^ (s % 16) = n / 2 ^ s := by
 rw [Nat.div_div_eq_div_mul, show (65536 : Nat) = 2 ^ 16 by rfl, <- Nat.pow_mul, <- Nat.pow_add]
 congr 2
 omega
structure Shr (a o : List Int) (s i : Nat) : Prop where
 u16 : U16 o
 sum : val a / 2 ^ s = val (o.take i) + 65536 ^ i * (val (a.drop i) / 2 ^ s)
theorem Shr.start (a : List Int) (s n : Nat) : Shr a (List.replicate n 0) s 0 := ⟨u16_replicate _, by simp [val]⟩
theorem Shr.next {a o : List Int} {s i : Nat} (h : Shr a o s i) (ha : U16 a) (hs : s <= 16) (hi : i < o.length) :
  Shr a (o.set i ((((limbAt a i).toNat + 65536 * (limbAt a (i + 1)).toNat) / 2 ^ s % 65536 : Nat) : Int)) s (i + 1) := by
 have e := shr_step ha i hs
 have e1 := h.sum
 rw [e] at e1
 have hx : ((limbAt a i).toNat + 65536 * (limbAt a (i + 1)).toNat) / 2 ^ s % 65536 <= 65535 := by omega
 generalize ((limbAt a i).toNat + 65536 * (limbAt a (i + 1)).toNat) / 2 ^ s % 65536 = x at e1 hx ⊢
 refine ⟨h.u16.set_ (by omega), ?_⟩
 have g : (o.set i (x : Int))[i]? = some (x : Int) := by simp [hi]
 rw [val_take g, List.take_set_of_le (nlr _), e1, Nat.mul_add, Nat.pow_succ, Nat.mul_assoc]
 simp
 omega
theorem right_any (l : List Int) (n s : Nat) (a : Option Addr) (c : Nat) (w : World) (h : NatR w a c l) (hn : val l = n) (hl : l.length <= 16777216) (hs : s <= 1048576) :
  Calls Tryz.prog 214 #[.slice a l.length c, .int .i64 s] w (RetN (limbs (n / 2 ^ s)) w) := by
 have H := Hd h
 have hu := h.u16
 have HN := Hd hn
 have hq : ((s : Int)).tdiv 16 = ((s / 16 : Nat) : Int) := rfl
 have hr : ((s : Int)).tmod 16 = ((s % 16 : Nat) : Int) := rfl
 have hsp := shr_split (n := n) (s := s)
 have ht : s % 16 <= 15 := by omega
 have hk : s / 16 <= 65536 := by omega
 have HSP := Hd hsp
 revert hq hr ht hk HSP
 generalize s / 16 = k
 generalize s % 16 = t
 intro hq hr ht hk HSP
 clear h hn hsp
 by_cases hkl : l.length <= k
 ·
  have h0 : n / 2 ^ s = 0 := by
   rw [<- HSP.out, Nat.div_eq_of_lt (a := n), Nat.zero_div]
   have h1 := val_lt hu
   rw [HN.out] at h1
   exact ltl h1 (Nat.pow_le_pow_right (by omega) hkl)
  rw [h0, limbs_zero]
  clear h0
  go_enter Tryz.func214, Tryz.ntmps214
  go_wp2
  go_ret
  exact ⟨none, 0, rfl, fun _ _ => SlR.nil, Below.refl _ _⟩
 ·
  obtain ⟨m, hm⟩ : ∃ m : Nat, l.length = k + m := ⟨l.length - k, by omega⟩
  have hm0 : 0 < m := by omega
  have hmi : (l.length : Int) - (k : Int) = (m : Int) := by omega
  have hmk := run_make_nat .i64 m (by omega) w
  have HM := Hd hm
  have hkl2 : k < l.length := by omega
  have hdk : decide (l.length <= k) = false := by simp; omega
  clear hm hkl
  go_enter Tryz.func214, Tryz.ntmps214
  go_wp2
  clear hmk
  have hz := BlkN.new w m
  have hb0 : Below w.heap.size w (w.alloc (.cells (madeCells #[.int .u16 0] m) 47)) := brf.alloc (nlr _) _
  revert hz hb0
  generalize w.alloc (.cells (madeCells #[.int .u16 0] m) 47) = w0
  intro hz hb0
  go_loopg [8, 9, 25] m (fun g _ _ s25 wr => ∃ (i : Nat) (O : List Int), i + g = m /\ s25 = .int .i64 i /\ BlkN wr w.heap.size O /\ Hid (O.length = m) /\ Below w.heap.size w wr /\ Shr (l.drop k) O t i)
  case atStart => exact ⟨0, List.replicate m 0, by omega, rfl, hz, by show _ = _; simp, hb0, Shr.start _ _ _⟩
  case round =>
   clear hz hb0
   obtain ⟨i, O, hig, rfl, hO, hOl, hwr, hS⟩ := hrel
   have HIG := Hd hig
   have HO := Hd hO
   clear hig hO
   by_cases hlt : i < m
   ·
    obtain ⟨x, hx⟩ := get_of_lt (xs := l) (k := k + i) (by have := HM.out; omega)
    obtain ⟨b, off, rfl, hc⟩ := (H.out.ext (xbw hwr)).cell hx
    obtain ⟨hx0, hx1⟩ := hu.get hx
    obtain ⟨y, rfl⟩ : ∃ y : Nat, x = (y : Int) := ⟨x.toNat, by omega⟩
    have hc2 : wr.cell? ⟨b, off + (i + k), none⟩ = some (.int .u16 y) := by rw [Nat.add_comm i k]; exact hc
    have hil : i + k < l.length := by have := HM.out; omega
    obtain ⟨u, hu2⟩ := get_of_lt (xs := O) (k := i) (by rw [hOl.out]; exact hlt)
    have hcell := HO.out.cell hu2
    have hfr := HO.out.frozen i
    have hnext := hS.next (hu.drop k) (show t <= 16 by omega) (show i < O.length by rw [hOl.out]; exact hlt)
    rw [limbAt_drop, limbAt_drop, limbAt_some hx, Int.toNat_natCast] at hnext
    have HNX := Hd hnext
    clear hnext hS
    by_cases hlast : i + 1 < m
    ·
     obtain ⟨x2, hx2⟩ := get_of_lt (xs := l) (k := k + i + 1) (by have := HM.out; omega)
     obtain ⟨b3, off3, e3, hc3⟩ := (H.out.ext (xbw hwr)).cell hx2
     injection e3 with e3
     injection e3 with e3 e4
     subst e3
     subst e4
     obtain ⟨hy0, hy1⟩ := hu.get hx2
     obtain ⟨z, rfl⟩ : ∃ z : Nat, x2 = (z : Int) := ⟨x2.toNat, by omega⟩
     have hc4 : wr.cell? ⟨b, off + (i + k + 1), none⟩ = some (.int .u16 z) := by rw [Nat.add_comm i k]; exact hc3
     have hil2 : i + k + 1 < l.length := by have := HM.out; omega
     have hnx := HNX.out
     rw [show k + (i + 1) = k + i + 1 by omega, limbAt_some hx2, Int.toNat_natCast] at hnx
     obtain ⟨W, hW⟩ : ∃ W, y + 65536 * z = W := ⟨_, rfl⟩
     obtain ⟨X, hX⟩ : ∃ X, W / 2 ^ t % 65536 = X := ⟨_, rfl⟩
     rw [hW, hX] at hnx
     have hor : bits .or .u32 (y : Int) ((z : Int) * 65536) = (W : Int) := by
      have h1 := byLimb_or (r := z) (x := y) (by omega)
      have h2 := u32_or_nat y (z * 65536) (by omega) (by omega)
      rw [Nat.or_comm, h1, show z * 65536 + y = W by omega] at h2
      simpa using h2
     have hshr : IntKind.u16.wrap ((W : Int) / 2 ^ t) = (X : Int) := by
      have := wrap16 (W / 2 ^ t)
      rw [hX] at this
      rw [<- this]
      simp
     have HNX2 := Hd hnx
     have hX2 : X <= 65535 := by omega
     clear hc3 hx2 hx hW hX hnx HNX
     go_wp2
     go_roundg (gk - 1)
     case rel => exact ⟨i + 1, O.set i (X : Int), by have := HIG.out; omega, by go_num, HO.out.set_ i _, by show _ = _; rw [List.length_set]; exact hOl.out, hwr.setCell (nlr _) _, HNX2.out⟩
     case measure => have := HIG.out; omega
    ·
     have hil2 : l.length = i + k + 1 := by have := HM.out; omega
     have HIL := Hd hil2
     have hdl : decide (((i : Int) + (k : Int) + 1) < (l.length : Int)) = false := by simp; omega
     have hnx := HNX.out
     rw [limbAt_none (by omega)] at hnx
     obtain ⟨X, hX⟩ : ∃ X, y / 2 ^ t % 65536 = X := ⟨_, rfl⟩
     rw [show y + 65536 * (0 : Int).toNat = y by simp, hX] at hnx
     have hshr : IntKind.u16.wrap ((y : Int) / 2 ^ t) = (X : Int) := by
      have := wrap16 (y / 2 ^ t)
      rw [hX] at this
      rw [<- this]
      simp
     have HNX2 := Hd hnx
     have hX2 : X <= 65535 := by omega
     have hge : ¬ ((i : Int) + (k : Int) + 1 < (l.length : Int)) := by omega
     clear hx hX hnx HNX hil2
     go_wp2
     go_roundg (gk - 1)
     case rel => exact ⟨i + 1, O.set i (X : Int), by have := HIG.out; omega, by go_num, HO.out.set_ i _, by show _ = _; rw [List.length_set]; exact hOl.out, hwr.setCell (nlr _) _, HNX2.out⟩
     case measure => have := HIG.out; omega
   ·
    have hval : val O = n / 2 ^ s := by
     have h1 := hS.sum
     rw [val_drop_div hu, HN.out, HSP.out, List.drop_drop, val_drop_all (by have := HM.out; omega), Nat.zero_div, Nat.mul_zero, Nat.add_zero, val_take_all (by rw [hOl.out]; omega)] at h1
     exact h1.symm
    have hcap : O.length <= maxLen := by rw [hOl.out]; unfold maxLen; omega
    have CT := trim_any O _ _ wr (HO.out.readsV (nlr _) (New.refl _ _) hS.u16 (nlr _) hcap)
    have hrd : ∀ V, New w.heap.size wr V -> NatR V (some ⟨w.heap.size, 0, none⟩) O.length (limbs (n / 2 ^ s)) := fun V hV => by
     rw [<- hval]
     exact (HO.out.readsV (nlr _) hV hS.u16 (nlr _) hcap).trim
    rw [hval, hOl.out] at CT
    rw [hOl.out] at hrd
    replace CT := Hd CT
    have HRD := Hd hrd
    clear hrd hval hS
    go_wp2_with fail
    refine CT.out.mono ?_
    rintro e w1 ⟨rfl, rfl⟩
    go_wp2
    go_ret
    exact ⟨_, _, rfl, HRD.out, hwr⟩
theorem quo16 (s : Nat) : ((s : Int)).tdiv 16 = ((s / 16 : Nat) : Int) := rfl
theorem rem16 (s : Nat) : ((s : Int)).tmod 16 = ((s % 16 : Nat) : Int) := rfl
theorem shift_any (l : List Int) (n s : Nat) (a : Option Addr) (c : Nat) (w : World) (h : NatR w a c l) (hn : val l = n) (h0 : 0 < n) (hl : l.length <= 10000000) (hs : s <= 1048576) :
  Calls Tryz.prog 185 #[.slice a l.length c, .int .i64 s] w fun e w' => ∃ a1 c1, e = .returned (.slice a1 (limbs (n * 2 ^ s)).length c1) /\ OwnN w.heap.size w' a1 c1 (limbs (n * 2 ^ s)) /\ Below w.heap.size w w' := by
 have CT := trim_any l a c w h
 have hT := h.trim
 have hlt := limbs_len_val h.u16
 rw [hn] at CT hT hlt
 have hTl : (limbs n).length <= 10000000 := by omega
 have hTp := limbs_len_pos.2 h0
 have hu := limbs_u16 n
 have hv := val_limbs n
 revert CT hT hTl hTp hu hv
 generalize limbs n = T
 intro CT hT hTl hTp hu hv
 have hq := quo16 s
 have hr := rem16 s
 have hsp : 16 * (s / 16) + s % 16 = s := by omega
 have ht : s % 16 <= 15 := by omega
 have hk : s / 16 <= 65536 := by omega
 have HSP := Hd hsp
 revert hq hr ht hk HSP
 generalize s / 16 = k
 generalize s % 16 = t
 intro hq hr ht hk HSP
 have HT := Hd hT
 have HV := Hd hv
 replace CT := Hd CT
 have hmk := run_make_nat2 .i64 (T.length + k + 1) (T.length + k + 3) (by omega) (by omega) w
 simp only [Int.natCast_add, Int.cast_ofNat_Int] at hmk
 have hne : ((T.length : Int) == 0) = false := by rw [beq_eq_false_iff_ne]; omega
 clear h hn hlt hT hv hsp h0
 go_enter Tryz.func185, Tryz.ntmps185
 go_wp2_with fail
 refine CT.out.mono ?_
 rintro e w1 ⟨rfl, rfl⟩
 go_wp2
 clear hmk hne
 have hz0 := BlkN.new w (T.length + k + 3)
 have hb0 : Below w.heap.size w (w.alloc (.cells (madeCells #[.int .u16 0] (T.length + k + 3)) 47)) := brf.alloc (nlr _) _
 have hz : RowN (w.alloc (.cells (madeCells #[.int .u16 0] (T.length + k + 3)) 47)) w.heap.size (List.replicate (T.length + k + 1) 0) [.int .u16 0, .int .u16 0] := by
  have h1 := (RowN.of hz0).cut (T.length + k + 1)
  have e1 : (List.replicate (T.length + k + 3) (0 : Int)).take (T.length + k + 1) = List.replicate (T.length + k + 1) 0 := by rw [List.take_replicate]; congr 1; omega
  have e2 : (List.replicate (T.length + k + 3) (0 : Int)).drop (T.length + k + 1) = [0, 0] := by rw [List.drop_replicate, show T.length + k + 3 - (T.length + k + 1) = 2 by omega]; rfl
  rw [e1, e2] at h1
  exact h1
 clear hz0
 revert hz hb0
 generalize w.alloc (.cells (madeCells #[.int .u16 0] (T.length + k + 3)) 47) = w0
 intro hb0 hz
 go_loopg [8, 9, 10, 47] T.length (fun g _ _ _ s47 wr => ∃ (i : Nat) (O : List Int), i + g = T.length /\ s47 = .int .i64 i /\ RowN wr w.heap.size O [.int .u16 0, .int .u16 0] /\ Below w.heap.size w wr /\ Shl T O k t i)
 case atStart => exact ⟨0, _, by omega, rfl, hz, hb0, Shl.start _ _ _⟩
 case round =>
  clear hz hb0
  obtain ⟨i, O, hig, rfl, hO, hwr, hS⟩ := hrel
  have HIG := Hd hig
  have HO := Hd hO
  have HSL := Hd hS.len
  clear hig hO
  by_cases hlt : i < T.length
  ·
   obtain ⟨x, hx⟩ := get_of_lt hlt
   obtain ⟨b, off, rfl, hc⟩ := (HT.out.ext (xbw hwr)).cell hx
   obtain ⟨hx0, hx1⟩ := hu.get hx
   obtain ⟨y, rfl⟩ : ∃ y : Nat, x = (y : Int) := ⟨x.toNat, by omega⟩
   obtain ⟨h, hh, hh2⟩ := hS.cur
   have hiO : i + k < O.length := by have := HSL.out; omega
   have hiO2 : i + k + 1 < O.length := by have := HSL.out; omega
   have hnx := hS.next ht hx (by omega) hh
   have hfar := hS.far (i + k + 1) (by omega) hiO2
   have hcell := HO.out.cell hh
   have hcell2 := HO.out.cell hfar
   have hfr := HO.out.frozen (i + k)
   have hfr2 := HO.out.frozen (i + k + 1)
   have hset := (HO.out.set_ hiO (((h ||| y * 2 ^ t % 65536 : Nat)) : Int)).set_ (i := i + k + 1) (by simpa using hiO2) ((y * 2 ^ t / 65536 : Nat) : Int)
   have hwl : y * 2 ^ t <= 65535 * 32768 := Nat.mul_le_mul (by omega) (pow_le15 ht)
   have hyt : (y : Int) * 2 ^ t % 4294967296 = ((y * 2 ^ t : Nat) : Int) := by
    have e1 : ((y * 2 ^ t : Nat) : Int) = (y : Int) * 2 ^ t := by simp
    rw [<- e1]
    omega
   have hh3 : h <= 65535 := by have := pow_le15 ht; omega
   revert hnx hset hwl hyt
   generalize y * 2 ^ t = W
   intro hnx hset hwl hyt
   obtain ⟨lo, hlo⟩ : ∃ lo, W % 65536 = lo := ⟨_, rfl⟩
   obtain ⟨hi, hhi⟩ : ∃ hi, W / 65536 = hi := ⟨_, rfl⟩
   rw [hlo, hhi] at hnx hset
   have hw1 : IntKind.u16.wrap (W : Int) = (lo : Int) := by rw [wrap16, hlo]
   have hw2 : IntKind.u16.wrap ((W : Int) / 65536) = (hi : Int) := by
    have := wrap16 (W / 65536)
    rw [hhi, Nat.mod_eq_of_lt (by omega)] at this
    rw [<- this, <- hhi]
    simp
   have hor := u16_or_nat h lo (by omega) (by omega)
   have HNX := Hd hnx
   have HSET := Hd hset
   revert hor HNX HSET
   generalize h ||| lo = ho
   intro hor HNX HSET
   clear hnx hset hlo hhi hx hS hh hfar
   go_wp2
   go_roundg (gk - 1)
   case rel => exact ⟨i + 1, _, by have := HIG.out; omega, by go_num, HSET.out, (hwr.setCell (nlr _) _).setCell (nlr _) _, HNX.out⟩
   case measure => have := HIG.out; omega
  ·
   have hit : i = T.length := by have := HIG.out; omega
   have hval : val O = n * 2 ^ s := by
    rw [hit] at hS
    rw [hS.done, HV.out, HSP.out]
   have hcap : T.length + k + 3 <= maxLen := by unfold maxLen; omega
   have hrd : NatR wr (some ⟨w.heap.size, 0, none⟩) (T.length + k + 3) O := HO.out.readsV (nlr _) (New.refl _ _) hS.u16 (by rw [HSL.out]; omega) hcap
   have CT2 := trim_any O _ _ wr hrd
   obtain ⟨m, hm, e⟩ := trim_some hS.u16
   have hown : OwnN w.heap.size wr (some ⟨w.heap.size, 0, none⟩) (T.length + k + 3) (O.take m) := HO.out.own (nlr _) (by rw [HSL.out]; simp) hcap m hm
   rw [<- e, hval] at hown
   rw [hval, HSL.out] at CT2
   replace CT2 := Hd CT2
   have HOWN := Hd hown
   clear hown hval hS e hrd hit
   go_wp2_with fail
   refine CT2.out.mono ?_
   rintro e w1 ⟨rfl, rfl⟩
   go_wp2
   go_ret
   exact ⟨_, _, rfl, HOWN.out, hwr⟩
end Go.Proofs.YtkjnkpkagcboeaaGreatDoor
