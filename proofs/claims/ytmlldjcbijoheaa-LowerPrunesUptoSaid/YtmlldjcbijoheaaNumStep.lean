/- Steps of the schoolbook's sums, differences, products and quotients of limbs. No function of the program in sight. -/
import Derived.Test.YtmlldjcbijoheaaNum
namespace Go.Proofs.Ytmlldjcbijoheaa

theorem pow_pos16 (k : Nat) : 1 ≤ 65536 ^ k := Nat.one_le_pow _ _ (by omega)
theorem sub_step (l m o : List Int) (k bo bo2 d : Nat) (ho : o.length = k) (h : val (l.take k) + 65536 ^ k * bo = val (m.take k) + val o)
    (hd : d + (limbAt m k).toNat + bo = (limbAt l k).toNat + 65536 * bo2) : val (l.take (k + 1)) + 65536 ^ (k + 1) * bo2 = val (m.take (k + 1)) + val (o ++ [(d : Int)]) := by
  rw [val_take_at, val_take_at, val_snoc, ho, Nat.pow_succ]
  have h1 := congrArg (65536 ^ k * ·) hd
  simp only [Nat.mul_add] at h1
  have e : ((d : Int)).toNat = d := by omega
  rw [e, Nat.mul_assoc]
  omega
theorem sub_end {l m o : List Int} {bo : Nat} (hl : U16 l) (hm : U16 m) (hou : U16 o) (ho : o.length = l.length) (h : val (l.take l.length) + 65536 ^ l.length * bo = val (m.take l.length) + val o) (hge : val m ≤ val l) : val o = val l - val m := by
  rw [val_take_all (Nat.le_refl _)] at h
  have h1 := val_lt hl
  have h2 := val_lt hou
  rw [ho] at h2
  have h3 : val (m.take l.length) = val m := by
    obtain ⟨lo, hlo, e⟩ := val_split_at hm l.length
    by_cases hc : l.length ≤ m.length
    · have e2 := val_split m l.length
      have e3 : (m.take l.length).length = l.length := by simp; omega
      rw [e3] at e2
      have : val (m.drop l.length) = 0 := by
        apply Nat.eq_zero_of_not_pos
        intro hp
        have := Nat.mul_le_mul_left (65536 ^ l.length) hp
        omega
      rw [this] at e2
      omega
    · rw [val_take_all (by omega)]
  rw [h3] at h
  have hb : bo = 0 := by
    apply Nat.eq_zero_of_not_pos
    intro hp
    have := Nat.mul_le_mul_left (65536 ^ l.length) hp
    omega
  subst hb
  omega
theorem add_step (l m o : List Int) (k c c2 d : Nat) (ho : o.length = k) (h : val o + 65536 ^ k * c = val (l.take k) + val (m.take k))
    (hd : d + 65536 * c2 = (limbAt l k).toNat + (limbAt m k).toNat + c) : val (o ++ [(d : Int)]) + 65536 ^ (k + 1) * c2 = val (l.take (k + 1)) + val (m.take (k + 1)) := by
  rw [val_take_at, val_take_at, val_snoc, ho, Nat.pow_succ]
  have h1 := congrArg (65536 ^ k * ·) hd
  simp only [Nat.mul_add] at h1
  have e : ((d : Int)).toNat = d := by omega
  rw [e, Nat.mul_assoc]
  omega
theorem val_set {o : List Int} {j : Nat} {z : Int} (hz : o[j]? = some z) (d : Int) : val (o.set j d) + 65536 ^ j * z.toNat = val o + 65536 ^ j * d.toNat := by
  have hj := lt_of_get hz
  have e1 := val_split (o.set j d) j
  have e2 := val_split o j
  have l1 : ((o.set j d).take j).length = j := by simp; omega
  have l2 : (o.take j).length = j := by simp; omega
  have t : (o.set j d).take j = o.take j := by rw [List.take_set_of_le (Nat.le_refl _)]
  have g : (o.set j d)[j]? = some d := by simp [hj]
  rw [l1, t, val_drop g, List.drop_set_of_lt (by omega)] at e1
  rw [l2, val_drop hz] at e2
  rw [e1, e2, Nat.mul_add, Nat.mul_add]
  omega
theorem mul_step (l m o : List Int) (i k c c2 d : Nat) (z x y : Int) (hz : o[i + k]? = some z) (hy : limbAt m k = y)
    (h : val o + 65536 ^ (i + k) * c = val (l.take i) * val m + 65536 ^ i * (x.toNat * val (m.take k)))
    (hd : d + 65536 * c2 = z.toNat + x.toNat * y.toNat + c) :
    val (o.set (i + k) (d : Int)) + 65536 ^ (i + (k + 1)) * c2 = val (l.take i) * val m + 65536 ^ i * (x.toNat * val (m.take (k + 1))) := by
  have h1 := val_set hz (d : Int)
  have e : ((d : Int)).toNat = d := by omega
  rw [e] at h1
  have h2 := congrArg (65536 ^ (i + k) * ·) hd
  simp only [Nat.mul_add] at h2
  rw [val_take_at, hy, ← Nat.add_assoc, Nat.pow_succ]
  have e3 : 65536 ^ i * (x.toNat * (val (m.take k) + 65536 ^ k * y.toNat)) = 65536 ^ i * (x.toNat * val (m.take k)) + 65536 ^ (i + k) * (x.toNat * y.toNat) := by
    rw [Nat.mul_add, Nat.mul_add, Nat.pow_add, Nat.mul_assoc (65536 ^ i) (65536 ^ k)]
    congr 2
    rw [← Nat.mul_assoc, Nat.mul_comm x.toNat, Nat.mul_assoc]
  rw [e3, Nat.mul_assoc (65536 ^ (i + k)) 65536 c2]
  omega
theorem mul_end (l m : List Int) (i : Nat) (x : Int) (hx : l[i]? = some x) : val (l.take i) * val m + 65536 ^ i * (x.toNat * val m) = val (l.take (i + 1)) * val m := by
  rw [val_take hx, Nat.add_mul, Nat.mul_assoc]
/-- beyond the second factor there is at most one limb to carry into -/
theorem mul_far {l m o : List Int} {i k c : Nat} {x : Int} (hl : U16 l) (hm : U16 m) (hx : l[i]? = some x) (hk : m.length ≤ k) (hc : 0 < c)
    (h : val o + 65536 ^ (i + k) * c = val (l.take i) * val m + 65536 ^ i * (x.toNat * val (m.take k))) : k ≤ m.length := by
  rw [val_take_all hk, mul_end l m i x hx] at h
  have h1 := val_lt (hl.take (i + 1))
  have e1 : (l.take (i + 1)).length = i + 1 := by have := lt_of_get hx; simp; omega
  rw [e1] at h1
  have h2 := val_lt hm
  have h3 : val (l.take (i + 1)) * val m < 65536 ^ (i + 1) * 65536 ^ m.length := Nat.mul_lt_mul'' h1 h2
  rw [← Nat.pow_add] at h3
  have h4 := Nat.mul_le_mul_left (65536 ^ (i + k)) hc
  have h5 : 65536 ^ (i + k) < 65536 ^ (i + 1 + m.length) := by omega
  have h6 := (Nat.pow_lt_pow_iff_right (by omega : 1 < 65536)).1 h5
  omega
theorem carry_lt {z x y c d c2 : Nat} (hz : z ≤ 65535) (hx : x ≤ 65535) (hy : y ≤ 65535) (hc : c ≤ 65535) (hd : d + 65536 * c2 = z + x * y + c) : c2 ≤ 65535 := by
  have := Nat.mul_le_mul hx hy
  omega
theorem val_replicate (n : Nat) : val (List.replicate n 0) = 0 := by
  induction n with
  | zero => rfl
  | succ n ih => rw [List.replicate_succ, val, ih]; rfl
theorem u16_replicate (n : Nat) : U16 (List.replicate n 0) := fun x hx => by have := List.eq_of_mem_replicate hx; omega

/-- one step of the long division -/
theorem div_step (l q : List Int) (k b r d r2 : Nat) (x : Int) (hx : l[k]? = some x) (h : val (l.drop (k + 1)) = val q * b + r) (hd : x.toNat + 65536 * r = d * b + r2) :
    val (l.drop k) = val ((d : Int) :: q) * b + r2 := by
  rw [val_drop hx, h, val]
  have e : ((d : Int)).toNat = d := by omega
  rw [e, Nat.add_mul, Nat.mul_add, ← Nat.mul_assoc]
  omega
theorem div_digit {x b r : Nat} (hx : x ≤ 65535) (hr : r < b) : (x + 65536 * r) / b ≤ 65535 := by
  have : (x + 65536 * r) / b < 65536 := by
    apply (Nat.div_lt_iff_lt_mul (by omega)).2
    omega
  omega
end Go.Proofs.Ytmlldjcbijoheaa
