/- Walks of the reference's natural numbers: limb, Norm, Of, short, Cmp, Valid, Same. -/
import Derived.Test.YtmeplgagpnligaaDoorLx8
import Derived.Test.YtmeplgagpnligaaDoorLx2
import Derived.Test.YtmeplgagpnligaaDoorLx5
import Derived.Deep.CutRange
import Derived.Test.YtmeplgagpnligaaDoorProg
import Derived.Ground.NamesProg
import Derived.Shelf.Lay
import Derived.Shelf.Small.Bits
import Derived.Deep.LoopGhost
import Derived.Test.YtmeplgagpnligaaDoorLx7

/- Shifts of limbs by bits, plain. No function of the program in sight. -/
namespace Go.Proofs.YtmeplgagpnligaaDoor

theorem pow_split {s : Nat} (hs : s ≤ 16) : 65536 = 2 ^ (16 - s) * 2 ^ s := by
  rw [← Nat.pow_add, Nat.sub_add_cancel hs]
/-- the low bits of a shifted limb and what was carried into it do not meet -/
theorem shl_or {x s h : Nat} (hs : s ≤ 16) (hh : h < 2 ^ s) : h ||| (x * 2 ^ s) % 65536 = h + (x * 2 ^ s) % 65536 := by
  have e : (x * 2 ^ s) % 65536 = 2 ^ s * (x % 2 ^ (16 - s)) := by
    rw [pow_split hs, Nat.mul_mod_mul_right, Nat.mul_comm]
  rw [e, Nat.or_comm, ← Nat.two_pow_add_eq_or_of_lt hh, Nat.add_comm]
theorem shl_hi {x s : Nat} (hx : x ≤ 65535) : (x * 2 ^ s) / 65536 < 2 ^ s := by
  apply (Nat.div_lt_iff_lt_mul (by omega)).2
  have h1 : 0 < 2 ^ s := Nat.two_pow_pos s
  have h2 : x * 2 ^ s ≤ 65535 * 2 ^ s := Nat.mul_le_mul_right _ hx
  omega
theorem pow_le15 {s : Nat} (hs : s ≤ 15) : 2 ^ s ≤ 32768 := by
  have := Nat.pow_le_pow_right (n := 2) (by omega) hs
  simpa using this
/-- limbs shifted so far -/
structure Shl (a o : List Int) (k s i : Nat) : Prop where
  len : o.length = a.length + k + 1
  u16 : U16 o
  sum : val o = 65536 ^ k * (2 ^ s * val (a.take i))
  cur : ∃ h : Nat, o[i + k]? = some (h : Int) ∧ h < 2 ^ s
  far : ∀ j, i + k < j → j < o.length → o[j]? = some 0
theorem Shl.start (a : List Int) (k s : Nat) : Shl a (List.replicate (a.length + k + 1) 0) k s 0 := by
  refine ⟨by simp, u16_replicate _, by simp [val_replicate, val], ⟨0, ?_, Nat.two_pow_pos s⟩, fun j hj hl => ?_⟩
  · rw [List.getElem?_replicate, if_pos (by omega)]; rfl
  · simp at hl
    rw [List.getElem?_replicate, if_pos hl]
theorem Shl.next {a o : List Int} {k s i : Nat} {x h : Nat} (hS : Shl a o k s i) (hs : s ≤ 15) (hx : a[i]? = some (x : Int)) (hx2 : x ≤ 65535) (hh : o[i + k]? = some (h : Int)) :
    Shl a ((o.set (i + k) ((h ||| (x * 2 ^ s) % 65536 : Nat) : Int)).set (i + k + 1) ((x * 2 ^ s / 65536 : Nat) : Int)) k s (i + 1) := by
  obtain ⟨h', hc, hlt⟩ := hS.cur
  rw [hh] at hc
  injection hc with hc
  obtain rfl : h = h' := by omega
  have hil := lt_of_get hx
  have hol := hS.len
  have hp := pow_le15 hs
  have hw : x * 2 ^ s ≤ 65535 * 32768 := Nat.mul_le_mul hx2 hp
  have hor := shl_or (x := x) (s := s) (h := h) (by omega) hlt
  have hnext : o[i + k + 1]? = some 0 := hS.far _ (by omega) (by omega)
  have hdvd : (x * 2 ^ s) % 65536 = 2 ^ s * (x % 2 ^ (16 - s)) := by
    rw [pow_split (s := s) (by omega), Nat.mul_mod_mul_right, Nat.mul_comm]
  have hsum : h + (x * 2 ^ s) % 65536 ≤ 65535 := by
    rw [hdvd]
    have h1 : x % 2 ^ (16 - s) < 2 ^ (16 - s) := Nat.mod_lt _ (Nat.two_pow_pos _)
    have h2 : 2 ^ s * (x % 2 ^ (16 - s) + 1) ≤ 2 ^ s * 2 ^ (16 - s) := Nat.mul_le_mul_left _ h1
    have h3 := pow_split (s := s) (by omega)
    rw [Nat.mul_comm] at h3
    rw [Nat.mul_add, ← h3] at h2
    omega
  have hhi := shl_hi (s := s) hx2
  have e1 := val_set hh ((h ||| (x * 2 ^ s) % 65536 : Nat) : Int)
  have hn2 : (o.set (i + k) ((h ||| (x * 2 ^ s) % 65536 : Nat) : Int))[i + k + 1]? = some 0 := by rw [List.getElem?_set_ne (by omega)]; exact hnext
  have e2 := val_set hn2 ((x * 2 ^ s / 65536 : Nat) : Int)
  refine ⟨by simpa using hol, (hS.u16.set_ ⟨by omega, by omega⟩).set_ ⟨by omega, by omega⟩, ?_, ⟨x * 2 ^ s / 65536, ?_, hhi⟩, fun j hj hl => ?_⟩
  · have hdm := Nat.div_add_mod (x * 2 ^ s) 65536
    rw [hor] at e1 e2 ⊢
    rw [Nat.pow_succ] at e2
    simp only [Int.toNat_natCast, Int.toNat_zero, Nat.mul_zero, Nat.add_zero] at e1 e2
    rw [Nat.mul_add] at e1
    rw [val_take hx, Int.toNat_natCast, Nat.mul_add, Nat.mul_add, ← hS.sum]
    have e4 : 65536 ^ k * (2 ^ s * (65536 ^ i * x)) = 65536 ^ (i + k) * (x * 2 ^ s) := by
      rw [Nat.pow_add, Nat.mul_comm (2 ^ s), Nat.mul_assoc (65536 ^ i) x, ← Nat.mul_assoc (65536 ^ k), Nat.mul_comm (65536 ^ k) (65536 ^ i)]
    rw [e4]
    have e5 := congrArg (65536 ^ (i + k) * ·) hdm
    simp only [Nat.mul_add] at e5
    rw [← Nat.mul_assoc (65536 ^ (i + k)) 65536] at e5
    omega
  · rw [show i + 1 + k = i + k + 1 by omega, List.getElem?_set_self (by simp; omega)]
  · rw [List.getElem?_set_ne (by omega), List.getElem?_set_ne (by omega)]
    exact hS.far j (by omega) (by simpa using hl)
theorem Shl.done {a o : List Int} {k s : Nat} (h : Shl a o k s a.length) : val o = val a * 2 ^ (16 * k + s) := by
  rw [h.sum, val_take_all (Nat.le_refl _), Nat.pow_add, Nat.pow_mul, show 2 ^ 16 = 65536 by rfl, Nat.mul_comm (2 ^ s), ← Nat.mul_assoc, Nat.mul_comm (65536 ^ k), Nat.mul_assoc]

theorem shr_num {x y z s : Nat} (hs : s ≤ 16) (hx : x < 65536) : (x + 65536 * (y + 65536 * z)) / 2 ^ s = (x + 65536 * y) / 2 ^ s % 65536 + 65536 * ((y + 65536 * z) / 2 ^ s) := by
  have e1 : (x + 65536 * (y + 65536 * z)) / 2 ^ s / 65536 = (y + 65536 * z) / 2 ^ s := by
    rw [Nat.div_div_eq_div_mul, Nat.mul_comm (2 ^ s) 65536, ← Nat.div_div_eq_div_mul]
    congr 1
    omega
  have e2 : (x + 65536 * (y + 65536 * z)) / 2 ^ s % 65536 = (x + 65536 * y) / 2 ^ s % 65536 := by
    have h3 : x + 65536 * (y + 65536 * z) = (x + 65536 * y) + 2 ^ s * (65536 * (2 ^ (16 - s) * z)) := by
      have h4 := pow_split hs
      have h5 : 2 ^ s * (65536 * (2 ^ (16 - s) * z)) = 65536 * (65536 * z) := by
        rw [← Nat.mul_assoc (2 ^ s), Nat.mul_comm (2 ^ s) 65536, Nat.mul_assoc 65536, ← Nat.mul_assoc (2 ^ s), Nat.mul_comm (2 ^ s) (2 ^ (16 - s)), ← h4]
      rw [h5]
      omega
    rw [h3, Nat.add_mul_div_left _ _ (Nat.two_pow_pos s), Nat.add_mul_mod_self_left]
  have h6 := Nat.div_add_mod ((x + 65536 * (y + 65536 * z)) / 2 ^ s) 65536
  rw [e1, e2] at h6
  omega
/-- one limb of what is shifted to the right -/
theorem shr_step {a : List Int} (ha : U16 a) {s : Nat} (i : Nat) (hs : s ≤ 16) : val (a.drop i) / 2 ^ s = ((limbAt a i).toNat + 65536 * (limbAt a (i + 1)).toNat) / 2 ^ s % 65536 + 65536 * (val (a.drop (i + 1)) / 2 ^ s) := by
  have hx := limbAt_in ha i
  rw [val_drop_at a i, val_drop_at a (i + 1)]
  exact shr_num hs (by omega)
end Go.Proofs.YtmeplgagpnligaaDoor

/- Walks: the program's natural numbers: right, Shift. -/
namespace Go.Proofs.YtmeplgagpnligaaDoor
open Go.RowKit

theorem val_drop_div {l : List Int} (h : U16 l) (k : Nat) : val (l.drop k) = val l / 65536 ^ k := by
  obtain ⟨lo, hlo, e⟩ := val_split_at h k
  have e2 : val l / 65536 ^ k = val (l.drop k) := by rw [e, Nat.add_comm, Nat.mul_add_div (by have := pow_pos16 k; omega), Nat.div_eq_of_lt hlo, Nat.add_zero]
  exact e2.symm
theorem shr_split {n s : Nat} : n / 65536 ^ (s / 16) / 2 ^ (s % 16) = n / 2 ^ s := by
  rw [Nat.div_div_eq_div_mul, show (65536 : Nat) = 2 ^ 16 by rfl, ← Nat.pow_mul, ← Nat.pow_add]
  congr 2
  omega
/-- limbs shifted to the right so far -/
structure Shr (a o : List Int) (s i : Nat) : Prop where
  u16 : U16 o
  sum : val a / 2 ^ s = val (o.take i) + 65536 ^ i * (val (a.drop i) / 2 ^ s)
theorem Shr.start (a : List Int) (s n : Nat) : Shr a (List.replicate n 0) s 0 := ⟨u16_replicate _, by simp [val]⟩
theorem Shr.next {a o : List Int} {s i : Nat} (h : Shr a o s i) (ha : U16 a) (hs : s ≤ 16) (hi : i < o.length) :
    Shr a (o.set i ((((limbAt a i).toNat + 65536 * (limbAt a (i + 1)).toNat) / 2 ^ s % 65536 : Nat) : Int)) s (i + 1) := by
  have e := shr_step ha i hs
  have e1 := h.sum
  rw [e] at e1
  have hx : ((limbAt a i).toNat + 65536 * (limbAt a (i + 1)).toNat) / 2 ^ s % 65536 ≤ 65535 := by omega
  generalize ((limbAt a i).toNat + 65536 * (limbAt a (i + 1)).toNat) / 2 ^ s % 65536 = x at e1 hx ⊢
  refine ⟨h.u16.set_ (by omega), ?_⟩
  have g : (o.set i (x : Int))[i]? = some (x : Int) := by simp [hi]
  rw [val_take g, List.take_set_of_le (Nat.le_refl _), e1, Nat.mul_add, Nat.pow_succ, Nat.mul_assoc]
  simp
  omega
theorem limbs_shl_len (n s : Nat) : (limbs (n * 2 ^ s)).length ≤ (limbs n).length + s / 16 + 1 := by
  apply limbs_len_le
  have h1 := lt_pow_limbs n
  have h2 : 2 ^ s = 65536 ^ (s / 16) * 2 ^ (s % 16) := by
    rw [show (65536 : Nat) = 2 ^ 16 by rfl, ← Nat.pow_mul, ← Nat.pow_add]
    congr 1; omega
  have h3 : 2 ^ (s % 16) < 65536 := by
    have := pow_le15 (s := s % 16) (by omega)
    omega
  rw [h2, Nat.pow_add, Nat.pow_add, Nat.pow_one]
  have h4 : n * (65536 ^ (s / 16) * 2 ^ (s % 16)) = n * 65536 ^ (s / 16) * 2 ^ (s % 16) := by rw [Nat.mul_assoc]
  rw [h4]
  exact Nat.mul_lt_mul'' (Nat.mul_lt_mul_of_pos_right h1 (Nat.pow_pos (by omega))) h3

theorem quo16 (s : Nat) : ((s : Int)).tdiv 16 = ((s / 16 : Nat) : Int) := rfl
theorem rem16 (s : Nat) : ((s : Int)).tmod 16 = ((s % 16 : Nat) : Int) := rfl
end Go.Proofs.YtmeplgagpnligaaDoor

/- Walks: the program's natural numbers: Shift of 0 and to the right; the question of a digit's guess. -/
namespace Go.Proofs.YtmeplgagpnligaaDoor
open Go.RowKit

/-- is the guess of a digit too great? -/
def tooGreat (d r v2 u0 : Nat) : Bool := decide (65536 ≤ d) || decide (r * 65536 + u0 < d * v2)
end Go.Proofs.YtmeplgagpnligaaDoor

/- One digit of the long division: the guess, what is left. No function of the program in sight. -/
namespace Go.Proofs.YtmeplgagpnligaaDoor

/-- the limbs of which a digit is guessed -/
structure Top (L v : List Int) (n j u2 u1 u0 v1 v2 : Nat) : Prop where
  e2 : limbAt L (j + (n + 2)) = u2
  e1 : limbAt L (j + (n + 1)) = u1
  e0 : limbAt L (j + n) = u0
  f1 : limbAt v (n + 1) = v1
  f2 : limbAt v n = v2
theorem top_bounds {L v : List Int} {n j u2 u1 u0 v1 v2 : Nat} (h : Top L v n j u2 u1 u0 v1 v2) (hL : U16 L) (hv : U16 v) : u2 ≤ 65535 ∧ u1 ≤ 65535 ∧ u0 ≤ 65535 ∧ v1 ≤ 65535 ∧ v2 ≤ 65535 := by
  have a := limbAt_in hL (j + (n + 2))
  have b := limbAt_in hL (j + (n + 1))
  have c := limbAt_in hL (j + n)
  have d := limbAt_in hv (n + 1)
  have e := limbAt_in hv n
  rw [h.e2] at a
  rw [h.e1] at b
  rw [h.e0] at c
  rw [h.f1] at d
  rw [h.f2] at e
  omega
section
variable {L v : List Int} {n j u2 u1 u0 v1 v2 : Nat}
theorem guess_start (h : Top L v n j u2 u1 u0 v1 v2) (hL : U16 L) (hv : U16 v) (hvl : v.length = n + 2) (hjl : j + (n + 2) < L.length) (hlt : val (L.drop (j + 1)) < val v) (htop : 32768 ≤ v1) :
    Guess u2 u1 u0 v1 v2 ((65536 * u2 + u1) / v1) ((65536 * u2 + u1) % v1) := by
  obtain ⟨a, b, c, d, e⟩ := top_bounds h hL hv
  have h1 := top_le hL hv hvl hjl hlt
  rw [h.e2, h.f1] at h1
  exact Guess.start htop d b c (by omega)
theorem guess_end (h : Top L v n j u2 u1 u0 v1 v2) (hL : U16 L) (hv : U16 v) (hvl : v.length = n + 2) (hjl : j + (n + 2) < L.length) (hlt : val (L.drop (j + 1)) < val v) (htop : 32768 ≤ v1) {d r : Nat} (hG : Guess u2 u1 u0 v1 v2 d r)
    (he : 65536 ≤ r ∨ (d ≤ 65535 ∧ d * v2 ≤ r * 65536 + u0)) :
    d ≤ 65535 ∧ (d = val ((L.drop j).take (n + 3)) / val v ∨ d = val ((L.drop j).take (n + 3)) / val v + 1) ∧ (val ((L.drop j).take (n + 3)) < d * val v ↔ d = val ((L.drop j).take (n + 3)) / val v + 1) := by
  obtain ⟨a, b, c, f, e⟩ := top_bounds h hL hv
  have h1 := top_le hL hv hvl hjl hlt
  rw [h.e2, h.f1] at h1
  obtain ⟨g1, g2, g3⟩ := hG.done e b (by omega) (by rw [Nat.mul_comm 65536 r]; exact he)
  obtain ⟨s1, _, s3⟩ := seg_val hv hvl hjl hlt
  rw [show n + 2 + 1 = n + 3 by rfl] at s1 s3
  have hsu : U16 ((L.drop j).take (n + 3)) := (hL.drop _).take _
  obtain ⟨lo, hlo, t⟩ := top3 hsu s3
  rw [limbAt_seg (by omega), limbAt_seg (by omega), limbAt_seg (by omega), h.e2, h.e1, h.e0] at t
  simp only [Int.toNat_natCast] at t
  obtain ⟨lo2, hlo2, t2⟩ := top2 hv hvl
  rw [h.f1, h.f2] at t2
  simp only [Int.toNat_natCast] at t2
  obtain ⟨p1, p2⟩ := split_le hlo t
  obtain ⟨p3, p4⟩ := split_le hlo2 t2
  have hUV : val ((L.drop j).take (n + 3)) < 65536 * val v := by
    rw [← s1, val_drop_at L j]
    have := limbAt_in hL j
    omega
  obtain ⟨d1, d2⟩ := digit_of (by have := pow_pos16 n; omega) p1 p2 p3 p4 htop hUV g1 g2 g3
  exact ⟨g1, d1, d2⟩
end
/-- no more was taken than there was -/
theorem digit_ok {U V d o P b : Nat} (h : U + P * b = d * V + o) (hb : b = 0) (hlt : ¬ U < d * V) (hd : d = U / V ∨ d = U / V + 1) (hi : U < d * V ↔ d = U / V + 1) : d = U / V ∧ o = U % V := by
  have h1 : d = U / V := by
    rcases hd with h | h
    · exact h
    · exact (hlt (hi.2 h)).elim
  refine ⟨h1, ?_⟩
  subst hb
  have := div_sum U V
  rw [← h1] at this
  omega
end Go.Proofs.YtmeplgagpnligaaDoor

/- Walks: the program's natural numbers: the long division. -/
namespace Go.Proofs.YtmeplgagpnligaaDoor
open Go.RowKit

/-- the blocks of the long division, k digits being left -/
structure LongB (w wr : World) (g bj k n cu cv : Nat) (L v : List Int) (av : Option Addr) (O : List Int) : Prop where
  ju : Blk wr w.heap.size 50 #[.slice (some ⟨g, 0, none⟩) L.length cu]
  jv : Blk wr (w.heap.size + 1) 50 #[.slice av v.length cv]
  jn : Blk wr (w.heap.size + 1 + 1) 3 #[.int .i64 ((n : Int) + 2)]
  jo : BlkN wr (w.heap.size + 1 + 1 + 1) O
  jj : Blk wr bj 3 #[.int .i64 ((k : Int) - 1)]
  hj : w.heap.size + 1 + 1 + 1 < bj
  gr : w.grownBy wr (some g)
section
variable {w wr w' : World} {g bj k n cu cv : Nat} {L v : List Int} {av : Option Addr} {O : List Int}
theorem LongB.below (h : LongB w wr g bj k n cu cv L v av O) (hb : Below wr.heap.size wr w') : LongB w w' g bj k n cu cv L v av O :=
  ⟨h.ju.below' hb, h.jv.below' hb, h.jn.below' hb, BlkN.below h.jo hb, h.jj.below' hb, h.hj, but_below h.gr hb⟩
theorem LongB.but (h : LongB w wr g bj k n cu cv L v av O) (hg : g < w.heap.size) (hb : wr.grownBy w' (some g)) : LongB w w' g bj k n cu cv L v av O :=
  ⟨h.ju.grown hb (fun e => by injection e; omega), h.jv.grown hb (fun e => by injection e; omega), h.jn.grown hb (fun e => by injection e; omega), Blk.grown h.jo hb (fun e => by injection e; omega), h.jj.grown hb (fun e => by injection e; have := h.hj; omega), h.hj, h.gr.trans hb⟩
theorem LongB.far (h : LongB w wr g bj k n cu cv L v av O) {p : Addr} (hp : bj < p.block) (u : Value) : LongB w (wr.setCell p u) g bj k n cu cv L v av O := by
  have := h.hj
  exact ⟨h.ju.far (by omega) u, h.jv.far (by omega) u, h.jn.far (by omega) u, Blk.far h.jo (by omega) u, h.jj.far (by omega) u, h.hj, but_set_new h.gr (by omega) u⟩
end
/-- what the long division keeps, k digits being left -/
structure LongR (w wr : World) (g bj k n m cu cv : Nat) (L v : List Int) (r : List Value) (av : Option Addr) (O Lc : List Int) : Prop where
  bx : LongB w wr g bj k n cu cv L v av O
  row : RowN wr g Lc r
  ol : O.length = m
  ou : U16 O
  ll : Lc.length = L.length
  lu : U16 Lc
  lt : val (Lc.drop k) < val v
  eq : val L = val (O.drop k) * (65536 ^ k * val v) + val Lc
theorem LongR.next {w w7 : World} {g bj j n m cu cv q : Nat} {L v Lx : List Int} {r : List Value} {av : Option Addr} {O : List Int} (hb : LongB w w7 g bj (j + 1) n cu cv L v av O) (hgw : g < w.heap.size) (hrow : RowN w7 g Lx r)
    (hol : O.length = m) (hou : U16 O) (hll : Lx.length = L.length) (hlu : U16 Lx) (hq : q ≤ 65535) (hlt : val (Lx.drop j) < val v) (heq : val L = val ((O.set j (q : Int)).drop j) * (65536 ^ j * val v) + val Lx) :
    LongR w ((w7.setCell ⟨w.heap.size + 1 + 1 + 1, j, none⟩ (.int .u16 (q : Int))).alloc (.cells #[.int .i64 ((j : Int) - 1)] 3)) g w7.heap.size j n m cu cv L v r av (O.set j (q : Int)) Lx := by
  have hjl := hb.jj.lt
  have hj := hb.hj
  refine ⟨⟨(hb.ju.far (by simp; omega) _).alloc _, (hb.jv.far (by simp) _).alloc _, (hb.jn.far (by simp) _).alloc _, (hb.jo.set_ j _).alloc _, ?_, by omega, but_alloc (but_set_new hb.gr (by simp; omega) _) _⟩, (hrow.far (by simp; omega) _).alloc _, by simpa using hol, hou.set_ (by omega), hll, hlu, hlt, heq⟩
  have := Blk.new (w7.setCell ⟨w.heap.size + 1 + 1 + 1, j, none⟩ (.int .u16 (q : Int))) 3 #[.int .i64 ((j : Int) - 1)]
  simpa [World.setCell] using this

theorem blk_at0 (w : World) (o2 : Obj) (t : TypeId) (cs : Array Value) : Blk ((w.alloc (.cells cs t)).alloc o2) w.heap.size t cs := (Blk.new w t cs).alloc o2
theorem blk_at3 (w : World) (o o2 o3 : Obj) (t : TypeId) (cs : Array Value) : Blk ((((w.alloc o).alloc o2).alloc o3).alloc (.cells cs t)) (w.heap.size + 1 + 1 + 1) t cs := by have := Blk.new (((w.alloc o).alloc o2).alloc o3) t cs; simpa using this
theorem blk_at4 (w : World) (o o2 o3 o4 : Obj) (t : TypeId) (cs : Array Value) : Blk (((((w.alloc o).alloc o2).alloc o3).alloc o4).alloc (.cells cs t)) (w.heap.size + 1 + 1 + 1 + 1) t cs := by have := Blk.new ((((w.alloc o).alloc o2).alloc o3).alloc o4) t cs; simpa using this
theorem blkN_at3 (w : World) (o o2 o3 : Obj) (n : Nat) : BlkN ((((w.alloc o).alloc o2).alloc o3).alloc (.cells (madeCells #[.int .u16 0] n) 33)) (w.heap.size + 1 + 1 + 1) (List.replicate n 0) := by have := BlkN.new (((w.alloc o).alloc o2).alloc o3) n; simpa using this
end Go.Proofs.YtmeplgagpnligaaDoor

/- Walks: the program's natural numbers: DivMod. -/
namespace Go.Proofs.YtmeplgagpnligaaDoor
open Go.RowKit

/-- what a call gives that divides -/
def RetQR (n1 n2 : Nat) (w : World) (e : Ending) (w' : World) : Prop := ∃ a1 c1 a2 c2, e = .returned (.tuple #[.slice a1 (limbs (n1 / n2)).length c1, .slice a2 (limbs (n1 % n2)).length c2, .int .i64 0]) ∧
      (∀ V, New w.heap.size w' V → NatR V a1 c1 (limbs (n1 / n2))) ∧ (∀ V, New w.heap.size w' V → NatR V a2 c2 (limbs (n1 % n2))) ∧ Below w.heap.size w w'
end Go.Proofs.YtmeplgagpnligaaDoor

/- math/bits.LeadingZeros16, laid at this program. -/
namespace Go.Proofs
open Go.Shelf

end Go.Proofs
namespace Go.Proofs.YtmeplgagpnligaaDoor

end Go.Proofs.YtmeplgagpnligaaDoor

/- Numbers normed ahead of a long division. No function of the program in sight. -/
namespace Go.Proofs.YtmeplgagpnligaaDoor

theorem norm_len {n2 n x s : Nat} (hl : (limbs n2).length = n + 2) (hx : limbAt (limbs n2) (n + 1) = x) (h1 : 32768 ≤ x * 2 ^ s) (h2 : (x + 1) * 2 ^ s ≤ 65536) :
    (limbs (n2 * 2 ^ s)).length = n + 2 ∧ 32768 ≤ limbAt (limbs (n2 * 2 ^ s)) (n + 1) ∧ 65536 ^ (n + 1) * 32768 ≤ n2 * 2 ^ s := by
  obtain ⟨lo, hlo, e⟩ := val_split_at (limbs_u16 n2) (n + 1)
  rw [val_limbs, val_drop_at, hx, val_drop_all (by omega), Int.toNat_natCast] at e
  simp only [Nat.mul_zero, Nat.add_zero] at e
  have hlow : 65536 ^ (n + 1) * 32768 ≤ n2 * 2 ^ s := by
    have h3 := Nat.mul_le_mul_left (65536 ^ (n + 1)) h1
    have h4 : 65536 ^ (n + 1) * (x * 2 ^ s) ≤ n2 * 2 ^ s := by
      rw [← Nat.mul_assoc]
      exact Nat.mul_le_mul_right _ (by omega)
    omega
  have hup : n2 * 2 ^ s < 65536 ^ (n + 2) := by
    have h3 : n2 < 65536 ^ (n + 1) * (x + 1) := by rw [Nat.mul_add, Nat.mul_one]; omega
    have h4 := Nat.mul_lt_mul_of_pos_right h3 (Nat.two_pow_pos s)
    rw [Nat.mul_assoc] at h4
    have h5 := Nat.mul_le_mul_left (65536 ^ (n + 1)) h2
    rw [Nat.pow_succ 65536 (n + 1)]
    omega
  have hlen : (limbs (n2 * 2 ^ s)).length = n + 2 := by
    have h3 := limbs_len_le hup
    apply Nat.le_antisymm h3
    apply Nat.le_of_not_lt
    intro hc
    have h4 := lt_pow_limbs (n2 * 2 ^ s)
    have h5 : 65536 ^ (limbs (n2 * 2 ^ s)).length ≤ 65536 ^ (n + 1) := Nat.pow_le_pow_right (by omega) (by omega)
    have h6 := pow_pos16 (n + 1)
    omega
  refine ⟨hlen, ?_, hlow⟩
  obtain ⟨lo2, hlo2, e2⟩ := val_split_at (limbs_u16 (n2 * 2 ^ s)) (n + 1)
  rw [val_limbs, val_drop_at, val_drop_all (l := limbs (n2 * 2 ^ s)) (by omega)] at e2
  simp only [Nat.mul_zero, Nat.add_zero] at e2
  have hin := limbAt_in (limbs_u16 (n2 * 2 ^ s)) (n + 1)
  refine Int.not_lt.1 (fun hc => ?_)
  have h3 : (limbAt (limbs (n2 * 2 ^ s)) (n + 1)).toNat + 1 ≤ 32768 := by omega
  have h4 := Nat.mul_le_mul_left (65536 ^ (n + 1)) h3
  rw [Nat.mul_add, Nat.mul_one] at h4
  omega
/-- the dividend with zeros above it -/
theorem pad_val {S : List Int} {k : Nat} (h1 : S.length ≤ k) (h2 : k ≤ S.length + 2) : ((S ++ [0, 0]).take k).length = k ∧ val ((S ++ [0, 0]).take k) = val S := by
  refine ⟨by simp; omega, ?_⟩
  have e : k = S.length ∨ k = S.length + 1 ∨ k = S.length + 2 := by omega
  rw [List.take_append, List.take_of_length_le h1, val_append]
  have z : val (([0, 0] : List Int).take (k - S.length)) = 0 := by
    rcases e with e | e | e
    · rw [e, Nat.sub_self]; rfl
    · rw [e, show S.length + 1 - S.length = 1 by omega]; rfl
    · rw [e, show S.length + 2 - S.length = 2 by omega]; rfl
  rw [z, Nat.mul_zero, Nat.add_zero]
theorem shl_lens {n1 s : Nat} (hs : s ≤ 15) : (limbs n1).length ≤ (limbs (n1 * 2 ^ s)).length ∧ (limbs (n1 * 2 ^ s)).length ≤ (limbs n1).length + 1 := by
  constructor
  · exact limbs_len_mono (Nat.le_mul_of_pos_right _ (Nat.two_pow_pos s))
  · apply limbs_len_le
    rw [Nat.pow_succ]
    have h1 := lt_pow_limbs n1
    have h2 := pow_le15 hs
    exact Nat.mul_lt_mul'' h1 (by omega)
/-- the first digits of the dividend are below the divisor -/
theorem long_first {L : List Int} {n1 m s n : Nat} (hL : U16 L) (hv : val L = n1 * 2 ^ s) (hs : s ≤ 15) (hl : L.length = (limbs n1).length + 1) (hn : n + 2 ≤ (limbs n1).length) (hm : 65536 ^ (n + 1) * 32768 ≤ m) : val (L.drop (L.length - (n + 2))) < m := by
  obtain ⟨k, hk⟩ : ∃ k, L.length - (n + 2) = k := ⟨_, rfl⟩
  rw [hk]
  obtain ⟨lo, hlo, e⟩ := val_split_at hL k
  rw [hv] at e
  have h1 := lt_pow_limbs n1
  have h2 := pow_le15 hs
  have h3 : n1 * 2 ^ s < 65536 ^ (limbs n1).length * 32768 := by
    have h4 := Nat.mul_lt_mul_of_pos_right h1 (Nat.two_pow_pos s)
    have h5 := Nat.mul_le_mul_left (65536 ^ (limbs n1).length) h2
    omega
  have h6 : 65536 ^ (limbs n1).length * 32768 = 65536 ^ k * (65536 ^ (n + 1) * 32768) := by
    rw [← Nat.mul_assoc, ← Nat.pow_add]
    congr 2
    omega
  have h7 := Nat.mul_le_mul_left (65536 ^ k) hm
  apply Nat.lt_of_not_le
  intro hc
  have h8 := Nat.mul_le_mul_left (65536 ^ k) hc
  omega
end Go.Proofs.YtmeplgagpnligaaDoor

/- Walks: the program's natural numbers: DivMod of two long numbers; Gcd. -/
namespace Go.Proofs.YtmeplgagpnligaaDoor
open Go.RowKit

theorem zeros2 (w : World) : NatR (w.alloc (.cells #[.int .u16 0, .int .u16 0] 33)) (some ⟨w.heap.size, 0, none⟩) 2 [0, 0] :=
  BlkN.readsV (l := [0, 0]) (B := w.heap.size) (Blk.new w _ _) (Nat.le_refl _) (New.refl _ _) (by intro x hx; simp at hx; omega) (by simp) (by simp [maxLen])
end Go.Proofs.YtmeplgagpnligaaDoor

/- Walks: the program's natural numbers: DivMod, Gcd. -/
namespace Go.Proofs.YtmeplgagpnligaaDoor
open Go.RowKit

end Go.Proofs.YtmeplgagpnligaaDoor

/- Walks: the program's rational numbers: one. -/
namespace Go.Proofs.YtmeplgagpnligaaDoor
open Go.RowKit

/-- a number without leading zeros is 1 -/
theorem one_limbs (n : Nat) : decide ((limbs n).length = 1 ∧ limbAt (limbs n) 0 = 1) = decide (n = 1) := by
  rw [decide_eq_decide]
  constructor
  · rintro ⟨h1, h2⟩
    match hl : limbs n, h1 with
    | [x], _ =>
      rw [hl] at h2
      have hv := val_limbs n
      rw [hl] at hv
      simp [limbAt] at h2
      subst h2
      simp [val] at hv
      exact hv.symm
  · rintro rfl
    have e : limbs 1 = [1] := by rw [limbs_pos (by omega)]; simp [limbs_zero]
    rw [e]
    exact ⟨rfl, rfl⟩

end Go.Proofs.YtmeplgagpnligaaDoor

/- Walks of the reference's natural numbers: limb, Norm, Of, short, Cmp, Valid, Same. -/
namespace Go.Proofs.YtmeplgagpnligaaDoor
open Go.RowKit

set_option maxHeartbeats 400000 in
theorem limb01_any (l : List Int) (k : Nat) (a : Option Addr) (c : Nat) (w : World) (h : NatR w a c l) :
    Calls Tryd.prog 60 #[.slice a l.length c, .int .i64 k] w fun r w' => r = .returned (.int .i64 (limbAt l k)) ∧ w = w' := by
  have hl := h.len
  have hU := h.u16
  by_cases hlt : k < l.length
  · obtain ⟨x, hx⟩ := get_of_lt hlt
    obtain ⟨b, off, rfl, hc⟩ := h.cell hx
    have hxr := hU.get hx
    have he : limbAt l k = x := limbAt_some hx
    rw [he]
    clear h hU he hx
    obtain ⟨hx0, hx1⟩ := hxr
    go_enter Tryd.func60, Tryd.ntmps60
    go_wp2
    go_ret
    exact ⟨rfl, rfl⟩
  · have he : limbAt l k = 0 := limbAt_none (by omega)
    rw [he]
    clear h hU he
    go_enter Tryd.func60, Tryd.ntmps60
    go_wp2
    go_ret
    exact ⟨rfl, rfl⟩
theorem limb01_quiet (l : List Int) (k : Nat) (a : Option Addr) (c : Nat) (w : World) (h : NatR w a c l) :
    Calls Tryd.prog 60 #[.slice a l.length c, .int .i64 k] w fun r w' => r = .returned (.int .i64 (limbAt l k)) ∧ w' = w :=
  (limb01_any l k a c w h).mono fun _ _ h => ⟨h.1, h.2.symm⟩

set_option maxHeartbeats 400000 in
theorem norm01_any (l : List Int) (a : Option Addr) (c : Nat) (w : World) (h : NatR w a c l) (hl : l.length ≤ 16777216) :
    Calls Tryd.prog 45 #[.slice a l.length c] w (RetN (limbs (val l)) w) := by
  have hcap := h.1
  have hmx := h.2.1
  have H := Lib.hid h
  clear h
  unfold maxLen at hmx
  go_enter Tryd.func45, Tryd.ntmps45
  go_wp2
  go_loop [3] (fun n => ∃ k : Nat, k ≤ l.length ∧ n = .int .i64 k ∧ Hid (val (l.drop k) = 0)) (fun n => (intOf n).toNat)
  case atStart => exact ⟨l.length, Nat.le_refl _, rfl, val_drop_all (Nat.le_refl _)⟩
  case round =>
    obtain ⟨k, hk, rfl, hz⟩ := hrel
    by_cases h0 : k = 0
    · subst h0
      have hg : decide ((0 : Int) < ((0 : Nat) : Int)) = false := by simp
      have hcut : limbs (val l) = [] := by
        have : val l = 0 := by simpa using hz.out
        rw [this, limbs_zero]
      go_wp2_with (at_builtin; go_must (refine append_nats (B := w.heap.size) rfl (.tmp 19) (.tmp 22) rfl none 0 (l := []) rfl Own.nil a c (m := []) rfl H.out.zero [] rfl (by simp) (Nat.le_refl _) ?_); intro a' c' w1 hown hg1 hb1)
      go_ret
      exact RetN.own hown U16.nil hb1 rfl rfl
    · have hgt : decide ((0 : Int) < (k : Int)) = true := by simp; omega
      have hk1 : (k : Int) - 1 = ((k - 1 : Nat) : Int) := by omega
      obtain ⟨x, hx⟩ := get_of_lt (xs := l) (k := k - 1) (by omega)
      obtain ⟨b, off, rfl, hc⟩ := H.out.cell hx
      have hr := H.out.u16.get hx
      have hge : (0 : Int) ≤ (k : Int) - 1 := by omega
      have hvd := val_drop hx
      have ek : k - 1 + 1 = k := by omega
      rw [ek] at hvd
      have HV := Lib.hid hvd
      have HX := Lib.hid hx
      have HK := Lib.hid hk1
      have hc' : w.cell? ⟨b, off + (k - 1), none⟩ = some (.int .u16 x) := hc
      clear hvd hx hc ek hk1
      by_cases hx0 : x = 0
      · subst hx0
        have e0 : ((0 : Int) == 0) = true := rfl
        go_wp2
        all_goals
          go_round
          case rel => exact ⟨k - 1, by omega, by rw [HK.out], by show val _ = 0; rw [HV.out, hz.out]; rfl⟩
          case measure => simp [intOf]; omega
      · have e0 : (x == 0) = false := by simpa using hx0
        have hcut : limbs (val l) = l.take k := limbs_cut H.out.u16 hz.out (fun y _ hy => by
          rw [HX.out] at hy
          injection hy with hy
          rw [← hy]; exact hx0) hk
        have HC := Lib.hid hcut
        clear hcut
        have hlen : (l.take k).length = k := by simp; omega
        have HL := Lib.hid hlen
        clear hlen
        go_wp2_with (at_builtin; go_must (refine append_nats (B := w.heap.size) rfl (.tmp 19) (.tmp 22) rfl none 0 (l := []) rfl Own.nil (some ⟨b, off, none⟩) c (m := l.take k) (by rw [HL.out]; rfl) (H.out.take k) (l.take k) rfl (by rw [HL.out]; omega) (Nat.le_refl _) ?_); intro a' c' w1 hown hg1 hb1)
        go_ret
        exact RetN.own hown (H.out.u16.take k) hb1 HC.out HL.out.symm

theorem take_limbs (n : Nat) : U16 (limbs n) := limbs_u16 n
set_option maxHeartbeats 400000 in
theorem of01_any (n : Nat) (w : World) (hn : n < 18446744073709551616) :
    Calls Tryd.prog 32 #[.int .u64 n] w (RetN (limbs n) w) := by
  go_enter Tryd.func32, Tryd.ntmps32
  go_wp2
  go_loopw [0, 3] (fun i s wr => ∃ (m : Nat) (l : List Int) (a : Option Addr) (c : Nat), m ≤ n ∧ i = .int .u64 m ∧ s = .slice a l.length c ∧ OwnN w.heap.size wr a c l ∧ U16 l ∧ l.length ≤ 1000 ∧ Below w.heap.size w wr ∧ Hid (limbs n = l ++ limbs m)) (fun i _ _ => (intOf i).toNat)
  case atStart => exact ⟨n, [], none, 0, Nat.le_refl _, rfl, rfl, Own.nil, U16.nil, by simp, Below.refl _ _, rfl⟩
  case round =>
    obtain ⟨m, l, a, c, hm, rfl, rfl, ho, hU, hlen, hb, hr⟩ := hrel
    have HO := Lib.hid ho
    clear ho
    by_cases h0 : m = 0
    · subst h0
      have HR : limbs n = l := by have := hr.out; rw [limbs_zero] at this; simpa using this
      replace HR := Lib.hid HR
      go_wp2
      go_ret
      exact RetN.own HO.out hU hb HR.out rfl
    · have hgt : decide ((0 : Int) < (m : Int)) = true := by simp; omega
      have hs : limbs m = ((m % 65536 : Nat) : Int) :: limbs (m / 65536) := limbs_pos h0
      have hr2 : limbs n = (l ++ [((m % 65536 : Nat) : Int)]) ++ limbs (m / 65536) := by rw [hr.out, hs]; simp
      have HR := Lib.hid hr2
      clear hs hr2
      have hlt : m < 18446744073709551616 := by omega
      have hm1 : ((m : Int) % 65536) = ((m % 65536 : Nat) : Int) := by omega
      have hm2 : ((m : Int) / 65536) = ((m / 65536 : Nat) : Int) := by omega
      have HM1 := Lib.hid hm1
      have HM2 := Lib.hid hm2
      clear hm1 hm2
      go_wp2_with (at_builtin; go_must (refine append_nat rfl (.tmp 6) (.tmp 10) rfl a c rfl (HO.out.alloc _) ((m % 65536 : Nat) : Int) wr.heap.size 1 rfl (by simp <;> omega) (l ++ [((m % 65536 : Nat) : Int)]) rfl (by simp; omega) (by have := hb.size; simp; omega) ?_); intro a2 c2 w2 ho2 hg2 hx2)
      go_roundw
      case rel =>
        have hb1 : Below w.heap.size w w2 := below_append' (hb.alloc hb.size _) (HO.out.alloc _) hg2
        have hl4 : (l ++ [((m % 65536 : Nat) : Int)]).length ≤ 1000 := by
          have h4 : (limbs n).length ≤ 4 := limbs_len_le (by simpa using hn)
          rw [HR.out] at h4
          simp only [List.length_append] at h4 ⊢
          omega
        exact ⟨m / 65536, l ++ [((m % 65536 : Nat) : Int)], a2, c2, by omega, by rw [HM2.out], by simp, ho2, hU.app (U16.cons (by omega) U16.nil), hl4, hb1, HR.out⟩
      case measure => rw [HM2.out]; simp [intOf]; omega

theorem val_drop_le (l : List Int) (k : Nat) : val (l.drop k) ≤ val l := by
  by_cases hk : k ≤ l.length
  · have := val_split l k
    have h1 : 1 ≤ 65536 ^ (l.take k).length := Nat.one_le_pow _ _ (by omega)
    have h2 := Nat.mul_le_mul_right (val (l.drop k)) h1
    omega
  · rw [val_drop_all (by omega)]; omega
set_option maxHeartbeats 400000 in
theorem short01_any (l : List Int) (a : Option Addr) (c : Nat) (w : World) (h : NatR w a c l) (hv : val l < 18446744073709551616) :
    Calls Tryd.prog 47 #[.slice a l.length c] w fun r w' => r = .returned (.int .u64 (val l)) ∧ w = w' := by
  have hlen := h.len
  have H := Lib.hid h
  clear h
  go_enter Tryd.func47, Tryd.ntmps47
  go_wp2
  go_loop [3, 4] (fun n i => ∃ k : Nat, k ≤ l.length ∧ i = .int .i64 ((k : Int) - 1) ∧ n = .int .u64 (val (l.drop k) : Nat)) (fun _ i => (intOf i + 1).toNat)
  case atStart => exact ⟨l.length, Nat.le_refl _, rfl, by rw [val_drop_all (Nat.le_refl _)]; rfl⟩
  case round =>
    obtain ⟨k, hk, rfl, rfl⟩ := hrel
    by_cases h0 : k = 0
    · subst h0
      go_wp2
      go_ret
      exact ⟨by simp, rfl⟩
    · have hgt : decide ((0 : Int) ≤ (k : Int) - 1) = true := by simp; omega
      have hge : (0 : Int) ≤ (k : Int) - 1 := by omega
      obtain ⟨x, hx⟩ := get_of_lt (xs := l) (k := k - 1) (by omega)
      obtain ⟨b, off, rfl, hc⟩ := H.out.cell hx
      obtain ⟨hx0, hx1⟩ := H.out.u16.get hx
      have hvd := val_drop hx
      have ek : k - 1 + 1 = k := by omega
      rw [ek] at hvd
      have hle := val_drop_le l (k - 1)
      have HV := Lib.hid hvd
      have hb1 : (val (l.drop k) : Int) * 65536 + x ≤ 18446744073709551615 := by omega
      have hb0 : 0 ≤ (val (l.drop k) : Int) * 65536 := by omega
      have hb2 : (val (l.drop k) : Int) * 65536 ≤ 18446744073709551615 := by omega
      clear hvd ek hx hle
      go_wp2
      all_goals
        go_round
        case rel => exact ⟨k - 1, by omega, by first | (congr 1; omega) | rfl, val_int (by rw [HV.out]; omega)⟩
        case measure => simp [intOf]; omega

set_option maxHeartbeats 400000 in
theorem cmp01_any (l m : List Int) (a a' : Option Addr) (c c' : Nat) (w : World) (h : NatR w a c l) (h' : NatR w a' c' m) (hl : l.length ≤ 16777216) (hm : m.length ≤ 16777216) :
    Calls Tryd.prog 69 #[.slice a l.length c, .slice a' m.length c'] w fun r w' => r = .returned (.int .i64 (cmpN (val l) (val m))) ∧ w = w' := by
  have hU := h.u16
  have hU' := h'.u16
  have H := Lib.hid h
  have H' := Lib.hid h'
  clear h h'
  go_enter Tryd.func69, Tryd.ntmps69
  go_wp2
  all_goals
    go_loop [5] (fun i => ∃ k : Nat, k ≤ 16777216 ∧ i = .int .i64 ((k : Int) - 1) ∧ Hid (val (l.drop k) = val (m.drop k))) (fun i => (intOf i + 1).toNat)
    case atStart => first
        | exact ⟨m.length, hm, rfl, by show _ = _; rw [val_drop_all (by omega), val_drop_all (by omega)]⟩
        | exact ⟨l.length, hl, rfl, by show _ = _; rw [val_drop_all (by omega), val_drop_all (by omega)]⟩
        | exact ⟨max l.length m.length, by omega, val_int (by omega), by show _ = _; rw [val_drop_all (by omega), val_drop_all (by omega)]⟩
    case round =>
      obtain ⟨k, hk, rfl, he⟩ := hrel
      by_cases h0 : k = 0
      · subst h0
        have hz : cmpN (val l) (val m) = 0 := by have := he.out; simp at this; rw [this]; simp [cmpN]
        replace hz := Lib.hid hz
        go_wp2
        go_ret
        exact ⟨ret_int hz.out.symm, rfl⟩
      · have hgt : decide ((0 : Int) ≤ (k : Int) - 1) = true := by simp; omega
        have hge : (0 : Int) ≤ (k : Int) - 1 := by omega
        have ek : k - 1 + 1 = k := by omega
        have hkk : (k : Int) - 1 = ((k - 1 : Nat) : Int) := by omega
        have CX := limb01_any l (k - 1) a c w H.out
        have CY := limb01_any m (k - 1) a' c' w H'.out
        have hlx := limbAt_in hU (k - 1)
        have hly := limbAt_in hU' (k - 1)
        have hL : val (l.drop k) = val (m.drop k) → limbAt l (k - 1) < limbAt m (k - 1) → val l < val m := fun e => val_lt_of hU hU' (k - 1) (by rw [ek]; exact e)
        have hG : val (l.drop k) = val (m.drop k) → limbAt m (k - 1) < limbAt l (k - 1) → val m < val l := fun e => val_lt_of hU' hU (k - 1) (by rw [ek]; exact e.symm)
        have hE : val (l.drop k) = val (m.drop k) → limbAt l (k - 1) = limbAt m (k - 1) → val (l.drop (k - 1)) = val (m.drop (k - 1)) := fun e e2 => by rw [val_drop_at, val_drop_at (l := m), ek, e, e2]
        rw [← hkk] at CX CY
        revert CX CY hlx hly hL hG hE
        generalize limbAt l (k - 1) = x
        generalize limbAt m (k - 1) = y
        intro CX CY hlx hly hL hG hE
        replace CX := Lib.hid CX
        replace CY := Lib.hid CY
        replace hL := hL he.out
        replace hG := hG he.out
        have HE := Lib.hid (hE he.out)
        clear hE hkk
        by_cases hlt : x < y
        · have hv := hL hlt
          clear hL hG HE
          go_wp2_with (go_at_call 60; (first | ((with_reducible refine CX.out.mono ?_); rintro e w' ⟨rfl, rfl⟩) | ((with_reducible refine CY.out.mono ?_); rintro e w' ⟨rfl, rfl⟩)))
          go_ret
          exact ⟨ret_int (by unfold cmpN; rw [if_pos hv]), rfl⟩
        · by_cases hgt2 : y < x
          · have hv := hG hgt2
            clear hL hG HE
            go_wp2_with (go_at_call 60; (first | ((with_reducible refine CX.out.mono ?_); rintro e w' ⟨rfl, rfl⟩) | ((with_reducible refine CY.out.mono ?_); rintro e w' ⟨rfl, rfl⟩)))
            go_ret
            exact ⟨ret_int (by unfold cmpN; rw [if_neg (by omega), if_pos hv]), rfl⟩
          · clear hL hG
            go_wp2_with (go_at_call 60; (first | ((with_reducible refine CX.out.mono ?_); rintro e w' ⟨rfl, rfl⟩) | ((with_reducible refine CY.out.mono ?_); rintro e w' ⟨rfl, rfl⟩)))
            all_goals
              go_round
              case rel => exact ⟨k - 1, by omega, by first | (congr 1; omega) | rfl, HE.out (by omega)⟩
              case measure => simp [intOf]; omega
end Go.Proofs.YtmeplgagpnligaaDoor
