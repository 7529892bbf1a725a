/- Walks: the program's natural numbers: Add. -/
import Derived.Test.YtdnblkklgdnapaaGreatRc8
import Derived.Test.YtdnblkklgdnapaaGreatRc10
import Derived.Test.YtdnblkklgdnapaaGreatRc1
import Derived.Test.YtdnblkklgdnapaaGreatRc2
set_option linter.all false
set_option maxRecDepth 100000
set_option maxHeartbeats 4000000
namespace Go.Proofs.YtdnblkklgdnapaaGreat
def qv (neg : Bool) (n d : Nat) : Rat := mkRat (zval neg n) d
def trip (q : Rat) : Bool × Nat × Nat := (decide (q.num < 0), q.num.natAbs, q.den)
theorem zval_abs (neg : Bool) (n : Nat) : (zval neg n).natAbs = n := by unfold zval; split <;> omega
theorem zval_mul (a b : Bool) (n m : Nat) : zval (a != b) (n * m) = zval a n * zval b m := by
 unfold zval; cases a <;> cases b <;> simp [Int.neg_mul, Int.mul_neg]
theorem zval_self (z : Int) : zval (decide (z < 0)) z.natAbs = z := by
 unfold zval; split
 · next h => simp at h; omega
 · next h => simp at h; omega
theorem zval_div {neg : Bool} {n g : Nat} (hg : g ∣ n) : zval neg n / (g : Int) = zval neg (n / g) := by
 obtain ⟨k, rfl⟩ := hg
 by_cases h0 : g = 0
 · subst h0; unfold zval; cases neg <;> simp
 ·
  have hp : (g : Int) ≠ 0 := by omega
  rw [Nat.mul_div_cancel_left _ (by omega)]
  unfold zval
  cases neg
  · simp; rw [Int.mul_ediv_cancel_left _ hp]
  ·
   simp only [if_true, Int.natCast_mul]
   rw [<- Int.mul_neg, Int.mul_ediv_cancel_left _ hp]
theorem zval_lt (neg : Bool) (n : Nat) : decide (zval neg n < 0) = (neg && decide (0 < n)) := by
 unfold zval; cases neg <;> simp
theorem lowest_qv (neg : Bool) (n d : Nat) : lowest neg n d = trip (qv neg n d) := by
 unfold lowest trip qv
 rw [Rat.num_mkRat, Rat.den_mkRat]
 by_cases h0 : d = 0
 · simp [h0]
 · rw [if_neg h0, if_neg h0, if_neg h0, zval_abs, Nat.gcd_comm d n, zval_div (Nat.gcd_dvd_left n d), zval_lt, zval_abs]
theorem qv_trip (q : Rat) : qv (trip q).1 (trip q).2.1 (trip q).2.2 = q := by
 unfold qv trip
 dsimp only
 rw [zval_self, Rat.mkRat_self]
theorem qv_parts (q : Rat) : qv (decide (q.num < 0)) q.num.natAbs q.den = q := qv_trip q
theorem zval_scale (a : Bool) (n m : Nat) : zval a (n * m) = zval a n * m := by unfold zval; cases a <;> simp [Int.neg_mul]
theorem qv_add (a b : Bool) (n d m c : Nat) (hd : d ≠ 0) (hc : c ≠ 0) : mkRat (zval a n * c + zval b m * d) (d * c) = qv a n d + qv b m c := by
 unfold qv; rw [Rat.mkRat_add_mkRat _ _ hd hc]
theorem qv_mul (a b : Bool) (n d m c : Nat) : qv (a != b) (n * m) (d * c) = qv a n d * qv b m c := by
 unfold qv; rw [Rat.mkRat_mul_mkRat, zval_mul]
end Go.Proofs.YtdnblkklgdnapaaGreat
namespace Go.Proofs.YtdnblkklgdnapaaGreat
open Go.RowKit
def Mok (B : Int) (m : List Int) : Prop := (∀ x ∈ m, 0 <= x /\ x <= B) /\ m[m.length - 1]? ≠ some 0 /\ m.length <= 64
theorem Mok.nil (B : Int) : Mok B [] := ⟨fun x h => (by cases h), by simp, by simp⟩
theorem Mok.more {B B' : Int} {m : List Int} (h : Mok B m) (hB : B <= B') : Mok B' m := ⟨fun x hx => ⟨(h.1 x hx).1, Int.le_trans (h.1 x hx).2 hB⟩, h.2⟩
theorem Mok.exp {B : Int} {m : List Int} (h : Mok B m) (hB : 0 <= B) (v : Nat) : 0 <= expAt m v /\ expAt m v <= B := by
 unfold expAt
 rw [List.getD_eq_getElem?_getD]
 cases hx : m[v]? with
 | none => simpa using hB
 | some x => exact h.1 x (List.mem_of_getElem? hx)
theorem mok_ext_le {B : Int} {a b : List Int} (hb : Mok B b) (h : ∀ v, expAt a v = expAt b v) : b.length <= a.length := by
 rcases Nat.lt_or_ge a.length b.length with hl | hl
 ·
  exfalso
  obtain ⟨x, hx⟩ := get_of_lt (show b.length - 1 < b.length by omega)
  have h1 := h (b.length - 1)
  rw [expAt_far (by omega), expAt_get hx] at h1
  exact hb.2.1 (by rw [hx, <- h1])
 · exact hl
theorem mok_ext {B B' : Int} {a b : List Int} (ha : Mok B a) (hb : Mok B' b) (h : ∀ v, expAt a v = expAt b v) : a = b := by
 have h1 := mok_ext_le hb h
 have h2 := mok_ext_le ha fun v => (h v).symm
 apply List.ext_getElem (by omega)
 intro i hi1 hi2
 have := h i
 rwa [expAt_get (List.getElem?_eq_getElem hi1), expAt_get (List.getElem?_eq_getElem hi2)] at this
def gtM (a b : List Int) : Prop := ∃ v, expAt b v < expAt a v /\ ∀ u, v < u -> expAt a u = expAt b u
theorem gtM_trans {a b c : List Int} (h : gtM a b) (k : gtM b c) : gtM a c := by
 obtain ⟨v, h1, h2⟩ := h
 obtain ⟨u, k1, k2⟩ := k
 rcases Nat.lt_trichotomy v u with e | e | e
 · exact ⟨u, by rw [h2 u e]; exact k1, fun x hx => (h2 x (by omega)).trans (k2 x hx)⟩
 · subst e; exact ⟨v, by omega, fun x hx => (h2 x hx).trans (k2 x hx)⟩
 · exact ⟨v, by rw [<- k2 v e]; exact h1, fun x hx => (h2 x hx).trans (k2 x (by omega))⟩
theorem gtM_irrefl {a b : List Int} (h : gtM a b) : ¬ ∀ v, expAt a v = expAt b v := fun e => by
 obtain ⟨v, h1, _⟩ := h
 rw [e v] at h1
 omega
theorem gtM_asymm {a b : List Int} (h : gtM a b) (k : gtM b a) : False := gtM_irrefl (gtM_trans h k) fun _ => rfl
theorem lexDown_cases (a b : List Int) : ∀ n, (∀ v, n <= v -> expAt a v = expAt b v) ->
  (lexDown a b n = 0 /\ ∀ v, expAt a v = expAt b v) \/ (lexDown a b n = 1 /\ gtM a b) \/ (lexDown a b n = -1 /\ gtM b a)
 | 0, h => .inl ⟨rfl, fun v => h v (Nat.zero_le _)⟩
 | n + 1, h => by
  unfold lexDown
  by_cases e : expAt a n = expAt b n
  ·
   rw [if_pos e]
   exact lexDown_cases a b n fun v hv => by
    rcases Nat.eq_or_lt_of_le hv with e' | e'
    · subst e'; exact e
    · exact h v e'
  ·
   rw [if_neg e]
   by_cases l : expAt a n < expAt b n
   ·
    rw [if_pos l]
    exact .inr (.inr ⟨rfl, n, l, fun u hu => (h u hu).symm⟩)
   ·
    rw [if_neg l]
    exact .inr (.inl ⟨rfl, n, by omega, fun u hu => h u hu⟩)
theorem lexI_cases (a b : List Int) : (lexI a b = 0 /\ ∀ v, expAt a v = expAt b v) \/ (lexI a b = 1 /\ gtM a b) \/ (lexI a b = -1 /\ gtM b a) :=
 lexDown_cases a b _ fun v hv => by rw [expAt_far (by omega), expAt_far (by omega)]
theorem lexI_pos {a b : List Int} : 0 < lexI a b ↔ gtM a b := by
 rcases lexI_cases a b with ⟨h, e⟩ | ⟨h, e⟩ | ⟨h, e⟩ <;> rw [h]
 · exact ⟨fun h => by omega, fun h => (gtM_irrefl h e).elim⟩
 · exact ⟨fun _ => e, fun _ => by omega⟩
 · exact ⟨fun h => by omega, fun h => (gtM_asymm h e).elim⟩
theorem lexI_neg {a b : List Int} : lexI a b < 0 ↔ gtM b a := by
 rcases lexI_cases a b with ⟨h, e⟩ | ⟨h, e⟩ | ⟨h, e⟩ <;> rw [h]
 · exact ⟨fun h => by omega, fun h => (gtM_irrefl h fun v => (e v).symm).elim⟩
 · exact ⟨fun h => by omega, fun h => (gtM_asymm h e).elim⟩
 · exact ⟨fun _ => e, fun _ => by omega⟩
theorem lexI_eq {B B' : Int} {a b : List Int} (ha : Mok B a) (hb : Mok B' b) (h1 : ¬ 0 < lexI a b) (h2 : ¬ lexI a b < 0) : a = b := by
 rcases lexI_cases a b with ⟨h, e⟩ | ⟨h, e⟩ | ⟨h, e⟩
 · exact mok_ext ha hb e
 · omega
 · omega
theorem gtM_total {B B' : Int} {a b : List Int} (ha : Mok B a) (hb : Mok B' b) : a = b \/ gtM a b \/ gtM b a := by
 rcases lexI_cases a b with ⟨_, e⟩ | ⟨_, e⟩ | ⟨_, e⟩
 · exact .inl (mok_ext ha hb e)
 · exact .inr (.inl e)
 · exact .inr (.inr e)
def mulM (a b : List Int) : List Int := (List.range (max a.length b.length)).map fun v => expAt a v + expAt b v
theorem mulM_len (a b : List Int) : (mulM a b).length = max a.length b.length := by simp [mulM]
theorem mulM_get (a b : List Int) {v : Nat} (h : v < max a.length b.length) : (mulM a b)[v]? = some (expAt a v + expAt b v) := by
 unfold mulM
 rw [List.getElem?_map, List.getElem?_range h]
 rfl
theorem expAt_mul (a b : List Int) (v : Nat) : expAt (mulM a b) v = expAt a v + expAt b v := by
 rcases Nat.lt_or_ge v (max a.length b.length) with h | h
 · exact expAt_get (mulM_get a b h)
 · rw [expAt_far (by rw [mulM_len]; exact h), expAt_far (l := a) (by omega), expAt_far (l := b) (by omega)]; rfl
theorem mulM_ok {B B' : Int} {a b : List Int} (ha : Mok B a) (hb : Mok B' b) (hB : 0 <= B) (hB' : 0 <= B') : Mok (B + B') (mulM a b) := by
 refine ⟨?_, ?_, by rw [mulM_len]; have := ha.2.2; have := hb.2.2; omega⟩
 ·
  intro x hx
  obtain ⟨v, hv, rfl⟩ := List.mem_map.1 hx
  have h1 := ha.exp hB v
  have h2 := hb.exp hB' v
  omega
 ·
  rw [mulM_len]
  rcases Nat.eq_zero_or_pos (max a.length b.length) with h | h
  ·
   have : mulM a b = [] := List.eq_nil_of_length_eq_zero (by rw [mulM_len, h])
   rw [this]; simp
  ·
   rw [mulM_get a b (by omega)]
   intro e
   injection e with e
   have h1 := ha.exp hB (max a.length b.length - 1)
   have h2 := hb.exp hB' (max a.length b.length - 1)
   rcases Nat.le_total a.length b.length with l | l
   ·
    obtain ⟨x, hx⟩ := get_of_lt (show b.length - 1 < b.length by omega)
    rw [show max a.length b.length = b.length by omega] at e h1 h2
    rw [expAt_get hx] at e h2
    exact hb.2.1 (by rw [hx, show x = 0 by omega])
   ·
    obtain ⟨x, hx⟩ := get_of_lt (show a.length - 1 < a.length by omega)
    rw [show max a.length b.length = a.length by omega] at e h1 h2
    rw [expAt_get hx] at e h1
    exact ha.2.1 (by rw [hx, show x = 0 by omega])
theorem mulM_comm (a b : List Int) : mulM a b = mulM b a := by
 unfold mulM
 rw [Nat.max_comm]
 exact List.map_congr_left fun v _ => Int.add_comm _ _
theorem gtM_mul {a b : List Int} (h : gtM a b) (c : List Int) : gtM (mulM a c) (mulM b c) := by
 obtain ⟨v, h1, h2⟩ := h
 refine ⟨v, by rw [expAt_mul, expAt_mul]; omega, fun u hu => by rw [expAt_mul, expAt_mul, h2 u hu]⟩
theorem mulM_nil {a : List Int} : mulM a [] = a := by
 apply List.ext_getElem?
 intro i
 rcases Nat.lt_or_ge i a.length with h | h
 ·
  rw [mulM_get a [] (by simpa using h), List.getElem?_eq_getElem h, expAt_get (List.getElem?_eq_getElem h), expAt_far (l := []) (by simp)]
  simp
 · rw [List.getElem?_eq_none h, List.getElem?_eq_none (by rw [mulM_len]; simpa using h)]
abbrev Tm := Rat × List Int
def coefP : List Tm -> List Int -> Rat
 | [], _ => 0
 | t :: p, m => (if t.2 = m then t.1 else 0) + coefP p m
def Tok (B : Int) (p : List Tm) : Prop := ∀ t ∈ p, Mok B t.2 /\ t.1 ≠ 0
def Pok (B : Int) (p : List Tm) : Prop := Tok B p /\ p.Pairwise fun s t => gtM s.2 t.2
theorem Pok.nil (B : Int) : Pok B [] := ⟨fun t h => (by cases h), List.Pairwise.nil⟩
theorem Pok.more {B B' : Int} {p : List Tm} (h : Pok B p) (hB : B <= B') : Pok B' p := ⟨fun t ht => ⟨(h.1 t ht).1.more hB, (h.1 t ht).2⟩, h.2⟩
theorem Pok.tail {B : Int} {t : Tm} {p : List Tm} (h : Pok B (t :: p)) : Pok B p := ⟨fun s hs => h.1 s (List.mem_cons_of_mem _ hs), h.2.tail⟩
theorem Pok.head {B : Int} {t : Tm} {p : List Tm} (h : Pok B (t :: p)) : Mok B t.2 /\ t.1 ≠ 0 := h.1 t (List.mem_cons_self)
theorem Pok.gt {B : Int} {t : Tm} {p : List Tm} (h : Pok B (t :: p)) : ∀ s ∈ p, gtM t.2 s.2 := (List.pairwise_cons.1 h.2).1
theorem Pok.cons {B : Int} {t : Tm} {p : List Tm} (h : Pok B p) (h1 : Mok B t.2) (h2 : t.1 ≠ 0) (h3 : ∀ s ∈ p, gtM t.2 s.2) : Pok B (t :: p) :=
 ⟨fun s hs => (by rcases List.mem_cons.1 hs with rfl | hs
                  · exact ⟨h1, h2⟩
                  · exact h.1 s hs), List.pairwise_cons.2 ⟨h3, h.2⟩⟩
theorem coefP_none {p : List Tm} {m : List Int} (h : ∀ s ∈ p, s.2 ≠ m) : coefP p m = 0 := by
 induction p with
 | nil => rfl
 | cons t p ih =>
  unfold coefP
  rw [if_neg (h t (List.mem_cons_self)), ih fun s hs => h s (List.mem_cons_of_mem _ hs)]
  grind
theorem gtM_ne {a b : List Int} (h : gtM a b) : a ≠ b := fun e => gtM_irrefl h fun v => by rw [e]
theorem coefP_head {B : Int} {t : Tm} {p : List Tm} (h : Pok B (t :: p)) : coefP (t :: p) t.2 = t.1 := by
 unfold coefP
 rw [if_pos rfl, coefP_none fun s hs e => gtM_ne (h.gt s hs) e.symm]
 grind
theorem coefP_above {B : Int} {t : Tm} {p : List Tm} {m : List Int} (h : Pok B (t :: p)) (hm : gtM m t.2) : coefP (t :: p) m = 0 :=
 coefP_none fun s hs e => by
  rcases List.mem_cons.1 hs with rfl | hs
  · exact gtM_ne hm e.symm
  · exact gtM_ne (gtM_trans hm (h.gt s hs)) e.symm
theorem pok_ext {B B' : Int} : ∀ {p q : List Tm}, Pok B p -> Pok B' q -> (∀ m, coefP p m = coefP q m) -> p = q
 | [], [], _, _, _ => rfl
 | [], t :: q, _, hq, h => by
  have := h t.2
  rw [coefP_head hq] at this
  exact absurd this.symm hq.head.2
 | s :: p, [], hp, _, h => by
  have := h s.2
  rw [coefP_head hp] at this
  exact absurd this hp.head.2
 | s :: p, t :: q, hp, hq, h => by
  rcases gtM_total hp.head.1 hq.head.1 with e | e | e
  ·
   have h1 : s.1 = t.1 := by
    have := h s.2
    rw [coefP_head hp, e, coefP_head hq] at this
    exact this
   have h2 : s = t := Prod.ext h1 e
   subst h2
   rw [pok_ext hp.tail hq.tail fun m => by
    have := h m
    unfold coefP at this
    grind]
  ·
   have := h s.2
   rw [coefP_head hp, coefP_above hq e] at this
   exact absurd this hp.head.2
  ·
   have := h t.2
   rw [coefP_head hq, coefP_above hp e] at this
   exact absurd this.symm hq.head.2
def addP : List Tm -> List Tm -> List Tm
 | [], q => q
 | s :: p, [] => s :: p
 | s :: p, t :: q =>
  if 0 < lexI s.2 t.2 then s :: addP p (t :: q)
  else if lexI s.2 t.2 < 0 then t :: addP (s :: p) q
  else if s.1 + t.1 = 0 then addP p q
  else (s.1 + t.1, s.2) :: addP p q
termination_by p q => p.length + q.length
theorem addP_nil (p : List Tm) : addP p [] = p := by cases p <;> unfold addP <;> rfl
theorem addP_nil' (p : List Tm) : addP [] p = p := by unfold addP; rfl
theorem addP_gt {s t : Tm} {p q : List Tm} (h : 0 < lexI s.2 t.2) : addP (s :: p) (t :: q) = s :: addP p (t :: q) := by rw [addP, if_pos h]
theorem addP_lt {s t : Tm} {p q : List Tm} (h : lexI s.2 t.2 < 0) : addP (s :: p) (t :: q) = t :: addP (s :: p) q := by rw [addP, if_neg (by omega), if_pos h]
theorem addP_gone {s t : Tm} {p q : List Tm} (h : lexI s.2 t.2 = 0) (h0 : s.1 + t.1 = 0) : addP (s :: p) (t :: q) = addP p q := by rw [addP, if_neg (by omega), if_neg (by omega), if_pos h0]
theorem addP_eq {s t : Tm} {p q : List Tm} (h : lexI s.2 t.2 = 0) (h0 : s.1 + t.1 ≠ 0) : addP (s :: p) (t :: q) = (s.1 + t.1, s.2) :: addP p q := by rw [addP, if_neg (by omega), if_neg (by omega), if_neg h0]
theorem addP_len : ∀ (p q : List Tm), (addP p q).length <= p.length + q.length
 | [], q => by rw [addP_nil']; simp
 | s :: p, [] => by rw [addP_nil]; simp
 | s :: p, t :: q => by
  rw [addP]
  split
  · have := addP_len p (t :: q); simp at this ⊢; omega
  ·
   split
   · have := addP_len (s :: p) q; simp at this ⊢; omega
   ·
    split
    · have := addP_len p q; simp at this ⊢; omega
    · have := addP_len p q; simp at this ⊢; omega
termination_by p q => p.length + q.length
theorem addP_mem : ∀ (p q : List Tm) (u : Tm), u ∈ addP p q -> u ∈ p \/ u ∈ q \/ ∃ s ∈ p, ∃ t ∈ q, u = (s.1 + t.1, s.2) /\ lexI s.2 t.2 = 0 /\ s.1 + t.1 ≠ 0
 | [], q, u, h => by rw [addP_nil'] at h; exact .inr (.inl h)
 | s :: p, [], u, h => by rw [addP_nil] at h; exact .inl h
 | s :: p, t :: q, u, h => by
  have fix : ∀ {p' q' : List Tm}, (∀ x ∈ p', x ∈ s :: p) -> (∀ x ∈ q', x ∈ t :: q) -> (u ∈ p' \/ u ∈ q' \/ ∃ s ∈ p', ∃ t ∈ q', u = (s.1 + t.1, s.2) /\ lexI s.2 t.2 = 0 /\ s.1 + t.1 ≠ 0) ->
    (u ∈ s :: p \/ u ∈ t :: q \/ ∃ s' ∈ s :: p, ∃ t' ∈ t :: q, u = (s'.1 + t'.1, s'.2) /\ lexI s'.2 t'.2 = 0 /\ s'.1 + t'.1 ≠ 0) := fun h1 h2 h3 => by
   rcases h3 with h | h | ⟨a, ha, b, hb, e⟩
   · exact .inl (h1 _ h)
   · exact .inr (.inl (h2 _ h))
   · exact .inr (.inr ⟨a, h1 _ ha, b, h2 _ hb, e⟩)
  have m1 : ∀ x ∈ p, x ∈ s :: p := fun x hx => List.mem_cons_of_mem _ hx
  have m2 : ∀ x ∈ q, x ∈ t :: q := fun x hx => List.mem_cons_of_mem _ hx
  by_cases c1 : 0 < lexI s.2 t.2
  ·
   rw [addP_gt c1] at h
   rcases List.mem_cons.1 h with rfl | h
   · exact .inl (List.mem_cons_self)
   · exact fix m1 (fun _ h => h) (addP_mem p (t :: q) u h)
  ·
   by_cases c2 : lexI s.2 t.2 < 0
   ·
    rw [addP_lt c2] at h
    rcases List.mem_cons.1 h with rfl | h
    · exact .inr (.inl (List.mem_cons_self))
    · exact fix (fun _ h => h) m2 (addP_mem (s :: p) q u h)
   ·
    by_cases c3 : s.1 + t.1 = 0
    ·
     rw [addP_gone (by omega) c3] at h
     exact fix m1 m2 (addP_mem p q u h)
    ·
     rw [addP_eq (by omega) c3] at h
     rcases List.mem_cons.1 h with rfl | h
     · exact .inr (.inr ⟨s, List.mem_cons_self, t, List.mem_cons_self, rfl, by omega, c3⟩)
     · exact fix m1 m2 (addP_mem p q u h)
termination_by p q => p.length + q.length
theorem coefP_add {B B' : Int} : ∀ {p q : List Tm}, Tok B p -> Tok B' q -> ∀ m, coefP (addP p q) m = coefP p m + coefP q m
 | [], q, _, _, m => by rw [addP_nil']; unfold coefP; grind
 | s :: p, [], _, _, m => by rw [addP_nil, coefP.eq_1 m]; grind
 | s :: p, t :: q, hp, hq, m => by
  have hp' : Tok B p := fun x hx => hp x (List.mem_cons_of_mem _ hx)
  have hq' : Tok B' q := fun x hx => hq x (List.mem_cons_of_mem _ hx)
  by_cases c1 : 0 < lexI s.2 t.2
  ·
   have := coefP_add hp' hq m
   rw [addP_gt c1, coefP, this, coefP.eq_2 m s p]; grind
  ·
   by_cases c2 : lexI s.2 t.2 < 0
   ·
    have := coefP_add hp hq' m
    rw [addP_lt c2, coefP, this, coefP.eq_2 m t q]; grind
   ·
    have e := lexI_eq (hp s List.mem_cons_self).1 (hq t List.mem_cons_self).1 c1 c2
    have := coefP_add hp' hq' m
    by_cases c3 : s.1 + t.1 = 0
    · rw [addP_gone (by omega) c3, this, coefP.eq_2 m t q, coefP.eq_2 m s p, e]; grind
    · rw [addP_eq (by omega) c3, coefP, this, coefP.eq_2 m t q, coefP.eq_2 m s p, e]; dsimp only; grind
termination_by p q => p.length + q.length
theorem addP_ok {B : Int} : ∀ {p q : List Tm}, Pok B p -> Pok B q -> Pok B (addP p q)
 | [], q, _, hq => by rw [addP_nil']; exact hq
 | s :: p, [], hp, _ => by rw [addP_nil]; exact hp
 | s :: p, t :: q, hp, hq => by
  by_cases c1 : 0 < lexI s.2 t.2
  ·
   rw [addP_gt c1]
   refine (addP_ok hp.tail hq).cons hp.head.1 hp.head.2 fun u hu => ?_
   have g : gtM s.2 t.2 := lexI_pos.1 c1
   rcases addP_mem _ _ _ hu with h | h | ⟨a, ha, b, _, rfl, _⟩
   · exact hp.gt u h
   ·
    rcases List.mem_cons.1 h with rfl | h
    · exact g
    · exact gtM_trans g (hq.gt u h)
   · exact hp.gt a ha
  ·
   by_cases c2 : lexI s.2 t.2 < 0
   ·
    rw [addP_lt c2]
    refine (addP_ok hp hq.tail).cons hq.head.1 hq.head.2 fun u hu => ?_
    have g : gtM t.2 s.2 := lexI_neg.1 c2
    rcases addP_mem _ _ _ hu with h | h | ⟨a, ha, b, _, rfl, _⟩
    ·
     rcases List.mem_cons.1 h with rfl | h
     · exact g
     · exact gtM_trans g (hp.gt u h)
    · exact hq.gt u h
    ·
     rcases List.mem_cons.1 ha with rfl | ha
     · exact g
     · exact gtM_trans g (hp.gt a ha)
   ·
    have e := lexI_eq hp.head.1 hq.head.1 c1 c2
    by_cases c3 : s.1 + t.1 = 0
    · rw [addP_gone (by omega) c3]; exact addP_ok hp.tail hq.tail
    ·
     rw [addP_eq (by omega) c3]
     refine (addP_ok hp.tail hq.tail).cons hp.head.1 c3 fun u hu => ?_
     rcases addP_mem _ _ _ hu with h | h | ⟨a, ha, b, _, rfl, _⟩
     · exact hp.gt u h
     · rw [e]; exact hq.gt u h
     · exact hp.gt a ha
termination_by p q => p.length + q.length
def scaleP (p : List Tm) (a : Rat) : List Tm := if a = 0 then [] else p.map fun t => (t.1 * a, t.2)
def negP (p : List Tm) : List Tm := scaleP p (-1)
def subP (p q : List Tm) : List Tm := addP p (negP q)
theorem coefP_map {f : Rat -> Rat} (h0 : f 0 = 0) (ha : ∀ x y, f (x + y) = f x + f y) (p : List Tm) (m : List Int) : coefP (p.map fun t => (f t.1, t.2)) m = f (coefP p m) := by
 induction p with
 | nil => simp [coefP, h0]
 | cons t p ih =>
  rw [List.map_cons, coefP, ih, coefP, ha]
  dsimp only
  split
  · rfl
  · rw [h0]
theorem coefP_scale (p : List Tm) (a : Rat) (m : List Int) : coefP (scaleP p a) m = coefP p m * a := by
 unfold scaleP
 split
 · next h => rw [h]; unfold coefP; grind
 · exact coefP_map (f := fun x => x * a) (by grind) (by grind) p m
theorem coefP_neg (p : List Tm) (m : List Int) : coefP (negP p) m = - coefP p m := by unfold negP; rw [coefP_scale]; grind
theorem scaleP_ok {B : Int} {p : List Tm} {a : Rat} (h : Pok B p) : Pok B (scaleP p a) := by
 unfold scaleP
 split
 · exact Pok.nil _
 ·
  next ha =>
  refine ⟨fun t ht => ?_, ?_⟩
  ·
   obtain ⟨s, hs, rfl⟩ := List.mem_map.1 ht
   exact ⟨(h.1 s hs).1, by have := (h.1 s hs).2; dsimp only; grind⟩
  ·
   rw [List.pairwise_map]
   exact h.2
theorem negP_ok {B : Int} {p : List Tm} (h : Pok B p) : Pok B (negP p) := scaleP_ok h
theorem subP_ok {B : Int} {p q : List Tm} (hp : Pok B p) (hq : Pok B q) : Pok B (subP p q) := addP_ok hp (negP_ok hq)
theorem coefP_sub {B : Int} {p q : List Tm} (hp : Pok B p) (hq : Pok B q) (m : List Int) : coefP (subP p q) m = coefP p m - coefP q m := by
 unfold subP
 rw [coefP_add hp.1 (negP_ok hq).1, coefP_neg]; grind
theorem scaleP_len (p : List Tm) (a : Rat) : (scaleP p a).length <= p.length := by unfold scaleP; split <;> simp
theorem negP_len (p : List Tm) : (negP p).length = p.length := by
 unfold negP scaleP
 rw [if_neg (by decide)]
 simp
theorem subP_len (p q : List Tm) : (subP p q).length <= p.length + q.length := by
 have := addP_len p (negP q)
 rw [negP_len] at this
 exact this
def timesP (p : List Tm) (t : Tm) : List Tm := p.map fun s => (s.1 * t.1, mulM s.2 t.2)
theorem timesP_ok {B B' : Int} {p : List Tm} {t : Tm} (h : Pok B p) (ht : Mok B' t.2) (h0 : t.1 ≠ 0) (hB : 0 <= B) (hB' : 0 <= B') : Pok (B + B') (timesP p t) := by
 refine ⟨fun u hu => ?_, ?_⟩
 ·
  obtain ⟨s, hs, rfl⟩ := List.mem_map.1 hu
  exact ⟨mulM_ok (h.1 s hs).1 ht hB hB', by have := (h.1 s hs).2; dsimp only; grind⟩
 ·
  unfold timesP
  rw [List.pairwise_map]
  exact h.2.imp fun hg => gtM_mul hg _
theorem timesP_nil {p : List Tm} {c : Rat} : timesP p (c, []) = p.map fun t => (t.1 * c, t.2) := by
 unfold timesP
 exact List.map_congr_left fun t _ => by rw [mulM_nil]
theorem timesP_scale {p : List Tm} {c : Rat} (h0 : c ≠ 0) : timesP p (c, []) = scaleP p c := by
 unfold scaleP; rw [if_neg h0, timesP_nil]
def mulP (p q : List Tm) : List Tm := q.foldl (fun out t => addP out (timesP p t)) []
def pairC (p q : List Tm) (m : List Int) : Rat := match q with
 | [] => 0
 | t :: q => coefP (timesP p t) m + pairC p q m
theorem foldl_ok {B B' : Int} {p : List Tm} (hp : Pok B p) (hB : 0 <= B) (hB' : 0 <= B') : ∀ (q out : List Tm), Tok B' q -> Pok (B + B') out ->
  Pok (B + B') (q.foldl (fun out t => addP out (timesP p t)) out) /\ ∀ m, coefP (q.foldl (fun out t => addP out (timesP p t)) out) m = coefP out m + pairC p q m
 | [], out, _, ho => ⟨ho, fun m => by unfold pairC; rw [List.foldl_nil]; grind⟩
 | t :: q, out, hq, ho => by
  have ht := hq t List.mem_cons_self
  have h1 := timesP_ok hp ht.1 ht.2 hB hB'
  obtain ⟨h2, h3⟩ := foldl_ok hp hB hB' q _ (fun x hx => hq x (List.mem_cons_of_mem _ hx)) (addP_ok ho h1)
  refine ⟨h2, fun m => ?_⟩
  rw [List.foldl_cons, h3 m, coefP_add ho.1 h1.1]
  rw [pairC]
  grind
theorem mulP_ok {B B' : Int} {p q : List Tm} (hp : Pok B p) (hq : Tok B' q) (hB : 0 <= B) (hB' : 0 <= B') : Pok (B + B') (mulP p q) := (foldl_ok hp hB hB' q [] hq (Pok.nil _)).1
theorem coefP_mul {B B' : Int} {p q : List Tm} (hp : Pok B p) (hq : Tok B' q) (hB : 0 <= B) (hB' : 0 <= B') (m : List Int) : coefP (mulP p q) m = pairC p q m := by
 have := (foldl_ok hp hB hB' q [] hq (Pok.nil _)).2 m
 unfold mulP
 rw [this]
 unfold coefP
 grind
theorem coefP_cons (t : Tm) (p : List Tm) (m : List Int) : coefP (t :: p) m = (if t.2 = m then t.1 else 0) + coefP p m := rfl
theorem pairC_cons (s : Tm) (p q : List Tm) (m : List Int) : pairC (s :: p) q m = coefP (timesP q s) m + pairC p q m := by
 induction q with
 | nil => unfold pairC timesP coefP; grind
 | cons t q ih =>
  rw [pairC, ih, pairC]
  unfold timesP
  rw [List.map_cons, List.map_cons, coefP_cons, coefP_cons]
  dsimp only
  rw [mulM_comm s.2 t.2, Rat.mul_comm s.1 t.1]
  grind
theorem pairC_comm (p : List Tm) : ∀ (q : List Tm) (m : List Int), pairC p q m = pairC q p m
 | [], m => by
  induction p with
  | nil => rfl
  | cons s p ih =>
   have h1 : pairC p [] m = 0 := rfl
   have h2 : coefP (timesP [] s) m = 0 := rfl
   show (0 : Rat) = coefP (timesP [] s) m + pairC [] p m
   rw [<- ih, h1, h2]
   grind
 | t :: q, m => by rw [pairC, pairC_cons, pairC_comm p q m]
theorem mulP_comm {B B' : Int} {p q : List Tm} (hp : Pok B p) (hq : Pok B' q) (hB : 0 <= B) (hB' : 0 <= B') : mulP p q = mulP q p :=
 pok_ext (mulP_ok hp hq.1 hB hB') (mulP_ok hq hp.1 hB' hB) fun m => by rw [coefP_mul hp hq.1 hB hB', coefP_mul hq hp.1 hB' hB, pairC_comm]
theorem mulP_one {p : List Tm} {t : Tm} : mulP p [t] = timesP p t := by unfold mulP; rw [List.foldl_cons, List.foldl_nil, addP_nil']
theorem mulP_zero {p : List Tm} : mulP p [] = [] := rfl
def Over (D M : Nat) (x : Rat) : Prop := ∃ z : Int, x * D = z /\ z.natAbs <= M
def PolyO (D M : Nat) (p : List Tm) : Prop := ∀ t ∈ p, Over D M t.1
theorem Over.add {D M M' : Nat} {x y : Rat} (h : Over D M x) (k : Over D M' y) : Over D (M + M') (x + y) := by
 obtain ⟨z, h1, h2⟩ := h
 obtain ⟨u, k1, k2⟩ := k
 refine ⟨z + u, ?_, by omega⟩
 rw [Rat.add_mul, h1, k1, Rat.intCast_add]
theorem Over.more {D M M' : Nat} {x : Rat} (h : Over D M x) (e : M <= M') : Over D M' x := by
 obtain ⟨z, h1, h2⟩ := h
 exact ⟨z, h1, by omega⟩
theorem Over.wide {D M : Nat} {x : Rat} (h : Over D M x) (d : Nat) : Over (D * d) (M * d) x := by
 obtain ⟨z, h1, h2⟩ := h
 refine ⟨z * d, ?_, ?_⟩
 · rw [Rat.natCast_mul, <- Rat.mul_assoc, h1, Rat.intCast_mul, Rat.intCast_natCast]
 · rw [Int.natAbs_mul]; exact Nat.mul_le_mul h2 (by simp)
theorem Over.scale {D M : Nat} {x : Rat} (h : Over D M x) (q : Rat) : Over (D * q.den) (M * q.num.natAbs) (x * q) := by
 obtain ⟨z, h1, h2⟩ := h
 refine ⟨z * q.num, ?_, ?_⟩
 ·
  have h3 : q = (q.num : Rat) / (q.den : Rat) := by rw [<- Rat.mkRat_eq_div, Rat.mkRat_self]
  have h4 : (q.den : Rat) ≠ 0 := fun h => q.den_nz (Rat.natCast_eq_zero_iff.1 h)
  have e : q * (q.den : Rat) = (q.num : Rat) := by
   revert h3 h4
   generalize (q.den : Rat) = d
   generalize (q.num : Rat) = n
   intro h3 h4
   grind
  rw [Rat.natCast_mul, Rat.intCast_mul, <- h1, <- e]
  grind
 · rw [Int.natAbs_mul]; exact Nat.mul_le_mul h2 (nlr _)
theorem Over.neg {D M : Nat} {x : Rat} (h : Over D M x) : Over D M (x * (-1)) := by
 obtain ⟨z, h1, h2⟩ := h
 refine ⟨-z, ?_, by omega⟩
 rw [Rat.intCast_neg, <- h1]; grind
theorem PolyO.more {D M M' : Nat} {p : List Tm} (h : PolyO D M p) (e : M <= M') : PolyO D M' p := fun t ht => (h t ht).more e
theorem PolyO.wide {D M : Nat} {p : List Tm} (h : PolyO D M p) (d : Nat) : PolyO (D * d) (M * d) p := fun t ht => (h t ht).wide d
theorem PolyO.nil (D M : Nat) : PolyO D M [] := fun t h => (by cases h)
theorem PolyO.add {D M M' : Nat} {p q : List Tm} (h : PolyO D M p) (k : PolyO D M' q) : PolyO D (M + M') (addP p q) := fun u hu => by
 rcases addP_mem _ _ _ hu with e | e | ⟨s, hs, t, ht, rfl, _⟩
 · exact (h u e).more (by omega)
 · exact (k u e).more (by omega)
 · exact (h s hs).add (k t ht)
theorem PolyO.scale {D M : Nat} {p : List Tm} (h : PolyO D M p) (q : Rat) : PolyO (D * q.den) (M * q.num.natAbs) (scaleP p q) := fun u hu => by
 unfold scaleP at hu
 split at hu
 · cases hu
 ·
  obtain ⟨s, hs, rfl⟩ := List.mem_map.1 hu
  exact (h s hs).scale q
theorem PolyO.neg {D M : Nat} {p : List Tm} (h : PolyO D M p) : PolyO D M (negP p) := fun u hu => by
 unfold negP scaleP at hu
 split at hu
 · cases hu
 ·
  obtain ⟨s, hs, rfl⟩ := List.mem_map.1 hu
  exact (h s hs).neg
theorem PolyO.sub {D M M' : Nat} {p q : List Tm} (h : PolyO D M p) (k : PolyO D M' q) : PolyO D (M + M') (subP p q) := h.add k.neg
theorem PolyO.times1 {D M : Nat} {p : List Tm} (h : PolyO D M p) (m : List Int) : PolyO D M (timesP p (1, m)) := fun u hu => by
 obtain ⟨s, hs, rfl⟩ := List.mem_map.1 hu
 dsimp only
 rw [Rat.mul_one]
 exact h s hs
theorem Over.parts {D M : Nat} {x : Rat} (h : Over D M x) (hD : 0 < D) : x.num.natAbs <= M /\ x.den <= D := by
 obtain ⟨z, h1, h2⟩ := h
 have e : x = mkRat z D := by
  rw [Rat.mkRat_eq_div]
  have : (D : Rat) ≠ 0 := by
   intro h
   have := Rat.natCast_eq_zero_iff.1 h
   omega
  grind
 rw [e, Rat.num_mkRat, Rat.den_mkRat, if_neg (by omega), if_neg (by omega)]
 exact ⟨Nat.le_trans (Int.natAbs_ediv_le_natAbs _ _) h2, Nat.div_le_self _ _⟩
def Agr (X : Nat -> Prop) (w V : World) : Prop := ∀ p v, ¬ X p.block -> w.cell? p = some v -> V.cell? p = some v
def Rd (X : Nat -> Prop) (w : World) (R : World -> Prop) : Prop := ∀ V, Agr X w V -> R V
section
variable {X Y : Nat -> Prop} {w w' w'' V : World} {R R' : World -> Prop}
theorem Agr.refl (X : Nat -> Prop) (w : World) : Agr X w w := fun _ _ _ h => h
theorem Agr.trans (h : Agr X w w') (k : Agr X w' w'') : Agr X w w'' := fun p v hp hc => k p v hp (h p v hp hc)
theorem Agr.mono (h : Agr X w w') (e : ∀ b, X b -> Y b) : Agr Y w w' := fun p v hp hc => h p v (fun hx => hp (e _ hx)) hc
theorem Agr.ext (h : Ext w w') : Agr X w w' := fun p v _ hc => h p v hc
theorem Agr.below (h : Below w.heap.size w w') : Agr X w w' := Agr.ext (xbw h)
theorem Agr.alloc (h : Agr X w w') (o : Obj) : Agr X w (w'.alloc o) := fun p v hp hc => by
 have e := h p v hp hc
 exact (World.cell?_alloc_lt w' o p (World.block_lt_of_cell? w' p e)).trans e
theorem Agr.setc {g i : Nat} {u : Value} (hg : X g) (h : Agr X w w') : Agr X w (w'.setCell ⟨g, i, none⟩ u) := fun p v hp hc =>
 (World.cell?_setCell_other w' ⟨g, i, none⟩ p u (fun e => by subst e; exact hp hg)).trans (h p v hp hc)
theorem Agr.grown {a : Option Addr} {n c : Nat} (h : Agr X w w') (hg : w'.grownBy w'' (Value.ownBlock (.slice a n c))) (ha : ∀ g, a = some g -> X g.block) : Agr X w w'' := fun p v hp hc =>
 hg.cell (h p v hp hc) (fun e => by
  cases a with
  | none => simp [Value.ownBlock] at e
  | some g => simp [Value.ownBlock] at e; exact hp (e ▸ ha g rfl))
theorem Rd.now (h : Rd X w R) : R w := h w (Agr.refl _ _)
theorem Rd.imp (h : Rd X w R) (e : ∀ V, R V -> R' V) : Rd X w R' := fun V hV => e V (h V hV)
theorem Rd.and (h : Rd X w R) (k : Rd X w R') : Rd X w fun V => R V /\ R' V := fun V hV => ⟨h V hV, k V hV⟩
theorem Rd.step (h : Rd X w R) (hw : Agr X w w') : Rd X w' R := fun V hV => h V (hw.trans hV)
theorem Rd.call (h : Rd X w R) (hb : Below w.heap.size w w') : Rd X w' R := h.step (Agr.below hb)
theorem Rd.alloc (h : Rd X w R) (o : Obj) : Rd X (w.alloc o) R := h.step ((Agr.refl _ _).alloc o)
theorem Rd.more (h : Rd X w R) (e : ∀ b, Y b -> X b \/ w.heap.size <= b) : Rd Y w R := fun V hV => h V fun p v hp hc =>
 hV p v (fun hy => (e _ hy).elim hp fun hl => absurd (World.block_lt_of_cell? w p hc) (by omega)) hc
theorem Rd.arg (e : ∀ V, Ext w V -> R V) (hX : ∀ b, X b -> w.heap.size <= b) : Rd X w R := fun V hV => e V fun p v hc =>
 hV p v (fun hx => absurd (World.block_lt_of_cell? w p hc) (by have := hX _ hx; omega)) hc
end
def Sat (S : World -> Prop) (w : World) : Prop := S w
section
variable {α β : Type} {f : α -> List Value} {sz : Nat} {t : TypeId} {B : Nat} {w V : World} {a : Option Addr} {c : Nat} {l : List α} {X : Nat -> Prop}
theorem Own.readsX {E : World -> Nat -> Nat -> β -> Prop} (m : List β) (hlen : m.length = l.length) (hf : ∀ x, (f x).length = sz) (h : Own f sz t B w a c l) (hV : Agr X w V) (hX : ∀ g, a = some g -> ¬ X g.block)
  (hE : ∀ (b o k : Nat) (x : α) (y : β), l[k]? = some x -> m[k]? = some y -> (∀ j u, (f x)[j]? = some u -> V.cell? ⟨b, o + j, none⟩ = some u) -> E V b o y) : SlR sz E V a c m := by
 refine ⟨by rw [hlen]; exact h.cap.1, h.cap.2, fun k y hy => ?_⟩
 obtain ⟨x, hx⟩ := get_of_lt (show k < l.length by have := lt_of_get hy; omega)
 obtain ⟨b, ha, hB, _, hc⟩ := h.at_ hf hx
 exact ⟨b, 0, ha, hE _ _ _ _ _ hx hy (fun j u hu => hV _ _ (fun hx => hX _ ha hx) (by simpa using hc j u hu))⟩
end
end Go.Proofs.YtdnblkklgdnapaaGreat
namespace Go.Proofs.YtdnblkklgdnapaaGreat
theorem canon_len {l : List Int} (h : U16 l) (hl : l.length <= (limbs (val l)).length) : limbs (val l) = l := by
 obtain ⟨k, hk, e⟩ := trim_some h
 have h1 := congrArg List.length e
 rw [List.length_take] at h1
 rw [e, List.take_of_length_le (by omega)]
theorem sum_none {o : List Int} {n1 n2 : Nat} (hou : U16 o) (hl : o.length = (limbs n1).length) (h : val o = n1 + n2) : limbs (n1 + n2) = o := by
 have h1 := limbs_len_mono (show n1 <= n1 + n2 by omega)
 rw [<- h] at h1 ⊢
 exact canon_len hou (by omega)
theorem sum_carry {o : List Int} {n1 n2 c : Nat} (hou : U16 o) (hc : 0 < c) (hc2 : c <= 65535) (h : val o + 65536 ^ o.length * c = n1 + n2) : limbs (n1 + n2) = o ++ [(c : Int)] := by
 have hv : val (o ++ [(c : Int)]) = n1 + n2 := by rw [val_snoc, <- h]; simp
 rw [<- hv]
 refine limbs_canon (hou.app (U16.cons (by omega) U16.nil)) fun x hx => ?_
 rw [List.getLast?_append] at hx
 simp at hx
 omega
structure MulR (T U O : List Int) (i : Nat) : Prop where
 len : O.length = T.length + U.length
 u16 : U16 O
 sum : val O = val (T.take i) * val U
 far : ∀ j, i + U.length <= j -> j < O.length -> O[j]? = some 0
structure MulI (T U O : List Int) (i k c : Nat) (x : Int) : Prop where
 len : O.length = T.length + U.length
 u16 : U16 O
 car : c <= 65535
 sum : val O + 65536 ^ (i + k) * c = val (T.take i) * val U + 65536 ^ i * (x.toNat * val (U.take k))
 far : ∀ j, i + U.length <= j -> j < O.length -> O[j]? = some 0
theorem MulR.start (T U : List Int) : MulR T U (List.replicate (T.length + U.length) 0) 0 :=
 ⟨by simp, u16_replicate _, by simp [val_replicate, val], fun j _ hl => by simp at hl; rw [List.getElem?_replicate, if_pos hl]⟩
theorem MulR.row {T U O : List Int} {i : Nat} (h : MulR T U O i) (x : Int) : MulI T U O i 0 0 x := ⟨h.len, h.u16, by omega, by simp [h.sum, val], h.far⟩
theorem MulI.next {T U O : List Int} {i k c : Nat} {x z y : Int} (h : MulI T U O i k c x) (hx : 0 <= x /\ x <= 65535) (hk : k < U.length) (hz : O[i + k]? = some z) (hy : U[k]? = some y) (hy2 : 0 <= y /\ y <= 65535)
  {c2 d : Nat} (hd : d + 65536 * c2 = z.toNat + x.toNat * y.toNat + c) (hd2 : d <= 65535) : MulI T U (O.set (i + k) (d : Int)) i (k + 1) c2 x := by
 have hz2 := h.u16.get hz
 refine ⟨by rw [List.length_set]; exact h.len, h.u16.set_ ⟨by omega, by omega⟩, carry_lt (z := z.toNat) (x := x.toNat) (y := y.toNat) (c := c) (d := d) (by omega) (by omega) (by omega) h.car hd, mul_step T U O i k c c2 d z x y hz (limbAt_some hy) h.sum hd, fun j hj hl => ?_⟩
 rw [List.getElem?_set_ne (by omega)]
 exact h.far j hj (by simpa using hl)
theorem MulI.done {T U O : List Int} {i c : Nat} {x : Int} (h : MulI T U O i U.length c x) (hx : T[i]? = some x) : MulR T U (O.set (i + U.length) (c : Int)) (i + 1) := by
 have hi := lt_of_get hx
 have hz := h.far (i + U.length) (nlr _) (by rw [h.len]; omega)
 have h1 := val_set hz (c : Int)
 have h2 := h.sum
 rw [val_take_all (nlr _), mul_end T U i x hx] at h2
 have hc := h.car
 refine ⟨by rw [List.length_set]; exact h.len, h.u16.set_ ⟨by omega, by omega⟩, ?_, fun j hj hl => ?_⟩
 ·
  have e : ((c : Int)).toNat = c := by omega
  rw [e] at h1
  simp only [Int.toNat_zero, Nat.mul_zero, Nat.add_zero] at h1
  omega
 ·
  rw [List.getElem?_set_ne (by omega)]
  exact h.far j (by omega) (by simpa using hl)
theorem MulR.done {T U O : List Int} (h : MulR T U O T.length) : val O = val T * val U := by rw [h.sum, val_take_all (nlr _)]
end Go.Proofs.YtdnblkklgdnapaaGreat
namespace Go.Proofs.YtdnblkklgdnapaaGreat
open Go.RowKit
theorem take_set_snoc {O : List Int} {k : Nat} (hk : k < O.length) (d : Int) : (O.set k d).take (k + 1) = O.take k ++ [d] := by
 rw [take_more (xs := O.set k d) (x := d) (by simp [hk]), List.take_set_of_le (nlr _)]
theorem nadd_any (l m : List Int) (n1 n2 : Nat) (a a' : Option Addr) (c c' : Nat) (w : World) (h : NatR w a c l) (h' : NatR w a' c' m) (hn : val l = n1) (hk : val m = n2) (hl : l.length <= 10000000) (hm : m.length <= 10000000) :
  Calls Tryz.prog 179 #[.slice a l.length c, .slice a' m.length c'] w (RetN (limbs (n1 + n2)) w) := by
 have C1 := trim_any l a c w h
 have C2 := trim_any m a' c' w h'
 have hP := h.trim
 have hQ := h'.trim
 have hl1 := limbs_len_val h.u16
 have hl2 := limbs_len_val h'.u16
 rw [hn] at C1 hP hl1
 rw [hk] at C2 hQ hl2
 have hup := limbs_u16 n1
 have huq := limbs_u16 n2
 have hvp := val_limbs n1
 have hvq := val_limbs n2
 obtain ⟨M, hM⟩ : ∃ M, n1 + n2 = M := ⟨_, rfl⟩
 rw [hM]
 have HSUM0 := Hd hM
 have hT0 : (limbs n1).length <= 10000000 := by omega
 have hU0 : (limbs n2).length <= 10000000 := by omega
 clear hl1 hl2 h h' hn hk hM
 obtain ⟨T, hT⟩ : ∃ T, limbs n1 = T := ⟨_, rfl⟩
 obtain ⟨U, hU⟩ : ∃ U, limbs n2 = U := ⟨_, rfl⟩
 have HT := Hd hT
 have HU := Hd hU
 rw [hT] at C1 hP hup hvp hT0
 rw [hU] at C2 hQ huq hvq hU0
 replace C1 := Hd C1; replace C2 := Hd C2
 clear hT hU
 by_cases hcmp : T.length < U.length
 ·
  have HP := Hd hQ
  have HQ := Hd hP
  have HVP := Hd hvq
  have HVQ := Hd hvp
  have HLP : Hid (U.length = (limbs n2).length) := Hd (by rw [HU.out])
  have HSUM : Hid (M = n2 + n1) := Hd (by rw [<- HSUM0.out, Nat.add_comm])
  clear hP hQ hvp hvq
  obtain ⟨hup, huq⟩ := And.intro huq hup
  have hmk := run_make_nat2 .i64 U.length (U.length + 1) (by omega) (by omega) w
  simp only [Int.natCast_add, Int.cast_ofNat_Int] at hmk
  go_enter Tryz.func179, Tryz.ntmps179
  go_wp2_with fail
  refine C1.out.mono ?_
  rintro e w1 ⟨rfl, rfl⟩
  go_wp2_with fail
  refine C2.out.mono ?_
  rintro e w1 ⟨rfl, rfl⟩
  go_wp2
  clear hmk C1 C2
  have hz0 := BlkN.new w (U.length + 1)
  have hb0 : Below w.heap.size w (w.alloc (.cells (madeCells #[.int .u16 0] (U.length + 1)) 92)) := brf.alloc (nlr _) _
  have hz : RowN (w.alloc (.cells (madeCells #[.int .u16 0] (U.length + 1)) 92)) w.heap.size (List.replicate U.length 0) [.int .u16 0] := by
   have h1 := (RowN.of hz0).cut U.length
   have e1 : (List.replicate (U.length + 1) (0 : Int)).take U.length = List.replicate U.length 0 := by rw [List.take_replicate]; congr 1; omega
   have e2 : (List.replicate (U.length + 1) (0 : Int)).drop U.length = [0] := by rw [List.drop_replicate, show U.length + 1 - U.length = 1 by omega]; rfl
   rw [e1, e2] at h1
   exact h1
  clear hz0
  revert hz hb0
  generalize w.alloc (.cells (madeCells #[.int .u16 0] (U.length + 1)) 92) = w0
  intro hb0 hz
  go_loopg [6, 7, 8, 28] U.length (fun g s6 _ _ s28 wr => ∃ (k cc : Nat) (O : List Int), k + g = U.length /\ s28 = .int .i64 k /\ s6 = .int .u32 cc /\ cc <= 1 /\ Hid (O.length = U.length) /\ U16 O /\ RowN wr w.heap.size O [.int .u16 0] /\ Below w.heap.size w wr /\
   Hid (val (O.take k) + 65536 ^ k * cc = val (U.take k) + val (T.take k)))
  case atStart => exact ⟨0, 0, _, by omega, rfl, rfl, by omega, by show _ = _; simp, u16_replicate _, hz, hb0, by show _ = _; simp [val]⟩
  case round =>
   clear hz hb0
   obtain ⟨k, cc, O, hkg, rfl, rfl, hc1, hol, hou, hrow, hwr, hval⟩ := hrel
   have HROW := Hd hrow
   have HKG := Hd hkg
   clear hrow hkg
   by_cases hlt : k < U.length
   ·
    obtain ⟨x, hx⟩ := get_of_lt hlt
    obtain ⟨hx0, hx1⟩ := hup.get hx
    obtain ⟨bp, op, rfl, hcp⟩ := (HP.out.ext (xbw hwr)).cell hx
    have hkO : k < O.length := by rw [hol.out]; exact hlt
    obtain ⟨z, hz⟩ := get_of_lt hkO
    have hcell := HROW.out.cell hz
    have hfr := HROW.out.frozen k
    have hsx := limbAt_some hx
    have hset := fun q : Int => HROW.out.set_ hkO q
    have HSET := Hd hset
    have htk := fun q : Int => take_set_snoc hkO q
    have hstep := fun c2 d h1 => add_step U T (O.take k) k cc c2 d (by rw [List.length_take]; omega) hval.out h1
    rw [hsx] at hstep
    obtain ⟨y, rfl⟩ : ∃ y : Nat, x = (y : Int) := ⟨x.toNat, by omega⟩
    rw [Int.toNat_natCast] at hstep
    have HTK := Hd htk
    have HSTEP := Hd hstep
    clear hset hstep htk hval hx hsx hz
    by_cases hkn : k < T.length
    ·
     obtain ⟨t, ht⟩ := get_of_lt hkn
     obtain ⟨bq, oq, rfl, hcq⟩ := (HQ.out.ext (xbw hwr)).cell ht
     obtain ⟨ht0, ht1⟩ := huq.get ht
     obtain ⟨t, rfl⟩ : ∃ s : Nat, t = (s : Int) := ⟨t.toNat, by omega⟩
     have HST := HSTEP.out
     rw [limbAt_some ht, Int.toNat_natCast] at HST
     obtain ⟨lo, hlo⟩ : ∃ lo, (cc + y + t) % 65536 = lo := ⟨_, rfl⟩
     obtain ⟨c2, hc2⟩ : ∃ c2, (cc + y + t) / 65536 = c2 := ⟨_, rfl⟩
     have hw1 : IntKind.u16.wrap ((cc : Int) + (y : Int) + (t : Int)) = (lo : Int) := by
      have := wrap16 (cc + y + t)
      rw [hlo] at this
      rw [<- this]
      simp
     have hw2 : ((cc : Int) + (y : Int) + (t : Int)) / 65536 = (c2 : Int) := by omega
     have hlo1 : lo <= 65535 := by omega
     have hc21 : c2 <= 1 := by omega
     replace HST := Hd (HST c2 lo (by omega))
     clear ht hlo hc2 HSTEP
     go_wp2
     go_roundg (gk - 1)
     case rel => exact ⟨k + 1, c2, O.set k (lo : Int), by have := HKG.out; omega, by go_num, rfl, by omega, by show _ = _; rw [List.length_set]; exact hol.out, hou.set_ (by omega), HSET.out lo, hwr.setCell (nlr _) _, by show _ = _; rw [HTK.out]; exact HST.out⟩
     case measure => have := HKG.out; omega
    ·
     have HST := HSTEP.out
     rw [limbAt_none (by omega)] at HST
     obtain ⟨lo, hlo⟩ : ∃ lo, (cc + y) % 65536 = lo := ⟨_, rfl⟩
     obtain ⟨c2, hc2⟩ : ∃ c2, (cc + y) / 65536 = c2 := ⟨_, rfl⟩
     have hw1 : IntKind.u16.wrap ((cc : Int) + (y : Int)) = (lo : Int) := by
      have := wrap16 (cc + y)
      rw [hlo] at this
      rw [<- this]
      simp
     have hw2 : ((cc : Int) + (y : Int)) / 65536 = (c2 : Int) := by omega
     have hlo1 : lo <= 65535 := by omega
     have hc21 : c2 <= 1 := by omega
     replace HST := Hd (HST c2 lo (by simp; omega))
     clear hlo hc2 HSTEP
     go_wp2
     go_roundg (gk - 1)
     case rel => exact ⟨k + 1, c2, O.set k (lo : Int), by have := HKG.out; omega, by go_num, rfl, by omega, by show _ = _; rw [List.length_set]; exact hol.out, hou.set_ (by omega), HSET.out lo, hwr.setCell (nlr _) _, by show _ = _; rw [HTK.out]; exact HST.out⟩
     case measure => have := HKG.out; omega
   ·
    obtain rfl : k = U.length := by have := HKG.out; omega
    have hfin : val O + 65536 ^ O.length * cc = n2 + n1 := by
     have h1 := hval.out
     rw [val_take_all (by rw [hol.out]; omega), val_take_all (nlr _), val_take_all (by omega), HVP.out, HVQ.out] at h1
     rw [hol.out]
     exact h1
    have hown : OwnN w.heap.size wr (some ⟨w.heap.size, 0, none⟩) (U.length + 1) O := by
     have h1 := HROW.out.own (nlr _) (c := U.length + 1) (by rw [hol.out]; rfl) (by unfold maxLen; omega) O.length (nlr _)
     rwa [List.take_length] at h1
    have HOWN := Hd hown
    have HFIN := Hd hfin
    clear hown hfin hval
    by_cases hcz : cc = 0
    ·
     subst hcz
     have hres : limbs (n2 + n1) = O := by
      have h1 := HFIN.out
      rw [Nat.mul_zero, Nat.add_zero] at h1
      exact sum_none hou (by rw [hol.out, HLP.out]) h1
     have HRES := Hd hres
     clear hres
     go_wp2
     go_ret
     refine RetN.own (l := O) HOWN.out hou hwr (by rw [HSUM.out]; exact HRES.out) (hol.out.symm)
    ·
     have hres : limbs (n2 + n1) = O ++ [(cc : Int)] := sum_carry hou (by omega) (by omega) HFIN.out
     have HRES := Hd hres
     have HLO : Hid ((O ++ [(cc : Int)]).length <= 16777216) := Hd (by rw [List.length_append, hol.out]; simp; omega)
     obtain rfl : cc = 1 := by omega
     have hown2 := HOWN.out
     have hoL := hol.out
     have hltO : ¬ O.length < O.length := Nat.lt_irrefl _
     rw [<- hoL] at hown2 ⊢
     obtain ⟨cO, hcO⟩ : ∃ q, O.length + 1 = q := ⟨_, rfl⟩
     rw [hcO] at hown2 ⊢
     replace HOWN := Hd hown2
     replace hoL := Hd hoL
     clear hres hown2 hcz hcO
     go_wp2_with (at_builtin; go_must (refine append_nat rfl (.tmp 58) (.tmp 61) rfl (some ⟨w.heap.size, 0, none⟩) cO rfl (HOWN.out.alloc _) ((1 : Nat) : Int) wr.heap.size 1 rfl (by simp) (O ++ [((1 : Nat) : Int)]) rfl HLO.out (by have := hwr.size; simp; omega) ?_); intro a2 c2 w2 ho2 hg2 hx2)
     go_ret
     exact RetN.own ho2 (hou.app (U16.cons (by omega) U16.nil)) (below_append' (hwr.alloc hwr.size _) (HOWN.out.alloc _) hg2) (by rw [HSUM.out]; exact HRES.out) (by simp)
 ·
  have HP := Hd hP
  have HQ := Hd hQ
  have HVP := Hd hvp
  have HVQ := Hd hvq
  have HLP : Hid (T.length = (limbs n1).length) := Hd (by rw [HT.out])
  have HSUM : Hid (M = n1 + n2) := Hd HSUM0.out.symm
  clear hP hQ hvp hvq
  have hmk := run_make_nat2 .i64 T.length (T.length + 1) (by omega) (by omega) w
  simp only [Int.natCast_add, Int.cast_ofNat_Int] at hmk
  go_enter Tryz.func179, Tryz.ntmps179
  go_wp2_with fail
  refine C1.out.mono ?_
  rintro e w1 ⟨rfl, rfl⟩
  go_wp2_with fail
  refine C2.out.mono ?_
  rintro e w1 ⟨rfl, rfl⟩
  go_wp2
  clear hmk C1 C2
  have hz0 := BlkN.new w (T.length + 1)
  have hb0 : Below w.heap.size w (w.alloc (.cells (madeCells #[.int .u16 0] (T.length + 1)) 92)) := brf.alloc (nlr _) _
  have hz : RowN (w.alloc (.cells (madeCells #[.int .u16 0] (T.length + 1)) 92)) w.heap.size (List.replicate T.length 0) [.int .u16 0] := by
   have h1 := (RowN.of hz0).cut T.length
   have e1 : (List.replicate (T.length + 1) (0 : Int)).take T.length = List.replicate T.length 0 := by rw [List.take_replicate]; congr 1; omega
   have e2 : (List.replicate (T.length + 1) (0 : Int)).drop T.length = [0] := by rw [List.drop_replicate, show T.length + 1 - T.length = 1 by omega]; rfl
   rw [e1, e2] at h1
   exact h1
  clear hz0
  revert hz hb0
  generalize w.alloc (.cells (madeCells #[.int .u16 0] (T.length + 1)) 92) = w0
  intro hb0 hz
  go_loopg [6, 7, 8, 28] T.length (fun g s6 _ _ s28 wr => ∃ (k cc : Nat) (O : List Int), k + g = T.length /\ s28 = .int .i64 k /\ s6 = .int .u32 cc /\ cc <= 1 /\ Hid (O.length = T.length) /\ U16 O /\ RowN wr w.heap.size O [.int .u16 0] /\ Below w.heap.size w wr /\
   Hid (val (O.take k) + 65536 ^ k * cc = val (T.take k) + val (U.take k)))
  case atStart => exact ⟨0, 0, _, by omega, rfl, rfl, by omega, by show _ = _; simp, u16_replicate _, hz, hb0, by show _ = _; simp [val]⟩
  case round =>
   clear hz hb0
   obtain ⟨k, cc, O, hkg, rfl, rfl, hc1, hol, hou, hrow, hwr, hval⟩ := hrel
   have HROW := Hd hrow
   have HKG := Hd hkg
   clear hrow hkg
   by_cases hlt : k < T.length
   ·
    obtain ⟨x, hx⟩ := get_of_lt hlt
    obtain ⟨hx0, hx1⟩ := hup.get hx
    obtain ⟨bp, op, rfl, hcp⟩ := (HP.out.ext (xbw hwr)).cell hx
    have hkO : k < O.length := by rw [hol.out]; exact hlt
    obtain ⟨z, hz⟩ := get_of_lt hkO
    have hcell := HROW.out.cell hz
    have hfr := HROW.out.frozen k
    have hsx := limbAt_some hx
    have hset := fun q : Int => HROW.out.set_ hkO q
    have HSET := Hd hset
    have htk := fun q : Int => take_set_snoc hkO q
    have hstep := fun c2 d h1 => add_step T U (O.take k) k cc c2 d (by rw [List.length_take]; omega) hval.out h1
    rw [hsx] at hstep
    obtain ⟨y, rfl⟩ : ∃ y : Nat, x = (y : Int) := ⟨x.toNat, by omega⟩
    rw [Int.toNat_natCast] at hstep
    have HTK := Hd htk
    have HSTEP := Hd hstep
    clear hset hstep htk hval hx hsx hz
    by_cases hkn : k < U.length
    ·
     obtain ⟨t, ht⟩ := get_of_lt hkn
     obtain ⟨bq, oq, rfl, hcq⟩ := (HQ.out.ext (xbw hwr)).cell ht
     obtain ⟨ht0, ht1⟩ := huq.get ht
     obtain ⟨t, rfl⟩ : ∃ s : Nat, t = (s : Int) := ⟨t.toNat, by omega⟩
     have HST := HSTEP.out
     rw [limbAt_some ht, Int.toNat_natCast] at HST
     obtain ⟨lo, hlo⟩ : ∃ lo, (cc + y + t) % 65536 = lo := ⟨_, rfl⟩
     obtain ⟨c2, hc2⟩ : ∃ c2, (cc + y + t) / 65536 = c2 := ⟨_, rfl⟩
     have hw1 : IntKind.u16.wrap ((cc : Int) + (y : Int) + (t : Int)) = (lo : Int) := by
      have := wrap16 (cc + y + t)
      rw [hlo] at this
      rw [<- this]
      simp
     have hw2 : ((cc : Int) + (y : Int) + (t : Int)) / 65536 = (c2 : Int) := by omega
     have hlo1 : lo <= 65535 := by omega
     have hc21 : c2 <= 1 := by omega
     replace HST := Hd (HST c2 lo (by omega))
     clear ht hlo hc2 HSTEP
     go_wp2
     go_roundg (gk - 1)
     case rel => exact ⟨k + 1, c2, O.set k (lo : Int), by have := HKG.out; omega, by go_num, rfl, by omega, by show _ = _; rw [List.length_set]; exact hol.out, hou.set_ (by omega), HSET.out lo, hwr.setCell (nlr _) _, by show _ = _; rw [HTK.out]; exact HST.out⟩
     case measure => have := HKG.out; omega
    ·
     have HST := HSTEP.out
     rw [limbAt_none (by omega)] at HST
     obtain ⟨lo, hlo⟩ : ∃ lo, (cc + y) % 65536 = lo := ⟨_, rfl⟩
     obtain ⟨c2, hc2⟩ : ∃ c2, (cc + y) / 65536 = c2 := ⟨_, rfl⟩
     have hw1 : IntKind.u16.wrap ((cc : Int) + (y : Int)) = (lo : Int) := by
      have := wrap16 (cc + y)
      rw [hlo] at this
      rw [<- this]
      simp
     have hw2 : ((cc : Int) + (y : Int)) / 65536 = (c2 : Int) := by omega
     have hlo1 : lo <= 65535 := by omega
     have hc21 : c2 <= 1 := by omega
     replace HST := Hd (HST c2 lo (by simp; omega))
     clear hlo hc2 HSTEP
     go_wp2
     go_roundg (gk - 1)
     case rel => exact ⟨k + 1, c2, O.set k (lo : Int), by have := HKG.out; omega, by go_num, rfl, by omega, by show _ = _; rw [List.length_set]; exact hol.out, hou.set_ (by omega), HSET.out lo, hwr.setCell (nlr _) _, by show _ = _; rw [HTK.out]; exact HST.out⟩
     case measure => have := HKG.out; omega
   ·
    obtain rfl : k = T.length := by have := HKG.out; omega
    have hfin : val O + 65536 ^ O.length * cc = n1 + n2 := by
     have h1 := hval.out
     rw [val_take_all (by rw [hol.out]; omega), val_take_all (nlr _), val_take_all (by omega), HVP.out, HVQ.out] at h1
     rw [hol.out]
     exact h1
    have hown : OwnN w.heap.size wr (some ⟨w.heap.size, 0, none⟩) (T.length + 1) O := by
     have h1 := HROW.out.own (nlr _) (c := T.length + 1) (by rw [hol.out]; rfl) (by unfold maxLen; omega) O.length (nlr _)
     rwa [List.take_length] at h1
    have HOWN := Hd hown
    have HFIN := Hd hfin
    clear hown hfin hval
    by_cases hcz : cc = 0
    ·
     subst hcz
     have hres : limbs (n1 + n2) = O := by
      have h1 := HFIN.out
      rw [Nat.mul_zero, Nat.add_zero] at h1
      exact sum_none hou (by rw [hol.out, HLP.out]) h1
     have HRES := Hd hres
     clear hres
     go_wp2
     go_ret
     refine RetN.own (l := O) HOWN.out hou hwr (by rw [HSUM.out]; exact HRES.out) (hol.out.symm)
    ·
     have hres : limbs (n1 + n2) = O ++ [(cc : Int)] := sum_carry hou (by omega) (by omega) HFIN.out
     have HRES := Hd hres
     have HLO : Hid ((O ++ [(cc : Int)]).length <= 16777216) := Hd (by rw [List.length_append, hol.out]; simp; omega)
     obtain rfl : cc = 1 := by omega
     have hown2 := HOWN.out
     have hoL := hol.out
     have hltO : ¬ O.length < O.length := Nat.lt_irrefl _
     rw [<- hoL] at hown2 ⊢
     obtain ⟨cO, hcO⟩ : ∃ q, O.length + 1 = q := ⟨_, rfl⟩
     rw [hcO] at hown2 ⊢
     replace HOWN := Hd hown2
     replace hoL := Hd hoL
     clear hres hown2 hcz hcO
     go_wp2_with (at_builtin; go_must (refine append_nat rfl (.tmp 58) (.tmp 61) rfl (some ⟨w.heap.size, 0, none⟩) cO rfl (HOWN.out.alloc _) ((1 : Nat) : Int) wr.heap.size 1 rfl (by simp) (O ++ [((1 : Nat) : Int)]) rfl HLO.out (by have := hwr.size; simp; omega) ?_); intro a2 c2 w2 ho2 hg2 hx2)
     go_ret
     exact RetN.own ho2 (hou.app (U16.cons (by omega) U16.nil)) (below_append' (hwr.alloc hwr.size _) (HOWN.out.alloc _) hg2) (by rw [HSUM.out]; exact HRES.out) (by simp)
end Go.Proofs.YtdnblkklgdnapaaGreat
