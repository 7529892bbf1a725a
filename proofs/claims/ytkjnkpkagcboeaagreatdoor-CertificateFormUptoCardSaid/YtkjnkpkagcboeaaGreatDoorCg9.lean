/- Walk: the program's rational numbers: Right. -/
import Derived.Test.YtkjnkpkagcboeaaGreatDoorCg8
import Derived.Test.YtkjnkpkagcboeaaGreatDoorCg7
import Derived.Test.YtkjnkpkagcboeaaGreatDoorCg1
import Derived.Test.YtkjnkpkagcboeaaGreatDoorCg3
import Derived.Test.YtkjnkpkagcboeaaGreatDoorCg5
set_option linter.all false
set_option maxRecDepth 100000
set_option maxHeartbeats 4000000
namespace Go.Proofs.YtkjnkpkagcboeaaGreatDoor
open Go.RowKit
theorem expAt_get {l : List Int} {v : Nat} {x : Int} (h : l[v]? = some x) : expAt l v = x := by
 unfold expAt; rw [List.getD_eq_getElem?_getD, h]; rfl
theorem expAt_far {l : List Int} {v : Nat} (h : l.length <= v) : expAt l v = 0 := by
 unfold expAt; rw [List.getD_eq_getElem?_getD, List.getElem?_eq_none h]; rfl
theorem expP_any (l : List Int) (v : Nat) (a : Option Addr) (c : Nat) (w : World) (h : IntsR w a c l) :
  Calls Tryz.prog 144 #[.slice a l.length c, .int .i64 v] w fun e w' => e = .returned (.int .i64 (expAt l v)) /\ w = w' := by
 have hlen := h.len
 by_cases hv : v < l.length
 ·
  obtain ⟨x, hx⟩ := get_of_lt hv
  obtain ⟨b, off, rfl, hc, _⟩ := ints_cell h hx
  rw [expAt_get hx]
  clear hx h
  go_enter Tryz.func144, Tryz.ntmps144
  go_wp2
  go_ret
  exact ⟨rfl, rfl⟩
 ·
  rw [expAt_far (by omega)]
  clear h
  go_enter Tryz.func144, Tryz.ntmps144
  go_wp2
  go_ret
  exact ⟨rfl, rfl⟩
theorem expAt_int {w : World} {a : Option Addr} {c : Nat} {l : List Int} (h : IntsR w a c l) (v : Nat) : InInt (expAt l v) := by
 by_cases hv : v < l.length
 ·
  obtain ⟨x, hx⟩ := get_of_lt hv
  obtain ⟨b, off, _, _, hi⟩ := ints_cell h hx
  rw [expAt_get hx]; exact hi
 · rw [expAt_far (by omega)]; unfold InInt; omega
theorem cmpP5_any (l m : List Int) (a a' : Option Addr) (c c' : Nat) (w : World) (h : IntsR w a c l) (h' : IntsR w a' c' m) :
  Calls Tryz.prog 100 #[.slice a l.length c, .slice a' m.length c', .int .i64 0] w fun e w' => e = .returned (.int .i64 (lexI l m)) /\ w = w' := by
 have hlen := h.len
 have hlen' := h'.len
 have C1 := fun v : Nat => expP_any l v a c w h
 have C2 := fun v : Nat => expP_any m v a' c' w h'
 have I1 := expAt_int h
 have I2 := expAt_int h'
 replace C1 := Hd C1; replace C2 := Hd C2; replace I1 := Hd I1; replace I2 := Hd I2
 clear h h'
 obtain ⟨res, hres⟩ : ∃ x, lexI l m = x := ⟨_, rfl⟩
 rw [hres]
 unfold lexI at hres
 by_cases hlm : l.length < m.length
 ·
  rw [show max l.length m.length = m.length by omega] at hres
  have HRES := Hd hres
  clear hres
  go_enter Tryz.func100, Tryz.ntmps100
  go_wp2
  have HLM := Hd hlm
  clear hlm
  go_loop [9] (fun q => (q = .int .i64 (-1) /\ Hid (0 = res)) \/ ∃ v : Nat, v < m.length /\ q = .int .i64 v /\ Hid (lexDown l m (v + 1) = res)) (fun q => (intOf q + 1).toNat)
  case atStart =>
   have HR := HRES.out
   have hlm := HLM.out
   cases hn : m.length with
   | zero => rw [hn] at HR; exact .inl ⟨by go_num, HR⟩
   | succ k => rw [hn] at HR; exact .inr ⟨k, by omega, by go_num, HR⟩
  case round =>
   rcases hrel with ⟨rfl, hr⟩ | ⟨v, hv, rfl, hr⟩
   ·
    have hr := hr.out
    subst hr
    go_wp2
    go_ret
    exact ⟨rfl, rfl⟩
   ·
    have I1v := I1.out v; have I2v := I2.out v
    obtain ⟨x, hx⟩ : ∃ x, expAt l v = x := ⟨_, rfl⟩
    obtain ⟨y, hy⟩ : ∃ y, expAt m v = y := ⟨_, rfl⟩
    have E1 := C1.out v; have E2 := C2.out v
    rw [hx] at E1 I1v
    rw [hy] at E2 I2v
    obtain ⟨i1, i2⟩ := I1v
    obtain ⟨i3, i4⟩ := I2v
    have hr := hr.out
    unfold lexDown at hr
    rw [hx, hy] at hr
    have HR := Hd hr
    replace E1 := Hd E1; replace E2 := Hd E2
    clear hr hx hy
    go_wp2_with fail
    refine E1.out.mono ?_
    rintro e w1 ⟨rfl, rfl⟩
    go_wp2_with fail
    refine E2.out.mono ?_
    rintro e w1 ⟨rfl, rfl⟩
    by_cases hxy : x = y
    ·
     subst hxy
     have HR2 := Hd ((if_pos rfl).symm.trans HR.out)
     go_wp2
     go_round
     case rel =>
      cases v with
      | zero => exact .inl ⟨by go_num, by have := HR2.out; rw [<- this]; rfl⟩
      | succ k => exact .inr ⟨k, by omega, by go_num, HR2.out⟩
     case measure => simp [intOf]
    ·
     have hb : (x == y) = false := by simpa using hxy
     have HR2 := HR.out
     rw [if_neg hxy] at HR2
     by_cases hlt : x < y
     ·
      rw [if_pos hlt] at HR2
      subst HR2
      clear hxy HR
      go_wp2
      go_ret
      exact ⟨rfl, rfl⟩
     ·
      rw [if_neg hlt] at HR2
      subst HR2
      clear hxy HR
      go_wp2
      go_ret
      exact ⟨rfl, rfl⟩
 ·
  rw [show max l.length m.length = l.length by omega] at hres
  have HRES := Hd hres
  clear hres
  go_enter Tryz.func100, Tryz.ntmps100
  go_wp2
  have HLM := Hd hlm
  clear hlm
  go_loop [9] (fun q => (q = .int .i64 (-1) /\ Hid (0 = res)) \/ ∃ v : Nat, v < l.length /\ q = .int .i64 v /\ Hid (lexDown l m (v + 1) = res)) (fun q => (intOf q + 1).toNat)
  case atStart =>
   have HR := HRES.out
   have hlm := HLM.out
   cases hn : l.length with
   | zero => rw [hn] at HR; exact .inl ⟨by go_num, HR⟩
   | succ k => rw [hn] at HR; exact .inr ⟨k, by omega, by go_num, HR⟩
  case round =>
   rcases hrel with ⟨rfl, hr⟩ | ⟨v, hv, rfl, hr⟩
   ·
    have hr := hr.out
    subst hr
    go_wp2
    go_ret
    exact ⟨rfl, rfl⟩
   ·
    have I1v := I1.out v; have I2v := I2.out v
    obtain ⟨x, hx⟩ : ∃ x, expAt l v = x := ⟨_, rfl⟩
    obtain ⟨y, hy⟩ : ∃ y, expAt m v = y := ⟨_, rfl⟩
    have E1 := C1.out v; have E2 := C2.out v
    rw [hx] at E1 I1v
    rw [hy] at E2 I2v
    obtain ⟨i1, i2⟩ := I1v
    obtain ⟨i3, i4⟩ := I2v
    have hr := hr.out
    unfold lexDown at hr
    rw [hx, hy] at hr
    have HR := Hd hr
    replace E1 := Hd E1; replace E2 := Hd E2
    clear hr hx hy
    go_wp2_with fail
    refine E1.out.mono ?_
    rintro e w1 ⟨rfl, rfl⟩
    go_wp2_with fail
    refine E2.out.mono ?_
    rintro e w1 ⟨rfl, rfl⟩
    by_cases hxy : x = y
    ·
     subst hxy
     have HR2 := Hd ((if_pos rfl).symm.trans HR.out)
     go_wp2
     go_round
     case rel =>
      cases v with
      | zero => exact .inl ⟨by go_num, by have := HR2.out; rw [<- this]; rfl⟩
      | succ k => exact .inr ⟨k, by omega, by go_num, HR2.out⟩
     case measure => simp [intOf]
    ·
     have hb : (x == y) = false := by simpa using hxy
     have HR2 := HR.out
     rw [if_neg hxy] at HR2
     by_cases hlt : x < y
     ·
      rw [if_pos hlt] at HR2
      subst HR2
      clear hxy HR
      go_wp2
      go_ret
      exact ⟨rfl, rfl⟩
     ·
      rw [if_neg hlt] at HR2
      subst HR2
      clear hxy HR
      go_wp2
      go_ret
      exact ⟨rfl, rfl⟩
def Mok (B : Int) (m : List Int) : Prop := (∀ x ∈ m, 0 <= x /\ x <= B) /\ m[m.length - 1]? ≠ some 0 /\ m.length <= 64
theorem Mok.nil (B : Int) : Mok B [] := ⟨fun x h => (by cases h), by simp, by simp⟩
theorem Mok.exp {B : Int} {m : List Int} (h : Mok B m) (hB : 0 <= B) (v : Nat) : 0 <= expAt m v /\ expAt m v <= B := by
 unfold expAt
 rw [List.getD_eq_getElem?_getD]
 cases hx : m[v]? with
 | none => simpa using hB
 | some x => exact h.1 x (List.mem_of_getElem? hx)
theorem mok_ext_le {B : Int} {a b : List Int} (hb : Mok B b) (h : ∀ v, expAt a v = expAt b v) : b.length <= a.length := by
 rcases Nat.lt_or_ge a.length b.length with hl | hl
 ·
  exfalso
  obtain ⟨x, hx⟩ := get_of_lt (show b.length - 1 < b.length by omega)
  have h1 := h (b.length - 1)
  rw [expAt_far (by omega), expAt_get hx] at h1
  exact hb.2.1 (by rw [hx, <- h1])
 · exact hl
theorem mok_ext {B B' : Int} {a b : List Int} (ha : Mok B a) (hb : Mok B' b) (h : ∀ v, expAt a v = expAt b v) : a = b := by
 have h1 := mok_ext_le hb h
 have h2 := mok_ext_le ha fun v => (h v).symm
 apply List.ext_getElem (by omega)
 intro i hi1 hi2
 have := h i
 rwa [expAt_get (List.getElem?_eq_getElem hi1), expAt_get (List.getElem?_eq_getElem hi2)] at this
def gtM (a b : List Int) : Prop := ∃ v, expAt b v < expAt a v /\ ∀ u, v < u -> expAt a u = expAt b u
theorem gtM_trans {a b c : List Int} (h : gtM a b) (k : gtM b c) : gtM a c := by
 obtain ⟨v, h1, h2⟩ := h
 obtain ⟨u, k1, k2⟩ := k
 rcases Nat.lt_trichotomy v u with e | e | e
 · exact ⟨u, by rw [h2 u e]; exact k1, fun x hx => (h2 x (by omega)).trans (k2 x hx)⟩
 · subst e; exact ⟨v, by omega, fun x hx => (h2 x hx).trans (k2 x hx)⟩
 · exact ⟨v, by rw [<- k2 v e]; exact h1, fun x hx => (h2 x hx).trans (k2 x (by omega))⟩
theorem gtM_irrefl {a b : List Int} (h : gtM a b) : ¬ ∀ v, expAt a v = expAt b v := fun e => by
 obtain ⟨v, h1, _⟩ := h
 rw [e v] at h1
 omega
theorem gtM_asymm {a b : List Int} (h : gtM a b) (k : gtM b a) : False := gtM_irrefl (gtM_trans h k) fun _ => rfl
theorem lexDown_cases (a b : List Int) : ∀ n, (∀ v, n <= v -> expAt a v = expAt b v) ->
  (lexDown a b n = 0 /\ ∀ v, expAt a v = expAt b v) \/ (lexDown a b n = 1 /\ gtM a b) \/ (lexDown a b n = -1 /\ gtM b a)
 | 0, h => .inl ⟨rfl, fun v => h v (Nat.zero_le _)⟩
 | n + 1, h => by
  unfold lexDown
  by_cases e : expAt a n = expAt b n
  ·
   rw [if_pos e]
   exact lexDown_cases a b n fun v hv => by
    rcases Nat.eq_or_lt_of_le hv with e' | e'
    · subst e'; exact e
    · exact h v e'
  ·
   rw [if_neg e]
   by_cases l : expAt a n < expAt b n
   ·
    rw [if_pos l]
    exact .inr (.inr ⟨rfl, n, l, fun u hu => (h u hu).symm⟩)
   ·
    rw [if_neg l]
    exact .inr (.inl ⟨rfl, n, by omega, fun u hu => h u hu⟩)
theorem lexI_cases (a b : List Int) : (lexI a b = 0 /\ ∀ v, expAt a v = expAt b v) \/ (lexI a b = 1 /\ gtM a b) \/ (lexI a b = -1 /\ gtM b a) :=
 lexDown_cases a b _ fun v hv => by rw [expAt_far (by omega), expAt_far (by omega)]
theorem lexI_pos {a b : List Int} : 0 < lexI a b ↔ gtM a b := by
 rcases lexI_cases a b with ⟨h, e⟩ | ⟨h, e⟩ | ⟨h, e⟩ <;> rw [h]
 · exact ⟨fun h => by omega, fun h => (gtM_irrefl h e).elim⟩
 · exact ⟨fun _ => e, fun _ => by omega⟩
 · exact ⟨fun h => by omega, fun h => (gtM_asymm h e).elim⟩
theorem lexI_neg {a b : List Int} : lexI a b < 0 ↔ gtM b a := by
 rcases lexI_cases a b with ⟨h, e⟩ | ⟨h, e⟩ | ⟨h, e⟩ <;> rw [h]
 · exact ⟨fun h => by omega, fun h => (gtM_irrefl h fun v => (e v).symm).elim⟩
 · exact ⟨fun h => by omega, fun h => (gtM_asymm h e).elim⟩
 · exact ⟨fun _ => e, fun _ => by omega⟩
theorem lexI_eq {B B' : Int} {a b : List Int} (ha : Mok B a) (hb : Mok B' b) (h1 : ¬ 0 < lexI a b) (h2 : ¬ lexI a b < 0) : a = b := by
 rcases lexI_cases a b with ⟨h, e⟩ | ⟨h, e⟩ | ⟨h, e⟩
 · exact mok_ext ha hb e
 · omega
 · omega
theorem gtM_total {B B' : Int} {a b : List Int} (ha : Mok B a) (hb : Mok B' b) : a = b \/ gtM a b \/ gtM b a := by
 rcases lexI_cases a b with ⟨_, e⟩ | ⟨_, e⟩ | ⟨_, e⟩
 · exact .inl (mok_ext ha hb e)
 · exact .inr (.inl e)
 · exact .inr (.inr e)
def mulM (a b : List Int) : List Int := (List.range (max a.length b.length)).map fun v => expAt a v + expAt b v
theorem mulM_len (a b : List Int) : (mulM a b).length = max a.length b.length := by simp [mulM]
theorem mulM_get (a b : List Int) {v : Nat} (h : v < max a.length b.length) : (mulM a b)[v]? = some (expAt a v + expAt b v) := by
 unfold mulM
 rw [List.getElem?_map, List.getElem?_range h]
 rfl
theorem expAt_mul (a b : List Int) (v : Nat) : expAt (mulM a b) v = expAt a v + expAt b v := by
 rcases Nat.lt_or_ge v (max a.length b.length) with h | h
 · exact expAt_get (mulM_get a b h)
 · rw [expAt_far (by rw [mulM_len]; exact h), expAt_far (l := a) (by omega), expAt_far (l := b) (by omega)]; rfl
theorem mulM_ok {B B' : Int} {a b : List Int} (ha : Mok B a) (hb : Mok B' b) (hB : 0 <= B) (hB' : 0 <= B') : Mok (B + B') (mulM a b) := by
 refine ⟨?_, ?_, by rw [mulM_len]; have := ha.2.2; have := hb.2.2; omega⟩
 ·
  intro x hx
  obtain ⟨v, hv, rfl⟩ := List.mem_map.1 hx
  have h1 := ha.exp hB v
  have h2 := hb.exp hB' v
  omega
 ·
  rw [mulM_len]
  rcases Nat.eq_zero_or_pos (max a.length b.length) with h | h
  ·
   have : mulM a b = [] := List.eq_nil_of_length_eq_zero (by rw [mulM_len, h])
   rw [this]; simp
  ·
   rw [mulM_get a b (by omega)]
   intro e
   injection e with e
   have h1 := ha.exp hB (max a.length b.length - 1)
   have h2 := hb.exp hB' (max a.length b.length - 1)
   rcases Nat.le_total a.length b.length with l | l
   ·
    obtain ⟨x, hx⟩ := get_of_lt (show b.length - 1 < b.length by omega)
    rw [show max a.length b.length = b.length by omega] at e h1 h2
    rw [expAt_get hx] at e h2
    exact hb.2.1 (by rw [hx, show x = 0 by omega])
   ·
    obtain ⟨x, hx⟩ := get_of_lt (show a.length - 1 < a.length by omega)
    rw [show max a.length b.length = a.length by omega] at e h1 h2
    rw [expAt_get hx] at e h1
    exact ha.2.1 (by rw [hx, show x = 0 by omega])
theorem gtM_mul {a b : List Int} (h : gtM a b) (c : List Int) : gtM (mulM a c) (mulM b c) := by
 obtain ⟨v, h1, h2⟩ := h
 refine ⟨v, by rw [expAt_mul, expAt_mul]; omega, fun u hu => by rw [expAt_mul, expAt_mul, h2 u hu]⟩
abbrev Tm := Rat × List Int
def coefP : List Tm -> List Int -> Rat
 | [], _ => 0
 | t :: p, m => (if t.2 = m then t.1 else 0) + coefP p m
def Tok (B : Int) (p : List Tm) : Prop := ∀ t ∈ p, Mok B t.2 /\ t.1 ≠ 0
def Pok (B : Int) (p : List Tm) : Prop := Tok B p /\ p.Pairwise fun s t => gtM s.2 t.2
theorem Pok.nil (B : Int) : Pok B [] := ⟨fun t h => (by cases h), List.Pairwise.nil⟩
theorem Pok.tail {B : Int} {t : Tm} {p : List Tm} (h : Pok B (t :: p)) : Pok B p := ⟨fun s hs => h.1 s (List.mem_cons_of_mem _ hs), h.2.tail⟩
theorem Pok.head {B : Int} {t : Tm} {p : List Tm} (h : Pok B (t :: p)) : Mok B t.2 /\ t.1 ≠ 0 := h.1 t (List.mem_cons_self)
theorem Pok.gt {B : Int} {t : Tm} {p : List Tm} (h : Pok B (t :: p)) : ∀ s ∈ p, gtM t.2 s.2 := (List.pairwise_cons.1 h.2).1
theorem Pok.cons {B : Int} {t : Tm} {p : List Tm} (h : Pok B p) (h1 : Mok B t.2) (h2 : t.1 ≠ 0) (h3 : ∀ s ∈ p, gtM t.2 s.2) : Pok B (t :: p) :=
 ⟨fun s hs => (by rcases List.mem_cons.1 hs with rfl | hs
                  · exact ⟨h1, h2⟩
                  · exact h.1 s hs), List.pairwise_cons.2 ⟨h3, h.2⟩⟩
theorem coefP_none {p : List Tm} {m : List Int} (h : ∀ s ∈ p, s.2 ≠ m) : coefP p m = 0 := by
 induction p with
 | nil => rfl
 | cons t p ih =>
  unfold coefP
  rw [if_neg (h t (List.mem_cons_self)), ih fun s hs => h s (List.mem_cons_of_mem _ hs)]
  grind
theorem gtM_ne {a b : List Int} (h : gtM a b) : a ≠ b := fun e => gtM_irrefl h fun v => by rw [e]
theorem coefP_head {B : Int} {t : Tm} {p : List Tm} (h : Pok B (t :: p)) : coefP (t :: p) t.2 = t.1 := by
 unfold coefP
 rw [if_pos rfl, coefP_none fun s hs e => gtM_ne (h.gt s hs) e.symm]
 grind
theorem coefP_above {B : Int} {t : Tm} {p : List Tm} {m : List Int} (h : Pok B (t :: p)) (hm : gtM m t.2) : coefP (t :: p) m = 0 :=
 coefP_none fun s hs e => by
  rcases List.mem_cons.1 hs with rfl | hs
  · exact gtM_ne hm e.symm
  · exact gtM_ne (gtM_trans hm (h.gt s hs)) e.symm
theorem pok_ext {B B' : Int} : ∀ {p q : List Tm}, Pok B p -> Pok B' q -> (∀ m, coefP p m = coefP q m) -> p = q
 | [], [], _, _, _ => rfl
 | [], t :: q, _, hq, h => by
  have := h t.2
  rw [coefP_head hq] at this
  exact absurd this.symm hq.head.2
 | s :: p, [], hp, _, h => by
  have := h s.2
  rw [coefP_head hp] at this
  exact absurd this hp.head.2
 | s :: p, t :: q, hp, hq, h => by
  rcases gtM_total hp.head.1 hq.head.1 with e | e | e
  ·
   have h1 : s.1 = t.1 := by
    have := h s.2
    rw [coefP_head hp, e, coefP_head hq] at this
    exact this
   have h2 : s = t := Prod.ext h1 e
   subst h2
   rw [pok_ext hp.tail hq.tail fun m => by
    have := h m
    unfold coefP at this
    grind]
  ·
   have := h s.2
   rw [coefP_head hp, coefP_above hq e] at this
   exact absurd this hp.head.2
  ·
   have := h t.2
   rw [coefP_head hq, coefP_above hp e] at this
   exact absurd this.symm hq.head.2
def addP : List Tm -> List Tm -> List Tm
 | [], q => q
 | s :: p, [] => s :: p
 | s :: p, t :: q =>
  if 0 < lexI s.2 t.2 then s :: addP p (t :: q)
  else if lexI s.2 t.2 < 0 then t :: addP (s :: p) q
  else if s.1 + t.1 = 0 then addP p q
  else (s.1 + t.1, s.2) :: addP p q
termination_by p q => p.length + q.length
theorem addP_nil (p : List Tm) : addP p [] = p := by cases p <;> unfold addP <;> rfl
theorem addP_nil' (p : List Tm) : addP [] p = p := by unfold addP; rfl
theorem addP_gt {s t : Tm} {p q : List Tm} (h : 0 < lexI s.2 t.2) : addP (s :: p) (t :: q) = s :: addP p (t :: q) := by rw [addP, if_pos h]
theorem addP_lt {s t : Tm} {p q : List Tm} (h : lexI s.2 t.2 < 0) : addP (s :: p) (t :: q) = t :: addP (s :: p) q := by rw [addP, if_neg (by omega), if_pos h]
theorem addP_gone {s t : Tm} {p q : List Tm} (h : lexI s.2 t.2 = 0) (h0 : s.1 + t.1 = 0) : addP (s :: p) (t :: q) = addP p q := by rw [addP, if_neg (by omega), if_neg (by omega), if_pos h0]
theorem addP_eq {s t : Tm} {p q : List Tm} (h : lexI s.2 t.2 = 0) (h0 : s.1 + t.1 ≠ 0) : addP (s :: p) (t :: q) = (s.1 + t.1, s.2) :: addP p q := by rw [addP, if_neg (by omega), if_neg (by omega), if_neg h0]
theorem addP_len : ∀ (p q : List Tm), (addP p q).length <= p.length + q.length
 | [], q => by rw [addP_nil']; simp
 | s :: p, [] => by rw [addP_nil]; simp
 | s :: p, t :: q => by
  rw [addP]
  split
  · have := addP_len p (t :: q); simp at this ⊢; omega
  ·
   split
   · have := addP_len (s :: p) q; simp at this ⊢; omega
   ·
    split
    · have := addP_len p q; simp at this ⊢; omega
    · have := addP_len p q; simp at this ⊢; omega
termination_by p q => p.length + q.length
theorem addP_mem : ∀ (p q : List Tm) (u : Tm), u ∈ addP p q -> u ∈ p \/ u ∈ q \/ ∃ s ∈ p, ∃ t ∈ q, u = (s.1 + t.1, s.2) /\ lexI s.2 t.2 = 0 /\ s.1 + t.1 ≠ 0
 | [], q, u, h => by rw [addP_nil'] at h; exact .inr (.inl h)
 | s :: p, [], u, h => by rw [addP_nil] at h; exact .inl h
 | s :: p, t :: q, u, h => by
  have fix : ∀ {p' q' : List Tm}, (∀ x ∈ p', x ∈ s :: p) -> (∀ x ∈ q', x ∈ t :: q) -> (u ∈ p' \/ u ∈ q' \/ ∃ s ∈ p', ∃ t ∈ q', u = (s.1 + t.1, s.2) /\ lexI s.2 t.2 = 0 /\ s.1 + t.1 ≠ 0) ->
    (u ∈ s :: p \/ u ∈ t :: q \/ ∃ s' ∈ s :: p, ∃ t' ∈ t :: q, u = (s'.1 + t'.1, s'.2) /\ lexI s'.2 t'.2 = 0 /\ s'.1 + t'.1 ≠ 0) := fun h1 h2 h3 => by
   rcases h3 with h | h | ⟨a, ha, b, hb, e⟩
   · exact .inl (h1 _ h)
   · exact .inr (.inl (h2 _ h))
   · exact .inr (.inr ⟨a, h1 _ ha, b, h2 _ hb, e⟩)
  have m1 : ∀ x ∈ p, x ∈ s :: p := fun x hx => List.mem_cons_of_mem _ hx
  have m2 : ∀ x ∈ q, x ∈ t :: q := fun x hx => List.mem_cons_of_mem _ hx
  by_cases c1 : 0 < lexI s.2 t.2
  ·
   rw [addP_gt c1] at h
   rcases List.mem_cons.1 h with rfl | h
   · exact .inl (List.mem_cons_self)
   · exact fix m1 (fun _ h => h) (addP_mem p (t :: q) u h)
  ·
   by_cases c2 : lexI s.2 t.2 < 0
   ·
    rw [addP_lt c2] at h
    rcases List.mem_cons.1 h with rfl | h
    · exact .inr (.inl (List.mem_cons_self))
    · exact fix (fun _ h => h) m2 (addP_mem (s :: p) q u h)
   ·
    by_cases c3 : s.1 + t.1 = 0
    ·
     rw [addP_gone (by omega) c3] at h
     exact fix m1 m2 (addP_mem p q u h)
    ·
     rw [addP_eq (by omega) c3] at h
     rcases List.mem_cons.1 h with rfl | h
     · exact .inr (.inr ⟨s, List.mem_cons_self, t, List.mem_cons_self, rfl, by omega, c3⟩)
     · exact fix m1 m2 (addP_mem p q u h)
termination_by p q => p.length + q.length
theorem coefP_add {B B' : Int} : ∀ {p q : List Tm}, Tok B p -> Tok B' q -> ∀ m, coefP (addP p q) m = coefP p m + coefP q m
 | [], q, _, _, m => by rw [addP_nil']; unfold coefP; grind
 | s :: p, [], _, _, m => by rw [addP_nil, coefP.eq_1 m]; grind
 | s :: p, t :: q, hp, hq, m => by
  have hp' : Tok B p := fun x hx => hp x (List.mem_cons_of_mem _ hx)
  have hq' : Tok B' q := fun x hx => hq x (List.mem_cons_of_mem _ hx)
  by_cases c1 : 0 < lexI s.2 t.2
  ·
   have := coefP_add hp' hq m
   rw [addP_gt c1, coefP, this, coefP.eq_2 m s p]; grind
  ·
   by_cases c2 : lexI s.2 t.2 < 0
   ·
    have := coefP_add hp hq' m
    rw [addP_lt c2, coefP, this, coefP.eq_2 m t q]; grind
   ·
    have e := lexI_eq (hp s List.mem_cons_self).1 (hq t List.mem_cons_self).1 c1 c2
    have := coefP_add hp' hq' m
    by_cases c3 : s.1 + t.1 = 0
    · rw [addP_gone (by omega) c3, this, coefP.eq_2 m t q, coefP.eq_2 m s p, e]; grind
    · rw [addP_eq (by omega) c3, coefP, this, coefP.eq_2 m t q, coefP.eq_2 m s p, e]; dsimp only; grind
termination_by p q => p.length + q.length
theorem addP_ok {B : Int} : ∀ {p q : List Tm}, Pok B p -> Pok B q -> Pok B (addP p q)
 | [], q, _, hq => by rw [addP_nil']; exact hq
 | s :: p, [], hp, _ => by rw [addP_nil]; exact hp
 | s :: p, t :: q, hp, hq => by
  by_cases c1 : 0 < lexI s.2 t.2
  ·
   rw [addP_gt c1]
   refine (addP_ok hp.tail hq).cons hp.head.1 hp.head.2 fun u hu => ?_
   have g : gtM s.2 t.2 := lexI_pos.1 c1
   rcases addP_mem _ _ _ hu with h | h | ⟨a, ha, b, _, rfl, _⟩
   · exact hp.gt u h
   ·
    rcases List.mem_cons.1 h with rfl | h
    · exact g
    · exact gtM_trans g (hq.gt u h)
   · exact hp.gt a ha
  ·
   by_cases c2 : lexI s.2 t.2 < 0
   ·
    rw [addP_lt c2]
    refine (addP_ok hp hq.tail).cons hq.head.1 hq.head.2 fun u hu => ?_
    have g : gtM t.2 s.2 := lexI_neg.1 c2
    rcases addP_mem _ _ _ hu with h | h | ⟨a, ha, b, _, rfl, _⟩
    ·
     rcases List.mem_cons.1 h with rfl | h
     · exact g
     · exact gtM_trans g (hp.gt u h)
    · exact hq.gt u h
    ·
     rcases List.mem_cons.1 ha with rfl | ha
     · exact g
     · exact gtM_trans g (hp.gt a ha)
   ·
    have e := lexI_eq hp.head.1 hq.head.1 c1 c2
    by_cases c3 : s.1 + t.1 = 0
    · rw [addP_gone (by omega) c3]; exact addP_ok hp.tail hq.tail
    ·
     rw [addP_eq (by omega) c3]
     refine (addP_ok hp.tail hq.tail).cons hp.head.1 c3 fun u hu => ?_
     rcases addP_mem _ _ _ hu with h | h | ⟨a, ha, b, _, rfl, _⟩
     · exact hp.gt u h
     · rw [e]; exact hq.gt u h
     · exact hp.gt a ha
termination_by p q => p.length + q.length
def timesP (p : List Tm) (t : Tm) : List Tm := p.map fun s => (s.1 * t.1, mulM s.2 t.2)
theorem timesP_ok {B B' : Int} {p : List Tm} {t : Tm} (h : Pok B p) (ht : Mok B' t.2) (h0 : t.1 ≠ 0) (hB : 0 <= B) (hB' : 0 <= B') : Pok (B + B') (timesP p t) := by
 refine ⟨fun u hu => ?_, ?_⟩
 ·
  obtain ⟨s, hs, rfl⟩ := List.mem_map.1 hu
  exact ⟨mulM_ok (h.1 s hs).1 ht hB hB', by have := (h.1 s hs).2; dsimp only; grind⟩
 ·
  unfold timesP
  rw [List.pairwise_map]
  exact h.2.imp fun hg => gtM_mul hg _
def pairC (p q : List Tm) (m : List Int) : Rat := match q with
 | [] => 0
 | t :: q => coefP (timesP p t) m + pairC p q m
theorem foldl_ok {B B' : Int} {p : List Tm} (hp : Pok B p) (hB : 0 <= B) (hB' : 0 <= B') : ∀ (q out : List Tm), Tok B' q -> Pok (B + B') out ->
  Pok (B + B') (q.foldl (fun out t => addP out (timesP p t)) out) /\ ∀ m, coefP (q.foldl (fun out t => addP out (timesP p t)) out) m = coefP out m + pairC p q m
 | [], out, _, ho => ⟨ho, fun m => by unfold pairC; rw [List.foldl_nil]; grind⟩
 | t :: q, out, hq, ho => by
  have ht := hq t List.mem_cons_self
  have h1 := timesP_ok hp ht.1 ht.2 hB hB'
  obtain ⟨h2, h3⟩ := foldl_ok hp hB hB' q _ (fun x hx => hq x (List.mem_cons_of_mem _ hx)) (addP_ok ho h1)
  refine ⟨h2, fun m => ?_⟩
  rw [List.foldl_cons, h3 m, coefP_add ho.1 h1.1]
  rw [pairC]
  grind
theorem coefP_cons (t : Tm) (p : List Tm) (m : List Int) : coefP (t :: p) m = (if t.2 = m then t.1 else 0) + coefP p m := rfl
def halvesP (l : List (List Tm)) : List Tm :=
 if h : l.length <= 1 then l.headD [] else addP (halvesP (l.take (l.length / 2))) (halvesP (l.drop (l.length / 2)))
termination_by l.length
decreasing_by
 · rw [List.length_take]; omega
 · rw [List.length_drop]; omega
def sumC (l : List (List Tm)) (m : List Int) : Rat := match l with
 | [] => 0
 | p :: l => coefP p m + sumC l m
theorem sumC_append (l l' : List (List Tm)) (m : List Int) : sumC (l ++ l') m = sumC l m + sumC l' m := by
 induction l with
 | nil => unfold sumC; rw [List.nil_append]; grind [sumC]
 | cons p l ih => rw [List.cons_append, sumC, ih, sumC]; grind
theorem halvesP_ok {B : Int} (l : List (List Tm)) (h : ∀ p ∈ l, Pok B p) : Pok B (halvesP l) /\ ∀ m, coefP (halvesP l) m = sumC l m := by
 rw [halvesP]
 split
 ·
  next hl =>
  match l, hl with
  | [], _ => exact ⟨Pok.nil _, fun m => rfl⟩
  | [p], _ => exact ⟨h p List.mem_cons_self, fun m => by unfold sumC sumC; simp only [List.headD_cons]; grind⟩
 ·
  next hl =>
  have h1 := halvesP_ok (B := B) (l.take (l.length / 2)) fun p hp => h p (List.mem_of_mem_take hp)
  have h2 := halvesP_ok (B := B) (l.drop (l.length / 2)) fun p hp => h p (List.mem_of_mem_drop hp)
  refine ⟨addP_ok h1.1 h2.1, fun m => ?_⟩
  rw [coefP_add h1.1.1 h2.1.1, h1.2, h2.2, <- sumC_append, List.take_append_drop]
termination_by l.length
decreasing_by
 · rw [List.length_take]; omega
 · rw [List.length_drop]; omega
def Agr (X : Nat -> Prop) (w V : World) : Prop := ∀ p v, ¬ X p.block -> w.cell? p = some v -> V.cell? p = some v
def Rd (X : Nat -> Prop) (w : World) (R : World -> Prop) : Prop := ∀ V, Agr X w V -> R V
section
variable {X Y : Nat -> Prop} {w w' w'' V : World} {R R' : World -> Prop}
theorem Agr.refl (X : Nat -> Prop) (w : World) : Agr X w w := fun _ _ _ h => h
theorem Agr.trans (h : Agr X w w') (k : Agr X w' w'') : Agr X w w'' := fun p v hp hc => k p v hp (h p v hp hc)
theorem Agr.mono (h : Agr X w w') (e : ∀ b, X b -> Y b) : Agr Y w w' := fun p v hp hc => h p v (fun hx => hp (e _ hx)) hc
theorem Agr.ext (h : Ext w w') : Agr X w w' := fun p v _ hc => h p v hc
theorem Agr.below (h : Below w.heap.size w w') : Agr X w w' := Agr.ext (xbw h)
theorem Agr.alloc (h : Agr X w w') (o : Obj) : Agr X w (w'.alloc o) := fun p v hp hc => by
 have e := h p v hp hc
 exact (World.cell?_alloc_lt w' o p (World.block_lt_of_cell? w' p e)).trans e
theorem Agr.setc {g i : Nat} {u : Value} (hg : X g) (h : Agr X w w') : Agr X w (w'.setCell ⟨g, i, none⟩ u) := fun p v hp hc =>
 (World.cell?_setCell_other w' ⟨g, i, none⟩ p u (fun e => by subst e; exact hp hg)).trans (h p v hp hc)
theorem Agr.grown {a : Option Addr} {n c : Nat} (h : Agr X w w') (hg : w'.grownBy w'' (Value.ownBlock (.slice a n c))) (ha : ∀ g, a = some g -> X g.block) : Agr X w w'' := fun p v hp hc =>
 hg.cell (h p v hp hc) (fun e => by
  cases a with
  | none => simp [Value.ownBlock] at e
  | some g => simp [Value.ownBlock] at e; exact hp (e ▸ ha g rfl))
theorem Rd.less {Y : Nat -> Prop} (h : Rd Y w R) (e : ∀ b, X b -> Y b) : Rd X w R := fun V hV => h V (hV.mono e)
theorem Rd.now (h : Rd X w R) : R w := h w (Agr.refl _ _)
theorem Rd.imp (h : Rd X w R) (e : ∀ V, R V -> R' V) : Rd X w R' := fun V hV => e V (h V hV)
theorem Rd.and (h : Rd X w R) (k : Rd X w R') : Rd X w fun V => R V /\ R' V := fun V hV => ⟨h V hV, k V hV⟩
theorem Rd.step (h : Rd X w R) (hw : Agr X w w') : Rd X w' R := fun V hV => h V (hw.trans hV)
theorem Rd.call (h : Rd X w R) (hb : Below w.heap.size w w') : Rd X w' R := h.step (Agr.below hb)
theorem Rd.alloc (h : Rd X w R) (o : Obj) : Rd X (w.alloc o) R := h.step ((Agr.refl _ _).alloc o)
theorem Rd.more (h : Rd X w R) (e : ∀ b, Y b -> X b \/ w.heap.size <= b) : Rd Y w R := fun V hV => h V fun p v hp hc =>
 hV p v (fun hy => (e _ hy).elim hp fun hl => absurd (World.block_lt_of_cell? w p hc) (by omega)) hc
end
def Sat (S : World -> Prop) (w : World) : Prop := S w
section
variable {α β : Type} {f : α -> List Value} {sz : Nat} {t : TypeId} {B : Nat} {w V : World} {a : Option Addr} {c : Nat} {l : List α} {X : Nat -> Prop}
theorem Own.readsX {E : World -> Nat -> Nat -> β -> Prop} (m : List β) (hlen : m.length = l.length) (hf : ∀ x, (f x).length = sz) (h : Own f sz t B w a c l) (hV : Agr X w V) (hX : ∀ g, a = some g -> ¬ X g.block)
  (hE : ∀ (b o k : Nat) (x : α) (y : β), l[k]? = some x -> m[k]? = some y -> (∀ j u, (f x)[j]? = some u -> V.cell? ⟨b, o + j, none⟩ = some u) -> E V b o y) : SlR sz E V a c m := by
 refine ⟨by rw [hlen]; exact h.cap.1, h.cap.2, fun k y hy => ?_⟩
 obtain ⟨x, hx⟩ := get_of_lt (show k < l.length by have := lt_of_get hy; omega)
 obtain ⟨b, ha, hB, _, hc⟩ := h.at_ hf hx
 exact ⟨b, 0, ha, hE _ _ _ _ _ hx hy (fun j u hu => hV _ _ (fun hx => hX _ ha hx) (by simpa using hc j u hu))⟩
end
def maskAt (acc : List Nat) (j : Nat) : Nat := if j < acc.length then acc.getD (acc.length - 1 - j) 0 else 0
def maskOf (md : Region.Mode) (acc : List Nat) (o : Oper) : Nat := o.after.toList.foldl (fun m e => if Region.binds md e then m ||| (2 ^ e.on ||| maskAt acc e.on) else m) 0
def goM (md : Region.Mode) (k : List Nat -> Bool) : List Oper -> List Nat -> Bool
 | [], acc => k acc
 | o :: r, acc => match maskOf md acc o with
  | 0 => goM md k r (0 :: acc)
  | m + 1 => goM md k r ((m + 1) :: acc)
def orderM (md : Region.Mode) (ops : Array Oper) (l : List (Nat × Mode4)) : Bool :=
 goM md (fun acc => l.all fun x => match x.2 with
  | .q => l.all fun y => !y.2.tail || (maskAt acc y.1).testBit x.1
  | _ => true) ops.toList []
def GoodM (md : Region.Mode) (ops : Array Oper) (acc : List Nat) : Prop := ∀ j i, (maskAt acc j).testBit i = true -> ∀ n, j < n -> dep md ops n j i = true
theorem fold_bit {md : Region.Mode} {acc : List Nat} {i : Nat} : ∀ (l : List Edge) (m : Nat), (l.foldl (fun m e => if Region.binds md e then m ||| (2 ^ e.on ||| maskAt acc e.on) else m) m).testBit i = true ->
  m.testBit i = true \/ ∃ e ∈ l, Region.binds md e = true /\ (e.on = i \/ (maskAt acc e.on).testBit i = true)
 | [], m, h => .inl h
 | e :: l, m, h => by
  rw [List.foldl_cons] at h
  rcases fold_bit l _ h with h1 | ⟨e', he, h2⟩
  ·
   by_cases hb : Region.binds md e = true
   ·
    rw [if_pos hb, Nat.testBit_or, Bool.or_eq_true] at h1
    rcases h1 with h1 | h1
    · exact .inl h1
    ·
     rw [Nat.testBit_or, Bool.or_eq_true] at h1
     refine .inr ⟨e, by simp, hb, ?_⟩
     rcases h1 with h1 | h1
     · left; rw [Nat.testBit_two_pow] at h1; simpa using h1
     · exact .inr h1
   ·
    rw [if_neg hb] at h1
    exact .inl h1
  · exact .inr ⟨e', by simp [he], h2⟩
theorem GoodM.step {md : Region.Mode} {ops : Array Oper} {acc : List Nat} {o : Oper} (h : GoodM md ops acc) (ho : ops[acc.length]? = some o) : GoodM md ops (maskOf md acc o :: acc) := by
 intro j i hj n hn
 unfold maskAt at hj
 split at hj
 ·
  next hlt =>
  rw [List.length_cons] at hlt
  by_cases hje : j = acc.length
  ·
   subst hje
   have : (maskOf md acc o :: acc).getD ((maskOf md acc o :: acc).length - 1 - acc.length) 0 = maskOf md acc o := by simp
   rw [this] at hj
   rcases fold_bit _ _ hj with h1 | ⟨e, he, hb, h1⟩
   · simp at h1
   ·
    cases n with
    | zero => omega
    | succ n =>
     unfold dep
     rw [ho]
     dsimp only
     rw [Array.any_eq_true']
     refine ⟨e, by simpa using he, ?_⟩
     rw [hb, Bool.true_and, Bool.or_eq_true]
     rcases h1 with h1 | h1
     · left; simpa using h1
     ·
      right
      have hlt2 : e.on < acc.length := by
       unfold maskAt at h1
       split at h1
       · assumption
       · simp at h1
      exact h _ _ h1 n (by omega)
  ·
   have : (maskOf md acc o :: acc).getD ((maskOf md acc o :: acc).length - 1 - j) 0 = maskAt acc j := by
    unfold maskAt
    rw [if_pos (by omega), List.length_cons, show acc.length + 1 - 1 - j = (acc.length - 1 - j) + 1 by omega, List.getD_cons_succ]
   rw [this] at hj
   exact h _ _ hj n hn
 · simp at hj
theorem goM_good {md : Region.Mode} {ops : Array Oper} {k : List Nat -> Bool} : ∀ (r : List Oper) (acc : List Nat), GoodM md ops acc -> (∀ j, r[j]? = ops[acc.length + j]?) -> goM md k r acc = true ->
  ∃ acc', GoodM md ops acc' /\ k acc' = true
 | [], acc, hg, _, h => ⟨acc, hg, h⟩
 | o :: r, acc, hg, hr, h => by
  have ho : ops[acc.length]? = some o := by have := hr 0; simpa using this.symm
  have hs := hg.step ho
  unfold goM at h
  have hr' : ∀ j, r[j]? = ops[acc.length + 1 + j]? := fun j => by have := hr (j + 1); rw [List.getElem?_cons_succ] at this; rw [this]; congr 1; omega
  split at h
  ·
   next hm =>
   rw [hm] at hs
   exact goM_good r _ hs hr' h
  ·
   next m hm =>
   rw [hm] at hs
   exact goM_good r _ hs hr' h
theorem orderB_of_M {md : Region.Mode} {ops : Array Oper} {l : List (Nat × Mode4)} (hd : decide (l.map (·.1)).Nodup = true) (hin : (l.all fun x => decide (x.1 < ops.size)) = true) (h : orderM md ops l = true) : orderB md ops l = true := by
 obtain ⟨acc, hg, hk⟩ := goM_good (ops := ops) ops.toList [] (fun j i hj => by simp [maskAt] at hj) (fun j => by simp) h
 unfold orderB
 rw [hd, Bool.true_and, List.all_eq_true]
 rw [List.all_eq_true] at hk hin
 intro x hx
 have h1 := hk x hx
 obtain ⟨xi, xm⟩ := x
 cases xm with
 | q =>
  dsimp only at h1 ⊢
  rw [List.all_eq_true] at h1 ⊢
  intro y hy
  have h2 := h1 y hy
  rw [Bool.or_eq_true] at h2 ⊢
  rcases h2 with h2 | h2
  · exact .inl h2
  · exact .inr (hg _ _ h2 _ (by simpa using hin y hy))
 | p => rfl
 | l => rfl
 | t => rfl
section
variable {P : Program} {ops : Array Oper} {Q : Exit -> Act -> World -> Prop} {S : World -> Prop}
theorem wp_region_mixM {id : Nat} {a : Act} {w : World} (l : List (Nat × Mode4)) (hm : P.follows .mixedOrders = true) (hs : Region.noSelect ops = true)
  (hB : ((l.length == ops.size && (decide (l.map (·.1)).Nodup && l.all fun x => decide (x.1 < ops.size))) && (orderM .any ops l && (lateB l false && mixB .any ops l (Array.replicate ops.size false)))) = true)
  (hQ : ∀ d v c a w, Q (.panic c) (a.put d v) w -> Q (.panic c) a w) (hS : S w.drew) (h : wpMix P ops Q S l a w.drew) : (Code.region id ops true).wp P Q a w := by
 simp only [Bool.and_eq_true] at hB
 obtain ⟨⟨h1, h2, h3⟩, h4, h5, h6⟩ := hB
 refine wp_region_mix l hm hs ?_ hQ hS h
 rw [h1, orderB_of_M h2 h3 h4, h5, h6]; rfl
end
theorem rightI_any (neg : Bool) (num : List Int) (a : Option Addr) (c : Nat) (w : World) (h : NatR w a c num) :
  Calls Tryz.prog 97 #[.agg #[.bool neg, .slice a num.length c]] w fun e w' => e = .returned (.bool (rightI neg num)) /\ Below w.heap.size w w' := by
 have hlen := h.len
 have hu := h.u16
 have hb0 : Below w.heap.size w (w.alloc (.cells #[.bool neg, .slice a num.length c] 52)) := brf.alloc (nlr _) _
 by_cases h0 : num.length = 0
 ·
  obtain rfl : num = [] := List.length_eq_zero_iff.1 h0
  have hr : rightI neg [] = !neg := by simp [rightI, canonB, val, limbs_zero]
  rw [hr]
  clear h hu h0 hr
  cases neg
  all_goals
   go_enter Tryz.func97, Tryz.ntmps97
   go_wp2
   go_ret
   exact ⟨rfl, hb0⟩
 ·
  obtain ⟨x, hx⟩ := get_of_lt (xs := num) (k := num.length - 1) (by omega)
  obtain ⟨b, off, rfl, hc⟩ := h.cell hx
  have hcan := canonB_last hu hx (by omega)
  have hr : rightI neg num = !(x == 0) := by
   unfold rightI
   rw [hcan]
   simp [h0]
  rw [hr]
  have hk := held hc
  have hbl : b < w.heap.size := by have := World.block_lt_of_cell? w _ hc; simpa using this
  have hbl2 : b < w.heap.size + 1 := by omega
  have hi1 : (0 : Int) <= (num.length : Int) - 1 := by omega
  have hti : ((num.length : Int) - 1).toNat = num.length - 1 := by omega
  have hgt : decide (0 < num.length) = true := by rw [decide_eq_true_eq]; omega
  have hgt2 : decide ((0 : Int) < (num.length : Int)) = true := by rw [decide_eq_true_eq]; omega
  have he : ((num.length : Int) == 0) = false := by rw [beq_eq_false_iff_ne]; omega
  clear h hu hx hc hcan hr
  by_cases hx0 : x = 0
  ·
   subst hx0
   go_enter Tryz.func97, Tryz.ntmps97
   go_wp2
   go_ret
   exact ⟨rfl, hb0⟩
  ·
   have hxb : (x == 0) = false := by simpa using hx0
   have hxn : (x != 0) = true := by simpa using hx0
   rw [hxb]
   clear hx0
   go_enter Tryz.func97, Tryz.ntmps97
   go_wp2
   go_ret
   exact ⟨rfl, hb0⟩
theorem rt_right_one {neg : Bool} {num den : List Int} (hI : rightI neg num = true) (hc : canonB den = true) (h0 : 0 < den.length) (h1 : decide (den.length = 1 /\ limbAt den 0 = 1) = true) : Rt.right ⟨neg, num, den⟩ = true := by
 rw [decide_eq_true_eq] at h1
 obtain ⟨h1, h2⟩ := h1
 match den, h1 with
 | [x], _ =>
  simp [limbAt] at h2
  subst h2
  simp [Rt.right, hI, hc, val]
theorem rt_right_gcd {neg : Bool} {num den : List Int} (hI : rightI neg num = true) (hc : canonB den = true) (h0 : 0 < den.length) : Rt.right ⟨neg, num, den⟩ = decide (Nat.gcd (val num) (val den) = 1) := by
 simp [Rt.right, hI, hc, h0]
theorem rightQ_any (r : Rt) (na : Option Addr) (nc : Nat) (da : Option Addr) (dc : Nat) (w : World) (h : NatR w na nc r.num) (h' : NatR w da dc r.den) (hl : r.num.length <= 2000000) (hm : r.den.length <= 2000000) :
  Calls Tryz.prog 51 #[r.val na nc da dc] w fun e w' => e = .returned (.bool r.right) /\ Below w.heap.size w w' := by
 obtain ⟨neg, num, den⟩ := r
 have CR := fun W (hW : Below w.heap.size w W) => rightI_any neg num na nc W (h.ext (xbw hW))
 have CO := fun W (hW : Below w.heap.size w W) => one_any den da dc W (h'.ext (xbw hW))
 have CG := fun W (hW : Below w.heap.size w W) => gcd_any num den (val num) (val den) na da nc dc W (h.ext (xbw hW)) (h'.ext (xbw hW)) rfl rfl hl hm
 have CO2 := fun n a c W => one_any (limbs n) a c W
 simp only [one_limbs] at CO2
 unfold Rt.val
 dsimp only
 dsimp only at hl hm
 obtain ⟨res, hres⟩ : ∃ q, Rt.right ⟨neg, num, den⟩ = q := ⟨_, rfl⟩
 rw [hres]
 obtain ⟨b1, hb1⟩ : ∃ b, rightI neg num = b := ⟨_, rfl⟩
 rw [hb1] at CR
 replace CR := Hd CR; replace CO := Hd CO; replace CG := Hd CG; replace CO2 := Hd CO2
 have hw0 : Below w.heap.size w (w.alloc (.cells #[.bool neg, .slice na num.length nc, .slice da den.length dc] 54)) := brf.alloc (nlr _) _
 have hz : Blk (w.alloc (.cells #[.bool neg, .slice na num.length nc, .slice da den.length dc] 54)) w.heap.size 54 #[.bool neg, .slice na num.length nc, .slice da den.length dc] := Blk.new w _ _
 cases b1
 ·
  have hr : res = false := by rw [<- hres]; simp [Rt.right, hb1]
  subst hr
  clear hres hb1 h h' hz
  go_enter Tryz.func51, Tryz.ntmps51
  go_wp2_with fail
  refine (CR.out _ hw0).mono ?_
  rintro e w1 ⟨rfl, hb⟩
  have hw1 := bth hw0 hb
  go_wp2
  go_ret
  exact ⟨rfl, hw1⟩
 ·
  by_cases h0 : den.length = 0
  ·
   have hr : res = false := by rw [<- hres]; simp [Rt.right, h0]
   subst hr
   obtain rfl : den = [] := List.length_eq_zero_iff.1 h0
   clear hres hb1 h h' hz h0
   go_enter Tryz.func51, Tryz.ntmps51
   go_wp2_with fail
   refine (CR.out _ hw0).mono ?_
   rintro e w1 ⟨rfl, hb⟩
   have hw1 := bth hw0 hb
   go_wp2
   go_ret
   exact ⟨rfl, hw1⟩
  ·
   obtain ⟨x, hx⟩ := get_of_lt (xs := den) (k := den.length - 1) (by omega)
   obtain ⟨b, off, rfl, hc⟩ := h'.cell hx
   have hcan := canonB_last (l := den) h'.u16 hx (by omega)
   have hk := held hc
   have hi1 : (0 : Int) <= (den.length : Int) - 1 := by omega
   have hti : ((den.length : Int) - 1).toNat = den.length - 1 := by omega
   have hdl : (den.length : Int) <= 2000000 := by omega
   have he : ((den.length : Int) == 0) = false := by rw [beq_eq_false_iff_ne]; omega
   by_cases hx0 : x = 0
   ·
    subst hx0
    have hr : res = false := by rw [<- hres]; simp [Rt.right, hcan]
    subst hr
    clear hres hb1 h h' hx hc hcan h0
    go_enter Tryz.func51, Tryz.ntmps51
    go_wp2_with fail
    revert hw0 hz
    generalize w.alloc (.cells #[.bool neg, .slice na num.length nc, .slice (some ⟨b, off, none⟩) den.length dc] 54) = w0
    intro hw0 hz
    refine (CR.out _ hw0).mono ?_
    rintro e w1 ⟨rfl, hb⟩
    have hw1 := bth hw0 hb
    have hz1 := hz.below' hb
    have z1 := hz1.cell 1; have z2 := hz1.cell 2; have z0 := hz1.cell 0
    have k1 := hk _ hw1
    clear hb hz hw0
    go_wp2
    go_ret
    exact ⟨rfl, hw1⟩
   ·
    have hxb : (x == 0) = false := by simpa using hx0
    have hcan2 : canonB den = true := by rw [hcan, hxb]; rfl
    obtain ⟨bo, hbo⟩ : ∃ q, decide (den.length = 1 /\ limbAt den 0 = 1) = q := ⟨_, rfl⟩
    rw [hbo] at CO
    have HRES := Hd hres
    have HB1 := Hd hb1
    have HC := Hd hcan2
    have HBO := Hd hbo
    have H0 := Hd h0
    clear hres hb1 h h' hx hc hcan hcan2 hbo h0 hx0
    cases bo
    ·
     obtain ⟨g, hg⟩ : ∃ g, Nat.gcd (val num) (val den) = g := ⟨_, rfl⟩
     have hr : decide (g = 1) = res := by rw [<- HRES.out, rt_right_gcd HB1.out HC.out (by have := H0.out; omega)]; simp only [hg]
     rw [hg] at CG
     have CO3 := CO2.out g
     rw [hr] at CO3
     replace CO3 := Hd CO3
     clear hg hr CO2
     go_enter Tryz.func51, Tryz.ntmps51
     go_wp2_with fail
     revert hw0 hz
     generalize w.alloc (.cells #[.bool neg, .slice na num.length nc, .slice (some ⟨b, off, none⟩) den.length dc] 54) = w0
     intro hw0 hz
     refine (CR.out _ hw0).mono ?_
     rintro e w1 ⟨rfl, hb⟩
     have hw1 := bth hw0 hb
     have hz1 := hz.below' hb
     have z1 := hz1.cell 1; have z2 := hz1.cell 2; have z0 := hz1.cell 0
     have k1 := hk _ hw1
     clear hb hz hw0
     go_wp2_with fail
     refine (CO.out _ hw1).mono ?_
     rintro e w2 ⟨rfl, hb⟩
     have hw2 := bth hw1 hb
     have hz2 := hz1.below' hb
     have y1 := hz2.cell 1; have y2 := hz2.cell 2; have y0 := hz2.cell 0
     clear hb hz1 hw1 z0 z1 z2 k1
     go_wp2_with fail
     refine (CG.out _ hw2).mono ?_
     rintro e w3 ⟨a3, c3, rfl, hV, hb⟩
     have hw3 := bth hw2 hb
     have hrd := hV w3 (New.refl _ _)
     clear hb hV y0 y1 y2
     go_wp2_with fail
     refine (CO3.out _ _ _ hrd).mono ?_
     rintro e w4 ⟨rfl, hb⟩
     have hw4 := bth hw3 hb
     clear hrd hb
     go_wp2
     go_ret
     exact ⟨rfl, hw4⟩
    ·
     have hr : res = true := by rw [<- HRES.out]; exact rt_right_one HB1.out HC.out (by have := H0.out; omega) HBO.out
     subst hr
     go_enter Tryz.func51, Tryz.ntmps51
     go_wp2_with fail
     revert hw0 hz
     generalize w.alloc (.cells #[.bool neg, .slice na num.length nc, .slice (some ⟨b, off, none⟩) den.length dc] 54) = w0
     intro hw0 hz
     refine (CR.out _ hw0).mono ?_
     rintro e w1 ⟨rfl, hb⟩
     have hw1 := bth hw0 hb
     have hz1 := hz.below' hb
     have z1 := hz1.cell 1; have z2 := hz1.cell 2; have z0 := hz1.cell 0
     have k1 := hk _ hw1
     clear hb hz hw0
     go_wp2_with fail
     refine (CO.out _ hw1).mono ?_
     rintro e w2 ⟨rfl, hb⟩
     have hw2 := bth hw1 hb
     go_wp2
     go_ret
     exact ⟨rfl, hw2⟩
end Go.Proofs.YtkjnkpkagcboeaaGreatDoor
