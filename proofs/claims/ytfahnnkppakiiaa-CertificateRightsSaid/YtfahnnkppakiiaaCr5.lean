/- Leading zeros struck off without copying; Euclid's steps. No function of the program in sight. -/
import Derived.Test.YtfahnnkppakiiaaCr1
import Derived.Test.YtfahnnkppakiiaaCr4
import Derived.Test.YtfahnnkppakiiaaCr2

/- Polynomials and certificates as they lie in memory; which are right. No function of the program in sight. -/
namespace Go.Proofs.Ytfahnnkppakiiaa
open Go.RowKit

/-- a term as it lies in memory -/
structure Trm where
  coef : Rt
  mono : List Int
def Trm.val (t : Trm) (p : RA) : Value := .agg #[.bool t.coef.neg, .slice p.na t.coef.num.length p.nc, .slice p.da t.coef.den.length p.dc, .slice p.aa t.mono.length p.ac]
def TrmC (w : World) (b o : Nat) (p : RA) (t : Trm) : Prop :=
  w.cell? ⟨b, o, none⟩ = some (.bool t.coef.neg) ∧ w.cell? ⟨b, o + 1, none⟩ = some (.slice p.na t.coef.num.length p.nc) ∧
  w.cell? ⟨b, o + 2, none⟩ = some (.slice p.da t.coef.den.length p.dc) ∧ w.cell? ⟨b, o + 3, none⟩ = some (.slice p.aa t.mono.length p.ac)
theorem TrmC.ext {w w' : World} {b o : Nat} {p : RA} {t : Trm} (h : TrmC w b o p t) (e : Ext w w') : TrmC w' b o p t :=
  ⟨e _ _ h.1, e _ _ h.2.1, e _ _ h.2.2.1, e _ _ h.2.2.2⟩
def TrmE (w : World) (b o : Nat) (t : Trm) : Prop := ∃ p, TrmC w b o p t ∧ PartsR w p t.mono t.coef
def PolyR (w : World) (a : Option Addr) (c : Nat) (l : List Trm) : Prop := SlR 4 TrmE w a c l
theorem PolyR.ext {w w' : World} {a : Option Addr} {c : Nat} {l : List Trm} (h : PolyR w a c l) (e : Ext w w') : PolyR w' a c l :=
  SlR.mono h fun _ _ _ _ ⟨p, h1, h2⟩ => ⟨p, h1.ext e, h2.ext e⟩
def PolyE (w : World) (b o : Nat) (p : List Trm) : Prop := ∃ a c, w.cell? ⟨b, o, none⟩ = some (.slice a p.length c) ∧ PolyR w a c p
def PolysR (w : World) (a : Option Addr) (c : Nat) (l : List (List Trm)) : Prop := SlR 1 PolyE w a c l
theorem PolysR.ext {w w' : World} {a : Option Addr} {c : Nat} {l : List (List Trm)} (h : PolysR w a c l) (e : Ext w w') : PolysR w' a c l :=
  SlR.mono h fun _ _ _ _ ⟨p, q, h1, h2⟩ => ⟨p, q, e _ _ h1, h2.ext e⟩
/-- a certificate -/
structure Crt where
  factors : List (List Trm)
  powers : List Int
  power : Int
  cofactors : List (List Trm)
/-- where the slices of a certificate lie -/
structure CA where
  fa : Option Addr
  fc : Nat
  wa : Option Addr
  wc : Nat
  ca : Option Addr
  cc : Nat
def Crt.val (c : Crt) (p : CA) : Value := .agg #[.slice p.fa c.factors.length p.fc, .slice p.wa c.powers.length p.wc, .int .i64 c.power, .slice p.ca c.cofactors.length p.cc]
def CrtR (w : World) (p : CA) (c : Crt) : Prop := PolysR w p.fa p.fc c.factors ∧ IntsR w p.wa p.wc c.powers ∧ PolysR w p.ca p.cc c.cofactors ∧ InInt c.power
theorem CrtR.ext {w w' : World} {p : CA} {c : Crt} (h : CrtR w p c) (e : Ext w w') : CrtR w' p c := ⟨h.1.ext e, h.2.1.ext e, h.2.2.1.ext e, h.2.2.2⟩

/-- whether a monomial is right -/
def monoB (l : List Int) : Bool := decide (l.length ≤ 64) && !(decide (l[l.length - 1]? = some 0)) && l.all fun x => decide (0 ≤ x ∧ x ≤ 1048576)
theorem monoB_long {l : List Int} (h : 64 < l.length) : monoB l = false := by unfold monoB; rw [decide_eq_false (by omega)]; rfl
theorem monoB_last {l : List Int} (h : l[l.length - 1]? = some 0) : monoB l = false := by unfold monoB; rw [decide_eq_true h]; simp
theorem monoB_bad {l : List Int} {k : Nat} {x : Int} (h : l[k]? = some x) (hx : ¬ (0 ≤ x ∧ x ≤ 1048576)) : monoB l = false := by
  unfold monoB
  rw [show (l.all fun x => decide (0 ≤ x ∧ x ≤ 1048576)) = false from ?_]
  · simp
  · rw [List.all_eq_false]; exact ⟨x, List.mem_of_getElem? h, by simpa using hx⟩
theorem monoB_good {l : List Int} (h1 : l.length ≤ 64) (h2 : l[l.length - 1]? ≠ some 0) (h3 : (l.all fun x => decide (0 ≤ x ∧ x ≤ 1048576)) = true) : monoB l = true := by
  unfold monoB; rw [decide_eq_true h1, decide_eq_false h2, h3]; rfl
theorem monoB_mem {l : List Int} (h : monoB l = true) : l.length ≤ 64 ∧ ∀ x ∈ l, 0 ≤ x ∧ x ≤ 1048576 := by
  unfold monoB at h
  simp only [Bool.and_eq_true, decide_eq_true_eq, List.all_eq_true] at h
  exact ⟨h.1.1, h.2⟩
/-- the exponent of a variable -/
def expAt (l : List Int) (v : Nat) : Int := l.getD v 0
theorem expAt_in {l : List Int} (h : ∀ x ∈ l, 0 ≤ x ∧ x ≤ 1048576) (v : Nat) : 0 ≤ expAt l v ∧ expAt l v ≤ 1048576 := by
  unfold expAt
  rw [List.getD_eq_getElem?_getD]
  cases hx : l[v]? with
  | none => simp
  | some x => exact h x (List.mem_of_getElem? hx)
/-- two monomials compared from a variable down -/
def lexDown (a b : List Int) : Nat → Int
  | 0 => 0
  | v + 1 => if expAt a v = expAt b v then lexDown a b v else if expAt a v < expAt b v then -1 else 1
def lexI (a b : List Int) : Int := lexDown a b (max a.length b.length)
theorem lexDown_in (a b : List Int) : ∀ v, -1 ≤ lexDown a b v ∧ lexDown a b v ≤ 1
  | 0 => by simp [lexDown]
  | v + 1 => by
    have := lexDown_in a b v
    unfold lexDown
    split
    · exact this
    · split <;> omega
/-- whether a term is right by itself -/
def okT (t : Trm) : Bool := t.coef.right && !(decide (val t.coef.num = 0)) && monoB t.mono
/-- whether place i of a polynomial is wrong -/
def badAt (l : List Trm) (i : Nat) : Bool :=
  match l[i]? with
  | none => false
  | some t => !(okT t) || (match i with
    | 0 => false
    | j + 1 => match l[j]? with
      | none => false
      | some s => decide (lexI s.mono t.mono ≤ 0))
def polyB (l : List Trm) : Bool := (List.range l.length).all fun i => !(badAt l i)
theorem polyB_bad {l : List Trm} {i : Nat} (hi : i < l.length) (h : badAt l i = true) : polyB l = false := by
  unfold polyB; rw [List.all_eq_false]; exact ⟨i, List.mem_range.2 hi, by simp [h]⟩
theorem polyB_good {l : List Trm} (h : ∀ i, i < l.length → badAt l i = false) : polyB l = true := by
  unfold polyB; rw [List.all_eq_true]; intro i hi; simp [h i (List.mem_range.1 hi)]
theorem badAt_term {l : List Trm} {i : Nat} {t : Trm} (h : l[i]? = some t) (ho : okT t = false) : badAt l i = true := by
  unfold badAt; rw [h]; simp [ho]
theorem badAt_zero {l : List Trm} {t : Trm} (h : l[0]? = some t) (ho : okT t = true) : badAt l 0 = false := by
  unfold badAt; rw [h]; simp [ho]
theorem badAt_succ {l : List Trm} {j : Nat} {s t : Trm} (h : l[j + 1]? = some t) (hs : l[j]? = some s) (ho : okT t = true) : badAt l (j + 1) = decide (lexI s.mono t.mono ≤ 0) := by
  unfold badAt; rw [h]; dsimp only; rw [hs]; simp [ho]
theorem badAt_ok {l : List Trm} {i : Nat} {t : Trm} (h : l[i]? = some t) (hb : badAt l i = false) : okT t = true := by
  cases ho : okT t
  · rw [badAt_term h ho] at hb; cases hb
  · rfl
/-- whether factor k and its power are right -/
def facB (c : Crt) (k : Nat) : Bool :=
  match c.powers[k]?, c.factors[k]? with
  | some x, some f => decide (0 ≤ x ∧ x ≤ 64) && !(decide (f.length = 0)) && polyB f
  | _, _ => false
theorem facB_of {c : Crt} {k : Nat} {x : Int} {f : List Trm} (hx : c.powers[k]? = some x) (hf : c.factors[k]? = some f) : facB c k = (decide (0 ≤ x ∧ x ≤ 64) && !(decide (f.length = 0)) && polyB f) := by
  unfold facB; rw [hx, hf]
/-- whether a certificate is right -/
def crtB (c : Crt) : Bool :=
  decide (c.powers.length = c.factors.length) && decide (1 ≤ c.power ∧ c.power ≤ 64) && ((List.range c.factors.length).all (facB c)) && c.cofactors.all polyB
theorem crtB_len {c : Crt} (h : c.powers.length ≠ c.factors.length) : crtB c = false := by unfold crtB; rw [decide_eq_false h]; rfl
theorem crtB_pow {c : Crt} (h : ¬ (1 ≤ c.power ∧ c.power ≤ 64)) : crtB c = false := by unfold crtB; rw [decide_eq_false h]; simp
theorem crtB_fac {c : Crt} {k : Nat} (hk : k < c.factors.length) (h : facB c k = false) : crtB c = false := by
  unfold crtB
  rw [show ((List.range c.factors.length).all (facB c)) = false from ?_]
  · simp
  · rw [List.all_eq_false]; exact ⟨k, List.mem_range.2 hk, by simp [h]⟩
theorem crtB_cof {c : Crt} {k : Nat} {q : List Trm} (hk : c.cofactors[k]? = some q) (h : polyB q = false) : crtB c = false := by
  unfold crtB
  rw [show (c.cofactors.all polyB) = false from ?_]
  · simp
  · rw [List.all_eq_false]; exact ⟨q, List.mem_of_getElem? hk, by simp [h]⟩
theorem crtB_good {c : Crt} (h1 : c.powers.length = c.factors.length) (h2 : 1 ≤ c.power ∧ c.power ≤ 64) (h3 : ∀ k, k < c.factors.length → facB c k = true) (h4 : (c.cofactors.take c.cofactors.length).all polyB = true) : crtB c = true := by
  unfold crtB
  rw [List.take_length] at h4
  rw [decide_eq_true h1, decide_eq_true h2, h4]
  simp only [Bool.and_eq_true, List.all_eq_true, Bool.true_and, Bool.and_true]
  exact fun k hk => h3 k (List.mem_range.1 hk)
def crtSize (c : Crt) : Nat := (c.factors.map List.length).sum + (c.cofactors.map List.length).sum
/-- the bounds that the statements name -/
def fitT (t : Trm) : Bool := decide (t.mono.length ≤ 6) && decide (t.coef.num.length ≤ 4) && decide (t.coef.den.length ≤ 4)
def fitP (p : List Trm) : Bool := p.all fitT && decide (p.length ≤ 8)
def fitL (l : List (List Trm)) : Bool := l.all fitP && decide (l.length ≤ 6)
def fitC (c : Crt) : Bool := fitL c.factors && fitL c.cofactors && decide (c.powers.length ≤ 6)
theorem fitL_mem {l : List (List Trm)} (h : fitL l = true) : l.length ≤ 6 ∧ ∀ p ∈ l, p.length ≤ 8 ∧ ∀ t ∈ p, t.mono.length ≤ 6 ∧ t.coef.num.length ≤ 4 ∧ t.coef.den.length ≤ 4 := by
  unfold fitL fitP fitT at h
  simp only [Bool.and_eq_true, decide_eq_true_eq, List.all_eq_true] at h
  exact ⟨h.2, fun p hp => ⟨(h.1 p hp).2, fun t ht => by have := (h.1 p hp).1 t ht; omega⟩⟩
theorem fitL_term {l : List (List Trm)} {k j : Nat} {p : List Trm} {t : Trm} (hp : l[k]? = some p) (ht : p[j]? = some t) (h : fitT t = false) : fitL l = false := by
  unfold fitL fitP
  rw [show (l.all fun p => p.all fitT && decide (p.length ≤ 8)) = false from ?_]
  · rfl
  · rw [List.all_eq_false]
    refine ⟨p, List.mem_of_getElem? hp, ?_⟩
    rw [show p.all fitT = false from ?_]
    · simp
    · rw [List.all_eq_false]; exact ⟨t, List.mem_of_getElem? ht, by simp [h]⟩
theorem fitL_long {l : List (List Trm)} {k : Nat} {p : List Trm} (hp : l[k]? = some p) (h : 8 < p.length) : fitL l = false := by
  unfold fitL fitP
  rw [show (l.all fun p => p.all fitT && decide (p.length ≤ 8)) = false from ?_]
  · rfl
  · rw [List.all_eq_false]
    refine ⟨p, List.mem_of_getElem? hp, ?_⟩
    rw [decide_eq_false (by omega)]; simp
theorem fitL_end {l : List (List Trm)} (h : (l.take l.length).all fitP = true) : fitL l = decide (l.length ≤ 6) := by
  rw [List.take_length] at h
  unfold fitL; rw [h]; rfl
theorem fitP_end {p : List Trm} (h : (p.take p.length).all fitT = true) (h8 : p.length ≤ 8) : fitP p = true := by
  rw [List.take_length] at h
  unfold fitP; rw [h, decide_eq_true h8]; rfl
theorem all_take {α : Type} {f : α → Bool} {l : List α} {k : Nat} {x : α} (h : (l.take k).all f = true) (hx : l[k]? = some x) (hf : f x = true) : (l.take (k + 1)).all f = true := by
  rw [take_more hx, List.all_append, h]; simp [hf]
end Go.Proofs.Ytfahnnkppakiiaa

/- Walks: monomials: Right, Exp, Cmp, by the program and by the reference. -/
namespace Go.Proofs.Ytfahnnkppakiiaa
open Go.RowKit

theorem ints_cell {w : World} {a : Option Addr} {c : Nat} {l : List Int} (h : IntsR w a c l) {k : Nat} {x : Int} (hx : l[k]? = some x) : ∃ b off, a = some ⟨b, off, none⟩ ∧ w.cell? ⟨b, off + k, none⟩ = some (.int .i64 x) ∧ InInt x := by
  obtain ⟨b, off, ha, hc⟩ := h.2.2 k x hx
  exact ⟨b, off, ha, by simpa using hc.1, inInt_of hc.2⟩
set_option maxRecDepth 100000 in
set_option maxHeartbeats 1000000 in
theorem monoP_any (l : List Int) (a : Option Addr) (c : Nat) (w : World) (h : IntsR w a c l) :
    Calls Try.prog 41 #[.slice a l.length c] w fun e w' => e = .returned (.bool (monoB l)) ∧ w = w' := by
  have hlen := h.len
  by_cases h64 : 64 < l.length
  · rw [monoB_long h64]
    go_enter Try.func41, Try.ntmps41
    go_wp2
    go_ret
    exact ⟨rfl, rfl⟩
  · have HI := Lib.hid h
    clear h
    have hloop : ∀ k, k < l.length → ∃ x, l[k]? = some x := fun k hk => get_of_lt hk
    by_cases h0 : 0 < l.length
    · obtain ⟨y, hy⟩ := hloop (l.length - 1) (by omega)
      obtain ⟨b, off, rfl, hcy, hiy⟩ := ints_cell HI.out hy
      have HY := Lib.hid hy
      have HL := Lib.hid hloop
      clear hloop hy
      by_cases hy0 : y = 0
      · rw [monoB_last (by rw [HY.out, hy0])]
        subst hy0
        clear hiy
        go_enter Try.func41, Try.ntmps41
        go_wp2
        go_ret
        exact ⟨rfl, rfl⟩
      · have hye : (y == 0) = false := by simpa using hy0
        have HY0 := Lib.hid hy0
        obtain ⟨hy1, hy2⟩ := hiy
        clear hy0
        obtain ⟨res, hres⟩ : ∃ x, monoB l = x := ⟨_, rfl⟩
        rw [hres]
        have HRES := Lib.hid hres
        clear hres
        go_enter Try.func41, Try.ntmps41
        go_wp2
        clear hcy hye hy1 hy2
        go_loop [4, 24] (fun _ q => ∃ k : Nat, k ≤ l.length ∧ q = .int .i64 k ∧ Hid (((l.take k).all fun x => decide (0 ≤ x ∧ x ≤ 1048576)) = true)) (fun _ q => l.length - (intOf q).toNat)
        case atStart => exact ⟨0, by omega, rfl, rfl⟩
        case round =>
          obtain ⟨k, hk, rfl, hall⟩ := hrel
          by_cases hlt : k < l.length
          · obtain ⟨x, hx⟩ := HL.out k hlt
            obtain ⟨b2, off2, hbo, hcx, hix⟩ := ints_cell HI.out hx
            injection hbo with hbo
            injection hbo with hbo1 hbo2
            subst hbo1 hbo2
            obtain ⟨hx1, hx2⟩ := hix
            have HX := Lib.hid hx
            clear hx
            by_cases hin : 0 ≤ x ∧ x ≤ 1048576
            · obtain ⟨hin1, hin2⟩ := hin
              go_wp2
              go_round
              case rel => exact ⟨k + 1, by omega, by go_num, by show _ = _; rw [take_more HX.out, List.all_append, hall.out]; simp [hin1, hin2]⟩
              case measure => simp [intOf]; omega
            · have hr : res = false := by rw [← HRES.out, monoB_bad HX.out hin]
              subst hr
              by_cases hneg : x < 0
              · clear hin
                go_wp2
                go_ret
                exact ⟨rfl, rfl⟩
              · have hbig : 1048576 < x := by omega
                clear hin
                go_wp2
                go_ret
                exact ⟨rfl, rfl⟩
          · have hr : res = true := by
              rw [← HRES.out]
              refine monoB_good (by omega) (by rw [HY.out]; intro h; injection h with h; exact HY0.out h) ?_
              have := hall.out
              rwa [take_all hlt] at this
            subst hr
            go_wp2
            go_ret
            exact ⟨rfl, rfl⟩
    · have hnil : l = [] := List.eq_nil_of_length_eq_zero (by omega)
      subst hnil
      rw [show monoB [] = true from rfl]
      clear HI hloop
      go_enter Try.func41, Try.ntmps41
      go_wp2
      go_loop [4, 24] (fun _ q => q = .int .i64 0) (fun _ q => 0)
      case atStart => rfl
      case round =>
        obtain rfl := hrel
        go_wp2
        go_ret
        exact ⟨rfl, rfl⟩
set_option maxRecDepth 100000 in
set_option maxHeartbeats 1000000 in
theorem monoR_any (l : List Int) (a : Option Addr) (c : Nat) (w : World) (h : IntsR w a c l) :
    Calls Try.prog 44 #[.slice a l.length c] w fun e w' => e = .returned (.bool (monoB l)) ∧ w = w' := by
  have hlen := h.len
  by_cases h64 : 64 < l.length
  · rw [monoB_long h64]
    go_enter Try.func44, Try.ntmps44
    go_wp2
    go_ret
    exact ⟨rfl, rfl⟩
  · have HI := Lib.hid h
    clear h
    have hloop : ∀ k, k < l.length → ∃ x, l[k]? = some x := fun k hk => get_of_lt hk
    by_cases h0 : 0 < l.length
    · obtain ⟨y, hy⟩ := hloop (l.length - 1) (by omega)
      obtain ⟨b, off, rfl, hcy, hiy⟩ := ints_cell HI.out hy
      have HY := Lib.hid hy
      have HL := Lib.hid hloop
      clear hloop hy
      by_cases hy0 : y = 0
      · rw [monoB_last (by rw [HY.out, hy0])]
        subst hy0
        clear hiy
        go_enter Try.func44, Try.ntmps44
        go_wp2
        go_ret
        exact ⟨rfl, rfl⟩
      · have hye : (y == 0) = false := by simpa using hy0
        have HY0 := Lib.hid hy0
        obtain ⟨hy1, hy2⟩ := hiy
        clear hy0
        obtain ⟨res, hres⟩ : ∃ x, monoB l = x := ⟨_, rfl⟩
        rw [hres]
        have HRES := Lib.hid hres
        clear hres
        go_enter Try.func44, Try.ntmps44
        go_wp2
        clear hcy hye hy1 hy2
        go_loop [3] (fun q => ∃ k : Nat, k ≤ l.length ∧ q = .int .i64 k ∧ Hid (((l.take k).all fun x => decide (0 ≤ x ∧ x ≤ 1048576)) = true)) (fun q => l.length - (intOf q).toNat)
        case atStart => exact ⟨0, by omega, rfl, rfl⟩
        case round =>
          obtain ⟨k, hk, rfl, hall⟩ := hrel
          by_cases hlt : k < l.length
          · obtain ⟨x, hx⟩ := HL.out k hlt
            obtain ⟨b2, off2, hbo, hcx, hix⟩ := ints_cell HI.out hx
            injection hbo with hbo
            injection hbo with hbo1 hbo2
            subst hbo1 hbo2
            obtain ⟨hx1, hx2⟩ := hix
            have HX := Lib.hid hx
            clear hx
            by_cases hin : 0 ≤ x ∧ x ≤ 1048576
            · obtain ⟨hin1, hin2⟩ := hin
              go_wp2
              go_round
              case rel => exact ⟨k + 1, by omega, by go_num, by show _ = _; rw [take_more HX.out, List.all_append, hall.out]; simp [hin1, hin2]⟩
              case measure => simp [intOf]; omega
            · have hr : res = false := by rw [← HRES.out, monoB_bad HX.out hin]
              subst hr
              by_cases hneg : x < 0
              · clear hin
                go_wp2
                go_ret
                exact ⟨rfl, rfl⟩
              · have hbig : 1048576 < x := by omega
                clear hin
                go_wp2
                go_ret
                exact ⟨rfl, rfl⟩
          · have hr : res = true := by
              rw [← HRES.out]
              refine monoB_good (by omega) (by rw [HY.out]; intro h; injection h with h; exact HY0.out h) ?_
              have := hall.out
              rwa [take_all hlt] at this
            subst hr
            go_wp2
            go_ret
            exact ⟨rfl, rfl⟩
    · have hnil : l = [] := List.eq_nil_of_length_eq_zero (by omega)
      subst hnil
      rw [show monoB [] = true from rfl]
      clear HI hloop
      go_enter Try.func44, Try.ntmps44
      go_wp2
      go_loop [3] (fun q => q = .int .i64 0) (fun q => 0)
      case atStart => rfl
      case round =>
        obtain rfl := hrel
        go_wp2
        go_ret
        exact ⟨rfl, rfl⟩
end Go.Proofs.Ytfahnnkppakiiaa

/- Walks: monomials: Exp, Cmp, by the program and by the reference. -/
namespace Go.Proofs.Ytfahnnkppakiiaa
open Go.RowKit

theorem expAt_get {l : List Int} {v : Nat} {x : Int} (h : l[v]? = some x) : expAt l v = x := by
  unfold expAt; rw [List.getD_eq_getElem?_getD, h]; rfl
theorem expAt_far {l : List Int} {v : Nat} (h : l.length ≤ v) : expAt l v = 0 := by
  unfold expAt; rw [List.getD_eq_getElem?_getD, List.getElem?_eq_none h]; rfl
set_option maxRecDepth 100000 in
theorem expP_any (l : List Int) (v : Nat) (a : Option Addr) (c : Nat) (w : World) (h : IntsR w a c l) :
    Calls Try.prog 112 #[.slice a l.length c, .int .i64 v] w fun e w' => e = .returned (.int .i64 (expAt l v)) ∧ w = w' := by
  have hlen := h.len
  by_cases hv : v < l.length
  · obtain ⟨x, hx⟩ := get_of_lt hv
    obtain ⟨b, off, rfl, hc, _⟩ := ints_cell h hx
    rw [expAt_get hx]
    clear hx h
    go_enter Try.func112, Try.ntmps112
    go_wp2
    go_ret
    exact ⟨rfl, rfl⟩
  · rw [expAt_far (by omega)]
    clear h
    go_enter Try.func112, Try.ntmps112
    go_wp2
    go_ret
    exact ⟨rfl, rfl⟩
set_option maxRecDepth 100000 in
theorem expR_any (l : List Int) (v : Nat) (a : Option Addr) (c : Nat) (w : World) (h : IntsR w a c l) :
    Calls Try.prog 83 #[.slice a l.length c, .int .i64 v] w fun e w' => e = .returned (.int .i64 (expAt l v)) ∧ w = w' := by
  have hlen := h.len
  by_cases hv : v < l.length
  · obtain ⟨x, hx⟩ := get_of_lt hv
    obtain ⟨b, off, rfl, hc, _⟩ := ints_cell h hx
    rw [expAt_get hx]
    clear hx h
    go_enter Try.func83, Try.ntmps83
    go_wp2
    go_ret
    exact ⟨rfl, rfl⟩
  · rw [expAt_far (by omega)]
    clear h
    go_enter Try.func83, Try.ntmps83
    go_wp2
    go_ret
    exact ⟨rfl, rfl⟩

theorem sign05_any (n : Int) (w : World) :
    Calls Try.prog 82 #[.int .i64 n] w fun e w' => e = .returned (.int .i64 (if n < 0 then -1 else if 0 < n then 1 else 0)) ∧ w = w' := by
  by_cases h : n < 0
  · rw [if_pos h]
    go_enter Try.func82, Try.ntmps82
    go_wp2
    go_ret
    exact ⟨rfl, rfl⟩
  · by_cases h2 : 0 < n
    · rw [if_neg h, if_pos h2]
      go_enter Try.func82, Try.ntmps82
      go_wp2
      go_ret
      exact ⟨rfl, rfl⟩
    · rw [if_neg h, if_neg h2]
      go_enter Try.func82, Try.ntmps82
      go_wp2
      go_ret
      exact ⟨rfl, rfl⟩

theorem expAt_int {w : World} {a : Option Addr} {c : Nat} {l : List Int} (h : IntsR w a c l) (v : Nat) : InInt (expAt l v) := by
  by_cases hv : v < l.length
  · obtain ⟨x, hx⟩ := get_of_lt hv
    obtain ⟨b, off, _, _, hi⟩ := ints_cell h hx
    rw [expAt_get hx]; exact hi
  · rw [expAt_far (by omega)]; unfold InInt; omega

set_option maxRecDepth 100000 in
set_option maxHeartbeats 2000000 in
theorem cmpP5_any (l m : List Int) (a a' : Option Addr) (c c' : Nat) (w : World) (h : IntsR w a c l) (h' : IntsR w a' c' m) :
    Calls Try.prog 79 #[.slice a l.length c, .slice a' m.length c', .int .i64 0] w fun e w' => e = .returned (.int .i64 (lexI l m)) ∧ w = w' := by
  have hlen := h.len
  have hlen' := h'.len
  have C1 := fun v : Nat => expP_any l v a c w h
  have C2 := fun v : Nat => expP_any m v a' c' w h'
  have I1 := expAt_int h
  have I2 := expAt_int h'
  replace C1 := Lib.hid C1; replace C2 := Lib.hid C2; replace I1 := Lib.hid I1; replace I2 := Lib.hid I2
  clear h h'
  obtain ⟨res, hres⟩ : ∃ x, lexI l m = x := ⟨_, rfl⟩
  rw [hres]
  unfold lexI at hres
  by_cases hlm : l.length < m.length
  · rw [show max l.length m.length = m.length by omega] at hres
    have HRES := Lib.hid hres
    clear hres
    go_enter Try.func79, Try.ntmps79
    go_wp2
    clear hlm
    go_loop [9] (fun q => (q = .int .i64 (-1) ∧ Hid (0 = res)) ∨ ∃ v : Nat, v < m.length ∧ q = .int .i64 v ∧ Hid (lexDown l m (v + 1) = res)) (fun q => (intOf q + 1).toNat)
    case atStart =>
      have HR := HRES.out
      cases hn : m.length with
      | zero => rw [hn] at HR; exact .inl ⟨by go_num, HR⟩
      | succ k => rw [hn] at HR; exact .inr ⟨k, by omega, by go_num, HR⟩
    case round =>
      rcases hrel with ⟨rfl, hr⟩ | ⟨v, hv, rfl, hr⟩
      · have hr := hr.out
        subst hr
        go_wp2
        go_ret
        exact ⟨rfl, rfl⟩
      · have I1v := I1.out v; have I2v := I2.out v
        obtain ⟨x, hx⟩ : ∃ x, expAt l v = x := ⟨_, rfl⟩
        obtain ⟨y, hy⟩ : ∃ y, expAt m v = y := ⟨_, rfl⟩
        have E1 := C1.out v; have E2 := C2.out v
        rw [hx] at E1 I1v
        rw [hy] at E2 I2v
        obtain ⟨i1, i2⟩ := I1v
        obtain ⟨i3, i4⟩ := I2v
        have hr := hr.out
        unfold lexDown at hr
        rw [hx, hy] at hr
        have HR := Lib.hid hr
        replace E1 := Lib.hid E1; replace E2 := Lib.hid E2
        clear hr hx hy
        go_wp2_with fail
        refine E1.out.mono ?_
        rintro e w1 ⟨rfl, rfl⟩
        go_wp2_with fail
        refine E2.out.mono ?_
        rintro e w1 ⟨rfl, rfl⟩
        by_cases hxy : x = y
        · subst hxy
          have HR2 := Lib.hid ((if_pos rfl).symm.trans HR.out)
          go_wp2
          go_round
          case rel =>
            cases v with
            | zero => exact .inl ⟨by go_num, by have := HR2.out; rw [← this]; rfl⟩
            | succ k => exact .inr ⟨k, by omega, by go_num, HR2.out⟩
          case measure => simp [intOf]
        · have hb : (x == y) = false := by simpa using hxy
          have HR2 := HR.out
          rw [if_neg hxy] at HR2
          by_cases hlt : x < y
          · rw [if_pos hlt] at HR2
            subst HR2
            clear hxy HR
            go_wp2
            go_ret
            exact ⟨rfl, rfl⟩
          · rw [if_neg hlt] at HR2
            subst HR2
            clear hxy HR
            go_wp2
            go_ret
            exact ⟨rfl, rfl⟩
  · rw [show max l.length m.length = l.length by omega] at hres
    have HRES := Lib.hid hres
    clear hres
    go_enter Try.func79, Try.ntmps79
    go_wp2
    clear hlm
    go_loop [9] (fun q => (q = .int .i64 (-1) ∧ Hid (0 = res)) ∨ ∃ v : Nat, v < l.length ∧ q = .int .i64 v ∧ Hid (lexDown l m (v + 1) = res)) (fun q => (intOf q + 1).toNat)
    case atStart =>
      have HR := HRES.out
      cases hn : l.length with
      | zero => rw [hn] at HR; exact .inl ⟨by go_num, HR⟩
      | succ k => rw [hn] at HR; exact .inr ⟨k, by omega, by go_num, HR⟩
    case round =>
      rcases hrel with ⟨rfl, hr⟩ | ⟨v, hv, rfl, hr⟩
      · have hr := hr.out
        subst hr
        go_wp2
        go_ret
        exact ⟨rfl, rfl⟩
      · have I1v := I1.out v; have I2v := I2.out v
        obtain ⟨x, hx⟩ : ∃ x, expAt l v = x := ⟨_, rfl⟩
        obtain ⟨y, hy⟩ : ∃ y, expAt m v = y := ⟨_, rfl⟩
        have E1 := C1.out v; have E2 := C2.out v
        rw [hx] at E1 I1v
        rw [hy] at E2 I2v
        obtain ⟨i1, i2⟩ := I1v
        obtain ⟨i3, i4⟩ := I2v
        have hr := hr.out
        unfold lexDown at hr
        rw [hx, hy] at hr
        have HR := Lib.hid hr
        replace E1 := Lib.hid E1; replace E2 := Lib.hid E2
        clear hr hx hy
        go_wp2_with fail
        refine E1.out.mono ?_
        rintro e w1 ⟨rfl, rfl⟩
        go_wp2_with fail
        refine E2.out.mono ?_
        rintro e w1 ⟨rfl, rfl⟩
        by_cases hxy : x = y
        · subst hxy
          have HR2 := Lib.hid ((if_pos rfl).symm.trans HR.out)
          go_wp2
          go_round
          case rel =>
            cases v with
            | zero => exact .inl ⟨by go_num, by have := HR2.out; rw [← this]; rfl⟩
            | succ k => exact .inr ⟨k, by omega, by go_num, HR2.out⟩
          case measure => simp [intOf]
        · have hb : (x == y) = false := by simpa using hxy
          have HR2 := HR.out
          rw [if_neg hxy] at HR2
          by_cases hlt : x < y
          · rw [if_pos hlt] at HR2
            subst HR2
            clear hxy HR
            go_wp2
            go_ret
            exact ⟨rfl, rfl⟩
          · rw [if_neg hlt] at HR2
            subst HR2
            clear hxy HR
            go_wp2
            go_ret
            exact ⟨rfl, rfl⟩
set_option maxRecDepth 100000 in
set_option maxHeartbeats 2000000 in
theorem cmpR5_any (l m : List Int) (a a' : Option Addr) (c c' : Nat) (w : World) (h : IntsR w a c l) (h' : IntsR w a' c' m) (hi : ∀ x ∈ l, 0 ≤ x ∧ x ≤ 1048576) (hi' : ∀ x ∈ m, 0 ≤ x ∧ x ≤ 1048576) :
    Calls Try.prog 45 #[.slice a l.length c, .slice a' m.length c', .int .i64 0] w fun e w' => e = .returned (.int .i64 (lexI l m)) ∧ w = w' := by
  have hlen := h.len
  have hlen' := h'.len
  have C1 := fun v : Nat => expR_any l v a c w h
  have C2 := fun v : Nat => expR_any m v a' c' w h'
  have CS := fun z : Int => sign05_any z w
  have I1 : ∀ v, 0 ≤ expAt l v ∧ expAt l v ≤ 1048576 := expAt_in hi
  have I2 : ∀ v, 0 ≤ expAt m v ∧ expAt m v ≤ 1048576 := expAt_in hi'
  replace C1 := Lib.hid C1; replace C2 := Lib.hid C2; replace CS := Lib.hid CS; replace I1 := Lib.hid I1; replace I2 := Lib.hid I2
  clear hi hi'
  clear h h'
  obtain ⟨res, hres⟩ : ∃ x, lexI l m = x := ⟨_, rfl⟩
  rw [hres]
  unfold lexI at hres
  by_cases hlm : l.length < m.length
  · rw [show max l.length m.length = m.length by omega] at hres
    have HRES := Lib.hid hres
    clear hres
    go_enter Try.func45, Try.ntmps45
    go_wp2
    clear hlm
    go_loop [7] (fun q => (q = .int .i64 (-1) ∧ Hid (0 = res)) ∨ ∃ v : Nat, v < m.length ∧ q = .int .i64 v ∧ Hid (lexDown l m (v + 1) = res)) (fun q => (intOf q + 1).toNat)
    case atStart =>
      have HR := HRES.out
      cases hn : m.length with
      | zero => rw [hn] at HR; exact .inl ⟨by go_num, HR⟩
      | succ k => rw [hn] at HR; exact .inr ⟨k, by omega, by go_num, HR⟩
    case round =>
      rcases hrel with ⟨rfl, hr⟩ | ⟨v, hv, rfl, hr⟩
      · have hr := hr.out
        subst hr
        go_wp2
        go_ret
        exact ⟨rfl, rfl⟩
      · have I1v := I1.out v; have I2v := I2.out v
        obtain ⟨x, hx⟩ : ∃ x, expAt l v = x := ⟨_, rfl⟩
        obtain ⟨y, hy⟩ : ∃ y, expAt m v = y := ⟨_, rfl⟩
        have E1 := C1.out v; have E2 := C2.out v
        rw [hx] at E1 I1v
        rw [hy] at E2 I2v
        obtain ⟨i1, i2⟩ := I1v
        obtain ⟨i3, i4⟩ := I2v
        have hr := hr.out
        unfold lexDown at hr
        rw [hx, hy] at hr
        have HR := Lib.hid hr
        replace E1 := Lib.hid E1; replace E2 := Lib.hid E2
        clear hr hx hy
        go_wp2_with fail
        refine E1.out.mono ?_
        rintro e w1 ⟨rfl, rfl⟩
        go_wp2_with fail
        refine E2.out.mono ?_
        rintro e w1 ⟨rfl, rfl⟩
        by_cases hxy : x = y
        · subst hxy
          have HR2 := Lib.hid ((if_pos rfl).symm.trans HR.out)
          go_wp2
          go_round
          case rel =>
            cases v with
            | zero => exact .inl ⟨by go_num, by have := HR2.out; rw [← this]; rfl⟩
            | succ k => exact .inr ⟨k, by omega, by go_num, HR2.out⟩
          case measure => simp [intOf]
        · have hb : (x == y) = false := by simpa using hxy
          have HR2 := HR.out
          rw [if_neg hxy] at HR2
          have E3 := CS.out (x - y)
          have hsg : (if x - y < 0 then (-1 : Int) else if 0 < x - y then 1 else 0) = res := by rw [← HR2]; split <;> split <;> first | rfl | omega | (split <;> omega)
          rw [hsg] at E3
          replace E3 := Lib.hid E3
          clear HR HR2 hsg hxy
          go_wp2_with fail
          refine E1.out.mono ?_
          rintro e w1 ⟨rfl, rfl⟩
          go_wp2_with fail
          refine E2.out.mono ?_
          rintro e w1 ⟨rfl, rfl⟩
          go_wp2_with fail
          refine E3.out.mono ?_
          rintro e w1 ⟨rfl, rfl⟩
          go_wp2
          go_ret
          exact ⟨rfl, rfl⟩
  · rw [show max l.length m.length = l.length by omega] at hres
    have HRES := Lib.hid hres
    clear hres
    go_enter Try.func45, Try.ntmps45
    go_wp2
    clear hlm
    go_loop [7] (fun q => (q = .int .i64 (-1) ∧ Hid (0 = res)) ∨ ∃ v : Nat, v < l.length ∧ q = .int .i64 v ∧ Hid (lexDown l m (v + 1) = res)) (fun q => (intOf q + 1).toNat)
    case atStart =>
      have HR := HRES.out
      cases hn : l.length with
      | zero => rw [hn] at HR; exact .inl ⟨by go_num, HR⟩
      | succ k => rw [hn] at HR; exact .inr ⟨k, by omega, by go_num, HR⟩
    case round =>
      rcases hrel with ⟨rfl, hr⟩ | ⟨v, hv, rfl, hr⟩
      · have hr := hr.out
        subst hr
        go_wp2
        go_ret
        exact ⟨rfl, rfl⟩
      · have I1v := I1.out v; have I2v := I2.out v
        obtain ⟨x, hx⟩ : ∃ x, expAt l v = x := ⟨_, rfl⟩
        obtain ⟨y, hy⟩ : ∃ y, expAt m v = y := ⟨_, rfl⟩
        have E1 := C1.out v; have E2 := C2.out v
        rw [hx] at E1 I1v
        rw [hy] at E2 I2v
        obtain ⟨i1, i2⟩ := I1v
        obtain ⟨i3, i4⟩ := I2v
        have hr := hr.out
        unfold lexDown at hr
        rw [hx, hy] at hr
        have HR := Lib.hid hr
        replace E1 := Lib.hid E1; replace E2 := Lib.hid E2
        clear hr hx hy
        go_wp2_with fail
        refine E1.out.mono ?_
        rintro e w1 ⟨rfl, rfl⟩
        go_wp2_with fail
        refine E2.out.mono ?_
        rintro e w1 ⟨rfl, rfl⟩
        by_cases hxy : x = y
        · subst hxy
          have HR2 := Lib.hid ((if_pos rfl).symm.trans HR.out)
          go_wp2
          go_round
          case rel =>
            cases v with
            | zero => exact .inl ⟨by go_num, by have := HR2.out; rw [← this]; rfl⟩
            | succ k => exact .inr ⟨k, by omega, by go_num, HR2.out⟩
          case measure => simp [intOf]
        · have hb : (x == y) = false := by simpa using hxy
          have HR2 := HR.out
          rw [if_neg hxy] at HR2
          have E3 := CS.out (x - y)
          have hsg : (if x - y < 0 then (-1 : Int) else if 0 < x - y then 1 else 0) = res := by rw [← HR2]; split <;> split <;> first | rfl | omega | (split <;> omega)
          rw [hsg] at E3
          replace E3 := Lib.hid E3
          clear HR HR2 hsg hxy
          go_wp2_with fail
          refine E1.out.mono ?_
          rintro e w1 ⟨rfl, rfl⟩
          go_wp2_with fail
          refine E2.out.mono ?_
          rintro e w1 ⟨rfl, rfl⟩
          go_wp2_with fail
          refine E3.out.mono ?_
          rintro e w1 ⟨rfl, rfl⟩
          go_wp2
          go_ret
          exact ⟨rfl, rfl⟩
end Go.Proofs.Ytfahnnkppakiiaa

/- Leading zeros struck off without copying; Euclid's steps. No function of the program in sight. -/
namespace Go.Proofs.Ytfahnnkppakiiaa

theorem trim_take {l : List Int} (h : U16 l) : ∀ n, n ≤ l.length → val (l.drop n) = 0 → ∃ k, k ≤ n ∧ limbs (val l) = l.take k
  | 0, _, hv => ⟨0, Nat.le_refl _, by rw [List.drop_zero] at hv; rw [hv, limbs_zero, List.take_zero]⟩
  | n + 1, hn, hv => by
    obtain ⟨x, hx⟩ := get_of_lt (xs := l) (k := n) (by omega)
    by_cases hx0 : x = 0
    · obtain ⟨k, hk, e⟩ := trim_take h n (by omega) (by rw [val_drop hx, hv, hx0]; rfl)
      exact ⟨k, by omega, e⟩
    · refine ⟨n + 1, Nat.le_refl _, limbs_cut h hv (fun y _ hy => ?_) hn⟩
      rw [Nat.add_sub_cancel, hx] at hy
      injection hy with hy
      rw [← hy]
      exact hx0
theorem trim_some {l : List Int} (h : U16 l) : ∃ k, k ≤ l.length ∧ limbs (val l) = l.take k := trim_take h l.length (Nat.le_refl _) (by rw [List.drop_length]; rfl)
/-- what is left when the zeros are struck off lies where it lay -/
theorem NatR.trim {w : World} {a : Option Addr} {c : Nat} {l : List Int} (h : NatR w a c l) : NatR w a c (limbs (val l)) := by
  obtain ⟨k, _, e⟩ := trim_some h.u16
  rw [e]
  exact h.take k
/-- the loop of trim: the limbs from n on are zero -/
theorem trim_more {l : List Int} {n : Nat} {x : Int} (hx : l[n]? = some x) (h0 : x = 0) (hv : val (l.drop (n + 1)) = 0) : val (l.drop n) = 0 := by
  rw [val_drop hx, hv, h0]; rfl
theorem trim_stop {l : List Int} (h : U16 l) {n : Nat} {x : Int} (hx : l[n]? = some x) (h0 : x ≠ 0) (hv : val (l.drop (n + 1)) = 0) : limbs (val l) = l.take (n + 1) := by
  refine limbs_cut h hv (fun y _ hy => ?_) (lt_of_get hx)
  rw [Nat.add_sub_cancel, hx] at hy
  injection hy with hy
  rw [← hy]
  exact h0
theorem trim_zero {l : List Int} (hv : val (l.drop 0) = 0) : limbs (val l) = l.take 0 := by
  rw [List.drop_zero] at hv
  rw [hv, limbs_zero, List.take_zero]
/-- a number of at most four limbs -/
theorem small_iff {n : Nat} : (limbs n).length ≤ 4 ↔ n < 18446744073709551616 := by
  constructor
  · intro h
    have h1 := lt_pow_limbs n
    have h2 : 65536 ^ (limbs n).length ≤ 65536 ^ 4 := Nat.pow_le_pow_right (by omega) h
    have h3 : (65536 : Nat) ^ 4 = 18446744073709551616 := by decide
    omega
  · intro h
    exact limbs_len_le (by rw [show (65536 : Nat) ^ 4 = 18446744073709551616 by decide]; exact h)
/-- a limb is put above what lies below it -/
theorem uint_or {n x i : Nat} (h : n < 65536 ^ i) : n ||| x * 65536 ^ i = n + 65536 ^ i * x := by
  have e : (65536 : Nat) ^ i = 2 ^ (16 * i) := by rw [Nat.pow_mul]
  rw [e] at h ⊢
  rw [Nat.or_comm, Nat.mul_comm x, ← Nat.two_pow_add_eq_or_of_lt h, Nat.add_comm]
theorem gcd_step {a b : Nat} : Nat.gcd a b = Nat.gcd b (a % b) := by
  rw [Nat.gcd_comm a b, Nat.gcd_rec b a, Nat.gcd_comm]
end Go.Proofs.Ytfahnnkppakiiaa
