/- Figures: steps and facts as they lie in memory, and which are right. No walk. -/
import Derived.Test.YtmlldjcbijoheaaR03a
import Derived.Test.YtmlldjcbijoheaaNameP
namespace Go.Proofs.Ytmlldjcbijoheaa
open Go.RowKit

structure Step where
  kind : Int
  point : ByteArray
  args : List Int
  ratio : Rt
structure Fct where
  kind : Int
  args : List Int
  ratio : Rt
/-- is a number the zero value? -/
def Rt.none (r : Rt) : Bool := !r.neg && decide (r.num.length = 0) && decide (r.den.length = 0)
def arity14 (k : Int) : Int := if k = 1 ∨ k = 5 then 3 else if k = 2 ∨ k = 3 ∨ k = 4 ∨ k = 6 ∨ k = 9 then 4 else if k = 7 then 8 else if k = 8 then 2 else 0
def arity20 (k : Int) : Int := if k = 1 then 0 else if k = 2 ∨ k = 5 ∨ k = 6 ∨ k = 14 then 2 else if k = 3 ∨ k = 4 ∨ k = 7 ∨ k = 8 ∨ k = 10 ∨ k = 11 then 3 else if k = 9 ∨ k = 12 ∨ k = 13 then 4 else -1
/-- is an argument no number below n? -/
def badArg (n a : Int) : Bool := decide (a < 0 ∨ n ≤ a)
def errFct (f : Fct) (n : Int) : Int :=
  if arity14 f.kind = 0 then 8
  else if (f.args.length : Int) ≠ arity14 f.kind then 1
  else if f.args.any (badArg n) = true then 2
  else if f.kind = 9 ∧ f.ratio.right = false then 1
  else if f.kind ≠ 9 ∧ f.ratio.none = false then 1
  else 0
def errStep (l : List Step) (s : Step) (i : Nat) : Int :=
  if arity20 s.kind < 0 then 8
  else if (s.args.length : Int) ≠ arity20 s.kind then 1
  else if s.args.any (badArg i) = true then 2
  else if s.kind = 2 ∧ s.ratio.right = false then 1
  else if s.kind ≠ 2 ∧ s.ratio.none = false then 1
  else if s.point = ⟨#[]⟩ then 0
  else if isNameB s.point = false then 6
  else if (l.take i).any (fun t => decide (t.point = s.point)) = true then 7
  else 0
structure Fig where
  steps : List Step
  goals : List Fct
/-- the first error of steps from the one with the number i on -/
def errSteps (l : List Step) : List Step → Nat → Int
  | [], _ => 0
  | s :: r, i => if errStep l s i ≠ 0 then errStep l s i else errSteps l r (i + 1)
def errGoals (n : Int) : List Fct → Int
  | [] => 0
  | f :: r => if errFct f n ≠ 0 then errFct f n else errGoals n r
def Fig.err (f : Fig) : Int := if 40 < f.steps.length ∨ 8 < f.goals.length then 4 else if errSteps f.steps f.steps 0 ≠ 0 then errSteps f.steps f.steps 0 else errGoals f.steps.length f.goals

def Fct.val (f : Fct) (aa : Option Addr) (ac : Nat) (na : Option Addr) (nc : Nat) (da : Option Addr) (dc : Nat) : Value := .agg #[.int .i64 f.kind, .slice aa f.args.length ac, .bool f.ratio.neg, .slice na f.ratio.num.length nc, .slice da f.ratio.den.length dc]
def Step.val (s : Step) (aa : Option Addr) (ac : Nat) (na : Option Addr) (nc : Nat) (da : Option Addr) (dc : Nat) : Value := .agg #[.int .i64 s.kind, .string s.point, .slice aa s.args.length ac, .bool s.ratio.neg, .slice na s.ratio.num.length nc, .slice da s.ratio.den.length dc]
/-- where the slices of a step or a fact lie -/
structure RA where
  aa : Option Addr
  ac : Nat
  na : Option Addr
  nc : Nat
  da : Option Addr
  dc : Nat
/-- what the slices of a step or a fact hold -/
def PartsR (w : World) (p : RA) (args : List Int) (r : Rt) : Prop := IntsR w p.aa p.ac args ∧ NatR w p.na p.nc r.num ∧ NatR w p.da p.dc r.den
theorem PartsR.ext {w w' : World} {p : RA} {args : List Int} {r : Rt} (h : PartsR w p args r) (e : Ext w w') : PartsR w' p args r := ⟨h.1.ext e, h.2.1.ext e, h.2.2.ext e⟩
def StepC (w : World) (b o : Nat) (p : RA) (s : Step) : Prop :=
  w.cell? ⟨b, o, none⟩ = some (.int .i64 s.kind) ∧ w.cell? ⟨b, o + 1, none⟩ = some (.string s.point) ∧ w.cell? ⟨b, o + 2, none⟩ = some (.slice p.aa s.args.length p.ac) ∧
  w.cell? ⟨b, o + 3, none⟩ = some (.bool s.ratio.neg) ∧ w.cell? ⟨b, o + 4, none⟩ = some (.slice p.na s.ratio.num.length p.nc) ∧ w.cell? ⟨b, o + 5, none⟩ = some (.slice p.da s.ratio.den.length p.dc)
def FctC (w : World) (b o : Nat) (p : RA) (s : Fct) : Prop :=
  w.cell? ⟨b, o, none⟩ = some (.int .i64 s.kind) ∧ w.cell? ⟨b, o + 1, none⟩ = some (.slice p.aa s.args.length p.ac) ∧
  w.cell? ⟨b, o + 2, none⟩ = some (.bool s.ratio.neg) ∧ w.cell? ⟨b, o + 3, none⟩ = some (.slice p.na s.ratio.num.length p.nc) ∧ w.cell? ⟨b, o + 4, none⟩ = some (.slice p.da s.ratio.den.length p.dc)
theorem StepC.ext {w w' : World} {b o : Nat} {p : RA} {s : Step} (h : StepC w b o p s) (e : Ext w w') : StepC w' b o p s :=
  ⟨e _ _ h.1, e _ _ h.2.1, e _ _ h.2.2.1, e _ _ h.2.2.2.1, e _ _ h.2.2.2.2.1, e _ _ h.2.2.2.2.2⟩
theorem FctC.ext {w w' : World} {b o : Nat} {p : RA} {s : Fct} (h : FctC w b o p s) (e : Ext w w') : FctC w' b o p s :=
  ⟨e _ _ h.1, e _ _ h.2.1, e _ _ h.2.2.1, e _ _ h.2.2.2.1, e _ _ h.2.2.2.2⟩
def StepE (w : World) (b o : Nat) (s : Step) : Prop := ∃ p, StepC w b o p s ∧ PartsR w p s.args s.ratio ∧ InInt s.kind ∧ s.point.size ≤ 9223372036854775807
def FctE (w : World) (b o : Nat) (s : Fct) : Prop := ∃ p, FctC w b o p s ∧ PartsR w p s.args s.ratio ∧ InInt s.kind
def StepsR (w : World) (a : Option Addr) (c : Nat) (l : List Step) : Prop := SlR 6 StepE w a c l
def FctsR (w : World) (a : Option Addr) (c : Nat) (l : List Fct) : Prop := SlR 5 FctE w a c l
theorem StepsR.ext {w w' : World} {a : Option Addr} {c : Nat} {l : List Step} (h : StepsR w a c l) (e : Ext w w') : StepsR w' a c l :=
  SlR.mono h fun _ _ _ _ ⟨p, h1, h2, h3⟩ => ⟨p, h1.ext e, h2.ext e, h3⟩
theorem FctsR.ext {w w' : World} {a : Option Addr} {c : Nat} {l : List Fct} (h : FctsR w a c l) (e : Ext w w') : FctsR w' a c l :=
  SlR.mono h fun _ _ _ _ ⟨p, h1, h2, h3⟩ => ⟨p, h1.ext e, h2.ext e, h3⟩
def Fig.val (f : Fig) (sa : Option Addr) (sc : Nat) (ga : Option Addr) (gc : Nat) : Value := .agg #[.slice sa f.steps.length sc, .slice ga f.goals.length gc]
def FigR (w : World) (sa : Option Addr) (sc : Nat) (ga : Option Addr) (gc : Nat) (f : Fig) : Prop := StepsR w sa sc f.steps ∧ FctsR w ga gc f.goals
theorem FigR.ext {w w' : World} {sa : Option Addr} {sc : Nat} {ga : Option Addr} {gc : Nat} {f : Fig} (h : FigR w sa sc ga gc f) (e : Ext w w') : FigR w' sa sc ga gc f := ⟨h.1.ext e, h.2.ext e⟩
/-- few limbs -/
def Rt.few (r : Rt) : Prop := r.num.length ≤ 2000000 ∧ r.den.length ≤ 2000000
def Fig.few (f : Fig) : Prop := (∀ s ∈ f.steps, s.ratio.few) ∧ (∀ g ∈ f.goals, g.ratio.few)

/-! ### What is right -/
theorem errSteps_at {l : List Step} : ∀ {r : List Step} {i k : Nat} {s : Step}, errSteps l r i = 0 → r[k]? = some s → errStep l s (i + k) = 0
  | [], _, _, _, _, h => by simp at h
  | s :: r, i, 0, t, h, hk => by
    simp at hk; subst hk
    unfold errSteps at h
    by_cases h0 : errStep l s i = 0
    · simpa using h0
    · rw [if_pos h0] at h; exact absurd h h0
  | s :: r, i, k + 1, t, h, hk => by
    unfold errSteps at h
    by_cases h0 : errStep l s i = 0
    · rw [if_neg (by simp [h0])] at h
      have := errSteps_at (k := k) h (by simpa using hk)
      rwa [show i + 1 + k = i + (k + 1) by omega] at this
    · rw [if_pos h0] at h; exact absurd h h0
theorem errStep_args {l : List Step} {s : Step} {i : Nat} (h : errStep l s i = 0) : ∀ a ∈ s.args, 0 ≤ a ∧ a < i := by
  intro a ha
  unfold errStep at h
  split at h
  · omega
  split at h
  · omega
  split at h
  · omega
  · rename_i hno
    simp only [List.any_eq_true, not_exists, not_and, badArg] at hno
    have := hno a ha
    simp at this
    omega
theorem Fig.args_of {f : Fig} (h : f.err = 0) {k : Nat} {s : Step} (hk : f.steps[k]? = some s) : ∀ a ∈ s.args, 0 ≤ a ∧ a < k := by
  unfold Fig.err at h
  split at h
  · omega
  split at h
  · contradiction
  · rename_i h1
    have := errSteps_at (by simpa using h1) hk
    rw [Nat.zero_add] at this
    exact errStep_args this
end Go.Proofs.Ytmlldjcbijoheaa
