/- Figures: steps and facts as they lie in memory. No function of the program in sight. -/
import Derived.Test.YtmlldjcbijoheaaDoorBase
namespace Go.Proofs.YtmlldjcbijoheaaDoor
open Go.RowKit

/-- a rational number as it lies in memory -/
structure Rt where
  neg : Bool
  num : List Int
  den : List Int
def Rt.val (r : Rt) (na : Option Addr) (nc : Nat) (da : Option Addr) (dc : Nat) : Value := .agg #[.bool r.neg, .slice na r.num.length nc, .slice da r.den.length dc]
structure Step where
  kind : Int
  point : ByteArray
  args : List Int
  ratio : Rt
structure Fct where
  kind : Int
  args : List Int
  ratio : Rt
structure Fig where
  steps : List Step
  goals : List Fct
def Fct.val (f : Fct) (aa : Option Addr) (ac : Nat) (na : Option Addr) (nc : Nat) (da : Option Addr) (dc : Nat) : Value := .agg #[.int .i64 f.kind, .slice aa f.args.length ac, .bool f.ratio.neg, .slice na f.ratio.num.length nc, .slice da f.ratio.den.length dc]
def Step.val (s : Step) (aa : Option Addr) (ac : Nat) (na : Option Addr) (nc : Nat) (da : Option Addr) (dc : Nat) : Value := .agg #[.int .i64 s.kind, .string s.point, .slice aa s.args.length ac, .bool s.ratio.neg, .slice na s.ratio.num.length nc, .slice da s.ratio.den.length dc]
/-- where the slices of a step or a fact lie -/
structure RA where
  aa : Option Addr
  ac : Nat
  na : Option Addr
  nc : Nat
  da : Option Addr
  dc : Nat
/-- what the slices of a step or a fact hold -/
def PartsR (w : World) (p : RA) (args : List Int) (r : Rt) : Prop := IntsR w p.aa p.ac args ∧ NatR w p.na p.nc r.num ∧ NatR w p.da p.dc r.den
theorem PartsR.ext {w w' : World} {p : RA} {args : List Int} {r : Rt} (h : PartsR w p args r) (e : Ext w w') : PartsR w' p args r := ⟨h.1.ext e, h.2.1.ext e, h.2.2.ext e⟩
def StepC (w : World) (b o : Nat) (p : RA) (s : Step) : Prop :=
  w.cell? ⟨b, o, none⟩ = some (.int .i64 s.kind) ∧ w.cell? ⟨b, o + 1, none⟩ = some (.string s.point) ∧ w.cell? ⟨b, o + 2, none⟩ = some (.slice p.aa s.args.length p.ac) ∧
  w.cell? ⟨b, o + 3, none⟩ = some (.bool s.ratio.neg) ∧ w.cell? ⟨b, o + 4, none⟩ = some (.slice p.na s.ratio.num.length p.nc) ∧ w.cell? ⟨b, o + 5, none⟩ = some (.slice p.da s.ratio.den.length p.dc)
def FctC (w : World) (b o : Nat) (p : RA) (s : Fct) : Prop :=
  w.cell? ⟨b, o, none⟩ = some (.int .i64 s.kind) ∧ w.cell? ⟨b, o + 1, none⟩ = some (.slice p.aa s.args.length p.ac) ∧
  w.cell? ⟨b, o + 2, none⟩ = some (.bool s.ratio.neg) ∧ w.cell? ⟨b, o + 3, none⟩ = some (.slice p.na s.ratio.num.length p.nc) ∧ w.cell? ⟨b, o + 4, none⟩ = some (.slice p.da s.ratio.den.length p.dc)
theorem StepC.ext {w w' : World} {b o : Nat} {p : RA} {s : Step} (h : StepC w b o p s) (e : Ext w w') : StepC w' b o p s :=
  ⟨e _ _ h.1, e _ _ h.2.1, e _ _ h.2.2.1, e _ _ h.2.2.2.1, e _ _ h.2.2.2.2.1, e _ _ h.2.2.2.2.2⟩
theorem FctC.ext {w w' : World} {b o : Nat} {p : RA} {s : Fct} (h : FctC w b o p s) (e : Ext w w') : FctC w' b o p s :=
  ⟨e _ _ h.1, e _ _ h.2.1, e _ _ h.2.2.1, e _ _ h.2.2.2.1, e _ _ h.2.2.2.2⟩
def StepE (w : World) (b o : Nat) (s : Step) : Prop := ∃ p, StepC w b o p s ∧ PartsR w p s.args s.ratio ∧ InInt s.kind ∧ s.point.size ≤ 9223372036854775807
def FctE (w : World) (b o : Nat) (s : Fct) : Prop := ∃ p, FctC w b o p s ∧ PartsR w p s.args s.ratio ∧ InInt s.kind
def StepsR (w : World) (a : Option Addr) (c : Nat) (l : List Step) : Prop := SlR 6 StepE w a c l
def FctsR (w : World) (a : Option Addr) (c : Nat) (l : List Fct) : Prop := SlR 5 FctE w a c l
theorem StepsR.ext {w w' : World} {a : Option Addr} {c : Nat} {l : List Step} (h : StepsR w a c l) (e : Ext w w') : StepsR w' a c l :=
  SlR.mono h fun _ _ _ _ ⟨p, h1, h2, h3⟩ => ⟨p, h1.ext e, h2.ext e, h3⟩
theorem FctsR.ext {w w' : World} {a : Option Addr} {c : Nat} {l : List Fct} (h : FctsR w a c l) (e : Ext w w') : FctsR w' a c l :=
  SlR.mono h fun _ _ _ _ ⟨p, h1, h2, h3⟩ => ⟨p, h1.ext e, h2.ext e, h3⟩
def Fig.val (f : Fig) (sa : Option Addr) (sc : Nat) (ga : Option Addr) (gc : Nat) : Value := .agg #[.slice sa f.steps.length sc, .slice ga f.goals.length gc]
def FigR (w : World) (sa : Option Addr) (sc : Nat) (ga : Option Addr) (gc : Nat) (f : Fig) : Prop := StepsR w sa sc f.steps ∧ FctsR w ga gc f.goals
theorem FigR.ext {w w' : World} {sa : Option Addr} {sc : Nat} {ga : Option Addr} {gc : Nat} {f : Fig} (h : FigR w sa sc ga gc f) (e : Ext w w') : FigR w' sa sc ga gc f := ⟨h.1.ext e, h.2.ext e⟩
/-- few limbs -/
def Rt.few (r : Rt) : Prop := r.num.length ≤ 2000000 ∧ r.den.length ≤ 2000000
def Fig.few (f : Fig) : Prop := (∀ s ∈ f.steps, s.ratio.few) ∧ (∀ g ∈ f.goals, g.ratio.few)

end Go.Proofs.YtmlldjcbijoheaaDoor

