/- Boxes and points as they lie in memory; a valid number as a handle. -/
import Derived.Test.YtaihkpjbnkgmlaaGreatRf19
import Derived.LoopN
import Derived.Test.YtaihkpjbnkgmlaaGreatRf1
import Derived.Test.YtaihkpjbnkgmlaaGreatRf10

/- Walks: intervals by the program and by the reference: Has, the greatest and the least of two numbers. -/
namespace Go.Proofs.YtaihkpjbnkgmlaaGreat
open Go.RowKit

set_option maxRecDepth 100000 in
set_option maxHeartbeats 2000000 in
theorem ihas_q (x1 x2 y : QA) (a b q : Rat) (k1 k2 : Nat) (w : World) (H1 : QK k1 w x1 a) (H2 : QK k1 w x2 b) (H3 : QK k2 w y q) (h1 : k1 ≤ 100000) (h2 : k2 ≤ 100000) :
  Calls Tryz.prog 35 #[.agg #[.bool x1.neg, .slice x1.a x1.n x1.c, .slice x1.b x1.m x1.d, .bool x2.neg, .slice x2.a x2.n x2.c, .slice x2.b x2.m x2.d], .agg #[.bool y.neg, .slice y.a y.n y.c, .slice y.b y.m y.d]] w fun e w' => e = .returned (.bool (decide (a ≤ q ∧ q ≤ b))) ∧ Below w.heap.size w w' := by
 have C1 := fun W (hW : Below w.heap.size w W) => cmp_q x1 y a q k1 k2 W (H1.ext (Ext.below hW)) (H3.ext (Ext.below hW)) h1 h2
 have C2 := fun W (hW : Below w.heap.size w W) => cmp_q y x2 q b k2 k1 W (H3.ext (Ext.below hW)) (H2.ext (Ext.below hW)) h2 h1
 have e1 := cmpQ_le (p := a) (q := q)
 have e2 := cmpQ_le (p := q) (q := b)
 revert C1 C2 e1 e2
 generalize cmpQ a q = u
 generalize cmpQ q b = v
 intro C1 C2 e1 e2
 replace C1 := Lib.hid C1; replace C2 := Lib.hid C2
 replace e1 := Lib.hid e1; replace e2 := Lib.hid e2
 obtain ⟨R, hR⟩ : ∃ R, decide (a ≤ q ∧ q ≤ b) = R := ⟨_, rfl⟩
 rw [hR]
 replace hR := Lib.hid hR
 clear H1 H2 H3
 by_cases g1 : u ≤ 0
 all_goals
  go_enter Tryz.func35, Tryz.ntmps35
  go_wp2_with fail
  refine calls_gen (fun W => Blk W w.heap.size 73 #[.bool x1.neg, .slice x1.a x1.n x1.c, .slice x1.b x1.m x1.d, .bool x2.neg, .slice x2.a x2.n x2.c, .slice x2.b x2.m x2.d] ∧ Blk W (w.heap.size + 1) 43 #[.bool y.neg, .slice y.a y.n y.c, .slice y.b y.m y.d] ∧ Below w.heap.size w W) ⟨(Blk.new w _ _).alloc _, blk_at1 w _ _ _, by go_grown⟩ ?_
  rintro w0 ⟨hx, hy, hw0⟩
  revert hx hy
  generalize w.heap.size + 1 = g2
  intro hx hy
  refine (C1.out _ hw0).mono ?_
  rintro e w1 ⟨rfl, hb1⟩
  replace hx := hx.below' hb1
  replace hy := hy.below' hb1
  have hw1 := below_then hw0 hb1
  have z0 := hx.cell 3; have z1 := hx.cell 4; have z2 := hx.cell 5; have y0 := hy.cell 0; have y1 := hy.cell 1; have y2 := hy.cell 2
 ·
  go_wp2_with fail
  refine (C2.out _ hw1).mono ?_
  rintro e w2 ⟨rfl, hb2⟩
  go_wp2
  go_ret
  refine ⟨ret_bool ?_, below_then hw1 hb2⟩
  rw [← hR.out, decide_eq_decide, e2.out, ← e1.out]
  simp [g1]
 ·
  go_wp2
  go_ret
  refine ⟨ret_bool ?_, hw1⟩
  rw [← hR.out, eq_comm, decide_eq_false_iff_not, ← e1.out]
  exact fun h => by have := h.1; omega
set_option maxRecDepth 100000 in
set_option maxHeartbeats 2000000 in
theorem ihasR_q (x1 x2 y : QA) (a b q : Rat) (k1 k2 : Nat) (w : World) (H1 : QK k1 w x1 a) (H2 : QK k1 w x2 b) (H3 : QK k2 w y q) (h1 : k1 ≤ 100000) (h2 : k2 ≤ 100000) :
  Calls Tryz.prog 38 #[.agg #[.bool x1.neg, .slice x1.a x1.n x1.c, .slice x1.b x1.m x1.d, .bool x2.neg, .slice x2.a x2.n x2.c, .slice x2.b x2.m x2.d], .agg #[.bool y.neg, .slice y.a y.n y.c, .slice y.b y.m y.d]] w fun e w' => e = .returned (.bool (decide (a ≤ q ∧ q ≤ b))) ∧ Below w.heap.size w w' := by
 have C1 := fun W (hW : Below w.heap.size w W) => cmpR_q x1 y a q k1 k2 W (H1.ext (Ext.below hW)) (H3.ext (Ext.below hW)) h1 h2
 have C2 := fun W (hW : Below w.heap.size w W) => cmpR_q y x2 q b k2 k1 W (H3.ext (Ext.below hW)) (H2.ext (Ext.below hW)) h2 h1
 have e1 := cmpQ_le (p := a) (q := q)
 have e2 := cmpQ_le (p := q) (q := b)
 revert C1 C2 e1 e2
 generalize cmpQ a q = u
 generalize cmpQ q b = v
 intro C1 C2 e1 e2
 replace C1 := Lib.hid C1; replace C2 := Lib.hid C2
 replace e1 := Lib.hid e1; replace e2 := Lib.hid e2
 obtain ⟨R, hR⟩ : ∃ R, decide (a ≤ q ∧ q ≤ b) = R := ⟨_, rfl⟩
 rw [hR]
 replace hR := Lib.hid hR
 clear H1 H2 H3
 by_cases g1 : u ≤ 0
 all_goals
  go_enter Tryz.func38, Tryz.ntmps38
  go_wp2_with fail
  refine calls_gen (fun W => Blk W w.heap.size 73 #[.bool x1.neg, .slice x1.a x1.n x1.c, .slice x1.b x1.m x1.d, .bool x2.neg, .slice x2.a x2.n x2.c, .slice x2.b x2.m x2.d] ∧ Blk W (w.heap.size + 1) 43 #[.bool y.neg, .slice y.a y.n y.c, .slice y.b y.m y.d] ∧ Below w.heap.size w W) ⟨(Blk.new w _ _).alloc _, blk_at1 w _ _ _, by go_grown⟩ ?_
  rintro w0 ⟨hx, hy, hw0⟩
  revert hx hy
  generalize w.heap.size + 1 = g2
  intro hx hy
  refine (C1.out _ hw0).mono ?_
  rintro e w1 ⟨rfl, hb1⟩
  replace hx := hx.below' hb1
  replace hy := hy.below' hb1
  have hw1 := below_then hw0 hb1
  have z0 := hx.cell 3; have z1 := hx.cell 4; have z2 := hx.cell 5; have y0 := hy.cell 0; have y1 := hy.cell 1; have y2 := hy.cell 2
 ·
  go_wp2_with fail
  refine (C2.out _ hw1).mono ?_
  rintro e w2 ⟨rfl, hb2⟩
  go_wp2
  go_ret
  refine ⟨ret_bool ?_, below_then hw1 hb2⟩
  rw [← hR.out, decide_eq_decide, e2.out, ← e1.out]
  simp [g1]
 ·
  go_wp2
  go_ret
  refine ⟨ret_bool ?_, hw1⟩
  rw [← hR.out, eq_comm, decide_eq_false_iff_not, ← e1.out]
  exact fun h => by have := h.1; omega
end Go.Proofs.YtaihkpjbnkgmlaaGreat

/- Walks: the greatest and the least of two numbers, by the reference. -/
namespace Go.Proofs.YtaihkpjbnkgmlaaGreat
open Go.RowKit

end Go.Proofs.YtaihkpjbnkgmlaaGreat

/- Figures: steps and facts as they lie in memory. No function of the program in sight. -/
namespace Go.Proofs.YtaihkpjbnkgmlaaGreat
open Go.RowKit

/-- a rational number as it lies in memory -/
structure Rt where
 neg : Bool
 num : List Int
 den : List Int
def Rt.val (r : Rt) (na : Option Addr) (nc : Nat) (da : Option Addr) (dc : Nat) : Value := .agg #[.bool r.neg, .slice na r.num.length nc, .slice da r.den.length dc]
structure Step where
 kind : Int
 point : ByteArray
 args : List Int
 ratio : Rt
structure Fct where
 kind : Int
 args : List Int
 ratio : Rt
structure Fig where
 steps : List Step
 goals : List Fct
def Fct.val (f : Fct) (aa : Option Addr) (ac : Nat) (na : Option Addr) (nc : Nat) (da : Option Addr) (dc : Nat) : Value := .agg #[.int .i64 f.kind, .slice aa f.args.length ac, .bool f.ratio.neg, .slice na f.ratio.num.length nc, .slice da f.ratio.den.length dc]
def Step.val (s : Step) (aa : Option Addr) (ac : Nat) (na : Option Addr) (nc : Nat) (da : Option Addr) (dc : Nat) : Value := .agg #[.int .i64 s.kind, .string s.point, .slice aa s.args.length ac, .bool s.ratio.neg, .slice na s.ratio.num.length nc, .slice da s.ratio.den.length dc]
/-- where the slices of a step or a fact lie -/
structure RA where
 aa : Option Addr
 ac : Nat
 na : Option Addr
 nc : Nat
 da : Option Addr
 dc : Nat
/-- what the slices of a step or a fact hold -/
def PartsR (w : World) (p : RA) (args : List Int) (r : Rt) : Prop := IntsR w p.aa p.ac args ∧ NatR w p.na p.nc r.num ∧ NatR w p.da p.dc r.den
theorem PartsR.ext {w w' : World} {p : RA} {args : List Int} {r : Rt} (h : PartsR w p args r) (e : Ext w w') : PartsR w' p args r := ⟨h.1.ext e, h.2.1.ext e, h.2.2.ext e⟩
def StepC (w : World) (b o : Nat) (p : RA) (s : Step) : Prop :=
 w.cell? ⟨b, o, none⟩ = some (.int .i64 s.kind) ∧ w.cell? ⟨b, o + 1, none⟩ = some (.string s.point) ∧ w.cell? ⟨b, o + 2, none⟩ = some (.slice p.aa s.args.length p.ac) ∧
 w.cell? ⟨b, o + 3, none⟩ = some (.bool s.ratio.neg) ∧ w.cell? ⟨b, o + 4, none⟩ = some (.slice p.na s.ratio.num.length p.nc) ∧ w.cell? ⟨b, o + 5, none⟩ = some (.slice p.da s.ratio.den.length p.dc)
def FctC (w : World) (b o : Nat) (p : RA) (s : Fct) : Prop :=
 w.cell? ⟨b, o, none⟩ = some (.int .i64 s.kind) ∧ w.cell? ⟨b, o + 1, none⟩ = some (.slice p.aa s.args.length p.ac) ∧
 w.cell? ⟨b, o + 2, none⟩ = some (.bool s.ratio.neg) ∧ w.cell? ⟨b, o + 3, none⟩ = some (.slice p.na s.ratio.num.length p.nc) ∧ w.cell? ⟨b, o + 4, none⟩ = some (.slice p.da s.ratio.den.length p.dc)
theorem StepC.ext {w w' : World} {b o : Nat} {p : RA} {s : Step} (h : StepC w b o p s) (e : Ext w w') : StepC w' b o p s :=
 ⟨e _ _ h.1, e _ _ h.2.1, e _ _ h.2.2.1, e _ _ h.2.2.2.1, e _ _ h.2.2.2.2.1, e _ _ h.2.2.2.2.2⟩
theorem FctC.ext {w w' : World} {b o : Nat} {p : RA} {s : Fct} (h : FctC w b o p s) (e : Ext w w') : FctC w' b o p s :=
 ⟨e _ _ h.1, e _ _ h.2.1, e _ _ h.2.2.1, e _ _ h.2.2.2.1, e _ _ h.2.2.2.2⟩
def StepE (w : World) (b o : Nat) (s : Step) : Prop := ∃ p, StepC w b o p s ∧ PartsR w p s.args s.ratio ∧ InInt s.kind ∧ s.point.size ≤ 9223372036854775807
def FctE (w : World) (b o : Nat) (s : Fct) : Prop := ∃ p, FctC w b o p s ∧ PartsR w p s.args s.ratio ∧ InInt s.kind
def StepsR (w : World) (a : Option Addr) (c : Nat) (l : List Step) : Prop := SlR 6 StepE w a c l
def FctsR (w : World) (a : Option Addr) (c : Nat) (l : List Fct) : Prop := SlR 5 FctE w a c l
theorem StepsR.ext {w w' : World} {a : Option Addr} {c : Nat} {l : List Step} (h : StepsR w a c l) (e : Ext w w') : StepsR w' a c l :=
 SlR.mono h fun _ _ _ _ ⟨p, h1, h2, h3⟩ => ⟨p, h1.ext e, h2.ext e, h3⟩
theorem FctsR.ext {w w' : World} {a : Option Addr} {c : Nat} {l : List Fct} (h : FctsR w a c l) (e : Ext w w') : FctsR w' a c l :=
 SlR.mono h fun _ _ _ _ ⟨p, h1, h2, h3⟩ => ⟨p, h1.ext e, h2.ext e, h3⟩
def Fig.val (f : Fig) (sa : Option Addr) (sc : Nat) (ga : Option Addr) (gc : Nat) : Value := .agg #[.slice sa f.steps.length sc, .slice ga f.goals.length gc]
def FigR (w : World) (sa : Option Addr) (sc : Nat) (ga : Option Addr) (gc : Nat) (f : Fig) : Prop := StepsR w sa sc f.steps ∧ FctsR w ga gc f.goals
theorem FigR.ext {w w' : World} {sa : Option Addr} {sc : Nat} {ga : Option Addr} {gc : Nat} {f : Fig} (h : FigR w sa sc ga gc f) (e : Ext w w') : FigR w' sa sc ga gc f := ⟨h.1.ext e, h.2.ext e⟩
/-- few limbs -/
def Rt.few (r : Rt) : Prop := r.num.length ≤ 2000000 ∧ r.den.length ≤ 2000000
def Fig.few (f : Fig) : Prop := (∀ s ∈ f.steps, s.ratio.few) ∧ (∀ g ∈ f.goals, g.ratio.few)

end Go.Proofs.YtaihkpjbnkgmlaaGreat

/- Walks of the reference's rational numbers: Right. -/
namespace Go.Proofs.YtaihkpjbnkgmlaaGreat
open Go.RowKit

/-- is an integer valid? -/
def rightI (neg : Bool) (num : List Int) : Bool := canonB num && !(neg && decide (num.length = 0))
/-- is a rational number valid? -/
def Rt.right (r : Rt) : Bool := rightI r.neg r.num && canonB r.den && decide (Nat.gcd (Go.Proofs.YtaihkpjbnkgmlaaGreat.val r.num) (Go.Proofs.YtaihkpjbnkgmlaaGreat.val r.den) = 1) && decide (0 < r.den.length)

set_option maxHeartbeats 400000 in
theorem right02_any (neg : Bool) (num : List Int) (a : Option Addr) (c : Nat) (w : World) (h : NatR w a c num) :
  Calls Tryz.prog 102 #[.agg #[.bool neg, .slice a num.length c]] w fun r w' => r = .returned (.bool (rightI neg num)) ∧ Below w.heap.size w w' := by
 have CV := fun W (hW : Below w.heap.size w W) => valid01_any num a c W (h.ext (Ext.below hW))
 obtain ⟨b1, hb1⟩ : ∃ b, canonB num = b := ⟨_, rfl⟩
 rw [hb1] at CV
 replace CV := Lib.hid CV
 unfold rightI
 rw [hb1]
 clear hb1 h
 by_cases h0 : num.length = 0
 ·
  have e0 : ((num.length : Int) == 0) = true := by simp [h0]
  have H0 := Lib.hid h0
  clear h0
  cases b1 <;> cases neg
  all_goals
   go_enter Tryz.func102, Tryz.ntmps102
   go_wp2_with (go_at_call 103; refine (CV.out _ ((Below.refl _ _).alloc (Nat.le_refl _) _)).mono ?_; rintro e w' ⟨rfl, rfl⟩)
   go_ret
   refine ⟨ret_bool ?_, (Below.refl _ _).alloc (Nat.le_refl _) _⟩
   simp [H0.out]
 ·
  have e0 : ((num.length : Int) == 0) = false := by simp; exact fun e => h0 (by simp [e])
  have H0 := Lib.hid h0
  clear h0
  cases b1 <;> cases neg
  all_goals
   go_enter Tryz.func102, Tryz.ntmps102
   go_wp2_with (go_at_call 103; refine (CV.out _ ((Below.refl _ _).alloc (Nat.le_refl _) _)).mono ?_; rintro e w' ⟨rfl, rfl⟩)
   go_ret
   refine ⟨ret_bool ?_, (Below.refl _ _).alloc (Nat.le_refl _) _⟩
   simp [H0.out]

set_option maxRecDepth 100000 in
set_option maxHeartbeats 1000000 in
theorem right03_any (r : Rt) (na : Option Addr) (nc : Nat) (da : Option Addr) (dc : Nat) (w : World) (h : NatR w na nc r.num) (h' : NatR w da dc r.den) (hl : r.num.length ≤ 2000000) (hm : r.den.length ≤ 2000000) :
  Calls Tryz.prog 46 #[r.val na nc da dc] w fun e w' => e = .returned (.bool r.right) ∧ Below w.heap.size w w' := by
 obtain ⟨neg, num, den⟩ := r
 have CR := fun W (hW : Below w.heap.size w W) => right02_any neg num na nc W (h.ext (Ext.below hW))
 have CV := fun W (hW : Below w.heap.size w W) => valid01_any den da dc W (h'.ext (Ext.below hW))
 have CG := fun W (hW : Below w.heap.size w W) => gcd01_any num den (val num) (val den) na da nc dc W (h.ext (Ext.below hW)) (h'.ext (Ext.below hW)) rfl rfl hl hm
 have CS := fun (xs ys : List Int) (a a' : Option Addr) (c c' : Nat) W => same01_any xs ys a a' c c' W
 have CO := fun W => of01_any 1 W (by omega)
 obtain ⟨b1, hb1⟩ : ∃ b, rightI neg num = b := ⟨_, rfl⟩
 obtain ⟨b2, hb2⟩ : ∃ b, canonB den = b := ⟨_, rfl⟩
 obtain ⟨b3, hb3⟩ : ∃ b, decide (Nat.gcd (val num) (val den) = 1) = b := ⟨_, rfl⟩
 obtain ⟨b4, hb4⟩ : ∃ b, decide (0 < den.length) = b := ⟨_, rfl⟩
 have hb4' : decide ((0 : Int) < (den.length : Int)) = b4 := by rw [← hb4]; simp
 have hs : decide (limbs (Nat.gcd (val num) (val den)) = limbs 1) = b3 := by rw [← hb3]; simp [limbs_inj]
 rw [hb1] at CR
 rw [hb2] at CV
 have hres : Rt.right ⟨neg, num, den⟩ = (b1 && b2 && b3 && b4) := by simp only [Rt.right, hb1, hb2, hb3, hb4]
 rw [hres]
 unfold Rt.val
 dsimp only
 dsimp only at hl hm
 generalize Nat.gcd (val num) (val den) = g at CG hs
 replace CR := Lib.hid CR; replace CV := Lib.hid CV; replace CG := Lib.hid CG; replace CS := Lib.hid CS; replace CO := Lib.hid CO
 have HS := Lib.hid hs
 have H4 := Lib.hid hb4
 clear hb1 hb2 hb3 hs hres h h' hb4
 cases b1
 ·
  clear hb4' H4 HS
  go_enter Tryz.func46, Tryz.ntmps46
  go_wp2_with fail
  refine (CR.out _ ((Below.refl _ _).alloc (Nat.le_refl _) _)).mono ?_
  rintro e w1 ⟨rfl, hb⟩
  have hw := ((Below.refl _ w).alloc (Nat.le_refl _) _).trans (hb.mono (by simp))
  go_wp2
  go_ret
  exact ⟨rfl, hw⟩
 ·
  cases b2
  ·
   clear hb4' H4 HS
   go_enter Tryz.func46, Tryz.ntmps46
   have hz : Blk (w.alloc (.cells #[.bool neg, .slice na num.length nc, .slice da den.length dc] 43)) w.heap.size 43 #[.bool neg, .slice na num.length nc, .slice da den.length dc] := Blk.new w _ _
   have hw0 : Below w.heap.size w (w.alloc (.cells #[.bool neg, .slice na num.length nc, .slice da den.length dc] 43)) := (Below.refl _ _).alloc (Nat.le_refl _) _
   go_wp2_with fail
   revert hz hw0
   generalize w.alloc (.cells #[.bool neg, .slice na num.length nc, .slice da den.length dc] 43) = w0
   intro hz hw0
   refine (CR.out _ hw0).mono ?_
   rintro e w1 ⟨rfl, hb⟩
   have hw1 := hw0.trans (hb.mono hw0.size)
   replace hz := hz.below' hb
   have z0 := hz.cell 0; have z1 := hz.cell 1; have z2 := hz.cell 2
   clear hb hz hw0
   go_wp2_with fail
   refine (CV.out _ hw1).mono ?_
   rintro e w2 ⟨rfl, rfl⟩
   go_wp2
   go_ret
   exact ⟨rfl, hw1⟩
  ·
   have hz : Blk (w.alloc (.cells #[.bool neg, .slice na num.length nc, .slice da den.length dc] 43)) w.heap.size 43 #[.bool neg, .slice na num.length nc, .slice da den.length dc] := Blk.new w _ _
   have hw0 : Below w.heap.size w (w.alloc (.cells #[.bool neg, .slice na num.length nc, .slice da den.length dc] 43)) := (Below.refl _ _).alloc (Nat.le_refl _) _
   cases b3 <;> cases b4
   all_goals
    go_enter Tryz.func46, Tryz.ntmps46
    go_wp2_with fail
    revert hz hw0
    generalize w.alloc (.cells #[.bool neg, .slice na num.length nc, .slice da den.length dc] 43) = w0
    intro hz hw0
    refine (CR.out _ hw0).mono ?_
    rintro e w1 ⟨rfl, hb⟩
    have hw1 := hw0.trans (hb.mono hw0.size)
    replace hz := hz.below' hb
    have z0 := hz.cell 0; have z1 := hz.cell 1; have z2 := hz.cell 2
    clear hb hw0
    go_wp2_with fail
    refine (CV.out _ hw1).mono ?_
    rintro e w2 ⟨rfl, rfl⟩
    go_wp2_with fail
    refine (CG.out _ hw1).mono ?_
    rintro e w2 ⟨a2, c2, rfl, hV2, hb2⟩
    have hw2 := hw1.trans (hb2.mono hw1.size)
    replace hz := hz.below' hb2
    replace z0 := hz.cell 0; replace z1 := hz.cell 1; replace z2 := hz.cell 2
    have HV2 := Lib.hid hV2
    clear hV2
    go_wp2_with fail
    refine (CO.out _).mono ?_
    rintro e w3 ⟨a3, c3, rfl, hV3, hb3⟩
    have hw3 := hw2.trans (hb3.mono hw2.size)
    replace hz := hz.below' hb3
    replace z0 := hz.cell 0; replace z1 := hz.cell 1; replace z2 := hz.cell 2
    have CS2 := CS.out (limbs g) (limbs 1) a2 a3 c2 c3 w3 (HV2.out w3 ((New.refl _ _).below hb3)) (hV3 w3 (New.refl _ _))
    rw [HS.out] at CS2
    replace CS2 := Lib.hid CS2
    clear hV3
    go_wp2_with fail
    refine CS2.out.mono ?_
    rintro e w4 ⟨rfl, hb4⟩
    have hw4 := hw3.trans (hb4.mono hw3.size)
    replace hz := hz.below' hb4
    replace z0 := hz.cell 0; replace z1 := hz.cell 1; replace z2 := hz.cell 2
    clear hb4 hb3 hb2 CS2
    go_wp2
    go_ret
    exact ⟨ret_bool (by first | rfl | (rw [H4.out]; rfl)), hw4⟩
end Go.Proofs.YtaihkpjbnkgmlaaGreat

/- Boxes and points as they lie in memory; a valid number as a handle. -/
namespace Go.Proofs.YtaihkpjbnkgmlaaGreat
open Go.RowKit

/-- the value of a number as it lies in memory -/
def Rt.q (r : Rt) : Rat := qv r.neg (Go.Proofs.YtaihkpjbnkgmlaaGreat.val r.num) (Go.Proofs.YtaihkpjbnkgmlaaGreat.val r.den)
/-- z holds the number r -/
def RtZ (w : World) (r : Rt) (z : QA) : Prop := z.neg = r.neg ∧ z.n = r.num.length ∧ z.m = r.den.length ∧ NatR w z.a z.c r.num ∧ NatR w z.b z.d r.den
theorem RtZ.ext {w w' : World} {r : Rt} {z : QA} (h : RtZ w r z) (e : Ext w w') : RtZ w' r z := ⟨h.1, h.2.1, h.2.2.1, h.2.2.2.1.ext e, h.2.2.2.2.ext e⟩
theorem right_trip {r : Rt} (h : r.right = true) : r.neg = decide (r.q.num < 0) ∧ limbs r.q.num.natAbs = r.num ∧ limbs r.q.den = r.den := by
 unfold Rt.right rightI canonB at h
 simp only [Bool.and_eq_true, decide_eq_true_eq, Bool.not_eq_true', Bool.and_eq_false_iff, decide_eq_false_iff_not] at h
 obtain ⟨⟨⟨⟨h1, h2⟩, h3⟩, h4⟩, h5⟩ := h
 have e := lowest_qv r.neg (Go.Proofs.YtaihkpjbnkgmlaaGreat.val r.num) (Go.Proofs.YtaihkpjbnkgmlaaGreat.val r.den)
 have hd : Go.Proofs.YtaihkpjbnkgmlaaGreat.val r.den ≠ 0 := by
  intro e0
  rw [e0, limbs_zero] at h3
  rw [← h3] at h5
  simp at h5
 have e2 : lowest r.neg (Go.Proofs.YtaihkpjbnkgmlaaGreat.val r.num) (Go.Proofs.YtaihkpjbnkgmlaaGreat.val r.den) = (r.neg, Go.Proofs.YtaihkpjbnkgmlaaGreat.val r.num, Go.Proofs.YtaihkpjbnkgmlaaGreat.val r.den) := by
  by_cases h0 : Go.Proofs.YtaihkpjbnkgmlaaGreat.val r.num = 0
  ·
   have hn : r.num.length = 0 := by rw [← h1, h0, limbs_zero]; rfl
   have hneg : r.neg = false := by
    rcases h2 with h2 | h2
    · exact h2
    · exact (h2 hn).elim
   have hd1 : Go.Proofs.YtaihkpjbnkgmlaaGreat.val r.den = 1 := by rw [h0, Nat.gcd_zero_left] at h4; exact h4
   rw [h0, hneg, hd1]
   rfl
  · exact lowest_one h0 hd h4
 rw [e2] at e
 unfold trip at e
 simp only [Prod.mk.injEq] at e
 unfold Rt.q
 refine ⟨e.1, ?_, ?_⟩
 · rw [← e.2.1, h1]
 · rw [← e.2.2, h3]
theorem RtZ.qk {w : World} {r : Rt} {z : QA} (h : RtZ w r z) (hr : r.right = true) (h1 : r.num.length ≤ 2) (h2 : r.den.length ≤ 2) : QK 2 w z r.q := by
 obtain ⟨e1, e2, e3⟩ := right_trip hr
 obtain ⟨z1, z2, z3, z4, z5⟩ := h
 refine ⟨⟨by rw [z1, e1], by rw [z2, e2], by rw [z3, e3], by rw [e2]; exact z4, by rw [e3]; exact z5⟩, ?_⟩
 unfold qsz
 rw [e2, e3]
 omega
def Cells3 (w : World) (g o : Nat) (z : QA) : Prop := w.cell? ⟨g, o, none⟩ = some (.bool z.neg) ∧ w.cell? ⟨g, o + 1, none⟩ = some (.slice z.a z.n z.c) ∧ w.cell? ⟨g, o + 2, none⟩ = some (.slice z.b z.m z.d)
theorem Cells3.ext {w w' : World} {g o : Nat} {z : QA} (h : Cells3 w g o z) (e : Ext w w') : Cells3 w' g o z := ⟨e _ _ h.1, e _ _ h.2.1, e _ _ h.2.2⟩
structure Bx where
 a : Rt
 b : Rt
 c : Rt
 d : Rt
structure Pt where
 x : Rt
 y : Rt
def BoxE (w : World) (g o : Nat) (x : Bx) : Prop := ∃ z1 z2 z3 z4 : QA, Cells3 w g o z1 ∧ Cells3 w g (o + 3) z2 ∧ Cells3 w g (o + 6) z3 ∧ Cells3 w g (o + 9) z4 ∧ RtZ w x.a z1 ∧ RtZ w x.b z2 ∧ RtZ w x.c z3 ∧ RtZ w x.d z4
def BoxesR (w : World) (a : Option Addr) (c : Nat) (l : List Bx) : Prop := SlR 12 BoxE w a c l
section
variable {w w' : World} {a : Option Addr} {c : Nat}
theorem BoxesR.ext {l : List Bx} (h : BoxesR w a c l) (e : Ext w w') : BoxesR w' a c l := SlR.mono h fun _ _ _ _ ⟨z1, z2, z3, z4, c1, c2, c3, c4, r1, r2, r3, r4⟩ => ⟨z1, z2, z3, z4, c1.ext e, c2.ext e, c3.ext e, c4.ext e, r1.ext e, r2.ext e, r3.ext e, r4.ext e⟩
end
/-- few limbs -/
def Rt.short (r : Rt) : Bool := r.right && decide (r.num.length ≤ 2) && decide (r.den.length ≤ 2)
theorem Rt.short_iff {r : Rt} : r.short = true ↔ r.right = true ∧ r.num.length ≤ 2 ∧ r.den.length ≤ 2 := by unfold Rt.short; simp [and_assoc]
theorem RtZ.sk {w : World} {r : Rt} {z : QA} (h : RtZ w r z) (hr : r.short = true) : QK 2 w z r.q := h.qk (Rt.short_iff.1 hr).1 (Rt.short_iff.1 hr).2.1 (Rt.short_iff.1 hr).2.2
def Rt.few2 (r : Rt) : Prop := r.num.length ≤ 2000000 ∧ r.den.length ≤ 2000000
def Bx.short (x : Bx) : Bool := x.a.short && x.b.short && x.c.short && x.d.short
def Bx.order (x : Bx) : Bool := decide (x.a.q ≤ x.b.q) && decide (x.c.q ≤ x.d.q)
def Bx.few (x : Bx) : Prop := x.a.few2 ∧ x.b.few2 ∧ x.c.few2 ∧ x.d.few2
set_option maxRecDepth 100000 in
set_option maxHeartbeats 1000000 in
theorem short44_any (r : Rt) (z : QA) (w : World) (h : RtZ w r z) (hf : r.few2) :
  Calls Tryz.prog 31 #[.agg #[.bool z.neg, .slice z.a z.n z.c, .slice z.b z.m z.d]] w fun e w' => e = .returned (.bool r.short) ∧ Below w.heap.size w w' := by
 obtain ⟨neg, n, a, c, m, b, d⟩ := z
 obtain ⟨e1, e2, e3, h1, h2⟩ := h
 dsimp only at e1 e2 e3 h1 h2 ⊢
 subst e1 e2 e3
 have CR := fun W (hW : Below w.heap.size w W) => right03_any r a c b d W (h1.ext (Ext.below hW)) (h2.ext (Ext.below hW)) hf.1 hf.2
 have q1 : decide (((r.num.length : Nat) : Int) ≤ 2) = decide (r.num.length ≤ 2) := by rw [decide_eq_decide]; omega
 have q2 : decide (((r.den.length : Nat) : Int) ≤ 2) = decide (r.den.length ≤ 2) := by rw [decide_eq_decide]; omega
 unfold Rt.short
 unfold Rt.val at CR
 have hl1 := h1.len
 have hl2 := h2.len
 revert CR q1 q2
 generalize r.right = u
 obtain ⟨p1, hp1⟩ : ∃ q, decide (r.num.length ≤ 2) = q := ⟨_, rfl⟩
 obtain ⟨p2, hp2⟩ : ∃ q, decide (r.den.length ≤ 2) = q := ⟨_, rfl⟩
 rw [hp1, hp2]
 intro CR q1 q2
 replace CR := Lib.hid CR
 clear h1 h2 hf hp1 hp2
 cases u
 all_goals
  go_enter Tryz.func31, Tryz.ntmps31
  go_wp2_with fail
  refine calls_gen (fun W => Blk W w.heap.size 43 #[.bool r.neg, .slice a r.num.length c, .slice b r.den.length d] ∧ Below w.heap.size w W) ⟨Blk.new w _ _, by go_grown⟩ ?_
  rintro w0 ⟨hx, hw0⟩
  refine (CR.out _ hw0).mono ?_
  rintro e w1 ⟨rfl, hb1⟩
  replace hx := hx.below' hb1
  have hw1 := below_then hw0 hb1
  have z1 := hx.cell 1; have z2 := hx.cell 2
 ·
  go_wp2
  go_ret
  exact ⟨by simp, hw1⟩
 ·
  cases p1 <;> cases p2
  all_goals
   go_wp2
   go_ret
   exact ⟨by simp, hw1⟩
theorem rt_right (r : Rt) (z : QA) (w : World) (h : RtZ w r z) (hs : r.short = true) :
  Calls Tryz.prog 46 #[.agg #[.bool z.neg, .slice z.a z.n z.c, .slice z.b z.m z.d]] w fun e w' => e = .returned (.bool true) ∧ Below w.heap.size w w' := by
 obtain ⟨neg, n, a, c, m, b, d⟩ := z
 obtain ⟨e1, e2, e3, h1, h2⟩ := h
 dsimp only at e1 e2 e3 h1 h2 ⊢
 subst e1 e2 e3
 obtain ⟨g1, g2, g3⟩ := Rt.short_iff.1 hs
 have := right03_any r a c b d w h1 h2 (by omega) (by omega)
 rw [g1] at this
 exact this
end Go.Proofs.YtaihkpjbnkgmlaaGreat
