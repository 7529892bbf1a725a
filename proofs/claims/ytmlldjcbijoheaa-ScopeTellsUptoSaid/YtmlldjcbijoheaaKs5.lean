/- Walk: the table of kinds. -/
import Derived.Test.YtmlldjcbijoheaaKs1
import Derived.Test.YtmlldjcbijoheaaKs4
import Derived.Laws.RangeString
import Derived.Test.YtmlldjcbijoheaaKs2
import Derived.Test.YtmlldjcbijoheaaRows

/- Figures: steps and facts as they lie in memory. No function of the program in sight. -/
namespace Go.Proofs.Ytmlldjcbijoheaa
open Go.RowKit

/-- a rational number as it lies in memory -/
structure Rt where
  neg : Bool
  num : List Int
  den : List Int
def Rt.val (r : Rt) (na : Option Addr) (nc : Nat) (da : Option Addr) (dc : Nat) : Value := .agg #[.bool r.neg, .slice na r.num.length nc, .slice da r.den.length dc]
structure Step where
  kind : Int
  point : ByteArray
  args : List Int
  ratio : Rt
structure Fct where
  kind : Int
  args : List Int
  ratio : Rt
structure Fig where
  steps : List Step
  goals : List Fct
def Fct.val (f : Fct) (aa : Option Addr) (ac : Nat) (na : Option Addr) (nc : Nat) (da : Option Addr) (dc : Nat) : Value := .agg #[.int .i64 f.kind, .slice aa f.args.length ac, .bool f.ratio.neg, .slice na f.ratio.num.length nc, .slice da f.ratio.den.length dc]
def Step.val (s : Step) (aa : Option Addr) (ac : Nat) (na : Option Addr) (nc : Nat) (da : Option Addr) (dc : Nat) : Value := .agg #[.int .i64 s.kind, .string s.point, .slice aa s.args.length ac, .bool s.ratio.neg, .slice na s.ratio.num.length nc, .slice da s.ratio.den.length dc]
/-- where the slices of a step or a fact lie -/
structure RA where
  aa : Option Addr
  ac : Nat
  na : Option Addr
  nc : Nat
  da : Option Addr
  dc : Nat
/-- what the slices of a step or a fact hold -/
def PartsR (w : World) (p : RA) (args : List Int) (r : Rt) : Prop := IntsR w p.aa p.ac args ∧ NatR w p.na p.nc r.num ∧ NatR w p.da p.dc r.den
theorem PartsR.ext {w w' : World} {p : RA} {args : List Int} {r : Rt} (h : PartsR w p args r) (e : Ext w w') : PartsR w' p args r := ⟨h.1.ext e, h.2.1.ext e, h.2.2.ext e⟩
def StepC (w : World) (b o : Nat) (p : RA) (s : Step) : Prop :=
  w.cell? ⟨b, o, none⟩ = some (.int .i64 s.kind) ∧ w.cell? ⟨b, o + 1, none⟩ = some (.string s.point) ∧ w.cell? ⟨b, o + 2, none⟩ = some (.slice p.aa s.args.length p.ac) ∧
  w.cell? ⟨b, o + 3, none⟩ = some (.bool s.ratio.neg) ∧ w.cell? ⟨b, o + 4, none⟩ = some (.slice p.na s.ratio.num.length p.nc) ∧ w.cell? ⟨b, o + 5, none⟩ = some (.slice p.da s.ratio.den.length p.dc)
def FctC (w : World) (b o : Nat) (p : RA) (s : Fct) : Prop :=
  w.cell? ⟨b, o, none⟩ = some (.int .i64 s.kind) ∧ w.cell? ⟨b, o + 1, none⟩ = some (.slice p.aa s.args.length p.ac) ∧
  w.cell? ⟨b, o + 2, none⟩ = some (.bool s.ratio.neg) ∧ w.cell? ⟨b, o + 3, none⟩ = some (.slice p.na s.ratio.num.length p.nc) ∧ w.cell? ⟨b, o + 4, none⟩ = some (.slice p.da s.ratio.den.length p.dc)
theorem StepC.ext {w w' : World} {b o : Nat} {p : RA} {s : Step} (h : StepC w b o p s) (e : Ext w w') : StepC w' b o p s :=
  ⟨e _ _ h.1, e _ _ h.2.1, e _ _ h.2.2.1, e _ _ h.2.2.2.1, e _ _ h.2.2.2.2.1, e _ _ h.2.2.2.2.2⟩
theorem FctC.ext {w w' : World} {b o : Nat} {p : RA} {s : Fct} (h : FctC w b o p s) (e : Ext w w') : FctC w' b o p s :=
  ⟨e _ _ h.1, e _ _ h.2.1, e _ _ h.2.2.1, e _ _ h.2.2.2.1, e _ _ h.2.2.2.2⟩
def StepE (w : World) (b o : Nat) (s : Step) : Prop := ∃ p, StepC w b o p s ∧ PartsR w p s.args s.ratio ∧ InInt s.kind ∧ s.point.size ≤ 9223372036854775807
def FctE (w : World) (b o : Nat) (s : Fct) : Prop := ∃ p, FctC w b o p s ∧ PartsR w p s.args s.ratio ∧ InInt s.kind
def StepsR (w : World) (a : Option Addr) (c : Nat) (l : List Step) : Prop := SlR 6 StepE w a c l
def FctsR (w : World) (a : Option Addr) (c : Nat) (l : List Fct) : Prop := SlR 5 FctE w a c l
theorem StepsR.ext {w w' : World} {a : Option Addr} {c : Nat} {l : List Step} (h : StepsR w a c l) (e : Ext w w') : StepsR w' a c l :=
  SlR.mono h fun _ _ _ _ ⟨p, h1, h2, h3⟩ => ⟨p, h1.ext e, h2.ext e, h3⟩
theorem FctsR.ext {w w' : World} {a : Option Addr} {c : Nat} {l : List Fct} (h : FctsR w a c l) (e : Ext w w') : FctsR w' a c l :=
  SlR.mono h fun _ _ _ _ ⟨p, h1, h2, h3⟩ => ⟨p, h1.ext e, h2.ext e, h3⟩
def Fig.val (f : Fig) (sa : Option Addr) (sc : Nat) (ga : Option Addr) (gc : Nat) : Value := .agg #[.slice sa f.steps.length sc, .slice ga f.goals.length gc]
def FigR (w : World) (sa : Option Addr) (sc : Nat) (ga : Option Addr) (gc : Nat) (f : Fig) : Prop := StepsR w sa sc f.steps ∧ FctsR w ga gc f.goals
theorem FigR.ext {w w' : World} {sa : Option Addr} {sc : Nat} {ga : Option Addr} {gc : Nat} {f : Fig} (h : FigR w sa sc ga gc f) (e : Ext w w') : FigR w' sa sc ga gc f := ⟨h.1.ext e, h.2.ext e⟩
/-- few limbs -/
def Rt.few (r : Rt) : Prop := r.num.length ≤ 2000000 ∧ r.den.length ≤ 2000000
def Fig.few (f : Fig) : Prop := (∀ s ∈ f.steps, s.ratio.few) ∧ (∀ g ∈ f.goals, g.ratio.few)

end Go.Proofs.Ytmlldjcbijoheaa

/- Walks of the reference's rational numbers: Right. -/
namespace Go.Proofs.Ytmlldjcbijoheaa
open Go.RowKit

/-- is an integer valid? -/
def rightI (neg : Bool) (num : List Int) : Bool := canonB num && !(neg && decide (num.length = 0))
/-- is a rational number valid? -/
def Rt.right (r : Rt) : Bool := rightI r.neg r.num && canonB r.den && decide (Nat.gcd (Go.Proofs.Ytmlldjcbijoheaa.val r.num) (Go.Proofs.Ytmlldjcbijoheaa.val r.den) = 1) && decide (0 < r.den.length)

set_option maxHeartbeats 400000 in
theorem right02_any (neg : Bool) (num : List Int) (a : Option Addr) (c : Nat) (w : World) (h : NatR w a c num) :
    Calls Try.prog 112 #[.agg #[.bool neg, .slice a num.length c]] w fun r w' => r = .returned (.bool (rightI neg num)) ∧ Below w.heap.size w w' := by
  have CV := fun W (hW : Below w.heap.size w W) => valid01_any num a c W (h.ext (Ext.below hW))
  obtain ⟨b1, hb1⟩ : ∃ b, canonB num = b := ⟨_, rfl⟩
  rw [hb1] at CV
  replace CV := Lib.hid CV
  unfold rightI
  rw [hb1]
  clear hb1 h
  by_cases h0 : num.length = 0
  · have e0 : ((num.length : Int) == 0) = true := by simp [h0]
    have H0 := Lib.hid h0
    clear h0
    cases b1 <;> cases neg
    all_goals
      go_enter Try.func112, Try.ntmps112
      go_wp2_with (go_at_call 113; refine (CV.out _ ((Below.refl _ _).alloc (Nat.le_refl _) _)).mono ?_; rintro e w' ⟨rfl, rfl⟩)
      go_ret
      refine ⟨ret_bool ?_, (Below.refl _ _).alloc (Nat.le_refl _) _⟩
      simp [H0.out]
  · have e0 : ((num.length : Int) == 0) = false := by simp; exact fun e => h0 (by simp [e])
    have H0 := Lib.hid h0
    clear h0
    cases b1 <;> cases neg
    all_goals
      go_enter Try.func112, Try.ntmps112
      go_wp2_with (go_at_call 113; refine (CV.out _ ((Below.refl _ _).alloc (Nat.le_refl _) _)).mono ?_; rintro e w' ⟨rfl, rfl⟩)
      go_ret
      refine ⟨ret_bool ?_, (Below.refl _ _).alloc (Nat.le_refl _) _⟩
      simp [H0.out]

set_option maxRecDepth 100000 in
set_option maxHeartbeats 1000000 in
theorem right03_any (r : Rt) (na : Option Addr) (nc : Nat) (da : Option Addr) (dc : Nat) (w : World) (h : NatR w na nc r.num) (h' : NatR w da dc r.den) (hl : r.num.length ≤ 2000000) (hm : r.den.length ≤ 2000000) :
    Calls Try.prog 89 #[r.val na nc da dc] w fun e w' => e = .returned (.bool r.right) ∧ Below w.heap.size w w' := by
  obtain ⟨neg, num, den⟩ := r
  have CR := fun W (hW : Below w.heap.size w W) => right02_any neg num na nc W (h.ext (Ext.below hW))
  have CV := fun W (hW : Below w.heap.size w W) => valid01_any den da dc W (h'.ext (Ext.below hW))
  have CG := fun W (hW : Below w.heap.size w W) => gcd01_any num den (val num) (val den) na da nc dc W (h.ext (Ext.below hW)) (h'.ext (Ext.below hW)) rfl rfl hl hm
  have CS := fun (xs ys : List Int) (a a' : Option Addr) (c c' : Nat) W => same01_any xs ys a a' c c' W
  have CO := fun W => of01_any 1 W (by omega)
  obtain ⟨b1, hb1⟩ : ∃ b, rightI neg num = b := ⟨_, rfl⟩
  obtain ⟨b2, hb2⟩ : ∃ b, canonB den = b := ⟨_, rfl⟩
  obtain ⟨b3, hb3⟩ : ∃ b, decide (Nat.gcd (val num) (val den) = 1) = b := ⟨_, rfl⟩
  obtain ⟨b4, hb4⟩ : ∃ b, decide (0 < den.length) = b := ⟨_, rfl⟩
  have hb4' : decide ((0 : Int) < (den.length : Int)) = b4 := by rw [← hb4]; simp
  have hs : decide (limbs (Nat.gcd (val num) (val den)) = limbs 1) = b3 := by rw [← hb3]; simp [limbs_inj]
  rw [hb1] at CR
  rw [hb2] at CV
  have hres : Rt.right ⟨neg, num, den⟩ = (b1 && b2 && b3 && b4) := by simp only [Rt.right, hb1, hb2, hb3, hb4]
  rw [hres]
  unfold Rt.val
  dsimp only
  dsimp only at hl hm
  generalize Nat.gcd (val num) (val den) = g at CG hs
  replace CR := Lib.hid CR; replace CV := Lib.hid CV; replace CG := Lib.hid CG; replace CS := Lib.hid CS; replace CO := Lib.hid CO
  have HS := Lib.hid hs
  have H4 := Lib.hid hb4
  clear hb1 hb2 hb3 hs hres h h' hb4
  cases b1
  · clear hb4' H4 HS
    go_enter Try.func89, Try.ntmps89
    go_wp2_with fail
    refine (CR.out _ ((Below.refl _ _).alloc (Nat.le_refl _) _)).mono ?_
    rintro e w1 ⟨rfl, hb⟩
    have hw := ((Below.refl _ w).alloc (Nat.le_refl _) _).trans (hb.mono (by simp))
    go_wp2
    go_ret
    exact ⟨rfl, hw⟩
  · cases b2
    · clear hb4' H4 HS
      go_enter Try.func89, Try.ntmps89
      have hz : Blk (w.alloc (.cells #[.bool neg, .slice na num.length nc, .slice da den.length dc] 37)) w.heap.size 37 #[.bool neg, .slice na num.length nc, .slice da den.length dc] := Blk.new w _ _
      have hw0 : Below w.heap.size w (w.alloc (.cells #[.bool neg, .slice na num.length nc, .slice da den.length dc] 37)) := (Below.refl _ _).alloc (Nat.le_refl _) _
      go_wp2_with fail
      revert hz hw0
      generalize w.alloc (.cells #[.bool neg, .slice na num.length nc, .slice da den.length dc] 37) = w0
      intro hz hw0
      refine (CR.out _ hw0).mono ?_
      rintro e w1 ⟨rfl, hb⟩
      have hw1 := hw0.trans (hb.mono hw0.size)
      replace hz := hz.below' hb
      have z0 := hz.cell 0; have z1 := hz.cell 1; have z2 := hz.cell 2
      clear hb hz hw0
      go_wp2_with fail
      refine (CV.out _ hw1).mono ?_
      rintro e w2 ⟨rfl, rfl⟩
      go_wp2
      go_ret
      exact ⟨rfl, hw1⟩
    · have hz : Blk (w.alloc (.cells #[.bool neg, .slice na num.length nc, .slice da den.length dc] 37)) w.heap.size 37 #[.bool neg, .slice na num.length nc, .slice da den.length dc] := Blk.new w _ _
      have hw0 : Below w.heap.size w (w.alloc (.cells #[.bool neg, .slice na num.length nc, .slice da den.length dc] 37)) := (Below.refl _ _).alloc (Nat.le_refl _) _
      cases b3 <;> cases b4
      all_goals
        go_enter Try.func89, Try.ntmps89
        go_wp2_with fail
        revert hz hw0
        generalize w.alloc (.cells #[.bool neg, .slice na num.length nc, .slice da den.length dc] 37) = w0
        intro hz hw0
        refine (CR.out _ hw0).mono ?_
        rintro e w1 ⟨rfl, hb⟩
        have hw1 := hw0.trans (hb.mono hw0.size)
        replace hz := hz.below' hb
        have z0 := hz.cell 0; have z1 := hz.cell 1; have z2 := hz.cell 2
        clear hb hw0
        go_wp2_with fail
        refine (CV.out _ hw1).mono ?_
        rintro e w2 ⟨rfl, rfl⟩
        go_wp2_with fail
        refine (CG.out _ hw1).mono ?_
        rintro e w2 ⟨a2, c2, rfl, hV2, hb2⟩
        have hw2 := hw1.trans (hb2.mono hw1.size)
        replace hz := hz.below' hb2
        replace z0 := hz.cell 0; replace z1 := hz.cell 1; replace z2 := hz.cell 2
        have HV2 := Lib.hid hV2
        clear hV2
        go_wp2_with fail
        refine (CO.out _).mono ?_
        rintro e w3 ⟨a3, c3, rfl, hV3, hb3⟩
        have hw3 := hw2.trans (hb3.mono hw2.size)
        replace hz := hz.below' hb3
        replace z0 := hz.cell 0; replace z1 := hz.cell 1; replace z2 := hz.cell 2
        have CS2 := CS.out (limbs g) (limbs 1) a2 a3 c2 c3 w3 (HV2.out w3 ((New.refl _ _).below hb3)) (hV3 w3 (New.refl _ _))
        rw [HS.out] at CS2
        replace CS2 := Lib.hid CS2
        clear hV3
        go_wp2_with fail
        refine CS2.out.mono ?_
        rintro e w4 ⟨rfl, hb4⟩
        have hw4 := hw3.trans (hb4.mono hw3.size)
        replace hz := hz.below' hb4
        replace z0 := hz.cell 0; replace z1 := hz.cell 1; replace z2 := hz.cell 2
        clear hb4 hb3 hb2 CS2
        go_wp2
        go_ret
        exact ⟨ret_bool (by first | rfl | (rw [H4.out]; rfl)), hw4⟩
end Go.Proofs.Ytmlldjcbijoheaa

/- A range over a string beside other blocks. No function of the program in sight. -/
namespace Go.Proofs.Ytmlldjcbijoheaa
open Go.RowKit
/-- block g is an iterator over s that stands at pos -/
def Itr (w : World) (g : Nat) (s : ByteArray) (pos : Nat) : Prop := w.heap[g]? = some (.stringIter s pos)
def setItr (w : World) (g : Nat) (s : ByteArray) (pos : Nat) : World := { w with heap := w.heap.setIfInBounds g (.stringIter s pos) }
theorem run_next_at {P : Program} (w : World) (g : Nat) (s : ByteArray) (pos : Nat) (ty : TypeId) (hi : Itr w g s pos) (h : pos < s.size) (ha : (s[pos]'h).toNat < 128) :
    (Instr.next (.pointer (some ⟨g, 0, none⟩)) true ty).run P w = .ok (.tuple #[.bool true, .int .i64 pos, .int .i32 (s[pos]'h).toNat]) (setItr w g s (pos + 1)) := by
  unfold Itr at hi
  simp only [Instr.next, getObj, setObj, Sem.run_bind, Sem.run, hi, Result.andThen, h, if_true, decode_ascii s pos h ha]
  simp [goInt, setItr]
theorem run_next_stop {P : Program} (w : World) (g : Nat) (s : ByteArray) (pos : Nat) (ty : TypeId) (hi : Itr w g s pos) (h : ¬ pos < s.size) :
    (Instr.next (.pointer (some ⟨g, 0, none⟩)) true ty).run P w = .ok (.tuple #[.bool false]) w := by
  unfold Itr at hi
  simp [Instr.next, getObj, Sem.run, hi, h]
theorem Itr.lt {w : World} {g : Nat} {s : ByteArray} {pos : Nat} (h : Itr w g s pos) : g < w.heap.size := (Array.getElem?_eq_some_iff.1 h).1
theorem Itr.below {w w' : World} {g : Nat} {s : ByteArray} {pos : Nat} (h : Itr w g s pos) (hb : Below w.heap.size w w') : Itr w' g s pos := (hb.block g h.lt).trans h
theorem Itr.grown {w w' : World} {g : Nat} {s : ByteArray} {pos : Nat} {row : Option Nat} (h : Itr w g s pos) (hb : w.grownBy w' row) (hg : some g ≠ row) : Itr w' g s pos := (hb.block g h.lt hg).trans h
theorem Itr.set {w : World} {g : Nat} {s : ByteArray} {pos : Nat} (h : Itr w g s pos) (pos' : Nat) : Itr (setItr w g s pos') g s pos' := by
  unfold Itr setItr
  simp [h.lt]
theorem setItr_size (w : World) (g : Nat) (s : ByteArray) (pos : Nat) : (setItr w g s pos).heap.size = w.heap.size := by simp [setItr]
theorem setItr_far (w : World) (g : Nat) (s : ByteArray) (pos : Nat) (k : Nat) (hk : k ≠ g) : (setItr w g s pos).heap[k]? = w.heap[k]? := by
  simp [setItr, Ne.symm hk]
theorem below_setItr {B : Nat} {a w : World} (h : Below B a w) {g : Nat} (hg : B ≤ g) (s : ByteArray) (pos : Nat) : Below B a (setItr w g s pos) :=
  h.trans ⟨rfl, rfl, rfl, by rw [setItr_size]; exact Nat.le_refl _, fun k hk => setItr_far _ _ _ _ _ (by omega)⟩
theorem Own.setItr {α : Type} {f : α → List Value} {sz : Nat} {t : TypeId} {B : Nat} {w : World} {a : Option Addr} {c : Nat} {l : List α} (h : Own f sz t B w a c l) {g : Nat} (hg : g < B) (s : ByteArray) (pos : Nat) :
    Own f sz t B (setItr w g s pos) a c l := by
  refine ⟨h.1, ?_⟩
  rcases h.2 with hn | ⟨g', cap, cur, e, hg', hh, rest⟩
  · exact .inl hn
  · exact .inr ⟨g', cap, cur, e, hg', (setItr_far w g s pos _ (by omega)).trans hh, rest⟩
theorem setItr_cell (w : World) (g : Nat) (s : ByteArray) (pos : Nat) (p : Addr) (hp : p.block ≠ g) : (setItr w g s pos).cell? p = w.cell? p := by
  unfold World.cell?
  rw [setItr_far _ _ _ _ _ hp]
end Go.Proofs.Ytmlldjcbijoheaa

/- What a name is. No function of the program in sight. -/
namespace Go.Proofs.Ytmlldjcbijoheaa
open Go.RowKit

def letB (c : Int) : Bool := decide (65 ≤ c ∧ c ≤ 90 ∨ 97 ≤ c ∧ c ≤ 122)
def digB (c : Int) : Bool := decide (48 ≤ c ∧ c ≤ 57)
/-- the keywords: angle, apex, bisector, center, circle, circum, collinear, common, concyclic, congruent, cross, cut, divide, foot, line, meet, midpoint, mirror, on, other, parallel, perpendicular, points, prove, ratio, reflect, same, shift, turn -/
def keywords : List ByteArray := [⟨#[97, 110, 103, 108, 101]⟩,
  ⟨#[97, 112, 101, 120]⟩,
  ⟨#[98, 105, 115, 101, 99, 116, 111, 114]⟩,
  ⟨#[99, 101, 110, 116, 101, 114]⟩,
  ⟨#[99, 105, 114, 99, 108, 101]⟩,
  ⟨#[99, 105, 114, 99, 117, 109]⟩,
  ⟨#[99, 111, 108, 108, 105, 110, 101, 97, 114]⟩,
  ⟨#[99, 111, 109, 109, 111, 110]⟩,
  ⟨#[99, 111, 110, 99, 121, 99, 108, 105, 99]⟩,
  ⟨#[99, 111, 110, 103, 114, 117, 101, 110, 116]⟩,
  ⟨#[99, 114, 111, 115, 115]⟩,
  ⟨#[99, 117, 116]⟩,
  ⟨#[100, 105, 118, 105, 100, 101]⟩,
  ⟨#[102, 111, 111, 116]⟩,
  ⟨#[108, 105, 110, 101]⟩,
  ⟨#[109, 101, 101, 116]⟩,
  ⟨#[109, 105, 100, 112, 111, 105, 110, 116]⟩,
  ⟨#[109, 105, 114, 114, 111, 114]⟩,
  ⟨#[111, 110]⟩,
  ⟨#[111, 116, 104, 101, 114]⟩,
  ⟨#[112, 97, 114, 97, 108, 108, 101, 108]⟩,
  ⟨#[112, 101, 114, 112, 101, 110, 100, 105, 99, 117, 108, 97, 114]⟩,
  ⟨#[112, 111, 105, 110, 116, 115]⟩,
  ⟨#[112, 114, 111, 118, 101]⟩,
  ⟨#[114, 97, 116, 105, 111]⟩,
  ⟨#[114, 101, 102, 108, 101, 99, 116]⟩,
  ⟨#[115, 97, 109, 101]⟩,
  ⟨#[115, 104, 105, 102, 116]⟩,
  ⟨#[116, 117, 114, 110]⟩]
def wordB (c : UInt8) : Bool := letB c.toNat || digB c.toNat
/-- does a string begin with a letter? -/
def headB (s : ByteArray) : Bool := match s.data.toList with
  | [] => false
  | c :: _ => letB c.toNat
def keyB (s : ByteArray) : Bool := keywords.any fun k => decide (s = k)
def isNameB (s : ByteArray) : Bool := decide (s.size ≤ 20) && headB s && s.data.toList.all wordB && !keyB s

theorem keywords_len : keywords.length = 29 := rfl
theorem headB_cons {s : ByteArray} (h : 0 < s.size) : headB s = letB ((s[0]'h).toNat : Nat) := by
  unfold headB
  have h' : 0 < s.data.toList.length := by simpa using h
  have e : s.data.toList = s.data.toList[0] :: s.data.toList.drop 1 := by
    have := List.drop_eq_getElem_cons (l := s.data.toList) (i := 0) h'
    simpa using this
  rw [e]
  rfl
theorem headB_nil {s : ByteArray} (h : s.size = 0) : headB s = false := by
  unfold headB
  have : s.data.toList = [] := List.eq_nil_of_length_eq_zero (by simpa using h)
  rw [this]
theorem size_zero {s : ByteArray} : s.size = 0 ↔ s = ⟨#[]⟩ := by
  constructor
  · intro h
    cases s with
    | mk d => congr 1; exact Array.eq_empty_of_size_eq_zero h
  · intro h; subst h; rfl
theorem get_list {s : ByteArray} {k : Nat} (h : k < s.size) : s.data.toList[k]? = some (s[k]'h) := by simp [h]; rfl
theorem isNameB_empty : isNameB ⟨#[]⟩ = false := by decide

/-- one more rune of a string that is ranged over, whatever it is -/
theorem run_next_any {P : Program} (w : World) (g : Nat) (s : ByteArray) (pos : Nat) (hi : Itr w g s pos) (h : pos < s.size) :
    ∃ (r : Int) (n : Nat), (∀ ty : TypeId, (Instr.next (.pointer (some ⟨g, 0, none⟩)) true ty).run P w = .ok (.tuple #[.bool true, .int .i64 pos, .int .i32 r]) (setItr w g s (pos + n))) ∧ ((s[pos]'h).toNat < 128 → n = 1) := by
  by_cases ha : (s[pos]'h).toNat < 128
  · exact ⟨_, 1, fun ty => run_next_at w g s pos ty hi h ha, fun _ => rfl⟩
  · unfold Itr at hi
    refine ⟨((Utf8.decode s pos).1 : Nat), (Utf8.decode s pos).2, fun ty => ?_, fun h => absurd h ha⟩
    simp only [Instr.next, getObj, setObj, Sem.run_bind, Sem.run, hi, Result.andThen, h, if_true]
    simp [goInt, setItr]
end Go.Proofs.Ytmlldjcbijoheaa

/- Figures: steps and facts as they lie in memory, and which are right. No walk. -/
namespace Go.Proofs.Ytmlldjcbijoheaa
open Go.RowKit

/-- is a number the zero value? -/
def Rt.none (r : Rt) : Bool := !r.neg && decide (r.num.length = 0) && decide (r.den.length = 0)
def arity14 (k : Int) : Int := if k = 1 ∨ k = 5 then 3 else if k = 2 ∨ k = 3 ∨ k = 4 ∨ k = 6 ∨ k = 9 then 4 else if k = 7 then 8 else if k = 8 then 2 else 0
def arity20 (k : Int) : Int := if k = 1 then 0 else if k = 2 ∨ k = 5 ∨ k = 6 ∨ k = 14 then 2 else if k = 3 ∨ k = 4 ∨ k = 7 ∨ k = 8 ∨ k = 10 ∨ k = 11 then 3 else if k = 9 ∨ k = 12 ∨ k = 13 then 4 else -1
/-- is an argument no number below n? -/
def badArg (n a : Int) : Bool := decide (a < 0 ∨ n ≤ a)
def errFct (f : Fct) (n : Int) : Int :=
  if arity14 f.kind = 0 then 8
  else if (f.args.length : Int) ≠ arity14 f.kind then 1
  else if f.args.any (badArg n) = true then 2
  else if f.kind = 9 ∧ f.ratio.right = false then 1
  else if f.kind ≠ 9 ∧ f.ratio.none = false then 1
  else 0
def errStep (l : List Step) (s : Step) (i : Nat) : Int :=
  if arity20 s.kind < 0 then 8
  else if (s.args.length : Int) ≠ arity20 s.kind then 1
  else if s.args.any (badArg i) = true then 2
  else if s.kind = 2 ∧ s.ratio.right = false then 1
  else if s.kind ≠ 2 ∧ s.ratio.none = false then 1
  else if s.point = ⟨#[]⟩ then 0
  else if isNameB s.point = false then 6
  else if (l.take i).any (fun t => decide (t.point = s.point)) = true then 7
  else 0
/-- the first error of steps from the one with the number i on -/
def errSteps (l : List Step) : List Step → Nat → Int
  | [], _ => 0
  | s :: r, i => if errStep l s i ≠ 0 then errStep l s i else errSteps l r (i + 1)
def errGoals (n : Int) : List Fct → Int
  | [] => 0
  | f :: r => if errFct f n ≠ 0 then errFct f n else errGoals n r
def Fig.err (f : Fig) : Int := if 40 < f.steps.length ∨ 8 < f.goals.length then 4 else if errSteps f.steps f.steps 0 ≠ 0 then errSteps f.steps f.steps 0 else errGoals f.steps.length f.goals

/-! ### What is right -/
theorem errSteps_at {l : List Step} : ∀ {r : List Step} {i k : Nat} {s : Step}, errSteps l r i = 0 → r[k]? = some s → errStep l s (i + k) = 0
  | [], _, _, _, _, h => by simp at h
  | s :: r, i, 0, t, h, hk => by
    simp at hk; subst hk
    unfold errSteps at h
    by_cases h0 : errStep l s i = 0
    · simpa using h0
    · rw [if_pos h0] at h; exact absurd h h0
  | s :: r, i, k + 1, t, h, hk => by
    unfold errSteps at h
    by_cases h0 : errStep l s i = 0
    · rw [if_neg (by simp [h0])] at h
      have := errSteps_at (k := k) h (by simpa using hk)
      rwa [show i + 1 + k = i + (k + 1) by omega] at this
    · rw [if_pos h0] at h; exact absurd h h0
theorem errStep_args {l : List Step} {s : Step} {i : Nat} (h : errStep l s i = 0) : ∀ a ∈ s.args, 0 ≤ a ∧ a < i := by
  intro a ha
  unfold errStep at h
  split at h
  · omega
  split at h
  · omega
  split at h
  · omega
  · rename_i hno
    simp only [List.any_eq_true, not_exists, not_and, badArg] at hno
    have := hno a ha
    simp at this
    omega
theorem Fig.args_of {f : Fig} (h : f.err = 0) {k : Nat} {s : Step} (hk : f.steps[k]? = some s) : ∀ a ∈ s.args, 0 ≤ a ∧ a < k := by
  unfold Fig.err at h
  split at h
  · omega
  split at h
  · contradiction
  · rename_i h1
    have := errSteps_at (by simpa using h1) hk
    rw [Nat.zero_add] at this
    exact errStep_args this
end Go.Proofs.Ytmlldjcbijoheaa

/- Which expressions, statements and programs are right. No walk. -/
namespace Go.Proofs.Ytmlldjcbijoheaa
open Go.RowKit

def Expr.rt (e : Expr) : Rt := ⟨e.neg, e.num, e.den⟩
/-- is a kind of a sort other than 0? -/
def sortB (k s : Int) : Bool := if k = 1 then !decide (s = 4) else decide ((findRow k).kind ≠ 0) && decide ((findRow k).sort = s)
def ofB (k s : Int) : Bool := if s = 0 then sortB k 2 || sortB k 3 else sortB k s
def hasRatioB (k : Int) : Bool := decide (k = 11 ∨ k = 68)
/-- is the ratio that of its kind? -/
def ratioB (k : Int) (r : Rt) : Bool := if hasRatioB k = true then r.right else r.none
/-- the error of an expression, that of its arguments left out: 0 for none -/
def headErr (k : Int) (n : ByteArray) (r : Rt) (len : Nat) (s : Int) : Int :=
  if ofB k s = false then 8
  else if k = 1 ∧ isNameB n = false then 6
  else if (k ≠ 1 ∧ n ≠ ⟨#[]⟩) ∨ len ≠ (findRow k).params.length then 1
  else if ratioB k r = false then 1
  else 0
mutual
def Expr.err : Expr → Int → Int
  | .mk k n neg num den args _, s => if headErr k n ⟨neg, num, den⟩ args.length s ≠ 0 then headErr k n ⟨neg, num, den⟩ args.length s else Expr.errs args (findRow k).params
def Expr.errs : List Expr → List Int → Int
  | [], _ => 0
  | e :: es, ps => if Expr.err e (ps.headD 0) ≠ 0 then Expr.err e (ps.headD 0) else Expr.errs es ps.tail
end
theorem Expr.err_eq (e : Expr) (s : Int) : e.err s = if headErr e.kind e.name e.rt e.args.length s ≠ 0 then headErr e.kind e.name e.rt e.args.length s else Expr.errs e.args (findRow e.kind).params := by cases e; rfl
theorem errs_at {es : List Expr} {ps : List Int} {k : Nat} {e : Expr} {p : Int} (h : es[k]? = some e) (hp : ps[k]? = some p) :
    Expr.errs (es.drop k) (ps.drop k) = if e.err p ≠ 0 then e.err p else Expr.errs (es.drop (k + 1)) (ps.drop (k + 1)) := by
  have hk := lt_of_get h
  have hk' := lt_of_get hp
  rw [List.drop_eq_getElem_cons hk, List.drop_eq_getElem_cons hk']
  have e1 : es[k] = e := by rw [List.getElem?_eq_getElem hk] at h; exact Option.some.inj h
  have e2 : ps[k] = p := by rw [List.getElem?_eq_getElem hk'] at hp; exact Option.some.inj hp
  rw [e1, e2, Expr.errs]
  rfl
/-- few limbs in an expression -/
def Expr.fewR (e : Expr) : Prop := e.rt.few
mutual
def Expr.few : Expr → Prop
  | .mk _ _ _ num den args _ => num.length ≤ 2000000 ∧ den.length ≤ 2000000 ∧ Expr.fews args
def Expr.fews : List Expr → Prop
  | [] => True
  | e :: es => e.few ∧ Expr.fews es
end
theorem Expr.few_rt {e : Expr} (h : e.few) : e.rt.few := by cases e; exact ⟨h.1, h.2.1⟩
theorem fews_mem {es : List Expr} (h : Expr.fews es) {e : Expr} (he : e ∈ es) : e.few := by
  induction es with
  | nil => cases he
  | cons x es ih =>
    rcases List.mem_cons.1 he with rfl | he
    · exact h.1
    · exact ih h.2 he
theorem Expr.few_args {e : Expr} (h : e.few) : Expr.fews e.args := by cases e; exact h.2.2

/-- the error of an expression that must be of a sort -/
def Expr.check (e : Expr) (s : Int) : Int := if s < 1 ∨ 4 < s then 1 else if 20 < e.depth then 4 else e.err s
def Expr.emptyB (e : Expr) : Bool := decide (e.kind = 0) && decide (e.name = ⟨#[]⟩) && e.rt.none && decide (e.args.length = 0)
def stmtSort (k : Int) : Int := if k = 2 then 1 else if k = 3 then 2 else if k = 4 then 3 else if k = 5 then 4 else 0
def sortOf (k : Int) : Int := if k = 1 ∨ k = 2 then 1 else if k = 3 then 2 else if k = 4 then 3 else 0
def Stmt.err (s : Stmt) : Int :=
  if s.kind < 1 ∨ 5 < s.kind then 8
  else if (s.kind = 1 ∧ s.names.length = 0) ∨ (s.kind = 5 ∧ s.names.length ≠ 0) then 1
  else if s.kind ≠ 1 ∧ s.kind ≠ 5 ∧ s.names.length ≠ 1 then 1
  else if s.names.any (fun n => !isNameB n) = true then 6
  else if s.kind = 1 then (if s.expr.emptyB = false then 1 else 0)
  else if s.expr.kind = 1 then 8
  else s.expr.check (stmtSort s.kind)
/-- the sort of a name behind statements, 0 if they do not define it -/
def definedS : List Stmt → ByteArray → Int
  | [], _ => 0
  | s :: r, n => if hasName s.names n = true then sortOf s.kind else definedS r n
/-- the error of a use of a name of the sort q where the sort s is wanted -/
def useErr (q s : Int) : Int := if q = 0 then 6 else if (s = 0 ∧ q = 1) ∨ (s ≠ 0 ∧ q ≠ s) then 8 else 0
mutual
def Expr.uses (l : List Stmt) : Expr → Int → Int
  | .mk k n _ _ _ args _, s => if k = 1 then useErr (definedS l n) s else Expr.usess l args (findRow k).params
def Expr.usess (l : List Stmt) : List Expr → List Int → Int
  | [], _ => 0
  | e :: es, ps => if Expr.uses l e (ps.headD 0) ≠ 0 then Expr.uses l e (ps.headD 0) else Expr.usess l es ps.tail
end
theorem Expr.uses_eq (l : List Stmt) (e : Expr) (s : Int) : e.uses l s = if e.kind = 1 then useErr (definedS l e.name) s else Expr.usess l e.args (findRow e.kind).params := by cases e; rfl
theorem usess_at {l : List Stmt} {es : List Expr} {ps : List Int} {k : Nat} {e : Expr} {p : Int} (h : es[k]? = some e) (hp : ps[k]? = some p) :
    Expr.usess l (es.drop k) (ps.drop k) = if e.uses l p ≠ 0 then e.uses l p else Expr.usess l (es.drop (k + 1)) (ps.drop (k + 1)) := by
  have hk := lt_of_get h
  have hk' := lt_of_get hp
  rw [List.drop_eq_getElem_cons hk, List.drop_eq_getElem_cons hk']
  have e1 : es[k] = e := by rw [List.getElem?_eq_getElem hk] at h; exact Option.some.inj h
  have e2 : ps[k] = p := by rw [List.getElem?_eq_getElem hk'] at hp; exact Option.some.inj hp
  rw [e1, e2, Expr.usess]
  rfl
/-- a name that is defined already, or stands twice in its statement -/
def twiceB (l : List Stmt) (names : List ByteArray) (i : Nat) (n : ByteArray) : Bool := decide (definedS l n ≠ 0) || hasName (names.take i) n
def twices (l : List Stmt) (names : List ByteArray) : Nat → List ByteArray → Bool
  | _, [] => false
  | i, n :: r => twiceB l names i n || twices l names (i + 1) r
def Stmt.behind (l : List Stmt) (s : Stmt) : Int :=
  if s.err ≠ 0 then s.err
  else if s.kind ≠ 1 ∧ s.expr.uses l (stmtSort s.kind) ≠ 0 then s.expr.uses l (stmtSort s.kind)
  else if twices l s.names 0 s.names = true then 7
  else 0
/-- the first error of a program from the statement with the number i on -/
def progErr (p : List Stmt) : Nat → List Stmt → Int
  | _, [] => 0
  | i, s :: r => if s.behind (p.take i) ≠ 0 then s.behind (p.take i) else progErr p (i + 1) r
def progAt (p : List Stmt) : Nat → List Stmt → Nat
  | _, [] => 0
  | i, s :: r => if s.behind (p.take i) ≠ 0 then i else progAt p (i + 1) r
theorem progErr_at {p r : List Stmt} {k : Nat} {s : Stmt} (h : r[k]? = some s) : progErr p k (r.drop k) = if s.behind (p.take k) ≠ 0 then s.behind (p.take k) else progErr p (k + 1) (r.drop (k + 1)) := by
  have hk := lt_of_get h
  rw [List.drop_eq_getElem_cons hk]
  have : r[k] = s := by rw [List.getElem?_eq_getElem hk] at h; exact Option.some.inj h
  rw [this, progErr]
theorem progAt_at {p r : List Stmt} {k : Nat} {s : Stmt} (h : r[k]? = some s) : progAt p k (r.drop k) = if s.behind (p.take k) ≠ 0 then k else progAt p (k + 1) (r.drop (k + 1)) := by
  have hk := lt_of_get h
  rw [List.drop_eq_getElem_cons hk]
  have : r[k] = s := by rw [List.getElem?_eq_getElem hk] at h; exact Option.some.inj h
  rw [this, progAt]
end Go.Proofs.Ytmlldjcbijoheaa

/- Walk: the table of kinds. -/
namespace Go.Proofs.Ytmlldjcbijoheaa
open Go.RowKit
set_option maxRecDepth 100000 in
set_option maxHeartbeats 4000000 in
theorem rows16_raw (w : World) :
    Calls Try.prog 87 #[] w fun r w' => r = .returned (.slice (some ⟨w.heap.size + 30, 0, none⟩) 30 30) ∧ w' = tableWorld 3 107 w kindTable := by
  go_enter Try.func87, Try.ntmps87
  go_wp2
  go_ret
  refine ⟨rfl, ?_⟩
  simp only [tableWorld, kindTable, allocs, List.map, rowVals, intObj, List.length]
theorem kindTable_len : kindTable.length = 30 := rfl
theorem kindTable_ok : ∀ r ∈ kindTable, (∀ x ∈ r.params, InInt x) ∧ r.params.length ≤ maxLen := by
  have : ∀ r ∈ kindTable, (∀ x ∈ r.params, 0 ≤ x ∧ x ≤ 4) ∧ r.params.length ≤ 6 := by decide
  intro r hr
  have h := this r hr
  exact ⟨fun x hx => by have := h.1 x hx; unfold InInt; omega, by have := h.2; unfold maxLen; omega⟩
/-- the table of kinds is laid -/
theorem rows16_any (w : World) :
    Calls Try.prog 87 #[] w fun r w' => ∃ a, r = .returned (.slice (some a) 30 30) ∧ SlR 4 KRowE w' (some a) 30 kindTable ∧ Below w.heap.size w w' := by
  refine (rows16_raw w).mono ?_
  rintro r w' ⟨rfl, rfl⟩
  exact ⟨_, rfl, table_reads _ _ w kindTable (by rw [kindTable_len]; unfold maxLen; omega) kindTable_ok, table_below _ _ w kindTable⟩
end Go.Proofs.Ytmlldjcbijoheaa
