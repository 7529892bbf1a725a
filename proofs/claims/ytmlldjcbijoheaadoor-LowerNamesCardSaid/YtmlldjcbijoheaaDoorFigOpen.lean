/- Figures and lists of integers that came in, opened. -/
import Derived.Test.YtmlldjcbijoheaaDoorRatOpen
import Derived.Test.YtmlldjcbijoheaaDoorFigS
namespace Go.Proofs.YtmlldjcbijoheaaDoor
open Go.ChangeShapes Go.WideShapes Go.ChangeAt Go.RowKit

def Rt.weight (r : Rt) : Nat := r.num.length + r.den.length
def Step.weight (s : Step) : Nat := s.point.size + s.args.length + s.ratio.weight + 1
def Fct.weight (s : Fct) : Nat := s.args.length + s.ratio.weight + 1
def Fig.weight (f : Fig) : Nat := (f.steps.map Step.weight).sum + (f.goals.map Fct.weight).sum
theorem le_sum_map {α : Type} (g : α → Nat) {l : List α} {x : α} (h : x ∈ l) : g x ≤ (l.map g).sum := by
  induction l with
  | nil => cases h
  | cons y l ih =>
    simp only [List.map_cons, List.sum_cons]
    rcases List.mem_cons.1 h with rfl | h
    · omega
    · have := ih h; omega
theorem Fig.few_of {f : Fig} (h : f.weight ≤ 2000000) : f.few := by
  unfold Fig.weight at h
  refine ⟨fun s hs => ?_, fun s hs => ?_⟩
  · have h1 := le_sum_map Step.weight hs
    have h2 : s.weight = s.point.size + s.args.length + (s.ratio.num.length + s.ratio.den.length) + 1 := rfl
    constructor <;> omega
  · have h1 := le_sum_map Fct.weight hs
    have h2 : s.weight = s.args.length + (s.ratio.num.length + s.ratio.den.length) + 1 := rfl
    constructor <;> omega
theorem cellsStep : Tryd.prog.cellsOf 40 = 6 := by kernel_rfl
theorem cellsFct : Tryd.prog.cellsOf 42 = 5 := by kernel_rfl
theorem cellsFig : Tryd.prog.cellsOf 25 = 2 := by kernel_rfl
theorem cellsSteps : Tryd.prog.cellsOf 22 = 1 := by kernel_rfl
theorem cellsFcts : Tryd.prog.cellsOf 23 = 1 := by kernel_rfl

section
variable {H : Type} {enc : TypeId × Value → H} {W : World} {sp : Nat → Bool} {held : Bool}
theorem open_stepc {n : Nat} {cs : List Value} {y : DataW H × List MemPlace} (h : DataW.trod enc Tryd.prog W 0 sp held n 40 cs = some y) :
    ∃ (s : Step) (p : RA), cs = [.int .i64 s.kind, .string s.point, .slice p.aa s.args.length p.ac, .bool s.ratio.neg, .slice p.na s.ratio.num.length p.nc, .slice p.da s.ratio.den.length p.dc] ∧ PartsR W p s.args s.ratio ∧ InInt s.kind ∧ s.point.size ≤ 9223372036854775807 ∧ s.weight ≤ Rows.uptoBulk y.1 := by
  obtain ⟨xs, m, rfl, rfl, hcl, hxl, hf⟩ := DataW.trod_struct Tryd.underlying40 h
  rw [cellsStep] at hcl
  obtain ⟨c0, c1, c2, c3, c4, c5, rfl⟩ := len6 hcl
  obtain ⟨y0, y1, y2, y3, rfl⟩ := len4 (show xs.length = 4 from hxl)
  · have h0 := hf 0 _ rfl
    have h1 := hf 1 _ rfl
    have h2 := hf 2 _ rfl
    have h3 := hf 3 _ rfl
    simp [cellsI, cellsS, cellsInts, cellsRat] at h0 h1 h2 h3
    obtain ⟨kind, e0, rfl, w0⟩ := DataW.trod_int Tryd.underlying3 h0
    obtain ⟨point, e1, rfl, w1⟩ := DataW.trod_string Tryd.underlying9 h1
    obtain ⟨aa, ac, args, e2, r2, w2⟩ := open_intsl h2
    obtain ⟨neg, na, nc, num, da, dc, den, e3, r3, r4, w3⟩ := open_rat h3
    simp at e0 e1 e2 e3
    obtain ⟨rfl, rfl, rfl⟩ := e3
    subst e0 e1 e2
    refine ⟨⟨kind, point, args, ⟨neg, num, den⟩⟩, ⟨aa, ac, na, nc, da, dc⟩, rfl, ⟨r2, r3, r4⟩, inInt_of w0, w1, ?_⟩
    simp [Rows.uptoBulk, Rows.uptoBulkAll, Step.weight, Rt.weight] at w2 w3 ⊢
    have : point.data.size = point.size := rfl
    omega
theorem open_fctc {n : Nat} {cs : List Value} {y : DataW H × List MemPlace} (h : DataW.trod enc Tryd.prog W 0 sp held n 42 cs = some y) :
    ∃ (s : Fct) (p : RA), cs = [.int .i64 s.kind, .slice p.aa s.args.length p.ac, .bool s.ratio.neg, .slice p.na s.ratio.num.length p.nc, .slice p.da s.ratio.den.length p.dc] ∧ PartsR W p s.args s.ratio ∧ InInt s.kind ∧ s.weight ≤ Rows.uptoBulk y.1 := by
  obtain ⟨xs, m, rfl, rfl, hcl, hxl, hf⟩ := DataW.trod_struct Tryd.underlying42 h
  rw [cellsFct] at hcl
  obtain ⟨c0, c2, c3, c4, c5, rfl⟩ := len5 hcl
  obtain ⟨y0, y2, y3, rfl⟩ := len3 (show xs.length = 3 from hxl)
  · have h0 := hf 0 _ rfl
    have h2 := hf 1 _ rfl
    have h3 := hf 2 _ rfl
    simp [cellsI, cellsInts, cellsRat] at h0 h2 h3
    obtain ⟨kind, e0, rfl, w0⟩ := DataW.trod_int Tryd.underlying3 h0
    obtain ⟨aa, ac, args, e2, r2, w2⟩ := open_intsl h2
    obtain ⟨neg, na, nc, num, da, dc, den, e3, r3, r4, w3⟩ := open_rat h3
    simp at e0 e2 e3
    obtain ⟨rfl, rfl, rfl⟩ := e3
    subst e0 e2
    refine ⟨⟨kind, args, ⟨neg, num, den⟩⟩, ⟨aa, ac, na, nc, da, dc⟩, rfl, ⟨r2, r3, r4⟩, inInt_of w0, ?_⟩
    simp [Rows.uptoBulk, Rows.uptoBulkAll, Fct.weight, Rt.weight] at w2 w3 ⊢
    omega
theorem open_figc {n : Nat} {cs : List Value} {y : DataW H × List MemPlace} (h : DataW.trod enc Tryd.prog W 0 sp held n 25 cs = some y) :
    ∃ (f : Fig) (sa : Option Addr) (sc : Nat) (ga : Option Addr) (gc : Nat), cs = [.slice sa f.steps.length sc, .slice ga f.goals.length gc] ∧ FigR W sa sc ga gc f ∧ f.weight ≤ Rows.uptoBulk y.1 := by
  obtain ⟨xs, m, rfl, rfl, hcl, hxl, hf⟩ := DataW.trod_struct Tryd.underlying25 h
  rw [cellsFig] at hcl
  obtain ⟨c0, c1, rfl⟩ := len2 hcl
  obtain ⟨y0, y1, rfl⟩ := len2 (show xs.length = 2 from hxl)
  · have h0 := hf 0 _ rfl
    have h1 := hf 1 _ rfl
    simp [cellsSteps, cellsFcts] at h0 h1
    obtain ⟨sa, sc, steps, e0, r0, w0⟩ := open_sl Tryd.underlying22 cellsStep (by omega) h0 StepE Step.weight (fun k cs' y b o hk ht hl hc => by
      obtain ⟨s, p, rfl, hP, hi, hp, hw⟩ := open_stepc ht
      refine ⟨s, ⟨p, ⟨?_, ?_, ?_, ?_, ?_, ?_⟩, hP, hi, hp⟩, hw⟩
      · have := hc 0 (by omega); simpa using this
      · have := hc 1 (by omega); simpa using this
      · have := hc 2 (by omega); simpa using this
      · have := hc 3 (by omega); simpa using this
      · have := hc 4 (by omega); simpa using this
      · have := hc 5 (by omega); simpa using this)
    obtain ⟨ga, gc, goals, e1, r1, w1⟩ := open_sl Tryd.underlying23 cellsFct (by omega) h1 FctE Fct.weight (fun k cs' y b o hk ht hl hc => by
      obtain ⟨s, p, rfl, hP, hi, hw⟩ := open_fctc ht
      refine ⟨s, ⟨p, ⟨?_, ?_, ?_, ?_, ?_⟩, hP, hi⟩, hw⟩
      · have := hc 0 (by omega); simpa using this
      · have := hc 1 (by omega); simpa using this
      · have := hc 2 (by omega); simpa using this
      · have := hc 3 (by omega); simpa using this
      · have := hc 4 (by omega); simpa using this)
    simp at e0 e1
    subst e0 e1
    refine ⟨⟨steps, goals⟩, sa, sc, ga, gc, rfl, ⟨r0, r1⟩, ?_⟩
    simp [Rows.uptoBulk, Rows.uptoBulkAll, Fig.weight] at w0 w1 ⊢
    omega
set_option maxRecDepth 100000 in
/-- A FIGURE THAT CAME IN -/
theorem open_figure {r : Reach} {b0 : Nat} {v : Value} {d : DataW H} {p : List MemPlace} (hv : Value.okWide Tryd.prog W r b0 25 v) (h : DataW.Trod enc Tryd.prog W 0 sp held 25 v d p) :
    ∃ (f : Fig) (sa : Option Addr) (sc : Nat) (ga : Option Addr) (gc : Nat), v = f.val sa sc ga gc ∧ FigR W sa sc ga gc f ∧ f.weight ≤ Rows.uptoBulk d := by
  obtain ⟨cs, rfl, _⟩ := okWide_struct Tryd.underlying25 hv
  obtain ⟨n, hn⟩ := h
  obtain ⟨f, sa, sc, ga, gc, h1, h2, h3⟩ := open_figc hn
  refine ⟨f, sa, sc, ga, gc, ?_, h2, h3⟩
  obtain ⟨l⟩ := cs
  simp [Value.cells] at h1
  simp [Fig.val, h1]
set_option maxRecDepth 100000 in
/-- INTEGERS THAT CAME IN -/
theorem open_intsa {r : Reach} {b0 : Nat} {v : Value} {d : DataW H} {p : List MemPlace} (hv : Value.okWide Tryd.prog W r b0 32 v) (h : DataW.Trod enc Tryd.prog W 0 sp held 32 v d p) :
    ∃ (l : List Int) (a : Option Addr) (c : Nat), v = .slice a l.length c ∧ IntsR W a c l ∧ l.length + 1 ≤ Rows.uptoBulk d := by
  obtain ⟨n, hn⟩ := h
  obtain ⟨a, c, zs, h1, h2, h3⟩ := open_intsl hn
  obtain ⟨a', l', c', rfl⟩ := okWide_slice Tryd.underlying32 hv
  refine ⟨zs, a, c, ?_, h2, h3⟩
  simpa [Value.cells] using h1
end
end Go.Proofs.YtmlldjcbijoheaaDoor

