/- The plain law of LowerSmaller, joined. No walk. -/
import Derived.Test.YtgbnadckhjfebaaRRLs17
import Derived.Test.YtgbnadckhjfebaaRRLs4
import Derived.Test.YtgbnadckhjfebaaRRLs5

/- Rational numbers that came in, opened. -/
namespace Go.Proofs.YtgbnadckhjfebaaRR
open Go.ChangeShapes Go.WideShapes Go.ChangeAt Go.RowKit

theorem cellsRat : Try.prog.cellsOf 37 = 3 := by kernel_rfl
theorem cellsInt : Try.prog.cellsOf 35 = 2 := by kernel_rfl
theorem cellsNat : Try.prog.cellsOf 33 = 1 := by kernel_rfl
theorem cellsInts : Try.prog.cellsOf 30 = 1 := by kernel_rfl
theorem cellsI : Try.prog.cellsOf 3 = 1 := by kernel_rfl
theorem cellsB : Try.prog.cellsOf 4 = 1 := by kernel_rfl
theorem cellsS : Try.prog.cellsOf 9 = 1 := by kernel_rfl
theorem cellsU16 : Try.prog.cellsOf 68 = 1 := by kernel_rfl

theorem list_sum_ones {α : Type} (l : List α) : (l.map fun _ => 1).sum = l.length := by induction l with
  | nil => rfl
  | cons x l ih => simp only [List.map_cons, List.sum_cons, ih, List.length_cons]; omega

section
variable {H : Type} {enc : TypeId × Value → H} {W : World} {sp : Nat → Bool} {held : Bool} {n : Nat}
theorem open_nat {cs : List Value} {y : DataW H × List MemPlace} (h : DataW.trod enc Try.prog W 0 sp held n 33 cs = some y) :
    ∃ a c zs, cs = [.slice a (List.length zs) c] ∧ NatR W a c zs ∧ zs.length + 1 ≤ Rows.uptoBulk y.1 := by
  obtain ⟨a, c, zs, h1, h2, h3⟩ := open_sl Try.underlying33 cellsU16 (by omega) h (IntE .u16) (fun _ => 1) (fun m cs' y b o _ ht _ hc => conv_int Try.underlying68 m cs' y b o ht hc)
  rw [list_sum_ones] at h3
  exact ⟨a, c, zs, h1, h2, h3⟩
theorem open_intsl {cs : List Value} {y : DataW H × List MemPlace} (h : DataW.trod enc Try.prog W 0 sp held n 30 cs = some y) :
    ∃ a c zs, cs = [.slice a (List.length zs) c] ∧ IntsR W a c zs ∧ zs.length + 1 ≤ Rows.uptoBulk y.1 := by
  obtain ⟨a, c, zs, h1, h2, h3⟩ := open_sl Try.underlying30 cellsI (by omega) h (IntE .i64) (fun _ => 1) (fun m cs' y b o _ ht _ hc => conv_int Try.underlying3 m cs' y b o ht hc)
  rw [list_sum_ones] at h3
  exact ⟨a, c, zs, h1, h2, h3⟩
theorem open_strsl {cs : List Value} {y : DataW H × List MemPlace} (h : DataW.trod enc Try.prog W 0 sp held n 65 cs = some y) :
    ∃ a c zs, cs = [.slice a (List.length zs) c] ∧ StrsR W a c zs ∧ (zs.map fun s => s.size + 1).sum + 1 ≤ Rows.uptoBulk y.1 :=
  open_sl Try.underlying65 cellsS (by omega) h StrE (fun s => s.size + 1) (fun m cs' y b o _ ht _ hc => conv_str Try.underlying9 m cs' y b o ht hc)
theorem open_intst {cs : List Value} {y : DataW H × List MemPlace} (h : DataW.trod enc Try.prog W 0 sp held n 35 cs = some y) :
    ∃ b a c zs, cs = [.bool b, .slice a (List.length zs) c] ∧ NatR W a c zs ∧ zs.length + 2 ≤ Rows.uptoBulk y.1 := by
  obtain ⟨xs, m, rfl, rfl, hcl, hxl, hf⟩ := DataW.trod_struct Try.underlying35 h
  rw [cellsInt] at hcl
  obtain ⟨c0, c1, rfl⟩ := len2 hcl
  obtain ⟨y0, y1, rfl⟩ := len2 (show xs.length = 2 from hxl)
  · have h0 := hf 0 _ rfl
    have h1 := hf 1 _ rfl
    simp [cellsB, cellsNat] at h0 h1
    obtain ⟨b, e0, rfl⟩ := DataW.trod_bool Try.underlying4 h0
    obtain ⟨a, c, zs, e1, h2, h3⟩ := open_nat h1
    simp at e0 e1; subst e0; subst e1
    refine ⟨b, a, c, zs, rfl, h2, ?_⟩
    simp [Rows.uptoBulk, Rows.uptoBulkAll] at h3 ⊢
    omega
theorem open_rat {cs : List Value} {y : DataW H × List MemPlace} (h : DataW.trod enc Try.prog W 0 sp held n 37 cs = some y) :
    ∃ b na nc num da dc den, cs = [.bool b, .slice na (List.length num) nc, .slice da (List.length den) dc] ∧ NatR W na nc num ∧ NatR W da dc den ∧ num.length + den.length + 2 ≤ Rows.uptoBulk y.1 := by
  obtain ⟨xs, m, rfl, rfl, hcl, hxl, hf⟩ := DataW.trod_struct Try.underlying37 h
  rw [cellsRat] at hcl
  obtain ⟨c0, c1, c2, rfl⟩ := len3 hcl
  obtain ⟨y0, y1, rfl⟩ := len2 (show xs.length = 2 from hxl)
  · have h0 := hf 0 _ rfl
    have h1 := hf 1 _ rfl
    simp [cellsInt, cellsNat] at h0 h1
    obtain ⟨b, na, nc, num, e0, h2, h3⟩ := open_intst h0
    obtain ⟨da, dc, den, e1, h4, h5⟩ := open_nat h1
    simp at e0 e1
    obtain ⟨rfl, rfl⟩ := e0
    subst e1
    refine ⟨b, na, nc, num, da, dc, den, rfl, h2, h4, ?_⟩
    simp [Rows.uptoBulk, Rows.uptoBulkAll] at h3 h5 ⊢
    omega
end
end Go.Proofs.YtgbnadckhjfebaaRR

/- Figures and lists of integers that came in, opened. -/
namespace Go.Proofs.YtgbnadckhjfebaaRR
open Go.ChangeShapes Go.WideShapes Go.ChangeAt Go.RowKit

def Rt.weight (r : Rt) : Nat := r.num.length + r.den.length
def Step.weight (s : Step) : Nat := s.point.size + s.args.length + s.ratio.weight + 1
def Fct.weight (s : Fct) : Nat := s.args.length + s.ratio.weight + 1
def Fig.weight (f : Fig) : Nat := (f.steps.map Step.weight).sum + (f.goals.map Fct.weight).sum
theorem le_sum_map {α : Type} (g : α → Nat) {l : List α} {x : α} (h : x ∈ l) : g x ≤ (l.map g).sum := by
  induction l with
  | nil => cases h
  | cons y l ih =>
    simp only [List.map_cons, List.sum_cons]
    rcases List.mem_cons.1 h with rfl | h
    · omega
    · have := ih h; omega
theorem Fig.few_of {f : Fig} (h : f.weight ≤ 2000000) : f.few := by
  unfold Fig.weight at h
  refine ⟨fun s hs => ?_, fun s hs => ?_⟩
  · have h1 := le_sum_map Step.weight hs
    have h2 : s.weight = s.point.size + s.args.length + (s.ratio.num.length + s.ratio.den.length) + 1 := rfl
    constructor <;> omega
  · have h1 := le_sum_map Fct.weight hs
    have h2 : s.weight = s.args.length + (s.ratio.num.length + s.ratio.den.length) + 1 := rfl
    constructor <;> omega
theorem cellsStep : Try.prog.cellsOf 47 = 6 := by kernel_rfl
theorem cellsFct : Try.prog.cellsOf 39 = 5 := by kernel_rfl
theorem cellsFig : Try.prog.cellsOf 25 = 2 := by kernel_rfl
theorem cellsSteps : Try.prog.cellsOf 22 = 1 := by kernel_rfl
theorem cellsFcts : Try.prog.cellsOf 23 = 1 := by kernel_rfl

section
variable {H : Type} {enc : TypeId × Value → H} {W : World} {sp : Nat → Bool} {held : Bool}
theorem open_stepc {n : Nat} {cs : List Value} {y : DataW H × List MemPlace} (h : DataW.trod enc Try.prog W 0 sp held n 47 cs = some y) :
    ∃ (s : Step) (p : RA), cs = [.int .i64 s.kind, .string s.point, .slice p.aa s.args.length p.ac, .bool s.ratio.neg, .slice p.na s.ratio.num.length p.nc, .slice p.da s.ratio.den.length p.dc] ∧ PartsR W p s.args s.ratio ∧ InInt s.kind ∧ s.point.size ≤ 9223372036854775807 ∧ s.weight ≤ Rows.uptoBulk y.1 := by
  obtain ⟨xs, m, rfl, rfl, hcl, hxl, hf⟩ := DataW.trod_struct Try.underlying47 h
  rw [cellsStep] at hcl
  obtain ⟨c0, c1, c2, c3, c4, c5, rfl⟩ := len6 hcl
  obtain ⟨y0, y1, y2, y3, rfl⟩ := len4 (show xs.length = 4 from hxl)
  · have h0 := hf 0 _ rfl
    have h1 := hf 1 _ rfl
    have h2 := hf 2 _ rfl
    have h3 := hf 3 _ rfl
    simp [cellsI, cellsS, cellsInts, cellsRat] at h0 h1 h2 h3
    obtain ⟨kind, e0, rfl, w0⟩ := DataW.trod_int Try.underlying3 h0
    obtain ⟨point, e1, rfl, w1⟩ := DataW.trod_string Try.underlying9 h1
    obtain ⟨aa, ac, args, e2, r2, w2⟩ := open_intsl h2
    obtain ⟨neg, na, nc, num, da, dc, den, e3, r3, r4, w3⟩ := open_rat h3
    simp at e0 e1 e2 e3
    obtain ⟨rfl, rfl, rfl⟩ := e3
    subst e0 e1 e2
    refine ⟨⟨kind, point, args, ⟨neg, num, den⟩⟩, ⟨aa, ac, na, nc, da, dc⟩, rfl, ⟨r2, r3, r4⟩, inInt_of w0, w1, ?_⟩
    simp [Rows.uptoBulk, Rows.uptoBulkAll, Step.weight, Rt.weight] at w2 w3 ⊢
    have : point.data.size = point.size := rfl
    omega
theorem open_fctc {n : Nat} {cs : List Value} {y : DataW H × List MemPlace} (h : DataW.trod enc Try.prog W 0 sp held n 39 cs = some y) :
    ∃ (s : Fct) (p : RA), cs = [.int .i64 s.kind, .slice p.aa s.args.length p.ac, .bool s.ratio.neg, .slice p.na s.ratio.num.length p.nc, .slice p.da s.ratio.den.length p.dc] ∧ PartsR W p s.args s.ratio ∧ InInt s.kind ∧ s.weight ≤ Rows.uptoBulk y.1 := by
  obtain ⟨xs, m, rfl, rfl, hcl, hxl, hf⟩ := DataW.trod_struct Try.underlying39 h
  rw [cellsFct] at hcl
  obtain ⟨c0, c2, c3, c4, c5, rfl⟩ := len5 hcl
  obtain ⟨y0, y2, y3, rfl⟩ := len3 (show xs.length = 3 from hxl)
  · have h0 := hf 0 _ rfl
    have h2 := hf 1 _ rfl
    have h3 := hf 2 _ rfl
    simp [cellsI, cellsInts, cellsRat] at h0 h2 h3
    obtain ⟨kind, e0, rfl, w0⟩ := DataW.trod_int Try.underlying3 h0
    obtain ⟨aa, ac, args, e2, r2, w2⟩ := open_intsl h2
    obtain ⟨neg, na, nc, num, da, dc, den, e3, r3, r4, w3⟩ := open_rat h3
    simp at e0 e2 e3
    obtain ⟨rfl, rfl, rfl⟩ := e3
    subst e0 e2
    refine ⟨⟨kind, args, ⟨neg, num, den⟩⟩, ⟨aa, ac, na, nc, da, dc⟩, rfl, ⟨r2, r3, r4⟩, inInt_of w0, ?_⟩
    simp [Rows.uptoBulk, Rows.uptoBulkAll, Fct.weight, Rt.weight] at w2 w3 ⊢
    omega
theorem open_figc {n : Nat} {cs : List Value} {y : DataW H × List MemPlace} (h : DataW.trod enc Try.prog W 0 sp held n 25 cs = some y) :
    ∃ (f : Fig) (sa : Option Addr) (sc : Nat) (ga : Option Addr) (gc : Nat), cs = [.slice sa f.steps.length sc, .slice ga f.goals.length gc] ∧ FigR W sa sc ga gc f ∧ f.weight ≤ Rows.uptoBulk y.1 := by
  obtain ⟨xs, m, rfl, rfl, hcl, hxl, hf⟩ := DataW.trod_struct Try.underlying25 h
  rw [cellsFig] at hcl
  obtain ⟨c0, c1, rfl⟩ := len2 hcl
  obtain ⟨y0, y1, rfl⟩ := len2 (show xs.length = 2 from hxl)
  · have h0 := hf 0 _ rfl
    have h1 := hf 1 _ rfl
    simp [cellsSteps, cellsFcts] at h0 h1
    obtain ⟨sa, sc, steps, e0, r0, w0⟩ := open_sl Try.underlying22 cellsStep (by omega) h0 StepE Step.weight (fun k cs' y b o hk ht hl hc => by
      obtain ⟨s, p, rfl, hP, hi, hp, hw⟩ := open_stepc ht
      refine ⟨s, ⟨p, ⟨?_, ?_, ?_, ?_, ?_, ?_⟩, hP, hi, hp⟩, hw⟩
      · have := hc 0 (by omega); simpa using this
      · have := hc 1 (by omega); simpa using this
      · have := hc 2 (by omega); simpa using this
      · have := hc 3 (by omega); simpa using this
      · have := hc 4 (by omega); simpa using this
      · have := hc 5 (by omega); simpa using this)
    obtain ⟨ga, gc, goals, e1, r1, w1⟩ := open_sl Try.underlying23 cellsFct (by omega) h1 FctE Fct.weight (fun k cs' y b o hk ht hl hc => by
      obtain ⟨s, p, rfl, hP, hi, hw⟩ := open_fctc ht
      refine ⟨s, ⟨p, ⟨?_, ?_, ?_, ?_, ?_⟩, hP, hi⟩, hw⟩
      · have := hc 0 (by omega); simpa using this
      · have := hc 1 (by omega); simpa using this
      · have := hc 2 (by omega); simpa using this
      · have := hc 3 (by omega); simpa using this
      · have := hc 4 (by omega); simpa using this)
    simp at e0 e1
    subst e0 e1
    refine ⟨⟨steps, goals⟩, sa, sc, ga, gc, rfl, ⟨r0, r1⟩, ?_⟩
    simp [Rows.uptoBulk, Rows.uptoBulkAll, Fig.weight] at w0 w1 ⊢
    omega
set_option maxRecDepth 100000 in
/-- A FIGURE THAT CAME IN -/
theorem open_figure {r : Reach} {b0 : Nat} {v : Value} {d : DataW H} {p : List MemPlace} (hv : Value.okWide Try.prog W r b0 25 v) (h : DataW.Trod enc Try.prog W 0 sp held 25 v d p) :
    ∃ (f : Fig) (sa : Option Addr) (sc : Nat) (ga : Option Addr) (gc : Nat), v = f.val sa sc ga gc ∧ FigR W sa sc ga gc f ∧ f.weight ≤ Rows.uptoBulk d := by
  obtain ⟨cs, rfl, _⟩ := okWide_struct Try.underlying25 hv
  obtain ⟨n, hn⟩ := h
  obtain ⟨f, sa, sc, ga, gc, h1, h2, h3⟩ := open_figc hn
  refine ⟨f, sa, sc, ga, gc, ?_, h2, h3⟩
  obtain ⟨l⟩ := cs
  simp [Value.cells] at h1
  simp [Fig.val, h1]
set_option maxRecDepth 100000 in
/-- INTEGERS THAT CAME IN -/
theorem open_intsa {r : Reach} {b0 : Nat} {v : Value} {d : DataW H} {p : List MemPlace} (hv : Value.okWide Try.prog W r b0 30 v) (h : DataW.Trod enc Try.prog W 0 sp held 30 v d p) :
    ∃ (l : List Int) (a : Option Addr) (c : Nat), v = .slice a l.length c ∧ IntsR W a c l ∧ l.length + 1 ≤ Rows.uptoBulk d := by
  obtain ⟨n, hn⟩ := h
  obtain ⟨a, c, zs, h1, h2, h3⟩ := open_intsl hn
  obtain ⟨a', l', c', rfl⟩ := okWide_slice Try.underlying30 hv
  refine ⟨zs, a, c, ?_, h2, h3⟩
  simpa [Value.cells] using h1
end
end Go.Proofs.YtgbnadckhjfebaaRR

/- The plain law of LowerSmaller: a pruned figure is right, needs all of its points, and stays as it is. No walk. -/
namespace Go.Proofs.YtgbnadckhjfebaaRR
open Go.RowKit

theorem getD_set_true (l : List Bool) (i k : Nat) (hi : i < l.length) : (l.set i true).getD k false = true ↔ k = i ∨ l.getD k false = true := by
  rw [List.getD_eq_getElem?_getD, List.getD_eq_getElem?_getD, List.getElem?_set]
  by_cases h : i = k
  · subst h; simp [hi]
  · rw [if_neg h]
    constructor
    · intro e; exact .inr e
    · rintro (e | e)
      · exact absurd e.symm h
      · exact e
theorem markArgs_iff (i : Nat) : ∀ (qs : List Int) (l : List Bool), (∀ a ∈ qs, 0 ≤ a ∧ a.toNat < l.length) → ((markArgs l qs).getD i false = true ↔ l.getD i false = true ∨ (i : Int) ∈ qs)
  | [], l, _ => by simp [markArgs]
  | a :: qs, l, h => by
    have ha := h a (by simp)
    have ih := markArgs_iff i qs (l.set a.toNat true) (fun b hb => by simpa using h b (by simp [hb]))
    have e : markArgs l (a :: qs) = markArgs (l.set a.toNat true) qs := rfl
    rw [e, ih, getD_set_true _ _ _ ha.2, List.mem_cons]
    have h1 : i = a.toNat ↔ (i : Int) = a := by omega
    rw [h1]
    constructor
    · rintro ((h | h) | h)
      · exact .inr (.inl h)
      · exact .inl h
      · exact .inr (.inr h)
    · rintro (h | h | h)
      · exact .inl (.inr h)
      · exact .inl (.inl h)
      · exact .inr h
theorem mark0_iff (i : Nat) : ∀ (ps : List Int) (l : List Bool), (mark0 l ps).getD i false = true ↔ l.getD i false = true ∨ (i < l.length ∧ (i : Int) ∈ ps)
  | [], l => by simp [mark0]
  | p :: ps, l => by
    have e : mark0 l (p :: ps) = mark0 (if 0 ≤ p ∧ p < (l.length : Int) then l.set p.toNat true else l) ps := rfl
    rw [e, mark0_iff i ps]
    by_cases hp : 0 ≤ p ∧ p < (l.length : Int)
    · rw [if_pos hp, getD_set_true _ _ _ (by omega), List.length_set, List.mem_cons]
      have h1 : i = p.toNat ↔ (i : Int) = p := by omega
      rw [h1]
      constructor
      · rintro ((h | h) | h)
        · exact .inr ⟨by omega, .inl h⟩
        · exact .inl h
        · exact .inr ⟨h.1, .inr h.2⟩
      · rintro (h | ⟨h0, h | h⟩)
        · exact .inl (.inr h)
        · exact .inl (.inl h)
        · exact .inr ⟨h0, h⟩
    · rw [if_neg hp, List.mem_cons]
      constructor
      · rintro (h | h)
        · exact .inl h
        · exact .inr ⟨h.1, .inr h.2⟩
      · rintro (h | ⟨h0, h | h⟩)
        · exact .inl h
        · omega
        · exact .inr ⟨h0, h⟩

/-- each step's arguments lie before it -/
def Back (steps : List Step) : Prop := ∀ (k : Nat) (s : Step), steps[k]? = some s → ∀ a ∈ s.args, 0 ≤ a ∧ a < (k : Int)
section
variable {steps : List Step}
theorem markStep_far (hok : Back steps) (k i : Nat) (l : List Bool) (hi : k ≤ i) (_ : l.length = steps.length) : (markStep steps k l).getD i false = l.getD i false := by
  unfold markStep
  split
  · rw [List.getD_eq_getElem?_getD, List.getD_eq_getElem?_getD, markArgs_far]
    intro a ha
    cases hs : steps[k]? with
    | none => rw [hs] at ha; simp at ha
    | some s => rw [hs] at ha; have := hok k s hs a (by simpa using ha); omega
  · rfl
theorem markDown_far (hok : Back steps) (i : Nat) : ∀ (k : Nat) (l : List Bool), k ≤ i → l.length = steps.length → (markDown steps k l).getD i false = l.getD i false
  | 0, _, _, _ => rfl
  | k + 1, l, h, hl => by
    rw [markDown, markDown_far hok i k _ (by omega) (by rw [markStep_len, hl]), markStep_far hok k i l (by omega) hl]
theorem markStep_iff (hok : Back steps) (k i : Nat) (l : List Bool) (hl : l.length = steps.length) : (markStep steps k l).getD i false = true ↔ l.getD i false = true ∨ (l.getD k false = true ∧ ∃ s, steps[k]? = some s ∧ (i : Int) ∈ s.args) := by
  unfold markStep
  by_cases hm : l.getD k false = true
  · rw [if_pos hm]
    cases hs : steps[k]? with
    | none => simp [markArgs]
    | some s =>
      have hk := lt_of_get hs
      have e : (((some s).map Step.args).getD []) = s.args := rfl
      rw [e, markArgs_iff i s.args l (fun a ha => by have := hok k s hs a ha; omega)]
      constructor
      · rintro (h | h)
        · exact .inl h
        · exact .inr ⟨hm, s, rfl, h⟩
      · rintro (h | ⟨_, t, ht, h⟩)
        · exact .inl h
        · injection ht with ht; subst ht; exact .inr h
  · rw [if_neg hm]
    constructor
    · intro h; exact .inl h
    · rintro (h | ⟨h, _⟩)
      · exact h
      · exact absurd h hm
theorem markDown_iff (hok : Back steps) (i : Nat) : ∀ (k : Nat) (l : List Bool), l.length = steps.length →
    ((markDown steps k l).getD i false = true ↔ l.getD i false = true ∨ ∃ j s, j < k ∧ steps[j]? = some s ∧ (markDown steps k l).getD j false = true ∧ (i : Int) ∈ s.args)
  | 0, l, _ => by simp [markDown]
  | k + 1, l, hl => by
    have hl2 : (markStep steps k l).length = steps.length := by rw [markStep_len, hl]
    rw [markDown, markDown_iff hok i k _ hl2, markStep_iff hok k i l hl]
    have hkk : (markDown steps k (markStep steps k l)).getD k false = l.getD k false := by
      rw [markDown_far hok k k _ (Nat.le_refl _) hl2, markStep_far hok k k l (Nat.le_refl _) hl]
    constructor
    · rintro ((h | ⟨h1, s, h2, h3⟩) | ⟨j, s, h1, h2, h3, h4⟩)
      · exact .inl h
      · exact .inr ⟨k, s, by omega, h2, by rw [hkk]; exact h1, h3⟩
      · exact .inr ⟨j, s, by omega, h2, h3, h4⟩
    · rintro (h | ⟨j, s, h1, h2, h3, h4⟩)
      · exact .inl (.inl h)
      · by_cases hj : j = k
        · subst hj
          rw [hkk] at h3
          exact .inl (.inr ⟨h3, s, h2, h4⟩)
        · exact .inr ⟨j, s, by omega, h2, h3, h4⟩
/-- what is marked: what is asked for, and the arguments of what is marked -/
theorem marked_iff (hok : Back steps) (ps : List Int) (i : Nat) :
    (marked steps ps).getD i false = true ↔ (i < steps.length ∧ (i : Int) ∈ ps) ∨ ∃ j s, steps[j]? = some s ∧ (marked steps ps).getD j false = true ∧ (i : Int) ∈ s.args := by
  unfold marked
  rw [markDown_iff hok i _ _ (by rw [mark0_len]; simp), mark0_iff]
  have e : (List.replicate steps.length false).getD i false = false := by
    rw [List.getD_eq_getElem?_getD, List.getElem?_replicate]; split <;> rfl
  rw [e, List.length_replicate]
  constructor
  · rintro ((h | h) | ⟨j, s, h1, h2, h3, h4⟩)
    · cases h
    · exact .inl h
    · exact .inr ⟨j, s, h2, h3, h4⟩
  · rintro (h | ⟨j, s, h2, h3, h4⟩)
    · exact .inl (.inr h)
    · exact .inr ⟨j, s, lt_of_get h2, h2, h3, h4⟩
end
theorem mem_trues {l : List Bool} {x : Int} : ∀ {n : Nat}, x ∈ trues l n ↔ ∃ k, k < n ∧ x = (k : Int) ∧ l.getD k false = true
  | 0 => by simp [trues]
  | n + 1 => by
    rw [trues, List.mem_append, mem_trues (n := n)]
    constructor
    · rintro (⟨k, h1, h2, h3⟩ | h)
      · exact ⟨k, by omega, h2, h3⟩
      · split at h
        · rename_i hb
          exact ⟨n, by omega, by simpa using h, hb⟩
        · cases h
    · rintro ⟨k, h1, h2, h3⟩
      by_cases hk : k = n
      · subst hk
        right
        rw [if_pos h3]
        simpa using h2
      · exact .inl ⟨k, by omega, h2, h3⟩
theorem trues_sorted (l : List Bool) : ∀ n : Nat, (trues l n).Pairwise (· < ·)
  | 0 => List.Pairwise.nil
  | n + 1 => by
    rw [trues, List.pairwise_append]
    refine ⟨trues_sorted l n, ?_, fun a ha b hb => ?_⟩
    · split
      · exact List.pairwise_singleton _ _
      · exact List.Pairwise.nil
    · split at hb
      · have h1 := trues_in l n a ha
        have h2 : b = (n : Int) := by simpa using hb
        omega
      · cases hb
theorem trues_all {l : List Bool} : ∀ {n : Nat}, (∀ k, k < n → l.getD k false = true) → trues l n = (List.range n).map (fun k : Nat => (k : Int))
  | 0, _ => rfl
  | n + 1, h => by
    rw [trues, trues_all (n := n) (fun k hk => h k (by omega)), if_pos (h n (by omega)), List.range_succ, List.map_append]
    rfl
theorem placeFrom_eq {n : Int} : ∀ {l : List Int} {i k : Nat}, l[k]? = some n → (∀ j x, j < k → l[j]? = some x → x ≠ n) → placeFrom n i l = ((i + k : Nat) : Int)
  | [], _, _, h, _ => by simp at h
  | x :: l, i, 0, h, _ => by
    have : x = n := by simpa using h
    rw [placeFrom, if_pos this]; simp
  | x :: l, i, k + 1, h, hn => by
    have hx := hn 0 x (by omega) rfl
    rw [placeFrom, if_neg hx, placeFrom_eq (l := l) (i := i + 1) (k := k) (by simpa using h) (fun j y hj hy => hn (j + 1) y (by omega) (by simpa using hy))]
    congr 1; omega
theorem sorted_lt {l : List Int} (h : l.Pairwise (· < ·)) {i j : Nat} {x y : Int} (hi : l[i]? = some x) (hj : l[j]? = some y) (hij : i < j) : x < y := by
  have h1 := lt_of_get hi
  have h2 := lt_of_get hj
  rw [List.pairwise_iff_getElem] at h
  have := h i j h1 h2 hij
  rw [List.getElem?_eq_getElem h1] at hi
  rw [List.getElem?_eq_getElem h2] at hj
  injection hi with hi
  injection hj with hj
  rw [hi, hj] at this
  exact this
theorem place_eq {l : List Int} (h : l.Pairwise (· < ·)) {k : Nat} {x : Int} (hx : l[k]? = some x) : place l x = (k : Int) := by
  unfold place
  rw [placeFrom_eq hx (fun j y hj hy e => by have := sorted_lt h hy hx hj; omega)]
  simp
theorem idx_lt {l : List Int} (h : l.Pairwise (· < ·)) {i j : Nat} {x y : Int} (hi : l[i]? = some x) (hj : l[j]? = some y) (hxy : x < y) : i < j := by
  apply Nat.lt_of_not_le
  intro hc
  by_cases e : i = j
  · subst e; rw [hi] at hj; injection hj with hj; omega
  · have := sorted_lt h hj hi (by omega); omega
theorem prunedSteps_cons {steps : List Step} {L m : List Int} {i : Int} {s : Step} (hs : steps[i.toNat]? = some s) : prunedSteps steps L (i :: m) = s.with (placed L s.args) :: prunedSteps steps L m := by
  simp [prunedSteps, hs]
theorem prunedSteps_get {steps : List Step} {L : List Int} : ∀ {m : List Int}, (∀ i ∈ m, ∃ s, steps[i.toNat]? = some s) →
    (prunedSteps steps L m).length = m.length ∧ ∀ (k : Nat) (i : Int) (s : Step), m[k]? = some i → steps[i.toNat]? = some s → (prunedSteps steps L m)[k]? = some (s.with (placed L s.args))
  | [], _ => ⟨rfl, fun k i s h => by simp at h⟩
  | i :: m, h => by
    obtain ⟨s, hs⟩ := h i (by simp)
    obtain ⟨ih1, ih2⟩ := prunedSteps_get (steps := steps) (L := L) (m := m) (fun j hj => h j (by simp [hj]))
    rw [prunedSteps_cons hs]
    refine ⟨by simp [ih1], fun k j t hk ht => ?_⟩
    cases k with
    | zero =>
      have : i = j := by simpa using hk
      subst this
      rw [hs] at ht
      injection ht with ht
      subst ht
      rfl
    | succ k => simpa using ih2 k j t (by simpa using hk) ht
end Go.Proofs.YtgbnadckhjfebaaRR

/- The plain law of LowerSmaller, joined. No walk. -/
namespace Go.Proofs.YtgbnadckhjfebaaRR
open Go.RowKit

theorem errSteps_zero {l : List Step} : ∀ {r : List Step} {i : Nat}, (∀ (k : Nat) (s : Step), r[k]? = some s → errStep l s (i + k) = 0) → errSteps l r i = 0
  | [], _, _ => rfl
  | s :: r, i, h => by
    have h0 := h 0 s rfl
    rw [Nat.add_zero] at h0
    rw [errSteps, if_neg (by simp [h0])]
    exact errSteps_zero fun k t ht => by
      have := h (k + 1) t (by simpa using ht)
      rwa [show i + (k + 1) = i + 1 + k by omega] at this
theorem errStep_iff {l : List Step} {s : Step} {i : Nat} : errStep l s i = 0 ↔ ¬ arity20 s.kind < 0 ∧ (s.args.length : Int) = arity20 s.kind ∧ ¬ s.args.any (badArg i) = true ∧ ¬ (s.kind = 2 ∧ s.ratio.right = false) ∧ ¬ (s.kind ≠ 2 ∧ s.ratio.none = false) ∧
    (s.point = ⟨#[]⟩ ∨ (¬ isNameB s.point = false ∧ ¬ (l.take i).any (fun t => decide (t.point = s.point)) = true)) := by
  unfold errStep
  by_cases h1 : arity20 s.kind < 0
  · rw [if_pos h1]; simp [h1]
  rw [if_neg h1]
  by_cases h2 : (s.args.length : Int) = arity20 s.kind
  · rw [if_neg (by simp [h2])]
    by_cases h3 : s.args.any (badArg i) = true
    · rw [if_pos h3]
      exact ⟨fun h => by omega, fun h => absurd h3 h.2.2.1⟩
    rw [if_neg h3]
    by_cases h4 : s.kind = 2 ∧ s.ratio.right = false
    · rw [if_pos h4]
      exact ⟨fun h => by omega, fun h => absurd h4 h.2.2.2.1⟩
    rw [if_neg h4]
    by_cases h5 : s.kind ≠ 2 ∧ s.ratio.none = false
    · rw [if_pos h5]
      exact ⟨fun h => by omega, fun h => absurd h5 h.2.2.2.2.1⟩
    rw [if_neg h5]
    by_cases h6 : s.point = ⟨#[]⟩
    · rw [if_pos h6]
      exact ⟨fun _ => ⟨h1, h2, h3, h4, h5, .inl h6⟩, fun _ => rfl⟩
    rw [if_neg h6]
    by_cases h7 : isNameB s.point = false
    · rw [if_pos h7]
      refine ⟨fun h => by omega, fun h => ?_⟩
      rcases h.2.2.2.2.2 with h | h
      · exact absurd h h6
      · exact absurd h7 h.1
    rw [if_neg h7]
    by_cases h8 : (l.take i).any (fun t => decide (t.point = s.point)) = true
    · rw [if_pos h8]
      refine ⟨fun h => by omega, fun h => ?_⟩
      rcases h.2.2.2.2.2 with h | h
      · exact absurd h h6
      · exact absurd h8 h.2
    rw [if_neg h8]
    exact ⟨fun _ => ⟨h1, h2, h3, h4, h5, .inr ⟨h7, h8⟩⟩, fun _ => rfl⟩
  · rw [if_pos h2]
    exact ⟨fun h => by omega, fun h => absurd h.2.1 h2⟩
theorem errFct_iff {f : Fct} {n : Int} : errFct f n = 0 ↔ ¬ arity14 f.kind = 0 ∧ (f.args.length : Int) = arity14 f.kind ∧ ¬ f.args.any (badArg n) = true ∧ ¬ (f.kind = 9 ∧ f.ratio.right = false) ∧ ¬ (f.kind ≠ 9 ∧ f.ratio.none = false) := by
  unfold errFct
  by_cases h1 : arity14 f.kind = 0
  · rw [if_pos h1]; simp [h1]
  rw [if_neg h1]
  by_cases h2 : (f.args.length : Int) = arity14 f.kind
  · rw [if_neg (by simp [h2])]
    by_cases h3 : f.args.any (badArg n) = true
    · rw [if_pos h3]
      exact ⟨fun h => by omega, fun h => absurd h3 h.2.2.1⟩
    rw [if_neg h3]
    by_cases h4 : f.kind = 9 ∧ f.ratio.right = false
    · rw [if_pos h4]
      exact ⟨fun h => by omega, fun h => absurd h4 h.2.2.2.1⟩
    rw [if_neg h4]
    by_cases h5 : f.kind ≠ 9 ∧ f.ratio.none = false
    · rw [if_pos h5]
      exact ⟨fun h => by omega, fun h => absurd h5 h.2.2.2.2⟩
    rw [if_neg h5]
    exact ⟨fun _ => ⟨h1, h2, h3, h4, h5⟩, fun _ => rfl⟩
  · rw [if_pos h2]
    exact ⟨fun h => by omega, fun h => absurd h.2.1 h2⟩
theorem bad_none {n : Int} {l : List Int} : ¬ l.any (badArg n) = true ↔ ∀ a ∈ l, 0 ≤ a ∧ a < n := by
  simp only [List.any_eq_true, not_exists, not_and, badArg, decide_eq_true_eq]
  constructor
  · intro h a ha; have := h a ha; omega
  · intro h a ha; have := h a ha; omega

/-- L is the list of the steps that ps need -/
structure Needy (steps : List Step) (ps L : List Int) : Prop where
  sort : L.Pairwise (· < ·)
  valid : ∀ i ∈ L, 0 ≤ i ∧ ∃ s, steps[i.toNat]? = some s
  shut : ∀ i ∈ L, ∀ s, steps[i.toNat]? = some s → ∀ a ∈ s.args, a ∈ L
  asked : ∀ a ∈ ps, a ∈ L
  less : ∀ i ∈ L, i ∈ ps ∨ ∃ j ∈ L, ∃ s, steps[j.toNat]? = some s ∧ i ∈ s.args
theorem needy_needs {steps : List Step} {ps : List Int} (hok : Back steps) (hps : ∀ a ∈ ps, 0 ≤ a ∧ a < (steps.length : Int)) : Needy steps ps (needs steps ps) := by
  have hm : ∀ x, x ∈ needs steps ps ↔ ∃ k, k < steps.length ∧ x = (k : Int) ∧ (marked steps ps).getD k false = true := fun x => mem_trues
  refine ⟨trues_sorted _ _, fun i hi => ?_, fun i hi s hs a ha => ?_, fun a ha => ?_, fun i hi => ?_⟩
  · obtain ⟨k, h1, rfl, _⟩ := (hm i).1 hi
    exact ⟨by omega, get_of_lt (by simpa using h1)⟩
  · obtain ⟨k, h1, rfl, h3⟩ := (hm i).1 hi
    rw [Int.toNat_natCast] at hs
    have hb := hok k s hs a ha
    refine (hm a).2 ⟨a.toNat, by omega, by omega, (marked_iff hok ps a.toNat).2 (.inr ⟨k, s, hs, h3, ?_⟩)⟩
    rw [Int.toNat_of_nonneg hb.1]; exact ha
  · have hb := hps a ha
    refine (hm a).2 ⟨a.toNat, by omega, by omega, (marked_iff hok ps a.toNat).2 (.inl ⟨by omega, ?_⟩)⟩
    rw [Int.toNat_of_nonneg hb.1]; exact ha
  · obtain ⟨k, h1, rfl, h3⟩ := (hm i).1 hi
    rcases (marked_iff hok ps k).1 h3 with h | ⟨j, s, h4, h5, h6⟩
    · exact .inl h.2
    · exact .inr ⟨(j : Int), (hm _).2 ⟨j, lt_of_get h4, rfl, h5⟩, s, by rw [Int.toNat_natCast]; exact h4, h6⟩

section
variable {steps : List Step} {ps L : List Int}
theorem small_get (hN : Needy steps ps L) {k : Nat} {t : Step} (h : (prunedSteps steps L L)[k]? = some t) : ∃ i s, L[k]? = some i ∧ steps[i.toNat]? = some s ∧ t = s.with (placed L s.args) := by
  obtain ⟨h1, h2⟩ := prunedSteps_get (steps := steps) (L := L) (m := L) (fun i hi => (hN.valid i hi).2)
  have hk := lt_of_get h
  rw [h1] at hk
  obtain ⟨i, hi⟩ := get_of_lt hk
  obtain ⟨_, s, hs⟩ := hN.valid i (List.mem_of_getElem? hi)
  have := h2 k i s hi hs
  rw [h] at this
  injection this with this
  exact ⟨i, s, hi, hs, this⟩
theorem small_len (hN : Needy steps ps L) : (prunedSteps steps L L).length = L.length := (prunedSteps_get (steps := steps) (L := L) (m := L) (fun i hi => (hN.valid i hi).2)).1
theorem small_place (hN : Needy steps ps L) (hok : Back steps) {k : Nat} {i : Int} {s : Step} (hi : L[k]? = some i) (hs : steps[i.toNat]? = some s) : ∀ a ∈ placed L s.args, 0 ≤ a ∧ a < (k : Int) := by
  intro a ha
  obtain ⟨x, hx, rfl⟩ := List.mem_map.1 ha
  have hxL := hN.shut i (List.mem_of_getElem? hi) s hs x hx
  obtain ⟨kx, hkx⟩ := List.mem_iff_getElem?.1 hxL
  rw [place_eq hN.sort hkx]
  have hb := hok _ s hs x hx
  have hi0 := (hN.valid i (List.mem_of_getElem? hi)).1
  have := idx_lt hN.sort hkx hi (by omega)
  omega
theorem small_back (hN : Needy steps ps L) (hok : Back steps) : Back (prunedSteps steps L L) := by
  intro k t ht
  obtain ⟨i, s, hi, hs, rfl⟩ := small_get hN ht
  exact small_place hN hok hi hs
theorem small_asked (hN : Needy steps ps L) : ∀ a ∈ placed L ps, 0 ≤ a ∧ a < (L.length : Int) := by
  intro a ha
  obtain ⟨x, hx, rfl⟩ := List.mem_map.1 ha
  obtain ⟨kx, hkx⟩ := List.mem_iff_getElem?.1 (hN.asked x hx)
  rw [place_eq hN.sort hkx]
  have := lt_of_get hkx
  omega
theorem small_marked (hN : Needy steps ps L) (hok : Back steps) : ∀ (d k : Nat), k < L.length → L.length ≤ k + d → (marked (prunedSteps steps L L) (placed L ps)).getD k false = true
  | 0, k, h1, h2 => by omega
  | d + 1, k, h1, h2 => by
    obtain ⟨i, hi⟩ := get_of_lt h1
    have hpi := place_eq hN.sort hi
    rw [marked_iff (small_back hN hok)]
    rcases hN.less i (List.mem_of_getElem? hi) with h | ⟨j, hj, s, hs, ha⟩
    · left
      refine ⟨by rw [small_len hN]; exact h1, ?_⟩
      rw [← hpi]
      exact List.mem_map_of_mem h
    · right
      obtain ⟨kj, hkj⟩ := List.mem_iff_getElem?.1 hj
      have hb := hok _ s hs i ha
      have hj0 := (hN.valid j hj).1
      have hlt := idx_lt hN.sort hi hkj (by omega)
      have hg := (prunedSteps_get (steps := steps) (L := L) (m := L) (fun i hi => (hN.valid i hi).2)).2 kj j s hkj hs
      refine ⟨kj, _, hg, small_marked hN hok d kj (lt_of_get hkj) (by omega), ?_⟩
      rw [← hpi]
      exact List.mem_map_of_mem ha
theorem small_needs (hN : Needy steps ps L) (hok : Back steps) : needs (prunedSteps steps L L) (placed L ps) = (List.range L.length).map (fun k : Nat => (k : Int)) := by
  unfold needs
  rw [small_len hN]
  exact trues_all fun k hk => small_marked hN hok L.length k hk (by omega)
end
theorem range_get {n k : Nat} (h : k < n) : ((List.range n).map (fun k : Nat => (k : Int)))[k]? = some (k : Int) := by
  rw [List.getElem?_map, List.getElem?_range h]; rfl
theorem range_sort (n : Nat) : ((List.range n).map (fun k : Nat => (k : Int))).Pairwise (· < ·) := by
  rw [List.pairwise_iff_getElem]
  intro i j hi hj hij
  simp at hi hj ⊢
  exact hij
theorem placed_range {n : Nat} {l : List Int} (h : ∀ a ∈ l, 0 ≤ a ∧ a < (n : Int)) : placed ((List.range n).map (fun k : Nat => (k : Int))) l = l := by
  unfold placed
  conv => rhs; rw [← List.map_id l]
  apply List.map_congr_left
  intro a ha
  have hb := h a ha
  have := place_eq (range_sort n) (range_get (n := n) (k := a.toNat) (by omega))
  rw [Int.toNat_of_nonneg hb.1] at this
  exact this
theorem with_args (s : Step) : s.with s.args = s := rfl
theorem prunedSteps_range {steps : List Step} (hok : Back steps) : prunedSteps steps ((List.range steps.length).map (fun k : Nat => (k : Int))) ((List.range steps.length).map (fun k : Nat => (k : Int))) = steps := by
  obtain ⟨h1, h2⟩ := prunedSteps_get (steps := steps) (L := (List.range steps.length).map (fun k : Nat => (k : Int))) (m := (List.range steps.length).map (fun k : Nat => (k : Int))) (fun i hi => by
    obtain ⟨k, hk, rfl⟩ := List.mem_map.1 hi
    exact get_of_lt (by simpa using hk))
  apply List.ext_getElem?
  intro k
  by_cases hk : k < steps.length
  · obtain ⟨s, hs⟩ := get_of_lt hk
    rw [h2 k (k : Int) s (range_get hk) (by simpa using hs), hs, placed_range (fun a ha => by have := hok k s hs a ha; omega), with_args]
  · rw [List.getElem?_eq_none (by rw [h1]; simpa using hk), List.getElem?_eq_none (by omega)]

theorem Fig.goal_of {f : Fig} (h : f.err = 0) {g : Fct} (hg : g ∈ f.goals) : errFct g f.steps.length = 0 := by
  unfold Fig.err at h
  split at h
  · omega
  split at h
  · contradiction
  · have key : ∀ {r : List Fct}, errGoals (f.steps.length : Int) r = 0 → g ∈ r → errFct g f.steps.length = 0 := by
      intro r
      induction r with
      | nil => intro _ h; cases h
      | cons t r ih =>
        intro h1 h2
        unfold errGoals at h1
        by_cases h0 : errFct t f.steps.length = 0
        · rw [if_neg (by simp [h0])] at h1
          rcases List.mem_cons.1 h2 with rfl | h2
          · exact h0
          · exact ih h1 h2
        · rw [if_pos h0] at h1; exact absurd h1 h0
    exact key h hg
theorem Fig.step_of {f : Fig} (h : f.err = 0) {k : Nat} {s : Step} (hk : f.steps[k]? = some s) : errStep f.steps s k = 0 := by
  unfold Fig.err at h
  split at h
  · omega
  split at h
  · contradiction
  · rename_i h2
    have := errSteps_at (i := 0) (by simpa using h2) hk
    simpa using this
theorem Fig.len_of {f : Fig} (h : f.err = 0) : f.steps.length ≤ 40 := by
  unfold Fig.err at h
  split at h <;> omega
theorem Fig.back {f : Fig} (h : f.err = 0) : Back f.steps := fun _ _ hk => Fig.args_of h hk
theorem Fig.needy {f : Fig} (h : f.err = 0) {g : Fct} (hg : g ∈ f.goals) : Needy f.steps g.args (needs f.steps g.args) :=
  needy_needs (Fig.back h) (bad_none.1 (errFct_iff.1 (Fig.goal_of h hg)).2.2.1)
/-- a pruned figure is right -/
theorem pruned_err {f : Fig} (h : f.err = 0) {g : Fct} (hg : g ∈ f.goals) : (pruned f g).err = 0 := by
  have hN := Fig.needy h hg
  have hB := Fig.back h
  have hl := small_len hN
  have hlt : (needs f.steps g.args).length ≤ f.steps.length := trues_len _ _
  have h40 := Fig.len_of h
  have hS : errSteps (pruned f g).steps (pruned f g).steps 0 = 0 := by
    refine errSteps_zero fun k t ht => ?_
    rw [Nat.zero_add]
    have ht' : (prunedSteps f.steps (needs f.steps g.args) (needs f.steps g.args))[k]? = some t := ht
    obtain ⟨i, s, hi, hs, rfl⟩ := small_get hN ht'
    obtain ⟨e1, e2, e3, e4, e5, e6⟩ := errStep_iff.1 (Fig.step_of h hs)
    refine errStep_iff.2 ⟨e1, ?_, bad_none.2 (small_place hN hB hi hs), e4, e5, ?_⟩
    · show ((placed (needs f.steps g.args) s.args).length : Int) = _
      rw [placed, List.length_map]; exact e2
    · rcases e6 with e6 | ⟨e6, e7⟩
      · exact .inl e6
      · refine .inr ⟨e6, fun hc => e7 ?_⟩
        rw [List.any_eq_true] at hc ⊢
        obtain ⟨t, htm, hte⟩ := hc
        obtain ⟨k2, hk2⟩ := List.mem_iff_getElem?.1 htm
        rw [List.getElem?_take] at hk2
        split at hk2
        · rename_i hlt2
          have hk3 : (prunedSteps f.steps (needs f.steps g.args) (needs f.steps g.args))[k2]? = some t := hk2
          obtain ⟨i2, s2, hi2, hs2, rfl⟩ := small_get hN hk3
          refine ⟨s2, ?_, hte⟩
          have h3 := sorted_lt hN.sort hi2 hi hlt2
          have h4 := (hN.valid i2 (List.mem_of_getElem? hi2)).1
          refine List.mem_of_getElem? (i := i2.toNat) ?_
          rw [List.getElem?_take, if_pos (by omega)]
          exact hs2
        · cases hk2
  have hG : errFct (g.with (placed (needs f.steps g.args) g.args)) (pruned f g).steps.length = 0 := by
    obtain ⟨e1, e2, e3, e4, e5⟩ := errFct_iff.1 (Fig.goal_of h hg)
    refine errFct_iff.2 ⟨e1, ?_, bad_none.2 ?_, e4, e5⟩
    · show ((placed (needs f.steps g.args) g.args).length : Int) = _
      rw [placed, List.length_map]; exact e2
    · have e : (pruned f g).steps.length = (needs f.steps g.args).length := hl
      rw [e]
      exact small_asked hN
  unfold Fig.err
  have hlen : (pruned f g).steps.length ≤ 40 := by
    have e : (pruned f g).steps.length = (needs f.steps g.args).length := hl
    omega
  have hgl : (pruned f g).goals.length = 1 := rfl
  rw [if_neg (by omega), if_neg (by simp [hS])]
  have hgo : (pruned f g).goals = [g.with (placed (needs f.steps g.args) g.args)] := rfl
  rw [hgo, errGoals, if_neg (by simp [hG])]
  rfl
theorem pruned_len {f : Fig} (h : f.err = 0) {g : Fct} (hg : g ∈ f.goals) : (pruned f g).steps.length ≤ f.steps.length := by
  have e : (pruned f g).steps.length = (needs f.steps g.args).length := small_len (Fig.needy h hg)
  have hlt : (needs f.steps g.args).length ≤ f.steps.length := trues_len _ _
  omega
/-- its goal needs all of its points -/
theorem pruned_needs {f : Fig} (h : f.err = 0) {g : Fct} (hg : g ∈ f.goals) : needs (pruned f g).steps (placed (needs f.steps g.args) g.args) = (List.range (pruned f g).steps.length).map (fun k : Nat => (k : Int)) := by
  have e : (pruned f g).steps.length = (needs f.steps g.args).length := small_len (Fig.needy h hg)
  rw [e]
  exact small_needs (Fig.needy h hg) (Fig.back h)
/-- it stays as it is -/
theorem pruned_again {f : Fig} (h : f.err = 0) {g : Fct} (hg : g ∈ f.goals) : pruned (pruned f g) (g.with (placed (needs f.steps g.args) g.args)) = pruned f g := by
  have hn := pruned_needs h hg
  have hb : Back (pruned f g).steps := small_back (Fig.needy h hg) (Fig.back h)
  have e : (pruned f g).steps.length = (needs f.steps g.args).length := small_len (Fig.needy h hg)
  have ha := small_asked (Fig.needy h hg)
  unfold pruned at hn hb e ⊢
  dsimp only [Fct.with] at hn hb e ⊢
  rw [hn, prunedSteps_range hb, placed_range (by rw [e]; exact ha)]
end Go.Proofs.YtgbnadckhjfebaaRR
