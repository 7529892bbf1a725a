/- Figures and lists of integers that came in, opened. -/
import Derived.Test.YtfahnnkppakiiaaLr14
import Derived.Test.YtfahnnkppakiiaaLr4
import Derived.Test.YtfahnnkppakiiaaLr1
import Derived.Deep.LoopGhost
import Derived.Test.YtfahnnkppakiiaaRows

/- Walk: the first error of a figure, by the program. -/
namespace Go.Proofs.Ytfahnnkppakiiaa
open Go.RowKit

set_option maxRecDepth 100000 in
set_option maxHeartbeats 4000000 in
theorem rightL_any (f : Fig) (sa : Option Addr) (sc : Nat) (ga : Option Addr) (gc : Nat) (w : World) (h : FigR w sa sc ga gc f) (hq : f.few) :
    Calls Try.prog 18 #[f.val sa sc ga gc] w fun e w' => e = .returned (.int .i64 f.err) ∧ Below w.heap.size w w' := by
  obtain ⟨steps, goals⟩ := f
  obtain ⟨hS, hG⟩ := h
  dsimp only at hS hG
  have hl1 := hS.len
  have hl2 := hG.len
  obtain ⟨res, hres⟩ : ∃ x, Fig.err ⟨steps, goals⟩ = x := ⟨_, rfl⟩
  rw [hres]
  unfold Fig.err at hres
  unfold Fig.val
  dsimp only at hres ⊢
  have HS := Lib.hid hS
  have HG := Lib.hid hG
  have HQ := Lib.hid hq
  have HRES := Lib.hid hres
  clear hS hG hq hres
  have hz := Blk.new w 41 #[.slice sa steps.length sc, .slice ga goals.length gc]
  have hb0 : Below w.heap.size w (w.alloc (.cells #[.slice sa steps.length sc, .slice ga goals.length gc] 41)) := (Below.refl _ _).alloc (Nat.le_refl _) _
  by_cases hbig : 40 < steps.length ∨ 8 < goals.length
  · have hr : res = 4 := by rw [← HRES.out, if_pos hbig]
    subst hr
    clear hz
    by_cases h1 : 40 < steps.length
    · clear hbig
      go_enter Try.func18, Try.ntmps18
      go_wp2
      go_ret
      exact ⟨rfl, hb0⟩
    · have h2 : 8 < goals.length := by omega
      clear hbig
      go_enter Try.func18, Try.ntmps18
      go_wp2
      go_ret
      exact ⟨rfl, hb0⟩
  · have h1 : steps.length ≤ 40 := by omega
    have h2 : goals.length ≤ 8 := by omega
    have HR1 := HRES.out
    rw [if_neg hbig] at HR1
    replace HR1 := Lib.hid HR1
    clear hbig HRES
    go_enter Try.func18, Try.ntmps18
    go_wp2
    revert hz hb0
    generalize w.alloc (.cells #[.slice sa steps.length sc, .slice ga goals.length gc] 41) = w0
    intro hz hb0
    go_loopg [3, 4, 21] steps.length (fun g _ _ q wr => ∃ k : Nat, k + g = steps.length ∧ q = .int .i64 k ∧ Below w.heap.size w wr ∧ Blk wr w.heap.size 41 #[.slice sa steps.length sc, .slice ga goals.length gc] ∧ errSteps steps (steps.drop k) k = errSteps steps steps 0)
    case atStart => exact ⟨0, by omega, rfl, hb0, hz, rfl⟩
    case round =>
      obtain ⟨k, hkg, rfl, hwr, hzr, he⟩ := hrel
      have HKG := Lib.hid hkg
      have HE := Lib.hid he
      have HZR := Lib.hid hzr
      have z0 := hzr.cell 0; have z1 := hzr.cell 1
      have hzl := hzr.lt
      clear hb0 hz hkg he hzr
      by_cases hlt : k < steps.length
      · obtain ⟨s, hs⟩ := get_of_lt hlt
        have C := checkL_any steps k s sa sc wr (HS.out.ext (Ext.below hwr)) hs (HQ.out.1 s (List.mem_of_getElem? hs))
        have hes := errSteps_cons (l := steps) hs
        rw [HE.out] at hes
        revert C hes
        generalize errStep steps s k = ev
        intro C hes
        replace C := Lib.hid C
        have HES := Lib.hid hes
        clear hes hs
        by_cases hev : ev = 0
        · have hb : (ev != 0) = false := by simpa using hev
          have HE2 := HES.out
          rw [if_neg (by simpa using hev)] at HE2
          replace HE2 := Lib.hid HE2
          clear hev HES HE
          go_wp2_with fail
          refine C.out.mono ?_
          rintro e w2 ⟨rfl, hb2⟩
          have hw2 := below_then hwr hb2
          have hz2 := HZR.out.below' hb2
          clear hb2 C
          go_wp2
          go_roundg (gk - 1)
          case rel => exact ⟨k + 1, by have := HKG.out; omega, by go_num, hw2, hz2, HE2.out.symm⟩
          case measure => have := HKG.out; omega
        · have hb : (ev != 0) = true := by simpa using hev
          have hr : res = ev := by
            have h3 := HES.out
            rw [if_pos hev] at h3
            have := HR1.out
            rw [h3, if_pos hev] at this
            exact this.symm
          subst hr
          clear hev HES HE HR1
          go_wp2_with fail
          refine C.out.mono ?_
          rintro e w2 ⟨rfl, hb2⟩
          have hw2 := below_then hwr hb2
          clear hb2 C
          go_wp2
          go_ret
          exact ⟨rfl, hw2⟩
      · have HR2 := HR1.out
        have hz3 : errSteps steps steps 0 = 0 := by
          rw [← HE.out, List.drop_eq_nil_of_le (by omega)]; rfl
        rw [if_neg (by rw [hz3]; simp)] at HR2
        replace HR2 := Lib.hid HR2
        obtain ⟨wo, rfl⟩ : ∃ wo : World, wo = wr := ⟨_, rfl⟩
        clear hz3 HR1 HE HKG
        go_wp2
        go_loopg [6, 7, 35] goals.length (fun g _ _ q wr => ∃ k : Nat, k + g = goals.length ∧ q = .int .i64 k ∧ Below w.heap.size w wr ∧ Blk wr w.heap.size 41 #[.slice sa steps.length sc, .slice ga goals.length gc] ∧ errGoals steps.length (goals.drop k) = errGoals steps.length goals)
        case atStart => exact ⟨0, by omega, rfl, hwr, HZR.out, rfl⟩
        case round =>
          clear HZR z0 z1 hzl hwr
          obtain ⟨k2, hkg, rfl, hwr, hzr, he⟩ := hrel
          have HKG := Lib.hid hkg
          have HE := Lib.hid he
          have HZR := Lib.hid hzr
          have z0 := hzr.cell 0; have z1 := hzr.cell 1
          have hzl := hzr.lt
          clear hkg he hzr
          by_cases hlt2 : k2 < goals.length
          · obtain ⟨s, hs⟩ := get_of_lt hlt2
            obtain ⟨b, off, rfl, p, hC, hP, hki⟩ := (HG.out.ext (Ext.below hwr)).2.2 k2 s hs
            have hP' : PartsR (wr.alloc (.cells #[.int .i64 s.kind, .slice p.aa s.args.length p.ac, .bool s.ratio.neg, .slice p.na s.ratio.num.length p.nc, .slice p.da s.ratio.den.length p.dc] 62)) p s.args s.ratio := hP.ext (ext_alloc _ _)
            have C := rightP_any s steps.length p _ hP' (HQ.out.2 s (List.mem_of_getElem? hs)) (by constructor <;> omega) hki
            obtain ⟨c0, c1, c2, c3, c4⟩ := hC
            have hes := errGoals_cons (n := steps.length) hs
            rw [HE.out] at hes
            unfold Fct.val at C
            revert C hes
            generalize errFct s steps.length = ev
            intro C hes
            replace C := Lib.hid C
            have HES := Lib.hid hes
            have hw1 := hwr.alloc hwr.size (.cells #[.int .i64 s.kind, .slice p.aa s.args.length p.ac, .bool s.ratio.neg, .slice p.na s.ratio.num.length p.nc, .slice p.da s.ratio.den.length p.dc] 62)
            have hz1 := HZR.out.alloc (.cells #[.int .i64 s.kind, .slice p.aa s.args.length p.ac, .bool s.ratio.neg, .slice p.na s.ratio.num.length p.nc, .slice p.da s.ratio.den.length p.dc] 62)
            clear hes hs hP hP' hki
            by_cases hev : ev = 0
            · have hb : (ev != 0) = false := by simpa using hev
              have HE2 := HES.out
              rw [if_neg (by simpa using hev)] at HE2
              replace HE2 := Lib.hid HE2
              clear hev HES HE
              go_wp2_with fail
              refine C.out.mono ?_
              rintro e w2 ⟨rfl, hb2⟩
              have hw2 := below_then hw1 hb2
              have hz2 := hz1.below' hb2
              clear hb2 C
              go_wp2
              go_roundg (gk - 1)
              case rel => exact ⟨k2 + 1, by have := HKG.out; omega, by go_num, hw2, hz2, HE2.out.symm⟩
              case measure => have := HKG.out; omega
            · have hb : (ev != 0) = true := by simpa using hev
              have hr : res = ev := by
                have h3 := HES.out
                rw [if_pos hev] at h3
                rw [← h3]; exact HR2.out.symm
              subst hr
              clear hev HES HE HR2
              go_wp2_with fail
              refine C.out.mono ?_
              rintro e w2 ⟨rfl, hb2⟩
              have hw2 := below_then hw1 hb2
              clear hb2 C
              go_wp2
              go_ret
              exact ⟨rfl, hw2⟩
          · have hr : res = 0 := by
              have h3 := HE.out
              rw [List.drop_eq_nil_of_le (by omega)] at h3
              rw [← HR2.out, ← h3]; rfl
            subst hr
            go_wp2
            go_ret
            exact ⟨rfl, hwr⟩
end Go.Proofs.Ytfahnnkppakiiaa

/- Walk: whether a figure is of the size that the statements speak of. -/
namespace Go.Proofs.Ytfahnnkppakiiaa
open Go.RowKit

def fitS (m : Nat) (qs : List Int) (r : Rt) : Bool := decide (qs.length ≤ m) && decide (r.num.length ≤ 20) && decide (r.den.length ≤ 20)
def Fig.fits (f : Fig) : Bool := f.steps.all (fun s => fitS 8 s.args s.ratio) && f.goals.all (fun s => fitS 12 s.args s.ratio) && decide (f.steps.length ≤ 60) && decide (f.goals.length ≤ 12)
theorem all_at {α : Type} {p : α → Bool} {l : List α} {k : Nat} {x : α} (h : l[k]? = some x) : (l.drop k).all p = (p x && (l.drop (k + 1)).all p) := by
  have hk := lt_of_get h
  rw [List.drop_eq_getElem_cons hk]
  have : l[k] = x := by rw [List.getElem?_eq_getElem hk] at h; exact Option.some.inj h
  rw [this, List.all_cons]
set_option maxRecDepth 100000 in
set_option maxHeartbeats 4000000 in
theorem fits_any (f : Fig) (sa : Option Addr) (sc : Nat) (ga : Option Addr) (gc : Nat) (w : World) (h : FigR w sa sc ga gc f) :
    Calls Try.prog 17 #[f.val sa sc ga gc] w fun e w' => e = .returned (.bool f.fits) ∧ Below w.heap.size w w' := by
  obtain ⟨steps, goals⟩ := f
  obtain ⟨hS, hG⟩ := h
  obtain ⟨res, hres⟩ : ∃ b, Fig.fits ⟨steps, goals⟩ = b := ⟨_, rfl⟩
  rw [hres]
  unfold Fig.fits at hres
  unfold Fig.val
  dsimp only at hS hG hres ⊢
  have hl1 := hS.len
  have hl2 := hG.len
  have HS := Lib.hid hS
  have HG := Lib.hid hG
  have HRES := Lib.hid hres
  have hz := Blk.new w 41 #[.slice sa steps.length sc, .slice ga goals.length gc]
  have hb0 : Below w.heap.size w (w.alloc (.cells #[.slice sa steps.length sc, .slice ga goals.length gc] 41)) := by go_grown
  clear hS hG hres
  go_enter Try.func17, Try.ntmps17
  go_wp2
  revert hz hb0
  generalize w.alloc (.cells #[.slice sa steps.length sc, .slice ga goals.length gc] 41) = w0
  intro hz hb0
  go_loopg [4, 10] steps.length (fun n _ q wr => ∃ k : Nat, k + n = steps.length ∧ q = .int .i64 k ∧ Below w.heap.size w wr ∧ Below w0.heap.size w0 wr ∧ steps.all (fun s => fitS 8 s.args s.ratio) = (steps.drop k).all (fun s => fitS 8 s.args s.ratio))
  case atStart => exact ⟨0, by omega, rfl, hb0, Below.refl _ _, rfl⟩
  case round =>
    obtain ⟨k, hkg, rfl, hw, hw0, hall⟩ := hrel
    have HKG := Lib.hid hkg
    have HALL := Lib.hid hall
    have hzr := hz.below' hw0
    have z0 := hzr.cell 0; have z1 := hzr.cell 1
    have hzl := hzr.lt
    clear hkg hall
    by_cases hlt : k < steps.length
    · obtain ⟨s, hs⟩ := get_of_lt hlt
      obtain ⟨b, off, rfl, ⟨aa, ac, na, nc, da, dc⟩, hC, hP, _, _⟩ := (HS.out.ext (Ext.below hw)).2.2 k s hs
      obtain ⟨c0, c1, c2, c3, c4, c5⟩ := hC
      have p1 := hP.1.len; have p2 := hP.2.1.len; have p3 := hP.2.2.len
      have hal := all_at (p := fun (s : Step) => fitS 8 s.args s.ratio) hs
      have HAL := Lib.hid hal
      have hw1 := hw.alloc hw.size (.cells #[.int .i64 s.kind, .string s.point, .slice aa s.args.length ac, .bool s.ratio.neg, .slice na s.ratio.num.length nc, .slice da s.ratio.den.length dc] 60)
      have hw2 := hw0.alloc hw0.size (.cells #[.int .i64 s.kind, .string s.point, .slice aa s.args.length ac, .bool s.ratio.neg, .slice na s.ratio.num.length nc, .slice da s.ratio.den.length dc] 60)
      dsimp only at c0 c1 c2 c3 c4 c5
      clear hs hP hal
      by_cases hbad : s.args.length ≤ 8 ∧ s.ratio.num.length ≤ 20 ∧ s.ratio.den.length ≤ 20
      · obtain ⟨b1, b2, b3⟩ := hbad
        have hfit : fitS 8 s.args s.ratio = true := by simp [fitS, b1, b2, b3]
        have hnx := HALL.out
        rw [HAL.out] at hnx
        simp only [hfit, Bool.true_and] at hnx
        have HNX := Lib.hid hnx
        clear hnx hfit
        go_wp2
        go_roundg (gk - 1)
        case rel => exact ⟨k + 1, by have := HKG.out; omega, by go_num, hw1, hw2, HNX.out⟩
        case measure => have := HKG.out; omega
      · have hfit : fitS 8 s.args s.ratio = false := by
          simp only [fitS, Bool.and_eq_false_iff, decide_eq_false_iff_not]; omega
        have hr : res = false := by
          rw [← HRES.out, HALL.out, HAL.out]
          simp [hfit]
        subst hr
        by_cases b1 : s.args.length ≤ 8
        · by_cases b2 : s.ratio.num.length ≤ 20
          · have b3 : 20 < s.ratio.den.length := by omega
            clear hbad hfit
            go_wp2
            go_ret
            exact ⟨rfl, hw1⟩
          · clear hbad hfit
            go_wp2
            go_ret
            exact ⟨rfl, hw1⟩
        · clear hbad hfit
          go_wp2
          go_ret
          exact ⟨rfl, hw1⟩
    · have hst : steps.all (fun s => fitS 8 s.args s.ratio) = true := by rw [HALL.out, List.drop_eq_nil_of_le (by omega)]; rfl
      have HR2 := HRES.out
      rw [hst, Bool.true_and] at HR2
      replace HR2 := Lib.hid HR2
      obtain ⟨wo, rfl⟩ : ∃ wo : World, wo = wr := ⟨_, rfl⟩
      clear HRES HALL HKG hst
      go_wp2
      go_loopg [6, 37] goals.length (fun n _ q wr => ∃ k : Nat, k + n = goals.length ∧ q = .int .i64 k ∧ Below w.heap.size w wr ∧ Below w0.heap.size w0 wr ∧ goals.all (fun s => fitS 12 s.args s.ratio) = (goals.drop k).all (fun s => fitS 12 s.args s.ratio))
      case atStart => exact ⟨0, by omega, rfl, hw, hw0, rfl⟩
      case round =>
        clear hw hw0 hzr z0 z1 hzl hlt
        obtain ⟨k2, hkg, rfl, hw, hw0, hall⟩ := hrel
        have HKG := Lib.hid hkg
        have HALL := Lib.hid hall
        have hzr := hz.below' hw0
        have z0 := hzr.cell 0; have z1 := hzr.cell 1
        have hzl := hzr.lt
        clear hkg hall
        by_cases hlt : k2 < goals.length
        · obtain ⟨s, hs⟩ := get_of_lt hlt
          obtain ⟨b, off, rfl, ⟨aa, ac, na, nc, da, dc⟩, hC, hP, _⟩ := (HG.out.ext (Ext.below hw)).2.2 k2 s hs
          obtain ⟨c0, c1, c2, c3, c4⟩ := hC
          have p1 := hP.1.len; have p2 := hP.2.1.len; have p3 := hP.2.2.len
          have hal := all_at (p := fun (s : Fct) => fitS 12 s.args s.ratio) hs
          have HAL := Lib.hid hal
          have hw1 := hw.alloc hw.size (.cells #[.int .i64 s.kind, .slice aa s.args.length ac, .bool s.ratio.neg, .slice na s.ratio.num.length nc, .slice da s.ratio.den.length dc] 62)
          have hw2 := hw0.alloc hw0.size (.cells #[.int .i64 s.kind, .slice aa s.args.length ac, .bool s.ratio.neg, .slice na s.ratio.num.length nc, .slice da s.ratio.den.length dc] 62)
          dsimp only at c0 c1 c2 c3 c4
          clear hs hP hal
          by_cases hbad : s.args.length ≤ 12 ∧ s.ratio.num.length ≤ 20 ∧ s.ratio.den.length ≤ 20
          · obtain ⟨b1, b2, b3⟩ := hbad
            have hfit : fitS 12 s.args s.ratio = true := by simp [fitS, b1, b2, b3]
            have hnx := HALL.out
            rw [HAL.out] at hnx
            simp only [hfit, Bool.true_and] at hnx
            have HNX := Lib.hid hnx
            clear hnx hfit
            go_wp2
            go_roundg (gk - 1)
            case rel => exact ⟨k2 + 1, by have := HKG.out; omega, by go_num, hw1, hw2, HNX.out⟩
            case measure => have := HKG.out; omega
          · have hfit : fitS 12 s.args s.ratio = false := by
              simp only [fitS, Bool.and_eq_false_iff, decide_eq_false_iff_not]; omega
            have hr : res = false := by
              rw [← HR2.out, HALL.out, HAL.out]
              simp [hfit]
            subst hr
            by_cases b1 : s.args.length ≤ 12
            · by_cases b2 : s.ratio.num.length ≤ 20
              · have b3 : 20 < s.ratio.den.length := by omega
                clear hbad hfit
                go_wp2
                go_ret
                exact ⟨rfl, hw1⟩
              · clear hbad hfit
                go_wp2
                go_ret
                exact ⟨rfl, hw1⟩
            · clear hbad hfit
              go_wp2
              go_ret
              exact ⟨rfl, hw1⟩
        · have hst : goals.all (fun s => fitS 12 s.args s.ratio) = true := by rw [HALL.out, List.drop_eq_nil_of_le (by omega)]; rfl
          have HR3 := HR2.out
          rw [hst, Bool.true_and] at HR3
          replace HR3 := Lib.hid HR3
          clear hst HR2 HALL HKG
          by_cases h60 : steps.length ≤ 60
          · have hr : res = decide (goals.length ≤ 12) := by rw [← HR3.out]; simp [h60]
            have HRR := Lib.hid hr
            clear hr
            go_wp2
            go_ret
            exact ⟨ret_bool (by rw [HRR.out]; rw [Bool.eq_iff_iff]; simp; omega), hw⟩
          · have hr : res = false := by rw [← HR3.out]; simp [h60]
            subst hr
            go_wp2
            go_ret
            exact ⟨rfl, hw⟩
end Go.Proofs.Ytfahnnkppakiiaa

/- How an argument that came in is opened: slices of whatever elements, and what they weigh. -/
namespace Go.Proofs.Ytfahnnkppakiiaa
open Go.ChangeShapes Go.WideShapes Go.ChangeAt Go.RowKit

theorem len1 {α : Type} {l : List α} (h : l.length = 1) : ∃ x0, l = [x0] := by
  match l, h with
  | [x0], _ => exact ⟨x0, rfl⟩
theorem len2 {α : Type} {l : List α} (h : l.length = 2) : ∃ x0 x1, l = [x0, x1] := by
  match l, h with
  | [x0, x1], _ => exact ⟨x0, x1, rfl⟩
theorem len3 {α : Type} {l : List α} (h : l.length = 3) : ∃ x0 x1 x2, l = [x0, x1, x2] := by
  match l, h with
  | [x0, x1, x2], _ => exact ⟨x0, x1, x2, rfl⟩
theorem len4 {α : Type} {l : List α} (h : l.length = 4) : ∃ x0 x1 x2 x3, l = [x0, x1, x2, x3] := by
  match l, h with
  | [x0, x1, x2, x3], _ => exact ⟨x0, x1, x2, x3, rfl⟩
theorem len5 {α : Type} {l : List α} (h : l.length = 5) : ∃ x0 x1 x2 x3 x4, l = [x0, x1, x2, x3, x4] := by
  match l, h with
  | [x0, x1, x2, x3, x4], _ => exact ⟨x0, x1, x2, x3, x4, rfl⟩
theorem len6 {α : Type} {l : List α} (h : l.length = 6) : ∃ x0 x1 x2 x3 x4 x5, l = [x0, x1, x2, x3, x4, x5] := by
  match l, h with
  | [x0, x1, x2, x3, x4, x5], _ => exact ⟨x0, x1, x2, x3, x4, x5, rfl⟩
theorem len7 {α : Type} {l : List α} (h : l.length = 7) : ∃ x0 x1 x2 x3 x4 x5 x6, l = [x0, x1, x2, x3, x4, x5, x6] := by
  match l, h with
  | [x0, x1, x2, x3, x4, x5, x6], _ => exact ⟨x0, x1, x2, x3, x4, x5, x6, rfl⟩
theorem list_choose {α β : Type} {p : Nat → β → α → Prop} (l : List β) (h : ∀ i y, l[i]? = some y → ∃ z, p i y z) :
    ∃ zs : List α, zs.length = l.length ∧ ∀ (i : Nat) (z : α), zs[i]? = some z → ∃ y, l[i]? = some y ∧ p i y z := by
  induction l generalizing p with
  | nil => exact ⟨[], rfl, fun i z hz => by simp at hz⟩
  | cons x l ih =>
    obtain ⟨z0, h0⟩ := h 0 x rfl
    obtain ⟨zs, hl, hz⟩ := ih (p := fun i => p (i + 1)) (fun i y hy => h (i + 1) y (by simpa using hy))
    refine ⟨z0 :: zs, by simp [hl], fun i z hi => ?_⟩
    cases i with
    | zero => simp at hi; subst hi; exact ⟨x, rfl, h0⟩
    | succ i => simpa using hz i z (by simpa using hi)

theorem sum_le_bulk {H α : Type} (size : α → Nat) : ∀ (ds : List (DataW H)) (zs : List α), zs.length = ds.length → (∀ (i : Nat) (z : α) (d : DataW H), zs[i]? = some z → ds[i]? = some d → size z ≤ Rows.uptoBulk d) →
    (zs.map size).sum ≤ Rows.uptoBulkAll ds
  | [], zs, hl, _ => by
    have : zs = [] := List.eq_nil_of_length_eq_zero (by simpa using hl)
    subst this; simp
  | d :: ds, [], hl, _ => by simp at hl
  | d :: ds, z :: zs, hl, h => by
    have h0 := h 0 z d rfl rfl
    have h1 := sum_le_bulk size ds zs (by simpa using hl) (fun i z d hz hd => h (i + 1) z d (by simpa using hz) (by simpa using hd))
    simp only [List.map_cons, List.sum_cons, Rows.uptoBulkAll]
    omega

section
variable {H : Type} {enc : TypeId × Value → H} {P : Program} {W : World} {sp : Nat → Bool} {held : Bool}
/-- A SLICE OPENED: its elements as a list, what each is read as being told by 'conv' -/
theorem open_sl {t e : TypeId} {sz fuel : Nat} {cs : List Value} {x : DataW H × List MemPlace} (ht : P.underlying t = some (.slice e)) (hc : P.cellsOf e = sz) (hs : 0 < sz)
    (h : DataW.trod enc P W 0 sp held fuel t cs = some x) {α : Type} (E : World → Nat → Nat → α → Prop) (size : α → Nat)
    (conv : ∀ n cs' y b o, n < fuel → DataW.trod enc P W 0 sp held n e cs' = some y → cs'.length = sz → (∀ j, j < sz → W.cell? ⟨b, o + j, none⟩ = cs'[j]?) → ∃ z, E W b o z ∧ size z ≤ Rows.uptoBulk y.1) :
    ∃ (a : Option Addr) (cap : Nat) (zs : List α), cs = [.slice a zs.length cap] ∧ SlR sz E W a cap zs ∧ (zs.map size).sum + 1 ≤ Rows.uptoBulk x.1 := by
  rcases DataW.trod_slice ht h with ⟨rfl, rfl⟩ | ⟨a, len, cap, elems, rest, n, hn, rfl, rfl, _, hl, hm, hlen, hel, _, _⟩
  · exact ⟨none, 0, [], rfl, SlR.nil, by simp [Rows.uptoBulk]⟩
  · rw [hc] at hel
    have key : ∀ i y, elems[i]? = some y → ∃ z, (∃ b off, a = ⟨b, off, none⟩ ∧ E W b (off + i * sz) z) ∧ size z ≤ Rows.uptoBulk y.1 := by
      intro i y hy
      have hi : i < len := by rw [← hlen]; exact lt_of_get hy
      have h1 := hel i hi
      rw [hy] at h1
      obtain ⟨cs', hcs, hty⟩ := Option.bind_eq_some_iff.1 h1
      obtain ⟨_, hl', hcell⟩ := World.cells?_some hcs
      have hspot : ∃ b off, a = ⟨b, off, none⟩ := by
        have h0 := hcell 0 hs
        rw [List.getElem?_eq_getElem (by omega)] at h0
        have := World.cell?_spot h0
        obtain ⟨b, off, spot⟩ := a
        by_cases hi0 : i * sz = 0
        · simp [Addr.add, hi0] at this
          subst this
          exact ⟨b, off, rfl⟩
        · have h2 := hel 0 (by omega)
          obtain ⟨y0, hy0⟩ := get_of_lt (xs := elems) (k := 0) (by omega)
          rw [hy0] at h2
          obtain ⟨cs0, hcs0, _⟩ := Option.bind_eq_some_iff.1 h2
          obtain ⟨_, hl0, hcell0⟩ := World.cells?_some hcs0
          have h3 := hcell0 0 hs
          rw [List.getElem?_eq_getElem (by omega)] at h3
          have := World.cell?_spot h3
          simp [Addr.add] at this
          subst this
          exact ⟨b, off, rfl⟩
      obtain ⟨b, off, rfl⟩ := hspot
      obtain ⟨z, hz, hsz⟩ := conv n cs' y b (off + i * sz) (by omega) hty hl' (fun j hj => by
        rw [← hcell j hj, add_plain, add_plain])
      exact ⟨z, ⟨b, off, rfl, hz⟩, hsz⟩
    obtain ⟨zs, hzl, hz⟩ := list_choose (p := fun i y z => (∃ b off, a = ⟨b, off, none⟩ ∧ E W b (off + i * sz) z) ∧ size z ≤ Rows.uptoBulk y.1) elems key
    refine ⟨some a, cap, zs, by rw [hzl, hlen], ⟨by omega, hm, fun k z hk => ?_⟩, ?_⟩
    · obtain ⟨y, hy, ⟨b, off, rfl, he⟩, _⟩ := hz k z hk
      exact ⟨b, off, rfl, he⟩
    · have h1 := sum_le_bulk size (elems.map (·.1)) zs (by simpa using hzl) (fun i z d hzi hd => by
        obtain ⟨y, hy, _, hs⟩ := hz i z hzi
        rw [List.getElem?_map, hy] at hd
        simp at hd; subst hd; exact hs)
      simp only [Rows.uptoBulk]
      omega
end

/-- one cell that holds an integer -/
theorem conv_int {H : Type} {enc : TypeId × Value → H} {P : Program} {W : World} {sp : Nat → Bool} {held : Bool} {e : TypeId} {k : IntKind} (he : P.underlying e = some (.int k)) (n : Nat) (cs' : List Value) (y : DataW H × List MemPlace) (b o : Nat)
    (h : DataW.trod enc P W 0 sp held n e cs' = some y) (hc : ∀ j, j < 1 → W.cell? ⟨b, o + j, none⟩ = cs'[j]?) : ∃ z, IntE k W b o z ∧ 1 ≤ Rows.uptoBulk y.1 := by
  obtain ⟨z, rfl, rfl, hw⟩ := DataW.trod_int he h
  exact ⟨z, ⟨by have := hc 0 (by omega); simpa using this, hw⟩, by simp [Rows.uptoBulk]⟩
theorem conv_str {H : Type} {enc : TypeId × Value → H} {P : Program} {W : World} {sp : Nat → Bool} {held : Bool} {e : TypeId} (he : P.underlying e = some .string) (n : Nat) (cs' : List Value) (y : DataW H × List MemPlace) (b o : Nat)
    (h : DataW.trod enc P W 0 sp held n e cs' = some y) (hc : ∀ j, j < 1 → W.cell? ⟨b, o + j, none⟩ = cs'[j]?) : ∃ z : ByteArray, StrE W b o z ∧ z.size + 1 ≤ Rows.uptoBulk y.1 := by
  obtain ⟨z, rfl, rfl, hw⟩ := DataW.trod_string he h
  exact ⟨z, by have := hc 0 (by omega); simpa [StrE] using this, by simp [Rows.uptoBulk]⟩

end Go.Proofs.Ytfahnnkppakiiaa

/- Rational numbers that came in, opened. -/
namespace Go.Proofs.Ytfahnnkppakiiaa
open Go.ChangeShapes Go.WideShapes Go.ChangeAt Go.RowKit

theorem cellsRat : Try.prog.cellsOf 33 = 3 := by kernel_rfl
theorem cellsInt : Try.prog.cellsOf 31 = 2 := by kernel_rfl
theorem cellsNat : Try.prog.cellsOf 29 = 1 := by kernel_rfl
theorem cellsInts : Try.prog.cellsOf 23 = 1 := by kernel_rfl
theorem cellsI : Try.prog.cellsOf 3 = 1 := by kernel_rfl
theorem cellsB : Try.prog.cellsOf 4 = 1 := by kernel_rfl
theorem cellsS : Try.prog.cellsOf 9 = 1 := by kernel_rfl
theorem cellsU16 : Try.prog.cellsOf 80 = 1 := by kernel_rfl

theorem list_sum_ones {α : Type} (l : List α) : (l.map fun _ => 1).sum = l.length := by induction l with
  | nil => rfl
  | cons x l ih => simp only [List.map_cons, List.sum_cons, ih, List.length_cons]; omega

section
variable {H : Type} {enc : TypeId × Value → H} {W : World} {sp : Nat → Bool} {held : Bool} {n : Nat}
theorem open_nat {cs : List Value} {y : DataW H × List MemPlace} (h : DataW.trod enc Try.prog W 0 sp held n 29 cs = some y) :
    ∃ a c zs, cs = [.slice a (List.length zs) c] ∧ NatR W a c zs ∧ zs.length + 1 ≤ Rows.uptoBulk y.1 := by
  obtain ⟨a, c, zs, h1, h2, h3⟩ := open_sl Try.underlying29 cellsU16 (by omega) h (IntE .u16) (fun _ => 1) (fun m cs' y b o _ ht _ hc => conv_int Try.underlying80 m cs' y b o ht hc)
  rw [list_sum_ones] at h3
  exact ⟨a, c, zs, h1, h2, h3⟩
theorem open_intsl {cs : List Value} {y : DataW H × List MemPlace} (h : DataW.trod enc Try.prog W 0 sp held n 23 cs = some y) :
    ∃ a c zs, cs = [.slice a (List.length zs) c] ∧ IntsR W a c zs ∧ zs.length + 1 ≤ Rows.uptoBulk y.1 := by
  obtain ⟨a, c, zs, h1, h2, h3⟩ := open_sl Try.underlying23 cellsI (by omega) h (IntE .i64) (fun _ => 1) (fun m cs' y b o _ ht _ hc => conv_int Try.underlying3 m cs' y b o ht hc)
  rw [list_sum_ones] at h3
  exact ⟨a, c, zs, h1, h2, h3⟩
theorem open_strsl {cs : List Value} {y : DataW H × List MemPlace} (h : DataW.trod enc Try.prog W 0 sp held n 111 cs = some y) :
    ∃ a c zs, cs = [.slice a (List.length zs) c] ∧ StrsR W a c zs ∧ (zs.map fun s => s.size + 1).sum + 1 ≤ Rows.uptoBulk y.1 :=
  open_sl Try.underlying111 cellsS (by omega) h StrE (fun s => s.size + 1) (fun m cs' y b o _ ht _ hc => conv_str Try.underlying9 m cs' y b o ht hc)
theorem open_intst {cs : List Value} {y : DataW H × List MemPlace} (h : DataW.trod enc Try.prog W 0 sp held n 31 cs = some y) :
    ∃ b a c zs, cs = [.bool b, .slice a (List.length zs) c] ∧ NatR W a c zs ∧ zs.length + 2 ≤ Rows.uptoBulk y.1 := by
  obtain ⟨xs, m, rfl, rfl, hcl, hxl, hf⟩ := DataW.trod_struct Try.underlying31 h
  rw [cellsInt] at hcl
  obtain ⟨c0, c1, rfl⟩ := len2 hcl
  obtain ⟨y0, y1, rfl⟩ := len2 (show xs.length = 2 from hxl)
  · have h0 := hf 0 _ rfl
    have h1 := hf 1 _ rfl
    simp [cellsB, cellsNat] at h0 h1
    obtain ⟨b, e0, rfl⟩ := DataW.trod_bool Try.underlying4 h0
    obtain ⟨a, c, zs, e1, h2, h3⟩ := open_nat h1
    simp at e0 e1; subst e0; subst e1
    refine ⟨b, a, c, zs, rfl, h2, ?_⟩
    simp [Rows.uptoBulk, Rows.uptoBulkAll] at h3 ⊢
    omega
theorem open_rat {cs : List Value} {y : DataW H × List MemPlace} (h : DataW.trod enc Try.prog W 0 sp held n 33 cs = some y) :
    ∃ b na nc num da dc den, cs = [.bool b, .slice na (List.length num) nc, .slice da (List.length den) dc] ∧ NatR W na nc num ∧ NatR W da dc den ∧ num.length + den.length + 2 ≤ Rows.uptoBulk y.1 := by
  obtain ⟨xs, m, rfl, rfl, hcl, hxl, hf⟩ := DataW.trod_struct Try.underlying33 h
  rw [cellsRat] at hcl
  obtain ⟨c0, c1, c2, rfl⟩ := len3 hcl
  obtain ⟨y0, y1, rfl⟩ := len2 (show xs.length = 2 from hxl)
  · have h0 := hf 0 _ rfl
    have h1 := hf 1 _ rfl
    simp [cellsInt, cellsNat] at h0 h1
    obtain ⟨b, na, nc, num, e0, h2, h3⟩ := open_intst h0
    obtain ⟨da, dc, den, e1, h4, h5⟩ := open_nat h1
    simp at e0 e1
    obtain ⟨rfl, rfl⟩ := e0
    subst e1
    refine ⟨b, na, nc, num, da, dc, den, rfl, h2, h4, ?_⟩
    simp [Rows.uptoBulk, Rows.uptoBulkAll] at h3 h5 ⊢
    omega
end
end Go.Proofs.Ytfahnnkppakiiaa

/- Figures and lists of integers that came in, opened. -/
namespace Go.Proofs.Ytfahnnkppakiiaa
open Go.ChangeShapes Go.WideShapes Go.ChangeAt Go.RowKit

def Rt.weight (r : Rt) : Nat := r.num.length + r.den.length
def Step.weight (s : Step) : Nat := s.point.size + s.args.length + s.ratio.weight + 1
def Fct.weight (s : Fct) : Nat := s.args.length + s.ratio.weight + 1
def Fig.weight (f : Fig) : Nat := (f.steps.map Step.weight).sum + (f.goals.map Fct.weight).sum
theorem le_sum_map {α : Type} (g : α → Nat) {l : List α} {x : α} (h : x ∈ l) : g x ≤ (l.map g).sum := by
  induction l with
  | nil => cases h
  | cons y l ih =>
    simp only [List.map_cons, List.sum_cons]
    rcases List.mem_cons.1 h with rfl | h
    · omega
    · have := ih h; omega
theorem Fig.few_of {f : Fig} (h : f.weight ≤ 2000000) : f.few := by
  unfold Fig.weight at h
  refine ⟨fun s hs => ?_, fun s hs => ?_⟩
  · have h1 := le_sum_map Step.weight hs
    have h2 : s.weight = s.point.size + s.args.length + (s.ratio.num.length + s.ratio.den.length) + 1 := rfl
    constructor <;> omega
  · have h1 := le_sum_map Fct.weight hs
    have h2 : s.weight = s.args.length + (s.ratio.num.length + s.ratio.den.length) + 1 := rfl
    constructor <;> omega
theorem cellsStep : Try.prog.cellsOf 60 = 6 := by kernel_rfl
theorem cellsFct : Try.prog.cellsOf 62 = 5 := by kernel_rfl
theorem cellsFig : Try.prog.cellsOf 41 = 2 := by kernel_rfl
theorem cellsSteps : Try.prog.cellsOf 38 = 1 := by kernel_rfl
theorem cellsFcts : Try.prog.cellsOf 39 = 1 := by kernel_rfl

section
variable {H : Type} {enc : TypeId × Value → H} {W : World} {sp : Nat → Bool} {held : Bool}
theorem open_stepc {n : Nat} {cs : List Value} {y : DataW H × List MemPlace} (h : DataW.trod enc Try.prog W 0 sp held n 60 cs = some y) :
    ∃ (s : Step) (p : RA), cs = [.int .i64 s.kind, .string s.point, .slice p.aa s.args.length p.ac, .bool s.ratio.neg, .slice p.na s.ratio.num.length p.nc, .slice p.da s.ratio.den.length p.dc] ∧ PartsR W p s.args s.ratio ∧ InInt s.kind ∧ s.point.size ≤ 9223372036854775807 ∧ s.weight ≤ Rows.uptoBulk y.1 := by
  obtain ⟨xs, m, rfl, rfl, hcl, hxl, hf⟩ := DataW.trod_struct Try.underlying60 h
  rw [cellsStep] at hcl
  obtain ⟨c0, c1, c2, c3, c4, c5, rfl⟩ := len6 hcl
  obtain ⟨y0, y1, y2, y3, rfl⟩ := len4 (show xs.length = 4 from hxl)
  · have h0 := hf 0 _ rfl
    have h1 := hf 1 _ rfl
    have h2 := hf 2 _ rfl
    have h3 := hf 3 _ rfl
    simp [cellsI, cellsS, cellsInts, cellsRat] at h0 h1 h2 h3
    obtain ⟨kind, e0, rfl, w0⟩ := DataW.trod_int Try.underlying3 h0
    obtain ⟨point, e1, rfl, w1⟩ := DataW.trod_string Try.underlying9 h1
    obtain ⟨aa, ac, args, e2, r2, w2⟩ := open_intsl h2
    obtain ⟨neg, na, nc, num, da, dc, den, e3, r3, r4, w3⟩ := open_rat h3
    simp at e0 e1 e2 e3
    obtain ⟨rfl, rfl, rfl⟩ := e3
    subst e0 e1 e2
    refine ⟨⟨kind, point, args, ⟨neg, num, den⟩⟩, ⟨aa, ac, na, nc, da, dc⟩, rfl, ⟨r2, r3, r4⟩, inInt_of w0, w1, ?_⟩
    simp [Rows.uptoBulk, Rows.uptoBulkAll, Step.weight, Rt.weight] at w2 w3 ⊢
    have : point.data.size = point.size := rfl
    omega
theorem open_fctc {n : Nat} {cs : List Value} {y : DataW H × List MemPlace} (h : DataW.trod enc Try.prog W 0 sp held n 62 cs = some y) :
    ∃ (s : Fct) (p : RA), cs = [.int .i64 s.kind, .slice p.aa s.args.length p.ac, .bool s.ratio.neg, .slice p.na s.ratio.num.length p.nc, .slice p.da s.ratio.den.length p.dc] ∧ PartsR W p s.args s.ratio ∧ InInt s.kind ∧ s.weight ≤ Rows.uptoBulk y.1 := by
  obtain ⟨xs, m, rfl, rfl, hcl, hxl, hf⟩ := DataW.trod_struct Try.underlying62 h
  rw [cellsFct] at hcl
  obtain ⟨c0, c2, c3, c4, c5, rfl⟩ := len5 hcl
  obtain ⟨y0, y2, y3, rfl⟩ := len3 (show xs.length = 3 from hxl)
  · have h0 := hf 0 _ rfl
    have h2 := hf 1 _ rfl
    have h3 := hf 2 _ rfl
    simp [cellsI, cellsInts, cellsRat] at h0 h2 h3
    obtain ⟨kind, e0, rfl, w0⟩ := DataW.trod_int Try.underlying3 h0
    obtain ⟨aa, ac, args, e2, r2, w2⟩ := open_intsl h2
    obtain ⟨neg, na, nc, num, da, dc, den, e3, r3, r4, w3⟩ := open_rat h3
    simp at e0 e2 e3
    obtain ⟨rfl, rfl, rfl⟩ := e3
    subst e0 e2
    refine ⟨⟨kind, args, ⟨neg, num, den⟩⟩, ⟨aa, ac, na, nc, da, dc⟩, rfl, ⟨r2, r3, r4⟩, inInt_of w0, ?_⟩
    simp [Rows.uptoBulk, Rows.uptoBulkAll, Fct.weight, Rt.weight] at w2 w3 ⊢
    omega
theorem open_figc {n : Nat} {cs : List Value} {y : DataW H × List MemPlace} (h : DataW.trod enc Try.prog W 0 sp held n 41 cs = some y) :
    ∃ (f : Fig) (sa : Option Addr) (sc : Nat) (ga : Option Addr) (gc : Nat), cs = [.slice sa f.steps.length sc, .slice ga f.goals.length gc] ∧ FigR W sa sc ga gc f ∧ f.weight ≤ Rows.uptoBulk y.1 := by
  obtain ⟨xs, m, rfl, rfl, hcl, hxl, hf⟩ := DataW.trod_struct Try.underlying41 h
  rw [cellsFig] at hcl
  obtain ⟨c0, c1, rfl⟩ := len2 hcl
  obtain ⟨y0, y1, rfl⟩ := len2 (show xs.length = 2 from hxl)
  · have h0 := hf 0 _ rfl
    have h1 := hf 1 _ rfl
    simp [cellsSteps, cellsFcts] at h0 h1
    obtain ⟨sa, sc, steps, e0, r0, w0⟩ := open_sl Try.underlying38 cellsStep (by omega) h0 StepE Step.weight (fun k cs' y b o hk ht hl hc => by
      obtain ⟨s, p, rfl, hP, hi, hp, hw⟩ := open_stepc ht
      refine ⟨s, ⟨p, ⟨?_, ?_, ?_, ?_, ?_, ?_⟩, hP, hi, hp⟩, hw⟩
      · have := hc 0 (by omega); simpa using this
      · have := hc 1 (by omega); simpa using this
      · have := hc 2 (by omega); simpa using this
      · have := hc 3 (by omega); simpa using this
      · have := hc 4 (by omega); simpa using this
      · have := hc 5 (by omega); simpa using this)
    obtain ⟨ga, gc, goals, e1, r1, w1⟩ := open_sl Try.underlying39 cellsFct (by omega) h1 FctE Fct.weight (fun k cs' y b o hk ht hl hc => by
      obtain ⟨s, p, rfl, hP, hi, hw⟩ := open_fctc ht
      refine ⟨s, ⟨p, ⟨?_, ?_, ?_, ?_, ?_⟩, hP, hi⟩, hw⟩
      · have := hc 0 (by omega); simpa using this
      · have := hc 1 (by omega); simpa using this
      · have := hc 2 (by omega); simpa using this
      · have := hc 3 (by omega); simpa using this
      · have := hc 4 (by omega); simpa using this)
    simp at e0 e1
    subst e0 e1
    refine ⟨⟨steps, goals⟩, sa, sc, ga, gc, rfl, ⟨r0, r1⟩, ?_⟩
    simp [Rows.uptoBulk, Rows.uptoBulkAll, Fig.weight] at w0 w1 ⊢
    omega
set_option maxRecDepth 100000 in
/-- A FIGURE THAT CAME IN -/
theorem open_figure {r : Reach} {b0 : Nat} {v : Value} {d : DataW H} {p : List MemPlace} (hv : Value.okWide Try.prog W r b0 41 v) (h : DataW.Trod enc Try.prog W 0 sp held 41 v d p) :
    ∃ (f : Fig) (sa : Option Addr) (sc : Nat) (ga : Option Addr) (gc : Nat), v = f.val sa sc ga gc ∧ FigR W sa sc ga gc f ∧ f.weight ≤ Rows.uptoBulk d := by
  obtain ⟨cs, rfl, _⟩ := okWide_struct Try.underlying41 hv
  obtain ⟨n, hn⟩ := h
  obtain ⟨f, sa, sc, ga, gc, h1, h2, h3⟩ := open_figc hn
  refine ⟨f, sa, sc, ga, gc, ?_, h2, h3⟩
  obtain ⟨l⟩ := cs
  simp [Value.cells] at h1
  simp [Fig.val, h1]
set_option maxRecDepth 100000 in
/-- INTEGERS THAT CAME IN -/
theorem open_intsa {r : Reach} {b0 : Nat} {v : Value} {d : DataW H} {p : List MemPlace} (hv : Value.okWide Try.prog W r b0 23 v) (h : DataW.Trod enc Try.prog W 0 sp held 23 v d p) :
    ∃ (l : List Int) (a : Option Addr) (c : Nat), v = .slice a l.length c ∧ IntsR W a c l ∧ l.length + 1 ≤ Rows.uptoBulk d := by
  obtain ⟨n, hn⟩ := h
  obtain ⟨a, c, zs, h1, h2, h3⟩ := open_intsl hn
  obtain ⟨a', l', c', rfl⟩ := okWide_slice Try.underlying23 hv
  refine ⟨zs, a, c, ?_, h2, h3⟩
  simpa [Value.cells] using h1
end
end Go.Proofs.Ytfahnnkppakiiaa
