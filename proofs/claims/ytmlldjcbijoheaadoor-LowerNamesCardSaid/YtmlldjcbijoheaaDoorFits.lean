/- Walk: whether a figure is of the size that the statements speak of. -/
import Derived.Test.YtmlldjcbijoheaaDoorFigS
import Derived.Test.YtmlldjcbijoheaaDoorStrs
import Derived.Deep.LoopGhost
namespace Go.Proofs.YtmlldjcbijoheaaDoor
open Go.RowKit

def fitS (m : Nat) (qs : List Int) (r : Rt) : Bool := decide (qs.length ≤ m) && decide (r.num.length ≤ 20) && decide (r.den.length ≤ 20)
def Fig.fits (f : Fig) : Bool := f.steps.all (fun s => fitS 8 s.args s.ratio) && f.goals.all (fun s => fitS 12 s.args s.ratio) && decide (f.steps.length ≤ 60) && decide (f.goals.length ≤ 12)
theorem all_at {α : Type} {p : α → Bool} {l : List α} {k : Nat} {x : α} (h : l[k]? = some x) : (l.drop k).all p = (p x && (l.drop (k + 1)).all p) := by
  have hk := lt_of_get h
  rw [List.drop_eq_getElem_cons hk]
  have : l[k] = x := by rw [List.getElem?_eq_getElem hk] at h; exact Option.some.inj h
  rw [this, List.all_cons]
set_option maxRecDepth 100000 in
set_option maxHeartbeats 4000000 in
theorem fits_any (f : Fig) (sa : Option Addr) (sc : Nat) (ga : Option Addr) (gc : Nat) (w : World) (h : FigR w sa sc ga gc f) :
    Calls Tryd.prog 4 #[f.val sa sc ga gc] w fun e w' => e = .returned (.bool f.fits) ∧ Below w.heap.size w w' := by
  obtain ⟨steps, goals⟩ := f
  obtain ⟨hS, hG⟩ := h
  obtain ⟨res, hres⟩ : ∃ b, Fig.fits ⟨steps, goals⟩ = b := ⟨_, rfl⟩
  rw [hres]
  unfold Fig.fits at hres
  unfold Fig.val
  dsimp only at hS hG hres ⊢
  have hl1 := hS.len
  have hl2 := hG.len
  have HS := Lib.hid hS
  have HG := Lib.hid hG
  have HRES := Lib.hid hres
  have hz := Blk.new w 25 #[.slice sa steps.length sc, .slice ga goals.length gc]
  have hb0 : Below w.heap.size w (w.alloc (.cells #[.slice sa steps.length sc, .slice ga goals.length gc] 25)) := by go_grown
  clear hS hG hres
  go_enter Tryd.func4, Tryd.ntmps4
  go_wp2
  revert hz hb0
  generalize w.alloc (.cells #[.slice sa steps.length sc, .slice ga goals.length gc] 25) = w0
  intro hz hb0
  go_loopg [4, 10] steps.length (fun n _ q wr => ∃ k : Nat, k + n = steps.length ∧ q = .int .i64 k ∧ Below w.heap.size w wr ∧ Below w0.heap.size w0 wr ∧ steps.all (fun s => fitS 8 s.args s.ratio) = (steps.drop k).all (fun s => fitS 8 s.args s.ratio))
  case atStart => exact ⟨0, by omega, rfl, hb0, Below.refl _ _, rfl⟩
  case round =>
    obtain ⟨k, hkg, rfl, hw, hw0, hall⟩ := hrel
    have HKG := Lib.hid hkg
    have HALL := Lib.hid hall
    have hzr := hz.below' hw0
    have z0 := hzr.cell 0; have z1 := hzr.cell 1
    have hzl := hzr.lt
    clear hkg hall
    by_cases hlt : k < steps.length
    · obtain ⟨s, hs⟩ := get_of_lt hlt
      obtain ⟨b, off, rfl, ⟨aa, ac, na, nc, da, dc⟩, hC, hP, _, _⟩ := (HS.out.ext (Ext.below hw)).2.2 k s hs
      obtain ⟨c0, c1, c2, c3, c4, c5⟩ := hC
      have p1 := hP.1.len; have p2 := hP.2.1.len; have p3 := hP.2.2.len
      have hal := all_at (p := fun (s : Step) => fitS 8 s.args s.ratio) hs
      have HAL := Lib.hid hal
      have hw1 := hw.alloc hw.size (.cells #[.int .i64 s.kind, .string s.point, .slice aa s.args.length ac, .bool s.ratio.neg, .slice na s.ratio.num.length nc, .slice da s.ratio.den.length dc] 40)
      have hw2 := hw0.alloc hw0.size (.cells #[.int .i64 s.kind, .string s.point, .slice aa s.args.length ac, .bool s.ratio.neg, .slice na s.ratio.num.length nc, .slice da s.ratio.den.length dc] 40)
      dsimp only at c0 c1 c2 c3 c4 c5
      clear hs hP hal
      by_cases hbad : s.args.length ≤ 8 ∧ s.ratio.num.length ≤ 20 ∧ s.ratio.den.length ≤ 20
      · obtain ⟨b1, b2, b3⟩ := hbad
        have hfit : fitS 8 s.args s.ratio = true := by simp [fitS, b1, b2, b3]
        have hnx := HALL.out
        rw [HAL.out] at hnx
        simp only [hfit, Bool.true_and] at hnx
        have HNX := Lib.hid hnx
        clear hnx hfit
        go_wp2
        go_roundg (gk - 1)
        case rel => exact ⟨k + 1, by have := HKG.out; omega, by go_num, hw1, hw2, HNX.out⟩
        case measure => have := HKG.out; omega
      · have hfit : fitS 8 s.args s.ratio = false := by
          simp only [fitS, Bool.and_eq_false_iff, decide_eq_false_iff_not]; omega
        have hr : res = false := by
          rw [← HRES.out, HALL.out, HAL.out]
          simp [hfit]
        subst hr
        by_cases b1 : s.args.length ≤ 8
        · by_cases b2 : s.ratio.num.length ≤ 20
          · have b3 : 20 < s.ratio.den.length := by omega
            clear hbad hfit
            go_wp2
            go_ret
            exact ⟨rfl, hw1⟩
          · clear hbad hfit
            go_wp2
            go_ret
            exact ⟨rfl, hw1⟩
        · clear hbad hfit
          go_wp2
          go_ret
          exact ⟨rfl, hw1⟩
    · have hst : steps.all (fun s => fitS 8 s.args s.ratio) = true := by rw [HALL.out, List.drop_eq_nil_of_le (by omega)]; rfl
      have HR2 := HRES.out
      rw [hst, Bool.true_and] at HR2
      replace HR2 := Lib.hid HR2
      obtain ⟨wo, rfl⟩ : ∃ wo : World, wo = wr := ⟨_, rfl⟩
      clear HRES HALL HKG hst
      go_wp2
      go_loopg [6, 37] goals.length (fun n _ q wr => ∃ k : Nat, k + n = goals.length ∧ q = .int .i64 k ∧ Below w.heap.size w wr ∧ Below w0.heap.size w0 wr ∧ goals.all (fun s => fitS 12 s.args s.ratio) = (goals.drop k).all (fun s => fitS 12 s.args s.ratio))
      case atStart => exact ⟨0, by omega, rfl, hw, hw0, rfl⟩
      case round =>
        clear hw hw0 hzr z0 z1 hzl hlt
        obtain ⟨k2, hkg, rfl, hw, hw0, hall⟩ := hrel
        have HKG := Lib.hid hkg
        have HALL := Lib.hid hall
        have hzr := hz.below' hw0
        have z0 := hzr.cell 0; have z1 := hzr.cell 1
        have hzl := hzr.lt
        clear hkg hall
        by_cases hlt : k2 < goals.length
        · obtain ⟨s, hs⟩ := get_of_lt hlt
          obtain ⟨b, off, rfl, ⟨aa, ac, na, nc, da, dc⟩, hC, hP, _⟩ := (HG.out.ext (Ext.below hw)).2.2 k2 s hs
          obtain ⟨c0, c1, c2, c3, c4⟩ := hC
          have p1 := hP.1.len; have p2 := hP.2.1.len; have p3 := hP.2.2.len
          have hal := all_at (p := fun (s : Fct) => fitS 12 s.args s.ratio) hs
          have HAL := Lib.hid hal
          have hw1 := hw.alloc hw.size (.cells #[.int .i64 s.kind, .slice aa s.args.length ac, .bool s.ratio.neg, .slice na s.ratio.num.length nc, .slice da s.ratio.den.length dc] 42)
          have hw2 := hw0.alloc hw0.size (.cells #[.int .i64 s.kind, .slice aa s.args.length ac, .bool s.ratio.neg, .slice na s.ratio.num.length nc, .slice da s.ratio.den.length dc] 42)
          dsimp only at c0 c1 c2 c3 c4
          clear hs hP hal
          by_cases hbad : s.args.length ≤ 12 ∧ s.ratio.num.length ≤ 20 ∧ s.ratio.den.length ≤ 20
          · obtain ⟨b1, b2, b3⟩ := hbad
            have hfit : fitS 12 s.args s.ratio = true := by simp [fitS, b1, b2, b3]
            have hnx := HALL.out
            rw [HAL.out] at hnx
            simp only [hfit, Bool.true_and] at hnx
            have HNX := Lib.hid hnx
            clear hnx hfit
            go_wp2
            go_roundg (gk - 1)
            case rel => exact ⟨k2 + 1, by have := HKG.out; omega, by go_num, hw1, hw2, HNX.out⟩
            case measure => have := HKG.out; omega
          · have hfit : fitS 12 s.args s.ratio = false := by
              simp only [fitS, Bool.and_eq_false_iff, decide_eq_false_iff_not]; omega
            have hr : res = false := by
              rw [← HR2.out, HALL.out, HAL.out]
              simp [hfit]
            subst hr
            by_cases b1 : s.args.length ≤ 12
            · by_cases b2 : s.ratio.num.length ≤ 20
              · have b3 : 20 < s.ratio.den.length := by omega
                clear hbad hfit
                go_wp2
                go_ret
                exact ⟨rfl, hw1⟩
              · clear hbad hfit
                go_wp2
                go_ret
                exact ⟨rfl, hw1⟩
            · clear hbad hfit
              go_wp2
              go_ret
              exact ⟨rfl, hw1⟩
        · have hst : goals.all (fun s => fitS 12 s.args s.ratio) = true := by rw [HALL.out, List.drop_eq_nil_of_le (by omega)]; rfl
          have HR3 := HR2.out
          rw [hst, Bool.true_and] at HR3
          replace HR3 := Lib.hid HR3
          clear hst HR2 HALL HKG
          by_cases h60 : steps.length ≤ 60
          · have hr : res = decide (goals.length ≤ 12) := by rw [← HR3.out]; simp [h60]
            have HRR := Lib.hid hr
            clear hr
            go_wp2
            go_ret
            exact ⟨ret_bool (by rw [HRR.out]; rw [Bool.eq_iff_iff]; simp; omega), hw⟩
          · have hr : res = false := by rw [← HR3.out]; simp [h60]
            subst hr
            go_wp2
            go_ret
            exact ⟨rfl, hw⟩
end Go.Proofs.YtmlldjcbijoheaaDoor

