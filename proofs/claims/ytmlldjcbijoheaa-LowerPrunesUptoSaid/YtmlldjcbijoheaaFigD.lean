/- Walk: the first error of a figure, by the reference. -/
import Derived.Test.YtmlldjcbijoheaaFigC
namespace Go.Proofs.Ytmlldjcbijoheaa
open Go.RowKit

theorem errSteps_cons {l : List Step} {r : List Step} {s : Step} {k : Nat} (h : r[k]? = some s) : errSteps l (r.drop k) k = if errStep l s k ≠ 0 then errStep l s k else errSteps l (r.drop (k + 1)) (k + 1) := by
  have hk := lt_of_get h
  rw [List.drop_eq_getElem_cons hk]
  have : r[k] = s := by rw [List.getElem?_eq_getElem hk] at h; exact Option.some.inj h
  rw [this, errSteps]
theorem errGoals_cons {n : Int} {r : List Fct} {s : Fct} {k : Nat} (h : r[k]? = some s) : errGoals n (r.drop k) = if errFct s n ≠ 0 then errFct s n else errGoals n (r.drop (k + 1)) := by
  have hk := lt_of_get h
  rw [List.drop_eq_getElem_cons hk]
  have : r[k] = s := by rw [List.getElem?_eq_getElem hk] at h; exact Option.some.inj h
  rw [this, errGoals]

set_option maxRecDepth 100000 in
set_option maxHeartbeats 4000000 in
theorem right20_any (f : Fig) (sa : Option Addr) (sc : Nat) (ga : Option Addr) (gc : Nat) (w : World) (h : FigR w sa sc ga gc f) (hq : f.few) :
    Calls Try.prog 11 #[f.val sa sc ga gc] w fun e w' => e = .returned (.int .i64 f.err) ∧ Below w.heap.size w w' := by
  obtain ⟨steps, goals⟩ := f
  obtain ⟨hS, hG⟩ := h
  dsimp only at hS hG
  have hl1 := hS.len
  have hl2 := hG.len
  obtain ⟨res, hres⟩ : ∃ x, Fig.err ⟨steps, goals⟩ = x := ⟨_, rfl⟩
  rw [hres]
  unfold Fig.err at hres
  unfold Fig.val
  dsimp only at hres ⊢
  have HS := Lib.hid hS
  have HG := Lib.hid hG
  have HQ := Lib.hid hq
  have HRES := Lib.hid hres
  clear hS hG hq hres
  have hz := Blk.new w 25 #[.slice sa steps.length sc, .slice ga goals.length gc]
  have hb0 : Below w.heap.size w (w.alloc (.cells #[.slice sa steps.length sc, .slice ga goals.length gc] 25)) := (Below.refl _ _).alloc (Nat.le_refl _) _
  by_cases hbig : 40 < steps.length ∨ 8 < goals.length
  · have hr : res = 4 := by rw [← HRES.out, if_pos hbig]
    subst hr
    clear hz
    by_cases h1 : 40 < steps.length
    · clear hbig
      go_enter Try.func11, Try.ntmps11
      go_wp2
      go_ret
      exact ⟨rfl, hb0⟩
    · have h2 : 8 < goals.length := by omega
      clear hbig
      go_enter Try.func11, Try.ntmps11
      go_wp2
      go_ret
      exact ⟨rfl, hb0⟩
  · have h1 : steps.length ≤ 40 := by omega
    have h2 : goals.length ≤ 8 := by omega
    have HR1 := HRES.out
    rw [if_neg hbig] at HR1
    replace HR1 := Lib.hid HR1
    clear hbig HRES
    go_enter Try.func11, Try.ntmps11
    go_wp2
    revert hz hb0
    generalize w.alloc (.cells #[.slice sa steps.length sc, .slice ga goals.length gc] 25) = w0
    intro hz hb0
    go_loopg [3, 4, 21] steps.length (fun g _ _ q wr => ∃ k : Nat, k + g = steps.length ∧ q = .int .i64 k ∧ Below w.heap.size w wr ∧ Blk wr w.heap.size 25 #[.slice sa steps.length sc, .slice ga goals.length gc] ∧ errSteps steps (steps.drop k) k = errSteps steps steps 0)
    case atStart => exact ⟨0, by omega, rfl, hb0, hz, rfl⟩
    case round =>
      obtain ⟨k, hkg, rfl, hwr, hzr, he⟩ := hrel
      have HKG := Lib.hid hkg
      have HE := Lib.hid he
      have HZR := Lib.hid hzr
      have z0 := hzr.cell 0; have z1 := hzr.cell 1
      have hzl := hzr.lt
      clear hb0 hz hkg he hzr
      by_cases hlt : k < steps.length
      · obtain ⟨s, hs⟩ := get_of_lt hlt
        have C := right20_step steps k s sa sc wr (HS.out.ext (Ext.below hwr)) hs (HQ.out.1 s (List.mem_of_getElem? hs))
        have hes := errSteps_cons (l := steps) hs
        rw [HE.out] at hes
        revert C hes
        generalize errStep steps s k = ev
        intro C hes
        replace C := Lib.hid C
        have HES := Lib.hid hes
        clear hes hs
        by_cases hev : ev = 0
        · have hb : (ev != 0) = false := by simpa using hev
          have HE2 := HES.out
          rw [if_neg (by simpa using hev)] at HE2
          replace HE2 := Lib.hid HE2
          clear hev HES HE
          go_wp2_with fail
          refine C.out.mono ?_
          rintro e w2 ⟨rfl, hb2⟩
          have hw2 := below_then hwr hb2
          have hz2 := HZR.out.below' hb2
          clear hb2 C
          go_wp2
          go_roundg (gk - 1)
          case rel => exact ⟨k + 1, by have := HKG.out; omega, by go_num, hw2, hz2, HE2.out.symm⟩
          case measure => have := HKG.out; omega
        · have hb : (ev != 0) = true := by simpa using hev
          have hr : res = ev := by
            have h3 := HES.out
            rw [if_pos hev] at h3
            have := HR1.out
            rw [h3, if_pos hev] at this
            exact this.symm
          subst hr
          clear hev HES HE HR1
          go_wp2_with fail
          refine C.out.mono ?_
          rintro e w2 ⟨rfl, hb2⟩
          have hw2 := below_then hwr hb2
          clear hb2 C
          go_wp2
          go_ret
          exact ⟨rfl, hw2⟩
      · have HR2 := HR1.out
        have hz3 : errSteps steps steps 0 = 0 := by
          rw [← HE.out, List.drop_eq_nil_of_le (by omega)]; rfl
        rw [if_neg (by rw [hz3]; simp)] at HR2
        replace HR2 := Lib.hid HR2
        obtain ⟨wo, rfl⟩ : ∃ wo : World, wo = wr := ⟨_, rfl⟩
        clear hz3 HR1 HE HKG
        go_wp2
        go_loopg [6, 7, 35] goals.length (fun g _ _ q wr => ∃ k : Nat, k + g = goals.length ∧ q = .int .i64 k ∧ Below w.heap.size w wr ∧ Blk wr w.heap.size 25 #[.slice sa steps.length sc, .slice ga goals.length gc] ∧ errGoals steps.length (goals.drop k) = errGoals steps.length goals)
        case atStart => exact ⟨0, by omega, rfl, hwr, HZR.out, rfl⟩
        case round =>
          clear HZR z0 z1 hzl hwr
          obtain ⟨k2, hkg, rfl, hwr, hzr, he⟩ := hrel
          have HKG := Lib.hid hkg
          have HE := Lib.hid he
          have HZR := Lib.hid hzr
          have z0 := hzr.cell 0; have z1 := hzr.cell 1
          have hzl := hzr.lt
          clear hkg he hzr
          by_cases hlt2 : k2 < goals.length
          · obtain ⟨s, hs⟩ := get_of_lt hlt2
            obtain ⟨b, off, rfl, p, hC, hP, hki⟩ := (HG.out.ext (Ext.below hwr)).2.2 k2 s hs
            have hP' : PartsR (wr.alloc (.cells #[.int .i64 s.kind, .slice p.aa s.args.length p.ac, .bool s.ratio.neg, .slice p.na s.ratio.num.length p.nc, .slice p.da s.ratio.den.length p.dc] 78)) p s.args s.ratio := hP.ext (ext_alloc _ _)
            have C := right14_any s steps.length p _ hP' (HQ.out.2 s (List.mem_of_getElem? hs)) (by constructor <;> omega) hki
            obtain ⟨c0, c1, c2, c3, c4⟩ := hC
            have hes := errGoals_cons (n := steps.length) hs
            rw [HE.out] at hes
            unfold Fct.val at C
            revert C hes
            generalize errFct s steps.length = ev
            intro C hes
            replace C := Lib.hid C
            have HES := Lib.hid hes
            have hw1 := hwr.alloc hwr.size (.cells #[.int .i64 s.kind, .slice p.aa s.args.length p.ac, .bool s.ratio.neg, .slice p.na s.ratio.num.length p.nc, .slice p.da s.ratio.den.length p.dc] 78)
            have hz1 := HZR.out.alloc (.cells #[.int .i64 s.kind, .slice p.aa s.args.length p.ac, .bool s.ratio.neg, .slice p.na s.ratio.num.length p.nc, .slice p.da s.ratio.den.length p.dc] 78)
            clear hes hs hP hP' hki
            by_cases hev : ev = 0
            · have hb : (ev != 0) = false := by simpa using hev
              have HE2 := HES.out
              rw [if_neg (by simpa using hev)] at HE2
              replace HE2 := Lib.hid HE2
              clear hev HES HE
              go_wp2_with fail
              refine C.out.mono ?_
              rintro e w2 ⟨rfl, hb2⟩
              have hw2 := below_then hw1 hb2
              have hz2 := hz1.below' hb2
              clear hb2 C
              go_wp2
              go_roundg (gk - 1)
              case rel => exact ⟨k2 + 1, by have := HKG.out; omega, by go_num, hw2, hz2, HE2.out.symm⟩
              case measure => have := HKG.out; omega
            · have hb : (ev != 0) = true := by simpa using hev
              have hr : res = ev := by
                have h3 := HES.out
                rw [if_pos hev] at h3
                rw [← h3]; exact HR2.out.symm
              subst hr
              clear hev HES HE HR2
              go_wp2_with fail
              refine C.out.mono ?_
              rintro e w2 ⟨rfl, hb2⟩
              have hw2 := below_then hw1 hb2
              clear hb2 C
              go_wp2
              go_ret
              exact ⟨rfl, hw2⟩
          · have hr : res = 0 := by
              have h3 := HE.out
              rw [List.drop_eq_nil_of_le (by omega)] at h3
              rw [← HR2.out, ← h3]; rfl
            subst hr
            go_wp2
            go_ret
            exact ⟨rfl, hwr⟩
end Go.Proofs.Ytmlldjcbijoheaa
