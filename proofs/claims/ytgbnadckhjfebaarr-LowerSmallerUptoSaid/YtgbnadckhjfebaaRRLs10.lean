/- A world in which only one block that was there may have turned. No function of the program in sight. -/
import Derived.Test.YtgbnadckhjfebaaRRLs9
import Derived.Test.YtgbnadckhjfebaaRRLs2
import Derived.Laws.CopyOwn
import Derived.Test.YtgbnadckhjfebaaRRLs1
import Derived.Maps.Range
import Derived.Maps.AppendAt

/- Walk: whether a step is right, by the reference. -/
namespace Go.Proofs.YtgbnadckhjfebaaRR
open Go.RowKit

def Step.cells (s : Step) (p : RA) : Array Value := #[.int .i64 s.kind, .string s.point, .slice p.aa s.args.length p.ac, .bool s.ratio.neg, .slice p.na s.ratio.num.length p.nc, .slice p.da s.ratio.den.length p.dc]
/-- the rest of the walk of 'right', behind the arguments -/
def errRest (l : List Step) (s : Step) (i : Nat) : Int :=
  if s.kind = 2 ∧ s.ratio.right = false then 1
  else if s.kind ≠ 2 ∧ s.ratio.none = false then 1
  else if s.point = ⟨#[]⟩ then 0
  else if isNameB s.point = false then 6
  else if (l.take i).any (fun t => decide (t.point = s.point)) = true then 7
  else 0

set_option maxRecDepth 100000 in
set_option maxHeartbeats 4000000 in
theorem right20_step (l : List Step) (i : Nat) (s : Step) (a : Option Addr) (c : Nat) (w : World) (h : StepsR w a c l) (hs : l[i]? = some s) (hq : s.ratio.few) :
    Calls Try.prog 9 #[.slice a l.length c, .int .i64 i] w fun e w' => e = .returned (.int .i64 (errStep l s i)) ∧ Below w.heap.size w w' := by
  have hlen := h.len
  have hi := lt_of_get hs
  obtain ⟨b, off, rfl, p, hC, hP, hkind, hpt⟩ := h.2.2 i s hs
  obtain ⟨kind, point, args, r⟩ := s
  obtain ⟨aa, ac, na, nc, da, dc⟩ := p
  obtain ⟨hI, hN, hD⟩ := hP
  dsimp only at hI hN hD hq hkind hpt
  obtain ⟨c0, c1, c2, c3, c4, c5⟩ := hC
  dsimp only at c0 c1 c2 c3 c4 c5
  obtain ⟨res, hres⟩ : ∃ x, errStep l ⟨kind, point, args, r⟩ i = x := ⟨_, rfl⟩
  rw [hres]
  unfold errStep at hres
  dsimp only at hres
  have CA := arity20_any kind
  have hA := arity20_in kind
  have CR := fun W (hW : Below w.heap.size w W) => right03_any r na nc da dc W (hN.ext (Ext.below hW)) (hD.ext (Ext.below hW)) hq.1 hq.2
  have CN := fun W => none20_any r na nc da dc W hq.1 hq.2
  have CI := fun W => isName15_any point W hpt
  have hlena := hI.len
  have hIn : ∀ a ∈ args, InInt a := fun a ha => by
    obtain ⟨k, hk⟩ := List.mem_iff_getElem?.1 ha
    obtain ⟨b, off, _, hc, hw⟩ := hI.2.2 k a hk
    exact inInt_of hw
  have HI := Lib.hid hI
  have HIn := Lib.hid hIn
  have HS := Lib.hid h
  revert CA hA hres CR CN CI
  generalize arity20 kind = ar
  generalize r.right = br
  generalize r.none = bn
  generalize isNameB point = bi
  intro hres CA hA CR CN CI
  replace CA := Lib.hid CA; replace CR := Lib.hid CR; replace CN := Lib.hid CN; replace CI := Lib.hid CI
  have HRES := Lib.hid hres
  obtain ⟨hk1, hk2⟩ := hkind
  obtain ⟨neg, num, den⟩ := r
  unfold Rt.val at CR CN
  dsimp only at CR CN c0 c1 c2 c3 c4 c5 ⊢
  have HL := Lib.hid hs
  clear hres hI hN hD hIn hq h hs
  have hz := Blk.new w 47 #[.int .i64 kind, .string point, .slice aa args.length ac, .bool neg, .slice na num.length nc, .slice da den.length dc]
  have hb0 : Below w.heap.size w (w.alloc (.cells #[.int .i64 kind, .string point, .slice aa args.length ac, .bool neg, .slice na num.length nc, .slice da den.length dc] 47)) := (Below.refl _ _).alloc (Nat.le_refl _) _
  by_cases h0 : ar < 0
  · have he : decide (ar < 0) = true := by simpa using h0
    have hr : res = 8 := by rw [← HRES.out, if_pos h0]
    subst hr
    clear h0 hz
    go_enter Try.func9, Try.ntmps9
    go_wp2_with (go_at_call 16; refine (CA.out _).mono ?_; rintro e w' ⟨rfl, rfl⟩)
    go_ret
    exact ⟨rfl, hb0⟩
  · have he : decide (ar < 0) = false := by simpa using h0
    have H0 := Lib.hid h0
    clear h0
    by_cases h1 : (args.length : Int) = ar
    · have he1 : ((args.length : Int) != ar) = false := by simpa using h1
      have H1 := Lib.hid h1
      clear h1
      go_enter Try.func9, Try.ntmps9
      go_wp2_with fail
      revert hz hb0
      generalize w.alloc (.cells #[.int .i64 kind, .string point, .slice aa args.length ac, .bool neg, .slice na num.length nc, .slice da den.length dc] 47) = w0
      intro hz hb0
      have z0 := hz.cell 0; have z1 := hz.cell 1; have z2 := hz.cell 2; have z3 := hz.cell 3; have z4 := hz.cell 4; have z5 := hz.cell 5
      refine (CA.out _).mono ?_
      rintro e w' ⟨rfl, rfl⟩
      go_wp2
      go_quiet ((go_at_call 16; exact Calls.quiet_of_same ((CA.out _).mono fun _ _ h => ⟨h.1, h.2.symm⟩)))
      have hz1 : Blk (w0.drewN nq) w.heap.size 47 #[.int .i64 kind, .string point, .slice aa args.length ac, .bool neg, .slice na num.length nc, .slice da den.length dc] := hz
      have hb1 := below_drewN hb0 nq
      clear z0 z1 z2 z3 z4 z5 hz hb0 CA c0 c1 c2 c3 c4 c5
      revert hz1 hb1
      generalize w0.drewN nq = w1
      intro hz1 hb1
      have z0 := hz1.cell 0; have z1 := hz1.cell 1; have z2 := hz1.cell 2; have z3 := hz1.cell 3; have z4 := hz1.cell 4; have z5 := hz1.cell 5
      go_wp2
      go_loop [7, 28] (fun _ q => ∃ k : Nat, k ≤ args.length ∧ q = .int .i64 k ∧ Hid ((args.take k).any (badArg i) = false)) (fun _ i => args.length - (intOf i).toNat)
      case atStart => exact ⟨0, by omega, rfl, rfl⟩
      case round =>
        obtain ⟨k, hk, rfl, hno⟩ := hrel
        by_cases hlt : k < args.length
        · obtain ⟨x, hx⟩ := get_of_lt hlt
          obtain ⟨b2, off2, rfl, hc⟩ := (HI.out.ext (Ext.below hb1)).2.2 k x hx
          have hc1 : w1.cell? ⟨b2, off2 + k, none⟩ = some (.int .i64 x) := by simpa using hc.1
          obtain ⟨hx1, hx2⟩ := HIn.out x (List.mem_of_getElem? hx)
          have HX := Lib.hid hx
          clear hc hx
          by_cases hbad : x < 0 ∨ (i : Int) ≤ x
          · have hr : res = 2 := by
              have hany : args.any (badArg i) = true := any_mem HX.out (by unfold badArg; exact decide_eq_true hbad)
              rw [← HRES.out, if_neg (by have := H0.out; omega), if_neg (by simpa using H1.out), if_pos hany]
            subst hr
            by_cases hx0 : x < 0
            · clear hbad
              go_wp2
              go_ret
              exact ⟨rfl, hb1⟩
            · have hge : (i : Int) ≤ x := by omega
              clear hbad
              go_wp2
              go_ret
              exact ⟨rfl, hb1⟩
          · have hx0 : 0 ≤ x := by omega
            have hxn : x < (i : Int) := by omega
            have hbf : badArg i x = false := by unfold badArg; exact decide_eq_false hbad
            have HBF := Lib.hid hbf
            clear hbad hbf
            go_wp2
            go_round
            case rel => exact ⟨k + 1, by omega, by go_num, by show _ = _; rw [any_take HX.out, hno.out, HBF.out]; rfl⟩
            case measure => simp [intOf]; omega
        · have hany : args.any (badArg i) = false := by
            have := hno.out
            rwa [take_all hlt] at this
          have HR2 := HRES.out
          rw [if_neg (by have := H0.out; omega), if_neg (by simpa using H1.out), if_neg (by rw [hany]; simp)] at HR2
          replace HR2 := Lib.hid HR2
          clear hany HRES
          by_cases hb2 : kind = 2 ∧ br = false
          · obtain ⟨hk2, rfl⟩ := hb2
            have hr : res = 1 := by rw [← HR2.out, if_pos ⟨hk2, rfl⟩]
            subst hr
            have hke : (kind == 2) = true := by simpa using hk2
            have hkn : (kind != 2) = false := by simpa using hk2
            clear hk2
            go_wp2_with fail
            refine (CR.out _ hb1).mono ?_
            rintro e w2 ⟨rfl, hb2⟩
            have hb3 := below_then hb1 hb2
            go_wp2
            go_ret
            exact ⟨rfl, hb3⟩
          · by_cases hb2' : kind ≠ 2 ∧ bn = false
            · have hr : res = 1 := by rw [← HR2.out, if_neg hb2, if_pos hb2']
              subst hr
              obtain ⟨hk2, rfl⟩ := hb2'
              have hke : (kind == 2) = false := by simpa using hk2
              have hkn : (kind != 2) = true := by simpa using hk2
              clear hk2 hb2
              go_wp2_with fail
              refine (CN.out _).mono ?_
              rintro e w2 ⟨rfl, hb2⟩
              have hb3 := below_then hb1 hb2
              go_wp2
              go_ret
              exact ⟨rfl, hb3⟩
            · have hgood : (kind = 2 ∧ br = true) ∨ (kind ≠ 2 ∧ bn = true) := by
                by_cases hk2 : kind = 2
                · left; refine ⟨hk2, ?_⟩; cases br
                  · exact absurd ⟨hk2, rfl⟩ hb2
                  · rfl
                · right; refine ⟨hk2, ?_⟩; cases bn
                  · exact absurd ⟨hk2, rfl⟩ hb2'
                  · rfl
              have HR3 := HR2.out
              rw [if_neg hb2, if_neg hb2'] at HR3
              replace HR3 := Lib.hid HR3
              clear hb2 hb2' HR2
              rcases hgood with ⟨hk2, rfl⟩ | ⟨hk2, rfl⟩
              all_goals
                first
                  | have hke : (kind == 2) = true := by simpa using hk2
                  | have hke : (kind == 2) = false := by simpa using hk2
                first
                  | have hkn : (kind != 2) = false := by simpa using hk2
                  | have hkn : (kind != 2) = true := by simpa using hk2
                clear hk2
                go_wp2_with fail
                first
                  | refine (CR.out _ hb1).mono ?_
                  | refine (CN.out _).mono ?_
                rintro e w2 ⟨rfl, hb2⟩
                have hz2 := hz1.below' hb2
                have hw2 := below_then hb1 hb2
                clear hb2 z0 z1 z2 z3 z4 z5 hz1 hb1 CR CN HI HIn
                have z0 := hz2.cell 0; have z1 := hz2.cell 1; have z2 := hz2.cell 2; have z3 := hz2.cell 3; have z4 := hz2.cell 4; have z5 := hz2.cell 5
                by_cases hpe : point = ⟨#[]⟩
                · have hr : res = 0 := by rw [← HR3.out, if_pos hpe]
                  subst hr
                  subst hpe
                  go_wp2
                  go_ret
                  exact ⟨rfl, hw2⟩
                · have hse : point.toList.isEmpty = false := by rw [str_isEmpty]; simpa using hpe
                  have HPE := Lib.hid hpe
                  have HR4 := HR3.out
                  rw [if_neg hpe] at HR4
                  replace HR4 := Lib.hid HR4
                  clear hpe HR3
                  cases bi
                  · have hr : res = 6 := by rw [← HR4.out, if_pos rfl]
                    subst hr
                    go_wp2_with fail
                    refine (CI.out _).mono ?_
                    rintro e w3 ⟨rfl, hb3⟩
                    have hw3 := below_then hw2 hb3
                    go_wp2
                    go_ret
                    exact ⟨rfl, hw3⟩
                  · have HR5 := HR4.out
                    rw [if_neg (by simp)] at HR5
                    replace HR5 := Lib.hid HR5
                    clear HR4
                    go_wp2_with fail
                    refine (CI.out _).mono ?_
                    rintro e w3 ⟨rfl, hb3⟩
                    have hw3 := below_then hw2 hb3
                    have hz3 := hz2.below' hb3
                    clear hb3 z0 z1 z2 z3 z4 z5 hz2 hw2 CI
                    have hcap := HS.out.1
                    have hcm := HS.out.2.1
                    unfold maxLen at hcm
                    go_wp2
                    go_loopg [9, 71] i (fun g _ q wr => ∃ k : Nat, k + g = i ∧ q = .int .i64 k ∧ Below w.heap.size w wr ∧ Blk wr w.heap.size 47 #[.int .i64 kind, .string point, .slice aa args.length ac, .bool neg, .slice na num.length nc, .slice da den.length dc] ∧
                      (l.take k).any (fun t => decide (t.point = point)) = false)
                    case atStart => exact ⟨0, by omega, rfl, hw3, hz3, rfl⟩
                    case round =>
                      obtain ⟨k2, hkg, rfl, hwr, hzr, hno2⟩ := hrel
                      have HKG := Lib.hid hkg
                      have HNO := Lib.hid hno2
                      have HZR := Lib.hid hzr
                      have z1 := hzr.cell 1
                      have hzl := hzr.lt
                      clear hw3 hz3 hno hno2 hkg hzr
                      by_cases hlt2 : k2 < i
                      · obtain ⟨t, ht⟩ := get_of_lt (xs := l) (k := k2) (by omega)
                        obtain ⟨b3, off3, hbo, pt, hCt, hPt, _, _⟩ := (HS.out.ext (Ext.below hwr)).2.2 k2 t ht
                        injection hbo with hbo
                        injection hbo with hbo1 hbo2
                        subst hbo1 hbo2
                        obtain ⟨t0, t1, t2, t3, t4, t5⟩ := hCt
                        have HT := Lib.hid ht
                        clear ht hPt
                        by_cases he : t.point = point
                        · have hr : res = 7 := by
                            have hany : (l.take i).any (fun t => decide (t.point = point)) = true := by
                              rw [List.any_eq_true]
                              refine ⟨t, ?_, by simpa using he⟩
                              apply List.mem_of_getElem? (i := k2)
                              rw [List.getElem?_take, if_pos hlt2]; exact HT.out
                            have := HR5.out
                            rw [if_pos hany] at this
                            exact this.symm
                          subst hr
                          have hbe : (t.point.toList == point.toList) = true := by rw [str_beq]; simpa using he
                          clear he
                          have hw4 := hwr.alloc hwr.size (.cells #[.int .i64 t.kind, .string t.point, .slice pt.aa t.args.length pt.ac, .bool t.ratio.neg, .slice pt.na t.ratio.num.length pt.nc, .slice pt.da t.ratio.den.length pt.dc] 47)
                          go_wp2
                          go_ret
                          exact ⟨rfl, hw4⟩
                        · have hbe : (t.point.toList == point.toList) = false := by rw [str_beq]; simpa using he
                          have HE := Lib.hid he
                          clear he
                          have hw4 := hwr.alloc hwr.size (.cells #[.int .i64 t.kind, .string t.point, .slice pt.aa t.args.length pt.ac, .bool t.ratio.neg, .slice pt.na t.ratio.num.length pt.nc, .slice pt.da t.ratio.den.length pt.dc] 47)
                          go_wp2
                          go_roundg (gk - 1)
                          case rel => exact ⟨k2 + 1, by have := HKG.out; omega, by go_num, hw4, HZR.out.alloc _, by rw [any_take HT.out, HNO.out]; simp [HE.out]⟩
                          case measure => have := HKG.out; omega
                      · have hr : res = 0 := by
                          have hany : (l.take i).any (fun t => decide (t.point = point)) = false := by
                            have := HNO.out
                            rwa [show k2 = i by have := HKG.out; omega] at this
                          have := HR5.out
                          rw [if_neg (by rw [hany]; simp)] at this
                          exact this.symm
                        subst hr
                        go_wp2
                        go_ret
                        exact ⟨rfl, hwr⟩
    · have he1 : ((args.length : Int) != ar) = true := by simpa using h1
      have hr : res = 1 := by rw [← HRES.out, if_neg (by have := H0.out; omega), if_pos h1]
      subst hr
      clear h1
      go_enter Try.func9, Try.ntmps9
      go_wp2_with fail
      revert hz hb0
      generalize w.alloc (.cells #[.int .i64 kind, .string point, .slice aa args.length ac, .bool neg, .slice na num.length nc, .slice da den.length dc] 47) = w0
      intro hz hb0
      have z0 := hz.cell 0; have z1 := hz.cell 1; have z2 := hz.cell 2; have z3 := hz.cell 3; have z4 := hz.cell 4; have z5 := hz.cell 5
      refine (CA.out _).mono ?_
      rintro e w' ⟨rfl, rfl⟩
      go_wp2
      go_quiet ((go_at_call 16; exact Calls.quiet_of_same ((CA.out _).mono fun _ _ h => ⟨h.1, h.2.symm⟩)))
      go_wp2
      go_ret
      exact ⟨rfl, below_drewN hb0 _⟩
end Go.Proofs.YtgbnadckhjfebaaRR

/- Walk: the first error of a figure, by the reference. -/
namespace Go.Proofs.YtgbnadckhjfebaaRR
open Go.RowKit

theorem errSteps_cons {l : List Step} {r : List Step} {s : Step} {k : Nat} (h : r[k]? = some s) : errSteps l (r.drop k) k = if errStep l s k ≠ 0 then errStep l s k else errSteps l (r.drop (k + 1)) (k + 1) := by
  have hk := lt_of_get h
  rw [List.drop_eq_getElem_cons hk]
  have : r[k] = s := by rw [List.getElem?_eq_getElem hk] at h; exact Option.some.inj h
  rw [this, errSteps]
theorem errGoals_cons {n : Int} {r : List Fct} {s : Fct} {k : Nat} (h : r[k]? = some s) : errGoals n (r.drop k) = if errFct s n ≠ 0 then errFct s n else errGoals n (r.drop (k + 1)) := by
  have hk := lt_of_get h
  rw [List.drop_eq_getElem_cons hk]
  have : r[k] = s := by rw [List.getElem?_eq_getElem hk] at h; exact Option.some.inj h
  rw [this, errGoals]

set_option maxRecDepth 100000 in
set_option maxHeartbeats 4000000 in
theorem right20_any (f : Fig) (sa : Option Addr) (sc : Nat) (ga : Option Addr) (gc : Nat) (w : World) (h : FigR w sa sc ga gc f) (hq : f.few) :
    Calls Try.prog 4 #[f.val sa sc ga gc] w fun e w' => e = .returned (.int .i64 f.err) ∧ Below w.heap.size w w' := by
  obtain ⟨steps, goals⟩ := f
  obtain ⟨hS, hG⟩ := h
  dsimp only at hS hG
  have hl1 := hS.len
  have hl2 := hG.len
  obtain ⟨res, hres⟩ : ∃ x, Fig.err ⟨steps, goals⟩ = x := ⟨_, rfl⟩
  rw [hres]
  unfold Fig.err at hres
  unfold Fig.val
  dsimp only at hres ⊢
  have HS := Lib.hid hS
  have HG := Lib.hid hG
  have HQ := Lib.hid hq
  have HRES := Lib.hid hres
  clear hS hG hq hres
  have hz := Blk.new w 25 #[.slice sa steps.length sc, .slice ga goals.length gc]
  have hb0 : Below w.heap.size w (w.alloc (.cells #[.slice sa steps.length sc, .slice ga goals.length gc] 25)) := (Below.refl _ _).alloc (Nat.le_refl _) _
  by_cases hbig : 40 < steps.length ∨ 8 < goals.length
  · have hr : res = 4 := by rw [← HRES.out, if_pos hbig]
    subst hr
    clear hz
    by_cases h1 : 40 < steps.length
    · clear hbig
      go_enter Try.func4, Try.ntmps4
      go_wp2
      go_ret
      exact ⟨rfl, hb0⟩
    · have h2 : 8 < goals.length := by omega
      clear hbig
      go_enter Try.func4, Try.ntmps4
      go_wp2
      go_ret
      exact ⟨rfl, hb0⟩
  · have h1 : steps.length ≤ 40 := by omega
    have h2 : goals.length ≤ 8 := by omega
    have HR1 := HRES.out
    rw [if_neg hbig] at HR1
    replace HR1 := Lib.hid HR1
    clear hbig HRES
    go_enter Try.func4, Try.ntmps4
    go_wp2
    revert hz hb0
    generalize w.alloc (.cells #[.slice sa steps.length sc, .slice ga goals.length gc] 25) = w0
    intro hz hb0
    go_loopg [3, 4, 21] steps.length (fun g _ _ q wr => ∃ k : Nat, k + g = steps.length ∧ q = .int .i64 k ∧ Below w.heap.size w wr ∧ Blk wr w.heap.size 25 #[.slice sa steps.length sc, .slice ga goals.length gc] ∧ errSteps steps (steps.drop k) k = errSteps steps steps 0)
    case atStart => exact ⟨0, by omega, rfl, hb0, hz, rfl⟩
    case round =>
      obtain ⟨k, hkg, rfl, hwr, hzr, he⟩ := hrel
      have HKG := Lib.hid hkg
      have HE := Lib.hid he
      have HZR := Lib.hid hzr
      have z0 := hzr.cell 0; have z1 := hzr.cell 1
      have hzl := hzr.lt
      clear hb0 hz hkg he hzr
      by_cases hlt : k < steps.length
      · obtain ⟨s, hs⟩ := get_of_lt hlt
        have C := right20_step steps k s sa sc wr (HS.out.ext (Ext.below hwr)) hs (HQ.out.1 s (List.mem_of_getElem? hs))
        have hes := errSteps_cons (l := steps) hs
        rw [HE.out] at hes
        revert C hes
        generalize errStep steps s k = ev
        intro C hes
        replace C := Lib.hid C
        have HES := Lib.hid hes
        clear hes hs
        by_cases hev : ev = 0
        · have hb : (ev != 0) = false := by simpa using hev
          have HE2 := HES.out
          rw [if_neg (by simpa using hev)] at HE2
          replace HE2 := Lib.hid HE2
          clear hev HES HE
          go_wp2_with fail
          refine C.out.mono ?_
          rintro e w2 ⟨rfl, hb2⟩
          have hw2 := below_then hwr hb2
          have hz2 := HZR.out.below' hb2
          clear hb2 C
          go_wp2
          go_roundg (gk - 1)
          case rel => exact ⟨k + 1, by have := HKG.out; omega, by go_num, hw2, hz2, HE2.out.symm⟩
          case measure => have := HKG.out; omega
        · have hb : (ev != 0) = true := by simpa using hev
          have hr : res = ev := by
            have h3 := HES.out
            rw [if_pos hev] at h3
            have := HR1.out
            rw [h3, if_pos hev] at this
            exact this.symm
          subst hr
          clear hev HES HE HR1
          go_wp2_with fail
          refine C.out.mono ?_
          rintro e w2 ⟨rfl, hb2⟩
          have hw2 := below_then hwr hb2
          clear hb2 C
          go_wp2
          go_ret
          exact ⟨rfl, hw2⟩
      · have HR2 := HR1.out
        have hz3 : errSteps steps steps 0 = 0 := by
          rw [← HE.out, List.drop_eq_nil_of_le (by omega)]; rfl
        rw [if_neg (by rw [hz3]; simp)] at HR2
        replace HR2 := Lib.hid HR2
        obtain ⟨wo, rfl⟩ : ∃ wo : World, wo = wr := ⟨_, rfl⟩
        clear hz3 HR1 HE HKG
        go_wp2
        go_loopg [6, 7, 35] goals.length (fun g _ _ q wr => ∃ k : Nat, k + g = goals.length ∧ q = .int .i64 k ∧ Below w.heap.size w wr ∧ Blk wr w.heap.size 25 #[.slice sa steps.length sc, .slice ga goals.length gc] ∧ errGoals steps.length (goals.drop k) = errGoals steps.length goals)
        case atStart => exact ⟨0, by omega, rfl, hwr, HZR.out, rfl⟩
        case round =>
          clear HZR z0 z1 hzl hwr
          obtain ⟨k2, hkg, rfl, hwr, hzr, he⟩ := hrel
          have HKG := Lib.hid hkg
          have HE := Lib.hid he
          have HZR := Lib.hid hzr
          have z0 := hzr.cell 0; have z1 := hzr.cell 1
          have hzl := hzr.lt
          clear hkg he hzr
          by_cases hlt2 : k2 < goals.length
          · obtain ⟨s, hs⟩ := get_of_lt hlt2
            obtain ⟨b, off, rfl, p, hC, hP, hki⟩ := (HG.out.ext (Ext.below hwr)).2.2 k2 s hs
            have hP' : PartsR (wr.alloc (.cells #[.int .i64 s.kind, .slice p.aa s.args.length p.ac, .bool s.ratio.neg, .slice p.na s.ratio.num.length p.nc, .slice p.da s.ratio.den.length p.dc] 39)) p s.args s.ratio := hP.ext (ext_alloc _ _)
            have C := right14_any s steps.length p _ hP' (HQ.out.2 s (List.mem_of_getElem? hs)) (by constructor <;> omega) hki
            obtain ⟨c0, c1, c2, c3, c4⟩ := hC
            have hes := errGoals_cons (n := steps.length) hs
            rw [HE.out] at hes
            unfold Fct.val at C
            revert C hes
            generalize errFct s steps.length = ev
            intro C hes
            replace C := Lib.hid C
            have HES := Lib.hid hes
            have hw1 := hwr.alloc hwr.size (.cells #[.int .i64 s.kind, .slice p.aa s.args.length p.ac, .bool s.ratio.neg, .slice p.na s.ratio.num.length p.nc, .slice p.da s.ratio.den.length p.dc] 39)
            have hz1 := HZR.out.alloc (.cells #[.int .i64 s.kind, .slice p.aa s.args.length p.ac, .bool s.ratio.neg, .slice p.na s.ratio.num.length p.nc, .slice p.da s.ratio.den.length p.dc] 39)
            clear hes hs hP hP' hki
            by_cases hev : ev = 0
            · have hb : (ev != 0) = false := by simpa using hev
              have HE2 := HES.out
              rw [if_neg (by simpa using hev)] at HE2
              replace HE2 := Lib.hid HE2
              clear hev HES HE
              go_wp2_with fail
              refine C.out.mono ?_
              rintro e w2 ⟨rfl, hb2⟩
              have hw2 := below_then hw1 hb2
              have hz2 := hz1.below' hb2
              clear hb2 C
              go_wp2
              go_roundg (gk - 1)
              case rel => exact ⟨k2 + 1, by have := HKG.out; omega, by go_num, hw2, hz2, HE2.out.symm⟩
              case measure => have := HKG.out; omega
            · have hb : (ev != 0) = true := by simpa using hev
              have hr : res = ev := by
                have h3 := HES.out
                rw [if_pos hev] at h3
                rw [← h3]; exact HR2.out.symm
              subst hr
              clear hev HES HE HR2
              go_wp2_with fail
              refine C.out.mono ?_
              rintro e w2 ⟨rfl, hb2⟩
              have hw2 := below_then hw1 hb2
              clear hb2 C
              go_wp2
              go_ret
              exact ⟨rfl, hw2⟩
          · have hr : res = 0 := by
              have h3 := HE.out
              rw [List.drop_eq_nil_of_le (by omega)] at h3
              rw [← HR2.out, ← h3]; rfl
            subst hr
            go_wp2
            go_ret
            exact ⟨rfl, hwr⟩
end Go.Proofs.YtgbnadckhjfebaaRR

/- Leading zeros struck off without copying; Euclid's steps. No function of the program in sight. -/
namespace Go.Proofs.YtgbnadckhjfebaaRR

theorem trim_take {l : List Int} (h : U16 l) : ∀ n, n ≤ l.length → val (l.drop n) = 0 → ∃ k, k ≤ n ∧ limbs (val l) = l.take k
  | 0, _, hv => ⟨0, Nat.le_refl _, by rw [List.drop_zero] at hv; rw [hv, limbs_zero, List.take_zero]⟩
  | n + 1, hn, hv => by
    obtain ⟨x, hx⟩ := get_of_lt (xs := l) (k := n) (by omega)
    by_cases hx0 : x = 0
    · obtain ⟨k, hk, e⟩ := trim_take h n (by omega) (by rw [val_drop hx, hv, hx0]; rfl)
      exact ⟨k, by omega, e⟩
    · refine ⟨n + 1, Nat.le_refl _, limbs_cut h hv (fun y _ hy => ?_) hn⟩
      rw [Nat.add_sub_cancel, hx] at hy
      injection hy with hy
      rw [← hy]
      exact hx0
theorem trim_some {l : List Int} (h : U16 l) : ∃ k, k ≤ l.length ∧ limbs (val l) = l.take k := trim_take h l.length (Nat.le_refl _) (by rw [List.drop_length]; rfl)
/-- what is left when the zeros are struck off lies where it lay -/
theorem NatR.trim {w : World} {a : Option Addr} {c : Nat} {l : List Int} (h : NatR w a c l) : NatR w a c (limbs (val l)) := by
  obtain ⟨k, _, e⟩ := trim_some h.u16
  rw [e]
  exact h.take k
/-- the loop of trim: the limbs from n on are zero -/
theorem trim_more {l : List Int} {n : Nat} {x : Int} (hx : l[n]? = some x) (h0 : x = 0) (hv : val (l.drop (n + 1)) = 0) : val (l.drop n) = 0 := by
  rw [val_drop hx, hv, h0]; rfl
theorem trim_stop {l : List Int} (h : U16 l) {n : Nat} {x : Int} (hx : l[n]? = some x) (h0 : x ≠ 0) (hv : val (l.drop (n + 1)) = 0) : limbs (val l) = l.take (n + 1) := by
  refine limbs_cut h hv (fun y _ hy => ?_) (lt_of_get hx)
  rw [Nat.add_sub_cancel, hx] at hy
  injection hy with hy
  rw [← hy]
  exact h0
theorem trim_zero {l : List Int} (hv : val (l.drop 0) = 0) : limbs (val l) = l.take 0 := by
  rw [List.drop_zero] at hv
  rw [hv, limbs_zero, List.take_zero]
/-- a number of at most four limbs -/
theorem small_iff {n : Nat} : (limbs n).length ≤ 4 ↔ n < 18446744073709551616 := by
  constructor
  · intro h
    have h1 := lt_pow_limbs n
    have h2 : 65536 ^ (limbs n).length ≤ 65536 ^ 4 := Nat.pow_le_pow_right (by omega) h
    have h3 : (65536 : Nat) ^ 4 = 18446744073709551616 := by decide
    omega
  · intro h
    exact limbs_len_le (by rw [show (65536 : Nat) ^ 4 = 18446744073709551616 by decide]; exact h)
/-- a limb is put above what lies below it -/
theorem uint_or {n x i : Nat} (h : n < 65536 ^ i) : n ||| x * 65536 ^ i = n + 65536 ^ i * x := by
  have e : (65536 : Nat) ^ i = 2 ^ (16 * i) := by rw [Nat.pow_mul]
  rw [e] at h ⊢
  rw [Nat.or_comm, Nat.mul_comm x, ← Nat.two_pow_add_eq_or_of_lt h, Nat.add_comm]
theorem gcd_step {a b : Nat} : Nat.gcd a b = Nat.gcd b (a % b) := by
  rw [Nat.gcd_comm a b, Nat.gcd_rec b a, Nat.gcd_comm]
end Go.Proofs.YtgbnadckhjfebaaRR

/- Walks: the program's natural numbers: trim, Norm, Of. -/
namespace Go.Proofs.YtgbnadckhjfebaaRR
open Go.RowKit

set_option maxHeartbeats 1000000 in
theorem trim_any (l : List Int) (a : Option Addr) (c : Nat) (w : World) (h : NatR w a c l) :
    Calls Try.prog 60 #[.slice a l.length c] w fun e w' => e = .returned (.slice a (limbs (val l)).length c) ∧ w = w' := by
  have H := Lib.hid h
  have hlen := SlR.len h
  have hcap := h.1
  have hcap2 := h.2.1
  unfold maxLen at hcap2
  obtain ⟨R, hR⟩ : ∃ q, (limbs (val l)).length = q := ⟨_, rfl⟩
  rw [hR]
  have HR := Lib.hid hR
  clear h hR
  go_enter Try.func60, Try.ntmps60
  go_wp2
  obtain ⟨wo, rfl⟩ : ∃ wo : World, wo = w := ⟨_, rfl⟩
  go_loopg [3] l.length (fun n q wr => n ≤ l.length ∧ q = .int .i64 n ∧ wo = wr ∧ Hid (val (l.drop n) = 0))
  case atStart => exact ⟨Nat.le_refl _, rfl, rfl, by simp [Hid, val]⟩
  case round =>
    obtain ⟨hn, rfl, rfl, hv⟩ := hrel
    by_cases h0 : gk = 0
    · subst h0
      have hr : R = 0 := by rw [← HR.out, trim_zero hv.out]; simp
      subst hr
      have hzc : (0 : Int) ≤ (c : Int) := by omega
      have hz1 : ¬ ((0 : Int) < ((0 : Nat) : Int)) := by omega
      go_wp2
      go_ret
      exact ⟨rfl, rfl⟩
    · obtain ⟨m, rfl⟩ : ∃ m, gk = m + 1 := ⟨gk - 1, by omega⟩
      obtain ⟨x, hx⟩ := get_of_lt (xs := l) (k := m) (by omega)
      obtain ⟨b, off, rfl, hc⟩ := H.out.cell hx
      have e1 : (((m + 1 : Nat) : Int)) = (m : Int) + 1 := by omega
      rw [e1]
      have hml : m < l.length := by omega
      have HX := Lib.hid hx
      by_cases hx0 : x = 0
      · have hxb : (x == 0) = true := by simpa using hx0
        have hv2 := Lib.hid (trim_more HX.out hx0 hv.out)
        clear hx0 hx hv e1
        go_wp2
        go_roundg m
        case rel => exact ⟨by omega, by first | rfl | go_num, rfl, hv2.out⟩
        case measure => omega
      · have hxb : (x == 0) = false := by simpa using hx0
        have hr : R = m + 1 := by rw [← HR.out, trim_stop H.out.u16 HX.out hx0 hv.out, List.length_take]; omega
        subst hr
        have hmc : (m : Int) + 1 ≤ (c : Int) := by omega
        clear hx0 hx hv e1
        go_wp2
        go_ret
        exact ⟨rfl, rfl⟩

theorem sizeN : (Try.prog.info? 68).map (·.size) = some 1 := by kernel_rfl
set_option maxRecDepth 100000 in
set_option maxHeartbeats 1000000 in
theorem norm_any (l : List Int) (a : Option Addr) (c : Nat) (w : World) (h : NatR w a c l) (hl : l.length ≤ 16777216) :
    Calls Try.prog 52 #[.slice a l.length c] w (RetN (limbs (val l)) w) := by
  have CT := trim_any l a c w h
  have hT := h.trim
  have hlT : (limbs (val l)).length ≤ 16777216 := by have := limbs_len_val h.u16; omega
  have huT := limbs_u16 (val l)
  revert CT hT hlT huT
  generalize limbs (val l) = T
  intro CT hT hlT huT
  replace CT := Lib.hid CT
  clear h
  by_cases h0 : T.length = 0
  · obtain rfl : T = [] := List.length_eq_zero_iff.1 h0
    clear h0 hT
    go_enter Try.func52, Try.ntmps52
    go_wp2_with fail
    refine CT.out.mono ?_
    rintro e w1 ⟨rfl, rfl⟩
    go_wp2
    go_ret
    exact ⟨none, 0, rfl, fun _ _ => SlR.nil, Below.refl _ _⟩
  · obtain ⟨x, hx⟩ := get_of_lt (xs := T) (k := 0) (by omega)
    obtain ⟨b, off, rfl, _⟩ := hT.cell hx
    have HT := Lib.hid hT
    have hmk := run_make_nat .i64 T.length hlT w
    have h0i : ((T.length : Int) == 0) = false := by rw [beq_eq_false_iff_ne]; omega
    clear hx hT h0
    go_enter Try.func52, Try.ntmps52
    go_wp2_with fail
    refine CT.out.mono ?_
    rintro e w1 ⟨rfl, rfl⟩
    have hg := Blk.new w 68 (madeCells #[.int .u16 0] T.length)
    have hms : (madeCells #[.int .u16 0] T.length).size = T.length := by simp [madeCells]
    have hsrc : ∀ j v, (T.map (Value.int .u16))[j]? = some v → (w.alloc (.cells (madeCells #[.int .u16 0] T.length) 68)).cell? ((⟨b, off, none⟩ : Addr).add j) = some v := fun j v hv => by
      rw [List.getElem?_map] at hv
      obtain ⟨y, hy, rfl⟩ := Option.map_eq_some_iff.1 hv
      obtain ⟨b2, off2, e2, hc2⟩ := HT.out.cell hy
      injection e2 with e2
      injection e2 with e3 e4
      subst e3
      subst e4
      rw [Addr.add_lit]
      exact Ext.alloc (Ext.refl w) _ _ _ hc2
    have HG := Lib.hid hg
    have HSRC := Lib.hid hsrc
    have HMS := Lib.hid hms
    have HMK := Lib.hid hmk
    clear hg hsrc hms
    have hcp := run_copy_row (P := Try.prog) (w.alloc (.cells (madeCells #[.int .u16 0] T.length) 68)) 33 33 3 68 w.heap.size 0 T.length T.length ⟨b, off, none⟩ T.length c _ 68 (T.map (Value.int .u16)) Try.underlying33 sizeN HG.out (by simp) HSRC.out (by rw [HMS.out]; simp) (by simp [Value.oneCell'])
    have hX : (madeCells #[.int .u16 0] T.length).toList.take 0 ++ T.map (Value.int .u16) ++ (madeCells #[.int .u16 0] T.length).toList.drop (0 + (T.map (Value.int .u16)).length) = T.map (Value.int .u16) := by
      rw [List.take_zero, List.nil_append, List.drop_eq_nil_of_le (by rw [Array.length_toList, HMS.out]; simp), List.append_nil]
    rw [hX] at hcp
    have hF : BlkN ((w.alloc (.cells (madeCells #[.int .u16 0] T.length) 68)).setRow w.heap.size (T.map (Value.int .u16)).toArray) w.heap.size T := setRow_heap _ _ _ _ _ _ HG.out
    have hB : Below w.heap.size w ((w.alloc (.cells (madeCells #[.int .u16 0] T.length) 68)).setRow w.heap.size (T.map (Value.int .u16)).toArray) := below_setRow ((Below.refl _ _).alloc (Nat.le_refl _) _) (Nat.le_refl _) _
    revert hF hB hcp
    generalize (w.alloc (.cells (madeCells #[.int .u16 0] T.length) 68)).setRow w.heap.size (T.map (Value.int .u16)).toArray = w2
    intro hcp hF hB
    go_wp2
    go_ret
    exact ⟨_, _, rfl, fun V hV => hF.readsV (Nat.le_refl _) hV huT (Nat.le_refl _) (by unfold maxLen; omega), hB⟩
end Go.Proofs.YtgbnadckhjfebaaRR

/- A world in which only one block that was there may have turned. No function of the program in sight. -/
namespace Go.Proofs.YtgbnadckhjfebaaRR
open Go.RowKit
section
variable {w w' w'' : World} {g : Nat}
theorem but_refl (w : World) (g : Nat) : w.grownBy w (some g) := World.grownBy.refl _ _
theorem but_alloc (h : w.grownBy w' (some g)) (o : Obj) : w.grownBy (w'.alloc o) (some g) := h.trans (World.grownBy_alloc _ _ _)
theorem but_drew (h : w.grownBy w' (some g)) : w.grownBy w'.drew (some g) := ⟨h.os, h.tape, h.output, h.size, h.block⟩
theorem but_drewN (h : w.grownBy w' (some g)) (n : Nat) : w.grownBy (w'.drewN n) (some g) := ⟨h.os, h.tape, h.output, h.size, h.block⟩
theorem but_set (h : w.grownBy w' (some g)) (i : Nat) (u : Value) : w.grownBy (w'.setCell ⟨g, i, none⟩ u) (some g) :=
  h.trans ⟨rfl, rfl, rfl, by simp [World.setCell], fun k _ hk => Below.heap_setCell _ _ _ _ (fun e => hk (by simp at e; rw [e]))⟩
theorem but_set_new (h : w.grownBy w' (some g)) {p : Addr} (hp : w.heap.size ≤ p.block) (u : Value) : w.grownBy (w'.setCell p u) (some g) :=
  ⟨h.os, h.tape, h.output, by have := h.size; simpa [World.setCell] using this, fun k hk hne => (Below.heap_setCell _ _ _ _ (by omega)).trans (h.block k hk hne)⟩
theorem but_below (h : w.grownBy w' (some g)) (hb : Below w'.heap.size w' w'') : w.grownBy w'' (some g) :=
  ⟨hb.os.trans h.os, hb.tape.trans h.tape, hb.output.trans h.output, Nat.le_trans h.size hb.size, fun k hk hne => (hb.block k (Nat.lt_of_lt_of_le hk h.size)).trans (h.block k hk hne)⟩
theorem but_append {α : Type} {f : α → List Value} {sz : Nat} {t : TypeId} {B : Nat} {W : World} {a : Option Addr} {c : Nat} {l : List α} (h : w.grownBy w' (some g)) (ho : Own f sz t B W a c l) (hB : w.heap.size ≤ B)
    (hg : w'.grownBy w'' (Value.ownBlock (.slice a l.length c))) : w.grownBy w'' (some g) :=
  h.andThen hg fun j hj => .inl (by
    cases a with
    | none => simp [Value.ownBlock] at hj
    | some p => simp [Value.ownBlock] at hj; have := (ho.lt rfl).1; omega)
theorem below_but {B : Nat} {w0 : World} (hb : Below B w0 w) (h : w.grownBy w' (some g)) (hg : B ≤ g) (hB : B ≤ w.heap.size) : Below B w0 w' := hb.grown h hB (fun k hk => by injection hk with hk; omega)
theorem New.but_back {B : Nat} {V : World} (h : New B w' V) (hg : w.grownBy w' (some g)) : NewBut B (some ⟨g, 0, none⟩) w V := fun p v hp hne hc =>
  h p v hp (hg.cell hc (fun e => hne _ rfl (by injection e)))
theorem NewBut.but_back {B : Nat} {V : World} (h : NewBut B (some ⟨g, 0, none⟩) w' V) (hg : w.grownBy w' (some g)) : NewBut B (some ⟨g, 0, none⟩) w V := fun p v hp hne hc =>
  h p v hp hne (hg.cell hc (fun e => hne _ rfl (by injection e)))
theorem Own.but {α : Type} {f : α → List Value} {sz : Nat} {t : TypeId} {B : Nat} {a : Option Addr} {c : Nat} {l : List α} (ho : Own f sz t B w a c l) (h : w.grownBy w' (some g)) (hB : g < B) : Own f sz t B w' a c l :=
  ho.grown h fun p hp e => by have := (ho.lt hp).1; injection e with e; omega
theorem Own.but2 {α : Type} {f : α → List Value} {sz : Nat} {t : TypeId} {B : Nat} {a : Option Addr} {c : Nat} {l : List α} (ho : Own f sz t B w a c l) (h : w.grownBy w' (some g)) (hne : ∀ p, a = some p → p.block ≠ g) : Own f sz t B w' a c l :=
  ho.grown h fun p hp e => by have := hne p hp; injection e with e; omega
theorem below_app {α : Type} {f : α → List Value} {sz : Nat} {t : TypeId} {B B' : Nat} {w0 W : World} {a : Option Addr} {c : Nat} {l : List α} (h : Below B w0 w) (ho : Own f sz t B' W a c l) (hB : B ≤ B') (hs : B ≤ w.heap.size)
    (hg : w.grownBy w' (Value.ownBlock (.slice a l.length c))) : Below B w0 w' := h.grown hg hs fun k hk => by
  cases a with
  | none => simp [Value.ownBlock] at hk
  | some p => simp [Value.ownBlock] at hk; have := (ho.lt rfl).1; omega
end
end Go.Proofs.YtgbnadckhjfebaaRR
