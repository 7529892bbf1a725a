/- Walk: the first error of a figure, by the reference. -/
import Derived.Test.YtfahnnkppakiiaaLr12
import Derived.Test.YtfahnnkppakiiaaLr13

/- Walk: whether a step is right, by the reference. -/
namespace Go.Proofs.Ytfahnnkppakiiaa
open Go.RowKit

def Step.cells (s : Step) (p : RA) : Array Value := #[.int .i64 s.kind, .string s.point, .slice p.aa s.args.length p.ac, .bool s.ratio.neg, .slice p.na s.ratio.num.length p.nc, .slice p.da s.ratio.den.length p.dc]
/-- the rest of the walk of 'right', behind the arguments -/
def errRest (l : List Step) (s : Step) (i : Nat) : Int :=
  if s.kind = 2 ∧ s.ratio.right = false then 1
  else if s.kind ≠ 2 ∧ s.ratio.none = false then 1
  else if s.point = ⟨#[]⟩ then 0
  else if isNameB s.point = false then 6
  else if (l.take i).any (fun t => decide (t.point = s.point)) = true then 7
  else 0

set_option maxRecDepth 100000 in
set_option maxHeartbeats 4000000 in
theorem right20_step (l : List Step) (i : Nat) (s : Step) (a : Option Addr) (c : Nat) (w : World) (h : StepsR w a c l) (hs : l[i]? = some s) (hq : s.ratio.few) :
    Calls Try.prog 37 #[.slice a l.length c, .int .i64 i] w fun e w' => e = .returned (.int .i64 (errStep l s i)) ∧ Below w.heap.size w w' := by
  have hlen := h.len
  have hi := lt_of_get hs
  obtain ⟨b, off, rfl, p, hC, hP, hkind, hpt⟩ := h.2.2 i s hs
  obtain ⟨kind, point, args, r⟩ := s
  obtain ⟨aa, ac, na, nc, da, dc⟩ := p
  obtain ⟨hI, hN, hD⟩ := hP
  dsimp only at hI hN hD hq hkind hpt
  obtain ⟨c0, c1, c2, c3, c4, c5⟩ := hC
  dsimp only at c0 c1 c2 c3 c4 c5
  obtain ⟨res, hres⟩ : ∃ x, errStep l ⟨kind, point, args, r⟩ i = x := ⟨_, rfl⟩
  rw [hres]
  unfold errStep at hres
  dsimp only at hres
  have CA := arity20_any kind
  have hA := arity20_in kind
  have CR := fun W (hW : Below w.heap.size w W) => right03_any r na nc da dc W (hN.ext (Ext.below hW)) (hD.ext (Ext.below hW)) hq.1 hq.2
  have CN := fun W => none20_any r na nc da dc W hq.1 hq.2
  have CI := fun W => isName15_any point W hpt
  have hlena := hI.len
  have hIn : ∀ a ∈ args, InInt a := fun a ha => by
    obtain ⟨k, hk⟩ := List.mem_iff_getElem?.1 ha
    obtain ⟨b, off, _, hc, hw⟩ := hI.2.2 k a hk
    exact inInt_of hw
  have HI := Lib.hid hI
  have HIn := Lib.hid hIn
  have HS := Lib.hid h
  revert CA hA hres CR CN CI
  generalize arity20 kind = ar
  generalize r.right = br
  generalize r.none = bn
  generalize isNameB point = bi
  intro hres CA hA CR CN CI
  replace CA := Lib.hid CA; replace CR := Lib.hid CR; replace CN := Lib.hid CN; replace CI := Lib.hid CI
  have HRES := Lib.hid hres
  obtain ⟨hk1, hk2⟩ := hkind
  obtain ⟨neg, num, den⟩ := r
  unfold Rt.val at CR CN
  dsimp only at CR CN c0 c1 c2 c3 c4 c5 ⊢
  have HL := Lib.hid hs
  clear hres hI hN hD hIn hq h hs
  have hz := Blk.new w 60 #[.int .i64 kind, .string point, .slice aa args.length ac, .bool neg, .slice na num.length nc, .slice da den.length dc]
  have hb0 : Below w.heap.size w (w.alloc (.cells #[.int .i64 kind, .string point, .slice aa args.length ac, .bool neg, .slice na num.length nc, .slice da den.length dc] 60)) := (Below.refl _ _).alloc (Nat.le_refl _) _
  by_cases h0 : ar < 0
  · have he : decide (ar < 0) = true := by simpa using h0
    have hr : res = 8 := by rw [← HRES.out, if_pos h0]
    subst hr
    clear h0 hz
    go_enter Try.func37, Try.ntmps37
    go_wp2_with (go_at_call 16; refine (CA.out _).mono ?_; rintro e w' ⟨rfl, rfl⟩)
    go_ret
    exact ⟨rfl, hb0⟩
  · have he : decide (ar < 0) = false := by simpa using h0
    have H0 := Lib.hid h0
    clear h0
    by_cases h1 : (args.length : Int) = ar
    · have he1 : ((args.length : Int) != ar) = false := by simpa using h1
      have H1 := Lib.hid h1
      clear h1
      go_enter Try.func37, Try.ntmps37
      go_wp2_with fail
      revert hz hb0
      generalize w.alloc (.cells #[.int .i64 kind, .string point, .slice aa args.length ac, .bool neg, .slice na num.length nc, .slice da den.length dc] 60) = w0
      intro hz hb0
      have z0 := hz.cell 0; have z1 := hz.cell 1; have z2 := hz.cell 2; have z3 := hz.cell 3; have z4 := hz.cell 4; have z5 := hz.cell 5
      refine (CA.out _).mono ?_
      rintro e w' ⟨rfl, rfl⟩
      go_wp2
      go_quiet ((go_at_call 16; exact Calls.quiet_of_same ((CA.out _).mono fun _ _ h => ⟨h.1, h.2.symm⟩)))
      have hz1 : Blk (w0.drewN nq) w.heap.size 60 #[.int .i64 kind, .string point, .slice aa args.length ac, .bool neg, .slice na num.length nc, .slice da den.length dc] := hz
      have hb1 := below_drewN hb0 nq
      clear z0 z1 z2 z3 z4 z5 hz hb0 CA c0 c1 c2 c3 c4 c5
      revert hz1 hb1
      generalize w0.drewN nq = w1
      intro hz1 hb1
      have z0 := hz1.cell 0; have z1 := hz1.cell 1; have z2 := hz1.cell 2; have z3 := hz1.cell 3; have z4 := hz1.cell 4; have z5 := hz1.cell 5
      go_wp2
      go_loop [7, 28] (fun _ q => ∃ k : Nat, k ≤ args.length ∧ q = .int .i64 k ∧ Hid ((args.take k).any (badArg i) = false)) (fun _ i => args.length - (intOf i).toNat)
      case atStart => exact ⟨0, by omega, rfl, rfl⟩
      case round =>
        obtain ⟨k, hk, rfl, hno⟩ := hrel
        by_cases hlt : k < args.length
        · obtain ⟨x, hx⟩ := get_of_lt hlt
          obtain ⟨b2, off2, rfl, hc⟩ := (HI.out.ext (Ext.below hb1)).2.2 k x hx
          have hc1 : w1.cell? ⟨b2, off2 + k, none⟩ = some (.int .i64 x) := by simpa using hc.1
          obtain ⟨hx1, hx2⟩ := HIn.out x (List.mem_of_getElem? hx)
          have HX := Lib.hid hx
          clear hc hx
          by_cases hbad : x < 0 ∨ (i : Int) ≤ x
          · have hr : res = 2 := by
              have hany : args.any (badArg i) = true := any_mem HX.out (by unfold badArg; exact decide_eq_true hbad)
              rw [← HRES.out, if_neg (by have := H0.out; omega), if_neg (by simpa using H1.out), if_pos hany]
            subst hr
            by_cases hx0 : x < 0
            · clear hbad
              go_wp2
              go_ret
              exact ⟨rfl, hb1⟩
            · have hge : (i : Int) ≤ x := by omega
              clear hbad
              go_wp2
              go_ret
              exact ⟨rfl, hb1⟩
          · have hx0 : 0 ≤ x := by omega
            have hxn : x < (i : Int) := by omega
            have hbf : badArg i x = false := by unfold badArg; exact decide_eq_false hbad
            have HBF := Lib.hid hbf
            clear hbad hbf
            go_wp2
            go_round
            case rel => exact ⟨k + 1, by omega, by go_num, by show _ = _; rw [any_take HX.out, hno.out, HBF.out]; rfl⟩
            case measure => simp [intOf]; omega
        · have hany : args.any (badArg i) = false := by
            have := hno.out
            rwa [take_all hlt] at this
          have HR2 := HRES.out
          rw [if_neg (by have := H0.out; omega), if_neg (by simpa using H1.out), if_neg (by rw [hany]; simp)] at HR2
          replace HR2 := Lib.hid HR2
          clear hany HRES
          by_cases hb2 : kind = 2 ∧ br = false
          · obtain ⟨hk2, rfl⟩ := hb2
            have hr : res = 1 := by rw [← HR2.out, if_pos ⟨hk2, rfl⟩]
            subst hr
            have hke : (kind == 2) = true := by simpa using hk2
            have hkn : (kind != 2) = false := by simpa using hk2
            clear hk2
            go_wp2_with fail
            refine (CR.out _ hb1).mono ?_
            rintro e w2 ⟨rfl, hb2⟩
            have hb3 := below_then hb1 hb2
            go_wp2
            go_ret
            exact ⟨rfl, hb3⟩
          · by_cases hb2' : kind ≠ 2 ∧ bn = false
            · have hr : res = 1 := by rw [← HR2.out, if_neg hb2, if_pos hb2']
              subst hr
              obtain ⟨hk2, rfl⟩ := hb2'
              have hke : (kind == 2) = false := by simpa using hk2
              have hkn : (kind != 2) = true := by simpa using hk2
              clear hk2 hb2
              go_wp2_with fail
              refine (CN.out _).mono ?_
              rintro e w2 ⟨rfl, hb2⟩
              have hb3 := below_then hb1 hb2
              go_wp2
              go_ret
              exact ⟨rfl, hb3⟩
            · have hgood : (kind = 2 ∧ br = true) ∨ (kind ≠ 2 ∧ bn = true) := by
                by_cases hk2 : kind = 2
                · left; refine ⟨hk2, ?_⟩; cases br
                  · exact absurd ⟨hk2, rfl⟩ hb2
                  · rfl
                · right; refine ⟨hk2, ?_⟩; cases bn
                  · exact absurd ⟨hk2, rfl⟩ hb2'
                  · rfl
              have HR3 := HR2.out
              rw [if_neg hb2, if_neg hb2'] at HR3
              replace HR3 := Lib.hid HR3
              clear hb2 hb2' HR2
              rcases hgood with ⟨hk2, rfl⟩ | ⟨hk2, rfl⟩
              all_goals
                first
                  | have hke : (kind == 2) = true := by simpa using hk2
                  | have hke : (kind == 2) = false := by simpa using hk2
                first
                  | have hkn : (kind != 2) = false := by simpa using hk2
                  | have hkn : (kind != 2) = true := by simpa using hk2
                clear hk2
                go_wp2_with fail
                first
                  | refine (CR.out _ hb1).mono ?_
                  | refine (CN.out _).mono ?_
                rintro e w2 ⟨rfl, hb2⟩
                have hz2 := hz1.below' hb2
                have hw2 := below_then hb1 hb2
                clear hb2 z0 z1 z2 z3 z4 z5 hz1 hb1 CR CN HI HIn
                have z0 := hz2.cell 0; have z1 := hz2.cell 1; have z2 := hz2.cell 2; have z3 := hz2.cell 3; have z4 := hz2.cell 4; have z5 := hz2.cell 5
                by_cases hpe : point = ⟨#[]⟩
                · have hr : res = 0 := by rw [← HR3.out, if_pos hpe]
                  subst hr
                  subst hpe
                  go_wp2
                  go_ret
                  exact ⟨rfl, hw2⟩
                · have hse : point.toList.isEmpty = false := by rw [str_isEmpty]; simpa using hpe
                  have HPE := Lib.hid hpe
                  have HR4 := HR3.out
                  rw [if_neg hpe] at HR4
                  replace HR4 := Lib.hid HR4
                  clear hpe HR3
                  cases bi
                  · have hr : res = 6 := by rw [← HR4.out, if_pos rfl]
                    subst hr
                    go_wp2_with fail
                    refine (CI.out _).mono ?_
                    rintro e w3 ⟨rfl, hb3⟩
                    have hw3 := below_then hw2 hb3
                    go_wp2
                    go_ret
                    exact ⟨rfl, hw3⟩
                  · have HR5 := HR4.out
                    rw [if_neg (by simp)] at HR5
                    replace HR5 := Lib.hid HR5
                    clear HR4
                    go_wp2_with fail
                    refine (CI.out _).mono ?_
                    rintro e w3 ⟨rfl, hb3⟩
                    have hw3 := below_then hw2 hb3
                    have hz3 := hz2.below' hb3
                    clear hb3 z0 z1 z2 z3 z4 z5 hz2 hw2 CI
                    have hcap := HS.out.1
                    have hcm := HS.out.2.1
                    unfold maxLen at hcm
                    go_wp2
                    go_loopg [9, 71] i (fun g _ q wr => ∃ k : Nat, k + g = i ∧ q = .int .i64 k ∧ Below w.heap.size w wr ∧ Blk wr w.heap.size 60 #[.int .i64 kind, .string point, .slice aa args.length ac, .bool neg, .slice na num.length nc, .slice da den.length dc] ∧
                      (l.take k).any (fun t => decide (t.point = point)) = false)
                    case atStart => exact ⟨0, by omega, rfl, hw3, hz3, rfl⟩
                    case round =>
                      obtain ⟨k2, hkg, rfl, hwr, hzr, hno2⟩ := hrel
                      have HKG := Lib.hid hkg
                      have HNO := Lib.hid hno2
                      have HZR := Lib.hid hzr
                      have z1 := hzr.cell 1
                      have hzl := hzr.lt
                      clear hw3 hz3 hno hno2 hkg hzr
                      by_cases hlt2 : k2 < i
                      · obtain ⟨t, ht⟩ := get_of_lt (xs := l) (k := k2) (by omega)
                        obtain ⟨b3, off3, hbo, pt, hCt, hPt, _, _⟩ := (HS.out.ext (Ext.below hwr)).2.2 k2 t ht
                        injection hbo with hbo
                        injection hbo with hbo1 hbo2
                        subst hbo1 hbo2
                        obtain ⟨t0, t1, t2, t3, t4, t5⟩ := hCt
                        have HT := Lib.hid ht
                        clear ht hPt
                        by_cases he : t.point = point
                        · have hr : res = 7 := by
                            have hany : (l.take i).any (fun t => decide (t.point = point)) = true := by
                              rw [List.any_eq_true]
                              refine ⟨t, ?_, by simpa using he⟩
                              apply List.mem_of_getElem? (i := k2)
                              rw [List.getElem?_take, if_pos hlt2]; exact HT.out
                            have := HR5.out
                            rw [if_pos hany] at this
                            exact this.symm
                          subst hr
                          have hbe : (t.point.toList == point.toList) = true := by rw [str_beq]; simpa using he
                          clear he
                          have hw4 := hwr.alloc hwr.size (.cells #[.int .i64 t.kind, .string t.point, .slice pt.aa t.args.length pt.ac, .bool t.ratio.neg, .slice pt.na t.ratio.num.length pt.nc, .slice pt.da t.ratio.den.length pt.dc] 60)
                          go_wp2
                          go_ret
                          exact ⟨rfl, hw4⟩
                        · have hbe : (t.point.toList == point.toList) = false := by rw [str_beq]; simpa using he
                          have HE := Lib.hid he
                          clear he
                          have hw4 := hwr.alloc hwr.size (.cells #[.int .i64 t.kind, .string t.point, .slice pt.aa t.args.length pt.ac, .bool t.ratio.neg, .slice pt.na t.ratio.num.length pt.nc, .slice pt.da t.ratio.den.length pt.dc] 60)
                          go_wp2
                          go_roundg (gk - 1)
                          case rel => exact ⟨k2 + 1, by have := HKG.out; omega, by go_num, hw4, HZR.out.alloc _, by rw [any_take HT.out, HNO.out]; simp [HE.out]⟩
                          case measure => have := HKG.out; omega
                      · have hr : res = 0 := by
                          have hany : (l.take i).any (fun t => decide (t.point = point)) = false := by
                            have := HNO.out
                            rwa [show k2 = i by have := HKG.out; omega] at this
                          have := HR5.out
                          rw [if_neg (by rw [hany]; simp)] at this
                          exact this.symm
                        subst hr
                        go_wp2
                        go_ret
                        exact ⟨rfl, hwr⟩
    · have he1 : ((args.length : Int) != ar) = true := by simpa using h1
      have hr : res = 1 := by rw [← HRES.out, if_neg (by have := H0.out; omega), if_pos h1]
      subst hr
      clear h1
      go_enter Try.func37, Try.ntmps37
      go_wp2_with fail
      revert hz hb0
      generalize w.alloc (.cells #[.int .i64 kind, .string point, .slice aa args.length ac, .bool neg, .slice na num.length nc, .slice da den.length dc] 60) = w0
      intro hz hb0
      have z0 := hz.cell 0; have z1 := hz.cell 1; have z2 := hz.cell 2; have z3 := hz.cell 3; have z4 := hz.cell 4; have z5 := hz.cell 5
      refine (CA.out _).mono ?_
      rintro e w' ⟨rfl, rfl⟩
      go_wp2
      go_quiet ((go_at_call 16; exact Calls.quiet_of_same ((CA.out _).mono fun _ _ h => ⟨h.1, h.2.symm⟩)))
      go_wp2
      go_ret
      exact ⟨rfl, below_drewN hb0 _⟩
end Go.Proofs.Ytfahnnkppakiiaa

/- Walk: whether a step is right, by the program. -/
namespace Go.Proofs.Ytfahnnkppakiiaa
open Go.RowKit

set_option maxRecDepth 100000 in
set_option maxHeartbeats 4000000 in
theorem checkL_any (l : List Step) (i : Nat) (s : Step) (a : Option Addr) (c : Nat) (w : World) (h : StepsR w a c l) (hs : l[i]? = some s) (hq : s.ratio.few) :
    Calls Try.prog 35 #[.slice a l.length c, .int .i64 i] w fun e w' => e = .returned (.int .i64 (errStep l s i)) ∧ Below w.heap.size w w' := by
  have hlen := h.len
  have hcap0 := h.1
  have hcm0 := h.2.1
  have hi := lt_of_get hs
  obtain ⟨b, off, rfl, p, hC, hP, hkind, hpt⟩ := h.2.2 i s hs
  obtain ⟨kind, point, args, r⟩ := s
  obtain ⟨aa, ac, na, nc, da, dc⟩ := p
  obtain ⟨hI, hN, hD⟩ := hP
  dsimp only at hI hN hD hq hkind hpt
  obtain ⟨c0, c1, c2, c3, c4, c5⟩ := hC
  dsimp only at c0 c1 c2 c3 c4 c5
  obtain ⟨res, hres⟩ : ∃ x, errStep l ⟨kind, point, args, r⟩ i = x := ⟨_, rfl⟩
  rw [hres]
  unfold errStep at hres
  dsimp only at hres
  have CA := arityL_any kind
  have hA := arity20_in kind
  have CR := fun W (hW : Below w.heap.size w W) => rightQ_any r na nc da dc W (hN.ext (Ext.below hW)) (hD.ext (Ext.below hW)) hq.1 hq.2
  have CN := fun W => noneL_any r na nc da dc W hq.1 hq.2
  have CI := fun W => isName_any point W hpt
  have CB := fun W (hW : Below w.heap.size w W) (g : Nat) => anyBad_any args i g aa ac W (hI.ext (Ext.below hW))
  have CS := fun W (hW : Below w.heap.size w W) (g : Nat) => anySame_any (l.take i) point g (some ⟨b, off, none⟩) c W (StepsR.ext (SlR.taken h i) (Ext.below hW))
  have htl : (l.take i).length = i := by simp; omega
  rw [htl] at CS
  have hlena := hI.len
  have hk0 := held c0; have hk1 := held c1; have hk2 := held c2; have hk3 := held c3; have hk4 := held c4; have hk5 := held c5
  have hbl : b < w.heap.size := World.block_lt_of_cell? w _ c0
  revert CA hA hres CR CN CI CB CS
  generalize arity20 kind = ar
  generalize r.right = br
  generalize r.none = bn
  generalize isNameB point = bi
  generalize args.any (badArg i) = bb
  generalize ((l.take i).any fun t => decide (t.point = point)) = bs
  intro hres CA hA CR CN CI CB CS
  replace CA := Lib.hid CA; replace CR := Lib.hid CR; replace CN := Lib.hid CN; replace CI := Lib.hid CI; replace CB := Lib.hid CB; replace CS := Lib.hid CS
  have HRES := Lib.hid hres
  obtain ⟨hk1', hk2'⟩ := hkind
  obtain ⟨neg, num, den⟩ := r
  unfold Rt.val at CR CN
  dsimp only at CR CN c0 c1 c2 c3 c4 c5 hk3 hk4 hk5 ⊢
  unfold maxLen at hcm0
  have hii : (i : Int) ≤ (c : Int) := by omega
  have hic : i ≤ c := by omega
  clear hres hI hN hD hq h hs htl
  have hz : Blk ((w.alloc (.cells #[.int .i64 (i : Int)] 3)).alloc (.cells #[.int .i64 kind, .string point, .slice aa args.length ac, .bool neg, .slice na num.length nc, .slice da den.length dc] 60)) (w.heap.size + 1) 60 #[.int .i64 kind, .string point, .slice aa args.length ac, .bool neg, .slice na num.length nc, .slice da den.length dc] := blk_at1 w _ _ _
  have hzi : Blk ((w.alloc (.cells #[.int .i64 (i : Int)] 3)).alloc (.cells #[.int .i64 kind, .string point, .slice aa args.length ac, .bool neg, .slice na num.length nc, .slice da den.length dc] 60)) w.heap.size 3 #[.int .i64 (i : Int)] := (Blk.new w _ _).alloc _
  have hb0 : Below w.heap.size w ((w.alloc (.cells #[.int .i64 (i : Int)] 3)).alloc (.cells #[.int .i64 kind, .string point, .slice aa args.length ac, .bool neg, .slice na num.length nc, .slice da den.length dc] 60)) := ((Below.refl _ _).alloc (Nat.le_refl _) _).alloc (by simp) _
  go_enter Try.func35, Try.ntmps35
  go_wp2_with fail
  revert hz hzi hb0
  generalize (w.alloc (.cells #[.int .i64 (i : Int)] 3)).alloc (.cells #[.int .i64 kind, .string point, .slice aa args.length ac, .bool neg, .slice na num.length nc, .slice da den.length dc] 60) = w0
  intro hz hzi hb0
  refine (CA.out _).mono ?_
  rintro e w' ⟨rfl, rfl⟩
  have z0 := hz.cell 0; have z1 := hz.cell 1; have z2 := hz.cell 2; have z3 := hz.cell 3; have z4 := hz.cell 4; have z5 := hz.cell 5
  have zi := hzi.cell 0
  clear c0 c1 c2 c3 c4 c5 hk0 hk1 hk2 hk3 hk4 hk5
  by_cases h0 : ar < 0
  · have he : decide (ar < 0) = true := by simpa using h0
    have hr : res = 8 := by rw [← HRES.out, if_pos h0]
    subst hr
    clear h0
    go_wp2
    go_ret
    exact ⟨rfl, hb0⟩
  have he : decide (ar < 0) = false := by simpa using h0
  have HR1 := HRES.out
  rw [if_neg h0] at HR1
  replace HR1 := Lib.hid HR1
  clear h0 HRES
  by_cases h1 : (args.length : Int) = ar
  case neg =>
    have he1 : ((args.length : Int) != ar) = true := by simpa using h1
    have hr : res = 1 := by rw [← HR1.out, if_pos h1]
    subst hr
    clear h1
    go_wp2
    go_ret
    exact ⟨rfl, hb0⟩
  have he1 : ((args.length : Int) != ar) = false := by simpa using h1
  have HR2 := HR1.out
  rw [if_neg (by simpa using h1)] at HR2
  replace HR2 := Lib.hid HR2
  clear h1 HR1
  have CB2 := CB.out w0 hb0 w.heap.size zi
  replace CB2 := Lib.hid CB2
  clear CB
  cases bb
  case true =>
    have hr : res = 2 := by rw [← HR2.out, if_pos rfl]
    subst hr
    go_wp2_with fail
    refine CB2.out.mono ?_
    rintro e w1 ⟨rfl, rfl⟩
    go_wp2
    go_ret
    exact ⟨rfl, hb0⟩
  have HR3 := HR2.out
  rw [if_neg (by simp)] at HR3
  replace HR3 := Lib.hid HR3
  clear HR2
  go_wp2_with fail
  refine CB2.out.mono ?_
  rintro e w1 ⟨rfl, rfl⟩
  clear CB2 CA
  by_cases hb2 : kind = 2 ∧ br = false
  · obtain ⟨hk2, rfl⟩ := hb2
    have hr : res = 1 := by rw [← HR3.out, if_pos ⟨hk2, rfl⟩]
    subst hr
    have hke : (kind == 2) = true := by simpa using hk2
    have hkn : (kind != 2) = false := by simpa using hk2
    clear hk2
    go_wp2_with fail
    refine (CR.out _ hb0).mono ?_
    rintro e w2 ⟨rfl, hb2⟩
    have hb3 := below_then hb0 hb2
    go_wp2
    go_ret
    exact ⟨rfl, hb3⟩
  · by_cases hb2' : kind ≠ 2 ∧ bn = false
    · have hr : res = 1 := by rw [← HR3.out, if_neg hb2, if_pos hb2']
      subst hr
      obtain ⟨hk2, rfl⟩ := hb2'
      have hke : (kind == 2) = false := by simpa using hk2
      have hkn : (kind != 2) = true := by simpa using hk2
      clear hk2 hb2
      go_wp2_with fail
      refine (CN.out _).mono ?_
      rintro e w2 ⟨rfl, hb2⟩
      have hb3 := below_then hb0 hb2
      go_wp2
      go_ret
      exact ⟨rfl, hb3⟩
    · have hgood : (kind = 2 ∧ br = true) ∨ (kind ≠ 2 ∧ bn = true) := by
        by_cases hk2 : kind = 2
        · left; refine ⟨hk2, ?_⟩; cases br
          · exact absurd ⟨hk2, rfl⟩ hb2
          · rfl
        · right; refine ⟨hk2, ?_⟩; cases bn
          · exact absurd ⟨hk2, rfl⟩ hb2'
          · rfl
      have HR4 := HR3.out
      rw [if_neg hb2, if_neg hb2'] at HR4
      replace HR4 := Lib.hid HR4
      clear hb2 hb2' HR3
      rcases hgood with ⟨hk2, rfl⟩ | ⟨hk2, rfl⟩
      all_goals
        first
          | have hke : (kind == 2) = true := by simpa using hk2
          | have hke : (kind == 2) = false := by simpa using hk2
        first
          | have hkn : (kind != 2) = false := by simpa using hk2
          | have hkn : (kind != 2) = true := by simpa using hk2
        clear hk2
        go_wp2_with fail
        first
          | refine (CR.out _ hb0).mono ?_
          | refine (CN.out _).mono ?_
        rintro e w2 ⟨rfl, hb2⟩
        have hz2 := hz.below' hb2
        have hzi2 := hzi.below' hb2
        have hw2 := below_then hb0 hb2
        clear hb2 z0 z1 z2 z3 z4 z5 zi hz hzi hb0 CR CN
        have z0 := hz2.cell 0; have z1 := hz2.cell 1; have z2 := hz2.cell 2; have z3 := hz2.cell 3; have z4 := hz2.cell 4; have z5 := hz2.cell 5
        have zi := hzi2.cell 0
        by_cases hpe : point = ⟨#[]⟩
        · have hr : res = 0 := by rw [← HR4.out, if_pos hpe]
          subst hr
          subst hpe
          go_wp2
          go_ret
          exact ⟨rfl, hw2⟩
        · have hse : point.toList.isEmpty = false := by rw [str_isEmpty]; simpa using hpe
          have HR5 := HR4.out
          rw [if_neg hpe] at HR5
          replace HR5 := Lib.hid HR5
          clear hpe HR4
          cases bi
          · have hr : res = 6 := by rw [← HR5.out, if_pos rfl]
            subst hr
            go_wp2_with fail
            refine (CI.out _).mono ?_
            rintro e w3 ⟨rfl, hb3⟩
            have hw3 := below_then hw2 hb3
            go_wp2
            go_ret
            exact ⟨rfl, hw3⟩
          · have HR6 := HR5.out
            rw [if_neg (by simp)] at HR6
            replace HR6 := Lib.hid HR6
            clear HR5
            go_wp2_with fail
            refine (CI.out _).mono ?_
            rintro e w3 ⟨rfl, hb3⟩
            have hw3 := below_then hw2 hb3
            have hz3 := hz2.below' hb3
            have hzi3 := hzi2.below' hb3
            clear hb3 z0 z1 z2 z3 z4 z5 zi hz2 hzi2 hw2 CI
            have z1 := hz3.cell 1
            have zi := hzi3.cell 0
            have CS2 := CS.out w3 hw3 (w.heap.size + 1) z1
            replace CS2 := Lib.hid CS2
            clear CS
            go_wp2_with fail
            refine CS2.out.mono ?_
            rintro e w4 ⟨rfl, hb4⟩
            have hw4 := below_then hw3 hb4
            cases bs
            · have hr : res = 0 := by rw [← HR6.out, if_neg (by simp)]
              subst hr
              go_wp2
              go_ret
              exact ⟨rfl, hw4⟩
            · have hr : res = 7 := by rw [← HR6.out, if_pos rfl]
              subst hr
              go_wp2
              go_ret
              exact ⟨rfl, hw4⟩
end Go.Proofs.Ytfahnnkppakiiaa

/- Walk: the first error of a figure, by the reference. -/
namespace Go.Proofs.Ytfahnnkppakiiaa
open Go.RowKit

theorem errSteps_cons {l : List Step} {r : List Step} {s : Step} {k : Nat} (h : r[k]? = some s) : errSteps l (r.drop k) k = if errStep l s k ≠ 0 then errStep l s k else errSteps l (r.drop (k + 1)) (k + 1) := by
  have hk := lt_of_get h
  rw [List.drop_eq_getElem_cons hk]
  have : r[k] = s := by rw [List.getElem?_eq_getElem hk] at h; exact Option.some.inj h
  rw [this, errSteps]
theorem errGoals_cons {n : Int} {r : List Fct} {s : Fct} {k : Nat} (h : r[k]? = some s) : errGoals n (r.drop k) = if errFct s n ≠ 0 then errFct s n else errGoals n (r.drop (k + 1)) := by
  have hk := lt_of_get h
  rw [List.drop_eq_getElem_cons hk]
  have : r[k] = s := by rw [List.getElem?_eq_getElem hk] at h; exact Option.some.inj h
  rw [this, errGoals]

set_option maxRecDepth 100000 in
set_option maxHeartbeats 4000000 in
theorem right20_any (f : Fig) (sa : Option Addr) (sc : Nat) (ga : Option Addr) (gc : Nat) (w : World) (h : FigR w sa sc ga gc f) (hq : f.few) :
    Calls Try.prog 19 #[f.val sa sc ga gc] w fun e w' => e = .returned (.int .i64 f.err) ∧ Below w.heap.size w w' := by
  obtain ⟨steps, goals⟩ := f
  obtain ⟨hS, hG⟩ := h
  dsimp only at hS hG
  have hl1 := hS.len
  have hl2 := hG.len
  obtain ⟨res, hres⟩ : ∃ x, Fig.err ⟨steps, goals⟩ = x := ⟨_, rfl⟩
  rw [hres]
  unfold Fig.err at hres
  unfold Fig.val
  dsimp only at hres ⊢
  have HS := Lib.hid hS
  have HG := Lib.hid hG
  have HQ := Lib.hid hq
  have HRES := Lib.hid hres
  clear hS hG hq hres
  have hz := Blk.new w 41 #[.slice sa steps.length sc, .slice ga goals.length gc]
  have hb0 : Below w.heap.size w (w.alloc (.cells #[.slice sa steps.length sc, .slice ga goals.length gc] 41)) := (Below.refl _ _).alloc (Nat.le_refl _) _
  by_cases hbig : 40 < steps.length ∨ 8 < goals.length
  · have hr : res = 4 := by rw [← HRES.out, if_pos hbig]
    subst hr
    clear hz
    by_cases h1 : 40 < steps.length
    · clear hbig
      go_enter Try.func19, Try.ntmps19
      go_wp2
      go_ret
      exact ⟨rfl, hb0⟩
    · have h2 : 8 < goals.length := by omega
      clear hbig
      go_enter Try.func19, Try.ntmps19
      go_wp2
      go_ret
      exact ⟨rfl, hb0⟩
  · have h1 : steps.length ≤ 40 := by omega
    have h2 : goals.length ≤ 8 := by omega
    have HR1 := HRES.out
    rw [if_neg hbig] at HR1
    replace HR1 := Lib.hid HR1
    clear hbig HRES
    go_enter Try.func19, Try.ntmps19
    go_wp2
    revert hz hb0
    generalize w.alloc (.cells #[.slice sa steps.length sc, .slice ga goals.length gc] 41) = w0
    intro hz hb0
    go_loopg [3, 4, 21] steps.length (fun g _ _ q wr => ∃ k : Nat, k + g = steps.length ∧ q = .int .i64 k ∧ Below w.heap.size w wr ∧ Blk wr w.heap.size 41 #[.slice sa steps.length sc, .slice ga goals.length gc] ∧ errSteps steps (steps.drop k) k = errSteps steps steps 0)
    case atStart => exact ⟨0, by omega, rfl, hb0, hz, rfl⟩
    case round =>
      obtain ⟨k, hkg, rfl, hwr, hzr, he⟩ := hrel
      have HKG := Lib.hid hkg
      have HE := Lib.hid he
      have HZR := Lib.hid hzr
      have z0 := hzr.cell 0; have z1 := hzr.cell 1
      have hzl := hzr.lt
      clear hb0 hz hkg he hzr
      by_cases hlt : k < steps.length
      · obtain ⟨s, hs⟩ := get_of_lt hlt
        have C := right20_step steps k s sa sc wr (HS.out.ext (Ext.below hwr)) hs (HQ.out.1 s (List.mem_of_getElem? hs))
        have hes := errSteps_cons (l := steps) hs
        rw [HE.out] at hes
        revert C hes
        generalize errStep steps s k = ev
        intro C hes
        replace C := Lib.hid C
        have HES := Lib.hid hes
        clear hes hs
        by_cases hev : ev = 0
        · have hb : (ev != 0) = false := by simpa using hev
          have HE2 := HES.out
          rw [if_neg (by simpa using hev)] at HE2
          replace HE2 := Lib.hid HE2
          clear hev HES HE
          go_wp2_with fail
          refine C.out.mono ?_
          rintro e w2 ⟨rfl, hb2⟩
          have hw2 := below_then hwr hb2
          have hz2 := HZR.out.below' hb2
          clear hb2 C
          go_wp2
          go_roundg (gk - 1)
          case rel => exact ⟨k + 1, by have := HKG.out; omega, by go_num, hw2, hz2, HE2.out.symm⟩
          case measure => have := HKG.out; omega
        · have hb : (ev != 0) = true := by simpa using hev
          have hr : res = ev := by
            have h3 := HES.out
            rw [if_pos hev] at h3
            have := HR1.out
            rw [h3, if_pos hev] at this
            exact this.symm
          subst hr
          clear hev HES HE HR1
          go_wp2_with fail
          refine C.out.mono ?_
          rintro e w2 ⟨rfl, hb2⟩
          have hw2 := below_then hwr hb2
          clear hb2 C
          go_wp2
          go_ret
          exact ⟨rfl, hw2⟩
      · have HR2 := HR1.out
        have hz3 : errSteps steps steps 0 = 0 := by
          rw [← HE.out, List.drop_eq_nil_of_le (by omega)]; rfl
        rw [if_neg (by rw [hz3]; simp)] at HR2
        replace HR2 := Lib.hid HR2
        obtain ⟨wo, rfl⟩ : ∃ wo : World, wo = wr := ⟨_, rfl⟩
        clear hz3 HR1 HE HKG
        go_wp2
        go_loopg [6, 7, 35] goals.length (fun g _ _ q wr => ∃ k : Nat, k + g = goals.length ∧ q = .int .i64 k ∧ Below w.heap.size w wr ∧ Blk wr w.heap.size 41 #[.slice sa steps.length sc, .slice ga goals.length gc] ∧ errGoals steps.length (goals.drop k) = errGoals steps.length goals)
        case atStart => exact ⟨0, by omega, rfl, hwr, HZR.out, rfl⟩
        case round =>
          clear HZR z0 z1 hzl hwr
          obtain ⟨k2, hkg, rfl, hwr, hzr, he⟩ := hrel
          have HKG := Lib.hid hkg
          have HE := Lib.hid he
          have HZR := Lib.hid hzr
          have z0 := hzr.cell 0; have z1 := hzr.cell 1
          have hzl := hzr.lt
          clear hkg he hzr
          by_cases hlt2 : k2 < goals.length
          · obtain ⟨s, hs⟩ := get_of_lt hlt2
            obtain ⟨b, off, rfl, p, hC, hP, hki⟩ := (HG.out.ext (Ext.below hwr)).2.2 k2 s hs
            have hP' : PartsR (wr.alloc (.cells #[.int .i64 s.kind, .slice p.aa s.args.length p.ac, .bool s.ratio.neg, .slice p.na s.ratio.num.length p.nc, .slice p.da s.ratio.den.length p.dc] 62)) p s.args s.ratio := hP.ext (ext_alloc _ _)
            have C := right14_any s steps.length p _ hP' (HQ.out.2 s (List.mem_of_getElem? hs)) (by constructor <;> omega) hki
            obtain ⟨c0, c1, c2, c3, c4⟩ := hC
            have hes := errGoals_cons (n := steps.length) hs
            rw [HE.out] at hes
            unfold Fct.val at C
            revert C hes
            generalize errFct s steps.length = ev
            intro C hes
            replace C := Lib.hid C
            have HES := Lib.hid hes
            have hw1 := hwr.alloc hwr.size (.cells #[.int .i64 s.kind, .slice p.aa s.args.length p.ac, .bool s.ratio.neg, .slice p.na s.ratio.num.length p.nc, .slice p.da s.ratio.den.length p.dc] 62)
            have hz1 := HZR.out.alloc (.cells #[.int .i64 s.kind, .slice p.aa s.args.length p.ac, .bool s.ratio.neg, .slice p.na s.ratio.num.length p.nc, .slice p.da s.ratio.den.length p.dc] 62)
            clear hes hs hP hP' hki
            by_cases hev : ev = 0
            · have hb : (ev != 0) = false := by simpa using hev
              have HE2 := HES.out
              rw [if_neg (by simpa using hev)] at HE2
              replace HE2 := Lib.hid HE2
              clear hev HES HE
              go_wp2_with fail
              refine C.out.mono ?_
              rintro e w2 ⟨rfl, hb2⟩
              have hw2 := below_then hw1 hb2
              have hz2 := hz1.below' hb2
              clear hb2 C
              go_wp2
              go_roundg (gk - 1)
              case rel => exact ⟨k2 + 1, by have := HKG.out; omega, by go_num, hw2, hz2, HE2.out.symm⟩
              case measure => have := HKG.out; omega
            · have hb : (ev != 0) = true := by simpa using hev
              have hr : res = ev := by
                have h3 := HES.out
                rw [if_pos hev] at h3
                rw [← h3]; exact HR2.out.symm
              subst hr
              clear hev HES HE HR2
              go_wp2_with fail
              refine C.out.mono ?_
              rintro e w2 ⟨rfl, hb2⟩
              have hw2 := below_then hw1 hb2
              clear hb2 C
              go_wp2
              go_ret
              exact ⟨rfl, hw2⟩
          · have hr : res = 0 := by
              have h3 := HE.out
              rw [List.drop_eq_nil_of_le (by omega)] at h3
              rw [← HR2.out, ← h3]; rfl
            subst hr
            go_wp2
            go_ret
            exact ⟨rfl, hwr⟩
end Go.Proofs.Ytfahnnkppakiiaa
