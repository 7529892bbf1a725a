/- Walk: whether a fact is right, by the program. -/
import Derived.Test.YtaihkpjbnkgmlaaGreatRf37
import Derived.Test.YtaihkpjbnkgmlaaGreatRf8
import Derived.Test.YtaihkpjbnkgmlaaGreatRf20

/- Walk: the first error of a figure, by the reference. -/
namespace Go.Proofs.YtaihkpjbnkgmlaaGreat
open Go.RowKit

theorem errSteps_cons {l : List Step} {r : List Step} {s : Step} {k : Nat} (h : r[k]? = some s) : errSteps l (r.drop k) k = if errStep l s k ≠ 0 then errStep l s k else errSteps l (r.drop (k + 1)) (k + 1) := by
 have hk := lt_of_get h
 rw [List.drop_eq_getElem_cons hk]
 have : r[k] = s := by rw [List.getElem?_eq_getElem hk] at h; exact Option.some.inj h
 rw [this, errSteps]
theorem errGoals_cons {n : Int} {r : List Fct} {s : Fct} {k : Nat} (h : r[k]? = some s) : errGoals n (r.drop k) = if errFct s n ≠ 0 then errFct s n else errGoals n (r.drop (k + 1)) := by
 have hk := lt_of_get h
 rw [List.drop_eq_getElem_cons hk]
 have : r[k] = s := by rw [List.getElem?_eq_getElem hk] at h; exact Option.some.inj h
 rw [this, errGoals]

set_option maxRecDepth 100000 in
set_option maxHeartbeats 4000000 in
theorem right20_any (f : Fig) (sa : Option Addr) (sc : Nat) (ga : Option Addr) (gc : Nat) (w : World) (h : FigR w sa sc ga gc f) (hq : f.few) :
  Calls Tryz.prog 25 #[f.val sa sc ga gc] w fun e w' => e = .returned (.int .i64 f.err) ∧ Below w.heap.size w w' := by
 obtain ⟨steps, goals⟩ := f
 obtain ⟨hS, hG⟩ := h
 dsimp only at hS hG
 have hl1 := hS.len
 have hl2 := hG.len
 obtain ⟨res, hres⟩ : ∃ x, Fig.err ⟨steps, goals⟩ = x := ⟨_, rfl⟩
 rw [hres]
 unfold Fig.err at hres
 unfold Fig.val
 dsimp only at hres ⊢
 have HS := Lib.hid hS
 have HG := Lib.hid hG
 have HQ := Lib.hid hq
 have HRES := Lib.hid hres
 clear hS hG hq hres
 have hz := Blk.new w 25 #[.slice sa steps.length sc, .slice ga goals.length gc]
 have hb0 : Below w.heap.size w (w.alloc (.cells #[.slice sa steps.length sc, .slice ga goals.length gc] 25)) := (Below.refl _ _).alloc (Nat.le_refl _) _
 by_cases hbig : 40 < steps.length ∨ 8 < goals.length
 ·
  have hr : res = 4 := by rw [← HRES.out, if_pos hbig]
  subst hr
  clear hz
  by_cases h1 : 40 < steps.length
  ·
   clear hbig
   go_enter Tryz.func25, Tryz.ntmps25
   go_wp2
   go_ret
   exact ⟨rfl, hb0⟩
  ·
   have h2 : 8 < goals.length := by omega
   clear hbig
   go_enter Tryz.func25, Tryz.ntmps25
   go_wp2
   go_ret
   exact ⟨rfl, hb0⟩
 ·
  have h1 : steps.length ≤ 40 := by omega
  have h2 : goals.length ≤ 8 := by omega
  have HR1 := HRES.out
  rw [if_neg hbig] at HR1
  replace HR1 := Lib.hid HR1
  clear hbig HRES
  go_enter Tryz.func25, Tryz.ntmps25
  go_wp2
  revert hz hb0
  generalize w.alloc (.cells #[.slice sa steps.length sc, .slice ga goals.length gc] 25) = w0
  intro hz hb0
  go_loopg [3, 4, 21] steps.length (fun g _ _ q wr => ∃ k : Nat, k + g = steps.length ∧ q = .int .i64 k ∧ Below w.heap.size w wr ∧ Blk wr w.heap.size 25 #[.slice sa steps.length sc, .slice ga goals.length gc] ∧ errSteps steps (steps.drop k) k = errSteps steps steps 0)
  case atStart => exact ⟨0, by omega, rfl, hb0, hz, rfl⟩
  case round =>
   obtain ⟨k, hkg, rfl, hwr, hzr, he⟩ := hrel
   have HKG := Lib.hid hkg
   have HE := Lib.hid he
   have HZR := Lib.hid hzr
   have z0 := hzr.cell 0; have z1 := hzr.cell 1
   have hzl := hzr.lt
   clear hb0 hz hkg he hzr
   by_cases hlt : k < steps.length
   ·
    obtain ⟨s, hs⟩ := get_of_lt hlt
    have C := right20_step steps k s sa sc wr (HS.out.ext (Ext.below hwr)) hs (HQ.out.1 s (List.mem_of_getElem? hs))
    have hes := errSteps_cons (l := steps) hs
    rw [HE.out] at hes
    revert C hes
    generalize errStep steps s k = ev
    intro C hes
    replace C := Lib.hid C
    have HES := Lib.hid hes
    clear hes hs
    by_cases hev : ev = 0
    ·
     have hb : (ev != 0) = false := by simpa using hev
     have HE2 := HES.out
     rw [if_neg (by simpa using hev)] at HE2
     replace HE2 := Lib.hid HE2
     clear hev HES HE
     go_wp2_with fail
     refine C.out.mono ?_
     rintro e w2 ⟨rfl, hb2⟩
     have hw2 := below_then hwr hb2
     have hz2 := HZR.out.below' hb2
     clear hb2 C
     go_wp2
     go_roundg (gk - 1)
     case rel => exact ⟨k + 1, by have := HKG.out; omega, by go_num, hw2, hz2, HE2.out.symm⟩
     case measure => have := HKG.out; omega
    ·
     have hb : (ev != 0) = true := by simpa using hev
     have hr : res = ev := by
      have h3 := HES.out
      rw [if_pos hev] at h3
      have := HR1.out
      rw [h3, if_pos hev] at this
      exact this.symm
     subst hr
     clear hev HES HE HR1
     go_wp2_with fail
     refine C.out.mono ?_
     rintro e w2 ⟨rfl, hb2⟩
     have hw2 := below_then hwr hb2
     clear hb2 C
     go_wp2
     go_ret
     exact ⟨rfl, hw2⟩
   ·
    have HR2 := HR1.out
    have hz3 : errSteps steps steps 0 = 0 := by
     rw [← HE.out, List.drop_eq_nil_of_le (by omega)]; rfl
    rw [if_neg (by rw [hz3]; simp)] at HR2
    replace HR2 := Lib.hid HR2
    obtain ⟨wo, rfl⟩ : ∃ wo : World, wo = wr := ⟨_, rfl⟩
    clear hz3 HR1 HE HKG
    go_wp2
    go_loopg [6, 7, 35] goals.length (fun g _ _ q wr => ∃ k : Nat, k + g = goals.length ∧ q = .int .i64 k ∧ Below w.heap.size w wr ∧ Blk wr w.heap.size 25 #[.slice sa steps.length sc, .slice ga goals.length gc] ∧ errGoals steps.length (goals.drop k) = errGoals steps.length goals)
    case atStart => exact ⟨0, by omega, rfl, hwr, HZR.out, rfl⟩
    case round =>
     clear HZR z0 z1 hzl hwr
     obtain ⟨k2, hkg, rfl, hwr, hzr, he⟩ := hrel
     have HKG := Lib.hid hkg
     have HE := Lib.hid he
     have HZR := Lib.hid hzr
     have z0 := hzr.cell 0; have z1 := hzr.cell 1
     have hzl := hzr.lt
     clear hkg he hzr
     by_cases hlt2 : k2 < goals.length
     ·
      obtain ⟨s, hs⟩ := get_of_lt hlt2
      obtain ⟨b, off, rfl, p, hC, hP, hki⟩ := (HG.out.ext (Ext.below hwr)).2.2 k2 s hs
      have hP' : PartsR (wr.alloc (.cells #[.int .i64 s.kind, .slice p.aa s.args.length p.ac, .bool s.ratio.neg, .slice p.na s.ratio.num.length p.nc, .slice p.da s.ratio.den.length p.dc] 81)) p s.args s.ratio := hP.ext (ext_alloc _ _)
      have C := right14_any s steps.length p _ hP' (HQ.out.2 s (List.mem_of_getElem? hs)) (by constructor <;> omega) hki
      obtain ⟨c0, c1, c2, c3, c4⟩ := hC
      have hes := errGoals_cons (n := steps.length) hs
      rw [HE.out] at hes
      unfold Fct.val at C
      revert C hes
      generalize errFct s steps.length = ev
      intro C hes
      replace C := Lib.hid C
      have HES := Lib.hid hes
      have hw1 := hwr.alloc hwr.size (.cells #[.int .i64 s.kind, .slice p.aa s.args.length p.ac, .bool s.ratio.neg, .slice p.na s.ratio.num.length p.nc, .slice p.da s.ratio.den.length p.dc] 81)
      have hz1 := HZR.out.alloc (.cells #[.int .i64 s.kind, .slice p.aa s.args.length p.ac, .bool s.ratio.neg, .slice p.na s.ratio.num.length p.nc, .slice p.da s.ratio.den.length p.dc] 81)
      clear hes hs hP hP' hki
      by_cases hev : ev = 0
      ·
       have hb : (ev != 0) = false := by simpa using hev
       have HE2 := HES.out
       rw [if_neg (by simpa using hev)] at HE2
       replace HE2 := Lib.hid HE2
       clear hev HES HE
       go_wp2_with fail
       refine C.out.mono ?_
       rintro e w2 ⟨rfl, hb2⟩
       have hw2 := below_then hw1 hb2
       have hz2 := hz1.below' hb2
       clear hb2 C
       go_wp2
       go_roundg (gk - 1)
       case rel => exact ⟨k2 + 1, by have := HKG.out; omega, by go_num, hw2, hz2, HE2.out.symm⟩
       case measure => have := HKG.out; omega
      ·
       have hb : (ev != 0) = true := by simpa using hev
       have hr : res = ev := by
        have h3 := HES.out
        rw [if_pos hev] at h3
        rw [← h3]; exact HR2.out.symm
       subst hr
       clear hev HES HE HR2
       go_wp2_with fail
       refine C.out.mono ?_
       rintro e w2 ⟨rfl, hb2⟩
       have hw2 := below_then hw1 hb2
       clear hb2 C
       go_wp2
       go_ret
       exact ⟨rfl, hw2⟩
     ·
      have hr : res = 0 := by
       have h3 := HE.out
       rw [List.drop_eq_nil_of_le (by omega)] at h3
       rw [← HR2.out, ← h3]; rfl
      subst hr
      go_wp2
      go_ret
      exact ⟨rfl, hwr⟩
end Go.Proofs.YtaihkpjbnkgmlaaGreat

/- Walks: the program's rational numbers: Right; integer.Right. -/
namespace Go.Proofs.YtaihkpjbnkgmlaaGreat
open Go.RowKit

set_option maxRecDepth 100000 in
set_option maxHeartbeats 1000000 in
theorem rightI_any (neg : Bool) (num : List Int) (a : Option Addr) (c : Nat) (w : World) (h : NatR w a c num) :
  Calls Tryz.prog 229 #[.agg #[.bool neg, .slice a num.length c]] w fun e w' => e = .returned (.bool (rightI neg num)) ∧ Below w.heap.size w w' := by
 have hlen := h.len
 have hu := h.u16
 have hb0 : Below w.heap.size w (w.alloc (.cells #[.bool neg, .slice a num.length c] 41)) := (Below.refl _ _).alloc (Nat.le_refl _) _
 by_cases h0 : num.length = 0
 ·
  obtain rfl : num = [] := List.length_eq_zero_iff.1 h0
  have hr : rightI neg [] = !neg := by simp [rightI, canonB, val, limbs_zero]
  rw [hr]
  clear h hu h0 hr
  cases neg
  all_goals
   go_enter Tryz.func229, Tryz.ntmps229
   go_wp2
   go_ret
   exact ⟨rfl, hb0⟩
 ·
  obtain ⟨x, hx⟩ := get_of_lt (xs := num) (k := num.length - 1) (by omega)
  obtain ⟨b, off, rfl, hc⟩ := h.cell hx
  have hcan := canonB_last hu hx (by omega)
  have hr : rightI neg num = !(x == 0) := by
   unfold rightI
   rw [hcan]
   simp [h0]
  rw [hr]
  have hk := held hc
  have hbl : b < w.heap.size := by have := World.block_lt_of_cell? w _ hc; simpa using this
  have hbl2 : b < w.heap.size + 1 := by omega
  have hi1 : (0 : Int) ≤ (num.length : Int) - 1 := by omega
  have hti : ((num.length : Int) - 1).toNat = num.length - 1 := by omega
  have hgt : decide (0 < num.length) = true := by rw [decide_eq_true_eq]; omega
  have hgt2 : decide ((0 : Int) < (num.length : Int)) = true := by rw [decide_eq_true_eq]; omega
  have he : ((num.length : Int) == 0) = false := by rw [beq_eq_false_iff_ne]; omega
  clear h hu hx hc hcan hr
  by_cases hx0 : x = 0
  ·
   subst hx0
   go_enter Tryz.func229, Tryz.ntmps229
   go_wp2
   go_ret
   exact ⟨rfl, hb0⟩
  ·
   have hxb : (x == 0) = false := by simpa using hx0
   have hxn : (x != 0) = true := by simpa using hx0
   rw [hxb]
   clear hx0
   go_enter Tryz.func229, Tryz.ntmps229
   go_wp2
   go_ret
   exact ⟨rfl, hb0⟩
end Go.Proofs.YtaihkpjbnkgmlaaGreat

/- Walk: the program's rational numbers: Right. -/
namespace Go.Proofs.YtaihkpjbnkgmlaaGreat
open Go.RowKit

theorem rt_right_one {neg : Bool} {num den : List Int} (hI : rightI neg num = true) (hc : canonB den = true) (h0 : 0 < den.length) (h1 : decide (den.length = 1 ∧ limbAt den 0 = 1) = true) : Rt.right ⟨neg, num, den⟩ = true := by
 rw [decide_eq_true_eq] at h1
 obtain ⟨h1, h2⟩ := h1
 match den, h1 with
 | [x], _ =>
  simp [limbAt] at h2
  subst h2
  simp [Rt.right, hI, hc, val]
theorem rt_right_gcd {neg : Bool} {num den : List Int} (hI : rightI neg num = true) (hc : canonB den = true) (h0 : 0 < den.length) : Rt.right ⟨neg, num, den⟩ = decide (Nat.gcd (val num) (val den) = 1) := by
 simp [Rt.right, hI, hc, h0]

set_option maxRecDepth 100000 in
set_option maxHeartbeats 2000000 in
theorem rightQ_any (r : Rt) (na : Option Addr) (nc : Nat) (da : Option Addr) (dc : Nat) (w : World) (h : NatR w na nc r.num) (h' : NatR w da dc r.den) (hl : r.num.length ≤ 2000000) (hm : r.den.length ≤ 2000000) :
  Calls Tryz.prog 151 #[r.val na nc da dc] w fun e w' => e = .returned (.bool r.right) ∧ Below w.heap.size w w' := by
 obtain ⟨neg, num, den⟩ := r
 have CR := fun W (hW : Below w.heap.size w W) => rightI_any neg num na nc W (h.ext (Ext.below hW))
 have CO := fun W (hW : Below w.heap.size w W) => one_any den da dc W (h'.ext (Ext.below hW))
 have CG := fun W (hW : Below w.heap.size w W) => gcd_any num den (val num) (val den) na da nc dc W (h.ext (Ext.below hW)) (h'.ext (Ext.below hW)) rfl rfl hl hm
 have CO2 := fun n a c W => one_any (limbs n) a c W
 simp only [one_limbs] at CO2
 unfold Rt.val
 dsimp only
 dsimp only at hl hm
 obtain ⟨res, hres⟩ : ∃ q, Rt.right ⟨neg, num, den⟩ = q := ⟨_, rfl⟩
 rw [hres]
 obtain ⟨b1, hb1⟩ : ∃ b, rightI neg num = b := ⟨_, rfl⟩
 rw [hb1] at CR
 replace CR := Lib.hid CR; replace CO := Lib.hid CO; replace CG := Lib.hid CG; replace CO2 := Lib.hid CO2
 have hw0 : Below w.heap.size w (w.alloc (.cells #[.bool neg, .slice na num.length nc, .slice da den.length dc] 43)) := (Below.refl _ _).alloc (Nat.le_refl _) _
 have hz : Blk (w.alloc (.cells #[.bool neg, .slice na num.length nc, .slice da den.length dc] 43)) w.heap.size 43 #[.bool neg, .slice na num.length nc, .slice da den.length dc] := Blk.new w _ _
 cases b1
 ·
  have hr : res = false := by rw [← hres]; simp [Rt.right, hb1]
  subst hr
  clear hres hb1 h h' hz
  go_enter Tryz.func151, Tryz.ntmps151
  go_wp2_with fail
  refine (CR.out _ hw0).mono ?_
  rintro e w1 ⟨rfl, hb⟩
  have hw1 := below_then hw0 hb
  go_wp2
  go_ret
  exact ⟨rfl, hw1⟩
 ·
  by_cases h0 : den.length = 0
  ·
   have hr : res = false := by rw [← hres]; simp [Rt.right, h0]
   subst hr
   obtain rfl : den = [] := List.length_eq_zero_iff.1 h0
   clear hres hb1 h h' hz h0
   go_enter Tryz.func151, Tryz.ntmps151
   go_wp2_with fail
   refine (CR.out _ hw0).mono ?_
   rintro e w1 ⟨rfl, hb⟩
   have hw1 := below_then hw0 hb
   go_wp2
   go_ret
   exact ⟨rfl, hw1⟩
  ·
   obtain ⟨x, hx⟩ := get_of_lt (xs := den) (k := den.length - 1) (by omega)
   obtain ⟨b, off, rfl, hc⟩ := h'.cell hx
   have hcan := canonB_last (l := den) h'.u16 hx (by omega)
   have hk := held hc
   have hi1 : (0 : Int) ≤ (den.length : Int) - 1 := by omega
   have hti : ((den.length : Int) - 1).toNat = den.length - 1 := by omega
   have hdl : (den.length : Int) ≤ 2000000 := by omega
   have he : ((den.length : Int) == 0) = false := by rw [beq_eq_false_iff_ne]; omega
   by_cases hx0 : x = 0
   ·
    subst hx0
    have hr : res = false := by rw [← hres]; simp [Rt.right, hcan]
    subst hr
    clear hres hb1 h h' hx hc hcan h0
    go_enter Tryz.func151, Tryz.ntmps151
    go_wp2_with fail
    revert hw0 hz
    generalize w.alloc (.cells #[.bool neg, .slice na num.length nc, .slice (some ⟨b, off, none⟩) den.length dc] 43) = w0
    intro hw0 hz
    refine (CR.out _ hw0).mono ?_
    rintro e w1 ⟨rfl, hb⟩
    have hw1 := below_then hw0 hb
    have hz1 := hz.below' hb
    have z1 := hz1.cell 1; have z2 := hz1.cell 2; have z0 := hz1.cell 0
    have k1 := hk _ hw1
    clear hb hz hw0
    go_wp2
    go_ret
    exact ⟨rfl, hw1⟩
   ·
    have hxb : (x == 0) = false := by simpa using hx0
    have hcan2 : canonB den = true := by rw [hcan, hxb]; rfl
    obtain ⟨bo, hbo⟩ : ∃ q, decide (den.length = 1 ∧ limbAt den 0 = 1) = q := ⟨_, rfl⟩
    rw [hbo] at CO
    have HRES := Lib.hid hres
    have HB1 := Lib.hid hb1
    have HC := Lib.hid hcan2
    have HBO := Lib.hid hbo
    have H0 := Lib.hid h0
    clear hres hb1 h h' hx hc hcan hcan2 hbo h0 hx0
    cases bo
    ·
     obtain ⟨g, hg⟩ : ∃ g, Nat.gcd (val num) (val den) = g := ⟨_, rfl⟩
     have hr : decide (g = 1) = res := by rw [← HRES.out, rt_right_gcd HB1.out HC.out (by have := H0.out; omega)]; simp only [hg]
     rw [hg] at CG
     have CO3 := CO2.out g
     rw [hr] at CO3
     replace CO3 := Lib.hid CO3
     clear hg hr CO2
     go_enter Tryz.func151, Tryz.ntmps151
     go_wp2_with fail
     revert hw0 hz
     generalize w.alloc (.cells #[.bool neg, .slice na num.length nc, .slice (some ⟨b, off, none⟩) den.length dc] 43) = w0
     intro hw0 hz
     refine (CR.out _ hw0).mono ?_
     rintro e w1 ⟨rfl, hb⟩
     have hw1 := below_then hw0 hb
     have hz1 := hz.below' hb
     have z1 := hz1.cell 1; have z2 := hz1.cell 2; have z0 := hz1.cell 0
     have k1 := hk _ hw1
     clear hb hz hw0
     go_wp2_with fail
     refine (CO.out _ hw1).mono ?_
     rintro e w2 ⟨rfl, hb⟩
     have hw2 := below_then hw1 hb
     have hz2 := hz1.below' hb
     have y1 := hz2.cell 1; have y2 := hz2.cell 2; have y0 := hz2.cell 0
     clear hb hz1 hw1 z0 z1 z2 k1
     go_wp2_with fail
     refine (CG.out _ hw2).mono ?_
     rintro e w3 ⟨a3, c3, rfl, hV, hb⟩
     have hw3 := below_then hw2 hb
     have hrd := hV w3 (New.refl _ _)
     clear hb hV y0 y1 y2
     go_wp2_with fail
     refine (CO3.out _ _ _ hrd).mono ?_
     rintro e w4 ⟨rfl, hb⟩
     have hw4 := below_then hw3 hb
     clear hrd hb
     go_wp2
     go_ret
     exact ⟨rfl, hw4⟩
    ·
     have hr : res = true := by rw [← HRES.out]; exact rt_right_one HB1.out HC.out (by have := H0.out; omega) HBO.out
     subst hr
     go_enter Tryz.func151, Tryz.ntmps151
     go_wp2_with fail
     revert hw0 hz
     generalize w.alloc (.cells #[.bool neg, .slice na num.length nc, .slice (some ⟨b, off, none⟩) den.length dc] 43) = w0
     intro hw0 hz
     refine (CR.out _ hw0).mono ?_
     rintro e w1 ⟨rfl, hb⟩
     have hw1 := below_then hw0 hb
     have hz1 := hz.below' hb
     have z1 := hz1.cell 1; have z2 := hz1.cell 2; have z0 := hz1.cell 0
     have k1 := hk _ hw1
     clear hb hz hw0
     go_wp2_with fail
     refine (CO.out _ hw1).mono ?_
     rintro e w2 ⟨rfl, hb⟩
     have hw2 := below_then hw1 hb
     go_wp2
     go_ret
     exact ⟨rfl, hw2⟩
end Go.Proofs.YtaihkpjbnkgmlaaGreat

/- Walks: arities and the zero value, by the program. -/
namespace Go.Proofs.YtaihkpjbnkgmlaaGreat
open Go.RowKit

set_option maxHeartbeats 2000000 in
theorem arityP_any (k : Int) (w : World) : Calls Tryz.prog 156 #[.int .i64 k] w fun e w' => e = .returned (.int .i64 (arity14 k)) ∧ w = w' := by
 by_cases hk : 1 ≤ k ∧ k ≤ 9
 ·
  have hc : k = 1 ∨ k = 2 ∨ k = 3 ∨ k = 4 ∨ k = 5 ∨ k = 6 ∨ k = 7 ∨ k = 8 ∨ k = 9 := by omega
  clear hk
  rcases hc with rfl | rfl | rfl | rfl | rfl | rfl | rfl | rfl | rfl
  all_goals
   go_enter Tryz.func156, Tryz.ntmps156
   go_wp2
   go_ret
   exact ⟨ret_int (by decide), rfl⟩
 ·
  have h1 := eqb_false (a := k) (b := 1) (by omega); have h2 := eqb_false (a := k) (b := 2) (by omega); have h3 := eqb_false (a := k) (b := 3) (by omega)
  have h4 := eqb_false (a := k) (b := 4) (by omega); have h5 := eqb_false (a := k) (b := 5) (by omega); have h6 := eqb_false (a := k) (b := 6) (by omega)
  have h7 := eqb_false (a := k) (b := 7) (by omega); have h8 := eqb_false (a := k) (b := 8) (by omega); have h9 := eqb_false (a := k) (b := 9) (by omega)
  have hr : arity14 k = 0 := by unfold arity14; rw [if_neg (by omega), if_neg (by omega), if_neg (by omega), if_neg (by omega)]
  rw [hr]
  clear hr hk
  go_enter Tryz.func156, Tryz.ntmps156
  go_wp2
  go_ret
  exact ⟨rfl, rfl⟩
set_option maxHeartbeats 2000000 in
theorem arityL_any (k : Int) (w : World) : Calls Tryz.prog 148 #[.int .i64 k] w fun e w' => e = .returned (.int .i64 (arity20 k)) ∧ w = w' := by
 by_cases hk : 1 ≤ k ∧ k ≤ 14
 ·
  have hc : k = 1 ∨ k = 2 ∨ k = 3 ∨ k = 4 ∨ k = 5 ∨ k = 6 ∨ k = 7 ∨ k = 8 ∨ k = 9 ∨ k = 10 ∨ k = 11 ∨ k = 12 ∨ k = 13 ∨ k = 14 := by omega
  clear hk
  rcases hc with rfl | rfl | rfl | rfl | rfl | rfl | rfl | rfl | rfl | rfl | rfl | rfl | rfl | rfl
  all_goals
   go_enter Tryz.func148, Tryz.ntmps148
   go_wp2
   go_ret
   exact ⟨ret_int (by decide), rfl⟩
 ·
  have h1 := eqb_false (a := k) (b := 1) (by omega); have h2 := eqb_false (a := k) (b := 2) (by omega); have h3 := eqb_false (a := k) (b := 3) (by omega)
  have h4 := eqb_false (a := k) (b := 4) (by omega); have h5 := eqb_false (a := k) (b := 5) (by omega); have h6 := eqb_false (a := k) (b := 6) (by omega)
  have h7 := eqb_false (a := k) (b := 7) (by omega); have h8 := eqb_false (a := k) (b := 8) (by omega); have h9 := eqb_false (a := k) (b := 9) (by omega)
  have h10 := eqb_false (a := k) (b := 10) (by omega); have h11 := eqb_false (a := k) (b := 11) (by omega); have h12 := eqb_false (a := k) (b := 12) (by omega)
  have h13 := eqb_false (a := k) (b := 13) (by omega); have h14 := eqb_false (a := k) (b := 14) (by omega)
  have hr : arity20 k = -1 := by unfold arity20; rw [if_neg (by omega), if_neg (by omega), if_neg (by omega), if_neg (by omega)]
  rw [hr]
  clear hr hk
  go_enter Tryz.func148, Tryz.ntmps148
  go_wp2
  go_ret
  exact ⟨rfl, rfl⟩

set_option maxHeartbeats 1000000 in
theorem zeroP_any (r : Rt) (na : Option Addr) (nc : Nat) (da : Option Addr) (dc : Nat) (w : World) (hl : r.num.length ≤ 2000000) (hm : r.den.length ≤ 2000000) :
  Calls Tryz.prog 157 #[r.val na nc da dc] w fun e w' => e = .returned (.bool r.none) ∧ Below w.heap.size w w' := by
 obtain ⟨neg, num, den⟩ := r
 unfold Rt.val Rt.none
 dsimp only at hl hm ⊢
 by_cases h1 : num.length = 0 <;> by_cases h2 : den.length = 0
 all_goals
  have e1 : ((num.length : Int) == 0) = decide (num.length = 0) := by rw [Bool.eq_iff_iff]; simp
  have e2 : ((den.length : Int) == 0) = decide (den.length = 0) := by rw [Bool.eq_iff_iff]; simp
  have d1 : decide (num.length = 0) = decide (num.length = 0) := rfl
  simp only [h1, h2, decide_true, decide_false] at e1 e2
  have HH : (decide (num.length = 0), decide (den.length = 0)) = (decide (num.length = 0), decide (den.length = 0)) := rfl
  simp only [h1, h2, decide_true, decide_false] at HH ⊢
  clear HH d1
  cases neg
  all_goals
   have H1 := Lib.hid h1
   have H2 := Lib.hid h2
   clear h1 h2
   go_enter Tryz.func157, Tryz.ntmps157
   go_wp2
   go_ret
   exact ⟨rfl, (Below.refl _ _).alloc (Nat.le_refl _) _⟩
set_option maxHeartbeats 1000000 in
theorem noneL_any (r : Rt) (na : Option Addr) (nc : Nat) (da : Option Addr) (dc : Nat) (w : World) (hl : r.num.length ≤ 2000000) (hm : r.den.length ≤ 2000000) :
  Calls Tryz.prog 152 #[r.val na nc da dc] w fun e w' => e = .returned (.bool r.none) ∧ Below w.heap.size w w' := by
 obtain ⟨neg, num, den⟩ := r
 unfold Rt.val Rt.none
 dsimp only at hl hm ⊢
 by_cases h1 : num.length = 0 <;> by_cases h2 : den.length = 0
 all_goals
  have e1 : ((num.length : Int) == 0) = decide (num.length = 0) := by rw [Bool.eq_iff_iff]; simp
  have e2 : ((den.length : Int) == 0) = decide (den.length = 0) := by rw [Bool.eq_iff_iff]; simp
  have d1 : decide (num.length = 0) = decide (num.length = 0) := rfl
  simp only [h1, h2, decide_true, decide_false] at e1 e2
  have HH : (decide (num.length = 0), decide (den.length = 0)) = (decide (num.length = 0), decide (den.length = 0)) := rfl
  simp only [h1, h2, decide_true, decide_false] at HH ⊢
  clear HH d1
  cases neg
  all_goals
   have H1 := Lib.hid h1
   have H2 := Lib.hid h2
   clear h1 h2
   go_enter Tryz.func152, Tryz.ntmps152
   go_wp2
   go_ret
   exact ⟨rfl, (Below.refl _ _).alloc (Nat.le_refl _) _⟩
end Go.Proofs.YtaihkpjbnkgmlaaGreat

/- Walk: whether a fact is right, by the program. -/
namespace Go.Proofs.YtaihkpjbnkgmlaaGreat
open Go.RowKit

set_option maxRecDepth 100000 in
set_option maxHeartbeats 2000000 in
theorem rightP_any (f : Fct) (n : Int) (p : RA) (w : World) (h : PartsR w p f.args f.ratio) (hq : f.ratio.few) (hn : InInt n) (hk : InInt f.kind) :
  Calls Tryz.prog 69 #[f.val p.aa p.ac p.na p.nc p.da p.dc, .int .i64 n] w fun e w' => e = .returned (.int .i64 (errFct f n)) ∧ Below w.heap.size w w' := by
 obtain ⟨kind, args, r⟩ := f
 obtain ⟨aa, ac, na, nc, da, dc⟩ := p
 obtain ⟨hI, hN, hD⟩ := h
 dsimp only at hI hN hD hq hk
 obtain ⟨res, hres⟩ : ∃ x, errFct ⟨kind, args, r⟩ n = x := ⟨_, rfl⟩
 rw [hres]
 unfold errFct at hres
 dsimp only at hres
 have CA := arityP_any kind
 have hA := arity14_in kind
 have CR := fun W (hW : Below w.heap.size w W) => rightQ_any r na nc da dc W (hN.ext (Ext.below hW)) (hD.ext (Ext.below hW)) hq.1 hq.2
 have CN := fun W => zeroP_any r na nc da dc W hq.1 hq.2
 have hlen := hI.len
 have hIn : ∀ a ∈ args, InInt a := fun a ha => by
  obtain ⟨k, hk⟩ := List.mem_iff_getElem?.1 ha
  obtain ⟨b, off, _, hc, hw⟩ := hI.2.2 k a hk
  exact inInt_of hw
 have HI := Lib.hid hI
 have HIn := Lib.hid hIn
 revert CA hA hres CR CN
 generalize arity14 kind = ar
 generalize r.right = br
 generalize r.none = bn
 intro hres CA hA CR CN
 replace CA := Lib.hid CA; replace CR := Lib.hid CR; replace CN := Lib.hid CN
 have HRES := Lib.hid hres
 obtain ⟨hn1, hn2⟩ := hn
 obtain ⟨hk1, hk2⟩ := hk
 obtain ⟨neg, num, den⟩ := r
 unfold Rt.val at CR CN
 unfold Fct.val
 dsimp only at CR CN ⊢
 clear hres hI hN hD hIn hq
 have hz := Blk.new w 81 #[.int .i64 kind, .slice aa args.length ac, .bool neg, .slice na num.length nc, .slice da den.length dc]
 have hb0 : Below w.heap.size w (w.alloc (.cells #[.int .i64 kind, .slice aa args.length ac, .bool neg, .slice na num.length nc, .slice da den.length dc] 81)) := (Below.refl _ _).alloc (Nat.le_refl _) _
 by_cases h0 : ar = 0
 ·
  have he : (ar == 0) = true := by simpa using h0
  have hr : res = 8 := by rw [← HRES.out, if_pos h0]
  subst hr
  clear h0 hz
  go_enter Tryz.func69, Tryz.ntmps69
  go_wp2_with (go_at_call 156; refine (CA.out _).mono ?_; rintro e w' ⟨rfl, rfl⟩)
  go_ret
  exact ⟨rfl, hb0⟩
 ·
  have he : (ar == 0) = false := by simpa using h0
  have H0 := Lib.hid h0
  clear h0
  by_cases h1 : (args.length : Int) = ar
  ·
   have he1 : ((args.length : Int) != ar) = false := by simpa using h1
   have H1 := Lib.hid h1
   clear h1
   go_enter Tryz.func69, Tryz.ntmps69
   go_wp2_with fail
   revert hz hb0
   generalize w.alloc (.cells #[.int .i64 kind, .slice aa args.length ac, .bool neg, .slice na num.length nc, .slice da den.length dc] 81) = w0
   intro hz hb0
   have z0 := hz.cell 0; have z1 := hz.cell 1; have z2 := hz.cell 2; have z3 := hz.cell 3; have z4 := hz.cell 4
   refine (CA.out _).mono ?_
   rintro e w' ⟨rfl, rfl⟩
   obtain ⟨w1, rfl⟩ : ∃ w1 : World, w1 = w0 := ⟨_, rfl⟩
   have hz1 := hz
   have hb1 := hb0
   clear hz hb0 CA
   go_wp2
   go_loop [7, 21] (fun _ i => ∃ k : Nat, k ≤ args.length ∧ i = .int .i64 k ∧ Hid ((args.take k).any (badArg n) = false)) (fun _ i => args.length - (intOf i).toNat)
   case atStart => exact ⟨0, by omega, rfl, rfl⟩
   case round =>
    obtain ⟨k, hk, rfl, hno⟩ := hrel
    by_cases hlt : k < args.length
    ·
     obtain ⟨x, hx⟩ := get_of_lt hlt
     obtain ⟨b, off, rfl, hc⟩ := (HI.out.ext (Ext.below hb1)).2.2 k x hx
     have hc1 : w1.cell? ⟨b, off + k, none⟩ = some (.int .i64 x) := by simpa using hc.1
     obtain ⟨hx1, hx2⟩ := HIn.out x (List.mem_of_getElem? hx)
     have HX := Lib.hid hx
     clear hc hx
     by_cases hbad : x < 0 ∨ n ≤ x
     ·
      have hr : res = 2 := by
       have hany : args.any (badArg n) = true := any_mem HX.out (by unfold badArg; exact decide_eq_true hbad)
       rw [← HRES.out, if_neg H0.out, if_neg (by simpa using H1.out), if_pos hany]
      subst hr
      by_cases hx0 : x < 0
      ·
       clear hbad
       go_wp2
       go_ret
       exact ⟨rfl, hb1⟩
      ·
       have hge : n ≤ x := by omega
       clear hbad
       go_wp2
       go_ret
       exact ⟨rfl, hb1⟩
     ·
      have hx0 : 0 ≤ x := by omega
      have hxn : x < n := by omega
      have hbf : badArg n x = false := by unfold badArg; exact decide_eq_false hbad
      have HBF := Lib.hid hbf
      clear hbad hbf
      go_wp2
      go_round
      case rel => exact ⟨k + 1, by omega, by go_num, by show _ = _; rw [any_take HX.out, hno.out, HBF.out]; rfl⟩
      case measure => simp [intOf]; omega
    ·
     have hany : args.any (badArg n) = false := by
      have := hno.out
      rwa [take_all hlt] at this
     have hres2 : (if kind = 9 ∧ br = false then (1 : Int) else if kind ≠ 9 ∧ bn = false then 1 else 0) = res := by
      have := HRES.out
      rw [if_neg H0.out, if_neg (by simpa using H1.out), if_neg (by rw [hany]; simp)] at this
      exact this
     have HR2 := Lib.hid hres2
     clear hres2 hany
     by_cases hk9 : kind = 9
     ·
      have hke : (kind == 9) = true := by simpa using hk9
      have hkn : (kind != 9) = false := by simpa using hk9
      have HK9 := Lib.hid hk9
      clear hk9
      cases br
      ·
       have hr : res = 1 := by rw [← HR2.out, if_pos ⟨HK9.out, rfl⟩]
       subst hr
       go_wp2_with fail
       refine (CR.out _ hb1).mono ?_
       rintro e w2 ⟨rfl, hb2⟩
       have hb3 := below_then hb1 hb2
       go_wp2
       go_ret
       exact ⟨rfl, hb3⟩
      ·
       have hr : res = 0 := by rw [← HR2.out, if_neg (by simp), if_neg (by simp [HK9.out])]
       subst hr
       go_wp2_with fail
       refine (CR.out _ hb1).mono ?_
       rintro e w2 ⟨rfl, hb2⟩
       have hb3 := below_then hb1 hb2
       have hz2 := hz1.below' hb2
       have y0 := hz2.cell 0
       clear hb2 hz2
       go_wp2
       go_ret
       exact ⟨rfl, hb3⟩
     ·
      have hke : (kind == 9) = false := by simpa using hk9
      have hkn : (kind != 9) = true := by simpa using hk9
      have HK9 := Lib.hid hk9
      clear hk9
      cases bn
      ·
       have hr : res = 1 := by rw [← HR2.out, if_neg (fun h => HK9.out h.1), if_pos ⟨HK9.out, rfl⟩]
       subst hr
       go_wp2_with fail
       refine (CN.out _).mono ?_
       rintro e w2 ⟨rfl, hb2⟩
       have hb3 := below_then hb1 hb2
       go_wp2
       go_ret
       exact ⟨rfl, hb3⟩
      ·
       have hr : res = 0 := by rw [← HR2.out, if_neg (fun h => HK9.out h.1), if_neg (by simp)]
       subst hr
       go_wp2_with fail
       refine (CN.out _).mono ?_
       rintro e w2 ⟨rfl, hb2⟩
       have hb3 := below_then hb1 hb2
       go_wp2
       go_ret
       exact ⟨rfl, hb3⟩
  ·
   have he1 : ((args.length : Int) != ar) = true := by simpa using h1
   have hr : res = 1 := by rw [← HRES.out, if_neg H0.out, if_pos h1]
   subst hr
   clear h1
   go_enter Tryz.func69, Tryz.ntmps69
   go_wp2_with fail
   revert hz hb0
   generalize w.alloc (.cells #[.int .i64 kind, .slice aa args.length ac, .bool neg, .slice na num.length nc, .slice da den.length dc] 81) = w0
   intro hz hb0
   have z0 := hz.cell 0; have z1 := hz.cell 1; have z2 := hz.cell 2; have z3 := hz.cell 3; have z4 := hz.cell 4
   refine (CA.out _).mono ?_
   rintro e w' ⟨rfl, rfl⟩
   go_wp2
   go_ret
   exact ⟨rfl, hb0⟩
end Go.Proofs.YtaihkpjbnkgmlaaGreat
