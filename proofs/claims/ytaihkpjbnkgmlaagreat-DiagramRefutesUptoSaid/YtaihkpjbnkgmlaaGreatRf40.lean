/- Walks: Refutes of both sides. -/
import Derived.Test.YtaihkpjbnkgmlaaGreatRf36
import Derived.Test.YtaihkpjbnkgmlaaGreatRf38
import Derived.Test.YtaihkpjbnkgmlaaGreatRf39

/- Walks: Refutes of both sides. -/
namespace Go.Proofs.YtaihkpjbnkgmlaaGreat
open Go.RowKit

/-- the box of the point i of a fact -/
def pAt (l : List Bx) (args : List Int) (i : Nat) : Iq × Iq := match args[i]? with
 | none => ((0, 0), (0, 0))
 | some a => match l[a.toNat]? with
  | none => ((0, 0), (0, 0))
  | some x => bq x
/-- is 0 in none of two ends' interval? in one of them at least -/
def outB : List Rat → Bool
 | a :: b :: r => !decide (a ≤ 0 ∧ 0 ≤ b) || outB r
 | _ => false
def refB (f : Fig) (goal : Int) (l : List Bx) : Bool × Int :=
 if f.err ≠ 0 then (false, f.err)
 else if goal < 0 ∨ (f.goals.length : Int) ≤ goal then (false, 2)
 else if l.length ≠ f.steps.length then (false, 16)
 else match f.goals[goal.toNat]? with
  | none => (false, 0)
  | some g => (outB (valsI g.kind (pAt l g.args) g.ratio.q), 0)
theorem vargs_of {f : Fct} {l : List Bx} (hs : l.all Bx.short = true) (he : errFct f l.length = 0) : VArgs l f.args (pAt l f.args) f.args.length := fun i hi => by
 obtain ⟨x, hx⟩ := get_of_lt hi
 have hb : badArg l.length x = false := by
  unfold errFct at he
  split at he
  · omega
  split at he
  · omega
  split at he
  · omega
  ·
   rename_i h
   simp only [List.any_eq_true, not_exists, not_and, Bool.not_eq_true] at h
   exact h x (List.mem_of_getElem? hx)
 unfold badArg at hb
 simp only [decide_eq_false_iff_not, not_or, Int.not_lt, Int.not_le] at hb
 obtain ⟨j, rfl⟩ := Int.eq_ofNat_of_zero_le hb.1
 obtain ⟨b, hb'⟩ := get_of_lt (show j < l.length by omega)
 refine ⟨j, b, hx, hb', List.all_eq_true.1 hs b (List.mem_of_getElem? hb'), ?_⟩
 unfold pAt
 rw [hx]
 simp only [Int.toNat_natCast]
 rw [hb']
theorem kind_of {f : Fct} {n : Int} (he : errFct f n = 0) : (f.args.length : Int) = arity14 f.kind ∧ (f.kind = 1 ∨ f.kind = 2 ∨ f.kind = 3 ∨ f.kind = 4 ∨ f.kind = 5 ∨ f.kind = 6 ∨ f.kind = 7 ∨ f.kind = 8 ∨ f.kind = 9) ∧ (f.kind = 9 → f.ratio.right = true) := by
 unfold errFct at he
 split at he
 · omega
 split at he
 · omega
 split at he
 · omega
 split at he
 · omega
 rename_i h1 h2 h3 h4
 refine ⟨by omega, ?_, fun h => ?_⟩
 ·
  unfold arity14 at h1
  split at h1
  · omega
  split at h1
  · omega
  split at h1
  · omega
  split at h1
  · omega
  · exact absurd rfl h1
 ·
  cases e : f.ratio.right
  · exact absurd ⟨h, e⟩ h4
  · rfl
theorem valsI_len (k : Int) (P : Nat → Iq × Iq) (r : Rat) (hk : k = 1 ∨ k = 2 ∨ k = 3 ∨ k = 4 ∨ k = 5 ∨ k = 6 ∨ k = 7 ∨ k = 8 ∨ k = 9) : (valsI k P r).length = 2 * valsN k := by
 rcases hk with rfl | rfl | rfl | rfl | rfl | rfl | rfl | rfl | rfl <;> rfl
theorem valuesS_any (f : Fct) (p : RA) (l : List Bx) (a : Option Addr) (c : Nat) (w : World) (hB : BoxesR w a c l) (hP : PartsR w p f.args f.ratio) (hs : l.all Bx.short = true) (he : errFct f l.length = 0) (hq : f.ratio.num.length ≤ 2 ∧ f.ratio.den.length ≤ 2) :
  Calls Tryz.prog 34 #[f.val p.aa p.ac p.na p.nc p.da p.dc, .slice a l.length c] w (RetVs (valsN f.kind) (valsI f.kind (pAt l f.args) f.ratio.q) w) := by
 obtain ⟨kind, args, r⟩ := f
 obtain ⟨aa, ac, na, nc, da, dc⟩ := p
 obtain ⟨hI, hN, hD⟩ := hP
 obtain ⟨h1, h2, h3⟩ := kind_of he
 have HV := vargs_of hs he
 dsimp only at hI hN hD h1 h2 h3 hq HV ⊢
 have hr : kind = 9 → QK 2 w ⟨r.neg, r.num.length, na, nc, r.den.length, da, dc⟩ r.q := fun h => RtZ.qk ⟨rfl, rfl, rfl, hN, hD⟩ (h3 h) hq.1 hq.2
 rcases h2 with rfl | rfl | rfl | rfl | rfl | rfl | rfl | rfl | rfl
 ·
  have hn : args.length = 3 := by simp [arity14] at h1; omega
  rw [hn] at HV
  exact values_k1 a aa c ac l args (pAt l args) ⟨r.neg, r.num.length, na, nc, r.den.length, da, dc⟩ r.q w hB hI HV 
 ·
  have hn : args.length = 4 := by simp [arity14] at h1; omega
  rw [hn] at HV
  exact values_k2 a aa c ac l args (pAt l args) ⟨r.neg, r.num.length, na, nc, r.den.length, da, dc⟩ r.q w hB hI HV 
 ·
  have hn : args.length = 4 := by simp [arity14] at h1; omega
  rw [hn] at HV
  exact values_k3 a aa c ac l args (pAt l args) ⟨r.neg, r.num.length, na, nc, r.den.length, da, dc⟩ r.q w hB hI HV 
 ·
  have hn : args.length = 4 := by simp [arity14] at h1; omega
  rw [hn] at HV
  exact values_k4 a aa c ac l args (pAt l args) ⟨r.neg, r.num.length, na, nc, r.den.length, da, dc⟩ r.q w hB hI HV 
 ·
  have hn : args.length = 3 := by simp [arity14] at h1; omega
  rw [hn] at HV
  exact values_k5 a aa c ac l args (pAt l args) ⟨r.neg, r.num.length, na, nc, r.den.length, da, dc⟩ r.q w hB hI HV 
 ·
  have hn : args.length = 4 := by simp [arity14] at h1; omega
  rw [hn] at HV
  exact values_k6 a aa c ac l args (pAt l args) ⟨r.neg, r.num.length, na, nc, r.den.length, da, dc⟩ r.q w hB hI HV 
 ·
  have hn : args.length = 8 := by simp [arity14] at h1; omega
  rw [hn] at HV
  exact values_k7 a aa c ac l args (pAt l args) ⟨r.neg, r.num.length, na, nc, r.den.length, da, dc⟩ r.q w hB hI HV 
 ·
  have hn : args.length = 2 := by simp [arity14] at h1; omega
  rw [hn] at HV
  exact values_k8 a aa c ac l args (pAt l args) ⟨r.neg, r.num.length, na, nc, r.den.length, da, dc⟩ r.q w hB hI HV 
 ·
  have hn : args.length = 4 := by simp [arity14] at h1; omega
  rw [hn] at HV
  exact values_k9 a aa c ac l args (pAt l args) ⟨r.neg, r.num.length, na, nc, r.den.length, da, dc⟩ r.q w hB hI HV  (hr rfl)
theorem valuesR_any (f : Fct) (p : RA) (l : List Bx) (a : Option Addr) (c : Nat) (w : World) (hB : BoxesR w a c l) (hP : PartsR w p f.args f.ratio) (hs : l.all Bx.short = true) (he : errFct f l.length = 0) (hq : f.ratio.num.length ≤ 2 ∧ f.ratio.den.length ≤ 2) :
  Calls Tryz.prog 37 #[f.val p.aa p.ac p.na p.nc p.da p.dc, .slice a l.length c] w (RetVs (valsN f.kind) (valsI f.kind (pAt l f.args) f.ratio.q) w) := by
 obtain ⟨kind, args, r⟩ := f
 obtain ⟨aa, ac, na, nc, da, dc⟩ := p
 obtain ⟨hI, hN, hD⟩ := hP
 obtain ⟨h1, h2, h3⟩ := kind_of he
 have HV := vargs_of hs he
 dsimp only at hI hN hD h1 h2 h3 hq HV ⊢
 have hr : kind = 9 → QK 2 w ⟨r.neg, r.num.length, na, nc, r.den.length, da, dc⟩ r.q := fun h => RtZ.qk ⟨rfl, rfl, rfl, hN, hD⟩ (h3 h) hq.1 hq.2
 rcases h2 with rfl | rfl | rfl | rfl | rfl | rfl | rfl | rfl | rfl
 ·
  have hn : args.length = 3 := by simp [arity14] at h1; omega
  rw [hn] at HV
  exact valuesR_k1 a aa c ac l args (pAt l args) ⟨r.neg, r.num.length, na, nc, r.den.length, da, dc⟩ r.q w hB hI HV hn
 ·
  have hn : args.length = 4 := by simp [arity14] at h1; omega
  rw [hn] at HV
  exact valuesR_k2 a aa c ac l args (pAt l args) ⟨r.neg, r.num.length, na, nc, r.den.length, da, dc⟩ r.q w hB hI HV hn
 ·
  have hn : args.length = 4 := by simp [arity14] at h1; omega
  rw [hn] at HV
  exact valuesR_k3 a aa c ac l args (pAt l args) ⟨r.neg, r.num.length, na, nc, r.den.length, da, dc⟩ r.q w hB hI HV hn
 ·
  have hn : args.length = 4 := by simp [arity14] at h1; omega
  rw [hn] at HV
  exact valuesR_k4 a aa c ac l args (pAt l args) ⟨r.neg, r.num.length, na, nc, r.den.length, da, dc⟩ r.q w hB hI HV hn
 ·
  have hn : args.length = 3 := by simp [arity14] at h1; omega
  rw [hn] at HV
  exact valuesR_k5 a aa c ac l args (pAt l args) ⟨r.neg, r.num.length, na, nc, r.den.length, da, dc⟩ r.q w hB hI HV hn
 ·
  have hn : args.length = 4 := by simp [arity14] at h1; omega
  rw [hn] at HV
  exact valuesR_k6 a aa c ac l args (pAt l args) ⟨r.neg, r.num.length, na, nc, r.den.length, da, dc⟩ r.q w hB hI HV hn
 ·
  have hn : args.length = 8 := by simp [arity14] at h1; omega
  rw [hn] at HV
  exact valuesR_k7 a aa c ac l args (pAt l args) ⟨r.neg, r.num.length, na, nc, r.den.length, da, dc⟩ r.q w hB hI HV hn
 ·
  have hn : args.length = 2 := by simp [arity14] at h1; omega
  rw [hn] at HV
  exact valuesR_k8 a aa c ac l args (pAt l args) ⟨r.neg, r.num.length, na, nc, r.den.length, da, dc⟩ r.q w hB hI HV hn
 ·
  have hn : args.length = 4 := by simp [arity14] at h1; omega
  rw [hn] at HV
  exact valuesR_k9 a aa c ac l args (pAt l args) ⟨r.neg, r.num.length, na, nc, r.den.length, da, dc⟩ r.q w hB hI HV hn (hr rfl)
theorem outB_at {qs : List Rat} {k : Nat} {x y : Rat} (h1 : qs[2 * k]? = some x) (h2 : qs[2 * k + 1]? = some y) : outB (qs.drop (2 * k)) = (!decide (x ≤ 0 ∧ 0 ≤ y) || outB (qs.drop (2 * (k + 1)))) := by
 have l1 := lt_of_get h1
 have l2 := lt_of_get h2
 rw [List.drop_eq_getElem_cons l1, List.drop_eq_getElem_cons l2]
 have e1 : qs[2 * k] = x := by rw [List.getElem?_eq_getElem l1] at h1; exact Option.some.inj h1
 have e2 : qs[2 * k + 1] = y := by rw [List.getElem?_eq_getElem l2] at h2; exact Option.some.inj h2
 rw [e1, e2, outB, show 2 * k + 1 + 1 = 2 * (k + 1) by omega]
theorem errGoals_zero {n : Int} : ∀ {r : List Fct} {g : Fct}, errGoals n r = 0 → g ∈ r → errFct g n = 0
 | [], _, _, h => by cases h
 | s :: r, g, h, hg => by
  unfold errGoals at h
  by_cases h0 : errFct s n = 0
  ·
   rw [if_neg (by simp [h0])] at h
   rcases List.mem_cons.1 hg with rfl | hg
   · exact h0
   · exact errGoals_zero h hg
  · rw [if_pos h0] at h; exact absurd h h0
theorem Fig.goal_of {f : Fig} (h : f.err = 0) : ∀ g ∈ f.goals, errFct g f.steps.length = 0 := by
 unfold Fig.err at h
 split at h
 · omega
 split at h
 · contradiction
 · exact fun g hg => errGoals_zero h hg
set_option maxRecDepth 100000 in
set_option maxHeartbeats 8000000 in
theorem refutesS_any (f : Fig) (sa : Option Addr) (sc : Nat) (ga : Option Addr) (gc : Nat) (goal : Int) (l : List Bx) (a : Option Addr) (c : Nat) (w : World) (hF : FigR w sa sc ga gc f) (hB : BoxesR w a c l) (hs : l.all Bx.short = true) (hq : f.few) (hfew : ∀ g ∈ f.goals, g.ratio.num.length ≤ 2 ∧ g.ratio.den.length ≤ 2) :
  Calls Tryz.prog 11 #[f.val sa sc ga gc, .int .i64 goal, .slice a l.length c] w fun e w' => e = .returned (.tuple #[.bool (refB f goal l).1, .int .i64 (refB f goal l).2]) ∧ Below w.heap.size w w' := by
 obtain ⟨steps, goals⟩ := f
 obtain ⟨hS, hG⟩ := hF
 have CR := fun W (hW : Below w.heap.size w W) => rightL_any ⟨steps, goals⟩ sa sc ga gc W ⟨StepsR.ext hS (Ext.below hW), FctsR.ext hG (Ext.below hW)⟩ hq
 have hsl := hS.len
 have hgl := hG.len
 have hbl := hB.len
 have hne := fun h => (Fig.goal_of (f := ⟨steps, goals⟩) h)
 unfold Fig.val at CR ⊢
 unfold refB
 dsimp only at CR hfew ⊢
 obtain ⟨E, hE⟩ : ∃ E, Fig.err ⟨steps, goals⟩ = E := ⟨_, rfl⟩
 rw [hE] at CR hne ⊢
 replace CR := Lib.hid CR
 replace hB := Lib.hid hB; replace hG := Lib.hid hG; replace hne := Lib.hid hne
 clear hS hE hq
 by_cases h0 : E = 0
 ·
  subst h0
  rw [if_neg (by simp)]
  by_cases h1 : goal < 0
  ·
   rw [if_pos (Or.inl h1)]
   go_enter Tryz.func11, Tryz.ntmps11
   go_wp2_with fail
   refine calls_gen (fun W => Blk W w.heap.size 25 #[.slice sa steps.length sc, .slice ga goals.length gc] ∧ Below w.heap.size w W) ⟨by ((repeat first|with_reducible assumption|((with_reducible apply Blk.farAt);focus omega)|with_reducible apply Blk.setb|((with_reducible apply Blk.newAt);focus (simp;done))|with_reducible apply Blk.alloc|with_reducible apply Blk.drew);all_goals (show @Eq (Array Value) _ _;rfl)), by go_grown⟩ ?_
   rintro w0 ⟨hx, hw0⟩
   refine (CR.out _ hw0).mono ?_
   rintro e w1 ⟨rfl, hb1⟩
   replace hx := hx.below' hb1
   have hw1 := below_then hw0 hb1
   have z0 := hx.cell 0
   have z1 := hx.cell 1
   clear hb1 hw0
   go_wp2
   go_ret2
   exact ⟨rfl, hw1⟩
  ·
   obtain ⟨k, rfl⟩ := Int.eq_ofNat_of_zero_le (Int.not_lt.1 h1)
   by_cases h2 : k < goals.length
   ·
    have h2' : ¬ ((goals.length : Int) ≤ k) := by omega
    rw [if_neg (by omega)]
    by_cases h3 : l.length = steps.length
    ·
     rw [if_neg (by simp [h3])]
     obtain ⟨gg, hgg⟩ := get_of_lt h2
     have hvl := hfew gg (List.mem_of_getElem? hgg)
     have heg := hne.out rfl gg (List.mem_of_getElem? hgg)
     rw [← h3] at heg
     obtain ⟨b, o, rfl, pr, hC, hP, hki⟩ := hG.out.2.2 k gg hgg
     obtain ⟨hk1, hk2, hk3⟩ := kind_of heg
     have hvn := valsI_len gg.kind (pAt l gg.args) gg.ratio.q hk2
     have CV := fun W (hW : Below w.heap.size w W) => valuesS_any gg pr l a c W (hB.out.ext (Ext.below hW)) (hP.ext (Ext.below hW)) hs heg hvl
     have hn2 : valsN gg.kind ≤ 2 := by unfold valsN; split <;> omega
     simp only [Int.toNat_natCast]
     rw [hgg]
     dsimp only
     revert CV hvn
     generalize valsI gg.kind (pAt l gg.args) gg.ratio.q = qs
     revert hn2
     generalize valsN gg.kind = n
     intro hn2 hvn CV
     unfold Fct.val at CV
     obtain ⟨R, hRR⟩ : ∃ R, outB qs = R := ⟨_, rfl⟩
     rw [hRR]
     replace CV := Lib.hid CV; replace hvn := Lib.hid hvn; replace hRR := Lib.hid hRR
     obtain ⟨c0, c1, c2, c3, c4⟩ := hC
     replace c0 := held c0; replace c1 := held c1; replace c2 := held c2; replace c3 := held c3; replace c4 := held c4
     have h3i : ((l.length : Int) == (steps.length : Int)) = true := by simp [h3]
     have h3n : ((l.length : Int) != (steps.length : Int)) = false := by simp [h3]
     have H3 := Lib.hid h3
     clear hgg hvl heg hP hki hk1 hk2 hk3 hs hfew hne hB hG h3
     go_enter Tryz.func11, Tryz.ntmps11
     go_wp2_with fail
     refine calls_gen (fun W => Blk W w.heap.size 25 #[.slice sa steps.length sc, .slice (some ⟨b, o, none⟩) goals.length gc] ∧ Below w.heap.size w W) ⟨by ((repeat first|with_reducible assumption|((with_reducible apply Blk.farAt);focus omega)|with_reducible apply Blk.setb|((with_reducible apply Blk.newAt);focus (simp;done))|with_reducible apply Blk.alloc|with_reducible apply Blk.drew);all_goals (show @Eq (Array Value) _ _;rfl)), by go_grown⟩ ?_
     rintro w0 ⟨hx, hw0⟩
     refine (CR.out _ hw0).mono ?_
     rintro e w1 ⟨rfl, hb1⟩
     replace hx := hx.below' hb1
     have hw1 := below_then hw0 hb1
     have z0 := hx.cell 0
     have z1 := hx.cell 1
     clear hb1 hw0
     have d0 := c0 w1 hw1; have d1 := c1 w1 hw1; have d2 := c2 w1 hw1; have d3 := c3 w1 hw1; have d4 := c4 w1 hw1
     go_wp2_with fail
     refine (CV.out _ hw1).mono ?_
     rintro e w2 ⟨xs, g, cp, rfl, HR, HA, hb2⟩
     have hw2 := below_then hw1 hb2
     clear d0 d1 d2 d3 d4 c0 c1 c2 c3 c4 z0 z1 hb2 hx
     have hxl : xs.length = qs.length := HA.1
     replace HR := Lib.hid HR; replace HA := Lib.hid HA; replace hxl := Lib.hid hxl
     have HO : Hid (outB (qs.drop (2 * 0)) = R) := Lib.hid hRR.out
     clear hRR CR CV h2 h2' h1
     have s2 := Below.refl w2.heap.size w2
     go_wp2
     obtain ⟨wo, rfl⟩ : ∃ wo : World, wo = w2 := ⟨_, rfl⟩
     go_loopg [39] n (fun m q wr => ∃ k : Nat, k + m = n ∧ q = .int .i64 k ∧ Below wo.heap.size wo wr ∧ outB (qs.drop (2 * k)) = R)
     case atStart => exact ⟨0, by omega, rfl, s2, HO.out⟩
     case round =>
      clear s2 HO
      obtain ⟨k, hkm, rfl, sk, hout⟩ := hrel
      replace hkm := Lib.hid hkm; replace hout := Lib.hid hout
      by_cases hlt : k < n
      ·
       have hl1 : 2 * k + 1 < qs.length := by have := hvn.out; omega
       obtain ⟨p, hp⟩ := get_of_lt (show 2 * k < qs.length by omega)
       obtain ⟨q, hqq⟩ := get_of_lt hl1
       obtain ⟨x, hx⟩ := get_of_lt (show 2 * k < xs.length by have := hxl.out; omega)
       obtain ⟨y, hy⟩ := get_of_lt (show 2 * k + 1 < xs.length by have := hxl.out; omega)
       have e0 := Ext.below sk
       obtain ⟨u0, u1, u2⟩ := HR.out _ _ hx
       obtain ⟨u3, u4, u5⟩ := HR.out _ _ hy
       have a1 : 2 * k * 3 = k * 6 := by omega
       have a2 : (2 * k + 1) * 3 = k * 6 + 3 := by omega
       rw [a1] at u0 u1 u2
       rw [a2] at u3 u4 u5
       replace u0 := e0 _ _ u0; replace u1 := e0 _ _ u1; replace u2 := e0 _ _ u2; replace u3 := e0 _ _ u3; replace u4 := e0 _ _ u4; replace u5 := e0 _ _ u5
       have r1 := Lib.hid ((HA.out.2 _ _ _ hx hp).ext e0)
       have r2 := Lib.hid ((HA.out.2 _ _ _ hy hqq).ext e0)
       have hstep := Lib.hid (outB_at hp hqq)
       clear hp hqq hx hy a1 a2 hl1 e0
       go_wp2
       refine world_gen (fun W => Blk W wr.heap.size 73 #[.bool x.neg, .slice x.a x.n x.c, .slice x.b x.m x.d, .bool y.neg, .slice y.a y.n y.c, .slice y.b y.m y.d] ∧ Below wr.heap.size wr W) ⟨by ((repeat first|with_reducible assumption|((with_reducible apply Blk.farAt);focus omega)|with_reducible apply Blk.setb|((with_reducible apply Blk.newAt);focus (simp;done))|with_reducible apply Blk.alloc|with_reducible apply Blk.drew);all_goals (show @Eq (Array Value) _ _;rfl)), by go_grown⟩ ?_
       rintro w3 ⟨hz, hb3⟩
       have k0 := held (hz.cell 0); have k1 := held (hz.cell 1); have k2 := held (hz.cell 2); have k3 := held (hz.cell 3); have k4 := held (hz.cell 4); have k5 := held (hz.cell 5)
       have sz : Below w3.heap.size w3 w3.drew := (Below.refl _ _).drew
       clear u0 u1 u2 u3 u4 u5 hz
       refine wp_region_mix (S := Below w3.heap.size w3) [(0, .q), (1, .l), (2, .t), (3, .p)] (by kernel_rfl) (by kernel_rfl) (by kernel_rfl) (fun d _ _ _ _ h => by cases d <;> exact h) (sz) ?_
       iterate 1 (refine wpMix_q rfl rfl (fun K hK => ?_); apply Exists.intro; refine ⟨fun w' hw' => ?_, ?_⟩; (focus (go_simp; try rfl)); go_simp; refine hK _ _ ?_; clear hK K)
       refine wpMix_l rfl rfl (fun K hK => ?_)
       go_simp
       refine (zero_q _).mono ?_
       rintro r w4 ⟨zr, rfl, J1, hb4⟩
       dsimp only
       refine hK.out _ _ (below_then sz hb4) (fun _ => ?_)
       clear hK K
       have s4 := below_then sz hb4
       refine wpMix_t rfl rfl (fun K hK => ?_)
       go_simp
       refine (ihas_q x y zr p q 0 1000 1 _ ((r1.out.ext (Ext.below (below_then hb3 s4)))) ((r2.out.ext (Ext.below (below_then hb3 s4)))) J1.now (by omega) (by omega)).mono ?_
       rintro r w5 ⟨rfl, hb5⟩
       dsimp only
       refine hK.out _ _ ?_
       clear hK K
       have s5 := below_then s4 hb5
       clear J1 hb4 hb5 k0 k1 k2 k3 k4 k5
       have sF := below_then sk (below_then hb3 s5)
       obtain ⟨nb, hnb⟩ : ∃ nb : Bool, decide (p ≤ 0 ∧ 0 ≤ q) = !nb := ⟨!decide (p ≤ 0 ∧ 0 ≤ q), by simp⟩
       rw [hnb] at hstep ⊢
       have ho2 := hout.out
       rw [hstep.out, Bool.not_not] at ho2
       clear hnb hstep hout r1 r2 s4 s5 sz hb3 sk
       replace ho2 := Lib.hid ho2
       iterate 1 (refine wpMix_p rfl rfl (fun K hK => ?_); apply Exists.intro; refine ⟨fun w' => ?_, ?_⟩; (focus (go_simp; try rfl)); go_simp; refine hK _ _ ?_; clear hK K)
       refine wpMix_nil ?_
       cases nb
       ·
        have ho3 : outB (qs.drop (2 * (k + 1))) = R := by simpa using ho2.out
        replace ho3 := Lib.hid ho3
        clear ho2
        go_wp2
        go_roundg (gk - 1)
        case rel => exact ⟨k + 1, by have := hkm.out; omega, by go_num, sF, ho3.out⟩
        case measure => have := hkm.out; omega
       ·
        obtain rfl : R = true := by simpa using ho2.out.symm
        clear ho2
        go_wp2
        go_ret2
        exact ⟨rfl, below_then hw2 sF⟩
      ·
       obtain rfl : R = false := by rw [← hout.out, List.drop_eq_nil_of_le (by have := hvn.out; omega)]; rfl
       go_wp2
       go_ret2
       exact ⟨rfl, below_then hw2 sk⟩
    ·
     rw [if_pos h3]
     have h3i : ((l.length : Int) == (steps.length : Int)) = false := by simp; omega
     have h3n : ((l.length : Int) != (steps.length : Int)) = true := by simp; omega
     have H3 := Lib.hid h3
     clear h3
     go_enter Tryz.func11, Tryz.ntmps11
     go_wp2_with fail
     refine calls_gen (fun W => Blk W w.heap.size 25 #[.slice sa steps.length sc, .slice ga goals.length gc] ∧ Below w.heap.size w W) ⟨by ((repeat first|with_reducible assumption|((with_reducible apply Blk.farAt);focus omega)|with_reducible apply Blk.setb|((with_reducible apply Blk.newAt);focus (simp;done))|with_reducible apply Blk.alloc|with_reducible apply Blk.drew);all_goals (show @Eq (Array Value) _ _;rfl)), by go_grown⟩ ?_
     rintro w0 ⟨hx, hw0⟩
     refine (CR.out _ hw0).mono ?_
     rintro e w1 ⟨rfl, hb1⟩
     replace hx := hx.below' hb1
     have hw1 := below_then hw0 hb1
     have z0 := hx.cell 0
     have z1 := hx.cell 1
     clear hb1 hw0
     go_wp2
     go_ret2
     exact ⟨rfl, hw1⟩
   ·
    have h2' : ((goals.length : Int) ≤ k) := by omega
    rw [if_pos (Or.inr h2')]
    go_enter Tryz.func11, Tryz.ntmps11
    go_wp2_with fail
    refine calls_gen (fun W => Blk W w.heap.size 25 #[.slice sa steps.length sc, .slice ga goals.length gc] ∧ Below w.heap.size w W) ⟨by ((repeat first|with_reducible assumption|((with_reducible apply Blk.farAt);focus omega)|with_reducible apply Blk.setb|((with_reducible apply Blk.newAt);focus (simp;done))|with_reducible apply Blk.alloc|with_reducible apply Blk.drew);all_goals (show @Eq (Array Value) _ _;rfl)), by go_grown⟩ ?_
    rintro w0 ⟨hx, hw0⟩
    refine (CR.out _ hw0).mono ?_
    rintro e w1 ⟨rfl, hb1⟩
    replace hx := hx.below' hb1
    have hw1 := below_then hw0 hb1
    have z0 := hx.cell 0
    have z1 := hx.cell 1
    clear hb1 hw0
    go_wp2
    go_ret2
    exact ⟨rfl, hw1⟩
 ·
  rw [if_pos h0]
  have g1 : (E == 0) = false := by simpa using h0
  have g2 : (E != 0) = true := by simpa using h0
  go_enter Tryz.func11, Tryz.ntmps11
  go_wp2_with fail
  refine calls_gen (fun W => Blk W w.heap.size 25 #[.slice sa steps.length sc, .slice ga goals.length gc] ∧ Below w.heap.size w W) ⟨by ((repeat first|with_reducible assumption|((with_reducible apply Blk.farAt);focus omega)|with_reducible apply Blk.setb|((with_reducible apply Blk.newAt);focus (simp;done))|with_reducible apply Blk.alloc|with_reducible apply Blk.drew);all_goals (show @Eq (Array Value) _ _;rfl)), by go_grown⟩ ?_
  rintro w0 ⟨hx, hw0⟩
  refine (CR.out _ hw0).mono ?_
  rintro e w1 ⟨rfl, hb1⟩
  replace hx := hx.below' hb1
  have hw1 := below_then hw0 hb1
  have z0 := hx.cell 0
  have z1 := hx.cell 1
  clear hb1 hw0
  go_wp2
  go_ret2
  exact ⟨rfl, hw1⟩
set_option maxRecDepth 100000 in
set_option maxHeartbeats 8000000 in
theorem refutesR_any (f : Fig) (sa : Option Addr) (sc : Nat) (ga : Option Addr) (gc : Nat) (goal : Int) (l : List Bx) (a : Option Addr) (c : Nat) (w : World) (hF : FigR w sa sc ga gc f) (hB : BoxesR w a c l) (hs : l.all Bx.short = true) (hq : f.few) (hfew : ∀ g ∈ f.goals, g.ratio.num.length ≤ 2 ∧ g.ratio.den.length ≤ 2) :
  Calls Tryz.prog 12 #[f.val sa sc ga gc, .int .i64 goal, .slice a l.length c] w fun e w' => e = .returned (.tuple #[.bool (refB f goal l).1, .int .i64 (refB f goal l).2]) ∧ Below w.heap.size w w' := by
 obtain ⟨steps, goals⟩ := f
 obtain ⟨hS, hG⟩ := hF
 have CR := fun W (hW : Below w.heap.size w W) => right20_any ⟨steps, goals⟩ sa sc ga gc W ⟨StepsR.ext hS (Ext.below hW), FctsR.ext hG (Ext.below hW)⟩ hq
 have hsl := hS.len
 have hgl := hG.len
 have hbl := hB.len
 have hne := fun h => (Fig.goal_of (f := ⟨steps, goals⟩) h)
 unfold Fig.val at CR ⊢
 unfold refB
 dsimp only at CR hfew ⊢
 obtain ⟨E, hE⟩ : ∃ E, Fig.err ⟨steps, goals⟩ = E := ⟨_, rfl⟩
 rw [hE] at CR hne ⊢
 replace CR := Lib.hid CR
 replace hB := Lib.hid hB; replace hG := Lib.hid hG; replace hne := Lib.hid hne
 clear hS hE hq
 by_cases h0 : E = 0
 ·
  subst h0
  rw [if_neg (by simp)]
  by_cases h1 : goal < 0
  ·
   rw [if_pos (Or.inl h1)]
   go_enter Tryz.func12, Tryz.ntmps12
   go_wp2_with fail
   refine calls_gen (fun W => Blk W w.heap.size 25 #[.slice sa steps.length sc, .slice ga goals.length gc] ∧ Below w.heap.size w W) ⟨by ((repeat first|with_reducible assumption|((with_reducible apply Blk.farAt);focus omega)|with_reducible apply Blk.setb|((with_reducible apply Blk.newAt);focus (simp;done))|with_reducible apply Blk.alloc|with_reducible apply Blk.drew);all_goals (show @Eq (Array Value) _ _;rfl)), by go_grown⟩ ?_
   rintro w0 ⟨hx, hw0⟩
   refine (CR.out _ hw0).mono ?_
   rintro e w1 ⟨rfl, hb1⟩
   replace hx := hx.below' hb1
   have hw1 := below_then hw0 hb1
   have z0 := hx.cell 0
   have z1 := hx.cell 1
   clear hb1 hw0
   go_wp2
   go_ret2
   exact ⟨rfl, hw1⟩
  ·
   obtain ⟨k, rfl⟩ := Int.eq_ofNat_of_zero_le (Int.not_lt.1 h1)
   by_cases h2 : k < goals.length
   ·
    have h2' : ¬ ((goals.length : Int) ≤ k) := by omega
    rw [if_neg (by omega)]
    by_cases h3 : l.length = steps.length
    ·
     rw [if_neg (by simp [h3])]
     obtain ⟨gg, hgg⟩ := get_of_lt h2
     have hvl := hfew gg (List.mem_of_getElem? hgg)
     have heg := hne.out rfl gg (List.mem_of_getElem? hgg)
     rw [← h3] at heg
     obtain ⟨b, o, rfl, pr, hC, hP, hki⟩ := hG.out.2.2 k gg hgg
     obtain ⟨hk1, hk2, hk3⟩ := kind_of heg
     have hvn := valsI_len gg.kind (pAt l gg.args) gg.ratio.q hk2
     have CV := fun W (hW : Below w.heap.size w W) => valuesR_any gg pr l a c W (hB.out.ext (Ext.below hW)) (hP.ext (Ext.below hW)) hs heg hvl
     have hn2 : valsN gg.kind ≤ 2 := by unfold valsN; split <;> omega
     simp only [Int.toNat_natCast]
     rw [hgg]
     dsimp only
     revert CV hvn
     generalize valsI gg.kind (pAt l gg.args) gg.ratio.q = qs
     revert hn2
     generalize valsN gg.kind = n
     intro hn2 hvn CV
     unfold Fct.val at CV
     obtain ⟨R, hRR⟩ : ∃ R, outB qs = R := ⟨_, rfl⟩
     rw [hRR]
     replace CV := Lib.hid CV; replace hvn := Lib.hid hvn; replace hRR := Lib.hid hRR
     obtain ⟨c0, c1, c2, c3, c4⟩ := hC
     replace c0 := held c0; replace c1 := held c1; replace c2 := held c2; replace c3 := held c3; replace c4 := held c4
     have h3i : ((l.length : Int) == (steps.length : Int)) = true := by simp [h3]
     have h3n : ((l.length : Int) != (steps.length : Int)) = false := by simp [h3]
     have H3 := Lib.hid h3
     clear hgg hvl heg hP hki hk1 hk2 hk3 hs hfew hne hB hG h3
     go_enter Tryz.func12, Tryz.ntmps12
     go_wp2_with fail
     refine calls_gen (fun W => Blk W w.heap.size 25 #[.slice sa steps.length sc, .slice (some ⟨b, o, none⟩) goals.length gc] ∧ Below w.heap.size w W) ⟨by ((repeat first|with_reducible assumption|((with_reducible apply Blk.farAt);focus omega)|with_reducible apply Blk.setb|((with_reducible apply Blk.newAt);focus (simp;done))|with_reducible apply Blk.alloc|with_reducible apply Blk.drew);all_goals (show @Eq (Array Value) _ _;rfl)), by go_grown⟩ ?_
     rintro w0 ⟨hx, hw0⟩
     refine (CR.out _ hw0).mono ?_
     rintro e w1 ⟨rfl, hb1⟩
     replace hx := hx.below' hb1
     have hw1 := below_then hw0 hb1
     have z0 := hx.cell 0
     have z1 := hx.cell 1
     clear hb1 hw0
     have d0 := c0 w1 hw1; have d1 := c1 w1 hw1; have d2 := c2 w1 hw1; have d3 := c3 w1 hw1; have d4 := c4 w1 hw1
     go_wp2_with fail
     refine (CV.out _ hw1).mono ?_
     rintro e w2 ⟨xs, g, cp, rfl, HR, HA, hb2⟩
     have hw2 := below_then hw1 hb2
     clear d0 d1 d2 d3 d4 c0 c1 c2 c3 c4 z0 z1 hb2 hx
     have hxl : xs.length = qs.length := HA.1
     replace HR := Lib.hid HR; replace HA := Lib.hid HA; replace hxl := Lib.hid hxl
     have HO : Hid (outB (qs.drop (2 * 0)) = R) := Lib.hid hRR.out
     clear hRR CR CV h2 h2' h1
     have s2 := Below.refl w2.heap.size w2
     go_wp2
     obtain ⟨wo, rfl⟩ : ∃ wo : World, wo = w2 := ⟨_, rfl⟩
     go_loopg [39] n (fun m q wr => ∃ k : Nat, k + m = n ∧ q = .int .i64 k ∧ Below wo.heap.size wo wr ∧ outB (qs.drop (2 * k)) = R)
     case atStart => exact ⟨0, by omega, rfl, s2, HO.out⟩
     case round =>
      clear s2 HO
      obtain ⟨k, hkm, rfl, sk, hout⟩ := hrel
      replace hkm := Lib.hid hkm; replace hout := Lib.hid hout
      by_cases hlt : k < n
      ·
       have hl1 : 2 * k + 1 < qs.length := by have := hvn.out; omega
       obtain ⟨p, hp⟩ := get_of_lt (show 2 * k < qs.length by omega)
       obtain ⟨q, hqq⟩ := get_of_lt hl1
       obtain ⟨x, hx⟩ := get_of_lt (show 2 * k < xs.length by have := hxl.out; omega)
       obtain ⟨y, hy⟩ := get_of_lt (show 2 * k + 1 < xs.length by have := hxl.out; omega)
       have e0 := Ext.below sk
       obtain ⟨u0, u1, u2⟩ := HR.out _ _ hx
       obtain ⟨u3, u4, u5⟩ := HR.out _ _ hy
       have a1 : 2 * k * 3 = k * 6 := by omega
       have a2 : (2 * k + 1) * 3 = k * 6 + 3 := by omega
       rw [a1] at u0 u1 u2
       rw [a2] at u3 u4 u5
       replace u0 := e0 _ _ u0; replace u1 := e0 _ _ u1; replace u2 := e0 _ _ u2; replace u3 := e0 _ _ u3; replace u4 := e0 _ _ u4; replace u5 := e0 _ _ u5
       have r1 := Lib.hid ((HA.out.2 _ _ _ hx hp).ext e0)
       have r2 := Lib.hid ((HA.out.2 _ _ _ hy hqq).ext e0)
       have hstep := Lib.hid (outB_at hp hqq)
       clear hp hqq hx hy a1 a2 hl1 e0
       go_wp2
       refine world_gen (fun W => Blk W wr.heap.size 73 #[.bool x.neg, .slice x.a x.n x.c, .slice x.b x.m x.d, .bool y.neg, .slice y.a y.n y.c, .slice y.b y.m y.d] ∧ Below wr.heap.size wr W) ⟨by ((repeat first|with_reducible assumption|((with_reducible apply Blk.farAt);focus omega)|with_reducible apply Blk.setb|((with_reducible apply Blk.newAt);focus (simp;done))|with_reducible apply Blk.alloc|with_reducible apply Blk.drew);all_goals (show @Eq (Array Value) _ _;rfl)), by go_grown⟩ ?_
       rintro w3 ⟨hz, hb3⟩
       have k0 := held (hz.cell 0); have k1 := held (hz.cell 1); have k2 := held (hz.cell 2); have k3 := held (hz.cell 3); have k4 := held (hz.cell 4); have k5 := held (hz.cell 5)
       have sz : Below w3.heap.size w3 w3.drew := (Below.refl _ _).drew
       clear u0 u1 u2 u3 u4 u5 hz
       refine wp_region_mix (S := Below w3.heap.size w3) [(0, .q), (1, .l), (2, .t), (3, .p)] (by kernel_rfl) (by kernel_rfl) (by kernel_rfl) (fun d _ _ _ _ h => by cases d <;> exact h) (sz) ?_
       iterate 1 (refine wpMix_q rfl rfl (fun K hK => ?_); apply Exists.intro; refine ⟨fun w' hw' => ?_, ?_⟩; (focus (go_simp; try rfl)); go_simp; refine hK _ _ ?_; clear hK K)
       refine wpMix_l rfl rfl (fun K hK => ?_)
       go_simp
       refine (zeroR_q _).mono ?_
       rintro r w4 ⟨zr, rfl, J1, hb4⟩
       dsimp only
       refine hK.out _ _ (below_then sz hb4) (fun _ => ?_)
       clear hK K
       have s4 := below_then sz hb4
       refine wpMix_t rfl rfl (fun K hK => ?_)
       go_simp
       refine (ihasR_q x y zr p q 0 1000 1 _ ((r1.out.ext (Ext.below (below_then hb3 s4)))) ((r2.out.ext (Ext.below (below_then hb3 s4)))) J1.now (by omega) (by omega)).mono ?_
       rintro r w5 ⟨rfl, hb5⟩
       dsimp only
       refine hK.out _ _ ?_
       clear hK K
       have s5 := below_then s4 hb5
       clear J1 hb4 hb5 k0 k1 k2 k3 k4 k5
       have sF := below_then sk (below_then hb3 s5)
       obtain ⟨nb, hnb⟩ : ∃ nb : Bool, decide (p ≤ 0 ∧ 0 ≤ q) = !nb := ⟨!decide (p ≤ 0 ∧ 0 ≤ q), by simp⟩
       rw [hnb] at hstep ⊢
       have ho2 := hout.out
       rw [hstep.out, Bool.not_not] at ho2
       clear hnb hstep hout r1 r2 s4 s5 sz hb3 sk
       replace ho2 := Lib.hid ho2
       iterate 1 (refine wpMix_p rfl rfl (fun K hK => ?_); apply Exists.intro; refine ⟨fun w' => ?_, ?_⟩; (focus (go_simp; try rfl)); go_simp; refine hK _ _ ?_; clear hK K)
       refine wpMix_nil ?_
       cases nb
       ·
        have ho3 : outB (qs.drop (2 * (k + 1))) = R := by simpa using ho2.out
        replace ho3 := Lib.hid ho3
        clear ho2
        go_wp2
        go_roundg (gk - 1)
        case rel => exact ⟨k + 1, by have := hkm.out; omega, by go_num, sF, ho3.out⟩
        case measure => have := hkm.out; omega
       ·
        obtain rfl : R = true := by simpa using ho2.out.symm
        clear ho2
        go_wp2
        go_ret2
        exact ⟨rfl, below_then hw2 sF⟩
      ·
       obtain rfl : R = false := by rw [← hout.out, List.drop_eq_nil_of_le (by have := hvn.out; omega)]; rfl
       go_wp2
       go_ret2
       exact ⟨rfl, below_then hw2 sk⟩
    ·
     rw [if_pos h3]
     have h3i : ((l.length : Int) == (steps.length : Int)) = false := by simp; omega
     have h3n : ((l.length : Int) != (steps.length : Int)) = true := by simp; omega
     have H3 := Lib.hid h3
     clear h3
     go_enter Tryz.func12, Tryz.ntmps12
     go_wp2_with fail
     refine calls_gen (fun W => Blk W w.heap.size 25 #[.slice sa steps.length sc, .slice ga goals.length gc] ∧ Below w.heap.size w W) ⟨by ((repeat first|with_reducible assumption|((with_reducible apply Blk.farAt);focus omega)|with_reducible apply Blk.setb|((with_reducible apply Blk.newAt);focus (simp;done))|with_reducible apply Blk.alloc|with_reducible apply Blk.drew);all_goals (show @Eq (Array Value) _ _;rfl)), by go_grown⟩ ?_
     rintro w0 ⟨hx, hw0⟩
     refine (CR.out _ hw0).mono ?_
     rintro e w1 ⟨rfl, hb1⟩
     replace hx := hx.below' hb1
     have hw1 := below_then hw0 hb1
     have z0 := hx.cell 0
     have z1 := hx.cell 1
     clear hb1 hw0
     go_wp2
     go_ret2
     exact ⟨rfl, hw1⟩
   ·
    have h2' : ((goals.length : Int) ≤ k) := by omega
    rw [if_pos (Or.inr h2')]
    go_enter Tryz.func12, Tryz.ntmps12
    go_wp2_with fail
    refine calls_gen (fun W => Blk W w.heap.size 25 #[.slice sa steps.length sc, .slice ga goals.length gc] ∧ Below w.heap.size w W) ⟨by ((repeat first|with_reducible assumption|((with_reducible apply Blk.farAt);focus omega)|with_reducible apply Blk.setb|((with_reducible apply Blk.newAt);focus (simp;done))|with_reducible apply Blk.alloc|with_reducible apply Blk.drew);all_goals (show @Eq (Array Value) _ _;rfl)), by go_grown⟩ ?_
    rintro w0 ⟨hx, hw0⟩
    refine (CR.out _ hw0).mono ?_
    rintro e w1 ⟨rfl, hb1⟩
    replace hx := hx.below' hb1
    have hw1 := below_then hw0 hb1
    have z0 := hx.cell 0
    have z1 := hx.cell 1
    clear hb1 hw0
    go_wp2
    go_ret2
    exact ⟨rfl, hw1⟩
 ·
  rw [if_pos h0]
  have g1 : (E == 0) = false := by simpa using h0
  have g2 : (E != 0) = true := by simpa using h0
  go_enter Tryz.func12, Tryz.ntmps12
  go_wp2_with fail
  refine calls_gen (fun W => Blk W w.heap.size 25 #[.slice sa steps.length sc, .slice ga goals.length gc] ∧ Below w.heap.size w W) ⟨by ((repeat first|with_reducible assumption|((with_reducible apply Blk.farAt);focus omega)|with_reducible apply Blk.setb|((with_reducible apply Blk.newAt);focus (simp;done))|with_reducible apply Blk.alloc|with_reducible apply Blk.drew);all_goals (show @Eq (Array Value) _ _;rfl)), by go_grown⟩ ?_
  rintro w0 ⟨hx, hw0⟩
  refine (CR.out _ hw0).mono ?_
  rintro e w1 ⟨rfl, hb1⟩
  replace hx := hx.below' hb1
  have hw1 := below_then hw0 hb1
  have z0 := hx.cell 0
  have z1 := hx.cell 1
  clear hb1 hw0
  go_wp2
  go_ret2
  exact ⟨rfl, hw1⟩
end Go.Proofs.YtaihkpjbnkgmlaaGreat
