/- Walk: whether a step is right, by the reference. -/
import Derived.Test.YtaihkpjbnkgmlaaGreatRf31
import Derived.Test.YtaihkpjbnkgmlaaGreatRows
import Derived.Test.YtaihkpjbnkgmlaaGreatRf1
import Derived.Deep.QuietTactic
import Derived.BigQuiet
import Derived.Deep.LoopGhost

/- Walks: arities and the zero value, by the reference. -/
namespace Go.Proofs.YtaihkpjbnkgmlaaGreat
open Go.RowKit

theorem eqb_false {a b : Int} (h : ¬ a = b) : (a == b) = false := by simpa using h
set_option maxHeartbeats 2000000 in
theorem arity14_any (k : Int) (w : World) : Calls Tryz.prog 142 #[.int .i64 k] w fun e w' => e = .returned (.int .i64 (arity14 k)) ∧ w = w' := by
 by_cases hk : 1 ≤ k ∧ k ≤ 9
 ·
  have hc : k = 1 ∨ k = 2 ∨ k = 3 ∨ k = 4 ∨ k = 5 ∨ k = 6 ∨ k = 7 ∨ k = 8 ∨ k = 9 := by omega
  clear hk
  rcases hc with rfl | rfl | rfl | rfl | rfl | rfl | rfl | rfl | rfl
  all_goals
   go_enter Tryz.func142, Tryz.ntmps142
   go_wp2
   go_ret
   exact ⟨ret_int (by decide), rfl⟩
 ·
  have h1 := eqb_false (a := k) (b := 1) (by omega); have h2 := eqb_false (a := k) (b := 2) (by omega); have h3 := eqb_false (a := k) (b := 3) (by omega)
  have h4 := eqb_false (a := k) (b := 4) (by omega); have h5 := eqb_false (a := k) (b := 5) (by omega); have h6 := eqb_false (a := k) (b := 6) (by omega)
  have h7 := eqb_false (a := k) (b := 7) (by omega); have h8 := eqb_false (a := k) (b := 8) (by omega); have h9 := eqb_false (a := k) (b := 9) (by omega)
  have hr : arity14 k = 0 := by unfold arity14; rw [if_neg (by omega), if_neg (by omega), if_neg (by omega), if_neg (by omega)]
  rw [hr]
  clear hr hk
  go_enter Tryz.func142, Tryz.ntmps142
  go_wp2
  go_ret
  exact ⟨rfl, rfl⟩
set_option maxHeartbeats 2000000 in
theorem arity20_any (k : Int) (w : World) : Calls Tryz.prog 139 #[.int .i64 k] w fun e w' => e = .returned (.int .i64 (arity20 k)) ∧ w = w' := by
 by_cases hk : 1 ≤ k ∧ k ≤ 14
 ·
  have hc : k = 1 ∨ k = 2 ∨ k = 3 ∨ k = 4 ∨ k = 5 ∨ k = 6 ∨ k = 7 ∨ k = 8 ∨ k = 9 ∨ k = 10 ∨ k = 11 ∨ k = 12 ∨ k = 13 ∨ k = 14 := by omega
  clear hk
  rcases hc with rfl | rfl | rfl | rfl | rfl | rfl | rfl | rfl | rfl | rfl | rfl | rfl | rfl | rfl
  all_goals
   go_enter Tryz.func139, Tryz.ntmps139
   go_wp2
   go_ret
   exact ⟨ret_int (by decide), rfl⟩
 ·
  have h1 := eqb_false (a := k) (b := 1) (by omega); have h2 := eqb_false (a := k) (b := 2) (by omega); have h3 := eqb_false (a := k) (b := 3) (by omega)
  have h4 := eqb_false (a := k) (b := 4) (by omega); have h5 := eqb_false (a := k) (b := 5) (by omega); have h6 := eqb_false (a := k) (b := 6) (by omega)
  have h7 := eqb_false (a := k) (b := 7) (by omega); have h8 := eqb_false (a := k) (b := 8) (by omega); have h9 := eqb_false (a := k) (b := 9) (by omega)
  have h10 := eqb_false (a := k) (b := 10) (by omega); have h11 := eqb_false (a := k) (b := 11) (by omega); have h12 := eqb_false (a := k) (b := 12) (by omega)
  have h13 := eqb_false (a := k) (b := 13) (by omega); have h14 := eqb_false (a := k) (b := 14) (by omega)
  have hr : arity20 k = -1 := by unfold arity20; rw [if_neg (by omega), if_neg (by omega), if_neg (by omega), if_neg (by omega)]
  rw [hr]
  clear hr hk
  go_enter Tryz.func139, Tryz.ntmps139
  go_wp2
  go_ret
  exact ⟨rfl, rfl⟩
theorem arity14_in (k : Int) : 0 ≤ arity14 k ∧ arity14 k ≤ 8 := by unfold arity14; split <;> (try split) <;> (try split) <;> (try split) <;> omega
theorem arity20_in (k : Int) : -1 ≤ arity20 k ∧ arity20 k ≤ 4 := by unfold arity20; split <;> (try split) <;> (try split) <;> (try split) <;> omega

set_option maxHeartbeats 1000000 in
theorem none14_any (r : Rt) (na : Option Addr) (nc : Nat) (da : Option Addr) (dc : Nat) (w : World) (hl : r.num.length ≤ 2000000) (hm : r.den.length ≤ 2000000) :
  Calls Tryz.prog 143 #[r.val na nc da dc] w fun e w' => e = .returned (.bool r.none) ∧ Below w.heap.size w w' := by
 obtain ⟨neg, num, den⟩ := r
 unfold Rt.val Rt.none
 dsimp only at hl hm ⊢
 by_cases h1 : num.length = 0 <;> by_cases h2 : den.length = 0
 all_goals
  have e1 : ((num.length : Int) == 0) = decide (num.length = 0) := by rw [Bool.eq_iff_iff]; simp
  have e2 : ((den.length : Int) == 0) = decide (den.length = 0) := by rw [Bool.eq_iff_iff]; simp
  have d1 : decide (num.length = 0) = decide (num.length = 0) := rfl
  simp only [h1, h2, decide_true, decide_false] at e1 e2
  have HH : (decide (num.length = 0), decide (den.length = 0)) = (decide (num.length = 0), decide (den.length = 0)) := rfl
  simp only [h1, h2, decide_true, decide_false] at HH ⊢
  clear HH d1
  cases neg
  all_goals
   have H1 := Lib.hid h1
   have H2 := Lib.hid h2
   clear h1 h2
   go_enter Tryz.func143, Tryz.ntmps143
   go_wp2
   go_ret
   exact ⟨rfl, (Below.refl _ _).alloc (Nat.le_refl _) _⟩
set_option maxHeartbeats 1000000 in
theorem none20_any (r : Rt) (na : Option Addr) (nc : Nat) (da : Option Addr) (dc : Nat) (w : World) (hl : r.num.length ≤ 2000000) (hm : r.den.length ≤ 2000000) :
  Calls Tryz.prog 140 #[r.val na nc da dc] w fun e w' => e = .returned (.bool r.none) ∧ Below w.heap.size w w' := by
 obtain ⟨neg, num, den⟩ := r
 unfold Rt.val Rt.none
 dsimp only at hl hm ⊢
 by_cases h1 : num.length = 0 <;> by_cases h2 : den.length = 0
 all_goals
  have e1 : ((num.length : Int) == 0) = decide (num.length = 0) := by rw [Bool.eq_iff_iff]; simp
  have e2 : ((den.length : Int) == 0) = decide (den.length = 0) := by rw [Bool.eq_iff_iff]; simp
  have d1 : decide (num.length = 0) = decide (num.length = 0) := rfl
  simp only [h1, h2, decide_true, decide_false] at e1 e2
  have HH : (decide (num.length = 0), decide (den.length = 0)) = (decide (num.length = 0), decide (den.length = 0)) := rfl
  simp only [h1, h2, decide_true, decide_false] at HH ⊢
  clear HH d1
  cases neg
  all_goals
   have H1 := Lib.hid h1
   have H2 := Lib.hid h2
   clear h1 h2
   go_enter Tryz.func140, Tryz.ntmps140
   go_wp2
   go_ret
   exact ⟨rfl, (Below.refl _ _).alloc (Nat.le_refl _) _⟩
end Go.Proofs.YtaihkpjbnkgmlaaGreat

/- Walk: whether a fact is right, by the reference. -/
namespace Go.Proofs.YtaihkpjbnkgmlaaGreat
open Go.RowKit

theorem any_take {α : Type} {p : α → Bool} {l : List α} {k : Nat} {x : α} (h : l[k]? = some x) : (l.take (k + 1)).any p = ((l.take k).any p || p x) := by
 rw [take_more h, List.any_append]; simp
theorem any_mem {α : Type} {p : α → Bool} {l : List α} {k : Nat} {x : α} (h : l[k]? = some x) (e : p x = true) : l.any p = true := by
 rw [List.any_eq_true]; exact ⟨x, List.mem_of_getElem? h, e⟩

set_option maxRecDepth 100000 in
set_option maxHeartbeats 2000000 in
theorem right14_any (f : Fct) (n : Int) (p : RA) (w : World) (h : PartsR w p f.args f.ratio) (hq : f.ratio.few) (hn : InInt n) (hk : InInt f.kind) :
  Calls Tryz.prog 63 #[f.val p.aa p.ac p.na p.nc p.da p.dc, .int .i64 n] w fun e w' => e = .returned (.int .i64 (errFct f n)) ∧ Below w.heap.size w w' := by
 obtain ⟨kind, args, r⟩ := f
 obtain ⟨aa, ac, na, nc, da, dc⟩ := p
 obtain ⟨hI, hN, hD⟩ := h
 dsimp only at hI hN hD hq hk
 obtain ⟨res, hres⟩ : ∃ x, errFct ⟨kind, args, r⟩ n = x := ⟨_, rfl⟩
 rw [hres]
 unfold errFct at hres
 dsimp only at hres
 have CA := arity14_any kind
 have hA := arity14_in kind
 have CR := fun W (hW : Below w.heap.size w W) => right03_any r na nc da dc W (hN.ext (Ext.below hW)) (hD.ext (Ext.below hW)) hq.1 hq.2
 have CN := fun W => none14_any r na nc da dc W hq.1 hq.2
 have hlen := hI.len
 have hIn : ∀ a ∈ args, InInt a := fun a ha => by
  obtain ⟨k, hk⟩ := List.mem_iff_getElem?.1 ha
  obtain ⟨b, off, _, hc, hw⟩ := hI.2.2 k a hk
  exact inInt_of hw
 have HI := Lib.hid hI
 have HIn := Lib.hid hIn
 revert CA hA hres CR CN
 generalize arity14 kind = ar
 generalize r.right = br
 generalize r.none = bn
 intro hres CA hA CR CN
 replace CA := Lib.hid CA; replace CR := Lib.hid CR; replace CN := Lib.hid CN
 have HRES := Lib.hid hres
 obtain ⟨hn1, hn2⟩ := hn
 obtain ⟨hk1, hk2⟩ := hk
 obtain ⟨neg, num, den⟩ := r
 unfold Rt.val at CR CN
 unfold Fct.val
 dsimp only at CR CN ⊢
 clear hres hI hN hD hIn hq
 have hz := Blk.new w 81 #[.int .i64 kind, .slice aa args.length ac, .bool neg, .slice na num.length nc, .slice da den.length dc]
 have hb0 : Below w.heap.size w (w.alloc (.cells #[.int .i64 kind, .slice aa args.length ac, .bool neg, .slice na num.length nc, .slice da den.length dc] 81)) := (Below.refl _ _).alloc (Nat.le_refl _) _
 by_cases h0 : ar = 0
 ·
  have he : (ar == 0) = true := by simpa using h0
  have hr : res = 8 := by rw [← HRES.out, if_pos h0]
  subst hr
  clear h0 hz
  go_enter Tryz.func63, Tryz.ntmps63
  go_wp2_with (go_at_call 142; refine (CA.out _).mono ?_; rintro e w' ⟨rfl, rfl⟩)
  go_ret
  exact ⟨rfl, hb0⟩
 ·
  have he : (ar == 0) = false := by simpa using h0
  have H0 := Lib.hid h0
  clear h0
  by_cases h1 : (args.length : Int) = ar
  ·
   have he1 : ((args.length : Int) != ar) = false := by simpa using h1
   have H1 := Lib.hid h1
   clear h1
   go_enter Tryz.func63, Tryz.ntmps63
   go_wp2_with fail
   revert hz hb0
   generalize w.alloc (.cells #[.int .i64 kind, .slice aa args.length ac, .bool neg, .slice na num.length nc, .slice da den.length dc] 81) = w0
   intro hz hb0
   have z0 := hz.cell 0; have z1 := hz.cell 1; have z2 := hz.cell 2; have z3 := hz.cell 3; have z4 := hz.cell 4
   refine (CA.out _).mono ?_
   rintro e w' ⟨rfl, rfl⟩
   go_wp2
   go_quiet ((go_at_call 142; exact Calls.quiet_of_same ((CA.out _).mono fun _ _ h => ⟨h.1, h.2.symm⟩)))
   have hz1 : Blk (w0.drewN nq) w.heap.size 81 #[.int .i64 kind, .slice aa args.length ac, .bool neg, .slice na num.length nc, .slice da den.length dc] := hz
   have hb1 := below_drewN hb0 nq
   clear z0 z1 z2 z3 z4 hz hb0 CA
   revert hz1 hb1
   generalize w0.drewN nq = w1
   intro hz1 hb1
   have z0 := hz1.cell 0; have z1 := hz1.cell 1; have z2 := hz1.cell 2; have z3 := hz1.cell 3; have z4 := hz1.cell 4
   go_wp2
   go_loop [6, 21] (fun _ i => ∃ k : Nat, k ≤ args.length ∧ i = .int .i64 k ∧ Hid ((args.take k).any (badArg n) = false)) (fun _ i => args.length - (intOf i).toNat)
   case atStart => exact ⟨0, by omega, rfl, rfl⟩
   case round =>
    obtain ⟨k, hk, rfl, hno⟩ := hrel
    by_cases hlt : k < args.length
    ·
     obtain ⟨x, hx⟩ := get_of_lt hlt
     obtain ⟨b, off, rfl, hc⟩ := (HI.out.ext (Ext.below hb1)).2.2 k x hx
     have hc1 : w1.cell? ⟨b, off + k, none⟩ = some (.int .i64 x) := by simpa using hc.1
     obtain ⟨hx1, hx2⟩ := HIn.out x (List.mem_of_getElem? hx)
     have HX := Lib.hid hx
     clear hc hx
     by_cases hbad : x < 0 ∨ n ≤ x
     ·
      have hr : res = 2 := by
       have hany : args.any (badArg n) = true := any_mem HX.out (by unfold badArg; exact decide_eq_true hbad)
       rw [← HRES.out, if_neg H0.out, if_neg (by simpa using H1.out), if_pos hany]
      subst hr
      by_cases hx0 : x < 0
      ·
       clear hbad
       go_wp2
       go_ret
       exact ⟨rfl, hb1⟩
      ·
       have hge : n ≤ x := by omega
       clear hbad
       go_wp2
       go_ret
       exact ⟨rfl, hb1⟩
     ·
      have hx0 : 0 ≤ x := by omega
      have hxn : x < n := by omega
      have hbf : badArg n x = false := by unfold badArg; exact decide_eq_false hbad
      have HBF := Lib.hid hbf
      clear hbad hbf
      go_wp2
      go_round
      case rel => exact ⟨k + 1, by omega, by go_num, by show _ = _; rw [any_take HX.out, hno.out, HBF.out]; rfl⟩
      case measure => simp [intOf]; omega
    ·
     have hany : args.any (badArg n) = false := by
      have := hno.out
      rwa [take_all hlt] at this
     have hres2 : (if kind = 9 ∧ br = false then (1 : Int) else if kind ≠ 9 ∧ bn = false then 1 else 0) = res := by
      have := HRES.out
      rw [if_neg H0.out, if_neg (by simpa using H1.out), if_neg (by rw [hany]; simp)] at this
      exact this
     have HR2 := Lib.hid hres2
     clear hres2 hany
     by_cases hk9 : kind = 9
     ·
      have hke : (kind == 9) = true := by simpa using hk9
      have hkn : (kind != 9) = false := by simpa using hk9
      have HK9 := Lib.hid hk9
      clear hk9
      cases br
      ·
       have hr : res = 1 := by rw [← HR2.out, if_pos ⟨HK9.out, rfl⟩]
       subst hr
       go_wp2_with fail
       refine (CR.out _ hb1).mono ?_
       rintro e w2 ⟨rfl, hb2⟩
       have hb3 := below_then hb1 hb2
       go_wp2
       go_ret
       exact ⟨rfl, hb3⟩
      ·
       have hr : res = 0 := by rw [← HR2.out, if_neg (by simp), if_neg (by simp [HK9.out])]
       subst hr
       go_wp2_with fail
       refine (CR.out _ hb1).mono ?_
       rintro e w2 ⟨rfl, hb2⟩
       have hb3 := below_then hb1 hb2
       have hz2 := hz1.below' hb2
       have y0 := hz2.cell 0
       clear hb2 hz2
       go_wp2
       go_ret
       exact ⟨rfl, hb3⟩
     ·
      have hke : (kind == 9) = false := by simpa using hk9
      have hkn : (kind != 9) = true := by simpa using hk9
      have HK9 := Lib.hid hk9
      clear hk9
      cases bn
      ·
       have hr : res = 1 := by rw [← HR2.out, if_neg (fun h => HK9.out h.1), if_pos ⟨HK9.out, rfl⟩]
       subst hr
       go_wp2_with fail
       refine (CN.out _).mono ?_
       rintro e w2 ⟨rfl, hb2⟩
       have hb3 := below_then hb1 hb2
       go_wp2
       go_ret
       exact ⟨rfl, hb3⟩
      ·
       have hr : res = 0 := by rw [← HR2.out, if_neg (fun h => HK9.out h.1), if_neg (by simp)]
       subst hr
       go_wp2_with fail
       refine (CN.out _).mono ?_
       rintro e w2 ⟨rfl, hb2⟩
       have hb3 := below_then hb1 hb2
       go_wp2
       go_ret
       exact ⟨rfl, hb3⟩
  ·
   have he1 : ((args.length : Int) != ar) = true := by simpa using h1
   have hr : res = 1 := by rw [← HRES.out, if_neg H0.out, if_pos h1]
   subst hr
   clear h1
   go_enter Tryz.func63, Tryz.ntmps63
   go_wp2_with fail
   revert hz hb0
   generalize w.alloc (.cells #[.int .i64 kind, .slice aa args.length ac, .bool neg, .slice na num.length nc, .slice da den.length dc] 81) = w0
   intro hz hb0
   have z0 := hz.cell 0; have z1 := hz.cell 1; have z2 := hz.cell 2; have z3 := hz.cell 3; have z4 := hz.cell 4
   refine (CA.out _).mono ?_
   rintro e w' ⟨rfl, rfl⟩
   go_wp2
   go_quiet ((go_at_call 142; exact Calls.quiet_of_same ((CA.out _).mono fun _ _ h => ⟨h.1, h.2.symm⟩)))
   go_wp2
   go_ret
   exact ⟨rfl, below_drewN hb0 _⟩
end Go.Proofs.YtaihkpjbnkgmlaaGreat

/- Slices of strings and of integers that a call makes itself: this program's types. -/
namespace Go.Proofs.YtaihkpjbnkgmlaaGreat
open Go.RowKit

section
variable {B : Nat} {w : World} {a : Option Addr} {c : Nat}
end

end Go.Proofs.YtaihkpjbnkgmlaaGreat

/- Walks: whether a string is a name, by the reference and by the program. -/
namespace Go.Proofs.YtaihkpjbnkgmlaaGreat
open Go.RowKit

set_option maxHeartbeats 1000000 in
theorem letter15_any (c : Int) (w : World) (h0 : 0 ≤ c) (h1 : c ≤ 255) :
  Calls Tryz.prog 218 #[.int .u8 c] w fun e w' => e = .returned (.bool (letB c)) ∧ w = w' := by
 obtain ⟨b, hb⟩ : ∃ b, letB c = b := ⟨_, rfl⟩
 have hb2 := hb
 unfold letB at hb2
 rw [hb]
 have HB := Lib.hid hb2
 clear hb hb2
 by_cases h2 : 65 ≤ c <;> by_cases h3 : c ≤ 90 <;> by_cases h4 : 97 ≤ c <;> by_cases h5 : c ≤ 122 <;> first | (exfalso; omega) | skip
 all_goals
  go_enter Tryz.func218, Tryz.ntmps218
  go_wp2
  go_ret
  refine ⟨ret_bool ?_, rfl⟩
  rw [← HB.out]
  first | (symm; apply decide_eq_true; omega) | (symm; apply decide_eq_false; omega)
set_option maxHeartbeats 1000000 in
theorem digit15_any (c : Int) (w : World) (h0 : 0 ≤ c) (h1 : c ≤ 255) :
  Calls Tryz.prog 219 #[.int .u8 c] w fun e w' => e = .returned (.bool (digB c)) ∧ w = w' := by
 obtain ⟨b, hb⟩ : ∃ b, digB c = b := ⟨_, rfl⟩
 have hb2 := hb
 unfold digB at hb2
 rw [hb]
 have HB := Lib.hid hb2
 clear hb hb2
 by_cases h2 : 48 ≤ c <;> by_cases h3 : c ≤ 57 <;> first | (exfalso; omega) | skip
 all_goals
  go_enter Tryz.func219, Tryz.ntmps219
  go_wp2
  go_ret
  refine ⟨ret_bool ?_, rfl⟩
  rw [← HB.out]
  first | (symm; apply decide_eq_true; omega) | (symm; apply decide_eq_false; omega)

theorem keywords15_any (w : World) : Calls Tryz.prog 220 #[] w fun e w' => e = .returned (.slice (some ⟨w.heap.size, 0, none⟩) 29 29) ∧ w.alloc (.cells (keywords.map Value.string).toArray 9) = w' := by
 go_enter Tryz.func220, Tryz.ntmps220
 go_wp2
 go_ret
 exact ⟨rfl, rfl⟩
theorem keywords_any (w : World) : Calls Tryz.prog 232 #[] w fun e w' => e = .returned (.slice (some ⟨w.heap.size, 0, none⟩) 29 29) ∧ w.alloc (.cells (keywords.map Value.string).toArray 9) = w' := by
 go_enter Tryz.func232, Tryz.ntmps232
 go_wp2
 go_ret
 exact ⟨rfl, rfl⟩
end Go.Proofs.YtaihkpjbnkgmlaaGreat

/- Walk: whether a string is a name, by the reference. -/
namespace Go.Proofs.YtaihkpjbnkgmlaaGreat
open Go.RowKit

theorem keyB_take {s : ByteArray} {k : Nat} {x : ByteArray} (h : keywords[k]? = some x) : ((keywords.take (k + 1)).any fun k => decide (s = k)) = (((keywords.take k).any fun k => decide (s = k)) || decide (s = x)) := by
 rw [take_more h, List.any_append]; simp
theorem keyB_mem {s x : ByteArray} {k : Nat} (h : keywords[k]? = some x) (e : s = x) : keyB s = true := by
 unfold keyB
 rw [List.any_eq_true]
 exact ⟨x, List.mem_of_getElem? h, by simp [e]⟩

set_option maxHeartbeats 1000000 in
theorem isName15_any (s : ByteArray) (w : World) (hs : s.size ≤ 9223372036854775807) :
  Calls Tryz.prog 141 #[.string s] w fun e w' => e = .returned (.bool (isNameB s)) ∧ Below w.heap.size w w' := by
 obtain ⟨r, hr⟩ : ∃ r, isNameB s = r := ⟨_, rfl⟩
 rw [hr]
 have HR := Lib.hid hr
 clear hr
 by_cases h0 : s.size = 0
 ·
  have e := size_zero.1 h0
  subst e
  have hr : r = false := by rw [← HR.out]; exact isNameB_empty
  subst hr
  clear h0 hs
  go_enter Tryz.func141, Tryz.ntmps141
  go_wp2
  go_ret
  exact ⟨rfl, Below.refl _ _⟩
 ·
  have hse : s.toList.isEmpty = false := by rw [str_isEmpty]; simp; exact fun e => h0 (size_zero.2 e)
  have hse2 : s.toList ≠ [] := by intro e; rw [e] at hse; cases hse
  have H0 := Lib.hid h0
  clear h0
  by_cases h20 : s.size ≤ 20
  ·
   have hp : 0 < s.size := by have := H0.out; omega
   have CL := letter15_any ((s[0]'hp).toNat : Nat) w (by omega) (by have := (s[0]'hp).toNat_lt; omega)
   rw [← headB_cons hp] at CL
   obtain ⟨b, hb⟩ : ∃ b, headB s = b := ⟨_, rfl⟩
   rw [hb] at CL
   replace CL := Lib.hid CL
   have HB := Lib.hid hb
   clear hb
   cases b
   ·
    have hr : r = false := by rw [← HR.out]; simp [isNameB, HB.out]
    subst hr
    go_enter Tryz.func141, Tryz.ntmps141
    go_wp2_with (go_at_call 218; refine CL.out.mono ?_; rintro e w' ⟨rfl, rfl⟩)
    go_ret
    exact ⟨rfl, Below.refl _ _⟩
   ·
    go_enter Tryz.func141, Tryz.ntmps141
    go_wp2_with (go_at_call 218; refine CL.out.mono ?_; rintro e w' ⟨rfl, rfl⟩)
    have hi0 := World.iter_heap w s 0
    have hb0 : Below w.heap.size w (w.iter s 0) := (Below.refl _ w).alloc (Nat.le_refl _) _
    revert hi0 hb0
    generalize w.iter s 0 = w0
    intro hi0 hb0
    clear CL
    go_loopg [3] s.size (fun g _ wr => ∃ pos : Nat, pos + g = s.size ∧ Itr wr w.heap.size s pos ∧ Below w.heap.size w wr ∧ (s.data.toList.take pos).all wordB = true)
    case atStart => exact ⟨0, by omega, hi0, hb0, rfl⟩
    case round =>
     obtain ⟨pos, hpos, hi, hb, hall⟩ := hrel
     clear hi0 hb0
     have HA := Lib.hid hall
     have HP := Lib.hid hpos
     have hsz := hi.lt
     clear hall
     by_cases hlt : pos < s.size
     ·
      obtain ⟨rr, n, hnx, hn1⟩ := run_next_any (P := Tryz.prog) wr w.heap.size s pos hi hlt
      have CL := fun W => letter15_any ((s[pos]'hlt).toNat : Nat) W (by omega) (by have := (s[pos]'hlt).toNat_lt; omega)
      have CD := fun W => digit15_any ((s[pos]'hlt).toNat : Nat) W (by omega) (by have := (s[pos]'hlt).toNat_lt; omega)
      have hw : wordB (s[pos]'hlt) = (letB ((s[pos]'hlt).toNat : Nat) || digB ((s[pos]'hlt).toNat : Nat)) := rfl
      have hasc : wordB (s[pos]'hlt) = true → (s[pos]'hlt).toNat < 128 := by
       intro h
       simp only [wordB, letB, digB, Bool.or_eq_true, decide_eq_true_eq] at h
       omega
      have hgl := get_list hlt
      have hnot : wordB (s[pos]'hlt) = false → isNameB s = false := by
       intro h
       have : s.data.toList.all wordB = false := by
        rw [List.all_eq_false]
        exact ⟨_, List.mem_of_getElem? hgl, by simp [h]⟩
       simp [isNameB, this]
      obtain ⟨bl, hbl⟩ : ∃ b, letB ((s[pos]'hlt).toNat : Nat) = b := ⟨_, rfl⟩
      obtain ⟨bd, hbd⟩ : ∃ b, digB ((s[pos]'hlt).toNat : Nat) = b := ⟨_, rfl⟩
      rw [hbl, hbd] at hw
      rw [hbl] at CL
      rw [hbd] at CD
      have HW := Lib.hid hw
      have HN1 := Lib.hid hn1
      have HASC := Lib.hid hasc
      have HNOT := Lib.hid hnot
      have HGL := Lib.hid hgl
      replace CL := Lib.hid CL
      replace CD := Lib.hid CD
      have hnb : Below w.heap.size w (setItr wr w.heap.size s (pos + n)) := below_setItr hb (Nat.le_refl _) _ _
      have hni : Itr (setItr wr w.heap.size s (pos + n)) w.heap.size s (pos + n) := hi.set _
      clear hw hn1 hasc hnot hgl hbl hbd hi hb hpos
      revert hnb hni hnx
      generalize setItr wr w.heap.size s (pos + n) = w2
      intro hnx hnb hni
      cases bl
      ·
       cases bd
       ·
        have hr : r = false := by rw [← HR.out]; exact HNOT.out HW.out
        subst hr
        go_wp2_with (first | (go_at_call 218; refine (CL.out _).mono ?_; rintro e w' ⟨rfl, rfl⟩) | (go_at_call 219; refine (CD.out _).mono ?_; rintro e w' ⟨rfl, rfl⟩))
        go_ret
        exact ⟨rfl, hnb⟩
       ·
        go_wp2_with (first | (go_at_call 218; refine (CL.out _).mono ?_; rintro e w' ⟨rfl, rfl⟩) | (go_at_call 219; refine (CD.out _).mono ?_; rintro e w' ⟨rfl, rfl⟩))
        have e1 := HN1.out (HASC.out HW.out)
        subst e1
        go_roundg (gk - 1)
        case rel => exact ⟨pos + 1, by have := HP.out; omega, hni, hnb, by rw [take_more HGL.out, List.all_append, HA.out]; simp [HW.out]⟩
        case measure => have := HP.out; omega
      ·
       go_wp2_with (first | (go_at_call 218; refine (CL.out _).mono ?_; rintro e w' ⟨rfl, rfl⟩) | (go_at_call 219; refine (CD.out _).mono ?_; rintro e w' ⟨rfl, rfl⟩))
       have hwt : wordB (s[pos]'hlt) = true := by rw [HW.out]; rfl
       have e1 := HN1.out (HASC.out hwt)
       subst e1
       go_roundg (gk - 1)
       case rel => exact ⟨pos + 1, by have := HP.out; omega, hni, hnb, by rw [take_more HGL.out, List.all_append, HA.out]; simp [hwt]⟩
       case measure => have := HP.out; omega
     ·
      obtain ⟨wo, rfl⟩ : ∃ wo : World, wo = wr := ⟨_, rfl⟩
      have hnx := fun ty => run_next_stop (P := Tryz.prog) wo w.heap.size s pos ty hi hlt
      have hall : s.data.toList.all wordB = true := by
       have := HA.out
       rwa [List.take_of_length_le (by simp; omega)] at this
      have HALL := Lib.hid hall
      have HK : r = !keyB s := by rw [← HR.out]; simp [isNameB, HB.out, hall, h20]
      replace HK := Lib.hid HK
      have hk0 := Blk.new wo 9 (keywords.map Value.string).toArray
      have hkb : Below w.heap.size w (wo.alloc (.cells (keywords.map Value.string).toArray 9)) := hb.alloc hb.size _
      have CK := keywords15_any wo
      replace CK := Lib.hid CK
      clear hall hi hpos HA
      go_wp2_with (go_at_call 220; refine CK.out.mono ?_; rintro e w' ⟨rfl, rfl⟩)
      revert hk0 hkb
      generalize wo.alloc (.cells (keywords.map Value.string).toArray 9) = w3
      intro hk0 hkb
      clear CK
      go_loopg [5, 38] 29 (fun g _ i wv => ∃ k : Nat, k + g = 29 ∧ i = .int .i64 k ∧ Blk wv wo.heap.size 9 (keywords.map Value.string).toArray ∧ Below w.heap.size w wv ∧ ((keywords.take k).any fun k => decide (s = k)) = false)
      case atStart => exact ⟨0, by omega, rfl, hk0, hkb, rfl⟩
      case round =>
       obtain ⟨k, hkg, rfl, hk, hbv, hno⟩ := hrel
       have HNO := Lib.hid hno
       have HKG := Lib.hid hkg
       have HKB := Lib.hid hk
       have hsz3 := hk.lt
       clear hk0 hkb hno hkg hk
       by_cases hlt2 : k < 29
       ·
        obtain ⟨x, hx⟩ := get_of_lt (xs := keywords) (k := k) (by rw [keywords_len]; exact hlt2)
        have hc : wr.cell? ⟨wo.heap.size, k, none⟩ = some (.string x) := by rw [HKB.out.cell]; simp [hx]
        have HX := Lib.hid hx
        clear hx
        by_cases he : s = x
        ·
         have hbe : (s.toList == x.toList) = true := by rw [str_beq]; simpa using he
         have HE := Lib.hid he
         clear he
         go_wp2
         go_ret
         exact ⟨ret_bool (by rw [HK.out, keyB_mem HX.out HE.out]; rfl), hbv⟩
        ·
         have hbe : (s.toList == x.toList) = false := by rw [str_beq]; simpa using he
         have HE := Lib.hid he
         clear he
         go_wp2
         go_roundg (gk - 1)
         case rel => exact ⟨k + 1, by have := HKG.out; omega, by go_num, HKB.out, hbv, by rw [keyB_take HX.out, HNO.out]; simp [HE.out]⟩
         case measure => have := HKG.out; omega
       ·
        go_wp2
        go_ret
        refine ⟨ret_bool ?_, hbv⟩
        have := HNO.out
        rw [List.take_of_length_le (by rw [keywords_len]; omega)] at this
        rw [HK.out, keyB, this]; rfl
  ·
   have hr : r = false := by rw [← HR.out]; simp [isNameB]; omega
   subst hr
   go_enter Tryz.func141, Tryz.ntmps141
   go_wp2
   go_ret
   exact ⟨rfl, Below.refl _ _⟩
end Go.Proofs.YtaihkpjbnkgmlaaGreat

/- Walk: whether a step is right, by the reference. -/
namespace Go.Proofs.YtaihkpjbnkgmlaaGreat
open Go.RowKit

set_option maxRecDepth 100000 in
set_option maxHeartbeats 4000000 in
theorem right20_step (l : List Step) (i : Nat) (s : Step) (a : Option Addr) (c : Nat) (w : World) (h : StepsR w a c l) (hs : l[i]? = some s) (hq : s.ratio.few) :
  Calls Tryz.prog 62 #[.slice a l.length c, .int .i64 i] w fun e w' => e = .returned (.int .i64 (errStep l s i)) ∧ Below w.heap.size w w' := by
 have hlen := h.len
 have hi := lt_of_get hs
 obtain ⟨b, off, rfl, p, hC, hP, hkind, hpt⟩ := h.2.2 i s hs
 obtain ⟨kind, point, args, r⟩ := s
 obtain ⟨aa, ac, na, nc, da, dc⟩ := p
 obtain ⟨hI, hN, hD⟩ := hP
 dsimp only at hI hN hD hq hkind hpt
 obtain ⟨c0, c1, c2, c3, c4, c5⟩ := hC
 dsimp only at c0 c1 c2 c3 c4 c5
 obtain ⟨res, hres⟩ : ∃ x, errStep l ⟨kind, point, args, r⟩ i = x := ⟨_, rfl⟩
 rw [hres]
 unfold errStep at hres
 dsimp only at hres
 have CA := arity20_any kind
 have hA := arity20_in kind
 have CR := fun W (hW : Below w.heap.size w W) => right03_any r na nc da dc W (hN.ext (Ext.below hW)) (hD.ext (Ext.below hW)) hq.1 hq.2
 have CN := fun W => none20_any r na nc da dc W hq.1 hq.2
 have CI := fun W => isName15_any point W hpt
 have hlena := hI.len
 have hIn : ∀ a ∈ args, InInt a := fun a ha => by
  obtain ⟨k, hk⟩ := List.mem_iff_getElem?.1 ha
  obtain ⟨b, off, _, hc, hw⟩ := hI.2.2 k a hk
  exact inInt_of hw
 have HI := Lib.hid hI
 have HIn := Lib.hid hIn
 have HS := Lib.hid h
 revert CA hA hres CR CN CI
 generalize arity20 kind = ar
 generalize r.right = br
 generalize r.none = bn
 generalize isNameB point = bi
 intro hres CA hA CR CN CI
 replace CA := Lib.hid CA; replace CR := Lib.hid CR; replace CN := Lib.hid CN; replace CI := Lib.hid CI
 have HRES := Lib.hid hres
 obtain ⟨hk1, hk2⟩ := hkind
 obtain ⟨neg, num, den⟩ := r
 unfold Rt.val at CR CN
 dsimp only at CR CN c0 c1 c2 c3 c4 c5 ⊢
 have HL := Lib.hid hs
 clear hres hI hN hD hIn hq h hs
 have hz := Blk.new w 45 #[.int .i64 kind, .string point, .slice aa args.length ac, .bool neg, .slice na num.length nc, .slice da den.length dc]
 have hb0 : Below w.heap.size w (w.alloc (.cells #[.int .i64 kind, .string point, .slice aa args.length ac, .bool neg, .slice na num.length nc, .slice da den.length dc] 45)) := (Below.refl _ _).alloc (Nat.le_refl _) _
 by_cases h0 : ar < 0
 ·
  have he : decide (ar < 0) = true := by simpa using h0
  have hr : res = 8 := by rw [← HRES.out, if_pos h0]
  subst hr
  clear h0 hz
  go_enter Tryz.func62, Tryz.ntmps62
  go_wp2_with (go_at_call 139; refine (CA.out _).mono ?_; rintro e w' ⟨rfl, rfl⟩)
  go_ret
  exact ⟨rfl, hb0⟩
 ·
  have he : decide (ar < 0) = false := by simpa using h0
  have H0 := Lib.hid h0
  clear h0
  by_cases h1 : (args.length : Int) = ar
  ·
   have he1 : ((args.length : Int) != ar) = false := by simpa using h1
   have H1 := Lib.hid h1
   clear h1
   go_enter Tryz.func62, Tryz.ntmps62
   go_wp2_with fail
   revert hz hb0
   generalize w.alloc (.cells #[.int .i64 kind, .string point, .slice aa args.length ac, .bool neg, .slice na num.length nc, .slice da den.length dc] 45) = w0
   intro hz hb0
   have z0 := hz.cell 0; have z1 := hz.cell 1; have z2 := hz.cell 2; have z3 := hz.cell 3; have z4 := hz.cell 4; have z5 := hz.cell 5
   refine (CA.out _).mono ?_
   rintro e w' ⟨rfl, rfl⟩
   go_wp2
   go_quiet ((go_at_call 139; exact Calls.quiet_of_same ((CA.out _).mono fun _ _ h => ⟨h.1, h.2.symm⟩)))
   have hz1 : Blk (w0.drewN nq) w.heap.size 45 #[.int .i64 kind, .string point, .slice aa args.length ac, .bool neg, .slice na num.length nc, .slice da den.length dc] := hz
   have hb1 := below_drewN hb0 nq
   clear z0 z1 z2 z3 z4 z5 hz hb0 CA c0 c1 c2 c3 c4 c5
   revert hz1 hb1
   generalize w0.drewN nq = w1
   intro hz1 hb1
   have z0 := hz1.cell 0; have z1 := hz1.cell 1; have z2 := hz1.cell 2; have z3 := hz1.cell 3; have z4 := hz1.cell 4; have z5 := hz1.cell 5
   go_wp2
   go_loop [7, 28] (fun _ q => ∃ k : Nat, k ≤ args.length ∧ q = .int .i64 k ∧ Hid ((args.take k).any (badArg i) = false)) (fun _ i => args.length - (intOf i).toNat)
   case atStart => exact ⟨0, by omega, rfl, rfl⟩
   case round =>
    obtain ⟨k, hk, rfl, hno⟩ := hrel
    by_cases hlt : k < args.length
    ·
     obtain ⟨x, hx⟩ := get_of_lt hlt
     obtain ⟨b2, off2, rfl, hc⟩ := (HI.out.ext (Ext.below hb1)).2.2 k x hx
     have hc1 : w1.cell? ⟨b2, off2 + k, none⟩ = some (.int .i64 x) := by simpa using hc.1
     obtain ⟨hx1, hx2⟩ := HIn.out x (List.mem_of_getElem? hx)
     have HX := Lib.hid hx
     clear hc hx
     by_cases hbad : x < 0 ∨ (i : Int) ≤ x
     ·
      have hr : res = 2 := by
       have hany : args.any (badArg i) = true := any_mem HX.out (by unfold badArg; exact decide_eq_true hbad)
       rw [← HRES.out, if_neg (by have := H0.out; omega), if_neg (by simpa using H1.out), if_pos hany]
      subst hr
      by_cases hx0 : x < 0
      ·
       clear hbad
       go_wp2
       go_ret
       exact ⟨rfl, hb1⟩
      ·
       have hge : (i : Int) ≤ x := by omega
       clear hbad
       go_wp2
       go_ret
       exact ⟨rfl, hb1⟩
     ·
      have hx0 : 0 ≤ x := by omega
      have hxn : x < (i : Int) := by omega
      have hbf : badArg i x = false := by unfold badArg; exact decide_eq_false hbad
      have HBF := Lib.hid hbf
      clear hbad hbf
      go_wp2
      go_round
      case rel => exact ⟨k + 1, by omega, by go_num, by show _ = _; rw [any_take HX.out, hno.out, HBF.out]; rfl⟩
      case measure => simp [intOf]; omega
    ·
     have hany : args.any (badArg i) = false := by
      have := hno.out
      rwa [take_all hlt] at this
     have HR2 := HRES.out
     rw [if_neg (by have := H0.out; omega), if_neg (by simpa using H1.out), if_neg (by rw [hany]; simp)] at HR2
     replace HR2 := Lib.hid HR2
     clear hany HRES
     by_cases hb2 : kind = 2 ∧ br = false
     ·
      obtain ⟨hk2, rfl⟩ := hb2
      have hr : res = 1 := by rw [← HR2.out, if_pos ⟨hk2, rfl⟩]
      subst hr
      have hke : (kind == 2) = true := by simpa using hk2
      have hkn : (kind != 2) = false := by simpa using hk2
      clear hk2
      go_wp2_with fail
      refine (CR.out _ hb1).mono ?_
      rintro e w2 ⟨rfl, hb2⟩
      have hb3 := below_then hb1 hb2
      go_wp2
      go_ret
      exact ⟨rfl, hb3⟩
     ·
      by_cases hb2' : kind ≠ 2 ∧ bn = false
      ·
       have hr : res = 1 := by rw [← HR2.out, if_neg hb2, if_pos hb2']
       subst hr
       obtain ⟨hk2, rfl⟩ := hb2'
       have hke : (kind == 2) = false := by simpa using hk2
       have hkn : (kind != 2) = true := by simpa using hk2
       clear hk2 hb2
       go_wp2_with fail
       refine (CN.out _).mono ?_
       rintro e w2 ⟨rfl, hb2⟩
       have hb3 := below_then hb1 hb2
       go_wp2
       go_ret
       exact ⟨rfl, hb3⟩
      ·
       have hgood : (kind = 2 ∧ br = true) ∨ (kind ≠ 2 ∧ bn = true) := by
        by_cases hk2 : kind = 2
        ·
         left; refine ⟨hk2, ?_⟩; cases br
         · exact absurd ⟨hk2, rfl⟩ hb2
         · rfl
        ·
         right; refine ⟨hk2, ?_⟩; cases bn
         · exact absurd ⟨hk2, rfl⟩ hb2'
         · rfl
       have HR3 := HR2.out
       rw [if_neg hb2, if_neg hb2'] at HR3
       replace HR3 := Lib.hid HR3
       clear hb2 hb2' HR2
       rcases hgood with ⟨hk2, rfl⟩ | ⟨hk2, rfl⟩
       all_goals
        first
         | have hke : (kind == 2) = true := by simpa using hk2
         | have hke : (kind == 2) = false := by simpa using hk2
        first
         | have hkn : (kind != 2) = false := by simpa using hk2
         | have hkn : (kind != 2) = true := by simpa using hk2
        clear hk2
        go_wp2_with fail
        first
         | refine (CR.out _ hb1).mono ?_
         | refine (CN.out _).mono ?_
        rintro e w2 ⟨rfl, hb2⟩
        have hz2 := hz1.below' hb2
        have hw2 := below_then hb1 hb2
        clear hb2 z0 z1 z2 z3 z4 z5 hz1 hb1 CR CN HI HIn
        have z0 := hz2.cell 0; have z1 := hz2.cell 1; have z2 := hz2.cell 2; have z3 := hz2.cell 3; have z4 := hz2.cell 4; have z5 := hz2.cell 5
        by_cases hpe : point = ⟨#[]⟩
        ·
         have hr : res = 0 := by rw [← HR3.out, if_pos hpe]
         subst hr
         subst hpe
         go_wp2
         go_ret
         exact ⟨rfl, hw2⟩
        ·
         have hse : point.toList.isEmpty = false := by rw [str_isEmpty]; simpa using hpe
         have HPE := Lib.hid hpe
         have HR4 := HR3.out
         rw [if_neg hpe] at HR4
         replace HR4 := Lib.hid HR4
         clear hpe HR3
         cases bi
         ·
          have hr : res = 6 := by rw [← HR4.out, if_pos rfl]
          subst hr
          go_wp2_with fail
          refine (CI.out _).mono ?_
          rintro e w3 ⟨rfl, hb3⟩
          have hw3 := below_then hw2 hb3
          go_wp2
          go_ret
          exact ⟨rfl, hw3⟩
         ·
          have HR5 := HR4.out
          rw [if_neg (by simp)] at HR5
          replace HR5 := Lib.hid HR5
          clear HR4
          go_wp2_with fail
          refine (CI.out _).mono ?_
          rintro e w3 ⟨rfl, hb3⟩
          have hw3 := below_then hw2 hb3
          have hz3 := hz2.below' hb3
          clear hb3 z0 z1 z2 z3 z4 z5 hz2 hw2 CI
          have hcap := HS.out.1
          have hcm := HS.out.2.1
          unfold maxLen at hcm
          go_wp2
          go_loopg [9, 71] i (fun g _ q wr => ∃ k : Nat, k + g = i ∧ q = .int .i64 k ∧ Below w.heap.size w wr ∧ Blk wr w.heap.size 45 #[.int .i64 kind, .string point, .slice aa args.length ac, .bool neg, .slice na num.length nc, .slice da den.length dc] ∧
           (l.take k).any (fun t => decide (t.point = point)) = false)
          case atStart => exact ⟨0, by omega, rfl, hw3, hz3, rfl⟩
          case round =>
           obtain ⟨k2, hkg, rfl, hwr, hzr, hno2⟩ := hrel
           have HKG := Lib.hid hkg
           have HNO := Lib.hid hno2
           have HZR := Lib.hid hzr
           have z1 := hzr.cell 1
           have hzl := hzr.lt
           clear hw3 hz3 hno hno2 hkg hzr
           by_cases hlt2 : k2 < i
           ·
            obtain ⟨t, ht⟩ := get_of_lt (xs := l) (k := k2) (by omega)
            obtain ⟨b3, off3, hbo, pt, hCt, hPt, _, _⟩ := (HS.out.ext (Ext.below hwr)).2.2 k2 t ht
            injection hbo with hbo
            injection hbo with hbo1 hbo2
            subst hbo1 hbo2
            obtain ⟨t0, t1, t2, t3, t4, t5⟩ := hCt
            have HT := Lib.hid ht
            clear ht hPt
            by_cases he : t.point = point
            ·
             have hr : res = 7 := by
              have hany : (l.take i).any (fun t => decide (t.point = point)) = true := by
               rw [List.any_eq_true]
               refine ⟨t, ?_, by simpa using he⟩
               apply List.mem_of_getElem? (i := k2)
               rw [List.getElem?_take, if_pos hlt2]; exact HT.out
              have := HR5.out
              rw [if_pos hany] at this
              exact this.symm
             subst hr
             have hbe : (t.point.toList == point.toList) = true := by rw [str_beq]; simpa using he
             clear he
             have hw4 := hwr.alloc hwr.size (.cells #[.int .i64 t.kind, .string t.point, .slice pt.aa t.args.length pt.ac, .bool t.ratio.neg, .slice pt.na t.ratio.num.length pt.nc, .slice pt.da t.ratio.den.length pt.dc] 45)
             go_wp2
             go_ret
             exact ⟨rfl, hw4⟩
            ·
             have hbe : (t.point.toList == point.toList) = false := by rw [str_beq]; simpa using he
             have HE := Lib.hid he
             clear he
             have hw4 := hwr.alloc hwr.size (.cells #[.int .i64 t.kind, .string t.point, .slice pt.aa t.args.length pt.ac, .bool t.ratio.neg, .slice pt.na t.ratio.num.length pt.nc, .slice pt.da t.ratio.den.length pt.dc] 45)
             go_wp2
             go_roundg (gk - 1)
             case rel => exact ⟨k2 + 1, by have := HKG.out; omega, by go_num, hw4, HZR.out.alloc _, by rw [any_take HT.out, HNO.out]; simp [HE.out]⟩
             case measure => have := HKG.out; omega
           ·
            have hr : res = 0 := by
             have hany : (l.take i).any (fun t => decide (t.point = point)) = false := by
              have := HNO.out
              rwa [show k2 = i by have := HKG.out; omega] at this
             have := HR5.out
             rw [if_neg (by rw [hany]; simp)] at this
             exact this.symm
            subst hr
            go_wp2
            go_ret
            exact ⟨rfl, hwr⟩
  ·
   have he1 : ((args.length : Int) != ar) = true := by simpa using h1
   have hr : res = 1 := by rw [← HRES.out, if_neg (by have := H0.out; omega), if_pos h1]
   subst hr
   clear h1
   go_enter Tryz.func62, Tryz.ntmps62
   go_wp2_with fail
   revert hz hb0
   generalize w.alloc (.cells #[.int .i64 kind, .string point, .slice aa args.length ac, .bool neg, .slice na num.length nc, .slice da den.length dc] 45) = w0
   intro hz hb0
   have z0 := hz.cell 0; have z1 := hz.cell 1; have z2 := hz.cell 2; have z3 := hz.cell 3; have z4 := hz.cell 4; have z5 := hz.cell 5
   refine (CA.out _).mono ?_
   rintro e w' ⟨rfl, rfl⟩
   go_wp2
   go_quiet ((go_at_call 139; exact Calls.quiet_of_same ((CA.out _).mono fun _ _ h => ⟨h.1, h.2.symm⟩)))
   go_wp2
   go_ret
   exact ⟨rfl, below_drewN hb0 _⟩
end Go.Proofs.YtaihkpjbnkgmlaaGreat
