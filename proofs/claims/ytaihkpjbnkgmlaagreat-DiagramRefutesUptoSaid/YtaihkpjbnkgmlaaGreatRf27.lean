/- Walks: intervals of one number; the numbers 0 and 2, both sides. -/
import Derived.Test.YtaihkpjbnkgmlaaGreatRf20
import Derived.Test.YtaihkpjbnkgmlaaGreatRf16
import Derived.Test.YtaihkpjbnkgmlaaGreatRf15
import Derived.Test.YtaihkpjbnkgmlaaGreatRf26

/- Walks: whether boxes and points have few limbs and are valid. -/
namespace Go.Proofs.YtaihkpjbnkgmlaaGreat
open Go.RowKit

set_option maxRecDepth 100000 in
set_option maxHeartbeats 1000000 in
/-- an interval of two valid numbers -/
theorem iright_any (z1 z2 : QA) (a b : Rt) (w : World) (R1 : RtZ w a z1) (R2 : RtZ w b z2) (h1 : a.short = true) (h2 : b.short = true) :
  Calls Tryz.prog 67 #[.agg #[.bool z1.neg, .slice z1.a z1.n z1.c, .slice z1.b z1.m z1.d, .bool z2.neg, .slice z2.a z2.n z2.c, .slice z2.b z2.m z2.d]] w fun e w' => e = .returned (.bool (decide (a.q ≤ b.q))) ∧ Below w.heap.size w w' := by
 have CR1 := fun W (hW : Below w.heap.size w W) => rt_right a z1 W (R1.ext (Ext.below hW)) h1
 have CR2 := fun W (hW : Below w.heap.size w W) => rt_right b z2 W (R2.ext (Ext.below hW)) h2
 have CC := fun W (hW : Below w.heap.size w W) => cmpR_q z1 z2 a.q b.q 2 2 W ((R1.ext (Ext.below hW)).sk h1) ((R2.ext (Ext.below hW)).sk h2) (by omega) (by omega)
 have e1 := cmpQ_le (p := a.q) (q := b.q)
 revert CC e1
 generalize cmpQ a.q b.q = u
 intro CC e1
 obtain ⟨R, hR⟩ : ∃ R, decide (a.q ≤ b.q) = R := ⟨_, rfl⟩
 rw [hR]
 replace CR1 := Lib.hid CR1; replace CR2 := Lib.hid CR2; replace CC := Lib.hid CC; replace e1 := Lib.hid e1; replace hR := Lib.hid hR
 clear R1 R2 h1 h2
 go_enter Tryz.func67, Tryz.ntmps67
 go_wp2_with fail
 refine calls_gen (fun W => Blk W w.heap.size 73 #[.bool z1.neg, .slice z1.a z1.n z1.c, .slice z1.b z1.m z1.d, .bool z2.neg, .slice z2.a z2.n z2.c, .slice z2.b z2.m z2.d] ∧ Below w.heap.size w W) ⟨Blk.new w _ _, by go_grown⟩ ?_
 rintro w0 ⟨hx, hw0⟩
 refine (CR1.out _ hw0).mono ?_
 rintro e w1 ⟨rfl, hb1⟩
 replace hx := hx.below' hb1
 have hw1 := below_then hw0 hb1
 have y3 := hx.cell 3; have y4 := hx.cell 4; have y5 := hx.cell 5
 go_wp2_with fail
 refine (CR2.out _ hw1).mono ?_
 rintro e w2 ⟨rfl, hb2⟩
 replace hx := hx.below' hb2
 have hw2 := below_then hw1 hb2
 clear y3 y4 y5
 have y0 := hx.cell 0; have y1 := hx.cell 1; have y2 := hx.cell 2; have y3 := hx.cell 3; have y4 := hx.cell 4; have y5 := hx.cell 5
 go_wp2_with fail
 refine (CC.out _ hw2).mono ?_
 rintro e w3 ⟨rfl, hb3⟩
 go_wp2
 go_ret
 refine ⟨ret_bool ?_, below_then hw2 hb3⟩
 rw [← hR.out, decide_eq_decide, e1.out]
/-- the walk of a row's loop: what has come up is good -/
theorem all_split {α : Type} {f : α → Bool} {l : List α} {k : Nat} {x : α} (hx : l[k]? = some x) : (l.drop k).all f = (f x && (l.drop (k + 1)).all f) := by
 have hk := lt_of_get hx
 rw [List.drop_eq_getElem_cons hk, List.all_cons]
 have : l[k] = x := by rw [List.getElem?_eq_getElem hk] at hx; exact Option.some.inj hx
 rw [this]
theorem all_end {α : Type} {f : α → Bool} {l : List α} {k : Nat} (h : ¬ k < l.length) : (l.drop k).all f = true := by rw [List.drop_eq_nil_of_le (by omega)]; rfl
set_option maxRecDepth 100000 in
set_option maxHeartbeats 4000000 in
theorem right44_any (l : List Bx) (a : Option Addr) (c : Nat) (w : World) (h : BoxesR w a c l) (hs : l.all Bx.short = true) :
  Calls Tryz.prog 32 #[.slice a l.length c] w fun e w' => e = .returned (.bool (l.all Bx.order)) ∧ Below w.heap.size w w' := by
 have HL := Lib.hid h
 have hlen := SlR.len h
 have HS := Lib.hid hs
 obtain ⟨R, hR⟩ : ∃ R, l.all Bx.order = R := ⟨_, rfl⟩
 rw [hR]
 replace hR := Lib.hid hR
 clear h hs
 go_enter Tryz.func32, Tryz.ntmps32
 go_wp2
 obtain ⟨wo, rfl⟩ : ∃ wo : World, wo = w := ⟨_, rfl⟩
 go_loopg [4, 7] l.length (fun g _ s7 wr => ∃ k : Nat, k + g = l.length ∧ s7 = .int .i64 k ∧ Below wo.heap.size wo wr ∧ Hid (R = (l.drop k).all Bx.order))
 case atStart => exact ⟨0, by omega, rfl, Below.refl _ _, by show _ = _; rw [← hR.out]; rfl⟩
 case round =>
  obtain ⟨k, hkg, rfl, hwr, hv⟩ := hrel
  have HKG := Lib.hid hkg
  clear hkg
  by_cases hlt : k < l.length
  ·
   skip
   obtain ⟨x, hx⟩ := get_of_lt hlt
   obtain ⟨bb, off, rfl, z1, z2, z3, z4, q1, q2, q3, q4, r1, r2, r3, r4⟩ := (HL.out.ext (Ext.below hwr)).2.2 k x hx
   obtain ⟨q1, q1', q1''⟩ := q1
   obtain ⟨q2, q2', q2''⟩ := q2
   obtain ⟨q3, q3', q3''⟩ := q3
   obtain ⟨q4, q4', q4''⟩ := q4

   have hkI : (k : Int) < l.length := by omega
   have hv2 := hv.out
   rw [all_split hx] at hv2
   have hsx : x.short = true := by
    have := HS.out
    rw [List.all_eq_true] at this
    exact this x (List.mem_of_getElem? hx)
   unfold Bx.short at hsx
   simp only [Bool.and_eq_true] at hsx
   obtain ⟨⟨⟨hs1, hs2⟩, hs3⟩, hs4⟩ := hsx
   have C1 := fun W (hW : Below wr.heap.size wr W) => iright_any z1 z2 x.a x.b W (r1.ext (Ext.below hW)) (r2.ext (Ext.below hW)) hs1 hs2
   have C2 := fun W (hW : Below wr.heap.size wr W) => iright_any z3 z4 x.c x.d W (r3.ext (Ext.below hW)) (r4.ext (Ext.below hW)) hs3 hs4
   rw [show x.order = (decide (x.a.q ≤ x.b.q) && decide (x.c.q ≤ x.d.q)) from rfl] at hv2
   revert C1 C2 hv2
   generalize decide (x.a.q ≤ x.b.q) = u1
   generalize decide (x.c.q ≤ x.d.q) = u2
   intro hv2 C1 C2
   have HV2 := Lib.hid hv2
   replace C1 := Lib.hid C1; replace C2 := Lib.hid C2
   clear hx hs1 hs2 hs3 hs4 r1 r2 r3 r4 hv hv2
   go_wp2_with fail
   refine calls_gen (fun W => Blk W wr.heap.size 75 #[.bool z1.neg, .slice z1.a z1.n z1.c, .slice z1.b z1.m z1.d, .bool z2.neg, .slice z2.a z2.n z2.c, .slice z2.b z2.m z2.d, .bool z3.neg, .slice z3.a z3.n z3.c, .slice z3.b z3.m z3.d, .bool z4.neg, .slice z4.a z4.n z4.c, .slice z4.b z4.m z4.d] ∧ Below wr.heap.size wr W) ⟨by ((repeat first|with_reducible assumption|((with_reducible apply Blk.farAt);focus omega)|with_reducible apply Blk.setb|((with_reducible apply Blk.newAt);focus (simp;done))|with_reducible apply Blk.alloc|with_reducible apply Blk.drew);all_goals (show @Eq (Array Value) _ _;rfl)), by go_grown⟩ ?_
   clear q1 q1' q1'' q2 q2' q2'' q3 q3' q3'' q4 q4' q4''
   rintro w1 ⟨hb, hw1⟩
   refine (C1.out _ hw1).mono ?_
   rintro e w2 ⟨rfl, hb2⟩
   have hw2 := below_then hw1 hb2
   replace hb := hb.below' hb2
   cases u1
   ·
    have hr : R = false := by rw [HV2.out]; rfl
    subst hr
    go_wp2
    go_ret
    exact ⟨rfl, below_then hwr hw2⟩
   ·
    have y6 := hb.cell 6; have y7 := hb.cell 7; have y8 := hb.cell 8; have y9 := hb.cell 9; have y10 := hb.cell 10; have y11 := hb.cell 11
    go_wp2_with fail
    refine (C2.out _ hw2).mono ?_
    rintro e w3 ⟨rfl, hb3⟩
    have hw3 := below_then hwr (below_then hw2 hb3)
    clear y6 y7 y8 y9 y10 y11
    cases u2
    ·
     have hr : R = false := by rw [HV2.out]; rfl
     subst hr
     go_wp2
     go_ret
     exact ⟨rfl, hw3⟩
    ·
     go_wp2
     go_roundg (gk - 1)
     case rel => exact ⟨k + 1, by have := HKG.out; omega, by go_num, hw3, by show _ = _; rw [HV2.out]; rfl⟩
     case measure => have := HKG.out; omega
  ·
   have hr : R = true := by rw [hv.out, all_end hlt]
   subst hr
   go_wp2
   go_ret
   exact ⟨rfl, hwr⟩
end Go.Proofs.YtaihkpjbnkgmlaaGreat

/- Walks: whether boxes and points have few limbs and are valid, by the statement's own functions. -/
namespace Go.Proofs.YtaihkpjbnkgmlaaGreat
open Go.RowKit

def boxesB (l : List Bx) : Bool := l.all Bx.short && (decide (l.length ≤ 8) && l.all Bx.order)
set_option maxRecDepth 100000 in
set_option maxHeartbeats 4000000 in
theorem boxes44_any (l : List Bx) (a : Option Addr) (c : Nat) (w : World) (h : BoxesR w a c l) (hf : ∀ x ∈ l, Bx.few x) :
  Calls Tryz.prog 10 #[.slice a l.length c] w fun e w' => e = .returned (.bool (boxesB l)) ∧ Below w.heap.size w w' := by
 have HL := Lib.hid h
 have hlen := SlR.len h
 have HF := Lib.hid hf
 have CE := fun hs W (hW : Below w.heap.size w W) => right44_any l a c W (h.ext (Ext.below hW)) hs
 replace CE := Lib.hid CE
 obtain ⟨R, hR⟩ : ∃ R, boxesB l = R := ⟨_, rfl⟩
 rw [hR]
 unfold boxesB at hR
 replace hR := Lib.hid hR
 clear h hf
 go_enter Tryz.func10, Tryz.ntmps10
 go_wp2
 obtain ⟨wo, rfl⟩ : ∃ wo : World, wo = w := ⟨_, rfl⟩
 go_loopg [4, 7] l.length (fun g _ s7 wr => ∃ k : Nat, k + g = l.length ∧ s7 = .int .i64 k ∧ Below wo.heap.size wo wr ∧ Hid (l.all Bx.short = (l.drop k).all Bx.short))
 case atStart => exact ⟨0, by omega, rfl, Below.refl _ _, rfl⟩
 case round =>
  obtain ⟨k, hkg, rfl, hwr, hv⟩ := hrel
  have HKG := Lib.hid hkg
  clear hkg
  by_cases hlt : k < l.length
  ·
   obtain ⟨x, hx⟩ := get_of_lt hlt
   have HX := Lib.hid hx
   obtain ⟨f1, f2, f3, f4⟩ := HF.out x (List.mem_of_getElem? hx)
   obtain ⟨bb, off, rfl, z1, z2, z3, z4, q1, q2, q3, q4, r1, r2, r3, r4⟩ := (HL.out.ext (Ext.below hwr)).2.2 k x hx
   obtain ⟨q1, q1', q1''⟩ := q1
   obtain ⟨q2, q2', q2''⟩ := q2
   obtain ⟨q3, q3', q3''⟩ := q3
   obtain ⟨q4, q4', q4''⟩ := q4
   have hkI : (k : Int) < l.length := by omega
   have C1 := fun W (hW : Below wr.heap.size wr W) => short44_any x.a z1 W (r1.ext (Ext.below hW)) f1
   have C2 := fun W (hW : Below wr.heap.size wr W) => short44_any x.b z2 W (r2.ext (Ext.below hW)) f2
   have C3 := fun W (hW : Below wr.heap.size wr W) => short44_any x.c z3 W (r3.ext (Ext.below hW)) f3
   have C4 := fun W (hW : Below wr.heap.size wr W) => short44_any x.d z4 W (r4.ext (Ext.below hW)) f4
   obtain ⟨u1, hu1⟩ : ∃ u, x.a.short = u := ⟨_, rfl⟩
   obtain ⟨u2, hu2⟩ : ∃ u, x.b.short = u := ⟨_, rfl⟩
   obtain ⟨u3, hu3⟩ : ∃ u, x.c.short = u := ⟨_, rfl⟩
   obtain ⟨u4, hu4⟩ : ∃ u, x.d.short = u := ⟨_, rfl⟩
   rw [hu1] at C1; rw [hu2] at C2; rw [hu3] at C3; rw [hu4] at C4
   replace C1 := Lib.hid C1; replace C2 := Lib.hid C2; replace C3 := Lib.hid C3; replace C4 := Lib.hid C4
   replace hu1 := Lib.hid hu1; replace hu2 := Lib.hid hu2; replace hu3 := Lib.hid hu3; replace hu4 := Lib.hid hu4
   clear hx f1 f2 f3 f4 r1 r2 r3 r4
   go_wp2_with fail
   refine calls_gen (fun W => Blk W wr.heap.size 75 #[.bool z1.neg, .slice z1.a z1.n z1.c, .slice z1.b z1.m z1.d, .bool z2.neg, .slice z2.a z2.n z2.c, .slice z2.b z2.m z2.d, .bool z3.neg, .slice z3.a z3.n z3.c, .slice z3.b z3.m z3.d, .bool z4.neg, .slice z4.a z4.n z4.c, .slice z4.b z4.m z4.d] ∧ Below wr.heap.size wr W) ⟨by ((repeat first|with_reducible assumption|((with_reducible apply Blk.farAt);focus omega)|with_reducible apply Blk.setb|((with_reducible apply Blk.newAt);focus (simp;done))|with_reducible apply Blk.alloc|with_reducible apply Blk.drew);all_goals (show @Eq (Array Value) _ _;rfl)), by go_grown⟩ ?_
   clear q1 q1' q1'' q2 q2' q2'' q3 q3' q3'' q4 q4' q4''
   rintro w1 ⟨hb, hw1⟩
   refine (C1.out _ hw1).mono ?_
   rintro e w2 ⟨rfl, hb2⟩
   have hw2 := below_then hw1 hb2
   replace hb := hb.below' hb2
   cases u1
   ·
    skip
    have hr : R = false := by rw [← hR.out, hv.out, all_split HX.out, show Bx.short x = (x.a.short && x.b.short && x.c.short && x.d.short) from rfl]; simp [hu1.out]
    subst hr
    go_wp2
    go_ret
    exact ⟨rfl, below_then hwr hw2⟩
   ·
    have y3 := hb.cell 3; have y4 := hb.cell 4; have y5 := hb.cell 5
    go_wp2_with fail
    refine (C2.out _ hw2).mono ?_
    rintro e w3 ⟨rfl, hb3⟩
    have hw3 := below_then hw2 hb3
    replace hb := hb.below' hb3
    clear y3 y4 y5
    cases u2
    ·
     skip
     have hr : R = false := by rw [← hR.out, hv.out, all_split HX.out, show Bx.short x = (x.a.short && x.b.short && x.c.short && x.d.short) from rfl]; simp [hu2.out]
     subst hr
     go_wp2
     go_ret
     exact ⟨rfl, below_then hwr hw3⟩
    ·
     have y6 := hb.cell 6; have y7 := hb.cell 7; have y8 := hb.cell 8
     go_wp2_with fail
     refine (C3.out _ hw3).mono ?_
     rintro e w4 ⟨rfl, hb4⟩
     have hw4 := below_then hw3 hb4
     replace hb := hb.below' hb4
     clear y6 y7 y8
     cases u3
     ·
      skip
      have hr : R = false := by rw [← hR.out, hv.out, all_split HX.out, show Bx.short x = (x.a.short && x.b.short && x.c.short && x.d.short) from rfl]; simp [hu3.out]
      subst hr
      go_wp2
      go_ret
      exact ⟨rfl, below_then hwr hw4⟩
     ·
      have y9 := hb.cell 9; have y10 := hb.cell 10; have y11 := hb.cell 11
      go_wp2_with fail
      refine (C4.out _ hw4).mono ?_
      rintro e w5 ⟨rfl, hb5⟩
      have hw5 := below_then hw4 hb5
      clear y9 y10 y11
      cases u4
      ·
       skip
       have hr : R = false := by rw [← hR.out, hv.out, all_split HX.out, show Bx.short x = (x.a.short && x.b.short && x.c.short && x.d.short) from rfl]; simp [hu4.out]
       subst hr
       go_wp2
       go_ret
       exact ⟨rfl, below_then hwr hw5⟩
      ·
       go_wp2
       go_roundg (gk - 1)
       case rel => exact ⟨k + 1, by have := HKG.out; omega, by go_num, below_then hwr hw5, by show _ = _; rw [hv.out, all_split HX.out, show x.short = (x.a.short && x.b.short && x.c.short && x.d.short) from rfl, hu1.out, hu2.out, hu3.out, hu4.out]; rfl⟩
       case measure => have := HKG.out; omega
  ·
   have hs : l.all Bx.short = true := by rw [hv.out, all_end hlt]
   by_cases h8 : l.length ≤ 8
   ·
    have CF := CE.out hs wr hwr
    have hr2 := hR.out
    rw [hs, decide_eq_true h8, Bool.true_and, Bool.true_and] at hr2
    rw [hr2] at CF
    replace CF := Lib.hid CF
    clear hs hr2 CE
    go_wp2_with fail
    refine CF.out.mono ?_
    rintro e w2 ⟨rfl, hb2⟩
    go_wp2
    go_ret
    exact ⟨rfl, below_then hwr hb2⟩
   ·
    have hr : R = false := by rw [← hR.out, decide_eq_false h8]; simp
    subst hr
    clear hs
    go_wp2
    go_ret
    exact ⟨rfl, hwr⟩
end Go.Proofs.YtaihkpjbnkgmlaaGreat

/- Walks: whether points are in boxes, by the program and by the reference. -/
namespace Go.Proofs.YtaihkpjbnkgmlaaGreat
open Go.RowKit

end Go.Proofs.YtaihkpjbnkgmlaaGreat

/- Walks: the program's rational numbers: Frac. -/
namespace Go.Proofs.YtaihkpjbnkgmlaaGreat
open Go.RowKit

end Go.Proofs.YtaihkpjbnkgmlaaGreat

/- Walks: a power of one half; whether boxes are small, by the program and by the reference. -/
namespace Go.Proofs.YtaihkpjbnkgmlaaGreat
open Go.RowKit

theorem limbs_small {n : Nat} (h : n < 65536) : (limbs n).length ≤ 1 := limbs_len_le (by omega)
end Go.Proofs.YtaihkpjbnkgmlaaGreat

/- Walks: intervals of one number; the numbers 0 and 2, both sides. -/
namespace Go.Proofs.YtaihkpjbnkgmlaaGreat
open Go.RowKit

theorem qsz_int2 : qsz 2 ≤ 1 := qsz_le (limbs_small (by decide)) (limbs_small (by decide))
theorem qsz_int0 : qsz 0 ≤ 1 := qsz_le (limbs_small (by decide)) (limbs_small (by decide))
theorem low_int2 : lowest (decide ((2 : Int) < 0)) (2 : Int).natAbs 1 = trip 2 := by
 have := lowest_z 2 1
 rw [this]
 rfl
theorem low_int0 : lowest (decide ((0 : Int) < 0)) (0 : Int).natAbs 1 = trip 0 := by
 have := lowest_z 0 1
 rw [this]
 rfl
theorem zero_q (w : World) : Calls Tryz.prog 36 #[.int .i64 0] w (RetQK 1 0 w) := by
 have := qint_any 0 w ⟨by omega, by omega⟩
 rw [low_int0] at this
 exact this.mono fun _ _ h => retF_q qsz_int0 h
theorem zeroR_q (w : World) : Calls Tryz.prog 39 #[.int .i64 0] w (RetQK 1 0 w) := by
 have := qintR_any 0 w ⟨by omega, by omega⟩
 rw [low_int0] at this
 exact this.mono fun _ _ h => retF_q qsz_int0 h
theorem two_q (w : World) : Calls Tryz.prog 36 #[.int .i64 2] w (RetQK 1 2 w) := by
 have := qint_any 2 w ⟨by omega, by omega⟩
 rw [low_int2] at this
 exact this.mono fun _ _ h => retF_q qsz_int2 h
theorem twoR_q (w : World) : Calls Tryz.prog 61 #[.int .i64 2, .int .i64 1] w (RetQK 1 2 w) := by
 have := qfracR_any 2 1 w ⟨by omega, by omega⟩ ⟨by omega, by omega⟩ (by omega)
 rw [show (decide ((2 : Int) < 0) != decide ((1 : Int) < 0)) = decide ((2 : Int) < 0) by decide, show (1 : Int).natAbs = 1 from rfl, low_int2] at this
 exact this.mono fun _ _ h => retF_q qsz_int2 h
set_option maxRecDepth 100000 in
set_option maxHeartbeats 1000000 in
theorem point_q (x : QA) (w : World) : Calls Tryz.prog 80 #[.agg #[.bool x.neg, .slice x.a x.n x.c, .slice x.b x.m x.d]] w fun e w' => e = .returned (.agg #[.bool x.neg, .slice x.a x.n x.c, .slice x.b x.m x.d, .bool x.neg, .slice x.a x.n x.c, .slice x.b x.m x.d]) ∧ Below w.heap.size w w' := by
 go_enter Tryz.func80, Tryz.ntmps80
 go_wp2
 refine world_gen (fun W => Blk W (w.heap.size + 1) 73 #[.bool x.neg, .slice x.a x.n x.c, .slice x.b x.m x.d, .bool x.neg, .slice x.a x.n x.c, .slice x.b x.m x.d] ∧ Below w.heap.size w W) ⟨by ((repeat first|with_reducible assumption|((with_reducible apply Blk.farAt);focus omega)|with_reducible apply Blk.setb|((with_reducible apply Blk.newAt);focus (simp;done))|with_reducible apply Blk.alloc|with_reducible apply Blk.drew);all_goals (show @Eq (Array Value) _ _;rfl)), by go_grown⟩ ?_
 rintro w3 ⟨hF, hw3⟩
 have e0 := hF.cell 0; have e1 := hF.cell 1; have e2 := hF.cell 2; have e3 := hF.cell 3; have e4 := hF.cell 4; have e5 := hF.cell 5
 refine bodyPost_ret (v := .agg #[.bool x.neg, .slice x.a x.n x.c, .slice x.b x.m x.d, .bool x.neg, .slice x.a x.n x.c, .slice x.b x.m x.d]) (by simp [results, Tryz.results80, go_sem, e0, e1, e2, e3, e4, e5]) rfl ?_
 exact ⟨rfl, hw3⟩
set_option maxRecDepth 100000 in
set_option maxHeartbeats 1000000 in
theorem pointR_q (x : QA) (w : World) : Calls Tryz.prog 92 #[.agg #[.bool x.neg, .slice x.a x.n x.c, .slice x.b x.m x.d]] w fun e w' => e = .returned (.agg #[.bool x.neg, .slice x.a x.n x.c, .slice x.b x.m x.d, .bool x.neg, .slice x.a x.n x.c, .slice x.b x.m x.d]) ∧ Below w.heap.size w w' := by
 go_enter Tryz.func92, Tryz.ntmps92
 go_wp2
 refine world_gen (fun W => Blk W (w.heap.size + 1) 73 #[.bool x.neg, .slice x.a x.n x.c, .slice x.b x.m x.d, .bool x.neg, .slice x.a x.n x.c, .slice x.b x.m x.d] ∧ Below w.heap.size w W) ⟨by ((repeat first|with_reducible assumption|((with_reducible apply Blk.farAt);focus omega)|with_reducible apply Blk.setb|((with_reducible apply Blk.newAt);focus (simp;done))|with_reducible apply Blk.alloc|with_reducible apply Blk.drew);all_goals (show @Eq (Array Value) _ _;rfl)), by go_grown⟩ ?_
 rintro w3 ⟨hF, hw3⟩
 have e0 := hF.cell 0; have e1 := hF.cell 1; have e2 := hF.cell 2; have e3 := hF.cell 3; have e4 := hF.cell 4; have e5 := hF.cell 5
 refine bodyPost_ret (v := .agg #[.bool x.neg, .slice x.a x.n x.c, .slice x.b x.m x.d, .bool x.neg, .slice x.a x.n x.c, .slice x.b x.m x.d]) (by simp [results, Tryz.results92, go_sem, e0, e1, e2, e3, e4, e5]) rfl ?_
 exact ⟨rfl, hw3⟩
set_option maxRecDepth 100000 in
set_option maxHeartbeats 1000000 in
theorem number2_q (w : World) : Calls Tryz.prog 161 #[.int .i64 2] w (RetI2 1 2 2 w) := by
 go_enter Tryz.func161, Tryz.ntmps161
 go_wp2_with fail
 have hw0 : Below w.heap.size w (w.alloc (.cells #[.bool false, .slice none 0 0, .slice none 0 0, .bool false, .slice none 0 0, .slice none 0 0] 73)) := (Below.refl _ _).alloc (Nat.le_refl _) _
 refine (two_q _).mono ?_
 rintro e w1 ⟨x, rfl, HX, hb1⟩
 have h0 : Blk w1 w.heap.size 73 #[.bool false, .slice none 0 0, .slice none 0 0, .bool false, .slice none 0 0, .slice none 0 0] := (Blk.new w _ _).below' hb1
 have hw1 := below_then hw0 hb1
 obtain ⟨B, hB, HB⟩ : ∃ B, w.heap.size < B ∧ (w.alloc (.cells #[.bool false, .slice none 0 0, .slice none 0 0, .bool false, .slice none 0 0, .slice none 0 0] 73)).heap.size = B := ⟨_, by simp, rfl⟩
 rw [HB] at HX
 replace HX := Lib.hid HX
 clear hw0 hb1 HB
 go_wp2_with fail
 refine (point_q x _).mono ?_
 rintro e w2 ⟨rfl, hb2⟩
 replace h0 := h0.below' hb2
 have hw2 := below_then hw1 hb2
 have HX2 := Lib.hid ((HX.out.call hb2).wide (Nat.le_refl _) hb2.size)
 clear hw1 hb2 HX
 have y0 := h0.cell 0; have f0 := h0.frozen 0; have y1 := h0.cell 1; have f1 := h0.frozen 1; have y2 := h0.cell 2; have f2 := h0.frozen 2; have y3 := h0.cell 3; have f3 := h0.frozen 3; have y4 := h0.cell 4; have f4 := h0.frozen 4; have y5 := h0.cell 5; have f5 := h0.frozen 5
 go_wp2
 refine world_gen (fun W => Blk W w.heap.size 73 #[.bool x.neg, .slice x.a x.n x.c, .slice x.b x.m x.d, .bool x.neg, .slice x.a x.n x.c, .slice x.b x.m x.d] ∧ Below w.heap.size w W ∧ Kp (fun V => QK 1 V x 2) B W.heap.size W) ⟨by ((repeat first|with_reducible assumption|((with_reducible apply Blk.farAt);focus omega)|with_reducible apply Blk.setb|((with_reducible apply Blk.newAt);focus (simp;done))|with_reducible apply Blk.alloc|with_reducible apply Blk.drew);all_goals (show @Eq (Array Value) _ _;rfl)), by go_grown, ?_⟩ ?_
 ·
  refine Kp.wide (B := B) (T := w2.heap.size) ?_ (Nat.le_refl _) (by simp)
  iterate 6 (with_reducible refine Kp.setc (.inl hB) ?_)
  exact HX2.out
 rintro w3 ⟨hF, hw3, L⟩
 have e0 := hF.cell 0; have e1 := hF.cell 1; have e2 := hF.cell 2; have e3 := hF.cell 3; have e4 := hF.cell 4; have e5 := hF.cell 5
 refine bodyPost_ret (v := .agg #[.bool x.neg, .slice x.a x.n x.c, .slice x.b x.m x.d, .bool x.neg, .slice x.a x.n x.c, .slice x.b x.m x.d]) (by simp [results, Tryz.results161, go_sem, e0, e1, e2, e3, e4, e5]) rfl ?_
 exact ⟨x, x, rfl, L.wide (Nat.le_of_lt hB) (Nat.le_refl _), L.wide (Nat.le_of_lt hB) (Nat.le_refl _), hw3⟩
set_option maxRecDepth 100000 in
set_option maxHeartbeats 1000000 in
theorem one2R_q (w : World) : Calls Tryz.prog 123 #[.int .i64 2, .int .i64 1] w (RetI2 1 2 2 w) := by
 go_enter Tryz.func123, Tryz.ntmps123
 go_wp2_with fail
 have hw0 : Below w.heap.size w (w.alloc (.cells #[.bool false, .slice none 0 0, .slice none 0 0, .bool false, .slice none 0 0, .slice none 0 0] 73)) := (Below.refl _ _).alloc (Nat.le_refl _) _
 refine (twoR_q _).mono ?_
 rintro e w1 ⟨x, rfl, HX, hb1⟩
 have h0 : Blk w1 w.heap.size 73 #[.bool false, .slice none 0 0, .slice none 0 0, .bool false, .slice none 0 0, .slice none 0 0] := (Blk.new w _ _).below' hb1
 have hw1 := below_then hw0 hb1
 obtain ⟨B, hB, HB⟩ : ∃ B, w.heap.size < B ∧ (w.alloc (.cells #[.bool false, .slice none 0 0, .slice none 0 0, .bool false, .slice none 0 0, .slice none 0 0] 73)).heap.size = B := ⟨_, by simp, rfl⟩
 rw [HB] at HX
 replace HX := Lib.hid HX
 clear hw0 hb1 HB
 go_wp2_with fail
 refine (pointR_q x _).mono ?_
 rintro e w2 ⟨rfl, hb2⟩
 replace h0 := h0.below' hb2
 have hw2 := below_then hw1 hb2
 have HX2 := Lib.hid ((HX.out.call hb2).wide (Nat.le_refl _) hb2.size)
 clear hw1 hb2 HX
 have y0 := h0.cell 0; have f0 := h0.frozen 0; have y1 := h0.cell 1; have f1 := h0.frozen 1; have y2 := h0.cell 2; have f2 := h0.frozen 2; have y3 := h0.cell 3; have f3 := h0.frozen 3; have y4 := h0.cell 4; have f4 := h0.frozen 4; have y5 := h0.cell 5; have f5 := h0.frozen 5
 go_wp2
 refine world_gen (fun W => Blk W w.heap.size 73 #[.bool x.neg, .slice x.a x.n x.c, .slice x.b x.m x.d, .bool x.neg, .slice x.a x.n x.c, .slice x.b x.m x.d] ∧ Below w.heap.size w W ∧ Kp (fun V => QK 1 V x 2) B W.heap.size W) ⟨by ((repeat first|with_reducible assumption|((with_reducible apply Blk.farAt);focus omega)|with_reducible apply Blk.setb|((with_reducible apply Blk.newAt);focus (simp;done))|with_reducible apply Blk.alloc|with_reducible apply Blk.drew);all_goals (show @Eq (Array Value) _ _;rfl)), by go_grown, ?_⟩ ?_
 ·
  refine Kp.wide (B := B) (T := w2.heap.size) ?_ (Nat.le_refl _) (by simp)
  iterate 6 (with_reducible refine Kp.setc (.inl hB) ?_)
  exact HX2.out
 rintro w3 ⟨hF, hw3, L⟩
 have e0 := hF.cell 0; have e1 := hF.cell 1; have e2 := hF.cell 2; have e3 := hF.cell 3; have e4 := hF.cell 4; have e5 := hF.cell 5
 refine bodyPost_ret (v := .agg #[.bool x.neg, .slice x.a x.n x.c, .slice x.b x.m x.d, .bool x.neg, .slice x.a x.n x.c, .slice x.b x.m x.d]) (by simp [results, Tryz.results123, go_sem, e0, e1, e2, e3, e4, e5]) rfl ?_
 exact ⟨x, x, rfl, L.wide (Nat.le_of_lt hB) (Nat.le_refl _), L.wide (Nat.le_of_lt hB) (Nat.le_refl _), hw3⟩
end Go.Proofs.YtaihkpjbnkgmlaaGreat
