/- Walks: the program's rational numbers: reduced, Make, Of. -/
import Derived.Test.YtaihkpjbnkgmlaaGreatRf15

/- Walks: the program's rational numbers: reduced. -/
namespace Go.Proofs.YtaihkpjbnkgmlaaGreat
open Go.RowKit

theorem lowest_full {neg : Bool} {n d : Nat} (hn : n ≠ 0) (hd : d ≠ 0) : lowest neg n d = (neg, n / Nat.gcd n d, d / Nat.gcd n d) := by
 unfold lowest
 rw [if_neg hd]
 have h1 : 0 < Nat.gcd n d := Nat.gcd_pos_of_pos_right n (by omega)
 have h2 : 0 < n / Nat.gcd n d := Nat.div_pos (Nat.le_of_dvd (by omega) (Nat.gcd_dvd_left n d)) h1
 have h3 : decide (0 < n / Nat.gcd n d) = true := by rw [decide_eq_true_eq]; exact h2
 rw [h3, Bool.and_true]
theorem lowest_one {neg : Bool} {n d : Nat} (hn : n ≠ 0) (hd : d ≠ 0) (hg : Nat.gcd n d = 1) : lowest neg n d = (neg, n, d) := by
 rw [lowest_full hn hd, hg, Nat.div_one, Nat.div_one]
theorem lowest_nil (neg : Bool) (n : Nat) : lowest neg n 0 = (false, 0, 1) := by simp [lowest]
theorem lowest_null (neg : Bool) {d : Nat} (hd : d ≠ 0) : lowest neg 0 d = (false, 0, 1) := by
 unfold lowest
 rw [if_neg hd]
 simp
 exact Nat.div_self (by omega)
set_option maxRecDepth 100000 in
set_option maxHeartbeats 4000000 in
/-- no denominator, or nothing above it -/
theorem reduced_nil (neg : Bool) (l m : List Int) (n d : Nat) (a a' : Option Addr) (c c' : Nat) (w : World) (h : NatR w a c l) (h' : NatR w a' c' m) (hn : val l = n) (hk : val m = d) (hl : l.length ≤ 2000000) (hm : m.length ≤ 2000000) (h0 : d = 0 ∨ n = 0) :
  Calls Tryz.prog 113 #[.agg #[.bool neg, .slice a l.length c], .slice a' m.length c'] w (RetF (false, 0, 1) w) := by
 have CN := fun W (hW : Below w.heap.size w W) => norm_any m a' c' W (h'.ext (Ext.below hW)) (by omega)
 rw [hk] at CN
 have CZ := fun W (hW : Below w.heap.size w W) => znorm_any neg l n a c W (h.ext (Ext.below hW)) hn (by omega)
 obtain ⟨p, hp⟩ : ∃ q, (neg && decide (0 < n)) = q := ⟨_, rfl⟩
 rw [hp] at CZ
 have CU := fun W => unit_any W
 replace CN := Lib.hid CN; replace CZ := Lib.hid CZ; replace CU := Lib.hid CU
 unfold RetF RetQ
 dsimp only
 rw [limbs_zero]
 clear hp
 by_cases hd : d = 0
 ·
  have he1 : (((limbs d).length : Int) == 0) = true := by rw [hd, limbs_zero]; rfl
  clear hd h0
  have hz : Blk ((w.alloc (.cells #[.bool neg, .slice a l.length c] 41)).alloc (.cells #[.bool false, .slice none 0 0, .slice none 0 0] 43)) (w.heap.size + 1) 43 #[.bool false, .slice none 0 0, .slice none 0 0] := blk_at1 w _ _ _
  have hx : Blk ((w.alloc (.cells #[.bool neg, .slice a l.length c] 41)).alloc (.cells #[.bool false, .slice none 0 0, .slice none 0 0] 43)) w.heap.size 41 #[.bool neg, .slice a l.length c] := (Blk.new w _ _).alloc _
  have hb0 : Below w.heap.size w ((w.alloc (.cells #[.bool neg, .slice a l.length c] 41)).alloc (.cells #[.bool false, .slice none 0 0, .slice none 0 0] 43)) := by go_grown
  have hgB : w.heap.size < w.heap.size + 1 := by omega
  have hgl := hz.lt
  clear h h' hn hk
  go_enter Tryz.func113, Tryz.ntmps113
  go_wp2_with fail
  revert hz hx hb0 hgB hgl
  generalize (w.alloc (.cells #[.bool neg, .slice a l.length c] 41)).alloc (.cells #[.bool false, .slice none 0 0, .slice none 0 0] 43) = w0
  generalize w.heap.size + 1 = g
  intro hz hx hb0 hgB hgl
  refine (CN.out _ hb0).mono ?_
  rintro e w1 ⟨a2, c2, rfl, hV2, hb1⟩
  have hw1 := below_then hb0 hb1
  have hx1 := hx.below' hb1
  have hz1 := hz.below' hb1
  have HV2 := Lib.hid hV2
  have z0 := hx1.cell 0; have z1 := hx1.cell 1
  have hs1 := hb1.size
  clear hz hx hV2
  go_wp2_with fail
  refine (CZ.out _ hw1).mono ?_
  rintro e w2 ⟨a1, c1, rfl, hV1, hb2⟩
  have hw2 := below_then hw1 hb2
  have hx2 := hx1.below' hb2
  have hz2 := hz1.below' hb2
  have HV1 := Lib.hid hV1
  have hne : ¬ g = w.heap.size := by omega
  have hxl : w.heap.size < w0.heap.size := by omega
  have hs0 := hb0.size
  have hxS := blk2 (x := .bool p) (y := .slice a1 (limbs n).length c1) hx2
  have hzS := (hz2.far (p := ⟨w.heap.size, 0, none⟩) hne (.bool p)).far (p := ⟨w.heap.size, 1, none⟩) hne (.slice a1 (limbs n).length c1)
  have hwS := below2 (g := w.heap.size) (x := .bool p) (y := .slice a1 (limbs n).length c1) hw2 (Nat.le_refl _)
  have K1 : ∀ V, New w0.heap.size ((w2.setCell ⟨w.heap.size, 0, none⟩ (.bool p)).setCell ⟨w.heap.size, 1, none⟩ (.slice a1 (limbs n).length c1)) V → NatR V a1 c1 (limbs n) := fun V hV => HV1.out V ((back2 hV (Nat.le_refl _) hxl).base hs1)
  have K2 : ∀ V, New w0.heap.size ((w2.setCell ⟨w.heap.size, 0, none⟩ (.bool p)).setCell ⟨w.heap.size, 1, none⟩ (.slice a1 (limbs n).length c1)) V → NatR V a2 c2 (limbs d) := fun V hV => HV2.out V ((back2 hV (Nat.le_refl _) hxl).below hb2)
  clear z0 z1 hV1 hx1 hz1 HV1 HV2 CN CZ
  have z0 := hx2.cell 0; have z1 := hx2.cell 1; have f0 := hx2.frozen 0; have f1 := hx2.frozen 1; have y0 := hz2.cell 0; have y1 := hz2.cell 1; have y2 := hz2.cell 2; have yf0 := hz2.frozen 0; have yf1 := hz2.frozen 1; have yf2 := hz2.frozen 2
  have hbS := hwS.size
  replace hs1 := hw2.size
  clear hx2 hz2 hw2 hb2 hw1 hb1 hb0
  go_wp2_with fail
  revert hxS hzS hwS K1 K2 hbS
  generalize (w2.setCell ⟨w.heap.size, 0, none⟩ (.bool p)).setCell ⟨w.heap.size, 1, none⟩ (.slice a1 (limbs n).length c1) = wS
  intro hxS hzS hwS K1 K2 hbS
  refine (CU.out _).mono ?_
  rintro e w3 ⟨a5, c5, rfl, hV5, hb3⟩
  have hw3 := below_then hwS hb3
  have hz3 := hzS.below' hb3
  have HV5 := Lib.hid hV5
  have hs3 := hwS.size
  have hgl3 := hzS.lt
  clear hV5 z0 z1 f0 f1 y0 y1 y2 yf0 yf1 yf2 hxS hzS K1 K2
  have y0 := hz3.cell 0; have y1 := hz3.cell 1; have y2 := hz3.cell 2; have yf0 := hz3.frozen 0; have yf1 := hz3.frozen 1; have yf2 := hz3.frozen 2
  go_wp2
  have hF := blk3 (x := .bool false) (y := .slice none 0 0) (z := .slice a5 (limbs 1).length c5) hz3
  have e0 := hF.cell 0; have e1 := hF.cell 1; have e2 := hF.cell 2
  refine bodyPost_ret (v := .agg #[.bool false, .slice none 0 0, .slice a5 (limbs 1).length c5]) (by simp [results, Tryz.results113, go_sem, e0, e1, e2]) rfl ?_
  exact ⟨none, 0, a5, c5, rfl, fun _ _ => SlR.nil, fun V hV => HV5.out V (back3 hV hs3 hgl3), below3 hw3 (Nat.le_of_lt hgB)⟩
 ·
  have hn0 : n = 0 := by omega
  have he1 : (((limbs d).length : Int) == 0) = false := by rw [beq_eq_false_iff_ne]; have := limbs_len_pos (n := d); omega
  have he2 : (((limbs n).length : Int) == 0) = true := by rw [hn0, limbs_zero]; rfl
  clear hd h0 hn0
  have hz : Blk ((w.alloc (.cells #[.bool neg, .slice a l.length c] 41)).alloc (.cells #[.bool false, .slice none 0 0, .slice none 0 0] 43)) (w.heap.size + 1) 43 #[.bool false, .slice none 0 0, .slice none 0 0] := blk_at1 w _ _ _
  have hx : Blk ((w.alloc (.cells #[.bool neg, .slice a l.length c] 41)).alloc (.cells #[.bool false, .slice none 0 0, .slice none 0 0] 43)) w.heap.size 41 #[.bool neg, .slice a l.length c] := (Blk.new w _ _).alloc _
  have hb0 : Below w.heap.size w ((w.alloc (.cells #[.bool neg, .slice a l.length c] 41)).alloc (.cells #[.bool false, .slice none 0 0, .slice none 0 0] 43)) := by go_grown
  have hgB : w.heap.size < w.heap.size + 1 := by omega
  have hgl := hz.lt
  clear h h' hn hk
  go_enter Tryz.func113, Tryz.ntmps113
  go_wp2_with fail
  revert hz hx hb0 hgB hgl
  generalize (w.alloc (.cells #[.bool neg, .slice a l.length c] 41)).alloc (.cells #[.bool false, .slice none 0 0, .slice none 0 0] 43) = w0
  generalize w.heap.size + 1 = g
  intro hz hx hb0 hgB hgl
  refine (CN.out _ hb0).mono ?_
  rintro e w1 ⟨a2, c2, rfl, hV2, hb1⟩
  have hw1 := below_then hb0 hb1
  have hx1 := hx.below' hb1
  have hz1 := hz.below' hb1
  have HV2 := Lib.hid hV2
  have z0 := hx1.cell 0; have z1 := hx1.cell 1
  have hs1 := hb1.size
  clear hz hx hV2
  go_wp2_with fail
  refine (CZ.out _ hw1).mono ?_
  rintro e w2 ⟨a1, c1, rfl, hV1, hb2⟩
  have hw2 := below_then hw1 hb2
  have hx2 := hx1.below' hb2
  have hz2 := hz1.below' hb2
  have HV1 := Lib.hid hV1
  have hne : ¬ g = w.heap.size := by omega
  have hxl : w.heap.size < w0.heap.size := by omega
  have hs0 := hb0.size
  have hxS := blk2 (x := .bool p) (y := .slice a1 (limbs n).length c1) hx2
  have hzS := (hz2.far (p := ⟨w.heap.size, 0, none⟩) hne (.bool p)).far (p := ⟨w.heap.size, 1, none⟩) hne (.slice a1 (limbs n).length c1)
  have hwS := below2 (g := w.heap.size) (x := .bool p) (y := .slice a1 (limbs n).length c1) hw2 (Nat.le_refl _)
  have K1 : ∀ V, New w0.heap.size ((w2.setCell ⟨w.heap.size, 0, none⟩ (.bool p)).setCell ⟨w.heap.size, 1, none⟩ (.slice a1 (limbs n).length c1)) V → NatR V a1 c1 (limbs n) := fun V hV => HV1.out V ((back2 hV (Nat.le_refl _) hxl).base hs1)
  have K2 : ∀ V, New w0.heap.size ((w2.setCell ⟨w.heap.size, 0, none⟩ (.bool p)).setCell ⟨w.heap.size, 1, none⟩ (.slice a1 (limbs n).length c1)) V → NatR V a2 c2 (limbs d) := fun V hV => HV2.out V ((back2 hV (Nat.le_refl _) hxl).below hb2)
  clear z0 z1 hV1 hx1 hz1 HV1 HV2 CN CZ
  have z0 := hx2.cell 0; have z1 := hx2.cell 1; have f0 := hx2.frozen 0; have f1 := hx2.frozen 1; have y0 := hz2.cell 0; have y1 := hz2.cell 1; have y2 := hz2.cell 2; have yf0 := hz2.frozen 0; have yf1 := hz2.frozen 1; have yf2 := hz2.frozen 2
  have hbS := hwS.size
  replace hs1 := hw2.size
  clear hx2 hz2 hw2 hb2 hw1 hb1 hb0
  go_wp2_with fail
  revert hxS hzS hwS K1 K2 hbS
  generalize (w2.setCell ⟨w.heap.size, 0, none⟩ (.bool p)).setCell ⟨w.heap.size, 1, none⟩ (.slice a1 (limbs n).length c1) = wS
  intro hxS hzS hwS K1 K2 hbS
  refine (CU.out _).mono ?_
  rintro e w3 ⟨a5, c5, rfl, hV5, hb3⟩
  have hw3 := below_then hwS hb3
  have hz3 := hzS.below' hb3
  have HV5 := Lib.hid hV5
  have hs3 := hwS.size
  have hgl3 := hzS.lt
  clear hV5 z0 z1 f0 f1 y0 y1 y2 yf0 yf1 yf2 hxS hzS K1 K2
  have y0 := hz3.cell 0; have y1 := hz3.cell 1; have y2 := hz3.cell 2; have yf0 := hz3.frozen 0; have yf1 := hz3.frozen 1; have yf2 := hz3.frozen 2
  go_wp2
  have hF := blk3 (x := .bool false) (y := .slice none 0 0) (z := .slice a5 (limbs 1).length c5) hz3
  have e0 := hF.cell 0; have e1 := hF.cell 1; have e2 := hF.cell 2
  refine bodyPost_ret (v := .agg #[.bool false, .slice none 0 0, .slice a5 (limbs 1).length c5]) (by simp [results, Tryz.results113, go_sem, e0, e1, e2]) rfl ?_
  exact ⟨none, 0, a5, c5, rfl, fun _ _ => SlR.nil, fun V hV => HV5.out V (back3 hV hs3 hgl3), below3 hw3 (Nat.le_of_lt hgB)⟩
set_option maxRecDepth 100000 in
set_option maxHeartbeats 4000000 in
/-- the denominator is 1 -/
theorem reduced_unit (neg : Bool) (l m : List Int) (n d : Nat) (a a' : Option Addr) (c c' : Nat) (w : World) (h : NatR w a c l) (h' : NatR w a' c' m) (hn : val l = n) (hk : val m = d) (hl : l.length ≤ 2000000) (hm : m.length ≤ 2000000) (h0 : n ≠ 0) (hd : d = 1) :
  Calls Tryz.prog 113 #[.agg #[.bool neg, .slice a l.length c], .slice a' m.length c'] w (RetF (neg, n, d) w) := by
 have hd0 : d ≠ 0 := by omega
 have CN := fun W (hW : Below w.heap.size w W) => norm_any m a' c' W (h'.ext (Ext.below hW)) (by omega)
 rw [hk] at CN
 have CZ := fun W (hW : Below w.heap.size w W) => znorm_any neg l n a c W (h.ext (Ext.below hW)) hn (by omega)
 have hp : (neg && decide (0 < n)) = neg := by rw [decide_eq_true (by omega : 0 < n), Bool.and_true]
 rw [hp] at CZ
 have CO := fun a2 c2 W (h2 : NatR W a2 c2 (limbs d)) => one_any (limbs d) a2 c2 W h2
 rw [one_limbs] at CO
 have he1 : (((limbs d).length : Int) == 0) = false := by rw [beq_eq_false_iff_ne]; have := limbs_len_pos (n := d); omega
 have he2 : (((limbs n).length : Int) == 0) = false := by rw [beq_eq_false_iff_ne]; have := limbs_len_pos (n := n); omega
 have ho : decide (d = 1) = true := by simp [hd]
 rw [ho] at CO
 unfold RetF RetQ
 dsimp only
 replace CN := Lib.hid CN; replace CZ := Lib.hid CZ; replace CO := Lib.hid CO
 clear hp ho h0 hd hd0
 have hz : Blk ((w.alloc (.cells #[.bool neg, .slice a l.length c] 41)).alloc (.cells #[.bool false, .slice none 0 0, .slice none 0 0] 43)) (w.heap.size + 1) 43 #[.bool false, .slice none 0 0, .slice none 0 0] := blk_at1 w _ _ _
 have hx : Blk ((w.alloc (.cells #[.bool neg, .slice a l.length c] 41)).alloc (.cells #[.bool false, .slice none 0 0, .slice none 0 0] 43)) w.heap.size 41 #[.bool neg, .slice a l.length c] := (Blk.new w _ _).alloc _
 have hb0 : Below w.heap.size w ((w.alloc (.cells #[.bool neg, .slice a l.length c] 41)).alloc (.cells #[.bool false, .slice none 0 0, .slice none 0 0] 43)) := by go_grown
 have hgB : w.heap.size < w.heap.size + 1 := by omega
 have hgl := hz.lt
 clear h h' hn hk
 go_enter Tryz.func113, Tryz.ntmps113
 go_wp2_with fail
 revert hz hx hb0 hgB hgl
 generalize (w.alloc (.cells #[.bool neg, .slice a l.length c] 41)).alloc (.cells #[.bool false, .slice none 0 0, .slice none 0 0] 43) = w0
 generalize w.heap.size + 1 = g
 intro hz hx hb0 hgB hgl
 refine (CN.out _ hb0).mono ?_
 rintro e w1 ⟨a2, c2, rfl, hV2, hb1⟩
 have hw1 := below_then hb0 hb1
 have hx1 := hx.below' hb1
 have hz1 := hz.below' hb1
 have HV2 := Lib.hid hV2
 have z0 := hx1.cell 0; have z1 := hx1.cell 1
 have hs1 := hb1.size
 clear hz hx hV2
 go_wp2_with fail
 refine (CZ.out _ hw1).mono ?_
 rintro e w2 ⟨a1, c1, rfl, hV1, hb2⟩
 have hw2 := below_then hw1 hb2
 have hx2 := hx1.below' hb2
 have hz2 := hz1.below' hb2
 have HV1 := Lib.hid hV1
 have hne : ¬ g = w.heap.size := by omega
 have hxl : w.heap.size < w0.heap.size := by omega
 have hs0 := hb0.size
 have hxS := blk2 (x := .bool neg) (y := .slice a1 (limbs n).length c1) hx2
 have hzS := (hz2.far (p := ⟨w.heap.size, 0, none⟩) hne (.bool neg)).far (p := ⟨w.heap.size, 1, none⟩) hne (.slice a1 (limbs n).length c1)
 have hwS := below2 (g := w.heap.size) (x := .bool neg) (y := .slice a1 (limbs n).length c1) hw2 (Nat.le_refl _)
 have K1 : ∀ V, New w0.heap.size ((w2.setCell ⟨w.heap.size, 0, none⟩ (.bool neg)).setCell ⟨w.heap.size, 1, none⟩ (.slice a1 (limbs n).length c1)) V → NatR V a1 c1 (limbs n) := fun V hV => HV1.out V ((back2 hV (Nat.le_refl _) hxl).base hs1)
 have K2 : ∀ V, New w0.heap.size ((w2.setCell ⟨w.heap.size, 0, none⟩ (.bool neg)).setCell ⟨w.heap.size, 1, none⟩ (.slice a1 (limbs n).length c1)) V → NatR V a2 c2 (limbs d) := fun V hV => HV2.out V ((back2 hV (Nat.le_refl _) hxl).below hb2)
 clear z0 z1 hV1 hx1 hz1 HV1 HV2 CN CZ
 have z0 := hx2.cell 0; have z1 := hx2.cell 1; have f0 := hx2.frozen 0; have f1 := hx2.frozen 1; have y0 := hz2.cell 0; have y1 := hz2.cell 1; have y2 := hz2.cell 2; have yf0 := hz2.frozen 0; have yf1 := hz2.frozen 1; have yf2 := hz2.frozen 2
 have hbS := hwS.size
 replace hs1 := hw2.size
 clear hx2 hz2 hw2 hb2 hw1 hb1 hb0
 go_wp2_with fail
 revert hxS hzS hwS K1 K2 hbS
 generalize (w2.setCell ⟨w.heap.size, 0, none⟩ (.bool neg)).setCell ⟨w.heap.size, 1, none⟩ (.slice a1 (limbs n).length c1) = wS
 intro hxS hzS hwS K1 K2 hbS
 have CO2 := CO.out a2 c2 wS (K2 wS (New.refl _ _))
 replace CO2 := Lib.hid CO2
 replace K1 := Lib.hid K1; replace K2 := Lib.hid K2
 refine CO2.out.mono ?_
 rintro e w3 ⟨rfl, hb3⟩
 have hw3 := below_then hwS hb3
 have hz3 := hzS.below' hb3
 have hx3 := hxS.below' hb3
 clear z0 z1 f0 f1 y0 y1 y2 yf0 yf1 yf2 hxS hzS CO2
 have z0 := hx3.cell 0; have z1 := hx3.cell 1; have y0 := hz3.cell 0; have y1 := hz3.cell 1; have y2 := hz3.cell 2; have yf0 := hz3.frozen 0; have yf1 := hz3.frozen 1; have yf2 := hz3.frozen 2
 go_wp2
 have hF := blk3 (x := .bool neg) (y := .slice a1 (limbs n).length c1) (z := .slice a2 (limbs d).length c2) hz3
 have e0 := hF.cell 0; have e1 := hF.cell 1; have e2 := hF.cell 2
 refine bodyPost_ret (v := .agg #[.bool neg, .slice a1 (limbs n).length c1, .slice a2 (limbs d).length c2]) (by simp [results, Tryz.results113, go_sem, e0, e1, e2]) rfl ?_
 exact ⟨a1, c1, a2, c2, rfl, fun V hV => K1.out V ((back3 hV hs0 hgl).below (hb3)), fun V hV => K2.out V ((back3 hV hs0 hgl).below hb3), below3 hw3 (Nat.le_of_lt hgB)⟩
end Go.Proofs.YtaihkpjbnkgmlaaGreat

/- Walks: the program's rational numbers: reduced, where neither is 0 nor the denominator 1. -/
namespace Go.Proofs.YtaihkpjbnkgmlaaGreat
open Go.RowKit

set_option maxRecDepth 100000 in
set_option maxHeartbeats 4000000 in
/-- nothing in common -/
theorem reduced_prime (neg : Bool) (l m : List Int) (n d : Nat) (a a' : Option Addr) (c c' : Nat) (w : World) (h : NatR w a c l) (h' : NatR w a' c' m) (hn : val l = n) (hk : val m = d) (hl : l.length ≤ 2000000) (hm : m.length ≤ 2000000) (h0 : n ≠ 0) (hd1 : d ≠ 0) (hd : d ≠ 1)
  (hnl : (limbs n).length ≤ 2000000) (hdl : (limbs d).length ≤ 2000000) (hg1 : Nat.gcd n d = 1) :
  Calls Tryz.prog 113 #[.agg #[.bool neg, .slice a l.length c], .slice a' m.length c'] w (RetF (neg, n, d) w) := by
 have hd0 : d ≠ 0 := by omega
 have CN := fun W (hW : Below w.heap.size w W) => norm_any m a' c' W (h'.ext (Ext.below hW)) (by omega)
 rw [hk] at CN
 have CZ := fun W (hW : Below w.heap.size w W) => znorm_any neg l n a c W (h.ext (Ext.below hW)) hn (by omega)
 have hp : (neg && decide (0 < n)) = neg := by rw [decide_eq_true (by omega : 0 < n), Bool.and_true]
 rw [hp] at CZ
 have CO := fun a2 c2 W (h2 : NatR W a2 c2 (limbs d)) => one_any (limbs d) a2 c2 W h2
 rw [one_limbs] at CO
 have he1 : (((limbs d).length : Int) == 0) = false := by rw [beq_eq_false_iff_ne]; have := limbs_len_pos (n := d); omega
 have he2 : (((limbs n).length : Int) == 0) = false := by rw [beq_eq_false_iff_ne]; have := limbs_len_pos (n := n); omega
 have ho : decide (d = 1) = false := by simp [hd]
 rw [ho] at CO
 have CG := fun a1 c1 a2 c2 W (h1 : NatR W a1 c1 (limbs n)) (h2 : NatR W a2 c2 (limbs d)) => gcd_any (limbs n) (limbs d) n d a1 a2 c1 c2 W h1 h2 (val_limbs _) (val_limbs _) hnl hdl
 obtain ⟨gg, hgg⟩ : ∃ q, Nat.gcd n d = q := ⟨_, rfl⟩
 rw [hgg] at CG
 have CO4 := fun a2 c2 W (h2 : NatR W a2 c2 (limbs gg)) => one_any (limbs gg) a2 c2 W h2
 rw [one_limbs] at CO4
 have ho4 : decide (gg = 1) = true := by rw [← hgg, hg1]; rfl
 rw [ho4] at CO4
 unfold RetF RetQ
 dsimp only
 clear hp ho h0 hd hd0 hd1 hnl hdl hg1 hgg ho4
 replace CN := Lib.hid CN; replace CZ := Lib.hid CZ; replace CO := Lib.hid CO; replace CG := Lib.hid CG; replace CO4 := Lib.hid CO4
 have hz : Blk ((w.alloc (.cells #[.bool neg, .slice a l.length c] 41)).alloc (.cells #[.bool false, .slice none 0 0, .slice none 0 0] 43)) (w.heap.size + 1) 43 #[.bool false, .slice none 0 0, .slice none 0 0] := blk_at1 w _ _ _
 have hx : Blk ((w.alloc (.cells #[.bool neg, .slice a l.length c] 41)).alloc (.cells #[.bool false, .slice none 0 0, .slice none 0 0] 43)) w.heap.size 41 #[.bool neg, .slice a l.length c] := (Blk.new w _ _).alloc _
 have hb0 : Below w.heap.size w ((w.alloc (.cells #[.bool neg, .slice a l.length c] 41)).alloc (.cells #[.bool false, .slice none 0 0, .slice none 0 0] 43)) := by go_grown
 have hgB : w.heap.size < w.heap.size + 1 := by omega
 have hgl := hz.lt
 clear h h' hn hk
 go_enter Tryz.func113, Tryz.ntmps113
 go_wp2_with fail
 revert hz hx hb0 hgB hgl
 generalize (w.alloc (.cells #[.bool neg, .slice a l.length c] 41)).alloc (.cells #[.bool false, .slice none 0 0, .slice none 0 0] 43) = w0
 generalize w.heap.size + 1 = g
 intro hz hx hb0 hgB hgl
 refine (CN.out _ hb0).mono ?_
 rintro e w1 ⟨a2, c2, rfl, hV2, hb1⟩
 have hw1 := below_then hb0 hb1
 have hx1 := hx.below' hb1
 have hz1 := hz.below' hb1
 have HV2 := Lib.hid hV2
 have z0 := hx1.cell 0; have z1 := hx1.cell 1
 have hs1 := hb1.size
 clear hz hx hV2
 go_wp2_with fail
 refine (CZ.out _ hw1).mono ?_
 rintro e w2 ⟨a1, c1, rfl, hV1, hb2⟩
 have hw2 := below_then hw1 hb2
 have hx2 := hx1.below' hb2
 have hz2 := hz1.below' hb2
 have HV1 := Lib.hid hV1
 have hne : ¬ g = w.heap.size := by omega
 have hxl : w.heap.size < w0.heap.size := by omega
 have hs0 := hb0.size
 have hxS := blk2 (x := .bool neg) (y := .slice a1 (limbs n).length c1) hx2
 have hzS := (hz2.far (p := ⟨w.heap.size, 0, none⟩) hne (.bool neg)).far (p := ⟨w.heap.size, 1, none⟩) hne (.slice a1 (limbs n).length c1)
 have hwS := below2 (g := w.heap.size) (x := .bool neg) (y := .slice a1 (limbs n).length c1) hw2 (Nat.le_refl _)
 have K1 : ∀ V, New w0.heap.size ((w2.setCell ⟨w.heap.size, 0, none⟩ (.bool neg)).setCell ⟨w.heap.size, 1, none⟩ (.slice a1 (limbs n).length c1)) V → NatR V a1 c1 (limbs n) := fun V hV => HV1.out V ((back2 hV (Nat.le_refl _) hxl).base hs1)
 have K2 : ∀ V, New w0.heap.size ((w2.setCell ⟨w.heap.size, 0, none⟩ (.bool neg)).setCell ⟨w.heap.size, 1, none⟩ (.slice a1 (limbs n).length c1)) V → NatR V a2 c2 (limbs d) := fun V hV => HV2.out V ((back2 hV (Nat.le_refl _) hxl).below hb2)
 clear z0 z1 hV1 hx1 hz1 HV1 HV2 CN CZ
 have z0 := hx2.cell 0; have z1 := hx2.cell 1; have f0 := hx2.frozen 0; have f1 := hx2.frozen 1; have y0 := hz2.cell 0; have y1 := hz2.cell 1; have y2 := hz2.cell 2; have yf0 := hz2.frozen 0; have yf1 := hz2.frozen 1; have yf2 := hz2.frozen 2
 have hbS : w0.heap.size ≤ ((w2.setCell ⟨w.heap.size, 0, none⟩ (.bool neg)).setCell ⟨w.heap.size, 1, none⟩ (.slice a1 (limbs n).length c1)).heap.size := by simp; exact Nat.le_trans hs1 hb2.size
 replace hs1 := hw2.size
 clear hx2 hz2 hw2 hb2 hw1 hb1 hb0
 go_wp2_with fail
 revert hxS hzS hwS K1 K2 hbS
 generalize (w2.setCell ⟨w.heap.size, 0, none⟩ (.bool neg)).setCell ⟨w.heap.size, 1, none⟩ (.slice a1 (limbs n).length c1) = wS
 intro hxS hzS hwS K1 K2 hbS
 have CO2 := CO.out a2 c2 wS (K2 wS (New.refl _ _))
 replace CO2 := Lib.hid CO2
 replace K1 := Lib.hid K1; replace K2 := Lib.hid K2
 refine CO2.out.mono ?_
 rintro e w3 ⟨rfl, hb3⟩
 have hw3 := below_then hwS hb3
 have hz3 := hzS.below' hb3
 have hx3 := hxS.below' hb3
 clear z0 z1 f0 f1 y0 y1 y2 yf0 yf1 yf2 hxS hzS CO2
 have z0 := hx3.cell 0; have z1 := hx3.cell 1
 have r1 := K1.out w3 ((New.refl _ _).below hb3)
 have r2 := K2.out w3 ((New.refl _ _).below hb3)
 have CG2 := CG.out a1 c1 a2 c2 w3 r1 r2
 replace CG2 := Lib.hid CG2
 clear r1 r2
 go_wp2_with fail
 refine CG2.out.mono ?_
 rintro e w4 ⟨a4, c4, rfl, hV4, hb4⟩
 have hw4 := below_then hw3 hb4
 have hz4 := hz3.below' hb4
 have hx4 := hx3.below' hb4
 have r4 := hV4 w4 (New.refl _ _)
 have CO5 := CO4.out a4 c4 w4 r4
 replace CO5 := Lib.hid CO5
 clear z0 z1 hz3 hx3 CG2
 have R4 := Lib.hid r4
 have R4V := Lib.hid hV4
 have hs3 := hb3.size
 clear r4 hV4
 go_wp2_with fail
 refine CO5.out.mono ?_
 rintro e w5 ⟨rfl, hb5⟩
 have hw5 := below_then hw4 hb5
 have hz5 := hz4.below' hb5
 have hx5 := hx4.below' hb5
 clear CO5 hz4 hx4
 have z0 := hx5.cell 0; have z1 := hx5.cell 1; have f0 := hx5.frozen 0; have f1 := hx5.frozen 1; have y0 := hz5.cell 0; have y1 := hz5.cell 1; have y2 := hz5.cell 2; have yf0 := hz5.frozen 0; have yf1 := hz5.frozen 1; have yf2 := hz5.frozen 2
 go_wp2
 have hF := blk3 (x := .bool neg) (y := .slice a1 (limbs n).length c1) (z := .slice a2 (limbs d).length c2) hz5
 have e0 := hF.cell 0; have e1 := hF.cell 1; have e2 := hF.cell 2
 refine bodyPost_ret (v := .agg #[.bool neg, .slice a1 (limbs n).length c1, .slice a2 (limbs d).length c2]) (by simp [results, Tryz.results113, go_sem, e0, e1, e2]) rfl ?_
 exact ⟨a1, c1, a2, c2, rfl, fun V hV => K1.out V ((((back3 hV hs0 hgl).below hb5).below hb4).below hb3), fun V hV => K2.out V ((((back3 hV hs0 hgl).below hb5).below hb4).below hb3), below3 hw5 (Nat.le_of_lt hgB)⟩
set_option maxRecDepth 100000 in
set_option maxHeartbeats 4000000 in
/-- something in common -/
theorem reduced_common (neg : Bool) (l m : List Int) (n d : Nat) (a a' : Option Addr) (c c' : Nat) (w : World) (h : NatR w a c l) (h' : NatR w a' c' m) (hn : val l = n) (hk : val m = d) (hl : l.length ≤ 2000000) (hm : m.length ≤ 2000000) (h0 : n ≠ 0) (hd1 : d ≠ 0) (hd : d ≠ 1)
  (hnl : (limbs n).length ≤ 2000000) (hdl : (limbs d).length ≤ 2000000) (hg1 : Nat.gcd n d ≠ 1) :
  Calls Tryz.prog 113 #[.agg #[.bool neg, .slice a l.length c], .slice a' m.length c'] w (RetF (neg, n / Nat.gcd n d, d / Nat.gcd n d) w) := by
 have hgp : 0 < Nat.gcd n d := Nat.gcd_pos_of_pos_right n (by omega)
 have hgd : Nat.gcd n d ≤ d := Nat.le_of_dvd (by omega) (Nat.gcd_dvd_right n d)
 have hgl0 := limbs_len_mono hgd
 have hd0 : d ≠ 0 := by omega
 have CN := fun W (hW : Below w.heap.size w W) => norm_any m a' c' W (h'.ext (Ext.below hW)) (by omega)
 rw [hk] at CN
 have CZ := fun W (hW : Below w.heap.size w W) => znorm_any neg l n a c W (h.ext (Ext.below hW)) hn (by omega)
 have hp : (neg && decide (0 < n)) = neg := by rw [decide_eq_true (by omega : 0 < n), Bool.and_true]
 rw [hp] at CZ
 have CO := fun a2 c2 W (h2 : NatR W a2 c2 (limbs d)) => one_any (limbs d) a2 c2 W h2
 rw [one_limbs] at CO
 have he1 : (((limbs d).length : Int) == 0) = false := by rw [beq_eq_false_iff_ne]; have := limbs_len_pos (n := d); omega
 have he2 : (((limbs n).length : Int) == 0) = false := by rw [beq_eq_false_iff_ne]; have := limbs_len_pos (n := n); omega
 have ho : decide (d = 1) = false := by simp [hd]
 rw [ho] at CO
 have CG := fun a1 c1 a2 c2 W (h1 : NatR W a1 c1 (limbs n)) (h2 : NatR W a2 c2 (limbs d)) => gcd_any (limbs n) (limbs d) n d a1 a2 c1 c2 W h1 h2 (val_limbs _) (val_limbs _) hnl hdl
 obtain ⟨gg, hgg⟩ : ∃ q, Nat.gcd n d = q := ⟨_, rfl⟩
 rw [hgg] at CG
 have CO4 := fun a2 c2 W (h2 : NatR W a2 c2 (limbs gg)) => one_any (limbs gg) a2 c2 W h2
 rw [one_limbs] at CO4
 rw [hgg] at hgp hgl0 ⊢
 have ho4 : decide (gg = 1) = false := by rw [decide_eq_false_iff_not, ← hgg]; exact hg1
 rw [ho4] at CO4
 have CD1 := fun a1 c1 a4 c4 W (h1 : NatR W a1 c1 (limbs n)) (h4 : NatR W a4 c4 (limbs gg)) => divMod_any (limbs n) (limbs gg) n gg a1 a4 c1 c4 W h1 h4 (val_limbs _) (val_limbs _) (by omega) (by omega) hgp
 have CD2 := fun a2 c2 a4 c4 W (h2 : NatR W a2 c2 (limbs d)) (h4 : NatR W a4 c4 (limbs gg)) => divMod_any (limbs d) (limbs gg) d gg a2 a4 c2 c4 W h2 h4 (val_limbs _) (val_limbs _) (by omega) (by omega) hgp
 unfold RetQR at CD1 CD2
 unfold RetF RetQ
 dsimp only
 obtain ⟨N, hN⟩ : ∃ q, n / gg = q := ⟨_, rfl⟩
 obtain ⟨D, hD⟩ : ∃ q, d / gg = q := ⟨_, rfl⟩
 simp only [hN] at CD1 ⊢
 simp only [hD] at CD2 ⊢
 clear hp ho h0 hd hd0 hd1 hnl hdl hg1 hgg ho4 hN hD hgp hgl0 hgd
 replace CD1 := Lib.hid CD1; replace CD2 := Lib.hid CD2
 replace CN := Lib.hid CN; replace CZ := Lib.hid CZ; replace CO := Lib.hid CO; replace CG := Lib.hid CG; replace CO4 := Lib.hid CO4
 have hz : Blk ((w.alloc (.cells #[.bool neg, .slice a l.length c] 41)).alloc (.cells #[.bool false, .slice none 0 0, .slice none 0 0] 43)) (w.heap.size + 1) 43 #[.bool false, .slice none 0 0, .slice none 0 0] := blk_at1 w _ _ _
 have hx : Blk ((w.alloc (.cells #[.bool neg, .slice a l.length c] 41)).alloc (.cells #[.bool false, .slice none 0 0, .slice none 0 0] 43)) w.heap.size 41 #[.bool neg, .slice a l.length c] := (Blk.new w _ _).alloc _
 have hb0 : Below w.heap.size w ((w.alloc (.cells #[.bool neg, .slice a l.length c] 41)).alloc (.cells #[.bool false, .slice none 0 0, .slice none 0 0] 43)) := by go_grown
 have hgB : w.heap.size < w.heap.size + 1 := by omega
 have hgl := hz.lt
 clear h h' hn hk
 go_enter Tryz.func113, Tryz.ntmps113
 go_wp2_with fail
 revert hz hx hb0 hgB hgl
 generalize (w.alloc (.cells #[.bool neg, .slice a l.length c] 41)).alloc (.cells #[.bool false, .slice none 0 0, .slice none 0 0] 43) = w0
 generalize w.heap.size + 1 = g
 intro hz hx hb0 hgB hgl
 refine (CN.out _ hb0).mono ?_
 rintro e w1 ⟨a2, c2, rfl, hV2, hb1⟩
 have hw1 := below_then hb0 hb1
 have hx1 := hx.below' hb1
 have hz1 := hz.below' hb1
 have HV2 := Lib.hid hV2
 have z0 := hx1.cell 0; have z1 := hx1.cell 1
 have hs1 := hb1.size
 clear hz hx hV2
 go_wp2_with fail
 refine (CZ.out _ hw1).mono ?_
 rintro e w2 ⟨a1, c1, rfl, hV1, hb2⟩
 have hw2 := below_then hw1 hb2
 have hx2 := hx1.below' hb2
 have hz2 := hz1.below' hb2
 have HV1 := Lib.hid hV1
 have hne : ¬ g = w.heap.size := by omega
 have hxl : w.heap.size < w0.heap.size := by omega
 have hs0 := hb0.size
 have hxS := blk2 (x := .bool neg) (y := .slice a1 (limbs n).length c1) hx2
 have hzS := (hz2.far (p := ⟨w.heap.size, 0, none⟩) hne (.bool neg)).far (p := ⟨w.heap.size, 1, none⟩) hne (.slice a1 (limbs n).length c1)
 have hwS := below2 (g := w.heap.size) (x := .bool neg) (y := .slice a1 (limbs n).length c1) hw2 (Nat.le_refl _)
 have K1 : ∀ V, New w0.heap.size ((w2.setCell ⟨w.heap.size, 0, none⟩ (.bool neg)).setCell ⟨w.heap.size, 1, none⟩ (.slice a1 (limbs n).length c1)) V → NatR V a1 c1 (limbs n) := fun V hV => HV1.out V ((back2 hV (Nat.le_refl _) hxl).base hs1)
 have K2 : ∀ V, New w0.heap.size ((w2.setCell ⟨w.heap.size, 0, none⟩ (.bool neg)).setCell ⟨w.heap.size, 1, none⟩ (.slice a1 (limbs n).length c1)) V → NatR V a2 c2 (limbs d) := fun V hV => HV2.out V ((back2 hV (Nat.le_refl _) hxl).below hb2)
 clear z0 z1 hV1 hx1 hz1 HV1 HV2 CN CZ
 have z0 := hx2.cell 0; have z1 := hx2.cell 1; have f0 := hx2.frozen 0; have f1 := hx2.frozen 1; have y0 := hz2.cell 0; have y1 := hz2.cell 1; have y2 := hz2.cell 2; have yf0 := hz2.frozen 0; have yf1 := hz2.frozen 1; have yf2 := hz2.frozen 2
 have hbS : w0.heap.size ≤ ((w2.setCell ⟨w.heap.size, 0, none⟩ (.bool neg)).setCell ⟨w.heap.size, 1, none⟩ (.slice a1 (limbs n).length c1)).heap.size := by simp; exact Nat.le_trans hs1 hb2.size
 replace hs1 := hw2.size
 clear hx2 hz2 hw2 hb2 hw1 hb1 hb0
 go_wp2_with fail
 revert hxS hzS hwS K1 K2 hbS
 generalize (w2.setCell ⟨w.heap.size, 0, none⟩ (.bool neg)).setCell ⟨w.heap.size, 1, none⟩ (.slice a1 (limbs n).length c1) = wS
 intro hxS hzS hwS K1 K2 hbS
 have CO2 := CO.out a2 c2 wS (K2 wS (New.refl _ _))
 replace CO2 := Lib.hid CO2
 replace K1 := Lib.hid K1; replace K2 := Lib.hid K2
 refine CO2.out.mono ?_
 rintro e w3 ⟨rfl, hb3⟩
 have hw3 := below_then hwS hb3
 have hz3 := hzS.below' hb3
 have hx3 := hxS.below' hb3
 clear z0 z1 f0 f1 y0 y1 y2 yf0 yf1 yf2 hxS hzS CO2
 have z0 := hx3.cell 0; have z1 := hx3.cell 1
 have r1 := K1.out w3 ((New.refl _ _).below hb3)
 have r2 := K2.out w3 ((New.refl _ _).below hb3)
 have CG2 := CG.out a1 c1 a2 c2 w3 r1 r2
 replace CG2 := Lib.hid CG2
 clear r1 r2
 go_wp2_with fail
 refine CG2.out.mono ?_
 rintro e w4 ⟨a4, c4, rfl, hV4, hb4⟩
 have hw4 := below_then hw3 hb4
 have hz4 := hz3.below' hb4
 have hx4 := hx3.below' hb4
 have r4 := hV4 w4 (New.refl _ _)
 have CO5 := CO4.out a4 c4 w4 r4
 replace CO5 := Lib.hid CO5
 clear z0 z1 hz3 hx3 CG2
 have R4 := Lib.hid r4
 have R4V := Lib.hid hV4
 have hs3 := hb3.size
 clear r4 hV4
 go_wp2_with fail
 refine CO5.out.mono ?_
 rintro e w5 ⟨rfl, hb5⟩
 have hw5 := below_then hw4 hb5
 have hz5 := hz4.below' hb5
 have hx5 := hx4.below' hb5
 clear CO5 hz4 hx4
 have z0 := hx5.cell 0; have z1 := hx5.cell 1; have f0 := hx5.frozen 0; have f1 := hx5.frozen 1; have y0 := hz5.cell 0; have y1 := hz5.cell 1; have y2 := hz5.cell 2; have yf0 := hz5.frozen 0; have yf1 := hz5.frozen 1; have yf2 := hz5.frozen 2
 have CE1 := CD1.out a1 c1 a4 c4 w5 (K1.out w5 ((((New.refl _ _).below hb5).below hb4).below hb3)) (R4.out.ext (Ext.below hb5))
 replace CE1 := Lib.hid CE1
 go_wp2_with fail
 refine CE1.out.mono ?_
 rintro e w6 ⟨a6, c6, _, _, rfl, hV6, _, hb6⟩
 have hw6 := below_then hw5 hb6
 have hz6 := hz5.below' hb6
 have hx6 := hx5.below' hb6
 have hxF := hx6.set_ 1 (.slice a6 (limbs N).length c6)
 have hzF := hz6.far (p := ⟨w.heap.size, 1, none⟩) hne (.slice a6 (limbs N).length c6)
 have hwF := hw6.setCell (p := ⟨w.heap.size, 1, none⟩) (Nat.le_refl _) (.slice a6 (limbs N).length c6)
 have hN6 : ∀ {V}, New w0.heap.size (w6.setCell ⟨w.heap.size, 1, none⟩ (.slice a6 (limbs N).length c6)) V → New w0.heap.size w6 V := fun hV => hV.unset hxl
 have hs5 : w0.heap.size ≤ w5.heap.size := by have := hbS; have := hb3.size; have := hb4.size; have := hb5.size; omega
 clear CE1 z0 z1 f0 f1 y0 y1 y2 yf0 yf1 yf2 hz5 hx5 hz6
 have z0 := hx6.cell 0; have z1 := hx6.cell 1; have f0 := hx6.frozen 0; have f1 := hx6.frozen 1
 go_wp2_with fail
 revert hxF hzF hwF hN6
 generalize w6.setCell ⟨w.heap.size, 1, none⟩ (.slice a6 (limbs N).length c6) = wF
 intro hxF hzF hwF hN6
 have hk : ∀ {V}, New w0.heap.size wF V → New w0.heap.size wS V := fun hV => ((((hN6 hV).below hb6).below hb5).below hb4).below hb3
 have CE2 := CD2.out a2 c2 a4 c4 wF (K2.out wF (hk (New.refl _ _))) (R4V.out wF ((((hN6 (New.refl _ _)).below hb6).below hb5).base (Nat.le_trans hbS hs3)))
 replace CE2 := Lib.hid CE2
 refine CE2.out.mono ?_
 rintro e w7 ⟨a7, c7, _, _, rfl, hV7, _, hb7⟩
 have hw7 := below_then hwF hb7
 have hz7 := hzF.below' hb7
 have hx7 := hxF.below' hb7
 have HV6 := Lib.hid hV6; have HV7 := Lib.hid hV7
 have hs6 := hwF.size
 have hg6 := hzF.lt
 clear CE2 z0 z1 f0 f1 hzF hxF hx6 hV6 hV7
 have z0 := hx7.cell 0; have z1 := hx7.cell 1; have y0 := hz7.cell 0; have y1 := hz7.cell 1; have y2 := hz7.cell 2; have yf0 := hz7.frozen 0; have yf1 := hz7.frozen 1; have yf2 := hz7.frozen 2
 go_wp2
 have hF := blk3 (x := .bool neg) (y := .slice a6 (limbs N).length c6) (z := .slice a7 (limbs D).length c7) hz7
 have e0 := hF.cell 0; have e1 := hF.cell 1; have e2 := hF.cell 2
 refine bodyPost_ret (v := .agg #[.bool neg, .slice a6 (limbs N).length c6, .slice a7 (limbs D).length c7]) (by simp [results, Tryz.results113, go_sem, e0, e1, e2]) rfl ?_
 exact ⟨a6, c6, a7, c7, rfl, fun V hV => HV6.out V ((hN6 ((back3 hV hs0 hgl).below hb7)).base hs5), fun V hV => HV7.out V (back3 hV hs6 hg6), below3 hw7 (Nat.le_of_lt hgB)⟩
end Go.Proofs.YtaihkpjbnkgmlaaGreat

/- Walks: the program's rational numbers: reduced, Make, Of. -/
namespace Go.Proofs.YtaihkpjbnkgmlaaGreat
open Go.RowKit

theorem reduced_any (neg : Bool) (l m : List Int) (n d : Nat) (a a' : Option Addr) (c c' : Nat) (w : World) (h : NatR w a c l) (h' : NatR w a' c' m) (hn : val l = n) (hk : val m = d) (hl : l.length ≤ 2000000) (hm : m.length ≤ 2000000) :
  Calls Tryz.prog 113 #[.agg #[.bool neg, .slice a l.length c], .slice a' m.length c'] w (RetF (lowest neg n d) w) := by
 have hll := limbs_len_val h.u16
 rw [hn] at hll
 have hlm := limbs_len_val h'.u16
 rw [hk] at hlm
 by_cases hd : d = 0
 ·
  rw [hd, lowest_nil]
  exact reduced_nil neg l m n d a a' c c' w h h' hn hk hl hm (.inl hd)
 ·
  by_cases h0 : n = 0
  ·
   rw [h0, lowest_null _ hd]
   exact reduced_nil neg l m n d a a' c c' w h h' hn hk hl hm (.inr h0)
  ·
   by_cases h1 : d = 1
   ·
    rw [lowest_one h0 hd (by rw [h1, Nat.gcd_one_right])]
    exact reduced_unit neg l m n d a a' c c' w h h' hn hk hl hm h0 h1
   ·
    by_cases hg : Nat.gcd n d = 1
    ·
     rw [lowest_one h0 hd hg]
     exact reduced_prime neg l m n d a a' c c' w h h' hn hk hl hm h0 hd h1 (by omega) (by omega) hg
    ·
     rw [lowest_full h0 hd]
     exact reduced_common neg l m n d a a' c c' w h h' hn hk hl hm h0 hd h1 (by omega) (by omega) hg
theorem lowest_int (z : Int) : lowest (decide (z < 0)) z.natAbs 1 = (decide (z < 0), z.natAbs, 1) := by
 unfold lowest
 rw [if_neg (by omega), Nat.gcd_one_right, Nat.div_one]
 by_cases hz : z < 0
 ·
  have : decide (0 < z.natAbs) = true := by rw [decide_eq_true_eq]; omega
  rw [this, Bool.and_true]
 · rw [decide_eq_false hz, Bool.false_and]
set_option maxRecDepth 100000 in
set_option maxHeartbeats 1000000 in
theorem qint_any (z : Int) (w : World) (hi : InInt z) :
  Calls Tryz.prog 36 #[.int .i64 z] w (RetF (lowest (decide (z < 0)) z.natAbs 1) w) := by
 have CZ := fun W => zint_any z W hi
 have C1 := fun W => unit_any W
 rw [lowest_int]
 obtain ⟨s, hng⟩ : ∃ q, decide (z < 0) = q := ⟨_, rfl⟩
 obtain ⟨N, hnz⟩ : ∃ q, z.natAbs = q := ⟨_, rfl⟩
 simp only [hng, hnz] at CZ ⊢
 unfold RetF RetQ
 dsimp only
 replace CZ := Lib.hid CZ; replace C1 := Lib.hid C1
 have hz : Blk (w.alloc (.cells #[.bool false, .slice none 0 0, .slice none 0 0] 43)) w.heap.size 43 #[.bool false, .slice none 0 0, .slice none 0 0] := Blk.new w _ _
 have hb0 : Below w.heap.size w (w.alloc (.cells #[.bool false, .slice none 0 0, .slice none 0 0] 43)) := (Below.refl _ _).alloc (Nat.le_refl _) _
 clear hng hnz
 go_enter Tryz.func36, Tryz.ntmps36
 go_wp2_with fail
 revert hz hb0
 generalize w.alloc (.cells #[.bool false, .slice none 0 0, .slice none 0 0] 43) = w0
 intro hz hb0
 refine (CZ.out _).mono ?_
 rintro e w1 ⟨a1, c1, rfl, hV1, hb1⟩
 have hw1 := below_then hb0 hb1
 have hz1 := hz.below' hb1
 have HV1 := Lib.hid hV1
 clear hV1
 go_wp2_with fail
 refine (C1.out _).mono ?_
 rintro e w2 ⟨a2, c2, rfl, hV2, hb2⟩
 have hw2 := below_then hw1 hb2
 have hz2 := hz1.below' hb2
 have HV2 := Lib.hid hV2
 have hs0 := hb0.size
 have hgl0 := hz.lt
 have hs1 := hw1.size
 have hgl1 := hz1.lt
 have z0 := hz2.cell 0; have z1 := hz2.cell 1; have z2 := hz2.cell 2; have f0 := hz2.frozen 0; have f1 := hz2.frozen 1; have f2 := hz2.frozen 2
 clear hV2 hz hz1
 go_wp2
 have hF := blk3 (x := .bool s) (y := .slice a1 (limbs N).length c1) (z := .slice a2 (limbs 1).length c2) hz2
 have e0 := hF.cell 0; have e1 := hF.cell 1; have e2 := hF.cell 2
 refine bodyPost_ret (v := .agg #[.bool s, .slice a1 (limbs N).length c1, .slice a2 (limbs 1).length c2]) (by simp [results, Tryz.results36, go_sem, e0, e1, e2]) rfl ?_
 exact ⟨a1, c1, a2, c2, rfl, fun V hV => HV1.out V ((back3 hV hs0 hgl0).below hb2), fun V hV => HV2.out V (back3 hV hs1 hgl1), below3 hw2 (Nat.le_refl _)⟩
end Go.Proofs.YtaihkpjbnkgmlaaGreat
