/- Walks: the fraction with a number, by the program. -/
import Derived.Test.YtdnblkklgdnapaaGreatRc8
import Derived.Test.YtdnblkklgdnapaaGreatRc1
import Derived.Lib.RabinKarpLaws
import Derived.Test.YtdnblkklgdnapaaGreatProg
import Derived.Ground.NamesProg
import Derived.Shelf.Lays
import Derived.Shelf.Small.Bits
import Derived.Deep.LoopGhost
set_option linter.all false
set_option maxRecDepth 100000
set_option maxHeartbeats 4000000
namespace Go.Proofs.YtdnblkklgdnapaaGreat
open Go.RowKit
theorem lowest_full {neg : Bool} {n d : Nat} (hn : n ≠ 0) (hd : d ≠ 0) : lowest neg n d = (neg, n / Nat.gcd n d, d / Nat.gcd n d) := by
 unfold lowest
 rw [if_neg hd]
 have h1 : 0 < Nat.gcd n d := Nat.gcd_pos_of_pos_right n (by omega)
 have h2 : 0 < n / Nat.gcd n d := Nat.div_pos (Nat.le_of_dvd (by omega) (Nat.gcd_dvd_left n d)) h1
 have h3 : decide (0 < n / Nat.gcd n d) = true := by rw [decide_eq_true_eq]; exact h2
 rw [h3, Bool.and_true]
theorem lowest_one {neg : Bool} {n d : Nat} (hn : n ≠ 0) (hd : d ≠ 0) (hg : Nat.gcd n d = 1) : lowest neg n d = (neg, n, d) := by
 rw [lowest_full hn hd, hg, Nat.div_one, Nat.div_one]
theorem lowest_nil (neg : Bool) (n : Nat) : lowest neg n 0 = (false, 0, 1) := by simp [lowest]
theorem lowest_null (neg : Bool) {d : Nat} (hd : d ≠ 0) : lowest neg 0 d = (false, 0, 1) := by
 unfold lowest
 rw [if_neg hd]
 simp
 exact Nat.div_self (by omega)
theorem reduced_nil (neg : Bool) (l m : List Int) (n d : Nat) (a a' : Option Addr) (c c' : Nat) (w : World) (h : NatR w a c l) (h' : NatR w a' c' m) (hn : val l = n) (hk : val m = d) (hl : l.length <= 2000000) (hm : m.length <= 2000000) (h0 : d = 0 \/ n = 0) :
  Calls Tryz.prog 39 #[.agg #[.bool neg, .slice a l.length c], .slice a' m.length c'] w (RetF (false, 0, 1) w) := by
 have CN := fun W (hW : Below w.heap.size w W) => norm_any m a' c' W (h'.ext (xbw hW)) (by omega)
 rw [hk] at CN
 have CZ := fun W (hW : Below w.heap.size w W) => znorm_any neg l n a c W (h.ext (xbw hW)) hn (by omega)
 obtain ⟨p, hp⟩ : ∃ q, (neg && decide (0 < n)) = q := ⟨_, rfl⟩
 rw [hp] at CZ
 have CU := fun W => unit_any W
 replace CN := Hd CN; replace CZ := Hd CZ; replace CU := Hd CU
 unfold RetF RetQ
 dsimp only
 rw [limbs_zero]
 clear hp
 by_cases hd : d = 0
 ·
  have he1 : (((limbs d).length : Int) == 0) = true := by rw [hd, limbs_zero]; rfl
  clear hd h0
  have hz : Blk ((w.alloc (.cells #[.bool neg, .slice a l.length c] 30)).alloc (.cells #[.bool false, .slice none 0 0, .slice none 0 0] 32)) (w.heap.size + 1) 32 #[.bool false, .slice none 0 0, .slice none 0 0] := blk_at1 w _ _ _
  have hx : Blk ((w.alloc (.cells #[.bool neg, .slice a l.length c] 30)).alloc (.cells #[.bool false, .slice none 0 0, .slice none 0 0] 32)) w.heap.size 30 #[.bool neg, .slice a l.length c] := (Blk.new w _ _).alloc _
  have hb0 : Below w.heap.size w ((w.alloc (.cells #[.bool neg, .slice a l.length c] 30)).alloc (.cells #[.bool false, .slice none 0 0, .slice none 0 0] 32)) := by go_grown
  have hgB : w.heap.size < w.heap.size + 1 := by omega
  have hgl := hz.lt
  clear h h' hn hk
  go_enter Tryz.func39, Tryz.ntmps39
  go_wp2_with fail
  revert hz hx hb0 hgB hgl
  generalize (w.alloc (.cells #[.bool neg, .slice a l.length c] 30)).alloc (.cells #[.bool false, .slice none 0 0, .slice none 0 0] 32) = w0
  generalize w.heap.size + 1 = g
  intro hz hx hb0 hgB hgl
  refine (CN.out _ hb0).mono ?_
  rintro e w1 ⟨a2, c2, rfl, hV2, hb1⟩
  have hw1 := bth hb0 hb1
  have hx1 := hx.below' hb1
  have hz1 := hz.below' hb1
  have HV2 := Hd hV2
  have z0 := hx1.cell 0; have z1 := hx1.cell 1
  have hs1 := hb1.size
  clear hz hx hV2
  go_wp2_with fail
  refine (CZ.out _ hw1).mono ?_
  rintro e w2 ⟨a1, c1, rfl, hV1, hb2⟩
  have hw2 := bth hw1 hb2
  have hx2 := hx1.below' hb2
  have hz2 := hz1.below' hb2
  have HV1 := Hd hV1
  have hne : ¬ g = w.heap.size := by omega
  have hxl : w.heap.size < w0.heap.size := by omega
  have hs0 := hb0.size
  have hxS := blk2 (x := .bool p) (y := .slice a1 (limbs n).length c1) hx2
  have hzS := (hz2.far (p := ⟨w.heap.size, 0, none⟩) hne (.bool p)).far (p := ⟨w.heap.size, 1, none⟩) hne (.slice a1 (limbs n).length c1)
  have hwS := below2 (g := w.heap.size) (x := .bool p) (y := .slice a1 (limbs n).length c1) hw2 (nlr _)
  have K1 : ∀ V, New w0.heap.size ((w2.setCell ⟨w.heap.size, 0, none⟩ (.bool p)).setCell ⟨w.heap.size, 1, none⟩ (.slice a1 (limbs n).length c1)) V -> NatR V a1 c1 (limbs n) := fun V hV => HV1.out V ((back2 hV (nlr _) hxl).base hs1)
  have K2 : ∀ V, New w0.heap.size ((w2.setCell ⟨w.heap.size, 0, none⟩ (.bool p)).setCell ⟨w.heap.size, 1, none⟩ (.slice a1 (limbs n).length c1)) V -> NatR V a2 c2 (limbs d) := fun V hV => HV2.out V ((back2 hV (nlr _) hxl).below hb2)
  clear z0 z1 hV1 hx1 hz1 HV1 HV2 CN CZ
  have z0 := hx2.cell 0; have z1 := hx2.cell 1; have f0 := hx2.frozen 0; have f1 := hx2.frozen 1; have y0 := hz2.cell 0; have y1 := hz2.cell 1; have y2 := hz2.cell 2; have yf0 := hz2.frozen 0; have yf1 := hz2.frozen 1; have yf2 := hz2.frozen 2
  have hbS := hwS.size
  replace hs1 := hw2.size
  clear hx2 hz2 hw2 hb2 hw1 hb1 hb0
  go_wp2_with fail
  revert hxS hzS hwS K1 K2 hbS
  generalize (w2.setCell ⟨w.heap.size, 0, none⟩ (.bool p)).setCell ⟨w.heap.size, 1, none⟩ (.slice a1 (limbs n).length c1) = wS
  intro hxS hzS hwS K1 K2 hbS
  refine (CU.out _).mono ?_
  rintro e w3 ⟨a5, c5, rfl, hV5, hb3⟩
  have hw3 := bth hwS hb3
  have hz3 := hzS.below' hb3
  have HV5 := Hd hV5
  have hs3 := hwS.size
  have hgl3 := hzS.lt
  clear hV5 z0 z1 f0 f1 y0 y1 y2 yf0 yf1 yf2 hxS hzS K1 K2
  have y0 := hz3.cell 0; have y1 := hz3.cell 1; have y2 := hz3.cell 2; have yf0 := hz3.frozen 0; have yf1 := hz3.frozen 1; have yf2 := hz3.frozen 2
  go_wp2
  have hF := blk3 (x := .bool false) (y := .slice none 0 0) (z := .slice a5 (limbs 1).length c5) hz3
  have e0 := hF.cell 0; have e1 := hF.cell 1; have e2 := hF.cell 2
  refine bodyPost_ret (v := .agg #[.bool false, .slice none 0 0, .slice a5 (limbs 1).length c5]) (by simp [results, Tryz.results39, go_sem, e0, e1, e2]) rfl ?_
  exact ⟨none, 0, a5, c5, rfl, fun _ _ => SlR.nil, fun V hV => HV5.out V (back3 hV hs3 hgl3), below3 hw3 (Nat.le_of_lt hgB)⟩
 ·
  have hn0 : n = 0 := by omega
  have he1 : (((limbs d).length : Int) == 0) = false := by rw [beq_eq_false_iff_ne]; have := limbs_len_pos (n := d); omega
  have he2 : (((limbs n).length : Int) == 0) = true := by rw [hn0, limbs_zero]; rfl
  clear hd h0 hn0
  have hz : Blk ((w.alloc (.cells #[.bool neg, .slice a l.length c] 30)).alloc (.cells #[.bool false, .slice none 0 0, .slice none 0 0] 32)) (w.heap.size + 1) 32 #[.bool false, .slice none 0 0, .slice none 0 0] := blk_at1 w _ _ _
  have hx : Blk ((w.alloc (.cells #[.bool neg, .slice a l.length c] 30)).alloc (.cells #[.bool false, .slice none 0 0, .slice none 0 0] 32)) w.heap.size 30 #[.bool neg, .slice a l.length c] := (Blk.new w _ _).alloc _
  have hb0 : Below w.heap.size w ((w.alloc (.cells #[.bool neg, .slice a l.length c] 30)).alloc (.cells #[.bool false, .slice none 0 0, .slice none 0 0] 32)) := by go_grown
  have hgB : w.heap.size < w.heap.size + 1 := by omega
  have hgl := hz.lt
  clear h h' hn hk
  go_enter Tryz.func39, Tryz.ntmps39
  go_wp2_with fail
  revert hz hx hb0 hgB hgl
  generalize (w.alloc (.cells #[.bool neg, .slice a l.length c] 30)).alloc (.cells #[.bool false, .slice none 0 0, .slice none 0 0] 32) = w0
  generalize w.heap.size + 1 = g
  intro hz hx hb0 hgB hgl
  refine (CN.out _ hb0).mono ?_
  rintro e w1 ⟨a2, c2, rfl, hV2, hb1⟩
  have hw1 := bth hb0 hb1
  have hx1 := hx.below' hb1
  have hz1 := hz.below' hb1
  have HV2 := Hd hV2
  have z0 := hx1.cell 0; have z1 := hx1.cell 1
  have hs1 := hb1.size
  clear hz hx hV2
  go_wp2_with fail
  refine (CZ.out _ hw1).mono ?_
  rintro e w2 ⟨a1, c1, rfl, hV1, hb2⟩
  have hw2 := bth hw1 hb2
  have hx2 := hx1.below' hb2
  have hz2 := hz1.below' hb2
  have HV1 := Hd hV1
  have hne : ¬ g = w.heap.size := by omega
  have hxl : w.heap.size < w0.heap.size := by omega
  have hs0 := hb0.size
  have hxS := blk2 (x := .bool p) (y := .slice a1 (limbs n).length c1) hx2
  have hzS := (hz2.far (p := ⟨w.heap.size, 0, none⟩) hne (.bool p)).far (p := ⟨w.heap.size, 1, none⟩) hne (.slice a1 (limbs n).length c1)
  have hwS := below2 (g := w.heap.size) (x := .bool p) (y := .slice a1 (limbs n).length c1) hw2 (nlr _)
  have K1 : ∀ V, New w0.heap.size ((w2.setCell ⟨w.heap.size, 0, none⟩ (.bool p)).setCell ⟨w.heap.size, 1, none⟩ (.slice a1 (limbs n).length c1)) V -> NatR V a1 c1 (limbs n) := fun V hV => HV1.out V ((back2 hV (nlr _) hxl).base hs1)
  have K2 : ∀ V, New w0.heap.size ((w2.setCell ⟨w.heap.size, 0, none⟩ (.bool p)).setCell ⟨w.heap.size, 1, none⟩ (.slice a1 (limbs n).length c1)) V -> NatR V a2 c2 (limbs d) := fun V hV => HV2.out V ((back2 hV (nlr _) hxl).below hb2)
  clear z0 z1 hV1 hx1 hz1 HV1 HV2 CN CZ
  have z0 := hx2.cell 0; have z1 := hx2.cell 1; have f0 := hx2.frozen 0; have f1 := hx2.frozen 1; have y0 := hz2.cell 0; have y1 := hz2.cell 1; have y2 := hz2.cell 2; have yf0 := hz2.frozen 0; have yf1 := hz2.frozen 1; have yf2 := hz2.frozen 2
  have hbS := hwS.size
  replace hs1 := hw2.size
  clear hx2 hz2 hw2 hb2 hw1 hb1 hb0
  go_wp2_with fail
  revert hxS hzS hwS K1 K2 hbS
  generalize (w2.setCell ⟨w.heap.size, 0, none⟩ (.bool p)).setCell ⟨w.heap.size, 1, none⟩ (.slice a1 (limbs n).length c1) = wS
  intro hxS hzS hwS K1 K2 hbS
  refine (CU.out _).mono ?_
  rintro e w3 ⟨a5, c5, rfl, hV5, hb3⟩
  have hw3 := bth hwS hb3
  have hz3 := hzS.below' hb3
  have HV5 := Hd hV5
  have hs3 := hwS.size
  have hgl3 := hzS.lt
  clear hV5 z0 z1 f0 f1 y0 y1 y2 yf0 yf1 yf2 hxS hzS K1 K2
  have y0 := hz3.cell 0; have y1 := hz3.cell 1; have y2 := hz3.cell 2; have yf0 := hz3.frozen 0; have yf1 := hz3.frozen 1; have yf2 := hz3.frozen 2
  go_wp2
  have hF := blk3 (x := .bool false) (y := .slice none 0 0) (z := .slice a5 (limbs 1).length c5) hz3
  have e0 := hF.cell 0; have e1 := hF.cell 1; have e2 := hF.cell 2
  refine bodyPost_ret (v := .agg #[.bool false, .slice none 0 0, .slice a5 (limbs 1).length c5]) (by simp [results, Tryz.results39, go_sem, e0, e1, e2]) rfl ?_
  exact ⟨none, 0, a5, c5, rfl, fun _ _ => SlR.nil, fun V hV => HV5.out V (back3 hV hs3 hgl3), below3 hw3 (Nat.le_of_lt hgB)⟩
theorem reduced_unit (neg : Bool) (l m : List Int) (n d : Nat) (a a' : Option Addr) (c c' : Nat) (w : World) (h : NatR w a c l) (h' : NatR w a' c' m) (hn : val l = n) (hk : val m = d) (hl : l.length <= 2000000) (hm : m.length <= 2000000) (h0 : n ≠ 0) (hd : d = 1) :
  Calls Tryz.prog 39 #[.agg #[.bool neg, .slice a l.length c], .slice a' m.length c'] w (RetF (neg, n, d) w) := by
 have hd0 : d ≠ 0 := by omega
 have CN := fun W (hW : Below w.heap.size w W) => norm_any m a' c' W (h'.ext (xbw hW)) (by omega)
 rw [hk] at CN
 have CZ := fun W (hW : Below w.heap.size w W) => znorm_any neg l n a c W (h.ext (xbw hW)) hn (by omega)
 have hp : (neg && decide (0 < n)) = neg := by rw [decide_eq_true (by omega : 0 < n), Bool.and_true]
 rw [hp] at CZ
 have CO := fun a2 c2 W (h2 : NatR W a2 c2 (limbs d)) => one_any (limbs d) a2 c2 W h2
 rw [one_limbs] at CO
 have he1 : (((limbs d).length : Int) == 0) = false := by rw [beq_eq_false_iff_ne]; have := limbs_len_pos (n := d); omega
 have he2 : (((limbs n).length : Int) == 0) = false := by rw [beq_eq_false_iff_ne]; have := limbs_len_pos (n := n); omega
 have ho : decide (d = 1) = true := by simp [hd]
 rw [ho] at CO
 unfold RetF RetQ
 dsimp only
 replace CN := Hd CN; replace CZ := Hd CZ; replace CO := Hd CO
 clear hp ho h0 hd hd0
 have hz : Blk ((w.alloc (.cells #[.bool neg, .slice a l.length c] 30)).alloc (.cells #[.bool false, .slice none 0 0, .slice none 0 0] 32)) (w.heap.size + 1) 32 #[.bool false, .slice none 0 0, .slice none 0 0] := blk_at1 w _ _ _
 have hx : Blk ((w.alloc (.cells #[.bool neg, .slice a l.length c] 30)).alloc (.cells #[.bool false, .slice none 0 0, .slice none 0 0] 32)) w.heap.size 30 #[.bool neg, .slice a l.length c] := (Blk.new w _ _).alloc _
 have hb0 : Below w.heap.size w ((w.alloc (.cells #[.bool neg, .slice a l.length c] 30)).alloc (.cells #[.bool false, .slice none 0 0, .slice none 0 0] 32)) := by go_grown
 have hgB : w.heap.size < w.heap.size + 1 := by omega
 have hgl := hz.lt
 clear h h' hn hk
 go_enter Tryz.func39, Tryz.ntmps39
 go_wp2_with fail
 revert hz hx hb0 hgB hgl
 generalize (w.alloc (.cells #[.bool neg, .slice a l.length c] 30)).alloc (.cells #[.bool false, .slice none 0 0, .slice none 0 0] 32) = w0
 generalize w.heap.size + 1 = g
 intro hz hx hb0 hgB hgl
 refine (CN.out _ hb0).mono ?_
 rintro e w1 ⟨a2, c2, rfl, hV2, hb1⟩
 have hw1 := bth hb0 hb1
 have hx1 := hx.below' hb1
 have hz1 := hz.below' hb1
 have HV2 := Hd hV2
 have z0 := hx1.cell 0; have z1 := hx1.cell 1
 have hs1 := hb1.size
 clear hz hx hV2
 go_wp2_with fail
 refine (CZ.out _ hw1).mono ?_
 rintro e w2 ⟨a1, c1, rfl, hV1, hb2⟩
 have hw2 := bth hw1 hb2
 have hx2 := hx1.below' hb2
 have hz2 := hz1.below' hb2
 have HV1 := Hd hV1
 have hne : ¬ g = w.heap.size := by omega
 have hxl : w.heap.size < w0.heap.size := by omega
 have hs0 := hb0.size
 have hxS := blk2 (x := .bool neg) (y := .slice a1 (limbs n).length c1) hx2
 have hzS := (hz2.far (p := ⟨w.heap.size, 0, none⟩) hne (.bool neg)).far (p := ⟨w.heap.size, 1, none⟩) hne (.slice a1 (limbs n).length c1)
 have hwS := below2 (g := w.heap.size) (x := .bool neg) (y := .slice a1 (limbs n).length c1) hw2 (nlr _)
 have K1 : ∀ V, New w0.heap.size ((w2.setCell ⟨w.heap.size, 0, none⟩ (.bool neg)).setCell ⟨w.heap.size, 1, none⟩ (.slice a1 (limbs n).length c1)) V -> NatR V a1 c1 (limbs n) := fun V hV => HV1.out V ((back2 hV (nlr _) hxl).base hs1)
 have K2 : ∀ V, New w0.heap.size ((w2.setCell ⟨w.heap.size, 0, none⟩ (.bool neg)).setCell ⟨w.heap.size, 1, none⟩ (.slice a1 (limbs n).length c1)) V -> NatR V a2 c2 (limbs d) := fun V hV => HV2.out V ((back2 hV (nlr _) hxl).below hb2)
 clear z0 z1 hV1 hx1 hz1 HV1 HV2 CN CZ
 have z0 := hx2.cell 0; have z1 := hx2.cell 1; have f0 := hx2.frozen 0; have f1 := hx2.frozen 1; have y0 := hz2.cell 0; have y1 := hz2.cell 1; have y2 := hz2.cell 2; have yf0 := hz2.frozen 0; have yf1 := hz2.frozen 1; have yf2 := hz2.frozen 2
 have hbS := hwS.size
 replace hs1 := hw2.size
 clear hx2 hz2 hw2 hb2 hw1 hb1 hb0
 go_wp2_with fail
 revert hxS hzS hwS K1 K2 hbS
 generalize (w2.setCell ⟨w.heap.size, 0, none⟩ (.bool neg)).setCell ⟨w.heap.size, 1, none⟩ (.slice a1 (limbs n).length c1) = wS
 intro hxS hzS hwS K1 K2 hbS
 have CO2 := CO.out a2 c2 wS (K2 wS (New.refl _ _))
 replace CO2 := Hd CO2
 replace K1 := Hd K1; replace K2 := Hd K2
 refine CO2.out.mono ?_
 rintro e w3 ⟨rfl, hb3⟩
 have hw3 := bth hwS hb3
 have hz3 := hzS.below' hb3
 have hx3 := hxS.below' hb3
 clear z0 z1 f0 f1 y0 y1 y2 yf0 yf1 yf2 hxS hzS CO2
 have z0 := hx3.cell 0; have z1 := hx3.cell 1; have y0 := hz3.cell 0; have y1 := hz3.cell 1; have y2 := hz3.cell 2; have yf0 := hz3.frozen 0; have yf1 := hz3.frozen 1; have yf2 := hz3.frozen 2
 go_wp2
 have hF := blk3 (x := .bool neg) (y := .slice a1 (limbs n).length c1) (z := .slice a2 (limbs d).length c2) hz3
 have e0 := hF.cell 0; have e1 := hF.cell 1; have e2 := hF.cell 2
 refine bodyPost_ret (v := .agg #[.bool neg, .slice a1 (limbs n).length c1, .slice a2 (limbs d).length c2]) (by simp [results, Tryz.results39, go_sem, e0, e1, e2]) rfl ?_
 exact ⟨a1, c1, a2, c2, rfl, fun V hV => K1.out V ((back3 hV hs0 hgl).below (hb3)), fun V hV => K2.out V ((back3 hV hs0 hgl).below hb3), below3 hw3 (Nat.le_of_lt hgB)⟩
theorem reduced_prime (neg : Bool) (l m : List Int) (n d : Nat) (a a' : Option Addr) (c c' : Nat) (w : World) (h : NatR w a c l) (h' : NatR w a' c' m) (hn : val l = n) (hk : val m = d) (hl : l.length <= 2000000) (hm : m.length <= 2000000) (h0 : n ≠ 0) (hd1 : d ≠ 0) (hd : d ≠ 1)
  (hnl : (limbs n).length <= 2000000) (hdl : (limbs d).length <= 2000000) (hg1 : Nat.gcd n d = 1) :
  Calls Tryz.prog 39 #[.agg #[.bool neg, .slice a l.length c], .slice a' m.length c'] w (RetF (neg, n, d) w) := by
 have hd0 : d ≠ 0 := by omega
 have CN := fun W (hW : Below w.heap.size w W) => norm_any m a' c' W (h'.ext (xbw hW)) (by omega)
 rw [hk] at CN
 have CZ := fun W (hW : Below w.heap.size w W) => znorm_any neg l n a c W (h.ext (xbw hW)) hn (by omega)
 have hp : (neg && decide (0 < n)) = neg := by rw [decide_eq_true (by omega : 0 < n), Bool.and_true]
 rw [hp] at CZ
 have CO := fun a2 c2 W (h2 : NatR W a2 c2 (limbs d)) => one_any (limbs d) a2 c2 W h2
 rw [one_limbs] at CO
 have he1 : (((limbs d).length : Int) == 0) = false := by rw [beq_eq_false_iff_ne]; have := limbs_len_pos (n := d); omega
 have he2 : (((limbs n).length : Int) == 0) = false := by rw [beq_eq_false_iff_ne]; have := limbs_len_pos (n := n); omega
 have ho : decide (d = 1) = false := by simp [hd]
 rw [ho] at CO
 have CG := fun a1 c1 a2 c2 W (h1 : NatR W a1 c1 (limbs n)) (h2 : NatR W a2 c2 (limbs d)) => gcd_any (limbs n) (limbs d) n d a1 a2 c1 c2 W h1 h2 (val_limbs _) (val_limbs _) hnl hdl
 obtain ⟨gg, hgg⟩ : ∃ q, Nat.gcd n d = q := ⟨_, rfl⟩
 rw [hgg] at CG
 have CO4 := fun a2 c2 W (h2 : NatR W a2 c2 (limbs gg)) => one_any (limbs gg) a2 c2 W h2
 rw [one_limbs] at CO4
 have ho4 : decide (gg = 1) = true := by rw [<- hgg, hg1]; rfl
 rw [ho4] at CO4
 unfold RetF RetQ
 dsimp only
 clear hp ho h0 hd hd0 hd1 hnl hdl hg1 hgg ho4
 replace CN := Hd CN; replace CZ := Hd CZ; replace CO := Hd CO; replace CG := Hd CG; replace CO4 := Hd CO4
 have hz : Blk ((w.alloc (.cells #[.bool neg, .slice a l.length c] 30)).alloc (.cells #[.bool false, .slice none 0 0, .slice none 0 0] 32)) (w.heap.size + 1) 32 #[.bool false, .slice none 0 0, .slice none 0 0] := blk_at1 w _ _ _
 have hx : Blk ((w.alloc (.cells #[.bool neg, .slice a l.length c] 30)).alloc (.cells #[.bool false, .slice none 0 0, .slice none 0 0] 32)) w.heap.size 30 #[.bool neg, .slice a l.length c] := (Blk.new w _ _).alloc _
 have hb0 : Below w.heap.size w ((w.alloc (.cells #[.bool neg, .slice a l.length c] 30)).alloc (.cells #[.bool false, .slice none 0 0, .slice none 0 0] 32)) := by go_grown
 have hgB : w.heap.size < w.heap.size + 1 := by omega
 have hgl := hz.lt
 clear h h' hn hk
 go_enter Tryz.func39, Tryz.ntmps39
 go_wp2_with fail
 revert hz hx hb0 hgB hgl
 generalize (w.alloc (.cells #[.bool neg, .slice a l.length c] 30)).alloc (.cells #[.bool false, .slice none 0 0, .slice none 0 0] 32) = w0
 generalize w.heap.size + 1 = g
 intro hz hx hb0 hgB hgl
 refine (CN.out _ hb0).mono ?_
 rintro e w1 ⟨a2, c2, rfl, hV2, hb1⟩
 have hw1 := bth hb0 hb1
 have hx1 := hx.below' hb1
 have hz1 := hz.below' hb1
 have HV2 := Hd hV2
 have z0 := hx1.cell 0; have z1 := hx1.cell 1
 have hs1 := hb1.size
 clear hz hx hV2
 go_wp2_with fail
 refine (CZ.out _ hw1).mono ?_
 rintro e w2 ⟨a1, c1, rfl, hV1, hb2⟩
 have hw2 := bth hw1 hb2
 have hx2 := hx1.below' hb2
 have hz2 := hz1.below' hb2
 have HV1 := Hd hV1
 have hne : ¬ g = w.heap.size := by omega
 have hxl : w.heap.size < w0.heap.size := by omega
 have hs0 := hb0.size
 have hxS := blk2 (x := .bool neg) (y := .slice a1 (limbs n).length c1) hx2
 have hzS := (hz2.far (p := ⟨w.heap.size, 0, none⟩) hne (.bool neg)).far (p := ⟨w.heap.size, 1, none⟩) hne (.slice a1 (limbs n).length c1)
 have hwS := below2 (g := w.heap.size) (x := .bool neg) (y := .slice a1 (limbs n).length c1) hw2 (nlr _)
 have K1 : ∀ V, New w0.heap.size ((w2.setCell ⟨w.heap.size, 0, none⟩ (.bool neg)).setCell ⟨w.heap.size, 1, none⟩ (.slice a1 (limbs n).length c1)) V -> NatR V a1 c1 (limbs n) := fun V hV => HV1.out V ((back2 hV (nlr _) hxl).base hs1)
 have K2 : ∀ V, New w0.heap.size ((w2.setCell ⟨w.heap.size, 0, none⟩ (.bool neg)).setCell ⟨w.heap.size, 1, none⟩ (.slice a1 (limbs n).length c1)) V -> NatR V a2 c2 (limbs d) := fun V hV => HV2.out V ((back2 hV (nlr _) hxl).below hb2)
 clear z0 z1 hV1 hx1 hz1 HV1 HV2 CN CZ
 have z0 := hx2.cell 0; have z1 := hx2.cell 1; have f0 := hx2.frozen 0; have f1 := hx2.frozen 1; have y0 := hz2.cell 0; have y1 := hz2.cell 1; have y2 := hz2.cell 2; have yf0 := hz2.frozen 0; have yf1 := hz2.frozen 1; have yf2 := hz2.frozen 2
 have hbS : w0.heap.size <= ((w2.setCell ⟨w.heap.size, 0, none⟩ (.bool neg)).setCell ⟨w.heap.size, 1, none⟩ (.slice a1 (limbs n).length c1)).heap.size := by simp; exact Nat.le_trans hs1 hb2.size
 replace hs1 := hw2.size
 clear hx2 hz2 hw2 hb2 hw1 hb1 hb0
 go_wp2_with fail
 revert hxS hzS hwS K1 K2 hbS
 generalize (w2.setCell ⟨w.heap.size, 0, none⟩ (.bool neg)).setCell ⟨w.heap.size, 1, none⟩ (.slice a1 (limbs n).length c1) = wS
 intro hxS hzS hwS K1 K2 hbS
 have CO2 := CO.out a2 c2 wS (K2 wS (New.refl _ _))
 replace CO2 := Hd CO2
 replace K1 := Hd K1; replace K2 := Hd K2
 refine CO2.out.mono ?_
 rintro e w3 ⟨rfl, hb3⟩
 have hw3 := bth hwS hb3
 have hz3 := hzS.below' hb3
 have hx3 := hxS.below' hb3
 clear z0 z1 f0 f1 y0 y1 y2 yf0 yf1 yf2 hxS hzS CO2
 have z0 := hx3.cell 0; have z1 := hx3.cell 1
 have r1 := K1.out w3 ((New.refl _ _).below hb3)
 have r2 := K2.out w3 ((New.refl _ _).below hb3)
 have CG2 := CG.out a1 c1 a2 c2 w3 r1 r2
 replace CG2 := Hd CG2
 clear r1 r2
 go_wp2_with fail
 refine CG2.out.mono ?_
 rintro e w4 ⟨a4, c4, rfl, hV4, hb4⟩
 have hw4 := bth hw3 hb4
 have hz4 := hz3.below' hb4
 have hx4 := hx3.below' hb4
 have r4 := hV4 w4 (New.refl _ _)
 have CO5 := CO4.out a4 c4 w4 r4
 replace CO5 := Hd CO5
 clear z0 z1 hz3 hx3 CG2
 have R4 := Hd r4
 have R4V := Hd hV4
 have hs3 := hb3.size
 clear r4 hV4
 go_wp2_with fail
 refine CO5.out.mono ?_
 rintro e w5 ⟨rfl, hb5⟩
 have hw5 := bth hw4 hb5
 have hz5 := hz4.below' hb5
 have hx5 := hx4.below' hb5
 clear CO5 hz4 hx4
 have z0 := hx5.cell 0; have z1 := hx5.cell 1; have f0 := hx5.frozen 0; have f1 := hx5.frozen 1; have y0 := hz5.cell 0; have y1 := hz5.cell 1; have y2 := hz5.cell 2; have yf0 := hz5.frozen 0; have yf1 := hz5.frozen 1; have yf2 := hz5.frozen 2
 go_wp2
 have hF := blk3 (x := .bool neg) (y := .slice a1 (limbs n).length c1) (z := .slice a2 (limbs d).length c2) hz5
 have e0 := hF.cell 0; have e1 := hF.cell 1; have e2 := hF.cell 2
 refine bodyPost_ret (v := .agg #[.bool neg, .slice a1 (limbs n).length c1, .slice a2 (limbs d).length c2]) (by simp [results, Tryz.results39, go_sem, e0, e1, e2]) rfl ?_
 exact ⟨a1, c1, a2, c2, rfl, fun V hV => K1.out V ((((back3 hV hs0 hgl).below hb5).below hb4).below hb3), fun V hV => K2.out V ((((back3 hV hs0 hgl).below hb5).below hb4).below hb3), below3 hw5 (Nat.le_of_lt hgB)⟩
theorem reduced_common (neg : Bool) (l m : List Int) (n d : Nat) (a a' : Option Addr) (c c' : Nat) (w : World) (h : NatR w a c l) (h' : NatR w a' c' m) (hn : val l = n) (hk : val m = d) (hl : l.length <= 2000000) (hm : m.length <= 2000000) (h0 : n ≠ 0) (hd1 : d ≠ 0) (hd : d ≠ 1)
  (hnl : (limbs n).length <= 2000000) (hdl : (limbs d).length <= 2000000) (hg1 : Nat.gcd n d ≠ 1) :
  Calls Tryz.prog 39 #[.agg #[.bool neg, .slice a l.length c], .slice a' m.length c'] w (RetF (neg, n / Nat.gcd n d, d / Nat.gcd n d) w) := by
 have hgp : 0 < Nat.gcd n d := Nat.gcd_pos_of_pos_right n (by omega)
 have hgd : Nat.gcd n d <= d := Nat.le_of_dvd (by omega) (Nat.gcd_dvd_right n d)
 have hgl0 := limbs_len_mono hgd
 have hd0 : d ≠ 0 := by omega
 have CN := fun W (hW : Below w.heap.size w W) => norm_any m a' c' W (h'.ext (xbw hW)) (by omega)
 rw [hk] at CN
 have CZ := fun W (hW : Below w.heap.size w W) => znorm_any neg l n a c W (h.ext (xbw hW)) hn (by omega)
 have hp : (neg && decide (0 < n)) = neg := by rw [decide_eq_true (by omega : 0 < n), Bool.and_true]
 rw [hp] at CZ
 have CO := fun a2 c2 W (h2 : NatR W a2 c2 (limbs d)) => one_any (limbs d) a2 c2 W h2
 rw [one_limbs] at CO
 have he1 : (((limbs d).length : Int) == 0) = false := by rw [beq_eq_false_iff_ne]; have := limbs_len_pos (n := d); omega
 have he2 : (((limbs n).length : Int) == 0) = false := by rw [beq_eq_false_iff_ne]; have := limbs_len_pos (n := n); omega
 have ho : decide (d = 1) = false := by simp [hd]
 rw [ho] at CO
 have CG := fun a1 c1 a2 c2 W (h1 : NatR W a1 c1 (limbs n)) (h2 : NatR W a2 c2 (limbs d)) => gcd_any (limbs n) (limbs d) n d a1 a2 c1 c2 W h1 h2 (val_limbs _) (val_limbs _) hnl hdl
 obtain ⟨gg, hgg⟩ : ∃ q, Nat.gcd n d = q := ⟨_, rfl⟩
 rw [hgg] at CG
 have CO4 := fun a2 c2 W (h2 : NatR W a2 c2 (limbs gg)) => one_any (limbs gg) a2 c2 W h2
 rw [one_limbs] at CO4
 rw [hgg] at hgp hgl0 ⊢
 have ho4 : decide (gg = 1) = false := by rw [decide_eq_false_iff_not, <- hgg]; exact hg1
 rw [ho4] at CO4
 have CD1 := fun a1 c1 a4 c4 W (h1 : NatR W a1 c1 (limbs n)) (h4 : NatR W a4 c4 (limbs gg)) => divMod_any (limbs n) (limbs gg) n gg a1 a4 c1 c4 W h1 h4 (val_limbs _) (val_limbs _) (by omega) (by omega) hgp
 have CD2 := fun a2 c2 a4 c4 W (h2 : NatR W a2 c2 (limbs d)) (h4 : NatR W a4 c4 (limbs gg)) => divMod_any (limbs d) (limbs gg) d gg a2 a4 c2 c4 W h2 h4 (val_limbs _) (val_limbs _) (by omega) (by omega) hgp
 unfold RetQR at CD1 CD2
 unfold RetF RetQ
 dsimp only
 obtain ⟨N, hN⟩ : ∃ q, n / gg = q := ⟨_, rfl⟩
 obtain ⟨D, hD⟩ : ∃ q, d / gg = q := ⟨_, rfl⟩
 simp only [hN] at CD1 ⊢
 simp only [hD] at CD2 ⊢
 clear hp ho h0 hd hd0 hd1 hnl hdl hg1 hgg ho4 hN hD hgp hgl0 hgd
 replace CD1 := Hd CD1; replace CD2 := Hd CD2
 replace CN := Hd CN; replace CZ := Hd CZ; replace CO := Hd CO; replace CG := Hd CG; replace CO4 := Hd CO4
 have hz : Blk ((w.alloc (.cells #[.bool neg, .slice a l.length c] 30)).alloc (.cells #[.bool false, .slice none 0 0, .slice none 0 0] 32)) (w.heap.size + 1) 32 #[.bool false, .slice none 0 0, .slice none 0 0] := blk_at1 w _ _ _
 have hx : Blk ((w.alloc (.cells #[.bool neg, .slice a l.length c] 30)).alloc (.cells #[.bool false, .slice none 0 0, .slice none 0 0] 32)) w.heap.size 30 #[.bool neg, .slice a l.length c] := (Blk.new w _ _).alloc _
 have hb0 : Below w.heap.size w ((w.alloc (.cells #[.bool neg, .slice a l.length c] 30)).alloc (.cells #[.bool false, .slice none 0 0, .slice none 0 0] 32)) := by go_grown
 have hgB : w.heap.size < w.heap.size + 1 := by omega
 have hgl := hz.lt
 clear h h' hn hk
 go_enter Tryz.func39, Tryz.ntmps39
 go_wp2_with fail
 revert hz hx hb0 hgB hgl
 generalize (w.alloc (.cells #[.bool neg, .slice a l.length c] 30)).alloc (.cells #[.bool false, .slice none 0 0, .slice none 0 0] 32) = w0
 generalize w.heap.size + 1 = g
 intro hz hx hb0 hgB hgl
 refine (CN.out _ hb0).mono ?_
 rintro e w1 ⟨a2, c2, rfl, hV2, hb1⟩
 have hw1 := bth hb0 hb1
 have hx1 := hx.below' hb1
 have hz1 := hz.below' hb1
 have HV2 := Hd hV2
 have z0 := hx1.cell 0; have z1 := hx1.cell 1
 have hs1 := hb1.size
 clear hz hx hV2
 go_wp2_with fail
 refine (CZ.out _ hw1).mono ?_
 rintro e w2 ⟨a1, c1, rfl, hV1, hb2⟩
 have hw2 := bth hw1 hb2
 have hx2 := hx1.below' hb2
 have hz2 := hz1.below' hb2
 have HV1 := Hd hV1
 have hne : ¬ g = w.heap.size := by omega
 have hxl : w.heap.size < w0.heap.size := by omega
 have hs0 := hb0.size
 have hxS := blk2 (x := .bool neg) (y := .slice a1 (limbs n).length c1) hx2
 have hzS := (hz2.far (p := ⟨w.heap.size, 0, none⟩) hne (.bool neg)).far (p := ⟨w.heap.size, 1, none⟩) hne (.slice a1 (limbs n).length c1)
 have hwS := below2 (g := w.heap.size) (x := .bool neg) (y := .slice a1 (limbs n).length c1) hw2 (nlr _)
 have K1 : ∀ V, New w0.heap.size ((w2.setCell ⟨w.heap.size, 0, none⟩ (.bool neg)).setCell ⟨w.heap.size, 1, none⟩ (.slice a1 (limbs n).length c1)) V -> NatR V a1 c1 (limbs n) := fun V hV => HV1.out V ((back2 hV (nlr _) hxl).base hs1)
 have K2 : ∀ V, New w0.heap.size ((w2.setCell ⟨w.heap.size, 0, none⟩ (.bool neg)).setCell ⟨w.heap.size, 1, none⟩ (.slice a1 (limbs n).length c1)) V -> NatR V a2 c2 (limbs d) := fun V hV => HV2.out V ((back2 hV (nlr _) hxl).below hb2)
 clear z0 z1 hV1 hx1 hz1 HV1 HV2 CN CZ
 have z0 := hx2.cell 0; have z1 := hx2.cell 1; have f0 := hx2.frozen 0; have f1 := hx2.frozen 1; have y0 := hz2.cell 0; have y1 := hz2.cell 1; have y2 := hz2.cell 2; have yf0 := hz2.frozen 0; have yf1 := hz2.frozen 1; have yf2 := hz2.frozen 2
 have hbS : w0.heap.size <= ((w2.setCell ⟨w.heap.size, 0, none⟩ (.bool neg)).setCell ⟨w.heap.size, 1, none⟩ (.slice a1 (limbs n).length c1)).heap.size := by simp; exact Nat.le_trans hs1 hb2.size
 replace hs1 := hw2.size
 clear hx2 hz2 hw2 hb2 hw1 hb1 hb0
 go_wp2_with fail
 revert hxS hzS hwS K1 K2 hbS
 generalize (w2.setCell ⟨w.heap.size, 0, none⟩ (.bool neg)).setCell ⟨w.heap.size, 1, none⟩ (.slice a1 (limbs n).length c1) = wS
 intro hxS hzS hwS K1 K2 hbS
 have CO2 := CO.out a2 c2 wS (K2 wS (New.refl _ _))
 replace CO2 := Hd CO2
 replace K1 := Hd K1; replace K2 := Hd K2
 refine CO2.out.mono ?_
 rintro e w3 ⟨rfl, hb3⟩
 have hw3 := bth hwS hb3
 have hz3 := hzS.below' hb3
 have hx3 := hxS.below' hb3
 clear z0 z1 f0 f1 y0 y1 y2 yf0 yf1 yf2 hxS hzS CO2
 have z0 := hx3.cell 0; have z1 := hx3.cell 1
 have r1 := K1.out w3 ((New.refl _ _).below hb3)
 have r2 := K2.out w3 ((New.refl _ _).below hb3)
 have CG2 := CG.out a1 c1 a2 c2 w3 r1 r2
 replace CG2 := Hd CG2
 clear r1 r2
 go_wp2_with fail
 refine CG2.out.mono ?_
 rintro e w4 ⟨a4, c4, rfl, hV4, hb4⟩
 have hw4 := bth hw3 hb4
 have hz4 := hz3.below' hb4
 have hx4 := hx3.below' hb4
 have r4 := hV4 w4 (New.refl _ _)
 have CO5 := CO4.out a4 c4 w4 r4
 replace CO5 := Hd CO5
 clear z0 z1 hz3 hx3 CG2
 have R4 := Hd r4
 have R4V := Hd hV4
 have hs3 := hb3.size
 clear r4 hV4
 go_wp2_with fail
 refine CO5.out.mono ?_
 rintro e w5 ⟨rfl, hb5⟩
 have hw5 := bth hw4 hb5
 have hz5 := hz4.below' hb5
 have hx5 := hx4.below' hb5
 clear CO5 hz4 hx4
 have z0 := hx5.cell 0; have z1 := hx5.cell 1; have f0 := hx5.frozen 0; have f1 := hx5.frozen 1; have y0 := hz5.cell 0; have y1 := hz5.cell 1; have y2 := hz5.cell 2; have yf0 := hz5.frozen 0; have yf1 := hz5.frozen 1; have yf2 := hz5.frozen 2
 have CE1 := CD1.out a1 c1 a4 c4 w5 (K1.out w5 ((((New.refl _ _).below hb5).below hb4).below hb3)) (R4.out.ext (xbw hb5))
 replace CE1 := Hd CE1
 go_wp2_with fail
 refine CE1.out.mono ?_
 rintro e w6 ⟨a6, c6, _, _, rfl, hV6, _, hb6⟩
 have hw6 := bth hw5 hb6
 have hz6 := hz5.below' hb6
 have hx6 := hx5.below' hb6
 have hxF := hx6.set_ 1 (.slice a6 (limbs N).length c6)
 have hzF := hz6.far (p := ⟨w.heap.size, 1, none⟩) hne (.slice a6 (limbs N).length c6)
 have hwF := hw6.setCell (p := ⟨w.heap.size, 1, none⟩) (nlr _) (.slice a6 (limbs N).length c6)
 have hN6 : ∀ {V}, New w0.heap.size (w6.setCell ⟨w.heap.size, 1, none⟩ (.slice a6 (limbs N).length c6)) V -> New w0.heap.size w6 V := fun hV => hV.unset hxl
 have hs5 : w0.heap.size <= w5.heap.size := by have := hbS; have := hb3.size; have := hb4.size; have := hb5.size; omega
 clear CE1 z0 z1 f0 f1 y0 y1 y2 yf0 yf1 yf2 hz5 hx5 hz6
 have z0 := hx6.cell 0; have z1 := hx6.cell 1; have f0 := hx6.frozen 0; have f1 := hx6.frozen 1
 go_wp2_with fail
 revert hxF hzF hwF hN6
 generalize w6.setCell ⟨w.heap.size, 1, none⟩ (.slice a6 (limbs N).length c6) = wF
 intro hxF hzF hwF hN6
 have hk : ∀ {V}, New w0.heap.size wF V -> New w0.heap.size wS V := fun hV => ((((hN6 hV).below hb6).below hb5).below hb4).below hb3
 have CE2 := CD2.out a2 c2 a4 c4 wF (K2.out wF (hk (New.refl _ _))) (R4V.out wF ((((hN6 (New.refl _ _)).below hb6).below hb5).base (Nat.le_trans hbS hs3)))
 replace CE2 := Hd CE2
 refine CE2.out.mono ?_
 rintro e w7 ⟨a7, c7, _, _, rfl, hV7, _, hb7⟩
 have hw7 := bth hwF hb7
 have hz7 := hzF.below' hb7
 have hx7 := hxF.below' hb7
 have HV6 := Hd hV6; have HV7 := Hd hV7
 have hs6 := hwF.size
 have hg6 := hzF.lt
 clear CE2 z0 z1 f0 f1 hzF hxF hx6 hV6 hV7
 have z0 := hx7.cell 0; have z1 := hx7.cell 1; have y0 := hz7.cell 0; have y1 := hz7.cell 1; have y2 := hz7.cell 2; have yf0 := hz7.frozen 0; have yf1 := hz7.frozen 1; have yf2 := hz7.frozen 2
 go_wp2
 have hF := blk3 (x := .bool neg) (y := .slice a6 (limbs N).length c6) (z := .slice a7 (limbs D).length c7) hz7
 have e0 := hF.cell 0; have e1 := hF.cell 1; have e2 := hF.cell 2
 refine bodyPost_ret (v := .agg #[.bool neg, .slice a6 (limbs N).length c6, .slice a7 (limbs D).length c7]) (by simp [results, Tryz.results39, go_sem, e0, e1, e2]) rfl ?_
 exact ⟨a6, c6, a7, c7, rfl, fun V hV => HV6.out V ((hN6 ((back3 hV hs0 hgl).below hb7)).base hs5), fun V hV => HV7.out V (back3 hV hs6 hg6), below3 hw7 (Nat.le_of_lt hgB)⟩
theorem reduced_any (neg : Bool) (l m : List Int) (n d : Nat) (a a' : Option Addr) (c c' : Nat) (w : World) (h : NatR w a c l) (h' : NatR w a' c' m) (hn : val l = n) (hk : val m = d) (hl : l.length <= 2000000) (hm : m.length <= 2000000) :
  Calls Tryz.prog 39 #[.agg #[.bool neg, .slice a l.length c], .slice a' m.length c'] w (RetF (lowest neg n d) w) := by
 have hll := limbs_len_val h.u16
 rw [hn] at hll
 have hlm := limbs_len_val h'.u16
 rw [hk] at hlm
 by_cases hd : d = 0
 ·
  rw [hd, lowest_nil]
  exact reduced_nil neg l m n d a a' c c' w h h' hn hk hl hm (.inl hd)
 ·
  by_cases h0 : n = 0
  ·
   rw [h0, lowest_null _ hd]
   exact reduced_nil neg l m n d a a' c c' w h h' hn hk hl hm (.inr h0)
  ·
   by_cases h1 : d = 1
   ·
    rw [lowest_one h0 hd (by rw [h1, Nat.gcd_one_right])]
    exact reduced_unit neg l m n d a a' c c' w h h' hn hk hl hm h0 h1
   ·
    by_cases hg : Nat.gcd n d = 1
    ·
     rw [lowest_one h0 hd hg]
     exact reduced_prime neg l m n d a a' c c' w h h' hn hk hl hm h0 hd h1 (by omega) (by omega) hg
    ·
     rw [lowest_full h0 hd]
     exact reduced_common neg l m n d a a' c c' w h h' hn hk hl hm h0 hd h1 (by omega) (by omega) hg
theorem lowest_int (z : Int) : lowest (decide (z < 0)) z.natAbs 1 = (decide (z < 0), z.natAbs, 1) := by
 unfold lowest
 rw [if_neg (by omega), Nat.gcd_one_right, Nat.div_one]
 by_cases hz : z < 0
 ·
  have : decide (0 < z.natAbs) = true := by rw [decide_eq_true_eq]; omega
  rw [this, Bool.and_true]
 · rw [decide_eq_false hz, Bool.false_and]
theorem qmake_any (neg1 neg2 : Bool) (l m : List Int) (n1 n2 : Nat) (a a' : Option Addr) (c c' : Nat) (w : World) (h : NatR w a c l) (h' : NatR w a' c' m) (hn : val l = n1) (hk : val m = n2) (hl : l.length <= 2000000) (hm : m.length <= 2000000) (h0 : n2 ≠ 0) :
  Calls Tryz.prog 73 #[.agg #[.bool neg1, .slice a l.length c], .agg #[.bool neg2, .slice a' m.length c']] w (RetM (lowest (neg1 != neg2) n1 n2) w) := by
 have CS := fun W (hW : Below w.heap.size w W) => zsign_any neg2 m n2 a' c' W (h'.ext (xbw hW)) hk (by omega)
 have CO1 := fun W (hW : Below w.heap.size w W) => reduced_any (neg1 != neg2) l m n1 n2 a a' c c' W (h.ext (xbw hW)) (h'.ext (xbw hW)) hn hk hl hm
 have hsg : sgnZ neg2 n2 ≠ 0 := by
  unfold sgnZ
  rw [if_neg h0]
  split <;> decide
 obtain ⟨sg, hsg2⟩ : ∃ q, sgnZ neg2 n2 = q := ⟨_, rfl⟩
 rw [hsg2] at CS hsg
 have hne : (sg == 0) = false := by rw [beq_eq_false_iff_ne]; exact hsg
 have hz : Blk (((w.alloc (.cells #[.bool neg1, .slice a l.length c] 30)).alloc (.cells #[.bool neg2, .slice a' m.length c'] 30)).alloc (.cells #[.bool false, .slice none 0 0, .slice none 0 0] 32)) (w.heap.size + 1 + 1) 32 #[.bool false, .slice none 0 0, .slice none 0 0] := blk_at2 w _ _ _ _
 have hx1 : Blk (((w.alloc (.cells #[.bool neg1, .slice a l.length c] 30)).alloc (.cells #[.bool neg2, .slice a' m.length c'] 30)).alloc (.cells #[.bool false, .slice none 0 0, .slice none 0 0] 32)) w.heap.size 30 #[.bool neg1, .slice a l.length c] := ((Blk.new w _ _).alloc _).alloc _
 have hx2 : Blk (((w.alloc (.cells #[.bool neg1, .slice a l.length c] 30)).alloc (.cells #[.bool neg2, .slice a' m.length c'] 30)).alloc (.cells #[.bool false, .slice none 0 0, .slice none 0 0] 32)) (w.heap.size + 1) 30 #[.bool neg2, .slice a' m.length c'] := (blk_at1 w _ _ _).alloc _
 have hb0 : Below w.heap.size w (((w.alloc (.cells #[.bool neg1, .slice a l.length c] 30)).alloc (.cells #[.bool neg2, .slice a' m.length c'] 30)).alloc (.cells #[.bool false, .slice none 0 0, .slice none 0 0] 32)) := by go_grown
 have hgB : w.heap.size < w.heap.size + 1 + 1 := by omega
 have hgB2 : w.heap.size + 1 < w.heap.size + 1 + 1 := by omega
 have hgC : w.heap.size < w.heap.size + 1 := by omega
 obtain ⟨t, ht⟩ : ∃ t, lowest (neg1 != neg2) n1 n2 = t := ⟨_, rfl⟩
 rw [ht] at CO1 ⊢
 obtain ⟨s, N, D⟩ := t
 unfold RetF at CO1
 unfold RetM
 dsimp only at CO1 ⊢
 replace CS := Hd CS; replace CO1 := Hd CO1
 clear h h' hn hk hsg hsg2 h0 ht
 go_enter Tryz.func73, Tryz.ntmps73
 go_wp2_with fail
 have hgl := hz.lt
 revert hz hx1 hx2 hb0 hgB hgB2 hgC hgl
 generalize ((w.alloc (.cells #[.bool neg1, .slice a l.length c] 30)).alloc (.cells #[.bool neg2, .slice a' m.length c'] 30)).alloc (.cells #[.bool false, .slice none 0 0, .slice none 0 0] 32) = w0
 generalize w.heap.size + 1 + 1 = g
 generalize w.heap.size + 1 = g2
 intro hz hx1 hx2 hb0 hgB hgB2 hgC hgl
 refine (CS.out _ hb0).mono ?_
 rintro e w1 ⟨rfl, hb1⟩
 have hw1 := bth hb0 hb1
 have hz1 := hz.below' hb1
 have hy1 := hx1.below' hb1
 have hy2 := hx2.below' hb1
 have z0 := hy1.cell 0; have z1 := hy1.cell 1; have z2 := hy2.cell 0; have z3 := hy2.cell 1
 go_wp2_with fail
 refine (CO1.out _ hw1).mono ?_
 rintro e w2 ⟨a1, c1, a2, c2, rfl, hV1, hV2, hb2⟩
 have hw2 := bth hw1 hb2
 have hz2 := hz1.below' hb2
 have HV1 := Hd hV1
 have HV2 := Hd hV2
 have z4 := hz2.cell 0; have z5 := hz2.cell 1; have z6 := hz2.cell 2; have f0 := hz2.frozen 0; have f1 := hz2.frozen 1; have f2 := hz2.frozen 2
 have hs1 := hw1.size
 have hgl2 := hz1.lt
 clear hV1 hV2
 go_wp2
 have hF := blk3 (x := .bool s) (y := .slice a1 (limbs N).length c1) (z := .slice a2 (limbs D).length c2) hz2
 have e0 := hF.cell 0; have e1 := hF.cell 1; have e2 := hF.cell 2
 refine bodyPost_ret (v := .tuple #[.agg #[.bool s, .slice a1 (limbs N).length c1, .slice a2 (limbs D).length c2], .int .i64 0]) (by simp [results, Tryz.results73, go_sem, e0, e1, e2]) rfl ?_
 exact ⟨a1, c1, a2, c2, rfl, fun V hV => HV1.out V (back3 hV hs1 hgl2), fun V hV => HV2.out V (back3 hV hs1 hgl2), below3 hw2 (Nat.le_of_lt hgB)⟩
theorem qint_any (z : Int) (w : World) (hi : InInt z) :
  Calls Tryz.prog 19 #[.int .i64 z] w (RetF (lowest (decide (z < 0)) z.natAbs 1) w) := by
 have CZ := fun W => zint_any z W hi
 have C1 := fun W => unit_any W
 rw [lowest_int]
 obtain ⟨s, hng⟩ : ∃ q, decide (z < 0) = q := ⟨_, rfl⟩
 obtain ⟨N, hnz⟩ : ∃ q, z.natAbs = q := ⟨_, rfl⟩
 simp only [hng, hnz] at CZ ⊢
 unfold RetF RetQ
 dsimp only
 replace CZ := Hd CZ; replace C1 := Hd C1
 have hz : Blk (w.alloc (.cells #[.bool false, .slice none 0 0, .slice none 0 0] 32)) w.heap.size 32 #[.bool false, .slice none 0 0, .slice none 0 0] := Blk.new w _ _
 have hb0 : Below w.heap.size w (w.alloc (.cells #[.bool false, .slice none 0 0, .slice none 0 0] 32)) := brf.alloc (nlr _) _
 clear hng hnz
 go_enter Tryz.func19, Tryz.ntmps19
 go_wp2_with fail
 revert hz hb0
 generalize w.alloc (.cells #[.bool false, .slice none 0 0, .slice none 0 0] 32) = w0
 intro hz hb0
 refine (CZ.out _).mono ?_
 rintro e w1 ⟨a1, c1, rfl, hV1, hb1⟩
 have hw1 := bth hb0 hb1
 have hz1 := hz.below' hb1
 have HV1 := Hd hV1
 clear hV1
 go_wp2_with fail
 refine (C1.out _).mono ?_
 rintro e w2 ⟨a2, c2, rfl, hV2, hb2⟩
 have hw2 := bth hw1 hb2
 have hz2 := hz1.below' hb2
 have HV2 := Hd hV2
 have hs0 := hb0.size
 have hgl0 := hz.lt
 have hs1 := hw1.size
 have hgl1 := hz1.lt
 have z0 := hz2.cell 0; have z1 := hz2.cell 1; have z2 := hz2.cell 2; have f0 := hz2.frozen 0; have f1 := hz2.frozen 1; have f2 := hz2.frozen 2
 clear hV2 hz hz1
 go_wp2
 have hF := blk3 (x := .bool s) (y := .slice a1 (limbs N).length c1) (z := .slice a2 (limbs 1).length c2) hz2
 have e0 := hF.cell 0; have e1 := hF.cell 1; have e2 := hF.cell 2
 refine bodyPost_ret (v := .agg #[.bool s, .slice a1 (limbs N).length c1, .slice a2 (limbs 1).length c2]) (by simp [results, Tryz.results19, go_sem, e0, e1, e2]) rfl ?_
 exact ⟨a1, c1, a2, c2, rfl, fun V hV => HV1.out V ((back3 hV hs0 hgl0).below hb2), fun V hV => HV2.out V (back3 hV hs1 hgl1), below3 hw2 (nlr _)⟩
theorem qfrac_any (z y : Int) (w : World) (hi : InInt z) (hj : InInt y) (h0 : y ≠ 0) :
  Calls Tryz.prog 37 #[.int .i64 z, .int .i64 y] w (RetF (lowest (decide (z < 0) != decide (y < 0)) z.natAbs y.natAbs) w) := by
 have hl4 := limbs_int hi
 have hl5 := limbs_int hj
 have CZ := fun W => zint_any z W hi
 have CY := fun W => zint_any y W hj
 have CO := fun a a' c c' W h h' => qmake_any (decide (z < 0)) (decide (y < 0)) (limbs z.natAbs) (limbs y.natAbs) z.natAbs y.natAbs a a' c c' W h h' (val_limbs _) (val_limbs _) (by omega) (by omega) (by omega)
 obtain ⟨t, ht⟩ : ∃ t, lowest (decide (z < 0) != decide (y < 0)) z.natAbs y.natAbs = t := ⟨_, rfl⟩
 obtain ⟨ng, hng⟩ : ∃ q, decide (z < 0) = q := ⟨_, rfl⟩
 obtain ⟨nz, hnz⟩ : ∃ q, z.natAbs = q := ⟨_, rfl⟩
 obtain ⟨mg, hmg⟩ : ∃ q, decide (y < 0) = q := ⟨_, rfl⟩
 obtain ⟨mz, hmz⟩ : ∃ q, y.natAbs = q := ⟨_, rfl⟩
 rw [ht] at CO ⊢
 simp only [hng, hnz] at CO CZ
 simp only [hmg, hmz] at CO CY
 obtain ⟨s, N, D⟩ := t
 unfold RetM at CO
 unfold RetF
 dsimp only at CO ⊢
 replace CZ := Hd CZ; replace CY := Hd CY; replace CO := Hd CO
 have hz : Blk (w.alloc (.cells #[.bool false, .slice none 0 0, .slice none 0 0] 32)) w.heap.size 32 #[.bool false, .slice none 0 0, .slice none 0 0] := Blk.new w _ _
 have hb0 : Below w.heap.size w (w.alloc (.cells #[.bool false, .slice none 0 0, .slice none 0 0] 32)) := brf.alloc (nlr _) _
 clear ht hng hnz hl4 hl5 hmg hmz h0
 go_enter Tryz.func37, Tryz.ntmps37
 go_wp2_with fail
 revert hz hb0
 generalize w.alloc (.cells #[.bool false, .slice none 0 0, .slice none 0 0] 32) = w0
 intro hz hb0
 refine (CZ.out _).mono ?_
 rintro e w1 ⟨a1, c1, rfl, hV1, hb1⟩
 have hw1 := bth hb0 hb1
 have hz1 := hz.below' hb1
 have HV1 := Hd hV1
 clear hV1
 go_wp2_with fail
 refine (CY.out _).mono ?_
 rintro e w2 ⟨a2, c2, rfl, hV2, hb2⟩
 have hw2 := bth hw1 hb2
 have hz2 := hz1.below' hb2
 have CF := CO.out a1 a2 c1 c2 w2 (HV1.out w2 ((New.refl _ _).below hb2)) (hV2 w2 (New.refl _ _))
 replace CF := Hd CF
 clear hV2
 go_wp2_with fail
 refine CF.out.mono ?_
 rintro e w3 ⟨a3, c3, a4, c4, rfl, hV3, hV4, hb3⟩
 have hw3 := bth hw2 hb3
 have hz3 := hz2.below' hb3
 have HV3 := Hd hV3
 have HV4 := Hd hV4
 have hs2 := hw2.size
 have hgl2 := hz2.lt
 have hz4 := hz3.alloc (.cells #[.bool s, .slice a3 (limbs N).length c3, .slice a4 (limbs D).length c4] 32)
 have hw4 := hw3.alloc hw3.size (.cells #[.bool s, .slice a3 (limbs N).length c3, .slice a4 (limbs D).length c4] 32)
 have z0 := hz4.cell 0; have z1 := hz4.cell 1; have z2 := hz4.cell 2; have f0 := hz4.frozen 0; have f1 := hz4.frozen 1; have f2 := hz4.frozen 2
 clear hV3 hV4
 go_wp2
 have hF := blk3 (x := .bool s) (y := .slice a3 (limbs N).length c3) (z := .slice a4 (limbs D).length c4) hz4
 have e0 := hF.cell 0; have e1 := hF.cell 1; have e2 := hF.cell 2
 refine bodyPost_ret (v := .agg #[.bool s, .slice a3 (limbs N).length c3, .slice a4 (limbs D).length c4]) (by simp [results, Tryz.results37, go_sem, e0, e1, e2]) rfl ?_
 exact ⟨a3, c3, a4, c4, rfl, fun V hV => HV3.out V (back3 hV hs2 hgl2).unalloc, fun V hV => HV4.out V (back3 hV hs2 hgl2).unalloc, below3 hw4 (nlr _)⟩
theorem qneg_any (neg : Bool) (l m : List Int) (n d : Nat) (a a' : Option Addr) (c c' : Nat) (w : World) (h : NatR w a c l) (h' : NatR w a' c' m) (hn : val l = n) (hk : val m = d) (hl : l.length <= 2000000) (hm : m.length <= 2000000) (h0 : d ≠ 0) :
  Calls Tryz.prog 21 #[.agg #[.bool neg, .slice a l.length c, .slice a' m.length c']] w (RetF (lowest (!neg) n d) w) := by
 have CP := fun W (hW : Below w.heap.size w W) => parts_any neg l m a a' c c' W (h'.ext (xbw hW)) (by omega) (by omega)
 have CO := fun W (hW : Below w.heap.size w W) => reduced_any (!neg) l m n d a a' c c' W (h.ext (xbw hW)) (h'.ext (xbw hW)) hn hk hl hm
 obtain ⟨t, ht⟩ : ∃ t, lowest (!neg) n d = t := ⟨_, rfl⟩
 rw [ht] at CO ⊢
 obtain ⟨s, N, D⟩ := t
 unfold RetF at CO ⊢
 dsimp only at CO ⊢
 replace CP := Hd CP; replace CO := Hd CO
 have hx : Blk ((w.alloc (.cells #[.bool neg, .slice a l.length c, .slice a' m.length c'] 32)).alloc (.cells #[.bool false, .slice none 0 0, .slice none 0 0] 32)) w.heap.size 32 #[.bool neg, .slice a l.length c, .slice a' m.length c'] := (Blk.new w _ _).alloc _
 have hz : Blk ((w.alloc (.cells #[.bool neg, .slice a l.length c, .slice a' m.length c'] 32)).alloc (.cells #[.bool false, .slice none 0 0, .slice none 0 0] 32)) (w.heap.size + 1) 32 #[.bool false, .slice none 0 0, .slice none 0 0] := blk_at1 w _ _ _
 have hb0 : Below w.heap.size w ((w.alloc (.cells #[.bool neg, .slice a l.length c, .slice a' m.length c'] 32)).alloc (.cells #[.bool false, .slice none 0 0, .slice none 0 0] 32)) := by go_grown
 have hgB : w.heap.size < w.heap.size + 1 := by omega
 have hgl := hz.lt
 clear h h' hn hk h0 ht
 go_enter Tryz.func21, Tryz.ntmps21
 go_wp2_with fail
 revert hx hz hb0 hgB hgl
 generalize (w.alloc (.cells #[.bool neg, .slice a l.length c, .slice a' m.length c'] 32)).alloc (.cells #[.bool false, .slice none 0 0, .slice none 0 0] 32) = w0
 generalize w.heap.size + 1 = g
 intro hx hz hb0 hgB hgl
 have z0 := hx.cell 0; have z1 := hx.cell 1; have z2 := hx.cell 2
 go_wp2_with fail
 refine (CP.out _ hb0).mono ?_
 rintro e w1 ⟨rfl, hb1⟩
 have hw1 := bth hb0 hb1
 have hz1 := hz.below' hb1
 clear z0 z1 z2 hx hz
 go_wp2_with fail
 have hp := hz1.alloc (.cells #[.bool neg, .slice a l.length c] 30)
 have hy := Blk.new w1 30 #[.bool neg, .slice a l.length c]
 have hw2 := hw1.alloc hw1.size (.cells #[.bool neg, .slice a l.length c] 30)
 revert hp hy hw2
 generalize w1.alloc (.cells #[.bool neg, .slice a l.length c] 30) = w2
 intro hp hy hw2
 refine (CO.out _ hw2).mono ?_
 rintro e w3 ⟨a3, c3, a4, c4, rfl, hV3, hV4, hb3⟩
 have hw3 := bth hw2 hb3
 have hz3 := hp.below' hb3
 have HV3 := Hd hV3
 have HV4 := Hd hV4
 have hs2 := hw2.size
 have hgl2 := hp.lt
 have y0 := hz3.cell 0; have y1 := hz3.cell 1; have y2 := hz3.cell 2; have f0 := hz3.frozen 0; have f1 := hz3.frozen 1; have f2 := hz3.frozen 2
 clear hV3 hV4 hp hz1
 go_wp2
 have hF := blk3 (x := .bool s) (y := .slice a3 (limbs N).length c3) (z := .slice a4 (limbs D).length c4) hz3
 have e0 := hF.cell 0; have e1 := hF.cell 1; have e2 := hF.cell 2
 refine bodyPost_ret (v := .agg #[.bool s, .slice a3 (limbs N).length c3, .slice a4 (limbs D).length c4]) (by simp [results, Tryz.results21, go_sem, e0, e1, e2]) rfl ?_
 exact ⟨a3, c3, a4, c4, rfl, fun V hV => HV3.out V (back3 hV hs2 hgl2), fun V hV => HV4.out V (back3 hV hs2 hgl2), below3 hw3 (Nat.le_of_lt hgB)⟩
def sb (j : Nat) : Nat × Nat := if h : j <= 1 then (1, 1) else if j % 2 = 1 then ((sb (j / 2)).1 + (sb (j / 2)).2, (sb (j / 2)).2) else ((sb (j / 2)).1, (sb (j / 2)).1 + (sb (j / 2)).2)
termination_by j
decreasing_by all_goals omega
theorem sb_one {j : Nat} (h : j <= 1) : sb j = (1, 1) := by rw [sb]; simp [h]
theorem sb_odd {j : Nat} (h : 1 < j) (ho : j % 2 = 1) : sb j = ((sb (j / 2)).1 + (sb (j / 2)).2, (sb (j / 2)).2) := by
 rw [sb, dif_neg (by omega), if_pos ho]
theorem sb_even {j : Nat} (h : 1 < j) (ho : j % 2 = 0) : sb j = ((sb (j / 2)).1, (sb (j / 2)).1 + (sb (j / 2)).2) := by
 rw [sb, dif_neg (by omega), if_neg (by omega)]
theorem sb_sum (j : Nat) : 1 <= (sb j).1 /\ 1 <= (sb j).2 /\ (sb j).1 + (sb j).2 <= max j 1 + 1 := by
 induction j using Nat.strongRecOn with
 | _ j ih =>
  by_cases h : j <= 1
  · rw [sb_one h]; simp; omega
  ·
   obtain ⟨h1, h2, h3⟩ := ih (j / 2) (by omega)
   by_cases ho : j % 2 = 1
   · rw [sb_odd (by omega) ho]; dsimp only; omega
   · rw [sb_even (by omega) (by omega)]; dsimp only; omega
theorem sb_in {j : Nat} (hj : j <= 4611686018427387904) (k : Nat) : ((sb (j / 2 ^ k)).1 : Int) <= 4611686018427387904 /\ ((sb (j / 2 ^ k)).2 : Int) <= 4611686018427387904 /\ (1 : Int) <= (sb (j / 2 ^ k)).1 /\ (1 : Int) <= (sb (j / 2 ^ k)).2 := by
 obtain ⟨h1, h2, h3⟩ := sb_sum (j / 2 ^ k)
 have := Nat.div_le_self j (2 ^ k)
 omega
theorem div_pow_succ (j k : Nat) : j / 2 ^ k / 2 = j / 2 ^ (k + 1) := by rw [Nat.div_div_eq_div_mul, Nat.pow_succ]
theorem div_pow_pos {j t k : Nat} (ht : 2 ^ t <= j) (hk : k <= t) : 1 <= j / 2 ^ k := by
 have h1 : 2 ^ k <= 2 ^ t := Nat.pow_le_pow_right (by omega) hk
 have h2 : 0 < 2 ^ k := Nat.pow_pos (by omega)
 exact (Nat.one_le_div_iff h2).2 (Nat.le_trans h1 ht)
theorem sb_step {j k : Nat} (hp : 1 <= j / 2 ^ (k + 1)) : sb (j / 2 ^ k) = if j / 2 ^ k % 2 = 1 then ((sb (j / 2 ^ (k + 1))).1 + (sb (j / 2 ^ (k + 1))).2, (sb (j / 2 ^ (k + 1))).2) else ((sb (j / 2 ^ (k + 1))).1, (sb (j / 2 ^ (k + 1))).1 + (sb (j / 2 ^ (k + 1))).2) := by
 have h := div_pow_succ j k
 have h2 : 1 < j / 2 ^ k := by omega
 split
 · next ho => rw [sb_odd h2 ho, h]
 · next ho => rw [sb_even h2 (by omega), h]
theorem sb_top {j t : Nat} (h1 : 2 ^ t <= j) (h2 : j < 2 ^ (t + 1)) : sb (j / 2 ^ t) = (1, 1) := by
 apply sb_one
 have h3 : 0 < 2 ^ t := Nat.pow_pos (by omega)
 have : j / 2 ^ t < 2 := by rw [Nat.div_lt_iff_lt_mul h3]; rw [Nat.pow_succ] at h2; omega
 omega
theorem digit_bits (j k : Nat) (hj : j < 9223372036854775808) : bits BinOp.and IntKind.i64 ((j : Int) / 2 ^ k) 1 = ((j / 2 ^ k % 2 : Nat) : Int) := by
 have h : ((j : Int) / 2 ^ k) = ((j / 2 ^ k : Nat) : Int) := by simp
 rw [h]
 exact and_one _ (Nat.lt_of_le_of_lt (Nat.div_le_self _ _) hj)
end Go.Proofs.YtdnblkklgdnapaaGreat
namespace Go.Proofs
open Go.Shelf
def Tryz.lays125_ren : Go.Shelf.Ren := ⟨fun | 125 => 36 | 128 => 71 | 129 => 72 | n => n, fun | 46 => 47 | 3 => 3 | 51 => 116 | 53 => 69 | 4 => 4 | 5 => 5 | 9 => 9 | n => n, fun | n => n⟩
theorem Tryz.lays125 : Go.Proofs.Lays.n125 Tryz.prog Tryz.lays125_ren := {
  mixed := by kernel_rfl
  f125 := Tryz.func36.trans (congrArg some (by kernel_rfl))
  f128 := Tryz.func71.trans (congrArg some (by kernel_rfl))
  f129 := Tryz.func72.trans (congrArg some (by kernel_rfl))
  t3 := Tryz.underlying3
  a3 := Tryz.isAgg3
  z3 := Tryz.sizeOf3
  v3 := Tryz.zeroValue3
  t4 := Tryz.underlying4
  a4 := Tryz.isAgg4
  z4 := Tryz.sizeOf4
  v4 := Tryz.zeroValue4
  t5 := Tryz.underlying5
  a5 := Tryz.isAgg5
  z5 := Tryz.sizeOf5
  v5 := Tryz.zeroValue5
  t9 := Tryz.underlying9
  a9 := Tryz.isAgg9
  z9 := Tryz.sizeOf9
  v9 := Tryz.zeroValue9
  t46 := Tryz.underlying47
  a46 := Tryz.isAgg47
  z46 := Tryz.sizeOf47
  v46 := Tryz.zeroValue47
  t51 := Tryz.underlying116
  a51 := Tryz.isAgg116
  z51 := Tryz.sizeOf116
  v51 := Tryz.zeroValue116
  t53 := Tryz.underlying69
  a53 := Tryz.isAgg69
  z53 := Tryz.sizeOf69
  v53 := Tryz.zeroValue69 }
end Go.Proofs
namespace Go.Proofs.YtdnblkklgdnapaaGreat
theorem lenU_any (x : Nat) (w : World) (h1 : x <= 18446744073709551615) :
  Calls Tryz.prog 36 #[.int .u64 x] w fun e w' => e = .returned (.int .i64 (Lib.bitLen x : Int)) /\ w' = w := by
 have := Any.bits_Len Tryz.lays125 (x : Int) w (by omega) (by omega)
 rw [Int.toNat_natCast] at this
 exact this
end Go.Proofs.YtdnblkklgdnapaaGreat
namespace Go.Proofs.YtdnblkklgdnapaaGreat
open Go.RowKit
def posQ (j : Nat) : Bool × Nat × Nat := lowest false (sb j).1 (sb j).2
theorem top_bits {j : Nat} (h0 : 0 < j) (h1 : j <= 4611686018427387904) : ∃ t, Lib.bitLen j = t + 1 /\ t <= 62 /\ 2 ^ t <= j /\ j < 2 ^ (t + 1) := by
 obtain ⟨h2, h3, h4⟩ := Lib.bitLenAux_bounds 64 j (by omega) (by omega)
 change 1 <= Lib.bitLen j at h2
 change 2 ^ (Lib.bitLen j - 1) <= j at h3
 change j < 2 ^ Lib.bitLen j at h4
 obtain ⟨t, ht⟩ : ∃ t, Lib.bitLen j = t + 1 := ⟨Lib.bitLen j - 1, by omega⟩
 rw [ht] at h3 h4
 refine ⟨t, ht, ?_, by simpa using h3, h4⟩
 rcases Nat.lt_or_ge 62 t with h5 | h5
 ·
  exfalso
  have h6 : 2 ^ 63 <= 2 ^ t := Nat.pow_le_pow_right (by omega) h5
  have h7 : 2 ^ t <= j := by simpa using h3
  have : (2 : Nat) ^ 63 = 9223372036854775808 := by decide
  omega
 · exact h5
theorem positive_any (j : Nat) (w : World) (h0 : 0 < j) (h1 : j <= 4611686018427387904) :
  Calls Tryz.prog 20 #[.int .i64 j] w (RetF (posQ j) w) := by
 obtain ⟨t, hb, ht, hlo, hhi⟩ := top_bits h0 h1
 have CL := fun W => lenU_any j W (by omega)
 rw [hb] at CL
 have CF := fun W => qfrac_any ((sb j).1 : Int) ((sb j).2 : Int) W (by have := sb_in h1 0; simp at this; unfold InInt; omega) (by have := sb_in h1 0; simp at this; unfold InInt; omega) (by have := sb_in h1 0; simp at this; omega)
 have hs := sb_in h1
 have hn1 : ∀ x : Nat, decide ((x : Int) < 0) = false := fun x => by rw [decide_eq_false_iff_not]; omega
 simp only [hn1, Int.natAbs_natCast] at CF
 have hq : lowest (false != false) (sb j).1 (sb j).2 = posQ j := rfl
 rw [hq] at CF
 obtain ⟨q, hq2⟩ : ∃ q, posQ j = q := ⟨_, rfl⟩
 rw [hq2] at CF ⊢
 obtain ⟨s, N, D⟩ := q
 unfold RetF at CF ⊢
 dsimp only at CF ⊢
 have HLO := Hd hlo; have HHI := Hd hhi; have HS := Hd hs
 replace CL := Hd CL; replace CF := Hd CF
 have hz : Blk (w.alloc (.cells #[.bool false, .slice none 0 0, .slice none 0 0] 32)) w.heap.size 32 #[.bool false, .slice none 0 0, .slice none 0 0] := Blk.new w _ _
 have hb0 : Below w.heap.size w (w.alloc (.cells #[.bool false, .slice none 0 0, .slice none 0 0] 32)) := brf.alloc (nlr _) _
 have hj2 : (j : Int) <= 4611686018427387904 := by omega
 have hwr : IntKind.u64.wrap (j : Int) = (j : Int) := by rw [IntKind.wrap_u64]; omega
 clear hq2 hn1 hs hlo hhi hb hq
 go_enter Tryz.func20, Tryz.ntmps20
 go_wp2_with fail
 revert hz hb0
 generalize w.alloc (.cells #[.bool false, .slice none 0 0, .slice none 0 0] 32) = w0
 intro hz hb0
 refine (CL.out _).mono ?_
 rintro e w1 ⟨rfl, rfl⟩
 go_wp2
 go_loopg [3, 4, 5] t (fun g x y i wr => g <= t /\ i = .int .i64 ((g : Int) - 1) /\ x = .int .i64 ((sb (j / 2 ^ g)).1 : Int) /\ y = .int .i64 ((sb (j / 2 ^ g)).2 : Int) /\ wr = w1)
 case atStart =>
  refine ⟨nlr _, ?_, ?_, ?_, rfl⟩
  · exact val_int (by omega)
  · rw [sb_top HLO.out HHI.out]; rfl
  · rw [sb_top HLO.out HHI.out]; rfl
 case round =>
  obtain ⟨hg, rfl, rfl, rfl, rfl⟩ := hrel
  by_cases h0' : gk = 0
  ·
   subst h0'
   have e0 : j / 2 ^ 0 = j := by rw [Nat.pow_zero, Nat.div_one]
   rw [e0]
   clear e0
   go_wp2_with fail
   refine (CF.out _).mono ?_
   rintro e w2 ⟨a3, c3, a4, c4, rfl, hV3, hV4, hb3⟩
   have hw3 := bth hb0 hb3
   have hz3 := hz.below' hb3
   have HV3 := Hd hV3
   have HV4 := Hd hV4
   have hs2 := hb0.size
   have hgl2 := hz.lt
   have z0 := hz3.cell 0; have z1 := hz3.cell 1; have z2 := hz3.cell 2; have f0 := hz3.frozen 0; have f1 := hz3.frozen 1; have f2 := hz3.frozen 2
   clear hV3 hV4 hz
   go_wp2
   have hF := blk3 (x := .bool s) (y := .slice a3 (limbs N).length c3) (z := .slice a4 (limbs D).length c4) hz3
   have e0 := hF.cell 0; have e1 := hF.cell 1; have e2 := hF.cell 2
   refine bodyPost_ret (v := .agg #[.bool s, .slice a3 (limbs N).length c3, .slice a4 (limbs D).length c4]) (by simp [results, Tryz.results20, go_sem, e0, e1, e2]) rfl ?_
   exact ⟨a3, c3, a4, c4, rfl, fun V hV => HV3.out V (back3 hV hs2 hgl2), fun V hV => HV4.out V (back3 hV hs2 hgl2), below3 hw3 (nlr _)⟩
  ·
   obtain ⟨k, rfl⟩ : ∃ k, gk = k + 1 := ⟨gk - 1, by omega⟩
   have e1 : (((k + 1 : Nat) : Int) - 1) = (k : Int) := by omega
   rw [e1]
   have hd := digit_bits j k (by omega)
   have hk62 : (k : Int) <= 62 := by omega
   have hst := sb_step (div_pow_pos HLO.out hg)
   obtain ⟨b1, b2, b3, b4⟩ := HS.out (k + 1)
   obtain ⟨c1, c2, _, _⟩ := HS.out k
   have HK := Hd (show k <= t by omega)
   revert hd hst b1 b2 b3 b4 c1 c2
   generalize (sb (j / 2 ^ (k + 1))).1 = x
   generalize (sb (j / 2 ^ (k + 1))).2 = y
   intro hd hst b1 b2 b3 b4 c1 c2
   rw [hst] at c1 c2
   have HST := Hd hst
   clear e1 h0' hg hst
   by_cases ho : j / 2 ^ k % 2 = 1
   ·
    rw [ho] at hd
    rw [if_pos ho] at c1 c2
    dsimp only at c1 c2
    have HO := Hd ho
    clear ho
    go_wp2
    go_roundg k
    case measure => omega
    case rel => exact ⟨HK.out, by simp, by rw [HST.out, if_pos HO.out]; rfl, by rw [HST.out, if_pos HO.out], rfl⟩
   ·
    have ho2 : j / 2 ^ k % 2 = 0 := by omega
    rw [ho2] at hd
    rw [if_neg ho] at c1 c2
    dsimp only at c1 c2
    have HO := Hd ho
    clear ho ho2
    go_wp2
    go_roundg k
    case measure => omega
    case rel => exact ⟨HK.out, by simp, by rw [HST.out, if_neg HO.out], by rw [HST.out, if_neg HO.out]; exact val_int (by dsimp only; omega), rfl⟩
end Go.Proofs.YtdnblkklgdnapaaGreat
