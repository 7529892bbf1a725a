/- Walks: the program's natural numbers: Sub. -/
import Derived.Test.YtkjnkpkagcboeaaGreatDoorPp7
import Derived.Test.YtkjnkpkagcboeaaGreatDoorPp4
import Derived.Test.YtkjnkpkagcboeaaGreatDoorPp2
import Derived.Test.YtkjnkpkagcboeaaGreatDoorPp6
set_option linter.all false
set_option maxRecDepth 100000
set_option maxHeartbeats 4000000
namespace Go.Proofs.YtkjnkpkagcboeaaGreatDoor
open Go.RowKit
def zval (neg : Bool) (n : Nat) : Int := if neg = true then -(n : Int) else n
def cmpI (a b : Int) : Int := if a < b then -1 else if b < a then 1 else 0
theorem zmulR_any (neg1 neg2 : Bool) (l m : List Int) (n1 n2 : Nat) (a a' : Option Addr) (c c' : Nat) (w : World) (h : NatR w a c l) (h' : NatR w a' c' m) (hn : val l = n1) (hk : val m = n2) (hl : l.length <= 2000000) (hm : m.length <= 2000000) :
  Calls Tryz.prog 129 #[.agg #[.bool neg1, .slice a l.length c], .agg #[.bool neg2, .slice a' m.length c']] w (RetZ ((neg1 != neg2) && decide (0 < n1 * n2)) (n1 * n2) w) := by
 have hll := limbs_len_val h.u16
 have hlm := limbs_len_val h'.u16
 rw [hn] at hll
 rw [hk] at hlm
 have hp := limbs_len_mul n1 n2
 have CM := fun W (hW : Below w.heap.size w W) => mul01_any l m n1 n2 a a' c c' W (h.ext (xbw hW)) (h'.ext (xbw hW)) hn hk (by omega) (by omega)
 have CF := fun a c W h => zofR_any (neg1 != neg2) (limbs (n1 * n2)) (n1 * n2) a c W h (val_limbs _) (by omega)
 obtain ⟨R, hR⟩ : ∃ q, ((neg1 != neg2) && decide (0 < n1 * n2)) = q := ⟨_, rfl⟩
 rw [hR] at CF ⊢
 have hR0 : True := trivial
 revert CM CF
 generalize n1 * n2 = n
 intro CM CF
 replace CM := Hd CM; replace CF := Hd CF
 have hz : Blk (((w.alloc (.cells #[.bool neg1, .slice a l.length c] 52)).alloc (.cells #[.bool neg2, .slice a' m.length c'] 52)).alloc (.cells #[.bool false, .slice none 0 0] 52)) (w.heap.size + 1 + 1) 52 #[.bool false, .slice none 0 0] := blk_at2 w _ _ _ _
 have hx1 : Blk (((w.alloc (.cells #[.bool neg1, .slice a l.length c] 52)).alloc (.cells #[.bool neg2, .slice a' m.length c'] 52)).alloc (.cells #[.bool false, .slice none 0 0] 52)) w.heap.size 52 #[.bool neg1, .slice a l.length c] := ((Blk.new w _ _).alloc _).alloc _
 have hx2 : Blk (((w.alloc (.cells #[.bool neg1, .slice a l.length c] 52)).alloc (.cells #[.bool neg2, .slice a' m.length c'] 52)).alloc (.cells #[.bool false, .slice none 0 0] 52)) (w.heap.size + 1) 52 #[.bool neg2, .slice a' m.length c'] := (blk_at1 w _ _ _).alloc _
 have hb0 : Below w.heap.size w (((w.alloc (.cells #[.bool neg1, .slice a l.length c] 52)).alloc (.cells #[.bool neg2, .slice a' m.length c'] 52)).alloc (.cells #[.bool false, .slice none 0 0] 52)) := by go_grown
 have hgB : w.heap.size <= w.heap.size + 1 + 1 := by omega
 clear h h' hn hk hll hlm hp hR
 go_enter Tryz.func129, Tryz.ntmps129
 go_wp2
 revert hz hx1 hx2 hb0 hgB
 generalize ((w.alloc (.cells #[.bool neg1, .slice a l.length c] 52)).alloc (.cells #[.bool neg2, .slice a' m.length c'] 52)).alloc (.cells #[.bool false, .slice none 0 0] 52) = w0
 generalize w.heap.size + 1 + 1 = g
 intro hz hx1 hx2 hb0 hgB
 have k0 := held (hx1.cell 0); have k1 := held (hx1.cell 1); have k2 := held (hx2.cell 0); have k3 := held (hx2.cell 1)
 have s0 : Below w0.heap.size w0 w0.drew := brf.drew
 have hgl := hz.lt
 have HR := Hd hR0
 clear hR0
 cases neg1 <;> cases neg2
 all_goals
  refine wp_region_mix (S := Below w0.heap.size w0) [(0, .q), (1, .q), (2, .q), (3, .q), (4, .q), (5, .q), (6, .q), (7, .q), (8, .q), (9, .l), (10, .t), (11, .t)] (by kernel_rfl) (by kernel_rfl) (by kernel_rfl) (fun d _ _ _ _ h => by cases d <;> exact h) (s0) ?_
  iterate 9 (refine wpMix_q rfl rfl (fun K hK => ?_); apply Exists.intro; refine ⟨fun w' hw' => ?_, ?_⟩; (focus (go_simp; try rfl)); go_simp; refine hK _ _ ?_; clear hK K)
  refine wpMix_l rfl rfl (fun K hK => ?_)
  go_simp
  refine (CM.out _ (bth hb0 s0)).mono ?_
  rintro r w1 ⟨a3, c3, rfl, hV3, hb1⟩
  dsimp only
  refine hK.out _ _ (bth s0 hb1) (fun _ => ?_)
  clear hK K
  have s1 := bth s0 hb1
  have hr3 := hV3 w1 (New.refl _ _)
  clear hV3
  refine wpMix_t rfl rfl (fun K hK => ?_)
  go_simp
  refine (CF.out _ _ _ hr3).mono ?_
  rintro r w2 ⟨a1, c1, rfl, hV, hb2⟩
  dsimp only
  refine hK.out _ _ ?_
  clear hK K
  have s2 := bth s1 hb2
  have hz3 := hz.below' s2
  have z0 := hz3.cell 0; have z1 := hz3.cell 1; have f0 := hz3.frozen 0; have f1 := hz3.frozen 1
  have hw2 := bth hb0 s2
  have hs1 := (bth hb0 s1).size
  have hg1 : g < w1.heap.size := ltl hgl s1.size
  have HV := Hd hV
  clear hV hr3 k0 k1 k2 k3
  refine wpMix_t rfl rfl (fun K hK => ?_)
  go_simp
  refine hK.out _ _ ?_
  clear hK K
  refine wpMix_nil ?_
  go_wp2
  have hF := blk2 (x := .bool R) (y := .slice a1 (limbs n).length c1) hz3
  have e0 := hF.cell 0; have e1 := hF.cell 1
  refine bodyPost_ret (v := .agg #[.bool R, .slice a1 (limbs n).length c1]) (by simp [results, Tryz.results129, go_sem, e0, e1]) rfl ?_
  exact ⟨a1, c1, rfl, fun V hV => HV.out V (back2 hV hs1 hg1), below2 hw2 hgB⟩
theorem zcmp_cases (neg1 neg2 : Bool) (n1 n2 : Nat) {b1 b2 : Bool} (h1 : (neg1 && decide (0 < n1)) = b1) (h2 : (neg2 && decide (0 < n2)) = b2) :
  cmpI (zval neg1 n1) (zval neg2 n2) = if (b1 && !b2) = true then -1 else if (b2 && !b1) = true then 1 else if b1 = true then cmpN n2 n1 else cmpN n1 n2 := by
 subst h1 h2
 unfold cmpI zval cmpN
 cases neg1 <;> cases neg2 <;> by_cases p1 : 0 < n1 <;> by_cases p2 : 0 < n2 <;> simp [p1, p2]
 all_goals (repeat' split) <;> omega
theorem zcmpR_any (neg1 neg2 : Bool) (l m : List Int) (n1 n2 : Nat) (a a' : Option Addr) (c c' : Nat) (w : World) (h : NatR w a c l) (h' : NatR w a' c' m) (hn : val l = n1) (hk : val m = n2) (hl : l.length <= 4000000) (hm : m.length <= 4000000) :
  Calls Tryz.prog 128 #[.agg #[.bool neg1, .slice a l.length c], .agg #[.bool neg2, .slice a' m.length c']] w fun e w' => e = .returned (.int .i64 (cmpI (zval neg1 n1) (zval neg2 n2))) /\ Below w.heap.size w w' := by
 have hll := limbs_len_val h.u16
 have hlm := limbs_len_val h'.u16
 rw [hn] at hll
 rw [hk] at hlm
 have C1 := fun W (hW : Below w.heap.size w W) => znormR_any neg1 l n1 a c W (h.ext (xbw hW)) hn (by omega)
 have C2 := fun W (hW : Below w.heap.size w W) => znormR_any neg2 m n2 a' c' W (h'.ext (xbw hW)) hk (by omega)
 have CA := fun a1 a2 c1 c2 W h1 h2 => cmp01_any (limbs n1) (limbs n2) a1 a2 c1 c2 W h1 h2 (by omega) (by omega)
 have CB := fun a1 a2 c1 c2 W h1 h2 => cmp01_any (limbs n2) (limbs n1) a1 a2 c1 c2 W h1 h2 (by omega) (by omega)
 simp only [val_limbs] at CA CB
 obtain ⟨b1, hb1'⟩ : ∃ q, (neg1 && decide (0 < n1)) = q := ⟨_, rfl⟩
 obtain ⟨b2, hb2'⟩ : ∃ q, (neg2 && decide (0 < n2)) = q := ⟨_, rfl⟩
 have hres := zcmp_cases neg1 neg2 n1 n2 hb1' hb2'
 rw [hb1'] at C1
 rw [hb2'] at C2
 obtain ⟨R, hR⟩ : ∃ q, cmpI (zval neg1 n1) (zval neg2 n2) = q := ⟨_, rfl⟩
 rw [hR] at hres ⊢
 have HRES := Hd hres
 replace C1 := Hd C1; replace C2 := Hd C2; replace CA := Hd CA; replace CB := Hd CB
 have hx1 : Blk ((w.alloc (.cells #[.bool neg1, .slice a l.length c] 52)).alloc (.cells #[.bool neg2, .slice a' m.length c'] 52)) w.heap.size 52 #[.bool neg1, .slice a l.length c] := (Blk.new w _ _).alloc _
 have hx2 : Blk ((w.alloc (.cells #[.bool neg1, .slice a l.length c] 52)).alloc (.cells #[.bool neg2, .slice a' m.length c'] 52)) (w.heap.size + 1) 52 #[.bool neg2, .slice a' m.length c'] := blk_at1 w _ _ _
 have hb0 : Below w.heap.size w ((w.alloc (.cells #[.bool neg1, .slice a l.length c] 52)).alloc (.cells #[.bool neg2, .slice a' m.length c'] 52)) := by go_grown
 have hgB : w.heap.size < w.heap.size + 1 := by omega
 clear h h' hn hk hll hlm hR hres hb1' hb2'
 go_enter Tryz.func128, Tryz.ntmps128
 go_wp2
 revert hx1 hx2 hb0 hgB
 generalize (w.alloc (.cells #[.bool neg1, .slice a l.length c] 52)).alloc (.cells #[.bool neg2, .slice a' m.length c'] 52) = w0
 generalize w.heap.size + 1 = g
 intro hx1 hx2 hb0 hgB
 have k0 := held (hx1.cell 0); have k1 := held (hx1.cell 1); have k2 := held (hx2.cell 0); have k3 := held (hx2.cell 1)
 have s0 : Below w0.heap.size w0 w0.drew := brf.drew
 have hgl := hx2.lt
 refine wp_region_mix (S := Below w0.heap.size w0) [(0, .q), (2, .q), (1, .l), (3, .t), (4, .t), (5, .t)] (by kernel_rfl) (by kernel_rfl) (by kernel_rfl) (fun d _ _ _ _ h => by cases d <;> exact h) (s0) ?_
 iterate 2 (refine wpMix_q rfl rfl (fun K hK => ?_); apply Exists.intro; refine ⟨fun w' hw' => ?_, ?_⟩; (focus (go_simp; try rfl)); go_simp; refine hK _ _ ?_; clear hK K)
 refine wpMix_l rfl rfl (fun K hK => ?_)
 go_simp
 refine (C1.out _ (bth hb0 s0)).mono ?_
 rintro r w1 ⟨a1, c1, rfl, hV1, hb1⟩
 dsimp only
 refine hK.out _ _ (bth s0 hb1) (fun _ => ?_)
 clear hK K
 have s1 := bth s0 hb1
 refine wpMix_t rfl rfl (fun K hK => ?_)
 go_simp
 refine (C2.out _ (bth hb0 s1)).mono ?_
 rintro r w2 ⟨a2, c2, rfl, hV2, hb2⟩
 dsimp only
 refine hK.out _ _ ?_
 clear hK K
 have s2 := bth s1 hb2
 have hy1 := hx1.below' s2
 have hy2 := hx2.below' s2
 have z0 := hy1.cell 0; have z1 := hy1.cell 1; have z2 := hy2.cell 0; have z3 := hy2.cell 1
 have f0 := hy1.frozen 0; have f1 := hy1.frozen 1; have f2 := hy2.frozen 0; have f3 := hy2.frozen 1
 have hne : ¬ g = w.heap.size := by omega
 have hne2 : ¬ w.heap.size = g := by omega
 have HV1 := Hd hV1
 have HV2 := Hd hV2
 have hw2 := bth hb0 s2
 have hs1 := s1.size
 have hs2 := s2.size
 clear hV1 hV2 k0 k1 k2 k3
 refine wpMix_t rfl rfl (fun K hK => ?_)
 go_simp
 refine hK.out _ _ ?_
 clear hK K
 refine wpMix_t rfl rfl (fun K hK => ?_)
 go_simp
 refine hK.out _ _ ?_
 clear hK K
 refine wpMix_nil ?_
 have hF1 := ((blk2 (x := .bool b1) (y := .slice a1 (limbs n1).length c1) hy1).far (p := ⟨g, 0, none⟩) hne2 (.bool b2)).far (p := ⟨g, 1, none⟩) hne2 (.slice a2 (limbs n2).length c2)
 have hF2 := blk2 (x := .bool b2) (y := .slice a2 (limbs n2).length c2) ((hy2.far (p := ⟨w.heap.size, 0, none⟩) hne (.bool b1)).far (p := ⟨w.heap.size, 1, none⟩) hne (.slice a1 (limbs n1).length c1))
 have hwF := below2 (x := .bool b2) (y := .slice a2 (limbs n2).length c2) (below2 (x := .bool b1) (y := .slice a1 (limbs n1).length c1) hw2 (nlr _)) (Nat.le_of_lt hgB)
 have hN := New.refl w0.heap.size ((((w2.setCell ⟨w.heap.size, 0, none⟩ (.bool b1)).setCell ⟨w.heap.size, 1, none⟩ (.slice a1 (limbs n1).length c1)).setCell ⟨g, 0, none⟩ (.bool b2)).setCell ⟨g, 1, none⟩ (.slice a2 (limbs n2).length c2))
 have hN2 := back2 (back2 hN (nlr _) hgl) (nlr _) hx1.lt
 revert hF1 hF2 hwF hN2
 generalize (((w2.setCell ⟨w.heap.size, 0, none⟩ (.bool b1)).setCell ⟨w.heap.size, 1, none⟩ (.slice a1 (limbs n1).length c1)).setCell ⟨g, 0, none⟩ (.bool b2)).setCell ⟨g, 1, none⟩ (.slice a2 (limbs n2).length c2) = wF
 intro hF1 hF2 hwF hN2
 have r2 := HV2.out wF (hN2.base hs1)
 have r1 := HV1.out wF (hN2.below hb2)
 clear hN hy1 hy2 z0 z1 z2 z3 f0 f1 f2 f3 hx1 hx2 HV1 HV2 s0 s1 s2 hb1 hb2
 have z0 := hF1.cell 0; have z1 := hF1.cell 1; have z2 := hF2.cell 0; have z3 := hF2.cell 1
 have CA2 := CA.out _ _ _ _ wF r1 r2
 have CB2 := CB.out _ _ _ _ wF r2 r1
 replace CA2 := Hd CA2
 replace CB2 := Hd CB2
 clear r1 r2
 cases b1 <;> cases b2
 ·
  obtain rfl : R = cmpN n1 n2 := by simpa using HRES.out
  go_wp2_with fail
  refine CA2.out.mono ?_
  rintro e w5 ⟨rfl, rfl⟩
  go_wp2
  go_ret
  exact ⟨rfl, hwF⟩
 ·
  obtain rfl : R = 1 := by simpa using HRES.out
  go_wp2
  go_ret
  exact ⟨rfl, hwF⟩
 ·
  obtain rfl : R = -1 := by simpa using HRES.out
  go_wp2
  go_ret
  exact ⟨rfl, hwF⟩
 ·
  obtain rfl : R = cmpN n2 n1 := by simpa using HRES.out
  go_wp2_with fail
  refine CB2.out.mono ?_
  rintro e w5 ⟨rfl, rfl⟩
  go_wp2
  go_ret
  exact ⟨rfl, hwF⟩
end Go.Proofs.YtkjnkpkagcboeaaGreatDoor
namespace Go.Proofs.YtkjnkpkagcboeaaGreatDoor
theorem canon_len {l : List Int} (h : U16 l) (hl : l.length <= (limbs (val l)).length) : limbs (val l) = l := by
 obtain ⟨k, hk, e⟩ := trim_some h
 have h1 := congrArg List.length e
 rw [List.length_take] at h1
 rw [e, List.take_of_length_le (by omega)]
theorem sum_none {o : List Int} {n1 n2 : Nat} (hou : U16 o) (hl : o.length = (limbs n1).length) (h : val o = n1 + n2) : limbs (n1 + n2) = o := by
 have h1 := limbs_len_mono (show n1 <= n1 + n2 by omega)
 rw [<- h] at h1 ⊢
 exact canon_len hou (by omega)
theorem sum_carry {o : List Int} {n1 n2 c : Nat} (hou : U16 o) (hc : 0 < c) (hc2 : c <= 65535) (h : val o + 65536 ^ o.length * c = n1 + n2) : limbs (n1 + n2) = o ++ [(c : Int)] := by
 have hv : val (o ++ [(c : Int)]) = n1 + n2 := by rw [val_snoc, <- h]; simp
 rw [<- hv]
 refine limbs_canon (hou.app (U16.cons (by omega) U16.nil)) fun x hx => ?_
 rw [List.getLast?_append] at hx
 simp at hx
 omega
structure MulR (T U O : List Int) (i : Nat) : Prop where
 len : O.length = T.length + U.length
 u16 : U16 O
 sum : val O = val (T.take i) * val U
 far : ∀ j, i + U.length <= j -> j < O.length -> O[j]? = some 0
structure MulI (T U O : List Int) (i k c : Nat) (x : Int) : Prop where
 len : O.length = T.length + U.length
 u16 : U16 O
 car : c <= 65535
 sum : val O + 65536 ^ (i + k) * c = val (T.take i) * val U + 65536 ^ i * (x.toNat * val (U.take k))
 far : ∀ j, i + U.length <= j -> j < O.length -> O[j]? = some 0
theorem MulR.start (T U : List Int) : MulR T U (List.replicate (T.length + U.length) 0) 0 :=
 ⟨by simp, u16_replicate _, by simp [val_replicate, val], fun j _ hl => by simp at hl; rw [List.getElem?_replicate, if_pos hl]⟩
theorem MulR.row {T U O : List Int} {i : Nat} (h : MulR T U O i) (x : Int) : MulI T U O i 0 0 x := ⟨h.len, h.u16, by omega, by simp [h.sum, val], h.far⟩
theorem MulI.next {T U O : List Int} {i k c : Nat} {x z y : Int} (h : MulI T U O i k c x) (hx : 0 <= x /\ x <= 65535) (hk : k < U.length) (hz : O[i + k]? = some z) (hy : U[k]? = some y) (hy2 : 0 <= y /\ y <= 65535)
  {c2 d : Nat} (hd : d + 65536 * c2 = z.toNat + x.toNat * y.toNat + c) (hd2 : d <= 65535) : MulI T U (O.set (i + k) (d : Int)) i (k + 1) c2 x := by
 have hz2 := h.u16.get hz
 refine ⟨by rw [List.length_set]; exact h.len, h.u16.set_ ⟨by omega, by omega⟩, carry_lt (z := z.toNat) (x := x.toNat) (y := y.toNat) (c := c) (d := d) (by omega) (by omega) (by omega) h.car hd, mul_step T U O i k c c2 d z x y hz (limbAt_some hy) h.sum hd, fun j hj hl => ?_⟩
 rw [List.getElem?_set_ne (by omega)]
 exact h.far j hj (by simpa using hl)
theorem MulI.done {T U O : List Int} {i c : Nat} {x : Int} (h : MulI T U O i U.length c x) (hx : T[i]? = some x) : MulR T U (O.set (i + U.length) (c : Int)) (i + 1) := by
 have hi := lt_of_get hx
 have hz := h.far (i + U.length) (nlr _) (by rw [h.len]; omega)
 have h1 := val_set hz (c : Int)
 have h2 := h.sum
 rw [val_take_all (nlr _), mul_end T U i x hx] at h2
 have hc := h.car
 refine ⟨by rw [List.length_set]; exact h.len, h.u16.set_ ⟨by omega, by omega⟩, ?_, fun j hj hl => ?_⟩
 ·
  have e : ((c : Int)).toNat = c := by omega
  rw [e] at h1
  simp only [Int.toNat_zero, Nat.mul_zero, Nat.add_zero] at h1
  omega
 ·
  rw [List.getElem?_set_ne (by omega)]
  exact h.far j (by omega) (by simpa using hl)
theorem MulR.done {T U O : List Int} (h : MulR T U O T.length) : val O = val T * val U := by rw [h.sum, val_take_all (nlr _)]
end Go.Proofs.YtkjnkpkagcboeaaGreatDoor
namespace Go.Proofs.YtkjnkpkagcboeaaGreatDoor
open Go.RowKit
theorem take_set_snoc {O : List Int} {k : Nat} (hk : k < O.length) (d : Int) : (O.set k d).take (k + 1) = O.take k ++ [d] := by
 rw [take_more (xs := O.set k d) (x := d) (by simp [hk]), List.take_set_of_le (nlr _)]
theorem nadd_any (l m : List Int) (n1 n2 : Nat) (a a' : Option Addr) (c c' : Nat) (w : World) (h : NatR w a c l) (h' : NatR w a' c' m) (hn : val l = n1) (hk : val m = n2) (hl : l.length <= 10000000) (hm : m.length <= 10000000) :
  Calls Tryz.prog 190 #[.slice a l.length c, .slice a' m.length c'] w (RetN (limbs (n1 + n2)) w) := by
 have C1 := trim_any l a c w h
 have C2 := trim_any m a' c' w h'
 have hP := h.trim
 have hQ := h'.trim
 have hl1 := limbs_len_val h.u16
 have hl2 := limbs_len_val h'.u16
 rw [hn] at C1 hP hl1
 rw [hk] at C2 hQ hl2
 have hup := limbs_u16 n1
 have huq := limbs_u16 n2
 have hvp := val_limbs n1
 have hvq := val_limbs n2
 obtain ⟨M, hM⟩ : ∃ M, n1 + n2 = M := ⟨_, rfl⟩
 rw [hM]
 have HSUM0 := Hd hM
 have hT0 : (limbs n1).length <= 10000000 := by omega
 have hU0 : (limbs n2).length <= 10000000 := by omega
 clear hl1 hl2 h h' hn hk hM
 obtain ⟨T, hT⟩ : ∃ T, limbs n1 = T := ⟨_, rfl⟩
 obtain ⟨U, hU⟩ : ∃ U, limbs n2 = U := ⟨_, rfl⟩
 have HT := Hd hT
 have HU := Hd hU
 rw [hT] at C1 hP hup hvp hT0
 rw [hU] at C2 hQ huq hvq hU0
 replace C1 := Hd C1; replace C2 := Hd C2
 clear hT hU
 by_cases hcmp : T.length < U.length
 ·
  have HP := Hd hQ
  have HQ := Hd hP
  have HVP := Hd hvq
  have HVQ := Hd hvp
  have HLP : Hid (U.length = (limbs n2).length) := Hd (by rw [HU.out])
  have HSUM : Hid (M = n2 + n1) := Hd (by rw [<- HSUM0.out, Nat.add_comm])
  clear hP hQ hvp hvq
  obtain ⟨hup, huq⟩ := And.intro huq hup
  have hmk := run_make_nat2 .i64 U.length (U.length + 1) (by omega) (by omega) w
  simp only [Int.natCast_add, Int.cast_ofNat_Int] at hmk
  go_enter Tryz.func190, Tryz.ntmps190
  go_wp2_with fail
  refine C1.out.mono ?_
  rintro e w1 ⟨rfl, rfl⟩
  go_wp2_with fail
  refine C2.out.mono ?_
  rintro e w1 ⟨rfl, rfl⟩
  go_wp2
  clear hmk C1 C2
  have hz0 := BlkN.new w (U.length + 1)
  have hb0 : Below w.heap.size w (w.alloc (.cells (madeCells #[.int .u16 0] (U.length + 1)) 47)) := brf.alloc (nlr _) _
  have hz : RowN (w.alloc (.cells (madeCells #[.int .u16 0] (U.length + 1)) 47)) w.heap.size (List.replicate U.length 0) [.int .u16 0] := by
   have h1 := (RowN.of hz0).cut U.length
   have e1 : (List.replicate (U.length + 1) (0 : Int)).take U.length = List.replicate U.length 0 := by rw [List.take_replicate]; congr 1; omega
   have e2 : (List.replicate (U.length + 1) (0 : Int)).drop U.length = [0] := by rw [List.drop_replicate, show U.length + 1 - U.length = 1 by omega]; rfl
   rw [e1, e2] at h1
   exact h1
  clear hz0
  revert hz hb0
  generalize w.alloc (.cells (madeCells #[.int .u16 0] (U.length + 1)) 47) = w0
  intro hb0 hz
  go_loopg [6, 7, 8, 28] U.length (fun g s6 _ _ s28 wr => ∃ (k cc : Nat) (O : List Int), k + g = U.length /\ s28 = .int .i64 k /\ s6 = .int .u32 cc /\ cc <= 1 /\ Hid (O.length = U.length) /\ U16 O /\ RowN wr w.heap.size O [.int .u16 0] /\ Below w.heap.size w wr /\
   Hid (val (O.take k) + 65536 ^ k * cc = val (U.take k) + val (T.take k)))
  case atStart => exact ⟨0, 0, _, by omega, rfl, rfl, by omega, by show _ = _; simp, u16_replicate _, hz, hb0, by show _ = _; simp [val]⟩
  case round =>
   clear hz hb0
   obtain ⟨k, cc, O, hkg, rfl, rfl, hc1, hol, hou, hrow, hwr, hval⟩ := hrel
   have HROW := Hd hrow
   have HKG := Hd hkg
   clear hrow hkg
   by_cases hlt : k < U.length
   ·
    obtain ⟨x, hx⟩ := get_of_lt hlt
    obtain ⟨hx0, hx1⟩ := hup.get hx
    obtain ⟨bp, op, rfl, hcp⟩ := (HP.out.ext (xbw hwr)).cell hx
    have hkO : k < O.length := by rw [hol.out]; exact hlt
    obtain ⟨z, hz⟩ := get_of_lt hkO
    have hcell := HROW.out.cell hz
    have hfr := HROW.out.frozen k
    have hsx := limbAt_some hx
    have hset := fun q : Int => HROW.out.set_ hkO q
    have HSET := Hd hset
    have htk := fun q : Int => take_set_snoc hkO q
    have hstep := fun c2 d h1 => add_step U T (O.take k) k cc c2 d (by rw [List.length_take]; omega) hval.out h1
    rw [hsx] at hstep
    obtain ⟨y, rfl⟩ : ∃ y : Nat, x = (y : Int) := ⟨x.toNat, by omega⟩
    rw [Int.toNat_natCast] at hstep
    have HTK := Hd htk
    have HSTEP := Hd hstep
    clear hset hstep htk hval hx hsx hz
    by_cases hkn : k < T.length
    ·
     obtain ⟨t, ht⟩ := get_of_lt hkn
     obtain ⟨bq, oq, rfl, hcq⟩ := (HQ.out.ext (xbw hwr)).cell ht
     obtain ⟨ht0, ht1⟩ := huq.get ht
     obtain ⟨t, rfl⟩ : ∃ s : Nat, t = (s : Int) := ⟨t.toNat, by omega⟩
     have HST := HSTEP.out
     rw [limbAt_some ht, Int.toNat_natCast] at HST
     obtain ⟨lo, hlo⟩ : ∃ lo, (cc + y + t) % 65536 = lo := ⟨_, rfl⟩
     obtain ⟨c2, hc2⟩ : ∃ c2, (cc + y + t) / 65536 = c2 := ⟨_, rfl⟩
     have hw1 : IntKind.u16.wrap ((cc : Int) + (y : Int) + (t : Int)) = (lo : Int) := by
      have := wrap16 (cc + y + t)
      rw [hlo] at this
      rw [<- this]
      simp
     have hw2 : ((cc : Int) + (y : Int) + (t : Int)) / 65536 = (c2 : Int) := by omega
     have hlo1 : lo <= 65535 := by omega
     have hc21 : c2 <= 1 := by omega
     replace HST := Hd (HST c2 lo (by omega))
     clear ht hlo hc2 HSTEP
     go_wp2
     go_roundg (gk - 1)
     case rel => exact ⟨k + 1, c2, O.set k (lo : Int), by have := HKG.out; omega, by go_num, rfl, by omega, by show _ = _; rw [List.length_set]; exact hol.out, hou.set_ (by omega), HSET.out lo, hwr.setCell (nlr _) _, by show _ = _; rw [HTK.out]; exact HST.out⟩
     case measure => have := HKG.out; omega
    ·
     have HST := HSTEP.out
     rw [limbAt_none (by omega)] at HST
     obtain ⟨lo, hlo⟩ : ∃ lo, (cc + y) % 65536 = lo := ⟨_, rfl⟩
     obtain ⟨c2, hc2⟩ : ∃ c2, (cc + y) / 65536 = c2 := ⟨_, rfl⟩
     have hw1 : IntKind.u16.wrap ((cc : Int) + (y : Int)) = (lo : Int) := by
      have := wrap16 (cc + y)
      rw [hlo] at this
      rw [<- this]
      simp
     have hw2 : ((cc : Int) + (y : Int)) / 65536 = (c2 : Int) := by omega
     have hlo1 : lo <= 65535 := by omega
     have hc21 : c2 <= 1 := by omega
     replace HST := Hd (HST c2 lo (by simp; omega))
     clear hlo hc2 HSTEP
     go_wp2
     go_roundg (gk - 1)
     case rel => exact ⟨k + 1, c2, O.set k (lo : Int), by have := HKG.out; omega, by go_num, rfl, by omega, by show _ = _; rw [List.length_set]; exact hol.out, hou.set_ (by omega), HSET.out lo, hwr.setCell (nlr _) _, by show _ = _; rw [HTK.out]; exact HST.out⟩
     case measure => have := HKG.out; omega
   ·
    obtain rfl : k = U.length := by have := HKG.out; omega
    have hfin : val O + 65536 ^ O.length * cc = n2 + n1 := by
     have h1 := hval.out
     rw [val_take_all (by rw [hol.out]; omega), val_take_all (nlr _), val_take_all (by omega), HVP.out, HVQ.out] at h1
     rw [hol.out]
     exact h1
    have hown : OwnN w.heap.size wr (some ⟨w.heap.size, 0, none⟩) (U.length + 1) O := by
     have h1 := HROW.out.own (nlr _) (c := U.length + 1) (by rw [hol.out]; rfl) (by unfold maxLen; omega) O.length (nlr _)
     rwa [List.take_length] at h1
    have HOWN := Hd hown
    have HFIN := Hd hfin
    clear hown hfin hval
    by_cases hcz : cc = 0
    ·
     subst hcz
     have hres : limbs (n2 + n1) = O := by
      have h1 := HFIN.out
      rw [Nat.mul_zero, Nat.add_zero] at h1
      exact sum_none hou (by rw [hol.out, HLP.out]) h1
     have HRES := Hd hres
     clear hres
     go_wp2
     go_ret
     refine RetN.own (l := O) HOWN.out hou hwr (by rw [HSUM.out]; exact HRES.out) (hol.out.symm)
    ·
     have hres : limbs (n2 + n1) = O ++ [(cc : Int)] := sum_carry hou (by omega) (by omega) HFIN.out
     have HRES := Hd hres
     have HLO : Hid ((O ++ [(cc : Int)]).length <= 16777216) := Hd (by rw [List.length_append, hol.out]; simp; omega)
     obtain rfl : cc = 1 := by omega
     have hown2 := HOWN.out
     have hoL := hol.out
     have hltO : ¬ O.length < O.length := Nat.lt_irrefl _
     rw [<- hoL] at hown2 ⊢
     obtain ⟨cO, hcO⟩ : ∃ q, O.length + 1 = q := ⟨_, rfl⟩
     rw [hcO] at hown2 ⊢
     replace HOWN := Hd hown2
     replace hoL := Hd hoL
     clear hres hown2 hcz hcO
     go_wp2_with (at_builtin; go_must (refine append_nat rfl (.tmp 58) (.tmp 61) rfl (some ⟨w.heap.size, 0, none⟩) cO rfl (HOWN.out.alloc _) ((1 : Nat) : Int) wr.heap.size 1 rfl (by simp) (O ++ [((1 : Nat) : Int)]) rfl HLO.out (by have := hwr.size; simp; omega) ?_); intro a2 c2 w2 ho2 hg2 hx2)
     go_ret
     exact RetN.own ho2 (hou.app (U16.cons (by omega) U16.nil)) (below_append' (hwr.alloc hwr.size _) (HOWN.out.alloc _) hg2) (by rw [HSUM.out]; exact HRES.out) (by simp)
 ·
  have HP := Hd hP
  have HQ := Hd hQ
  have HVP := Hd hvp
  have HVQ := Hd hvq
  have HLP : Hid (T.length = (limbs n1).length) := Hd (by rw [HT.out])
  have HSUM : Hid (M = n1 + n2) := Hd HSUM0.out.symm
  clear hP hQ hvp hvq
  have hmk := run_make_nat2 .i64 T.length (T.length + 1) (by omega) (by omega) w
  simp only [Int.natCast_add, Int.cast_ofNat_Int] at hmk
  go_enter Tryz.func190, Tryz.ntmps190
  go_wp2_with fail
  refine C1.out.mono ?_
  rintro e w1 ⟨rfl, rfl⟩
  go_wp2_with fail
  refine C2.out.mono ?_
  rintro e w1 ⟨rfl, rfl⟩
  go_wp2
  clear hmk C1 C2
  have hz0 := BlkN.new w (T.length + 1)
  have hb0 : Below w.heap.size w (w.alloc (.cells (madeCells #[.int .u16 0] (T.length + 1)) 47)) := brf.alloc (nlr _) _
  have hz : RowN (w.alloc (.cells (madeCells #[.int .u16 0] (T.length + 1)) 47)) w.heap.size (List.replicate T.length 0) [.int .u16 0] := by
   have h1 := (RowN.of hz0).cut T.length
   have e1 : (List.replicate (T.length + 1) (0 : Int)).take T.length = List.replicate T.length 0 := by rw [List.take_replicate]; congr 1; omega
   have e2 : (List.replicate (T.length + 1) (0 : Int)).drop T.length = [0] := by rw [List.drop_replicate, show T.length + 1 - T.length = 1 by omega]; rfl
   rw [e1, e2] at h1
   exact h1
  clear hz0
  revert hz hb0
  generalize w.alloc (.cells (madeCells #[.int .u16 0] (T.length + 1)) 47) = w0
  intro hb0 hz
  go_loopg [6, 7, 8, 28] T.length (fun g s6 _ _ s28 wr => ∃ (k cc : Nat) (O : List Int), k + g = T.length /\ s28 = .int .i64 k /\ s6 = .int .u32 cc /\ cc <= 1 /\ Hid (O.length = T.length) /\ U16 O /\ RowN wr w.heap.size O [.int .u16 0] /\ Below w.heap.size w wr /\
   Hid (val (O.take k) + 65536 ^ k * cc = val (T.take k) + val (U.take k)))
  case atStart => exact ⟨0, 0, _, by omega, rfl, rfl, by omega, by show _ = _; simp, u16_replicate _, hz, hb0, by show _ = _; simp [val]⟩
  case round =>
   clear hz hb0
   obtain ⟨k, cc, O, hkg, rfl, rfl, hc1, hol, hou, hrow, hwr, hval⟩ := hrel
   have HROW := Hd hrow
   have HKG := Hd hkg
   clear hrow hkg
   by_cases hlt : k < T.length
   ·
    obtain ⟨x, hx⟩ := get_of_lt hlt
    obtain ⟨hx0, hx1⟩ := hup.get hx
    obtain ⟨bp, op, rfl, hcp⟩ := (HP.out.ext (xbw hwr)).cell hx
    have hkO : k < O.length := by rw [hol.out]; exact hlt
    obtain ⟨z, hz⟩ := get_of_lt hkO
    have hcell := HROW.out.cell hz
    have hfr := HROW.out.frozen k
    have hsx := limbAt_some hx
    have hset := fun q : Int => HROW.out.set_ hkO q
    have HSET := Hd hset
    have htk := fun q : Int => take_set_snoc hkO q
    have hstep := fun c2 d h1 => add_step T U (O.take k) k cc c2 d (by rw [List.length_take]; omega) hval.out h1
    rw [hsx] at hstep
    obtain ⟨y, rfl⟩ : ∃ y : Nat, x = (y : Int) := ⟨x.toNat, by omega⟩
    rw [Int.toNat_natCast] at hstep
    have HTK := Hd htk
    have HSTEP := Hd hstep
    clear hset hstep htk hval hx hsx hz
    by_cases hkn : k < U.length
    ·
     obtain ⟨t, ht⟩ := get_of_lt hkn
     obtain ⟨bq, oq, rfl, hcq⟩ := (HQ.out.ext (xbw hwr)).cell ht
     obtain ⟨ht0, ht1⟩ := huq.get ht
     obtain ⟨t, rfl⟩ : ∃ s : Nat, t = (s : Int) := ⟨t.toNat, by omega⟩
     have HST := HSTEP.out
     rw [limbAt_some ht, Int.toNat_natCast] at HST
     obtain ⟨lo, hlo⟩ : ∃ lo, (cc + y + t) % 65536 = lo := ⟨_, rfl⟩
     obtain ⟨c2, hc2⟩ : ∃ c2, (cc + y + t) / 65536 = c2 := ⟨_, rfl⟩
     have hw1 : IntKind.u16.wrap ((cc : Int) + (y : Int) + (t : Int)) = (lo : Int) := by
      have := wrap16 (cc + y + t)
      rw [hlo] at this
      rw [<- this]
      simp
     have hw2 : ((cc : Int) + (y : Int) + (t : Int)) / 65536 = (c2 : Int) := by omega
     have hlo1 : lo <= 65535 := by omega
     have hc21 : c2 <= 1 := by omega
     replace HST := Hd (HST c2 lo (by omega))
     clear ht hlo hc2 HSTEP
     go_wp2
     go_roundg (gk - 1)
     case rel => exact ⟨k + 1, c2, O.set k (lo : Int), by have := HKG.out; omega, by go_num, rfl, by omega, by show _ = _; rw [List.length_set]; exact hol.out, hou.set_ (by omega), HSET.out lo, hwr.setCell (nlr _) _, by show _ = _; rw [HTK.out]; exact HST.out⟩
     case measure => have := HKG.out; omega
    ·
     have HST := HSTEP.out
     rw [limbAt_none (by omega)] at HST
     obtain ⟨lo, hlo⟩ : ∃ lo, (cc + y) % 65536 = lo := ⟨_, rfl⟩
     obtain ⟨c2, hc2⟩ : ∃ c2, (cc + y) / 65536 = c2 := ⟨_, rfl⟩
     have hw1 : IntKind.u16.wrap ((cc : Int) + (y : Int)) = (lo : Int) := by
      have := wrap16 (cc + y)
      rw [hlo] at this
      rw [<- this]
      simp
     have hw2 : ((cc : Int) + (y : Int)) / 65536 = (c2 : Int) := by omega
     have hlo1 : lo <= 65535 := by omega
     have hc21 : c2 <= 1 := by omega
     replace HST := Hd (HST c2 lo (by simp; omega))
     clear hlo hc2 HSTEP
     go_wp2
     go_roundg (gk - 1)
     case rel => exact ⟨k + 1, c2, O.set k (lo : Int), by have := HKG.out; omega, by go_num, rfl, by omega, by show _ = _; rw [List.length_set]; exact hol.out, hou.set_ (by omega), HSET.out lo, hwr.setCell (nlr _) _, by show _ = _; rw [HTK.out]; exact HST.out⟩
     case measure => have := HKG.out; omega
   ·
    obtain rfl : k = T.length := by have := HKG.out; omega
    have hfin : val O + 65536 ^ O.length * cc = n1 + n2 := by
     have h1 := hval.out
     rw [val_take_all (by rw [hol.out]; omega), val_take_all (nlr _), val_take_all (by omega), HVP.out, HVQ.out] at h1
     rw [hol.out]
     exact h1
    have hown : OwnN w.heap.size wr (some ⟨w.heap.size, 0, none⟩) (T.length + 1) O := by
     have h1 := HROW.out.own (nlr _) (c := T.length + 1) (by rw [hol.out]; rfl) (by unfold maxLen; omega) O.length (nlr _)
     rwa [List.take_length] at h1
    have HOWN := Hd hown
    have HFIN := Hd hfin
    clear hown hfin hval
    by_cases hcz : cc = 0
    ·
     subst hcz
     have hres : limbs (n1 + n2) = O := by
      have h1 := HFIN.out
      rw [Nat.mul_zero, Nat.add_zero] at h1
      exact sum_none hou (by rw [hol.out, HLP.out]) h1
     have HRES := Hd hres
     clear hres
     go_wp2
     go_ret
     refine RetN.own (l := O) HOWN.out hou hwr (by rw [HSUM.out]; exact HRES.out) (hol.out.symm)
    ·
     have hres : limbs (n1 + n2) = O ++ [(cc : Int)] := sum_carry hou (by omega) (by omega) HFIN.out
     have HRES := Hd hres
     have HLO : Hid ((O ++ [(cc : Int)]).length <= 16777216) := Hd (by rw [List.length_append, hol.out]; simp; omega)
     obtain rfl : cc = 1 := by omega
     have hown2 := HOWN.out
     have hoL := hol.out
     have hltO : ¬ O.length < O.length := Nat.lt_irrefl _
     rw [<- hoL] at hown2 ⊢
     obtain ⟨cO, hcO⟩ : ∃ q, O.length + 1 = q := ⟨_, rfl⟩
     rw [hcO] at hown2 ⊢
     replace HOWN := Hd hown2
     replace hoL := Hd hoL
     clear hres hown2 hcz hcO
     go_wp2_with (at_builtin; go_must (refine append_nat rfl (.tmp 58) (.tmp 61) rfl (some ⟨w.heap.size, 0, none⟩) cO rfl (HOWN.out.alloc _) ((1 : Nat) : Int) wr.heap.size 1 rfl (by simp) (O ++ [((1 : Nat) : Int)]) rfl HLO.out (by have := hwr.size; simp; omega) ?_); intro a2 c2 w2 ho2 hg2 hx2)
     go_ret
     exact RetN.own ho2 (hou.app (U16.cons (by omega) U16.nil)) (below_append' (hwr.alloc hwr.size _) (HOWN.out.alloc _) hg2) (by rw [HSUM.out]; exact HRES.out) (by simp)
theorem nmul_zero (l m : List Int) (n1 n2 : Nat) (a a' : Option Addr) (c c' : Nat) (w : World) (h : NatR w a c l) (h' : NatR w a' c' m) (hn : val l = n1) (hk : val m = n2) (h0 : n1 = 0 \/ n2 = 0) :
  Calls Tryz.prog 125 #[.slice a l.length c, .slice a' m.length c'] w (RetN [] w) := by
 have C1 := trim_any l a c w h
 have C2 := trim_any m a' c' w h'
 rw [hn] at C1
 rw [hk] at C2
 have hp1 := limbs_len_pos (n := n1)
 have hp2 := limbs_len_pos (n := n2)
 have hle := h'.len
 have hle2 := limbs_len_val h'.u16
 rw [hk] at hle2
 clear h h' hn hk
 revert C1 C2 hp1 hp2 hle2
 generalize (limbs n1).length = T
 generalize (limbs n2).length = U
 intro C1 C2 hp1 hp2 hle2
 replace C1 := Hd C1; replace C2 := Hd C2
 by_cases hT : T = 0
 ·
  have hT1 : ((T : Int) == 0) = true := by rw [beq_iff_eq]; omega
  clear hp1 hp2 h0 hT
  go_enter Tryz.func125, Tryz.ntmps125
  go_wp2_with fail
  refine C1.out.mono ?_
  rintro e w1 ⟨rfl, rfl⟩
  go_wp2_with fail
  refine C2.out.mono ?_
  rintro e w1 ⟨rfl, rfl⟩
  go_wp2
  go_ret
  exact ⟨none, 0, rfl, fun _ _ => SlR.nil, Below.refl _ _⟩
 ·
  have hT1 : ((T : Int) == 0) = false := by rw [beq_eq_false_iff_ne]; omega
  have hU1 : ((U : Int) == 0) = true := by rw [beq_iff_eq]; omega
  clear hp1 hp2 h0 hT
  go_enter Tryz.func125, Tryz.ntmps125
  go_wp2_with fail
  refine C1.out.mono ?_
  rintro e w1 ⟨rfl, rfl⟩
  go_wp2_with fail
  refine C2.out.mono ?_
  rintro e w1 ⟨rfl, rfl⟩
  go_wp2
  go_ret
  exact ⟨none, 0, rfl, fun _ _ => SlR.nil, Below.refl _ _⟩
theorem nmul_pos (l m : List Int) (n1 n2 : Nat) (a a' : Option Addr) (c c' : Nat) (w : World) (h : NatR w a c l) (h' : NatR w a' c' m) (hn : val l = n1) (hk : val m = n2) (hl : l.length <= 8000000) (hm : m.length <= 8000000) (h1 : n1 ≠ 0) (h2 : n2 ≠ 0) :
  Calls Tryz.prog 125 #[.slice a l.length c, .slice a' m.length c'] w (RetN (limbs (n1 * n2)) w) := by
 have C1 := trim_any l a c w h
 have C2 := trim_any m a' c' w h'
 have hP := h.trim
 have hQ := h'.trim
 have hl1 := limbs_len_val h.u16
 have hl2 := limbs_len_val h'.u16
 rw [hn] at C1 hP hl1
 rw [hk] at C2 hQ hl2
 have hup := limbs_u16 n1
 have huq := limbs_u16 n2
 have hvp := val_limbs n1
 have hvq := val_limbs n2
 have hp1 := limbs_len_pos.2 (show 0 < n1 by omega)
 have hp2 := limbs_len_pos.2 (show 0 < n2 by omega)
 obtain ⟨M, hM⟩ : ∃ M, n1 * n2 = M := ⟨_, rfl⟩
 rw [hM]
 have HM := Hd hM
 have hT0 : (limbs n1).length <= 8000000 := by omega
 have hU0 : (limbs n2).length <= 8000000 := by omega
 clear hl1 hl2 h h' hn hk hM h1 h2
 revert C1 C2 hP hQ hup huq hvp hvq hp1 hp2 hT0 hU0
 generalize limbs n1 = T
 generalize limbs n2 = U
 intro C1 C2 hP hQ hup huq hvp hvq hp1 hp2 hT0 hU0
 have HP := Hd hP
 have HQ := Hd hQ
 have HVP := Hd hvp
 have HVQ := Hd hvq
 have HUP := Hd hup
 have HUQ := Hd huq
 replace C1 := Hd C1; replace C2 := Hd C2
 have hT1 : ((T.length : Int) == 0) = false := by rw [beq_eq_false_iff_ne]; omega
 have hU1 : ((U.length : Int) == 0) = false := by rw [beq_eq_false_iff_ne]; omega
 have hmk : ∀ w, (Instr.makeSlice 50 (.int .i64 ((T.length : Int) + U.length)) (.int .i64 ((T.length : Int) + U.length))).run Tryz.prog w = .ok (.slice (some ⟨w.heap.size, 0, none⟩) (T.length + U.length) (T.length + U.length)) (w.alloc (.cells (madeCells #[.int .u16 0] (T.length + U.length)) 47)) := fun w => by
  have := run_make_nat .i64 (T.length + U.length) (by omega) w
  simpa using this
 clear hP hQ hvp hvq hup huq
 go_enter Tryz.func125, Tryz.ntmps125
 go_wp2_with fail
 refine C1.out.mono ?_
 rintro e w1 ⟨rfl, rfl⟩
 go_wp2_with fail
 refine C2.out.mono ?_
 rintro e w1 ⟨rfl, rfl⟩
 go_wp2
 clear hmk C1 C2 hT1 hU1
 have hz := BlkN.new w (T.length + U.length)
 have hb0 : Below w.heap.size w (w.alloc (.cells (madeCells #[.int .u16 0] (T.length + U.length)) 47)) := brf.alloc (nlr _) _
 revert hz hb0
 generalize w.alloc (.cells (madeCells #[.int .u16 0] (T.length + U.length)) 47) = w0
 intro hz hb0
 go_loopg [6, 7, 8, 9, 10, 31] T.length (fun g _ _ _ _ _ s31 wr => ∃ (i : Nat) (O : List Int), i + g = T.length /\ s31 = .int .i64 i /\ Hid (MulR T U O i) /\ BlkN wr w.heap.size O /\ Below w.heap.size w wr)
 case atStart => exact ⟨0, _, by omega, rfl, MulR.start T U, hz, hb0⟩
 case round =>
  clear hz hb0
  obtain ⟨i, O, hig, rfl, hR, hrow, hwr⟩ := hrel
  have HROW := Hd hrow
  have HIG := Hd hig
  clear hrow hig
  by_cases hlt : i < T.length
  ·
   obtain ⟨x, hx⟩ := get_of_lt hlt
   obtain ⟨hx0, hx1⟩ := HUP.out.get hx
   obtain ⟨bp, op, rfl, hcp⟩ := (HP.out.ext (xbw hwr)).cell hx
   have hI := hR.out.row x
   have HX := Hd hx
   have HI := Hd hI
   clear hx hI hR
   go_wp2
   clear hcp
   obtain ⟨wo, rfl⟩ : ∃ wo : World, wo = wr := ⟨_, rfl⟩
   obtain ⟨gk0, rfl⟩ : ∃ gk0 : Nat, gk0 = gk := ⟨_, rfl⟩
   go_loopg [8, 9, 10, 38] U.length (fun g s8 _ _ s38 w2 => ∃ (k cc : Nat) (O2 : List Int), k + g = U.length /\ s38 = .int .i64 k /\ s8 = .int .u32 cc /\ cc <= 65535 /\ Hid (MulI T U O2 i k cc x) /\ BlkN w2 w.heap.size O2 /\ Below w.heap.size w w2)
   case atStart => exact ⟨0, 0, O, by omega, rfl, rfl, by omega, HI.out, HROW.out, hwr⟩
   case round =>
    clear HI HROW hwr O
    obtain ⟨k, cc, O, hkg, rfl, rfl, hcc, hI, hrow, hwr⟩ := hrel
    have HROW := Hd hrow
    have HKG := Hd hkg
    clear hrow hkg
    by_cases hkn : k < U.length
    ·
     obtain ⟨y, hy⟩ := get_of_lt hkn
     obtain ⟨hy0, hy1⟩ := HUQ.out.get hy
     obtain ⟨bq, oq, rfl, hcq⟩ := (HQ.out.ext (xbw hwr)).cell hy
     obtain ⟨z, hz⟩ := get_of_lt (xs := O) (k := i + k) (by rw [hI.out.len]; omega)
     obtain ⟨hz0, hz1⟩ := hI.out.u16.get hz
     have hcell := HROW.out.cell hz
     have hfr := HROW.out.frozen (i + k)
     have hset := fun q : Int => HROW.out.set_ (i + k) q
     have HSET := Hd hset
     have hstep := fun (c2 d : Nat) => hI.out.next ⟨hx0, hx1⟩ hkn hz hy ⟨hy0, hy1⟩ (c2 := c2) (d := d)
     have hI2 : (i : Int) + k < (T.length : Int) + U.length := by omega
     have hxy : 0 <= x * y := Int.mul_nonneg hx0 hy0
     have hxy2 : x * y <= 4294836225 := by
      have := Int.mul_le_mul hx1 hy1 hy0 (by omega)
      omega
     obtain ⟨s, hs⟩ : ∃ s : Nat, (cc : Int) + (z + x * y) = (s : Int) := ⟨((cc : Int) + (z + x * y)).toNat, by omega⟩
     have hs2 : s = z.toNat + x.toNat * y.toNat + cc := by
      have ex : (x.toNat : Int) = x := by omega
      have ey : (y.toNat : Int) = y := by omega
      have ez : (z.toNat : Int) = z := by omega
      have : ((z.toNat + x.toNat * y.toNat + cc : Nat) : Int) = z + x * y + cc := by
       rw [Int.natCast_add, Int.natCast_add, Int.natCast_mul, ex, ey, ez]
      omega
     have hslt : s < 4294967296 := by omega
     obtain ⟨lo, hlo⟩ : ∃ lo, s % 65536 = lo := ⟨_, rfl⟩
     obtain ⟨c2, hc2⟩ : ∃ c2, s / 65536 = c2 := ⟨_, rfl⟩
     have HST := Hd (hstep c2 lo (by omega) (by omega))
     have hw16 : IntKind.u16.wrap (s : Int) = (lo : Int) := by rw [wrap16, hlo]
     have hdv : (s : Int) / 65536 = (c2 : Int) := by omega
     have hlo2 : lo <= 65535 := by omega
     have hc22 : c2 <= 65535 := by omega
     clear hset hstep hz hy hs2 hlo hc2 hI
     go_wp2
     go_roundg (gk - 1)
     case rel => exact ⟨k + 1, c2, O.set (i + k) (lo : Int), by have := HKG.out; omega, by go_num, rfl, by omega, HST.out, HSET.out lo, hwr.setCell (nlr _) _⟩
     case measure => have := HKG.out; omega
    ·
     obtain rfl : k = U.length := by have := HKG.out; omega
     have hdone := hI.out.done HX.out
     have HD := Hd hdone
     obtain ⟨z, hz⟩ := get_of_lt (xs := O) (k := i + U.length) (by rw [hI.out.len]; omega)
     have hcell := HROW.out.cell hz
     have hfr := HROW.out.frozen (i + U.length)
     have hset := fun q : Int => HROW.out.set_ (i + U.length) q
     have HSET := Hd hset
     have hI2 : (i : Int) + U.length < (T.length : Int) + U.length := by omega
     have hw16 : IntKind.u16.wrap (cc : Int) = (cc : Int) := by rw [wrap16, Nat.mod_eq_of_lt (by omega)]
     clear hset hz hdone hI
     go_wp2
     go_roundg (gk0 - 1)
     case rel => exact ⟨i + 1, O.set (i + U.length) (cc : Int), by have := HIG.out; omega, by go_num, HD.out, HSET.out cc, hwr.setCell (nlr _) _⟩
     case measure => have := HIG.out; omega
  ·
   obtain rfl : i = T.length := by have := HIG.out; omega
   have hvO : val O = M := by rw [hR.out.done, HVP.out, HVQ.out]; exact HM.out
   have hol := hR.out.len
   have hou := hR.out.u16
   have hcap : T.length + U.length <= maxLen := by unfold maxLen; omega
   have CT := trim_any O (some ⟨w.heap.size, 0, none⟩) (T.length + U.length) wr (HROW.out.readsV (nlr _) (New.refl _ _) hou (by rw [hol]; omega) hcap)
   have hread : ∀ V, New w.heap.size wr V -> NatR V (some ⟨w.heap.size, 0, none⟩) (T.length + U.length) (limbs M) := fun V hV => by
    rw [<- hvO]
    exact (HROW.out.readsV (nlr _) hV hou (by rw [hol]; omega) hcap).trim
   rw [hvO, hol] at CT
   have HRD := Hd hread
   replace CT := Hd CT
   clear hread hvO hR hol
   go_wp2_with fail
   refine CT.out.mono ?_
   rintro e w3 ⟨rfl, rfl⟩
   go_wp2
   go_ret
   exact ⟨_, _, rfl, HRD.out, hwr⟩
theorem nmul_any (l m : List Int) (n1 n2 : Nat) (a a' : Option Addr) (c c' : Nat) (w : World) (h : NatR w a c l) (h' : NatR w a' c' m) (hn : val l = n1) (hk : val m = n2) (hl : l.length <= 8000000) (hm : m.length <= 8000000) :
  Calls Tryz.prog 125 #[.slice a l.length c, .slice a' m.length c'] w (RetN (limbs (n1 * n2)) w) := by
 by_cases h1 : n1 = 0
 ·
  rw [h1, Nat.zero_mul, limbs_zero]
  exact nmul_zero l m n1 n2 a a' c c' w h h' hn hk (.inl h1)
 ·
  by_cases h2 : n2 = 0
  ·
   rw [h2, Nat.mul_zero, limbs_zero]
   exact nmul_zero l m n1 n2 a a' c c' w h h' hn hk (.inr h2)
  · exact nmul_pos l m n1 n2 a a' c c' w h h' hn hk hl hm h1 h2
theorem zmul_any (neg1 neg2 : Bool) (l m : List Int) (n1 n2 : Nat) (a a' : Option Addr) (c c' : Nat) (w : World) (h : NatR w a c l) (h' : NatR w a' c' m) (hn : val l = n1) (hk : val m = n2) (hl : l.length <= 2000000) (hm : m.length <= 2000000) :
  Calls Tryz.prog 123 #[.agg #[.bool neg1, .slice a l.length c], .agg #[.bool neg2, .slice a' m.length c']] w (RetZ ((neg1 != neg2) && decide (0 < n1 * n2)) (n1 * n2) w) := by
 have CM := fun W (hW : Below w.heap.size w W) => nmul_any l m n1 n2 a a' c c' W (h.ext (xbw hW)) (h'.ext (xbw hW)) hn hk (by omega) (by omega)
 have CF := fun a c W => made_any (neg1 != neg2) (n1 * n2) a c W
 obtain ⟨R, hR⟩ : ∃ q, ((neg1 != neg2) && decide (0 < n1 * n2)) = q := ⟨_, rfl⟩
 rw [hR] at CF ⊢
 have hR0 : True := trivial
 revert CM CF
 generalize n1 * n2 = n
 intro CM CF
 replace CM := Hd CM; replace CF := Hd CF
 have hz : Blk (((w.alloc (.cells #[.bool neg1, .slice a l.length c] 52)).alloc (.cells #[.bool neg2, .slice a' m.length c'] 52)).alloc (.cells #[.bool false, .slice none 0 0] 52)) (w.heap.size + 1 + 1) 52 #[.bool false, .slice none 0 0] := blk_at2 w _ _ _ _
 have hx1 : Blk (((w.alloc (.cells #[.bool neg1, .slice a l.length c] 52)).alloc (.cells #[.bool neg2, .slice a' m.length c'] 52)).alloc (.cells #[.bool false, .slice none 0 0] 52)) w.heap.size 52 #[.bool neg1, .slice a l.length c] := ((Blk.new w _ _).alloc _).alloc _
 have hx2 : Blk (((w.alloc (.cells #[.bool neg1, .slice a l.length c] 52)).alloc (.cells #[.bool neg2, .slice a' m.length c'] 52)).alloc (.cells #[.bool false, .slice none 0 0] 52)) (w.heap.size + 1) 52 #[.bool neg2, .slice a' m.length c'] := (blk_at1 w _ _ _).alloc _
 have hb0 : Below w.heap.size w (((w.alloc (.cells #[.bool neg1, .slice a l.length c] 52)).alloc (.cells #[.bool neg2, .slice a' m.length c'] 52)).alloc (.cells #[.bool false, .slice none 0 0] 52)) := by go_grown
 have hgB : w.heap.size <= w.heap.size + 1 + 1 := by omega
 clear h h' hn hk hR
 go_enter Tryz.func123, Tryz.ntmps123
 go_wp2
 revert hz hx1 hx2 hb0 hgB
 generalize ((w.alloc (.cells #[.bool neg1, .slice a l.length c] 52)).alloc (.cells #[.bool neg2, .slice a' m.length c'] 52)).alloc (.cells #[.bool false, .slice none 0 0] 52) = w0
 generalize w.heap.size + 1 + 1 = g
 intro hz hx1 hx2 hb0 hgB
 have k0 := held (hx1.cell 0); have k1 := held (hx1.cell 1); have k2 := held (hx2.cell 0); have k3 := held (hx2.cell 1)
 have s0 : Below w0.heap.size w0 w0.drew := brf.drew
 have hgl := hz.lt
 have hs0 := hb0.size
 have HR := Hd hR0
 clear hR0
 cases neg1 <;> cases neg2
 all_goals
  refine wp_region_mix (S := Below w0.heap.size w0) [(0, .q), (1, .q), (2, .q), (3, .q), (4, .q), (5, .q), (6, .q), (7, .q), (8, .q), (9, .l), (10, .t), (11, .t)] (by kernel_rfl) (by kernel_rfl) (by kernel_rfl) (fun d _ _ _ _ h => by cases d <;> exact h) (s0) ?_
  iterate 9 (refine wpMix_q rfl rfl (fun K hK => ?_); apply Exists.intro; refine ⟨fun w' hw' => ?_, ?_⟩; (focus (go_simp; try rfl)); go_simp; refine hK _ _ ?_; clear hK K)
  refine wpMix_l rfl rfl (fun K hK => ?_)
  go_simp
  refine (CM.out _ (bth hb0 s0)).mono ?_
  rintro r w1 ⟨a3, c3, rfl, hV3, hb1⟩
  dsimp only
  refine hK.out _ _ (bth s0 hb1) (fun _ => ?_)
  clear hK K
  have s1 := bth s0 hb1
  have HV := Hd hV3
  clear hV3
  refine wpMix_t rfl rfl (fun K hK => ?_)
  go_simp
  refine (CF.out _ _ _).mono ?_
  rintro r w2 ⟨rfl, hb2⟩
  dsimp only
  refine hK.out _ _ ?_
  clear hK K
  have s2 := bth s1 hb2
  have hz3 := hz.below' s2
  have z0 := hz3.cell 0; have z1 := hz3.cell 1; have f0 := hz3.frozen 0; have f1 := hz3.frozen 1
  have hw2 := bth hb0 s2
  clear k0 k1 k2 k3
  refine wpMix_t rfl rfl (fun K hK => ?_)
  go_simp
  refine hK.out _ _ ?_
  clear hK K
  refine wpMix_nil ?_
  go_wp2
  have hF := blk2 (x := .bool R) (y := .slice a3 (limbs n).length c3) hz3
  have e0 := hF.cell 0; have e1 := hF.cell 1
  refine bodyPost_ret (v := .agg #[.bool R, .slice a3 (limbs n).length c3]) (by simp [results, Tryz.results123, go_sem, e0, e1]) rfl ?_
  exact ⟨a3, c3, rfl, fun V hV => HV.out V ((back2 hV hs0 hgl).below hb2), below2 hw2 hgB⟩
theorem byValue_any (l m : List Int) (n1 n2 : Nat) (a a' : Option Addr) (c c' : Nat) (w : World) (h : NatR w a c l) (h' : NatR w a' c' m) (hn : val l = n1) (hk : val m = n2) :
  Calls Tryz.prog 187 #[.slice a l.length c, .slice a' m.length c'] w fun e w' => e = .returned (.int .i64 (cmpN n1 n2)) /\ Below w.heap.size w w' := by
 have C := cmp_any l m n1 n2 a a' c c' w h h' hn hk
 replace C := Hd C
 clear h h' hn hk
 go_enter Tryz.func187, Tryz.ntmps187
 go_wp2_with fail
 refine C.out.mono ?_
 rintro e w1 ⟨rfl, hb⟩
 go_wp2
 go_ret
 exact ⟨rfl, hb⟩
theorem zcmp_sgn (neg1 neg2 : Bool) (n1 n2 : Nat) : cmpI (zval neg1 n1) (zval neg2 n2) = if sgnZ neg1 n1 < sgnZ neg2 n2 then -1 else if sgnZ neg2 n2 < sgnZ neg1 n1 then 1 else if sgnZ neg1 n1 < 0 then cmpN n2 n1 else cmpN n1 n2 := by
 unfold cmpI zval cmpN sgnZ
 cases neg1 <;> cases neg2 <;> by_cases p1 : n1 = 0 <;> by_cases p2 : n2 = 0 <;> simp [p1, p2]
 all_goals (repeat' split) <;> omega
theorem sgnZ_in (neg : Bool) (n : Nat) : -1 <= sgnZ neg n /\ sgnZ neg n <= 1 := by unfold sgnZ; split <;> (try split) <;> omega
theorem zcmp_any (neg1 neg2 : Bool) (l m : List Int) (n1 n2 : Nat) (a a' : Option Addr) (c c' : Nat) (w : World) (h : NatR w a c l) (h' : NatR w a' c' m) (hn : val l = n1) (hk : val m = n2) (hl : l.length <= 4000000) (hm : m.length <= 4000000) :
  Calls Tryz.prog 147 #[.agg #[.bool neg1, .slice a l.length c], .agg #[.bool neg2, .slice a' m.length c']] w fun e w' => e = .returned (.int .i64 (cmpI (zval neg1 n1) (zval neg2 n2))) /\ Below w.heap.size w w' := by
 have C1 := fun W (hW : Below w.heap.size w W) => zsign_any neg1 l n1 a c W (h.ext (xbw hW)) hn (by omega)
 have C2 := fun W (hW : Below w.heap.size w W) => zsign_any neg2 m n2 a' c' W (h'.ext (xbw hW)) hk (by omega)
 have CA := fun W (hW : Below w.heap.size w W) => byValue_any l m n1 n2 a a' c c' W (h.ext (xbw hW)) (h'.ext (xbw hW)) hn hk
 have CB := fun W (hW : Below w.heap.size w W) => byValue_any m l n2 n1 a' a c' c W (h'.ext (xbw hW)) (h.ext (xbw hW)) hk hn
 have hres := zcmp_sgn neg1 neg2 n1 n2
 have i1 := sgnZ_in neg1 n1
 have i2 := sgnZ_in neg2 n2
 revert C1 C2 hres i1 i2
 generalize sgnZ neg1 n1 = s
 generalize sgnZ neg2 n2 = t
 intro C1 C2 hres i1 i2
 obtain ⟨R, hR⟩ : ∃ q, cmpI (zval neg1 n1) (zval neg2 n2) = q := ⟨_, rfl⟩
 rw [hR] at hres ⊢
 have HRES := Hd hres
 replace C1 := Hd C1; replace C2 := Hd C2; replace CA := Hd CA; replace CB := Hd CB
 have hx1 : Blk ((w.alloc (.cells #[.bool neg1, .slice a l.length c] 52)).alloc (.cells #[.bool neg2, .slice a' m.length c'] 52)) w.heap.size 52 #[.bool neg1, .slice a l.length c] := (Blk.new w _ _).alloc _
 have hx2 : Blk ((w.alloc (.cells #[.bool neg1, .slice a l.length c] 52)).alloc (.cells #[.bool neg2, .slice a' m.length c'] 52)) (w.heap.size + 1) 52 #[.bool neg2, .slice a' m.length c'] := blk_at1 w _ _ _
 have hb0 : Below w.heap.size w ((w.alloc (.cells #[.bool neg1, .slice a l.length c] 52)).alloc (.cells #[.bool neg2, .slice a' m.length c'] 52)) := by go_grown
 clear h h' hn hk hR hres
 go_enter Tryz.func147, Tryz.ntmps147
 go_wp2
 revert hx1 hx2 hb0
 generalize (w.alloc (.cells #[.bool neg1, .slice a l.length c] 52)).alloc (.cells #[.bool neg2, .slice a' m.length c'] 52) = w0
 generalize w.heap.size + 1 = g
 intro hx1 hx2 hb0
 have k0 := held (hx1.cell 0); have k1 := held (hx1.cell 1); have k2 := held (hx2.cell 0); have k3 := held (hx2.cell 1)
 have s0 : Below w0.heap.size w0 w0.drew := brf.drew
 refine wp_region_mix (S := Below w0.heap.size w0) [(0, .q), (2, .q), (1, .l), (3, .t), (4, .p), (5, .p)] (by kernel_rfl) (by kernel_rfl) (by kernel_rfl) (fun d _ _ _ _ h => by cases d <;> exact h) (s0) ?_
 iterate 2 (refine wpMix_q rfl rfl (fun K hK => ?_); apply Exists.intro; refine ⟨fun w' hw' => ?_, ?_⟩; (focus (go_simp; try rfl)); go_simp; refine hK _ _ ?_; clear hK K)
 refine wpMix_l rfl rfl (fun K hK => ?_)
 go_simp
 refine (C1.out _ (bth hb0 s0)).mono ?_
 rintro r w1 ⟨rfl, hb1⟩
 dsimp only
 refine hK.out _ _ (bth s0 hb1) (fun _ => ?_)
 clear hK K
 have s1 := bth s0 hb1
 refine wpMix_t rfl rfl (fun K hK => ?_)
 go_simp
 refine (C2.out _ (bth hb0 s1)).mono ?_
 rintro r w2 ⟨rfl, hb2⟩
 dsimp only
 refine hK.out _ _ ?_
 clear hK K
 have s2 := bth s1 hb2
 iterate 2 (refine wpMix_p rfl rfl (fun K hK => ?_); apply Exists.intro; refine ⟨fun w' => ?_, ?_⟩; (focus (go_simp; try rfl)); go_simp; refine hK _ _ ?_; clear hK K)
 refine wpMix_nil ?_
 have hy1 := hx1.below' s2
 have hy2 := hx2.below' s2
 have z0 := hy1.cell 0; have z1 := hy1.cell 1; have z2 := hy2.cell 0; have z3 := hy2.cell 1
 have hw2 := bth hb0 s2
 clear k0 k1 k2 k3 s0 s1 s2 hb1 hb2 C1 C2
 by_cases h1 : s < t
 ·
  obtain rfl : R = -1 := by rw [HRES.out, if_pos h1]
  go_wp2
  go_ret
  exact ⟨rfl, hw2⟩
 ·
  by_cases h2 : t < s
  ·
   obtain rfl : R = 1 := by rw [HRES.out, if_neg h1, if_pos h2]
   go_wp2
   go_ret
   exact ⟨rfl, hw2⟩
  ·
   by_cases h3 : s < 0
   ·
    obtain rfl : R = cmpN n2 n1 := by rw [HRES.out, if_neg h1, if_neg h2, if_pos h3]
    go_wp2_with fail
    refine (CB.out _ hw2).mono ?_
    rintro e w5 ⟨rfl, hb5⟩
    go_wp2
    go_ret
    exact ⟨rfl, bth hw2 hb5⟩
   ·
    obtain rfl : R = cmpN n1 n2 := by rw [HRES.out, if_neg h1, if_neg h2, if_neg h3]
    go_wp2_with fail
    refine (CA.out _ hw2).mono ?_
    rintro e w5 ⟨rfl, hb5⟩
    go_wp2
    go_ret
    exact ⟨rfl, bth hw2 hb5⟩
theorem nsub_any (l m : List Int) (n k : Nat) (a a' : Option Addr) (c c' : Nat) (w : World) (h : NatR w a c l) (h' : NatR w a' c' m) (hn : val l = n) (hk : val m = k) (hl : l.length <= 16777215) (hm : m.length <= 16777216) (hge : k <= n) :
  Calls Tryz.prog 191 #[.slice a l.length c, .slice a' m.length c'] w (RetNE (limbs (n - k)) 0 w) := by
 have C := cmp_any l m n k a a' c c' w h h' hn hk
 have hc : 0 <= cmpN n k := cmpN_ge.2 hge
 have C1 := fun W (hW : Below w.heap.size w W) => trim_any l a c W (h.ext (xbw hW))
 have C2 := fun W (hW : Below w.heap.size w W) => trim_any m a' c' W (h'.ext (xbw hW))
 have hP := h.trim
 have hQ := h'.trim
 have hl1 := limbs_len_val h.u16
 have hl2 := limbs_len_val h'.u16
 rw [hn] at C1 hP hl1
 rw [hk] at C2 hQ hl2
 have hup := limbs_u16 n
 have huq := limbs_u16 k
 have hvp := val_limbs n
 have hvq := val_limbs k
 revert C hc
 generalize cmpN n k = q
 intro C hc
 have hcf : decide (q < 0) = false := by simp; omega
 obtain ⟨M, hM⟩ : ∃ M, n - k = M := ⟨_, rfl⟩
 rw [hM]
 have HM := Hd hM
 have HGE := Hd hge
 have hT0 : (limbs n).length <= 16777215 := by omega
 clear hl1 hl2 h h' hn hk hM hc hge
 revert C1 C2 hP hQ hup huq hvp hvq hT0
 generalize limbs n = T
 generalize limbs k = U
 intro C1 C2 hP hQ hup huq hvp hvq hT0
 have HP := Hd hP
 have HQ := Hd hQ
 have HVP := Hd hvp
 have HVQ := Hd hvq
 replace C := Hd C; replace C1 := Hd C1; replace C2 := Hd C2
 clear hP hQ hvp hvq
 go_enter Tryz.func191, Tryz.ntmps191
 go_wp2_with fail
 refine C.out.mono ?_
 rintro e w1 ⟨rfl, hb1⟩
 go_wp2_with fail
 refine (C1.out _ hb1).mono ?_
 rintro e w2 ⟨rfl, rfl⟩
 go_wp2_with fail
 refine (C2.out _ hb1).mono ?_
 rintro e w2 ⟨rfl, rfl⟩
 have hmk := run_make_nat .i64 T.length (by omega) w1
 go_wp2
 clear hmk C C1 C2 hcf
 have hz := BlkN.new w1 T.length
 have hw1s := hb1.size
 have hb0 : Below w.heap.size w (w1.alloc (.cells (madeCells #[.int .u16 0] T.length) 47)) := hb1.alloc hb1.size _
 revert hz hb0
 generalize w1.alloc (.cells (madeCells #[.int .u16 0] T.length) 47) = w0
 obtain ⟨B, hB⟩ : ∃ B, B = w1.heap.size := ⟨_, rfl⟩
 rw [<- hB] at hw1s ⊢
 clear hB
 intro hz hb0
 go_loopg [7, 8, 9, 10, 24] T.length (fun g s7 _ _ _ s24 wr => ∃ (j bo : Nat) (O : List Int), j + g = T.length /\ bo <= 1 /\ s24 = .int .i64 j /\ s7 = .int .i32 bo /\ Hid (O.length = T.length) /\ U16 O /\ BlkN wr B O /\ Below w.heap.size w wr /\
  Hid (val (T.take j) + 65536 ^ j * bo = val (U.take j) + val (O.take j)))
 case atStart => exact ⟨0, 0, _, by omega, by omega, rfl, rfl, by show _ = _; simp, u16_replicate _, hz, hb0, by show _ = _; simp [val]⟩
 case round =>
  clear hz hb0
  obtain ⟨j, bo, O, hjg, hbo, rfl, rfl, hol, hou, hrow, hwr, hval⟩ := hrel
  have HROW := Hd hrow
  have HJG := Hd hjg
  clear hrow hjg
  by_cases hlt : j < T.length
  ·
   obtain ⟨x, hx⟩ := get_of_lt hlt
   obtain ⟨hx0, hx1⟩ := hup.get hx
   obtain ⟨bp, op, rfl, hcp⟩ := (HP.out.ext (xbw hwr)).cell hx
   have hkO : j < O.length := by rw [hol.out]; exact hlt
   obtain ⟨z, hz⟩ := get_of_lt hkO
   have hcell := HROW.out.cell hz
   have hfr := HROW.out.frozen j
   have hsx := limbAt_some hx
   have hset := fun q : Int => HROW.out.set_ j q
   have HSET := Hd hset
   have htk := fun q : Int => take_set_snoc hkO q
   have hstep := fun bo2 d h1 => sub_step T U (O.take j) j bo bo2 d (by rw [List.length_take]; omega) hval.out h1
   rw [hsx] at hstep
   obtain ⟨y, rfl⟩ : ∃ y : Nat, x = (y : Int) := ⟨x.toNat, by omega⟩
   rw [Int.toNat_natCast] at hstep
   have HTK := Hd htk
   have HSTEP := Hd hstep
   clear hset hstep htk hval hx hsx hz
   by_cases hkn : j < U.length
   ·
    obtain ⟨t, ht⟩ := get_of_lt hkn
    obtain ⟨bq, oq, rfl, hcq⟩ := (HQ.out.ext (xbw hwr)).cell ht
    obtain ⟨ht0, ht1⟩ := huq.get ht
    obtain ⟨t, rfl⟩ : ∃ s : Nat, t = (s : Int) := ⟨t.toNat, by omega⟩
    have HST := HSTEP.out
    rw [limbAt_some ht, Int.toNat_natCast] at HST
    clear ht HSTEP
    by_cases hneg : (y : Int) - bo - t < 0
    ·
     obtain ⟨d, hd⟩ : ∃ d : Nat, (y : Int) - bo - t + 65536 = (d : Int) := ⟨((y : Int) - bo - t + 65536).toNat, by omega⟩
     have hd65 : d <= 65535 := by omega
     replace HST := Hd (HST 1 d (by omega))
     go_wp2
     go_roundg (gk - 1)
     case rel => exact ⟨j + 1, 1, O.set j (d : Int), by have := HJG.out; omega, by omega, by go_num, rfl, by show _ = _; rw [List.length_set]; exact hol.out, hou.set_ (by omega), HSET.out d, hwr.setCell hw1s _, by show _ = _; rw [HTK.out]; exact HST.out⟩
     case measure => have := HJG.out; omega
    ·
     obtain ⟨d, hd⟩ : ∃ d : Nat, (y : Int) - bo - t = (d : Int) := ⟨((y : Int) - bo - t).toNat, by omega⟩
     have hd65 : d <= 65535 := by omega
     replace HST := Hd (HST 0 d (by omega))
     go_wp2
     go_roundg (gk - 1)
     case rel => exact ⟨j + 1, 0, O.set j (d : Int), by have := HJG.out; omega, by omega, by go_num, rfl, by show _ = _; rw [List.length_set]; exact hol.out, hou.set_ (by omega), HSET.out d, hwr.setCell hw1s _, by show _ = _; rw [HTK.out]; exact HST.out⟩
     case measure => have := HJG.out; omega
   ·
    have HST := HSTEP.out
    rw [limbAt_none (by omega)] at HST
    clear HSTEP
    by_cases hneg : (y : Int) - bo < 0
    ·
     obtain ⟨d, hd⟩ : ∃ d : Nat, (y : Int) - bo + 65536 = (d : Int) := ⟨((y : Int) - bo + 65536).toNat, by omega⟩
     have hd65 : d <= 65535 := by omega
     replace HST := Hd (HST 1 d (by simp; omega))
     go_wp2
     go_roundg (gk - 1)
     case rel => exact ⟨j + 1, 1, O.set j (d : Int), by have := HJG.out; omega, by omega, by go_num, rfl, by show _ = _; rw [List.length_set]; exact hol.out, hou.set_ (by omega), HSET.out d, hwr.setCell hw1s _, by show _ = _; rw [HTK.out]; exact HST.out⟩
     case measure => have := HJG.out; omega
    ·
     obtain ⟨d, hd⟩ : ∃ d : Nat, (y : Int) - bo = (d : Int) := ⟨((y : Int) - bo).toNat, by omega⟩
     have hd65 : d <= 65535 := by omega
     replace HST := Hd (HST 0 d (by simp; omega))
     go_wp2
     go_roundg (gk - 1)
     case rel => exact ⟨j + 1, 0, O.set j (d : Int), by have := HJG.out; omega, by omega, by go_num, rfl, by show _ = _; rw [List.length_set]; exact hol.out, hou.set_ (by omega), HSET.out d, hwr.setCell hw1s _, by show _ = _; rw [HTK.out]; exact HST.out⟩
     case measure => have := HJG.out; omega
  ·
   obtain rfl : j = T.length := by have := HJG.out; omega
   have hvO : val O = M := by
    have h1 := sub_end (o := O) hup huq hou hol.out (by have := hval.out; rw [val_take_all (l := O) (by rw [hol.out]; omega)] at this; exact this) (by rw [HVP.out, HVQ.out]; exact HGE.out)
    rw [h1, HVP.out, HVQ.out]
    exact HM.out
   have hcap : T.length <= maxLen := by unfold maxLen; omega
   have CT := trim_any O (some ⟨B, 0, none⟩) T.length wr (HROW.out.readsV (nlr _) (New.refl _ _) hou (by rw [hol.out]; omega) hcap)
   have hread : ∀ V, New w.heap.size wr V -> NatR V (some ⟨B, 0, none⟩) T.length (limbs M) := fun V hV => by
    rw [<- hvO]
    exact (HROW.out.readsV hw1s hV hou (by rw [hol.out]; omega) hcap).trim
   rw [hvO, hol.out] at CT
   have HRD := Hd hread
   replace CT := Hd CT
   clear hread hvO hval
   go_wp2_with fail
   refine CT.out.mono ?_
   rintro e w3 ⟨rfl, rfl⟩
   go_wp2
   go_ret2
   exact ⟨_, _, rfl, HRD.out, hwr⟩
end Go.Proofs.YtkjnkpkagcboeaaGreatDoor
