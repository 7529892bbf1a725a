/- Walks: rational numbers by the reference: Neg. -/
import Derived.Test.YtdnblkklgdnapaaGreatDoorCt7
import Derived.Test.YtdnblkklgdnapaaGreatDoorCt3
import Derived.Test.YtdnblkklgdnapaaGreatDoorCt1
import Derived.Test.YtdnblkklgdnapaaGreatDoorCt2
import Derived.Test.YtdnblkklgdnapaaGreatDoorCt6
set_option linter.all false
set_option maxRecDepth 100000
set_option maxHeartbeats 4000000
namespace Go.Proofs.YtdnblkklgdnapaaGreatDoor
open Go.RowKit
def zval (neg : Bool) (n : Nat) : Int := if neg = true then -(n : Int) else n
def cmpI (a b : Int) : Int := if a < b then -1 else if b < a then 1 else 0
theorem zmulR_any (neg1 neg2 : Bool) (l m : List Int) (n1 n2 : Nat) (a a' : Option Addr) (c c' : Nat) (w : World) (h : NatR w a c l) (h' : NatR w a' c' m) (hn : val l = n1) (hk : val m = n2) (hl : l.length <= 2000000) (hm : m.length <= 2000000) :
  Calls Tryz.prog 247 #[.agg #[.bool neg1, .slice a l.length c], .agg #[.bool neg2, .slice a' m.length c']] w (RetZ ((neg1 != neg2) && decide (0 < n1 * n2)) (n1 * n2) w) := by
 have hll := limbs_len_val h.u16
 have hlm := limbs_len_val h'.u16
 rw [hn] at hll
 rw [hk] at hlm
 have hp := limbs_len_mul n1 n2
 have CM := fun W (hW : Below w.heap.size w W) => mul01_any l m n1 n2 a a' c c' W (h.ext (xbw hW)) (h'.ext (xbw hW)) hn hk (by omega) (by omega)
 have CF := fun a c W h => zofR_any (neg1 != neg2) (limbs (n1 * n2)) (n1 * n2) a c W h (val_limbs _) (by omega)
 obtain ⟨R, hR⟩ : ∃ q, ((neg1 != neg2) && decide (0 < n1 * n2)) = q := ⟨_, rfl⟩
 rw [hR] at CF ⊢
 have hR0 : True := trivial
 revert CM CF
 generalize n1 * n2 = n
 intro CM CF
 replace CM := Hd CM; replace CF := Hd CF
 have hz : Blk (((w.alloc (.cells #[.bool neg1, .slice a l.length c] 62)).alloc (.cells #[.bool neg2, .slice a' m.length c'] 62)).alloc (.cells #[.bool false, .slice none 0 0] 62)) (w.heap.size + 1 + 1) 62 #[.bool false, .slice none 0 0] := blk_at2 w _ _ _ _
 have hx1 : Blk (((w.alloc (.cells #[.bool neg1, .slice a l.length c] 62)).alloc (.cells #[.bool neg2, .slice a' m.length c'] 62)).alloc (.cells #[.bool false, .slice none 0 0] 62)) w.heap.size 62 #[.bool neg1, .slice a l.length c] := ((Blk.new w _ _).alloc _).alloc _
 have hx2 : Blk (((w.alloc (.cells #[.bool neg1, .slice a l.length c] 62)).alloc (.cells #[.bool neg2, .slice a' m.length c'] 62)).alloc (.cells #[.bool false, .slice none 0 0] 62)) (w.heap.size + 1) 62 #[.bool neg2, .slice a' m.length c'] := (blk_at1 w _ _ _).alloc _
 have hb0 : Below w.heap.size w (((w.alloc (.cells #[.bool neg1, .slice a l.length c] 62)).alloc (.cells #[.bool neg2, .slice a' m.length c'] 62)).alloc (.cells #[.bool false, .slice none 0 0] 62)) := by go_grown
 have hgB : w.heap.size <= w.heap.size + 1 + 1 := by omega
 clear h h' hn hk hll hlm hp hR
 go_enter Tryz.func247, Tryz.ntmps247
 go_wp2
 revert hz hx1 hx2 hb0 hgB
 generalize ((w.alloc (.cells #[.bool neg1, .slice a l.length c] 62)).alloc (.cells #[.bool neg2, .slice a' m.length c'] 62)).alloc (.cells #[.bool false, .slice none 0 0] 62) = w0
 generalize w.heap.size + 1 + 1 = g
 intro hz hx1 hx2 hb0 hgB
 have k0 := held (hx1.cell 0); have k1 := held (hx1.cell 1); have k2 := held (hx2.cell 0); have k3 := held (hx2.cell 1)
 have s0 : Below w0.heap.size w0 w0.drew := brf.drew
 have hgl := hz.lt
 have HR := Hd hR0
 clear hR0
 cases neg1 <;> cases neg2
 all_goals
  refine wp_region_mix (S := Below w0.heap.size w0) [(0, .q), (1, .q), (2, .q), (3, .q), (4, .q), (5, .q), (6, .q), (7, .q), (8, .q), (9, .l), (10, .t), (11, .t)] (by kernel_rfl) (by kernel_rfl) (by kernel_rfl) (fun d _ _ _ _ h => by cases d <;> exact h) (s0) ?_
  iterate 9 (refine wpMix_q rfl rfl (fun K hK => ?_); apply Exists.intro; refine ⟨fun w' hw' => ?_, ?_⟩; (focus (go_simp; try rfl)); go_simp; refine hK _ _ ?_; clear hK K)
  refine wpMix_l rfl rfl (fun K hK => ?_)
  go_simp
  refine (CM.out _ (bth hb0 s0)).mono ?_
  rintro r w1 ⟨a3, c3, rfl, hV3, hb1⟩
  dsimp only
  refine hK.out _ _ (bth s0 hb1) (fun _ => ?_)
  clear hK K
  have s1 := bth s0 hb1
  have hr3 := hV3 w1 (New.refl _ _)
  clear hV3
  refine wpMix_t rfl rfl (fun K hK => ?_)
  go_simp
  refine (CF.out _ _ _ hr3).mono ?_
  rintro r w2 ⟨a1, c1, rfl, hV, hb2⟩
  dsimp only
  refine hK.out _ _ ?_
  clear hK K
  have s2 := bth s1 hb2
  have hz3 := hz.below' s2
  have z0 := hz3.cell 0; have z1 := hz3.cell 1; have f0 := hz3.frozen 0; have f1 := hz3.frozen 1
  have hw2 := bth hb0 s2
  have hs1 := (bth hb0 s1).size
  have hg1 : g < w1.heap.size := ltl hgl s1.size
  have HV := Hd hV
  clear hV hr3 k0 k1 k2 k3
  refine wpMix_t rfl rfl (fun K hK => ?_)
  go_simp
  refine hK.out _ _ ?_
  clear hK K
  refine wpMix_nil ?_
  go_wp2
  have hF := blk2 (x := .bool R) (y := .slice a1 (limbs n).length c1) hz3
  have e0 := hF.cell 0; have e1 := hF.cell 1
  refine bodyPost_ret (v := .agg #[.bool R, .slice a1 (limbs n).length c1]) (by simp [results, Tryz.results247, go_sem, e0, e1]) rfl ?_
  exact ⟨a1, c1, rfl, fun V hV => HV.out V (back2 hV hs1 hg1), below2 hw2 hgB⟩
theorem zcmp_cases (neg1 neg2 : Bool) (n1 n2 : Nat) {b1 b2 : Bool} (h1 : (neg1 && decide (0 < n1)) = b1) (h2 : (neg2 && decide (0 < n2)) = b2) :
  cmpI (zval neg1 n1) (zval neg2 n2) = if (b1 && !b2) = true then -1 else if (b2 && !b1) = true then 1 else if b1 = true then cmpN n2 n1 else cmpN n1 n2 := by
 subst h1 h2
 unfold cmpI zval cmpN
 cases neg1 <;> cases neg2 <;> by_cases p1 : 0 < n1 <;> by_cases p2 : 0 < n2 <;> simp [p1, p2]
 all_goals (repeat' split) <;> omega
theorem zcmpR_any (neg1 neg2 : Bool) (l m : List Int) (n1 n2 : Nat) (a a' : Option Addr) (c c' : Nat) (w : World) (h : NatR w a c l) (h' : NatR w a' c' m) (hn : val l = n1) (hk : val m = n2) (hl : l.length <= 4000000) (hm : m.length <= 4000000) :
  Calls Tryz.prog 246 #[.agg #[.bool neg1, .slice a l.length c], .agg #[.bool neg2, .slice a' m.length c']] w fun e w' => e = .returned (.int .i64 (cmpI (zval neg1 n1) (zval neg2 n2))) /\ Below w.heap.size w w' := by
 have hll := limbs_len_val h.u16
 have hlm := limbs_len_val h'.u16
 rw [hn] at hll
 rw [hk] at hlm
 have C1 := fun W (hW : Below w.heap.size w W) => znormR_any neg1 l n1 a c W (h.ext (xbw hW)) hn (by omega)
 have C2 := fun W (hW : Below w.heap.size w W) => znormR_any neg2 m n2 a' c' W (h'.ext (xbw hW)) hk (by omega)
 have CA := fun a1 a2 c1 c2 W h1 h2 => cmp01_any (limbs n1) (limbs n2) a1 a2 c1 c2 W h1 h2 (by omega) (by omega)
 have CB := fun a1 a2 c1 c2 W h1 h2 => cmp01_any (limbs n2) (limbs n1) a1 a2 c1 c2 W h1 h2 (by omega) (by omega)
 simp only [val_limbs] at CA CB
 obtain ⟨b1, hb1'⟩ : ∃ q, (neg1 && decide (0 < n1)) = q := ⟨_, rfl⟩
 obtain ⟨b2, hb2'⟩ : ∃ q, (neg2 && decide (0 < n2)) = q := ⟨_, rfl⟩
 have hres := zcmp_cases neg1 neg2 n1 n2 hb1' hb2'
 rw [hb1'] at C1
 rw [hb2'] at C2
 obtain ⟨R, hR⟩ : ∃ q, cmpI (zval neg1 n1) (zval neg2 n2) = q := ⟨_, rfl⟩
 rw [hR] at hres ⊢
 have HRES := Hd hres
 replace C1 := Hd C1; replace C2 := Hd C2; replace CA := Hd CA; replace CB := Hd CB
 have hx1 : Blk ((w.alloc (.cells #[.bool neg1, .slice a l.length c] 62)).alloc (.cells #[.bool neg2, .slice a' m.length c'] 62)) w.heap.size 62 #[.bool neg1, .slice a l.length c] := (Blk.new w _ _).alloc _
 have hx2 : Blk ((w.alloc (.cells #[.bool neg1, .slice a l.length c] 62)).alloc (.cells #[.bool neg2, .slice a' m.length c'] 62)) (w.heap.size + 1) 62 #[.bool neg2, .slice a' m.length c'] := blk_at1 w _ _ _
 have hb0 : Below w.heap.size w ((w.alloc (.cells #[.bool neg1, .slice a l.length c] 62)).alloc (.cells #[.bool neg2, .slice a' m.length c'] 62)) := by go_grown
 have hgB : w.heap.size < w.heap.size + 1 := by omega
 clear h h' hn hk hll hlm hR hres hb1' hb2'
 go_enter Tryz.func246, Tryz.ntmps246
 go_wp2
 revert hx1 hx2 hb0 hgB
 generalize (w.alloc (.cells #[.bool neg1, .slice a l.length c] 62)).alloc (.cells #[.bool neg2, .slice a' m.length c'] 62) = w0
 generalize w.heap.size + 1 = g
 intro hx1 hx2 hb0 hgB
 have k0 := held (hx1.cell 0); have k1 := held (hx1.cell 1); have k2 := held (hx2.cell 0); have k3 := held (hx2.cell 1)
 have s0 : Below w0.heap.size w0 w0.drew := brf.drew
 have hgl := hx2.lt
 refine wp_region_mix (S := Below w0.heap.size w0) [(0, .q), (2, .q), (1, .l), (3, .t), (4, .t), (5, .t)] (by kernel_rfl) (by kernel_rfl) (by kernel_rfl) (fun d _ _ _ _ h => by cases d <;> exact h) (s0) ?_
 iterate 2 (refine wpMix_q rfl rfl (fun K hK => ?_); apply Exists.intro; refine ⟨fun w' hw' => ?_, ?_⟩; (focus (go_simp; try rfl)); go_simp; refine hK _ _ ?_; clear hK K)
 refine wpMix_l rfl rfl (fun K hK => ?_)
 go_simp
 refine (C1.out _ (bth hb0 s0)).mono ?_
 rintro r w1 ⟨a1, c1, rfl, hV1, hb1⟩
 dsimp only
 refine hK.out _ _ (bth s0 hb1) (fun _ => ?_)
 clear hK K
 have s1 := bth s0 hb1
 refine wpMix_t rfl rfl (fun K hK => ?_)
 go_simp
 refine (C2.out _ (bth hb0 s1)).mono ?_
 rintro r w2 ⟨a2, c2, rfl, hV2, hb2⟩
 dsimp only
 refine hK.out _ _ ?_
 clear hK K
 have s2 := bth s1 hb2
 have hy1 := hx1.below' s2
 have hy2 := hx2.below' s2
 have z0 := hy1.cell 0; have z1 := hy1.cell 1; have z2 := hy2.cell 0; have z3 := hy2.cell 1
 have f0 := hy1.frozen 0; have f1 := hy1.frozen 1; have f2 := hy2.frozen 0; have f3 := hy2.frozen 1
 have hne : ¬ g = w.heap.size := by omega
 have hne2 : ¬ w.heap.size = g := by omega
 have HV1 := Hd hV1
 have HV2 := Hd hV2
 have hw2 := bth hb0 s2
 have hs1 := s1.size
 have hs2 := s2.size
 clear hV1 hV2 k0 k1 k2 k3
 refine wpMix_t rfl rfl (fun K hK => ?_)
 go_simp
 refine hK.out _ _ ?_
 clear hK K
 refine wpMix_t rfl rfl (fun K hK => ?_)
 go_simp
 refine hK.out _ _ ?_
 clear hK K
 refine wpMix_nil ?_
 have hF1 := ((blk2 (x := .bool b1) (y := .slice a1 (limbs n1).length c1) hy1).far (p := ⟨g, 0, none⟩) hne2 (.bool b2)).far (p := ⟨g, 1, none⟩) hne2 (.slice a2 (limbs n2).length c2)
 have hF2 := blk2 (x := .bool b2) (y := .slice a2 (limbs n2).length c2) ((hy2.far (p := ⟨w.heap.size, 0, none⟩) hne (.bool b1)).far (p := ⟨w.heap.size, 1, none⟩) hne (.slice a1 (limbs n1).length c1))
 have hwF := below2 (x := .bool b2) (y := .slice a2 (limbs n2).length c2) (below2 (x := .bool b1) (y := .slice a1 (limbs n1).length c1) hw2 (nlr _)) (Nat.le_of_lt hgB)
 have hN := New.refl w0.heap.size ((((w2.setCell ⟨w.heap.size, 0, none⟩ (.bool b1)).setCell ⟨w.heap.size, 1, none⟩ (.slice a1 (limbs n1).length c1)).setCell ⟨g, 0, none⟩ (.bool b2)).setCell ⟨g, 1, none⟩ (.slice a2 (limbs n2).length c2))
 have hN2 := back2 (back2 hN (nlr _) hgl) (nlr _) hx1.lt
 revert hF1 hF2 hwF hN2
 generalize (((w2.setCell ⟨w.heap.size, 0, none⟩ (.bool b1)).setCell ⟨w.heap.size, 1, none⟩ (.slice a1 (limbs n1).length c1)).setCell ⟨g, 0, none⟩ (.bool b2)).setCell ⟨g, 1, none⟩ (.slice a2 (limbs n2).length c2) = wF
 intro hF1 hF2 hwF hN2
 have r2 := HV2.out wF (hN2.base hs1)
 have r1 := HV1.out wF (hN2.below hb2)
 clear hN hy1 hy2 z0 z1 z2 z3 f0 f1 f2 f3 hx1 hx2 HV1 HV2 s0 s1 s2 hb1 hb2
 have z0 := hF1.cell 0; have z1 := hF1.cell 1; have z2 := hF2.cell 0; have z3 := hF2.cell 1
 have CA2 := CA.out _ _ _ _ wF r1 r2
 have CB2 := CB.out _ _ _ _ wF r2 r1
 replace CA2 := Hd CA2
 replace CB2 := Hd CB2
 clear r1 r2
 cases b1 <;> cases b2
 ·
  obtain rfl : R = cmpN n1 n2 := by simpa using HRES.out
  go_wp2_with fail
  refine CA2.out.mono ?_
  rintro e w5 ⟨rfl, rfl⟩
  go_wp2
  go_ret
  exact ⟨rfl, hwF⟩
 ·
  obtain rfl : R = 1 := by simpa using HRES.out
  go_wp2
  go_ret
  exact ⟨rfl, hwF⟩
 ·
  obtain rfl : R = -1 := by simpa using HRES.out
  go_wp2
  go_ret
  exact ⟨rfl, hwF⟩
 ·
  obtain rfl : R = cmpN n2 n1 := by simpa using HRES.out
  go_wp2_with fail
  refine CB2.out.mono ?_
  rintro e w5 ⟨rfl, rfl⟩
  go_wp2
  go_ret
  exact ⟨rfl, hwF⟩
end Go.Proofs.YtdnblkklgdnapaaGreatDoor
namespace Go.Proofs.YtdnblkklgdnapaaGreatDoor
structure MulR (T U O : List Int) (i : Nat) : Prop where
 len : O.length = T.length + U.length
 u16 : U16 O
 sum : val O = val (T.take i) * val U
 far : ∀ j, i + U.length <= j -> j < O.length -> O[j]? = some 0
structure MulI (T U O : List Int) (i k c : Nat) (x : Int) : Prop where
 len : O.length = T.length + U.length
 u16 : U16 O
 car : c <= 65535
 sum : val O + 65536 ^ (i + k) * c = val (T.take i) * val U + 65536 ^ i * (x.toNat * val (U.take k))
 far : ∀ j, i + U.length <= j -> j < O.length -> O[j]? = some 0
theorem MulR.start (T U : List Int) : MulR T U (List.replicate (T.length + U.length) 0) 0 :=
 ⟨by simp, u16_replicate _, by simp [val_replicate, val], fun j _ hl => by simp at hl; rw [List.getElem?_replicate, if_pos hl]⟩
theorem MulR.row {T U O : List Int} {i : Nat} (h : MulR T U O i) (x : Int) : MulI T U O i 0 0 x := ⟨h.len, h.u16, by omega, by simp [h.sum, val], h.far⟩
theorem MulI.next {T U O : List Int} {i k c : Nat} {x z y : Int} (h : MulI T U O i k c x) (hx : 0 <= x /\ x <= 65535) (hk : k < U.length) (hz : O[i + k]? = some z) (hy : U[k]? = some y) (hy2 : 0 <= y /\ y <= 65535)
  {c2 d : Nat} (hd : d + 65536 * c2 = z.toNat + x.toNat * y.toNat + c) (hd2 : d <= 65535) : MulI T U (O.set (i + k) (d : Int)) i (k + 1) c2 x := by
 have hz2 := h.u16.get hz
 refine ⟨by rw [List.length_set]; exact h.len, h.u16.set_ ⟨by omega, by omega⟩, carry_lt (z := z.toNat) (x := x.toNat) (y := y.toNat) (c := c) (d := d) (by omega) (by omega) (by omega) h.car hd, mul_step T U O i k c c2 d z x y hz (limbAt_some hy) h.sum hd, fun j hj hl => ?_⟩
 rw [List.getElem?_set_ne (by omega)]
 exact h.far j hj (by simpa using hl)
theorem MulI.done {T U O : List Int} {i c : Nat} {x : Int} (h : MulI T U O i U.length c x) (hx : T[i]? = some x) : MulR T U (O.set (i + U.length) (c : Int)) (i + 1) := by
 have hi := lt_of_get hx
 have hz := h.far (i + U.length) (nlr _) (by rw [h.len]; omega)
 have h1 := val_set hz (c : Int)
 have h2 := h.sum
 rw [val_take_all (nlr _), mul_end T U i x hx] at h2
 have hc := h.car
 refine ⟨by rw [List.length_set]; exact h.len, h.u16.set_ ⟨by omega, by omega⟩, ?_, fun j hj hl => ?_⟩
 ·
  have e : ((c : Int)).toNat = c := by omega
  rw [e] at h1
  simp only [Int.toNat_zero, Nat.mul_zero, Nat.add_zero] at h1
  omega
 ·
  rw [List.getElem?_set_ne (by omega)]
  exact h.far j (by omega) (by simpa using hl)
theorem MulR.done {T U O : List Int} (h : MulR T U O T.length) : val O = val T * val U := by rw [h.sum, val_take_all (nlr _)]
end Go.Proofs.YtdnblkklgdnapaaGreatDoor
namespace Go.Proofs.YtdnblkklgdnapaaGreatDoor
open Go.RowKit
theorem nmul_zero (l m : List Int) (n1 n2 : Nat) (a a' : Option Addr) (c c' : Nat) (w : World) (h : NatR w a c l) (h' : NatR w a' c' m) (hn : val l = n1) (hk : val m = n2) (h0 : n1 = 0 \/ n2 = 0) :
  Calls Tryz.prog 229 #[.slice a l.length c, .slice a' m.length c'] w (RetN [] w) := by
 have C1 := trim_any l a c w h
 have C2 := trim_any m a' c' w h'
 rw [hn] at C1
 rw [hk] at C2
 have hp1 := limbs_len_pos (n := n1)
 have hp2 := limbs_len_pos (n := n2)
 have hle := h'.len
 have hle2 := limbs_len_val h'.u16
 rw [hk] at hle2
 clear h h' hn hk
 revert C1 C2 hp1 hp2 hle2
 generalize (limbs n1).length = T
 generalize (limbs n2).length = U
 intro C1 C2 hp1 hp2 hle2
 replace C1 := Hd C1; replace C2 := Hd C2
 by_cases hT : T = 0
 ·
  have hT1 : ((T : Int) == 0) = true := by rw [beq_iff_eq]; omega
  clear hp1 hp2 h0 hT
  go_enter Tryz.func229, Tryz.ntmps229
  go_wp2_with fail
  refine C1.out.mono ?_
  rintro e w1 ⟨rfl, rfl⟩
  go_wp2_with fail
  refine C2.out.mono ?_
  rintro e w1 ⟨rfl, rfl⟩
  go_wp2
  go_ret
  exact ⟨none, 0, rfl, fun _ _ => SlR.nil, Below.refl _ _⟩
 ·
  have hT1 : ((T : Int) == 0) = false := by rw [beq_eq_false_iff_ne]; omega
  have hU1 : ((U : Int) == 0) = true := by rw [beq_iff_eq]; omega
  clear hp1 hp2 h0 hT
  go_enter Tryz.func229, Tryz.ntmps229
  go_wp2_with fail
  refine C1.out.mono ?_
  rintro e w1 ⟨rfl, rfl⟩
  go_wp2_with fail
  refine C2.out.mono ?_
  rintro e w1 ⟨rfl, rfl⟩
  go_wp2
  go_ret
  exact ⟨none, 0, rfl, fun _ _ => SlR.nil, Below.refl _ _⟩
theorem nmul_pos (l m : List Int) (n1 n2 : Nat) (a a' : Option Addr) (c c' : Nat) (w : World) (h : NatR w a c l) (h' : NatR w a' c' m) (hn : val l = n1) (hk : val m = n2) (hl : l.length <= 8000000) (hm : m.length <= 8000000) (h1 : n1 ≠ 0) (h2 : n2 ≠ 0) :
  Calls Tryz.prog 229 #[.slice a l.length c, .slice a' m.length c'] w (RetN (limbs (n1 * n2)) w) := by
 have C1 := trim_any l a c w h
 have C2 := trim_any m a' c' w h'
 have hP := h.trim
 have hQ := h'.trim
 have hl1 := limbs_len_val h.u16
 have hl2 := limbs_len_val h'.u16
 rw [hn] at C1 hP hl1
 rw [hk] at C2 hQ hl2
 have hup := limbs_u16 n1
 have huq := limbs_u16 n2
 have hvp := val_limbs n1
 have hvq := val_limbs n2
 have hp1 := limbs_len_pos.2 (show 0 < n1 by omega)
 have hp2 := limbs_len_pos.2 (show 0 < n2 by omega)
 obtain ⟨M, hM⟩ : ∃ M, n1 * n2 = M := ⟨_, rfl⟩
 rw [hM]
 have HM := Hd hM
 have hT0 : (limbs n1).length <= 8000000 := by omega
 have hU0 : (limbs n2).length <= 8000000 := by omega
 clear hl1 hl2 h h' hn hk hM h1 h2
 revert C1 C2 hP hQ hup huq hvp hvq hp1 hp2 hT0 hU0
 generalize limbs n1 = T
 generalize limbs n2 = U
 intro C1 C2 hP hQ hup huq hvp hvq hp1 hp2 hT0 hU0
 have HP := Hd hP
 have HQ := Hd hQ
 have HVP := Hd hvp
 have HVQ := Hd hvq
 have HUP := Hd hup
 have HUQ := Hd huq
 replace C1 := Hd C1; replace C2 := Hd C2
 have hT1 : ((T.length : Int) == 0) = false := by rw [beq_eq_false_iff_ne]; omega
 have hU1 : ((U.length : Int) == 0) = false := by rw [beq_eq_false_iff_ne]; omega
 have hmk : ∀ w, (Instr.makeSlice 60 (.int .i64 ((T.length : Int) + U.length)) (.int .i64 ((T.length : Int) + U.length))).run Tryz.prog w = .ok (.slice (some ⟨w.heap.size, 0, none⟩) (T.length + U.length) (T.length + U.length)) (w.alloc (.cells (madeCells #[.int .u16 0] (T.length + U.length)) 121)) := fun w => by
  have := run_make_nat .i64 (T.length + U.length) (by omega) w
  simpa using this
 clear hP hQ hvp hvq hup huq
 go_enter Tryz.func229, Tryz.ntmps229
 go_wp2_with fail
 refine C1.out.mono ?_
 rintro e w1 ⟨rfl, rfl⟩
 go_wp2_with fail
 refine C2.out.mono ?_
 rintro e w1 ⟨rfl, rfl⟩
 go_wp2
 clear hmk C1 C2 hT1 hU1
 have hz := BlkN.new w (T.length + U.length)
 have hb0 : Below w.heap.size w (w.alloc (.cells (madeCells #[.int .u16 0] (T.length + U.length)) 121)) := brf.alloc (nlr _) _
 revert hz hb0
 generalize w.alloc (.cells (madeCells #[.int .u16 0] (T.length + U.length)) 121) = w0
 intro hz hb0
 go_loopg [6, 7, 8, 9, 10, 31] T.length (fun g _ _ _ _ _ s31 wr => ∃ (i : Nat) (O : List Int), i + g = T.length /\ s31 = .int .i64 i /\ Hid (MulR T U O i) /\ BlkN wr w.heap.size O /\ Below w.heap.size w wr)
 case atStart => exact ⟨0, _, by omega, rfl, MulR.start T U, hz, hb0⟩
 case round =>
  clear hz hb0
  obtain ⟨i, O, hig, rfl, hR, hrow, hwr⟩ := hrel
  have HROW := Hd hrow
  have HIG := Hd hig
  clear hrow hig
  by_cases hlt : i < T.length
  ·
   obtain ⟨x, hx⟩ := get_of_lt hlt
   obtain ⟨hx0, hx1⟩ := HUP.out.get hx
   obtain ⟨bp, op, rfl, hcp⟩ := (HP.out.ext (xbw hwr)).cell hx
   have hI := hR.out.row x
   have HX := Hd hx
   have HI := Hd hI
   clear hx hI hR
   go_wp2
   clear hcp
   obtain ⟨wo, rfl⟩ : ∃ wo : World, wo = wr := ⟨_, rfl⟩
   obtain ⟨gk0, rfl⟩ : ∃ gk0 : Nat, gk0 = gk := ⟨_, rfl⟩
   go_loopg [8, 9, 10, 38] U.length (fun g s8 _ _ s38 w2 => ∃ (k cc : Nat) (O2 : List Int), k + g = U.length /\ s38 = .int .i64 k /\ s8 = .int .u32 cc /\ cc <= 65535 /\ Hid (MulI T U O2 i k cc x) /\ BlkN w2 w.heap.size O2 /\ Below w.heap.size w w2)
   case atStart => exact ⟨0, 0, O, by omega, rfl, rfl, by omega, HI.out, HROW.out, hwr⟩
   case round =>
    clear HI HROW hwr O
    obtain ⟨k, cc, O, hkg, rfl, rfl, hcc, hI, hrow, hwr⟩ := hrel
    have HROW := Hd hrow
    have HKG := Hd hkg
    clear hrow hkg
    by_cases hkn : k < U.length
    ·
     obtain ⟨y, hy⟩ := get_of_lt hkn
     obtain ⟨hy0, hy1⟩ := HUQ.out.get hy
     obtain ⟨bq, oq, rfl, hcq⟩ := (HQ.out.ext (xbw hwr)).cell hy
     obtain ⟨z, hz⟩ := get_of_lt (xs := O) (k := i + k) (by rw [hI.out.len]; omega)
     obtain ⟨hz0, hz1⟩ := hI.out.u16.get hz
     have hcell := HROW.out.cell hz
     have hfr := HROW.out.frozen (i + k)
     have hset := fun q : Int => HROW.out.set_ (i + k) q
     have HSET := Hd hset
     have hstep := fun (c2 d : Nat) => hI.out.next ⟨hx0, hx1⟩ hkn hz hy ⟨hy0, hy1⟩ (c2 := c2) (d := d)
     have hI2 : (i : Int) + k < (T.length : Int) + U.length := by omega
     have hxy : 0 <= x * y := Int.mul_nonneg hx0 hy0
     have hxy2 : x * y <= 4294836225 := by
      have := Int.mul_le_mul hx1 hy1 hy0 (by omega)
      omega
     obtain ⟨s, hs⟩ : ∃ s : Nat, (cc : Int) + (z + x * y) = (s : Int) := ⟨((cc : Int) + (z + x * y)).toNat, by omega⟩
     have hs2 : s = z.toNat + x.toNat * y.toNat + cc := by
      have ex : (x.toNat : Int) = x := by omega
      have ey : (y.toNat : Int) = y := by omega
      have ez : (z.toNat : Int) = z := by omega
      have : ((z.toNat + x.toNat * y.toNat + cc : Nat) : Int) = z + x * y + cc := by
       rw [Int.natCast_add, Int.natCast_add, Int.natCast_mul, ex, ey, ez]
      omega
     have hslt : s < 4294967296 := by omega
     obtain ⟨lo, hlo⟩ : ∃ lo, s % 65536 = lo := ⟨_, rfl⟩
     obtain ⟨c2, hc2⟩ : ∃ c2, s / 65536 = c2 := ⟨_, rfl⟩
     have HST := Hd (hstep c2 lo (by omega) (by omega))
     have hw16 : IntKind.u16.wrap (s : Int) = (lo : Int) := by rw [wrap16, hlo]
     have hdv : (s : Int) / 65536 = (c2 : Int) := by omega
     have hlo2 : lo <= 65535 := by omega
     have hc22 : c2 <= 65535 := by omega
     clear hset hstep hz hy hs2 hlo hc2 hI
     go_wp2
     go_roundg (gk - 1)
     case rel => exact ⟨k + 1, c2, O.set (i + k) (lo : Int), by have := HKG.out; omega, by go_num, rfl, by omega, HST.out, HSET.out lo, hwr.setCell (nlr _) _⟩
     case measure => have := HKG.out; omega
    ·
     obtain rfl : k = U.length := by have := HKG.out; omega
     have hdone := hI.out.done HX.out
     have HD := Hd hdone
     obtain ⟨z, hz⟩ := get_of_lt (xs := O) (k := i + U.length) (by rw [hI.out.len]; omega)
     have hcell := HROW.out.cell hz
     have hfr := HROW.out.frozen (i + U.length)
     have hset := fun q : Int => HROW.out.set_ (i + U.length) q
     have HSET := Hd hset
     have hI2 : (i : Int) + U.length < (T.length : Int) + U.length := by omega
     have hw16 : IntKind.u16.wrap (cc : Int) = (cc : Int) := by rw [wrap16, Nat.mod_eq_of_lt (by omega)]
     clear hset hz hdone hI
     go_wp2
     go_roundg (gk0 - 1)
     case rel => exact ⟨i + 1, O.set (i + U.length) (cc : Int), by have := HIG.out; omega, by go_num, HD.out, HSET.out cc, hwr.setCell (nlr _) _⟩
     case measure => have := HIG.out; omega
  ·
   obtain rfl : i = T.length := by have := HIG.out; omega
   have hvO : val O = M := by rw [hR.out.done, HVP.out, HVQ.out]; exact HM.out
   have hol := hR.out.len
   have hou := hR.out.u16
   have hcap : T.length + U.length <= maxLen := by unfold maxLen; omega
   have CT := trim_any O (some ⟨w.heap.size, 0, none⟩) (T.length + U.length) wr (HROW.out.readsV (nlr _) (New.refl _ _) hou (by rw [hol]; omega) hcap)
   have hread : ∀ V, New w.heap.size wr V -> NatR V (some ⟨w.heap.size, 0, none⟩) (T.length + U.length) (limbs M) := fun V hV => by
    rw [<- hvO]
    exact (HROW.out.readsV (nlr _) hV hou (by rw [hol]; omega) hcap).trim
   rw [hvO, hol] at CT
   have HRD := Hd hread
   replace CT := Hd CT
   clear hread hvO hR hol
   go_wp2_with fail
   refine CT.out.mono ?_
   rintro e w3 ⟨rfl, rfl⟩
   go_wp2
   go_ret
   exact ⟨_, _, rfl, HRD.out, hwr⟩
theorem nmul_any (l m : List Int) (n1 n2 : Nat) (a a' : Option Addr) (c c' : Nat) (w : World) (h : NatR w a c l) (h' : NatR w a' c' m) (hn : val l = n1) (hk : val m = n2) (hl : l.length <= 8000000) (hm : m.length <= 8000000) :
  Calls Tryz.prog 229 #[.slice a l.length c, .slice a' m.length c'] w (RetN (limbs (n1 * n2)) w) := by
 by_cases h1 : n1 = 0
 ·
  rw [h1, Nat.zero_mul, limbs_zero]
  exact nmul_zero l m n1 n2 a a' c c' w h h' hn hk (.inl h1)
 ·
  by_cases h2 : n2 = 0
  ·
   rw [h2, Nat.mul_zero, limbs_zero]
   exact nmul_zero l m n1 n2 a a' c c' w h h' hn hk (.inr h2)
  · exact nmul_pos l m n1 n2 a a' c c' w h h' hn hk hl hm h1 h2
theorem zmul_any (neg1 neg2 : Bool) (l m : List Int) (n1 n2 : Nat) (a a' : Option Addr) (c c' : Nat) (w : World) (h : NatR w a c l) (h' : NatR w a' c' m) (hn : val l = n1) (hk : val m = n2) (hl : l.length <= 2000000) (hm : m.length <= 2000000) :
  Calls Tryz.prog 228 #[.agg #[.bool neg1, .slice a l.length c], .agg #[.bool neg2, .slice a' m.length c']] w (RetZ ((neg1 != neg2) && decide (0 < n1 * n2)) (n1 * n2) w) := by
 have CM := fun W (hW : Below w.heap.size w W) => nmul_any l m n1 n2 a a' c c' W (h.ext (xbw hW)) (h'.ext (xbw hW)) hn hk (by omega) (by omega)
 have CF := fun a c W => made_any (neg1 != neg2) (n1 * n2) a c W
 obtain ⟨R, hR⟩ : ∃ q, ((neg1 != neg2) && decide (0 < n1 * n2)) = q := ⟨_, rfl⟩
 rw [hR] at CF ⊢
 have hR0 : True := trivial
 revert CM CF
 generalize n1 * n2 = n
 intro CM CF
 replace CM := Hd CM; replace CF := Hd CF
 have hz : Blk (((w.alloc (.cells #[.bool neg1, .slice a l.length c] 62)).alloc (.cells #[.bool neg2, .slice a' m.length c'] 62)).alloc (.cells #[.bool false, .slice none 0 0] 62)) (w.heap.size + 1 + 1) 62 #[.bool false, .slice none 0 0] := blk_at2 w _ _ _ _
 have hx1 : Blk (((w.alloc (.cells #[.bool neg1, .slice a l.length c] 62)).alloc (.cells #[.bool neg2, .slice a' m.length c'] 62)).alloc (.cells #[.bool false, .slice none 0 0] 62)) w.heap.size 62 #[.bool neg1, .slice a l.length c] := ((Blk.new w _ _).alloc _).alloc _
 have hx2 : Blk (((w.alloc (.cells #[.bool neg1, .slice a l.length c] 62)).alloc (.cells #[.bool neg2, .slice a' m.length c'] 62)).alloc (.cells #[.bool false, .slice none 0 0] 62)) (w.heap.size + 1) 62 #[.bool neg2, .slice a' m.length c'] := (blk_at1 w _ _ _).alloc _
 have hb0 : Below w.heap.size w (((w.alloc (.cells #[.bool neg1, .slice a l.length c] 62)).alloc (.cells #[.bool neg2, .slice a' m.length c'] 62)).alloc (.cells #[.bool false, .slice none 0 0] 62)) := by go_grown
 have hgB : w.heap.size <= w.heap.size + 1 + 1 := by omega
 clear h h' hn hk hR
 go_enter Tryz.func228, Tryz.ntmps228
 go_wp2
 revert hz hx1 hx2 hb0 hgB
 generalize ((w.alloc (.cells #[.bool neg1, .slice a l.length c] 62)).alloc (.cells #[.bool neg2, .slice a' m.length c'] 62)).alloc (.cells #[.bool false, .slice none 0 0] 62) = w0
 generalize w.heap.size + 1 + 1 = g
 intro hz hx1 hx2 hb0 hgB
 have k0 := held (hx1.cell 0); have k1 := held (hx1.cell 1); have k2 := held (hx2.cell 0); have k3 := held (hx2.cell 1)
 have s0 : Below w0.heap.size w0 w0.drew := brf.drew
 have hgl := hz.lt
 have hs0 := hb0.size
 have HR := Hd hR0
 clear hR0
 cases neg1 <;> cases neg2
 all_goals
  refine wp_region_mix (S := Below w0.heap.size w0) [(0, .q), (1, .q), (2, .q), (3, .q), (4, .q), (5, .q), (6, .q), (7, .q), (8, .q), (9, .l), (10, .t), (11, .t)] (by kernel_rfl) (by kernel_rfl) (by kernel_rfl) (fun d _ _ _ _ h => by cases d <;> exact h) (s0) ?_
  iterate 9 (refine wpMix_q rfl rfl (fun K hK => ?_); apply Exists.intro; refine ⟨fun w' hw' => ?_, ?_⟩; (focus (go_simp; try rfl)); go_simp; refine hK _ _ ?_; clear hK K)
  refine wpMix_l rfl rfl (fun K hK => ?_)
  go_simp
  refine (CM.out _ (bth hb0 s0)).mono ?_
  rintro r w1 ⟨a3, c3, rfl, hV3, hb1⟩
  dsimp only
  refine hK.out _ _ (bth s0 hb1) (fun _ => ?_)
  clear hK K
  have s1 := bth s0 hb1
  have HV := Hd hV3
  clear hV3
  refine wpMix_t rfl rfl (fun K hK => ?_)
  go_simp
  refine (CF.out _ _ _).mono ?_
  rintro r w2 ⟨rfl, hb2⟩
  dsimp only
  refine hK.out _ _ ?_
  clear hK K
  have s2 := bth s1 hb2
  have hz3 := hz.below' s2
  have z0 := hz3.cell 0; have z1 := hz3.cell 1; have f0 := hz3.frozen 0; have f1 := hz3.frozen 1
  have hw2 := bth hb0 s2
  clear k0 k1 k2 k3
  refine wpMix_t rfl rfl (fun K hK => ?_)
  go_simp
  refine hK.out _ _ ?_
  clear hK K
  refine wpMix_nil ?_
  go_wp2
  have hF := blk2 (x := .bool R) (y := .slice a3 (limbs n).length c3) hz3
  have e0 := hF.cell 0; have e1 := hF.cell 1
  refine bodyPost_ret (v := .agg #[.bool R, .slice a3 (limbs n).length c3]) (by simp [results, Tryz.results228, go_sem, e0, e1]) rfl ?_
  exact ⟨a3, c3, rfl, fun V hV => HV.out V ((back2 hV hs0 hgl).below hb2), below2 hw2 hgB⟩
theorem byValue_any (l m : List Int) (n1 n2 : Nat) (a a' : Option Addr) (c c' : Nat) (w : World) (h : NatR w a c l) (h' : NatR w a' c' m) (hn : val l = n1) (hk : val m = n2) :
  Calls Tryz.prog 299 #[.slice a l.length c, .slice a' m.length c'] w fun e w' => e = .returned (.int .i64 (cmpN n1 n2)) /\ Below w.heap.size w w' := by
 have C := cmp_any l m n1 n2 a a' c c' w h h' hn hk
 replace C := Hd C
 clear h h' hn hk
 go_enter Tryz.func299, Tryz.ntmps299
 go_wp2_with fail
 refine C.out.mono ?_
 rintro e w1 ⟨rfl, hb⟩
 go_wp2
 go_ret
 exact ⟨rfl, hb⟩
theorem zcmp_sgn (neg1 neg2 : Bool) (n1 n2 : Nat) : cmpI (zval neg1 n1) (zval neg2 n2) = if sgnZ neg1 n1 < sgnZ neg2 n2 then -1 else if sgnZ neg2 n2 < sgnZ neg1 n1 then 1 else if sgnZ neg1 n1 < 0 then cmpN n2 n1 else cmpN n1 n2 := by
 unfold cmpI zval cmpN sgnZ
 cases neg1 <;> cases neg2 <;> by_cases p1 : n1 = 0 <;> by_cases p2 : n2 = 0 <;> simp [p1, p2]
 all_goals (repeat' split) <;> omega
theorem sgnZ_in (neg : Bool) (n : Nat) : -1 <= sgnZ neg n /\ sgnZ neg n <= 1 := by unfold sgnZ; split <;> (try split) <;> omega
theorem zcmp_any (neg1 neg2 : Bool) (l m : List Int) (n1 n2 : Nat) (a a' : Option Addr) (c c' : Nat) (w : World) (h : NatR w a c l) (h' : NatR w a' c' m) (hn : val l = n1) (hk : val m = n2) (hl : l.length <= 4000000) (hm : m.length <= 4000000) :
  Calls Tryz.prog 268 #[.agg #[.bool neg1, .slice a l.length c], .agg #[.bool neg2, .slice a' m.length c']] w fun e w' => e = .returned (.int .i64 (cmpI (zval neg1 n1) (zval neg2 n2))) /\ Below w.heap.size w w' := by
 have C1 := fun W (hW : Below w.heap.size w W) => zsign_any neg1 l n1 a c W (h.ext (xbw hW)) hn (by omega)
 have C2 := fun W (hW : Below w.heap.size w W) => zsign_any neg2 m n2 a' c' W (h'.ext (xbw hW)) hk (by omega)
 have CA := fun W (hW : Below w.heap.size w W) => byValue_any l m n1 n2 a a' c c' W (h.ext (xbw hW)) (h'.ext (xbw hW)) hn hk
 have CB := fun W (hW : Below w.heap.size w W) => byValue_any m l n2 n1 a' a c' c W (h'.ext (xbw hW)) (h.ext (xbw hW)) hk hn
 have hres := zcmp_sgn neg1 neg2 n1 n2
 have i1 := sgnZ_in neg1 n1
 have i2 := sgnZ_in neg2 n2
 revert C1 C2 hres i1 i2
 generalize sgnZ neg1 n1 = s
 generalize sgnZ neg2 n2 = t
 intro C1 C2 hres i1 i2
 obtain ⟨R, hR⟩ : ∃ q, cmpI (zval neg1 n1) (zval neg2 n2) = q := ⟨_, rfl⟩
 rw [hR] at hres ⊢
 have HRES := Hd hres
 replace C1 := Hd C1; replace C2 := Hd C2; replace CA := Hd CA; replace CB := Hd CB
 have hx1 : Blk ((w.alloc (.cells #[.bool neg1, .slice a l.length c] 62)).alloc (.cells #[.bool neg2, .slice a' m.length c'] 62)) w.heap.size 62 #[.bool neg1, .slice a l.length c] := (Blk.new w _ _).alloc _
 have hx2 : Blk ((w.alloc (.cells #[.bool neg1, .slice a l.length c] 62)).alloc (.cells #[.bool neg2, .slice a' m.length c'] 62)) (w.heap.size + 1) 62 #[.bool neg2, .slice a' m.length c'] := blk_at1 w _ _ _
 have hb0 : Below w.heap.size w ((w.alloc (.cells #[.bool neg1, .slice a l.length c] 62)).alloc (.cells #[.bool neg2, .slice a' m.length c'] 62)) := by go_grown
 clear h h' hn hk hR hres
 go_enter Tryz.func268, Tryz.ntmps268
 go_wp2
 revert hx1 hx2 hb0
 generalize (w.alloc (.cells #[.bool neg1, .slice a l.length c] 62)).alloc (.cells #[.bool neg2, .slice a' m.length c'] 62) = w0
 generalize w.heap.size + 1 = g
 intro hx1 hx2 hb0
 have k0 := held (hx1.cell 0); have k1 := held (hx1.cell 1); have k2 := held (hx2.cell 0); have k3 := held (hx2.cell 1)
 have s0 : Below w0.heap.size w0 w0.drew := brf.drew
 refine wp_region_mix (S := Below w0.heap.size w0) [(0, .q), (2, .q), (1, .l), (3, .t), (4, .p), (5, .p)] (by kernel_rfl) (by kernel_rfl) (by kernel_rfl) (fun d _ _ _ _ h => by cases d <;> exact h) (s0) ?_
 iterate 2 (refine wpMix_q rfl rfl (fun K hK => ?_); apply Exists.intro; refine ⟨fun w' hw' => ?_, ?_⟩; (focus (go_simp; try rfl)); go_simp; refine hK _ _ ?_; clear hK K)
 refine wpMix_l rfl rfl (fun K hK => ?_)
 go_simp
 refine (C1.out _ (bth hb0 s0)).mono ?_
 rintro r w1 ⟨rfl, hb1⟩
 dsimp only
 refine hK.out _ _ (bth s0 hb1) (fun _ => ?_)
 clear hK K
 have s1 := bth s0 hb1
 refine wpMix_t rfl rfl (fun K hK => ?_)
 go_simp
 refine (C2.out _ (bth hb0 s1)).mono ?_
 rintro r w2 ⟨rfl, hb2⟩
 dsimp only
 refine hK.out _ _ ?_
 clear hK K
 have s2 := bth s1 hb2
 iterate 2 (refine wpMix_p rfl rfl (fun K hK => ?_); apply Exists.intro; refine ⟨fun w' => ?_, ?_⟩; (focus (go_simp; try rfl)); go_simp; refine hK _ _ ?_; clear hK K)
 refine wpMix_nil ?_
 have hy1 := hx1.below' s2
 have hy2 := hx2.below' s2
 have z0 := hy1.cell 0; have z1 := hy1.cell 1; have z2 := hy2.cell 0; have z3 := hy2.cell 1
 have hw2 := bth hb0 s2
 clear k0 k1 k2 k3 s0 s1 s2 hb1 hb2 C1 C2
 by_cases h1 : s < t
 ·
  obtain rfl : R = -1 := by rw [HRES.out, if_pos h1]
  go_wp2
  go_ret
  exact ⟨rfl, hw2⟩
 ·
  by_cases h2 : t < s
  ·
   obtain rfl : R = 1 := by rw [HRES.out, if_neg h1, if_pos h2]
   go_wp2
   go_ret
   exact ⟨rfl, hw2⟩
  ·
   by_cases h3 : s < 0
   ·
    obtain rfl : R = cmpN n2 n1 := by rw [HRES.out, if_neg h1, if_neg h2, if_pos h3]
    go_wp2_with fail
    refine (CB.out _ hw2).mono ?_
    rintro e w5 ⟨rfl, hb5⟩
    go_wp2
    go_ret
    exact ⟨rfl, bth hw2 hb5⟩
   ·
    obtain rfl : R = cmpN n1 n2 := by rw [HRES.out, if_neg h1, if_neg h2, if_neg h3]
    go_wp2_with fail
    refine (CA.out _ hw2).mono ?_
    rintro e w5 ⟨rfl, hb5⟩
    go_wp2
    go_ret
    exact ⟨rfl, bth hw2 hb5⟩
def NewIn (B T : Nat) (w V : World) : Prop := ∀ p v, B <= p.block -> p.block < T -> w.cell? p = some v -> V.cell? p = some v
def Kp (R : World -> Prop) (B T : Nat) (w : World) : Prop := ∀ V, NewIn B T w V -> R V
section
variable {R R' : World -> Prop} {B T : Nat} {w w' : World}
theorem Kp.now (h : Kp R B T w) : R w := h w fun _ _ _ _ h => h
theorem Kp.alloc (h : Kp R B T w) {o : Obj} : Kp R B T (w.alloc o) := fun V hV => h V fun p v h1 h2 h3 => hV p v h1 h2 ((World.cell?_alloc_lt w o p (World.block_lt_of_cell? w p h3)).trans h3)
theorem Kp.drew (h : Kp R B T w) : Kp R B T w.drew := h
theorem Kp.setc {g i : Nat} {u : Value} (hg : g < B \/ T <= g) (h : Kp R B T w) : Kp R B T (w.setCell ⟨g, i, none⟩ u) := fun V hV => h V fun p v h1 h2 h3 =>
 hV p v h1 h2 ((World.cell?_setCell_other w ⟨g, i, none⟩ p u (fun e => by subst e; simp at h1 h2; omega)).trans h3)
theorem Kp.call (h : Kp R B T w) (hb : Below w.heap.size w w') : Kp R B T w' := fun V hV => h V fun p v h1 h2 h3 => hV p v h1 h2 ((hb.cell (World.block_lt_of_cell? w p h3)).trans h3)
theorem Kp.made (h : ∀ V, New B w V -> R V) : Kp R B w.heap.size w := fun V hV => h V fun p v h1 h2 => hV p v h1 (World.block_lt_of_cell? w p h2) h2
end
section
variable {w w' : World} {g g2 i : Nat} {t : TypeId} {cs cs' : Array Value} {u : Value}
theorem Blk.newAt (h : g = w.heap.size) : Blk (w.alloc (.cells cs t)) g t cs := by subst h; exact Blk.new w t cs
theorem Blk.farAt (hg : g ≠ g2) (h : Blk w g t cs) : Blk (w.setCell ⟨g2, i, none⟩ u) g t cs := h.far (p := ⟨g2, i, none⟩) hg u
theorem Blk.setb (h : Blk w g t cs') (e : cs'.setIfInBounds i u = cs) : Blk (w.setCell ⟨g, i, none⟩ u) g t cs := e ▸ h.set_ i u
theorem bF (hg : g ≠ g2) (h : Blk w g t cs) : Blk (w.setCell ⟨g2, i, none⟩ u) g t cs := h.farAt hg
theorem bS (h : Blk w g t cs') (e : cs'.setIfInBounds i u = cs) : Blk (w.setCell ⟨g, i, none⟩ u) g t cs := h.setb e
theorem bN (h : g = w.heap.size) : Blk (w.alloc (.cells cs t)) g t cs := Blk.newAt h
theorem bA {o : Obj} (h : Blk w g t cs) : Blk (w.alloc o) g t cs := h.alloc o
theorem bD (h : Blk w g t cs) : Blk w.drew g t cs := h.drew
end
theorem calls_gen {P : Program} {f : Nat} {args : Array Value} {W : World} {Q : Ending -> World -> Prop} (R : World -> Prop) (hR : R W) (h : ∀ W', R W' -> Calls P f args W' Q) : Calls P f args W Q := h W hR
theorem world_gen {G : World -> Prop} {W : World} (R : World -> Prop) (hR : R W) (h : ∀ W', R W' -> G W') : G W := h W hR
def RetQ (neg : Bool) (n d : Nat) (w : World) (e : Ending) (w' : World) : Prop := ∃ na nc da dc, e = .returned (.agg #[.bool neg, .slice na (limbs n).length nc, .slice da (limbs d).length dc]) /\
 (∀ V, New w.heap.size w' V -> NatR V na nc (limbs n)) /\ (∀ V, New w.heap.size w' V -> NatR V da dc (limbs d)) /\ Below w.heap.size w w'
theorem over_zero (neg : Bool) (l m : List Int) (a a' : Option Addr) (c c' : Nat) (w : World) (h' : NatR w a' c' m) (hk : val m = 0) (hm : m.length <= 2000000) :
  Calls Tryz.prog 110 #[.agg #[.bool neg, .slice a l.length c], .slice a' m.length c'] w (RetQ false 0 1 w) := by
 have CN := fun W (hW : Below w.heap.size w W) => norm01_any m a' c' W (h'.ext (xbw hW)) (by omega)
 rw [hk, limbs_zero] at CN
 have CO := fun W => of01_any 1 W (by omega)
 replace CN := Hd CN; replace CO := Hd CO
 have hz : Blk ((w.alloc (.cells #[.bool neg, .slice a l.length c] 62)).alloc (.cells #[.bool false, .slice none 0 0, .slice none 0 0] 64)) (w.heap.size + 1) 64 #[.bool false, .slice none 0 0, .slice none 0 0] := blk_at1 w _ _ _
 have hb0 : Below w.heap.size w ((w.alloc (.cells #[.bool neg, .slice a l.length c] 62)).alloc (.cells #[.bool false, .slice none 0 0, .slice none 0 0] 64)) := by go_grown
 have hgB : w.heap.size <= w.heap.size + 1 := by omega
 unfold RetQ
 rw [limbs_zero]
 clear h' hk
 go_enter Tryz.func110, Tryz.ntmps110
 go_wp2_with fail
 have hgl := hz.lt
 revert hz hb0 hgB hgl
 generalize (w.alloc (.cells #[.bool neg, .slice a l.length c] 62)).alloc (.cells #[.bool false, .slice none 0 0, .slice none 0 0] 64) = w0
 generalize w.heap.size + 1 = g
 intro hz hb0 hgB hgl
 refine (CN.out _ hb0).mono ?_
 rintro e w1 ⟨a3, c3, rfl, _, hb1⟩
 have hw1 := bth hb0 hb1
 have hz1 := hz.below' hb1
 go_wp2_with fail
 refine (CO.out _).mono ?_
 rintro e w2 ⟨a1, c1, rfl, hV, hb2⟩
 have hw2 := bth hw1 hb2
 have hz2 := hz1.below' hb2
 have hg1 := hz1.lt
 have HV := Hd hV
 have z0 := hz2.cell 0; have z1 := hz2.cell 1; have z2 := hz2.cell 2; have f0 := hz2.frozen 0; have f1 := hz2.frozen 1; have f2 := hz2.frozen 2
 clear hV
 go_wp2
 have hF := blk3 (x := .bool false) (y := .slice none 0 0) (z := .slice a1 (limbs 1).length c1) hz2
 have e0 := hF.cell 0; have e1 := hF.cell 1; have e2 := hF.cell 2
 refine bodyPost_ret (v := .agg #[.bool false, .slice none 0 0, .slice a1 (limbs 1).length c1]) (by simp [results, Tryz.results110, go_sem, e0, e1, e2]) rfl ?_
 exact ⟨none, 0, a1, c1, rfl, fun _ _ => SlR.nil, fun V hV => HV.out V (back3 hV hw1.size hg1), below3 hw2 hgB⟩
theorem over_any (neg : Bool) (l m : List Int) (n d : Nat) (a a' : Option Addr) (c c' : Nat) (w : World) (h : NatR w a c l) (h' : NatR w a' c' m) (hn : val l = n) (hk : val m = d) (hl : l.length <= 2000000) (hm : m.length <= 2000000) (h0 : 0 < d) :
  Calls Tryz.prog 110 #[.agg #[.bool neg, .slice a l.length c], .slice a' m.length c'] w (RetQ (neg && decide (0 < n / Nat.gcd n d)) (n / Nat.gcd n d) (d / Nat.gcd n d) w) := by
 have hll := limbs_len_val h.u16
 have hlm := limbs_len_val h'.u16
 rw [hn] at hll
 rw [hk] at hlm
 have hgp : 0 < Nat.gcd n d := Nat.gcd_pos_of_pos_right n h0
 have hgd : Nat.gcd n d <= d := Nat.le_of_dvd h0 (Nat.gcd_dvd_right n d)
 have hgl0 := limbs_len_mono hgd
 have hnl := limbs_len_mono (Nat.div_le_self n (Nat.gcd n d))
 have CN := fun W (hW : Below w.heap.size w W) => norm01_any m a' c' W (h'.ext (xbw hW)) (by omega)
 rw [hk] at CN
 have CG := fun W (hW : Below w.heap.size w W) => gcd01_any l m n d a a' c c' W (h.ext (xbw hW)) (h'.ext (xbw hW)) hn hk hl hm
 have CD1 := fun ag cg W (hW : Below w.heap.size w W) hr => divMod01_any l (limbs (Nat.gcd n d)) n (Nat.gcd n d) a ag c cg W (h.ext (xbw hW)) hr hn (val_limbs _) hl (by omega) hgp
 have CD2 := fun ag cg W (hW : Below w.heap.size w W) hr => divMod01_any m (limbs (Nat.gcd n d)) d (Nat.gcd n d) a' ag c' cg W (h'.ext (xbw hW)) hr hk (val_limbs _) hm (by omega) hgp
 have CZ := fun ag cg W hr => znormR_any neg (limbs (n / Nat.gcd n d)) (n / Nat.gcd n d) ag cg W hr (val_limbs _) (by omega)
 have hne : (((limbs d).length : Int) == 0) = false := by rw [beq_eq_false_iff_ne]; have := limbs_len_pos.2 h0; omega
 obtain ⟨R, hR⟩ : ∃ q, (neg && decide (0 < n / Nat.gcd n d)) = q := ⟨_, rfl⟩
 rw [hR] at CZ ⊢
 unfold RetDM at CD1 CD2
 obtain ⟨gg, hgg⟩ : ∃ q, Nat.gcd n d = q := ⟨_, rfl⟩
 simp only [hgg] at CG CD1 CD2 CZ ⊢
 obtain ⟨N, hN⟩ : ∃ q, n / gg = q := ⟨_, rfl⟩
 obtain ⟨D, hD⟩ : ∃ q, d / gg = q := ⟨_, rfl⟩
 simp only [hN] at CD1 CZ ⊢
 simp only [hD] at CD2 ⊢
 replace CN := Hd CN; replace CG := Hd CG; replace CD1 := Hd CD1; replace CD2 := Hd CD2; replace CZ := Hd CZ
 have hz : Blk ((w.alloc (.cells #[.bool neg, .slice a l.length c] 62)).alloc (.cells #[.bool false, .slice none 0 0, .slice none 0 0] 64)) (w.heap.size + 1) 64 #[.bool false, .slice none 0 0, .slice none 0 0] := blk_at1 w _ _ _
 have hx : Blk ((w.alloc (.cells #[.bool neg, .slice a l.length c] 62)).alloc (.cells #[.bool false, .slice none 0 0, .slice none 0 0] 64)) w.heap.size 62 #[.bool neg, .slice a l.length c] := (Blk.new w _ _).alloc _
 have hb0 : Below w.heap.size w ((w.alloc (.cells #[.bool neg, .slice a l.length c] 62)).alloc (.cells #[.bool false, .slice none 0 0, .slice none 0 0] 64)) := by go_grown
 have hgB : w.heap.size <= w.heap.size + 1 := by omega
 clear h h' hn hk hll hlm hgp hgd hgl0 hnl hR hgg hN hD
 go_enter Tryz.func110, Tryz.ntmps110
 go_wp2_with fail
 have hgl := hz.lt
 revert hz hx hb0 hgB hgl
 generalize (w.alloc (.cells #[.bool neg, .slice a l.length c] 62)).alloc (.cells #[.bool false, .slice none 0 0, .slice none 0 0] 64) = w0
 generalize w.heap.size + 1 = g
 intro hz hx hb0 hgB hgl
 refine (CN.out _ hb0).mono ?_
 rintro e w1 ⟨a3, c3, rfl, _, hb1⟩
 have hw1 := bth hb0 hb1
 have hx1 := hx.below' hb1
 have hz1 := hz.below' hb1
 have z0 := hx1.cell 0; have z1 := hx1.cell 1
 clear hz hx hb1 hgl
 go_wp2_with fail
 refine (CG.out _ hw1).mono ?_
 rintro e w2 ⟨a4, c4, rfl, hV4, hb2⟩
 have hw2 := bth hw1 hb2
 have hx2 := hx1.below' hb2
 have hz2 := hz1.below' hb2
 have hr4 := hV4 w2 (New.refl _ _)
 have CE1 := CD1.out a4 c4 w2 hw2 hr4
 replace CE1 := Hd CE1
 clear z0 z1 hV4 hx1 hz1
 have z0 := hx2.cell 0; have z1 := hx2.cell 1
 go_wp2_with fail
 refine CE1.out.mono ?_
 rintro e w3 ⟨a5, c5, _, _, rfl, hV5, _, hb3⟩
 have hw3 := bth hw2 hb3
 have hx3 := hx2.below' hb3
 have hz3 := hz2.below' hb3
 have hg3 := hz3.lt
 have HV5 := Hd hV5
 have CE2 := CD2.out a4 c4 w3 hw3 (hr4.ext (xbw hb3))
 replace CE2 := Hd CE2
 clear z0 z1 hV5 hx2 hz2 hr4 CE1
 have z0 := hx3.cell 0; have z1 := hx3.cell 1
 go_wp2_with fail
 refine CE2.out.mono ?_
 rintro e w4 ⟨a6, c6, _, _, rfl, hV6, _, hb4⟩
 have hw4 := bth hw3 hb4
 have hx4 := hx3.below' hb4
 have hz4 := hz3.below' hb4
 have HV6 := Hd hV6
 have CF := CZ.out a5 c5 w4 (HV5.out w4 ((New.refl _ _).below hb4))
 replace CF := Hd CF
 clear z0 z1 hV6 hx3 hz3 CE2
 have z0 := hx4.cell 0; have z1 := hx4.cell 1
 go_wp2_with fail
 refine CF.out.mono ?_
 rintro e w5 ⟨a7, c7, rfl, hV7, hb5⟩
 have hw5 := bth hw4 hb5
 have hz5 := hz4.below' hb5
 have HV7 := Hd hV7
 have hg4 := hz4.lt
 clear z0 z1 hV7 hx4 CF
 have z0 := hz5.cell 0; have z1 := hz5.cell 1; have z2 := hz5.cell 2; have f0 := hz5.frozen 0; have f1 := hz5.frozen 1; have f2 := hz5.frozen 2
 go_wp2
 have hF := blk3 (x := .bool R) (y := .slice a7 (limbs N).length c7) (z := .slice a6 (limbs D).length c6) hz5
 have e0 := hF.cell 0; have e1 := hF.cell 1; have e2 := hF.cell 2
 refine bodyPost_ret (v := .agg #[.bool R, .slice a7 (limbs N).length c7, .slice a6 (limbs D).length c6]) (by simp [results, Tryz.results110, go_sem, e0, e1, e2]) rfl ?_
 exact ⟨a7, c7, a6, c6, rfl, fun V hV => HV7.out V (back3 hV hw4.size hg4), fun V hV => HV6.out V ((back3 hV hw3.size hg3).below hb5), below3 hw5 hgB⟩
def lowest (neg : Bool) (n d : Nat) : Bool × Nat × Nat := if d = 0 then (false, 0, 1) else (neg && decide (0 < n / Nat.gcd n d), n / Nat.gcd n d, d / Nat.gcd n d)
def RetF (t : Bool × Nat × Nat) (w : World) (e : Ending) (w' : World) : Prop := RetQ t.1 t.2.1 t.2.2 w e w'
theorem over_all (neg : Bool) (l m : List Int) (n d : Nat) (a a' : Option Addr) (c c' : Nat) (w : World) (h : NatR w a c l) (h' : NatR w a' c' m) (hn : val l = n) (hk : val m = d) (hl : l.length <= 2000000) (hm : m.length <= 2000000) :
  Calls Tryz.prog 110 #[.agg #[.bool neg, .slice a l.length c], .slice a' m.length c'] w (RetF (lowest neg n d) w) := by
 unfold RetF lowest
 by_cases h0 : d = 0
 ·
  rw [if_pos h0]
  exact over_zero neg l m a a' c c' w h' (by rw [hk, h0]) hm
 ·
  rw [if_neg h0]
  exact over_any neg l m n d a a' c c' w h h' hn hk hl hm (by omega)
theorem qnormR_any (neg : Bool) (l m : List Int) (n d : Nat) (a a' : Option Addr) (c c' : Nat) (w : World) (h : NatR w a c l) (h' : NatR w a' c' m) (hn : val l = n) (hk : val m = d) (hl : l.length <= 2000000) (hm : m.length <= 2000000) :
  Calls Tryz.prog 94 #[.agg #[.bool neg, .slice a l.length c, .slice a' m.length c']] w (RetF (lowest neg n d) w) := by
 have CO := fun W (hW : Below w.heap.size w W) => over_all neg l m n d a a' c c' W (h.ext (xbw hW)) (h'.ext (xbw hW)) hn hk hl hm
 obtain ⟨t, ht⟩ : ∃ t, lowest neg n d = t := ⟨_, rfl⟩
 rw [ht] at CO ⊢
 obtain ⟨s, N, D⟩ := t
 unfold RetF at CO ⊢
 dsimp only at CO ⊢
 replace CO := Hd CO
 have hz : Blk ((w.alloc (.cells #[.bool neg, .slice a l.length c, .slice a' m.length c'] 64)).alloc (.cells #[.bool false, .slice none 0 0, .slice none 0 0] 64)) (w.heap.size + 1) 64 #[.bool false, .slice none 0 0, .slice none 0 0] := blk_at1 w _ _ _
 have hb0 : Below w.heap.size w ((w.alloc (.cells #[.bool neg, .slice a l.length c, .slice a' m.length c'] 64)).alloc (.cells #[.bool false, .slice none 0 0, .slice none 0 0] 64)) := by go_grown
 have hgB : w.heap.size <= w.heap.size + 1 := by omega
 have hgl := hz.lt
 clear h h' hn hk ht
 go_enter Tryz.func94, Tryz.ntmps94
 go_wp2_with fail
 revert hz hb0 hgB hgl
 generalize (w.alloc (.cells #[.bool neg, .slice a l.length c, .slice a' m.length c'] 64)).alloc (.cells #[.bool false, .slice none 0 0, .slice none 0 0] 64) = w0
 generalize w.heap.size + 1 = g
 intro hz hb0 hgB hgl
 refine (CO.out _ hb0).mono ?_
 rintro e w1 ⟨a1, c1, a2, c2, rfl, hV1, hV2, hb1⟩
 have hw1 := bth hb0 hb1
 have hz1 := hz.below' hb1
 have HV1 := Hd hV1
 have HV2 := Hd hV2
 have z0 := hz1.cell 0; have z1 := hz1.cell 1; have z2 := hz1.cell 2; have f0 := hz1.frozen 0; have f1 := hz1.frozen 1; have f2 := hz1.frozen 2
 have hs0 := hb0.size
 clear hV1 hV2 hb0
 go_wp2
 have hF := blk3 (x := .bool s) (y := .slice a1 (limbs N).length c1) (z := .slice a2 (limbs D).length c2) hz1
 have e0 := hF.cell 0; have e1 := hF.cell 1; have e2 := hF.cell 2
 refine bodyPost_ret (v := .agg #[.bool s, .slice a1 (limbs N).length c1, .slice a2 (limbs D).length c2]) (by simp [results, Tryz.results94, go_sem, e0, e1, e2]) rfl ?_
 exact ⟨a1, c1, a2, c2, rfl, fun V hV => HV1.out V (back3 hV hs0 hgl), fun V hV => HV2.out V (back3 hV hs0 hgl), below3 hw1 hgB⟩
theorem lowest_pos (neg : Bool) (n d : Nat) : lowest (neg && decide (0 < n)) n d = lowest neg n d := by
 unfold lowest
 split
 · rfl
 ·
  next h0 =>
  by_cases hn : n = 0
  ·
   subst hn
   simp
  ·
   have : decide (0 < n) = true := by rw [decide_eq_true_eq]; omega
   rw [this, Bool.and_true]
theorem whole_any (n : Nat) (a : Option Addr) (c : Nat) (w : World) :
  Calls Tryz.prog 248 #[.slice a n c] w fun e w' => e = .returned (.agg #[.bool false, .slice a n c]) /\ Below w.heap.size w w' := by
 go_enter Tryz.func248, Tryz.ntmps248
 go_wp2
 have hF := Blk.new w 62 #[.bool false, .slice a n c]
 have e0 := hF.cell 0; have e1 := hF.cell 1
 refine bodyPost_ret (v := .agg #[.bool false, .slice a n c]) (by simp [results, Tryz.results248, go_sem]) rfl ?_
 exact ⟨rfl, brf.alloc (nlr _) _⟩
theorem limbs_int {z : Int} (hi : InInt z) : (limbs z.natAbs).length <= 4 := by
 obtain ⟨h1, h2⟩ := hi
 have : (65536 : Nat) ^ 4 = 18446744073709551616 := by decide
 exact limbs_len_le (by omega)
theorem qintR_any (z : Int) (w : World) (hi : InInt z) :
  Calls Tryz.prog 56 #[.int .i64 z] w (RetF (lowest (decide (z < 0)) z.natAbs 1) w) := by
 have hl4 := limbs_int hi
 have hl1 : (limbs 1).length <= 4 := limbs_len_le (by decide)
 have CZ := fun W => zintR_any z W hi
 have C1 := fun W => of01_any 1 W (by omega)
 have CO := fun a a' c c' W h h' => over_all (decide (z < 0)) (limbs z.natAbs) (limbs 1) z.natAbs 1 a a' c c' W h h' (val_limbs _) (val_limbs _) (by omega) (by omega)
 obtain ⟨t, ht⟩ : ∃ t, lowest (decide (z < 0)) z.natAbs 1 = t := ⟨_, rfl⟩
 obtain ⟨ng, hng⟩ : ∃ q, decide (z < 0) = q := ⟨_, rfl⟩
 obtain ⟨nz, hnz⟩ : ∃ q, z.natAbs = q := ⟨_, rfl⟩
 rw [ht] at CO ⊢
 simp only [hng, hnz] at CO CZ
 obtain ⟨s, N, D⟩ := t
 unfold RetF at CO ⊢
 dsimp only at CO ⊢
 replace CZ := Hd CZ; replace C1 := Hd C1; replace CO := Hd CO
 have hz : Blk (w.alloc (.cells #[.bool false, .slice none 0 0, .slice none 0 0] 64)) w.heap.size 64 #[.bool false, .slice none 0 0, .slice none 0 0] := Blk.new w _ _
 have hb0 : Below w.heap.size w (w.alloc (.cells #[.bool false, .slice none 0 0, .slice none 0 0] 64)) := brf.alloc (nlr _) _
 clear ht hng hnz hl4 hl1
 go_enter Tryz.func56, Tryz.ntmps56
 go_wp2_with fail
 revert hz hb0
 generalize w.alloc (.cells #[.bool false, .slice none 0 0, .slice none 0 0] 64) = w0
 intro hz hb0
 refine (CZ.out _).mono ?_
 rintro e w1 ⟨a1, c1, rfl, hV1, hb1⟩
 have hw1 := bth hb0 hb1
 have hz1 := hz.below' hb1
 have HV1 := Hd hV1
 clear hV1
 go_wp2_with fail
 refine (C1.out _).mono ?_
 rintro e w2 ⟨a2, c2, rfl, hV2, hb2⟩
 have hw2 := bth hw1 hb2
 have hz2 := hz1.below' hb2
 have CF := CO.out a1 a2 c1 c2 w2 (HV1.out w2 ((New.refl _ _).below hb2)) (hV2 w2 (New.refl _ _))
 replace CF := Hd CF
 clear hV2
 go_wp2_with fail
 refine CF.out.mono ?_
 rintro e w3 ⟨a3, c3, a4, c4, rfl, hV3, hV4, hb3⟩
 have hw3 := bth hw2 hb3
 have hz3 := hz2.below' hb3
 have HV3 := Hd hV3
 have HV4 := Hd hV4
 have hs2 := hw2.size
 have hgl2 := hz2.lt
 have z0 := hz3.cell 0; have z1 := hz3.cell 1; have z2 := hz3.cell 2; have f0 := hz3.frozen 0; have f1 := hz3.frozen 1; have f2 := hz3.frozen 2
 clear hV3 hV4
 go_wp2
 have hF := blk3 (x := .bool s) (y := .slice a3 (limbs N).length c3) (z := .slice a4 (limbs D).length c4) hz3
 have e0 := hF.cell 0; have e1 := hF.cell 1; have e2 := hF.cell 2
 refine bodyPost_ret (v := .agg #[.bool s, .slice a3 (limbs N).length c3, .slice a4 (limbs D).length c4]) (by simp [results, Tryz.results56, go_sem, e0, e1, e2]) rfl ?_
 exact ⟨a3, c3, a4, c4, rfl, fun V hV => HV3.out V (back3 hV hs2 hgl2), fun V hV => HV4.out V (back3 hV hs2 hgl2), below3 hw3 (nlr _)⟩
theorem qnegR_any (neg : Bool) (l m : List Int) (n d : Nat) (a a' : Option Addr) (c c' : Nat) (w : World) (h : NatR w a c l) (h' : NatR w a' c' m) (hn : val l = n) (hk : val m = d) (hl : l.length <= 2000000) (hm : m.length <= 2000000) :
  Calls Tryz.prog 114 #[.agg #[.bool neg, .slice a l.length c, .slice a' m.length c']] w (RetF (lowest (!neg) n d) w) := by
 have hll := limbs_len_val h.u16
 rw [hn] at hll
 have CN := fun W (hW : Below w.heap.size w W) => znegR_any neg l n a c W (h.ext (xbw hW)) hn (by omega)
 have CO := fun a1 c1 W h1 (hW : Below w.heap.size w W) => over_all (!neg && decide (0 < n)) (limbs n) m n d a1 a' c1 c' W h1 (h'.ext (xbw hW)) (val_limbs _) hk (by omega) hm
 simp only [lowest_pos] at CO
 obtain ⟨t, ht⟩ : ∃ t, lowest (!neg) n d = t := ⟨_, rfl⟩
 obtain ⟨ng, hng⟩ : ∃ q, (!neg && decide (0 < n)) = q := ⟨_, rfl⟩
 rw [ht] at CO ⊢
 rw [hng] at CO CN
 obtain ⟨s, N, D⟩ := t
 unfold RetF at CO ⊢
 dsimp only at CO ⊢
 replace CN := Hd CN; replace CO := Hd CO
 have hx : Blk ((w.alloc (.cells #[.bool neg, .slice a l.length c, .slice a' m.length c'] 64)).alloc (.cells #[.bool false, .slice none 0 0, .slice none 0 0] 64)) w.heap.size 64 #[.bool neg, .slice a l.length c, .slice a' m.length c'] := (Blk.new w _ _).alloc _
 have hz : Blk ((w.alloc (.cells #[.bool neg, .slice a l.length c, .slice a' m.length c'] 64)).alloc (.cells #[.bool false, .slice none 0 0, .slice none 0 0] 64)) (w.heap.size + 1) 64 #[.bool false, .slice none 0 0, .slice none 0 0] := blk_at1 w _ _ _
 have hb0 : Below w.heap.size w ((w.alloc (.cells #[.bool neg, .slice a l.length c, .slice a' m.length c'] 64)).alloc (.cells #[.bool false, .slice none 0 0, .slice none 0 0] 64)) := by go_grown
 have hgB : w.heap.size <= w.heap.size + 1 := by omega
 have hgl := hz.lt
 clear h h' hn hk ht hll hng
 go_enter Tryz.func114, Tryz.ntmps114
 go_wp2
 revert hx hz hb0 hgB hgl
 generalize (w.alloc (.cells #[.bool neg, .slice a l.length c, .slice a' m.length c'] 64)).alloc (.cells #[.bool false, .slice none 0 0, .slice none 0 0] 64) = w0
 generalize w.heap.size + 1 = g
 intro hx hz hb0 hgB hgl
 have k0 := held (hx.cell 0); have k1 := held (hx.cell 1); have k2 := held (hx.cell 2)
 have s0 : Below w0.heap.size w0 w0.drew := brf.drew
 refine wp_region_mix (S := Below w0.heap.size w0) [(0, .q), (1, .q), (3, .q), (4, .q), (2, .l), (5, .t), (6, .t)] (by kernel_rfl) (by kernel_rfl) (by kernel_rfl) (fun d _ _ _ _ h => by cases d <;> exact h) (s0) ?_
 iterate 4 (refine wpMix_q rfl rfl (fun K hK => ?_); apply Exists.intro; refine ⟨fun w' hw' => ?_, ?_⟩; (focus (go_simp; try rfl)); go_simp; refine hK _ _ ?_; clear hK K)
 refine wpMix_l rfl rfl (fun K hK => ?_)
 go_simp
 refine (CN.out _ (bth hb0 s0)).mono ?_
 rintro r w1 ⟨a3, c3, rfl, hV3, hb1⟩
 dsimp only
 refine hK.out _ _ (bth s0 hb1) (fun _ => ?_)
 clear hK K
 have s1 := bth s0 hb1
 have CF := CO.out a3 c3 w1 (hV3 w1 (New.refl _ _)) (bth hb0 s1)
 replace CF := Hd CF
 clear hV3
 refine wpMix_t rfl rfl (fun K hK => ?_)
 go_simp
 refine (CF.out).mono ?_
 rintro r w2 ⟨a1, c1, a2, c2, rfl, hV1, hV2, hb2⟩
 dsimp only
 refine hK.out _ _ ?_
 clear hK K
 have s2 := bth s1 hb2
 have hz3 := hz.below' s2
 have z0 := hz3.cell 0; have z1 := hz3.cell 1; have z2 := hz3.cell 2; have f0 := hz3.frozen 0; have f1 := hz3.frozen 1; have f2 := hz3.frozen 2
 have hw2 := bth hb0 s2
 have hs1 := (bth hb0 s1).size
 have hg1 : g < w1.heap.size := ltl hgl s1.size
 have HV1 := Hd hV1
 have HV2 := Hd hV2
 clear hV1 hV2 k0 k1 k2
 refine wpMix_t rfl rfl (fun K hK => ?_)
 go_simp
 refine hK.out _ _ ?_
 clear hK K
 refine wpMix_nil ?_
 go_wp2
 have hF := blk3 (x := .bool s) (y := .slice a1 (limbs N).length c1) (z := .slice a2 (limbs D).length c2) hz3
 have e0 := hF.cell 0; have e1 := hF.cell 1; have e2 := hF.cell 2
 refine bodyPost_ret (v := .agg #[.bool s, .slice a1 (limbs N).length c1, .slice a2 (limbs D).length c2]) (by simp [results, Tryz.results114, go_sem, e0, e1, e2]) rfl ?_
 exact ⟨a1, c1, a2, c2, rfl, fun V hV => HV1.out V (back3 hV hs1 hg1), fun V hV => HV2.out V (back3 hV hs1 hg1), below3 hw2 hgB⟩
end Go.Proofs.YtdnblkklgdnapaaGreatDoor
