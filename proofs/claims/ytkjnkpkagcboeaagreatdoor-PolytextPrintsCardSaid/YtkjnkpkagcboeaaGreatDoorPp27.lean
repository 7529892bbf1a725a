/- Walk: the text of a certificate by the program. -/
import Derived.Test.YtkjnkpkagcboeaaGreatDoorPp24
import Derived.Test.YtkjnkpkagcboeaaGreatDoorPp7
import Derived.Test.YtkjnkpkagcboeaaGreatDoorPp17
import Derived.Test.YtkjnkpkagcboeaaGreatDoorPp25
import Derived.Test.YtkjnkpkagcboeaaGreatDoorPp26
import Derived.Test.YtkjnkpkagcboeaaGreatDoorPp23
set_option linter.all false
set_option maxRecDepth 100000
set_option maxHeartbeats 4000000
namespace Go.Proofs.YtkjnkpkagcboeaaGreatDoor
open Go.RowKit
def joinT (q : Rat) (m : List Int) (names : List ByteArray) (k : Nat) : ByteArray := joinB (partsT q m names k) starB
theorem sgnQ_lt (q : Rat) : decide (sgnQ q < 0) = decide (q < 0) := by
 unfold sgnQ
 by_cases h : q = 0
 · subst h; rw [if_pos rfl]; rfl
 ·
  rw [if_neg h]
  by_cases h2 : q < 0
  · rw [if_pos h2]; simp [h2]
  · rw [if_neg h2]; simp [h2]
theorem ba_assoc (a b c : ByteArray) : a ++ b ++ c = a ++ (b ++ c) := by apply ba_ext; simp [ByteArray.data_append]
theorem joinT_size {q : Rat} {m : List Int} {names : List ByteArray} (hn : ∀ s ∈ names, s.size <= 1048576) (hm : ∀ x ∈ m, x <= 1048576) (ht : (textQ (absQ q)).length <= 20000002) (hml : m.length <= 64) (k : Nat) (hk : k <= m.length) : (joinT q m names k).size <= 1400000000 := by
 have hsh := joinB_size (partsT_short (q := q) (m := m) (names := names) (N := 1048576) (T := 20000002) hn hm ht k)
 have hpl := partsT_len q m names k
 exact Nat.le_trans hsh (Nat.le_trans (Nat.mul_le_mul_right _ (show _ <= 65 by omega)) (by omega))
theorem joinT_nil {q : Rat} {m : List Int} {names : List ByteArray} {k : Nat} {y : ByteArray} (h : partsT q m names k = []) (hs : partsT q m names (k + 1) = partsT q m names k ++ [y]) : joinT q m names k = ⟨#[]⟩ /\ joinT q m names (k + 1) = y := by
 unfold joinT
 rw [hs, h]
 exact ⟨rfl, joinB_one _ _⟩
theorem joinT_cons {q : Rat} {m : List Int} {names : List ByteArray} {k : Nat} {y : ByteArray} (h : partsT q m names k ≠ []) (hs : partsT q m names (k + 1) = partsT q m names k ++ [y]) : joinT q m names (k + 1) = joinT q m names k ++ starB ++ y := by
 unfold joinT
 rw [hs, joinB_snoc _ _ _ h]
theorem termR_any (z : QA) (q : Rat) (m : List Int) (names : List ByteArray) (aa na : Option Addr) (ac nc k : Nat) (w : World) (Hq : QK k w z q) (hk : k <= 1000) (hm : IntsR w aa ac m) (hn : StrsR w na nc names) (hl : m.length <= names.length) (hml : m.length <= 64)
  (hx : ∀ x ∈ m, 0 <= x /\ x <= 1048576) (hnz : ∀ s ∈ names, s.size <= 1048576) (hne : ∀ s ∈ names, s.size ≠ 0) :
  Calls Tryz.prog 33 #[.agg #[.bool z.neg, .slice z.a z.n z.c, .slice z.b z.m z.d, .slice aa m.length ac], .slice na names.length nc] w fun e w' => e = .returned (.string (termB q m names)) /\ Below w.heap.size w w' := by
 have hsz : (textQ (absQ q)).length <= 20000002 := textQ_len _ Hq.abs.2 (by omega)
 have HT := Hd hsz
 have HZ := Hd (fun W (hW : Below w.heap.size w W) => Hq.ext (xbw hW))
 have HM := Hd (fun W (hW : Below w.heap.size w W) => hm.ext (xbw hW))
 have HN := Hd hn; have HX := Hd hx; have HNZ := Hd hnz; have HML := Hd hml; have HNE := Hd hne
 clear Hq hm hn hx hnz hsz hml hne
 go_enter Tryz.func33, Tryz.ntmps33
 go_wp2_with fail
 refine calls_gen (fun W => Blk W w.heap.size 57 #[.bool z.neg, .slice z.a z.n z.c, .slice z.b z.m z.d, .slice aa m.length ac] /\ Blk W (w.heap.size + 1) 54 #[.bool z.neg, .slice z.a z.n z.c, .slice z.b z.m z.d] /\ Below w.heap.size w W) (by refine ⟨?_,?_,?_⟩<;>first|((with_reducible repeat first|assumption|(apply bF;focus omega)|apply bS|(apply bN;focus (simp;done))|apply bA|apply bD);all_goals rfl)|go_grown) ?_
 rintro w0 ⟨h0, h1, hw0⟩
 obtain ⟨g1, hg1⟩ : ∃ g, w.heap.size + 1 = g := ⟨_, rfl⟩
 rw [hg1] at h1 ⊢
 have hgg : w.heap.size < g1 := by omega
 clear hg1
 refine (signR_q z q k w0 (HZ.out w0 hw0) (by omega)).mono ?_
 rintro e w2 ⟨rfl, hb2⟩
 have hw2 := bth hw0 hb2
 replace h0 := h0.below' hb2; replace h1 := h1.below' hb2
 clear hb2 hw0
 have gl0 := h0.lt; have gl1 := h1.lt
 have hsg := sgnQ_lt q
 obtain ⟨sg, hsg2⟩ : ∃ r, sgnQ q = r := ⟨_, rfl⟩
 rw [hsg2] at hsg ⊢
 by_cases hq : q < 0
 ·
  rw [decide_eq_true hq] at hsg
  have hsi : sg < 0 := of_decide_eq_true hsg
  have hab := Hd (show -q = absQ q from (if_pos hq).symm)
  have x0 := h1.cell 0; have x1 := h1.cell 1; have x2 := h1.cell 2; have f0 := h1.frozen 0; have f1 := h1.frozen 1; have f2 := h1.frozen 2
  clear hsg hsg2 hq
  go_wp2_with fail
  refine (negR_q z q k w2 (HZ.out w2 hw2) (by omega)).mono ?_
  rintro e w4 ⟨y, rfl, J, hb4⟩
  have hw4 := bth hw2 hb4
  replace h0 := h0.below' hb4; replace h1 := h1.below' hb4
  have K := Hd J
  have y0 := h1.cell 0; have y1 := h1.cell 1; have y2 := h1.cell 2; have f3 := h1.frozen 0; have f4 := h1.frozen 1; have f5 := h1.frozen 2
  clear x0 x1 x2 f0 f1 f2 J hb4 hw2
  go_wp2
  refine world_gen (fun W => Blk W w.heap.size 57 #[.bool z.neg, .slice z.a z.n z.c, .slice z.b z.m z.d, .slice aa m.length ac] /\ Blk W g1 54 #[.bool y.neg, .slice y.a y.n y.c, .slice y.b y.m y.d] /\ Below w.heap.size w W /\ Kp (fun V => QK k V y (-q)) w2.heap.size w4.heap.size W) ⟨by ((with_reducible repeat first|assumption|(apply bF;focus omega)|apply bS|(apply bN;focus (simp;done))|apply bA|apply bD);all_goals rfl), by ((with_reducible repeat first|assumption|(apply bF;focus omega)|apply bS|(apply bN;focus (simp;done))|apply bA|apply bD);all_goals rfl), by go_grown, by (with_reducible repeat first | exact K.out | (refine Kp.setc ?_ ?_; focus omega) | refine Kp.alloc ?_ | refine Kp.drew ?_)⟩ ?_
  clear y0 y1 y2 f3 f4 f5 h0 h1 hw4
  rintro w5 ⟨h0, h1, hw2, K2⟩
  have HQ := Hd (show ∀ W, Below w5.heap.size w5 W -> QK k W y (absQ q) from fun W hW => by rw [<- hab.out]; exact (K2.call hW).now)
  obtain ⟨w6, rfl⟩ : ∃ W, W = w2 := ⟨_, rfl⟩
  obtain ⟨w2, rfl⟩ : ∃ W, W = w5 := ⟨_, rfl⟩
  clear K K2 hab HZ gl0 gl1 hsi
  have s0 : Below w2.heap.size w2 w2.drew := brf.drew
  have k03 := held (h0.cell 3)
  have k10 := held (h1.cell 0); have k11 := held (h1.cell 1); have k12 := held (h1.cell 2)
  by_cases hm0 : m.length = 0
  ·
   have hl0 : ((m.length : Int) == 0) = true := by rw [beq_iff_eq]; omega
   have hcf := Hd (show cofP q m = [ofL (textQ (absQ q))] from if_pos (.inl hm0))
   clear hm0
   go_wp2
   refine wp_region_mix (S := Below w2.heap.size w2) [(0, .q), (1, .q), (2, .q), (3, .q), (4, .q), (5, .q), (6, .l), (7, .t), (8, .p), (9, .p)] (by kernel_rfl) (by kernel_rfl) (by kernel_rfl) (fun d _ _ _ _ h => by cases d <;> exact h) (s0) ?_
   iterate 5 (refine wpMix_q rfl rfl (fun K hK => ?_); apply Exists.intro; refine ⟨fun w' hw' => ?_, ?_⟩; (focus (go_simp; try rfl)); go_simp; refine hK _ _ ?_; clear hK K)
   iterate 4 (refine wpMix_skip rfl rfl (fun K hK => ?_); go_simp; refine hK _ _ ?_; clear hK K)
   iterate 1 (refine wpMix_p rfl rfl (fun K hK => ?_); apply Exists.intro; refine ⟨fun w' => ?_, ?_⟩; (focus (go_simp; try rfl)); go_simp; refine hK _ _ ?_; clear hK K)
   refine wpMix_nil ?_
   replace h0 := h0.below' s0; replace h1 := h1.below' s0
   clear k03 k10 k11 k12
   obtain ⟨w1, hw1⟩ : ∃ W, w2.drew = W := ⟨_, rfl⟩
   rw [hw1] at h0 h1 s0 ⊢
   clear hw1
   have CT := textR_q y (absQ q) k w1 (HQ.out w1 s0) (by omega)
   have x0 := h1.cell 0; have x1 := h1.cell 1; have x2 := h1.cell 2
   replace CT := Hd CT
   go_wp2_with fail
   refine CT.out.mono ?_
   rintro e w3 ⟨rfl, hb3⟩
   have hw3 := bth hw2 (bth s0 hb3)
   replace h0 := h0.below' hb3
   have hj0 := Hd (show joinT q m names 0 = ofL (textQ (absQ q)) by unfold joinT; rw [partsT_zero, hcf.out]; exact joinB_one _ _)
   clear x0 x1 x2 hb3 CT h1 s0 HQ hcf
   go_wp2
   go_loopg [6, 7] m.length (fun g s6 s7 wr => ∃ (k2 : Nat), Hid (k2 + g = m.length) /\ s7 = .int .i64 k2 /\ s6 = .string (joinT q m names k2) /\ Below w3.heap.size w3 wr)
   case atStart => exact ⟨0, by show _ = _; omega, rfl, by rw [hj0.out], Below.refl _ _⟩
   case round =>
    obtain ⟨k2, hk2, rfl, rfl, hwr⟩ := hrel
    have hg0 := h0.below' hwr
    have x3 := hg0.cell 3
    have k3 := held x3
    by_cases hlt : k2 < m.length
    ·
     obtain ⟨x, hx⟩ := get_of_lt hlt
     obtain ⟨bm, om, rfl, hcx, hxw⟩ := (HM.out wr (bth hw3 hwr)).2.2 k2 x hx
     simp only [Nat.mul_one] at hcx
     obtain ⟨hx0, hx1⟩ := HX.out x (List.mem_of_getElem? hx)
     obtain ⟨xn, rfl⟩ : ∃ xn : Nat, x = (xn : Int) := ⟨x.toNat, by omega⟩
     have hkn : k2 < names.length := by omega
     obtain ⟨s, hs⟩ := get_of_lt hkn
     obtain ⟨bn, on, rfl, hcn⟩ := HN.out.2.2 k2 s hs
     simp only [Nat.mul_one] at hcn
     have hcn2 := held hcn wr (bth hw3 hwr)
     have hsn : nameA names k2 = s := by unfold nameA; rw [List.getD_eq_getElem?_getD, hs]; rfl
     have hss := HNZ.out s (List.mem_of_getElem? hs)
     have hsu := partsT_succ (q := q) (names := names) hx
     have hjs := joinT_size HNZ.out (fun x hx => (HX.out x hx).2) HT.out HML.out (q := q) k2 (by omega)
     have hne : partsT q m names k2 ≠ [] -> (joinT q m names k2).size ≠ 0 := fun h => joinB_ne h (partsT_ne HNE.out hl (textQ_ne _) k2 (by omega)) _
     replace hsn := Hd hsn; replace hsu := Hd hsu; replace hne := Hd hne
     have hcx2 := held hcx
     have hml := HML.out
     have hgk := hk2.out
     clear hxw hs hx hcn
     by_cases hz : xn = 0
     ·
      have hp : joinT q m names (k2 + 1) = joinT q m names k2 := by unfold joinT; rw [hsu.out, facP_none (by omega), List.append_nil]
      replace hp := Hd hp
      have hxe : ((xn : Int) == 0) = true := by rw [beq_iff_eq]; omega
      clear hz
      go_wp2
      go_roundg (gk - 1)
      case rel => exact ⟨k2 + 1, by have := hk2.out; show _ = _; omega, by go_num, by rw [hp.out], hwr⟩
      case measure => have := hk2.out; omega
     ·
      have hxe : ((xn : Int) == 0) = false := by rw [beq_eq_false_iff_ne]; omega
      obtain ⟨J, hJ⟩ : ∃ J, joinT q m names k2 = J := ⟨_, rfl⟩
      rw [hJ] at hjs hne ⊢
      by_cases h1 : xn = 1
      ·
       have hp : partsT q m names (k2 + 1) = partsT q m names k2 ++ [s] := by rw [hsu.out, h1, show ((1 : Nat) : Int) = 1 from rfl, facP_one, hsn.out]
       have hgt : decide ((1 : Int) < (xn : Int)) = false := by rw [decide_eq_false]; omega
       by_cases hpn : partsT q m names k2 = []
       ·
        obtain ⟨e1, e2⟩ := joinT_nil hpn hp
        obtain rfl : J = ⟨#[]⟩ := by rw [<- hJ]; exact e1
        have hr := Hd (show joinT q m names (k2 + 1) = ⟨#[]⟩ ++ s from e2.trans (by apply ba_ext; simp [ByteArray.data_append]))
        clear hp hpn e1 e2 hJ hz h1
        go_wp2
        go_roundg (gk - 1)
        case rel => exact ⟨k2 + 1, by have := hk2.out; show _ = _; omega, by go_num, by rw [hr.out], hwr⟩
        case measure => have := hk2.out; omega
       ·
        have e2 := joinT_cons hpn hp
        rw [hJ] at e2
        have hse : J.toList.isEmpty = false := by rw [str_isEmpty]; simp; exact fun e => hne.out hpn (by rw [e]; rfl)
        have hse2 : J.toList ≠ [] := by intro e; rw [e] at hse; cases hse
        have hr := Hd (show joinT q m names (k2 + 1) = J ++ ⟨#[42]⟩ ++ s from e2)
        clear hp hpn e2 hJ hz h1
        go_wp2
        go_roundg (gk - 1)
        case rel => exact ⟨k2 + 1, by have := hk2.out; show _ = _; omega, by go_num, by rw [hr.out], hwr⟩
        case measure => have := hk2.out; omega
      ·
       have hp : partsT q m names (k2 + 1) = partsT q m names k2 ++ [s ++ ⟨#[94]⟩ ++ ofL (textN xn)] := by rw [hsu.out, facP_more (by omega), hsn.out, Int.toNat_natCast]
       have hgt : decide ((1 : Int) < (xn : Int)) = true := by rw [decide_eq_true_eq]; omega
       by_cases hpn : partsT q m names k2 = []
       ·
        obtain ⟨e1, e2⟩ := joinT_nil hpn hp
        obtain rfl : J = ⟨#[]⟩ := by rw [<- hJ]; exact e1
        have hr := Hd (show joinT q m names (k2 + 1) = ⟨#[]⟩ ++ (s ++ ⟨#[94]⟩ ++ ofL (textN xn)) from e2.trans (by apply ba_ext; simp [ByteArray.data_append]))
        clear hp hpn e1 e2 hJ hz h1
        have hx64 : (xn : Int) % 18446744073709551616 = (xn : Int) := by omega
        have C1 := Hd (fun W => of01_any xn W (by omega))
        have hll : (limbs xn).length <= 2 := limbs_len_le (by omega)
        have hsz1 : (ofL (textN xn)).size <= 10 := by rw [ofL_size]; have := digs_1m (xn : Int) hx1; rwa [Int.toNat_natCast] at this
        have CT := Hd (fun a' c' W (h : NatR W a' c' (limbs xn)) => text01_any (limbs xn) xn a' c' W h (val_limbs _) (by omega))
        go_wp2_with fail
        refine (C1.out _).mono ?_
        rintro e w4 ⟨a4, c4, rfl, hV4, hb4⟩
        have CT2 := Hd (CT.out a4 c4 w4 (hV4 w4 (New.refl _ _)))
        have hw4 := bth hwr hb4
        clear hV4 CT C1
        go_wp2_with fail
        refine CT2.out.mono ?_
        rintro e w5 ⟨rfl, hb5⟩
        have hw5 := bth hw4 hb5
        clear CT2
        go_wp2
        go_roundg (gk - 1)
        case rel => exact ⟨k2 + 1, by have := hk2.out; show _ = _; omega, by go_num, by rw [hr.out, <- ba_assoc, <- ba_assoc], hw5⟩
        case measure => have := hk2.out; omega
       ·
        have e2 := joinT_cons hpn hp
        rw [hJ] at e2
        have hse : J.toList.isEmpty = false := by rw [str_isEmpty]; simp; exact fun e => hne.out hpn (by rw [e]; rfl)
        have hse2 : J.toList ≠ [] := by intro e; rw [e] at hse; cases hse
        have hr := Hd (show joinT q m names (k2 + 1) = J ++ ⟨#[42]⟩ ++ (s ++ ⟨#[94]⟩ ++ ofL (textN xn)) from e2)
        clear hp hpn e2 hJ hz h1
        have hx64 : (xn : Int) % 18446744073709551616 = (xn : Int) := by omega
        have C1 := Hd (fun W => of01_any xn W (by omega))
        have hll : (limbs xn).length <= 2 := limbs_len_le (by omega)
        have hsz1 : (ofL (textN xn)).size <= 10 := by rw [ofL_size]; have := digs_1m (xn : Int) hx1; rwa [Int.toNat_natCast] at this
        have CT := Hd (fun a' c' W (h : NatR W a' c' (limbs xn)) => text01_any (limbs xn) xn a' c' W h (val_limbs _) (by omega))
        go_wp2_with fail
        refine (C1.out _).mono ?_
        rintro e w4 ⟨a4, c4, rfl, hV4, hb4⟩
        have CT2 := Hd (CT.out a4 c4 w4 (hV4 w4 (New.refl _ _)))
        have hw4 := bth hwr hb4
        clear hV4 CT C1
        go_wp2_with fail
        refine CT2.out.mono ?_
        rintro e w5 ⟨rfl, hb5⟩
        have hw5 := bth hw4 hb5
        clear CT2
        go_wp2
        go_roundg (gk - 1)
        case rel => exact ⟨k2 + 1, by have := hk2.out; show _ = _; omega, by go_num, by rw [hr.out, <- ba_assoc, <- ba_assoc], hw5⟩
        case measure => have := hk2.out; omega
    ·
     have hkm : k2 = m.length := by have := hk2.out; omega
     have hfin := Hd (show joinT q m names k2 = termB q m names by rw [hkm]; rfl)
     clear hkm
     go_wp2
     go_ret
     exact ⟨ret_str hfin.out, bth hw3 hwr⟩
  ·
   have hl0 : ((m.length : Int) == 0) = false := by rw [beq_eq_false_iff_ne]; omega
   have CE := fun yy W h1 h2 => equalR_q y yy (absQ q) 1 (k + 1) W h1 h2 (by omega)
   obtain ⟨bo, hbo⟩ : ∃ b, decide (absQ q = 1) = b := ⟨_, rfl⟩
   simp only [hbo] at CE
   replace CE := Hd CE; replace hbo := Hd hbo
   go_wp2
   refine wp_region_mix (S := Below w2.heap.size w2) [(0, .q), (1, .q), (2, .q), (3, .q), (4, .q), (5, .q), (6, .l), (7, .t), (8, .p), (9, .p)] (by kernel_rfl) (by kernel_rfl) (by kernel_rfl) (fun d _ _ _ _ h => by cases d <;> exact h) (s0) ?_
   iterate 6 (refine wpMix_q rfl rfl (fun K hK => ?_); apply Exists.intro; refine ⟨fun w' hw' => ?_, ?_⟩; (focus (go_simp; try rfl)); go_simp; refine hK _ _ ?_; clear hK K)
   refine wpMix_l rfl rfl (fun K hK => ?_)
   go_simp
   refine (unitR_q _).mono ?_
   rintro r u1 ⟨y1, rfl, J, hb1⟩
   dsimp only
   refine hK.out _ _ (bth s0 hb1) (fun _ => ?_)
   clear hK K
   have s1 := bth s0 hb1
   refine wpMix_t rfl rfl (fun K hK => ?_)
   go_simp
   refine (CE.out y1 _ (QK.more (HQ.out _ s1) (by omega)) (QK.more J.now (by omega))).mono ?_
   rintro r w1 ⟨rfl, hb2⟩
   dsimp only
   refine hK.out _ _ ?_
   clear hK K
   have s2 := bth s1 hb2
   iterate 2 (refine wpMix_p rfl rfl (fun K hK => ?_); apply Exists.intro; refine ⟨fun w' => ?_, ?_⟩; (focus (go_simp; try rfl)); go_simp; refine hK _ _ ?_; clear hK K)
   refine wpMix_nil ?_
   clear k03 k10 k11 k12
   replace h0 := h0.below' s2; replace h1 := h1.below' s2; replace s0 := s2
   clear s1 s2 hb1 hb2 J CE
   cases bo
   ·
    have hcf := Hd (show cofP q m = [ofL (textQ (absQ q))] from if_pos (.inr (of_decide_eq_false hbo.out)))
    clear hbo
    have CT := textR_q y (absQ q) k w1 (HQ.out w1 s0) (by omega)
    have x0 := h1.cell 0; have x1 := h1.cell 1; have x2 := h1.cell 2
    replace CT := Hd CT
    go_wp2_with fail
    refine CT.out.mono ?_
    rintro e w3 ⟨rfl, hb3⟩
    have hw3 := bth hw2 (bth s0 hb3)
    replace h0 := h0.below' hb3
    have hj0 := Hd (show joinT q m names 0 = ofL (textQ (absQ q)) by unfold joinT; rw [partsT_zero, hcf.out]; exact joinB_one _ _)
    clear x0 x1 x2 hb3 CT h1 s0 HQ hcf
    go_wp2
    go_loopg [6, 7] m.length (fun g s6 s7 wr => ∃ (k2 : Nat), Hid (k2 + g = m.length) /\ s7 = .int .i64 k2 /\ s6 = .string (joinT q m names k2) /\ Below w3.heap.size w3 wr)
    case atStart => exact ⟨0, by show _ = _; omega, rfl, by rw [hj0.out], Below.refl _ _⟩
    case round =>
     obtain ⟨k2, hk2, rfl, rfl, hwr⟩ := hrel
     have hg0 := h0.below' hwr
     have x3 := hg0.cell 3
     have k3 := held x3
     by_cases hlt : k2 < m.length
     ·
      obtain ⟨x, hx⟩ := get_of_lt hlt
      obtain ⟨bm, om, rfl, hcx, hxw⟩ := (HM.out wr (bth hw3 hwr)).2.2 k2 x hx
      simp only [Nat.mul_one] at hcx
      obtain ⟨hx0, hx1⟩ := HX.out x (List.mem_of_getElem? hx)
      obtain ⟨xn, rfl⟩ : ∃ xn : Nat, x = (xn : Int) := ⟨x.toNat, by omega⟩
      have hkn : k2 < names.length := by omega
      obtain ⟨s, hs⟩ := get_of_lt hkn
      obtain ⟨bn, on, rfl, hcn⟩ := HN.out.2.2 k2 s hs
      simp only [Nat.mul_one] at hcn
      have hcn2 := held hcn wr (bth hw3 hwr)
      have hsn : nameA names k2 = s := by unfold nameA; rw [List.getD_eq_getElem?_getD, hs]; rfl
      have hss := HNZ.out s (List.mem_of_getElem? hs)
      have hsu := partsT_succ (q := q) (names := names) hx
      have hjs := joinT_size HNZ.out (fun x hx => (HX.out x hx).2) HT.out HML.out (q := q) k2 (by omega)
      have hne : partsT q m names k2 ≠ [] -> (joinT q m names k2).size ≠ 0 := fun h => joinB_ne h (partsT_ne HNE.out hl (textQ_ne _) k2 (by omega)) _
      replace hsn := Hd hsn; replace hsu := Hd hsu; replace hne := Hd hne
      have hcx2 := held hcx
      have hml := HML.out
      have hgk := hk2.out
      clear hxw hs hx hcn
      by_cases hz : xn = 0
      ·
       have hp : joinT q m names (k2 + 1) = joinT q m names k2 := by unfold joinT; rw [hsu.out, facP_none (by omega), List.append_nil]
       replace hp := Hd hp
       have hxe : ((xn : Int) == 0) = true := by rw [beq_iff_eq]; omega
       clear hz
       go_wp2
       go_roundg (gk - 1)
       case rel => exact ⟨k2 + 1, by have := hk2.out; show _ = _; omega, by go_num, by rw [hp.out], hwr⟩
       case measure => have := hk2.out; omega
      ·
       have hxe : ((xn : Int) == 0) = false := by rw [beq_eq_false_iff_ne]; omega
       obtain ⟨J, hJ⟩ : ∃ J, joinT q m names k2 = J := ⟨_, rfl⟩
       rw [hJ] at hjs hne ⊢
       by_cases h1 : xn = 1
       ·
        have hp : partsT q m names (k2 + 1) = partsT q m names k2 ++ [s] := by rw [hsu.out, h1, show ((1 : Nat) : Int) = 1 from rfl, facP_one, hsn.out]
        have hgt : decide ((1 : Int) < (xn : Int)) = false := by rw [decide_eq_false]; omega
        by_cases hpn : partsT q m names k2 = []
        ·
         obtain ⟨e1, e2⟩ := joinT_nil hpn hp
         obtain rfl : J = ⟨#[]⟩ := by rw [<- hJ]; exact e1
         have hr := Hd (show joinT q m names (k2 + 1) = ⟨#[]⟩ ++ s from e2.trans (by apply ba_ext; simp [ByteArray.data_append]))
         clear hp hpn e1 e2 hJ hz h1
         go_wp2
         go_roundg (gk - 1)
         case rel => exact ⟨k2 + 1, by have := hk2.out; show _ = _; omega, by go_num, by rw [hr.out], hwr⟩
         case measure => have := hk2.out; omega
        ·
         have e2 := joinT_cons hpn hp
         rw [hJ] at e2
         have hse : J.toList.isEmpty = false := by rw [str_isEmpty]; simp; exact fun e => hne.out hpn (by rw [e]; rfl)
         have hse2 : J.toList ≠ [] := by intro e; rw [e] at hse; cases hse
         have hr := Hd (show joinT q m names (k2 + 1) = J ++ ⟨#[42]⟩ ++ s from e2)
         clear hp hpn e2 hJ hz h1
         go_wp2
         go_roundg (gk - 1)
         case rel => exact ⟨k2 + 1, by have := hk2.out; show _ = _; omega, by go_num, by rw [hr.out], hwr⟩
         case measure => have := hk2.out; omega
       ·
        have hp : partsT q m names (k2 + 1) = partsT q m names k2 ++ [s ++ ⟨#[94]⟩ ++ ofL (textN xn)] := by rw [hsu.out, facP_more (by omega), hsn.out, Int.toNat_natCast]
        have hgt : decide ((1 : Int) < (xn : Int)) = true := by rw [decide_eq_true_eq]; omega
        by_cases hpn : partsT q m names k2 = []
        ·
         obtain ⟨e1, e2⟩ := joinT_nil hpn hp
         obtain rfl : J = ⟨#[]⟩ := by rw [<- hJ]; exact e1
         have hr := Hd (show joinT q m names (k2 + 1) = ⟨#[]⟩ ++ (s ++ ⟨#[94]⟩ ++ ofL (textN xn)) from e2.trans (by apply ba_ext; simp [ByteArray.data_append]))
         clear hp hpn e1 e2 hJ hz h1
         have hx64 : (xn : Int) % 18446744073709551616 = (xn : Int) := by omega
         have C1 := Hd (fun W => of01_any xn W (by omega))
         have hll : (limbs xn).length <= 2 := limbs_len_le (by omega)
         have hsz1 : (ofL (textN xn)).size <= 10 := by rw [ofL_size]; have := digs_1m (xn : Int) hx1; rwa [Int.toNat_natCast] at this
         have CT := Hd (fun a' c' W (h : NatR W a' c' (limbs xn)) => text01_any (limbs xn) xn a' c' W h (val_limbs _) (by omega))
         go_wp2_with fail
         refine (C1.out _).mono ?_
         rintro e w4 ⟨a4, c4, rfl, hV4, hb4⟩
         have CT2 := Hd (CT.out a4 c4 w4 (hV4 w4 (New.refl _ _)))
         have hw4 := bth hwr hb4
         clear hV4 CT C1
         go_wp2_with fail
         refine CT2.out.mono ?_
         rintro e w5 ⟨rfl, hb5⟩
         have hw5 := bth hw4 hb5
         clear CT2
         go_wp2
         go_roundg (gk - 1)
         case rel => exact ⟨k2 + 1, by have := hk2.out; show _ = _; omega, by go_num, by rw [hr.out, <- ba_assoc, <- ba_assoc], hw5⟩
         case measure => have := hk2.out; omega
        ·
         have e2 := joinT_cons hpn hp
         rw [hJ] at e2
         have hse : J.toList.isEmpty = false := by rw [str_isEmpty]; simp; exact fun e => hne.out hpn (by rw [e]; rfl)
         have hse2 : J.toList ≠ [] := by intro e; rw [e] at hse; cases hse
         have hr := Hd (show joinT q m names (k2 + 1) = J ++ ⟨#[42]⟩ ++ (s ++ ⟨#[94]⟩ ++ ofL (textN xn)) from e2)
         clear hp hpn e2 hJ hz h1
         have hx64 : (xn : Int) % 18446744073709551616 = (xn : Int) := by omega
         have C1 := Hd (fun W => of01_any xn W (by omega))
         have hll : (limbs xn).length <= 2 := limbs_len_le (by omega)
         have hsz1 : (ofL (textN xn)).size <= 10 := by rw [ofL_size]; have := digs_1m (xn : Int) hx1; rwa [Int.toNat_natCast] at this
         have CT := Hd (fun a' c' W (h : NatR W a' c' (limbs xn)) => text01_any (limbs xn) xn a' c' W h (val_limbs _) (by omega))
         go_wp2_with fail
         refine (C1.out _).mono ?_
         rintro e w4 ⟨a4, c4, rfl, hV4, hb4⟩
         have CT2 := Hd (CT.out a4 c4 w4 (hV4 w4 (New.refl _ _)))
         have hw4 := bth hwr hb4
         clear hV4 CT C1
         go_wp2_with fail
         refine CT2.out.mono ?_
         rintro e w5 ⟨rfl, hb5⟩
         have hw5 := bth hw4 hb5
         clear CT2
         go_wp2
         go_roundg (gk - 1)
         case rel => exact ⟨k2 + 1, by have := hk2.out; show _ = _; omega, by go_num, by rw [hr.out, <- ba_assoc, <- ba_assoc], hw5⟩
         case measure => have := hk2.out; omega
     ·
      have hkm : k2 = m.length := by have := hk2.out; omega
      have hfin := Hd (show joinT q m names k2 = termB q m names by rw [hkm]; rfl)
      clear hkm
      go_wp2
      go_ret
      exact ⟨ret_str hfin.out, bth hw3 hwr⟩
   ·
    have hcf := Hd (show cofP q m = [] from if_neg (by rintro (h | h); exact hm0 h; exact h (of_decide_eq_true hbo.out)))
    have hj0 := Hd (show joinT q m names 0 = ⟨#[]⟩ by unfold joinT; rw [partsT_zero, hcf.out]; rfl)
    have hw3 := bth hw2 s0
    obtain ⟨w3, rfl⟩ : ∃ W, W = w1 := ⟨_, rfl⟩
    clear hbo h1 s0 HQ hcf
    go_wp2
    go_loopg [6, 7] m.length (fun g s6 s7 wr => ∃ (k2 : Nat), Hid (k2 + g = m.length) /\ s7 = .int .i64 k2 /\ s6 = .string (joinT q m names k2) /\ Below w3.heap.size w3 wr)
    case atStart => exact ⟨0, by show _ = _; omega, rfl, by rw [hj0.out], Below.refl _ _⟩
    case round =>
     obtain ⟨k2, hk2, rfl, rfl, hwr⟩ := hrel
     have hg0 := h0.below' hwr
     have x3 := hg0.cell 3
     have k3 := held x3
     by_cases hlt : k2 < m.length
     ·
      obtain ⟨x, hx⟩ := get_of_lt hlt
      obtain ⟨bm, om, rfl, hcx, hxw⟩ := (HM.out wr (bth hw3 hwr)).2.2 k2 x hx
      simp only [Nat.mul_one] at hcx
      obtain ⟨hx0, hx1⟩ := HX.out x (List.mem_of_getElem? hx)
      obtain ⟨xn, rfl⟩ : ∃ xn : Nat, x = (xn : Int) := ⟨x.toNat, by omega⟩
      have hkn : k2 < names.length := by omega
      obtain ⟨s, hs⟩ := get_of_lt hkn
      obtain ⟨bn, on, rfl, hcn⟩ := HN.out.2.2 k2 s hs
      simp only [Nat.mul_one] at hcn
      have hcn2 := held hcn wr (bth hw3 hwr)
      have hsn : nameA names k2 = s := by unfold nameA; rw [List.getD_eq_getElem?_getD, hs]; rfl
      have hss := HNZ.out s (List.mem_of_getElem? hs)
      have hsu := partsT_succ (q := q) (names := names) hx
      have hjs := joinT_size HNZ.out (fun x hx => (HX.out x hx).2) HT.out HML.out (q := q) k2 (by omega)
      have hne : partsT q m names k2 ≠ [] -> (joinT q m names k2).size ≠ 0 := fun h => joinB_ne h (partsT_ne HNE.out hl (textQ_ne _) k2 (by omega)) _
      replace hsn := Hd hsn; replace hsu := Hd hsu; replace hne := Hd hne
      have hcx2 := held hcx
      have hml := HML.out
      have hgk := hk2.out
      clear hxw hs hx hcn
      by_cases hz : xn = 0
      ·
       have hp : joinT q m names (k2 + 1) = joinT q m names k2 := by unfold joinT; rw [hsu.out, facP_none (by omega), List.append_nil]
       replace hp := Hd hp
       have hxe : ((xn : Int) == 0) = true := by rw [beq_iff_eq]; omega
       clear hz
       go_wp2
       go_roundg (gk - 1)
       case rel => exact ⟨k2 + 1, by have := hk2.out; show _ = _; omega, by go_num, by rw [hp.out], hwr⟩
       case measure => have := hk2.out; omega
      ·
       have hxe : ((xn : Int) == 0) = false := by rw [beq_eq_false_iff_ne]; omega
       obtain ⟨J, hJ⟩ : ∃ J, joinT q m names k2 = J := ⟨_, rfl⟩
       rw [hJ] at hjs hne ⊢
       by_cases h1 : xn = 1
       ·
        have hp : partsT q m names (k2 + 1) = partsT q m names k2 ++ [s] := by rw [hsu.out, h1, show ((1 : Nat) : Int) = 1 from rfl, facP_one, hsn.out]
        have hgt : decide ((1 : Int) < (xn : Int)) = false := by rw [decide_eq_false]; omega
        by_cases hpn : partsT q m names k2 = []
        ·
         obtain ⟨e1, e2⟩ := joinT_nil hpn hp
         obtain rfl : J = ⟨#[]⟩ := by rw [<- hJ]; exact e1
         have hr := Hd (show joinT q m names (k2 + 1) = ⟨#[]⟩ ++ s from e2.trans (by apply ba_ext; simp [ByteArray.data_append]))
         clear hp hpn e1 e2 hJ hz h1
         go_wp2
         go_roundg (gk - 1)
         case rel => exact ⟨k2 + 1, by have := hk2.out; show _ = _; omega, by go_num, by rw [hr.out], hwr⟩
         case measure => have := hk2.out; omega
        ·
         have e2 := joinT_cons hpn hp
         rw [hJ] at e2
         have hse : J.toList.isEmpty = false := by rw [str_isEmpty]; simp; exact fun e => hne.out hpn (by rw [e]; rfl)
         have hse2 : J.toList ≠ [] := by intro e; rw [e] at hse; cases hse
         have hr := Hd (show joinT q m names (k2 + 1) = J ++ ⟨#[42]⟩ ++ s from e2)
         clear hp hpn e2 hJ hz h1
         go_wp2
         go_roundg (gk - 1)
         case rel => exact ⟨k2 + 1, by have := hk2.out; show _ = _; omega, by go_num, by rw [hr.out], hwr⟩
         case measure => have := hk2.out; omega
       ·
        have hp : partsT q m names (k2 + 1) = partsT q m names k2 ++ [s ++ ⟨#[94]⟩ ++ ofL (textN xn)] := by rw [hsu.out, facP_more (by omega), hsn.out, Int.toNat_natCast]
        have hgt : decide ((1 : Int) < (xn : Int)) = true := by rw [decide_eq_true_eq]; omega
        by_cases hpn : partsT q m names k2 = []
        ·
         obtain ⟨e1, e2⟩ := joinT_nil hpn hp
         obtain rfl : J = ⟨#[]⟩ := by rw [<- hJ]; exact e1
         have hr := Hd (show joinT q m names (k2 + 1) = ⟨#[]⟩ ++ (s ++ ⟨#[94]⟩ ++ ofL (textN xn)) from e2.trans (by apply ba_ext; simp [ByteArray.data_append]))
         clear hp hpn e1 e2 hJ hz h1
         have hx64 : (xn : Int) % 18446744073709551616 = (xn : Int) := by omega
         have C1 := Hd (fun W => of01_any xn W (by omega))
         have hll : (limbs xn).length <= 2 := limbs_len_le (by omega)
         have hsz1 : (ofL (textN xn)).size <= 10 := by rw [ofL_size]; have := digs_1m (xn : Int) hx1; rwa [Int.toNat_natCast] at this
         have CT := Hd (fun a' c' W (h : NatR W a' c' (limbs xn)) => text01_any (limbs xn) xn a' c' W h (val_limbs _) (by omega))
         go_wp2_with fail
         refine (C1.out _).mono ?_
         rintro e w4 ⟨a4, c4, rfl, hV4, hb4⟩
         have CT2 := Hd (CT.out a4 c4 w4 (hV4 w4 (New.refl _ _)))
         have hw4 := bth hwr hb4
         clear hV4 CT C1
         go_wp2_with fail
         refine CT2.out.mono ?_
         rintro e w5 ⟨rfl, hb5⟩
         have hw5 := bth hw4 hb5
         clear CT2
         go_wp2
         go_roundg (gk - 1)
         case rel => exact ⟨k2 + 1, by have := hk2.out; show _ = _; omega, by go_num, by rw [hr.out, <- ba_assoc, <- ba_assoc], hw5⟩
         case measure => have := hk2.out; omega
        ·
         have e2 := joinT_cons hpn hp
         rw [hJ] at e2
         have hse : J.toList.isEmpty = false := by rw [str_isEmpty]; simp; exact fun e => hne.out hpn (by rw [e]; rfl)
         have hse2 : J.toList ≠ [] := by intro e; rw [e] at hse; cases hse
         have hr := Hd (show joinT q m names (k2 + 1) = J ++ ⟨#[42]⟩ ++ (s ++ ⟨#[94]⟩ ++ ofL (textN xn)) from e2)
         clear hp hpn e2 hJ hz h1
         have hx64 : (xn : Int) % 18446744073709551616 = (xn : Int) := by omega
         have C1 := Hd (fun W => of01_any xn W (by omega))
         have hll : (limbs xn).length <= 2 := limbs_len_le (by omega)
         have hsz1 : (ofL (textN xn)).size <= 10 := by rw [ofL_size]; have := digs_1m (xn : Int) hx1; rwa [Int.toNat_natCast] at this
         have CT := Hd (fun a' c' W (h : NatR W a' c' (limbs xn)) => text01_any (limbs xn) xn a' c' W h (val_limbs _) (by omega))
         go_wp2_with fail
         refine (C1.out _).mono ?_
         rintro e w4 ⟨a4, c4, rfl, hV4, hb4⟩
         have CT2 := Hd (CT.out a4 c4 w4 (hV4 w4 (New.refl _ _)))
         have hw4 := bth hwr hb4
         clear hV4 CT C1
         go_wp2_with fail
         refine CT2.out.mono ?_
         rintro e w5 ⟨rfl, hb5⟩
         have hw5 := bth hw4 hb5
         clear CT2
         go_wp2
         go_roundg (gk - 1)
         case rel => exact ⟨k2 + 1, by have := hk2.out; show _ = _; omega, by go_num, by rw [hr.out, <- ba_assoc, <- ba_assoc], hw5⟩
         case measure => have := hk2.out; omega
     ·
      have hkm : k2 = m.length := by have := hk2.out; omega
      have hfin := Hd (show joinT q m names k2 = termB q m names by rw [hkm]; rfl)
      clear hkm
      go_wp2
      go_ret
      exact ⟨ret_str hfin.out, bth hw3 hwr⟩
 ·
  rw [decide_eq_false hq] at hsg
  have hsi : ¬ sg < 0 := of_decide_eq_false hsg
  have HQ := Hd (show ∀ W, Below w2.heap.size w2 W -> QK k W z (absQ q) from fun W hW => by rw [show absQ q = q from if_neg hq]; exact HZ.out W (bth hw2 hW))
  clear hsg hsg2 hq HZ gl0 gl1
  have s0 : Below w2.heap.size w2 w2.drew := brf.drew
  have k03 := held (h0.cell 3)
  have k10 := held (h1.cell 0); have k11 := held (h1.cell 1); have k12 := held (h1.cell 2)
  by_cases hm0 : m.length = 0
  ·
   have hl0 : ((m.length : Int) == 0) = true := by rw [beq_iff_eq]; omega
   have hcf := Hd (show cofP q m = [ofL (textQ (absQ q))] from if_pos (.inl hm0))
   clear hm0
   go_wp2
   refine wp_region_mix (S := Below w2.heap.size w2) [(0, .q), (1, .q), (2, .q), (3, .q), (4, .q), (5, .q), (6, .l), (7, .t), (8, .p), (9, .p)] (by kernel_rfl) (by kernel_rfl) (by kernel_rfl) (fun d _ _ _ _ h => by cases d <;> exact h) (s0) ?_
   iterate 5 (refine wpMix_q rfl rfl (fun K hK => ?_); apply Exists.intro; refine ⟨fun w' hw' => ?_, ?_⟩; (focus (go_simp; try rfl)); go_simp; refine hK _ _ ?_; clear hK K)
   iterate 4 (refine wpMix_skip rfl rfl (fun K hK => ?_); go_simp; refine hK _ _ ?_; clear hK K)
   iterate 1 (refine wpMix_p rfl rfl (fun K hK => ?_); apply Exists.intro; refine ⟨fun w' => ?_, ?_⟩; (focus (go_simp; try rfl)); go_simp; refine hK _ _ ?_; clear hK K)
   refine wpMix_nil ?_
   replace h0 := h0.below' s0; replace h1 := h1.below' s0
   clear k03 k10 k11 k12
   obtain ⟨w1, hw1⟩ : ∃ W, w2.drew = W := ⟨_, rfl⟩
   rw [hw1] at h0 h1 s0 ⊢
   clear hw1
   have CT := textR_q z (absQ q) k w1 (HQ.out w1 s0) (by omega)
   have x0 := h1.cell 0; have x1 := h1.cell 1; have x2 := h1.cell 2
   replace CT := Hd CT
   go_wp2_with fail
   refine CT.out.mono ?_
   rintro e w3 ⟨rfl, hb3⟩
   have hw3 := bth hw2 (bth s0 hb3)
   replace h0 := h0.below' hb3
   have hj0 := Hd (show joinT q m names 0 = ofL (textQ (absQ q)) by unfold joinT; rw [partsT_zero, hcf.out]; exact joinB_one _ _)
   clear x0 x1 x2 hb3 CT h1 s0 HQ hcf
   go_wp2
   go_loopg [6, 7] m.length (fun g s6 s7 wr => ∃ (k2 : Nat), Hid (k2 + g = m.length) /\ s7 = .int .i64 k2 /\ s6 = .string (joinT q m names k2) /\ Below w3.heap.size w3 wr)
   case atStart => exact ⟨0, by show _ = _; omega, rfl, by rw [hj0.out], Below.refl _ _⟩
   case round =>
    obtain ⟨k2, hk2, rfl, rfl, hwr⟩ := hrel
    have hg0 := h0.below' hwr
    have x3 := hg0.cell 3
    have k3 := held x3
    by_cases hlt : k2 < m.length
    ·
     obtain ⟨x, hx⟩ := get_of_lt hlt
     obtain ⟨bm, om, rfl, hcx, hxw⟩ := (HM.out wr (bth hw3 hwr)).2.2 k2 x hx
     simp only [Nat.mul_one] at hcx
     obtain ⟨hx0, hx1⟩ := HX.out x (List.mem_of_getElem? hx)
     obtain ⟨xn, rfl⟩ : ∃ xn : Nat, x = (xn : Int) := ⟨x.toNat, by omega⟩
     have hkn : k2 < names.length := by omega
     obtain ⟨s, hs⟩ := get_of_lt hkn
     obtain ⟨bn, on, rfl, hcn⟩ := HN.out.2.2 k2 s hs
     simp only [Nat.mul_one] at hcn
     have hcn2 := held hcn wr (bth hw3 hwr)
     have hsn : nameA names k2 = s := by unfold nameA; rw [List.getD_eq_getElem?_getD, hs]; rfl
     have hss := HNZ.out s (List.mem_of_getElem? hs)
     have hsu := partsT_succ (q := q) (names := names) hx
     have hjs := joinT_size HNZ.out (fun x hx => (HX.out x hx).2) HT.out HML.out (q := q) k2 (by omega)
     have hne : partsT q m names k2 ≠ [] -> (joinT q m names k2).size ≠ 0 := fun h => joinB_ne h (partsT_ne HNE.out hl (textQ_ne _) k2 (by omega)) _
     replace hsn := Hd hsn; replace hsu := Hd hsu; replace hne := Hd hne
     have hcx2 := held hcx
     have hml := HML.out
     have hgk := hk2.out
     clear hxw hs hx hcn
     by_cases hz : xn = 0
     ·
      have hp : joinT q m names (k2 + 1) = joinT q m names k2 := by unfold joinT; rw [hsu.out, facP_none (by omega), List.append_nil]
      replace hp := Hd hp
      have hxe : ((xn : Int) == 0) = true := by rw [beq_iff_eq]; omega
      clear hz
      go_wp2
      go_roundg (gk - 1)
      case rel => exact ⟨k2 + 1, by have := hk2.out; show _ = _; omega, by go_num, by rw [hp.out], hwr⟩
      case measure => have := hk2.out; omega
     ·
      have hxe : ((xn : Int) == 0) = false := by rw [beq_eq_false_iff_ne]; omega
      obtain ⟨J, hJ⟩ : ∃ J, joinT q m names k2 = J := ⟨_, rfl⟩
      rw [hJ] at hjs hne ⊢
      by_cases h1 : xn = 1
      ·
       have hp : partsT q m names (k2 + 1) = partsT q m names k2 ++ [s] := by rw [hsu.out, h1, show ((1 : Nat) : Int) = 1 from rfl, facP_one, hsn.out]
       have hgt : decide ((1 : Int) < (xn : Int)) = false := by rw [decide_eq_false]; omega
       by_cases hpn : partsT q m names k2 = []
       ·
        obtain ⟨e1, e2⟩ := joinT_nil hpn hp
        obtain rfl : J = ⟨#[]⟩ := by rw [<- hJ]; exact e1
        have hr := Hd (show joinT q m names (k2 + 1) = ⟨#[]⟩ ++ s from e2.trans (by apply ba_ext; simp [ByteArray.data_append]))
        clear hp hpn e1 e2 hJ hz h1
        go_wp2
        go_roundg (gk - 1)
        case rel => exact ⟨k2 + 1, by have := hk2.out; show _ = _; omega, by go_num, by rw [hr.out], hwr⟩
        case measure => have := hk2.out; omega
       ·
        have e2 := joinT_cons hpn hp
        rw [hJ] at e2
        have hse : J.toList.isEmpty = false := by rw [str_isEmpty]; simp; exact fun e => hne.out hpn (by rw [e]; rfl)
        have hse2 : J.toList ≠ [] := by intro e; rw [e] at hse; cases hse
        have hr := Hd (show joinT q m names (k2 + 1) = J ++ ⟨#[42]⟩ ++ s from e2)
        clear hp hpn e2 hJ hz h1
        go_wp2
        go_roundg (gk - 1)
        case rel => exact ⟨k2 + 1, by have := hk2.out; show _ = _; omega, by go_num, by rw [hr.out], hwr⟩
        case measure => have := hk2.out; omega
      ·
       have hp : partsT q m names (k2 + 1) = partsT q m names k2 ++ [s ++ ⟨#[94]⟩ ++ ofL (textN xn)] := by rw [hsu.out, facP_more (by omega), hsn.out, Int.toNat_natCast]
       have hgt : decide ((1 : Int) < (xn : Int)) = true := by rw [decide_eq_true_eq]; omega
       by_cases hpn : partsT q m names k2 = []
       ·
        obtain ⟨e1, e2⟩ := joinT_nil hpn hp
        obtain rfl : J = ⟨#[]⟩ := by rw [<- hJ]; exact e1
        have hr := Hd (show joinT q m names (k2 + 1) = ⟨#[]⟩ ++ (s ++ ⟨#[94]⟩ ++ ofL (textN xn)) from e2.trans (by apply ba_ext; simp [ByteArray.data_append]))
        clear hp hpn e1 e2 hJ hz h1
        have hx64 : (xn : Int) % 18446744073709551616 = (xn : Int) := by omega
        have C1 := Hd (fun W => of01_any xn W (by omega))
        have hll : (limbs xn).length <= 2 := limbs_len_le (by omega)
        have hsz1 : (ofL (textN xn)).size <= 10 := by rw [ofL_size]; have := digs_1m (xn : Int) hx1; rwa [Int.toNat_natCast] at this
        have CT := Hd (fun a' c' W (h : NatR W a' c' (limbs xn)) => text01_any (limbs xn) xn a' c' W h (val_limbs _) (by omega))
        go_wp2_with fail
        refine (C1.out _).mono ?_
        rintro e w4 ⟨a4, c4, rfl, hV4, hb4⟩
        have CT2 := Hd (CT.out a4 c4 w4 (hV4 w4 (New.refl _ _)))
        have hw4 := bth hwr hb4
        clear hV4 CT C1
        go_wp2_with fail
        refine CT2.out.mono ?_
        rintro e w5 ⟨rfl, hb5⟩
        have hw5 := bth hw4 hb5
        clear CT2
        go_wp2
        go_roundg (gk - 1)
        case rel => exact ⟨k2 + 1, by have := hk2.out; show _ = _; omega, by go_num, by rw [hr.out, <- ba_assoc, <- ba_assoc], hw5⟩
        case measure => have := hk2.out; omega
       ·
        have e2 := joinT_cons hpn hp
        rw [hJ] at e2
        have hse : J.toList.isEmpty = false := by rw [str_isEmpty]; simp; exact fun e => hne.out hpn (by rw [e]; rfl)
        have hse2 : J.toList ≠ [] := by intro e; rw [e] at hse; cases hse
        have hr := Hd (show joinT q m names (k2 + 1) = J ++ ⟨#[42]⟩ ++ (s ++ ⟨#[94]⟩ ++ ofL (textN xn)) from e2)
        clear hp hpn e2 hJ hz h1
        have hx64 : (xn : Int) % 18446744073709551616 = (xn : Int) := by omega
        have C1 := Hd (fun W => of01_any xn W (by omega))
        have hll : (limbs xn).length <= 2 := limbs_len_le (by omega)
        have hsz1 : (ofL (textN xn)).size <= 10 := by rw [ofL_size]; have := digs_1m (xn : Int) hx1; rwa [Int.toNat_natCast] at this
        have CT := Hd (fun a' c' W (h : NatR W a' c' (limbs xn)) => text01_any (limbs xn) xn a' c' W h (val_limbs _) (by omega))
        go_wp2_with fail
        refine (C1.out _).mono ?_
        rintro e w4 ⟨a4, c4, rfl, hV4, hb4⟩
        have CT2 := Hd (CT.out a4 c4 w4 (hV4 w4 (New.refl _ _)))
        have hw4 := bth hwr hb4
        clear hV4 CT C1
        go_wp2_with fail
        refine CT2.out.mono ?_
        rintro e w5 ⟨rfl, hb5⟩
        have hw5 := bth hw4 hb5
        clear CT2
        go_wp2
        go_roundg (gk - 1)
        case rel => exact ⟨k2 + 1, by have := hk2.out; show _ = _; omega, by go_num, by rw [hr.out, <- ba_assoc, <- ba_assoc], hw5⟩
        case measure => have := hk2.out; omega
    ·
     have hkm : k2 = m.length := by have := hk2.out; omega
     have hfin := Hd (show joinT q m names k2 = termB q m names by rw [hkm]; rfl)
     clear hkm
     go_wp2
     go_ret
     exact ⟨ret_str hfin.out, bth hw3 hwr⟩
  ·
   have hl0 : ((m.length : Int) == 0) = false := by rw [beq_eq_false_iff_ne]; omega
   have CE := fun yy W h1 h2 => equalR_q z yy (absQ q) 1 (k + 1) W h1 h2 (by omega)
   obtain ⟨bo, hbo⟩ : ∃ b, decide (absQ q = 1) = b := ⟨_, rfl⟩
   simp only [hbo] at CE
   replace CE := Hd CE; replace hbo := Hd hbo
   go_wp2
   refine wp_region_mix (S := Below w2.heap.size w2) [(0, .q), (1, .q), (2, .q), (3, .q), (4, .q), (5, .q), (6, .l), (7, .t), (8, .p), (9, .p)] (by kernel_rfl) (by kernel_rfl) (by kernel_rfl) (fun d _ _ _ _ h => by cases d <;> exact h) (s0) ?_
   iterate 6 (refine wpMix_q rfl rfl (fun K hK => ?_); apply Exists.intro; refine ⟨fun w' hw' => ?_, ?_⟩; (focus (go_simp; try rfl)); go_simp; refine hK _ _ ?_; clear hK K)
   refine wpMix_l rfl rfl (fun K hK => ?_)
   go_simp
   refine (unitR_q _).mono ?_
   rintro r u1 ⟨y1, rfl, J, hb1⟩
   dsimp only
   refine hK.out _ _ (bth s0 hb1) (fun _ => ?_)
   clear hK K
   have s1 := bth s0 hb1
   refine wpMix_t rfl rfl (fun K hK => ?_)
   go_simp
   refine (CE.out y1 _ (QK.more (HQ.out _ s1) (by omega)) (QK.more J.now (by omega))).mono ?_
   rintro r w1 ⟨rfl, hb2⟩
   dsimp only
   refine hK.out _ _ ?_
   clear hK K
   have s2 := bth s1 hb2
   iterate 2 (refine wpMix_p rfl rfl (fun K hK => ?_); apply Exists.intro; refine ⟨fun w' => ?_, ?_⟩; (focus (go_simp; try rfl)); go_simp; refine hK _ _ ?_; clear hK K)
   refine wpMix_nil ?_
   clear k03 k10 k11 k12
   replace h0 := h0.below' s2; replace h1 := h1.below' s2; replace s0 := s2
   clear s1 s2 hb1 hb2 J CE
   cases bo
   ·
    have hcf := Hd (show cofP q m = [ofL (textQ (absQ q))] from if_pos (.inr (of_decide_eq_false hbo.out)))
    clear hbo
    have CT := textR_q z (absQ q) k w1 (HQ.out w1 s0) (by omega)
    have x0 := h1.cell 0; have x1 := h1.cell 1; have x2 := h1.cell 2
    replace CT := Hd CT
    go_wp2_with fail
    refine CT.out.mono ?_
    rintro e w3 ⟨rfl, hb3⟩
    have hw3 := bth hw2 (bth s0 hb3)
    replace h0 := h0.below' hb3
    have hj0 := Hd (show joinT q m names 0 = ofL (textQ (absQ q)) by unfold joinT; rw [partsT_zero, hcf.out]; exact joinB_one _ _)
    clear x0 x1 x2 hb3 CT h1 s0 HQ hcf
    go_wp2
    go_loopg [6, 7] m.length (fun g s6 s7 wr => ∃ (k2 : Nat), Hid (k2 + g = m.length) /\ s7 = .int .i64 k2 /\ s6 = .string (joinT q m names k2) /\ Below w3.heap.size w3 wr)
    case atStart => exact ⟨0, by show _ = _; omega, rfl, by rw [hj0.out], Below.refl _ _⟩
    case round =>
     obtain ⟨k2, hk2, rfl, rfl, hwr⟩ := hrel
     have hg0 := h0.below' hwr
     have x3 := hg0.cell 3
     have k3 := held x3
     by_cases hlt : k2 < m.length
     ·
      obtain ⟨x, hx⟩ := get_of_lt hlt
      obtain ⟨bm, om, rfl, hcx, hxw⟩ := (HM.out wr (bth hw3 hwr)).2.2 k2 x hx
      simp only [Nat.mul_one] at hcx
      obtain ⟨hx0, hx1⟩ := HX.out x (List.mem_of_getElem? hx)
      obtain ⟨xn, rfl⟩ : ∃ xn : Nat, x = (xn : Int) := ⟨x.toNat, by omega⟩
      have hkn : k2 < names.length := by omega
      obtain ⟨s, hs⟩ := get_of_lt hkn
      obtain ⟨bn, on, rfl, hcn⟩ := HN.out.2.2 k2 s hs
      simp only [Nat.mul_one] at hcn
      have hcn2 := held hcn wr (bth hw3 hwr)
      have hsn : nameA names k2 = s := by unfold nameA; rw [List.getD_eq_getElem?_getD, hs]; rfl
      have hss := HNZ.out s (List.mem_of_getElem? hs)
      have hsu := partsT_succ (q := q) (names := names) hx
      have hjs := joinT_size HNZ.out (fun x hx => (HX.out x hx).2) HT.out HML.out (q := q) k2 (by omega)
      have hne : partsT q m names k2 ≠ [] -> (joinT q m names k2).size ≠ 0 := fun h => joinB_ne h (partsT_ne HNE.out hl (textQ_ne _) k2 (by omega)) _
      replace hsn := Hd hsn; replace hsu := Hd hsu; replace hne := Hd hne
      have hcx2 := held hcx
      have hml := HML.out
      have hgk := hk2.out
      clear hxw hs hx hcn
      by_cases hz : xn = 0
      ·
       have hp : joinT q m names (k2 + 1) = joinT q m names k2 := by unfold joinT; rw [hsu.out, facP_none (by omega), List.append_nil]
       replace hp := Hd hp
       have hxe : ((xn : Int) == 0) = true := by rw [beq_iff_eq]; omega
       clear hz
       go_wp2
       go_roundg (gk - 1)
       case rel => exact ⟨k2 + 1, by have := hk2.out; show _ = _; omega, by go_num, by rw [hp.out], hwr⟩
       case measure => have := hk2.out; omega
      ·
       have hxe : ((xn : Int) == 0) = false := by rw [beq_eq_false_iff_ne]; omega
       obtain ⟨J, hJ⟩ : ∃ J, joinT q m names k2 = J := ⟨_, rfl⟩
       rw [hJ] at hjs hne ⊢
       by_cases h1 : xn = 1
       ·
        have hp : partsT q m names (k2 + 1) = partsT q m names k2 ++ [s] := by rw [hsu.out, h1, show ((1 : Nat) : Int) = 1 from rfl, facP_one, hsn.out]
        have hgt : decide ((1 : Int) < (xn : Int)) = false := by rw [decide_eq_false]; omega
        by_cases hpn : partsT q m names k2 = []
        ·
         obtain ⟨e1, e2⟩ := joinT_nil hpn hp
         obtain rfl : J = ⟨#[]⟩ := by rw [<- hJ]; exact e1
         have hr := Hd (show joinT q m names (k2 + 1) = ⟨#[]⟩ ++ s from e2.trans (by apply ba_ext; simp [ByteArray.data_append]))
         clear hp hpn e1 e2 hJ hz h1
         go_wp2
         go_roundg (gk - 1)
         case rel => exact ⟨k2 + 1, by have := hk2.out; show _ = _; omega, by go_num, by rw [hr.out], hwr⟩
         case measure => have := hk2.out; omega
        ·
         have e2 := joinT_cons hpn hp
         rw [hJ] at e2
         have hse : J.toList.isEmpty = false := by rw [str_isEmpty]; simp; exact fun e => hne.out hpn (by rw [e]; rfl)
         have hse2 : J.toList ≠ [] := by intro e; rw [e] at hse; cases hse
         have hr := Hd (show joinT q m names (k2 + 1) = J ++ ⟨#[42]⟩ ++ s from e2)
         clear hp hpn e2 hJ hz h1
         go_wp2
         go_roundg (gk - 1)
         case rel => exact ⟨k2 + 1, by have := hk2.out; show _ = _; omega, by go_num, by rw [hr.out], hwr⟩
         case measure => have := hk2.out; omega
       ·
        have hp : partsT q m names (k2 + 1) = partsT q m names k2 ++ [s ++ ⟨#[94]⟩ ++ ofL (textN xn)] := by rw [hsu.out, facP_more (by omega), hsn.out, Int.toNat_natCast]
        have hgt : decide ((1 : Int) < (xn : Int)) = true := by rw [decide_eq_true_eq]; omega
        by_cases hpn : partsT q m names k2 = []
        ·
         obtain ⟨e1, e2⟩ := joinT_nil hpn hp
         obtain rfl : J = ⟨#[]⟩ := by rw [<- hJ]; exact e1
         have hr := Hd (show joinT q m names (k2 + 1) = ⟨#[]⟩ ++ (s ++ ⟨#[94]⟩ ++ ofL (textN xn)) from e2.trans (by apply ba_ext; simp [ByteArray.data_append]))
         clear hp hpn e1 e2 hJ hz h1
         have hx64 : (xn : Int) % 18446744073709551616 = (xn : Int) := by omega
         have C1 := Hd (fun W => of01_any xn W (by omega))
         have hll : (limbs xn).length <= 2 := limbs_len_le (by omega)
         have hsz1 : (ofL (textN xn)).size <= 10 := by rw [ofL_size]; have := digs_1m (xn : Int) hx1; rwa [Int.toNat_natCast] at this
         have CT := Hd (fun a' c' W (h : NatR W a' c' (limbs xn)) => text01_any (limbs xn) xn a' c' W h (val_limbs _) (by omega))
         go_wp2_with fail
         refine (C1.out _).mono ?_
         rintro e w4 ⟨a4, c4, rfl, hV4, hb4⟩
         have CT2 := Hd (CT.out a4 c4 w4 (hV4 w4 (New.refl _ _)))
         have hw4 := bth hwr hb4
         clear hV4 CT C1
         go_wp2_with fail
         refine CT2.out.mono ?_
         rintro e w5 ⟨rfl, hb5⟩
         have hw5 := bth hw4 hb5
         clear CT2
         go_wp2
         go_roundg (gk - 1)
         case rel => exact ⟨k2 + 1, by have := hk2.out; show _ = _; omega, by go_num, by rw [hr.out, <- ba_assoc, <- ba_assoc], hw5⟩
         case measure => have := hk2.out; omega
        ·
         have e2 := joinT_cons hpn hp
         rw [hJ] at e2
         have hse : J.toList.isEmpty = false := by rw [str_isEmpty]; simp; exact fun e => hne.out hpn (by rw [e]; rfl)
         have hse2 : J.toList ≠ [] := by intro e; rw [e] at hse; cases hse
         have hr := Hd (show joinT q m names (k2 + 1) = J ++ ⟨#[42]⟩ ++ (s ++ ⟨#[94]⟩ ++ ofL (textN xn)) from e2)
         clear hp hpn e2 hJ hz h1
         have hx64 : (xn : Int) % 18446744073709551616 = (xn : Int) := by omega
         have C1 := Hd (fun W => of01_any xn W (by omega))
         have hll : (limbs xn).length <= 2 := limbs_len_le (by omega)
         have hsz1 : (ofL (textN xn)).size <= 10 := by rw [ofL_size]; have := digs_1m (xn : Int) hx1; rwa [Int.toNat_natCast] at this
         have CT := Hd (fun a' c' W (h : NatR W a' c' (limbs xn)) => text01_any (limbs xn) xn a' c' W h (val_limbs _) (by omega))
         go_wp2_with fail
         refine (C1.out _).mono ?_
         rintro e w4 ⟨a4, c4, rfl, hV4, hb4⟩
         have CT2 := Hd (CT.out a4 c4 w4 (hV4 w4 (New.refl _ _)))
         have hw4 := bth hwr hb4
         clear hV4 CT C1
         go_wp2_with fail
         refine CT2.out.mono ?_
         rintro e w5 ⟨rfl, hb5⟩
         have hw5 := bth hw4 hb5
         clear CT2
         go_wp2
         go_roundg (gk - 1)
         case rel => exact ⟨k2 + 1, by have := hk2.out; show _ = _; omega, by go_num, by rw [hr.out, <- ba_assoc, <- ba_assoc], hw5⟩
         case measure => have := hk2.out; omega
     ·
      have hkm : k2 = m.length := by have := hk2.out; omega
      have hfin := Hd (show joinT q m names k2 = termB q m names by rw [hkm]; rfl)
      clear hkm
      go_wp2
      go_ret
      exact ⟨ret_str hfin.out, bth hw3 hwr⟩
   ·
    have hcf := Hd (show cofP q m = [] from if_neg (by rintro (h | h); exact hm0 h; exact h (of_decide_eq_true hbo.out)))
    have hj0 := Hd (show joinT q m names 0 = ⟨#[]⟩ by unfold joinT; rw [partsT_zero, hcf.out]; rfl)
    have hw3 := bth hw2 s0
    obtain ⟨w3, rfl⟩ : ∃ W, W = w1 := ⟨_, rfl⟩
    clear hbo h1 s0 HQ hcf
    go_wp2
    go_loopg [6, 7] m.length (fun g s6 s7 wr => ∃ (k2 : Nat), Hid (k2 + g = m.length) /\ s7 = .int .i64 k2 /\ s6 = .string (joinT q m names k2) /\ Below w3.heap.size w3 wr)
    case atStart => exact ⟨0, by show _ = _; omega, rfl, by rw [hj0.out], Below.refl _ _⟩
    case round =>
     obtain ⟨k2, hk2, rfl, rfl, hwr⟩ := hrel
     have hg0 := h0.below' hwr
     have x3 := hg0.cell 3
     have k3 := held x3
     by_cases hlt : k2 < m.length
     ·
      obtain ⟨x, hx⟩ := get_of_lt hlt
      obtain ⟨bm, om, rfl, hcx, hxw⟩ := (HM.out wr (bth hw3 hwr)).2.2 k2 x hx
      simp only [Nat.mul_one] at hcx
      obtain ⟨hx0, hx1⟩ := HX.out x (List.mem_of_getElem? hx)
      obtain ⟨xn, rfl⟩ : ∃ xn : Nat, x = (xn : Int) := ⟨x.toNat, by omega⟩
      have hkn : k2 < names.length := by omega
      obtain ⟨s, hs⟩ := get_of_lt hkn
      obtain ⟨bn, on, rfl, hcn⟩ := HN.out.2.2 k2 s hs
      simp only [Nat.mul_one] at hcn
      have hcn2 := held hcn wr (bth hw3 hwr)
      have hsn : nameA names k2 = s := by unfold nameA; rw [List.getD_eq_getElem?_getD, hs]; rfl
      have hss := HNZ.out s (List.mem_of_getElem? hs)
      have hsu := partsT_succ (q := q) (names := names) hx
      have hjs := joinT_size HNZ.out (fun x hx => (HX.out x hx).2) HT.out HML.out (q := q) k2 (by omega)
      have hne : partsT q m names k2 ≠ [] -> (joinT q m names k2).size ≠ 0 := fun h => joinB_ne h (partsT_ne HNE.out hl (textQ_ne _) k2 (by omega)) _
      replace hsn := Hd hsn; replace hsu := Hd hsu; replace hne := Hd hne
      have hcx2 := held hcx
      have hml := HML.out
      have hgk := hk2.out
      clear hxw hs hx hcn
      by_cases hz : xn = 0
      ·
       have hp : joinT q m names (k2 + 1) = joinT q m names k2 := by unfold joinT; rw [hsu.out, facP_none (by omega), List.append_nil]
       replace hp := Hd hp
       have hxe : ((xn : Int) == 0) = true := by rw [beq_iff_eq]; omega
       clear hz
       go_wp2
       go_roundg (gk - 1)
       case rel => exact ⟨k2 + 1, by have := hk2.out; show _ = _; omega, by go_num, by rw [hp.out], hwr⟩
       case measure => have := hk2.out; omega
      ·
       have hxe : ((xn : Int) == 0) = false := by rw [beq_eq_false_iff_ne]; omega
       obtain ⟨J, hJ⟩ : ∃ J, joinT q m names k2 = J := ⟨_, rfl⟩
       rw [hJ] at hjs hne ⊢
       by_cases h1 : xn = 1
       ·
        have hp : partsT q m names (k2 + 1) = partsT q m names k2 ++ [s] := by rw [hsu.out, h1, show ((1 : Nat) : Int) = 1 from rfl, facP_one, hsn.out]
        have hgt : decide ((1 : Int) < (xn : Int)) = false := by rw [decide_eq_false]; omega
        by_cases hpn : partsT q m names k2 = []
        ·
         obtain ⟨e1, e2⟩ := joinT_nil hpn hp
         obtain rfl : J = ⟨#[]⟩ := by rw [<- hJ]; exact e1
         have hr := Hd (show joinT q m names (k2 + 1) = ⟨#[]⟩ ++ s from e2.trans (by apply ba_ext; simp [ByteArray.data_append]))
         clear hp hpn e1 e2 hJ hz h1
         go_wp2
         go_roundg (gk - 1)
         case rel => exact ⟨k2 + 1, by have := hk2.out; show _ = _; omega, by go_num, by rw [hr.out], hwr⟩
         case measure => have := hk2.out; omega
        ·
         have e2 := joinT_cons hpn hp
         rw [hJ] at e2
         have hse : J.toList.isEmpty = false := by rw [str_isEmpty]; simp; exact fun e => hne.out hpn (by rw [e]; rfl)
         have hse2 : J.toList ≠ [] := by intro e; rw [e] at hse; cases hse
         have hr := Hd (show joinT q m names (k2 + 1) = J ++ ⟨#[42]⟩ ++ s from e2)
         clear hp hpn e2 hJ hz h1
         go_wp2
         go_roundg (gk - 1)
         case rel => exact ⟨k2 + 1, by have := hk2.out; show _ = _; omega, by go_num, by rw [hr.out], hwr⟩
         case measure => have := hk2.out; omega
       ·
        have hp : partsT q m names (k2 + 1) = partsT q m names k2 ++ [s ++ ⟨#[94]⟩ ++ ofL (textN xn)] := by rw [hsu.out, facP_more (by omega), hsn.out, Int.toNat_natCast]
        have hgt : decide ((1 : Int) < (xn : Int)) = true := by rw [decide_eq_true_eq]; omega
        by_cases hpn : partsT q m names k2 = []
        ·
         obtain ⟨e1, e2⟩ := joinT_nil hpn hp
         obtain rfl : J = ⟨#[]⟩ := by rw [<- hJ]; exact e1
         have hr := Hd (show joinT q m names (k2 + 1) = ⟨#[]⟩ ++ (s ++ ⟨#[94]⟩ ++ ofL (textN xn)) from e2.trans (by apply ba_ext; simp [ByteArray.data_append]))
         clear hp hpn e1 e2 hJ hz h1
         have hx64 : (xn : Int) % 18446744073709551616 = (xn : Int) := by omega
         have C1 := Hd (fun W => of01_any xn W (by omega))
         have hll : (limbs xn).length <= 2 := limbs_len_le (by omega)
         have hsz1 : (ofL (textN xn)).size <= 10 := by rw [ofL_size]; have := digs_1m (xn : Int) hx1; rwa [Int.toNat_natCast] at this
         have CT := Hd (fun a' c' W (h : NatR W a' c' (limbs xn)) => text01_any (limbs xn) xn a' c' W h (val_limbs _) (by omega))
         go_wp2_with fail
         refine (C1.out _).mono ?_
         rintro e w4 ⟨a4, c4, rfl, hV4, hb4⟩
         have CT2 := Hd (CT.out a4 c4 w4 (hV4 w4 (New.refl _ _)))
         have hw4 := bth hwr hb4
         clear hV4 CT C1
         go_wp2_with fail
         refine CT2.out.mono ?_
         rintro e w5 ⟨rfl, hb5⟩
         have hw5 := bth hw4 hb5
         clear CT2
         go_wp2
         go_roundg (gk - 1)
         case rel => exact ⟨k2 + 1, by have := hk2.out; show _ = _; omega, by go_num, by rw [hr.out, <- ba_assoc, <- ba_assoc], hw5⟩
         case measure => have := hk2.out; omega
        ·
         have e2 := joinT_cons hpn hp
         rw [hJ] at e2
         have hse : J.toList.isEmpty = false := by rw [str_isEmpty]; simp; exact fun e => hne.out hpn (by rw [e]; rfl)
         have hse2 : J.toList ≠ [] := by intro e; rw [e] at hse; cases hse
         have hr := Hd (show joinT q m names (k2 + 1) = J ++ ⟨#[42]⟩ ++ (s ++ ⟨#[94]⟩ ++ ofL (textN xn)) from e2)
         clear hp hpn e2 hJ hz h1
         have hx64 : (xn : Int) % 18446744073709551616 = (xn : Int) := by omega
         have C1 := Hd (fun W => of01_any xn W (by omega))
         have hll : (limbs xn).length <= 2 := limbs_len_le (by omega)
         have hsz1 : (ofL (textN xn)).size <= 10 := by rw [ofL_size]; have := digs_1m (xn : Int) hx1; rwa [Int.toNat_natCast] at this
         have CT := Hd (fun a' c' W (h : NatR W a' c' (limbs xn)) => text01_any (limbs xn) xn a' c' W h (val_limbs _) (by omega))
         go_wp2_with fail
         refine (C1.out _).mono ?_
         rintro e w4 ⟨a4, c4, rfl, hV4, hb4⟩
         have CT2 := Hd (CT.out a4 c4 w4 (hV4 w4 (New.refl _ _)))
         have hw4 := bth hwr hb4
         clear hV4 CT C1
         go_wp2_with fail
         refine CT2.out.mono ?_
         rintro e w5 ⟨rfl, hb5⟩
         have hw5 := bth hw4 hb5
         clear CT2
         go_wp2
         go_roundg (gk - 1)
         case rel => exact ⟨k2 + 1, by have := hk2.out; show _ = _; omega, by go_num, by rw [hr.out, <- ba_assoc, <- ba_assoc], hw5⟩
         case measure => have := hk2.out; omega
     ·
      have hkm : k2 = m.length := by have := hk2.out; omega
      have hfin := Hd (show joinT q m names k2 = termB q m names by rw [hkm]; rfl)
      clear hkm
      go_wp2
      go_ret
      exact ⟨ret_str hfin.out, bth hw3 hwr⟩
structure FineL (l : List (List Trm)) : Prop where
 right : ∀ p ∈ l, polyB p = true
 few : ∀ p ∈ l, p.length <= 1000
 small : ∀ p ∈ l, ∀ t ∈ p, t.coef.num.length <= 1000 /\ t.coef.den.length <= 1000
end Go.Proofs.YtkjnkpkagcboeaaGreatDoor
