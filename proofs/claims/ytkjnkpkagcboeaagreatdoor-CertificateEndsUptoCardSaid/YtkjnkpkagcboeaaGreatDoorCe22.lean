/- Walk: the text of a term by the program. -/
import Derived.Test.YtkjnkpkagcboeaaGreatDoorCe11
import Derived.Test.YtkjnkpkagcboeaaGreatDoorCe14
import Derived.Test.YtkjnkpkagcboeaaGreatDoorCe1
import Derived.Test.YtkjnkpkagcboeaaGreatDoorCe3
set_option linter.all false
set_option maxRecDepth 100000
set_option maxHeartbeats 4000000
namespace Go.Proofs.YtkjnkpkagcboeaaGreatDoor
open Go.RowKit
theorem textF_len (t : Bool × Nat × Nat) (h1 : (limbs t.2.1).length <= 2000000) (h2 : (limbs t.2.2).length <= 2000000) : (textF t).length <= 20000002 := by
 unfold textF
 have a1 := textZ_len t.1 t.2.1 h1
 have a2 := textN_len t.2.2 h2
 split
 · omega
 · rw [List.length_append, List.length_cons]; omega
theorem textQ_len (q : Rat) {k : Nat} (h : qsz q <= k) (hk : k <= 100000) : (textQ q).length <= 20000002 := by
 have h1 := qsz_num q
 have h2 := qsz_den q
 exact textF_len _ (by show (limbs q.num.natAbs).length <= _; omega) (by show (limbs q.den).length <= _; omega)
theorem termS_any (z : QA) (q : Rat) (m : List Int) (names : List ByteArray) (aa na : Option Addr) (ac nc k : Nat) (w : World) (Hq : QK k w z q) (hk : k <= 1000) (hm : IntsR w aa ac m) (hn : StrsR w na nc names) (hl : m.length <= names.length) (hml : m.length <= 64)
  (hx : ∀ x ∈ m, 0 <= x /\ x <= 1048576) (hnz : ∀ s ∈ names, s.size <= 1048576) (ht : TabW w) :
  Calls Tryz.prog 30 #[.agg #[.bool z.neg, .slice z.a z.n z.c, .slice z.b z.m z.d, .slice aa m.length ac], .slice na names.length nc] w fun e w' => e = .returned (.string (termB q m names)) /\ Below w.heap.size w w' := by
 have hsz : (textQ (absQ q)).length <= 20000002 := textQ_len _ Hq.abs.2 (by omega)
 have HT := Hd hsz
 have HQ := Hd (fun W (hW : Below w.heap.size w W) => Hq.abs.ext (xbw hW))
 have HM := Hd (fun W (hW : Below w.heap.size w W) => hm.ext (xbw hW))
 have HN := Hd hn; have HX := Hd hx; have HNZ := Hd hnz; have HML := Hd hml
 have HTB := Hd (fun W (hW : Below w.heap.size w W) => ht.below hW)
 clear Hq hm hn hx hnz ht hsz hml
 go_enter Tryz.func30, Tryz.ntmps30
 go_wp2
 refine world_gen (fun W => Blk W w.heap.size 57 #[.bool z.neg, .slice z.a z.n z.c, .slice z.b z.m z.d, .slice aa m.length ac] /\ Blk W (w.heap.size + 1) 54 #[.bool false, .slice z.a z.n z.c, .slice z.b z.m z.d] /\ Below w.heap.size w W) (by refine ⟨?_,?_,?_⟩<;>first|((with_reducible repeat first|assumption|(apply bF;focus omega)|apply bS|(apply bN;focus (simp;done))|apply bA|apply bD);all_goals rfl)|go_grown) ?_
 rintro w0 ⟨h0, h1, hw0⟩
 obtain ⟨g1, hg1⟩ : ∃ g, w.heap.size + 1 = g := ⟨_, rfl⟩
 rw [hg1] at h1 ⊢
 have hgg : w.heap.size < g1 := by omega
 clear hg1
 have gl0 := h0.lt; have gl1 := h1.lt
 have k03 := held (h0.cell 3)
 have k10 := held (h1.cell 0); have k11 := held (h1.cell 1); have k12 := held (h1.cell 2)
 have s0 : Below w0.heap.size w0 w0.drew := brf.drew
 by_cases hm0 : m.length = 0
 ·
  have hl0 : ((m.length : Int) == 0) = true := by rw [beq_iff_eq]; omega
  have hcf := Hd (show cofP q m = [ofL (textQ (absQ q))] from if_pos (.inl hm0))
  clear hm0
  refine wp_region_mix (S := Below w0.heap.size w0) [(0, .q), (1, .q), (2, .q), (3, .q), (4, .q), (5, .q), (6, .l), (7, .t), (8, .p), (9, .p)] (by kernel_rfl) (by kernel_rfl) (by kernel_rfl) (fun d _ _ _ _ h => by cases d <;> exact h) (s0) ?_
  iterate 5 (refine wpMix_q rfl rfl (fun K hK => ?_); apply Exists.intro; refine ⟨fun w' hw' => ?_, ?_⟩; (focus (go_simp; try rfl)); go_simp; refine hK _ _ ?_; clear hK K)
  iterate 4 (refine wpMix_skip rfl rfl (fun K hK => ?_); go_simp; refine hK _ _ ?_; clear hK K)
  iterate 1 (refine wpMix_p rfl rfl (fun K hK => ?_); apply Exists.intro; refine ⟨fun w' => ?_, ?_⟩; (focus (go_simp; try rfl)); go_simp; refine hK _ _ ?_; clear hK K)
  refine wpMix_nil ?_
  clear k03 k10 k11 k12
  replace h0 := h0.below' s0; replace h1 := h1.below' s0; replace hw0 := bth hw0 s0
  clear s0 gl0 gl1
  obtain ⟨w2, hw2⟩ : ∃ W, w0.drew = W := ⟨_, rfl⟩
  rw [hw2] at h0 h1 hw0 ⊢
  clear hw2
  have CT := text_q z.pos (absQ q) k w2 (HQ.out w2 hw0) (by omega)
  have x0 := h1.cell 0; have x1 := h1.cell 1; have x2 := h1.cell 2
  replace CT := Hd CT
  go_wp2_with fail
  refine CT.out.mono ?_
  rintro e w3 ⟨rfl, hb3⟩
  have hw3 := bth hw0 hb3
  replace h0 := h0.below' hb3
  clear x0 x1 x2 hb3 CT h1 hw0
  have gl0 := h0.lt
  have x3 := h0.cell 3
  go_wp2_with (at_builtin; go_must (refine append_str rfl (.tmp 23) (.tmp 26) rfl none 0 rfl (Own.nil (B := w.heap.size)) (ofL (textQ (absQ q))) w3.heap.size 1 rfl (by simp) ([] ++ [ofL (textQ (absQ q))]) rfl (by simp) (by have := hw3.size; simp; omega) ?_); intro a3 c3 w4 ho3 hg3 hx3; have x4 := ((h0.alloc (.cells #[.string (ofL (textQ (absQ q)))] 9)).grown hg3 (by simp [Value.ownBlock])).cell 3)
  have hw4 := below_append' (hw3.alloc hw3.size _) (show OwnS w.heap.size _ none 0 [] from Own.nil) hg3
  replace ho3 := Hd ho3
  clear hx3 hg3 h0 x3 x4 gl0
  go_wp2
  go_loopg [6, 7, 8, 31] m.length (fun g s6 _ _ s31 wr => ∃ (k2 : Nat) (a2 : Option Addr) (c2 : Nat), Hid (k2 + g = m.length) /\ s31 = .int .i64 k2 /\ s6 = .slice a2 (partsT q m names k2).length c2 /\ OwnS w.heap.size wr a2 c2 (partsT q m names k2) /\ Below w.heap.size w wr)
  case atStart => exact ⟨0, a3, c3, by show _ = _; omega, rfl, by rw [partsT_zero, hcf.out]; rfl, by rw [partsT_zero, hcf.out]; exact ho3.out, hw4⟩
  case round =>
   obtain ⟨k2, a2, c2, hk2, rfl, rfl, hO, hwr⟩ := hrel
   have HO := Hd hO
   clear hO
   by_cases hlt : k2 < m.length
   ·
    obtain ⟨x, hx⟩ := get_of_lt hlt
    obtain ⟨bm, om, rfl, hcx, hxw⟩ := (HM.out wr hwr).2.2 k2 x hx
    simp only [Nat.mul_one] at hcx
    obtain ⟨hx0, hx1⟩ := HX.out x (List.mem_of_getElem? hx)
    have hxi := inInt_of hxw
    have hkn : k2 < names.length := by omega
    obtain ⟨s, hs⟩ := get_of_lt hkn
    obtain ⟨bn, on, rfl, hcn⟩ := HN.out.2.2 k2 s hs
    simp only [Nat.mul_one] at hcn
    have hcn2 := held (held hcn wr hwr)
    have hsn : nameA names k2 = s := by unfold nameA; rw [List.getD_eq_getElem?_getD, hs]; rfl
    have hss := HNZ.out s (List.mem_of_getElem? hs)
    have hpl := partsT_len q m names k2
    have hsu := partsT_succ (q := q) (names := names) hx
    replace hsn := Hd hsn; replace hsu := Hd hsu
    have hml := HML.out
    have hgk := hk2.out
    clear hxw hs hx hcn
    by_cases h1 : x = 1
    ·
     have hp : partsT q m names (k2 + 1) = partsT q m names k2 ++ [s] := by rw [hsu.out, h1, facP_one, hsn.out]
     replace hp := Hd hp
     have HLE : Hid ((partsT q m names k2 ++ [s]).length <= 16777216) := Hd (by rw [List.length_append]; simp; omega)
     have h1e : (x == 1) = true := by simp [h1]
     have hcell := hcn2
     have hcn3 := hcn2 wr brf
     clear h1 hgk hpl
     go_wp2_with (at_builtin; go_must (refine append_str rfl (.tmp 39) (.tmp 44) rfl a2 c2 rfl (HO.out.alloc _) s wr.heap.size 1 rfl (by simp) (partsT q m names k2 ++ [s]) rfl HLE.out (by have := hwr.size; simp; omega) ?_); intro a3 c3 w4 ho3 hg3 hx3)
     have hw4 := below_append' (hwr.alloc hwr.size _) (HO.out.alloc _) hg3
     replace ho3 := Hd ho3; replace hw4 := Hd hw4
     clear hx3 hg3 HO
     go_roundg (gk - 1)
     case rel => exact ⟨k2 + 1, a3, c3, by have := hk2.out; show _ = _; omega, by go_num, by rw [hp.out, List.length_append]; rfl, by rw [hp.out]; exact ho3.out, hw4.out⟩
     case measure => have := hk2.out; omega
    ·
     have h1e : (x == 1) = false := by simp [h1]
     by_cases h2 : 1 < x
     ·
      obtain ⟨xn, rfl⟩ : ∃ xn : Nat, x = (xn : Int) := ⟨x.toNat, by omega⟩
      obtain ⟨y, hy⟩ : ∃ y, s ++ ⟨#[94]⟩ ++ ofL (textN xn) = y := ⟨_, rfl⟩
      have hp : partsT q m names (k2 + 1) = partsT q m names k2 ++ [y] := by rw [hsu.out, facP_more h2, hsn.out, Int.toNat_natCast, hy]
      replace hp := Hd hp
      have hsz1 : (ofL (textN xn)).size <= 10 := by rw [ofL_size]; have := digs_1m (xn : Int) hx1; rwa [Int.toNat_natCast] at this
      have hsz3 : s.size + 1 <= 1048577 := by omega
      have hsz4 : s.size + 1 + (ofL (textN xn)).size <= 1048587 := by omega
      have hn3 : ¬ 9223372036854775807 < s.size + 1 := by omega
      have hn4 : ¬ 9223372036854775807 < s.size + 1 + (ofL (textN xn)).size := by omega
      have HLE : Hid ((partsT q m names k2 ++ [y]).length <= 16777216) := Hd (by rw [List.length_append]; simp; omega)
      replace hy := Hd hy
      clear h1 hgk hpl hxi
      go_wp2
      have s0 : Below wr.heap.size wr wr.drew := brf.drew
      refine wp_region_mix (S := Below wr.heap.size wr) [(0, .q), (1, .q), (2, .q), (3, .q), (4, .q), (5, .q), (6, .q), (7, .l), (8, .q), (9, .l), (10, .t), (11, .p)] (by kernel_rfl) (by kernel_rfl) (by kernel_rfl) (fun d _ _ _ _ h => by cases d <;> exact h) (s0) ?_
      iterate 7 (refine wpMix_q rfl rfl (fun K hK => ?_); apply Exists.intro; refine ⟨fun w' hw' => ?_, ?_⟩; (focus (go_simp; try rfl)); go_simp; refine hK _ _ ?_; clear hK K)
      refine wpMix_l rfl rfl (fun K hK => ?_)
      go_simp
      refine (itoaN_any xn _ (HTB.out _ (bth hwr s0)) (by omega)).mono ?_
      rintro r u1 ⟨rfl, hb1⟩
      dsimp only
      refine hK.out _ _ (bth s0 hb1) (fun _ => ?_)
      clear hK K
      have s1 := bth s0 hb1
      have hw1 := bth hwr s1
      have HO1 := Hd (HO.out.below s1)
      iterate 1 (refine wpMix_q rfl rfl (fun K hK => ?_); apply Exists.intro; refine ⟨fun w' hw' => ?_, ?_⟩; (focus (go_simp; try rfl)); go_simp; refine hK _ _ ?_; clear hK K)
      refine wpMix_l rfl rfl (fun K hK => ?_)
      go_simp
      refine hK.out _ _ ((s1.alloc s1.size _)) (fun _ => ?_)
      clear hK K
      refine wpMix_t rfl rfl (fun K hK => ?_)
      rw [hy.out]
      refine wp_append_1 (.tmp 49) (.tmp 58) 24 rfl Tryz.underlying24 infoS rfl (by omega) (by omega) strC_len a2 c2 rfl (HO1.out.alloc _) y (strC_one y) u1.heap.size 1 rfl (strC_cell (by simp)) (partsT q m names k2 ++ [y]) rfl HLE.out (by have := hw1.size; simp; omega) ?_
      intro a3 c3 w4 ho3 hg3 hx3
      go_simp
      refine hK.out _ _ ?_
      clear hK K
      iterate 1 (refine wpMix_p rfl rfl (fun K hK => ?_); apply Exists.intro; refine ⟨fun w' => ?_, ?_⟩; (focus (go_simp; try rfl)); go_simp; refine hK _ _ ?_; clear hK K)
      refine wpMix_nil ?_
      have hw4 := below_append' (hw1.alloc hw1.size _) (HO1.out.alloc _) hg3
      replace ho3 := Hd ho3; replace hw4 := Hd hw4
      clear hx3 hg3 HO HO1 hb1 s0 s1 hw1
      go_wp2
      go_roundg (gk - 1)
      case rel => exact ⟨k2 + 1, a3, c3, by have := hk2.out; show _ = _; omega, by go_num, by rw [hp.out, List.length_append]; rfl, by rw [hp.out]; exact ho3.out, hw4.out⟩
      case measure => have := hk2.out; omega
     ·
      have hp : partsT q m names (k2 + 1) = partsT q m names k2 := by rw [hsu.out, facP_none (by omega), List.append_nil]
      replace hp := Hd hp
      clear h1 hgk hpl
      go_wp2
      go_roundg (gk - 1)
      case rel => exact ⟨k2 + 1, a2, c2, by have := hk2.out; show _ = _; omega, by go_num, by rw [hp.out], by rw [hp.out]; exact HO.out, hwr⟩
      case measure => have := hk2.out; omega
   ·
    have hkm : k2 = m.length := by have := hk2.out; omega
    have hsh := joinB_size (partsT_short (q := q) (m := m) (names := names) (N := 1048576) (T := 20000002) HNZ.out (fun x hx => (HX.out x hx).2) HT.out k2)
    have hpl := partsT_len q m names k2
    have hml := HML.out
    have CJ := join_any (partsT q m names k2) starB a2 c2 wr HO.out.reads1 (by omega) (Nat.le_trans hsh (Nat.le_trans (Nat.mul_le_mul_right _ (show _ <= 65 by omega)) (by omega)))
    rw [hkm] at CJ ⊢
    replace CJ := Hd CJ
    clear hsh hpl hkm
    go_wp2_with fail
    refine CJ.out.mono ?_
    rintro e w5 ⟨rfl, hb5⟩
    go_wp2
    go_ret
    exact ⟨rfl, bth hwr hb5⟩
 ·
  have hl0 : ((m.length : Int) == 0) = false := by rw [beq_eq_false_iff_ne]; omega
  have CE := fun y W h1 h2 => equal_q z.pos y (absQ q) 1 (k + 1) W h1 h2 (by omega)
  obtain ⟨bo, hbo⟩ : ∃ b, decide (absQ q = 1) = b := ⟨_, rfl⟩
  simp only [hbo] at CE
  replace CE := Hd CE; replace hbo := Hd hbo
  refine wp_region_mix (S := Below w0.heap.size w0) [(0, .q), (1, .q), (2, .q), (3, .q), (4, .q), (5, .q), (6, .l), (7, .t), (8, .p), (9, .p)] (by kernel_rfl) (by kernel_rfl) (by kernel_rfl) (fun d _ _ _ _ h => by cases d <;> exact h) (s0) ?_
  iterate 6 (refine wpMix_q rfl rfl (fun K hK => ?_); apply Exists.intro; refine ⟨fun w' hw' => ?_, ?_⟩; (focus (go_simp; try rfl)); go_simp; refine hK _ _ ?_; clear hK K)
  refine wpMix_l rfl rfl (fun K hK => ?_)
  go_simp
  refine (unit_q _).mono ?_
  rintro r u1 ⟨y, rfl, J, hb1⟩
  dsimp only
  refine hK.out _ _ (bth s0 hb1) (fun _ => ?_)
  clear hK K
  have s1 := bth s0 hb1
  refine wpMix_t rfl rfl (fun K hK => ?_)
  go_simp
  refine (CE.out y _ (QK.more (HQ.out _ (bth hw0 s1)) (by omega)) (QK.more J.now (by omega))).mono ?_
  rintro r w2 ⟨rfl, hb2⟩
  dsimp only
  refine hK.out _ _ ?_
  clear hK K
  have s2 := bth s1 hb2
  iterate 2 (refine wpMix_p rfl rfl (fun K hK => ?_); apply Exists.intro; refine ⟨fun w' => ?_, ?_⟩; (focus (go_simp; try rfl)); go_simp; refine hK _ _ ?_; clear hK K)
  refine wpMix_nil ?_
  clear k03 k10 k11 k12
  replace h0 := h0.below' s2; replace h1 := h1.below' s2; replace hw0 := bth hw0 s2
  clear s0 s1 s2 gl0 gl1 hb1 hb2 J
  clear CE
  cases bo
  ·
   have hcf := Hd (show cofP q m = [ofL (textQ (absQ q))] from if_pos (.inr (of_decide_eq_false hbo.out)))
   clear hbo
   have CT := text_q z.pos (absQ q) k w2 (HQ.out w2 hw0) (by omega)
   have x0 := h1.cell 0; have x1 := h1.cell 1; have x2 := h1.cell 2
   replace CT := Hd CT
   go_wp2_with fail
   refine CT.out.mono ?_
   rintro e w3 ⟨rfl, hb3⟩
   have hw3 := bth hw0 hb3
   replace h0 := h0.below' hb3
   clear x0 x1 x2 hb3 CT h1 hw0
   have gl0 := h0.lt
   have x3 := h0.cell 3
   go_wp2_with (at_builtin; go_must (refine append_str rfl (.tmp 23) (.tmp 26) rfl none 0 rfl (Own.nil (B := w.heap.size)) (ofL (textQ (absQ q))) w3.heap.size 1 rfl (by simp) ([] ++ [ofL (textQ (absQ q))]) rfl (by simp) (by have := hw3.size; simp; omega) ?_); intro a3 c3 w4 ho3 hg3 hx3; have x4 := ((h0.alloc (.cells #[.string (ofL (textQ (absQ q)))] 9)).grown hg3 (by simp [Value.ownBlock])).cell 3)
   have hw4 := below_append' (hw3.alloc hw3.size _) (show OwnS w.heap.size _ none 0 [] from Own.nil) hg3
   replace ho3 := Hd ho3
   clear hx3 hg3 h0 x3 x4 gl0
   go_wp2
   go_loopg [6, 7, 8, 31] m.length (fun g s6 _ _ s31 wr => ∃ (k2 : Nat) (a2 : Option Addr) (c2 : Nat), Hid (k2 + g = m.length) /\ s31 = .int .i64 k2 /\ s6 = .slice a2 (partsT q m names k2).length c2 /\ OwnS w.heap.size wr a2 c2 (partsT q m names k2) /\ Below w.heap.size w wr)
   case atStart => exact ⟨0, a3, c3, by show _ = _; omega, rfl, by rw [partsT_zero, hcf.out]; rfl, by rw [partsT_zero, hcf.out]; exact ho3.out, hw4⟩
   case round =>
    obtain ⟨k2, a2, c2, hk2, rfl, rfl, hO, hwr⟩ := hrel
    have HO := Hd hO
    clear hO
    by_cases hlt : k2 < m.length
    ·
     obtain ⟨x, hx⟩ := get_of_lt hlt
     obtain ⟨bm, om, rfl, hcx, hxw⟩ := (HM.out wr hwr).2.2 k2 x hx
     simp only [Nat.mul_one] at hcx
     obtain ⟨hx0, hx1⟩ := HX.out x (List.mem_of_getElem? hx)
     have hxi := inInt_of hxw
     have hkn : k2 < names.length := by omega
     obtain ⟨s, hs⟩ := get_of_lt hkn
     obtain ⟨bn, on, rfl, hcn⟩ := HN.out.2.2 k2 s hs
     simp only [Nat.mul_one] at hcn
     have hcn2 := held (held hcn wr hwr)
     have hsn : nameA names k2 = s := by unfold nameA; rw [List.getD_eq_getElem?_getD, hs]; rfl
     have hss := HNZ.out s (List.mem_of_getElem? hs)
     have hpl := partsT_len q m names k2
     have hsu := partsT_succ (q := q) (names := names) hx
     replace hsn := Hd hsn; replace hsu := Hd hsu
     have hml := HML.out
     have hgk := hk2.out
     clear hxw hs hx hcn
     by_cases h1 : x = 1
     ·
      have hp : partsT q m names (k2 + 1) = partsT q m names k2 ++ [s] := by rw [hsu.out, h1, facP_one, hsn.out]
      replace hp := Hd hp
      have HLE : Hid ((partsT q m names k2 ++ [s]).length <= 16777216) := Hd (by rw [List.length_append]; simp; omega)
      have h1e : (x == 1) = true := by simp [h1]
      have hcell := hcn2
      have hcn3 := hcn2 wr brf
      clear h1 hgk hpl
      go_wp2_with (at_builtin; go_must (refine append_str rfl (.tmp 39) (.tmp 44) rfl a2 c2 rfl (HO.out.alloc _) s wr.heap.size 1 rfl (by simp) (partsT q m names k2 ++ [s]) rfl HLE.out (by have := hwr.size; simp; omega) ?_); intro a3 c3 w4 ho3 hg3 hx3)
      have hw4 := below_append' (hwr.alloc hwr.size _) (HO.out.alloc _) hg3
      replace ho3 := Hd ho3; replace hw4 := Hd hw4
      clear hx3 hg3 HO
      go_roundg (gk - 1)
      case rel => exact ⟨k2 + 1, a3, c3, by have := hk2.out; show _ = _; omega, by go_num, by rw [hp.out, List.length_append]; rfl, by rw [hp.out]; exact ho3.out, hw4.out⟩
      case measure => have := hk2.out; omega
     ·
      have h1e : (x == 1) = false := by simp [h1]
      by_cases h2 : 1 < x
      ·
       obtain ⟨xn, rfl⟩ : ∃ xn : Nat, x = (xn : Int) := ⟨x.toNat, by omega⟩
       obtain ⟨y, hy⟩ : ∃ y, s ++ ⟨#[94]⟩ ++ ofL (textN xn) = y := ⟨_, rfl⟩
       have hp : partsT q m names (k2 + 1) = partsT q m names k2 ++ [y] := by rw [hsu.out, facP_more h2, hsn.out, Int.toNat_natCast, hy]
       replace hp := Hd hp
       have hsz1 : (ofL (textN xn)).size <= 10 := by rw [ofL_size]; have := digs_1m (xn : Int) hx1; rwa [Int.toNat_natCast] at this
       have hsz3 : s.size + 1 <= 1048577 := by omega
       have hsz4 : s.size + 1 + (ofL (textN xn)).size <= 1048587 := by omega
       have hn3 : ¬ 9223372036854775807 < s.size + 1 := by omega
       have hn4 : ¬ 9223372036854775807 < s.size + 1 + (ofL (textN xn)).size := by omega
       have HLE : Hid ((partsT q m names k2 ++ [y]).length <= 16777216) := Hd (by rw [List.length_append]; simp; omega)
       replace hy := Hd hy
       clear h1 hgk hpl hxi
       go_wp2
       have s0 : Below wr.heap.size wr wr.drew := brf.drew
       refine wp_region_mix (S := Below wr.heap.size wr) [(0, .q), (1, .q), (2, .q), (3, .q), (4, .q), (5, .q), (6, .q), (7, .l), (8, .q), (9, .l), (10, .t), (11, .p)] (by kernel_rfl) (by kernel_rfl) (by kernel_rfl) (fun d _ _ _ _ h => by cases d <;> exact h) (s0) ?_
       iterate 7 (refine wpMix_q rfl rfl (fun K hK => ?_); apply Exists.intro; refine ⟨fun w' hw' => ?_, ?_⟩; (focus (go_simp; try rfl)); go_simp; refine hK _ _ ?_; clear hK K)
       refine wpMix_l rfl rfl (fun K hK => ?_)
       go_simp
       refine (itoaN_any xn _ (HTB.out _ (bth hwr s0)) (by omega)).mono ?_
       rintro r u1 ⟨rfl, hb1⟩
       dsimp only
       refine hK.out _ _ (bth s0 hb1) (fun _ => ?_)
       clear hK K
       have s1 := bth s0 hb1
       have hw1 := bth hwr s1
       have HO1 := Hd (HO.out.below s1)
       iterate 1 (refine wpMix_q rfl rfl (fun K hK => ?_); apply Exists.intro; refine ⟨fun w' hw' => ?_, ?_⟩; (focus (go_simp; try rfl)); go_simp; refine hK _ _ ?_; clear hK K)
       refine wpMix_l rfl rfl (fun K hK => ?_)
       go_simp
       refine hK.out _ _ ((s1.alloc s1.size _)) (fun _ => ?_)
       clear hK K
       refine wpMix_t rfl rfl (fun K hK => ?_)
       rw [hy.out]
       refine wp_append_1 (.tmp 49) (.tmp 58) 24 rfl Tryz.underlying24 infoS rfl (by omega) (by omega) strC_len a2 c2 rfl (HO1.out.alloc _) y (strC_one y) u1.heap.size 1 rfl (strC_cell (by simp)) (partsT q m names k2 ++ [y]) rfl HLE.out (by have := hw1.size; simp; omega) ?_
       intro a3 c3 w4 ho3 hg3 hx3
       go_simp
       refine hK.out _ _ ?_
       clear hK K
       iterate 1 (refine wpMix_p rfl rfl (fun K hK => ?_); apply Exists.intro; refine ⟨fun w' => ?_, ?_⟩; (focus (go_simp; try rfl)); go_simp; refine hK _ _ ?_; clear hK K)
       refine wpMix_nil ?_
       have hw4 := below_append' (hw1.alloc hw1.size _) (HO1.out.alloc _) hg3
       replace ho3 := Hd ho3; replace hw4 := Hd hw4
       clear hx3 hg3 HO HO1 hb1 s0 s1 hw1
       go_wp2
       go_roundg (gk - 1)
       case rel => exact ⟨k2 + 1, a3, c3, by have := hk2.out; show _ = _; omega, by go_num, by rw [hp.out, List.length_append]; rfl, by rw [hp.out]; exact ho3.out, hw4.out⟩
       case measure => have := hk2.out; omega
      ·
       have hp : partsT q m names (k2 + 1) = partsT q m names k2 := by rw [hsu.out, facP_none (by omega), List.append_nil]
       replace hp := Hd hp
       clear h1 hgk hpl
       go_wp2
       go_roundg (gk - 1)
       case rel => exact ⟨k2 + 1, a2, c2, by have := hk2.out; show _ = _; omega, by go_num, by rw [hp.out], by rw [hp.out]; exact HO.out, hwr⟩
       case measure => have := hk2.out; omega
    ·
     have hkm : k2 = m.length := by have := hk2.out; omega
     have hsh := joinB_size (partsT_short (q := q) (m := m) (names := names) (N := 1048576) (T := 20000002) HNZ.out (fun x hx => (HX.out x hx).2) HT.out k2)
     have hpl := partsT_len q m names k2
     have hml := HML.out
     have CJ := join_any (partsT q m names k2) starB a2 c2 wr HO.out.reads1 (by omega) (Nat.le_trans hsh (Nat.le_trans (Nat.mul_le_mul_right _ (show _ <= 65 by omega)) (by omega)))
     rw [hkm] at CJ ⊢
     replace CJ := Hd CJ
     clear hsh hpl hkm
     go_wp2_with fail
     refine CJ.out.mono ?_
     rintro e w5 ⟨rfl, hb5⟩
     go_wp2
     go_ret
     exact ⟨rfl, bth hwr hb5⟩
  ·
   have hcf := Hd (show cofP q m = [] from if_neg (by rintro (h | h); exact hm0 h; exact h (of_decide_eq_true hbo.out)))
   have x3 := h0.cell 3
   clear hbo
   go_wp2
   go_loopg [6, 7, 8, 31] m.length (fun g s6 _ _ s31 wr => ∃ (k2 : Nat) (a2 : Option Addr) (c2 : Nat), Hid (k2 + g = m.length) /\ s31 = .int .i64 k2 /\ s6 = .slice a2 (partsT q m names k2).length c2 /\ OwnS w.heap.size wr a2 c2 (partsT q m names k2) /\ Below w.heap.size w wr)
   case atStart => exact ⟨0, none, 0, by show _ = _; omega, rfl, by rw [partsT_zero, hcf.out]; rfl, by rw [partsT_zero, hcf.out]; exact Own.nil, hw0⟩
   case round =>
    obtain ⟨k2, a2, c2, hk2, rfl, rfl, hO, hwr⟩ := hrel
    have HO := Hd hO
    clear hO
    by_cases hlt : k2 < m.length
    ·
     obtain ⟨x, hx⟩ := get_of_lt hlt
     obtain ⟨bm, om, rfl, hcx, hxw⟩ := (HM.out wr hwr).2.2 k2 x hx
     simp only [Nat.mul_one] at hcx
     obtain ⟨hx0, hx1⟩ := HX.out x (List.mem_of_getElem? hx)
     have hxi := inInt_of hxw
     have hkn : k2 < names.length := by omega
     obtain ⟨s, hs⟩ := get_of_lt hkn
     obtain ⟨bn, on, rfl, hcn⟩ := HN.out.2.2 k2 s hs
     simp only [Nat.mul_one] at hcn
     have hcn2 := held (held hcn wr hwr)
     have hsn : nameA names k2 = s := by unfold nameA; rw [List.getD_eq_getElem?_getD, hs]; rfl
     have hss := HNZ.out s (List.mem_of_getElem? hs)
     have hpl := partsT_len q m names k2
     have hsu := partsT_succ (q := q) (names := names) hx
     replace hsn := Hd hsn; replace hsu := Hd hsu
     have hml := HML.out
     have hgk := hk2.out
     clear hxw hs hx hcn
     by_cases h1 : x = 1
     ·
      have hp : partsT q m names (k2 + 1) = partsT q m names k2 ++ [s] := by rw [hsu.out, h1, facP_one, hsn.out]
      replace hp := Hd hp
      have HLE : Hid ((partsT q m names k2 ++ [s]).length <= 16777216) := Hd (by rw [List.length_append]; simp; omega)
      have h1e : (x == 1) = true := by simp [h1]
      have hcell := hcn2
      have hcn3 := hcn2 wr brf
      clear h1 hgk hpl
      go_wp2_with (at_builtin; go_must (refine append_str rfl (.tmp 39) (.tmp 44) rfl a2 c2 rfl (HO.out.alloc _) s wr.heap.size 1 rfl (by simp) (partsT q m names k2 ++ [s]) rfl HLE.out (by have := hwr.size; simp; omega) ?_); intro a3 c3 w4 ho3 hg3 hx3)
      have hw4 := below_append' (hwr.alloc hwr.size _) (HO.out.alloc _) hg3
      replace ho3 := Hd ho3; replace hw4 := Hd hw4
      clear hx3 hg3 HO
      go_roundg (gk - 1)
      case rel => exact ⟨k2 + 1, a3, c3, by have := hk2.out; show _ = _; omega, by go_num, by rw [hp.out, List.length_append]; rfl, by rw [hp.out]; exact ho3.out, hw4.out⟩
      case measure => have := hk2.out; omega
     ·
      have h1e : (x == 1) = false := by simp [h1]
      by_cases h2 : 1 < x
      ·
       obtain ⟨xn, rfl⟩ : ∃ xn : Nat, x = (xn : Int) := ⟨x.toNat, by omega⟩
       obtain ⟨y, hy⟩ : ∃ y, s ++ ⟨#[94]⟩ ++ ofL (textN xn) = y := ⟨_, rfl⟩
       have hp : partsT q m names (k2 + 1) = partsT q m names k2 ++ [y] := by rw [hsu.out, facP_more h2, hsn.out, Int.toNat_natCast, hy]
       replace hp := Hd hp
       have hsz1 : (ofL (textN xn)).size <= 10 := by rw [ofL_size]; have := digs_1m (xn : Int) hx1; rwa [Int.toNat_natCast] at this
       have hsz3 : s.size + 1 <= 1048577 := by omega
       have hsz4 : s.size + 1 + (ofL (textN xn)).size <= 1048587 := by omega
       have hn3 : ¬ 9223372036854775807 < s.size + 1 := by omega
       have hn4 : ¬ 9223372036854775807 < s.size + 1 + (ofL (textN xn)).size := by omega
       have HLE : Hid ((partsT q m names k2 ++ [y]).length <= 16777216) := Hd (by rw [List.length_append]; simp; omega)
       replace hy := Hd hy
       clear h1 hgk hpl hxi
       go_wp2
       have s0 : Below wr.heap.size wr wr.drew := brf.drew
       refine wp_region_mix (S := Below wr.heap.size wr) [(0, .q), (1, .q), (2, .q), (3, .q), (4, .q), (5, .q), (6, .q), (7, .l), (8, .q), (9, .l), (10, .t), (11, .p)] (by kernel_rfl) (by kernel_rfl) (by kernel_rfl) (fun d _ _ _ _ h => by cases d <;> exact h) (s0) ?_
       iterate 7 (refine wpMix_q rfl rfl (fun K hK => ?_); apply Exists.intro; refine ⟨fun w' hw' => ?_, ?_⟩; (focus (go_simp; try rfl)); go_simp; refine hK _ _ ?_; clear hK K)
       refine wpMix_l rfl rfl (fun K hK => ?_)
       go_simp
       refine (itoaN_any xn _ (HTB.out _ (bth hwr s0)) (by omega)).mono ?_
       rintro r u1 ⟨rfl, hb1⟩
       dsimp only
       refine hK.out _ _ (bth s0 hb1) (fun _ => ?_)
       clear hK K
       have s1 := bth s0 hb1
       have hw1 := bth hwr s1
       have HO1 := Hd (HO.out.below s1)
       iterate 1 (refine wpMix_q rfl rfl (fun K hK => ?_); apply Exists.intro; refine ⟨fun w' hw' => ?_, ?_⟩; (focus (go_simp; try rfl)); go_simp; refine hK _ _ ?_; clear hK K)
       refine wpMix_l rfl rfl (fun K hK => ?_)
       go_simp
       refine hK.out _ _ ((s1.alloc s1.size _)) (fun _ => ?_)
       clear hK K
       refine wpMix_t rfl rfl (fun K hK => ?_)
       rw [hy.out]
       refine wp_append_1 (.tmp 49) (.tmp 58) 24 rfl Tryz.underlying24 infoS rfl (by omega) (by omega) strC_len a2 c2 rfl (HO1.out.alloc _) y (strC_one y) u1.heap.size 1 rfl (strC_cell (by simp)) (partsT q m names k2 ++ [y]) rfl HLE.out (by have := hw1.size; simp; omega) ?_
       intro a3 c3 w4 ho3 hg3 hx3
       go_simp
       refine hK.out _ _ ?_
       clear hK K
       iterate 1 (refine wpMix_p rfl rfl (fun K hK => ?_); apply Exists.intro; refine ⟨fun w' => ?_, ?_⟩; (focus (go_simp; try rfl)); go_simp; refine hK _ _ ?_; clear hK K)
       refine wpMix_nil ?_
       have hw4 := below_append' (hw1.alloc hw1.size _) (HO1.out.alloc _) hg3
       replace ho3 := Hd ho3; replace hw4 := Hd hw4
       clear hx3 hg3 HO HO1 hb1 s0 s1 hw1
       go_wp2
       go_roundg (gk - 1)
       case rel => exact ⟨k2 + 1, a3, c3, by have := hk2.out; show _ = _; omega, by go_num, by rw [hp.out, List.length_append]; rfl, by rw [hp.out]; exact ho3.out, hw4.out⟩
       case measure => have := hk2.out; omega
      ·
       have hp : partsT q m names (k2 + 1) = partsT q m names k2 := by rw [hsu.out, facP_none (by omega), List.append_nil]
       replace hp := Hd hp
       clear h1 hgk hpl
       go_wp2
       go_roundg (gk - 1)
       case rel => exact ⟨k2 + 1, a2, c2, by have := hk2.out; show _ = _; omega, by go_num, by rw [hp.out], by rw [hp.out]; exact HO.out, hwr⟩
       case measure => have := hk2.out; omega
    ·
     have hkm : k2 = m.length := by have := hk2.out; omega
     have hsh := joinB_size (partsT_short (q := q) (m := m) (names := names) (N := 1048576) (T := 20000002) HNZ.out (fun x hx => (HX.out x hx).2) HT.out k2)
     have hpl := partsT_len q m names k2
     have hml := HML.out
     have CJ := join_any (partsT q m names k2) starB a2 c2 wr HO.out.reads1 (by omega) (Nat.le_trans hsh (Nat.le_trans (Nat.mul_le_mul_right _ (show _ <= 65 by omega)) (by omega)))
     rw [hkm] at CJ ⊢
     replace CJ := Hd CJ
     clear hsh hpl hkm
     go_wp2_with fail
     refine CJ.out.mono ?_
     rintro e w5 ⟨rfl, hb5⟩
     go_wp2
     go_ret
     exact ⟨rfl, bth hwr hb5⟩
end Go.Proofs.YtkjnkpkagcboeaaGreatDoor
