/- Walks: the program's natural numbers: Mul. -/
import Derived.Test.YtaihkpjbnkgmlaaGreatRf2
import Derived.Test.YtaihkpjbnkgmlaaGreatRf3

/- Sums without leading zeros; rows of a product. No function of the program in sight. -/
namespace Go.Proofs.YtaihkpjbnkgmlaaGreat

/-- as long as its value needs: no leading zeros -/
theorem canon_len {l : List Int} (h : U16 l) (hl : l.length ≤ (limbs (val l)).length) : limbs (val l) = l := by
 obtain ⟨k, hk, e⟩ := trim_some h
 have h1 := congrArg List.length e
 rw [List.length_take] at h1
 rw [e, List.take_of_length_le (by omega)]
/-- a sum of two numbers without leading zeros, the first as long as the second or longer -/
theorem sum_none {o : List Int} {n1 n2 : Nat} (hou : U16 o) (hl : o.length = (limbs n1).length) (h : val o = n1 + n2) : limbs (n1 + n2) = o := by
 have h1 := limbs_len_mono (show n1 ≤ n1 + n2 by omega)
 rw [← h] at h1 ⊢
 exact canon_len hou (by omega)
theorem sum_carry {o : List Int} {n1 n2 c : Nat} (hou : U16 o) (hc : 0 < c) (hc2 : c ≤ 65535) (h : val o + 65536 ^ o.length * c = n1 + n2) : limbs (n1 + n2) = o ++ [(c : Int)] := by
 have hv : val (o ++ [(c : Int)]) = n1 + n2 := by rw [val_snoc, ← h]; simp
 rw [← hv]
 refine limbs_canon (hou.app (U16.cons (by omega) U16.nil)) fun x hx => ?_
 rw [List.getLast?_append] at hx
 simp at hx
 omega
/-- rows of a product: i limbs of the first factor have been taken -/
structure MulR (T U O : List Int) (i : Nat) : Prop where
 len : O.length = T.length + U.length
 u16 : U16 O
 sum : val O = val (T.take i) * val U
 far : ∀ j, i + U.length ≤ j → j < O.length → O[j]? = some 0
/-- within a row: k limbs of the second factor have been taken, c is carried -/
structure MulI (T U O : List Int) (i k c : Nat) (x : Int) : Prop where
 len : O.length = T.length + U.length
 u16 : U16 O
 car : c ≤ 65535
 sum : val O + 65536 ^ (i + k) * c = val (T.take i) * val U + 65536 ^ i * (x.toNat * val (U.take k))
 far : ∀ j, i + U.length ≤ j → j < O.length → O[j]? = some 0
theorem MulR.start (T U : List Int) : MulR T U (List.replicate (T.length + U.length) 0) 0 :=
 ⟨by simp, u16_replicate _, by simp [val_replicate, val], fun j _ hl => by simp at hl; rw [List.getElem?_replicate, if_pos hl]⟩
theorem MulR.row {T U O : List Int} {i : Nat} (h : MulR T U O i) (x : Int) : MulI T U O i 0 0 x := ⟨h.len, h.u16, by omega, by simp [h.sum, val], h.far⟩
theorem MulI.next {T U O : List Int} {i k c : Nat} {x z y : Int} (h : MulI T U O i k c x) (hx : 0 ≤ x ∧ x ≤ 65535) (hk : k < U.length) (hz : O[i + k]? = some z) (hy : U[k]? = some y) (hy2 : 0 ≤ y ∧ y ≤ 65535)
  {c2 d : Nat} (hd : d + 65536 * c2 = z.toNat + x.toNat * y.toNat + c) (hd2 : d ≤ 65535) : MulI T U (O.set (i + k) (d : Int)) i (k + 1) c2 x := by
 have hz2 := h.u16.get hz
 refine ⟨by rw [List.length_set]; exact h.len, h.u16.set_ ⟨by omega, by omega⟩, carry_lt (z := z.toNat) (x := x.toNat) (y := y.toNat) (c := c) (d := d) (by omega) (by omega) (by omega) h.car hd, mul_step T U O i k c c2 d z x y hz (limbAt_some hy) h.sum hd, fun j hj hl => ?_⟩
 rw [List.getElem?_set_ne (by omega)]
 exact h.far j hj (by simpa using hl)
theorem MulI.done {T U O : List Int} {i c : Nat} {x : Int} (h : MulI T U O i U.length c x) (hx : T[i]? = some x) : MulR T U (O.set (i + U.length) (c : Int)) (i + 1) := by
 have hi := lt_of_get hx
 have hz := h.far (i + U.length) (Nat.le_refl _) (by rw [h.len]; omega)
 have h1 := val_set hz (c : Int)
 have h2 := h.sum
 rw [val_take_all (Nat.le_refl _), mul_end T U i x hx] at h2
 have hc := h.car
 refine ⟨by rw [List.length_set]; exact h.len, h.u16.set_ ⟨by omega, by omega⟩, ?_, fun j hj hl => ?_⟩
 ·
  have e : ((c : Int)).toNat = c := by omega
  rw [e] at h1
  simp only [Int.toNat_zero, Nat.mul_zero, Nat.add_zero] at h1
  omega
 ·
  rw [List.getElem?_set_ne (by omega)]
  exact h.far j (by omega) (by simpa using hl)
theorem MulR.done {T U O : List Int} (h : MulR T U O T.length) : val O = val T * val U := by rw [h.sum, val_take_all (Nat.le_refl _)]
end Go.Proofs.YtaihkpjbnkgmlaaGreat

/- Walks: the program's natural numbers: Add. -/
namespace Go.Proofs.YtaihkpjbnkgmlaaGreat
open Go.RowKit

theorem take_set_snoc {O : List Int} {k : Nat} (hk : k < O.length) (d : Int) : (O.set k d).take (k + 1) = O.take k ++ [d] := by
 rw [take_more (xs := O.set k d) (x := d) (by simp [hk]), List.take_set_of_le (Nat.le_refl _)]
set_option maxRecDepth 100000 in
set_option maxHeartbeats 4000000 in
theorem nadd_any (l m : List Int) (n1 n2 : Nat) (a a' : Option Addr) (c c' : Nat) (w : World) (h : NatR w a c l) (h' : NatR w a' c' m) (hn : val l = n1) (hk : val m = n2) (hl : l.length ≤ 10000000) (hm : m.length ≤ 10000000) :
  Calls Tryz.prog 325 #[.slice a l.length c, .slice a' m.length c'] w (RetN (limbs (n1 + n2)) w) := by
 have C1 := trim_any l a c w h
 have C2 := trim_any m a' c' w h'
 have hP := h.trim
 have hQ := h'.trim
 have hl1 := limbs_len_val h.u16
 have hl2 := limbs_len_val h'.u16
 rw [hn] at C1 hP hl1
 rw [hk] at C2 hQ hl2
 have hup := limbs_u16 n1
 have huq := limbs_u16 n2
 have hvp := val_limbs n1
 have hvq := val_limbs n2
 obtain ⟨M, hM⟩ : ∃ M, n1 + n2 = M := ⟨_, rfl⟩
 rw [hM]
 have HSUM0 := Lib.hid hM
 have hT0 : (limbs n1).length ≤ 10000000 := by omega
 have hU0 : (limbs n2).length ≤ 10000000 := by omega
 clear hl1 hl2 h h' hn hk hM
 obtain ⟨T, hT⟩ : ∃ T, limbs n1 = T := ⟨_, rfl⟩
 obtain ⟨U, hU⟩ : ∃ U, limbs n2 = U := ⟨_, rfl⟩
 have HT := Lib.hid hT
 have HU := Lib.hid hU
 rw [hT] at C1 hP hup hvp hT0
 rw [hU] at C2 hQ huq hvq hU0
 replace C1 := Lib.hid C1; replace C2 := Lib.hid C2
 clear hT hU
 by_cases hcmp : T.length < U.length
 ·
  have HP := Lib.hid hQ
  have HQ := Lib.hid hP
  have HVP := Lib.hid hvq
  have HVQ := Lib.hid hvp
  have HLP : Hid (U.length = (limbs n2).length) := Lib.hid (by rw [HU.out])
  have HSUM : Hid (M = n2 + n1) := Lib.hid (by rw [← HSUM0.out, Nat.add_comm])
  clear hP hQ hvp hvq
  obtain ⟨hup, huq⟩ := And.intro huq hup
  have hmk := run_make_nat2 .i64 U.length (U.length + 1) (by omega) (by omega) w
  simp only [Int.natCast_add, Int.cast_ofNat_Int] at hmk
  go_enter Tryz.func325, Tryz.ntmps325
  go_wp2_with fail
  refine C1.out.mono ?_
  rintro e w1 ⟨rfl, rfl⟩
  go_wp2_with fail
  refine C2.out.mono ?_
  rintro e w1 ⟨rfl, rfl⟩
  go_wp2
  clear hmk C1 C2
  have hz0 := BlkN.new w (U.length + 1)
  have hb0 : Below w.heap.size w (w.alloc (.cells (madeCells #[.int .u16 0] (U.length + 1)) 205)) := (Below.refl _ _).alloc (Nat.le_refl _) _
  have hz : RowN (w.alloc (.cells (madeCells #[.int .u16 0] (U.length + 1)) 205)) w.heap.size (List.replicate U.length 0) [.int .u16 0] := by
   have h1 := (RowN.of hz0).cut U.length
   have e1 : (List.replicate (U.length + 1) (0 : Int)).take U.length = List.replicate U.length 0 := by rw [List.take_replicate]; congr 1; omega
   have e2 : (List.replicate (U.length + 1) (0 : Int)).drop U.length = [0] := by rw [List.drop_replicate, show U.length + 1 - U.length = 1 by omega]; rfl
   rw [e1, e2] at h1
   exact h1
  clear hz0
  revert hz hb0
  generalize w.alloc (.cells (madeCells #[.int .u16 0] (U.length + 1)) 205) = w0
  intro hb0 hz
  go_loopg [6, 7, 8, 28] U.length (fun g s6 _ _ s28 wr => ∃ (k cc : Nat) (O : List Int), k + g = U.length ∧ s28 = .int .i64 k ∧ s6 = .int .u32 cc ∧ cc ≤ 1 ∧ Hid (O.length = U.length) ∧ U16 O ∧ RowN wr w.heap.size O [.int .u16 0] ∧ Below w.heap.size w wr ∧
   Hid (val (O.take k) + 65536 ^ k * cc = val (U.take k) + val (T.take k)))
  case atStart => exact ⟨0, 0, _, by omega, rfl, rfl, by omega, by show _ = _; simp, u16_replicate _, hz, hb0, by show _ = _; simp [val]⟩
  case round =>
   clear hz hb0
   obtain ⟨k, cc, O, hkg, rfl, rfl, hc1, hol, hou, hrow, hwr, hval⟩ := hrel
   have HROW := Lib.hid hrow
   have HKG := Lib.hid hkg
   clear hrow hkg
   by_cases hlt : k < U.length
   ·
    obtain ⟨x, hx⟩ := get_of_lt hlt
    obtain ⟨hx0, hx1⟩ := hup.get hx
    obtain ⟨bp, op, rfl, hcp⟩ := (HP.out.ext (Ext.below hwr)).cell hx
    have hkO : k < O.length := by rw [hol.out]; exact hlt
    obtain ⟨z, hz⟩ := get_of_lt hkO
    have hcell := HROW.out.cell hz
    have hfr := HROW.out.frozen k
    have hsx := limbAt_some hx
    have hset := fun q : Int => HROW.out.set_ hkO q
    have HSET := Lib.hid hset
    have htk := fun q : Int => take_set_snoc hkO q
    have hstep := fun c2 d h1 => add_step U T (O.take k) k cc c2 d (by rw [List.length_take]; omega) hval.out h1
    rw [hsx] at hstep
    obtain ⟨y, rfl⟩ : ∃ y : Nat, x = (y : Int) := ⟨x.toNat, by omega⟩
    rw [Int.toNat_natCast] at hstep
    have HTK := Lib.hid htk
    have HSTEP := Lib.hid hstep
    clear hset hstep htk hval hx hsx hz
    by_cases hkn : k < T.length
    ·
     obtain ⟨t, ht⟩ := get_of_lt hkn
     obtain ⟨bq, oq, rfl, hcq⟩ := (HQ.out.ext (Ext.below hwr)).cell ht
     obtain ⟨ht0, ht1⟩ := huq.get ht
     obtain ⟨t, rfl⟩ : ∃ s : Nat, t = (s : Int) := ⟨t.toNat, by omega⟩
     have HST := HSTEP.out
     rw [limbAt_some ht, Int.toNat_natCast] at HST
     obtain ⟨lo, hlo⟩ : ∃ lo, (cc + y + t) % 65536 = lo := ⟨_, rfl⟩
     obtain ⟨c2, hc2⟩ : ∃ c2, (cc + y + t) / 65536 = c2 := ⟨_, rfl⟩
     have hw1 : IntKind.u16.wrap ((cc : Int) + (y : Int) + (t : Int)) = (lo : Int) := by
      have := wrap16 (cc + y + t)
      rw [hlo] at this
      rw [← this]
      simp
     have hw2 : ((cc : Int) + (y : Int) + (t : Int)) / 65536 = (c2 : Int) := by omega
     have hlo1 : lo ≤ 65535 := by omega
     have hc21 : c2 ≤ 1 := by omega
     replace HST := Lib.hid (HST c2 lo (by omega))
     clear ht hlo hc2 HSTEP
     go_wp2
     go_roundg (gk - 1)
     case rel => exact ⟨k + 1, c2, O.set k (lo : Int), by have := HKG.out; omega, by go_num, rfl, by omega, by show _ = _; rw [List.length_set]; exact hol.out, hou.set_ (by omega), HSET.out lo, hwr.setCell (Nat.le_refl _) _, by show _ = _; rw [HTK.out]; exact HST.out⟩
     case measure => have := HKG.out; omega
    ·
     have HST := HSTEP.out
     rw [limbAt_none (by omega)] at HST
     obtain ⟨lo, hlo⟩ : ∃ lo, (cc + y) % 65536 = lo := ⟨_, rfl⟩
     obtain ⟨c2, hc2⟩ : ∃ c2, (cc + y) / 65536 = c2 := ⟨_, rfl⟩
     have hw1 : IntKind.u16.wrap ((cc : Int) + (y : Int)) = (lo : Int) := by
      have := wrap16 (cc + y)
      rw [hlo] at this
      rw [← this]
      simp
     have hw2 : ((cc : Int) + (y : Int)) / 65536 = (c2 : Int) := by omega
     have hlo1 : lo ≤ 65535 := by omega
     have hc21 : c2 ≤ 1 := by omega
     replace HST := Lib.hid (HST c2 lo (by simp; omega))
     clear hlo hc2 HSTEP
     go_wp2
     go_roundg (gk - 1)
     case rel => exact ⟨k + 1, c2, O.set k (lo : Int), by have := HKG.out; omega, by go_num, rfl, by omega, by show _ = _; rw [List.length_set]; exact hol.out, hou.set_ (by omega), HSET.out lo, hwr.setCell (Nat.le_refl _) _, by show _ = _; rw [HTK.out]; exact HST.out⟩
     case measure => have := HKG.out; omega
   ·
    obtain rfl : k = U.length := by have := HKG.out; omega
    have hfin : val O + 65536 ^ O.length * cc = n2 + n1 := by
     have h1 := hval.out
     rw [val_take_all (by rw [hol.out]; omega), val_take_all (Nat.le_refl _), val_take_all (by omega), HVP.out, HVQ.out] at h1
     rw [hol.out]
     exact h1
    have hown : OwnN w.heap.size wr (some ⟨w.heap.size, 0, none⟩) (U.length + 1) O := by
     have h1 := HROW.out.own (Nat.le_refl _) (c := U.length + 1) (by rw [hol.out]; rfl) (by unfold maxLen; omega) O.length (Nat.le_refl _)
     rwa [List.take_length] at h1
    have HOWN := Lib.hid hown
    have HFIN := Lib.hid hfin
    clear hown hfin hval
    by_cases hcz : cc = 0
    ·
     subst hcz
     have hres : limbs (n2 + n1) = O := by
      have h1 := HFIN.out
      rw [Nat.mul_zero, Nat.add_zero] at h1
      exact sum_none hou (by rw [hol.out, HLP.out]) h1
     have HRES := Lib.hid hres
     clear hres
     go_wp2
     go_ret
     refine RetN.own (l := O) HOWN.out hou hwr (by rw [HSUM.out]; exact HRES.out) (hol.out.symm)
    ·
     have hres : limbs (n2 + n1) = O ++ [(cc : Int)] := sum_carry hou (by omega) (by omega) HFIN.out
     have HRES := Lib.hid hres
     have HLO : Hid ((O ++ [(cc : Int)]).length ≤ 16777216) := Lib.hid (by rw [List.length_append, hol.out]; simp; omega)
     obtain rfl : cc = 1 := by omega
     have hown2 := HOWN.out
     have hoL := hol.out
     have hltO : ¬ O.length < O.length := Nat.lt_irrefl _
     rw [← hoL] at hown2 ⊢
     obtain ⟨cO, hcO⟩ : ∃ q, O.length + 1 = q := ⟨_, rfl⟩
     rw [hcO] at hown2 ⊢
     replace HOWN := Lib.hid hown2
     replace hoL := Lib.hid hoL
     clear hres hown2 hcz hcO
     go_wp2_with (at_builtin; go_must (refine append_nat rfl (.tmp 58) (.tmp 61) rfl (some ⟨w.heap.size, 0, none⟩) cO rfl (HOWN.out.alloc _) ((1 : Nat) : Int) wr.heap.size 1 rfl (by simp) (O ++ [((1 : Nat) : Int)]) rfl HLO.out (by have := hwr.size; simp; omega) ?_); intro a2 c2 w2 ho2 hg2 hx2)
     go_ret
     exact RetN.own ho2 (hou.app (U16.cons (by omega) U16.nil)) (below_append' (hwr.alloc hwr.size _) (HOWN.out.alloc _) hg2) (by rw [HSUM.out]; exact HRES.out) (by simp)
 ·
  have HP := Lib.hid hP
  have HQ := Lib.hid hQ
  have HVP := Lib.hid hvp
  have HVQ := Lib.hid hvq
  have HLP : Hid (T.length = (limbs n1).length) := Lib.hid (by rw [HT.out])
  have HSUM : Hid (M = n1 + n2) := Lib.hid HSUM0.out.symm
  clear hP hQ hvp hvq
  have hmk := run_make_nat2 .i64 T.length (T.length + 1) (by omega) (by omega) w
  simp only [Int.natCast_add, Int.cast_ofNat_Int] at hmk
  go_enter Tryz.func325, Tryz.ntmps325
  go_wp2_with fail
  refine C1.out.mono ?_
  rintro e w1 ⟨rfl, rfl⟩
  go_wp2_with fail
  refine C2.out.mono ?_
  rintro e w1 ⟨rfl, rfl⟩
  go_wp2
  clear hmk C1 C2
  have hz0 := BlkN.new w (T.length + 1)
  have hb0 : Below w.heap.size w (w.alloc (.cells (madeCells #[.int .u16 0] (T.length + 1)) 205)) := (Below.refl _ _).alloc (Nat.le_refl _) _
  have hz : RowN (w.alloc (.cells (madeCells #[.int .u16 0] (T.length + 1)) 205)) w.heap.size (List.replicate T.length 0) [.int .u16 0] := by
   have h1 := (RowN.of hz0).cut T.length
   have e1 : (List.replicate (T.length + 1) (0 : Int)).take T.length = List.replicate T.length 0 := by rw [List.take_replicate]; congr 1; omega
   have e2 : (List.replicate (T.length + 1) (0 : Int)).drop T.length = [0] := by rw [List.drop_replicate, show T.length + 1 - T.length = 1 by omega]; rfl
   rw [e1, e2] at h1
   exact h1
  clear hz0
  revert hz hb0
  generalize w.alloc (.cells (madeCells #[.int .u16 0] (T.length + 1)) 205) = w0
  intro hb0 hz
  go_loopg [6, 7, 8, 28] T.length (fun g s6 _ _ s28 wr => ∃ (k cc : Nat) (O : List Int), k + g = T.length ∧ s28 = .int .i64 k ∧ s6 = .int .u32 cc ∧ cc ≤ 1 ∧ Hid (O.length = T.length) ∧ U16 O ∧ RowN wr w.heap.size O [.int .u16 0] ∧ Below w.heap.size w wr ∧
   Hid (val (O.take k) + 65536 ^ k * cc = val (T.take k) + val (U.take k)))
  case atStart => exact ⟨0, 0, _, by omega, rfl, rfl, by omega, by show _ = _; simp, u16_replicate _, hz, hb0, by show _ = _; simp [val]⟩
  case round =>
   clear hz hb0
   obtain ⟨k, cc, O, hkg, rfl, rfl, hc1, hol, hou, hrow, hwr, hval⟩ := hrel
   have HROW := Lib.hid hrow
   have HKG := Lib.hid hkg
   clear hrow hkg
   by_cases hlt : k < T.length
   ·
    obtain ⟨x, hx⟩ := get_of_lt hlt
    obtain ⟨hx0, hx1⟩ := hup.get hx
    obtain ⟨bp, op, rfl, hcp⟩ := (HP.out.ext (Ext.below hwr)).cell hx
    have hkO : k < O.length := by rw [hol.out]; exact hlt
    obtain ⟨z, hz⟩ := get_of_lt hkO
    have hcell := HROW.out.cell hz
    have hfr := HROW.out.frozen k
    have hsx := limbAt_some hx
    have hset := fun q : Int => HROW.out.set_ hkO q
    have HSET := Lib.hid hset
    have htk := fun q : Int => take_set_snoc hkO q
    have hstep := fun c2 d h1 => add_step T U (O.take k) k cc c2 d (by rw [List.length_take]; omega) hval.out h1
    rw [hsx] at hstep
    obtain ⟨y, rfl⟩ : ∃ y : Nat, x = (y : Int) := ⟨x.toNat, by omega⟩
    rw [Int.toNat_natCast] at hstep
    have HTK := Lib.hid htk
    have HSTEP := Lib.hid hstep
    clear hset hstep htk hval hx hsx hz
    by_cases hkn : k < U.length
    ·
     obtain ⟨t, ht⟩ := get_of_lt hkn
     obtain ⟨bq, oq, rfl, hcq⟩ := (HQ.out.ext (Ext.below hwr)).cell ht
     obtain ⟨ht0, ht1⟩ := huq.get ht
     obtain ⟨t, rfl⟩ : ∃ s : Nat, t = (s : Int) := ⟨t.toNat, by omega⟩
     have HST := HSTEP.out
     rw [limbAt_some ht, Int.toNat_natCast] at HST
     obtain ⟨lo, hlo⟩ : ∃ lo, (cc + y + t) % 65536 = lo := ⟨_, rfl⟩
     obtain ⟨c2, hc2⟩ : ∃ c2, (cc + y + t) / 65536 = c2 := ⟨_, rfl⟩
     have hw1 : IntKind.u16.wrap ((cc : Int) + (y : Int) + (t : Int)) = (lo : Int) := by
      have := wrap16 (cc + y + t)
      rw [hlo] at this
      rw [← this]
      simp
     have hw2 : ((cc : Int) + (y : Int) + (t : Int)) / 65536 = (c2 : Int) := by omega
     have hlo1 : lo ≤ 65535 := by omega
     have hc21 : c2 ≤ 1 := by omega
     replace HST := Lib.hid (HST c2 lo (by omega))
     clear ht hlo hc2 HSTEP
     go_wp2
     go_roundg (gk - 1)
     case rel => exact ⟨k + 1, c2, O.set k (lo : Int), by have := HKG.out; omega, by go_num, rfl, by omega, by show _ = _; rw [List.length_set]; exact hol.out, hou.set_ (by omega), HSET.out lo, hwr.setCell (Nat.le_refl _) _, by show _ = _; rw [HTK.out]; exact HST.out⟩
     case measure => have := HKG.out; omega
    ·
     have HST := HSTEP.out
     rw [limbAt_none (by omega)] at HST
     obtain ⟨lo, hlo⟩ : ∃ lo, (cc + y) % 65536 = lo := ⟨_, rfl⟩
     obtain ⟨c2, hc2⟩ : ∃ c2, (cc + y) / 65536 = c2 := ⟨_, rfl⟩
     have hw1 : IntKind.u16.wrap ((cc : Int) + (y : Int)) = (lo : Int) := by
      have := wrap16 (cc + y)
      rw [hlo] at this
      rw [← this]
      simp
     have hw2 : ((cc : Int) + (y : Int)) / 65536 = (c2 : Int) := by omega
     have hlo1 : lo ≤ 65535 := by omega
     have hc21 : c2 ≤ 1 := by omega
     replace HST := Lib.hid (HST c2 lo (by simp; omega))
     clear hlo hc2 HSTEP
     go_wp2
     go_roundg (gk - 1)
     case rel => exact ⟨k + 1, c2, O.set k (lo : Int), by have := HKG.out; omega, by go_num, rfl, by omega, by show _ = _; rw [List.length_set]; exact hol.out, hou.set_ (by omega), HSET.out lo, hwr.setCell (Nat.le_refl _) _, by show _ = _; rw [HTK.out]; exact HST.out⟩
     case measure => have := HKG.out; omega
   ·
    obtain rfl : k = T.length := by have := HKG.out; omega
    have hfin : val O + 65536 ^ O.length * cc = n1 + n2 := by
     have h1 := hval.out
     rw [val_take_all (by rw [hol.out]; omega), val_take_all (Nat.le_refl _), val_take_all (by omega), HVP.out, HVQ.out] at h1
     rw [hol.out]
     exact h1
    have hown : OwnN w.heap.size wr (some ⟨w.heap.size, 0, none⟩) (T.length + 1) O := by
     have h1 := HROW.out.own (Nat.le_refl _) (c := T.length + 1) (by rw [hol.out]; rfl) (by unfold maxLen; omega) O.length (Nat.le_refl _)
     rwa [List.take_length] at h1
    have HOWN := Lib.hid hown
    have HFIN := Lib.hid hfin
    clear hown hfin hval
    by_cases hcz : cc = 0
    ·
     subst hcz
     have hres : limbs (n1 + n2) = O := by
      have h1 := HFIN.out
      rw [Nat.mul_zero, Nat.add_zero] at h1
      exact sum_none hou (by rw [hol.out, HLP.out]) h1
     have HRES := Lib.hid hres
     clear hres
     go_wp2
     go_ret
     refine RetN.own (l := O) HOWN.out hou hwr (by rw [HSUM.out]; exact HRES.out) (hol.out.symm)
    ·
     have hres : limbs (n1 + n2) = O ++ [(cc : Int)] := sum_carry hou (by omega) (by omega) HFIN.out
     have HRES := Lib.hid hres
     have HLO : Hid ((O ++ [(cc : Int)]).length ≤ 16777216) := Lib.hid (by rw [List.length_append, hol.out]; simp; omega)
     obtain rfl : cc = 1 := by omega
     have hown2 := HOWN.out
     have hoL := hol.out
     have hltO : ¬ O.length < O.length := Nat.lt_irrefl _
     rw [← hoL] at hown2 ⊢
     obtain ⟨cO, hcO⟩ : ∃ q, O.length + 1 = q := ⟨_, rfl⟩
     rw [hcO] at hown2 ⊢
     replace HOWN := Lib.hid hown2
     replace hoL := Lib.hid hoL
     clear hres hown2 hcz hcO
     go_wp2_with (at_builtin; go_must (refine append_nat rfl (.tmp 58) (.tmp 61) rfl (some ⟨w.heap.size, 0, none⟩) cO rfl (HOWN.out.alloc _) ((1 : Nat) : Int) wr.heap.size 1 rfl (by simp) (O ++ [((1 : Nat) : Int)]) rfl HLO.out (by have := hwr.size; simp; omega) ?_); intro a2 c2 w2 ho2 hg2 hx2)
     go_ret
     exact RetN.own ho2 (hou.app (U16.cons (by omega) U16.nil)) (below_append' (hwr.alloc hwr.size _) (HOWN.out.alloc _) hg2) (by rw [HSUM.out]; exact HRES.out) (by simp)
end Go.Proofs.YtaihkpjbnkgmlaaGreat

/- Walks: the program's natural numbers: Mul. -/
namespace Go.Proofs.YtaihkpjbnkgmlaaGreat
open Go.RowKit

set_option maxRecDepth 100000 in
set_option maxHeartbeats 1000000 in
theorem nmul_zero (l m : List Int) (n1 n2 : Nat) (a a' : Option Addr) (c c' : Nat) (w : World) (h : NatR w a c l) (h' : NatR w a' c' m) (hn : val l = n1) (hk : val m = n2) (h0 : n1 = 0 ∨ n2 = 0) :
  Calls Tryz.prog 234 #[.slice a l.length c, .slice a' m.length c'] w (RetN [] w) := by
 have C1 := trim_any l a c w h
 have C2 := trim_any m a' c' w h'
 rw [hn] at C1
 rw [hk] at C2
 have hp1 := limbs_len_pos (n := n1)
 have hp2 := limbs_len_pos (n := n2)
 have hle := h'.len
 have hle2 := limbs_len_val h'.u16
 rw [hk] at hle2
 clear h h' hn hk
 revert C1 C2 hp1 hp2 hle2
 generalize (limbs n1).length = T
 generalize (limbs n2).length = U
 intro C1 C2 hp1 hp2 hle2
 replace C1 := Lib.hid C1; replace C2 := Lib.hid C2
 by_cases hT : T = 0
 ·
  have hT1 : ((T : Int) == 0) = true := by rw [beq_iff_eq]; omega
  clear hp1 hp2 h0 hT
  go_enter Tryz.func234, Tryz.ntmps234
  go_wp2_with fail
  refine C1.out.mono ?_
  rintro e w1 ⟨rfl, rfl⟩
  go_wp2_with fail
  refine C2.out.mono ?_
  rintro e w1 ⟨rfl, rfl⟩
  go_wp2
  go_ret
  exact ⟨none, 0, rfl, fun _ _ => SlR.nil, Below.refl _ _⟩
 ·
  have hT1 : ((T : Int) == 0) = false := by rw [beq_eq_false_iff_ne]; omega
  have hU1 : ((U : Int) == 0) = true := by rw [beq_iff_eq]; omega
  clear hp1 hp2 h0 hT
  go_enter Tryz.func234, Tryz.ntmps234
  go_wp2_with fail
  refine C1.out.mono ?_
  rintro e w1 ⟨rfl, rfl⟩
  go_wp2_with fail
  refine C2.out.mono ?_
  rintro e w1 ⟨rfl, rfl⟩
  go_wp2
  go_ret
  exact ⟨none, 0, rfl, fun _ _ => SlR.nil, Below.refl _ _⟩
set_option maxRecDepth 100000 in
set_option maxHeartbeats 4000000 in
theorem nmul_pos (l m : List Int) (n1 n2 : Nat) (a a' : Option Addr) (c c' : Nat) (w : World) (h : NatR w a c l) (h' : NatR w a' c' m) (hn : val l = n1) (hk : val m = n2) (hl : l.length ≤ 8000000) (hm : m.length ≤ 8000000) (h1 : n1 ≠ 0) (h2 : n2 ≠ 0) :
  Calls Tryz.prog 234 #[.slice a l.length c, .slice a' m.length c'] w (RetN (limbs (n1 * n2)) w) := by
 have C1 := trim_any l a c w h
 have C2 := trim_any m a' c' w h'
 have hP := h.trim
 have hQ := h'.trim
 have hl1 := limbs_len_val h.u16
 have hl2 := limbs_len_val h'.u16
 rw [hn] at C1 hP hl1
 rw [hk] at C2 hQ hl2
 have hup := limbs_u16 n1
 have huq := limbs_u16 n2
 have hvp := val_limbs n1
 have hvq := val_limbs n2
 have hp1 := limbs_len_pos.2 (show 0 < n1 by omega)
 have hp2 := limbs_len_pos.2 (show 0 < n2 by omega)
 obtain ⟨M, hM⟩ : ∃ M, n1 * n2 = M := ⟨_, rfl⟩
 rw [hM]
 have HM := Lib.hid hM
 have hT0 : (limbs n1).length ≤ 8000000 := by omega
 have hU0 : (limbs n2).length ≤ 8000000 := by omega
 clear hl1 hl2 h h' hn hk hM h1 h2
 revert C1 C2 hP hQ hup huq hvp hvq hp1 hp2 hT0 hU0
 generalize limbs n1 = T
 generalize limbs n2 = U
 intro C1 C2 hP hQ hup huq hvp hvq hp1 hp2 hT0 hU0
 have HP := Lib.hid hP
 have HQ := Lib.hid hQ
 have HVP := Lib.hid hvp
 have HVQ := Lib.hid hvq
 have HUP := Lib.hid hup
 have HUQ := Lib.hid huq
 replace C1 := Lib.hid C1; replace C2 := Lib.hid C2
 have hT1 : ((T.length : Int) == 0) = false := by rw [beq_eq_false_iff_ne]; omega
 have hU1 : ((U.length : Int) == 0) = false := by rw [beq_eq_false_iff_ne]; omega
 have hmk : ∀ w, (Instr.makeSlice 39 (.int .i64 ((T.length : Int) + U.length)) (.int .i64 ((T.length : Int) + U.length))).run Tryz.prog w = .ok (.slice (some ⟨w.heap.size, 0, none⟩) (T.length + U.length) (T.length + U.length)) (w.alloc (.cells (madeCells #[.int .u16 0] (T.length + U.length)) 205)) := fun w => by
  have := run_make_nat .i64 (T.length + U.length) (by omega) w
  simpa using this
 clear hP hQ hvp hvq hup huq
 go_enter Tryz.func234, Tryz.ntmps234
 go_wp2_with fail
 refine C1.out.mono ?_
 rintro e w1 ⟨rfl, rfl⟩
 go_wp2_with fail
 refine C2.out.mono ?_
 rintro e w1 ⟨rfl, rfl⟩
 go_wp2
 clear hmk C1 C2 hT1 hU1
 have hz := BlkN.new w (T.length + U.length)
 have hb0 : Below w.heap.size w (w.alloc (.cells (madeCells #[.int .u16 0] (T.length + U.length)) 205)) := (Below.refl _ _).alloc (Nat.le_refl _) _
 revert hz hb0
 generalize w.alloc (.cells (madeCells #[.int .u16 0] (T.length + U.length)) 205) = w0
 intro hz hb0
 go_loopg [6, 7, 8, 9, 10, 31] T.length (fun g _ _ _ _ _ s31 wr => ∃ (i : Nat) (O : List Int), i + g = T.length ∧ s31 = .int .i64 i ∧ Hid (MulR T U O i) ∧ BlkN wr w.heap.size O ∧ Below w.heap.size w wr)
 case atStart => exact ⟨0, _, by omega, rfl, MulR.start T U, hz, hb0⟩
 case round =>
  clear hz hb0
  obtain ⟨i, O, hig, rfl, hR, hrow, hwr⟩ := hrel
  have HROW := Lib.hid hrow
  have HIG := Lib.hid hig
  clear hrow hig
  by_cases hlt : i < T.length
  ·
   obtain ⟨x, hx⟩ := get_of_lt hlt
   obtain ⟨hx0, hx1⟩ := HUP.out.get hx
   obtain ⟨bp, op, rfl, hcp⟩ := (HP.out.ext (Ext.below hwr)).cell hx
   have hI := hR.out.row x
   have HX := Lib.hid hx
   have HI := Lib.hid hI
   clear hx hI hR
   go_wp2
   clear hcp
   obtain ⟨wo, rfl⟩ : ∃ wo : World, wo = wr := ⟨_, rfl⟩
   obtain ⟨gk0, rfl⟩ : ∃ gk0 : Nat, gk0 = gk := ⟨_, rfl⟩
   go_loopg [8, 9, 10, 38] U.length (fun g s8 _ _ s38 w2 => ∃ (k cc : Nat) (O2 : List Int), k + g = U.length ∧ s38 = .int .i64 k ∧ s8 = .int .u32 cc ∧ cc ≤ 65535 ∧ Hid (MulI T U O2 i k cc x) ∧ BlkN w2 w.heap.size O2 ∧ Below w.heap.size w w2)
   case atStart => exact ⟨0, 0, O, by omega, rfl, rfl, by omega, HI.out, HROW.out, hwr⟩
   case round =>
    clear HI HROW hwr O
    obtain ⟨k, cc, O, hkg, rfl, rfl, hcc, hI, hrow, hwr⟩ := hrel
    have HROW := Lib.hid hrow
    have HKG := Lib.hid hkg
    clear hrow hkg
    by_cases hkn : k < U.length
    ·
     obtain ⟨y, hy⟩ := get_of_lt hkn
     obtain ⟨hy0, hy1⟩ := HUQ.out.get hy
     obtain ⟨bq, oq, rfl, hcq⟩ := (HQ.out.ext (Ext.below hwr)).cell hy
     obtain ⟨z, hz⟩ := get_of_lt (xs := O) (k := i + k) (by rw [hI.out.len]; omega)
     obtain ⟨hz0, hz1⟩ := hI.out.u16.get hz
     have hcell := HROW.out.cell hz
     have hfr := HROW.out.frozen (i + k)
     have hset := fun q : Int => HROW.out.set_ (i + k) q
     have HSET := Lib.hid hset
     have hstep := fun (c2 d : Nat) => hI.out.next ⟨hx0, hx1⟩ hkn hz hy ⟨hy0, hy1⟩ (c2 := c2) (d := d)
     have hI2 : (i : Int) + k < (T.length : Int) + U.length := by omega
     have hxy : 0 ≤ x * y := Int.mul_nonneg hx0 hy0
     have hxy2 : x * y ≤ 4294836225 := by
      have := Int.mul_le_mul hx1 hy1 hy0 (by omega)
      omega
     obtain ⟨s, hs⟩ : ∃ s : Nat, (cc : Int) + (z + x * y) = (s : Int) := ⟨((cc : Int) + (z + x * y)).toNat, by omega⟩
     have hs2 : s = z.toNat + x.toNat * y.toNat + cc := by
      have ex : (x.toNat : Int) = x := by omega
      have ey : (y.toNat : Int) = y := by omega
      have ez : (z.toNat : Int) = z := by omega
      have : ((z.toNat + x.toNat * y.toNat + cc : Nat) : Int) = z + x * y + cc := by
       rw [Int.natCast_add, Int.natCast_add, Int.natCast_mul, ex, ey, ez]
      omega
     have hslt : s < 4294967296 := by omega
     obtain ⟨lo, hlo⟩ : ∃ lo, s % 65536 = lo := ⟨_, rfl⟩
     obtain ⟨c2, hc2⟩ : ∃ c2, s / 65536 = c2 := ⟨_, rfl⟩
     have HST := Lib.hid (hstep c2 lo (by omega) (by omega))
     have hw16 : IntKind.u16.wrap (s : Int) = (lo : Int) := by rw [wrap16, hlo]
     have hdv : (s : Int) / 65536 = (c2 : Int) := by omega
     have hlo2 : lo ≤ 65535 := by omega
     have hc22 : c2 ≤ 65535 := by omega
     clear hset hstep hz hy hs2 hlo hc2 hI
     go_wp2
     go_roundg (gk - 1)
     case rel => exact ⟨k + 1, c2, O.set (i + k) (lo : Int), by have := HKG.out; omega, by go_num, rfl, by omega, HST.out, HSET.out lo, hwr.setCell (Nat.le_refl _) _⟩
     case measure => have := HKG.out; omega
    ·
     obtain rfl : k = U.length := by have := HKG.out; omega
     have hdone := hI.out.done HX.out
     have HD := Lib.hid hdone
     obtain ⟨z, hz⟩ := get_of_lt (xs := O) (k := i + U.length) (by rw [hI.out.len]; omega)
     have hcell := HROW.out.cell hz
     have hfr := HROW.out.frozen (i + U.length)
     have hset := fun q : Int => HROW.out.set_ (i + U.length) q
     have HSET := Lib.hid hset
     have hI2 : (i : Int) + U.length < (T.length : Int) + U.length := by omega
     have hw16 : IntKind.u16.wrap (cc : Int) = (cc : Int) := by rw [wrap16, Nat.mod_eq_of_lt (by omega)]
     clear hset hz hdone hI
     go_wp2
     go_roundg (gk0 - 1)
     case rel => exact ⟨i + 1, O.set (i + U.length) (cc : Int), by have := HIG.out; omega, by go_num, HD.out, HSET.out cc, hwr.setCell (Nat.le_refl _) _⟩
     case measure => have := HIG.out; omega
  ·
   obtain rfl : i = T.length := by have := HIG.out; omega
   have hvO : val O = M := by rw [hR.out.done, HVP.out, HVQ.out]; exact HM.out
   have hol := hR.out.len
   have hou := hR.out.u16
   have hcap : T.length + U.length ≤ maxLen := by unfold maxLen; omega
   have CT := trim_any O (some ⟨w.heap.size, 0, none⟩) (T.length + U.length) wr (HROW.out.readsV (Nat.le_refl _) (New.refl _ _) hou (by rw [hol]; omega) hcap)
   have hread : ∀ V, New w.heap.size wr V → NatR V (some ⟨w.heap.size, 0, none⟩) (T.length + U.length) (limbs M) := fun V hV => by
    rw [← hvO]
    exact (HROW.out.readsV (Nat.le_refl _) hV hou (by rw [hol]; omega) hcap).trim
   rw [hvO, hol] at CT
   have HRD := Lib.hid hread
   replace CT := Lib.hid CT
   clear hread hvO hR hol
   go_wp2_with fail
   refine CT.out.mono ?_
   rintro e w3 ⟨rfl, rfl⟩
   go_wp2
   go_ret
   exact ⟨_, _, rfl, HRD.out, hwr⟩
theorem nmul_any (l m : List Int) (n1 n2 : Nat) (a a' : Option Addr) (c c' : Nat) (w : World) (h : NatR w a c l) (h' : NatR w a' c' m) (hn : val l = n1) (hk : val m = n2) (hl : l.length ≤ 8000000) (hm : m.length ≤ 8000000) :
  Calls Tryz.prog 234 #[.slice a l.length c, .slice a' m.length c'] w (RetN (limbs (n1 * n2)) w) := by
 by_cases h1 : n1 = 0
 ·
  rw [h1, Nat.zero_mul, limbs_zero]
  exact nmul_zero l m n1 n2 a a' c c' w h h' hn hk (.inl h1)
 ·
  by_cases h2 : n2 = 0
  ·
   rw [h2, Nat.mul_zero, limbs_zero]
   exact nmul_zero l m n1 n2 a a' c c' w h h' hn hk (.inr h2)
  · exact nmul_pos l m n1 n2 a a' c c' w h h' hn hk hl hm h1 h2
end Go.Proofs.YtaihkpjbnkgmlaaGreat
