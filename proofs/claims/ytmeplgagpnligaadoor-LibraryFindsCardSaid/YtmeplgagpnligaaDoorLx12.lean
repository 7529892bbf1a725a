/- Walks: rational numbers by the reference: Of, Frac. -/
import Derived.Test.YtmeplgagpnligaaDoorLx11
import Derived.Test.YtmeplgagpnligaaDoorLx2
import Derived.Test.YtmeplgagpnligaaDoorLx10
import Derived.Laws.IdiomStrings

/- Walks: rational numbers: Norm of the reference. -/
namespace Go.Proofs.YtmeplgagpnligaaDoor
open Go.RowKit

/-- a fraction in lowest terms: sign, numerator, denominator -/
def lowest (neg : Bool) (n d : Nat) : Bool × Nat × Nat := if d = 0 then (false, 0, 1) else (neg && decide (0 < n / Nat.gcd n d), n / Nat.gcd n d, d / Nat.gcd n d)
def RetF (t : Bool × Nat × Nat) (w : World) (e : Ending) (w' : World) : Prop := RetQ t.1 t.2.1 t.2.2 w e w'
theorem over_all (neg : Bool) (l m : List Int) (n d : Nat) (a a' : Option Addr) (c c' : Nat) (w : World) (h : NatR w a c l) (h' : NatR w a' c' m) (hn : val l = n) (hk : val m = d) (hl : l.length ≤ 2000000) (hm : m.length ≤ 2000000) :
    Calls Tryd.prog 35 #[.agg #[.bool neg, .slice a l.length c], .slice a' m.length c'] w (RetF (lowest neg n d) w) := by
  unfold RetF lowest
  by_cases h0 : d = 0
  · rw [if_pos h0]
    exact over_zero neg l m a a' c c' w h' (by rw [hk, h0]) hm
  · rw [if_neg h0]
    exact over_any neg l m n d a a' c c' w h h' hn hk hl hm (by omega)
set_option maxRecDepth 100000 in
set_option maxHeartbeats 2000000 in
theorem qnormR_any (neg : Bool) (l m : List Int) (n d : Nat) (a a' : Option Addr) (c c' : Nat) (w : World) (h : NatR w a c l) (h' : NatR w a' c' m) (hn : val l = n) (hk : val m = d) (hl : l.length ≤ 2000000) (hm : m.length ≤ 2000000) :
    Calls Tryd.prog 30 #[.agg #[.bool neg, .slice a l.length c, .slice a' m.length c']] w (RetF (lowest neg n d) w) := by
  have CO := fun W (hW : Below w.heap.size w W) => over_all neg l m n d a a' c c' W (h.ext (Ext.below hW)) (h'.ext (Ext.below hW)) hn hk hl hm
  obtain ⟨t, ht⟩ : ∃ t, lowest neg n d = t := ⟨_, rfl⟩
  rw [ht] at CO ⊢
  obtain ⟨s, N, D⟩ := t
  unfold RetF at CO ⊢
  dsimp only at CO ⊢
  replace CO := Lib.hid CO
  have hz : Blk ((w.alloc (.cells #[.bool neg, .slice a l.length c, .slice a' m.length c'] 54)).alloc (.cells #[.bool false, .slice none 0 0, .slice none 0 0] 54)) (w.heap.size + 1) 54 #[.bool false, .slice none 0 0, .slice none 0 0] := blk_at1 w _ _ _
  have hb0 : Below w.heap.size w ((w.alloc (.cells #[.bool neg, .slice a l.length c, .slice a' m.length c'] 54)).alloc (.cells #[.bool false, .slice none 0 0, .slice none 0 0] 54)) := by go_grown
  have hgB : w.heap.size ≤ w.heap.size + 1 := by omega
  have hgl := hz.lt
  clear h h' hn hk ht
  go_enter Tryd.func30, Tryd.ntmps30
  go_wp2_with fail
  revert hz hb0 hgB hgl
  generalize (w.alloc (.cells #[.bool neg, .slice a l.length c, .slice a' m.length c'] 54)).alloc (.cells #[.bool false, .slice none 0 0, .slice none 0 0] 54) = w0
  generalize w.heap.size + 1 = g
  intro hz hb0 hgB hgl
  refine (CO.out _ hb0).mono ?_
  rintro e w1 ⟨a1, c1, a2, c2, rfl, hV1, hV2, hb1⟩
  have hw1 := below_then hb0 hb1
  have hz1 := hz.below' hb1
  have HV1 := Lib.hid hV1
  have HV2 := Lib.hid hV2
  have z0 := hz1.cell 0; have z1 := hz1.cell 1; have z2 := hz1.cell 2; have f0 := hz1.frozen 0; have f1 := hz1.frozen 1; have f2 := hz1.frozen 2
  have hs0 := hb0.size
  clear hV1 hV2 hb0
  go_wp2
  have hF := blk3 (x := .bool s) (y := .slice a1 (limbs N).length c1) (z := .slice a2 (limbs D).length c2) hz1
  have e0 := hF.cell 0; have e1 := hF.cell 1; have e2 := hF.cell 2
  refine bodyPost_ret (v := .agg #[.bool s, .slice a1 (limbs N).length c1, .slice a2 (limbs D).length c2]) (by simp [results, Tryd.results30, go_sem, e0, e1, e2]) rfl ?_
  exact ⟨a1, c1, a2, c2, rfl, fun V hV => HV1.out V (back3 hV hs0 hgl), fun V hV => HV2.out V (back3 hV hs0 hgl), below3 hw1 hgB⟩
end Go.Proofs.YtmeplgagpnligaaDoor

/- Walks: the text of natural numbers, integers and rational numbers by the reference. -/
namespace Go.Proofs.YtmeplgagpnligaaDoor
open Go.RowKit

theorem conv_byte (w : World) (c : UInt8) : (convert 60 9 (.slice (some ⟨w.heap.size, 0, none⟩) 1 1)).run Tryd.prog (w.alloc (.cells #[.int .u8 (c.toNat : Int)] 5)) = .ok (.string (ofL [c])) (w.alloc (.cells #[.int .u8 (c.toNat : Int)] 5)) := by
  refine run_convert_bytes_back (P := Tryd.prog) (w.alloc (.cells #[.int .u8 (c.toNat : Int)] 5)) 60 9 5 ⟨w.heap.size, 0, none⟩ 1 [c] Tryd.underlying60 Tryd.underlying5 Tryd.underlying9 ?_
  intro j hj
  obtain rfl : j = 0 := by simpa using hj
  rw [Addr.add_lit]
  simp
theorem conv_digit (w : World) (r : Nat) (hr : r < 10) : (convert 60 9 (.slice (some ⟨w.heap.size, 0, none⟩) 1 1)).run Tryd.prog (w.alloc (.cells #[.int .u8 (48 + (r : Int))] 5)) = .ok (.string (ofL [(48 + r).toUInt8])) (w.alloc (.cells #[.int .u8 (48 + (r : Int))] 5)) := by
  have := conv_byte w (48 + r).toUInt8
  have e : (48 + r).toUInt8.toNat = 48 + r := by simp; omega
  rw [e] at this
  have e2 : ((48 + r : Nat) : Int) = 48 + (r : Int) := by omega
  rw [e2] at this
  exact this
theorem digs_len_limbs (n : Nat) (h : (limbs n).length ≤ 2000000) : (digs n).length ≤ 10000000 := by
  have h1 := lt_pow_limbs n
  have h2 : 65536 ^ (limbs n).length ≤ (10 ^ 5) ^ (limbs n).length := Nat.pow_le_pow_left (by omega) _
  rw [← Nat.pow_mul] at h2
  have h3 := digs_len (5 * (limbs n).length) n (Nat.lt_of_lt_of_le h1 h2)
  omega
theorem textN_len (n : Nat) (h : (limbs n).length ≤ 2000000) : (textN n).length ≤ 10000000 := by
  unfold textN
  split
  · simp
  · exact digs_len_limbs n h
set_option maxHeartbeats 1000000 in
theorem text01_any (l : List Int) (n : Nat) (a : Option Addr) (c : Nat) (w : World) (h : NatR w a c l) (hn : val l = n) (hl : l.length ≤ 2000000) :
    Calls Tryd.prog 34 #[.slice a l.length c] w fun e w' => e = .returned (.string (ofL (textN n))) ∧ Below w.heap.size w w' := by
  have C1 := norm01_any l a c w h (by omega)
  rw [hn] at C1
  replace C1 := Lib.hid C1
  have hL1 : (limbs n).length ≤ 2000000 := by have := limbs_len_val h.u16; rw [hn] at this; omega
  have HT := Lib.hid (show textN n = textN n from rfl)
  obtain ⟨T, hT⟩ : ∃ T, textN n = T := ⟨_, rfl⟩
  rw [hT]
  clear h hn HT
  by_cases h0 : n = 0
  · subst h0
    have hT' : T = [48] := by rw [← hT]; rfl
    clear hT
    subst hT'
    rw [limbs_zero] at C1
    go_enter Tryd.func34, Tryd.ntmps34
    go_wp2_with fail
    refine C1.out.mono ?_
    rintro e w1 ⟨a1, c1, rfl, hV1, hb1⟩
    clear hV1 C1
    go_wp2
    go_ret
    exact ⟨rfl, hb1⟩
  · have hlp : (((limbs n).length : Int) == 0) = false := by have h5 := limbs_len_pos.2 (show 0 < n by omega); rw [beq_eq_false_iff_ne]; omega
    have hT' : digs n = T := by rw [← hT]; unfold textN; rw [if_neg h0]
    have hTl : T.length ≤ 10000000 := by
      rw [← hT']
      exact digs_len_limbs n hL1
    have HT := Lib.hid hT'
    clear hT hT'
    go_enter Tryd.func34, Tryd.ntmps34
    go_wp2_with fail
    refine C1.out.mono ?_
    rintro e w1 ⟨a1, c1, rfl, hV1, hb1⟩
    have HV1 := Lib.hid hV1
    clear hV1 C1
    go_wp2
    have e0 : (⟨#[]⟩ : ByteArray) = ofL [] := rfl
    go_loopg [0, 3, 4, 5, 6, 15] n (fun g sx ss _ _ _ _ wr => ∃ (ax : Option Addr) (cx : Nat) (r : List UInt8), sx = .slice ax (limbs g).length cx ∧ ss = .string (ofL r) ∧ (∀ V, New w.heap.size wr V → NatR V ax cx (limbs g)) ∧
      (limbs g).length ≤ 2000000 ∧ Below w.heap.size w wr ∧ digs g ++ r = T)
    case atStart => exact ⟨a1, c1, [], rfl, rfl, HV1.out, hL1, hb1, by rw [HT.out, List.append_nil]⟩
    case round =>
      obtain ⟨ax, cx, r, rfl, rfl, hx, hlx, hb', hg⟩ := hrel
      have HX := Lib.hid hx
      have HG := Lib.hid hg
      clear hx hg hb1 HV1 HT hlp h0 e0
      by_cases h0 : gk = 0
      · subst h0
        have hgz : decide (0 < (limbs 0).length) = false := by rw [limbs_zero]; rfl
        have hr : r = T := by have := HG.out; rwa [digs_zero, List.nil_append] at this
        subst hr
        clear HG
        go_wp2
        go_ret
        exact ⟨rfl, hb'⟩
      · have hgz : decide (0 < (limbs gk).length) = true := by have := limbs_len_pos (n := gk); simp; omega
        have C10 := fun W => of01_any 10 W (by omega)
        have CD := fun a' c' W hW h' => divMod01_any (limbs gk) (limbs 10) gk 10 ax a' cx c' W ((HX.out W hW)) h' (val_limbs _) (val_limbs _) hlx (by have := limbs_len_le (n := 10) (k := 1) (by omega); omega) (by omega)
        unfold RetDM at CD
        have hr10 : gk % 10 < 10 := Nat.mod_lt _ (by omega)
        have hlt : gk / 10 < gk := by omega
        have hdg := HG.out
        rw [digs_pos h0] at hdg
        have hsm : val (limbs (gk % 10)) < 18446744073709551616 := by rw [val_limbs]; omega
        have hlr : (limbs (gk / 10)).length ≤ 2000000 := Nat.le_trans (limbs_len_mono (Nat.div_le_self _ _)) hlx
        have CS := fun a' c' W (h' : NatR W a' c' (limbs (gk % 10))) => short01_any (limbs (gk % 10)) a' c' W h' hsm
        rw [val_limbs] at CS
        have KD := fun W => conv_digit W (gk % 10) hr10
        obtain ⟨q, hq⟩ : ∃ q, gk / 10 = q := ⟨_, rfl⟩
        obtain ⟨m, hm⟩ : ∃ m, gk % 10 = m := ⟨_, rfl⟩
        rw [hq] at hlt hdg hlr
        rw [hm] at hr10 hdg
        simp only [hq, hm] at CD CS KD
        obtain ⟨dg, hdd⟩ : ∃ x, (48 + m).toUInt8 = x := ⟨_, rfl⟩
        rw [hdd] at hdg
        simp only [hdd] at KD
        have hsz : (ofL [dg]).size + (ofL r).size ≤ 10000001 := by
          rw [ofL_size, ofL_size]
          have := congrArg List.length HG.out
          rw [List.length_append] at this
          simp; omega
        have HDG := Lib.hid hdg
        replace C10 := Lib.hid C10
        replace CD := Lib.hid CD
        replace CS := Lib.hid CS
        clear hsm hq hm HG hdg h0 hdd
        go_wp2_with fail
        refine (C10.out _).mono ?_
        rintro e w2 ⟨a2, c2, rfl, hV2, hb2⟩
        have CD2 := Lib.hid (CD.out a2 c2 w2 ((New.refl _ _).below hb2) (hV2 w2 (New.refl _ _)))
        clear hV2 CD C10
        go_wp2_with fail
        refine CD2.out.mono ?_
        rintro e w3 ⟨a3, c3, a4, c4, rfl, hV3, hV4, hb3⟩
        have CS2 := Lib.hid (CS.out a4 c4 w3 (hV4 w3 (New.refl _ _)))
        have hw3 := below_then (below_then hb' hb2) hb3
        have HV3 := Lib.hid hV3
        clear hV3 hV4 CD2 CS
        go_wp2_with fail
        refine CS2.out.mono ?_
        rintro e w4 ⟨rfl, rfl⟩
        have hm1 : (m : Int) < 10 := by omega
        go_wp2
        go_roundg q
        case rel => exact ⟨a3, c3, [dg] ++ r, rfl, congrArg Value.string (ofL_app _ _), fun V hV => HV3.out V ((hV.unalloc).base (below_then hb' hb2).size), hlr, hw3.alloc hw3.size _, by rw [← HDG.out, List.append_assoc]⟩
        case measure => exact hlt
theorem limbs_one : limbs 1 = [1] := by rw [limbs_pos (by omega), limbs_zero]; rfl
set_option maxHeartbeats 1000000 in
theorem text02_any (neg : Bool) (l : List Int) (n : Nat) (a : Option Addr) (c : Nat) (w : World) (h : NatR w a c l) (hn : val l = n) (hl : l.length ≤ 2000000) :
    Calls Tryd.prog 33 #[.agg #[.bool neg, .slice a l.length c]] w fun e w' => e = .returned (.string (ofL (textZ (neg && decide (0 < n)) n))) ∧ Below w.heap.size w w' := by
  have CN := fun W (hW : Below w.heap.size w W) => znormR_any neg l n a c W (h.ext (Ext.below hW)) hn (by omega)
  have hz : Blk (w.alloc (.cells #[.bool neg, .slice a l.length c] 52)) w.heap.size 52 #[.bool neg, .slice a l.length c] := Blk.new w _ _
  have hb0 : Below w.heap.size w (w.alloc (.cells #[.bool neg, .slice a l.length c] 52)) := (Below.refl _ _).alloc (Nat.le_refl _) _
  have hln : (limbs n).length ≤ 2000000 := by have := limbs_len_val h.u16; rw [hn] at this; omega
  obtain ⟨s, hs⟩ : ∃ s, (neg && decide (0 < n)) = s := ⟨_, rfl⟩
  unfold RetZ at CN
  simp only [hs] at CN ⊢
  replace CN := Lib.hid CN
  clear h hn hs
  go_enter Tryd.func33, Tryd.ntmps33
  go_wp2_with fail
  revert hz hb0
  generalize w.alloc (.cells #[.bool neg, .slice a l.length c] 52) = w0
  intro hz hb0
  refine (CN.out _ hb0).mono ?_
  rintro e w1 ⟨a1, c1, rfl, hV1, hb1⟩
  have hw1 := below_then hb0 hb1
  have hz1 := hz.below' hb1
  have hlt := hz.lt
  have HV1 := Lib.hid hV1
  have hs0 := hb0.size
  have z0 := hz1.cell 0; have z1 := hz1.cell 1; have f0 := hz1.frozen 0; have f1 := hz1.frozen 1
  clear hV1
  have CT := fun W (hW : NatR W a1 c1 (limbs n)) => text01_any (limbs n) n a1 c1 W hW (val_limbs _) hln
  replace CT := Lib.hid CT
  have RD := fun x y => HV1.out ((w1.setCell ⟨w.heap.size, 0, none⟩ x).setCell ⟨w.heap.size, 1, none⟩ y) (back2 (New.refl _ _) hs0 hlt)
  replace RD := Lib.hid RD
  cases s
  · go_wp2_with fail
    refine (CT.out _ (RD.out _ _)).mono ?_
    rintro e w2 ⟨rfl, hb2⟩
    go_wp2
    go_ret
    exact ⟨rfl, (below2 hw1 (Nat.le_refl _)).trans (hb2.mono (by simp; exact hw1.size))⟩
  · go_wp2_with fail
    refine (CT.out _ (RD.out _ _)).mono ?_
    rintro e w2 ⟨rfl, hb2⟩
    have hsz : (textN n).length ≤ 10000000 := textN_len n hln
    rw [← ofL_size] at hsz
    have e45 : (⟨#[45]⟩ : ByteArray) ++ ofL (textN n) = ofL (45 :: textN n) := ofL_app [45] _
    replace e45 := Lib.hid e45
    go_wp2
    go_ret
    exact ⟨ret_str e45.out, (below2 hw1 (Nat.le_refl _)).trans (hb2.mono (by simp; exact hw1.size))⟩
end Go.Proofs.YtmeplgagpnligaaDoor

/- Walk: the text of rational numbers by the reference. -/
namespace Go.Proofs.YtmeplgagpnligaaDoor
open Go.RowKit

/-- the text of a fraction in lowest terms -/
def textF (t : Bool × Nat × Nat) : List UInt8 := if t.2.2 = 1 then textZ t.1 t.2.1 else textZ t.1 t.2.1 ++ 47 :: textN t.2.2
theorem lowest_sgn (neg : Bool) (n d : Nat) : ((lowest neg n d).1 && decide (0 < (lowest neg n d).2.1)) = (lowest neg n d).1 := by
  unfold lowest
  split
  · rfl
  · dsimp only
    cases neg <;> simp
theorem lowest_num_le (neg : Bool) (n d : Nat) : (lowest neg n d).2.1 ≤ n ∧ (lowest neg n d).2.2 ≤ d + 1 := by
  unfold lowest
  split
  · simp
  · exact ⟨Nat.div_le_self _ _, Nat.le_trans (Nat.div_le_self _ _) (by omega)⟩
theorem limbs_succ_len (d : Nat) : (limbs (d + 1)).length ≤ (limbs d).length + 1 := by
  have := limbs_len_add d 1
  have h1 : (limbs 1).length = 1 := by rw [limbs_one]; rfl
  rcases Nat.eq_zero_or_pos d with h | h
  · subst h; rw [h1]; omega
  · have := limbs_len_pos.2 h; omega
theorem textZ_len (neg : Bool) (n : Nat) (h : (limbs n).length ≤ 2000000) : (textZ neg n).length ≤ 10000001 := by
  have := textN_len n h
  unfold textZ
  split <;> simp <;> omega
set_option maxRecDepth 100000 in
set_option maxHeartbeats 1000000 in
theorem text03_any (neg : Bool) (l m : List Int) (n d : Nat) (a b : Option Addr) (c d0 : Nat) (w : World) (h : NatR w a c l) (h' : NatR w b d0 m) (hn : val l = n) (hk : val m = d) (hl : l.length ≤ 1000000) (hm : m.length ≤ 1000000) :
    Calls Tryd.prog 19 #[.agg #[.bool neg, .slice a l.length c, .slice b m.length d0]] w fun e w' => e = .returned (.string (ofL (textF (lowest neg n d)))) ∧ Below w.heap.size w w' := by
  have CN := fun W (hW : Below w.heap.size w W) => qnormR_any neg l m n d a b c d0 W (h.ext (Ext.below hW)) (h'.ext (Ext.below hW)) hn hk (by omega) (by omega)
  have hz : Blk (w.alloc (.cells #[.bool neg, .slice a l.length c, .slice b m.length d0] 54)) w.heap.size 54 #[.bool neg, .slice a l.length c, .slice b m.length d0] := Blk.new w _ _
  have hb0 : Below w.heap.size w (w.alloc (.cells #[.bool neg, .slice a l.length c, .slice b m.length d0] 54)) := (Below.refl _ _).alloc (Nat.le_refl _) _
  have hsg := lowest_sgn neg n d
  obtain ⟨hN1, hD1⟩ := lowest_num_le neg n d
  have hln : (limbs n).length ≤ 1000000 := by have := limbs_len_val h.u16; rw [hn] at this; omega
  have hld : (limbs d).length ≤ 1000000 := by have := limbs_len_val h'.u16; rw [hk] at this; omega
  obtain ⟨t, ht⟩ : ∃ t, lowest neg n d = t := ⟨_, rfl⟩
  simp only [ht] at CN hsg hN1 hD1 ⊢
  obtain ⟨s, N, D⟩ := t
  have hlN : (limbs N).length ≤ 1000000 := Nat.le_trans (limbs_len_mono hN1) hln
  have hlD : (limbs D).length ≤ 1000001 := Nat.le_trans (limbs_len_mono hD1) (Nat.le_trans (limbs_succ_len d) (by omega))
  unfold RetF RetQ at CN
  unfold textF
  dsimp only at CN hsg ⊢
  replace CN := Lib.hid CN
  clear h h' hn hk ht hN1 hD1
  go_enter Tryd.func19, Tryd.ntmps19
  go_wp2_with fail
  revert hz hb0
  generalize w.alloc (.cells #[.bool neg, .slice a l.length c, .slice b m.length d0] 54) = w0
  intro hz hb0
  refine (CN.out _ hb0).mono ?_
  rintro e w1 ⟨a1, c1, a2, c2, rfl, hV1, hV2, hb1⟩
  have hw1 := below_then hb0 hb1
  have hz1 := hz.below' hb1
  have hlt := hz.lt
  have HV1 := Lib.hid hV1
  have HV2 := Lib.hid hV2
  have hs0 := hb0.size
  have z0 := hz1.cell 0; have z1 := hz1.cell 1; have z2 := hz1.cell 2; have f0 := hz1.frozen 0; have f1 := hz1.frozen 1; have f2 := hz1.frozen 2
  clear hV1 hV2
  have R1 := fun x y z => HV1.out (((w1.setCell ⟨w.heap.size, 0, none⟩ x).setCell ⟨w.heap.size, 1, none⟩ y).setCell ⟨w.heap.size, 2, none⟩ z) (back3 (New.refl _ _) hs0 hlt)
  have R2 := fun x y z => HV2.out (((w1.setCell ⟨w.heap.size, 0, none⟩ x).setCell ⟨w.heap.size, 1, none⟩ y).setCell ⟨w.heap.size, 2, none⟩ z) (back3 (New.refl _ _) hs0 hlt)
  replace R1 := Lib.hid R1; replace R2 := Lib.hid R2
  have HF := fun x y z => blk3 (x := x) (y := y) (z := z) hz1
  have HB := fun x y z => below3 (x := x) (y := y) (z := z) hw1 (Nat.le_refl w.heap.size)
  replace HF := Lib.hid HF; replace HB := Lib.hid HB
  go_wp2
  refine world_gen (fun W => Blk W w.heap.size 54 #[.bool s, .slice a1 (limbs N).length c1, .slice a2 (limbs D).length c2] ∧ Below w.heap.size w W ∧ NatR W a1 c1 (limbs N) ∧ NatR W a2 c2 (limbs D)) ⟨HF.out _ _ _, HB.out _ _ _, R1.out _ _ _, R2.out _ _ _⟩ ?_
  clear HF HB R1 R2 z0 z1 z2 f0 f1 f2 hz1 hw1 HV1 HV2 hb1 hz hb0 hlt hs0
  rintro w2 ⟨hz, hw, r1, r2⟩
  have R1 := Lib.hid r1
  have R2 := Lib.hid r2
  clear r1 r2
  have z0 := fun w' (hw' : Below w2.heap.size w2 w') => (hz.below' hw').cell 0
  have z1 := fun w' (hw' : Below w2.heap.size w2 w') => (hz.below' hw').cell 1
  have z2 := fun w' (hw' : Below w2.heap.size w2 w') => (hz.below' hw').cell 2
  have C1 := fun W => of01_any 1 W (by omega)
  have CS := fun a' c' W (hW : Below w2.heap.size w2 W) (h' : NatR W a' c' (limbs 1)) => same01_any (limbs D) (limbs 1) a2 a' c2 c' W (R2.out.ext (Ext.below hW)) h'
  have CT1 := fun W (hW : Below w2.heap.size w2 W) => text02_any s (limbs N) N a1 c1 W (R1.out.ext (Ext.below hW)) (val_limbs _) (by omega)
  rw [hsg] at CT1
  have CT2 := fun W (hW : Below w2.heap.size w2 W) => text01_any (limbs D) D a2 c2 W (R2.out.ext (Ext.below hW)) (val_limbs _) (by omega)
  have hD : decide (limbs D = limbs 1) = decide (D = 1) := by rw [Bool.eq_iff_iff]; simp [limbs_inj]
  rw [hD] at CS
  replace C1 := Lib.hid C1; replace CS := Lib.hid CS; replace CT1 := Lib.hid CT1; replace CT2 := Lib.hid CT2
  have HSG := Lib.hid hsg
  clear hz hD hsg
  have s0 : Below w2.heap.size w2 w2.drew := (Below.refl _ _).drew
  by_cases h1 : D = 1
  · subst h1
    simp only [decide_true] at CS
    refine wp_region_mix (S := Below w2.heap.size w2) [(0, .q), (1, .q), (2, .l), (3, .t)] (by kernel_rfl) (by kernel_rfl) (by kernel_rfl) (fun d _ _ _ _ h => by cases d <;> exact h) (s0) ?_
    iterate 2 (refine wpMix_q rfl rfl (fun K hK => ?_); apply Exists.intro; refine ⟨fun w' hw' => ?_, ?_⟩; (focus (go_simp; try rfl)); go_simp; refine hK _ _ ?_; clear hK K)
    refine wpMix_l rfl rfl (fun K hK => ?_)
    go_simp
    refine (C1.out _).mono ?_
    rintro r w3 ⟨a3, c3, rfl, hV3, hb3⟩
    dsimp only
    refine hK.out _ _ (below_then s0 hb3) (fun _ => ?_)
    clear hK K
    have s3 := below_then s0 hb3
    have CS3 := CS.out a3 c3 w3 s3 (hV3 w3 (New.refl _ _))
    replace CS3 := Lib.hid CS3
    clear hV3
    refine wpMix_t rfl rfl (fun K hK => ?_)
    go_simp
    refine (CS3.out).mono ?_
    rintro r w4 ⟨rfl, hb4⟩
    dsimp only
    refine hK.out _ _ ?_
    clear hK K
    have s4 := below_then s3 hb4
    refine wpMix_nil ?_
    have y0 := z0 w4 s4; have y1 := z1 w4 s4; have y2 := z2 w4 s4
    go_wp2_with fail
    refine (CT1.out w4 s4).mono ?_
    rintro e w5 ⟨rfl, hb5⟩
    go_wp2
    go_ret
    exact ⟨rfl, below_then hw (below_then s4 hb5)⟩
  · have hd1 : decide (D = 1) = false := by simpa using h1
    rw [hd1] at CS
    have HNE := Lib.hid h1
    have hsz1 : (ofL (textZ s N)).size ≤ 10000001 := by rw [ofL_size]; exact textZ_len s N (by omega)
    have hsz2 : (ofL (textN D)).size ≤ 10000000 := by rw [ofL_size]; exact textN_len D (by omega)
    have hsz3 : (ofL (textZ s N)).size + 1 ≤ 10000002 := by omega
    have hsz4 : (ofL (textZ s N)).size + 1 + (ofL (textN D)).size ≤ 20000002 := by omega
    have hn3 : ¬ 9223372036854775807 < (ofL (textZ s N)).size + 1 := by omega
    have hn4 : ¬ 9223372036854775807 < (ofL (textZ s N)).size + 1 + (ofL (textN D)).size := by omega
    have hfin : ofL (textZ s N) ++ ⟨#[47]⟩ ++ ofL (textN D) = ofL (textZ s N ++ 47 :: textN D) := by
      show ofL (textZ s N) ++ ofL [47] ++ ofL (textN D) = _
      rw [ofL_app, ofL_app, List.append_assoc]; rfl
    have HFIN := Lib.hid hfin
    clear hd1 hfin h1
    refine wp_region_mix (S := Below w2.heap.size w2) [(0, .q), (1, .q), (2, .l), (3, .t)] (by kernel_rfl) (by kernel_rfl) (by kernel_rfl) (fun d _ _ _ _ h => by cases d <;> exact h) (s0) ?_
    iterate 2 (refine wpMix_q rfl rfl (fun K hK => ?_); apply Exists.intro; refine ⟨fun w' hw' => ?_, ?_⟩; (focus (go_simp; try rfl)); go_simp; refine hK _ _ ?_; clear hK K)
    refine wpMix_l rfl rfl (fun K hK => ?_)
    go_simp
    refine (C1.out _).mono ?_
    rintro r w3 ⟨a3, c3, rfl, hV3, hb3⟩
    dsimp only
    refine hK.out _ _ (below_then s0 hb3) (fun _ => ?_)
    clear hK K
    have s3 := below_then s0 hb3
    have CS3 := CS.out a3 c3 w3 s3 (hV3 w3 (New.refl _ _))
    replace CS3 := Lib.hid CS3
    clear hV3
    refine wpMix_t rfl rfl (fun K hK => ?_)
    go_simp
    refine (CS3.out).mono ?_
    rintro r w4 ⟨rfl, hb4⟩
    dsimp only
    refine hK.out _ _ ?_
    clear hK K
    have s4 := below_then s3 hb4
    refine wpMix_nil ?_
    have y0 := z0 w4 s4; have y1 := z1 w4 s4; have y2 := z2 w4 s4
    go_wp2
    have t4 : Below w2.heap.size w2 w4.drew := s4.drew
    clear y0 y1 y2
    refine wp_region_mix (S := Below w2.heap.size w2) [(0, .q), (1, .q), (4, .q), (5, .q), (2, .l), (3, .q), (6, .l), (7, .p), (8, .p)] (by kernel_rfl) (by kernel_rfl) (by kernel_rfl) (fun d _ _ _ _ h => by cases d <;> exact h) (t4) ?_
    iterate 4 (refine wpMix_q rfl rfl (fun K hK => ?_); apply Exists.intro; refine ⟨fun w' hw' => ?_, ?_⟩; (focus (go_simp; try rfl)); go_simp; refine hK _ _ ?_; clear hK K)
    refine wpMix_l rfl rfl (fun K hK => ?_)
    go_simp
    refine (CT1.out _ t4).mono ?_
    rintro r w5 ⟨rfl, hb5⟩
    dsimp only
    refine hK.out _ _ (below_then t4 hb5) (fun _ => ?_)
    clear hK K
    have t5 := below_then t4 hb5
    iterate 1 (refine wpMix_q rfl rfl (fun K hK => ?_); apply Exists.intro; refine ⟨fun w' hw' => ?_, ?_⟩; (focus (go_simp; try rfl)); go_simp; refine hK _ _ ?_; clear hK K)
    refine wpMix_l rfl rfl (fun K hK => ?_)
    go_simp
    refine (CT2.out _ t5).mono ?_
    rintro r w6 ⟨rfl, hb6⟩
    dsimp only
    refine hK.out _ _ (below_then t5 hb6) (fun _ => ?_)
    clear hK K
    have t6 := below_then t5 hb6
    iterate 2 (refine wpMix_p rfl rfl (fun K hK => ?_); apply Exists.intro; refine ⟨fun w' => ?_, ?_⟩; (focus (go_simp; try rfl)); go_simp; refine hK _ _ ?_; clear hK K)
    refine wpMix_nil ?_
    go_wp2
    go_ret
    exact ⟨ret_str HFIN.out, below_then hw t6⟩
end Go.Proofs.YtmeplgagpnligaaDoor

/- Walks: rational numbers by the reference: whole, Make, Of. -/
namespace Go.Proofs.YtmeplgagpnligaaDoor
open Go.RowKit

theorem lowest_pos (neg : Bool) (n d : Nat) : lowest (neg && decide (0 < n)) n d = lowest neg n d := by
  unfold lowest
  split
  · rfl
  · next h0 =>
    by_cases hn : n = 0
    · subst hn
      simp
    · have : decide (0 < n) = true := by rw [decide_eq_true_eq]; omega
      rw [this, Bool.and_true]
/-- a fraction and the word that all is well -/
def RetM (t : Bool × Nat × Nat) (w : World) (e : Ending) (w' : World) : Prop := ∃ na nc da dc, e = .returned (.tuple #[.agg #[.bool t.1, .slice na (limbs t.2.1).length nc, .slice da (limbs t.2.2).length dc], .int .i64 0]) ∧
  (∀ V, New w.heap.size w' V → NatR V na nc (limbs t.2.1)) ∧ (∀ V, New w.heap.size w' V → NatR V da dc (limbs t.2.2)) ∧ Below w.heap.size w w'
end Go.Proofs.YtmeplgagpnligaaDoor

/- Walks: rational numbers by the reference: Of, Frac. -/
namespace Go.Proofs.YtmeplgagpnligaaDoor
open Go.RowKit

theorem limbs_int {z : Int} (hi : InInt z) : (limbs z.natAbs).length ≤ 4 := by
  obtain ⟨h1, h2⟩ := hi
  have : (65536 : Nat) ^ 4 = 18446744073709551616 := by decide
  exact limbs_len_le (by omega)
set_option maxRecDepth 100000 in
set_option maxHeartbeats 1000000 in
theorem qintR_any (z : Int) (w : World) (hi : InInt z) :
    Calls Tryd.prog 20 #[.int .i64 z] w (RetF (lowest (decide (z < 0)) z.natAbs 1) w) := by
  have hl4 := limbs_int hi
  have hl1 : (limbs 1).length ≤ 4 := limbs_len_le (by decide)
  have CZ := fun W => zintR_any z W hi
  have C1 := fun W => of01_any 1 W (by omega)
  have CO := fun a a' c c' W h h' => over_all (decide (z < 0)) (limbs z.natAbs) (limbs 1) z.natAbs 1 a a' c c' W h h' (val_limbs _) (val_limbs _) (by omega) (by omega)
  obtain ⟨t, ht⟩ : ∃ t, lowest (decide (z < 0)) z.natAbs 1 = t := ⟨_, rfl⟩
  obtain ⟨ng, hng⟩ : ∃ q, decide (z < 0) = q := ⟨_, rfl⟩
  obtain ⟨nz, hnz⟩ : ∃ q, z.natAbs = q := ⟨_, rfl⟩
  rw [ht] at CO ⊢
  simp only [hng, hnz] at CO CZ
  obtain ⟨s, N, D⟩ := t
  unfold RetF at CO ⊢
  dsimp only at CO ⊢
  replace CZ := Lib.hid CZ; replace C1 := Lib.hid C1; replace CO := Lib.hid CO
  have hz : Blk (w.alloc (.cells #[.bool false, .slice none 0 0, .slice none 0 0] 54)) w.heap.size 54 #[.bool false, .slice none 0 0, .slice none 0 0] := Blk.new w _ _
  have hb0 : Below w.heap.size w (w.alloc (.cells #[.bool false, .slice none 0 0, .slice none 0 0] 54)) := (Below.refl _ _).alloc (Nat.le_refl _) _
  clear ht hng hnz hl4 hl1
  go_enter Tryd.func20, Tryd.ntmps20
  go_wp2_with fail
  revert hz hb0
  generalize w.alloc (.cells #[.bool false, .slice none 0 0, .slice none 0 0] 54) = w0
  intro hz hb0
  refine (CZ.out _).mono ?_
  rintro e w1 ⟨a1, c1, rfl, hV1, hb1⟩
  have hw1 := below_then hb0 hb1
  have hz1 := hz.below' hb1
  have HV1 := Lib.hid hV1
  clear hV1
  go_wp2_with fail
  refine (C1.out _).mono ?_
  rintro e w2 ⟨a2, c2, rfl, hV2, hb2⟩
  have hw2 := below_then hw1 hb2
  have hz2 := hz1.below' hb2
  have CF := CO.out a1 a2 c1 c2 w2 (HV1.out w2 ((New.refl _ _).below hb2)) (hV2 w2 (New.refl _ _))
  replace CF := Lib.hid CF
  clear hV2
  go_wp2_with fail
  refine CF.out.mono ?_
  rintro e w3 ⟨a3, c3, a4, c4, rfl, hV3, hV4, hb3⟩
  have hw3 := below_then hw2 hb3
  have hz3 := hz2.below' hb3
  have HV3 := Lib.hid hV3
  have HV4 := Lib.hid hV4
  have hs2 := hw2.size
  have hgl2 := hz2.lt
  have z0 := hz3.cell 0; have z1 := hz3.cell 1; have z2 := hz3.cell 2; have f0 := hz3.frozen 0; have f1 := hz3.frozen 1; have f2 := hz3.frozen 2
  clear hV3 hV4
  go_wp2
  have hF := blk3 (x := .bool s) (y := .slice a3 (limbs N).length c3) (z := .slice a4 (limbs D).length c4) hz3
  have e0 := hF.cell 0; have e1 := hF.cell 1; have e2 := hF.cell 2
  refine bodyPost_ret (v := .agg #[.bool s, .slice a3 (limbs N).length c3, .slice a4 (limbs D).length c4]) (by simp [results, Tryd.results20, go_sem, e0, e1, e2]) rfl ?_
  exact ⟨a3, c3, a4, c4, rfl, fun V hV => HV3.out V (back3 hV hs2 hgl2), fun V hV => HV4.out V (back3 hV hs2 hgl2), below3 hw3 (Nat.le_refl _)⟩
end Go.Proofs.YtmeplgagpnligaaDoor
