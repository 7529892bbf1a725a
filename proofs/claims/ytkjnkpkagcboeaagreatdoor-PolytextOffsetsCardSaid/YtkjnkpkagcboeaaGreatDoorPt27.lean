/- Rational numbers, integers and strings that came in, opened. -/
import Derived.Test.YtkjnkpkagcboeaaGreatDoorPt24
import Derived.Test.YtkjnkpkagcboeaaGreatDoorPt26
import Derived.Test.YtkjnkpkagcboeaaGreatDoorPt18
import Derived.Test.YtkjnkpkagcboeaaGreatDoorPt13
import Derived.Test.YtkjnkpkagcboeaaGreatDoorPt25
import Derived.Test.YtkjnkpkagcboeaaGreatDoorPt7
import Derived.Test.YtkjnkpkagcboeaaGreatDoorPt11
import Derived.Test.YtkjnkpkagcboeaaGreatDoorPt1
import Derived.LoopTactic
import Derived.Deep.LoopGhost
import Derived.Test.YtkjnkpkagcboeaaGreatDoorRows
set_option linter.all false
set_option maxRecDepth 100000
set_option maxHeartbeats 4000000
namespace Go.Proofs.YtkjnkpkagcboeaaGreatDoor
open Go.RowKit
theorem qsz_small {n d : Nat} (hn : n < 65536) (hd : d + 1 < 65536) : qsz (qv false n d) <= 1 := by
 obtain ⟨h1, h2⟩ := qv_num_le false n d
 exact qsz_le (limbs_len_le (by rw [Nat.pow_one]; omega)) (limbs_len_le (by rw [Nat.pow_one]; omega))
theorem wokA : Wok xyB (⟨#[45, 121, 94, 50, 32, 43, 32, 49, 47, 50, 42, 120, 94, 50, 32, 45, 32, 49]⟩ : ByteArray).data.toList := fun L r h => by
 have h2 : reaG xyB txtA = .ok L r := h
 rw [readA] at h2
 injection h2 with h3 h4
 subst h3
 unfold wtP polA
 have a1 : qsz (-1) <= 1 := by rw [qsz_neg]; exact qsz_unit
 have a2 := qsz_small (n := 1) (d := 2) (by decide) (by decide)
 have a3 : qsz (-(qv false 1 1)) <= 1 := by rw [qsz_neg]; exact qsz_small (by decide) (by decide)
 simp only [List.map_cons, List.map_nil, List.sum_cons, List.sum_nil]
 omega
theorem wokX : Wok xyB (⟨#[120, 43, 49]⟩ : ByteArray).data.toList := fun L r h => by
 have h2 : reaG xyB txtX = .ok L r := h
 rw [readX] at h2
 cases h2
theorem xyB_err : errNm xyB = 0 := by decide
theorem xyB_row (w : World) : StrsR (w.alloc (.cells #[.string ⟨#[120]⟩, .string ⟨#[121]⟩] 9)) (some ⟨w.heap.size, 0, none⟩) 2 xyB := by
 have hB := Blk.new w 9 #[.string ⟨#[120]⟩, .string ⟨#[121]⟩]
 refine ⟨by decide, by simp [maxLen], fun k x hx => ⟨w.heap.size, 0, rfl, ?_⟩⟩
 match k, hx with
 | 0, hx => injection hx with hx; subst hx; exact hB.cell 0
 | 1, hx => injection hx with hx; subst hx; exact hB.cell 1
theorem alive_any (w : World) (he : ErrW w) (ht : TabW w) : Calls Tryz.prog 12 #[] w fun e w' => e = .returned (.bool true) /\ Below w.heap.size w w' := by
 have HE := Hd (fun W (hW : Below w.heap.size w W) => he.below hW)
 have HT := Hd (fun W (hW : Below w.heap.size w W) => ht.below hW)
 have hz : ∀ x ∈ xyB, x.size <= 1048576 := by decide
 have C1 := Hd (fun W a c (h : StrsR W a c xyB) (he : ErrW W) => readS_any (⟨#[45, 121, 94, 50, 32, 43, 32, 49, 47, 50, 42, 120, 94, 50, 32, 45, 32, 49]⟩ : ByteArray) xyB a c W h hz (by decide) (by decide) wokA he)
 have C2 := Hd (fun W a c (h : StrsR W a c xyB) (he : ErrW W) => readS_any (⟨#[120, 43, 49]⟩ : ByteArray) xyB a c W h hz (by decide) (by decide) wokX he)
 clear he ht
 go_enter Tryz.func12, Tryz.ntmps12
 go_wp2_with fail
 refine calls_gen (fun W => StrsR W (some ⟨w.heap.size, 0, none⟩) 2 xyB /\ Below w.heap.size w W) ⟨xyB_row w, by go_grown⟩ ?_
 rintro w0 ⟨hn0, hw0⟩
 refine (C1.out w0 _ _ hn0 (HE.out w0 hw0)).mono ?_
 rintro e w1 ⟨a, n, c, at_, er, rfl, hb1, _, hok⟩
 have hok2 := hok xyB_err
 rw [show readP xyB (⟨#[45, 121, 94, 50, 32, 43, 32, 49, 47, 50, 42, 120, 94, 50, 32, 45, 32, 49]⟩ : ByteArray).data.toList = .ok polA [] from readA'] at hok2
 obtain ⟨rfl, hP, rfl, rfl, hF⟩ := hok2
 have hw1 := bth hw0 hb1
 have hn1 : StrsR w1 (some ⟨w.heap.size, 0, none⟩) 2 xyB := hn0.ext (xbw hb1)
 have hl := hP.list
 obtain ⟨l, hle⟩ : ∃ l, polA.map trmOf = l := ⟨_, rfl⟩
 have hfew := few_of hF
 have hpb := polyB_of polA_ok
 have hmap := map_of polA
 rw [hle] at hl hfew hpb hmap
 have hlen : l.length = polA.length := by rw [<- hle, List.length_map]
 have hp3 : polA.length = 3 := rfl
 have CP := printS_any l xyB a (some ⟨w.heap.size, 0, none⟩) c 2 w1 hl hfew (by omega) hn1 (by decide) hz (HT.out w1 hw1)
 rw [printA hmap hpb, hlen, hp3] at CP
 replace CP := Hd CP
 rw [hp3]
 clear C1 hok hP hF hl hle hfew hpb hmap hlen hp3 hn0 hw0 hb1
 go_wp2_with fail
 refine CP.out.mono ?_
 rintro e w2 ⟨rfl, hb2⟩
 have hw2 := bth hw1 hb2
 have hn2 := hn1.ext (xbw hb2)
 clear CP hn1 hb2
 go_wp2_with fail
 refine (C2.out w2 _ _ hn2 (HE.out w2 hw2)).mono ?_
 rintro e w3 ⟨a3, n3, c3, at3, er3, rfl, hb3, _, hok3⟩
 have hok4 := hok3 xyB_err
 rw [show readP xyB (⟨#[120, 43, 49]⟩ : ByteArray).data.toList = .bad 2 9 from by unfold readP; rw [show reaG xyB (⟨#[120, 43, 49]⟩ : ByteArray).data.toList = .bad 2 9 from readX]; rfl] at hok4
 obtain ⟨_, _, hat, rfl, _, _⟩ := hok4
 have hat1 : at3 = 1 := hat
 subst hat1
 have hw3 := bth hw2 hb3
 have hstr : ofL txtA = (⟨#[45, 121, 94, 50, 32, 43, 32, 49, 47, 50, 42, 120, 94, 50, 32, 45, 32, 49]⟩ : ByteArray) := rfl
 rw [hstr]
 clear C2 hok3 hn2 hb3 hat
 go_wp2
 go_ret
 exact ⟨rfl, hw3⟩
def SmlT (t : Trm) : Prop := t.mono.length <= 70 /\ t.coef.num.length <= 6 /\ t.coef.den.length <= 6
def SmlP (l : List Trm) (names : List ByteArray) : Prop := l.length <= 12 /\ names.length <= 70 /\ (∀ t ∈ l, SmlT t) /\ ∀ x ∈ names, x.size <= 30
def RetSml (l : List Trm) (names : List ByteArray) (w : World) (e : Ending) (w' : World) : Prop := ∃ q : Bool, e = .returned (.bool q) /\ (q = true -> SmlP l names) /\ w = w'
theorem small_any (l : List Trm) (names : List ByteArray) (a b : Option Addr) (ca cb : Nat) (w : World) (h : PolyR w a ca l) (h' : StrsR w b cb names) :
  Calls Tryz.prog 11 #[.slice a l.length ca, .slice b names.length cb] w (RetSml l names w) := by
 have ll := h.len; have ln := h'.len
 have HP := Hd h; have HN := Hd h'
 clear h h'
 go_enter Tryz.func11, Tryz.ntmps11
 by_cases h1 : 12 < l.length
 ·
  have d1 : decide (12 < l.length) = true := by simpa using h1
  go_wp2
  go_ret
  exact ⟨false, rfl, (fun h => by cases h), rfl⟩
 have d1 : decide (12 < l.length) = false := by simpa using h1
 by_cases h2 : 70 < names.length
 ·
  have d2 : decide (70 < names.length) = true := by simpa using h2
  go_wp2
  go_ret
  exact ⟨false, rfl, (fun h => by cases h), rfl⟩
 have d2 : decide (70 < names.length) = false := by simpa using h2
 go_wp2
 go_loopg [5] l.length (fun gk i wr => ∃ k : Nat, Hid (k + gk = l.length) /\ i = .int .i64 k /\ Hid (∀ t ∈ l.take k, SmlT t) /\ w = wr)
 case atStart => exact ⟨0, by show _ = _; omega, rfl, fun t ht => by simp at ht, rfl⟩
 case round =>
  obtain ⟨k, hk, rfl, hA, rfl⟩ := hrel
  by_cases hlt : k < l.length
  ·
   obtain ⟨t, ht⟩ := get_of_lt hlt
   obtain ⟨bs, os, rfl, ps, cs, rs⟩ := HP.out.2.2 k t ht
   obtain ⟨s0, s1, s2, s3⟩ := cs
   have hm := Hd (take_more ht)
   clear ht rs
   by_cases q1 : 70 < t.mono.length
   ·
    have e1 : decide (70 < t.mono.length) = true := by simpa using q1
    go_wp2
    go_ret
    exact ⟨false, rfl, (fun h => by cases h), rfl⟩
   have e1 : decide (70 < t.mono.length) = false := by simpa using q1
   by_cases q2 : 6 < t.coef.num.length
   ·
    have e2 : decide (6 < t.coef.num.length) = true := by simpa using q2
    go_wp2
    go_ret
    exact ⟨false, rfl, (fun h => by cases h), rfl⟩
   have e2 : decide (6 < t.coef.num.length) = false := by simpa using q2
   by_cases q3 : 6 < t.coef.den.length
   ·
    have e3 : decide (6 < t.coef.den.length) = true := by simpa using q3
    go_wp2
    go_ret
    exact ⟨false, rfl, (fun h => by cases h), rfl⟩
   have e3 : decide (6 < t.coef.den.length) = false := by simpa using q3
   have hA2 := Hd (show ∀ u ∈ l.take (k + 1), SmlT u from fun u hu => by
    rw [hm.out] at hu
    rcases List.mem_append.1 hu with hu | hu
    · exact hA.out u hu
    · rw [List.mem_singleton] at hu; subst hu; exact ⟨by omega, by omega, by omega⟩)
   go_wp2
   go_roundg (gk - 1)
   case rel => exact ⟨k + 1, by have := hk.out; show _ = _; omega, by go_num, hA2.out, rfl⟩
   case measure => have := hk.out; omega
  ·
   have hkl : k = l.length := by have := hk.out; omega
   have hAll := Hd (show ∀ t ∈ l, SmlT t from fun t ht => hA.out t (by rw [hkl, List.take_length]; exact ht))
   clear hkl
   go_wp2
   go_loopg [6] names.length (fun gk i wr => ∃ k : Nat, Hid (k + gk = names.length) /\ i = .int .i64 k /\ Hid (∀ x ∈ names.take k, x.size <= 30) /\ w = wr)
   case atStart => exact ⟨0, by show _ = _; omega, rfl, fun t ht => by simp at ht, rfl⟩
   case round =>
    clear hA hk hlt
    obtain ⟨k, hk, rfl, hA, rfl⟩ := hrel
    by_cases hlt : k < names.length
    ·
     obtain ⟨x, hx⟩ := get_of_lt hlt
     obtain ⟨bs, os, rfl, hc⟩ := HN.out.2.2 k x hx
     simp only [Nat.mul_one] at hc
     have hc2 : w.cell? ⟨bs, os + k, none⟩ = some (.string x) := hc
     have hm := Hd (take_more hx)
     clear hx hc
     by_cases q1 : 30 < x.size
     ·
      have e1 : decide (30 < x.size) = true := by simpa using q1
      go_wp2
      go_ret
      exact ⟨false, rfl, (fun h => by cases h), rfl⟩
     have e1 : decide (30 < x.size) = false := by simpa using q1
     have hA2 := Hd (show ∀ u ∈ names.take (k + 1), u.size <= 30 from fun u hu => by
      rw [hm.out] at hu
      rcases List.mem_append.1 hu with hu | hu
      · exact hA.out u hu
      · rw [List.mem_singleton] at hu; subst hu; omega)
     go_wp2
     go_roundg (gk - 1)
     case rel => exact ⟨k + 1, by have := hk.out; show _ = _; omega, by go_num, hA2.out, rfl⟩
     case measure => have := hk.out; omega
    ·
     have hkl : k = names.length := by have := hk.out; omega
     have hN2 := Hd (show ∀ x ∈ names, x.size <= 30 from fun t ht => hA.out t (by rw [hkl, List.take_length]; exact ht))
     clear hkl
     go_wp2
     go_ret
     exact ⟨true, rfl, fun _ => ⟨by omega, by omega, hAll.out, hN2.out⟩, rfl⟩
theorem textN_few {n : Nat} (h : (limbs n).length <= 6) : (textN n).length <= 1000 := by
 have h1 : n < 10 ^ 29 := ltl (lt_pow_limbs n) (Nat.le_trans (Nat.pow_le_pow_right (by decide) h) (by decide))
 unfold textN
 split
 · simp
 · exact Nat.le_trans (digs_len 29 n h1) (by decide)
theorem absQ_parts (q : Rat) : (absQ q).num.natAbs = q.num.natAbs /\ (absQ q).den = q.den := by
 unfold absQ
 split
 · exact ⟨by rw [show (-q).num = -q.num from rfl, Int.natAbs_neg], rfl⟩
 · exact ⟨rfl, rfl⟩
theorem short_right {r : Rt} (h : r.right = true) (h1 : r.num.length <= 6) (h2 : r.den.length <= 6) : shortQ (absQ r.q) := by
 obtain ⟨_, e1, e2⟩ := right_trip h
 obtain ⟨a1, a2⟩ := absQ_parts r.q
 unfold shortQ
 rw [a1, a2]
 exact ⟨textN_few (by rw [e1]; exact h1), textN_few (by rw [e2]; exact h2)⟩
theorem sml_few {l : List Trm} {names : List ByteArray} (h : SmlP l names) : FewT l := fun t ht => by have := h.2.2.1 t ht; exact ⟨by have := this.2.1; omega, by have := this.2.2; omega⟩
theorem sml_names {l : List Trm} {names : List ByteArray} (h : SmlP l names) : ∀ s ∈ names, s.size <= 1048576 := fun s hs => by have := h.2.2.2 s hs; omega
theorem sml_short {l : List Trm} {names : List ByteArray} (h : SmlP l names) (hp : polyB l = true) : ∀ t ∈ l, shortQ (absQ t.coef.q) := fun t ht => by
 have h1 := h.2.2.1 t ht
 exact short_right (okT_fine (polyB_ok hp t ht)).1 h1.2.1 h1.2.2
theorem sml_wok {l : List Trm} {names : List ByteArray} (h : SmlP l names) (hz : (printP l names).2 = 0) : Wok names (printP l names).1.data.toList := fun L r hL => by
 obtain ⟨hp, hn, hb, ht⟩ := printP_good hz
 rw [ht] at hL
 by_cases h0 : l.length = 0
 ·
  rw [if_pos h0, reaG_zero] at hL
  injection hL with h1 h2
  subst h1
  unfold wtP
  have : qsz 0 <= 1 := qsz_of0
  simp only [List.map_cons, List.map_nil, List.sum_cons, List.sum_nil]
  omega
 ·
  rw [if_neg h0, reaG_text hn (fun e => h0 (by rw [e]; rfl)) (by have := h.1; omega) (fun t ht => ⟨(okT_fine (polyB_ok hp t ht)).2.1, bigB_no hb t ht, sml_short h hp t ht⟩)] at hL
  injection hL with h1 h2
  subst h1
  have key : ∀ q : List Trm, (∀ t ∈ q, t ∈ l) -> wtP (q.map trmQ) <= 7 * q.length := by
   intro q hq
   induction q with
   | nil => simp [wtP]
   | cons t q ih =>
    have h2 := ih fun x hx => hq x (by simp [hx])
    have ht := hq t (by simp)
    have h3 := (right_trip (okT_fine (polyB_ok hp t ht)).1)
    have h4 := h.2.2.1 t ht
    have h5 : qsz t.coef.q <= 6 := qsz_le (by rw [h3.2.1]; exact h4.2.1) (by rw [h3.2.2]; exact h4.2.2)
    unfold wtP at h2 ⊢
    rw [List.map_cons, List.map_cons, List.sum_cons, List.length_cons]
    have e : qsz (trmQ t).1 = qsz t.coef.q := rfl
    omega
  have := key l fun t ht => ht
  have := h.1
  omega
theorem printP_none {l : List Trm} {names : List ByteArray} (h : (printP l names).2 ≠ 0) : (printP l names).1 = ⟨#[]⟩ := by
 unfold printP at h ⊢
 split
 ·
  next h1 =>
  rw [if_pos h1] at h
  split
  ·
   next h2 =>
   rw [if_pos h2] at h
   split
   · rfl
   ·
    next h3 =>
    rw [if_neg h3] at h
    split at h <;> exact absurd rfl h
  · rfl
 · rfl
theorem printP_sml {l : List Trm} {names : List ByteArray} (h : SmlP l names) (hz : (printP l names).2 = 0) : (printP l names).1.size <= 281474976710656 := by
 obtain ⟨hp, hn, hb, _⟩ := printP_good hz
 have hfw := sml_few h
 unfold printP
 rw [if_pos hp, if_pos hn, if_neg (by simp [hb])]
 split
 · decide
 ·
  have := polyTo_size (l := l) (names := names) (M := 1400000000) (fun u hu => termB_size (sml_names h) (fun x hx => ((monoB_mem (okT_fine (polyB_ok hp u hu)).2.1).2 x hx).2) (textT_len (okT_fine (polyB_ok hp u hu)).1 (hfw u hu).1 (hfw u hu).2) (monoB_mem (okT_fine (polyB_ok hp u hu)).2.1).1) l.length
  have := h.1
  have h2 : l.length * (1400000000 + 3) <= 12 * (1400000000 + 3) := Nat.mul_le_mul_right _ this
  show (polyTo l names l.length).size <= _
  omega
theorem back_any (l : List Trm) (names : List ByteArray) (a b : Option Addr) (ca cb : Nat) (w : World) (h : PolyR w a ca l) (h' : StrsR w b cb names) (he : ErrW w) (ht : TabW w) :
  Calls Tryz.prog 4 #[.slice a l.length ca, .slice b names.length cb] w fun e w' => e = .returned (.bool true) /\ Below w.heap.size w w' := by
 have HA := Hd (fun W (hW : Below w.heap.size w W) => alive_any W (he.below hW) (ht.below hW))
 have CS := Hd (fun W (hW : Below w.heap.size w W) => small_any l names a b ca cb W (h.ext (xbw hW)) (h'.ext (xbw hW)))
 have HP := Hd (fun W (hW : Below w.heap.size w W) => h.ext (xbw hW))
 have HN := Hd (fun W (hW : Below w.heap.size w W) => h'.ext (xbw hW))
 have HT := Hd (fun W (hW : Below w.heap.size w W) => ht.below hW)
 have HE := Hd (fun W (hW : Below w.heap.size w W) => he.below hW)
 have ll := h.len; have ln := h'.len
 clear h h' he ht
 go_enter Tryz.func4, Tryz.ntmps4
 go_wp2_with fail
 refine (CS.out w brf).mono ?_
 rintro e w' ⟨q, rfl, hq, rfl⟩
 cases q
 ·
  go_wp2_with fail
  refine (HA.out w brf).mono ?_
  rintro e w1 ⟨rfl, hb⟩
  go_wp2
  go_ret
  exact ⟨rfl, hb⟩
 have hsm := Hd (hq rfl)
 clear hq CS
 have C1 := Hd (fun W (hW : Below w.heap.size w W) => printS_any l names a b ca cb W (HP.out W hW) (sml_few hsm.out) (by have := hsm.out.1; omega) (HN.out W hW) (by have := hsm.out.2.1; omega) (sml_names hsm.out) (HT.out W hW))
 have hwk := Hd (fun (e : (printP l names).2 = 0) => sml_wok hsm.out e)
 have hgd := Hd (fun (e : (printP l names).2 = 0) => printP_good e)
 have hbk := Hd (fun (e : (printP l names).2 = 0) => readP_print e (by have := hsm.out.1; omega) (sml_short hsm.out (printP_good e).1))
 have hbz := Hd (fun (e : (printP l names).2 ≠ 0) => printP_none e)
 have hsz := Hd (fun (e : (printP l names).2 = 0) => printP_sml hsm.out e)
 obtain ⟨R, hR⟩ : ∃ R, printP l names = R := ⟨_, rfl⟩
 obtain ⟨s, er⟩ := R
 have C1' := Hd (by have := C1.out; simp only [hR] at this; exact this)
 rw [hR] at hwk hgd hbk hbz hsz
 replace hR := Hd hR
 clear C1
 go_wp2_with fail
 refine (C1'.out w brf).mono ?_
 rintro e w1 ⟨rfl, hb1⟩
 clear C1'
 by_cases h0 : er = 0
 ·
  subst h0
  have hp := (hgd.out rfl).1
  have hnm := Hd (hgd.out rfl).2.1
  have CR := Hd (readS_any s names b cb w1 (HN.out w1 hb1) (sml_names hsm.out) (by have := hsm.out.2.1; omega) (hsz.out rfl) (hwk.out rfl) (HE.out w1 hb1))
  go_wp2_with fail
  refine CR.out.mono ?_
  rintro e w2 ⟨a2, n2, c2, at2, er2, rfl, hb2, _, hok⟩
  have hok2 := hok hnm.out
  rw [hbk.out (by trivial)] at hok2
  obtain ⟨rfl, hP, rfl, rfl, hF⟩ := hok2
  have hw2 := bth hb1 hb2
  have hpk := polyB_pok hp
  obtain ⟨p, hpe⟩ : ∃ p, l.map trmQ = p := ⟨_, rfl⟩
  rw [hpe] at hP hF hpk
  have hq := hP.list
  have hlm : (p.map trmOf).length = p.length := List.length_map _
  have hqb := polyB_of hpk
  have hlq : l = p.map trmOf := polyQ_ext (polyB_ok hp) (polyB_ok hqb) (by rw [map_of, hpe])
  have CE := equalR6_any l (p.map trmOf) a a2 ca c2 w2 (HP.out w2 hw2) hq hp hqb (sml_few hsm.out) (few_of hF)
  rw [hlm, show p.length = l.length by rw [<- hpe, List.length_map]] at CE
  have hpl : p.length = l.length := by rw [<- hpe, List.length_map]
  rw [show (List.map trmQ l).length = l.length from List.length_map _]
  replace CE := Hd CE; replace hlq := Hd hlq
  clear CR hok hP hF hpk hq hlm hqb hpe hpl hb2 hp
  go_wp2_with fail
  refine CE.out.mono ?_
  rintro e w3 ⟨q, rfl, hqq, hb3⟩
  obtain rfl := hqq.2 hlq.out
  have hw3 := bth hw2 hb3
  clear CE hqq hb3
  go_wp2_with fail
  refine (HA.out w3 hw3).mono ?_
  rintro e w9 ⟨rfl, hb9⟩
  go_wp2
  go_ret
  exact ⟨rfl, bth hw3 hb9⟩
 ·
  have hs := hbz.out h0
  have hs0 : s = ⟨#[]⟩ := hs
  subst hs0
  have hne : (er != 0) = true := by simpa using h0
  replace h0 := Hd h0
  clear hs
  go_wp2_with fail
  refine (HA.out w1 hb1).mono ?_
  rintro e w9 ⟨rfl, hb9⟩
  go_wp2
  go_ret
  exact ⟨rfl, bth hb1 hb9⟩
theorem texts_any (l m : List Trm) (names : List ByteArray) (a d b : Option Addr) (ca cd cb : Nat) (w : World) (h : PolyR w a ca l) (h2 : PolyR w d cd m) (h' : StrsR w b cb names) (he : ErrW w) (ht : TabW w) :
  Calls Tryz.prog 5 #[.slice a l.length ca, .slice d m.length cd, .slice b names.length cb] w fun e w' => e = .returned (.bool true) /\ Below w.heap.size w w' := by
 have HA := Hd (fun W (hW : Below w.heap.size w W) => alive_any W (he.below hW) (ht.below hW))
 have CS := Hd (fun W (hW : Below w.heap.size w W) => small_any l names a b ca cb W (h.ext (xbw hW)) (h'.ext (xbw hW)))
 have CT := Hd (fun W (hW : Below w.heap.size w W) => small_any m names d b cd cb W (h2.ext (xbw hW)) (h'.ext (xbw hW)))
 have HP := Hd (fun W (hW : Below w.heap.size w W) => h.ext (xbw hW))
 have HQ := Hd (fun W (hW : Below w.heap.size w W) => h2.ext (xbw hW))
 have HN := Hd (fun W (hW : Below w.heap.size w W) => h'.ext (xbw hW))
 have HT := Hd (fun W (hW : Below w.heap.size w W) => ht.below hW)
 have ll := h.len; have lm := h2.len; have ln := h'.len
 clear h h' h2 he ht
 go_enter Tryz.func5, Tryz.ntmps5
 go_wp2_with fail
 refine (CS.out w brf).mono ?_
 rintro e w' ⟨q, rfl, hq, rfl⟩
 cases q
 ·
  go_wp2_with fail
  refine (HA.out w brf).mono ?_
  rintro e w1 ⟨rfl, hb⟩
  go_wp2
  go_ret
  exact ⟨rfl, hb⟩
 have hsm := Hd (hq rfl)
 clear hq CS
 go_wp2_with fail
 refine (CT.out w brf).mono ?_
 rintro e w' ⟨q, rfl, hq, rfl⟩
 cases q
 ·
  go_wp2_with fail
  refine (HA.out w brf).mono ?_
  rintro e w1 ⟨rfl, hb⟩
  go_wp2
  go_ret
  exact ⟨rfl, hb⟩
 have hsn := Hd (hq rfl)
 clear hq CT
 have C1 := Hd (fun W (hW : Below w.heap.size w W) => printS_any l names a b ca cb W (HP.out W hW) (sml_few hsm.out) (by have := hsm.out.1; omega) (HN.out W hW) (by have := hsm.out.2.1; omega) (sml_names hsm.out) (HT.out W hW))
 have C2 := Hd (fun W (hW : Below w.heap.size w W) => printS_any m names d b cd cb W (HQ.out W hW) (sml_few hsn.out) (by have := hsn.out.1; omega) (HN.out W hW) (by have := hsn.out.2.1; omega) (sml_names hsn.out) (HT.out W hW))
 have hinj := Hd (fun (e1 : (printP l names).2 = 0) (e2 : (printP m names).2 = 0) (e : (printP l names).1 = (printP m names).1) =>
  printP_inj e1 e2 (by have := hsm.out.1; omega) (by have := hsn.out.1; omega) (sml_short hsm.out (printP_good e1).1) (sml_short hsn.out (printP_good e2).1) e)
 have hg1 := Hd (fun (e : (printP l names).2 = 0) => (printP_good e).1)
 have hg2 := Hd (fun (e : (printP m names).2 = 0) => (printP_good e).1)
 obtain ⟨R1, hR1⟩ : ∃ R, printP l names = R := ⟨_, rfl⟩
 obtain ⟨R2, hR2⟩ : ∃ R, printP m names = R := ⟨_, rfl⟩
 obtain ⟨s1, e1⟩ := R1
 obtain ⟨s2, e2⟩ := R2
 have C1' := Hd (by have := C1.out; simp only [hR1] at this; exact this)
 have C2' := Hd (by have := C2.out; simp only [hR2] at this; exact this)
 rw [hR1, hR2] at hinj
 rw [hR1] at hg1
 rw [hR2] at hg2
 have hsame2 := Hd (show l = m -> s1 = s2 from fun e => by subst e; rw [hR1] at hR2; injection hR2)
 replace hR1 := Hd hR1; replace hR2 := Hd hR2
 clear C1 C2
 go_wp2_with fail
 refine (C1'.out w brf).mono ?_
 rintro e w1 ⟨rfl, hb1⟩
 go_wp2_with fail
 refine (C2'.out w1 hb1).mono ?_
 rintro e w2 ⟨rfl, hb2⟩
 have hw2 := bth hb1 hb2
 clear C1' C2' hb1 hb2
 by_cases z1 : e1 = 0
 ·
  by_cases z2 : e2 = 0
  ·
   have hp := hg1.out z1
   have hm := hg2.out z2
   have hi := Hd (hinj.out z1 z2)
   subst z1 z2
   have hbeq := str_beq s1 s2
   have CE := Hd (equalR6_any l m a d ca cd w2 (HP.out w2 hw2) (HQ.out w2 hw2) hp hm (sml_few hsm.out) (sml_few hsn.out))
   clear hp hm hg1 hg2 hinj
   by_cases hss : s1 = s2
   ·
    have hlm := Hd (hi.out hss)
    rw [decide_eq_true hss] at hbeq
    replace hss := Hd hss
    go_wp2_with fail
    refine CE.out.mono ?_
    rintro e w3 ⟨q, rfl, hqq, hb3⟩
    obtain rfl := hqq.2 hlm.out
    have hw3 := bth hw2 hb3
    clear CE hqq hb3
    go_wp2_with fail
    refine (HA.out w3 hw3).mono ?_
    rintro e w9 ⟨rfl, hb9⟩
    go_wp2
    go_ret
    exact ⟨rfl, bth hw3 hb9⟩
   ·
    have hlm := Hd (show ¬ l = m from fun e => hss (hsame2.out e))
    rw [decide_eq_false hss] at hbeq
    replace hss := Hd hss
    go_wp2_with fail
    refine CE.out.mono ?_
    rintro e w3 ⟨q, rfl, hqq, hb3⟩
    have hqf : q = false := by
     cases q
     · rfl
     · exact absurd (hqq.1 rfl) hlm.out
    subst hqf
    have hw3 := bth hw2 hb3
    clear CE hqq hb3
    go_wp2_with fail
    refine (HA.out w3 hw3).mono ?_
    rintro e w9 ⟨rfl, hb9⟩
    go_wp2
    go_ret
    exact ⟨rfl, bth hw3 hb9⟩
  ·
   have d1 : (e1 != 0) = false := by simpa using z1
   have d2 : (e2 != 0) = true := by simpa using z2
   replace z1 := Hd z1; replace z2 := Hd z2
   go_wp2_with fail
   refine (HA.out w2 hw2).mono ?_
   rintro e w9 ⟨rfl, hb9⟩
   go_wp2
   go_ret
   exact ⟨rfl, bth hw2 hb9⟩
 ·
  have d1 : (e1 != 0) = true := by simpa using z1
  replace z1 := Hd z1
  go_wp2_with fail
  refine (HA.out w2 hw2).mono ?_
  rintro e w9 ⟨rfl, hb9⟩
  go_wp2
  go_ret
  exact ⟨rfl, bth hw2 hb9⟩
theorem dec_half {d : List UInt8} (h : ∀ c ∈ d, digU c = true) : (limbs (decL d)).length <= (d.length + 1) / 2 := by
 refine limbs_len_le (ltl (decL_lt h) ?_)
 have h1 : 10 ^ d.length <= 10 ^ (2 * ((d.length + 1) / 2)) := Nat.pow_le_pow_right (by decide) (by omega)
 rw [Nat.pow_mul] at h1
 exact Nat.le_trans h1 (Nat.pow_le_pow_left (by decide) _)
theorem qv_half2 {n d k : Nat} (hn : (limbs n).length <= k) (hd : (limbs d).length <= k) (hk : 1 <= k) : qsz (qv false n d) <= k := by
 obtain ⟨h1, h2⟩ := qv_num_le false n d
 refine qsz_le (Nat.le_trans (limbs_len_mono h1) hn) ?_
 by_cases h0 : d = 0
 ·
  subst h0
  exact Nat.le_trans (limbs_len_mono h2) (Nat.le_trans (limbs_len_le (show 0 + 1 < 65536 ^ 1 by decide)) hk)
 ·
  have : (qv false n d).den <= d := by
   unfold qv
   exact (mk_num_le _ d h0).2
  exact Nat.le_trans (limbs_len_mono this) hd
theorem numG_cut {l d r : List UInt8} (h : numG l = .ok d r) : d.length + r.length = l.length := by
 unfold numG at h
 split at h
 · exact absurd h fun e => lost_ok e
 ·
  split at h
  · cases h
  ·
   injection h with h1 h2
   subst h1 h2
   rw [List.length_take, List.length_drop]
   omega
theorem cofG_wt {l r : List UInt8} {q : Rat} (h : cofG l = .ok q r) : 2 * qsz q <= l.length - r.length + 1 /\ r.length < l.length := by
 unfold cofG at h
 obtain ⟨d, r1, h1, h2⟩ := bnd_ok h
 have e1 := numG_cut h1
 obtain ⟨o1, _, o3, _⟩ := numG_ok h1
 have e3 := dec_half o3
 split at h2
 ·
  next h47 =>
  obtain ⟨d2, r2, h3, h4⟩ := bnd_ok h2
  have e2 := numG_cut h3
  obtain ⟨p1, _, p3, _⟩ := numG_ok h3
  have e4 := dec_half p3
  split at h4
  · cases h4
  ·
   injection h4 with h5 h6
   subst h5 h6
   rw [List.length_drop] at e2
   have := qv_half2 (n := decL d) (d := decL d2) (k := max ((d.length + 1) / 2) ((d2.length + 1) / 2)) (by omega) (by omega) (by omega)
   omega
 ·
  injection h2 with h3 h4
  subst h3 h4
  have hl1 : (limbs 1).length = 1 := by rw [limbs_one]; rfl
  have := qv_half2 (n := decL d) (d := 1) (k := (d.length + 1) / 2) e3 (by rw [hl1]; omega) (by omega)
  omega
theorem proG_less {names : List ByteArray} {F n : Nat} {m m' : List Int} {l r : List UInt8} (h : proG names F n m l = .ok m' r) : r.length < l.length := by
 cases n with
 | zero => cases h
 | succ n =>
  rw [proG] at h
  obtain ⟨p, r1, h1, h2⟩ := bnd_ok h
  have e1 : r1.length < l.length := by
   unfold powG at h1
   obtain ⟨v, r3, g1, g2⟩ := bnd_ok h1
   have e1 := namG_less g1
   split at g2
   ·
    obtain ⟨d2, r2, h3, h4⟩ := bnd_ok g2
    have e2 := numG_le h3
    split at h4
    · cases h4
    · injection h4 with h5 h6; subst h6; rw [List.length_drop] at e2; omega
   · injection g2 with h3 h4; subst h4; omega
  split at h2
  · cases h2
  ·
   split at h2
   · have e2 := proG_le h2; rw [List.length_drop] at e2; omega
   · injection h2 with h3 h4; subst h4; exact e1
theorem monG_wt {names : List ByteArray} {F : Nat} {q : Rat} {l r : List UInt8} {u : Tm} (h : monG names F q l = .ok u r) : u.1 = q /\ r.length < l.length := by
 unfold monG at h
 obtain ⟨p, r1, h1, h2⟩ := bnd_ok h
 injection h2 with h3 h4
 subst h3 h4
 exact ⟨rfl, proG_less h1⟩
theorem terG_wt {names : List ByteArray} {l r : List UInt8} {u : Tm} (h : terG names l = .ok u r) : 2 * qsz u.1 <= l.length - r.length + 1 /\ r.length < l.length := by
 unfold terG at h
 split at h
 ·
  obtain ⟨e1, e2⟩ := monG_wt h
  rw [e1]
  have := qsz_unit
  exact ⟨by omega, e2⟩
 ·
  obtain ⟨q, r1, h1, h2⟩ := bnd_ok h
  obtain ⟨e1, e2⟩ := cofG_wt h1
  split at h2
  ·
   obtain ⟨e3, e4⟩ := monG_wt h2
   rw [List.length_drop] at e4
   rw [e3]
   exact ⟨by omega, by omega⟩
  ·
   injection h2 with h3 h4
   subst h3 h4
   exact ⟨e1, e2⟩
theorem sepG_three {l r : List UInt8} {ng : Bool} (h : sepG l = .ok ng r) : r.length + 3 <= l.length := by
 unfold sepG at h
 obtain ⟨_, r1, h1, h2⟩ := bnd_ok h
 have e1 := eatG_less h1
 split at h2
 ·
  next h45 =>
  obtain ⟨_, r2, h3, h4⟩ := bnd_ok h2
  have e2 := eatG_less h3
  injection h4 with h5 h6
  subst h6
  rw [List.length_drop] at e2
  omega
 ·
  obtain ⟨_, r2, h3, h4⟩ := bnd_ok h2
  have e2 := eatG_less h3
  obtain ⟨_, r3, h5, h6⟩ := bnd_ok h4
  have e3 := eatG_less h5
  injection h6 with h7 h8
  subst h8
  omega
theorem wtP_snoc (L : List Tm) (u : Tm) : wtP (L ++ [u]) = wtP L + (qsz u.1 + 1) := by unfold wtP; rw [List.map_append, List.sum_append]; simp
theorem sumG_wt {names : List ByteArray} : ∀ {f : Nat} {neg : Bool} {acc L : List Tm} {l r : List UInt8}, sumG names f neg acc l = .ok L r -> 2 * wtP L <= 2 * wtP acc + l.length + 3
 | 0, _, _, _, _, _, h => by cases h
 | f + 1, neg, acc, L, l, r, h => by
  rw [sumG] at h
  split at h
  · cases h
  ·
   obtain ⟨u, r1, h1, h2⟩ := bnd_ok h
   obtain ⟨e1, e2⟩ := terG_wt h1
   have hq : qsz (sgnT neg u).1 = qsz u.1 := by unfold sgnT; split; exact qsz_neg _; rfl
   have hw := wtP_snoc acc (sgnT neg u)
   rw [hq] at hw
   split at h2
   ·
    injection h2 with h3 h4
    subst h3
    omega
   ·
    obtain ⟨ng, r2, h3, h4⟩ := bnd_ok h2
    have e3 := sepG_three h3
    have e4 := sumG_wt h4
    omega
theorem wok_short {names : List ByteArray} {s : List UInt8} (h : s.length <= 1999) : Wok names s := fun L r hL => by
 unfold reaG at hL
 have h0 : wtP [] = 0 := rfl
 split at hL
 ·
  have := sumG_wt hL
  rw [List.length_drop] at this
  omega
 ·
  have := sumG_wt hL
  omega
theorem polyR_any (l : List Trm) (a : Option Addr) (c : Nat) (w : World) (h : PolyR w a c l) (hq : ∀ t ∈ l, t.coef.num.length <= 2000000 /\ t.coef.den.length <= 2000000) :
  Calls Tryz.prog 17 #[.slice a l.length c] w fun e w' => e = .returned (.bool (polyB l)) /\ Below w.heap.size w w' := by
 have hlen := h.len
 obtain ⟨res, hres⟩ : ∃ x, polyB l = x := ⟨_, rfl⟩
 rw [hres]
 have HRES := Hd hres
 have HP := Hd h
 have HQ := Hd hq
 clear hres h hq
 go_enter Tryz.func17, Tryz.ntmps17
 go_wp2
 go_loopg [3] l.length (fun g q wr => ∃ k : Nat, k + g = l.length /\ q = .int .i64 k /\ Below w.heap.size w wr /\ ∀ j, j < k -> badAt l j = false)
 case atStart => exact ⟨0, by omega, rfl, Below.refl _ _, fun j hj => by omega⟩
 case round =>
  obtain ⟨k, hkg, rfl, hwr, hall⟩ := hrel
  have HKG := Hd hkg
  have HA := Hd hall
  clear hkg hall
  by_cases hlt : k < l.length
  ·
   obtain ⟨t, ht⟩ := get_of_lt hlt
   have hPr := HP.out.ext (xbw hwr)
   have htq := HQ.out t (List.mem_of_getElem? ht)
   obtain ⟨b, off, hao, p, hC, hP⟩ := hPr.2.2 k t ht
   subst hao
   obtain ⟨c0, c1, c2, c3⟩ := hC
   obtain ⟨hP1, hP2, hP3⟩ := hP
   have HT := Hd ht
   have HPR := Hd hPr
   obtain ⟨⟨neg, num, den⟩, mono⟩ := t
   dsimp only at c0 c1 c2 c3 hP1 hP2 hP3 htq
   have CR := fun W (hW : Below wr.heap.size wr W) => right03_any ⟨neg, num, den⟩ p.na p.nc p.da p.dc W (hP2.ext (xbw hW)) (hP3.ext (xbw hW)) htq.1 htq.2
   unfold Rt.val at CR
   dsimp only at CR
   replace CR := Hd CR
   have HP1 := Hd hP1; have HP2 := Hd hP2; have HP3 := Hd hP3; have HTQ := Hd htq
   have hbl : b < wr.heap.size := World.block_lt_of_cell? wr _ c0
   clear ht hPr hP1 hP2 hP3 htq
   have d0 := held c0; have d1 := held c1; have d2 := held c2; have d3 := held c3
   have hw0 := Below.refl wr.heap.size wr
   cases hr : Rt.right ⟨neg, num, den⟩ with
   | false =>
    rw [hr] at CR
    obtain rfl : res = false := by rw [<- HRES.out]; exact polyB_bad hlt (badAt_term HT.out (okT_coef hr))
    clear hr
    go_wp2_with fail
    refine (CR.out _ hw0).mono ?_
    rintro e w3 ⟨rfl, hb3⟩
    have hw3 := bth hw0 hb3
    go_wp2
    go_ret
    exact ⟨rfl, bth hwr hb3⟩
   | true =>
    rw [hr] at CR
    have h0 : val den ≠ 0 := right_pos hr
    have CS := fun W (hW : Below wr.heap.size wr W) => qsignR_any neg num den (val num) p.na p.da p.nc p.dc W (HP2.out.ext (xbw hW)) (HP3.out.ext (xbw hW)) rfl h0 HTQ.out.1 HTQ.out.2
    have CM := fun W (hW : Below wr.heap.size wr W) => monoR_any mono p.aa p.ac W (HP1.out.ext (xbw hW))
    have hsg := sgnZ_eq neg (val num)
    have HR := Hd hr
    clear h0 hr
    by_cases hn0 : val num = 0
    ·
     rw [decide_eq_true hn0] at hsg
     obtain rfl : res = false := by rw [<- HRES.out]; exact polyB_bad hlt (badAt_term HT.out (okT_zero hn0))
     revert CS hsg
     generalize sgnZ neg (val num) = sg
     intro CS hsg
     replace CS := Hd CS; replace CM := Hd CM
     clear hn0
     go_wp2_with fail
     refine (CR.out _ hw0).mono ?_
     rintro e w3 ⟨rfl, hb3⟩
     have hw3 := bth hw0 hb3
     go_wp2_with fail
     refine (CS.out _ hw3).mono ?_
     rintro e w4 ⟨rfl, hb4⟩
     have hw4 := bth hw3 hb4
     go_wp2
     go_ret
     exact ⟨rfl, bth hwr hw4⟩
    ·
     rw [decide_eq_false hn0] at hsg
     have HN0 := Hd hn0
     revert CS hsg
     generalize sgnZ neg (val num) = sg
     intro CS hsg
     replace CS := Hd CS
     clear hn0
     cases hm : monoB mono with
     | false =>
      rw [hm] at CM
      replace CM := Hd CM
      obtain rfl : res = false := by rw [<- HRES.out]; exact polyB_bad hlt (badAt_term HT.out (okT_mono hm))
      clear hm
      go_wp2_with fail
      refine (CR.out _ hw0).mono ?_
      rintro e w3 ⟨rfl, hb3⟩
      have hw3 := bth hw0 hb3
      go_wp2_with fail
      refine (CS.out _ hw3).mono ?_
      rintro e w4 ⟨rfl, hb4⟩
      have hw4 := bth hw3 hb4
      go_wp2_with fail
      refine (CM.out _ hw4).mono ?_
      rintro e w5 ⟨rfl, rfl⟩
      go_wp2
      go_ret
      exact ⟨rfl, bth hwr hw4⟩
     | true =>
      rw [hm] at CM
      replace CM := Hd CM
      have hok : okT ⟨⟨neg, num, den⟩, mono⟩ = true := okT_all HR.out HN0.out hm
      have HOK := Hd hok
      clear hm hok
      go_wp2_with fail
      refine (CR.out _ hw0).mono ?_
      rintro e w3 ⟨rfl, hb3⟩
      have hw3 := bth hw0 hb3
      go_wp2_with fail
      refine (CS.out _ hw3).mono ?_
      rintro e w4 ⟨rfl, hb4⟩
      have hw4 := bth hw3 hb4
      go_wp2_with fail
      refine (CM.out _ hw4).mono ?_
      rintro e w5 ⟨rfl, rfl⟩
      go_wp2
      have s0 : Below wr.heap.size wr w4.drew := hw4.drew
      cases k with
      | zero =>
       have hbad := badAt_zero HT.out HOK.out
       have HB := Hd hbad
       clear hbad
       refine wp_region_mixM (S := Below wr.heap.size wr) [(0, .q), (1, .q), (2, .q), (3, .q), (4, .q), (5, .q), (6, .q), (7, .q), (8, .q), (9, .q), (10, .q), (11, .q), (12, .q), (13, .q), (14, .t), (15, .p), (16, .p)] (by kernel_rfl) (by kernel_rfl) (by kernel_rfl) (fun d _ _ _ _ h => by cases d <;> exact h) (s0) ?_
       iterate 3 (refine wpMix_q rfl rfl (fun K hK => ?_); apply Exists.intro; refine ⟨fun w' hw' => ?_, ?_⟩; (focus (go_simp; try rfl)); go_simp; refine hK _ _ ?_; clear hK K)
       iterate 13 (refine wpMix_skip rfl rfl (fun K hK => ?_); go_simp; refine hK _ _ ?_; clear hK K)
       iterate 1 (refine wpMix_p rfl rfl (fun K hK => ?_); apply Exists.intro; refine ⟨fun w' => ?_, ?_⟩; (focus (go_simp; try rfl)); go_simp; refine hK _ _ ?_; clear hK K)
       refine wpMix_nil ?_
       go_wp2
       go_roundg (gk - 1)
       case rel => exact ⟨1, by have := HKG.out; omega, by go_num, bth hwr s0, all_succ HA.out HB.out⟩
       case measure => have := HKG.out; omega
      | succ j =>
       obtain ⟨s, hs⟩ := get_of_lt (xs := l) (k := j) (by omega)
       obtain ⟨b', off', hao, p', hC', hP'⟩ := HPR.out.2.2 j s hs
       injection hao with hao
       injection hao with hao1 hao2
       subst hao1 hao2
       obtain ⟨y0, y1, y2, y3⟩ := hC'
       have hbad := badAt_succ HT.out hs HOK.out
       have e3 := held y3
       have hpv : okT s = true := badAt_ok hs (HA.out j (by omega))
       have CL := fun W (hW : Below wr.heap.size wr W) => cmpR5_any s.mono mono p'.aa p.aa p'.ac p.ac W (hP'.1.ext (xbw hW)) (HP1.out.ext (xbw hW)) (okT_range hpv) (okT_range HOK.out)
       dsimp only at hbad
       revert CL hbad
       generalize lexI s.mono mono = lx
       intro hbad CL
       have hwk : IntKind.i64.wrap (j : Int) = (j : Int) := by rw [IntKind.wrap_i64]; omega
       replace CL := Hd CL
       have HBD := Hd hbad
       have hjl : j < l.length := by omega
       have hj0 : (0 : Int) <= (j : Int) + 1 := by omega
       have hj1 : (j : Int) + 1 < (l.length : Int) := by omega
       clear hbad hP' hs y0 y1 y2 y3 hpv
       by_cases hlx : lx <= 0
       ·
        have hle : decide (lx <= 0) = true := by simpa using hlx
        obtain rfl : res = false := by rw [<- HRES.out]; exact polyB_bad hlt (HBD.out.trans hle)
        clear hlx HBD
        refine wp_region_mixM (S := Below wr.heap.size wr) [(0, .q), (1, .q), (2, .q), (3, .q), (4, .q), (5, .q), (6, .q), (7, .q), (8, .q), (9, .q), (10, .q), (11, .q), (12, .q), (13, .q), (14, .t), (15, .p), (16, .p)] (by kernel_rfl) (by kernel_rfl) (by kernel_rfl) (fun d _ _ _ _ h => by cases d <;> exact h) (s0) ?_
        iterate 14 (refine wpMix_q rfl rfl (fun K hK => ?_); apply Exists.intro; refine ⟨fun w' hw' => ?_, ?_⟩; (focus (go_simp; try rfl)); go_simp; refine hK _ _ ?_; clear hK K)
        refine wpMix_t rfl rfl (fun K hK => ?_)
        go_simp
        refine (CL.out _ s0).mono ?_
        rintro r w6 ⟨rfl, rfl⟩
        dsimp only
        refine hK.out _ _ ?_
        clear hK K
        iterate 2 (refine wpMix_p rfl rfl (fun K hK => ?_); apply Exists.intro; refine ⟨fun w' => ?_, ?_⟩; (focus (go_simp; try rfl)); go_simp; refine hK _ _ ?_; clear hK K)
        refine wpMix_nil ?_
        go_wp2
        go_ret
        exact ⟨rfl, bth hwr s0⟩
       ·
        have hle : decide (lx <= 0) = false := by simpa using hlx
        have HB := Hd (HBD.out.trans hle)
        clear hlx HBD
        refine wp_region_mixM (S := Below wr.heap.size wr) [(0, .q), (1, .q), (2, .q), (3, .q), (4, .q), (5, .q), (6, .q), (7, .q), (8, .q), (9, .q), (10, .q), (11, .q), (12, .q), (13, .q), (14, .t), (15, .p), (16, .p)] (by kernel_rfl) (by kernel_rfl) (by kernel_rfl) (fun d _ _ _ _ h => by cases d <;> exact h) (s0) ?_
        iterate 14 (refine wpMix_q rfl rfl (fun K hK => ?_); apply Exists.intro; refine ⟨fun w' hw' => ?_, ?_⟩; (focus (go_simp; try rfl)); go_simp; refine hK _ _ ?_; clear hK K)
        refine wpMix_t rfl rfl (fun K hK => ?_)
        go_simp
        refine (CL.out _ s0).mono ?_
        rintro r w6 ⟨rfl, rfl⟩
        dsimp only
        refine hK.out _ _ ?_
        clear hK K
        iterate 2 (refine wpMix_p rfl rfl (fun K hK => ?_); apply Exists.intro; refine ⟨fun w' => ?_, ?_⟩; (focus (go_simp; try rfl)); go_simp; refine hK _ _ ?_; clear hK K)
        refine wpMix_nil ?_
        go_wp2
        go_roundg (gk - 1)
        case rel => exact ⟨j + 1 + 1, by have := HKG.out; omega, by go_num, bth hwr s0, all_succ HA.out HB.out⟩
        case measure => have := HKG.out; omega
  ·
   obtain rfl : res = true := by rw [<- HRES.out]; exact polyB_good fun i hi => HA.out i (by omega)
   go_wp2
   go_ret
   exact ⟨rfl, hwr⟩
theorem errNm_in (names : List ByteArray) : errNm names = 0 \/ errNm names = 7 \/ errNm names = 9 := by
 unfold errNm
 split
 ·
  split
  · exact .inr (.inl rfl)
  · exact .inl rfl
 · exact .inr (.inr rfl)
theorem readP_bad {names : List ByteArray} {l : List UInt8} {k : Nat} {e : Int} : readP names l = .bad k e ↔ reaG names l = .bad k e := by
 unfold readP
 cases reaG names l with
 | ok L r => exact ⟨fun h => (by cases h), fun h => (by cases h)⟩
 | bad k2 e2 => exact Iff.rfl
theorem take_ext (s : ByteArray) (a : Nat) : (s.extract 0 a).data.toList = s.data.toList.take a := by rw [Lib.extract_data]; simp
theorem ext_size {s : ByteArray} {a : Nat} (h : a <= s.size) : (s.extract 0 a).size = a := by rw [ByteArray.size_extract]; omega
theorem slice_str_h (s : ByteArray) (a : Nat) (h : a <= s.size) (w : World) : (Instr.slice 9 (.string s) none (some (.int .i64 (a : Int))) none).run Tryz.prog w = .ok (.string (s.extract 0 a)) w := by
 have := run_slice_string_h (P := Tryz.prog) w 9 s Tryz.underlying9 .i64 (a : Int) (by omega) (by omega)
 rw [this]
 rfl
theorem offsets_any (s : ByteArray) (names : List ByteArray) (b : Option Addr) (cb : Nat) (w : World) (h' : StrsR w b cb names) (he : ErrW w) (ht : TabW w) :
  Calls Tryz.prog 6 #[.string s, .slice b names.length cb] w fun e w' => e = .returned (.bool true) /\ Below w.heap.size w w' := by
 have HA := Hd (fun W (hW : Below w.heap.size w W) => alive_any W (he.below hW) (ht.below hW))
 have CS := Hd (small_any [] names none b 0 cb w SlR.nil h')
 have HN := Hd (fun W (hW : Below w.heap.size w W) => h'.ext (xbw hW))
 have HE := Hd (fun W (hW : Below w.heap.size w W) => he.below hW)
 have ln := h'.len
 clear h' he ht
 by_cases hbig : 1300 < s.size
 ·
  have d1 : decide (1300 < s.size) = true := by simpa using hbig
  go_enter Tryz.func6, Tryz.ntmps6
  go_wp2_with fail
  refine (HA.out w brf).mono ?_
  rintro e w1 ⟨rfl, hb⟩
  go_wp2
  go_ret
  exact ⟨rfl, hb⟩
 have d1 : decide (1300 < s.size) = false := by simpa using hbig
 go_enter Tryz.func6, Tryz.ntmps6
 go_wp2_with fail
 refine CS.out.mono ?_
 rintro e w' ⟨q, rfl, hq, rfl⟩
 cases q
 ·
  go_wp2_with fail
  refine (HA.out w brf).mono ?_
  rintro e w1 ⟨rfl, hb⟩
  go_wp2
  go_ret
  exact ⟨rfl, hb⟩
 have hsm := Hd (hq rfl)
 clear hq CS
 have hsl0 : s.data.toList.length = s.size := by simp
 have CR := Hd (fun (t : ByteArray) (hts : t.size <= 1300) W (hW : Below w.heap.size w W) => readS_any t names b cb W (HN.out W hW) (sml_names hsm.out) (by have := hsm.out.2.1; omega) (by omega) (wok_short (by have : t.data.toList.length = t.size := by { simp }; omega)) (HE.out W hW))
 have C1 := Hd (CR.out s (by omega) w brf)
 replace hsl0 := Hd hsl0
 go_wp2_with fail
 refine C1.out.mono ?_
 rintro e w1 ⟨a, n, c, at_, er, rfl, hb1, hno, hok⟩
 clear C1
 by_cases hnm : errNm names = 0
 ·
  have hok1 := hok hnm
  cases hR : reaG names s.data.toList with
  | ok L r =>
   have hrp : readP names s.data.toList = .ok (normP L) r := by unfold readP; rw [hR]; rfl
   rw [hrp] at hok1
   obtain ⟨rfl, hP, rfl, rfl, hF⟩ := hok1
   have hpk := (normP_ok (reaG_ok hR).2).1
   have hq := hP.list
   have hqb := polyB_of hpk
   have hlm : ((normP L).map trmOf).length = (normP L).length := List.length_map _
   have CE := polyR_any _ a c w1 hq (fun t ht => by have := few_of hF t ht; omega)
   rw [hlm, hqb] at CE
   replace CE := Hd CE
   clear hok hno hR hrp hP hF hpk hq hqb hlm
   go_wp2_with fail
   refine CE.out.mono ?_
   rintro e w3 ⟨rfl, hb3⟩
   have hw3 := bth hb1 hb3
   go_wp2_with fail
   refine (HA.out w3 hw3).mono ?_
   rintro e w9 ⟨rfl, hb9⟩
   go_wp2
   go_ret
   exact ⟨rfl, bth hw3 hb9⟩
  | bad k er2 =>
   have hrp := readP_bad.2 hR
   rw [hrp] at hok1
   obtain ⟨rfl, rfl, rfl, rfl, h0, hks⟩ := hok1
   obtain ⟨f1, f9, f10, f0⟩ := reaG_fine names s.data.toList k er hR
   obtain ⟨A, hA⟩ : ∃ A, s.size - k = A := ⟨_, rfl⟩
   have hAs : A <= s.size := by omega
   rw [hA]
   have hform := fun (e9 : er = 9) => reaG_form (by rw [<- e9]; exact hR : reaG names s.data.toList = .bad k 9)
   rw [hsl0.out, hA] at hform
   have hA10 : er = 10 -> A = s.size := fun e => by have := f10 e; omega
   have hA9 : er = 9 -> A < s.size := fun e => by have := f9 e; omega
   replace hform := Hd hform; replace hA10 := Hd hA10; replace hA9 := Hd hA9; replace hA := Hd hA; replace hnm := Hd hnm
   have e00 : (er == 0) = false := by simpa using h0
   clear hok hno hR hrp f1 f9 f10 f0 hks
   by_cases e9 : er = 9
   ·
    have hAlt := hA9.out e9
    obtain ⟨_, _, g3, g4⟩ := hform.out e9
    have hAne : ((A : Int) == (s.size : Int)) = false := by rw [beq_eq_false_iff_ne]; omega
    have CN := Hd (fun W (hW : Below w.heap.size w W) => checkR_any names b cb W (HN.out W hW) (sml_names hsm.out) (by have := hsm.out.2.1; omega))
    rw [hnm.out] at CN
    have hs1 := fun W => slice_str_h s A hAs W
    have hs2 := fun W => slice_str_h s (A + 1) (by omega) W
    have hcast : ((A + 1 : Nat) : Int) = (A : Int) + 1 := by omega
    rw [hcast] at hs2
    have z1 := ext_size (s := s) (a := A) hAs
    have z2 := ext_size (s := s) (a := A + 1) (by omega)
    have D1 := Hd (CR.out (s.extract 0 A) (by omega))
    have D2 := Hd (CR.out (s.extract 0 (A + 1)) (by omega))
    have l1 := take_ext s A
    have l2 := take_ext s (A + 1)
    obtain ⟨t1, ht1⟩ : ∃ t, s.extract 0 A = t := ⟨_, rfl⟩
    obtain ⟨t2, ht2⟩ : ∃ t, s.extract 0 (A + 1) = t := ⟨_, rfl⟩
    rw [ht1] at hs1 z1 D1 l1
    rw [ht2] at hs2 z2 D2 l2
    rw [<- l1] at g3
    rw [<- l2] at g4
    replace g3 := Hd g3; replace g4 := Hd g4; replace z1 := Hd z1; replace z2 := Hd z2; replace l1 := Hd l1; replace l2 := Hd l2; replace ht1 := Hd ht1; replace ht2 := Hd ht2
    subst e9
    clear hform hA9 hA10 e00
    go_wp2_with fail
    refine (CN.out w1 hb1).mono ?_
    rintro e w2 ⟨rfl, hb2⟩
    have hw2 := bth hb1 hb2
    clear CN hb2
    go_wp2_with fail
    refine (D1.out w2 hw2).mono ?_
    rintro e w3 ⟨a3, n3, c3, at3, er3, rfl, hb3, _, hok3⟩
    have hw3 := bth hw2 hb3
    have hok3' := hok3 hnm.out
    have hA3 : er3 ≠ 9 /\ at3 <= (A : Int) := by
     cases hR3 : reaG names t1.data.toList with
     | ok L r =>
      rw [show readP names t1.data.toList = .ok (normP L) r from by unfold readP; rw [hR3]; rfl] at hok3'
      obtain ⟨_, _, q1, q2, _⟩ := hok3'
      exact ⟨by omega, by omega⟩
     | bad k3 e3 =>
      rw [readP_bad.2 hR3] at hok3'
      obtain ⟨_, _, q1, q2, _, _⟩ := hok3'
      refine ⟨fun h => g3.out k3 (by rw [hR3, <- q2, h]), ?_⟩
      have := z1.out
      omega
    have c1 : (er3 != 9) = true := by simpa using hA3.1
    have c2 : decide (at3 <= (A : Int)) = true := by simpa using hA3.2
    have c3' := hA3.2
    clear D1 hok3 hok3' hb3 hw2 hA3
    go_wp2_with fail
    refine (D2.out w3 hw3).mono ?_
    rintro e w4 ⟨a4, n4, c4, at4, er4, rfl, hb4, _, hok4⟩
    have hw4 := bth hw3 hb4
    have hok4' := hok4 hnm.out
    rw [readP_bad.2 g4.out] at hok4'
    obtain ⟨_, _, q1, rfl, _, _⟩ := hok4'
    have hq1 : at4 = (A : Int) := by have := z2.out; omega
    subst hq1
    clear D2 hok4 hb4 q1 hw3
    go_wp2_with fail
    refine (HA.out w4 hw4).mono ?_
    rintro e w9 ⟨rfl, hb9⟩
    go_wp2
    go_ret
    exact ⟨rfl, bth hw4 hb9⟩
   ·
    have e91 : (er != 9) = true := by simpa using e9
    by_cases e10 : er = 10
    ·
     have hAe := hA10.out e10
     subst e10
     have hAb : ((A : Int) != (s.size : Int)) = false := by rw [bne_eq_false_iff_eq]; omega
     have hAb2 : ((A : Int) == (s.size : Int)) = true := by rw [beq_iff_eq]; omega
     replace hAe := Hd hAe
     clear e9 hform
     go_wp2_with fail
     refine (HA.out w1 hb1).mono ?_
     rintro e w9 ⟨rfl, hb9⟩
     go_wp2
     go_ret
     exact ⟨rfl, bth hb1 hb9⟩
    ·
     have e101 : (er == 10) = false := by simpa using e10
     replace e10 := Hd e10; replace e9 := Hd e9
     go_wp2_with fail
     refine (HA.out w1 hb1).mono ?_
     rintro e w9 ⟨rfl, hb9⟩
     go_wp2
     go_ret
     exact ⟨rfl, bth hb1 hb9⟩
 ·
  obtain ⟨rfl, rfl, rfl, her⟩ := hno hnm
  have CN := Hd (fun W (hW : Below w.heap.size w W) => checkR_any names b cb W (HN.out W hW) (sml_names hsm.out) (by have := hsm.out.2.1; omega))
  have hin := errNm_in names
  obtain ⟨er2, her2⟩ : ∃ e, errNm names = e := ⟨_, rfl⟩
  rw [her2] at her hnm hin
  simp only [her2] at CN
  subst her
  replace CN := Hd CN.out; replace her2 := Hd her2
  clear hok hno
  rcases hin with h0 | h7 | h9
  · exact absurd h0 hnm
  ·
   subst h7
   replace hnm := Hd hnm
   go_wp2_with fail
   refine (HA.out w1 hb1).mono ?_
   rintro e w9 ⟨rfl, hb9⟩
   go_wp2
   go_ret
   exact ⟨rfl, bth hb1 hb9⟩
  ·
   subst h9
   replace hnm := Hd hnm
   go_wp2_with fail
   refine (CN.out w1 hb1).mono ?_
   rintro e w2 ⟨rfl, hb2⟩
   have hw2 := bth hb1 hb2
   clear CN
   go_wp2_with fail
   refine (HA.out w2 hw2).mono ?_
   rintro e w9 ⟨rfl, hb9⟩
   go_wp2
   go_ret
   exact ⟨rfl, bth hw2 hb9⟩
structure FineL (l : List (List Trm)) : Prop where
 right : ∀ p ∈ l, polyB p = true
 few : ∀ p ∈ l, p.length <= 1000
 small : ∀ p ∈ l, ∀ t ∈ p, t.coef.num.length <= 1000 /\ t.coef.den.length <= 1000
end Go.Proofs.YtkjnkpkagcboeaaGreatDoor
namespace Go.Proofs.YtkjnkpkagcboeaaGreatDoor
open Go.ChangeShapes Go.WideShapes Go.ChangeAt Go.RowKit
theorem len2 {α : Type} {l : List α} (h : l.length = 2) : ∃ x0 x1, l = [x0, x1] := by
 match l, h with
 | [x0, x1], _ => exact ⟨x0, x1, rfl⟩
theorem len3 {α : Type} {l : List α} (h : l.length = 3) : ∃ x0 x1 x2, l = [x0, x1, x2] := by
 match l, h with
 | [x0, x1, x2], _ => exact ⟨x0, x1, x2, rfl⟩
theorem len4 {α : Type} {l : List α} (h : l.length = 4) : ∃ x0 x1 x2 x3, l = [x0, x1, x2, x3] := by
 match l, h with
 | [x0, x1, x2, x3], _ => exact ⟨x0, x1, x2, x3, rfl⟩
theorem list_choose {α β : Type} {p : Nat -> β -> α -> Prop} (l : List β) (h : ∀ i y, l[i]? = some y -> ∃ z, p i y z) :
  ∃ zs : List α, zs.length = l.length /\ ∀ (i : Nat) (z : α), zs[i]? = some z -> ∃ y, l[i]? = some y /\ p i y z := by
 induction l generalizing p with
 | nil => exact ⟨[], rfl, fun i z hz => by simp at hz⟩
 | cons x l ih =>
  obtain ⟨z0, h0⟩ := h 0 x rfl
  obtain ⟨zs, hl, hz⟩ := ih (p := fun i => p (i + 1)) (fun i y hy => h (i + 1) y (by simpa using hy))
  refine ⟨z0 :: zs, by simp [hl], fun i z hi => ?_⟩
  cases i with
  | zero => simp at hi; subst hi; exact ⟨x, rfl, h0⟩
  | succ i => simpa using hz i z (by simpa using hi)
theorem sum_le_bulk {H α : Type} (size : α -> Nat) : ∀ (ds : List (DataW H)) (zs : List α), zs.length = ds.length -> (∀ (i : Nat) (z : α) (d : DataW H), zs[i]? = some z -> ds[i]? = some d -> size z <= Rows.uptoBulk d) ->
  (zs.map size).sum <= Rows.uptoBulkAll ds
 | [], zs, hl, _ => by
  have : zs = [] := List.eq_nil_of_length_eq_zero (by simpa using hl)
  subst this; simp
 | d :: ds, [], hl, _ => by simp at hl
 | d :: ds, z :: zs, hl, h => by
  have h0 := h 0 z d rfl rfl
  have h1 := sum_le_bulk size ds zs (by simpa using hl) (fun i z d hz hd => h (i + 1) z d (by simpa using hz) (by simpa using hd))
  simp only [List.map_cons, List.sum_cons, Rows.uptoBulkAll]
  omega
section
variable {H : Type} {enc : TypeId × Value -> H} {P : Program} {W : World} {sp : Nat -> Bool} {held : Bool}
theorem open_sl {t e : TypeId} {sz fuel : Nat} {cs : List Value} {x : DataW H × List MemPlace} (ht : P.underlying t = some (.slice e)) (hc : P.cellsOf e = sz) (hs : 0 < sz)
  (h : DataW.trod enc P W 0 sp held fuel t cs = some x) {α : Type} (E : World -> Nat -> Nat -> α -> Prop) (size : α -> Nat)
  (conv : ∀ n cs' y b o, n < fuel -> DataW.trod enc P W 0 sp held n e cs' = some y -> cs'.length = sz -> (∀ j, j < sz -> W.cell? ⟨b, o + j, none⟩ = cs'[j]?) -> ∃ z, E W b o z /\ size z <= Rows.uptoBulk y.1) :
  ∃ (a : Option Addr) (cap : Nat) (zs : List α), cs = [.slice a zs.length cap] /\ SlR sz E W a cap zs /\ (zs.map size).sum + 1 <= Rows.uptoBulk x.1 := by
 rcases DataW.trod_slice ht h with ⟨rfl, rfl⟩ | ⟨a, len, cap, elems, rest, n, hn, rfl, rfl, _, hl, hm, hlen, hel, _, _⟩
 · exact ⟨none, 0, [], rfl, SlR.nil, by simp [Rows.uptoBulk]⟩
 ·
  rw [hc] at hel
  have key : ∀ i y, elems[i]? = some y -> ∃ z, (∃ b off, a = ⟨b, off, none⟩ /\ E W b (off + i * sz) z) /\ size z <= Rows.uptoBulk y.1 := by
   intro i y hy
   have hi : i < len := by rw [<- hlen]; exact lt_of_get hy
   have h1 := hel i hi
   rw [hy] at h1
   obtain ⟨cs', hcs, hty⟩ := Option.bind_eq_some_iff.1 h1
   obtain ⟨_, hl', hcell⟩ := World.cells?_some hcs
   have hspot : ∃ b off, a = ⟨b, off, none⟩ := by
    have h0 := hcell 0 hs
    rw [List.getElem?_eq_getElem (by omega)] at h0
    have := World.cell?_spot h0
    obtain ⟨b, off, spot⟩ := a
    by_cases hi0 : i * sz = 0
    ·
     simp [Addr.add, hi0] at this
     subst this
     exact ⟨b, off, rfl⟩
    ·
     have h2 := hel 0 (by omega)
     obtain ⟨y0, hy0⟩ := get_of_lt (xs := elems) (k := 0) (by omega)
     rw [hy0] at h2
     obtain ⟨cs0, hcs0, _⟩ := Option.bind_eq_some_iff.1 h2
     obtain ⟨_, hl0, hcell0⟩ := World.cells?_some hcs0
     have h3 := hcell0 0 hs
     rw [List.getElem?_eq_getElem (by omega)] at h3
     have := World.cell?_spot h3
     simp [Addr.add] at this
     subst this
     exact ⟨b, off, rfl⟩
   obtain ⟨b, off, rfl⟩ := hspot
   obtain ⟨z, hz, hsz⟩ := conv n cs' y b (off + i * sz) (by omega) hty hl' (fun j hj => by
    rw [<- hcell j hj, add_plain, add_plain])
   exact ⟨z, ⟨b, off, rfl, hz⟩, hsz⟩
  obtain ⟨zs, hzl, hz⟩ := list_choose (p := fun i y z => (∃ b off, a = ⟨b, off, none⟩ /\ E W b (off + i * sz) z) /\ size z <= Rows.uptoBulk y.1) elems key
  refine ⟨some a, cap, zs, by rw [hzl, hlen], ⟨by omega, hm, fun k z hk => ?_⟩, ?_⟩
  ·
   obtain ⟨y, hy, ⟨b, off, rfl, he⟩, _⟩ := hz k z hk
   exact ⟨b, off, rfl, he⟩
  ·
   have h1 := sum_le_bulk size (elems.map (·.1)) zs (by simpa using hzl) (fun i z d hzi hd => by
    obtain ⟨y, hy, _, hs⟩ := hz i z hzi
    rw [List.getElem?_map, hy] at hd
    simp at hd; subst hd; exact hs)
   simp only [Rows.uptoBulk]
   omega
end
theorem conv_int {H : Type} {enc : TypeId × Value -> H} {P : Program} {W : World} {sp : Nat -> Bool} {held : Bool} {e : TypeId} {k : IntKind} (he : P.underlying e = some (.int k)) (n : Nat) (cs' : List Value) (y : DataW H × List MemPlace) (b o : Nat)
  (h : DataW.trod enc P W 0 sp held n e cs' = some y) (hc : ∀ j, j < 1 -> W.cell? ⟨b, o + j, none⟩ = cs'[j]?) : ∃ z, IntE k W b o z /\ 1 <= Rows.uptoBulk y.1 := by
 obtain ⟨z, rfl, rfl, hw⟩ := DataW.trod_int he h
 exact ⟨z, ⟨by have := hc 0 (by omega); simpa using this, hw⟩, by simp [Rows.uptoBulk]⟩
theorem conv_str {H : Type} {enc : TypeId × Value -> H} {P : Program} {W : World} {sp : Nat -> Bool} {held : Bool} {e : TypeId} (he : P.underlying e = some .string) (n : Nat) (cs' : List Value) (y : DataW H × List MemPlace) (b o : Nat)
  (h : DataW.trod enc P W 0 sp held n e cs' = some y) (hc : ∀ j, j < 1 -> W.cell? ⟨b, o + j, none⟩ = cs'[j]?) : ∃ z : ByteArray, StrE W b o z /\ z.size + 1 <= Rows.uptoBulk y.1 := by
 obtain ⟨z, rfl, rfl, hw⟩ := DataW.trod_string he h
 exact ⟨z, by have := hc 0 (by omega); simpa [StrE] using this, by simp [Rows.uptoBulk]⟩
end Go.Proofs.YtkjnkpkagcboeaaGreatDoor
namespace Go.Proofs.YtkjnkpkagcboeaaGreatDoor
open Go.ChangeShapes Go.WideShapes Go.ChangeAt Go.RowKit
theorem cellsRat : Tryz.prog.cellsOf 54 = 3 := by kernel_rfl
theorem cellsInt : Tryz.prog.cellsOf 52 = 2 := by kernel_rfl
theorem cellsNat : Tryz.prog.cellsOf 50 = 1 := by kernel_rfl
theorem cellsB : Tryz.prog.cellsOf 4 = 1 := by kernel_rfl
theorem cellsU16 : Tryz.prog.cellsOf 47 = 1 := by kernel_rfl
theorem list_sum_ones {α : Type} (l : List α) : (l.map fun _ => 1).sum = l.length := by induction l with
 | nil => rfl
 | cons x l ih => simp only [List.map_cons, List.sum_cons, ih, List.length_cons]; omega
section
variable {H : Type} {enc : TypeId × Value -> H} {W : World} {sp : Nat -> Bool} {held : Bool} {n : Nat}
theorem open_nat {cs : List Value} {y : DataW H × List MemPlace} (h : DataW.trod enc Tryz.prog W 0 sp held n 50 cs = some y) :
  ∃ a c zs, cs = [.slice a (List.length zs) c] /\ NatR W a c zs /\ zs.length + 1 <= Rows.uptoBulk y.1 := by
 obtain ⟨a, c, zs, h1, h2, h3⟩ := open_sl Tryz.underlying50 cellsU16 (by omega) h (IntE .u16) (fun _ => 1) (fun m cs' y b o _ ht _ hc => conv_int Tryz.underlying47 m cs' y b o ht hc)
 rw [list_sum_ones] at h3
 exact ⟨a, c, zs, h1, h2, h3⟩
theorem open_intst {cs : List Value} {y : DataW H × List MemPlace} (h : DataW.trod enc Tryz.prog W 0 sp held n 52 cs = some y) :
  ∃ b a c zs, cs = [.bool b, .slice a (List.length zs) c] /\ NatR W a c zs /\ zs.length + 2 <= Rows.uptoBulk y.1 := by
 obtain ⟨xs, m, rfl, rfl, hcl, hxl, hf⟩ := DataW.trod_struct Tryz.underlying52 h
 rw [cellsInt] at hcl
 obtain ⟨c0, c1, rfl⟩ := len2 hcl
 obtain ⟨y0, y1, rfl⟩ := len2 (show xs.length = 2 from hxl)
 ·
  have h0 := hf 0 _ rfl
  have h1 := hf 1 _ rfl
  simp [cellsB, cellsNat] at h0 h1
  obtain ⟨b, e0, rfl⟩ := DataW.trod_bool Tryz.underlying4 h0
  obtain ⟨a, c, zs, e1, h2, h3⟩ := open_nat h1
  simp at e0 e1; subst e0; subst e1
  refine ⟨b, a, c, zs, rfl, h2, ?_⟩
  simp [Rows.uptoBulk, Rows.uptoBulkAll] at h3 ⊢
  omega
theorem open_rat {cs : List Value} {y : DataW H × List MemPlace} (h : DataW.trod enc Tryz.prog W 0 sp held n 54 cs = some y) :
  ∃ b na nc num da dc den, cs = [.bool b, .slice na (List.length num) nc, .slice da (List.length den) dc] /\ NatR W na nc num /\ NatR W da dc den /\ num.length + den.length + 2 <= Rows.uptoBulk y.1 := by
 obtain ⟨xs, m, rfl, rfl, hcl, hxl, hf⟩ := DataW.trod_struct Tryz.underlying54 h
 rw [cellsRat] at hcl
 obtain ⟨c0, c1, c2, rfl⟩ := len3 hcl
 obtain ⟨y0, y1, rfl⟩ := len2 (show xs.length = 2 from hxl)
 ·
  have h0 := hf 0 _ rfl
  have h1 := hf 1 _ rfl
  simp [cellsInt, cellsNat] at h0 h1
  obtain ⟨b, na, nc, num, e0, h2, h3⟩ := open_intst h0
  obtain ⟨da, dc, den, e1, h4, h5⟩ := open_nat h1
  simp at e0 e1
  obtain ⟨rfl, rfl⟩ := e0
  subst e1
  refine ⟨b, na, nc, num, da, dc, den, rfl, h2, h4, ?_⟩
  simp [Rows.uptoBulk, Rows.uptoBulkAll] at h3 h5 ⊢
  omega
end
end Go.Proofs.YtkjnkpkagcboeaaGreatDoor
namespace Go.Proofs.YtkjnkpkagcboeaaGreatDoor
open Go.ChangeShapes Go.WideShapes Go.ChangeAt Go.RowKit
theorem cellsI : Tryz.prog.cellsOf 3 = 1 := by kernel_rfl
theorem cellsS : Tryz.prog.cellsOf 9 = 1 := by kernel_rfl
section
variable {H : Type} {enc : TypeId × Value -> H} {W : World} {sp : Nat -> Bool} {held : Bool} {n : Nat}
theorem open_intsl {cs : List Value} {y : DataW H × List MemPlace} (h : DataW.trod enc Tryz.prog W 0 sp held n 38 cs = some y) :
  ∃ a c zs, cs = [.slice a (List.length zs) c] /\ IntsR W a c zs /\ zs.length + 1 <= Rows.uptoBulk y.1 := by
 obtain ⟨a, c, zs, h1, h2, h3⟩ := open_sl Tryz.underlying38 cellsI (by omega) h (IntE .i64) (fun _ => 1) (fun m cs' y b o _ ht _ hc => conv_int Tryz.underlying3 m cs' y b o ht hc)
 rw [list_sum_ones] at h3
 exact ⟨a, c, zs, h1, h2, h3⟩
theorem open_strsl {cs : List Value} {y : DataW H × List MemPlace} (h : DataW.trod enc Tryz.prog W 0 sp held n 24 cs = some y) :
  ∃ a c zs, cs = [.slice a (List.length zs) c] /\ StrsR W a c zs /\ (zs.map fun s => s.size + 1).sum + 1 <= Rows.uptoBulk y.1 :=
 open_sl Tryz.underlying24 cellsS (by omega) h StrE (fun s => s.size + 1) (fun m cs' y b o _ ht _ hc => conv_str Tryz.underlying9 m cs' y b o ht hc)
end
end Go.Proofs.YtkjnkpkagcboeaaGreatDoor
