/- Walks: whether a string is a name, by the program. -/
import Derived.Test.YtmlldjcbijoheaaJr3
import Derived.Test.YtmlldjcbijoheaaJr2
import Derived.Test.YtmlldjcbijoheaaJr9

/- Walks: slices.Index and slices.Contains over strings. -/
namespace Go.Proofs.Ytmlldjcbijoheaa
open Go.RowKit

def findFrom (n : ByteArray) (i : Nat) : List ByteArray → Int
  | [] => -1
  | x :: r => if x = n then (i : Int) else findFrom n (i + 1) r
theorem findFrom_at {l : List ByteArray} {n x : ByteArray} {k : Nat} (h : l[k]? = some x) : findFrom n k (l.drop k) = if x = n then (k : Int) else findFrom n (k + 1) (l.drop (k + 1)) := by
  have hk := lt_of_get h
  rw [List.drop_eq_getElem_cons hk]
  have : l[k] = x := by rw [List.getElem?_eq_getElem hk] at h; exact Option.some.inj h
  rw [this, findFrom]
theorem findFrom_end {l : List ByteArray} {n : ByteArray} {k : Nat} (h : ¬ k < l.length) : findFrom n k (l.drop k) = -1 := by rw [List.drop_eq_nil_of_le (by omega)]; rfl

set_option maxHeartbeats 1000000 in
theorem indexS_any (l : List ByteArray) (n : ByteArray) (a : Option Addr) (c : Nat) (w : World) (h : StrsR w a c l) :
    Calls Try.prog 100 #[.slice a l.length c, .string n] w fun e w' => e = .returned (.int .i64 (findFrom n 0 l)) ∧ w = w' := by
  have H := Lib.hid h
  have hlen := h.len
  obtain ⟨r, hr⟩ : ∃ r, findFrom n 0 l = r := ⟨_, rfl⟩
  rw [hr]
  have HR := Lib.hid hr
  clear h hr
  go_enter Try.func100, Try.ntmps100
  go_wp2
  go_loop [5, 8] (fun _ q => ∃ k : Nat, k ≤ l.length ∧ q = .int .i64 k ∧ Hid (findFrom n k (l.drop k) = r)) (fun _ q => l.length - (intOf q).toNat)
  case atStart => exact ⟨0, by omega, rfl, HR.out⟩
  case round =>
    obtain ⟨k, hk, rfl, hp⟩ := hrel
    by_cases hlt : k < l.length
    · obtain ⟨x, hx⟩ := get_of_lt hlt
      obtain ⟨b, off, rfl, hc⟩ := H.out.2.2 k x hx
      have hc1 : w.cell? ⟨b, off + k, none⟩ = some (.string x) := by simpa [StrE] using hc
      have hpa := hp.out
      rw [findFrom_at hx] at hpa
      replace hpa := Lib.hid hpa
      clear hx hc
      by_cases he : x = n
      · have hb : (n.toList == x.toList) = true := by rw [str_beq]; simpa using he.symm
        have hrk : r = k := by have := hpa.out; rw [if_pos he] at this; exact this.symm
        subst hrk
        clear he
        go_wp2
        go_ret
        exact ⟨rfl, rfl⟩
      · have hb : (n.toList == x.toList) = false := by rw [str_beq]; simpa using fun e => he e.symm
        have hpn := hpa.out
        rw [if_neg he] at hpn
        replace hpn := Lib.hid hpn
        clear he
        go_wp2
        go_round
        case rel => exact ⟨k + 1, by omega, by go_num, hpn.out⟩
        case measure => simp [intOf]; omega
    · have hrk : r = -1 := by rw [← hp.out, findFrom_end hlt]
      subst hrk
      go_wp2
      go_ret
      exact ⟨rfl, rfl⟩

theorem findFrom_nonneg (n : ByteArray) : ∀ (l : List ByteArray) (i : Nat), decide (0 ≤ findFrom n i l) = hasName l n
  | [], i => by simp [findFrom, hasName]
  | x :: r, i => by
    have ih := findFrom_nonneg n r (i + 1)
    rw [findFrom]
    unfold hasName at ih ⊢
    rw [List.any_cons]
    by_cases h : x = n
    · rw [if_pos h]; simp [h]
    · rw [if_neg h, ih]; simp [h]
set_option maxHeartbeats 400000 in
theorem containsS_any (l : List ByteArray) (n : ByteArray) (a : Option Addr) (c : Nat) (w : World) (h : StrsR w a c l) :
    Calls Try.prog 68 #[.slice a l.length c, .string n] w fun e w' => e = .returned (.bool (hasName l n)) ∧ w = w' := by
  have CI := indexS_any l n a c w h
  have hf := findFrom_nonneg n l 0
  revert CI hf
  generalize findFrom n 0 l = q
  intro CI hf
  rw [← hf]
  clear h hf
  replace CI := Lib.hid CI
  go_enter Try.func68, Try.ntmps68
  go_wp2_with fail
  refine CI.out.mono ?_
  rintro e w1 ⟨rfl, rfl⟩
  go_wp2
  go_ret
  exact ⟨rfl, rfl⟩
end Go.Proofs.Ytmlldjcbijoheaa

/- Walks: whether a string is a name, by the program. -/
namespace Go.Proofs.Ytmlldjcbijoheaa
open Go.RowKit

/-- the kind of a byte -/
def kindB (c : Int) : Int := if c = 32 ∨ c = 9 ∨ c = 13 ∨ c = 10 then 1 else if letB c = true then 2 else if digB c = true then 3 else if c = 40 ∨ c = 41 ∨ c = 44 ∨ c = 59 ∨ c = 47 ∨ c = 45 then 4 else if c = 58 then 5 else if c = 35 then 6 else 0
theorem kindB_let (c : Int) : (kindB c = 2) ↔ letB c = true := by
  unfold kindB letB
  constructor
  · intro h
    split at h
    · omega
    split at h
    · assumption
    split at h
    · omega
    split at h
    · omega
    split at h
    · omega
    split at h <;> omega
  · intro h
    simp only [decide_eq_true_eq] at h
    rw [if_neg (by omega), if_pos (by simpa using h)]
theorem kindB_dig (c : Int) : (kindB c = 3) ↔ digB c = true := by
  unfold kindB letB digB
  constructor
  · intro h
    split at h
    · omega
    split at h
    · omega
    split at h
    · assumption
    split at h
    · omega
    split at h
    · omega
    split at h <;> omega
  · intro h
    simp only [decide_eq_true_eq] at h
    rw [if_neg (by omega), if_neg (by simp only [decide_eq_true_eq]; omega), if_pos (by simpa using h)]
theorem eqb_no {a b : Int} (h : ¬ a = b) : (a == b) = false := by simpa using h
set_option maxHeartbeats 4000000 in
theorem kindOf_any (c : Int) (w : World) (h0 : 0 ≤ c) (h1 : c ≤ 255) :
    Calls Try.prog 101 #[.int .u8 c] w fun e w' => e = .returned (.int .i64 (kindB c)) ∧ w = w' := by
  by_cases hlit : c = 32 ∨ c = 9 ∨ c = 13 ∨ c = 10 ∨ c = 40 ∨ c = 41 ∨ c = 44 ∨ c = 59 ∨ c = 47 ∨ c = 45 ∨ c = 58 ∨ c = 35
  · clear h0 h1
    rcases hlit with rfl | rfl | rfl | rfl | rfl | rfl | rfl | rfl | rfl | rfl | rfl | rfl
    all_goals
      go_enter Try.func101, Try.ntmps101
      go_wp2
      go_ret
      exact ⟨ret_int (by decide), rfl⟩
  · have e1 := eqb_no (a := c) (b := 32) (by omega); have e2 := eqb_no (a := c) (b := 9) (by omega); have e3 := eqb_no (a := c) (b := 13) (by omega); have e4 := eqb_no (a := c) (b := 10) (by omega)
    have e5 := eqb_no (a := c) (b := 40) (by omega); have e6 := eqb_no (a := c) (b := 41) (by omega); have e7 := eqb_no (a := c) (b := 44) (by omega); have e8 := eqb_no (a := c) (b := 59) (by omega)
    have e9 := eqb_no (a := c) (b := 47) (by omega); have e10 := eqb_no (a := c) (b := 45) (by omega); have e11 := eqb_no (a := c) (b := 58) (by omega); have e12 := eqb_no (a := c) (b := 35) (by omega)
    obtain ⟨r, hr⟩ : ∃ r, kindB c = r := ⟨_, rfl⟩
    have hr2 := hr
    unfold kindB letB digB at hr2
    rw [hr]
    have HR := Lib.hid hr2
    have HLIT := Lib.hid hlit
    clear hr hr2 hlit
    have hc : c < 48 ∨ (48 ≤ c ∧ c ≤ 57) ∨ (58 ≤ c ∧ c < 65) ∨ (65 ≤ c ∧ c ≤ 90) ∨ (91 ≤ c ∧ c < 97) ∨ (97 ≤ c ∧ c ≤ 122) ∨ 122 < c := by omega
    rcases hc with hc | ⟨hc, hd⟩ | ⟨hc, hd⟩ | ⟨hc, hd⟩ | ⟨hc, hd⟩ | ⟨hc, hd⟩ | hc
    all_goals
      go_enter Try.func101, Try.ntmps101
      go_wp2
      go_ret
      refine ⟨ret_int ?_, rfl⟩
      rw [← HR.out]
      have hl := HLIT.out
      simp only [decide_eq_true_eq]
      repeat (first | rw [if_neg (by omega)] | rw [if_pos (by omega)])

/-- the first byte at or behind k that is neither a letter nor a digit -/
def wordEnd (s : ByteArray) (k : Nat) : Nat := k + ((s.data.toList.drop k).takeWhile wordB).length
theorem wordEnd_yes {s : ByteArray} {k : Nat} (h : k < s.size) (hw : wordB (s[k]'h) = true) : wordEnd s k = wordEnd s (k + 1) := by
  have hg := get_list h
  have hk : k < s.data.toList.length := by simpa using h
  unfold wordEnd
  rw [List.drop_eq_getElem_cons hk]
  have e : s.data.toList[k] = s[k]'h := by rw [List.getElem?_eq_getElem hk] at hg; exact Option.some.inj hg
  rw [e, List.takeWhile_cons, if_pos hw, List.length_cons]
  omega
theorem wordEnd_no {s : ByteArray} {k : Nat} (h : k < s.size) (hw : wordB (s[k]'h) = false) : wordEnd s k = k := by
  have hg := get_list h
  have hk : k < s.data.toList.length := by simpa using h
  unfold wordEnd
  rw [List.drop_eq_getElem_cons hk]
  have e : s.data.toList[k] = s[k]'h := by rw [List.getElem?_eq_getElem hk] at hg; exact Option.some.inj hg
  rw [e, List.takeWhile_cons, if_neg (by simp [hw])]
  rfl
theorem wordEnd_end {s : ByteArray} {k : Nat} (h : ¬ k < s.size) : wordEnd s k = k := by
  unfold wordEnd
  rw [List.drop_eq_nil_of_le (by simp; omega)]
  rfl
theorem wordEnd_all (s : ByteArray) : wordEnd s 0 = s.size ↔ s.data.toList.all wordB = true := by
  unfold wordEnd
  have hl : s.data.toList.length = s.size := by simp
  rw [List.drop_zero, Nat.zero_add, ← hl]
  generalize s.data.toList = l
  induction l with
  | nil => simp
  | cons x l ih =>
    rw [List.takeWhile_cons, List.all_cons]
    cases hw : wordB x
    · simp
    · simp [ih]
theorem wordEnd_le (s : ByteArray) (k : Nat) (h : k ≤ s.size) : wordEnd s k ≤ s.size := by
  unfold wordEnd
  have := (List.takeWhile_prefix wordB (l := s.data.toList.drop k)).length_le
  have hl : s.data.toList.length = s.size := by simp
  rw [List.length_drop, hl] at this
  omega
set_option maxHeartbeats 2000000 in
theorem wordEnd_any (s : ByteArray) (k0 : Nat) (w : World) (hs : s.size ≤ 9223372036854775806) (hk0 : k0 ≤ s.size) :
    Calls Try.prog 102 #[.string s, .int .i64 k0, .bool true] w fun e w' => e = .returned (.int .i64 (wordEnd s k0 : Nat)) ∧ w = w' := by
  obtain ⟨r, hr⟩ : ∃ r, wordEnd s k0 = r := ⟨_, rfl⟩
  rw [hr]
  have HR := Lib.hid hr
  clear hr
  go_enter Try.func102, Try.ntmps102
  go_wp2
  go_loop [1] (fun q => ∃ k : Nat, k ≤ s.size ∧ q = .int .i64 k ∧ Hid (wordEnd s k = r)) (fun q => s.size - (intOf q).toNat)
  case atStart => exact ⟨k0, hk0, rfl, HR.out⟩
  case round =>
    obtain ⟨k, hk, rfl, hw⟩ := hrel
    by_cases hlt : k < s.size
    · have C := kindOf_any ((s[k]'hlt).toNat : Nat) w (by omega) (by have := (s[k]'hlt).toNat_lt; omega)
      have h2 := kindB_let ((s[k]'hlt).toNat : Nat)
      have h3 := kindB_dig ((s[k]'hlt).toNat : Nat)
      have hwb : wordB (s[k]'hlt) = (letB ((s[k]'hlt).toNat : Nat) || digB ((s[k]'hlt).toNat : Nat)) := rfl
      have hy := fun h => wordEnd_yes hlt h
      have hn := fun h => wordEnd_no hlt h
      revert C h2 h3
      generalize kindB ((s[k]'hlt).toNat : Nat) = q
      intro C h2 h3
      replace C := Lib.hid C
      by_cases hq3 : q = 3
      · have e3 : (q == 3) = true := by simpa using hq3
        have hnx : wordEnd s (k + 1) = r := by rw [← hy (by rw [hwb, h3.1 hq3]; simp)]; exact hw.out
        have HNX := Lib.hid hnx
        clear hq3 h2 h3 hwb hy hn hnx
        go_wp2_with (go_at_call 101; refine C.out.mono ?_; rintro e w' ⟨rfl, rfl⟩)
        go_round
        case rel => exact ⟨k + 1, by omega, by go_num, HNX.out⟩
        case measure => simp [intOf]; omega
      · have e3 : (q == 3) = false := by simpa using hq3
        by_cases hq2 : q = 2
        · have e2 : (q == 2) = true := by simpa using hq2
          have hnx : wordEnd s (k + 1) = r := by rw [← hy (by rw [hwb, h2.1 hq2]; simp)]; exact hw.out
          have HNX := Lib.hid hnx
          clear hq3 hq2 h2 h3 hwb hy hn hnx
          go_wp2_with (go_at_call 101; refine C.out.mono ?_; rintro e w' ⟨rfl, rfl⟩)
          go_round
          case rel => exact ⟨k + 1, by omega, by go_num, HNX.out⟩
          case measure => simp [intOf]; omega
        · have e2 : (q == 2) = false := by simpa using hq2
          have hfin : k = r := by
            rw [← hw.out, hn]
            rw [hwb]
            have n2 : letB ((s[k]'hlt).toNat : Nat) = false := by
              cases hb : letB ((s[k]'hlt).toNat : Nat)
              · rfl
              · exact absurd (h2.2 hb) hq2
            have n3 : digB ((s[k]'hlt).toNat : Nat) = false := by
              cases hb : digB ((s[k]'hlt).toNat : Nat)
              · rfl
              · exact absurd (h3.2 hb) hq3
            rw [n2, n3]; rfl
          have HF := Lib.hid hfin
          clear hq3 hq2 h2 h3 hwb hy hn hfin
          go_wp2_with (go_at_call 101; refine C.out.mono ?_; rintro e w' ⟨rfl, rfl⟩)
          go_ret
          exact ⟨ret_int (by have := HF.out; omega), rfl⟩
    · have hfin : k = r := by rw [← hw.out, wordEnd_end hlt]
      have HF := Lib.hid hfin
      clear hfin
      go_wp2
      go_ret
      exact ⟨ret_int (by have := HF.out; omega), rfl⟩

set_option maxHeartbeats 2000000 in
theorem isName_any (s : ByteArray) (w : World) (hs : s.size ≤ 9223372036854775807) :
    Calls Try.prog 69 #[.string s] w fun e w' => e = .returned (.bool (isNameB s)) ∧ Below w.heap.size w w' := by
  obtain ⟨r, hr⟩ : ∃ r, isNameB s = r := ⟨_, rfl⟩
  rw [hr]
  have HR := Lib.hid hr
  clear hr
  by_cases h0 : s.size = 0
  · have e := size_zero.1 h0
    subst e
    have hr : r = false := by rw [← HR.out]; exact isNameB_empty
    subst hr
    clear h0 hs
    go_enter Try.func69, Try.ntmps69
    go_wp2
    go_ret
    exact ⟨rfl, Below.refl _ _⟩
  · have hse : s.toList.isEmpty = false := by rw [str_isEmpty]; simp; exact fun e => h0 (size_zero.2 e)
    have hse2 : s.toList ≠ [] := by intro e; rw [e] at hse; cases hse
    have H0 := Lib.hid h0
    clear h0
    by_cases h20 : s.size ≤ 20
    · have hp : 0 < s.size := by have := H0.out; omega
      have CK := kindOf_any ((s[0]'hp).toNat : Nat) w (by omega) (by have := (s[0]'hp).toNat_lt; omega)
      have h2 := kindB_let ((s[0]'hp).toNat : Nat)
      rw [← headB_cons hp] at h2
      have CE := wordEnd_any s 0 w (by omega) (by omega)
      have hend := wordEnd_all s
      have hle := wordEnd_le s 0 (by omega)
      revert CK h2 CE hend hle
      generalize kindB ((s[0]'hp).toNat : Nat) = q
      generalize wordEnd s 0 = en
      intro CK h2 CE hend hle
      replace CK := Lib.hid CK; replace CE := Lib.hid CE
      have HEND := Lib.hid hend
      by_cases hq : q = 2
      · have eq : (q != 2) = false := by simpa using hq
        have hb := h2.1 hq
        have HB := Lib.hid hb
        clear h2 hq hb hend
        by_cases hlt : en < s.size
        · have hall : s.data.toList.all wordB = false := by
            cases h : s.data.toList.all wordB
            · rfl
            · have := HEND.out.2 h; omega
          have hr : r = false := by rw [← HR.out]; simp [isNameB, hall]
          subst hr
          clear hall
          go_enter Try.func69, Try.ntmps69
          go_wp2_with (first | (go_at_call 101; refine CK.out.mono ?_; rintro e w' ⟨rfl, rfl⟩) | (go_at_call 102; refine CE.out.mono ?_; rintro e w' ⟨rfl, rfl⟩))
          go_ret
          exact ⟨rfl, Below.refl _ _⟩
        · have hall : s.data.toList.all wordB = true := HEND.out.1 (by omega)
          have HK : r = !keyB s := by rw [← HR.out]; simp [isNameB, HB.out, hall, h20]
          replace HK := Lib.hid HK
          have CW := keywords_any w
          replace CW := Lib.hid CW
          have hk0 := Blk.new w 9 (keywords.map Value.string).toArray
          have hkb : Below w.heap.size w (w.alloc (.cells (keywords.map Value.string).toArray 9)) := (Below.refl _ _).alloc (Nat.le_refl _) _
          clear hall
          go_enter Try.func69, Try.ntmps69
          go_wp2_with (first | (go_at_call 101; refine CK.out.mono ?_; rintro e w' ⟨rfl, rfl⟩) | (go_at_call 102; refine CE.out.mono ?_; rintro e w' ⟨rfl, rfl⟩) | (go_at_call 103; refine CW.out.mono ?_; rintro e w' ⟨rfl, rfl⟩))
          revert hk0 hkb
          generalize w.alloc (.cells (keywords.map Value.string).toArray 9) = w3
          intro hk0 hkb
          clear CK CE CW
          go_loopg [4, 27] 29 (fun g _ i wv => ∃ k : Nat, k + g = 29 ∧ i = .int .i64 k ∧ Blk wv w.heap.size 9 (keywords.map Value.string).toArray ∧ Below w.heap.size w wv ∧ ((keywords.take k).any fun k => decide (s = k)) = false)
          case atStart => exact ⟨0, by omega, rfl, hk0, hkb, rfl⟩
          case round =>
            obtain ⟨k, hkg, rfl, hk, hbv, hno⟩ := hrel
            have HNO := Lib.hid hno
            have HKG := Lib.hid hkg
            have HKB := Lib.hid hk
            have hsz3 := hk.lt
            clear hk0 hkb hno hkg hk
            by_cases hlt2 : k < 29
            · obtain ⟨x, hx⟩ := get_of_lt (xs := keywords) (k := k) (by rw [keywords_len]; exact hlt2)
              have hc : wr.cell? ⟨w.heap.size, k, none⟩ = some (.string x) := by rw [HKB.out.cell]; simp [hx]
              have HX := Lib.hid hx
              clear hx
              by_cases he : s = x
              · have hbe : (x.toList == s.toList) = true := by rw [str_beq]; simpa using he.symm
                have HE := Lib.hid he
                clear he
                go_wp2
                go_ret
                exact ⟨ret_bool (by rw [HK.out, keyB_mem HX.out HE.out]; rfl), hbv⟩
              · have hbe : (x.toList == s.toList) = false := by rw [str_beq]; simpa using fun e => he e.symm
                have HE := Lib.hid he
                clear he
                go_wp2
                go_roundg (gk - 1)
                case rel => exact ⟨k + 1, by have := HKG.out; omega, by go_num, HKB.out, hbv, by rw [keyB_take HX.out, HNO.out]; simp [HE.out]⟩
                case measure => have := HKG.out; omega
            · go_wp2
              go_ret
              refine ⟨ret_bool ?_, hbv⟩
              have := HNO.out
              rw [List.take_of_length_le (by rw [keywords_len]; omega)] at this
              rw [HK.out, keyB, this]; rfl
      · have eq : (q != 2) = true := by simpa using hq
        have hb : headB s = false := by
          cases h : headB s
          · rfl
          · exact absurd (h2.2 h) hq
        have hr : r = false := by rw [← HR.out]; simp [isNameB, hb]
        subst hr
        clear h2 hq hb hend
        go_enter Try.func69, Try.ntmps69
        go_wp2_with (go_at_call 101; refine CK.out.mono ?_; rintro e w' ⟨rfl, rfl⟩)
        go_ret
        exact ⟨rfl, Below.refl _ _⟩
    · have hr : r = false := by rw [← HR.out]; simp [isNameB]; omega
      subst hr
      go_enter Try.func69, Try.ntmps69
      go_wp2
      go_ret
      exact ⟨rfl, Below.refl _ _⟩
end Go.Proofs.Ytmlldjcbijoheaa
