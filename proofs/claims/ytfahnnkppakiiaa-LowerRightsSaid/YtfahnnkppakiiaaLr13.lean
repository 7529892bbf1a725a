/- Walks: the functions that lower.check hands to slices.ContainsFunc; slices.IndexFunc and ContainsFunc with them. -/
import Derived.Test.YtfahnnkppakiiaaLr12
import Derived.Deep.LoopGhost

/- Walk: whether a string is a name, by the reference. -/
namespace Go.Proofs.Ytfahnnkppakiiaa
open Go.RowKit

theorem keyB_take {s : ByteArray} {k : Nat} {x : ByteArray} (h : keywords[k]? = some x) : ((keywords.take (k + 1)).any fun k => decide (s = k)) = (((keywords.take k).any fun k => decide (s = k)) || decide (s = x)) := by
  rw [take_more h, List.any_append]; simp
theorem keyB_mem {s x : ByteArray} {k : Nat} (h : keywords[k]? = some x) (e : s = x) : keyB s = true := by
  unfold keyB
  rw [List.any_eq_true]
  exact ⟨x, List.mem_of_getElem? h, by simp [e]⟩

set_option maxHeartbeats 1000000 in
theorem isName15_any (s : ByteArray) (w : World) (hs : s.size ≤ 9223372036854775807) :
    Calls Try.prog 72 #[.string s] w fun e w' => e = .returned (.bool (isNameB s)) ∧ Below w.heap.size w w' := by
  obtain ⟨r, hr⟩ : ∃ r, isNameB s = r := ⟨_, rfl⟩
  rw [hr]
  have HR := Lib.hid hr
  clear hr
  by_cases h0 : s.size = 0
  · have e := size_zero.1 h0
    subst e
    have hr : r = false := by rw [← HR.out]; exact isNameB_empty
    subst hr
    clear h0 hs
    go_enter Try.func72, Try.ntmps72
    go_wp2
    go_ret
    exact ⟨rfl, Below.refl _ _⟩
  · have hse : s.toList.isEmpty = false := by rw [str_isEmpty]; simp; exact fun e => h0 (size_zero.2 e)
    have hse2 : s.toList ≠ [] := by intro e; rw [e] at hse; cases hse
    have H0 := Lib.hid h0
    clear h0
    by_cases h20 : s.size ≤ 20
    · have hp : 0 < s.size := by have := H0.out; omega
      have CL := letter15_any ((s[0]'hp).toNat : Nat) w (by omega) (by have := (s[0]'hp).toNat_lt; omega)
      rw [← headB_cons hp] at CL
      obtain ⟨b, hb⟩ : ∃ b, headB s = b := ⟨_, rfl⟩
      rw [hb] at CL
      replace CL := Lib.hid CL
      have HB := Lib.hid hb
      clear hb
      cases b
      · have hr : r = false := by rw [← HR.out]; simp [isNameB, HB.out]
        subst hr
        go_enter Try.func72, Try.ntmps72
        go_wp2_with (go_at_call 107; refine CL.out.mono ?_; rintro e w' ⟨rfl, rfl⟩)
        go_ret
        exact ⟨rfl, Below.refl _ _⟩
      · go_enter Try.func72, Try.ntmps72
        go_wp2_with (go_at_call 107; refine CL.out.mono ?_; rintro e w' ⟨rfl, rfl⟩)
        have hi0 := World.iter_heap w s 0
        have hb0 : Below w.heap.size w (w.iter s 0) := (Below.refl _ w).alloc (Nat.le_refl _) _
        revert hi0 hb0
        generalize w.iter s 0 = w0
        intro hi0 hb0
        clear CL
        go_loopg [3] s.size (fun g _ wr => ∃ pos : Nat, pos + g = s.size ∧ Itr wr w.heap.size s pos ∧ Below w.heap.size w wr ∧ (s.data.toList.take pos).all wordB = true)
        case atStart => exact ⟨0, by omega, hi0, hb0, rfl⟩
        case round =>
          obtain ⟨pos, hpos, hi, hb, hall⟩ := hrel
          clear hi0 hb0
          have HA := Lib.hid hall
          have HP := Lib.hid hpos
          have hsz := hi.lt
          clear hall
          by_cases hlt : pos < s.size
          · obtain ⟨rr, n, hnx, hn1⟩ := run_next_any (P := Try.prog) wr w.heap.size s pos hi hlt
            have CL := fun W => letter15_any ((s[pos]'hlt).toNat : Nat) W (by omega) (by have := (s[pos]'hlt).toNat_lt; omega)
            have CD := fun W => digit15_any ((s[pos]'hlt).toNat : Nat) W (by omega) (by have := (s[pos]'hlt).toNat_lt; omega)
            have hw : wordB (s[pos]'hlt) = (letB ((s[pos]'hlt).toNat : Nat) || digB ((s[pos]'hlt).toNat : Nat)) := rfl
            have hasc : wordB (s[pos]'hlt) = true → (s[pos]'hlt).toNat < 128 := by
              intro h
              simp only [wordB, letB, digB, Bool.or_eq_true, decide_eq_true_eq] at h
              omega
            have hgl := get_list hlt
            have hnot : wordB (s[pos]'hlt) = false → isNameB s = false := by
              intro h
              have : s.data.toList.all wordB = false := by
                rw [List.all_eq_false]
                exact ⟨_, List.mem_of_getElem? hgl, by simp [h]⟩
              simp [isNameB, this]
            obtain ⟨bl, hbl⟩ : ∃ b, letB ((s[pos]'hlt).toNat : Nat) = b := ⟨_, rfl⟩
            obtain ⟨bd, hbd⟩ : ∃ b, digB ((s[pos]'hlt).toNat : Nat) = b := ⟨_, rfl⟩
            rw [hbl, hbd] at hw
            rw [hbl] at CL
            rw [hbd] at CD
            have HW := Lib.hid hw
            have HN1 := Lib.hid hn1
            have HASC := Lib.hid hasc
            have HNOT := Lib.hid hnot
            have HGL := Lib.hid hgl
            replace CL := Lib.hid CL
            replace CD := Lib.hid CD
            have hnb : Below w.heap.size w (setItr wr w.heap.size s (pos + n)) := below_setItr hb (Nat.le_refl _) _ _
            have hni : Itr (setItr wr w.heap.size s (pos + n)) w.heap.size s (pos + n) := hi.set _
            clear hw hn1 hasc hnot hgl hbl hbd hi hb hpos
            revert hnb hni hnx
            generalize setItr wr w.heap.size s (pos + n) = w2
            intro hnx hnb hni
            cases bl
            · cases bd
              · have hr : r = false := by rw [← HR.out]; exact HNOT.out HW.out
                subst hr
                go_wp2_with (first | (go_at_call 107; refine (CL.out _).mono ?_; rintro e w' ⟨rfl, rfl⟩) | (go_at_call 108; refine (CD.out _).mono ?_; rintro e w' ⟨rfl, rfl⟩))
                go_ret
                exact ⟨rfl, hnb⟩
              · go_wp2_with (first | (go_at_call 107; refine (CL.out _).mono ?_; rintro e w' ⟨rfl, rfl⟩) | (go_at_call 108; refine (CD.out _).mono ?_; rintro e w' ⟨rfl, rfl⟩))
                have e1 := HN1.out (HASC.out HW.out)
                subst e1
                go_roundg (gk - 1)
                case rel => exact ⟨pos + 1, by have := HP.out; omega, hni, hnb, by rw [take_more HGL.out, List.all_append, HA.out]; simp [HW.out]⟩
                case measure => have := HP.out; omega
            · go_wp2_with (first | (go_at_call 107; refine (CL.out _).mono ?_; rintro e w' ⟨rfl, rfl⟩) | (go_at_call 108; refine (CD.out _).mono ?_; rintro e w' ⟨rfl, rfl⟩))
              have hwt : wordB (s[pos]'hlt) = true := by rw [HW.out]; rfl
              have e1 := HN1.out (HASC.out hwt)
              subst e1
              go_roundg (gk - 1)
              case rel => exact ⟨pos + 1, by have := HP.out; omega, hni, hnb, by rw [take_more HGL.out, List.all_append, HA.out]; simp [hwt]⟩
              case measure => have := HP.out; omega
          · obtain ⟨wo, rfl⟩ : ∃ wo : World, wo = wr := ⟨_, rfl⟩
            have hnx := fun ty => run_next_stop (P := Try.prog) wo w.heap.size s pos ty hi hlt
            have hall : s.data.toList.all wordB = true := by
              have := HA.out
              rwa [List.take_of_length_le (by simp; omega)] at this
            have HALL := Lib.hid hall
            have HK : r = !keyB s := by rw [← HR.out]; simp [isNameB, HB.out, hall, h20]
            replace HK := Lib.hid HK
            have hk0 := Blk.new wo 9 (keywords.map Value.string).toArray
            have hkb : Below w.heap.size w (wo.alloc (.cells (keywords.map Value.string).toArray 9)) := hb.alloc hb.size _
            have CK := keywords15_any wo
            replace CK := Lib.hid CK
            clear hall hi hpos HA
            go_wp2_with (go_at_call 109; refine CK.out.mono ?_; rintro e w' ⟨rfl, rfl⟩)
            revert hk0 hkb
            generalize wo.alloc (.cells (keywords.map Value.string).toArray 9) = w3
            intro hk0 hkb
            clear CK
            go_loopg [5, 38] 29 (fun g _ i wv => ∃ k : Nat, k + g = 29 ∧ i = .int .i64 k ∧ Blk wv wo.heap.size 9 (keywords.map Value.string).toArray ∧ Below w.heap.size w wv ∧ ((keywords.take k).any fun k => decide (s = k)) = false)
            case atStart => exact ⟨0, by omega, rfl, hk0, hkb, rfl⟩
            case round =>
              obtain ⟨k, hkg, rfl, hk, hbv, hno⟩ := hrel
              have HNO := Lib.hid hno
              have HKG := Lib.hid hkg
              have HKB := Lib.hid hk
              have hsz3 := hk.lt
              clear hk0 hkb hno hkg hk
              by_cases hlt2 : k < 29
              · obtain ⟨x, hx⟩ := get_of_lt (xs := keywords) (k := k) (by rw [keywords_len]; exact hlt2)
                have hc : wr.cell? ⟨wo.heap.size, k, none⟩ = some (.string x) := by rw [HKB.out.cell]; simp [hx]
                have HX := Lib.hid hx
                clear hx
                by_cases he : s = x
                · have hbe : (s.toList == x.toList) = true := by rw [str_beq]; simpa using he
                  have HE := Lib.hid he
                  clear he
                  go_wp2
                  go_ret
                  exact ⟨ret_bool (by rw [HK.out, keyB_mem HX.out HE.out]; rfl), hbv⟩
                · have hbe : (s.toList == x.toList) = false := by rw [str_beq]; simpa using he
                  have HE := Lib.hid he
                  clear he
                  go_wp2
                  go_roundg (gk - 1)
                  case rel => exact ⟨k + 1, by have := HKG.out; omega, by go_num, HKB.out, hbv, by rw [keyB_take HX.out, HNO.out]; simp [HE.out]⟩
                  case measure => have := HKG.out; omega
              · go_wp2
                go_ret
                refine ⟨ret_bool ?_, hbv⟩
                have := HNO.out
                rw [List.take_of_length_le (by rw [keywords_len]; omega)] at this
                rw [HK.out, keyB, this]; rfl
    · have hr : r = false := by rw [← HR.out]; simp [isNameB]; omega
      subst hr
      go_enter Try.func72, Try.ntmps72
      go_wp2
      go_ret
      exact ⟨rfl, Below.refl _ _⟩
end Go.Proofs.Ytfahnnkppakiiaa

/- Walks: whether a string is a name, by the program. -/
namespace Go.Proofs.Ytfahnnkppakiiaa
open Go.RowKit

/-- the kind of a byte -/
def kindB (c : Int) : Int := if c = 32 ∨ c = 9 ∨ c = 13 ∨ c = 10 then 1 else if letB c = true then 2 else if digB c = true then 3 else if c = 40 ∨ c = 41 ∨ c = 44 ∨ c = 59 ∨ c = 47 ∨ c = 45 then 4 else if c = 58 then 5 else if c = 35 then 6 else 0
theorem kindB_let (c : Int) : (kindB c = 2) ↔ letB c = true := by
  unfold kindB letB
  constructor
  · intro h
    split at h
    · omega
    split at h
    · assumption
    split at h
    · omega
    split at h
    · omega
    split at h
    · omega
    split at h <;> omega
  · intro h
    simp only [decide_eq_true_eq] at h
    rw [if_neg (by omega), if_pos (by simpa using h)]
theorem kindB_dig (c : Int) : (kindB c = 3) ↔ digB c = true := by
  unfold kindB letB digB
  constructor
  · intro h
    split at h
    · omega
    split at h
    · omega
    split at h
    · assumption
    split at h
    · omega
    split at h
    · omega
    split at h <;> omega
  · intro h
    simp only [decide_eq_true_eq] at h
    rw [if_neg (by omega), if_neg (by simp only [decide_eq_true_eq]; omega), if_pos (by simpa using h)]
theorem eqb_no {a b : Int} (h : ¬ a = b) : (a == b) = false := by simpa using h
set_option maxHeartbeats 4000000 in
theorem kindOf_any (c : Int) (w : World) (h0 : 0 ≤ c) (h1 : c ≤ 255) :
    Calls Try.prog 103 #[.int .u8 c] w fun e w' => e = .returned (.int .i64 (kindB c)) ∧ w = w' := by
  by_cases hlit : c = 32 ∨ c = 9 ∨ c = 13 ∨ c = 10 ∨ c = 40 ∨ c = 41 ∨ c = 44 ∨ c = 59 ∨ c = 47 ∨ c = 45 ∨ c = 58 ∨ c = 35
  · clear h0 h1
    rcases hlit with rfl | rfl | rfl | rfl | rfl | rfl | rfl | rfl | rfl | rfl | rfl | rfl
    all_goals
      go_enter Try.func103, Try.ntmps103
      go_wp2
      go_ret
      exact ⟨ret_int (by decide), rfl⟩
  · have e1 := eqb_no (a := c) (b := 32) (by omega); have e2 := eqb_no (a := c) (b := 9) (by omega); have e3 := eqb_no (a := c) (b := 13) (by omega); have e4 := eqb_no (a := c) (b := 10) (by omega)
    have e5 := eqb_no (a := c) (b := 40) (by omega); have e6 := eqb_no (a := c) (b := 41) (by omega); have e7 := eqb_no (a := c) (b := 44) (by omega); have e8 := eqb_no (a := c) (b := 59) (by omega)
    have e9 := eqb_no (a := c) (b := 47) (by omega); have e10 := eqb_no (a := c) (b := 45) (by omega); have e11 := eqb_no (a := c) (b := 58) (by omega); have e12 := eqb_no (a := c) (b := 35) (by omega)
    obtain ⟨r, hr⟩ : ∃ r, kindB c = r := ⟨_, rfl⟩
    have hr2 := hr
    unfold kindB letB digB at hr2
    rw [hr]
    have HR := Lib.hid hr2
    have HLIT := Lib.hid hlit
    clear hr hr2 hlit
    have hc : c < 48 ∨ (48 ≤ c ∧ c ≤ 57) ∨ (58 ≤ c ∧ c < 65) ∨ (65 ≤ c ∧ c ≤ 90) ∨ (91 ≤ c ∧ c < 97) ∨ (97 ≤ c ∧ c ≤ 122) ∨ 122 < c := by omega
    rcases hc with hc | ⟨hc, hd⟩ | ⟨hc, hd⟩ | ⟨hc, hd⟩ | ⟨hc, hd⟩ | ⟨hc, hd⟩ | hc
    all_goals
      go_enter Try.func103, Try.ntmps103
      go_wp2
      go_ret
      refine ⟨ret_int ?_, rfl⟩
      rw [← HR.out]
      have hl := HLIT.out
      simp only [decide_eq_true_eq]
      repeat (first | rw [if_neg (by omega)] | rw [if_pos (by omega)])

/-- the first byte at or behind k that is neither a letter nor a digit -/
def wordEnd (s : ByteArray) (k : Nat) : Nat := k + ((s.data.toList.drop k).takeWhile wordB).length
theorem wordEnd_yes {s : ByteArray} {k : Nat} (h : k < s.size) (hw : wordB (s[k]'h) = true) : wordEnd s k = wordEnd s (k + 1) := by
  have hg := get_list h
  have hk : k < s.data.toList.length := by simpa using h
  unfold wordEnd
  rw [List.drop_eq_getElem_cons hk]
  have e : s.data.toList[k] = s[k]'h := by rw [List.getElem?_eq_getElem hk] at hg; exact Option.some.inj hg
  rw [e, List.takeWhile_cons, if_pos hw, List.length_cons]
  omega
theorem wordEnd_no {s : ByteArray} {k : Nat} (h : k < s.size) (hw : wordB (s[k]'h) = false) : wordEnd s k = k := by
  have hg := get_list h
  have hk : k < s.data.toList.length := by simpa using h
  unfold wordEnd
  rw [List.drop_eq_getElem_cons hk]
  have e : s.data.toList[k] = s[k]'h := by rw [List.getElem?_eq_getElem hk] at hg; exact Option.some.inj hg
  rw [e, List.takeWhile_cons, if_neg (by simp [hw])]
  rfl
theorem wordEnd_end {s : ByteArray} {k : Nat} (h : ¬ k < s.size) : wordEnd s k = k := by
  unfold wordEnd
  rw [List.drop_eq_nil_of_le (by simp; omega)]
  rfl
theorem wordEnd_all (s : ByteArray) : wordEnd s 0 = s.size ↔ s.data.toList.all wordB = true := by
  unfold wordEnd
  have hl : s.data.toList.length = s.size := by simp
  rw [List.drop_zero, Nat.zero_add, ← hl]
  generalize s.data.toList = l
  induction l with
  | nil => simp
  | cons x l ih =>
    rw [List.takeWhile_cons, List.all_cons]
    cases hw : wordB x
    · simp
    · simp [ih]
theorem wordEnd_le (s : ByteArray) (k : Nat) (h : k ≤ s.size) : wordEnd s k ≤ s.size := by
  unfold wordEnd
  have := (List.takeWhile_prefix wordB (l := s.data.toList.drop k)).length_le
  have hl : s.data.toList.length = s.size := by simp
  rw [List.length_drop, hl] at this
  omega
set_option maxHeartbeats 2000000 in
theorem wordEnd_any (s : ByteArray) (k0 : Nat) (w : World) (hs : s.size ≤ 9223372036854775806) (hk0 : k0 ≤ s.size) :
    Calls Try.prog 104 #[.string s, .int .i64 k0, .bool true] w fun e w' => e = .returned (.int .i64 (wordEnd s k0 : Nat)) ∧ w = w' := by
  obtain ⟨r, hr⟩ : ∃ r, wordEnd s k0 = r := ⟨_, rfl⟩
  rw [hr]
  have HR := Lib.hid hr
  clear hr
  go_enter Try.func104, Try.ntmps104
  go_wp2
  go_loop [1] (fun q => ∃ k : Nat, k ≤ s.size ∧ q = .int .i64 k ∧ Hid (wordEnd s k = r)) (fun q => s.size - (intOf q).toNat)
  case atStart => exact ⟨k0, hk0, rfl, HR.out⟩
  case round =>
    obtain ⟨k, hk, rfl, hw⟩ := hrel
    by_cases hlt : k < s.size
    · have C := kindOf_any ((s[k]'hlt).toNat : Nat) w (by omega) (by have := (s[k]'hlt).toNat_lt; omega)
      have h2 := kindB_let ((s[k]'hlt).toNat : Nat)
      have h3 := kindB_dig ((s[k]'hlt).toNat : Nat)
      have hwb : wordB (s[k]'hlt) = (letB ((s[k]'hlt).toNat : Nat) || digB ((s[k]'hlt).toNat : Nat)) := rfl
      have hy := fun h => wordEnd_yes hlt h
      have hn := fun h => wordEnd_no hlt h
      revert C h2 h3
      generalize kindB ((s[k]'hlt).toNat : Nat) = q
      intro C h2 h3
      replace C := Lib.hid C
      by_cases hq3 : q = 3
      · have e3 : (q == 3) = true := by simpa using hq3
        have hnx : wordEnd s (k + 1) = r := by rw [← hy (by rw [hwb, h3.1 hq3]; simp)]; exact hw.out
        have HNX := Lib.hid hnx
        clear hq3 h2 h3 hwb hy hn hnx
        go_wp2_with (go_at_call 103; refine C.out.mono ?_; rintro e w' ⟨rfl, rfl⟩)
        go_round
        case rel => exact ⟨k + 1, by omega, by go_num, HNX.out⟩
        case measure => simp [intOf]; omega
      · have e3 : (q == 3) = false := by simpa using hq3
        by_cases hq2 : q = 2
        · have e2 : (q == 2) = true := by simpa using hq2
          have hnx : wordEnd s (k + 1) = r := by rw [← hy (by rw [hwb, h2.1 hq2]; simp)]; exact hw.out
          have HNX := Lib.hid hnx
          clear hq3 hq2 h2 h3 hwb hy hn hnx
          go_wp2_with (go_at_call 103; refine C.out.mono ?_; rintro e w' ⟨rfl, rfl⟩)
          go_round
          case rel => exact ⟨k + 1, by omega, by go_num, HNX.out⟩
          case measure => simp [intOf]; omega
        · have e2 : (q == 2) = false := by simpa using hq2
          have hfin : k = r := by
            rw [← hw.out, hn]
            rw [hwb]
            have n2 : letB ((s[k]'hlt).toNat : Nat) = false := by
              cases hb : letB ((s[k]'hlt).toNat : Nat)
              · rfl
              · exact absurd (h2.2 hb) hq2
            have n3 : digB ((s[k]'hlt).toNat : Nat) = false := by
              cases hb : digB ((s[k]'hlt).toNat : Nat)
              · rfl
              · exact absurd (h3.2 hb) hq3
            rw [n2, n3]; rfl
          have HF := Lib.hid hfin
          clear hq3 hq2 h2 h3 hwb hy hn hfin
          go_wp2_with (go_at_call 103; refine C.out.mono ?_; rintro e w' ⟨rfl, rfl⟩)
          go_ret
          exact ⟨ret_int (by have := HF.out; omega), rfl⟩
    · have hfin : k = r := by rw [← hw.out, wordEnd_end hlt]
      have HF := Lib.hid hfin
      clear hfin
      go_wp2
      go_ret
      exact ⟨ret_int (by have := HF.out; omega), rfl⟩

set_option maxHeartbeats 2000000 in
theorem isName_any (s : ByteArray) (w : World) (hs : s.size ≤ 9223372036854775807) :
    Calls Try.prog 66 #[.string s] w fun e w' => e = .returned (.bool (isNameB s)) ∧ Below w.heap.size w w' := by
  obtain ⟨r, hr⟩ : ∃ r, isNameB s = r := ⟨_, rfl⟩
  rw [hr]
  have HR := Lib.hid hr
  clear hr
  by_cases h0 : s.size = 0
  · have e := size_zero.1 h0
    subst e
    have hr : r = false := by rw [← HR.out]; exact isNameB_empty
    subst hr
    clear h0 hs
    go_enter Try.func66, Try.ntmps66
    go_wp2
    go_ret
    exact ⟨rfl, Below.refl _ _⟩
  · have hse : s.toList.isEmpty = false := by rw [str_isEmpty]; simp; exact fun e => h0 (size_zero.2 e)
    have hse2 : s.toList ≠ [] := by intro e; rw [e] at hse; cases hse
    have H0 := Lib.hid h0
    clear h0
    by_cases h20 : s.size ≤ 20
    · have hp : 0 < s.size := by have := H0.out; omega
      have CK := kindOf_any ((s[0]'hp).toNat : Nat) w (by omega) (by have := (s[0]'hp).toNat_lt; omega)
      have h2 := kindB_let ((s[0]'hp).toNat : Nat)
      rw [← headB_cons hp] at h2
      have CE := wordEnd_any s 0 w (by omega) (by omega)
      have hend := wordEnd_all s
      have hle := wordEnd_le s 0 (by omega)
      revert CK h2 CE hend hle
      generalize kindB ((s[0]'hp).toNat : Nat) = q
      generalize wordEnd s 0 = en
      intro CK h2 CE hend hle
      replace CK := Lib.hid CK; replace CE := Lib.hid CE
      have HEND := Lib.hid hend
      by_cases hq : q = 2
      · have eq : (q != 2) = false := by simpa using hq
        have hb := h2.1 hq
        have HB := Lib.hid hb
        clear h2 hq hb hend
        by_cases hlt : en < s.size
        · have hall : s.data.toList.all wordB = false := by
            cases h : s.data.toList.all wordB
            · rfl
            · have := HEND.out.2 h; omega
          have hr : r = false := by rw [← HR.out]; simp [isNameB, hall]
          subst hr
          clear hall
          go_enter Try.func66, Try.ntmps66
          go_wp2_with (first | (go_at_call 103; refine CK.out.mono ?_; rintro e w' ⟨rfl, rfl⟩) | (go_at_call 104; refine CE.out.mono ?_; rintro e w' ⟨rfl, rfl⟩))
          go_ret
          exact ⟨rfl, Below.refl _ _⟩
        · have hall : s.data.toList.all wordB = true := HEND.out.1 (by omega)
          have HK : r = !keyB s := by rw [← HR.out]; simp [isNameB, HB.out, hall, h20]
          replace HK := Lib.hid HK
          have CW := keywords_any w
          replace CW := Lib.hid CW
          have hk0 := Blk.new w 9 (keywords.map Value.string).toArray
          have hkb : Below w.heap.size w (w.alloc (.cells (keywords.map Value.string).toArray 9)) := (Below.refl _ _).alloc (Nat.le_refl _) _
          clear hall
          go_enter Try.func66, Try.ntmps66
          go_wp2_with (first | (go_at_call 103; refine CK.out.mono ?_; rintro e w' ⟨rfl, rfl⟩) | (go_at_call 104; refine CE.out.mono ?_; rintro e w' ⟨rfl, rfl⟩) | (go_at_call 105; refine CW.out.mono ?_; rintro e w' ⟨rfl, rfl⟩))
          revert hk0 hkb
          generalize w.alloc (.cells (keywords.map Value.string).toArray 9) = w3
          intro hk0 hkb
          clear CK CE CW
          go_loopg [4, 27] 29 (fun g _ i wv => ∃ k : Nat, k + g = 29 ∧ i = .int .i64 k ∧ Blk wv w.heap.size 9 (keywords.map Value.string).toArray ∧ Below w.heap.size w wv ∧ ((keywords.take k).any fun k => decide (s = k)) = false)
          case atStart => exact ⟨0, by omega, rfl, hk0, hkb, rfl⟩
          case round =>
            obtain ⟨k, hkg, rfl, hk, hbv, hno⟩ := hrel
            have HNO := Lib.hid hno
            have HKG := Lib.hid hkg
            have HKB := Lib.hid hk
            have hsz3 := hk.lt
            clear hk0 hkb hno hkg hk
            by_cases hlt2 : k < 29
            · obtain ⟨x, hx⟩ := get_of_lt (xs := keywords) (k := k) (by rw [keywords_len]; exact hlt2)
              have hc : wr.cell? ⟨w.heap.size, k, none⟩ = some (.string x) := by rw [HKB.out.cell]; simp [hx]
              have HX := Lib.hid hx
              clear hx
              by_cases he : s = x
              · have hbe : (x.toList == s.toList) = true := by rw [str_beq]; simpa using he.symm
                have HE := Lib.hid he
                clear he
                go_wp2
                go_ret
                exact ⟨ret_bool (by rw [HK.out, keyB_mem HX.out HE.out]; rfl), hbv⟩
              · have hbe : (x.toList == s.toList) = false := by rw [str_beq]; simpa using fun e => he e.symm
                have HE := Lib.hid he
                clear he
                go_wp2
                go_roundg (gk - 1)
                case rel => exact ⟨k + 1, by have := HKG.out; omega, by go_num, HKB.out, hbv, by rw [keyB_take HX.out, HNO.out]; simp [HE.out]⟩
                case measure => have := HKG.out; omega
            · go_wp2
              go_ret
              refine ⟨ret_bool ?_, hbv⟩
              have := HNO.out
              rw [List.take_of_length_le (by rw [keywords_len]; omega)] at this
              rw [HK.out, keyB, this]; rfl
      · have eq : (q != 2) = true := by simpa using hq
        have hb : headB s = false := by
          cases h : headB s
          · rfl
          · exact absurd (h2.2 h) hq
        have hr : r = false := by rw [← HR.out]; simp [isNameB, hb]
        subst hr
        clear h2 hq hb hend
        go_enter Try.func66, Try.ntmps66
        go_wp2_with (go_at_call 103; refine CK.out.mono ?_; rintro e w' ⟨rfl, rfl⟩)
        go_ret
        exact ⟨rfl, Below.refl _ _⟩
    · have hr : r = false := by rw [← HR.out]; simp [isNameB]; omega
      subst hr
      go_enter Try.func66, Try.ntmps66
      go_wp2
      go_ret
      exact ⟨rfl, Below.refl _ _⟩
end Go.Proofs.Ytfahnnkppakiiaa

/- Walks: the functions that lower.check hands to slices.ContainsFunc; slices.IndexFunc and ContainsFunc with them. -/
namespace Go.Proofs.Ytfahnnkppakiiaa
open Go.RowKit

/-- the number of the first element, from i on, of which p holds -/
def idxB {α : Type} (p : α → Bool) (i : Nat) : List α → Int
  | [] => -1
  | s :: r => if p s = true then (i : Int) else idxB p (i + 1) r
theorem idxB_at {α : Type} {p : α → Bool} {l : List α} {k : Nat} {x : α} (h : l[k]? = some x) : idxB p k (l.drop k) = if p x = true then (k : Int) else idxB p (k + 1) (l.drop (k + 1)) := by
  have hk := lt_of_get h
  rw [List.drop_eq_getElem_cons hk]
  have : l[k] = x := by rw [List.getElem?_eq_getElem hk] at h; exact Option.some.inj h
  rw [this, idxB]
theorem idxB_any {α : Type} (p : α → Bool) : ∀ (l : List α) (i : Nat), decide (0 ≤ idxB p i l) = l.any p
  | [], i => by simp [idxB]
  | x :: r, i => by
    have ih := idxB_any p r (i + 1)
    rw [idxB, List.any_cons]
    by_cases h : p x = true
    · rw [if_pos h, h]; simp
    · rw [if_neg h, ih]; simp [h]
theorem SlR.taken {α : Type} {sz : Nat} {E : World → Nat → Nat → α → Prop} {w : World} {a : Option Addr} {c : Nat} {l : List α} (h : SlR sz E w a c l) (k : Nat) : SlR sz E w a c (l.take k) := by
  refine ⟨by have := h.1; simp; omega, h.2.1, fun j x hx => ?_⟩
  rw [List.getElem?_take] at hx
  split at hx
  · exact h.2.2 j x hx
  · cases hx

set_option maxHeartbeats 1000000 in
theorem badL_any (a : Int) (i g : Nat) (w : World) (hg : w.cell? ⟨g, 0, none⟩ = some (.int .i64 i)) :
    Calls Try.prog 64 #[.int .i64 a, .pointer (some ⟨g, 0, none⟩)] w fun r w' => r = .returned (.bool (badArg i a)) ∧ w = w' := by
  unfold badArg
  by_cases h0 : a < 0
  · have hr : decide (a < 0 ∨ (i : Int) ≤ a) = true := by simp [h0]
    rw [hr]
    clear hr
    go_enter Try.func64, Try.ntmps64
    go_wp2
    go_ret
    exact ⟨rfl, rfl⟩
  · have hr : decide (a < 0 ∨ (i : Int) ≤ a) = decide ((i : Int) ≤ a) := by simp [h0]
    rw [hr]
    clear hr
    go_enter Try.func64, Try.ntmps64
    go_wp2
    go_ret
    exact ⟨rfl, rfl⟩
set_option maxRecDepth 100000 in
set_option maxHeartbeats 4000000 in
theorem indexBad_any (l : List Int) (i g : Nat) (la : Option Addr) (lc : Nat) (w : World) (h : IntsR w la lc l) (hg : w.cell? ⟨g, 0, none⟩ = some (.int .i64 i)) :
    Calls Try.prog 102 #[.slice la l.length lc, .func (Fn.func 64) #[] #[.pointer (some ⟨g, 0, none⟩)]] w fun r w' => r = .returned (.int .i64 (idxB (badArg i) 0 l)) ∧ w = w' := by
  have HL := Lib.hid h
  have HG := Lib.hid hg
  have hll := h.len
  obtain ⟨R, hR⟩ : ∃ q, idxB (badArg i) 0 l = q := ⟨_, rfl⟩
  rw [hR]
  have HR : Hid (idxB (badArg i) 0 (l.drop 0) = R) := Lib.hid hR
  clear h hR hg
  go_enter Try.func102, Try.ntmps102
  go_wp2
  obtain ⟨wo, rfl⟩ : ∃ wo : World, wo = w := ⟨_, rfl⟩
  go_loopg [5, 8] l.length (fun m _ q wr => ∃ k : Nat, k + m = l.length ∧ q = .int .i64 k ∧ wo = wr ∧ idxB (badArg i) k (l.drop k) = R)
  case atStart => exact ⟨0, by omega, rfl, rfl, HR.out⟩
  case round =>
    obtain ⟨k, hkg, rfl, rfl, ha⟩ := hrel
    have HKG := Lib.hid hkg
    have HA := Lib.hid ha
    clear hkg ha
    by_cases hlt : k < l.length
    · obtain ⟨x, hx⟩ := get_of_lt hlt
      obtain ⟨bx, ox, rfl, hcx⟩ := HL.out.2.2 k x hx
      have u0 : wo.cell? ⟨bx, ox + k, none⟩ = some (.int .i64 x) := by simpa [IntE] using hcx.1
      have hax := HA.out
      rw [idxB_at hx] at hax
      have CD := badL_any x i g wo HG.out
      obtain ⟨bv, hb⟩ : ∃ q, badArg i x = q := ⟨_, rfl⟩
      rw [hb] at CD hax
      have HAX := Lib.hid hax
      replace CD := Lib.hid CD
      clear hx hcx hax hb HA
      go_wp2_with fail
      refine CD.out.mono ?_
      rintro r w1 ⟨rfl, rfl⟩
      clear CD u0
      cases bv
      · have HAX2 : Hid (idxB (badArg i) (k + 1) (l.drop (k + 1)) = R) := Lib.hid (by simpa using HAX.out)
        clear HAX
        go_wp2
        go_roundg (gk - 1)
        case rel => exact ⟨k + 1, by have := HKG.out; omega, by go_num, rfl, HAX2.out⟩
        case measure => have := HKG.out; omega
      · have hkR : (k : Int) = R := by simpa using HAX.out
        subst hkR
        clear HAX
        go_wp2
        go_ret
        exact ⟨rfl, rfl⟩
    · have hr : (-1 : Int) = R := by rw [← HA.out, List.drop_eq_nil_of_le (by omega)]; rfl
      subst hr
      go_wp2
      go_ret
      exact ⟨rfl, rfl⟩
set_option maxRecDepth 100000 in
set_option maxHeartbeats 1000000 in
theorem anyBad_any (l : List Int) (i g : Nat) (la : Option Addr) (lc : Nat) (w : World) (h : IntsR w la lc l) (hg : w.cell? ⟨g, 0, none⟩ = some (.int .i64 i)) :
    Calls Try.prog 63 #[.slice la l.length lc, .func (Fn.func 64) #[] #[.pointer (some ⟨g, 0, none⟩)]] w fun r w' => r = .returned (.bool (l.any (badArg i))) ∧ w = w' := by
  have CI := indexBad_any l i g la lc w h hg
  have hf := idxB_any (badArg i) l 0
  revert CI hf
  generalize idxB (badArg i) 0 l = q
  intro CI hf
  rw [← hf]
  clear h hf hg
  replace CI := Lib.hid CI
  go_enter Try.func63, Try.ntmps63
  go_wp2_with fail
  refine CI.out.mono ?_
  rintro e w1 ⟨rfl, rfl⟩
  go_wp2
  go_ret
  exact ⟨rfl, rfl⟩

set_option maxRecDepth 100000 in
set_option maxHeartbeats 1000000 in
theorem sameL_any (s : Step) (p : RA) (n : ByteArray) (g : Nat) (w : World) (hg : w.cell? ⟨g, 1, none⟩ = some (.string n)) :
    Calls Try.prog 68 #[s.val p.aa p.ac p.na p.nc p.da p.dc, .pointer (some ⟨g, 0, none⟩)] w fun r w' => r = .returned (.bool (decide (s.point = n))) ∧ Below w.heap.size w w' := by
  unfold Step.val
  have hb0 : Below w.heap.size w (w.alloc (.cells #[.int .i64 s.kind, .string s.point, .slice p.aa s.args.length p.ac, .bool s.ratio.neg, .slice p.na s.ratio.num.length p.nc, .slice p.da s.ratio.den.length p.dc] 60)) := (Below.refl _ _).alloc (Nat.le_refl _) _
  have hk := held hg
  have hgl : g < w.heap.size := World.block_lt_of_cell? w _ hg
  have hgl2 : g < w.heap.size + 1 := by omega
  obtain ⟨b, hb⟩ : ∃ b, (s.point.toList == n.toList) = b := ⟨_, rfl⟩
  have hb2 := str_beq s.point n
  rw [hb] at hb2
  rw [← hb2]
  clear hb2
  go_enter Try.func68, Try.ntmps68
  go_wp2
  go_ret
  exact ⟨rfl, hb0⟩
set_option maxRecDepth 100000 in
set_option maxHeartbeats 4000000 in
theorem indexSame_any (l : List Step) (n : ByteArray) (g : Nat) (la : Option Addr) (lc : Nat) (w : World) (h : StepsR w la lc l) (hg : w.cell? ⟨g, 1, none⟩ = some (.string n)) :
    Calls Try.prog 106 #[.slice la l.length lc, .func (Fn.func 68) #[] #[.pointer (some ⟨g, 0, none⟩)]] w fun r w' => r = .returned (.int .i64 (idxB (fun t : Step => decide (t.point = n)) 0 l)) ∧ Below w.heap.size w w' := by
  have HL := Lib.hid h
  have hll := h.len
  obtain ⟨R, hR⟩ : ∃ q, idxB (fun t : Step => decide (t.point = n)) 0 l = q := ⟨_, rfl⟩
  rw [hR]
  have HR : Hid (idxB (fun t : Step => decide (t.point = n)) 0 (l.drop 0) = R) := Lib.hid hR
  have HG := Lib.hid hg
  clear h hR hg
  go_enter Try.func106, Try.ntmps106
  go_wp2
  obtain ⟨wo, rfl⟩ : ∃ wo : World, wo = w := ⟨_, rfl⟩
  go_loopg [5, 8] l.length (fun m _ q wr => ∃ k : Nat, k + m = l.length ∧ q = .int .i64 k ∧ Below wo.heap.size wo wr ∧ idxB (fun t : Step => decide (t.point = n)) k (l.drop k) = R)
  case atStart => exact ⟨0, by omega, rfl, Below.refl _ _, HR.out⟩
  case round =>
    obtain ⟨k, hkg, rfl, hwr, ha⟩ := hrel
    have HKG := Lib.hid hkg
    have HA := Lib.hid ha
    clear hkg ha
    by_cases hlt : k < l.length
    · obtain ⟨x, hx⟩ := get_of_lt hlt
      obtain ⟨bx, ox, rfl, p, hC, hP, _, _⟩ := (HL.out.ext (Ext.below hwr)).2.2 k x hx
      obtain ⟨c0, c1, c2, c3, c4, c5⟩ := hC
      have hax := HA.out
      rw [idxB_at hx] at hax
      have CD := sameL_any x p n g wr (Ext.below hwr _ _ HG.out)
      obtain ⟨b, hb⟩ : ∃ q, decide (x.point = n) = q := ⟨_, rfl⟩
      rw [hb] at CD hax
      unfold Step.val at CD
      have HAX := Lib.hid hax
      replace CD := Lib.hid CD
      clear hx hP hax hb HA
      go_wp2_with fail
      refine CD.out.mono ?_
      rintro r w1 ⟨rfl, hb1⟩
      have hw1 := below_then hwr hb1
      clear c0 c1 c2 c3 c4 c5 CD
      cases b
      · have HAX2 : Hid (idxB (fun t : Step => decide (t.point = n)) (k + 1) (l.drop (k + 1)) = R) := Lib.hid (by simpa using HAX.out)
        clear HAX
        go_wp2
        go_roundg (gk - 1)
        case rel => exact ⟨k + 1, by have := HKG.out; omega, by go_num, hw1, HAX2.out⟩
        case measure => have := HKG.out; omega
      · have hkR : (k : Int) = R := by simpa using HAX.out
        subst hkR
        clear HAX
        go_wp2
        go_ret
        exact ⟨rfl, hw1⟩
    · have hr : (-1 : Int) = R := by rw [← HA.out, List.drop_eq_nil_of_le (by omega)]; rfl
      subst hr
      go_wp2
      go_ret
      exact ⟨rfl, hwr⟩
set_option maxRecDepth 100000 in
set_option maxHeartbeats 1000000 in
theorem anySame_any (l : List Step) (n : ByteArray) (g : Nat) (la : Option Addr) (lc : Nat) (w : World) (h : StepsR w la lc l) (hg : w.cell? ⟨g, 1, none⟩ = some (.string n)) :
    Calls Try.prog 67 #[.slice la l.length lc, .func (Fn.func 68) #[] #[.pointer (some ⟨g, 0, none⟩)]] w fun r w' => r = .returned (.bool (l.any fun t => decide (t.point = n))) ∧ Below w.heap.size w w' := by
  have CI := indexSame_any l n g la lc w h hg
  have hf := idxB_any (fun t : Step => decide (t.point = n)) l 0
  revert CI hf
  generalize idxB (fun t : Step => decide (t.point = n)) 0 l = q
  intro CI hf
  rw [← hf]
  clear h hf hg
  replace CI := Lib.hid CI
  go_enter Try.func67, Try.ntmps67
  go_wp2_with fail
  refine CI.out.mono ?_
  rintro e w1 ⟨rfl, hb1⟩
  go_wp2
  go_ret
  exact ⟨rfl, hb1⟩
end Go.Proofs.Ytfahnnkppakiiaa
