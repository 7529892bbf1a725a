/- Walk: whether a string is a name, by the reference. -/
import Derived.Test.YtmlldjcbijoheaaName
import Derived.Deep.LoopGhost
namespace Go.Proofs.Ytmlldjcbijoheaa
open Go.RowKit

theorem keyB_take {s : ByteArray} {k : Nat} {x : ByteArray} (h : keywords[k]? = some x) : ((keywords.take (k + 1)).any fun k => decide (s = k)) = (((keywords.take k).any fun k => decide (s = k)) || decide (s = x)) := by
  rw [take_more h, List.any_append]; simp
theorem keyB_mem {s x : ByteArray} {k : Nat} (h : keywords[k]? = some x) (e : s = x) : keyB s = true := by
  unfold keyB
  rw [List.any_eq_true]
  exact ⟨x, List.mem_of_getElem? h, by simp [e]⟩

set_option maxHeartbeats 1000000 in
theorem isName15_any (s : ByteArray) (w : World) (hs : s.size ≤ 9223372036854775807) :
    Calls Try.prog 72 #[.string s] w fun e w' => e = .returned (.bool (isNameB s)) ∧ Below w.heap.size w w' := by
  obtain ⟨r, hr⟩ : ∃ r, isNameB s = r := ⟨_, rfl⟩
  rw [hr]
  have HR := Lib.hid hr
  clear hr
  by_cases h0 : s.size = 0
  · have e := size_zero.1 h0
    subst e
    have hr : r = false := by rw [← HR.out]; exact isNameB_empty
    subst hr
    clear h0 hs
    go_enter Try.func72, Try.ntmps72
    go_wp2
    go_ret
    exact ⟨rfl, Below.refl _ _⟩
  · have hse : s.toList.isEmpty = false := by rw [str_isEmpty]; simp; exact fun e => h0 (size_zero.2 e)
    have hse2 : s.toList ≠ [] := by intro e; rw [e] at hse; cases hse
    have H0 := Lib.hid h0
    clear h0
    by_cases h20 : s.size ≤ 20
    · have hp : 0 < s.size := by have := H0.out; omega
      have CL := letter15_any ((s[0]'hp).toNat : Nat) w (by omega) (by have := (s[0]'hp).toNat_lt; omega)
      rw [← headB_cons hp] at CL
      obtain ⟨b, hb⟩ : ∃ b, headB s = b := ⟨_, rfl⟩
      rw [hb] at CL
      replace CL := Lib.hid CL
      have HB := Lib.hid hb
      clear hb
      cases b
      · have hr : r = false := by rw [← HR.out]; simp [isNameB, HB.out]
        subst hr
        go_enter Try.func72, Try.ntmps72
        go_wp2_with (go_at_call 104; refine CL.out.mono ?_; rintro e w' ⟨rfl, rfl⟩)
        go_ret
        exact ⟨rfl, Below.refl _ _⟩
      · go_enter Try.func72, Try.ntmps72
        go_wp2_with (go_at_call 104; refine CL.out.mono ?_; rintro e w' ⟨rfl, rfl⟩)
        have hi0 := World.iter_heap w s 0
        have hb0 : Below w.heap.size w (w.iter s 0) := (Below.refl _ w).alloc (Nat.le_refl _) _
        revert hi0 hb0
        generalize w.iter s 0 = w0
        intro hi0 hb0
        clear CL
        go_loopg [3] s.size (fun g _ wr => ∃ pos : Nat, pos + g = s.size ∧ Itr wr w.heap.size s pos ∧ Below w.heap.size w wr ∧ (s.data.toList.take pos).all wordB = true)
        case atStart => exact ⟨0, by omega, hi0, hb0, rfl⟩
        case round =>
          obtain ⟨pos, hpos, hi, hb, hall⟩ := hrel
          clear hi0 hb0
          have HA := Lib.hid hall
          have HP := Lib.hid hpos
          have hsz := hi.lt
          clear hall
          by_cases hlt : pos < s.size
          · obtain ⟨rr, n, hnx, hn1⟩ := run_next_any (P := Try.prog) wr w.heap.size s pos hi hlt
            have CL := fun W => letter15_any ((s[pos]'hlt).toNat : Nat) W (by omega) (by have := (s[pos]'hlt).toNat_lt; omega)
            have CD := fun W => digit15_any ((s[pos]'hlt).toNat : Nat) W (by omega) (by have := (s[pos]'hlt).toNat_lt; omega)
            have hw : wordB (s[pos]'hlt) = (letB ((s[pos]'hlt).toNat : Nat) || digB ((s[pos]'hlt).toNat : Nat)) := rfl
            have hasc : wordB (s[pos]'hlt) = true → (s[pos]'hlt).toNat < 128 := by
              intro h
              simp only [wordB, letB, digB, Bool.or_eq_true, decide_eq_true_eq] at h
              omega
            have hgl := get_list hlt
            have hnot : wordB (s[pos]'hlt) = false → isNameB s = false := by
              intro h
              have : s.data.toList.all wordB = false := by
                rw [List.all_eq_false]
                exact ⟨_, List.mem_of_getElem? hgl, by simp [h]⟩
              simp [isNameB, this]
            obtain ⟨bl, hbl⟩ : ∃ b, letB ((s[pos]'hlt).toNat : Nat) = b := ⟨_, rfl⟩
            obtain ⟨bd, hbd⟩ : ∃ b, digB ((s[pos]'hlt).toNat : Nat) = b := ⟨_, rfl⟩
            rw [hbl, hbd] at hw
            rw [hbl] at CL
            rw [hbd] at CD
            have HW := Lib.hid hw
            have HN1 := Lib.hid hn1
            have HASC := Lib.hid hasc
            have HNOT := Lib.hid hnot
            have HGL := Lib.hid hgl
            replace CL := Lib.hid CL
            replace CD := Lib.hid CD
            have hnb : Below w.heap.size w (setItr wr w.heap.size s (pos + n)) := below_setItr hb (Nat.le_refl _) _ _
            have hni : Itr (setItr wr w.heap.size s (pos + n)) w.heap.size s (pos + n) := hi.set _
            clear hw hn1 hasc hnot hgl hbl hbd hi hb hpos
            revert hnb hni hnx
            generalize setItr wr w.heap.size s (pos + n) = w2
            intro hnx hnb hni
            cases bl
            · cases bd
              · have hr : r = false := by rw [← HR.out]; exact HNOT.out HW.out
                subst hr
                go_wp2_with (first | (go_at_call 104; refine (CL.out _).mono ?_; rintro e w' ⟨rfl, rfl⟩) | (go_at_call 105; refine (CD.out _).mono ?_; rintro e w' ⟨rfl, rfl⟩))
                go_ret
                exact ⟨rfl, hnb⟩
              · go_wp2_with (first | (go_at_call 104; refine (CL.out _).mono ?_; rintro e w' ⟨rfl, rfl⟩) | (go_at_call 105; refine (CD.out _).mono ?_; rintro e w' ⟨rfl, rfl⟩))
                have e1 := HN1.out (HASC.out HW.out)
                subst e1
                go_roundg (gk - 1)
                case rel => exact ⟨pos + 1, by have := HP.out; omega, hni, hnb, by rw [take_more HGL.out, List.all_append, HA.out]; simp [HW.out]⟩
                case measure => have := HP.out; omega
            · go_wp2_with (first | (go_at_call 104; refine (CL.out _).mono ?_; rintro e w' ⟨rfl, rfl⟩) | (go_at_call 105; refine (CD.out _).mono ?_; rintro e w' ⟨rfl, rfl⟩))
              have hwt : wordB (s[pos]'hlt) = true := by rw [HW.out]; rfl
              have e1 := HN1.out (HASC.out hwt)
              subst e1
              go_roundg (gk - 1)
              case rel => exact ⟨pos + 1, by have := HP.out; omega, hni, hnb, by rw [take_more HGL.out, List.all_append, HA.out]; simp [hwt]⟩
              case measure => have := HP.out; omega
          · obtain ⟨wo, rfl⟩ : ∃ wo : World, wo = wr := ⟨_, rfl⟩
            have hnx := fun ty => run_next_stop (P := Try.prog) wo w.heap.size s pos ty hi hlt
            have hall : s.data.toList.all wordB = true := by
              have := HA.out
              rwa [List.take_of_length_le (by simp; omega)] at this
            have HALL := Lib.hid hall
            have HK : r = !keyB s := by rw [← HR.out]; simp [isNameB, HB.out, hall, h20]
            replace HK := Lib.hid HK
            have hk0 := Blk.new wo 9 (keywords.map Value.string).toArray
            have hkb : Below w.heap.size w (wo.alloc (.cells (keywords.map Value.string).toArray 9)) := hb.alloc hb.size _
            have CK := keywords15_any wo
            replace CK := Lib.hid CK
            clear hall hi hpos HA
            go_wp2_with (go_at_call 106; refine CK.out.mono ?_; rintro e w' ⟨rfl, rfl⟩)
            revert hk0 hkb
            generalize wo.alloc (.cells (keywords.map Value.string).toArray 9) = w3
            intro hk0 hkb
            clear CK
            go_loopg [5, 38] 29 (fun g _ i wv => ∃ k : Nat, k + g = 29 ∧ i = .int .i64 k ∧ Blk wv wo.heap.size 9 (keywords.map Value.string).toArray ∧ Below w.heap.size w wv ∧ ((keywords.take k).any fun k => decide (s = k)) = false)
            case atStart => exact ⟨0, by omega, rfl, hk0, hkb, rfl⟩
            case round =>
              obtain ⟨k, hkg, rfl, hk, hbv, hno⟩ := hrel
              have HNO := Lib.hid hno
              have HKG := Lib.hid hkg
              have HKB := Lib.hid hk
              have hsz3 := hk.lt
              clear hk0 hkb hno hkg hk
              by_cases hlt2 : k < 29
              · obtain ⟨x, hx⟩ := get_of_lt (xs := keywords) (k := k) (by rw [keywords_len]; exact hlt2)
                have hc : wr.cell? ⟨wo.heap.size, k, none⟩ = some (.string x) := by rw [HKB.out.cell]; simp [hx]
                have HX := Lib.hid hx
                clear hx
                by_cases he : s = x
                · have hbe : (s.toList == x.toList) = true := by rw [str_beq]; simpa using he
                  have HE := Lib.hid he
                  clear he
                  go_wp2
                  go_ret
                  exact ⟨ret_bool (by rw [HK.out, keyB_mem HX.out HE.out]; rfl), hbv⟩
                · have hbe : (s.toList == x.toList) = false := by rw [str_beq]; simpa using he
                  have HE := Lib.hid he
                  clear he
                  go_wp2
                  go_roundg (gk - 1)
                  case rel => exact ⟨k + 1, by have := HKG.out; omega, by go_num, HKB.out, hbv, by rw [keyB_take HX.out, HNO.out]; simp [HE.out]⟩
                  case measure => have := HKG.out; omega
              · go_wp2
                go_ret
                refine ⟨ret_bool ?_, hbv⟩
                have := HNO.out
                rw [List.take_of_length_le (by rw [keywords_len]; omega)] at this
                rw [HK.out, keyB, this]; rfl
    · have hr : r = false := by rw [← HR.out]; simp [isNameB]; omega
      subst hr
      go_enter Try.func72, Try.ntmps72
      go_wp2
      go_ret
      exact ⟨rfl, Below.refl _ _⟩
end Go.Proofs.Ytmlldjcbijoheaa
