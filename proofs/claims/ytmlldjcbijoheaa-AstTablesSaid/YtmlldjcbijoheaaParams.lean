/- Walk: ast.Params. -/
import Derived.Test.YtmlldjcbijoheaaIter
import Derived.Test.YtmlldjcbijoheaaStrs
import Derived.Test.YtmlldjcbijoheaaRune
import Derived.Test.YtmlldjcbijoheaaAstA
namespace Go.Proofs.Ytmlldjcbijoheaa
open Go.RowKit
def codes (s : ByteArray) : List Int := s.data.toList.map fun b => Lib.indexByte [42, 80, 76, 67] b
theorem codes_take {s : ByteArray} {k : Nat} (h : k < s.size) : (codes s).take (k + 1) = (codes s).take k ++ [Lib.indexByte [42, 80, 76, 67] (s[k]'h)] := by
  have h1 : (codes s)[k]? = some (Lib.indexByte [42, 80, 76, 67] (s[k]'h)) := by
    simp [codes, h]
    rfl
  rw [List.take_add_one, h1]; rfl
theorem codes_len (s : ByteArray) : (codes s).length = s.size := by simp [codes]
def sliceLen : Value → Nat
  | .slice _ n _ => n
  | _ => 0
set_option maxHeartbeats 1000000 in
theorem params_walk (k : Int) (w : World) (hA : ∀ i (h : i < (AstP.letters k).size), ((AstP.letters k)[i]'h).toNat < 128) (hs : (AstP.letters k).size ≤ 100) :
    Calls Try.prog 48 #[.int .i64 k] w fun r w' => ∃ a c, r = .returned (.slice a (codes (AstP.letters k)).length c) ∧ OwnI (w.heap.size + 1) w' a c (codes (AstP.letters k)) ∧ Below w.heap.size w w' := by
  have F := shape_any k w
  obtain ⟨L, hL⟩ : ∃ L, AstP.letters k = L := ⟨_, rfl⟩
  have hL2 : (AstP.shape k).2 = L := hL
  rw [hL] at hA hs ⊢
  rw [hL2] at F
  clear hL hL2
  replace hA := Lib.hid hA
  go_enter Try.func48, Try.ntmps48
  go_wp2_with fail
  refine F.mono ?_
  rintro r w1 ⟨rfl, rfl⟩
  clear F
  go_wp2_with fail
  go_loopw [5] (fun v wr => ∃ (k : Nat) (a : Option Addr) (c : Nat) (l : List Int), k ≤ L.size ∧ v = .slice a (List.length l) c ∧ OwnI (w.heap.size + 1) wr a c l ∧ Itr wr w.heap.size L k ∧ Below w.heap.size w wr ∧ l.length = k ∧ Hid (l = (codes L).take k)) (fun v _ => L.size - sliceLen v)
  case atStart => exact ⟨0, none, 0, [], by omega, rfl, Own.nil, World.iter_heap w L 0, (Below.refl _ w).alloc (Nat.le_refl _) _, rfl, by simp [Hid]⟩
  case round =>
    obtain ⟨k, a, c, l, hk, rfl, ho, hi, hb, hlk, hl⟩ := hrel
    replace hlk := Lib.hid hlk
    by_cases hlt : k < L.size
    · have hn := fun ty => run_next_at (P := Try.prog) wr w.heap.size L k ty hi hlt (hA.out k hlt)
      have hc := hA.out k hlt
      have HC := Lib.hid hc
      obtain ⟨r, hr⟩ : ∃ r : Int, ((L[k]'hlt).toNat : Int) = r := ⟨_, rfl⟩
      have h0 : 0 ≤ r := by omega
      have h1 : r < 128 := by omega
      rw [hr] at hn
      have hcode : Lib.indexByte [42, 80, 76, 67] r.toNat.toUInt8 = Lib.indexByte [42, 80, 76, 67] (L[k]'hlt) := by
        rw [← hr]; congr 1; simp
      replace hcode := Lib.hid hcode
      replace hr := Lib.hid hr
      clear hc
      go_wp2_with fail
      have ho2 := Own.setItr ho (Nat.lt_succ_self w.heap.size) L (k + 1)
      have hi2 := hi.set (k + 1)
      have hb2 := below_setItr hb (Nat.le_refl _) L (k + 1)
      revert ho2 hi2 hb2
      generalize setItr wr w.heap.size L (k + 1) = w2
      intro ho2 hi2 hb2
      clear hn ho hi hb
      have hlt2 := hi2.lt
      refine (indexRune_ascii ⟨#[42, 80, 76, 67]⟩ r _ h0 h1).mono ?_
      rintro e w3 ⟨rfl, rfl⟩
      rw [show (⟨#[42, 80, 76, 67]⟩ : ByteArray).data.toList = [42, 80, 76, 67] from rfl, hcode.out]
      have hc2 := ho2.cap
      go_wp2_with (at_builtin; go_must (refine append_int (B := w.heap.size + 1) rfl (.tmp 18) (.tmp 21) rfl a c rfl (ho2.alloc _) (Lib.indexByte [42, 80, 76, 67] (L[k]'hlt)) w3.heap.size 1 rfl (by simp) (l ++ [Lib.indexByte [42, 80, 76, 67] (L[k]'hlt)]) rfl (by have := hlk.out; first | omega | (simp <;> omega)) (by first | omega | (simp <;> omega)) ?_); intro a4 c4 w4 ho4 hg4 hx4)
      refine ⟨⟨k + 1, a4, c4, l ++ [Lib.indexByte [42, 80, 76, 67] (L[k]'hlt)], by omega, by simp, ho4, (hi2.below ((Below.refl _ w3).alloc (Nat.le_refl _) _)).grown hg4 ?_, ?_, ?_, ?_⟩, ?_⟩
      · intro e
        cases a with
        | none => simp [Value.ownBlock] at e
        | some g => simp [Value.ownBlock] at e; have := (ho2.lt rfl).1; omega
      · exact below_append (hb2.alloc hb2.size _) hg4 (fun g e => by have := (ho2.lt e).1; omega)
      · simp [hlk.out]
      · rw [codes_take hlt, ← hl.out]; rfl
      · have := hlk.out
        simp [sliceLen]; omega
    · have hn := fun ty => run_next_stop (P := Try.prog) wr w.heap.size L k ty hi hlt
      go_wp2_with fail
      go_ret
      have e : l = codes L := by rw [hl.out, take_all (by rw [codes_len]; exact hlt)]
      subst e
      exact ⟨a, c, rfl, ho, hb⟩
end Go.Proofs.Ytmlldjcbijoheaa
