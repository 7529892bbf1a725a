/- Walks of the reference's natural numbers: Sub. -/
import Derived.Test.YtmlldjcbijoheaaR01b
namespace Go.Proofs.Ytmlldjcbijoheaa
open Go.RowKit

/-- what a call gives that makes the limbs l and an error -/
def RetNE (l : List Int) (x : Int) (w : World) (e : Ending) (w' : World) : Prop := ∃ a c, e = .returned (.tuple #[.slice a l.length c, .int .i64 x]) ∧ (∀ V, New w.heap.size w' V → NatR V a c l) ∧ Below w.heap.size w w'

theorem sub01_less (l m : List Int) (n k : Nat) (a a' : Option Addr) (c c' : Nat) (w : World) (h : NatR w a c l) (h' : NatR w a' c' m) (hn : val l = n) (hk : val m = k) (hl : l.length ≤ 16777216) (hm : m.length ≤ 16777216) (hlt : n < k) :
    Calls Try.prog 130 #[.slice a l.length c, .slice a' m.length c'] w (RetNE [] 2 w) := by
  have C := cmp01_any l m a a' c c' w h h' hl hm
  have hc : cmpN (val l) (val m) = -1 := by subst hn; subst hk; unfold cmpN; rw [if_pos hlt]
  rw [hc] at C
  replace C := Lib.hid C
  clear h h' hn hk hc hlt
  go_enter Try.func130, Try.ntmps130
  go_wp2_with (go_at_call 134; refine C.out.mono ?_; rintro e w' ⟨rfl, rfl⟩)
  go_ret2
  exact ⟨none, 0, rfl, fun _ _ => SlR.nil, Below.refl _ _⟩

set_option maxHeartbeats 800000 in
theorem sub01_any (l m : List Int) (n k : Nat) (a a' : Option Addr) (c c' : Nat) (w : World) (h : NatR w a c l) (h' : NatR w a' c' m) (hn : val l = n) (hk : val m = k) (hl : l.length ≤ 16777215) (hm : m.length ≤ 16777216) (hge : k ≤ n) :
    Calls Try.prog 130 #[.slice a l.length c, .slice a' m.length c'] w (RetNE (limbs (n - k)) 0 w) := by
  have C := cmp01_any l m a a' c c' w h h' (by omega) hm
  have hc : 0 ≤ cmpN (val l) (val m) := by subst hn; subst hk; exact cmpN_ge.2 hge
  have hU := h.u16
  have hU' := h'.u16
  have H := Lib.hid h
  have H' := Lib.hid h'
  have HN := Lib.hid hn
  have HK := Lib.hid hk
  have HU := Lib.hid hU
  have HU' := Lib.hid hU'
  revert C hc
  generalize cmpN (val l) (val m) = q
  intro C hc
  replace C := Lib.hid C
  have hcf : decide (q < 0) = false := by simp; omega
  clear h h' hn hk hU hU' hc
  go_enter Try.func130, Try.ntmps130
  go_wp2_with (go_at_call 134; refine C.out.mono ?_; rintro e w' ⟨rfl, rfl⟩)
  clear C hcf
  go_loopw [6, 7, 8, 9] (fun s b i _ wr => ∃ (j bo : Nat) (o : List Int) (ao : Option Addr) (co : Nat), j ≤ l.length ∧ bo ≤ 1 ∧ i = .int .i64 j ∧ b = .int .i64 bo ∧ s = .slice ao o.length co ∧ OwnN w.heap.size wr ao co o ∧ U16 o ∧ Below w.heap.size w wr ∧
    Hid (o.length = j) ∧ Hid (val (l.take j) + 65536 ^ j * bo = val (m.take j) + val o)) (fun _ _ i _ _ => l.length - (intOf i).toNat)
  case atStart => exact ⟨0, 0, [], none, 0, by omega, by omega, rfl, rfl, rfl, Own.nil, U16.nil, Below.refl _ _, rfl, by simp [Hid, val]⟩
  case round =>
    obtain ⟨j, bo, o, ao, co, hj, hbo, rfl, rfl, rfl, ho, hUo, hb, hlen, hv⟩ := hrel
    have HO := Lib.hid ho
    have HUO := Lib.hid hUo
    clear ho hUo
    by_cases hlt : j < l.length
    · have CX := limb01_any l j a c wr (H.out.ext (Ext.below hb))
      have CY := limb01_any m j a' c' wr (H'.out.ext (Ext.below hb))
      obtain ⟨hx0, hx1⟩ := limbAt_in HU.out j
      obtain ⟨hy0, hy1⟩ := limbAt_in HU'.out j
      have hstep := fun bo2 d => sub_step l m o j bo bo2 d hlen.out hv.out
      revert CX CY hx0 hx1 hy0 hy1 hstep
      generalize limbAt l j = x
      generalize limbAt m j = y
      intro CX CY hx0 hx1 hy0 hy1 hstep
      replace CX := Lib.hid CX
      replace CY := Lib.hid CY
      have HS := Lib.hid hstep
      clear hstep
      by_cases hd : x - y - bo < 0
      · have HS2 := HS.out 1 (x - y - bo + 65536).toNat (by omega)
        have ed : ((x - y - (bo : Int) + 65536).toNat : Int) = x - y - bo + 65536 := by omega
        rw [ed] at HS2
        replace HS2 := Lib.hid HS2
        clear ed
        go_wp2_with (first
          | (go_at_call 135; (first | ((with_reducible refine CX.out.mono ?_); rintro e w' ⟨rfl, rfl⟩) | ((with_reducible refine CY.out.mono ?_); rintro e w' ⟨rfl, rfl⟩)))
          | (at_builtin; go_must (refine append_nat rfl (.tmp 33) (.tmp 36) rfl ao co rfl (HO.out.alloc _) (x - y - bo + 65536) wr.heap.size 1 rfl (by simp) (o ++ [x - y - bo + 65536]) rfl (by have := hlen.out; simp; omega) (by have := hb.size; simp; omega) ?_); intro a2 c2 w2 ho2 hg2 hx2))
        go_roundw
        case rel =>
          have hb1 : Below w.heap.size w w2 := below_append' (hb.alloc hb.size _) (HO.out.alloc _) hg2
          exact ⟨j + 1, 1, _, a2, c2, by omega, by omega, by go_num, rfl, by simp, ho2, HUO.out.app (U16.cons (by omega) U16.nil), hb1, by show _ = _; rw [List.length_append, hlen.out]; rfl, HS2.out⟩
        case measure => simp [intOf]; omega
      · have HS2 := HS.out 0 (x - y - bo).toNat (by omega)
        have ed : ((x - y - (bo : Int)).toNat : Int) = x - y - bo := by omega
        rw [ed] at HS2
        replace HS2 := Lib.hid HS2
        clear ed
        go_wp2_with (first
          | (go_at_call 135; (first | ((with_reducible refine CX.out.mono ?_); rintro e w' ⟨rfl, rfl⟩) | ((with_reducible refine CY.out.mono ?_); rintro e w' ⟨rfl, rfl⟩)))
          | (at_builtin; go_must (refine append_nat rfl (.tmp 33) (.tmp 36) rfl ao co rfl (HO.out.alloc _) (x - y - bo) wr.heap.size 1 rfl (by simp) (o ++ [x - y - bo]) rfl (by have := hlen.out; simp; omega) (by have := hb.size; simp; omega) ?_); intro a2 c2 w2 ho2 hg2 hx2))
        go_roundw
        case rel =>
          have hb1 : Below w.heap.size w w2 := below_append' (hb.alloc hb.size _) (HO.out.alloc _) hg2
          exact ⟨j + 1, 0, _, a2, c2, by omega, by omega, by go_num, rfl, by simp, ho2, HUO.out.app (U16.cons (by omega) U16.nil), hb1, by show _ = _; rw [List.length_append, hlen.out]; rfl, HS2.out⟩
        case measure => simp [intOf]; omega
    · obtain rfl : j = l.length := by omega
      have hval : val o = n - k := by
        have := sub_end HU.out HU'.out HUO.out hlen.out hv.out (by rw [HN.out, HK.out]; exact hge)
        rw [this, HN.out, HK.out]
      have CN := norm01_any o ao co wr (HO.out.reads1 HUO.out) (by have := hlen.out; omega)
      rw [hval] at CN
      replace CN := Lib.hid CN
      clear hval
      go_wp2_with (go_at_call 123; refine CN.out.mono ?_; rintro e w2 ⟨a2, c2, rfl, hV, hb2⟩)
      go_ret2
      exact ⟨a2, c2, rfl, fun V hV' => hV V (hV'.base hb.size), below_then hb hb2⟩
end Go.Proofs.Ytmlldjcbijoheaa
