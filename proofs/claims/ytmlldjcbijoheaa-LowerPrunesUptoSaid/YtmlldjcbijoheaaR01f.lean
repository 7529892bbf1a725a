/- Walks of the reference's natural numbers: Gcd. -/
import Derived.Test.YtmlldjcbijoheaaR01e
import Derived.Deep.LoopGhost
namespace Go.Proofs.Ytmlldjcbijoheaa
open Go.RowKit

theorem divMod01_any (l m : List Int) (n1 n2 : Nat) (a a' : Option Addr) (c c' : Nat) (w : World) (h : NatR w a c l) (h' : NatR w a' c' m) (hn : val l = n1) (hk : val m = n2) (hl : l.length ≤ 2000000) (hm : m.length ≤ 2000000)
    (h0 : 0 < n2) :
    Calls Try.prog 124 #[.slice a l.length c, .slice a' m.length c'] w (RetDM n1 n2 w) := by
  by_cases hs : (limbs n1).length ≤ 4 ∧ (limbs n2).length ≤ 4
  · exact divMod01_small l m n1 n2 a a' c c' w h h' hn hk hl hm h0 hs.1 hs.2
  · exact divMod01_big l m n1 n2 a a' c c' w h h' hn hk hl hm h0 hs

set_option maxHeartbeats 1000000 in
theorem gcd01_any (l m : List Int) (n1 n2 : Nat) (a a' : Option Addr) (c c' : Nat) (w : World) (h : NatR w a c l) (h' : NatR w a' c' m) (hn : val l = n1) (hk : val m = n2) (hl : l.length ≤ 2000000) (hm : m.length ≤ 2000000) :
    Calls Try.prog 115 #[.slice a l.length c, .slice a' m.length c'] w (RetN (limbs (Nat.gcd n1 n2)) w) := by
  have H := Lib.hid h
  have H' := Lib.hid h'
  have C1 := norm01_any l a c w h (by omega)
  rw [hn] at C1
  replace C1 := Lib.hid C1
  have hL1 : (limbs n1).length ≤ 2000000 := by have := limbs_len_val h.u16; rw [hn] at this; omega
  have hL2 : (limbs n2).length ≤ 2000000 := by have := limbs_len_val h'.u16; rw [hk] at this; omega
  have HK := Lib.hid hk
  clear h h' hn hk
  go_enter Try.func115, Try.ntmps115
  go_wp2_with fail
  refine C1.out.mono ?_
  rintro e w1 ⟨a1, c1, rfl, hV1, hb1⟩
  have C2 := norm01_any m a' c' w1 (H'.out.ext (Ext.below hb1)) (by omega)
  rw [HK.out] at C2
  replace C2 := Lib.hid C2
  have HV1 := Lib.hid hV1
  clear hV1 C1
  go_wp2_with fail
  refine C2.out.mono ?_
  rintro e w2 ⟨a2, c2, rfl, hV2, hb2⟩
  have hb := below_then hb1 hb2
  have HV2 := Lib.hid hV2
  clear hV2 C2 H H' HK
  go_wp2
  go_loopg [0, 1, 5, 6, 7] n2 (fun g sx sy _ _ _ wr => ∃ (x : Nat) (ax : Option Addr) (cx : Nat) (ay : Option Addr) (cy : Nat), sx = .slice ax (limbs x).length cx ∧ sy = .slice ay (limbs g).length cy ∧ (∀ V, New w.heap.size wr V → NatR V ax cx (limbs x)) ∧
    (∀ V, New w.heap.size wr V → NatR V ay cy (limbs g)) ∧ (limbs x).length ≤ 2000000 ∧ (limbs g).length ≤ 2000000 ∧ Below w.heap.size w wr ∧ Nat.gcd x g = Nat.gcd n1 n2)
  case atStart => exact ⟨n1, a1, c1, a2, c2, rfl, rfl, fun V hV => HV1.out V (hV.below hb2), fun V hV => HV2.out V (hV.base hb1.size), hL1, hL2, hb, rfl⟩
  case round =>
    obtain ⟨x, ax, cx, ay, cy, rfl, rfl, hx, hy, hlx, hly, hb', hg⟩ := hrel
    have HX := Lib.hid hx
    have HY := Lib.hid hy
    have HG := Lib.hid hg
    clear hx hy hg hb1 hb2 hb
    by_cases h0 : gk = 0
    · subst h0
      have hgz : decide (0 < (limbs 0).length) = false := by rw [limbs_zero]; rfl
      have hX := HX.out
      have hgc : limbs (Nat.gcd n1 n2) = limbs x := by rw [← HG.out, Nat.gcd_zero_right]
      have HGC := Lib.hid hgc
      clear hgc
      replace hX := Lib.hid hX
      go_wp2
      go_ret
      rw [HGC.out]
      exact ⟨ax, cx, rfl, hX.out, hb'⟩
    · have hgz : decide (0 < (limbs gk).length) = true := by have := limbs_len_pos (n := gk); simp; omega
      have CD := divMod01_any (limbs x) (limbs gk) x gk ax ay cx cy wr (HX.out wr (New.refl _ _)) (HY.out wr (New.refl _ _)) (val_limbs _) (val_limbs _) hlx hly (by omega)
      replace CD := Lib.hid CD
      have hr : x % gk < gk := Nat.mod_lt _ (by omega)
      have hgr : Nat.gcd gk (x % gk) = Nat.gcd n1 n2 := by rw [← HG.out, Nat.gcd_comm x gk, Nat.gcd_rec gk x, Nat.gcd_comm]
      have HGR := Lib.hid hgr
      have hlr : (limbs (x % gk)).length ≤ 2000000 := Nat.le_trans (limbs_len_mono (Nat.le_of_lt hr)) hly
      clear hgr
      go_wp2_with fail
      refine CD.out.mono ?_
      rintro e w3 ⟨a3, c3, a4, c4, rfl, hV3, hV4, hb3⟩
      have HV4 := Lib.hid hV4
      clear hV3 hV4 CD
      go_wp2
      go_roundg (x % gk)
      case rel => exact ⟨gk, ay, cy, a4, c4, rfl, rfl, fun V hV => HY.out V (hV.below hb3), fun V hV => HV4.out V (hV.base hb'.size), hly, hlr, below_then hb' hb3, HGR.out⟩
      case measure => exact hr
end Go.Proofs.Ytmlldjcbijoheaa
