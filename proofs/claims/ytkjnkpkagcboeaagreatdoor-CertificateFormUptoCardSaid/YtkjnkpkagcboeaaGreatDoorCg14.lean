/- Walk: certificate.number; strings.Cut and strconv.Atoi of any text. -/
import Derived.Test.YtkjnkpkagcboeaaGreatDoorCg13
import Derived.Test.YtkjnkpkagcboeaaGreatDoorProg
import Derived.Ground.NamesProg
import Derived.Shelf.Lays
import Derived.Shelf.LaysC
import Derived.Shelf.Strconv.AtoiAll
import Derived.Test.YtkjnkpkagcboeaaGreatDoorCg12
import Derived.Test.YtkjnkpkagcboeaaGreatDoorCg10
import Derived.Lib.IndexMore
import Derived.Test.YtkjnkpkagcboeaaGreatDoorCg1
import Derived.Shelf.LaysM
import Derived.Shelf.Strings.SplitShaped
import Derived.Shelf.Strconv.Itoa3
import Derived.Lib.AppendIntMem
import Derived.Shelf.Strings.Cut
set_option linter.all false
set_option maxRecDepth 100000
set_option maxHeartbeats 4000000
namespace Go.Proofs.YtkjnkpkagcboeaaGreatDoor
open Go.RowKit
theorem tw_in {p : UInt8 -> Bool} : ∀ {l : List UInt8} {j : Nat}, j < (l.takeWhile p).length -> ∃ x, l[j]? = some x /\ p x = true
 | [], j, h => by simp at h
 | c :: r, j, h => by
  rw [List.takeWhile_cons] at h
  by_cases hc : p c = true
  ·
   rw [if_pos hc] at h
   cases j with
   | zero => exact ⟨c, rfl, hc⟩
   | succ j => exact tw_in (l := r) (by simpa using h)
  · rw [if_neg hc] at h; simp at h
theorem tw_out {p : UInt8 -> Bool} : ∀ {l : List UInt8} {x : UInt8}, l[(l.takeWhile p).length]? = some x -> p x = false
 | [], x, h => by simp at h
 | c :: r, x, h => by
  rw [List.takeWhile_cons] at h
  by_cases hc : p c = true
  ·
   rw [if_pos hc] at h
   exact tw_out (l := r) (by simpa using h)
  ·
   rw [if_neg hc] at h
   simp at h
   subst h
   simpa using hc
theorem tw_le (p : UInt8 -> Bool) (l : List UInt8) : (l.takeWhile p).length <= l.length := by
 induction l with
 | nil => simp
 | cons c r ih => rw [List.takeWhile_cons]; split <;> simp; omega
theorem tl_get {s : ByteArray} {a j : Nat} (h : a + j < s.size) : (tl s a)[j]? = some (s[a + j]'h) := by
 unfold tl
 rw [List.getElem?_drop]
 exact get_list h
theorem tl_take (s : ByteArray) (a n : Nat) : s.extract a (a + n) = ofL ((tl s a).take n) := by
 apply ba_ext
 rw [ofL_list, Lib.extract_data, Nat.add_sub_cancel_left]
 rfl
def runD (c : UInt8) (l : List UInt8) : Nat := if c = 48 then 0 else (l.takeWhile digU).length
theorem numL_run {c : UInt8} {l : List UInt8} (h : digU c = true) : numL (c :: l) = 1 + runD c l := by
 rw [numL, if_pos h]
 unfold runD
 split <;> rfl
theorem numeral_any (g mb a : Nat) (s : ByteArray) (w : World) (h : RdA w g s mb a 0 0) (ha : a <= s.size) (hs : s.size <= 281474976710656) :
  Calls Tryz.prog 158 #[.pointer (some ⟨g, 0, none⟩)] w fun u w' => ∃ t, u = .returned (.tuple #[.string t, .int .i64 a]) /\ (∀ d r, numG (tl s a) = .ok d r -> t = ofL d) /\ StG w' g s mb (numG (tl s a)) /\ Fg g w w' := by
 have z0 := Blk.cell h 0; have z1 := Blk.cell h 1; have z2 := Blk.cell h 2; have z3 := Blk.cell h 3; have z4 := Blk.cell h 4
 have hl := h.lt
 by_cases hlt : a < s.size
 ·
  have hb : ((a : Int) == (s.size : Int)) = false := by rw [beq_eq_false_iff_ne]; omega
  have hT := tl_at hlt
  obtain ⟨c, hc⟩ : ∃ c, s[a]'hlt = c := ⟨_, rfl⟩
  rw [hc] at hT
  obtain ⟨y, hy⟩ : ∃ y : Nat, c.toNat = y := ⟨_, rfl⟩
  have hy0 : (s[a]'hlt).toNat = y := by rw [hc]; exact hy
  have CD := digitS_any (y : Int)
  have hdy : digU c = digV (y : Int) := by unfold digU; rw [hy]
  obtain ⟨bd, hbd0⟩ : ∃ b, digV (y : Int) = b := ⟨_, rfl⟩
  simp only [hbd0] at CD
  rw [hbd0] at hdy
  replace CD := Hd CD
  cases bd
  ·
   have hL : numG (tl s a) = lost (tl s a) := by unfold numG; rw [if_pos (by rw [hT, numL, hdy]; rfl)]
   have hy2 := Hd hy
   clear hT hdy hbd0 hy hc
   rw [hL]
   have CR := Hd (fun W (hW : Below w.heap.size w W) => refuse_any g mb a s W (h.below hW) ha hs)
   have hbd : Below w.heap.size w w.drew := brf.drew
   clear h
   go_enter Tryz.func158, Tryz.ntmps158
   go_wp2
   refine wp_region_mix (S := (fun x => x = w.drew)) [(0, .q), (1, .q), (2, .q), (3, .q), (4, .q), (5, .q), (6, .q), (7, .q), (8, .q), (9, .q), (10, .q), (11, .q), (12, .q), (13, .q), (14, .q), (15, .q), (16, .q), (17, .q), (18, .q), (19, .q), (20, .t), (21, .p), (22, .p)] (by kernel_rfl) (by kernel_rfl) (by kernel_rfl) (fun d _ _ _ _ h => by cases d <;> exact h) (rfl) ?_
   iterate 20 (refine wpMix_q rfl rfl (fun K hK => ?_); apply Exists.intro; refine ⟨fun w' hw' => ?_, ?_⟩; (focus (go_simp; try rfl)); go_simp; refine hK _ _ ?_; clear hK K)
   refine wpMix_t rfl rfl (fun K hK => ?_)
   go_simp
   refine (CD.out w.drew).mono ?_
   rintro e w' ⟨rfl, rfl⟩
   dsimp only
   refine hK.out _ _ ?_
   clear hK K
   iterate 2 (refine wpMix_p rfl rfl (fun K hK => ?_); apply Exists.intro; refine ⟨fun w' => ?_, ?_⟩; (focus (go_simp; try rfl)); go_simp; refine hK _ _ ?_; clear hK K)
   refine wpMix_nil ?_
   go_wp2_with fail
   refine (CR.out w.drew hbd).mono ?_
   rintro e w1 ⟨rfl, h1, hf⟩
   go_wp2
   go_ret2
   exact ⟨⟨#[]⟩, rfl, fun d r e => absurd e fun e => lost_ok e, lost_unit h1, (Fr.below hbd).trans hf⟩
  ·
   have hn1 : numL (tl s a) = 1 + runD c (tl s (a + 1)) := by rw [hT]; exact numL_run hdy
   obtain ⟨D, hD⟩ : ∃ D, runD c (tl s (a + 1)) = D := ⟨_, rfl⟩
   rw [hD] at hn1
   have hDl : D <= s.size - (a + 1) := by
    rw [<- hD]
    unfold runD
    split
    · omega
    · have := tw_le digU (tl s (a + 1)); rw [tl_len] at this; exact this
   have hDc : c = 48 -> D = 0 := fun e => by rw [<- hD]; unfold runD; rw [if_pos e]
   have hDi : ∀ j, j < D -> ∃ h : a + 1 + j < s.size, digV ((s[a + 1 + j]'h).toNat : Int) = true := fun j hj => by
    have h1 : a + 1 + j < s.size := by omega
    refine ⟨h1, ?_⟩
    rw [<- hD] at hj
    unfold runD at hj
    split at hj
    · omega
    ·
     obtain ⟨x, hx, hp⟩ := tw_in hj
     rw [tl_get h1] at hx
     injection hx with hx
     subst hx
     exact hp
   have hDo : c ≠ 48 -> ∀ h : a + 1 + D < s.size, digV ((s[a + 1 + D]'h).toNat : Int) = false := fun hc48 h1 => by
    have h2 : D = ((tl s (a + 1)).takeWhile digU).length := by rw [<- hD]; unfold runD; rw [if_neg hc48]
    exact tw_out (p := digU) (l := tl s (a + 1)) (x := s[a + 1 + D]'h1) (by rw [<- h2]; exact tl_get h1)
   have hc48 : (c = 48) ↔ (y : Int) = 48 := by
    constructor
    · intro e; subst e; rw [<- hy]; rfl
    · intro e; exact UInt8.toNat_inj.1 (by rw [hy]; have : (48 : UInt8).toNat = 48 := rfl; omega)
   have hcast : ((a + 1 : Nat) : Int) = (a : Int) + 1 := by omega
   have hG : numG (tl s a) = if 1000 < 1 + D then .bad (s.size - a) 4 else .ok ((tl s a).take (1 + D)) (tl s (a + (1 + D))) := by
    unfold numG
    rw [hn1, if_neg (by omega), tl_len, tl_drop]
   have hex : s.extract a (a + 1 + D) = ofL ((tl s a).take (1 + D)) := by rw [Nat.add_assoc]; exact tl_take s a (1 + D)
   have hbd : Below w.heap.size w w.drew := brf.drew
   have h2 : RdA w.drew g s mb a 0 0 := h
   have f1 := Blk.frozen h2 1
   have h3 := h2.set1 (a + 1)
   have hf3 : Fg g w (w.drew.setCell ⟨g, 1, none⟩ (.int .i64 ((a + 1 : Nat) : Int))) := (Fr.below (Y := fun b => b = g) hbd).setc (.inl rfl)
   unfold RdA at h3
   rw [hcast] at h3 hf3
   obtain ⟨GG, hGG⟩ : ∃ G, numG (tl s a) = G := ⟨_, rfl⟩
   rw [hGG] at hG ⊢
   have HGG := Hd hG
   replace hGG := Hd hGG
   have HH := Hd h3; have HF := Hd hf3; have HEX := Hd hex; have HDI := Hd hDi; have HDO := Hd hDo; have HDC := Hd hDc; have H48 := Hd hc48
   have hy2 := Hd hy
   clear h h2 h3 hf3 hT hdy hbd0 hy hc hn1 hD hDi hDo hDc hc48 hG hex
   go_enter Tryz.func158, Tryz.ntmps158
   go_wp2
   refine wp_region_mix (S := (fun x => x = w.drew)) [(0, .q), (1, .q), (2, .q), (3, .q), (4, .q), (5, .q), (6, .q), (7, .q), (8, .q), (9, .q), (10, .q), (11, .q), (12, .q), (13, .q), (14, .q), (15, .q), (16, .q), (17, .q), (18, .q), (19, .q), (20, .t), (21, .p), (22, .p)] (by kernel_rfl) (by kernel_rfl) (by kernel_rfl) (fun d _ _ _ _ h => by cases d <;> exact h) (rfl) ?_
   iterate 20 (refine wpMix_q rfl rfl (fun K hK => ?_); apply Exists.intro; refine ⟨fun w' hw' => ?_, ?_⟩; (focus (go_simp; try rfl)); go_simp; refine hK _ _ ?_; clear hK K)
   refine wpMix_t rfl rfl (fun K hK => ?_)
   go_simp
   refine (CD.out w.drew).mono ?_
   rintro e w' ⟨rfl, rfl⟩
   dsimp only
   refine hK.out _ _ ?_
   clear hK K
   iterate 2 (refine wpMix_p rfl rfl (fun K hK => ?_); apply Exists.intro; refine ⟨fun w' => ?_, ?_⟩; (focus (go_simp; try rfl)); go_simp; refine hK _ _ ?_; clear hK K)
   refine wpMix_nil ?_
   go_wp2
   refine world_gen (fun W => RdA W g s mb (a + 1) 0 0 /\ Fg g w W) ⟨by unfold RdA; rw [hcast]; exact HH.out, HF.out⟩ ?_
   rintro w0 ⟨h0, hf0⟩
   clear HH HF z0 z1 z2 z3 z4 f1 CD
   go_loopg [] D (fun m wr => ∃ j : Nat, Hid (j + m = D) /\ Hid (RdA wr g s mb (a + 1 + j) 0 0) /\ Fg g w wr)
   case atStart => exact ⟨0, by show _ = _; omega, h0, hf0⟩
   case round =>
    clear h0 hf0
    obtain ⟨j, hj, hR, hfr⟩ := hrel
    have hRo := hR.out
    have z0 := Blk.cell hRo 0; have z1 := Blk.cell hRo 1; have z2 := Blk.cell hRo 2; have z3 := Blk.cell hRo 3; have z4 := Blk.cell hRo 4
    have hl := hRo.lt
    have f1 := Blk.frozen hRo 1
    have hcj : ((a + 1 + j : Nat) : Int) = (a : Int) + 1 + j := by omega
    have hbd1 : Below wr.heap.size wr wr.drew := brf.drew
    clear hRo
    obtain ⟨p, hp⟩ : ∃ p, a + 1 + j = p := ⟨_, rfl⟩
    rw [hp] at z1 hR hcj
    have hpc : ((p + 1 : Nat) : Int) = (p : Int) + 1 := by omega
    by_cases hjD : j < D
    ·
     have h48 : ((y : Int) == 48) = false := by
      rw [beq_eq_false_iff_ne]
      intro e
      have := HDC.out (H48.out.2 e)
      omega
     have h48n : ((y : Int) != 48) = true := by rw [bne, h48]; rfl
     obtain ⟨hps, hpd⟩ := HDI.out j hjD
     simp only [hp] at hps hpd
     obtain ⟨v, hv⟩ : ∃ v : Nat, (s[p]'hps).toNat = v := ⟨_, rfl⟩
     rw [hv] at hpd
     have CD := digitS_any (v : Int)
     rw [hpd] at CD
     replace CD := Hd CD; replace hp := Hd hp; replace hpd := Hd hpd
     have hR3 := Hd ((show RdA wr.drew g s mb p 0 0 from hR.out).set1 (p + 1))
     have hF3 := Hd ((hfr.trans (Fr.below hbd1)).setc (g := g) (i := 1) (u := .int .i64 ((p + 1 : Nat) : Int)) (.inl rfl))
     unfold RdA at hR3
     rw [hpc] at hR3 hF3
     clear hR hcj hfr hbd1
     go_wp2
     refine wp_region_mix (S := (fun x => x = wr.drew)) [(0, .q), (1, .q), (2, .q), (3, .q), (4, .q), (5, .q), (6, .q), (7, .q), (8, .q), (9, .q), (10, .q), (11, .q), (12, .q), (13, .q), (14, .q), (15, .q), (16, .q), (17, .q), (18, .q), (19, .q), (20, .q), (21, .q), (22, .q), (23, .q), (24, .q), (25, .q), (26, .q), (27, .q), (28, .q), (29, .t), (30, .p)] (by kernel_rfl) (by kernel_rfl) (by kernel_rfl) (fun d _ _ _ _ h => by cases d <;> exact h) (rfl) ?_
     iterate 29 (refine wpMix_q rfl rfl (fun K hK => ?_); apply Exists.intro; refine ⟨fun w' hw' => ?_, ?_⟩; (focus (go_simp; try rfl)); go_simp; refine hK _ _ ?_; clear hK K)
     refine wpMix_t rfl rfl (fun K hK => ?_)
     go_simp
     refine (CD.out wr.drew).mono ?_
     rintro e w' ⟨rfl, rfl⟩
     dsimp only
     refine hK.out _ _ ?_
     clear hK K
     iterate 1 (refine wpMix_p rfl rfl (fun K hK => ?_); apply Exists.intro; refine ⟨fun w' => ?_, ?_⟩; (focus (go_simp; try rfl)); go_simp; refine hK _ _ ?_; clear hK K)
     refine wpMix_nil ?_
     go_wp2
     go_roundg (gk - 1)
     case rel => exact ⟨j + 1, by have := hj.out; show _ = _; omega, by unfold RdA; rw [show a + 1 + (j + 1) = p + 1 by have := hp.out; omega, hpc]; exact hR3.out, hF3.out⟩
     case measure => have := hj.out; omega
    ·
     have hjD2 : j = D := by have := hj.out; omega
     subst hjD2
     have hex2 := HEX.out
     rw [hp] at hex2
     obtain ⟨t, ht⟩ : ∃ t, ofL ((tl s a).take (1 + j)) = t := ⟨_, rfl⟩
     rw [ht] at hex2
     have htz : t.size = 1 + j := by
      rw [<- ht]
      have : ((tl s a).take (1 + j)).length = 1 + j := by rw [List.length_take, tl_len]; omega
      exact this
     have hps : p <= s.size := by omega
     have hap : a <= p := by omega
     have hR3 : RdA wr.drew.drew g s mb p 0 0 := hR.out
     have hF3 : Fg g w wr.drew.drew := hfr.trans (Fr.below hbd1.drew)
     have CF := Hd (fail_any g mb p s 4 (a : Int) wr.drew.drew hR3)
     replace hR3 := Hd hR3; replace hF3 := Hd hF3; replace ht := Hd ht
     have hp2 := Hd hp
     clear hR hcj hfr hbd1
     by_cases h48c : (y : Int) = 48
     ·
      have h48 : ((y : Int) == 48) = true := by simpa using h48c
      have h48n : ((y : Int) != 48) = false := by rw [bne, h48]; rfl
      clear hp
      replace h48c := Hd h48c
      go_wp2
      refine wp_region_mix (S := (fun x => x = wr.drew)) [(0, .q), (1, .q), (2, .q), (3, .q), (4, .q), (5, .q), (6, .q), (7, .q), (8, .q), (9, .q), (10, .q), (11, .q), (12, .q), (13, .q), (14, .q), (15, .q), (16, .q), (17, .q), (18, .q), (19, .q), (20, .q), (21, .q), (22, .q), (23, .q), (24, .q), (25, .q), (26, .q), (27, .q), (28, .q), (29, .t), (30, .p)] (by kernel_rfl) (by kernel_rfl) (by kernel_rfl) (fun d _ _ _ _ h => by cases d <;> exact h) (rfl) ?_
      iterate 8 (refine wpMix_q rfl rfl (fun K hK => ?_); apply Exists.intro; refine ⟨fun w' hw' => ?_, ?_⟩; (focus (go_simp; try rfl)); go_simp; refine hK _ _ ?_; clear hK K)
      iterate 10 (refine wpMix_skip rfl rfl (fun K hK => ?_); go_simp; refine hK _ _ ?_; clear hK K)
      iterate 2 (refine wpMix_q rfl rfl (fun K hK => ?_); apply Exists.intro; refine ⟨fun w' hw' => ?_, ?_⟩; (focus (go_simp; try rfl)); go_simp; refine hK _ _ ?_; clear hK K)
      iterate 10 (refine wpMix_skip rfl rfl (fun K hK => ?_); go_simp; refine hK _ _ ?_; clear hK K)
      iterate 1 (refine wpMix_p rfl rfl (fun K hK => ?_); apply Exists.intro; refine ⟨fun w' => ?_, ?_⟩; (focus (go_simp; try rfl)); go_simp; refine hK _ _ ?_; clear hK K)
      refine wpMix_nil ?_
      go_wp2
      refine wp_region_mix (S := (fun x => x = wr.drew.drew)) [(0, .q), (1, .q), (2, .q), (3, .q), (4, .q), (5, .q), (6, .q), (7, .q), (8, .q), (9, .p), (10, .p)] (by kernel_rfl) (by kernel_rfl) (by kernel_rfl) (fun d _ _ _ _ h => by cases d <;> exact h) (rfl) ?_
      iterate 9 (refine wpMix_q rfl rfl (fun K hK => ?_); apply Exists.intro; refine ⟨fun w' hw' => ?_, ?_⟩; (focus (go_simp; try rfl)); go_simp; refine hK _ _ ?_; clear hK K)
      iterate 2 (refine wpMix_p rfl rfl (fun K hK => ?_); apply Exists.intro; refine ⟨fun w' => ?_, ?_⟩; (focus (go_simp; try rfl)); go_simp; refine hK _ _ ?_; clear hK K)
      refine wpMix_nil ?_
      by_cases hbig : 1000 < 1 + j
      ·
       have hbig2 : (1000 : Int) < (t.size : Int) := by omega
       have hbg3 : decide (1000 < t.size) = true := by rw [decide_eq_true_eq]; omega
       replace hbig := Hd hbig
       replace htz := Hd htz
       go_wp2_with fail
       refine CF.out.mono ?_
       rintro e w1 ⟨rfl, h1, hf⟩
       go_wp2
       go_ret2
       have hGe := HGG.out
       rw [if_pos hbig.out] at hGe
       subst hGe
       exact ⟨t, rfl, fun d r e => (by cases e), ⟨p, hps, by omega, by decide, by rw [show s.size - (s.size - a) = a by omega]; exact h1⟩, hF3.out.trans hf⟩
      ·
       have hbig2 : ¬ (1000 : Int) < (t.size : Int) := by omega
       have hbg3 : decide (1000 < t.size) = false := by rw [decide_eq_false_iff_not]; omega
       replace hbig := Hd hbig
       replace htz := Hd htz
       go_wp2
       go_ret2
       have hGe := HGG.out
       rw [if_neg hbig.out] at hGe
       subst hGe
       exact ⟨t, rfl, fun d r e => (by injection e with e1 e2; rw [<- e1]; exact ht.out.symm), ⟨p, hps, by rw [show a + (1 + j) = p by have := hp2.out; omega], hR3.out⟩, hF3.out⟩
     ·
      have h48 : ((y : Int) == 48) = false := by simpa using h48c
      have h48n : ((y : Int) != 48) = true := by rw [bne, h48]; rfl
      by_cases hpz : p < s.size
      ·
       have hpd := HDO.out (fun e => h48c (H48.out.1 e)) (by rw [hp]; exact hpz)
       simp only [hp] at hpd
       obtain ⟨v, hv⟩ : ∃ v : Nat, (s[p]'hpz).toNat = v := ⟨_, rfl⟩
       rw [hv] at hpd
       have CD := digitS_any (v : Int)
       rw [hpd] at CD
       replace CD := Hd CD; replace hpd := Hd hpd
       clear hp
       replace h48c := Hd h48c
       go_wp2
       refine wp_region_mix (S := (fun x => x = wr.drew)) [(0, .q), (1, .q), (2, .q), (3, .q), (4, .q), (5, .q), (6, .q), (7, .q), (8, .q), (9, .q), (10, .q), (11, .q), (12, .q), (13, .q), (14, .q), (15, .q), (16, .q), (17, .q), (18, .q), (19, .q), (20, .q), (21, .q), (22, .q), (23, .q), (24, .q), (25, .q), (26, .q), (27, .q), (28, .q), (29, .t), (30, .p)] (by kernel_rfl) (by kernel_rfl) (by kernel_rfl) (fun d _ _ _ _ h => by cases d <;> exact h) (rfl) ?_
       iterate 29 (refine wpMix_q rfl rfl (fun K hK => ?_); apply Exists.intro; refine ⟨fun w' hw' => ?_, ?_⟩; (focus (go_simp; try rfl)); go_simp; refine hK _ _ ?_; clear hK K)
       refine wpMix_t rfl rfl (fun K hK => ?_)
       go_simp
       refine (CD.out wr.drew).mono ?_
       rintro e w' ⟨rfl, rfl⟩
       dsimp only
       refine hK.out _ _ ?_
       clear hK K
       iterate 1 (refine wpMix_p rfl rfl (fun K hK => ?_); apply Exists.intro; refine ⟨fun w' => ?_, ?_⟩; (focus (go_simp; try rfl)); go_simp; refine hK _ _ ?_; clear hK K)
       refine wpMix_nil ?_
       go_wp2
       refine wp_region_mix (S := (fun x => x = wr.drew.drew)) [(0, .q), (1, .q), (2, .q), (3, .q), (4, .q), (5, .q), (6, .q), (7, .q), (8, .q), (9, .p), (10, .p)] (by kernel_rfl) (by kernel_rfl) (by kernel_rfl) (fun d _ _ _ _ h => by cases d <;> exact h) (rfl) ?_
       iterate 9 (refine wpMix_q rfl rfl (fun K hK => ?_); apply Exists.intro; refine ⟨fun w' hw' => ?_, ?_⟩; (focus (go_simp; try rfl)); go_simp; refine hK _ _ ?_; clear hK K)
       iterate 2 (refine wpMix_p rfl rfl (fun K hK => ?_); apply Exists.intro; refine ⟨fun w' => ?_, ?_⟩; (focus (go_simp; try rfl)); go_simp; refine hK _ _ ?_; clear hK K)
       refine wpMix_nil ?_
       by_cases hbig : 1000 < 1 + j
       ·
        have hbig2 : (1000 : Int) < (t.size : Int) := by omega
        have hbg3 : decide (1000 < t.size) = true := by rw [decide_eq_true_eq]; omega
        replace hbig := Hd hbig
        replace htz := Hd htz
        go_wp2_with fail
        refine CF.out.mono ?_
        rintro e w1 ⟨rfl, h1, hf⟩
        go_wp2
        go_ret2
        have hGe := HGG.out
        rw [if_pos hbig.out] at hGe
        subst hGe
        exact ⟨t, rfl, fun d r e => (by cases e), ⟨p, hps, by omega, by decide, by rw [show s.size - (s.size - a) = a by omega]; exact h1⟩, hF3.out.trans hf⟩
       ·
        have hbig2 : ¬ (1000 : Int) < (t.size : Int) := by omega
        have hbg3 : decide (1000 < t.size) = false := by rw [decide_eq_false_iff_not]; omega
        replace hbig := Hd hbig
        replace htz := Hd htz
        go_wp2
        go_ret2
        have hGe := HGG.out
        rw [if_neg hbig.out] at hGe
        subst hGe
        exact ⟨t, rfl, fun d r e => (by injection e with e1 e2; rw [<- e1]; exact ht.out.symm), ⟨p, hps, by rw [show a + (1 + j) = p by have := hp2.out; omega], hR3.out⟩, hF3.out⟩
      ·
       clear hp
       replace h48c := Hd h48c
       go_wp2
       refine wp_region_mix (S := (fun x => x = wr.drew)) [(0, .q), (1, .q), (2, .q), (3, .q), (4, .q), (5, .q), (6, .q), (7, .q), (8, .q), (9, .q), (10, .q), (11, .q), (12, .q), (13, .q), (14, .q), (15, .q), (16, .q), (17, .q), (18, .q), (19, .q), (20, .q), (21, .q), (22, .q), (23, .q), (24, .q), (25, .q), (26, .q), (27, .q), (28, .q), (29, .t), (30, .p)] (by kernel_rfl) (by kernel_rfl) (by kernel_rfl) (fun d _ _ _ _ h => by cases d <;> exact h) (rfl) ?_
       iterate 20 (refine wpMix_q rfl rfl (fun K hK => ?_); apply Exists.intro; refine ⟨fun w' hw' => ?_, ?_⟩; (focus (go_simp; try rfl)); go_simp; refine hK _ _ ?_; clear hK K)
       iterate 10 (refine wpMix_skip rfl rfl (fun K hK => ?_); go_simp; refine hK _ _ ?_; clear hK K)
       iterate 1 (refine wpMix_p rfl rfl (fun K hK => ?_); apply Exists.intro; refine ⟨fun w' => ?_, ?_⟩; (focus (go_simp; try rfl)); go_simp; refine hK _ _ ?_; clear hK K)
       refine wpMix_nil ?_
       go_wp2
       refine wp_region_mix (S := (fun x => x = wr.drew.drew)) [(0, .q), (1, .q), (2, .q), (3, .q), (4, .q), (5, .q), (6, .q), (7, .q), (8, .q), (9, .p), (10, .p)] (by kernel_rfl) (by kernel_rfl) (by kernel_rfl) (fun d _ _ _ _ h => by cases d <;> exact h) (rfl) ?_
       iterate 9 (refine wpMix_q rfl rfl (fun K hK => ?_); apply Exists.intro; refine ⟨fun w' hw' => ?_, ?_⟩; (focus (go_simp; try rfl)); go_simp; refine hK _ _ ?_; clear hK K)
       iterate 2 (refine wpMix_p rfl rfl (fun K hK => ?_); apply Exists.intro; refine ⟨fun w' => ?_, ?_⟩; (focus (go_simp; try rfl)); go_simp; refine hK _ _ ?_; clear hK K)
       refine wpMix_nil ?_
       by_cases hbig : 1000 < 1 + j
       ·
        have hbig2 : (1000 : Int) < (t.size : Int) := by omega
        have hbg3 : decide (1000 < t.size) = true := by rw [decide_eq_true_eq]; omega
        replace hbig := Hd hbig
        replace htz := Hd htz
        go_wp2_with fail
        refine CF.out.mono ?_
        rintro e w1 ⟨rfl, h1, hf⟩
        go_wp2
        go_ret2
        have hGe := HGG.out
        rw [if_pos hbig.out] at hGe
        subst hGe
        exact ⟨t, rfl, fun d r e => (by cases e), ⟨p, hps, by omega, by decide, by rw [show s.size - (s.size - a) = a by omega]; exact h1⟩, hF3.out.trans hf⟩
       ·
        have hbig2 : ¬ (1000 : Int) < (t.size : Int) := by omega
        have hbg3 : decide (1000 < t.size) = false := by rw [decide_eq_false_iff_not]; omega
        replace hbig := Hd hbig
        replace htz := Hd htz
        go_wp2
        go_ret2
        have hGe := HGG.out
        rw [if_neg hbig.out] at hGe
        subst hGe
        exact ⟨t, rfl, fun d r e => (by injection e with e1 e2; rw [<- e1]; exact ht.out.symm), ⟨p, hps, by rw [show a + (1 + j) = p by have := hp2.out; omega], hR3.out⟩, hF3.out⟩
 ·
  have hae : a = s.size := by omega
  have hb : ((a : Int) == (s.size : Int)) = true := by rw [beq_iff_eq]; omega
  have hL : numG (tl s a) = lost (tl s a) := by unfold numG; rw [if_pos (by rw [tl_end (by omega)]; rfl)]
  replace hae := Hd hae
  rw [hL]
  have CR := Hd (fun W (hW : Below w.heap.size w W) => refuse_any g mb a s W (h.below hW) ha hs)
  have hbd : Below w.heap.size w w.drew := brf.drew
  clear h
  go_enter Tryz.func158, Tryz.ntmps158
  go_wp2
  refine wp_region_mix (S := (fun x => x = w.drew)) [(0, .q), (1, .q), (2, .q), (3, .q), (4, .q), (5, .q), (6, .q), (7, .q), (8, .q), (9, .q), (10, .q), (11, .q), (12, .q), (13, .q), (14, .q), (15, .q), (16, .q), (17, .q), (18, .q), (19, .q), (20, .t), (21, .p), (22, .p)] (by kernel_rfl) (by kernel_rfl) (by kernel_rfl) (fun d _ _ _ _ h => by cases d <;> exact h) (rfl) ?_
  iterate 11 (refine wpMix_q rfl rfl (fun K hK => ?_); apply Exists.intro; refine ⟨fun w' hw' => ?_, ?_⟩; (focus (go_simp; try rfl)); go_simp; refine hK _ _ ?_; clear hK K)
  iterate 11 (refine wpMix_skip rfl rfl (fun K hK => ?_); go_simp; refine hK _ _ ?_; clear hK K)
  iterate 1 (refine wpMix_p rfl rfl (fun K hK => ?_); apply Exists.intro; refine ⟨fun w' => ?_, ?_⟩; (focus (go_simp; try rfl)); go_simp; refine hK _ _ ?_; clear hK K)
  refine wpMix_nil ?_
  go_wp2_with fail
  refine (CR.out w.drew hbd).mono ?_
  rintro e w1 ⟨rfl, h1, hf⟩
  go_wp2
  go_ret2
  exact ⟨⟨#[]⟩, rfl, fun d r e => absurd e fun e => lost_ok e, lost_unit h1, (Fr.below hbd).trans hf⟩
end Go.Proofs.YtkjnkpkagcboeaaGreatDoor
namespace Go.Proofs
open Go.Shelf
def Tryz.lays172_ren : Go.Shelf.Ren := ⟨fun | 172 => 135 | 244 => 171 | 245 => 172 | 247 => 197 | 279 => 198 | 280 => 199 | 281 => 200 | 282 => 201 | 287 => 220 | 316 => 221 | 171 => 49 | 205 => 222 | 321 => 229 | 322 => 230 | 243 => 95 | 246 => 137 | 283 => 178 | 284 => 179 | 285 => 180 | 286 => 181 | 129 => 210 | 317 => 209 | 318 => 211 | 319 => 212 | 320 => 213 | 337 => 227 | 338 => 228 | n => n, fun | 9 => 9 | 3 => 3 | 75 => 65 | 76 => 66 | 4 => 4 | 5 => 5 | 167 => 202 | 37 => 60 | 0 => 0 | 85 => 203 | 2 => 2 | 168 => 205 | 53 => 112 | 175 => 225 | 46 => 181 | 210 => 229 | 127 => 108 | 145 => 235 | 143 => 233 | 21 => 21 | 171 => 193 | 173 => 196 | 212 => 213 | 51 => 180 | 20 => 20 | 213 => 214 | 232 => 236 | 233 => 237 | 80 => 69 | n => n, fun | 15 => 4 | 16 => 5 | 17 => 1 | 18 => 6 | 19 => 7 | n => n⟩
theorem Tryz.lays172 : Go.Proofs.LaysC.n172 Tryz.prog Tryz.lays172_ren := {
  mixed := by kernel_rfl
  f129 := Tryz.func210.trans (congrArg some (by kernel_rfl))
  f171 := Tryz.func49.trans (congrArg some (by kernel_rfl))
  f172 := Tryz.func135.trans (congrArg some (by kernel_rfl))
  f205 := Tryz.func222.trans (congrArg some (by kernel_rfl))
  f243 := Tryz.func95.trans (congrArg some (by kernel_rfl))
  f244 := Tryz.func171.trans (congrArg some (by kernel_rfl))
  f245 := Tryz.func172.trans (congrArg some (by kernel_rfl))
  f246 := Tryz.func137.trans (congrArg some (by kernel_rfl))
  f247 := Tryz.func197.trans (congrArg some (by kernel_rfl))
  f279 := Tryz.func198.trans (congrArg some (by kernel_rfl))
  f280 := Tryz.func199.trans (congrArg some (by kernel_rfl))
  f281 := Tryz.func200.trans (congrArg some (by kernel_rfl))
  f282 := Tryz.func201.trans (congrArg some (by kernel_rfl))
  f283 := Tryz.func178.trans (congrArg some (by kernel_rfl))
  f284 := Tryz.func179.trans (congrArg some (by kernel_rfl))
  f285 := Tryz.func180.trans (congrArg some (by kernel_rfl))
  f286 := Tryz.func181.trans (congrArg some (by kernel_rfl))
  f287 := Tryz.func220.trans (congrArg some (by kernel_rfl))
  f316 := Tryz.func221.trans (congrArg some (by kernel_rfl))
  f317 := Tryz.func209.trans (congrArg some (by kernel_rfl))
  f318 := Tryz.func211.trans (congrArg some (by kernel_rfl))
  f319 := Tryz.func212.trans (congrArg some (by kernel_rfl))
  f320 := Tryz.func213.trans (congrArg some (by kernel_rfl))
  f321 := Tryz.func229.trans (congrArg some (by kernel_rfl))
  f322 := Tryz.func230.trans (congrArg some (by kernel_rfl))
  f337 := Tryz.func227.trans (congrArg some (by kernel_rfl))
  f338 := Tryz.func228.trans (congrArg some (by kernel_rfl))
  t0 := Tryz.underlying0
  a0 := Tryz.isAgg0
  z0 := Tryz.sizeOf0
  v0 := Tryz.zeroValue0
  t2 := Tryz.underlying2
  a2 := Tryz.isAgg2
  z2 := Tryz.sizeOf2
  v2 := Tryz.zeroValue2
  t3 := Tryz.underlying3
  a3 := Tryz.isAgg3
  z3 := Tryz.sizeOf3
  v3 := Tryz.zeroValue3
  t4 := Tryz.underlying4
  a4 := Tryz.isAgg4
  z4 := Tryz.sizeOf4
  v4 := Tryz.zeroValue4
  t5 := Tryz.underlying5
  a5 := Tryz.isAgg5
  z5 := Tryz.sizeOf5
  v5 := Tryz.zeroValue5
  t9 := Tryz.underlying9
  a9 := Tryz.isAgg9
  z9 := Tryz.sizeOf9
  v9 := Tryz.zeroValue9
  t20 := Tryz.underlying20
  a20 := Tryz.isAgg20
  z20 := Tryz.sizeOf20
  v20 := Tryz.zeroValue20
  t21 := Tryz.underlying21
  a21 := Tryz.isAgg21
  z21 := Tryz.sizeOf21
  v21 := Tryz.zeroValue21
  t37 := Tryz.underlying60
  a37 := Tryz.isAgg60
  z37 := Tryz.sizeOf60
  v37 := Tryz.zeroValue60
  t46 := Tryz.underlying181
  a46 := Tryz.isAgg181
  z46 := Tryz.sizeOf181
  v46 := Tryz.zeroValue181
  t51 := Tryz.underlying180
  a51 := Tryz.isAgg180
  z51 := Tryz.sizeOf180
  v51 := Tryz.zeroValue180
  t53 := Tryz.underlying112
  a53 := Tryz.isAgg112
  z53 := Tryz.sizeOf112
  v53 := Tryz.zeroValue112
  t75 := Tryz.underlying65
  a75 := Tryz.isAgg65
  z75 := Tryz.sizeOf65
  v75 := Tryz.zeroValue65
  t76 := Tryz.underlying66
  a76 := Tryz.isAgg66
  z76 := Tryz.sizeOf66
  v76 := Tryz.zeroValue66
  t85 := Tryz.underlying203
  a85 := Tryz.isAgg203
  z85 := Tryz.sizeOf203
  v85 := Tryz.zeroValue203
  t127 := Tryz.underlying108
  a127 := Tryz.isAgg108
  z127 := Tryz.sizeOf108
  v127 := Tryz.zeroValue108
  t143 := Tryz.underlying233
  a143 := Tryz.isAgg233
  z143 := Tryz.sizeOf233
  v143 := Tryz.zeroValue233
  t145 := Tryz.underlying235
  a145 := Tryz.isAgg235
  z145 := Tryz.sizeOf235
  v145 := Tryz.zeroValue235
  t167 := Tryz.underlying202
  a167 := Tryz.isAgg202
  z167 := Tryz.sizeOf202
  v167 := Tryz.zeroValue202
  t168 := Tryz.underlying205
  a168 := Tryz.isAgg205
  z168 := Tryz.sizeOf205
  v168 := Tryz.zeroValue205
  t171 := Tryz.underlying193
  a171 := Tryz.isAgg193
  z171 := Tryz.sizeOf193
  v171 := Tryz.zeroValue193
  t173 := Tryz.underlying196
  a173 := Tryz.isAgg196
  z173 := Tryz.sizeOf196
  v173 := Tryz.zeroValue196
  t175 := Tryz.underlying225
  a175 := Tryz.isAgg225
  z175 := Tryz.sizeOf225
  v175 := Tryz.zeroValue225
  t210 := Tryz.underlying229
  a210 := Tryz.isAgg229
  z210 := Tryz.sizeOf229
  v210 := Tryz.zeroValue229
  t212 := Tryz.underlying213
  a212 := Tryz.isAgg213
  z212 := Tryz.sizeOf213
  v212 := Tryz.zeroValue213
  t213 := Tryz.underlying214
  a213 := Tryz.isAgg214
  z213 := Tryz.sizeOf214
  t232 := Tryz.underlying236
  a232 := Tryz.isAgg236
  z232 := Tryz.sizeOf236
  v232 := Tryz.zeroValue236
  t233 := Tryz.underlying237
  a233 := Tryz.isAgg237
  z233 := Tryz.sizeOf237
  v233 := Tryz.zeroValue237
  g15 := by kernel_rfl
  g16 := by kernel_rfl
  g17 := by kernel_rfl
  g18 := by kernel_rfl
  g19 := by kernel_rfl
  t80 := Tryz.underlying69
  a80 := Tryz.isAgg69
  z80 := Tryz.sizeOf69
  v80 := Tryz.zeroValue69
  i0 := by kernel_rfl
  i2 := by kernel_rfl
  i3 := by kernel_rfl
  i4 := by kernel_rfl
  i5 := by kernel_rfl
  i9 := by kernel_rfl
  i20 := by kernel_rfl
  i21 := by kernel_rfl
  i37 := by kernel_rfl
  i46 := by kernel_rfl
  i51 := by kernel_rfl
  i53 := by kernel_rfl
  i75 := by kernel_rfl
  i76 := by kernel_rfl
  i80 := by kernel_rfl
  i85 := by kernel_rfl
  i127 := by kernel_rfl
  i143 := by kernel_rfl
  i145 := by kernel_rfl
  i167 := by kernel_rfl
  i168 := by kernel_rfl
  i171 := by kernel_rfl
  i173 := by kernel_rfl
  i175 := by kernel_rfl
  i210 := by kernel_rfl
  i212 := by kernel_rfl
  i232 := by kernel_rfl
  i233 := by kernel_rfl
  m15 := by kernel_rfl
  m16 := by kernel_rfl
  m17 := by kernel_rfl
  m18 := by kernel_rfl
  m19 := by kernel_rfl
  c0 := by kernel_rfl
  c2 := by kernel_rfl
  c3 := by kernel_rfl
  c4 := by kernel_rfl
  c5 := by kernel_rfl
  c9 := by kernel_rfl
  c20 := by kernel_rfl
  c21 := by kernel_rfl
  c37 := by kernel_rfl
  c46 := by kernel_rfl
  c51 := by kernel_rfl
  c53 := by kernel_rfl
  c75 := by kernel_rfl
  c76 := by kernel_rfl
  c80 := by kernel_rfl
  c85 := by kernel_rfl
  c127 := by kernel_rfl
  c143 := by kernel_rfl
  c145 := by kernel_rfl
  c167 := by kernel_rfl
  c168 := by kernel_rfl
  c171 := by kernel_rfl
  c173 := by kernel_rfl
  c175 := by kernel_rfl
  c210 := by kernel_rfl
  c212 := by kernel_rfl
  c213 := by kernel_rfl
  c232 := by kernel_rfl
  c233 := by kernel_rfl }
end Go.Proofs
namespace Go.Proofs.YtkjnkpkagcboeaaGreatDoor
open Go.RowKit
theorem fold_ge : ∀ (l : List UInt8) (a : Nat), a <= l.foldl (fun a c => 10 * a + (c.toNat - 48)) a
 | [], a => nlr _
 | c :: l, a => by rw [List.foldl_cons]; exact Nat.le_trans (by omega) (fold_ge l _)
theorem par_num : ∀ (l : List UInt8) (a : Nat), a < 18446744073709551616 -> (∀ c ∈ l, digU c = true) -> (Lib.parseUint10 a l = .ok (l.foldl (fun a c => 10 * a + (c.toNat - 48)) a) /\ l.foldl (fun a c => 10 * a + (c.toNat - 48)) a < 18446744073709551616) \/
  (Lib.parseUint10 a l = .range /\ 18446744073709551616 <= l.foldl (fun a c => 10 * a + (c.toNat - 48)) a)
 | [], a, h, _ => .inl ⟨rfl, h⟩
 | c :: l, a, h, hd => by
  have h2 := hd c (by simp)
  unfold digU digV at h2
  rw [decide_eq_true_eq] at h2
  have hg := fold_ge l (10 * a + (c.toNat - 48))
  rw [List.foldl_cons, Lib.parseUint10, if_pos (by omega)]
  by_cases h3 : 1844674407370955162 <= a
  ·
   rw [if_pos h3]
   exact .inr ⟨rfl, by omega⟩
  ·
   rw [if_neg h3, Nat.mul_comm a 10]
   by_cases h4 : 18446744073709551616 <= 10 * a + (c.toNat - 48)
   ·
    rw [if_pos h4]
    exact .inr ⟨rfl, by omega⟩
   ·
    rw [if_neg h4]
    exact par_num l _ (by omega) fun x hx => hd x (by simp [hx])
theorem atoi_num {l : List UInt8} (h0 : l ≠ []) (hd : ∀ c ∈ l, digU c = true) : (Lib.atoiAll l = .ok (decL l : Nat) /\ decL l < 9223372036854775808) \/ (Lib.atoiAll l = .range /\ 9223372036854775808 <= decL l) := by
 cases l with
 | nil => exact absurd rfl h0
 | cons c r =>
  have h2 := hd c (by simp)
  unfold digU digV at h2
  rw [decide_eq_true_eq] at h2
  have hm : Lib.parseMag (c :: r) = Lib.parseUint10 0 (c :: r) := by unfold Lib.parseMag; rw [if_neg (by simp)]
  have hp := par_num (c :: r) 0 (by decide) hd
  unfold Lib.atoiAll
  simp only
  rw [if_neg (show ¬ (c.toNat = 43 \/ c.toNat = 45) by omega), hm]
  rcases hp with ⟨h1, h3⟩ | ⟨h1, h3⟩
  ·
   rw [h1]
   show (if ¬ (c.toNat = 45) /\ 9223372036854775808 <= decL (c :: r) then Lib.NumEnd.range else if c.toNat = 45 /\ 9223372036854775808 < decL (c :: r) then Lib.NumEnd.range else Lib.NumEnd.ok (if c.toNat = 45 then -(decL (c :: r) : Int) else (decL (c :: r) : Int))) = Lib.NumEnd.ok ((decL (c :: r) : Nat) : Int) /\ _ \/ _
   by_cases h4 : 9223372036854775808 <= decL (c :: r)
   · exact .inr ⟨if_pos ⟨by omega, h4⟩, h4⟩
   ·
    refine .inl ⟨?_, by omega⟩
    rw [if_neg (by omega), if_neg (by omega), if_neg (by omega)]
  · exact .inr ⟨by rw [h1], by unfold decL; omega⟩
theorem numG_ok {l d r : List UInt8} (h : numG l = .ok d r) : 0 < d.length /\ d.length <= 1000 /\ (∀ c ∈ d, digU c = true) /\ (d.length = 1 \/ d[0]? ≠ some 48) := by
 unfold numG at h
 split at h
 · exact absurd h fun e => lost_ok e
 ·
  next h0 =>
  split at h
  · cases h
  ·
   next h1 =>
   injection h with h2 h3
   cases l with
   | nil => exact absurd rfl h0
   | cons c q =>
    by_cases hc : digU c = true
    ·
     have hn := numL_run (c := c) (l := q) hc
     rw [hn, Nat.add_comm, List.take_succ_cons] at h2
     subst h2
     have hr : runD c q <= q.length := by unfold runD; split; omega; exact tw_le _ _
     refine ⟨by simp, by simp; omega, ?_, ?_⟩
     ·
      intro x hx
      rcases List.mem_cons.1 hx with rfl | hx
      · exact hc
      ·
       unfold runD at hx
       split at hx
       · simp at hx
       ·
        obtain ⟨j, hj⟩ := List.getElem?_of_mem hx
        rw [List.getElem?_take] at hj
        split at hj
        ·
         next hjl =>
         obtain ⟨y, hy, hp⟩ := tw_in (p := digU) (l := q) hjl
         rw [hy] at hj
         injection hj with hj
         subst hj
         exact hp
        · cases hj
     ·
      by_cases h48 : c = 48
      · left; unfold runD; rw [if_pos h48]; simp
      · right; simpa using h48
    · exact absurd (by rw [numL, if_neg hc]) h0
def ErrW (w : World) : Prop := ∃ te pe, w.cell? ⟨Tryz.lays172_ren.g 16, 0, none⟩ = some (.iface te pe)
theorem ErrW.below {w w' : World} (h : ErrW w) (hb : Below w.heap.size w w') : ErrW w' := by obtain ⟨te, pe, h⟩ := h; exact ⟨te, pe, held h w' hb⟩
theorem ErrW.fr {w w' : World} {g : Nat} (h : ErrW w) (hf : Fg g w w') (hg : Tryz.lays172_ren.g 16 ≠ g) : ErrW w' := by obtain ⟨te, pe, h⟩ := h; exact ⟨te, pe, hf.agr _ _ hg h⟩
theorem atoi_small (s : ByteArray) (n : Nat) (w : World) (h0 : s.data.toList ≠ []) (hd : ∀ c ∈ s.data.toList, digU c = true) (hs : s.size <= 1000) (hn : decL s.data.toList = n) (hlt : n < 9223372036854775808) :
  Calls Tryz.prog 135 #[.string s] w fun e w' => e = .returned (.tuple #[.int .i64 n, .nilIface]) /\ Below w.heap.size w w' := by
 rcases atoi_num h0 hd with ⟨h1, h2⟩ | ⟨h1, h2⟩
 ·
  rw [hn] at h1
  refine (Any.strconv_Atoi_ok Tryz.lays172 s (by omega) n h1 w).mono ?_
  rintro e w' ⟨rfl, hw⟩
  refine ⟨rfl, ?_⟩
  rcases hw with rfl | ⟨t, rfl⟩
  · exact Below.refl _ _
  · exact Lib.bytesWorld_below _ _ _
 · omega
theorem atoi_great (s : ByteArray) (w : World) (h0 : s.data.toList ≠ []) (hd : ∀ c ∈ s.data.toList, digU c = true) (hs : s.size <= 1000) (hlt : 9223372036854775808 <= decL s.data.toList) (he : ErrW w) :
  Calls Tryz.prog 135 #[.string s] w fun e w' => ∃ (x : Int) (t : TypeId) (q : Value), e = .returned (.tuple #[.int .i64 x, .iface t q]) /\ Below w.heap.size w w' := by
 rcases atoi_num h0 hd with ⟨h1, h2⟩ | ⟨h1, h2⟩
 · omega
 ·
  obtain ⟨te, pe, he⟩ := he
  refine (Any.strconv_Atoi_range Tryz.lays172 s (by omega) h1 _ w he (.inr ⟨te, pe, rfl⟩)).mono ?_
  rintro e w' ⟨N, rfl, _, _, hb⟩
  exact ⟨_, _, _, rfl, hb⟩
end Go.Proofs.YtkjnkpkagcboeaaGreatDoor
namespace Go.Proofs.YtkjnkpkagcboeaaGreatDoor
open Go.RowKit
def linesL : List UInt8 -> List (List UInt8)
 | [] => [[]]
 | c :: r => if c = 10 then [] :: linesL r else match linesL r with
  | [] => [[c]]
  | t :: q => (c :: t) :: q
theorem linesL_cut : ∀ s : List UInt8, linesL s = match cutL 10 s with
  | none => [s]
  | some (t, r) => t :: linesL r
 | [] => rfl
 | c :: r => by
  rw [linesL, cutL]
  by_cases h : c = 10
  · rw [if_pos h, if_pos h]
  ·
   rw [if_neg h, if_neg h, linesL_cut r]
   cases cutL 10 r with
   | none => rfl
   | some p => rfl
theorem linesL_len : ∀ s : List UInt8, 0 < (linesL s).length /\ (linesL s).length <= s.length + 1
 | [] => by simp [linesL]
 | c :: r => by
  have := linesL_len r
  rw [linesL, List.length_cons]
  split
  · rw [List.length_cons]; omega
  ·
   split
   · simp
   · next h => rw [h] at this; simp only [List.length_cons] at this ⊢; omega
theorem linesL_short : ∀ (s t : List UInt8), t ∈ linesL s -> t.length <= s.length
 | [], t, h => by simp [linesL] at h; subst h; simp
 | c :: r, t, h => by
  rw [linesL] at h
  rw [List.length_cons]
  split at h
  ·
   rcases List.mem_cons.1 h with e | h
   · subst e; simp
   · have := linesL_short r t h; omega
  ·
   split at h
   · rw [List.mem_singleton] at h; subst h; simp
   ·
    next t' q hq =>
    have hm := fun u (hu : u ∈ t' :: q) => linesL_short r u (by rw [hq]; exact hu)
    rcases List.mem_cons.1 h with e | h
    · subst e; have := hm t' (by simp); rw [List.length_cons]; omega
    · have := hm t (by simp [h]); omega
theorem linesL_none {s : List UInt8} (h : cutL 10 s = none) : linesL s = [s] := by rw [linesL_cut, h]
theorem linesL_some {s t r : List UInt8} (h : cutL 10 s = some (t, r)) : linesL s = t :: linesL r := by rw [linesL_cut, h]
theorem fidx_cut (b : UInt8) : ∀ (s : List UInt8) (n : Nat), fidx [b] s n = (cutL b s).map fun p => n + p.1.length
 | [], _ => rfl
 | c :: r, n => by
  unfold fidx
  rw [cutL]
  by_cases h : c = b
  ·
   subst h
   simp [List.isPrefixOf]
  ·
   have hp : List.isPrefixOf [b] (c :: r) = false := by
    simp [List.isPrefixOf]
    exact fun e => h e.symm
   rw [hp, if_neg h, if_neg (by simp), fidx_cut b r (n + 1)]
   cases cutL b r with
   | none => rfl
   | some p => simp; omega
theorem pieces_lines : ∀ (k : Nat) (s : List UInt8), s.length < k -> pieces [10] k s = linesL s
 | 0, _, h => by omega
 | k + 1, s, h => by
  unfold pieces
  rw [fidx_cut, linesL_cut]
  cases hc : cutL 10 s with
  | none => rfl
  | some p =>
   obtain ⟨t, r⟩ := p
   obtain ⟨g, _⟩ := cutL_some 10 s t r hc
   simp only [Option.map_some, Nat.zero_add]
   subst g
   have e1 : (t ++ 10 :: r).take t.length = t := by simp
   have e2 : (t ++ 10 :: r).drop (t.length + [(10 : UInt8)].length) = r := by
    rw [List.drop_append]
    simp
   rw [e1, e2, pieces_lines k r (by simp at h; omega)]
theorem split_lines (l : List UInt8) : Lib.splitB (ofL [10]) 0 (Lib.countB (ofL l) (ofL [10])) (ofL l) = (linesL l).map ofL /\ Lib.countB (ofL l) (ofL [10]) + 1 = (linesL l).length :=
 split_pieces (by simp) (l.length + 1) (pieces_lines _ l (Nat.lt_succ_self _)) (linesL_len l).2
theorem cut_cutL (b : UInt8) (s : List UInt8) : Lib.cut s [b] = match cutL b s with
  | none => (s, [], false)
  | some (t, r) => (t, r, true) := by
 unfold Lib.cut
 rcases fidx_index (sep := [b]) (by simp) s 0 with ⟨h1, h2⟩ | ⟨i, h1, h2⟩
 ·
  rw [fidx_cut] at h1
  rw [h2]
  cases hc : cutL b s with
  | none => rfl
  | some p => rw [hc] at h1; cases h1
 ·
  rw [fidx_cut] at h1
  rw [h2]
  cases hc : cutL b s with
  | none => rw [hc] at h1; cases h1
  | some p =>
   obtain ⟨t, r⟩ := p
   obtain ⟨g, _⟩ := cutL_some b s t r hc
   rw [hc] at h1
   have hi : t.length = i := by simpa using h1
   rw [if_pos (by omega)]
   subst g
   rw [Int.toNat_natCast, <- hi]
   simp [List.drop_append]
def linP (names : List ByteArray) (part : Nat) (c : CrQ) (t : List UInt8) : Option (Nat × CrQ) × Int :=
 if part = 0 then match firstQ t with
  | some c' => (some (1, c'), 0)
  | none => (none, 9)
 else if part = 3 then (none, 9)
 else if t = wEnd then (some (3, c), 0)
 else match lineQ names c t with
  | (some c', _) => (some (if c'.C = [] then 1 else 2, c'), 0)
  | (none, e) => (none, e)
def runP (names : List ByteArray) : Nat -> CrQ -> Nat -> List (List UInt8) -> CrQ × Nat × Int
 | _, _, n, [] => (noQ, n, 10)
 | part, c, n, t :: r => if r = [] then (if t = [] /\ part = 3 then (c, 0, 0) else (noQ, n, 10)) else match linP names part c t with
  | (some (q, c'), _) => runP names q c' (n + 1) r
  | (none, e) => (noQ, n, e)
theorem runP_one (names : List ByteArray) (part : Nat) (c : CrQ) (n : Nat) (t : List UInt8) : runP names part c n [t] = if t = [] /\ part = 3 then (c, 0, 0) else (noQ, n, 10) := by rw [runP, if_pos rfl]
theorem runP_more (names : List ByteArray) (part : Nat) (c : CrQ) (n : Nat) (t s : List UInt8) : runP names part c n (t :: linesL s) = match linP names part c t with
  | (some (q, c'), _) => runP names q c' (n + 1) (linesL s)
  | (none, e) => (noQ, n, e) := by
 rw [runP, if_neg fun h => by have := (linesL_len s).1; rw [h] at this; exact absurd this (by simp)]
def partQ (c : CrQ) : Nat := if c.C = [] then 1 else 2
theorem runP_rest (names : List ByteArray) : ∀ (f n : Nat) (c : CrQ) (s : List UInt8), s.length < f -> runP names (partQ c) c n (linesL s) = restQ names f n c s
 | 0, _, _, _, h => by omega
 | f + 1, n, c, s, h => by
  have hp : partQ c ≠ 3 /\ partQ c ≠ 0 := by unfold partQ; split <;> decide
  rw [restQ]
  cases hc : cutL 10 s with
  | none => rw [linesL_none hc, runP_one, if_neg fun e => hp.1 e.2]
  | some p =>
   obtain ⟨t, r⟩ := p
   obtain ⟨g, _⟩ := cutL_some 10 s t r hc
   rw [linesL_some hc, runP_more]
   unfold linP
   rw [if_neg hp.2, if_neg hp.1]
   dsimp only
   by_cases he : t = wEnd
   ·
    rw [if_pos he, if_pos he]
    dsimp only
    cases hr : cutL 10 r with
    | none =>
     rw [linesL_none hr, runP_one]
     by_cases h0 : r = []
     · rw [if_pos h0, if_pos ⟨h0, rfl⟩]
     · rw [if_neg h0, if_neg fun e => h0 e.1]
    | some p =>
     obtain ⟨t', r'⟩ := p
     have h0 : r ≠ [] := fun e => by rw [e] at hr; cases hr
     rw [linesL_some hr, runP_more, if_neg h0]
     rfl
   ·
    rw [if_neg he, if_neg he]
    rcases hl : lineQ names c t with ⟨_ | c', e⟩
    · rfl
    ·
     dsimp only
     exact runP_rest names f (n + 1) c' r (by rw [g] at h; simp at h; omega)
theorem runP_read (names : List ByteArray) (s : List UInt8) : runP names 0 noQ 1 (linesL s) = readQ names s := by
 unfold readQ
 cases hc : cutL 10 s with
 | none => rw [linesL_none hc, runP_one, if_neg fun e => by cases e.2]
 | some p =>
  obtain ⟨t, r⟩ := p
  rw [linesL_some hc, runP_more]
  unfold linP
  rw [if_pos rfl]
  dsimp only
  cases hf : firstQ t with
  | none => rfl
  | some c =>
   have h0 : c.C = [] := by
    unfold firstQ at hf
    split at hf
    ·
     split at hf
     · obtain ⟨n, _, rfl⟩ := Option.map_eq_some_iff.1 hf; rfl
     · cases hf
    · cases hf
   have := runP_rest names (r.length + 1) 2 c r (Nat.lt_succ_self _)
   unfold partQ at this
   rw [if_pos h0] at this
   exact this
theorem numC_one (s : List UInt8) : numC 1 s = if numC 0 s = some 0 then none else numC 0 s := by
 cases h : numC 0 s with
 | none =>
  rw [if_neg (by simp)]
  cases h1 : numC 1 s with
  | none => rfl
  | some n =>
   obtain ⟨a, b, c⟩ := numC_some h1
   rw [<- c, numC_text (Nat.zero_le _) b] at h
   cases h
 | some n =>
  obtain ⟨_, b, c⟩ := numC_some h
  by_cases h0 : n = 0
  ·
   subst h0
   rw [if_pos rfl]
   cases h1 : numC 1 s with
   | none => rfl
   | some m =>
    obtain ⟨a1, b1, c1⟩ := numC_some h1
    have := textN_inj (c1.trans c.symm)
    omega
  ·
   rw [if_neg (by simpa using h0), <- c]
   exact numC_text (by omega) b
theorem textN_dig (n : Nat) : textN n ≠ [] /\ ∀ c ∈ textN n, digU c = true := by
 unfold textN
 split
 · exact ⟨by simp, by intro c hc; simp at hc; subst hc; decide⟩
 · next h => exact ⟨fun e => by rw [digs_pos h] at e; simp at e, digs_all n⟩
theorem numC_atoi {s : List UInt8} {n : Nat} (h : numC 0 s = some n) : Lib.atoiAll s = .ok n := by
 obtain ⟨_, b, c⟩ := numC_some h
 obtain ⟨h0, hd⟩ := textN_dig n
 rw [c] at h0 hd
 rcases atoi_num h0 hd with ⟨h1, h2⟩ | ⟨h1, h2⟩
 · rw [h1, <- c, decL_text]
 · rw [<- c, decL_text] at h2; omega
theorem numC_of {s : List UInt8} {v : Int} (h : Lib.atoiAll s = .ok v) : numC 0 s = if 0 <= v /\ v <= 64 /\ textN v.toNat = s then some v.toNat else none := by
 cases hn : numC 0 s with
 | none =>
  rw [if_neg]
  rintro ⟨h0, h1, h2⟩
  rw [<- h2, numC_text (Nat.zero_le _) (by omega)] at hn
  cases hn
 | some n =>
  have h1 := numC_atoi hn
  rw [h] at h1
  injection h1 with h1
  subst h1
  obtain ⟨_, b, c⟩ := numC_some hn
  rw [if_pos ⟨by omega, by omega, by rw [Int.toNat_natCast]; exact c⟩, Int.toNat_natCast]
end Go.Proofs.YtkjnkpkagcboeaaGreatDoor
namespace Go.Proofs
open Go.Shelf
def Tryz.lays146_ren : Go.Shelf.Ren := ⟨fun | 146 => 41 | 221 => 88 | 268 => 131 | 138 => 132 | 143 => 133 | 195 => 167 | 197 => 168 | 218 => 169 | 219 => 170 | 260 => 192 | 217 => 193 | 225 => 194 | 224 => 195 | 267 => 196 | 266 => 218 | 314 => 219 | n => n, fun | 9 => 9 | 31 => 24 | 3 => 3 | 4 => 4 | 0 => 0 | 105 => 186 | 21 => 21 | 5 => 5 | 46 => 181 | 119 => 219 | 139 => 222 | 138 => 221 | 146 => 223 | 51 => 180 | n => n, fun | 1 => 0 | 3 => 2 | 4 => 3 | n => n⟩
theorem Tryz.lays146 : Go.Proofs.LaysM.n146 Tryz.prog Tryz.lays146_ren := {
  mixed := by kernel_rfl
  f138 := Tryz.func132.trans (congrArg some (by kernel_rfl))
  f143 := Tryz.func133.trans (congrArg some (by kernel_rfl))
  f146 := Tryz.func41.trans (congrArg some (by kernel_rfl))
  f195 := Tryz.func167.trans (congrArg some (by kernel_rfl))
  f197 := Tryz.func168.trans (congrArg some (by kernel_rfl))
  f217 := Tryz.func193.trans (congrArg some (by kernel_rfl))
  f218 := Tryz.func169.trans (congrArg some (by kernel_rfl))
  f219 := Tryz.func170.trans (congrArg some (by kernel_rfl))
  f221 := Tryz.func88.trans (congrArg some (by kernel_rfl))
  f224 := Tryz.func195.trans (congrArg some (by kernel_rfl))
  f225 := Tryz.func194.trans (congrArg some (by kernel_rfl))
  f260 := Tryz.func192.trans (congrArg some (by kernel_rfl))
  f266 := Tryz.func218.trans (congrArg some (by kernel_rfl))
  f267 := Tryz.func196.trans (congrArg some (by kernel_rfl))
  f268 := Tryz.func131.trans (congrArg some (by kernel_rfl))
  f314 := Tryz.func219.trans (congrArg some (by kernel_rfl))
  t0 := Tryz.underlying0
  a0 := Tryz.isAgg0
  z0 := Tryz.sizeOf0
  v0 := Tryz.zeroValue0
  t3 := Tryz.underlying3
  a3 := Tryz.isAgg3
  z3 := Tryz.sizeOf3
  v3 := Tryz.zeroValue3
  t4 := Tryz.underlying4
  a4 := Tryz.isAgg4
  z4 := Tryz.sizeOf4
  v4 := Tryz.zeroValue4
  t5 := Tryz.underlying5
  a5 := Tryz.isAgg5
  z5 := Tryz.sizeOf5
  v5 := Tryz.zeroValue5
  t9 := Tryz.underlying9
  a9 := Tryz.isAgg9
  z9 := Tryz.sizeOf9
  v9 := Tryz.zeroValue9
  t21 := Tryz.underlying21
  a21 := Tryz.isAgg21
  z21 := Tryz.sizeOf21
  v21 := Tryz.zeroValue21
  t31 := Tryz.underlying24
  a31 := Tryz.isAgg24
  z31 := Tryz.sizeOf24
  v31 := Tryz.zeroValue24
  t46 := Tryz.underlying181
  a46 := Tryz.isAgg181
  z46 := Tryz.sizeOf181
  v46 := Tryz.zeroValue181
  t51 := Tryz.underlying180
  a51 := Tryz.isAgg180
  z51 := Tryz.sizeOf180
  v51 := Tryz.zeroValue180
  t105 := Tryz.underlying186
  a105 := Tryz.isAgg186
  z105 := Tryz.sizeOf186
  v105 := Tryz.zeroValue186
  t119 := Tryz.underlying219
  a119 := Tryz.isAgg219
  z119 := Tryz.sizeOf219
  t138 := Tryz.underlying221
  a138 := Tryz.isAgg221
  z138 := Tryz.sizeOf221
  v138 := Tryz.zeroValue221
  t139 := Tryz.underlying222
  a139 := Tryz.isAgg222
  z139 := Tryz.sizeOf222
  v139 := Tryz.zeroValue222
  t146 := Tryz.underlying223
  a146 := Tryz.isAgg223
  z146 := Tryz.sizeOf223
  v146 := Tryz.zeroValue223
  g1 := by kernel_rfl
  g3 := by kernel_rfl
  g4 := by kernel_rfl
  i0 := by kernel_rfl
  i3 := by kernel_rfl
  i4 := by kernel_rfl
  i5 := by kernel_rfl
  i9 := by kernel_rfl
  i21 := by kernel_rfl
  i31 := by kernel_rfl
  i46 := by kernel_rfl
  i51 := by kernel_rfl
  i105 := by kernel_rfl
  i138 := by kernel_rfl
  i139 := by kernel_rfl
  i146 := by kernel_rfl
  m1 := by kernel_rfl
  s1_3 := fun w h => Go.Proofs.cell_of_shapedOpen_int (zero := #[.int .i64 0]) (t := 3) h (of_decide_eq_true (by kernel_rfl)) (by kernel_rfl) rfl (by kernel_rfl) (by kernel_rfl) Tryz.underlying3
  m3 := by kernel_rfl
  m4 := by kernel_rfl }
end Go.Proofs
namespace Go.Proofs.YtkjnkpkagcboeaaGreatDoor
open Go.RowKit
def MaxL (w : World) : Prop := ∃ m, w.cell? ⟨Tryz.lays146_ren.g 1, 0, none⟩ = some (.int .i64 m)
theorem MaxL.of {w : World} (h : w.ShapedOpen Tryz.prog) : MaxL w := Tryz.lays146.s1_3 w h
theorem MaxL.ext {w w' : World} (h : MaxL w) (e : Ext w w') : MaxL w' := h.imp fun _ hm => e _ _ hm
theorem split_any (s sep : ByteArray) (w : World) (h : MaxL w) (hs : s.size < 4294967281) (h1 : 1 <= sep.size) :
  Calls Tryz.prog 41 #[.string s, .string sep] w fun e w' =>
   e = .returned (.slice (some ⟨w.heap.size, 0, none⟩) (Lib.countB s sep + 1) (Lib.countB s sep + 1)) /\ w' = w.alloc (.cells ((Lib.splitB sep 0 (Lib.countB s sep) s).map Value.string).toArray 9) :=
 let ⟨m, hm⟩ := h
 Any.strings_Split { Tryz.lays146 with } Tryz.lays146.i9 s sep m w hs hm h1
end Go.Proofs.YtkjnkpkagcboeaaGreatDoor
namespace Go.Proofs
open Go.Shelf
def Tryz.lays171_ren : Go.Shelf.Ren := ⟨fun | 171 => 49 | 243 => 95 | 246 => 137 | 283 => 178 | 284 => 179 | 285 => 180 | 286 => 181 | 129 => 210 | 317 => 209 | 318 => 211 | 319 => 212 | 320 => 213 | 337 => 227 | 338 => 228 | n => n, fun | 3 => 3 | 9 => 9 | 2 => 2 | 4 => 4 | 171 => 193 | 0 => 0 | 53 => 112 | 37 => 60 | 5 => 5 | 173 => 196 | 212 => 213 | 51 => 180 | 20 => 20 | 213 => 214 | 46 => 181 | 232 => 236 | 233 => 237 | n => n, fun | 17 => 1 | 18 => 6 | 19 => 7 | n => n⟩
theorem Tryz.lays171 : Go.Proofs.LaysM.n171 Tryz.prog Tryz.lays171_ren := {
  mixed := by kernel_rfl
  f129 := Tryz.func210.trans (congrArg some (by kernel_rfl))
  f171 := Tryz.func49.trans (congrArg some (by kernel_rfl))
  f243 := Tryz.func95.trans (congrArg some (by kernel_rfl))
  f246 := Tryz.func137.trans (congrArg some (by kernel_rfl))
  f283 := Tryz.func178.trans (congrArg some (by kernel_rfl))
  f284 := Tryz.func179.trans (congrArg some (by kernel_rfl))
  f285 := Tryz.func180.trans (congrArg some (by kernel_rfl))
  f286 := Tryz.func181.trans (congrArg some (by kernel_rfl))
  f317 := Tryz.func209.trans (congrArg some (by kernel_rfl))
  f318 := Tryz.func211.trans (congrArg some (by kernel_rfl))
  f319 := Tryz.func212.trans (congrArg some (by kernel_rfl))
  f320 := Tryz.func213.trans (congrArg some (by kernel_rfl))
  f337 := Tryz.func227.trans (congrArg some (by kernel_rfl))
  f338 := Tryz.func228.trans (congrArg some (by kernel_rfl))
  t0 := Tryz.underlying0
  a0 := Tryz.isAgg0
  z0 := Tryz.sizeOf0
  v0 := Tryz.zeroValue0
  t2 := Tryz.underlying2
  a2 := Tryz.isAgg2
  z2 := Tryz.sizeOf2
  v2 := Tryz.zeroValue2
  t3 := Tryz.underlying3
  a3 := Tryz.isAgg3
  z3 := Tryz.sizeOf3
  v3 := Tryz.zeroValue3
  t4 := Tryz.underlying4
  a4 := Tryz.isAgg4
  z4 := Tryz.sizeOf4
  v4 := Tryz.zeroValue4
  t5 := Tryz.underlying5
  a5 := Tryz.isAgg5
  z5 := Tryz.sizeOf5
  v5 := Tryz.zeroValue5
  t9 := Tryz.underlying9
  a9 := Tryz.isAgg9
  z9 := Tryz.sizeOf9
  v9 := Tryz.zeroValue9
  t20 := Tryz.underlying20
  a20 := Tryz.isAgg20
  z20 := Tryz.sizeOf20
  v20 := Tryz.zeroValue20
  t37 := Tryz.underlying60
  a37 := Tryz.isAgg60
  z37 := Tryz.sizeOf60
  v37 := Tryz.zeroValue60
  t46 := Tryz.underlying181
  a46 := Tryz.isAgg181
  z46 := Tryz.sizeOf181
  v46 := Tryz.zeroValue181
  t51 := Tryz.underlying180
  a51 := Tryz.isAgg180
  z51 := Tryz.sizeOf180
  v51 := Tryz.zeroValue180
  t53 := Tryz.underlying112
  a53 := Tryz.isAgg112
  z53 := Tryz.sizeOf112
  v53 := Tryz.zeroValue112
  t171 := Tryz.underlying193
  a171 := Tryz.isAgg193
  z171 := Tryz.sizeOf193
  v171 := Tryz.zeroValue193
  t173 := Tryz.underlying196
  a173 := Tryz.isAgg196
  z173 := Tryz.sizeOf196
  v173 := Tryz.zeroValue196
  t212 := Tryz.underlying213
  a212 := Tryz.isAgg213
  z212 := Tryz.sizeOf213
  v212 := Tryz.zeroValue213
  t213 := Tryz.underlying214
  a213 := Tryz.isAgg214
  z213 := Tryz.sizeOf214
  t232 := Tryz.underlying236
  a232 := Tryz.isAgg236
  z232 := Tryz.sizeOf236
  v232 := Tryz.zeroValue236
  t233 := Tryz.underlying237
  a233 := Tryz.isAgg237
  z233 := Tryz.sizeOf237
  v233 := Tryz.zeroValue237
  g17 := by kernel_rfl
  g18 := by kernel_rfl
  g19 := by kernel_rfl
  i0 := by kernel_rfl
  i2 := by kernel_rfl
  i3 := by kernel_rfl
  i4 := by kernel_rfl
  i5 := by kernel_rfl
  i9 := by kernel_rfl
  i20 := by kernel_rfl
  i37 := by kernel_rfl
  i46 := by kernel_rfl
  i51 := by kernel_rfl
  i53 := by kernel_rfl
  i171 := by kernel_rfl
  i173 := by kernel_rfl
  i212 := by kernel_rfl
  i232 := by kernel_rfl
  i233 := by kernel_rfl
  m17 := by kernel_rfl
  m18 := by kernel_rfl
  m19 := by kernel_rfl }
end Go.Proofs
namespace Go.Proofs.YtkjnkpkagcboeaaGreatDoor
open Go.RowKit
def TabW (w : World) : Prop := Lib.TabIs Tryz.prog w "internal/strconv.uint64pow10" .u64 Lib.pow10Tab
theorem TabW.below {w w' : World} (h : TabW w) (hb : Below w.heap.size w w') : TabW w' := Lib.tabBelow_of_tabIs h w' hb
theorem dec_text (n : Nat) : Lib.decDigits n = textN n := by
 induction n using Nat.strongRecOn with
 | _ n ih =>
  rw [Lib.decDigits]
  split
  · next h => rw [textN_small (by omega)]
  ·
   next h =>
   rw [ih (n / 10) (by omega)]
   unfold textN
   rw [if_neg (by omega), if_neg (by omega), digs_pos (show n ≠ 0 by omega)]
   first | done | rfl
theorem itoaN_any (n : Nat) (w : World) (ht : TabW w) (hn : n <= 9223372036854775807) :
  Calls Tryz.prog 49 #[.int .i64 n] w fun e w' => e = .returned (.string (ofL (textN n))) /\ Below w.heap.size w w' := by
 refine (Any.strconv_Itoa Tryz.lays171 n (by omega) (by omega) w ht).mono ?_
 rintro e w' ⟨rfl, k, os, rfl⟩
 refine ⟨ret_str ?_, Lib.below_grow _ _ (nlr _) _ _⟩
 unfold Lib.itoa
 rw [if_neg (by omega), Int.toNat_natCast, dec_text]
 first | done | rfl
end Go.Proofs.YtkjnkpkagcboeaaGreatDoor
namespace Go.Proofs
open Go.Shelf
def Tryz.lays145_ren : Go.Shelf.Ren := ⟨fun | 145 => 89 | 220 => 134 | 219 => 170 | 217 => 193 | 225 => 194 | 224 => 195 | 267 => 196 | 266 => 218 | 314 => 219 | n => n, fun | 9 => 9 | 4 => 4 | 59 => 90 | 3 => 3 | 5 => 5 | 46 => 181 | 146 => 223 | 51 => 180 | n => n, fun | 1 => 0 | n => n⟩
theorem Tryz.lays145 : Go.Proofs.LaysM.n145 Tryz.prog Tryz.lays145_ren := {
  mixed := by kernel_rfl
  f145 := Tryz.func89.trans (congrArg some (by kernel_rfl))
  f217 := Tryz.func193.trans (congrArg some (by kernel_rfl))
  f219 := Tryz.func170.trans (congrArg some (by kernel_rfl))
  f220 := Tryz.func134.trans (congrArg some (by kernel_rfl))
  f224 := Tryz.func195.trans (congrArg some (by kernel_rfl))
  f225 := Tryz.func194.trans (congrArg some (by kernel_rfl))
  f266 := Tryz.func218.trans (congrArg some (by kernel_rfl))
  f267 := Tryz.func196.trans (congrArg some (by kernel_rfl))
  f314 := Tryz.func219.trans (congrArg some (by kernel_rfl))
  t3 := Tryz.underlying3
  a3 := Tryz.isAgg3
  z3 := Tryz.sizeOf3
  v3 := Tryz.zeroValue3
  t4 := Tryz.underlying4
  a4 := Tryz.isAgg4
  z4 := Tryz.sizeOf4
  v4 := Tryz.zeroValue4
  t5 := Tryz.underlying5
  a5 := Tryz.isAgg5
  z5 := Tryz.sizeOf5
  v5 := Tryz.zeroValue5
  t9 := Tryz.underlying9
  a9 := Tryz.isAgg9
  z9 := Tryz.sizeOf9
  v9 := Tryz.zeroValue9
  t46 := Tryz.underlying181
  a46 := Tryz.isAgg181
  z46 := Tryz.sizeOf181
  v46 := Tryz.zeroValue181
  t51 := Tryz.underlying180
  a51 := Tryz.isAgg180
  z51 := Tryz.sizeOf180
  v51 := Tryz.zeroValue180
  t59 := Tryz.underlying90
  a59 := Tryz.isAgg90
  z59 := Tryz.sizeOf90
  v59 := Tryz.zeroValue90
  t146 := Tryz.underlying223
  a146 := Tryz.isAgg223
  z146 := Tryz.sizeOf223
  v146 := Tryz.zeroValue223
  g1 := by kernel_rfl
  i3 := by kernel_rfl
  i4 := by kernel_rfl
  i5 := by kernel_rfl
  i9 := by kernel_rfl
  i46 := by kernel_rfl
  i51 := by kernel_rfl
  i59 := by kernel_rfl
  i146 := by kernel_rfl
  m1 := by kernel_rfl
  s1_3 := fun w h => Go.Proofs.cell_of_shapedOpen_int (zero := #[.int .i64 0]) (t := 3) h (of_decide_eq_true (by kernel_rfl)) (by kernel_rfl) rfl (by kernel_rfl) (by kernel_rfl) Tryz.underlying3 }
end Go.Proofs
namespace Go.Proofs.YtkjnkpkagcboeaaGreatDoor
open Go.RowKit
def cutC (l : List UInt8) : List UInt8 × List UInt8 × Bool := match cutL 32 l with
 | none => (l, [], false)
 | some (t, r) => (t, r, true)
theorem cut_any (s : ByteArray) (w : World) (h : MaxL w) (hs : s.size < 4294967281) :
  Calls Tryz.prog 89 #[.string s, .string ⟨#[32]⟩] w fun e w' => e = .returned (.tuple #[.string (ofL (cutC s.data.toList).1), .string (ofL (cutC s.data.toList).2.1), .bool (cutC s.data.toList).2.2]) /\ Below w.heap.size w w' := by
 obtain ⟨m, hm⟩ := h
 refine (Any.strings_Cut { Tryz.lays145 with } s ⟨#[32]⟩ m w hs hm).mono ?_
 rintro e w' ⟨rfl, n, rfl⟩
 have e1 : Lib.cut s.data.toList (⟨#[32]⟩ : ByteArray).data.toList = cutC s.data.toList := cut_cutL 32 _
 rw [e1]
 exact ⟨rfl, ⟨rfl, rfl, rfl, nlr _, fun _ _ => rfl⟩⟩
def ErrS (w : World) : Prop := ∃ te pe, w.cell? ⟨Tryz.lays172_ren.g 15, 0, none⟩ = some (.iface te pe)
theorem ErrS.below {w w' : World} (h : ErrS w) (hb : Below w.heap.size w w') : ErrS w' := by obtain ⟨te, pe, h⟩ := h; exact ⟨te, pe, held h w' hb⟩
theorem atoi_ok (s : ByteArray) (v : Int) (w : World) (hs : s.size <= 281474976710656) (h : Lib.atoiAll s.data.toList = .ok v) :
  Calls Tryz.prog 135 #[.string s] w fun e w' => e = .returned (.tuple #[.int .i64 v, .nilIface]) /\ Below w.heap.size w w' := by
 refine (Any.strconv_Atoi_ok Tryz.lays172 s (by omega) v h w).mono ?_
 rintro e w' ⟨rfl, hw⟩
 refine ⟨rfl, ?_⟩
 rcases hw with rfl | ⟨t, rfl⟩
 · exact Below.refl _ _
 · exact Lib.bytesWorld_below _ _ _
theorem atoi_no (s : ByteArray) (w : World) (hs : s.size <= 281474976710656) (h : ∀ v, Lib.atoiAll s.data.toList ≠ .ok v) (he : ErrW w) (hy : ErrS w) :
  Calls Tryz.prog 135 #[.string s] w fun e w' => ∃ (x : Int) (t : TypeId) (q : Value), e = .returned (.tuple #[.int .i64 x, .iface t q]) /\ Below w.heap.size w w' := by
 cases ha : Lib.atoiAll s.data.toList with
 | ok v => exact absurd ha (h v)
 | range =>
  obtain ⟨te, pe, he⟩ := he
  refine (Any.strconv_Atoi_range Tryz.lays172 s (by omega) ha _ w he (.inr ⟨te, pe, rfl⟩)).mono ?_
  rintro e w' ⟨N, rfl, _, _, hb⟩
  exact ⟨_, _, _, rfl, hb⟩
 | _ =>
  obtain ⟨te, pe, hy⟩ := hy
  refine (Any.strconv_Atoi_syntax Tryz.lays172 s (by omega) ha _ w hy (.inr ⟨te, pe, rfl⟩)).mono ?_
  rintro e w' ⟨N, rfl, _, _, hb⟩
  exact ⟨_, _, _, rfl, hb⟩
def RetNum (N : Option Nat) (w : World) (e : Ending) (w' : World) : Prop := ∃ (n : Int) (b : Bool), e = .returned (.tuple #[.int .i64 n, .bool b]) /\ Below w.heap.size w w' /\ (∀ k, N = some k -> n = k /\ b = true) /\ (N = none -> b = false)
theorem number_any (s : ByteArray) (w : World) (hs : s.size <= 281474976710656) (he : ErrW w) (hy : ErrS w) (ht : TabW w) :
  Calls Tryz.prog 90 #[.string s] w (RetNum (numC 0 s.data.toList) w) := by
 have HT := Hd (fun W (hW : Below w.heap.size w W) => ht.below hW)
 obtain ⟨N, hN⟩ : ∃ N, numC 0 s.data.toList = N := ⟨_, rfl⟩
 rw [hN]
 by_cases hok : ∃ v, Lib.atoiAll s.data.toList = .ok v
 ·
  obtain ⟨v, hv⟩ := hok
  have CA := Hd (atoi_ok s v w hs hv)
  have hf := numC_of hv
  rw [hN] at hf
  clear hN hv he hy ht
  by_cases h0 : 0 <= v
  ·
   obtain ⟨n, rfl⟩ : ∃ n : Nat, v = (n : Int) := ⟨v.toNat, by omega⟩
   rw [Int.toNat_natCast] at hf
   by_cases h64 : n <= 64
   ·
    have CI := Hd (fun W (hW : Below w.heap.size w W) => itoaN_any n W (HT.out W hW) (by omega))
    obtain ⟨b, hb⟩ : ∃ b, ((ofL (textN n)).toList == s.toList) = b := ⟨_, rfl⟩
    have hbb : (textN n = s.data.toList) ↔ b = true := by
     rw [<- hb, str_beq, decide_eq_true_iff]
     exact ⟨fun e => by rw [e, ofL_data], fun e => by rw [<- e, data_ofL]⟩
    have hN2 := Hd (show (∀ k, N = some k -> (n : Int) = k /\ b = true) /\ (N = none -> b = false) from by
     by_cases hq : textN n = s.data.toList
     ·
      rw [if_pos ⟨h0, by omega, hq⟩] at hf
      subst hf
      exact ⟨fun k hk => ⟨by injection hk with hk; rw [hk], hbb.1 hq⟩, fun h => by cases h⟩
     ·
      rw [if_neg fun h => hq h.2.2] at hf
      subst hf
      exact ⟨fun k hk => (by cases hk), fun _ => (by
       cases b
       · rfl
       · exact absurd (hbb.2 rfl) hq)⟩)
    clear hf hbb
    go_enter Tryz.func90, Tryz.ntmps90
    go_wp2_with fail
    refine CA.out.mono ?_
    rintro e w1 ⟨rfl, hb1⟩
    go_wp2_with fail
    refine (CI.out w1 hb1).mono ?_
    rintro e w2 ⟨rfl, hb2⟩
    go_wp2
    go_ret2
    exact ⟨n, b, rfl, bth hb1 hb2, hN2.out⟩
   ·
    rw [if_neg (by omega)] at hf
    subst hf
    have d1 : decide ((n : Int) <= 64) = false := by rw [decide_eq_false_iff_not]; omega
    have d2 : decide (n <= 64) = false := by rw [decide_eq_false_iff_not]; exact h64
    clear h64
    go_enter Tryz.func90, Tryz.ntmps90
    go_wp2_with fail
    refine CA.out.mono ?_
    rintro e w1 ⟨rfl, hb1⟩
    go_wp2
    go_ret2
    exact ⟨n, false, rfl, hb1, (fun k hk => by cases hk), fun _ => rfl⟩
  ·
   rw [if_neg fun h => h0 h.1] at hf
   subst hf
   have d1 : decide (0 <= v) = false := by rw [decide_eq_false_iff_not]; exact h0
   go_enter Tryz.func90, Tryz.ntmps90
   go_wp2_with fail
   refine CA.out.mono ?_
   rintro e w1 ⟨rfl, hb1⟩
   go_wp2
   go_ret2
   exact ⟨v, false, rfl, hb1, (fun k hk => by cases hk), fun _ => rfl⟩
 ·
  have hno : ∀ v, Lib.atoiAll s.data.toList ≠ .ok v := fun v h => hok ⟨v, h⟩
  have CA := Hd (atoi_no s w hs hno he hy)
  have hN0 : N = none := by
   cases N with
   | none => rfl
   | some k => exact absurd (numC_atoi hN) (hno _)
  subst hN0
  clear hok hno hN he hy ht
  go_enter Tryz.func90, Tryz.ntmps90
  go_wp2_with fail
  refine CA.out.mono ?_
  rintro e w1 ⟨x, t, q, rfl, hb1⟩
  go_wp2
  go_ret2
  exact ⟨x, false, rfl, hb1, (fun k hk => by cases hk), fun _ => rfl⟩
end Go.Proofs.YtkjnkpkagcboeaaGreatDoor
