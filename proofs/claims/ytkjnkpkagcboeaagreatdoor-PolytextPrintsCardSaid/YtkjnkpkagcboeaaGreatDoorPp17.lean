/- A monomial without the zeros at its end (the program): trim, Norm. -/
import Derived.Test.YtkjnkpkagcboeaaGreatDoorPp16
import Derived.Test.YtkjnkpkagcboeaaGreatDoorProg
import Derived.Ground.NamesProg
import Derived.Shelf.Lays
import Derived.Shelf.LaysC
import Derived.Shelf.Strconv.AtoiAll
import Derived.Test.YtkjnkpkagcboeaaGreatDoorPp12
import Derived.Test.YtkjnkpkagcboeaaGreatDoorPp9
import Derived.Test.YtkjnkpkagcboeaaGreatDoorPp1
import Derived.Deep.LoopGhost
import Derived.Test.YtkjnkpkagcboeaaGreatDoorPp15
import Derived.Test.YtkjnkpkagcboeaaGreatDoorPp2
set_option linter.all false
set_option maxRecDepth 100000
set_option maxHeartbeats 4000000
namespace Go.Proofs.YtkjnkpkagcboeaaGreatDoor
open Go.RowKit
theorem namL_run {c : UInt8} {l : List UInt8} (h : letU c = true) : namL (c :: l) = ((c :: l).takeWhile wordV).length := by
 have hw : wordV c = true := by unfold wordV; unfold letU at h; rw [h]; rfl
 rw [namL, if_pos h, List.takeWhile_cons, if_pos hw, List.length_cons]
 omega
theorem name_any (g mb a nm : Nat) (s : ByteArray) (names : List ByteArray) (w : World) (h : RdA w g s mb a 0 0) (ha : a <= s.size) (hs : s.size <= 281474976710656) (hm : OwnV w mb nm (names.take 64)) (hne : mb ≠ g) :
  Calls Tryz.prog 161 #[.pointer (some ⟨g, 0, none⟩)] w fun u w' => ∃ n : Nat, u = .returned (.int .i64 n) /\ n < 64 /\ (∀ v r, namG names (tl s a) = .ok v r -> n = v) /\ StG w' g s mb (namG names (tl s a)) /\ Fg g w w' := by
 have z0 := Blk.cell h 0; have z1 := Blk.cell h 1; have z2 := Blk.cell h 2; have z3 := Blk.cell h 3; have z4 := Blk.cell h 4
 have hl := h.lt
 obtain ⟨GG, hGG⟩ : ∃ G, namG names (tl s a) = G := ⟨_, rfl⟩
 rw [hGG]
 replace hGG := Hd hGG
 have HM := Hd (fun W (hW : Fg g w W) => hm.fr hW hne)
 clear hm
 by_cases hlt : a < s.size
 ·
  have hb : ((a : Int) == (s.size : Int)) = false := by rw [beq_eq_false_iff_ne]; omega
  have hT := tl_at hlt
  obtain ⟨c, hc⟩ : ∃ c, s[a]'hlt = c := ⟨_, rfl⟩
  rw [hc] at hT
  obtain ⟨y, hy⟩ : ∃ y : Nat, c.toNat = y := ⟨_, rfl⟩
  have hy0 : (s[a]'hlt).toNat = y := by rw [hc]; exact hy
  have CD := letterS_any (y : Int)
  have hdy : letU c = letV (y : Int) := by unfold letU; rw [hy]
  obtain ⟨bd, hbd0⟩ : ∃ b, letV (y : Int) = b := ⟨_, rfl⟩
  simp only [hbd0] at CD
  rw [hbd0] at hdy
  replace CD := Hd CD
  cases bd
  ·
   have hL : namG names (tl s a) = lost (tl s a) := by unfold namG; rw [if_pos (by rw [hT, namL, hdy]; rfl)]
   have hy2 := Hd hy
   clear hT hdy hbd0 hy hc HM
   have hGe : GG = lost (tl s a) := hGG.out.symm.trans hL
   have CR := Hd (fun W (hW : Below w.heap.size w W) => refuse_any g mb a s W (h.below hW) ha hs)
   have hbd : Below w.heap.size w w.drew := brf.drew
   replace hGe := Hd hGe
   clear h hL
   go_enter Tryz.func161, Tryz.ntmps161
   go_wp2
   refine wp_region_mix (S := (fun x => x = w.drew)) [(0, .q), (1, .q), (2, .q), (3, .q), (4, .q), (5, .q), (6, .q), (7, .q), (8, .q), (9, .q), (10, .q), (11, .q), (12, .q), (13, .q), (14, .q), (15, .q), (16, .q), (17, .q), (18, .q), (19, .q), (20, .t), (21, .p), (22, .p)] (by kernel_rfl) (by kernel_rfl) (by kernel_rfl) (fun d _ _ _ _ h => by cases d <;> exact h) (rfl) ?_
   iterate 20 (refine wpMix_q rfl rfl (fun K hK => ?_); apply Exists.intro; refine ⟨fun w' hw' => ?_, ?_⟩; (focus (go_simp; try rfl)); go_simp; refine hK _ _ ?_; clear hK K)
   refine wpMix_t rfl rfl (fun K hK => ?_)
   go_simp
   refine (CD.out w.drew).mono ?_
   rintro e w' ⟨rfl, rfl⟩
   dsimp only
   refine hK.out _ _ ?_
   clear hK K
   iterate 2 (refine wpMix_p rfl rfl (fun K hK => ?_); apply Exists.intro; refine ⟨fun w' => ?_, ?_⟩; (focus (go_simp; try rfl)); go_simp; refine hK _ _ ?_; clear hK K)
   refine wpMix_nil ?_
   go_wp2_with fail
   refine (CR.out w.drew hbd).mono ?_
   rintro e w1 ⟨rfl, h1, hf⟩
   go_wp2
   go_ret
   exact ⟨0, rfl, by decide, fun v r e => absurd (hGe.out.symm.trans e) fun e => lost_ok e, by rw [hGe.out]; exact lost_unit h1, (Fr.below hbd).trans hf⟩
  ·
   have hn1 : namL (tl s a) = ((tl s a).takeWhile wordV).length := by rw [hT]; exact namL_run hdy
   obtain ⟨D, hD⟩ : ∃ D, ((tl s a).takeWhile wordV).length = D := ⟨_, rfl⟩
   rw [hD] at hn1
   have hDl : D <= s.size - a := by rw [<- hD]; have := tw_le wordV (tl s a); rw [tl_len] at this; exact this
   have hD0 : 0 < D := by rw [<- hn1, hT, namL, if_pos hdy]; omega
   have hDi : ∀ j, j < D -> ∃ h : a + j < s.size, (letV ((s[a + j]'h).toNat : Int) || digV ((s[a + j]'h).toNat : Int)) = true := fun j hj => by
    have h1 : a + j < s.size := by omega
    refine ⟨h1, ?_⟩
    rw [<- hD] at hj
    obtain ⟨x, hx, hp⟩ := tw_in hj
    rw [tl_get h1] at hx
    injection hx with hx
    subst hx
    exact hp
   have hDo : ∀ h : a + D < s.size, (letV ((s[a + D]'h).toNat : Int) || digV ((s[a + D]'h).toNat : Int)) = false := fun h1 =>
    tw_out (p := wordV) (l := tl s a) (x := s[a + D]'h1) (by rw [hD]; exact tl_get h1)
   have hG : GG = match whoL (names.take 64) (ofL ((tl s a).take D)) with | none => .bad (s.size - a) 6 | some v => .ok v (tl s (a + D)) := by
    rw [<- hGG.out]
    unfold namG
    rw [hn1, if_neg (by omega), tl_len, tl_drop]
    rfl
   have hex : s.extract a (a + D) = ofL ((tl s a).take D) := tl_take s a D
   have HEX := Hd hex; have HDI := Hd hDi; have HDO := Hd hDo
   have hy2 := Hd hy; have HGG := Hd hG; have HDL := Hd hDl; have HD0 := Hd hD0
   have hbd : Below w.heap.size w w.drew := brf.drew
   have hR0 := Hd (show RdA w.drew g s mb a 0 0 from h)
   have hF0 := Hd (show Fg g w w.drew from Fr.below hbd)
   clear h hT hdy hbd0 hy hc hn1 hD hDi hDo hG hex hGG hDl hD0 hbd
   go_enter Tryz.func161, Tryz.ntmps161
   go_wp2
   refine wp_region_mix (S := (fun x => x = w.drew)) [(0, .q), (1, .q), (2, .q), (3, .q), (4, .q), (5, .q), (6, .q), (7, .q), (8, .q), (9, .q), (10, .q), (11, .q), (12, .q), (13, .q), (14, .q), (15, .q), (16, .q), (17, .q), (18, .q), (19, .q), (20, .t), (21, .p), (22, .p)] (by kernel_rfl) (by kernel_rfl) (by kernel_rfl) (fun d _ _ _ _ h => by cases d <;> exact h) (rfl) ?_
   iterate 20 (refine wpMix_q rfl rfl (fun K hK => ?_); apply Exists.intro; refine ⟨fun w' hw' => ?_, ?_⟩; (focus (go_simp; try rfl)); go_simp; refine hK _ _ ?_; clear hK K)
   refine wpMix_t rfl rfl (fun K hK => ?_)
   go_simp
   refine (CD.out w.drew).mono ?_
   rintro e w' ⟨rfl, rfl⟩
   dsimp only
   refine hK.out _ _ ?_
   clear hK K
   iterate 2 (refine wpMix_p rfl rfl (fun K hK => ?_); apply Exists.intro; refine ⟨fun w' => ?_, ?_⟩; (focus (go_simp; try rfl)); go_simp; refine hK _ _ ?_; clear hK K)
   refine wpMix_nil ?_
   go_wp2
   refine world_gen (fun W => RdA W g s mb a 0 0 /\ Fg g w W) ⟨hR0.out, hF0.out⟩ ?_
   rintro w0 ⟨h0, hf0⟩
   clear hR0 hF0 z0 z1 z2 z3 z4 CD hl
   go_loopg [] D (fun m wr => ∃ j : Nat, Hid (j + m = D) /\ Hid (RdA wr g s mb (a + j) 0 0) /\ Fg g w wr)
   case atStart => exact ⟨0, by show _ = _; omega, h0, hf0⟩
   case round =>
    clear h0 hf0
    obtain ⟨j, hj, hR, hfr⟩ := hrel
    have hRo := hR.out
    have z0 := Blk.cell hRo 0; have z1 := Blk.cell hRo 1; have z2 := Blk.cell hRo 2; have z3 := Blk.cell hRo 3; have z4 := Blk.cell hRo 4
    have hl := hRo.lt
    have f1 := Blk.frozen hRo 1
    have hbd1 : Below wr.heap.size wr wr.drew := brf.drew
    clear hRo
    obtain ⟨p, hp⟩ : ∃ p, a + j = p := ⟨_, rfl⟩
    rw [hp] at z1 hR
    have hpc : ((p + 1 : Nat) : Int) = (p : Int) + 1 := by omega
    by_cases hjD : j < D
    ·
     obtain ⟨hps, hpd⟩ := HDI.out j hjD
     simp only [hp] at hps hpd
     obtain ⟨v, hv⟩ : ∃ v : Nat, (s[p]'hps).toNat = v := ⟨_, rfl⟩
     rw [hv] at hpd
     have CL := letterS_any (v : Int)
     have CD := digitS_any (v : Int)
     replace hp := Hd hp
     have hR3 := Hd ((show RdA wr.drew g s mb p 0 0 from hR.out).set1 (p + 1))
     have hF3 := Hd ((hfr.trans (Fr.below hbd1)).setc (g := g) (i := 1) (u := .int .i64 ((p + 1 : Nat) : Int)) (.inl rfl))
     unfold RdA at hR3
     rw [hpc] at hR3 hF3
     obtain ⟨bl, hbl⟩ : ∃ b, letV (v : Int) = b := ⟨_, rfl⟩
     obtain ⟨bd, hbd⟩ : ∃ b, digV (v : Int) = b := ⟨_, rfl⟩
     simp only [hbl] at CL
     simp only [hbd] at CD
     rw [hbl, hbd] at hpd
     replace CL := Hd CL; replace CD := Hd CD; replace hbl := Hd hbl; replace hbd := Hd hbd
     clear hR hfr hbd1
     cases bl
     ·
      have hbt : bd = true := by simpa using hpd
      subst hbt
      clear hpd
      go_wp2
      refine wp_region_mix (S := (fun x => x = wr.drew)) [(0, .q), (1, .q), (2, .q), (3, .q), (4, .q), (5, .q), (6, .q), (7, .q), (8, .q), (9, .q), (10, .q), (11, .q), (12, .q), (13, .q), (14, .q), (15, .q), (16, .q), (17, .q), (18, .q), (19, .q), (20, .l), (21, .q), (22, .q), (23, .q), (24, .q), (25, .q), (26, .q), (27, .q), (28, .q), (29, .q), (30, .q), (31, .t), (32, .p), (33, .p)] (by kernel_rfl) (by kernel_rfl) (by kernel_rfl) (fun d _ _ _ _ h => by cases d <;> exact h) (rfl) ?_
      iterate 20 (refine wpMix_q rfl rfl (fun K hK => ?_); apply Exists.intro; refine ⟨fun w' hw' => ?_, ?_⟩; (focus (go_simp; try rfl)); go_simp; refine hK _ _ ?_; clear hK K)
      refine wpMix_l rfl rfl (fun K hK => ?_)
      go_simp
      refine (CL.out wr.drew).mono ?_
      rintro e w' ⟨rfl, rfl⟩
      dsimp only
      refine hK.out _ _ (rfl) (fun _ => ?_)
      clear hK K
      iterate 10 (refine wpMix_q rfl rfl (fun K hK => ?_); apply Exists.intro; refine ⟨fun w' hw' => ?_, ?_⟩; (focus (go_simp; try rfl)); go_simp; refine hK _ _ ?_; clear hK K)
      refine wpMix_t rfl rfl (fun K hK => ?_)
      go_simp
      refine (CD.out wr.drew).mono ?_
      rintro e w' ⟨rfl, rfl⟩
      dsimp only
      refine hK.out _ _ ?_
      clear hK K
      iterate 2 (refine wpMix_p rfl rfl (fun K hK => ?_); apply Exists.intro; refine ⟨fun w' => ?_, ?_⟩; (focus (go_simp; try rfl)); go_simp; refine hK _ _ ?_; clear hK K)
      refine wpMix_nil ?_
      go_wp2
      go_roundg (gk - 1)
      case rel => exact ⟨j + 1, by have := hj.out; show _ = _; omega, by unfold RdA; rw [show a + (j + 1) = p + 1 by have := hp.out; omega, hpc]; exact hR3.out, hF3.out⟩
      case measure => have := hj.out; omega
     ·
      clear hpd
      go_wp2
      refine wp_region_mix (S := (fun x => x = wr.drew)) [(0, .q), (1, .q), (2, .q), (3, .q), (4, .q), (5, .q), (6, .q), (7, .q), (8, .q), (9, .q), (10, .q), (11, .q), (12, .q), (13, .q), (14, .q), (15, .q), (16, .q), (17, .q), (18, .q), (19, .q), (20, .l), (21, .q), (22, .q), (23, .q), (24, .q), (25, .q), (26, .q), (27, .q), (28, .q), (29, .q), (30, .q), (31, .t), (32, .p), (33, .p)] (by kernel_rfl) (by kernel_rfl) (by kernel_rfl) (fun d _ _ _ _ h => by cases d <;> exact h) (rfl) ?_
      iterate 20 (refine wpMix_q rfl rfl (fun K hK => ?_); apply Exists.intro; refine ⟨fun w' hw' => ?_, ?_⟩; (focus (go_simp; try rfl)); go_simp; refine hK _ _ ?_; clear hK K)
      refine wpMix_l rfl rfl (fun K hK => ?_)
      go_simp
      refine (CL.out wr.drew).mono ?_
      rintro e w' ⟨rfl, rfl⟩
      dsimp only
      refine hK.out _ _ (rfl) (fun _ => ?_)
      clear hK K
      iterate 1 (refine wpMix_q rfl rfl (fun K hK => ?_); apply Exists.intro; refine ⟨fun w' hw' => ?_, ?_⟩; (focus (go_simp; try rfl)); go_simp; refine hK _ _ ?_; clear hK K)
      iterate 10 (refine wpMix_skip rfl rfl (fun K hK => ?_); go_simp; refine hK _ _ ?_; clear hK K)
      iterate 2 (refine wpMix_p rfl rfl (fun K hK => ?_); apply Exists.intro; refine ⟨fun w' => ?_, ?_⟩; (focus (go_simp; try rfl)); go_simp; refine hK _ _ ?_; clear hK K)
      refine wpMix_nil ?_
      go_wp2
      go_roundg (gk - 1)
      case rel => exact ⟨j + 1, by have := hj.out; show _ = _; omega, by unfold RdA; rw [show a + (j + 1) = p + 1 by have := hp.out; omega, hpc]; exact hR3.out, hF3.out⟩
      case measure => have := hj.out; omega
    ·
     have hjD2 : j = D := by have := hj.out; omega
     subst hjD2
     have hex2 := HEX.out
     rw [hp] at hex2
     have HWHO : Hid (whoL (names.take 64) (ofL ((tl s a).take j)) = whoL (names.take 64) (ofL ((tl s a).take j))) := Hd rfl
     obtain ⟨t, ht⟩ : ∃ t, ofL ((tl s a).take j) = t := ⟨_, rfl⟩
     rw [ht] at hex2 HGG
     have htz : t.size = j := by
      rw [<- ht]
      have : ((tl s a).take j).length = j := by rw [List.length_take, tl_len]; have := HDL.out; omega
      exact this
     have hps : p <= s.size := by have := HDL.out; omega
     have hap : a <= p := by omega
     have htm : t.size <= maxLen := by unfold maxLen; omega
     have hR3 : RdA wr.drew.drew g s mb p 0 0 := hR.out
     have hF3 : Fg g w wr.drew.drew := hfr.trans (Fr.below hbd1.drew)
     have hlook := (HM.out wr.drew.drew hF3).look htm
     have hw64 := fun v h => whoL_lt (l := names.take 64) (s := t) (v := v) h
     obtain ⟨wh, hwh⟩ : ∃ o, whoL (names.take 64) t = o := ⟨_, rfl⟩
     rw [hwh] at hlook HGG
     rw [hwh] at hw64
     have CF := Hd (fail_any g mb p s 6 (a : Int) wr.drew.drew hR3)
     replace hR3 := Hd hR3; replace hF3 := Hd hF3; replace ht := Hd ht; replace hwh := Hd hwh
     have hp2 := Hd hp
     replace htz := Hd htz
     clear hR hfr hbd1 HWHO htm
     by_cases hpz : p < s.size
     ·
      have hpd := HDO.out (by rw [hp]; exact hpz)
      simp only [hp] at hpd
      obtain ⟨v, hv⟩ : ∃ v : Nat, (s[p]'hpz).toNat = v := ⟨_, rfl⟩
      rw [hv, Bool.or_eq_false_iff] at hpd
      have CL := letterS_any (v : Int)
      have CD := digitS_any (v : Int)
      rw [hpd.1] at CL
      rw [hpd.2] at CD
      replace CL := Hd CL; replace CD := Hd CD
      clear hpd hp
      go_wp2
      refine wp_region_mix (S := (fun x => x = wr.drew)) [(0, .q), (1, .q), (2, .q), (3, .q), (4, .q), (5, .q), (6, .q), (7, .q), (8, .q), (9, .q), (10, .q), (11, .q), (12, .q), (13, .q), (14, .q), (15, .q), (16, .q), (17, .q), (18, .q), (19, .q), (20, .l), (21, .q), (22, .q), (23, .q), (24, .q), (25, .q), (26, .q), (27, .q), (28, .q), (29, .q), (30, .q), (31, .t), (32, .p), (33, .p)] (by kernel_rfl) (by kernel_rfl) (by kernel_rfl) (fun d _ _ _ _ h => by cases d <;> exact h) (rfl) ?_
      iterate 20 (refine wpMix_q rfl rfl (fun K hK => ?_); apply Exists.intro; refine ⟨fun w' hw' => ?_, ?_⟩; (focus (go_simp; try rfl)); go_simp; refine hK _ _ ?_; clear hK K)
      refine wpMix_l rfl rfl (fun K hK => ?_)
      go_simp
      refine (CL.out wr.drew).mono ?_
      rintro e w' ⟨rfl, rfl⟩
      dsimp only
      refine hK.out _ _ (rfl) (fun _ => ?_)
      clear hK K
      iterate 10 (refine wpMix_q rfl rfl (fun K hK => ?_); apply Exists.intro; refine ⟨fun w' hw' => ?_, ?_⟩; (focus (go_simp; try rfl)); go_simp; refine hK _ _ ?_; clear hK K)
      refine wpMix_t rfl rfl (fun K hK => ?_)
      go_simp
      refine (CD.out wr.drew).mono ?_
      rintro e w' ⟨rfl, rfl⟩
      dsimp only
      refine hK.out _ _ ?_
      clear hK K
      iterate 2 (refine wpMix_p rfl rfl (fun K hK => ?_); apply Exists.intro; refine ⟨fun w' => ?_, ?_⟩; (focus (go_simp; try rfl)); go_simp; refine hK _ _ ?_; clear hK K)
      refine wpMix_nil ?_
      cases wh with
      | none =>
       have hGe : GG = .bad (s.size - a) 6 := HGG.out
       replace hGe := Hd hGe
       go_wp2
       refine wp_region_mix (S := (fun x => x = wr.drew.drew)) [(0, .q), (1, .q), (2, .q), (3, .q), (4, .q), (5, .q), (6, .q), (7, .q), (8, .q), (9, .q), (10, .q), (11, .q), (12, .q), (13, .q), (14, .q), (15, .p), (16, .p), (17, .p), (18, .p), (19, .p)] (by kernel_rfl) (by kernel_rfl) (by kernel_rfl) (fun d _ _ _ _ h => by cases d <;> exact h) (rfl) ?_
       iterate 15 (refine wpMix_q rfl rfl (fun K hK => ?_); apply Exists.intro; refine ⟨fun w' hw' => ?_, ?_⟩; (focus (go_simp; try rfl)); go_simp; refine hK _ _ ?_; clear hK K)
       iterate 5 (refine wpMix_p rfl rfl (fun K hK => ?_); apply Exists.intro; refine ⟨fun w' => ?_, ?_⟩; (focus (go_simp; try rfl)); go_simp; refine hK _ _ ?_; clear hK K)
       refine wpMix_nil ?_
       go_wp2_with fail
       refine CF.out.mono ?_
       rintro e w1 ⟨rfl, h1, hf⟩
       go_wp2
       go_ret
       exact ⟨0, rfl, by decide, fun v r e => (by cases hGe.out.symm.trans e), by rw [hGe.out]; exact ⟨p, hps, by omega, by decide, by rw [show s.size - (s.size - a) = a by omega]; exact h1⟩, hF3.out.trans hf⟩
      | some u =>
       have hGe : GG = .ok u (tl s (a + j)) := HGG.out
       have hu64 := hw64 u rfl
       replace hGe := Hd hGe; replace hu64 := Hd hu64
       go_wp2
       refine wp_region_mix (S := (fun x => x = wr.drew.drew)) [(0, .q), (1, .q), (2, .q), (3, .q), (4, .q), (5, .q), (6, .q), (7, .q), (8, .q), (9, .q), (10, .q), (11, .q), (12, .q), (13, .q), (14, .q), (15, .p), (16, .p), (17, .p), (18, .p), (19, .p)] (by kernel_rfl) (by kernel_rfl) (by kernel_rfl) (fun d _ _ _ _ h => by cases d <;> exact h) (rfl) ?_
       iterate 15 (refine wpMix_q rfl rfl (fun K hK => ?_); apply Exists.intro; refine ⟨fun w' hw' => ?_, ?_⟩; (focus (go_simp; try rfl)); go_simp; refine hK _ _ ?_; clear hK K)
       iterate 5 (refine wpMix_p rfl rfl (fun K hK => ?_); apply Exists.intro; refine ⟨fun w' => ?_, ?_⟩; (focus (go_simp; try rfl)); go_simp; refine hK _ _ ?_; clear hK K)
       refine wpMix_nil ?_
       go_wp2
       go_ret
       exact ⟨u, rfl, by have := hu64.out; rw [List.length_take] at this; omega, fun v r e => (by injection hGe.out.symm.trans e), by rw [hGe.out]; exact ⟨p, hps, by rw [show a + j = p by have := hp2.out; omega], hR3.out⟩, hF3.out⟩
     ·
      clear hp
      go_wp2
      refine wp_region_mix (S := (fun x => x = wr.drew)) [(0, .q), (1, .q), (2, .q), (3, .q), (4, .q), (5, .q), (6, .q), (7, .q), (8, .q), (9, .q), (10, .q), (11, .q), (12, .q), (13, .q), (14, .q), (15, .q), (16, .q), (17, .q), (18, .q), (19, .q), (20, .l), (21, .q), (22, .q), (23, .q), (24, .q), (25, .q), (26, .q), (27, .q), (28, .q), (29, .q), (30, .q), (31, .t), (32, .p), (33, .p)] (by kernel_rfl) (by kernel_rfl) (by kernel_rfl) (fun d _ _ _ _ h => by cases d <;> exact h) (rfl) ?_
      iterate 11 (refine wpMix_q rfl rfl (fun K hK => ?_); apply Exists.intro; refine ⟨fun w' hw' => ?_, ?_⟩; (focus (go_simp; try rfl)); go_simp; refine hK _ _ ?_; clear hK K)
      iterate 22 (refine wpMix_skip rfl rfl (fun K hK => ?_); go_simp; refine hK _ _ ?_; clear hK K)
      iterate 1 (refine wpMix_p rfl rfl (fun K hK => ?_); apply Exists.intro; refine ⟨fun w' => ?_, ?_⟩; (focus (go_simp; try rfl)); go_simp; refine hK _ _ ?_; clear hK K)
      refine wpMix_nil ?_
      cases wh with
      | none =>
       have hGe : GG = .bad (s.size - a) 6 := HGG.out
       replace hGe := Hd hGe
       go_wp2
       refine wp_region_mix (S := (fun x => x = wr.drew.drew)) [(0, .q), (1, .q), (2, .q), (3, .q), (4, .q), (5, .q), (6, .q), (7, .q), (8, .q), (9, .q), (10, .q), (11, .q), (12, .q), (13, .q), (14, .q), (15, .p), (16, .p), (17, .p), (18, .p), (19, .p)] (by kernel_rfl) (by kernel_rfl) (by kernel_rfl) (fun d _ _ _ _ h => by cases d <;> exact h) (rfl) ?_
       iterate 15 (refine wpMix_q rfl rfl (fun K hK => ?_); apply Exists.intro; refine ⟨fun w' hw' => ?_, ?_⟩; (focus (go_simp; try rfl)); go_simp; refine hK _ _ ?_; clear hK K)
       iterate 5 (refine wpMix_p rfl rfl (fun K hK => ?_); apply Exists.intro; refine ⟨fun w' => ?_, ?_⟩; (focus (go_simp; try rfl)); go_simp; refine hK _ _ ?_; clear hK K)
       refine wpMix_nil ?_
       go_wp2_with fail
       refine CF.out.mono ?_
       rintro e w1 ⟨rfl, h1, hf⟩
       go_wp2
       go_ret
       exact ⟨0, rfl, by decide, fun v r e => (by cases hGe.out.symm.trans e), by rw [hGe.out]; exact ⟨p, hps, by omega, by decide, by rw [show s.size - (s.size - a) = a by omega]; exact h1⟩, hF3.out.trans hf⟩
      | some u =>
       have hGe : GG = .ok u (tl s (a + j)) := HGG.out
       have hu64 := hw64 u rfl
       replace hGe := Hd hGe; replace hu64 := Hd hu64
       go_wp2
       refine wp_region_mix (S := (fun x => x = wr.drew.drew)) [(0, .q), (1, .q), (2, .q), (3, .q), (4, .q), (5, .q), (6, .q), (7, .q), (8, .q), (9, .q), (10, .q), (11, .q), (12, .q), (13, .q), (14, .q), (15, .p), (16, .p), (17, .p), (18, .p), (19, .p)] (by kernel_rfl) (by kernel_rfl) (by kernel_rfl) (fun d _ _ _ _ h => by cases d <;> exact h) (rfl) ?_
       iterate 15 (refine wpMix_q rfl rfl (fun K hK => ?_); apply Exists.intro; refine ⟨fun w' hw' => ?_, ?_⟩; (focus (go_simp; try rfl)); go_simp; refine hK _ _ ?_; clear hK K)
       iterate 5 (refine wpMix_p rfl rfl (fun K hK => ?_); apply Exists.intro; refine ⟨fun w' => ?_, ?_⟩; (focus (go_simp; try rfl)); go_simp; refine hK _ _ ?_; clear hK K)
       refine wpMix_nil ?_
       go_wp2
       go_ret
       exact ⟨u, rfl, by have := hu64.out; rw [List.length_take] at this; omega, fun v r e => (by injection hGe.out.symm.trans e), by rw [hGe.out]; exact ⟨p, hps, by rw [show a + j = p by have := hp2.out; omega], hR3.out⟩, hF3.out⟩
 ·
  have hae : a = s.size := by omega
  have hb : ((a : Int) == (s.size : Int)) = true := by rw [beq_iff_eq]; omega
  have hL : namG names (tl s a) = lost (tl s a) := by unfold namG; rw [if_pos (by rw [tl_end (by omega)]; rfl)]
  replace hae := Hd hae
  clear HM
  have hGe : GG = lost (tl s a) := hGG.out.symm.trans hL
  have CR := Hd (fun W (hW : Below w.heap.size w W) => refuse_any g mb a s W (h.below hW) ha hs)
  have hbd : Below w.heap.size w w.drew := brf.drew
  replace hGe := Hd hGe
  clear h hL
  go_enter Tryz.func161, Tryz.ntmps161
  go_wp2
  refine wp_region_mix (S := (fun x => x = w.drew)) [(0, .q), (1, .q), (2, .q), (3, .q), (4, .q), (5, .q), (6, .q), (7, .q), (8, .q), (9, .q), (10, .q), (11, .q), (12, .q), (13, .q), (14, .q), (15, .q), (16, .q), (17, .q), (18, .q), (19, .q), (20, .t), (21, .p), (22, .p)] (by kernel_rfl) (by kernel_rfl) (by kernel_rfl) (fun d _ _ _ _ h => by cases d <;> exact h) (rfl) ?_
  iterate 11 (refine wpMix_q rfl rfl (fun K hK => ?_); apply Exists.intro; refine ⟨fun w' hw' => ?_, ?_⟩; (focus (go_simp; try rfl)); go_simp; refine hK _ _ ?_; clear hK K)
  iterate 11 (refine wpMix_skip rfl rfl (fun K hK => ?_); go_simp; refine hK _ _ ?_; clear hK K)
  iterate 1 (refine wpMix_p rfl rfl (fun K hK => ?_); apply Exists.intro; refine ⟨fun w' => ?_, ?_⟩; (focus (go_simp; try rfl)); go_simp; refine hK _ _ ?_; clear hK K)
  refine wpMix_nil ?_
  go_wp2_with fail
  refine (CR.out w.drew hbd).mono ?_
  rintro e w1 ⟨rfl, h1, hf⟩
  go_wp2
  go_ret
  exact ⟨0, rfl, by decide, fun v r e => absurd (hGe.out.symm.trans e) fun e => lost_ok e, by rw [hGe.out]; exact lost_unit h1, (Fr.below hbd).trans hf⟩
end Go.Proofs.YtkjnkpkagcboeaaGreatDoor
namespace Go.Proofs
open Go.Shelf
def Tryz.lays172_ren : Go.Shelf.Ren := ⟨fun | 172 => 135 | 244 => 171 | 245 => 172 | 247 => 197 | 279 => 198 | 280 => 199 | 281 => 200 | 282 => 201 | 287 => 220 | 316 => 221 | 171 => 49 | 205 => 222 | 321 => 229 | 322 => 230 | 243 => 95 | 246 => 137 | 283 => 178 | 284 => 179 | 285 => 180 | 286 => 181 | 129 => 210 | 317 => 209 | 318 => 211 | 319 => 212 | 320 => 213 | 337 => 227 | 338 => 228 | n => n, fun | 9 => 9 | 3 => 3 | 75 => 65 | 76 => 66 | 4 => 4 | 5 => 5 | 167 => 202 | 37 => 60 | 0 => 0 | 85 => 203 | 2 => 2 | 168 => 205 | 53 => 112 | 175 => 225 | 46 => 181 | 210 => 229 | 127 => 108 | 145 => 235 | 143 => 233 | 21 => 21 | 171 => 193 | 173 => 196 | 212 => 213 | 51 => 180 | 20 => 20 | 213 => 214 | 232 => 236 | 233 => 237 | 80 => 69 | n => n, fun | 15 => 4 | 16 => 5 | 17 => 1 | 18 => 6 | 19 => 7 | n => n⟩
theorem Tryz.lays172 : Go.Proofs.LaysC.n172 Tryz.prog Tryz.lays172_ren := {
  mixed := by kernel_rfl
  f129 := Tryz.func210.trans (congrArg some (by kernel_rfl))
  f171 := Tryz.func49.trans (congrArg some (by kernel_rfl))
  f172 := Tryz.func135.trans (congrArg some (by kernel_rfl))
  f205 := Tryz.func222.trans (congrArg some (by kernel_rfl))
  f243 := Tryz.func95.trans (congrArg some (by kernel_rfl))
  f244 := Tryz.func171.trans (congrArg some (by kernel_rfl))
  f245 := Tryz.func172.trans (congrArg some (by kernel_rfl))
  f246 := Tryz.func137.trans (congrArg some (by kernel_rfl))
  f247 := Tryz.func197.trans (congrArg some (by kernel_rfl))
  f279 := Tryz.func198.trans (congrArg some (by kernel_rfl))
  f280 := Tryz.func199.trans (congrArg some (by kernel_rfl))
  f281 := Tryz.func200.trans (congrArg some (by kernel_rfl))
  f282 := Tryz.func201.trans (congrArg some (by kernel_rfl))
  f283 := Tryz.func178.trans (congrArg some (by kernel_rfl))
  f284 := Tryz.func179.trans (congrArg some (by kernel_rfl))
  f285 := Tryz.func180.trans (congrArg some (by kernel_rfl))
  f286 := Tryz.func181.trans (congrArg some (by kernel_rfl))
  f287 := Tryz.func220.trans (congrArg some (by kernel_rfl))
  f316 := Tryz.func221.trans (congrArg some (by kernel_rfl))
  f317 := Tryz.func209.trans (congrArg some (by kernel_rfl))
  f318 := Tryz.func211.trans (congrArg some (by kernel_rfl))
  f319 := Tryz.func212.trans (congrArg some (by kernel_rfl))
  f320 := Tryz.func213.trans (congrArg some (by kernel_rfl))
  f321 := Tryz.func229.trans (congrArg some (by kernel_rfl))
  f322 := Tryz.func230.trans (congrArg some (by kernel_rfl))
  f337 := Tryz.func227.trans (congrArg some (by kernel_rfl))
  f338 := Tryz.func228.trans (congrArg some (by kernel_rfl))
  t0 := Tryz.underlying0
  a0 := Tryz.isAgg0
  z0 := Tryz.sizeOf0
  v0 := Tryz.zeroValue0
  t2 := Tryz.underlying2
  a2 := Tryz.isAgg2
  z2 := Tryz.sizeOf2
  v2 := Tryz.zeroValue2
  t3 := Tryz.underlying3
  a3 := Tryz.isAgg3
  z3 := Tryz.sizeOf3
  v3 := Tryz.zeroValue3
  t4 := Tryz.underlying4
  a4 := Tryz.isAgg4
  z4 := Tryz.sizeOf4
  v4 := Tryz.zeroValue4
  t5 := Tryz.underlying5
  a5 := Tryz.isAgg5
  z5 := Tryz.sizeOf5
  v5 := Tryz.zeroValue5
  t9 := Tryz.underlying9
  a9 := Tryz.isAgg9
  z9 := Tryz.sizeOf9
  v9 := Tryz.zeroValue9
  t20 := Tryz.underlying20
  a20 := Tryz.isAgg20
  z20 := Tryz.sizeOf20
  v20 := Tryz.zeroValue20
  t21 := Tryz.underlying21
  a21 := Tryz.isAgg21
  z21 := Tryz.sizeOf21
  v21 := Tryz.zeroValue21
  t37 := Tryz.underlying60
  a37 := Tryz.isAgg60
  z37 := Tryz.sizeOf60
  v37 := Tryz.zeroValue60
  t46 := Tryz.underlying181
  a46 := Tryz.isAgg181
  z46 := Tryz.sizeOf181
  v46 := Tryz.zeroValue181
  t51 := Tryz.underlying180
  a51 := Tryz.isAgg180
  z51 := Tryz.sizeOf180
  v51 := Tryz.zeroValue180
  t53 := Tryz.underlying112
  a53 := Tryz.isAgg112
  z53 := Tryz.sizeOf112
  v53 := Tryz.zeroValue112
  t75 := Tryz.underlying65
  a75 := Tryz.isAgg65
  z75 := Tryz.sizeOf65
  v75 := Tryz.zeroValue65
  t76 := Tryz.underlying66
  a76 := Tryz.isAgg66
  z76 := Tryz.sizeOf66
  v76 := Tryz.zeroValue66
  t85 := Tryz.underlying203
  a85 := Tryz.isAgg203
  z85 := Tryz.sizeOf203
  v85 := Tryz.zeroValue203
  t127 := Tryz.underlying108
  a127 := Tryz.isAgg108
  z127 := Tryz.sizeOf108
  v127 := Tryz.zeroValue108
  t143 := Tryz.underlying233
  a143 := Tryz.isAgg233
  z143 := Tryz.sizeOf233
  v143 := Tryz.zeroValue233
  t145 := Tryz.underlying235
  a145 := Tryz.isAgg235
  z145 := Tryz.sizeOf235
  v145 := Tryz.zeroValue235
  t167 := Tryz.underlying202
  a167 := Tryz.isAgg202
  z167 := Tryz.sizeOf202
  v167 := Tryz.zeroValue202
  t168 := Tryz.underlying205
  a168 := Tryz.isAgg205
  z168 := Tryz.sizeOf205
  v168 := Tryz.zeroValue205
  t171 := Tryz.underlying193
  a171 := Tryz.isAgg193
  z171 := Tryz.sizeOf193
  v171 := Tryz.zeroValue193
  t173 := Tryz.underlying196
  a173 := Tryz.isAgg196
  z173 := Tryz.sizeOf196
  v173 := Tryz.zeroValue196
  t175 := Tryz.underlying225
  a175 := Tryz.isAgg225
  z175 := Tryz.sizeOf225
  v175 := Tryz.zeroValue225
  t210 := Tryz.underlying229
  a210 := Tryz.isAgg229
  z210 := Tryz.sizeOf229
  v210 := Tryz.zeroValue229
  t212 := Tryz.underlying213
  a212 := Tryz.isAgg213
  z212 := Tryz.sizeOf213
  v212 := Tryz.zeroValue213
  t213 := Tryz.underlying214
  a213 := Tryz.isAgg214
  z213 := Tryz.sizeOf214
  t232 := Tryz.underlying236
  a232 := Tryz.isAgg236
  z232 := Tryz.sizeOf236
  v232 := Tryz.zeroValue236
  t233 := Tryz.underlying237
  a233 := Tryz.isAgg237
  z233 := Tryz.sizeOf237
  v233 := Tryz.zeroValue237
  g15 := by kernel_rfl
  g16 := by kernel_rfl
  g17 := by kernel_rfl
  g18 := by kernel_rfl
  g19 := by kernel_rfl
  t80 := Tryz.underlying69
  a80 := Tryz.isAgg69
  z80 := Tryz.sizeOf69
  v80 := Tryz.zeroValue69
  i0 := by kernel_rfl
  i2 := by kernel_rfl
  i3 := by kernel_rfl
  i4 := by kernel_rfl
  i5 := by kernel_rfl
  i9 := by kernel_rfl
  i20 := by kernel_rfl
  i21 := by kernel_rfl
  i37 := by kernel_rfl
  i46 := by kernel_rfl
  i51 := by kernel_rfl
  i53 := by kernel_rfl
  i75 := by kernel_rfl
  i76 := by kernel_rfl
  i80 := by kernel_rfl
  i85 := by kernel_rfl
  i127 := by kernel_rfl
  i143 := by kernel_rfl
  i145 := by kernel_rfl
  i167 := by kernel_rfl
  i168 := by kernel_rfl
  i171 := by kernel_rfl
  i173 := by kernel_rfl
  i175 := by kernel_rfl
  i210 := by kernel_rfl
  i212 := by kernel_rfl
  i232 := by kernel_rfl
  i233 := by kernel_rfl
  m15 := by kernel_rfl
  m16 := by kernel_rfl
  m17 := by kernel_rfl
  m18 := by kernel_rfl
  m19 := by kernel_rfl
  c0 := by kernel_rfl
  c2 := by kernel_rfl
  c3 := by kernel_rfl
  c4 := by kernel_rfl
  c5 := by kernel_rfl
  c9 := by kernel_rfl
  c20 := by kernel_rfl
  c21 := by kernel_rfl
  c37 := by kernel_rfl
  c46 := by kernel_rfl
  c51 := by kernel_rfl
  c53 := by kernel_rfl
  c75 := by kernel_rfl
  c76 := by kernel_rfl
  c80 := by kernel_rfl
  c85 := by kernel_rfl
  c127 := by kernel_rfl
  c143 := by kernel_rfl
  c145 := by kernel_rfl
  c167 := by kernel_rfl
  c168 := by kernel_rfl
  c171 := by kernel_rfl
  c173 := by kernel_rfl
  c175 := by kernel_rfl
  c210 := by kernel_rfl
  c212 := by kernel_rfl
  c213 := by kernel_rfl
  c232 := by kernel_rfl
  c233 := by kernel_rfl }
end Go.Proofs
namespace Go.Proofs.YtkjnkpkagcboeaaGreatDoor
open Go.RowKit
theorem fold_ge : ∀ (l : List UInt8) (a : Nat), a <= l.foldl (fun a c => 10 * a + (c.toNat - 48)) a
 | [], a => nlr _
 | c :: l, a => by rw [List.foldl_cons]; exact Nat.le_trans (by omega) (fold_ge l _)
theorem par_num : ∀ (l : List UInt8) (a : Nat), a < 18446744073709551616 -> (∀ c ∈ l, digU c = true) -> (Lib.parseUint10 a l = .ok (l.foldl (fun a c => 10 * a + (c.toNat - 48)) a) /\ l.foldl (fun a c => 10 * a + (c.toNat - 48)) a < 18446744073709551616) \/
  (Lib.parseUint10 a l = .range /\ 18446744073709551616 <= l.foldl (fun a c => 10 * a + (c.toNat - 48)) a)
 | [], a, h, _ => .inl ⟨rfl, h⟩
 | c :: l, a, h, hd => by
  have h2 := hd c (by simp)
  unfold digU digV at h2
  rw [decide_eq_true_eq] at h2
  have hg := fold_ge l (10 * a + (c.toNat - 48))
  rw [List.foldl_cons, Lib.parseUint10, if_pos (by omega)]
  by_cases h3 : 1844674407370955162 <= a
  ·
   rw [if_pos h3]
   exact .inr ⟨rfl, by omega⟩
  ·
   rw [if_neg h3, Nat.mul_comm a 10]
   by_cases h4 : 18446744073709551616 <= 10 * a + (c.toNat - 48)
   ·
    rw [if_pos h4]
    exact .inr ⟨rfl, by omega⟩
   ·
    rw [if_neg h4]
    exact par_num l _ (by omega) fun x hx => hd x (by simp [hx])
theorem atoi_num {l : List UInt8} (h0 : l ≠ []) (hd : ∀ c ∈ l, digU c = true) : (Lib.atoiAll l = .ok (decL l : Nat) /\ decL l < 9223372036854775808) \/ (Lib.atoiAll l = .range /\ 9223372036854775808 <= decL l) := by
 cases l with
 | nil => exact absurd rfl h0
 | cons c r =>
  have h2 := hd c (by simp)
  unfold digU digV at h2
  rw [decide_eq_true_eq] at h2
  have hm : Lib.parseMag (c :: r) = Lib.parseUint10 0 (c :: r) := by unfold Lib.parseMag; rw [if_neg (by simp)]
  have hp := par_num (c :: r) 0 (by decide) hd
  unfold Lib.atoiAll
  simp only
  rw [if_neg (show ¬ (c.toNat = 43 \/ c.toNat = 45) by omega), hm]
  rcases hp with ⟨h1, h3⟩ | ⟨h1, h3⟩
  ·
   rw [h1]
   show (if ¬ (c.toNat = 45) /\ 9223372036854775808 <= decL (c :: r) then Lib.NumEnd.range else if c.toNat = 45 /\ 9223372036854775808 < decL (c :: r) then Lib.NumEnd.range else Lib.NumEnd.ok (if c.toNat = 45 then -(decL (c :: r) : Int) else (decL (c :: r) : Int))) = Lib.NumEnd.ok ((decL (c :: r) : Nat) : Int) /\ _ \/ _
   by_cases h4 : 9223372036854775808 <= decL (c :: r)
   · exact .inr ⟨if_pos ⟨by omega, h4⟩, h4⟩
   ·
    refine .inl ⟨?_, by omega⟩
    rw [if_neg (by omega), if_neg (by omega), if_neg (by omega)]
  · exact .inr ⟨by rw [h1], by unfold decL; omega⟩
theorem numG_ok {l d r : List UInt8} (h : numG l = .ok d r) : 0 < d.length /\ d.length <= 1000 /\ (∀ c ∈ d, digU c = true) /\ (d.length = 1 \/ d[0]? ≠ some 48) := by
 unfold numG at h
 split at h
 · exact absurd h fun e => lost_ok e
 ·
  next h0 =>
  split at h
  · cases h
  ·
   next h1 =>
   injection h with h2 h3
   cases l with
   | nil => exact absurd rfl h0
   | cons c q =>
    by_cases hc : digU c = true
    ·
     have hn := numL_run (c := c) (l := q) hc
     rw [hn, Nat.add_comm, List.take_succ_cons] at h2
     subst h2
     have hr : runD c q <= q.length := by unfold runD; split; omega; exact tw_le _ _
     refine ⟨by simp, by simp; omega, ?_, ?_⟩
     ·
      intro x hx
      rcases List.mem_cons.1 hx with rfl | hx
      · exact hc
      ·
       unfold runD at hx
       split at hx
       · simp at hx
       ·
        obtain ⟨j, hj⟩ := List.getElem?_of_mem hx
        rw [List.getElem?_take] at hj
        split at hj
        ·
         next hjl =>
         obtain ⟨y, hy, hp⟩ := tw_in (p := digU) (l := q) hjl
         rw [hy] at hj
         injection hj with hj
         subst hj
         exact hp
        · cases hj
     ·
      by_cases h48 : c = 48
      · left; unfold runD; rw [if_pos h48]; simp
      · right; simpa using h48
    · exact absurd (by rw [numL, if_neg hc]) h0
def ErrW (w : World) : Prop := ∃ te pe, w.cell? ⟨Tryz.lays172_ren.g 16, 0, none⟩ = some (.iface te pe)
theorem ErrW.below {w w' : World} (h : ErrW w) (hb : Below w.heap.size w w') : ErrW w' := by obtain ⟨te, pe, h⟩ := h; exact ⟨te, pe, held h w' hb⟩
theorem ErrW.fr {w w' : World} {g : Nat} (h : ErrW w) (hf : Fg g w w') (hg : Tryz.lays172_ren.g 16 ≠ g) : ErrW w' := by obtain ⟨te, pe, h⟩ := h; exact ⟨te, pe, hf.agr _ _ hg h⟩
theorem atoi_small (s : ByteArray) (n : Nat) (w : World) (h0 : s.data.toList ≠ []) (hd : ∀ c ∈ s.data.toList, digU c = true) (hs : s.size <= 1000) (hn : decL s.data.toList = n) (hlt : n < 9223372036854775808) :
  Calls Tryz.prog 135 #[.string s] w fun e w' => e = .returned (.tuple #[.int .i64 n, .nilIface]) /\ Below w.heap.size w w' := by
 rcases atoi_num h0 hd with ⟨h1, h2⟩ | ⟨h1, h2⟩
 ·
  rw [hn] at h1
  refine (Any.strconv_Atoi_ok Tryz.lays172 s (by omega) n h1 w).mono ?_
  rintro e w' ⟨rfl, hw⟩
  refine ⟨rfl, ?_⟩
  rcases hw with rfl | ⟨t, rfl⟩
  · exact Below.refl _ _
  · exact Lib.bytesWorld_below _ _ _
 · omega
theorem atoi_great (s : ByteArray) (w : World) (h0 : s.data.toList ≠ []) (hd : ∀ c ∈ s.data.toList, digU c = true) (hs : s.size <= 1000) (hlt : 9223372036854775808 <= decL s.data.toList) (he : ErrW w) :
  Calls Tryz.prog 135 #[.string s] w fun e w' => ∃ (x : Int) (t : TypeId) (q : Value), e = .returned (.tuple #[.int .i64 x, .iface t q]) /\ Below w.heap.size w w' := by
 rcases atoi_num h0 hd with ⟨h1, h2⟩ | ⟨h1, h2⟩
 · omega
 ·
  obtain ⟨te, pe, he⟩ := he
  refine (Any.strconv_Atoi_range Tryz.lays172 s (by omega) h1 _ w he (.inr ⟨te, pe, rfl⟩)).mono ?_
  rintro e w' ⟨N, rfl, _, _, hb⟩
  exact ⟨_, _, _, rfl, hb⟩
end Go.Proofs.YtkjnkpkagcboeaaGreatDoor
namespace Go.Proofs.YtkjnkpkagcboeaaGreatDoor
open Go.RowKit
def expG (l : List UInt8) : Got Nat := (numG l).bnd fun d r => if 1048576 < decL d then .bad l.length 4 else .ok (decL d) r
theorem exponent_any (g mb a : Nat) (s : ByteArray) (w : World) (h : RdA w g s mb a 0 0) (ha : a <= s.size) (hs : s.size <= 281474976710656) (he : ErrW w) (hne : Tryz.lays172_ren.g 16 ≠ g) :
  Calls Tryz.prog 162 #[.pointer (some ⟨g, 0, none⟩)] w fun u w' => ∃ n : Nat, u = .returned (.int .i64 n) /\ n <= 1048576 /\ (∀ v r, expG (tl s a) = .ok v r -> n = v) /\ StG w' g s mb (expG (tl s a)) /\ Fg g w w' := by
 have CN := numeral_any g mb a s w h ha hs
 have HE := Hd (fun W (hW : Fg g w W) => he.fr hW hne)
 obtain ⟨GG, hGG⟩ : ∃ G, expG (tl s a) = G := ⟨_, rfl⟩
 rw [hGG]
 unfold expG at hGG
 rw [tl_len] at hGG
 have hok := fun d r (e : numG (tl s a) = .ok d r) => numG_ok e
 obtain ⟨NG, hNG⟩ : ∃ G, numG (tl s a) = G := ⟨_, rfl⟩
 rw [hNG] at CN hGG
 rw [hNG] at hok
 replace CN := Hd CN; replace hGG := Hd hGG
 clear h he hNG
 go_enter Tryz.func162, Tryz.ntmps162
 go_wp2_with fail
 refine CN.out.mono ?_
 rintro e w1 ⟨t, rfl, ht, hS, hf⟩
 clear CN
 cases NG with
 | bad k er =>
  have hGe := Hd (show GG = .bad k er from hGG.out.symm)
  obtain ⟨p, hp, hk, h0, hR⟩ := hS
  have z0 := Blk.cell hR 0; have z1 := Blk.cell hR 1; have z2 := Blk.cell hR 2; have z3 := Blk.cell hR 3; have z4 := Blk.cell hR 4
  have hl := hR.lt
  have hz : (er != 0) = true := by simpa using h0
  have hR2 := Hd hR
  clear hR ht hok hGG
  replace h0 := Hd h0
  go_wp2
  go_ret
  exact ⟨0, rfl, by omega, fun v r e => (by cases hGe.out.symm.trans e), by rw [hGe.out]; exact ⟨p, hp, hk, h0.out, hR2.out⟩, hf⟩
 | ok d r =>
  have htd := ht d r rfl
  subst htd
  obtain ⟨o1, o2, o3, _⟩ := hok d r rfl
  obtain ⟨p, hp, hr, hR⟩ := hS
  have hG1 : GG = if 1048576 < decL d then .bad (s.size - a) 4 else .ok (decL d) r := hGG.out.symm
  have hdl : (ofL d).data.toList = d := ofL_list d
  have hds : (ofL d).size <= 1000 := o2
  have hne0 : (ofL d).data.toList ≠ [] := by rw [hdl]; intro e; rw [e] at o1; cases o1
  have hdd : ∀ c ∈ (ofL d).data.toList, digU c = true := by rw [hdl]; exact o3
  have hdec : decL (ofL d).data.toList = decL d := by rw [hdl]
  obtain ⟨n, hn⟩ : ∃ n, decL d = n := ⟨_, rfl⟩
  rw [hn] at hG1 hdec
  have HR := Hd (fun W (hW : Below w1.heap.size w1 W) => hR.below hW)
  have z0 := Blk.cell hR 0; have z1 := Blk.cell hR 1; have z2 := Blk.cell hR 2; have z3 := Blk.cell hR 3; have z4 := Blk.cell hR 4
  have hl := hR.lt
  by_cases hsm : n < 9223372036854775808
  ·
   have CA := Hd (atoi_small (ofL d) n w1 hne0 hdd hds hdec hsm)
   have CF := Hd (fun W (hW : Below w1.heap.size w1 W) => fail_any g mb p s 4 (a : Int) W (HR.out W hW))
   replace hr := Hd hr
   clear hn hok hGG ht hR hne0 hdd hdl hds hdec o1 o2 o3
   go_wp2_with fail
   refine CA.out.mono ?_
   rintro e w2 ⟨rfl, hb2⟩
   clear z0 z1 z2 z3 z4 CA
   by_cases hbig : 1048576 < n
   ·
    have hbc : decide ((1048576 : Int) < (n : Int)) = true := by rw [decide_eq_true_eq]; omega
    rw [if_pos hbig] at hG1
    replace hG1 := Hd hG1
    go_wp2_with fail
    refine (CF.out w2 hb2).mono ?_
    rintro e w3 ⟨rfl, h3, hf3⟩
    go_wp2
    go_ret
    exact ⟨0, rfl, by omega, fun v r e => (by cases hG1.out.symm.trans e), by rw [hG1.out]; exact ⟨p, hp, by omega, by decide, by rw [show s.size - (s.size - a) = a by omega]; exact h3⟩, (hf.call hb2).trans hf3⟩
   ·
    have hbc : decide ((1048576 : Int) < (n : Int)) = false := by rw [decide_eq_false_iff_not]; omega
    rw [if_neg hbig] at hG1
    replace hG1 := Hd hG1
    go_wp2
    go_ret
    exact ⟨n, rfl, by omega, fun v r e => (by injection hG1.out.symm.trans e), by rw [hG1.out]; exact ⟨p, hp, hr.out, HR.out w2 hb2⟩, hf.call hb2⟩
  ·
   have CA := Hd (atoi_great (ofL d) w1 hne0 hdd hds (by rw [hdec]; omega) (HE.out w1 hf))
   have CF := Hd (fun W (hW : Below w1.heap.size w1 W) => fail_any g mb p s 4 (a : Int) W (HR.out W hW))
   rw [if_pos (by omega)] at hG1
   replace hr := Hd hr; replace hG1 := Hd hG1
   clear hn hok hGG ht hR hne0 hdd hdl hds hdec o1 o2 o3
   go_wp2_with fail
   refine CA.out.mono ?_
   rintro e w2 ⟨x, t2, q, rfl, hb2⟩
   clear z0 z1 z2 z3 z4 CA
   go_wp2_with fail
   refine (CF.out w2 hb2).mono ?_
   rintro e w3 ⟨rfl, h3, hf3⟩
   go_wp2
   go_ret
   exact ⟨0, rfl, by omega, fun v r e => (by cases hG1.out.symm.trans e), by rw [hG1.out]; exact ⟨p, hp, by omega, by decide, by rw [show s.size - (s.size - a) = a by omega]; exact h3⟩, (hf.call hb2).trans hf3⟩
section
variable {w w' : World} {g : Nat} {l : List Int}
end
theorem infoZ : (Tryz.prog.info? 3).map (fun i => (i.zero, i.size, i.bytes)) = some (some (.int .i64 0), 1, 8) := by kernel_rfl
def RetMo (m : List Int) (w : World) (e : Ending) (w' : World) : Prop := ∃ a c, e = .returned (.slice a m.length c) /\ Kp (fun V => IntsR V a c m) w.heap.size w'.heap.size w' /\ Below w.heap.size w w'
theorem OwnI.newZ {B : Nat} {w V : World} {a : Option Addr} {c : Nat} {l : List Int} (h : OwnI B w a c l) (hV : New B w V) (hs : ∀ x ∈ l, InInt x) : IntsR V a c l := by
 have := Own.readsIn (E := IntE .i64) (β := Int) id intC_len h hV (fun b o x hx hc => ⟨by simpa using hc 0 _ rfl, wf_of (hs x hx)⟩)
 rwa [List.map_id] at this
def oneP (t : Tm) : List Tm := if t.1 = 0 then [] else [t]
def normP (l : List Tm) : List Tm := l.foldl (fun p t => addP p (oneP t)) []
theorem oneP_ok {B : Int} {t : Tm} (h : Mok B t.2) : Pok B (oneP t) := by
 unfold oneP
 split
 · exact Pok.nil B
 · next h0 => exact (Pok.nil B).cons h h0 fun s hs => by cases hs
theorem oneP_coef (t : Tm) (m : List Int) : coefP (oneP t) m = if t.2 = m then t.1 else 0 := by
 unfold oneP
 split
 · next h => rw [h]; simp [coefP]
 · rw [coefP_cons]; simp [coefP, Rat.add_zero]
theorem normP_from {B : Int} : ∀ (l p : List Tm), Pok B p -> (∀ t ∈ l, Mok B t.2) -> Pok B (l.foldl (fun p t => addP p (oneP t)) p) /\ ∀ m, coefP (l.foldl (fun p t => addP p (oneP t)) p) m = coefP p m + coefP l m
 | [], p, hp, _ => ⟨hp, fun m => by simp [coefP, Rat.add_zero]⟩
 | t :: l, p, hp, hl => by
  have h1 := oneP_ok (hl t (by simp))
  obtain ⟨h2, h3⟩ := normP_from l _ (addP_ok hp h1) fun x hx => hl x (by simp [hx])
  refine ⟨h2, fun m => ?_⟩
  rw [List.foldl_cons, h3, coefP_add hp.1 h1.1, oneP_coef, coefP_cons, Rat.add_assoc]
theorem normP_ok {B : Int} {l : List Tm} (h : ∀ t ∈ l, Mok B t.2) : Pok B (normP l) /\ ∀ m, coefP (normP l) m = coefP l m := by
 obtain ⟨h1, h2⟩ := normP_from l [] (Pok.nil B) h
 exact ⟨h1, fun m => by unfold normP; rw [h2]; simp [coefP, Rat.zero_add]⟩
theorem normP_self {B : Int} {p : List Tm} (h : Pok B p) : normP p = p := by
 obtain ⟨h1, h2⟩ := normP_ok fun t ht => (h.1 t ht).1
 exact pok_ext h1 h h2
theorem sumC_ones : ∀ (l : List Tm) (m : List Int), sumC ((l.filter fun t => !(decide (t.1 = 0))).map fun t => [t]) m = coefP l m
 | [], m => rfl
 | t :: l, m => by
  rw [List.filter_cons, coefP_cons, <- sumC_ones l m]
  by_cases h : t.1 = 0
  · rw [if_neg (by simp [h]), h]; simp [Rat.zero_add]
  ·
   rw [if_pos (by simp [h]), List.map_cons, sumC, coefP_cons]
   simp [coefP, Rat.add_zero]
theorem normP_halves {B : Int} {l : List Tm} (h : ∀ t ∈ l, Mok B t.2) : halvesP ((l.filter fun t => !(decide (t.1 = 0))).map fun t => [t]) = normP l := by
 obtain ⟨h1, h2⟩ := normP_ok h
 have h5 : ∀ p ∈ (l.filter fun t => !(decide (t.1 = 0))).map fun t => [t], Pok B p := fun p hp => by
  obtain ⟨t, ht, rfl⟩ := List.mem_map.1 hp
  rw [List.mem_filter] at ht
  exact (Pok.nil B).cons (h t ht.1) (by simpa using ht.2) fun s hs => by cases hs
 obtain ⟨h3, h4⟩ := halvesP_ok _ h5
 exact pok_ext h3 h1 fun m => by rw [h4, h2, sumC_ones]
theorem monoB_ok {m : List Int} (h : monoB m = true) : Mok 1048576 m := by
 have g := monoB_mem h
 exact ⟨g.2, (fun e => by rw [monoB_last e] at h; cases h), g.1⟩
def readP (names : List ByteArray) (s : List UInt8) : Got (List Tm) := (reaG names s).bnd fun l r => .ok (normP l) r
structure CrQ where
 F : List (List Tm)
 P : List Int
 n : Int
 C : List (List Tm)
theorem bnd_ok {α β : Type} {g : Got α} {f : α -> List UInt8 -> Got β} {y : β} {r : List UInt8} (h : g.bnd f = .ok y r) : ∃ x s, g = .ok x s /\ f x s = .ok y r := by
 cases g with
 | ok x s => exact ⟨x, s, rfl, h⟩
 | bad k e => cases h
theorem powG_pos {names : List ByteArray} {l r : List UInt8} {p : Nat × Int} (h : powG names l = .ok p r) : 0 <= p.2 := by
 unfold powG at h
 obtain ⟨v, s, _, h⟩ := bnd_ok h
 split at h
 ·
  obtain ⟨d, s2, _, h⟩ := bnd_ok h
  split at h
  · cases h
  · injection h with h _; rw [<- h]; exact Int.natCast_nonneg _
 · injection h with h _; rw [<- h]; exact (by decide : (0 : Int) <= 1)
def InM (m : List Int) : Prop := m.length = 64 /\ ∀ x ∈ m, 0 <= x /\ x <= 1048576
theorem proG_in {names : List ByteArray} {F : Nat} : ∀ {n : Nat} {m m' : List Int} {l r : List UInt8}, InM m -> proG names F n m l = .ok m' r -> InM m'
 | 0, _, _, _, _, _, h => by rw [proG] at h; cases h
 | n + 1, m, m', l, r, hm, h => by
  rw [proG] at h
  obtain ⟨p, s, hp, h⟩ := bnd_ok h
  have h0 := powG_pos hp
  split at h
  · cases h
  ·
   next hle =>
   have hput : InM (putM m p) := by
    refine ⟨by rw [putM_len]; exact hm.1, fun x hx => ?_⟩
    unfold putM at hx
    rcases List.mem_or_eq_of_mem_set hx with hx | hx
    · exact hm.2 x hx
    ·
     have := (expAt_in hm.2 p.1).1
     omega
   split at h
   · exact proG_in hput h
   · injection h with h _; rw [<- h]; exact hput
theorem cutM_ok {m : List Int} (h : InM m) : Mok 1048576 (cutM m) := by
 obtain ⟨z, h1, _, h3⟩ := cutM_zeros m
 refine ⟨fun x hx => h.2 x ?_, h3, ?_⟩
 · rw [h1]; exact List.mem_append_left _ hx
 · have := congrArg List.length h1; rw [List.length_append, h.1] at this; omega
theorem zerM_in : InM zerM := by
 refine ⟨by simp [zerM], fun x hx => ?_⟩
 unfold zerM at hx
 have := List.eq_of_mem_replicate hx
 subst this; decide
theorem monG_ok {names : List ByteArray} {F : Nat} {q : Rat} {l r : List UInt8} {t : Rat × List Int} (h : monG names F q l = .ok t r) : Mok 1048576 t.2 := by
 unfold monG at h
 obtain ⟨m, s, hm, h⟩ := bnd_ok h
 injection h with h _
 rw [<- h]
 exact cutM_ok (proG_in zerM_in hm)
theorem terG_ok {names : List ByteArray} {l r : List UInt8} {t : Rat × List Int} (h : terG names l = .ok t r) : Mok 1048576 t.2 := by
 unfold terG at h
 split at h
 · exact monG_ok h
 ·
  obtain ⟨q, s, _, h⟩ := bnd_ok h
  split at h
  · exact monG_ok h
  · injection h with h _; rw [<- h]; exact Mok.nil _
theorem sumG_ok {names : List ByteArray} : ∀ {f : Nat} {neg : Bool} {acc L : List (Rat × List Int)} {l r : List UInt8}, (∀ t ∈ acc, Mok 1048576 t.2) -> sumG names f neg acc l = .ok L r -> r = [] /\ ∀ t ∈ L, Mok 1048576 t.2
 | 0, _, _, _, _, _, _, h => by rw [sumG] at h; cases h
 | f + 1, neg, acc, L, l, r, ha, h => by
  rw [sumG] at h
  split at h
  · cases h
  ·
   next h4 =>
   obtain ⟨t, s, ht, h⟩ := bnd_ok h
   have hacc : ∀ u ∈ acc ++ [sgnT neg t], Mok 1048576 u.2 := fun u hu => by
    rcases List.mem_append.1 hu with hu | hu
    · exact ha u hu
    · rw [List.mem_singleton] at hu; subst hu; show Mok 1048576 t.2; exact terG_ok ht
   split at h
   ·
    next hs =>
    injection h with h1 h2
    subst h1 h2
    exact ⟨List.length_eq_zero_iff.1 hs, hacc⟩
   ·
    obtain ⟨ng, s', _, h⟩ := bnd_ok h
    exact sumG_ok hacc h
theorem reaG_ok {names : List ByteArray} {l r : List UInt8} {L : List (Rat × List Int)} (h : reaG names l = .ok L r) : r = [] /\ ∀ t ∈ L, Mok 1048576 t.2 := by
 unfold reaG at h
 split at h
 · exact sumG_ok (fun t ht => by cases ht) h
 · exact sumG_ok (fun t ht => by cases ht) h
theorem cutM_snoc (l : List Int) (x : Int) : cutM (l ++ [x]) = if x = 0 then cutM l else l ++ [x] := by
 unfold cutM
 rw [List.reverse_append]
 simp only [List.reverse_cons, List.reverse_nil, List.nil_append, List.singleton_append, List.dropWhile_cons]
 by_cases h : x = 0
 · rw [if_pos (by simpa using h), if_pos h]
 ·
  rw [if_neg (by simpa using h), if_neg h]
  simp
theorem cutM_take {l : List Int} {n : Nat} {x : Int} (h : l[n]? = some x) : cutM (l.take (n + 1)) = if x = 0 then cutM (l.take n) else l.take (n + 1) := by
 rw [take_more h, cutM_snoc]
theorem slice_hmz (a : Option Addr) (m c n : Nat) (hn : n <= c) (w : World) :
  (Instr.slice 55 (.slice a m c) none (some (.int .i64 (n : Int))) (some (.int .i64 (n : Int)))).run Tryz.prog w = .ok (.slice a n n) w := by
 obtain ⟨d, hd, hz, hsz, hby⟩ := info_parts infoZ
 have hu := Tryz.underlying55
 have he : Tryz.prog.elem 55 = 3 := by unfold Program.elem; rw [hu]
 have := run_slice_hm (P := Tryz.prog) (w := w) 55 a m c (by rw [hu, he]) .i64 .i64 n n (by omega) (by omega) (by omega)
 rw [this, he]
 simp [sizeOf, typeInfo, hd, hsz, sliced]
 intro _
 cases a with
 | none => rfl
 | some g => rfl
theorem IntsR.cut {w : World} {a : Option Addr} {c n : Nat} {l : List Int} (h : IntsR w a c l) : IntsR w a (l.take n).length (l.take n) :=
 ⟨nlr _, by have h1 := h.1; have h2 := h.2.1; rw [List.length_take]; omega, fun k x hx => by
  rw [List.getElem?_take] at hx
  split at hx
  · exact h.2.2 k x hx
  · cases hx⟩
theorem trimZ_any (l : List Int) (a : Option Addr) (c : Nat) (w : World) (h : IntsR w a c l) (hl : l.length <= 1000000) :
  Calls Tryz.prog 126 #[.slice a l.length c] w fun e w' => ∃ a' c', e = .returned (.slice a' (cutM l).length c') /\ (∀ V, Ext w V -> IntsR V a' c' (cutM l)) /\ w = w' := by
 have hc := h.1
 have HI := Hd h
 obtain ⟨R, hR⟩ : ∃ R, cutM l = R := ⟨_, rfl⟩
 rw [hR]
 replace hR := Hd hR
 clear h
 go_enter Tryz.func126, Tryz.ntmps126
 go_wp2
 go_loopg [3] l.length (fun g q wr => q = .int .i64 g /\ Hid (g <= l.length) /\ Hid (cutM (l.take g) = R) /\ w = wr)
 case atStart => exact ⟨rfl, nlr _, by show _ = _; rw [List.take_length]; exact hR.out, rfl⟩
 case round =>
  obtain ⟨rfl, hg, hcut, rfl⟩ := hrel
  cases gk with
  | zero =>
   have hR0 : R = [] := by rw [<- hcut.out]; rfl
   subst hR0
   clear hR hcut
   go_wp2
   go_ret
   exact ⟨none, 0, rfl, fun _ _ => SlR.nil, rfl⟩
  | succ n =>
   have hn1 : (((n + 1 : Nat) : Int) - 1) = (n : Int) := by omega
   have hnc : ((n + 1 : Nat) : Int) = (n : Int) + 1 := by omega
   have hnl : n < l.length := by have := hg.out; omega
   obtain ⟨x, hx⟩ := get_of_lt hnl
   obtain ⟨b, off, rfl, hcx, hix⟩ := ints_cell HI.out hx
   have hct := cutM_take hx
   have hpos : (0 : Int) < (n : Int) + 1 := by omega
   have hne : (((n : Int) + 1) == 0) = false := by rw [beq_eq_false_iff_ne]; omega
   by_cases h0 : x = 0
   ·
    have hx0 : (x == 0) = true := by simpa using h0
    rw [if_pos h0] at hct
    have hcut2 := Hd (hct.symm.trans hcut.out)
    clear hct hcut hx h0 hix
    rw [hnc]
    go_wp2
    go_roundg n
    case rel => exact ⟨by first | rfl | go_num, by have := hg.out; show _ <= _; omega, hcut2.out, rfl⟩
    case measure => omega
   ·
    have hx0 : (x == 0) = false := by simpa using h0
    rw [if_neg h0] at hct
    have hcut2 : R = l.take (n + 1) := hcut.out.symm.trans hct
    have hrl : R.length = n + 1 := by rw [hcut2, List.length_take]; omega
    have hsl := fun W => slice_hmz (some ⟨b, off, none⟩) l.length c (n + 1) (by omega) W
    rw [hnc] at hsl
    have hF := Hd (fun V (hV : Ext w V) => (show IntsR V (some ⟨b, off, none⟩) (n + 1) R from by
     have := ((HI.out.ext hV).cut (n := n + 1))
     rw [<- hcut2, hrl] at this
     exact this))
    replace hrl := Hd hrl
    clear hct hcut hx h0 hcut2 hix
    rw [hnc]
    go_wp2
    go_ret
    exact ⟨some ⟨b, off, none⟩, n + 1, by rw [hrl.out]; rfl, hF.out, rfl⟩
theorem monoB_cut {l : List Int} (h : InM l) : monoB (cutM l) = true := by
 have hk := cutM_ok h
 refine monoB_good hk.2.2 hk.2.1 ?_
 rw [List.all_eq_true]
 exact fun x hx => by simpa using hk.1 x hx
theorem normM_any (l : List Int) (a : Option Addr) (c : Nat) (w : World) (h : IntsR w a c l) (hl : l.length <= 1000000) :
  Calls Tryz.prog 76 #[.slice a l.length c] w (RetMo (if monoB (cutM l) = true then cutM l else []) w) := by
 have CT := trimZ_any l a c w h hl
 have hlc : (cutM l).length <= 1000000 := by
  obtain ⟨z, hz, _⟩ := cutM_zeros l
  have := congrArg List.length hz
  rw [List.length_append] at this
  omega
 have hin : ∀ x ∈ cutM l, InInt x := fun x hx => by
  obtain ⟨z, hz, _⟩ := cutM_zeros l
  obtain ⟨k, hk⟩ := List.getElem?_of_mem (show x ∈ l by rw [hz]; simp [hx])
  obtain ⟨_, _, _, _, hi⟩ := ints_cell h hk
  exact hi
 revert CT hlc hin
 generalize cutM l = R
 intro CT hlc hin
 replace CT := Hd CT; replace hin := Hd hin
 clear h
 obtain ⟨b, hb⟩ : ∃ b, monoB R = b := ⟨_, rfl⟩
 rw [hb]
 obtain ⟨Q, hQ⟩ : ∃ Q, (if b = true then R else []) = Q := ⟨_, rfl⟩
 rw [hQ]
 replace hQ := Hd hQ
 have CR := fun a' c' W (hI : IntsR W a' c' R) => monoP_any R a' c' W hI
 simp only [hb] at CR
 replace CR := Hd CR
 clear hb
 go_enter Tryz.func76, Tryz.ntmps76
 go_wp2_with fail
 refine CT.out.mono ?_
 rintro e w1 ⟨a1, c1, rfl, hV, rfl⟩
 have HV := Hd hV
 clear hV
 go_wp2_with fail
 refine (CR.out a1 c1 w (HV.out w (Ext.refl _))).mono ?_
 rintro e w1 ⟨rfl, rfl⟩
 cases b
 ·
  have hq0 := hQ.out
  rw [if_neg (by decide)] at hq0
  subst hq0
  go_wp2
  go_ret
  exact ⟨none, 0, rfl, fun V _ => SlR.nil, Below.refl _ _⟩
 ·
  have hq0 := hQ.out
  rw [if_pos rfl] at hq0
  subst hq0
  go_wp2_with (at_builtin; go_must (refine wpList_plain rfl fun _ hK => wp_append_m (B := w.heap.size) (.const (.slice none 0 0)) (.tmp 8) 55 rfl Tryz.underlying55 infoI rfl (by omega) (by omega) intC_len none 0 (l := []) rfl Own.nil (fun x _ => intC_one x) a1 c1 (m := R) rfl (fun k x hx => by obtain ⟨b, off, e, hc, _⟩ := ints_cell (HV.out w (Ext.refl _)) hx; exact ⟨b, off, e, fun j u hu => by match j, hu with | 0, hu => simp [intC] at hu; subst hu; simpa using hc⟩) R rfl (by omega) (nlr _) ?_); intro a2 c2 w2 ho2 hg2 hb2; refine hK _ _ ?_)
  go_ret
  exact ⟨a2, c2, rfl, Kp.made fun V hV => OwnI.newZ ho2 hV hin.out, hb2⟩
end Go.Proofs.YtkjnkpkagcboeaaGreatDoor
