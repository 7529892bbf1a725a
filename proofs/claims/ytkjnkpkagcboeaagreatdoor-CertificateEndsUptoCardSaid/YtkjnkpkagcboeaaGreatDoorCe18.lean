/- Walk: a term read from a text (the program). -/
import Derived.Test.YtkjnkpkagcboeaaGreatDoorCe17
import Derived.Test.YtkjnkpkagcboeaaGreatDoorCe10
import Derived.Test.YtkjnkpkagcboeaaGreatDoorCe11
set_option linter.all false
set_option maxRecDepth 100000
set_option maxHeartbeats 4000000
namespace Go.Proofs.YtkjnkpkagcboeaaGreatDoor
open Go.RowKit
theorem Kp.fr {R : World -> Prop} {B T : Nat} {w w' : World} {Y : Nat -> Prop} (h : Kp R B T w) (hf : Fr Y w w') (hY : ∀ b, Y b -> b < B \/ T <= b) : Kp R B T w' := fun V hV => h V fun p v h1 h2 h3 =>
 hV p v h1 h2 (hf.agr p v (fun hy => by have := hY _ hy; omega) h3)
theorem Kp.both {R R' : World -> Prop} {B T : Nat} {w : World} (h : Kp R B T w) (k : Kp R' B T w) : Kp (fun V => R V /\ R' V) B T w := fun V hV => ⟨h V hV, k V hV⟩
theorem StR.set2 {w : World} {g mb g2 i : Nat} {s : ByteArray} {l : List UInt8} {u : Value} (h : StR w g s mb l) (hg : g ≠ g2) : StR (w.setCell ⟨g2, i, none⟩ u) g s mb l := by obtain ⟨a, h1, h2, h3⟩ := h; exact ⟨a, h1, h2, bF hg h3⟩
theorem StE.set2 {w : World} {g mb g2 i : Nat} {s : ByteArray} {k : Nat} {e : Int} {u : Value} (h : StE w g s mb k e) (hg : g ≠ g2) : StE (w.setCell ⟨g2, i, none⟩ u) g s mb k e := by obtain ⟨a, h1, h2, h3, h4⟩ := h; exact ⟨a, h1, h2, h3, bF hg h4⟩
theorem StG.set2 {α : Type} {G : Got α} {w : World} {g mb g2 i : Nat} {s : ByteArray} {u : Value} (h : StG w g s mb G) (hg : g ≠ g2) : StG (w.setCell ⟨g2, i, none⟩ u) g s mb G := by
 cases G with
 | ok v r => exact StR.set2 h hg
 | bad k e => exact StE.set2 h hg
theorem blk4 {w : World} {g : Nat} {t : TypeId} {u v r q x y z k : Value} (h : Blk w g t #[u, v, r, q]) : Blk ((((w.setCell ⟨g, 0, none⟩ x).setCell ⟨g, 1, none⟩ y).setCell ⟨g, 2, none⟩ z).setCell ⟨g, 3, none⟩ k) g t #[x, y, z, k] := by
 have := (((h.set_ 0 x).set_ 1 y).set_ 2 z).set_ 3 k; simpa using this
def bndQ (q : Rat) (G : Got (List Int)) : Got Tm := G.bnd fun m r => .ok (q, m) r
theorem monG_bnd (names : List ByteArray) (F : Nat) (q : Rat) (l : List UInt8) : monG names F q l = bndQ q ((proG names F (l.length + 1) zerM l).bnd fun m r => .ok (cutM m) r) := by
 unfold monG bndQ
 cases proG names F (l.length + 1) zerM l <;> rfl
def RetT (G : Got Tm) (g mb : Nat) (s : ByteArray) (w : World) (e : Ending) (w' : World) : Prop := ∃ t : TQ, e = .returned (.agg #[.bool t.x.neg, .slice t.x.a t.x.n t.x.c, .slice t.x.b t.x.m t.x.d, .slice t.a t.n t.c]) /\ (∀ u r, G = .ok u r -> Kp (fun V => t.R u V /\ qsz u.1 <= 1000) w.heap.size w'.heap.size w') /\
 (∀ k er, G = .bad k er -> t.x = zQA \/ ∃ q, Kp (fun V => QK 1000 V t.x q) w.heap.size w'.heap.size w') /\ StG w' g s mb G /\ Fg g w w'
theorem term_any (g mb a nm0 : Nat) (s : ByteArray) (names : List ByteArray) (w : World) (h : RdA w g s mb a 0 0) (ha : a <= s.size) (hs : s.size <= 281474976710656) (hm : OwnV w mb nm0 (names.take 64)) (hne : mb ≠ g) (he : ErrW w) (hge : Tryz.lays172_ren.g 16 ≠ g) :
  Calls Tryz.prog 71 #[.pointer (some ⟨g, 0, none⟩)] w (RetT (terG names (tl s a)) g mb s w) := by
 have HM := Hd (fun W (hW : Fg g w W) => hm.fr hW hne)
 have HE := Hd (fun W (hW : Fg g w W) => he.fr hW hge)
 obtain ⟨GG, hGG⟩ : ∃ G, terG names (tl s a) = G := ⟨_, rfl⟩
 rw [hGG]
 have hgg0 := h.lt
 have H := Hd (fun o => show RdA (w.alloc o) g s mb a 0 0 from bA h)
 have z0 := Blk.cell h 0; have z1 := Blk.cell h 1; have z2 := Blk.cell h 2; have z3 := Blk.cell h 3; have z4 := Blk.cell h 4
 have hl := h.lt
 clear h hm he
 go_enter Tryz.func71, Tryz.ntmps71
 go_wp2
 refine world_gen (fun W => Blk W w.heap.size 57 #[.bool false, .slice none 0 0, .slice none 0 0, .slice none 0 0] /\ RdA W g s mb a 0 0 /\ Fg g w W /\ w.heap.size < W.heap.size) ⟨Blk.new w _ _, H.out _, (Fr.refl _ _).alloc _, by simp⟩ ?_
 clear z0 z1 z2 z3 z4 hl H
 rintro w0 ⟨hz0, h0, hf0, hlt0⟩
 obtain ⟨g2, hg2⟩ : ∃ q, w.heap.size = q := ⟨_, rfl⟩
 have hg2w : Hid (w.heap.size <= g2) := Hd (by omega)
 have hgg : Hid (g < g2) := Hd (by omega)
 have hg2B : Hid (g2 < w0.heap.size) := Hd (by omega)
 rw [hg2] at hz0 ⊢
 replace hg2 := Hd hg2
 obtain ⟨B0, hB0⟩ : ∃ q, w0.heap.size = q := ⟨_, rfl⟩
 rw [hB0] at hg2B
 replace hB0 := Hd hB0
 have z0 := Blk.cell h0 0; have z1 := Blk.cell h0 1; have z2 := Blk.cell h0 2; have z3 := Blk.cell h0 3; have z4 := Blk.cell h0 4
 have hl := h0.lt
 have hz1 := Hd (show Blk w0.drew g2 57 #[.bool false, .slice none 0 0, .slice none 0 0, .slice none 0 0] from hz0)
 have h1 := Hd (show RdA w0.drew g s mb a 0 0 from h0)
 have hf1 := Hd (show Fg g w w0.drew from hf0.call (brf.drew))
 have hs1 : Hid (B0 <= w0.drew.heap.size) := Hd (by have := hB0.out; show _ <= w0.heap.size; omega)
 clear hgg0 hlt0 hz0 h0 hf0
 by_cases hlt : a < s.size
 ·
  have hT := tl_at hlt
  obtain ⟨c, hc⟩ : ∃ c, s[a]'hlt = c := ⟨_, rfl⟩
  rw [hc] at hT
  obtain ⟨y, hy⟩ : ∃ y : Nat, c.toNat = y := ⟨_, rfl⟩
  have hy0 : (s[a]'hlt).toNat = y := by rw [hc]; exact hy
  have CD := digitS_any (y : Int)
  have hdy : digU c = digV (y : Int) := by unfold digU; rw [hy]
  obtain ⟨bd, hbd0⟩ : ∃ b, digV (y : Int) = b := ⟨_, rfl⟩
  simp only [hbd0] at CD
  rw [hbd0] at hdy
  replace CD := Hd CD
  cases bd
  ·
   have hG1 := Hd (show GG = bndQ 1 ((proG names (s.size - a) ((tl s a).length + 1) zerM (tl s a)).bnd fun m r => .ok (cutM m) r) from by
    rw [<- hGG]; unfold terG; rw [if_pos (by rw [hT, numL, hdy]; rfl), monG_bnd, tl_len])
   have hy2 := Hd hy
   clear hT hdy hbd0 hc hGG hy
   refine wp_region_mix (S := (fun x => x = w0.drew)) [(0, .q), (1, .q), (2, .q), (3, .q), (4, .q), (5, .q), (6, .q), (7, .q), (8, .q), (9, .q), (10, .q), (11, .q), (12, .q), (13, .q), (14, .q), (15, .q), (16, .q), (17, .q), (18, .q), (19, .q), (20, .t), (21, .p)] (by kernel_rfl) (by kernel_rfl) (by kernel_rfl) (fun d _ _ _ _ h => by cases d <;> exact h) (rfl) ?_
   iterate 20 (refine wpMix_q rfl rfl (fun K hK => ?_); apply Exists.intro; refine ⟨fun w' hw' => ?_, ?_⟩; (focus (go_simp; try rfl)); go_simp; refine hK _ _ ?_; clear hK K)
   refine wpMix_t rfl rfl (fun K hK => ?_)
   go_simp
   refine (CD.out w0.drew).mono ?_
   rintro e w' ⟨rfl, rfl⟩
   dsimp only
   refine hK.out _ _ ?_
   clear hK K
   iterate 1 (refine wpMix_p rfl rfl (fun K hK => ?_); apply Exists.intro; refine ⟨fun w' => ?_, ?_⟩; (focus (go_simp; try rfl)); go_simp; refine hK _ _ ?_; clear hK K)
   refine wpMix_nil ?_
   go_wp2_with fail
   refine calls_gen (fun W => Blk W g2 57 #[.bool false, .slice none 0 0, .slice none 0 0, .slice none 0 0] /\ RdA W g s mb a 0 0 /\ Fg g w W /\ B0 <= W.heap.size) ⟨hz1.out, h1.out, hf1.out, hs1.out⟩ ?_
   clear hz1 h1 hf1 hs1 z0 z1 z2 z3 z4 hl
   rintro w1 ⟨hz1, h1, hf1, hs1⟩
   refine (unit_q w1).mono ?_
   rintro e w2 ⟨x, rfl, hK1, hb2⟩
   have hzp := hz1.below' hb2
   have hp := h1.below hb2
   have hfp := hf1.call hb2
   have hlw := Hd (show g < w1.heap.size /\ B0 <= w2.heap.size from ⟨h1.lt, Nat.le_trans hs1 hb2.size⟩)
   have CQ := product_any g mb a nm0 a s names w2 hp ha hs (HM.out w2 hfp) hne (HE.out w2 hfp) hge ha
   obtain ⟨PRG, hPRG⟩ : ∃ G, ((proG names (s.size - a) ((tl s a).length + 1) zerM (tl s a)).bnd fun m r => (.ok (cutM m) r : Got (List Int))) = G := ⟨_, rfl⟩
   rw [hPRG] at CQ
   have hG2 := Hd (show GG = bndQ 1 PRG by rw [hG1.out, hPRG])
   replace CQ := Hd CQ
   clear hPRG hG1 hz1 h1 hf1 hb2
   go_wp2_with fail
   refine CQ.out.mono ?_
   rintro e w3 ⟨m, am, cm, rfl, hmm, hKm, hS3, hf3'⟩
   have hz2 : Blk w3 g2 57 #[.bool false, .slice none 0 0, .slice none 0 0, .slice none 0 0] := Blk.fr hzp hf3' (by have := hgg.out; omega)
   have hf3 := hfp.trans hf3'
   have hKx2 := Hd ((hK1.fr hf3' (fun b hb => .inl (by subst hb; exact hlw.out.1))).wide (B' := B0) (T' := w3.heap.size) hs1 hf3'.size)
   have hKm2 := Hd (hKm.wide (B' := B0) (T' := w3.heap.size) hlw.out.2 (nlr _))
   obtain ⟨nm, hnm⟩ : ∃ q : Nat, q = m.length := ⟨_, rfl⟩
   rw [<- hnm]
   replace hnm := Hd hnm
   have hSG : StG w3 g s mb GG := by
    rw [hG2.out]
    cases PRG with
    | ok v r => exact hS3
    | bad k e => exact hS3
   replace hmm := Hd hmm
   clear CQ hzp hp hfp hK1 hKm hS3 hf3'
   -- in world W3 the term ⟨x, nm, am, cm⟩ lies in the box g4 (or is at hand); it is written into g2
   have hSE := Hd (((((hSG).set2 (g2 := g2) (i := 0) (u := .bool x.neg) (by have := hgg.out; omega)).set2 (g2 := g2) (i := 1) (u := .slice x.a x.n x.c) (by have := hgg.out; omega)).set2 (g2 := g2) (i := 2) (u := .slice x.b x.m x.d) (by have := hgg.out; omega)).set2 (g2 := g2) (i := 3) (u := .slice am nm cm) (by have := hgg.out; omega))
   have hfE := Hd ((((hf3.setc (g := g2) (i := 0) (u := .bool x.neg) (.inr hg2w.out)).setc (g := g2) (i := 1) (u := .slice x.a x.n x.c) (.inr hg2w.out)).setc (g := g2) (i := 2) (u := .slice x.b x.m x.d) (.inr hg2w.out)).setc (g := g2) (i := 3) (u := .slice am nm cm) (.inr hg2w.out))
   have hFz := Hd (blk4 (x := .bool x.neg) (y := .slice x.a x.n x.c) (z := .slice x.b x.m x.d) (k := .slice am nm cm) hz2)
   have hKE := Hd (fun (R : World -> Prop) (h : Kp R B0 w3.heap.size w3) => ((((h.setc (g := g2) (i := 0) (u := .bool x.neg) (.inl hg2B.out)).setc (g := g2) (i := 1) (u := .slice x.a x.n x.c) (.inl hg2B.out)).setc (g := g2) (i := 2) (u := .slice x.b x.m x.d) (.inl hg2B.out)).setc (g := g2) (i := 3) (u := .slice am nm cm) (.inl hg2B.out)).wide (B' := w.heap.size) (T' := ((((w3.setCell ⟨g2, 0, none⟩ (.bool x.neg)).setCell ⟨g2, 1, none⟩ (.slice x.a x.n x.c)).setCell ⟨g2, 2, none⟩ (.slice x.b x.m x.d)).setCell ⟨g2, 3, none⟩ (.slice am nm cm)).heap.size) (Nat.le_trans hg2w.out (Nat.le_of_lt hg2B.out)) (by simp))
   have d0 := hz2.cell 0; have d1 := hz2.cell 1; have d2 := hz2.cell 2; have d3 := hz2.cell 3; have f0 := hz2.frozen 0; have f1 := hz2.frozen 1; have f2 := hz2.frozen 2; have f3 := hz2.frozen 3
   have hgl2 := hz2.lt
   clear hSG hf3 hz2
   go_wp2
   have hFF := hFz.out
   have e0 := hFF.cell 0; have e1 := hFF.cell 1; have e2 := hFF.cell 2; have e3 := hFF.cell 3
   refine bodyPost_ret (v := .agg #[.bool x.neg, .slice x.a x.n x.c, .slice x.b x.m x.d, .slice am nm cm]) (by simp [results, Tryz.results71, go_sem, e0, e1, e2, e3]) rfl ?_
   refine ⟨⟨x, nm, am, cm⟩, rfl, ?_, ?_, hSE.out, hfE.out⟩
   ·
    intro u r' e
    have e2 := hG2.out.symm.trans e
    cases PRG with
    | bad k er => cases e2
    | ok m' r2 =>
     injection e2 with e3 e4
     subst e3
     obtain rfl := hmm.out m' r2 rfl
     exact hKE.out _ ((Kp.both hKx2.out hKm2.out).imp fun V h => ⟨⟨h.1.1, h.2, hnm.out⟩, Nat.le_trans h.1.2 (by omega)⟩)
   ·
    intro k er e
    exact .inr ⟨1, hKE.out _ (hKx2.out.imp fun V h => h.more (by omega))⟩
  ·
   have hG1 := Hd (show GG = (cofG (tl s a)).bnd fun q r => if r[0]? = some 42 then monG names (s.size - a) q (r.drop 1) else .ok (q, []) r from by
    rw [<- hGG]; unfold terG; rw [if_neg (by rw [hT, numL_run hdy]; omega), tl_len])
   have hy2 := Hd hy
   clear hT hdy hbd0 hc hGG hy
   refine wp_region_mix (S := (fun x => x = w0.drew)) [(0, .q), (1, .q), (2, .q), (3, .q), (4, .q), (5, .q), (6, .q), (7, .q), (8, .q), (9, .q), (10, .q), (11, .q), (12, .q), (13, .q), (14, .q), (15, .q), (16, .q), (17, .q), (18, .q), (19, .q), (20, .t), (21, .p)] (by kernel_rfl) (by kernel_rfl) (by kernel_rfl) (fun d _ _ _ _ h => by cases d <;> exact h) (rfl) ?_
   iterate 20 (refine wpMix_q rfl rfl (fun K hK => ?_); apply Exists.intro; refine ⟨fun w' hw' => ?_, ?_⟩; (focus (go_simp; try rfl)); go_simp; refine hK _ _ ?_; clear hK K)
   refine wpMix_t rfl rfl (fun K hK => ?_)
   go_simp
   refine (CD.out w0.drew).mono ?_
   rintro e w' ⟨rfl, rfl⟩
   dsimp only
   refine hK.out _ _ ?_
   clear hK K
   iterate 1 (refine wpMix_p rfl rfl (fun K hK => ?_); apply Exists.intro; refine ⟨fun w' => ?_, ?_⟩; (focus (go_simp; try rfl)); go_simp; refine hK _ _ ?_; clear hK K)
   refine wpMix_nil ?_
   go_wp2_with fail
   refine calls_gen (fun W => Blk W g2 57 #[.bool false, .slice none 0 0, .slice none 0 0, .slice none 0 0] /\ RdA W g s mb a 0 0 /\ Fg g w W /\ B0 <= W.heap.size) ⟨hz1.out, h1.out, hf1.out, hs1.out⟩ ?_
   clear hz1 h1 hf1 hs1 z0 z1 z2 z3 z4 hl CD
   rintro w1 ⟨hz1, h1, hf1, hs1⟩
   have CC := coefficient_any g mb a s w1 h1 ha hs
   obtain ⟨CG, hCG⟩ : ∃ G, cofG (tl s a) = G := ⟨_, rfl⟩
   have hG2 := hG1.out
   rw [hCG] at CC hG2
   clear hG1 hCG
   refine CC.mono ?_
   rintro e w2 ⟨x, rfl, hKx, hzx, hS2, hf2'⟩
   have hf2 := hf1.trans hf2'
   have hz2 : Blk w2 g2 57 #[.bool false, .slice none 0 0, .slice none 0 0, .slice none 0 0] := Blk.fr hz1 hf2' (by have := hgg.out; omega)
   have hs2 := Nat.le_trans hs1 hf2'.size
   have hlw1 : g < w1.heap.size := h1.lt
   clear CC hz1 h1 hf1 hf2'
   cases CG with
   | bad k er =>
    have hGe := Hd (show GG = .bad k er from hG2)
    obtain rfl := hzx k er rfl
    obtain ⟨pe, hpe, hke, h0e, hRe⟩ := hS2
    have hzE : (er == 0) = false := by rw [beq_eq_false_iff_ne]; exact h0e
    have z0 := Blk.cell hRe 0; have z1 := Blk.cell hRe 1; have z2 := Blk.cell hRe 2; have z3 := Blk.cell hRe 3; have z4 := Blk.cell hRe 4
    have hl := Blk.lt hRe
    have d0 := hz2.cell 0; have d1 := hz2.cell 1; have d2 := hz2.cell 2; have d3 := hz2.cell 3; have f0 := hz2.frozen 0; have f1 := hz2.frozen 1; have f2 := hz2.frozen 2; have f3 := hz2.frozen 3
    have hgl2 := hz2.lt
    obtain ⟨cA, hcA⟩ : ∃ c : Array Value, c = #[.bool false, .slice none 0 0, .slice none 0 0, .slice none 0 0] := ⟨_, rfl⟩
    have hfE := Hd (((((hf2.setc (g := g2) (i := 0) (u := .bool false) (.inr hg2w.out)).setc (g := g2) (i := 1) (u := .slice none 0 0) (.inr hg2w.out)).setc (g := g2) (i := 2) (u := .slice none 0 0) (.inr hg2w.out)).setc (g := g2) (i := 3) (u := .slice none 0 0) (.inr hg2w.out)).alloc (.cells cA 57))
    have hFz := Hd ((blk4 (x := .bool false) (y := .slice none 0 0) (z := .slice none 0 0) (k := .slice none 0 0) hz2).alloc (.cells cA 57))
    have hRE := Hd (show RdA (((((w2.setCell ⟨g2, 0, none⟩ (.bool false)).setCell ⟨g2, 1, none⟩ (.slice none 0 0)).setCell ⟨g2, 2, none⟩ (.slice none 0 0)).setCell ⟨g2, 3, none⟩ (.slice none 0 0)).alloc (.cells cA 57)) g s mb pe er ((s.size - k : Nat) : Int) from
     bA (bF (by have := hgg.out; omega) (bF (by have := hgg.out; omega) (bF (by have := hgg.out; omega) (bF (by have := hgg.out; omega) hRe)))))
    rw [hcA] at hfE hFz hRE
    have hgl4 : g2 < w2.heap.size + 1 := by omega
    replace h0e := Hd h0e
    clear hKx hzx hG2 hf2 hz2 hRe hcA
    unfold zQA
    go_wp2
    have hFF := hFz.out
    have e0 := hFF.cell 0; have e1 := hFF.cell 1; have e2 := hFF.cell 2; have e3 := hFF.cell 3
    refine bodyPost_ret (v := .agg #[.bool false, .slice none 0 0, .slice none 0 0, .slice none 0 0]) (by simp [results, Tryz.results71, go_sem, e0, e1, e2, e3]) rfl ?_
    exact ⟨⟨zQA, 0, none, 0⟩, rfl, fun u r e => (by cases hGe.out.symm.trans e), fun _ _ _ => .inl rfl, by rw [hGe.out]; exact ⟨pe, hpe, hke, h0e.out, hRE.out⟩, hfE.out⟩
   | ok q r =>
    obtain ⟨p1, hp1, hr1, hR1⟩ := hS2
    have hK1 := hKx q r rfl
    have hG3 : GG = if r[0]? = some 42 then monG names (s.size - a) q (r.drop 1) else .ok (q, []) r := hG2
    rw [hr1] at hG3
    have CK := Hd (fun W (hW : RdA W g s mb p1 0 0) => peek_any g mb p1 s 0 0 42 W hW hp1 hs)
    have hst := nxtB_is (tl s p1) 42 (z := 42) rfl
    obtain ⟨bp, hbp⟩ : ∃ b, nxtB (tl s p1) 42 = b := ⟨_, rfl⟩
    rw [hbp] at CK hst
    have z0 := Blk.cell hR1 0; have z1 := Blk.cell hR1 1; have z2 := Blk.cell hR1 2; have z3 := Blk.cell hR1 3; have z4 := Blk.cell hR1 4
    have hl := hR1.lt
    obtain ⟨T1, hT1⟩ : ∃ q, w2.heap.size = q := ⟨_, rfl⟩
    replace hbp := Hd hbp; replace hst := Hd hst; replace hG3 := Hd hG3; replace hr1 := Hd hr1
    have hK1' := Hd hK1; have hR1' := Hd hR1; have hz2' := Hd hz2; have hf2' := Hd hf2
    have hTB := Hd (show g2 < T1 /\ B0 <= T1 from by have h1 := hz2.lt; omega)
    have hlwB := Hd (show g < B0 from by have := hgg.out; have := hg2B.out; omega)
    replace hT1 := Hd hT1
    clear hKx hzx hG2 hR1 hK1 hz2 hf2
    go_wp2_with fail
    refine calls_gen (fun W => Blk W g2 57 #[.bool false, .slice none 0 0, .slice none 0 0, .slice none 0 0] /\ Blk W T1 57 #[.bool x.neg, .slice x.a x.n x.c, .slice x.b x.m x.d, .slice none 0 0] /\ RdA W g s mb p1 0 0 /\ Fg g w W /\ Kp (fun V => QK 1000 V x q) w1.heap.size T1 W /\ T1 <= W.heap.size) ⟨hz2'.out.alloc _, bN hT1.out.symm, bA hR1'.out, hf2'.out.alloc _, by have := hK1'.out; rw [hT1.out] at this; exact this.alloc, by rw [<- hT1.out]; simp⟩ ?_
    clear hK1' hR1' hz2' hf2' z0 z1 z2 z3 z4 hl
    rintro w3 ⟨hz3, hy3, hR3, hf3, hK3, hs3⟩
    rw [hT1.out]
    refine (CK.out w3 hR3).mono ?_
    rintro e w4 ⟨rfl, hb4⟩
    have hz4 := hz3.below' hb4
    have hy4 := hy3.below' hb4
    have hR4 := hR3.below hb4
    have hf4 := hf3.call hb4
    have hK4 := hK3.call hb4
    have hs4 := Nat.le_trans hs3 hb4.size
    clear CK hz3 hy3 hR3 hf3 hK3 hb4 hs3
    cases bp
    ·
     have h42 : ¬ (tl s p1)[0]? = some 42 := by have := hst.out; simpa using this.symm
     have hGe : GG = .ok (q, []) (tl s p1) := hG3.out.trans (if_neg h42)
     have hSG : StG w4 g s mb GG := by rw [hGe]; exact ⟨p1, hp1, rfl, hR4⟩
     have hz2 := hz4; have hf3 := hf4
     have hyX := Hd hy4
     have hK := Hd hK4
     replace hGe := Hd hGe
     have hs4' := Hd hs4
     clear h42 hz4 hf4 hR4 hy4 hK4
     obtain ⟨am, ham⟩ : ∃ q : Option Addr, q = none := ⟨_, rfl⟩
     obtain ⟨nm, hnm⟩ : ∃ q : Nat, q = 0 := ⟨_, rfl⟩
     obtain ⟨cm, hcm⟩ : ∃ q : Nat, q = 0 := ⟨_, rfl⟩
     have hnil := Hd (fun V => (show IntsR V am cm [] by rw [ham, hcm]; exact SlR.nil))
     replace ham := Hd ham; replace hnm := Hd hnm; replace hcm := Hd hcm
     rw [show (Value.slice none 0 0) = .slice am nm cm by rw [ham.out, hnm.out, hcm.out]] at hyX
     -- out of the box g4, in world W3
     have hy4 := hyX.out
     have y0 := hy4.cell 0; have y1 := hy4.cell 1; have y2 := hy4.cell 2; have y3 := hy4.cell 3
     have hgl4 := hy4.lt
     clear hy4
     -- in world W3 the term ⟨x, nm, am, cm⟩ lies in the box g4 (or is at hand); it is written into g2
     have hSE := Hd (((((hSG).set2 (g2 := g2) (i := 0) (u := .bool x.neg) (by have := hgg.out; omega)).set2 (g2 := g2) (i := 1) (u := .slice x.a x.n x.c) (by have := hgg.out; omega)).set2 (g2 := g2) (i := 2) (u := .slice x.b x.m x.d) (by have := hgg.out; omega)).set2 (g2 := g2) (i := 3) (u := .slice am nm cm) (by have := hgg.out; omega))
     have hfE := Hd ((((hf3.setc (g := g2) (i := 0) (u := .bool x.neg) (.inr hg2w.out)).setc (g := g2) (i := 1) (u := .slice x.a x.n x.c) (.inr hg2w.out)).setc (g := g2) (i := 2) (u := .slice x.b x.m x.d) (.inr hg2w.out)).setc (g := g2) (i := 3) (u := .slice am nm cm) (.inr hg2w.out))
     have hFz := Hd (blk4 (x := .bool x.neg) (y := .slice x.a x.n x.c) (z := .slice x.b x.m x.d) (k := .slice am nm cm) hz2)
     have hKE := Hd (fun (R : World -> Prop) (h : Kp R B0 w4.heap.size w4) => ((((h.setc (g := g2) (i := 0) (u := .bool x.neg) (.inl hg2B.out)).setc (g := g2) (i := 1) (u := .slice x.a x.n x.c) (.inl hg2B.out)).setc (g := g2) (i := 2) (u := .slice x.b x.m x.d) (.inl hg2B.out)).setc (g := g2) (i := 3) (u := .slice am nm cm) (.inl hg2B.out)).wide (B' := w.heap.size) (T' := ((((w4.setCell ⟨g2, 0, none⟩ (.bool x.neg)).setCell ⟨g2, 1, none⟩ (.slice x.a x.n x.c)).setCell ⟨g2, 2, none⟩ (.slice x.b x.m x.d)).setCell ⟨g2, 3, none⟩ (.slice am nm cm)).heap.size) (Nat.le_trans hg2w.out (Nat.le_of_lt hg2B.out)) (by simp))
     have d0 := hz2.cell 0; have d1 := hz2.cell 1; have d2 := hz2.cell 2; have d3 := hz2.cell 3; have f0 := hz2.frozen 0; have f1 := hz2.frozen 1; have f2 := hz2.frozen 2; have f3 := hz2.frozen 3
     have hgl2 := hz2.lt
     clear hSG hf3 hz2
     go_wp2
     have hFF := hFz.out
     have e0 := hFF.cell 0; have e1 := hFF.cell 1; have e2 := hFF.cell 2; have e3 := hFF.cell 3
     refine bodyPost_ret (v := .agg #[.bool x.neg, .slice x.a x.n x.c, .slice x.b x.m x.d, .slice am nm cm]) (by simp [results, Tryz.results71, go_sem, e0, e1, e2, e3]) rfl ?_
     refine ⟨⟨x, nm, am, cm⟩, rfl, ?_, ?_, hSE.out, hfE.out⟩
     ·
      intro u r' e
      injection hGe.out.symm.trans e with e1 e2
      subst e1
      refine hKE.out _ ((hK.out.imp fun V h => ?_).wide hs1 hs4'.out)
      exact ⟨⟨h.1, hnil.out V, hnm.out⟩, h.2⟩
     ·
      intro k er e
      cases hGe.out.symm.trans e
    ·
     have h42 : (tl s p1)[0]? = some 42 := by have := hst.out; simpa using this.symm
     have hp1l : p1 < s.size := by
      apply Nat.lt_of_not_le
      intro hle
      rw [tl_end hle] at h42
      cases h42
     have hG4 : GG = bndQ q ((proG names (s.size - a) ((tl s (p1 + 1)).length + 1) zerM (tl s (p1 + 1))).bnd fun m r => .ok (cutM m) r) := hG3.out.trans ((if_pos h42).trans (by rw [monG_bnd, tl_drop]))
     have hpc : ((p1 + 1 : Nat) : Int) = (p1 : Int) + 1 := by omega
     have z0 := Blk.cell hR4 0; have z1 := Blk.cell hR4 1; have z2 := Blk.cell hR4 2; have z3 := Blk.cell hR4 3; have z4 := Blk.cell hR4 4
     have hl := hR4.lt
     have f1 := Blk.frozen hR4 1
     have hR5' := Hd (hR4.set1 (p1 + 1))
     have hz5' := Hd (show Blk (w4.setCell ⟨g, 1, none⟩ (.int .i64 ((p1 + 1 : Nat) : Int))) g2 57 #[.bool false, .slice none 0 0, .slice none 0 0, .slice none 0 0] from bF (by have := hgg.out; omega) hz4)
     have hy5' := Hd (show Blk (w4.setCell ⟨g, 1, none⟩ (.int .i64 ((p1 + 1 : Nat) : Int))) T1 57 #[.bool x.neg, .slice x.a x.n x.c, .slice x.b x.m x.d, .slice none 0 0] from bF (by have := hgg.out; have := hTB.out; omega) hy4)
     have hf5' := Hd (hf4.setc (g := g) (i := 1) (u := .int .i64 ((p1 + 1 : Nat) : Int)) (.inl rfl))
     have hK5' := Hd (hK4.setc (g := g) (i := 1) (u := .int .i64 ((p1 + 1 : Nat) : Int)) (.inl hlw1))
     unfold RdA at hR5'
     rw [hpc] at hR5' hz5' hy5' hf5' hK5'
     replace hG4 := Hd hG4
     clear hR4 hz4 hy4 hf4 hK4 h42
     go_wp2_with fail
     refine calls_gen (fun W => Blk W g2 57 #[.bool false, .slice none 0 0, .slice none 0 0, .slice none 0 0] /\ Blk W T1 57 #[.bool x.neg, .slice x.a x.n x.c, .slice x.b x.m x.d, .slice none 0 0] /\ RdA W g s mb (p1 + 1) 0 0 /\ Fg g w W /\ Kp (fun V => QK 1000 V x q) w1.heap.size T1 W /\ T1 <= W.heap.size) ⟨hz5'.out, hy5'.out, by unfold RdA; rw [hpc]; exact hR5'.out, hf5'.out, hK5'.out, by simpa using hs4⟩ ?_
     clear hR5' hz5' hy5' hf5' hK5' z0 z1 z2 z3 z4 hl f1
     rintro w5 ⟨hz5, hy5, hR5, hf5, hK5, hs5⟩
     have CQ := product_any g mb (p1 + 1) nm0 a s names w5 hR5 (by omega) hs (HM.out w5 hf5) hne (HE.out w5 hf5) hge ha
     obtain ⟨PRG, hPRG⟩ : ∃ G, ((proG names (s.size - a) ((tl s (p1 + 1)).length + 1) zerM (tl s (p1 + 1))).bnd fun m r => (.ok (cutM m) r : Got (List Int))) = G := ⟨_, rfl⟩
     rw [hPRG] at CQ
     have hG5 := Hd (show GG = bndQ q PRG by rw [hG4.out, hPRG])
     clear hPRG hG4
     refine CQ.mono ?_
     rintro e w6 ⟨m, am, cm, rfl, hmm, hKm, hS6, hf6'⟩
     have hz6 : Blk w6 g2 57 #[.bool false, .slice none 0 0, .slice none 0 0, .slice none 0 0] := Blk.fr hz5 hf6' (by have := hgg.out; omega)
     have hy6 : Blk w6 T1 57 #[.bool x.neg, .slice x.a x.n x.c, .slice x.b x.m x.d, .slice none 0 0] := Blk.fr hy5 hf6' (by have := hgg.out; have := hTB.out; omega)
     have hf6 := hf5.trans hf6'
     have hK6 := hK5.fr hf6' (fun b hb => .inl (by subst hb; exact hlw1))
     have hlw5 := Hd (show T1 <= w6.heap.size /\ g < w5.heap.size /\ B0 <= w5.heap.size from ⟨Nat.le_trans hs5 hf6'.size, hR5.lt, Nat.le_trans hTB.out.2 hs5⟩)
     have hyT := Hd hy5.lt
     clear CQ hz5 hy5 hf5 hK5 hR5 hf6' hs5
     obtain ⟨nm, hnm⟩ : ∃ q : Nat, q = m.length := ⟨_, rfl⟩
     rw [<- hnm]
     replace hnm := Hd hnm
     obtain ⟨W7, hW7⟩ : ∃ W, w6.setCell ⟨T1, 3, none⟩ (.slice am nm cm) = W := ⟨_, rfl⟩
     have hSG : StG W7 g s mb GG := by
      have h1 : StG (w6.setCell ⟨T1, 3, none⟩ (.slice am nm cm)) g s mb PRG := hS6.set2 (by have := hgg.out; have := hTB.out; omega)
      rw [hW7] at h1
      rw [hG5.out]
      cases PRG with
      | ok v r => exact h1
      | bad k e => exact h1
     have hz2 : Blk W7 g2 57 #[.bool false, .slice none 0 0, .slice none 0 0, .slice none 0 0] := by rw [<- hW7]; exact bF (by have := hTB.out; omega) hz6
     have hf3 : Fg g w W7 := by rw [<- hW7]; exact hf6.setc (g := T1) (i := 3) (u := .slice am nm cm) (.inr (by have := hg2w.out; have := hTB.out; omega))
     have hyX := Hd (show Blk W7 T1 57 #[.bool x.neg, .slice x.a x.n x.c, .slice x.b x.m x.d, .slice am nm cm] by rw [<- hW7]; exact bS hy6 rfl)
     have hsz7 : W7.heap.size = w6.heap.size := by rw [<- hW7]; simp
     have fy3 := hy6.frozen 3
     have hyl := hy6.lt
     have v3 := hy6.cell 3
     have hKx1 : Kp (fun V => QK 1000 V x q) w1.heap.size T1 W7 := by rw [<- hW7]; exact hK6.setc (g := T1) (i := 3) (u := .slice am nm cm) (.inr (nlr _))
     have hKm1 : Kp (fun V => IntsR V am cm m) w5.heap.size w6.heap.size W7 := by rw [<- hW7]; exact hKm.setc (g := T1) (i := 3) (u := .slice am nm cm) (.inl (show T1 < w5.heap.size from hyT.out))
     have hKx2 := Hd (hKx1.wide (B' := B0) (T' := W7.heap.size) hs1 (by rw [hsz7]; exact hlw5.out.1))
     have hKm2 := Hd (hKm1.wide (B' := B0) (T' := W7.heap.size) hlw5.out.2.2 (by rw [hsz7]; exact nlr _))
     replace hmm := Hd hmm; replace hsz7 := Hd hsz7
     clear hS6 hz6 hy6 hf6 hK6 hKm hKx1 hKm1
     -- out of the box g4, in world W3
     have hy4 := hyX.out
     have y0 := hy4.cell 0; have y1 := hy4.cell 1; have y2 := hy4.cell 2; have y3 := hy4.cell 3
     have hgl4 := hy4.lt
     clear hy4
     -- in world W3 the term ⟨x, nm, am, cm⟩ lies in the box g4 (or is at hand); it is written into g2
     have hSE := Hd (((((hSG).set2 (g2 := g2) (i := 0) (u := .bool x.neg) (by have := hgg.out; omega)).set2 (g2 := g2) (i := 1) (u := .slice x.a x.n x.c) (by have := hgg.out; omega)).set2 (g2 := g2) (i := 2) (u := .slice x.b x.m x.d) (by have := hgg.out; omega)).set2 (g2 := g2) (i := 3) (u := .slice am nm cm) (by have := hgg.out; omega))
     have hfE := Hd ((((hf3.setc (g := g2) (i := 0) (u := .bool x.neg) (.inr hg2w.out)).setc (g := g2) (i := 1) (u := .slice x.a x.n x.c) (.inr hg2w.out)).setc (g := g2) (i := 2) (u := .slice x.b x.m x.d) (.inr hg2w.out)).setc (g := g2) (i := 3) (u := .slice am nm cm) (.inr hg2w.out))
     have hFz := Hd (blk4 (x := .bool x.neg) (y := .slice x.a x.n x.c) (z := .slice x.b x.m x.d) (k := .slice am nm cm) hz2)
     have hKE := Hd (fun (R : World -> Prop) (h : Kp R B0 W7.heap.size W7) => ((((h.setc (g := g2) (i := 0) (u := .bool x.neg) (.inl hg2B.out)).setc (g := g2) (i := 1) (u := .slice x.a x.n x.c) (.inl hg2B.out)).setc (g := g2) (i := 2) (u := .slice x.b x.m x.d) (.inl hg2B.out)).setc (g := g2) (i := 3) (u := .slice am nm cm) (.inl hg2B.out)).wide (B' := w.heap.size) (T' := ((((W7.setCell ⟨g2, 0, none⟩ (.bool x.neg)).setCell ⟨g2, 1, none⟩ (.slice x.a x.n x.c)).setCell ⟨g2, 2, none⟩ (.slice x.b x.m x.d)).setCell ⟨g2, 3, none⟩ (.slice am nm cm)).heap.size) (Nat.le_trans hg2w.out (Nat.le_of_lt hg2B.out)) (by simp))
     have d0 := hz2.cell 0; have d1 := hz2.cell 1; have d2 := hz2.cell 2; have d3 := hz2.cell 3; have f0 := hz2.frozen 0; have f1 := hz2.frozen 1; have f2 := hz2.frozen 2; have f3 := hz2.frozen 3
     have hgl2 := hz2.lt
     clear hSG hf3 hz2
     go_wp2
     have hFF := hFz.out
     have e0 := hFF.cell 0; have e1 := hFF.cell 1; have e2 := hFF.cell 2; have e3 := hFF.cell 3
     refine bodyPost_ret (v := .agg #[.bool x.neg, .slice x.a x.n x.c, .slice x.b x.m x.d, .slice am nm cm]) (by simp [results, Tryz.results71, go_sem, e0, e1, e2, e3]) rfl ?_
     refine ⟨⟨x, nm, am, cm⟩, rfl, ?_, ?_, hSE.out, hfE.out⟩
     ·
      intro u r' e
      have e2 := hG5.out.symm.trans e
      cases PRG with
      | bad k er => cases e2
      | ok m' r2 =>
       injection e2 with e3 e4
       subst e3
       obtain rfl := hmm.out m' r2 rfl
       exact hKE.out _ ((Kp.both hKx2.out hKm2.out).imp fun V h => ⟨⟨h.1.1, h.2, hnm.out⟩, h.1.2⟩)
     ·
      intro k er e
      exact .inr ⟨q, hKE.out _ hKx2.out⟩
 ·
  have hG1 := Hd (show GG = bndQ 1 ((proG names (s.size - a) ((tl s a).length + 1) zerM (tl s a)).bnd fun m r => .ok (cutM m) r) from by
   rw [<- hGG]; unfold terG; rw [if_pos (by rw [tl_end (by omega)]; rfl), monG_bnd, tl_len])
  clear hGG
  refine wp_region_mix (S := (fun x => x = w0.drew)) [(0, .q), (1, .q), (2, .q), (3, .q), (4, .q), (5, .q), (6, .q), (7, .q), (8, .q), (9, .q), (10, .q), (11, .q), (12, .q), (13, .q), (14, .q), (15, .q), (16, .q), (17, .q), (18, .q), (19, .q), (20, .t), (21, .p)] (by kernel_rfl) (by kernel_rfl) (by kernel_rfl) (fun d _ _ _ _ h => by cases d <;> exact h) (rfl) ?_
  iterate 11 (refine wpMix_q rfl rfl (fun K hK => ?_); apply Exists.intro; refine ⟨fun w' hw' => ?_, ?_⟩; (focus (go_simp; try rfl)); go_simp; refine hK _ _ ?_; clear hK K)
  iterate 10 (refine wpMix_skip rfl rfl (fun K hK => ?_); go_simp; refine hK _ _ ?_; clear hK K)
  iterate 1 (refine wpMix_p rfl rfl (fun K hK => ?_); apply Exists.intro; refine ⟨fun w' => ?_, ?_⟩; (focus (go_simp; try rfl)); go_simp; refine hK _ _ ?_; clear hK K)
  refine wpMix_nil ?_
  go_wp2_with fail
  refine calls_gen (fun W => Blk W g2 57 #[.bool false, .slice none 0 0, .slice none 0 0, .slice none 0 0] /\ RdA W g s mb a 0 0 /\ Fg g w W /\ B0 <= W.heap.size) ⟨hz1.out, h1.out, hf1.out, hs1.out⟩ ?_
  clear hz1 h1 hf1 hs1 z0 z1 z2 z3 z4 hl
  rintro w1 ⟨hz1, h1, hf1, hs1⟩
  refine (unit_q w1).mono ?_
  rintro e w2 ⟨x, rfl, hK1, hb2⟩
  have hzp := hz1.below' hb2
  have hp := h1.below hb2
  have hfp := hf1.call hb2
  have hlw := Hd (show g < w1.heap.size /\ B0 <= w2.heap.size from ⟨h1.lt, Nat.le_trans hs1 hb2.size⟩)
  have CQ := product_any g mb a nm0 a s names w2 hp ha hs (HM.out w2 hfp) hne (HE.out w2 hfp) hge ha
  obtain ⟨PRG, hPRG⟩ : ∃ G, ((proG names (s.size - a) ((tl s a).length + 1) zerM (tl s a)).bnd fun m r => (.ok (cutM m) r : Got (List Int))) = G := ⟨_, rfl⟩
  rw [hPRG] at CQ
  have hG2 := Hd (show GG = bndQ 1 PRG by rw [hG1.out, hPRG])
  replace CQ := Hd CQ
  clear hPRG hG1 hz1 h1 hf1 hb2
  go_wp2_with fail
  refine CQ.out.mono ?_
  rintro e w3 ⟨m, am, cm, rfl, hmm, hKm, hS3, hf3'⟩
  have hz2 : Blk w3 g2 57 #[.bool false, .slice none 0 0, .slice none 0 0, .slice none 0 0] := Blk.fr hzp hf3' (by have := hgg.out; omega)
  have hf3 := hfp.trans hf3'
  have hKx2 := Hd ((hK1.fr hf3' (fun b hb => .inl (by subst hb; exact hlw.out.1))).wide (B' := B0) (T' := w3.heap.size) hs1 hf3'.size)
  have hKm2 := Hd (hKm.wide (B' := B0) (T' := w3.heap.size) hlw.out.2 (nlr _))
  obtain ⟨nm, hnm⟩ : ∃ q : Nat, q = m.length := ⟨_, rfl⟩
  rw [<- hnm]
  replace hnm := Hd hnm
  have hSG : StG w3 g s mb GG := by
   rw [hG2.out]
   cases PRG with
   | ok v r => exact hS3
   | bad k e => exact hS3
  replace hmm := Hd hmm
  clear CQ hzp hp hfp hK1 hKm hS3 hf3'
  -- in world W3 the term ⟨x, nm, am, cm⟩ lies in the box g4 (or is at hand); it is written into g2
  have hSE := Hd (((((hSG).set2 (g2 := g2) (i := 0) (u := .bool x.neg) (by have := hgg.out; omega)).set2 (g2 := g2) (i := 1) (u := .slice x.a x.n x.c) (by have := hgg.out; omega)).set2 (g2 := g2) (i := 2) (u := .slice x.b x.m x.d) (by have := hgg.out; omega)).set2 (g2 := g2) (i := 3) (u := .slice am nm cm) (by have := hgg.out; omega))
  have hfE := Hd ((((hf3.setc (g := g2) (i := 0) (u := .bool x.neg) (.inr hg2w.out)).setc (g := g2) (i := 1) (u := .slice x.a x.n x.c) (.inr hg2w.out)).setc (g := g2) (i := 2) (u := .slice x.b x.m x.d) (.inr hg2w.out)).setc (g := g2) (i := 3) (u := .slice am nm cm) (.inr hg2w.out))
  have hFz := Hd (blk4 (x := .bool x.neg) (y := .slice x.a x.n x.c) (z := .slice x.b x.m x.d) (k := .slice am nm cm) hz2)
  have hKE := Hd (fun (R : World -> Prop) (h : Kp R B0 w3.heap.size w3) => ((((h.setc (g := g2) (i := 0) (u := .bool x.neg) (.inl hg2B.out)).setc (g := g2) (i := 1) (u := .slice x.a x.n x.c) (.inl hg2B.out)).setc (g := g2) (i := 2) (u := .slice x.b x.m x.d) (.inl hg2B.out)).setc (g := g2) (i := 3) (u := .slice am nm cm) (.inl hg2B.out)).wide (B' := w.heap.size) (T' := ((((w3.setCell ⟨g2, 0, none⟩ (.bool x.neg)).setCell ⟨g2, 1, none⟩ (.slice x.a x.n x.c)).setCell ⟨g2, 2, none⟩ (.slice x.b x.m x.d)).setCell ⟨g2, 3, none⟩ (.slice am nm cm)).heap.size) (Nat.le_trans hg2w.out (Nat.le_of_lt hg2B.out)) (by simp))
  have d0 := hz2.cell 0; have d1 := hz2.cell 1; have d2 := hz2.cell 2; have d3 := hz2.cell 3; have f0 := hz2.frozen 0; have f1 := hz2.frozen 1; have f2 := hz2.frozen 2; have f3 := hz2.frozen 3
  have hgl2 := hz2.lt
  clear hSG hf3 hz2
  go_wp2
  have hFF := hFz.out
  have e0 := hFF.cell 0; have e1 := hFF.cell 1; have e2 := hFF.cell 2; have e3 := hFF.cell 3
  refine bodyPost_ret (v := .agg #[.bool x.neg, .slice x.a x.n x.c, .slice x.b x.m x.d, .slice am nm cm]) (by simp [results, Tryz.results71, go_sem, e0, e1, e2, e3]) rfl ?_
  refine ⟨⟨x, nm, am, cm⟩, rfl, ?_, ?_, hSE.out, hfE.out⟩
  ·
   intro u r' e
   have e2 := hG2.out.symm.trans e
   cases PRG with
   | bad k er => cases e2
   | ok m' r2 =>
    injection e2 with e3 e4
    subst e3
    obtain rfl := hmm.out m' r2 rfl
    exact hKE.out _ ((Kp.both hKx2.out hKm2.out).imp fun V h => ⟨⟨h.1.1, h.2, hnm.out⟩, Nat.le_trans h.1.2 (by omega)⟩)
  ·
   intro k er e
   exact .inr ⟨1, hKE.out _ (hKx2.out.imp fun V h => h.more (by omega))⟩
end Go.Proofs.YtkjnkpkagcboeaaGreatDoor
