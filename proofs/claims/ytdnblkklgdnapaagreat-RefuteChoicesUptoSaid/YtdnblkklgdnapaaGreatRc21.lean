/- Walks: the closures of a step (the program's coordinates). -/
import Derived.Test.YtdnblkklgdnapaaGreatRc20
import Derived.Test.YtdnblkklgdnapaaGreatRc16
import Derived.Test.YtdnblkklgdnapaaGreatRc14
import Derived.Test.YtdnblkklgdnapaaGreatRc10
set_option linter.all false
set_option maxRecDepth 100000
set_option maxHeartbeats 4000000
namespace Go.Proofs.YtdnblkklgdnapaaGreat
open Go.RowKit
def Cs (L : List (Addr × Value)) (W : World) : Prop := ∀ p v, (p, v) ∈ L -> W.cell? p = some v
theorem Cs.setc {L : List (Addr × Value)} {W : World} (h : Cs L W) {g i : Nat} {u : Value} (hn : ∀ p v, (p, v) ∈ L -> p.block ≠ g) : Cs L (W.setCell ⟨g, i, none⟩ u) := fun p v hm =>
 (World.cell?_setCell_other W ⟨g, i, none⟩ p u (fun e => by subst e; exact hn _ v hm rfl)).trans (h p v hm)
theorem Cs.below {L : List (Addr × Value)} {W V : World} (h : Cs L W) (hb : Below W.heap.size W V) : Cs L V := fun p v hm => xbw hb p v (h p v hm)
def RetStR (Z : Nat -> Prop) (B : Nat) (x : Frm) (y : List Vr × Vec) (hs : List (VQ × Vec)) (ra : Option Addr) (rc : Nat) (va : Option Addr) (w : World) (e : Ending) (w' : World) : Prop :=
 ∃ va' vc' t, e = .returned (.tuple #[.agg #[.slice ra hs.length rc, .slice va' y.1.length vc'], .agg #[.slice t.a y.2.1.length t.c, .slice t.b y.2.2.length t.d]]) /\
  Rst Z w' B ⟨y.1, x.coords, x.free⟩ hs ra rc va' vc' /\ VecX (Yr Z ra va') w' t y.2 /\ Fr (Yv ra va) w w' /\ (∀ g, va' = some g -> va = some g \/ w.heap.size <= g.block)
theorem yr_move {Z : Nat -> Prop} {w : World} {ra va va' : Option Addr} (h : ∀ g, va' = some g -> va = some g \/ w.heap.size <= g.block) : ∀ b, Yr Z ra va' b -> Yr Z ra va b \/ w.heap.size <= b := fun b hb => by
 rcases hb with (hb | ⟨g, hg, rfl⟩) | hb
 · exact .inl (.inl (.inl hb))
 ·
  rcases h g hg with e | e
  · exact .inl (.inl (.inr ⟨g, e, rfl⟩))
  · exact .inr e
 · exact .inl (.inr hb)
theorem free0R_any (Z : Nat -> Prop) (B : Nat) (x : Frm) (hs : List (VQ × Vec)) (ra va : Option Addr) (rc vc : Nat) (step : Int) (w : World) (hR : Rst Z w B x hs ra rc va vc) :
  Calls Tryz.prog 121 #[.agg #[.slice ra hs.length rc, .slice va x.vars.length vc], .int .i64 step, .int .i64 0] w (RetStR Z B x (x.vars, ([], [])) hs ra rc va w) := by
 have HR := Hd hR
 have hn0 : ∀ g, w.heap.size <= g -> ¬ Yv ra va g := fun g hg h => by have := hR.lt _ h; omega
 replace hn0 := Hd hn0
 clear hR
 go_enter Tryz.func121, Tryz.ntmps121
 go_wp2
 refine world_gen (fun W => Blk W w.heap.size 58 #[.slice ra hs.length rc, .slice va x.vars.length vc] /\ Blk W (w.heap.size + 1) 58 #[.slice none 0 0, .slice none 0 0] /\ Blk W (w.heap.size + 1 + 1) 81 #[.slice none 0 0, .slice none 0 0] /\ Blk W (w.heap.size + 1 + 1 + 1) 81 #[.slice none 0 0, .slice none 0 0] /\ Below w.heap.size w W) (by refine ⟨?_,?_,?_,?_,?_⟩<;>first|((with_reducible repeat first|assumption|(apply bF;focus omega)|apply bS|(apply bN;focus (simp;done))|apply bA|apply bD);all_goals rfl)|go_grown) ?_
 rintro w5 ⟨h0, h1, h2, h3, hw5⟩
 obtain ⟨g1, hg1⟩ : ∃ g, g = w.heap.size + 1 := ⟨_, rfl⟩
 obtain ⟨g2, hg2⟩ : ∃ g, g = w.heap.size + 1 + 1 := ⟨_, rfl⟩
 obtain ⟨g3, hg3⟩ : ∃ g, g = w.heap.size + 1 + 1 + 1 := ⟨_, rfl⟩
 rw [<- hg3] at h3 ⊢
 rw [<- hg2] at h2 ⊢
 rw [<- hg1] at h1 ⊢
 obtain ⟨va5, hva5⟩ : ∃ v, v = va := ⟨_, rfl⟩
 obtain ⟨vc5, hvc5⟩ : ∃ v, v = vc := ⟨_, rfl⟩
 have hR5 : Rst (Zk Z w.heap.size 4) w5 B x hs ra rc va5 vc5 := by rw [hva5, hvc5]; exact (HR.out.more (zk_new (nlr _))).call hw5
 have hV5 : VecX (Yr (Zk Z w.heap.size 4) ra va5) w5 ⟨none, 0, none, 0⟩ ([], []) := ⟨PolX.nil, PolX.nil⟩
 have hf5 : Fr (Yv ra va) w w5 := Fr.below hw5
 have hvv : ∀ g, va5 = some g -> va = some g \/ w.heap.size <= g.block := fun g h => .inl (by rw [<- hva5]; exact h)
 have hn5 : ∀ g, w.heap.size <= g -> g < w.heap.size + 4 -> ¬ Yv ra va5 g := fun g hg _ => by rw [hva5]; exact hn0.out g hg
 rw [<- hva5, <- hvc5] at h0
 replace hR5 := Hd hR5; replace hV5 := Hd hV5; replace hf5 := Hd hf5; replace hvv := Hd hvv; replace hn5 := Hd hn5; replace hva5 := Hd hva5; replace hvc5 := Hd hvc5
 have b00 := h0.cell 0; have b01 := h0.cell 1; have b30 := h3.cell 0; have b31 := h3.cell 1
 obtain ⟨L, hL⟩ : ∃ L : List (Addr × Value), L = [(⟨w.heap.size, 0, none⟩, .slice ra hs.length rc), (⟨w.heap.size, 1, none⟩, .slice va5 x.vars.length vc5), (⟨g3, 0, none⟩, .slice none 0 0), (⟨g3, 1, none⟩, .slice none 0 0)] := ⟨_, rfl⟩
 have y0 : ∀ W, Cs L W -> W.cell? ⟨w.heap.size, 0, none⟩ = some (.slice ra hs.length rc) := fun W h => h _ _ (by rw [hL]; simp)
 have y1 : ∀ W, Cs L W -> W.cell? ⟨w.heap.size, 1, none⟩ = some (.slice va5 x.vars.length vc5) := fun W h => h _ _ (by rw [hL]; simp)
 have y2 : ∀ W, Cs L W -> W.cell? ⟨g3, 0, none⟩ = some (.slice none 0 0) := fun W h => h _ _ (by rw [hL]; simp)
 have y3 : ∀ W, Cs L W -> W.cell? ⟨g3, 1, none⟩ = some (.slice none 0 0) := fun W h => h _ _ (by rw [hL]; simp)
 have hne : ∀ p v, (p, v) ∈ L -> p.block ≠ g1 := by
  rw [hL]
  intro p v hm
  simp only [List.mem_cons, List.not_mem_nil, or_false, Prod.mk.injEq] at hm
  rcases hm with ⟨rfl, _⟩ | ⟨rfl, _⟩ | ⟨rfl, _⟩ | ⟨rfl, _⟩ <;> (dsimp only; omega)
 have s0 : Cs L w5.drew := by
  rw [hL]
  intro p v hm
  simp only [List.mem_cons, List.not_mem_nil, or_false, Prod.mk.injEq] at hm
  rcases hm with ⟨rfl, rfl⟩ | ⟨rfl, rfl⟩ | ⟨rfl, rfl⟩ | ⟨rfl, rfl⟩
  · exact b00
  · exact b01
  · exact b30
  · exact b31
 have k10 := h1.cell 0; have k11 := h1.cell 1; have f10 := h1.frozen 0; have f11 := h1.frozen 1; have l1 := h1.lt
 have k20 := h2.cell 0; have k21 := h2.cell 1; have f20 := h2.frozen 0; have f21 := h2.frozen 1; have l2 := h2.lt
 have q1 : w.heap.size <= g1 := by omega
 have q2 : w.heap.size <= g2 := by omega
 have hZ1 : Zk Z w.heap.size 4 g1 := .inr (by omega)
 have hZ2 : Zk Z w.heap.size 4 g2 := .inr (by omega)
 have n1 : ¬ Yv ra va5 g1 := hn5.out g1 q1 (by omega)
 have n2 : ¬ Yv ra va5 g2 := hn5.out g2 q2 (by omega)
 have d12 : g1 ≠ g2 := by omega
 have hLh := Hd hL; have hneh := Hd hne
 replace hg1 := Hd hg1; replace hg2 := Hd hg2; replace hg3 := Hd hg3
 have h1h := Hd h1; have h2h := Hd h2; replace hZ1 := Hd hZ1; replace hZ2 := Hd hZ2; replace n1 := Hd n1; replace n2 := Hd n2
 clear h0 h1 h2 h3 b00 b01 b30 b31 hL hne
 refine wp_region_mix (S := Cs L) [(0, .q), (1, .q), (2, .l), (3, .t)] (by kernel_rfl) (by kernel_rfl) (by kernel_rfl) (fun d _ _ _ _ h => by cases d <;> exact h) (s0) ?_
 iterate 2 (refine wpMix_q rfl rfl (fun K hK => ?_); apply Exists.intro; refine ⟨fun w' hw' => ?_, ?_⟩; (focus (go_simp; try rfl)); go_simp; refine hK _ _ ?_; clear hK K)
 refine wpMix_l rfl rfl (fun K hK => ?_)
 go_simp
 refine hK.out _ _ ((s0.setc hneh.out).setc hneh.out) (fun _ => ?_)
 clear hK K
 refine wpMix_t rfl rfl (fun K hK => ?_)
 go_simp
 refine hK.out _ _ ?_
 clear hK K
 refine wpMix_nil ?_
 clear k10 k11 f10 f11 l1 k20 k21 f20 f21 l2 s0 y0 y1 y2 y3
 go_wp2
 refine world_gen (fun W => Blk W g1 58 #[.slice ra hs.length rc, .slice va5 x.vars.length vc5] /\ Blk W g2 81 #[.slice none 0 0, .slice none 0 0] /\ Rst Z W B ⟨x.vars, x.coords, x.free⟩ hs ra rc va5 vc5 /\ VecX (Yr Z ra va5) W ⟨none, 0, none, 0⟩ ([], []) /\ Fr (Yv ra va) w W) ⟨?_, ?_, ?_, ?_, ?_⟩ ?_
 ·
  have a := h1h.out
  ((with_reducible repeat first|assumption|(apply bF;focus omega)|apply bS|(apply bN;focus (simp;done))|apply bA|apply bD);all_goals rfl)
 ·
  have a := h2h.out
  ((with_reducible repeat first|assumption|(apply bF;focus omega)|apply bS|(apply bN;focus (simp;done))|apply bA|apply bD);all_goals rfl)
 · exact (((((hR5.out.set_ hZ1.out n1.out).set_ hZ1.out n1.out).set_ hZ2.out n2.out).set_ hZ2.out n2.out).less fun b hb => .inl hb).call (brf.drew)
 ·
  refine VecX.less (Y := Yr (Zk Z w.heap.size 4) ra va5) ?_ fun b hb => hb.imp id .inl
  exact (((hV5.out.step (Agr.setc (.inr hZ1.out) (Agr.refl _ _))).step (Agr.setc (.inr hZ1.out) (Agr.refl _ _))).step (Agr.setc (.inr hZ2.out) (Agr.refl _ _))).step (Agr.setc (.inr hZ2.out) (Agr.refl _ _))
 · exact ((((hf5.out.setc (.inr q1)).setc (.inr q1)).setc (.inr q2)).setc (.inr q2)).call (brf.drew)
 rintro w6 ⟨hF1, hF2, hR6, hV6, hf6⟩
 have e0 := hF1.cell 0; have e1 := hF1.cell 1; have e2 := hF2.cell 0; have e3 := hF2.cell 1
 refine bodyPost_ret (v := .tuple #[.agg #[.slice ra hs.length rc, .slice va5 x.vars.length vc5], .agg #[.slice none 0 0, .slice none 0 0]]) (by simp [results, Tryz.results121, go_sem, e0, e1, e2, e3]) rfl ?_
 exact ⟨va5, vc5, ⟨none, 0, none, 0⟩, by simp, hR6, hV6, hf6, hvv.out⟩
theorem free1R_any (Z : Nat -> Prop) (B : Nat) (x : Frm) (hs : List (VQ × Vec)) (ra va : Option Addr) (rc vc : Nat) (step : Int) (w : World) (hR : Rst Z w B x hs ra rc va vc) (hl : x.vars.length <= 900) (hZ : ∀ b, Z b -> b < w.heap.size) (hBw : B <= w.heap.size) :
  Calls Tryz.prog 121 #[.agg #[.slice ra hs.length rc, .slice va x.vars.length vc], .int .i64 step, .int .i64 1] w (RetStR Z B x (x.vars ++ [(1, step, 0)], (varP x.vars.length, [])) hs ra rc va w) := by
 have HR := Hd hR
 have HZ := Hd hZ
 have hn0 : ∀ g, w.heap.size <= g -> ¬ Yv ra va g := fun g hg h => by have := hR.lt _ h; omega
 replace hn0 := Hd hn0
 clear hR hZ
 go_enter Tryz.func121, Tryz.ntmps121
 go_wp2_with fail
 refine calls_gen (fun W => Blk W w.heap.size 58 #[.slice ra hs.length rc, .slice va x.vars.length vc] /\ Blk W (w.heap.size + 1) 58 #[.slice none 0 0, .slice none 0 0] /\ Blk W (w.heap.size + 1 + 1) 81 #[.slice none 0 0, .slice none 0 0] /\ Blk W (w.heap.size + 1 + 1 + 1) 81 #[.slice none 0 0, .slice none 0 0] /\ Below w.heap.size w W) (by refine ⟨?_,?_,?_,?_,?_⟩<;>first|((with_reducible repeat first|assumption|(apply bF;focus omega)|apply bS|(apply bN;focus (simp;done))|apply bA|apply bD);all_goals rfl)|go_grown) ?_
 rintro w4 ⟨h0, h1, h2, h3, hw4⟩
 have hl4 := h3.lt
 have hR4 : Rst (Zk Z w.heap.size 4) w4 B x hs ra rc va vc := (HR.out.more (zk_new (nlr _))).call hw4
 have hZ4 : ∀ b, Zk Z w.heap.size 4 b -> b < w4.heap.size := zk_lt HZ.out hw4.size (by omega)
 refine (paramR_any (Zk Z w.heap.size 4) B x hs ra va rc vc 1 step 0 w4 hR4 (by omega) hZ4 (by have := hw4.size; omega)).mono ?_
 rintro e w5 ⟨va1, vc1, a1, c1, rfl, hR5, hP5, hf4, hv4⟩
 replace h0 := h0.fr hf4 (hn0.out _ (by omega)); replace h1 := h1.fr hf4 (hn0.out _ (by omega)); replace h2 := h2.fr hf4 (hn0.out _ (by omega)); replace h3 := h3.fr hf4 (hn0.out _ (by omega))
 have hf5 : Fr (Yv ra va) w w5 := (Fr.below hw4).trans hf4
 have hn5 : ∀ g, w.heap.size <= g -> g < w.heap.size + 4 -> ¬ Yv ra va1 g := fun g hg1 hg2 => yv_not (hn0.out g hg1) hv4 (by omega)
 have hvv : ∀ g, va1 = some g -> va = some g \/ w.heap.size <= g.block := fun g hg => by
  have := hw4.size
  rcases hv4 g hg with e | e
  · exact .inl e
  · exact .inr (by omega)
 have hZ5 : ∀ b, Zk Z w.heap.size 4 b -> b < w5.heap.size := fun b hb => ltl (hZ4 b hb) hf4.size
 have k00 := h0.cell 0; have k01 := h0.cell 1; have f00 := h0.frozen 0; have f01 := h0.frozen 1; have l0 := h0.lt
 have k30 := h3.cell 0; have k31 := h3.cell 1; have f30 := h3.frozen 0; have f31 := h3.frozen 1; have l3 := h3.lt
 have h0h := Hd h0; have h1h := Hd h1; have h2h := Hd h2; have h3h := Hd h3
 have hZ0 : Zk Z w.heap.size 4 w.heap.size := .inr (by omega)
 have hZ3 : Zk Z w.heap.size 4 (w.heap.size + 1 + 1 + 1) := .inr (by omega)
 have n0 := hn5 w.heap.size (by omega) (by omega); have n3 := hn5 (w.heap.size + 1 + 1 + 1) (by omega) (by omega)
 replace hR5 := Hd hR5; replace hP5 := Hd hP5; replace hf5 := Hd hf5; replace hvv := Hd hvv; replace hn5 := Hd hn5; replace hZ5 := Hd hZ5; replace hZ0 := Hd hZ0; replace hZ3 := Hd hZ3; replace n0 := Hd n0; replace n3 := Hd n3
 clear h0 h1 h2 h3 hw4 hl4 hR4 hZ4 hf4 hv4
 go_wp2
 refine world_gen (fun W => Blk W w.heap.size 58 #[.slice ra hs.length rc, .slice va1 (x.vars.length + 1) vc1] /\ Blk W (w.heap.size + 1) 58 #[.slice none 0 0, .slice none 0 0] /\ Blk W (w.heap.size + 1 + 1) 81 #[.slice none 0 0, .slice none 0 0] /\ Blk W (w.heap.size + 1 + 1 + 1) 81 #[.slice a1 (varP x.vars.length).length c1, .slice none 0 0] /\ Rst (Zk Z w.heap.size 4) W B ⟨x.vars ++ [(1, step, 0)], x.coords, x.free⟩ hs ra rc va1 vc1 /\ PolX (Yr (Zk Z w.heap.size 4) ra va1) W a1 c1 (varP x.vars.length) /\ Fr (Yv ra va) w W /\ (∀ b, Zk Z w.heap.size 4 b -> b < W.heap.size)) ⟨by have a := h0h.out; ((with_reducible repeat first|assumption|(apply bF;focus omega)|apply bS|(apply bN;focus (simp;done))|apply bA|apply bD);all_goals rfl), by have a := h1h.out; ((with_reducible repeat first|assumption|(apply bF;focus omega)|apply bS|(apply bN;focus (simp;done))|apply bA|apply bD);all_goals rfl), by have a := h2h.out; ((with_reducible repeat first|assumption|(apply bF;focus omega)|apply bS|(apply bN;focus (simp;done))|apply bA|apply bD);all_goals rfl), by have a := h3h.out; ((with_reducible repeat first|assumption|(apply bF;focus omega)|apply bS|(apply bN;focus (simp;done))|apply bA|apply bD);all_goals rfl), ?_, ?_, ?_, ?_⟩ ?_
 · exact ((hR5.out.set_ hZ0.out n0.out).set_ hZ0.out n0.out).set_ hZ3.out n3.out
 · exact ((hP5.out.step (Agr.setc (.inr hZ0.out) (Agr.refl _ _))).step (Agr.setc (.inr hZ0.out) (Agr.refl _ _))).step (Agr.setc (.inr hZ3.out) (Agr.refl _ _))
 · exact ((hf5.out.setc (.inr (by omega))).setc (.inr (by omega))).setc (.inr (by omega))
 ·
  intro b hb
  simp only [World.size_setCell]
  exact hZ5.out b hb
 clear k00 k01 f00 f01 l0 k30 k31 f30 f31 l3 h0h h1h h2h h3h hR5 hP5 hf5
 rintro w5 ⟨h0, h1, h2, h3, hR5, hP5, hf5, _⟩
 have hl5 := h3.lt
 obtain ⟨g1, hg1⟩ : ∃ g, g = w.heap.size + 1 := ⟨_, rfl⟩
 obtain ⟨g2, hg2⟩ : ∃ g, g = w.heap.size + 1 + 1 := ⟨_, rfl⟩
 obtain ⟨g3, hg3⟩ : ∃ g, g = w.heap.size + 1 + 1 + 1 := ⟨_, rfl⟩
 rw [<- hg3] at h3 ⊢
 rw [<- hg2] at h2 ⊢
 rw [<- hg1] at h1 ⊢
 obtain ⟨va5, hva5⟩ : ∃ v, v = va1 := ⟨_, rfl⟩
 obtain ⟨vc5, hvc5⟩ : ∃ v, v = vc1 := ⟨_, rfl⟩
 rw [<- hva5] at h0 hR5 hP5 hvv hn5
 rw [<- hvc5] at h0 hR5
 have hV5 : VecX (Yr (Zk Z w.heap.size 4) ra va5) w5 ⟨a1, c1, none, 0⟩ (varP x.vars.length, []) := ⟨hP5, PolX.nil⟩
 replace hR5 := Hd hR5; replace hV5 := Hd hV5; replace hf5 := Hd hf5; replace hva5 := Hd hva5; replace hvc5 := Hd hvc5
 clear hZ0 hZ3 n0 n3 hP5 hZ5
 have b00 := h0.cell 0; have b01 := h0.cell 1; have b30 := h3.cell 0; have b31 := h3.cell 1
 obtain ⟨L, hL⟩ : ∃ L : List (Addr × Value), L = [(⟨w.heap.size, 0, none⟩, .slice ra hs.length rc), (⟨w.heap.size, 1, none⟩, .slice va5 (x.vars.length + 1) vc5), (⟨g3, 0, none⟩, .slice a1 (varP x.vars.length).length c1), (⟨g3, 1, none⟩, .slice none 0 0)] := ⟨_, rfl⟩
 have y0 : ∀ W, Cs L W -> W.cell? ⟨w.heap.size, 0, none⟩ = some (.slice ra hs.length rc) := fun W h => h _ _ (by rw [hL]; simp)
 have y1 : ∀ W, Cs L W -> W.cell? ⟨w.heap.size, 1, none⟩ = some (.slice va5 (x.vars.length + 1) vc5) := fun W h => h _ _ (by rw [hL]; simp)
 have y2 : ∀ W, Cs L W -> W.cell? ⟨g3, 0, none⟩ = some (.slice a1 (varP x.vars.length).length c1) := fun W h => h _ _ (by rw [hL]; simp)
 have y3 : ∀ W, Cs L W -> W.cell? ⟨g3, 1, none⟩ = some (.slice none 0 0) := fun W h => h _ _ (by rw [hL]; simp)
 have hne : ∀ p v, (p, v) ∈ L -> p.block ≠ g1 := by
  rw [hL]
  intro p v hm
  simp only [List.mem_cons, List.not_mem_nil, or_false, Prod.mk.injEq] at hm
  rcases hm with ⟨rfl, _⟩ | ⟨rfl, _⟩ | ⟨rfl, _⟩ | ⟨rfl, _⟩ <;> (dsimp only; omega)
 have s0 : Cs L w5.drew := by
  rw [hL]
  intro p v hm
  simp only [List.mem_cons, List.not_mem_nil, or_false, Prod.mk.injEq] at hm
  rcases hm with ⟨rfl, rfl⟩ | ⟨rfl, rfl⟩ | ⟨rfl, rfl⟩ | ⟨rfl, rfl⟩
  · exact b00
  · exact b01
  · exact b30
  · exact b31
 have k10 := h1.cell 0; have k11 := h1.cell 1; have f10 := h1.frozen 0; have f11 := h1.frozen 1; have l1 := h1.lt
 have k20 := h2.cell 0; have k21 := h2.cell 1; have f20 := h2.frozen 0; have f21 := h2.frozen 1; have l2 := h2.lt
 have q1 : w.heap.size <= g1 := by omega
 have q2 : w.heap.size <= g2 := by omega
 have hZ1 : Zk Z w.heap.size 4 g1 := .inr (by omega)
 have hZ2 : Zk Z w.heap.size 4 g2 := .inr (by omega)
 have n1 : ¬ Yv ra va5 g1 := hn5.out g1 q1 (by omega)
 have n2 : ¬ Yv ra va5 g2 := hn5.out g2 q2 (by omega)
 have d12 : g1 ≠ g2 := by omega
 have hLh := Hd hL; have hneh := Hd hne
 replace hg1 := Hd hg1; replace hg2 := Hd hg2; replace hg3 := Hd hg3
 have h1h := Hd h1; have h2h := Hd h2; replace hZ1 := Hd hZ1; replace hZ2 := Hd hZ2; replace n1 := Hd n1; replace n2 := Hd n2
 clear h0 h1 h2 h3 b00 b01 b30 b31 hL hne
 refine wp_region_mix (S := Cs L) [(0, .q), (1, .q), (2, .l), (3, .t)] (by kernel_rfl) (by kernel_rfl) (by kernel_rfl) (fun d _ _ _ _ h => by cases d <;> exact h) (s0) ?_
 iterate 2 (refine wpMix_q rfl rfl (fun K hK => ?_); apply Exists.intro; refine ⟨fun w' hw' => ?_, ?_⟩; (focus (go_simp; try rfl)); go_simp; refine hK _ _ ?_; clear hK K)
 refine wpMix_l rfl rfl (fun K hK => ?_)
 go_simp
 refine hK.out _ _ ((s0.setc hneh.out).setc hneh.out) (fun _ => ?_)
 clear hK K
 refine wpMix_t rfl rfl (fun K hK => ?_)
 go_simp
 refine hK.out _ _ ?_
 clear hK K
 refine wpMix_nil ?_
 clear k10 k11 f10 f11 l1 k20 k21 f20 f21 l2 s0 y0 y1 y2 y3
 go_wp2
 refine world_gen (fun W => Blk W g1 58 #[.slice ra hs.length rc, .slice va5 (x.vars.length + 1) vc5] /\ Blk W g2 81 #[.slice a1 (varP x.vars.length).length c1, .slice none 0 0] /\ Rst Z W B ⟨x.vars ++ [(1, step, 0)], x.coords, x.free⟩ hs ra rc va5 vc5 /\ VecX (Yr Z ra va5) W ⟨a1, c1, none, 0⟩ (varP x.vars.length, []) /\ Fr (Yv ra va) w W) ⟨?_, ?_, ?_, ?_, ?_⟩ ?_
 ·
  have a := h1h.out
  ((with_reducible repeat first|assumption|(apply bF;focus omega)|apply bS|(apply bN;focus (simp;done))|apply bA|apply bD);all_goals rfl)
 ·
  have a := h2h.out
  ((with_reducible repeat first|assumption|(apply bF;focus omega)|apply bS|(apply bN;focus (simp;done))|apply bA|apply bD);all_goals rfl)
 · exact (((((hR5.out.set_ hZ1.out n1.out).set_ hZ1.out n1.out).set_ hZ2.out n2.out).set_ hZ2.out n2.out).less fun b hb => .inl hb).call (brf.drew)
 ·
  refine VecX.less (Y := Yr (Zk Z w.heap.size 4) ra va5) ?_ fun b hb => hb.imp id .inl
  exact (((hV5.out.step (Agr.setc (.inr hZ1.out) (Agr.refl _ _))).step (Agr.setc (.inr hZ1.out) (Agr.refl _ _))).step (Agr.setc (.inr hZ2.out) (Agr.refl _ _))).step (Agr.setc (.inr hZ2.out) (Agr.refl _ _))
 · exact ((((hf5.out.setc (.inr q1)).setc (.inr q1)).setc (.inr q2)).setc (.inr q2)).call (brf.drew)
 rintro w6 ⟨hF1, hF2, hR6, hV6, hf6⟩
 have e0 := hF1.cell 0; have e1 := hF1.cell 1; have e2 := hF2.cell 0; have e3 := hF2.cell 1
 refine bodyPost_ret (v := .tuple #[.agg #[.slice ra hs.length rc, .slice va5 (x.vars.length + 1) vc5], .agg #[.slice a1 (varP x.vars.length).length c1, .slice none 0 0]]) (by simp [results, Tryz.results121, go_sem, e0, e1, e2, e3]) rfl ?_
 exact ⟨va5, vc5, ⟨a1, c1, none, 0⟩, by simp, hR6, hV6, hf6, hvv.out⟩
theorem dependentR_any (Z : Nat -> Prop) (B : Nat) (x : Frm) (hs : List (VQ × Vec)) (ra va : Option Addr) (rc vc : Nat) (step : Int) (number : Int) (n1 : 0 <= number) (n2 : number <= 1000) (w : World) (hR : Rst Z w B x hs ra rc va vc) (hl : x.vars.length <= 900) (hZ : ∀ b, Z b -> b < w.heap.size) (hBw : B <= w.heap.size) :
  Calls Tryz.prog 126 #[.agg #[.slice ra hs.length rc, .slice va x.vars.length vc], .int .i64 step, .int .i64 number] w (RetStR Z B x (x.vars ++ [(2, step, number), (2, step, number + 1)], (varP x.vars.length, varP (x.vars.length + 1))) hs ra rc va w) := by
 have HR := Hd hR
 have HZ := Hd hZ
 have hn0 : ∀ g, w.heap.size <= g -> ¬ Yv ra va g := fun g hg h => by have := hR.lt _ h; omega
 replace hn0 := Hd hn0
 clear hR hZ
 go_enter Tryz.func126, Tryz.ntmps126
 go_wp2_with fail
 refine calls_gen (fun W => Blk W w.heap.size 58 #[.slice ra hs.length rc, .slice va x.vars.length vc] /\ Blk W (w.heap.size + 1) 58 #[.slice none 0 0, .slice none 0 0] /\ Blk W (w.heap.size + 1 + 1) 81 #[.slice none 0 0, .slice none 0 0] /\ Blk W (w.heap.size + 1 + 1 + 1) 81 #[.slice none 0 0, .slice none 0 0] /\ Below w.heap.size w W) (by refine ⟨?_,?_,?_,?_,?_⟩<;>first|((with_reducible repeat first|assumption|(apply bF;focus omega)|apply bS|(apply bN;focus (simp;done))|apply bA|apply bD);all_goals rfl)|go_grown) ?_
 rintro w4 ⟨h0, h1, h2, h3, hw4⟩
 have hl4 := h3.lt
 have hR4 : Rst (Zk Z w.heap.size 4) w4 B x hs ra rc va vc := (HR.out.more (zk_new (nlr _))).call hw4
 have hZ4 : ∀ b, Zk Z w.heap.size 4 b -> b < w4.heap.size := zk_lt HZ.out hw4.size (by omega)
 refine (paramR_any (Zk Z w.heap.size 4) B x hs ra va rc vc 2 step number w4 hR4 (by omega) hZ4 (by have := hw4.size; omega)).mono ?_
 rintro e w5 ⟨va1, vc1, a1, c1, rfl, hR5, hP5, hf4, hv4⟩
 replace h0 := h0.fr hf4 (hn0.out _ (by omega)); replace h1 := h1.fr hf4 (hn0.out _ (by omega)); replace h2 := h2.fr hf4 (hn0.out _ (by omega)); replace h3 := h3.fr hf4 (hn0.out _ (by omega))
 have hf5 : Fr (Yv ra va) w w5 := (Fr.below hw4).trans hf4
 have hn5 : ∀ g, w.heap.size <= g -> g < w.heap.size + 4 -> ¬ Yv ra va1 g := fun g hg1 hg2 => yv_not (hn0.out g hg1) hv4 (by omega)
 have hvv : ∀ g, va1 = some g -> va = some g \/ w.heap.size <= g.block := fun g hg => by
  have := hw4.size
  rcases hv4 g hg with e | e
  · exact .inl e
  · exact .inr (by omega)
 have hZ5 : ∀ b, Zk Z w.heap.size 4 b -> b < w5.heap.size := fun b hb => ltl (hZ4 b hb) hf4.size
 have k00 := h0.cell 0; have k01 := h0.cell 1; have f00 := h0.frozen 0; have f01 := h0.frozen 1; have l0 := h0.lt
 have k30 := h3.cell 0; have k31 := h3.cell 1; have f30 := h3.frozen 0; have f31 := h3.frozen 1; have l3 := h3.lt
 have h0h := Hd h0; have h1h := Hd h1; have h2h := Hd h2; have h3h := Hd h3
 have hZ0 : Zk Z w.heap.size 4 w.heap.size := .inr (by omega)
 have hZ3 : Zk Z w.heap.size 4 (w.heap.size + 1 + 1 + 1) := .inr (by omega)
 have n0 := hn5 w.heap.size (by omega) (by omega); have n3 := hn5 (w.heap.size + 1 + 1 + 1) (by omega) (by omega)
 replace hR5 := Hd hR5; replace hP5 := Hd hP5; replace hf5 := Hd hf5; replace hvv := Hd hvv; replace hn5 := Hd hn5; replace hZ5 := Hd hZ5; replace hZ0 := Hd hZ0; replace hZ3 := Hd hZ3; replace n0 := Hd n0; replace n3 := Hd n3
 clear h0 h1 h2 h3 hw4 hl4 hR4 hZ4 hf4 hv4
 go_wp2_with fail
 refine calls_gen (fun W => Blk W w.heap.size 58 #[.slice ra hs.length rc, .slice va1 (x.vars.length + 1) vc1] /\ Blk W (w.heap.size + 1) 58 #[.slice none 0 0, .slice none 0 0] /\ Blk W (w.heap.size + 1 + 1) 81 #[.slice none 0 0, .slice none 0 0] /\ Blk W (w.heap.size + 1 + 1 + 1) 81 #[.slice a1 (varP x.vars.length).length c1, .slice none 0 0] /\ Rst (Zk Z w.heap.size 4) W B ⟨x.vars ++ [(2, step, number)], x.coords, x.free⟩ hs ra rc va1 vc1 /\ PolX (Yr (Zk Z w.heap.size 4) ra va1) W a1 c1 (varP x.vars.length) /\ Fr (Yv ra va) w W /\ (∀ b, Zk Z w.heap.size 4 b -> b < W.heap.size)) ⟨by have a := h0h.out; ((with_reducible repeat first|assumption|(apply bF;focus omega)|apply bS|(apply bN;focus (simp;done))|apply bA|apply bD);all_goals rfl), by have a := h1h.out; ((with_reducible repeat first|assumption|(apply bF;focus omega)|apply bS|(apply bN;focus (simp;done))|apply bA|apply bD);all_goals rfl), by have a := h2h.out; ((with_reducible repeat first|assumption|(apply bF;focus omega)|apply bS|(apply bN;focus (simp;done))|apply bA|apply bD);all_goals rfl), by have a := h3h.out; ((with_reducible repeat first|assumption|(apply bF;focus omega)|apply bS|(apply bN;focus (simp;done))|apply bA|apply bD);all_goals rfl), ?_, ?_, ?_, ?_⟩ ?_
 · exact ((hR5.out.set_ hZ0.out n0.out).set_ hZ0.out n0.out).set_ hZ3.out n3.out
 · exact ((hP5.out.step (Agr.setc (.inr hZ0.out) (Agr.refl _ _))).step (Agr.setc (.inr hZ0.out) (Agr.refl _ _))).step (Agr.setc (.inr hZ3.out) (Agr.refl _ _))
 · exact ((hf5.out.setc (.inr (by omega))).setc (.inr (by omega))).setc (.inr (by omega))
 ·
  intro b hb
  simp only [World.size_setCell]
  exact hZ5.out b hb
 clear k00 k01 f00 f01 l0 k30 k31 f30 f31 l3 h0h h1h h2h h3h hR5 hP5 hf5
 rintro w6 ⟨h0, h1, h2, h3, hR6, hP6, hf6, hZ6⟩
 have hl6 := h3.lt
 have hln : (x.vars ++ [((2 : Int), step, (number : Int))]).length = x.vars.length + 1 := by simp
 have C2 := paramR_any (Zk Z w.heap.size 4) B ⟨x.vars ++ [(2, step, number)], x.coords, x.free⟩ hs ra va1 rc vc1 2 step (number + 1) w6 hR6 (by dsimp only; omega) hZ6 (by have := hf6.size; omega)
 unfold RetPar at C2
 dsimp only at C2
 rw [hln, List.append_assoc] at C2
 refine C2.mono ?_
 rintro e w7 ⟨va5, vc5, a2, c2, rfl, hR7, hP7, hf7, hv7⟩
 have m0 := hn5.out
 replace h0 := h0.fr hf7 (m0 _ (by omega) (by omega)); replace h1 := h1.fr hf7 (m0 _ (by omega) (by omega)); replace h2 := h2.fr hf7 (m0 _ (by omega) (by omega)); replace h3 := h3.fr hf7 (m0 _ (by omega) (by omega))
 have hP1 := hP6.move (yr_move (Z := Zk Z w.heap.size 4) (ra := ra) hv7) (hf7.mono fun b hb => .inl hb)
 have hf8 : Fr (Yv ra va) w w7 := hf6.then_ hf7 fun b hb => by
  rcases hb with hb | ⟨g, hg, rfl⟩
  · exact .inl (.inl hb)
  ·
   rcases hvv.out g hg with e | e
   · exact .inl (.inr ⟨g, e, rfl⟩)
   · exact .inr e
 have hn7 : ∀ g, w.heap.size <= g -> g < w.heap.size + 4 -> ¬ Yv ra va5 g := fun g hg1 hg2 => yv_not (m0 g hg1 hg2) hv7 (by omega)
 have hvv7 : ∀ g, va5 = some g -> va = some g \/ w.heap.size <= g.block := fun g hg => by
  have := hf6.size
  rcases hv7 g hg with e | e
  · exact hvv.out g e
  · exact .inr (by omega)
 have k00 := h0.cell 0; have k01 := h0.cell 1; have f00 := h0.frozen 0; have f01 := h0.frozen 1; have l0 := h0.lt
 have k30 := h3.cell 0; have k31 := h3.cell 1; have f30 := h3.frozen 0; have f31 := h3.frozen 1; have l3 := h3.lt
 have h0h := Hd h0; have h1h := Hd h1; have h2h := Hd h2; have h3h := Hd h3
 have p0 := hn7 w.heap.size (by omega) (by omega); have p3 := hn7 (w.heap.size + 1 + 1 + 1) (by omega) (by omega)
 replace hR7 := Hd hR7; replace hP7 := Hd hP7; replace hP1 := Hd hP1; replace hf8 := Hd hf8; replace p0 := Hd p0; replace p3 := Hd p3; replace hn7 := Hd hn7; replace hvv7 := Hd hvv7
 clear h0 h1 h2 h3 hR6 hP6 hf6 hl6 hf7 hv7 m0 C2 hln hvv hn5 hZ5 hZ6
 go_wp2
 refine world_gen (fun W => Blk W w.heap.size 58 #[.slice ra hs.length rc, .slice va5 (x.vars.length + 1 + 1) vc5] /\ Blk W (w.heap.size + 1) 58 #[.slice none 0 0, .slice none 0 0] /\ Blk W (w.heap.size + 1 + 1) 81 #[.slice none 0 0, .slice none 0 0] /\ Blk W (w.heap.size + 1 + 1 + 1) 81 #[.slice a1 (varP x.vars.length).length c1, .slice a2 (varP (x.vars.length + 1)).length c2] /\ Rst (Zk Z w.heap.size 4) W B ⟨x.vars ++ [(2, step, number), (2, step, (number + 1))], x.coords, x.free⟩ hs ra rc va5 vc5 /\ VecX (Yr (Zk Z w.heap.size 4) ra va5) W ⟨a1, c1, a2, c2⟩ (varP x.vars.length, varP (x.vars.length + 1)) /\ Fr (Yv ra va) w W) ⟨by have a := h0h.out; ((with_reducible repeat first|assumption|(apply bF;focus omega)|apply bS|(apply bN;focus (simp;done))|apply bA|apply bD);all_goals rfl), by have a := h1h.out; ((with_reducible repeat first|assumption|(apply bF;focus omega)|apply bS|(apply bN;focus (simp;done))|apply bA|apply bD);all_goals rfl), by have a := h2h.out; ((with_reducible repeat first|assumption|(apply bF;focus omega)|apply bS|(apply bN;focus (simp;done))|apply bA|apply bD);all_goals rfl), by have a := h3h.out; ((with_reducible repeat first|assumption|(apply bF;focus omega)|apply bS|(apply bN;focus (simp;done))|apply bA|apply bD);all_goals rfl), ?_, ?_, ?_⟩ ?_
 · exact ((hR7.out.set_ hZ0.out p0.out).set_ hZ0.out p0.out).set_ hZ3.out p3.out
 · exact VecX.step (VecX.step (VecX.step (w := w7) ⟨hP1.out, hP7.out⟩ (Agr.setc (.inr hZ0.out) (Agr.refl _ _))) (Agr.setc (.inr hZ0.out) (Agr.refl _ _))) (Agr.setc (.inr hZ3.out) (Agr.refl _ _))
 · exact ((hf8.out.setc (.inr (by omega))).setc (.inr (by omega))).setc (.inr (by omega))
 clear k00 k01 f00 f01 l0 k30 k31 f30 f31 l3 h0h h1h h2h h3h hR7 hP7 hP1 hf8
 rintro w5 ⟨h0, h1, h2, h3, hR5, hV5, hf5⟩
 have hl5 := h3.lt
 have hvv := hvv7; have hn5 := hn7
 obtain ⟨g1, hg1⟩ : ∃ g, g = w.heap.size + 1 := ⟨_, rfl⟩
 obtain ⟨g2, hg2⟩ : ∃ g, g = w.heap.size + 1 + 1 := ⟨_, rfl⟩
 obtain ⟨g3, hg3⟩ : ∃ g, g = w.heap.size + 1 + 1 + 1 := ⟨_, rfl⟩
 rw [<- hg3] at h3 ⊢
 rw [<- hg2] at h2 ⊢
 rw [<- hg1] at h1 ⊢
 replace hR5 := Hd hR5; replace hV5 := Hd hV5; replace hf5 := Hd hf5
 clear hZ0 hZ3
 have b00 := h0.cell 0; have b01 := h0.cell 1; have b30 := h3.cell 0; have b31 := h3.cell 1
 obtain ⟨L, hL⟩ : ∃ L : List (Addr × Value), L = [(⟨w.heap.size, 0, none⟩, .slice ra hs.length rc), (⟨w.heap.size, 1, none⟩, .slice va5 (x.vars.length + 1 + 1) vc5), (⟨g3, 0, none⟩, .slice a1 (varP x.vars.length).length c1), (⟨g3, 1, none⟩, .slice a2 (varP (x.vars.length + 1)).length c2)] := ⟨_, rfl⟩
 have y0 : ∀ W, Cs L W -> W.cell? ⟨w.heap.size, 0, none⟩ = some (.slice ra hs.length rc) := fun W h => h _ _ (by rw [hL]; simp)
 have y1 : ∀ W, Cs L W -> W.cell? ⟨w.heap.size, 1, none⟩ = some (.slice va5 (x.vars.length + 1 + 1) vc5) := fun W h => h _ _ (by rw [hL]; simp)
 have y2 : ∀ W, Cs L W -> W.cell? ⟨g3, 0, none⟩ = some (.slice a1 (varP x.vars.length).length c1) := fun W h => h _ _ (by rw [hL]; simp)
 have y3 : ∀ W, Cs L W -> W.cell? ⟨g3, 1, none⟩ = some (.slice a2 (varP (x.vars.length + 1)).length c2) := fun W h => h _ _ (by rw [hL]; simp)
 have hne : ∀ p v, (p, v) ∈ L -> p.block ≠ g1 := by
  rw [hL]
  intro p v hm
  simp only [List.mem_cons, List.not_mem_nil, or_false, Prod.mk.injEq] at hm
  rcases hm with ⟨rfl, _⟩ | ⟨rfl, _⟩ | ⟨rfl, _⟩ | ⟨rfl, _⟩ <;> (dsimp only; omega)
 have s0 : Cs L w5.drew := by
  rw [hL]
  intro p v hm
  simp only [List.mem_cons, List.not_mem_nil, or_false, Prod.mk.injEq] at hm
  rcases hm with ⟨rfl, rfl⟩ | ⟨rfl, rfl⟩ | ⟨rfl, rfl⟩ | ⟨rfl, rfl⟩
  · exact b00
  · exact b01
  · exact b30
  · exact b31
 have k10 := h1.cell 0; have k11 := h1.cell 1; have f10 := h1.frozen 0; have f11 := h1.frozen 1; have l1 := h1.lt
 have k20 := h2.cell 0; have k21 := h2.cell 1; have f20 := h2.frozen 0; have f21 := h2.frozen 1; have l2 := h2.lt
 have q1 : w.heap.size <= g1 := by omega
 have q2 : w.heap.size <= g2 := by omega
 have hZ1 : Zk Z w.heap.size 4 g1 := .inr (by omega)
 have hZ2 : Zk Z w.heap.size 4 g2 := .inr (by omega)
 have n1 : ¬ Yv ra va5 g1 := hn5.out g1 q1 (by omega)
 have n2 : ¬ Yv ra va5 g2 := hn5.out g2 q2 (by omega)
 have d12 : g1 ≠ g2 := by omega
 have hLh := Hd hL; have hneh := Hd hne
 replace hg1 := Hd hg1; replace hg2 := Hd hg2; replace hg3 := Hd hg3
 have h1h := Hd h1; have h2h := Hd h2; replace hZ1 := Hd hZ1; replace hZ2 := Hd hZ2; replace n1 := Hd n1; replace n2 := Hd n2
 clear h0 h1 h2 h3 b00 b01 b30 b31 hL hne
 refine wp_region_mix (S := Cs L) [(0, .q), (1, .q), (2, .l), (3, .t)] (by kernel_rfl) (by kernel_rfl) (by kernel_rfl) (fun d _ _ _ _ h => by cases d <;> exact h) (s0) ?_
 iterate 2 (refine wpMix_q rfl rfl (fun K hK => ?_); apply Exists.intro; refine ⟨fun w' hw' => ?_, ?_⟩; (focus (go_simp; try rfl)); go_simp; refine hK _ _ ?_; clear hK K)
 refine wpMix_l rfl rfl (fun K hK => ?_)
 go_simp
 refine hK.out _ _ ((s0.setc hneh.out).setc hneh.out) (fun _ => ?_)
 clear hK K
 refine wpMix_t rfl rfl (fun K hK => ?_)
 go_simp
 refine hK.out _ _ ?_
 clear hK K
 refine wpMix_nil ?_
 clear k10 k11 f10 f11 l1 k20 k21 f20 f21 l2 s0 y0 y1 y2 y3
 go_wp2
 refine world_gen (fun W => Blk W g1 58 #[.slice ra hs.length rc, .slice va5 (x.vars.length + 1 + 1) vc5] /\ Blk W g2 81 #[.slice a1 (varP x.vars.length).length c1, .slice a2 (varP (x.vars.length + 1)).length c2] /\ Rst Z W B ⟨x.vars ++ [(2, step, number), (2, step, number + 1)], x.coords, x.free⟩ hs ra rc va5 vc5 /\ VecX (Yr Z ra va5) W ⟨a1, c1, a2, c2⟩ (varP x.vars.length, varP (x.vars.length + 1)) /\ Fr (Yv ra va) w W) ⟨?_, ?_, ?_, ?_, ?_⟩ ?_
 ·
  have a := h1h.out
  ((with_reducible repeat first|assumption|(apply bF;focus omega)|apply bS|(apply bN;focus (simp;done))|apply bA|apply bD);all_goals rfl)
 ·
  have a := h2h.out
  ((with_reducible repeat first|assumption|(apply bF;focus omega)|apply bS|(apply bN;focus (simp;done))|apply bA|apply bD);all_goals rfl)
 · exact (((((hR5.out.set_ hZ1.out n1.out).set_ hZ1.out n1.out).set_ hZ2.out n2.out).set_ hZ2.out n2.out).less fun b hb => .inl hb).call (brf.drew)
 ·
  refine VecX.less (Y := Yr (Zk Z w.heap.size 4) ra va5) ?_ fun b hb => hb.imp id .inl
  exact (((hV5.out.step (Agr.setc (.inr hZ1.out) (Agr.refl _ _))).step (Agr.setc (.inr hZ1.out) (Agr.refl _ _))).step (Agr.setc (.inr hZ2.out) (Agr.refl _ _))).step (Agr.setc (.inr hZ2.out) (Agr.refl _ _))
 · exact ((((hf5.out.setc (.inr q1)).setc (.inr q1)).setc (.inr q2)).setc (.inr q2)).call (brf.drew)
 rintro w6 ⟨hF1, hF2, hR6, hV6, hf6⟩
 have e0 := hF1.cell 0; have e1 := hF1.cell 1; have e2 := hF2.cell 0; have e3 := hF2.cell 1
 refine bodyPost_ret (v := .tuple #[.agg #[.slice ra hs.length rc, .slice va5 (x.vars.length + 1 + 1) vc5], .agg #[.slice a1 (varP x.vars.length).length c1, .slice a2 (varP (x.vars.length + 1)).length c2]]) (by simp [results, Tryz.results126, go_sem, e0, e1, e2, e3]) rfl ?_
 exact ⟨va5, vc5, ⟨a1, c1, a2, c2⟩, by simp, hR6, hV6, hf6, hvv.out⟩
theorem free2R_any (Z : Nat -> Prop) (B : Nat) (x : Frm) (hs : List (VQ × Vec)) (ra va : Option Addr) (rc vc : Nat) (step : Int) (bf : Int) (b1 : 1 < bf) (w : World) (hR : Rst Z w B x hs ra rc va vc) (hl : x.vars.length <= 900) (hZ : ∀ b, Z b -> b < w.heap.size) (hBw : B <= w.heap.size) :
  Calls Tryz.prog 121 #[.agg #[.slice ra hs.length rc, .slice va x.vars.length vc], .int .i64 step, .int .i64 bf] w (RetStR Z B x (x.vars ++ [(1, step, 0), (1, step, 1)], (varP x.vars.length, varP (x.vars.length + 1))) hs ra rc va w) := by
 have b0 : 0 < bf := by omega
 have HR := Hd hR
 have HZ := Hd hZ
 have hn0 : ∀ g, w.heap.size <= g -> ¬ Yv ra va g := fun g hg h => by have := hR.lt _ h; omega
 replace hn0 := Hd hn0
 clear hR hZ
 go_enter Tryz.func121, Tryz.ntmps121
 go_wp2_with fail
 refine calls_gen (fun W => Blk W w.heap.size 58 #[.slice ra hs.length rc, .slice va x.vars.length vc] /\ Blk W (w.heap.size + 1) 58 #[.slice none 0 0, .slice none 0 0] /\ Blk W (w.heap.size + 1 + 1) 81 #[.slice none 0 0, .slice none 0 0] /\ Blk W (w.heap.size + 1 + 1 + 1) 81 #[.slice none 0 0, .slice none 0 0] /\ Below w.heap.size w W) (by refine ⟨?_,?_,?_,?_,?_⟩<;>first|((with_reducible repeat first|assumption|(apply bF;focus omega)|apply bS|(apply bN;focus (simp;done))|apply bA|apply bD);all_goals rfl)|go_grown) ?_
 rintro w4 ⟨h0, h1, h2, h3, hw4⟩
 have hl4 := h3.lt
 have hR4 : Rst (Zk Z w.heap.size 4) w4 B x hs ra rc va vc := (HR.out.more (zk_new (nlr _))).call hw4
 have hZ4 : ∀ b, Zk Z w.heap.size 4 b -> b < w4.heap.size := zk_lt HZ.out hw4.size (by omega)
 refine (paramR_any (Zk Z w.heap.size 4) B x hs ra va rc vc 1 step 0 w4 hR4 (by omega) hZ4 (by have := hw4.size; omega)).mono ?_
 rintro e w5 ⟨va1, vc1, a1, c1, rfl, hR5, hP5, hf4, hv4⟩
 replace h0 := h0.fr hf4 (hn0.out _ (by omega)); replace h1 := h1.fr hf4 (hn0.out _ (by omega)); replace h2 := h2.fr hf4 (hn0.out _ (by omega)); replace h3 := h3.fr hf4 (hn0.out _ (by omega))
 have hf5 : Fr (Yv ra va) w w5 := (Fr.below hw4).trans hf4
 have hn5 : ∀ g, w.heap.size <= g -> g < w.heap.size + 4 -> ¬ Yv ra va1 g := fun g hg1 hg2 => yv_not (hn0.out g hg1) hv4 (by omega)
 have hvv : ∀ g, va1 = some g -> va = some g \/ w.heap.size <= g.block := fun g hg => by
  have := hw4.size
  rcases hv4 g hg with e | e
  · exact .inl e
  · exact .inr (by omega)
 have hZ5 : ∀ b, Zk Z w.heap.size 4 b -> b < w5.heap.size := fun b hb => ltl (hZ4 b hb) hf4.size
 have k00 := h0.cell 0; have k01 := h0.cell 1; have f00 := h0.frozen 0; have f01 := h0.frozen 1; have l0 := h0.lt
 have k30 := h3.cell 0; have k31 := h3.cell 1; have f30 := h3.frozen 0; have f31 := h3.frozen 1; have l3 := h3.lt
 have h0h := Hd h0; have h1h := Hd h1; have h2h := Hd h2; have h3h := Hd h3
 have hZ0 : Zk Z w.heap.size 4 w.heap.size := .inr (by omega)
 have hZ3 : Zk Z w.heap.size 4 (w.heap.size + 1 + 1 + 1) := .inr (by omega)
 have n0 := hn5 w.heap.size (by omega) (by omega); have n3 := hn5 (w.heap.size + 1 + 1 + 1) (by omega) (by omega)
 replace hR5 := Hd hR5; replace hP5 := Hd hP5; replace hf5 := Hd hf5; replace hvv := Hd hvv; replace hn5 := Hd hn5; replace hZ5 := Hd hZ5; replace hZ0 := Hd hZ0; replace hZ3 := Hd hZ3; replace n0 := Hd n0; replace n3 := Hd n3
 clear h0 h1 h2 h3 hw4 hl4 hR4 hZ4 hf4 hv4
 go_wp2_with fail
 refine calls_gen (fun W => Blk W w.heap.size 58 #[.slice ra hs.length rc, .slice va1 (x.vars.length + 1) vc1] /\ Blk W (w.heap.size + 1) 58 #[.slice none 0 0, .slice none 0 0] /\ Blk W (w.heap.size + 1 + 1) 81 #[.slice none 0 0, .slice none 0 0] /\ Blk W (w.heap.size + 1 + 1 + 1) 81 #[.slice a1 (varP x.vars.length).length c1, .slice none 0 0] /\ Rst (Zk Z w.heap.size 4) W B ⟨x.vars ++ [(1, step, 0)], x.coords, x.free⟩ hs ra rc va1 vc1 /\ PolX (Yr (Zk Z w.heap.size 4) ra va1) W a1 c1 (varP x.vars.length) /\ Fr (Yv ra va) w W /\ (∀ b, Zk Z w.heap.size 4 b -> b < W.heap.size)) ⟨by have a := h0h.out; ((with_reducible repeat first|assumption|(apply bF;focus omega)|apply bS|(apply bN;focus (simp;done))|apply bA|apply bD);all_goals rfl), by have a := h1h.out; ((with_reducible repeat first|assumption|(apply bF;focus omega)|apply bS|(apply bN;focus (simp;done))|apply bA|apply bD);all_goals rfl), by have a := h2h.out; ((with_reducible repeat first|assumption|(apply bF;focus omega)|apply bS|(apply bN;focus (simp;done))|apply bA|apply bD);all_goals rfl), by have a := h3h.out; ((with_reducible repeat first|assumption|(apply bF;focus omega)|apply bS|(apply bN;focus (simp;done))|apply bA|apply bD);all_goals rfl), ?_, ?_, ?_, ?_⟩ ?_
 · exact ((hR5.out.set_ hZ0.out n0.out).set_ hZ0.out n0.out).set_ hZ3.out n3.out
 · exact ((hP5.out.step (Agr.setc (.inr hZ0.out) (Agr.refl _ _))).step (Agr.setc (.inr hZ0.out) (Agr.refl _ _))).step (Agr.setc (.inr hZ3.out) (Agr.refl _ _))
 · exact ((hf5.out.setc (.inr (by omega))).setc (.inr (by omega))).setc (.inr (by omega))
 ·
  intro b hb
  simp only [World.size_setCell]
  exact hZ5.out b hb
 clear k00 k01 f00 f01 l0 k30 k31 f30 f31 l3 h0h h1h h2h h3h hR5 hP5 hf5
 rintro w6 ⟨h0, h1, h2, h3, hR6, hP6, hf6, hZ6⟩
 have hl6 := h3.lt
 have hln : (x.vars ++ [((1 : Int), step, (0 : Int))]).length = x.vars.length + 1 := by simp
 have C2 := paramR_any (Zk Z w.heap.size 4) B ⟨x.vars ++ [(1, step, 0)], x.coords, x.free⟩ hs ra va1 rc vc1 1 step 1 w6 hR6 (by dsimp only; omega) hZ6 (by have := hf6.size; omega)
 unfold RetPar at C2
 dsimp only at C2
 rw [hln, List.append_assoc] at C2
 refine C2.mono ?_
 rintro e w7 ⟨va5, vc5, a2, c2, rfl, hR7, hP7, hf7, hv7⟩
 have m0 := hn5.out
 replace h0 := h0.fr hf7 (m0 _ (by omega) (by omega)); replace h1 := h1.fr hf7 (m0 _ (by omega) (by omega)); replace h2 := h2.fr hf7 (m0 _ (by omega) (by omega)); replace h3 := h3.fr hf7 (m0 _ (by omega) (by omega))
 have hP1 := hP6.move (yr_move (Z := Zk Z w.heap.size 4) (ra := ra) hv7) (hf7.mono fun b hb => .inl hb)
 have hf8 : Fr (Yv ra va) w w7 := hf6.then_ hf7 fun b hb => by
  rcases hb with hb | ⟨g, hg, rfl⟩
  · exact .inl (.inl hb)
  ·
   rcases hvv.out g hg with e | e
   · exact .inl (.inr ⟨g, e, rfl⟩)
   · exact .inr e
 have hn7 : ∀ g, w.heap.size <= g -> g < w.heap.size + 4 -> ¬ Yv ra va5 g := fun g hg1 hg2 => yv_not (m0 g hg1 hg2) hv7 (by omega)
 have hvv7 : ∀ g, va5 = some g -> va = some g \/ w.heap.size <= g.block := fun g hg => by
  have := hf6.size
  rcases hv7 g hg with e | e
  · exact hvv.out g e
  · exact .inr (by omega)
 have k00 := h0.cell 0; have k01 := h0.cell 1; have f00 := h0.frozen 0; have f01 := h0.frozen 1; have l0 := h0.lt
 have k30 := h3.cell 0; have k31 := h3.cell 1; have f30 := h3.frozen 0; have f31 := h3.frozen 1; have l3 := h3.lt
 have h0h := Hd h0; have h1h := Hd h1; have h2h := Hd h2; have h3h := Hd h3
 have p0 := hn7 w.heap.size (by omega) (by omega); have p3 := hn7 (w.heap.size + 1 + 1 + 1) (by omega) (by omega)
 replace hR7 := Hd hR7; replace hP7 := Hd hP7; replace hP1 := Hd hP1; replace hf8 := Hd hf8; replace p0 := Hd p0; replace p3 := Hd p3; replace hn7 := Hd hn7; replace hvv7 := Hd hvv7
 clear h0 h1 h2 h3 hR6 hP6 hf6 hl6 hf7 hv7 m0 C2 hln hvv hn5 hZ5 hZ6
 go_wp2
 refine world_gen (fun W => Blk W w.heap.size 58 #[.slice ra hs.length rc, .slice va5 (x.vars.length + 1 + 1) vc5] /\ Blk W (w.heap.size + 1) 58 #[.slice none 0 0, .slice none 0 0] /\ Blk W (w.heap.size + 1 + 1) 81 #[.slice none 0 0, .slice none 0 0] /\ Blk W (w.heap.size + 1 + 1 + 1) 81 #[.slice a1 (varP x.vars.length).length c1, .slice a2 (varP (x.vars.length + 1)).length c2] /\ Rst (Zk Z w.heap.size 4) W B ⟨x.vars ++ [(1, step, 0), (1, step, 1)], x.coords, x.free⟩ hs ra rc va5 vc5 /\ VecX (Yr (Zk Z w.heap.size 4) ra va5) W ⟨a1, c1, a2, c2⟩ (varP x.vars.length, varP (x.vars.length + 1)) /\ Fr (Yv ra va) w W) ⟨by have a := h0h.out; ((with_reducible repeat first|assumption|(apply bF;focus omega)|apply bS|(apply bN;focus (simp;done))|apply bA|apply bD);all_goals rfl), by have a := h1h.out; ((with_reducible repeat first|assumption|(apply bF;focus omega)|apply bS|(apply bN;focus (simp;done))|apply bA|apply bD);all_goals rfl), by have a := h2h.out; ((with_reducible repeat first|assumption|(apply bF;focus omega)|apply bS|(apply bN;focus (simp;done))|apply bA|apply bD);all_goals rfl), by have a := h3h.out; ((with_reducible repeat first|assumption|(apply bF;focus omega)|apply bS|(apply bN;focus (simp;done))|apply bA|apply bD);all_goals rfl), ?_, ?_, ?_⟩ ?_
 · exact ((hR7.out.set_ hZ0.out p0.out).set_ hZ0.out p0.out).set_ hZ3.out p3.out
 · exact VecX.step (VecX.step (VecX.step (w := w7) ⟨hP1.out, hP7.out⟩ (Agr.setc (.inr hZ0.out) (Agr.refl _ _))) (Agr.setc (.inr hZ0.out) (Agr.refl _ _))) (Agr.setc (.inr hZ3.out) (Agr.refl _ _))
 · exact ((hf8.out.setc (.inr (by omega))).setc (.inr (by omega))).setc (.inr (by omega))
 clear k00 k01 f00 f01 l0 k30 k31 f30 f31 l3 h0h h1h h2h h3h hR7 hP7 hP1 hf8
 rintro w5 ⟨h0, h1, h2, h3, hR5, hV5, hf5⟩
 have hl5 := h3.lt
 have hvv := hvv7; have hn5 := hn7
 obtain ⟨g1, hg1⟩ : ∃ g, g = w.heap.size + 1 := ⟨_, rfl⟩
 obtain ⟨g2, hg2⟩ : ∃ g, g = w.heap.size + 1 + 1 := ⟨_, rfl⟩
 obtain ⟨g3, hg3⟩ : ∃ g, g = w.heap.size + 1 + 1 + 1 := ⟨_, rfl⟩
 rw [<- hg3] at h3 ⊢
 rw [<- hg2] at h2 ⊢
 rw [<- hg1] at h1 ⊢
 replace hR5 := Hd hR5; replace hV5 := Hd hV5; replace hf5 := Hd hf5
 clear hZ0 hZ3
 have b00 := h0.cell 0; have b01 := h0.cell 1; have b30 := h3.cell 0; have b31 := h3.cell 1
 obtain ⟨L, hL⟩ : ∃ L : List (Addr × Value), L = [(⟨w.heap.size, 0, none⟩, .slice ra hs.length rc), (⟨w.heap.size, 1, none⟩, .slice va5 (x.vars.length + 1 + 1) vc5), (⟨g3, 0, none⟩, .slice a1 (varP x.vars.length).length c1), (⟨g3, 1, none⟩, .slice a2 (varP (x.vars.length + 1)).length c2)] := ⟨_, rfl⟩
 have y0 : ∀ W, Cs L W -> W.cell? ⟨w.heap.size, 0, none⟩ = some (.slice ra hs.length rc) := fun W h => h _ _ (by rw [hL]; simp)
 have y1 : ∀ W, Cs L W -> W.cell? ⟨w.heap.size, 1, none⟩ = some (.slice va5 (x.vars.length + 1 + 1) vc5) := fun W h => h _ _ (by rw [hL]; simp)
 have y2 : ∀ W, Cs L W -> W.cell? ⟨g3, 0, none⟩ = some (.slice a1 (varP x.vars.length).length c1) := fun W h => h _ _ (by rw [hL]; simp)
 have y3 : ∀ W, Cs L W -> W.cell? ⟨g3, 1, none⟩ = some (.slice a2 (varP (x.vars.length + 1)).length c2) := fun W h => h _ _ (by rw [hL]; simp)
 have hne : ∀ p v, (p, v) ∈ L -> p.block ≠ g1 := by
  rw [hL]
  intro p v hm
  simp only [List.mem_cons, List.not_mem_nil, or_false, Prod.mk.injEq] at hm
  rcases hm with ⟨rfl, _⟩ | ⟨rfl, _⟩ | ⟨rfl, _⟩ | ⟨rfl, _⟩ <;> (dsimp only; omega)
 have s0 : Cs L w5.drew := by
  rw [hL]
  intro p v hm
  simp only [List.mem_cons, List.not_mem_nil, or_false, Prod.mk.injEq] at hm
  rcases hm with ⟨rfl, rfl⟩ | ⟨rfl, rfl⟩ | ⟨rfl, rfl⟩ | ⟨rfl, rfl⟩
  · exact b00
  · exact b01
  · exact b30
  · exact b31
 have k10 := h1.cell 0; have k11 := h1.cell 1; have f10 := h1.frozen 0; have f11 := h1.frozen 1; have l1 := h1.lt
 have k20 := h2.cell 0; have k21 := h2.cell 1; have f20 := h2.frozen 0; have f21 := h2.frozen 1; have l2 := h2.lt
 have q1 : w.heap.size <= g1 := by omega
 have q2 : w.heap.size <= g2 := by omega
 have hZ1 : Zk Z w.heap.size 4 g1 := .inr (by omega)
 have hZ2 : Zk Z w.heap.size 4 g2 := .inr (by omega)
 have n1 : ¬ Yv ra va5 g1 := hn5.out g1 q1 (by omega)
 have n2 : ¬ Yv ra va5 g2 := hn5.out g2 q2 (by omega)
 have d12 : g1 ≠ g2 := by omega
 have hLh := Hd hL; have hneh := Hd hne
 replace hg1 := Hd hg1; replace hg2 := Hd hg2; replace hg3 := Hd hg3
 have h1h := Hd h1; have h2h := Hd h2; replace hZ1 := Hd hZ1; replace hZ2 := Hd hZ2; replace n1 := Hd n1; replace n2 := Hd n2
 clear h0 h1 h2 h3 b00 b01 b30 b31 hL hne
 refine wp_region_mix (S := Cs L) [(0, .q), (1, .q), (2, .l), (3, .t)] (by kernel_rfl) (by kernel_rfl) (by kernel_rfl) (fun d _ _ _ _ h => by cases d <;> exact h) (s0) ?_
 iterate 2 (refine wpMix_q rfl rfl (fun K hK => ?_); apply Exists.intro; refine ⟨fun w' hw' => ?_, ?_⟩; (focus (go_simp; try rfl)); go_simp; refine hK _ _ ?_; clear hK K)
 refine wpMix_l rfl rfl (fun K hK => ?_)
 go_simp
 refine hK.out _ _ ((s0.setc hneh.out).setc hneh.out) (fun _ => ?_)
 clear hK K
 refine wpMix_t rfl rfl (fun K hK => ?_)
 go_simp
 refine hK.out _ _ ?_
 clear hK K
 refine wpMix_nil ?_
 clear k10 k11 f10 f11 l1 k20 k21 f20 f21 l2 s0 y0 y1 y2 y3
 go_wp2
 refine world_gen (fun W => Blk W g1 58 #[.slice ra hs.length rc, .slice va5 (x.vars.length + 1 + 1) vc5] /\ Blk W g2 81 #[.slice a1 (varP x.vars.length).length c1, .slice a2 (varP (x.vars.length + 1)).length c2] /\ Rst Z W B ⟨x.vars ++ [(1, step, 0), (1, step, 1)], x.coords, x.free⟩ hs ra rc va5 vc5 /\ VecX (Yr Z ra va5) W ⟨a1, c1, a2, c2⟩ (varP x.vars.length, varP (x.vars.length + 1)) /\ Fr (Yv ra va) w W) ⟨?_, ?_, ?_, ?_, ?_⟩ ?_
 ·
  have a := h1h.out
  ((with_reducible repeat first|assumption|(apply bF;focus omega)|apply bS|(apply bN;focus (simp;done))|apply bA|apply bD);all_goals rfl)
 ·
  have a := h2h.out
  ((with_reducible repeat first|assumption|(apply bF;focus omega)|apply bS|(apply bN;focus (simp;done))|apply bA|apply bD);all_goals rfl)
 · exact (((((hR5.out.set_ hZ1.out n1.out).set_ hZ1.out n1.out).set_ hZ2.out n2.out).set_ hZ2.out n2.out).less fun b hb => .inl hb).call (brf.drew)
 ·
  refine VecX.less (Y := Yr (Zk Z w.heap.size 4) ra va5) ?_ fun b hb => hb.imp id .inl
  exact (((hV5.out.step (Agr.setc (.inr hZ1.out) (Agr.refl _ _))).step (Agr.setc (.inr hZ1.out) (Agr.refl _ _))).step (Agr.setc (.inr hZ2.out) (Agr.refl _ _))).step (Agr.setc (.inr hZ2.out) (Agr.refl _ _))
 · exact ((((hf5.out.setc (.inr q1)).setc (.inr q1)).setc (.inr q2)).setc (.inr q2)).call (brf.drew)
 rintro w6 ⟨hF1, hF2, hR6, hV6, hf6⟩
 have e0 := hF1.cell 0; have e1 := hF1.cell 1; have e2 := hF2.cell 0; have e3 := hF2.cell 1
 refine bodyPost_ret (v := .tuple #[.agg #[.slice ra hs.length rc, .slice va5 (x.vars.length + 1 + 1) vc5], .agg #[.slice a1 (varP x.vars.length).length c1, .slice a2 (varP (x.vars.length + 1)).length c2]]) (by simp [results, Tryz.results121, go_sem, e0, e1, e2, e3]) rfl ?_
 exact ⟨va5, vc5, ⟨a1, c1, a2, c2⟩, by simp, hR6, hV6, hf6, hvv.out⟩
theorem freeR_any (Z : Nat -> Prop) (B : Nat) (x : Frm) (hs : List (VQ × Vec)) (ra va : Option Addr) (rc vc : Nat) (step : Int) (w : World) (hR : Rst Z w B x hs ra rc va vc) (hl : x.vars.length <= 900) (hZ : ∀ b, Z b -> b < w.heap.size) (hBw : B <= w.heap.size) :
  Calls Tryz.prog 121 #[.agg #[.slice ra hs.length rc, .slice va x.vars.length vc], .int .i64 step, .int .i64 x.free] w (RetStR Z B x (pointF x step) hs ra rc va w) := by
 by_cases h0 : x.free = 0
 ·
  have := free0R_any Z B x hs ra va rc vc step w hR
  rw [h0]
  simpa [pointF, h0] using this
 ·
  by_cases h1 : x.free = 1
  ·
   have := free1R_any Z B x hs ra va rc vc step w hR hl hZ hBw
   rw [h1]
   simpa [pointF, h1] using this
  ·
   have := free2R_any Z B x hs ra va rc vc step x.free (by omega) w hR hl hZ hBw
   simpa [pointF, h0, h1] using this
theorem frm_pow {i a D : Nat} (ha : a <= 65536 ^ 3) (h : D <= a ^ i) : D < 65536 ^ (3 * i + 1) := by
 have h1 : a ^ i <= (65536 ^ 3) ^ i := Nat.pow_le_pow_left ha i
 rw [<- Nat.pow_mul] at h1
 have h2 : 65536 ^ (3 * i) < 65536 ^ (3 * i + 1) := Nat.pow_lt_pow_right (by decide) (Nat.lt_succ_self _)
 exact Nat.lt_of_le_of_lt (Nat.le_trans h h1) h2
theorem fine_of {i : Nat} {B : Int} {D M : Nat} {p : List Tm} (hk : Pok B p) (hB : B <= 100000) (ho : PolyO D M p) (hD : 0 < D) (h1 : D <= (2 ^ 32) ^ i) (h2 : M <= (3 * 2 ^ 32) ^ i) (hi : i <= 300) (hl : p.length <= 100000) : FineP p :=
 ⟨hl, fun u hu => ⟨(hk.1 u hu).1.more hB, (hk.1 u hu).2, by
  obtain ⟨e1, e2⟩ := (ho u hu).parts hD
  have g1 := limbs_len_le (frm_pow (i := i) (by decide) (Nat.le_trans e1 h2))
  have g2 := limbs_len_le (frm_pow (i := i) (by decide) (Nat.le_trans e2 h1))
  exact qsz_le (by omega) (by omega)⟩⟩
section
variable {i D M : Nat} {x : Frm}
theorem FrmOk.fine (h : FrmOk i D M x) (hi : i <= 100) (args : List Int) (k : Nat) : FineP (argF x.coords args k).1 /\ FineP (argF x.coords args k).2 := by
 obtain ⟨⟨a1, a2, a3⟩, ⟨b1, b2, b3⟩⟩ := argF_ok h args k
 obtain ⟨h0, h1, h2, h3, _⟩ := h
 exact ⟨fine_of a1 (by omega) a2 h1 h2 h3 (by omega) (by omega), fine_of b1 (by omega) b2 h1 h2 h3 (by omega) (by omega)⟩
theorem FrmOk.diff (h : FrmOk i D M x) (hi : i <= 100) {p q : List Tm} (hp : Pok i p /\ PolyO D M p /\ p.length <= 4000) (hq : Pok i q /\ PolyO D M q /\ q.length <= 4000) :
  FineP (subP p q) /\ Pok i (subP p q) := by
 obtain ⟨h0, h1, h2, h3, _⟩ := h
 have hl := subP_len p q
 have ho := hp.2.1.sub hq.2.1
 have hk := subP_ok hp.1 hq.1
 refine ⟨fine_of (i := i + 1) hk (by omega) ho h1 (Nat.le_trans h2 ?_) ?_ (by omega) (by omega), hk⟩
 · exact Nat.pow_le_pow_right (by decide) (by omega)
 ·
  have e2 : (3 * 2 ^ 32 : Nat) ^ (i + 1) = (3 * 2 ^ 32) ^ i * (3 * 2 ^ 32) := Nat.pow_succ _ _
  rw [e2]
  generalize (3 * 2 ^ 32) ^ i = P at *
  omega
theorem FrmOk.scaled (h : FrmOk i D M x) (hi : i <= 100) {p q : List Tm} (hp : Pok i p /\ PolyO D M p /\ p.length <= 4000) (hq : Pok i q /\ PolyO D M q /\ q.length <= 4000) {r : Rat} (hr : r.num.natAbs <= 2 ^ 32 /\ r.den <= 2 ^ 32) :
  FineP (scaleP (subP p q) r) := by
 obtain ⟨h0, h1, h2, h3, h4, _⟩ := h
 have hl := subP_len p q
 have hl2 := scaleP_len (subP p q) r
 have ho := (hp.2.1.sub hq.2.1).scale r
 have hk := scaleP_ok (a := r) (subP_ok hp.1 hq.1)
 have d0 : 0 < r.den := Nat.pos_of_ne_zero r.den_nz
 refine fine_of (i := i + 2) hk (by omega) ho (Nat.mul_pos h1 d0) ?_ ?_ (by omega) (by omega)
 ·
  refine Nat.le_trans (Nat.mul_le_mul h2 hr.2) ?_
  rw [<- Nat.pow_succ]
  exact Nat.pow_le_pow_right (by decide) (by omega)
 ·
  have e2 : (3 * 2 ^ 32 : Nat) ^ (i + 2) = (3 * 2 ^ 32) ^ i * (3 * 2 ^ 32) * (3 * 2 ^ 32) := by rw [Nat.pow_succ, Nat.pow_succ]
  refine Nat.le_trans (Nat.mul_le_mul (Nat.add_le_add h3 h3) hr.1) ?_
  rw [e2]
  generalize (3 * 2 ^ 32) ^ i = P at *
  omega
theorem fine_var (n : Nat) : FineP (varP n) := fine_of (i := 0) (D := 1) (M := 1) (varP_ok (B := 1) (Int.le_refl _)) (by omega) (varP_over n (nlr _)) (by omega) (by simp) (by simp) (by omega) (by have := varP_len n; omega)
theorem FrmOk.turned (h : FrmOk i D M x) (hi : i <= 100) {p q : List Tm} (hp : Pok i p /\ PolyO D M p /\ p.length <= 4000) (hq : Pok i q /\ PolyO D M q /\ q.length <= 4000) (n : Nat) :
  FineP (mulP (subP p q) (varP n)) := by
 obtain ⟨h0, h1, h2, h3, _⟩ := h
 have hl := subP_len p q
 have ho := mulP_var_over (n := n) (hp.2.1.sub hq.2.1)
 have hk := mulP_var_ok (i := i) (subP_ok hp.1 hq.1) n
 have hl2 : (mulP (subP p q) (varP n)).length <= (subP p q).length := by
  unfold varP
  split
  · rw [mulP_one]; simp [timesP]
  · rw [mulP_zero]; simp
 refine fine_of (i := i + 1) hk (by omega) ho h1 (Nat.le_trans h2 ?_) ?_ (by omega) (by omega)
 · exact Nat.pow_le_pow_right (by decide) (by omega)
 ·
  have e2 : (3 * 2 ^ 32 : Nat) ^ (i + 1) = (3 * 2 ^ 32) ^ i * (3 * 2 ^ 32) := Nat.pow_succ _ _
  rw [e2]
  generalize (3 * 2 ^ 32) ^ i = P at *
  omega
end
theorem Pok.take {B : Int} {p : List Tm} (h : Pok B p) (k : Nat) : Pok B (p.take k) := ⟨fun t ht => h.1 t (List.mem_of_mem_take ht), h.2.sublist (List.take_sublist k p)⟩
theorem FineP.take {p : List Tm} (h : FineP p) (k : Nat) : FineP (p.take k) := ⟨Nat.le_trans (by rw [List.length_take]; omega) h.1, fun v hv => h.2 v (List.mem_of_mem_take hv)⟩
theorem fine_mul1 {B B' : Int} {u : Tm} {d : List Tm} (hu : Pok B [u]) (hd : Pok B' d) (hB : 0 <= B) (hB' : 0 <= B') (h : FineP (timesP d u)) : (∀ k, FineP (mulP [u] (d.take k))) /\ ∀ t ∈ d, FineP (timesP [u] t) := by
 refine ⟨fun k => ?_, fun t ht => ?_⟩
 ·
  rw [mulP_comm hu (hd.take k) hB hB', mulP_one]
  have : timesP (d.take k) u = (timesP d u).take k := by unfold timesP; rw [List.map_take]
  rw [this]
  exact h.take k
 ·
  have e : timesP [u] t = [(t.1 * u.1, mulM t.2 u.2)] := by
   unfold timesP
   rw [List.map_cons, List.map_nil, mulM_comm u.2 t.2, Rat.mul_comm u.1 t.1]
  rw [e]
  refine ⟨by simp, fun v hv => ?_⟩
  rw [List.mem_singleton] at hv
  subst hv
  exact h.2 _ (List.mem_map.2 ⟨t, ht, rfl⟩)
theorem fine_mul0 {B : Int} {d : List Tm} (hd : Pok B d) (hB : 0 <= B) : (∀ k, FineP (mulP [] (d.take k))) /\ ∀ t ∈ d, FineP (timesP [] t) := by
 have h0 : FineP [] := ⟨by simp, fun u hu => by cases hu⟩
 refine ⟨fun k => ?_, fun t _ => h0⟩
 rw [mulP_comm (Pok.nil 0) (hd.take k) (Int.le_refl _) hB, mulP_zero]
 exact h0
theorem fine_const {B : Int} {d : List Tm} {q : Rat} (hd : Pok B d) (hB : 0 <= B) (h : FineP (scaleP d q)) : (∀ k, FineP (mulP (constP q) (d.take k))) /\ ∀ t ∈ d, FineP (timesP (constP q) t) := by
 have hc := constP_ok q
 unfold constP at hc ⊢
 by_cases h0 : q = 0
 ·
  rw [if_pos h0]
  exact fine_mul0 hd hB
 ·
  rw [if_neg h0] at hc ⊢
  refine fine_mul1 hc hd (Int.le_refl _) hB ?_
  rw [timesP_scale h0]
  exact h
theorem fine_varm {B : Int} {d : List Tm} {n : Nat} (hd : Pok B d) (hB : 0 <= B) (h : FineP (mulP d (varP n))) : (∀ k, FineP (mulP (varP n) (d.take k))) /\ ∀ t ∈ d, FineP (timesP (varP n) t) := by
 have hc := varP_ok (n := n) (B := 1) (Int.le_refl _)
 unfold varP at hc h ⊢
 by_cases h0 : n < 64
 ·
  rw [if_pos h0] at hc h ⊢
  rw [mulP_one] at h
  exact fine_mul1 hc hd (by decide) hB h
 ·
  rw [if_neg h0]
  exact fine_mul0 hd hB
theorem fine_constP {q : Rat} (h : qsz q <= 1000) : FineP (constP q) := by
 unfold constP
 split
 · exact ⟨by simp, fun u hu => by cases hu⟩
 ·
  next h0 =>
  refine ⟨by simp, fun u hu => ?_⟩
  rw [List.mem_singleton] at hu
  subst hu
  exact ⟨Mok.nil _, h0, h⟩
theorem at_v (X : Nat -> Prop) (gB e s B : Nat) (hs : List (VQ × Vec)) (ra aa : Option Addr) (rc ac : Nat) (args : List Int) (k j : Nat) (q : VQ) (v : Vec) (w : World) (h1 : w.cell? ⟨e, 0, none⟩ = some (.pointer (some ⟨gB, 0, none⟩))) (h2 : w.cell? ⟨gB, 0, none⟩ = some (.slice ra hs.length rc))
  (h3 : w.cell? ⟨s, 2, none⟩ = some (.slice aa args.length ac)) (h4 : IntsR w aa ac args) (h5 : OwnCo B w ra rc hs) (hi : args[k]? = some (j : Int)) (hj : hs[j]? = some (q, v)) (hv : VecX X w q v) (hl : hs.length <= 1000000) :
  Calls Tryz.prog 55 #[.int .i64 k, .pointer (some ⟨e, 0, none⟩), .pointer (some ⟨s, 0, none⟩)] w (RetVec X v w) := by
 have hjl : j < hs.length := lt_of_get hj
 have hil : k < args.length := lt_of_get hi
 have hl2 := h4.len
 obtain ⟨g2, o2, rfl, hcx⟩ := h4.2.2 k _ hi
 have u0 : w.cell? ⟨g2, o2 + k, none⟩ = some (.int .i64 j) := by simpa [IntE] using hcx.1
 obtain ⟨g, rfl, _, _, hc⟩ := h5.at_ coC_len hj
 have d0 := held (show w.cell? ⟨g, j * 2, none⟩ = some (.slice q.a v.1.length q.c) from hc 0 _ rfl); have d1 := held (show w.cell? ⟨g, j * 2 + 1, none⟩ = some (.slice q.b v.2.length q.d) from hc 1 _ rfl)
 replace h1 := held h1; replace h2 := held h2; replace h3 := held h3; replace u0 := held u0
 have HV := Hd hv
 clear hc hcx h4 h5 hi hj hv
 go_enter Tryz.func55, Tryz.ntmps55
 go_wp2
 refine world_gen (fun W => Blk W w.heap.size 81 #[.slice none 0 0, .slice none 0 0] /\ Below w.heap.size w W) ⟨by ((with_reducible repeat first|assumption|(apply bF;focus omega)|apply bS|(apply bN;focus (simp;done))|apply bA|apply bD);all_goals rfl), by go_grown⟩ ?_
 rintro w0 ⟨h0, hw0⟩
 have s0 : Below w.heap.size w w0.drew := hw0.drew
 have hz := h0.drew
 obtain ⟨v0, hv0⟩ : ∃ v, w0.drew = v := ⟨_, rfl⟩
 refine wp_region_mix (S := Below w.heap.size w) [(0, .q), (1, .q), (2, .q), (3, .q), (4, .q), (5, .q), (6, .q), (7, .q), (8, .q), (9, .q), (10, .q), (11, .q), (12, .t)] (by kernel_rfl) (by kernel_rfl) (by kernel_rfl) (fun d _ _ _ _ h => by cases d <;> exact h) (s0) ?_
 rw [hv0] at s0 hz ⊢
 iterate 12 (refine wpMix_q rfl rfl (fun K hK => ?_); apply Exists.intro; refine ⟨fun w' hw' => ?_, ?_⟩; (focus (go_simp; try rfl)); go_simp; refine hK _ _ ?_; clear hK K)
 clear d0 d1 h1 h2 h3 u0
 have y0 := hz.cell 0; have f0 := hz.frozen 0; have y1 := hz.cell 1; have f1 := hz.frozen 1
 refine wpMix_t rfl rfl (fun K hK => ?_)
 go_simp
 refine hK.out _ _ ?_
 clear hK K
 refine wpMix_nil ?_
 go_wp2
 refine world_gen (fun W => Blk W w.heap.size 81 #[.slice q.a v.1.length q.c, .slice q.b v.2.length q.d] /\ Below w.heap.size w W) ⟨by ((with_reducible repeat first|assumption|(apply bF;focus omega)|apply bS|(apply bN;focus (simp;done))|apply bA|apply bD);all_goals rfl), by go_grown⟩ ?_
 rintro wF ⟨hF, hwF⟩
 have e0 := hF.cell 0; have e1 := hF.cell 1
 refine bodyPost_ret (v := .agg #[.slice q.a v.1.length q.c, .slice q.b v.2.length q.d]) (by simp [results, Tryz.results55, go_sem, e0, e1]) rfl ?_
 exact ⟨q, rfl, HV.out.call hwF, hwF⟩
end Go.Proofs.YtdnblkklgdnapaaGreat
