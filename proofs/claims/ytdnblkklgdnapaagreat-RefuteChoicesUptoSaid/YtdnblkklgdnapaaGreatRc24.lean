/- Walks: a step of the reference's frame (layer 21: next): along a line. -/
import Derived.Test.YtdnblkklgdnapaaGreatRc23
set_option linter.all false
set_option maxRecDepth 100000
set_option maxHeartbeats 4000000
namespace Go.Proofs.YtdnblkklgdnapaaGreat
open Go.RowKit
theorem nextAR_any (Z : Nat -> Prop) (B : Nat) (x : Frm) (hs : List (VQ × Vec)) (ra va : Option Addr) (rc vc : Nat) (pt : ByteArray) (aa na da ga : Option Addr) (ac nc dc sn sb so sc gl gc i rn rd : Nat) (neg : Bool) (args : List Int) (w : World) (hR : Rst Z w B x hs ra rc va vc) (hl : x.vars.length <= 800) (hlh : hs.length <= 1000) (hZ : ∀ b, Z b -> b < w.heap.size) (hBw : B <= w.heap.size) (hi : i < sn) (hsn : sn <= sc /\ sc <= maxLen) (kind : Int) (hkk : kind = 1 \/ kind = 6 \/ 7 <= kind) (c0 : w.cell? ⟨sb, so + i * 6, none⟩ = some (.int .i64 kind)) (c1 : w.cell? ⟨sb, so + i * 6 + 1, none⟩ = some (.string pt)) (c2 : w.cell? ⟨sb, so + i * 6 + 2, none⟩ = some (.slice aa args.length ac)) (c3 : w.cell? ⟨sb, so + i * 6 + 3, none⟩ = some (.bool neg)) (c4 : w.cell? ⟨sb, so + i * 6 + 4, none⟩ = some (.slice na rn nc)) (c5 : w.cell? ⟨sb, so + i * 6 + 5, none⟩ = some (.slice da rd dc)) (hI : IntsR w aa ac args) (hal : args.length <= 1000) (har : ∀ a ∈ args, 0 <= a /\ a < hs.length)  : Calls Tryz.prog 81 #[.agg #[.slice ra hs.length rc, .slice va x.vars.length vc], .agg #[.slice (some ⟨sb, so, none⟩) sn sc, .slice ga gl gc], .int .i64 i, .int .i64 x.free] w (RetStR Z B x (if kind = 1 then pointF x i else if kind = 6 then (x.vars ++ [(1, (i : Int), 0), (2, (i : Int), 1), (2, (i : Int), 2)], (varP (x.vars.length + 1), varP (x.vars.length + 2))) else (x.vars ++ [(2, (i : Int), 0), (2, (i : Int), 1)], (varP x.vars.length, varP (x.vars.length + 1)))) hs ra rc va w) := by
 obtain ⟨PP9, hPe⟩ : ∃ PP9 : List Vr × Vec, PP9 = (if kind = 1 then pointF x i else if kind = 6 then (x.vars ++ [(1, (i : Int), 0), (2, (i : Int), 1), (2, (i : Int), 2)], (varP (x.vars.length + 1), varP (x.vars.length + 2))) else (x.vars ++ [(2, (i : Int), 0), (2, (i : Int), 1)], (varP x.vars.length, varP (x.vars.length + 1)))) := ⟨_, rfl⟩
 rw [<- hPe]
 replace hPe := Hd hPe
 replace hkk := Hd hkk
 have HR := Hd hR
 have HZ := Hd hZ
 have HI := Hd hI
 have HA := Hd har
 have HL := Hd hlh
 have hn0 : ∀ g, w.heap.size <= g -> ¬ Yv ra va g := fun g hg h => by have := hR.lt _ h; omega
 replace hn0 := Hd hn0
 have hsb : sb < w.heap.size := World.block_lt_of_cell? w _ c0
 have hsb1 : sb < w.heap.size + 1 := by omega
 have hsb2 : sb < w.heap.size + 1 + 1 := by omega
 have hsb3 : sb < w.heap.size + 1 + 1 + 1 := by omega
 have hsb4 : sb < w.heap.size + 1 + 1 + 1 + 1 := by omega
 clear hR hZ hI har hlh
 obtain ⟨sm1, sm2⟩ := hsn
 go_enter Tryz.func81, Tryz.ntmps81
 go_wp2
 refine world_gen (fun W => Blk W w.heap.size 58 #[.slice ra hs.length rc, .slice va x.vars.length vc] /\ Blk W (w.heap.size + 1) 25 #[.slice (some ⟨sb, so, none⟩) sn sc, .slice ga gl gc] /\ Blk W (w.heap.size + 1 + 1) 58 #[.slice none 0 0, .slice none 0 0] /\ Blk W (w.heap.size + 1 + 1 + 1) 81 #[.slice none 0 0, .slice none 0 0] /\ Blk W (w.heap.size + 1 + 1 + 1 + 1) 34 #[.int .i64 kind, .string pt, .slice aa args.length ac, .bool neg, .slice na rn nc, .slice da rd dc] /\ Below w.heap.size w W) (by refine ⟨?_,?_,?_,?_,?_,?_⟩<;>first|((with_reducible repeat first|assumption|(apply bF;focus omega)|apply bS|(apply bN;focus (simp;done))|apply bA|apply bD);all_goals rfl)|go_grown) ?_
 clear c0 c1 c2 c3 c4 c5 hsb hsb1 hsb2 hsb3 hsb4
 rintro w1 ⟨h0, h1, h2, h3, h4, hw1⟩
 obtain ⟨g1, hg1⟩ : ∃ g, g = w.heap.size + 1 := ⟨_, rfl⟩
 obtain ⟨g2, hg2⟩ : ∃ g, g = w.heap.size + 1 + 1 := ⟨_, rfl⟩
 obtain ⟨g3, hg3⟩ : ∃ g, g = w.heap.size + 1 + 1 + 1 := ⟨_, rfl⟩
 obtain ⟨g4, hg4⟩ : ∃ g, g = w.heap.size + 1 + 1 + 1 + 1 := ⟨_, rfl⟩
 obtain ⟨g0, hg0⟩ : ∃ g, g = w.heap.size := ⟨_, rfl⟩
 rw [<- hg4] at h4 ⊢
 rw [<- hg3] at h3 ⊢
 rw [<- hg2] at h2 ⊢
 rw [<- hg1] at h1 ⊢
 rw [<- hg0] at h0 ⊢
 have hl4 := h4.lt
 have o1 : g0 < g1 := by omega
 have o2 : g1 < g2 := by omega
 have o3 : g2 < g3 := by omega
 have o4 : g3 < g4 := by omega
 have ow : w.heap.size <= g0 := by omega
 have o5 : g4 < w.heap.size + 5 := by omega
 replace hg0 := Hd hg0; replace hg1 := Hd hg1; replace hg2 := Hd hg2; replace hg3 := Hd hg3; replace hg4 := Hd hg4
 have k40 := h4.cell 0; have k42 := h4.cell 2
 clear hl4
 go_wp2
 go_loopg [11, 13, 26] args.length (fun m l _ idx wr => ∃ (k : Nat) (la : Option Addr) (lc : Nat), Hid (k + m = args.length) /\ l = .slice la k lc /\ idx = .int .i64 k /\ Hid (OwnCo (g4 + 1) wr la lc ((pickH hs args).take k)) /\ Below w.heap.size w wr /\ Blk wr g0 58 #[.slice ra hs.length rc, .slice va x.vars.length vc] /\ Blk wr g1 25 #[.slice (some ⟨sb, so, none⟩) sn sc, .slice ga gl gc] /\ Blk wr g2 58 #[.slice none 0 0, .slice none 0 0] /\ Blk wr g3 81 #[.slice none 0 0, .slice none 0 0] /\ Blk wr g4 34 #[.int .i64 kind, .string pt, .slice aa args.length ac, .bool neg, .slice na rn nc, .slice da rd dc])
 case atStart => exact ⟨0, none, 0, by show _ = _; omega, rfl, rfl, by rw [List.take_zero]; exact Own.nil, hw1, h0, h1, h2, h3, h4⟩
 case round =>
  clear h0 h1 h2 h3 h4 hw1 k40 k42
  obtain ⟨k, la, lc, hm, rfl, rfl, hO, hwr, h0, h1, h2, h3, h4⟩ := hrel
  by_cases hlt : k < args.length
  ·
   obtain ⟨a, ha⟩ := get_of_lt hlt
   obtain ⟨ab, ao, rfl, hae, _⟩ := (HI.out.ext (xbw hwr)).2.2 k a ha
   obtain ⟨a1, a2⟩ := HA.out a (List.mem_of_getElem? ha)
   obtain ⟨z, hz⟩ := get_of_lt (show a.toNat < hs.length by omega)
   obtain ⟨rb, rfl, _, _, hzc⟩ := (HR.out.call hwr).co.at_ coC_len hz
   have hcz0 := hzc 0 _ rfl
   have hcz1 := hzc 1 _ rfl
   have hk' := pickH_get ha hz
   obtain ⟨j, rfl⟩ : ∃ j : Nat, a = (j : Int) := ⟨a.toNat, by omega⟩
   rw [Int.toNat_natCast] at hcz0 hcz1 hz
   rw [Nat.mul_one] at hae
   rw [Nat.add_zero] at hcz0
   have hjl : j < hs.length := lt_of_get hz
   have hlh := HL.out
   have hlen2 : ((pickH hs args).take k).length = k := by rw [List.length_take, pickH_len]; omega
   have z0 := h0.cell 0
   have hzl := h0.lt
   have y4 := h4.lt
   have hab : ab < wr.heap.size := World.block_lt_of_cell? wr _ hae
   have hrb : rb < wr.heap.size := World.block_lt_of_cell? wr _ hcz0
   replace hk' := Hd hk'; replace hz := Hd hz; replace hlen2 := Hd hlen2; replace ha := Hd ha; replace hO := Hd hO.out
   have h0h := Hd h0; have h1h := Hd h1; have h2h := Hd h2; have h3h := Hd h3; have h4h := Hd h4
   clear hzc h0 h1 h2 h3 h4 a1 a2
   go_wp2_with (at_builtin; go_must (refine world_gen (fun W => Blk W wr.heap.size 81 #[.slice z.1.a z.2.1.length z.1.c, .slice z.1.b z.2.2.length z.1.d] /\ Below wr.heap.size wr W) ⟨by ((with_reducible repeat first|assumption|(apply bF;focus omega)|apply bS|(apply bN;focus (simp;done))|apply bA|apply bD);all_goals rfl), by go_grown⟩ ?_); rintro w2 ⟨hr2, hw2⟩; go_must (refine wpList_append_1 (B := g4 + 1) rfl (.tmp 30) (.tmp 36) 55 rfl Tryz.underlying55 infoCo rfl (by omega) (by omega) coC_len la lc (by rw [hlen2.out]; rfl) (hO.out.below hw2) z (coC_one _) wr.heap.size 1 rfl (fun j u hu => by have e := hr2.cell j; rw [e]; simpa [coC] using hu) ((pickH hs args).take k ++ [z]) rfl (by rw [List.length_append, hlen2.out]; simp; omega) (by have := hw2.size; omega) ?_); intro la2 lc2 w3 ho3 hg3' ha3)
   have hwr2 := bth hwr hw2
   have hlt2 := hw2.size
   have hO2 := hO.out.below hw2
   have q0 := (h0h.out.below' hw2).under hO2 (by omega) hg3'; have q1 := (h1h.out.below' hw2).under hO2 (by omega) hg3'; have q2 := (h2h.out.below' hw2).under hO2 (by omega) hg3'; have q3 := (h3h.out.below' hw2).under hO2 (by omega) hg3'; have q4 := (h4h.out.below' hw2).under hO2 (by omega) hg3'
   have hb3 := below_append' hwr2 (hO2.base (show w.heap.size <= g4 + 1 by omega)) hg3'
   rw [<- take_more hk'.out] at ho3
   have hmin : min k (pickH hs args).length + 1 = k + 1 := by rw [pickH_len]; omega
   go_roundg (gk - 1)
   case rel => exact ⟨k + 1, la2, lc2, by have := hm.out; show _ = _; omega, by rw [hmin], by go_num, ho3, hb3, q0, q1, q2, q3, q4⟩
   case measure => have := hm.out; omega
  ·
   have hk : k = args.length := by have := hm.out; omega
   have hO2 := hO.out
   rw [List.take_of_length_le (by rw [pickH_len]; omega)] at hO2
   subst hk
   replace hO2 := Hd hO2
   have hR8 : Rst (Zk Z w.heap.size 5) wr B x hs ra rc va vc := (HR.out.more (zk_new (nlr _))).call hwr
   have hZ8 : ∀ b, Zk Z w.heap.size 5 b -> b < wr.heap.size := zk_lt HZ.out hwr.size (by have := h4.lt; have := hg4.out; omega)
   have hB8 : B <= wr.heap.size := by have := hwr.size; omega
   have x0 := h0.cell 0; have x1 := h0.cell 1; have k40 := h4.cell 0; have l0 := h0.lt; have l4 := h4.lt
   have n2 : ¬ Yv ra va g2 := hn0.out g2 (by omega)
   have n3 : ¬ Yv ra va g3 := hn0.out g3 (by omega)
   have e2 : Zk Z w.heap.size 5 g2 := .inr (by omega)
   have e3 : Zk Z w.heap.size 5 g3 := .inr (by omega)
   have w2 : w.heap.size <= g2 := by omega
   have w3 : w.heap.size <= g3 := by omega
   have d23 : g2 ≠ g3 := by omega
   have d32 : g3 ≠ g2 := by omega
   have h2h := Hd h2; have h3h := Hd h3; have h0h := Hd h0; have h4h := Hd h4
   replace hR8 := Hd hR8; replace hZ8 := Hd hZ8; replace n2 := Hd n2; replace n3 := Hd n3; replace e2 := Hd e2; replace e3 := Hd e3
   clear h0 h1 h2 h3 h4 hm hO
   rcases hkk.out with rfl | rfl | k7
   ·
    replace hPe : Hid (PP9 = pointF x i) := by have e := hPe.out; rw [if_pos rfl] at e; exact e
    go_wp2_with fail
    have CC := freeR_any (Zk Z w.heap.size 5) B x hs ra va rc vc i wr hR8.out (by omega) hZ8.out hB8
    try rw [show ((0 : Int) + 1) = 1 from rfl] at CC
    rw [<- hPe.out] at CC
    refine CC.mono ?_
    rintro e w9 ⟨va9, vc9, t, rfl, hR9, hV9, hf9, hv9⟩
    clear x0 x1 k40 l0 l4 CC
    have h29 := h2h.out.fr hf9 n2.out
    have h39 := h3h.out.fr hf9 n3.out
    have m2 : ¬ Yv ra va9 g2 := yv_not n2.out hv9 (by have := h2h.out.lt; omega)
    have m3 : ¬ Yv ra va9 g3 := yv_not n3.out hv9 (by have := h3h.out.lt; omega)
    have k20 := h29.cell 0; have k21 := h29.cell 1; have f20 := h29.frozen 0; have f21 := h29.frozen 1; have l2 := h29.lt
    have k30 := h39.cell 0; have k31 := h39.cell 1; have f30 := h39.frozen 0; have f31 := h39.frozen 1; have l3 := h39.lt
    have hfr : Fr (Yv ra va) w w9 := (Fr.below hwr).trans hf9
    have hvv : ∀ g, va9 = some g -> va = some g \/ w.heap.size <= g.block := fun g hg => by
     have := hwr.size
     rcases hv9 g hg with e | e
     · exact .inl e
     · exact .inr (by omega)
    have h29h := Hd h29; have h39h := Hd h39
    replace hR9 := Hd hR9; replace hV9 := Hd hV9; replace hfr := Hd hfr; replace hvv := Hd hvv; replace m2 := Hd m2; replace m3 := Hd m3
    clear h29 h39 hf9 hv9
    go_wp2
    clear k20 k21 f20 f21 l2 k30 k31 f30 f31 l3
    refine world_gen (fun W => Blk W g2 58 #[.slice ra hs.length rc, .slice va9 PP9.1.length vc9] /\ Blk W g3 81 #[.slice t.a PP9.2.1.length t.c, .slice t.b PP9.2.2.length t.d] /\ Rst Z W B ⟨PP9.1, x.coords, x.free⟩ hs ra rc va9 vc9 /\ VecX (Yr Z ra va9) W t PP9.2 /\ Fr (Yv ra va) w W) ⟨?_, ?_, ?_, ?_, ?_⟩ ?_
    ·
     have a := h29h.out
     ((with_reducible repeat first|assumption|(apply bF;focus omega)|apply bS|(apply bN;focus (simp;done))|apply bA|apply bD);all_goals rfl)
    ·
     have a := h39h.out
     ((with_reducible repeat first|assumption|(apply bF;focus omega)|apply bS|(apply bN;focus (simp;done))|apply bA|apply bD);all_goals rfl)
    ·
     first
     | exact ((((hR9.out.set_ e2.out m2.out).set_ e2.out m2.out).set_ e3.out m3.out).set_ e3.out m3.out).less fun b hb => .inl hb
     | exact (((((hR9.out.set_ e2.out m2.out).set_ e2.out m2.out).set_ e3.out m3.out).set_ e3.out m3.out).less fun b hb => .inl hb).call (brf.drew)
    ·
     refine VecX.less (Y := Yr (Zk Z w.heap.size 5) ra va9) ?_ fun b hb => hb.imp id .inl
     exact (((hV9.out.step (Agr.setc (.inr e2.out) (Agr.refl _ _))).step (Agr.setc (.inr e2.out) (Agr.refl _ _))).step (Agr.setc (.inr e3.out) (Agr.refl _ _))).step (Agr.setc (.inr e3.out) (Agr.refl _ _))
    ·
     first
     | exact (((hfr.out.setc (.inr w2)).setc (.inr w2)).setc (.inr w3)).setc (.inr w3)
     | exact ((((hfr.out.setc (.inr w2)).setc (.inr w2)).setc (.inr w3)).setc (.inr w3)).call (brf.drew)
    rintro wZ ⟨hF1, hF2, hRZ, hVZ, hfZ⟩
    have j0 := hF1.cell 0; have j1 := hF1.cell 1; have j2 := hF2.cell 0; have j3 := hF2.cell 1
    refine bodyPost_ret (v := .tuple #[.agg #[.slice ra hs.length rc, .slice va9 PP9.1.length vc9], .agg #[.slice t.a PP9.2.1.length t.c, .slice t.b PP9.2.2.length t.d]]) (by simp [results, Tryz.results81, go_sem, j0, j1, j2, j3]) rfl ?_
    exact ⟨va9, vc9, t, rfl, hRZ, hVZ, hfZ, hvv.out⟩
   ·
    replace hPe : Hid (PP9 = (x.vars ++ [(1, (i : Int), 0), (2, (i : Int), 1), (2, (i : Int), 2)], (varP (x.vars.length + 1), varP (x.vars.length + 2)))) := by have e := hPe.out; rw [if_neg (by decide), if_pos rfl] at e; exact e
    go_wp2_with fail
    refine (paramR_any (Zk Z w.heap.size 5) B x hs ra va rc vc 1 i 0 wr hR8.out (by omega) hZ8.out hB8).mono ?_
    rintro e wA ⟨vaA, vcA, aA, cA, rfl, hRA, _, hfA, hvA⟩
    have hln : (x.vars ++ [((1 : Int), (i : Int), (0 : Int))]).length = x.vars.length + 1 := by simp
    have CC := fun W (hW : Below wA.heap.size wA W) => dependentR_any (Zk Z w.heap.size 5) B ⟨x.vars ++ [(1, (i : Int), 0)], x.coords, x.free⟩ hs ra vaA rc vcA i 1 (by omega) (by omega) W (hRA.call hW) (by dsimp only; omega) (fun b hb => ltl (hZ8.out b hb) (Nat.le_trans hfA.size hW.size)) (by have := hfA.size; have := hW.size; omega)
    unfold RetStR at CC
    dsimp only at CC
    rw [hln] at CC
    replace CC := Hd CC; replace hfA := Hd hfA; replace hvA := Hd hvA
    clear x0 x1 k40 l0 l4 hRA hln
    go_wp2_with fail
    refine calls_gen (fun W => Below wA.heap.size wA W) (by go_grown) ?_
    intro wB hbB
    refine (CC.out wB hbB).mono ?_
    rintro e w9 ⟨va9, vc9, t, rfl, hR9, hV9, hf9, hv9⟩
    have hv9 : ∀ g, va9 = some g -> va = some g \/ wr.heap.size <= g.block := fun g hg => by
     have := hfA.out.size; have := hbB.size
     rcases hv9 g hg with e | e
     · exact hvA.out g e
     · exact .inr (by omega)
    have hf9 : Fr (Yv ra va) wr w9 := ((hfA.out).call hbB).then_ hf9 fun b hb => by
     rcases hb with hb | ⟨g, hg, rfl⟩
     · exact .inl (.inl hb)
     ·
      rcases hvA.out g hg with e | e
      · exact .inl (.inr ⟨g, e, rfl⟩)
      · exact .inr e
    have eP : PP9 = (x.vars ++ [(1, (i : Int), 0)] ++ [(2, (i : Int), 1), (2, (i : Int), 1 + 1)], (varP (x.vars.length + 1), varP (x.vars.length + 1 + 1))) := by rw [hPe.out]; simp
    have eV : varP (x.vars.length + 1) = PP9.2.1 := by rw [eP]
    have eW : varP (x.vars.length + 1 + 1) = PP9.2.2 := by rw [eP]
    have eN : x.vars ++ [((1 : Int), (i : Int), (0 : Int))] ++ [(2, (i : Int), 1), (2, (i : Int), 1 + 1)] = PP9.1 := by rw [eP]
    rw [eV, eW, eN]
    rw [eV, eW] at hV9
    replace hV9 : VecX (Yr (Zk Z w.heap.size 5) ra va9) w9 t PP9.2 := hV9
    rw [eN] at hR9
    replace eP := Hd eP; replace eV := Hd eV; replace eW := Hd eW; replace eN := Hd eN
    clear CC hfA hvA
    have h29 := h2h.out.fr hf9 n2.out
    have h39 := h3h.out.fr hf9 n3.out
    have m2 : ¬ Yv ra va9 g2 := yv_not n2.out hv9 (by have := h2h.out.lt; omega)
    have m3 : ¬ Yv ra va9 g3 := yv_not n3.out hv9 (by have := h3h.out.lt; omega)
    have k20 := h29.cell 0; have k21 := h29.cell 1; have f20 := h29.frozen 0; have f21 := h29.frozen 1; have l2 := h29.lt
    have k30 := h39.cell 0; have k31 := h39.cell 1; have f30 := h39.frozen 0; have f31 := h39.frozen 1; have l3 := h39.lt
    have hfr : Fr (Yv ra va) w w9 := (Fr.below hwr).trans hf9
    have hvv : ∀ g, va9 = some g -> va = some g \/ w.heap.size <= g.block := fun g hg => by
     have := hwr.size
     rcases hv9 g hg with e | e
     · exact .inl e
     · exact .inr (by omega)
    have h29h := Hd h29; have h39h := Hd h39
    replace hR9 := Hd hR9; replace hV9 := Hd hV9; replace hfr := Hd hfr; replace hvv := Hd hvv; replace m2 := Hd m2; replace m3 := Hd m3
    clear h29 h39 hf9 hv9
    go_wp2
    clear k20 k21 f20 f21 l2 k30 k31 f30 f31 l3
    refine world_gen (fun W => Blk W g2 58 #[.slice ra hs.length rc, .slice va9 PP9.1.length vc9] /\ Blk W g3 81 #[.slice t.a PP9.2.1.length t.c, .slice t.b PP9.2.2.length t.d] /\ Rst Z W B ⟨PP9.1, x.coords, x.free⟩ hs ra rc va9 vc9 /\ VecX (Yr Z ra va9) W t PP9.2 /\ Fr (Yv ra va) w W) ⟨?_, ?_, ?_, ?_, ?_⟩ ?_
    ·
     have a := h29h.out
     ((with_reducible repeat first|assumption|(apply bF;focus omega)|apply bS|(apply bN;focus (simp;done))|apply bA|apply bD);all_goals rfl)
    ·
     have a := h39h.out
     ((with_reducible repeat first|assumption|(apply bF;focus omega)|apply bS|(apply bN;focus (simp;done))|apply bA|apply bD);all_goals rfl)
    ·
     first
     | exact ((((hR9.out.set_ e2.out m2.out).set_ e2.out m2.out).set_ e3.out m3.out).set_ e3.out m3.out).less fun b hb => .inl hb
     | exact (((((hR9.out.set_ e2.out m2.out).set_ e2.out m2.out).set_ e3.out m3.out).set_ e3.out m3.out).less fun b hb => .inl hb).call (brf.drew)
    ·
     refine VecX.less (Y := Yr (Zk Z w.heap.size 5) ra va9) ?_ fun b hb => hb.imp id .inl
     exact (((hV9.out.step (Agr.setc (.inr e2.out) (Agr.refl _ _))).step (Agr.setc (.inr e2.out) (Agr.refl _ _))).step (Agr.setc (.inr e3.out) (Agr.refl _ _))).step (Agr.setc (.inr e3.out) (Agr.refl _ _))
    ·
     first
     | exact (((hfr.out.setc (.inr w2)).setc (.inr w2)).setc (.inr w3)).setc (.inr w3)
     | exact ((((hfr.out.setc (.inr w2)).setc (.inr w2)).setc (.inr w3)).setc (.inr w3)).call (brf.drew)
    rintro wZ ⟨hF1, hF2, hRZ, hVZ, hfZ⟩
    have j0 := hF1.cell 0; have j1 := hF1.cell 1; have j2 := hF2.cell 0; have j3 := hF2.cell 1
    refine bodyPost_ret (v := .tuple #[.agg #[.slice ra hs.length rc, .slice va9 PP9.1.length vc9], .agg #[.slice t.a PP9.2.1.length t.c, .slice t.b PP9.2.2.length t.d]]) (by simp [results, Tryz.results81, go_sem, j0, j1, j2, j3]) rfl ?_
    exact ⟨va9, vc9, t, rfl, hRZ, hVZ, hfZ, hvv.out⟩
   ·
    replace hPe : Hid (PP9 = (x.vars ++ [(2, (i : Int), 0), (2, (i : Int), 1)], (varP x.vars.length, varP (x.vars.length + 1)))) := by have e := hPe.out; rw [if_neg (by omega), if_neg (by omega)] at e; exact e
    have kk1 : ¬ kind = 1 := by omega
    have kk2 : ¬ kind = 2 := by omega
    have kk3 : ¬ kind = 3 := by omega
    have kk4 : ¬ kind = 4 := by omega
    have kk5 : ¬ kind = 5 := by omega
    have kk6 : ¬ kind = 6 := by omega
    go_wp2_with fail
    have CC := dependentR_any (Zk Z w.heap.size 5) B x hs ra va rc vc i 0 (by omega) (by omega) wr hR8.out (by omega) hZ8.out hB8
    try rw [show ((0 : Int) + 1) = 1 from rfl] at CC
    rw [<- hPe.out] at CC
    refine CC.mono ?_
    rintro e w9 ⟨va9, vc9, t, rfl, hR9, hV9, hf9, hv9⟩
    clear x0 x1 k40 l0 l4 CC
    have h29 := h2h.out.fr hf9 n2.out
    have h39 := h3h.out.fr hf9 n3.out
    have m2 : ¬ Yv ra va9 g2 := yv_not n2.out hv9 (by have := h2h.out.lt; omega)
    have m3 : ¬ Yv ra va9 g3 := yv_not n3.out hv9 (by have := h3h.out.lt; omega)
    have k20 := h29.cell 0; have k21 := h29.cell 1; have f20 := h29.frozen 0; have f21 := h29.frozen 1; have l2 := h29.lt
    have k30 := h39.cell 0; have k31 := h39.cell 1; have f30 := h39.frozen 0; have f31 := h39.frozen 1; have l3 := h39.lt
    have hfr : Fr (Yv ra va) w w9 := (Fr.below hwr).trans hf9
    have hvv : ∀ g, va9 = some g -> va = some g \/ w.heap.size <= g.block := fun g hg => by
     have := hwr.size
     rcases hv9 g hg with e | e
     · exact .inl e
     · exact .inr (by omega)
    have h29h := Hd h29; have h39h := Hd h39
    replace hR9 := Hd hR9; replace hV9 := Hd hV9; replace hfr := Hd hfr; replace hvv := Hd hvv; replace m2 := Hd m2; replace m3 := Hd m3
    clear h29 h39 hf9 hv9
    go_wp2
    clear k20 k21 f20 f21 l2 k30 k31 f30 f31 l3
    refine world_gen (fun W => Blk W g2 58 #[.slice ra hs.length rc, .slice va9 PP9.1.length vc9] /\ Blk W g3 81 #[.slice t.a PP9.2.1.length t.c, .slice t.b PP9.2.2.length t.d] /\ Rst Z W B ⟨PP9.1, x.coords, x.free⟩ hs ra rc va9 vc9 /\ VecX (Yr Z ra va9) W t PP9.2 /\ Fr (Yv ra va) w W) ⟨?_, ?_, ?_, ?_, ?_⟩ ?_
    ·
     have a := h29h.out
     ((with_reducible repeat first|assumption|(apply bF;focus omega)|apply bS|(apply bN;focus (simp;done))|apply bA|apply bD);all_goals rfl)
    ·
     have a := h39h.out
     ((with_reducible repeat first|assumption|(apply bF;focus omega)|apply bS|(apply bN;focus (simp;done))|apply bA|apply bD);all_goals rfl)
    ·
     first
     | exact ((((hR9.out.set_ e2.out m2.out).set_ e2.out m2.out).set_ e3.out m3.out).set_ e3.out m3.out).less fun b hb => .inl hb
     | exact (((((hR9.out.set_ e2.out m2.out).set_ e2.out m2.out).set_ e3.out m3.out).set_ e3.out m3.out).less fun b hb => .inl hb).call (brf.drew)
    ·
     refine VecX.less (Y := Yr (Zk Z w.heap.size 5) ra va9) ?_ fun b hb => hb.imp id .inl
     exact (((hV9.out.step (Agr.setc (.inr e2.out) (Agr.refl _ _))).step (Agr.setc (.inr e2.out) (Agr.refl _ _))).step (Agr.setc (.inr e3.out) (Agr.refl _ _))).step (Agr.setc (.inr e3.out) (Agr.refl _ _))
    ·
     first
     | exact (((hfr.out.setc (.inr w2)).setc (.inr w2)).setc (.inr w3)).setc (.inr w3)
     | exact ((((hfr.out.setc (.inr w2)).setc (.inr w2)).setc (.inr w3)).setc (.inr w3)).call (brf.drew)
    rintro wZ ⟨hF1, hF2, hRZ, hVZ, hfZ⟩
    have j0 := hF1.cell 0; have j1 := hF1.cell 1; have j2 := hF2.cell 0; have j3 := hF2.cell 1
    refine bodyPost_ret (v := .tuple #[.agg #[.slice ra hs.length rc, .slice va9 PP9.1.length vc9], .agg #[.slice t.a PP9.2.1.length t.c, .slice t.b PP9.2.2.length t.d]]) (by simp [results, Tryz.results81, go_sem, j0, j1, j2, j3]) rfl ?_
    exact ⟨va9, vc9, t, rfl, hRZ, hVZ, hfZ, hvv.out⟩
theorem next2R_any (Z : Nat -> Prop) (B : Nat) (x : Frm) (hs : List (VQ × Vec)) (ra va : Option Addr) (rc vc : Nat) (pt : ByteArray) (aa na da ga : Option Addr) (ac nc dc sn sb so sc gl gc i rn rd : Nat) (neg : Bool) (args : List Int) (w : World) (hR : Rst Z w B x hs ra rc va vc) (hl : x.vars.length <= 800) (hlh : hs.length <= 1000) (hZ : ∀ b, Z b -> b < w.heap.size) (hBw : B <= w.heap.size) (hi : i < sn) (hsn : sn <= sc /\ sc <= maxLen) (q : Rat) (a b : Vec) (qa qb : VQ) (H0 : (pickH hs args)[0]? = some (qa, a)) (M0 : (qa, a) ∈ hs) (H1 : (pickH hs args)[1]? = some (qb, b)) (M1 : (qb, b) ∈ hs) (hx : Rd (Yr Z ra va) w fun V => QAc V ⟨neg, rn, na, nc, rd, da, dc⟩ q) (hq : qsz q <= 1000) (fa : FineV a) (fb : FineV b) (fd : FineV (subP b.1 a.1, subP b.2 a.2)) (f1 : ∀ k, FineP (mulP (constP q) ((subP b.1 a.1).take k))) (f2 : ∀ t ∈ subP b.1 a.1, FineP (timesP (constP q) t)) (f3 : ∀ k, FineP (mulP (constP q) ((subP b.2 a.2).take k))) (f4 : ∀ t ∈ subP b.2 a.2, FineP (timesP (constP q) t)) (c0 : w.cell? ⟨sb, so + i * 6, none⟩ = some (.int .i64 2)) (c1 : w.cell? ⟨sb, so + i * 6 + 1, none⟩ = some (.string pt)) (c2 : w.cell? ⟨sb, so + i * 6 + 2, none⟩ = some (.slice aa args.length ac)) (c3 : w.cell? ⟨sb, so + i * 6 + 3, none⟩ = some (.bool neg)) (c4 : w.cell? ⟨sb, so + i * 6 + 4, none⟩ = some (.slice na rn nc)) (c5 : w.cell? ⟨sb, so + i * 6 + 5, none⟩ = some (.slice da rd dc)) (hI : IntsR w aa ac args) (hal : args.length <= 1000) (har : ∀ a ∈ args, 0 <= a /\ a < hs.length) : Calls Tryz.prog 81 #[.agg #[.slice ra hs.length rc, .slice va x.vars.length vc], .agg #[.slice (some ⟨sb, so, none⟩) sn sc, .slice ga gl gc], .int .i64 i, .int .i64 x.free] w (RetStR Z B x (x.vars, (addP a.1 (mulP (constP q) (subP b.1 a.1)), addP a.2 (mulP (constP q) (subP b.2 a.2)))) hs ra rc va w) := by
 obtain ⟨V, hPe⟩ : ∃ V : Vec, V = (addP a.1 (mulP (constP q) (subP b.1 a.1)), addP a.2 (mulP (constP q) (subP b.2 a.2))) := ⟨_, rfl⟩
 rw [<- hPe]
 replace hPe := Hd hPe
 have FX := Hd hx; have FQ := Hd hq
 have FF := Hd (And.intro fa (And.intro fb (And.intro fd (And.intro f1 (And.intro f2 (And.intro f3 f4))))))
 replace H0 := Hd H0; replace H1 := Hd H1; replace M0 := Hd M0; replace M1 := Hd M1
 clear hx hq fa fb fd f1 f2 f3 f4
 have HR := Hd hR
 have HZ := Hd hZ
 have HI := Hd hI
 have HA := Hd har
 have HL := Hd hlh
 have hn0 : ∀ g, w.heap.size <= g -> ¬ Yv ra va g := fun g hg h => by have := hR.lt _ h; omega
 replace hn0 := Hd hn0
 have hsb : sb < w.heap.size := World.block_lt_of_cell? w _ c0
 have hsb1 : sb < w.heap.size + 1 := by omega
 have hsb2 : sb < w.heap.size + 1 + 1 := by omega
 have hsb3 : sb < w.heap.size + 1 + 1 + 1 := by omega
 have hsb4 : sb < w.heap.size + 1 + 1 + 1 + 1 := by omega
 clear hR hZ hI har hlh
 obtain ⟨sm1, sm2⟩ := hsn
 go_enter Tryz.func81, Tryz.ntmps81
 go_wp2
 refine world_gen (fun W => Blk W w.heap.size 58 #[.slice ra hs.length rc, .slice va x.vars.length vc] /\ Blk W (w.heap.size + 1) 25 #[.slice (some ⟨sb, so, none⟩) sn sc, .slice ga gl gc] /\ Blk W (w.heap.size + 1 + 1) 58 #[.slice none 0 0, .slice none 0 0] /\ Blk W (w.heap.size + 1 + 1 + 1) 81 #[.slice none 0 0, .slice none 0 0] /\ Blk W (w.heap.size + 1 + 1 + 1 + 1) 34 #[.int .i64 2, .string pt, .slice aa args.length ac, .bool neg, .slice na rn nc, .slice da rd dc] /\ Below w.heap.size w W) (by refine ⟨?_,?_,?_,?_,?_,?_⟩<;>first|((with_reducible repeat first|assumption|(apply bF;focus omega)|apply bS|(apply bN;focus (simp;done))|apply bA|apply bD);all_goals rfl)|go_grown) ?_
 clear c0 c1 c2 c3 c4 c5 hsb hsb1 hsb2 hsb3 hsb4
 rintro w1 ⟨h0, h1, h2, h3, h4, hw1⟩
 obtain ⟨g1, hg1⟩ : ∃ g, g = w.heap.size + 1 := ⟨_, rfl⟩
 obtain ⟨g2, hg2⟩ : ∃ g, g = w.heap.size + 1 + 1 := ⟨_, rfl⟩
 obtain ⟨g3, hg3⟩ : ∃ g, g = w.heap.size + 1 + 1 + 1 := ⟨_, rfl⟩
 obtain ⟨g4, hg4⟩ : ∃ g, g = w.heap.size + 1 + 1 + 1 + 1 := ⟨_, rfl⟩
 obtain ⟨g0, hg0⟩ : ∃ g, g = w.heap.size := ⟨_, rfl⟩
 rw [<- hg4] at h4 ⊢
 rw [<- hg3] at h3 ⊢
 rw [<- hg2] at h2 ⊢
 rw [<- hg1] at h1 ⊢
 rw [<- hg0] at h0 ⊢
 have hl4 := h4.lt
 have o1 : g0 < g1 := by omega
 have o2 : g1 < g2 := by omega
 have o3 : g2 < g3 := by omega
 have o4 : g3 < g4 := by omega
 have ow : w.heap.size <= g0 := by omega
 have o5 : g4 < w.heap.size + 5 := by omega
 replace hg0 := Hd hg0; replace hg1 := Hd hg1; replace hg2 := Hd hg2; replace hg3 := Hd hg3; replace hg4 := Hd hg4
 have k40 := h4.cell 0; have k42 := h4.cell 2
 clear hl4
 go_wp2
 go_loopg [11, 13, 26] args.length (fun m l _ idx wr => ∃ (k : Nat) (la : Option Addr) (lc : Nat), Hid (k + m = args.length) /\ l = .slice la k lc /\ idx = .int .i64 k /\ Hid (OwnCo (g4 + 1) wr la lc ((pickH hs args).take k)) /\ Below w.heap.size w wr /\ Blk wr g0 58 #[.slice ra hs.length rc, .slice va x.vars.length vc] /\ Blk wr g1 25 #[.slice (some ⟨sb, so, none⟩) sn sc, .slice ga gl gc] /\ Blk wr g2 58 #[.slice none 0 0, .slice none 0 0] /\ Blk wr g3 81 #[.slice none 0 0, .slice none 0 0] /\ Blk wr g4 34 #[.int .i64 2, .string pt, .slice aa args.length ac, .bool neg, .slice na rn nc, .slice da rd dc])
 case atStart => exact ⟨0, none, 0, by show _ = _; omega, rfl, rfl, by rw [List.take_zero]; exact Own.nil, hw1, h0, h1, h2, h3, h4⟩
 case round =>
  clear h0 h1 h2 h3 h4 hw1 k40 k42
  obtain ⟨k, la, lc, hm, rfl, rfl, hO, hwr, h0, h1, h2, h3, h4⟩ := hrel
  by_cases hlt : k < args.length
  ·
   obtain ⟨a, ha⟩ := get_of_lt hlt
   obtain ⟨ab, ao, rfl, hae, _⟩ := (HI.out.ext (xbw hwr)).2.2 k a ha
   obtain ⟨a1, a2⟩ := HA.out a (List.mem_of_getElem? ha)
   obtain ⟨z, hz⟩ := get_of_lt (show a.toNat < hs.length by omega)
   obtain ⟨rb, rfl, _, _, hzc⟩ := (HR.out.call hwr).co.at_ coC_len hz
   have hcz0 := hzc 0 _ rfl
   have hcz1 := hzc 1 _ rfl
   have hk' := pickH_get ha hz
   obtain ⟨j, rfl⟩ : ∃ j : Nat, a = (j : Int) := ⟨a.toNat, by omega⟩
   rw [Int.toNat_natCast] at hcz0 hcz1 hz
   rw [Nat.mul_one] at hae
   rw [Nat.add_zero] at hcz0
   have hjl : j < hs.length := lt_of_get hz
   have hlh := HL.out
   have hlen2 : ((pickH hs args).take k).length = k := by rw [List.length_take, pickH_len]; omega
   have z0 := h0.cell 0
   have hzl := h0.lt
   have y4 := h4.lt
   have hab : ab < wr.heap.size := World.block_lt_of_cell? wr _ hae
   have hrb : rb < wr.heap.size := World.block_lt_of_cell? wr _ hcz0
   replace hk' := Hd hk'; replace hz := Hd hz; replace hlen2 := Hd hlen2; replace ha := Hd ha; replace hO := Hd hO.out
   have h0h := Hd h0; have h1h := Hd h1; have h2h := Hd h2; have h3h := Hd h3; have h4h := Hd h4
   clear hzc h0 h1 h2 h3 h4 a1 a2
   go_wp2_with (at_builtin; go_must (refine world_gen (fun W => Blk W wr.heap.size 81 #[.slice z.1.a z.2.1.length z.1.c, .slice z.1.b z.2.2.length z.1.d] /\ Below wr.heap.size wr W) ⟨by ((with_reducible repeat first|assumption|(apply bF;focus omega)|apply bS|(apply bN;focus (simp;done))|apply bA|apply bD);all_goals rfl), by go_grown⟩ ?_); rintro w2 ⟨hr2, hw2⟩; go_must (refine wpList_append_1 (B := g4 + 1) rfl (.tmp 30) (.tmp 36) 55 rfl Tryz.underlying55 infoCo rfl (by omega) (by omega) coC_len la lc (by rw [hlen2.out]; rfl) (hO.out.below hw2) z (coC_one _) wr.heap.size 1 rfl (fun j u hu => by have e := hr2.cell j; rw [e]; simpa [coC] using hu) ((pickH hs args).take k ++ [z]) rfl (by rw [List.length_append, hlen2.out]; simp; omega) (by have := hw2.size; omega) ?_); intro la2 lc2 w3 ho3 hg3' ha3)
   have hwr2 := bth hwr hw2
   have hlt2 := hw2.size
   have hO2 := hO.out.below hw2
   have q0 := (h0h.out.below' hw2).under hO2 (by omega) hg3'; have q1 := (h1h.out.below' hw2).under hO2 (by omega) hg3'; have q2 := (h2h.out.below' hw2).under hO2 (by omega) hg3'; have q3 := (h3h.out.below' hw2).under hO2 (by omega) hg3'; have q4 := (h4h.out.below' hw2).under hO2 (by omega) hg3'
   have hb3 := below_append' hwr2 (hO2.base (show w.heap.size <= g4 + 1 by omega)) hg3'
   rw [<- take_more hk'.out] at ho3
   have hmin : min k (pickH hs args).length + 1 = k + 1 := by rw [pickH_len]; omega
   go_roundg (gk - 1)
   case rel => exact ⟨k + 1, la2, lc2, by have := hm.out; show _ = _; omega, by rw [hmin], by go_num, ho3, hb3, q0, q1, q2, q3, q4⟩
   case measure => have := hm.out; omega
  ·
   have hk : k = args.length := by have := hm.out; omega
   have hO2 := hO.out
   rw [List.take_of_length_le (by rw [pickH_len]; omega)] at hO2
   subst hk
   replace hO2 := Hd hO2
   have hR8 : Rst (Zk Z w.heap.size 5) wr B x hs ra rc va vc := (HR.out.more (zk_new (nlr _))).call hwr
   have hZ8 : ∀ b, Zk Z w.heap.size 5 b -> b < wr.heap.size := zk_lt HZ.out hwr.size (by have := h4.lt; have := hg4.out; omega)
   have hB8 : B <= wr.heap.size := by have := hwr.size; omega
   have x0 := h0.cell 0; have x1 := h0.cell 1; have k40 := h4.cell 0; have l0 := h0.lt; have l4 := h4.lt
   have n2 : ¬ Yv ra va g2 := hn0.out g2 (by omega)
   have n3 : ¬ Yv ra va g3 := hn0.out g3 (by omega)
   have e2 : Zk Z w.heap.size 5 g2 := .inr (by omega)
   have e3 : Zk Z w.heap.size 5 g3 := .inr (by omega)
   have w2 : w.heap.size <= g2 := by omega
   have w3 : w.heap.size <= g3 := by omega
   have d23 : g2 ≠ g3 := by omega
   have d32 : g3 ≠ g2 := by omega
   have h2h := Hd h2; have h3h := Hd h3; have h0h := Hd h0; have h4h := Hd h4
   replace hR8 := Hd hR8; replace hZ8 := Hd hZ8; replace n2 := Hd n2; replace n3 := Hd n3; replace e2 := Hd e2; replace e3 := Hd e3
   clear h0 h1 h2 h3 h4 hm hO
   replace H0 := H0.out; replace H1 := H1.out; replace M0 := M0.out; replace M1 := M1.out
   have k43 := held (h4h.out.cell 3); have k44 := held (h4h.out.cell 4); have k45 := held (h4h.out.cell 5)
   have hY8 : ∀ b, Yr (Zk Z w.heap.size 5) ra va b -> b < wr.heap.size := fun b hb => hb.elim (hR8.out.lt b) (hZ8.out b)
   have y0 := held x0; have y1 := held x1
   have s0 : Below wr.heap.size wr wr.drew := brf.drew
   have hql := pickH_len hs args
   obtain ⟨lb0, hla0, _, _, hc0⟩ := hO2.out.at_ coC_len H0
   have u00 := held (by simpa using hc0 0 _ rfl : wr.cell? ⟨lb0, 0, none⟩ = some (.slice qa.a a.1.length qa.c))
   have u01 := held (hc0 1 _ rfl : wr.cell? ⟨lb0, 1, none⟩ = some (.slice qa.b a.2.length qa.d))
   have b0 : 0 < args.length := by have := lt_of_get H0; omega
   have bi0 : (0 : Int) < (args.length : Int) := by omega
   have hVa := (hR8.out.all _ M0)
   replace hVa := Hd hVa
   clear hc0
   obtain ⟨lb1, hla1, _, _, hc1⟩ := hO2.out.at_ coC_len H1
   have u10 := held (by simpa using hc1 0 _ rfl : wr.cell? ⟨lb1, 2, none⟩ = some (.slice qb.a b.1.length qb.c))
   have u11 := held (hc1 1 _ rfl : wr.cell? ⟨lb1, 3, none⟩ = some (.slice qb.b b.2.length qb.d))
   have b1 : 1 < args.length := by have := lt_of_get H1; omega
   have bi1 : (1 : Int) < (args.length : Int) := by omega
   have hVb := (hR8.out.all _ M1)
   replace hVb := Hd hVb
   clear hc1
   obtain rfl : lb0 = lb1 := by rw [hla0] at hla1; injection hla1 with e; injection e
   subst hla0
   clear hla1
   have CA := fun aA cA wA (sA : Below wr.heap.size wr wA) hPA => alongR_v (Yr (Zk Z w.heap.size 5) ra va) a b (constP q) qa qb aA cA wA (fun b hb => ltl (hY8 b hb) sA.size) (hVa.out.call sA) (hVb.out.call sA) hPA FF.out.1 FF.out.2.1 (fine_constP FQ.out) FF.out.2.2.1 FF.out.2.2.2.1 FF.out.2.2.2.2.1 FF.out.2.2.2.2.2.1 FF.out.2.2.2.2.2.2
   simp only [<- hPe.out] at CA
   have CC := constR_p (Yr (Zk Z w.heap.size 5) ra va) ⟨neg, rn, na, nc, rd, da, dc⟩ q wr.drew hY8 ((FX.out.more (fun b hb => hb.elim (fun h => .inl (.inl h)) fun h => (zk_new (nlr _) b h).imp .inr id)).call (bth hwr s0)) FQ.out
   replace CA := Hd CA; replace CC := Hd CC; replace hY8 := Hd hY8
   clear x0 x1 H0 H1 M0 M1
   go_wp2
   clear k40 l0 l4
   refine wp_region_mix (S := Below wr.heap.size wr) [(0, .q), (1, .q), (2, .q), (3, .q), (4, .q), (5, .q), (6, .q), (7, .q), (8, .q), (9, .l), (10, .l), (11, .t), (12, .t)] (by kernel_rfl) (by kernel_rfl) (by kernel_rfl) (fun d _ _ _ _ h => by cases d <;> exact h) (s0) ?_
   iterate 9 (refine wpMix_q rfl rfl (fun K hK => ?_); apply Exists.intro; refine ⟨fun w' hw' => ?_, ?_⟩; (focus (go_simp; try rfl)); go_simp; refine hK _ _ ?_; clear hK K)
   refine wpMix_l rfl rfl (fun K hK => ?_)
   go_simp
   refine (CC.out).mono ?_
   rintro r wA ⟨aA, cA, rfl, hPA, hbA⟩
   dsimp only
   refine hK.out _ _ (bth s0 hbA) (fun _ => ?_)
   clear hK K
   have sA := bth s0 hbA
   refine wpMix_l rfl rfl (fun K hK => ?_)
   go_simp
   refine (CA.out aA cA wA sA hPA).mono ?_
   rintro r w9 ⟨t, rfl, hV9, hb9⟩
   dsimp only
   refine hK.out _ _ (bth sA hb9) (fun _ => ?_)
   clear hK K
   have s9 := bth sA hb9
   obtain ⟨va9, hva9⟩ : ∃ v, v = va := ⟨_, rfl⟩
   obtain ⟨vc9, hvc9⟩ : ∃ v, v = vc := ⟨_, rfl⟩
   replace hV9 : VecX (Yr (Zk Z w.heap.size 5) ra va9) w9 t V := by rw [hva9]; exact hV9
   have hR9 : Rst (Zk Z w.heap.size 5) w9 B ⟨x.vars, x.coords, x.free⟩ hs ra rc va9 vc9 := by rw [hva9, hvc9]; exact hR8.out.call s9
   have hf9 : Fr (Yv ra va) wr w9 := Fr.below s9
   have hv9 : ∀ g, va9 = some g -> va = some g \/ wr.heap.size <= g.block := fun g h => .inl (by rw [<- hva9]; exact h)
   rw [<- hva9, <- hvc9]
   replace hva9 := Hd hva9; replace hvc9 := Hd hvc9
   clear hPA hbA hb9 CA CC y0 y1 u00 u01 u10 u11 k43 k44 k45
   have h29 := h2h.out.fr hf9 n2.out
   have h39 := h3h.out.fr hf9 n3.out
   have m2 : ¬ Yv ra va9 g2 := yv_not n2.out hv9 (by have := h2h.out.lt; omega)
   have m3 : ¬ Yv ra va9 g3 := yv_not n3.out hv9 (by have := h3h.out.lt; omega)
   have k20 := h29.cell 0; have k21 := h29.cell 1; have f20 := h29.frozen 0; have f21 := h29.frozen 1; have l2 := h29.lt
   have k30 := h39.cell 0; have k31 := h39.cell 1; have f30 := h39.frozen 0; have f31 := h39.frozen 1; have l3 := h39.lt
   have hfr : Fr (Yv ra va) w w9 := (Fr.below hwr).trans hf9
   have hvv : ∀ g, va9 = some g -> va = some g \/ w.heap.size <= g.block := fun g hg => by
    have := hwr.size
    rcases hv9 g hg with e | e
    · exact .inl e
    · exact .inr (by omega)
   have h29h := Hd h29; have h39h := Hd h39
   replace hR9 := Hd hR9; replace hV9 := Hd hV9; replace hfr := Hd hfr; replace hvv := Hd hvv; replace m2 := Hd m2; replace m3 := Hd m3
   clear h29 h39 hf9 hv9
   refine wpMix_t rfl rfl (fun K hK => ?_)
   go_simp
   refine hK.out _ _ ?_
   clear hK K
   refine wpMix_t rfl rfl (fun K hK => ?_)
   go_simp
   refine hK.out _ _ ?_
   clear hK K
   refine wpMix_nil ?_
   go_wp2
   clear k20 k21 f20 f21 l2 k30 k31 f30 f31 l3
   refine world_gen (fun W => Blk W g2 58 #[.slice ra hs.length rc, .slice va9 ((x.vars, V) : List Vr × Vec).1.length vc9] /\ Blk W g3 81 #[.slice t.a ((x.vars, V) : List Vr × Vec).2.1.length t.c, .slice t.b ((x.vars, V) : List Vr × Vec).2.2.length t.d] /\ Rst Z W B ⟨((x.vars, V) : List Vr × Vec).1, x.coords, x.free⟩ hs ra rc va9 vc9 /\ VecX (Yr Z ra va9) W t ((x.vars, V) : List Vr × Vec).2 /\ Fr (Yv ra va) w W) ⟨?_, ?_, ?_, ?_, ?_⟩ ?_
   ·
    have a := h29h.out
    ((with_reducible repeat first|assumption|(apply bF;focus omega)|apply bS|(apply bN;focus (simp;done))|apply bA|apply bD);all_goals rfl)
   ·
    have a := h39h.out
    ((with_reducible repeat first|assumption|(apply bF;focus omega)|apply bS|(apply bN;focus (simp;done))|apply bA|apply bD);all_goals rfl)
   ·
    first
    | exact ((((hR9.out.set_ e2.out m2.out).set_ e2.out m2.out).set_ e3.out m3.out).set_ e3.out m3.out).less fun b hb => .inl hb
    | exact (((((hR9.out.set_ e2.out m2.out).set_ e2.out m2.out).set_ e3.out m3.out).set_ e3.out m3.out).less fun b hb => .inl hb).call (brf.drew)
   ·
    refine VecX.less (Y := Yr (Zk Z w.heap.size 5) ra va9) ?_ fun b hb => hb.imp id .inl
    exact (((hV9.out.step (Agr.setc (.inr e2.out) (Agr.refl _ _))).step (Agr.setc (.inr e2.out) (Agr.refl _ _))).step (Agr.setc (.inr e3.out) (Agr.refl _ _))).step (Agr.setc (.inr e3.out) (Agr.refl _ _))
   ·
    first
    | exact (((hfr.out.setc (.inr w2)).setc (.inr w2)).setc (.inr w3)).setc (.inr w3)
    | exact ((((hfr.out.setc (.inr w2)).setc (.inr w2)).setc (.inr w3)).setc (.inr w3)).call (brf.drew)
   rintro wZ ⟨hF1, hF2, hRZ, hVZ, hfZ⟩
   have j0 := hF1.cell 0; have j1 := hF1.cell 1; have j2 := hF2.cell 0; have j3 := hF2.cell 1
   refine bodyPost_ret (v := .tuple #[.agg #[.slice ra hs.length rc, .slice va9 ((x.vars, V) : List Vr × Vec).1.length vc9], .agg #[.slice t.a ((x.vars, V) : List Vr × Vec).2.1.length t.c, .slice t.b ((x.vars, V) : List Vr × Vec).2.2.length t.d]]) (by simp [results, Tryz.results81, go_sem, j0, j1, j2, j3]) rfl ?_
   exact ⟨va9, vc9, t, rfl, hRZ, hVZ, hfZ, hvv.out⟩
end Go.Proofs.YtdnblkklgdnapaaGreat
