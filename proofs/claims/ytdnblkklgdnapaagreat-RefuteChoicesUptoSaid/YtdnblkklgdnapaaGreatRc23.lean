/- The points that a step of the reference's frame names. No walk. -/
import Derived.Test.YtdnblkklgdnapaaGreatRc22
import Derived.Laws.EntriesVeiled
import Derived.Test.YtdnblkklgdnapaaGreatRc21
set_option linter.all false
set_option maxRecDepth 100000
set_option maxHeartbeats 4000000
namespace Go.Proofs.YtdnblkklgdnapaaGreat
open Go.RowKit
theorem step5_any (Z : Nat -> Prop) (gB : Nat) (y : Frm) (hs' : List (VQ × Vec)) (ra va : Option Addr) (rc vc : Nat) (pt : ByteArray) (aa : Option Addr) (an ac : Nat) (x : QA) (i : Int) (w : World) (hB : Bst Z w gB y hs' ra rc va vc) (hl : y.vars.length <= 800) (hZ : ∀ b, Z b -> b < w.heap.size) (args : List Int) (B : Int) (a b : Vec) (han : an = args.length) (hI : Rd (Yz Z gB ra va) w fun V => IntsR V aa ac args) (hlh : hs'.length <= 1000000)
  (H0 : Has2 args hs' 0 a) (H1 : Has2 args hs' 1 b) (fa : FineV a) (fb : FineV b) (fs : FineV (subP b.1 a.1, subP b.2 a.2)) (fv : FineP (varP y.vars.length)) (fr : FineV (mulP (subP b.1 a.1) (varP y.vars.length), mulP (subP b.2 a.2) (varP y.vars.length)))
  (k1 : Pok B (subP b.1 a.1)) (k2 : Pok B (subP b.2 a.2)) (hBB : 0 <= B) :
  Calls Tryz.prog 33 #[.pointer (some ⟨gB, 0, none⟩), .agg #[.int .i64 5, .string pt, .slice aa an ac, .bool x.neg, .slice x.a x.n x.c, .slice x.b x.m x.d], .int .i64 i] w (RetSt Z gB ⟨y.vars ++ [(1, i, 0)], y.coords, y.free⟩ (addP a.1 (mulP (subP b.1 a.1) (varP y.vars.length)), addP a.2 (mulP (subP b.2 a.2) (varP y.vars.length))) hs' ra rc va w) := by
 subst han
 obtain ⟨an, han⟩ : ∃ an, an = args.length := ⟨_, rfl⟩
 rw [<- han]
 have HI := Hd hI; replace H0 := Hd H0; replace H1 := Hd H1; replace fa := Hd fa; replace fb := Hd fb; replace fs := Hd fs; replace fr := Hd fr; replace han := Hd han; replace fv := Hd fv; replace k1 := Hd k1; replace k2 := Hd k2
 clear hI
 have HB := Hd hB
 have HZ := Hd hZ
 clear hB hZ
 go_enter Tryz.func33, Tryz.ntmps33
 go_wp2_with fail
 refine calls_gen (fun W => Blk W (w.heap.size + 1 + 1 + 1) 103 #[.func (Fn.func 55) #[] #[.pointer (some ⟨w.heap.size, 0, none⟩), .pointer (some ⟨w.heap.size + 1, 0, none⟩)]] /\ Blk W (w.heap.size + 1 + 1) 78 #[.slice none 0 0, .slice none 0 0] /\ Blk W (w.heap.size + 1) 34 #[.int .i64 5, .string pt, .slice aa an ac, .bool x.neg, .slice x.a x.n x.c, .slice x.b x.m x.d] /\ Blk W w.heap.size 72 #[.pointer (some ⟨gB, 0, none⟩)] /\ Below w.heap.size w W) ⟨Blk.newAt (by simp), (Blk.newAt (by simp)).alloc _, ((Blk.newAt (by simp)).alloc _).alloc _, (((Blk.new w _ _).alloc _).alloc _).alloc _, by go_grown⟩ ?_
 rintro w0 ⟨hF, hz, hS, he, hw0⟩
 have hw0' : Below w.heap.size w w0 := hw0
 have hB0 := (HB.out.wide (g := w.heap.size + 1 + 1) (by omega)).call hw0'
 obtain ⟨s, hs⟩ : ∃ s, s = w.heap.size + 1 := ⟨_, rfl⟩
 obtain ⟨g, hg⟩ : ∃ g, g = w.heap.size + 1 + 1 := ⟨_, rfl⟩
 obtain ⟨f, hf⟩ : ∃ f, f = w.heap.size + 1 + 1 + 1 := ⟨_, rfl⟩
 rw [<- hg] at hz hB0
 rw [<- hf] at hF
 rw [<- hs] at hS
 rw [<- hs] at hF
 try rw [<- hf]
 try rw [<- hg]
 try rw [<- hs]
 have hgw : w.heap.size <= g := by omega
 have hgl := hz.lt
 have hfl := hF.lt
 have hgf : g ≠ f := by omega
 have hge : g ≠ w.heap.size := by omega
 have hgs : g ≠ s := by omega
 have hZ0 : ∀ b, Xg Z g b -> b < w0.heap.size := Xg_lt HZ.out hw0.size hgl
 have hf0 : Fr (Yb gB ra va) w w0 := Fr.below hw0
 have hn0 : ¬ Yb gB ra va g := fun h => by have := HB.out.lt _ h; omega
 replace hs := Hd hs; replace hg := Hd hg; replace hf := Hd hf
 refine (variable_any (Xg Z g) gB y hs' ra va rc vc 1 i 0 w0 hB0 (by omega) hZ0).mono ?_
 rintro e wA ⟨va1, vc1, a3, c3, rfl, hB3, hV3, hf3, hv1⟩
 have hne : ∀ k, w.heap.size <= k -> ¬ Yb gB ra va k := fun k hk h => by have := HB.out.lt _ h; omega
 have heA := he.fr hf3 (hne _ (nlr _))
 have hSA := hS.fr hf3 (hne _ (by have := hs.out; omega))
 have hFA := hF.fr hf3 (hne _ (by have := hf.out; omega))
 have hIA := (((HI.out.call hw0).step (hf3.agr.mono fun b hb => .inl hb)) : Rd (Yz Z gB ra va) wA _).now
 have ec := heA.cell 0
 replace hB3 := Hd hB3; replace hV3 := Hd hV3; replace hf3 := Hd hf3; replace hv1 := Hd hv1; replace hIA := Hd hIA
 clear hF hS he hB0
 go_wp2_with fail
 refine calls_gen (fun W => Blk W wA.heap.size 76 #[.slice a3 (varP y.vars.length).length c3] /\ Below wA.heap.size wA W) ⟨Blk.newAt rfl, by go_grown⟩ ?_
 rintro wC ⟨hP, hbC⟩
 have hBC := hB3.out.call hbC
 have hVC := hV3.out.call hbC
 have heC := heA.below' hbC
 have hSC := hSA.below' hbC
 have hFC := hFA.below' hbC
 have hIC := hIA.out.ext (xbw hbC)
 have hlA := hf3.out.size
 have hX0 : ∀ b, Yz (Xg Z g) gB ra va1 b -> b < wC.heap.size := fun b hb => hb.elim (hBC.lt b) fun h => ltl (hZ0 b h) (Nat.le_trans hlA hbC.size)
 obtain ⟨j0, q0, i0, m0⟩ := H0.out
 obtain ⟨j1, q1, i1, m1⟩ := H1.out
 have c2 := hSC.cell 2
 have A0 := atC_of hBC (heC.cell 0) (by rw [<- han.out]; exact c2) hIC hlh i0 m0
 have A1 := atC_of hBC (heC.cell 0) (by rw [<- han.out]; exact c2) hIC hlh i1 m1
 have OP : ∀ p : List Tm, FineP p -> Pok B p -> OpC (Yz (Xg Z g) gB ra va1) wC 66 #[.pointer (some ⟨wA.heap.size, 0, none⟩)] p (mulP p (varP y.vars.length)) := fun p fp kp Y W a c e1 e2 hW hp =>
  mulC_v Y p (varP y.vars.length) B 1 a a3 c c3 wA.heap.size W e2 hp ((hVC.more e1).call hW) fp fv.out (varP_len _) kp (varP_ok (Int.le_refl _)) hBB (by omega) (held (hP.cell 0) W hW)
 refine (along4_v (Yz (Xg Z g) gB ra va1) w.heap.size s f wA.heap.size a b (mulP (subP b.1 a.1) (varP y.vars.length)) (mulP (subP b.2 a.2) (varP y.vars.length)) wC hX0 A0 A1 (hFC.cell 0) (OP _ fs.out.1 k1.out) (OP _ fs.out.2 k2.out) fa.out fb.out fr.out.1 fr.out.2).mono ?_
 rintro e w1 ⟨t, rfl, hV1, hb⟩
 have hf1 : Fr (Yb gB ra va) w0 w1 := (hf3.out.call hbC).call hb
 have hB1 := hBC.call hb
 have hv1 := hv1.out
 have hB0 := hB1
 clear A0 A1 OP c2 hX0 hb hBC hVC heC hSC hFC hIC heA hSA hFA hP hbC ec
 generalize hPP : (addP a.1 (mulP (subP b.1 a.1) (varP y.vars.length)), addP a.2 (mulP (subP b.2 a.2) (varP y.vars.length))) = P at hV1
 replace hPP := Hd hPP
 have hn2 : ¬ Yb gB ra va1 g := yb_not hn0 hv1 hgl
 have hz1 := hz.fr hf1 hn0
 have hfr : Fr (Yb gB ra va) w w1 := hf0.trans hf1
 have hvv : ∀ g, va1 = some g -> va = some g \/ w.heap.size <= g.block := fun g hg => by
  rcases hv1 g hg with e | e
  · exact .inl e
  · have := hw0.size; exact .inr (by omega)
 have y0 := hz1.cell 0; have y1 := hz1.cell 1; have g0 := hz1.frozen 0; have g1 := hz1.frozen 1
 replace hV1 := Hd hV1; replace hB1 := Hd hB1; replace hvv := Hd hvv; replace hfr := Hd hfr; replace hn2 := Hd hn2
 have hz2 := Hd hz1
 clear hf0 hf1 hv1 hz hB0 hz1
 go_wp2
 refine world_gen (fun W => Blk W g 78 #[.slice t.a P.1.length t.c, .slice t.b P.2.length t.d] /\ Bst Z W gB ⟨y.vars ++ [(1, i, 0)], y.coords, y.free⟩ hs' ra rc va1 vc1 /\ VecX (Yz Z gB ra va1) W t P /\ Fr (Yb gB ra va) w W) ⟨?_, ((hB1.out.far hn2.out).far hn2.out).less, (vec_far (vec_far hV1.out (.inr (.inr rfl))) (.inr (.inr rfl))).less yz_less, (hfr.out.setc (.inr hgw)).setc (.inr hgw)⟩ ?_
 ·
  have hz2' := hz2.out
  ((with_reducible repeat first|assumption|(apply bF;focus omega)|apply bS|(apply bN;focus (simp;done))|apply bA|apply bD);all_goals rfl)
 rintro w4 ⟨hF4, hB4, hV4, hf4⟩
 have e0 := hF4.cell 0; have e1 := hF4.cell 1
 refine bodyPost_ret (v := .agg #[.slice t.a P.1.length t.c, .slice t.b P.2.length t.d]) (by simp [results, Tryz.results33, go_sem, e0, e1]) rfl ?_
 rw [hPP.out]
 exact ⟨va1, vc1, t, rfl, hB4, hV4, hf4, hvv.out⟩
theorem step3_any (Z : Nat -> Prop) (gB : Nat) (y : Frm) (hs' : List (VQ × Vec)) (ra va : Option Addr) (rc vc : Nat) (pt : ByteArray) (aa : Option Addr) (an ac : Nat) (x : QA) (i : Int) (w : World) (hB : Bst Z w gB y hs' ra rc va vc) (hl : y.vars.length <= 800) (hZ : ∀ b, Z b -> b < w.heap.size) (args : List Int) (a b c : Vec) (han : an = args.length) (hI : Rd (Yz Z gB ra va) w fun V => IntsR V aa ac args) (hlh : hs'.length <= 1000000)
  (H0 : Has2 args hs' 0 a) (H1 : Has2 args hs' 1 b) (H2 : Has2 args hs' 2 c) (fa : FineV a) (fb : FineV b) (fc : FineV c) (fs : FineV (subP c.1 b.1, subP c.2 b.2)) :
  Calls Tryz.prog 33 #[.pointer (some ⟨gB, 0, none⟩), .agg #[.int .i64 3, .string pt, .slice aa an ac, .bool x.neg, .slice x.a x.n x.c, .slice x.b x.m x.d], .int .i64 i] w (RetSt Z gB y (addP a.1 (subP c.1 b.1), addP a.2 (subP c.2 b.2)) hs' ra rc va w) := by
 subst han
 obtain ⟨an, han⟩ : ∃ an, an = args.length := ⟨_, rfl⟩
 rw [<- han]
 have HI := Hd hI; replace H0 := Hd H0; replace H1 := Hd H1; replace H2 := Hd H2; replace fa := Hd fa; replace fb := Hd fb; replace fc := Hd fc; replace fs := Hd fs; replace han := Hd han
 clear hI
 have HB := Hd hB
 have HZ := Hd hZ
 clear hB hZ
 go_enter Tryz.func33, Tryz.ntmps33
 go_wp2
 refine world_gen (fun W => Blk W (w.heap.size + 1 + 1 + 1) 103 #[.func (Fn.func 55) #[] #[.pointer (some ⟨w.heap.size, 0, none⟩), .pointer (some ⟨w.heap.size + 1, 0, none⟩)]] /\ Blk W (w.heap.size + 1 + 1) 78 #[.slice none 0 0, .slice none 0 0] /\ Blk W (w.heap.size + 1) 34 #[.int .i64 3, .string pt, .slice aa an ac, .bool x.neg, .slice x.a x.n x.c, .slice x.b x.m x.d] /\ Blk W w.heap.size 72 #[.pointer (some ⟨gB, 0, none⟩)] /\ Below w.heap.size w W) ⟨Blk.newAt (by simp), (Blk.newAt (by simp)).alloc _, ((Blk.newAt (by simp)).alloc _).alloc _, (((Blk.new w _ _).alloc _).alloc _).alloc _, by go_grown⟩ ?_
 rintro w0 ⟨hF, hz, hS, he, hw0⟩
 have hw0' : Below w.heap.size w w0 := hw0
 have hB0 := (HB.out.wide (g := w.heap.size + 1 + 1) (by omega)).call hw0'
 obtain ⟨s, hs⟩ : ∃ s, s = w.heap.size + 1 := ⟨_, rfl⟩
 obtain ⟨g, hg⟩ : ∃ g, g = w.heap.size + 1 + 1 := ⟨_, rfl⟩
 obtain ⟨f, hf⟩ : ∃ f, f = w.heap.size + 1 + 1 + 1 := ⟨_, rfl⟩
 rw [<- hg] at hz hB0
 rw [<- hf] at hF
 rw [<- hs] at hS
 rw [<- hs] at hF
 try rw [<- hf]
 try rw [<- hg]
 try rw [<- hs]
 have hgw : w.heap.size <= g := by omega
 have hgl := hz.lt
 have hfl := hF.lt
 have hgf : g ≠ f := by omega
 have hge : g ≠ w.heap.size := by omega
 have hgs : g ≠ s := by omega
 have hZ0 : ∀ b, Xg Z g b -> b < w0.heap.size := Xg_lt HZ.out hw0.size hgl
 have hf0 : Fr (Yb gB ra va) w w0 := Fr.below hw0
 have hn0 : ¬ Yb gB ra va g := fun h => by have := HB.out.lt _ h; omega
 replace hs := Hd hs; replace hg := Hd hg; replace hf := Hd hf
 have hX0 : ∀ b, Yz (Xg Z g) gB ra va b -> b < w0.heap.size := fun b hb => hb.elim (hB0.lt b) (hZ0 b)
 obtain ⟨j0, q0, i0, m0⟩ := H0.out
 obtain ⟨j1, q1, i1, m1⟩ := H1.out
 obtain ⟨j2, q2, i2, m2⟩ := H2.out
 have c2 := hS.cell 2
 have hI0 := (HI.out.call hw0).now
 have A0 := atC_of hB0 (he.cell 0) (by rw [<- han.out]; exact c2) hI0 hlh i0 m0
 have A1 := atC_of hB0 (he.cell 0) (by rw [<- han.out]; exact c2) hI0 hlh i1 m1
 have A2 := atC_of hB0 (he.cell 0) (by rw [<- han.out]; exact c2) hI0 hlh i2 m2
 have d0 := held (hF.cell 0)
 have s0 : Below w0.heap.size w0 w0.drew := brf.drew
 obtain ⟨X, hX⟩ : ∃ X, X = Yz (Xg Z g) gB ra va := ⟨_, rfl⟩
 rw [<- hX] at A0 A1 A2 hX0
 replace A0 := Hd A0; replace A1 := Hd A1; replace A2 := Hd A2; replace hX0 := Hd hX0; replace hX := Hd hX; replace hB0 := Hd hB0
 clear hI0 hS he hF c2
 obtain ⟨v0, hv0⟩ : ∃ v, w0.drew = v := ⟨_, rfl⟩
 refine wp_region_mix (S := Below w0.heap.size w0) [(0, .q), (3, .q), (5, .q), (1, .l), (2, .l), (4, .l), (6, .t), (7, .t), (8, .t), (9, .t)] (by kernel_rfl) (by kernel_rfl) (by kernel_rfl) (fun d _ _ _ _ h => by cases d <;> exact h) (s0) ?_
 rw [hv0] at s0 ⊢
 iterate 3 (refine wpMix_q rfl rfl (fun K hK => ?_); apply Exists.intro; refine ⟨fun w' hw' => ?_, ?_⟩; (focus (go_simp; try rfl)); go_simp; refine hK _ _ ?_; clear hK K)
 refine wpMix_l rfl rfl (fun K hK => ?_)
 go_simp
 refine (A0.out X v0 (fun b h => .inl h) (fun b hb => ltl (hX0.out b hb) (s0).size) s0).mono ?_
 rintro r w2 ⟨ta, rfl, Va, hb⟩
 dsimp only
 refine hK.out _ _ (bth s0 hb) (fun _ => ?_)
 clear hK K
 have s1 := bth s0 hb
 replace Va := Hd Va
 clear hb
 refine wpMix_l rfl rfl (fun K hK => ?_)
 go_simp
 refine (vof_any ta.a ta.b a.1.length ta.c a.2.length ta.d _).mono ?_
 rintro r w3 ⟨rfl, hb⟩
 dsimp only
 refine hK.out _ _ (bth s1 hb) (fun _ => ?_)
 clear hK K
 have s2 := bth s1 hb
 replace Va := Hd (Va.out.call hb)
 clear hb
 refine wpMix_l rfl rfl (fun K hK => ?_)
 go_simp
 refine (A1.out X _ (fun b h => .inl h) (fun b hb => ltl (hX0.out b hb) (s2).size) s2).mono ?_
 rintro r w4 ⟨tb, rfl, Vb, hb⟩
 dsimp only
 refine hK.out _ _ (bth s2 hb) (fun _ => ?_)
 clear hK K
 have s3 := bth s2 hb
 replace Va := Hd (Va.out.call hb); replace Vb := Hd Vb
 clear hb
 refine wpMix_t rfl rfl (fun K hK => ?_)
 go_simp
 refine (A2.out X _ (fun b h => .inl h) (fun b hb => ltl (hX0.out b hb) (s3).size) s3).mono ?_
 rintro r w5 ⟨tc, rfl, Vc, hb⟩
 dsimp only
 refine hK.out _ _ ?_
 clear hK K
 have s4 := bth s3 hb
 replace Va := Hd (Va.out.call hb); replace Vb := Hd (Vb.out.call hb); replace Vc := Hd Vc
 clear hb
 refine wpMix_t rfl rfl (fun K hK => ?_)
 go_simp
 refine (between_v X b c tb tc _ (fun b hb => ltl (hX0.out b hb) (s4).size) Vb.out Vc.out fb.out fc.out).mono ?_
 rintro r w6 ⟨td, rfl, Vd, hb⟩
 dsimp only
 refine hK.out _ _ ?_
 clear hK K
 have s5 := bth s4 hb
 replace Va := Hd (Va.out.call hb); replace Vd := Hd Vd
 clear hb
 refine wpMix_t rfl rfl (fun K hK => ?_)
 go_simp
 refine (combineAdd_v X a (subP c.1 b.1, subP c.2 b.2) (addP a.1 (subP c.1 b.1)) (addP a.2 (subP c.2 b.2)) ta td w6 (fun b hb => ltl (hX0.out b hb) (s5).size) (forAdd X a.1 (subP c.1 b.1) ta.a td.a ta.c td.c _ Va.out.1 Vd.out.1 fa.out.1 fs.out.1) (forAdd X a.2 (subP c.2 b.2) ta.b td.b ta.d td.d _ Va.out.2 Vd.out.2 fa.out.2 fs.out.2)).mono ?_
 rintro r w1 ⟨t, rfl, hV1, hb⟩
 dsimp only
 refine hK.out _ _ ?_
 clear hK K
 have s6 := bth s5 hb
 have hf1 : Fr (Yb gB ra va) w0 w1 := Fr.below s6
 have hv1 : ∀ g, va = some g -> va = some g \/ w0.heap.size <= g.block := fun g h => .inl h
 have hB1 := hB0.out.call s6
 obtain ⟨va1, hva1⟩ : ∃ v, v = va := ⟨_, rfl⟩
 obtain ⟨vc1, hvc1⟩ : ∃ v, v = vc := ⟨_, rfl⟩
 have hv1 : ∀ g, va1 = some g -> va = some g \/ w0.heap.size <= g.block := by rw [hva1]; exact hv1
 rw [<- hva1, <- hvc1] at hB1
 replace hV1 : VecX (Yz (Xg Z g) gB ra va1) w1 t (addP a.1 (subP c.1 b.1), addP a.2 (subP c.2 b.2)) := by rw [hva1, <- hX.out]; exact hV1
 clear A0 A1 A2 Va Vb Vc Vd hb hva1 hvc1 d0 s1 s2 s3 s4 s5
 generalize hPP : (addP a.1 (subP c.1 b.1), addP a.2 (subP c.2 b.2)) = P at hV1
 replace hPP := Hd hPP
 have hn2 : ¬ Yb gB ra va1 g := yb_not hn0 hv1 hgl
 have hz1 := hz.fr hf1 hn0
 have hfr : Fr (Yb gB ra va) w w1 := hf0.trans hf1
 have hvv : ∀ g, va1 = some g -> va = some g \/ w.heap.size <= g.block := fun g hg => by
  rcases hv1 g hg with e | e
  · exact .inl e
  · have := hw0.size; exact .inr (by omega)
 have y0 := hz1.cell 0; have y1 := hz1.cell 1; have g0 := hz1.frozen 0; have g1 := hz1.frozen 1
 replace hV1 := Hd hV1; replace hB1 := Hd hB1; replace hvv := Hd hvv; replace hfr := Hd hfr; replace hn2 := Hd hn2
 have hz2 := Hd hz1
 clear hf0 hf1 hv1 hz hB0 hz1
 have ep := hPP.out
 have ep1 : addP a.1 (subP c.1 b.1) = P.1 := by rw [<- ep]
 have ep2 : addP a.2 (subP c.2 b.2) = P.2 := by rw [<- ep]
 clear ep
 try rw [ep1, ep2]
 refine wpMix_t rfl rfl (fun K hK => ?_)
 go_simp
 refine hK.out _ _ ?_
 clear hK K
 refine wpMix_nil ?_
 go_wp2
 refine world_gen (fun W => Blk W g 78 #[.slice t.a P.1.length t.c, .slice t.b P.2.length t.d] /\ Bst Z W gB y hs' ra rc va1 vc1 /\ VecX (Yz Z gB ra va1) W t P /\ Fr (Yb gB ra va) w W) ⟨?_, ((hB1.out.far hn2.out).far hn2.out).less, (vec_far (vec_far hV1.out (.inr (.inr rfl))) (.inr (.inr rfl))).less yz_less, (hfr.out.setc (.inr hgw)).setc (.inr hgw)⟩ ?_
 ·
  have hz2' := hz2.out
  ((with_reducible repeat first|assumption|(apply bF;focus omega)|apply bS|(apply bN;focus (simp;done))|apply bA|apply bD);all_goals rfl)
 rintro w4 ⟨hF4, hB4, hV4, hf4⟩
 have e0 := hF4.cell 0; have e1 := hF4.cell 1
 refine bodyPost_ret (v := .agg #[.slice t.a P.1.length t.c, .slice t.b P.2.length t.d]) (by simp [results, Tryz.results33, go_sem, e0, e1]) rfl ?_
 rw [hPP.out]
 exact ⟨va1, vc1, t, rfl, hB4, hV4, hf4, hvv.out⟩
theorem step4_any (Z : Nat -> Prop) (gB : Nat) (y : Frm) (hs' : List (VQ × Vec)) (ra va : Option Addr) (rc vc : Nat) (pt : ByteArray) (aa : Option Addr) (an ac : Nat) (x : QA) (i : Int) (w : World) (hB : Bst Z w gB y hs' ra rc va vc) (hl : y.vars.length <= 800) (hZ : ∀ b, Z b -> b < w.heap.size) (args : List Int) (a b c : Vec) (han : an = args.length) (hI : Rd (Yz Z gB ra va) w fun V => IntsR V aa ac args) (hlh : hs'.length <= 1000000)
  (H0 : Has2 args hs' 0 a) (H1 : Has2 args hs' 1 b) (H2 : Has2 args hs' 2 c) (fa : FineV a) (fb : FineV b) (fc : FineV c) (fs : FineV (subP c.1 b.1, subP c.2 b.2)) :
  Calls Tryz.prog 33 #[.pointer (some ⟨gB, 0, none⟩), .agg #[.int .i64 4, .string pt, .slice aa an ac, .bool x.neg, .slice x.a x.n x.c, .slice x.b x.m x.d], .int .i64 i] w (RetSt Z gB y (addP a.1 (negP (subP c.2 b.2)), addP a.2 (subP c.1 b.1)) hs' ra rc va w) := by
 subst han
 obtain ⟨an, han⟩ : ∃ an, an = args.length := ⟨_, rfl⟩
 rw [<- han]
 have HI := Hd hI; replace H0 := Hd H0; replace H1 := Hd H1; replace H2 := Hd H2; replace fa := Hd fa; replace fb := Hd fb; replace fc := Hd fc; replace fs := Hd fs; replace han := Hd han
 clear hI
 have HB := Hd hB
 have HZ := Hd hZ
 clear hB hZ
 go_enter Tryz.func33, Tryz.ntmps33
 go_wp2
 refine world_gen (fun W => Blk W (w.heap.size + 1 + 1 + 1) 103 #[.func (Fn.func 55) #[] #[.pointer (some ⟨w.heap.size, 0, none⟩), .pointer (some ⟨w.heap.size + 1, 0, none⟩)]] /\ Blk W (w.heap.size + 1 + 1) 78 #[.slice none 0 0, .slice none 0 0] /\ Blk W (w.heap.size + 1) 34 #[.int .i64 4, .string pt, .slice aa an ac, .bool x.neg, .slice x.a x.n x.c, .slice x.b x.m x.d] /\ Blk W w.heap.size 72 #[.pointer (some ⟨gB, 0, none⟩)] /\ Below w.heap.size w W) ⟨Blk.newAt (by simp), (Blk.newAt (by simp)).alloc _, ((Blk.newAt (by simp)).alloc _).alloc _, (((Blk.new w _ _).alloc _).alloc _).alloc _, by go_grown⟩ ?_
 rintro w0 ⟨hF, hz, hS, he, hw0⟩
 have hw0' : Below w.heap.size w w0 := hw0
 have hB0 := (HB.out.wide (g := w.heap.size + 1 + 1) (by omega)).call hw0'
 obtain ⟨s, hs⟩ : ∃ s, s = w.heap.size + 1 := ⟨_, rfl⟩
 obtain ⟨g, hg⟩ : ∃ g, g = w.heap.size + 1 + 1 := ⟨_, rfl⟩
 obtain ⟨f, hf⟩ : ∃ f, f = w.heap.size + 1 + 1 + 1 := ⟨_, rfl⟩
 rw [<- hg] at hz hB0
 rw [<- hf] at hF
 rw [<- hs] at hS
 rw [<- hs] at hF
 try rw [<- hf]
 try rw [<- hg]
 try rw [<- hs]
 have hgw : w.heap.size <= g := by omega
 have hgl := hz.lt
 have hfl := hF.lt
 have hgf : g ≠ f := by omega
 have hge : g ≠ w.heap.size := by omega
 have hgs : g ≠ s := by omega
 have hZ0 : ∀ b, Xg Z g b -> b < w0.heap.size := Xg_lt HZ.out hw0.size hgl
 have hf0 : Fr (Yb gB ra va) w w0 := Fr.below hw0
 have hn0 : ¬ Yb gB ra va g := fun h => by have := HB.out.lt _ h; omega
 replace hs := Hd hs; replace hg := Hd hg; replace hf := Hd hf
 have hX0 : ∀ b, Yz (Xg Z g) gB ra va b -> b < w0.heap.size := fun b hb => hb.elim (hB0.lt b) (hZ0 b)
 obtain ⟨j0, q0, i0, m0⟩ := H0.out
 obtain ⟨j1, q1, i1, m1⟩ := H1.out
 obtain ⟨j2, q2, i2, m2⟩ := H2.out
 have c2 := hS.cell 2
 have hI0 := (HI.out.call hw0).now
 have A0 := atC_of hB0 (he.cell 0) (by rw [<- han.out]; exact c2) hI0 hlh i0 m0
 have A1 := atC_of hB0 (he.cell 0) (by rw [<- han.out]; exact c2) hI0 hlh i1 m1
 have A2 := atC_of hB0 (he.cell 0) (by rw [<- han.out]; exact c2) hI0 hlh i2 m2
 have hFc := Hd (show ∀ n : Nat, w0.cell? ⟨f, 0, none⟩ = some (.func (Fn.func 55) #[] #[.pointer (some ⟨w.heap.size, 0, none⟩), .pointer (some ⟨s, 0, none⟩)]) from fun _ => hF.cell 0)
 have d0 := held (hF.cell 0)
 have s0 : Below w0.heap.size w0 w0.drew := brf.drew
 obtain ⟨X, hX⟩ : ∃ X, X = Yz (Xg Z g) gB ra va := ⟨_, rfl⟩
 rw [<- hX] at A0 A1 A2 hX0
 replace A0 := Hd A0; replace A1 := Hd A1; replace A2 := Hd A2; replace hX0 := Hd hX0; replace hX := Hd hX; replace hB0 := Hd hB0
 clear hI0 hS he hF c2
 have hr0 : Below w0.heap.size w0 w0 := Below.refl _ _
 have hY1 : Hid (∀ b, Xg X g b -> X b \/ w0.heap.size <= b) := Hd fun b hb => hb.elim .inl fun e => .inl (by rw [hX.out, e]; exact .inr (.inr rfl))
 have hY2 : Hid (∀ b, Xg X g b -> b < w0.heap.size) := Hd fun b hb => hb.elim (hX0.out b) fun e => by rw [e]; exact hgl
 obtain ⟨d, hd⟩ : ∃ d : Vec, d = (subP c.1 b.1, subP c.2 b.2) := ⟨_, rfl⟩
 have CB := fun (Y : Nat -> Prop) (t1 t2 : VQ) W h1 h2 h3 => between_v Y b c t1 t2 W h1 h2 h3 fb.out fc.out
 have hfd := fs.out
 rw [<- hd] at CB hfd
 replace CB := Hd CB; replace hd := Hd hd; replace hfd := Hd hfd
 refine wp_mono (Q := fun xx a' W => xx = .normal /\ (∃ (z : VQ) (gC : Nat) (u38 u39 u40 u41 u42 : Value), a' = ⟨#[.pointer (some ⟨gB, 0, none⟩), .agg #[.int .i64 4, .string pt, .slice aa an ac, .bool x.neg, .slice x.a x.n x.c, .slice x.b x.m x.d], .int .i64 i, .pointer (some ⟨w.heap.size, 0, none⟩), .pointer (some ⟨s, 0, none⟩), undef, .pointer (some ⟨g, 0, none⟩), .pointer (some ⟨f, 0, none⟩), .func (Fn.func 56) #[] #[.pointer (some ⟨f, 0, none⟩)], .pointer (some ⟨gC, 0, none⟩), undef, .func (Fn.func 55) #[] #[.pointer (some ⟨w.heap.size, 0, none⟩), .pointer (some ⟨s, 0, none⟩)], .func (Fn.func 56) #[] #[.pointer (some ⟨f, 0, none⟩)], .pointer (some ⟨s, 0, none⟩), .int .i64 4, .bool false, .bool false, undef, undef, undef, .bool false, .bool false, undef, undef, undef, .bool false, .bool false, undef, undef, undef, undef, undef, undef, undef, undef, undef, .bool true, .bool true, u38, u39, u40, u41, u42, undef, undef, undef, undef, undef, undef, undef, undef, undef, undef, undef, undef, undef, undef, undef, undef, undef, undef, undef, undef, undef, undef, undef, undef, undef, undef, undef, undef, undef], []⟩ /\ Below w0.heap.size w0 W /\ Blk W gC 78 #[.slice z.a d.1.length z.c, .slice z.b d.2.length z.d] /\ VecX (Xg X g) W z d)) ?_ ?_
 ·
  skip
  obtain ⟨v0, hv0⟩ : ∃ v, w0.drew = v := ⟨_, rfl⟩
  refine wp_region_tree (S := Below w0.heap.size w0) (.q 0 (.q 2 (.two 1 (.two 3 (.two 4 (.l 5 (.t 6 .nil)) 5 (.l 4 (.t 6 .nil))) 5 (.l 3 (.l 4 (.t 6 .nil)))) 5 (.l 1 (.l 3 (.l 4 (.t 6 .nil))))))) [6] (by kernel_rfl) (by kernel_rfl) (by kernel_rfl) (fun d _ _ _ _ h => by cases h.1) s0 ?_
  rw [hv0] at s0 ⊢
  iterate 2 (refine wpMT_q rfl rfl (fun K hK => ?_); apply Exists.intro; refine ⟨fun w' hw' => ?_, ?_⟩; (focus (go_simp; try rfl)); go_simp; refine hK _ _ ?_; clear hK K)
  refine wpMT_two ?_ ?_
  ·
   skip
   refine wpMT_l rfl rfl (fun K hK => ?_)
   go_simp
   refine (A1.out (Xg X g) v0 hY1.out (fun b hb => ltl (hY2.out b hb) (s0).size) (bth hr0 s0)).mono ?_
   rintro r v1 ⟨t1, rfl, V1, hb⟩
   dsimp only
   have s1 := bth s0 hb
   refine hK.out _ _ s1 (fun _ => ?_)
   clear hK K
   replace V1 := Hd V1
   clear hb
   refine wpMT_two ?_ ?_
   ·
    skip
    refine wpMT_l rfl rfl (fun K hK => ?_)
    go_simp
    refine (A2.out (Xg X g) v1 hY1.out (fun b hb => ltl (hY2.out b hb) (s1).size) (bth hr0 s1)).mono ?_
    rintro r v2 ⟨t2, rfl, V2, hb⟩
    dsimp only
    have s2 := bth s1 hb
    refine hK.out _ _ s2 (fun _ => ?_)
    clear hK K
    replace V1 := Hd (V1.out.call hb)
    replace V2 := Hd V2
    clear hb
    refine wpMT_two ?_ ?_
    ·
     skip
     refine wpMT_l rfl rfl (fun K hK => ?_)
     go_simp
     refine (CB.out (Xg X g) t1 t2 v2 (fun b hb => ltl (hY2.out b hb) (s2).size) V1.out V2.out).mono ?_
     rintro r v3 ⟨z, rfl, P, hb⟩
     dsimp only
     have s3 := bth s2 hb
     refine hK.out _ _ s3 (fun _ => ?_)
     clear hK K
     clear V1 V2
     replace P := Hd P
     clear hb
     refine wpMT_l rfl rfl (fun K hK => ?_)
     go_simp
     refine hK.out _ _ (s3.alloc s3.size _) (fun _ => ?_)
     clear hK K
     refine world_gen (fun W => Blk W v3.heap.size 78 #[.slice none 0 0, .slice none 0 0] /\ Below w0.heap.size w0 W /\ VecX (Xg (Xg X g) v3.heap.size) W z d) ⟨by ((with_reducible repeat first|assumption|(apply bF;focus omega)|apply bS|(apply bN;focus (simp;done))|apply bA|apply bD);all_goals rfl), s3.alloc s3.size _, (P.out.more (Xg_new (nlr _))).call (brf.alloc (nlr _) _)⟩ ?_
     rintro v4 ⟨hC, s4, P⟩
     have hgC := Hd (show w0.heap.size <= v3.heap.size from s3.size)
     obtain ⟨gC, egC⟩ : ∃ q, v3.heap.size = q := ⟨_, rfl⟩
     rw [egC] at hC hgC P ⊢
     replace egC := Hd egC
     replace P := Hd P
     have y0 := hC.cell 0; have f0 := hC.frozen 0; have y1 := hC.cell 1; have f1 := hC.frozen 1
     have hgl := Hd hC.lt
     refine wpMT_t rfl rfl (fun K hK => ?_)
     go_simp
     refine hK.out _ _ ?_
     clear hK K
     refine wpMT_nil ?_
     refine ⟨rfl, z, gC, _, _, _, _, _, rfl, (s4.setCell hgC.out _).setCell hgC.out _, by ((with_reducible repeat first|assumption|(apply bF;focus omega)|apply bS|(apply bN;focus (simp;done))|apply bA|apply bD);all_goals rfl), ?_⟩
     exact (vec_far (vec_far P.out (.inr rfl)) (.inr rfl)).less fun b hb => .inl hb
    ·
     skip
     refine wpMT_l rfl rfl (fun K hK => ?_)
     go_simp
     refine hK.out _ _ (s2.alloc s2.size _) (fun _ => ?_)
     clear hK K
     refine world_gen (fun W => Blk W v2.heap.size 78 #[.slice none 0 0, .slice none 0 0] /\ Below w0.heap.size w0 W /\ VecX (Xg (Xg X g) v2.heap.size) W t1 b /\ VecX (Xg (Xg X g) v2.heap.size) W t2 c) ⟨by ((with_reducible repeat first|assumption|(apply bF;focus omega)|apply bS|(apply bN;focus (simp;done))|apply bA|apply bD);all_goals rfl), s2.alloc s2.size _, (V1.out.more (Xg_new (nlr _))).call (brf.alloc (nlr _) _), (V2.out.more (Xg_new (nlr _))).call (brf.alloc (nlr _) _)⟩ ?_
     rintro v3 ⟨hC, s3, V1, V2⟩
     have hgC := Hd (show w0.heap.size <= v2.heap.size from s2.size)
     obtain ⟨gC, egC⟩ : ∃ q, v2.heap.size = q := ⟨_, rfl⟩
     rw [egC] at hC hgC V1 V2 ⊢
     replace egC := Hd egC
     replace V1 := Hd V1
     replace V2 := Hd V2
     refine wpMT_l rfl rfl (fun K hK => ?_)
     go_simp
     refine (CB.out (Xg (Xg X g) gC) t1 t2 v3 (fun b hb => hb.elim (fun h => ltl (hY2.out b h) (s3).size) fun e => by rw [e]; exact hC.lt) V1.out V2.out).mono ?_
     rintro r v4 ⟨z, rfl, P, hb⟩
     dsimp only
     have s4 := bth s3 hb
     refine hK.out _ _ s4 (fun _ => ?_)
     clear hK K
     replace hC := hC.below' hb
     clear V1 V2
     replace P := Hd P
     clear hb
     have y0 := hC.cell 0; have f0 := hC.frozen 0; have y1 := hC.cell 1; have f1 := hC.frozen 1
     have hgl := Hd hC.lt
     refine wpMT_t rfl rfl (fun K hK => ?_)
     go_simp
     refine hK.out _ _ ?_
     clear hK K
     refine wpMT_nil ?_
     refine ⟨rfl, z, gC, _, _, _, _, _, rfl, (s4.setCell hgC.out _).setCell hgC.out _, by ((with_reducible repeat first|assumption|(apply bF;focus omega)|apply bS|(apply bN;focus (simp;done))|apply bA|apply bD);all_goals rfl), ?_⟩
     exact (vec_far (vec_far P.out (.inr rfl)) (.inr rfl)).less fun b hb => .inl hb
   ·
    skip
    refine wpMT_l rfl rfl (fun K hK => ?_)
    go_simp
    refine hK.out _ _ (s1.alloc s1.size _) (fun _ => ?_)
    clear hK K
    refine world_gen (fun W => Blk W v1.heap.size 78 #[.slice none 0 0, .slice none 0 0] /\ Below w0.heap.size w0 W /\ VecX (Xg (Xg X g) v1.heap.size) W t1 b) ⟨by ((with_reducible repeat first|assumption|(apply bF;focus omega)|apply bS|(apply bN;focus (simp;done))|apply bA|apply bD);all_goals rfl), s1.alloc s1.size _, (V1.out.more (Xg_new (nlr _))).call (brf.alloc (nlr _) _)⟩ ?_
    rintro v2 ⟨hC, s2, V1⟩
    have hgC := Hd (show w0.heap.size <= v1.heap.size from s1.size)
    obtain ⟨gC, egC⟩ : ∃ q, v1.heap.size = q := ⟨_, rfl⟩
    rw [egC] at hC hgC V1 ⊢
    replace egC := Hd egC
    replace V1 := Hd V1
    refine wpMT_l rfl rfl (fun K hK => ?_)
    go_simp
    refine (A2.out (Xg (Xg X g) gC) v2 (fun b hb => hb.elim (hY1.out b) fun e => .inr (by have := hgC.out; have := hr0.size; rw [e]; omega)) (fun b hb => hb.elim (fun h => ltl (hY2.out b h) (s2).size) fun e => by rw [e]; exact hC.lt) (bth hr0 s2)).mono ?_
    rintro r v3 ⟨t2, rfl, V2, hb⟩
    dsimp only
    have s3 := bth s2 hb
    refine hK.out _ _ s3 (fun _ => ?_)
    clear hK K
    replace hC := hC.below' hb
    replace V1 := Hd (V1.out.call hb)
    replace V2 := Hd V2
    clear hb
    refine wpMT_l rfl rfl (fun K hK => ?_)
    go_simp
    refine (CB.out (Xg (Xg X g) gC) t1 t2 v3 (fun b hb => hb.elim (fun h => ltl (hY2.out b h) (s3).size) fun e => by rw [e]; exact hC.lt) V1.out V2.out).mono ?_
    rintro r v4 ⟨z, rfl, P, hb⟩
    dsimp only
    have s4 := bth s3 hb
    refine hK.out _ _ s4 (fun _ => ?_)
    clear hK K
    replace hC := hC.below' hb
    clear V1 V2
    replace P := Hd P
    clear hb
    have y0 := hC.cell 0; have f0 := hC.frozen 0; have y1 := hC.cell 1; have f1 := hC.frozen 1
    have hgl := Hd hC.lt
    refine wpMT_t rfl rfl (fun K hK => ?_)
    go_simp
    refine hK.out _ _ ?_
    clear hK K
    refine wpMT_nil ?_
    refine ⟨rfl, z, gC, _, _, _, _, _, rfl, (s4.setCell hgC.out _).setCell hgC.out _, by ((with_reducible repeat first|assumption|(apply bF;focus omega)|apply bS|(apply bN;focus (simp;done))|apply bA|apply bD);all_goals rfl), ?_⟩
    exact (vec_far (vec_far P.out (.inr rfl)) (.inr rfl)).less fun b hb => .inl hb
  ·
   skip
   refine wpMT_l rfl rfl (fun K hK => ?_)
   go_simp
   refine hK.out _ _ (s0.alloc s0.size _) (fun _ => ?_)
   clear hK K
   refine world_gen (fun W => Blk W v0.heap.size 78 #[.slice none 0 0, .slice none 0 0] /\ Below w0.heap.size w0 W) ⟨by ((with_reducible repeat first|assumption|(apply bF;focus omega)|apply bS|(apply bN;focus (simp;done))|apply bA|apply bD);all_goals rfl), s0.alloc s0.size _⟩ ?_
   rintro v1 ⟨hC, s1⟩
   have hgC := Hd (show w0.heap.size <= v0.heap.size from s0.size)
   obtain ⟨gC, egC⟩ : ∃ q, v0.heap.size = q := ⟨_, rfl⟩
   rw [egC] at hC hgC ⊢
   replace egC := Hd egC
   refine wpMT_l rfl rfl (fun K hK => ?_)
   go_simp
   refine (A1.out (Xg (Xg X g) gC) v1 (fun b hb => hb.elim (hY1.out b) fun e => .inr (by have := hgC.out; have := hr0.size; rw [e]; omega)) (fun b hb => hb.elim (fun h => ltl (hY2.out b h) (s1).size) fun e => by rw [e]; exact hC.lt) (bth hr0 s1)).mono ?_
   rintro r v2 ⟨t1, rfl, V1, hb⟩
   dsimp only
   have s2 := bth s1 hb
   refine hK.out _ _ s2 (fun _ => ?_)
   clear hK K
   replace hC := hC.below' hb
   replace V1 := Hd V1
   clear hb
   refine wpMT_l rfl rfl (fun K hK => ?_)
   go_simp
   refine (A2.out (Xg (Xg X g) gC) v2 (fun b hb => hb.elim (hY1.out b) fun e => .inr (by have := hgC.out; have := hr0.size; rw [e]; omega)) (fun b hb => hb.elim (fun h => ltl (hY2.out b h) (s2).size) fun e => by rw [e]; exact hC.lt) (bth hr0 s2)).mono ?_
   rintro r v3 ⟨t2, rfl, V2, hb⟩
   dsimp only
   have s3 := bth s2 hb
   refine hK.out _ _ s3 (fun _ => ?_)
   clear hK K
   replace hC := hC.below' hb
   replace V1 := Hd (V1.out.call hb)
   replace V2 := Hd V2
   clear hb
   refine wpMT_l rfl rfl (fun K hK => ?_)
   go_simp
   refine (CB.out (Xg (Xg X g) gC) t1 t2 v3 (fun b hb => hb.elim (fun h => ltl (hY2.out b h) (s3).size) fun e => by rw [e]; exact hC.lt) V1.out V2.out).mono ?_
   rintro r v4 ⟨z, rfl, P, hb⟩
   dsimp only
   have s4 := bth s3 hb
   refine hK.out _ _ s4 (fun _ => ?_)
   clear hK K
   replace hC := hC.below' hb
   clear V1 V2
   replace P := Hd P
   clear hb
   have y0 := hC.cell 0; have f0 := hC.frozen 0; have y1 := hC.cell 1; have f1 := hC.frozen 1
   have hgl := Hd hC.lt
   refine wpMT_t rfl rfl (fun K hK => ?_)
   go_simp
   refine hK.out _ _ ?_
   clear hK K
   refine wpMT_nil ?_
   refine ⟨rfl, z, gC, _, _, _, _, _, rfl, (s4.setCell hgC.out _).setCell hgC.out _, by ((with_reducible repeat first|assumption|(apply bF;focus omega)|apply bS|(apply bN;focus (simp;done))|apply bA|apply bD);all_goals rfl), ?_⟩
   exact (vec_far (vec_far P.out (.inr rfl)) (.inr rfl)).less fun b hb => .inl hb
 ·
  rintro e1 a1 w3 ⟨rfl, z, gC, u38, u39, u40, u41, u42, rfl, s1, hC, hV⟩
  have hz3 := hz.below' s1
  have k1 := held (held (hFc.out 0) w3 s1)
  have c0 := held (hC.cell 0); have c1 := held (hC.cell 1)
  have t0 : Below w3.heap.size w3 w3.drew := brf.drew
  have hsz := Hd s1.size
  replace hV := Hd hV; replace s1 := Hd s1
  clear hC CB A1 A2
  go_wp2
  obtain ⟨v0, hv0⟩ : ∃ v, w3.drew = v := ⟨_, rfl⟩
  refine wp_region_mix (S := Below w3.heap.size w3) [(0, .q), (3, .q), (4, .q), (6, .q), (7, .q), (1, .l), (2, .l), (5, .l), (8, .p), (9, .t), (10, .t)] (by kernel_rfl) (by kernel_rfl) (by kernel_rfl) (fun d _ _ _ _ h => by cases d <;> exact h) (t0) ?_
  rw [hv0] at t0 ⊢
  iterate 5 (refine wpMix_q rfl rfl (fun K hK => ?_); apply Exists.intro; refine ⟨fun w' hw' => ?_, ?_⟩; (focus (go_simp; try rfl)); go_simp; refine hK _ _ ?_; clear hK K)
  refine wpMix_l rfl rfl (fun K hK => ?_)
  go_simp
  refine (A0.out (Xg X g) v0 hY1.out (fun b hb => ltl (hY2.out b hb) (Nat.le_trans hsz.out (t0).size)) (bth s1.out t0)).mono ?_
  rintro r w2 ⟨ta, rfl, Va, hb⟩
  dsimp only
  refine hK.out _ _ (bth t0 hb) (fun _ => ?_)
  clear hK K
  have t1 := bth t0 hb
  replace Va := Hd Va
  clear hb
  refine wpMix_l rfl rfl (fun K hK => ?_)
  go_simp
  refine (vof_any ta.a ta.b a.1.length ta.c a.2.length ta.d _).mono ?_
  rintro r w4 ⟨rfl, hb⟩
  dsimp only
  refine hK.out _ _ (bth t1 hb) (fun _ => ?_)
  clear hK K
  have t2 := bth t1 hb
  replace Va := Hd (Va.out.call hb)
  clear hb
  refine wpMix_l rfl rfl (fun K hK => ?_)
  go_simp
  refine (negS_p (Xg X g) d.2 z.b z.d _ (fun b hb => ltl (hY2.out b hb) (Nat.le_trans hsz.out (t2).size)) (hV.out.2.call t2) hfd.out.2).mono ?_
  rintro r w5 ⟨an, cn, rfl, Pn, hb⟩
  dsimp only
  refine hK.out _ _ (bth t2 hb) (fun _ => ?_)
  clear hK K
  have t3 := bth t2 hb
  replace Va := Hd (Va.out.call hb); replace Pn := Hd Pn
  clear hb
  iterate 1 (refine wpMix_p rfl rfl (fun K hK => ?_); apply Exists.intro; refine ⟨fun w' => ?_, ?_⟩; (focus (go_simp; try rfl)); go_simp; refine hK _ _ ?_; clear hK K)
  refine wpMix_t rfl rfl (fun K hK => ?_)
  go_simp
  refine (combineAdd_v (Xg X g) a (negP d.2, d.1) (addP a.1 (negP d.2)) (addP a.2 d.1) ta ⟨an, cn, z.a, z.c⟩ w5 (fun b hb => ltl (hY2.out b hb) (Nat.le_trans hsz.out (t3).size)) (forAdd (Xg X g) a.1 (negP d.2) ta.a an ta.c cn _ Va.out.1 Pn.out fa.out.1 (fine_neg hfd.out.2)) (forAdd (Xg X g) a.2 d.1 ta.b z.a ta.d z.c _ Va.out.2 (hV.out.1.call t3) fa.out.2 hfd.out.1)).mono ?_
  rintro r w1 ⟨t, rfl, hV1, hb⟩
  dsimp only
  refine hK.out _ _ ?_
  clear hK K
  have s6 := bth s1.out (bth t3 hb)
  have hf1 : Fr (Yb gB ra va) w0 w1 := Fr.below s6
  have hv1 : ∀ g, va = some g -> va = some g \/ w0.heap.size <= g.block := fun g h => .inl h
  have hB1 := hB0.out.call s6
  obtain ⟨va1, hva1⟩ : ∃ v, v = va := ⟨_, rfl⟩
  obtain ⟨vc1, hvc1⟩ : ∃ v, v = vc := ⟨_, rfl⟩
  have hv1 : ∀ g, va1 = some g -> va = some g \/ w0.heap.size <= g.block := by rw [hva1]; exact hv1
  rw [<- hva1, <- hvc1] at hB1
  replace hV1 : VecX (Yz (Xg Z g) gB ra va1) w1 t (addP a.1 (negP d.2), addP a.2 d.1) := by rw [hva1, <- hX.out]; exact hV1.less fun b hb => .inl hb
  have e1 : d.1 = subP c.1 b.1 := by rw [hd.out]
  have e2 : d.2 = subP c.2 b.2 := by rw [hd.out]
  obtain ⟨P, hPP⟩ : ∃ P, (addP a.1 (negP (subP c.2 b.2)), addP a.2 (subP c.1 b.1)) = P := ⟨_, rfl⟩
  have ep1 : addP a.1 (negP d.2) = P.1 := by rw [e2, <- hPP]
  have ep2 : addP a.2 d.1 = P.2 := by rw [e1, <- hPP]
  rw [ep1, ep2] at hV1
  replace hV1 : VecX (Yz (Xg Z g) gB ra va1) w1 t P := hV1
  replace hPP := Hd hPP
  clear Va Pn hb hva1 hvc1 t1 t2 t3 c0 c1 k1 e1 e2
  have hn2 : ¬ Yb gB ra va1 g := yb_not hn0 hv1 hgl
  have hz1 := hz.fr hf1 hn0
  have hfr : Fr (Yb gB ra va) w w1 := hf0.trans hf1
  have hvv : ∀ g, va1 = some g -> va = some g \/ w.heap.size <= g.block := fun g hg => by
   rcases hv1 g hg with e | e
   · exact .inl e
   · have := hw0.size; exact .inr (by omega)
  have y0 := hz1.cell 0; have y1 := hz1.cell 1; have g0 := hz1.frozen 0; have g1 := hz1.frozen 1
  replace hV1 := Hd hV1; replace hB1 := Hd hB1; replace hvv := Hd hvv; replace hfr := Hd hfr; replace hn2 := Hd hn2
  have hz2 := Hd hz1
  clear hf0 hf1 hv1 hz hB0 hz1
  try rw [ep1, ep2]
  clear ep1 ep2
  refine wpMix_t rfl rfl (fun K hK => ?_)
  go_simp
  refine hK.out _ _ ?_
  clear hK K
  refine wpMix_nil ?_
  go_wp2
  refine world_gen (fun W => Blk W g 78 #[.slice t.a P.1.length t.c, .slice t.b P.2.length t.d] /\ Bst Z W gB y hs' ra rc va1 vc1 /\ VecX (Yz Z gB ra va1) W t P /\ Fr (Yb gB ra va) w W) ⟨?_, ((hB1.out.far hn2.out).far hn2.out).less, (vec_far (vec_far hV1.out (.inr (.inr rfl))) (.inr (.inr rfl))).less yz_less, (hfr.out.setc (.inr hgw)).setc (.inr hgw)⟩ ?_
  ·
   have hz2' := hz2.out
   ((with_reducible repeat first|assumption|(apply bF;focus omega)|apply bS|(apply bN;focus (simp;done))|apply bA|apply bD);all_goals rfl)
  rintro w4 ⟨hF4, hB4, hV4, hf4⟩
  have e0 := hF4.cell 0; have e1 := hF4.cell 1
  refine bodyPost_ret (v := .agg #[.slice t.a P.1.length t.c, .slice t.b P.2.length t.d]) (by simp [results, Tryz.results33, go_sem, e0, e1]) rfl ?_
  rw [hPP.out]
  exact ⟨va1, vc1, t, rfl, hB4, hV4, hf4, hvv.out⟩
def needK (kind : Int) : Nat := if kind = 2 \/ kind = 5 then 2 else if kind = 3 \/ kind = 4 then 3 else 0
theorem has2_of {hs' : List (VQ × Vec)} {coords : List Vec} {args : List Int} (he : hs'.map Prod.snd = coords) {k : Nat} (hk : k < args.length) (hr : ∀ x ∈ args, 0 <= x /\ x < coords.length) : Has2 args hs' k (argF coords args k) := by
 obtain ⟨x, hx⟩ := get_of_lt hk
 obtain ⟨r1, r2⟩ := hr x (List.mem_of_getElem? hx)
 subst he
 have hl : x.toNat < hs'.length := by simp at r2; omega
 obtain ⟨z, hz⟩ := get_of_lt hl
 refine ⟨x.toNat, z.1, by rw [hx]; congr 1; omega, ?_⟩
 have e : argF (hs'.map Prod.snd) args k = z.2 := by
  unfold argF
  rw [List.getD_eq_getElem?_getD, List.getD_eq_getElem?_getD, hx]
  simp [hz]
 rw [e]
 exact hz
theorem step_any (Z : Nat -> Prop) (gB : Nat) (y : Frm) (hs' : List (VQ × Vec)) (ra va : Option Addr) (rc vc : Nat) (pt : ByteArray) (aa : Option Addr) (ac : Nat) (x : QA) (i D M : Nat) (w : World) (hB : Bst Z w gB y hs' ra rc va vc) (hZ : ∀ b, Z b -> b < w.heap.size)
  (hok : FrmOk i D M y) (hi : i <= 100) (kind : Int) (k1 : 1 <= kind) (k7 : kind <= 14) (args : List Int) (q : Rat) (hn : needK kind <= args.length) (hr : ∀ x ∈ args, 0 <= x /\ x < i) (hI : Rd (Yz Z gB ra va) w fun V => IntsR V aa ac args)
  (hx : kind = 2 -> Rd (Yz Z gB ra va) w fun V => QAc V x q) (hq : kind = 2 -> q.num.natAbs <= 2 ^ 32 /\ q.den <= 2 ^ 32) :
  Calls Tryz.prog 33 #[.pointer (some ⟨gB, 0, none⟩), .agg #[.int .i64 kind, .string pt, .slice aa args.length ac, .bool x.neg, .slice x.a x.n x.c, .slice x.b x.m x.d], .int .i64 i] w
   (RetSt Z gB ⟨(nextF y kind args q i).1, y.coords, if kind = 1 then y.free + 1 else y.free⟩ (nextF y kind args q i).2 hs' ra rc va w) := by
 have hvl : y.vars.length <= 64 := hok.2.2.2.2.2.1
 have hfl : y.free <= i := hok.2.2.2.2.2.2.1
 have hcl : y.coords.length = i := hok.1
 have hlh : hs'.length <= 1000000 := by
  have := congrArg List.length hB.eq
  simp at this
  omega
 have HH := fun k hk => has2_of (k := k) hB.eq hk (fun x hx => by have := hr x hx; omega)
 have A := fun k => argF_ok hok args k
 have Fi := fun k => hok.fine hi args k
 have V := fun j k => (⟨(hok.diff hi (A k).1 (A j).1).1, (hok.diff hi (A k).2 (A j).2).1⟩ : FineV (subP (argF y.coords args k).1 (argF y.coords args j).1, subP (argF y.coords args k).2 (argF y.coords args j).2))
 have hk : kind = 1 \/ kind = 2 \/ kind = 3 \/ kind = 4 \/ kind = 5 \/ kind = 6 \/ 7 <= kind := by omega
 rcases hk with rfl | rfl | rfl | rfl | rfl | rfl | k7
 ·
  have := step1_any Z gB y hs' ra va rc vc pt aa args.length ac x i w hB (by omega) hZ (by omega)
  simpa only [nextF, pointF, if_true] using this
 ·
  obtain ⟨q1, q2⟩ := hq rfl
  have hqs : qsz q <= 1000 := qsz_le (Nat.le_trans (limbs_len_le (k := 3) (Nat.lt_of_le_of_lt q1 (by decide))) (by omega)) (Nat.le_trans (limbs_len_le (k := 3) (Nat.lt_of_le_of_lt q2 (by decide))) (by omega))
  have := step2_any Z gB y hs' ra va rc vc pt aa args.length ac x i w hB (by omega) hZ args q _ _ rfl hI (hx rfl) hqs hlh (HH 0 (by simp [needK] at hn; omega)) (HH 1 (by simp [needK] at hn; omega)) (Fi 0) (Fi 1) (V 0 1) ⟨hok.scaled hi (A 1).1 (A 0).1 ⟨q1, q2⟩, hok.scaled hi (A 1).2 (A 0).2 ⟨q1, q2⟩⟩
  simpa [nextF, alongF] using this
 ·
  have := step3_any Z gB y hs' ra va rc vc pt aa args.length ac x i w hB (by omega) hZ args _ _ _ rfl hI hlh (HH 0 (by simp [needK] at hn; omega)) (HH 1 (by simp [needK] at hn; omega)) (HH 2 (by simp [needK] at hn; omega)) (Fi 0) (Fi 1) (Fi 2) (V 1 2)
  simpa [nextF] using this
 ·
  have := step4_any Z gB y hs' ra va rc vc pt aa args.length ac x i w hB (by omega) hZ args _ _ _ rfl hI hlh (HH 0 (by simp [needK] at hn; omega)) (HH 1 (by simp [needK] at hn; omega)) (HH 2 (by simp [needK] at hn; omega)) (Fi 0) (Fi 1) (Fi 2) (V 1 2)
  rw [negP_sub (A 2).2.1 (A 1).2.1] at this
  simpa [nextF] using this
 ·
  have := step5_any Z gB y hs' ra va rc vc pt aa args.length ac x i w hB (by omega) hZ args i _ _ rfl hI hlh (HH 0 (by simp [needK] at hn; omega)) (HH 1 (by simp [needK] at hn; omega)) (Fi 0) (Fi 1) (V 0 1) (fine_var _) ⟨hok.turned hi (A 1).1 (A 0).1 _, hok.turned hi (A 1).2 (A 0).2 _⟩ (hok.diff hi (A 1).1 (A 0).1).2 (hok.diff hi (A 1).2 (A 0).2).2 (by omega)
  simpa [nextF, alongF] using this
 ·
  have := step6_any Z gB y hs' ra va rc vc pt aa args.length ac x i w hB (by omega) hZ
  simpa [nextF] using this
 ·
  have := step7_any kind k7 Z gB y hs' ra va rc vc pt aa args.length ac x i w hB (by omega) hZ
  have e1 : ¬ kind = 1 := by omega
  have e2 : ¬ kind = 2 := by omega
  have e3 : ¬ kind = 3 := by omega
  have e4 : ¬ kind = 4 := by omega
  have e5 : ¬ kind = 5 := by omega
  have e6 : ¬ kind = 6 := by omega
  unfold nextF
  rw [if_neg e1, if_neg e1, if_neg e2, if_neg e3, if_neg e4, if_neg e5, if_neg e6]
  exact this
def pickH (hs : List (VQ × Vec)) (args : List Int) : List (VQ × Vec) := args.map fun a => hs.getD a.toNat (⟨none, 0, none, 0⟩, ([], []))
theorem pickH_len (hs : List (VQ × Vec)) (args : List Int) : (pickH hs args).length = args.length := by simp [pickH]
theorem pickH_get {hs : List (VQ × Vec)} {args : List Int} {k : Nat} {a : Int} {z : VQ × Vec} (ha : args[k]? = some a) (hz : hs[a.toNat]? = some z) : (pickH hs args)[k]? = some z := by
 simp [pickH, ha, hz, List.getD_eq_getElem?_getD]
theorem pickH_arg {hs : List (VQ × Vec)} {coords : List Vec} {args : List Int} (he : hs.map Prod.snd = coords) {k : Nat} (hk : k < args.length) (hr : ∀ x ∈ args, 0 <= x /\ x < coords.length) : ∃ q, (pickH hs args)[k]? = some (q, argF coords args k) /\ (q, argF coords args k) ∈ hs := by
 obtain ⟨j, q, h1, h2⟩ := has2_of he hk hr
 exact ⟨q, pickH_get h1 (by simpa using h2), List.mem_of_getElem? h2⟩
theorem own_fr {α : Type} {f : α -> List Value} {sz B c : Nat} {t : TypeId} {Y : Nat -> Prop} {w w' : World} {a : Option Addr} {l : List α} (h : Own f sz t B w a c l) (k : Fr Y w w') (hn : ∀ g : Addr, a = some g -> ¬ Y g.block) : Own f sz t B w' a c l := by
 have e1 : ∀ g : Addr, a = some g -> w'.heap[g.block]? = w.heap[g.block]? := fun g hg => k.block _ (h.lt hg).2 (hn g hg)
 rcases h with ⟨p, q⟩
 refine ⟨p, ?_⟩
 rcases q with q | ⟨g, c, cur, h1, h2, h3, h4⟩
 · exact .inl q
 ·
  refine .inr ⟨g, c, cur, h1, h2, ?_, h4⟩
  rw [<- h3]
  injection h1 with h1
  exact e1 _ h1
end Go.Proofs.YtdnblkklgdnapaaGreat
