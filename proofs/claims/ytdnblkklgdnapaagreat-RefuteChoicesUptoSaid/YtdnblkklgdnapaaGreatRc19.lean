/- Walks: the reference's other operations on polynomials. -/
import Derived.Test.YtdnblkklgdnapaaGreatRc16
set_option linter.all false
set_option maxRecDepth 100000
set_option maxHeartbeats 4000000
namespace Go.Proofs.YtdnblkklgdnapaaGreat
open Go.RowKit
theorem fine_range {u : Tm} (h : FineT u) : ∀ x ∈ u.2, 0 <= x /\ x <= 1048576 := fun x hx => by have := h.1.1 x hx; omega
theorem addR_p (X : Nat -> Prop) (p q : List Tm) (a b : Option Addr) (ca cb : Nat) (w : World) (hX : ∀ b, X b -> b < w.heap.size) (hp : PolX X w a ca p) (hq : PolX X w b cb q) (fp : FineP p) (fq : FineP q) :
  Calls Tryz.prog 149 #[.slice a p.length ca, .slice b q.length cb] w (RetP X (addP p q) w) := by
 have lp := hp.len; have lq := hq.len
 have l1 := fp.1; have l2 := fq.1
 obtain ⟨R, hR⟩ : ∃ R, addP p q = R := ⟨_, rfl⟩
 rw [hR]
 have HP := Hd hp; have HQ := Hd hq; have FP := Hd fp.2; have FQ := Hd fq.2; have HX := Hd hX; have HR := Hd hR
 clear hp hq fp fq hX hR
 go_enter Tryz.func149, Tryz.ntmps149
 go_wp2
 obtain ⟨wo, rfl⟩ : ∃ wo : World, wo = w := ⟨_, rfl⟩
 go_loopg [5, 6, 7, 8, 9] (p.length + q.length) (fun m o qi qk _ _ wr => ∃ (i k : Nat) (lo : List TQ) (po : List Tm) (ra : Option Addr) (rc : Nat), Hid (i + k + m = p.length + q.length) /\ i <= p.length /\ k <= q.length /\ o = .slice ra lo.length rc /\ qi = .int .i64 i /\ qk = .int .i64 k /\ Hid (OwnT wo.heap.size wr ra rc lo) /\ Hid (AllT (Xr X ra) wr lo po) /\ Below wo.heap.size wo wr /\ Hid (po ++ addP (p.drop i) (q.drop k) = R) /\ Hid (lo.length <= i + k))
 case atStart => exact ⟨0, 0, [], [], none, 0, by show _ = _; omega, by omega, by omega, rfl, rfl, rfl, Own.nil, AllT.nil, Below.refl _ _, HR.out, nlr _⟩
 case round =>
  obtain ⟨i, k, lo, po, ra, rc, hm, hi, hk, rfl, rfl, rfl, ho, hA, hwr, hout, hll⟩ := hrel
  have hro : Hid (∀ g, ra = some g -> wo.heap.size <= g.block) := Hd fun g hg => (ho.out.lt hg).1
  have sr : Below wr.heap.size wr wr := Below.refl _ _
  by_cases h1 : i < p.length
  ·
   obtain ⟨u, hu⟩ := get_of_lt h1
   obtain ⟨b1, o1, s, rfl, hs, hsR⟩ := HP.out.get hu
   have fu := FP.out u (List.mem_of_getElem? hu)
   have hsr := lift_row hsR hro.out hwr
   obtain ⟨c0, c1, c2, c3⟩ := hs
   have k0 := held (held c0 wr hwr); have k1 := held (held c1 wr hwr); have k2 := held (held c2 wr hwr); have k3 := held (held c3 wr hwr)
   have hdp := Hd (drop_cons hu)
   have hin1 : (i : Int) ≠ p.length := by omega
   have hie : ((i : Int) == (p.length : Int)) = false := by simpa using hin1
   clear c0 c1 c2 c3 hu
   by_cases h2 : k < q.length
   ·
    obtain ⟨v, hv⟩ := get_of_lt h2
    obtain ⟨b2, o2, t, rfl, ht, htR⟩ := HQ.out.get hv
    have fv := FQ.out v (List.mem_of_getElem? hv)
    have ho2 := hout.out
    have hdq := Hd (drop_cons hv)
    rw [hdp.out, hdq.out] at ho2
    have htr := lift_row htR hro.out hwr
    have CL := fun W (hW : Below wr.heap.size wr W) => cmpR5_any u.2 v.2 s.a t.a s.c t.c W (hsR.call (bth hwr hW)).now.2.1 (htR.call (bth hwr hW)).now.2.1 (fine_range fu) (fine_range fv)
    rw [<- hsR.now.2.2, <- htR.now.2.2] at CL
    have CA := fun W (hW : Below wr.heap.size wr W) => addR_q s.x t.x u.1 v.1 1000 1000 W ((hsR.call (bth hwr hW)).now.qk fu) ((htR.call (bth hwr hW)).now.qk fv) (by omega) (by omega)
    obtain ⟨d0, d1, d2, d3⟩ := ht
    have y0 := held (held d0 wr hwr); have y1 := held (held d1 wr hwr); have y2 := held (held d2 wr hwr); have y3 := held (held d3 wr hwr)
    have s0 : Below wr.heap.size wr wr.drew := brf.drew
    obtain ⟨L, hL⟩ : ∃ L, lexI u.2 v.2 = L := ⟨_, rfl⟩
    rw [hL] at CL
    replace hL := Hd hL; replace CL := Hd CL; replace CA := Hd CA; replace hsR := Hd hsR; replace htR := Hd htR; replace fu := Hd fu; replace fv := Hd fv; replace ho2 := Hd ho2; replace hsr := Hd hsr; replace htr := Hd htr
    clear hv d0 d1 d2 d3 hout
    go_wp2
    refine wp_region_mix (S := Below wr.heap.size wr) [(0, .q), (1, .q), (2, .q), (3, .q), (4, .q), (5, .q), (6, .q), (7, .q), (8, .q), (9, .q), (10, .t), (11, .p)] (by kernel_rfl) (by kernel_rfl) (by kernel_rfl) (fun d _ _ _ _ h => by cases d <;> exact h) (s0) ?_
    iterate 10 (refine wpMix_q rfl rfl (fun K hK => ?_); apply Exists.intro; refine ⟨fun w' hw' => ?_, ?_⟩; (focus (go_simp; try rfl)); go_simp; refine hK _ _ ?_; clear hK K)
    refine wpMix_t rfl rfl (fun K hK => ?_)
    go_simp
    refine (CL.out _ s0).mono ?_
    rintro r w4 ⟨rfl, rfl⟩
    dsimp only
    refine hK.out _ _ ?_
    clear hK K
    iterate 1 (refine wpMix_p rfl rfl (fun K hK => ?_); apply Exists.intro; refine ⟨fun w' => ?_, ?_⟩; (focus (go_simp; try rfl)); go_simp; refine hK _ _ ?_; clear hK K)
    refine wpMix_nil ?_
    obtain ⟨w4, hw4⟩ : ∃ w4, w4 = wr.drew := ⟨_, rfl⟩
    rw [<- hw4] at s0 ⊢
    have s4 := s0
    clear hw4 s0
    have e0 := k0 w4 s4; have e1 := k1 w4 s4; have e2 := k2 w4 s4; have e3 := k3 w4 s4
    have f0 := y0 w4 s4; have f1 := y1 w4 s4; have f2 := y2 w4 s4; have f3 := y3 w4 s4
    clear k0 k1 k2 k3 y0 y1 y2 y3
    by_cases g1 : 0 < L
    ·
     have ho3 := ho2.out
     rw [addP_gt (by rw [hL.out]; exact g1)] at ho3
     replace ho3 := Hd ho3
     clear CA CL hsR htR fu fv htr ho2
     have hb5 : Below w4.heap.size w4 (w4.alloc (.cells #[.bool s.x.neg, .slice s.x.a s.x.n s.x.c, .slice s.x.b s.x.m s.x.d, .slice s.a s.n s.c] 136)) := by go_grown
     have howc := ((ho.out.below s4).alloc (.cells #[.bool s.x.neg, .slice s.x.a s.x.n s.x.c, .slice s.x.b s.x.m s.x.d, .slice s.a s.n s.c] 136))
     have hel : TQ.At s (w4.alloc (.cells #[.bool s.x.neg, .slice s.x.a s.x.n s.x.c, .slice s.x.b s.x.m s.x.d, .slice s.a s.n s.c] 136)) w4.heap.size 0 := At.new
     have hwoc := bth hwr (bth s4 hb5)
     replace howc := Hd howc; replace hel := Hd hel
     go_wp2_with (at_builtin; go_must (refine append_tm (B := wo.heap.size) rfl (.tmp 70) (.tmp 75) 76 rfl Tryz.underlying76 ra rc rfl howc.out s w4.heap.size 1 rfl hel.out (lo ++ [s]) rfl (by have := hll.out; simp; omega) (by have := hwoc.size; simpa using this) ?_); intro ra2 rc2 w6 ho6 hg6 ha6)
     have hA6 := push_tm hA.out s4 hb5 ((hsr.out.call s4).call hb5) hg6 ha6
     have hwo6 : Below wo.heap.size wo w6 := below_append' hwoc howc.out hg6
     replace ho6 := Hd ho6; replace hA6 := Hd hA6
     clear hg6 ha6 howc hel hb5 hwoc
     go_wp2
     go_roundg (gk - 1)
     case rel => exact ⟨i + 1, k, lo ++ [s], po ++ [u], ra2, rc2, by have := hm.out; show _ = _; omega, by omega, by omega, by simp, by go_num, rfl, ho6.out, hA6.out, hwo6, by rw [<- ho3.out, hdq.out]; show _ = _; simp, by have := hll.out; show _ <= _; simp; omega⟩
     case measure => have := hm.out; omega
    ·
     by_cases g2 : L < 0
     ·
      have ho3 := ho2.out
      rw [addP_lt (by rw [hL.out]; exact g2)] at ho3
      replace ho3 := Hd ho3
      clear CA CL hsR htR fu fv hsr ho2
      have hb5 : Below w4.heap.size w4 (w4.alloc (.cells #[.bool t.x.neg, .slice t.x.a t.x.n t.x.c, .slice t.x.b t.x.m t.x.d, .slice t.a t.n t.c] 136)) := by go_grown
      have howc := ((ho.out.below s4).alloc (.cells #[.bool t.x.neg, .slice t.x.a t.x.n t.x.c, .slice t.x.b t.x.m t.x.d, .slice t.a t.n t.c] 136))
      have hel : TQ.At t (w4.alloc (.cells #[.bool t.x.neg, .slice t.x.a t.x.n t.x.c, .slice t.x.b t.x.m t.x.d, .slice t.a t.n t.c] 136)) w4.heap.size 0 := At.new
      have hwoc := bth hwr (bth s4 hb5)
      replace howc := Hd howc; replace hel := Hd hel
      go_wp2_with (at_builtin; go_must (refine append_tm (B := wo.heap.size) rfl (.tmp 82) (.tmp 87) 76 rfl Tryz.underlying76 ra rc rfl howc.out t w4.heap.size 1 rfl hel.out (lo ++ [t]) rfl (by have := hll.out; simp; omega) (by have := hwoc.size; simpa using this) ?_); intro ra2 rc2 w6 ho6 hg6 ha6)
      have hA6 := push_tm hA.out s4 hb5 ((htr.out.call s4).call hb5) hg6 ha6
      have hwo6 : Below wo.heap.size wo w6 := below_append' hwoc howc.out hg6
      replace ho6 := Hd ho6; replace hA6 := Hd hA6
      clear hg6 ha6 howc hel hb5 hwoc
      go_wp2
      go_roundg (gk - 1)
      case rel => exact ⟨i, k + 1, lo ++ [t], po ++ [v], ra2, rc2, by have := hm.out; show _ = _; omega, by omega, by omega, by simp, rfl, by go_num, ho6.out, hA6.out, hwo6, by rw [<- ho3.out, hdp.out]; show _ = _; simp, by have := hll.out; show _ <= _; simp; omega⟩
      case measure => have := hm.out; omega
     ·
      have hL0 : lexI u.2 v.2 = 0 := by rw [hL.out]; omega
      have hlx := Hd (Xr_lt HX.out ho.out hwr.size)
      have j0 := held e0; have j1 := held e1; have j2 := held e2; have j3 := held e3
      have n0 := held f0; have n1 := held f1; have n2 := held f2; have n3 := held f3
      have s0 : Below w4.heap.size w4 w4.drew := brf.drew
      replace hL0 := Hd hL0
      clear CL hsR htR fu fv htr hdp hdq e0 e1 e2 e3 f0 f1 f2 f3
      go_wp2
      refine wp_region_tree (S := Below w4.heap.size w4) (.q 0 (.q 1 (.q 2 (.q 3 (.q 4 (.q 5 (.q 6 (.q 7 (.q 8 (.q 9 (.two 10 (.l 11 (.t 12 .nil)) 11 (.l 10 (.t 12 .nil))))))))))))) [12] (by kernel_rfl) (by kernel_rfl) (by kernel_rfl) (fun d _ _ _ _ h => by cases d <;> exact h) s0 ?_
      iterate 10 (refine wpMT_q rfl rfl (fun K hK => ?_); apply Exists.intro; refine ⟨fun w' hw' => ?_, ?_⟩; (focus (go_simp; try rfl)); go_simp; refine hK _ _ ?_; clear hK K)
      refine wpMT_two ?_ ?_
      ·
       skip
       refine wpMT_l rfl rfl (fun K hK => ?_)
       go_simp
       refine (CA.out _ (bth s4 s0)).mono ?_
       rintro r w5 ⟨x, rfl, HK, hb5⟩
       dsimp only
       refine hK.out _ _ (bth s0 hb5) (fun _ => ?_)
       clear hK K
       have s5 : Below w4.heap.size w4 w5 := bth s0 hb5
       have sA : Below w4.heap.size w4 (w5.alloc (.cells #[.bool false, .slice none 0 0, .slice none 0 0] 32)) := s5.alloc s5.size _
       refine wpMT_l rfl rfl (fun K hK => ?_)
       go_simp
       refine hK.out _ _ (sA) (fun _ => ?_)
       clear hK K
       have hzz : Blk (w5.alloc (.cells #[.bool false, .slice none 0 0, .slice none 0 0] 32)) w5.heap.size 32 #[.bool false, .slice none 0 0, .slice none 0 0] := Blk.new w5 _ _
       have z0 := hzz.cell 0; have z1 := hzz.cell 1; have z2 := hzz.cell 2
       have x0 := hzz.frozen 0; have x1 := hzz.frozen 1; have x2 := hzz.frozen 2
       refine wpMT_t rfl rfl (fun K hK => ?_)
       go_simp
       refine hK.out _ _ ?_
       clear hK K
       refine wpMT_nil ?_
       replace HK := Hd (show Kp (fun V => QK 2001 V x (u.1 + v.1)) w4.heap.size w5.heap.size w5 from HK)
       refine world_gen (fun W => Blk W w5.heap.size 32 #[.bool x.neg, .slice x.a x.n x.c, .slice x.b x.m x.d] /\ Kp (fun V => QK 2001 V x (u.1 + v.1)) w4.heap.size w5.heap.size W /\ Below w4.heap.size w4 W) ⟨by ((with_reducible repeat first|assumption|(apply bF;focus omega)|apply bS|(apply bN;focus (simp;done))|apply bA|apply bD);all_goals rfl), by (with_reducible repeat first | exact HK.out | (refine Kp.setc ?_ ?_; focus omega) | refine Kp.alloc ?_ | refine Kp.drew ?_), s5.alloc s5.size _⟩ ?_
       clear z0 z1 z2 x0 x1 x2 hzz sA hb5 s5 s0
       rintro wz ⟨hg, HK, sz⟩
       obtain ⟨g, hge⟩ : ∃ g, g = w5.heap.size := ⟨_, rfl⟩
       rw [<- hge] at hg ⊢
       clear hge
       replace HK := Hd HK
       have CS := fun W (hW : Below wz.heap.size wz W) => signR_q x (u.1 + v.1) 2001 W ((HK.out.call hW).now) (by omega)
       have hsg := sgnQ_ne (u.1 + v.1)
       obtain ⟨S0, hS0⟩ : ∃ S0, sgnQ (u.1 + v.1) = S0 := ⟨_, rfl⟩
       rw [hS0] at CS hsg
       clear hS0
       replace CS := Hd CS
       have szz := bth s4 sz
       have hRS : ∀ W, Below wz.heap.size wz W -> Rd (Xr X ra) W (TQ.R ⟨x, s.n, s.a, s.c⟩ (u.1 + v.1, u.2)) := fun W hW => sum_rd (HK.out.call hW) (fun b hb => by have := hlx.out b hb; have := s4.size; omega) ((hsr.out.call szz).call hW)
       have p3 := j3 wz sz
       have z0 := hg.cell 0; have z1 := hg.cell 1; have z2 := hg.cell 2
       have hgl := hg.lt
       replace hRS := Hd hRS
       replace hL0 := hL0.out
       by_cases hz : u.1 + v.1 = 0
       ·
        have ho3 := ho2.out
        rw [addP_gone hL0 hz] at ho3
        replace ho3 := Hd ho3
        have hd : decide (u.1 + v.1 = 0) = true := decide_eq_true hz
        rw [hd] at hsg
        clear ho2 hz hL0 hd hL g1 g2
        go_wp2_with fail
        refine (CS.out wz brf).mono ?_
        rintro e w5 ⟨rfl, hb5⟩
        have s5 := bth szz hb5
        have hA6 := hA.out.call s5
        have ho6 := ho.out.below s5
        have hwo6 := bth hwr s5
        replace ho6 := Hd ho6; replace hA6 := Hd hA6
        clear z0 z1 z2 p3 hRS HK
        go_wp2
        go_roundg (gk - 2)
        case rel => exact ⟨i + 1, k + 1, lo, po, ra, rc, by have := hm.out; show _ = _; omega, by omega, by omega, rfl, by go_num, by go_num, ho6.out, hA6.out, hwo6, ho3.out, by have := hll.out; show _ <= _; omega⟩
        case measure => have := hm.out; omega
       ·
        have ho3 := ho2.out
        rw [addP_eq hL0 hz] at ho3
        replace ho3 := Hd ho3
        have hd : decide (u.1 + v.1 = 0) = false := decide_eq_false hz
        rw [hd] at hsg
        clear ho2 hz hL0 hd hL g1 g2
        go_wp2_with fail
        refine (CS.out wz brf).mono ?_
        rintro e w5 ⟨rfl, hb5⟩
        have s5 := bth szz hb5
        replace hg := hg.below' hb5
        have y0 := held (hg.cell 0); have y1 := held (hg.cell 1); have y2 := held (hg.cell 2)
        have y3 := held (held p3 w5 hb5)
        have s0' : Below w5.heap.size w5 w5.drew := brf.drew
        obtain ⟨sn, hsn⟩ : ∃ sn : TQ, sn = ⟨x, s.n, s.a, s.c⟩ := ⟨_, rfl⟩
        have ex : x = sn.x := by rw [hsn]
        have e5 : s.n = sn.n := by rw [hsn]
        have e6 : s.a = sn.a := by rw [hsn]
        have e7 : s.c = sn.c := by rw [hsn]
        replace ex := Hd ex; replace e5 := Hd e5; replace e6 := Hd e6; replace e7 := Hd e7
        have hRn := hRS.out w5 hb5
        rw [<- hsn] at hRn
        have how5 := (ho.out.below s5).alloc (.cells #[.bool sn.x.neg, .slice sn.x.a sn.x.n sn.x.c, .slice sn.x.b sn.x.m sn.x.d, .slice sn.a sn.n sn.c] 136)
        have hel : TQ.At sn (w5.alloc (.cells #[.bool sn.x.neg, .slice sn.x.a sn.x.n sn.x.c, .slice sn.x.b sn.x.m sn.x.d, .slice sn.a sn.n sn.c] 136)) w5.heap.size 0 := At.new
        have hw5 := bth hwr s5
        replace hRn := Hd hRn; replace hsn := Hd hsn; replace how5 := Hd how5; replace hel := Hd hel
        clear z0 z1 z2 p3 hRS HK hg
        go_wp2
        refine wp_region_mix (S := Below w5.heap.size w5) [(0, .q), (1, .q), (2, .q), (3, .q), (4, .q), (5, .q), (6, .q), (7, .q), (8, .l), (9, .t), (10, .p)] (by kernel_rfl) (by kernel_rfl) (by kernel_rfl) (fun d _ _ _ _ h => by cases d <;> exact h) (s0') ?_
        iterate 7 (refine wpMix_q rfl rfl (fun K hK => ?_); apply Exists.intro; refine ⟨fun w' hw' => ?_, ?_⟩; (focus (go_simp; try rfl)); go_simp; refine hK _ _ ?_; clear hK K)
        rw [ex.out, e5.out, e6.out, e7.out]
        iterate 1 (refine wpMix_q rfl rfl (fun K hK => ?_); apply Exists.intro; refine ⟨fun w' hw' => ?_, ?_⟩; (focus (go_simp; try rfl)); go_simp; refine hK _ _ ?_; clear hK K)
        refine wpMix_l rfl rfl (fun K hK => ?_)
        go_simp
        refine hK.out _ _ (s0'.alloc s0'.size _) (fun _ => ?_)
        clear hK K
        refine wpMix_t rfl rfl (fun K hK => ?_)
        refine wp_append_tm (B := wo.heap.size) (.tmp 53) (.tmp 61) 76 rfl Tryz.underlying76 ra rc rfl (Own.drew how5.out) sn w5.heap.size 1 rfl hel.out (lo ++ [sn]) rfl (by have := hll.out; simp; omega) (by have := hw5.size; simp; omega) ?_
        intro ra2 rc2 w6 ho6 hg6 ha6
        go_simp
        refine hK.out _ _ ?_
        clear hK K
        iterate 1 (refine wpMix_p rfl rfl (fun K hK => ?_); apply Exists.intro; refine ⟨fun w' => ?_, ?_⟩; (focus (go_simp; try rfl)); go_simp; refine hK _ _ ?_; clear hK K)
        refine wpMix_nil ?_
        replace hg6 : (w5.alloc (.cells #[.bool sn.x.neg, .slice sn.x.a sn.x.n sn.x.c, .slice sn.x.b sn.x.m sn.x.d, .slice sn.a sn.n sn.c] 136)).grownBy w6 (Value.ownBlock (.slice ra lo.length rc)) := ⟨hg6.os, hg6.tape, hg6.output, hg6.size, hg6.block⟩
        replace ha6 : ∃ g, ra2 = some ⟨g, 0, none⟩ /\ (ra = some ⟨g, 0, none⟩ \/ g = (w5.alloc (.cells #[.bool sn.x.neg, .slice sn.x.a sn.x.n sn.x.c, .slice sn.x.b sn.x.m sn.x.d, .slice sn.a sn.n sn.c] 136)).heap.size) := ha6
        have hA6 := push_tm hA.out s5 (brf.alloc (nlr _) (.cells #[.bool sn.x.neg, .slice sn.x.a sn.x.n sn.x.c, .slice sn.x.b sn.x.m sn.x.d, .slice sn.a sn.n sn.c] 136)) (hRn.out.alloc _) hg6 ha6
        have hwo6 : Below wo.heap.size wo w6 := below_append' (hw5.alloc hw5.size (.cells #[.bool sn.x.neg, .slice sn.x.a sn.x.n sn.x.c, .slice sn.x.b sn.x.m sn.x.d, .slice sn.a sn.n sn.c] 136)) how5.out hg6
        replace ho6 := Hd ho6; replace hA6 := Hd hA6
        clear hg6 ha6 how5 hel
        go_wp2
        go_roundg (gk - 2)
        case rel => exact ⟨i + 1, k + 1, lo ++ [sn], po ++ [(u.1 + v.1, u.2)], ra2, rc2, by have := hm.out; show _ = _; omega, by omega, by omega, by simp, by go_num, by go_num, ho6.out, hA6.out, hwo6, by rw [<- ho3.out]; show _ = _; simp, by have := hll.out; show _ <= _; simp; omega⟩
        case measure => have := hm.out; omega
      ·
       skip
       have sA : Below w4.heap.size w4 (w4.alloc (.cells #[.bool false, .slice none 0 0, .slice none 0 0] 32)).drew := (brf.alloc (nlr _) _).drew
       refine wpMT_l rfl rfl (fun K hK => ?_)
       go_simp
       refine hK.out _ _ sA (fun _ => ?_)
       clear hK K
       refine wpMT_l rfl rfl (fun K hK => ?_)
       go_simp
       refine (CA.out _ (bth s4 sA)).mono ?_
       rintro r w5 ⟨x, rfl, HK, hb5⟩
       dsimp only
       refine hK.out _ _ (bth sA hb5) (fun _ => ?_)
       clear hK K
       have s5 := bth sA hb5
       have hle4 : w4.heap.size <= w4.heap.size := nlr _
       have hzz : Blk w5 w4.heap.size 32 #[.bool false, .slice none 0 0, .slice none 0 0] := (show Blk (w4.alloc (.cells #[.bool false, .slice none 0 0, .slice none 0 0] 32)).drew w4.heap.size 32 #[.bool false, .slice none 0 0, .slice none 0 0] from Blk.new w4 _ _).below' hb5
       have z0 := hzz.cell 0; have z1 := hzz.cell 1; have z2 := hzz.cell 2
       have x0 := hzz.frozen 0; have x1 := hzz.frozen 1; have x2 := hzz.frozen 2
       have hle : w4.heap.size < (w4.alloc (.cells #[.bool false, .slice none 0 0, .slice none 0 0] 32)).drew.heap.size := by simp
       refine wpMT_t rfl rfl (fun K hK => ?_)
       go_simp
       refine hK.out _ _ ?_
       clear hK K
       refine wpMT_nil ?_
       replace HK := Hd (Kp.broad (B' := w4.heap.size + 1) HK (by simp) (nlr _))
       refine world_gen (fun W => Blk W w4.heap.size 32 #[.bool x.neg, .slice x.a x.n x.c, .slice x.b x.m x.d] /\ Kp (fun V => QK 2001 V x (u.1 + v.1)) (w4.heap.size + 1) w5.heap.size W /\ Below w4.heap.size w4 W) ⟨by ((with_reducible repeat first|assumption|(apply bF;focus omega)|apply bS|(apply bN;focus (simp;done))|apply bA|apply bD);all_goals rfl), by (with_reducible repeat first | exact HK.out | (refine Kp.setc ?_ ?_; focus omega) | refine Kp.alloc ?_ | refine Kp.drew ?_), (((s5.setCell hle4 _).setCell hle4 _).setCell hle4 _)⟩ ?_
       clear z0 z1 z2 x0 x1 x2 hzz sA hle hle4 hb5 s5 s0
       rintro wz ⟨hg, HK, sz⟩
       obtain ⟨g, hge⟩ : ∃ g, g = w4.heap.size := ⟨_, rfl⟩
       rw [<- hge] at hg ⊢
       clear hge
       replace HK := Hd HK
       have CS := fun W (hW : Below wz.heap.size wz W) => signR_q x (u.1 + v.1) 2001 W ((HK.out.call hW).now) (by omega)
       have hsg := sgnQ_ne (u.1 + v.1)
       obtain ⟨S0, hS0⟩ : ∃ S0, sgnQ (u.1 + v.1) = S0 := ⟨_, rfl⟩
       rw [hS0] at CS hsg
       clear hS0
       replace CS := Hd CS
       have szz := bth s4 sz
       have hRS : ∀ W, Below wz.heap.size wz W -> Rd (Xr X ra) W (TQ.R ⟨x, s.n, s.a, s.c⟩ (u.1 + v.1, u.2)) := fun W hW => sum_rd (HK.out.call hW) (fun b hb => by have := hlx.out b hb; have := s4.size; omega) ((hsr.out.call szz).call hW)
       have p3 := j3 wz sz
       have z0 := hg.cell 0; have z1 := hg.cell 1; have z2 := hg.cell 2
       have hgl := hg.lt
       replace hRS := Hd hRS
       replace hL0 := hL0.out
       by_cases hz : u.1 + v.1 = 0
       ·
        have ho3 := ho2.out
        rw [addP_gone hL0 hz] at ho3
        replace ho3 := Hd ho3
        have hd : decide (u.1 + v.1 = 0) = true := decide_eq_true hz
        rw [hd] at hsg
        clear ho2 hz hL0 hd hL g1 g2
        go_wp2_with fail
        refine (CS.out wz brf).mono ?_
        rintro e w5 ⟨rfl, hb5⟩
        have s5 := bth szz hb5
        have hA6 := hA.out.call s5
        have ho6 := ho.out.below s5
        have hwo6 := bth hwr s5
        replace ho6 := Hd ho6; replace hA6 := Hd hA6
        clear z0 z1 z2 p3 hRS HK
        go_wp2
        go_roundg (gk - 2)
        case rel => exact ⟨i + 1, k + 1, lo, po, ra, rc, by have := hm.out; show _ = _; omega, by omega, by omega, rfl, by go_num, by go_num, ho6.out, hA6.out, hwo6, ho3.out, by have := hll.out; show _ <= _; omega⟩
        case measure => have := hm.out; omega
       ·
        have ho3 := ho2.out
        rw [addP_eq hL0 hz] at ho3
        replace ho3 := Hd ho3
        have hd : decide (u.1 + v.1 = 0) = false := decide_eq_false hz
        rw [hd] at hsg
        clear ho2 hz hL0 hd hL g1 g2
        go_wp2_with fail
        refine (CS.out wz brf).mono ?_
        rintro e w5 ⟨rfl, hb5⟩
        have s5 := bth szz hb5
        replace hg := hg.below' hb5
        have y0 := held (hg.cell 0); have y1 := held (hg.cell 1); have y2 := held (hg.cell 2)
        have y3 := held (held p3 w5 hb5)
        have s0' : Below w5.heap.size w5 w5.drew := brf.drew
        obtain ⟨sn, hsn⟩ : ∃ sn : TQ, sn = ⟨x, s.n, s.a, s.c⟩ := ⟨_, rfl⟩
        have ex : x = sn.x := by rw [hsn]
        have e5 : s.n = sn.n := by rw [hsn]
        have e6 : s.a = sn.a := by rw [hsn]
        have e7 : s.c = sn.c := by rw [hsn]
        replace ex := Hd ex; replace e5 := Hd e5; replace e6 := Hd e6; replace e7 := Hd e7
        have hRn := hRS.out w5 hb5
        rw [<- hsn] at hRn
        have how5 := (ho.out.below s5).alloc (.cells #[.bool sn.x.neg, .slice sn.x.a sn.x.n sn.x.c, .slice sn.x.b sn.x.m sn.x.d, .slice sn.a sn.n sn.c] 136)
        have hel : TQ.At sn (w5.alloc (.cells #[.bool sn.x.neg, .slice sn.x.a sn.x.n sn.x.c, .slice sn.x.b sn.x.m sn.x.d, .slice sn.a sn.n sn.c] 136)) w5.heap.size 0 := At.new
        have hw5 := bth hwr s5
        replace hRn := Hd hRn; replace hsn := Hd hsn; replace how5 := Hd how5; replace hel := Hd hel
        clear z0 z1 z2 p3 hRS HK hg
        go_wp2
        refine wp_region_mix (S := Below w5.heap.size w5) [(0, .q), (1, .q), (2, .q), (3, .q), (4, .q), (5, .q), (6, .q), (7, .q), (8, .l), (9, .t), (10, .p)] (by kernel_rfl) (by kernel_rfl) (by kernel_rfl) (fun d _ _ _ _ h => by cases d <;> exact h) (s0') ?_
        iterate 7 (refine wpMix_q rfl rfl (fun K hK => ?_); apply Exists.intro; refine ⟨fun w' hw' => ?_, ?_⟩; (focus (go_simp; try rfl)); go_simp; refine hK _ _ ?_; clear hK K)
        rw [ex.out, e5.out, e6.out, e7.out]
        iterate 1 (refine wpMix_q rfl rfl (fun K hK => ?_); apply Exists.intro; refine ⟨fun w' hw' => ?_, ?_⟩; (focus (go_simp; try rfl)); go_simp; refine hK _ _ ?_; clear hK K)
        refine wpMix_l rfl rfl (fun K hK => ?_)
        go_simp
        refine hK.out _ _ (s0'.alloc s0'.size _) (fun _ => ?_)
        clear hK K
        refine wpMix_t rfl rfl (fun K hK => ?_)
        refine wp_append_tm (B := wo.heap.size) (.tmp 53) (.tmp 61) 76 rfl Tryz.underlying76 ra rc rfl (Own.drew how5.out) sn w5.heap.size 1 rfl hel.out (lo ++ [sn]) rfl (by have := hll.out; simp; omega) (by have := hw5.size; simp; omega) ?_
        intro ra2 rc2 w6 ho6 hg6 ha6
        go_simp
        refine hK.out _ _ ?_
        clear hK K
        iterate 1 (refine wpMix_p rfl rfl (fun K hK => ?_); apply Exists.intro; refine ⟨fun w' => ?_, ?_⟩; (focus (go_simp; try rfl)); go_simp; refine hK _ _ ?_; clear hK K)
        refine wpMix_nil ?_
        replace hg6 : (w5.alloc (.cells #[.bool sn.x.neg, .slice sn.x.a sn.x.n sn.x.c, .slice sn.x.b sn.x.m sn.x.d, .slice sn.a sn.n sn.c] 136)).grownBy w6 (Value.ownBlock (.slice ra lo.length rc)) := ⟨hg6.os, hg6.tape, hg6.output, hg6.size, hg6.block⟩
        replace ha6 : ∃ g, ra2 = some ⟨g, 0, none⟩ /\ (ra = some ⟨g, 0, none⟩ \/ g = (w5.alloc (.cells #[.bool sn.x.neg, .slice sn.x.a sn.x.n sn.x.c, .slice sn.x.b sn.x.m sn.x.d, .slice sn.a sn.n sn.c] 136)).heap.size) := ha6
        have hA6 := push_tm hA.out s5 (brf.alloc (nlr _) (.cells #[.bool sn.x.neg, .slice sn.x.a sn.x.n sn.x.c, .slice sn.x.b sn.x.m sn.x.d, .slice sn.a sn.n sn.c] 136)) (hRn.out.alloc _) hg6 ha6
        have hwo6 : Below wo.heap.size wo w6 := below_append' (hw5.alloc hw5.size (.cells #[.bool sn.x.neg, .slice sn.x.a sn.x.n sn.x.c, .slice sn.x.b sn.x.m sn.x.d, .slice sn.a sn.n sn.c] 136)) how5.out hg6
        replace ho6 := Hd ho6; replace hA6 := Hd hA6
        clear hg6 ha6 how5 hel
        go_wp2
        go_roundg (gk - 2)
        case rel => exact ⟨i + 1, k + 1, lo ++ [sn], po ++ [(u.1 + v.1, u.2)], ra2, rc2, by have := hm.out; show _ = _; omega, by omega, by omega, by simp, by go_num, by go_num, ho6.out, hA6.out, hwo6, by rw [<- ho3.out]; show _ = _; simp, by have := hll.out; show _ <= _; simp; omega⟩
        case measure => have := hm.out; omega
   ·
    have ho3 := hout.out
    have hqn : q.drop k = [] := List.drop_eq_nil_of_le (by omega)
    rw [hqn, addP_nil, hdp.out] at ho3
    replace ho3 := Hd ho3; replace hsr := Hd hsr; replace hqn := Hd hqn
    have e0 := k0 wr sr; have e1 := k1 wr sr; have e2 := k2 wr sr; have e3 := k3 wr sr
    clear k0 k1 k2 k3 hsR fu hout
    have hb5 : Below wr.heap.size wr (wr.alloc (.cells #[.bool s.x.neg, .slice s.x.a s.x.n s.x.c, .slice s.x.b s.x.m s.x.d, .slice s.a s.n s.c] 136)) := by go_grown
    have howc := ((ho.out.below sr).alloc (.cells #[.bool s.x.neg, .slice s.x.a s.x.n s.x.c, .slice s.x.b s.x.m s.x.d, .slice s.a s.n s.c] 136))
    have hel : TQ.At s (wr.alloc (.cells #[.bool s.x.neg, .slice s.x.a s.x.n s.x.c, .slice s.x.b s.x.m s.x.d, .slice s.a s.n s.c] 136)) wr.heap.size 0 := At.new
    have hwoc := bth hwr (bth sr hb5)
    replace howc := Hd howc; replace hel := Hd hel
    go_wp2_with (at_builtin; go_must (refine append_tm (B := wo.heap.size) rfl (.tmp 70) (.tmp 75) 76 rfl Tryz.underlying76 ra rc rfl howc.out s wr.heap.size 1 rfl hel.out (lo ++ [s]) rfl (by have := hll.out; simp; omega) (by have := hwoc.size; simpa using this) ?_); intro ra2 rc2 w6 ho6 hg6 ha6)
    have hA6 := push_tm hA.out sr hb5 ((hsr.out.call sr).call hb5) hg6 ha6
    have hwo6 : Below wo.heap.size wo w6 := below_append' hwoc howc.out hg6
    replace ho6 := Hd ho6; replace hA6 := Hd hA6
    clear hg6 ha6 howc hel hb5 hwoc
    go_wp2
    go_roundg (gk - 1)
    case rel => exact ⟨i + 1, k, lo ++ [s], po ++ [u], ra2, rc2, by have := hm.out; show _ = _; omega, by omega, by omega, by simp, by go_num, rfl, ho6.out, hA6.out, hwo6, by rw [hqn.out, addP_nil, <- ho3.out]; show _ = _; simp, by have := hll.out; show _ <= _; simp; omega⟩
    case measure => have := hm.out; omega
  ·
   have hpn : p.drop i = [] := List.drop_eq_nil_of_le (by omega)
   have hie : ((i : Int) == (p.length : Int)) = true := by simp; omega
   by_cases h2 : k < q.length
   ·
    obtain ⟨v, hv⟩ := get_of_lt h2
    obtain ⟨b2, o2, t, rfl, ht, htR⟩ := HQ.out.get hv
    have htr := lift_row htR hro.out hwr
    obtain ⟨d0, d1, d2, d3⟩ := ht
    have e0 := held d0 wr hwr; have e1 := held d1 wr hwr; have e2 := held d2 wr hwr; have e3 := held d3 wr hwr
    have hdq := Hd (drop_cons hv)
    have ho3 := hout.out
    rw [hpn, addP_nil', hdq.out] at ho3
    replace ho3 := Hd ho3; replace htr := Hd htr; replace hpn := Hd hpn
    clear hv d0 d1 d2 d3 hout htR
    have hb5 : Below wr.heap.size wr (wr.alloc (.cells #[.bool t.x.neg, .slice t.x.a t.x.n t.x.c, .slice t.x.b t.x.m t.x.d, .slice t.a t.n t.c] 136)) := by go_grown
    have howc := ((ho.out.below sr).alloc (.cells #[.bool t.x.neg, .slice t.x.a t.x.n t.x.c, .slice t.x.b t.x.m t.x.d, .slice t.a t.n t.c] 136))
    have hel : TQ.At t (wr.alloc (.cells #[.bool t.x.neg, .slice t.x.a t.x.n t.x.c, .slice t.x.b t.x.m t.x.d, .slice t.a t.n t.c] 136)) wr.heap.size 0 := At.new
    have hwoc := bth hwr (bth sr hb5)
    replace howc := Hd howc; replace hel := Hd hel
    go_wp2_with (at_builtin; go_must (refine append_tm (B := wo.heap.size) rfl (.tmp 82) (.tmp 87) 76 rfl Tryz.underlying76 ra rc rfl howc.out t wr.heap.size 1 rfl hel.out (lo ++ [t]) rfl (by have := hll.out; simp; omega) (by have := hwoc.size; simpa using this) ?_); intro ra2 rc2 w6 ho6 hg6 ha6)
    have hA6 := push_tm hA.out sr hb5 ((htr.out.call sr).call hb5) hg6 ha6
    have hwo6 : Below wo.heap.size wo w6 := below_append' hwoc howc.out hg6
    replace ho6 := Hd ho6; replace hA6 := Hd hA6
    clear hg6 ha6 howc hel hb5 hwoc
    go_wp2
    go_roundg (gk - 1)
    case rel => exact ⟨i, k + 1, lo ++ [t], po ++ [v], ra2, rc2, by have := hm.out; show _ = _; omega, by omega, by omega, by simp, rfl, by go_num, ho6.out, hA6.out, hwo6, by rw [hpn.out, addP_nil', <- ho3.out]; show _ = _; simp, by have := hll.out; show _ <= _; simp; omega⟩
    case measure => have := hm.out; omega
   ·
    have ho3 := hout.out
    rw [hpn, addP_nil', List.drop_eq_nil_of_le (by omega), List.append_nil] at ho3
    subst ho3
    have hP := ho.out.pol hA.out HX.out
    have hRl := hA.out.1
    replace hP := Hd hP; replace hRl := Hd hRl
    clear hA hout hpn HR
    go_wp2
    go_ret
    exact ⟨ra, rc, by rw [<- hRl.out]; rfl, hP.out, hwr⟩
theorem timesR_p (X : Nat -> Prop) (p : List Tm) (q : Rat) (m : List Int) (t : TQ) (a : Option Addr) (ca : Nat) (w : World) (hX : ∀ b, X b -> b < w.heap.size) (hp : PolX X w a ca p) (fp : FineP p) (ht : Rd X w (t.R (q, m))) (ft : FineT (q, m)) :
  Calls Tryz.prog 169 #[.slice a p.length ca, .agg #[.bool t.x.neg, .slice t.x.a t.x.n t.x.c, .slice t.x.b t.x.m t.x.d, .slice t.a t.n t.c]] w (RetP X (timesP p (q, m)) w) := by
 have lp := hp.len
 have l1 := fp.1
 have hln := timesP_len p (q, m)
 have HP := Hd hp; have FP := Hd fp.2; have HX := Hd hX; have HT := Hd ht; have FT := Hd ft
 replace hln := Hd hln
 clear hp fp hX ht ft
 go_enter Tryz.func169, Tryz.ntmps169
 go_wp2
 refine world_gen (fun W => Blk W w.heap.size 136 #[.bool t.x.neg, .slice t.x.a t.x.n t.x.c, .slice t.x.b t.x.m t.x.d, .slice t.a t.n t.c] /\ Below w.heap.size w W) ⟨by ((with_reducible repeat first|assumption|(apply bF;focus omega)|apply bS|(apply bN;focus (simp;done))|apply bA|apply bD);all_goals rfl), by go_grown⟩ ?_
 rintro w0 ⟨hz, hw0⟩
 go_loopg [5, 6] p.length (fun n o qi wr => ∃ (k : Nat) (lo : List TQ) (ra : Option Addr) (rc : Nat), Hid (k + n = p.length) /\ o = .slice ra lo.length rc /\ qi = .int .i64 k /\ Hid (OwnT (w.heap.size + 1) wr ra rc lo) /\ Hid (AllT (Xr X ra) wr lo ((timesP p (q, m)).take k)) /\ Below w.heap.size w wr /\ Blk wr w.heap.size 136 #[.bool t.x.neg, .slice t.x.a t.x.n t.x.c, .slice t.x.b t.x.m t.x.d, .slice t.a t.n t.c])
 case atStart => exact ⟨0, [], none, 0, by show _ = _; omega, rfl, rfl, Own.nil, by show AllT _ _ _ _; rw [List.take_zero]; exact AllT.nil, hw0, hz⟩
 case round =>
  clear hw0 hz
  obtain ⟨k, lo, ra, rc, hm, rfl, rfl, ho, hA, hwr, hz⟩ := hrel
  have hro : Hid (∀ g, ra = some g -> w.heap.size <= g.block) := Hd fun g hg => by have := (ho.out.lt hg).1; omega
  by_cases hk : k < p.length
  ·
   obtain ⟨u, hu⟩ := get_of_lt hk
   obtain ⟨b1, o1, s, rfl, hs, hsR⟩ := HP.out.get hu
   have fu := FP.out u (List.mem_of_getElem? hu)
   have hnx := timesP_get (t := (q, m)) hu
   have hll : lo.length = k := by rw [hA.out.1, List.length_take, hln.out]; omega
   have hlx := Xr_lt (w := w) HX.out (Own.base ho.out (by omega)) hwr.size
   have CM := fun W (hW : Below wr.heap.size wr W) => mulR_q s.x t.x u.1 q 1000 1000 W ((hsR.call (bth hwr hW)).now.qk fu) ((HT.out.call (bth hwr hW)).now.qk FT.out) (by omega) (by omega)
   have CN := fun W (hW : Below wr.heap.size wr W) => mulMR_any u.2 m s.a t.a s.c t.c W (hsR.call (bth hwr hW)).now.2.1 (HT.out.call (bth hwr hW)).now.2.1 100000 (by omega) fu.1 FT.out.1
   have en : s.n = u.2.length := hsR.now.2.2
   have em : t.n = m.length := HT.out.now.2.2
   rw [<- en, <- em] at CN
   obtain ⟨c0, c1, c2, c3⟩ := hs
   have k0 := held (held c0 wr hwr); have k1 := held (held c1 wr hwr); have k2 := held (held c2 wr hwr); have k3 := held (held c3 wr hwr)
   have z0 := held (hz.cell 0); have z1 := held (hz.cell 1); have z2 := held (hz.cell 2); have z3 := held (hz.cell 3)
   have hzl := Hd hz.lt
   replace CM := Hd CM; replace CN := Hd CN; replace hsR := Hd hsR; replace fu := Hd fu; replace hnx := Hd hnx; replace hlx := Hd hlx; replace en := Hd en; replace em := Hd em; replace hll := Hd hll
   clear hu c0 c1 c2 c3
   have s0 : Below wr.heap.size wr wr.drew := brf.drew
   go_wp2
   refine wp_region_mix (S := Below wr.heap.size wr) [(0, .q), (1, .q), (2, .q), (3, .q), (4, .q), (5, .q), (6, .q), (7, .q), (9, .q), (10, .q), (11, .q), (12, .q), (13, .q), (14, .q), (15, .q), (8, .l), (16, .l), (17, .q), (18, .l), (19, .t), (20, .p)] (by kernel_rfl) (by kernel_rfl) (by kernel_rfl) (fun d _ _ _ _ h => by cases d <;> exact h) (s0) ?_
   iterate 15 (refine wpMix_q rfl rfl (fun K hK => ?_); apply Exists.intro; refine ⟨fun w' hw' => ?_, ?_⟩; (focus (go_simp; try rfl)); go_simp; refine hK _ _ ?_; clear hK K)
   refine wpMix_l rfl rfl (fun K hK => ?_)
   go_simp
   refine (CM.out _ s0).mono ?_
   rintro r w3 ⟨x, rfl, HK, hb3⟩
   dsimp only
   refine hK.out _ _ (bth s0 hb3) (fun _ => ?_)
   clear hK K
   have s3 := bth s0 hb3
   refine wpMix_l rfl rfl (fun K hK => ?_)
   go_simp
   refine (CN.out _ s3).mono ?_
   rintro r w5 ⟨a5, c5, rfl, HM, hb5⟩
   dsimp only
   refine hK.out _ _ (bth s3 hb5) (fun _ => ?_)
   clear hK K
   have hb5' := bth s3 hb5
   have s5 := hb5'
   obtain ⟨sn, hsn⟩ : ∃ sn : TQ, sn = ⟨x, (mulM u.2 m).length, a5, c5⟩ := ⟨_, rfl⟩
   have ex : x = sn.x := by rw [hsn]
   have e5 : (mulM u.2 m).length = sn.n := by rw [hsn]
   have e6 : a5 = sn.a := by rw [hsn]
   have e7 : c5 = sn.c := by rw [hsn]
   have hRS : Rd (Xr X ra) w5 (sn.R (u.1 * q, mulM u.2 m)) := by rw [hsn]; exact made_tm (HK.call hb5) HM fun b hb => by have := hlx.out b hb; have := s3.size; exact ⟨ltl (hlx.out b hb) s0.size, by omega⟩
   rw [ex, e5, e6, e7]
   replace hRS := Hd hRS; replace hsn := Hd hsn
   clear HM HK ex e5 e6 e7 z0 z1 z2 z3 k0 k1 k2 k3
   iterate 1 (refine wpMix_q rfl rfl (fun K hK => ?_); apply Exists.intro; refine ⟨fun w' hw' => ?_, ?_⟩; (focus (go_simp; try rfl)); go_simp; refine hK _ _ ?_; clear hK K)
   refine wpMix_l rfl rfl (fun K hK => ?_)
   go_simp
   refine hK.out _ _ (s5.alloc s5.size _) (fun _ => ?_)
   clear hK K
   have ho5 := (ho.out.below hb5').alloc (.cells #[.bool sn.x.neg, .slice sn.x.a sn.x.n sn.x.c, .slice sn.x.b sn.x.m sn.x.d, .slice sn.a sn.n sn.c] 136)
   have hw5 := bth hwr hb5'
   have hel : sn.At (w5.alloc (.cells #[.bool sn.x.neg, .slice sn.x.a sn.x.n sn.x.c, .slice sn.x.b sn.x.m sn.x.d, .slice sn.a sn.n sn.c] 136)) w5.heap.size 0 := At.new
   replace ho5 := Hd ho5; replace hel := Hd hel
   refine wpMix_t rfl rfl (fun K hK => ?_)
   refine wp_append_tm (B := w.heap.size + 1) (.tmp 13) (.tmp 31) 76 rfl Tryz.underlying76 ra rc rfl ho5.out sn w5.heap.size 1 rfl hel.out (lo ++ [sn]) rfl (by have := hll.out; simp; omega) (by have := hzl.out; have := hb5'.size; simp; omega) ?_
   intro ra2 rc2 w6 ho6 hg6 ha6
   go_simp
   refine hK.out _ _ ?_
   clear hK K
   iterate 1 (refine wpMix_p rfl rfl (fun K hK => ?_); apply Exists.intro; refine ⟨fun w' => ?_, ?_⟩; (focus (go_simp; try rfl)); go_simp; refine hK _ _ ?_; clear hK K)
   refine wpMix_nil ?_
   have hA6 := push_tm hA.out hb5' (brf.alloc (nlr _) (.cells #[.bool sn.x.neg, .slice sn.x.a sn.x.n sn.x.c, .slice sn.x.b sn.x.m sn.x.d, .slice sn.a sn.n sn.c] 136)) (hRS.out.alloc _) hg6 ha6
   have hw6 : Below w.heap.size w w6 := below_append' (hw5.alloc hw5.size (.cells #[.bool sn.x.neg, .slice sn.x.a sn.x.n sn.x.c, .slice sn.x.b sn.x.m sn.x.d, .slice sn.a sn.n sn.c] 136)) (Own.base ho5.out (by omega)) hg6
   have hz6 := ((hz.below' hb5').alloc (.cells #[.bool sn.x.neg, .slice sn.x.a sn.x.n sn.x.c, .slice sn.x.b sn.x.m sn.x.d, .slice sn.a sn.n sn.c] 136)).under ho5.out (by omega) hg6
   rw [<- hnx.out] at hA6
   replace ho6 := Hd ho6; replace hA6 := Hd hA6
   clear hg6 ha6 ho5 hel
   go_wp2
   go_roundg (gk - 1)
   case rel => exact ⟨k + 1, lo ++ [sn], ra2, rc2, by have := hm.out; show _ = _; omega, by simp, by go_num, ho6.out, hA6.out, hw6, hz6⟩
   case measure => have := hm.out; omega
  ·
   have hkp : k = p.length := by have := hm.out; omega
   have hA2 := hA.out
   rw [hkp, <- hln.out, List.take_length] at hA2
   have hP := OwnT.pol (Own.base (B' := w.heap.size) ho.out (by omega)) hA2 HX.out
   have hRl := hA2.1
   replace hP := Hd hP; replace hRl := Hd hRl
   clear hA hA2 hkp hz
   go_wp2
   go_ret
   exact ⟨ra, rc, by rw [<- hRl.out]; rfl, hP.out, hwr⟩
theorem scaleP_get {p : List Tm} {q : Rat} {u : Tm} {k : Nat} (h : p[k]? = some u) (h0 : q ≠ 0) : (scaleP p q).take (k + 1) = (scaleP p q).take k ++ [(u.1 * q, u.2)] := by
 unfold scaleP
 rw [if_neg h0]
 exact take_more (by rw [List.getElem?_map, h]; rfl)
theorem scaleR_p (X : Nat -> Prop) (p : List Tm) (x : QA) (q : Rat) (a : Option Addr) (ca : Nat) (w : World) (hX : ∀ b, X b -> b < w.heap.size) (hp : PolX X w a ca p) (fp : FineP p) (hx : Rd X w fun V => QAc V x q) (hq : qsz q <= 1000) (h0 : q ≠ 0) :
  Calls Tryz.prog 178 #[.slice a p.length ca, .agg #[.bool x.neg, .slice x.a x.n x.c, .slice x.b x.m x.d]] w (RetP X (scaleP p q) w) := by
 have lp := hp.len
 have l1 := fp.1
 have hln : (scaleP p q).length = p.length := by unfold scaleP; rw [if_neg h0]; simp
 have CS := fun W (hW : Below w.heap.size w W) => signR_q x q 1000 W ⟨(hx.call hW).now, hq⟩ (by omega)
 have hsg := sgnQ_ne q
 rw [decide_eq_false h0] at hsg
 obtain ⟨S0, hS0⟩ : ∃ S0, sgnQ q = S0 := ⟨_, rfl⟩
 rw [hS0] at CS hsg
 have HP := Hd hp; have FP := Hd fp.2; have HX := Hd hX; have HT := Hd hx; have H0 := Hd h0
 have hqs := hq
 replace hln := Hd hln; replace CS := Hd CS
 clear hp fp hX hx h0 hS0 hq
 go_enter Tryz.func178, Tryz.ntmps178
 go_wp2
 refine world_gen (fun W => Blk W w.heap.size 32 #[.bool x.neg, .slice x.a x.n x.c, .slice x.b x.m x.d] /\ Below w.heap.size w W) ⟨by ((with_reducible repeat first|assumption|(apply bF;focus omega)|apply bS|(apply bN;focus (simp;done))|apply bA|apply bD);all_goals rfl), by go_grown⟩ ?_
 rintro w0 ⟨hz, hw0⟩
 go_loopg [5, 6] p.length (fun n o qi wr => ∃ (k : Nat) (lo : List TQ) (ra : Option Addr) (rc : Nat), Hid (k + n = p.length) /\ o = .slice ra lo.length rc /\ qi = .int .i64 k /\ Hid (OwnT (w.heap.size + 1) wr ra rc lo) /\ Hid (AllT (Xr X ra) wr lo ((scaleP p q).take k)) /\ Below w.heap.size w wr /\ Blk wr w.heap.size 32 #[.bool x.neg, .slice x.a x.n x.c, .slice x.b x.m x.d])
 case atStart => exact ⟨0, [], none, 0, by show _ = _; omega, rfl, rfl, Own.nil, by show AllT _ _ _ _; rw [List.take_zero]; exact AllT.nil, hw0, hz⟩
 case round =>
  clear hw0 hz
  obtain ⟨k, lo, ra, rc, hm, rfl, rfl, ho, hA, hwr, hz⟩ := hrel
  have hro : Hid (∀ g, ra = some g -> w.heap.size <= g.block) := Hd fun g hg => by have := (ho.out.lt hg).1; omega
  by_cases hk : k < p.length
  ·
   obtain ⟨u, hu⟩ := get_of_lt hk
   obtain ⟨b1, o1, s, rfl, hs, hsR⟩ := HP.out.get hu
   have fu := FP.out u (List.mem_of_getElem? hu)
   have hnx := scaleP_get hu H0.out
   have hll : lo.length = k := by rw [hA.out.1, List.length_take, hln.out]; omega
   have hlx := Xr_lt (w := w) HX.out (Own.base ho.out (by omega)) hwr.size
   have CM := fun W (hW : Below w.heap.size w W) => mulR_q s.x x u.1 q 1000 1000 W ((hsR.call hW).now.qk fu) ⟨(HT.out.call hW).now, hqs⟩ (by omega) (by omega)
   have en : s.n = u.2.length := hsR.now.2.2
   have hsr := lift_row hsR hro.out hwr
   obtain ⟨c0, c1, c2, c3⟩ := hs
   have k0 := held c0; have k1 := held c1; have k2 := held c2; have k3 := held c3
   have z0 := hz.cell 0; have z1 := hz.cell 1; have z2 := hz.cell 2
   have hzl := Hd hz.lt
   replace CM := Hd CM; replace hsR := Hd hsR; replace fu := Hd fu; replace hnx := Hd hnx; replace hlx := Hd hlx; replace en := Hd en; replace hll := Hd hll; replace hsr := Hd hsr
   clear hu c0 c1 c2 c3
   go_wp2_with fail
   refine (CS.out wr hwr).mono ?_
   rintro e w1 ⟨rfl, hb1⟩
   have hw1 := bth hwr hb1
   have hz1 := hz.below' hb1
   clear z0 z1 z2
   have i0 := held (k0 w1 hw1); have i1 := held (k1 w1 hw1); have i2 := held (k2 w1 hw1); have i3 := held (k3 w1 hw1)
   have z0 := held (hz1.cell 0); have z1 := held (hz1.cell 1); have z2 := held (hz1.cell 2)
   have s0 : Below w1.heap.size w1 w1.drew := brf.drew
   clear k0 k1 k2 k3 hz1
   go_wp2
   refine wp_region_mix (S := Below w1.heap.size w1) [(0, .q), (1, .q), (2, .q), (3, .q), (4, .q), (5, .q), (6, .q), (8, .q), (9, .q), (10, .q), (11, .q), (12, .q), (7, .l), (13, .q), (14, .l), (15, .t), (16, .p)] (by kernel_rfl) (by kernel_rfl) (by kernel_rfl) (fun d _ _ _ _ h => by cases d <;> exact h) (s0) ?_
   iterate 12 (refine wpMix_q rfl rfl (fun K hK => ?_); apply Exists.intro; refine ⟨fun w' hw' => ?_, ?_⟩; (focus (go_simp; try rfl)); go_simp; refine hK _ _ ?_; clear hK K)
   refine wpMix_l rfl rfl (fun K hK => ?_)
   go_simp
   refine (CM.out _ (bth hw1 s0)).mono ?_
   rintro r w5 ⟨x5, rfl, HK, hb5⟩
   dsimp only
   refine hK.out _ _ (bth s0 hb5) (fun _ => ?_)
   clear hK K
   have s5 := bth s0 hb5
   have hb5' := bth hb1 s5
   obtain ⟨sn, hsn⟩ : ∃ sn : TQ, sn = ⟨x5, s.n, s.a, s.c⟩ := ⟨_, rfl⟩
   have ex : x5 = sn.x := by rw [hsn]
   have e5 : s.n = sn.n := by rw [hsn]
   have e6 : s.a = sn.a := by rw [hsn]
   have e7 : s.c = sn.c := by rw [hsn]
   have hRS : Rd (Xr X ra) w5 (sn.R (u.1 * q, u.2)) := by
    rw [hsn]
    exact ((Rd.kp HK fun b hb => .inl (ltl (hlx.out b hb) (bth hb1 s0).size)).and (hsr.out.call hb5')).imp fun V h => ⟨h.1.1, h.2.2.1, h.2.2.2⟩
   replace ex := Hd ex; replace e5 := Hd e5; replace e6 := Hd e6; replace e7 := Hd e7
   rw [ex.out, e5.out, e6.out, e7.out]
   replace hRS := Hd hRS; replace hsn := Hd hsn
   clear HK z0 z1 z2 i0 i1 i2 i3
   iterate 1 (refine wpMix_q rfl rfl (fun K hK => ?_); apply Exists.intro; refine ⟨fun w' hw' => ?_, ?_⟩; (focus (go_simp; try rfl)); go_simp; refine hK _ _ ?_; clear hK K)
   refine wpMix_l rfl rfl (fun K hK => ?_)
   go_simp
   refine hK.out _ _ (s5.alloc s5.size _) (fun _ => ?_)
   clear hK K
   have ho5 := (ho.out.below hb5').alloc (.cells #[.bool sn.x.neg, .slice sn.x.a sn.x.n sn.x.c, .slice sn.x.b sn.x.m sn.x.d, .slice sn.a sn.n sn.c] 136)
   have hw5 := bth hwr hb5'
   have hel : sn.At (w5.alloc (.cells #[.bool sn.x.neg, .slice sn.x.a sn.x.n sn.x.c, .slice sn.x.b sn.x.m sn.x.d, .slice sn.a sn.n sn.c] 136)) w5.heap.size 0 := At.new
   replace ho5 := Hd ho5; replace hel := Hd hel
   refine wpMix_t rfl rfl (fun K hK => ?_)
   refine wp_append_tm (B := w.heap.size + 1) (.tmp 18) (.tmp 32) 76 rfl Tryz.underlying76 ra rc rfl ho5.out sn w5.heap.size 1 rfl hel.out (lo ++ [sn]) rfl (by have := hll.out; simp; omega) (by have := hzl.out; have := hb5'.size; simp; omega) ?_
   intro ra2 rc2 w6 ho6 hg6 ha6
   go_simp
   refine hK.out _ _ ?_
   clear hK K
   iterate 1 (refine wpMix_p rfl rfl (fun K hK => ?_); apply Exists.intro; refine ⟨fun w' => ?_, ?_⟩; (focus (go_simp; try rfl)); go_simp; refine hK _ _ ?_; clear hK K)
   refine wpMix_nil ?_
   have hA6 := push_tm hA.out hb5' (brf.alloc (nlr _) (.cells #[.bool sn.x.neg, .slice sn.x.a sn.x.n sn.x.c, .slice sn.x.b sn.x.m sn.x.d, .slice sn.a sn.n sn.c] 136)) (hRS.out.alloc _) hg6 ha6
   have hw6 : Below w.heap.size w w6 := below_append' (hw5.alloc hw5.size (.cells #[.bool sn.x.neg, .slice sn.x.a sn.x.n sn.x.c, .slice sn.x.b sn.x.m sn.x.d, .slice sn.a sn.n sn.c] 136)) (Own.base ho5.out (by omega)) hg6
   have hz6 := ((hz.below' hb5').alloc (.cells #[.bool sn.x.neg, .slice sn.x.a sn.x.n sn.x.c, .slice sn.x.b sn.x.m sn.x.d, .slice sn.a sn.n sn.c] 136)).under ho5.out (by omega) hg6
   rw [<- hnx.out] at hA6
   replace ho6 := Hd ho6; replace hA6 := Hd hA6
   clear hg6 ha6 ho5 hel
   go_wp2
   go_roundg (gk - 1)
   case rel => exact ⟨k + 1, lo ++ [sn], ra2, rc2, by have := hm.out; show _ = _; omega, by simp, by go_num, ho6.out, hA6.out, hw6, hz6⟩
   case measure => have := hm.out; omega
  ·
   have hkp : k = p.length := by have := hm.out; omega
   have hA2 := hA.out
   rw [hkp, <- hln.out, List.take_length] at hA2
   have hP := OwnT.pol (Own.base (B' := w.heap.size) ho.out (by omega)) hA2 HX.out
   have hRl := hA2.1
   replace hP := Hd hP; replace hRl := Hd hRl
   clear hA hA2 hkp hz
   go_wp2
   go_ret
   exact ⟨ra, rc, by rw [<- hRl.out]; rfl, hP.out, hwr⟩
end Go.Proofs.YtdnblkklgdnapaaGreat
