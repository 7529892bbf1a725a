/- Walks: the sign of a fraction whose denominator is not 0, by the reference. -/
import Derived.Test.YtkjnkpkagcboeaaGreatDoorCa5
import Derived.LoopN
import Derived.Test.YtkjnkpkagcboeaaGreatDoorCa1
import Derived.Test.YtkjnkpkagcboeaaGreatDoorCa4
set_option linter.all false
set_option maxRecDepth 100000
set_option maxHeartbeats 4000000
namespace Go.Proofs.YtkjnkpkagcboeaaGreatDoor
open Go.RowKit
theorem sum2_any (s1 s2:Bool) (n1 n2:Nat) (a1 a2:Option Addr) (c1 c2 g cp:Nat) (w:World) (r1:NatR w a1 c1 (limbs n1)) (r2:NatR w a2 c2 (limbs n2)) (l1:(limbs n1).length <= 2000000) (l2:(limbs n2).length <= 2000000)
  (k0:w.cell? ⟨g,0,none⟩ = some (.bool s1)) (k1:w.cell? ⟨g,1,none⟩ = some (.slice a1 (limbs n1).length c1)) (k2:w.cell? ⟨g,2,none⟩ = some (.bool s2)) (k3:w.cell? ⟨g,3,none⟩ = some (.slice a2 (limbs n2).length c2)) :
  Calls Tryz.prog 122 #[.slice (some ⟨g,0,none⟩) 2 cp] w (RetI (zval s1 n1 + zval s2 n2) w):=by
 have hg:=World.block_lt_of_cell? w _ k0;simp only at hg;have C1:=fun a c W (hW:Below w.heap.size w W) (h:NatR W a c (limbs 0))=>zadd_any false s1 (limbs 0) (limbs n1) 0 n1 a a1 c c1 W h (r1.ext (xbw hW)) (val_limbs _) (val_limbs _) (by rw [limbs_zero]; decide) (by omega)
 have e0:zval false 0 + zval s1 n1 = zval s1 n1:=by simp [zval]
 simp only [e0,limbs_zero] at C1;have C2:=fun a c W (hW:Below w.heap.size w W) h=>zadd_any (decide (zval s1 n1 < 0)) s2 (limbs (zval s1 n1).natAbs) (limbs n2) (zval s1 n1).natAbs n2 a a2 c c2 W h (r2.ext (xbw hW)) (val_limbs _) (val_limbs _) (by rw [zval_abs]; omega) (by omega)
 simp only [zval_self] at C2;revert C1 C2;generalize zval s1 n1 = zz;obtain ⟨z,hz⟩:∃ z,zz + zval s2 n2 = z:=⟨_,rfl⟩
 rw [hz];intro C1 C2;unfold RetI RetZ at C1 C2 ⊢;replace C1:=Hd C1; replace C2:=Hd C2;have K0:=Hd (fun W (hW:Below w.heap.size w W)=>held k0 W hW); have K1:=Hd (fun W (hW:Below w.heap.size w W)=>held k1 W hW); have K2:=Hd (fun W (hW:Below w.heap.size w W)=>held k2 W hW); have K3:=Hd (fun W (hW:Below w.heap.size w W)=>held k3 W hW);clear r1 r2 l1 l2 k0 k1 k2 k3 hz e0;go_enter Tryz.func122,Tryz.ntmps122;go_wp2;refine world_gen (fun W=>Blk W w.heap.size 52 #[.bool false,.slice none 0 0] /\ Blk W (w.heap.size + 1) 52 #[.bool false,.slice none 0 0] /\ Below w.heap.size w W /\ w.heap.size < w.heap.size + 1 /\ w.heap.size + 1 < W.heap.size) ⟨(Blk.new w _ _).alloc _,blk_at1 w _ _ _,by go_grown,by omega,by simp⟩ ?_;rintro w0 ⟨hx,hy,hw0,hg1,hg2⟩;revert hx hy hg1 hg2;generalize w.heap.size + 1 = g2;intro hx hy hg1 hg2;refine wp_loop_rounds 3 ?_;rw [rounds_succ]
 have z0:=K0.out _ hw0; have z1:=K1.out _ hw0; have y0:=hy.cell 0; have y1:=hy.cell 1; have ltg:g < w0.heap.size:=by omega
 have lt2:=hy.lt;go_wp2_with fail;refine calls_gen (fun W=>Blk W w.heap.size 52 #[.bool false,.slice none 0 0] /\ Blk W g2 52 #[.bool false,.slice none 0 0] /\ Below w.heap.size w W /\ w0.heap.size < W.heap.size) ⟨by ((with_reducible repeat first|assumption|(apply bF;focus omega)|apply bS|(apply bN;focus (simp;done))|apply bA|apply bD);all_goals rfl),by ((with_reducible repeat first|assumption|(apply bF;focus omega)|apply bS|(apply bN;focus (simp;done))|apply bA|apply bD);all_goals rfl),by go_grown,by simp⟩ ?_;clear z0 z1 y0 y1 ltg lt2 hx hy;rintro w1 ⟨hx,hy,hw1,hs1⟩;refine (C1.out none 0 _ hw1 SlR.nil).mono ?_;rintro e w2 ⟨a5,c5,rfl,hV,hb2⟩;replace hx:=hx.below' hb2;replace hy:=hy.below' hb2;have hw2:=bth hw1 hb2;have hs2:=hb2.size;have H5:Kp (fun V=>NatR V a5 c5 (limbs zz.natAbs)) w1.heap.size w2.heap.size w2:=Kp.made hV;replace H5:=Hd H5;clear hV
 obtain ⟨b1,hb1⟩:∃ b,decide (zz < 0) = b:=⟨_,rfl⟩
 rw [hb1];have C3:=C2.out;rw [hb1] at C3;replace C3:=Hd C3;clear C2 hb1;have f0:=hy.frozen 0; have f1:=hy.frozen 1; have y0:=hy.cell 0; have y1:=hy.cell 1;go_wp2;rw [rounds_succ];refine world_gen (fun W=>Blk W w.heap.size 52 #[.bool false,.slice none 0 0] /\ Blk W g2 52 #[.bool b1,.slice a5 (limbs zz.natAbs).length c5] /\ Below w.heap.size w W /\ w2.heap.size <= W.heap.size /\ Kp (fun V=>NatR V a5 c5 (limbs zz.natAbs)) w1.heap.size w2.heap.size W) ⟨by ((with_reducible repeat first|assumption|(apply bF;focus omega)|apply bS|(apply bN;focus (simp;done))|apply bA|apply bD);all_goals rfl),by ((with_reducible repeat first|assumption|(apply bF;focus omega)|apply bS|(apply bN;focus (simp;done))|apply bA|apply bD);all_goals rfl),by go_grown,by simp,by (with_reducible repeat first | exact H5.out | (refine Kp.setc ?_ ?_; focus omega) | refine Kp.alloc ?_ | refine Kp.drew ?_)⟩ ?_
 clear f0 f1 y0 y1 hx hy H5;rintro w3 ⟨hx,hy,hw3,hs3,H5⟩;replace H5:=Hd H5;have z0:=K2.out _ hw3; have z1:=K3.out _ hw3; have y0:=hy.cell 0; have y1:=hy.cell 1; have ltg:g < w3.heap.size:=by omega
 have lt2:=hy.lt;go_wp2_with fail;refine calls_gen (fun W=>Blk W w.heap.size 52 #[.bool false,.slice none 0 0] /\ Blk W g2 52 #[.bool b1,.slice a5 (limbs zz.natAbs).length c5] /\ Below w.heap.size w W /\ w3.heap.size < W.heap.size /\ Kp (fun V=>NatR V a5 c5 (limbs zz.natAbs)) w1.heap.size w2.heap.size W) ⟨by ((with_reducible repeat first|assumption|(apply bF;focus omega)|apply bS|(apply bN;focus (simp;done))|apply bA|apply bD);all_goals rfl),by ((with_reducible repeat first|assumption|(apply bF;focus omega)|apply bS|(apply bN;focus (simp;done))|apply bA|apply bD);all_goals rfl),by go_grown,by simp,by (with_reducible repeat first | exact H5.out | (refine Kp.setc ?_ ?_; focus omega) | refine Kp.alloc ?_ | refine Kp.drew ?_)⟩ ?_;clear z0 z1 y0 y1 ltg lt2 hx hy H5;rintro w4 ⟨hx,hy,hw4,hs4,H5⟩;refine (C3.out a5 c5 _ hw4 H5.now).mono ?_;rintro e w5 ⟨a6,c6,rfl,hV,hb5⟩;replace hx:=hx.below' hb5
 replace hy:=hy.below' hb5;have hw5:=bth hw4 hb5;have hs5:=hb5.size;have H6:Kp (fun V=>NatR V a6 c6 (limbs z.natAbs)) w4.heap.size w5.heap.size w5:=Kp.made hV;replace H6:=Hd H6;obtain ⟨b2,hb2⟩:∃ b,decide (z < 0) = b:=⟨_,rfl⟩
 rw [hb2];have HB2:=Hd hb2;clear hV H5 hb2 C1 C3 K0 K1 K2 K3;have f0:=hy.frozen 0; have f1:=hy.frozen 1; have y0:=hy.cell 0; have y1:=hy.cell 1;go_wp2;rw [rounds_succ];refine world_gen (fun W=>Blk W w.heap.size 52 #[.bool false,.slice none 0 0] /\ Blk W g2 52 #[.bool b2,.slice a6 (limbs z.natAbs).length c6] /\ Below w.heap.size w W /\ w5.heap.size <= W.heap.size /\ Kp (fun V=>NatR V a6 c6 (limbs z.natAbs)) w4.heap.size w5.heap.size W) ⟨by ((with_reducible repeat first|assumption|(apply bF;focus omega)|apply bS|(apply bN;focus (simp;done))|apply bA|apply bD);all_goals rfl),by ((with_reducible repeat first|assumption|(apply bF;focus omega)|apply bS|(apply bN;focus (simp;done))|apply bA|apply bD);all_goals rfl),by go_grown,by simp,by (with_reducible repeat first | exact H6.out | (refine Kp.setc ?_ ?_; focus omega) | refine Kp.alloc ?_ | refine Kp.drew ?_)⟩ ?_;clear f0 f1 y0 y1 hx hy H6
 rintro w6 ⟨hx,hy,hw6,hs6,H6⟩;replace H6:=Hd H6;have x0:=hx.cell 0; have x1:=hx.cell 1; have f0:=hx.frozen 0; have f1:=hx.frozen 1; have y0:=hy.cell 0; have y1:=hy.cell 1;go_wp2;refine world_gen (fun W=>Blk W w.heap.size 52 #[.bool b2,.slice a6 (limbs z.natAbs).length c6] /\ Below w.heap.size w W /\ Kp (fun V=>NatR V a6 c6 (limbs z.natAbs)) w4.heap.size w5.heap.size W) ⟨by ((with_reducible repeat first|assumption|(apply bF;focus omega)|apply bS|(apply bN;focus (simp;done))|apply bA|apply bD);all_goals rfl),by go_grown,by (with_reducible repeat first | exact H6.out | (refine Kp.setc ?_ ?_; focus omega) | refine Kp.alloc ?_ | refine Kp.drew ?_)⟩ ?_;rintro w7 ⟨hF,hw7,H7⟩;have e0:=hF.cell 0; have e1:=hF.cell 1;refine bodyPost_ret (v:=.agg #[.bool b2,.slice a6 (limbs z.natAbs).length c6]) (by simp [results,Tryz.results122,go_sem,e0,e1]) rfl ?_
 exact ⟨a6,c6,by rw [HB2.out],H7.fin hw4.size,hw7⟩
theorem one_at (d:Nat) (b:Option Addr) (c:Nat) (w:World) (h:NatR w b c (limbs d)) (f:Bool) (hf:decide (d = 1) = f) :
  Calls Tryz.prog 98 #[.slice b (limbs d).length c] w fun e w'=>e = .returned (.bool f) /\ Below w.heap.size w w':=by
 subst hf;have:=one_any (limbs d) b c w h;rw [one_limbs] at this;exact this
theorem qsum_nat (s1 s2:Bool) (P1 D1 P2 D2:Nat):(zval s1 (P1 * D2) + zval s2 (P2 * D1)).natAbs <= P1 * D2 + P2 * D1:=by
 have h1:=zval_abs s1 (P1 * D2);have h2:=zval_abs s2 (P2 * D1)
 omega
theorem qadd_ones (s1 s2:Bool) (P1 D1 P2 D2:Nat) (a1 b1 a2 b2:Option Addr) (c1 d1 c2 d2:Nat) (w:World) (r1:NatR w a1 c1 (limbs P1)) (r2:NatR w b1 d1 (limbs D1)) (r3:NatR w a2 c2 (limbs P2)) (r4:NatR w b2 d2 (limbs D2))
  (hD1:D1 = 1) (hD2:D2 = 1) (l1:(limbs P1).length <= 400000) (l3:(limbs P2).length <= 400000) :
  Calls Tryz.prog 75 #[.agg #[.bool s1,.slice a1 (limbs P1).length c1,.slice b1 (limbs D1).length d1],.agg #[.bool s2,.slice a2 (limbs P2).length c2,.slice b2 (limbs D2).length d2]] w (RetF (lowest (decide (zval s1 P1 + zval s2 P2 < 0)) (zval s1 P1 + zval s2 P2).natAbs D1) w):=by
 have lo:(limbs 1).length <= 400000:=Nat.le_trans (limbs_len_le (k:=1) (by decide)) (by decide);have l2:(limbs D1).length <= 400000:=by rw [hD1]; exact lo
 have l4:(limbs D2).length <= 400000:=by rw [hD2]; exact lo
 have CP1:=fun W (hW:Below w.heap.size w W)=>parts_any s1 (limbs P1) (limbs D1) a1 b1 c1 d1 W (r2.ext (xbw hW)) (by rw [val_limbs]; omega) (by omega)
 have CP2:=fun W (hW:Below w.heap.size w W)=>parts_any s2 (limbs P2) (limbs D2) a2 b2 c2 d2 W (r4.ext (xbw hW)) (by rw [val_limbs]; omega) (by omega)
 have CO1:=fun W (hW:Below w.heap.size w W)=>one_at D1 b1 d1 W (r2.ext (xbw hW)) true (by simpa using hD1)
 have CO2:=fun W (hW:Below w.heap.size w W)=>one_at D2 b2 d2 W (r4.ext (xbw hW)) true (by simpa using hD2)
 have CS:=fun g W (hW:Below w.heap.size w W)=>sum2_any s1 s2 P1 P2 a1 a2 c1 c2 g 2 W (r1.ext (xbw hW)) (r3.ext (xbw hW)) (by omega) (by omega)
 have hsz:=Nat.le_trans (limbs_len_mono (show (zval s1 P1 + zval s2 P2).natAbs <= P1 + P2 by have:=zval_abs s1 P1; have:=zval_abs s2 P2; omega)) (limbs_len_add P1 P2);revert CS hsz;generalize zval s1 P1 + zval s2 P2 = z;intro CS hsz;have CR:=fun a c W (hW:Below w.heap.size w W) h=>reduced_any (decide (z < 0)) (limbs z.natAbs) (limbs D1) z.natAbs D1 a b1 c d1 W h (r2.ext (xbw hW)) (val_limbs _) (val_limbs _) (by omega) (by omega)
 obtain ⟨t,ht⟩:∃ t,lowest (decide (z < 0)) z.natAbs D1 = t:=⟨_,rfl⟩
 rw [ht] at CR ⊢;obtain ⟨s,N,D⟩:=t;unfold RetI RetZ at CS;obtain ⟨R,hR⟩:∃ R,decide (z < 0) = R:=⟨_,rfl⟩
 rw [hR] at CR CS;unfold RetF at CR ⊢;dsimp only at CR ⊢;replace CP1:=Hd CP1; replace CP2:=Hd CP2; replace CO1:=Hd CO1; replace CO2:=Hd CO2; replace CR:=Hd CR; replace CS:=Hd CS;clear r1 r2 r3 r4 hD1 hD2 ht hR hsz lo l2 l4;go_enter Tryz.func75,Tryz.ntmps75;go_wp2_with fail;refine calls_gen (fun W=>Blk W w.heap.size 54 #[.bool s1,.slice a1 (limbs P1).length c1,.slice b1 (limbs D1).length d1] /\ Blk W (w.heap.size + 1) 54 #[.bool s2,.slice a2 (limbs P2).length c2,.slice b2 (limbs D2).length d2] /\ Blk W (w.heap.size + 1 + 1) 54 #[.bool false,.slice none 0 0,.slice none 0 0] /\ Below w.heap.size w W /\ w.heap.size < w.heap.size + 1 /\ w.heap.size + 1 < w.heap.size + 1 + 1 /\ w.heap.size + 1 + 1 < W.heap.size) ⟨((Blk.new w _ _).alloc _).alloc _,(blk_at1 w _ _ _).alloc _,blk_at2 w _ _ _ _,by go_grown,by omega,by omega,by simp⟩ ?_;rintro w0 ⟨hx,hy,hz,hw0,hg1,hg2,hg3⟩
 revert hx hy hz hg1 hg2 hg3;generalize w.heap.size + 1 + 1 = g3;generalize w.heap.size + 1 = g2;intro hx hy hz hg1 hg2 hg3;refine (CP1.out _ hw0).mono ?_;rintro e w1 ⟨rfl,hb1⟩;replace hy:=hy.below' hb1;replace hz:=hz.below' hb1;have hw1:=bth hw0 hb1;have hs1:=hb1.size;clear hx;have z0:=hy.cell 0; have z1:=hy.cell 1; have z2:=hy.cell 2; have lt2:=hy.lt; have lt3:=hz.lt;go_wp2_with fail;refine calls_gen (fun W=>Blk W w1.heap.size 52 #[.bool s1,.slice a1 (limbs P1).length c1] /\ Blk W g3 54 #[.bool false,.slice none 0 0,.slice none 0 0] /\ Below w.heap.size w W /\ w1.heap.size < W.heap.size) ⟨by ((with_reducible repeat first|assumption|(apply bF;focus omega)|apply bS|(apply bN;focus (simp;done))|apply bA|apply bD);all_goals rfl),by ((with_reducible repeat first|assumption|(apply bF;focus omega)|apply bS|(apply bN;focus (simp;done))|apply bA|apply bD);all_goals rfl),by go_grown,by simp⟩ ?_
 clear z0 z1 z2 lt2 lt3 hy hz;rintro w2 ⟨hu,hz,hw2,hs2⟩;refine (CP2.out _ hw2).mono ?_;rintro e w3 ⟨rfl,hb3⟩;replace hu:=hu.below' hb3;replace hz:=hz.below' hb3;have hw3:=bth hw2 hb3;have hs3:=hb3.size;have hlt3:w1.heap.size < w3.heap.size:=by omega
 go_wp2_with fail;refine calls_gen (fun W=>Blk W w1.heap.size 52 #[.bool s1,.slice a1 (limbs P1).length c1] /\ Blk W w3.heap.size 52 #[.bool s2,.slice a2 (limbs P2).length c2] /\ Blk W g3 54 #[.bool false,.slice none 0 0,.slice none 0 0] /\ Below w.heap.size w W /\ w3.heap.size < W.heap.size) ⟨by ((with_reducible repeat first|assumption|(apply bF;focus omega)|apply bS|(apply bN;focus (simp;done))|apply bA|apply bD);all_goals rfl),by ((with_reducible repeat first|assumption|(apply bF;focus omega)|apply bS|(apply bN;focus (simp;done))|apply bA|apply bD);all_goals rfl),by ((with_reducible repeat first|assumption|(apply bF;focus omega)|apply bS|(apply bN;focus (simp;done))|apply bA|apply bD);all_goals rfl),by go_grown,by simp⟩ ?_;clear hu hz;rintro w4 ⟨hu,hv,hz,hw4,hs4⟩;refine (CO1.out _ hw4).mono ?_;rintro e w5 ⟨rfl,hb5⟩;replace hu:=hu.below' hb5;replace hv:=hv.below' hb5
 replace hz:=hz.below' hb5;have hw5:=bth hw4 hb5;have hs5:=hb5.size;go_wp2_with fail;refine (CO2.out _ hw5).mono ?_;rintro e w6 ⟨rfl,hb6⟩;replace hu:=hu.below' hb6;replace hv:=hv.below' hb6;replace hz:=hz.below' hb6;have hw6:=bth hw5 hb6;have hs6:=hb6.size;have z0:=hu.cell 0; have z1:=hu.cell 1; have z2:=hv.cell 0; have z3:=hv.cell 1; have lt1:=hu.lt; have lt2:=hv.lt;go_wp2_with fail;refine calls_gen (fun W=>W.cell? ⟨w6.heap.size,0,none⟩ = some (.bool s1) /\ W.cell? ⟨w6.heap.size,1,none⟩ = some (.slice a1 (limbs P1).length c1) /\ W.cell? ⟨w6.heap.size,2,none⟩ = some (.bool s2) /\ W.cell? ⟨w6.heap.size,3,none⟩ = some (.slice a2 (limbs P2).length c2) /\ Blk W g3 54 #[.bool false,.slice none 0 0,.slice none 0 0] /\ Below w.heap.size w W /\ w6.heap.size < W.heap.size)
  ⟨(Blk.new w6 _ _).cell 0,(Blk.new w6 _ _).cell 1,(Blk.new w6 _ _).cell 2,(Blk.new w6 _ _).cell 3,by ((with_reducible repeat first|assumption|(apply bF;focus omega)|apply bS|(apply bN;focus (simp;done))|apply bA|apply bD);all_goals rfl),by go_grown,by simp⟩ ?_
 clear z0 z1 z2 z3 lt1 lt2 hu hv hz;rintro w7 ⟨k0,k1,k2,k3,hz,hw7,hs7⟩;refine (CS.out w6.heap.size w7 hw7 k0 k1 k2 k3).mono ?_;rintro e w8 ⟨a7,c7,rfl,hV,hb8⟩;replace hz:=hz.below' hb8;have hw8':=bth hw7 hb8;have hs8:=hb8.size;have CG:=CR.out a7 c7 w8 hw8' (hV w8 (New.refl _ _));replace CG:=Hd CG;clear hV k0 k1 k2 k3;go_wp2_with fail;refine CG.out.mono ?_;rintro e w9 ⟨a8,c8,b8,d8,rfl,hV1,hV2,hb9⟩;replace hz:=hz.below' hb9;have hw8:=bth hw8' hb9;have hwB:=hw8'.size;have HV1:=Hd hV1;have HV2:=Hd hV2;clear hV1 hV2;have z0:=hz.cell 0; have z1:=hz.cell 1; have z2:=hz.cell 2; have f0:=hz.frozen 0; have f1:=hz.frozen 1; have f2:=hz.frozen 2;go_wp2;have hF:=blk3 (x:=.bool s) (y:=.slice a8 (limbs N).length c8) (z:=.slice b8 (limbs D).length d8) hz;have e0:=hF.cell 0; have e1:=hF.cell 1; have e2:=hF.cell 2
 refine bodyPost_ret (v:=.agg #[.bool s,.slice a8 (limbs N).length c8,.slice b8 (limbs D).length d8]) (by simp [results,Tryz.results75,go_sem,e0,e1,e2]) rfl ?_;exact ⟨a8,c8,b8,d8,rfl,fun V hV=>HV1.out V (back3 hV hwB (by omega)),fun V hV=>HV2.out V (back3 hV hwB (by omega)),below3 hw8 (by omega)⟩
theorem qadd_cross (s1 s2:Bool) (P1 D1 P2 D2:Nat) (a1 b1 a2 b2:Option Addr) (c1 d1 c2 d2:Nat) (w:World) (r1:NatR w a1 c1 (limbs P1)) (r2:NatR w b1 d1 (limbs D1)) (r3:NatR w a2 c2 (limbs P2)) (r4:NatR w b2 d2 (limbs D2))
  (hD1:D1 ≠ 0) (hD2:D2 ≠ 0) (l1:(limbs P1).length <= 400000) (l2:(limbs D1).length <= 400000) (l3:(limbs P2).length <= 400000) (l4:(limbs D2).length <= 400000) (hne:¬ (D1 = 1 /\ D2 = 1)) :
  Calls Tryz.prog 75 #[.agg #[.bool s1,.slice a1 (limbs P1).length c1,.slice b1 (limbs D1).length d1],.agg #[.bool s2,.slice a2 (limbs P2).length c2,.slice b2 (limbs D2).length d2]] w (RetF (lowest (decide (zval s1 (P1 * D2) + zval s2 (P2 * D1) < 0)) (zval s1 (P1 * D2) + zval s2 (P2 * D1)).natAbs (D1 * D2)) w):=by
 have m1:=limbs_len_mul P1 D2;have m2:=limbs_len_mul P2 D1;have m3:=limbs_len_mul D1 D2;have m4:=Nat.le_trans (limbs_len_mono (qsum_nat s1 s2 P1 D1 P2 D2)) (limbs_len_add _ _);have CP1:=fun W (hW:Below w.heap.size w W)=>parts_any s1 (limbs P1) (limbs D1) a1 b1 c1 d1 W (r2.ext (xbw hW)) (by rw [val_limbs]; exact hD1) (by omega)
 have CP2:=fun W (hW:Below w.heap.size w W)=>parts_any s2 (limbs P2) (limbs D2) a2 b2 c2 d2 W (r4.ext (xbw hW)) (by rw [val_limbs]; exact hD2) (by omega)
 have CO1:=fun f hf W (hW:Below w.heap.size w W)=>one_at D1 b1 d1 W (r2.ext (xbw hW)) f hf
 have CO2:=fun f hf W (hW:Below w.heap.size w W)=>one_at D2 b2 d2 W (r4.ext (xbw hW)) f hf
 have CZ1:=fun W (hW:Below w.heap.size w W)=>zmul_any s1 false (limbs P1) (limbs D2) P1 D2 a1 b2 c1 d2 W (r1.ext (xbw hW)) (r4.ext (xbw hW)) (val_limbs _) (val_limbs _) (by omega) (by omega)
 have CZ2:=fun W (hW:Below w.heap.size w W)=>zmul_any s2 false (limbs P2) (limbs D1) P2 D1 a2 b1 c2 d1 W (r3.ext (xbw hW)) (r2.ext (xbw hW)) (val_limbs _) (val_limbs _) (by omega) (by omega)
 have x1:(s1 != false) = s1:=by cases s1 <;> rfl
 have x2:(s2 != false) = s2:=by cases s2 <;> rfl
 simp only [x1] at CZ1;simp only [x2] at CZ2;have CS:=fun g a b c d W h h'=>sum2_any (s1 && decide (0 < P1 * D2)) (s2 && decide (0 < P2 * D1)) (P1 * D2) (P2 * D1) a b c d g 2 W h h' (by omega) (by omega)
 simp only [zval_pos] at CS;have CN:=fun W (hW:Below w.heap.size w W)=>nmul_any (limbs D1) (limbs D2) D1 D2 b1 b2 d1 d2 W (r2.ext (xbw hW)) (r4.ext (xbw hW)) (val_limbs _) (val_limbs _) (by omega) (by omega)
 revert CS m4;generalize zval s1 (P1 * D2) + zval s2 (P2 * D1) = z;intro m4 CS;have CR:=fun a b c d W h h'=>reduced_any (decide (z < 0)) (limbs z.natAbs) (limbs (D1 * D2)) z.natAbs (D1 * D2) a b c d W h h' (val_limbs _) (val_limbs _) (by omega) (by omega)
 obtain ⟨t,ht⟩:∃ t,lowest (decide (z < 0)) z.natAbs (D1 * D2) = t:=⟨_,rfl⟩
 rw [ht] at CR ⊢;obtain ⟨s,N,D⟩:=t;unfold RetI RetZ at CS;obtain ⟨R,hR⟩:∃ R,decide (z < 0) = R:=⟨_,rfl⟩
 rw [hR] at CR;simp only [hR] at CS;obtain ⟨p1,hp1⟩:∃ q,(s1 && decide (0 < P1 * D2)) = q:=⟨_,rfl⟩
 obtain ⟨p2,hp2⟩:∃ q,(s2 && decide (0 < P2 * D1)) = q:=⟨_,rfl⟩
 simp only [hp1] at CZ1 CS;simp only [hp2] at CZ2 CS;unfold RetF at CR ⊢;dsimp only at CR ⊢;have W1:=fun W=>wholeP_any (limbs D2).length b2 d2 W
 have W2:=fun W=>wholeP_any (limbs D1).length b1 d1 W
 clear ht hR hp1 hp2 x1 x2 m1 m2 m3 m4 hD1 hD2;obtain ⟨PP,hPP⟩:∃ q,P1 * D2 = q:=⟨_,rfl⟩
 obtain ⟨DD,hDD⟩:∃ q,P2 * D1 = q:=⟨_,rfl⟩
 obtain ⟨MM,hMM⟩:∃ q,D1 * D2 = q:=⟨_,rfl⟩
 simp only [hPP] at CZ1 CS;simp only [hDD] at CZ2 CS;simp only [hMM] at CN CR;clear hPP hDD hMM;replace W1:=Hd W1; replace W2:=Hd W2;replace CP1:=Hd CP1; replace CP2:=Hd CP2; replace CZ1:=Hd CZ1; replace CZ2:=Hd CZ2; replace CR:=Hd CR; replace CS:=Hd CS; replace CN:=Hd CN;by_cases ho1:D1 = 1
 ·
  replace CO1:=Hd (CO1 true (by simpa using ho1)); replace CO2:=Hd (CO2 false (by rw [decide_eq_false_iff_not]; intro e; exact hne ⟨ho1,e⟩));clear r1 r2 r3 r4 hne ho1;go_enter Tryz.func75,Tryz.ntmps75;go_wp2_with fail;refine calls_gen (fun W=>Blk W w.heap.size 54 #[.bool s1,.slice a1 (limbs P1).length c1,.slice b1 (limbs D1).length d1] /\ Blk W (w.heap.size + 1) 54 #[.bool s2,.slice a2 (limbs P2).length c2,.slice b2 (limbs D2).length d2] /\ Blk W (w.heap.size + 1 + 1) 54 #[.bool false,.slice none 0 0,.slice none 0 0] /\ Below w.heap.size w W /\ w.heap.size < w.heap.size + 1 /\ w.heap.size + 1 < w.heap.size + 1 + 1 /\ w.heap.size + 1 + 1 < W.heap.size) ⟨((Blk.new w _ _).alloc _).alloc _,(blk_at1 w _ _ _).alloc _,blk_at2 w _ _ _ _,by go_grown,by omega,by omega,by simp⟩ ?_;rintro w0 ⟨hx,hy,hz,hw0,hg1,hg2,hg3⟩;revert hx hy hz hg1 hg2 hg3;generalize w.heap.size + 1 + 1 = g3
  generalize w.heap.size + 1 = g2;intro hx hy hz hg1 hg2 hg3;refine (CP1.out _ hw0).mono ?_;rintro e w1 ⟨rfl,hb1⟩;replace hy:=hy.below' hb1;replace hz:=hz.below' hb1;have hw1:=bth hw0 hb1;have hs1:=hb1.size;clear hx;have z0:=hy.cell 0; have z1:=hy.cell 1; have z2:=hy.cell 2; have lt2:=hy.lt; have lt3:=hz.lt;go_wp2_with fail;refine calls_gen (fun W=>Blk W w1.heap.size 52 #[.bool s1,.slice a1 (limbs P1).length c1] /\ Blk W g3 54 #[.bool false,.slice none 0 0,.slice none 0 0] /\ Below w.heap.size w W /\ w1.heap.size < W.heap.size) ⟨by ((with_reducible repeat first|assumption|(apply bF;focus omega)|apply bS|(apply bN;focus (simp;done))|apply bA|apply bD);all_goals rfl),by ((with_reducible repeat first|assumption|(apply bF;focus omega)|apply bS|(apply bN;focus (simp;done))|apply bA|apply bD);all_goals rfl),by go_grown,by simp⟩ ?_;clear z0 z1 z2 lt2 lt3 hy hz;rintro w2 ⟨hu,hz,hw2,hs2⟩
  refine (CP2.out _ hw2).mono ?_;rintro e w3 ⟨rfl,hb3⟩;replace hu:=hu.below' hb3;replace hz:=hz.below' hb3;have hw3:=bth hw2 hb3;have hs3:=hb3.size;have hlt3:w1.heap.size < w3.heap.size:=by omega
  go_wp2_with fail;refine calls_gen (fun W=>Blk W w1.heap.size 52 #[.bool s1,.slice a1 (limbs P1).length c1] /\ Blk W w3.heap.size 52 #[.bool s2,.slice a2 (limbs P2).length c2] /\ Blk W g3 54 #[.bool false,.slice none 0 0,.slice none 0 0] /\ Below w.heap.size w W /\ w3.heap.size < W.heap.size) ⟨by ((with_reducible repeat first|assumption|(apply bF;focus omega)|apply bS|(apply bN;focus (simp;done))|apply bA|apply bD);all_goals rfl),by ((with_reducible repeat first|assumption|(apply bF;focus omega)|apply bS|(apply bN;focus (simp;done))|apply bA|apply bD);all_goals rfl),by ((with_reducible repeat first|assumption|(apply bF;focus omega)|apply bS|(apply bN;focus (simp;done))|apply bA|apply bD);all_goals rfl),by go_grown,by simp⟩ ?_;clear hu hz;rintro w4 ⟨hu,hv,hz,hw4,hs4⟩;refine (CO1.out _ hw4).mono ?_;rintro e w5 ⟨rfl,hb5⟩;replace hu:=hu.below' hb5;replace hv:=hv.below' hb5
  replace hz:=hz.below' hb5;have hw5:=bth hw4 hb5;have hs5:=hb5.size;go_wp2_with fail;refine (CO2.out _ hw5).mono ?_;rintro e w6 ⟨rfl,hb6⟩;replace hu:=hu.below' hb6;replace hv:=hv.below' hb6;replace hz:=hz.below' hb6;have hw6:=bth hw5 hb6;have hs6:=hb6.size;go_wp2
  refine world_gen (fun W=>Blk W w1.heap.size 52 #[.bool s1,.slice a1 (limbs P1).length c1] /\ Blk W w3.heap.size 52 #[.bool s2,.slice a2 (limbs P2).length c2] /\ Blk W g3 54 #[.bool false,.slice none 0 0,.slice none 0 0] /\ Below w.heap.size w W /\ w6.heap.size <= W.heap.size) ⟨by ((with_reducible repeat first|assumption|(apply bF;focus omega)|apply bS|(apply bN;focus (simp;done))|apply bA|apply bD);all_goals rfl),by ((with_reducible repeat first|assumption|(apply bF;focus omega)|apply bS|(apply bN;focus (simp;done))|apply bA|apply bD);all_goals rfl),by ((with_reducible repeat first|assumption|(apply bF;focus omega)|apply bS|(apply bN;focus (simp;done))|apply bA|apply bD);all_goals rfl),by go_grown,by simp⟩ ?_;clear hu hv hz;rintro w7 ⟨hu,hv,hz,hw7,hs7⟩;have k0:=held (hu.cell 0); have k1:=held (hu.cell 1); have k2:=held (hv.cell 0); have k3:=held (hv.cell 1)
  have s0:Below w7.heap.size w7 w7.drew:=brf.drew;refine wp_region_mix (S:=Below w7.heap.size w7) [(0,.q),(1,.q),(4,.q),(5,.q),(10,.q),(11,.q),(2,.l),(3,.l),(6,.l),(7,.l),(8,.l),(9,.l),(12,.t),(13,.t),(14,.t)] (by kernel_rfl) (by kernel_rfl) (by kernel_rfl) (fun d _ _ _ _ h=>by cases d <;> exact h) (s0) ?_
  iterate 6 (refine wpMix_q rfl rfl (fun K hK=>?_); apply Exists.intro; refine ⟨fun w' hw'=>?_,?_⟩; (focus (go_simp; try rfl)); go_simp; refine hK _ _ ?_; clear hK K)
  refine wpMix_l rfl rfl (fun K hK=>?_);go_simp;refine (W1.out _).mono ?_;rintro r w8 ⟨rfl,hb8⟩;dsimp only;refine hK.out _ _ (bth s0 hb8) (fun _=>?_);clear hK K;have t1:=bth s0 hb8;refine wpMix_l rfl rfl (fun K hK=>?_);go_simp;refine (CZ1.out _ (bth hw7 t1)).mono ?_;rintro r w9 ⟨a9,c9,rfl,hV9,hb9⟩;dsimp only;refine hK.out _ _ (bth t1 hb9) (fun _=>?_);clear hK K;have t2:=bth t1 hb9;have H9:Kp (fun V=>NatR V a9 c9 (limbs PP)) w8.heap.size w9.heap.size w9:=Kp.made hV9;replace H9:=Hd H9;clear hV9;refine wpMix_l rfl rfl (fun K hK=>?_);go_simp;refine (W2.out _).mono ?_;rintro r w10 ⟨rfl,hb10⟩;dsimp only;refine hK.out _ _ (bth t2 hb10) (fun _=>?_);clear hK K;have t3:=bth t2 hb10;refine wpMix_l rfl rfl (fun K hK=>?_);go_simp;refine (CZ2.out _ (bth hw7 t3)).mono ?_;rintro r w11 ⟨a11,c11,rfl,hV11,hb11⟩;dsimp only;refine hK.out _ _ (bth t3 hb11) (fun _=>?_);clear hK K;have t4:=bth t3 hb11
  have H11:Kp (fun V=>NatR V a11 c11 (limbs DD)) w10.heap.size w11.heap.size w11:=Kp.made hV11;replace H11:=Hd H11;clear hV11;refine wpMix_l rfl rfl (fun K hK=>?_);go_simp;refine hK.out _ _ (t4.alloc t4.size _) (fun _=>?_);clear hK K;refine wpMix_l rfl rfl (fun K hK=>?_);go_simp;refine calls_gen (fun W=>W.cell? ⟨w11.heap.size,0,none⟩ = some (.bool p1) /\ W.cell? ⟨w11.heap.size,1,none⟩ = some (.slice a9 (limbs PP).length c9) /\ W.cell? ⟨w11.heap.size,2,none⟩ = some (.bool p2) /\ W.cell? ⟨w11.heap.size,3,none⟩ = some (.slice a11 (limbs DD).length c11) /\ Below w7.heap.size w7 W /\ w11.heap.size < W.heap.size /\ NatR W a9 c9 (limbs PP) /\ NatR W a11 c11 (limbs DD))
   ⟨(Blk.new w11 _ _).cell 0,(Blk.new w11 _ _).cell 1,(Blk.new w11 _ _).cell 2,(Blk.new w11 _ _).cell 3,t4.alloc t4.size _,by simp,(((H9.out.call hb10).call hb11).alloc).now,(H11.out.alloc).now⟩ ?_
  rintro w12 ⟨q0,q1,q2,q3,t5,hs12,m1,m2⟩;refine (CS.out w11.heap.size a9 a11 c9 c11 w12 m1 m2 q0 q1 q2 q3).mono ?_;rintro r w13 ⟨a13,c13,rfl,hV13,hb13⟩;dsimp only;have t6:=bth t5 hb13;refine hK.out _ _ t6 (fun _=>?_);clear hK K;have H13:Kp (fun V=>NatR V a13 c13 (limbs z.natAbs)) w12.heap.size w13.heap.size w13:=Kp.made hV13;replace H13:=Hd H13;clear hV13 q0 q1 q2 q3 m1 m2 H9 H11;refine wpMix_t rfl rfl (fun K hK=>?_);go_simp;refine (CN.out _ (bth hw7 t6)).mono ?_;rintro r w14 ⟨a14,c14,rfl,hV14,hb14⟩;dsimp only;refine hK.out _ _ ?_;clear hK K;have t7:=bth t6 hb14;have CG:=CR.out a13 a14 c13 c14 w14 ((H13.out.call hb14).now) (hV14 w14 (New.refl _ _));replace CG:=Hd CG;clear hV14;refine wpMix_t rfl rfl (fun K hK=>?_);go_simp;refine (CG.out).mono ?_;rintro r w15 ⟨a8,c8,b8,d8,rfl,hV1,hV2,hb15⟩;dsimp only;refine hK.out _ _ ?_;clear hK K;have t8:=bth t7 hb15;replace hz:=hz.below' t8
  have hw8:=bth hw7 t8;have hwB:=(bth hw7 t7).size;have hwG:=t7.size;have ltz:=hz.lt;have HV1:=Hd hV1;have HV2:=Hd hV2;clear hV1 hV2 k0 k1 k2 k3;have z0:=hz.cell 0; have z1:=hz.cell 1; have z2:=hz.cell 2; have f0:=hz.frozen 0; have f1:=hz.frozen 1; have f2:=hz.frozen 2;refine wpMix_t rfl rfl (fun K hK=>?_);go_simp;refine hK.out _ _ ?_;clear hK K;refine wpMix_nil ?_;go_wp2;have hF:=blk3 (x:=.bool s) (y:=.slice a8 (limbs N).length c8) (z:=.slice b8 (limbs D).length d8) hz;have e0:=hF.cell 0; have e1:=hF.cell 1; have e2:=hF.cell 2;refine bodyPost_ret (v:=.agg #[.bool s,.slice a8 (limbs N).length c8,.slice b8 (limbs D).length d8]) (by simp [results,Tryz.results75,go_sem,e0,e1,e2]) rfl ?_;exact ⟨a8,c8,b8,d8,rfl,fun V hV=>HV1.out V (back3 hV hwB (by omega)),fun V hV=>HV2.out V (back3 hV hwB (by omega)),below3 hw8 (by omega)⟩
 ·
  replace CO1:=Hd (CO1 false (by simpa using ho1));clear r1 r2 r3 r4 hne ho1 CO2;go_enter Tryz.func75,Tryz.ntmps75;go_wp2_with fail;refine calls_gen (fun W=>Blk W w.heap.size 54 #[.bool s1,.slice a1 (limbs P1).length c1,.slice b1 (limbs D1).length d1] /\ Blk W (w.heap.size + 1) 54 #[.bool s2,.slice a2 (limbs P2).length c2,.slice b2 (limbs D2).length d2] /\ Blk W (w.heap.size + 1 + 1) 54 #[.bool false,.slice none 0 0,.slice none 0 0] /\ Below w.heap.size w W /\ w.heap.size < w.heap.size + 1 /\ w.heap.size + 1 < w.heap.size + 1 + 1 /\ w.heap.size + 1 + 1 < W.heap.size) ⟨((Blk.new w _ _).alloc _).alloc _,(blk_at1 w _ _ _).alloc _,blk_at2 w _ _ _ _,by go_grown,by omega,by omega,by simp⟩ ?_;rintro w0 ⟨hx,hy,hz,hw0,hg1,hg2,hg3⟩;revert hx hy hz hg1 hg2 hg3;generalize w.heap.size + 1 + 1 = g3;generalize w.heap.size + 1 = g2;intro hx hy hz hg1 hg2 hg3;refine (CP1.out _ hw0).mono ?_
  rintro e w1 ⟨rfl,hb1⟩;replace hy:=hy.below' hb1;replace hz:=hz.below' hb1;have hw1:=bth hw0 hb1;have hs1:=hb1.size;clear hx;have z0:=hy.cell 0; have z1:=hy.cell 1; have z2:=hy.cell 2; have lt2:=hy.lt; have lt3:=hz.lt;go_wp2_with fail;refine calls_gen (fun W=>Blk W w1.heap.size 52 #[.bool s1,.slice a1 (limbs P1).length c1] /\ Blk W g3 54 #[.bool false,.slice none 0 0,.slice none 0 0] /\ Below w.heap.size w W /\ w1.heap.size < W.heap.size) ⟨by ((with_reducible repeat first|assumption|(apply bF;focus omega)|apply bS|(apply bN;focus (simp;done))|apply bA|apply bD);all_goals rfl),by ((with_reducible repeat first|assumption|(apply bF;focus omega)|apply bS|(apply bN;focus (simp;done))|apply bA|apply bD);all_goals rfl),by go_grown,by simp⟩ ?_;clear z0 z1 z2 lt2 lt3 hy hz;rintro w2 ⟨hu,hz,hw2,hs2⟩;refine (CP2.out _ hw2).mono ?_;rintro e w3 ⟨rfl,hb3⟩;replace hu:=hu.below' hb3
  replace hz:=hz.below' hb3;have hw3:=bth hw2 hb3;have hs3:=hb3.size;have hlt3:w1.heap.size < w3.heap.size:=by omega
  go_wp2_with fail;refine calls_gen (fun W=>Blk W w1.heap.size 52 #[.bool s1,.slice a1 (limbs P1).length c1] /\ Blk W w3.heap.size 52 #[.bool s2,.slice a2 (limbs P2).length c2] /\ Blk W g3 54 #[.bool false,.slice none 0 0,.slice none 0 0] /\ Below w.heap.size w W /\ w3.heap.size < W.heap.size) ⟨by ((with_reducible repeat first|assumption|(apply bF;focus omega)|apply bS|(apply bN;focus (simp;done))|apply bA|apply bD);all_goals rfl),by ((with_reducible repeat first|assumption|(apply bF;focus omega)|apply bS|(apply bN;focus (simp;done))|apply bA|apply bD);all_goals rfl),by ((with_reducible repeat first|assumption|(apply bF;focus omega)|apply bS|(apply bN;focus (simp;done))|apply bA|apply bD);all_goals rfl),by go_grown,by simp⟩ ?_;clear hu hz;rintro w4 ⟨hu,hv,hz,hw4,hs4⟩;refine (CO1.out _ hw4).mono ?_;rintro e w5 ⟨rfl,hb5⟩;replace hu:=hu.below' hb5;replace hv:=hv.below' hb5
  replace hz:=hz.below' hb5;have hw5:=bth hw4 hb5;have hs5:=hb5.size;go_wp2;refine world_gen (fun W=>Blk W w1.heap.size 52 #[.bool s1,.slice a1 (limbs P1).length c1] /\ Blk W w3.heap.size 52 #[.bool s2,.slice a2 (limbs P2).length c2] /\ Blk W g3 54 #[.bool false,.slice none 0 0,.slice none 0 0] /\ Below w.heap.size w W /\ w5.heap.size <= W.heap.size) ⟨by ((with_reducible repeat first|assumption|(apply bF;focus omega)|apply bS|(apply bN;focus (simp;done))|apply bA|apply bD);all_goals rfl),by ((with_reducible repeat first|assumption|(apply bF;focus omega)|apply bS|(apply bN;focus (simp;done))|apply bA|apply bD);all_goals rfl),by ((with_reducible repeat first|assumption|(apply bF;focus omega)|apply bS|(apply bN;focus (simp;done))|apply bA|apply bD);all_goals rfl),by go_grown,by simp⟩ ?_;clear hu hv hz;rintro w7 ⟨hu,hv,hz,hw7,hs7⟩
  have k0:=held (hu.cell 0); have k1:=held (hu.cell 1); have k2:=held (hv.cell 0); have k3:=held (hv.cell 1);have s0:Below w7.heap.size w7 w7.drew:=brf.drew;refine wp_region_mix (S:=Below w7.heap.size w7) [(0,.q),(1,.q),(4,.q),(5,.q),(10,.q),(11,.q),(2,.l),(3,.l),(6,.l),(7,.l),(8,.l),(9,.l),(12,.t),(13,.t),(14,.t)] (by kernel_rfl) (by kernel_rfl) (by kernel_rfl) (fun d _ _ _ _ h=>by cases d <;> exact h) (s0) ?_
  iterate 6 (refine wpMix_q rfl rfl (fun K hK=>?_); apply Exists.intro; refine ⟨fun w' hw'=>?_,?_⟩; (focus (go_simp; try rfl)); go_simp; refine hK _ _ ?_; clear hK K)
  refine wpMix_l rfl rfl (fun K hK=>?_);go_simp;refine (W1.out _).mono ?_;rintro r w8 ⟨rfl,hb8⟩;dsimp only;refine hK.out _ _ (bth s0 hb8) (fun _=>?_);clear hK K;have t1:=bth s0 hb8;refine wpMix_l rfl rfl (fun K hK=>?_);go_simp;refine (CZ1.out _ (bth hw7 t1)).mono ?_;rintro r w9 ⟨a9,c9,rfl,hV9,hb9⟩;dsimp only;refine hK.out _ _ (bth t1 hb9) (fun _=>?_);clear hK K;have t2:=bth t1 hb9;have H9:Kp (fun V=>NatR V a9 c9 (limbs PP)) w8.heap.size w9.heap.size w9:=Kp.made hV9;replace H9:=Hd H9;clear hV9;refine wpMix_l rfl rfl (fun K hK=>?_);go_simp;refine (W2.out _).mono ?_;rintro r w10 ⟨rfl,hb10⟩;dsimp only;refine hK.out _ _ (bth t2 hb10) (fun _=>?_);clear hK K;have t3:=bth t2 hb10;refine wpMix_l rfl rfl (fun K hK=>?_);go_simp;refine (CZ2.out _ (bth hw7 t3)).mono ?_;rintro r w11 ⟨a11,c11,rfl,hV11,hb11⟩;dsimp only;refine hK.out _ _ (bth t3 hb11) (fun _=>?_);clear hK K;have t4:=bth t3 hb11
  have H11:Kp (fun V=>NatR V a11 c11 (limbs DD)) w10.heap.size w11.heap.size w11:=Kp.made hV11;replace H11:=Hd H11;clear hV11;refine wpMix_l rfl rfl (fun K hK=>?_);go_simp;refine hK.out _ _ (t4.alloc t4.size _) (fun _=>?_);clear hK K;refine wpMix_l rfl rfl (fun K hK=>?_);go_simp;refine calls_gen (fun W=>W.cell? ⟨w11.heap.size,0,none⟩ = some (.bool p1) /\ W.cell? ⟨w11.heap.size,1,none⟩ = some (.slice a9 (limbs PP).length c9) /\ W.cell? ⟨w11.heap.size,2,none⟩ = some (.bool p2) /\ W.cell? ⟨w11.heap.size,3,none⟩ = some (.slice a11 (limbs DD).length c11) /\ Below w7.heap.size w7 W /\ w11.heap.size < W.heap.size /\ NatR W a9 c9 (limbs PP) /\ NatR W a11 c11 (limbs DD))
   ⟨(Blk.new w11 _ _).cell 0,(Blk.new w11 _ _).cell 1,(Blk.new w11 _ _).cell 2,(Blk.new w11 _ _).cell 3,t4.alloc t4.size _,by simp,(((H9.out.call hb10).call hb11).alloc).now,(H11.out.alloc).now⟩ ?_
  rintro w12 ⟨q0,q1,q2,q3,t5,hs12,m1,m2⟩;refine (CS.out w11.heap.size a9 a11 c9 c11 w12 m1 m2 q0 q1 q2 q3).mono ?_;rintro r w13 ⟨a13,c13,rfl,hV13,hb13⟩;dsimp only;have t6:=bth t5 hb13;refine hK.out _ _ t6 (fun _=>?_);clear hK K;have H13:Kp (fun V=>NatR V a13 c13 (limbs z.natAbs)) w12.heap.size w13.heap.size w13:=Kp.made hV13;replace H13:=Hd H13;clear hV13 q0 q1 q2 q3 m1 m2 H9 H11;refine wpMix_t rfl rfl (fun K hK=>?_);go_simp;refine (CN.out _ (bth hw7 t6)).mono ?_;rintro r w14 ⟨a14,c14,rfl,hV14,hb14⟩;dsimp only;refine hK.out _ _ ?_;clear hK K;have t7:=bth t6 hb14;have CG:=CR.out a13 a14 c13 c14 w14 ((H13.out.call hb14).now) (hV14 w14 (New.refl _ _));replace CG:=Hd CG;clear hV14;refine wpMix_t rfl rfl (fun K hK=>?_);go_simp;refine (CG.out).mono ?_;rintro r w15 ⟨a8,c8,b8,d8,rfl,hV1,hV2,hb15⟩;dsimp only;refine hK.out _ _ ?_;clear hK K;have t8:=bth t7 hb15;replace hz:=hz.below' t8
  have hw8:=bth hw7 t8;have hwB:=(bth hw7 t7).size;have hwG:=t7.size;have ltz:=hz.lt;have HV1:=Hd hV1;have HV2:=Hd hV2;clear hV1 hV2 k0 k1 k2 k3;have z0:=hz.cell 0; have z1:=hz.cell 1; have z2:=hz.cell 2; have f0:=hz.frozen 0; have f1:=hz.frozen 1; have f2:=hz.frozen 2;refine wpMix_t rfl rfl (fun K hK=>?_);go_simp;refine hK.out _ _ ?_;clear hK K;refine wpMix_nil ?_;go_wp2;have hF:=blk3 (x:=.bool s) (y:=.slice a8 (limbs N).length c8) (z:=.slice b8 (limbs D).length d8) hz;have e0:=hF.cell 0; have e1:=hF.cell 1; have e2:=hF.cell 2;refine bodyPost_ret (v:=.agg #[.bool s,.slice a8 (limbs N).length c8,.slice b8 (limbs D).length d8]) (by simp [results,Tryz.results75,go_sem,e0,e1,e2]) rfl ?_;exact ⟨a8,c8,b8,d8,rfl,fun V hV=>HV1.out V (back3 hV hwB (by omega)),fun V hV=>HV2.out V (back3 hV hwB (by omega)),below3 hw8 (by omega)⟩
theorem lowest_z (z:Int) (d:Nat):lowest (decide (z < 0)) z.natAbs d = trip (mkRat z d):=by
 rw [lowest_qv];unfold qv;rw [zval_self]
theorem qv_sum (s1 s2:Bool) (P1 D1 P2 D2:Nat) (hD1:D1 ≠ 0) (hD2:D2 ≠ 0):mkRat (zval s1 (P1 * D2) + zval s2 (P2 * D1)) (D1 * D2) = qv s1 P1 D1 + qv s2 P2 D2:=by
 rw [zval_scale,zval_scale];exact qv_add s1 s2 P1 D1 P2 D2 hD1 hD2
theorem qadd_any (s1 s2:Bool) (P1 D1 P2 D2:Nat) (a1 b1 a2 b2:Option Addr) (c1 d1 c2 d2:Nat) (w:World) (r1:NatR w a1 c1 (limbs P1)) (r2:NatR w b1 d1 (limbs D1)) (r3:NatR w a2 c2 (limbs P2)) (r4:NatR w b2 d2 (limbs D2))
  (hD1:D1 ≠ 0) (hD2:D2 ≠ 0) (l1:(limbs P1).length <= 400000) (l2:(limbs D1).length <= 400000) (l3:(limbs P2).length <= 400000) (l4:(limbs D2).length <= 400000):Calls Tryz.prog 75 #[.agg #[.bool s1,.slice a1 (limbs P1).length c1,.slice b1 (limbs D1).length d1],.agg #[.bool s2,.slice a2 (limbs P2).length c2,.slice b2 (limbs D2).length d2]] w (RetF (trip (qv s1 P1 D1 + qv s2 P2 D2)) w):=by
 rw [<- qv_sum s1 s2 P1 D1 P2 D2 hD1 hD2,<- lowest_z];by_cases h:D1 = 1 /\ D2 = 1
 ·
  have:=qadd_ones s1 s2 P1 D1 P2 D2 a1 b1 a2 b2 c1 d1 c2 d2 w r1 r2 r3 r4 h.1 h.2 l1 l3;obtain ⟨rfl,rfl⟩:=h;simpa using this
 · exact qadd_cross s1 s2 P1 D1 P2 D2 a1 b1 a2 b2 c1 d1 c2 d2 w r1 r2 r3 r4 hD1 hD2 l1 l2 l3 l4 h
def QK (k:Nat) (w:World) (x:QA) (q:Rat):Prop:=QAc w x q /\ qsz q <= k
theorem QK.ext {k:Nat} {w w':World} {x:QA} {q:Rat} (h:QK k w x q) (e:Ext w w'):QK k w' x q:=⟨h.1.ext e,h.2⟩
theorem QK.more {k k':Nat} {w:World} {x:QA} {q:Rat} (h:QK k w x q) (e:k <= k'):QK k' w x q:=⟨h.1,Nat.le_trans h.2 e⟩
def RetQK (k:Nat) (q:Rat) (w:World) (e:Ending) (w':World):Prop:=∃ x:QA,e = .returned (.agg #[.bool x.neg,.slice x.a x.n x.c,.slice x.b x.m x.d]) /\ Kp (fun V=>QK k V x q) w.heap.size w'.heap.size w' /\ Below w.heap.size w w'
theorem retF_q {k:Nat} {q:Rat} {w:World} {e:Ending} {w':World} (hk:qsz q <= k) (h:RetF (trip q) w e w'):RetQK k q w e w':=by
 obtain ⟨na,nc,da,dc,rfl,h1,h2,hb⟩:=h;exact ⟨⟨decide (q.num < 0),(limbs q.num.natAbs).length,na,nc,(limbs q.den).length,da,dc⟩,rfl,Kp.made fun V hV=>⟨⟨rfl,rfl,rfl,h1 V hV,h2 V hV⟩,hk⟩,hb⟩
theorem cmp_q (x y:QA) (p q:Rat) (k1 k2:Nat) (w:World) (H1:QK k1 w x p) (H2:QK k2 w y q) (h1:k1 <= 100000) (h2:k2 <= 100000):Calls Tryz.prog 106 #[.agg #[.bool x.neg,.slice x.a x.n x.c,.slice x.b x.m x.d],.agg #[.bool y.neg,.slice y.a y.n y.c,.slice y.b y.m y.d]] w fun e w'=>e = .returned (.int .i64 (cmpQ p q)) /\ Below w.heap.size w w':=by
 obtain ⟨s1,n1,a1,c1,m1,b1,d1⟩:=x;obtain ⟨s2,n2,a2,c2,m2,b2,d2⟩:=y;obtain ⟨⟨e1,e2,e3,r1,r2⟩,z1⟩:=H1;obtain ⟨⟨e4,e5,e6,r3,r4⟩,z2⟩:=H2;dsimp only at e1 e2 e3 e4 e5 e6 r1 r2 r3 r4 ⊢;subst e1 e2 e3 e4 e5 e6;have l1:=qsz_num p;have l2:=qsz_den p;have l3:=qsz_num q;have l4:=qsz_den q;have:=qcmp_any (decide (p.num < 0)) (decide (q.num < 0)) p.num.natAbs p.den q.num.natAbs q.den a1 b1 a2 b2 c1 d1 c2 d2 w r1 r2 r3 r4 p.den_nz q.den_nz (by omega) (by omega) (by omega) (by omega)
 rwa [qv_parts,qv_parts] at this
theorem cmpR_q (x y:QA) (p q:Rat) (k1 k2:Nat) (w:World) (H1:QK k1 w x p) (H2:QK k2 w y q) (h1:k1 <= 100000) (h2:k2 <= 100000):Calls Tryz.prog 78 #[.agg #[.bool x.neg,.slice x.a x.n x.c,.slice x.b x.m x.d],.agg #[.bool y.neg,.slice y.a y.n y.c,.slice y.b y.m y.d]] w fun e w'=>e = .returned (.int .i64 (cmpQ p q)) /\ Below w.heap.size w w':=by
 obtain ⟨s1,n1,a1,c1,m1,b1,d1⟩:=x;obtain ⟨s2,n2,a2,c2,m2,b2,d2⟩:=y;obtain ⟨⟨e1,e2,e3,r1,r2⟩,z1⟩:=H1;obtain ⟨⟨e4,e5,e6,r3,r4⟩,z2⟩:=H2;dsimp only at e1 e2 e3 e4 e5 e6 r1 r2 r3 r4 ⊢;subst e1 e2 e3 e4 e5 e6;have l1:=qsz_num p;have l2:=qsz_den p;have l3:=qsz_num q;have l4:=qsz_den q;have:=qcmpR_any (decide (p.num < 0)) (decide (q.num < 0)) (limbs p.num.natAbs) (limbs p.den) (limbs q.num.natAbs) (limbs q.den) p.num.natAbs p.den q.num.natAbs q.den a1 b1 a2 b2 c1 d1 c2 d2 w r1 r2 r3 r4 (val_limbs _) (val_limbs _) (val_limbs _) (val_limbs _) (by omega) (by omega) (by omega) (by omega)
 rwa [crossed_lowest,qv_parts,qv_parts] at this
theorem add_q (x y:QA) (p q:Rat) (k1 k2:Nat) (w:World) (H1:QK k1 w x p) (H2:QK k2 w y q) (h1:k1 <= 100000) (h2:k2 <= 100000):Calls Tryz.prog 75 #[.agg #[.bool x.neg,.slice x.a x.n x.c,.slice x.b x.m x.d],.agg #[.bool y.neg,.slice y.a y.n y.c,.slice y.b y.m y.d]] w (RetQK (k1 + k2 + 1) (p + q) w):=by
 have hs:=qsz_add p q;have g1:=H1.2;have g2:=H2.2;obtain ⟨s1,n1,a1,c1,m1,b1,d1⟩:=x;obtain ⟨s2,n2,a2,c2,m2,b2,d2⟩:=y;obtain ⟨⟨e1,e2,e3,r1,r2⟩,z1⟩:=H1;obtain ⟨⟨e4,e5,e6,r3,r4⟩,z2⟩:=H2;dsimp only at e1 e2 e3 e4 e5 e6 r1 r2 r3 r4 ⊢;subst e1 e2 e3 e4 e5 e6;have l1:=qsz_num p;have l2:=qsz_den p;have l3:=qsz_num q;have l4:=qsz_den q;have:=qadd_any (decide (p.num < 0)) (decide (q.num < 0)) p.num.natAbs p.den q.num.natAbs q.den a1 b1 a2 b2 c1 d1 c2 d2 w r1 r2 r3 r4 p.den_nz q.den_nz (by omega) (by omega) (by omega) (by omega);rw [qv_parts,qv_parts] at this;exact this.mono fun _ _ h=>retF_q (by omega) h
structure Rt where
 neg:Bool
 num:List Int
 den:List Int
def Rt.val (r:Rt) (na:Option Addr) (nc:Nat) (da:Option Addr) (dc:Nat):Value:=.agg #[.bool r.neg,.slice na r.num.length nc,.slice da r.den.length dc]
structure Step where
 kind:Int
 point:ByteArray
 args:List Int
 ratio:Rt
structure Fct where
 kind:Int
 args:List Int
 ratio:Rt
structure Fig where
 steps:List Step
 goals:List Fct
structure RA where
 aa:Option Addr
 ac:Nat
 na:Option Addr
 nc:Nat
 da:Option Addr
 dc:Nat
def PartsR (w:World) (p:RA) (args:List Int) (r:Rt):Prop:=IntsR w p.aa p.ac args /\ NatR w p.na p.nc r.num /\ NatR w p.da p.dc r.den
theorem PartsR.ext {w w':World} {p:RA} {args:List Int} {r:Rt} (h:PartsR w p args r) (e:Ext w w'):PartsR w' p args r:=⟨h.1.ext e,h.2.1.ext e,h.2.2.ext e⟩
def rightI (neg:Bool) (num:List Int):Bool:=canonB num && !(neg && decide (num.length = 0))
def Rt.right (r:Rt):Bool:=rightI r.neg r.num && canonB r.den && decide (Nat.gcd (Go.Proofs.YtkjnkpkagcboeaaGreatDoor.val r.num) (Go.Proofs.YtkjnkpkagcboeaaGreatDoor.val r.den) = 1) && decide (0 < r.den.length)
theorem right02_any (neg:Bool) (num:List Int) (a:Option Addr) (c:Nat) (w:World) (h:NatR w a c num) :
  Calls Tryz.prog 79 #[.agg #[.bool neg,.slice a num.length c]] w fun r w'=>r = .returned (.bool (rightI neg num)) /\ Below w.heap.size w w':=by
 have CV:=fun W (hW:Below w.heap.size w W)=>valid01_any num a c W (h.ext (xbw hW))
 obtain ⟨b1,hb1⟩:∃ b,canonB num = b:=⟨_,rfl⟩
 rw [hb1] at CV;replace CV:=Hd CV;unfold rightI;rw [hb1];clear hb1 h;by_cases h0:num.length = 0
 ·
  have e0:((num.length:Int) == 0) = true:=by simp [h0]
  have H0:=Hd h0;clear h0
  cases b1 <;> cases neg
  all_goals
   go_enter Tryz.func79,Tryz.ntmps79;go_wp2_with (go_at_call 80; refine (CV.out _ (brf.alloc (nlr _) _)).mono ?_; rintro e w' ⟨rfl,rfl⟩);go_ret;refine ⟨ret_bool ?_,brf.alloc (nlr _) _⟩;simp [H0.out]
 ·
  have e0:((num.length:Int) == 0) = false:=by simp; exact fun e=>h0 (by simp [e])
  have H0:=Hd h0;clear h0
  cases b1 <;> cases neg
  all_goals
   go_enter Tryz.func79,Tryz.ntmps79;go_wp2_with (go_at_call 80; refine (CV.out _ (brf.alloc (nlr _) _)).mono ?_; rintro e w' ⟨rfl,rfl⟩);go_ret;refine ⟨ret_bool ?_,brf.alloc (nlr _) _⟩;simp [H0.out]
theorem right03_any (r:Rt) (na:Option Addr) (nc:Nat) (da:Option Addr) (dc:Nat) (w:World) (h:NatR w na nc r.num) (h':NatR w da dc r.den) (hl:r.num.length <= 2000000) (hm:r.den.length <= 2000000) :
  Calls Tryz.prog 37 #[r.val na nc da dc] w fun e w'=>e = .returned (.bool r.right) /\ Below w.heap.size w w':=by
 obtain ⟨neg,num,den⟩:=r;have CR:=fun W (hW:Below w.heap.size w W)=>right02_any neg num na nc W (h.ext (xbw hW))
 have CV:=fun W (hW:Below w.heap.size w W)=>valid01_any den da dc W (h'.ext (xbw hW))
 have CG:=fun W (hW:Below w.heap.size w W)=>gcd01_any num den (val num) (val den) na da nc dc W (h.ext (xbw hW)) (h'.ext (xbw hW)) rfl rfl hl hm
 have CS:=fun (xs ys:List Int) (a a':Option Addr) (c c':Nat) W=>same01_any xs ys a a' c c' W
 have CO:=fun W=>of01_any 1 W (by omega)
 obtain ⟨b1,hb1⟩:∃ b,rightI neg num = b:=⟨_,rfl⟩
 obtain ⟨b2,hb2⟩:∃ b,canonB den = b:=⟨_,rfl⟩
 obtain ⟨b3,hb3⟩:∃ b,decide (Nat.gcd (val num) (val den) = 1) = b:=⟨_,rfl⟩
 obtain ⟨b4,hb4⟩:∃ b,decide (0 < den.length) = b:=⟨_,rfl⟩
 have hb4':decide ((0:Int) < (den.length:Int)) = b4:=by rw [<- hb4]; simp
 have hs:decide (limbs (Nat.gcd (val num) (val den)) = limbs 1) = b3:=by rw [<- hb3]; simp [limbs_inj]
 rw [hb1] at CR;rw [hb2] at CV;have hres:Rt.right ⟨neg,num,den⟩ = (b1 && b2 && b3 && b4):=by simp only [Rt.right,hb1,hb2,hb3,hb4]
 rw [hres];unfold Rt.val;dsimp only;dsimp only at hl hm;generalize Nat.gcd (val num) (val den) = g at CG hs;replace CR:=Hd CR; replace CV:=Hd CV; replace CG:=Hd CG; replace CS:=Hd CS; replace CO:=Hd CO;have HS:=Hd hs;have H4:=Hd hb4;clear hb1 hb2 hb3 hs hres h h' hb4
 cases b1
 ·
  clear hb4' H4 HS;go_enter Tryz.func37,Tryz.ntmps37;go_wp2_with fail;refine (CR.out _ (brf.alloc (nlr _) _)).mono ?_;rintro e w1 ⟨rfl,hb⟩;have hw:=((Below.refl _ w).alloc (nlr _) _).trans (hb.mono (by simp));go_wp2;go_ret;exact ⟨rfl,hw⟩
 ·
  cases b2
  ·
   clear hb4' H4 HS;go_enter Tryz.func37,Tryz.ntmps37;have hz:Blk (w.alloc (.cells #[.bool neg,.slice na num.length nc,.slice da den.length dc] 54)) w.heap.size 54 #[.bool neg,.slice na num.length nc,.slice da den.length dc]:=Blk.new w _ _;have hw0:Below w.heap.size w (w.alloc (.cells #[.bool neg,.slice na num.length nc,.slice da den.length dc] 54)):=brf.alloc (nlr _) _;go_wp2_with fail;revert hz hw0;generalize w.alloc (.cells #[.bool neg,.slice na num.length nc,.slice da den.length dc] 54) = w0;intro hz hw0;refine (CR.out _ hw0).mono ?_;rintro e w1 ⟨rfl,hb⟩;have hw1:=hw0.trans (hb.mono hw0.size);replace hz:=hz.below' hb;have z0:=hz.cell 0; have z1:=hz.cell 1; have z2:=hz.cell 2;clear hb hz hw0;go_wp2_with fail;refine (CV.out _ hw1).mono ?_;rintro e w2 ⟨rfl,rfl⟩;go_wp2;go_ret;exact ⟨rfl,hw1⟩
  ·
   have hz:Blk (w.alloc (.cells #[.bool neg,.slice na num.length nc,.slice da den.length dc] 54)) w.heap.size 54 #[.bool neg,.slice na num.length nc,.slice da den.length dc]:=Blk.new w _ _;have hw0:Below w.heap.size w (w.alloc (.cells #[.bool neg,.slice na num.length nc,.slice da den.length dc] 54)):=brf.alloc (nlr _) _
   cases b3 <;> cases b4
   all_goals
    go_enter Tryz.func37,Tryz.ntmps37;go_wp2_with fail;revert hz hw0;generalize w.alloc (.cells #[.bool neg,.slice na num.length nc,.slice da den.length dc] 54) = w0;intro hz hw0;refine (CR.out _ hw0).mono ?_;rintro e w1 ⟨rfl,hb⟩;have hw1:=hw0.trans (hb.mono hw0.size);replace hz:=hz.below' hb;have z0:=hz.cell 0; have z1:=hz.cell 1; have z2:=hz.cell 2;clear hb hw0;go_wp2_with fail;refine (CV.out _ hw1).mono ?_;rintro e w2 ⟨rfl,rfl⟩;go_wp2_with fail;refine (CG.out _ hw1).mono ?_;rintro e w2 ⟨a2,c2,rfl,hV2,hb2⟩;have hw2:=hw1.trans (hb2.mono hw1.size);replace hz:=hz.below' hb2;replace z0:=hz.cell 0; replace z1:=hz.cell 1; replace z2:=hz.cell 2;have HV2:=Hd hV2;clear hV2;go_wp2_with fail;refine (CO.out _).mono ?_;rintro e w3 ⟨a3,c3,rfl,hV3,hb3⟩;have hw3:=hw2.trans (hb3.mono hw2.size);replace hz:=hz.below' hb3;replace z0:=hz.cell 0; replace z1:=hz.cell 1; replace z2:=hz.cell 2
    have CS2:=CS.out (limbs g) (limbs 1) a2 a3 c2 c3 w3 (HV2.out w3 ((New.refl _ _).below hb3)) (hV3 w3 (New.refl _ _));rw [HS.out] at CS2;replace CS2:=Hd CS2;clear hV3;go_wp2_with fail;refine CS2.out.mono ?_;rintro e w4 ⟨rfl,hb4⟩;have hw4:=hw3.trans (hb4.mono hw3.size);replace hz:=hz.below' hb4;replace z0:=hz.cell 0; replace z1:=hz.cell 1; replace z2:=hz.cell 2;clear hb4 hb3 hb2 CS2;go_wp2;go_ret;exact ⟨ret_bool (by first | rfl | (rw [H4.out]; rfl)),hw4⟩
structure Trm where
 coef:Rt
 mono:List Int
def Trm.val (t:Trm) (p:RA):Value:=.agg #[.bool t.coef.neg,.slice p.na t.coef.num.length p.nc,.slice p.da t.coef.den.length p.dc,.slice p.aa t.mono.length p.ac]
def TrmC (w:World) (b o:Nat) (p:RA) (t:Trm):Prop :=
 w.cell? ⟨b,o,none⟩ = some (.bool t.coef.neg) /\ w.cell? ⟨b,o + 1,none⟩ = some (.slice p.na t.coef.num.length p.nc) /\
 w.cell? ⟨b,o + 2,none⟩ = some (.slice p.da t.coef.den.length p.dc) /\ w.cell? ⟨b,o + 3,none⟩ = some (.slice p.aa t.mono.length p.ac)
theorem TrmC.ext {w w':World} {b o:Nat} {p:RA} {t:Trm} (h:TrmC w b o p t) (e:Ext w w'):TrmC w' b o p t :=
 ⟨e _ _ h.1,e _ _ h.2.1,e _ _ h.2.2.1,e _ _ h.2.2.2⟩
def TrmE (w:World) (b o:Nat) (t:Trm):Prop:=∃ p,TrmC w b o p t /\ PartsR w p t.mono t.coef
def PolyR (w:World) (a:Option Addr) (c:Nat) (l:List Trm):Prop:=SlR 4 TrmE w a c l
theorem PolyR.ext {w w':World} {a:Option Addr} {c:Nat} {l:List Trm} (h:PolyR w a c l) (e:Ext w w'):PolyR w' a c l :=
 SlR.mono h fun _ _ _ _ ⟨p,h1,h2⟩=>⟨p,h1.ext e,h2.ext e⟩
def PolyE (w:World) (b o:Nat) (p:List Trm):Prop:=∃ a c,w.cell? ⟨b,o,none⟩ = some (.slice a p.length c) /\ PolyR w a c p
def PolysR (w:World) (a:Option Addr) (c:Nat) (l:List (List Trm)):Prop:=SlR 1 PolyE w a c l
theorem PolysR.ext {w w':World} {a:Option Addr} {c:Nat} {l:List (List Trm)} (h:PolysR w a c l) (e:Ext w w'):PolysR w' a c l :=
 SlR.mono h fun _ _ _ _ ⟨p,q,h1,h2⟩=>⟨p,q,e _ _ h1,h2.ext e⟩
structure Crt where
 factors:List (List Trm)
 powers:List Int
 power:Int
 cofactors:List (List Trm)
structure CA where
 fa:Option Addr
 fc:Nat
 wa:Option Addr
 wc:Nat
 ca:Option Addr
 cc:Nat
def Crt.val (c:Crt) (p:CA):Value:=.agg #[.slice p.fa c.factors.length p.fc,.slice p.wa c.powers.length p.wc,.int .i64 c.power,.slice p.ca c.cofactors.length p.cc]
def CrtR (w:World) (p:CA) (c:Crt):Prop:=PolysR w p.fa p.fc c.factors /\ IntsR w p.wa p.wc c.powers /\ PolysR w p.ca p.cc c.cofactors /\ InInt c.power
def monoB (l:List Int):Bool:=decide (l.length <= 64) && !(decide (l[l.length - 1]? = some 0)) && l.all fun x=>decide (0 <= x /\ x <= 1048576)
theorem monoB_long {l:List Int} (h:64 < l.length):monoB l = false:=by unfold monoB; rw [decide_eq_false (by omega)]; rfl
theorem monoB_last {l:List Int} (h:l[l.length - 1]? = some 0):monoB l = false:=by unfold monoB; rw [decide_eq_true h]; simp
theorem monoB_bad {l:List Int} {k:Nat} {x:Int} (h:l[k]? = some x) (hx:¬ (0 <= x /\ x <= 1048576)):monoB l = false:=by
 unfold monoB;rw [show (l.all fun x=>decide (0 <= x /\ x <= 1048576)) = false from ?_]
 · simp
 · rw [List.all_eq_false]; exact ⟨x,List.mem_of_getElem? h,by simpa using hx⟩
theorem monoB_good {l:List Int} (h1:l.length <= 64) (h2:l[l.length - 1]? ≠ some 0) (h3:(l.all fun x=>decide (0 <= x /\ x <= 1048576)) = true):monoB l = true:=by
 unfold monoB; rw [decide_eq_true h1,decide_eq_false h2,h3]; rfl
theorem monoB_mem {l:List Int} (h:monoB l = true):l.length <= 64 /\ ∀ x ∈ l,0 <= x /\ x <= 1048576:=by
 unfold monoB at h;simp only [Bool.and_eq_true,decide_eq_true_eq,List.all_eq_true] at h;exact ⟨h.1.1,h.2⟩
def expAt (l:List Int) (v:Nat):Int:=l.getD v 0
theorem expAt_in {l:List Int} (h:∀ x ∈ l,0 <= x /\ x <= 1048576) (v:Nat):0 <= expAt l v /\ expAt l v <= 1048576:=by
 unfold expAt;rw [List.getD_eq_getElem?_getD]
 cases hx:l[v]? with
 | none=>simp
 | some x=>exact h x (List.mem_of_getElem? hx)
def lexDown (a b:List Int):Nat -> Int
 | 0=>0
 | v + 1=>if expAt a v = expAt b v then lexDown a b v else if expAt a v < expAt b v then -1 else 1
def lexI (a b:List Int):Int:=lexDown a b (max a.length b.length)
def okT (t:Trm):Bool:=t.coef.right && !(decide (val t.coef.num = 0)) && monoB t.mono
def badAt (l:List Trm) (i:Nat):Bool :=
 match l[i]? with
 | none=>false
 | some t=>!(okT t) || (match i with
  | 0=>false
  | j + 1=>match l[j]? with
   | none=>false
   | some s=>decide (lexI s.mono t.mono <= 0))
def polyB (l:List Trm):Bool:=(List.range l.length).all fun i=>!(badAt l i)
theorem polyB_bad {l:List Trm} {i:Nat} (hi:i < l.length) (h:badAt l i = true):polyB l = false:=by
 unfold polyB; rw [List.all_eq_false]; exact ⟨i,List.mem_range.2 hi,by simp [h]⟩
theorem polyB_good {l:List Trm} (h:∀ i,i < l.length -> badAt l i = false):polyB l = true:=by
 unfold polyB; rw [List.all_eq_true]; intro i hi; simp [h i (List.mem_range.1 hi)]
theorem badAt_term {l:List Trm} {i:Nat} {t:Trm} (h:l[i]? = some t) (ho:okT t = false):badAt l i = true:=by
 unfold badAt; rw [h]; simp [ho]
theorem badAt_zero {l:List Trm} {t:Trm} (h:l[0]? = some t) (ho:okT t = true):badAt l 0 = false:=by
 unfold badAt; rw [h]; simp [ho]
theorem badAt_succ {l:List Trm} {j:Nat} {s t:Trm} (h:l[j + 1]? = some t) (hs:l[j]? = some s) (ho:okT t = true):badAt l (j + 1) = decide (lexI s.mono t.mono <= 0):=by
 unfold badAt; rw [h]; dsimp only; rw [hs]; simp [ho]
theorem badAt_ok {l:List Trm} {i:Nat} {t:Trm} (h:l[i]? = some t) (hb:badAt l i = false):okT t = true:=by
 cases ho:okT t
 · rw [badAt_term h ho] at hb; cases hb
 · rfl
def facB (c:Crt) (k:Nat):Bool :=
 match c.powers[k]?,c.factors[k]? with
 | some x,some f=>decide (0 <= x /\ x <= 64) && !(decide (f.length = 0)) && polyB f
 | _,_=>false
theorem facB_of {c:Crt} {k:Nat} {x:Int} {f:List Trm} (hx:c.powers[k]? = some x) (hf:c.factors[k]? = some f):facB c k = (decide (0 <= x /\ x <= 64) && !(decide (f.length = 0)) && polyB f):=by
 unfold facB; rw [hx,hf]
def crtB (c:Crt):Bool :=
 decide (c.powers.length = c.factors.length) && decide (1 <= c.power /\ c.power <= 64) && ((List.range c.factors.length).all (facB c)) && c.cofactors.all polyB
theorem crtB_len {c:Crt} (h:c.powers.length ≠ c.factors.length):crtB c = false:=by unfold crtB; rw [decide_eq_false h]; rfl
theorem crtB_pow {c:Crt} (h:¬ (1 <= c.power /\ c.power <= 64)):crtB c = false:=by unfold crtB; rw [decide_eq_false h]; simp
theorem crtB_fac {c:Crt} {k:Nat} (hk:k < c.factors.length) (h:facB c k = false):crtB c = false:=by
 unfold crtB;rw [show ((List.range c.factors.length).all (facB c)) = false from ?_]
 · simp
 · rw [List.all_eq_false]; exact ⟨k,List.mem_range.2 hk,by simp [h]⟩
theorem crtB_cof {c:Crt} {k:Nat} {q:List Trm} (hk:c.cofactors[k]? = some q) (h:polyB q = false):crtB c = false:=by
 unfold crtB;rw [show (c.cofactors.all polyB) = false from ?_]
 · simp
 · rw [List.all_eq_false]; exact ⟨q,List.mem_of_getElem? hk,by simp [h]⟩
theorem crtB_good {c:Crt} (h1:c.powers.length = c.factors.length) (h2:1 <= c.power /\ c.power <= 64) (h3:∀ k,k < c.factors.length -> facB c k = true) (h4:(c.cofactors.take c.cofactors.length).all polyB = true):crtB c = true:=by
 unfold crtB;rw [List.take_length] at h4;rw [decide_eq_true h1,decide_eq_true h2,h4];simp only [Bool.and_eq_true,List.all_eq_true,Bool.true_and,Bool.and_true];exact fun k hk=>h3 k (List.mem_range.1 hk)
def fitT (t:Trm):Bool:=decide (t.mono.length <= 6) && decide (t.coef.num.length <= 4) && decide (t.coef.den.length <= 4)
def fitP (p:List Trm):Bool:=p.all fitT && decide (p.length <= 8)
def fitL (l:List (List Trm)):Bool:=l.all fitP && decide (l.length <= 6)
theorem fitL_mem {l:List (List Trm)} (h:fitL l = true):l.length <= 6 /\ ∀ p ∈ l,p.length <= 8 /\ ∀ t ∈ p,t.mono.length <= 6 /\ t.coef.num.length <= 4 /\ t.coef.den.length <= 4:=by
 unfold fitL fitP fitT at h;simp only [Bool.and_eq_true,decide_eq_true_eq,List.all_eq_true] at h;exact ⟨h.2,fun p hp=>⟨(h.1 p hp).2,fun t ht=>by have:=(h.1 p hp).1 t ht; omega⟩⟩
theorem fitL_term {l:List (List Trm)} {k j:Nat} {p:List Trm} {t:Trm} (hp:l[k]? = some p) (ht:p[j]? = some t) (h:fitT t = false):fitL l = false:=by
 unfold fitL fitP;rw [show (l.all fun p=>p.all fitT && decide (p.length <= 8)) = false from ?_]
 · rfl
 ·
  rw [List.all_eq_false];refine ⟨p,List.mem_of_getElem? hp,?_⟩;rw [show p.all fitT = false from ?_]
  · simp
  · rw [List.all_eq_false]; exact ⟨t,List.mem_of_getElem? ht,by simp [h]⟩
theorem fitL_long {l:List (List Trm)} {k:Nat} {p:List Trm} (hp:l[k]? = some p) (h:8 < p.length):fitL l = false:=by
 unfold fitL fitP;rw [show (l.all fun p=>p.all fitT && decide (p.length <= 8)) = false from ?_]
 · rfl
 ·
  rw [List.all_eq_false];refine ⟨p,List.mem_of_getElem? hp,?_⟩;rw [decide_eq_false (by omega)]; simp
theorem fitL_end {l:List (List Trm)} (h:(l.take l.length).all fitP = true):fitL l = decide (l.length <= 6):=by
 rw [List.take_length] at h;unfold fitL; rw [h]; rfl
theorem fitP_end {p:List Trm} (h:(p.take p.length).all fitT = true) (h8:p.length <= 8):fitP p = true:=by
 rw [List.take_length] at h;unfold fitP; rw [h,decide_eq_true h8]; rfl
theorem all_take {α:Type} {f:α -> Bool} {l:List α} {k:Nat} {x:α} (h:(l.take k).all f = true) (hx:l[k]? = some x) (hf:f x = true):(l.take (k + 1)).all f = true:=by
 rw [take_more hx,List.all_append,h]; simp [hf]
theorem ints_cell {w:World} {a:Option Addr} {c:Nat} {l:List Int} (h:IntsR w a c l) {k:Nat} {x:Int} (hx:l[k]? = some x):∃ b off,a = some ⟨b,off,none⟩ /\ w.cell? ⟨b,off + k,none⟩ = some (.int .i64 x) /\ InInt x:=by
 obtain ⟨b,off,ha,hc⟩:=h.2.2 k x hx;exact ⟨b,off,ha,by simpa using hc.1,inInt_of hc.2⟩
theorem monoP_any (l:List Int) (a:Option Addr) (c:Nat) (w:World) (h:IntsR w a c l) :
  Calls Tryz.prog 52 #[.slice a l.length c] w fun e w'=>e = .returned (.bool (monoB l)) /\ w = w':=by
 have hlen:=h.len;by_cases h64:64 < l.length
 ·
  rw [monoB_long h64];go_enter Tryz.func52,Tryz.ntmps52;go_wp2;go_ret;exact ⟨rfl,rfl⟩
 ·
  have HI:=Hd h;clear h;have hloop:∀ k,k < l.length -> ∃ x,l[k]? = some x:=fun k hk=>get_of_lt hk
  by_cases h0:0 < l.length
  ·
   obtain ⟨y,hy⟩:=hloop (l.length - 1) (by omega);obtain ⟨b,off,rfl,hcy,hiy⟩:=ints_cell HI.out hy;have HY:=Hd hy;have HL:=Hd hloop;clear hloop hy;by_cases hy0:y = 0
   ·
    rw [monoB_last (by rw [HY.out,hy0])];subst hy0;clear hiy;go_enter Tryz.func52,Tryz.ntmps52;go_wp2;go_ret;exact ⟨rfl,rfl⟩
   ·
    have hye:(y == 0) = false:=by simpa using hy0
    have HY0:=Hd hy0;obtain ⟨hy1,hy2⟩:=hiy;clear hy0;obtain ⟨res,hres⟩:∃ x,monoB l = x:=⟨_,rfl⟩
    rw [hres];have HRES:=Hd hres;clear hres;go_enter Tryz.func52,Tryz.ntmps52;go_wp2;clear hcy hye hy1 hy2
    go_loop [4,24] (fun _ q=>∃ k:Nat,k <= l.length /\ q = .int .i64 k /\ Hid (((l.take k).all fun x=>decide (0 <= x /\ x <= 1048576)) = true)) (fun _ q=>l.length - (intOf q).toNat)
    case atStart=>exact ⟨0,by omega,rfl,rfl⟩
    case round =>
     obtain ⟨k,hk,rfl,hall⟩:=hrel;by_cases hlt:k < l.length
     ·
      obtain ⟨x,hx⟩:=HL.out k hlt;obtain ⟨b2,off2,hbo,hcx,hix⟩:=ints_cell HI.out hx;injection hbo with hbo
      injection hbo with hbo1 hbo2
      subst hbo1 hbo2;obtain ⟨hx1,hx2⟩:=hix;have HX:=Hd hx;clear hx;by_cases hin:0 <= x /\ x <= 1048576
      ·
       obtain ⟨hin1,hin2⟩:=hin;go_wp2
       go_round
       case rel=>exact ⟨k + 1,by omega,by go_num,by show _ = _; rw [take_more HX.out,List.all_append,hall.out]; simp [hin1,hin2]⟩
       case measure=>simp [intOf]; omega
      ·
       have hr:res = false:=by rw [<- HRES.out,monoB_bad HX.out hin]
       subst hr;by_cases hneg:x < 0
       ·
        clear hin;go_wp2;go_ret;exact ⟨rfl,rfl⟩
       ·
        have hbig:1048576 < x:=by omega
        clear hin;go_wp2;go_ret;exact ⟨rfl,rfl⟩
     ·
      have hr:res = true:=by
       rw [<- HRES.out];refine monoB_good (by omega) (by rw [HY.out]; intro h; injection h with h; exact HY0.out h) ?_;have:=hall.out
       rwa [take_all hlt] at this
      subst hr;go_wp2;go_ret;exact ⟨rfl,rfl⟩
  ·
   have hnil:l = []:=List.eq_nil_of_length_eq_zero (by omega);subst hnil;rw [show monoB [] = true from rfl];clear HI hloop;go_enter Tryz.func52,Tryz.ntmps52;go_wp2
   go_loop [4,24] (fun _ q=>q = .int .i64 0) (fun _ q=>0)
   case atStart=>rfl
   case round =>
    obtain rfl:=hrel;go_wp2;go_ret;exact ⟨rfl,rfl⟩
theorem monoR_any (l:List Int) (a:Option Addr) (c:Nat) (w:World) (h:IntsR w a c l) :
  Calls Tryz.prog 38 #[.slice a l.length c] w fun e w'=>e = .returned (.bool (monoB l)) /\ w = w':=by
 have hlen:=h.len;by_cases h64:64 < l.length
 ·
  rw [monoB_long h64];go_enter Tryz.func38,Tryz.ntmps38;go_wp2;go_ret;exact ⟨rfl,rfl⟩
 ·
  have HI:=Hd h;clear h;have hloop:∀ k,k < l.length -> ∃ x,l[k]? = some x:=fun k hk=>get_of_lt hk
  by_cases h0:0 < l.length
  ·
   obtain ⟨y,hy⟩:=hloop (l.length - 1) (by omega);obtain ⟨b,off,rfl,hcy,hiy⟩:=ints_cell HI.out hy;have HY:=Hd hy;have HL:=Hd hloop;clear hloop hy;by_cases hy0:y = 0
   ·
    rw [monoB_last (by rw [HY.out,hy0])];subst hy0;clear hiy;go_enter Tryz.func38,Tryz.ntmps38;go_wp2;go_ret;exact ⟨rfl,rfl⟩
   ·
    have hye:(y == 0) = false:=by simpa using hy0
    have HY0:=Hd hy0;obtain ⟨hy1,hy2⟩:=hiy;clear hy0;obtain ⟨res,hres⟩:∃ x,monoB l = x:=⟨_,rfl⟩
    rw [hres];have HRES:=Hd hres;clear hres;go_enter Tryz.func38,Tryz.ntmps38;go_wp2;clear hcy hye hy1 hy2
    go_loop [3] (fun q=>∃ k:Nat,k <= l.length /\ q = .int .i64 k /\ Hid (((l.take k).all fun x=>decide (0 <= x /\ x <= 1048576)) = true)) (fun q=>l.length - (intOf q).toNat)
    case atStart=>exact ⟨0,by omega,rfl,rfl⟩
    case round =>
     obtain ⟨k,hk,rfl,hall⟩:=hrel;by_cases hlt:k < l.length
     ·
      obtain ⟨x,hx⟩:=HL.out k hlt;obtain ⟨b2,off2,hbo,hcx,hix⟩:=ints_cell HI.out hx;injection hbo with hbo
      injection hbo with hbo1 hbo2
      subst hbo1 hbo2;obtain ⟨hx1,hx2⟩:=hix;have HX:=Hd hx;clear hx;by_cases hin:0 <= x /\ x <= 1048576
      ·
       obtain ⟨hin1,hin2⟩:=hin;go_wp2
       go_round
       case rel=>exact ⟨k + 1,by omega,by go_num,by show _ = _; rw [take_more HX.out,List.all_append,hall.out]; simp [hin1,hin2]⟩
       case measure=>simp [intOf]; omega
      ·
       have hr:res = false:=by rw [<- HRES.out,monoB_bad HX.out hin]
       subst hr;by_cases hneg:x < 0
       ·
        clear hin;go_wp2;go_ret;exact ⟨rfl,rfl⟩
       ·
        have hbig:1048576 < x:=by omega
        clear hin;go_wp2;go_ret;exact ⟨rfl,rfl⟩
     ·
      have hr:res = true:=by
       rw [<- HRES.out];refine monoB_good (by omega) (by rw [HY.out]; intro h; injection h with h; exact HY0.out h) ?_;have:=hall.out
       rwa [take_all hlt] at this
      subst hr;go_wp2;go_ret;exact ⟨rfl,rfl⟩
  ·
   have hnil:l = []:=List.eq_nil_of_length_eq_zero (by omega);subst hnil;rw [show monoB [] = true from rfl];clear HI hloop;go_enter Tryz.func38,Tryz.ntmps38;go_wp2
   go_loop [3] (fun q=>q = .int .i64 0) (fun q=>0)
   case atStart=>rfl
   case round =>
    obtain rfl:=hrel;go_wp2;go_ret;exact ⟨rfl,rfl⟩
theorem expAt_get {l:List Int} {v:Nat} {x:Int} (h:l[v]? = some x):expAt l v = x:=by
 unfold expAt; rw [List.getD_eq_getElem?_getD,h]; rfl
theorem expAt_far {l:List Int} {v:Nat} (h:l.length <= v):expAt l v = 0:=by
 unfold expAt; rw [List.getD_eq_getElem?_getD,List.getElem?_eq_none h]; rfl
theorem expP_any (l:List Int) (v:Nat) (a:Option Addr) (c:Nat) (w:World) (h:IntsR w a c l) :
  Calls Tryz.prog 144 #[.slice a l.length c,.int .i64 v] w fun e w'=>e = .returned (.int .i64 (expAt l v)) /\ w = w':=by
 have hlen:=h.len;by_cases hv:v < l.length
 ·
  obtain ⟨x,hx⟩:=get_of_lt hv;obtain ⟨b,off,rfl,hc,_⟩:=ints_cell h hx;rw [expAt_get hx];clear hx h;go_enter Tryz.func144,Tryz.ntmps144;go_wp2;go_ret;exact ⟨rfl,rfl⟩
 ·
  rw [expAt_far (by omega)];clear h;go_enter Tryz.func144,Tryz.ntmps144;go_wp2;go_ret;exact ⟨rfl,rfl⟩
theorem expR_any (l:List Int) (v:Nat) (a:Option Addr) (c:Nat) (w:World) (h:IntsR w a c l) :
  Calls Tryz.prog 85 #[.slice a l.length c,.int .i64 v] w fun e w'=>e = .returned (.int .i64 (expAt l v)) /\ w = w':=by
 have hlen:=h.len;by_cases hv:v < l.length
 ·
  obtain ⟨x,hx⟩:=get_of_lt hv;obtain ⟨b,off,rfl,hc,_⟩:=ints_cell h hx;rw [expAt_get hx];clear hx h;go_enter Tryz.func85,Tryz.ntmps85;go_wp2;go_ret;exact ⟨rfl,rfl⟩
 ·
  rw [expAt_far (by omega)];clear h;go_enter Tryz.func85,Tryz.ntmps85;go_wp2;go_ret;exact ⟨rfl,rfl⟩
theorem sign05_any (n:Int) (w:World) :
  Calls Tryz.prog 84 #[.int .i64 n] w fun e w'=>e = .returned (.int .i64 (if n < 0 then -1 else if 0 < n then 1 else 0)) /\ w = w':=by
 by_cases h:n < 0
 ·
  rw [if_pos h];go_enter Tryz.func84,Tryz.ntmps84;go_wp2;go_ret;exact ⟨rfl,rfl⟩
 ·
  by_cases h2:0 < n
  ·
   rw [if_neg h,if_pos h2];go_enter Tryz.func84,Tryz.ntmps84;go_wp2;go_ret;exact ⟨rfl,rfl⟩
  ·
   rw [if_neg h,if_neg h2];go_enter Tryz.func84,Tryz.ntmps84;go_wp2;go_ret;exact ⟨rfl,rfl⟩
theorem expAt_int {w:World} {a:Option Addr} {c:Nat} {l:List Int} (h:IntsR w a c l) (v:Nat):InInt (expAt l v):=by
 by_cases hv:v < l.length
 ·
  obtain ⟨x,hx⟩:=get_of_lt hv;obtain ⟨b,off,_,_,hi⟩:=ints_cell h hx;rw [expAt_get hx]; exact hi
 · rw [expAt_far (by omega)]; unfold InInt; omega
theorem cmpP5_any (l m:List Int) (a a':Option Addr) (c c':Nat) (w:World) (h:IntsR w a c l) (h':IntsR w a' c' m) :
  Calls Tryz.prog 100 #[.slice a l.length c,.slice a' m.length c',.int .i64 0] w fun e w'=>e = .returned (.int .i64 (lexI l m)) /\ w = w':=by
 have hlen:=h.len;have hlen':=h'.len;have C1:=fun v:Nat=>expP_any l v a c w h
 have C2:=fun v:Nat=>expP_any m v a' c' w h'
 have I1:=expAt_int h;have I2:=expAt_int h';replace C1:=Hd C1; replace C2:=Hd C2; replace I1:=Hd I1; replace I2:=Hd I2;clear h h';obtain ⟨res,hres⟩:∃ x,lexI l m = x:=⟨_,rfl⟩
 rw [hres];unfold lexI at hres;by_cases hlm:l.length < m.length
 ·
  rw [show max l.length m.length = m.length by omega] at hres;have HRES:=Hd hres;clear hres;go_enter Tryz.func100,Tryz.ntmps100;go_wp2;have HLM:=Hd hlm;clear hlm
  go_loop [9] (fun q=>(q = .int .i64 (-1) /\ Hid (0 = res)) \/ ∃ v:Nat,v < m.length /\ q = .int .i64 v /\ Hid (lexDown l m (v + 1) = res)) (fun q=>(intOf q + 1).toNat)
  case atStart =>
   have HR:=HRES.out;have hlm:=HLM.out
   cases hn:m.length with
   | zero=>rw [hn] at HR; exact .inl ⟨by go_num,HR⟩
   | succ k=>rw [hn] at HR; exact .inr ⟨k,by omega,by go_num,HR⟩
  case round =>
   rcases hrel with ⟨rfl,hr⟩ | ⟨v,hv,rfl,hr⟩
   ·
    have hr:=hr.out;subst hr;go_wp2;go_ret;exact ⟨rfl,rfl⟩
   ·
    have I1v:=I1.out v; have I2v:=I2.out v;obtain ⟨x,hx⟩:∃ x,expAt l v = x:=⟨_,rfl⟩
    obtain ⟨y,hy⟩:∃ y,expAt m v = y:=⟨_,rfl⟩
    have E1:=C1.out v; have E2:=C2.out v;rw [hx] at E1 I1v;rw [hy] at E2 I2v;obtain ⟨i1,i2⟩:=I1v;obtain ⟨i3,i4⟩:=I2v;have hr:=hr.out;unfold lexDown at hr;rw [hx,hy] at hr;have HR:=Hd hr;replace E1:=Hd E1; replace E2:=Hd E2;clear hr hx hy;go_wp2_with fail;refine E1.out.mono ?_;rintro e w1 ⟨rfl,rfl⟩;go_wp2_with fail;refine E2.out.mono ?_;rintro e w1 ⟨rfl,rfl⟩;by_cases hxy:x = y
    ·
     subst hxy;have HR2:=Hd ((if_pos rfl).symm.trans HR.out);go_wp2
     go_round
     case rel =>
      cases v with
      | zero=>exact .inl ⟨by go_num,by have:=HR2.out; rw [<- this]; rfl⟩
      | succ k=>exact .inr ⟨k,by omega,by go_num,HR2.out⟩
     case measure=>simp [intOf]
    ·
     have hb:(x == y) = false:=by simpa using hxy
     have HR2:=HR.out;rw [if_neg hxy] at HR2;by_cases hlt:x < y
     ·
      rw [if_pos hlt] at HR2;subst HR2;clear hxy HR;go_wp2;go_ret;exact ⟨rfl,rfl⟩
     ·
      rw [if_neg hlt] at HR2;subst HR2;clear hxy HR;go_wp2;go_ret;exact ⟨rfl,rfl⟩
 ·
  rw [show max l.length m.length = l.length by omega] at hres;have HRES:=Hd hres;clear hres;go_enter Tryz.func100,Tryz.ntmps100;go_wp2;have HLM:=Hd hlm;clear hlm
  go_loop [9] (fun q=>(q = .int .i64 (-1) /\ Hid (0 = res)) \/ ∃ v:Nat,v < l.length /\ q = .int .i64 v /\ Hid (lexDown l m (v + 1) = res)) (fun q=>(intOf q + 1).toNat)
  case atStart =>
   have HR:=HRES.out;have hlm:=HLM.out
   cases hn:l.length with
   | zero=>rw [hn] at HR; exact .inl ⟨by go_num,HR⟩
   | succ k=>rw [hn] at HR; exact .inr ⟨k,by omega,by go_num,HR⟩
  case round =>
   rcases hrel with ⟨rfl,hr⟩ | ⟨v,hv,rfl,hr⟩
   ·
    have hr:=hr.out;subst hr;go_wp2;go_ret;exact ⟨rfl,rfl⟩
   ·
    have I1v:=I1.out v; have I2v:=I2.out v;obtain ⟨x,hx⟩:∃ x,expAt l v = x:=⟨_,rfl⟩
    obtain ⟨y,hy⟩:∃ y,expAt m v = y:=⟨_,rfl⟩
    have E1:=C1.out v; have E2:=C2.out v;rw [hx] at E1 I1v;rw [hy] at E2 I2v;obtain ⟨i1,i2⟩:=I1v;obtain ⟨i3,i4⟩:=I2v;have hr:=hr.out;unfold lexDown at hr;rw [hx,hy] at hr;have HR:=Hd hr;replace E1:=Hd E1; replace E2:=Hd E2;clear hr hx hy;go_wp2_with fail;refine E1.out.mono ?_;rintro e w1 ⟨rfl,rfl⟩;go_wp2_with fail;refine E2.out.mono ?_;rintro e w1 ⟨rfl,rfl⟩;by_cases hxy:x = y
    ·
     subst hxy;have HR2:=Hd ((if_pos rfl).symm.trans HR.out);go_wp2
     go_round
     case rel =>
      cases v with
      | zero=>exact .inl ⟨by go_num,by have:=HR2.out; rw [<- this]; rfl⟩
      | succ k=>exact .inr ⟨k,by omega,by go_num,HR2.out⟩
     case measure=>simp [intOf]
    ·
     have hb:(x == y) = false:=by simpa using hxy
     have HR2:=HR.out;rw [if_neg hxy] at HR2;by_cases hlt:x < y
     ·
      rw [if_pos hlt] at HR2;subst HR2;clear hxy HR;go_wp2;go_ret;exact ⟨rfl,rfl⟩
     ·
      rw [if_neg hlt] at HR2;subst HR2;clear hxy HR;go_wp2;go_ret;exact ⟨rfl,rfl⟩
theorem cmpR5_any (l m:List Int) (a a':Option Addr) (c c':Nat) (w:World) (h:IntsR w a c l) (h':IntsR w a' c' m) (hi:∀ x ∈ l,0 <= x /\ x <= 1048576) (hi':∀ x ∈ m,0 <= x /\ x <= 1048576) :
  Calls Tryz.prog 39 #[.slice a l.length c,.slice a' m.length c',.int .i64 0] w fun e w'=>e = .returned (.int .i64 (lexI l m)) /\ w = w':=by
 have hlen:=h.len;have hlen':=h'.len;have C1:=fun v:Nat=>expR_any l v a c w h
 have C2:=fun v:Nat=>expR_any m v a' c' w h'
 have CS:=fun z:Int=>sign05_any z w
 have I1:∀ v,0 <= expAt l v /\ expAt l v <= 1048576:=expAt_in hi;have I2:∀ v,0 <= expAt m v /\ expAt m v <= 1048576:=expAt_in hi';replace C1:=Hd C1; replace C2:=Hd C2; replace CS:=Hd CS; replace I1:=Hd I1; replace I2:=Hd I2;clear hi hi';clear h h';obtain ⟨res,hres⟩:∃ x,lexI l m = x:=⟨_,rfl⟩
 rw [hres];unfold lexI at hres;by_cases hlm:l.length < m.length
 ·
  rw [show max l.length m.length = m.length by omega] at hres;have HRES:=Hd hres;clear hres;go_enter Tryz.func39,Tryz.ntmps39;go_wp2;have HLM:=Hd hlm;clear hlm
  go_loop [7] (fun q=>(q = .int .i64 (-1) /\ Hid (0 = res)) \/ ∃ v:Nat,v < m.length /\ q = .int .i64 v /\ Hid (lexDown l m (v + 1) = res)) (fun q=>(intOf q + 1).toNat)
  case atStart =>
   have HR:=HRES.out;have hlm:=HLM.out
   cases hn:m.length with
   | zero=>rw [hn] at HR; exact .inl ⟨by go_num,HR⟩
   | succ k=>rw [hn] at HR; exact .inr ⟨k,by omega,by go_num,HR⟩
  case round =>
   rcases hrel with ⟨rfl,hr⟩ | ⟨v,hv,rfl,hr⟩
   ·
    have hr:=hr.out;subst hr;go_wp2;go_ret;exact ⟨rfl,rfl⟩
   ·
    have I1v:=I1.out v; have I2v:=I2.out v;obtain ⟨x,hx⟩:∃ x,expAt l v = x:=⟨_,rfl⟩
    obtain ⟨y,hy⟩:∃ y,expAt m v = y:=⟨_,rfl⟩
    have E1:=C1.out v; have E2:=C2.out v;rw [hx] at E1 I1v;rw [hy] at E2 I2v;obtain ⟨i1,i2⟩:=I1v;obtain ⟨i3,i4⟩:=I2v;have hr:=hr.out;unfold lexDown at hr;rw [hx,hy] at hr;have HR:=Hd hr;replace E1:=Hd E1; replace E2:=Hd E2;clear hr hx hy;go_wp2_with fail;refine E1.out.mono ?_;rintro e w1 ⟨rfl,rfl⟩;go_wp2_with fail;refine E2.out.mono ?_;rintro e w1 ⟨rfl,rfl⟩;by_cases hxy:x = y
    ·
     subst hxy;have HR2:=Hd ((if_pos rfl).symm.trans HR.out);go_wp2
     go_round
     case rel =>
      cases v with
      | zero=>exact .inl ⟨by go_num,by have:=HR2.out; rw [<- this]; rfl⟩
      | succ k=>exact .inr ⟨k,by omega,by go_num,HR2.out⟩
     case measure=>simp [intOf]
    ·
     have hb:(x == y) = false:=by simpa using hxy
     have HR2:=HR.out;rw [if_neg hxy] at HR2;have E3:=CS.out (x - y);have hsg:(if x - y < 0 then (-1:Int) else if 0 < x - y then 1 else 0) = res:=by rw [<- HR2]; split <;> split <;> first | rfl | omega | (split <;> omega)
     rw [hsg] at E3;replace E3:=Hd E3;clear HR HR2 hsg hxy;go_wp2_with fail;refine E1.out.mono ?_;rintro e w1 ⟨rfl,rfl⟩;go_wp2_with fail;refine E2.out.mono ?_;rintro e w1 ⟨rfl,rfl⟩;go_wp2_with fail;refine E3.out.mono ?_;rintro e w1 ⟨rfl,rfl⟩;go_wp2;go_ret;exact ⟨rfl,rfl⟩
 ·
  rw [show max l.length m.length = l.length by omega] at hres;have HRES:=Hd hres;clear hres;go_enter Tryz.func39,Tryz.ntmps39;go_wp2;have HLM:=Hd hlm;clear hlm
  go_loop [7] (fun q=>(q = .int .i64 (-1) /\ Hid (0 = res)) \/ ∃ v:Nat,v < l.length /\ q = .int .i64 v /\ Hid (lexDown l m (v + 1) = res)) (fun q=>(intOf q + 1).toNat)
  case atStart =>
   have HR:=HRES.out;have hlm:=HLM.out
   cases hn:l.length with
   | zero=>rw [hn] at HR; exact .inl ⟨by go_num,HR⟩
   | succ k=>rw [hn] at HR; exact .inr ⟨k,by omega,by go_num,HR⟩
  case round =>
   rcases hrel with ⟨rfl,hr⟩ | ⟨v,hv,rfl,hr⟩
   ·
    have hr:=hr.out;subst hr;go_wp2;go_ret;exact ⟨rfl,rfl⟩
   ·
    have I1v:=I1.out v; have I2v:=I2.out v;obtain ⟨x,hx⟩:∃ x,expAt l v = x:=⟨_,rfl⟩
    obtain ⟨y,hy⟩:∃ y,expAt m v = y:=⟨_,rfl⟩
    have E1:=C1.out v; have E2:=C2.out v;rw [hx] at E1 I1v;rw [hy] at E2 I2v;obtain ⟨i1,i2⟩:=I1v;obtain ⟨i3,i4⟩:=I2v;have hr:=hr.out;unfold lexDown at hr;rw [hx,hy] at hr;have HR:=Hd hr;replace E1:=Hd E1; replace E2:=Hd E2;clear hr hx hy;go_wp2_with fail;refine E1.out.mono ?_;rintro e w1 ⟨rfl,rfl⟩;go_wp2_with fail;refine E2.out.mono ?_;rintro e w1 ⟨rfl,rfl⟩;by_cases hxy:x = y
    ·
     subst hxy;have HR2:=Hd ((if_pos rfl).symm.trans HR.out);go_wp2
     go_round
     case rel =>
      cases v with
      | zero=>exact .inl ⟨by go_num,by have:=HR2.out; rw [<- this]; rfl⟩
      | succ k=>exact .inr ⟨k,by omega,by go_num,HR2.out⟩
     case measure=>simp [intOf]
    ·
     have hb:(x == y) = false:=by simpa using hxy
     have HR2:=HR.out;rw [if_neg hxy] at HR2;have E3:=CS.out (x - y);have hsg:(if x - y < 0 then (-1:Int) else if 0 < x - y then 1 else 0) = res:=by rw [<- HR2]; split <;> split <;> first | rfl | omega | (split <;> omega)
     rw [hsg] at E3;replace E3:=Hd E3;clear HR HR2 hsg hxy;go_wp2_with fail;refine E1.out.mono ?_;rintro e w1 ⟨rfl,rfl⟩;go_wp2_with fail;refine E2.out.mono ?_;rintro e w1 ⟨rfl,rfl⟩;go_wp2_with fail;refine E3.out.mono ?_;rintro e w1 ⟨rfl,rfl⟩;go_wp2;go_ret;exact ⟨rfl,rfl⟩
def Mok (B:Int) (m:List Int):Prop:=(∀ x ∈ m,0 <= x /\ x <= B) /\ m[m.length - 1]? ≠ some 0 /\ m.length <= 64
theorem Mok.nil (B:Int):Mok B []:=⟨fun x h=>(by cases h),by simp,by simp⟩
theorem Mok.exp {B:Int} {m:List Int} (h:Mok B m) (hB:0 <= B) (v:Nat):0 <= expAt m v /\ expAt m v <= B:=by
 unfold expAt;rw [List.getD_eq_getElem?_getD]
 cases hx:m[v]? with
 | none=>simpa using hB
 | some x=>exact h.1 x (List.mem_of_getElem? hx)
theorem mok_ext_le {B:Int} {a b:List Int} (hb:Mok B b) (h:∀ v,expAt a v = expAt b v):b.length <= a.length:=by
 rcases Nat.lt_or_ge a.length b.length with hl | hl
 ·
  exfalso;obtain ⟨x,hx⟩:=get_of_lt (show b.length - 1 < b.length by omega);have h1:=h (b.length - 1);rw [expAt_far (by omega),expAt_get hx] at h1;exact hb.2.1 (by rw [hx,<- h1])
 · exact hl
theorem mok_ext {B B':Int} {a b:List Int} (ha:Mok B a) (hb:Mok B' b) (h:∀ v,expAt a v = expAt b v):a = b:=by
 have h1:=mok_ext_le hb h;have h2:=mok_ext_le ha fun v=>(h v).symm
 apply List.ext_getElem (by omega);intro i hi1 hi2;have:=h i
 rwa [expAt_get (List.getElem?_eq_getElem hi1),expAt_get (List.getElem?_eq_getElem hi2)] at this
def gtM (a b:List Int):Prop:=∃ v,expAt b v < expAt a v /\ ∀ u,v < u -> expAt a u = expAt b u
theorem gtM_trans {a b c:List Int} (h:gtM a b) (k:gtM b c):gtM a c:=by
 obtain ⟨v,h1,h2⟩:=h;obtain ⟨u,k1,k2⟩:=k;rcases Nat.lt_trichotomy v u with e | e | e
 · exact ⟨u,by rw [h2 u e]; exact k1,fun x hx=>(h2 x (by omega)).trans (k2 x hx)⟩
 · subst e; exact ⟨v,by omega,fun x hx=>(h2 x hx).trans (k2 x hx)⟩
 · exact ⟨v,by rw [<- k2 v e]; exact h1,fun x hx=>(h2 x hx).trans (k2 x (by omega))⟩
theorem gtM_irrefl {a b:List Int} (h:gtM a b):¬ ∀ v,expAt a v = expAt b v:=fun e=>by
 obtain ⟨v,h1,_⟩:=h;rw [e v] at h1
 omega
theorem gtM_asymm {a b:List Int} (h:gtM a b) (k:gtM b a):False:=gtM_irrefl (gtM_trans h k) fun _=>rfl
theorem lexDown_cases (a b:List Int):∀ n,(∀ v,n <= v -> expAt a v = expAt b v) ->
  (lexDown a b n = 0 /\ ∀ v,expAt a v = expAt b v) \/ (lexDown a b n = 1 /\ gtM a b) \/ (lexDown a b n = -1 /\ gtM b a)
 | 0,h=>.inl ⟨rfl,fun v=>h v (Nat.zero_le _)⟩
 | n + 1,h=>by
  unfold lexDown;by_cases e:expAt a n = expAt b n
  ·
   rw [if_pos e];exact lexDown_cases a b n fun v hv=>by
    rcases Nat.eq_or_lt_of_le hv with e' | e'
    · subst e'; exact e
    · exact h v e'
  ·
   rw [if_neg e];by_cases l:expAt a n < expAt b n
   ·
    rw [if_pos l];exact .inr (.inr ⟨rfl,n,l,fun u hu=>(h u hu).symm⟩)
   ·
    rw [if_neg l];exact .inr (.inl ⟨rfl,n,by omega,fun u hu=>h u hu⟩)
theorem lexI_cases (a b:List Int):(lexI a b = 0 /\ ∀ v,expAt a v = expAt b v) \/ (lexI a b = 1 /\ gtM a b) \/ (lexI a b = -1 /\ gtM b a) :=
 lexDown_cases a b _ fun v hv=>by rw [expAt_far (by omega),expAt_far (by omega)]
theorem lexI_pos {a b:List Int}:0 < lexI a b ↔ gtM a b:=by
 rcases lexI_cases a b with ⟨h,e⟩ | ⟨h,e⟩ | ⟨h,e⟩ <;> rw [h]
 · exact ⟨fun h=>by omega,fun h=>(gtM_irrefl h e).elim⟩
 · exact ⟨fun _=>e,fun _=>by omega⟩
 · exact ⟨fun h=>by omega,fun h=>(gtM_asymm h e).elim⟩
theorem lexI_neg {a b:List Int}:lexI a b < 0 ↔ gtM b a:=by
 rcases lexI_cases a b with ⟨h,e⟩ | ⟨h,e⟩ | ⟨h,e⟩ <;> rw [h]
 · exact ⟨fun h=>by omega,fun h=>(gtM_irrefl h fun v=>(e v).symm).elim⟩
 · exact ⟨fun h=>by omega,fun h=>(gtM_asymm h e).elim⟩
 · exact ⟨fun _=>e,fun _=>by omega⟩
theorem lexI_eq {B B':Int} {a b:List Int} (ha:Mok B a) (hb:Mok B' b) (h1:¬ 0 < lexI a b) (h2:¬ lexI a b < 0):a = b:=by
 rcases lexI_cases a b with ⟨h,e⟩ | ⟨h,e⟩ | ⟨h,e⟩
 · exact mok_ext ha hb e
 · omega
 · omega
theorem lexI_self (a:List Int):lexI a a = 0:=by
 rcases lexI_cases a a with ⟨h,_⟩ | ⟨_,h⟩ | ⟨_,h⟩
 · exact h
 · exact (gtM_asymm h h).elim
 · exact (gtM_asymm h h).elim
theorem gtM_total {B B':Int} {a b:List Int} (ha:Mok B a) (hb:Mok B' b):a = b \/ gtM a b \/ gtM b a:=by
 rcases lexI_cases a b with ⟨_,e⟩ | ⟨_,e⟩ | ⟨_,e⟩
 · exact .inl (mok_ext ha hb e)
 · exact .inr (.inl e)
 · exact .inr (.inr e)
def mulM (a b:List Int):List Int:=(List.range (max a.length b.length)).map fun v=>expAt a v + expAt b v
theorem mulM_len (a b:List Int):(mulM a b).length = max a.length b.length:=by simp [mulM]
theorem mulM_get (a b:List Int) {v:Nat} (h:v < max a.length b.length):(mulM a b)[v]? = some (expAt a v + expAt b v):=by
 unfold mulM;rw [List.getElem?_map,List.getElem?_range h]
 rfl
theorem expAt_mul (a b:List Int) (v:Nat):expAt (mulM a b) v = expAt a v + expAt b v:=by
 rcases Nat.lt_or_ge v (max a.length b.length) with h | h
 · exact expAt_get (mulM_get a b h)
 · rw [expAt_far (by rw [mulM_len]; exact h),expAt_far (l:=a) (by omega),expAt_far (l:=b) (by omega)]; rfl
theorem mulM_ok {B B':Int} {a b:List Int} (ha:Mok B a) (hb:Mok B' b) (hB:0 <= B) (hB':0 <= B'):Mok (B + B') (mulM a b):=by
 refine ⟨?_,?_,by rw [mulM_len]; have:=ha.2.2; have:=hb.2.2; omega⟩
 ·
  intro x hx;obtain ⟨v,hv,rfl⟩:=List.mem_map.1 hx;have h1:=ha.exp hB v;have h2:=hb.exp hB' v
  omega
 ·
  rw [mulM_len];rcases Nat.eq_zero_or_pos (max a.length b.length) with h | h
  ·
   have:mulM a b = []:=List.eq_nil_of_length_eq_zero (by rw [mulM_len,h]);rw [this]; simp
  ·
   rw [mulM_get a b (by omega)];intro e;injection e with e
   have h1:=ha.exp hB (max a.length b.length - 1);have h2:=hb.exp hB' (max a.length b.length - 1);rcases Nat.le_total a.length b.length with l | l
   ·
    obtain ⟨x,hx⟩:=get_of_lt (show b.length - 1 < b.length by omega);rw [show max a.length b.length = b.length by omega] at e h1 h2;rw [expAt_get hx] at e h2;exact hb.2.1 (by rw [hx,show x = 0 by omega])
   ·
    obtain ⟨x,hx⟩:=get_of_lt (show a.length - 1 < a.length by omega);rw [show max a.length b.length = a.length by omega] at e h1 h2;rw [expAt_get hx] at e h1;exact ha.2.1 (by rw [hx,show x = 0 by omega])
theorem gtM_mul {a b:List Int} (h:gtM a b) (c:List Int):gtM (mulM a c) (mulM b c):=by
 obtain ⟨v,h1,h2⟩:=h;refine ⟨v,by rw [expAt_mul,expAt_mul]; omega,fun u hu=>by rw [expAt_mul,expAt_mul,h2 u hu]⟩
abbrev Tm:=Rat × List Int
def coefP:List Tm -> List Int -> Rat
 | [],_=>0
 | t :: p,m=>(if t.2 = m then t.1 else 0) + coefP p m
def Tok (B:Int) (p:List Tm):Prop:=∀ t ∈ p,Mok B t.2 /\ t.1 ≠ 0
def Pok (B:Int) (p:List Tm):Prop:=Tok B p /\ p.Pairwise fun s t=>gtM s.2 t.2
theorem Pok.nil (B:Int):Pok B []:=⟨fun t h=>(by cases h),List.Pairwise.nil⟩
theorem Pok.tail {B:Int} {t:Tm} {p:List Tm} (h:Pok B (t :: p)):Pok B p:=⟨fun s hs=>h.1 s (List.mem_cons_of_mem _ hs),h.2.tail⟩
theorem Pok.head {B:Int} {t:Tm} {p:List Tm} (h:Pok B (t :: p)):Mok B t.2 /\ t.1 ≠ 0:=h.1 t (List.mem_cons_self)
theorem Pok.gt {B:Int} {t:Tm} {p:List Tm} (h:Pok B (t :: p)):∀ s ∈ p,gtM t.2 s.2:=(List.pairwise_cons.1 h.2).1
theorem Pok.cons {B:Int} {t:Tm} {p:List Tm} (h:Pok B p) (h1:Mok B t.2) (h2:t.1 ≠ 0) (h3:∀ s ∈ p,gtM t.2 s.2):Pok B (t :: p) :=
 ⟨fun s hs => (by rcases List.mem_cons.1 hs with rfl | hs
                  · exact ⟨h1,h2⟩
                  · exact h.1 s hs),List.pairwise_cons.2 ⟨h3,h.2⟩⟩
theorem coefP_none {p:List Tm} {m:List Int} (h:∀ s ∈ p,s.2 ≠ m):coefP p m = 0:=by
 induction p with
 | nil=>rfl
 | cons t p ih =>
  unfold coefP;rw [if_neg (h t (List.mem_cons_self)),ih fun s hs=>h s (List.mem_cons_of_mem _ hs)]
  grind
theorem gtM_ne {a b:List Int} (h:gtM a b):a ≠ b:=fun e=>gtM_irrefl h fun v=>by rw [e]
theorem coefP_head {B:Int} {t:Tm} {p:List Tm} (h:Pok B (t :: p)):coefP (t :: p) t.2 = t.1:=by
 unfold coefP;rw [if_pos rfl,coefP_none fun s hs e=>gtM_ne (h.gt s hs) e.symm]
 grind
theorem coefP_above {B:Int} {t:Tm} {p:List Tm} {m:List Int} (h:Pok B (t :: p)) (hm:gtM m t.2):coefP (t :: p) m = 0 :=
 coefP_none fun s hs e=>by
  rcases List.mem_cons.1 hs with rfl | hs
  · exact gtM_ne hm e.symm
  · exact gtM_ne (gtM_trans hm (h.gt s hs)) e.symm
theorem pok_ext {B B':Int}:∀ {p q:List Tm},Pok B p -> Pok B' q -> (∀ m,coefP p m = coefP q m) -> p = q
 | [],[],_,_,_=>rfl
 | [],t :: q,_,hq,h=>by
  have:=h t.2;rw [coefP_head hq] at this;exact absurd this.symm hq.head.2
 | s :: p,[],hp,_,h=>by
  have:=h s.2;rw [coefP_head hp] at this;exact absurd this hp.head.2
 | s :: p,t :: q,hp,hq,h=>by
  rcases gtM_total hp.head.1 hq.head.1 with e | e | e
  ·
   have h1:s.1 = t.1:=by
    have:=h s.2;rw [coefP_head hp,e,coefP_head hq] at this;exact this
   have h2:s = t:=Prod.ext h1 e;subst h2;rw [pok_ext hp.tail hq.tail fun m=>by
    have:=h m;unfold coefP at this
    grind]
  ·
   have:=h s.2;rw [coefP_head hp,coefP_above hq e] at this;exact absurd this hp.head.2
  ·
   have:=h t.2;rw [coefP_head hq,coefP_above hp e] at this;exact absurd this.symm hq.head.2
def addP:List Tm -> List Tm -> List Tm
 | [],q=>q
 | s :: p,[]=>s :: p
 | s :: p,t :: q =>
  if 0 < lexI s.2 t.2 then s :: addP p (t :: q)
  else if lexI s.2 t.2 < 0 then t :: addP (s :: p) q
  else if s.1 + t.1 = 0 then addP p q
  else (s.1 + t.1,s.2) :: addP p q
termination_by p q=>p.length + q.length
theorem addP_nil (p:List Tm):addP p [] = p:=by cases p <;> unfold addP <;> rfl
theorem addP_nil' (p:List Tm):addP [] p = p:=by unfold addP; rfl
theorem addP_gt {s t:Tm} {p q:List Tm} (h:0 < lexI s.2 t.2):addP (s :: p) (t :: q) = s :: addP p (t :: q):=by rw [addP,if_pos h]
theorem addP_lt {s t:Tm} {p q:List Tm} (h:lexI s.2 t.2 < 0):addP (s :: p) (t :: q) = t :: addP (s :: p) q:=by rw [addP,if_neg (by omega),if_pos h]
theorem addP_gone {s t:Tm} {p q:List Tm} (h:lexI s.2 t.2 = 0) (h0:s.1 + t.1 = 0):addP (s :: p) (t :: q) = addP p q:=by rw [addP,if_neg (by omega),if_neg (by omega),if_pos h0]
theorem addP_eq {s t:Tm} {p q:List Tm} (h:lexI s.2 t.2 = 0) (h0:s.1 + t.1 ≠ 0):addP (s :: p) (t :: q) = (s.1 + t.1,s.2) :: addP p q:=by rw [addP,if_neg (by omega),if_neg (by omega),if_neg h0]
theorem addP_len:∀ (p q:List Tm),(addP p q).length <= p.length + q.length
 | [],q=>by rw [addP_nil']; simp
 | s :: p,[]=>by rw [addP_nil]; simp
 | s :: p,t :: q=>by
  rw [addP]
  split
  · have:=addP_len p (t :: q); simp at this ⊢; omega
  ·
   split
   · have:=addP_len (s :: p) q; simp at this ⊢; omega
   ·
    split
    · have:=addP_len p q; simp at this ⊢; omega
    · have:=addP_len p q; simp at this ⊢; omega
termination_by p q=>p.length + q.length
theorem addP_mem:∀ (p q:List Tm) (u:Tm),u ∈ addP p q -> u ∈ p \/ u ∈ q \/ ∃ s ∈ p,∃ t ∈ q,u = (s.1 + t.1,s.2) /\ lexI s.2 t.2 = 0 /\ s.1 + t.1 ≠ 0
 | [],q,u,h=>by rw [addP_nil'] at h; exact .inr (.inl h)
 | s :: p,[],u,h=>by rw [addP_nil] at h; exact .inl h
 | s :: p,t :: q,u,h=>by
  have fix:∀ {p' q':List Tm},(∀ x ∈ p',x ∈ s :: p) -> (∀ x ∈ q',x ∈ t :: q) -> (u ∈ p' \/ u ∈ q' \/ ∃ s ∈ p',∃ t ∈ q',u = (s.1 + t.1,s.2) /\ lexI s.2 t.2 = 0 /\ s.1 + t.1 ≠ 0) ->
    (u ∈ s :: p \/ u ∈ t :: q \/ ∃ s' ∈ s :: p,∃ t' ∈ t :: q,u = (s'.1 + t'.1,s'.2) /\ lexI s'.2 t'.2 = 0 /\ s'.1 + t'.1 ≠ 0):=fun h1 h2 h3=>by
   rcases h3 with h | h | ⟨a,ha,b,hb,e⟩
   · exact .inl (h1 _ h)
   · exact .inr (.inl (h2 _ h))
   · exact .inr (.inr ⟨a,h1 _ ha,b,h2 _ hb,e⟩)
  have m1:∀ x ∈ p,x ∈ s :: p:=fun x hx=>List.mem_cons_of_mem _ hx
  have m2:∀ x ∈ q,x ∈ t :: q:=fun x hx=>List.mem_cons_of_mem _ hx
  by_cases c1:0 < lexI s.2 t.2
  ·
   rw [addP_gt c1] at h;rcases List.mem_cons.1 h with rfl | h
   · exact .inl (List.mem_cons_self)
   · exact fix m1 (fun _ h=>h) (addP_mem p (t :: q) u h)
  ·
   by_cases c2:lexI s.2 t.2 < 0
   ·
    rw [addP_lt c2] at h;rcases List.mem_cons.1 h with rfl | h
    · exact .inr (.inl (List.mem_cons_self))
    · exact fix (fun _ h=>h) m2 (addP_mem (s :: p) q u h)
   ·
    by_cases c3:s.1 + t.1 = 0
    ·
     rw [addP_gone (by omega) c3] at h;exact fix m1 m2 (addP_mem p q u h)
    ·
     rw [addP_eq (by omega) c3] at h;rcases List.mem_cons.1 h with rfl | h
     · exact .inr (.inr ⟨s,List.mem_cons_self,t,List.mem_cons_self,rfl,by omega,c3⟩)
     · exact fix m1 m2 (addP_mem p q u h)
termination_by p q=>p.length + q.length
theorem coefP_add {B B':Int}:∀ {p q:List Tm},Tok B p -> Tok B' q -> ∀ m,coefP (addP p q) m = coefP p m + coefP q m
 | [],q,_,_,m=>by rw [addP_nil']; unfold coefP; grind
 | s :: p,[],_,_,m=>by rw [addP_nil,coefP.eq_1 m]; grind
 | s :: p,t :: q,hp,hq,m=>by
  have hp':Tok B p:=fun x hx=>hp x (List.mem_cons_of_mem _ hx)
  have hq':Tok B' q:=fun x hx=>hq x (List.mem_cons_of_mem _ hx)
  by_cases c1:0 < lexI s.2 t.2
  ·
   have:=coefP_add hp' hq m;rw [addP_gt c1,coefP,this,coefP.eq_2 m s p]; grind
  ·
   by_cases c2:lexI s.2 t.2 < 0
   ·
    have:=coefP_add hp hq' m;rw [addP_lt c2,coefP,this,coefP.eq_2 m t q]; grind
   ·
    have e:=lexI_eq (hp s List.mem_cons_self).1 (hq t List.mem_cons_self).1 c1 c2;have:=coefP_add hp' hq' m;by_cases c3:s.1 + t.1 = 0
    · rw [addP_gone (by omega) c3,this,coefP.eq_2 m t q,coefP.eq_2 m s p,e]; grind
    · rw [addP_eq (by omega) c3,coefP,this,coefP.eq_2 m t q,coefP.eq_2 m s p,e]; dsimp only; grind
termination_by p q=>p.length + q.length
theorem addP_ok {B:Int}:∀ {p q:List Tm},Pok B p -> Pok B q -> Pok B (addP p q)
 | [],q,_,hq=>by rw [addP_nil']; exact hq
 | s :: p,[],hp,_=>by rw [addP_nil]; exact hp
 | s :: p,t :: q,hp,hq=>by
  by_cases c1:0 < lexI s.2 t.2
  ·
   rw [addP_gt c1];refine (addP_ok hp.tail hq).cons hp.head.1 hp.head.2 fun u hu=>?_
   have g:gtM s.2 t.2:=lexI_pos.1 c1;rcases addP_mem _ _ _ hu with h | h | ⟨a,ha,b,_,rfl,_⟩
   · exact hp.gt u h
   ·
    rcases List.mem_cons.1 h with rfl | h
    · exact g
    · exact gtM_trans g (hq.gt u h)
   · exact hp.gt a ha
  ·
   by_cases c2:lexI s.2 t.2 < 0
   ·
    rw [addP_lt c2];refine (addP_ok hp hq.tail).cons hq.head.1 hq.head.2 fun u hu=>?_
    have g:gtM t.2 s.2:=lexI_neg.1 c2;rcases addP_mem _ _ _ hu with h | h | ⟨a,ha,b,_,rfl,_⟩
    ·
     rcases List.mem_cons.1 h with rfl | h
     · exact g
     · exact gtM_trans g (hp.gt u h)
    · exact hq.gt u h
    ·
     rcases List.mem_cons.1 ha with rfl | ha
     · exact g
     · exact gtM_trans g (hp.gt a ha)
   ·
    have e:=lexI_eq hp.head.1 hq.head.1 c1 c2;by_cases c3:s.1 + t.1 = 0
    · rw [addP_gone (by omega) c3]; exact addP_ok hp.tail hq.tail
    ·
     rw [addP_eq (by omega) c3];refine (addP_ok hp.tail hq.tail).cons hp.head.1 c3 fun u hu=>?_
     rcases addP_mem _ _ _ hu with h | h | ⟨a,ha,b,_,rfl,_⟩
     · exact hp.gt u h
     · rw [e]; exact hq.gt u h
     · exact hp.gt a ha
termination_by p q=>p.length + q.length
def timesP (p:List Tm) (t:Tm):List Tm:=p.map fun s=>(s.1 * t.1,mulM s.2 t.2)
theorem timesP_ok {B B':Int} {p:List Tm} {t:Tm} (h:Pok B p) (ht:Mok B' t.2) (h0:t.1 ≠ 0) (hB:0 <= B) (hB':0 <= B'):Pok (B + B') (timesP p t):=by
 refine ⟨fun u hu=>?_,?_⟩
 ·
  obtain ⟨s,hs,rfl⟩:=List.mem_map.1 hu;exact ⟨mulM_ok (h.1 s hs).1 ht hB hB',by have:=(h.1 s hs).2; dsimp only; grind⟩
 ·
  unfold timesP;rw [List.pairwise_map];exact h.2.imp fun hg=>gtM_mul hg _
def pairC (p q:List Tm) (m:List Int):Rat:=match q with
 | []=>0
 | t :: q=>coefP (timesP p t) m + pairC p q m
theorem foldl_ok {B B':Int} {p:List Tm} (hp:Pok B p) (hB:0 <= B) (hB':0 <= B'):∀ (q out:List Tm),Tok B' q -> Pok (B + B') out ->
  Pok (B + B') (q.foldl (fun out t=>addP out (timesP p t)) out) /\ ∀ m,coefP (q.foldl (fun out t=>addP out (timesP p t)) out) m = coefP out m + pairC p q m
 | [],out,_,ho=>⟨ho,fun m=>by unfold pairC; rw [List.foldl_nil]; grind⟩
 | t :: q,out,hq,ho=>by
  have ht:=hq t List.mem_cons_self;have h1:=timesP_ok hp ht.1 ht.2 hB hB';obtain ⟨h2,h3⟩:=foldl_ok hp hB hB' q _ (fun x hx=>hq x (List.mem_cons_of_mem _ hx)) (addP_ok ho h1);refine ⟨h2,fun m=>?_⟩;rw [List.foldl_cons,h3 m,coefP_add ho.1 h1.1];rw [pairC]
  grind
theorem coefP_cons (t:Tm) (p:List Tm) (m:List Int):coefP (t :: p) m = (if t.2 = m then t.1 else 0) + coefP p m:=rfl
def halvesP (l:List (List Tm)):List Tm :=
 if h:l.length <= 1 then l.headD [] else addP (halvesP (l.take (l.length / 2))) (halvesP (l.drop (l.length / 2)))
termination_by l.length
decreasing_by
 · rw [List.length_take]; omega
 · rw [List.length_drop]; omega
def sumC (l:List (List Tm)) (m:List Int):Rat:=match l with
 | []=>0
 | p :: l=>coefP p m + sumC l m
theorem sumC_append (l l':List (List Tm)) (m:List Int):sumC (l ++ l') m = sumC l m + sumC l' m:=by
 induction l with
 | nil=>unfold sumC; rw [List.nil_append]; grind [sumC]
 | cons p l ih=>rw [List.cons_append,sumC,ih,sumC]; grind
theorem halvesP_ok {B:Int} (l:List (List Tm)) (h:∀ p ∈ l,Pok B p):Pok B (halvesP l) /\ ∀ m,coefP (halvesP l) m = sumC l m:=by
 rw [halvesP]
 split
 ·
  next hl =>
  match l,hl with
  | [],_=>exact ⟨Pok.nil _,fun m=>rfl⟩
  | [p],_=>exact ⟨h p List.mem_cons_self,fun m=>by unfold sumC sumC; simp only [List.headD_cons]; grind⟩
 ·
  next hl =>
  have h1:=halvesP_ok (B:=B) (l.take (l.length / 2)) fun p hp=>h p (List.mem_of_mem_take hp)
  have h2:=halvesP_ok (B:=B) (l.drop (l.length / 2)) fun p hp=>h p (List.mem_of_mem_drop hp)
  refine ⟨addP_ok h1.1 h2.1,fun m=>?_⟩;rw [coefP_add h1.1.1 h2.1.1,h1.2,h2.2,<- sumC_append,List.take_append_drop]
termination_by l.length
decreasing_by
 · rw [List.length_take]; omega
 · rw [List.length_drop]; omega
def Agr (X:Nat -> Prop) (w V:World):Prop:=∀ p v,¬ X p.block -> w.cell? p = some v -> V.cell? p = some v
def Rd (X:Nat -> Prop) (w:World) (R:World -> Prop):Prop:=∀ V,Agr X w V -> R V
section
variable {X Y : Nat -> Prop} {w w' w'' V : World} {R R' : World -> Prop}
theorem Agr.refl (X:Nat -> Prop) (w:World):Agr X w w:=fun _ _ _ h=>h
theorem Agr.trans (h:Agr X w w') (k:Agr X w' w''):Agr X w w'':=fun p v hp hc=>k p v hp (h p v hp hc)
theorem Agr.mono (h:Agr X w w') (e:∀ b,X b -> Y b):Agr Y w w':=fun p v hp hc=>h p v (fun hx=>hp (e _ hx)) hc
theorem Agr.ext (h:Ext w w'):Agr X w w':=fun p v _ hc=>h p v hc
theorem Agr.below (h:Below w.heap.size w w'):Agr X w w':=Agr.ext (xbw h)
theorem Agr.alloc (h:Agr X w w') (o:Obj):Agr X w (w'.alloc o):=fun p v hp hc=>by
 have e:=h p v hp hc;exact (World.cell?_alloc_lt w' o p (World.block_lt_of_cell? w' p e)).trans e
theorem Agr.setc {g i:Nat} {u:Value} (hg:X g) (h:Agr X w w'):Agr X w (w'.setCell ⟨g,i,none⟩ u):=fun p v hp hc =>
 (World.cell?_setCell_other w' ⟨g,i,none⟩ p u (fun e=>by subst e; exact hp hg)).trans (h p v hp hc)
theorem Agr.grown {a:Option Addr} {n c:Nat} (h:Agr X w w') (hg:w'.grownBy w'' (Value.ownBlock (.slice a n c))) (ha:∀ g,a = some g -> X g.block):Agr X w w'':=fun p v hp hc =>
 hg.cell (h p v hp hc) (fun e=>by
  cases a with
  | none=>simp [Value.ownBlock] at e
  | some g=>simp [Value.ownBlock] at e; exact hp (e ▸ ha g rfl))
theorem Rd.less {Y:Nat -> Prop} (h:Rd Y w R) (e:∀ b,X b -> Y b):Rd X w R:=fun V hV=>h V (hV.mono e)
theorem Rd.now (h:Rd X w R):R w:=h w (Agr.refl _ _)
theorem Rd.imp (h:Rd X w R) (e:∀ V,R V -> R' V):Rd X w R':=fun V hV=>e V (h V hV)
theorem Rd.and (h:Rd X w R) (k:Rd X w R'):Rd X w fun V=>R V /\ R' V:=fun V hV=>⟨h V hV,k V hV⟩
theorem Rd.step (h:Rd X w R) (hw:Agr X w w'):Rd X w' R:=fun V hV=>h V (hw.trans hV)
theorem Rd.call (h:Rd X w R) (hb:Below w.heap.size w w'):Rd X w' R:=h.step (Agr.below hb)
theorem Rd.alloc (h:Rd X w R) (o:Obj):Rd X (w.alloc o) R:=h.step ((Agr.refl _ _).alloc o)
theorem Rd.more (h:Rd X w R) (e:∀ b,Y b -> X b \/ w.heap.size <= b):Rd Y w R:=fun V hV=>h V fun p v hp hc =>
 hV p v (fun hy=>(e _ hy).elim hp fun hl=>absurd (World.block_lt_of_cell? w p hc) (by omega)) hc
end
def Sat (S:World -> Prop) (w:World):Prop:=S w
section
variable {α β : Type} {f : α -> List Value} {sz : Nat} {t : TypeId} {B : Nat} {w V : World} {a : Option Addr} {c : Nat} {l : List α} {X : Nat -> Prop}
theorem Own.readsX {E:World -> Nat -> Nat -> β -> Prop} (m:List β) (hlen:m.length = l.length) (hf:∀ x,(f x).length = sz) (h:Own f sz t B w a c l) (hV:Agr X w V) (hX:∀ g,a = some g -> ¬ X g.block)
  (hE:∀ (b o k:Nat) (x:α) (y:β),l[k]? = some x -> m[k]? = some y -> (∀ j u,(f x)[j]? = some u -> V.cell? ⟨b,o + j,none⟩ = some u) -> E V b o y):SlR sz E V a c m:=by
 refine ⟨by rw [hlen]; exact h.cap.1,h.cap.2,fun k y hy=>?_⟩;obtain ⟨x,hx⟩:=get_of_lt (show k < l.length by have:=lt_of_get hy; omega);obtain ⟨b,ha,hB,_,hc⟩:=h.at_ hf hx;exact ⟨b,0,ha,hE _ _ _ _ _ hx hy (fun j u hu=>hV _ _ (fun hx=>hX _ ha hx) (by simpa using hc j u hu))⟩
end
theorem qsignR_any (neg:Bool) (l m:List Int) (n:Nat) (a a':Option Addr) (c c':Nat) (w:World) (h:NatR w a c l) (h':NatR w a' c' m) (hn:val l = n) (h0:val m ≠ 0) (hl:l.length <= 2000000) (hm:m.length <= 2000000) :
  Calls Tryz.prog 32 #[.agg #[.bool neg,.slice a l.length c,.slice a' m.length c']] w fun e w'=>e = .returned (.int .i64 (sgnZ neg n)) /\ Below w.heap.size w w':=by
 have CN:=fun W (hW:Below w.heap.size w W)=>qnormR_any neg l m n (val m) a a' c c' W (h.ext (xbw hW)) (h'.ext (xbw hW)) hn rfl hl hm
 have hs:=lowest_sgn neg n (val m) h0;have q1:=limbs_len_val h.u16;rw [hn] at q1;have r1:=limbs_len_mono (lowest_num neg n (val m));obtain ⟨t,ht⟩:∃ t,lowest neg n (val m) = t:=⟨_,rfl⟩
 rw [ht] at CN hs r1;obtain ⟨s,N,D⟩:=t;unfold RetF at CN;dsimp only at CN hs r1;have CS:=fun b cb W (hV:NatR W b cb (limbs N))=>zsignR_any s (limbs N) N b cb W hV (val_limbs _) (by omega)
 rw [hs] at CS;obtain ⟨R,hR⟩:∃ q,sgnZ neg n = q:=⟨_,rfl⟩
 rw [hR] at CS ⊢;replace CN:=Hd CN; replace CS:=Hd CS;have hz:Blk (w.alloc (.cells #[.bool neg,.slice a l.length c,.slice a' m.length c'] 54)) w.heap.size 54 #[.bool neg,.slice a l.length c,.slice a' m.length c']:=Blk.new w _ _;have hb0:Below w.heap.size w (w.alloc (.cells #[.bool neg,.slice a l.length c,.slice a' m.length c'] 54)):=brf.alloc (nlr _) _;have hfl:=fun a1 a2 c1 c2 W=>rat_num s a1 (limbs N).length c1 a2 (limbs D).length c2 W
 clear h h' hn h0 hR ht hs r1 q1;go_enter Tryz.func32,Tryz.ntmps32;go_wp2_with fail;revert hz hb0;generalize w.alloc (.cells #[.bool neg,.slice a l.length c,.slice a' m.length c'] 54) = w0;intro hz hb0;have z0:=hz.cell 0; have z1:=hz.cell 1; have z2:=hz.cell 2;go_wp2_with fail;refine (CN.out _ hb0).mono ?_;rintro e w1 ⟨a1,c1,a2,c2,rfl,hV1,hV2,hb1⟩;have hw1:=bth hb0 hb1;have CS1:=CS.out a1 c1 w1 (hV1 w1 (New.refl _ _));replace CS1:=Hd CS1;have hf:=hfl a1 a2 c1 c2 w1;clear hV1 hV2 hb1 z0 z1 z2 hz hb0 hfl;go_wp2_with fail;refine CS1.out.mono ?_;rintro e w2 ⟨rfl,hb2⟩;go_wp2;go_ret;exact ⟨rfl,bth hw1 hb2⟩
end Go.Proofs.YtkjnkpkagcboeaaGreatDoor
