/- Walks: the program's rational numbers: Mul, Cmp. -/
import Derived.Test.YtkjnkpkagcboeaaGreatDoorCa4
set_option linter.all false
set_option maxRecDepth 100000
set_option maxHeartbeats 4000000
namespace Go.Proofs.YtkjnkpkagcboeaaGreatDoor
open Go.RowKit
theorem zsum_same (neg:Bool) (n1 n2:Nat):zval neg n1 + zval neg n2 = zval neg (n1 + n2):=by unfold zval; cases neg <;> simp; omega
theorem zsum_other {neg1 neg2:Bool} (h:neg1 ≠ neg2) (n1 n2:Nat):(n2 <= n1 -> zval neg1 n1 + zval neg2 n2 = zval neg1 (n1 - n2)) /\ (n1 <= n2 -> zval neg1 n1 + zval neg2 n2 = zval neg2 (n2 - n1)):=by
 unfold zval; cases neg1 <;> cases neg2 <;> simp at h ⊢ <;> omega
theorem zval_lt0 (neg:Bool) (n:Nat):decide (zval neg n < 0) = (neg && decide (0 < n)):=by
 unfold zval; cases neg <;> simp
theorem zval_abs0 (neg:Bool) (n:Nat):(zval neg n).natAbs = n:=by unfold zval; split <;> omega
def RetI (z:Int) (w:World) (e:Ending) (w':World):Prop:=RetZ (decide (z < 0)) z.natAbs w e w'
theorem retI_of {neg:Bool} {n:Nat} {z:Int} {w:World} {e:Ending} {w':World} (hz:z = zval neg n) (h:RetZ (neg && decide (0 < n)) n w e w'):RetI z w e w':=by
 subst hz;unfold RetI;rw [zval_lt0,zval_abs0];exact h
theorem zadd_same (neg1:Bool) (l m:List Int) (n1 n2:Nat) (a a':Option Addr) (c c':Nat) (w:World) (h:NatR w a c l) (h':NatR w a' c' m) (hn:val l = n1) (hk:val m = n2) (hl:l.length <= 4000000) (hm:m.length <= 4000000) :
  Calls Tryz.prog 163 #[.agg #[.bool neg1,.slice a l.length c],.agg #[.bool neg1,.slice a' m.length c']] w (RetI (zval neg1 n1 + zval neg1 n2) w):=by
 have CA:=fun W (hW:Below w.heap.size w W)=>nadd_any l m n1 n2 a a' c c' W (h.ext (xbw hW)) (h'.ext (xbw hW)) hn hk (by omega) (by omega)
 have CF:=fun a c W=>made_any neg1 (n1 + n2) a c W
 refine Calls.mono ?_ fun _ _=>retI_of (zsum_same neg1 n1 n2)
 obtain ⟨R,hR⟩:∃ q,(neg1 && decide (0 < n1 + n2)) = q:=⟨_,rfl⟩
 rw [hR] at CF ⊢;revert CA CF;generalize n1 + n2 = n;intro CA CF;replace CA:=Hd CA; replace CF:=Hd CF;clear h h' hn hk hR;have hx1:=blk_at2 w (.cells #[.bool neg1,.slice a l.length c] 52) (.cells #[.bool neg1,.slice a' m.length c'] 52) 52 #[.bool false,.slice none 0 0];have hz:Blk (((w.alloc (.cells #[.bool neg1,.slice a l.length c] 52)).alloc (.cells #[.bool neg1,.slice a' m.length c'] 52)).alloc (.cells #[.bool false,.slice none 0 0] 52)) (w.heap.size + 1 + 1) 52 #[.bool false,.slice none 0 0]:=hx1;have hx1:Blk (((w.alloc (.cells #[.bool neg1,.slice a l.length c] 52)).alloc (.cells #[.bool neg1,.slice a' m.length c'] 52)).alloc (.cells #[.bool false,.slice none 0 0] 52)) w.heap.size 52 #[.bool neg1,.slice a l.length c]:=((Blk.new w _ _).alloc _).alloc _
 have hx2:Blk (((w.alloc (.cells #[.bool neg1,.slice a l.length c] 52)).alloc (.cells #[.bool neg1,.slice a' m.length c'] 52)).alloc (.cells #[.bool false,.slice none 0 0] 52)) (w.heap.size + 1) 52 #[.bool neg1,.slice a' m.length c']:=(blk_at1 w _ _ _).alloc _;have hb0:Below w.heap.size w (((w.alloc (.cells #[.bool neg1,.slice a l.length c] 52)).alloc (.cells #[.bool neg1,.slice a' m.length c'] 52)).alloc (.cells #[.bool false,.slice none 0 0] 52)):=by go_grown
 have hg2:w.heap.size < w.heap.size + 1 + 1:=by omega
 go_enter Tryz.func163,Tryz.ntmps163;go_wp2;revert hz hx1 hx2 hb0 hg2;generalize ((w.alloc (.cells #[.bool neg1,.slice a l.length c] 52)).alloc (.cells #[.bool neg1,.slice a' m.length c'] 52)).alloc (.cells #[.bool false,.slice none 0 0] 52) = w0;generalize w.heap.size + 1 + 1 = g3;generalize w.heap.size + 1 = g2;intro hz hx1 hx2 hb0 hg2;have hs0:=hb0.size;have hgl:=hz.lt;have k0:=held (hx1.cell 0); have k1:=held (hx1.cell 1); have k2:=held (hx2.cell 1);have s0:Below w0.heap.size w0 w0.drew:=brf.drew;refine wp_region_mix (S:=Below w0.heap.size w0) [(0,.q),(1,.q),(2,.q),(3,.q),(4,.q),(5,.q),(6,.l),(7,.t),(8,.t)] (by kernel_rfl) (by kernel_rfl) (by kernel_rfl) (fun d _ _ _ _ h=>by cases d <;> exact h) (s0) ?_
 iterate 6 (refine wpMix_q rfl rfl (fun K hK=>?_); apply Exists.intro; refine ⟨fun w' hw'=>?_,?_⟩; (focus (go_simp; try rfl)); go_simp; refine hK _ _ ?_; clear hK K)
 refine wpMix_l rfl rfl (fun K hK=>?_);go_simp;refine (CA.out _ (bth hb0 s0)).mono ?_;rintro r w1 ⟨a3,c3,rfl,hV3,hb1⟩;dsimp only;refine hK.out _ _ (bth s0 hb1) (fun _=>?_);clear hK K;have s1:=bth s0 hb1;have HV:=Hd hV3;clear hV3;refine wpMix_t rfl rfl (fun K hK=>?_);go_simp;refine (CF.out a3 c3 _).mono ?_;rintro r w2 ⟨rfl,hb2⟩;dsimp only;refine hK.out _ _ ?_;clear hK K;obtain ⟨a4,rfl⟩:∃ a4,a4 = a3:=⟨_,rfl⟩
 obtain ⟨c4,rfl⟩:∃ c4,c4 = c3:=⟨_,rfl⟩
 have s2:=bth s1 hb2;have hz3:=hz.below' s2;have z0:=hz3.cell 0; have z1:=hz3.cell 1; have f0:=hz3.frozen 0; have f1:=hz3.frozen 1;have hw2:=bth hb0 s2;clear k0 k1 k2;refine wpMix_t rfl rfl (fun K hK=>?_);go_simp;refine hK.out _ _ ?_;clear hK K;refine wpMix_nil ?_;go_wp2;have hF:=blk2 (x:=.bool R) (y:=.slice a4 (limbs n).length c4) hz3;have e0:=hF.cell 0; have e1:=hF.cell 1;refine bodyPost_ret (v:=.agg #[.bool R,.slice a4 (limbs n).length c4]) (by simp [results,Tryz.results163,go_sem,e0,e1]) rfl ?_;exact ⟨a4,c4,rfl,fun V hV=>HV.out V ((back2 hV hs0 hgl).below hb2),below2 hw2 (Nat.le_of_lt hg2)⟩
theorem zadd_other (neg1 neg2:Bool) (l m:List Int) (n1 n2:Nat) (a a':Option Addr) (c c':Nat) (w:World) (h:NatR w a c l) (h':NatR w a' c' m) (hn:val l = n1) (hk:val m = n2) (hl:l.length <= 4000000) (hm:m.length <= 4000000) (hne:neg1 ≠ neg2) :
  Calls Tryz.prog 163 #[.agg #[.bool neg1,.slice a l.length c],.agg #[.bool neg2,.slice a' m.length c']] w (RetI (zval neg1 n1 + zval neg2 n2) w):=by
 have hsum:=zsum_other hne n1 n2;have hbe:(neg1 == neg2) = false:=by simpa using hne
 have CC:=fun W (hW:Below w.heap.size w W)=>cmp_any l m n1 n2 a a' c c' W (h.ext (xbw hW)) (h'.ext (xbw hW)) hn hk
 by_cases hlt:n1 < n2
 ·
  have CS:=fun W (hW:Below w.heap.size w W)=>nsub_any m l n2 n1 a' a c' c W (h'.ext (xbw hW)) (h.ext (xbw hW)) hk hn (by omega) (by omega) (by omega)
  have CF:=fun a c W=>made_any neg2 (n2 - n1) a c W
  refine Calls.mono ?_ fun _ _=>retI_of (hsum.2 (by omega))
  have hc:cmpN n1 n2 = -1:=by unfold cmpN; rw [if_pos hlt]
  rw [hc] at CC;obtain ⟨R,hR⟩:∃ q,(neg2 && decide (0 < n2 - n1)) = q:=⟨_,rfl⟩
  rw [hR] at CF ⊢;unfold RetNE at CS;revert CS CF;generalize n2 - n1 = n;intro CS CF;replace CC:=Hd CC; replace CS:=Hd CS; replace CF:=Hd CF;clear h h' hn hk hR hsum hne hc hlt;go_enter Tryz.func163,Tryz.ntmps163;go_wp2_with fail;refine calls_gen (fun W=>Blk W w.heap.size 52 #[.bool neg1,.slice a l.length c] /\ Blk W (w.heap.size + 1) 52 #[.bool neg2,.slice a' m.length c'] /\ Blk W (w.heap.size + 1 + 1) 52 #[.bool false,.slice none 0 0] /\ Below w.heap.size w W /\ w.heap.size < w.heap.size + 1 /\ w.heap.size + 1 < w.heap.size + 1 + 1 /\ w.heap.size + 1 + 1 < W.heap.size) ⟨((Blk.new w _ _).alloc _).alloc _,(blk_at1 w _ _ _).alloc _,blk_at2 w _ _ _ _,by go_grown,by omega,by omega,by simp⟩ ?_;rintro w0 ⟨hx1,hx2,hz,hw0,hg1,hg2,hg3⟩;revert hx1 hx2 hz hg1 hg2 hg3;generalize w.heap.size + 1 + 1 = g3;generalize w.heap.size + 1 = g2;intro hx1 hx2 hz hg1 hg2 hg3
  have z0:=hx1.cell 0; have z1:=hx1.cell 1; have z2:=hx2.cell 0; have z3:=hx2.cell 1;refine (CC.out _ hw0).mono ?_;rintro e w1 ⟨rfl,hb1⟩;replace hx1:=hx1.below' hb1;replace hx2:=hx2.below' hb1;replace hz:=hz.below' hb1;have hw1:=bth hw0 hb1;have hs1:=hb1.size;clear z0 z1 z2 z3;have z0:=hx1.cell 0; have z1:=hx1.cell 1; have z2:=hx2.cell 0; have z3:=hx2.cell 1; have f0:=hx1.frozen 0; have f1:=hx1.frozen 1; have f2:=hx2.frozen 0; have f3:=hx2.frozen 1;have hn1:¬ g2 = w.heap.size:=by omega
  have hn2:¬ w.heap.size = g2:=by omega
  go_wp2_with fail;refine calls_gen (fun W=>Blk W w.heap.size 52 #[.bool neg2,.slice a' m.length c'] /\ Blk W g3 52 #[.bool false,.slice none 0 0] /\ Below w.heap.size w W /\ w1.heap.size <= W.heap.size) ⟨by ((with_reducible repeat first|assumption|(apply bF;focus omega)|apply bS|(apply bN;focus (simp;done))|apply bA|apply bD);all_goals rfl),by ((with_reducible repeat first|assumption|(apply bF;focus omega)|apply bS|(apply bN;focus (simp;done))|apply bA|apply bD);all_goals rfl),by go_grown,by simp⟩ ?_;rintro w2 ⟨hx,hy,hw2,hs2⟩;clear z0 z1 z2 z3 f0 f1 f2 f3 hx1 hx2 hz;refine (CS.out _ hw2).mono ?_;rintro e w3 ⟨a3,c3,rfl,hV,hb3⟩;have HV:=Hd hV;replace hx:=hx.below' hb3;replace hy:=hy.below' hb3;have hw3:=bth hw2 hb3;have hs3:=hb3.size;have z0:=hx.cell 0;clear hV;go_wp2_with fail;refine (CF.out a3 c3 _).mono ?_;rintro e w4 ⟨rfl,hb4⟩;replace hy:=hy.below' hb4;have hw4:=bth hw3 hb4
  clear z0 hx;have z0:=hy.cell 0; have z1:=hy.cell 1; have f0:=hy.frozen 0; have f1:=hy.frozen 1;go_wp2;have hF:=blk2 (x:=.bool R) (y:=.slice a3 (limbs n).length c3) hy;have e0:=hF.cell 0; have e1:=hF.cell 1;refine bodyPost_ret (v:=.agg #[.bool R,.slice a3 (limbs n).length c3]) (by simp [results,Tryz.results163,go_sem,e0,e1]) rfl ?_;exact ⟨a3,c3,rfl,fun V hV=>HV.out V ((back2 hV hw2.size (show g3 < w2.heap.size by omega)).below hb4),below2 hw4 (by omega)⟩
 ·
  have CS:=fun W (hW:Below w.heap.size w W)=>nsub_any l m n1 n2 a a' c c' W (h.ext (xbw hW)) (h'.ext (xbw hW)) hn hk (by omega) (by omega) (by omega)
  have CF:=fun a c W=>made_any neg1 (n1 - n2) a c W
  refine Calls.mono ?_ fun _ _=>retI_of (hsum.1 (by omega))
  have hc:0 <= cmpN n1 n2:=cmpN_ge.2 (by omega);revert CC hc;generalize cmpN n1 n2 = q;intro CC hc;have hq:¬ q < 0:=by omega
  obtain ⟨R,hR⟩:∃ q,(neg1 && decide (0 < n1 - n2)) = q:=⟨_,rfl⟩
  rw [hR] at CF ⊢;unfold RetNE at CS;revert CS CF;generalize n1 - n2 = n;intro CS CF;replace CC:=Hd CC; replace CS:=Hd CS; replace CF:=Hd CF;clear h h' hn hk hR hsum hne hc hlt;go_enter Tryz.func163,Tryz.ntmps163;go_wp2_with fail;refine calls_gen (fun W=>Blk W w.heap.size 52 #[.bool neg1,.slice a l.length c] /\ Blk W (w.heap.size + 1) 52 #[.bool neg2,.slice a' m.length c'] /\ Blk W (w.heap.size + 1 + 1) 52 #[.bool false,.slice none 0 0] /\ Below w.heap.size w W /\ w.heap.size < w.heap.size + 1 /\ w.heap.size + 1 < w.heap.size + 1 + 1 /\ w.heap.size + 1 + 1 < W.heap.size) ⟨((Blk.new w _ _).alloc _).alloc _,(blk_at1 w _ _ _).alloc _,blk_at2 w _ _ _ _,by go_grown,by omega,by omega,by simp⟩ ?_;rintro w0 ⟨hx1,hx2,hz,hw0,hg1,hg2,hg3⟩;revert hx1 hx2 hz hg1 hg2 hg3;generalize w.heap.size + 1 + 1 = g3;generalize w.heap.size + 1 = g2;intro hx1 hx2 hz hg1 hg2 hg3
  have z0:=hx1.cell 0; have z1:=hx1.cell 1; have z2:=hx2.cell 0; have z3:=hx2.cell 1;refine (CC.out _ hw0).mono ?_;rintro e w1 ⟨rfl,hb1⟩;replace hx1:=hx1.below' hb1;replace hx2:=hx2.below' hb1;replace hz:=hz.below' hb1;have hw1:=bth hw0 hb1;have hs1:=hb1.size;clear z0 z1 z2 z3;have z0:=hx1.cell 0; have z1:=hx1.cell 1; have z2:=hx2.cell 0; have z3:=hx2.cell 1;go_wp2_with fail;refine (CS.out _ hw1).mono ?_;rintro e w3 ⟨a3,c3,rfl,hV,hb3⟩;have HV:=Hd hV;replace hx1:=hx1.below' hb3;replace hz:=hz.below' hb3;have hw3:=bth hw1 hb3;have hs3:=hb3.size;clear hV z0 z1 z2 z3 hx2;have z0:=hx1.cell 0;go_wp2_with fail;refine (CF.out a3 c3 _).mono ?_;rintro e w4 ⟨rfl,hb4⟩;replace hz:=hz.below' hb4;have hw4:=bth hw3 hb4;clear z0 hx1;have z0:=hz.cell 0; have z1:=hz.cell 1; have f0:=hz.frozen 0; have f1:=hz.frozen 1;go_wp2;have hF:=blk2 (x:=.bool R) (y:=.slice a3 (limbs n).length c3) hz
  have e0:=hF.cell 0; have e1:=hF.cell 1;refine bodyPost_ret (v:=.agg #[.bool R,.slice a3 (limbs n).length c3]) (by simp [results,Tryz.results163,go_sem,e0,e1]) rfl ?_;exact ⟨a3,c3,rfl,fun V hV=>HV.out V ((back2 hV hw1.size (show g3 < w1.heap.size by omega)).below hb4),below2 hw4 (by omega)⟩
theorem zadd_any (neg1 neg2:Bool) (l m:List Int) (n1 n2:Nat) (a a':Option Addr) (c c':Nat) (w:World) (h:NatR w a c l) (h':NatR w a' c' m) (hn:val l = n1) (hk:val m = n2) (hl:l.length <= 4000000) (hm:m.length <= 4000000) :
  Calls Tryz.prog 163 #[.agg #[.bool neg1,.slice a l.length c],.agg #[.bool neg2,.slice a' m.length c']] w (RetI (zval neg1 n1 + zval neg2 n2) w):=by
 by_cases hne:neg1 = neg2
 ·
  subst hne;exact zadd_same neg1 l m n1 n2 a a' c c' w h h' hn hk hl hm
 · exact zadd_other neg1 neg2 l m n1 n2 a a' c c' w h h' hn hk hl hm hne
def RetQ (neg:Bool) (n d:Nat) (w:World) (e:Ending) (w':World):Prop:=∃ na nc da dc,e = .returned (.agg #[.bool neg,.slice na (limbs n).length nc,.slice da (limbs d).length dc]) /\
 (∀ V,New w.heap.size w' V -> NatR V na nc (limbs n)) /\ (∀ V,New w.heap.size w' V -> NatR V da dc (limbs d)) /\ Below w.heap.size w w'
theorem over_zero (neg:Bool) (l m:List Int) (a a':Option Addr) (c c':Nat) (w:World) (h':NatR w a' c' m) (hk:val m = 0) (hm:m.length <= 2000000) :
  Calls Tryz.prog 112 #[.agg #[.bool neg,.slice a l.length c],.slice a' m.length c'] w (RetQ false 0 1 w):=by
 have CN:=fun W (hW:Below w.heap.size w W)=>norm01_any m a' c' W (h'.ext (xbw hW)) (by omega)
 rw [hk,limbs_zero] at CN;have CO:=fun W=>of01_any 1 W (by omega)
 replace CN:=Hd CN; replace CO:=Hd CO;have hz:Blk ((w.alloc (.cells #[.bool neg,.slice a l.length c] 52)).alloc (.cells #[.bool false,.slice none 0 0,.slice none 0 0] 54)) (w.heap.size + 1) 54 #[.bool false,.slice none 0 0,.slice none 0 0]:=blk_at1 w _ _ _;have hb0:Below w.heap.size w ((w.alloc (.cells #[.bool neg,.slice a l.length c] 52)).alloc (.cells #[.bool false,.slice none 0 0,.slice none 0 0] 54)):=by go_grown
 have hgB:w.heap.size <= w.heap.size + 1:=by omega
 unfold RetQ;rw [limbs_zero];clear h' hk;go_enter Tryz.func112,Tryz.ntmps112;go_wp2_with fail;have hgl:=hz.lt;revert hz hb0 hgB hgl;generalize (w.alloc (.cells #[.bool neg,.slice a l.length c] 52)).alloc (.cells #[.bool false,.slice none 0 0,.slice none 0 0] 54) = w0;generalize w.heap.size + 1 = g;intro hz hb0 hgB hgl;refine (CN.out _ hb0).mono ?_;rintro e w1 ⟨a3,c3,rfl,_,hb1⟩;have hw1:=bth hb0 hb1;have hz1:=hz.below' hb1;go_wp2_with fail;refine (CO.out _).mono ?_;rintro e w2 ⟨a1,c1,rfl,hV,hb2⟩;have hw2:=bth hw1 hb2;have hz2:=hz1.below' hb2;have hg1:=hz1.lt;have HV:=Hd hV;have z0:=hz2.cell 0; have z1:=hz2.cell 1; have z2:=hz2.cell 2; have f0:=hz2.frozen 0; have f1:=hz2.frozen 1; have f2:=hz2.frozen 2;clear hV;go_wp2;have hF:=blk3 (x:=.bool false) (y:=.slice none 0 0) (z:=.slice a1 (limbs 1).length c1) hz2;have e0:=hF.cell 0; have e1:=hF.cell 1; have e2:=hF.cell 2
 refine bodyPost_ret (v:=.agg #[.bool false,.slice none 0 0,.slice a1 (limbs 1).length c1]) (by simp [results,Tryz.results112,go_sem,e0,e1,e2]) rfl ?_;exact ⟨none,0,a1,c1,rfl,fun _ _=>SlR.nil,fun V hV=>HV.out V (back3 hV hw1.size hg1),below3 hw2 hgB⟩
theorem over_any (neg:Bool) (l m:List Int) (n d:Nat) (a a':Option Addr) (c c':Nat) (w:World) (h:NatR w a c l) (h':NatR w a' c' m) (hn:val l = n) (hk:val m = d) (hl:l.length <= 2000000) (hm:m.length <= 2000000) (h0:0 < d) :
  Calls Tryz.prog 112 #[.agg #[.bool neg,.slice a l.length c],.slice a' m.length c'] w (RetQ (neg && decide (0 < n / Nat.gcd n d)) (n / Nat.gcd n d) (d / Nat.gcd n d) w):=by
 have hll:=limbs_len_val h.u16;have hlm:=limbs_len_val h'.u16;rw [hn] at hll;rw [hk] at hlm;have hgp:0 < Nat.gcd n d:=Nat.gcd_pos_of_pos_right n h0;have hgd:Nat.gcd n d <= d:=Nat.le_of_dvd h0 (Nat.gcd_dvd_right n d);have hgl0:=limbs_len_mono hgd;have hnl:=limbs_len_mono (Nat.div_le_self n (Nat.gcd n d));have CN:=fun W (hW:Below w.heap.size w W)=>norm01_any m a' c' W (h'.ext (xbw hW)) (by omega)
 rw [hk] at CN;have CG:=fun W (hW:Below w.heap.size w W)=>gcd01_any l m n d a a' c c' W (h.ext (xbw hW)) (h'.ext (xbw hW)) hn hk hl hm
 have CD1:=fun ag cg W (hW:Below w.heap.size w W) hr=>divMod01_any l (limbs (Nat.gcd n d)) n (Nat.gcd n d) a ag c cg W (h.ext (xbw hW)) hr hn (val_limbs _) hl (by omega) hgp
 have CD2:=fun ag cg W (hW:Below w.heap.size w W) hr=>divMod01_any m (limbs (Nat.gcd n d)) d (Nat.gcd n d) a' ag c' cg W (h'.ext (xbw hW)) hr hk (val_limbs _) hm (by omega) hgp
 have CZ:=fun ag cg W hr=>znormR_any neg (limbs (n / Nat.gcd n d)) (n / Nat.gcd n d) ag cg W hr (val_limbs _) (by omega)
 have hne:(((limbs d).length:Int) == 0) = false:=by rw [beq_eq_false_iff_ne]; have:=limbs_len_pos.2 h0; omega
 obtain ⟨R,hR⟩:∃ q,(neg && decide (0 < n / Nat.gcd n d)) = q:=⟨_,rfl⟩
 rw [hR] at CZ ⊢;unfold RetDM at CD1 CD2;obtain ⟨gg,hgg⟩:∃ q,Nat.gcd n d = q:=⟨_,rfl⟩
 simp only [hgg] at CG CD1 CD2 CZ ⊢;obtain ⟨N,hN⟩:∃ q,n / gg = q:=⟨_,rfl⟩
 obtain ⟨D,hD⟩:∃ q,d / gg = q:=⟨_,rfl⟩
 simp only [hN] at CD1 CZ ⊢;simp only [hD] at CD2 ⊢;replace CN:=Hd CN; replace CG:=Hd CG; replace CD1:=Hd CD1; replace CD2:=Hd CD2; replace CZ:=Hd CZ;have hz:Blk ((w.alloc (.cells #[.bool neg,.slice a l.length c] 52)).alloc (.cells #[.bool false,.slice none 0 0,.slice none 0 0] 54)) (w.heap.size + 1) 54 #[.bool false,.slice none 0 0,.slice none 0 0]:=blk_at1 w _ _ _;have hx:Blk ((w.alloc (.cells #[.bool neg,.slice a l.length c] 52)).alloc (.cells #[.bool false,.slice none 0 0,.slice none 0 0] 54)) w.heap.size 52 #[.bool neg,.slice a l.length c]:=(Blk.new w _ _).alloc _;have hb0:Below w.heap.size w ((w.alloc (.cells #[.bool neg,.slice a l.length c] 52)).alloc (.cells #[.bool false,.slice none 0 0,.slice none 0 0] 54)):=by go_grown
 have hgB:w.heap.size <= w.heap.size + 1:=by omega
 clear h h' hn hk hll hlm hgp hgd hgl0 hnl hR hgg hN hD;go_enter Tryz.func112,Tryz.ntmps112;go_wp2_with fail;have hgl:=hz.lt;revert hz hx hb0 hgB hgl;generalize (w.alloc (.cells #[.bool neg,.slice a l.length c] 52)).alloc (.cells #[.bool false,.slice none 0 0,.slice none 0 0] 54) = w0;generalize w.heap.size + 1 = g;intro hz hx hb0 hgB hgl;refine (CN.out _ hb0).mono ?_;rintro e w1 ⟨a3,c3,rfl,_,hb1⟩;have hw1:=bth hb0 hb1;have hx1:=hx.below' hb1;have hz1:=hz.below' hb1;have z0:=hx1.cell 0; have z1:=hx1.cell 1;clear hz hx hb1 hgl;go_wp2_with fail;refine (CG.out _ hw1).mono ?_;rintro e w2 ⟨a4,c4,rfl,hV4,hb2⟩;have hw2:=bth hw1 hb2;have hx2:=hx1.below' hb2;have hz2:=hz1.below' hb2;have hr4:=hV4 w2 (New.refl _ _);have CE1:=CD1.out a4 c4 w2 hw2 hr4;replace CE1:=Hd CE1;clear z0 z1 hV4 hx1 hz1;have z0:=hx2.cell 0; have z1:=hx2.cell 1;go_wp2_with fail;refine CE1.out.mono ?_
 rintro e w3 ⟨a5,c5,_,_,rfl,hV5,_,hb3⟩;have hw3:=bth hw2 hb3;have hx3:=hx2.below' hb3;have hz3:=hz2.below' hb3;have hg3:=hz3.lt;have HV5:=Hd hV5;have CE2:=CD2.out a4 c4 w3 hw3 (hr4.ext (xbw hb3));replace CE2:=Hd CE2;clear z0 z1 hV5 hx2 hz2 hr4 CE1;have z0:=hx3.cell 0; have z1:=hx3.cell 1;go_wp2_with fail;refine CE2.out.mono ?_;rintro e w4 ⟨a6,c6,_,_,rfl,hV6,_,hb4⟩;have hw4:=bth hw3 hb4;have hx4:=hx3.below' hb4;have hz4:=hz3.below' hb4;have HV6:=Hd hV6;have CF:=CZ.out a5 c5 w4 (HV5.out w4 ((New.refl _ _).below hb4));replace CF:=Hd CF;clear z0 z1 hV6 hx3 hz3 CE2;have z0:=hx4.cell 0; have z1:=hx4.cell 1;go_wp2_with fail;refine CF.out.mono ?_;rintro e w5 ⟨a7,c7,rfl,hV7,hb5⟩;have hw5:=bth hw4 hb5;have hz5:=hz4.below' hb5;have HV7:=Hd hV7;have hg4:=hz4.lt;clear z0 z1 hV7 hx4 CF
 have z0:=hz5.cell 0; have z1:=hz5.cell 1; have z2:=hz5.cell 2; have f0:=hz5.frozen 0; have f1:=hz5.frozen 1; have f2:=hz5.frozen 2;go_wp2;have hF:=blk3 (x:=.bool R) (y:=.slice a7 (limbs N).length c7) (z:=.slice a6 (limbs D).length c6) hz5;have e0:=hF.cell 0; have e1:=hF.cell 1; have e2:=hF.cell 2;refine bodyPost_ret (v:=.agg #[.bool R,.slice a7 (limbs N).length c7,.slice a6 (limbs D).length c6]) (by simp [results,Tryz.results112,go_sem,e0,e1,e2]) rfl ?_;exact ⟨a7,c7,a6,c6,rfl,fun V hV=>HV7.out V (back3 hV hw4.size hg4),fun V hV=>HV6.out V ((back3 hV hw3.size hg3).below hb5),below3 hw5 hgB⟩
def lowest (neg:Bool) (n d:Nat):Bool × Nat × Nat:=if d = 0 then (false,0,1) else (neg && decide (0 < n / Nat.gcd n d),n / Nat.gcd n d,d / Nat.gcd n d)
def RetF (t:Bool × Nat × Nat) (w:World) (e:Ending) (w':World):Prop:=RetQ t.1 t.2.1 t.2.2 w e w'
theorem over_all (neg:Bool) (l m:List Int) (n d:Nat) (a a':Option Addr) (c c':Nat) (w:World) (h:NatR w a c l) (h':NatR w a' c' m) (hn:val l = n) (hk:val m = d) (hl:l.length <= 2000000) (hm:m.length <= 2000000) :
  Calls Tryz.prog 112 #[.agg #[.bool neg,.slice a l.length c],.slice a' m.length c'] w (RetF (lowest neg n d) w):=by
 unfold RetF lowest;by_cases h0:d = 0
 ·
  rw [if_pos h0];exact over_zero neg l m a a' c c' w h' (by rw [hk,h0]) hm
 ·
  rw [if_neg h0];exact over_any neg l m n d a a' c c' w h h' hn hk hl hm (by omega)
theorem qnormR_any (neg:Bool) (l m:List Int) (n d:Nat) (a a':Option Addr) (c c':Nat) (w:World) (h:NatR w a c l) (h':NatR w a' c' m) (hn:val l = n) (hk:val m = d) (hl:l.length <= 2000000) (hm:m.length <= 2000000) :
  Calls Tryz.prog 62 #[.agg #[.bool neg,.slice a l.length c,.slice a' m.length c']] w (RetF (lowest neg n d) w):=by
 have CO:=fun W (hW:Below w.heap.size w W)=>over_all neg l m n d a a' c c' W (h.ext (xbw hW)) (h'.ext (xbw hW)) hn hk hl hm
 obtain ⟨t,ht⟩:∃ t,lowest neg n d = t:=⟨_,rfl⟩
 rw [ht] at CO ⊢;obtain ⟨s,N,D⟩:=t;unfold RetF at CO ⊢;dsimp only at CO ⊢;replace CO:=Hd CO;have hz:Blk ((w.alloc (.cells #[.bool neg,.slice a l.length c,.slice a' m.length c'] 54)).alloc (.cells #[.bool false,.slice none 0 0,.slice none 0 0] 54)) (w.heap.size + 1) 54 #[.bool false,.slice none 0 0,.slice none 0 0]:=blk_at1 w _ _ _;have hb0:Below w.heap.size w ((w.alloc (.cells #[.bool neg,.slice a l.length c,.slice a' m.length c'] 54)).alloc (.cells #[.bool false,.slice none 0 0,.slice none 0 0] 54)):=by go_grown
 have hgB:w.heap.size <= w.heap.size + 1:=by omega
 have hgl:=hz.lt;clear h h' hn hk ht;go_enter Tryz.func62,Tryz.ntmps62;go_wp2_with fail;revert hz hb0 hgB hgl;generalize (w.alloc (.cells #[.bool neg,.slice a l.length c,.slice a' m.length c'] 54)).alloc (.cells #[.bool false,.slice none 0 0,.slice none 0 0] 54) = w0;generalize w.heap.size + 1 = g;intro hz hb0 hgB hgl;refine (CO.out _ hb0).mono ?_;rintro e w1 ⟨a1,c1,a2,c2,rfl,hV1,hV2,hb1⟩;have hw1:=bth hb0 hb1;have hz1:=hz.below' hb1;have HV1:=Hd hV1;have HV2:=Hd hV2;have z0:=hz1.cell 0; have z1:=hz1.cell 1; have z2:=hz1.cell 2; have f0:=hz1.frozen 0; have f1:=hz1.frozen 1; have f2:=hz1.frozen 2;have hs0:=hb0.size;clear hV1 hV2 hb0;go_wp2;have hF:=blk3 (x:=.bool s) (y:=.slice a1 (limbs N).length c1) (z:=.slice a2 (limbs D).length c2) hz1;have e0:=hF.cell 0; have e1:=hF.cell 1; have e2:=hF.cell 2
 refine bodyPost_ret (v:=.agg #[.bool s,.slice a1 (limbs N).length c1,.slice a2 (limbs D).length c2]) (by simp [results,Tryz.results62,go_sem,e0,e1,e2]) rfl ?_;exact ⟨a1,c1,a2,c2,rfl,fun V hV=>HV1.out V (back3 hV hs0 hgl),fun V hV=>HV2.out V (back3 hV hs0 hgl),below3 hw1 hgB⟩
def RetM (t:Bool × Nat × Nat) (w:World) (e:Ending) (w':World):Prop:=∃ na nc da dc,e = .returned (.tuple #[.agg #[.bool t.1,.slice na (limbs t.2.1).length nc,.slice da (limbs t.2.2).length dc],.int .i64 0]) /\
 (∀ V,New w.heap.size w' V -> NatR V na nc (limbs t.2.1)) /\ (∀ V,New w.heap.size w' V -> NatR V da dc (limbs t.2.2)) /\ Below w.heap.size w w'
theorem whole_any (n:Nat) (a:Option Addr) (c:Nat) (w:World) :
  Calls Tryz.prog 130 #[.slice a n c] w fun e w'=>e = .returned (.agg #[.bool false,.slice a n c]) /\ Below w.heap.size w w':=by
 go_enter Tryz.func130,Tryz.ntmps130;go_wp2;have hF:=Blk.new w 52 #[.bool false,.slice a n c];have e0:=hF.cell 0; have e1:=hF.cell 1;refine bodyPost_ret (v:=.agg #[.bool false,.slice a n c]) (by simp [results,Tryz.results130,go_sem]) rfl ?_;exact ⟨rfl,brf.alloc (nlr _) _⟩
theorem zval_pos (neg:Bool) (n:Nat):zval (neg && decide (0 < n)) n = zval neg n:=by
 by_cases hn:n = 0
 ·
  subst hn;simp [zval]
 ·
  have:decide (0 < n) = true:=by rw [decide_eq_true_eq]; omega
  rw [this,Bool.and_true]
theorem lowest_num (neg:Bool) (n d:Nat):(lowest neg n d).2.1 <= n:=by
 unfold lowest
 split
 · exact Nat.zero_le _
 · exact Nat.div_le_self _ _
theorem lowest_den (neg:Bool) (n d:Nat):(lowest neg n d).2.2 <= d + 1:=by
 unfold lowest
 split
 · show 1 <= d + 1; omega
 · exact Nat.le_succ_of_le (Nat.div_le_self _ _)
theorem limbs_len_succ (d:Nat):(limbs (d + 1)).length <= (limbs d).length + 1:=by
 apply limbs_len_le;have:=lt_pow_limbs d;rw [Nat.pow_succ];have h1:0 < 65536 ^ (limbs d).length:=Nat.pow_pos (by decide)
 omega
def crossed (t u:Bool × Nat × Nat):Int:=cmpI (zval t.1 (t.2.1 * u.2.2)) (zval u.1 (u.2.1 * t.2.2))
theorem qcmpR_any (neg1 neg2:Bool) (l m l' m':List Int) (n1 d1 n2 d2:Nat) (a b a' b':Option Addr) (c cb c' cb':Nat) (w:World) (h1:NatR w a c l) (h2:NatR w b cb m) (h3:NatR w a' c' l') (h4:NatR w b' cb' m')
  (e1:val l = n1) (e2:val m = d1) (e3:val l' = n2) (e4:val m' = d2) (b1:l.length <= 900000) (b2:m.length <= 900000) (b3:l'.length <= 900000) (b4:m'.length <= 900000) :
  Calls Tryz.prog 78 #[.agg #[.bool neg1,.slice a l.length c,.slice b m.length cb],.agg #[.bool neg2,.slice a' l'.length c',.slice b' m'.length cb']] w fun e w' =>
   e = .returned (.int .i64 (crossed (lowest neg1 n1 d1) (lowest neg2 n2 d2))) /\ Below w.heap.size w w':=by
 have q1:=limbs_len_val h1.u16;have q2:=limbs_len_val h2.u16;have q3:=limbs_len_val h3.u16;have q4:=limbs_len_val h4.u16;rw [e1] at q1;rw [e2] at q2;rw [e3] at q3;rw [e4] at q4;have r1:=limbs_len_mono (lowest_num neg1 n1 d1);have r2:=limbs_len_mono (lowest_den neg1 n1 d1);have r3:=limbs_len_mono (lowest_num neg2 n2 d2);have r4:=limbs_len_mono (lowest_den neg2 n2 d2);have t2:=limbs_len_succ d1;have t4:=limbs_len_succ d2;have C1:=fun W (hW:Below w.heap.size w W)=>qnormR_any neg1 l m n1 d1 a b c cb W (h1.ext (xbw hW)) (h2.ext (xbw hW)) e1 e2 (by omega) (by omega)
 have C2:=fun W (hW:Below w.heap.size w W)=>qnormR_any neg2 l' m' n2 d2 a' b' c' cb' W (h3.ext (xbw hW)) (h4.ext (xbw hW)) e3 e4 (by omega) (by omega)
 obtain ⟨u1,hu1⟩:∃ u,lowest neg1 n1 d1 = u:=⟨_,rfl⟩
 obtain ⟨u2,hu2⟩:∃ u,lowest neg2 n2 d2 = u:=⟨_,rfl⟩
 rw [hu1] at C1 r1 r2 ⊢;rw [hu2] at C2 r3 r4 ⊢;obtain ⟨s1,N1,D1⟩:=u1;obtain ⟨s2,N2,D2⟩:=u2;unfold RetF at C1 C2;unfold crossed;dsimp only at C1 C2 r1 r2 r3 r4 ⊢;have m1:=limbs_len_mul N1 D2;have m2:=limbs_len_mul N2 D1;have CM1:=fun a1 a2 c1 c2 W g1 g2=>zmulR_any s1 false (limbs N1) (limbs D2) N1 D2 a1 a2 c1 c2 W g1 g2 (val_limbs _) (val_limbs _) (by omega) (by omega)
 have CM2:=fun a1 a2 c1 c2 W g1 g2=>zmulR_any s2 false (limbs N2) (limbs D1) N2 D1 a1 a2 c1 c2 W g1 g2 (val_limbs _) (val_limbs _) (by omega) (by omega)
 have x1:(s1 != false) = s1:=by cases s1 <;> rfl
 have x2:(s2 != false) = s2:=by cases s2 <;> rfl
 simp only [x1] at CM1;simp only [x2] at CM2;have CC:=fun a1 a2 c1 c2 W g1 g2=>zcmpR_any (s1 && decide (0 < N1 * D2)) (s2 && decide (0 < N2 * D1)) (limbs (N1 * D2)) (limbs (N2 * D1)) (N1 * D2) (N2 * D1) a1 a2 c1 c2 W g1 g2 (val_limbs _) (val_limbs _) (by omega) (by omega)
 simp only [zval_pos] at CC;obtain ⟨R,hR⟩:∃ q,cmpI (zval s1 (N1 * D2)) (zval s2 (N2 * D1)) = q:=⟨_,rfl⟩
 obtain ⟨p1,hp1⟩:∃ q,(s1 && decide (0 < N1 * D2)) = q:=⟨_,rfl⟩
 obtain ⟨p2,hp2⟩:∃ q,(s2 && decide (0 < N2 * D1)) = q:=⟨_,rfl⟩
 simp only [hR,hp1,hp2] at CM1 CM2 CC ⊢;clear hR hp1 hp2 x1 x2 m1 m2 t2 t4 r1 r2 r3 r4 hu1 hu2 q1 q2 q3 q4;revert CM1 CM2 CC;generalize N1 * D2 = P1;generalize N2 * D1 = P2;intro CM1 CM2 CC;replace C1:=Hd C1; replace C2:=Hd C2; replace CM1:=Hd CM1; replace CM2:=Hd CM2; replace CC:=Hd CC;have hx1:Blk ((w.alloc (.cells #[.bool neg1,.slice a l.length c,.slice b m.length cb] 54)).alloc (.cells #[.bool neg2,.slice a' l'.length c',.slice b' m'.length cb'] 54)) w.heap.size 54 #[.bool neg1,.slice a l.length c,.slice b m.length cb]:=(Blk.new w _ _).alloc _;have hx2:Blk ((w.alloc (.cells #[.bool neg1,.slice a l.length c,.slice b m.length cb] 54)).alloc (.cells #[.bool neg2,.slice a' l'.length c',.slice b' m'.length cb'] 54)) (w.heap.size + 1) 54 #[.bool neg2,.slice a' l'.length c',.slice b' m'.length cb']:=blk_at1 w _ _ _
 have hb0:Below w.heap.size w ((w.alloc (.cells #[.bool neg1,.slice a l.length c,.slice b m.length cb] 54)).alloc (.cells #[.bool neg2,.slice a' l'.length c',.slice b' m'.length cb'] 54)):=by go_grown
 have hgB:w.heap.size < w.heap.size + 1:=by omega
 clear h1 h2 h3 h4 e1 e2 e3 e4;go_enter Tryz.func78,Tryz.ntmps78;go_wp2;revert hx1 hx2 hb0 hgB;generalize (w.alloc (.cells #[.bool neg1,.slice a l.length c,.slice b m.length cb] 54)).alloc (.cells #[.bool neg2,.slice a' l'.length c',.slice b' m'.length cb'] 54) = w0;generalize w.heap.size + 1 = g;intro hx1 hx2 hb0 hgB;have k0:=held (hx1.cell 0); have k1:=held (hx1.cell 1); have k2:=held (hx1.cell 2); have k3:=held (hx2.cell 0); have k4:=held (hx2.cell 1); have k5:=held (hx2.cell 2);have s0:Below w0.heap.size w0 w0.drew:=brf.drew;have hgl:=hx2.lt;refine wp_region_mix (S:=Below w0.heap.size w0) [(0,.q),(2,.q),(1,.l),(3,.t),(4,.t),(5,.t)] (by kernel_rfl) (by kernel_rfl) (by kernel_rfl) (fun d _ _ _ _ h=>by cases d <;> exact h) (s0) ?_
 iterate 2 (refine wpMix_q rfl rfl (fun K hK=>?_); apply Exists.intro; refine ⟨fun w' hw'=>?_,?_⟩; (focus (go_simp; try rfl)); go_simp; refine hK _ _ ?_; clear hK K)
 refine wpMix_l rfl rfl (fun K hK=>?_);go_simp;refine (C1.out _ (bth hb0 s0)).mono ?_;rintro r w1 ⟨a1,c1,a2,c2,rfl,hV1,hV2,hb1⟩;dsimp only;refine hK.out _ _ (bth s0 hb1) (fun _=>?_);clear hK K;have s1':=bth s0 hb1;refine wpMix_t rfl rfl (fun K hK=>?_);go_simp;refine (C2.out _ (bth hb0 s1')).mono ?_;rintro r w2 ⟨a3,c3,a4,c4,rfl,hV3,hV4,hb2⟩;dsimp only;refine hK.out _ _ ?_;clear hK K;have s2':=bth s1' hb2;have hy1:=hx1.below' s2';have hy2:=hx2.below' s2';have z0:=hy1.cell 0; have z1:=hy1.cell 1; have z2:=hy1.cell 2; have z3:=hy2.cell 0; have z4:=hy2.cell 1; have z5:=hy2.cell 2;have f0:=hy1.frozen 0; have f1:=hy1.frozen 1; have f2:=hy1.frozen 2; have f3:=hy2.frozen 0; have f4:=hy2.frozen 1; have f5:=hy2.frozen 2;have hne:¬ g = w.heap.size:=by omega
 have hne2:¬ w.heap.size = g:=by omega
 have HV1:=Hd hV1;have HV2:=Hd hV2;have HV3:=Hd hV3;have HV4:=Hd hV4;have hw2:=bth hb0 s2';have hs1:=s1'.size;have hs0:=hb1.size;clear hV1 hV2 hV3 hV4 k0 k1 k2 k3 k4 k5;refine wpMix_t rfl rfl (fun K hK=>?_);go_simp;refine hK.out _ _ ?_;clear hK K;refine wpMix_t rfl rfl (fun K hK=>?_);go_simp;refine hK.out _ _ ?_;clear hK K;refine wpMix_nil ?_;have hF1:=(((blk3 (x:=.bool s1) (y:=.slice a1 (limbs N1).length c1) (z:=.slice a2 (limbs D1).length c2) hy1).far (p:=⟨g,0,none⟩) hne2 (.bool s2)).far (p:=⟨g,1,none⟩) hne2 (.slice a3 (limbs N2).length c3)).far (p:=⟨g,2,none⟩) hne2 (.slice a4 (limbs D2).length c4);have hF2:=blk3 (x:=.bool s2) (y:=.slice a3 (limbs N2).length c3) (z:=.slice a4 (limbs D2).length c4) (((hy2.far (p:=⟨w.heap.size,0,none⟩) hne (.bool s1)).far (p:=⟨w.heap.size,1,none⟩) hne (.slice a1 (limbs N1).length c1)).far (p:=⟨w.heap.size,2,none⟩) hne (.slice a2 (limbs D1).length c2))
 have hwF:=below3 (x:=.bool s2) (y:=.slice a3 (limbs N2).length c3) (z:=.slice a4 (limbs D2).length c4) (below3 (x:=.bool s1) (y:=.slice a1 (limbs N1).length c1) (z:=.slice a2 (limbs D1).length c2) hw2 (nlr _)) (Nat.le_of_lt hgB);have hN:=New.refl w0.heap.size (((((((w2.setCell ⟨w.heap.size,0,none⟩ (.bool s1)).setCell ⟨w.heap.size,1,none⟩ (.slice a1 (limbs N1).length c1)).setCell ⟨w.heap.size,2,none⟩ (.slice a2 (limbs D1).length c2)).setCell ⟨g,0,none⟩ (.bool s2)).setCell ⟨g,1,none⟩ (.slice a3 (limbs N2).length c3)).setCell ⟨g,2,none⟩ (.slice a4 (limbs D2).length c4)));have hN2:=back3 (back3 hN (nlr _) hgl) (nlr _) hx1.lt;revert hF1 hF2 hwF hN2
 generalize ((((((w2.setCell ⟨w.heap.size,0,none⟩ (.bool s1)).setCell ⟨w.heap.size,1,none⟩ (.slice a1 (limbs N1).length c1)).setCell ⟨w.heap.size,2,none⟩ (.slice a2 (limbs D1).length c2)).setCell ⟨g,0,none⟩ (.bool s2)).setCell ⟨g,1,none⟩ (.slice a3 (limbs N2).length c3)).setCell ⟨g,2,none⟩ (.slice a4 (limbs D2).length c4)) = wF;intro hF1 hF2 hwF hN2;have r1:=HV1.out wF (hN2.below hb2);have r2:=HV2.out wF (hN2.below hb2);have r3:=HV3.out wF (hN2.base hs1);have r4:=HV4.out wF (hN2.base hs1);clear hN hy1 hy2 z0 z1 z2 z3 z4 z5 f0 f1 f2 f3 f4 f5 hx1 hx2 HV1 HV2 HV3 HV4 s0 s1' s2' hb1 hb2 hw2 hb0 hs1 hs0;have k0:=held (hF1.cell 0); have k1:=held (hF1.cell 1); have k2:=held (hF1.cell 2); have k3:=held (hF2.cell 0); have k4:=held (hF2.cell 1); have k5:=held (hF2.cell 2);have s0:Below wF.heap.size wF wF.drew:=brf.drew;have W1:=fun W=>whole_any (limbs D2).length a4 c4 W
 have W2:=fun W=>whole_any (limbs D1).length a2 c2 W
 replace W1:=Hd W1; replace W2:=Hd W2;go_wp2;refine wp_region_mix (S:=Below wF.heap.size wF) [(0,.q),(1,.q),(2,.q),(3,.q),(6,.q),(7,.q),(8,.q),(9,.q),(4,.l),(5,.l),(10,.l),(11,.t),(12,.t),(13,.p)] (by kernel_rfl) (by kernel_rfl) (by kernel_rfl) (fun d _ _ _ _ h=>by cases d <;> exact h) (s0) ?_
 iterate 8 (refine wpMix_q rfl rfl (fun K hK=>?_); apply Exists.intro; refine ⟨fun w' hw'=>?_,?_⟩; (focus (go_simp; try rfl)); go_simp; refine hK _ _ ?_; clear hK K)
 refine wpMix_l rfl rfl (fun K hK=>?_);go_simp;refine (W1.out _).mono ?_;rintro r w3 ⟨rfl,hb3⟩;dsimp only;refine hK.out _ _ (bth s0 hb3) (fun _=>?_);clear hK K;have t3:=bth s0 hb3;have CA:=CM1.out a1 a4 c1 c4 w3 (r1.ext (xbw t3)) (r4.ext (xbw t3));replace CA:=Hd CA;refine wpMix_l rfl rfl (fun K hK=>?_);go_simp;refine (CA.out).mono ?_;rintro r w4 ⟨a5,c5,rfl,hV5,hb4⟩;dsimp only;refine hK.out _ _ (bth t3 hb4) (fun _=>?_);clear hK K;have t4:=bth t3 hb4;have HV5:=Hd hV5;clear hV5;refine wpMix_l rfl rfl (fun K hK=>?_);go_simp;refine (W2.out _).mono ?_;rintro r w5 ⟨rfl,hb5⟩;dsimp only;refine hK.out _ _ (bth t4 hb5) (fun _=>?_);clear hK K;have t5:=bth t4 hb5;have CB:=CM2.out a3 a2 c3 c2 w5 (r3.ext (xbw t5)) (r2.ext (xbw t5));replace CB:=Hd CB;refine wpMix_t rfl rfl (fun K hK=>?_);go_simp;refine (CB.out).mono ?_;rintro r w6 ⟨a6,c6,rfl,hV6,hb6⟩;dsimp only;refine hK.out _ _ ?_;clear hK K
 have t6:=bth t5 hb6;have CD:=CC.out a5 a6 c5 c6 w6 (HV5.out w6 (((New.refl _ _).below hb6).below hb5)) (hV6 w6 (New.refl _ _));replace CD:=Hd CD;clear hV6;refine wpMix_t rfl rfl (fun K hK=>?_);go_simp;refine (CD.out).mono ?_;rintro r w7 ⟨rfl,hb7⟩;dsimp only;refine hK.out _ _ ?_;clear hK K;have t7:=bth t6 hb7
 iterate 1 (refine wpMix_p rfl rfl (fun K hK=>?_); apply Exists.intro; refine ⟨fun w'=>?_,?_⟩; (focus (go_simp; try rfl)); go_simp; refine hK _ _ ?_; clear hK K)
 refine wpMix_nil ?_;go_wp2;go_ret;exact ⟨rfl,bth hwF t7⟩
theorem limbs_one:limbs 1 = [1]:=by rw [limbs_pos (by omega)]; simp [limbs_zero]
theorem unit_any (w:World):Calls Tryz.prog 104 #[] w (RetN (limbs 1) w):=by
 rw [limbs_one];go_enter Tryz.func104,Tryz.ntmps104;go_wp2;go_ret;refine ⟨some ⟨w.heap.size,0,none⟩,1,rfl,fun V hV=>?_,brf.alloc (nlr _) _⟩;exact BlkN.readsV (l:=[1]) (B:=w.heap.size) (Blk.new w _ _) (nlr _) hV (by intro x hx; simp at hx; omega) (by simp) (by simp [maxLen])
theorem parts_any (neg:Bool) (l m:List Int) (a a':Option Addr) (c c':Nat) (w:World) (h':NatR w a' c' m) (h0:val m ≠ 0) (hm:m.length <= 16777216) :
  Calls Tryz.prog 55 #[.agg #[.bool neg,.slice a l.length c,.slice a' m.length c']] w fun e w' =>
   e = .returned (.tuple #[.agg #[.bool neg,.slice a l.length c],.slice a' m.length c']) /\ Below w.heap.size w w':=by
 have CB:=fun W (hW:Below w.heap.size w W)=>bits_any m (val m) a' c' W (h'.ext (xbw hW)) rfl hm
 replace CB:=Hd CB;have hx:Blk ((w.alloc (.cells #[.bool neg,.slice a l.length c,.slice a' m.length c'] 54)).alloc (.cells #[.bool false,.slice none 0 0] 52)) w.heap.size 54 #[.bool neg,.slice a l.length c,.slice a' m.length c']:=(Blk.new w _ _).alloc _;have hz:Blk ((w.alloc (.cells #[.bool neg,.slice a l.length c,.slice a' m.length c'] 54)).alloc (.cells #[.bool false,.slice none 0 0] 52)) (w.heap.size + 1) 52 #[.bool false,.slice none 0 0]:=blk_at1 w _ _ _;have hb0:Below w.heap.size w ((w.alloc (.cells #[.bool neg,.slice a l.length c,.slice a' m.length c'] 54)).alloc (.cells #[.bool false,.slice none 0 0] 52)):=by go_grown
 have hgB:w.heap.size < w.heap.size + 1:=by omega
 have hgl:=hz.lt;clear h';go_enter Tryz.func55,Tryz.ntmps55;go_wp2_with fail;revert hx hz hb0 hgB hgl;generalize (w.alloc (.cells #[.bool neg,.slice a l.length c,.slice a' m.length c'] 54)).alloc (.cells #[.bool false,.slice none 0 0] 52) = w0;generalize w.heap.size + 1 = g;intro hx hz hb0 hgB hgl;have z0:=hx.cell 0; have z1:=hx.cell 1; have z2:=hx.cell 2;go_wp2_with fail;refine (CB.out _ hb0).mono ?_;rintro e w1 ⟨b,rfl,hb,rfl⟩;have e0:((b:Int) == 0) = false:=by rw [beq_eq_false_iff_ne]; have:=hb.out.2.1 (by omega); omega
 clear hb h0;have y0:=hz.cell 0; have y1:=hz.cell 1; have f0:=hz.frozen 0; have f1:=hz.frozen 1;have k0:∀ W,Blk W w.heap.size 54 #[.bool neg,.slice a l.length c,.slice a' m.length c'] -> W.cell? ⟨w.heap.size,0,none⟩ = some (.bool neg):=fun W h=>h.cell 0
 have k1:∀ W,Blk W w.heap.size 54 #[.bool neg,.slice a l.length c,.slice a' m.length c'] -> W.cell? ⟨w.heap.size,1,none⟩ = some (.slice a l.length c):=fun W h=>h.cell 1
 have k2:∀ W,Blk W w.heap.size 54 #[.bool neg,.slice a l.length c,.slice a' m.length c'] -> W.cell? ⟨w.heap.size,2,none⟩ = some (.slice a' m.length c'):=fun W h=>h.cell 2
 have s0:=hx.drew;have hne:¬ w.heap.size = g:=by omega
 go_wp2;refine wp_region_mix (S:=(fun W=>Blk W w.heap.size 54 #[.bool neg,.slice a l.length c,.slice a' m.length c'])) [(0,.q),(1,.q),(2,.q),(3,.q),(4,.l),(5,.p)] (by kernel_rfl) (by kernel_rfl) (by kernel_rfl) (fun d _ _ _ _ h=>by cases d <;> exact h) (s0) ?_
 iterate 4 (refine wpMix_q rfl rfl (fun K hK=>?_); apply Exists.intro; refine ⟨fun w' hw'=>?_,?_⟩; (focus (go_simp; try rfl)); go_simp; refine hK _ _ ?_; clear hK K)
 refine wpMix_l rfl rfl (fun K hK=>?_);go_simp;refine hK.out _ _ (((hx.far (p:=⟨g,0,none⟩) hne (.bool neg)).far (p:=⟨g,1,none⟩) hne (.slice a l.length c)).drew) (fun _=>?_);clear hK K
 iterate 1 (refine wpMix_p rfl rfl (fun K hK=>?_); apply Exists.intro; refine ⟨fun w'=>?_,?_⟩; (focus (go_simp; try rfl)); go_simp; refine hK _ _ ?_; clear hK K)
 refine wpMix_nil ?_;go_wp2;have hF:=(blk2 (x:=.bool neg) (y:=.slice a l.length c) hz).drew;have q0:=hF.cell 0; have q1:=hF.cell 1;refine bodyPost_ret (v:=.tuple #[.agg #[.bool neg,.slice a l.length c],.slice a' m.length c']) (by simp [results,Tryz.results55,go_sem,q0,q1]) rfl ?_;exact ⟨rfl,(below2 hb0 (Nat.le_of_lt hgB)).drew⟩
theorem lowest_full {neg:Bool} {n d:Nat} (hn:n ≠ 0) (hd:d ≠ 0):lowest neg n d = (neg,n / Nat.gcd n d,d / Nat.gcd n d):=by
 unfold lowest;rw [if_neg hd];have h1:0 < Nat.gcd n d:=Nat.gcd_pos_of_pos_right n (by omega);have h2:0 < n / Nat.gcd n d:=Nat.div_pos (Nat.le_of_dvd (by omega) (Nat.gcd_dvd_left n d)) h1;have h3:decide (0 < n / Nat.gcd n d) = true:=by rw [decide_eq_true_eq]; exact h2
 rw [h3,Bool.and_true]
theorem lowest_one {neg:Bool} {n d:Nat} (hn:n ≠ 0) (hd:d ≠ 0) (hg:Nat.gcd n d = 1):lowest neg n d = (neg,n,d):=by
 rw [lowest_full hn hd,hg,Nat.div_one,Nat.div_one]
theorem lowest_nil (neg:Bool) (n:Nat):lowest neg n 0 = (false,0,1):=by simp [lowest]
theorem lowest_null (neg:Bool) {d:Nat} (hd:d ≠ 0):lowest neg 0 d = (false,0,1):=by
 unfold lowest;rw [if_neg hd];simp;exact Nat.div_self (by omega)
theorem reduced_nil (neg:Bool) (l m:List Int) (n d:Nat) (a a':Option Addr) (c c':Nat) (w:World) (h:NatR w a c l) (h':NatR w a' c' m) (hn:val l = n) (hk:val m = d) (hl:l.length <= 2000000) (hm:m.length <= 2000000) (h0:d = 0 \/ n = 0) :
  Calls Tryz.prog 108 #[.agg #[.bool neg,.slice a l.length c],.slice a' m.length c'] w (RetF (false,0,1) w):=by
 have CN:=fun W (hW:Below w.heap.size w W)=>norm_any m a' c' W (h'.ext (xbw hW)) (by omega)
 rw [hk] at CN;have CZ:=fun W (hW:Below w.heap.size w W)=>znorm_any neg l n a c W (h.ext (xbw hW)) hn (by omega)
 obtain ⟨p,hp⟩:∃ q,(neg && decide (0 < n)) = q:=⟨_,rfl⟩
 rw [hp] at CZ;have CU:=fun W=>unit_any W
 replace CN:=Hd CN; replace CZ:=Hd CZ; replace CU:=Hd CU;unfold RetF RetQ;dsimp only;rw [limbs_zero];clear hp;by_cases hd:d = 0
 ·
  have he1:(((limbs d).length:Int) == 0) = true:=by rw [hd,limbs_zero]; rfl
  clear hd h0;have hz:Blk ((w.alloc (.cells #[.bool neg,.slice a l.length c] 52)).alloc (.cells #[.bool false,.slice none 0 0,.slice none 0 0] 54)) (w.heap.size + 1) 54 #[.bool false,.slice none 0 0,.slice none 0 0]:=blk_at1 w _ _ _;have hx:Blk ((w.alloc (.cells #[.bool neg,.slice a l.length c] 52)).alloc (.cells #[.bool false,.slice none 0 0,.slice none 0 0] 54)) w.heap.size 52 #[.bool neg,.slice a l.length c]:=(Blk.new w _ _).alloc _;have hb0:Below w.heap.size w ((w.alloc (.cells #[.bool neg,.slice a l.length c] 52)).alloc (.cells #[.bool false,.slice none 0 0,.slice none 0 0] 54)):=by go_grown
  have hgB:w.heap.size < w.heap.size + 1:=by omega
  have hgl:=hz.lt;clear h h' hn hk;go_enter Tryz.func108,Tryz.ntmps108;go_wp2_with fail;revert hz hx hb0 hgB hgl;generalize (w.alloc (.cells #[.bool neg,.slice a l.length c] 52)).alloc (.cells #[.bool false,.slice none 0 0,.slice none 0 0] 54) = w0;generalize w.heap.size + 1 = g;intro hz hx hb0 hgB hgl;refine (CN.out _ hb0).mono ?_;rintro e w1 ⟨a2,c2,rfl,hV2,hb1⟩;have hw1:=bth hb0 hb1;have hx1:=hx.below' hb1;have hz1:=hz.below' hb1;have HV2:=Hd hV2;have z0:=hx1.cell 0; have z1:=hx1.cell 1;have hs1:=hb1.size;clear hz hx hV2;go_wp2_with fail;refine (CZ.out _ hw1).mono ?_;rintro e w2 ⟨a1,c1,rfl,hV1,hb2⟩;have hw2:=bth hw1 hb2;have hx2:=hx1.below' hb2;have hz2:=hz1.below' hb2;have HV1:=Hd hV1;have hne:¬ g = w.heap.size:=by omega
  have hxl:w.heap.size < w0.heap.size:=by omega
  have hs0:=hb0.size;have hxS:=blk2 (x:=.bool p) (y:=.slice a1 (limbs n).length c1) hx2;have hzS:=(hz2.far (p:=⟨w.heap.size,0,none⟩) hne (.bool p)).far (p:=⟨w.heap.size,1,none⟩) hne (.slice a1 (limbs n).length c1);have hwS:=below2 (g:=w.heap.size) (x:=.bool p) (y:=.slice a1 (limbs n).length c1) hw2 (nlr _);have K1:∀ V,New w0.heap.size ((w2.setCell ⟨w.heap.size,0,none⟩ (.bool p)).setCell ⟨w.heap.size,1,none⟩ (.slice a1 (limbs n).length c1)) V -> NatR V a1 c1 (limbs n):=fun V hV=>HV1.out V ((back2 hV (nlr _) hxl).base hs1)
  have K2:∀ V,New w0.heap.size ((w2.setCell ⟨w.heap.size,0,none⟩ (.bool p)).setCell ⟨w.heap.size,1,none⟩ (.slice a1 (limbs n).length c1)) V -> NatR V a2 c2 (limbs d):=fun V hV=>HV2.out V ((back2 hV (nlr _) hxl).below hb2)
  clear z0 z1 hV1 hx1 hz1 HV1 HV2 CN CZ;have z0:=hx2.cell 0; have z1:=hx2.cell 1; have f0:=hx2.frozen 0; have f1:=hx2.frozen 1; have y0:=hz2.cell 0; have y1:=hz2.cell 1; have y2:=hz2.cell 2; have yf0:=hz2.frozen 0; have yf1:=hz2.frozen 1; have yf2:=hz2.frozen 2;have hbS:=hwS.size;replace hs1:=hw2.size;clear hx2 hz2 hw2 hb2 hw1 hb1 hb0;go_wp2_with fail;revert hxS hzS hwS K1 K2 hbS;generalize (w2.setCell ⟨w.heap.size,0,none⟩ (.bool p)).setCell ⟨w.heap.size,1,none⟩ (.slice a1 (limbs n).length c1) = wS;intro hxS hzS hwS K1 K2 hbS;refine (CU.out _).mono ?_;rintro e w3 ⟨a5,c5,rfl,hV5,hb3⟩;have hw3:=bth hwS hb3;have hz3:=hzS.below' hb3;have HV5:=Hd hV5;have hs3:=hwS.size;have hgl3:=hzS.lt;clear hV5 z0 z1 f0 f1 y0 y1 y2 yf0 yf1 yf2 hxS hzS K1 K2;have y0:=hz3.cell 0; have y1:=hz3.cell 1; have y2:=hz3.cell 2; have yf0:=hz3.frozen 0; have yf1:=hz3.frozen 1; have yf2:=hz3.frozen 2;go_wp2
  have hF:=blk3 (x:=.bool false) (y:=.slice none 0 0) (z:=.slice a5 (limbs 1).length c5) hz3;have e0:=hF.cell 0; have e1:=hF.cell 1; have e2:=hF.cell 2;refine bodyPost_ret (v:=.agg #[.bool false,.slice none 0 0,.slice a5 (limbs 1).length c5]) (by simp [results,Tryz.results108,go_sem,e0,e1,e2]) rfl ?_;exact ⟨none,0,a5,c5,rfl,fun _ _=>SlR.nil,fun V hV=>HV5.out V (back3 hV hs3 hgl3),below3 hw3 (Nat.le_of_lt hgB)⟩
 ·
  have hn0:n = 0:=by omega
  have he1:(((limbs d).length:Int) == 0) = false:=by rw [beq_eq_false_iff_ne]; have:=limbs_len_pos (n:=d); omega
  have he2:(((limbs n).length:Int) == 0) = true:=by rw [hn0,limbs_zero]; rfl
  clear hd h0 hn0;have hz:Blk ((w.alloc (.cells #[.bool neg,.slice a l.length c] 52)).alloc (.cells #[.bool false,.slice none 0 0,.slice none 0 0] 54)) (w.heap.size + 1) 54 #[.bool false,.slice none 0 0,.slice none 0 0]:=blk_at1 w _ _ _;have hx:Blk ((w.alloc (.cells #[.bool neg,.slice a l.length c] 52)).alloc (.cells #[.bool false,.slice none 0 0,.slice none 0 0] 54)) w.heap.size 52 #[.bool neg,.slice a l.length c]:=(Blk.new w _ _).alloc _;have hb0:Below w.heap.size w ((w.alloc (.cells #[.bool neg,.slice a l.length c] 52)).alloc (.cells #[.bool false,.slice none 0 0,.slice none 0 0] 54)):=by go_grown
  have hgB:w.heap.size < w.heap.size + 1:=by omega
  have hgl:=hz.lt;clear h h' hn hk;go_enter Tryz.func108,Tryz.ntmps108;go_wp2_with fail;revert hz hx hb0 hgB hgl;generalize (w.alloc (.cells #[.bool neg,.slice a l.length c] 52)).alloc (.cells #[.bool false,.slice none 0 0,.slice none 0 0] 54) = w0;generalize w.heap.size + 1 = g;intro hz hx hb0 hgB hgl;refine (CN.out _ hb0).mono ?_;rintro e w1 ⟨a2,c2,rfl,hV2,hb1⟩;have hw1:=bth hb0 hb1;have hx1:=hx.below' hb1;have hz1:=hz.below' hb1;have HV2:=Hd hV2;have z0:=hx1.cell 0; have z1:=hx1.cell 1;have hs1:=hb1.size;clear hz hx hV2;go_wp2_with fail;refine (CZ.out _ hw1).mono ?_;rintro e w2 ⟨a1,c1,rfl,hV1,hb2⟩;have hw2:=bth hw1 hb2;have hx2:=hx1.below' hb2;have hz2:=hz1.below' hb2;have HV1:=Hd hV1;have hne:¬ g = w.heap.size:=by omega
  have hxl:w.heap.size < w0.heap.size:=by omega
  have hs0:=hb0.size;have hxS:=blk2 (x:=.bool p) (y:=.slice a1 (limbs n).length c1) hx2;have hzS:=(hz2.far (p:=⟨w.heap.size,0,none⟩) hne (.bool p)).far (p:=⟨w.heap.size,1,none⟩) hne (.slice a1 (limbs n).length c1);have hwS:=below2 (g:=w.heap.size) (x:=.bool p) (y:=.slice a1 (limbs n).length c1) hw2 (nlr _);have K1:∀ V,New w0.heap.size ((w2.setCell ⟨w.heap.size,0,none⟩ (.bool p)).setCell ⟨w.heap.size,1,none⟩ (.slice a1 (limbs n).length c1)) V -> NatR V a1 c1 (limbs n):=fun V hV=>HV1.out V ((back2 hV (nlr _) hxl).base hs1)
  have K2:∀ V,New w0.heap.size ((w2.setCell ⟨w.heap.size,0,none⟩ (.bool p)).setCell ⟨w.heap.size,1,none⟩ (.slice a1 (limbs n).length c1)) V -> NatR V a2 c2 (limbs d):=fun V hV=>HV2.out V ((back2 hV (nlr _) hxl).below hb2)
  clear z0 z1 hV1 hx1 hz1 HV1 HV2 CN CZ;have z0:=hx2.cell 0; have z1:=hx2.cell 1; have f0:=hx2.frozen 0; have f1:=hx2.frozen 1; have y0:=hz2.cell 0; have y1:=hz2.cell 1; have y2:=hz2.cell 2; have yf0:=hz2.frozen 0; have yf1:=hz2.frozen 1; have yf2:=hz2.frozen 2;have hbS:=hwS.size;replace hs1:=hw2.size;clear hx2 hz2 hw2 hb2 hw1 hb1 hb0;go_wp2_with fail;revert hxS hzS hwS K1 K2 hbS;generalize (w2.setCell ⟨w.heap.size,0,none⟩ (.bool p)).setCell ⟨w.heap.size,1,none⟩ (.slice a1 (limbs n).length c1) = wS;intro hxS hzS hwS K1 K2 hbS;refine (CU.out _).mono ?_;rintro e w3 ⟨a5,c5,rfl,hV5,hb3⟩;have hw3:=bth hwS hb3;have hz3:=hzS.below' hb3;have HV5:=Hd hV5;have hs3:=hwS.size;have hgl3:=hzS.lt;clear hV5 z0 z1 f0 f1 y0 y1 y2 yf0 yf1 yf2 hxS hzS K1 K2;have y0:=hz3.cell 0; have y1:=hz3.cell 1; have y2:=hz3.cell 2; have yf0:=hz3.frozen 0; have yf1:=hz3.frozen 1; have yf2:=hz3.frozen 2;go_wp2
  have hF:=blk3 (x:=.bool false) (y:=.slice none 0 0) (z:=.slice a5 (limbs 1).length c5) hz3;have e0:=hF.cell 0; have e1:=hF.cell 1; have e2:=hF.cell 2;refine bodyPost_ret (v:=.agg #[.bool false,.slice none 0 0,.slice a5 (limbs 1).length c5]) (by simp [results,Tryz.results108,go_sem,e0,e1,e2]) rfl ?_;exact ⟨none,0,a5,c5,rfl,fun _ _=>SlR.nil,fun V hV=>HV5.out V (back3 hV hs3 hgl3),below3 hw3 (Nat.le_of_lt hgB)⟩
theorem reduced_unit (neg:Bool) (l m:List Int) (n d:Nat) (a a':Option Addr) (c c':Nat) (w:World) (h:NatR w a c l) (h':NatR w a' c' m) (hn:val l = n) (hk:val m = d) (hl:l.length <= 2000000) (hm:m.length <= 2000000) (h0:n ≠ 0) (hd:d = 1) :
  Calls Tryz.prog 108 #[.agg #[.bool neg,.slice a l.length c],.slice a' m.length c'] w (RetF (neg,n,d) w):=by
 have hd0:d ≠ 0:=by omega
 have CN:=fun W (hW:Below w.heap.size w W)=>norm_any m a' c' W (h'.ext (xbw hW)) (by omega)
 rw [hk] at CN;have CZ:=fun W (hW:Below w.heap.size w W)=>znorm_any neg l n a c W (h.ext (xbw hW)) hn (by omega)
 have hp:(neg && decide (0 < n)) = neg:=by rw [decide_eq_true (by omega:0 < n),Bool.and_true]
 rw [hp] at CZ;have CO:=fun a2 c2 W (h2:NatR W a2 c2 (limbs d))=>one_any (limbs d) a2 c2 W h2
 rw [one_limbs] at CO;have he1:(((limbs d).length:Int) == 0) = false:=by rw [beq_eq_false_iff_ne]; have:=limbs_len_pos (n:=d); omega
 have he2:(((limbs n).length:Int) == 0) = false:=by rw [beq_eq_false_iff_ne]; have:=limbs_len_pos (n:=n); omega
 have ho:decide (d = 1) = true:=by simp [hd]
 rw [ho] at CO;unfold RetF RetQ;dsimp only;replace CN:=Hd CN; replace CZ:=Hd CZ; replace CO:=Hd CO;clear hp ho h0 hd hd0;have hz:Blk ((w.alloc (.cells #[.bool neg,.slice a l.length c] 52)).alloc (.cells #[.bool false,.slice none 0 0,.slice none 0 0] 54)) (w.heap.size + 1) 54 #[.bool false,.slice none 0 0,.slice none 0 0]:=blk_at1 w _ _ _;have hx:Blk ((w.alloc (.cells #[.bool neg,.slice a l.length c] 52)).alloc (.cells #[.bool false,.slice none 0 0,.slice none 0 0] 54)) w.heap.size 52 #[.bool neg,.slice a l.length c]:=(Blk.new w _ _).alloc _;have hb0:Below w.heap.size w ((w.alloc (.cells #[.bool neg,.slice a l.length c] 52)).alloc (.cells #[.bool false,.slice none 0 0,.slice none 0 0] 54)):=by go_grown
 have hgB:w.heap.size < w.heap.size + 1:=by omega
 have hgl:=hz.lt;clear h h' hn hk;go_enter Tryz.func108,Tryz.ntmps108;go_wp2_with fail;revert hz hx hb0 hgB hgl;generalize (w.alloc (.cells #[.bool neg,.slice a l.length c] 52)).alloc (.cells #[.bool false,.slice none 0 0,.slice none 0 0] 54) = w0;generalize w.heap.size + 1 = g;intro hz hx hb0 hgB hgl;refine (CN.out _ hb0).mono ?_;rintro e w1 ⟨a2,c2,rfl,hV2,hb1⟩;have hw1:=bth hb0 hb1;have hx1:=hx.below' hb1;have hz1:=hz.below' hb1;have HV2:=Hd hV2;have z0:=hx1.cell 0; have z1:=hx1.cell 1;have hs1:=hb1.size;clear hz hx hV2;go_wp2_with fail;refine (CZ.out _ hw1).mono ?_;rintro e w2 ⟨a1,c1,rfl,hV1,hb2⟩;have hw2:=bth hw1 hb2;have hx2:=hx1.below' hb2;have hz2:=hz1.below' hb2;have HV1:=Hd hV1;have hne:¬ g = w.heap.size:=by omega
 have hxl:w.heap.size < w0.heap.size:=by omega
 have hs0:=hb0.size;have hxS:=blk2 (x:=.bool neg) (y:=.slice a1 (limbs n).length c1) hx2;have hzS:=(hz2.far (p:=⟨w.heap.size,0,none⟩) hne (.bool neg)).far (p:=⟨w.heap.size,1,none⟩) hne (.slice a1 (limbs n).length c1);have hwS:=below2 (g:=w.heap.size) (x:=.bool neg) (y:=.slice a1 (limbs n).length c1) hw2 (nlr _);have K1:∀ V,New w0.heap.size ((w2.setCell ⟨w.heap.size,0,none⟩ (.bool neg)).setCell ⟨w.heap.size,1,none⟩ (.slice a1 (limbs n).length c1)) V -> NatR V a1 c1 (limbs n):=fun V hV=>HV1.out V ((back2 hV (nlr _) hxl).base hs1)
 have K2:∀ V,New w0.heap.size ((w2.setCell ⟨w.heap.size,0,none⟩ (.bool neg)).setCell ⟨w.heap.size,1,none⟩ (.slice a1 (limbs n).length c1)) V -> NatR V a2 c2 (limbs d):=fun V hV=>HV2.out V ((back2 hV (nlr _) hxl).below hb2)
 clear z0 z1 hV1 hx1 hz1 HV1 HV2 CN CZ;have z0:=hx2.cell 0; have z1:=hx2.cell 1; have f0:=hx2.frozen 0; have f1:=hx2.frozen 1; have y0:=hz2.cell 0; have y1:=hz2.cell 1; have y2:=hz2.cell 2; have yf0:=hz2.frozen 0; have yf1:=hz2.frozen 1; have yf2:=hz2.frozen 2;have hbS:=hwS.size;replace hs1:=hw2.size;clear hx2 hz2 hw2 hb2 hw1 hb1 hb0;go_wp2_with fail;revert hxS hzS hwS K1 K2 hbS;generalize (w2.setCell ⟨w.heap.size,0,none⟩ (.bool neg)).setCell ⟨w.heap.size,1,none⟩ (.slice a1 (limbs n).length c1) = wS;intro hxS hzS hwS K1 K2 hbS;have CO2:=CO.out a2 c2 wS (K2 wS (New.refl _ _));replace CO2:=Hd CO2;replace K1:=Hd K1; replace K2:=Hd K2;refine CO2.out.mono ?_;rintro e w3 ⟨rfl,hb3⟩;have hw3:=bth hwS hb3;have hz3:=hzS.below' hb3;have hx3:=hxS.below' hb3;clear z0 z1 f0 f1 y0 y1 y2 yf0 yf1 yf2 hxS hzS CO2
 have z0:=hx3.cell 0; have z1:=hx3.cell 1; have y0:=hz3.cell 0; have y1:=hz3.cell 1; have y2:=hz3.cell 2; have yf0:=hz3.frozen 0; have yf1:=hz3.frozen 1; have yf2:=hz3.frozen 2;go_wp2;have hF:=blk3 (x:=.bool neg) (y:=.slice a1 (limbs n).length c1) (z:=.slice a2 (limbs d).length c2) hz3;have e0:=hF.cell 0; have e1:=hF.cell 1; have e2:=hF.cell 2;refine bodyPost_ret (v:=.agg #[.bool neg,.slice a1 (limbs n).length c1,.slice a2 (limbs d).length c2]) (by simp [results,Tryz.results108,go_sem,e0,e1,e2]) rfl ?_;exact ⟨a1,c1,a2,c2,rfl,fun V hV=>K1.out V ((back3 hV hs0 hgl).below (hb3)),fun V hV=>K2.out V ((back3 hV hs0 hgl).below hb3),below3 hw3 (Nat.le_of_lt hgB)⟩
theorem reduced_prime (neg:Bool) (l m:List Int) (n d:Nat) (a a':Option Addr) (c c':Nat) (w:World) (h:NatR w a c l) (h':NatR w a' c' m) (hn:val l = n) (hk:val m = d) (hl:l.length <= 2000000) (hm:m.length <= 2000000) (h0:n ≠ 0) (hd1:d ≠ 0) (hd:d ≠ 1)
  (hnl:(limbs n).length <= 2000000) (hdl:(limbs d).length <= 2000000) (hg1:Nat.gcd n d = 1) :
  Calls Tryz.prog 108 #[.agg #[.bool neg,.slice a l.length c],.slice a' m.length c'] w (RetF (neg,n,d) w):=by
 have hd0:d ≠ 0:=by omega
 have CN:=fun W (hW:Below w.heap.size w W)=>norm_any m a' c' W (h'.ext (xbw hW)) (by omega)
 rw [hk] at CN;have CZ:=fun W (hW:Below w.heap.size w W)=>znorm_any neg l n a c W (h.ext (xbw hW)) hn (by omega)
 have hp:(neg && decide (0 < n)) = neg:=by rw [decide_eq_true (by omega:0 < n),Bool.and_true]
 rw [hp] at CZ;have CO:=fun a2 c2 W (h2:NatR W a2 c2 (limbs d))=>one_any (limbs d) a2 c2 W h2
 rw [one_limbs] at CO;have he1:(((limbs d).length:Int) == 0) = false:=by rw [beq_eq_false_iff_ne]; have:=limbs_len_pos (n:=d); omega
 have he2:(((limbs n).length:Int) == 0) = false:=by rw [beq_eq_false_iff_ne]; have:=limbs_len_pos (n:=n); omega
 have ho:decide (d = 1) = false:=by simp [hd]
 rw [ho] at CO;have CG:=fun a1 c1 a2 c2 W (h1:NatR W a1 c1 (limbs n)) (h2:NatR W a2 c2 (limbs d))=>gcd_any (limbs n) (limbs d) n d a1 a2 c1 c2 W h1 h2 (val_limbs _) (val_limbs _) hnl hdl
 obtain ⟨gg,hgg⟩:∃ q,Nat.gcd n d = q:=⟨_,rfl⟩
 rw [hgg] at CG;have CO4:=fun a2 c2 W (h2:NatR W a2 c2 (limbs gg))=>one_any (limbs gg) a2 c2 W h2
 rw [one_limbs] at CO4;have ho4:decide (gg = 1) = true:=by rw [<- hgg,hg1]; rfl
 rw [ho4] at CO4;unfold RetF RetQ;dsimp only;clear hp ho h0 hd hd0 hd1 hnl hdl hg1 hgg ho4;replace CN:=Hd CN; replace CZ:=Hd CZ; replace CO:=Hd CO; replace CG:=Hd CG; replace CO4:=Hd CO4;have hz:Blk ((w.alloc (.cells #[.bool neg,.slice a l.length c] 52)).alloc (.cells #[.bool false,.slice none 0 0,.slice none 0 0] 54)) (w.heap.size + 1) 54 #[.bool false,.slice none 0 0,.slice none 0 0]:=blk_at1 w _ _ _;have hx:Blk ((w.alloc (.cells #[.bool neg,.slice a l.length c] 52)).alloc (.cells #[.bool false,.slice none 0 0,.slice none 0 0] 54)) w.heap.size 52 #[.bool neg,.slice a l.length c]:=(Blk.new w _ _).alloc _;have hb0:Below w.heap.size w ((w.alloc (.cells #[.bool neg,.slice a l.length c] 52)).alloc (.cells #[.bool false,.slice none 0 0,.slice none 0 0] 54)):=by go_grown
 have hgB:w.heap.size < w.heap.size + 1:=by omega
 have hgl:=hz.lt;clear h h' hn hk;go_enter Tryz.func108,Tryz.ntmps108;go_wp2_with fail;revert hz hx hb0 hgB hgl;generalize (w.alloc (.cells #[.bool neg,.slice a l.length c] 52)).alloc (.cells #[.bool false,.slice none 0 0,.slice none 0 0] 54) = w0;generalize w.heap.size + 1 = g;intro hz hx hb0 hgB hgl;refine (CN.out _ hb0).mono ?_;rintro e w1 ⟨a2,c2,rfl,hV2,hb1⟩;have hw1:=bth hb0 hb1;have hx1:=hx.below' hb1;have hz1:=hz.below' hb1;have HV2:=Hd hV2;have z0:=hx1.cell 0; have z1:=hx1.cell 1;have hs1:=hb1.size;clear hz hx hV2;go_wp2_with fail;refine (CZ.out _ hw1).mono ?_;rintro e w2 ⟨a1,c1,rfl,hV1,hb2⟩;have hw2:=bth hw1 hb2;have hx2:=hx1.below' hb2;have hz2:=hz1.below' hb2;have HV1:=Hd hV1;have hne:¬ g = w.heap.size:=by omega
 have hxl:w.heap.size < w0.heap.size:=by omega
 have hs0:=hb0.size;have hxS:=blk2 (x:=.bool neg) (y:=.slice a1 (limbs n).length c1) hx2;have hzS:=(hz2.far (p:=⟨w.heap.size,0,none⟩) hne (.bool neg)).far (p:=⟨w.heap.size,1,none⟩) hne (.slice a1 (limbs n).length c1);have hwS:=below2 (g:=w.heap.size) (x:=.bool neg) (y:=.slice a1 (limbs n).length c1) hw2 (nlr _);have K1:∀ V,New w0.heap.size ((w2.setCell ⟨w.heap.size,0,none⟩ (.bool neg)).setCell ⟨w.heap.size,1,none⟩ (.slice a1 (limbs n).length c1)) V -> NatR V a1 c1 (limbs n):=fun V hV=>HV1.out V ((back2 hV (nlr _) hxl).base hs1)
 have K2:∀ V,New w0.heap.size ((w2.setCell ⟨w.heap.size,0,none⟩ (.bool neg)).setCell ⟨w.heap.size,1,none⟩ (.slice a1 (limbs n).length c1)) V -> NatR V a2 c2 (limbs d):=fun V hV=>HV2.out V ((back2 hV (nlr _) hxl).below hb2)
 clear z0 z1 hV1 hx1 hz1 HV1 HV2 CN CZ;have z0:=hx2.cell 0; have z1:=hx2.cell 1; have f0:=hx2.frozen 0; have f1:=hx2.frozen 1; have y0:=hz2.cell 0; have y1:=hz2.cell 1; have y2:=hz2.cell 2; have yf0:=hz2.frozen 0; have yf1:=hz2.frozen 1; have yf2:=hz2.frozen 2;have hbS:w0.heap.size <= ((w2.setCell ⟨w.heap.size,0,none⟩ (.bool neg)).setCell ⟨w.heap.size,1,none⟩ (.slice a1 (limbs n).length c1)).heap.size:=by simp; exact Nat.le_trans hs1 hb2.size
 replace hs1:=hw2.size;clear hx2 hz2 hw2 hb2 hw1 hb1 hb0;go_wp2_with fail;revert hxS hzS hwS K1 K2 hbS;generalize (w2.setCell ⟨w.heap.size,0,none⟩ (.bool neg)).setCell ⟨w.heap.size,1,none⟩ (.slice a1 (limbs n).length c1) = wS;intro hxS hzS hwS K1 K2 hbS;have CO2:=CO.out a2 c2 wS (K2 wS (New.refl _ _));replace CO2:=Hd CO2;replace K1:=Hd K1; replace K2:=Hd K2;refine CO2.out.mono ?_;rintro e w3 ⟨rfl,hb3⟩;have hw3:=bth hwS hb3;have hz3:=hzS.below' hb3;have hx3:=hxS.below' hb3;clear z0 z1 f0 f1 y0 y1 y2 yf0 yf1 yf2 hxS hzS CO2;have z0:=hx3.cell 0; have z1:=hx3.cell 1;have r1:=K1.out w3 ((New.refl _ _).below hb3);have r2:=K2.out w3 ((New.refl _ _).below hb3);have CG2:=CG.out a1 c1 a2 c2 w3 r1 r2;replace CG2:=Hd CG2;clear r1 r2;go_wp2_with fail;refine CG2.out.mono ?_;rintro e w4 ⟨a4,c4,rfl,hV4,hb4⟩;have hw4:=bth hw3 hb4;have hz4:=hz3.below' hb4;have hx4:=hx3.below' hb4
 have r4:=hV4 w4 (New.refl _ _);have CO5:=CO4.out a4 c4 w4 r4;replace CO5:=Hd CO5;clear z0 z1 hz3 hx3 CG2;have R4:=Hd r4;have R4V:=Hd hV4;have hs3:=hb3.size;clear r4 hV4;go_wp2_with fail;refine CO5.out.mono ?_;rintro e w5 ⟨rfl,hb5⟩;have hw5:=bth hw4 hb5;have hz5:=hz4.below' hb5;have hx5:=hx4.below' hb5;clear CO5 hz4 hx4;have z0:=hx5.cell 0; have z1:=hx5.cell 1; have f0:=hx5.frozen 0; have f1:=hx5.frozen 1; have y0:=hz5.cell 0; have y1:=hz5.cell 1; have y2:=hz5.cell 2; have yf0:=hz5.frozen 0; have yf1:=hz5.frozen 1; have yf2:=hz5.frozen 2;go_wp2;have hF:=blk3 (x:=.bool neg) (y:=.slice a1 (limbs n).length c1) (z:=.slice a2 (limbs d).length c2) hz5;have e0:=hF.cell 0; have e1:=hF.cell 1; have e2:=hF.cell 2;refine bodyPost_ret (v:=.agg #[.bool neg,.slice a1 (limbs n).length c1,.slice a2 (limbs d).length c2]) (by simp [results,Tryz.results108,go_sem,e0,e1,e2]) rfl ?_
 exact ⟨a1,c1,a2,c2,rfl,fun V hV=>K1.out V ((((back3 hV hs0 hgl).below hb5).below hb4).below hb3),fun V hV=>K2.out V ((((back3 hV hs0 hgl).below hb5).below hb4).below hb3),below3 hw5 (Nat.le_of_lt hgB)⟩
theorem reduced_common (neg:Bool) (l m:List Int) (n d:Nat) (a a':Option Addr) (c c':Nat) (w:World) (h:NatR w a c l) (h':NatR w a' c' m) (hn:val l = n) (hk:val m = d) (hl:l.length <= 2000000) (hm:m.length <= 2000000) (h0:n ≠ 0) (hd1:d ≠ 0) (hd:d ≠ 1)
  (hnl:(limbs n).length <= 2000000) (hdl:(limbs d).length <= 2000000) (hg1:Nat.gcd n d ≠ 1) :
  Calls Tryz.prog 108 #[.agg #[.bool neg,.slice a l.length c],.slice a' m.length c'] w (RetF (neg,n / Nat.gcd n d,d / Nat.gcd n d) w):=by
 have hgp:0 < Nat.gcd n d:=Nat.gcd_pos_of_pos_right n (by omega);have hgd:Nat.gcd n d <= d:=Nat.le_of_dvd (by omega) (Nat.gcd_dvd_right n d);have hgl0:=limbs_len_mono hgd;have hd0:d ≠ 0:=by omega
 have CN:=fun W (hW:Below w.heap.size w W)=>norm_any m a' c' W (h'.ext (xbw hW)) (by omega)
 rw [hk] at CN;have CZ:=fun W (hW:Below w.heap.size w W)=>znorm_any neg l n a c W (h.ext (xbw hW)) hn (by omega)
 have hp:(neg && decide (0 < n)) = neg:=by rw [decide_eq_true (by omega:0 < n),Bool.and_true]
 rw [hp] at CZ;have CO:=fun a2 c2 W (h2:NatR W a2 c2 (limbs d))=>one_any (limbs d) a2 c2 W h2
 rw [one_limbs] at CO;have he1:(((limbs d).length:Int) == 0) = false:=by rw [beq_eq_false_iff_ne]; have:=limbs_len_pos (n:=d); omega
 have he2:(((limbs n).length:Int) == 0) = false:=by rw [beq_eq_false_iff_ne]; have:=limbs_len_pos (n:=n); omega
 have ho:decide (d = 1) = false:=by simp [hd]
 rw [ho] at CO;have CG:=fun a1 c1 a2 c2 W (h1:NatR W a1 c1 (limbs n)) (h2:NatR W a2 c2 (limbs d))=>gcd_any (limbs n) (limbs d) n d a1 a2 c1 c2 W h1 h2 (val_limbs _) (val_limbs _) hnl hdl
 obtain ⟨gg,hgg⟩:∃ q,Nat.gcd n d = q:=⟨_,rfl⟩
 rw [hgg] at CG;have CO4:=fun a2 c2 W (h2:NatR W a2 c2 (limbs gg))=>one_any (limbs gg) a2 c2 W h2
 rw [one_limbs] at CO4;rw [hgg] at hgp hgl0 ⊢;have ho4:decide (gg = 1) = false:=by rw [decide_eq_false_iff_not,<- hgg]; exact hg1
 rw [ho4] at CO4;have CD1:=fun a1 c1 a4 c4 W (h1:NatR W a1 c1 (limbs n)) (h4:NatR W a4 c4 (limbs gg))=>divMod_any (limbs n) (limbs gg) n gg a1 a4 c1 c4 W h1 h4 (val_limbs _) (val_limbs _) (by omega) (by omega) hgp
 have CD2:=fun a2 c2 a4 c4 W (h2:NatR W a2 c2 (limbs d)) (h4:NatR W a4 c4 (limbs gg))=>divMod_any (limbs d) (limbs gg) d gg a2 a4 c2 c4 W h2 h4 (val_limbs _) (val_limbs _) (by omega) (by omega) hgp
 unfold RetQR at CD1 CD2;unfold RetF RetQ;dsimp only;obtain ⟨N,hN⟩:∃ q,n / gg = q:=⟨_,rfl⟩
 obtain ⟨D,hD⟩:∃ q,d / gg = q:=⟨_,rfl⟩
 simp only [hN] at CD1 ⊢;simp only [hD] at CD2 ⊢;clear hp ho h0 hd hd0 hd1 hnl hdl hg1 hgg ho4 hN hD hgp hgl0 hgd;replace CD1:=Hd CD1; replace CD2:=Hd CD2;replace CN:=Hd CN; replace CZ:=Hd CZ; replace CO:=Hd CO; replace CG:=Hd CG; replace CO4:=Hd CO4;have hz:Blk ((w.alloc (.cells #[.bool neg,.slice a l.length c] 52)).alloc (.cells #[.bool false,.slice none 0 0,.slice none 0 0] 54)) (w.heap.size + 1) 54 #[.bool false,.slice none 0 0,.slice none 0 0]:=blk_at1 w _ _ _;have hx:Blk ((w.alloc (.cells #[.bool neg,.slice a l.length c] 52)).alloc (.cells #[.bool false,.slice none 0 0,.slice none 0 0] 54)) w.heap.size 52 #[.bool neg,.slice a l.length c]:=(Blk.new w _ _).alloc _;have hb0:Below w.heap.size w ((w.alloc (.cells #[.bool neg,.slice a l.length c] 52)).alloc (.cells #[.bool false,.slice none 0 0,.slice none 0 0] 54)):=by go_grown
 have hgB:w.heap.size < w.heap.size + 1:=by omega
 have hgl:=hz.lt;clear h h' hn hk;go_enter Tryz.func108,Tryz.ntmps108;go_wp2_with fail;revert hz hx hb0 hgB hgl;generalize (w.alloc (.cells #[.bool neg,.slice a l.length c] 52)).alloc (.cells #[.bool false,.slice none 0 0,.slice none 0 0] 54) = w0;generalize w.heap.size + 1 = g;intro hz hx hb0 hgB hgl;refine (CN.out _ hb0).mono ?_;rintro e w1 ⟨a2,c2,rfl,hV2,hb1⟩;have hw1:=bth hb0 hb1;have hx1:=hx.below' hb1;have hz1:=hz.below' hb1;have HV2:=Hd hV2;have z0:=hx1.cell 0; have z1:=hx1.cell 1;have hs1:=hb1.size;clear hz hx hV2;go_wp2_with fail;refine (CZ.out _ hw1).mono ?_;rintro e w2 ⟨a1,c1,rfl,hV1,hb2⟩;have hw2:=bth hw1 hb2;have hx2:=hx1.below' hb2;have hz2:=hz1.below' hb2;have HV1:=Hd hV1;have hne:¬ g = w.heap.size:=by omega
 have hxl:w.heap.size < w0.heap.size:=by omega
 have hs0:=hb0.size;have hxS:=blk2 (x:=.bool neg) (y:=.slice a1 (limbs n).length c1) hx2;have hzS:=(hz2.far (p:=⟨w.heap.size,0,none⟩) hne (.bool neg)).far (p:=⟨w.heap.size,1,none⟩) hne (.slice a1 (limbs n).length c1);have hwS:=below2 (g:=w.heap.size) (x:=.bool neg) (y:=.slice a1 (limbs n).length c1) hw2 (nlr _);have K1:∀ V,New w0.heap.size ((w2.setCell ⟨w.heap.size,0,none⟩ (.bool neg)).setCell ⟨w.heap.size,1,none⟩ (.slice a1 (limbs n).length c1)) V -> NatR V a1 c1 (limbs n):=fun V hV=>HV1.out V ((back2 hV (nlr _) hxl).base hs1)
 have K2:∀ V,New w0.heap.size ((w2.setCell ⟨w.heap.size,0,none⟩ (.bool neg)).setCell ⟨w.heap.size,1,none⟩ (.slice a1 (limbs n).length c1)) V -> NatR V a2 c2 (limbs d):=fun V hV=>HV2.out V ((back2 hV (nlr _) hxl).below hb2)
 clear z0 z1 hV1 hx1 hz1 HV1 HV2 CN CZ;have z0:=hx2.cell 0; have z1:=hx2.cell 1; have f0:=hx2.frozen 0; have f1:=hx2.frozen 1; have y0:=hz2.cell 0; have y1:=hz2.cell 1; have y2:=hz2.cell 2; have yf0:=hz2.frozen 0; have yf1:=hz2.frozen 1; have yf2:=hz2.frozen 2;have hbS:w0.heap.size <= ((w2.setCell ⟨w.heap.size,0,none⟩ (.bool neg)).setCell ⟨w.heap.size,1,none⟩ (.slice a1 (limbs n).length c1)).heap.size:=by simp; exact Nat.le_trans hs1 hb2.size
 replace hs1:=hw2.size;clear hx2 hz2 hw2 hb2 hw1 hb1 hb0;go_wp2_with fail;revert hxS hzS hwS K1 K2 hbS;generalize (w2.setCell ⟨w.heap.size,0,none⟩ (.bool neg)).setCell ⟨w.heap.size,1,none⟩ (.slice a1 (limbs n).length c1) = wS;intro hxS hzS hwS K1 K2 hbS;have CO2:=CO.out a2 c2 wS (K2 wS (New.refl _ _));replace CO2:=Hd CO2;replace K1:=Hd K1; replace K2:=Hd K2;refine CO2.out.mono ?_;rintro e w3 ⟨rfl,hb3⟩;have hw3:=bth hwS hb3;have hz3:=hzS.below' hb3;have hx3:=hxS.below' hb3;clear z0 z1 f0 f1 y0 y1 y2 yf0 yf1 yf2 hxS hzS CO2;have z0:=hx3.cell 0; have z1:=hx3.cell 1;have r1:=K1.out w3 ((New.refl _ _).below hb3);have r2:=K2.out w3 ((New.refl _ _).below hb3);have CG2:=CG.out a1 c1 a2 c2 w3 r1 r2;replace CG2:=Hd CG2;clear r1 r2;go_wp2_with fail;refine CG2.out.mono ?_;rintro e w4 ⟨a4,c4,rfl,hV4,hb4⟩;have hw4:=bth hw3 hb4;have hz4:=hz3.below' hb4;have hx4:=hx3.below' hb4
 have r4:=hV4 w4 (New.refl _ _);have CO5:=CO4.out a4 c4 w4 r4;replace CO5:=Hd CO5;clear z0 z1 hz3 hx3 CG2;have R4:=Hd r4;have R4V:=Hd hV4;have hs3:=hb3.size;clear r4 hV4;go_wp2_with fail;refine CO5.out.mono ?_;rintro e w5 ⟨rfl,hb5⟩;have hw5:=bth hw4 hb5;have hz5:=hz4.below' hb5;have hx5:=hx4.below' hb5;clear CO5 hz4 hx4;have z0:=hx5.cell 0; have z1:=hx5.cell 1; have f0:=hx5.frozen 0; have f1:=hx5.frozen 1; have y0:=hz5.cell 0; have y1:=hz5.cell 1; have y2:=hz5.cell 2; have yf0:=hz5.frozen 0; have yf1:=hz5.frozen 1; have yf2:=hz5.frozen 2;have CE1:=CD1.out a1 c1 a4 c4 w5 (K1.out w5 ((((New.refl _ _).below hb5).below hb4).below hb3)) (R4.out.ext (xbw hb5));replace CE1:=Hd CE1;go_wp2_with fail;refine CE1.out.mono ?_;rintro e w6 ⟨a6,c6,_,_,rfl,hV6,_,hb6⟩;have hw6:=bth hw5 hb6;have hz6:=hz5.below' hb6;have hx6:=hx5.below' hb6;have hxF:=hx6.set_ 1 (.slice a6 (limbs N).length c6)
 have hzF:=hz6.far (p:=⟨w.heap.size,1,none⟩) hne (.slice a6 (limbs N).length c6);have hwF:=hw6.setCell (p:=⟨w.heap.size,1,none⟩) (nlr _) (.slice a6 (limbs N).length c6);have hN6:∀ {V},New w0.heap.size (w6.setCell ⟨w.heap.size,1,none⟩ (.slice a6 (limbs N).length c6)) V -> New w0.heap.size w6 V:=fun hV=>hV.unset hxl
 have hs5:w0.heap.size <= w5.heap.size:=by have:=hbS; have:=hb3.size; have:=hb4.size; have:=hb5.size; omega
 clear CE1 z0 z1 f0 f1 y0 y1 y2 yf0 yf1 yf2 hz5 hx5 hz6;have z0:=hx6.cell 0; have z1:=hx6.cell 1; have f0:=hx6.frozen 0; have f1:=hx6.frozen 1;go_wp2_with fail;revert hxF hzF hwF hN6;generalize w6.setCell ⟨w.heap.size,1,none⟩ (.slice a6 (limbs N).length c6) = wF;intro hxF hzF hwF hN6;have hk:∀ {V},New w0.heap.size wF V -> New w0.heap.size wS V:=fun hV=>((((hN6 hV).below hb6).below hb5).below hb4).below hb3
 have CE2:=CD2.out a2 c2 a4 c4 wF (K2.out wF (hk (New.refl _ _))) (R4V.out wF ((((hN6 (New.refl _ _)).below hb6).below hb5).base (Nat.le_trans hbS hs3)));replace CE2:=Hd CE2;refine CE2.out.mono ?_;rintro e w7 ⟨a7,c7,_,_,rfl,hV7,_,hb7⟩;have hw7:=bth hwF hb7;have hz7:=hzF.below' hb7;have hx7:=hxF.below' hb7;have HV6:=Hd hV6; have HV7:=Hd hV7;have hs6:=hwF.size;have hg6:=hzF.lt;clear CE2 z0 z1 f0 f1 hzF hxF hx6 hV6 hV7;have z0:=hx7.cell 0; have z1:=hx7.cell 1; have y0:=hz7.cell 0; have y1:=hz7.cell 1; have y2:=hz7.cell 2; have yf0:=hz7.frozen 0; have yf1:=hz7.frozen 1; have yf2:=hz7.frozen 2;go_wp2;have hF:=blk3 (x:=.bool neg) (y:=.slice a6 (limbs N).length c6) (z:=.slice a7 (limbs D).length c7) hz7;have e0:=hF.cell 0; have e1:=hF.cell 1; have e2:=hF.cell 2
 refine bodyPost_ret (v:=.agg #[.bool neg,.slice a6 (limbs N).length c6,.slice a7 (limbs D).length c7]) (by simp [results,Tryz.results108,go_sem,e0,e1,e2]) rfl ?_;exact ⟨a6,c6,a7,c7,rfl,fun V hV=>HV6.out V ((hN6 ((back3 hV hs0 hgl).below hb7)).base hs5),fun V hV=>HV7.out V (back3 hV hs6 hg6),below3 hw7 (Nat.le_of_lt hgB)⟩
theorem reduced_any (neg:Bool) (l m:List Int) (n d:Nat) (a a':Option Addr) (c c':Nat) (w:World) (h:NatR w a c l) (h':NatR w a' c' m) (hn:val l = n) (hk:val m = d) (hl:l.length <= 2000000) (hm:m.length <= 2000000) :
  Calls Tryz.prog 108 #[.agg #[.bool neg,.slice a l.length c],.slice a' m.length c'] w (RetF (lowest neg n d) w):=by
 have hll:=limbs_len_val h.u16;rw [hn] at hll;have hlm:=limbs_len_val h'.u16;rw [hk] at hlm;by_cases hd:d = 0
 ·
  rw [hd,lowest_nil];exact reduced_nil neg l m n d a a' c c' w h h' hn hk hl hm (.inl hd)
 ·
  by_cases h0:n = 0
  ·
   rw [h0,lowest_null _ hd];exact reduced_nil neg l m n d a a' c c' w h h' hn hk hl hm (.inr h0)
  ·
   by_cases h1:d = 1
   ·
    rw [lowest_one h0 hd (by rw [h1,Nat.gcd_one_right])];exact reduced_unit neg l m n d a a' c c' w h h' hn hk hl hm h0 h1
   ·
    by_cases hg:Nat.gcd n d = 1
    ·
     rw [lowest_one h0 hd hg];exact reduced_prime neg l m n d a a' c c' w h h' hn hk hl hm h0 hd h1 (by omega) (by omega) hg
    ·
     rw [lowest_full h0 hd];exact reduced_common neg l m n d a a' c c' w h h' hn hk hl hm h0 hd h1 (by omega) (by omega) hg
theorem lowest_int (z:Int):lowest (decide (z < 0)) z.natAbs 1 = (decide (z < 0),z.natAbs,1):=by
 unfold lowest;rw [if_neg (by omega),Nat.gcd_one_right,Nat.div_one];by_cases hz:z < 0
 ·
  have:decide (0 < z.natAbs) = true:=by rw [decide_eq_true_eq]; omega
  rw [this,Bool.and_true]
 · rw [decide_eq_false hz,Bool.false_and]
theorem qmake_any (neg1 neg2:Bool) (l m:List Int) (n1 n2:Nat) (a a':Option Addr) (c c':Nat) (w:World) (h:NatR w a c l) (h':NatR w a' c' m) (hn:val l = n1) (hk:val m = n2) (hl:l.length <= 2000000) (hm:m.length <= 2000000) (h0:n2 ≠ 0) :
  Calls Tryz.prog 160 #[.agg #[.bool neg1,.slice a l.length c],.agg #[.bool neg2,.slice a' m.length c']] w (RetM (lowest (neg1 != neg2) n1 n2) w):=by
 have CS:=fun W (hW:Below w.heap.size w W)=>zsign_any neg2 m n2 a' c' W (h'.ext (xbw hW)) hk (by omega)
 have CO1:=fun W (hW:Below w.heap.size w W)=>reduced_any (neg1 != neg2) l m n1 n2 a a' c c' W (h.ext (xbw hW)) (h'.ext (xbw hW)) hn hk hl hm
 have hsg:sgnZ neg2 n2 ≠ 0:=by
  unfold sgnZ;rw [if_neg h0]
  split <;> decide
 obtain ⟨sg,hsg2⟩:∃ q,sgnZ neg2 n2 = q:=⟨_,rfl⟩
 rw [hsg2] at CS hsg;have hne:(sg == 0) = false:=by rw [beq_eq_false_iff_ne]; exact hsg
 have hz:Blk (((w.alloc (.cells #[.bool neg1,.slice a l.length c] 52)).alloc (.cells #[.bool neg2,.slice a' m.length c'] 52)).alloc (.cells #[.bool false,.slice none 0 0,.slice none 0 0] 54)) (w.heap.size + 1 + 1) 54 #[.bool false,.slice none 0 0,.slice none 0 0]:=blk_at2 w _ _ _ _;have hx1:Blk (((w.alloc (.cells #[.bool neg1,.slice a l.length c] 52)).alloc (.cells #[.bool neg2,.slice a' m.length c'] 52)).alloc (.cells #[.bool false,.slice none 0 0,.slice none 0 0] 54)) w.heap.size 52 #[.bool neg1,.slice a l.length c]:=((Blk.new w _ _).alloc _).alloc _;have hx2:Blk (((w.alloc (.cells #[.bool neg1,.slice a l.length c] 52)).alloc (.cells #[.bool neg2,.slice a' m.length c'] 52)).alloc (.cells #[.bool false,.slice none 0 0,.slice none 0 0] 54)) (w.heap.size + 1) 52 #[.bool neg2,.slice a' m.length c']:=(blk_at1 w _ _ _).alloc _
 have hb0:Below w.heap.size w (((w.alloc (.cells #[.bool neg1,.slice a l.length c] 52)).alloc (.cells #[.bool neg2,.slice a' m.length c'] 52)).alloc (.cells #[.bool false,.slice none 0 0,.slice none 0 0] 54)):=by go_grown
 have hgB:w.heap.size < w.heap.size + 1 + 1:=by omega
 have hgB2:w.heap.size + 1 < w.heap.size + 1 + 1:=by omega
 have hgC:w.heap.size < w.heap.size + 1:=by omega
 obtain ⟨t,ht⟩:∃ t,lowest (neg1 != neg2) n1 n2 = t:=⟨_,rfl⟩
 rw [ht] at CO1 ⊢;obtain ⟨s,N,D⟩:=t;unfold RetF at CO1;unfold RetM;dsimp only at CO1 ⊢;replace CS:=Hd CS; replace CO1:=Hd CO1;clear h h' hn hk hsg hsg2 h0 ht;go_enter Tryz.func160,Tryz.ntmps160;go_wp2_with fail;have hgl:=hz.lt;revert hz hx1 hx2 hb0 hgB hgB2 hgC hgl;generalize ((w.alloc (.cells #[.bool neg1,.slice a l.length c] 52)).alloc (.cells #[.bool neg2,.slice a' m.length c'] 52)).alloc (.cells #[.bool false,.slice none 0 0,.slice none 0 0] 54) = w0;generalize w.heap.size + 1 + 1 = g;generalize w.heap.size + 1 = g2;intro hz hx1 hx2 hb0 hgB hgB2 hgC hgl;refine (CS.out _ hb0).mono ?_;rintro e w1 ⟨rfl,hb1⟩;have hw1:=bth hb0 hb1;have hz1:=hz.below' hb1;have hy1:=hx1.below' hb1;have hy2:=hx2.below' hb1;have z0:=hy1.cell 0; have z1:=hy1.cell 1; have z2:=hy2.cell 0; have z3:=hy2.cell 1;go_wp2_with fail;refine (CO1.out _ hw1).mono ?_;rintro e w2 ⟨a1,c1,a2,c2,rfl,hV1,hV2,hb2⟩
 have hw2:=bth hw1 hb2;have hz2:=hz1.below' hb2;have HV1:=Hd hV1;have HV2:=Hd hV2;have z4:=hz2.cell 0; have z5:=hz2.cell 1; have z6:=hz2.cell 2; have f0:=hz2.frozen 0; have f1:=hz2.frozen 1; have f2:=hz2.frozen 2;have hs1:=hw1.size;have hgl2:=hz1.lt;clear hV1 hV2;go_wp2;have hF:=blk3 (x:=.bool s) (y:=.slice a1 (limbs N).length c1) (z:=.slice a2 (limbs D).length c2) hz2;have e0:=hF.cell 0; have e1:=hF.cell 1; have e2:=hF.cell 2;refine bodyPost_ret (v:=.tuple #[.agg #[.bool s,.slice a1 (limbs N).length c1,.slice a2 (limbs D).length c2],.int .i64 0]) (by simp [results,Tryz.results160,go_sem,e0,e1,e2]) rfl ?_;exact ⟨a1,c1,a2,c2,rfl,fun V hV=>HV1.out V (back3 hV hs1 hgl2),fun V hV=>HV2.out V (back3 hV hs1 hgl2),below3 hw2 (Nat.le_of_lt hgB)⟩
theorem qint_any (z:Int) (w:World) (hi:InInt z) :
  Calls Tryz.prog 59 #[.int .i64 z] w (RetF (lowest (decide (z < 0)) z.natAbs 1) w):=by
 have CZ:=fun W=>zint_any z W hi
 have C1:=fun W=>unit_any W
 rw [lowest_int];obtain ⟨s,hng⟩:∃ q,decide (z < 0) = q:=⟨_,rfl⟩
 obtain ⟨N,hnz⟩:∃ q,z.natAbs = q:=⟨_,rfl⟩
 simp only [hng,hnz] at CZ ⊢;unfold RetF RetQ;dsimp only;replace CZ:=Hd CZ; replace C1:=Hd C1;have hz:Blk (w.alloc (.cells #[.bool false,.slice none 0 0,.slice none 0 0] 54)) w.heap.size 54 #[.bool false,.slice none 0 0,.slice none 0 0]:=Blk.new w _ _;have hb0:Below w.heap.size w (w.alloc (.cells #[.bool false,.slice none 0 0,.slice none 0 0] 54)):=brf.alloc (nlr _) _;clear hng hnz;go_enter Tryz.func59,Tryz.ntmps59;go_wp2_with fail;revert hz hb0;generalize w.alloc (.cells #[.bool false,.slice none 0 0,.slice none 0 0] 54) = w0;intro hz hb0;refine (CZ.out _).mono ?_;rintro e w1 ⟨a1,c1,rfl,hV1,hb1⟩;have hw1:=bth hb0 hb1;have hz1:=hz.below' hb1;have HV1:=Hd hV1;clear hV1;go_wp2_with fail;refine (C1.out _).mono ?_;rintro e w2 ⟨a2,c2,rfl,hV2,hb2⟩;have hw2:=bth hw1 hb2;have hz2:=hz1.below' hb2;have HV2:=Hd hV2;have hs0:=hb0.size;have hgl0:=hz.lt;have hs1:=hw1.size;have hgl1:=hz1.lt
 have z0:=hz2.cell 0; have z1:=hz2.cell 1; have z2:=hz2.cell 2; have f0:=hz2.frozen 0; have f1:=hz2.frozen 1; have f2:=hz2.frozen 2;clear hV2 hz hz1;go_wp2;have hF:=blk3 (x:=.bool s) (y:=.slice a1 (limbs N).length c1) (z:=.slice a2 (limbs 1).length c2) hz2;have e0:=hF.cell 0; have e1:=hF.cell 1; have e2:=hF.cell 2;refine bodyPost_ret (v:=.agg #[.bool s,.slice a1 (limbs N).length c1,.slice a2 (limbs 1).length c2]) (by simp [results,Tryz.results59,go_sem,e0,e1,e2]) rfl ?_;exact ⟨a1,c1,a2,c2,rfl,fun V hV=>HV1.out V ((back3 hV hs0 hgl0).below hb2),fun V hV=>HV2.out V (back3 hV hs1 hgl1),below3 hw2 (nlr _)⟩
end Go.Proofs.YtkjnkpkagcboeaaGreatDoor
namespace Go.Proofs.YtkjnkpkagcboeaaGreatDoor
def qv (neg:Bool) (n d:Nat):Rat:=mkRat (zval neg n) d
def trip (q:Rat):Bool × Nat × Nat:=(decide (q.num < 0),q.num.natAbs,q.den)
def cmpQ (p q:Rat):Int:=if p < q then -1 else if q < p then 1 else 0
theorem zval_abs (neg:Bool) (n:Nat):(zval neg n).natAbs = n:=by unfold zval; split <;> omega
theorem zval_neg (neg:Bool) (n:Nat):zval (!neg) n = -zval neg n:=by unfold zval; cases neg <;> simp
theorem zval_self (z:Int):zval (decide (z < 0)) z.natAbs = z:=by
 unfold zval; split
 · next h=>simp at h; omega
 · next h=>simp at h; omega
theorem zval_div {neg:Bool} {n g:Nat} (hg:g ∣ n):zval neg n / (g:Int) = zval neg (n / g):=by
 obtain ⟨k,rfl⟩:=hg;by_cases h0:g = 0
 · subst h0; unfold zval; cases neg <;> simp
 ·
  have hp:(g:Int) ≠ 0:=by omega
  rw [Nat.mul_div_cancel_left _ (by omega)];unfold zval
  cases neg
  · simp; rw [Int.mul_ediv_cancel_left _ hp]
  ·
   simp only [if_true,Int.natCast_mul];rw [<- Int.mul_neg,Int.mul_ediv_cancel_left _ hp]
theorem zval_lt (neg:Bool) (n:Nat):decide (zval neg n < 0) = (neg && decide (0 < n)):=by
 unfold zval; cases neg <;> simp
theorem lowest_qv (neg:Bool) (n d:Nat):lowest neg n d = trip (qv neg n d):=by
 unfold lowest trip qv;rw [Rat.num_mkRat,Rat.den_mkRat];by_cases h0:d = 0
 · simp [h0]
 · rw [if_neg h0,if_neg h0,if_neg h0,zval_abs,Nat.gcd_comm d n,zval_div (Nat.gcd_dvd_left n d),zval_lt,zval_abs]
theorem qv_trip (q:Rat):qv (trip q).1 (trip q).2.1 (trip q).2.2 = q:=by
 unfold qv trip;dsimp only;rw [zval_self,Rat.mkRat_self]
theorem qv_parts (q:Rat):qv (decide (q.num < 0)) q.num.natAbs q.den = q:=qv_trip q
theorem zval_scale (a:Bool) (n m:Nat):zval a (n * m) = zval a n * m:=by unfold zval; cases a <;> simp [Int.neg_mul]
theorem crossed_trip (p q:Rat):crossed (trip p) (trip q) = cmpQ p q:=by
 unfold crossed trip cmpQ cmpI;dsimp only;rw [zval_scale,zval_scale,zval_self,zval_self];simp only [Rat.lt_iff]
theorem crossed_lowest (a b:Bool) (n d m c:Nat):crossed (lowest a n d) (lowest b m c) = cmpQ (qv a n d) (qv b m c):=by rw [lowest_qv,lowest_qv,crossed_trip]
theorem qv_zero (neg:Bool) (d:Nat):qv neg 0 d = 0:=by unfold qv zval; cases neg <;> simp
theorem qv_add (a b:Bool) (n d m c:Nat) (hd:d ≠ 0) (hc:c ≠ 0):mkRat (zval a n * c + zval b m * d) (d * c) = qv a n d + qv b m c:=by
 unfold qv; rw [Rat.mkRat_add_mkRat _ _ hd hc]
theorem qv_neg (a:Bool) (n d:Nat):qv (!a) n d = - qv a n d:=by
 unfold qv; rw [Rat.neg_mkRat,zval_neg]
theorem cmpQ_lt {p q:Rat}:cmpQ p q < 0 ↔ p < q:=by
 unfold cmpQ; split
 · simp [*]
 · split <;> simp [*]
theorem cmpQ_gt {p q:Rat}:0 < cmpQ p q ↔ q < p:=by
 unfold cmpQ; split
 · next h=>simp; exact Rat.not_lt.2 (Rat.le_of_lt h)
 · split <;> simp [*]
theorem cmpQ_le {p q:Rat}:cmpQ p q <= 0 ↔ p <= q:=by
 rw [<- Int.not_lt,cmpQ_gt,Rat.not_lt]
theorem cmpQ_ge {p q:Rat}:0 <= cmpQ p q ↔ q <= p:=by
 rw [<- Int.not_lt,cmpQ_lt,Rat.not_lt]
theorem cmpQ_zero {p q:Rat}:cmpQ p q = 0 ↔ p = q:=by
 constructor
 ·
  intro h;exact Rat.le_antisymm (cmpQ_le.1 (by omega)) (cmpQ_ge.1 (by omega))
 ·
  rintro rfl;have h1:=(cmpQ_le (p:=p) (q:=p)).2 Rat.le_refl;have h2:=(cmpQ_ge (p:=p) (q:=p)).2 Rat.le_refl
  omega
end Go.Proofs.YtkjnkpkagcboeaaGreatDoor
namespace Go.Proofs.YtkjnkpkagcboeaaGreatDoor
open Go.RowKit
structure QA where
 neg:Bool
 n:Nat
 a:Option Addr
 c:Nat
 m:Nat
 b:Option Addr
 d:Nat
def QAc (w:World) (x:QA) (q:Rat):Prop:=x.neg = decide (q.num < 0) /\ x.n = (limbs q.num.natAbs).length /\ x.m = (limbs q.den).length /\ NatR w x.a x.c (limbs q.num.natAbs) /\ NatR w x.b x.d (limbs q.den)
theorem QAc.ext {w w':World} {x:QA} {q:Rat} (h:QAc w x q) (e:Ext w w'):QAc w' x q:=⟨h.1,h.2.1,h.2.2.1,h.2.2.2.1.ext e,h.2.2.2.2.ext e⟩
def qsz (q:Rat):Nat:=max (limbs q.num.natAbs).length (limbs q.den).length
theorem limbs_len_sum {a b c:Nat} (h:a <= b + c):(limbs a).length <= max (limbs b).length (limbs c).length + 1:=Nat.le_trans (limbs_len_mono h) (limbs_len_add b c)
theorem qv_num_le (neg:Bool) (n d:Nat):(qv neg n d).num.natAbs <= n /\ (qv neg n d).den <= d + 1:=by
 have h1:=lowest_num neg n d;have h2:=lowest_den neg n d;rw [lowest_qv] at h1 h2;exact ⟨h1,h2⟩
theorem mk_num_le (z:Int) (d:Nat) (hd:d ≠ 0):(mkRat z d).num.natAbs <= z.natAbs /\ (mkRat z d).den <= d:=by
 rw [Rat.num_mkRat,Rat.den_mkRat,if_neg hd,if_neg hd];exact ⟨Int.natAbs_ediv_le_natAbs _ _,Nat.div_le_self _ _⟩
theorem qsz_le {q:Rat} {k:Nat} (h1:(limbs q.num.natAbs).length <= k) (h2:(limbs q.den).length <= k):qsz q <= k:=by unfold qsz; omega
theorem qsz_num (q:Rat):(limbs q.num.natAbs).length <= qsz q:=Nat.le_max_left _ _
theorem qsz_den (q:Rat):(limbs q.den).length <= qsz q:=Nat.le_max_right _ _
theorem qsz_neg (q:Rat):qsz (-q) = qsz q:=by unfold qsz; simp
theorem qsz_add (p q:Rat):qsz (p + q) <= qsz p + qsz q + 1:=by
 rw [Rat.add_def'];have h0:p.den * q.den ≠ 0:=Nat.mul_ne_zero p.den_nz q.den_nz;obtain ⟨h1,h2⟩:=mk_num_le (p.num * q.den + q.num * p.den) (p.den * q.den) h0;have h3:(p.num * q.den + q.num * p.den).natAbs <= p.num.natAbs * q.den + q.num.natAbs * p.den:=by
  refine Nat.le_trans (Int.natAbs_add_le _ _) ?_;rw [Int.natAbs_mul,Int.natAbs_mul];exact nlr _
 have a1:=limbs_len_mul p.num.natAbs q.den;have a2:=limbs_len_mul q.num.natAbs p.den;have a3:=limbs_len_mul p.den q.den;have a4:=limbs_len_sum (Nat.le_trans h1 h3);have b2:=limbs_len_mono h2;have c1:=qsz_num p;have c2:=qsz_num q;have c3:=qsz_den p;have c4:=qsz_den q;exact qsz_le (by omega) (by omega)
theorem lowest_sgn (neg:Bool) (n d:Nat) (h0:d ≠ 0):sgnZ (lowest neg n d).1 (lowest neg n d).2.1 = sgnZ neg n:=by
 unfold lowest;rw [if_neg h0];dsimp only;unfold sgnZ;by_cases hn:n = 0
 · subst hn; simp
 ·
  have hg:0 < Nat.gcd n d:=Nat.gcd_pos_of_pos_left _ (by omega);have hq:0 < n / Nat.gcd n d:=Nat.div_pos (Nat.le_of_dvd (by omega) (Nat.gcd_dvd_left n d)) hg;rw [if_neg (by omega),if_neg hn,decide_eq_true hq,Bool.and_true]
theorem rat_num (s:Bool) (a1:Option Addr) (k1 c1:Nat) (a2:Option Addr) (k2 c2:Nat) (w:World):(Instr.field 54 (.agg #[.bool s,.slice a1 k1 c1,.slice a2 k2 c2]) 0).run Tryz.prog w = .ok (.agg #[.bool s,.slice a1 k1 c1]) w:=by kernel_rfl
theorem qsign_any (neg:Bool) (l m:List Int) (n:Nat) (a a':Option Addr) (c c':Nat) (w:World) (h:NatR w a c l) (h':NatR w a' c' m) (hn:val l = n) (h0:val m ≠ 0) (hl:l.length <= 2000000) (hm:m.length <= 2000000) :
  Calls Tryz.prog 28 #[.agg #[.bool neg,.slice a l.length c,.slice a' m.length c']] w fun e w'=>e = .returned (.int .i64 (sgnZ neg n)) /\ Below w.heap.size w w':=by
 have CP:=fun W (hW:Below w.heap.size w W)=>parts_any neg l m a a' c c' W (h'.ext (xbw hW)) h0 (by omega)
 have CS:=fun W (hW:Below w.heap.size w W)=>zsign_any neg l n a c W (h.ext (xbw hW)) hn (by omega)
 obtain ⟨R,hR⟩:∃ q,sgnZ neg n = q:=⟨_,rfl⟩
 rw [hR] at CS ⊢;replace CP:=Hd CP; replace CS:=Hd CS;have hz:Blk (w.alloc (.cells #[.bool neg,.slice a l.length c,.slice a' m.length c'] 54)) w.heap.size 54 #[.bool neg,.slice a l.length c,.slice a' m.length c']:=Blk.new w _ _;have hb0:Below w.heap.size w (w.alloc (.cells #[.bool neg,.slice a l.length c,.slice a' m.length c'] 54)):=brf.alloc (nlr _) _;clear h h' hn h0 hR;go_enter Tryz.func28,Tryz.ntmps28;go_wp2_with fail;revert hz hb0;generalize w.alloc (.cells #[.bool neg,.slice a l.length c,.slice a' m.length c'] 54) = w0;intro hz hb0;have z0:=hz.cell 0; have z1:=hz.cell 1; have z2:=hz.cell 2;go_wp2_with fail;refine (CP.out _ hb0).mono ?_;rintro e w1 ⟨rfl,hb1⟩;have hw1:=bth hb0 hb1;clear z0 z1 z2 hz hb0 hb1;have hy:Blk (w1.alloc (.cells #[.bool neg,.slice a l.length c] 52)) w1.heap.size 52 #[.bool neg,.slice a l.length c]:=Blk.new w1 _ _
 have hw2:=hw1.alloc hw1.size (.cells #[.bool neg,.slice a l.length c] 52);go_wp2_with fail;refine (CS.out _ hw2).mono ?_;rintro e w2 ⟨rfl,hb2⟩;go_wp2;go_ret;exact ⟨rfl,bth hw2 hb2⟩
theorem wholeP_any (n:Nat) (a:Option Addr) (c:Nat) (w:World) :
  Calls Tryz.prog 124 #[.slice a n c] w fun e w'=>e = .returned (.agg #[.bool false,.slice a n c]) /\ Below w.heap.size w w':=by
 go_enter Tryz.func124,Tryz.ntmps124;go_wp2;have hF:=Blk.new w 52 #[.bool false,.slice a n c];have e0:=hF.cell 0; have e1:=hF.cell 1;refine bodyPost_ret (v:=.agg #[.bool false,.slice a n c]) (by simp [results,Tryz.results124,go_sem]) rfl ?_;exact ⟨rfl,brf.alloc (nlr _) _⟩
theorem qv_cmp (s1 s2:Bool) (P1 D1 P2 D2:Nat) (hD1:D1 ≠ 0) (hD2:D2 ≠ 0):cmpI (zval s1 (P1 * D2)) (zval s2 (P2 * D1)) = cmpQ (qv s1 P1 D1) (qv s2 P2 D2):=by
 have h1:∀ (z1 z2:Int) (e1 e2:Nat),e1 ≠ 0 -> e2 ≠ 0 -> (mkRat z1 e1 < mkRat z2 e2 ↔ z1 * e2 < z2 * e1):=by
  intro z1 z2 e1 e2 n1 n2;have p1:(0:Rat) < ((e1:Nat):Rat):=by exact_mod_cast (show 0 < e1 by omega)
  have p2:(0:Rat) < ((e2:Nat):Rat):=by exact_mod_cast (show 0 < e2 by omega)
  rw [Rat.mkRat_eq_div,Rat.mkRat_eq_div,Rat.div_lt_iff p1];have e3:(z2:Rat) / ((e2:Nat):Rat) * ((e1:Nat):Rat) = ((z2:Rat) * ((e1:Nat):Rat)) / ((e2:Nat):Rat):=by
   rw [Rat.div_def,Rat.div_def,Rat.mul_assoc,Rat.mul_comm (((e2:Nat):Rat)⁻¹),<- Rat.mul_assoc]
  rw [e3,Rat.lt_div_iff p2]
  exact_mod_cast Iff.rfl
 unfold cmpI cmpQ qv;rw [zval_scale,zval_scale];simp only [h1 _ _ _ _ hD1 hD2,h1 _ _ _ _ hD2 hD1]
theorem sgn_qv (s1 s2:Bool) (P1 D1 P2 D2:Nat) (hD1:D1 ≠ 0) (hD2:D2 ≠ 0):(sgnZ s1 P1 < sgnZ s2 P2 -> cmpQ (qv s1 P1 D1) (qv s2 P2 D2) = -1) /\ (sgnZ s2 P2 < sgnZ s1 P1 -> cmpQ (qv s1 P1 D1) (qv s2 P2 D2) = 1):=by
 rw [<- qv_cmp s1 s2 P1 D1 P2 D2 hD1 hD2,zcmp_sgn];have e:∀ (s:Bool) (a b:Nat),b ≠ 0 -> sgnZ s (a * b) = sgnZ s a:=by
  intro s a b hb;unfold sgnZ;by_cases ha:a = 0
  · subst ha; simp
  · rw [if_neg (Nat.mul_ne_zero ha hb),if_neg ha]
 rw [e _ _ _ hD2,e _ _ _ hD1]
 constructor
 · intro h; rw [if_pos h]
 · intro h; rw [if_neg (by omega),if_pos h]
theorem qcmp_any (s1 s2:Bool) (P1 D1 P2 D2:Nat) (a1 b1 a2 b2:Option Addr) (c1 d1 c2 d2:Nat) (w:World) (r1:NatR w a1 c1 (limbs P1)) (r2:NatR w b1 d1 (limbs D1)) (r3:NatR w a2 c2 (limbs P2)) (r4:NatR w b2 d2 (limbs D2))
  (hD1:D1 ≠ 0) (hD2:D2 ≠ 0) (l1:(limbs P1).length <= 400000) (l2:(limbs D1).length <= 400000) (l3:(limbs P2).length <= 400000) (l4:(limbs D2).length <= 400000):Calls Tryz.prog 106 #[.agg #[.bool s1,.slice a1 (limbs P1).length c1,.slice b1 (limbs D1).length d1],.agg #[.bool s2,.slice a2 (limbs P2).length c2,.slice b2 (limbs D2).length d2]] w fun e w'=>e = .returned (.int .i64 (cmpQ (qv s1 P1 D1) (qv s2 P2 D2))) /\ Below w.heap.size w w':=by
 have m1:=limbs_len_mul P1 D2;have m2:=limbs_len_mul P2 D1;have CS1:=fun W (hW:Below w.heap.size w W)=>qsign_any s1 (limbs P1) (limbs D1) P1 a1 b1 c1 d1 W (r1.ext (xbw hW)) (r2.ext (xbw hW)) (val_limbs _) (by rw [val_limbs]; exact hD1) (by omega) (by omega)
 have CS2:=fun W (hW:Below w.heap.size w W)=>qsign_any s2 (limbs P2) (limbs D2) P2 a2 b2 c2 d2 W (r3.ext (xbw hW)) (r4.ext (xbw hW)) (val_limbs _) (by rw [val_limbs]; exact hD2) (by omega) (by omega)
 have CP1:=fun W (hW:Below w.heap.size w W)=>parts_any s1 (limbs P1) (limbs D1) a1 b1 c1 d1 W (r2.ext (xbw hW)) (by rw [val_limbs]; exact hD1) (by omega)
 have CP2:=fun W (hW:Below w.heap.size w W)=>parts_any s2 (limbs P2) (limbs D2) a2 b2 c2 d2 W (r4.ext (xbw hW)) (by rw [val_limbs]; exact hD2) (by omega)
 have CZ1:=fun W (hW:Below w.heap.size w W)=>zmul_any s1 false (limbs P1) (limbs D2) P1 D2 a1 b2 c1 d2 W (r1.ext (xbw hW)) (r4.ext (xbw hW)) (val_limbs _) (val_limbs _) (by omega) (by omega)
 have CZ2:=fun W (hW:Below w.heap.size w W)=>zmul_any s2 false (limbs P2) (limbs D1) P2 D1 a2 b1 c2 d1 W (r3.ext (xbw hW)) (r2.ext (xbw hW)) (val_limbs _) (val_limbs _) (by omega) (by omega)
 have x1:(s1 != false) = s1:=by cases s1 <;> rfl
 have x2:(s2 != false) = s2:=by cases s2 <;> rfl
 simp only [x1] at CZ1;simp only [x2] at CZ2;have CC:=fun a b c d W h h'=>zcmp_any (s1 && decide (0 < P1 * D2)) (s2 && decide (0 < P2 * D1)) (limbs (P1 * D2)) (limbs (P2 * D1)) (P1 * D2) (P2 * D1) a b c d W h h' (val_limbs _) (val_limbs _) (by omega) (by omega)
 simp only [zval_pos,qv_cmp s1 s2 P1 D1 P2 D2 hD1 hD2] at CC;have hsg:=sgn_qv s1 s2 P1 D1 P2 D2 hD1 hD2;obtain ⟨R,hR⟩:∃ q,cmpQ (qv s1 P1 D1) (qv s2 P2 D2) = q:=⟨_,rfl⟩
 rw [hR] at hsg ⊢;simp only [hR] at CC;obtain ⟨p1,hp1⟩:∃ q,(s1 && decide (0 < P1 * D2)) = q:=⟨_,rfl⟩
 obtain ⟨p2,hp2⟩:∃ q,(s2 && decide (0 < P2 * D1)) = q:=⟨_,rfl⟩
 simp only [hp1] at CZ1 CC;simp only [hp2] at CZ2 CC;have HSG:=Hd hsg;clear hsg hR hp1 hp2 x1 x2 m1 m2 hD1 hD2;revert CZ1 CZ2 CC;generalize P1 * D2 = PP;generalize P2 * D1 = DD;intro CZ1 CZ2 CC;revert CS1 CS2 HSG;generalize sgnZ s1 P1 = s;generalize sgnZ s2 P2 = t;intro CS1 CS2 HSG;replace CS1:=Hd CS1; replace CS2:=Hd CS2; replace CP1:=Hd CP1; replace CP2:=Hd CP2; replace CZ1:=Hd CZ1; replace CZ2:=Hd CZ2; replace CC:=Hd CC;have W1:=fun W=>wholeP_any (limbs D2).length b2 d2 W
 have W2:=fun W=>wholeP_any (limbs D1).length b1 d1 W
 replace W1:=Hd W1; replace W2:=Hd W2;clear r1 r2 r3 r4;go_enter Tryz.func106,Tryz.ntmps106;go_wp2;refine world_gen (fun W=>Blk W w.heap.size 54 #[.bool s1,.slice a1 (limbs P1).length c1,.slice b1 (limbs D1).length d1] /\ Blk W (w.heap.size + 1) 54 #[.bool s2,.slice a2 (limbs P2).length c2,.slice b2 (limbs D2).length d2] /\ Below w.heap.size w W /\ w.heap.size < w.heap.size + 1 /\ w.heap.size + 1 < W.heap.size) ⟨(Blk.new w _ _).alloc _,blk_at1 w _ _ _,by go_grown,by omega,by simp⟩ ?_;rintro w0 ⟨hx,hy,hw0,hg1,hg2⟩;revert hx hy hg1 hg2;generalize w.heap.size + 1 = g2;intro hx hy hg1 hg2;have k0:=held (hx.cell 0); have k1:=held (hx.cell 1); have k2:=held (hx.cell 2); have k3:=held (hy.cell 0); have k4:=held (hy.cell 1); have k5:=held (hy.cell 2);have s0:Below w0.heap.size w0 w0.drew:=brf.drew
 refine wp_region_mix (S:=Below w0.heap.size w0) [(0,.q),(2,.q),(1,.l),(3,.t),(4,.p),(5,.p)] (by kernel_rfl) (by kernel_rfl) (by kernel_rfl) (fun d _ _ _ _ h=>by cases d <;> exact h) (s0) ?_
 iterate 2 (refine wpMix_q rfl rfl (fun K hK=>?_); apply Exists.intro; refine ⟨fun w' hw'=>?_,?_⟩; (focus (go_simp; try rfl)); go_simp; refine hK _ _ ?_; clear hK K)
 refine wpMix_l rfl rfl (fun K hK=>?_);go_simp;refine (CS1.out _ (bth hw0 s0)).mono ?_;rintro r w1 ⟨rfl,hb1⟩;dsimp only;refine hK.out _ _ (bth s0 hb1) (fun _=>?_);clear hK K;have t1:=bth s0 hb1;refine wpMix_t rfl rfl (fun K hK=>?_);go_simp;refine (CS2.out _ (bth hw0 t1)).mono ?_;rintro r w2 ⟨rfl,hb2⟩;dsimp only;refine hK.out _ _ ?_;clear hK K;have t2:=bth t1 hb2
 iterate 2 (refine wpMix_p rfl rfl (fun K hK=>?_); apply Exists.intro; refine ⟨fun w'=>?_,?_⟩; (focus (go_simp; try rfl)); go_simp; refine hK _ _ ?_; clear hK K)
 refine wpMix_nil ?_;replace hx:=hx.below' t2;replace hy:=hy.below' t2;have hw2:=bth hw0 t2;have hs2:=t2.size;clear k0 k1 k2 k3 k4 k5 s0 t1 t2 hb1 hb2 CS1 CS2;by_cases h1:s < t
 ·
  obtain rfl:R = -1:=HSG.out.1 h1;have hne:(s != t) = true:=by simp; omega
  go_wp2;go_ret;exact ⟨rfl,hw2⟩
 ·
  by_cases h2:t < s
  ·
   obtain rfl:R = 1:=HSG.out.2 h2;have hne:(s != t) = true:=by simp; omega
   go_wp2;go_ret;exact ⟨rfl,hw2⟩
  ·
   have hne:(s != t) = false:=by simp; omega
   clear HSG;have z0:=hx.cell 0; have z1:=hx.cell 1; have z2:=hx.cell 2;go_wp2_with fail;refine (CP1.out _ hw2).mono ?_;rintro e w3 ⟨rfl,hb3⟩;replace hy:=hy.below' hb3;have hw3:=bth hw2 hb3;have hs3:=hb3.size;clear z0 z1 z2 hx hne h1 h2;have z0:=hy.cell 0; have z1:=hy.cell 1; have z2:=hy.cell 2; have lt2:=hy.lt;go_wp2_with fail;refine calls_gen (fun W=>Blk W w3.heap.size 52 #[.bool s1,.slice a1 (limbs P1).length c1] /\ Below w.heap.size w W /\ w3.heap.size < W.heap.size) ⟨by ((with_reducible repeat first|assumption|(apply bF;focus omega)|apply bS|(apply bN;focus (simp;done))|apply bA|apply bD);all_goals rfl),by go_grown,by simp⟩ ?_;clear z0 z1 z2 lt2 hy;rintro w4 ⟨hu,hw4,hs4⟩;refine (CP2.out _ hw4).mono ?_;rintro e w5 ⟨rfl,hb5⟩;replace hu:=hu.below' hb5;have hw5:=bth hw4 hb5;have hs5:=hb5.size;have hlt5:w3.heap.size < w5.heap.size:=by omega
   go_wp2;refine world_gen (fun W=>Blk W w3.heap.size 52 #[.bool s1,.slice a1 (limbs P1).length c1] /\ Blk W w5.heap.size 52 #[.bool s2,.slice a2 (limbs P2).length c2] /\ Below w.heap.size w W) (by refine ⟨?_,?_,?_⟩<;>first|((with_reducible repeat first|assumption|(apply bF;focus omega)|apply bS|(apply bN;focus (simp;done))|apply bA|apply bD);all_goals rfl)|go_grown) ?_;clear hu;rintro w6 ⟨hu,hv,hw6⟩;have k0:=held (hu.cell 0); have k1:=held (hu.cell 1); have k2:=held (hv.cell 0); have k3:=held (hv.cell 1);have s0:Below w6.heap.size w6 w6.drew:=brf.drew;refine wp_region_mix (S:=Below w6.heap.size w6) [(0,.q),(1,.q),(4,.q),(5,.q),(2,.l),(3,.l),(6,.l),(7,.t),(8,.t),(9,.p)] (by kernel_rfl) (by kernel_rfl) (by kernel_rfl) (fun d _ _ _ _ h=>by cases d <;> exact h) (s0) ?_
   iterate 4 (refine wpMix_q rfl rfl (fun K hK=>?_); apply Exists.intro; refine ⟨fun w' hw'=>?_,?_⟩; (focus (go_simp; try rfl)); go_simp; refine hK _ _ ?_; clear hK K)
   refine wpMix_l rfl rfl (fun K hK=>?_);go_simp;refine (W1.out _).mono ?_;rintro r w7 ⟨rfl,hb7⟩;dsimp only;refine hK.out _ _ (bth s0 hb7) (fun _=>?_);clear hK K;have t3:=bth s0 hb7;refine wpMix_l rfl rfl (fun K hK=>?_);go_simp;refine (CZ1.out _ (bth hw6 t3)).mono ?_;rintro r w8 ⟨a8,c8,rfl,hV8,hb8⟩;dsimp only;refine hK.out _ _ (bth t3 hb8) (fun _=>?_);clear hK K;have t4:=bth t3 hb8;have HV8:=Hd hV8;clear hV8;refine wpMix_l rfl rfl (fun K hK=>?_);go_simp;refine (W2.out _).mono ?_;rintro r w9 ⟨rfl,hb9⟩;dsimp only;refine hK.out _ _ (bth t4 hb9) (fun _=>?_);clear hK K;have t5:=bth t4 hb9;refine wpMix_t rfl rfl (fun K hK=>?_);go_simp;refine (CZ2.out _ (bth hw6 t5)).mono ?_;rintro r w10 ⟨a9,c9,rfl,hV9,hb10⟩;dsimp only;refine hK.out _ _ ?_;clear hK K;have t6:=bth t5 hb10;have CD:=CC.out a8 a9 c8 c9 w10 (HV8.out w10 (((New.refl _ _).below hb10).below hb9)) (hV9 w10 (New.refl _ _))
   replace CD:=Hd CD;clear hV9;refine wpMix_t rfl rfl (fun K hK=>?_);go_simp;refine (CD.out).mono ?_;rintro r w11 ⟨rfl,hb11⟩;dsimp only;refine hK.out _ _ ?_;clear hK K;have t7:=bth t6 hb11
   iterate 1 (refine wpMix_p rfl rfl (fun K hK=>?_); apply Exists.intro; refine ⟨fun w'=>?_,?_⟩; (focus (go_simp; try rfl)); go_simp; refine hK _ _ ?_; clear hK K)
   refine wpMix_nil ?_;go_wp2;go_ret;exact ⟨rfl,bth hw6 t7⟩
end Go.Proofs.YtkjnkpkagcboeaaGreatDoor
