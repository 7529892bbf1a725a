/- Walks: the program's rational numbers: reduced. -/
import Derived.Test.YtfaalkneigpcnaaGreatDoorIc1
import Derived.Test.YtfaalkneigpcnaaGreatDoorIc6
set_option linter.all false
set_option maxRecDepth 100000
set_option maxHeartbeats 4000000
namespace Go.Proofs.YtfaalkneigpcnaaGreatDoor
open Go.RowKit
def NewIn (B T:Nat) (w V:World):Prop:=∀ p v,B<=p.block->p.block<T->w.cell? p=some v->V.cell? p=some v
def Kp (R:World->Prop) (B T:Nat) (w:World):Prop:=∀ V,NewIn B T w V->R V
section
variable {R R' : World -> Prop} {B T : Nat} {w w' : World}
theorem Kp.now (h:Kp R B T w):R w:=h w fun _ _ _ _ h=>h
theorem Kp.imp (h:Kp R B T w) (e:∀ V,R V->R' V):Kp R' B T w:=fun V hV=>e V (h V hV)
theorem Kp.alloc (h:Kp R B T w) {o:Obj}:Kp R B T (w.alloc o):=fun V hV=>h V fun p v h1 h2 h3=>hV p v h1 h2 ((World.cell?_alloc_lt w o p (World.block_lt_of_cell? w p h3)).trans h3)
theorem Kp.drew (h:Kp R B T w):Kp R B T w.drew:=h
theorem Kp.setc {g i:Nat} {u:Value} (hg:g<B\/T<=g) (h:Kp R B T w):Kp R B T (w.setCell ⟨g,i,none⟩ u):=fun V hV=>h V fun p v h1 h2 h3 =>
 hV p v h1 h2 ((World.cell?_setCell_other w ⟨g,i,none⟩ p u (fun e=>by subst e;simp at h1 h2;omega)).trans h3)
theorem Kp.call (h:Kp R B T w) (hb:Below w.heap.size w w'):Kp R B T w':=fun V hV=>h V fun p v h1 h2 h3=>hV p v h1 h2 ((hb.cell (World.block_lt_of_cell? w p h3)).trans h3)
theorem Kp.made (h:∀ V,New B w V->R V):Kp R B w.heap.size w:=fun V hV=>h V fun p v h1 h2=>hV p v h1 (World.block_lt_of_cell? w p h2) h2
theorem Kp.fin (h:Kp R B T w) {B':Nat} (hB:B'<=B):∀ V,New B' w V->R V:=fun V hV=>h V fun p v h1 _ h3=>hV p v (Nat.le_trans hB h1) h3
end
section
variable {w w' : World} {g g2 i : Nat} {t : TypeId} {cs cs' : Array Value} {u : Value}
theorem Blk.newAt (h:g=w.heap.size):Blk (w.alloc (.cells cs t)) g t cs:=by subst h;exact Blk.new w t cs
theorem Blk.farAt (hg:g≠g2) (h:Blk w g t cs):Blk (w.setCell ⟨g2,i,none⟩ u) g t cs:=h.far (p:=⟨g2,i,none⟩) hg u
theorem Blk.setb (h:Blk w g t cs') (e:cs'.setIfInBounds i u=cs):Blk (w.setCell ⟨g,i,none⟩ u) g t cs:=e ▸ h.set_ i u
theorem bF (hg:g≠g2) (h:Blk w g t cs):Blk (w.setCell ⟨g2,i,none⟩ u) g t cs:=h.farAt hg
theorem bS (h:Blk w g t cs') (e:cs'.setIfInBounds i u=cs):Blk (w.setCell ⟨g,i,none⟩ u) g t cs:=h.setb e
theorem bN (h:g=w.heap.size):Blk (w.alloc (.cells cs t)) g t cs:=Blk.newAt h
theorem bA {o:Obj} (h:Blk w g t cs):Blk (w.alloc o) g t cs:=h.alloc o
theorem bD (h:Blk w g t cs):Blk w.drew g t cs:=h.drew
end
theorem qad {P:Program} {f:Nat} {args:Array Value} {W:World} {Q:Ending->World->Prop} (R:World->Prop) (hR:R W) (h:∀ W',R W'->Calls P f args W' Q):Calls P f args W Q:=h W hR
theorem qab {G:World->Prop} {W:World} (R:World->Prop) (hR:R W) (h:∀ W',R W'->G W'):G W:=h W hR
theorem qlm (neg:Bool) (n1 n2:Nat):zval neg n1+zval neg n2=zval neg (n1+n2):=by unfold zval;cases neg <;> simp;omega
theorem qj1 {neg1 neg2:Bool} (h:neg1≠neg2) (n1 n2:Nat):(n2<=n1->zval neg1 n1+zval neg2 n2=zval neg1 (n1-n2))/\(n1<=n2->zval neg1 n1+zval neg2 n2=zval neg2 (n2-n1)):=by
 unfold zval;cases neg1 <;> cases neg2 <;> simp at h ⊢ <;> omega
theorem qvc (neg:Bool) (n:Nat):decide (zval neg n<0)=(neg&&decide (0<n)):=by
 unfold zval;cases neg <;> simp
theorem qun (neg:Bool) (n:Nat):(zval neg n).natAbs=n:=by unfold zval;split <;> omega
def RetI (z:Int) (w:World) (e:Ending) (w':World):Prop:=RetZ (decide (z<0)) z.natAbs w e w'
theorem qe7 {neg:Bool} {n:Nat} {z:Int} {w:World} {e:Ending} {w':World} (hz:z=zval neg n) (h:RetZ (neg&&decide (0<n)) n w e w'):RetI z w e w':=by
 subst hz;unfold RetI;rw [qvc,qun];exact h
theorem quy (neg1:Bool) (l m:List Int) (n1 n2:Nat) (a a':Option Addr) (c c':Nat) (w:World) (h:NatR w a c l) (h':NatR w a' c' m) (hn:val l=n1) (hk:val m=n2) (hl:l.length<=4000000) (hm:m.length<=4000000) :
  Calls Tryz.prog 240 #[.agg #[.bool neg1,.slice a l.length c],.agg #[.bool neg1,.slice a' m.length c']] w (RetI (zval neg1 n1+zval neg1 n2) w):=by
 have CA:=fun W (hW:Below w.heap.size w W)=>qvf l m n1 n2 a a' c c' W (h.ext (xbw hW)) (h'.ext (xbw hW)) hn hk (by omega) (by omega)
 have CF:=fun a c W=>qea neg1 (n1+n2) a c W
 refine Calls.mono ?_ fun _ _=>qe7 (qlm neg1 n1 n2)
 obtain ⟨R,hR⟩:∃ q,(neg1&&decide (0<n1+n2))=q:=⟨_,rfl⟩
 rw [hR] at CF ⊢;revert CA CF;generalize n1+n2=n;intro CA CF;replace CA:=Hd CA;replace CF:=Hd CF;clear h h' hn hk hR;have hx1:=qbv w (.cells #[.bool neg1,.slice a l.length c] 49) (.cells #[.bool neg1,.slice a' m.length c'] 49) 49 #[.bool false,.slice none 0 0];have hz:Blk (((w.alloc (.cells #[.bool neg1,.slice a l.length c] 49)).alloc (.cells #[.bool neg1,.slice a' m.length c'] 49)).alloc (.cells #[.bool false,.slice none 0 0] 49)) (w.heap.size+1+1) 49 #[.bool false,.slice none 0 0]:=hx1;have hx1:Blk (((w.alloc (.cells #[.bool neg1,.slice a l.length c] 49)).alloc (.cells #[.bool neg1,.slice a' m.length c'] 49)).alloc (.cells #[.bool false,.slice none 0 0] 49)) w.heap.size 49 #[.bool neg1,.slice a l.length c]:=((Blk.new w _ _).alloc _).alloc _
 have hx2:Blk (((w.alloc (.cells #[.bool neg1,.slice a l.length c] 49)).alloc (.cells #[.bool neg1,.slice a' m.length c'] 49)).alloc (.cells #[.bool false,.slice none 0 0] 49)) (w.heap.size+1) 49 #[.bool neg1,.slice a' m.length c']:=(qa4 w _ _ _).alloc _;have hb0:Below w.heap.size w (((w.alloc (.cells #[.bool neg1,.slice a l.length c] 49)).alloc (.cells #[.bool neg1,.slice a' m.length c'] 49)).alloc (.cells #[.bool false,.slice none 0 0] 49)):=by go_grown
 have hg2:w.heap.size<w.heap.size+1+1:=by omega
 go_enter Tryz.func240,Tryz.ntmps240;go_wp2;revert hz hx1 hx2 hb0 hg2;generalize ((w.alloc (.cells #[.bool neg1,.slice a l.length c] 49)).alloc (.cells #[.bool neg1,.slice a' m.length c'] 49)).alloc (.cells #[.bool false,.slice none 0 0] 49)=w0;generalize w.heap.size+1+1=g3;generalize w.heap.size+1=g2;intro hz hx1 hx2 hb0 hg2;have hs0:=hb0.size;have hgl:=hz.lt;have k0:=held (hx1.cell 0);have k1:=held (hx1.cell 1);have k2:=held (hx2.cell 1);have s0:Below w0.heap.size w0 w0.drew:=brf.drew;refine wrx (S:=Below w0.heap.size w0) [(0,.q),(1,.q),(2,.q),(3,.q),(4,.q),(5,.q),(6,.l),(7,.t),(8,.t)] (s0) ?_
 iterate 6 (refine qaj rfl rfl fun K hK=>xq ?_;go_simp;refine hK _ _ ?_;clear hK K)
 refine qag rfl rfl (fun K hK=>?_);go_simp;refine (CA.out _ (bth hb0 s0)).mono ?_;rintro r w1 ⟨a3,c3,rfl,hV3,hb1⟩;dsimp only;refine hK.out _ _ (bth s0 hb1) (fun _=>?_);clear hK K;have s1:=bth s0 hb1;have HV:=Hd hV3;clear hV3;refine qae rfl rfl (fun K hK=>?_);go_simp;refine (CF.out a3 c3 _).mono ?_;rintro r w2 ⟨rfl,hb2⟩;dsimp only;refine hK.out _ _ ?_;clear hK K;obtain ⟨a4,rfl⟩:∃ a4,a4=a3:=⟨_,rfl⟩
 obtain ⟨c4,rfl⟩:∃ c4,c4=c3:=⟨_,rfl⟩
 have s2:=bth s1 hb2;have hz3:=hz.below' s2;obtain ⟨z0,z1⟩:=cq2 hz3;obtain ⟨f0,f1⟩:=fq2 hz3;have hw2:=bth hb0 s2;clear k0 k1 k2;refine qae rfl rfl (fun K hK=>?_);go_simp;refine hK.out _ _ ?_;clear hK K;refine qai ?_;go_wp2;have hF:=blk2 (x:=.bool R) (y:=.slice a4 (limbs n).length c4) hz3;obtain ⟨e0,e1⟩:=cq2 hF;refine bodyPost_ret (v:=.agg #[.bool R,.slice a4 (limbs n).length c4]) (by simp [results,Tryz.results240,go_sem,e0,e1]) rfl ?_;exact ⟨a4,c4,rfl,fun V hV=>HV.out V ((back2 hV hs0 hgl).below hb2),qbr hw2 (Nat.le_of_lt hg2)⟩
theorem qrs (neg1:Bool) (l m:List Int) (n1 n2:Nat) (a a':Option Addr) (c c':Nat) (w:World) (h:NatR w a c l) (h':NatR w a' c' m) (hn:val l=n1) (hk:val m=n2) (hl:l.length<=4000000) (hm:m.length<=4000000) :
  Calls Tryz.prog 244 #[.agg #[.bool neg1,.slice a l.length c],.agg #[.bool neg1,.slice a' m.length c']] w (RetI (zval neg1 n1+zval neg1 n2) w):=by
 have hll:=qah h.u16;have hlm:=qah h'.u16;rw [hn] at hll;rw [hk] at hlm;have hp:=qcf n1 n2;have hsum:(limbs (n1+n2)).length<=4000001:=by omega
 have CA:=fun W (hW:Below w.heap.size w W)=>qk8 l m n1 n2 a a' c c' W (h.ext (xbw hW)) (h'.ext (xbw hW)) hn hk (by omega) (by omega)
 have CF:=fun a c W h=>qds neg1 (limbs (n1+n2)) (n1+n2) a c W h (qaa _) (by omega)
 refine Calls.mono ?_ fun _ _=>qe7 (qlm neg1 n1 n2)
 obtain ⟨R,hR⟩:∃ q,(neg1&&decide (0<n1+n2))=q:=⟨_,rfl⟩
 rw [hR] at CF ⊢;revert CA CF;generalize n1+n2=n;intro CA CF;replace CA:=Hd CA;replace CF:=Hd CF;clear h h' hn hk hR;have hx1:=qbv w (.cells #[.bool neg1,.slice a l.length c] 49) (.cells #[.bool neg1,.slice a' m.length c'] 49) 49 #[.bool false,.slice none 0 0];have hz:Blk (((w.alloc (.cells #[.bool neg1,.slice a l.length c] 49)).alloc (.cells #[.bool neg1,.slice a' m.length c'] 49)).alloc (.cells #[.bool false,.slice none 0 0] 49)) (w.heap.size+1+1) 49 #[.bool false,.slice none 0 0]:=hx1;have hx1:Blk (((w.alloc (.cells #[.bool neg1,.slice a l.length c] 49)).alloc (.cells #[.bool neg1,.slice a' m.length c'] 49)).alloc (.cells #[.bool false,.slice none 0 0] 49)) w.heap.size 49 #[.bool neg1,.slice a l.length c]:=((Blk.new w _ _).alloc _).alloc _
 have hx2:Blk (((w.alloc (.cells #[.bool neg1,.slice a l.length c] 49)).alloc (.cells #[.bool neg1,.slice a' m.length c'] 49)).alloc (.cells #[.bool false,.slice none 0 0] 49)) (w.heap.size+1) 49 #[.bool neg1,.slice a' m.length c']:=(qa4 w _ _ _).alloc _;have hb0:Below w.heap.size w (((w.alloc (.cells #[.bool neg1,.slice a l.length c] 49)).alloc (.cells #[.bool neg1,.slice a' m.length c'] 49)).alloc (.cells #[.bool false,.slice none 0 0] 49)):=by go_grown
 have hg2:w.heap.size<w.heap.size+1+1:=by omega
 go_enter Tryz.func244,Tryz.ntmps244;go_wp2;revert hz hx1 hx2 hb0 hg2;generalize ((w.alloc (.cells #[.bool neg1,.slice a l.length c] 49)).alloc (.cells #[.bool neg1,.slice a' m.length c'] 49)).alloc (.cells #[.bool false,.slice none 0 0] 49)=w0;generalize w.heap.size+1+1=g3;generalize w.heap.size+1=g2;intro hz hx1 hx2 hb0 hg2;have hs0:=hb0.size;have hgl:=hz.lt;have k0:=held (hx1.cell 0);have k1:=held (hx1.cell 1);have k2:=held (hx2.cell 1);have s0:Below w0.heap.size w0 w0.drew:=brf.drew;refine wrx (S:=Below w0.heap.size w0) [(0,.q),(1,.q),(2,.q),(3,.q),(4,.q),(5,.q),(6,.l),(7,.t),(8,.t)] (s0) ?_
 iterate 6 (refine qaj rfl rfl fun K hK=>xq ?_;go_simp;refine hK _ _ ?_;clear hK K)
 refine qag rfl rfl (fun K hK=>?_);go_simp;refine (CA.out _ (bth hb0 s0)).mono ?_;rintro r w1 ⟨a3,c3,rfl,hV3,hb1⟩;dsimp only;refine hK.out _ _ (bth s0 hb1) (fun _=>?_);clear hK K;have s1:=bth s0 hb1;have hr3:=hV3 w1 (New.refl _ _);clear hV3;refine qae rfl rfl (fun K hK=>?_);go_simp;refine (CF.out _ _ _ hr3).mono ?_;rintro r w2 ⟨a4,c4,rfl,hV,hb2⟩;dsimp only;refine hK.out _ _ ?_;clear hK K;have HV:=Hd hV;clear hV hr3;have hs1:=(bth hb0 s1).size;have hg1:g3<w1.heap.size:=ltl hgl s1.size;have s2:=bth s1 hb2;have hz3:=hz.below' s2;obtain ⟨z0,z1⟩:=cq2 hz3;obtain ⟨f0,f1⟩:=fq2 hz3;have hw2:=bth hb0 s2;clear k0 k1 k2;refine qae rfl rfl (fun K hK=>?_);go_simp;refine hK.out _ _ ?_;clear hK K;refine qai ?_;go_wp2;have hF:=blk2 (x:=.bool R) (y:=.slice a4 (limbs n).length c4) hz3;obtain ⟨e0,e1⟩:=cq2 hF
 refine bodyPost_ret (v:=.agg #[.bool R,.slice a4 (limbs n).length c4]) (by simp [results,Tryz.results244,go_sem,e0,e1]) rfl ?_;exact ⟨a4,c4,rfl,fun V hV=>HV.out V (back2 hV hs1 hg1),qbr hw2 (Nat.le_of_lt hg2)⟩
theorem qrv (neg1 neg2:Bool) (l m:List Int) (n1 n2:Nat) (a a':Option Addr) (c c':Nat) (w:World) (h:NatR w a c l) (h':NatR w a' c' m) (hn:val l=n1) (hk:val m=n2) (hl:l.length<=4000000) (hm:m.length<=4000000) (hne:neg1≠neg2) :
  Calls Tryz.prog 240 #[.agg #[.bool neg1,.slice a l.length c],.agg #[.bool neg2,.slice a' m.length c']] w (RetI (zval neg1 n1+zval neg2 n2) w):=by
 have hsum:=qj1 hne n1 n2;have hbe:(neg1==neg2)=false:=by simpa using hne
 have CC:=fun W (hW:Below w.heap.size w W)=>qe6 l m n1 n2 a a' c c' W (h.ext (xbw hW)) (h'.ext (xbw hW)) hn hk
 by_cases hlt:n1<n2
 ·
  have CS:=fun W (hW:Below w.heap.size w W)=>qm8 m l n2 n1 a' a c' c W (h'.ext (xbw hW)) (h.ext (xbw hW)) hk hn (by omega) (by omega) (by omega)
  have CF:=fun a c W=>qea neg2 (n2-n1) a c W
  refine Calls.mono ?_ fun _ _=>qe7 (hsum.2 (by omega))
  have hc:cmpN n1 n2 = -1:=by unfold cmpN;rw [if_pos hlt]
  rw [hc] at CC;obtain ⟨R,hR⟩:∃ q,(neg2&&decide (0<n2-n1))=q:=⟨_,rfl⟩
  rw [hR] at CF ⊢;unfold RetNE at CS;revert CS CF;generalize n2-n1=n;intro CS CF;replace CC:=Hd CC;replace CS:=Hd CS;replace CF:=Hd CF;clear h h' hn hk hR hsum hne hc hlt;go_enter Tryz.func240,Tryz.ntmps240;go_wp2_with fail;refine qad (fun W=>Blk W w.heap.size 49 #[.bool neg1,.slice a l.length c]/\Blk W (w.heap.size+1) 49 #[.bool neg2,.slice a' m.length c']/\Blk W (w.heap.size+1+1) 49 #[.bool false,.slice none 0 0]/\Below w.heap.size w W/\w.heap.size<w.heap.size+1/\w.heap.size+1<w.heap.size+1+1/\w.heap.size+1+1<W.heap.size) ⟨((Blk.new w _ _).alloc _).alloc _,(qa4 w _ _ _).alloc _,qbv w _ _ _ _,by go_grown,by omega,by omega,by simp⟩ ?_;rintro w0 ⟨hx1,hx2,hz,hw0,hg1,hg2,hg3⟩;revert hx1 hx2 hz hg1 hg2 hg3;generalize w.heap.size+1+1=g3;generalize w.heap.size+1=g2;intro hx1 hx2 hz hg1 hg2 hg3;obtain ⟨z0,z1⟩:=cq2 hx1;obtain ⟨z2,z3⟩:=cq2 hx2;refine (CC.out _ hw0).mono ?_;rintro e w1 ⟨rfl,hb1⟩
  replace hx1:=hx1.below' hb1;replace hx2:=hx2.below' hb1;replace hz:=hz.below' hb1;have hw1:=bth hw0 hb1;have hs1:=hb1.size;clear z0 z1 z2 z3;obtain ⟨z0,z1⟩:=cq2 hx1;obtain ⟨z2,z3⟩:=cq2 hx2;obtain ⟨f0,f1⟩:=fq2 hx1;obtain ⟨f2,f3⟩:=fq2 hx2;have hn1:¬ g2=w.heap.size:=by omega
  have hn2:¬ w.heap.size=g2:=by omega
  go_wp2_with fail;refine qad (fun W=>Blk W w.heap.size 49 #[.bool neg2,.slice a' m.length c']/\Blk W g3 49 #[.bool false,.slice none 0 0]/\Below w.heap.size w W/\w1.heap.size<=W.heap.size) ⟨by ((with_reducible repeat first|assumption|(apply bF;focus omega)|apply bS|(apply bN;focus (simp;done))|apply bA|apply bD);all_goals rfl),by ((with_reducible repeat first|assumption|(apply bF;focus omega)|apply bS|(apply bN;focus (simp;done))|apply bA|apply bD);all_goals rfl),by go_grown,by simp⟩ ?_;rintro w2 ⟨hx,hy,hw2,hs2⟩;clear z0 z1 z2 z3 f0 f1 f2 f3 hx1 hx2 hz;refine (CS.out _ hw2).mono ?_;rintro e w3 ⟨a3,c3,rfl,hV,hb3⟩;have HV:=Hd hV;replace hx:=hx.below' hb3;replace hy:=hy.below' hb3;have hw3:=bth hw2 hb3;have hs3:=hb3.size;have z0:=hx.cell 0;clear hV;go_wp2_with fail;refine (CF.out a3 c3 _).mono ?_;rintro e w4 ⟨rfl,hb4⟩;replace hy:=hy.below' hb4;have hw4:=bth hw3 hb4;clear z0 hx
  obtain ⟨z0,z1⟩:=cq2 hy;obtain ⟨f0,f1⟩:=fq2 hy;go_wp2;have hF:=blk2 (x:=.bool R) (y:=.slice a3 (limbs n).length c3) hy;obtain ⟨e0,e1⟩:=cq2 hF;refine bodyPost_ret (v:=.agg #[.bool R,.slice a3 (limbs n).length c3]) (by simp [results,Tryz.results240,go_sem,e0,e1]) rfl ?_;exact ⟨a3,c3,rfl,fun V hV=>HV.out V ((back2 hV hw2.size (show g3<w2.heap.size by omega)).below hb4),qbr hw4 (by omega)⟩
 ·
  have CS:=fun W (hW:Below w.heap.size w W)=>qm8 l m n1 n2 a a' c c' W (h.ext (xbw hW)) (h'.ext (xbw hW)) hn hk (by omega) (by omega) (by omega)
  have CF:=fun a c W=>qea neg1 (n1-n2) a c W
  refine Calls.mono ?_ fun _ _=>qe7 (hsum.1 (by omega))
  have hc:0<=cmpN n1 n2:=qj6.2 (by omega);revert CC hc;generalize cmpN n1 n2=q;intro CC hc;have hq:¬ q<0:=by omega
  obtain ⟨R,hR⟩:∃ q,(neg1&&decide (0<n1-n2))=q:=⟨_,rfl⟩
  rw [hR] at CF ⊢;unfold RetNE at CS;revert CS CF;generalize n1-n2=n;intro CS CF;replace CC:=Hd CC;replace CS:=Hd CS;replace CF:=Hd CF;clear h h' hn hk hR hsum hne hc hlt;go_enter Tryz.func240,Tryz.ntmps240;go_wp2_with fail;refine qad (fun W=>Blk W w.heap.size 49 #[.bool neg1,.slice a l.length c]/\Blk W (w.heap.size+1) 49 #[.bool neg2,.slice a' m.length c']/\Blk W (w.heap.size+1+1) 49 #[.bool false,.slice none 0 0]/\Below w.heap.size w W/\w.heap.size<w.heap.size+1/\w.heap.size+1<w.heap.size+1+1/\w.heap.size+1+1<W.heap.size) ⟨((Blk.new w _ _).alloc _).alloc _,(qa4 w _ _ _).alloc _,qbv w _ _ _ _,by go_grown,by omega,by omega,by simp⟩ ?_;rintro w0 ⟨hx1,hx2,hz,hw0,hg1,hg2,hg3⟩;revert hx1 hx2 hz hg1 hg2 hg3;generalize w.heap.size+1+1=g3;generalize w.heap.size+1=g2;intro hx1 hx2 hz hg1 hg2 hg3;obtain ⟨z0,z1⟩:=cq2 hx1;obtain ⟨z2,z3⟩:=cq2 hx2;refine (CC.out _ hw0).mono ?_;rintro e w1 ⟨rfl,hb1⟩
  replace hx1:=hx1.below' hb1;replace hx2:=hx2.below' hb1;replace hz:=hz.below' hb1;have hw1:=bth hw0 hb1;have hs1:=hb1.size;clear z0 z1 z2 z3;obtain ⟨z0,z1⟩:=cq2 hx1;obtain ⟨z2,z3⟩:=cq2 hx2;go_wp2_with fail;refine (CS.out _ hw1).mono ?_;rintro e w3 ⟨a3,c3,rfl,hV,hb3⟩;have HV:=Hd hV;replace hx1:=hx1.below' hb3;replace hz:=hz.below' hb3;have hw3:=bth hw1 hb3;have hs3:=hb3.size;clear hV z0 z1 z2 z3 hx2;have z0:=hx1.cell 0;go_wp2_with fail;refine (CF.out a3 c3 _).mono ?_;rintro e w4 ⟨rfl,hb4⟩;replace hz:=hz.below' hb4;have hw4:=bth hw3 hb4;clear z0 hx1;obtain ⟨z0,z1⟩:=cq2 hz;obtain ⟨f0,f1⟩:=fq2 hz;go_wp2;have hF:=blk2 (x:=.bool R) (y:=.slice a3 (limbs n).length c3) hz;obtain ⟨e0,e1⟩:=cq2 hF;refine bodyPost_ret (v:=.agg #[.bool R,.slice a3 (limbs n).length c3]) (by simp [results,Tryz.results240,go_sem,e0,e1]) rfl ?_
  exact ⟨a3,c3,rfl,fun V hV=>HV.out V ((back2 hV hw1.size (show g3<w1.heap.size by omega)).below hb4),qbr hw4 (by omega)⟩
theorem qmy (neg1 neg2:Bool) (l m:List Int) (n1 n2:Nat) (a a':Option Addr) (c c':Nat) (w:World) (h:NatR w a c l) (h':NatR w a' c' m) (hn:val l=n1) (hk:val m=n2) (hl:l.length<=4000000) (hm:m.length<=4000000) :
  Calls Tryz.prog 240 #[.agg #[.bool neg1,.slice a l.length c],.agg #[.bool neg2,.slice a' m.length c']] w (RetI (zval neg1 n1+zval neg2 n2) w):=by
 by_cases hne:neg1=neg2
 ·
  subst hne;exact quy neg1 l m n1 n2 a a' c c' w h h' hn hk hl hm
 · exact qrv neg1 neg2 l m n1 n2 a a' c c' w h h' hn hk hl hm hne
theorem zz21 {P:Prop} (h:P:=by
 obtain ⟨z0,z1⟩:=cq2 hz;obtain ⟨f0,f1⟩:=fq2 hz;go_wp2;have hF:=blk2 (x:=.bool R) (y:=.slice a4 (limbs n).length c4) hz;obtain ⟨e0,e1⟩:=cq2 hF;refine bodyPost_ret (v:=.agg #[.bool R,.slice a4 (limbs n).length c4]) (by simp [results,Tryz.results244,go_sem,e0,e1]) rfl ?_;exact ⟨a4,c4,rfl,fun V hV=>HV.out V (back2 hV hw3.size (show g3<w3.heap.size by omega)),qbr hw4 (by omega)⟩
 ):P:=h
theorem qox (neg1 neg2:Bool) (l m:List Int) (n1 n2:Nat) (a a':Option Addr) (c c':Nat) (w:World) (h:NatR w a c l) (h':NatR w a' c' m) (hn:val l=n1) (hk:val m=n2) (hl:l.length<=4000000) (hm:m.length<=4000000) (hne:neg1≠neg2) :
  Calls Tryz.prog 244 #[.agg #[.bool neg1,.slice a l.length c],.agg #[.bool neg2,.slice a' m.length c']] w (RetI (zval neg1 n1+zval neg2 n2) w):=by
 have hsum:=qj1 hne n1 n2;have hbe:(neg1==neg2)=false:=by simpa using hne
 have hll:=qah h.u16;have hlm:=qah h'.u16;rw [hn] at hll;rw [hk] at hlm;by_cases hlt:n1<n2
 ·
  have hmono:=qap (show n2-n1<=n2 by omega);have CL:=fun W (hW:Below w.heap.size w W)=>qq7 l m n1 n2 a a' c c' W (h.ext (xbw hW)) (h'.ext (xbw hW)) hn hk (by omega) (by omega) hlt
  have CS:=fun W (hW:Below w.heap.size w W)=>qhj m l n2 n1 a' a c' c W (h'.ext (xbw hW)) (h.ext (xbw hW)) hk hn (by omega) (by omega) (by omega)
  have CF:=fun a c W h=>qds neg2 (limbs (n2-n1)) (n2-n1) a c W h (qaa _) (by omega)
  refine Calls.mono ?_ fun _ _=>qe7 (hsum.2 (by omega))
  obtain ⟨R,hR⟩:∃ q,(neg2&&decide (0<n2-n1))=q:=⟨_,rfl⟩
  rw [hR] at CF ⊢;unfold RetNE at CS CL;clear hmono;revert CS CF;generalize n2-n1=n;intro CS CF;replace CL:=Hd CL;replace CS:=Hd CS;replace CF:=Hd CF;clear h h' hn hk hR hsum hne hlt hll hlm;go_enter Tryz.func244,Tryz.ntmps244;go_wp2_with fail;refine qad (fun W=>Blk W w.heap.size 49 #[.bool neg1,.slice a l.length c]/\Blk W (w.heap.size+1) 49 #[.bool neg2,.slice a' m.length c']/\Blk W (w.heap.size+1+1) 49 #[.bool false,.slice none 0 0]/\Below w.heap.size w W/\w.heap.size<w.heap.size+1/\w.heap.size+1<w.heap.size+1+1/\w.heap.size+1+1<W.heap.size) ⟨((Blk.new w _ _).alloc _).alloc _,(qa4 w _ _ _).alloc _,qbv w _ _ _ _,by go_grown,by omega,by omega,by simp⟩ ?_;rintro w0 ⟨hx1,hx2,hz,hw0,hg1,hg2,hg3⟩;revert hx1 hx2 hz hg1 hg2 hg3;generalize w.heap.size+1+1=g3;generalize w.heap.size+1=g2;intro hx1 hx2 hz hg1 hg2 hg3;obtain ⟨z0,z1⟩:=cq2 hx1;obtain ⟨z2,z3⟩:=cq2 hx2;refine (CL.out _ hw0).mono ?_
  rintro e w1 ⟨a2,c2,rfl,_,hb1⟩;replace hx1:=hx1.below' hb1;replace hx2:=hx2.below' hb1;replace hz:=hz.below' hb1;have hw1:=bth hw0 hb1;have hs1:=hb1.size;clear z0 z1 z2 z3;obtain ⟨z0,z1⟩:=cq2 hx1;obtain ⟨z2,z3⟩:=cq2 hx2;go_wp2_with fail;refine (CS.out _ hw1).mono ?_;rintro e w3 ⟨a3,c3,rfl,hV,hb3⟩;have hr3:=hV w3 (New.refl _ _);replace hx2:=hx2.below' hb3;replace hz:=hz.below' hb3;have hw3:=bth hw1 hb3;have hs3:=hb3.size;clear hV z0 z1 z2 z3 hx1;have z0:=hx2.cell 0;have CG:=CF.out a3 c3 w3 hr3;replace CG:=Hd CG;clear hr3;go_wp2_with fail;refine CG.out.mono ?_;rintro e w4 ⟨a4,c4,rfl,hV,hb4⟩;have HV:=Hd hV;replace hz:=hz.below' hb4;have hw4:=bth hw3 hb4;clear z0 hx2 hV;exact zz21
 ·
  have hmono:=qap (show n1-n2<=n1 by omega);have CS:=fun W (hW:Below w.heap.size w W)=>qhj l m n1 n2 a a' c c' W (h.ext (xbw hW)) (h'.ext (xbw hW)) hn hk (by omega) (by omega) (by omega)
  have CF:=fun a c W h=>qds neg1 (limbs (n1-n2)) (n1-n2) a c W h (qaa _) (by omega)
  refine Calls.mono ?_ fun _ _=>qe7 (hsum.1 (by omega))
  obtain ⟨R,hR⟩:∃ q,(neg1&&decide (0<n1-n2))=q:=⟨_,rfl⟩
  rw [hR] at CF ⊢;unfold RetNE at CS;clear hmono;revert CS CF;generalize n1-n2=n;intro CS CF;replace CS:=Hd CS;replace CF:=Hd CF;clear h h' hn hk hR hsum hne hlt hll hlm;go_enter Tryz.func244,Tryz.ntmps244;go_wp2_with fail;refine qad (fun W=>Blk W w.heap.size 49 #[.bool neg1,.slice a l.length c]/\Blk W (w.heap.size+1) 49 #[.bool neg2,.slice a' m.length c']/\Blk W (w.heap.size+1+1) 49 #[.bool false,.slice none 0 0]/\Below w.heap.size w W/\w.heap.size<w.heap.size+1/\w.heap.size+1<w.heap.size+1+1/\w.heap.size+1+1<W.heap.size) ⟨((Blk.new w _ _).alloc _).alloc _,(qa4 w _ _ _).alloc _,qbv w _ _ _ _,by go_grown,by omega,by omega,by simp⟩ ?_;rintro w0 ⟨hx1,hx2,hz,hw0,hg1,hg2,hg3⟩;revert hx1 hx2 hz hg1 hg2 hg3;generalize w.heap.size+1+1=g3;generalize w.heap.size+1=g2;intro hx1 hx2 hz hg1 hg2 hg3;obtain ⟨z0,z1⟩:=cq2 hx1;obtain ⟨z2,z3⟩:=cq2 hx2;refine (CS.out _ hw0).mono ?_
  rintro e w3 ⟨a3,c3,rfl,hV,hb3⟩;have hr3:=hV w3 (New.refl _ _);replace hx1:=hx1.below' hb3;replace hz:=hz.below' hb3;have hw3:=bth hw0 hb3;have hs3:=hb3.size;clear hV z0 z1 z2 z3 hx2;have z0:=hx1.cell 0;have CG:=CF.out a3 c3 w3 hr3;replace CG:=Hd CG;clear hr3;go_wp2_with fail;refine CG.out.mono ?_;rintro e w4 ⟨a4,c4,rfl,hV,hb4⟩;have HV:=Hd hV;replace hz:=hz.below' hb4;have hw4:=bth hw3 hb4;clear z0 hx1 hV;exact zz21
theorem qsr (neg1 neg2:Bool) (l m:List Int) (n1 n2:Nat) (a a':Option Addr) (c c':Nat) (w:World) (h:NatR w a c l) (h':NatR w a' c' m) (hn:val l=n1) (hk:val m=n2) (hl:l.length<=4000000) (hm:m.length<=4000000) :
  Calls Tryz.prog 244 #[.agg #[.bool neg1,.slice a l.length c],.agg #[.bool neg2,.slice a' m.length c']] w (RetI (zval neg1 n1+zval neg2 n2) w):=by
 by_cases hne:neg1=neg2
 ·
  subst hne;exact qrs neg1 l m n1 n2 a a' c c' w h h' hn hk hl hm
 · exact qox neg1 neg2 l m n1 n2 a a' c c' w h h' hn hk hl hm hne
def RetQ (neg:Bool) (n d:Nat) (w:World) (e:Ending) (w':World):Prop:=∃ na nc da dc,e=.returned (.agg #[.bool neg,.slice na (limbs n).length nc,.slice da (limbs d).length dc]) /\
 (∀ V,New w.heap.size w' V->NatR V na nc (limbs n))/\(∀ V,New w.heap.size w' V->NatR V da dc (limbs d))/\Below w.heap.size w w'
theorem qui (neg:Bool) (l m:List Int) (a a':Option Addr) (c c':Nat) (w:World) (h':NatR w a' c' m) (hk:val m=0) (hm:m.length<=2000000) :
  Calls Tryz.prog 80 #[.agg #[.bool neg,.slice a l.length c],.slice a' m.length c'] w (RetQ false 0 1 w):=by
 have CN:=fun W (hW:Below w.heap.size w W)=>qbf m a' c' W (h'.ext (xbw hW)) (by omega)
 rw [hk,qal] at CN;have CO:=fun W=>qcv 1 W (by omega)
 replace CN:=Hd CN;replace CO:=Hd CO;have hz:Blk ((w.alloc (.cells #[.bool neg,.slice a l.length c] 49)).alloc (.cells #[.bool false,.slice none 0 0,.slice none 0 0] 51)) (w.heap.size+1) 51 #[.bool false,.slice none 0 0,.slice none 0 0]:=qa4 w _ _ _;have hb0:Below w.heap.size w ((w.alloc (.cells #[.bool neg,.slice a l.length c] 49)).alloc (.cells #[.bool false,.slice none 0 0,.slice none 0 0] 51)):=by go_grown
 have hgB:w.heap.size<=w.heap.size+1:=by omega
 unfold RetQ;rw [qal];clear h' hk;go_enter Tryz.func80,Tryz.ntmps80;go_wp2_with fail;have hgl:=hz.lt;revert hz hb0 hgB hgl;generalize (w.alloc (.cells #[.bool neg,.slice a l.length c] 49)).alloc (.cells #[.bool false,.slice none 0 0,.slice none 0 0] 51)=w0;generalize w.heap.size+1=g;intro hz hb0 hgB hgl;refine (CN.out _ hb0).mono ?_;rintro e w1 ⟨a3,c3,rfl,_,hb1⟩;have hw1:=bth hb0 hb1;have hz1:=hz.below' hb1;go_wp2_with fail;refine (CO.out _).mono ?_;rintro e w2 ⟨a1,c1,rfl,hV,hb2⟩;have hw2:=bth hw1 hb2;have hz2:=hz1.below' hb2;have hg1:=hz1.lt;have HV:=Hd hV;obtain ⟨z0,z1,z2⟩:=cq3 hz2;obtain ⟨f0,f1,f2⟩:=fq3 hz2;clear hV;go_wp2;have hF:=blk3 (x:=.bool false) (y:=.slice none 0 0) (z:=.slice a1 (limbs 1).length c1) hz2;obtain ⟨e0,e1,e2⟩:=cq3 hF;refine bodyPost_ret (v:=.agg #[.bool false,.slice none 0 0,.slice a1 (limbs 1).length c1]) (by simp [results,Tryz.results80,go_sem,e0,e1,e2]) rfl ?_
 exact ⟨none,0,a1,c1,rfl,fun _ _=>SlR.nil,fun V hV=>HV.out V (back3 hV hw1.size hg1),qbm hw2 hgB⟩
theorem qvi (neg:Bool) (l m:List Int) (n d:Nat) (a a':Option Addr) (c c':Nat) (w:World) (h:NatR w a c l) (h':NatR w a' c' m) (hn:val l=n) (hk:val m=d) (hl:l.length<=2000000) (hm:m.length<=2000000) (h0:0<d) :
  Calls Tryz.prog 80 #[.agg #[.bool neg,.slice a l.length c],.slice a' m.length c'] w (RetQ (neg&&decide (0<n / Nat.gcd n d)) (n / Nat.gcd n d) (d / Nat.gcd n d) w):=by
 have hll:=qah h.u16;have hlm:=qah h'.u16;rw [hn] at hll;rw [hk] at hlm;have hgp:0<Nat.gcd n d:=Nat.gcd_pos_of_pos_right n h0;have hgd:Nat.gcd n d<=d:=Nat.le_of_dvd h0 (Nat.gcd_dvd_right n d);have hgl0:=qap hgd;have hnl:=qap (Nat.div_le_self n (Nat.gcd n d));have CN:=fun W (hW:Below w.heap.size w W)=>qbf m a' c' W (h'.ext (xbw hW)) (by omega)
 rw [hk] at CN;have CG:=fun W (hW:Below w.heap.size w W)=>qli l m n d a a' c c' W (h.ext (xbw hW)) (h'.ext (xbw hW)) hn hk hl hm
 have CD1:=fun ag cg W (hW:Below w.heap.size w W) hr=>qfc l (limbs (Nat.gcd n d)) n (Nat.gcd n d) a ag c cg W (h.ext (xbw hW)) hr hn (qaa _) hl (by omega) hgp
 have CD2:=fun ag cg W (hW:Below w.heap.size w W) hr=>qfc m (limbs (Nat.gcd n d)) d (Nat.gcd n d) a' ag c' cg W (h'.ext (xbw hW)) hr hk (qaa _) hm (by omega) hgp
 have CZ:=fun ag cg W hr=>qi9 neg (limbs (n / Nat.gcd n d)) (n / Nat.gcd n d) ag cg W hr (qaa _) (by omega)
 have hne:(((limbs d).length:Int)==0)=false:=by rw [beq_eq_false_iff_ne];have:=qar.2 h0;omega
 obtain ⟨R,hR⟩:∃ q,(neg&&decide (0<n / Nat.gcd n d))=q:=⟨_,rfl⟩
 rw [hR] at CZ ⊢;unfold RetDM at CD1 CD2;obtain ⟨gg,hgg⟩:∃ q,Nat.gcd n d=q:=⟨_,rfl⟩
 simp only [hgg] at CG CD1 CD2 CZ ⊢;obtain ⟨N,hN⟩:∃ q,n / gg=q:=⟨_,rfl⟩
 obtain ⟨D,hD⟩:∃ q,d / gg=q:=⟨_,rfl⟩
 simp only [hN] at CD1 CZ ⊢;simp only [hD] at CD2 ⊢;replace CN:=Hd CN;replace CG:=Hd CG;replace CD1:=Hd CD1;replace CD2:=Hd CD2;replace CZ:=Hd CZ;have hz:Blk ((w.alloc (.cells #[.bool neg,.slice a l.length c] 49)).alloc (.cells #[.bool false,.slice none 0 0,.slice none 0 0] 51)) (w.heap.size+1) 51 #[.bool false,.slice none 0 0,.slice none 0 0]:=qa4 w _ _ _;have hx:Blk ((w.alloc (.cells #[.bool neg,.slice a l.length c] 49)).alloc (.cells #[.bool false,.slice none 0 0,.slice none 0 0] 51)) w.heap.size 49 #[.bool neg,.slice a l.length c]:=(Blk.new w _ _).alloc _;have hb0:Below w.heap.size w ((w.alloc (.cells #[.bool neg,.slice a l.length c] 49)).alloc (.cells #[.bool false,.slice none 0 0,.slice none 0 0] 51)):=by go_grown
 have hgB:w.heap.size<=w.heap.size+1:=by omega
 clear h h' hn hk hll hlm hgp hgd hgl0 hnl hR hgg hN hD;go_enter Tryz.func80,Tryz.ntmps80;go_wp2_with fail;have hgl:=hz.lt;revert hz hx hb0 hgB hgl;generalize (w.alloc (.cells #[.bool neg,.slice a l.length c] 49)).alloc (.cells #[.bool false,.slice none 0 0,.slice none 0 0] 51)=w0;generalize w.heap.size+1=g;intro hz hx hb0 hgB hgl;refine (CN.out _ hb0).mono ?_;rintro e w1 ⟨a3,c3,rfl,_,hb1⟩;have hw1:=bth hb0 hb1;have hx1:=hx.below' hb1;have hz1:=hz.below' hb1;obtain ⟨z0,z1⟩:=cq2 hx1;clear hz hx hb1 hgl;go_wp2_with fail;refine (CG.out _ hw1).mono ?_;rintro e w2 ⟨a4,c4,rfl,hV4,hb2⟩;have hw2:=bth hw1 hb2;have hx2:=hx1.below' hb2;have hz2:=hz1.below' hb2;have hr4:=hV4 w2 (New.refl _ _);have CE1:=CD1.out a4 c4 w2 hw2 hr4;replace CE1:=Hd CE1;clear z0 z1 hV4 hx1 hz1;obtain ⟨z0,z1⟩:=cq2 hx2;go_wp2_with fail;refine CE1.out.mono ?_;rintro e w3 ⟨a5,c5,_,_,rfl,hV5,_,hb3⟩;have hw3:=bth hw2 hb3
 have hx3:=hx2.below' hb3;have hz3:=hz2.below' hb3;have hg3:=hz3.lt;have HV5:=Hd hV5;have CE2:=CD2.out a4 c4 w3 hw3 (hr4.ext (xbw hb3));replace CE2:=Hd CE2;clear z0 z1 hV5 hx2 hz2 hr4 CE1;obtain ⟨z0,z1⟩:=cq2 hx3;go_wp2_with fail;refine CE2.out.mono ?_;rintro e w4 ⟨a6,c6,_,_,rfl,hV6,_,hb4⟩;have hw4:=bth hw3 hb4;have hx4:=hx3.below' hb4;have hz4:=hz3.below' hb4;have HV6:=Hd hV6;have CF:=CZ.out a5 c5 w4 (HV5.out w4 ((New.refl _ _).below hb4));replace CF:=Hd CF;clear z0 z1 hV6 hx3 hz3 CE2;obtain ⟨z0,z1⟩:=cq2 hx4;go_wp2_with fail;refine CF.out.mono ?_;rintro e w5 ⟨a7,c7,rfl,hV7,hb5⟩;have hw5:=bth hw4 hb5;have hz5:=hz4.below' hb5;have HV7:=Hd hV7;have hg4:=hz4.lt;clear z0 z1 hV7 hx4 CF;obtain ⟨z0,z1,z2⟩:=cq3 hz5;obtain ⟨f0,f1,f2⟩:=fq3 hz5;go_wp2;have hF:=blk3 (x:=.bool R) (y:=.slice a7 (limbs N).length c7) (z:=.slice a6 (limbs D).length c6) hz5;obtain ⟨e0,e1,e2⟩:=cq3 hF
 refine bodyPost_ret (v:=.agg #[.bool R,.slice a7 (limbs N).length c7,.slice a6 (limbs D).length c6]) (by simp [results,Tryz.results80,go_sem,e0,e1,e2]) rfl ?_;exact ⟨a7,c7,a6,c6,rfl,fun V hV=>HV7.out V (back3 hV hw4.size hg4),fun V hV=>HV6.out V ((back3 hV hw3.size hg3).below hb5),qbm hw5 hgB⟩
def qao (neg:Bool) (n d:Nat):Bool × Nat × Nat:=if d=0 then (false,0,1) else (neg&&decide (0<n / Nat.gcd n d),n / Nat.gcd n d,d / Nat.gcd n d)
def RetF (t:Bool × Nat × Nat) (w:World) (e:Ending) (w':World):Prop:=RetQ t.1 t.2.1 t.2.2 w e w'
theorem qgu (neg:Bool) (l m:List Int) (n d:Nat) (a a':Option Addr) (c c':Nat) (w:World) (h:NatR w a c l) (h':NatR w a' c' m) (hn:val l=n) (hk:val m=d) (hl:l.length<=2000000) (hm:m.length<=2000000) :
  Calls Tryz.prog 80 #[.agg #[.bool neg,.slice a l.length c],.slice a' m.length c'] w (RetF (qao neg n d) w):=by
 unfold RetF qao;by_cases h0:d=0
 ·
  rw [if_pos h0];exact qui neg l m a a' c c' w h' (by rw [hk,h0]) hm
 ·
  rw [if_neg h0];exact qvi neg l m n d a a' c c' w h h' hn hk hl hm (by omega)
theorem qey (neg:Bool) (l m:List Int) (n d:Nat) (a a':Option Addr) (c c':Nat) (w:World) (h:NatR w a c l) (h':NatR w a' c' m) (hn:val l=n) (hk:val m=d) (hl:l.length<=2000000) (hm:m.length<=2000000) :
  Calls Tryz.prog 72 #[.agg #[.bool neg,.slice a l.length c,.slice a' m.length c']] w (RetF (qao neg n d) w):=by
 have CO:=fun W (hW:Below w.heap.size w W)=>qgu neg l m n d a a' c c' W (h.ext (xbw hW)) (h'.ext (xbw hW)) hn hk hl hm
 obtain ⟨t,ht⟩:∃ t,qao neg n d=t:=⟨_,rfl⟩
 rw [ht] at CO ⊢;obtain ⟨s,N,D⟩:=t;unfold RetF at CO ⊢;dsimp only at CO ⊢;replace CO:=Hd CO;have hz:Blk ((w.alloc (.cells #[.bool neg,.slice a l.length c,.slice a' m.length c'] 51)).alloc (.cells #[.bool false,.slice none 0 0,.slice none 0 0] 51)) (w.heap.size+1) 51 #[.bool false,.slice none 0 0,.slice none 0 0]:=qa4 w _ _ _;have hb0:Below w.heap.size w ((w.alloc (.cells #[.bool neg,.slice a l.length c,.slice a' m.length c'] 51)).alloc (.cells #[.bool false,.slice none 0 0,.slice none 0 0] 51)):=by go_grown
 have hgB:w.heap.size<=w.heap.size+1:=by omega
 have hgl:=hz.lt;clear h h' hn hk ht;go_enter Tryz.func72,Tryz.ntmps72;go_wp2_with fail;revert hz hb0 hgB hgl;generalize (w.alloc (.cells #[.bool neg,.slice a l.length c,.slice a' m.length c'] 51)).alloc (.cells #[.bool false,.slice none 0 0,.slice none 0 0] 51)=w0;generalize w.heap.size+1=g;intro hz hb0 hgB hgl;refine (CO.out _ hb0).mono ?_;rintro e w1 ⟨a1,c1,a2,c2,rfl,hV1,hV2,hb1⟩;have hw1:=bth hb0 hb1;have hz1:=hz.below' hb1;have HV1:=Hd hV1;have HV2:=Hd hV2;obtain ⟨z0,z1,z2⟩:=cq3 hz1;obtain ⟨f0,f1,f2⟩:=fq3 hz1;have hs0:=hb0.size;clear hV1 hV2 hb0;go_wp2;have hF:=blk3 (x:=.bool s) (y:=.slice a1 (limbs N).length c1) (z:=.slice a2 (limbs D).length c2) hz1;obtain ⟨e0,e1,e2⟩:=cq3 hF;refine bodyPost_ret (v:=.agg #[.bool s,.slice a1 (limbs N).length c1,.slice a2 (limbs D).length c2]) (by simp [results,Tryz.results72,go_sem,e0,e1,e2]) rfl ?_
 exact ⟨a1,c1,a2,c2,rfl,fun V hV=>HV1.out V (back3 hV hs0 hgl),fun V hV=>HV2.out V (back3 hV hs0 hgl),qbm hw1 hgB⟩
theorem qjb (neg:Bool) (n d:Nat):qao (neg&&decide (0<n)) n d=qao neg n d:=by
 unfold qao
 split
 · rfl
 ·
  next h0 =>
  by_cases hn:n=0
  ·
   subst hn;simp
  ·
   have:decide (0<n)=true:=by rw [decide_eq_true_eq];omega
   rw [this,Bool.and_true]
def RetM (t:Bool × Nat × Nat) (w:World) (e:Ending) (w':World):Prop:=∃ na nc da dc,e=.returned (.tuple #[.agg #[.bool t.1,.slice na (limbs t.2.1).length nc,.slice da (limbs t.2.2).length dc],.int .i64 0]) /\
 (∀ V,New w.heap.size w' V->NatR V na nc (limbs t.2.1))/\(∀ V,New w.heap.size w' V->NatR V da dc (limbs t.2.2))/\Below w.heap.size w w'
theorem qlq (n:Nat) (a:Option Addr) (c:Nat) (w:World) :
  Calls Tryz.prog 204 #[.slice a n c] w fun e w'=>e=.returned (.agg #[.bool false,.slice a n c])/\Below w.heap.size w w':=by
 go_enter Tryz.func204,Tryz.ntmps204;go_wp2;have hF:=Blk.new w 49 #[.bool false,.slice a n c];obtain ⟨e0,e1⟩:=cq2 hF;refine bodyPost_ret (v:=.agg #[.bool false,.slice a n c]) (by simp [results,Tryz.results204,go_sem]) rfl ?_;exact ⟨rfl,brf.alloc (nlr _) _⟩
theorem qt4 {z:Int} (hi:InInt z):(limbs z.natAbs).length<=4:=by
 obtain ⟨h1,h2⟩:=hi;have:(65536:Nat) ^ 4=18446744073709551616:=by decide
 exact qan (by omega)
theorem qht (z:Int) (w:World) (hi:InInt z) :
  Calls Tryz.prog 38 #[.int .i64 z] w (RetF (qao (decide (z<0)) z.natAbs 1) w):=by
 have hl4:=qt4 hi;have hl1:(limbs 1).length<=4:=qan (by decide);have CZ:=fun W=>qt1 z W hi
 have C1:=fun W=>qcv 1 W (by omega)
 have CO:=fun a a' c c' W h h'=>qgu (decide (z<0)) (limbs z.natAbs) (limbs 1) z.natAbs 1 a a' c c' W h h' (qaa _) (qaa _) (by omega) (by omega)
 obtain ⟨t,ht⟩:∃ t,qao (decide (z<0)) z.natAbs 1=t:=⟨_,rfl⟩
 obtain ⟨ng,hng⟩:∃ q,decide (z<0)=q:=⟨_,rfl⟩
 obtain ⟨nz,hnz⟩:∃ q,z.natAbs=q:=⟨_,rfl⟩
 rw [ht] at CO ⊢;simp only [hng,hnz] at CO CZ;obtain ⟨s,N,D⟩:=t;unfold RetF at CO ⊢;dsimp only at CO ⊢;replace CZ:=Hd CZ;replace C1:=Hd C1;replace CO:=Hd CO;have hz:Blk (w.alloc (.cells #[.bool false,.slice none 0 0,.slice none 0 0] 51)) w.heap.size 51 #[.bool false,.slice none 0 0,.slice none 0 0]:=Blk.new w _ _;have hb0:Below w.heap.size w (w.alloc (.cells #[.bool false,.slice none 0 0,.slice none 0 0] 51)):=brf.alloc (nlr _) _;clear ht hng hnz hl4 hl1;go_enter Tryz.func38,Tryz.ntmps38;go_wp2_with fail;revert hz hb0;generalize w.alloc (.cells #[.bool false,.slice none 0 0,.slice none 0 0] 51)=w0;intro hz hb0;refine (CZ.out _).mono ?_;rintro e w1 ⟨a1,c1,rfl,hV1,hb1⟩;have hw1:=bth hb0 hb1;have hz1:=hz.below' hb1;have HV1:=Hd hV1;clear hV1;go_wp2_with fail;refine (C1.out _).mono ?_;rintro e w2 ⟨a2,c2,rfl,hV2,hb2⟩;have hw2:=bth hw1 hb2;have hz2:=hz1.below' hb2
 have CF:=CO.out a1 a2 c1 c2 w2 (HV1.out w2 ((New.refl _ _).below hb2)) (hV2 w2 (New.refl _ _));replace CF:=Hd CF;clear hV2;go_wp2_with fail;refine CF.out.mono ?_;rintro e w3 ⟨a3,c3,a4,c4,rfl,hV3,hV4,hb3⟩;have hw3:=bth hw2 hb3;have hz3:=hz2.below' hb3;have HV3:=Hd hV3;have HV4:=Hd hV4;have hs2:=hw2.size;have hgl2:=hz2.lt;obtain ⟨z0,z1,z2⟩:=cq3 hz3;obtain ⟨f0,f1,f2⟩:=fq3 hz3;clear hV3 hV4;go_wp2;have hF:=blk3 (x:=.bool s) (y:=.slice a3 (limbs N).length c3) (z:=.slice a4 (limbs D).length c4) hz3;obtain ⟨e0,e1,e2⟩:=cq3 hF;refine bodyPost_ret (v:=.agg #[.bool s,.slice a3 (limbs N).length c3,.slice a4 (limbs D).length c4]) (by simp [results,Tryz.results38,go_sem,e0,e1,e2]) rfl ?_;exact ⟨a3,c3,a4,c4,rfl,fun V hV=>HV3.out V (back3 hV hs2 hgl2),fun V hV=>HV4.out V (back3 hV hs2 hgl2),qbm hw3 (nlr _)⟩
theorem qiv (neg:Bool) (n:Nat):zval (neg&&decide (0<n)) n=zval neg n:=by
 by_cases hn:n=0
 ·
  subst hn;simp [zval]
 ·
  have:decide (0<n)=true:=by rw [decide_eq_true_eq];omega
  rw [this,Bool.and_true]
theorem qgs (neg:Bool) (n d:Nat):(qao neg n d).2.1<=n:=by
 unfold qao
 split
 · exact Nat.zero_le _
 · exact Nat.div_le_self _ _
theorem qjx (neg:Bool) (n d:Nat):(qao neg n d).2.2<=d+1:=by
 unfold qao
 split
 · show 1<=d+1;omega
 · exact Nat.le_succ_of_le (Nat.div_le_self _ _)
theorem qkp (neg:Bool) (n d:Nat):0<(qao neg n d).2.2:=by
 unfold qao
 split
 · decide
 · next h0=>exact Nat.div_pos (Nat.le_of_dvd (by omega) (Nat.gcd_dvd_right n d)) (Nat.gcd_pos_of_pos_right n (by omega))
theorem qgk (d:Nat):(limbs (d+1)).length<=(limbs d).length+1:=by
 apply qan;have:=qa1 d;rw [Nat.pow_succ];have h1:0<65536 ^ (limbs d).length:=Nat.pow_pos (by decide)
 omega
theorem qup:limbs 1=[1]:=by rw [qbu (by omega)];simp [qal]
theorem qnv (w:World):Calls Tryz.prog 137 #[] w (RetN (limbs 1) w):=by
 rw [qup];go_enter Tryz.func137,Tryz.ntmps137;go_wp2;go_ret;refine ⟨some ⟨w.heap.size,0,none⟩,1,rfl,fun V hV=>?_,brf.alloc (nlr _) _⟩;exact BlkN.readsV (l:=[1]) (B:=w.heap.size) (Blk.new w _ _) (nlr _) hV (by intro x hx;simp at hx;omega) (by simp) (by simp [maxLen])
theorem qby (neg:Bool) (l m:List Int) (a a':Option Addr) (c c':Nat) (w:World) (h':NatR w a' c' m) (h0:val m≠0) (hm:m.length<=16777216) :
  Calls Tryz.prog 66 #[.agg #[.bool neg,.slice a l.length c,.slice a' m.length c']] w fun e w' =>
   e=.returned (.tuple #[.agg #[.bool neg,.slice a l.length c],.slice a' m.length c'])/\Below w.heap.size w w':=by
 have CB:=fun W (hW:Below w.heap.size w W)=>qmq m (val m) a' c' W (h'.ext (xbw hW)) rfl hm
 replace CB:=Hd CB;have hx:Blk ((w.alloc (.cells #[.bool neg,.slice a l.length c,.slice a' m.length c'] 51)).alloc (.cells #[.bool false,.slice none 0 0] 49)) w.heap.size 51 #[.bool neg,.slice a l.length c,.slice a' m.length c']:=(Blk.new w _ _).alloc _;have hz:Blk ((w.alloc (.cells #[.bool neg,.slice a l.length c,.slice a' m.length c'] 51)).alloc (.cells #[.bool false,.slice none 0 0] 49)) (w.heap.size+1) 49 #[.bool false,.slice none 0 0]:=qa4 w _ _ _;have hb0:Below w.heap.size w ((w.alloc (.cells #[.bool neg,.slice a l.length c,.slice a' m.length c'] 51)).alloc (.cells #[.bool false,.slice none 0 0] 49)):=by go_grown
 have hgB:w.heap.size<w.heap.size+1:=by omega
 have hgl:=hz.lt;clear h';go_enter Tryz.func66,Tryz.ntmps66;go_wp2_with fail;revert hx hz hb0 hgB hgl;generalize (w.alloc (.cells #[.bool neg,.slice a l.length c,.slice a' m.length c'] 51)).alloc (.cells #[.bool false,.slice none 0 0] 49)=w0;generalize w.heap.size+1=g;intro hx hz hb0 hgB hgl;obtain ⟨z0,z1,z2⟩:=cq3 hx;go_wp2_with fail;refine (CB.out _ hb0).mono ?_;rintro e w1 ⟨b,rfl,hb,rfl⟩;have e0:((b:Int)==0)=false:=by rw [beq_eq_false_iff_ne];have:=hb.out.2.1 (by omega);omega
 clear hb h0;obtain ⟨y0,y1⟩:=cq2 hz;obtain ⟨f0,f1⟩:=fq2 hz;have k0:∀ W,Blk W w.heap.size 51 #[.bool neg,.slice a l.length c,.slice a' m.length c']->W.cell? ⟨w.heap.size,0,none⟩=some (.bool neg):=fun W h=>h.cell 0
 have k1:∀ W,Blk W w.heap.size 51 #[.bool neg,.slice a l.length c,.slice a' m.length c']->W.cell? ⟨w.heap.size,1,none⟩=some (.slice a l.length c):=fun W h=>h.cell 1
 have k2:∀ W,Blk W w.heap.size 51 #[.bool neg,.slice a l.length c,.slice a' m.length c']->W.cell? ⟨w.heap.size,2,none⟩=some (.slice a' m.length c'):=fun W h=>h.cell 2
 have s0:=hx.drew;have hne:¬ w.heap.size=g:=by omega
 go_wp2;refine wrx (S:=(fun W=>Blk W w.heap.size 51 #[.bool neg,.slice a l.length c,.slice a' m.length c'])) [(0,.q),(1,.q),(2,.q),(3,.q),(4,.l),(5,.p)] (s0) ?_
 iterate 4 (refine qaj rfl rfl fun K hK=>xq ?_;go_simp;refine hK _ _ ?_;clear hK K)
 refine qag rfl rfl (fun K hK=>?_);go_simp;refine hK.out _ _ (((hx.far (p:=⟨g,0,none⟩) hne (.bool neg)).far (p:=⟨g,1,none⟩) hne (.slice a l.length c)).drew) (fun _=>?_);clear hK K
 iterate 1 (refine qaz rfl rfl fun K hK=>xp ?_;go_simp;refine hK _ _ ?_;clear hK K)
 refine qai ?_;go_wp2;have hF:=(blk2 (x:=.bool neg) (y:=.slice a l.length c) hz).drew;obtain ⟨q0,q1⟩:=cq2 hF;refine bodyPost_ret (v:=.tuple #[.agg #[.bool neg,.slice a l.length c],.slice a' m.length c']) (by simp [results,Tryz.results66,go_sem,q0,q1]) rfl ?_;exact ⟨rfl,(qbr hb0 (Nat.le_of_lt hgB)).drew⟩
theorem qik {neg:Bool} {n d:Nat} (hn:n≠0) (hd:d≠0):qao neg n d=(neg,n / Nat.gcd n d,d / Nat.gcd n d):=by
 unfold qao;rw [if_neg hd];have h1:0<Nat.gcd n d:=Nat.gcd_pos_of_pos_right n (by omega);have h2:0<n / Nat.gcd n d:=Nat.div_pos (Nat.le_of_dvd (by omega) (Nat.gcd_dvd_left n d)) h1;have h3:decide (0<n / Nat.gcd n d)=true:=by rw [decide_eq_true_eq];exact h2
 rw [h3,Bool.and_true]
theorem qgp {neg:Bool} {n d:Nat} (hn:n≠0) (hd:d≠0) (hg:Nat.gcd n d=1):qao neg n d=(neg,n,d):=by
 rw [qik hn hd,hg,Nat.div_one,Nat.div_one]
theorem qrq (neg:Bool) (n:Nat):qao neg n 0=(false,0,1):=by simp [qao]
theorem qo0 (neg:Bool) {d:Nat} (hd:d≠0):qao neg 0 d=(false,0,1):=by
 unfold qao;rw [if_neg hd];simp;exact Nat.div_self (by omega)
theorem zz22 {P:Prop} (h:P:=by
 have hz:Blk ((w.alloc (.cells #[.bool neg,.slice a l.length c] 49)).alloc (.cells #[.bool false,.slice none 0 0,.slice none 0 0] 51)) (w.heap.size+1) 51 #[.bool false,.slice none 0 0,.slice none 0 0]:=qa4 w _ _ _;have hx:Blk ((w.alloc (.cells #[.bool neg,.slice a l.length c] 49)).alloc (.cells #[.bool false,.slice none 0 0,.slice none 0 0] 51)) w.heap.size 49 #[.bool neg,.slice a l.length c]:=(Blk.new w _ _).alloc _;have hb0:Below w.heap.size w ((w.alloc (.cells #[.bool neg,.slice a l.length c] 49)).alloc (.cells #[.bool false,.slice none 0 0,.slice none 0 0] 51)):=by go_grown
 have hgB:w.heap.size<w.heap.size+1:=by omega
 have hgl:=hz.lt;clear h h' hn hk;go_enter Tryz.func67,Tryz.ntmps67;go_wp2_with fail;revert hz hx hb0 hgB hgl;generalize (w.alloc (.cells #[.bool neg,.slice a l.length c] 49)).alloc (.cells #[.bool false,.slice none 0 0,.slice none 0 0] 51)=w0;generalize w.heap.size+1=g;intro hz hx hb0 hgB hgl;refine (CN.out _ hb0).mono ?_;rintro e w1 ⟨a2,c2,rfl,hV2,hb1⟩;have hw1:=bth hb0 hb1;have hx1:=hx.below' hb1;have hz1:=hz.below' hb1;have HV2:=Hd hV2;obtain ⟨z0,z1⟩:=cq2 hx1;have hs1:=hb1.size;clear hz hx hV2;go_wp2_with fail;refine (CZ.out _ hw1).mono ?_;rintro e w2 ⟨a1,c1,rfl,hV1,hb2⟩;have hw2:=bth hw1 hb2;have hx2:=hx1.below' hb2;have hz2:=hz1.below' hb2;have HV1:=Hd hV1;have hne:¬ g=w.heap.size:=by omega
 have hxl:w.heap.size<w0.heap.size:=by omega
 have hs0:=hb0.size;have hxS:=blk2 (x:=.bool p) (y:=.slice a1 (limbs n).length c1) hx2;have hzS:=(hz2.far (p:=⟨w.heap.size,0,none⟩) hne (.bool p)).far (p:=⟨w.heap.size,1,none⟩) hne (.slice a1 (limbs n).length c1);have hwS:=qbr (g:=w.heap.size) (x:=.bool p) (y:=.slice a1 (limbs n).length c1) hw2 (nlr _);have K1:∀ V,New w0.heap.size ((w2.setCell ⟨w.heap.size,0,none⟩ (.bool p)).setCell ⟨w.heap.size,1,none⟩ (.slice a1 (limbs n).length c1)) V->NatR V a1 c1 (limbs n):=fun V hV=>HV1.out V ((back2 hV (nlr _) hxl).base hs1)
 have K2:∀ V,New w0.heap.size ((w2.setCell ⟨w.heap.size,0,none⟩ (.bool p)).setCell ⟨w.heap.size,1,none⟩ (.slice a1 (limbs n).length c1)) V->NatR V a2 c2 (limbs d):=fun V hV=>HV2.out V ((back2 hV (nlr _) hxl).below hb2)
 clear z0 z1 hV1 hx1 hz1 HV1 HV2 CN CZ;obtain ⟨z0,z1⟩:=cq2 hx2;obtain ⟨f0,f1⟩:=fq2 hx2;obtain ⟨y0,y1,y2⟩:=cq3 hz2;obtain ⟨yf0,yf1,yf2⟩:=fq3 hz2;have hbS:=hwS.size;replace hs1:=hw2.size;clear hx2 hz2 hw2 hb2 hw1 hb1 hb0;go_wp2_with fail;revert hxS hzS hwS K1 K2 hbS;generalize (w2.setCell ⟨w.heap.size,0,none⟩ (.bool p)).setCell ⟨w.heap.size,1,none⟩ (.slice a1 (limbs n).length c1)=wS;intro hxS hzS hwS K1 K2 hbS;refine (CU.out _).mono ?_;rintro e w3 ⟨a5,c5,rfl,hV5,hb3⟩;have hw3:=bth hwS hb3;have hz3:=hzS.below' hb3;have HV5:=Hd hV5;have hs3:=hwS.size;have hgl3:=hzS.lt;clear hV5 z0 z1 f0 f1 y0 y1 y2 yf0 yf1 yf2 hxS hzS K1 K2;obtain ⟨y0,y1,y2⟩:=cq3 hz3;obtain ⟨yf0,yf1,yf2⟩:=fq3 hz3;go_wp2;have hF:=blk3 (x:=.bool false) (y:=.slice none 0 0) (z:=.slice a5 (limbs 1).length c5) hz3;obtain ⟨e0,e1,e2⟩:=cq3 hF
 refine bodyPost_ret (v:=.agg #[.bool false,.slice none 0 0,.slice a5 (limbs 1).length c5]) (by simp [results,Tryz.results67,go_sem,e0,e1,e2]) rfl ?_;exact ⟨none,0,a5,c5,rfl,fun _ _=>SlR.nil,fun V hV=>HV5.out V (back3 hV hs3 hgl3),qbm hw3 (Nat.le_of_lt hgB)⟩
 ):P:=h
theorem qh9 (neg:Bool) (l m:List Int) (n d:Nat) (a a':Option Addr) (c c':Nat) (w:World) (h:NatR w a c l) (h':NatR w a' c' m) (hn:val l=n) (hk:val m=d) (hl:l.length<=2000000) (hm:m.length<=2000000) (h0:d=0\/n=0) :
  Calls Tryz.prog 67 #[.agg #[.bool neg,.slice a l.length c],.slice a' m.length c'] w (RetF (false,0,1) w):=by
 have CN:=fun W (hW:Below w.heap.size w W)=>qc2 m a' c' W (h'.ext (xbw hW)) (by omega)
 rw [hk] at CN;have CZ:=fun W (hW:Below w.heap.size w W)=>qfw neg l n a c W (h.ext (xbw hW)) hn (by omega)
 obtain ⟨p,hp⟩:∃ q,(neg&&decide (0<n))=q:=⟨_,rfl⟩
 rw [hp] at CZ;have CU:=fun W=>qnv W
 replace CN:=Hd CN;replace CZ:=Hd CZ;replace CU:=Hd CU;unfold RetF RetQ;dsimp only;rw [qal];clear hp;by_cases hd:d=0
 ·
  have he1:(((limbs d).length:Int)==0)=true:=by rw [hd,qal];rfl
  clear hd h0;exact zz22
 ·
  have hn0:n=0:=by omega
  have he1:(((limbs d).length:Int)==0)=false:=by rw [beq_eq_false_iff_ne];have:=qar (n:=d);omega
  have he2:(((limbs n).length:Int)==0)=true:=by rw [hn0,qal];rfl
  clear hd h0 hn0;exact zz22
theorem qny (neg:Bool) (l m:List Int) (n d:Nat) (a a':Option Addr) (c c':Nat) (w:World) (h:NatR w a c l) (h':NatR w a' c' m) (hn:val l=n) (hk:val m=d) (hl:l.length<=2000000) (hm:m.length<=2000000) (h0:n≠0) (hd:d=1) :
  Calls Tryz.prog 67 #[.agg #[.bool neg,.slice a l.length c],.slice a' m.length c'] w (RetF (neg,n,d) w):=by
 have hd0:d≠0:=by omega
 have CN:=fun W (hW:Below w.heap.size w W)=>qc2 m a' c' W (h'.ext (xbw hW)) (by omega)
 rw [hk] at CN;have CZ:=fun W (hW:Below w.heap.size w W)=>qfw neg l n a c W (h.ext (xbw hW)) hn (by omega)
 have hp:(neg&&decide (0<n))=neg:=by rw [decide_eq_true (by omega:0<n),Bool.and_true]
 rw [hp] at CZ;have CO:=fun a2 c2 W (h2:NatR W a2 c2 (limbs d))=>qdj (limbs d) a2 c2 W h2
 rw [qc0] at CO;have he1:(((limbs d).length:Int)==0)=false:=by rw [beq_eq_false_iff_ne];have:=qar (n:=d);omega
 have he2:(((limbs n).length:Int)==0)=false:=by rw [beq_eq_false_iff_ne];have:=qar (n:=n);omega
 have ho:decide (d=1)=true:=by simp [hd]
 rw [ho] at CO;unfold RetF RetQ;dsimp only;replace CN:=Hd CN;replace CZ:=Hd CZ;replace CO:=Hd CO;clear hp ho h0 hd hd0;have hz:Blk ((w.alloc (.cells #[.bool neg,.slice a l.length c] 49)).alloc (.cells #[.bool false,.slice none 0 0,.slice none 0 0] 51)) (w.heap.size+1) 51 #[.bool false,.slice none 0 0,.slice none 0 0]:=qa4 w _ _ _;have hx:Blk ((w.alloc (.cells #[.bool neg,.slice a l.length c] 49)).alloc (.cells #[.bool false,.slice none 0 0,.slice none 0 0] 51)) w.heap.size 49 #[.bool neg,.slice a l.length c]:=(Blk.new w _ _).alloc _;have hb0:Below w.heap.size w ((w.alloc (.cells #[.bool neg,.slice a l.length c] 49)).alloc (.cells #[.bool false,.slice none 0 0,.slice none 0 0] 51)):=by go_grown
 have hgB:w.heap.size<w.heap.size+1:=by omega
 have hgl:=hz.lt;clear h h' hn hk;go_enter Tryz.func67,Tryz.ntmps67;go_wp2_with fail;revert hz hx hb0 hgB hgl;generalize (w.alloc (.cells #[.bool neg,.slice a l.length c] 49)).alloc (.cells #[.bool false,.slice none 0 0,.slice none 0 0] 51)=w0;generalize w.heap.size+1=g;intro hz hx hb0 hgB hgl;refine (CN.out _ hb0).mono ?_;rintro e w1 ⟨a2,c2,rfl,hV2,hb1⟩;have hw1:=bth hb0 hb1;have hx1:=hx.below' hb1;have hz1:=hz.below' hb1;have HV2:=Hd hV2;obtain ⟨z0,z1⟩:=cq2 hx1;have hs1:=hb1.size;clear hz hx hV2;go_wp2_with fail;refine (CZ.out _ hw1).mono ?_;rintro e w2 ⟨a1,c1,rfl,hV1,hb2⟩;have hw2:=bth hw1 hb2;have hx2:=hx1.below' hb2;have hz2:=hz1.below' hb2;have HV1:=Hd hV1;have hne:¬ g=w.heap.size:=by omega
 have hxl:w.heap.size<w0.heap.size:=by omega
 have hs0:=hb0.size;have hxS:=blk2 (x:=.bool neg) (y:=.slice a1 (limbs n).length c1) hx2;have hzS:=(hz2.far (p:=⟨w.heap.size,0,none⟩) hne (.bool neg)).far (p:=⟨w.heap.size,1,none⟩) hne (.slice a1 (limbs n).length c1);have hwS:=qbr (g:=w.heap.size) (x:=.bool neg) (y:=.slice a1 (limbs n).length c1) hw2 (nlr _);have K1:∀ V,New w0.heap.size ((w2.setCell ⟨w.heap.size,0,none⟩ (.bool neg)).setCell ⟨w.heap.size,1,none⟩ (.slice a1 (limbs n).length c1)) V->NatR V a1 c1 (limbs n):=fun V hV=>HV1.out V ((back2 hV (nlr _) hxl).base hs1)
 have K2:∀ V,New w0.heap.size ((w2.setCell ⟨w.heap.size,0,none⟩ (.bool neg)).setCell ⟨w.heap.size,1,none⟩ (.slice a1 (limbs n).length c1)) V->NatR V a2 c2 (limbs d):=fun V hV=>HV2.out V ((back2 hV (nlr _) hxl).below hb2)
 clear z0 z1 hV1 hx1 hz1 HV1 HV2 CN CZ;obtain ⟨z0,z1⟩:=cq2 hx2;obtain ⟨f0,f1⟩:=fq2 hx2;obtain ⟨y0,y1,y2⟩:=cq3 hz2;obtain ⟨yf0,yf1,yf2⟩:=fq3 hz2;have hbS:=hwS.size;replace hs1:=hw2.size;clear hx2 hz2 hw2 hb2 hw1 hb1 hb0;go_wp2_with fail;revert hxS hzS hwS K1 K2 hbS;generalize (w2.setCell ⟨w.heap.size,0,none⟩ (.bool neg)).setCell ⟨w.heap.size,1,none⟩ (.slice a1 (limbs n).length c1)=wS;intro hxS hzS hwS K1 K2 hbS;have CO2:=CO.out a2 c2 wS (K2 wS (New.refl _ _));replace CO2:=Hd CO2;replace K1:=Hd K1;replace K2:=Hd K2;refine CO2.out.mono ?_;rintro e w3 ⟨rfl,hb3⟩;have hw3:=bth hwS hb3;have hz3:=hzS.below' hb3;have hx3:=hxS.below' hb3;clear z0 z1 f0 f1 y0 y1 y2 yf0 yf1 yf2 hxS hzS CO2;obtain ⟨z0,z1⟩:=cq2 hx3;obtain ⟨y0,y1,y2⟩:=cq3 hz3;obtain ⟨yf0,yf1,yf2⟩:=fq3 hz3;go_wp2;have hF:=blk3 (x:=.bool neg) (y:=.slice a1 (limbs n).length c1) (z:=.slice a2 (limbs d).length c2) hz3
 obtain ⟨e0,e1,e2⟩:=cq3 hF;refine bodyPost_ret (v:=.agg #[.bool neg,.slice a1 (limbs n).length c1,.slice a2 (limbs d).length c2]) (by simp [results,Tryz.results67,go_sem,e0,e1,e2]) rfl ?_;exact ⟨a1,c1,a2,c2,rfl,fun V hV=>K1.out V ((back3 hV hs0 hgl).below (hb3)),fun V hV=>K2.out V ((back3 hV hs0 hgl).below hb3),qbm hw3 (Nat.le_of_lt hgB)⟩
end Go.Proofs.YtfaalkneigpcnaaGreatDoor
