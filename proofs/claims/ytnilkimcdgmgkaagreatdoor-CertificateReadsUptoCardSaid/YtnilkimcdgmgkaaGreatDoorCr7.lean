/- Walks: the program's rational numbers: unit, parts. -/
import Derived.Test.YtnilkimcdgmgkaaGreatDoorCr2
import Derived.Test.YtnilkimcdgmgkaaGreatDoorCr6
import Derived.Test.YtnilkimcdgmgkaaGreatDoorCr5
import Derived.Test.YtnilkimcdgmgkaaGreatDoorCr1
set_option linter.all false
set_option maxRecDepth 100000
set_option maxHeartbeats 4000000
namespace Go.Proofs.YtnilkimcdgmgkaaGreatDoor
open Go.RowKit
theorem zz19 {P:Prop} (h:P:=by
 go_wp2;go_roundg (gk-1)
 case rel=>exact ⟨j+1,1,O.set j (d:Int),by have:=HJG.out;omega,by omega,by go_num,rfl,by show _=_;rw [List.length_set];exact hol.out,hou.set_ (by omega),HSET.out d,hwr.setCell hw1s _,by show _=_;rw [HTK.out];exact HST.out⟩
 case measure=>have:=HJG.out;omega
 ):P:=h
theorem zz20 {P:Prop} (h:P:=by
 go_wp2;go_roundg (gk-1)
 case rel=>exact ⟨j+1,0,O.set j (d:Int),by have:=HJG.out;omega,by omega,by go_num,rfl,by show _=_;rw [List.length_set];exact hol.out,hou.set_ (by omega),HSET.out d,hwr.setCell hw1s _,by show _=_;rw [HTK.out];exact HST.out⟩
 case measure=>have:=HJG.out;omega
 ):P:=h
theorem qqj (l m:List Int) (n k:Nat) (a a':Option Addr) (c c':Nat) (w:World) (h:NatR w a c l) (h':NatR w a' c' m) (hn:val l=n) (hk:val m=k) (hl:l.length<=16777215) (hm:m.length<=16777216) (hge:k<=n) :
  Calls Tryz.prog 213 #[.slice a l.length c,.slice a' m.length c'] w (RetNE (limbs (n-k)) 0 w):=by
 have C:=qgd l m n k a a' c c' w h h' hn hk;have hc:0<=cmpN n k:=qna.2 hge;have C1:=fun W (hW:Below w.heap.size w W)=>qa1 l a c W (h.ext (xbw hW))
 have C2:=fun W (hW:Below w.heap.size w W)=>qa1 m a' c' W (h'.ext (xbw hW))
 have hP:=h.trim;have hQ:=h'.trim;have hl1:=qaf h.u16;have hl2:=qaf h'.u16;rw [hn] at C1 hP hl1;rw [hk] at C2 hQ hl2;have hup:=qa3 n;have huq:=qa3 k;have hvp:=qaa n;have hvq:=qaa k;revert C hc;generalize cmpN n k=q;intro C hc;have hcf:decide (q<0)=false:=by simp;omega
 obtain ⟨M,hM⟩:∃ M,n-k=M:=⟨_,rfl⟩
 rw [hM];have HM:=Hd hM;have HGE:=Hd hge;have hT0:(limbs n).length<=16777215:=by omega
 clear hl1 hl2 h h' hn hk hM hc hge;revert C1 C2 hP hQ hup huq hvp hvq hT0;generalize limbs n=T;generalize limbs k=U;intro C1 C2 hP hQ hup huq hvp hvq hT0;have HP:=Hd hP;have HQ:=Hd hQ;have HVP:=Hd hvp;have HVQ:=Hd hvq;replace C:=Hd C;replace C1:=Hd C1;replace C2:=Hd C2;clear hP hQ hvp hvq;go_enter Tryz.func213,Tryz.ntmps213;go_wp2_with fail;refine C.out.mono ?_;rintro e w1 ⟨rfl,hb1⟩;go_wp2_with fail;refine (C1.out _ hb1).mono ?_;rintro e w2 ⟨rfl,rfl⟩;go_wp2_with fail;refine (C2.out _ hb1).mono ?_;rintro e w2 ⟨rfl,rfl⟩;have hmk:=qcj .i64 T.length (by omega) w1;go_wp2;clear hmk C C1 C2 hcf;have hz:=BlkN.new w1 T.length;have hw1s:=hb1.size;have hb0:Below w.heap.size w (w1.alloc (.cells (madeCells #[.int .u16 0] T.length) 149)):=hb1.alloc hb1.size _;revert hz hb0;generalize w1.alloc (.cells (madeCells #[.int .u16 0] T.length) 149)=w0;obtain ⟨B,hB⟩:∃ B,B=w1.heap.size:=⟨_,rfl⟩
 rw [<- hB] at hw1s ⊢;clear hB;intro hz hb0
 go_loopg [7,8,9,10,24] T.length (fun g s7 _ _ _ s24 wr=>∃ (j bo:Nat) (O:List Int),j+g=T.length/\bo<=1/\s24=.int .i64 j/\s7=.int .i32 bo/\Hid (O.length=T.length)/\U16 O/\BlkN wr B O/\Below w.heap.size w wr /\
  Hid (val (T.take j)+65536 ^ j*bo=val (U.take j)+val (O.take j)))
 case atStart=>exact ⟨0,0,_,by omega,by omega,rfl,rfl,by show _=_;simp,qbr _,hz,hb0,by show _=_;simp [val]⟩
 case round =>
  clear hz hb0;obtain ⟨j,bo,O,hjg,hbo,rfl,rfl,hol,hou,hrow,hwr,hval⟩:=hrel;have HROW:=Hd hrow;have HJG:=Hd hjg;clear hrow hjg;by_cases hlt:j<T.length
  ·
   obtain ⟨x,hx⟩:=qad hlt;obtain ⟨hx0,hx1⟩:=hup.get hx;obtain ⟨bp,op,rfl,hcp⟩:=(HP.out.ext (xbw hwr)).cell hx;have hkO:j<O.length:=by rw [hol.out];exact hlt
   obtain ⟨z,hz⟩:=qad hkO;have hcell:=HROW.out.cell hz;have hfr:=HROW.out.frozen j;have hsx:=qau hx;have hset:=fun q:Int=>HROW.out.set_ j q
   have HSET:=Hd hset;have htk:=fun q:Int=>qfu hkO q
   have hstep:=fun bo2 d h1=>qre T U (O.take j) j bo bo2 d (by rw [List.length_take];omega) hval.out h1
   rw [hsx] at hstep;obtain ⟨y,rfl⟩:∃ y:Nat,x=(y:Int):=⟨x.toNat,by omega⟩
   rw [Int.toNat_natCast] at hstep;have HTK:=Hd htk;have HSTEP:=Hd hstep;clear hset hstep htk hval hx hsx hz;by_cases hkn:j<U.length
   ·
    obtain ⟨t,ht⟩:=qad hkn;obtain ⟨bq,oq,rfl,hcq⟩:=(HQ.out.ext (xbw hwr)).cell ht;obtain ⟨ht0,ht1⟩:=huq.get ht;obtain ⟨t,rfl⟩:∃ s:Nat,t=(s:Int):=⟨t.toNat,by omega⟩
    have HST:=HSTEP.out;rw [qau ht,Int.toNat_natCast] at HST;clear ht HSTEP;by_cases hneg:(y:Int)-bo-t<0
    ·
     obtain ⟨d,hd⟩:∃ d:Nat,(y:Int)-bo-t+65536=(d:Int):=⟨((y:Int)-bo-t+65536).toNat,by omega⟩
     have hd65:d<=65535:=by omega
     replace HST:=Hd (HST 1 d (by omega));exact zz19
    ·
     obtain ⟨d,hd⟩:∃ d:Nat,(y:Int)-bo-t=(d:Int):=⟨((y:Int)-bo-t).toNat,by omega⟩
     have hd65:d<=65535:=by omega
     replace HST:=Hd (HST 0 d (by omega));exact zz20
   ·
    have HST:=HSTEP.out;rw [qby (by omega)] at HST;clear HSTEP;by_cases hneg:(y:Int)-bo<0
    ·
     obtain ⟨d,hd⟩:∃ d:Nat,(y:Int)-bo+65536=(d:Int):=⟨((y:Int)-bo+65536).toNat,by omega⟩
     have hd65:d<=65535:=by omega
     replace HST:=Hd (HST 1 d (by simp;omega));exact zz19
    ·
     obtain ⟨d,hd⟩:∃ d:Nat,(y:Int)-bo=(d:Int):=⟨((y:Int)-bo).toNat,by omega⟩
     have hd65:d<=65535:=by omega
     replace HST:=Hd (HST 0 d (by simp;omega));exact zz20
  ·
   obtain rfl:j=T.length:=by have:=HJG.out;omega
   have hvO:val O=M:=by
    have h1:=qtg (o:=O) hup huq hou hol.out (by have:=hval.out;rw [qax (l:=O) (by rw [hol.out];omega)] at this;exact this) (by rw [HVP.out,HVQ.out];exact HGE.out);rw [h1,HVP.out,HVQ.out];exact HM.out
   have hcap:T.length<=maxLen:=by unfold maxLen;omega
   have CT:=qa1 O (some ⟨B,0,none⟩) T.length wr (HROW.out.readsV (nlr _) (New.refl _ _) hou (by rw [hol.out];omega) hcap);have hread:∀ V,New w.heap.size wr V->NatR V (some ⟨B,0,none⟩) T.length (limbs M):=fun V hV=>by
    rw [<- hvO];exact (HROW.out.readsV hw1s hV hou (by rw [hol.out];omega) hcap).trim
   rw [hvO,hol.out] at CT;have HRD:=Hd hread;replace CT:=Hd CT;clear hread hvO hval;go_wp2_with fail;refine CT.out.mono ?_;rintro e w3 ⟨rfl,rfl⟩;go_wp2;go_ret2;exact ⟨_,_,rfl,HRD.out,hwr⟩
def NewIn (B T:Nat) (w V:World):Prop:=∀ p v,B<=p.block->p.block<T->w.cell? p=some v->V.cell? p=some v
def Kp (R:World->Prop) (B T:Nat) (w:World):Prop:=∀ V,NewIn B T w V->R V
section
variable {R R' : World -> Prop} {B T : Nat} {w w' : World}
theorem Kp.now (h:Kp R B T w):R w:=h w fun _ _ _ _ h=>h
theorem Kp.imp (h:Kp R B T w) (e:∀ V,R V->R' V):Kp R' B T w:=fun V hV=>e V (h V hV)
theorem Kp.alloc (h:Kp R B T w) {o:Obj}:Kp R B T (w.alloc o):=fun V hV=>h V fun p v h1 h2 h3=>hV p v h1 h2 ((World.cell?_alloc_lt w o p (World.block_lt_of_cell? w p h3)).trans h3)
theorem Kp.drew (h:Kp R B T w):Kp R B T w.drew:=h
theorem Kp.setc {g i:Nat} {u:Value} (hg:g<B\/T<=g) (h:Kp R B T w):Kp R B T (w.setCell ⟨g,i,none⟩ u):=fun V hV=>h V fun p v h1 h2 h3 =>
 hV p v h1 h2 ((World.cell?_setCell_other w ⟨g,i,none⟩ p u (fun e=>by subst e;simp at h1 h2;omega)).trans h3)
theorem Kp.call (h:Kp R B T w) (hb:Below w.heap.size w w'):Kp R B T w':=fun V hV=>h V fun p v h1 h2 h3=>hV p v h1 h2 ((hb.cell (World.block_lt_of_cell? w p h3)).trans h3)
theorem Kp.made (h:∀ V,New B w V->R V):Kp R B w.heap.size w:=fun V hV=>h V fun p v h1 h2=>hV p v h1 (World.block_lt_of_cell? w p h2) h2
theorem Kp.fin (h:Kp R B T w) {B':Nat} (hB:B'<=B):∀ V,New B' w V->R V:=fun V hV=>h V fun p v h1 _ h3=>hV p v (Nat.le_trans hB h1) h3
end
section
variable {w w' : World} {g g2 i : Nat} {t : TypeId} {cs cs' : Array Value} {u : Value}
theorem Blk.newAt (h:g=w.heap.size):Blk (w.alloc (.cells cs t)) g t cs:=by subst h;exact Blk.new w t cs
theorem Blk.farAt (hg:g≠g2) (h:Blk w g t cs):Blk (w.setCell ⟨g2,i,none⟩ u) g t cs:=h.far (p:=⟨g2,i,none⟩) hg u
theorem Blk.setb (h:Blk w g t cs') (e:cs'.setIfInBounds i u=cs):Blk (w.setCell ⟨g,i,none⟩ u) g t cs:=e ▸ h.set_ i u
theorem bF (hg:g≠g2) (h:Blk w g t cs):Blk (w.setCell ⟨g2,i,none⟩ u) g t cs:=h.farAt hg
theorem bS (h:Blk w g t cs') (e:cs'.setIfInBounds i u=cs):Blk (w.setCell ⟨g,i,none⟩ u) g t cs:=h.setb e
theorem bN (h:g=w.heap.size):Blk (w.alloc (.cells cs t)) g t cs:=Blk.newAt h
theorem bA {o:Obj} (h:Blk w g t cs):Blk (w.alloc o) g t cs:=h.alloc o
theorem bD (h:Blk w g t cs):Blk w.drew g t cs:=h.drew
end
theorem qah {P:Program} {f:Nat} {args:Array Value} {W:World} {Q:Ending->World->Prop} (R:World->Prop) (hR:R W) (h:∀ W',R W'->Calls P f args W' Q):Calls P f args W Q:=h W hR
theorem qak {G:World->Prop} {W:World} (R:World->Prop) (hR:R W) (h:∀ W',R W'->G W'):G W:=h W hR
theorem qns (neg:Bool) (n1 n2:Nat):zval neg n1+zval neg n2=zval neg (n1+n2):=by unfold zval;cases neg <;> simp;omega
theorem qmd {neg1 neg2:Bool} (h:neg1≠neg2) (n1 n2:Nat):(n2<=n1->zval neg1 n1+zval neg2 n2=zval neg1 (n1-n2))/\(n1<=n2->zval neg1 n1+zval neg2 n2=zval neg2 (n2-n1)):=by
 unfold zval;cases neg1 <;> cases neg2 <;> simp at h ⊢ <;> omega
theorem qac2 (neg:Bool) (n:Nat):decide (zval neg n<0)=(neg&&decide (0<n)):=by
 unfold zval;cases neg <;> simp
theorem qwf (neg:Bool) (n:Nat):(zval neg n).natAbs=n:=by unfold zval;split <;> omega
def RetI (z:Int) (w:World) (e:Ending) (w':World):Prop:=RetZ (decide (z<0)) z.natAbs w e w'
theorem qgf {neg:Bool} {n:Nat} {z:Int} {w:World} {e:Ending} {w':World} (hz:z=zval neg n) (h:RetZ (neg&&decide (0<n)) n w e w'):RetI z w e w':=by
 subst hz;unfold RetI;rw [qac2,qwf];exact h
theorem qvv (neg1:Bool) (l m:List Int) (n1 n2:Nat) (a a':Option Addr) (c c':Nat) (w:World) (h:NatR w a c l) (h':NatR w a' c' m) (hn:val l=n1) (hk:val m=n2) (hl:l.length<=4000000) (hm:m.length<=4000000) :
  Calls Tryz.prog 188 #[.agg #[.bool neg1,.slice a l.length c],.agg #[.bool neg1,.slice a' m.length c']] w (RetI (zval neg1 n1+zval neg1 n2) w):=by
 have CA:=fun W (hW:Below w.heap.size w W)=>qzv l m n1 n2 a a' c c' W (h.ext (xbw hW)) (h'.ext (xbw hW)) hn hk (by omega) (by omega)
 have CF:=fun a c W=>qfe neg1 (n1+n2) a c W
 refine Calls.mono ?_ fun _ _=>qgf (qns neg1 n1 n2)
 obtain ⟨R,hR⟩:∃ q,(neg1&&decide (0<n1+n2))=q:=⟨_,rfl⟩
 rw [hR] at CF ⊢;revert CA CF;generalize n1+n2=n;intro CA CF;replace CA:=Hd CA;replace CF:=Hd CF;clear h h' hn hk hR;have hx1:=qb1 w (.cells #[.bool neg1,.slice a l.length c] 74) (.cells #[.bool neg1,.slice a' m.length c'] 74) 74 #[.bool false,.slice none 0 0];have hz:Blk (((w.alloc (.cells #[.bool neg1,.slice a l.length c] 74)).alloc (.cells #[.bool neg1,.slice a' m.length c'] 74)).alloc (.cells #[.bool false,.slice none 0 0] 74)) (w.heap.size+1+1) 74 #[.bool false,.slice none 0 0]:=hx1;have hx1:Blk (((w.alloc (.cells #[.bool neg1,.slice a l.length c] 74)).alloc (.cells #[.bool neg1,.slice a' m.length c'] 74)).alloc (.cells #[.bool false,.slice none 0 0] 74)) w.heap.size 74 #[.bool neg1,.slice a l.length c]:=((Blk.new w _ _).alloc _).alloc _
 have hx2:Blk (((w.alloc (.cells #[.bool neg1,.slice a l.length c] 74)).alloc (.cells #[.bool neg1,.slice a' m.length c'] 74)).alloc (.cells #[.bool false,.slice none 0 0] 74)) (w.heap.size+1) 74 #[.bool neg1,.slice a' m.length c']:=(qay w _ _ _).alloc _;have hb0:Below w.heap.size w (((w.alloc (.cells #[.bool neg1,.slice a l.length c] 74)).alloc (.cells #[.bool neg1,.slice a' m.length c'] 74)).alloc (.cells #[.bool false,.slice none 0 0] 74)):=by go_grown
 have hg2:w.heap.size<w.heap.size+1+1:=by omega
 go_enter Tryz.func188,Tryz.ntmps188;go_wp2;revert hz hx1 hx2 hb0 hg2;generalize ((w.alloc (.cells #[.bool neg1,.slice a l.length c] 74)).alloc (.cells #[.bool neg1,.slice a' m.length c'] 74)).alloc (.cells #[.bool false,.slice none 0 0] 74)=w0;generalize w.heap.size+1+1=g3;generalize w.heap.size+1=g2;intro hz hx1 hx2 hb0 hg2;have hs0:=hb0.size;have hgl:=hz.lt;have k0:=held (hx1.cell 0);have k1:=held (hx1.cell 1);have k2:=held (hx2.cell 1);have s0:Below w0.heap.size w0 w0.drew:=brf.drew;refine wrx (S:=Below w0.heap.size w0) [(0,.q),(1,.q),(2,.q),(3,.q),(4,.q),(5,.q),(6,.l),(7,.t),(8,.t)] (s0) ?_
 iterate 6 (refine qab rfl rfl fun K hK=>xq ?_;go_simp;refine hK _ _ ?_;clear hK K)
 refine qal rfl rfl (fun K hK=>?_);go_simp;refine (CA.out _ (bth hb0 s0)).mono ?_;rintro r w1 ⟨a3,c3,rfl,hV3,hb1⟩;dsimp only;refine hK.out _ _ (bth s0 hb1) (fun _=>?_);clear hK K;have s1:=bth s0 hb1;have HV:=Hd hV3;clear hV3;refine qam rfl rfl (fun K hK=>?_);go_simp;refine (CF.out a3 c3 _).mono ?_;rintro r w2 ⟨rfl,hb2⟩;dsimp only;refine hK.out _ _ ?_;clear hK K;obtain ⟨a4,rfl⟩:∃ a4,a4=a3:=⟨_,rfl⟩
 obtain ⟨c4,rfl⟩:∃ c4,c4=c3:=⟨_,rfl⟩
 have s2:=bth s1 hb2;have hz3:=hz.below' s2;obtain ⟨z0,z1⟩:=cq2 hz3;obtain ⟨f0,f1⟩:=fq2 hz3;have hw2:=bth hb0 s2;clear k0 k1 k2;refine qam rfl rfl (fun K hK=>?_);go_simp;refine hK.out _ _ ?_;clear hK K;refine qac ?_;go_wp2;have hF:=blk2 (x:=.bool R) (y:=.slice a4 (limbs n).length c4) hz3;obtain ⟨e0,e1⟩:=cq2 hF;refine bodyPost_ret (v:=.agg #[.bool R,.slice a4 (limbs n).length c4]) (by simp [results,Tryz.results188,go_sem,e0,e1]) rfl ?_;exact ⟨a4,c4,rfl,fun V hV=>HV.out V ((back2 hV hs0 hgl).below hb2),qbh hw2 (Nat.le_of_lt hg2)⟩
theorem qvh (neg1:Bool) (l m:List Int) (n1 n2:Nat) (a a':Option Addr) (c c':Nat) (w:World) (h:NatR w a c l) (h':NatR w a' c' m) (hn:val l=n1) (hk:val m=n2) (hl:l.length<=4000000) (hm:m.length<=4000000) :
  Calls Tryz.prog 204 #[.agg #[.bool neg1,.slice a l.length c],.agg #[.bool neg1,.slice a' m.length c']] w (RetI (zval neg1 n1+zval neg1 n2) w):=by
 have hll:=qaf h.u16;have hlm:=qaf h'.u16;rw [hn] at hll;rw [hk] at hlm;have hp:=qcm n1 n2;have hsum:(limbs (n1+n2)).length<=4000001:=by omega
 have CA:=fun W (hW:Below w.heap.size w W)=>qjz l m n1 n2 a a' c c' W (h.ext (xbw hW)) (h'.ext (xbw hW)) hn hk (by omega) (by omega)
 have CF:=fun a c W h=>qdw neg1 (limbs (n1+n2)) (n1+n2) a c W h (qaa _) (by omega)
 refine Calls.mono ?_ fun _ _=>qgf (qns neg1 n1 n2)
 obtain ⟨R,hR⟩:∃ q,(neg1&&decide (0<n1+n2))=q:=⟨_,rfl⟩
 rw [hR] at CF ⊢;revert CA CF;generalize n1+n2=n;intro CA CF;replace CA:=Hd CA;replace CF:=Hd CF;clear h h' hn hk hR;have hx1:=qb1 w (.cells #[.bool neg1,.slice a l.length c] 74) (.cells #[.bool neg1,.slice a' m.length c'] 74) 74 #[.bool false,.slice none 0 0];have hz:Blk (((w.alloc (.cells #[.bool neg1,.slice a l.length c] 74)).alloc (.cells #[.bool neg1,.slice a' m.length c'] 74)).alloc (.cells #[.bool false,.slice none 0 0] 74)) (w.heap.size+1+1) 74 #[.bool false,.slice none 0 0]:=hx1;have hx1:Blk (((w.alloc (.cells #[.bool neg1,.slice a l.length c] 74)).alloc (.cells #[.bool neg1,.slice a' m.length c'] 74)).alloc (.cells #[.bool false,.slice none 0 0] 74)) w.heap.size 74 #[.bool neg1,.slice a l.length c]:=((Blk.new w _ _).alloc _).alloc _
 have hx2:Blk (((w.alloc (.cells #[.bool neg1,.slice a l.length c] 74)).alloc (.cells #[.bool neg1,.slice a' m.length c'] 74)).alloc (.cells #[.bool false,.slice none 0 0] 74)) (w.heap.size+1) 74 #[.bool neg1,.slice a' m.length c']:=(qay w _ _ _).alloc _;have hb0:Below w.heap.size w (((w.alloc (.cells #[.bool neg1,.slice a l.length c] 74)).alloc (.cells #[.bool neg1,.slice a' m.length c'] 74)).alloc (.cells #[.bool false,.slice none 0 0] 74)):=by go_grown
 have hg2:w.heap.size<w.heap.size+1+1:=by omega
 go_enter Tryz.func204,Tryz.ntmps204;go_wp2;revert hz hx1 hx2 hb0 hg2;generalize ((w.alloc (.cells #[.bool neg1,.slice a l.length c] 74)).alloc (.cells #[.bool neg1,.slice a' m.length c'] 74)).alloc (.cells #[.bool false,.slice none 0 0] 74)=w0;generalize w.heap.size+1+1=g3;generalize w.heap.size+1=g2;intro hz hx1 hx2 hb0 hg2;have hs0:=hb0.size;have hgl:=hz.lt;have k0:=held (hx1.cell 0);have k1:=held (hx1.cell 1);have k2:=held (hx2.cell 1);have s0:Below w0.heap.size w0 w0.drew:=brf.drew;refine wrx (S:=Below w0.heap.size w0) [(0,.q),(1,.q),(2,.q),(3,.q),(4,.q),(5,.q),(6,.l),(7,.t),(8,.t)] (s0) ?_
 iterate 6 (refine qab rfl rfl fun K hK=>xq ?_;go_simp;refine hK _ _ ?_;clear hK K)
 refine qal rfl rfl (fun K hK=>?_);go_simp;refine (CA.out _ (bth hb0 s0)).mono ?_;rintro r w1 ⟨a3,c3,rfl,hV3,hb1⟩;dsimp only;refine hK.out _ _ (bth s0 hb1) (fun _=>?_);clear hK K;have s1:=bth s0 hb1;have hr3:=hV3 w1 (New.refl _ _);clear hV3;refine qam rfl rfl (fun K hK=>?_);go_simp;refine (CF.out _ _ _ hr3).mono ?_;rintro r w2 ⟨a4,c4,rfl,hV,hb2⟩;dsimp only;refine hK.out _ _ ?_;clear hK K;have HV:=Hd hV;clear hV hr3;have hs1:=(bth hb0 s1).size;have hg1:g3<w1.heap.size:=ltl hgl s1.size;have s2:=bth s1 hb2;have hz3:=hz.below' s2;obtain ⟨z0,z1⟩:=cq2 hz3;obtain ⟨f0,f1⟩:=fq2 hz3;have hw2:=bth hb0 s2;clear k0 k1 k2;refine qam rfl rfl (fun K hK=>?_);go_simp;refine hK.out _ _ ?_;clear hK K;refine qac ?_;go_wp2;have hF:=blk2 (x:=.bool R) (y:=.slice a4 (limbs n).length c4) hz3;obtain ⟨e0,e1⟩:=cq2 hF
 refine bodyPost_ret (v:=.agg #[.bool R,.slice a4 (limbs n).length c4]) (by simp [results,Tryz.results204,go_sem,e0,e1]) rfl ?_;exact ⟨a4,c4,rfl,fun V hV=>HV.out V (back2 hV hs1 hg1),qbh hw2 (Nat.le_of_lt hg2)⟩
theorem qu6 (neg1 neg2:Bool) (l m:List Int) (n1 n2:Nat) (a a':Option Addr) (c c':Nat) (w:World) (h:NatR w a c l) (h':NatR w a' c' m) (hn:val l=n1) (hk:val m=n2) (hl:l.length<=4000000) (hm:m.length<=4000000) (hne:neg1≠neg2) :
  Calls Tryz.prog 188 #[.agg #[.bool neg1,.slice a l.length c],.agg #[.bool neg2,.slice a' m.length c']] w (RetI (zval neg1 n1+zval neg2 n2) w):=by
 have hsum:=qmd hne n1 n2;have hbe:(neg1==neg2)=false:=by simpa using hne
 have CC:=fun W (hW:Below w.heap.size w W)=>qgd l m n1 n2 a a' c c' W (h.ext (xbw hW)) (h'.ext (xbw hW)) hn hk
 by_cases hlt:n1<n2
 ·
  have CS:=fun W (hW:Below w.heap.size w W)=>qqj m l n2 n1 a' a c' c W (h'.ext (xbw hW)) (h.ext (xbw hW)) hk hn (by omega) (by omega) (by omega)
  have CF:=fun a c W=>qfe neg2 (n2-n1) a c W
  refine Calls.mono ?_ fun _ _=>qgf (hsum.2 (by omega))
  have hc:cmpN n1 n2 = -1:=by unfold cmpN;rw [if_pos hlt]
  rw [hc] at CC;obtain ⟨R,hR⟩:∃ q,(neg2&&decide (0<n2-n1))=q:=⟨_,rfl⟩
  rw [hR] at CF ⊢;unfold RetNE at CS;revert CS CF;generalize n2-n1=n;intro CS CF;replace CC:=Hd CC;replace CS:=Hd CS;replace CF:=Hd CF;clear h h' hn hk hR hsum hne hc hlt;go_enter Tryz.func188,Tryz.ntmps188;go_wp2_with fail;refine qah (fun W=>Blk W w.heap.size 74 #[.bool neg1,.slice a l.length c]/\Blk W (w.heap.size+1) 74 #[.bool neg2,.slice a' m.length c']/\Blk W (w.heap.size+1+1) 74 #[.bool false,.slice none 0 0]/\Below w.heap.size w W/\w.heap.size<w.heap.size+1/\w.heap.size+1<w.heap.size+1+1/\w.heap.size+1+1<W.heap.size) ⟨((Blk.new w _ _).alloc _).alloc _,(qay w _ _ _).alloc _,qb1 w _ _ _ _,by go_grown,by omega,by omega,by simp⟩ ?_;rintro w0 ⟨hx1,hx2,hz,hw0,hg1,hg2,hg3⟩;revert hx1 hx2 hz hg1 hg2 hg3;generalize w.heap.size+1+1=g3;generalize w.heap.size+1=g2;intro hx1 hx2 hz hg1 hg2 hg3;obtain ⟨z0,z1⟩:=cq2 hx1;obtain ⟨z2,z3⟩:=cq2 hx2;refine (CC.out _ hw0).mono ?_;rintro e w1 ⟨rfl,hb1⟩
  replace hx1:=hx1.below' hb1;replace hx2:=hx2.below' hb1;replace hz:=hz.below' hb1;have hw1:=bth hw0 hb1;have hs1:=hb1.size;clear z0 z1 z2 z3;obtain ⟨z0,z1⟩:=cq2 hx1;obtain ⟨z2,z3⟩:=cq2 hx2;obtain ⟨f0,f1⟩:=fq2 hx1;obtain ⟨f2,f3⟩:=fq2 hx2;have hn1:¬ g2=w.heap.size:=by omega
  have hn2:¬ w.heap.size=g2:=by omega
  go_wp2_with fail;refine qah (fun W=>Blk W w.heap.size 74 #[.bool neg2,.slice a' m.length c']/\Blk W g3 74 #[.bool false,.slice none 0 0]/\Below w.heap.size w W/\w1.heap.size<=W.heap.size) ⟨by ((with_reducible repeat first|assumption|(apply bF;focus omega)|apply bS|(apply bN;focus (simp;done))|apply bA|apply bD);all_goals rfl),by ((with_reducible repeat first|assumption|(apply bF;focus omega)|apply bS|(apply bN;focus (simp;done))|apply bA|apply bD);all_goals rfl),by go_grown,by simp⟩ ?_;rintro w2 ⟨hx,hy,hw2,hs2⟩;clear z0 z1 z2 z3 f0 f1 f2 f3 hx1 hx2 hz;refine (CS.out _ hw2).mono ?_;rintro e w3 ⟨a3,c3,rfl,hV,hb3⟩;have HV:=Hd hV;replace hx:=hx.below' hb3;replace hy:=hy.below' hb3;have hw3:=bth hw2 hb3;have hs3:=hb3.size;have z0:=hx.cell 0;clear hV;go_wp2_with fail;refine (CF.out a3 c3 _).mono ?_;rintro e w4 ⟨rfl,hb4⟩;replace hy:=hy.below' hb4;have hw4:=bth hw3 hb4;clear z0 hx
  obtain ⟨z0,z1⟩:=cq2 hy;obtain ⟨f0,f1⟩:=fq2 hy;go_wp2;have hF:=blk2 (x:=.bool R) (y:=.slice a3 (limbs n).length c3) hy;obtain ⟨e0,e1⟩:=cq2 hF;refine bodyPost_ret (v:=.agg #[.bool R,.slice a3 (limbs n).length c3]) (by simp [results,Tryz.results188,go_sem,e0,e1]) rfl ?_;exact ⟨a3,c3,rfl,fun V hV=>HV.out V ((back2 hV hw2.size (show g3<w2.heap.size by omega)).below hb4),qbh hw4 (by omega)⟩
 ·
  have CS:=fun W (hW:Below w.heap.size w W)=>qqj l m n1 n2 a a' c c' W (h.ext (xbw hW)) (h'.ext (xbw hW)) hn hk (by omega) (by omega) (by omega)
  have CF:=fun a c W=>qfe neg1 (n1-n2) a c W
  refine Calls.mono ?_ fun _ _=>qgf (hsum.1 (by omega))
  have hc:0<=cmpN n1 n2:=qna.2 (by omega);revert CC hc;generalize cmpN n1 n2=q;intro CC hc;have hq:¬ q<0:=by omega
  obtain ⟨R,hR⟩:∃ q,(neg1&&decide (0<n1-n2))=q:=⟨_,rfl⟩
  rw [hR] at CF ⊢;unfold RetNE at CS;revert CS CF;generalize n1-n2=n;intro CS CF;replace CC:=Hd CC;replace CS:=Hd CS;replace CF:=Hd CF;clear h h' hn hk hR hsum hne hc hlt;go_enter Tryz.func188,Tryz.ntmps188;go_wp2_with fail;refine qah (fun W=>Blk W w.heap.size 74 #[.bool neg1,.slice a l.length c]/\Blk W (w.heap.size+1) 74 #[.bool neg2,.slice a' m.length c']/\Blk W (w.heap.size+1+1) 74 #[.bool false,.slice none 0 0]/\Below w.heap.size w W/\w.heap.size<w.heap.size+1/\w.heap.size+1<w.heap.size+1+1/\w.heap.size+1+1<W.heap.size) ⟨((Blk.new w _ _).alloc _).alloc _,(qay w _ _ _).alloc _,qb1 w _ _ _ _,by go_grown,by omega,by omega,by simp⟩ ?_;rintro w0 ⟨hx1,hx2,hz,hw0,hg1,hg2,hg3⟩;revert hx1 hx2 hz hg1 hg2 hg3;generalize w.heap.size+1+1=g3;generalize w.heap.size+1=g2;intro hx1 hx2 hz hg1 hg2 hg3;obtain ⟨z0,z1⟩:=cq2 hx1;obtain ⟨z2,z3⟩:=cq2 hx2;refine (CC.out _ hw0).mono ?_;rintro e w1 ⟨rfl,hb1⟩
  replace hx1:=hx1.below' hb1;replace hx2:=hx2.below' hb1;replace hz:=hz.below' hb1;have hw1:=bth hw0 hb1;have hs1:=hb1.size;clear z0 z1 z2 z3;obtain ⟨z0,z1⟩:=cq2 hx1;obtain ⟨z2,z3⟩:=cq2 hx2;go_wp2_with fail;refine (CS.out _ hw1).mono ?_;rintro e w3 ⟨a3,c3,rfl,hV,hb3⟩;have HV:=Hd hV;replace hx1:=hx1.below' hb3;replace hz:=hz.below' hb3;have hw3:=bth hw1 hb3;have hs3:=hb3.size;clear hV z0 z1 z2 z3 hx2;have z0:=hx1.cell 0;go_wp2_with fail;refine (CF.out a3 c3 _).mono ?_;rintro e w4 ⟨rfl,hb4⟩;replace hz:=hz.below' hb4;have hw4:=bth hw3 hb4;clear z0 hx1;obtain ⟨z0,z1⟩:=cq2 hz;obtain ⟨f0,f1⟩:=fq2 hz;go_wp2;have hF:=blk2 (x:=.bool R) (y:=.slice a3 (limbs n).length c3) hz;obtain ⟨e0,e1⟩:=cq2 hF;refine bodyPost_ret (v:=.agg #[.bool R,.slice a3 (limbs n).length c3]) (by simp [results,Tryz.results188,go_sem,e0,e1]) rfl ?_
  exact ⟨a3,c3,rfl,fun V hV=>HV.out V ((back2 hV hw1.size (show g3<w1.heap.size by omega)).below hb4),qbh hw4 (by omega)⟩
theorem qqr (neg1 neg2:Bool) (l m:List Int) (n1 n2:Nat) (a a':Option Addr) (c c':Nat) (w:World) (h:NatR w a c l) (h':NatR w a' c' m) (hn:val l=n1) (hk:val m=n2) (hl:l.length<=4000000) (hm:m.length<=4000000) :
  Calls Tryz.prog 188 #[.agg #[.bool neg1,.slice a l.length c],.agg #[.bool neg2,.slice a' m.length c']] w (RetI (zval neg1 n1+zval neg2 n2) w):=by
 by_cases hne:neg1=neg2
 ·
  subst hne;exact qvv neg1 l m n1 n2 a a' c c' w h h' hn hk hl hm
 · exact qu6 neg1 neg2 l m n1 n2 a a' c c' w h h' hn hk hl hm hne
theorem zz21 {P:Prop} (h:P:=by
 obtain ⟨z0,z1⟩:=cq2 hz;obtain ⟨f0,f1⟩:=fq2 hz;go_wp2;have hF:=blk2 (x:=.bool R) (y:=.slice a4 (limbs n).length c4) hz;obtain ⟨e0,e1⟩:=cq2 hF;refine bodyPost_ret (v:=.agg #[.bool R,.slice a4 (limbs n).length c4]) (by simp [results,Tryz.results204,go_sem,e0,e1]) rfl ?_;exact ⟨a4,c4,rfl,fun V hV=>HV.out V (back2 hV hw3.size (show g3<w3.heap.size by omega)),qbh hw4 (by omega)⟩
 ):P:=h
theorem qrr (neg1 neg2:Bool) (l m:List Int) (n1 n2:Nat) (a a':Option Addr) (c c':Nat) (w:World) (h:NatR w a c l) (h':NatR w a' c' m) (hn:val l=n1) (hk:val m=n2) (hl:l.length<=4000000) (hm:m.length<=4000000) (hne:neg1≠neg2) :
  Calls Tryz.prog 204 #[.agg #[.bool neg1,.slice a l.length c],.agg #[.bool neg2,.slice a' m.length c']] w (RetI (zval neg1 n1+zval neg2 n2) w):=by
 have hsum:=qmd hne n1 n2;have hbe:(neg1==neg2)=false:=by simpa using hne
 have hll:=qaf h.u16;have hlm:=qaf h'.u16;rw [hn] at hll;rw [hk] at hlm;by_cases hlt:n1<n2
 ·
  have hmono:=qaj (show n2-n1<=n2 by omega);have CL:=fun W (hW:Below w.heap.size w W)=>qtm l m n1 n2 a a' c c' W (h.ext (xbw hW)) (h'.ext (xbw hW)) hn hk (by omega) (by omega) hlt
  have CS:=fun W (hW:Below w.heap.size w W)=>qje m l n2 n1 a' a c' c W (h'.ext (xbw hW)) (h.ext (xbw hW)) hk hn (by omega) (by omega) (by omega)
  have CF:=fun a c W h=>qdw neg2 (limbs (n2-n1)) (n2-n1) a c W h (qaa _) (by omega)
  refine Calls.mono ?_ fun _ _=>qgf (hsum.2 (by omega))
  obtain ⟨R,hR⟩:∃ q,(neg2&&decide (0<n2-n1))=q:=⟨_,rfl⟩
  rw [hR] at CF ⊢;unfold RetNE at CS CL;clear hmono;revert CS CF;generalize n2-n1=n;intro CS CF;replace CL:=Hd CL;replace CS:=Hd CS;replace CF:=Hd CF;clear h h' hn hk hR hsum hne hlt hll hlm;go_enter Tryz.func204,Tryz.ntmps204;go_wp2_with fail;refine qah (fun W=>Blk W w.heap.size 74 #[.bool neg1,.slice a l.length c]/\Blk W (w.heap.size+1) 74 #[.bool neg2,.slice a' m.length c']/\Blk W (w.heap.size+1+1) 74 #[.bool false,.slice none 0 0]/\Below w.heap.size w W/\w.heap.size<w.heap.size+1/\w.heap.size+1<w.heap.size+1+1/\w.heap.size+1+1<W.heap.size) ⟨((Blk.new w _ _).alloc _).alloc _,(qay w _ _ _).alloc _,qb1 w _ _ _ _,by go_grown,by omega,by omega,by simp⟩ ?_;rintro w0 ⟨hx1,hx2,hz,hw0,hg1,hg2,hg3⟩;revert hx1 hx2 hz hg1 hg2 hg3;generalize w.heap.size+1+1=g3;generalize w.heap.size+1=g2;intro hx1 hx2 hz hg1 hg2 hg3;obtain ⟨z0,z1⟩:=cq2 hx1;obtain ⟨z2,z3⟩:=cq2 hx2;refine (CL.out _ hw0).mono ?_
  rintro e w1 ⟨a2,c2,rfl,_,hb1⟩;replace hx1:=hx1.below' hb1;replace hx2:=hx2.below' hb1;replace hz:=hz.below' hb1;have hw1:=bth hw0 hb1;have hs1:=hb1.size;clear z0 z1 z2 z3;obtain ⟨z0,z1⟩:=cq2 hx1;obtain ⟨z2,z3⟩:=cq2 hx2;go_wp2_with fail;refine (CS.out _ hw1).mono ?_;rintro e w3 ⟨a3,c3,rfl,hV,hb3⟩;have hr3:=hV w3 (New.refl _ _);replace hx2:=hx2.below' hb3;replace hz:=hz.below' hb3;have hw3:=bth hw1 hb3;have hs3:=hb3.size;clear hV z0 z1 z2 z3 hx1;have z0:=hx2.cell 0;have CG:=CF.out a3 c3 w3 hr3;replace CG:=Hd CG;clear hr3;go_wp2_with fail;refine CG.out.mono ?_;rintro e w4 ⟨a4,c4,rfl,hV,hb4⟩;have HV:=Hd hV;replace hz:=hz.below' hb4;have hw4:=bth hw3 hb4;clear z0 hx2 hV;exact zz21
 ·
  have hmono:=qaj (show n1-n2<=n1 by omega);have CS:=fun W (hW:Below w.heap.size w W)=>qje l m n1 n2 a a' c c' W (h.ext (xbw hW)) (h'.ext (xbw hW)) hn hk (by omega) (by omega) (by omega)
  have CF:=fun a c W h=>qdw neg1 (limbs (n1-n2)) (n1-n2) a c W h (qaa _) (by omega)
  refine Calls.mono ?_ fun _ _=>qgf (hsum.1 (by omega))
  obtain ⟨R,hR⟩:∃ q,(neg1&&decide (0<n1-n2))=q:=⟨_,rfl⟩
  rw [hR] at CF ⊢;unfold RetNE at CS;clear hmono;revert CS CF;generalize n1-n2=n;intro CS CF;replace CS:=Hd CS;replace CF:=Hd CF;clear h h' hn hk hR hsum hne hlt hll hlm;go_enter Tryz.func204,Tryz.ntmps204;go_wp2_with fail;refine qah (fun W=>Blk W w.heap.size 74 #[.bool neg1,.slice a l.length c]/\Blk W (w.heap.size+1) 74 #[.bool neg2,.slice a' m.length c']/\Blk W (w.heap.size+1+1) 74 #[.bool false,.slice none 0 0]/\Below w.heap.size w W/\w.heap.size<w.heap.size+1/\w.heap.size+1<w.heap.size+1+1/\w.heap.size+1+1<W.heap.size) ⟨((Blk.new w _ _).alloc _).alloc _,(qay w _ _ _).alloc _,qb1 w _ _ _ _,by go_grown,by omega,by omega,by simp⟩ ?_;rintro w0 ⟨hx1,hx2,hz,hw0,hg1,hg2,hg3⟩;revert hx1 hx2 hz hg1 hg2 hg3;generalize w.heap.size+1+1=g3;generalize w.heap.size+1=g2;intro hx1 hx2 hz hg1 hg2 hg3;obtain ⟨z0,z1⟩:=cq2 hx1;obtain ⟨z2,z3⟩:=cq2 hx2;refine (CS.out _ hw0).mono ?_
  rintro e w3 ⟨a3,c3,rfl,hV,hb3⟩;have hr3:=hV w3 (New.refl _ _);replace hx1:=hx1.below' hb3;replace hz:=hz.below' hb3;have hw3:=bth hw0 hb3;have hs3:=hb3.size;clear hV z0 z1 z2 z3 hx2;have z0:=hx1.cell 0;have CG:=CF.out a3 c3 w3 hr3;replace CG:=Hd CG;clear hr3;go_wp2_with fail;refine CG.out.mono ?_;rintro e w4 ⟨a4,c4,rfl,hV,hb4⟩;have HV:=Hd hV;replace hz:=hz.below' hb4;have hw4:=bth hw3 hb4;clear z0 hx1 hV;exact zz21
theorem qwk (neg1 neg2:Bool) (l m:List Int) (n1 n2:Nat) (a a':Option Addr) (c c':Nat) (w:World) (h:NatR w a c l) (h':NatR w a' c' m) (hn:val l=n1) (hk:val m=n2) (hl:l.length<=4000000) (hm:m.length<=4000000) :
  Calls Tryz.prog 204 #[.agg #[.bool neg1,.slice a l.length c],.agg #[.bool neg2,.slice a' m.length c']] w (RetI (zval neg1 n1+zval neg2 n2) w):=by
 by_cases hne:neg1=neg2
 ·
  subst hne;exact qvh neg1 l m n1 n2 a a' c c' w h h' hn hk hl hm
 · exact qrr neg1 neg2 l m n1 n2 a a' c c' w h h' hn hk hl hm hne
def RetQ (neg:Bool) (n d:Nat) (w:World) (e:Ending) (w':World):Prop:=∃ na nc da dc,e=.returned (.agg #[.bool neg,.slice na (limbs n).length nc,.slice da (limbs d).length dc]) /\
 (∀ V,New w.heap.size w' V->NatR V na nc (limbs n))/\(∀ V,New w.heap.size w' V->NatR V da dc (limbs d))/\Below w.heap.size w w'
theorem qxz (neg:Bool) (l m:List Int) (a a':Option Addr) (c c':Nat) (w:World) (h':NatR w a' c' m) (hk:val m=0) (hm:m.length<=2000000) :
  Calls Tryz.prog 61 #[.agg #[.bool neg,.slice a l.length c],.slice a' m.length c'] w (RetQ false 0 1 w):=by
 have CN:=fun W (hW:Below w.heap.size w W)=>qbf m a' c' W (h'.ext (xbw hW)) (by omega)
 rw [hk,qai] at CN;have CO:=fun W=>qbs 1 W (by omega)
 replace CN:=Hd CN;replace CO:=Hd CO;have hz:Blk ((w.alloc (.cells #[.bool neg,.slice a l.length c] 74)).alloc (.cells #[.bool false,.slice none 0 0,.slice none 0 0] 76)) (w.heap.size+1) 76 #[.bool false,.slice none 0 0,.slice none 0 0]:=qay w _ _ _;have hb0:Below w.heap.size w ((w.alloc (.cells #[.bool neg,.slice a l.length c] 74)).alloc (.cells #[.bool false,.slice none 0 0,.slice none 0 0] 76)):=by go_grown
 have hgB:w.heap.size<=w.heap.size+1:=by omega
 unfold RetQ;rw [qai];clear h' hk;go_enter Tryz.func61,Tryz.ntmps61;go_wp2_with fail;have hgl:=hz.lt;revert hz hb0 hgB hgl;generalize (w.alloc (.cells #[.bool neg,.slice a l.length c] 74)).alloc (.cells #[.bool false,.slice none 0 0,.slice none 0 0] 76)=w0;generalize w.heap.size+1=g;intro hz hb0 hgB hgl;refine (CN.out _ hb0).mono ?_;rintro e w1 ⟨a3,c3,rfl,_,hb1⟩;have hw1:=bth hb0 hb1;have hz1:=hz.below' hb1;go_wp2_with fail;refine (CO.out _).mono ?_;rintro e w2 ⟨a1,c1,rfl,hV,hb2⟩;have hw2:=bth hw1 hb2;have hz2:=hz1.below' hb2;have hg1:=hz1.lt;have HV:=Hd hV;obtain ⟨z0,z1,z2⟩:=cq3 hz2;obtain ⟨f0,f1,f2⟩:=fq3 hz2;clear hV;go_wp2;have hF:=blk3 (x:=.bool false) (y:=.slice none 0 0) (z:=.slice a1 (limbs 1).length c1) hz2;obtain ⟨e0,e1,e2⟩:=cq3 hF;refine bodyPost_ret (v:=.agg #[.bool false,.slice none 0 0,.slice a1 (limbs 1).length c1]) (by simp [results,Tryz.results61,go_sem,e0,e1,e2]) rfl ?_
 exact ⟨none,0,a1,c1,rfl,fun _ _=>SlR.nil,fun V hV=>HV.out V (back3 hV hw1.size hg1),qbw hw2 hgB⟩
theorem qzh (neg:Bool) (l m:List Int) (n d:Nat) (a a':Option Addr) (c c':Nat) (w:World) (h:NatR w a c l) (h':NatR w a' c' m) (hn:val l=n) (hk:val m=d) (hl:l.length<=2000000) (hm:m.length<=2000000) (h0:0<d) :
  Calls Tryz.prog 61 #[.agg #[.bool neg,.slice a l.length c],.slice a' m.length c'] w (RetQ (neg&&decide (0<n / Nat.gcd n d)) (n / Nat.gcd n d) (d / Nat.gcd n d) w):=by
 have hll:=qaf h.u16;have hlm:=qaf h'.u16;rw [hn] at hll;rw [hk] at hlm;have hgp:0<Nat.gcd n d:=Nat.gcd_pos_of_pos_right n h0;have hgd:Nat.gcd n d<=d:=Nat.le_of_dvd h0 (Nat.gcd_dvd_right n d);have hgl0:=qaj hgd;have hnl:=qaj (Nat.div_le_self n (Nat.gcd n d));have CN:=fun W (hW:Below w.heap.size w W)=>qbf m a' c' W (h'.ext (xbw hW)) (by omega)
 rw [hk] at CN;have CG:=fun W (hW:Below w.heap.size w W)=>qon l m n d a a' c c' W (h.ext (xbw hW)) (h'.ext (xbw hW)) hn hk hl hm
 have CD1:=fun ag cg W (hW:Below w.heap.size w W) hr=>qes l (limbs (Nat.gcd n d)) n (Nat.gcd n d) a ag c cg W (h.ext (xbw hW)) hr hn (qaa _) hl (by omega) hgp
 have CD2:=fun ag cg W (hW:Below w.heap.size w W) hr=>qes m (limbs (Nat.gcd n d)) d (Nat.gcd n d) a' ag c' cg W (h'.ext (xbw hW)) hr hk (qaa _) hm (by omega) hgp
 have CZ:=fun ag cg W hr=>qev neg (limbs (n / Nat.gcd n d)) (n / Nat.gcd n d) ag cg W hr (qaa _) (by omega)
 have hne:(((limbs d).length:Int)==0)=false:=by rw [beq_eq_false_iff_ne];have:=qap.2 h0;omega
 obtain ⟨R,hR⟩:∃ q,(neg&&decide (0<n / Nat.gcd n d))=q:=⟨_,rfl⟩
 rw [hR] at CZ ⊢;unfold RetDM at CD1 CD2;obtain ⟨gg,hgg⟩:∃ q,Nat.gcd n d=q:=⟨_,rfl⟩
 simp only [hgg] at CG CD1 CD2 CZ ⊢;obtain ⟨N,hN⟩:∃ q,n / gg=q:=⟨_,rfl⟩
 obtain ⟨D,hD⟩:∃ q,d / gg=q:=⟨_,rfl⟩
 simp only [hN] at CD1 CZ ⊢;simp only [hD] at CD2 ⊢;replace CN:=Hd CN;replace CG:=Hd CG;replace CD1:=Hd CD1;replace CD2:=Hd CD2;replace CZ:=Hd CZ;have hz:Blk ((w.alloc (.cells #[.bool neg,.slice a l.length c] 74)).alloc (.cells #[.bool false,.slice none 0 0,.slice none 0 0] 76)) (w.heap.size+1) 76 #[.bool false,.slice none 0 0,.slice none 0 0]:=qay w _ _ _;have hx:Blk ((w.alloc (.cells #[.bool neg,.slice a l.length c] 74)).alloc (.cells #[.bool false,.slice none 0 0,.slice none 0 0] 76)) w.heap.size 74 #[.bool neg,.slice a l.length c]:=(Blk.new w _ _).alloc _;have hb0:Below w.heap.size w ((w.alloc (.cells #[.bool neg,.slice a l.length c] 74)).alloc (.cells #[.bool false,.slice none 0 0,.slice none 0 0] 76)):=by go_grown
 have hgB:w.heap.size<=w.heap.size+1:=by omega
 clear h h' hn hk hll hlm hgp hgd hgl0 hnl hR hgg hN hD;go_enter Tryz.func61,Tryz.ntmps61;go_wp2_with fail;have hgl:=hz.lt;revert hz hx hb0 hgB hgl;generalize (w.alloc (.cells #[.bool neg,.slice a l.length c] 74)).alloc (.cells #[.bool false,.slice none 0 0,.slice none 0 0] 76)=w0;generalize w.heap.size+1=g;intro hz hx hb0 hgB hgl;refine (CN.out _ hb0).mono ?_;rintro e w1 ⟨a3,c3,rfl,_,hb1⟩;have hw1:=bth hb0 hb1;have hx1:=hx.below' hb1;have hz1:=hz.below' hb1;obtain ⟨z0,z1⟩:=cq2 hx1;clear hz hx hb1 hgl;go_wp2_with fail;refine (CG.out _ hw1).mono ?_;rintro e w2 ⟨a4,c4,rfl,hV4,hb2⟩;have hw2:=bth hw1 hb2;have hx2:=hx1.below' hb2;have hz2:=hz1.below' hb2;have hr4:=hV4 w2 (New.refl _ _);have CE1:=CD1.out a4 c4 w2 hw2 hr4;replace CE1:=Hd CE1;clear z0 z1 hV4 hx1 hz1;obtain ⟨z0,z1⟩:=cq2 hx2;go_wp2_with fail;refine CE1.out.mono ?_;rintro e w3 ⟨a5,c5,_,_,rfl,hV5,_,hb3⟩;have hw3:=bth hw2 hb3
 have hx3:=hx2.below' hb3;have hz3:=hz2.below' hb3;have hg3:=hz3.lt;have HV5:=Hd hV5;have CE2:=CD2.out a4 c4 w3 hw3 (hr4.ext (xbw hb3));replace CE2:=Hd CE2;clear z0 z1 hV5 hx2 hz2 hr4 CE1;obtain ⟨z0,z1⟩:=cq2 hx3;go_wp2_with fail;refine CE2.out.mono ?_;rintro e w4 ⟨a6,c6,_,_,rfl,hV6,_,hb4⟩;have hw4:=bth hw3 hb4;have hx4:=hx3.below' hb4;have hz4:=hz3.below' hb4;have HV6:=Hd hV6;have CF:=CZ.out a5 c5 w4 (HV5.out w4 ((New.refl _ _).below hb4));replace CF:=Hd CF;clear z0 z1 hV6 hx3 hz3 CE2;obtain ⟨z0,z1⟩:=cq2 hx4;go_wp2_with fail;refine CF.out.mono ?_;rintro e w5 ⟨a7,c7,rfl,hV7,hb5⟩;have hw5:=bth hw4 hb5;have hz5:=hz4.below' hb5;have HV7:=Hd hV7;have hg4:=hz4.lt;clear z0 z1 hV7 hx4 CF;obtain ⟨z0,z1,z2⟩:=cq3 hz5;obtain ⟨f0,f1,f2⟩:=fq3 hz5;go_wp2;have hF:=blk3 (x:=.bool R) (y:=.slice a7 (limbs N).length c7) (z:=.slice a6 (limbs D).length c6) hz5;obtain ⟨e0,e1,e2⟩:=cq3 hF
 refine bodyPost_ret (v:=.agg #[.bool R,.slice a7 (limbs N).length c7,.slice a6 (limbs D).length c6]) (by simp [results,Tryz.results61,go_sem,e0,e1,e2]) rfl ?_;exact ⟨a7,c7,a6,c6,rfl,fun V hV=>HV7.out V (back3 hV hw4.size hg4),fun V hV=>HV6.out V ((back3 hV hw3.size hg3).below hb5),qbw hw5 hgB⟩
def qao (neg:Bool) (n d:Nat):Bool × Nat × Nat:=if d=0 then (false,0,1) else (neg&&decide (0<n / Nat.gcd n d),n / Nat.gcd n d,d / Nat.gcd n d)
def RetF (t:Bool × Nat × Nat) (w:World) (e:Ending) (w':World):Prop:=RetQ t.1 t.2.1 t.2.2 w e w'
theorem qiv (neg:Bool) (l m:List Int) (n d:Nat) (a a':Option Addr) (c c':Nat) (w:World) (h:NatR w a c l) (h':NatR w a' c' m) (hn:val l=n) (hk:val m=d) (hl:l.length<=2000000) (hm:m.length<=2000000) :
  Calls Tryz.prog 61 #[.agg #[.bool neg,.slice a l.length c],.slice a' m.length c'] w (RetF (qao neg n d) w):=by
 unfold RetF qao;by_cases h0:d=0
 ·
  rw [if_pos h0];exact qxz neg l m a a' c c' w h' (by rw [hk,h0]) hm
 ·
  rw [if_neg h0];exact qzh neg l m n d a a' c c' w h h' hn hk hl hm (by omega)
theorem qcw (neg:Bool) (l m:List Int) (n d:Nat) (a a':Option Addr) (c c':Nat) (w:World) (h:NatR w a c l) (h':NatR w a' c' m) (hn:val l=n) (hk:val m=d) (hl:l.length<=2000000) (hm:m.length<=2000000) :
  Calls Tryz.prog 56 #[.agg #[.bool neg,.slice a l.length c,.slice a' m.length c']] w (RetF (qao neg n d) w):=by
 have CO:=fun W (hW:Below w.heap.size w W)=>qiv neg l m n d a a' c c' W (h.ext (xbw hW)) (h'.ext (xbw hW)) hn hk hl hm
 obtain ⟨t,ht⟩:∃ t,qao neg n d=t:=⟨_,rfl⟩
 rw [ht] at CO ⊢;obtain ⟨s,N,D⟩:=t;unfold RetF at CO ⊢;dsimp only at CO ⊢;replace CO:=Hd CO;have hz:Blk ((w.alloc (.cells #[.bool neg,.slice a l.length c,.slice a' m.length c'] 76)).alloc (.cells #[.bool false,.slice none 0 0,.slice none 0 0] 76)) (w.heap.size+1) 76 #[.bool false,.slice none 0 0,.slice none 0 0]:=qay w _ _ _;have hb0:Below w.heap.size w ((w.alloc (.cells #[.bool neg,.slice a l.length c,.slice a' m.length c'] 76)).alloc (.cells #[.bool false,.slice none 0 0,.slice none 0 0] 76)):=by go_grown
 have hgB:w.heap.size<=w.heap.size+1:=by omega
 have hgl:=hz.lt;clear h h' hn hk ht;go_enter Tryz.func56,Tryz.ntmps56;go_wp2_with fail;revert hz hb0 hgB hgl;generalize (w.alloc (.cells #[.bool neg,.slice a l.length c,.slice a' m.length c'] 76)).alloc (.cells #[.bool false,.slice none 0 0,.slice none 0 0] 76)=w0;generalize w.heap.size+1=g;intro hz hb0 hgB hgl;refine (CO.out _ hb0).mono ?_;rintro e w1 ⟨a1,c1,a2,c2,rfl,hV1,hV2,hb1⟩;have hw1:=bth hb0 hb1;have hz1:=hz.below' hb1;have HV1:=Hd hV1;have HV2:=Hd hV2;obtain ⟨z0,z1,z2⟩:=cq3 hz1;obtain ⟨f0,f1,f2⟩:=fq3 hz1;have hs0:=hb0.size;clear hV1 hV2 hb0;go_wp2;have hF:=blk3 (x:=.bool s) (y:=.slice a1 (limbs N).length c1) (z:=.slice a2 (limbs D).length c2) hz1;obtain ⟨e0,e1,e2⟩:=cq3 hF;refine bodyPost_ret (v:=.agg #[.bool s,.slice a1 (limbs N).length c1,.slice a2 (limbs D).length c2]) (by simp [results,Tryz.results56,go_sem,e0,e1,e2]) rfl ?_
 exact ⟨a1,c1,a2,c2,rfl,fun V hV=>HV1.out V (back3 hV hs0 hgl),fun V hV=>HV2.out V (back3 hV hs0 hgl),qbw hw1 hgB⟩
theorem qvi (neg:Bool) (n d:Nat):qao (neg&&decide (0<n)) n d=qao neg n d:=by
 unfold qao
 split
 · rfl
 ·
  next h0 =>
  by_cases hn:n=0
  ·
   subst hn;simp
  ·
   have:decide (0<n)=true:=by rw [decide_eq_true_eq];omega
   rw [this,Bool.and_true]
def RetM (t:Bool × Nat × Nat) (w:World) (e:Ending) (w':World):Prop:=∃ na nc da dc,e=.returned (.tuple #[.agg #[.bool t.1,.slice na (limbs t.2.1).length nc,.slice da (limbs t.2.2).length dc],.int .i64 0]) /\
 (∀ V,New w.heap.size w' V->NatR V na nc (limbs t.2.1))/\(∀ V,New w.heap.size w' V->NatR V da dc (limbs t.2.2))/\Below w.heap.size w w'
theorem qhe (n:Nat) (a:Option Addr) (c:Nat) (w:World) :
  Calls Tryz.prog 129 #[.slice a n c] w fun e w'=>e=.returned (.agg #[.bool false,.slice a n c])/\Below w.heap.size w w':=by
 go_enter Tryz.func129,Tryz.ntmps129;go_wp2;have hF:=Blk.new w 74 #[.bool false,.slice a n c];obtain ⟨e0,e1⟩:=cq2 hF;refine bodyPost_ret (v:=.agg #[.bool false,.slice a n c]) (by simp [results,Tryz.results129,go_sem]) rfl ?_;exact ⟨rfl,brf.alloc (nlr _) _⟩
theorem qvz {z:Int} (hi:InInt z):(limbs z.natAbs).length<=4:=by
 obtain ⟨h1,h2⟩:=hi;have:(65536:Nat) ^ 4=18446744073709551616:=by decide
 exact qan (by omega)
theorem qo8 (z:Int) (w:World) (hi:InInt z) :
  Calls Tryz.prog 32 #[.int .i64 z] w (RetF (qao (decide (z<0)) z.natAbs 1) w):=by
 have hl4:=qvz hi;have hl1:(limbs 1).length<=4:=qan (by decide);have CZ:=fun W=>qyo z W hi
 have C1:=fun W=>qbs 1 W (by omega)
 have CO:=fun a a' c c' W h h'=>qiv (decide (z<0)) (limbs z.natAbs) (limbs 1) z.natAbs 1 a a' c c' W h h' (qaa _) (qaa _) (by omega) (by omega)
 obtain ⟨t,ht⟩:∃ t,qao (decide (z<0)) z.natAbs 1=t:=⟨_,rfl⟩
 obtain ⟨ng,hng⟩:∃ q,decide (z<0)=q:=⟨_,rfl⟩
 obtain ⟨nz,hnz⟩:∃ q,z.natAbs=q:=⟨_,rfl⟩
 rw [ht] at CO ⊢;simp only [hng,hnz] at CO CZ;obtain ⟨s,N,D⟩:=t;unfold RetF at CO ⊢;dsimp only at CO ⊢;replace CZ:=Hd CZ;replace C1:=Hd C1;replace CO:=Hd CO;have hz:Blk (w.alloc (.cells #[.bool false,.slice none 0 0,.slice none 0 0] 76)) w.heap.size 76 #[.bool false,.slice none 0 0,.slice none 0 0]:=Blk.new w _ _;have hb0:Below w.heap.size w (w.alloc (.cells #[.bool false,.slice none 0 0,.slice none 0 0] 76)):=brf.alloc (nlr _) _;clear ht hng hnz hl4 hl1;go_enter Tryz.func32,Tryz.ntmps32;go_wp2_with fail;revert hz hb0;generalize w.alloc (.cells #[.bool false,.slice none 0 0,.slice none 0 0] 76)=w0;intro hz hb0;refine (CZ.out _).mono ?_;rintro e w1 ⟨a1,c1,rfl,hV1,hb1⟩;have hw1:=bth hb0 hb1;have hz1:=hz.below' hb1;have HV1:=Hd hV1;clear hV1;go_wp2_with fail;refine (C1.out _).mono ?_;rintro e w2 ⟨a2,c2,rfl,hV2,hb2⟩;have hw2:=bth hw1 hb2;have hz2:=hz1.below' hb2
 have CF:=CO.out a1 a2 c1 c2 w2 (HV1.out w2 ((New.refl _ _).below hb2)) (hV2 w2 (New.refl _ _));replace CF:=Hd CF;clear hV2;go_wp2_with fail;refine CF.out.mono ?_;rintro e w3 ⟨a3,c3,a4,c4,rfl,hV3,hV4,hb3⟩;have hw3:=bth hw2 hb3;have hz3:=hz2.below' hb3;have HV3:=Hd hV3;have HV4:=Hd hV4;have hs2:=hw2.size;have hgl2:=hz2.lt;obtain ⟨z0,z1,z2⟩:=cq3 hz3;obtain ⟨f0,f1,f2⟩:=fq3 hz3;clear hV3 hV4;go_wp2;have hF:=blk3 (x:=.bool s) (y:=.slice a3 (limbs N).length c3) (z:=.slice a4 (limbs D).length c4) hz3;obtain ⟨e0,e1,e2⟩:=cq3 hF;refine bodyPost_ret (v:=.agg #[.bool s,.slice a3 (limbs N).length c3,.slice a4 (limbs D).length c4]) (by simp [results,Tryz.results32,go_sem,e0,e1,e2]) rfl ?_;exact ⟨a3,c3,a4,c4,rfl,fun V hV=>HV3.out V (back3 hV hs2 hgl2),fun V hV=>HV4.out V (back3 hV hs2 hgl2),qbw hw3 (nlr _)⟩
theorem qxn (neg:Bool) (l m:List Int) (n d:Nat) (a a':Option Addr) (c c':Nat) (w:World) (h:NatR w a c l) (h':NatR w a' c' m) (hn:val l=n) (hk:val m=d) (hl:l.length<=2000000) (hm:m.length<=2000000) :
  Calls Tryz.prog 67 #[.agg #[.bool neg,.slice a l.length c,.slice a' m.length c']] w (RetF (qao (!neg) n d) w):=by
 have hll:=qaf h.u16;rw [hn] at hll;have CN:=fun W (hW:Below w.heap.size w W)=>qvk neg l n a c W (h.ext (xbw hW)) hn (by omega)
 have CO:=fun a1 c1 W h1 (hW:Below w.heap.size w W)=>qiv (!neg&&decide (0<n)) (limbs n) m n d a1 a' c1 c' W h1 (h'.ext (xbw hW)) (qaa _) hk (by omega) hm
 simp only [qvi] at CO;obtain ⟨t,ht⟩:∃ t,qao (!neg) n d=t:=⟨_,rfl⟩
 obtain ⟨ng,hng⟩:∃ q,(!neg&&decide (0<n))=q:=⟨_,rfl⟩
 rw [ht] at CO ⊢;rw [hng] at CO CN;obtain ⟨s,N,D⟩:=t;unfold RetF at CO ⊢;dsimp only at CO ⊢;replace CN:=Hd CN;replace CO:=Hd CO;have hx:Blk ((w.alloc (.cells #[.bool neg,.slice a l.length c,.slice a' m.length c'] 76)).alloc (.cells #[.bool false,.slice none 0 0,.slice none 0 0] 76)) w.heap.size 76 #[.bool neg,.slice a l.length c,.slice a' m.length c']:=(Blk.new w _ _).alloc _;have hz:Blk ((w.alloc (.cells #[.bool neg,.slice a l.length c,.slice a' m.length c'] 76)).alloc (.cells #[.bool false,.slice none 0 0,.slice none 0 0] 76)) (w.heap.size+1) 76 #[.bool false,.slice none 0 0,.slice none 0 0]:=qay w _ _ _;have hb0:Below w.heap.size w ((w.alloc (.cells #[.bool neg,.slice a l.length c,.slice a' m.length c'] 76)).alloc (.cells #[.bool false,.slice none 0 0,.slice none 0 0] 76)):=by go_grown
 have hgB:w.heap.size<=w.heap.size+1:=by omega
 have hgl:=hz.lt;clear h h' hn hk ht hll hng;go_enter Tryz.func67,Tryz.ntmps67;go_wp2;revert hx hz hb0 hgB hgl;generalize (w.alloc (.cells #[.bool neg,.slice a l.length c,.slice a' m.length c'] 76)).alloc (.cells #[.bool false,.slice none 0 0,.slice none 0 0] 76)=w0;generalize w.heap.size+1=g;intro hx hz hb0 hgB hgl;have k0:=held (hx.cell 0);have k1:=held (hx.cell 1);have k2:=held (hx.cell 2);have s0:Below w0.heap.size w0 w0.drew:=brf.drew;refine wrx (S:=Below w0.heap.size w0) [(0,.q),(1,.q),(3,.q),(4,.q),(2,.l),(5,.t),(6,.t)] (s0) ?_
 iterate 4 (refine qab rfl rfl fun K hK=>xq ?_;go_simp;refine hK _ _ ?_;clear hK K)
 refine qal rfl rfl (fun K hK=>?_);go_simp;refine (CN.out _ (bth hb0 s0)).mono ?_;rintro r w1 ⟨a3,c3,rfl,hV3,hb1⟩;dsimp only;refine hK.out _ _ (bth s0 hb1) (fun _=>?_);clear hK K;have s1:=bth s0 hb1;have CF:=CO.out a3 c3 w1 (hV3 w1 (New.refl _ _)) (bth hb0 s1);replace CF:=Hd CF;clear hV3;refine qam rfl rfl (fun K hK=>?_);go_simp;refine (CF.out).mono ?_;rintro r w2 ⟨a1,c1,a2,c2,rfl,hV1,hV2,hb2⟩;dsimp only;refine hK.out _ _ ?_;clear hK K;have s2:=bth s1 hb2;have hz3:=hz.below' s2;obtain ⟨z0,z1,z2⟩:=cq3 hz3;obtain ⟨f0,f1,f2⟩:=fq3 hz3;have hw2:=bth hb0 s2;have hs1:=(bth hb0 s1).size;have hg1:g<w1.heap.size:=ltl hgl s1.size;have HV1:=Hd hV1;have HV2:=Hd hV2;clear hV1 hV2 k0 k1 k2;refine qam rfl rfl (fun K hK=>?_);go_simp;refine hK.out _ _ ?_;clear hK K;refine qac ?_;go_wp2;have hF:=blk3 (x:=.bool s) (y:=.slice a1 (limbs N).length c1) (z:=.slice a2 (limbs D).length c2) hz3
 obtain ⟨e0,e1,e2⟩:=cq3 hF;refine bodyPost_ret (v:=.agg #[.bool s,.slice a1 (limbs N).length c1,.slice a2 (limbs D).length c2]) (by simp [results,Tryz.results67,go_sem,e0,e1,e2]) rfl ?_;exact ⟨a1,c1,a2,c2,rfl,fun V hV=>HV1.out V (back3 hV hs1 hg1),fun V hV=>HV2.out V (back3 hV hs1 hg1),qbw hw2 hgB⟩
theorem qiw (neg:Bool) (n:Nat):zval (neg&&decide (0<n)) n=zval neg n:=by
 by_cases hn:n=0
 ·
  subst hn;simp [zval]
 ·
  have:decide (0<n)=true:=by rw [decide_eq_true_eq];omega
  rw [this,Bool.and_true]
theorem qd2 (neg:Bool) (n d:Nat):(qao neg n d).2.1<=n:=by
 unfold qao
 split
 · exact Nat.zero_le _
 · exact Nat.div_le_self _ _
theorem qez (neg:Bool) (n d:Nat):(qao neg n d).2.2<=d+1:=by
 unfold qao
 split
 · show 1<=d+1;omega
 · exact Nat.le_succ_of_le (Nat.div_le_self _ _)
theorem qnc (neg:Bool) (n d:Nat):0<(qao neg n d).2.2:=by
 unfold qao
 split
 · decide
 · next h0=>exact Nat.div_pos (Nat.le_of_dvd (by omega) (Nat.gcd_dvd_right n d)) (Nat.gcd_pos_of_pos_right n (by omega))
theorem qdy (d:Nat):(limbs (d+1)).length<=(limbs d).length+1:=by
 apply qan;have:=qa0 d;rw [Nat.pow_succ];have h1:0<65536 ^ (limbs d).length:=Nat.pow_pos (by decide)
 omega
def qh2 (t u:Bool × Nat × Nat):Int:=cmpI (zval t.1 (t.2.1*u.2.2)) (zval u.1 (u.2.1*t.2.2))
theorem qwg (neg1 neg2:Bool) (l m l' m':List Int) (n1 d1 n2 d2:Nat) (a b a' b':Option Addr) (c cb c' cb':Nat) (w:World) (h1:NatR w a c l) (h2:NatR w b cb m) (h3:NatR w a' c' l') (h4:NatR w b' cb' m')
  (e1:val l=n1) (e2:val m=d1) (e3:val l'=n2) (e4:val m'=d2) (b1:l.length<=900000) (b2:m.length<=900000) (b3:l'.length<=900000) (b4:m'.length<=900000) :
  Calls Tryz.prog 78 #[.agg #[.bool neg1,.slice a l.length c,.slice b m.length cb],.agg #[.bool neg2,.slice a' l'.length c',.slice b' m'.length cb']] w fun e w' =>
   e=.returned (.int .i64 (qh2 (qao neg1 n1 d1) (qao neg2 n2 d2)))/\Below w.heap.size w w':=by
 have q1:=qaf h1.u16;have q2:=qaf h2.u16;have q3:=qaf h3.u16;have q4:=qaf h4.u16;rw [e1] at q1;rw [e2] at q2;rw [e3] at q3;rw [e4] at q4;have r1:=qaj (qd2 neg1 n1 d1);have r2:=qaj (qez neg1 n1 d1);have r3:=qaj (qd2 neg2 n2 d2);have r4:=qaj (qez neg2 n2 d2);have t2:=qdy d1;have t4:=qdy d2;have C1:=fun W (hW:Below w.heap.size w W)=>qcw neg1 l m n1 d1 a b c cb W (h1.ext (xbw hW)) (h2.ext (xbw hW)) e1 e2 (by omega) (by omega)
 have C2:=fun W (hW:Below w.heap.size w W)=>qcw neg2 l' m' n2 d2 a' b' c' cb' W (h3.ext (xbw hW)) (h4.ext (xbw hW)) e3 e4 (by omega) (by omega)
 obtain ⟨u1,hu1⟩:∃ u,qao neg1 n1 d1=u:=⟨_,rfl⟩
 obtain ⟨u2,hu2⟩:∃ u,qao neg2 n2 d2=u:=⟨_,rfl⟩
 rw [hu1] at C1 r1 r2 ⊢;rw [hu2] at C2 r3 r4 ⊢;obtain ⟨s1,N1,D1⟩:=u1;obtain ⟨s2,N2,D2⟩:=u2;unfold RetF at C1 C2;unfold qh2;dsimp only at C1 C2 r1 r2 r3 r4 ⊢;have m1:=qa5 N1 D2;have m2:=qa5 N2 D1;have CM1:=fun a1 a2 c1 c2 W g1 g2=>qhj s1 false (limbs N1) (limbs D2) N1 D2 a1 a2 c1 c2 W g1 g2 (qaa _) (qaa _) (by omega) (by omega)
 have CM2:=fun a1 a2 c1 c2 W g1 g2=>qhj s2 false (limbs N2) (limbs D1) N2 D1 a1 a2 c1 c2 W g1 g2 (qaa _) (qaa _) (by omega) (by omega)
 have x1:(s1 != false)=s1:=by cases s1 <;> rfl
 have x2:(s2 != false)=s2:=by cases s2 <;> rfl
 simp only [x1] at CM1;simp only [x2] at CM2;have CC:=fun a1 a2 c1 c2 W g1 g2=>qwa (s1&&decide (0<N1*D2)) (s2&&decide (0<N2*D1)) (limbs (N1*D2)) (limbs (N2*D1)) (N1*D2) (N2*D1) a1 a2 c1 c2 W g1 g2 (qaa _) (qaa _) (by omega) (by omega)
 simp only [qiw] at CC;obtain ⟨R,hR⟩:∃ q,cmpI (zval s1 (N1*D2)) (zval s2 (N2*D1))=q:=⟨_,rfl⟩
 obtain ⟨p1,hp1⟩:∃ q,(s1&&decide (0<N1*D2))=q:=⟨_,rfl⟩
 obtain ⟨p2,hp2⟩:∃ q,(s2&&decide (0<N2*D1))=q:=⟨_,rfl⟩
 simp only [hR,hp1,hp2] at CM1 CM2 CC ⊢;clear hR hp1 hp2 x1 x2 m1 m2 t2 t4 r1 r2 r3 r4 hu1 hu2 q1 q2 q3 q4;revert CM1 CM2 CC;generalize N1*D2=P1;generalize N2*D1=P2;intro CM1 CM2 CC;replace C1:=Hd C1;replace C2:=Hd C2;replace CM1:=Hd CM1;replace CM2:=Hd CM2;replace CC:=Hd CC;have hx1:Blk ((w.alloc (.cells #[.bool neg1,.slice a l.length c,.slice b m.length cb] 76)).alloc (.cells #[.bool neg2,.slice a' l'.length c',.slice b' m'.length cb'] 76)) w.heap.size 76 #[.bool neg1,.slice a l.length c,.slice b m.length cb]:=(Blk.new w _ _).alloc _;have hx2:Blk ((w.alloc (.cells #[.bool neg1,.slice a l.length c,.slice b m.length cb] 76)).alloc (.cells #[.bool neg2,.slice a' l'.length c',.slice b' m'.length cb'] 76)) (w.heap.size+1) 76 #[.bool neg2,.slice a' l'.length c',.slice b' m'.length cb']:=qay w _ _ _
 have hb0:Below w.heap.size w ((w.alloc (.cells #[.bool neg1,.slice a l.length c,.slice b m.length cb] 76)).alloc (.cells #[.bool neg2,.slice a' l'.length c',.slice b' m'.length cb'] 76)):=by go_grown
 have hgB:w.heap.size<w.heap.size+1:=by omega
 clear h1 h2 h3 h4 e1 e2 e3 e4;go_enter Tryz.func78,Tryz.ntmps78;go_wp2;revert hx1 hx2 hb0 hgB;generalize (w.alloc (.cells #[.bool neg1,.slice a l.length c,.slice b m.length cb] 76)).alloc (.cells #[.bool neg2,.slice a' l'.length c',.slice b' m'.length cb'] 76)=w0;generalize w.heap.size+1=g;intro hx1 hx2 hb0 hgB;have k0:=held (hx1.cell 0);have k1:=held (hx1.cell 1);have k2:=held (hx1.cell 2);have k3:=held (hx2.cell 0);have k4:=held (hx2.cell 1);have k5:=held (hx2.cell 2);have s0:Below w0.heap.size w0 w0.drew:=brf.drew;have hgl:=hx2.lt;refine wrx (S:=Below w0.heap.size w0) [(0,.q),(2,.q),(1,.l),(3,.t),(4,.t),(5,.t)] (s0) ?_
 iterate 2 (refine qab rfl rfl fun K hK=>xq ?_;go_simp;refine hK _ _ ?_;clear hK K)
 refine qal rfl rfl (fun K hK=>?_);go_simp;refine (C1.out _ (bth hb0 s0)).mono ?_;rintro r w1 ⟨a1,c1,a2,c2,rfl,hV1,hV2,hb1⟩;dsimp only;refine hK.out _ _ (bth s0 hb1) (fun _=>?_);clear hK K;have s1':=bth s0 hb1;refine qam rfl rfl (fun K hK=>?_);go_simp;refine (C2.out _ (bth hb0 s1')).mono ?_;rintro r w2 ⟨a3,c3,a4,c4,rfl,hV3,hV4,hb2⟩;dsimp only;refine hK.out _ _ ?_;clear hK K;have s2':=bth s1' hb2;have hy1:=hx1.below' s2';have hy2:=hx2.below' s2';obtain ⟨z0,z1,z2⟩:=cq3 hy1;obtain ⟨z3,z4,z5⟩:=cq3 hy2;obtain ⟨f0,f1,f2⟩:=fq3 hy1;obtain ⟨f3,f4,f5⟩:=fq3 hy2;have hne:¬ g=w.heap.size:=by omega
 have hne2:¬ w.heap.size=g:=by omega
 have HV1:=Hd hV1;have HV2:=Hd hV2;have HV3:=Hd hV3;have HV4:=Hd hV4;have hw2:=bth hb0 s2';have hs1:=s1'.size;have hs0:=hb1.size;clear hV1 hV2 hV3 hV4 k0 k1 k2 k3 k4 k5;refine qam rfl rfl (fun K hK=>?_);go_simp;refine hK.out _ _ ?_;clear hK K;refine qam rfl rfl (fun K hK=>?_);go_simp;refine hK.out _ _ ?_;clear hK K;refine qac ?_;have hF1:=(((blk3 (x:=.bool s1) (y:=.slice a1 (limbs N1).length c1) (z:=.slice a2 (limbs D1).length c2) hy1).far (p:=⟨g,0,none⟩) hne2 (.bool s2)).far (p:=⟨g,1,none⟩) hne2 (.slice a3 (limbs N2).length c3)).far (p:=⟨g,2,none⟩) hne2 (.slice a4 (limbs D2).length c4);have hF2:=blk3 (x:=.bool s2) (y:=.slice a3 (limbs N2).length c3) (z:=.slice a4 (limbs D2).length c4) (((hy2.far (p:=⟨w.heap.size,0,none⟩) hne (.bool s1)).far (p:=⟨w.heap.size,1,none⟩) hne (.slice a1 (limbs N1).length c1)).far (p:=⟨w.heap.size,2,none⟩) hne (.slice a2 (limbs D1).length c2))
 have hwF:=qbw (x:=.bool s2) (y:=.slice a3 (limbs N2).length c3) (z:=.slice a4 (limbs D2).length c4) (qbw (x:=.bool s1) (y:=.slice a1 (limbs N1).length c1) (z:=.slice a2 (limbs D1).length c2) hw2 (nlr _)) (Nat.le_of_lt hgB);have hN:=New.refl w0.heap.size (((((((w2.setCell ⟨w.heap.size,0,none⟩ (.bool s1)).setCell ⟨w.heap.size,1,none⟩ (.slice a1 (limbs N1).length c1)).setCell ⟨w.heap.size,2,none⟩ (.slice a2 (limbs D1).length c2)).setCell ⟨g,0,none⟩ (.bool s2)).setCell ⟨g,1,none⟩ (.slice a3 (limbs N2).length c3)).setCell ⟨g,2,none⟩ (.slice a4 (limbs D2).length c4)));have hN2:=back3 (back3 hN (nlr _) hgl) (nlr _) hx1.lt;revert hF1 hF2 hwF hN2
 generalize ((((((w2.setCell ⟨w.heap.size,0,none⟩ (.bool s1)).setCell ⟨w.heap.size,1,none⟩ (.slice a1 (limbs N1).length c1)).setCell ⟨w.heap.size,2,none⟩ (.slice a2 (limbs D1).length c2)).setCell ⟨g,0,none⟩ (.bool s2)).setCell ⟨g,1,none⟩ (.slice a3 (limbs N2).length c3)).setCell ⟨g,2,none⟩ (.slice a4 (limbs D2).length c4))=wF;intro hF1 hF2 hwF hN2;have r1:=HV1.out wF (hN2.below hb2);have r2:=HV2.out wF (hN2.below hb2);have r3:=HV3.out wF (hN2.base hs1);have r4:=HV4.out wF (hN2.base hs1);clear hN hy1 hy2 z0 z1 z2 z3 z4 z5 f0 f1 f2 f3 f4 f5 hx1 hx2 HV1 HV2 HV3 HV4 s0 s1' s2' hb1 hb2 hw2 hb0 hs1 hs0;have k0:=held (hF1.cell 0);have k1:=held (hF1.cell 1);have k2:=held (hF1.cell 2);have k3:=held (hF2.cell 0);have k4:=held (hF2.cell 1);have k5:=held (hF2.cell 2);have s0:Below wF.heap.size wF wF.drew:=brf.drew;have W1:=fun W=>qhe (limbs D2).length a4 c4 W
 have W2:=fun W=>qhe (limbs D1).length a2 c2 W
 replace W1:=Hd W1;replace W2:=Hd W2;go_wp2;refine wrx (S:=Below wF.heap.size wF) [(0,.q),(1,.q),(2,.q),(3,.q),(6,.q),(7,.q),(8,.q),(9,.q),(4,.l),(5,.l),(10,.l),(11,.t),(12,.t),(13,.p)] (s0) ?_
 iterate 8 (refine qab rfl rfl fun K hK=>xq ?_;go_simp;refine hK _ _ ?_;clear hK K)
 refine qal rfl rfl (fun K hK=>?_);go_simp;refine (W1.out _).mono ?_;rintro r w3 ⟨rfl,hb3⟩;dsimp only;refine hK.out _ _ (bth s0 hb3) (fun _=>?_);clear hK K;have t3:=bth s0 hb3;have CA:=CM1.out a1 a4 c1 c4 w3 (r1.ext (xbw t3)) (r4.ext (xbw t3));replace CA:=Hd CA;refine qal rfl rfl (fun K hK=>?_);go_simp;refine (CA.out).mono ?_;rintro r w4 ⟨a5,c5,rfl,hV5,hb4⟩;dsimp only;refine hK.out _ _ (bth t3 hb4) (fun _=>?_);clear hK K;have t4:=bth t3 hb4;have HV5:=Hd hV5;clear hV5;refine qal rfl rfl (fun K hK=>?_);go_simp;refine (W2.out _).mono ?_;rintro r w5 ⟨rfl,hb5⟩;dsimp only;refine hK.out _ _ (bth t4 hb5) (fun _=>?_);clear hK K;have t5:=bth t4 hb5;have CB:=CM2.out a3 a2 c3 c2 w5 (r3.ext (xbw t5)) (r2.ext (xbw t5));replace CB:=Hd CB;refine qam rfl rfl (fun K hK=>?_);go_simp;refine (CB.out).mono ?_;rintro r w6 ⟨a6,c6,rfl,hV6,hb6⟩;dsimp only;refine hK.out _ _ ?_;clear hK K;have t6:=bth t5 hb6
 have CD:=CC.out a5 a6 c5 c6 w6 (HV5.out w6 (((New.refl _ _).below hb6).below hb5)) (hV6 w6 (New.refl _ _));replace CD:=Hd CD;clear hV6;refine qam rfl rfl (fun K hK=>?_);go_simp;refine (CD.out).mono ?_;rintro r w7 ⟨rfl,hb7⟩;dsimp only;refine hK.out _ _ ?_;clear hK K;have t7:=bth t6 hb7
 iterate 1 (refine qae rfl rfl fun K hK=>xp ?_;go_simp;refine hK _ _ ?_;clear hK K)
 refine qac ?_;go_wp2;go_ret;exact ⟨rfl,bth hwF t7⟩
theorem qfp:limbs 1=[1]:=by rw [qbk (by omega)];simp [qai]
theorem qk6 (w:World):Calls Tryz.prog 151 #[] w (RetN (limbs 1) w):=by
 rw [qfp];go_enter Tryz.func151,Tryz.ntmps151;go_wp2;go_ret;refine ⟨some ⟨w.heap.size,0,none⟩,1,rfl,fun V hV=>?_,brf.alloc (nlr _) _⟩;exact BlkN.readsV (l:=[1]) (B:=w.heap.size) (Blk.new w _ _) (nlr _) hV (by intro x hx;simp at hx;omega) (by simp) (by simp [maxLen])
theorem qcs (neg:Bool) (l m:List Int) (a a':Option Addr) (c c':Nat) (w:World) (h':NatR w a' c' m) (h0:val m≠0) (hm:m.length<=16777216) :
  Calls Tryz.prog 104 #[.agg #[.bool neg,.slice a l.length c,.slice a' m.length c']] w fun e w' =>
   e=.returned (.tuple #[.agg #[.bool neg,.slice a l.length c],.slice a' m.length c'])/\Below w.heap.size w w':=by
 have CB:=fun W (hW:Below w.heap.size w W)=>qlo m (val m) a' c' W (h'.ext (xbw hW)) rfl hm
 replace CB:=Hd CB;have hx:Blk ((w.alloc (.cells #[.bool neg,.slice a l.length c,.slice a' m.length c'] 76)).alloc (.cells #[.bool false,.slice none 0 0] 74)) w.heap.size 76 #[.bool neg,.slice a l.length c,.slice a' m.length c']:=(Blk.new w _ _).alloc _;have hz:Blk ((w.alloc (.cells #[.bool neg,.slice a l.length c,.slice a' m.length c'] 76)).alloc (.cells #[.bool false,.slice none 0 0] 74)) (w.heap.size+1) 74 #[.bool false,.slice none 0 0]:=qay w _ _ _;have hb0:Below w.heap.size w ((w.alloc (.cells #[.bool neg,.slice a l.length c,.slice a' m.length c'] 76)).alloc (.cells #[.bool false,.slice none 0 0] 74)):=by go_grown
 have hgB:w.heap.size<w.heap.size+1:=by omega
 have hgl:=hz.lt;clear h';go_enter Tryz.func104,Tryz.ntmps104;go_wp2_with fail;revert hx hz hb0 hgB hgl;generalize (w.alloc (.cells #[.bool neg,.slice a l.length c,.slice a' m.length c'] 76)).alloc (.cells #[.bool false,.slice none 0 0] 74)=w0;generalize w.heap.size+1=g;intro hx hz hb0 hgB hgl;obtain ⟨z0,z1,z2⟩:=cq3 hx;go_wp2_with fail;refine (CB.out _ hb0).mono ?_;rintro e w1 ⟨b,rfl,hb,rfl⟩;have e0:((b:Int)==0)=false:=by rw [beq_eq_false_iff_ne];have:=hb.out.2.1 (by omega);omega
 clear hb h0;obtain ⟨y0,y1⟩:=cq2 hz;obtain ⟨f0,f1⟩:=fq2 hz;have k0:∀ W,Blk W w.heap.size 76 #[.bool neg,.slice a l.length c,.slice a' m.length c']->W.cell? ⟨w.heap.size,0,none⟩=some (.bool neg):=fun W h=>h.cell 0
 have k1:∀ W,Blk W w.heap.size 76 #[.bool neg,.slice a l.length c,.slice a' m.length c']->W.cell? ⟨w.heap.size,1,none⟩=some (.slice a l.length c):=fun W h=>h.cell 1
 have k2:∀ W,Blk W w.heap.size 76 #[.bool neg,.slice a l.length c,.slice a' m.length c']->W.cell? ⟨w.heap.size,2,none⟩=some (.slice a' m.length c'):=fun W h=>h.cell 2
 have s0:=hx.drew;have hne:¬ w.heap.size=g:=by omega
 go_wp2;refine wrx (S:=(fun W=>Blk W w.heap.size 76 #[.bool neg,.slice a l.length c,.slice a' m.length c'])) [(0,.q),(1,.q),(2,.q),(3,.q),(4,.l),(5,.p)] (s0) ?_
 iterate 4 (refine qab rfl rfl fun K hK=>xq ?_;go_simp;refine hK _ _ ?_;clear hK K)
 refine qal rfl rfl (fun K hK=>?_);go_simp;refine hK.out _ _ (((hx.far (p:=⟨g,0,none⟩) hne (.bool neg)).far (p:=⟨g,1,none⟩) hne (.slice a l.length c)).drew) (fun _=>?_);clear hK K
 iterate 1 (refine qae rfl rfl fun K hK=>xp ?_;go_simp;refine hK _ _ ?_;clear hK K)
 refine qac ?_;go_wp2;have hF:=(blk2 (x:=.bool neg) (y:=.slice a l.length c) hz).drew;obtain ⟨q0,q1⟩:=cq2 hF;refine bodyPost_ret (v:=.tuple #[.agg #[.bool neg,.slice a l.length c],.slice a' m.length c']) (by simp [results,Tryz.results104,go_sem,q0,q1]) rfl ?_;exact ⟨rfl,(qbh hb0 (Nat.le_of_lt hgB)).drew⟩
end Go.Proofs.YtnilkimcdgmgkaaGreatDoor
