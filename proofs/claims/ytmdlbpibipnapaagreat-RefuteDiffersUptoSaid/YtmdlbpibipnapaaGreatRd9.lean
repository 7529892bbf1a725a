/- Walks: the program's rational numbers: reduced, where neither is 0 nor the denominator 1. -/
import Derived.Test.YtmdlbpibipnapaaGreatRd7
import Derived.Test.YtmdlbpibipnapaaGreatRd8
import Derived.Test.YtmdlbpibipnapaaGreatRd4
import Derived.Test.YtmdlbpibipnapaaGreatRd2
import Derived.Test.YtmdlbpibipnapaaGreatRd1
set_option linter.all false
set_option maxRecDepth 100000
set_option maxHeartbeats 4000000
namespace Go.Proofs.YtmdlbpibipnapaaGreat
open Go.RowKit
theorem qj8 (neg1 neg2:Bool) (l m:List Int) (n1 n2:Nat) (a a':Option Addr) (c c':Nat) (w:World) (h:NatR w a c l) (h':NatR w a' c' m) (hn:val l=n1) (hk:val m=n2) (hl:l.length<=2000000) (hm:m.length<=2000000) :
  Calls Tryz.prog 186 #[.agg #[.bool neg1,.slice a l.length c],.agg #[.bool neg2,.slice a' m.length c']] w (RetZ ((neg1 != neg2)&&decide (0<n1*n2)) (n1*n2) w):=by
 have CM:=fun W (hW:bw w W)=>qkd l m n1 n2 a a' c c' W (h.ext (xbw hW)) (h'.ext (xbw hW)) hn hk oo oo
 have CF:=fun a c W=>qfa (neg1 != neg2) (n1*n2) a c W
 obtain ⟨R,hR⟩:=nm (((neg1 != neg2)&&decide (0<n1*n2)))
 rw [hR] at CF ⊢;have hR0:True:=trivial;revert CM CF;generalize n1*n2=n;intro CM CF;replace CM:=Hd CM;replace CF:=Hd CF;have hz:Blk (((w.alloc (.cells #[.bool neg1,.slice a l.length c] 30)).alloc (.cells #[.bool neg2,.slice a' m.length c'] 30)).alloc (.cells #[.bool false,.slice none 0 0] 30)) (w.heap.size+1+1) 30 #[.bool false,.slice none 0 0]:=qb6 w _ _ _ _;have hx1:Blk (((w.alloc (.cells #[.bool neg1,.slice a l.length c] 30)).alloc (.cells #[.bool neg2,.slice a' m.length c'] 30)).alloc (.cells #[.bool false,.slice none 0 0] 30)) w.heap.size 30 #[.bool neg1,.slice a l.length c]:=((Blk.new w _ _).alloc _).alloc _;have hx2:Blk (((w.alloc (.cells #[.bool neg1,.slice a l.length c] 30)).alloc (.cells #[.bool neg2,.slice a' m.length c'] 30)).alloc (.cells #[.bool false,.slice none 0 0] 30)) (w.heap.size+1) 30 #[.bool neg2,.slice a' m.length c']:=(qa5 w _ _ _).alloc _
 have hb0:Below w.heap.size w (((w.alloc (.cells #[.bool neg1,.slice a l.length c] 30)).alloc (.cells #[.bool neg2,.slice a' m.length c'] 30)).alloc (.cells #[.bool false,.slice none 0 0] 30)):=by go_grown
 have hgB:w.heap.size<=w.heap.size+1+1:=oo
 clear h h' hn hk hR;go_enter Tryz.func186,Tryz.ntmps186;go_wp2;revert hz hx1 hx2 hb0 hgB;generalize ((w.alloc (.cells #[.bool neg1,.slice a l.length c] 30)).alloc (.cells #[.bool neg2,.slice a' m.length c'] 30)).alloc (.cells #[.bool false,.slice none 0 0] 30)=w0;generalize w.heap.size+1+1=g;intro hz hx1 hx2 hb0 hgB;have k0:=held (hx1.cell 0);have k1:=held (hx1.cell 1);have k2:=held (hx2.cell 0);have k3:=held (hx2.cell 1);have s0:Below w0.heap.size w0 w0.drew:=brf.drew;have hgl:=hz.lt;have hs0:=hb0.size;have HR:=Hd hR0;clear hR0
 cases neg1 <;> cases neg2
 all_goals
  refine wrx (S:=Below w0.heap.size w0) [(0,.q),(1,.q),(2,.q),(3,.q),(4,.q),(5,.q),(6,.q),(7,.q),(8,.q),(9,.l),(10,.t),(11,.t)] (s0) ?_
  iterate 9 (refine qaf rfl rfl fun K hK=>xq ?_;go_simp;refine hK _ _ ?_;clear hK K)
  refine vl fun K hK=>?_
  go_simp;refine (CM.out _ (bth hb0 s0)).mono ?_;rintro r w1 ⟨a3,c3,rfl,hV3,hb1⟩;dsimp only;refine hK.out _ _ (bth s0 hb1) (fun _=>?_);clear hK K;have s1:=bth s0 hb1;have HV:=Hd hV3;clear hV3;refine vt fun K hK=>?_
  go_simp;refine (CF.out _ _ _).mono ?_;rintro r w2 ⟨rfl,hb2⟩;dsimp only;refine hK.out _ _ ?_;clear hK K;have s2:=bth s1 hb2;have hz3:=hz.below' s2;obtain ⟨z0,z1⟩:=cq2 hz3;obtain ⟨f0,f1⟩:=fq2 hz3;have hw2:=bth hb0 s2;clear k0 k1 k2 k3;refine vt fun K hK=>?_
  go_simp;refine hK.out _ _ ?_;clear hK K;refine qad ?_;go_wp2;have hF:=blk2 (x:=.bool R) (y:=.slice a3 (limbs n).length c3) hz3;obtain ⟨e0,e1⟩:=cq2 hF;refine bodyPost_ret (v:=.agg #[.bool R,.slice a3 (limbs n).length c3]) (by simp [results,Tryz.results186,go_sem,e0,e1]) rfl ?_;exact ⟨a3,c3,rfl,fun V hV=>HV.out V ((back2 hV hs0 hgl).below hb2),qbt hw2 hgB⟩
theorem zz22 {P:Prop} (h:P:=by
 go_wp2;go_roundg (gk-1)
 case rel=>exact ⟨j+1,1,O.set j (d:Int),by have:=HJG.out;omega,oo,by go_num,rfl,by show _=_;rw [List.length_set];exact hol.out,hou.set_ oo,HSET.out d,hwr.setCell hw1s _,by show _=_;rw [HTK.out];exact HST.out⟩
 case measure=>have:=HJG.out;omega
 ):P:=h
theorem zz23 {P:Prop} (h:P:=by
 go_wp2;go_roundg (gk-1)
 case rel=>exact ⟨j+1,0,O.set j (d:Int),by have:=HJG.out;omega,oo,by go_num,rfl,by show _=_;rw [List.length_set];exact hol.out,hou.set_ oo,HSET.out d,hwr.setCell hw1s _,by show _=_;rw [HTK.out];exact HST.out⟩
 case measure=>have:=HJG.out;omega
 ):P:=h
theorem qpx (l m:List Int) (n k:Nat) (a a':Option Addr) (c c':Nat) (w:World) (h:NatR w a c l) (h':NatR w a' c' m) (hn:val l=n) (hk:val m=k) (hl:l.length<=16777215) (hm:m.length<=16777216) (hge:k<=n) :
  Calls Tryz.prog 194 #[.slice a l.length c,.slice a' m.length c'] w (RetNE (limbs (n-k)) 0 w):=by
 have C:=qhi l m n k a a' c c' w h h' hn hk;have hc:0<=cmpN n k:=ql9.2 hge;have C1:=fun W (hW:bw w W)=>qa4 l a c W (h.ext (xbw hW))
 have C2:=fun W (hW:bw w W)=>qa4 m a' c' W (h'.ext (xbw hW))
 have hP:=h.trim;have hQ:=h'.trim;have hl1:=qah h.u16;have hl2:=qah h'.u16;rw [hn] at C1 hP hl1;rw [hk] at C2 hQ hl2;have hup:=qa9 n;have huq:=qa9 k;have hvp:=qac n;have hvq:=qac k;revert C hc;generalize cmpN n k=q;intro C hc;have hcf:decide (q<0)=false:=by simp;omega
 obtain ⟨M,hM⟩:=nm (n-k)
 rw [hM];have HM:=Hd hM;have HGE:=Hd hge;have hT0:(limbs n).length<=16777215:=oo
 clear hl1 hl2 h h' hn hk hM hc hge;revert C1 C2 hP hQ hup huq hvp hvq hT0;generalize limbs n=T;generalize limbs k=U;intro C1 C2 hP hQ hup huq hvp hvq hT0;have HP:=Hd hP;have HQ:=Hd hQ;have HVP:=Hd hvp;have HVQ:=Hd hvq;replace C:=Hd C;replace C1:=Hd C1;replace C2:=Hd C2;clear hP hQ hvp hvq;go_enter Tryz.func194,Tryz.ntmps194;go_wp2_with fail;refine C.out.mono ?_;rintro e w1 ⟨rfl,hb1⟩;go_wp2_with fail;refine (C1.out _ hb1).mono ?_;rintro e w2 ⟨rfl,rfl⟩;go_wp2_with fail;refine (C2.out _ hb1).mono ?_;rintro e w2 ⟨rfl,rfl⟩;have hmk:=qco .i64 T.length oo w1;go_wp2;clear hmk C C1 C2 hcf;have hz:=BlkN.new w1 T.length;have hw1s:=hb1.size;have hb0:Below w.heap.size w (w1.alloc (.cells (madeCells #[.int .u16 0] T.length) 105)):=hb1.alloc hb1.size _;revert hz hb0;generalize w1.alloc (.cells (madeCells #[.int .u16 0] T.length) 105)=w0;obtain ⟨B,hB⟩:∃ B,B=w1.heap.size:=⟨_,rfl⟩
 rw [<- hB] at hw1s ⊢;clear hB;intro hz hb0
 go_loopg [7,8,9,10,24] T.length (fun g s7 _ _ _ s24 wr=>∃ (j bo:Nat) (O:List Int),j+g=T.length/\bo<=1/\s24=.int .i64 j/\s7=.int .i32 bo/\Hid (O.length=T.length)/\U16 O/\BlkN wr B O/\Below w.heap.size w wr /\
  Hid (val (T.take j)+65536 ^ j*bo=val (U.take j)+val (O.take j)))
 case atStart=>exact ⟨0,0,_,oo,oo,rfl,rfl,by show _=_;simp,qbw _,hz,hb0,by show _=_;simp [val]⟩
 case round =>
  clear hz hb0;obtain ⟨j,bo,O,hjg,hbo,rfl,rfl,hol,hou,hrow,hwr,hval⟩:=hrel;have HROW:=Hd hrow;have HJG:=Hd hjg;clear hrow hjg;by_cases hlt:j<T.length
  ·
   obtain ⟨x,hx⟩:=qab hlt;obtain ⟨hx0,hx1⟩:=hup.get hx;obtain ⟨bp,op,rfl,hcp⟩:=(HP.out.ext (xbw hwr)).cell hx;have hkO:j<O.length:=by rw [hol.out];exact hlt
   obtain ⟨z,hz⟩:=qab hkO;have hcell:=HROW.out.cell hz;have hfr:=HROW.out.frozen j;have hsx:=qax hx;have hset:=fun q:Int=>HROW.out.set_ j q
   have HSET:=Hd hset;have htk:=fun q:Int=>qfz hkO q
   have hstep:=fun bo2 d h1=>qok T U (O.take j) j bo bo2 d (by rw [List.length_take];omega) hval.out h1
   rw [hsx] at hstep;obtain ⟨y,rfl⟩:∃ y:Nat,x=(y:Int):=⟨x.toNat,oo⟩
   rw [Int.toNat_natCast] at hstep;have HTK:=Hd htk;have HSTEP:=Hd hstep;clear hset hstep htk hval hx hsx hz;by_cases hkn:j<U.length
   ·
    obtain ⟨t,ht⟩:=qab hkn;obtain ⟨bq,oq,rfl,hcq⟩:=(HQ.out.ext (xbw hwr)).cell ht;obtain ⟨ht0,ht1⟩:=huq.get ht;obtain ⟨t,rfl⟩:∃ s:Nat,t=(s:Int):=⟨t.toNat,oo⟩
    have HST:=HSTEP.out;rw [qax ht,Int.toNat_natCast] at HST;clear ht HSTEP;by_cases hneg:(y:Int)-bo-t<0
    ·
     obtain ⟨d,hd⟩:∃ d:Nat,(y:Int)-bo-t+65536=(d:Int):=⟨((y:Int)-bo-t+65536).toNat,oo⟩
     have hd65:d<=65535:=oo
     replace HST:=Hd (HST 1 d oo);exact zz22
    ·
     obtain ⟨d,hd⟩:∃ d:Nat,(y:Int)-bo-t=(d:Int):=⟨((y:Int)-bo-t).toNat,oo⟩
     have hd65:d<=65535:=oo
     replace HST:=Hd (HST 0 d oo);exact zz23
   ·
    have HST:=HSTEP.out;rw [qb1 oo] at HST;clear HSTEP;by_cases hneg:(y:Int)-bo<0
    ·
     obtain ⟨d,hd⟩:∃ d:Nat,(y:Int)-bo+65536=(d:Int):=⟨((y:Int)-bo+65536).toNat,oo⟩
     have hd65:d<=65535:=oo
     replace HST:=Hd (HST 1 d (by simp;omega));exact zz22
    ·
     obtain ⟨d,hd⟩:∃ d:Nat,(y:Int)-bo=(d:Int):=⟨((y:Int)-bo).toNat,oo⟩
     have hd65:d<=65535:=oo
     replace HST:=Hd (HST 0 d (by simp;omega));exact zz23
  ·
   obtain rfl:j=T.length:=by have:=HJG.out;omega
   have hvO:val O=M:=by
    have h1:=qrc (o:=O) hup huq hou hol.out (by have:=hval.out;rw [qaz (l:=O) (by rw [hol.out];omega)] at this;exact this) (by rw [HVP.out,HVQ.out];exact HGE.out);rw [h1,HVP.out,HVQ.out];exact HM.out
   have hcap:T.length<=maxLen:=by unfold maxLen;omega
   have CT:=qa4 O (some ⟨B,0,none⟩) T.length wr (HROW.out.readsV (nlr _) (New.refl _ _) hou (by rw [hol.out];omega) hcap);have hread:∀ V,New w.heap.size wr V->NatR V (some ⟨B,0,none⟩) T.length (limbs M):=fun V hV=>by
    rw [<- hvO];exact (HROW.out.readsV hw1s hV hou (by rw [hol.out];omega) hcap).trim
   rw [hvO,hol.out] at CT;have HRD:=Hd hread;replace CT:=Hd CT;clear hread hvO hval;go_wp2_with fail;refine CT.out.mono ?_;rintro e w3 ⟨rfl,rfl⟩;go_wp2;go_ret2;exact ⟨_,_,rfl,HRD.out,hwr⟩
def NewIn (B T:Nat) (w V:World):Prop:=∀ p v,B<=p.block->p.block<T->w.cell? p=some v->V.cell? p=some v
def Kp (R:World->Prop) (B T:Nat) (w:World):Prop:=∀ V,NewIn B T w V->R V
section
variable {R R' : World -> Prop} {B T : Nat} {w w' : World}
theorem Kp.now (h:Kp R B T w):R w:=h w fun _ _ _ _ h=>h
theorem Kp.imp (h:Kp R B T w) (e:∀ V,R V->R' V):Kp R' B T w:=fun V hV=>e V (h V hV)
theorem Kp.alloc (h:Kp R B T w) {o:Obj}:Kp R B T (w.alloc o):=fun V hV=>h V fun p v h1 h2 h3=>hV p v h1 h2 ((World.cell?_alloc_lt w o p (World.block_lt_of_cell? w p h3)).trans h3)
theorem Kp.drew (h:Kp R B T w):Kp R B T w.drew:=h
theorem Kp.setc {g i:Nat} {u:Value} (hg:g<B\/T<=g) (h:Kp R B T w):Kp R B T (w.setCell ⟨g,i,none⟩ u):=fun V hV=>h V fun p v h1 h2 h3 =>
 hV p v h1 h2 ((World.cell?_setCell_other w ⟨g,i,none⟩ p u (fun e=>by subst e;simp at h1 h2;omega)).trans h3)
theorem Kp.call (h:Kp R B T w) (hb:Below w.heap.size w w'):Kp R B T w':=fun V hV=>h V fun p v h1 h2 h3=>hV p v h1 h2 ((hb.cell (World.block_lt_of_cell? w p h3)).trans h3)
theorem Kp.made (h:∀ V,New B w V->R V):Kp R B w.heap.size w:=fun V hV=>h V fun p v h1 h2=>hV p v h1 (World.block_lt_of_cell? w p h2) h2
theorem Kp.fin (h:Kp R B T w) {B':Nat} (hB:B'<=B):∀ V,New B' w V->R V:=fun V hV=>h V fun p v h1 _ h3=>hV p v (Nat.le_trans hB h1) h3
end
section
variable {w w' : World} {g g2 i : Nat} {t : TypeId} {cs cs' : Array Value} {u : Value}
theorem Blk.newAt (h:g=w.heap.size):Blk (w.alloc (.cells cs t)) g t cs:=by subst h;exact Blk.new w t cs
theorem Blk.farAt (hg:g≠g2) (h:Blk w g t cs):Blk (w.setCell ⟨g2,i,none⟩ u) g t cs:=h.far (p:=⟨g2,i,none⟩) hg u
theorem Blk.setb (h:Blk w g t cs') (e:cs'.setIfInBounds i u=cs):Blk (w.setCell ⟨g,i,none⟩ u) g t cs:=e ▸ h.set_ i u
theorem bF (hg:g≠g2) (h:Blk w g t cs):Blk (w.setCell ⟨g2,i,none⟩ u) g t cs:=h.farAt hg
theorem bS (h:Blk w g t cs') (e:cs'.setIfInBounds i u=cs):Blk (w.setCell ⟨g,i,none⟩ u) g t cs:=h.setb e
theorem bN (h:g=w.heap.size):Blk (w.alloc (.cells cs t)) g t cs:=Blk.newAt h
theorem bA {o:Obj} (h:Blk w g t cs):Blk (w.alloc o) g t cs:=h.alloc o
theorem bD (h:Blk w g t cs):Blk w.drew g t cs:=h.drew
end
theorem qae {P:Program} {f:Nat} {args:Array Value} {W:World} {Q:Ending->World->Prop} (R:World->Prop) (hR:R W) (h:∀ W',R W'->Calls P f args W' Q):Calls P f args W Q:=h W hR
theorem qaa {G:World->Prop} {W:World} (R:World->Prop) (hR:R W) (h:∀ W',R W'->G W'):G W:=h W hR
theorem qmy (neg:Bool) (n1 n2:Nat):zval neg n1+zval neg n2=zval neg (n1+n2):=by unfold zval;cases neg <;> simp;omega
theorem qlh {neg1 neg2:Bool} (h:neg1≠neg2) (n1 n2:Nat):(n2<=n1->zval neg1 n1+zval neg2 n2=zval neg1 (n1-n2))/\(n1<=n2->zval neg1 n1+zval neg2 n2=zval neg2 (n2-n1)):=by
 unfold zval;cases neg1 <;> cases neg2 <;> simp at h ⊢ <;> omega
theorem qyg (neg:Bool) (n:Nat):decide (zval neg n<0)=(neg&&decide (0<n)):=by
 unfold zval;cases neg <;> simp
theorem qw8 (neg:Bool) (n:Nat):(zval neg n).natAbs=n:=by unfold zval;split <;> omega
def RetI (z:Int) (w:World) (e:Ending) (w':World):Prop:=RetZ (decide (z<0)) z.natAbs w e w'
theorem qf9 {neg:Bool} {n:Nat} {z:Int} {w:World} {e:Ending} {w':World} (hz:z=zval neg n) (h:RetZ (neg&&decide (0<n)) n w e w'):RetI z w e w':=by
 subst hz;unfold RetI;rw [qyg,qw8];exact h
theorem qt9 (neg1:Bool) (l m:List Int) (n1 n2:Nat) (a a':Option Addr) (c c':Nat) (w:World) (h:NatR w a c l) (h':NatR w a' c' m) (hn:val l=n1) (hk:val m=n2) (hl:l.length<=4000000) (hm:m.length<=4000000) :
  Calls Tryz.prog 192 #[.agg #[.bool neg1,.slice a l.length c],.agg #[.bool neg1,.slice a' m.length c']] w (RetI (zval neg1 n1+zval neg1 n2) w):=by
 have CA:=fun W (hW:bw w W)=>qx8 l m n1 n2 a a' c c' W (h.ext (xbw hW)) (h'.ext (xbw hW)) hn hk oo oo
 have CF:=fun a c W=>qfa neg1 (n1+n2) a c W
 refine Calls.mono ?_ fun _ _=>qf9 (qmy neg1 n1 n2)
 obtain ⟨R,hR⟩:=nm ((neg1&&decide (0<n1+n2)))
 rw [hR] at CF ⊢;revert CA CF;generalize n1+n2=n;intro CA CF;replace CA:=Hd CA;replace CF:=Hd CF;clear h h' hn hk hR;have hx1:=qb6 w (.cells #[.bool neg1,.slice a l.length c] 30) (.cells #[.bool neg1,.slice a' m.length c'] 30) 30 #[.bool false,.slice none 0 0];have hz:Blk (((w.alloc (.cells #[.bool neg1,.slice a l.length c] 30)).alloc (.cells #[.bool neg1,.slice a' m.length c'] 30)).alloc (.cells #[.bool false,.slice none 0 0] 30)) (w.heap.size+1+1) 30 #[.bool false,.slice none 0 0]:=hx1;have hx1:Blk (((w.alloc (.cells #[.bool neg1,.slice a l.length c] 30)).alloc (.cells #[.bool neg1,.slice a' m.length c'] 30)).alloc (.cells #[.bool false,.slice none 0 0] 30)) w.heap.size 30 #[.bool neg1,.slice a l.length c]:=((Blk.new w _ _).alloc _).alloc _
 have hx2:Blk (((w.alloc (.cells #[.bool neg1,.slice a l.length c] 30)).alloc (.cells #[.bool neg1,.slice a' m.length c'] 30)).alloc (.cells #[.bool false,.slice none 0 0] 30)) (w.heap.size+1) 30 #[.bool neg1,.slice a' m.length c']:=(qa5 w _ _ _).alloc _;have hb0:Below w.heap.size w (((w.alloc (.cells #[.bool neg1,.slice a l.length c] 30)).alloc (.cells #[.bool neg1,.slice a' m.length c'] 30)).alloc (.cells #[.bool false,.slice none 0 0] 30)):=by go_grown
 have hg2:w.heap.size<w.heap.size+1+1:=oo
 go_enter Tryz.func192,Tryz.ntmps192;go_wp2;revert hz hx1 hx2 hb0 hg2;generalize ((w.alloc (.cells #[.bool neg1,.slice a l.length c] 30)).alloc (.cells #[.bool neg1,.slice a' m.length c'] 30)).alloc (.cells #[.bool false,.slice none 0 0] 30)=w0;generalize w.heap.size+1+1=g3;generalize w.heap.size+1=g2;intro hz hx1 hx2 hb0 hg2;have hs0:=hb0.size;have hgl:=hz.lt;have k0:=held (hx1.cell 0);have k1:=held (hx1.cell 1);have k2:=held (hx2.cell 1);have s0:Below w0.heap.size w0 w0.drew:=brf.drew;refine wrx (S:=Below w0.heap.size w0) [(0,.q),(1,.q),(2,.q),(3,.q),(4,.q),(5,.q),(6,.l),(7,.t),(8,.t)] (s0) ?_
 iterate 6 (refine qaf rfl rfl fun K hK=>xq ?_;go_simp;refine hK _ _ ?_;clear hK K)
 refine vl fun K hK=>?_
 go_simp;refine (CA.out _ (bth hb0 s0)).mono ?_;rintro r w1 ⟨a3,c3,rfl,hV3,hb1⟩;dsimp only;refine hK.out _ _ (bth s0 hb1) (fun _=>?_);clear hK K;have s1:=bth s0 hb1;have HV:=Hd hV3;clear hV3;refine vt fun K hK=>?_
 go_simp;refine (CF.out a3 c3 _).mono ?_;rintro r w2 ⟨rfl,hb2⟩;dsimp only;refine hK.out _ _ ?_;clear hK K;obtain ⟨a4,rfl⟩:∃ a4,a4=a3:=⟨_,rfl⟩
 obtain ⟨c4,rfl⟩:∃ c4,c4=c3:=⟨_,rfl⟩
 have s2:=bth s1 hb2;have hz3:=hz.below' s2;obtain ⟨z0,z1⟩:=cq2 hz3;obtain ⟨f0,f1⟩:=fq2 hz3;have hw2:=bth hb0 s2;clear k0 k1 k2;refine vt fun K hK=>?_
 go_simp;refine hK.out _ _ ?_;clear hK K;refine qad ?_;go_wp2;have hF:=blk2 (x:=.bool R) (y:=.slice a4 (limbs n).length c4) hz3;obtain ⟨e0,e1⟩:=cq2 hF;refine bodyPost_ret (v:=.agg #[.bool R,.slice a4 (limbs n).length c4]) (by simp [results,Tryz.results192,go_sem,e0,e1]) rfl ?_;exact ⟨a4,c4,rfl,fun V hV=>HV.out V ((back2 hV hs0 hgl).below hb2),qbt hw2 (Nat.le_of_lt hg2)⟩
theorem qr6 (neg1:Bool) (l m:List Int) (n1 n2:Nat) (a a':Option Addr) (c c':Nat) (w:World) (h:NatR w a c l) (h':NatR w a' c' m) (hn:val l=n1) (hk:val m=n2) (hl:l.length<=4000000) (hm:m.length<=4000000) :
  Calls Tryz.prog 169 #[.agg #[.bool neg1,.slice a l.length c],.agg #[.bool neg1,.slice a' m.length c']] w (RetI (zval neg1 n1+zval neg1 n2) w):=by
 have hll:=qah h.u16;have hlm:=qah h'.u16;rw [hn] at hll;rw [hk] at hlm;have hp:=qdm n1 n2;have hsum:(limbs (n1+n2)).length<=4000001:=oo
 have CA:=fun W (hW:bw w W)=>qm9 l m n1 n2 a a' c c' W (h.ext (xbw hW)) (h'.ext (xbw hW)) hn hk oo oo
 have CF:=fun a c W h=>qei neg1 (limbs (n1+n2)) (n1+n2) a c W h (qac _) oo
 refine Calls.mono ?_ fun _ _=>qf9 (qmy neg1 n1 n2)
 obtain ⟨R,hR⟩:=nm ((neg1&&decide (0<n1+n2)))
 rw [hR] at CF ⊢;revert CA CF;generalize n1+n2=n;intro CA CF;replace CA:=Hd CA;replace CF:=Hd CF;clear h h' hn hk hR;have hx1:=qb6 w (.cells #[.bool neg1,.slice a l.length c] 30) (.cells #[.bool neg1,.slice a' m.length c'] 30) 30 #[.bool false,.slice none 0 0];have hz:Blk (((w.alloc (.cells #[.bool neg1,.slice a l.length c] 30)).alloc (.cells #[.bool neg1,.slice a' m.length c'] 30)).alloc (.cells #[.bool false,.slice none 0 0] 30)) (w.heap.size+1+1) 30 #[.bool false,.slice none 0 0]:=hx1;have hx1:Blk (((w.alloc (.cells #[.bool neg1,.slice a l.length c] 30)).alloc (.cells #[.bool neg1,.slice a' m.length c'] 30)).alloc (.cells #[.bool false,.slice none 0 0] 30)) w.heap.size 30 #[.bool neg1,.slice a l.length c]:=((Blk.new w _ _).alloc _).alloc _
 have hx2:Blk (((w.alloc (.cells #[.bool neg1,.slice a l.length c] 30)).alloc (.cells #[.bool neg1,.slice a' m.length c'] 30)).alloc (.cells #[.bool false,.slice none 0 0] 30)) (w.heap.size+1) 30 #[.bool neg1,.slice a' m.length c']:=(qa5 w _ _ _).alloc _;have hb0:Below w.heap.size w (((w.alloc (.cells #[.bool neg1,.slice a l.length c] 30)).alloc (.cells #[.bool neg1,.slice a' m.length c'] 30)).alloc (.cells #[.bool false,.slice none 0 0] 30)):=by go_grown
 have hg2:w.heap.size<w.heap.size+1+1:=oo
 go_enter Tryz.func169,Tryz.ntmps169;go_wp2;revert hz hx1 hx2 hb0 hg2;generalize ((w.alloc (.cells #[.bool neg1,.slice a l.length c] 30)).alloc (.cells #[.bool neg1,.slice a' m.length c'] 30)).alloc (.cells #[.bool false,.slice none 0 0] 30)=w0;generalize w.heap.size+1+1=g3;generalize w.heap.size+1=g2;intro hz hx1 hx2 hb0 hg2;have hs0:=hb0.size;have hgl:=hz.lt;have k0:=held (hx1.cell 0);have k1:=held (hx1.cell 1);have k2:=held (hx2.cell 1);have s0:Below w0.heap.size w0 w0.drew:=brf.drew;refine wrx (S:=Below w0.heap.size w0) [(0,.q),(1,.q),(2,.q),(3,.q),(4,.q),(5,.q),(6,.l),(7,.t),(8,.t)] (s0) ?_
 iterate 6 (refine qaf rfl rfl fun K hK=>xq ?_;go_simp;refine hK _ _ ?_;clear hK K)
 refine vl fun K hK=>?_
 go_simp;refine (CA.out _ (bth hb0 s0)).mono ?_;rintro r w1 ⟨a3,c3,rfl,hV3,hb1⟩;dsimp only;refine hK.out _ _ (bth s0 hb1) (fun _=>?_);clear hK K;have s1:=bth s0 hb1;have hr3:=hV3 w1 (New.refl _ _);clear hV3;refine vt fun K hK=>?_
 go_simp;refine (CF.out _ _ _ hr3).mono ?_;rintro r w2 ⟨a4,c4,rfl,hV,hb2⟩;dsimp only;refine hK.out _ _ ?_;clear hK K;have HV:=Hd hV;clear hV hr3;have hs1:=(bth hb0 s1).size;have hg1:g3<w1.heap.size:=ltl hgl s1.size;have s2:=bth s1 hb2;have hz3:=hz.below' s2;obtain ⟨z0,z1⟩:=cq2 hz3;obtain ⟨f0,f1⟩:=fq2 hz3;have hw2:=bth hb0 s2;clear k0 k1 k2;refine vt fun K hK=>?_
 go_simp;refine hK.out _ _ ?_;clear hK K;refine qad ?_;go_wp2;have hF:=blk2 (x:=.bool R) (y:=.slice a4 (limbs n).length c4) hz3;obtain ⟨e0,e1⟩:=cq2 hF;refine bodyPost_ret (v:=.agg #[.bool R,.slice a4 (limbs n).length c4]) (by simp [results,Tryz.results169,go_sem,e0,e1]) rfl ?_;exact ⟨a4,c4,rfl,fun V hV=>HV.out V (back2 hV hs1 hg1),qbt hw2 (Nat.le_of_lt hg2)⟩
theorem qsd (neg1 neg2:Bool) (l m:List Int) (n1 n2:Nat) (a a':Option Addr) (c c':Nat) (w:World) (h:NatR w a c l) (h':NatR w a' c' m) (hn:val l=n1) (hk:val m=n2) (hl:l.length<=4000000) (hm:m.length<=4000000) (hne:neg1≠neg2) :
  Calls Tryz.prog 192 #[.agg #[.bool neg1,.slice a l.length c],.agg #[.bool neg2,.slice a' m.length c']] w (RetI (zval neg1 n1+zval neg2 n2) w):=by
 have hsum:=qlh hne n1 n2;have hbe:(neg1==neg2)=false:=by simpa using hne
 have CC:=fun W (hW:bw w W)=>qhi l m n1 n2 a a' c c' W (h.ext (xbw hW)) (h'.ext (xbw hW)) hn hk
 by_cases hlt:n1<n2
 ·
  have CS:=fun W (hW:bw w W)=>qpx m l n2 n1 a' a c' c W (h'.ext (xbw hW)) (h.ext (xbw hW)) hk hn oo oo oo
  have CF:=fun a c W=>qfa neg2 (n2-n1) a c W
  refine Calls.mono ?_ fun _ _=>qf9 (hsum.2 oo)
  have hc:cmpN n1 n2 = -1:=by unfold cmpN;rw [if_pos hlt]
  rw [hc] at CC;obtain ⟨R,hR⟩:=nm ((neg2&&decide (0<n2-n1)))
  rw [hR] at CF ⊢;unfold RetNE at CS;revert CS CF;generalize n2-n1=n;intro CS CF;replace CC:=Hd CC;replace CS:=Hd CS;replace CF:=Hd CF;clear h h' hn hk hR hsum hne hc hlt;go_enter Tryz.func192,Tryz.ntmps192;go_wp2_with fail;refine qae (fun W=>Blk W w.heap.size 30 #[.bool neg1,.slice a l.length c]/\Blk W (w.heap.size+1) 30 #[.bool neg2,.slice a' m.length c']/\Blk W (w.heap.size+1+1) 30 #[.bool false,.slice none 0 0]/\Below w.heap.size w W/\w.heap.size<w.heap.size+1/\w.heap.size+1<w.heap.size+1+1/\w.heap.size+1+1<W.heap.size) ⟨((Blk.new w _ _).alloc _).alloc _,(qa5 w _ _ _).alloc _,qb6 w _ _ _ _,zg,oo,oo,by simp⟩ ?_;rintro w0 ⟨hx1,hx2,hz,hw0,hg1,hg2,hg3⟩;revert hx1 hx2 hz hg1 hg2 hg3;generalize w.heap.size+1+1=g3;generalize w.heap.size+1=g2;intro hx1 hx2 hz hg1 hg2 hg3;obtain ⟨z0,z1⟩:=cq2 hx1;obtain ⟨z2,z3⟩:=cq2 hx2;refine (CC.out _ hw0).mono ?_;rintro e w1 ⟨rfl,hb1⟩
  replace hx1:=hx1.below' hb1;replace hx2:=hx2.below' hb1;replace hz:=hz.below' hb1;have hw1:=bth hw0 hb1;have hs1:=hb1.size;clear z0 z1 z2 z3;obtain ⟨z0,z1⟩:=cq2 hx1;obtain ⟨z2,z3⟩:=cq2 hx2;obtain ⟨f0,f1⟩:=fq2 hx1;obtain ⟨f2,f3⟩:=fq2 hx2;have hn1:¬ g2=w.heap.size:=oo
  have hn2:¬ w.heap.size=g2:=oo
  go_wp2_with fail;refine qae (fun W=>Blk W w.heap.size 30 #[.bool neg2,.slice a' m.length c']/\Blk W g3 30 #[.bool false,.slice none 0 0]/\Below w.heap.size w W/\w1.heap.size<=W.heap.size) ⟨bk,bk,zg,by simp⟩ ?_;rintro w2 ⟨hx,hy,hw2,hs2⟩;clear z0 z1 z2 z3 f0 f1 f2 f3 hx1 hx2 hz;refine (CS.out _ hw2).mono ?_;rintro e w3 ⟨a3,c3,rfl,hV,hb3⟩;have HV:=Hd hV;replace hx:=hx.below' hb3;replace hy:=hy.below' hb3;have hw3:=bth hw2 hb3;have hs3:=hb3.size;have z0:=hx.cell 0;clear hV;go_wp2_with fail;refine (CF.out a3 c3 _).mono ?_;rintro e w4 ⟨rfl,hb4⟩;replace hy:=hy.below' hb4;have hw4:=bth hw3 hb4;clear z0 hx
  obtain ⟨z0,z1⟩:=cq2 hy;obtain ⟨f0,f1⟩:=fq2 hy;go_wp2;have hF:=blk2 (x:=.bool R) (y:=.slice a3 (limbs n).length c3) hy;obtain ⟨e0,e1⟩:=cq2 hF;refine bodyPost_ret (v:=.agg #[.bool R,.slice a3 (limbs n).length c3]) (by simp [results,Tryz.results192,go_sem,e0,e1]) rfl ?_;exact ⟨a3,c3,rfl,fun V hV=>HV.out V ((back2 hV hw2.size (show g3<w2.heap.size by omega)).below hb4),qbt hw4 oo⟩
 ·
  have CS:=fun W (hW:bw w W)=>qpx l m n1 n2 a a' c c' W (h.ext (xbw hW)) (h'.ext (xbw hW)) hn hk oo oo oo
  have CF:=fun a c W=>qfa neg1 (n1-n2) a c W
  refine Calls.mono ?_ fun _ _=>qf9 (hsum.1 oo)
  have hc:0<=cmpN n1 n2:=ql9.2 oo;revert CC hc;generalize cmpN n1 n2=q;intro CC hc;have hq:¬ q<0:=oo
  obtain ⟨R,hR⟩:=nm ((neg1&&decide (0<n1-n2)))
  rw [hR] at CF ⊢;unfold RetNE at CS;revert CS CF;generalize n1-n2=n;intro CS CF;replace CC:=Hd CC;replace CS:=Hd CS;replace CF:=Hd CF;clear h h' hn hk hR hsum hne hc hlt;go_enter Tryz.func192,Tryz.ntmps192;go_wp2_with fail;refine qae (fun W=>Blk W w.heap.size 30 #[.bool neg1,.slice a l.length c]/\Blk W (w.heap.size+1) 30 #[.bool neg2,.slice a' m.length c']/\Blk W (w.heap.size+1+1) 30 #[.bool false,.slice none 0 0]/\Below w.heap.size w W/\w.heap.size<w.heap.size+1/\w.heap.size+1<w.heap.size+1+1/\w.heap.size+1+1<W.heap.size) ⟨((Blk.new w _ _).alloc _).alloc _,(qa5 w _ _ _).alloc _,qb6 w _ _ _ _,zg,oo,oo,by simp⟩ ?_;rintro w0 ⟨hx1,hx2,hz,hw0,hg1,hg2,hg3⟩;revert hx1 hx2 hz hg1 hg2 hg3;generalize w.heap.size+1+1=g3;generalize w.heap.size+1=g2;intro hx1 hx2 hz hg1 hg2 hg3;obtain ⟨z0,z1⟩:=cq2 hx1;obtain ⟨z2,z3⟩:=cq2 hx2;refine (CC.out _ hw0).mono ?_;rintro e w1 ⟨rfl,hb1⟩
  replace hx1:=hx1.below' hb1;replace hx2:=hx2.below' hb1;replace hz:=hz.below' hb1;have hw1:=bth hw0 hb1;have hs1:=hb1.size;clear z0 z1 z2 z3;obtain ⟨z0,z1⟩:=cq2 hx1;obtain ⟨z2,z3⟩:=cq2 hx2;go_wp2_with fail;refine (CS.out _ hw1).mono ?_;rintro e w3 ⟨a3,c3,rfl,hV,hb3⟩;have HV:=Hd hV;replace hx1:=hx1.below' hb3;replace hz:=hz.below' hb3;have hw3:=bth hw1 hb3;have hs3:=hb3.size;clear hV z0 z1 z2 z3 hx2;have z0:=hx1.cell 0;go_wp2_with fail;refine (CF.out a3 c3 _).mono ?_;rintro e w4 ⟨rfl,hb4⟩;replace hz:=hz.below' hb4;have hw4:=bth hw3 hb4;clear z0 hx1;obtain ⟨z0,z1⟩:=cq2 hz;obtain ⟨f0,f1⟩:=fq2 hz;go_wp2;have hF:=blk2 (x:=.bool R) (y:=.slice a3 (limbs n).length c3) hz;obtain ⟨e0,e1⟩:=cq2 hF;refine bodyPost_ret (v:=.agg #[.bool R,.slice a3 (limbs n).length c3]) (by simp [results,Tryz.results192,go_sem,e0,e1]) rfl ?_
  exact ⟨a3,c3,rfl,fun V hV=>HV.out V ((back2 hV hw1.size (show g3<w1.heap.size by omega)).below hb4),qbt hw4 oo⟩
theorem qpl (neg1 neg2:Bool) (l m:List Int) (n1 n2:Nat) (a a':Option Addr) (c c':Nat) (w:World) (h:NatR w a c l) (h':NatR w a' c' m) (hn:val l=n1) (hk:val m=n2) (hl:l.length<=4000000) (hm:m.length<=4000000) :
  Calls Tryz.prog 192 #[.agg #[.bool neg1,.slice a l.length c],.agg #[.bool neg2,.slice a' m.length c']] w (RetI (zval neg1 n1+zval neg2 n2) w):=by
 by_cases hne:neg1=neg2
 ·
  subst hne;exact qt9 neg1 l m n1 n2 a a' c c' w h h' hn hk hl hm
 · exact qsd neg1 neg2 l m n1 n2 a a' c c' w h h' hn hk hl hm hne
theorem zz24 {P:Prop} (h:P:=by
 obtain ⟨z0,z1⟩:=cq2 hz;obtain ⟨f0,f1⟩:=fq2 hz;go_wp2;have hF:=blk2 (x:=.bool R) (y:=.slice a4 (limbs n).length c4) hz;obtain ⟨e0,e1⟩:=cq2 hF;refine bodyPost_ret (v:=.agg #[.bool R,.slice a4 (limbs n).length c4]) (by simp [results,Tryz.results169,go_sem,e0,e1]) rfl ?_;exact ⟨a4,c4,rfl,fun V hV=>HV.out V (back2 hV hw3.size (show g3<w3.heap.size by omega)),qbt hw4 oo⟩
 ):P:=h
theorem qqk (neg1 neg2:Bool) (l m:List Int) (n1 n2:Nat) (a a':Option Addr) (c c':Nat) (w:World) (h:NatR w a c l) (h':NatR w a' c' m) (hn:val l=n1) (hk:val m=n2) (hl:l.length<=4000000) (hm:m.length<=4000000) (hne:neg1≠neg2) :
  Calls Tryz.prog 169 #[.agg #[.bool neg1,.slice a l.length c],.agg #[.bool neg2,.slice a' m.length c']] w (RetI (zval neg1 n1+zval neg2 n2) w):=by
 have hsum:=qlh hne n1 n2;have hbe:(neg1==neg2)=false:=by simpa using hne
 have hll:=qah h.u16;have hlm:=qah h'.u16;rw [hn] at hll;rw [hk] at hlm;by_cases hlt:n1<n2
 ·
  have hmono:=qap (show n2-n1<=n2 by omega);have CL:=fun W (hW:bw w W)=>qs6 l m n1 n2 a a' c c' W (h.ext (xbw hW)) (h'.ext (xbw hW)) hn hk oo oo hlt
  have CS:=fun W (hW:bw w W)=>qi6 m l n2 n1 a' a c' c W (h'.ext (xbw hW)) (h.ext (xbw hW)) hk hn oo oo oo
  have CF:=fun a c W h=>qei neg2 (limbs (n2-n1)) (n2-n1) a c W h (qac _) oo
  refine Calls.mono ?_ fun _ _=>qf9 (hsum.2 oo)
  obtain ⟨R,hR⟩:=nm ((neg2&&decide (0<n2-n1)))
  rw [hR] at CF ⊢;unfold RetNE at CS CL;clear hmono;revert CS CF;generalize n2-n1=n;intro CS CF;replace CL:=Hd CL;replace CS:=Hd CS;replace CF:=Hd CF;clear h h' hn hk hR hsum hne hlt hll hlm;go_enter Tryz.func169,Tryz.ntmps169;go_wp2_with fail;refine qae (fun W=>Blk W w.heap.size 30 #[.bool neg1,.slice a l.length c]/\Blk W (w.heap.size+1) 30 #[.bool neg2,.slice a' m.length c']/\Blk W (w.heap.size+1+1) 30 #[.bool false,.slice none 0 0]/\Below w.heap.size w W/\w.heap.size<w.heap.size+1/\w.heap.size+1<w.heap.size+1+1/\w.heap.size+1+1<W.heap.size) ⟨((Blk.new w _ _).alloc _).alloc _,(qa5 w _ _ _).alloc _,qb6 w _ _ _ _,zg,oo,oo,by simp⟩ ?_;rintro w0 ⟨hx1,hx2,hz,hw0,hg1,hg2,hg3⟩;revert hx1 hx2 hz hg1 hg2 hg3;generalize w.heap.size+1+1=g3;generalize w.heap.size+1=g2;intro hx1 hx2 hz hg1 hg2 hg3;obtain ⟨z0,z1⟩:=cq2 hx1;obtain ⟨z2,z3⟩:=cq2 hx2;refine (CL.out _ hw0).mono ?_
  rintro e w1 ⟨a2,c2,rfl,_,hb1⟩;replace hx1:=hx1.below' hb1;replace hx2:=hx2.below' hb1;replace hz:=hz.below' hb1;have hw1:=bth hw0 hb1;have hs1:=hb1.size;clear z0 z1 z2 z3;obtain ⟨z0,z1⟩:=cq2 hx1;obtain ⟨z2,z3⟩:=cq2 hx2;go_wp2_with fail;refine (CS.out _ hw1).mono ?_;rintro e w3 ⟨a3,c3,rfl,hV,hb3⟩;have hr3:=hV w3 (New.refl _ _);replace hx2:=hx2.below' hb3;replace hz:=hz.below' hb3;have hw3:=bth hw1 hb3;have hs3:=hb3.size;clear hV z0 z1 z2 z3 hx1;have z0:=hx2.cell 0;have CG:=CF.out a3 c3 w3 hr3;replace CG:=Hd CG;clear hr3;go_wp2_with fail;refine CG.out.mono ?_;rintro e w4 ⟨a4,c4,rfl,hV,hb4⟩;have HV:=Hd hV;replace hz:=hz.below' hb4;have hw4:=bth hw3 hb4;clear z0 hx2 hV;exact zz24
 ·
  have hmono:=qap (show n1-n2<=n1 by omega);have CS:=fun W (hW:bw w W)=>qi6 l m n1 n2 a a' c c' W (h.ext (xbw hW)) (h'.ext (xbw hW)) hn hk oo oo oo
  have CF:=fun a c W h=>qei neg1 (limbs (n1-n2)) (n1-n2) a c W h (qac _) oo
  refine Calls.mono ?_ fun _ _=>qf9 (hsum.1 oo)
  obtain ⟨R,hR⟩:=nm ((neg1&&decide (0<n1-n2)))
  rw [hR] at CF ⊢;unfold RetNE at CS;clear hmono;revert CS CF;generalize n1-n2=n;intro CS CF;replace CS:=Hd CS;replace CF:=Hd CF;clear h h' hn hk hR hsum hne hlt hll hlm;go_enter Tryz.func169,Tryz.ntmps169;go_wp2_with fail;refine qae (fun W=>Blk W w.heap.size 30 #[.bool neg1,.slice a l.length c]/\Blk W (w.heap.size+1) 30 #[.bool neg2,.slice a' m.length c']/\Blk W (w.heap.size+1+1) 30 #[.bool false,.slice none 0 0]/\Below w.heap.size w W/\w.heap.size<w.heap.size+1/\w.heap.size+1<w.heap.size+1+1/\w.heap.size+1+1<W.heap.size) ⟨((Blk.new w _ _).alloc _).alloc _,(qa5 w _ _ _).alloc _,qb6 w _ _ _ _,zg,oo,oo,by simp⟩ ?_;rintro w0 ⟨hx1,hx2,hz,hw0,hg1,hg2,hg3⟩;revert hx1 hx2 hz hg1 hg2 hg3;generalize w.heap.size+1+1=g3;generalize w.heap.size+1=g2;intro hx1 hx2 hz hg1 hg2 hg3;obtain ⟨z0,z1⟩:=cq2 hx1;obtain ⟨z2,z3⟩:=cq2 hx2;refine (CS.out _ hw0).mono ?_
  rintro e w3 ⟨a3,c3,rfl,hV,hb3⟩;have hr3:=hV w3 (New.refl _ _);replace hx1:=hx1.below' hb3;replace hz:=hz.below' hb3;have hw3:=bth hw0 hb3;have hs3:=hb3.size;clear hV z0 z1 z2 z3 hx2;have z0:=hx1.cell 0;have CG:=CF.out a3 c3 w3 hr3;replace CG:=Hd CG;clear hr3;go_wp2_with fail;refine CG.out.mono ?_;rintro e w4 ⟨a4,c4,rfl,hV,hb4⟩;have HV:=Hd hV;replace hz:=hz.below' hb4;have hw4:=bth hw3 hb4;clear z0 hx1 hV;exact zz24
theorem qu1 (neg1 neg2:Bool) (l m:List Int) (n1 n2:Nat) (a a':Option Addr) (c c':Nat) (w:World) (h:NatR w a c l) (h':NatR w a' c' m) (hn:val l=n1) (hk:val m=n2) (hl:l.length<=4000000) (hm:m.length<=4000000) :
  Calls Tryz.prog 169 #[.agg #[.bool neg1,.slice a l.length c],.agg #[.bool neg2,.slice a' m.length c']] w (RetI (zval neg1 n1+zval neg2 n2) w):=by
 by_cases hne:neg1=neg2
 ·
  subst hne;exact qr6 neg1 l m n1 n2 a a' c c' w h h' hn hk hl hm
 · exact qqk neg1 neg2 l m n1 n2 a a' c c' w h h' hn hk hl hm hne
theorem qxk:limbs 1=[1]:=by rw [qb8 oo];simp [qao]
theorem qn2 (w:World):Calls Tryz.prog 23 #[] w (RetN (limbs 1) w):=by
 rw [qxk];go_enter Tryz.func23,Tryz.ntmps23;go_wp2;go_ret;refine ⟨some ⟨w.heap.size,0,none⟩,1,rfl,fun V hV=>?_,brf.alloc (nlr _) _⟩;exact BlkN.readsV (l:=[1]) (B:=w.heap.size) (Blk.new w _ _) (nlr _) hV (by intro x hx;simp at hx;omega) (by simp) (by simp [maxLen])
theorem qde (neg:Bool) (l m:List Int) (a a':Option Addr) (c c':Nat) (w:World) (h':NatR w a' c' m) (h0:val m≠0) (hm:m.length<=16777216) :
  Calls Tryz.prog 26 #[.agg #[.bool neg,.slice a l.length c,.slice a' m.length c']] w fun e w' =>
   e=.returned (.tuple #[.agg #[.bool neg,.slice a l.length c],.slice a' m.length c'])/\Below w.heap.size w w':=by
 have CB:=fun W (hW:bw w W)=>qo7 m (val m) a' c' W (h'.ext (xbw hW)) rfl hm
 replace CB:=Hd CB;have hx:Blk ((w.alloc (.cells #[.bool neg,.slice a l.length c,.slice a' m.length c'] 32)).alloc (.cells #[.bool false,.slice none 0 0] 30)) w.heap.size 32 #[.bool neg,.slice a l.length c,.slice a' m.length c']:=(Blk.new w _ _).alloc _;have hz:Blk ((w.alloc (.cells #[.bool neg,.slice a l.length c,.slice a' m.length c'] 32)).alloc (.cells #[.bool false,.slice none 0 0] 30)) (w.heap.size+1) 30 #[.bool false,.slice none 0 0]:=qa5 w _ _ _;have hb0:Below w.heap.size w ((w.alloc (.cells #[.bool neg,.slice a l.length c,.slice a' m.length c'] 32)).alloc (.cells #[.bool false,.slice none 0 0] 30)):=by go_grown
 have hgB:w.heap.size<w.heap.size+1:=oo
 have hgl:=hz.lt;clear h';go_enter Tryz.func26,Tryz.ntmps26;go_wp2_with fail;revert hx hz hb0 hgB hgl;generalize (w.alloc (.cells #[.bool neg,.slice a l.length c,.slice a' m.length c'] 32)).alloc (.cells #[.bool false,.slice none 0 0] 30)=w0;generalize w.heap.size+1=g;intro hx hz hb0 hgB hgl;obtain ⟨z0,z1,z2⟩:=cq3 hx;go_wp2_with fail;refine (CB.out _ hb0).mono ?_;rintro e w1 ⟨b,rfl,hb,rfl⟩;have e0:((b:Int)==0)=false:=by rw [beq_eq_false_iff_ne];have:=hb.out.2.1 oo;omega
 clear hb h0;obtain ⟨y0,y1⟩:=cq2 hz;obtain ⟨f0,f1⟩:=fq2 hz;have k0:∀ W,Blk W w.heap.size 32 #[.bool neg,.slice a l.length c,.slice a' m.length c']->W.cell? ⟨w.heap.size,0,none⟩=some (.bool neg):=fun W h=>h.cell 0
 have k1:∀ W,Blk W w.heap.size 32 #[.bool neg,.slice a l.length c,.slice a' m.length c']->W.cell? ⟨w.heap.size,1,none⟩=some (.slice a l.length c):=fun W h=>h.cell 1
 have k2:∀ W,Blk W w.heap.size 32 #[.bool neg,.slice a l.length c,.slice a' m.length c']->W.cell? ⟨w.heap.size,2,none⟩=some (.slice a' m.length c'):=fun W h=>h.cell 2
 have s0:=hx.drew;have hne:¬ w.heap.size=g:=oo
 go_wp2;refine wrx (S:=(fun W=>Blk W w.heap.size 32 #[.bool neg,.slice a l.length c,.slice a' m.length c'])) [(0,.q),(1,.q),(2,.q),(3,.q),(4,.l),(5,.p)] (s0) ?_
 iterate 4 (refine qaf rfl rfl fun K hK=>xq ?_;go_simp;refine hK _ _ ?_;clear hK K)
 refine vl fun K hK=>?_
 go_simp;refine hK.out _ _ (((hx.far (p:=⟨g,0,none⟩) hne (.bool neg)).far (p:=⟨g,1,none⟩) hne (.slice a l.length c)).drew) (fun _=>?_);clear hK K
 refine qaj rfl rfl fun K hK=>xp ?_;go_simp;refine hK _ _ ?_;clear hK K
 refine qad ?_;go_wp2;have hF:=(blk2 (x:=.bool neg) (y:=.slice a l.length c) hz).drew;obtain ⟨q0,q1⟩:=cq2 hF;refine bodyPost_ret (v:=.tuple #[.agg #[.bool neg,.slice a l.length c],.slice a' m.length c']) (by simp [results,Tryz.results26,go_sem,q0,q1]) rfl ?_;exact ⟨rfl,(qbt hb0 (Nat.le_of_lt hgB)).drew⟩
theorem qjz {neg:Bool} {n d:Nat} (hn:n≠0) (hd:d≠0):qak neg n d=(neg,n / Nat.gcd n d,d / Nat.gcd n d):=by
 unfold qak;rw [if_neg hd];have h1:0<Nat.gcd n d:=Nat.gcd_pos_of_pos_right n oo;have h2:0<n / Nat.gcd n d:=Nat.div_pos (Nat.le_of_dvd oo (Nat.gcd_dvd_left n d)) h1;have h3:decide (0<n / Nat.gcd n d)=true:=by rw [decide_eq_true_eq];exact h2
 rw [h3,Bool.and_true]
theorem qet {neg:Bool} {n d:Nat} (hn:n≠0) (hd:d≠0) (hg:Nat.gcd n d=1):qak neg n d=(neg,n,d):=by
 rw [qjz hn hd,hg,Nat.div_one,Nat.div_one]
theorem qr9 (neg:Bool) (n:Nat):qak neg n 0=(false,0,1):=by simp [qak]
theorem qjt (neg:Bool) {d:Nat} (hd:d≠0):qak neg 0 d=(false,0,1):=by
 unfold qak;rw [if_neg hd];simp;exact Nat.div_self oo
theorem zz25 {P:Prop} (h:P:=by
 have hz:Blk ((w.alloc (.cells #[.bool neg,.slice a l.length c] 30)).alloc (.cells #[.bool false,.slice none 0 0,.slice none 0 0] 32)) (w.heap.size+1) 32 #[.bool false,.slice none 0 0,.slice none 0 0]:=qa5 w _ _ _;have hx:Blk ((w.alloc (.cells #[.bool neg,.slice a l.length c] 30)).alloc (.cells #[.bool false,.slice none 0 0,.slice none 0 0] 32)) w.heap.size 30 #[.bool neg,.slice a l.length c]:=(Blk.new w _ _).alloc _;have hb0:Below w.heap.size w ((w.alloc (.cells #[.bool neg,.slice a l.length c] 30)).alloc (.cells #[.bool false,.slice none 0 0,.slice none 0 0] 32)):=by go_grown
 have hgB:w.heap.size<w.heap.size+1:=oo
 have hgl:=hz.lt;clear h h' hn hk;go_enter Tryz.func27,Tryz.ntmps27;go_wp2_with fail;revert hz hx hb0 hgB hgl;generalize (w.alloc (.cells #[.bool neg,.slice a l.length c] 30)).alloc (.cells #[.bool false,.slice none 0 0,.slice none 0 0] 32)=w0;generalize w.heap.size+1=g;intro hz hx hb0 hgB hgl;refine (CN.out _ hb0).mono ?_;rintro e w1 ⟨a2,c2,rfl,hV2,hb1⟩;have hw1:=bth hb0 hb1;have hx1:=hx.below' hb1;have hz1:=hz.below' hb1;have HV2:=Hd hV2;obtain ⟨z0,z1⟩:=cq2 hx1;have hs1:=hb1.size;clear hz hx hV2;go_wp2_with fail;refine (CZ.out _ hw1).mono ?_;rintro e w2 ⟨a1,c1,rfl,hV1,hb2⟩;have hw2:=bth hw1 hb2;have hx2:=hx1.below' hb2;have hz2:=hz1.below' hb2;have HV1:=Hd hV1;have hne:¬ g=w.heap.size:=oo
 have hxl:w.heap.size<w0.heap.size:=oo
 have hs0:=hb0.size;have hxS:=blk2 (x:=.bool p) (y:=.slice a1 (limbs n).length c1) hx2;have hzS:=(hz2.far (p:=⟨w.heap.size,0,none⟩) hne (.bool p)).far (p:=⟨w.heap.size,1,none⟩) hne (.slice a1 (limbs n).length c1);have hwS:=qbt (g:=w.heap.size) (x:=.bool p) (y:=.slice a1 (limbs n).length c1) hw2 (nlr _);have K1:∀ V,New w0.heap.size ((w2.setCell ⟨w.heap.size,0,none⟩ (.bool p)).setCell ⟨w.heap.size,1,none⟩ (.slice a1 (limbs n).length c1)) V->NatR V a1 c1 (limbs n):=fun V hV=>HV1.out V ((back2 hV (nlr _) hxl).base hs1)
 have K2:∀ V,New w0.heap.size ((w2.setCell ⟨w.heap.size,0,none⟩ (.bool p)).setCell ⟨w.heap.size,1,none⟩ (.slice a1 (limbs n).length c1)) V->NatR V a2 c2 (limbs d):=fun V hV=>HV2.out V ((back2 hV (nlr _) hxl).below hb2)
 clear z0 z1 hV1 hx1 hz1 HV1 HV2 CN CZ;obtain ⟨z0,z1⟩:=cq2 hx2;obtain ⟨f0,f1⟩:=fq2 hx2;obtain ⟨y0,y1,y2⟩:=cq3 hz2;obtain ⟨yf0,yf1,yf2⟩:=fq3 hz2;have hbS:=hwS.size;replace hs1:=hw2.size;clear hx2 hz2 hw2 hb2 hw1 hb1 hb0;go_wp2_with fail;revert hxS hzS hwS K1 K2 hbS;generalize (w2.setCell ⟨w.heap.size,0,none⟩ (.bool p)).setCell ⟨w.heap.size,1,none⟩ (.slice a1 (limbs n).length c1)=wS;intro hxS hzS hwS K1 K2 hbS;refine (CU.out _).mono ?_;rintro e w3 ⟨a5,c5,rfl,hV5,hb3⟩;have hw3:=bth hwS hb3;have hz3:=hzS.below' hb3;have HV5:=Hd hV5;have hs3:=hwS.size;have hgl3:=hzS.lt;clear hV5 z0 z1 f0 f1 y0 y1 y2 yf0 yf1 yf2 hxS hzS K1 K2;obtain ⟨y0,y1,y2⟩:=cq3 hz3;obtain ⟨yf0,yf1,yf2⟩:=fq3 hz3;go_wp2;have hF:=blk3 (x:=.bool false) (y:=.slice none 0 0) (z:=.slice a5 (limbs 1).length c5) hz3;obtain ⟨e0,e1,e2⟩:=cq3 hF
 refine bodyPost_ret (v:=.agg #[.bool false,.slice none 0 0,.slice a5 (limbs 1).length c5]) (by simp [results,Tryz.results27,go_sem,e0,e1,e2]) rfl ?_;exact ⟨none,0,a5,c5,rfl,fun _ _=>SlR.nil,fun V hV=>HV5.out V (back3 hV hs3 hgl3),qbu hw3 (Nat.le_of_lt hgB)⟩
 ):P:=h
theorem qjr (neg:Bool) (l m:List Int) (n d:Nat) (a a':Option Addr) (c c':Nat) (w:World) (h:NatR w a c l) (h':NatR w a' c' m) (hn:val l=n) (hk:val m=d) (hl:l.length<=2000000) (hm:m.length<=2000000) (h0:d=0\/n=0) :
  Calls Tryz.prog 27 #[.agg #[.bool neg,.slice a l.length c],.slice a' m.length c'] w (RetF (false,0,1) w):=by
 have CN:=fun W (hW:bw w W)=>qdr m a' c' W (h'.ext (xbw hW)) oo
 rw [hk] at CN;have CZ:=fun W (hW:bw w W)=>qgx neg l n a c W (h.ext (xbw hW)) hn oo
 obtain ⟨p,hp⟩:=nm ((neg&&decide (0<n)))
 rw [hp] at CZ;have CU:=fun W=>qn2 W
 replace CN:=Hd CN;replace CZ:=Hd CZ;replace CU:=Hd CU;unfold RetF RetQ;dsimp only;rw [qao];clear hp;by_cases hd:d=0
 ·
  have he1:(((limbs d).length:Int)==0)=true:=by rw [hd,qao];rfl
  clear hd h0;exact zz25
 ·
  have hn0:n=0:=oo
  have he1:(((limbs d).length:Int)==0)=false:=by rw [beq_eq_false_iff_ne];have:=qat (n:=d);omega
  have he2:(((limbs n).length:Int)==0)=true:=by rw [hn0,qao];rfl
  clear hd h0 hn0;exact zz25
theorem qon (neg:Bool) (l m:List Int) (n d:Nat) (a a':Option Addr) (c c':Nat) (w:World) (h:NatR w a c l) (h':NatR w a' c' m) (hn:val l=n) (hk:val m=d) (hl:l.length<=2000000) (hm:m.length<=2000000) (h0:n≠0) (hd:d=1) :
  Calls Tryz.prog 27 #[.agg #[.bool neg,.slice a l.length c],.slice a' m.length c'] w (RetF (neg,n,d) w):=by
 have hd0:d≠0:=oo
 have CN:=fun W (hW:bw w W)=>qdr m a' c' W (h'.ext (xbw hW)) oo
 rw [hk] at CN;have CZ:=fun W (hW:bw w W)=>qgx neg l n a c W (h.ext (xbw hW)) hn oo
 have hp:(neg&&decide (0<n))=neg:=by rw [decide_eq_true (by omega:0<n),Bool.and_true]
 rw [hp] at CZ;have CO:=fun a2 c2 W (h2:NatR W a2 c2 (limbs d))=>qek (limbs d) a2 c2 W h2
 rw [qdz] at CO;have he1:(((limbs d).length:Int)==0)=false:=by rw [beq_eq_false_iff_ne];have:=qat (n:=d);omega
 have he2:(((limbs n).length:Int)==0)=false:=by rw [beq_eq_false_iff_ne];have:=qat (n:=n);omega
 have ho:decide (d=1)=true:=by simp [hd]
 rw [ho] at CO;unfold RetF RetQ;dsimp only;replace CN:=Hd CN;replace CZ:=Hd CZ;replace CO:=Hd CO;clear hp ho h0 hd hd0;have hz:Blk ((w.alloc (.cells #[.bool neg,.slice a l.length c] 30)).alloc (.cells #[.bool false,.slice none 0 0,.slice none 0 0] 32)) (w.heap.size+1) 32 #[.bool false,.slice none 0 0,.slice none 0 0]:=qa5 w _ _ _;have hx:Blk ((w.alloc (.cells #[.bool neg,.slice a l.length c] 30)).alloc (.cells #[.bool false,.slice none 0 0,.slice none 0 0] 32)) w.heap.size 30 #[.bool neg,.slice a l.length c]:=(Blk.new w _ _).alloc _;have hb0:Below w.heap.size w ((w.alloc (.cells #[.bool neg,.slice a l.length c] 30)).alloc (.cells #[.bool false,.slice none 0 0,.slice none 0 0] 32)):=by go_grown
 have hgB:w.heap.size<w.heap.size+1:=oo
 have hgl:=hz.lt;clear h h' hn hk;go_enter Tryz.func27,Tryz.ntmps27;go_wp2_with fail;revert hz hx hb0 hgB hgl;generalize (w.alloc (.cells #[.bool neg,.slice a l.length c] 30)).alloc (.cells #[.bool false,.slice none 0 0,.slice none 0 0] 32)=w0;generalize w.heap.size+1=g;intro hz hx hb0 hgB hgl;refine (CN.out _ hb0).mono ?_;rintro e w1 ⟨a2,c2,rfl,hV2,hb1⟩;have hw1:=bth hb0 hb1;have hx1:=hx.below' hb1;have hz1:=hz.below' hb1;have HV2:=Hd hV2;obtain ⟨z0,z1⟩:=cq2 hx1;have hs1:=hb1.size;clear hz hx hV2;go_wp2_with fail;refine (CZ.out _ hw1).mono ?_;rintro e w2 ⟨a1,c1,rfl,hV1,hb2⟩;have hw2:=bth hw1 hb2;have hx2:=hx1.below' hb2;have hz2:=hz1.below' hb2;have HV1:=Hd hV1;have hne:¬ g=w.heap.size:=oo
 have hxl:w.heap.size<w0.heap.size:=oo
 have hs0:=hb0.size;have hxS:=blk2 (x:=.bool neg) (y:=.slice a1 (limbs n).length c1) hx2;have hzS:=(hz2.far (p:=⟨w.heap.size,0,none⟩) hne (.bool neg)).far (p:=⟨w.heap.size,1,none⟩) hne (.slice a1 (limbs n).length c1);have hwS:=qbt (g:=w.heap.size) (x:=.bool neg) (y:=.slice a1 (limbs n).length c1) hw2 (nlr _);have K1:∀ V,New w0.heap.size ((w2.setCell ⟨w.heap.size,0,none⟩ (.bool neg)).setCell ⟨w.heap.size,1,none⟩ (.slice a1 (limbs n).length c1)) V->NatR V a1 c1 (limbs n):=fun V hV=>HV1.out V ((back2 hV (nlr _) hxl).base hs1)
 have K2:∀ V,New w0.heap.size ((w2.setCell ⟨w.heap.size,0,none⟩ (.bool neg)).setCell ⟨w.heap.size,1,none⟩ (.slice a1 (limbs n).length c1)) V->NatR V a2 c2 (limbs d):=fun V hV=>HV2.out V ((back2 hV (nlr _) hxl).below hb2)
 clear z0 z1 hV1 hx1 hz1 HV1 HV2 CN CZ;obtain ⟨z0,z1⟩:=cq2 hx2;obtain ⟨f0,f1⟩:=fq2 hx2;obtain ⟨y0,y1,y2⟩:=cq3 hz2;obtain ⟨yf0,yf1,yf2⟩:=fq3 hz2;have hbS:=hwS.size;replace hs1:=hw2.size;clear hx2 hz2 hw2 hb2 hw1 hb1 hb0;go_wp2_with fail;revert hxS hzS hwS K1 K2 hbS;generalize (w2.setCell ⟨w.heap.size,0,none⟩ (.bool neg)).setCell ⟨w.heap.size,1,none⟩ (.slice a1 (limbs n).length c1)=wS;intro hxS hzS hwS K1 K2 hbS;have CO2:=CO.out a2 c2 wS (K2 wS (New.refl _ _));replace CO2:=Hd CO2;replace K1:=Hd K1;replace K2:=Hd K2;refine CO2.out.mono ?_;rintro e w3 ⟨rfl,hb3⟩;have hw3:=bth hwS hb3;have hz3:=hzS.below' hb3;have hx3:=hxS.below' hb3;clear z0 z1 f0 f1 y0 y1 y2 yf0 yf1 yf2 hxS hzS CO2;obtain ⟨z0,z1⟩:=cq2 hx3;obtain ⟨y0,y1,y2⟩:=cq3 hz3;obtain ⟨yf0,yf1,yf2⟩:=fq3 hz3;go_wp2;have hF:=blk3 (x:=.bool neg) (y:=.slice a1 (limbs n).length c1) (z:=.slice a2 (limbs d).length c2) hz3
 obtain ⟨e0,e1,e2⟩:=cq3 hF;refine bodyPost_ret (v:=.agg #[.bool neg,.slice a1 (limbs n).length c1,.slice a2 (limbs d).length c2]) (by simp [results,Tryz.results27,go_sem,e0,e1,e2]) rfl ?_;exact ⟨a1,c1,a2,c2,rfl,fun V hV=>K1.out V ((back3 hV hs0 hgl).below (hb3)),fun V hV=>K2.out V ((back3 hV hs0 hgl).below hb3),qbu hw3 (Nat.le_of_lt hgB)⟩
theorem qnp (neg:Bool) (l m:List Int) (n d:Nat) (a a':Option Addr) (c c':Nat) (w:World) (h:NatR w a c l) (h':NatR w a' c' m) (hn:val l=n) (hk:val m=d) (hl:l.length<=2000000) (hm:m.length<=2000000) (h0:n≠0) (hd1:d≠0) (hd:d≠1)
  (hnl:(limbs n).length<=2000000) (hdl:(limbs d).length<=2000000) (hg1:Nat.gcd n d=1) :
  Calls Tryz.prog 27 #[.agg #[.bool neg,.slice a l.length c],.slice a' m.length c'] w (RetF (neg,n,d) w):=by
 have hd0:d≠0:=oo
 have CN:=fun W (hW:bw w W)=>qdr m a' c' W (h'.ext (xbw hW)) oo
 rw [hk] at CN;have CZ:=fun W (hW:bw w W)=>qgx neg l n a c W (h.ext (xbw hW)) hn oo
 have hp:(neg&&decide (0<n))=neg:=by rw [decide_eq_true (by omega:0<n),Bool.and_true]
 rw [hp] at CZ;have CO:=fun a2 c2 W (h2:NatR W a2 c2 (limbs d))=>qek (limbs d) a2 c2 W h2
 rw [qdz] at CO;have he1:(((limbs d).length:Int)==0)=false:=by rw [beq_eq_false_iff_ne];have:=qat (n:=d);omega
 have he2:(((limbs n).length:Int)==0)=false:=by rw [beq_eq_false_iff_ne];have:=qat (n:=n);omega
 have ho:decide (d=1)=false:=by simp [hd]
 rw [ho] at CO;have CG:=fun a1 c1 a2 c2 W (h1:NatR W a1 c1 (limbs n)) (h2:NatR W a2 c2 (limbs d))=>ql8 (limbs n) (limbs d) n d a1 a2 c1 c2 W h1 h2 (qac _) (qac _) hnl hdl
 obtain ⟨gg,hgg⟩:=nm (Nat.gcd n d)
 rw [hgg] at CG;have CO4:=fun a2 c2 W (h2:NatR W a2 c2 (limbs gg))=>qek (limbs gg) a2 c2 W h2
 rw [qdz] at CO4;have ho4:decide (gg=1)=true:=by rw [<- hgg,hg1];rfl
 rw [ho4] at CO4;unfold RetF RetQ;dsimp only;clear hp ho h0 hd hd0 hd1 hnl hdl hg1 hgg ho4;replace CN:=Hd CN;replace CZ:=Hd CZ;replace CO:=Hd CO;replace CG:=Hd CG;replace CO4:=Hd CO4;have hz:Blk ((w.alloc (.cells #[.bool neg,.slice a l.length c] 30)).alloc (.cells #[.bool false,.slice none 0 0,.slice none 0 0] 32)) (w.heap.size+1) 32 #[.bool false,.slice none 0 0,.slice none 0 0]:=qa5 w _ _ _;have hx:Blk ((w.alloc (.cells #[.bool neg,.slice a l.length c] 30)).alloc (.cells #[.bool false,.slice none 0 0,.slice none 0 0] 32)) w.heap.size 30 #[.bool neg,.slice a l.length c]:=(Blk.new w _ _).alloc _;have hb0:Below w.heap.size w ((w.alloc (.cells #[.bool neg,.slice a l.length c] 30)).alloc (.cells #[.bool false,.slice none 0 0,.slice none 0 0] 32)):=by go_grown
 have hgB:w.heap.size<w.heap.size+1:=oo
 have hgl:=hz.lt;clear h h' hn hk;go_enter Tryz.func27,Tryz.ntmps27;go_wp2_with fail;revert hz hx hb0 hgB hgl;generalize (w.alloc (.cells #[.bool neg,.slice a l.length c] 30)).alloc (.cells #[.bool false,.slice none 0 0,.slice none 0 0] 32)=w0;generalize w.heap.size+1=g;intro hz hx hb0 hgB hgl;refine (CN.out _ hb0).mono ?_;rintro e w1 ⟨a2,c2,rfl,hV2,hb1⟩;have hw1:=bth hb0 hb1;have hx1:=hx.below' hb1;have hz1:=hz.below' hb1;have HV2:=Hd hV2;obtain ⟨z0,z1⟩:=cq2 hx1;have hs1:=hb1.size;clear hz hx hV2;go_wp2_with fail;refine (CZ.out _ hw1).mono ?_;rintro e w2 ⟨a1,c1,rfl,hV1,hb2⟩;have hw2:=bth hw1 hb2;have hx2:=hx1.below' hb2;have hz2:=hz1.below' hb2;have HV1:=Hd hV1;have hne:¬ g=w.heap.size:=oo
 have hxl:w.heap.size<w0.heap.size:=oo
 have hs0:=hb0.size;have hxS:=blk2 (x:=.bool neg) (y:=.slice a1 (limbs n).length c1) hx2;have hzS:=(hz2.far (p:=⟨w.heap.size,0,none⟩) hne (.bool neg)).far (p:=⟨w.heap.size,1,none⟩) hne (.slice a1 (limbs n).length c1);have hwS:=qbt (g:=w.heap.size) (x:=.bool neg) (y:=.slice a1 (limbs n).length c1) hw2 (nlr _);have K1:∀ V,New w0.heap.size ((w2.setCell ⟨w.heap.size,0,none⟩ (.bool neg)).setCell ⟨w.heap.size,1,none⟩ (.slice a1 (limbs n).length c1)) V->NatR V a1 c1 (limbs n):=fun V hV=>HV1.out V ((back2 hV (nlr _) hxl).base hs1)
 have K2:∀ V,New w0.heap.size ((w2.setCell ⟨w.heap.size,0,none⟩ (.bool neg)).setCell ⟨w.heap.size,1,none⟩ (.slice a1 (limbs n).length c1)) V->NatR V a2 c2 (limbs d):=fun V hV=>HV2.out V ((back2 hV (nlr _) hxl).below hb2)
 clear z0 z1 hV1 hx1 hz1 HV1 HV2 CN CZ;obtain ⟨z0,z1⟩:=cq2 hx2;obtain ⟨f0,f1⟩:=fq2 hx2;obtain ⟨y0,y1,y2⟩:=cq3 hz2;obtain ⟨yf0,yf1,yf2⟩:=fq3 hz2;have hbS:w0.heap.size<=((w2.setCell ⟨w.heap.size,0,none⟩ (.bool neg)).setCell ⟨w.heap.size,1,none⟩ (.slice a1 (limbs n).length c1)).heap.size:=by simp;exact Nat.le_trans hs1 hb2.size
 replace hs1:=hw2.size;clear hx2 hz2 hw2 hb2 hw1 hb1 hb0;go_wp2_with fail;revert hxS hzS hwS K1 K2 hbS;generalize (w2.setCell ⟨w.heap.size,0,none⟩ (.bool neg)).setCell ⟨w.heap.size,1,none⟩ (.slice a1 (limbs n).length c1)=wS;intro hxS hzS hwS K1 K2 hbS;have CO2:=CO.out a2 c2 wS (K2 wS (New.refl _ _));replace CO2:=Hd CO2;replace K1:=Hd K1;replace K2:=Hd K2;refine CO2.out.mono ?_;rintro e w3 ⟨rfl,hb3⟩;have hw3:=bth hwS hb3;have hz3:=hzS.below' hb3;have hx3:=hxS.below' hb3;clear z0 z1 f0 f1 y0 y1 y2 yf0 yf1 yf2 hxS hzS CO2;obtain ⟨z0,z1⟩:=cq2 hx3;have r1:=K1.out w3 ((New.refl _ _).below hb3);have r2:=K2.out w3 ((New.refl _ _).below hb3);have CG2:=CG.out a1 c1 a2 c2 w3 r1 r2;replace CG2:=Hd CG2;clear r1 r2;go_wp2_with fail;refine CG2.out.mono ?_;rintro e w4 ⟨a4,c4,rfl,hV4,hb4⟩;have hw4:=bth hw3 hb4;have hz4:=hz3.below' hb4;have hx4:=hx3.below' hb4;have r4:=hV4 w4 (New.refl _ _)
 have CO5:=CO4.out a4 c4 w4 r4;replace CO5:=Hd CO5;clear z0 z1 hz3 hx3 CG2;have R4:=Hd r4;have R4V:=Hd hV4;have hs3:=hb3.size;clear r4 hV4;go_wp2_with fail;refine CO5.out.mono ?_;rintro e w5 ⟨rfl,hb5⟩;have hw5:=bth hw4 hb5;have hz5:=hz4.below' hb5;have hx5:=hx4.below' hb5;clear CO5 hz4 hx4;obtain ⟨z0,z1⟩:=cq2 hx5;obtain ⟨f0,f1⟩:=fq2 hx5;obtain ⟨y0,y1,y2⟩:=cq3 hz5;obtain ⟨yf0,yf1,yf2⟩:=fq3 hz5;go_wp2;have hF:=blk3 (x:=.bool neg) (y:=.slice a1 (limbs n).length c1) (z:=.slice a2 (limbs d).length c2) hz5;obtain ⟨e0,e1,e2⟩:=cq3 hF;refine bodyPost_ret (v:=.agg #[.bool neg,.slice a1 (limbs n).length c1,.slice a2 (limbs d).length c2]) (by simp [results,Tryz.results27,go_sem,e0,e1,e2]) rfl ?_;exact ⟨a1,c1,a2,c2,rfl,fun V hV=>K1.out V ((((back3 hV hs0 hgl).below hb5).below hb4).below hb3),fun V hV=>K2.out V ((((back3 hV hs0 hgl).below hb5).below hb4).below hb3),qbu hw5 (Nat.le_of_lt hgB)⟩
theorem qlw (neg:Bool) (l m:List Int) (n d:Nat) (a a':Option Addr) (c c':Nat) (w:World) (h:NatR w a c l) (h':NatR w a' c' m) (hn:val l=n) (hk:val m=d) (hl:l.length<=2000000) (hm:m.length<=2000000) (h0:n≠0) (hd1:d≠0) (hd:d≠1)
  (hnl:(limbs n).length<=2000000) (hdl:(limbs d).length<=2000000) (hg1:Nat.gcd n d≠1) :
  Calls Tryz.prog 27 #[.agg #[.bool neg,.slice a l.length c],.slice a' m.length c'] w (RetF (neg,n / Nat.gcd n d,d / Nat.gcd n d) w):=by
 have hgp:0<Nat.gcd n d:=Nat.gcd_pos_of_pos_right n oo;have hgd:Nat.gcd n d<=d:=Nat.le_of_dvd oo (Nat.gcd_dvd_right n d);have hgl0:=qap hgd;have hd0:d≠0:=oo
 have CN:=fun W (hW:bw w W)=>qdr m a' c' W (h'.ext (xbw hW)) oo
 rw [hk] at CN;have CZ:=fun W (hW:bw w W)=>qgx neg l n a c W (h.ext (xbw hW)) hn oo
 have hp:(neg&&decide (0<n))=neg:=by rw [decide_eq_true (by omega:0<n),Bool.and_true]
 rw [hp] at CZ;have CO:=fun a2 c2 W (h2:NatR W a2 c2 (limbs d))=>qek (limbs d) a2 c2 W h2
 rw [qdz] at CO;have he1:(((limbs d).length:Int)==0)=false:=by rw [beq_eq_false_iff_ne];have:=qat (n:=d);omega
 have he2:(((limbs n).length:Int)==0)=false:=by rw [beq_eq_false_iff_ne];have:=qat (n:=n);omega
 have ho:decide (d=1)=false:=by simp [hd]
 rw [ho] at CO;have CG:=fun a1 c1 a2 c2 W (h1:NatR W a1 c1 (limbs n)) (h2:NatR W a2 c2 (limbs d))=>ql8 (limbs n) (limbs d) n d a1 a2 c1 c2 W h1 h2 (qac _) (qac _) hnl hdl
 obtain ⟨gg,hgg⟩:=nm (Nat.gcd n d)
 rw [hgg] at CG;have CO4:=fun a2 c2 W (h2:NatR W a2 c2 (limbs gg))=>qek (limbs gg) a2 c2 W h2
 rw [qdz] at CO4;rw [hgg] at hgp hgl0 ⊢;have ho4:decide (gg=1)=false:=by rw [decide_eq_false_iff_not,<- hgg];exact hg1
 rw [ho4] at CO4;have CD1:=fun a1 c1 a4 c4 W (h1:NatR W a1 c1 (limbs n)) (h4:NatR W a4 c4 (limbs gg))=>qid (limbs n) (limbs gg) n gg a1 a4 c1 c4 W h1 h4 (qac _) (qac _) oo oo hgp
 have CD2:=fun a2 c2 a4 c4 W (h2:NatR W a2 c2 (limbs d)) (h4:NatR W a4 c4 (limbs gg))=>qid (limbs d) (limbs gg) d gg a2 a4 c2 c4 W h2 h4 (qac _) (qac _) oo oo hgp
 unfold RetQR at CD1 CD2;unfold RetF RetQ;dsimp only;obtain ⟨N,hN⟩:=nm (n / gg)
 obtain ⟨D,hD⟩:=nm (d / gg)
 simp only [hN] at CD1 ⊢;simp only [hD] at CD2 ⊢;clear hp ho h0 hd hd0 hd1 hnl hdl hg1 hgg ho4 hN hD hgp hgl0 hgd;replace CD1:=Hd CD1;replace CD2:=Hd CD2;replace CN:=Hd CN;replace CZ:=Hd CZ;replace CO:=Hd CO;replace CG:=Hd CG;replace CO4:=Hd CO4;have hz:Blk ((w.alloc (.cells #[.bool neg,.slice a l.length c] 30)).alloc (.cells #[.bool false,.slice none 0 0,.slice none 0 0] 32)) (w.heap.size+1) 32 #[.bool false,.slice none 0 0,.slice none 0 0]:=qa5 w _ _ _;have hx:Blk ((w.alloc (.cells #[.bool neg,.slice a l.length c] 30)).alloc (.cells #[.bool false,.slice none 0 0,.slice none 0 0] 32)) w.heap.size 30 #[.bool neg,.slice a l.length c]:=(Blk.new w _ _).alloc _;have hb0:Below w.heap.size w ((w.alloc (.cells #[.bool neg,.slice a l.length c] 30)).alloc (.cells #[.bool false,.slice none 0 0,.slice none 0 0] 32)):=by go_grown
 have hgB:w.heap.size<w.heap.size+1:=oo
 have hgl:=hz.lt;clear h h' hn hk;go_enter Tryz.func27,Tryz.ntmps27;go_wp2_with fail;revert hz hx hb0 hgB hgl;generalize (w.alloc (.cells #[.bool neg,.slice a l.length c] 30)).alloc (.cells #[.bool false,.slice none 0 0,.slice none 0 0] 32)=w0;generalize w.heap.size+1=g;intro hz hx hb0 hgB hgl;refine (CN.out _ hb0).mono ?_;rintro e w1 ⟨a2,c2,rfl,hV2,hb1⟩;have hw1:=bth hb0 hb1;have hx1:=hx.below' hb1;have hz1:=hz.below' hb1;have HV2:=Hd hV2;obtain ⟨z0,z1⟩:=cq2 hx1;have hs1:=hb1.size;clear hz hx hV2;go_wp2_with fail;refine (CZ.out _ hw1).mono ?_;rintro e w2 ⟨a1,c1,rfl,hV1,hb2⟩;have hw2:=bth hw1 hb2;have hx2:=hx1.below' hb2;have hz2:=hz1.below' hb2;have HV1:=Hd hV1;have hne:¬ g=w.heap.size:=oo
 have hxl:w.heap.size<w0.heap.size:=oo
 have hs0:=hb0.size;have hxS:=blk2 (x:=.bool neg) (y:=.slice a1 (limbs n).length c1) hx2;have hzS:=(hz2.far (p:=⟨w.heap.size,0,none⟩) hne (.bool neg)).far (p:=⟨w.heap.size,1,none⟩) hne (.slice a1 (limbs n).length c1);have hwS:=qbt (g:=w.heap.size) (x:=.bool neg) (y:=.slice a1 (limbs n).length c1) hw2 (nlr _);have K1:∀ V,New w0.heap.size ((w2.setCell ⟨w.heap.size,0,none⟩ (.bool neg)).setCell ⟨w.heap.size,1,none⟩ (.slice a1 (limbs n).length c1)) V->NatR V a1 c1 (limbs n):=fun V hV=>HV1.out V ((back2 hV (nlr _) hxl).base hs1)
 have K2:∀ V,New w0.heap.size ((w2.setCell ⟨w.heap.size,0,none⟩ (.bool neg)).setCell ⟨w.heap.size,1,none⟩ (.slice a1 (limbs n).length c1)) V->NatR V a2 c2 (limbs d):=fun V hV=>HV2.out V ((back2 hV (nlr _) hxl).below hb2)
 clear z0 z1 hV1 hx1 hz1 HV1 HV2 CN CZ;obtain ⟨z0,z1⟩:=cq2 hx2;obtain ⟨f0,f1⟩:=fq2 hx2;obtain ⟨y0,y1,y2⟩:=cq3 hz2;obtain ⟨yf0,yf1,yf2⟩:=fq3 hz2;have hbS:w0.heap.size<=((w2.setCell ⟨w.heap.size,0,none⟩ (.bool neg)).setCell ⟨w.heap.size,1,none⟩ (.slice a1 (limbs n).length c1)).heap.size:=by simp;exact Nat.le_trans hs1 hb2.size
 replace hs1:=hw2.size;clear hx2 hz2 hw2 hb2 hw1 hb1 hb0;go_wp2_with fail;revert hxS hzS hwS K1 K2 hbS;generalize (w2.setCell ⟨w.heap.size,0,none⟩ (.bool neg)).setCell ⟨w.heap.size,1,none⟩ (.slice a1 (limbs n).length c1)=wS;intro hxS hzS hwS K1 K2 hbS;have CO2:=CO.out a2 c2 wS (K2 wS (New.refl _ _));replace CO2:=Hd CO2;replace K1:=Hd K1;replace K2:=Hd K2;refine CO2.out.mono ?_;rintro e w3 ⟨rfl,hb3⟩;have hw3:=bth hwS hb3;have hz3:=hzS.below' hb3;have hx3:=hxS.below' hb3;clear z0 z1 f0 f1 y0 y1 y2 yf0 yf1 yf2 hxS hzS CO2;obtain ⟨z0,z1⟩:=cq2 hx3;have r1:=K1.out w3 ((New.refl _ _).below hb3);have r2:=K2.out w3 ((New.refl _ _).below hb3);have CG2:=CG.out a1 c1 a2 c2 w3 r1 r2;replace CG2:=Hd CG2;clear r1 r2;go_wp2_with fail;refine CG2.out.mono ?_;rintro e w4 ⟨a4,c4,rfl,hV4,hb4⟩;have hw4:=bth hw3 hb4;have hz4:=hz3.below' hb4;have hx4:=hx3.below' hb4;have r4:=hV4 w4 (New.refl _ _)
 have CO5:=CO4.out a4 c4 w4 r4;replace CO5:=Hd CO5;clear z0 z1 hz3 hx3 CG2;have R4:=Hd r4;have R4V:=Hd hV4;have hs3:=hb3.size;clear r4 hV4;go_wp2_with fail;refine CO5.out.mono ?_;rintro e w5 ⟨rfl,hb5⟩;have hw5:=bth hw4 hb5;have hz5:=hz4.below' hb5;have hx5:=hx4.below' hb5;clear CO5 hz4 hx4;obtain ⟨z0,z1⟩:=cq2 hx5;obtain ⟨f0,f1⟩:=fq2 hx5;obtain ⟨y0,y1,y2⟩:=cq3 hz5;obtain ⟨yf0,yf1,yf2⟩:=fq3 hz5;have CE1:=CD1.out a1 c1 a4 c4 w5 (K1.out w5 ((((New.refl _ _).below hb5).below hb4).below hb3)) (R4.out.ext (xbw hb5));replace CE1:=Hd CE1;go_wp2_with fail;refine CE1.out.mono ?_;rintro e w6 ⟨a6,c6,_,_,rfl,hV6,_,hb6⟩;have hw6:=bth hw5 hb6;have hz6:=hz5.below' hb6;have hx6:=hx5.below' hb6;have hxF:=hx6.set_ 1 (.slice a6 (limbs N).length c6);have hzF:=hz6.far (p:=⟨w.heap.size,1,none⟩) hne (.slice a6 (limbs N).length c6)
 have hwF:=hw6.setCell (p:=⟨w.heap.size,1,none⟩) (nlr _) (.slice a6 (limbs N).length c6);have hN6:∀ {V},New w0.heap.size (w6.setCell ⟨w.heap.size,1,none⟩ (.slice a6 (limbs N).length c6)) V->New w0.heap.size w6 V:=fun hV=>hV.unset hxl
 have hs5:w0.heap.size<=w5.heap.size:=by have:=hbS;have:=hb3.size;have:=hb4.size;have:=hb5.size;omega
 clear CE1 z0 z1 f0 f1 y0 y1 y2 yf0 yf1 yf2 hz5 hx5 hz6;obtain ⟨z0,z1⟩:=cq2 hx6;obtain ⟨f0,f1⟩:=fq2 hx6;go_wp2_with fail;revert hxF hzF hwF hN6;generalize w6.setCell ⟨w.heap.size,1,none⟩ (.slice a6 (limbs N).length c6)=wF;intro hxF hzF hwF hN6;have hk:∀ {V},New w0.heap.size wF V->New w0.heap.size wS V:=fun hV=>((((hN6 hV).below hb6).below hb5).below hb4).below hb3
 have CE2:=CD2.out a2 c2 a4 c4 wF (K2.out wF (hk (New.refl _ _))) (R4V.out wF ((((hN6 (New.refl _ _)).below hb6).below hb5).base (Nat.le_trans hbS hs3)));replace CE2:=Hd CE2;refine CE2.out.mono ?_;rintro e w7 ⟨a7,c7,_,_,rfl,hV7,_,hb7⟩;have hw7:=bth hwF hb7;have hz7:=hzF.below' hb7;have hx7:=hxF.below' hb7;have HV6:=Hd hV6;have HV7:=Hd hV7;have hs6:=hwF.size;have hg6:=hzF.lt;clear CE2 z0 z1 f0 f1 hzF hxF hx6 hV6 hV7;obtain ⟨z0,z1⟩:=cq2 hx7;obtain ⟨y0,y1,y2⟩:=cq3 hz7;obtain ⟨yf0,yf1,yf2⟩:=fq3 hz7;go_wp2;have hF:=blk3 (x:=.bool neg) (y:=.slice a6 (limbs N).length c6) (z:=.slice a7 (limbs D).length c7) hz7;obtain ⟨e0,e1,e2⟩:=cq3 hF;refine bodyPost_ret (v:=.agg #[.bool neg,.slice a6 (limbs N).length c6,.slice a7 (limbs D).length c7]) (by simp [results,Tryz.results27,go_sem,e0,e1,e2]) rfl ?_
 exact ⟨a6,c6,a7,c7,rfl,fun V hV=>HV6.out V ((hN6 ((back3 hV hs0 hgl).below hb7)).base hs5),fun V hV=>HV7.out V (back3 hV hs6 hg6),qbu hw7 (Nat.le_of_lt hgB)⟩
end Go.Proofs.YtmdlbpibipnapaaGreat
