/- Walk: a certificate's line of a factor (the program). -/
import Derived.Test.YtnilkimcdgmgkaaGreatDoorCr20
import Derived.Test.YtnilkimcdgmgkaaGreatDoorCr5
import Derived.Test.YtnilkimcdgmgkaaGreatDoorCr11
import Derived.Test.YtnilkimcdgmgkaaGreatDoorCr21
import Derived.Test.YtnilkimcdgmgkaaGreatDoorCr24
import Derived.Test.YtnilkimcdgmgkaaGreatDoorCr13
import Derived.Test.YtnilkimcdgmgkaaGreatDoorCr15
import Derived.Test.YtnilkimcdgmgkaaGreatDoorCr1
import Derived.Lib.Strings
import Derived.Test.YtnilkimcdgmgkaaGreatDoorCr14
set_option linter.all false
set_option maxRecDepth 100000
set_option maxHeartbeats 4000000
namespace Go.Proofs.YtnilkimcdgmgkaaGreatDoor
open Go.RowKit
def joinT (q:Rat) (m:List Int) (names:List ByteArray) (k:Nat):ByteArray:=joinB (qaz q m names k) starB
theorem qag7 (q:Rat):decide (sgnQ q<0)=decide (q<0):=by
 unfold sgnQ;by_cases h:q=0
 · subst h;rw [if_pos rfl];rfl
 ·
  rw [if_neg h];by_cases h2:q<0
  · rw [if_pos h2];simp [h2]
  · rw [if_neg h2];simp [h2]
theorem qpl (a b c:ByteArray):a++b++c=a++(b++c):=by apply qe1;simp [ByteArray.data_append]
theorem qu2 {q:Rat} {m:List Int} {names:List ByteArray} (hn:∀ s∈names,s.size<=1048576) (hm:∀ x∈m,x<=1048576) (ht:(textQ (absQ q)).length<=20000002) (hml:m.length<=64) (k:Nat) (hk:k<=m.length):(joinT q m names k).size<=1400000000:=by
 have hsh:=qin (qgp (q:=q) (m:=m) (names:=names) (N:=1048576) (T:=20000002) hn hm ht k);have hpl:=qgb q m names k;exact Nat.le_trans hsh (Nat.le_trans (Nat.mul_le_mul_right _ (show _<=65 by omega)) (by omega))
theorem qoz {q:Rat} {m:List Int} {names:List ByteArray} {k:Nat} {y:ByteArray} (h:qaz q m names k=[]) (hs:qaz q m names (k+1)=qaz q m names k++[y]):joinT q m names k=⟨#[]⟩/\joinT q m names (k+1)=y:=by
 unfold joinT;rw [hs,h];exact ⟨rfl,qny _ _⟩
theorem qlu {q:Rat} {m:List Int} {names:List ByteArray} {k:Nat} {y:ByteArray} (h:qaz q m names k≠[]) (hs:qaz q m names (k+1)=qaz q m names k++[y]):joinT q m names (k+1)=joinT q m names k++starB++y:=by
 unfold joinT;rw [hs,qtw _ _ _ h]
theorem zz85 {P:Prop} (h:P:=by
 have hx64:(xn:Int) % 18446744073709551616=(xn:Int):=by omega
 have C1:=Hd (fun W=>qbs xn W (by omega));have hll:(limbs xn).length<=2:=qan (by omega);have hsz1:(ofL (textN xn)).size<=10:=by rw [qa4];have:=qmy (xn:Int) hx1;rwa [Int.toNat_natCast] at this
 have CT:=Hd (fun a' c' W (h:NatR W a' c' (limbs xn))=>qi0 (limbs xn) xn a' c' W h (qaa _) (by omega));go_wp2_with fail;refine (C1.out _).mono ?_;rintro e w4 ⟨a4,c4,rfl,hV4,hb4⟩;have CT2:=Hd (CT.out a4 c4 w4 (hV4 w4 (New.refl _ _)));have hw4:=bth hwr hb4;clear hV4 CT C1;go_wp2_with fail;refine CT2.out.mono ?_;rintro e w5 ⟨rfl,hb5⟩;have hw5:=bth hw4 hb5;clear CT2;go_wp2;go_roundg (gk-1)
 case rel=>exact ⟨k2+1,by have:=hk2.out;show _=_;omega,by go_num,by rw [hr.out,<- qpl,<- qpl],hw5⟩
 case measure=>have:=hk2.out;omega
 ):P:=h
theorem zz87 {P:Prop} (h:P:=by
 go_wp2;go_roundg (gk-1)
 case rel=>exact ⟨k2+1,by have:=hk2.out;show _=_;omega,by go_num,by rw [hr.out],hwr⟩
 case measure=>have:=hk2.out;omega
 ):P:=h
theorem zz83 {P:Prop} (h:P:=by
 go_wp2
 go_loopg [6,7] m.length (fun g s6 s7 wr=>∃ (k2:Nat),Hid (k2+g=m.length)/\s7=.int .i64 k2/\s6=.string (joinT q m names k2)/\Below w3.heap.size w3 wr)
 case atStart=>exact ⟨0,by show _=_;omega,rfl,by rw [hj0.out],Below.refl _ _⟩
 case round =>
  obtain ⟨k2,hk2,rfl,rfl,hwr⟩:=hrel;have hg0:=h0.below' hwr;have x3:=hg0.cell 3;have k3:=held x3;by_cases hlt:k2<m.length
  ·
   obtain ⟨x,hx⟩:=qad hlt;obtain ⟨bm,om,rfl,hcx,hxw⟩:=(HM.out wr (bth hw3 hwr)).2.2 k2 x hx;simp only [Nat.mul_one] at hcx;obtain ⟨hx0,hx1⟩:=HX.out x (List.mem_of_getElem? hx);obtain ⟨xn,rfl⟩:∃ xn:Nat,x=(xn:Int):=⟨x.toNat,by omega⟩
   have hkn:k2<names.length:=by omega
   obtain ⟨s,hs⟩:=qad hkn;obtain ⟨bn,on,rfl,hcn⟩:=HN.out.2.2 k2 s hs;simp only [Nat.mul_one] at hcn;have hcn2:=held hcn wr (bth hw3 hwr);have hsn:nameA names k2=s:=by unfold nameA;rw [List.getD_eq_getElem?_getD,hs];rfl
   have hss:=HNZ.out s (List.mem_of_getElem? hs);have hsu:=qkt (q:=q) (names:=names) hx;have hjs:=qu2 HNZ.out (fun x hx=>(HX.out x hx).2) HT.out HML.out (q:=q) k2 (by omega);have hne:qaz q m names k2≠[]->(joinT q m names k2).size≠0:=fun h=>qzb h (qxe HNE.out hl (qyx _) k2 (by omega)) _
   replace hsn:=Hd hsn;replace hsu:=Hd hsu;replace hne:=Hd hne;have hcx2:=held hcx;have hml:=HML.out;have hgk:=hk2.out;clear hxw hs hx hcn;by_cases hz:xn=0
   ·
    have hp:joinT q m names (k2+1)=joinT q m names k2:=by unfold joinT;rw [hsu.out,qnu (by omega),List.append_nil]
    replace hp:=Hd hp;have hxe:((xn:Int)==0)=true:=by rw [beq_iff_eq];omega
    clear hz;go_wp2;go_roundg (gk-1)
    case rel=>exact ⟨k2+1,by have:=hk2.out;show _=_;omega,by go_num,by rw [hp.out],hwr⟩
    case measure=>have:=hk2.out;omega
   ·
    have hxe:((xn:Int)==0)=false:=by rw [beq_eq_false_iff_ne];omega
    obtain ⟨J,hJ⟩:∃ J,joinT q m names k2=J:=⟨_,rfl⟩
    rw [hJ] at hjs hne ⊢;by_cases h1:xn=1
    ·
     have hp:qaz q m names (k2+1)=qaz q m names k2++[s]:=by rw [hsu.out,h1,show ((1:Nat):Int)=1 from rfl,qq1,hsn.out]
     have hgt:decide ((1:Int)<(xn:Int))=false:=by rw [decide_eq_false];omega
     by_cases hpn:qaz q m names k2=[]
     ·
      obtain ⟨e1,e2⟩:=qoz hpn hp;obtain rfl:J=⟨#[]⟩:=by rw [<- hJ];exact e1
      have hr:=Hd (show joinT q m names (k2+1)=⟨#[]⟩++s from e2.trans (by apply qe1;simp [ByteArray.data_append]));clear hp hpn e1 e2 hJ hz h1;exact zz87
     ·
      have e2:=qlu hpn hp;rw [hJ] at e2;have hse:J.toList.isEmpty=false:=by rw [qd8];simp;exact fun e=>hne.out hpn (by rw [e];rfl)
      have hse2:J.toList≠[]:=by intro e;rw [e] at hse;cases hse
      have hr:=Hd (show joinT q m names (k2+1)=J++⟨#[42]⟩++s from e2);clear hp hpn e2 hJ hz h1;exact zz87
    ·
     have hp:qaz q m names (k2+1)=qaz q m names k2++[s++⟨#[94]⟩++ofL (textN xn)]:=by rw [hsu.out,qo5 (by omega),hsn.out,Int.toNat_natCast]
     have hgt:decide ((1:Int)<(xn:Int))=true:=by rw [decide_eq_true_eq];omega
     by_cases hpn:qaz q m names k2=[]
     ·
      obtain ⟨e1,e2⟩:=qoz hpn hp;obtain rfl:J=⟨#[]⟩:=by rw [<- hJ];exact e1
      have hr:=Hd (show joinT q m names (k2+1)=⟨#[]⟩++(s++⟨#[94]⟩++ofL (textN xn)) from e2.trans (by apply qe1;simp [ByteArray.data_append]));clear hp hpn e1 e2 hJ hz h1;exact zz85
     ·
      have e2:=qlu hpn hp;rw [hJ] at e2;have hse:J.toList.isEmpty=false:=by rw [qd8];simp;exact fun e=>hne.out hpn (by rw [e];rfl)
      have hse2:J.toList≠[]:=by intro e;rw [e] at hse;cases hse
      have hr:=Hd (show joinT q m names (k2+1)=J++⟨#[42]⟩++(s++⟨#[94]⟩++ofL (textN xn)) from e2);clear hp hpn e2 hJ hz h1;exact zz85
  ·
   have hkm:k2=m.length:=by have:=hk2.out;omega
   have hfin:=Hd (show joinT q m names k2=termB q m names by rw [hkm];rfl);clear hkm;go_wp2;go_ret;exact ⟨qe7 hfin.out,bth hw3 hwr⟩
 ):P:=h
theorem zz84 {P:Prop} (h:P:=by
 obtain ⟨x0,x1,x2⟩:=cq3 h1;replace CT:=Hd CT;go_wp2_with fail;refine CT.out.mono ?_;rintro e w3 ⟨rfl,hb3⟩;have hw3:=bth hw2 (bth s0 hb3);replace h0:=h0.below' hb3;have hj0:=Hd (show joinT q m names 0=ofL (textQ (absQ q)) by unfold joinT;rw [qc0,hcf.out];exact qny _ _);clear x0 x1 x2 hb3 CT h1 s0 HQ hcf;exact zz83
 ):P:=h
theorem zz86 {P:Prop} (h:P:=by
 have hcf:=Hd (show cofP q m=[] from if_neg (by rintro (h | h);exact hm0 h;exact h (of_decide_eq_true hbo.out)));have hj0:=Hd (show joinT q m names 0=⟨#[]⟩ by unfold joinT;rw [qc0,hcf.out];rfl);have hw3:=bth hw2 s0;obtain ⟨w3,rfl⟩:∃ W,W=w1:=⟨_,rfl⟩
 clear hbo h1 s0 HQ hcf;exact zz83
 ):P:=h
theorem qjm (z:QA) (q:Rat) (m:List Int) (names:List ByteArray) (aa na:Option Addr) (ac nc k:Nat) (w:World) (Hq:QK k w z q) (hk:k<=1000) (hm:IntsR w aa ac m) (hn:StrsR w na nc names) (hl:m.length<=names.length) (hml:m.length<=64)
  (hx:∀ x∈m,0<=x/\x<=1048576) (hnz:∀ s∈names,s.size<=1048576) (hne:∀ s∈names,s.size≠0) :
  Calls Tryz.prog 70 #[.agg #[.bool z.neg,.slice z.a z.n z.c,.slice z.b z.m z.d,.slice aa m.length ac],.slice na names.length nc] w fun e w'=>e=.returned (.string (termB q m names))/\Below w.heap.size w w':=by
 have hsz:(textQ (absQ q)).length<=20000002:=qjy _ Hq.abs.2 (by omega);have HT:=Hd hsz;have HZ:=Hd (fun W (hW:Below w.heap.size w W)=>Hq.ext (xbw hW));have HM:=Hd (fun W (hW:Below w.heap.size w W)=>hm.ext (xbw hW));have HN:=Hd hn;have HX:=Hd hx;have HNZ:=Hd hnz;have HML:=Hd hml;have HNE:=Hd hne;clear Hq hm hn hx hnz hsz hml hne;go_enter Tryz.func70,Tryz.ntmps70;go_wp2_with fail;refine qah (fun W=>Blk W w.heap.size 81 #[.bool z.neg,.slice z.a z.n z.c,.slice z.b z.m z.d,.slice aa m.length ac]/\Blk W (w.heap.size+1) 76 #[.bool z.neg,.slice z.a z.n z.c,.slice z.b z.m z.d]/\Below w.heap.size w W) (by refine ⟨?_,?_,?_⟩<;>first|((with_reducible repeat first|assumption|(apply bF;focus omega)|apply bS|(apply bN;focus (simp;done))|apply bA|apply bD);all_goals rfl)|go_grown) ?_;rintro w0 ⟨h0,h1,hw0⟩;obtain ⟨g1,hg1⟩:∃ g,w.heap.size+1=g:=⟨_,rfl⟩
 rw [hg1] at h1 ⊢;have hgg:w.heap.size<g1:=by omega
 clear hg1;refine (qkl z q k w0 (HZ.out w0 hw0) (by omega)).mono ?_;rintro e w2 ⟨rfl,hb2⟩;have hw2:=bth hw0 hb2;replace h0:=h0.below' hb2;replace h1:=h1.below' hb2;clear hb2 hw0;have gl0:=h0.lt;have gl1:=h1.lt;have hsg:=qag7 q;obtain ⟨sg,hsg2⟩:∃ r,sgnQ q=r:=⟨_,rfl⟩
 rw [hsg2] at hsg ⊢;by_cases hq:q<0
 ·
  rw [decide_eq_true hq] at hsg;have hsi:sg<0:=of_decide_eq_true hsg;have hab:=Hd (show -q=absQ q from (if_pos hq).symm);obtain ⟨x0,x1,x2⟩:=cq3 h1;obtain ⟨f0,f1,f2⟩:=fq3 h1;clear hsg hsg2 hq;go_wp2_with fail;refine (qxm z q k w2 (HZ.out w2 hw2) (by omega)).mono ?_;rintro e w4 ⟨y,rfl,J,hb4⟩;have hw4:=bth hw2 hb4;replace h0:=h0.below' hb4;replace h1:=h1.below' hb4;have K:=Hd J;obtain ⟨y0,y1,y2⟩:=cq3 h1;obtain ⟨f3,f4,f5⟩:=fq3 h1;clear x0 x1 x2 f0 f1 f2 J hb4 hw2;go_wp2
  refine qak (fun W=>Blk W w.heap.size 81 #[.bool z.neg,.slice z.a z.n z.c,.slice z.b z.m z.d,.slice aa m.length ac]/\Blk W g1 76 #[.bool y.neg,.slice y.a y.n y.c,.slice y.b y.m y.d]/\Below w.heap.size w W/\Kp (fun V=>QK k V y (-q)) w2.heap.size w4.heap.size W) ⟨by ((with_reducible repeat first|assumption|(apply bF;focus omega)|apply bS|(apply bN;focus (simp;done))|apply bA|apply bD);all_goals rfl),by ((with_reducible repeat first|assumption|(apply bF;focus omega)|apply bS|(apply bN;focus (simp;done))|apply bA|apply bD);all_goals rfl),by go_grown,by (with_reducible repeat first | exact K.out | (refine Kp.setc ?_ ?_;focus omega) | refine Kp.alloc ?_ | refine Kp.drew ?_)⟩ ?_;clear y0 y1 y2 f3 f4 f5 h0 h1 hw4;rintro w5 ⟨h0,h1,hw2,K2⟩;have HQ:=Hd (show ∀ W,Below w5.heap.size w5 W->QK k W y (absQ q) from fun W hW=>by rw [<- hab.out];exact (K2.call hW).now);obtain ⟨w6,rfl⟩:∃ W,W=w2:=⟨_,rfl⟩
  obtain ⟨w2,rfl⟩:∃ W,W=w5:=⟨_,rfl⟩
  clear K K2 hab HZ gl0 gl1 hsi;have s0:Below w2.heap.size w2 w2.drew:=brf.drew;have k03:=held (h0.cell 3);have k10:=held (h1.cell 0);have k11:=held (h1.cell 1);have k12:=held (h1.cell 2);by_cases hm0:m.length=0
  ·
   have hl0:((m.length:Int)==0)=true:=by rw [beq_iff_eq];omega
   have hcf:=Hd (show cofP q m=[ofL (textQ (absQ q))] from if_pos (.inl hm0));clear hm0;go_wp2;refine wrx (S:=Below w2.heap.size w2) [(0,.q),(1,.q),(2,.q),(3,.q),(4,.q),(5,.q),(6,.l),(7,.t),(8,.p),(9,.p)] (s0) ?_
   iterate 5 (refine qab rfl rfl fun K hK=>xq ?_;go_simp;refine hK _ _ ?_;clear hK K)
   iterate 4 (refine qar rfl rfl (fun K hK=>?_);go_simp;refine hK _ _ ?_;clear hK K)
   iterate 1 (refine qae rfl rfl fun K hK=>xp ?_;go_simp;refine hK _ _ ?_;clear hK K)
   refine qac ?_;replace h0:=h0.below' s0;replace h1:=h1.below' s0;clear k03 k10 k11 k12;obtain ⟨w1,hw1⟩:∃ W,w2.drew=W:=⟨_,rfl⟩
   rw [hw1] at h0 h1 s0 ⊢;clear hw1;have CT:=qhz y (absQ q) k w1 (HQ.out w1 s0) (by omega);exact zz84
  ·
   have hl0:((m.length:Int)==0)=false:=by rw [beq_eq_false_iff_ne];omega
   have CE:=fun yy W h1 h2=>qp5 y yy (absQ q) 1 (k+1) W h1 h2 (by omega)
   obtain ⟨bo,hbo⟩:∃ b,decide (absQ q=1)=b:=⟨_,rfl⟩
   simp only [hbo] at CE;replace CE:=Hd CE;replace hbo:=Hd hbo;go_wp2;refine wrx (S:=Below w2.heap.size w2) [(0,.q),(1,.q),(2,.q),(3,.q),(4,.q),(5,.q),(6,.l),(7,.t),(8,.p),(9,.p)] (s0) ?_
   iterate 6 (refine qab rfl rfl fun K hK=>xq ?_;go_simp;refine hK _ _ ?_;clear hK K)
   refine qal rfl rfl (fun K hK=>?_);go_simp;refine (qm9 _).mono ?_;rintro r u1 ⟨y1,rfl,J,hb1⟩;dsimp only;refine hK.out _ _ (bth s0 hb1) (fun _=>?_);clear hK K;have s1:=bth s0 hb1;refine qam rfl rfl (fun K hK=>?_);go_simp;refine (CE.out y1 _ (QK.more (HQ.out _ s1) (by omega)) (QK.more J.now (by omega))).mono ?_;rintro r w1 ⟨rfl,hb2⟩;dsimp only;refine hK.out _ _ ?_;clear hK K;have s2:=bth s1 hb2
   iterate 2 (refine qae rfl rfl fun K hK=>xp ?_;go_simp;refine hK _ _ ?_;clear hK K)
   refine qac ?_;clear k03 k10 k11 k12;replace h0:=h0.below' s2;replace h1:=h1.below' s2;replace s0:=s2;clear s1 s2 hb1 hb2 J CE
   cases bo
   ·
    have hcf:=Hd (show cofP q m=[ofL (textQ (absQ q))] from if_pos (.inr (of_decide_eq_false hbo.out)));clear hbo;have CT:=qhz y (absQ q) k w1 (HQ.out w1 s0) (by omega);exact zz84
   ·
    exact zz86
 ·
  rw [decide_eq_false hq] at hsg;have hsi:¬ sg<0:=of_decide_eq_false hsg;have HQ:=Hd (show ∀ W,Below w2.heap.size w2 W->QK k W z (absQ q) from fun W hW=>by rw [show absQ q=q from if_neg hq];exact HZ.out W (bth hw2 hW));clear hsg hsg2 hq HZ gl0 gl1;have s0:Below w2.heap.size w2 w2.drew:=brf.drew;have k03:=held (h0.cell 3);have k10:=held (h1.cell 0);have k11:=held (h1.cell 1);have k12:=held (h1.cell 2);by_cases hm0:m.length=0
  ·
   have hl0:((m.length:Int)==0)=true:=by rw [beq_iff_eq];omega
   have hcf:=Hd (show cofP q m=[ofL (textQ (absQ q))] from if_pos (.inl hm0));clear hm0;go_wp2;refine wrx (S:=Below w2.heap.size w2) [(0,.q),(1,.q),(2,.q),(3,.q),(4,.q),(5,.q),(6,.l),(7,.t),(8,.p),(9,.p)] (s0) ?_
   iterate 5 (refine qab rfl rfl fun K hK=>xq ?_;go_simp;refine hK _ _ ?_;clear hK K)
   iterate 4 (refine qar rfl rfl (fun K hK=>?_);go_simp;refine hK _ _ ?_;clear hK K)
   iterate 1 (refine qae rfl rfl fun K hK=>xp ?_;go_simp;refine hK _ _ ?_;clear hK K)
   refine qac ?_;replace h0:=h0.below' s0;replace h1:=h1.below' s0;clear k03 k10 k11 k12;obtain ⟨w1,hw1⟩:∃ W,w2.drew=W:=⟨_,rfl⟩
   rw [hw1] at h0 h1 s0 ⊢;clear hw1;have CT:=qhz z (absQ q) k w1 (HQ.out w1 s0) (by omega);exact zz84
  ·
   have hl0:((m.length:Int)==0)=false:=by rw [beq_eq_false_iff_ne];omega
   have CE:=fun yy W h1 h2=>qp5 z yy (absQ q) 1 (k+1) W h1 h2 (by omega)
   obtain ⟨bo,hbo⟩:∃ b,decide (absQ q=1)=b:=⟨_,rfl⟩
   simp only [hbo] at CE;replace CE:=Hd CE;replace hbo:=Hd hbo;go_wp2;refine wrx (S:=Below w2.heap.size w2) [(0,.q),(1,.q),(2,.q),(3,.q),(4,.q),(5,.q),(6,.l),(7,.t),(8,.p),(9,.p)] (s0) ?_
   iterate 6 (refine qab rfl rfl fun K hK=>xq ?_;go_simp;refine hK _ _ ?_;clear hK K)
   refine qal rfl rfl (fun K hK=>?_);go_simp;refine (qm9 _).mono ?_;rintro r u1 ⟨y1,rfl,J,hb1⟩;dsimp only;refine hK.out _ _ (bth s0 hb1) (fun _=>?_);clear hK K;have s1:=bth s0 hb1;refine qam rfl rfl (fun K hK=>?_);go_simp;refine (CE.out y1 _ (QK.more (HQ.out _ s1) (by omega)) (QK.more J.now (by omega))).mono ?_;rintro r w1 ⟨rfl,hb2⟩;dsimp only;refine hK.out _ _ ?_;clear hK K;have s2:=bth s1 hb2
   iterate 2 (refine qae rfl rfl fun K hK=>xp ?_;go_simp;refine hK _ _ ?_;clear hK K)
   refine qac ?_;clear k03 k10 k11 k12;replace h0:=h0.below' s2;replace h1:=h1.below' s2;replace s0:=s2;clear s1 s2 hb1 hb2 J CE
   cases bo
   ·
    have hcf:=Hd (show cofP q m=[ofL (textQ (absQ q))] from if_pos (.inr (of_decide_eq_false hbo.out)));clear hbo;have CT:=qhz z (absQ q) k w1 (HQ.out w1 s0) (by omega);exact zz84
   ·
    exact zz86
theorem qnk (l:List Trm) (a:Option Addr) (c:Nat) (w:World) (h:PolyR w a c l) (hq:∀ t∈l,t.coef.num.length<=2000000/\t.coef.den.length<=2000000) :
  Calls Tryz.prog 21 #[.slice a l.length c] w fun e w'=>e=.returned (.bool (polyB l))/\Below w.heap.size w w':=by
 have hlen:=h.len;obtain ⟨res,hres⟩:∃ x,polyB l=x:=⟨_,rfl⟩
 rw [hres];have HRES:=Hd hres;have HP:=Hd h;have HQ:=Hd hq;clear hres h hq;go_enter Tryz.func21,Tryz.ntmps21;go_wp2
 go_loopg [3] l.length (fun g q wr=>∃ k:Nat,k+g=l.length/\q=.int .i64 k/\Below w.heap.size w wr/\∀ j,j<k->badAt l j=false)
 case atStart=>exact ⟨0,by omega,rfl,Below.refl _ _,fun j hj=>by omega⟩
 case round =>
  obtain ⟨k,hkg,rfl,hwr,hall⟩:=hrel;have HKG:=Hd hkg;have HA:=Hd hall;clear hkg hall;by_cases hlt:k<l.length
  ·
   obtain ⟨t,ht⟩:=qad hlt;have hPr:=HP.out.ext (xbw hwr);have htq:=HQ.out t (List.mem_of_getElem? ht);obtain ⟨b,off,hao,p,hC,hP⟩:=hPr.2.2 k t ht;subst hao;obtain ⟨c0,c1,c2,c3⟩:=hC;obtain ⟨hP1,hP2,hP3⟩:=hP;have HT:=Hd ht;have HPR:=Hd hPr;obtain ⟨⟨neg,num,den⟩,mono⟩:=t;dsimp only at c0 c1 c2 c3 hP1 hP2 hP3 htq;have CR:=fun W (hW:Below wr.heap.size wr W)=>qrq ⟨neg,num,den⟩ p.na p.nc p.da p.dc W (hP2.ext (xbw hW)) (hP3.ext (xbw hW)) htq.1 htq.2
   unfold Rt.val at CR;dsimp only at CR;replace CR:=Hd CR;have HP1:=Hd hP1;have HP2:=Hd hP2;have HP3:=Hd hP3;have HTQ:=Hd htq;have hbl:b<wr.heap.size:=World.block_lt_of_cell? wr _ c0;clear ht hPr hP1 hP2 hP3 htq;have d0:=held c0;have d1:=held c1;have d2:=held c2;have d3:=held c3;have hw0:=Below.refl wr.heap.size wr
   cases hr:Rt.right ⟨neg,num,den⟩ with
   | false =>
    rw [hr] at CR;obtain rfl:res=false:=by rw [<- HRES.out];exact qc8 hlt (qde HT.out (qqq hr))
    clear hr;go_wp2_with fail;refine (CR.out _ hw0).mono ?_;rintro e w3 ⟨rfl,hb3⟩;have hw3:=bth hw0 hb3;go_wp2;go_ret;exact ⟨rfl,bth hwr hb3⟩
   | true =>
    rw [hr] at CR;have h0:val den≠0:=qoh hr;have CS:=fun W (hW:Below wr.heap.size wr W)=>qmj neg num den (val num) p.na p.da p.nc p.dc W (HP2.out.ext (xbw hW)) (HP3.out.ext (xbw hW)) rfl h0 HTQ.out.1 HTQ.out.2
    have CM:=fun W (hW:Below wr.heap.size wr W)=>qot mono p.aa p.ac W (HP1.out.ext (xbw hW))
    have hsg:=qs0 neg (val num);have HR:=Hd hr;clear h0 hr;by_cases hn0:val num=0
    ·
     rw [decide_eq_true hn0] at hsg;obtain rfl:res=false:=by rw [<- HRES.out];exact qc8 hlt (qde HT.out (qql hn0))
     revert CS hsg;generalize sgnZ neg (val num)=sg;intro CS hsg;replace CS:=Hd CS;replace CM:=Hd CM;clear hn0;go_wp2_with fail;refine (CR.out _ hw0).mono ?_;rintro e w3 ⟨rfl,hb3⟩;have hw3:=bth hw0 hb3;go_wp2_with fail;refine (CS.out _ hw3).mono ?_;rintro e w4 ⟨rfl,hb4⟩;have hw4:=bth hw3 hb4;go_wp2;go_ret;exact ⟨rfl,bth hwr hw4⟩
    ·
     rw [decide_eq_false hn0] at hsg;have HN0:=Hd hn0;revert CS hsg;generalize sgnZ neg (val num)=sg;intro CS hsg;replace CS:=Hd CS;clear hn0
     cases hm:monoB mono with
     | false =>
      rw [hm] at CM;replace CM:=Hd CM;obtain rfl:res=false:=by rw [<- HRES.out];exact qc8 hlt (qde HT.out (qq0 hm))
      clear hm;go_wp2_with fail;refine (CR.out _ hw0).mono ?_;rintro e w3 ⟨rfl,hb3⟩;have hw3:=bth hw0 hb3;go_wp2_with fail;refine (CS.out _ hw3).mono ?_;rintro e w4 ⟨rfl,hb4⟩;have hw4:=bth hw3 hb4;go_wp2_with fail;refine (CM.out _ hw4).mono ?_;rintro e w5 ⟨rfl,rfl⟩;go_wp2;go_ret;exact ⟨rfl,bth hwr hw4⟩
     | true =>
      rw [hm] at CM;replace CM:=Hd CM;have hok:okT ⟨⟨neg,num,den⟩,mono⟩=true:=qsy HR.out HN0.out hm;have HOK:=Hd hok;clear hm hok;go_wp2_with fail;refine (CR.out _ hw0).mono ?_;rintro e w3 ⟨rfl,hb3⟩;have hw3:=bth hw0 hb3;go_wp2_with fail;refine (CS.out _ hw3).mono ?_;rintro e w4 ⟨rfl,hb4⟩;have hw4:=bth hw3 hb4;go_wp2_with fail;refine (CM.out _ hw4).mono ?_;rintro e w5 ⟨rfl,rfl⟩;go_wp2;have s0:Below wr.heap.size wr w4.drew:=hw4.drew
      cases k with
      | zero =>
       have hbad:=qib HT.out HOK.out;have HB:=Hd hbad;clear hbad;refine wrM (S:=Below wr.heap.size wr) [(0,.q),(1,.q),(2,.q),(3,.q),(4,.q),(5,.q),(6,.q),(7,.q),(8,.q),(9,.q),(10,.q),(11,.q),(12,.q),(13,.q),(14,.t),(15,.p),(16,.p)] (s0) ?_
       iterate 3 (refine qab rfl rfl fun K hK=>xq ?_;go_simp;refine hK _ _ ?_;clear hK K)
       iterate 13 (refine qar rfl rfl (fun K hK=>?_);go_simp;refine hK _ _ ?_;clear hK K)
       iterate 1 (refine qae rfl rfl fun K hK=>xp ?_;go_simp;refine hK _ _ ?_;clear hK K)
       refine qac ?_;go_wp2;go_roundg (gk-1)
       case rel=>exact ⟨1,by have:=HKG.out;omega,by go_num,bth hwr s0,qi4 HA.out HB.out⟩
       case measure=>have:=HKG.out;omega
      | succ j =>
       obtain ⟨s,hs⟩:=qad (xs:=l) (k:=j) (by omega);obtain ⟨b',off',hao,p',hC',hP'⟩:=HPR.out.2.2 j s hs;injection hao with hao
       injection hao with hao1 hao2
       subst hao1 hao2;obtain ⟨y0,y1,y2,y3⟩:=hC';have hbad:=qiq HT.out hs HOK.out;have e3:=held y3;have hpv:okT s=true:=qla hs (HA.out j (by omega));have CL:=fun W (hW:Below wr.heap.size wr W)=>qjo s.mono mono p'.aa p.aa p'.ac p.ac W (hP'.1.ext (xbw hW)) (HP1.out.ext (xbw hW)) (qob hpv) (qob HOK.out)
       dsimp only at hbad;revert CL hbad;generalize lexI s.mono mono=lx;intro hbad CL;have hwk:IntKind.i64.wrap (j:Int)=(j:Int):=by rw [IntKind.wrap_i64];omega
       replace CL:=Hd CL;have HBD:=Hd hbad;have hjl:j<l.length:=by omega
       have hj0:(0:Int)<=(j:Int)+1:=by omega
       have hj1:(j:Int)+1<(l.length:Int):=by omega
       clear hbad hP' hs y0 y1 y2 y3 hpv;by_cases hlx:lx<=0
       ·
        have hle:decide (lx<=0)=true:=by simpa using hlx
        obtain rfl:res=false:=by rw [<- HRES.out];exact qc8 hlt (HBD.out.trans hle)
        clear hlx HBD;refine wrM (S:=Below wr.heap.size wr) [(0,.q),(1,.q),(2,.q),(3,.q),(4,.q),(5,.q),(6,.q),(7,.q),(8,.q),(9,.q),(10,.q),(11,.q),(12,.q),(13,.q),(14,.t),(15,.p),(16,.p)] (s0) ?_
        iterate 14 (refine qab rfl rfl fun K hK=>xq ?_;go_simp;refine hK _ _ ?_;clear hK K)
        refine qam rfl rfl (fun K hK=>?_);go_simp;refine (CL.out _ s0).mono ?_;rintro r w6 ⟨rfl,rfl⟩;dsimp only;refine hK.out _ _ ?_;clear hK K
        iterate 2 (refine qae rfl rfl fun K hK=>xp ?_;go_simp;refine hK _ _ ?_;clear hK K)
        refine qac ?_;go_wp2;go_ret;exact ⟨rfl,bth hwr s0⟩
       ·
        have hle:decide (lx<=0)=false:=by simpa using hlx
        have HB:=Hd (HBD.out.trans hle);clear hlx HBD;refine wrM (S:=Below wr.heap.size wr) [(0,.q),(1,.q),(2,.q),(3,.q),(4,.q),(5,.q),(6,.q),(7,.q),(8,.q),(9,.q),(10,.q),(11,.q),(12,.q),(13,.q),(14,.t),(15,.p),(16,.p)] (s0) ?_
        iterate 14 (refine qab rfl rfl fun K hK=>xq ?_;go_simp;refine hK _ _ ?_;clear hK K)
        refine qam rfl rfl (fun K hK=>?_);go_simp;refine (CL.out _ s0).mono ?_;rintro r w6 ⟨rfl,rfl⟩;dsimp only;refine hK.out _ _ ?_;clear hK K
        iterate 2 (refine qae rfl rfl fun K hK=>xp ?_;go_simp;refine hK _ _ ?_;clear hK K)
        refine qac ?_;go_wp2;go_roundg (gk-1)
        case rel=>exact ⟨j+1+1,by have:=HKG.out;omega,by go_num,bth hwr s0,qi4 HA.out HB.out⟩
        case measure=>have:=HKG.out;omega
  ·
   obtain rfl:res=true:=by rw [<- HRES.out];exact qij fun i hi=>HA.out i (by omega)
   go_wp2;go_ret;exact ⟨rfl,hwr⟩
theorem qab5 {names:List ByteArray} (h:errNm names=0):∀ s∈names,s.size≠0:=fun s hs h0=>by
 unfold errNm at h
 split at h
 ·
  next ha =>
  rw [List.all_eq_true] at ha;have h1:=ha s hs;rw [qfq.1 h0] at h1
  cases h1
 · cases h
theorem qwb {l:List Trm} {n k:Nat} {t:Trm} (ht:l[k]? = some t):bigB (l.take (k+1)) n=(bigB (l.take k) n||decide (n<t.mono.length)):=by
 unfold bigB;rw [qbc ht,List.any_append];simp
theorem zz89 {P:Prop} (h:P:=by
 replace hps2:=Hd hps2;clear CT hb6 htb;go_wp2;go_roundg (gk-1)
 case rel=>exact ⟨k+1,by have:=hk.out;show _=_;omega,by go_num,by rw [hps2.out],hw6⟩
 case measure=>have:=hk.out;omega
 ):P:=h
theorem zz88 {P:Prop} (h:P:=by
 clear hsl hq h0;have CT:=Hd (qjm (cofA t p) t.coef.q t.mono names p.aa na p.ac nc 1000 w4 (HC.out w4 hw4) (by omega) (HR.out w4 hw4).1 (HN.out w4 hw4) htn htm2.out.1 htm2.out.2 HNZ.out HNE.out);go_wp2_with fail;refine CT.out.mono ?_;rintro e w6 ⟨rfl,hb6⟩;have hw6:=bth hw4 hb6;obtain ⟨tb,htb⟩:∃ x,termB t.coef.q t.mono names=x:=⟨_,rfl⟩
 have hts:=HTS.out;rw [htb] at hts ⊢;have hps2:qa2 l names k++signP k t.coef.q++tb=qa2 l names (k+1):=by rw [<- htb];exact (qb4 ht2.out).symm
 rw [hsg.out,hP] at hps2;have hn5:¬ 9223372036854775807<P.size+3+tb.size:=by omega
 have hn6:P.size+3+tb.size<=1401400004000:=by omega
 exact zz89
 ):P:=h
theorem qul (l:List Trm) (names:List ByteArray) (a na:Option Addr) (c nc:Nat) (w:World) (h:PolyR w a c l) (hq:∀ t∈l,t.coef.num.length<=1000/\t.coef.den.length<=1000) (hl:l.length<=1000)
  (hn:StrsR w na nc names) (hnl:names.length<=1000) (hnz:∀ s∈names,s.size<=1048576) :
  Calls Tryz.prog 34 #[.slice a l.length c,.slice na names.length nc] w fun e w'=>e=.returned (.tuple #[.string (qd9 l names).1,.int .i64 (qd9 l names).2])/\Below w.heap.size w w':=by
 have CR:=qnk l a c w h (fun t ht=>by have:=hq t ht;omega);have CK:=fun W (hW:Below w.heap.size w W)=>qlr names na nc W (hn.ext (xbw hW)) hnz (by omega)
 have HP:=Hd (fun W (hW:Below w.heap.size w W)=>h.ext (xbw hW));have HN:=Hd (fun W (hW:Below w.heap.size w W)=>hn.ext (xbw hW));have HQ:=Hd hq;have HNZ:=Hd hnz;obtain ⟨R,hR⟩:∃ r,qd9 l names=r:=⟨_,rfl⟩
 rw [hR];unfold qd9 at hR;clear h hq hn hnz
 cases hpb:polyB l
 ·
  rw [hpb] at CR hR;have hfin:=Hd (show R=(⟨#[]⟩,1) from hR.symm);replace CR:=Hd CR;clear hpb hR CK;go_enter Tryz.func34,Tryz.ntmps34;go_wp2_with fail;refine CR.out.mono ?_;rintro e w1 ⟨rfl,hb1⟩;go_wp2;go_ret2;exact ⟨by rw [hfin.out];rfl,hb1⟩
 rw [hpb] at CR hR;have HPB:=Hd (qk2 hpb);rw [if_pos rfl] at hR;replace CR:=Hd CR;clear hpb;obtain ⟨er,her⟩:∃ e,errNm names=e:=⟨_,rfl⟩
 simp only [her] at CK hR;replace CK:=Hd CK;by_cases he:er=0
 ·
  subst he;rw [if_pos rfl] at hR;have HNE:=Hd (qab5 her);replace hR:=Hd hR;clear her;go_enter Tryz.func34,Tryz.ntmps34;go_wp2_with fail;refine CR.out.mono ?_;rintro e w1 ⟨rfl,hb1⟩;go_wp2_with fail;refine (CK.out w1 hb1).mono ?_;rintro e w2 ⟨rfl,hb2⟩;have hw2:=bth hb1 hb2;clear CR CK hb1 hb2;go_wp2
  go_loopg [7] l.length (fun g s7 wr=>∃ k:Nat,Hid (k+g=l.length)/\s7=.int .i64 k/\Hid (bigB (l.take k) names.length=false)/\Below w.heap.size w wr)
  case atStart=>exact ⟨0,by show _=_;omega,rfl,rfl,hw2⟩
  case round =>
   clear hw2;obtain ⟨k,hk,rfl,hbk,hwr⟩:=hrel;by_cases hlt:k<l.length
   ·
    obtain ⟨t,ht⟩:=qad hlt;have hp0:=HP.out w brf;obtain ⟨b,o,rfl,p,hC0,hR0⟩:=hp0.2.2 k t ht;have d3:=held hC0.2.2.2 wr hwr;have hsu:=qwb (n:=names.length) ht;rw [hbk.out,Bool.false_or] at hsu;have hbig:=fun (h:names.length<t.mono.length)=>(show bigB l names.length=true by unfold bigB;rw [List.any_eq_true];exact ⟨t,List.mem_of_getElem? ht,by simpa using h⟩)
    replace hsu:=Hd hsu;clear hp0 hC0 hR0 ht;by_cases hbg:names.length<t.mono.length
    ·
     have hd:decide (names.length<t.mono.length)=true:=decide_eq_true hbg;have hfin:=Hd (show R=(⟨#[]⟩,6) by rw [<- hR.out,if_pos (hbig hbg)]);clear hbig hbg hsu;go_wp2;go_ret2;exact ⟨by rw [hfin.out];rfl,hwr⟩
    ·
     have hd:decide (names.length<t.mono.length)=false:=decide_eq_false hbg;have hs2:=Hd (show bigB (l.take (k+1)) names.length=false by rw [hsu.out,hd]);clear hbig hbg hsu;go_wp2;go_roundg (gk-1)
     case rel=>exact ⟨k+1,by have:=hk.out;show _=_;omega,by go_num,hs2.out,hwr⟩
     case measure=>have:=hk.out;omega
   ·
    have hbg:bigB l names.length=false:=by have:=hbk.out;rwa [qfc hlt] at this
    have hR2:=hR.out;rw [if_neg (by rw [hbg];simp)] at hR2;replace hbg:=Hd hbg;clear hR hbk hk;obtain ⟨w3,rfl⟩:∃ W,W=wr:=⟨_,rfl⟩
    by_cases hl0:l.length=0
    ·
     have hl1:((l.length:Int)==0)=true:=by rw [beq_iff_eq];omega
     have hfin:=Hd (show R=(⟨#[48]⟩,0) by rw [<- hR2,if_pos hl0]);clear hR2 hl0;go_wp2;go_ret2;exact ⟨by rw [hfin.out];rfl,hwr⟩
    have hl1:((l.length:Int)==0)=false:=by rw [beq_eq_false_iff_ne];omega
    have hfin:=Hd (show R=(qa2 l names l.length,0) by rw [<- hR2,if_neg hl0]);clear hR2 hl0;go_wp2
    go_loopg [8,9,10] l.length (fun g s8 s9 _ w4=>∃ k:Nat,Hid (k+g=l.length)/\s9=.int .i64 k/\s8=.string (qa2 l names k)/\Below w.heap.size w w4)
    case atStart=>exact ⟨0,by show _=_;omega,rfl,rfl,hwr⟩
    case round =>
     clear hwr;obtain ⟨k,hk,rfl,rfl,hwr⟩:=hrel;by_cases hlt:k<l.length
     ·
      obtain ⟨t,ht⟩:=qad hlt;have htl:=List.mem_of_getElem? ht;have hp0:=HP.out w brf;obtain ⟨b,o,rfl,p,hC0,hR0⟩:=hp0.2.2 k t ht;obtain ⟨c0,c1,c2,c3⟩:=hC0;have HR:=Hd (fun W (hW:Below w.heap.size w W)=>qeq.ext hR0 (xbw hW));have HC:=Hd (fun W (hW:Below w.heap.size w W)=>qkm (HR.out W hW) (HPB.out t htl).1 (HQ.out t htl).1 (HQ.out t htl).2);have htm:=qbv (HPB.out t htl).2;have htn:=qti hbg.out htl;have HTS:=Hd (qga HNZ.out (fun x hx=>(htm.2 x hx).2) (qg2 (HPB.out t htl).1 (HQ.out t htl).1 (HQ.out t htl).2) htm.1);have hplen:(qa2 l names k).size<=1000*(1400000000+3):=by
       have e1:=qhx (l:=l) (names:=names) (M:=1400000000) (fun u hu=>qga HNZ.out (fun x hx=>((qbv (HPB.out u hu).2).2 x hx).2) (qg2 (HPB.out u hu).1 (HQ.out u hu).1 (HQ.out u hu).2) (qbv (HPB.out u hu).2).1) k;exact Nat.le_trans e1 (Nat.mul_le_mul_right _ (by omega))
      have ht2:=Hd ht;have hsl:=qq8 t.coef.q;have htm2:=Hd htm;have d0:=held c0 wr hwr;have d1:=held c1 wr hwr;have d2:=held c2 wr hwr;have d3:=held c3 wr hwr;clear hp0 hR0 ht htl htm;go_wp2_with fail;refine (qkl (cofA t p) t.coef.q 1000 wr (HC.out wr hwr) (by omega)).mono ?_;rintro e w4 ⟨rfl,hb4⟩;have hw4:=bth hwr hb4;have k0:=held c0 w4 hw4;have k1:=held c1 w4 hw4;have k2:=held c2 w4 hw4;have k3:=held c3 w4 hw4;obtain ⟨sg,hsg2⟩:∃ r,sgnQ t.coef.q=r:=⟨_,rfl⟩
      rw [hsg2] at hsl ⊢;obtain ⟨P,hP⟩:∃ P,qa2 l names k=P:=⟨_,rfl⟩
      rw [hP] at hplen ⊢;have hn3:¬ 9223372036854775807<P.size+3:=by omega
      have hn4:¬ 9223372036854775807<P.size+1:=by omega
      have hn3':P.size+3<=1400000004000:=by omega
      have hn4':P.size+1<=1400000004000:=by omega
      clear d0 d1 d2 d3 c0 c1 c2 c3 hb4 hwr hsg2;by_cases hq:t.coef.q<0
      ·
       rw [decide_eq_true hq] at hsl;have hsi:sg<0:=of_decide_eq_true hsl;by_cases h0:k=0
       ·
        have hk1:decide (0<k)=false:=by rw [decide_eq_false];omega
        have hsg:=Hd (show signP k t.coef.q=⟨#[45]⟩ by unfold signP;rw [if_pos h0,if_pos hq]);clear hsl hq h0;have CT:=Hd (qjm (cofA t p) t.coef.q t.mono names p.aa na p.ac nc 1000 w4 (HC.out w4 hw4) (by omega) (HR.out w4 hw4).1 (HN.out w4 hw4) htn htm2.out.1 htm2.out.2 HNZ.out HNE.out);go_wp2_with fail;refine CT.out.mono ?_;rintro e w6 ⟨rfl,hb6⟩;have hw6:=bth hw4 hb6;obtain ⟨tb,htb⟩:∃ x,termB t.coef.q t.mono names=x:=⟨_,rfl⟩
        have hts:=HTS.out;rw [htb] at hts ⊢;have hps2:qa2 l names k++signP k t.coef.q++tb=qa2 l names (k+1):=by rw [<- htb];exact (qb4 ht2.out).symm
        rw [hsg.out,hP] at hps2;have hn5:¬ 9223372036854775807<P.size+1+tb.size:=by omega
        have hn6:P.size+1+tb.size<=1401400004000:=by omega
        exact zz89
       ·
        have hk1:decide (0<k)=true:=by rw [decide_eq_true_eq];omega
        have hsg:=Hd (show signP k t.coef.q=⟨#[32,45,32]⟩ by unfold signP;rw [if_neg h0,if_pos hq]);exact zz88
      ·
       rw [decide_eq_false hq] at hsl;have hsi:¬ sg<0:=of_decide_eq_false hsl;by_cases h0:k=0
       ·
        have hk1:decide (0<k)=false:=by rw [decide_eq_false];omega
        have hsg:=Hd (show signP k t.coef.q=⟨#[]⟩ by unfold signP;rw [if_pos h0,if_neg hq]);clear hsl hq h0;have CT:=Hd (qjm (cofA t p) t.coef.q t.mono names p.aa na p.ac nc 1000 w4 (HC.out w4 hw4) (by omega) (HR.out w4 hw4).1 (HN.out w4 hw4) htn htm2.out.1 htm2.out.2 HNZ.out HNE.out);go_wp2_with fail;refine CT.out.mono ?_;rintro e w6 ⟨rfl,hb6⟩;have hw6:=bth hw4 hb6;obtain ⟨tb,htb⟩:∃ x,termB t.coef.q t.mono names=x:=⟨_,rfl⟩
        have hts:=HTS.out;rw [htb] at hts ⊢;have hps2:qa2 l names k++signP k t.coef.q++tb=qa2 l names (k+1):=by rw [<- htb];exact (qb4 ht2.out).symm
        rw [hsg.out,hP] at hps2;have hn5:¬ 9223372036854775807<P.size+0+tb.size:=by omega
        have hn6:P.size+0+tb.size<=1401400004000:=by omega
        replace hps2:=Hd hps2;clear CT hb6 htb;go_wp2;go_roundg (gk-1)
        case rel=>exact ⟨k+1,by have:=hk.out;show _=_;omega,by go_num,by rw [<- hps2.out];congr 2;apply qe1;simp [ByteArray.data_append],hw6⟩
        case measure=>have:=hk.out;omega
       ·
        have hk1:decide (0<k)=true:=by rw [decide_eq_true_eq];omega
        have hsg:=Hd (show signP k t.coef.q=⟨#[32,43,32]⟩ by unfold signP;rw [if_neg h0,if_neg hq]);exact zz88
     ·
      have hkl:k=l.length:=by have:=hk.out;omega
      have hfin2:R=(qa2 l names k,0):=by rw [hfin.out,hkl]
      clear hfin hkl;have hfin:=Hd hfin2;clear hfin2;go_wp2;go_ret2;exact ⟨by rw [hfin.out];rfl,hwr⟩
 ·
  rw [if_neg he] at hR;have hfin:=Hd hR.symm;have hne:(er != 0)=true:=by simpa using he
  clear hR he her;go_enter Tryz.func34,Tryz.ntmps34;go_wp2_with fail;refine CR.out.mono ?_;rintro e w1 ⟨rfl,hb1⟩;go_wp2_with fail;refine (CK.out w1 hb1).mono ?_;rintro e w2 ⟨rfl,hb2⟩;go_wp2;go_ret2;exact ⟨by rw [hfin.out];rfl,bth hb1 hb2⟩
theorem zz90 {P:Prop} (h:P:=by
 go_wp2;go_ret2;exact ⟨none,0,0,9,rfl,bth hb1 hb2,(fun p x e=>by injection e with e;cases e),fun x e=>by injection e with _ e;exact ⟨e,by rw [<- e];decide⟩⟩
 ):P:=h
theorem qmh (X:Nat->Prop) (names:List ByteArray) (na:Option Addr) (nc:Nat) (s:ByteArray) (w:World) (hX:∀ b,X b->b<w.heap.size)
  (hE:StrsR w na nc names) (hnz:∀ x∈names,x.size<=1048576) (hnl:names.length<=1000) (hs:s.size<=3000) (hW:Wok names s.data.toList) :
  Calls Tryz.prog 20 #[.string s,.slice na names.length nc] w (RetCp X (polC names s.data.toList) w):=by
 have CR:=Hd (qto X s names na nc w hE hnz hnl hs hW hX);have HN:=Hd (fun W (hW:Below w.heap.size w W)=>hE.ext (xbw hW));have HNZ:=Hd hnz;have HW:=Hd hW;obtain ⟨G,hG⟩:∃ G,polC names s.data.toList=G:=⟨_,rfl⟩
 rw [hG];unfold polC at hG;clear hE hnz hW;go_enter Tryz.func20,Tryz.ntmps20;go_wp2_with fail;refine CR.out.mono ?_;rintro e w1 ⟨a,n,c,at_,er,rfl,hb1,hbad,hok⟩;clear CR;by_cases hn0:errNm names=0
 ·
  have hok1:=hok hn0;rw [if_pos hn0] at hG;replace hn0:=Hd hn0;clear hok hbad
  cases hR:readP names s.data.toList with
  | bad k er2 =>
   rw [hR] at hok1 hG;obtain ⟨rfl,rfl,rfl,rfl,he0,hk⟩:=hok1;subst hG;have hne:(er != 0)=true:=by simpa using he0
   replace he0:=Hd he0;clear hR hk;go_wp2;go_ret2;exact ⟨none,0,0,er,rfl,hb1,(fun p x e=>by injection e with e;cases e),fun x e=>by injection e with _ e;exact ⟨e,by rw [<- e];exact he0.out⟩⟩
  | ok p r =>
   rw [hR] at hok1 hG;obtain ⟨rfl,hP,rfl,rfl,hF⟩:=hok1;obtain ⟨hpl,hpk⟩:=qjt HW.out hR;have hq:=hP.list;have hlm:(p.map trmOf).length=p.length:=List.length_map _;have hqb:=qic hpk;have hpt:=qo4 (names:=names) hqb;rw [qyd] at hpt;have CP:=fun W (hW:Below w1.heap.size w1 W)=>qul (p.map trmOf) names a na c nc W (hq.ext (xbw hW)) (qmk hF) (by rw [hlm];omega) (HN.out W (bth hb1 hW)) hnl HNZ.out
   rw [hpt,hlm] at CP;dsimp only at hG;obtain ⟨T,hT⟩:∃ T,qdf names p=T:=⟨_,rfl⟩
   rw [hT] at CP hG;obtain ⟨t,te⟩:=T;dsimp only at CP;replace CP:=Hd CP;replace hP:=Hd hP;obtain ⟨n,hn⟩:∃ n,p.length=n:=⟨_,rfl⟩
   rw [hn] at CP ⊢;have hn':=Hd hn;clear hR hF hpl hpk hq hlm hqb hpt hT hn;go_wp2_with fail;refine (CP.out w1 brf).mono ?_;rintro e w2 ⟨rfl,hb2⟩;clear CP;by_cases he0:te=0
   ·
    subst he0;obtain ⟨b,hb⟩:∃ b,((ofL t).toList==s.toList)=b:=⟨_,rfl⟩
    have hb':=hb;rw [qe4] at hb'
    cases b
    ·
     have hbn:((ofL t).toList != s.toList)=true:=by rw [bne,hb];rfl
     rw [decide_eq_false_iff_not] at hb';rw [if_neg (fun e=>hb' (by injection e with e _;rw [e,qc1]))] at hG;subst hG;replace hb':=Hd hb';exact zz90
    ·
     have hbn:((ofL t).toList != s.toList)=false:=by rw [bne,hb];rfl
     rw [decide_eq_true_iff] at hb';rw [if_pos (show (t,(0:Int))=(s.data.toList,0) by rw [<- hb',qaw])] at hG;subst hG;replace hb':=Hd hb';have hP2:=Hd (hP.out.call hb2);go_wp2;go_ret2;exact ⟨a,n,c,0,rfl,bth hb1 hb2,(fun q x e=>by injection e with e _;injection e with e;subst e;exact ⟨hn'.out.symm,hP2.out,rfl⟩),fun x e=>by injection e with e _;cases e⟩
   ·
    have hne:(te != 0)=true:=by simpa using he0
    rw [if_neg (fun e=>he0 (by injection e))] at hG;subst hG;replace he0:=Hd he0;exact zz90
 ·
  obtain ⟨rfl,rfl,rfl,rfl⟩:=hbad hn0;rw [if_neg hn0] at hG;subst hG;obtain ⟨er,her⟩:∃ er,errNm names=er:=⟨_,rfl⟩
  simp only [her] at hn0 ⊢;have hne:(er != 0)=true:=by simpa using hn0
  replace hn0:=Hd hn0;replace her:=Hd her;clear hok hbad;go_wp2;go_ret2;exact ⟨none,0,0,er,rfl,hb1,(fun p x e=>by injection e with e;cases e),fun x e=>by injection e with _ e;have e2:=her.out.symm.trans e;exact ⟨e2,by rw [<- e2];exact hn0.out⟩⟩
structure FineL (l : List (List Trm)) : Prop where
 right:∀ p∈l,polyB p=true
 few:∀ p∈l,p.length<=1000
 small:∀ p∈l,∀ t∈p,t.coef.num.length<=1000/\t.coef.den.length<=1000
theorem qx8 (n:Nat):textQ ((n:Int):Rat)=textN n:=by
 unfold textQ trip textF;rw [Rat.num_intCast,Rat.den_intCast];simp [textZ]
theorem qp2 (n:Nat) (w:World) (hn:n<=1000):Calls Tryz.prog 19 #[.int .i64 n] w fun e w'=>e=.returned (.string (ofL (textN n)))/\Below w.heap.size w w':=by
 have CO:=qo8 (n:Int) w ⟨by omega,by omega⟩;have hz:qao (decide ((n:Int)<0)) (n:Int).natAbs 1=trip ((n:Int):Rat):=by
  rw [qgv,Rat.mkRat_one]
 rw [hz] at CO;have hq:qsz ((n:Int):Rat)<=2:=by
  unfold qsz;rw [Rat.num_intCast,Rat.den_intCast];have h1:(limbs (n:Int).natAbs).length<=2:=qan (by rw [Int.natAbs_natCast];omega);have h2:(limbs 1).length<=2:=qan (by omega)
  omega
 have CO2:=Hd (CO.mono fun _ _ h=>qd6 hq h);have CT:=Hd (fun (x:QA) W (h:QK 2 W x ((n:Int):Rat))=>qhz x _ 2 W h (by omega));rw [qx8] at CT;clear CO hz hq;go_enter Tryz.func19,Tryz.ntmps19;go_wp2_with fail;refine CO2.out.mono ?_;rintro e w1 ⟨x,rfl,K,hb1⟩;have CT2:=Hd (CT.out x w1 K.now);clear K CT CO2;go_wp2_with fail;refine CT2.out.mono ?_;rintro e w2 ⟨rfl,hb2⟩;go_wp2;go_ret;exact ⟨rfl,bth hb1 hb2⟩
theorem qzl (s:ByteArray) (a:Nat):(s.extract 0 a).data.toList=s.data.toList.take a:=by rw [Lib.extract_data];simp
theorem qsg (s:ByteArray) (a:Nat) (h:a<=s.size) (w:World):(Instr.slice 9 (.string s) none (some (.int .i64 (a:Int))) none).run Tryz.prog w=.ok (.string (s.extract 0 a)) w:=by
 have:=run_slice_string_h (P:=Tryz.prog) w 9 s Tryz.underlying9 .i64 (a:Int) (by omega) (by omega);rw [this]
 rfl
def n30 (least:Nat) (l:List UInt8):Int:=match numC least l with
 | some n=>(n:Int)
 | none=>-1
theorem qaj5 {least n:Nat} (h:least<=n) (hn:n<=64):n30 least (textN n)=n:=by unfold n30;rw [qg1 h hn]
theorem qzc {least:Nat} {l:List UInt8} (h:∀ n,least<=n->n<=64->textN n≠l):n30 least l = -1:=by
 unfold n30
 cases hc:numC least l with
 | none=>rfl
 | some n =>
  obtain ⟨h1,h2,h3⟩:=qcv hc;exact absurd h3 (h n h1 h2)
def cutB (b:UInt8) (l:List UInt8):List UInt8 × List UInt8 × Bool:=match cutL b l with
 | none=>(l,[],false)
 | some (t,r)=>(t,r,true)
theorem qah8 {b:UInt8} {l:List UInt8} {i:Nat} (h:l[i]? = some b) (hb:∀ j,j<i->l[j]? ≠ some b):cutB b l=(l.take i,l.drop (i+1),true):=by
 have e:l=l.take i++b :: l.drop (i+1):=by
  have hi:=qas h;rw [List.getElem?_eq_getElem hi] at h;injection h with h
  rw [<- h,List.getElem_cons_drop,List.take_append_drop]
 have:cutL b l=some (l.take i,l.drop (i+1)):=by
  conv=>lhs;rw [e]
  refine qsl b _ _ fun c hc=>?_
  obtain ⟨j,hj⟩:=List.getElem?_of_mem hc;have hji:j<i:=by
   have:=qas hj;rw [List.length_take] at this
   omega
  rw [List.getElem?_take,if_pos hji] at hj;rintro rfl;exact hb j hji hj
 unfold cutB;rw [this]
theorem qah1 {b:UInt8} {l:List UInt8} (hb:∀ j,j<l.length->l[j]? ≠ some b):cutB b l=(l,[],false):=by
 unfold cutB;rw [qn1 b l fun c hc e=>by
  obtain ⟨j,hj⟩:=List.getElem?_of_mem hc;exact hb j (qas hj) (by rw [hj,e])]
theorem qig (least:Nat) (s:ByteArray) (w:World) (hl:least<=1) :
  Calls Tryz.prog 11 #[.string s,.int .i64 least] w fun e w'=>e=.returned (.int .i64 (n30 least s.data.toList))/\Below w.heap.size w w':=by
 obtain ⟨R,hR⟩:∃ R,n30 least s.data.toList=R:=⟨_,rfl⟩
 rw [hR];replace hR:=Hd hR;go_enter Tryz.func11,Tryz.ntmps11;go_wp2
 go_loopg [5] (65-least) (fun gk sv wr=>∃ j:Nat,Hid (j+gk=65)/\Hid (least<=j)/\sv=.int .i64 j/\Hid (Below w.heap.size w wr)/\Hid (∀ i,least<=i->i<j->textN i≠s.data.toList))
 case atStart=>exact ⟨least,by show _=_;omega,nlr _,rfl,Below.refl _ _,fun i h1 h2=>by omega⟩
 case round =>
  obtain ⟨j,hj,hlj,rfl,hb,hno⟩:=hrel;obtain ⟨wq,rfl⟩:∃ W:World,W=wr:=⟨_,rfl⟩
  by_cases hj64:j<=64
  ·
   have d1:decide ((j:Int)<=64)=true:=by rw [decide_eq_true_iff];omega
   have d2:decide (j<=64)=true:=by rw [decide_eq_true_iff];omega
   have CD:=Hd (qp2 j wq (by omega));obtain ⟨x,hx⟩:∃ x,ofL (textN j)=x:=⟨_,rfl⟩
   rw [hx] at CD;obtain ⟨b,hbe⟩:∃ b,(s.toList==x.toList)=b:=⟨_,rfl⟩
   have hsx:=hbe;rw [qe4] at hsx;go_wp2_with fail;refine CD.out.mono ?_;rintro e w1 ⟨rfl,hb1⟩;have hb2:=Hd (bth hb.out hb1)
   cases b
   ·
    have hne:s≠x:=by simpa using hsx
    have hno2:=Hd (show ∀ i,least<=i->i<j+1->textN i≠s.data.toList from fun i h1 h2 e=>by
     rcases Nat.lt_or_ge i j with h | h
     · exact hno.out i h1 h e
     ·
      obtain rfl:i=j:=by omega
      exact hne (by rw [<- hx,e,qc1]))
    clear hsx hne hno hb1 CD;go_wp2;go_roundg (gk-1)
    case rel=>exact ⟨j+1,by have:=hj.out;show _=_;omega,by have:=hlj.out;show _<=_;omega,by go_num,hb2.out,hno2.out⟩
    case measure=>have:=hj.out;omega
   ·
    have he:s=x:=by simpa using hsx
    have hRj:R=(j:Int):=by
     rw [<- hR.out,he,<- hx,qaw];exact qaj5 hlj.out (by omega)
    replace hRj:=Hd hRj;replace he:=Hd he;clear hsx hno hb1 CD;go_wp2;go_ret;exact ⟨congrArg (fun z=>Ending.returned (Value.int .i64 z)) hRj.out.symm,hb2.out⟩
  ·
   have d1:decide ((j:Int)<=64)=false:=by rw [decide_eq_false_iff_not];omega
   have d2:decide (j<=64)=false:=by rw [decide_eq_false_iff_not];omega
   have hRn:R = -1:=by
    rw [<- hR.out];exact qzc fun n h1 h2=>hno.out n h1 (by omega)
   have hb2:=hb;replace hRn:=Hd hRn;go_wp2;go_ret;exact ⟨by rw [hRn.out];rfl,hb2.out⟩
theorem qy3 (s:ByteArray) (a:Nat):(s.extract a s.size).data.toList=s.data.toList.drop a:=by
 rw [Lib.extract_data];refine List.take_of_length_le ?_;rw [List.length_drop];simp
theorem qdl (s:ByteArray) (b:UInt8) (z:Int) (hz:(b.toNat:Int)=z) (w:World) (hs:s.size<=281474976710656) :
  Calls Tryz.prog 10 #[.string s,.int .u8 z] w fun e w'=>e=.returned (.tuple #[.string (ofL (cutB b s.data.toList).1),.string (ofL (cutB b s.data.toList).2.1),.bool (cutB b s.data.toList).2.2])/\Below w.heap.size w w':=by
 obtain ⟨R,hR⟩:∃ R,cutB b s.data.toList=R:=⟨_,rfl⟩
 rw [hR];replace hR:=Hd hR;replace hz:=Hd hz;go_enter Tryz.func10,Tryz.ntmps10;go_wp2
 go_loopg [10] s.size (fun gk sv wr=>∃ j:Nat,Hid (j+gk=s.size)/\sv=.int .i64 j/\Hid (Below w.heap.size w wr)/\Hid (∀ i,i<j->s.data.toList[i]? ≠ some b))
 case atStart=>exact ⟨0,by show _=_;omega,rfl,Below.refl _ _,fun i h1=>by omega⟩
 case round =>
  obtain ⟨j,hj,rfl,hb,hno⟩:=hrel;obtain ⟨wq,rfl⟩:∃ W:World,W=wr:=⟨_,rfl⟩
  by_cases hjs:j<s.size
  ·
   have hgj:s.data.toList[j]? = some (s[j]'hjs):=qda hjs;obtain ⟨y,hy⟩:∃ y:Nat,(s[j]'hjs).toNat=y:=⟨_,rfl⟩
   by_cases hyz:(y:Int)=z
   ·
    have hyb:((y:Int)==z)=true:=by simpa using hyz
    have he:s[j]'hjs=b:=UInt8.toNat_inj.1 (by have:=hz.out;omega);rw [he] at hgj;have hRj:=Hd (show R=(s.data.toList.take j,s.data.toList.drop (j+1),true) by rw [<- hR.out];exact qah8 hgj hno.out);have hw:=(show IntKind.i64.wrap ((j:Int)+1)=(j:Int)+1 by rw [IntKind.wrap_i64];omega)
    have s1:=fun W=>qsg s j (by omega) W
    have s2:∀ W,(Instr.slice 9 (.string s) (some (.int .i64 ((j:Int)+1))) none none).run Tryz.prog W=.ok (.string (s.extract (j+1) s.size)) W:=fun W=>by
     have:=run_slice_string_l (P:=Tryz.prog) W 9 s Tryz.underlying9 .i64 ((j:Int)+1) (by omega) (by omega);rw [this]
     rfl
    have hb2:=Hd (show Below w.heap.size w wq.drew from hb.out.drew);replace hyz:=Hd hyz;clear he hgj hno;go_wp2;refine wrx (S:=(fun x=>x=wq.drew)) [(0,.p),(1,.p),(2,.p),(3,.p),(4,.p),(5,.p),(6,.p),(7,.p),(8,.p),(9,.p)] (rfl) ?_
    iterate 10 (refine qae rfl rfl fun K hK=>xp ?_;go_simp;refine hK _ _ ?_;clear hK K)
    refine qac ?_;go_wp2;refine bodyPost_ret (v:=.tuple #[.string (s.extract 0 j),.string (s.extract (j+1) s.size),.bool true]) (by simp [results,Tryz.results10,go_sem]) rfl ?_;refine ⟨?_,hb2.out⟩;rw [hRj.out,<- qzl,<- qy3,qc1,qc1]
   ·
    have hyb:((y:Int)==z)=false:=by simpa using hyz
    have he:s[j]'hjs≠b:=fun e=>hyz (by rw [<- hy,e];exact hz.out)
    have hno2:=Hd (show ∀ i,i<j+1->s.data.toList[i]? ≠ some b from fun i h1 e=>by
     rcases Nat.lt_or_ge i j with h | h
     · exact hno.out i h e
     ·
      obtain rfl:i=j:=by omega
      rw [hgj] at e;injection e with e
      exact he e)
    have hb2:=hb;clear he hgj hno hyz;go_wp2;go_roundg (gk-1)
    case rel=>exact ⟨j+1,by have:=hj.out;show _=_;omega,by go_num,hb2.out,hno2.out⟩
    case measure=>have:=hj.out;omega
  ·
   have hRn:=Hd (show R=(s.data.toList,[],false) by
    rw [<- hR.out];refine qah1 fun i hi=>hno.out i ?_
    have:s.data.toList.length=s.size:=by simp
    omega)
   have hb2:=hb;go_wp2;refine bodyPost_ret (v:=.tuple #[.string s,.string ⟨#[]⟩,.bool false]) (by simp [results,Tryz.results10,go_sem]) rfl ?_;refine ⟨?_,hb2.out⟩;rw [hRn.out,qc1]
   rfl
theorem park {p:Prop} (h:Hid p):p:=h.out
def facLn (names:List ByteArray) (part:Nat) (c:CrQ) (s:List UInt8):Option (Nat × CrQ) × Int:=match cutL 32 s with
 | none=>(none,9)
 | some (d,x)=>match numC 0 d with
  | none=>(none,9)
  | some k=>if part=1 then match polC names x with
    | (some p,_)=>if p=[] then (none,3) else (some (1,{ c with F:=c.F++[p],P:=c.P++[(k:Int)] }),0)
    | (none,e)=>(none,e)
   else (none,9)
def RetFa (g:Nat) (nv:Value) (m:Nat) (G:Option (Nat × CrQ) × Int) (w:World) (e:Ending) (w':World):Prop:=∃ er:Int,e=.returned (.int .i64 er)/\Below g w w' /\
 (∀ q c' x,G=(some (q,c'),x)->er=0/\CrSt g nv m w' c' q)/\(∀ x,G=(none,x)->er=x/\x≠0)
theorem qb6 {g m:Nat} {nv:Value} {G:Option (Nat × CrQ) × Int} {er:Int} {w w':World} (hG:G=(none,er)) (h0:er≠0) (hb:Below g w w'):RetFa g nv m G w (.returned (.int .i64 er)) w' :=
 ⟨er,rfl,hb,(fun q c' x e=>by rw [hG] at e;injection e with e;cases e),fun x e=>by rw [hG] at e;injection e with _ e;exact ⟨e,by rw [<- e];exact h0⟩⟩
theorem qih {g m q:Nat} {nv:Value} {c':CrQ} {G:Option (Nat × CrQ) × Int} {w w':World} (hG:G=(some (q,c'),0)) (hb:Below g w w') (h:CrSt g nv m w' c' q):RetFa g nv m G w (.returned (.int .i64 0)) w' :=
 ⟨0,rfl,hb,(fun q c'' x e=>by rw [hG] at e;injection e with e _;injection e with e;injection e with e1 e2;subst e1 e2;exact ⟨rfl,h⟩),fun x e=>by rw [hG] at e;injection e with e;cases e⟩
theorem qve (g:Nat) (names:List ByteArray) (na:Option Addr) (nc:Nat) (s:ByteArray) (c:CrQ) (part m:Nat) (w:World) (hst:CrSt g (.slice na names.length nc) m w c part) (hm:m<=16000000)
  (hE:∀ W,Below g w W->EnvC names na nc W) (hnz:∀ x∈names,x.size<=1048576) (hnl:names.length<=1000) (hs:s.size<4294967281) (hW:∀ d x,cutL 32 s.data.toList=some (d,x)->Wok names x) :
  Calls Tryz.prog 17 #[.pointer (some ⟨g,0,none⟩),.string s] w (RetFa g (.slice na names.length nc) (m+1) (facLn names part c s.data.toList) w):=by
 obtain ⟨fa,fc,hf,wa,wc,ca,cc,hc,hb,hr,hm1,hm2,hm3⟩:=hst;have hl:=hb.lt;have HE:=Hd (fun W (hW:Below w.heap.size w W)=>hE W (hW.mono (Nat.le_of_lt hl)));have CC:=qki s w (HE.out w brf).2.1 hs;obtain ⟨G,hG⟩:∃ G,facLn names part c s.data.toList=G:=⟨_,rfl⟩
 rw [hG];unfold facLn at hG;have hlen:s.data.toList.length=s.size:=Array.length_toList;have HB:=Hd hb;have HR:=Hd hr;have HM:=Hd (And.intro hm1 (And.intro hm2 hm3));have HNZ:=Hd hnz;unfold cutC at CC;clear hE hb hr hm1 hm2 hm3 hnz
 cases hcut:cutL 32 s.data.toList with
 | none =>
  rw [hcut] at hG CC;have CN:=fun W (hW:Below w.heap.size w W)=>qf4 (ofL s.data.toList) W (by rw [qa4];omega) (HE.out W hW).2.2.1 (HE.out W hW).2.2.2.1 (HE.out W hW).2.2.2.2
  dsimp only at CC hG;obtain ⟨S1,hS1⟩:∃ z,ofL s.data.toList=z:=⟨_,rfl⟩
  obtain ⟨S2,hS2⟩:∃ z,ofL []=z:=⟨_,rfl⟩
  obtain ⟨NG,hNG⟩:∃ z,numC 0 S1.data.toList=z:=⟨_,rfl⟩
  rw [hS1] at CC CN;rw [hNG] at CN;rw [hS2] at CC;replace CN:=Hd CN;replace CC:=Hd CC;clear hW hcut hlen hS1 hS2 hNG;go_enter Tryz.func17,Tryz.ntmps17;go_wp2_with fail;refine CC.out.mono ?_;rintro e w1 ⟨rfl,hb1⟩;go_wp2_with fail;refine (CN.out w1 hb1).mono ?_;rintro e w2 ⟨n,b,rfl,hb2,_,_⟩;go_wp2;go_ret;exact qb6 hG.symm (by decide) ((bth hb1 hb2).mono (Nat.le_of_lt hl))
 | some dx =>
  obtain ⟨d,x⟩:=dx;have hWk:=hW d x hcut;obtain ⟨hcs,_⟩:=qa9 32 _ _ _ hcut;have hll:=congrArg List.length hcs;rw [List.length_append,List.length_cons,hlen] at hll;rw [hcut] at hG CC;dsimp only at hG CC;have CN:=fun W (hW:Below w.heap.size w W)=>qf4 (ofL d) W (by rw [qa4];omega) (HE.out W hW).2.2.1 (HE.out W hW).2.2.2.1 (HE.out W hW).2.2.2.2
  rw [qaw] at CN;have hxs:(ofL x).size<=281474976710656:=by rw [qa4];omega
  obtain ⟨S1,hS1⟩:∃ z,ofL d=z:=⟨_,rfl⟩
  rw [hS1] at CC CN;obtain ⟨S2,hS2⟩:∃ z,ofL x=z:=⟨_,rfl⟩
  have hx2:x=S2.data.toList:=by rw [<- hS2,qaw]
  rw [hS2] at CC hxs;rw [hx2] at hG hWk;have CP:=fun W (hW:Below w.heap.size w W)=>qnx (Xc g fa wa ca) g names na nc S2 _ _ _ _ _ W (fun b hb=>ltl (HR.out.xlt hl b hb) hW.size) (HB.out.below' hW) (fun V hV=>HE.out V (bth hW hV)) HNZ.out hnl hxs hWk
  obtain ⟨NG,hNG⟩:∃ z,numC 0 d=z:=⟨_,rfl⟩
  rw [hNG] at CN hG;obtain ⟨PG,hPG⟩:∃ z,polC names S2.data.toList=z:=⟨_,rfl⟩
  rw [hPG] at CP hG;replace CN:=Hd CN;replace CC:=Hd CC;replace CP:=Hd CP;clear hW hcut hlen hS1 hNG hWk hcs hll hxs hx2 hS2 hPG
  cases NG with
  | none =>
   dsimp only at hG;go_enter Tryz.func17,Tryz.ntmps17;go_wp2_with fail;refine CC.out.mono ?_;rintro e w1 ⟨rfl,hb1⟩;go_wp2_with fail;refine (CN.out w1 hb1).mono ?_;rintro e w2 ⟨n,b,rfl,hb2,_,hbn⟩;obtain rfl:=hbn rfl;clear hbn;go_wp2;go_ret;exact qb6 hG.symm (by decide) ((bth hb1 hb2).mono (Nat.le_of_lt hl))
  | some k =>
   dsimp only at hG;by_cases hp1:part=1
   ·
    subst hp1;rw [if_pos rfl] at hG;have hgw:=Hd (Nat.le_of_lt hl);go_enter Tryz.func17,Tryz.ntmps17;go_wp2_with fail;refine CC.out.mono ?_;rintro e w1 ⟨rfl,hb1⟩;go_wp2_with fail;refine (CN.out w1 hb1).mono ?_;rintro e w2 ⟨n,b,rfl,hb2,hnk,_⟩;obtain ⟨rfl,rfl⟩:=hnk k rfl;have hw2:=bth hb1 hb2;have hB2:=HB.out.below' hw2;have z5:=hB2.cell 5;have hl2:=hB2.lt;clear hnk CC CN;go_wp2_with fail;refine (CP.out w2 hw2).mono ?_;rintro e w3 ⟨a,n,cp,er,rfl,hb3,hok,hbad⟩;have hw3:=bth hw2 hb3;clear CP z5 hl2 hB2;obtain ⟨o,er'⟩:=PG
    cases o with
    | none =>
     obtain ⟨rfl,h0⟩:=hbad er' rfl;dsimp only at hG;have hne:(er != 0)=true:=by simpa using h0
     have h0':=Hd h0;clear h0 hok hbad;go_wp2;go_ret;exact qb6 hG.symm h0'.out (hw3.mono hgw.out)
    | some p =>
     obtain ⟨rfl,hP,rfl⟩:=hok p er' rfl;dsimp only at hG;clear hok hbad;by_cases hpe:p=[]
     ·
      rw [if_pos hpe] at hG;subst hpe;clear hP;go_wp2;go_ret;exact qb6 hG.symm (by decide) (hw3.mono hgw.out)
     ·
      rw [if_neg hpe] at hG;have hpl:((p.length:Int)==0)=false:=by
       rw [beq_eq_false_iff_ne];intro e;exact hpe (List.eq_nil_of_length_eq_zero (by omega))
      have hpl2:(p.length==0)=false:=by
       rw [beq_eq_false_iff_ne];intro e;exact hpe (List.eq_nil_of_length_eq_zero e)
      obtain ⟨n,hn⟩:∃ n,p.length=n:=⟨_,rfl⟩
      rw [hn] at hpl hpl2 ⊢;have hr3:=HR.out.call hw3;have hB3:=HB.out.below' hw3;have z1:=hB3.cell 1;have hl3:=hB3.lt;have hB4:=Hd (bA (o:=.cells #[.slice a n cp] 53) hB3);have hr4:=Hd (hr3.call (brf.alloc (nlr _) (.cells #[.slice a n cp] 53)));have hP4:=Hd (show PolX (Xc g fa wa ca) (w3.alloc (.cells #[.slice a n cp] 53)) a cp p from hP.step ((Agr.refl _ _).alloc _));have hw4:=Hd (show Below g w (w3.alloc (.cells #[.slice a n cp] 53)) from (hw3.mono hgw.out).alloc (Nat.le_of_lt hl3) _);have hcl:Hid (∀ j v,(PQ.cs ⟨n,a,cp⟩)[j]? = some v->(w3.alloc (.cells #[.slice a n cp] 53)).cell? ⟨w3.heap.size,j,none⟩=some v):=Hd fun j v hj=>by
       cases j with
       | zero=>simp [PQ.cs] at hj;subst hj;exact (Blk.new w3 53 #[.slice a n cp]).cell 0
       | succ j=>simp [PQ.cs] at hj
      have hl4:=Hd (show g<w3.heap.size from hl3);have hn':=Hd hn;have hpe':=Hd hpe;have hG':=Hd hG;clear hP hr3 hB3 hw3 hn hpe hG hw2 hb3;go_wp2_with (at_builtin;go_must (refine qa8 (B:=g+1) rfl (.tmp 53) (.tmp 55) 23 rfl Tryz.underlying23 qey rfl (by omega) (by omega) PQ.cs_len fa fc (l:=hf) rfl hr4.out.oF ⟨n,a,cp⟩ (PQ.cs_one _) w3.heap.size 1 rfl hcl.out (hf++[⟨n,a,cp⟩]) rfl (by have:=HM.out.1;rw [List.length_append];simp;omega) (by have:=hl4.out;simp;omega) ?_);intro fa2 fc2 w5 ho5 hg5 ha5;refine park ?_);refine Hd ?_;have hB5:=hB4.out.under hr4.out.oF (Nat.lt_succ_self _) hg5;have hr5:=Hd (hr4.out.pushF hg5 ho5 ha5 hP4.out hn'.out.symm);have hw5:=Hd (qj1 hw4.out hr4.out.oF (by have:=hl4.out;simp;omega) hg5);have hll:(hf++[(⟨n,a,cp⟩:PQ)]).length=hf.length+1:=by simp
      have y1:=hB5.cell 1;have y2:=hB5.cell 2;have f1:=hB5.frozen 1;have hl5:=hB5.lt;have hB5':=Hd hB5;clear z1 hl3 hB4 hr4 hP4 hw4 hcl hl4 ho5 hg5 ha5 hB5;obtain ⟨hf2,hhf2⟩:∃ z,hf++[(⟨n,a,cp⟩:PQ)]=z:=⟨_,rfl⟩
      rw [hhf2] at hr5 hll;rw [<- hll];have hll':=Hd hll;clear hhf2 hll;go_wp2_with (at_builtin;go_must (refine qak (fun W=>Blk W g 38 #[.slice na names.length nc,.slice fa2 hf2.length fc2,.slice wa c.P.length wc,.int .i64 c.n,.slice ca hc.length cc,.int .i64 ((1:Nat):Int)]/\Blk W w5.heap.size 3 #[.int .i64 (k:Int)]/\CrRows g W (c.F++[p]) c.P c.C fa2 fc2 hf2 wa wc ca cc hc/\Below g w W) ⟨bA (bS hB5'.out rfl),bN (by simp),(hr5.out.fr ((Fr.refl _ _).setc (.inl rfl))).call (brf.alloc (nlr _) _),(hw5.out.setCell (nlr _) _).alloc (by have:=hl5;simp;omega) _⟩ ?_);rintro w7 ⟨hB7,hb7,hr7,hw7⟩;refine park ?_);refine Hd ?_;have x7:=hb7.cell 0;have hl7:=hB7.lt;have hB7':=Hd hB7;have hr7':=Hd hr7;have hw7':=Hd hw7;have hl7':=Hd hl7;clear y1 y2 f1 hl5 hB5' hr5 hw5 hB7 hb7 hr7 hw7 hl7
      go_wp2_with (at_builtin;go_must (refine qe2 rfl (.tmp 65) (.tmp 67) rfl wa wc rfl hr7'.out.oP (k:Int) w5.heap.size 1 rfl x7 (c.P++[(k:Int)]) rfl (by have:=HM.out.2.1;rw [List.length_append];simp;omega) (by have:=hl7'.out;omega) ?_);intro wa2 wc2 w8 ho8 hg8 ha8;refine park ?_);refine Hd ?_;have hB8:=hB7'.out.under hr7'.out.oP (Nat.lt_succ_self _) hg8;have hr8:=Hd (hr7'.out.pushP hg8 ho8 ha8);have hw8:=Hd (qj1 hw7'.out hr7'.out.oP (Nat.le_of_lt hl7'.out) hg8);have f2:=hB8.frozen 2;have x2:=hB8.cell 2;have hl8:=hB8.lt;have hB8':=Hd hB8;have hPl:(c.P++[(k:Int)]).length=c.P.length+1:=by simp
      replace hPl:=Hd hPl;clear x7 hB7' hr7' hw7' hl7' ho8 hg8 ha8 hB8;go_wp2;go_ret;refine qih hG'.out.symm (hw8.out.setCell (nlr _) _) ⟨fa2,fc2,hf2,wa2,wc2,ca,cc,hc,bS hB8'.out (by rw [<- hPl.out];rfl),hr8.out.fr ((Fr.refl _ _).setc (.inl rfl)),?_,?_,?_⟩
      · have:=HM.out.1;have:=hll'.out;omega
      · have:=HM.out.2.1;have:=hPl.out;show (c.P++[(k:Int)]).length<=_;omega
      · have:=HM.out.2.2;omega
   ·
    have hpb:(((part:Int)) != 1)=true:=by
     rw [bne_iff_ne];omega
    rw [if_neg hp1] at hG;replace hp1:=Hd hp1;go_enter Tryz.func17,Tryz.ntmps17;go_wp2_with fail;refine CC.out.mono ?_;rintro e w1 ⟨rfl,hb1⟩;go_wp2_with fail;refine (CN.out w1 hb1).mono ?_;rintro e w2 ⟨n,b,rfl,hb2,hnk,_⟩;obtain ⟨rfl,rfl⟩:=hnk k rfl;have hw2:=bth hb1 hb2;have hB2:=HB.out.below' hw2;have z5:=hB2.cell 5;have hl2:=hB2.lt;clear hnk CC CN CP hB2;go_wp2;go_ret;exact qb6 hG.symm (by decide) (hw2.mono (Nat.le_of_lt hl))
end Go.Proofs.YtnilkimcdgmgkaaGreatDoor
