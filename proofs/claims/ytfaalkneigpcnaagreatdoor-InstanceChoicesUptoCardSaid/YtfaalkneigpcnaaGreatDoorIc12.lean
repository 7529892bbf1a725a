/- Walk: the text of rational numbers by the reference. -/
import Derived.Test.YtfaalkneigpcnaaGreatDoorIc11
import Derived.Test.YtfaalkneigpcnaaGreatDoorIc7
import Derived.Test.YtfaalkneigpcnaaGreatDoorIc3
import Derived.Test.YtfaalkneigpcnaaGreatDoorIc1
import Derived.Lib.SplitLaws
import Derived.Test.YtfaalkneigpcnaaGreatDoorIc5
import Derived.Laws.IdiomStrings
import Derived.Test.YtfaalkneigpcnaaGreatDoorProg
import Derived.Ground.NamesProg
import Derived.Shelf.Lays
import Derived.Shelf.Strings.BuilderK
import Derived.Test.YtfaalkneigpcnaaGreatDoorIc2
set_option linter.all false
set_option maxRecDepth 100000
set_option maxHeartbeats 4000000
namespace Go.Proofs.YtfaalkneigpcnaaGreatDoor
open Go.RowKit
theorem set6v {a0 a1 a2 a3 a4 a5 v0 v1 v2 v3 v4 v5:Value}:(((((((#[a0,a1,a2,a3,a4,a5]:Array Value).setIfInBounds 0 v0).setIfInBounds 1 v1).setIfInBounds 2 v2).setIfInBounds 3 v3).setIfInBounds 4 v4).setIfInBounds 5 v5)=#[v0,v1,v2,v3,v4,v5]:=by simp
theorem Blk.set6 {w:World} {g:Nat} {t:TypeId} {a0 a1 a2 a3 a4 a5 v0 v1 v2 v3 v4 v5:Value} (h:Blk w g t #[a0,a1,a2,a3,a4,a5]):Blk ((((((w.setCell ⟨g,0,none⟩ v0).setCell ⟨g,1,none⟩ v1).setCell ⟨g,2,none⟩ v2).setCell ⟨g,3,none⟩ v3).setCell ⟨g,4,none⟩ v4).setCell ⟨g,5,none⟩ v5) g t #[v0,v1,v2,v3,v4,v5]:=by
 have:=(((((h.set_ 0 v0).set_ 1 v1).set_ 2 v2).set_ 3 v3).set_ 4 v4).set_ 5 v5;rw [set6v] at this;exact this
def PK (k:Nat) (w:World) (x:PH) (p:P2):Prop:=QK k w x.1 p.1/\QK k w x.2 p.2
def RetPK (k:Nat) (p:P2) (w:World) (e:Ending) (w':World):Prop:=∃ x:PH,e=.returned (.agg #[.bool x.1.neg,.slice x.1.a x.1.n x.1.c,.slice x.1.b x.1.m x.1.d,.bool x.2.neg,.slice x.2.a x.2.n x.2.c,.slice x.2.b x.2.m x.2.d])/\Kp (fun V=>PK k V x p) w.heap.size w'.heap.size w'/\Below w.heap.size w w'
theorem Kp.and2 {R S:World->Prop} {B T:Nat} {w:World} (h:Kp R B T w) (k:Kp S B T w):Kp (fun V=>R V/\S V) B T w:=fun V hV=>⟨h V hV,k V hV⟩
theorem qts (x1 x2:QA) (y1 y2:QA) (a:P2) (b:P2) (k:Nat) (w:World) (H1:QK k w x1 a.1) (H2:QK k w x2 a.2) (H3:QK k w y1 b.1) (H4:QK k w y2 b.2) (hk:k<=10000) :
  Calls Tryz.prog 104 #[.agg #[.bool x1.neg,.slice x1.a x1.n x1.c,.slice x1.b x1.m x1.d,.bool x2.neg,.slice x2.a x2.n x2.c,.slice x2.b x2.m x2.d],.agg #[.bool y1.neg,.slice y1.a y1.n y1.c,.slice y1.b y1.m y1.d,.bool y2.neg,.slice y2.a y2.n y2.c,.slice y2.b y2.m y2.d]] w (RetPK (k+k+1) (vecQ a b) w):=by
 have R1:=Hd (fun W (hW:Below w.heap.size w W)=>H1.ext (xbw hW));have R2:=Hd (fun W (hW:Below w.heap.size w W)=>H2.ext (xbw hW));have R3:=Hd (fun W (hW:Below w.heap.size w W)=>H3.ext (xbw hW));have R4:=Hd (fun W (hW:Below w.heap.size w W)=>H4.ext (xbw hW));clear H1 H2 H3 H4;go_enter Tryz.func104,Tryz.ntmps104;go_wp2
 refine qab (fun W=>Blk W w.heap.size 69 #[.bool x1.neg,.slice x1.a x1.n x1.c,.slice x1.b x1.m x1.d,.bool x2.neg,.slice x2.a x2.n x2.c,.slice x2.b x2.m x2.d]/\Blk W (w.heap.size+1) 69 #[.bool y1.neg,.slice y1.a y1.n y1.c,.slice y1.b y1.m y1.d,.bool y2.neg,.slice y2.a y2.n y2.c,.slice y2.b y2.m y2.d]/\Blk W (w.heap.size+1+1) 151 #[.bool false,.slice none 0 0,.slice none 0 0,.bool false,.slice none 0 0,.slice none 0 0]/\Below w.heap.size w W/\w.heap.size<w.heap.size+1/\w.heap.size+1<w.heap.size+1+1/\w.heap.size+1+1<W.heap.size) ⟨by ((with_reducible repeat first|assumption|(apply bF;focus omega)|apply bS|(apply bN;focus (simp;done))|apply bA|apply bD);all_goals rfl),by ((with_reducible repeat first|assumption|(apply bF;focus omega)|apply bS|(apply bN;focus (simp;done))|apply bA|apply bD);all_goals rfl),by ((with_reducible repeat first|assumption|(apply bF;focus omega)|apply bS|(apply bN;focus (simp;done))|apply bA|apply bD);all_goals rfl),by go_grown,by omega,by omega,by simp⟩ ?_
 rintro w0 ⟨h0,h1,h2,hw0,hg,hgg,hgw⟩;revert h0 h1 h2 hg hgg hgw;generalize w.heap.size+1+1=g2;generalize w.heap.size+1=g1;intro h0 h1 h2 hg hgg hgw;have k0_0:=held (h0.cell 0);have k0_1:=held (h0.cell 1);have k0_2:=held (h0.cell 2);have k0_3:=held (h0.cell 3);have k0_4:=held (h0.cell 4);have k0_5:=held (h0.cell 5);have k1_0:=held (h1.cell 0);have k1_1:=held (h1.cell 1);have k1_2:=held (h1.cell 2);have k1_3:=held (h1.cell 3);have k1_4:=held (h1.cell 4);have k1_5:=held (h1.cell 5);have s0:Below w0.heap.size w0 w0.drew:=brf.drew;have n0:w0.heap.size<=w0.drew.heap.size:=nlr _;refine wrx (S:=Below w0.heap.size w0) [(0,.q),(1,.q),(2,.q),(3,.q),(5,.q),(6,.q),(7,.q),(8,.q),(4,.l),(9,.t),(10,.p),(11,.t)] (s0) ?_
 iterate 8 (refine qaj rfl rfl fun K hK=>xq ?_;go_simp;refine hK _ _ ?_;clear hK K)
 refine qag rfl rfl (fun K hK=>?_);go_simp;refine (sub_q y1 x1 b.1 a.1 k k _ (R3.out _ (bth hw0 s0)) (R1.out _ (bth hw0 s0)) (by omega) (by omega)).mono ?_;rintro r w1 ⟨z1,rfl,K1,hb1⟩;dsimp only;refine hK.out _ _ (bth s0 hb1) (fun _=>?_);clear hK K;have s1:=bth s0 hb1;have n1:=s1.size;replace K1:=Hd K1;refine qae rfl rfl (fun K hK=>?_);go_simp;refine (sub_q y2 x2 b.2 a.2 k k _ (R4.out _ (bth hw0 s1)) (R2.out _ (bth hw0 s1)) (by omega) (by omega)).mono ?_;rintro r w2 ⟨z2,rfl,K2,hb2⟩;dsimp only;refine hK.out _ _ ?_;clear hK K;have s2:=bth s1 hb2;have n2:=s2.size;replace K2:=Hd K2
 iterate 1 (refine qaz rfl rfl fun K hK=>xp ?_;go_simp;refine hK _ _ ?_;clear hK K)
 have hz:=h2.below' s2;have hw1:=bth hw0 s2;clear k0_0 k0_1 k0_2 k0_3 k0_4 k0_5 k1_0 k1_1 k1_2 k1_3 k1_4 k1_5;have y0:=hz.cell 0;have f0:=hz.frozen 0;have y1:=hz.cell 1;have f1:=hz.frozen 1;have y2:=hz.cell 2;have f2:=hz.frozen 2;have y3:=hz.cell 3;have f3:=hz.frozen 3;have y4:=hz.cell 4;have f4:=hz.frozen 4;have y5:=hz.cell 5;have f5:=hz.frozen 5;refine qae rfl rfl (fun K hK=>?_);go_simp;refine hK.out _ _ ?_;clear hK K;refine qai ?_;go_wp2;have E1:=Hd (K1.out.call hb2)
 refine qab (fun W=>Blk W g2 151 #[.bool z1.neg,.slice z1.a z1.n z1.c,.slice z1.b z1.m z1.d,.bool z2.neg,.slice z2.a z2.n z2.c,.slice z2.b z2.m z2.d]/\Below w.heap.size w W/\Kp (fun V=>QK (k+k+1) V z1 (b.1-a.1)) w0.drew.heap.size w1.heap.size W/\Kp (fun V=>QK (k+k+1) V z2 (b.2-a.2)) w1.heap.size w2.heap.size W) ⟨Blk.set6 hz,by go_grown,by (with_reducible repeat first | exact E1.out | (refine Kp.setc ?_ ?_;focus omega) | refine Kp.alloc ?_ | refine Kp.drew ?_),by (with_reducible repeat first | exact K2.out | (refine Kp.setc ?_ ?_;focus omega) | refine Kp.alloc ?_ | refine Kp.drew ?_)⟩ ?_;rintro wF ⟨hF,hwF,L1,L2⟩;obtain ⟨e0,e1,e2,e3,e4,e5⟩:=cq6 hF;refine bodyPost_ret (v:=.agg #[.bool z1.neg,.slice z1.a z1.n z1.c,.slice z1.b z1.m z1.d,.bool z2.neg,.slice z2.a z2.n z2.c,.slice z2.b z2.m z2.d]) (by simp [results,Tryz.results104,go_sem,e0,e1,e2,e3,e4,e5]) rfl ?_
 exact ⟨(z1,z2),rfl,Kp.and2 (Kp.made ((L1.imp fun _ h=>QK.more h (by omega)).fin (show w.heap.size<=_ from Nat.le_trans hw0.size n0))) (Kp.made ((L2.imp fun _ h=>QK.more h (by omega)).fin (show w.heap.size<=_ from Nat.le_trans hw0.size n1))),hwF⟩
theorem qx3 (x1 x2:QA) (y1 y2:QA) (a:P2) (b:P2) (k:Nat) (w:World) (H1:QK k w x1 a.1) (H2:QK k w x2 a.2) (H3:QK k w y1 b.1) (H4:QK k w y2 b.2) (hk:k<=10000) :
  Calls Tryz.prog 103 #[.agg #[.bool x1.neg,.slice x1.a x1.n x1.c,.slice x1.b x1.m x1.d,.bool x2.neg,.slice x2.a x2.n x2.c,.slice x2.b x2.m x2.d],.agg #[.bool y1.neg,.slice y1.a y1.n y1.c,.slice y1.b y1.m y1.d,.bool y2.neg,.slice y2.a y2.n y2.c,.slice y2.b y2.m y2.d]] w (RetPK (k+k+1) (plusQ a b) w):=by
 have R1:=Hd (fun W (hW:Below w.heap.size w W)=>H1.ext (xbw hW));have R2:=Hd (fun W (hW:Below w.heap.size w W)=>H2.ext (xbw hW));have R3:=Hd (fun W (hW:Below w.heap.size w W)=>H3.ext (xbw hW));have R4:=Hd (fun W (hW:Below w.heap.size w W)=>H4.ext (xbw hW));clear H1 H2 H3 H4;go_enter Tryz.func103,Tryz.ntmps103;go_wp2
 refine qab (fun W=>Blk W w.heap.size 69 #[.bool x1.neg,.slice x1.a x1.n x1.c,.slice x1.b x1.m x1.d,.bool x2.neg,.slice x2.a x2.n x2.c,.slice x2.b x2.m x2.d]/\Blk W (w.heap.size+1) 151 #[.bool y1.neg,.slice y1.a y1.n y1.c,.slice y1.b y1.m y1.d,.bool y2.neg,.slice y2.a y2.n y2.c,.slice y2.b y2.m y2.d]/\Blk W (w.heap.size+1+1) 69 #[.bool false,.slice none 0 0,.slice none 0 0,.bool false,.slice none 0 0,.slice none 0 0]/\Below w.heap.size w W/\w.heap.size<w.heap.size+1/\w.heap.size+1<w.heap.size+1+1/\w.heap.size+1+1<W.heap.size) ⟨by ((with_reducible repeat first|assumption|(apply bF;focus omega)|apply bS|(apply bN;focus (simp;done))|apply bA|apply bD);all_goals rfl),by ((with_reducible repeat first|assumption|(apply bF;focus omega)|apply bS|(apply bN;focus (simp;done))|apply bA|apply bD);all_goals rfl),by ((with_reducible repeat first|assumption|(apply bF;focus omega)|apply bS|(apply bN;focus (simp;done))|apply bA|apply bD);all_goals rfl),by go_grown,by omega,by omega,by simp⟩ ?_
 rintro w0 ⟨h0,h1,h2,hw0,hg,hgg,hgw⟩;revert h0 h1 h2 hg hgg hgw;generalize w.heap.size+1+1=g2;generalize w.heap.size+1=g1;intro h0 h1 h2 hg hgg hgw;have k0_0:=held (h0.cell 0);have k0_1:=held (h0.cell 1);have k0_2:=held (h0.cell 2);have k0_3:=held (h0.cell 3);have k0_4:=held (h0.cell 4);have k0_5:=held (h0.cell 5);have k1_0:=held (h1.cell 0);have k1_1:=held (h1.cell 1);have k1_2:=held (h1.cell 2);have k1_3:=held (h1.cell 3);have k1_4:=held (h1.cell 4);have k1_5:=held (h1.cell 5);have s0:Below w0.heap.size w0 w0.drew:=brf.drew;have n0:w0.heap.size<=w0.drew.heap.size:=nlr _;refine wrx (S:=Below w0.heap.size w0) [(0,.q),(1,.q),(2,.q),(3,.q),(5,.q),(6,.q),(7,.q),(8,.q),(4,.l),(9,.t),(10,.p),(11,.t)] (s0) ?_
 iterate 8 (refine qaj rfl rfl fun K hK=>xq ?_;go_simp;refine hK _ _ ?_;clear hK K)
 refine qag rfl rfl (fun K hK=>?_);go_simp;refine (add_q x1 y1 a.1 b.1 k k _ (R1.out _ (bth hw0 s0)) (R3.out _ (bth hw0 s0)) (by omega) (by omega)).mono ?_;rintro r w1 ⟨z1,rfl,K1,hb1⟩;dsimp only;refine hK.out _ _ (bth s0 hb1) (fun _=>?_);clear hK K;have s1:=bth s0 hb1;have n1:=s1.size;replace K1:=Hd K1;refine qae rfl rfl (fun K hK=>?_);go_simp;refine (add_q x2 y2 a.2 b.2 k k _ (R2.out _ (bth hw0 s1)) (R4.out _ (bth hw0 s1)) (by omega) (by omega)).mono ?_;rintro r w2 ⟨z2,rfl,K2,hb2⟩;dsimp only;refine hK.out _ _ ?_;clear hK K;have s2:=bth s1 hb2;have n2:=s2.size;replace K2:=Hd K2
 iterate 1 (refine qaz rfl rfl fun K hK=>xp ?_;go_simp;refine hK _ _ ?_;clear hK K)
 have hz:=h2.below' s2;have hw1:=bth hw0 s2;clear k0_0 k0_1 k0_2 k0_3 k0_4 k0_5 k1_0 k1_1 k1_2 k1_3 k1_4 k1_5;have y0:=hz.cell 0;have f0:=hz.frozen 0;have y1:=hz.cell 1;have f1:=hz.frozen 1;have y2:=hz.cell 2;have f2:=hz.frozen 2;have y3:=hz.cell 3;have f3:=hz.frozen 3;have y4:=hz.cell 4;have f4:=hz.frozen 4;have y5:=hz.cell 5;have f5:=hz.frozen 5;refine qae rfl rfl (fun K hK=>?_);go_simp;refine hK.out _ _ ?_;clear hK K;refine qai ?_;go_wp2;have E1:=Hd (K1.out.call hb2)
 refine qab (fun W=>Blk W g2 69 #[.bool z1.neg,.slice z1.a z1.n z1.c,.slice z1.b z1.m z1.d,.bool z2.neg,.slice z2.a z2.n z2.c,.slice z2.b z2.m z2.d]/\Below w.heap.size w W/\Kp (fun V=>QK (k+k+1) V z1 (a.1+b.1)) w0.drew.heap.size w1.heap.size W/\Kp (fun V=>QK (k+k+1) V z2 (a.2+b.2)) w1.heap.size w2.heap.size W) ⟨Blk.set6 hz,by go_grown,by (with_reducible repeat first | exact E1.out | (refine Kp.setc ?_ ?_;focus omega) | refine Kp.alloc ?_ | refine Kp.drew ?_),by (with_reducible repeat first | exact K2.out | (refine Kp.setc ?_ ?_;focus omega) | refine Kp.alloc ?_ | refine Kp.drew ?_)⟩ ?_;rintro wF ⟨hF,hwF,L1,L2⟩;obtain ⟨e0,e1,e2,e3,e4,e5⟩:=cq6 hF;refine bodyPost_ret (v:=.agg #[.bool z1.neg,.slice z1.a z1.n z1.c,.slice z1.b z1.m z1.d,.bool z2.neg,.slice z2.a z2.n z2.c,.slice z2.b z2.m z2.d]) (by simp [results,Tryz.results103,go_sem,e0,e1,e2,e3,e4,e5]) rfl ?_
 exact ⟨(z1,z2),rfl,Kp.and2 (Kp.made ((L1.imp fun _ h=>QK.more h (by omega)).fin (show w.heap.size<=_ from Nat.le_trans hw0.size n0))) (Kp.made ((L2.imp fun _ h=>QK.more h (by omega)).fin (show w.heap.size<=_ from Nat.le_trans hw0.size n1))),hwF⟩
theorem qxq (x1 x2:QA) (y1:QA) (a:P2) (b:Rat) (k:Nat) (w:World) (H1:QK k w x1 a.1) (H2:QK k w x2 a.2) (H3:QK k w y1 b) (hk:k<=10000) :
  Calls Tryz.prog 105 #[.agg #[.bool x1.neg,.slice x1.a x1.n x1.c,.slice x1.b x1.m x1.d,.bool x2.neg,.slice x2.a x2.n x2.c,.slice x2.b x2.m x2.d],.agg #[.bool y1.neg,.slice y1.a y1.n y1.c,.slice y1.b y1.m y1.d]] w (RetPK (k+k) (qhp a b) w):=by
 have R1:=Hd (fun W (hW:Below w.heap.size w W)=>H1.ext (xbw hW));have R2:=Hd (fun W (hW:Below w.heap.size w W)=>H2.ext (xbw hW));have R3:=Hd (fun W (hW:Below w.heap.size w W)=>H3.ext (xbw hW));clear H1 H2 H3;go_enter Tryz.func105,Tryz.ntmps105;go_wp2
 refine qab (fun W=>Blk W w.heap.size 151 #[.bool x1.neg,.slice x1.a x1.n x1.c,.slice x1.b x1.m x1.d,.bool x2.neg,.slice x2.a x2.n x2.c,.slice x2.b x2.m x2.d]/\Blk W (w.heap.size+1) 51 #[.bool y1.neg,.slice y1.a y1.n y1.c,.slice y1.b y1.m y1.d]/\Blk W (w.heap.size+1+1) 151 #[.bool false,.slice none 0 0,.slice none 0 0,.bool false,.slice none 0 0,.slice none 0 0]/\Below w.heap.size w W/\w.heap.size<w.heap.size+1/\w.heap.size+1<w.heap.size+1+1/\w.heap.size+1+1<W.heap.size) ⟨by ((with_reducible repeat first|assumption|(apply bF;focus omega)|apply bS|(apply bN;focus (simp;done))|apply bA|apply bD);all_goals rfl),by ((with_reducible repeat first|assumption|(apply bF;focus omega)|apply bS|(apply bN;focus (simp;done))|apply bA|apply bD);all_goals rfl),by ((with_reducible repeat first|assumption|(apply bF;focus omega)|apply bS|(apply bN;focus (simp;done))|apply bA|apply bD);all_goals rfl),by go_grown,by omega,by omega,by simp⟩ ?_
 rintro w0 ⟨h0,h1,h2,hw0,hg,hgg,hgw⟩;revert h0 h1 h2 hg hgg hgw;generalize w.heap.size+1+1=g2;generalize w.heap.size+1=g1;intro h0 h1 h2 hg hgg hgw;have k0_0:=held (h0.cell 0);have k0_1:=held (h0.cell 1);have k0_2:=held (h0.cell 2);have k0_3:=held (h0.cell 3);have k0_4:=held (h0.cell 4);have k0_5:=held (h0.cell 5);have k1_0:=held (h1.cell 0);have k1_1:=held (h1.cell 1);have k1_2:=held (h1.cell 2);have s0:Below w0.heap.size w0 w0.drew:=brf.drew;have n0:w0.heap.size<=w0.drew.heap.size:=nlr _;refine wrx (S:=Below w0.heap.size w0) [(0,.q),(1,.q),(2,.q),(4,.q),(5,.q),(6,.q),(3,.l),(7,.t),(8,.p),(9,.t)] (s0) ?_
 iterate 6 (refine qaj rfl rfl fun K hK=>xq ?_;go_simp;refine hK _ _ ?_;clear hK K)
 refine qag rfl rfl (fun K hK=>?_);go_simp;refine (mul_q y1 x1 b a.1 k k _ (R3.out _ (bth hw0 s0)) (R1.out _ (bth hw0 s0)) (by omega) (by omega)).mono ?_;rintro r w1 ⟨z1,rfl,K1,hb1⟩;dsimp only;refine hK.out _ _ (bth s0 hb1) (fun _=>?_);clear hK K;have s1:=bth s0 hb1;have n1:=s1.size;replace K1:=Hd K1;refine qae rfl rfl (fun K hK=>?_);go_simp;refine (mul_q y1 x2 b a.2 k k _ (R3.out _ (bth hw0 s1)) (R2.out _ (bth hw0 s1)) (by omega) (by omega)).mono ?_;rintro r w2 ⟨z2,rfl,K2,hb2⟩;dsimp only;refine hK.out _ _ ?_;clear hK K;have s2:=bth s1 hb2;have n2:=s2.size;replace K2:=Hd K2
 iterate 1 (refine qaz rfl rfl fun K hK=>xp ?_;go_simp;refine hK _ _ ?_;clear hK K)
 have hz:=h2.below' s2;have hw1:=bth hw0 s2;clear k0_0 k0_1 k0_2 k0_3 k0_4 k0_5 k1_0 k1_1 k1_2;have y0:=hz.cell 0;have f0:=hz.frozen 0;have y1:=hz.cell 1;have f1:=hz.frozen 1;have y2:=hz.cell 2;have f2:=hz.frozen 2;have y3:=hz.cell 3;have f3:=hz.frozen 3;have y4:=hz.cell 4;have f4:=hz.frozen 4;have y5:=hz.cell 5;have f5:=hz.frozen 5;refine qae rfl rfl (fun K hK=>?_);go_simp;refine hK.out _ _ ?_;clear hK K;refine qai ?_;go_wp2;have E1:=Hd (K1.out.call hb2)
 refine qab (fun W=>Blk W g2 151 #[.bool z1.neg,.slice z1.a z1.n z1.c,.slice z1.b z1.m z1.d,.bool z2.neg,.slice z2.a z2.n z2.c,.slice z2.b z2.m z2.d]/\Below w.heap.size w W/\Kp (fun V=>QK (k+k) V z1 (b*a.1)) w0.drew.heap.size w1.heap.size W/\Kp (fun V=>QK (k+k) V z2 (b*a.2)) w1.heap.size w2.heap.size W) ⟨Blk.set6 hz,by go_grown,by (with_reducible repeat first | exact E1.out | (refine Kp.setc ?_ ?_;focus omega) | refine Kp.alloc ?_ | refine Kp.drew ?_),by (with_reducible repeat first | exact K2.out | (refine Kp.setc ?_ ?_;focus omega) | refine Kp.alloc ?_ | refine Kp.drew ?_)⟩ ?_;rintro wF ⟨hF,hwF,L1,L2⟩;obtain ⟨e0,e1,e2,e3,e4,e5⟩:=cq6 hF;refine bodyPost_ret (v:=.agg #[.bool z1.neg,.slice z1.a z1.n z1.c,.slice z1.b z1.m z1.d,.bool z2.neg,.slice z2.a z2.n z2.c,.slice z2.b z2.m z2.d]) (by simp [results,Tryz.results105,go_sem,e0,e1,e2,e3,e4,e5]) rfl ?_
 exact ⟨(z1,z2),rfl,Kp.and2 (Kp.made ((L1.imp fun _ h=>QK.more h (by omega)).fin (show w.heap.size<=_ from Nat.le_trans hw0.size n0))) (Kp.made ((L2.imp fun _ h=>QK.more h (by omega)).fin (show w.heap.size<=_ from Nat.le_trans hw0.size n1))),hwF⟩
theorem dot_p (x1 x2:QA) (y1 y2:QA) (a:P2) (b:P2) (k:Nat) (w:World) (H1:QK k w x1 a.1) (H2:QK k w x2 a.2) (H3:QK k w y1 b.1) (H4:QK k w y2 b.2) (hk:k<=10000) :
  Calls Tryz.prog 109 #[.agg #[.bool x1.neg,.slice x1.a x1.n x1.c,.slice x1.b x1.m x1.d,.bool x2.neg,.slice x2.a x2.n x2.c,.slice x2.b x2.m x2.d],.agg #[.bool y1.neg,.slice y1.a y1.n y1.c,.slice y1.b y1.m y1.d,.bool y2.neg,.slice y2.a y2.n y2.c,.slice y2.b y2.m y2.d]] w (RetQK (k+k+(k+k)+1) (dotQ a b) w):=by
 have R1:=Hd (fun W (hW:Below w.heap.size w W)=>H1.ext (xbw hW));have R2:=Hd (fun W (hW:Below w.heap.size w W)=>H2.ext (xbw hW));have R3:=Hd (fun W (hW:Below w.heap.size w W)=>H3.ext (xbw hW));have R4:=Hd (fun W (hW:Below w.heap.size w W)=>H4.ext (xbw hW));clear H1 H2 H3 H4;go_enter Tryz.func109,Tryz.ntmps109;go_wp2
 refine qab (fun W=>Blk W w.heap.size 151 #[.bool x1.neg,.slice x1.a x1.n x1.c,.slice x1.b x1.m x1.d,.bool x2.neg,.slice x2.a x2.n x2.c,.slice x2.b x2.m x2.d]/\Blk W (w.heap.size+1) 151 #[.bool y1.neg,.slice y1.a y1.n y1.c,.slice y1.b y1.m y1.d,.bool y2.neg,.slice y2.a y2.n y2.c,.slice y2.b y2.m y2.d]/\Blk W (w.heap.size+1+1) 51 #[.bool false,.slice none 0 0,.slice none 0 0]/\Below w.heap.size w W/\w.heap.size<w.heap.size+1/\w.heap.size+1<w.heap.size+1+1/\w.heap.size+1+1<W.heap.size) ⟨by ((with_reducible repeat first|assumption|(apply bF;focus omega)|apply bS|(apply bN;focus (simp;done))|apply bA|apply bD);all_goals rfl),by ((with_reducible repeat first|assumption|(apply bF;focus omega)|apply bS|(apply bN;focus (simp;done))|apply bA|apply bD);all_goals rfl),by ((with_reducible repeat first|assumption|(apply bF;focus omega)|apply bS|(apply bN;focus (simp;done))|apply bA|apply bD);all_goals rfl),by go_grown,by omega,by omega,by simp⟩ ?_
 rintro w0 ⟨h0,h1,h2,hw0,hg,hgg,hgw⟩;revert h0 h1 h2 hg hgg hgw;generalize w.heap.size+1+1=g2;generalize w.heap.size+1=g1;intro h0 h1 h2 hg hgg hgw;have k0_0:=held (h0.cell 0);have k0_1:=held (h0.cell 1);have k0_2:=held (h0.cell 2);have k0_3:=held (h0.cell 3);have k0_4:=held (h0.cell 4);have k0_5:=held (h0.cell 5);have k1_0:=held (h1.cell 0);have k1_1:=held (h1.cell 1);have k1_2:=held (h1.cell 2);have k1_3:=held (h1.cell 3);have k1_4:=held (h1.cell 4);have k1_5:=held (h1.cell 5);have s0:Below w0.heap.size w0 w0.drew:=brf.drew;have n0:w0.heap.size<=w0.drew.heap.size:=nlr _;refine wrx (S:=Below w0.heap.size w0) [(0,.q),(1,.q),(2,.q),(3,.q),(5,.q),(6,.q),(7,.q),(8,.q),(4,.l),(9,.t),(10,.t),(11,.t)] (s0) ?_
 iterate 8 (refine qaj rfl rfl fun K hK=>xq ?_;go_simp;refine hK _ _ ?_;clear hK K)
 refine qag rfl rfl (fun K hK=>?_);go_simp;refine (mul_q x1 y1 a.1 b.1 k k _ (R1.out _ (bth hw0 s0)) (R3.out _ (bth hw0 s0)) (by omega) (by omega)).mono ?_;rintro r w1 ⟨z1,rfl,K1,hb1⟩;dsimp only;refine hK.out _ _ (bth s0 hb1) (fun _=>?_);clear hK K;have s1:=bth s0 hb1;have n1:=s1.size;replace K1:=Hd K1;refine qae rfl rfl (fun K hK=>?_);go_simp;refine (mul_q x2 y2 a.2 b.2 k k _ (R2.out _ (bth hw0 s1)) (R4.out _ (bth hw0 s1)) (by omega) (by omega)).mono ?_;rintro r w2 ⟨z2,rfl,K2,hb2⟩;dsimp only;refine hK.out _ _ ?_;clear hK K;have s2:=bth s1 hb2;have n2:=s2.size;replace K2:=Hd K2;refine qae rfl rfl (fun K hK=>?_);go_simp;refine (add_q z1 z2 (a.1*b.1) (a.2*b.2) (k+k) (k+k) _ (K1.out.call hb2).now K2.out.now (by omega) (by omega)).mono ?_;rintro r w3 ⟨z3,rfl,K3,hb3⟩;dsimp only;refine hK.out _ _ ?_;clear hK K;have s3:=bth s2 hb3;have n3:=s3.size;replace K3:=Hd K3;have hz:=h2.below' s3
 have hw1:=bth hw0 s3;clear k0_0 k0_1 k0_2 k0_3 k0_4 k0_5 k1_0 k1_1 k1_2 k1_3 k1_4 k1_5;have y0:=hz.cell 0;have f0:=hz.frozen 0;have y1:=hz.cell 1;have f1:=hz.frozen 1;have y2:=hz.cell 2;have f2:=hz.frozen 2;refine qae rfl rfl (fun K hK=>?_);go_simp;refine hK.out _ _ ?_;clear hK K;refine qai ?_;go_wp2;refine qab (fun W=>Blk W g2 51 #[.bool z3.neg,.slice z3.a z3.n z3.c,.slice z3.b z3.m z3.d]/\Below w.heap.size w W/\Kp (fun V=>QK (k+k+(k+k)+1) V z3 (a.1*b.1+a.2*b.2)) w2.heap.size w3.heap.size W) ⟨by ((with_reducible repeat first|assumption|(apply bF;focus omega)|apply bS|(apply bN;focus (simp;done))|apply bA|apply bD);all_goals rfl),by go_grown,by (with_reducible repeat first | exact K3.out | (refine Kp.setc ?_ ?_;focus omega) | refine Kp.alloc ?_ | refine Kp.drew ?_)⟩ ?_;rintro wF ⟨hF,hwF,L1⟩;obtain ⟨e0,e1,e2⟩:=cq3 hF
 refine bodyPost_ret (v:=.agg #[.bool z3.neg,.slice z3.a z3.n z3.c,.slice z3.b z3.m z3.d]) (by simp [results,Tryz.results109,go_sem,e0,e1,e2]) rfl ?_;exact ⟨z3,rfl,Kp.made ((L1.imp fun _ h=>QK.more h (by omega)).fin (show w.heap.size<=_ from Nat.le_trans hw0.size n2)),hwF⟩
theorem qvq (x1 x2:QA) (a:P2) (k:Nat) (w:World) (H1:QK k w x1 a.1) (H2:QK k w x2 a.2) (hk:k<=10000) :
  Calls Tryz.prog 110 #[.agg #[.bool x1.neg,.slice x1.a x1.n x1.c,.slice x1.b x1.m x1.d,.bool x2.neg,.slice x2.a x2.n x2.c,.slice x2.b x2.m x2.d]] w (RetQK (k+k+(k+k)+1) (dotQ a a) w):=by
 have CD:=Hd (fun W (hW:Below w.heap.size w W)=>dot_p x1 x2 x1 x2 a a k W (H1.ext (xbw hW)) (H2.ext (xbw hW)) (H1.ext (xbw hW)) (H2.ext (xbw hW)) hk);clear H1 H2;go_enter Tryz.func110,Tryz.ntmps110;go_wp2_with fail;refine qad (fun W=>Blk W (w.heap.size+1) 51 #[.bool false,.slice none 0 0,.slice none 0 0]/\Below w.heap.size w W) ⟨by ((with_reducible repeat first|assumption|(apply bF;focus omega)|apply bS|(apply bN;focus (simp;done))|apply bA|apply bD);all_goals rfl),by go_grown⟩ ?_;rintro w0 ⟨hz,hw0⟩;obtain ⟨g,hg⟩:∃ g,w.heap.size+1=g:=⟨_,rfl⟩
 have hgB:w.heap.size<=g:=by omega
 rw [hg] at hz ⊢;replace hg:=Hd hg;refine (CD.out w0 hw0).mono ?_;rintro e w1 ⟨z,rfl,K1,hb1⟩;have hw1:=bth hw0 hb1;have hg0:=hz.lt;replace hz:=hz.below' hb1;obtain ⟨y0,y1,y2⟩:=cq3 hz;obtain ⟨f0,f1,f2⟩:=fq3 hz;have hgl:=hz.lt;have hs0:=hw0.size;replace K1:=Hd K1;clear CD hb1 hw0;go_wp2;refine qab (fun W=>Blk W g 51 #[.bool z.neg,.slice z.a z.n z.c,.slice z.b z.m z.d]/\Below w.heap.size w W/\Kp (fun V=>QK (k+k+(k+k)+1) V z (dotQ a a)) w0.heap.size w1.heap.size W) ⟨by ((with_reducible repeat first|assumption|(apply bF;focus omega)|apply bS|(apply bN;focus (simp;done))|apply bA|apply bD);all_goals rfl),by go_grown,by (with_reducible repeat first | exact K1.out | (refine Kp.setc ?_ ?_;focus omega) | refine Kp.alloc ?_ | refine Kp.drew ?_)⟩ ?_;rintro w2 ⟨hF,hw2,K2⟩;obtain ⟨e0,e1,e2⟩:=cq3 hF
 refine bodyPost_ret (v:=.agg #[.bool z.neg,.slice z.a z.n z.c,.slice z.b z.m z.d]) (by simp [results,Tryz.results110,go_sem,e0,e1,e2]) rfl ?_;exact ⟨z,rfl,Kp.made (K2.fin hs0),hw2⟩
def sgnQ (q:Rat):Int:=if q=0 then 0 else if q<0 then -1 else 1
theorem que (q:Rat):sgnZ (decide (q.num<0)) q.num.natAbs=sgnQ q:=by
 unfold sgnZ sgnQ;by_cases h:q=0
 · subst h;rfl
 ·
  have h0:q.num≠0:=fun e=>h (Rat.num_eq_zero.1 e)
  rw [if_neg (by omega),if_neg h];have h2:q<0↔q.num<0:=by rw [Rat.lt_iff];simp
  by_cases h1:q.num<0
  · rw [if_pos (by simpa using h1),if_pos (h2.2 h1)]
  · rw [if_neg (by simpa using h1),if_neg (fun e=>h1 (h2.1 e))]
theorem qld {q:Rat}:sgnQ q=0↔q=0:=by
 unfold sgnQ;by_cases h:q=0
 · simp [h]
 ·
  rw [if_neg h]
  constructor
  · intro e;split at e <;> omega
  · intro e;exact absurd e h
theorem zz29 {P:Prop} (h:P:=by
 by_cases h:q=0
 · rw [qld.2 h];simp [h]
 ·
  have:=fun e=>h (qld.1 e)
  rw [decide_eq_false h];simpa using this
 ):P:=h
theorem qgg (q:Rat):(sgnQ q != 0) = !decide (q=0):=by
 exact zz29
theorem qp2 (q:Rat):(sgnQ q==0)=decide (q=0):=by
 exact zz29
theorem Kp.broad {R:World->Prop} {B B' T T':Nat} {w:World} (h:Kp R B T w) (hB:B'<=B) (hT:T<=T'):Kp R B' T' w:=fun V hV=>h V fun p v h1 h2 h3=>hV p v (by omega) (by omega) h3
theorem qi5 (x:QA) (q:Rat) (k:Nat) (w:World) (H:QK k w x q) (hk:k<=100000):Calls Tryz.prog 113 #[.agg #[.bool x.neg,.slice x.a x.n x.c,.slice x.b x.m x.d]] w fun e w'=>e=.returned (.int .i64 (sgnQ q))/\Below w.heap.size w w':=by
 obtain ⟨s1,n1,a1,c1,m1,b1,d1⟩:=x;obtain ⟨⟨e1,e2,e3,r1,r2⟩,z1⟩:=H;dsimp only at e1 e2 e3 r1 r2 ⊢;subst e1 e2 e3;have l1:=qbb q;have l2:=qba q;have:=qhm (decide (q.num<0)) (limbs q.num.natAbs) (limbs q.den) q.num.natAbs a1 b1 c1 d1 w r1 r2 (qaa _) (by rw [qaa];exact q.den_nz) (by omega) (by omega)
 rwa [que] at this
theorem qkr (x:QA) (q:Rat) (k:Nat) (w:World) (H:QK k w x q) (hk:k<=100000):Calls Tryz.prog 200 #[.agg #[.bool x.neg,.slice x.a x.n x.c,.slice x.b x.m x.d]] w fun e w'=>e=.returned (.int .i64 (sgnQ q))/\Below w.heap.size w w':=by
 obtain ⟨s1,n1,a1,c1,m1,b1,d1⟩:=x;obtain ⟨⟨e1,e2,e3,r1,r2⟩,z1⟩:=H;dsimp only at e1 e2 e3 r1 r2 ⊢;subst e1 e2 e3;have l1:=qbb q;have l2:=qba q;have:=qrk (decide (q.num<0)) (limbs q.num.natAbs) (limbs q.den) q.num.natAbs a1 b1 c1 d1 w r1 r2 (qaa _) (by rw [qaa];exact q.den_nz) (by omega) (by omega)
 rwa [que] at this
theorem qv0 (s t:TQ) (m n:List Int) (w:World) (h:IntsR w s.a s.c m) (h':IntsR w t.a t.c n) (hs:s.n=m.length) (ht:t.n=n.length) :
  Calls Tryz.prog 169 #[.agg #[.bool s.x.neg,.slice s.x.a s.x.n s.x.c,.slice s.x.b s.x.m s.x.d,.slice s.a s.n s.c],.agg #[.bool t.x.neg,.slice t.x.a t.x.n t.x.c,.slice t.x.b t.x.m t.x.d,.slice t.a t.n t.c]] w fun e w'=>e=.returned (.int .i64 (lexI m n))/\Below w.heap.size w w':=by
 have:=qw7 ⟨⟨s.x.neg,List.replicate s.x.n 0,List.replicate s.x.m 0⟩,m⟩ ⟨⟨t.x.neg,List.replicate t.x.n 0,List.replicate t.x.m 0⟩,n⟩ ⟨s.a,s.c,s.x.a,s.x.c,s.x.b,s.x.d⟩ ⟨t.a,t.c,t.x.a,t.x.c,t.x.b,t.x.d⟩ w h h';unfold Trm.val at this;simp only [List.length_replicate] at this;rw [hs,ht];exact this
theorem qw6 (s t:TQ) (p q:Rat) (w:World) (h:QK 1000 w s.x p) (h':QK 1000 w t.x q) :
  Calls Tryz.prog 170 #[.agg #[.bool s.x.neg,.slice s.x.a s.x.n s.x.c,.slice s.x.b s.x.m s.x.d,.slice s.a s.n s.c],.agg #[.bool t.x.neg,.slice t.x.a t.x.n t.x.c,.slice t.x.b t.x.m t.x.d,.slice t.a t.n t.c]] w fun e w'=>∃ x:QA,e=.returned (.tuple #[.agg #[.bool x.neg,.slice x.a x.n x.c,.slice x.b x.m x.d,.slice s.a s.n s.c],.bool (!decide (p+q=0))])/\Kp (fun V=>QK 2001 V x (p+q)) w.heap.size w'.heap.size w'/\Below w.heap.size w w':=by
 have CA:=fun W (hW:Below w.heap.size w W)=>add_q s.x t.x p q 1000 1000 W (h.ext (xbw hW)) (h'.ext (xbw hW)) (by omega) (by omega)
 have hsg:=qgg (p+q);replace CA:=Hd CA;clear h h';go_enter Tryz.func170,Tryz.ntmps170;go_wp2_with fail;refine qad (fun W=>Blk W w.heap.size 191 #[.bool s.x.neg,.slice s.x.a s.x.n s.x.c,.slice s.x.b s.x.m s.x.d,.slice s.a s.n s.c]/\Blk W (w.heap.size+1) 191 #[.bool t.x.neg,.slice t.x.a t.x.n t.x.c,.slice t.x.b t.x.m t.x.d,.slice t.a t.n t.c]/\Blk W (w.heap.size+1+1) 191 #[.bool false,.slice none 0 0,.slice none 0 0,.slice none 0 0]/\Below w.heap.size w W) (by refine ⟨?_,?_,?_,?_⟩<;>first|((with_reducible repeat first|assumption|(apply bF;focus omega)|apply bS|(apply bN;focus (simp;done))|apply bA|apply bD);all_goals rfl)|go_grown) ?_;rintro w0 ⟨hx,hy,hz,hw0⟩;obtain ⟨g1,hg1⟩:∃ g,g=w.heap.size+1:=⟨_,rfl⟩
 obtain ⟨g2,hg2⟩:∃ g,g=w.heap.size+1+1:=⟨_,rfl⟩
 rw [<- hg2] at hz ⊢;rw [<- hg1] at hy ⊢;refine (CA.out _ hw0).mono ?_;rintro e w1 ⟨x,rfl,HX,hb1⟩;replace HX:=Hd HX;have hg20:=hz.lt;replace hy:=hy.below' hb1;replace hz:=hz.below' hb1;replace hx:=hx.below' hb1;have hw1:=bth hw0 hb1;have hlt1:=hy.lt;have hlt2:=hz.lt;have hlt3:=hx.lt;have hlo2:w.heap.size<=w0.heap.size:=hw0.size;have hww:Hid (w1.heap.size<=w1.heap.size):=Hd (nlr _);go_wp2
 refine qab (fun W=>Blk W w1.heap.size 51 #[.bool x.neg,.slice x.a x.n x.c,.slice x.b x.m x.d]/\Blk W w.heap.size 191 #[.bool s.x.neg,.slice s.x.a s.x.n s.x.c,.slice s.x.b s.x.m s.x.d,.slice s.a s.n s.c]/\Blk W g2 191 #[.bool false,.slice none 0 0,.slice none 0 0,.slice none 0 0]/\Kp (fun V=>QK (1000+1000+1) V x (p+q)) w0.heap.size w1.heap.size W/\Below w.heap.size w W/\w1.heap.size<=W.heap.size) ⟨by ((with_reducible repeat first|assumption|(apply bF;focus omega)|apply bS|(apply bN;focus (simp;done))|apply bA|apply bD);all_goals rfl),by ((with_reducible repeat first|assumption|(apply bF;focus omega)|apply bS|(apply bN;focus (simp;done))|apply bA|apply bD);all_goals rfl),by ((with_reducible repeat first|assumption|(apply bF;focus omega)|apply bS|(apply bN;focus (simp;done))|apply bA|apply bD);all_goals rfl),by (with_reducible repeat first | exact HX.out | (refine Kp.setc ?_ ?_;focus omega) | refine Kp.alloc ?_ | refine Kp.drew ?_),by go_grown,by simp⟩ ?_
 rintro w2 ⟨hc,hx,hz,HK,hw2,hsz2⟩;rw [<- hg2];have hne1:w1.heap.size≠g2:=by omega
 have hne2:w.heap.size≠g2:=by omega
 have hgw:w.heap.size<=g2:=by omega
 clear hg1;replace hg2:=Hd hg2;obtain ⟨h1,hh1⟩:∃ h,h=w1.heap.size:=⟨_,rfl⟩
 obtain ⟨R,hR⟩:∃ R,sgnQ (p+q)=R:=⟨_,rfl⟩
 rw [hR] at hsg;have CS:=fun W (hW:Below w2.heap.size w2 W)=>qi5 x (p+q) 2001 W ((HK.call hW).now) (by omega)
 rw [hR] at CS;replace CS:=Hd CS;replace HK:=Hd HK;obtain ⟨S,hS⟩:∃ S:World->Prop,S=fun W=>Blk W w1.heap.size 51 #[.bool x.neg,.slice x.a x.n x.c,.slice x.b x.m x.d]/\Blk W w.heap.size 191 #[.bool s.x.neg,.slice s.x.a s.x.n s.x.c,.slice s.x.b s.x.m s.x.d,.slice s.a s.n s.c]:=⟨_,rfl⟩
 rw [<- hh1] at hS ⊢;rw [<- hh1] at hc hne1;have k0:∀ W,Sat S W->W.cell? ⟨h1,0,none⟩=some (.bool x.neg):=fun W h=>by unfold Sat at h;rw [hS] at h;exact h.1.cell 0
 have k1:∀ W,Sat S W->W.cell? ⟨h1,1,none⟩=some (.slice x.a x.n x.c):=fun W h=>by unfold Sat at h;rw [hS] at h;exact h.1.cell 1
 have k2:∀ W,Sat S W->W.cell? ⟨h1,2,none⟩=some (.slice x.b x.m x.d):=fun W h=>by unfold Sat at h;rw [hS] at h;exact h.1.cell 2
 have k3:∀ W,Sat S W->W.cell? ⟨w.heap.size,3,none⟩=some (.slice s.a s.n s.c):=fun W h=>by unfold Sat at h;rw [hS] at h;exact h.2.cell 3
 have s0:Sat S w2.drew:=by unfold Sat;rw [hS];exact ⟨hc,hx⟩
 replace hS:=Hd hS;replace hh1:=Hd hh1;clear hlt1 hlt2 hlt3 hw0 hw1 hb1 hy HX CA hR;refine wrx (S:=Sat S) [(0,.q),(1,.q),(2,.q),(3,.q),(4,.q),(5,.l),(6,.q),(7,.l),(8,.p)] (s0) ?_
 iterate 5 (refine qaj rfl rfl fun K hK=>xq ?_;go_simp;refine hK _ _ ?_;clear hK K)
 refine qag rfl rfl (fun K hK=>?_);go_simp;refine (CS.out _ (brf.drew)).mono ?_;rintro r w3 ⟨rfl,hb3⟩;dsimp only;refine hK.out _ _ ((by unfold Sat;rw [hS.out];exact ⟨hc.below' (bth (brf.drew) hb3),hx.below' (bth (brf.drew) hb3)⟩)) (fun _=>?_);clear hK K;replace hb3:=bth ((Below.refl w2.heap.size w2).drew) hb3;have hz3:=hz.below' hb3;have hc3:=hc.below' hb3;have hx3:=hx.below' hb3;have HK3:=Hd (HK.out.call hb3);obtain ⟨z0,z1,z2,z3⟩:=cq4 hz3;obtain ⟨f0,f1,f2,f3⟩:=fq4 hz3
 iterate 1 (refine qaj rfl rfl fun K hK=>xq ?_;go_simp;refine hK _ _ ?_;clear hK K)
 refine qag rfl rfl (fun K hK=>?_);go_simp;refine hK.out _ _ ((by unfold Sat;rw [hS.out];exact ⟨by ((with_reducible repeat first|assumption|(apply bF;focus omega)|apply bS|(apply bN;focus (simp;done))|apply bA|apply bD);all_goals rfl),by ((with_reducible repeat first|assumption|(apply bF;focus omega)|apply bS|(apply bN;focus (simp;done))|apply bA|apply bD);all_goals rfl)⟩)) (fun _=>?_);clear hK K
 iterate 1 (refine qaz rfl rfl fun K hK=>xp ?_;go_simp;refine hK _ _ ?_;clear hK K)
 refine qai ?_;go_wp2;refine qab (fun W=>Blk W g2 191 #[.bool x.neg,.slice x.a x.n x.c,.slice x.b x.m x.d,.slice s.a s.n s.c]/\Kp (fun V=>QK (1000+1000+1) V x (p+q)) w0.heap.size w1.heap.size W/\Below w.heap.size w W/\w3.heap.size<=W.heap.size) ⟨by ((with_reducible repeat first|assumption|(apply bF;focus omega)|apply bS|(apply bN;focus (simp;done))|apply bA|apply bD);all_goals rfl),by (with_reducible repeat first | exact HK3.out | (refine Kp.setc ?_ ?_;focus omega) | refine Kp.alloc ?_ | refine Kp.drew ?_),?_,by simp⟩ ?_
 ·
  have hb:=bth hw2 hb3;exact (((hb.setCell hgw _).setCell hgw _).setCell hgw _).setCell hgw _
 rintro w4 ⟨hF,HF,hw4,hsz⟩;obtain ⟨e0,e1,e2,e3⟩:=cq4 hF;refine bodyPost_ret (v:=.tuple #[.agg #[.bool x.neg,.slice x.a x.n x.c,.slice x.b x.m x.d,.slice s.a s.n s.c],.bool (!decide (p+q=0))]) (by simp [results,Tryz.results170,go_sem,e0,e1,e2,e3]) rfl ?_;exact ⟨x,rfl,HF.broad hlo2 (by have:=hb3.size;omega),hw4⟩
end Go.Proofs.YtfaalkneigpcnaaGreatDoor
namespace Go.Proofs.YtfaalkneigpcnaaGreatDoor
open Go.RowKit Go.Lib
def ofL (l:List UInt8):ByteArray:=⟨l.toArray⟩
theorem qws (s:ByteArray):ofL s.data.toList=s:=by cases s;rfl
theorem qj7 (a b:List UInt8):ofL a++ofL b=ofL (a++b):=by
 rw [<- qws (ofL a++ofL b)];simp [ofL]
theorem qfh (a:List UInt8):(ofL a).size=a.length:=by simp [ofL,ByteArray.size]
end Go.Proofs.YtfaalkneigpcnaaGreatDoor
namespace Go.Proofs.YtfaalkneigpcnaaGreatDoor
def digs (n:Nat):List UInt8:=if h:n=0 then [] else digs (n / 10)++[(48+n % 10).toUInt8]
termination_by n
decreasing_by omega
theorem qet:digs 0=[]:=by rw [digs];simp
theorem qe8 {n:Nat} (h:n≠0):digs n=digs (n / 10)++[(48+n % 10).toUInt8]:=by rw [digs];simp [h]
def textN (n:Nat):List UInt8:=if n=0 then [48] else digs n
def textZ (neg:Bool) (n:Nat):List UInt8:=if neg=true then 45 :: textN n else textN n
theorem qwj (k n:Nat) (h:n<10 ^ k):(digs n).length<=k:=by
 induction k generalizing n with
 | zero=>simp at h;subst h;rw [qet];simp
 | succ k ih =>
  by_cases h0:n=0
  · subst h0;rw [qet];simp
  ·
   rw [qe8 h0,List.length_append];have:=ih (n / 10) (by rw [Nat.pow_succ] at h;omega);simp;omega
end Go.Proofs.YtfaalkneigpcnaaGreatDoor
namespace Go.Proofs.YtfaalkneigpcnaaGreatDoor
open Go.RowKit
theorem qj5 (n:Nat) (h:(limbs n).length<=2000000):(digs n).length<=10000000:=by
 have h1:=qa1 n;have h2:65536 ^ (limbs n).length<=(10 ^ 5) ^ (limbs n).length:=Nat.pow_le_pow_left (by omega) _;rw [<- Nat.pow_mul] at h2;have h3:=qwj (5*(limbs n).length) n (ltl h1 h2)
 omega
theorem qek (n:Nat) (h:(limbs n).length<=2000000):(textN n).length<=10000000:=by
 unfold textN
 split
 · simp
 · exact qj5 n h
theorem qql:limbs 1=[1]:=by rw [qbu (by omega),qal];rfl
end Go.Proofs.YtfaalkneigpcnaaGreatDoor
namespace Go.Proofs.YtfaalkneigpcnaaGreatDoor
def grpN (n j:Nat):List Int:=(List.range j).map fun i=>((n / 10000 ^ i % 10000:Nat):Int)
theorem qm1 (n j:Nat):(grpN n j).length=j:=by simp [grpN]
theorem qth (n j:Nat):grpN n (j+1)=grpN n j++[((n / 10000 ^ j % 10000:Nat):Int)]:=by unfold grpN;rw [List.range_succ,List.map_append];rfl
theorem qw2 (n j i:Nat) (h:i<j):(grpN n j)[i]? = some ((n / 10000 ^ i % 10000:Nat):Int):=by unfold grpN;simp [h]
def pw10:Nat->Nat
 | 0=>0
 | g+1=>10 ^ g
theorem qt6 (h:Nat) (hh:h<=3):(pw10 (h+1)) / 10=pw10 h:=by
 match h with
 | 0=>rfl
 | 1=>rfl
 | 2=>rfl
 | 3=>rfl
def topN (m x g:Nat):Nat:=m*10 ^ (4-g)+x / 10 ^ g
theorem qhv (m x h:Nat) (hh:h<=3):topN m x h=10*topN m x (h+1)+x / 10 ^ h % 10:=by
 unfold topN;have e1:10 ^ (4-h)=10*10 ^ (4-(h+1)):=by
  rw [show 4-h=(4-(h+1))+1 by omega,Nat.pow_succ,Nat.mul_comm]
 have e2:x / 10 ^ (h+1)=x / 10 ^ h / 10:=by rw [Nat.pow_succ,Nat.div_div_eq_div_mul]
 rw [e1,e2,Nat.mul_left_comm]
 omega
theorem qrj (m x:Nat) (hx:x<10000):topN m x 4=m:=by
 unfold topN;rw [Nat.div_eq_of_lt (show x<10 ^ 4 by omega)];simp
theorem qwi (m x:Nat):topN m x 0=m*10000+x:=by unfold topN;simp
theorem qub (n i:Nat):n / 10000 ^ (i+1)*10000+n / 10000 ^ i % 10000=n / 10000 ^ i:=by
 rw [Nat.pow_succ,<- Nat.div_div_eq_div_mul];omega
theorem qnl (n:Nat):0<(digs n).length↔n≠0:=by
 constructor
 · intro h e;subst e;rw [qet] at h;simp at h
 · intro h;rw [qe8 h];simp
theorem qsd (m x h:Nat) (hh:h<=3):((0<(digs (topN m x (h+1))).length)\/10 ^ h<=x)↔topN m x h≠0:=by
 rw [qnl];have h0:0<10 ^ h:=Nat.pow_pos (by omega);have hs:=qhv m x h hh
 constructor
 ·
  rintro (h1 | h1)
  · omega
  ·
   have:1<=x / 10 ^ h:=(Nat.le_div_iff_mul_le h0).2 (by omega);unfold topN;omega
 ·
  intro h1;by_cases h2:topN m x (h+1)=0
  ·
   right;refine Nat.le_of_not_lt fun h3=>h1 ?_
   rw [hs,h2,Nat.div_eq_of_lt h3]
  · exact .inl h2
theorem qs5 (m x h:Nat) (hh:h<=3) (h1:topN m x h≠0):digs (topN m x h)=digs (topN m x (h+1))++[(48+x / 10 ^ h % 10).toUInt8]:=by
 have hs:=qhv m x h hh;rw [qe8 h1,show topN m x h / 10=topN m x (h+1) by omega,show topN m x h % 10=x / 10 ^ h % 10 by omega]
theorem qss (m x h:Nat) (hh:h<=3) (h1:topN m x h=0):digs (topN m x (h+1))=digs (topN m x h):=by
 have hs:=qhv m x h hh;rw [h1,show topN m x (h+1)=0 by omega]
theorem qw1 (m x h:Nat):topN m x h<=m*10000+x:=by
 unfold topN;have h1:10 ^ (4-h)<=10 ^ 4:=Nat.pow_le_pow_right (by omega) (by omega);have h2:x / 10 ^ h<=x:=Nat.div_le_self _ _;have h3:=Nat.mul_le_mul_left m h1;have h4:(10:Nat) ^ 4=10000:=rfl;rw [h4] at h3
 omega
theorem qur {a b:Nat} (h:a<=b):(digs a).length<=(digs b).length:=by
 induction b using Nat.strongRecOn generalizing a with
 | _ b ih =>
  by_cases h0:a=0
  · subst h0;rw [qet];simp
  ·
   rw [qe8 h0,qe8 (show b≠0 by omega),List.length_append,List.length_append];have:=ih (b / 10) (by omega) (a:=a / 10) (by omega);simp;omega
theorem qrz (n L j:Nat) (h:n<65536 ^ L) (hj:n / 10000 ^ j≠0):j<2*L:=by
 refine Nat.lt_of_not_le fun h1=>hj (Nat.div_eq_of_lt ?_)
 refine ltl h ?_;have h2:65536 ^ L<=(10000 ^ 2) ^ L:=Nat.pow_le_pow_left (by omega) _;rw [<- Nat.pow_mul] at h2;exact Nat.le_trans h2 (Nat.pow_le_pow_right (by omega) h1)
end Go.Proofs.YtfaalkneigpcnaaGreatDoor
namespace Go.Proofs
open Go.Shelf
def Tryz.lays166_ren:Go.Shelf.Ren:=⟨fun | 166=>31 | 240=>65 | 276=>135 | n=>n,fun | 0=>0 | 3=>3 | 4=>4 | 5=>5 | 9=>9 | 20=>20 | 37=>73 | 70=>72 | 72=>75 | 75=>79 | 80=>83 | 164=>167 | n=>n,fun n=>n⟩
theorem Tryz.lays166:Lays.n166 Tryz.prog Tryz.lays166_ren where
 mixed:=by kernel_rfl
 f166:=Tryz.func31.trans (congrArg some (by kernel_rfl))
 f240:=Tryz.func65.trans (congrArg some (by kernel_rfl))
 f276:=Tryz.func135.trans (congrArg some (by kernel_rfl))
 t0:=Tryz.underlying0
 a0:=Tryz.isAgg0
 z0:=Tryz.sizeOf0
 v0:=Tryz.zeroValue0
 t3:=Tryz.underlying3
 a3:=Tryz.isAgg3
 z3:=Tryz.sizeOf3
 v3:=Tryz.zeroValue3
 t4:=Tryz.underlying4
 a4:=Tryz.isAgg4
 z4:=Tryz.sizeOf4
 v4:=Tryz.zeroValue4
 t9:=Tryz.underlying9
 a9:=Tryz.isAgg9
 z9:=Tryz.sizeOf9
 v9:=Tryz.zeroValue9
 t20:=Tryz.underlying20
 a20:=Tryz.isAgg20
 z20:=Tryz.sizeOf20
 v20:=Tryz.zeroValue20
 t37:=Tryz.underlying73
 a37:=Tryz.isAgg73
 z37:=Tryz.sizeOf73
 v37:=Tryz.zeroValue73
 t70:=Tryz.underlying72
 a70:=Tryz.isAgg72
 z70:=Tryz.sizeOf72
 v70:=Tryz.zeroValue72
 t72:=Tryz.underlying75
 a72:=Tryz.isAgg75
 z72:=Tryz.sizeOf75
 v72:=Tryz.zeroValue75
 t75:=Tryz.underlying79
 a75:=Tryz.isAgg79
 z75:=Tryz.sizeOf79
 v75:=Tryz.zeroValue79
 t164:=Tryz.underlying167
 a164:=Tryz.isAgg167
 z164:=Tryz.sizeOf167
 v164:=Tryz.zeroValue167
def Tryz.lays169_ren : Go.Shelf.Ren := ⟨fun | 169 => 33 | n => n, fun | 70 => 72 | 9 => 9 | 0 => 0 | 72 => 75 | 37 => 73 | 127 => 125 | 3 => 3 | 5 => 5 | n => n, fun | n => n⟩
theorem Tryz.lays169 : Go.Proofs.Lays.n169 Tryz.prog Tryz.lays169_ren := {
  mixed := by kernel_rfl
  f169 := Tryz.func33.trans (congrArg some (by kernel_rfl))
  t0 := Tryz.underlying0
  a0 := Tryz.isAgg0
  z0 := Tryz.sizeOf0
  v0 := Tryz.zeroValue0
  t3 := Tryz.underlying3
  a3 := Tryz.isAgg3
  z3 := Tryz.sizeOf3
  v3 := Tryz.zeroValue3
  t9 := Tryz.underlying9
  a9 := Tryz.isAgg9
  z9 := Tryz.sizeOf9
  v9 := Tryz.zeroValue9
  t37 := Tryz.underlying73
  a37 := Tryz.isAgg73
  z37 := Tryz.sizeOf73
  v37 := Tryz.zeroValue73
  t70 := Tryz.underlying72
  a70 := Tryz.isAgg72
  z70 := Tryz.sizeOf72
  v70 := Tryz.zeroValue72
  t72 := Tryz.underlying75
  a72 := Tryz.isAgg75
  z72 := Tryz.sizeOf75
  v72 := Tryz.zeroValue75
  t127 := Tryz.underlying125
  a127 := Tryz.isAgg125
  z127 := Tryz.sizeOf125
  v127 := Tryz.zeroValue125 }
theorem Tryz.Extra166:Builder.Extra Tryz.prog Tryz.lays166_ren where
 sizeBuilder:=by kernel_rfl
 liesBuilder:=by kernel_rfl
 t5:=Tryz.underlying5
 a5:=Tryz.isAgg5
 z5:=Tryz.sizeOf5
 v5:=Tryz.zeroValue5
 infoByte:=by kernel_rfl
 cellsByte:=by kernel_rfl
 sizeByte:=by kernel_rfl
 neB5:=by decide
theorem Tryz.Extra169:Builder.Extra Tryz.prog Tryz.lays169_ren where
 sizeBuilder:=by kernel_rfl
 liesBuilder:=by kernel_rfl
 t5:=Tryz.underlying5
 a5:=Tryz.isAgg5
 z5:=Tryz.sizeOf5
 v5:=Tryz.zeroValue5
 infoByte:=by kernel_rfl
 cellsByte:=by kernel_rfl
 sizeByte:=by kernel_rfl
 neB5:=by decide
def Tryz.lays167_ren:Go.Shelf.Ren:=⟨fun | 167=>145 | 240=>65 | 276=>135 | n=>n,fun | 0=>0 | 4=>4 | 5=>5 | 9=>9 | 20=>20 | 37=>73 | 70=>72 | 72=>75 | 75=>79 | 80=>83 | 164=>167 | n=>n,fun n=>n⟩
theorem Tryz.lays167:Lays.n167 Tryz.prog Tryz.lays167_ren where
 mixed:=by kernel_rfl
 f167:=Tryz.func145.trans (congrArg some (by kernel_rfl))
 f240:=Tryz.func65.trans (congrArg some (by kernel_rfl))
 f276:=Tryz.func135.trans (congrArg some (by kernel_rfl))
 t0:=Tryz.underlying0
 a0:=Tryz.isAgg0
 z0:=Tryz.sizeOf0
 v0:=Tryz.zeroValue0
 t4:=Tryz.underlying4
 a4:=Tryz.isAgg4
 z4:=Tryz.sizeOf4
 v4:=Tryz.zeroValue4
 t5:=Tryz.underlying5
 a5:=Tryz.isAgg5
 z5:=Tryz.sizeOf5
 v5:=Tryz.zeroValue5
 t9:=Tryz.underlying9
 a9:=Tryz.isAgg9
 z9:=Tryz.sizeOf9
 v9:=Tryz.zeroValue9
 t20:=Tryz.underlying20
 a20:=Tryz.isAgg20
 z20:=Tryz.sizeOf20
 v20:=Tryz.zeroValue20
 t37:=Tryz.underlying73
 a37:=Tryz.isAgg73
 z37:=Tryz.sizeOf73
 v37:=Tryz.zeroValue73
 t70:=Tryz.underlying72
 a70:=Tryz.isAgg72
 z70:=Tryz.sizeOf72
 v70:=Tryz.zeroValue72
 t72:=Tryz.underlying75
 a72:=Tryz.isAgg75
 z72:=Tryz.sizeOf75
 v72:=Tryz.zeroValue75
 t75:=Tryz.underlying79
 a75:=Tryz.isAgg79
 z75:=Tryz.sizeOf79
 v75:=Tryz.zeroValue79
 t164:=Tryz.underlying167
 a164:=Tryz.isAgg167
 z164:=Tryz.sizeOf167
 v164:=Tryz.zeroValue167
def Tryz.lays170_ren:Go.Shelf.Ren:=⟨fun | 170=>144 | n=>n,fun | 0=>0 | 3=>3 | 5=>5 | 37=>73 | 70=>72 | 72=>75 | n=>n,fun n=>n⟩
theorem Tryz.lays170:Lays.n170 Tryz.prog Tryz.lays170_ren where
 mixed:=by kernel_rfl
 f170:=Tryz.func144.trans (congrArg some (by kernel_rfl))
 t0:=Tryz.underlying0
 a0:=Tryz.isAgg0
 z0:=Tryz.sizeOf0
 v0:=Tryz.zeroValue0
 t3:=Tryz.underlying3
 a3:=Tryz.isAgg3
 z3:=Tryz.sizeOf3
 v3:=Tryz.zeroValue3
 t37:=Tryz.underlying73
 a37:=Tryz.isAgg73
 z37:=Tryz.sizeOf73
 v37:=Tryz.zeroValue73
 t70:=Tryz.underlying72
 a70:=Tryz.isAgg72
 z70:=Tryz.sizeOf72
 v70:=Tryz.zeroValue72
 t72:=Tryz.underlying75
 a72:=Tryz.isAgg75
 z72:=Tryz.sizeOf75
 v72:=Tryz.zeroValue75
theorem Tryz.Extra167:Builder.Extra Tryz.prog Tryz.lays167_ren where
 sizeBuilder:=by kernel_rfl
 liesBuilder:=by kernel_rfl
 t5:=Tryz.underlying5
 a5:=Tryz.isAgg5
 z5:=Tryz.sizeOf5
 v5:=Tryz.zeroValue5
 infoByte:=by kernel_rfl
 cellsByte:=by kernel_rfl
 sizeByte:=by kernel_rfl
 neB5:=by decide
end Go.Proofs
namespace Go.Proofs.YtfaalkneigpcnaaGreatDoor
open Go.RowKit
def Bld (b:Nat) (l:List UInt8) (w:World):Prop:=Lib.IsBuilderF 75 5 b b (Lib.byteCells l) w
theorem Bld.new (w:World):Bld w.heap.size [] (w.alloc (.cells #[.pointer none,.slice none 0 0] 75)):=by
 refine .inl ⟨nlr _,.slice none 0 0,Blk.new w _ _,World.ownsRowF_nil _ _ _ _,by simp [Value.ownBlock]⟩
theorem Bld.lt {b:Nat} {l:List UInt8} {w:World} (h:Bld b l w):b<w.heap.size:=by
 rcases h with h | h <;> exact h.lt
theorem Bld.below {b:Nat} {l:List UInt8} {w w':World} (h:Bld b l w) (hb:Below w.heap.size w w'):Bld b l w':=by
 have key:∀ p,Lib.BuilderAtF 75 5 b b p (Lib.byteCells l) w->Lib.BuilderAtF 75 5 b b p (Lib.byteCells l) w':=by
  rintro p ⟨h1,v,h2,h3,h4⟩;refine ⟨h1,v,(hb.block b (Array.getElem?_eq_some_iff.1 h2).1).trans h2,⟨h3.1,?_⟩,h4⟩;rcases h3.2 with hn | ⟨g,cap,cur,fz,e,hg,hh,rest⟩
  · exact .inl hn
  · exact .inr ⟨g,cap,cur,fz,e,hg,(hb.block g (Array.getElem?_eq_some_iff.1 hh).1).trans hh,rest⟩
 rcases h with h | h
 · exact .inl (key _ h)
 · exact .inr (key _ h)
def Oth (b:Nat) (w w':World):Prop:=Lib.OthersKept 5 (some b) w w'
theorem quq (b:Nat) (l:List UInt8) (s:ByteArray) (w:World) (h:Bld b l w) (hl:l.length+s.size<=70368744177664) :
  Calls Tryz.prog 31 #[.pointer (some ⟨b,0,none⟩),.string s] w fun e w'=>(∃ v,e=.returned v)/\Bld b (l++s.data.toList) w'/\Below b w w'/\Oth b w w':=by
 refine (Any.Builder_WriteString_k Tryz.lays166 Tryz.Extra166 b b (Lib.byteCells l) s w h (by simp [Lib.byteCells];omega) (Nat.le_of_lt h.lt)).mono ?_;rintro e w' ⟨rfl,h1,h2,h3⟩;refine ⟨⟨_,rfl⟩,.inr ?_,h2,h3⟩;have e2:Lib.byteCells (l++s.data.toList)=Lib.byteCells l++Lib.strCells s:=by simp [Lib.byteCells,Lib.strCells]
 rw [e2];exact h1
theorem qjl (b:Nat) (l:List UInt8) (w:World) (h:Bld b l w) :
  Calls Tryz.prog 33 #[.pointer (some ⟨b,0,none⟩)] w fun e w'=>e=.returned (.string ⟨l.toArray⟩)/\Below b w w'/\Oth b w w':=by
 refine (Any.Builder_String_any_k Tryz.lays169 Tryz.Extra169 b b l w h (Nat.le_of_lt h.lt)).mono ?_;rintro e w' ⟨rfl,_,h2,h3⟩;exact ⟨rfl,h2,h3⟩
theorem byteC (c:UInt8):Lib.byteCells [c]=[.int .u8 (c.toNat:Int)]:=by simp [Lib.byteCells]
theorem ql9 (b:Nat) (l:List UInt8) (c:UInt8) (w:World) (h:Bld b l w) (hl:l.length+1<=70368744177664) :
  Calls Tryz.prog 145 #[.pointer (some ⟨b,0,none⟩),.int .u8 (c.toNat:Int)] w fun e w'=>e=.returned .nilIface/\Bld b (l++[c]) w'/\Below b w w'/\Oth b w w':=by
 refine (Any.Builder_WriteByte_k Tryz.lays167 Tryz.Extra167 b b (Lib.byteCells l) (c.toNat:Int) w h (by simp [Lib.byteCells];omega) (Nat.le_of_lt h.lt)).mono ?_;rintro e w' ⟨rfl,h1,h2,h3⟩;refine ⟨rfl,.inr ?_,h2,h3⟩;have e2:Lib.byteCells (l++[c])=Lib.byteCells l++[.int .u8 (c.toNat:Int)]:=by rw [<- byteC];simp [Lib.byteCells]
 rw [e2];exact h1
theorem qra (b:Nat) (l:List UInt8) (w:World) (h:Bld b l w) :
  Calls Tryz.prog 144 #[.pointer (some ⟨b,0,none⟩)] w fun e w'=>e=.returned (.int .i64 l.length)/\w'=w:=by
 refine (Any.Builder_Len_f Tryz.lays170 b b (Lib.byteCells l) w h).mono ?_;rintro e w' ⟨rfl,rfl⟩;exact ⟨by simp [Lib.byteCells],rfl⟩
end Go.Proofs.YtfaalkneigpcnaaGreatDoor
namespace Go.Proofs.YtfaalkneigpcnaaGreatDoor
open Go.RowKit
theorem qwq (n j:Nat):U16 (grpN n j):=fun x hx=>by
 unfold grpN at hx;obtain ⟨i,_,rfl⟩:=List.mem_map.1 hx
 omega
theorem zz30 {P:Prop} (h:P:=by
 clear h1;go_wp2_with fail;refine CL.out.mono ?_;rintro e w3 ⟨rfl,rfl⟩;go_wp2_with fail;refine CW.out.mono ?_;rintro e w4 ⟨rfl,hB4,hb4,_⟩;have hw4:=hw3.trans hb4;clear CW CL hB3 hcell;go_wp2;go_roundg t
 case rel=>exact ⟨L3++[(48+s).toUInt8],by rw [hE.out],by omega,hB4,by show _=_;rw [<- e3.out,hy.out],hw4⟩
 case measure=>omega
 ):P:=h
theorem qlu (l:List Int) (n:Nat) (a:Option Addr) (c:Nat) (w:World) (h:NatR w a c l) (hn:val l=n) (hl:l.length<=1000000) :
  Calls Tryz.prog 70 #[.slice a l.length c] w fun e w'=>e=.returned (.string (ofL (textN n)))/\Below w.heap.size w w':=by
 have C1:=qc2 l a c w h (by omega);rw [hn] at C1;have hln:(limbs n).length<=1000000:=by have:=qah h.u16;rw [hn] at this;omega
 have hlt:∀ j,n / 10000 ^ j≠0->j<2*1000000:=fun j hj=>ltl (qrz n _ j (qa1 n) hj) (Nat.mul_le_mul_left 2 hln)
 have HFEW:=Hd hlt;have HLEN:=Hd (qek n (by omega));replace C1:=Hd C1;clear h hn hlt;go_enter Tryz.func70,Tryz.ntmps70;go_wp2_with fail;refine C1.out.mono ?_;rintro e w1 ⟨a1,c1,rfl,hV1,hb1⟩;have R1:=Hd hV1;clear hV1 C1;by_cases h0:n=0
 ·
  subst h0;rw [qal];clear HFEW HLEN R1 hln;go_wp2;go_ret;exact ⟨rfl,hb1⟩
 have hp:(((limbs n).length:Int)==0)=false:=by have:=qar.2 (show 0<n by omega);rw [beq_eq_false_iff_ne];omega
 go_wp2
 go_loopg [0,3,4,5,17] n (fun g s0 s3 _ _ _ wr=>∃ (j:Nat) (ax ag:Option Addr) (cx cg:Nat),Hid (g=n / 10000 ^ j)/\Hid (j<=2000000)/\s0=.slice ax (limbs g).length cx/\s3=.slice ag (grpN n j).length cg/\(∀ V,New w.heap.size wr V->NatR V ax cx (limbs g))/\OwnN w.heap.size wr ag cg (grpN n j) /\
  (limbs g).length<=1000000/\Below w.heap.size w wr)
 case atStart=>exact ⟨0,a1,none,c1,0,by show _=_;simp,by show _<=_;omega,rfl,rfl,R1.out,Own.nil,hln,hb1⟩
 case round =>
  obtain ⟨j,ax,ag,cx,cg,hg,hjl,rfl,rfl,hx,hG,hlx,hb'⟩:=hrel;have HX:=Hd hx;have HG:=Hd hG;clear hx hG hb1 R1 hp;by_cases hz:gk=0
  ·
   subst hz;have hz0:decide (0<(limbs 0).length)=false:=by rw [qal];rfl
   rw [qm1];clear HX;obtain ⟨wo,rfl⟩:∃ wo:World,wo=wr:=⟨_,rfl⟩
   have HR:=Hd (fun W (hW:Below wo.heap.size wo W)=>(HG.out.reads1 (qwq n j)).ext (xbw hW));have hz1:=hg.out;replace hz1:=Hd hz1.symm;have hjm:=hjl.out;clear HG hlx hg hjl;go_wp2;have hB0:=Bld.new wo;have hw0:Below wo.heap.size wo (wo.alloc (.cells #[.pointer none,.slice none 0 0] 75)):=brf.alloc (nlr _) _;revert hB0 hw0;generalize wo.alloc (.cells #[.pointer none,.slice none 0 0] 75)=wb;intro hB0 hw0
   go_loopg [7,8] j (fun g s7 _ w2=>∃ (L:List UInt8),s7=.int .i64 ((g:Int)-1)/\g<=j/\Bld wo.heap.size L w2/\Hid (L=digs (n / 10000 ^ g))/\Below wo.heap.size wo w2)
   case atStart=>exact ⟨[],rfl,nlr _,hB0,by show _=_;rw [hz1.out,qet],hw0⟩
   case round =>
    clear hB0 hw0;obtain ⟨w2,rfl⟩:∃ w2:World,w2=wr:=⟨_,rfl⟩
    obtain ⟨L,rfl,hgj,hB,hL,hw⟩:=hrel;by_cases g0:gk=0
    ·
     subst g0;have hLn:textN n=L:=by rw [hL.out];unfold textN;rw [if_neg h0];simp
     have CS:=Hd (qjl _ L w2 hB);clear hL HR hz1;go_wp2_with fail;refine CS.out.mono ?_;rintro e w3 ⟨rfl,hb3,_⟩;go_wp2;go_ret;exact ⟨qh0 (by rw [hLn];rfl),bth hb' (hw.trans hb3)⟩
    ·
     obtain ⟨i,rfl⟩:∃ i,gk=i+1:=⟨gk-1,by omega⟩
     obtain ⟨x,hx⟩:∃ x,n / 10000 ^ i % 10000=x:=⟨_,rfl⟩
     obtain ⟨m,hm⟩:∃ m,n / 10000 ^ (i+1)=m:=⟨_,rfl⟩
     have hx4:x<10000:=by omega
     have hge:=qub n i;have hat:=qw2 n j i (by omega);rw [hx] at hge hat;rw [hm] at hge hL;have hmn:m*10000+x<=n:=by rw [hge];exact Nat.div_le_self _ _
     have HLL:=Hd (fun h=>Nat.le_trans (qur (Nat.le_trans (qw1 m x h) hmn)) (by have:=HLEN.out;unfold textN at this;rwa [if_neg h0] at this));replace hge:=Hd hge;replace hat:=Hd hat;have e1:(((i+1:Nat):Int)-1)=(i:Int):=by omega
     rw [e1];clear hx hm e1 hmn;go_wp2
     go_loopg [8] 4 (fun h s8 w3=>∃ (L3:List UInt8),s8=.int .u16 ((pw10 h:Nat):Int)/\h<=4/\Bld wo.heap.size L3 w3/\Hid (L3=digs (topN m x h))/\Below wo.heap.size wo w3)
     case atStart=>exact ⟨L,rfl,nlr _,hB,by show _=_;rw [qrj m x hx4];exact hL.out,hw⟩
     case round =>
      obtain ⟨L3,rfl,hg4,hB3,hL3,hw3⟩:=hrel;clear hB hw hL;by_cases g0:gk=0
      ·
       subst g0;have hLn:=hL3.out;rw [qwi,hge.out] at hLn;have d0:decide (((pw10 0:Nat):Int) > 0)=false:=rfl;replace hLn:=Hd hLn;clear hL3;go_wp2;go_roundg i
       case rel=>exact ⟨L3,rfl,by omega,hB3,hLn,hw3⟩
       case measure=>omega
      ·
       obtain ⟨t,rfl⟩:∃ t,gk=t+1:=⟨gk-1,by omega⟩
       have ht3:t<=3:=by omega
       have hc1:=qsd m x t ht3;have hc2:=qs5 m x t ht3;have hc3:=qss m x t ht3;have hps:=qt6 t ht3;have hpd:pw10 (t+1)=10 ^ t:=rfl;have hp0:0<10 ^ t:=Nat.pow_pos (by omega);have hp1:10 ^ t<=1000:=Nat.le_trans (Nat.pow_le_pow_right (by omega) ht3) (by omega);rw [<- hL3.out] at hc1 hc2 hc3;have hl3:L3.length<=10000000:=by rw [hL3.out];exact HLL.out _
       obtain ⟨y,hy⟩:∃ y,topN m x t=y:=⟨_,rfl⟩
       rw [hy] at hc1 hc2 hc3;rw [hpd] at hps ⊢;obtain ⟨D,hD⟩:∃ D,10 ^ t=D:=⟨_,rfl⟩
       rw [hD] at hc1 hc2 hps hp0 hp1 ⊢;obtain ⟨E,hE⟩:∃ E,pw10 t=E:=⟨_,rfl⟩
       rw [hE] at hps;have hdE:(D:Int).tdiv 10=(E:Int):=by rw [<- hps];rfl
       have hDi:(0:Int)<(D:Int):=by omega
       have CL:=Hd (qra _ L3 wr hB3);replace hy:=Hd hy;replace hc1:=Hd hc1;replace hc2:=Hd hc2;replace hc3:=Hd hc3;replace hE:=Hd hE;obtain ⟨bg,og,rfl,hcell⟩:=(HR.out wr hw3).cell hat.out;clear hpd hL3 hD;have hs10:x / D % 10<10:=Nat.mod_lt _ (by omega);have hq1:(x:Int).tdiv (D:Int)=((x / D:Nat):Int):=rfl;have hq2:((x / D:Nat):Int).tmod 10=((x / D % 10:Nat):Int):=rfl;obtain ⟨u,hu⟩:∃ u,x / D=u:=⟨_,rfl⟩
       rw [hu] at hq1 hq2 hs10 hc2;obtain ⟨s,hs⟩:∃ s,u % 10=s:=⟨_,rfl⟩
       rw [hs] at hq2 hs10 hc2;have hsi:(s:Int)<10:=by omega
       have CW:=ql9 _ L3 (48+s).toUInt8 wr hB3 (by omega);rw [show (((48+s).toUInt8.toNat:Nat):Int)=48+(s:Int) by have e:(48+s).toUInt8.toNat=48+s:=by { simp;omega };rw [e];omega] at CW;replace CW:=Hd CW;have hE16:E<65536:=by rw [<- hps];exact Nat.lt_of_le_of_lt (Nat.div_le_self _ _) (by omega)
       have hwE:IntKind.u16.wrap (E:Int)=(E:Int):=by rw [qb0,Nat.mod_eq_of_lt hE16]
       have hD0:((D:Int)==0)=false:=by simp;omega
       have hu9:u<65536:=by rw [<- hu];exact Nat.lt_of_le_of_lt (Nat.div_le_self _ _) (by omega)
       have hw1:IntKind.u16.wrap (u:Int)=(u:Int):=by rw [qb0,Nat.mod_eq_of_lt hu9]
       have hw2:IntKind.u16.wrap (48+(s:Int))=48+(s:Int):=by
        have:=qb0 (48+s);rw [Nat.mod_eq_of_lt (by omega)] at this;simpa using this
       have hw3':(48+(s:Int)) % 256=48+(s:Int):=by omega
       clear hu hs hps hE16 hu9;by_cases hy0:y=0
       ·
        have h1:¬ (0<L3.length\/D<=x):=fun h=>hc1.out.1 h hy0
        have n0:decide (0<L3.length)=false:=decide_eq_false fun h=>h1 (.inl h)
        have n1:decide (D<=x)=false:=decide_eq_false fun h=>h1 (.inr h)
        have e3:=Hd (hc3.out hy0);have hy1:=Hd hy0;clear h1 CW hq1 hq2 hy0;go_wp2_with fail;refine CL.out.mono ?_;rintro e w3 ⟨rfl,rfl⟩;go_wp2;go_roundg t
        case rel=>exact ⟨L3,by rw [hE.out],by omega,hB3,by show _=_;rw [e3.out,hy.out],hw3⟩
        case measure=>omega
       ·
        have h1:0<L3.length\/D<=x:=hc1.out.2 hy0;have e3:=Hd (hc2.out hy0);clear hy0;by_cases hl0:0<L3.length
        ·
         have n0:decide (0<L3.length)=true:=decide_eq_true hl0;exact zz30
        ·
         have n0:decide (0<L3.length)=false:=decide_eq_false hl0;have n1:decide (D<=x)=true:=decide_eq_true (h1.resolve_left hl0);exact zz30
  ·
   have hz1:decide (0<(limbs gk).length)=true:=by have:=qar (n:=gk);simp;omega
   have CB:=qjf (limbs gk) gk 10000 ax cx wr (HX.out wr (New.refl _ _)) (qaa _) (by omega) (by omega) (by omega);have hjj:j<2*1000000:=HFEW.out j (by rw [<- hg.out];exact hz);have hgs:=qth n j;have hgq:gk / 10000=n / 10000 ^ (j+1):=by rw [hg.out,Nat.pow_succ,Nat.div_div_eq_div_mul]
   rw [<- hg.out] at hgs;have hlq:(limbs (gk / 10000)).length<=1000000:=Nat.le_trans (qap (Nat.div_le_self _ _)) hlx;have hlt:gk / 10000<gk:=by omega
   obtain ⟨q,hq⟩:∃ q,gk / 10000=q:=⟨_,rfl⟩
   obtain ⟨r,hr⟩:∃ r,gk % 10000=r:=⟨_,rfl⟩
   rw [hq] at CB hgq hlq hlt;rw [hr] at CB hgs;replace CB:=Hd CB;replace hgs:=Hd hgs;replace hgq:=Hd hgq;clear hq hr hz;go_wp2_with fail;refine CB.out.mono ?_;rintro e w2 ⟨a2,c2,rfl,hV2,hb2⟩;have HG2:=Hd (HG.out.below hb2);have HV2:=Hd hV2;have hw2:=bth hb' hb2;have HLE:Hid ((grpN n j++[(r:Int)]).length<=16777216):=Hd (by rw [List.length_append,qm1];simp;omega);clear hV2 CB HX hb2;go_wp2_with (at_builtin;go_must (refine qax rfl (.tmp 22) (.tmp 24) 46 rfl Tryz.underlying46 infoN rfl (by omega) (by omega) qdw ag cg rfl (HG2.out.alloc _) (r:Int) (qiw _) w2.heap.size 1 rfl (qk6 (by simp)) (grpN n j++[(r:Int)]) rfl HLE.out (by have:=hw2.size;simp;omega) ?_);intro a3 c3 w3 ho3 hg3 hx3);have hw3:=qak (hw2.alloc hw2.size _) (HG2.out.alloc _) hg3
   have hV3:∀ V,New w.heap.size w3 V->NatR V a2 c2 (limbs q):=fun V hV=>HV2.out V (qdh.fresh (B:=w.heap.size) (hV.but a3) hb'.size (brf.alloc (nlr _) _) hg3 hx3 (fun g e=>(HG.out.lt e).2))
   replace ho3:=Hd ho3;replace hV3:=Hd hV3;replace hw3:=Hd hw3;clear hx3 hg3 HG2 HV2 hw2 HG;go_roundg q
   case rel=>exact ⟨j+1,a2,a3,c2,c3,hgq,by show _<=_;omega,rfl,by rw [hgs.out,List.length_append];rfl,hV3.out,by rw [hgs.out];exact ho3.out,hlq,hw3.out⟩
   case measure=>exact hlt
def textF (t:Bool × Nat × Nat):List UInt8:=if t.2.2=1 then textZ t.1 t.2.1 else textZ t.1 t.2.1++47 :: textN t.2.2
theorem qpa (neg:Bool) (n d:Nat):((qao neg n d).1&&decide (0<(qao neg n d).2.1))=(qao neg n d).1:=by
 unfold qao
 split
 · rfl
 ·
  dsimp only
  cases neg <;> simp
theorem qmc (neg:Bool) (n d:Nat):(qao neg n d).2.1<=n/\(qao neg n d).2.2<=d+1:=by
 unfold qao
 split
 · simp
 · exact ⟨Nat.div_le_self _ _,Nat.le_trans (Nat.div_le_self _ _) (by omega)⟩
theorem qky (d:Nat):(limbs (d+1)).length<=(limbs d).length+1:=by
 have:=qcf d 1;have h1:(limbs 1).length=1:=by rw [qql];rfl
 rcases Nat.eq_zero_or_pos d with h | h
 · subst h;rw [h1];omega
 · have:=qar.2 h;omega
theorem qlh (neg:Bool) (n:Nat) (h:(limbs n).length<=2000000):(textZ neg n).length<=10000001:=by
 have:=qek n h;unfold textZ
 split <;> simp <;> omega
end Go.Proofs.YtfaalkneigpcnaaGreatDoor
