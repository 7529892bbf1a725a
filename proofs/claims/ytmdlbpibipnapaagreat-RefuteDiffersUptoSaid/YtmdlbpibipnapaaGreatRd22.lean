/- Walk: the hypotheses of one step (layer 22: Step). Printed by prob/hypt.py. -/
import Derived.Test.YtmdlbpibipnapaaGreatRd21
import Derived.Test.YtmdlbpibipnapaaGreatRd3
import Derived.Test.YtmdlbpibipnapaaGreatRd15
import Derived.Test.YtmdlbpibipnapaaGreatRd1
set_option linter.all false
set_option maxRecDepth 100000
set_option maxHeartbeats 4000000
namespace Go.Proofs.YtmdlbpibipnapaaGreat
open Go.RowKit
structure HypI (X : Nat -> Prop) (vars : List Vr) (va : Option Addr) (vc sn sc i sb so : Nat) (kind : Int) (a b c d x : Vec) (qa qb qc qd qx : VQ) (D M : Nat) (w : World) : Prop where
 hX:∀ b,X b->b<w.heap.size
 H:GB D M
 ha:VecX X w qa a
 hb:VecX X w qb b
 hc:VecX X w qc c
 hd:VecX X w qd d
 hx:VecX X w qx x
 ga:GV D M 8 a
 gb:GV D M 8 b
 gc:GV D M 8 c
 gd:GV D M 8 d
 gx:GV D M 8 x
 hv:VrR w va vc vars
 hl:vars.length<=1000
 hi:i<sn
 hsn:sn<=sc/\sc<=maxLen
 hk:w.cell? ⟨sb,so+i*6,none⟩=some (.int .i64 kind)
section
variable (X : Nat -> Prop) (vars : List Vr) (ra va gl : Option Addr) (nc rc vc sn sc gln glc i sb so : Nat) (kind : Int) (a b c d x : Vec) (qa qb qc qd qx : VQ) (D M : Nat) (w : World)
def HypO (r:List (List Tm)):Prop:=Calls Tryz.prog 92 #[.agg #[.slice (some ⟨sb,so,none⟩) sn sc,.slice gl gln glc],.agg #[.slice ra nc rc,.slice va vars.length vc],.int .i64 i,.agg #[.slice qa.a a.1.length qa.c,.slice qa.b a.2.length qa.d],.agg #[.slice qb.a b.1.length qb.c,.slice qb.b b.2.length qb.d],.agg #[.slice qc.a c.1.length qc.c,.slice qc.b c.2.length qc.d],.agg #[.slice qd.a d.1.length qd.c,.slice qd.b d.2.length qd.d],.agg #[.slice qx.a x.1.length qx.c,.slice qx.b x.2.length qx.d]] w (RetPs X r w)
abbrev HypBx (W:World):Prop:=Blk W (w.heap.size) 25 #[.slice (some ⟨sb,so,none⟩) sn sc,.slice gl gln glc]/\Blk W (w.heap.size+1) 37 #[.slice ra nc rc,.slice va vars.length vc]/\Blk W (w.heap.size+1+1) 120 #[.slice qa.a a.1.length qa.c,.slice qa.b a.2.length qa.d]/\Blk W (w.heap.size+1+1+1) 120 #[.slice qb.a b.1.length qb.c,.slice qb.b b.2.length qb.d]/\Blk W (w.heap.size+1+1+1+1) 120 #[.slice qc.a c.1.length qc.c,.slice qc.b c.2.length qc.d]/\Blk W (w.heap.size+1+1+1+1+1) 120 #[.slice qd.a d.1.length qd.c,.slice qd.b d.2.length qd.d]/\Blk W (w.heap.size+1+1+1+1+1+1) 120 #[.slice qx.a x.1.length qx.c,.slice qx.b x.2.length qx.d]/\Below w.heap.size w W
theorem zz65 {P:Prop} (h:P:=by
 intro C1 C2;replace C1:=Hd C1;replace C2:=Hd C2;have HX:=Hd hX;have hsb:sb<w.heap.size:=World.block_lt_of_cell? w _ hk;have hsb1:sb<w.heap.size+1:=oo
 have hsb2:sb<w.heap.size+1+1:=oo
 have hsb3:sb<w.heap.size+1+1+1:=oo
 have hsb4:sb<w.heap.size+1+1+1+1:=oo
 have hsb5:sb<w.heap.size+1+1+1+1+1:=oo
 have hsb6:sb<w.heap.size+1+1+1+1+1+1:=oo
 clear hX H hv ha ga hb gb hc gc hd gd hx gx;go_enter Tryz.func92,Tryz.ntmps92;go_wp2
 refine qaa (HypBx vars ra va gl nc rc vc sn sc gln glc sb so a b c d x qa qb qc qd qx w) ⟨bk,bk,bk,bk,bk,bk,bk,zg⟩ ?_
 rintro w0 ⟨BG,BF,Ba,Bb,Bc,Bd,Bx,hw0⟩;revert BG BF Ba Bb Bc Bd Bx;generalize w.heap.size+1+1+1+1+1+1=Gx;generalize w.heap.size+1+1+1+1+1=Gd;generalize w.heap.size+1+1+1+1=Gc;generalize w.heap.size+1+1+1=Gb;generalize w.heap.size+1+1=Ga;intro BG BF Ba Bb Bc Bd Bx;clear BG BF hk;have ka0:=held (Ba.cell 0);have ka1:=held (Ba.cell 1);have kb0:=held (Bb.cell 0);have kb1:=held (Bb.cell 1);have kc0:=held (Bc.cell 0);have kc1:=held (Bc.cell 1);have kd0:=held (Bd.cell 0);have kd1:=held (Bd.cell 1);have kx0:=held (Bx.cell 0);have kx1:=held (Bx.cell 1);have s0:Below w0.heap.size w0 w0.drew:=brf.drew;refine wrx (S:=Below w0.heap.size w0) [(0,.q),(1,.q),(2,.q),(3,.q),(5,.q),(6,.q),(7,.q),(8,.q),(4,.l),(9,.t),(10,.t),(11,.p)] (s0) ?_
 iterate 8 (refine qaf rfl rfl fun K hK=>xq ?_;go_simp;refine hK _ _ ?_;clear hK K)
 refine vl fun K hK=>?_
 go_simp;refine (C1.out w0.drew (bth hw0 s0)).mono ?_;rintro r w1 ⟨a1,c1,rfl,hP1,hb1⟩;dsimp only;refine hK.out _ _ (bth s0 hb1) (fun _=>?_);clear hK K;have s1:=bth s0 hb1;replace hP1:=Hd hP1;clear C1 hb1;refine vt fun K hK=>?_
 go_simp;refine (C2.out w1 (bth hw0 s1)).mono ?_;rintro r w2 ⟨a2,c2,rfl,hP2,hb2⟩;dsimp only;refine hK.out _ _ ?_;clear hK K;have s2:=bth s1 hb2;replace hP2:=Hd hP2;replace hP1:=Hd (hP1.out.call hb2);clear C2 hb2;refine vt fun K hK=>?_
 go_simp;refine hK.out _ _ ?_;clear hK K
 refine qaj rfl rfl fun K hK=>xp ?_;go_simp;refine hK _ _ ?_;clear hK K
 refine qad ?_;clear ka0 ka1 kb0 kb1 kc0 kc1 kd0 kd1 kx0 kx1;have hwF:=bth hw0 s2;go_wp2;refine qaa (fun W=>Blk W w2.heap.size 75 #[.slice a1 y1.length c1,.slice a2 y2.length c2]/\Below w2.heap.size w2 W) ⟨bk,zg⟩ ?_;rintro wF ⟨hF,hbF⟩;refine bodyPost_ret (v:=.slice (some ⟨w2.heap.size,0,none⟩) 2 2) (by simp [results,Tryz.results92,go_sem]) rfl ?_;exact ⟨some ⟨w2.heap.size,0,none⟩,2,rfl,qhr hF (fun hx=>by have:=HX.out _ hx;have:=hwF.size;omega) (hP1.out.call hbF) (hP2.out.call hbF),bth hwF hbF⟩
 ):P:=h
theorem qxt (h:HypI X vars va vc sn sc i sb so kind a b c d x qa qb qc qd qx D M w) (e0:kind=7):HypO X vars ra va gl nc rc vc sn sc gln glc i sb so a b c d x qa qb qc qd qx w ([qas b c b x,dotP b c a x]):=by
 obtain ⟨hX,H,ha,hb,hc,hd,hx,ga,gb,gc,gd,gx,hv,hl,hi,hsn,hk⟩:=h;unfold HypO;subst e0
 skip
 have z1:Gr D M 2 128 512 (qas b c b x):=qeb gb gc gb gx;have z2:Gr D M 2 128 512 (dotP b c a x):=dot8 gb gc ga gx;have C1:=fun W (hW:bw w W)=>qb5 X b c b x qb qc qb qx D M W (fun b hb=>ltl (hX b hb) hW.size) H (hb.call hW) (hc.call hW) (hb.call hW) (hx.call hW) gb gc gb gx
 have C2:=fun W (hW:bw w W)=>qe4 X b c a x qb qc qa qx D M W (fun b hb=>ltl (hX b hb) hW.size) H (hb.call hW) (hc.call hW) (ha.call hW) (hx.call hW) gb gc ga gx
 revert C1 C2;clear z1 z2;generalize qas b c b x=y1;generalize dotP b c a x=y2;exact zz65
theorem zz66 {P:Prop} (h:P:=by
 refine vl fun K hK=>?_
 go_simp;refine (C1.out w0.drew (bth hw0 s0)).mono ?_;rintro r w1 ⟨a1,c1,rfl,hP1,hb1⟩;dsimp only;refine hK.out _ _ (bth s0 hb1) (fun _=>?_);clear hK K;have s1:=bth s0 hb1;replace hP1:=Hd hP1;clear C1 hb1;refine vl fun K hK=>?_
 go_simp;refine (C2.out w1 (bth hw0 s1)).mono ?_;rintro r w2 ⟨a2,c2,rfl,hP2,hb2⟩;dsimp only;refine hK.out _ _ (bth s1 hb2) (fun _=>?_);clear hK K;have s2:=bth s1 hb2;replace hP2:=Hd hP2;replace hP1:=Hd (hP1.out.call hb2);clear C2 hb2;refine vt fun K hK=>?_
 go_simp;refine (C3.out w2 (bth hw0 s2)).mono ?_;rintro r w3 ⟨a3,c3,rfl,hP3,hb3⟩;dsimp only;refine hK.out _ _ ?_;clear hK K;have s3:=bth s2 hb3;replace hP3:=Hd hP3;replace hP1:=Hd (hP1.out.call hb3);replace hP2:=Hd (hP2.out.call hb3);clear C3 hb3;refine vt fun K hK=>?_
 go_simp;refine (C4.out w3 (bth hw0 s3) a2 c2 hP2.out a3 c3 hP3.out).mono ?_;rintro r w4 ⟨a4,c4,rfl,hP4,hb4⟩;dsimp only;refine hK.out _ _ ?_;clear hK K;have s4:=bth s3 hb4;replace hP4:=Hd hP4;replace hP1:=Hd (hP1.out.call hb4);clear C4 hb4;refine vt fun K hK=>?_
 go_simp;refine hK.out _ _ ?_;clear hK K
 refine qaj rfl rfl fun K hK=>xp ?_;go_simp;refine hK _ _ ?_;clear hK K
 refine qad ?_;clear ka0 ka1 kb0 kb1 kc0 kc1 kd0 kd1 kx0 kx1;have hwF:=bth hw0 s4;go_wp2;refine qaa (fun W=>Blk W w4.heap.size 75 #[.slice a1 y1.length c1,.slice a4 y4.length c4]/\Below w4.heap.size w4 W) ⟨bk,zg⟩ ?_;rintro wF ⟨hF,hbF⟩;refine bodyPost_ret (v:=.slice (some ⟨w4.heap.size,0,none⟩) 2 2) (by simp [results,Tryz.results92,go_sem]) rfl ?_;exact ⟨some ⟨w4.heap.size,0,none⟩,2,rfl,qhr hF (fun hx=>by have:=HX.out _ hx;have:=hwF.size;omega) (hP1.out.call hbF) (hP4.out.call hbF),bth hwF hbF⟩
 ):P:=h
theorem qyd (h:HypI X vars va vc sn sc i sb so kind a b c d x qa qb qc qd qx D M w) (e0:kind=8):HypO X vars ra va gl nc rc vc sn sc gln glc i sb so a b c d x qa qb qc qd qx w ([dotP b c a x,addP (qas b c b a) (qas b c b x)]):=by
 obtain ⟨hX,H,ha,hb,hc,hd,hx,ga,gb,gc,gd,gx,hv,hl,hi,hsn,hk⟩:=h;unfold HypO;subst e0
 skip
 have z1:Gr D M 2 128 512 (dotP b c a x):=dot8 gb gc ga gx;have z2:Gr D M 2 128 512 (qas b c b a):=qeb gb gc gb ga;have z3:Gr D M 2 128 512 (qas b c b x):=qeb gb gc gb gx;have z4:Gr D M 2 256 1024 (addP (qas b c b a) (qas b c b x)):=z2.add z3;have C1:=fun W (hW:bw w W)=>qe4 X b c a x qb qc qa qx D M W (fun b hb=>ltl (hX b hb) hW.size) H (hb.call hW) (hc.call hW) (ha.call hW) (hx.call hW) gb gc ga gx
 have C2:=fun W (hW:bw w W)=>qb5 X b c b a qb qc qb qa D M W (fun b hb=>ltl (hX b hb) hW.size) H (hb.call hW) (hc.call hW) (hb.call hW) (ha.call hW) gb gc gb ga
 have C3:=fun W (hW:bw w W)=>qb5 X b c b x qb qc qb qx D M W (fun b hb=>ltl (hX b hb) hW.size) H (hb.call hW) (hc.call hW) (hb.call hW) (hx.call hW) gb gc gb gx
 have C4:=fun W (hW:bw w W) (a1:Option Addr) (c1:Nat) (h1:PolX X W a1 c1 (qas b c b a)) (a2:Option Addr) (c2:Nat) (h2:PolX X W a2 c2 (qas b c b x))=>qcu X (qas b c b a) (qas b c b x) a1 a2 c1 c2 W (fun b hb=>ltl (hX b hb) hW.size) h1 h2 (Gr.fine H z2 dd dd dd) (Gr.fine H z3 dd dd dd)
 revert C1 C2 C3 C4;clear z1 z2 z3 z4;generalize dotP b c a x=y1;generalize qas b c b a=y2;generalize qas b c b x=y3;generalize addP y2 y3=y4;intro C1 C2 C3 C4;replace C1:=Hd C1;replace C2:=Hd C2;replace C3:=Hd C3;replace C4:=Hd C4;have HX:=Hd hX;have hsb:sb<w.heap.size:=World.block_lt_of_cell? w _ hk;have hsb1:sb<w.heap.size+1:=oo
 have hsb2:sb<w.heap.size+1+1:=oo
 have hsb3:sb<w.heap.size+1+1+1:=oo
 have hsb4:sb<w.heap.size+1+1+1+1:=oo
 have hsb5:sb<w.heap.size+1+1+1+1+1:=oo
 have hsb6:sb<w.heap.size+1+1+1+1+1+1:=oo
 clear hX H hv ha ga hb gb hc gc hd gd hx gx;go_enter Tryz.func92,Tryz.ntmps92;go_wp2
 refine qaa (HypBx vars ra va gl nc rc vc sn sc gln glc sb so a b c d x qa qb qc qd qx w) ⟨bk,bk,bk,bk,bk,bk,bk,zg⟩ ?_
 rintro w0 ⟨BG,BF,Ba,Bb,Bc,Bd,Bx,hw0⟩;revert BG BF Ba Bb Bc Bd Bx;generalize w.heap.size+1+1+1+1+1+1=Gx;generalize w.heap.size+1+1+1+1+1=Gd;generalize w.heap.size+1+1+1+1=Gc;generalize w.heap.size+1+1+1=Gb;generalize w.heap.size+1+1=Ga;intro BG BF Ba Bb Bc Bd Bx;clear BG BF hk;have ka0:=held (Ba.cell 0);have ka1:=held (Ba.cell 1);have kb0:=held (Bb.cell 0);have kb1:=held (Bb.cell 1);have kc0:=held (Bc.cell 0);have kc1:=held (Bc.cell 1);have kd0:=held (Bd.cell 0);have kd1:=held (Bd.cell 1);have kx0:=held (Bx.cell 0);have kx1:=held (Bx.cell 1);have s0:Below w0.heap.size w0 w0.drew:=brf.drew;refine wrx (S:=Below w0.heap.size w0) [(0,.q),(1,.q),(2,.q),(3,.q),(5,.q),(6,.q),(7,.q),(8,.q),(10,.q),(11,.q),(12,.q),(13,.q),(4,.l),(9,.l),(14,.t),(15,.t),(16,.t),(17,.p)] (s0) ?_
 iterate 12 (refine qaf rfl rfl fun K hK=>xq ?_;go_simp;refine hK _ _ ?_;clear hK K)
 exact zz66
theorem qx3 (h:HypI X vars va vc sn sc i sb so kind a b c d x qa qb qc qd qx D M w) (e0:kind=9):HypO X vars ra va gl nc rc vc sn sc gln glc i sb so a b c d x qa qb qc qd qx w ([qas a b a x,qas c d c x]):=by
 obtain ⟨hX,H,ha,hb,hc,hd,hx,ga,gb,gc,gd,gx,hv,hl,hi,hsn,hk⟩:=h;unfold HypO;subst e0
 skip
 have z1:Gr D M 2 128 512 (qas a b a x):=qeb ga gb ga gx;have z2:Gr D M 2 128 512 (qas c d c x):=qeb gc gd gc gx;have C1:=fun W (hW:bw w W)=>qb5 X a b a x qa qb qa qx D M W (fun b hb=>ltl (hX b hb) hW.size) H (ha.call hW) (hb.call hW) (ha.call hW) (hx.call hW) ga gb ga gx
 have C2:=fun W (hW:bw w W)=>qb5 X c d c x qc qd qc qx D M W (fun b hb=>ltl (hX b hb) hW.size) H (hc.call hW) (hd.call hW) (hc.call hW) (hx.call hW) gc gd gc gx
 revert C1 C2;clear z1 z2;generalize qas a b a x=y1;generalize qas c d c x=y2;exact zz65
theorem zz69 {P:Prop} (h:P:=by
 rintro wF ⟨hF,hbF⟩;refine bodyPost_ret (v:=.slice (some ⟨w6.heap.size,0,none⟩) 2 2) (by simp [results,Tryz.results92,go_sem]) rfl ?_;exact ⟨some ⟨w6.heap.size,0,none⟩,2,rfl,qhr hF (fun hx=>by have:=HX.out _ hx;have:=hwF.size;omega) (hP3.out.call hbF) (hP6.out.call hbF),bth hwF hbF⟩
 ):P:=h
theorem zz67 {P:Prop} (h:P:=by
 clear C5 hb5;refine vt fun K hK=>?_
 go_simp;refine (C6.out w5 (bth hw0 s5) a4 c4 hP4.out a5 c5 hP5.out).mono ?_;rintro r w6 ⟨a6,c6,rfl,hP6,hb6⟩;dsimp only;refine hK.out _ _ ?_;clear hK K;have s6:=bth s5 hb6;replace hP6:=Hd hP6;replace hP3:=Hd (hP3.out.call hb6);clear C6 hb6;refine vt fun K hK=>?_
 go_simp;refine hK.out _ _ ?_;clear hK K
 refine qaj rfl rfl fun K hK=>xp ?_;go_simp;refine hK _ _ ?_;clear hK K
 refine qad ?_;clear ka0 ka1 kb0 kb1 kc0 kc1 kd0 kd1 kx0 kx1;have hwF:=bth hw0 s6;go_wp2;refine qaa (fun W=>Blk W w6.heap.size 75 #[.slice a3 y3.length c3,.slice a6 y5.length c6]/\Below w6.heap.size w6 W) ⟨bk,zg⟩ ?_;exact zz69
 ):P:=h
theorem qwv (h:HypI X vars va vc sn sc i sb so kind a b c d x qa qb qc qd qx D M w) (e0:kind=11):HypO X vars ra va gl nc rc vc sn sc gln glc i sb so a b c d x qa qb qc qd qx w ([subP (normP a x) (normP b x),subP (normP a x) (normP c x)]):=by
 obtain ⟨hX,H,ha,hb,hc,hd,hx,ga,gb,gc,gd,gx,hv,hl,hi,hsn,hk⟩:=h;unfold HypO;subst e0
 skip
 have z1:Gr D M 2 128 512 (normP a x):=norm8 ga gx;have z2:Gr D M 2 128 512 (normP b x):=norm8 gb gx;have z3:Gr D M 2 256 1024 (subP (normP a x) (normP b x)):=z1.sub z2;have z4:Gr D M 2 128 512 (normP c x):=norm8 gc gx;have z5:Gr D M 2 256 1024 (subP (normP a x) (normP c x)):=z1.sub z4;have C1:=fun W (hW:bw w W)=>qbm X a x qa qx D M W (fun b hb=>ltl (hX b hb) hW.size) H (ha.call hW) (hx.call hW) ga gx
 have C2:=fun W (hW:bw w W)=>qbm X b x qb qx D M W (fun b hb=>ltl (hX b hb) hW.size) H (hb.call hW) (hx.call hW) gb gx
 have C3:=fun W (hW:bw w W) (a1:Option Addr) (c1:Nat) (h1:PolX X W a1 c1 (normP a x)) (a2:Option Addr) (c2:Nat) (h2:PolX X W a2 c2 (normP b x))=>qa6 X (normP a x) (normP b x) a1 a2 c1 c2 W (fun b hb=>ltl (hX b hb) hW.size) h1 h2 (Gr.fine H z1 dd dd dd) (Gr.fine H z2 dd dd dd)
 have C4:=fun W (hW:bw w W)=>qbm X a x qa qx D M W (fun b hb=>ltl (hX b hb) hW.size) H (ha.call hW) (hx.call hW) ga gx
 have C5:=fun W (hW:bw w W)=>qbm X c x qc qx D M W (fun b hb=>ltl (hX b hb) hW.size) H (hc.call hW) (hx.call hW) gc gx
 have C6:=fun W (hW:bw w W) (a1:Option Addr) (c1:Nat) (h1:PolX X W a1 c1 (normP a x)) (a2:Option Addr) (c2:Nat) (h2:PolX X W a2 c2 (normP c x))=>qa6 X (normP a x) (normP c x) a1 a2 c1 c2 W (fun b hb=>ltl (hX b hb) hW.size) h1 h2 (Gr.fine H z1 dd dd dd) (Gr.fine H z4 dd dd dd)
 revert C1 C2 C3 C4 C5 C6;clear z1 z2 z3 z4 z5;generalize normP a x=y1;generalize normP b x=y2;generalize subP y1 y2=y3;generalize normP c x=y4;generalize subP y1 y4=y5;intro C1 C2 C3 C4 C5 C6;replace C1:=Hd C1;replace C2:=Hd C2;replace C3:=Hd C3;replace C4:=Hd C4;replace C5:=Hd C5;replace C6:=Hd C6;have HX:=Hd hX;have hsb:sb<w.heap.size:=World.block_lt_of_cell? w _ hk;have hsb1:sb<w.heap.size+1:=oo
 have hsb2:sb<w.heap.size+1+1:=oo
 have hsb3:sb<w.heap.size+1+1+1:=oo
 have hsb4:sb<w.heap.size+1+1+1+1:=oo
 have hsb5:sb<w.heap.size+1+1+1+1+1:=oo
 have hsb6:sb<w.heap.size+1+1+1+1+1+1:=oo
 clear hX H hv ha ga hb gb hc gc hd gd hx gx;go_enter Tryz.func92,Tryz.ntmps92;go_wp2
 refine qaa (HypBx vars ra va gl nc rc vc sn sc gln glc sb so a b c d x qa qb qc qd qx w) ⟨bk,bk,bk,bk,bk,bk,bk,zg⟩ ?_
 rintro w0 ⟨BG,BF,Ba,Bb,Bc,Bd,Bx,hw0⟩;revert BG BF Ba Bb Bc Bd Bx;generalize w.heap.size+1+1+1+1+1+1=Gx;generalize w.heap.size+1+1+1+1+1=Gd;generalize w.heap.size+1+1+1+1=Gc;generalize w.heap.size+1+1+1=Gb;generalize w.heap.size+1+1=Ga;intro BG BF Ba Bb Bc Bd Bx;clear BG BF hk;have ka0:=held (Ba.cell 0);have ka1:=held (Ba.cell 1);have kb0:=held (Bb.cell 0);have kb1:=held (Bb.cell 1);have kc0:=held (Bc.cell 0);have kc1:=held (Bc.cell 1);have kd0:=held (Bd.cell 0);have kd1:=held (Bd.cell 1);have kx0:=held (Bx.cell 0);have kx1:=held (Bx.cell 1);have s0:Below w0.heap.size w0 w0.drew:=brf.drew;refine wrx (S:=Below w0.heap.size w0) [(0,.q),(1,.q),(3,.q),(4,.q),(7,.q),(8,.q),(10,.q),(11,.q),(2,.l),(5,.l),(6,.l),(9,.l),(12,.t),(13,.t),(14,.t),(15,.p)] (s0) ?_
 iterate 8 (refine qaf rfl rfl fun K hK=>xq ?_;go_simp;refine hK _ _ ?_;clear hK K)
 refine vl fun K hK=>?_
 go_simp;refine (C1.out w0.drew (bth hw0 s0)).mono ?_;rintro r w1 ⟨a1,c1,rfl,hP1,hb1⟩;dsimp only;refine hK.out _ _ (bth s0 hb1) (fun _=>?_);clear hK K;have s1:=bth s0 hb1;replace hP1:=Hd hP1;clear C1 hb1;refine vl fun K hK=>?_
 go_simp;refine (C2.out w1 (bth hw0 s1)).mono ?_;rintro r w2 ⟨a2,c2,rfl,hP2,hb2⟩;dsimp only;refine hK.out _ _ (bth s1 hb2) (fun _=>?_);clear hK K;have s2:=bth s1 hb2;replace hP2:=Hd hP2;replace hP1:=Hd (hP1.out.call hb2);clear C2 hb2;refine vl fun K hK=>?_
 go_simp;refine (C3.out w2 (bth hw0 s2) a1 c1 hP1.out a2 c2 hP2.out).mono ?_;rintro r w3 ⟨a3,c3,rfl,hP3,hb3⟩;dsimp only;refine hK.out _ _ (bth s2 hb3) (fun _=>?_);clear hK K;have s3:=bth s2 hb3;replace hP3:=Hd hP3;replace hP1:=Hd (hP1.out.call hb3);clear C3 hb3;refine vl fun K hK=>?_
 go_simp;refine (C4.out w3 (bth hw0 s3)).mono ?_;rintro r w4 ⟨a4,c4,rfl,hP4,hb4⟩;dsimp only;refine hK.out _ _ (bth s3 hb4) (fun _=>?_);clear hK K;have s4:=bth s3 hb4;replace hP4:=Hd hP4;replace hP1:=Hd (hP1.out.call hb4);replace hP3:=Hd (hP3.out.call hb4);clear C4 hb4;refine vt fun K hK=>?_
 go_simp;refine (C5.out w4 (bth hw0 s4)).mono ?_;rintro r w5 ⟨a5,c5,rfl,hP5,hb5⟩;dsimp only;refine hK.out _ _ ?_;clear hK K;have s5:=bth s4 hb5;replace hP5:=Hd hP5;replace hP4:=Hd (hP4.out.call hb5);replace hP3:=Hd (hP3.out.call hb5);exact zz67
theorem qub (h:HypI X vars va vc sn sc i sb so kind a b c d x qa qb qc qd qx D M w) (e0:kind=12):HypO X vars ra va gl nc rc vc sn sc gln glc i sb so a b c d x qa qb qc qd qx w ([qas a b a x,subP (normP c x) (normP c d)]):=by
 obtain ⟨hX,H,ha,hb,hc,hd,hx,ga,gb,gc,gd,gx,hv,hl,hi,hsn,hk⟩:=h;unfold HypO;subst e0
 skip
 have z1:Gr D M 2 128 512 (qas a b a x):=qeb ga gb ga gx;have z2:Gr D M 2 128 512 (normP c x):=norm8 gc gx;have z3:Gr D M 2 128 512 (normP c d):=norm8 gc gd;have z4:Gr D M 2 256 1024 (subP (normP c x) (normP c d)):=z2.sub z3;have C1:=fun W (hW:bw w W)=>qb5 X a b a x qa qb qa qx D M W (fun b hb=>ltl (hX b hb) hW.size) H (ha.call hW) (hb.call hW) (ha.call hW) (hx.call hW) ga gb ga gx
 have C2:=fun W (hW:bw w W)=>qbm X c x qc qx D M W (fun b hb=>ltl (hX b hb) hW.size) H (hc.call hW) (hx.call hW) gc gx
 have C3:=fun W (hW:bw w W)=>qbm X c d qc qd D M W (fun b hb=>ltl (hX b hb) hW.size) H (hc.call hW) (hd.call hW) gc gd
 have C4:=fun W (hW:bw w W) (a1:Option Addr) (c1:Nat) (h1:PolX X W a1 c1 (normP c x)) (a2:Option Addr) (c2:Nat) (h2:PolX X W a2 c2 (normP c d))=>qa6 X (normP c x) (normP c d) a1 a2 c1 c2 W (fun b hb=>ltl (hX b hb) hW.size) h1 h2 (Gr.fine H z2 dd dd dd) (Gr.fine H z3 dd dd dd)
 revert C1 C2 C3 C4;clear z1 z2 z3 z4;generalize qas a b a x=y1;generalize normP c x=y2;generalize normP c d=y3;generalize subP y2 y3=y4;intro C1 C2 C3 C4;replace C1:=Hd C1;replace C2:=Hd C2;replace C3:=Hd C3;replace C4:=Hd C4;have HX:=Hd hX;have hsb:sb<w.heap.size:=World.block_lt_of_cell? w _ hk;have hsb1:sb<w.heap.size+1:=oo
 have hsb2:sb<w.heap.size+1+1:=oo
 have hsb3:sb<w.heap.size+1+1+1:=oo
 have hsb4:sb<w.heap.size+1+1+1+1:=oo
 have hsb5:sb<w.heap.size+1+1+1+1+1:=oo
 have hsb6:sb<w.heap.size+1+1+1+1+1+1:=oo
 clear hX H hv ha ga hb gb hc gc hd gd hx gx;go_enter Tryz.func92,Tryz.ntmps92;go_wp2
 refine qaa (HypBx vars ra va gl nc rc vc sn sc gln glc sb so a b c d x qa qb qc qd qx w) ⟨bk,bk,bk,bk,bk,bk,bk,zg⟩ ?_
 rintro w0 ⟨BG,BF,Ba,Bb,Bc,Bd,Bx,hw0⟩;revert BG BF Ba Bb Bc Bd Bx;generalize w.heap.size+1+1+1+1+1+1=Gx;generalize w.heap.size+1+1+1+1+1=Gd;generalize w.heap.size+1+1+1+1=Gc;generalize w.heap.size+1+1+1=Gb;generalize w.heap.size+1+1=Ga;intro BG BF Ba Bb Bc Bd Bx;clear BG BF hk;have ka0:=held (Ba.cell 0);have ka1:=held (Ba.cell 1);have kb0:=held (Bb.cell 0);have kb1:=held (Bb.cell 1);have kc0:=held (Bc.cell 0);have kc1:=held (Bc.cell 1);have kd0:=held (Bd.cell 0);have kd1:=held (Bd.cell 1);have kx0:=held (Bx.cell 0);have kx1:=held (Bx.cell 1);have s0:Below w0.heap.size w0 w0.drew:=brf.drew;refine wrx (S:=Below w0.heap.size w0) [(0,.q),(1,.q),(2,.q),(3,.q),(5,.q),(6,.q),(8,.q),(9,.q),(4,.l),(7,.l),(10,.t),(11,.t),(12,.t),(13,.p)] (s0) ?_
 iterate 8 (refine qaf rfl rfl fun K hK=>xq ?_;go_simp;refine hK _ _ ?_;clear hK K)
 exact zz66
theorem qxf (h:HypI X vars va vc sn sc i sb so kind a b c d x qa qb qc qd qx D M w) (e0:kind=13):HypO X vars ra va gl nc rc vc sn sc gln glc i sb so a b c d x qa qb qc qd qx w ([subP (normP a x) (normP a b),subP (normP c x) (normP c d)]):=by
 obtain ⟨hX,H,ha,hb,hc,hd,hx,ga,gb,gc,gd,gx,hv,hl,hi,hsn,hk⟩:=h;unfold HypO;subst e0
 skip
 have z1:Gr D M 2 128 512 (normP a x):=norm8 ga gx;have z2:Gr D M 2 128 512 (normP a b):=norm8 ga gb;have z3:Gr D M 2 256 1024 (subP (normP a x) (normP a b)):=z1.sub z2;have z4:Gr D M 2 128 512 (normP c x):=norm8 gc gx;have z5:Gr D M 2 128 512 (normP c d):=norm8 gc gd;have z6:Gr D M 2 256 1024 (subP (normP c x) (normP c d)):=z4.sub z5;have C1:=fun W (hW:bw w W)=>qbm X a x qa qx D M W (fun b hb=>ltl (hX b hb) hW.size) H (ha.call hW) (hx.call hW) ga gx
 have C2:=fun W (hW:bw w W)=>qbm X a b qa qb D M W (fun b hb=>ltl (hX b hb) hW.size) H (ha.call hW) (hb.call hW) ga gb
 have C3:=fun W (hW:bw w W) (a1:Option Addr) (c1:Nat) (h1:PolX X W a1 c1 (normP a x)) (a2:Option Addr) (c2:Nat) (h2:PolX X W a2 c2 (normP a b))=>qa6 X (normP a x) (normP a b) a1 a2 c1 c2 W (fun b hb=>ltl (hX b hb) hW.size) h1 h2 (Gr.fine H z1 dd dd dd) (Gr.fine H z2 dd dd dd)
 have C4:=fun W (hW:bw w W)=>qbm X c x qc qx D M W (fun b hb=>ltl (hX b hb) hW.size) H (hc.call hW) (hx.call hW) gc gx
 have C5:=fun W (hW:bw w W)=>qbm X c d qc qd D M W (fun b hb=>ltl (hX b hb) hW.size) H (hc.call hW) (hd.call hW) gc gd
 have C6:=fun W (hW:bw w W) (a1:Option Addr) (c1:Nat) (h1:PolX X W a1 c1 (normP c x)) (a2:Option Addr) (c2:Nat) (h2:PolX X W a2 c2 (normP c d))=>qa6 X (normP c x) (normP c d) a1 a2 c1 c2 W (fun b hb=>ltl (hX b hb) hW.size) h1 h2 (Gr.fine H z4 dd dd dd) (Gr.fine H z5 dd dd dd)
 revert C1 C2 C3 C4 C5 C6;clear z1 z2 z3 z4 z5 z6;generalize normP a x=y1;generalize normP a b=y2;generalize subP y1 y2=y3;generalize normP c x=y4;generalize normP c d=y5;generalize subP y4 y5=y6;intro C1 C2 C3 C4 C5 C6;replace C1:=Hd C1;replace C2:=Hd C2;replace C3:=Hd C3;replace C4:=Hd C4;replace C5:=Hd C5;replace C6:=Hd C6;have HX:=Hd hX;have hsb:sb<w.heap.size:=World.block_lt_of_cell? w _ hk;have hsb1:sb<w.heap.size+1:=oo
 have hsb2:sb<w.heap.size+1+1:=oo
 have hsb3:sb<w.heap.size+1+1+1:=oo
 have hsb4:sb<w.heap.size+1+1+1+1:=oo
 have hsb5:sb<w.heap.size+1+1+1+1+1:=oo
 have hsb6:sb<w.heap.size+1+1+1+1+1+1:=oo
 clear hX H hv ha ga hb gb hc gc hd gd hx gx;go_enter Tryz.func92,Tryz.ntmps92;go_wp2
 refine qaa (HypBx vars ra va gl nc rc vc sn sc gln glc sb so a b c d x qa qb qc qd qx w) ⟨bk,bk,bk,bk,bk,bk,bk,zg⟩ ?_
 rintro w0 ⟨BG,BF,Ba,Bb,Bc,Bd,Bx,hw0⟩;revert BG BF Ba Bb Bc Bd Bx;generalize w.heap.size+1+1+1+1+1+1=Gx;generalize w.heap.size+1+1+1+1+1=Gd;generalize w.heap.size+1+1+1+1=Gc;generalize w.heap.size+1+1+1=Gb;generalize w.heap.size+1+1=Ga;intro BG BF Ba Bb Bc Bd Bx;clear BG BF hk;have ka0:=held (Ba.cell 0);have ka1:=held (Ba.cell 1);have kb0:=held (Bb.cell 0);have kb1:=held (Bb.cell 1);have kc0:=held (Bc.cell 0);have kc1:=held (Bc.cell 1);have kd0:=held (Bd.cell 0);have kd1:=held (Bd.cell 1);have kx0:=held (Bx.cell 0);have kx1:=held (Bx.cell 1);have s0:Below w0.heap.size w0 w0.drew:=brf.drew;refine wrx (S:=Below w0.heap.size w0) [(0,.q),(1,.q),(3,.q),(4,.q),(7,.q),(8,.q),(10,.q),(11,.q),(2,.l),(5,.l),(6,.l),(9,.l),(12,.t),(13,.t),(14,.t),(15,.p)] (s0) ?_
 iterate 8 (refine qaf rfl rfl fun K hK=>xq ?_;go_simp;refine hK _ _ ?_;clear hK K)
 refine vl fun K hK=>?_
 go_simp;refine (C1.out w0.drew (bth hw0 s0)).mono ?_;rintro r w1 ⟨a1,c1,rfl,hP1,hb1⟩;dsimp only;refine hK.out _ _ (bth s0 hb1) (fun _=>?_);clear hK K;have s1:=bth s0 hb1;replace hP1:=Hd hP1;clear C1 hb1;refine vl fun K hK=>?_
 go_simp;refine (C2.out w1 (bth hw0 s1)).mono ?_;rintro r w2 ⟨a2,c2,rfl,hP2,hb2⟩;dsimp only;refine hK.out _ _ (bth s1 hb2) (fun _=>?_);clear hK K;have s2:=bth s1 hb2;replace hP2:=Hd hP2;replace hP1:=Hd (hP1.out.call hb2);clear C2 hb2;refine vl fun K hK=>?_
 go_simp;refine (C3.out w2 (bth hw0 s2) a1 c1 hP1.out a2 c2 hP2.out).mono ?_;rintro r w3 ⟨a3,c3,rfl,hP3,hb3⟩;dsimp only;refine hK.out _ _ (bth s2 hb3) (fun _=>?_);clear hK K;have s3:=bth s2 hb3;replace hP3:=Hd hP3;clear C3 hb3;refine vl fun K hK=>?_
 go_simp;refine (C4.out w3 (bth hw0 s3)).mono ?_;rintro r w4 ⟨a4,c4,rfl,hP4,hb4⟩;dsimp only;refine hK.out _ _ (bth s3 hb4) (fun _=>?_);clear hK K;have s4:=bth s3 hb4;replace hP4:=Hd hP4;replace hP3:=Hd (hP3.out.call hb4);clear C4 hb4;refine vt fun K hK=>?_
 go_simp;refine (C5.out w4 (bth hw0 s4)).mono ?_;rintro r w5 ⟨a5,c5,rfl,hP5,hb5⟩;dsimp only;refine hK.out _ _ ?_;clear hK K;have s5:=bth s4 hb5;replace hP5:=Hd hP5;replace hP3:=Hd (hP3.out.call hb5);replace hP4:=Hd (hP4.out.call hb5);clear C5 hb5;refine vt fun K hK=>?_
 go_simp;refine (C6.out w5 (bth hw0 s5) a4 c4 hP4.out a5 c5 hP5.out).mono ?_;rintro r w6 ⟨a6,c6,rfl,hP6,hb6⟩;dsimp only;refine hK.out _ _ ?_;clear hK K;have s6:=bth s5 hb6;replace hP6:=Hd hP6;replace hP3:=Hd (hP3.out.call hb6);clear C6 hb6;refine vt fun K hK=>?_
 go_simp;refine hK.out _ _ ?_;clear hK K
 refine qaj rfl rfl fun K hK=>xp ?_;go_simp;refine hK _ _ ?_;clear hK K
 refine qad ?_;clear ka0 ka1 kb0 kb1 kc0 kc1 kd0 kd1 kx0 kx1;have hwF:=bth hw0 s6;go_wp2;refine qaa (fun W=>Blk W w6.heap.size 75 #[.slice a3 y3.length c3,.slice a6 y6.length c6]/\Below w6.heap.size w6 W) ⟨bk,zg⟩ ?_;exact zz69
theorem qv8 (h:HypI X vars va vc sn sc i sb so kind a b c d x qa qb qc qd qx D M w) (e0:kind=14):HypO X vars ra va gl nc rc vc sn sc gln glc i sb so a b c d x qa qb qc qd qx w ([subP (normP a x) (normP a b),subP (normP b x) (normP a b)]):=by
 obtain ⟨hX,H,ha,hb,hc,hd,hx,ga,gb,gc,gd,gx,hv,hl,hi,hsn,hk⟩:=h;unfold HypO;subst e0
 skip
 have z1:Gr D M 2 128 512 (normP a x):=norm8 ga gx;have z2:Gr D M 2 128 512 (normP a b):=norm8 ga gb;have z3:Gr D M 2 256 1024 (subP (normP a x) (normP a b)):=z1.sub z2;have z4:Gr D M 2 128 512 (normP b x):=norm8 gb gx;have z5:Gr D M 2 256 1024 (subP (normP b x) (normP a b)):=z4.sub z2;have C1:=fun W (hW:bw w W)=>qbm X a x qa qx D M W (fun b hb=>ltl (hX b hb) hW.size) H (ha.call hW) (hx.call hW) ga gx
 have C2:=fun W (hW:bw w W)=>qbm X a b qa qb D M W (fun b hb=>ltl (hX b hb) hW.size) H (ha.call hW) (hb.call hW) ga gb
 have C3:=fun W (hW:bw w W) (a1:Option Addr) (c1:Nat) (h1:PolX X W a1 c1 (normP a x)) (a2:Option Addr) (c2:Nat) (h2:PolX X W a2 c2 (normP a b))=>qa6 X (normP a x) (normP a b) a1 a2 c1 c2 W (fun b hb=>ltl (hX b hb) hW.size) h1 h2 (Gr.fine H z1 dd dd dd) (Gr.fine H z2 dd dd dd)
 have C4:=fun W (hW:bw w W)=>qbm X b x qb qx D M W (fun b hb=>ltl (hX b hb) hW.size) H (hb.call hW) (hx.call hW) gb gx
 have C5:=fun W (hW:bw w W)=>qbm X a b qa qb D M W (fun b hb=>ltl (hX b hb) hW.size) H (ha.call hW) (hb.call hW) ga gb
 have C6:=fun W (hW:bw w W) (a1:Option Addr) (c1:Nat) (h1:PolX X W a1 c1 (normP b x)) (a2:Option Addr) (c2:Nat) (h2:PolX X W a2 c2 (normP a b))=>qa6 X (normP b x) (normP a b) a1 a2 c1 c2 W (fun b hb=>ltl (hX b hb) hW.size) h1 h2 (Gr.fine H z4 dd dd dd) (Gr.fine H z2 dd dd dd)
 revert C1 C2 C3 C4 C5 C6;clear z1 z2 z3 z4 z5;generalize normP a x=y1;generalize normP a b=y2;generalize subP y1 y2=y3;generalize normP b x=y4;generalize subP y4 y2=y5;intro C1 C2 C3 C4 C5 C6;replace C1:=Hd C1;replace C2:=Hd C2;replace C3:=Hd C3;replace C4:=Hd C4;replace C5:=Hd C5;replace C6:=Hd C6;have HX:=Hd hX;have hsb:sb<w.heap.size:=World.block_lt_of_cell? w _ hk;have hsb1:sb<w.heap.size+1:=oo
 have hsb2:sb<w.heap.size+1+1:=oo
 have hsb3:sb<w.heap.size+1+1+1:=oo
 have hsb4:sb<w.heap.size+1+1+1+1:=oo
 have hsb5:sb<w.heap.size+1+1+1+1+1:=oo
 have hsb6:sb<w.heap.size+1+1+1+1+1+1:=oo
 clear hX H hv ha ga hb gb hc gc hd gd hx gx;go_enter Tryz.func92,Tryz.ntmps92;go_wp2
 refine qaa (HypBx vars ra va gl nc rc vc sn sc gln glc sb so a b c d x qa qb qc qd qx w) ⟨bk,bk,bk,bk,bk,bk,bk,zg⟩ ?_
 rintro w0 ⟨BG,BF,Ba,Bb,Bc,Bd,Bx,hw0⟩;revert BG BF Ba Bb Bc Bd Bx;generalize w.heap.size+1+1+1+1+1+1=Gx;generalize w.heap.size+1+1+1+1+1=Gd;generalize w.heap.size+1+1+1+1=Gc;generalize w.heap.size+1+1+1=Gb;generalize w.heap.size+1+1=Ga;intro BG BF Ba Bb Bc Bd Bx;clear BG BF hk;have ka0:=held (Ba.cell 0);have ka1:=held (Ba.cell 1);have kb0:=held (Bb.cell 0);have kb1:=held (Bb.cell 1);have kc0:=held (Bc.cell 0);have kc1:=held (Bc.cell 1);have kd0:=held (Bd.cell 0);have kd1:=held (Bd.cell 1);have kx0:=held (Bx.cell 0);have kx1:=held (Bx.cell 1);have s0:Below w0.heap.size w0 w0.drew:=brf.drew;refine wrx (S:=Below w0.heap.size w0) [(0,.q),(1,.q),(3,.q),(4,.q),(7,.q),(8,.q),(10,.q),(11,.q),(2,.l),(5,.l),(6,.l),(9,.l),(12,.t),(13,.t),(14,.t),(15,.p)] (s0) ?_
 iterate 8 (refine qaf rfl rfl fun K hK=>xq ?_;go_simp;refine hK _ _ ?_;clear hK K)
 refine vl fun K hK=>?_
 go_simp;refine (C1.out w0.drew (bth hw0 s0)).mono ?_;rintro r w1 ⟨a1,c1,rfl,hP1,hb1⟩;dsimp only;refine hK.out _ _ (bth s0 hb1) (fun _=>?_);clear hK K;have s1:=bth s0 hb1;replace hP1:=Hd hP1;clear C1 hb1;refine vl fun K hK=>?_
 go_simp;refine (C2.out w1 (bth hw0 s1)).mono ?_;rintro r w2 ⟨a2,c2,rfl,hP2,hb2⟩;dsimp only;refine hK.out _ _ (bth s1 hb2) (fun _=>?_);clear hK K;have s2:=bth s1 hb2;replace hP2:=Hd hP2;replace hP1:=Hd (hP1.out.call hb2);clear C2 hb2;refine vl fun K hK=>?_
 go_simp;refine (C3.out w2 (bth hw0 s2) a1 c1 hP1.out a2 c2 hP2.out).mono ?_;rintro r w3 ⟨a3,c3,rfl,hP3,hb3⟩;dsimp only;refine hK.out _ _ (bth s2 hb3) (fun _=>?_);clear hK K;have s3:=bth s2 hb3;replace hP3:=Hd hP3;replace hP2:=Hd (hP2.out.call hb3);clear C3 hb3;refine vl fun K hK=>?_
 go_simp;refine (C4.out w3 (bth hw0 s3)).mono ?_;rintro r w4 ⟨a4,c4,rfl,hP4,hb4⟩;dsimp only;refine hK.out _ _ (bth s3 hb4) (fun _=>?_);clear hK K;have s4:=bth s3 hb4;replace hP4:=Hd hP4;replace hP2:=Hd (hP2.out.call hb4);replace hP3:=Hd (hP3.out.call hb4);clear C4 hb4;refine vt fun K hK=>?_
 go_simp;refine (C5.out w4 (bth hw0 s4)).mono ?_;rintro r w5 ⟨a5,c5,rfl,hP5,hb5⟩;dsimp only;refine hK.out _ _ ?_;clear hK K;have s5:=bth s4 hb5;replace hP5:=Hd hP5;replace hP2:=Hd (hP2.out.call hb5);replace hP3:=Hd (hP3.out.call hb5);replace hP4:=Hd (hP4.out.call hb5);exact zz67
theorem zz68 {P:Prop} (h:P:=by
 intro CS;replace CS:=Hd CS;have HX:=Hd hX;have hsb:sb<w.heap.size:=World.block_lt_of_cell? w _ hk;have hsb1:sb<w.heap.size+1:=oo
 have hsb2:sb<w.heap.size+1+1:=oo
 have hsb3:sb<w.heap.size+1+1+1:=oo
 have hsb4:sb<w.heap.size+1+1+1+1:=oo
 have hsb5:sb<w.heap.size+1+1+1+1+1:=oo
 have hsb6:sb<w.heap.size+1+1+1+1+1+1:=oo
 clear hX H hv ha ga hb gb hc gc hd gd hx gx;go_enter Tryz.func92,Tryz.ntmps92;go_wp2_with fail;refine qae (fun W=>Below w.heap.size w W) (by go_grown) ?_;rintro w0 hw0;refine (CS.out w0 hw0).mono ?_;rintro e w1 ⟨a1,c1,rfl,hP1,hb1⟩;have hw1:=bth hw0 hb1;replace hP1:=Hd hP1;clear CS;go_wp2;go_ret;exact ⟨a1,c1,rfl,hP1.out,hw1⟩
 ):P:=h
theorem qzg (h:HypI X vars va vc sn sc i sb so kind a b c d x qa qb qc qd qx D M w) (e0:kind=6):HypO X vars ra va gl nc rc vc sn sc gln glc i sb so a b c d x qa qb qc qd qx w (qep (qby i vars 0) a b x):=by
 obtain ⟨hX,H,ha,hb,hc,hd,hx,ga,gb,gc,gd,gx,hv,hl,hi,hsn,hk⟩:=h;unfold HypO;subst e0;have CS:=fun W (hW:bw w W)=>qp6 X vars ra va nc rc vc i a b x qa qb qx D M W (fun b hb=>ltl (hX b hb) hW.size) H (ha.call hW) (hb.call hW) (hx.call hW) ga gb gx (hv.ext (xbw hW)) hl
 revert CS;generalize qep (qby i vars 0) a b x=ps;exact zz68
theorem quq (h:HypI X vars va vc sn sc i sb so kind a b c d x qa qb qc qd qx D M w) (e0:kind=10):HypO X vars ra va gl nc rc vc sn sc gln glc i sb so a b c d x qa qb qc qd qx w (qht a b c x):=by
 obtain ⟨hX,H,ha,hb,hc,hd,hx,ga,gb,gc,gd,gx,hv,hl,hi,hsn,hk⟩:=h;unfold HypO;subst e0;have CS:=fun W (hW:bw w W)=>qxr X a b c x qa qb qc qx D M W (fun b hb=>ltl (hX b hb) hW.size) H (ha.call hW) (hb.call hW) (hc.call hW) (hx.call hW) ga gb gc gx
 revert CS;generalize qht a b c x=ps;exact zz68
theorem qyh (h:HypI X vars va vc sn sc i sb so kind a b c d x qa qb qc qd qx D M w) (e0:¬ (6<=kind/\kind<=14)):HypO X vars ra va gl nc rc vc sn sc gln glc i sb so a b c d x qa qb qc qd qx w ([]):=by
 obtain ⟨hX,H,ha,hb,hc,hd,hx,ga,gb,gc,gd,gx,hv,hl,hi,hsn,hk⟩:=h;unfold HypO;have n6:(kind==6)=false:=by simp;omega
 have n7:(kind==7)=false:=by simp;omega
 have n8:(kind==8)=false:=by simp;omega
 have n9:(kind==9)=false:=by simp;omega
 have n10:(kind==10)=false:=by simp;omega
 have n11:(kind==11)=false:=by simp;omega
 have n12:(kind==12)=false:=by simp;omega
 have n13:(kind==13)=false:=by simp;omega
 have n14:(kind==14)=false:=by simp;omega
 replace e0:=Hd e0;have HX:=Hd hX;have hsb:sb<w.heap.size:=World.block_lt_of_cell? w _ hk;have hsb1:sb<w.heap.size+1:=oo
 have hsb2:sb<w.heap.size+1+1:=oo
 have hsb3:sb<w.heap.size+1+1+1:=oo
 have hsb4:sb<w.heap.size+1+1+1+1:=oo
 have hsb5:sb<w.heap.size+1+1+1+1+1:=oo
 have hsb6:sb<w.heap.size+1+1+1+1+1+1:=oo
 clear hX H hv ha ga hb gb hc gc hd gd hx gx;go_enter Tryz.func92,Tryz.ntmps92;go_wp2;go_ret;exact ⟨none,0,rfl,PsX.nil,zg⟩
end
theorem qoo (X:Nat->Prop) (vars:List Vr) (ra va gl:Option Addr) (nc rc vc sn sc gln glc i:Nat) (sb so:Nat) (kind:Int) (a b c d x:Vec) (qa qb qc qd qx:VQ) (D M:Nat) (w:World) (hX:∀ b,X b->b<w.heap.size) (H:GB D M) (ha:VecX X w qa a) (hb:VecX X w qb b) (hc:VecX X w qc c) (hd:VecX X w qd d) (hx:VecX X w qx x) (ga:GV D M 8 a) (gb:GV D M 8 b) (gc:GV D M 8 c) (gd:GV D M 8 d) (gx:GV D M 8 x) (hv:VrR w va vc vars) (hl:vars.length<=1000) (hi:i<sn) (hsn:sn<=sc/\sc<=maxLen) (hk:w.cell? ⟨sb,so+i*6,none⟩=some (.int .i64 kind)) :
  Calls Tryz.prog 92 #[.agg #[.slice (some ⟨sb,so,none⟩) sn sc,.slice gl gln glc],.agg #[.slice ra nc rc,.slice va vars.length vc],.int .i64 i,.agg #[.slice qa.a a.1.length qa.c,.slice qa.b a.2.length qa.d],.agg #[.slice qb.a b.1.length qb.c,.slice qb.b b.2.length qb.d],.agg #[.slice qc.a c.1.length qc.c,.slice qc.b c.2.length qc.d],.agg #[.slice qd.a d.1.length qd.c,.slice qd.b d.2.length qd.d],.agg #[.slice qx.a x.1.length qx.c,.slice qx.b x.2.length qx.d]] w (RetPs X (hypsP kind (qby i vars 0) a b c d x) w):=by
 have h:HypI X vars va vc sn sc i sb so kind a b c d x qa qb qc qd qx D M w:=⟨hX,H,ha,hb,hc,hd,hx,ga,gb,gc,gd,gx,hv,hl,hi,hsn,hk⟩
 unfold hypsP;by_cases k6:kind=6
 · rw [if_pos k6];exact qzg X vars ra va gl nc rc vc sn sc gln glc i sb so kind a b c d x qa qb qc qd qx D M w h k6
 rw [if_neg k6];by_cases k7:kind=7
 · rw [if_pos k7];exact qxt X vars ra va gl nc rc vc sn sc gln glc i sb so kind a b c d x qa qb qc qd qx D M w h k7
 rw [if_neg k7];by_cases k8:kind=8
 · rw [if_pos k8];exact qyd X vars ra va gl nc rc vc sn sc gln glc i sb so kind a b c d x qa qb qc qd qx D M w h k8
 rw [if_neg k8];by_cases k9:kind=9
 · rw [if_pos k9];exact qx3 X vars ra va gl nc rc vc sn sc gln glc i sb so kind a b c d x qa qb qc qd qx D M w h k9
 rw [if_neg k9];by_cases k10:kind=10
 · rw [if_pos k10];exact quq X vars ra va gl nc rc vc sn sc gln glc i sb so kind a b c d x qa qb qc qd qx D M w h k10
 rw [if_neg k10];by_cases k11:kind=11
 · rw [if_pos k11];exact qwv X vars ra va gl nc rc vc sn sc gln glc i sb so kind a b c d x qa qb qc qd qx D M w h k11
 rw [if_neg k11];by_cases k12:kind=12
 · rw [if_pos k12];exact qub X vars ra va gl nc rc vc sn sc gln glc i sb so kind a b c d x qa qb qc qd qx D M w h k12
 rw [if_neg k12];by_cases k13:kind=13
 · rw [if_pos k13];exact qxf X vars ra va gl nc rc vc sn sc gln glc i sb so kind a b c d x qa qb qc qd qx D M w h k13
 rw [if_neg k13];by_cases k14:kind=14
 · rw [if_pos k14];exact qv8 X vars ra va gl nc rc vc sn sc gln glc i sb so kind a b c d x qa qb qc qd qx D M w h k14
 rw [if_neg k14];exact qyh X vars ra va gl nc rc vc sn sc gln glc i sb so kind a b c d x qa qb qc qd qx D M w h oo
def CoE (V:World) (b o:Nat) (z:VQ × Vec):Prop:=V.cell? ⟨b,o,none⟩=some (.slice z.1.a z.2.1.length z.1.c)/\V.cell? ⟨b,o+1,none⟩=some (.slice z.1.b z.2.2.length z.1.d)
def CoR (V:World) (a:Option Addr) (c:Nat) (l:List (VQ × Vec)):Prop:=SlR 2 CoE V a c l
theorem OwnCo.reads {B:Nat} {w:World} {a:Option Addr} {c:Nat} {l:List (VQ × Vec)} (h:OwnCo B w a c l):CoR w a c l:=Own.reads qbr h fun g o v _ hc=>⟨by simpa using hc 0 _ rfl,hc 1 _ rfl⟩
structure FrR (w : World) (x : Frm) (hs : List (VQ × Vec)) (ra : Option Addr) (rc : Nat) (va : Option Addr) (vc : Nat) : Prop where
 eq:hs.map Prod.snd=x.coords
 co:CoR w ra rc hs
 vr:VrR w va vc x.vars
 all:∀ z∈hs,VecX (fun _=>False) w z.1 z.2
theorem FrR.ext {w w':World} {x:Frm} {hs:List (VQ × Vec)} {ra va:Option Addr} {rc vc:Nat} (h:FrR w x hs ra rc va vc) (e:Ext w w'):FrR w' x hs ra rc va vc :=
 ⟨h.eq,SlR.mono h.co fun _ _ _ _ k=>⟨e _ _ k.1,e _ _ k.2⟩,h.vr.ext e,fun z hz=>(h.all z hz).step (Agr.ext e)⟩
theorem FrR.of {w:World} {x:Frm} {B:Nat} {hs:List (VQ × Vec)} {ra va:Option Addr} {rc vc:Nat} (h1:hs.map Prod.snd=x.coords) (h2:OwnCo B w ra rc hs) (h3:OwnVr B w va vc x.vars) (h4:AllV (fun _=>False) w hs):FrR w x hs ra rc va vc:=⟨h1,h2.reads,h3.reads,h4⟩
def zz:VQ × Vec:=(⟨none,0,none,0⟩,([],[]))
theorem zz_x {X:Nat->Prop} {w:World}:VecX X w zz.1 zz.2:=⟨PolX.nil,PolX.nil⟩
theorem zz_gv {D M:Nat}:GV D M 8 zz.2:=⟨Gr.nil,Gr.nil⟩
def pkZ (hs:List (VQ × Vec)) (args:List Int) (k j:Nat):VQ × Vec:=if j<k then hs.getD (args.getD j 0).toNat zz else zz
theorem qz8 {hs:List (VQ × Vec)} {args:List Int} {k n:Nat} {z:VQ × Vec} (ha:args[k]? = some (n:Int)) (hz:hs[n]? = some z):pkZ hs args (k+1) k=z:=by
 unfold pkZ;rw [if_pos (Nat.lt_succ_self k),List.getD_eq_getElem?_getD (l:=args),ha,Option.getD_some,Int.toNat_natCast,List.getD_eq_getElem?_getD,hz,Option.getD_some]
theorem qac8 {hs:List (VQ × Vec)} {args:List Int} {k j:Nat} (h:j≠k):pkZ hs args (k+1) j=pkZ hs args k j:=by
 unfold pkZ;by_cases h1:j<k
 · rw [if_pos h1,if_pos oo]
 · rw [if_neg h1,if_neg oo]
theorem qem {hs:List (VQ × Vec)} {args:List Int} {k j:Nat} (P:VQ × Vec->Prop) (h0:P zz) (h:∀ z∈hs,P z):P (pkZ hs args k j):=by
 unfold pkZ
 split
 ·
  rw [List.getD_eq_getElem?_getD]
  cases e:hs[(args.getD j 0).toNat]? with
  | none=>exact h0
  | some z=>exact h z (List.mem_of_getElem? e)
 · exact h0
def hypsF (x:Frm) (s:Step) (i:Nat) (hs:List (VQ × Vec)):List (List Tm) :=
 hypsP s.kind (qby i x.vars 0) (pkZ hs s.args s.args.length 0).2 (pkZ hs s.args s.args.length 1).2 (pkZ hs s.args s.args.length 2).2 (pkZ hs s.args s.args.length 3).2 (hs.getD i zz).2
theorem qwu (kind:Int) (n:Nat) (a b c d x:Vec):(hypsP kind n a b c d x).length<=2:=by
 unfold hypsP qep qht
 repeat (first | (split <;> try simp) | simp)
theorem qr7 (steps:List Step) (ng:Nat) (x:Frm) (hs:List (VQ × Vec)) (sa ga ra va:Option Addr) (sc gc rc vc i:Nat) (s:Step) (D M:Nat) (w:World) (hS:qbi w sa sc steps) (hF:FrR w x hs ra rc va vc) (hlen:hs.length=steps.length) (hsi:steps[i]? = some s) (hin:qiy s i) (hal:s.args.length<=4)
  (H:GB D M) (hG:∀ v∈x.coords,GV D M 8 v) (hvl:x.vars.length<=1000) :
  Calls Tryz.prog 58 #[.agg #[.slice sa steps.length sc,.slice ga ng gc],.agg #[.slice ra hs.length rc,.slice va x.vars.length vc],.int .i64 i] w fun e w'=>∃ a c,e=.returned (.tuple #[.slice a (hypsF x s i hs).length c,.int .i64 0])/\PsX (fun _=>False) w' a c (hypsF x s i hs)/\Below w.heap.size w w':=by
 have hlt:i<steps.length:=qai hsi;have hlh:i<hs.length:=oo
 obtain ⟨zi,hzi⟩:=qab hlh;have hGz:∀ z∈hs,GV D M 8 z.2:=fun z hz=>hG z.2 (by rw [<- hF.eq];exact List.mem_map_of_mem hz)
 have ezi:hs.getD i zz=zi:=by rw [List.getD_eq_getElem?_getD,hzi,Option.getD_some]
 have lS:=SlR.len hS;obtain ⟨b,o,rfl,p,hC,hP,hki,hsz⟩:=hS.2.2 i s hsi;obtain ⟨c0,c1,c2,c3,c4,c5⟩:=hC;have scap:=hS.1;have scap2:=hS.2.1;have lC:=SlR.len hF.co;obtain ⟨rb,ro,rfl,y0,y1⟩:=hF.co.2.2 i zi hzi;have CE:=fun W (hW:bw w W)=>qoo (fun _=>False) x.vars (some ⟨rb,ro,none⟩) va ga hs.length rc vc steps.length sc ng gc i b o s.kind (pkZ hs s.args s.args.length 0).2 (pkZ hs s.args s.args.length 1).2 (pkZ hs s.args s.args.length 2).2 (pkZ hs s.args s.args.length 3).2 zi.2 (pkZ hs s.args s.args.length 0).1 (pkZ hs s.args s.args.length 1).1 (pkZ hs s.args s.args.length 2).1 (pkZ hs s.args s.args.length 3).1 zi.1 D M W (fun b hb=>hb.elim) H
  (qem (fun z=>VecX (fun _=>False) W z.1 z.2) zz_x fun z hz=>(hF.all z hz).step (Agr.below hW)) (qem (fun z=>VecX (fun _=>False) W z.1 z.2) zz_x fun z hz=>(hF.all z hz).step (Agr.below hW)) (qem (fun z=>VecX (fun _=>False) W z.1 z.2) zz_x fun z hz=>(hF.all z hz).step (Agr.below hW)) (qem (fun z=>VecX (fun _=>False) W z.1 z.2) zz_x fun z hz=>(hF.all z hz).step (Agr.below hW)) ((hF.all zi (List.mem_of_getElem? hzi)).step (Agr.below hW))
  (qem (fun z=>GV D M 8 z.2) zz_gv hGz) (qem (fun z=>GV D M 8 z.2) zz_gv hGz) (qem (fun z=>GV D M 8 z.2) zz_gv hGz) (qem (fun z=>GV D M 8 z.2) zz_gv hGz) (hGz zi (List.mem_of_getElem? hzi)) (hF.vr.ext (xbw hW)) hvl hlt ⟨scap,scap2⟩ (by have:=held c0 W hW;simpa using this)
 have hrow:=fun W (hW:bw w W) (n:Nat) z (h:hs[n]? = some z)=>(hF.co.2.2 n z h)
 unfold RetPs at CE;unfold hypsF;rw [ezi];revert CE;generalize hypsP s.kind (qby i x.vars 0) (pkZ hs s.args s.args.length 0).2 (pkZ hs s.args s.args.length 1).2 (pkZ hs s.args s.args.length 2).2 (pkZ hs s.args s.args.length 3).2 zi.2=ps;intro CE;have hCO:=Hd hF.co;have hA:=Hd hP.1;have hin4:=hin.2.2.2.1;have hlA:=hP.1.len;replace hlen:=Hd hlen;replace CE:=Hd CE;replace hin4:=Hd hin4;replace hsi:=Hd hsi;replace hzi:=Hd hzi;clear hrow hGz ezi hP hki hsz hS hF H hG hin c1 c3 c4 c5;have hil:(i:Int)<(steps.length:Int):=oo
 have qd1:decide (steps.length<=i)=false:=decide_eq_false oo;have qd2:decide (hs.length<=i)=false:=decide_eq_false (by have:=hlen.out;omega);have qd3:decide ((i:Int)<0)=false:=decide_eq_false oo;have hih:(i:Int)<(hs.length:Int):=oo
 have d2:=held c2;have e0:=held y0;have e1:=held y1;have hbl:b<w.heap.size:=World.block_lt_of_cell? w _ c2;have hrl:rb<w.heap.size:=World.block_lt_of_cell? w _ y0;clear c2 y0 y1 c0;go_enter Tryz.func58,Tryz.ntmps58;go_wp2
 refine qaa (fun W=>Blk W w.heap.size 25 #[.slice (some ⟨b,o,none⟩) steps.length sc,.slice ga ng gc]/\Blk W (w.heap.size+1) 37 #[.slice (some ⟨rb,ro,none⟩) hs.length rc,.slice va x.vars.length vc]/\Blk W (w.heap.size+1+1) 153 #[.slice none 0 0,.slice none 0 0,.slice none 0 0,.slice none 0 0,.slice none 0 0,.slice none 0 0,.slice none 0 0,.slice none 0 0]/\Below w.heap.size w W) ⟨bk,bk,bk,zg⟩ ?_;rintro w0 ⟨BG,BF,BP,hw0⟩;obtain ⟨gG,hgG⟩:=nm w.heap.size
 obtain ⟨gF,hgF⟩:=nm (w.heap.size+1)
 obtain ⟨gP,hgP⟩:=nm (w.heap.size+1+1)
 rw [hgP] at BP;rw [hgF] at BF;have BG':Blk w0 gG 25 #[.slice (some ⟨b,o,none⟩) steps.length sc,.slice ga ng gc]:=hgG ▸ BG;simp only [hgP];simp only [hgF];simp only [hgG];have hn1:gG≠gP:=oo
 have hn2:gF≠gP:=oo
 have hgPw:w.heap.size<=gP:=oo
 replace hgG:=Hd hgG;replace hgF:=Hd hgF;replace hgP:=Hd hgP;clear BG
 go_loopg [9] s.args.length (fun m q wr=>∃ (k:Nat) (u0 u1 u2 u3:VQ × Vec),Hid (k+m=s.args.length)/\q=.int .i64 k/\Hid (u0=pkZ hs s.args k 0/\u1=pkZ hs s.args k 1/\u2=pkZ hs s.args k 2/\u3=pkZ hs s.args k 3)/\Blk wr gG 25 #[.slice (some ⟨b,o,none⟩) steps.length sc,.slice ga ng gc]/\Blk wr gF 37 #[.slice (some ⟨rb,ro,none⟩) hs.length rc,.slice va x.vars.length vc]/\Blk wr gP 153 #[.slice u0.1.a u0.2.1.length u0.1.c,.slice u0.1.b u0.2.2.length u0.1.d,.slice u1.1.a u1.2.1.length u1.1.c,.slice u1.1.b u1.2.2.length u1.1.d,.slice u2.1.a u2.2.1.length u2.1.c,.slice u2.1.b u2.2.2.length u2.1.d,.slice u3.1.a u3.2.1.length u3.1.c,.slice u3.1.b u3.2.2.length u3.1.d]/\Hid (Below w.heap.size w wr))
 case atStart=>exact ⟨0,zz,zz,zz,zz,by show _=_;omega,rfl,⟨rfl,rfl,rfl,rfl⟩,BG',BF,BP,hw0⟩
 case round =>
  clear BG' BF BP hw0;obtain ⟨k,u0,u1,u2,u3,hm,rfl,hu,BG,BF,BP,hwr⟩:=hrel;have z0:=BG.cell 0;obtain ⟨f0,f1⟩:=cq2 BF;have x2:=d2 wr hwr.out;have v0:=e0 wr hwr.out;have v1:=e1 wr hwr.out;have lG:=BG.lt;have lF:=BF.lt;have lP:=BP.lt;by_cases hlk:k<s.args.length
  ·
   obtain ⟨a0,ha0⟩:=qab hlk;obtain ⟨hx0,hx1⟩:=hin4.out a0 (List.mem_of_getElem? ha0);obtain ⟨n,rfl⟩:∃ n:Nat,a0=(n:Int):=⟨a0.toNat,oo⟩
   obtain ⟨ab,ao,hab,hc⟩:=hA.out.2.2 k _ ha0;obtain ⟨z,hz⟩:=qab (xs:=hs) (k:=n) (by have:=hlen.out;omega);obtain ⟨rb',ro',hrb,t0,t1⟩:=hCO.out.2.2 n z hz;injection hrb with hrb;injection hrb with q1 q2
   subst q1 q2;have y2:=held hc.1 wr hwr.out;have y3:=held t0 wr hwr.out;have y4:=held t1 wr hwr.out;simp only [Nat.mul_one] at y2;rw [hab] at x2;have hkI:(k:Int)<(s.args.length:Int):=oo
   have hk4:(k:Int)<4:=oo
   have hnI:(n:Int)<(hs.length:Int):=by have:=hlen.out;omega
   have hpk:=qz8 ha0 hz;have hpn:=fun j (h:j≠k)=>qac8 (hs:=hs) (args:=s.args) h
   have hk:k=0\/k=1\/k=2\/k=3:=oo
   have hwr2:=hwr;replace ha0:=Hd ha0;replace hz:=Hd hz;replace hpk:=Hd hpk;replace hpn:=Hd hpn;clear hc t0 t1 hx0 hx1 v0 v1;rcases hk with rfl | rfl | rfl | rfl
   ·
    have s0:Below wr.heap.size wr wr.drew:=brf.drew;obtain ⟨w0',w1'⟩:=cq2 BP;obtain ⟨w2',w3'⟩:=fq2 BP
    try simp only [Nat.zero_mul,Nat.zero_add,Nat.add_zero,Nat.one_mul] at y2
    go_wp2;refine wrx (S:=(fun x=>x=wr.drew)) [(0,.q),(1,.q),(2,.q),(3,.q),(4,.q),(5,.q),(6,.q),(7,.q),(8,.q),(9,.q),(10,.q),(11,.q),(12,.q),(13,.q),(14,.p),(15,.t)] (rfl) ?_
    iterate 14 (refine qaf rfl rfl fun K hK=>xq ?_;go_simp;refine hK _ _ ?_;clear hK K)
    refine qaj rfl rfl fun K hK=>xp ?_;go_simp;refine hK _ _ ?_;clear hK K
    refine vt fun K hK=>?_
    go_simp;refine hK.out _ _ ?_;clear hK K;refine qad ?_
    refine qaa (fun W=>Blk W gG 25 #[.slice (some ⟨b,o,none⟩) steps.length sc,.slice ga ng gc]/\Blk W gF 37 #[.slice (some ⟨rb,ro,none⟩) hs.length rc,.slice va x.vars.length vc]/\Blk W gP 153 #[.slice z.1.a z.2.1.length z.1.c,.slice z.1.b z.2.2.length z.1.d,.slice u1.1.a u1.2.1.length u1.1.c,.slice u1.1.b u1.2.2.length u1.1.d,.slice u2.1.a u2.2.1.length u2.1.c,.slice u2.1.b u2.2.2.length u2.1.d,.slice u3.1.a u3.2.1.length u3.1.c,.slice u3.1.b u3.2.2.length u3.1.d]/\Below w.heap.size w W) ⟨bk,bk,bk,by have:=hwr2.out;go_grown⟩ ?_
    rintro wn ⟨BG2,BF2,BP2,hwn⟩;clear z0 f0 f1 x2 BG BF BP lG lF lP w0' w1' w2' w3';go_wp2;go_roundg (gk-1)
    case rel=>exact ⟨1,z,u1,u2,u3,by have:=hm.out;show _=_;omega,by go_num,⟨hpk.out.symm,by rw [hpn.out 1 oo];exact hu.out.2.1,by rw [hpn.out 2 oo];exact hu.out.2.2.1,by rw [hpn.out 3 oo];exact hu.out.2.2.2⟩,BG2,BF2,BP2,hwn⟩
    case measure=>have:=hm.out;omega
   ·
    have s0:Below wr.heap.size wr wr.drew:=brf.drew;have w0':=BP.cell 2;have w1':=BP.cell 3;have w2':=BP.frozen 2;have w3':=BP.frozen 3
    try simp only [Nat.zero_mul,Nat.zero_add,Nat.add_zero,Nat.one_mul] at y2
    go_wp2;refine wrx (S:=(fun x=>x=wr.drew)) [(0,.q),(1,.q),(2,.q),(3,.q),(4,.q),(5,.q),(6,.q),(7,.q),(8,.q),(9,.q),(10,.q),(11,.q),(12,.q),(13,.q),(14,.p),(15,.t)] (rfl) ?_
    iterate 14 (refine qaf rfl rfl fun K hK=>xq ?_;go_simp;refine hK _ _ ?_;clear hK K)
    refine qaj rfl rfl fun K hK=>xp ?_;go_simp;refine hK _ _ ?_;clear hK K
    refine vt fun K hK=>?_
    go_simp;refine hK.out _ _ ?_;clear hK K;refine qad ?_
    refine qaa (fun W=>Blk W gG 25 #[.slice (some ⟨b,o,none⟩) steps.length sc,.slice ga ng gc]/\Blk W gF 37 #[.slice (some ⟨rb,ro,none⟩) hs.length rc,.slice va x.vars.length vc]/\Blk W gP 153 #[.slice u0.1.a u0.2.1.length u0.1.c,.slice u0.1.b u0.2.2.length u0.1.d,.slice z.1.a z.2.1.length z.1.c,.slice z.1.b z.2.2.length z.1.d,.slice u2.1.a u2.2.1.length u2.1.c,.slice u2.1.b u2.2.2.length u2.1.d,.slice u3.1.a u3.2.1.length u3.1.c,.slice u3.1.b u3.2.2.length u3.1.d]/\Below w.heap.size w W) ⟨bk,bk,bk,by have:=hwr2.out;go_grown⟩ ?_
    rintro wn ⟨BG2,BF2,BP2,hwn⟩;clear z0 f0 f1 x2 BG BF BP lG lF lP w0' w1' w2' w3';go_wp2;go_roundg (gk-1)
    case rel=>exact ⟨2,u0,z,u2,u3,by have:=hm.out;show _=_;omega,by go_num,⟨by rw [hpn.out 0 oo];exact hu.out.1,hpk.out.symm,by rw [hpn.out 2 oo];exact hu.out.2.2.1,by rw [hpn.out 3 oo];exact hu.out.2.2.2⟩,BG2,BF2,BP2,hwn⟩
    case measure=>have:=hm.out;omega
   ·
    have s0:Below wr.heap.size wr wr.drew:=brf.drew;have w0':=BP.cell 4;have w1':=BP.cell 5;have w2':=BP.frozen 4;have w3':=BP.frozen 5
    try simp only [Nat.zero_mul,Nat.zero_add,Nat.add_zero,Nat.one_mul] at y2
    go_wp2;refine wrx (S:=(fun x=>x=wr.drew)) [(0,.q),(1,.q),(2,.q),(3,.q),(4,.q),(5,.q),(6,.q),(7,.q),(8,.q),(9,.q),(10,.q),(11,.q),(12,.q),(13,.q),(14,.p),(15,.t)] (rfl) ?_
    iterate 14 (refine qaf rfl rfl fun K hK=>xq ?_;go_simp;refine hK _ _ ?_;clear hK K)
    refine qaj rfl rfl fun K hK=>xp ?_;go_simp;refine hK _ _ ?_;clear hK K
    refine vt fun K hK=>?_
    go_simp;refine hK.out _ _ ?_;clear hK K;refine qad ?_
    refine qaa (fun W=>Blk W gG 25 #[.slice (some ⟨b,o,none⟩) steps.length sc,.slice ga ng gc]/\Blk W gF 37 #[.slice (some ⟨rb,ro,none⟩) hs.length rc,.slice va x.vars.length vc]/\Blk W gP 153 #[.slice u0.1.a u0.2.1.length u0.1.c,.slice u0.1.b u0.2.2.length u0.1.d,.slice u1.1.a u1.2.1.length u1.1.c,.slice u1.1.b u1.2.2.length u1.1.d,.slice z.1.a z.2.1.length z.1.c,.slice z.1.b z.2.2.length z.1.d,.slice u3.1.a u3.2.1.length u3.1.c,.slice u3.1.b u3.2.2.length u3.1.d]/\Below w.heap.size w W) ⟨bk,bk,bk,by have:=hwr2.out;go_grown⟩ ?_
    rintro wn ⟨BG2,BF2,BP2,hwn⟩;clear z0 f0 f1 x2 BG BF BP lG lF lP w0' w1' w2' w3';go_wp2;go_roundg (gk-1)
    case rel=>exact ⟨3,u0,u1,z,u3,by have:=hm.out;show _=_;omega,by go_num,⟨by rw [hpn.out 0 oo];exact hu.out.1,by rw [hpn.out 1 oo];exact hu.out.2.1,hpk.out.symm,by rw [hpn.out 3 oo];exact hu.out.2.2.2⟩,BG2,BF2,BP2,hwn⟩
    case measure=>have:=hm.out;omega
   ·
    have s0:Below wr.heap.size wr wr.drew:=brf.drew;have w0':=BP.cell 6;have w1':=BP.cell 7;have w2':=BP.frozen 6;have w3':=BP.frozen 7
    try simp only [Nat.zero_mul,Nat.zero_add,Nat.add_zero,Nat.one_mul] at y2
    go_wp2;refine wrx (S:=(fun x=>x=wr.drew)) [(0,.q),(1,.q),(2,.q),(3,.q),(4,.q),(5,.q),(6,.q),(7,.q),(8,.q),(9,.q),(10,.q),(11,.q),(12,.q),(13,.q),(14,.p),(15,.t)] (rfl) ?_
    iterate 14 (refine qaf rfl rfl fun K hK=>xq ?_;go_simp;refine hK _ _ ?_;clear hK K)
    refine qaj rfl rfl fun K hK=>xp ?_;go_simp;refine hK _ _ ?_;clear hK K
    refine vt fun K hK=>?_
    go_simp;refine hK.out _ _ ?_;clear hK K;refine qad ?_
    refine qaa (fun W=>Blk W gG 25 #[.slice (some ⟨b,o,none⟩) steps.length sc,.slice ga ng gc]/\Blk W gF 37 #[.slice (some ⟨rb,ro,none⟩) hs.length rc,.slice va x.vars.length vc]/\Blk W gP 153 #[.slice u0.1.a u0.2.1.length u0.1.c,.slice u0.1.b u0.2.2.length u0.1.d,.slice u1.1.a u1.2.1.length u1.1.c,.slice u1.1.b u1.2.2.length u1.1.d,.slice u2.1.a u2.2.1.length u2.1.c,.slice u2.1.b u2.2.2.length u2.1.d,.slice z.1.a z.2.1.length z.1.c,.slice z.1.b z.2.2.length z.1.d]/\Below w.heap.size w W) ⟨bk,bk,bk,by have:=hwr2.out;go_grown⟩ ?_
    rintro wn ⟨BG2,BF2,BP2,hwn⟩;clear z0 f0 f1 x2 BG BF BP lG lF lP w0' w1' w2' w3';go_wp2;go_roundg (gk-1)
    case rel=>exact ⟨4,u0,u1,u2,z,by have:=hm.out;show _=_;omega,by go_num,⟨by rw [hpn.out 0 oo];exact hu.out.1,by rw [hpn.out 1 oo];exact hu.out.2.1,by rw [hpn.out 2 oo];exact hu.out.2.2.1,hpk.out.symm⟩,BG2,BF2,BP2,hwn⟩
    case measure=>have:=hm.out;omega
  ·
   have hkn:k=s.args.length:=by have:=hm.out;omega
   have z1:=BG.cell 1;have p0:=BP.cell 0;have p1:=BP.cell 1;have p2:=BP.cell 2;have p3:=BP.cell 3;have p4:=BP.cell 4;have p5:=BP.cell 5;have p6:=BP.cell 6;have p7:=BP.cell 7;obtain ⟨h0,h1,h2,h3⟩:=hu.out;have CE2:=CE.out;rw [<- hkn,<- h0,<- h1,<- h2,<- h3] at CE2;replace CE2:=Hd CE2;have hkI:¬ (k:Int)<(s.args.length:Int):=oo
   have s0:Below wr.heap.size wr wr.drew:=brf.drew;replace hkn:=Hd hkn;clear hu h0 h1 h2 h3 CE hm;go_wp2;refine wrx (S:=(fun x=>x=wr.drew)) [(0,.q),(1,.q),(2,.q),(3,.q),(4,.q),(5,.q),(6,.q),(7,.q),(8,.q),(9,.q),(10,.q),(11,.q),(12,.q),(13,.q),(14,.q),(15,.q),(16,.t),(17,.p),(18,.p)] (rfl) ?_
   iterate 16 (refine qaf rfl rfl fun K hK=>xq ?_;go_simp;refine hK _ _ ?_;clear hK K)
   refine vt fun K hK=>?_
   go_simp;refine (CE2.out wr.drew (bth hwr.out s0)).mono ?_;rintro r w1 ⟨a1,c1,rfl,hP1,hb1⟩;dsimp only;refine hK.out _ _ ?_;clear hK K
   iterate 2 (refine qaj rfl rfl fun K hK=>xp ?_;go_simp;refine hK _ _ ?_;clear hK K)
   refine qad ?_;have hwF:=bth hwr.out (bth s0 hb1);clear p0 p1 p2 p3 p4 p5 p6 p7 z0 z1 f0 f1 x2 v0 v1 hb1;replace hP1:=Hd hP1;go_wp2;refine bodyPost_ret (v:=.tuple #[.slice a1 ps.length c1,.int .i64 0]) (by simp [results,Tryz.results58,go_sem]) rfl ?_;exact ⟨a1,c1,rfl,hP1.out,hwF⟩
end Go.Proofs.YtmdlbpibipnapaaGreat
