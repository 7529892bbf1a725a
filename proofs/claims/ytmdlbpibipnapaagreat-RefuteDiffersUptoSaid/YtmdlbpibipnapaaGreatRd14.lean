/- Walks: a step along a new variable, a step by a difference (the program's coordinates). -/
import Derived.Test.YtmdlbpibipnapaaGreatRd13
import Derived.Test.YtmdlbpibipnapaaGreatRd2
import Derived.Laws.EntriesVeiled
import Derived.Test.YtmdlbpibipnapaaGreatRd1
set_option linter.all false
set_option maxRecDepth 100000
set_option maxHeartbeats 4000000
namespace Go.Proofs.YtmdlbpibipnapaaGreat
open Go.RowKit
theorem at_v (X:Nat->Prop) (gB e s B:Nat) (hs:List (VQ × Vec)) (ra aa:Option Addr) (rc ac:Nat) (args:List Int) (k j:Nat) (q:VQ) (v:Vec) (w:World) (h1:w.cell? ⟨e,0,none⟩=some (.pointer (some ⟨gB,0,none⟩))) (h2:w.cell? ⟨gB,0,none⟩=some (.slice ra hs.length rc))
  (h3:w.cell? ⟨s,2,none⟩=some (.slice aa args.length ac)) (h4:IntsR w aa ac args) (h5:OwnCo B w ra rc hs) (hi:args[k]? = some (j:Int)) (hj:hs[j]? = some (q,v)) (hv:VecX X w q v) (hl:hs.length<=1000000) :
  Calls Tryz.prog 111 #[.int .i64 k,.pointer (some ⟨e,0,none⟩),.pointer (some ⟨s,0,none⟩)] w (qfj X v w):=by
 have hjl:j<hs.length:=qai hj;have hil:k<args.length:=qai hi;have hl2:=h4.len;obtain ⟨g2,o2,rfl,hcx⟩:=h4.2.2 k _ hi;have u0:w.cell? ⟨g2,o2+k,none⟩=some (.int .i64 j):=by simpa [IntE] using hcx.1
 obtain ⟨g,rfl,_,_,hc⟩:=h5.at_ qbr hj;have d0:=held (show w.cell? ⟨g,j*2,none⟩=some (.slice q.a v.1.length q.c) from hc 0 _ rfl);have d1:=held (show w.cell? ⟨g,j*2+1,none⟩=some (.slice q.b v.2.length q.d) from hc 1 _ rfl);replace h1:=held h1;replace h2:=held h2;replace h3:=held h3;replace u0:=held u0;have HV:=Hd hv;clear hc hcx h4 h5 hi hj hv;go_enter Tryz.func111,Tryz.ntmps111;go_wp2;refine qaa (fun W=>Blk W w.heap.size 120 #[.slice none 0 0,.slice none 0 0]/\Below w.heap.size w W) ⟨bk,zg⟩ ?_;rintro w0 ⟨h0,hw0⟩;have s0:Below w.heap.size w w0.drew:=hw0.drew;have hz:=h0.drew;obtain ⟨v0,hv0⟩:=nm w0.drew
 refine wrx (S:=Below w.heap.size w) [(0,.q),(1,.q),(2,.q),(3,.q),(4,.q),(5,.q),(6,.q),(7,.q),(8,.q),(9,.q),(10,.q),(11,.q),(12,.t)] (s0) ?_;rw [hv0] at s0 hz ⊢
 iterate 12 (refine qaf rfl rfl fun K hK=>xq ?_;go_simp;refine hK _ _ ?_;clear hK K)
 clear d0 d1 h1 h2 h3 u0;have y0:=hz.cell 0;have f0:=hz.frozen 0;have y1:=hz.cell 1;have f1:=hz.frozen 1;refine vt fun K hK=>?_
 go_simp;refine hK.out _ _ ?_;clear hK K;refine qad ?_;go_wp2;refine qaa (fun W=>Blk W w.heap.size 120 #[.slice q.a v.1.length q.c,.slice q.b v.2.length q.d]/\Below w.heap.size w W) ⟨bk,zg⟩ ?_;rintro wF ⟨hF,hwF⟩;obtain ⟨e0,e1⟩:=cq2 hF;refine bodyPost_ret (v:=.agg #[.slice q.a v.1.length q.c,.slice q.b v.2.length q.d]) (by simp [results,Tryz.results111,go_sem,e0,e1]) rfl ?_;exact ⟨q,rfl,HV.out.call hwF,hwF⟩
def AtC (X:Nat->Prop) (w:World) (e s k:Nat) (v:Vec):Prop:=∀ (Y:Nat->Prop) W,(∀ b,Y b->X b\/w.heap.size<=b)->(∀ b,Y b->b<W.heap.size)->Below w.heap.size w W ->
 Calls Tryz.prog 111 #[.int .i64 k,.pointer (some ⟨e,0,none⟩),.pointer (some ⟨s,0,none⟩)] W (qfj Y v W)
def OpC (X:Nat->Prop) (w:World) (fn:Nat) (caps:Array Value) (p r:List Tm):Prop:=∀ (Y:Nat->Prop) W a c,(∀ b,Y b->X b\/w.heap.size<=b)->(∀ b,Y b->b<W.heap.size)->Below w.heap.size w W->PolX Y W a c p ->
 Calls Tryz.prog fn (#[.slice a p.length c]++caps) W (RetP Y r W)
theorem qxv (X:Nat->Prop) (p:List Tm) (x:QA) (q:Rat) (a:Option Addr) (ca s:Nat) (w:World) (hX:∀ b,X b->b<w.heap.size) (hp:PolX X w a ca p) (fp:FineP p) (c3:w.cell? ⟨s,3,none⟩=some (.bool x.neg)) (c4:w.cell? ⟨s,4,none⟩=some (.slice x.a x.n x.c)) (c5:w.cell? ⟨s,5,none⟩=some (.slice x.b x.m x.d))
  (hx:Rd X w fun V=>QAc V x q) (hq:qsz q<=1000) :
  Calls Tryz.prog 118 #[.slice a p.length ca,.pointer (some ⟨s,0,none⟩)] w (RetP X (qau p q) w):=by
 have HC:=Hd (qpu X p x q a ca w hX hp fp hx hq);clear hX hp fp hx hq;go_enter Tryz.func118,Tryz.ntmps118;go_wp2_with fail;refine HC.out.mono ?_;rintro r w1 ⟨b,cb,rfl,hP,hb⟩;clear c3 c4 c5;replace hP:=Hd hP;go_wp2;go_ret;exact ⟨b,cb,rfl,hP.out,hb⟩
theorem qad2 (X:Nat->Prop) (p q:List Tm) (B B':Int) (a b:Option Addr) (ca cb g:Nat) (w:World) (hX:∀ b,X b->b<w.heap.size) (hp:PolX X w a ca p) (hq:PolX X w b cb q) (fp:FineP p) (fq:FineP q) (hl:q.length<=1) (kp:Pok B p) (kq:Pok B' q) (hB:0<=B) (hB':0<=B')
  (c0:w.cell? ⟨g,0,none⟩=some (.slice b q.length cb)) :
  Calls Tryz.prog 122 #[.slice a p.length ca,.pointer (some ⟨g,0,none⟩)] w (RetP X (mulP p q) w):=by
 have HC:=Hd (qad6 X p q B B' a b ca cb w hX hp hq fp fq hl kp kq hB hB');clear hX hp hq fp fq kp kq hB hB' hl;go_enter Tryz.func122,Tryz.ntmps122;go_wp2_with fail;refine HC.out.mono ?_;rintro r w1 ⟨b,cb,rfl,hP,hb⟩;clear c0;replace hP:=Hd hP;go_wp2;go_ret;exact ⟨b,cb,rfl,hP.out,hb⟩
theorem zz40 {P:Prop} (h:P:=by
 have y0:=hC.cell 0;have f0:=hC.frozen 0;have y1:=hC.cell 1;have f1:=hC.frozen 1;have hgl:=Hd hC.lt;refine qhy rfl rfl (fun K hK=>?_);go_simp;refine hK.out _ _ ?_;clear hK K;refine qdu ?_;refine ⟨rfl,z,gC,_,_,_,_,_,rfl,(s4.setCell hgC.out _).setCell hgC.out _,bk,?_⟩;exact (qa8 (qa8 P.out (.inr rfl)) (.inr rfl)).less fun b hb=>.inl hb
 ):P:=h
theorem zz39 {P:Prop} (h:P:=by
 refine qa7 rfl rfl (fun K hK=>?_);go_simp;refine (CB.out (Xg (Xg X g3) gC) t1 t2 v3 (fun b hb=>hb.elim (fun h=>ltl (hY2.out b h) (s3).size) fun e=>by rw [e];exact hC.lt) V1.out V2.out).mono ?_;rintro r v4 ⟨z,rfl,P,hb⟩;dsimp only;have s4:=bth s3 hb;refine hK.out _ _ s4 (fun _=>?_);clear hK K;replace hC:=hC.below' hb;clear V1 V2;replace P:=Hd P;clear hb;exact zz40
 ):P:=h
theorem zz41 {P:Prop} (h:P:=by
 refine qa7 rfl rfl (fun K hK=>?_);go_simp;refine (A1.out (Xg (Xg X g3) gC) v2 (fun b hb=>hb.elim (hY1.out b) fun e=>.inr (by have:=hgC.out;have:=hw0.size;rw [e];omega)) (fun b hb=>hb.elim (fun h=>ltl (hY2.out b h) (s2).size) fun e=>by rw [e];exact hC.lt) (bth hw0 s2)).mono ?_;rintro r v3 ⟨t2,rfl,V2,hb⟩;dsimp only;have s3:=bth s2 hb;refine hK.out _ _ s3 (fun _=>?_);clear hK K;replace hC:=hC.below' hb;replace V1:=Hd (V1.out.call hb);replace V2:=Hd V2;clear hb;exact zz39
 ):P:=h
theorem zz37 {P:Prop} (h:P:=by
 obtain ⟨v0,hv0⟩:=nm w0.drew
 refine qdb (S:=Below w0.heap.size w0) (.q 0 (.q 2 (.two 1 (.two 3 (.two 4 (.l 5 (.t 6 .nil)) 5 (.l 4 (.t 6 .nil))) 5 (.l 3 (.l 4 (.t 6 .nil)))) 5 (.l 1 (.l 3 (.l 4 (.t 6 .nil))))))) [6] (by kernel_rfl) (by kernel_rfl) (by kernel_rfl) (fun d _ _ _ _ h=>by cases h.1) s0 ?_;rw [hv0] at s0 ⊢
 iterate 2 (refine qgq rfl rfl fun K hK=>xq ?_;go_simp;refine hK _ _ ?_;clear hK K)
 refine qdh ?_ ?_
 ·
  skip
  refine qa7 rfl rfl (fun K hK=>?_);go_simp;refine (A0.out (Xg X g3) v0 hY1.out (fun b hb=>ltl (hY2.out b hb) (s0).size) (bth hw0 s0)).mono ?_;rintro r v1 ⟨t1,rfl,V1,hb⟩;dsimp only;have s1:=bth s0 hb;refine hK.out _ _ s1 (fun _=>?_);clear hK K;replace V1:=Hd V1;clear hb;refine qdh ?_ ?_
  ·
   skip
   refine qa7 rfl rfl (fun K hK=>?_);go_simp;refine (A1.out (Xg X g3) v1 hY1.out (fun b hb=>ltl (hY2.out b hb) (s1).size) (bth hw0 s1)).mono ?_;rintro r v2 ⟨t2,rfl,V2,hb⟩;dsimp only;have s2:=bth s1 hb;refine hK.out _ _ s2 (fun _=>?_);clear hK K;replace V1:=Hd (V1.out.call hb);replace V2:=Hd V2;clear hb;refine qdh ?_ ?_
   ·
    skip
    refine qa7 rfl rfl (fun K hK=>?_);go_simp;refine (CB.out (Xg X g3) t1 t2 v2 (fun b hb=>ltl (hY2.out b hb) (s2).size) V1.out V2.out).mono ?_;rintro r v3 ⟨z,rfl,P,hb⟩;dsimp only;have s3:=bth s2 hb;refine hK.out _ _ s3 (fun _=>?_);clear hK K;clear V1 V2;replace P:=Hd P;clear hb;refine qa7 rfl rfl (fun K hK=>?_);go_simp;refine hK.out _ _ (s3.alloc s3.size _) (fun _=>?_);clear hK K;refine qaa (fun W=>Blk W v3.heap.size 135 #[.slice none 0 0,.slice none 0 0]/\Below w0.heap.size w0 W/\VecX (Xg (Xg X g3) v3.heap.size) W z d) ⟨bk,s3.alloc s3.size _,(P.out.more (qcy (nlr _))).call (brf.alloc (nlr _) _)⟩ ?_;rintro v4 ⟨hC,s4,P⟩;have hgC:=Hd (show w0.heap.size<=v3.heap.size from s3.size);obtain ⟨gC,egC⟩:=nm v3.heap.size
    rw [egC] at hC hgC P ⊢;replace egC:=Hd egC;replace P:=Hd P;exact zz40
   ·
    skip
    refine qa7 rfl rfl (fun K hK=>?_);go_simp;refine hK.out _ _ (s2.alloc s2.size _) (fun _=>?_);clear hK K;refine qaa (fun W=>Blk W v2.heap.size 135 #[.slice none 0 0,.slice none 0 0]/\Below w0.heap.size w0 W/\VecX (Xg (Xg X g3) v2.heap.size) W t1 a/\VecX (Xg (Xg X g3) v2.heap.size) W t2 b) ⟨bk,s2.alloc s2.size _,(V1.out.more (qcy (nlr _))).call (brf.alloc (nlr _) _),(V2.out.more (qcy (nlr _))).call (brf.alloc (nlr _) _)⟩ ?_;rintro v3 ⟨hC,s3,V1,V2⟩;have hgC:=Hd (show w0.heap.size<=v2.heap.size from s2.size);obtain ⟨gC,egC⟩:=nm v2.heap.size
    rw [egC] at hC hgC V1 V2 ⊢;replace egC:=Hd egC;replace V1:=Hd V1;replace V2:=Hd V2;exact zz39
  ·
   skip
   refine qa7 rfl rfl (fun K hK=>?_);go_simp;refine hK.out _ _ (s1.alloc s1.size _) (fun _=>?_);clear hK K;refine qaa (fun W=>Blk W v1.heap.size 135 #[.slice none 0 0,.slice none 0 0]/\Below w0.heap.size w0 W/\VecX (Xg (Xg X g3) v1.heap.size) W t1 a) ⟨bk,s1.alloc s1.size _,(V1.out.more (qcy (nlr _))).call (brf.alloc (nlr _) _)⟩ ?_;rintro v2 ⟨hC,s2,V1⟩;have hgC:=Hd (show w0.heap.size<=v1.heap.size from s1.size);obtain ⟨gC,egC⟩:=nm v1.heap.size
   rw [egC] at hC hgC V1 ⊢;replace egC:=Hd egC;replace V1:=Hd V1;exact zz41
 ·
  skip
  refine qa7 rfl rfl (fun K hK=>?_);go_simp;refine hK.out _ _ (s0.alloc s0.size _) (fun _=>?_);clear hK K;refine qaa (fun W=>Blk W v0.heap.size 135 #[.slice none 0 0,.slice none 0 0]/\Below w0.heap.size w0 W) ⟨bk,s0.alloc s0.size _⟩ ?_;rintro v1 ⟨hC,s1⟩;have hgC:=Hd (show w0.heap.size<=v0.heap.size from s0.size);obtain ⟨gC,egC⟩:=nm v0.heap.size
  rw [egC] at hC hgC ⊢;replace egC:=Hd egC;refine qa7 rfl rfl (fun K hK=>?_);go_simp;refine (A0.out (Xg (Xg X g3) gC) v1 (fun b hb=>hb.elim (hY1.out b) fun e=>.inr (by have:=hgC.out;have:=hw0.size;rw [e];omega)) (fun b hb=>hb.elim (fun h=>ltl (hY2.out b h) (s1).size) fun e=>by rw [e];exact hC.lt) (bth hw0 s1)).mono ?_;rintro r v2 ⟨t1,rfl,V1,hb⟩;dsimp only;have s2:=bth s1 hb;refine hK.out _ _ s2 (fun _=>?_);clear hK K;replace hC:=hC.below' hb;replace V1:=Hd V1;clear hb;exact zz41
 ):P:=h
theorem zz38 {P:Prop} (h:P:=by
 rintro e1 a1 w1 ⟨rfl,z,gC,u5,u6,u7,u8,u9,rfl,s1,hC,hV⟩;have hw1:=bth hw0 s1;have s1w:=s1.size;have hz1:=hz.below' s1;have k1:=held (c0 w1 hw1);have d0:=held (hC.cell 0);have d1:=held (hC.cell 1);have t0:Below w1.heap.size w1 w1.drew:=brf.drew;replace hV:=Hd hV;replace hw1:=Hd hw1;clear hz hw0 s1 k0 hC CB;go_wp2;have hsz:=Hd (show w0.heap.size<=w1.heap.size from s1w);refine wrx (S:=Below w1.heap.size w1) [(0,.q),(3,.q),(4,.q),(5,.q),(7,.q),(8,.q),(9,.q),(1,.l),(2,.l),(6,.l),(10,.t),(11,.p),(12,.t),(13,.t)] (t0) ?_;obtain ⟨v0,hv0⟩:=nm w1.drew
 rw [hv0] at t0 ⊢
 iterate 7 (refine qaf rfl rfl fun K hK=>xq ?_;go_simp;refine hK _ _ ?_;clear hK K)
 refine vl fun K hK=>?_
 go_simp;refine (A0.out (Xg X g3) v0 hY1.out (fun b hb=>ltl (hY2.out b hb) (Nat.le_trans hsz.out (t0).size)) (bth hw1.out t0)).mono ?_;rintro r w2 ⟨ta,rfl,Va,hb⟩;dsimp only;refine hK.out _ _ (bth t0 hb) (fun _=>?_);clear hK K;have t1:=bth t0 hb;replace Va:=Hd Va;clear hb;refine vl fun K hK=>?_
 go_simp;refine (qhx ta.a ta.b a.1.length ta.c a.2.length ta.d _).mono ?_;rintro r w3 ⟨rfl,hb⟩;dsimp only;refine hK.out _ _ (bth t1 hb) (fun _=>?_);clear hK K;have t2:=bth t1 hb;replace Va:=Hd (Va.out.call hb);clear hb;refine vl fun K hK=>?_
 go_simp;refine (O1.out (Xg X g3) _ z.a z.c hY1.out (fun b hb=>ltl (hY2.out b hb) (Nat.le_trans hsz.out (t2).size)) (bth hw1.out t2) (hV.out.1.call t2)).mono ?_;rintro r w4 ⟨a1,c1,rfl,P1,hb⟩;dsimp only;refine hK.out _ _ (bth t2 hb) (fun _=>?_);clear hK K;have t3:=bth t2 hb;replace Va:=Hd (Va.out.call hb);replace P1:=Hd P1;clear hb;refine vt fun K hK=>?_
 go_simp;refine (O2.out (Xg X g3) _ z.b z.d hY1.out (fun b hb=>ltl (hY2.out b hb) (Nat.le_trans hsz.out (t3).size)) (bth hw1.out t3) (hV.out.2.call t3)).mono ?_;rintro r w5 ⟨a2,c2,rfl,P2,hb⟩;dsimp only;refine hK.out _ _ ?_;clear hK K;have t4:=bth t3 hb;replace Va:=Hd (Va.out.call hb);replace P1:=Hd (P1.out.call hb);replace P2:=Hd P2;clear hb
 refine qaj rfl rfl fun K hK=>xp ?_;go_simp;refine hK _ _ ?_;clear hK K
 refine vt fun K hK=>?_
 go_simp;refine (qgn (Xg X g3) a (r1,r2) (addP a.1 r1) (addP a.2 r2) ta ⟨a1,c1,a2,c2⟩ w5 (fun b hb=>ltl (hY2.out b hb) (Nat.le_trans hsz.out (t4).size)) (qhp (Xg X g3) a.1 r1 ta.a a1 ta.c c1 _ Va.out.1 P1.out fa.out.1 f1.out) (qhp (Xg X g3) a.2 r2 ta.b a2 ta.d c2 _ Va.out.2 P2.out fa.out.2 f2.out)).mono ?_;rintro r w6 ⟨zz,rfl,PP,hb⟩;dsimp only;refine hK.out _ _ ?_;clear hK K;have t5:=bth t4 hb;have hz2:=hz1.below' t5;obtain ⟨y0,y1⟩:=cq2 hz2;obtain ⟨g0,g1⟩:=fq2 hz2;replace PP:=Hd PP;have hwz:=bth hw1.out t5;clear d0 d1 k1 Va P1 P2 hb;refine vt fun K hK=>?_
 go_simp;refine hK.out _ _ ?_;clear hK K;refine qad ?_;obtain ⟨ra1,hra1⟩:=nm (addP a.1 r1)
 obtain ⟨ra2,hra2⟩:=nm (addP a.2 r2)
 rw [hra1,hra2] at PP ⊢;replace hra1:=Hd hra1;replace hra2:=Hd hra2;go_wp2;refine qaa (fun W=>Blk W g3 135 #[.slice zz.a ra1.length zz.c,.slice zz.b ra2.length zz.d]/\VecX (Xg X g3) W zz (ra1,ra2)/\Below w.heap.size w W) ⟨bk,qa8 (qa8 PP.out (.inr rfl)) (.inr rfl),(hwz.setCell hgw.out _).setCell hgw.out _⟩ ?_;rintro wF ⟨hF,hQ,hwF⟩;obtain ⟨e0,e1⟩:=cq2 hF;refine bodyPost_ret (v:=.agg #[.slice zz.a ra1.length zz.c,.slice zz.b ra2.length zz.d]) (by simp [results,Tryz.results112,go_sem,e0,e1]) rfl ?_;rw [hra1.out,hra2.out];exact ⟨zz,rfl,hQ.less fun b hb=>.inl hb,hwF⟩
 ):P:=h
theorem qyz (X:Nat->Prop) (e s f cp:Nat) (a b:Vec) (r1 r2:List Tm) (w:World) (hX:∀ b,X b->b<w.heap.size) (A0:AtC X w e s 0 a) (A1:AtC X w e s 1 b)
  (c0:w.cell? ⟨f,0,none⟩=some (.func (Fn.func 111) #[] #[.pointer (some ⟨e,0,none⟩),.pointer (some ⟨s,0,none⟩)]))
  (O1:OpC X w 118 #[.pointer (some ⟨cp,0,none⟩)] (subP b.1 a.1) r1) (O2:OpC X w 118 #[.pointer (some ⟨cp,0,none⟩)] (subP b.2 a.2) r2) (fa:FineV a) (fb:FineV b) (f1:FineP r1) (f2:FineP r2) :
  Calls Tryz.prog 112 #[.func (Fn.func 118) #[] #[.pointer (some ⟨cp,0,none⟩)],.pointer (some ⟨f,0,none⟩)] w (qfj X (addP a.1 r1,addP a.2 r2) w):=by
 have HX:=Hd hX;replace A0:=Hd A0;replace A1:=Hd A1;replace O1:=Hd O1;replace O2:=Hd O2;replace fa:=Hd fa;replace fb:=Hd fb;replace f1:=Hd f1;replace f2:=Hd f2;replace c0:=held c0;clear hX;go_enter Tryz.func112,Tryz.ntmps112;go_wp2;refine qaa (fun W=>Blk W w.heap.size 135 #[.slice none 0 0,.slice none 0 0]/\Below w.heap.size w W) ⟨bk,zg⟩ ?_;rintro w0 ⟨hz,hw0⟩;obtain ⟨g3,hg3⟩:∃ g,g=w.heap.size:=⟨_,rfl⟩
 rw [<- hg3] at hz ⊢;have hgw:w.heap.size<=g3:=oo
 have hgl:=hz.lt;have hY1:=qcy (X:=X) hgw;have hY2:∀ b,Xg X g3 b->b<w0.heap.size:=Xg_lt HX.out hw0.size hgl;obtain ⟨d,hd⟩:∃ d:Vec,d=(subP b.1 a.1,subP b.2 a.2):=⟨_,rfl⟩
 have hd1:subP b.1 a.1=d.1:=by rw [hd]
 have hd2:subP b.2 a.2=d.2:=by rw [hd]
 have CB:=fun (Y:Nat->Prop) (t1 t2:VQ) W h1 h2 h3=>qgw Y a b t1 t2 W h1 h2 h3 fa.out fb.out
 rw [<- hd] at CB;rw [hd1] at O1;rw [hd2] at O2;have k0:=held (c0 w0 hw0);replace hg3:=Hd hg3;replace hY1:=Hd hY1;replace hY2:=Hd hY2;replace CB:=Hd CB;replace hgw:=Hd hgw;clear hd hd1 hd2 hgl;have s0:Below w0.heap.size w0 w0.drew:=brf.drew;refine wp_mono (Q:=fun x a' W=>x=.normal/\(∃ (z:VQ) (gC:Nat) (u5 u6 u7 u8 u9:Value),a'=⟨#[.func (Fn.func 118) #[] #[.pointer (some ⟨cp,0,none⟩)],.pointer (some ⟨f,0,none⟩),undef,.pointer (some ⟨g3,0,none⟩),.pointer (some ⟨gC,0,none⟩),u5,u6,u7,u8,u9,undef,undef,undef,undef,undef,undef,undef,undef,undef,undef,undef,undef,undef],[]⟩/\Below w0.heap.size w0 W/\Blk W gC 135 #[.slice z.a d.1.length z.c,.slice z.b d.2.length z.d]/\VecX (Xg X g3) W z d)) ?_ ?_
 ·
  skip
  exact zz37
 ·
  exact zz38
theorem qyq (X:Nat->Prop) (e s f cp:Nat) (a b:Vec) (r1 r2:List Tm) (w:World) (hX:∀ b,X b->b<w.heap.size) (A0:AtC X w e s 0 a) (A1:AtC X w e s 1 b)
  (c0:w.cell? ⟨f,0,none⟩=some (.func (Fn.func 111) #[] #[.pointer (some ⟨e,0,none⟩),.pointer (some ⟨s,0,none⟩)]))
  (O1:OpC X w 122 #[.pointer (some ⟨cp,0,none⟩)] (subP b.1 a.1) r1) (O2:OpC X w 122 #[.pointer (some ⟨cp,0,none⟩)] (subP b.2 a.2) r2) (fa:FineV a) (fb:FineV b) (f1:FineP r1) (f2:FineP r2) :
  Calls Tryz.prog 112 #[.func (Fn.func 122) #[] #[.pointer (some ⟨cp,0,none⟩)],.pointer (some ⟨f,0,none⟩)] w (qfj X (addP a.1 r1,addP a.2 r2) w):=by
 have HX:=Hd hX;replace A0:=Hd A0;replace A1:=Hd A1;replace O1:=Hd O1;replace O2:=Hd O2;replace fa:=Hd fa;replace fb:=Hd fb;replace f1:=Hd f1;replace f2:=Hd f2;replace c0:=held c0;clear hX;go_enter Tryz.func112,Tryz.ntmps112;go_wp2;refine qaa (fun W=>Blk W w.heap.size 135 #[.slice none 0 0,.slice none 0 0]/\Below w.heap.size w W) ⟨bk,zg⟩ ?_;rintro w0 ⟨hz,hw0⟩;obtain ⟨g3,hg3⟩:∃ g,g=w.heap.size:=⟨_,rfl⟩
 rw [<- hg3] at hz ⊢;have hgw:w.heap.size<=g3:=oo
 have hgl:=hz.lt;have hY1:=qcy (X:=X) hgw;have hY2:∀ b,Xg X g3 b->b<w0.heap.size:=Xg_lt HX.out hw0.size hgl;obtain ⟨d,hd⟩:∃ d:Vec,d=(subP b.1 a.1,subP b.2 a.2):=⟨_,rfl⟩
 have hd1:subP b.1 a.1=d.1:=by rw [hd]
 have hd2:subP b.2 a.2=d.2:=by rw [hd]
 have CB:=fun (Y:Nat->Prop) (t1 t2:VQ) W h1 h2 h3=>qgw Y a b t1 t2 W h1 h2 h3 fa.out fb.out
 rw [<- hd] at CB;rw [hd1] at O1;rw [hd2] at O2;have k0:=held (c0 w0 hw0);replace hg3:=Hd hg3;replace hY1:=Hd hY1;replace hY2:=Hd hY2;replace CB:=Hd CB;replace hgw:=Hd hgw;clear hd hd1 hd2 hgl;have s0:Below w0.heap.size w0 w0.drew:=brf.drew;refine wp_mono (Q:=fun x a' W=>x=.normal/\(∃ (z:VQ) (gC:Nat) (u5 u6 u7 u8 u9:Value),a'=⟨#[.func (Fn.func 122) #[] #[.pointer (some ⟨cp,0,none⟩)],.pointer (some ⟨f,0,none⟩),undef,.pointer (some ⟨g3,0,none⟩),.pointer (some ⟨gC,0,none⟩),u5,u6,u7,u8,u9,undef,undef,undef,undef,undef,undef,undef,undef,undef,undef,undef,undef,undef],[]⟩/\Below w0.heap.size w0 W/\Blk W gC 135 #[.slice z.a d.1.length z.c,.slice z.b d.2.length z.d]/\VecX (Xg X g3) W z d)) ?_ ?_
 ·
  skip
  exact zz37
 ·
  exact zz38
theorem zz43 {P:Prop} (h:P:=by
 rcases hv1 g hg with e | e
 · exact .inl e
 · have:=hw0.size;exact .inr oo
 ):P:=h
theorem qvg (Z:Nat->Prop) (gB:Nat) (y:Frm) (hs':List (VQ × Vec)) (ra va:Option Addr) (rc vc:Nat) (pt:ByteArray) (aa:Option Addr) (an ac:Nat) (x:QA) (i:Int) (w:World) (hB:Bst Z w gB y hs' ra rc va vc) (hl:y.vars.length<=800) (hZ:∀ b,Z b->b<w.heap.size) (hf:y.free<=900):Calls Tryz.prog 67 #[.pointer (some ⟨gB,0,none⟩),.agg #[.int .i64 1,.string pt,.slice aa an ac,.bool x.neg,.slice x.a x.n x.c,.slice x.b x.m x.d],.int .i64 i] w (RetSt Z gB ⟨(qc0 y i).1,y.coords,y.free+1⟩ (qc0 y i).2 hs' ra rc va w):=by
 have Hf:=Hd hf;clear hf;have HB:=Hd hB;have HZ:=Hd hZ;clear hB hZ;go_enter Tryz.func67,Tryz.ntmps67;go_wp2_with fail;refine qae (fun W=>Blk W (w.heap.size+1+1+1) 167 #[.func (Fn.func 111) #[] #[.pointer (some ⟨w.heap.size,0,none⟩),.pointer (some ⟨w.heap.size+1,0,none⟩)]]/\Blk W (w.heap.size+1+1) 135 #[.slice none 0 0,.slice none 0 0]/\Blk W (w.heap.size+1) 93 #[.int .i64 1,.string pt,.slice aa an ac,.bool x.neg,.slice x.a x.n x.c,.slice x.b x.m x.d]/\Blk W w.heap.size 131 #[.pointer (some ⟨gB,0,none⟩)]/\Below w.heap.size w W) ⟨Blk.newAt (by simp),(Blk.newAt (by simp)).alloc _,((Blk.newAt (by simp)).alloc _).alloc _,(((Blk.new w _ _).alloc _).alloc _).alloc _,zg⟩ ?_;rintro w0 ⟨hF,hz,hS,he,hw0⟩;have hw0':Below w.heap.size w w0:=hw0;have hB0:=(HB.out.wide (g:=w.heap.size+1+1) oo).call hw0';obtain ⟨s,hs⟩:∃ s,s=w.heap.size+1:=⟨_,rfl⟩
 obtain ⟨g,hg⟩:∃ g,g=w.heap.size+1+1:=⟨_,rfl⟩
 obtain ⟨f,hf⟩:∃ f,f=w.heap.size+1+1+1:=⟨_,rfl⟩
 rw [<- hg] at hz hB0;rw [<- hf] at hF;rw [<- hs] at hS;rw [<- hs] at hF
 try rw [<- hf]
 try rw [<- hg]
 try rw [<- hs]
 have hgw:w.heap.size<=g:=oo
 have hgl:=hz.lt;have hfl:=hF.lt;have hgf:g≠f:=oo
 have hge:g≠w.heap.size:=oo
 have hgs:g≠s:=oo
 have hZ0:∀ b,Xg Z g b->b<w0.heap.size:=Xg_lt HZ.out hw0.size hgl;have hf0:Fr (Yb gB ra va) w w0:=Fr.below hw0;have hn0:¬ Yb gB ra va g:=fun h=>by have:=HB.out.lt _ h;omega
 replace hs:=Hd hs;replace hg:=Hd hg;replace hf:=Hd hf;refine (qxa (Xg Z g) gB y hs' ra va rc vc i w0 hB0 oo (by have:=Hf.out;omega) hZ0).mono ?_;rintro e w1 ⟨va1,vc1,t,rfl,hB1,hV1,hf1,hv1⟩;clear hF hS he;generalize hPP:qc0 y i=P at hB1 hV1;replace hPP:=Hd hPP;have hn2:¬ Yb gB ra va1 g:=qdk hn0 hv1 hgl;have hz1:=hz.fr hf1 hn0;have hfr:Fr (Yb gB ra va) w w1:=hf0.trans hf1;have hvv:∀ g,va1=some g->va=some g\/w.heap.size<=g.block:=fun g hg=>by
  exact zz43
 obtain ⟨y0,y1⟩:=cq2 hz1;obtain ⟨g0,g1⟩:=fq2 hz1;replace hV1:=Hd hV1;replace hB1:=Hd hB1;replace hvv:=Hd hvv;replace hfr:=Hd hfr;replace hn2:=Hd hn2;have hz2:=Hd hz1;clear hf0 hf1 hv1 hz hB0 hz1;go_wp2;refine qaa (fun W=>Blk W g 135 #[.slice t.a P.2.1.length t.c,.slice t.b P.2.2.length t.d]/\Bst Z W gB ⟨P.1,y.coords,y.free+1⟩ hs' ra rc va1 vc1/\VecX (Yz Z gB ra va1) W t P.2/\Fr (Yb gB ra va) w W) ⟨?_,((hB1.out.far hn2.out).far hn2.out).less,(qa8 (qa8 hV1.out (.inr (.inr rfl))) (.inr (.inr rfl))).less qda,(hfr.out.setc (.inr hgw)).setc (.inr hgw)⟩ ?_
 ·
  have hz2':=hz2.out
  exact bk
 rintro w4 ⟨hF4,hB4,hV4,hf4⟩;obtain ⟨e0,e1⟩:=cq2 hF4;refine bodyPost_ret (v:=.agg #[.slice t.a P.2.1.length t.c,.slice t.b P.2.2.length t.d]) (by simp [results,Tryz.results67,go_sem,e0,e1]) rfl ?_;rw [hPP.out];exact ⟨va1,vc1,t,rfl,hB4,hV4,hf4,hvv.out⟩
theorem zz42 {P:Prop} (h:P:=by
 rintro w4 ⟨hF4,hB4,hV4,hf4⟩;obtain ⟨e0,e1⟩:=cq2 hF4;refine bodyPost_ret (v:=.agg #[.slice t.a P.1.length t.c,.slice t.b P.2.length t.d]) (by simp [results,Tryz.results67,go_sem,e0,e1]) rfl ?_;rw [hPP.out];exact ⟨va1,vc1,t,rfl,hB4,hV4,hf4,hvv.out⟩
 ):P:=h
theorem qw9 (kind:Int) (k7:7<=kind) (Z:Nat->Prop) (gB:Nat) (y:Frm) (hs':List (VQ × Vec)) (ra va:Option Addr) (rc vc:Nat) (pt:ByteArray) (aa:Option Addr) (an ac:Nat) (x:QA) (i:Int) (w:World) (hB:Bst Z w gB y hs' ra rc va vc) (hl:y.vars.length<=800) (hZ:∀ b,Z b->b<w.heap.size):Calls Tryz.prog 67 #[.pointer (some ⟨gB,0,none⟩),.agg #[.int .i64 kind,.string pt,.slice aa an ac,.bool x.neg,.slice x.a x.n x.c,.slice x.b x.m x.d],.int .i64 i] w (RetSt Z gB ⟨y.vars++[(2,i,0),(2,i,1)],y.coords,y.free⟩ (varP y.vars.length,varP (y.vars.length+1)) hs' ra rc va w):=by
 have kk1:¬ kind=1:=oo
 have kk2:¬ kind=2:=oo
 have kk3:¬ kind=3:=oo
 have kk4:¬ kind=4:=oo
 have kk5:¬ kind=5:=oo
 have kk6:¬ kind=6:=oo
 have HB:=Hd hB;have HZ:=Hd hZ;clear hB hZ;go_enter Tryz.func67,Tryz.ntmps67;go_wp2_with fail;refine qae (fun W=>Blk W (w.heap.size+1+1+1) 167 #[.func (Fn.func 111) #[] #[.pointer (some ⟨w.heap.size,0,none⟩),.pointer (some ⟨w.heap.size+1,0,none⟩)]]/\Blk W (w.heap.size+1+1) 135 #[.slice none 0 0,.slice none 0 0]/\Blk W (w.heap.size+1) 93 #[.int .i64 kind,.string pt,.slice aa an ac,.bool x.neg,.slice x.a x.n x.c,.slice x.b x.m x.d]/\Blk W w.heap.size 131 #[.pointer (some ⟨gB,0,none⟩)]/\Below w.heap.size w W) ⟨Blk.newAt (by simp),(Blk.newAt (by simp)).alloc _,((Blk.newAt (by simp)).alloc _).alloc _,(((Blk.new w _ _).alloc _).alloc _).alloc _,zg⟩ ?_;rintro w0 ⟨hF,hz,hS,he,hw0⟩;have hw0':Below w.heap.size w w0:=hw0;have hB0:=(HB.out.wide (g:=w.heap.size+1+1) oo).call hw0';obtain ⟨s,hs⟩:∃ s,s=w.heap.size+1:=⟨_,rfl⟩
 obtain ⟨g,hg⟩:∃ g,g=w.heap.size+1+1:=⟨_,rfl⟩
 obtain ⟨f,hf⟩:∃ f,f=w.heap.size+1+1+1:=⟨_,rfl⟩
 rw [<- hg] at hz hB0;rw [<- hf] at hF;rw [<- hs] at hS;rw [<- hs] at hF
 try rw [<- hf]
 try rw [<- hg]
 try rw [<- hs]
 have hgw:w.heap.size<=g:=oo
 have hgl:=hz.lt;have hfl:=hF.lt;have hgf:g≠f:=oo
 have hge:g≠w.heap.size:=oo
 have hgs:g≠s:=oo
 have hZ0:∀ b,Xg Z g b->b<w0.heap.size:=Xg_lt HZ.out hw0.size hgl;have hf0:Fr (Yb gB ra va) w w0:=Fr.below hw0;have hn0:¬ Yb gB ra va g:=fun h=>by have:=HB.out.lt _ h;omega
 replace hs:=Hd hs;replace hg:=Hd hg;replace hf:=Hd hf;have HD:=qif (Xg Z g) gB y hs' ra va rc vc i 0 w0 hB0 oo hZ0 oo;rw [show (0:Int)+1=1 from rfl] at HD;refine HD.mono ?_;clear HD;rintro e w1 ⟨va1,vc1,t,rfl,hB1,hV1,hf1,hv1⟩;clear hF hS he;generalize hPP:(varP y.vars.length,varP (y.vars.length+1))=P at hV1;replace hPP:=Hd hPP;have hn2:¬ Yb gB ra va1 g:=qdk hn0 hv1 hgl;have hz1:=hz.fr hf1 hn0;have hfr:Fr (Yb gB ra va) w w1:=hf0.trans hf1;have hvv:∀ g,va1=some g->va=some g\/w.heap.size<=g.block:=fun g hg=>by
  exact zz43
 obtain ⟨y0,y1⟩:=cq2 hz1;obtain ⟨g0,g1⟩:=fq2 hz1;replace hV1:=Hd hV1;replace hB1:=Hd hB1;replace hvv:=Hd hvv;replace hfr:=Hd hfr;replace hn2:=Hd hn2;have hz2:=Hd hz1;clear hf0 hf1 hv1 hz hB0 hz1;go_wp2;refine qaa (fun W=>Blk W g 135 #[.slice t.a P.1.length t.c,.slice t.b P.2.length t.d]/\Bst Z W gB ⟨y.vars++[(2,i,0),(2,i,1)],y.coords,y.free⟩ hs' ra rc va1 vc1/\VecX (Yz Z gB ra va1) W t P/\Fr (Yb gB ra va) w W) ⟨?_,((hB1.out.far hn2.out).far hn2.out).less,(qa8 (qa8 hV1.out (.inr (.inr rfl))) (.inr (.inr rfl))).less qda,(hfr.out.setc (.inr hgw)).setc (.inr hgw)⟩ ?_
 ·
  have hz2':=hz2.out
  exact bk
 exact zz42
theorem qt3 (Z:Nat->Prop) (gB:Nat) (y:Frm) (hs':List (VQ × Vec)) (ra va:Option Addr) (rc vc:Nat) (pt:ByteArray) (aa:Option Addr) (an ac:Nat) (x:QA) (i:Int) (w:World) (hB:Bst Z w gB y hs' ra rc va vc) (hl:y.vars.length<=800) (hZ:∀ b,Z b->b<w.heap.size):Calls Tryz.prog 67 #[.pointer (some ⟨gB,0,none⟩),.agg #[.int .i64 6,.string pt,.slice aa an ac,.bool x.neg,.slice x.a x.n x.c,.slice x.b x.m x.d],.int .i64 i] w (RetSt Z gB ⟨y.vars++[(1,i,0),(2,i,1),(2,i,2)],y.coords,y.free⟩ (varP (y.vars.length+1),varP (y.vars.length+2)) hs' ra rc va w):=by
 have HB:=Hd hB;have HZ:=Hd hZ;clear hB hZ;go_enter Tryz.func67,Tryz.ntmps67;go_wp2_with fail;refine qae (fun W=>Blk W (w.heap.size+1+1+1) 167 #[.func (Fn.func 111) #[] #[.pointer (some ⟨w.heap.size,0,none⟩),.pointer (some ⟨w.heap.size+1,0,none⟩)]]/\Blk W (w.heap.size+1+1) 135 #[.slice none 0 0,.slice none 0 0]/\Blk W (w.heap.size+1) 93 #[.int .i64 6,.string pt,.slice aa an ac,.bool x.neg,.slice x.a x.n x.c,.slice x.b x.m x.d]/\Blk W w.heap.size 131 #[.pointer (some ⟨gB,0,none⟩)]/\Below w.heap.size w W) ⟨Blk.newAt (by simp),(Blk.newAt (by simp)).alloc _,((Blk.newAt (by simp)).alloc _).alloc _,(((Blk.new w _ _).alloc _).alloc _).alloc _,zg⟩ ?_;rintro w0 ⟨hF,hz,hS,he,hw0⟩;have hw0':Below w.heap.size w w0:=hw0;have hB0:=(HB.out.wide (g:=w.heap.size+1+1) oo).call hw0';obtain ⟨s,hs⟩:∃ s,s=w.heap.size+1:=⟨_,rfl⟩
 obtain ⟨g,hg⟩:∃ g,g=w.heap.size+1+1:=⟨_,rfl⟩
 obtain ⟨f,hf⟩:∃ f,f=w.heap.size+1+1+1:=⟨_,rfl⟩
 rw [<- hg] at hz hB0;rw [<- hf] at hF;rw [<- hs] at hS;rw [<- hs] at hF
 try rw [<- hf]
 try rw [<- hg]
 try rw [<- hs]
 have hgw:w.heap.size<=g:=oo
 have hgl:=hz.lt;have hfl:=hF.lt;have hgf:g≠f:=oo
 have hge:g≠w.heap.size:=oo
 have hgs:g≠s:=oo
 have hZ0:∀ b,Xg Z g b->b<w0.heap.size:=Xg_lt HZ.out hw0.size hgl;have hf0:Fr (Yb gB ra va) w w0:=Fr.below hw0;have hn0:¬ Yb gB ra va g:=fun h=>by have:=HB.out.lt _ h;omega
 replace hs:=Hd hs;replace hg:=Hd hg;replace hf:=Hd hf;refine (qcl (Xg Z g) gB y hs' ra va rc vc 1 i 0 w0 hB0 oo hZ0).mono ?_;rintro e wA ⟨va3,vc3,a3,c3,rfl,hB3,hV3,hf3,hv3⟩;have hlen:(y.vars++[((1:Int),i,(0:Int))]).length=y.vars.length+1:=by simp
 have HD:=qif (Xg Z g) gB ⟨y.vars++[(1,i,0)],y.coords,y.free⟩ hs' ra va3 rc vc3 i 1 wA hB3 (by dsimp only;omega) (fun b hb=>ltl (hZ0 b hb) hf3.size) oo;dsimp only at HD;rw [hlen,List.append_assoc] at HD;have ec:=(he.fr hf3 (fun h=>by have:=HB.out.lt _ h;omega)).cell 0;replace HD:=Hd HD;replace hv3:=Hd hv3;clear hF hS he hB3 hV3 hlen hB0;go_wp2_with fail;refine HD.out.mono ?_;clear HD;rintro e w1 ⟨va1,vc1,t,rfl,hB1,hV1,hf2,hv2⟩;replace hB1:Bst (Xg Z g) w1 gB ⟨y.vars++[(1,i,0),(2,i,1),(2,i,2)],y.coords,y.free⟩ hs' ra rc va1 vc1:=hB1;have hsz:=hf3.size;have hv1:∀ g,va1=some g->va=some g\/w0.heap.size<=g.block:=fun g hg=>by
  rcases hv2 g hg with e | e
  ·
   rcases hv3.out g e with e | e
   · exact .inl e
   · exact .inr e
  · exact .inr oo
 have hf1:Fr (Yb gB ra va) w0 w1:=hf3.then_ hf2 fun b hb=>by
  rcases hb with hb | hb | ⟨g,hg,rfl⟩
  · exact .inl (.inl hb)
  · exact .inl (.inr (.inl hb))
  ·
   rcases hv3.out g hg with e | e
   · exact .inl (.inr (.inr ⟨g,e,rfl⟩))
   · exact .inr e
 have hB0:=hB1;clear hf2 hv2 hf3 hv3;generalize hPP:(varP (y.vars.length+1),varP (y.vars.length+2))=P at hV1;replace hPP:=Hd hPP;have hn2:¬ Yb gB ra va1 g:=qdk hn0 hv1 hgl;have hz1:=hz.fr hf1 hn0;have hfr:Fr (Yb gB ra va) w w1:=hf0.trans hf1;have hvv:∀ g,va1=some g->va=some g\/w.heap.size<=g.block:=fun g hg=>by
  exact zz43
 obtain ⟨y0,y1⟩:=cq2 hz1;obtain ⟨g0,g1⟩:=fq2 hz1;replace hV1:=Hd hV1;replace hB1:=Hd hB1;replace hvv:=Hd hvv;replace hfr:=Hd hfr;replace hn2:=Hd hn2;have hz2:=Hd hz1;clear hf0 hf1 hv1 hz hB0 hz1;go_wp2;refine qaa (fun W=>Blk W g 135 #[.slice t.a P.1.length t.c,.slice t.b P.2.length t.d]/\Bst Z W gB ⟨y.vars++[(1,i,0),(2,i,1),(2,i,2)],y.coords,y.free⟩ hs' ra rc va1 vc1/\VecX (Yz Z gB ra va1) W t P/\Fr (Yb gB ra va) w W) ⟨?_,((hB1.out.far hn2.out).far hn2.out).less,(qa8 (qa8 hV1.out (.inr (.inr rfl))) (.inr (.inr rfl))).less qda,(hfr.out.setc (.inr hgw)).setc (.inr hgw)⟩ ?_
 ·
  have hz2':=hz2.out
  exact bk
 exact zz42
theorem xg_yz {Z:Nat->Prop} {w:World} {gB g:Nat} {ra va:Option Addr} (hg:w.heap.size<=g):∀ b,Yz (Xg Z g) gB ra va b->Yz Z gB ra va b\/w.heap.size<=b:=fun b hb=>by
 rcases hb with hb | hb | rfl
 · exact .inl (.inl hb)
 · exact .inl (.inr hb)
 · exact .inr hg
theorem qee {Z:Nat->Prop} {w:World} {gB:Nat} {y:Frm} {hs':List (VQ × Vec)} {ra va aa:Option Addr} {rc vc ac e s:Nat} {args:List Int} (hB:Bst Z w gB y hs' ra rc va vc) (h1:w.cell? ⟨e,0,none⟩=some (.pointer (some ⟨gB,0,none⟩))) (h3:w.cell? ⟨s,2,none⟩=some (.slice aa args.length ac)) (h4:IntsR w aa ac args)
  (hl:hs'.length<=1000000) {k j:Nat} {q:VQ} {v:Vec} (hi:args[k]? = some (j:Int)) (hj:hs'[j]? = some (q,v)):AtC (Yz Z gB ra va) w e s k v:=fun Y W e1 e2 hW =>
 at_v Y gB e s (gB+1) hs' ra aa rc ac args k j q v W (held h1 W hW) (held (hB.blk.cell 0) W hW) (held h3 W hW) (h4.ext (xbw hW)) (hB.co.below hW) hi hj (((hB.all _ (List.mem_of_getElem? hj)).more e1).call hW) hl
def Has2 (args:List Int) (hs':List (VQ × Vec)) (k:Nat) (v:Vec):Prop:=∃ (j:Nat) (q:VQ),args[k]? = some (j:Int)/\hs'[j]? = some (q,v)
theorem qwi (Z:Nat->Prop) (gB:Nat) (y:Frm) (hs':List (VQ × Vec)) (ra va:Option Addr) (rc vc:Nat) (pt:ByteArray) (aa:Option Addr) (an ac:Nat) (x:QA) (i:Int) (w:World) (hB:Bst Z w gB y hs' ra rc va vc) (hl:y.vars.length<=800) (hZ:∀ b,Z b->b<w.heap.size) (args:List Int) (q:Rat) (a b:Vec) (han:an=args.length) (hI:Rd (Yz Z gB ra va) w fun V=>IntsR V aa ac args) (hx:Rd (Yz Z gB ra va) w fun V=>QAc V x q) (hq:qsz q<=1000) (hlh:hs'.length<=1000000)
  (H0:Has2 args hs' 0 a) (H1:Has2 args hs' 1 b) (fa:FineV a) (fb:FineV b) (fs:FineV (subP b.1 a.1,subP b.2 a.2)) (fr:FineV (qau (subP b.1 a.1) q,qau (subP b.2 a.2) q)) :
  Calls Tryz.prog 67 #[.pointer (some ⟨gB,0,none⟩),.agg #[.int .i64 2,.string pt,.slice aa an ac,.bool x.neg,.slice x.a x.n x.c,.slice x.b x.m x.d],.int .i64 i] w (RetSt Z gB y (addP a.1 (qau (subP b.1 a.1) q),addP a.2 (qau (subP b.2 a.2) q)) hs' ra rc va w):=by
 subst han;obtain ⟨an,han⟩:∃ an,an=args.length:=⟨_,rfl⟩
 rw [<- han];have HI:=Hd hI;have HQ:=Hd hx;have Hq:=Hd hq;replace H0:=Hd H0;replace H1:=Hd H1;replace fa:=Hd fa;replace fb:=Hd fb;replace fs:=Hd fs;replace fr:=Hd fr;replace han:=Hd han;clear hI hx hq;have HB:=Hd hB;have HZ:=Hd hZ;clear hB hZ;go_enter Tryz.func67,Tryz.ntmps67;go_wp2_with fail;refine qae (fun W=>Blk W (w.heap.size+1+1+1) 167 #[.func (Fn.func 111) #[] #[.pointer (some ⟨w.heap.size,0,none⟩),.pointer (some ⟨w.heap.size+1,0,none⟩)]]/\Blk W (w.heap.size+1+1) 135 #[.slice none 0 0,.slice none 0 0]/\Blk W (w.heap.size+1) 93 #[.int .i64 2,.string pt,.slice aa an ac,.bool x.neg,.slice x.a x.n x.c,.slice x.b x.m x.d]/\Blk W w.heap.size 131 #[.pointer (some ⟨gB,0,none⟩)]/\Below w.heap.size w W) ⟨Blk.newAt (by simp),(Blk.newAt (by simp)).alloc _,((Blk.newAt (by simp)).alloc _).alloc _,(((Blk.new w _ _).alloc _).alloc _).alloc _,zg⟩ ?_;rintro w0 ⟨hF,hz,hS,he,hw0⟩
 have hw0':Below w.heap.size w w0:=hw0;have hB0:=(HB.out.wide (g:=w.heap.size+1+1) oo).call hw0';obtain ⟨s,hs⟩:∃ s,s=w.heap.size+1:=⟨_,rfl⟩
 obtain ⟨g,hg⟩:∃ g,g=w.heap.size+1+1:=⟨_,rfl⟩
 obtain ⟨f,hf⟩:∃ f,f=w.heap.size+1+1+1:=⟨_,rfl⟩
 rw [<- hg] at hz hB0;rw [<- hf] at hF;rw [<- hs] at hS;rw [<- hs] at hF
 try rw [<- hf]
 try rw [<- hg]
 try rw [<- hs]
 have hgw:w.heap.size<=g:=oo
 have hgl:=hz.lt;have hfl:=hF.lt;have hgf:g≠f:=oo
 have hge:g≠w.heap.size:=oo
 have hgs:g≠s:=oo
 have hZ0:∀ b,Xg Z g b->b<w0.heap.size:=Xg_lt HZ.out hw0.size hgl;have hf0:Fr (Yb gB ra va) w w0:=Fr.below hw0;have hn0:¬ Yb gB ra va g:=fun h=>by have:=HB.out.lt _ h;omega
 replace hs:=Hd hs;replace hg:=Hd hg;replace hf:=Hd hf;have hX0:∀ b,Yz (Xg Z g) gB ra va b->b<w0.heap.size:=fun b hb=>hb.elim (hB0.lt b) (hZ0 b)
 obtain ⟨j0,q0,i0,m0⟩:=H0.out;obtain ⟨j1,q1,i1,m1⟩:=H1.out;have c2:=hS.cell 2;have c3:=hS.cell 3;have c4:=hS.cell 4;have c5:=hS.cell 5;have hI0:=(HI.out.call hw0).now;have hx0:Rd (Yz (Xg Z g) gB ra va) w0 fun V=>QAc V x q:=(HQ.out.more (xg_yz hgw)).call hw0
 have A0:=qee hB0 (he.cell 0) (by rw [<- han.out];exact c2) hI0 hlh i0 m0;have A1:=qee hB0 (he.cell 0) (by rw [<- han.out];exact c2) hI0 hlh i1 m1;have OP:∀ p:List Tm,FineP p->OpC (Yz (Xg Z g) gB ra va) w0 118 #[.pointer (some ⟨s,0,none⟩)] p (qau p q):=fun p fp Y W a c e1 e2 hW hp =>
  qxv Y p x q a c s W e2 hp fp (held c3 W hW) (held c4 W hW) (held c5 W hW) ((hx0.more e1).call hW) Hq.out
 refine (qyz (Yz (Xg Z g) gB ra va) w.heap.size s f s a b (qau (subP b.1 a.1) q) (qau (subP b.2 a.2) q) w0 hX0 A0 A1 (hF.cell 0) (OP _ fs.out.1) (OP _ fs.out.2) fa.out fb.out fr.out.1 fr.out.2).mono ?_;rintro e w1 ⟨t,rfl,hV1,hb⟩;have hf1:Fr (Yb gB ra va) w0 w1:=Fr.below hb;have hv1:∀ g,va=some g->va=some g\/w0.heap.size<=g.block:=fun g h=>.inl h
 have hB1:=hB0.call hb;obtain ⟨va1,hva1⟩:∃ v,v=va:=⟨_,rfl⟩
 obtain ⟨vc1,hvc1⟩:∃ v,v=vc:=⟨_,rfl⟩
 have hv1:∀ g,va1=some g->va=some g\/w0.heap.size<=g.block:=by rw [hva1];exact hv1
 rw [<- hva1,<- hvc1] at hB1;replace hV1:VecX (Yz (Xg Z g) gB ra va1) w1 t (addP a.1 (qau (subP b.1 a.1) q),addP a.2 (qau (subP b.2 a.2) q)):=by rw [hva1];exact hV1
 clear hF hS he A0 A1 OP hI0 hx0 c2 c3 c4 c5 hX0 hb hva1 hvc1;generalize hPP:(addP a.1 (qau (subP b.1 a.1) q),addP a.2 (qau (subP b.2 a.2) q))=P at hV1;replace hPP:=Hd hPP;have hn2:¬ Yb gB ra va1 g:=qdk hn0 hv1 hgl;have hz1:=hz.fr hf1 hn0;have hfr:Fr (Yb gB ra va) w w1:=hf0.trans hf1;have hvv:∀ g,va1=some g->va=some g\/w.heap.size<=g.block:=fun g hg=>by
  rcases hv1 g hg with e | e
  · exact .inl e
  · have:=hw0.size;exact .inr oo
 obtain ⟨y0,y1⟩:=cq2 hz1;obtain ⟨g0,g1⟩:=fq2 hz1;replace hV1:=Hd hV1;replace hB1:=Hd hB1;replace hvv:=Hd hvv;replace hfr:=Hd hfr;replace hn2:=Hd hn2;have hz2:=Hd hz1;clear hf0 hf1 hv1 hz hB0 hz1;go_wp2;refine qaa (fun W=>Blk W g 135 #[.slice t.a P.1.length t.c,.slice t.b P.2.length t.d]/\Bst Z W gB y hs' ra rc va1 vc1/\VecX (Yz Z gB ra va1) W t P/\Fr (Yb gB ra va) w W) ⟨?_,((hB1.out.far hn2.out).far hn2.out).less,(qa8 (qa8 hV1.out (.inr (.inr rfl))) (.inr (.inr rfl))).less qda,(hfr.out.setc (.inr hgw)).setc (.inr hgw)⟩ ?_
 ·
  have hz2':=hz2.out
  exact bk
 rintro w4 ⟨hF4,hB4,hV4,hf4⟩;obtain ⟨e0,e1⟩:=cq2 hF4;refine bodyPost_ret (v:=.agg #[.slice t.a P.1.length t.c,.slice t.b P.2.length t.d]) (by simp [results,Tryz.results67,go_sem,e0,e1]) rfl ?_;rw [hPP.out];exact ⟨va1,vc1,t,rfl,hB4,hV4,hf4,hvv.out⟩
theorem qww (Z:Nat->Prop) (gB:Nat) (y:Frm) (hs':List (VQ × Vec)) (ra va:Option Addr) (rc vc:Nat) (pt:ByteArray) (aa:Option Addr) (an ac:Nat) (x:QA) (i:Int) (w:World) (hB:Bst Z w gB y hs' ra rc va vc) (hl:y.vars.length<=800) (hZ:∀ b,Z b->b<w.heap.size) (args:List Int) (B:Int) (a b:Vec) (han:an=args.length) (hI:Rd (Yz Z gB ra va) w fun V=>IntsR V aa ac args) (hlh:hs'.length<=1000000)
  (H0:Has2 args hs' 0 a) (H1:Has2 args hs' 1 b) (fa:FineV a) (fb:FineV b) (fs:FineV (subP b.1 a.1,subP b.2 a.2)) (fv:FineP (varP y.vars.length)) (fr:FineV (mulP (subP b.1 a.1) (varP y.vars.length),mulP (subP b.2 a.2) (varP y.vars.length)))
  (k1:Pok B (subP b.1 a.1)) (k2:Pok B (subP b.2 a.2)) (hBB:0<=B) :
  Calls Tryz.prog 67 #[.pointer (some ⟨gB,0,none⟩),.agg #[.int .i64 5,.string pt,.slice aa an ac,.bool x.neg,.slice x.a x.n x.c,.slice x.b x.m x.d],.int .i64 i] w (RetSt Z gB ⟨y.vars++[(1,i,0)],y.coords,y.free⟩ (addP a.1 (mulP (subP b.1 a.1) (varP y.vars.length)),addP a.2 (mulP (subP b.2 a.2) (varP y.vars.length))) hs' ra rc va w):=by
 subst han;obtain ⟨an,han⟩:∃ an,an=args.length:=⟨_,rfl⟩
 rw [<- han];have HI:=Hd hI;replace H0:=Hd H0;replace H1:=Hd H1;replace fa:=Hd fa;replace fb:=Hd fb;replace fs:=Hd fs;replace fr:=Hd fr;replace han:=Hd han;replace fv:=Hd fv;replace k1:=Hd k1;replace k2:=Hd k2;clear hI;have HB:=Hd hB;have HZ:=Hd hZ;clear hB hZ;go_enter Tryz.func67,Tryz.ntmps67;go_wp2_with fail;refine qae (fun W=>Blk W (w.heap.size+1+1+1) 167 #[.func (Fn.func 111) #[] #[.pointer (some ⟨w.heap.size,0,none⟩),.pointer (some ⟨w.heap.size+1,0,none⟩)]]/\Blk W (w.heap.size+1+1) 135 #[.slice none 0 0,.slice none 0 0]/\Blk W (w.heap.size+1) 93 #[.int .i64 5,.string pt,.slice aa an ac,.bool x.neg,.slice x.a x.n x.c,.slice x.b x.m x.d]/\Blk W w.heap.size 131 #[.pointer (some ⟨gB,0,none⟩)]/\Below w.heap.size w W) ⟨Blk.newAt (by simp),(Blk.newAt (by simp)).alloc _,((Blk.newAt (by simp)).alloc _).alloc _,(((Blk.new w _ _).alloc _).alloc _).alloc _,zg⟩ ?_
 rintro w0 ⟨hF,hz,hS,he,hw0⟩;have hw0':Below w.heap.size w w0:=hw0;have hB0:=(HB.out.wide (g:=w.heap.size+1+1) oo).call hw0';obtain ⟨s,hs⟩:∃ s,s=w.heap.size+1:=⟨_,rfl⟩
 obtain ⟨g,hg⟩:∃ g,g=w.heap.size+1+1:=⟨_,rfl⟩
 obtain ⟨f,hf⟩:∃ f,f=w.heap.size+1+1+1:=⟨_,rfl⟩
 rw [<- hg] at hz hB0;rw [<- hf] at hF;rw [<- hs] at hS;rw [<- hs] at hF
 try rw [<- hf]
 try rw [<- hg]
 try rw [<- hs]
 have hgw:w.heap.size<=g:=oo
 have hgl:=hz.lt;have hfl:=hF.lt;have hgf:g≠f:=oo
 have hge:g≠w.heap.size:=oo
 have hgs:g≠s:=oo
 have hZ0:∀ b,Xg Z g b->b<w0.heap.size:=Xg_lt HZ.out hw0.size hgl;have hf0:Fr (Yb gB ra va) w w0:=Fr.below hw0;have hn0:¬ Yb gB ra va g:=fun h=>by have:=HB.out.lt _ h;omega
 replace hs:=Hd hs;replace hg:=Hd hg;replace hf:=Hd hf;refine (qcl (Xg Z g) gB y hs' ra va rc vc 1 i 0 w0 hB0 oo hZ0).mono ?_;rintro e wA ⟨va1,vc1,a3,c3,rfl,hB3,hV3,hf3,hv1⟩;have hne:∀ k,w.heap.size<=k->¬ Yb gB ra va k:=fun k hk h=>by have:=HB.out.lt _ h;omega
 have heA:=he.fr hf3 (hne _ (nlr _));have hSA:=hS.fr hf3 (hne _ (by have:=hs.out;omega));have hFA:=hF.fr hf3 (hne _ (by have:=hf.out;omega));have hIA:=(((HI.out.call hw0).step (hf3.agr.mono fun b hb=>.inl hb)):Rd (Yz Z gB ra va) wA _).now;have ec:=heA.cell 0;replace hB3:=Hd hB3;replace hV3:=Hd hV3;replace hf3:=Hd hf3;replace hv1:=Hd hv1;replace hIA:=Hd hIA;clear hF hS he hB0;go_wp2_with fail;refine qae (fun W=>Blk W wA.heap.size 75 #[.slice a3 (varP y.vars.length).length c3]/\Below wA.heap.size wA W) ⟨Blk.newAt rfl,zg⟩ ?_;rintro wC ⟨hP,hbC⟩;have hBC:=hB3.out.call hbC;have hVC:=hV3.out.call hbC;have heC:=heA.below' hbC;have hSC:=hSA.below' hbC;have hFC:=hFA.below' hbC;have hIC:=hIA.out.ext (xbw hbC);have hlA:=hf3.out.size;have hX0:∀ b,Yz (Xg Z g) gB ra va1 b->b<wC.heap.size:=fun b hb=>hb.elim (hBC.lt b) fun h=>ltl (hZ0 b h) (Nat.le_trans hlA hbC.size)
 obtain ⟨j0,q0,i0,m0⟩:=H0.out;obtain ⟨j1,q1,i1,m1⟩:=H1.out;have c2:=hSC.cell 2;have A0:=qee hBC (heC.cell 0) (by rw [<- han.out];exact c2) hIC hlh i0 m0;have A1:=qee hBC (heC.cell 0) (by rw [<- han.out];exact c2) hIC hlh i1 m1;have OP:∀ p:List Tm,FineP p->Pok B p->OpC (Yz (Xg Z g) gB ra va1) wC 122 #[.pointer (some ⟨wA.heap.size,0,none⟩)] p (mulP p (varP y.vars.length)):=fun p fp kp Y W a c e1 e2 hW hp =>
  qad2 Y p (varP y.vars.length) B 1 a a3 c c3 wA.heap.size W e2 hp ((hVC.more e1).call hW) fp fv.out (qh4 _) kp (qel (Int.le_refl _)) hBB oo (held (hP.cell 0) W hW)
 refine (qyq (Yz (Xg Z g) gB ra va1) w.heap.size s f wA.heap.size a b (mulP (subP b.1 a.1) (varP y.vars.length)) (mulP (subP b.2 a.2) (varP y.vars.length)) wC hX0 A0 A1 (hFC.cell 0) (OP _ fs.out.1 k1.out) (OP _ fs.out.2 k2.out) fa.out fb.out fr.out.1 fr.out.2).mono ?_;rintro e w1 ⟨t,rfl,hV1,hb⟩;have hf1:Fr (Yb gB ra va) w0 w1:=(hf3.out.call hbC).call hb;have hB1:=hBC.call hb;have hv1:=hv1.out;have hB0:=hB1;clear A0 A1 OP c2 hX0 hb hBC hVC heC hSC hFC hIC heA hSA hFA hP hbC ec;generalize hPP:(addP a.1 (mulP (subP b.1 a.1) (varP y.vars.length)),addP a.2 (mulP (subP b.2 a.2) (varP y.vars.length)))=P at hV1;replace hPP:=Hd hPP;have hn2:¬ Yb gB ra va1 g:=qdk hn0 hv1 hgl;have hz1:=hz.fr hf1 hn0;have hfr:Fr (Yb gB ra va) w w1:=hf0.trans hf1;have hvv:∀ g,va1=some g->va=some g\/w.heap.size<=g.block:=fun g hg=>by
  rcases hv1 g hg with e | e
  · exact .inl e
  · have:=hw0.size;exact .inr oo
 obtain ⟨y0,y1⟩:=cq2 hz1;obtain ⟨g0,g1⟩:=fq2 hz1;replace hV1:=Hd hV1;replace hB1:=Hd hB1;replace hvv:=Hd hvv;replace hfr:=Hd hfr;replace hn2:=Hd hn2;have hz2:=Hd hz1;clear hf0 hf1 hv1 hz hB0 hz1;go_wp2;refine qaa (fun W=>Blk W g 135 #[.slice t.a P.1.length t.c,.slice t.b P.2.length t.d]/\Bst Z W gB ⟨y.vars++[(1,i,0)],y.coords,y.free⟩ hs' ra rc va1 vc1/\VecX (Yz Z gB ra va1) W t P/\Fr (Yb gB ra va) w W) ⟨?_,((hB1.out.far hn2.out).far hn2.out).less,(qa8 (qa8 hV1.out (.inr (.inr rfl))) (.inr (.inr rfl))).less qda,(hfr.out.setc (.inr hgw)).setc (.inr hgw)⟩ ?_
 ·
  have hz2':=hz2.out
  exact bk
 rintro w4 ⟨hF4,hB4,hV4,hf4⟩;obtain ⟨e0,e1⟩:=cq2 hF4;refine bodyPost_ret (v:=.agg #[.slice t.a P.1.length t.c,.slice t.b P.2.length t.d]) (by simp [results,Tryz.results67,go_sem,e0,e1]) rfl ?_;rw [hPP.out];exact ⟨va1,vc1,t,rfl,hB4,hV4,hf4,hvv.out⟩
theorem qun (Z:Nat->Prop) (gB:Nat) (y:Frm) (hs':List (VQ × Vec)) (ra va:Option Addr) (rc vc:Nat) (pt:ByteArray) (aa:Option Addr) (an ac:Nat) (x:QA) (i:Int) (w:World) (hB:Bst Z w gB y hs' ra rc va vc) (hl:y.vars.length<=800) (hZ:∀ b,Z b->b<w.heap.size) (args:List Int) (a b c:Vec) (han:an=args.length) (hI:Rd (Yz Z gB ra va) w fun V=>IntsR V aa ac args) (hlh:hs'.length<=1000000)
  (H0:Has2 args hs' 0 a) (H1:Has2 args hs' 1 b) (H2:Has2 args hs' 2 c) (fa:FineV a) (fb:FineV b) (fc:FineV c) (fs:FineV (subP c.1 b.1,subP c.2 b.2)) :
  Calls Tryz.prog 67 #[.pointer (some ⟨gB,0,none⟩),.agg #[.int .i64 3,.string pt,.slice aa an ac,.bool x.neg,.slice x.a x.n x.c,.slice x.b x.m x.d],.int .i64 i] w (RetSt Z gB y (addP a.1 (subP c.1 b.1),addP a.2 (subP c.2 b.2)) hs' ra rc va w):=by
 subst han;obtain ⟨an,han⟩:∃ an,an=args.length:=⟨_,rfl⟩
 rw [<- han];have HI:=Hd hI;replace H0:=Hd H0;replace H1:=Hd H1;replace H2:=Hd H2;replace fa:=Hd fa;replace fb:=Hd fb;replace fc:=Hd fc;replace fs:=Hd fs;replace han:=Hd han;clear hI;have HB:=Hd hB;have HZ:=Hd hZ;clear hB hZ;go_enter Tryz.func67,Tryz.ntmps67;go_wp2;refine qaa (fun W=>Blk W (w.heap.size+1+1+1) 167 #[.func (Fn.func 111) #[] #[.pointer (some ⟨w.heap.size,0,none⟩),.pointer (some ⟨w.heap.size+1,0,none⟩)]]/\Blk W (w.heap.size+1+1) 135 #[.slice none 0 0,.slice none 0 0]/\Blk W (w.heap.size+1) 93 #[.int .i64 3,.string pt,.slice aa an ac,.bool x.neg,.slice x.a x.n x.c,.slice x.b x.m x.d]/\Blk W w.heap.size 131 #[.pointer (some ⟨gB,0,none⟩)]/\Below w.heap.size w W) ⟨Blk.newAt (by simp),(Blk.newAt (by simp)).alloc _,((Blk.newAt (by simp)).alloc _).alloc _,(((Blk.new w _ _).alloc _).alloc _).alloc _,zg⟩ ?_;rintro w0 ⟨hF,hz,hS,he,hw0⟩;have hw0':Below w.heap.size w w0:=hw0
 have hB0:=(HB.out.wide (g:=w.heap.size+1+1) oo).call hw0';obtain ⟨s,hs⟩:∃ s,s=w.heap.size+1:=⟨_,rfl⟩
 obtain ⟨g,hg⟩:∃ g,g=w.heap.size+1+1:=⟨_,rfl⟩
 obtain ⟨f,hf⟩:∃ f,f=w.heap.size+1+1+1:=⟨_,rfl⟩
 rw [<- hg] at hz hB0;rw [<- hf] at hF;rw [<- hs] at hS;rw [<- hs] at hF
 try rw [<- hf]
 try rw [<- hg]
 try rw [<- hs]
 have hgw:w.heap.size<=g:=oo
 have hgl:=hz.lt;have hfl:=hF.lt;have hgf:g≠f:=oo
 have hge:g≠w.heap.size:=oo
 have hgs:g≠s:=oo
 have hZ0:∀ b,Xg Z g b->b<w0.heap.size:=Xg_lt HZ.out hw0.size hgl;have hf0:Fr (Yb gB ra va) w w0:=Fr.below hw0;have hn0:¬ Yb gB ra va g:=fun h=>by have:=HB.out.lt _ h;omega
 replace hs:=Hd hs;replace hg:=Hd hg;replace hf:=Hd hf;have hX0:∀ b,Yz (Xg Z g) gB ra va b->b<w0.heap.size:=fun b hb=>hb.elim (hB0.lt b) (hZ0 b)
 obtain ⟨j0,q0,i0,m0⟩:=H0.out;obtain ⟨j1,q1,i1,m1⟩:=H1.out;obtain ⟨j2,q2,i2,m2⟩:=H2.out;have c2:=hS.cell 2;have hI0:=(HI.out.call hw0).now;have A0:=qee hB0 (he.cell 0) (by rw [<- han.out];exact c2) hI0 hlh i0 m0;have A1:=qee hB0 (he.cell 0) (by rw [<- han.out];exact c2) hI0 hlh i1 m1;have A2:=qee hB0 (he.cell 0) (by rw [<- han.out];exact c2) hI0 hlh i2 m2;have d0:=held (hF.cell 0);have s0:Below w0.heap.size w0 w0.drew:=brf.drew;obtain ⟨X,hX⟩:∃ X,X=Yz (Xg Z g) gB ra va:=⟨_,rfl⟩
 rw [<- hX] at A0 A1 A2 hX0;replace A0:=Hd A0;replace A1:=Hd A1;replace A2:=Hd A2;replace hX0:=Hd hX0;replace hX:=Hd hX;replace hB0:=Hd hB0;clear hI0 hS he hF c2;obtain ⟨v0,hv0⟩:=nm w0.drew
 refine wrx (S:=Below w0.heap.size w0) [(0,.q),(3,.q),(5,.q),(1,.l),(2,.l),(4,.l),(6,.t),(7,.t),(8,.t),(9,.t)] (s0) ?_;rw [hv0] at s0 ⊢
 iterate 3 (refine qaf rfl rfl fun K hK=>xq ?_;go_simp;refine hK _ _ ?_;clear hK K)
 refine vl fun K hK=>?_
 go_simp;refine (A0.out X v0 (fun b h=>.inl h) (fun b hb=>ltl (hX0.out b hb) (s0).size) s0).mono ?_;rintro r w2 ⟨ta,rfl,Va,hb⟩;dsimp only;refine hK.out _ _ (bth s0 hb) (fun _=>?_);clear hK K;have s1:=bth s0 hb;replace Va:=Hd Va;clear hb;refine vl fun K hK=>?_
 go_simp;refine (qhx ta.a ta.b a.1.length ta.c a.2.length ta.d _).mono ?_;rintro r w3 ⟨rfl,hb⟩;dsimp only;refine hK.out _ _ (bth s1 hb) (fun _=>?_);clear hK K;have s2:=bth s1 hb;replace Va:=Hd (Va.out.call hb);clear hb;refine vl fun K hK=>?_
 go_simp;refine (A1.out X _ (fun b h=>.inl h) (fun b hb=>ltl (hX0.out b hb) (s2).size) s2).mono ?_;rintro r w4 ⟨tb,rfl,Vb,hb⟩;dsimp only;refine hK.out _ _ (bth s2 hb) (fun _=>?_);clear hK K;have s3:=bth s2 hb;replace Va:=Hd (Va.out.call hb);replace Vb:=Hd Vb;clear hb;refine vt fun K hK=>?_
 go_simp;refine (A2.out X _ (fun b h=>.inl h) (fun b hb=>ltl (hX0.out b hb) (s3).size) s3).mono ?_;rintro r w5 ⟨tc,rfl,Vc,hb⟩;dsimp only;refine hK.out _ _ ?_;clear hK K;have s4:=bth s3 hb;replace Va:=Hd (Va.out.call hb);replace Vb:=Hd (Vb.out.call hb);replace Vc:=Hd Vc;clear hb;refine vt fun K hK=>?_
 go_simp;refine (qgw X b c tb tc _ (fun b hb=>ltl (hX0.out b hb) (s4).size) Vb.out Vc.out fb.out fc.out).mono ?_;rintro r w6 ⟨td,rfl,Vd,hb⟩;dsimp only;refine hK.out _ _ ?_;clear hK K;have s5:=bth s4 hb;replace Va:=Hd (Va.out.call hb);replace Vd:=Hd Vd;clear hb;refine vt fun K hK=>?_
 go_simp;refine (qgn X a (subP c.1 b.1,subP c.2 b.2) (addP a.1 (subP c.1 b.1)) (addP a.2 (subP c.2 b.2)) ta td w6 (fun b hb=>ltl (hX0.out b hb) (s5).size) (qhp X a.1 (subP c.1 b.1) ta.a td.a ta.c td.c _ Va.out.1 Vd.out.1 fa.out.1 fs.out.1) (qhp X a.2 (subP c.2 b.2) ta.b td.b ta.d td.d _ Va.out.2 Vd.out.2 fa.out.2 fs.out.2)).mono ?_;rintro r w1 ⟨t,rfl,hV1,hb⟩;dsimp only;refine hK.out _ _ ?_;clear hK K;have s6:=bth s5 hb;have hf1:Fr (Yb gB ra va) w0 w1:=Fr.below s6;have hv1:∀ g,va=some g->va=some g\/w0.heap.size<=g.block:=fun g h=>.inl h
 have hB1:=hB0.out.call s6;obtain ⟨va1,hva1⟩:∃ v,v=va:=⟨_,rfl⟩
 obtain ⟨vc1,hvc1⟩:∃ v,v=vc:=⟨_,rfl⟩
 have hv1:∀ g,va1=some g->va=some g\/w0.heap.size<=g.block:=by rw [hva1];exact hv1
 rw [<- hva1,<- hvc1] at hB1;replace hV1:VecX (Yz (Xg Z g) gB ra va1) w1 t (addP a.1 (subP c.1 b.1),addP a.2 (subP c.2 b.2)):=by rw [hva1,<- hX.out];exact hV1
 clear A0 A1 A2 Va Vb Vc Vd hb hva1 hvc1 d0 s1 s2 s3 s4 s5;generalize hPP:(addP a.1 (subP c.1 b.1),addP a.2 (subP c.2 b.2))=P at hV1;replace hPP:=Hd hPP;have hn2:¬ Yb gB ra va1 g:=qdk hn0 hv1 hgl;have hz1:=hz.fr hf1 hn0;have hfr:Fr (Yb gB ra va) w w1:=hf0.trans hf1;have hvv:∀ g,va1=some g->va=some g\/w.heap.size<=g.block:=fun g hg=>by
  rcases hv1 g hg with e | e
  · exact .inl e
  · have:=hw0.size;exact .inr oo
 obtain ⟨y0,y1⟩:=cq2 hz1;obtain ⟨g0,g1⟩:=fq2 hz1;replace hV1:=Hd hV1;replace hB1:=Hd hB1;replace hvv:=Hd hvv;replace hfr:=Hd hfr;replace hn2:=Hd hn2;have hz2:=Hd hz1;clear hf0 hf1 hv1 hz hB0 hz1;have ep:=hPP.out;have ep1:addP a.1 (subP c.1 b.1)=P.1:=by rw [<- ep]
 have ep2:addP a.2 (subP c.2 b.2)=P.2:=by rw [<- ep]
 clear ep
 try rw [ep1,ep2]
 refine vt fun K hK=>?_
 go_simp;refine hK.out _ _ ?_;clear hK K;refine qad ?_;go_wp2;refine qaa (fun W=>Blk W g 135 #[.slice t.a P.1.length t.c,.slice t.b P.2.length t.d]/\Bst Z W gB y hs' ra rc va1 vc1/\VecX (Yz Z gB ra va1) W t P/\Fr (Yb gB ra va) w W) ⟨?_,((hB1.out.far hn2.out).far hn2.out).less,(qa8 (qa8 hV1.out (.inr (.inr rfl))) (.inr (.inr rfl))).less qda,(hfr.out.setc (.inr hgw)).setc (.inr hgw)⟩ ?_
 ·
  have hz2':=hz2.out
  exact bk
 rintro w4 ⟨hF4,hB4,hV4,hf4⟩;obtain ⟨e0,e1⟩:=cq2 hF4;refine bodyPost_ret (v:=.agg #[.slice t.a P.1.length t.c,.slice t.b P.2.length t.d]) (by simp [results,Tryz.results67,go_sem,e0,e1]) rfl ?_;rw [hPP.out];exact ⟨va1,vc1,t,rfl,hB4,hV4,hf4,hvv.out⟩
end Go.Proofs.YtmdlbpibipnapaaGreat
