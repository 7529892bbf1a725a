/- Walk: the reference's sum of polynomials. -/
import Derived.Test.YtmdlbpibipnapaaGreatRd14
import Derived.Laws.EntriesVeiled
import Derived.Test.YtmdlbpibipnapaaGreatRd12
import Derived.Test.YtmdlbpibipnapaaGreatRd11
import Derived.LoopN
import Derived.Test.YtmdlbpibipnapaaGreatRd10
import Derived.Test.YtmdlbpibipnapaaGreatRd9
import Derived.Test.YtmdlbpibipnapaaGreatRd2
import Derived.Test.YtmdlbpibipnapaaGreatRd1
set_option linter.all false
set_option maxRecDepth 100000
set_option maxHeartbeats 4000000
namespace Go.Proofs.YtmdlbpibipnapaaGreat
open Go.RowKit
theorem zz45 {P:Prop} (h:P:=by
 have y0:=hC.cell 0;have f0:=hC.frozen 0;have y1:=hC.cell 1;have f1:=hC.frozen 1;have hgl:=Hd hC.lt;refine qhy rfl rfl (fun K hK=>?_);go_simp;refine hK.out _ _ ?_;clear hK K;refine qdu ?_;refine ⟨rfl,z,gC,_,_,_,_,_,rfl,(s4.setCell hgC.out _).setCell hgC.out _,bk,?_⟩;exact (qa8 (qa8 P.out (.inr rfl)) (.inr rfl)).less fun b hb=>.inl hb
 ):P:=h
theorem zz44 {P:Prop} (h:P:=by
 refine qa7 rfl rfl (fun K hK=>?_);go_simp;refine (CB.out (Xg (Xg X g) gC) t1 t2 v3 (fun b hb=>hb.elim (fun h=>ltl (hY2.out b h) (s3).size) fun e=>by rw [e];exact hC.lt) V1.out V2.out).mono ?_;rintro r v4 ⟨z,rfl,P,hb⟩;dsimp only;have s4:=bth s3 hb;refine hK.out _ _ s4 (fun _=>?_);clear hK K;replace hC:=hC.below' hb;clear V1 V2;replace P:=Hd P;clear hb;exact zz45
 ):P:=h
theorem zz46 {P:Prop} (h:P:=by
 refine qa7 rfl rfl (fun K hK=>?_);go_simp;refine (A2.out (Xg (Xg X g) gC) v2 (fun b hb=>hb.elim (hY1.out b) fun e=>.inr (by have:=hgC.out;have:=hr0.size;rw [e];omega)) (fun b hb=>hb.elim (fun h=>ltl (hY2.out b h) (s2).size) fun e=>by rw [e];exact hC.lt) (bth hr0 s2)).mono ?_;rintro r v3 ⟨t2,rfl,V2,hb⟩;dsimp only;have s3:=bth s2 hb;refine hK.out _ _ s3 (fun _=>?_);clear hK K;replace hC:=hC.below' hb;replace V1:=Hd (V1.out.call hb);replace V2:=Hd V2;clear hb;exact zz44
 ):P:=h
theorem qw5 (Z:Nat->Prop) (gB:Nat) (y:Frm) (hs':List (VQ × Vec)) (ra va:Option Addr) (rc vc:Nat) (pt:ByteArray) (aa:Option Addr) (an ac:Nat) (x:QA) (i:Int) (w:World) (hB:Bst Z w gB y hs' ra rc va vc) (hl:y.vars.length<=800) (hZ:∀ b,Z b->b<w.heap.size) (args:List Int) (a b c:Vec) (han:an=args.length) (hI:Rd (Yz Z gB ra va) w fun V=>IntsR V aa ac args) (hlh:hs'.length<=1000000)
  (H0:Has2 args hs' 0 a) (H1:Has2 args hs' 1 b) (H2:Has2 args hs' 2 c) (fa:FineV a) (fb:FineV b) (fc:FineV c) (fs:FineV (subP c.1 b.1,subP c.2 b.2)) :
  Calls Tryz.prog 67 #[.pointer (some ⟨gB,0,none⟩),.agg #[.int .i64 4,.string pt,.slice aa an ac,.bool x.neg,.slice x.a x.n x.c,.slice x.b x.m x.d],.int .i64 i] w (RetSt Z gB y (addP a.1 (negP (subP c.2 b.2)),addP a.2 (subP c.1 b.1)) hs' ra rc va w):=by
 subst han;obtain ⟨an,han⟩:∃ an,an=args.length:=⟨_,rfl⟩
 rw [<- han];have HI:=Hd hI;replace H0:=Hd H0;replace H1:=Hd H1;replace H2:=Hd H2;replace fa:=Hd fa;replace fb:=Hd fb;replace fc:=Hd fc;replace fs:=Hd fs;replace han:=Hd han;clear hI;have HB:=Hd hB;have HZ:=Hd hZ;clear hB hZ;go_enter Tryz.func67,Tryz.ntmps67;go_wp2;refine qaa (fun W=>Blk W (w.heap.size+1+1+1) 167 #[.func (Fn.func 111) #[] #[.pointer (some ⟨w.heap.size,0,none⟩),.pointer (some ⟨w.heap.size+1,0,none⟩)]]/\Blk W (w.heap.size+1+1) 135 #[.slice none 0 0,.slice none 0 0]/\Blk W (w.heap.size+1) 93 #[.int .i64 4,.string pt,.slice aa an ac,.bool x.neg,.slice x.a x.n x.c,.slice x.b x.m x.d]/\Blk W w.heap.size 131 #[.pointer (some ⟨gB,0,none⟩)]/\Below w.heap.size w W) ⟨Blk.newAt (by simp),(Blk.newAt (by simp)).alloc _,((Blk.newAt (by simp)).alloc _).alloc _,(((Blk.new w _ _).alloc _).alloc _).alloc _,zg⟩ ?_;rintro w0 ⟨hF,hz,hS,he,hw0⟩;have hw0':Below w.heap.size w w0:=hw0
 have hB0:=(HB.out.wide (g:=w.heap.size+1+1) oo).call hw0';obtain ⟨s,hs⟩:∃ s,s=w.heap.size+1:=⟨_,rfl⟩
 obtain ⟨g,hg⟩:∃ g,g=w.heap.size+1+1:=⟨_,rfl⟩
 obtain ⟨f,hf⟩:∃ f,f=w.heap.size+1+1+1:=⟨_,rfl⟩
 rw [<- hg] at hz hB0;rw [<- hf] at hF;rw [<- hs] at hS;rw [<- hs] at hF
 try rw [<- hf]
 try rw [<- hg]
 try rw [<- hs]
 have hgw:w.heap.size<=g:=oo
 have hgl:=hz.lt;have hfl:=hF.lt;have hgf:g≠f:=oo
 have hge:g≠w.heap.size:=oo
 have hgs:g≠s:=oo
 have hZ0:∀ b,Xg Z g b->b<w0.heap.size:=Xg_lt HZ.out hw0.size hgl;have hf0:Fr (Yb gB ra va) w w0:=Fr.below hw0;have hn0:¬ Yb gB ra va g:=fun h=>by have:=HB.out.lt _ h;omega
 replace hs:=Hd hs;replace hg:=Hd hg;replace hf:=Hd hf;have hX0:∀ b,Yz (Xg Z g) gB ra va b->b<w0.heap.size:=fun b hb=>hb.elim (hB0.lt b) (hZ0 b)
 obtain ⟨j0,q0,i0,m0⟩:=H0.out;obtain ⟨j1,q1,i1,m1⟩:=H1.out;obtain ⟨j2,q2,i2,m2⟩:=H2.out;have c2:=hS.cell 2;have hI0:=(HI.out.call hw0).now;have A0:=qee hB0 (he.cell 0) (by rw [<- han.out];exact c2) hI0 hlh i0 m0;have A1:=qee hB0 (he.cell 0) (by rw [<- han.out];exact c2) hI0 hlh i1 m1;have A2:=qee hB0 (he.cell 0) (by rw [<- han.out];exact c2) hI0 hlh i2 m2;have hFc:=Hd (show ∀ n:Nat,w0.cell? ⟨f,0,none⟩=some (.func (Fn.func 111) #[] #[.pointer (some ⟨w.heap.size,0,none⟩),.pointer (some ⟨s,0,none⟩)]) from fun _=>hF.cell 0);have d0:=held (hF.cell 0);have s0:Below w0.heap.size w0 w0.drew:=brf.drew;obtain ⟨X,hX⟩:∃ X,X=Yz (Xg Z g) gB ra va:=⟨_,rfl⟩
 rw [<- hX] at A0 A1 A2 hX0;replace A0:=Hd A0;replace A1:=Hd A1;replace A2:=Hd A2;replace hX0:=Hd hX0;replace hX:=Hd hX;replace hB0:=Hd hB0;clear hI0 hS he hF c2;have hr0:Below w0.heap.size w0 w0:=Below.refl _ _;have hY1:Hid (∀ b,Xg X g b->X b\/w0.heap.size<=b):=Hd fun b hb=>hb.elim .inl fun e=>.inl (by rw [hX.out,e];exact .inr (.inr rfl))
 have hY2:Hid (∀ b,Xg X g b->b<w0.heap.size):=Hd fun b hb=>hb.elim (hX0.out b) fun e=>by rw [e];exact hgl
 obtain ⟨d,hd⟩:∃ d:Vec,d=(subP c.1 b.1,subP c.2 b.2):=⟨_,rfl⟩
 have CB:=fun (Y:Nat->Prop) (t1 t2:VQ) W h1 h2 h3=>qgw Y b c t1 t2 W h1 h2 h3 fb.out fc.out
 have hfd:=fs.out;rw [<- hd] at CB hfd;replace CB:=Hd CB;replace hd:=Hd hd;replace hfd:=Hd hfd
 refine wp_mono (Q:=fun xx a' W=>xx=.normal/\(∃ (z:VQ) (gC:Nat) (u38 u39 u40 u41 u42:Value),a'=⟨#[.pointer (some ⟨gB,0,none⟩),.agg #[.int .i64 4,.string pt,.slice aa an ac,.bool x.neg,.slice x.a x.n x.c,.slice x.b x.m x.d],.int .i64 i,.pointer (some ⟨w.heap.size,0,none⟩),.pointer (some ⟨s,0,none⟩),undef,.pointer (some ⟨g,0,none⟩),.pointer (some ⟨f,0,none⟩),.func (Fn.func 112) #[] #[.pointer (some ⟨f,0,none⟩)],.pointer (some ⟨gC,0,none⟩),undef,.func (Fn.func 111) #[] #[.pointer (some ⟨w.heap.size,0,none⟩),.pointer (some ⟨s,0,none⟩)],.func (Fn.func 112) #[] #[.pointer (some ⟨f,0,none⟩)],.pointer (some ⟨s,0,none⟩),.int .i64 4,.bool false,.bool false,undef,undef,undef,.bool false,.bool false,undef,undef,undef,.bool false,.bool false,undef,undef,undef,undef,undef,undef,undef,undef,undef,.bool true,.bool true,u38,u39,u40,u41,u42,undef,undef,undef,undef,undef,undef,undef,undef,undef,undef,undef,undef,undef,undef,undef,undef,undef,undef,undef,undef,undef,undef,undef,undef,undef,undef,undef,undef,undef],[]⟩/\Below w0.heap.size w0 W/\Blk W gC 135 #[.slice z.a d.1.length z.c,.slice z.b d.2.length z.d]/\VecX (Xg X g) W z d)) ?_ ?_
 ·
  skip
  obtain ⟨v0,hv0⟩:=nm w0.drew
  refine qdb (S:=Below w0.heap.size w0) (.q 0 (.q 2 (.two 1 (.two 3 (.two 4 (.l 5 (.t 6 .nil)) 5 (.l 4 (.t 6 .nil))) 5 (.l 3 (.l 4 (.t 6 .nil)))) 5 (.l 1 (.l 3 (.l 4 (.t 6 .nil))))))) [6] (by kernel_rfl) (by kernel_rfl) (by kernel_rfl) (fun d _ _ _ _ h=>by cases h.1) s0 ?_;rw [hv0] at s0 ⊢
  iterate 2 (refine qgq rfl rfl fun K hK=>xq ?_;go_simp;refine hK _ _ ?_;clear hK K)
  refine qdh ?_ ?_
  ·
   skip
   refine qa7 rfl rfl (fun K hK=>?_);go_simp;refine (A1.out (Xg X g) v0 hY1.out (fun b hb=>ltl (hY2.out b hb) (s0).size) (bth hr0 s0)).mono ?_;rintro r v1 ⟨t1,rfl,V1,hb⟩;dsimp only;have s1:=bth s0 hb;refine hK.out _ _ s1 (fun _=>?_);clear hK K;replace V1:=Hd V1;clear hb;refine qdh ?_ ?_
   ·
    skip
    refine qa7 rfl rfl (fun K hK=>?_);go_simp;refine (A2.out (Xg X g) v1 hY1.out (fun b hb=>ltl (hY2.out b hb) (s1).size) (bth hr0 s1)).mono ?_;rintro r v2 ⟨t2,rfl,V2,hb⟩;dsimp only;have s2:=bth s1 hb;refine hK.out _ _ s2 (fun _=>?_);clear hK K;replace V1:=Hd (V1.out.call hb);replace V2:=Hd V2;clear hb;refine qdh ?_ ?_
    ·
     skip
     refine qa7 rfl rfl (fun K hK=>?_);go_simp;refine (CB.out (Xg X g) t1 t2 v2 (fun b hb=>ltl (hY2.out b hb) (s2).size) V1.out V2.out).mono ?_;rintro r v3 ⟨z,rfl,P,hb⟩;dsimp only;have s3:=bth s2 hb;refine hK.out _ _ s3 (fun _=>?_);clear hK K;clear V1 V2;replace P:=Hd P;clear hb;refine qa7 rfl rfl (fun K hK=>?_);go_simp;refine hK.out _ _ (s3.alloc s3.size _) (fun _=>?_);clear hK K;refine qaa (fun W=>Blk W v3.heap.size 135 #[.slice none 0 0,.slice none 0 0]/\Below w0.heap.size w0 W/\VecX (Xg (Xg X g) v3.heap.size) W z d) ⟨bk,s3.alloc s3.size _,(P.out.more (qcy (nlr _))).call (brf.alloc (nlr _) _)⟩ ?_;rintro v4 ⟨hC,s4,P⟩;have hgC:=Hd (show w0.heap.size<=v3.heap.size from s3.size);obtain ⟨gC,egC⟩:=nm v3.heap.size
     rw [egC] at hC hgC P ⊢;replace egC:=Hd egC;replace P:=Hd P;exact zz45
    ·
     skip
     refine qa7 rfl rfl (fun K hK=>?_);go_simp;refine hK.out _ _ (s2.alloc s2.size _) (fun _=>?_);clear hK K;refine qaa (fun W=>Blk W v2.heap.size 135 #[.slice none 0 0,.slice none 0 0]/\Below w0.heap.size w0 W/\VecX (Xg (Xg X g) v2.heap.size) W t1 b/\VecX (Xg (Xg X g) v2.heap.size) W t2 c) ⟨bk,s2.alloc s2.size _,(V1.out.more (qcy (nlr _))).call (brf.alloc (nlr _) _),(V2.out.more (qcy (nlr _))).call (brf.alloc (nlr _) _)⟩ ?_;rintro v3 ⟨hC,s3,V1,V2⟩;have hgC:=Hd (show w0.heap.size<=v2.heap.size from s2.size);obtain ⟨gC,egC⟩:=nm v2.heap.size
     rw [egC] at hC hgC V1 V2 ⊢;replace egC:=Hd egC;replace V1:=Hd V1;replace V2:=Hd V2;exact zz44
   ·
    skip
    refine qa7 rfl rfl (fun K hK=>?_);go_simp;refine hK.out _ _ (s1.alloc s1.size _) (fun _=>?_);clear hK K;refine qaa (fun W=>Blk W v1.heap.size 135 #[.slice none 0 0,.slice none 0 0]/\Below w0.heap.size w0 W/\VecX (Xg (Xg X g) v1.heap.size) W t1 b) ⟨bk,s1.alloc s1.size _,(V1.out.more (qcy (nlr _))).call (brf.alloc (nlr _) _)⟩ ?_;rintro v2 ⟨hC,s2,V1⟩;have hgC:=Hd (show w0.heap.size<=v1.heap.size from s1.size);obtain ⟨gC,egC⟩:=nm v1.heap.size
    rw [egC] at hC hgC V1 ⊢;replace egC:=Hd egC;replace V1:=Hd V1;exact zz46
  ·
   skip
   refine qa7 rfl rfl (fun K hK=>?_);go_simp;refine hK.out _ _ (s0.alloc s0.size _) (fun _=>?_);clear hK K;refine qaa (fun W=>Blk W v0.heap.size 135 #[.slice none 0 0,.slice none 0 0]/\Below w0.heap.size w0 W) ⟨bk,s0.alloc s0.size _⟩ ?_;rintro v1 ⟨hC,s1⟩;have hgC:=Hd (show w0.heap.size<=v0.heap.size from s0.size);obtain ⟨gC,egC⟩:=nm v0.heap.size
   rw [egC] at hC hgC ⊢;replace egC:=Hd egC;refine qa7 rfl rfl (fun K hK=>?_);go_simp;refine (A1.out (Xg (Xg X g) gC) v1 (fun b hb=>hb.elim (hY1.out b) fun e=>.inr (by have:=hgC.out;have:=hr0.size;rw [e];omega)) (fun b hb=>hb.elim (fun h=>ltl (hY2.out b h) (s1).size) fun e=>by rw [e];exact hC.lt) (bth hr0 s1)).mono ?_;rintro r v2 ⟨t1,rfl,V1,hb⟩;dsimp only;have s2:=bth s1 hb;refine hK.out _ _ s2 (fun _=>?_);clear hK K;replace hC:=hC.below' hb;replace V1:=Hd V1;clear hb;exact zz46
 ·
  rintro e1 a1 w3 ⟨rfl,z,gC,u38,u39,u40,u41,u42,rfl,s1,hC,hV⟩;have hz3:=hz.below' s1;have k1:=held (held (hFc.out 0) w3 s1);have c0:=held (hC.cell 0);have c1:=held (hC.cell 1);have t0:Below w3.heap.size w3 w3.drew:=brf.drew;have hsz:=Hd s1.size;replace hV:=Hd hV;replace s1:=Hd s1;clear hC CB A1 A2;go_wp2;obtain ⟨v0,hv0⟩:=nm w3.drew
  refine wrx (S:=Below w3.heap.size w3) [(0,.q),(3,.q),(4,.q),(6,.q),(7,.q),(1,.l),(2,.l),(5,.l),(8,.p),(9,.t),(10,.t)] (t0) ?_;rw [hv0] at t0 ⊢
  iterate 5 (refine qaf rfl rfl fun K hK=>xq ?_;go_simp;refine hK _ _ ?_;clear hK K)
  refine vl fun K hK=>?_
  go_simp;refine (A0.out (Xg X g) v0 hY1.out (fun b hb=>ltl (hY2.out b hb) (Nat.le_trans hsz.out (t0).size)) (bth s1.out t0)).mono ?_;rintro r w2 ⟨ta,rfl,Va,hb⟩;dsimp only;refine hK.out _ _ (bth t0 hb) (fun _=>?_);clear hK K;have t1:=bth t0 hb;replace Va:=Hd Va;clear hb;refine vl fun K hK=>?_
  go_simp;refine (qhx ta.a ta.b a.1.length ta.c a.2.length ta.d _).mono ?_;rintro r w4 ⟨rfl,hb⟩;dsimp only;refine hK.out _ _ (bth t1 hb) (fun _=>?_);clear hK K;have t2:=bth t1 hb;replace Va:=Hd (Va.out.call hb);clear hb;refine vl fun K hK=>?_
  go_simp;refine (quy (Xg X g) d.2 z.b z.d _ (fun b hb=>ltl (hY2.out b hb) (Nat.le_trans hsz.out (t2).size)) (hV.out.2.call t2) hfd.out.2).mono ?_;rintro r w5 ⟨an,cn,rfl,Pn,hb⟩;dsimp only;refine hK.out _ _ (bth t2 hb) (fun _=>?_);clear hK K;have t3:=bth t2 hb;replace Va:=Hd (Va.out.call hb);replace Pn:=Hd Pn;clear hb
  refine qaj rfl rfl fun K hK=>xp ?_;go_simp;refine hK _ _ ?_;clear hK K
  refine vt fun K hK=>?_
  go_simp;refine (qgn (Xg X g) a (negP d.2,d.1) (addP a.1 (negP d.2)) (addP a.2 d.1) ta ⟨an,cn,z.a,z.c⟩ w5 (fun b hb=>ltl (hY2.out b hb) (Nat.le_trans hsz.out (t3).size)) (qhp (Xg X g) a.1 (negP d.2) ta.a an ta.c cn _ Va.out.1 Pn.out fa.out.1 (qj5 hfd.out.2)) (qhp (Xg X g) a.2 d.1 ta.b z.a ta.d z.c _ Va.out.2 (hV.out.1.call t3) fa.out.2 hfd.out.1)).mono ?_;rintro r w1 ⟨t,rfl,hV1,hb⟩;dsimp only;refine hK.out _ _ ?_;clear hK K;have s6:=bth s1.out (bth t3 hb);have hf1:Fr (Yb gB ra va) w0 w1:=Fr.below s6;have hv1:∀ g,va=some g->va=some g\/w0.heap.size<=g.block:=fun g h=>.inl h
  have hB1:=hB0.out.call s6;obtain ⟨va1,hva1⟩:∃ v,v=va:=⟨_,rfl⟩
  obtain ⟨vc1,hvc1⟩:∃ v,v=vc:=⟨_,rfl⟩
  have hv1:∀ g,va1=some g->va=some g\/w0.heap.size<=g.block:=by rw [hva1];exact hv1
  rw [<- hva1,<- hvc1] at hB1;replace hV1:VecX (Yz (Xg Z g) gB ra va1) w1 t (addP a.1 (negP d.2),addP a.2 d.1):=by rw [hva1,<- hX.out];exact hV1.less fun b hb=>.inl hb
  have e1:d.1=subP c.1 b.1:=by rw [hd.out]
  have e2:d.2=subP c.2 b.2:=by rw [hd.out]
  obtain ⟨P,hPP⟩:=nm ((addP a.1 (negP (subP c.2 b.2)),addP a.2 (subP c.1 b.1)))
  have ep1:addP a.1 (negP d.2)=P.1:=by rw [e2,<- hPP]
  have ep2:addP a.2 d.1=P.2:=by rw [e1,<- hPP]
  rw [ep1,ep2] at hV1;replace hV1:VecX (Yz (Xg Z g) gB ra va1) w1 t P:=hV1;replace hPP:=Hd hPP;clear Va Pn hb hva1 hvc1 t1 t2 t3 c0 c1 k1 e1 e2;have hn2:¬ Yb gB ra va1 g:=qdk hn0 hv1 hgl;have hz1:=hz.fr hf1 hn0;have hfr:Fr (Yb gB ra va) w w1:=hf0.trans hf1;have hvv:∀ g,va1=some g->va=some g\/w.heap.size<=g.block:=fun g hg=>by
   rcases hv1 g hg with e | e
   · exact .inl e
   · have:=hw0.size;exact .inr oo
  obtain ⟨y0,y1⟩:=cq2 hz1;obtain ⟨g0,g1⟩:=fq2 hz1;replace hV1:=Hd hV1;replace hB1:=Hd hB1;replace hvv:=Hd hvv;replace hfr:=Hd hfr;replace hn2:=Hd hn2;have hz2:=Hd hz1;clear hf0 hf1 hv1 hz hB0 hz1
  try rw [ep1,ep2]
  clear ep1 ep2;refine vt fun K hK=>?_
  go_simp;refine hK.out _ _ ?_;clear hK K;refine qad ?_;go_wp2;refine qaa (fun W=>Blk W g 135 #[.slice t.a P.1.length t.c,.slice t.b P.2.length t.d]/\Bst Z W gB y hs' ra rc va1 vc1/\VecX (Yz Z gB ra va1) W t P/\Fr (Yb gB ra va) w W) ⟨?_,((hB1.out.far hn2.out).far hn2.out).less,(qa8 (qa8 hV1.out (.inr (.inr rfl))) (.inr (.inr rfl))).less qda,(hfr.out.setc (.inr hgw)).setc (.inr hgw)⟩ ?_
  ·
   have hz2':=hz2.out
   exact bk
  rintro w4 ⟨hF4,hB4,hV4,hf4⟩;obtain ⟨e0,e1⟩:=cq2 hF4;refine bodyPost_ret (v:=.agg #[.slice t.a P.1.length t.c,.slice t.b P.2.length t.d]) (by simp [results,Tryz.results67,go_sem,e0,e1]) rfl ?_;rw [hPP.out];exact ⟨va1,vc1,t,rfl,hB4,hV4,hf4,hvv.out⟩
theorem qrq {i a D:Nat} (ha:a<=65536 ^ 3) (h:D<=a ^ i):D<65536 ^ (3*i+1):=by
 have h1:a ^ i<=(65536 ^ 3) ^ i:=Nat.pow_le_pow_left ha i;rw [<- Nat.pow_mul] at h1;have h2:65536 ^ (3*i)<65536 ^ (3*i+1):=Nat.pow_lt_pow_right dd (Nat.lt_succ_self _);exact Nat.lt_of_le_of_lt (Nat.le_trans h h1) h2
theorem qeq {i:Nat} {B:Int} {D M:Nat} {p:List Tm} (hk:Pok B p) (hB:B<=1048576) (ho:PolyO D M p) (hD:0<D) (h1:D<=(2 ^ 32) ^ i) (h2:M<=(3*2 ^ 32) ^ i) (hi:i<=300) (hl:p.length<=100000):FineP p :=
 ⟨hl,fun u hu=>⟨(hk.1 u hu).1.more hB,(hk.1 u hu).2,by
  obtain ⟨e1,e2⟩:=(ho u hu).parts hD;have g1:=qam (qrq (i:=i) dd (Nat.le_trans e1 h2));have g2:=qam (qrq (i:=i) dd (Nat.le_trans e2 h1));exact qgl oo oo⟩⟩
section
variable {i D M : Nat} {x : Frm}
theorem FrmOk.fine (h:FrmOk i D M x) (hi:i<=100) (args:List Int) (k:Nat):FineP (argF x.coords args k).1/\FineP (argF x.coords args k).2:=by
 obtain ⟨⟨a1,a2,a3⟩,⟨b1,b2,b3⟩⟩:=qga h args k;obtain ⟨h0,h1,h2,h3,_⟩:=h;exact ⟨qeq a1 oo a2 h1 h2 h3 oo oo,qeq b1 oo b2 h1 h2 h3 oo oo⟩
theorem zz47 {P:Prop} (h:P:=by
 have e2:(3*2 ^ 32:Nat) ^ (i+1)=(3*2 ^ 32) ^ i*(3*2 ^ 32):=Nat.pow_succ _ _;rw [e2];generalize (3*2 ^ 32) ^ i=P at *
 omega
 ):P:=h
theorem FrmOk.diff (h:FrmOk i D M x) (hi:i<=100) {p q:List Tm} (hp:Pok i p/\PolyO D M p/\p.length<=4000) (hq:Pok i q/\PolyO D M q/\q.length<=4000) :
  FineP (subP p q)/\Pok i (subP p q):=by
 obtain ⟨h0,h1,h2,h3,_⟩:=h;have hl:=qe9 p q;have ho:=hp.2.1.sub hq.2.1;have hk:=qd4 hp.1 hq.1;refine ⟨qeq (i:=i+1) hk oo ho h1 (Nat.le_trans h2 ?_) ?_ oo oo,hk⟩
 · exact Nat.pow_le_pow_right dd oo
 ·
  exact zz47
theorem FrmOk.scaled (h:FrmOk i D M x) (hi:i<=100) {p q:List Tm} (hp:Pok i p/\PolyO D M p/\p.length<=4000) (hq:Pok i q/\PolyO D M q/\q.length<=4000) {r:Rat} (hr:r.num.natAbs<=2 ^ 32/\r.den<=2 ^ 32) :
  FineP (qau (subP p q) r):=by
 obtain ⟨h0,h1,h2,h3,h4,_⟩:=h;have hl:=qe9 p q;have hl2:=qk5 (subP p q) r;have ho:=(hp.2.1.sub hq.2.1).scale r;have hk:=qfv (a:=r) (qd4 hp.1 hq.1);have d0:0<r.den:=Nat.pos_of_ne_zero r.den_nz;refine qeq (i:=i+2) hk oo ho (Nat.mul_pos h1 d0) ?_ ?_ oo oo
 ·
  refine Nat.le_trans (Nat.mul_le_mul h2 hr.2) ?_;rw [<- Nat.pow_succ];exact Nat.pow_le_pow_right dd oo
 ·
  have e2:(3*2 ^ 32:Nat) ^ (i+2)=(3*2 ^ 32) ^ i*(3*2 ^ 32)*(3*2 ^ 32):=by rw [Nat.pow_succ,Nat.pow_succ]
  refine Nat.le_trans (Nat.mul_le_mul (Nat.add_le_add h3 h3) hr.1) ?_;rw [e2];generalize (3*2 ^ 32) ^ i=P at *
  omega
theorem qo6 (n:Nat):FineP (varP n):=qeq (i:=0) (D:=1) (M:=1) (qel (B:=1) (Int.le_refl _)) oo (qix n (nlr _)) oo (by simp) (by simp) oo (by have:=qh4 n;omega)
theorem FrmOk.turned (h:FrmOk i D M x) (hi:i<=100) {p q:List Tm} (hp:Pok i p/\PolyO D M p/\p.length<=4000) (hq:Pok i q/\PolyO D M q/\q.length<=4000) (n:Nat) :
  FineP (mulP (subP p q) (varP n)):=by
 obtain ⟨h0,h1,h2,h3,_⟩:=h;have hl:=qe9 p q;have ho:=qil (n:=n) (hp.2.1.sub hq.2.1);have hk:=qjy (i:=i) (qd4 hp.1 hq.1) n;have hl2:(mulP (subP p q) (varP n)).length<=(subP p q).length:=by
  unfold varP
  split
  · rw [qc3];simp [qaq]
  · rw [qfk];simp
 refine qeq (i:=i+1) hk oo ho h1 (Nat.le_trans h2 ?_) ?_ oo oo
 · exact Nat.pow_le_pow_right dd oo
 ·
  exact zz47
end
def needK (kind:Int):Nat:=if kind=2\/kind=5 then 2 else if kind=3\/kind=4 then 3 else 0
theorem qrs {hs':List (VQ × Vec)} {coords:List Vec} {args:List Int} (he:hs'.map Prod.snd=coords) {k:Nat} (hk:k<args.length) (hr:∀ x∈args,0<=x/\x<coords.length):Has2 args hs' k (argF coords args k):=by
 obtain ⟨x,hx⟩:=qab hk;obtain ⟨r1,r2⟩:=hr x (List.mem_of_getElem? hx);subst he;have hl:x.toNat<hs'.length:=by simp at r2;omega
 obtain ⟨z,hz⟩:=qab hl;refine ⟨x.toNat,z.1,by rw [hx];congr 1;omega,?_⟩;have e:argF (hs'.map Prod.snd) args k=z.2:=by
  unfold argF;rw [List.getD_eq_getElem?_getD,List.getD_eq_getElem?_getD,hx];simp [hz]
 rw [e];exact hz
theorem qy9 (Z:Nat->Prop) (gB:Nat) (y:Frm) (hs':List (VQ × Vec)) (ra va:Option Addr) (rc vc:Nat) (pt:ByteArray) (aa:Option Addr) (ac:Nat) (x:QA) (i D M:Nat) (w:World) (hB:Bst Z w gB y hs' ra rc va vc) (hZ:∀ b,Z b->b<w.heap.size)
  (hok:FrmOk i D M y) (hi:i<=100) (kind:Int) (k1:1<=kind) (k7:kind<=14) (args:List Int) (q:Rat) (hn:needK kind<=args.length) (hr:∀ x∈args,0<=x/\x<i) (hI:Rd (Yz Z gB ra va) w fun V=>IntsR V aa ac args)
  (hx:kind=2->Rd (Yz Z gB ra va) w fun V=>QAc V x q) (hq:kind=2->q.num.natAbs<=2 ^ 32/\q.den<=2 ^ 32) :
  Calls Tryz.prog 67 #[.pointer (some ⟨gB,0,none⟩),.agg #[.int .i64 kind,.string pt,.slice aa args.length ac,.bool x.neg,.slice x.a x.n x.c,.slice x.b x.m x.d],.int .i64 i] w
   (RetSt Z gB ⟨(nextF y kind args q i).1,y.coords,if kind=1 then y.free+1 else y.free⟩ (nextF y kind args q i).2 hs' ra rc va w):=by
 have hvl:y.vars.length<=64:=hok.2.2.2.2.2.1;have hfl:y.free<=i:=hok.2.2.2.2.2.2.1;have hcl:y.coords.length=i:=hok.1;have hlh:hs'.length<=1000000:=by
  have:=congrArg List.length hB.eq;simp at this
  omega
 have HH:=fun k hk=>qrs (k:=k) hB.eq hk (fun x hx=>by have:=hr x hx;omega)
 have A:=fun k=>qga hok args k
 have Fi:=fun k=>hok.fine hi args k
 have V:=fun j k=>(⟨(hok.diff hi (A k).1 (A j).1).1,(hok.diff hi (A k).2 (A j).2).1⟩:FineV (subP (argF y.coords args k).1 (argF y.coords args j).1,subP (argF y.coords args k).2 (argF y.coords args j).2))
 have hk:kind=1\/kind=2\/kind=3\/kind=4\/kind=5\/kind=6\/7<=kind:=oo
 rcases hk with rfl | rfl | rfl | rfl | rfl | rfl | k7
 ·
  have:=qvg Z gB y hs' ra va rc vc pt aa args.length ac x i w hB oo hZ oo;simpa only [nextF,qc0,if_true] using this
 ·
  obtain ⟨q1,q2⟩:=hq rfl;have hqs:qsz q<=1000:=qgl (Nat.le_trans (qam (k:=3) (Nat.lt_of_le_of_lt q1 dd)) oo) (Nat.le_trans (qam (k:=3) (Nat.lt_of_le_of_lt q2 dd)) oo);have:=qwi Z gB y hs' ra va rc vc pt aa args.length ac x i w hB oo hZ args q _ _ rfl hI (hx rfl) hqs hlh (HH 0 (by simp [needK] at hn;omega)) (HH 1 (by simp [needK] at hn;omega)) (Fi 0) (Fi 1) (V 0 1) ⟨hok.scaled hi (A 1).1 (A 0).1 ⟨q1,q2⟩,hok.scaled hi (A 1).2 (A 0).2 ⟨q1,q2⟩⟩;simpa [nextF,qe2] using this
 ·
  have:=qun Z gB y hs' ra va rc vc pt aa args.length ac x i w hB oo hZ args _ _ _ rfl hI hlh (HH 0 (by simp [needK] at hn;omega)) (HH 1 (by simp [needK] at hn;omega)) (HH 2 (by simp [needK] at hn;omega)) (Fi 0) (Fi 1) (Fi 2) (V 1 2);simpa [nextF] using this
 ·
  have:=qw5 Z gB y hs' ra va rc vc pt aa args.length ac x i w hB oo hZ args _ _ _ rfl hI hlh (HH 0 (by simp [needK] at hn;omega)) (HH 1 (by simp [needK] at hn;omega)) (HH 2 (by simp [needK] at hn;omega)) (Fi 0) (Fi 1) (Fi 2) (V 1 2);rw [qxz (A 2).2.1 (A 1).2.1] at this;simpa [nextF] using this
 ·
  have:=qww Z gB y hs' ra va rc vc pt aa args.length ac x i w hB oo hZ args i _ _ rfl hI hlh (HH 0 (by simp [needK] at hn;omega)) (HH 1 (by simp [needK] at hn;omega)) (Fi 0) (Fi 1) (V 0 1) (qo6 _) ⟨hok.turned hi (A 1).1 (A 0).1 _,hok.turned hi (A 1).2 (A 0).2 _⟩ (hok.diff hi (A 1).1 (A 0).1).2 (hok.diff hi (A 1).2 (A 0).2).2 oo;simpa [nextF,qe2] using this
 ·
  have:=qt3 Z gB y hs' ra va rc vc pt aa args.length ac x i w hB oo hZ;simpa [nextF] using this
 ·
  have:=qw9 kind k7 Z gB y hs' ra va rc vc pt aa args.length ac x i w hB oo hZ;have e1:¬ kind=1:=oo
  have e2:¬ kind=2:=oo
  have e3:¬ kind=3:=oo
  have e4:¬ kind=4:=oo
  have e5:¬ kind=5:=oo
  have e6:¬ kind=6:=oo
  unfold nextF;rw [if_neg e1,if_neg e1,if_neg e2,if_neg e3,if_neg e4,if_neg e5,if_neg e6];exact this
theorem qom {B:Nat} {w:World} {l:List (VQ × Vec)} {o:Oper} {act:Act} {K:Act->World->Prop} {Q:Exit->Act->World->Prop} (s y:Operand) (ts:TypeId)
  (ho:o.op=.call { callee:=.builtin .append,args:=#[s,y],argTypes:=#[ts,ts] }) (hu:Tryz.prog.underlying ts=some (.slice 120))
  (a:Option Addr) (c:Nat) (hs:act.eval s=.slice a l.length c) (hown:OwnCo B w a c l)
  (x:VQ × Vec) (b c1:Nat) (hy:act.eval y=.slice (some ⟨b,0,none⟩) 1 c1) (hcell:∀ j u,(coC x)[j]? = some u->w.cell? ⟨b,j,none⟩=some u)
  (l2:List (VQ × Vec)) (hl2:l2=l++[x]) (hlen:l2.length<=16777216) (hB:B<=w.heap.size)
  (h:∀ a' c' w',OwnCo B w' a' c' l2->w.grownBy w' (Value.ownBlock (.slice a l.length c))->((∃ g,a'=some ⟨g,0,none⟩/\(a=some ⟨g,0,none⟩\/g=w.heap.size))) ->
   K (act.put o.dst (.slice a' l2.length c')) w'):o.wp Tryz.prog act w K Q :=
 qhb s y ts ho hu qhg rfl oo oo qbr a c hs hown x (qf8 x) b c1 hy hcell l2 hl2 hlen hB h
section
variable {Z : Nat -> Prop} {w w2 : World} {gB : Nat} {x : Frm} {hs : List (VQ × Vec)} {ra ra2 va : Option Addr} {rc rc2 vc : Nat}
theorem Bst.push (h:Bst Z w gB x hs ra rc va vc) (z:VQ × Vec) (hz:VecX (Yz Z gB ra va) w z.1 z.2) (ho:OwnCo (gB+1) w2 ra2 rc2 (hs++[z])) (hg:w.grownBy w2 (Value.ownBlock (.slice ra hs.length rc)))
  (ha:∃ g,ra2=some ⟨g,0,none⟩/\(ra=some ⟨g,0,none⟩\/g=w.heap.size)) :
  Bst Z (w2.setCell ⟨gB,0,none⟩ (.slice ra2 (hs.length+1) rc2)) gB ⟨x.vars,x.coords++[z.2],x.free⟩ (hs++[z]) ra2 rc2 va vc /\
   Fr (Yb gB ra va) w (w2.setCell ⟨gB,0,none⟩ (.slice ra2 (hs.length+1) rc2))/\(∀ g,ra2=some g->ra=some g\/w.heap.size<=g.block):=by
 have hz2:=h.blk.under h.co (Nat.lt_succ_self gB) hg;have hne:∀ g,va=some g->Value.ownBlock (.slice ra hs.length rc)≠some g.block:=fun g hg e=>by
  cases hv:ra with
  | none=>rw [hv] at e;simp [Value.ownBlock] at e
  | some g' =>
   rw [hv] at e;simp [Value.ownBlock] at e;exact qfp h.co h.vr dd g' g hv hg e
 have hvr2:OwnVr (gB+1) w2 va vc x.vars:=h.vr.grown hg hne;have hfr:Fr (Yb gB ra va) w (w2.setCell ⟨gB,0,none⟩ (.slice ra2 (hs.length+1) rc2)):=((Fr.refl (Yb gB ra va) w).grown hg fun g hg=>.inl (.inr (.inl ⟨g,hg,rfl⟩))).setc (.inl (.inl rfl));have hra2:∀ g,ra2=some g->ra=some g\/w.heap.size<=g.block:=fun g hg=>by
  obtain ⟨g',e1,e2⟩:=ha;rw [e1] at hg;injection hg with hg
  subst hg;rcases e2 with e2 | e2
  · exact .inl e2
  · right;show _<=g';omega
 have hYm:∀ b,Yz Z gB ra2 va b->Yz Z gB ra va b\/w.heap.size<=b:=fun b hb=>by
  rcases hb with (hb | ⟨g,hg,rfl⟩ | hb) | hb
  · exact .inl (.inl (.inl hb))
  ·
   rcases hra2 g hg with e | e
   · exact .inl (.inl (.inr (.inl ⟨g,e,rfl⟩)))
   · exact .inr e
  · exact .inl (.inl (.inr (.inr hb)))
  · exact .inl (.inr hb)
 refine ⟨⟨by simp [h.eq],?_,ho.far (Nat.lt_succ_self gB) _,hvr2.far (Nat.lt_succ_self gB) _,fun u hu=>?_⟩,hfr,hra2⟩
 ·
  have:=hz2.set_ 0 (.slice ra2 (hs.length+1) rc2);simpa using this
 ·
  rcases List.mem_append.1 hu with e | e
  · exact (h.all u e).move hYm (hfr.mono fun b hb=>.inl hb)
  ·
   rw [List.mem_singleton] at e;subst e;exact hz.move hYm (hfr.mono fun b hb=>.inl hb)
end
def Rt.q (r:Rt):Rat:=qv r.neg (Go.Proofs.YtmdlbpibipnapaaGreat.val r.num) (Go.Proofs.YtmdlbpibipnapaaGreat.val r.den)
def RtZ (w:World) (r:Rt) (z:QA):Prop:=z.neg=r.neg/\z.n=r.num.length/\z.m=r.den.length/\NatR w z.a z.c r.num/\NatR w z.b z.d r.den
theorem qkj {r:Rt} (h:r.right=true):r.neg=decide (r.q.num<0)/\limbs r.q.num.natAbs=r.num/\limbs r.q.den=r.den:=by
 unfold Rt.right qcv qch at h;simp only [Bool.and_eq_true,decide_eq_true_eq,Bool.not_eq_true',Bool.and_eq_false_iff,decide_eq_false_iff_not] at h;obtain ⟨⟨⟨⟨h1,h2⟩,h3⟩,h4⟩,h5⟩:=h;have e:=qcb r.neg (Go.Proofs.YtmdlbpibipnapaaGreat.val r.num) (Go.Proofs.YtmdlbpibipnapaaGreat.val r.den);have hd:Go.Proofs.YtmdlbpibipnapaaGreat.val r.den≠0:=by
  intro e0;rw [e0,qao] at h3;rw [<- h3] at h5;simp at h5
 have e2:qak r.neg (Go.Proofs.YtmdlbpibipnapaaGreat.val r.num) (Go.Proofs.YtmdlbpibipnapaaGreat.val r.den)=(r.neg,Go.Proofs.YtmdlbpibipnapaaGreat.val r.num,Go.Proofs.YtmdlbpibipnapaaGreat.val r.den):=by
  by_cases h0:Go.Proofs.YtmdlbpibipnapaaGreat.val r.num=0
  ·
   have hn:r.num.length=0:=by rw [<- h1,h0,qao];rfl
   have hneg:r.neg=false:=by
    rcases h2 with h2 | h2
    · exact h2
    · exact (h2 hn).elim
   have hd1:Go.Proofs.YtmdlbpibipnapaaGreat.val r.den=1:=by rw [h0,Nat.gcd_zero_left] at h4;exact h4
   rw [h0,hneg,hd1]
   rfl
  · exact qet h0 hd h4
 rw [e2] at e;unfold trip at e;simp only [Prod.mk.injEq] at e;unfold Rt.q;refine ⟨e.1,?_,?_⟩
 · rw [<- e.2.1,h1]
 · rw [<- e.2.2,h3]
theorem RtZ.qk {w:World} {r:Rt} {z:QA} (h:RtZ w r z) (hr:r.right=true) (h1:r.num.length<=2) (h2:r.den.length<=2):QK 2 w z r.q:=by
 obtain ⟨e1,e2,e3⟩:=qkj hr;obtain ⟨z1,z2,z3,z4,z5⟩:=h;refine ⟨⟨by rw [z1,e1],by rw [z2,e2],by rw [z3,e3],by rw [e2];exact z4,by rw [e3];exact z5⟩,?_⟩;unfold qsz;rw [e2,e3]
 omega
structure Bx where
 a:Rt
 b:Rt
 c:Rt
 d:Rt
structure Pt where
 x:Rt
 y:Rt
section
variable {w w' : World} {a : Option Addr} {c : Nat}
end
def Rt.short (r:Rt):Bool:=r.right&&decide (r.num.length<=2)&&decide (r.den.length<=2)
theorem Rt.short_iff {r:Rt}:r.short=true↔r.right=true/\r.num.length<=2/\r.den.length<=2:=by unfold Rt.short;simp [and_assoc]
theorem RtZ.sk {w:World} {r:Rt} {z:QA} (h:RtZ w r z) (hr:r.short=true):QK 2 w z r.q:=h.qk (Rt.short_iff.1 hr).1 (Rt.short_iff.1 hr).2.1 (Rt.short_iff.1 hr).2.2
def qbc (x:Frm) (i:Nat):List Step->Option Frm
 | []=>some x
 | s :: r=>if bigF (nextF x s.kind s.args s.ratio.q i)=true then none else qbc (putF x s.kind (nextF x s.kind s.args s.ratio.q i)) (i+1) r
def qiy (s:Step) (k:Nat):Prop:=1<=s.kind/\s.kind<=14/\needK s.kind<=s.args.length/\(∀ x∈s.args,0<=x/\x<(k:Int))/\(s.kind=2->s.ratio.right=true)
theorem qvr {l:List Step} {s:Step} {k:Nat} (h:qbl l s k=0):qiy s k:=by
 unfold qbl at h;have h1:¬ qar s.kind<0:=fun h1=>by rw [if_pos h1] at h;simp at h
 rw [if_neg h1] at h;have h2:¬ (s.args.length:Int)≠qar s.kind:=fun h2=>by rw [if_pos h2] at h;simp at h
 rw [if_neg h2] at h;have h3:¬ s.args.any (qa1 k)=true:=fun h3=>by rw [if_pos h3] at h;simp at h
 rw [if_neg h3] at h;have h4:¬ (s.kind=2/\s.ratio.right=false):=fun h4=>by rw [if_pos h4] at h;simp at h
 refine ⟨?_,?_,?_,fun x hx=>?_,fun hk=>?_⟩
 ·
  apply Int.not_lt.1;intro hc;apply h1;unfold qar
  repeat rw [if_neg oo]
  decide
 ·
  apply Int.not_lt.1;intro hc;apply h1;unfold qar
  repeat rw [if_neg oo]
  decide
 ·
  have h5:(s.args.length:Int)=qar s.kind:=oo
  unfold needK
  split
  · next e=>rw [qar,if_neg oo,if_pos oo] at h5;omega
  ·
   split
   · next e=>rw [qar,if_neg oo,if_neg oo,if_pos oo] at h5;omega
   · omega
 ·
  have h6:qa1 k x=false:=by
   cases hb:qa1 k x with
   | false=>rfl
   | true=>exact absurd (List.any_eq_true.2 ⟨x,hx,hb⟩) h3
  unfold qa1 at h6;simp at h6
  omega
 ·
  cases hr:s.ratio.right with
  | true=>rfl
  | false=>exact absurd ⟨hk,hr⟩ h4
theorem qe1 {l:List Step}:∀ (r:List Step) (i:Nat),qbf l r i=0->∀ k s,r[k]? = some s->qbl l s (i+k)=0
 | [],_,_,k,s,hs=>by simp at hs
 | t :: r,i,h,k,s,hs=>by
  unfold qbf at h;have h0:qbl l t i=0:=by
   by_cases h0:qbl l t i=0
   · exact h0
   · rw [if_pos h0] at h;exact h
  rw [if_neg (fun e=>e h0)] at h
  cases k with
  | zero=>cases hs;exact h0
  | succ k =>
   have:=qe1 r (i+1) h k s (by simpa using hs)
   rwa [show i+(k+1)=i+1+k by omega]
theorem qcw {f:Fig} (h:f.err=0):f.steps.length<=40/\∀ k s,f.steps[k]? = some s->qiy s k:=by
 unfold Fig.err at h;have h1:¬ (40<f.steps.length\/8<f.goals.length):=fun h1=>by rw [if_pos h1] at h;simp at h
 rw [if_neg h1] at h;have h2:qbf f.steps f.steps 0=0:=by
  by_cases h2:qbf f.steps f.steps 0=0
  · exact h2
  · rw [if_pos h2] at h;exact h
 exact ⟨oo,fun k s hs=>qvr (l:=f.steps) (by have:=qe1 f.steps 0 h2 k s hs;rwa [Nat.zero_add] at this)⟩
theorem qkr {u:Tm} (h:FineT u):∀ x∈u.2,0<=x/\x<=1048576:=fun x hx=>by have:=h.1.1 x hx;omega
theorem zz48 {P:Prop} (h:P:=by
 rw [<- hge] at hg ⊢;clear hge;replace HK:=Hd HK;have CS:=fun W (hW:Below wz.heap.size wz W)=>qji x (u.1+v.1) 2001 W ((HK.out.call hW).now) oo
 have hsg:=qhs (u.1+v.1);obtain ⟨S0,hS0⟩:=nm (sgnQ (u.1+v.1))
 rw [hS0] at CS hsg;clear hS0;replace CS:=Hd CS;have szz:=bth s4 sz;have hRS:∀ W,Below wz.heap.size wz W->Rd (Xr X ra) W (TQ.R ⟨x,s.n,s.a,s.c⟩ (u.1+v.1,u.2)):=fun W hW=>qu3 (HK.out.call hW) (fun b hb=>by have:=hlx.out b hb;have:=s4.size;omega) ((hsr.out.call szz).call hW)
 have p3:=j3 wz sz;obtain ⟨z0,z1,z2⟩:=cq3 hg;have hgl:=hg.lt;replace hRS:=Hd hRS;replace hL0:=hL0.out;by_cases hz:u.1+v.1=0
 ·
  have ho3:=ho2.out;rw [qfi hL0 hz] at ho3;replace ho3:=Hd ho3;have hd:decide (u.1+v.1=0)=true:=decide_eq_true hz;rw [hd] at hsg;clear ho2 hz hL0 hd hL g1 g2;go_wp2_with fail;refine (CS.out wz brf).mono ?_;rintro e w5 ⟨rfl,hb5⟩;have s5:=bth szz hb5;have hA6:=hA.out.call s5;have ho6:=ho.out.below s5;have hwo6:=bth hwr s5;replace ho6:=Hd ho6;replace hA6:=Hd hA6;clear z0 z1 z2 p3 hRS HK;go_wp2;go_roundg (gk-2)
  case rel=>exact ⟨i+1,k+1,lo,po,ra,rc,by have:=hm.out;show _=_;omega,oo,oo,rfl,by go_num,by go_num,ho6.out,hA6.out,hwo6,ho3.out,by have:=hll.out;show _<=_;omega⟩
  case measure=>have:=hm.out;omega
 ·
  have ho3:=ho2.out;rw [qhn hL0 hz] at ho3;replace ho3:=Hd ho3;have hd:decide (u.1+v.1=0)=false:=decide_eq_false hz;rw [hd] at hsg;clear ho2 hz hL0 hd hL g1 g2;go_wp2_with fail;refine (CS.out wz brf).mono ?_;rintro e w5 ⟨rfl,hb5⟩;have s5:=bth szz hb5;replace hg:=hg.below' hb5;have y0:=held (hg.cell 0);have y1:=held (hg.cell 1);have y2:=held (hg.cell 2);have y3:=held (held p3 w5 hb5);have s0':Below w5.heap.size w5 w5.drew:=brf.drew;obtain ⟨sn,hsn⟩:∃ sn:TQ,sn=⟨x,s.n,s.a,s.c⟩:=⟨_,rfl⟩
  have ex:x=sn.x:=by rw [hsn]
  have e5:s.n=sn.n:=by rw [hsn]
  have e6:s.a=sn.a:=by rw [hsn]
  have e7:s.c=sn.c:=by rw [hsn]
  replace ex:=Hd ex;replace e5:=Hd e5;replace e6:=Hd e6;replace e7:=Hd e7;have hRn:=hRS.out w5 hb5;rw [<- hsn] at hRn;have how5:=(ho.out.below s5).alloc (.cells #[.bool sn.x.neg,.slice sn.x.a sn.x.n sn.x.c,.slice sn.x.b sn.x.m sn.x.d,.slice sn.a sn.n sn.c] 193);have hel:TQ.At sn (w5.alloc (.cells #[.bool sn.x.neg,.slice sn.x.a sn.x.n sn.x.c,.slice sn.x.b sn.x.m sn.x.d,.slice sn.a sn.n sn.c] 193)) w5.heap.size 0:=At.new;have hw5:=bth hwr s5;replace hRn:=Hd hRn;replace hsn:=Hd hsn;replace how5:=Hd how5;replace hel:=Hd hel;clear z0 z1 z2 p3 hRS HK hg;go_wp2;refine wrx (S:=Below w5.heap.size w5) [(0,.q),(1,.q),(2,.q),(3,.q),(4,.q),(5,.q),(6,.q),(7,.q),(8,.l),(9,.t),(10,.p)] (s0') ?_
  iterate 7 (refine qaf rfl rfl fun K hK=>xq ?_;go_simp;refine hK _ _ ?_;clear hK K)
  rw [ex.out,e5.out,e6.out,e7.out]
  refine qaf rfl rfl fun K hK=>xq ?_;go_simp;refine hK _ _ ?_;clear hK K
  refine vl fun K hK=>?_
  go_simp;refine hK.out _ _ (s0'.alloc s0'.size _) (fun _=>?_);clear hK K;refine vt fun K hK=>?_
  refine qe0 (B:=wo.heap.size) (.tmp 53) (.tmp 61) 75 rfl Tryz.underlying75 ra rc rfl (Own.drew how5.out) sn w5.heap.size 1 rfl hel.out (lo++[sn]) rfl (by have:=hll.out;simp;omega) (by have:=hw5.size;simp;omega) ?_;intro ra2 rc2 w6 ho6 hg6 ha6;go_simp;refine hK.out _ _ ?_;clear hK K
  refine qaj rfl rfl fun K hK=>xp ?_;go_simp;refine hK _ _ ?_;clear hK K
  refine qad ?_;replace hg6:(w5.alloc (.cells #[.bool sn.x.neg,.slice sn.x.a sn.x.n sn.x.c,.slice sn.x.b sn.x.m sn.x.d,.slice sn.a sn.n sn.c] 193)).grownBy w6 (Value.ownBlock (.slice ra lo.length rc)):=⟨hg6.os,hg6.tape,hg6.output,hg6.size,hg6.block⟩
  replace ha6:∃ g,ra2=some ⟨g,0,none⟩/\(ra=some ⟨g,0,none⟩\/g=(w5.alloc (.cells #[.bool sn.x.neg,.slice sn.x.a sn.x.n sn.x.c,.slice sn.x.b sn.x.m sn.x.d,.slice sn.a sn.n sn.c] 193)).heap.size):=ha6;have hA6:=qc8 hA.out s5 (brf.alloc (nlr _) (.cells #[.bool sn.x.neg,.slice sn.x.a sn.x.n sn.x.c,.slice sn.x.b sn.x.m sn.x.d,.slice sn.a sn.n sn.c] 193)) (hRn.out.alloc _) hg6 ha6;have hwo6:Below wo.heap.size wo w6:=qal (hw5.alloc hw5.size (.cells #[.bool sn.x.neg,.slice sn.x.a sn.x.n sn.x.c,.slice sn.x.b sn.x.m sn.x.d,.slice sn.a sn.n sn.c] 193)) how5.out hg6;replace ho6:=Hd ho6;replace hA6:=Hd hA6;clear hg6 ha6 how5 hel;go_wp2;go_roundg (gk-2)
  case rel=>exact ⟨i+1,k+1,lo++[sn],po++[(u.1+v.1,u.2)],ra2,rc2,by have:=hm.out;show _=_;omega,oo,oo,by simp,by go_num,by go_num,ho6.out,hA6.out,hwo6,by rw [<- ho3.out];show _=_;simp,by have:=hll.out;show _<=_;simp;omega⟩
  case measure=>have:=hm.out;omega
 ):P:=h
theorem qcu (X:Nat->Prop) (p q:List Tm) (a b:Option Addr) (ca cb:Nat) (w:World) (hX:∀ b,X b->b<w.heap.size) (hp:PolX X w a ca p) (hq:PolX X w b cb q) (fp:FineP p) (fq:FineP q) :
  Calls Tryz.prog 105 #[.slice a p.length ca,.slice b q.length cb] w (RetP X (addP p q) w):=by
 have lp:=hp.len;have lq:=hq.len;have l1:=fp.1;have l2:=fq.1;obtain ⟨R,hR⟩:=nm (addP p q)
 rw [hR];have HP:=Hd hp;have HQ:=Hd hq;have FP:=Hd fp.2;have FQ:=Hd fq.2;have HX:=Hd hX;have HR:=Hd hR;clear hp hq fp fq hX hR;go_enter Tryz.func105,Tryz.ntmps105;go_wp2;obtain ⟨wo,rfl⟩:∃ wo:World,wo=w:=⟨_,rfl⟩
 go_loopg [5,6,7,8,9] (p.length+q.length) (fun m o qi qk _ _ wr=>∃ (i k:Nat) (lo:List TQ) (po:List Tm) (ra:Option Addr) (rc:Nat),Hid (i+k+m=p.length+q.length)/\i<=p.length/\k<=q.length/\o=.slice ra lo.length rc/\qi=.int .i64 i/\qk=.int .i64 k/\Hid (OwnT wo.heap.size wr ra rc lo)/\Hid (AllT (Xr X ra) wr lo po)/\Below wo.heap.size wo wr/\Hid (po++addP (p.drop i) (q.drop k)=R)/\Hid (lo.length<=i+k))
 case atStart=>exact ⟨0,0,[],[],none,0,by show _=_;omega,oo,oo,rfl,rfl,rfl,Own.nil,AllT.nil,Below.refl _ _,HR.out,nlr _⟩
 case round =>
  obtain ⟨i,k,lo,po,ra,rc,hm,hi,hk,rfl,rfl,rfl,ho,hA,hwr,hout,hll⟩:=hrel;have hro:Hid (∀ g,ra=some g->wo.heap.size<=g.block):=Hd fun g hg=>(ho.out.lt hg).1
  have sr:Below wr.heap.size wr wr:=Below.refl _ _;by_cases h1:i<p.length
  ·
   obtain ⟨u,hu⟩:=qab h1;obtain ⟨b1,o1,s,rfl,hs,hsR⟩:=HP.out.get hu;have fu:=FP.out u (List.mem_of_getElem? hu);have hsr:=qc1 hsR hro.out hwr;obtain ⟨c0,c1,c2,c3⟩:=hs;have k0:=held (held c0 wr hwr);have k1:=held (held c1 wr hwr);have k2:=held (held c2 wr hwr);have k3:=held (held c3 wr hwr);have hdp:=Hd (qdx hu);have hin1:(i:Int)≠p.length:=oo
   have hie:((i:Int)==(p.length:Int))=false:=by simpa using hin1
   clear c0 c1 c2 c3 hu;by_cases h2:k<q.length
   ·
    obtain ⟨v,hv⟩:=qab h2;obtain ⟨b2,o2,t,rfl,ht,htR⟩:=HQ.out.get hv;have fv:=FQ.out v (List.mem_of_getElem? hv);have ho2:=hout.out;have hdq:=Hd (qdx hv);rw [hdp.out,hdq.out] at ho2;have htr:=qc1 htR hro.out hwr;have CL:=fun W (hW:Below wr.heap.size wr W)=>quw u.2 v.2 s.a t.a s.c t.c W (hsR.call (bth hwr hW)).now.2.1 (htR.call (bth hwr hW)).now.2.1 (qkr fu) (qkr fv)
    rw [<- hsR.now.2.2,<- htR.now.2.2] at CL;have CA:=fun W (hW:Below wr.heap.size wr W)=>qad8 s.x t.x u.1 v.1 1000 1000 W ((hsR.call (bth hwr hW)).now.qk fu) ((htR.call (bth hwr hW)).now.qk fv) oo oo
    obtain ⟨d0,d1,d2,d3⟩:=ht;have y0:=held (held d0 wr hwr);have y1:=held (held d1 wr hwr);have y2:=held (held d2 wr hwr);have y3:=held (held d3 wr hwr);have s0:Below wr.heap.size wr wr.drew:=brf.drew;obtain ⟨L,hL⟩:=nm (lexI u.2 v.2)
    rw [hL] at CL;replace hL:=Hd hL;replace CL:=Hd CL;replace CA:=Hd CA;replace hsR:=Hd hsR;replace htR:=Hd htR;replace fu:=Hd fu;replace fv:=Hd fv;replace ho2:=Hd ho2;replace hsr:=Hd hsr;replace htr:=Hd htr;clear hv d0 d1 d2 d3 hout;go_wp2;refine wrx (S:=Below wr.heap.size wr) [(0,.q),(1,.q),(2,.q),(3,.q),(4,.q),(5,.q),(6,.q),(7,.q),(8,.q),(9,.q),(10,.t),(11,.p)] (s0) ?_
    iterate 10 (refine qaf rfl rfl fun K hK=>xq ?_;go_simp;refine hK _ _ ?_;clear hK K)
    refine vt fun K hK=>?_
    go_simp;refine (CL.out _ s0).mono ?_;rintro r w4 ⟨rfl,rfl⟩;dsimp only;refine hK.out _ _ ?_;clear hK K
    refine qaj rfl rfl fun K hK=>xp ?_;go_simp;refine hK _ _ ?_;clear hK K
    refine qad ?_;obtain ⟨w4,hw4⟩:∃ w4,w4=wr.drew:=⟨_,rfl⟩
    rw [<- hw4] at s0 ⊢;have s4:=s0;clear hw4 s0;have e0:=k0 w4 s4;have e1:=k1 w4 s4;have e2:=k2 w4 s4;have e3:=k3 w4 s4;have f0:=y0 w4 s4;have f1:=y1 w4 s4;have f2:=y2 w4 s4;have f3:=y3 w4 s4;clear k0 k1 k2 k3 y0 y1 y2 y3;by_cases g1:0<L
    ·
     have ho3:=ho2.out;rw [qhw (by rw [hL.out];exact g1)] at ho3;replace ho3:=Hd ho3;clear CA CL hsR htR fu fv htr ho2;have hb5:Below w4.heap.size w4 (w4.alloc (.cells #[.bool s.x.neg,.slice s.x.a s.x.n s.x.c,.slice s.x.b s.x.m s.x.d,.slice s.a s.n s.c] 193)):=by go_grown
     have howc:=((ho.out.below s4).alloc (.cells #[.bool s.x.neg,.slice s.x.a s.x.n s.x.c,.slice s.x.b s.x.m s.x.d,.slice s.a s.n s.c] 193))
     have hel:TQ.At s (w4.alloc (.cells #[.bool s.x.neg,.slice s.x.a s.x.n s.x.c,.slice s.x.b s.x.m s.x.d,.slice s.a s.n s.c] 193)) w4.heap.size 0:=At.new;have hwoc:=bth hwr (bth s4 hb5);replace howc:=Hd howc;replace hel:=Hd hel;go_wp2_with (at_builtin;go_must (refine qdc (B:=wo.heap.size) rfl (.tmp 70) (.tmp 75) 75 rfl Tryz.underlying75 ra rc rfl howc.out s w4.heap.size 1 rfl hel.out (lo++[s]) rfl (by have:=hll.out;simp;omega) (by have:=hwoc.size;simpa using this) ?_);intro ra2 rc2 w6 ho6 hg6 ha6);have hA6:=qc8 hA.out s4 hb5 ((hsr.out.call s4).call hb5) hg6 ha6;have hwo6:Below wo.heap.size wo w6:=qal hwoc howc.out hg6;replace ho6:=Hd ho6;replace hA6:=Hd hA6;clear hg6 ha6 howc hel hb5 hwoc;go_wp2;go_roundg (gk-1)
     case rel=>exact ⟨i+1,k,lo++[s],po++[u],ra2,rc2,by have:=hm.out;show _=_;omega,oo,oo,by simp,by go_num,rfl,ho6.out,hA6.out,hwo6,by rw [<- ho3.out,hdq.out];show _=_;simp,by have:=hll.out;show _<=_;simp;omega⟩
     case measure=>have:=hm.out;omega
    ·
     by_cases g2:L<0
     ·
      have ho3:=ho2.out;rw [qhk (by rw [hL.out];exact g2)] at ho3;replace ho3:=Hd ho3;clear CA CL hsR htR fu fv hsr ho2;have hb5:Below w4.heap.size w4 (w4.alloc (.cells #[.bool t.x.neg,.slice t.x.a t.x.n t.x.c,.slice t.x.b t.x.m t.x.d,.slice t.a t.n t.c] 193)):=by go_grown
      have howc:=((ho.out.below s4).alloc (.cells #[.bool t.x.neg,.slice t.x.a t.x.n t.x.c,.slice t.x.b t.x.m t.x.d,.slice t.a t.n t.c] 193))
      have hel:TQ.At t (w4.alloc (.cells #[.bool t.x.neg,.slice t.x.a t.x.n t.x.c,.slice t.x.b t.x.m t.x.d,.slice t.a t.n t.c] 193)) w4.heap.size 0:=At.new;have hwoc:=bth hwr (bth s4 hb5);replace howc:=Hd howc;replace hel:=Hd hel;go_wp2_with (at_builtin;go_must (refine qdc (B:=wo.heap.size) rfl (.tmp 82) (.tmp 87) 75 rfl Tryz.underlying75 ra rc rfl howc.out t w4.heap.size 1 rfl hel.out (lo++[t]) rfl (by have:=hll.out;simp;omega) (by have:=hwoc.size;simpa using this) ?_);intro ra2 rc2 w6 ho6 hg6 ha6);have hA6:=qc8 hA.out s4 hb5 ((htr.out.call s4).call hb5) hg6 ha6;have hwo6:Below wo.heap.size wo w6:=qal hwoc howc.out hg6;replace ho6:=Hd ho6;replace hA6:=Hd hA6;clear hg6 ha6 howc hel hb5 hwoc;go_wp2;go_roundg (gk-1)
      case rel=>exact ⟨i,k+1,lo++[t],po++[v],ra2,rc2,by have:=hm.out;show _=_;omega,oo,oo,by simp,rfl,by go_num,ho6.out,hA6.out,hwo6,by rw [<- ho3.out,hdp.out];show _=_;simp,by have:=hll.out;show _<=_;simp;omega⟩
      case measure=>have:=hm.out;omega
     ·
      have hL0:lexI u.2 v.2=0:=by rw [hL.out];omega
      have hlx:=Hd (Xr_lt HX.out ho.out hwr.size);have j0:=held e0;have j1:=held e1;have j2:=held e2;have j3:=held e3;have n0:=held f0;have n1:=held f1;have n2:=held f2;have n3:=held f3;have s0:Below w4.heap.size w4 w4.drew:=brf.drew;replace hL0:=Hd hL0;clear CL hsR htR fu fv htr hdp hdq e0 e1 e2 e3 f0 f1 f2 f3;go_wp2;refine qdb (S:=Below w4.heap.size w4) (.q 0 (.q 1 (.q 2 (.q 3 (.q 4 (.q 5 (.q 6 (.q 7 (.q 8 (.q 9 (.two 10 (.l 11 (.t 12 .nil)) 11 (.l 10 (.t 12 .nil))))))))))))) [12] (by kernel_rfl) (by kernel_rfl) (by kernel_rfl) (fun d _ _ _ _ h=>by cases d <;> exact h) s0 ?_
      iterate 10 (refine qgq rfl rfl fun K hK=>xq ?_;go_simp;refine hK _ _ ?_;clear hK K)
      refine qdh ?_ ?_
      ·
       skip
       refine qa7 rfl rfl (fun K hK=>?_);go_simp;refine (CA.out _ (bth s4 s0)).mono ?_;rintro r w5 ⟨x,rfl,HK,hb5⟩;dsimp only;refine hK.out _ _ (bth s0 hb5) (fun _=>?_);clear hK K;have s5:Below w4.heap.size w4 w5:=bth s0 hb5;have sA:Below w4.heap.size w4 (w5.alloc (.cells #[.bool false,.slice none 0 0,.slice none 0 0] 32)):=s5.alloc s5.size _;refine qa7 rfl rfl (fun K hK=>?_);go_simp;refine hK.out _ _ (sA) (fun _=>?_);clear hK K;have hzz:Blk (w5.alloc (.cells #[.bool false,.slice none 0 0,.slice none 0 0] 32)) w5.heap.size 32 #[.bool false,.slice none 0 0,.slice none 0 0]:=Blk.new w5 _ _;obtain ⟨z0,z1,z2⟩:=cq3 hzz;obtain ⟨x0,x1,x2⟩:=fq3 hzz;refine qhy rfl rfl (fun K hK=>?_);go_simp;refine hK.out _ _ ?_;clear hK K;refine qdu ?_;replace HK:=Hd (show Kp (fun V=>QK 2001 V x (u.1+v.1)) w4.heap.size w5.heap.size w5 from HK)
       refine qaa (fun W=>Blk W w5.heap.size 32 #[.bool x.neg,.slice x.a x.n x.c,.slice x.b x.m x.d]/\Kp (fun V=>QK 2001 V x (u.1+v.1)) w4.heap.size w5.heap.size W/\Below w4.heap.size w4 W) ⟨bk,by (with_reducible repeat first | exact HK.out | (refine Kp.setc ?_ ?_;focus omega) | refine Kp.alloc ?_ | refine Kp.drew ?_),s5.alloc s5.size _⟩ ?_;clear z0 z1 z2 x0 x1 x2 hzz sA hb5 s5 s0;rintro wz ⟨hg,HK,sz⟩;obtain ⟨g,hge⟩:∃ g,g=w5.heap.size:=⟨_,rfl⟩
       exact zz48
      ·
       skip
       have sA:Below w4.heap.size w4 (w4.alloc (.cells #[.bool false,.slice none 0 0,.slice none 0 0] 32)).drew:=(brf.alloc (nlr _) _).drew;refine qa7 rfl rfl (fun K hK=>?_);go_simp;refine hK.out _ _ sA (fun _=>?_);clear hK K;refine qa7 rfl rfl (fun K hK=>?_);go_simp;refine (CA.out _ (bth s4 sA)).mono ?_;rintro r w5 ⟨x,rfl,HK,hb5⟩;dsimp only;refine hK.out _ _ (bth sA hb5) (fun _=>?_);clear hK K;have s5:=bth sA hb5;have hle4:w4.heap.size<=w4.heap.size:=nlr _;have hzz:Blk w5 w4.heap.size 32 #[.bool false,.slice none 0 0,.slice none 0 0]:=(show Blk (w4.alloc (.cells #[.bool false,.slice none 0 0,.slice none 0 0] 32)).drew w4.heap.size 32 #[.bool false,.slice none 0 0,.slice none 0 0] from Blk.new w4 _ _).below' hb5;obtain ⟨z0,z1,z2⟩:=cq3 hzz;obtain ⟨x0,x1,x2⟩:=fq3 hzz;have hle:w4.heap.size<(w4.alloc (.cells #[.bool false,.slice none 0 0,.slice none 0 0] 32)).drew.heap.size:=by simp
       refine qhy rfl rfl (fun K hK=>?_);go_simp;refine hK.out _ _ ?_;clear hK K;refine qdu ?_;replace HK:=Hd (Kp.broad (B':=w4.heap.size+1) HK (by simp) (nlr _));refine qaa (fun W=>Blk W w4.heap.size 32 #[.bool x.neg,.slice x.a x.n x.c,.slice x.b x.m x.d]/\Kp (fun V=>QK 2001 V x (u.1+v.1)) (w4.heap.size+1) w5.heap.size W/\Below w4.heap.size w4 W) ⟨bk,by (with_reducible repeat first | exact HK.out | (refine Kp.setc ?_ ?_;focus omega) | refine Kp.alloc ?_ | refine Kp.drew ?_),(((s5.setCell hle4 _).setCell hle4 _).setCell hle4 _)⟩ ?_;clear z0 z1 z2 x0 x1 x2 hzz sA hle hle4 hb5 s5 s0;rintro wz ⟨hg,HK,sz⟩;obtain ⟨g,hge⟩:∃ g,g=w4.heap.size:=⟨_,rfl⟩
       exact zz48
   ·
    have ho3:=hout.out;have hqn:q.drop k=[]:=List.drop_eq_nil_of_le oo;rw [hqn,qeh,hdp.out] at ho3;replace ho3:=Hd ho3;replace hsr:=Hd hsr;replace hqn:=Hd hqn;have e0:=k0 wr sr;have e1:=k1 wr sr;have e2:=k2 wr sr;have e3:=k3 wr sr;clear k0 k1 k2 k3 hsR fu hout;have hb5:Below wr.heap.size wr (wr.alloc (.cells #[.bool s.x.neg,.slice s.x.a s.x.n s.x.c,.slice s.x.b s.x.m s.x.d,.slice s.a s.n s.c] 193)):=by go_grown
    have howc:=((ho.out.below sr).alloc (.cells #[.bool s.x.neg,.slice s.x.a s.x.n s.x.c,.slice s.x.b s.x.m s.x.d,.slice s.a s.n s.c] 193))
    have hel:TQ.At s (wr.alloc (.cells #[.bool s.x.neg,.slice s.x.a s.x.n s.x.c,.slice s.x.b s.x.m s.x.d,.slice s.a s.n s.c] 193)) wr.heap.size 0:=At.new;have hwoc:=bth hwr (bth sr hb5);replace howc:=Hd howc;replace hel:=Hd hel;go_wp2_with (at_builtin;go_must (refine qdc (B:=wo.heap.size) rfl (.tmp 70) (.tmp 75) 75 rfl Tryz.underlying75 ra rc rfl howc.out s wr.heap.size 1 rfl hel.out (lo++[s]) rfl (by have:=hll.out;simp;omega) (by have:=hwoc.size;simpa using this) ?_);intro ra2 rc2 w6 ho6 hg6 ha6);have hA6:=qc8 hA.out sr hb5 ((hsr.out.call sr).call hb5) hg6 ha6;have hwo6:Below wo.heap.size wo w6:=qal hwoc howc.out hg6;replace ho6:=Hd ho6;replace hA6:=Hd hA6;clear hg6 ha6 howc hel hb5 hwoc;go_wp2;go_roundg (gk-1)
    case rel=>exact ⟨i+1,k,lo++[s],po++[u],ra2,rc2,by have:=hm.out;show _=_;omega,oo,oo,by simp,by go_num,rfl,ho6.out,hA6.out,hwo6,by rw [hqn.out,qeh,<- ho3.out];show _=_;simp,by have:=hll.out;show _<=_;simp;omega⟩
    case measure=>have:=hm.out;omega
  ·
   have hpn:p.drop i=[]:=List.drop_eq_nil_of_le oo;have hie:((i:Int)==(p.length:Int))=true:=by simp;omega
   by_cases h2:k<q.length
   ·
    obtain ⟨v,hv⟩:=qab h2;obtain ⟨b2,o2,t,rfl,ht,htR⟩:=HQ.out.get hv;have htr:=qc1 htR hro.out hwr;obtain ⟨d0,d1,d2,d3⟩:=ht;have e0:=held d0 wr hwr;have e1:=held d1 wr hwr;have e2:=held d2 wr hwr;have e3:=held d3 wr hwr;have hdq:=Hd (qdx hv);have ho3:=hout.out;rw [hpn,qct,hdq.out] at ho3;replace ho3:=Hd ho3;replace htr:=Hd htr;replace hpn:=Hd hpn;clear hv d0 d1 d2 d3 hout htR;have hb5:Below wr.heap.size wr (wr.alloc (.cells #[.bool t.x.neg,.slice t.x.a t.x.n t.x.c,.slice t.x.b t.x.m t.x.d,.slice t.a t.n t.c] 193)):=by go_grown
    have howc:=((ho.out.below sr).alloc (.cells #[.bool t.x.neg,.slice t.x.a t.x.n t.x.c,.slice t.x.b t.x.m t.x.d,.slice t.a t.n t.c] 193))
    have hel:TQ.At t (wr.alloc (.cells #[.bool t.x.neg,.slice t.x.a t.x.n t.x.c,.slice t.x.b t.x.m t.x.d,.slice t.a t.n t.c] 193)) wr.heap.size 0:=At.new;have hwoc:=bth hwr (bth sr hb5);replace howc:=Hd howc;replace hel:=Hd hel;go_wp2_with (at_builtin;go_must (refine qdc (B:=wo.heap.size) rfl (.tmp 82) (.tmp 87) 75 rfl Tryz.underlying75 ra rc rfl howc.out t wr.heap.size 1 rfl hel.out (lo++[t]) rfl (by have:=hll.out;simp;omega) (by have:=hwoc.size;simpa using this) ?_);intro ra2 rc2 w6 ho6 hg6 ha6);have hA6:=qc8 hA.out sr hb5 ((htr.out.call sr).call hb5) hg6 ha6;have hwo6:Below wo.heap.size wo w6:=qal hwoc howc.out hg6;replace ho6:=Hd ho6;replace hA6:=Hd hA6;clear hg6 ha6 howc hel hb5 hwoc;go_wp2;go_roundg (gk-1)
    case rel=>exact ⟨i,k+1,lo++[t],po++[v],ra2,rc2,by have:=hm.out;show _=_;omega,oo,oo,by simp,rfl,by go_num,ho6.out,hA6.out,hwo6,by rw [hpn.out,qct,<- ho3.out];show _=_;simp,by have:=hll.out;show _<=_;simp;omega⟩
    case measure=>have:=hm.out;omega
   ·
    have ho3:=hout.out;rw [hpn,qct,List.drop_eq_nil_of_le oo,List.append_nil] at ho3;subst ho3;have hP:=ho.out.pol hA.out HX.out;have hRl:=hA.out.1;replace hP:=Hd hP;replace hRl:=Hd hRl;clear hA hout hpn HR;go_wp2;go_ret;exact ⟨ra,rc,by rw [<- hRl.out];rfl,hP.out,hwr⟩
end Go.Proofs.YtmdlbpibipnapaaGreat
