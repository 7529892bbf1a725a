/- Walks: a step of the reference's frame (layer 21: next): along a line. -/
import Derived.Test.YtfaalkneigpcnaaGreatDoorIc20
import Derived.Laws.EntriesVeiled
import Derived.Test.YtfaalkneigpcnaaGreatDoorIc19
import Derived.Test.YtfaalkneigpcnaaGreatDoorIc18
set_option linter.all false
set_option maxRecDepth 100000
set_option maxHeartbeats 4000000
namespace Go.Proofs.YtfaalkneigpcnaaGreatDoor
open Go.RowKit
theorem zz59 {P:Prop} (h:P:=by
 have y0:=hC.cell 0;have f0:=hC.frozen 0;have y1:=hC.cell 1;have f1:=hC.frozen 1;have hgl:=Hd hC.lt;refine qgh rfl rfl (fun K hK=>?_);go_simp;refine hK.out _ _ ?_;clear hK K;refine qct ?_;refine ⟨rfl,z,gC,_,_,_,_,_,rfl,(s4.setCell hgC.out _).setCell hgC.out _,by ((with_reducible repeat first|assumption|(apply bF;focus omega)|apply bS|(apply bN;focus (simp;done))|apply bA|apply bD);all_goals rfl),?_⟩;exact (qa5 (qa5 P.out (.inr rfl)) (.inr rfl)).less fun b hb=>.inl hb
 ):P:=h
theorem zz58 {P:Prop} (h:P:=by
 refine qaq rfl rfl (fun K hK=>?_);go_simp;refine (CB.out (Xg (Xg X g) gC) t1 t2 v3 (fun b hb=>hb.elim (fun h=>ltl (hY2.out b h) (s3).size) fun e=>by rw [e];exact hC.lt) V1.out V2.out).mono ?_;rintro r v4 ⟨z,rfl,P,hb⟩;dsimp only;have s4:=bth s3 hb;refine hK.out _ _ s4 (fun _=>?_);clear hK K;replace hC:=hC.below' hb;clear V1 V2;replace P:=Hd P;clear hb;exact zz59
 ):P:=h
theorem zz60 {P:Prop} (h:P:=by
 refine qaq rfl rfl (fun K hK=>?_);go_simp;refine (A2.out (Xg (Xg X g) gC) v2 (fun b hb=>hb.elim (hY1.out b) fun e=>.inr (by have:=hgC.out;have:=hr0.size;rw [e];omega)) (fun b hb=>hb.elim (fun h=>ltl (hY2.out b h) (s2).size) fun e=>by rw [e];exact hC.lt) (bth hr0 s2)).mono ?_;rintro r v3 ⟨t2,rfl,V2,hb⟩;dsimp only;have s3:=bth s2 hb;refine hK.out _ _ s3 (fun _=>?_);clear hK K;replace hC:=hC.below' hb;replace V1:=Hd (V1.out.call hb);replace V2:=Hd V2;clear hb;exact zz58
 ):P:=h
theorem qsn (Z:Nat->Prop) (gB:Nat) (y:Frm) (hs':List (VQ × Vec)) (ra va:Option Addr) (rc vc:Nat) (pt:ByteArray) (aa:Option Addr) (an ac:Nat) (x:QA) (i:Int) (w:World) (hB:Bst Z w gB y hs' ra rc va vc) (hl:y.vars.length<=800) (hZ:∀ b,Z b->b<w.heap.size) (args:List Int) (a b c:Vec) (han:an=args.length) (hI:Rd (Yz Z gB ra va) w fun V=>IntsR V aa ac args) (hlh:hs'.length<=1000000)
  (H0:Has2 args hs' 0 a) (H1:Has2 args hs' 1 b) (H2:Has2 args hs' 2 c) (fa:FineV a) (fb:FineV b) (fc:FineV c) (fs:FineV (subP c.1 b.1,subP c.2 b.2)) :
  Calls Tryz.prog 40 #[.pointer (some ⟨gB,0,none⟩),.agg #[.int .i64 4,.string pt,.slice aa an ac,.bool x.neg,.slice x.a x.n x.c,.slice x.b x.m x.d],.int .i64 i] w (RetSt Z gB y (addP a.1 (negP (subP c.2 b.2)),addP a.2 (subP c.1 b.1)) hs' ra rc va w):=by
 subst han;obtain ⟨an,han⟩:∃ an,an=args.length:=⟨_,rfl⟩
 rw [<- han];have HI:=Hd hI;replace H0:=Hd H0;replace H1:=Hd H1;replace H2:=Hd H2;replace fa:=Hd fa;replace fb:=Hd fb;replace fc:=Hd fc;replace fs:=Hd fs;replace han:=Hd han;clear hI;have HB:=Hd hB;have HZ:=Hd hZ;clear hB hZ;go_enter Tryz.func40,Tryz.ntmps40;go_wp2;refine qab (fun W=>Blk W (w.heap.size+1+1+1) 134 #[.func (Fn.func 84) #[] #[.pointer (some ⟨w.heap.size,0,none⟩),.pointer (some ⟨w.heap.size+1,0,none⟩)]]/\Blk W (w.heap.size+1+1) 94 #[.slice none 0 0,.slice none 0 0]/\Blk W (w.heap.size+1) 53 #[.int .i64 4,.string pt,.slice aa an ac,.bool x.neg,.slice x.a x.n x.c,.slice x.b x.m x.d]/\Blk W w.heap.size 88 #[.pointer (some ⟨gB,0,none⟩)]/\Below w.heap.size w W) ⟨Blk.newAt (by simp),(Blk.newAt (by simp)).alloc _,((Blk.newAt (by simp)).alloc _).alloc _,(((Blk.new w _ _).alloc _).alloc _).alloc _,by go_grown⟩ ?_;rintro w0 ⟨hF,hz,hS,he,hw0⟩;have hw0':Below w.heap.size w w0:=hw0
 have hB0:=(HB.out.wide (g:=w.heap.size+1+1) (by omega)).call hw0';obtain ⟨s,hs⟩:∃ s,s=w.heap.size+1:=⟨_,rfl⟩
 obtain ⟨g,hg⟩:∃ g,g=w.heap.size+1+1:=⟨_,rfl⟩
 obtain ⟨f,hf⟩:∃ f,f=w.heap.size+1+1+1:=⟨_,rfl⟩
 rw [<- hg] at hz hB0;rw [<- hf] at hF;rw [<- hs] at hS;rw [<- hs] at hF
 try rw [<- hf]
 try rw [<- hg]
 try rw [<- hs]
 have hgw:w.heap.size<=g:=by omega
 have hgl:=hz.lt;have hfl:=hF.lt;have hgf:g≠f:=by omega
 have hge:g≠w.heap.size:=by omega
 have hgs:g≠s:=by omega
 have hZ0:∀ b,Xg Z g b->b<w0.heap.size:=Xg_lt HZ.out hw0.size hgl;have hf0:Fr (Yb gB ra va) w w0:=Fr.below hw0;have hn0:¬ Yb gB ra va g:=fun h=>by have:=HB.out.lt _ h;omega
 replace hs:=Hd hs;replace hg:=Hd hg;replace hf:=Hd hf;have hX0:∀ b,Yz (Xg Z g) gB ra va b->b<w0.heap.size:=fun b hb=>hb.elim (hB0.lt b) (hZ0 b)
 obtain ⟨j0,q0,i0,m0⟩:=H0.out;obtain ⟨j1,q1,i1,m1⟩:=H1.out;obtain ⟨j2,q2,i2,m2⟩:=H2.out;have c2:=hS.cell 2;have hI0:=(HI.out.call hw0).now;have A0:=qdq hB0 (he.cell 0) (by rw [<- han.out];exact c2) hI0 hlh i0 m0;have A1:=qdq hB0 (he.cell 0) (by rw [<- han.out];exact c2) hI0 hlh i1 m1;have A2:=qdq hB0 (he.cell 0) (by rw [<- han.out];exact c2) hI0 hlh i2 m2;have hFc:=Hd (show ∀ n:Nat,w0.cell? ⟨f,0,none⟩=some (.func (Fn.func 84) #[] #[.pointer (some ⟨w.heap.size,0,none⟩),.pointer (some ⟨s,0,none⟩)]) from fun _=>hF.cell 0);have d0:=held (hF.cell 0);have s0:Below w0.heap.size w0 w0.drew:=brf.drew;obtain ⟨X,hX⟩:∃ X,X=Yz (Xg Z g) gB ra va:=⟨_,rfl⟩
 rw [<- hX] at A0 A1 A2 hX0;replace A0:=Hd A0;replace A1:=Hd A1;replace A2:=Hd A2;replace hX0:=Hd hX0;replace hX:=Hd hX;replace hB0:=Hd hB0;clear hI0 hS he hF c2;have hr0:Below w0.heap.size w0 w0:=Below.refl _ _;have hY1:Hid (∀ b,Xg X g b->X b\/w0.heap.size<=b):=Hd fun b hb=>hb.elim .inl fun e=>.inl (by rw [hX.out,e];exact .inr (.inr rfl))
 have hY2:Hid (∀ b,Xg X g b->b<w0.heap.size):=Hd fun b hb=>hb.elim (hX0.out b) fun e=>by rw [e];exact hgl
 obtain ⟨d,hd⟩:∃ d:Vec,d=(subP c.1 b.1,subP c.2 b.2):=⟨_,rfl⟩
 have CB:=fun (Y:Nat->Prop) (t1 t2:VQ) W h1 h2 h3=>qfx Y b c t1 t2 W h1 h2 h3 fb.out fc.out
 have hfd:=fs.out;rw [<- hd] at CB hfd;replace CB:=Hd CB;replace hd:=Hd hd;replace hfd:=Hd hfd
 refine wp_mono (Q:=fun xx a' W=>xx=.normal/\(∃ (z:VQ) (gC:Nat) (u38 u39 u40 u41 u42:Value),a'=⟨#[.pointer (some ⟨gB,0,none⟩),.agg #[.int .i64 4,.string pt,.slice aa an ac,.bool x.neg,.slice x.a x.n x.c,.slice x.b x.m x.d],.int .i64 i,.pointer (some ⟨w.heap.size,0,none⟩),.pointer (some ⟨s,0,none⟩),undef,.pointer (some ⟨g,0,none⟩),.pointer (some ⟨f,0,none⟩),.func (Fn.func 85) #[] #[.pointer (some ⟨f,0,none⟩)],.pointer (some ⟨gC,0,none⟩),undef,.func (Fn.func 84) #[] #[.pointer (some ⟨w.heap.size,0,none⟩),.pointer (some ⟨s,0,none⟩)],.func (Fn.func 85) #[] #[.pointer (some ⟨f,0,none⟩)],.pointer (some ⟨s,0,none⟩),.int .i64 4,.bool false,.bool false,undef,undef,undef,.bool false,.bool false,undef,undef,undef,.bool false,.bool false,undef,undef,undef,undef,undef,undef,undef,undef,undef,.bool true,.bool true,u38,u39,u40,u41,u42,undef,undef,undef,undef,undef,undef,undef,undef,undef,undef,undef,undef,undef,undef,undef,undef,undef,undef,undef,undef,undef,undef,undef,undef,undef,undef,undef,undef,undef],[]⟩/\Below w0.heap.size w0 W/\Blk W gC 94 #[.slice z.a d.1.length z.c,.slice z.b d.2.length z.d]/\VecX (Xg X g) W z d)) ?_ ?_
 ·
  skip
  obtain ⟨v0,hv0⟩:∃ v,w0.drew=v:=⟨_,rfl⟩
  refine qb1 (S:=Below w0.heap.size w0) (.q 0 (.q 2 (.two 1 (.two 3 (.two 4 (.l 5 (.t 6 .nil)) 5 (.l 4 (.t 6 .nil))) 5 (.l 3 (.l 4 (.t 6 .nil)))) 5 (.l 1 (.l 3 (.l 4 (.t 6 .nil))))))) [6] (by kernel_rfl) (by kernel_rfl) (by kernel_rfl) (fun d _ _ _ _ h=>by cases h.1) s0 ?_;rw [hv0] at s0 ⊢
  iterate 2 (refine qcd rfl rfl fun K hK=>xq ?_;go_simp;refine hK _ _ ?_;clear hK K)
  refine qbp ?_ ?_
  ·
   skip
   refine qaq rfl rfl (fun K hK=>?_);go_simp;refine (A1.out (Xg X g) v0 hY1.out (fun b hb=>ltl (hY2.out b hb) (s0).size) (bth hr0 s0)).mono ?_;rintro r v1 ⟨t1,rfl,V1,hb⟩;dsimp only;have s1:=bth s0 hb;refine hK.out _ _ s1 (fun _=>?_);clear hK K;replace V1:=Hd V1;clear hb;refine qbp ?_ ?_
   ·
    skip
    refine qaq rfl rfl (fun K hK=>?_);go_simp;refine (A2.out (Xg X g) v1 hY1.out (fun b hb=>ltl (hY2.out b hb) (s1).size) (bth hr0 s1)).mono ?_;rintro r v2 ⟨t2,rfl,V2,hb⟩;dsimp only;have s2:=bth s1 hb;refine hK.out _ _ s2 (fun _=>?_);clear hK K;replace V1:=Hd (V1.out.call hb);replace V2:=Hd V2;clear hb;refine qbp ?_ ?_
    ·
     skip
     refine qaq rfl rfl (fun K hK=>?_);go_simp;refine (CB.out (Xg X g) t1 t2 v2 (fun b hb=>ltl (hY2.out b hb) (s2).size) V1.out V2.out).mono ?_;rintro r v3 ⟨z,rfl,P,hb⟩;dsimp only;have s3:=bth s2 hb;refine hK.out _ _ s3 (fun _=>?_);clear hK K;clear V1 V2;replace P:=Hd P;clear hb;refine qaq rfl rfl (fun K hK=>?_);go_simp;refine hK.out _ _ (s3.alloc s3.size _) (fun _=>?_);clear hK K;refine qab (fun W=>Blk W v3.heap.size 94 #[.slice none 0 0,.slice none 0 0]/\Below w0.heap.size w0 W/\VecX (Xg (Xg X g) v3.heap.size) W z d) ⟨by ((with_reducible repeat first|assumption|(apply bF;focus omega)|apply bS|(apply bN;focus (simp;done))|apply bA|apply bD);all_goals rfl),s3.alloc s3.size _,(P.out.more (qck (nlr _))).call (brf.alloc (nlr _) _)⟩ ?_;rintro v4 ⟨hC,s4,P⟩;have hgC:=Hd (show w0.heap.size<=v3.heap.size from s3.size);obtain ⟨gC,egC⟩:∃ q,v3.heap.size=q:=⟨_,rfl⟩
     rw [egC] at hC hgC P ⊢;replace egC:=Hd egC;replace P:=Hd P;exact zz59
    ·
     skip
     refine qaq rfl rfl (fun K hK=>?_);go_simp;refine hK.out _ _ (s2.alloc s2.size _) (fun _=>?_);clear hK K;refine qab (fun W=>Blk W v2.heap.size 94 #[.slice none 0 0,.slice none 0 0]/\Below w0.heap.size w0 W/\VecX (Xg (Xg X g) v2.heap.size) W t1 b/\VecX (Xg (Xg X g) v2.heap.size) W t2 c) ⟨by ((with_reducible repeat first|assumption|(apply bF;focus omega)|apply bS|(apply bN;focus (simp;done))|apply bA|apply bD);all_goals rfl),s2.alloc s2.size _,(V1.out.more (qck (nlr _))).call (brf.alloc (nlr _) _),(V2.out.more (qck (nlr _))).call (brf.alloc (nlr _) _)⟩ ?_;rintro v3 ⟨hC,s3,V1,V2⟩;have hgC:=Hd (show w0.heap.size<=v2.heap.size from s2.size);obtain ⟨gC,egC⟩:∃ q,v2.heap.size=q:=⟨_,rfl⟩
     rw [egC] at hC hgC V1 V2 ⊢;replace egC:=Hd egC;replace V1:=Hd V1;replace V2:=Hd V2;exact zz58
   ·
    skip
    refine qaq rfl rfl (fun K hK=>?_);go_simp;refine hK.out _ _ (s1.alloc s1.size _) (fun _=>?_);clear hK K;refine qab (fun W=>Blk W v1.heap.size 94 #[.slice none 0 0,.slice none 0 0]/\Below w0.heap.size w0 W/\VecX (Xg (Xg X g) v1.heap.size) W t1 b) ⟨by ((with_reducible repeat first|assumption|(apply bF;focus omega)|apply bS|(apply bN;focus (simp;done))|apply bA|apply bD);all_goals rfl),s1.alloc s1.size _,(V1.out.more (qck (nlr _))).call (brf.alloc (nlr _) _)⟩ ?_;rintro v2 ⟨hC,s2,V1⟩;have hgC:=Hd (show w0.heap.size<=v1.heap.size from s1.size);obtain ⟨gC,egC⟩:∃ q,v1.heap.size=q:=⟨_,rfl⟩
    rw [egC] at hC hgC V1 ⊢;replace egC:=Hd egC;replace V1:=Hd V1;exact zz60
  ·
   skip
   refine qaq rfl rfl (fun K hK=>?_);go_simp;refine hK.out _ _ (s0.alloc s0.size _) (fun _=>?_);clear hK K;refine qab (fun W=>Blk W v0.heap.size 94 #[.slice none 0 0,.slice none 0 0]/\Below w0.heap.size w0 W) ⟨by ((with_reducible repeat first|assumption|(apply bF;focus omega)|apply bS|(apply bN;focus (simp;done))|apply bA|apply bD);all_goals rfl),s0.alloc s0.size _⟩ ?_;rintro v1 ⟨hC,s1⟩;have hgC:=Hd (show w0.heap.size<=v0.heap.size from s0.size);obtain ⟨gC,egC⟩:∃ q,v0.heap.size=q:=⟨_,rfl⟩
   rw [egC] at hC hgC ⊢;replace egC:=Hd egC;refine qaq rfl rfl (fun K hK=>?_);go_simp;refine (A1.out (Xg (Xg X g) gC) v1 (fun b hb=>hb.elim (hY1.out b) fun e=>.inr (by have:=hgC.out;have:=hr0.size;rw [e];omega)) (fun b hb=>hb.elim (fun h=>ltl (hY2.out b h) (s1).size) fun e=>by rw [e];exact hC.lt) (bth hr0 s1)).mono ?_;rintro r v2 ⟨t1,rfl,V1,hb⟩;dsimp only;have s2:=bth s1 hb;refine hK.out _ _ s2 (fun _=>?_);clear hK K;replace hC:=hC.below' hb;replace V1:=Hd V1;clear hb;exact zz60
 ·
  rintro e1 a1 w3 ⟨rfl,z,gC,u38,u39,u40,u41,u42,rfl,s1,hC,hV⟩;have hz3:=hz.below' s1;have k1:=held (held (hFc.out 0) w3 s1);have c0:=held (hC.cell 0);have c1:=held (hC.cell 1);have t0:Below w3.heap.size w3 w3.drew:=brf.drew;have hsz:=Hd s1.size;replace hV:=Hd hV;replace s1:=Hd s1;clear hC CB A1 A2;go_wp2;obtain ⟨v0,hv0⟩:∃ v,w3.drew=v:=⟨_,rfl⟩
  refine wrx (S:=Below w3.heap.size w3) [(0,.q),(3,.q),(4,.q),(6,.q),(7,.q),(1,.l),(2,.l),(5,.l),(8,.p),(9,.t),(10,.t)] (t0) ?_;rw [hv0] at t0 ⊢
  iterate 5 (refine qaj rfl rfl fun K hK=>xq ?_;go_simp;refine hK _ _ ?_;clear hK K)
  refine qag rfl rfl (fun K hK=>?_);go_simp;refine (A0.out (Xg X g) v0 hY1.out (fun b hb=>ltl (hY2.out b hb) (Nat.le_trans hsz.out (t0).size)) (bth s1.out t0)).mono ?_;rintro r w2 ⟨ta,rfl,Va,hb⟩;dsimp only;refine hK.out _ _ (bth t0 hb) (fun _=>?_);clear hK K;have t1:=bth t0 hb;replace Va:=Hd Va;clear hb;refine qag rfl rfl (fun K hK=>?_);go_simp;refine (qf7 ta.a ta.b a.1.length ta.c a.2.length ta.d _).mono ?_;rintro r w4 ⟨rfl,hb⟩;dsimp only;refine hK.out _ _ (bth t1 hb) (fun _=>?_);clear hK K;have t2:=bth t1 hb;replace Va:=Hd (Va.out.call hb);clear hb;refine qag rfl rfl (fun K hK=>?_);go_simp;refine (qsg (Xg X g) d.2 z.b z.d _ (fun b hb=>ltl (hY2.out b hb) (Nat.le_trans hsz.out (t2).size)) (hV.out.2.call t2) hfd.out.2).mono ?_;rintro r w5 ⟨an,cn,rfl,Pn,hb⟩;dsimp only;refine hK.out _ _ (bth t2 hb) (fun _=>?_);clear hK K;have t3:=bth t2 hb;replace Va:=Hd (Va.out.call hb);replace Pn:=Hd Pn
  clear hb
  iterate 1 (refine qaz rfl rfl fun K hK=>xp ?_;go_simp;refine hK _ _ ?_;clear hK K)
  refine qae rfl rfl (fun K hK=>?_);go_simp;refine (qfn (Xg X g) a (negP d.2,d.1) (addP a.1 (negP d.2)) (addP a.2 d.1) ta ⟨an,cn,z.a,z.c⟩ w5 (fun b hb=>ltl (hY2.out b hb) (Nat.le_trans hsz.out (t3).size)) (qgc (Xg X g) a.1 (negP d.2) ta.a an ta.c cn _ Va.out.1 Pn.out fa.out.1 (qio hfd.out.2)) (qgc (Xg X g) a.2 d.1 ta.b z.a ta.d z.c _ Va.out.2 (hV.out.1.call t3) fa.out.2 hfd.out.1)).mono ?_;rintro r w1 ⟨t,rfl,hV1,hb⟩;dsimp only;refine hK.out _ _ ?_;clear hK K;have s6:=bth s1.out (bth t3 hb);have hf1:Fr (Yb gB ra va) w0 w1:=Fr.below s6;have hv1:∀ g,va=some g->va=some g\/w0.heap.size<=g.block:=fun g h=>.inl h
  have hB1:=hB0.out.call s6;obtain ⟨va1,hva1⟩:∃ v,v=va:=⟨_,rfl⟩
  obtain ⟨vc1,hvc1⟩:∃ v,v=vc:=⟨_,rfl⟩
  have hv1:∀ g,va1=some g->va=some g\/w0.heap.size<=g.block:=by rw [hva1];exact hv1
  rw [<- hva1,<- hvc1] at hB1;replace hV1:VecX (Yz (Xg Z g) gB ra va1) w1 t (addP a.1 (negP d.2),addP a.2 d.1):=by rw [hva1,<- hX.out];exact hV1.less fun b hb=>.inl hb
  have e1:d.1=subP c.1 b.1:=by rw [hd.out]
  have e2:d.2=subP c.2 b.2:=by rw [hd.out]
  obtain ⟨P,hPP⟩:∃ P,(addP a.1 (negP (subP c.2 b.2)),addP a.2 (subP c.1 b.1))=P:=⟨_,rfl⟩
  have ep1:addP a.1 (negP d.2)=P.1:=by rw [e2,<- hPP]
  have ep2:addP a.2 d.1=P.2:=by rw [e1,<- hPP]
  rw [ep1,ep2] at hV1;replace hV1:VecX (Yz (Xg Z g) gB ra va1) w1 t P:=hV1;replace hPP:=Hd hPP;clear Va Pn hb hva1 hvc1 t1 t2 t3 c0 c1 k1 e1 e2;have hn2:¬ Yb gB ra va1 g:=qc5 hn0 hv1 hgl;have hz1:=hz.fr hf1 hn0;have hfr:Fr (Yb gB ra va) w w1:=hf0.trans hf1;have hvv:∀ g,va1=some g->va=some g\/w.heap.size<=g.block:=fun g hg=>by
   rcases hv1 g hg with e | e
   · exact .inl e
   · have:=hw0.size;exact .inr (by omega)
  obtain ⟨y0,y1⟩:=cq2 hz1;obtain ⟨g0,g1⟩:=fq2 hz1;replace hV1:=Hd hV1;replace hB1:=Hd hB1;replace hvv:=Hd hvv;replace hfr:=Hd hfr;replace hn2:=Hd hn2;have hz2:=Hd hz1;clear hf0 hf1 hv1 hz hB0 hz1
  try rw [ep1,ep2]
  clear ep1 ep2;refine qae rfl rfl (fun K hK=>?_);go_simp;refine hK.out _ _ ?_;clear hK K;refine qai ?_;go_wp2;refine qab (fun W=>Blk W g 94 #[.slice t.a P.1.length t.c,.slice t.b P.2.length t.d]/\Bst Z W gB y hs' ra rc va1 vc1/\VecX (Yz Z gB ra va1) W t P/\Fr (Yb gB ra va) w W) ⟨?_,((hB1.out.far hn2.out).far hn2.out).less,(qa5 (qa5 hV1.out (.inr (.inr rfl))) (.inr (.inr rfl))).less qcx,(hfr.out.setc (.inr hgw)).setc (.inr hgw)⟩ ?_
  ·
   have hz2':=hz2.out
   ((with_reducible repeat first|assumption|(apply bF;focus omega)|apply bS|(apply bN;focus (simp;done))|apply bA|apply bD);all_goals rfl)
  rintro w4 ⟨hF4,hB4,hV4,hf4⟩;obtain ⟨e0,e1⟩:=cq2 hF4;refine bodyPost_ret (v:=.agg #[.slice t.a P.1.length t.c,.slice t.b P.2.length t.d]) (by simp [results,Tryz.results40,go_sem,e0,e1]) rfl ?_;rw [hPP.out];exact ⟨va1,vc1,t,rfl,hB4,hV4,hf4,hvv.out⟩
def needK (kind:Int):Nat:=if kind=2\/kind=5 then 2 else if kind=3\/kind=4 then 3 else 0
theorem qpx {hs':List (VQ × Vec)} {coords:List Vec} {args:List Int} (he:hs'.map Prod.snd=coords) {k:Nat} (hk:k<args.length) (hr:∀ x∈args,0<=x/\x<coords.length):Has2 args hs' k (argF coords args k):=by
 obtain ⟨x,hx⟩:=qac hk;obtain ⟨r1,r2⟩:=hr x (List.mem_of_getElem? hx);subst he;have hl:x.toNat<hs'.length:=by simp at r2;omega
 obtain ⟨z,hz⟩:=qac hl;refine ⟨x.toNat,z.1,by rw [hx];congr 1;omega,?_⟩;have e:argF (hs'.map Prod.snd) args k=z.2:=by
  unfold argF;rw [List.getD_eq_getElem?_getD,List.getD_eq_getElem?_getD,hx];simp [hz]
 rw [e];exact hz
theorem qu6 (Z:Nat->Prop) (gB:Nat) (y:Frm) (hs':List (VQ × Vec)) (ra va:Option Addr) (rc vc:Nat) (pt:ByteArray) (aa:Option Addr) (ac:Nat) (x:QA) (i D M:Nat) (w:World) (hB:Bst Z w gB y hs' ra rc va vc) (hZ:∀ b,Z b->b<w.heap.size)
  (hok:FrmOk i D M y) (hi:i<=100) (kind:Int) (k1:1<=kind) (k7:kind<=14) (args:List Int) (q:Rat) (hn:needK kind<=args.length) (hr:∀ x∈args,0<=x/\x<i) (hI:Rd (Yz Z gB ra va) w fun V=>IntsR V aa ac args)
  (hx:kind=2->Rd (Yz Z gB ra va) w fun V=>QAc V x q) (hq:kind=2->q.num.natAbs<=2 ^ 32/\q.den<=2 ^ 32) :
  Calls Tryz.prog 40 #[.pointer (some ⟨gB,0,none⟩),.agg #[.int .i64 kind,.string pt,.slice aa args.length ac,.bool x.neg,.slice x.a x.n x.c,.slice x.b x.m x.d],.int .i64 i] w
   (RetSt Z gB ⟨(nextF y kind args q i).1,y.coords,if kind=1 then y.free+1 else y.free⟩ (nextF y kind args q i).2 hs' ra rc va w):=by
 have hvl:y.vars.length<=64:=hok.2.2.2.2.2.1;have hfl:y.free<=i:=hok.2.2.2.2.2.2.1;have hcl:y.coords.length=i:=hok.1;have hlh:hs'.length<=1000000:=by
  have:=congrArg List.length hB.eq;simp at this
  omega
 have HH:=fun k hk=>qpx (k:=k) hB.eq hk (fun x hx=>by have:=hr x hx;omega)
 have A:=fun k=>qhz hok args k
 have Fi:=fun k=>hok.fine hi args k
 have V:=fun j k=>(⟨(hok.diff hi (A k).1 (A j).1).1,(hok.diff hi (A k).2 (A j).2).1⟩:FineV (subP (argF y.coords args k).1 (argF y.coords args j).1,subP (argF y.coords args k).2 (argF y.coords args j).2))
 have hk:kind=1\/kind=2\/kind=3\/kind=4\/kind=5\/kind=6\/7<=kind:=by omega
 rcases hk with rfl | rfl | rfl | rfl | rfl | rfl | k7
 ·
  have:=qsh Z gB y hs' ra va rc vc pt aa args.length ac x i w hB (by omega) hZ (by omega);simpa only [nextF,qci,if_true] using this
 ·
  obtain ⟨q1,q2⟩:=hq rfl;have hqs:qsz q<=1000:=qfj (Nat.le_trans (qan (k:=3) (Nat.lt_of_le_of_lt q1 (by decide))) (by omega)) (Nat.le_trans (qan (k:=3) (Nat.lt_of_le_of_lt q2 (by decide))) (by omega));have:=qtb Z gB y hs' ra va rc vc pt aa args.length ac x i w hB (by omega) hZ args q _ _ rfl hI (hx rfl) hqs hlh (HH 0 (by simp [needK] at hn;omega)) (HH 1 (by simp [needK] at hn;omega)) (Fi 0) (Fi 1) (V 0 1) ⟨hok.scaled hi (A 1).1 (A 0).1 ⟨q1,q2⟩,hok.scaled hi (A 1).2 (A 0).2 ⟨q1,q2⟩⟩;simpa [nextF,qfm] using this
 ·
  have:=qty Z gB y hs' ra va rc vc pt aa args.length ac x i w hB (by omega) hZ args _ _ _ rfl hI hlh (HH 0 (by simp [needK] at hn;omega)) (HH 1 (by simp [needK] at hn;omega)) (HH 2 (by simp [needK] at hn;omega)) (Fi 0) (Fi 1) (Fi 2) (V 1 2);simpa [nextF] using this
 ·
  have:=qsn Z gB y hs' ra va rc vc pt aa args.length ac x i w hB (by omega) hZ args _ _ _ rfl hI hlh (HH 0 (by simp [needK] at hn;omega)) (HH 1 (by simp [needK] at hn;omega)) (HH 2 (by simp [needK] at hn;omega)) (Fi 0) (Fi 1) (Fi 2) (V 1 2);rw [qvv (A 2).2.1 (A 1).2.1] at this;simpa [nextF] using this
 ·
  have:=qsl Z gB y hs' ra va rc vc pt aa args.length ac x i w hB (by omega) hZ args i _ _ rfl hI hlh (HH 0 (by simp [needK] at hn;omega)) (HH 1 (by simp [needK] at hn;omega)) (Fi 0) (Fi 1) (V 0 1) (qoc _) ⟨hok.turned hi (A 1).1 (A 0).1 _,hok.turned hi (A 1).2 (A 0).2 _⟩ (hok.diff hi (A 1).1 (A 0).1).2 (hok.diff hi (A 1).2 (A 0).2).2 (by omega);simpa [nextF,qfm] using this
 ·
  have:=qr5 Z gB y hs' ra va rc vc pt aa args.length ac x i w hB (by omega) hZ;simpa [nextF] using this
 ·
  have:=quj kind k7 Z gB y hs' ra va rc vc pt aa args.length ac x i w hB (by omega) hZ;have e1:¬ kind=1:=by omega
  have e2:¬ kind=2:=by omega
  have e3:¬ kind=3:=by omega
  have e4:¬ kind=4:=by omega
  have e5:¬ kind=5:=by omega
  have e6:¬ kind=6:=by omega
  unfold nextF;rw [if_neg e1,if_neg e1,if_neg e2,if_neg e3,if_neg e4,if_neg e5,if_neg e6];exact this
def pickH (hs:List (VQ × Vec)) (args:List Int):List (VQ × Vec):=args.map fun a=>hs.getD a.toNat (⟨none,0,none,0⟩,([],[]))
theorem qbh (hs:List (VQ × Vec)) (args:List Int):(pickH hs args).length=args.length:=by simp [pickH]
theorem qer {hs:List (VQ × Vec)} {args:List Int} {k:Nat} {a:Int} {z:VQ × Vec} (ha:args[k]? = some a) (hz:hs[a.toNat]? = some z):(pickH hs args)[k]? = some z:=by
 simp [pickH,ha,hz,List.getD_eq_getElem?_getD]
theorem qsv {hs:List (VQ × Vec)} {coords:List Vec} {args:List Int} (he:hs.map Prod.snd=coords) {k:Nat} (hk:k<args.length) (hr:∀ x∈args,0<=x/\x<coords.length):∃ q,(pickH hs args)[k]? = some (q,argF coords args k)/\(q,argF coords args k)∈hs:=by
 obtain ⟨j,q,h1,h2⟩:=qpx he hk hr;exact ⟨q,qer h1 (by simpa using h2),List.mem_of_getElem? h2⟩
theorem qyb {α:Type} {f:α->List Value} {sz B c:Nat} {t:TypeId} {Y:Nat->Prop} {w w':World} {a:Option Addr} {l:List α} (h:Own f sz t B w a c l) (k:Fr Y w w') (hn:∀ g:Addr,a=some g->¬ Y g.block):Own f sz t B w' a c l:=by
 have e1:∀ g:Addr,a=some g->w'.heap[g.block]? = w.heap[g.block]?:=fun g hg=>k.block _ (h.lt hg).2 (hn g hg)
 rcases h with ⟨p,q⟩
 refine ⟨p,?_⟩;rcases q with q | ⟨g,c,cur,h1,h2,h3,h4⟩
 · exact .inl q
 ·
  refine .inr ⟨g,c,cur,h1,h2,?_,h4⟩;rw [<- h3];injection h1 with h1
  exact e1 _ h1
theorem zz61 {P:Prop} (h:P:=by
 have h29:=h2h.out.fr hf9 n2.out;have h39:=h3h.out.fr hf9 n3.out;have m2:¬ Yv ra va9 g2:=qb5 n2.out hv9 (by have:=h2h.out.lt;omega);have m3:¬ Yv ra va9 g3:=qb5 n3.out hv9 (by have:=h3h.out.lt;omega);obtain ⟨k20,k21⟩:=cq2 h29;obtain ⟨f20,f21⟩:=fq2 h29;have l2:=h29.lt;obtain ⟨k30,k31⟩:=cq2 h39;obtain ⟨f30,f31⟩:=fq2 h39;have l3:=h39.lt;have hfr:Fr (Yv ra va) w w9:=(Fr.below hwr).trans hf9;have hvv:∀ g,va9=some g->va=some g\/w.heap.size<=g.block:=fun g hg=>by
  have:=hwr.size;rcases hv9 g hg with e | e
  · exact .inl e
  · exact .inr (by omega)
 have h29h:=Hd h29;have h39h:=Hd h39;replace hR9:=Hd hR9;replace hV9:=Hd hV9;replace hfr:=Hd hfr;replace hvv:=Hd hvv;replace m2:=Hd m2;replace m3:=Hd m3;clear h29 h39 hf9 hv9;go_wp2;clear k20 k21 f20 f21 l2 k30 k31 f30 f31 l3;refine qab (fun W=>Blk W g2 58 #[.slice ra hs.length rc,.slice va9 PP9.1.length vc9]/\Blk W g3 97 #[.slice t.a PP9.2.1.length t.c,.slice t.b PP9.2.2.length t.d]/\Rst Z W B ⟨PP9.1,x.coords,x.free⟩ hs ra rc va9 vc9/\VecX (Yr Z ra va9) W t PP9.2/\Fr (Yv ra va) w W) ⟨?_,?_,?_,?_,?_⟩ ?_
 ·
  have a:=h29h.out
  ((with_reducible repeat first|assumption|(apply bF;focus omega)|apply bS|(apply bN;focus (simp;done))|apply bA|apply bD);all_goals rfl)
 ·
  have a:=h39h.out
  ((with_reducible repeat first|assumption|(apply bF;focus omega)|apply bS|(apply bN;focus (simp;done))|apply bA|apply bD);all_goals rfl)
 ·
  first
  | exact ((((hR9.out.set_ e2.out m2.out).set_ e2.out m2.out).set_ e3.out m3.out).set_ e3.out m3.out).less fun b hb=>.inl hb
  | exact (((((hR9.out.set_ e2.out m2.out).set_ e2.out m2.out).set_ e3.out m3.out).set_ e3.out m3.out).less fun b hb=>.inl hb).call (brf.drew)
 ·
  refine VecX.less (Y:=Yr (Zk Z w.heap.size 5) ra va9) ?_ fun b hb=>hb.imp id .inl
  exact (((hV9.out.step (Agr.setc (.inr e2.out) (Agr.refl _ _))).step (Agr.setc (.inr e2.out) (Agr.refl _ _))).step (Agr.setc (.inr e3.out) (Agr.refl _ _))).step (Agr.setc (.inr e3.out) (Agr.refl _ _))
 ·
  first
  | exact (((hfr.out.setc (.inr w2)).setc (.inr w2)).setc (.inr w3)).setc (.inr w3)
  | exact ((((hfr.out.setc (.inr w2)).setc (.inr w2)).setc (.inr w3)).setc (.inr w3)).call (brf.drew)
 rintro wZ ⟨hF1,hF2,hRZ,hVZ,hfZ⟩;obtain ⟨j0,j1⟩:=cq2 hF1;obtain ⟨j2,j3⟩:=cq2 hF2;refine bodyPost_ret (v:=.tuple #[.agg #[.slice ra hs.length rc,.slice va9 PP9.1.length vc9],.agg #[.slice t.a PP9.2.1.length t.c,.slice t.b PP9.2.2.length t.d]]) (by simp [results,Tryz.results98,go_sem,j0,j1,j2,j3]) rfl ?_;exact ⟨va9,vc9,t,rfl,hRZ,hVZ,hfZ,hvv.out⟩
 ):P:=h
theorem zz62 {P:Prop} (h:P:=by
 rw [<- hPe.out] at CC;refine CC.mono ?_;rintro e w9 ⟨va9,vc9,t,rfl,hR9,hV9,hf9,hv9⟩;clear x0 x1 k40 l0 l4 CC;exact zz61
 ):P:=h
theorem qgq (Z:Nat->Prop) (B:Nat) (x:Frm) (hs:List (VQ × Vec)) (ra va:Option Addr) (rc vc:Nat) (pt:ByteArray) (aa na da ga:Option Addr) (ac nc dc sn sb so sc gl gc i rn rd:Nat) (neg:Bool) (args:List Int) (w:World) (hR:Rst Z w B x hs ra rc va vc) (hl:x.vars.length<=800) (hlh:hs.length<=1000) (hZ:∀ b,Z b->b<w.heap.size) (hBw:B<=w.heap.size) (hi:i<sn) (hsn:sn<=sc/\sc<=maxLen) (kind:Int) (hkk:kind=1\/kind=6\/7<=kind) (c0:w.cell? ⟨sb,so+i*6,none⟩=some (.int .i64 kind)) (c1:w.cell? ⟨sb,so+i*6+1,none⟩=some (.string pt)) (c2:w.cell? ⟨sb,so+i*6+2,none⟩=some (.slice aa args.length ac)) (c3:w.cell? ⟨sb,so+i*6+3,none⟩=some (.bool neg)) (c4:w.cell? ⟨sb,so+i*6+4,none⟩=some (.slice na rn nc)) (c5:w.cell? ⟨sb,so+i*6+5,none⟩=some (.slice da rd dc)) (hI:IntsR w aa ac args) (hal:args.length<=1000) (har:∀ a∈args,0<=a/\a<hs.length)  : Calls Tryz.prog 98 #[.agg #[.slice ra hs.length rc,.slice va x.vars.length vc],.agg #[.slice (some ⟨sb,so,none⟩) sn sc,.slice ga gl gc],.int .i64 i,.int .i64 x.free] w (qdb Z B x (if kind=1 then qci x i else if kind=6 then (x.vars++[(1,(i:Int),0),(2,(i:Int),1),(2,(i:Int),2)],(varP (x.vars.length+1),varP (x.vars.length+2))) else (x.vars++[(2,(i:Int),0),(2,(i:Int),1)],(varP x.vars.length,varP (x.vars.length+1)))) hs ra rc va w):=by
 obtain ⟨PP9,hPe⟩:∃ PP9:List Vr × Vec,PP9=(if kind=1 then qci x i else if kind=6 then (x.vars++[(1,(i:Int),0),(2,(i:Int),1),(2,(i:Int),2)],(varP (x.vars.length+1),varP (x.vars.length+2))) else (x.vars++[(2,(i:Int),0),(2,(i:Int),1)],(varP x.vars.length,varP (x.vars.length+1)))):=⟨_,rfl⟩
 rw [<- hPe];replace hPe:=Hd hPe;replace hkk:=Hd hkk;have HR:=Hd hR;have HZ:=Hd hZ;have HI:=Hd hI;have HA:=Hd har;have HL:=Hd hlh;have hn0:∀ g,w.heap.size<=g->¬ Yv ra va g:=fun g hg h=>by have:=hR.lt _ h;omega
 replace hn0:=Hd hn0;have hsb:sb<w.heap.size:=World.block_lt_of_cell? w _ c0;have hsb1:sb<w.heap.size+1:=by omega
 have hsb2:sb<w.heap.size+1+1:=by omega
 have hsb3:sb<w.heap.size+1+1+1:=by omega
 have hsb4:sb<w.heap.size+1+1+1+1:=by omega
 clear hR hZ hI har hlh;obtain ⟨sm1,sm2⟩:=hsn;go_enter Tryz.func98,Tryz.ntmps98;go_wp2;refine qab (fun W=>Blk W w.heap.size 58 #[.slice ra hs.length rc,.slice va x.vars.length vc]/\Blk W (w.heap.size+1) 25 #[.slice (some ⟨sb,so,none⟩) sn sc,.slice ga gl gc]/\Blk W (w.heap.size+1+1) 58 #[.slice none 0 0,.slice none 0 0]/\Blk W (w.heap.size+1+1+1) 97 #[.slice none 0 0,.slice none 0 0]/\Blk W (w.heap.size+1+1+1+1) 53 #[.int .i64 kind,.string pt,.slice aa args.length ac,.bool neg,.slice na rn nc,.slice da rd dc]/\Below w.heap.size w W) (by refine ⟨?_,?_,?_,?_,?_,?_⟩<;>first|((with_reducible repeat first|assumption|(apply bF;focus omega)|apply bS|(apply bN;focus (simp;done))|apply bA|apply bD);all_goals rfl)|go_grown) ?_;clear c0 c1 c2 c3 c4 c5 hsb hsb1 hsb2 hsb3 hsb4;rintro w1 ⟨h0,h1,h2,h3,h4,hw1⟩;obtain ⟨g1,hg1⟩:∃ g,g=w.heap.size+1:=⟨_,rfl⟩
 obtain ⟨g2,hg2⟩:∃ g,g=w.heap.size+1+1:=⟨_,rfl⟩
 obtain ⟨g3,hg3⟩:∃ g,g=w.heap.size+1+1+1:=⟨_,rfl⟩
 obtain ⟨g4,hg4⟩:∃ g,g=w.heap.size+1+1+1+1:=⟨_,rfl⟩
 obtain ⟨g0,hg0⟩:∃ g,g=w.heap.size:=⟨_,rfl⟩
 rw [<- hg4] at h4 ⊢;rw [<- hg3] at h3 ⊢;rw [<- hg2] at h2 ⊢;rw [<- hg1] at h1 ⊢;rw [<- hg0] at h0 ⊢;have hl4:=h4.lt;have o1:g0<g1:=by omega
 have o2:g1<g2:=by omega
 have o3:g2<g3:=by omega
 have o4:g3<g4:=by omega
 have ow:w.heap.size<=g0:=by omega
 have o5:g4<w.heap.size+5:=by omega
 replace hg0:=Hd hg0;replace hg1:=Hd hg1;replace hg2:=Hd hg2;replace hg3:=Hd hg3;replace hg4:=Hd hg4;have k40:=h4.cell 0;have k42:=h4.cell 2;clear hl4;go_wp2
 go_loopg [11,13,26] args.length (fun m l _ idx wr=>∃ (k:Nat) (la:Option Addr) (lc:Nat),Hid (k+m=args.length)/\l=.slice la k lc/\idx=.int .i64 k/\Hid (OwnCo (g4+1) wr la lc ((pickH hs args).take k))/\Below w.heap.size w wr/\Blk wr g0 58 #[.slice ra hs.length rc,.slice va x.vars.length vc]/\Blk wr g1 25 #[.slice (some ⟨sb,so,none⟩) sn sc,.slice ga gl gc]/\Blk wr g2 58 #[.slice none 0 0,.slice none 0 0]/\Blk wr g3 97 #[.slice none 0 0,.slice none 0 0]/\Blk wr g4 53 #[.int .i64 kind,.string pt,.slice aa args.length ac,.bool neg,.slice na rn nc,.slice da rd dc])
 case atStart=>exact ⟨0,none,0,by show _=_;omega,rfl,rfl,by rw [List.take_zero];exact Own.nil,hw1,h0,h1,h2,h3,h4⟩
 case round =>
  clear h0 h1 h2 h3 h4 hw1 k40 k42;obtain ⟨k,la,lc,hm,rfl,rfl,hO,hwr,h0,h1,h2,h3,h4⟩:=hrel;by_cases hlt:k<args.length
  ·
   obtain ⟨a,ha⟩:=qac hlt;obtain ⟨ab,ao,rfl,hae,_⟩:=(HI.out.ext (xbw hwr)).2.2 k a ha;obtain ⟨a1,a2⟩:=HA.out a (List.mem_of_getElem? ha);obtain ⟨z,hz⟩:=qac (show a.toNat<hs.length by omega);obtain ⟨rb,rfl,_,_,hzc⟩:=(HR.out.call hwr).co.at_ qbk hz;have hcz0:=hzc 0 _ rfl;have hcz1:=hzc 1 _ rfl;have hk':=qer ha hz;obtain ⟨j,rfl⟩:∃ j:Nat,a=(j:Int):=⟨a.toNat,by omega⟩
   rw [Int.toNat_natCast] at hcz0 hcz1 hz;rw [Nat.mul_one] at hae;rw [Nat.add_zero] at hcz0;have hjl:j<hs.length:=qas hz;have hlh:=HL.out;have hlen2:((pickH hs args).take k).length=k:=by rw [List.length_take,qbh];omega
   have z0:=h0.cell 0;have hzl:=h0.lt;have y4:=h4.lt;have hab:ab<wr.heap.size:=World.block_lt_of_cell? wr _ hae;have hrb:rb<wr.heap.size:=World.block_lt_of_cell? wr _ hcz0;replace hk':=Hd hk';replace hz:=Hd hz;replace hlen2:=Hd hlen2;replace ha:=Hd ha;replace hO:=Hd hO.out;have h0h:=Hd h0;have h1h:=Hd h1;have h2h:=Hd h2;have h3h:=Hd h3;have h4h:=Hd h4;clear hzc h0 h1 h2 h3 h4 a1 a2
   go_wp2_with (at_builtin;go_must (refine qab (fun W=>Blk W wr.heap.size 97 #[.slice z.1.a z.2.1.length z.1.c,.slice z.1.b z.2.2.length z.1.d]/\Below wr.heap.size wr W) ⟨by ((with_reducible repeat first|assumption|(apply bF;focus omega)|apply bS|(apply bN;focus (simp;done))|apply bA|apply bD);all_goals rfl),by go_grown⟩ ?_);rintro w2 ⟨hr2,hw2⟩;go_must (refine qax (B:=g4+1) rfl (.tmp 30) (.tmp 36) 55 rfl Tryz.underlying55 qge rfl (by omega) (by omega) qbk la lc (by rw [hlen2.out];rfl) (hO.out.below hw2) z (qe3 _) wr.heap.size 1 rfl (fun j u hu=>by have e:=hr2.cell j;rw [e];simpa [coC] using hu) ((pickH hs args).take k++[z]) rfl (by rw [List.length_append,hlen2.out];simp;omega) (by have:=hw2.size;omega) ?_);intro la2 lc2 w3 ho3 hg3' ha3);have hwr2:=bth hwr hw2;have hlt2:=hw2.size;have hO2:=hO.out.below hw2
   have q0:=(h0h.out.below' hw2).under hO2 (by omega) hg3';have q1:=(h1h.out.below' hw2).under hO2 (by omega) hg3';have q2:=(h2h.out.below' hw2).under hO2 (by omega) hg3';have q3:=(h3h.out.below' hw2).under hO2 (by omega) hg3';have q4:=(h4h.out.below' hw2).under hO2 (by omega) hg3';have hb3:=qak hwr2 (hO2.base (show w.heap.size<=g4+1 by omega)) hg3';rw [<- qa7 hk'.out] at ho3;have hmin:min k (pickH hs args).length+1=k+1:=by rw [qbh];omega
   go_roundg (gk-1)
   case rel=>exact ⟨k+1,la2,lc2,by have:=hm.out;show _=_;omega,by rw [hmin],by go_num,ho3,hb3,q0,q1,q2,q3,q4⟩
   case measure=>have:=hm.out;omega
  ·
   have hk:k=args.length:=by have:=hm.out;omega
   have hO2:=hO.out;rw [List.take_of_length_le (by rw [qbh];omega)] at hO2;subst hk;replace hO2:=Hd hO2;have hR8:Rst (Zk Z w.heap.size 5) wr B x hs ra rc va vc:=(HR.out.more (qdn (nlr _))).call hwr;have hZ8:∀ b,Zk Z w.heap.size 5 b->b<wr.heap.size:=zk_lt HZ.out hwr.size (by have:=h4.lt;have:=hg4.out;omega);have hB8:B<=wr.heap.size:=by have:=hwr.size;omega
   obtain ⟨x0,x1⟩:=cq2 h0;have k40:=h4.cell 0;have l0:=h0.lt;have l4:=h4.lt;have n2:¬ Yv ra va g2:=hn0.out g2 (by omega);have n3:¬ Yv ra va g3:=hn0.out g3 (by omega);have e2:Zk Z w.heap.size 5 g2:=.inr (by omega);have e3:Zk Z w.heap.size 5 g3:=.inr (by omega);have w2:w.heap.size<=g2:=by omega
   have w3:w.heap.size<=g3:=by omega
   have d23:g2≠g3:=by omega
   have d32:g3≠g2:=by omega
   have h2h:=Hd h2;have h3h:=Hd h3;have h0h:=Hd h0;have h4h:=Hd h4;replace hR8:=Hd hR8;replace hZ8:=Hd hZ8;replace n2:=Hd n2;replace n3:=Hd n3;replace e2:=Hd e2;replace e3:=Hd e3;clear h0 h1 h2 h3 h4 hm hO;rcases hkk.out with rfl | rfl | k7
   ·
    replace hPe:Hid (PP9=qci x i):=by have e:=hPe.out;rw [if_pos rfl] at e;exact e
    go_wp2_with fail;have CC:=qum (Zk Z w.heap.size 5) B x hs ra va rc vc i wr hR8.out (by omega) hZ8.out hB8
    try rw [show ((0:Int)+1)=1 from rfl] at CC
    exact zz62
   ·
    replace hPe:Hid (PP9=(x.vars++[(1,(i:Int),0),(2,(i:Int),1),(2,(i:Int),2)],(varP (x.vars.length+1),varP (x.vars.length+2)))):=by have e:=hPe.out;rw [if_neg (by decide),if_pos rfl] at e;exact e
    go_wp2_with fail;refine (qc3 (Zk Z w.heap.size 5) B x hs ra va rc vc 1 i 0 wr hR8.out (by omega) hZ8.out hB8).mono ?_;rintro e wA ⟨vaA,vcA,aA,cA,rfl,hRA,_,hfA,hvA⟩;have hln:(x.vars++[((1:Int),(i:Int),(0:Int))]).length=x.vars.length+1:=by simp
    have CC:=fun W (hW:Below wA.heap.size wA W)=>qf8 (Zk Z w.heap.size 5) B ⟨x.vars++[(1,(i:Int),0)],x.coords,x.free⟩ hs ra vaA rc vcA i 1 (by omega) (by omega) W (hRA.call hW) (by dsimp only;omega) (fun b hb=>ltl (hZ8.out b hb) (Nat.le_trans hfA.size hW.size)) (by have:=hfA.size;have:=hW.size;omega)
    unfold qdb at CC;dsimp only at CC;rw [hln] at CC;replace CC:=Hd CC;replace hfA:=Hd hfA;replace hvA:=Hd hvA;clear x0 x1 k40 l0 l4 hRA hln;go_wp2_with fail;refine qad (fun W=>Below wA.heap.size wA W) (by go_grown) ?_;intro wB hbB;refine (CC.out wB hbB).mono ?_;rintro e w9 ⟨va9,vc9,t,rfl,hR9,hV9,hf9,hv9⟩;have hv9:∀ g,va9=some g->va=some g\/wr.heap.size<=g.block:=fun g hg=>by
     have:=hfA.out.size;have:=hbB.size;rcases hv9 g hg with e | e
     · exact hvA.out g e
     · exact .inr (by omega)
    have hf9:Fr (Yv ra va) wr w9:=((hfA.out).call hbB).then_ hf9 fun b hb=>by
     rcases hb with hb | ⟨g,hg,rfl⟩
     · exact .inl (.inl hb)
     ·
      rcases hvA.out g hg with e | e
      · exact .inl (.inr ⟨g,e,rfl⟩)
      · exact .inr e
    have eP:PP9=(x.vars++[(1,(i:Int),0)]++[(2,(i:Int),1),(2,(i:Int),1+1)],(varP (x.vars.length+1),varP (x.vars.length+1+1))):=by rw [hPe.out];simp
    have eV:varP (x.vars.length+1)=PP9.2.1:=by rw [eP]
    have eW:varP (x.vars.length+1+1)=PP9.2.2:=by rw [eP]
    have eN:x.vars++[((1:Int),(i:Int),(0:Int))]++[(2,(i:Int),1),(2,(i:Int),1+1)]=PP9.1:=by rw [eP]
    rw [eV,eW,eN];rw [eV,eW] at hV9;replace hV9:VecX (Yr (Zk Z w.heap.size 5) ra va9) w9 t PP9.2:=hV9;rw [eN] at hR9;replace eP:=Hd eP;replace eV:=Hd eV;replace eW:=Hd eW;replace eN:=Hd eN;clear CC hfA hvA;exact zz61
   ·
    replace hPe:Hid (PP9=(x.vars++[(2,(i:Int),0),(2,(i:Int),1)],(varP x.vars.length,varP (x.vars.length+1)))):=by have e:=hPe.out;rw [if_neg (by omega),if_neg (by omega)] at e;exact e
    have kk1:¬ kind=1:=by omega
    have kk2:¬ kind=2:=by omega
    have kk3:¬ kind=3:=by omega
    have kk4:¬ kind=4:=by omega
    have kk5:¬ kind=5:=by omega
    have kk6:¬ kind=6:=by omega
    go_wp2_with fail;have CC:=qf8 (Zk Z w.heap.size 5) B x hs ra va rc vc i 0 (by omega) (by omega) wr hR8.out (by omega) hZ8.out hB8
    try rw [show ((0:Int)+1)=1 from rfl] at CC
    exact zz62
theorem qq5 (Z:Nat->Prop) (B:Nat) (x:Frm) (hs:List (VQ × Vec)) (ra va:Option Addr) (rc vc:Nat) (pt:ByteArray) (aa na da ga:Option Addr) (ac nc dc sn sb so sc gl gc i rn rd:Nat) (neg:Bool) (args:List Int) (w:World) (hR:Rst Z w B x hs ra rc va vc) (hl:x.vars.length<=800) (hlh:hs.length<=1000) (hZ:∀ b,Z b->b<w.heap.size) (hBw:B<=w.heap.size) (hi:i<sn) (hsn:sn<=sc/\sc<=maxLen) (q:Rat) (a b:Vec) (qa qb:VQ) (H0:(pickH hs args)[0]? = some (qa,a)) (M0:(qa,a)∈hs) (H1:(pickH hs args)[1]? = some (qb,b)) (M1:(qb,b)∈hs) (hx:Rd (Yr Z ra va) w fun V=>QAc V ⟨neg,rn,na,nc,rd,da,dc⟩ q) (hq:qsz q<=1000) (fa:FineV a) (fb:FineV b) (fd:FineV (subP b.1 a.1,subP b.2 a.2)) (f1:∀ k,FineP (mulP (qbn q) ((subP b.1 a.1).take k))) (f2:∀ t∈subP b.1 a.1,FineP (qat (qbn q) t)) (f3:∀ k,FineP (mulP (qbn q) ((subP b.2 a.2).take k))) (f4:∀ t∈subP b.2 a.2,FineP (qat (qbn q) t)) (c0:w.cell? ⟨sb,so+i*6,none⟩=some (.int .i64 2)) (c1:w.cell? ⟨sb,so+i*6+1,none⟩=some (.string pt)) (c2:w.cell? ⟨sb,so+i*6+2,none⟩=some (.slice aa args.length ac)) (c3:w.cell? ⟨sb,so+i*6+3,none⟩=some (.bool neg)) (c4:w.cell? ⟨sb,so+i*6+4,none⟩=some (.slice na rn nc)) (c5:w.cell? ⟨sb,so+i*6+5,none⟩=some (.slice da rd dc)) (hI:IntsR w aa ac args) (hal:args.length<=1000) (har:∀ a∈args,0<=a/\a<hs.length):Calls Tryz.prog 98 #[.agg #[.slice ra hs.length rc,.slice va x.vars.length vc],.agg #[.slice (some ⟨sb,so,none⟩) sn sc,.slice ga gl gc],.int .i64 i,.int .i64 x.free] w (qdb Z B x (x.vars,(addP a.1 (mulP (qbn q) (subP b.1 a.1)),addP a.2 (mulP (qbn q) (subP b.2 a.2)))) hs ra rc va w):=by
 obtain ⟨V,hPe⟩:∃ V:Vec,V=(addP a.1 (mulP (qbn q) (subP b.1 a.1)),addP a.2 (mulP (qbn q) (subP b.2 a.2))):=⟨_,rfl⟩
 rw [<- hPe];replace hPe:=Hd hPe;have FX:=Hd hx;have FQ:=Hd hq;have FF:=Hd (And.intro fa (And.intro fb (And.intro fd (And.intro f1 (And.intro f2 (And.intro f3 f4))))));replace H0:=Hd H0;replace H1:=Hd H1;replace M0:=Hd M0;replace M1:=Hd M1;clear hx hq fa fb fd f1 f2 f3 f4;have HR:=Hd hR;have HZ:=Hd hZ;have HI:=Hd hI;have HA:=Hd har;have HL:=Hd hlh;have hn0:∀ g,w.heap.size<=g->¬ Yv ra va g:=fun g hg h=>by have:=hR.lt _ h;omega
 replace hn0:=Hd hn0;have hsb:sb<w.heap.size:=World.block_lt_of_cell? w _ c0;have hsb1:sb<w.heap.size+1:=by omega
 have hsb2:sb<w.heap.size+1+1:=by omega
 have hsb3:sb<w.heap.size+1+1+1:=by omega
 have hsb4:sb<w.heap.size+1+1+1+1:=by omega
 clear hR hZ hI har hlh;obtain ⟨sm1,sm2⟩:=hsn;go_enter Tryz.func98,Tryz.ntmps98;go_wp2;refine qab (fun W=>Blk W w.heap.size 58 #[.slice ra hs.length rc,.slice va x.vars.length vc]/\Blk W (w.heap.size+1) 25 #[.slice (some ⟨sb,so,none⟩) sn sc,.slice ga gl gc]/\Blk W (w.heap.size+1+1) 58 #[.slice none 0 0,.slice none 0 0]/\Blk W (w.heap.size+1+1+1) 97 #[.slice none 0 0,.slice none 0 0]/\Blk W (w.heap.size+1+1+1+1) 53 #[.int .i64 2,.string pt,.slice aa args.length ac,.bool neg,.slice na rn nc,.slice da rd dc]/\Below w.heap.size w W) (by refine ⟨?_,?_,?_,?_,?_,?_⟩<;>first|((with_reducible repeat first|assumption|(apply bF;focus omega)|apply bS|(apply bN;focus (simp;done))|apply bA|apply bD);all_goals rfl)|go_grown) ?_;clear c0 c1 c2 c3 c4 c5 hsb hsb1 hsb2 hsb3 hsb4;rintro w1 ⟨h0,h1,h2,h3,h4,hw1⟩;obtain ⟨g1,hg1⟩:∃ g,g=w.heap.size+1:=⟨_,rfl⟩
 obtain ⟨g2,hg2⟩:∃ g,g=w.heap.size+1+1:=⟨_,rfl⟩
 obtain ⟨g3,hg3⟩:∃ g,g=w.heap.size+1+1+1:=⟨_,rfl⟩
 obtain ⟨g4,hg4⟩:∃ g,g=w.heap.size+1+1+1+1:=⟨_,rfl⟩
 obtain ⟨g0,hg0⟩:∃ g,g=w.heap.size:=⟨_,rfl⟩
 rw [<- hg4] at h4 ⊢;rw [<- hg3] at h3 ⊢;rw [<- hg2] at h2 ⊢;rw [<- hg1] at h1 ⊢;rw [<- hg0] at h0 ⊢;have hl4:=h4.lt;have o1:g0<g1:=by omega
 have o2:g1<g2:=by omega
 have o3:g2<g3:=by omega
 have o4:g3<g4:=by omega
 have ow:w.heap.size<=g0:=by omega
 have o5:g4<w.heap.size+5:=by omega
 replace hg0:=Hd hg0;replace hg1:=Hd hg1;replace hg2:=Hd hg2;replace hg3:=Hd hg3;replace hg4:=Hd hg4;have k40:=h4.cell 0;have k42:=h4.cell 2;clear hl4;go_wp2
 go_loopg [11,13,26] args.length (fun m l _ idx wr=>∃ (k:Nat) (la:Option Addr) (lc:Nat),Hid (k+m=args.length)/\l=.slice la k lc/\idx=.int .i64 k/\Hid (OwnCo (g4+1) wr la lc ((pickH hs args).take k))/\Below w.heap.size w wr/\Blk wr g0 58 #[.slice ra hs.length rc,.slice va x.vars.length vc]/\Blk wr g1 25 #[.slice (some ⟨sb,so,none⟩) sn sc,.slice ga gl gc]/\Blk wr g2 58 #[.slice none 0 0,.slice none 0 0]/\Blk wr g3 97 #[.slice none 0 0,.slice none 0 0]/\Blk wr g4 53 #[.int .i64 2,.string pt,.slice aa args.length ac,.bool neg,.slice na rn nc,.slice da rd dc])
 case atStart=>exact ⟨0,none,0,by show _=_;omega,rfl,rfl,by rw [List.take_zero];exact Own.nil,hw1,h0,h1,h2,h3,h4⟩
 case round =>
  clear h0 h1 h2 h3 h4 hw1 k40 k42;obtain ⟨k,la,lc,hm,rfl,rfl,hO,hwr,h0,h1,h2,h3,h4⟩:=hrel;by_cases hlt:k<args.length
  ·
   obtain ⟨a,ha⟩:=qac hlt;obtain ⟨ab,ao,rfl,hae,_⟩:=(HI.out.ext (xbw hwr)).2.2 k a ha;obtain ⟨a1,a2⟩:=HA.out a (List.mem_of_getElem? ha);obtain ⟨z,hz⟩:=qac (show a.toNat<hs.length by omega);obtain ⟨rb,rfl,_,_,hzc⟩:=(HR.out.call hwr).co.at_ qbk hz;have hcz0:=hzc 0 _ rfl;have hcz1:=hzc 1 _ rfl;have hk':=qer ha hz;obtain ⟨j,rfl⟩:∃ j:Nat,a=(j:Int):=⟨a.toNat,by omega⟩
   rw [Int.toNat_natCast] at hcz0 hcz1 hz;rw [Nat.mul_one] at hae;rw [Nat.add_zero] at hcz0;have hjl:j<hs.length:=qas hz;have hlh:=HL.out;have hlen2:((pickH hs args).take k).length=k:=by rw [List.length_take,qbh];omega
   have z0:=h0.cell 0;have hzl:=h0.lt;have y4:=h4.lt;have hab:ab<wr.heap.size:=World.block_lt_of_cell? wr _ hae;have hrb:rb<wr.heap.size:=World.block_lt_of_cell? wr _ hcz0;replace hk':=Hd hk';replace hz:=Hd hz;replace hlen2:=Hd hlen2;replace ha:=Hd ha;replace hO:=Hd hO.out;have h0h:=Hd h0;have h1h:=Hd h1;have h2h:=Hd h2;have h3h:=Hd h3;have h4h:=Hd h4;clear hzc h0 h1 h2 h3 h4 a1 a2
   go_wp2_with (at_builtin;go_must (refine qab (fun W=>Blk W wr.heap.size 97 #[.slice z.1.a z.2.1.length z.1.c,.slice z.1.b z.2.2.length z.1.d]/\Below wr.heap.size wr W) ⟨by ((with_reducible repeat first|assumption|(apply bF;focus omega)|apply bS|(apply bN;focus (simp;done))|apply bA|apply bD);all_goals rfl),by go_grown⟩ ?_);rintro w2 ⟨hr2,hw2⟩;go_must (refine qax (B:=g4+1) rfl (.tmp 30) (.tmp 36) 55 rfl Tryz.underlying55 qge rfl (by omega) (by omega) qbk la lc (by rw [hlen2.out];rfl) (hO.out.below hw2) z (qe3 _) wr.heap.size 1 rfl (fun j u hu=>by have e:=hr2.cell j;rw [e];simpa [coC] using hu) ((pickH hs args).take k++[z]) rfl (by rw [List.length_append,hlen2.out];simp;omega) (by have:=hw2.size;omega) ?_);intro la2 lc2 w3 ho3 hg3' ha3);have hwr2:=bth hwr hw2;have hlt2:=hw2.size;have hO2:=hO.out.below hw2
   have q0:=(h0h.out.below' hw2).under hO2 (by omega) hg3';have q1:=(h1h.out.below' hw2).under hO2 (by omega) hg3';have q2:=(h2h.out.below' hw2).under hO2 (by omega) hg3';have q3:=(h3h.out.below' hw2).under hO2 (by omega) hg3';have q4:=(h4h.out.below' hw2).under hO2 (by omega) hg3';have hb3:=qak hwr2 (hO2.base (show w.heap.size<=g4+1 by omega)) hg3';rw [<- qa7 hk'.out] at ho3;have hmin:min k (pickH hs args).length+1=k+1:=by rw [qbh];omega
   go_roundg (gk-1)
   case rel=>exact ⟨k+1,la2,lc2,by have:=hm.out;show _=_;omega,by rw [hmin],by go_num,ho3,hb3,q0,q1,q2,q3,q4⟩
   case measure=>have:=hm.out;omega
  ·
   have hk:k=args.length:=by have:=hm.out;omega
   have hO2:=hO.out;rw [List.take_of_length_le (by rw [qbh];omega)] at hO2;subst hk;replace hO2:=Hd hO2;have hR8:Rst (Zk Z w.heap.size 5) wr B x hs ra rc va vc:=(HR.out.more (qdn (nlr _))).call hwr;have hZ8:∀ b,Zk Z w.heap.size 5 b->b<wr.heap.size:=zk_lt HZ.out hwr.size (by have:=h4.lt;have:=hg4.out;omega);have hB8:B<=wr.heap.size:=by have:=hwr.size;omega
   obtain ⟨x0,x1⟩:=cq2 h0;have k40:=h4.cell 0;have l0:=h0.lt;have l4:=h4.lt;have n2:¬ Yv ra va g2:=hn0.out g2 (by omega);have n3:¬ Yv ra va g3:=hn0.out g3 (by omega);have e2:Zk Z w.heap.size 5 g2:=.inr (by omega);have e3:Zk Z w.heap.size 5 g3:=.inr (by omega);have w2:w.heap.size<=g2:=by omega
   have w3:w.heap.size<=g3:=by omega
   have d23:g2≠g3:=by omega
   have d32:g3≠g2:=by omega
   have h2h:=Hd h2;have h3h:=Hd h3;have h0h:=Hd h0;have h4h:=Hd h4;replace hR8:=Hd hR8;replace hZ8:=Hd hZ8;replace n2:=Hd n2;replace n3:=Hd n3;replace e2:=Hd e2;replace e3:=Hd e3;clear h0 h1 h2 h3 h4 hm hO;replace H0:=H0.out;replace H1:=H1.out;replace M0:=M0.out;replace M1:=M1.out;have k43:=held (h4h.out.cell 3);have k44:=held (h4h.out.cell 4);have k45:=held (h4h.out.cell 5);have hY8:∀ b,Yr (Zk Z w.heap.size 5) ra va b->b<wr.heap.size:=fun b hb=>hb.elim (hR8.out.lt b) (hZ8.out b)
   have y0:=held x0;have y1:=held x1;have s0:Below wr.heap.size wr wr.drew:=brf.drew;have hql:=qbh hs args;obtain ⟨lb0,hla0,_,_,hc0⟩:=hO2.out.at_ qbk H0;have u00:=held (by simpa using hc0 0 _ rfl:wr.cell? ⟨lb0,0,none⟩=some (.slice qa.a a.1.length qa.c));have u01:=held (hc0 1 _ rfl:wr.cell? ⟨lb0,1,none⟩=some (.slice qa.b a.2.length qa.d));have b0:0<args.length:=by have:=qas H0;omega
   have bi0:(0:Int)<(args.length:Int):=by omega
   have hVa:=(hR8.out.all _ M0)
   replace hVa:=Hd hVa;clear hc0;obtain ⟨lb1,hla1,_,_,hc1⟩:=hO2.out.at_ qbk H1;have u10:=held (by simpa using hc1 0 _ rfl:wr.cell? ⟨lb1,2,none⟩=some (.slice qb.a b.1.length qb.c));have u11:=held (hc1 1 _ rfl:wr.cell? ⟨lb1,3,none⟩=some (.slice qb.b b.2.length qb.d));have b1:1<args.length:=by have:=qas H1;omega
   have bi1:(1:Int)<(args.length:Int):=by omega
   have hVb:=(hR8.out.all _ M1)
   replace hVb:=Hd hVb;clear hc1;obtain rfl:lb0=lb1:=by rw [hla0] at hla1;injection hla1 with e;injection e
   subst hla0;clear hla1;have CA:=fun aA cA wA (sA:Below wr.heap.size wr wA) hPA=>qmr (Yr (Zk Z w.heap.size 5) ra va) a b (qbn q) qa qb aA cA wA (fun b hb=>ltl (hY8 b hb) sA.size) (hVa.out.call sA) (hVb.out.call sA) hPA FF.out.1 FF.out.2.1 (qpe FQ.out) FF.out.2.2.1 FF.out.2.2.2.1 FF.out.2.2.2.2.1 FF.out.2.2.2.2.2.1 FF.out.2.2.2.2.2.2
   simp only [<- hPe.out] at CA;have CC:=qu4 (Yr (Zk Z w.heap.size 5) ra va) ⟨neg,rn,na,nc,rd,da,dc⟩ q wr.drew hY8 ((FX.out.more (fun b hb=>hb.elim (fun h=>.inl (.inl h)) fun h=>(qdn (nlr _) b h).imp .inr id)).call (bth hwr s0)) FQ.out;replace CA:=Hd CA;replace CC:=Hd CC;replace hY8:=Hd hY8;clear x0 x1 H0 H1 M0 M1;go_wp2;clear k40 l0 l4;refine wrx (S:=Below wr.heap.size wr) [(0,.q),(1,.q),(2,.q),(3,.q),(4,.q),(5,.q),(6,.q),(7,.q),(8,.q),(9,.l),(10,.l),(11,.t),(12,.t)] (s0) ?_
   iterate 9 (refine qaj rfl rfl fun K hK=>xq ?_;go_simp;refine hK _ _ ?_;clear hK K)
   refine qag rfl rfl (fun K hK=>?_);go_simp;refine (CC.out).mono ?_;rintro r wA ⟨aA,cA,rfl,hPA,hbA⟩;dsimp only;refine hK.out _ _ (bth s0 hbA) (fun _=>?_);clear hK K;have sA:=bth s0 hbA;refine qag rfl rfl (fun K hK=>?_);go_simp;refine (CA.out aA cA wA sA hPA).mono ?_;rintro r w9 ⟨t,rfl,hV9,hb9⟩;dsimp only;refine hK.out _ _ (bth sA hb9) (fun _=>?_);clear hK K;have s9:=bth sA hb9;obtain ⟨va9,hva9⟩:∃ v,v=va:=⟨_,rfl⟩
   obtain ⟨vc9,hvc9⟩:∃ v,v=vc:=⟨_,rfl⟩
   replace hV9:VecX (Yr (Zk Z w.heap.size 5) ra va9) w9 t V:=by rw [hva9];exact hV9
   have hR9:Rst (Zk Z w.heap.size 5) w9 B ⟨x.vars,x.coords,x.free⟩ hs ra rc va9 vc9:=by rw [hva9,hvc9];exact hR8.out.call s9
   have hf9:Fr (Yv ra va) wr w9:=Fr.below s9;have hv9:∀ g,va9=some g->va=some g\/wr.heap.size<=g.block:=fun g h=>.inl (by rw [<- hva9];exact h)
   rw [<- hva9,<- hvc9];replace hva9:=Hd hva9;replace hvc9:=Hd hvc9;clear hPA hbA hb9 CA CC y0 y1 u00 u01 u10 u11 k43 k44 k45;have h29:=h2h.out.fr hf9 n2.out;have h39:=h3h.out.fr hf9 n3.out;have m2:¬ Yv ra va9 g2:=qb5 n2.out hv9 (by have:=h2h.out.lt;omega);have m3:¬ Yv ra va9 g3:=qb5 n3.out hv9 (by have:=h3h.out.lt;omega);obtain ⟨k20,k21⟩:=cq2 h29;obtain ⟨f20,f21⟩:=fq2 h29;have l2:=h29.lt;obtain ⟨k30,k31⟩:=cq2 h39;obtain ⟨f30,f31⟩:=fq2 h39;have l3:=h39.lt;have hfr:Fr (Yv ra va) w w9:=(Fr.below hwr).trans hf9;have hvv:∀ g,va9=some g->va=some g\/w.heap.size<=g.block:=fun g hg=>by
    have:=hwr.size;rcases hv9 g hg with e | e
    · exact .inl e
    · exact .inr (by omega)
   have h29h:=Hd h29;have h39h:=Hd h39;replace hR9:=Hd hR9;replace hV9:=Hd hV9;replace hfr:=Hd hfr;replace hvv:=Hd hvv;replace m2:=Hd m2;replace m3:=Hd m3;clear h29 h39 hf9 hv9;refine qae rfl rfl (fun K hK=>?_);go_simp;refine hK.out _ _ ?_;clear hK K;refine qae rfl rfl (fun K hK=>?_);go_simp;refine hK.out _ _ ?_;clear hK K;refine qai ?_;go_wp2;clear k20 k21 f20 f21 l2 k30 k31 f30 f31 l3;refine qab (fun W=>Blk W g2 58 #[.slice ra hs.length rc,.slice va9 ((x.vars,V):List Vr × Vec).1.length vc9]/\Blk W g3 97 #[.slice t.a ((x.vars,V):List Vr × Vec).2.1.length t.c,.slice t.b ((x.vars,V):List Vr × Vec).2.2.length t.d]/\Rst Z W B ⟨((x.vars,V):List Vr × Vec).1,x.coords,x.free⟩ hs ra rc va9 vc9/\VecX (Yr Z ra va9) W t ((x.vars,V):List Vr × Vec).2/\Fr (Yv ra va) w W) ⟨?_,?_,?_,?_,?_⟩ ?_
   ·
    have a:=h29h.out
    ((with_reducible repeat first|assumption|(apply bF;focus omega)|apply bS|(apply bN;focus (simp;done))|apply bA|apply bD);all_goals rfl)
   ·
    have a:=h39h.out
    ((with_reducible repeat first|assumption|(apply bF;focus omega)|apply bS|(apply bN;focus (simp;done))|apply bA|apply bD);all_goals rfl)
   ·
    first
    | exact ((((hR9.out.set_ e2.out m2.out).set_ e2.out m2.out).set_ e3.out m3.out).set_ e3.out m3.out).less fun b hb=>.inl hb
    | exact (((((hR9.out.set_ e2.out m2.out).set_ e2.out m2.out).set_ e3.out m3.out).set_ e3.out m3.out).less fun b hb=>.inl hb).call (brf.drew)
   ·
    refine VecX.less (Y:=Yr (Zk Z w.heap.size 5) ra va9) ?_ fun b hb=>hb.imp id .inl
    exact (((hV9.out.step (Agr.setc (.inr e2.out) (Agr.refl _ _))).step (Agr.setc (.inr e2.out) (Agr.refl _ _))).step (Agr.setc (.inr e3.out) (Agr.refl _ _))).step (Agr.setc (.inr e3.out) (Agr.refl _ _))
   ·
    first
    | exact (((hfr.out.setc (.inr w2)).setc (.inr w2)).setc (.inr w3)).setc (.inr w3)
    | exact ((((hfr.out.setc (.inr w2)).setc (.inr w2)).setc (.inr w3)).setc (.inr w3)).call (brf.drew)
   rintro wZ ⟨hF1,hF2,hRZ,hVZ,hfZ⟩;obtain ⟨j0,j1⟩:=cq2 hF1;obtain ⟨j2,j3⟩:=cq2 hF2;refine bodyPost_ret (v:=.tuple #[.agg #[.slice ra hs.length rc,.slice va9 ((x.vars,V):List Vr × Vec).1.length vc9],.agg #[.slice t.a ((x.vars,V):List Vr × Vec).2.1.length t.c,.slice t.b ((x.vars,V):List Vr × Vec).2.2.length t.d]]) (by simp [results,Tryz.results98,go_sem,j0,j1,j2,j3]) rfl ?_;exact ⟨va9,vc9,t,rfl,hRZ,hVZ,hfZ,hvv.out⟩
end Go.Proofs.YtfaalkneigpcnaaGreatDoor
