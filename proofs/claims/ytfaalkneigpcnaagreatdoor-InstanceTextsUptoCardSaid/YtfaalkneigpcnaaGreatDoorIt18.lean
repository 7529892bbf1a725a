/- Walks: whether a string is a name, by the reference and by the program. -/
import Derived.Test.YtfaalkneigpcnaaGreatDoorIt17
import Derived.Laws.EntriesVeiled
import Derived.Test.YtfaalkneigpcnaaGreatDoorIt16
import Derived.Test.YtfaalkneigpcnaaGreatDoorIt15
import Derived.Test.YtfaalkneigpcnaaGreatDoorIt1
import Derived.Laws.RangeString
import Derived.Test.YtfaalkneigpcnaaGreatDoorIt9
import Derived.Test.YtfaalkneigpcnaaGreatDoorIt8
import Derived.LoopN
import Derived.Test.YtfaalkneigpcnaaGreatDoorIt11
import Derived.Test.YtfaalkneigpcnaaGreatDoorRows
import Derived.Test.YtfaalkneigpcnaaGreatDoorIt10
set_option linter.all false
set_option maxRecDepth 100000
set_option maxHeartbeats 4000000
namespace Go.Proofs.YtfaalkneigpcnaaGreatDoor
open Go.RowKit
theorem zz45 {P:Prop} (h:P:=by
 have y0:=hC.cell 0;have f0:=hC.frozen 0;have y1:=hC.cell 1;have f1:=hC.frozen 1;have hgl:=Hd hC.lt;refine qgm rfl rfl (fun K hK=>?_);go_simp;refine hK.out _ _ ?_;clear hK K;refine qcq ?_;refine ⟨rfl,z,gC,_,_,_,_,_,rfl,(s4.setCell hgC.out _).setCell hgC.out _,by ((with_reducible repeat first|assumption|(apply bF;focus omega)|apply bS|(apply bN;focus (simp;done))|apply bA|apply bD);all_goals rfl),?_⟩;exact (qa4 (qa4 P.out (.inr rfl)) (.inr rfl)).less fun b hb=>.inl hb
 ):P:=h
theorem zz44 {P:Prop} (h:P:=by
 refine qao rfl rfl (fun K hK=>?_);go_simp;refine (CB.out (Xg (Xg X g) gC) t1 t2 v3 (fun b hb=>hb.elim (fun h=>ltl (hY2.out b h) (s3).size) fun e=>by rw [e];exact hC.lt) V1.out V2.out).mono ?_;rintro r v4 ⟨z,rfl,P,hb⟩;dsimp only;have s4:=bth s3 hb;refine hK.out _ _ s4 (fun _=>?_);clear hK K;replace hC:=hC.below' hb;clear V1 V2;replace P:=Hd P;clear hb;exact zz45
 ):P:=h
theorem zz46 {P:Prop} (h:P:=by
 refine qao rfl rfl (fun K hK=>?_);go_simp;refine (A2.out (Xg (Xg X g) gC) v2 (fun b hb=>hb.elim (hY1.out b) fun e=>.inr (by have:=hgC.out;have:=hr0.size;rw [e];omega)) (fun b hb=>hb.elim (fun h=>ltl (hY2.out b h) (s2).size) fun e=>by rw [e];exact hC.lt) (bth hr0 s2)).mono ?_;rintro r v3 ⟨t2,rfl,V2,hb⟩;dsimp only;have s3:=bth s2 hb;refine hK.out _ _ s3 (fun _=>?_);clear hK K;replace hC:=hC.below' hb;replace V1:=Hd (V1.out.call hb);replace V2:=Hd V2;clear hb;exact zz44
 ):P:=h
theorem qsf (Z:Nat->Prop) (gB:Nat) (y:Frm) (hs':List (VQ × Vec)) (ra va:Option Addr) (rc vc:Nat) (pt:ByteArray) (aa:Option Addr) (an ac:Nat) (x:QA) (i:Int) (w:World) (hB:Bst Z w gB y hs' ra rc va vc) (hl:y.vars.length<=800) (hZ:∀ b,Z b->b<w.heap.size) (args:List Int) (a b c:Vec) (han:an=args.length) (hI:Rd (Yz Z gB ra va) w fun V=>IntsR V aa ac args) (hlh:hs'.length<=1000000)
  (H0:Has2 args hs' 0 a) (H1:Has2 args hs' 1 b) (H2:Has2 args hs' 2 c) (fa:FineV a) (fb:FineV b) (fc:FineV c) (fs:FineV (subP c.1 b.1,subP c.2 b.2)) :
  Calls Tryz.prog 40 #[.pointer (some ⟨gB,0,none⟩),.agg #[.int .i64 4,.string pt,.slice aa an ac,.bool x.neg,.slice x.a x.n x.c,.slice x.b x.m x.d],.int .i64 i] w (RetSt Z gB y (addP a.1 (negP (subP c.2 b.2)),addP a.2 (subP c.1 b.1)) hs' ra rc va w):=by
 subst han;obtain ⟨an,han⟩:∃ an,an=args.length:=⟨_,rfl⟩
 rw [<- han];have HI:=Hd hI;replace H0:=Hd H0;replace H1:=Hd H1;replace H2:=Hd H2;replace fa:=Hd fa;replace fb:=Hd fb;replace fc:=Hd fc;replace fs:=Hd fs;replace han:=Hd han;clear hI;have HB:=Hd hB;have HZ:=Hd hZ;clear hB hZ;go_enter Tryz.func40,Tryz.ntmps40;go_wp2;refine qab (fun W=>Blk W (w.heap.size+1+1+1) 134 #[.func (Fn.func 84) #[] #[.pointer (some ⟨w.heap.size,0,none⟩),.pointer (some ⟨w.heap.size+1,0,none⟩)]]/\Blk W (w.heap.size+1+1) 94 #[.slice none 0 0,.slice none 0 0]/\Blk W (w.heap.size+1) 53 #[.int .i64 4,.string pt,.slice aa an ac,.bool x.neg,.slice x.a x.n x.c,.slice x.b x.m x.d]/\Blk W w.heap.size 88 #[.pointer (some ⟨gB,0,none⟩)]/\Below w.heap.size w W) ⟨Blk.newAt (by simp),(Blk.newAt (by simp)).alloc _,((Blk.newAt (by simp)).alloc _).alloc _,(((Blk.new w _ _).alloc _).alloc _).alloc _,by go_grown⟩ ?_;rintro w0 ⟨hF,hz,hS,he,hw0⟩;have hw0':Below w.heap.size w w0:=hw0
 have hB0:=(HB.out.wide (g:=w.heap.size+1+1) (by omega)).call hw0';obtain ⟨s,hs⟩:∃ s,s=w.heap.size+1:=⟨_,rfl⟩
 obtain ⟨g,hg⟩:∃ g,g=w.heap.size+1+1:=⟨_,rfl⟩
 obtain ⟨f,hf⟩:∃ f,f=w.heap.size+1+1+1:=⟨_,rfl⟩
 rw [<- hg] at hz hB0;rw [<- hf] at hF;rw [<- hs] at hS;rw [<- hs] at hF
 try rw [<- hf]
 try rw [<- hg]
 try rw [<- hs]
 have hgw:w.heap.size<=g:=by omega
 have hgl:=hz.lt;have hfl:=hF.lt;have hgf:g≠f:=by omega
 have hge:g≠w.heap.size:=by omega
 have hgs:g≠s:=by omega
 have hZ0:∀ b,Xg Z g b->b<w0.heap.size:=Xg_lt HZ.out hw0.size hgl;have hf0:Fr (Yb gB ra va) w w0:=Fr.below hw0;have hn0:¬ Yb gB ra va g:=fun h=>by have:=HB.out.lt _ h;omega
 replace hs:=Hd hs;replace hg:=Hd hg;replace hf:=Hd hf;have hX0:∀ b,Yz (Xg Z g) gB ra va b->b<w0.heap.size:=fun b hb=>hb.elim (hB0.lt b) (hZ0 b)
 obtain ⟨j0,q0,i0,m0⟩:=H0.out;obtain ⟨j1,q1,i1,m1⟩:=H1.out;obtain ⟨j2,q2,i2,m2⟩:=H2.out;have c2:=hS.cell 2;have hI0:=(HI.out.call hw0).now;have A0:=qdc hB0 (he.cell 0) (by rw [<- han.out];exact c2) hI0 hlh i0 m0;have A1:=qdc hB0 (he.cell 0) (by rw [<- han.out];exact c2) hI0 hlh i1 m1;have A2:=qdc hB0 (he.cell 0) (by rw [<- han.out];exact c2) hI0 hlh i2 m2;have hFc:=Hd (show ∀ n:Nat,w0.cell? ⟨f,0,none⟩=some (.func (Fn.func 84) #[] #[.pointer (some ⟨w.heap.size,0,none⟩),.pointer (some ⟨s,0,none⟩)]) from fun _=>hF.cell 0);have d0:=held (hF.cell 0);have s0:Below w0.heap.size w0 w0.drew:=brf.drew;obtain ⟨X,hX⟩:∃ X,X=Yz (Xg Z g) gB ra va:=⟨_,rfl⟩
 rw [<- hX] at A0 A1 A2 hX0;replace A0:=Hd A0;replace A1:=Hd A1;replace A2:=Hd A2;replace hX0:=Hd hX0;replace hX:=Hd hX;replace hB0:=Hd hB0;clear hI0 hS he hF c2;have hr0:Below w0.heap.size w0 w0:=Below.refl _ _;have hY1:Hid (∀ b,Xg X g b->X b\/w0.heap.size<=b):=Hd fun b hb=>hb.elim .inl fun e=>.inl (by rw [hX.out,e];exact .inr (.inr rfl))
 have hY2:Hid (∀ b,Xg X g b->b<w0.heap.size):=Hd fun b hb=>hb.elim (hX0.out b) fun e=>by rw [e];exact hgl
 obtain ⟨d,hd⟩:∃ d:Vec,d=(subP c.1 b.1,subP c.2 b.2):=⟨_,rfl⟩
 have CB:=fun (Y:Nat->Prop) (t1 t2:VQ) W h1 h2 h3=>qe9 Y b c t1 t2 W h1 h2 h3 fb.out fc.out
 have hfd:=fs.out;rw [<- hd] at CB hfd;replace CB:=Hd CB;replace hd:=Hd hd;replace hfd:=Hd hfd
 refine wp_mono (Q:=fun xx a' W=>xx=.normal/\(∃ (z:VQ) (gC:Nat) (u38 u39 u40 u41 u42:Value),a'=⟨#[.pointer (some ⟨gB,0,none⟩),.agg #[.int .i64 4,.string pt,.slice aa an ac,.bool x.neg,.slice x.a x.n x.c,.slice x.b x.m x.d],.int .i64 i,.pointer (some ⟨w.heap.size,0,none⟩),.pointer (some ⟨s,0,none⟩),undef,.pointer (some ⟨g,0,none⟩),.pointer (some ⟨f,0,none⟩),.func (Fn.func 85) #[] #[.pointer (some ⟨f,0,none⟩)],.pointer (some ⟨gC,0,none⟩),undef,.func (Fn.func 84) #[] #[.pointer (some ⟨w.heap.size,0,none⟩),.pointer (some ⟨s,0,none⟩)],.func (Fn.func 85) #[] #[.pointer (some ⟨f,0,none⟩)],.pointer (some ⟨s,0,none⟩),.int .i64 4,.bool false,.bool false,undef,undef,undef,.bool false,.bool false,undef,undef,undef,.bool false,.bool false,undef,undef,undef,undef,undef,undef,undef,undef,undef,.bool true,.bool true,u38,u39,u40,u41,u42,undef,undef,undef,undef,undef,undef,undef,undef,undef,undef,undef,undef,undef,undef,undef,undef,undef,undef,undef,undef,undef,undef,undef,undef,undef,undef,undef,undef,undef],[]⟩/\Below w0.heap.size w0 W/\Blk W gC 94 #[.slice z.a d.1.length z.c,.slice z.b d.2.length z.d]/\VecX (Xg X g) W z d)) ?_ ?_
 ·
  skip
  obtain ⟨v0,hv0⟩:∃ v,w0.drew=v:=⟨_,rfl⟩
  refine qbx (S:=Below w0.heap.size w0) (.q 0 (.q 2 (.two 1 (.two 3 (.two 4 (.l 5 (.t 6 .nil)) 5 (.l 4 (.t 6 .nil))) 5 (.l 3 (.l 4 (.t 6 .nil)))) 5 (.l 1 (.l 3 (.l 4 (.t 6 .nil))))))) [6] (by kernel_rfl) (by kernel_rfl) (by kernel_rfl) (fun d _ _ _ _ h=>by cases h.1) s0 ?_;rw [hv0] at s0 ⊢
  iterate 2 (refine qb6 rfl rfl fun K hK=>xq ?_;go_simp;refine hK _ _ ?_;clear hK K)
  refine qbm ?_ ?_
  ·
   skip
   refine qao rfl rfl (fun K hK=>?_);go_simp;refine (A1.out (Xg X g) v0 hY1.out (fun b hb=>ltl (hY2.out b hb) (s0).size) (bth hr0 s0)).mono ?_;rintro r v1 ⟨t1,rfl,V1,hb⟩;dsimp only;have s1:=bth s0 hb;refine hK.out _ _ s1 (fun _=>?_);clear hK K;replace V1:=Hd V1;clear hb;refine qbm ?_ ?_
   ·
    skip
    refine qao rfl rfl (fun K hK=>?_);go_simp;refine (A2.out (Xg X g) v1 hY1.out (fun b hb=>ltl (hY2.out b hb) (s1).size) (bth hr0 s1)).mono ?_;rintro r v2 ⟨t2,rfl,V2,hb⟩;dsimp only;have s2:=bth s1 hb;refine hK.out _ _ s2 (fun _=>?_);clear hK K;replace V1:=Hd (V1.out.call hb);replace V2:=Hd V2;clear hb;refine qbm ?_ ?_
    ·
     skip
     refine qao rfl rfl (fun K hK=>?_);go_simp;refine (CB.out (Xg X g) t1 t2 v2 (fun b hb=>ltl (hY2.out b hb) (s2).size) V1.out V2.out).mono ?_;rintro r v3 ⟨z,rfl,P,hb⟩;dsimp only;have s3:=bth s2 hb;refine hK.out _ _ s3 (fun _=>?_);clear hK K;clear V1 V2;replace P:=Hd P;clear hb;refine qao rfl rfl (fun K hK=>?_);go_simp;refine hK.out _ _ (s3.alloc s3.size _) (fun _=>?_);clear hK K;refine qab (fun W=>Blk W v3.heap.size 94 #[.slice none 0 0,.slice none 0 0]/\Below w0.heap.size w0 W/\VecX (Xg (Xg X g) v3.heap.size) W z d) ⟨by ((with_reducible repeat first|assumption|(apply bF;focus omega)|apply bS|(apply bN;focus (simp;done))|apply bA|apply bD);all_goals rfl),s3.alloc s3.size _,(P.out.more (qck (nlr _))).call (brf.alloc (nlr _) _)⟩ ?_;rintro v4 ⟨hC,s4,P⟩;have hgC:=Hd (show w0.heap.size<=v3.heap.size from s3.size);obtain ⟨gC,egC⟩:∃ q,v3.heap.size=q:=⟨_,rfl⟩
     rw [egC] at hC hgC P ⊢;replace egC:=Hd egC;replace P:=Hd P;exact zz45
    ·
     skip
     refine qao rfl rfl (fun K hK=>?_);go_simp;refine hK.out _ _ (s2.alloc s2.size _) (fun _=>?_);clear hK K;refine qab (fun W=>Blk W v2.heap.size 94 #[.slice none 0 0,.slice none 0 0]/\Below w0.heap.size w0 W/\VecX (Xg (Xg X g) v2.heap.size) W t1 b/\VecX (Xg (Xg X g) v2.heap.size) W t2 c) ⟨by ((with_reducible repeat first|assumption|(apply bF;focus omega)|apply bS|(apply bN;focus (simp;done))|apply bA|apply bD);all_goals rfl),s2.alloc s2.size _,(V1.out.more (qck (nlr _))).call (brf.alloc (nlr _) _),(V2.out.more (qck (nlr _))).call (brf.alloc (nlr _) _)⟩ ?_;rintro v3 ⟨hC,s3,V1,V2⟩;have hgC:=Hd (show w0.heap.size<=v2.heap.size from s2.size);obtain ⟨gC,egC⟩:∃ q,v2.heap.size=q:=⟨_,rfl⟩
     rw [egC] at hC hgC V1 V2 ⊢;replace egC:=Hd egC;replace V1:=Hd V1;replace V2:=Hd V2;exact zz44
   ·
    skip
    refine qao rfl rfl (fun K hK=>?_);go_simp;refine hK.out _ _ (s1.alloc s1.size _) (fun _=>?_);clear hK K;refine qab (fun W=>Blk W v1.heap.size 94 #[.slice none 0 0,.slice none 0 0]/\Below w0.heap.size w0 W/\VecX (Xg (Xg X g) v1.heap.size) W t1 b) ⟨by ((with_reducible repeat first|assumption|(apply bF;focus omega)|apply bS|(apply bN;focus (simp;done))|apply bA|apply bD);all_goals rfl),s1.alloc s1.size _,(V1.out.more (qck (nlr _))).call (brf.alloc (nlr _) _)⟩ ?_;rintro v2 ⟨hC,s2,V1⟩;have hgC:=Hd (show w0.heap.size<=v1.heap.size from s1.size);obtain ⟨gC,egC⟩:∃ q,v1.heap.size=q:=⟨_,rfl⟩
    rw [egC] at hC hgC V1 ⊢;replace egC:=Hd egC;replace V1:=Hd V1;exact zz46
  ·
   skip
   refine qao rfl rfl (fun K hK=>?_);go_simp;refine hK.out _ _ (s0.alloc s0.size _) (fun _=>?_);clear hK K;refine qab (fun W=>Blk W v0.heap.size 94 #[.slice none 0 0,.slice none 0 0]/\Below w0.heap.size w0 W) ⟨by ((with_reducible repeat first|assumption|(apply bF;focus omega)|apply bS|(apply bN;focus (simp;done))|apply bA|apply bD);all_goals rfl),s0.alloc s0.size _⟩ ?_;rintro v1 ⟨hC,s1⟩;have hgC:=Hd (show w0.heap.size<=v0.heap.size from s0.size);obtain ⟨gC,egC⟩:∃ q,v0.heap.size=q:=⟨_,rfl⟩
   rw [egC] at hC hgC ⊢;replace egC:=Hd egC;refine qao rfl rfl (fun K hK=>?_);go_simp;refine (A1.out (Xg (Xg X g) gC) v1 (fun b hb=>hb.elim (hY1.out b) fun e=>.inr (by have:=hgC.out;have:=hr0.size;rw [e];omega)) (fun b hb=>hb.elim (fun h=>ltl (hY2.out b h) (s1).size) fun e=>by rw [e];exact hC.lt) (bth hr0 s1)).mono ?_;rintro r v2 ⟨t1,rfl,V1,hb⟩;dsimp only;have s2:=bth s1 hb;refine hK.out _ _ s2 (fun _=>?_);clear hK K;replace hC:=hC.below' hb;replace V1:=Hd V1;clear hb;exact zz46
 ·
  rintro e1 a1 w3 ⟨rfl,z,gC,u38,u39,u40,u41,u42,rfl,s1,hC,hV⟩;have hz3:=hz.below' s1;have k1:=held (held (hFc.out 0) w3 s1);have c0:=held (hC.cell 0);have c1:=held (hC.cell 1);have t0:Below w3.heap.size w3 w3.drew:=brf.drew;have hsz:=Hd s1.size;replace hV:=Hd hV;replace s1:=Hd s1;clear hC CB A1 A2;go_wp2;obtain ⟨v0,hv0⟩:∃ v,w3.drew=v:=⟨_,rfl⟩
  refine wrx (S:=Below w3.heap.size w3) [(0,.q),(3,.q),(4,.q),(6,.q),(7,.q),(1,.l),(2,.l),(5,.l),(8,.p),(9,.t),(10,.t)] (t0) ?_;rw [hv0] at t0 ⊢
  iterate 5 (refine qam rfl rfl fun K hK=>xq ?_;go_simp;refine hK _ _ ?_;clear hK K)
  refine qaj rfl rfl (fun K hK=>?_);go_simp;refine (A0.out (Xg X g) v0 hY1.out (fun b hb=>ltl (hY2.out b hb) (Nat.le_trans hsz.out (t0).size)) (bth s1.out t0)).mono ?_;rintro r w2 ⟨ta,rfl,Va,hb⟩;dsimp only;refine hK.out _ _ (bth t0 hb) (fun _=>?_);clear hK K;have t1:=bth t0 hb;replace Va:=Hd Va;clear hb;refine qaj rfl rfl (fun K hK=>?_);go_simp;refine (qfq ta.a ta.b a.1.length ta.c a.2.length ta.d _).mono ?_;rintro r w4 ⟨rfl,hb⟩;dsimp only;refine hK.out _ _ (bth t1 hb) (fun _=>?_);clear hK K;have t2:=bth t1 hb;replace Va:=Hd (Va.out.call hb);clear hb;refine qaj rfl rfl (fun K hK=>?_);go_simp;refine (qqi (Xg X g) d.2 z.b z.d _ (fun b hb=>ltl (hY2.out b hb) (Nat.le_trans hsz.out (t2).size)) (hV.out.2.call t2) hfd.out.2).mono ?_;rintro r w5 ⟨an,cn,rfl,Pn,hb⟩;dsimp only;refine hK.out _ _ (bth t2 hb) (fun _=>?_);clear hK K;have t3:=bth t2 hb;replace Va:=Hd (Va.out.call hb);replace Pn:=Hd Pn
  clear hb
  iterate 1 (refine qav rfl rfl fun K hK=>xp ?_;go_simp;refine hK _ _ ?_;clear hK K)
  refine qah rfl rfl (fun K hK=>?_);go_simp;refine (qeo (Xg X g) a (negP d.2,d.1) (addP a.1 (negP d.2)) (addP a.2 d.1) ta ⟨an,cn,z.a,z.c⟩ w5 (fun b hb=>ltl (hY2.out b hb) (Nat.le_trans hsz.out (t3).size)) (qfm (Xg X g) a.1 (negP d.2) ta.a an ta.c cn _ Va.out.1 Pn.out fa.out.1 (ql6 hfd.out.2)) (qfm (Xg X g) a.2 d.1 ta.b z.a ta.d z.c _ Va.out.2 (hV.out.1.call t3) fa.out.2 hfd.out.1)).mono ?_;rintro r w1 ⟨t,rfl,hV1,hb⟩;dsimp only;refine hK.out _ _ ?_;clear hK K;have s6:=bth s1.out (bth t3 hb);have hf1:Fr (Yb gB ra va) w0 w1:=Fr.below s6;have hv1:∀ g,va=some g->va=some g\/w0.heap.size<=g.block:=fun g h=>.inl h
  have hB1:=hB0.out.call s6;obtain ⟨va1,hva1⟩:∃ v,v=va:=⟨_,rfl⟩
  obtain ⟨vc1,hvc1⟩:∃ v,v=vc:=⟨_,rfl⟩
  have hv1:∀ g,va1=some g->va=some g\/w0.heap.size<=g.block:=by rw [hva1];exact hv1
  rw [<- hva1,<- hvc1] at hB1;replace hV1:VecX (Yz (Xg Z g) gB ra va1) w1 t (addP a.1 (negP d.2),addP a.2 d.1):=by rw [hva1,<- hX.out];exact hV1.less fun b hb=>.inl hb
  have e1:d.1=subP c.1 b.1:=by rw [hd.out]
  have e2:d.2=subP c.2 b.2:=by rw [hd.out]
  obtain ⟨P,hPP⟩:∃ P,(addP a.1 (negP (subP c.2 b.2)),addP a.2 (subP c.1 b.1))=P:=⟨_,rfl⟩
  have ep1:addP a.1 (negP d.2)=P.1:=by rw [e2,<- hPP]
  have ep2:addP a.2 d.1=P.2:=by rw [e1,<- hPP]
  rw [ep1,ep2] at hV1;replace hV1:VecX (Yz (Xg Z g) gB ra va1) w1 t P:=hV1;replace hPP:=Hd hPP;clear Va Pn hb hva1 hvc1 t1 t2 t3 c0 c1 k1 e1 e2;have hn2:¬ Yb gB ra va1 g:=qct hn0 hv1 hgl;have hz1:=hz.fr hf1 hn0;have hfr:Fr (Yb gB ra va) w w1:=hf0.trans hf1;have hvv:∀ g,va1=some g->va=some g\/w.heap.size<=g.block:=fun g hg=>by
   rcases hv1 g hg with e | e
   · exact .inl e
   · have:=hw0.size;exact .inr (by omega)
  obtain ⟨y0,y1⟩:=cq2 hz1;obtain ⟨g0,g1⟩:=fq2 hz1;replace hV1:=Hd hV1;replace hB1:=Hd hB1;replace hvv:=Hd hvv;replace hfr:=Hd hfr;replace hn2:=Hd hn2;have hz2:=Hd hz1;clear hf0 hf1 hv1 hz hB0 hz1
  try rw [ep1,ep2]
  clear ep1 ep2;refine qah rfl rfl (fun K hK=>?_);go_simp;refine hK.out _ _ ?_;clear hK K;refine qak ?_;go_wp2;refine qab (fun W=>Blk W g 94 #[.slice t.a P.1.length t.c,.slice t.b P.2.length t.d]/\Bst Z W gB y hs' ra rc va1 vc1/\VecX (Yz Z gB ra va1) W t P/\Fr (Yb gB ra va) w W) ⟨?_,((hB1.out.far hn2.out).far hn2.out).less,(qa4 (qa4 hV1.out (.inr (.inr rfl))) (.inr (.inr rfl))).less qcj,(hfr.out.setc (.inr hgw)).setc (.inr hgw)⟩ ?_
  ·
   have hz2':=hz2.out
   ((with_reducible repeat first|assumption|(apply bF;focus omega)|apply bS|(apply bN;focus (simp;done))|apply bA|apply bD);all_goals rfl)
  rintro w4 ⟨hF4,hB4,hV4,hf4⟩;obtain ⟨e0,e1⟩:=cq2 hF4;refine bodyPost_ret (v:=.agg #[.slice t.a P.1.length t.c,.slice t.b P.2.length t.d]) (by simp [results,Tryz.results40,go_sem,e0,e1]) rfl ?_;rw [hPP.out];exact ⟨va1,vc1,t,rfl,hB4,hV4,hf4,hvv.out⟩
def needK (kind:Int):Nat:=if kind=2\/kind=5 then 2 else if kind=3\/kind=4 then 3 else 0
theorem qu4 {hs':List (VQ × Vec)} {coords:List Vec} {args:List Int} (he:hs'.map Prod.snd=coords) {k:Nat} (hk:k<args.length) (hr:∀ x∈args,0<=x/\x<coords.length):Has2 args hs' k (argF coords args k):=by
 obtain ⟨x,hx⟩:=qac hk;obtain ⟨r1,r2⟩:=hr x (List.mem_of_getElem? hx);subst he;have hl:x.toNat<hs'.length:=by simp at r2;omega
 obtain ⟨z,hz⟩:=qac hl;refine ⟨x.toNat,z.1,by rw [hx];congr 1;omega,?_⟩;have e:argF (hs'.map Prod.snd) args k=z.2:=by
  unfold argF;rw [List.getD_eq_getElem?_getD,List.getD_eq_getElem?_getD,hx];simp [hz]
 rw [e];exact hz
theorem qtf (Z:Nat->Prop) (gB:Nat) (y:Frm) (hs':List (VQ × Vec)) (ra va:Option Addr) (rc vc:Nat) (pt:ByteArray) (aa:Option Addr) (ac:Nat) (x:QA) (i D M:Nat) (w:World) (hB:Bst Z w gB y hs' ra rc va vc) (hZ:∀ b,Z b->b<w.heap.size)
  (hok:FrmOk i D M y) (hi:i<=100) (kind:Int) (k1:1<=kind) (k7:kind<=14) (args:List Int) (q:Rat) (hn:needK kind<=args.length) (hr:∀ x∈args,0<=x/\x<i) (hI:Rd (Yz Z gB ra va) w fun V=>IntsR V aa ac args)
  (hx:kind=2->Rd (Yz Z gB ra va) w fun V=>QAc V x q) (hq:kind=2->q.num.natAbs<=2 ^ 32/\q.den<=2 ^ 32) :
  Calls Tryz.prog 40 #[.pointer (some ⟨gB,0,none⟩),.agg #[.int .i64 kind,.string pt,.slice aa args.length ac,.bool x.neg,.slice x.a x.n x.c,.slice x.b x.m x.d],.int .i64 i] w
   (RetSt Z gB ⟨(nextF y kind args q i).1,y.coords,if kind=1 then y.free+1 else y.free⟩ (nextF y kind args q i).2 hs' ra rc va w):=by
 have hvl:y.vars.length<=64:=hok.2.2.2.2.2.1;have hfl:y.free<=i:=hok.2.2.2.2.2.2.1;have hcl:y.coords.length=i:=hok.1;have hlh:hs'.length<=1000000:=by
  have:=congrArg List.length hB.eq;simp at this
  omega
 have HH:=fun k hk=>qu4 (k:=k) hB.eq hk (fun x hx=>by have:=hr x hx;omega)
 have A:=fun k=>qjg hok args k
 have Fi:=fun k=>hok.fine hi args k
 have V:=fun j k=>(⟨(hok.diff hi (A k).1 (A j).1).1,(hok.diff hi (A k).2 (A j).2).1⟩:FineV (subP (argF y.coords args k).1 (argF y.coords args j).1,subP (argF y.coords args k).2 (argF y.coords args j).2))
 have hk:kind=1\/kind=2\/kind=3\/kind=4\/kind=5\/kind=6\/7<=kind:=by omega
 rcases hk with rfl | rfl | rfl | rfl | rfl | rfl | k7
 ·
  have:=qsk Z gB y hs' ra va rc vc pt aa args.length ac x i w hB (by omega) hZ (by omega);simpa only [nextF,qfk,if_true] using this
 ·
  obtain ⟨q1,q2⟩:=hq rfl;have hqs:qsz q<=1000:=qfr (Nat.le_trans (qal (k:=3) (Nat.lt_of_le_of_lt q1 (by decide))) (by omega)) (Nat.le_trans (qal (k:=3) (Nat.lt_of_le_of_lt q2 (by decide))) (by omega));have:=qr9 Z gB y hs' ra va rc vc pt aa args.length ac x i w hB (by omega) hZ args q _ _ rfl hI (hx rfl) hqs hlh (HH 0 (by simp [needK] at hn;omega)) (HH 1 (by simp [needK] at hn;omega)) (Fi 0) (Fi 1) (V 0 1) ⟨hok.scaled hi (A 1).1 (A 0).1 ⟨q1,q2⟩,hok.scaled hi (A 1).2 (A 0).2 ⟨q1,q2⟩⟩;simpa [nextF,qgz] using this
 ·
  have:=qs0 Z gB y hs' ra va rc vc pt aa args.length ac x i w hB (by omega) hZ args _ _ _ rfl hI hlh (HH 0 (by simp [needK] at hn;omega)) (HH 1 (by simp [needK] at hn;omega)) (HH 2 (by simp [needK] at hn;omega)) (Fi 0) (Fi 1) (Fi 2) (V 1 2);simpa [nextF] using this
 ·
  have:=qsf Z gB y hs' ra va rc vc pt aa args.length ac x i w hB (by omega) hZ args _ _ _ rfl hI hlh (HH 0 (by simp [needK] at hn;omega)) (HH 1 (by simp [needK] at hn;omega)) (HH 2 (by simp [needK] at hn;omega)) (Fi 0) (Fi 1) (Fi 2) (V 1 2);rw [qtg (A 2).2.1 (A 1).2.1] at this;simpa [nextF] using this
 ·
  have:=qrt Z gB y hs' ra va rc vc pt aa args.length ac x i w hB (by omega) hZ args i _ _ rfl hI hlh (HH 0 (by simp [needK] at hn;omega)) (HH 1 (by simp [needK] at hn;omega)) (Fi 0) (Fi 1) (V 0 1) (qtb _) ⟨hok.turned hi (A 1).1 (A 0).1 _,hok.turned hi (A 1).2 (A 0).2 _⟩ (hok.diff hi (A 1).1 (A 0).1).2 (hok.diff hi (A 1).2 (A 0).2).2 (by omega);simpa [nextF,qgz] using this
 ·
  have:=qsh Z gB y hs' ra va rc vc pt aa args.length ac x i w hB (by omega) hZ;simpa [nextF] using this
 ·
  have:=qsn kind k7 Z gB y hs' ra va rc vc pt aa args.length ac x i w hB (by omega) hZ;have e1:¬ kind=1:=by omega
  have e2:¬ kind=2:=by omega
  have e3:¬ kind=3:=by omega
  have e4:¬ kind=4:=by omega
  have e5:¬ kind=5:=by omega
  have e6:¬ kind=6:=by omega
  unfold nextF;rw [if_neg e1,if_neg e1,if_neg e2,if_neg e3,if_neg e4,if_neg e5,if_neg e6];exact this
theorem qlk {B:Nat} {w:World} {l:List (VQ × Vec)} {o:Oper} {act:Act} {K:Act->World->Prop} {Q:Exit->Act->World->Prop} (s y:Operand) (ts:TypeId)
  (ho:o.op=.call { callee:=.builtin .append,args:=#[s,y],argTypes:=#[ts,ts] }) (hu:Tryz.prog.underlying ts=some (.slice 97))
  (a:Option Addr) (c:Nat) (hs:act.eval s=.slice a l.length c) (hown:OwnCo B w a c l)
  (x:VQ × Vec) (b c1:Nat) (hy:act.eval y=.slice (some ⟨b,0,none⟩) 1 c1) (hcell:∀ j u,(coC x)[j]? = some u->w.cell? ⟨b,j,none⟩=some u)
  (l2:List (VQ × Vec)) (hl2:l2=l++[x]) (hlen:l2.length<=16777216) (hB:B<=w.heap.size)
  (h:∀ a' c' w',OwnCo B w' a' c' l2->w.grownBy w' (Value.ownBlock (.slice a l.length c))->((∃ g,a'=some ⟨g,0,none⟩/\(a=some ⟨g,0,none⟩\/g=w.heap.size))) ->
   K (act.put o.dst (.slice a' l2.length c')) w'):o.wp Tryz.prog act w K Q :=
 qd4 s y ts ho hu qwa rfl (by omega) (by omega) qn8 a c hs hown x (qv1 x) b c1 hy hcell l2 hl2 hlen hB h
section
variable {Z : Nat -> Prop} {w w2 : World} {gB : Nat} {x : Frm} {hs : List (VQ × Vec)} {ra ra2 va : Option Addr} {rc rc2 vc : Nat}
theorem Bst.push (h:Bst Z w gB x hs ra rc va vc) (z:VQ × Vec) (hz:VecX (Yz Z gB ra va) w z.1 z.2) (ho:OwnCo (gB+1) w2 ra2 rc2 (hs++[z])) (hg:w.grownBy w2 (Value.ownBlock (.slice ra hs.length rc)))
  (ha:∃ g,ra2=some ⟨g,0,none⟩/\(ra=some ⟨g,0,none⟩\/g=w.heap.size)) :
  Bst Z (w2.setCell ⟨gB,0,none⟩ (.slice ra2 (hs.length+1) rc2)) gB ⟨x.vars,x.coords++[z.2],x.free⟩ (hs++[z]) ra2 rc2 va vc /\
   Fr (Yb gB ra va) w (w2.setCell ⟨gB,0,none⟩ (.slice ra2 (hs.length+1) rc2))/\(∀ g,ra2=some g->ra=some g\/w.heap.size<=g.block):=by
 have hz2:=h.blk.under h.co (Nat.lt_succ_self gB) hg;have hne:∀ g,va=some g->Value.ownBlock (.slice ra hs.length rc)≠some g.block:=fun g hg e=>by
  cases hv:ra with
  | none=>rw [hv] at e;simp [Value.ownBlock] at e
  | some g' =>
   rw [hv] at e;simp [Value.ownBlock] at e;exact qjt h.co h.vr (by decide) g' g hv hg e
 have hvr2:OwnVr (gB+1) w2 va vc x.vars:=h.vr.grown hg hne;have hfr:Fr (Yb gB ra va) w (w2.setCell ⟨gB,0,none⟩ (.slice ra2 (hs.length+1) rc2)):=((Fr.refl (Yb gB ra va) w).grown hg fun g hg=>.inl (.inr (.inl ⟨g,hg,rfl⟩))).setc (.inl (.inl rfl));have hra2:∀ g,ra2=some g->ra=some g\/w.heap.size<=g.block:=fun g hg=>by
  obtain ⟨g',e1,e2⟩:=ha;rw [e1] at hg;injection hg with hg
  subst hg;rcases e2 with e2 | e2
  · exact .inl e2
  · right;show _<=g';omega
 have hYm:∀ b,Yz Z gB ra2 va b->Yz Z gB ra va b\/w.heap.size<=b:=fun b hb=>by
  rcases hb with (hb | ⟨g,hg,rfl⟩ | hb) | hb
  · exact .inl (.inl (.inl hb))
  ·
   rcases hra2 g hg with e | e
   · exact .inl (.inl (.inr (.inl ⟨g,e,rfl⟩)))
   · exact .inr e
  · exact .inl (.inl (.inr (.inr hb)))
  · exact .inl (.inr hb)
 refine ⟨⟨by simp [h.eq],?_,ho.far (Nat.lt_succ_self gB) _,hvr2.far (Nat.lt_succ_self gB) _,fun u hu=>?_⟩,hfr,hra2⟩
 ·
  have:=hz2.set_ 0 (.slice ra2 (hs.length+1) rc2);simpa using this
 ·
  rcases List.mem_append.1 hu with e | e
  · exact (h.all u e).move hYm (hfr.mono fun b hb=>.inl hb)
  ·
   rw [List.mem_singleton] at e;subst e;exact hz.move hYm (hfr.mono fun b hb=>.inl hb)
end
def Itr (w:World) (g:Nat) (s:ByteArray) (pos:Nat):Prop:=w.heap[g]? = some (.stringIter s pos)
def qce (w:World) (g:Nat) (s:ByteArray) (pos:Nat):World:={ w with heap:=w.heap.setIfInBounds g (.stringIter s pos) }
theorem qnm {P:Program} (w:World) (g:Nat) (s:ByteArray) (pos:Nat) (ty:TypeId) (hi:Itr w g s pos) (h:pos<s.size) (ha:(s[pos]'h).toNat<128) :
  (Instr.next (.pointer (some ⟨g,0,none⟩)) true ty).run P w=.ok (.tuple #[.bool true,.int .i64 pos,.int .i32 (s[pos]'h).toNat]) (qce w g s (pos+1)):=by
 unfold Itr at hi;simp only [Instr.next,getObj,setObj,Sem.run_bind,Sem.run,hi,Result.andThen,h,if_true,decode_ascii s pos h ha];simp [goInt,qce]
theorem qkn {P:Program} (w:World) (g:Nat) (s:ByteArray) (pos:Nat) (ty:TypeId) (hi:Itr w g s pos) (h:¬ pos<s.size) :
  (Instr.next (.pointer (some ⟨g,0,none⟩)) true ty).run P w=.ok (.tuple #[.bool false]) w:=by
 unfold Itr at hi;simp [Instr.next,getObj,Sem.run,hi,h]
theorem Itr.lt {w:World} {g:Nat} {s:ByteArray} {pos:Nat} (h:Itr w g s pos):g<w.heap.size:=(Array.getElem?_eq_some_iff.1 h).1
theorem Itr.set {w:World} {g:Nat} {s:ByteArray} {pos:Nat} (h:Itr w g s pos) (pos':Nat):Itr (qce w g s pos') g s pos':=by
 unfold Itr qce;simp [h.lt]
theorem qns (w:World) (g:Nat) (s:ByteArray) (pos:Nat):(qce w g s pos).heap.size=w.heap.size:=by simp [qce]
theorem qph (w:World) (g:Nat) (s:ByteArray) (pos:Nat) (k:Nat) (hk:k≠g):(qce w g s pos).heap[k]? = w.heap[k]?:=by
 simp [qce,Ne.symm hk]
theorem qlg {B:Nat} {a w:World} (h:Below B a w) {g:Nat} (hg:B<=g) (s:ByteArray) (pos:Nat):Below B a (qce w g s pos) :=
 h.trans ⟨rfl,rfl,rfl,by rw [qns];exact nlr _,fun k hk=>qph _ _ _ _ _ (by omega)⟩
def letB (c:Int):Bool:=decide (65<=c/\c<=90\/97<=c/\c<=122)
def digB (c:Int):Bool:=decide (48<=c/\c<=57)
def qba:List ByteArray:=[⟨#[97,110,103,108,101]⟩,
 ⟨#[97,112,101,120]⟩,
 ⟨#[98,105,115,101,99,116,111,114]⟩,
 ⟨#[99,101,110,116,101,114]⟩,
 ⟨#[99,105,114,99,108,101]⟩,
 ⟨#[99,105,114,99,117,109]⟩,
 ⟨#[99,111,108,108,105,110,101,97,114]⟩,
 ⟨#[99,111,109,109,111,110]⟩,
 ⟨#[99,111,110,99,121,99,108,105,99]⟩,
 ⟨#[99,111,110,103,114,117,101,110,116]⟩,
 ⟨#[99,114,111,115,115]⟩,
 ⟨#[99,117,116]⟩,
 ⟨#[100,105,118,105,100,101]⟩,
 ⟨#[102,111,111,116]⟩,
 ⟨#[108,105,110,101]⟩,
 ⟨#[109,101,101,116]⟩,
 ⟨#[109,105,100,112,111,105,110,116]⟩,
 ⟨#[109,105,114,114,111,114]⟩,
 ⟨#[111,110]⟩,
 ⟨#[111,116,104,101,114]⟩,
 ⟨#[112,97,114,97,108,108,101,108]⟩,
 ⟨#[112,101,114,112,101,110,100,105,99,117,108,97,114]⟩,
 ⟨#[112,111,105,110,116,115]⟩,
 ⟨#[112,114,111,118,101]⟩,
 ⟨#[114,97,116,105,111]⟩,
 ⟨#[114,101,102,108,101,99,116]⟩,
 ⟨#[115,97,109,101]⟩,
 ⟨#[115,104,105,102,116]⟩,
 ⟨#[116,117,114,110]⟩]
def wordB (c:UInt8):Bool:=letB c.toNat||digB c.toNat
def headB (s:ByteArray):Bool:=match s.data.toList with
 | []=>false
 | c :: _=>letB c.toNat
def keyB (s:ByteArray):Bool:=qba.any fun k=>decide (s=k)
def qbn (s:ByteArray):Bool:=decide (s.size<=20)&&headB s&&s.data.toList.all wordB && !keyB s
theorem qdr:qba.length=29:=rfl
theorem qil {s:ByteArray} (h:0<s.size):headB s=letB ((s[0]'h).toNat:Nat):=by
 unfold headB;have h':0<s.data.toList.length:=by simpa using h
 have e:s.data.toList=s.data.toList[0] :: s.data.toList.drop 1:=by
  have:=List.drop_eq_getElem_cons (l:=s.data.toList) (i:=0) h';simpa using this
 rw [e]
 rfl
theorem qe5 {s:ByteArray}:s.size=0↔s=⟨#[]⟩:=by
 constructor
 ·
  intro h
  cases s with
  | mk d=>congr 1;exact Array.eq_empty_of_size_eq_zero h
 · intro h;subst h;rfl
theorem qh6 {s:ByteArray} {k:Nat} (h:k<s.size):s.data.toList[k]? = some (s[k]'h):=by simp [h];rfl
theorem qgb:qbn ⟨#[]⟩=false:=by decide
theorem ql4 {P:Program} (w:World) (g:Nat) (s:ByteArray) (pos:Nat) (hi:Itr w g s pos) (h:pos<s.size) :
  ∃ (r:Int) (n:Nat),(∀ ty:TypeId,(Instr.next (.pointer (some ⟨g,0,none⟩)) true ty).run P w=.ok (.tuple #[.bool true,.int .i64 pos,.int .i32 r]) (qce w g s (pos+n)))/\((s[pos]'h).toNat<128->n=1):=by
 by_cases ha:(s[pos]'h).toNat<128
 · exact ⟨_,1,fun ty=>qnm w g s pos ty hi h ha,fun _=>rfl⟩
 ·
  unfold Itr at hi;refine ⟨((Utf8.decode s pos).1:Nat),(Utf8.decode s pos).2,fun ty=>?_,fun h=>absurd h ha⟩;simp only [Instr.next,getObj,setObj,Sem.run_bind,Sem.run,hi,Result.andThen,h,if_true];simp [goInt,qce]
def Rt.none (r:Rt):Bool:=!r.neg&&decide (r.num.length=0)&&decide (r.den.length=0)
def qbv (k:Int):Int:=if k=1\/k=5 then 3 else if k=2\/k=3\/k=4\/k=6\/k=9 then 4 else if k=7 then 8 else if k=8 then 2 else 0
def qbc (k:Int):Int:=if k=1 then 0 else if k=2\/k=5\/k=6\/k=14 then 2 else if k=3\/k=4\/k=7\/k=8\/k=10\/k=11 then 3 else if k=9\/k=12\/k=13 then 4 else -1
def qay (n a:Int):Bool:=decide (a<0\/n<=a)
def qch (f:Fct) (n:Int):Int :=
 if qbv f.kind=0 then 8
 else if (f.args.length:Int)≠qbv f.kind then 1
 else if f.args.any (qay n)=true then 2
 else if f.kind=9/\f.ratio.right=false then 1
 else if f.kind≠9/\f.ratio.none=false then 1
 else 0
def qbp (l:List Step) (s:Step) (i:Nat):Int :=
 if qbc s.kind<0 then 8
 else if (s.args.length:Int)≠qbc s.kind then 1
 else if s.args.any (qay i)=true then 2
 else if s.kind=2/\s.ratio.right=false then 1
 else if s.kind≠2/\s.ratio.none=false then 1
 else if s.point=⟨#[]⟩ then 0
 else if qbn s.point=false then 6
 else if (l.take i).any (fun t=>decide (t.point=s.point))=true then 7
 else 0
def qbe (l:List Step):List Step->Nat->Int
 | [],_=>0
 | s :: r,i=>if qbp l s i≠0 then qbp l s i else qbe l r (i+1)
def qb9 (n:Int):List Fct->Int
 | []=>0
 | f :: r=>if qch f n≠0 then qch f n else qb9 n r
def Fig.err (f:Fig):Int:=if 40<f.steps.length\/8<f.goals.length then 4 else if qbe f.steps f.steps 0≠0 then qbe f.steps f.steps 0 else qb9 f.steps.length f.goals
theorem RtZ.qk {w:World} {r:Rt} {z:QA} (h:RtZ w r z) (hr:r.right=true) (h1:r.num.length<=2) (h2:r.den.length<=2):QK 2 w z r.q:=by
 obtain ⟨e1,e2,e3⟩:=qf1 hr;obtain ⟨z1,z2,z3,z4,z5⟩:=h;refine ⟨⟨by rw [z1,e1],by rw [z2,e2],by rw [z3,e3],by rw [e2];exact z4,by rw [e3];exact z5⟩,?_⟩;unfold qsz;rw [e2,e3]
 omega
def qep (w:World) (g o:Nat) (z:QA):Prop:=w.cell? ⟨g,o,none⟩=some (.bool z.neg)/\w.cell? ⟨g,o+1,none⟩=some (.slice z.a z.n z.c)/\w.cell? ⟨g,o+2,none⟩=some (.slice z.b z.m z.d)
theorem qep.ext {w w':World} {g o:Nat} {z:QA} (h:qep w g o z) (e:Ext w w'):qep w' g o z:=⟨e _ _ h.1,e _ _ h.2.1,e _ _ h.2.2⟩
structure Bx where
 a:Rt
 b:Rt
 c:Rt
 d:Rt
structure Pt where
 x:Rt
 y:Rt
def PtE (w:World) (g o:Nat) (x:Pt):Prop:=∃ z1 z2:QA,qep w g o z1/\qep w g (o+3) z2/\RtZ w x.x z1/\RtZ w x.y z2
def PtsR (w:World) (a:Option Addr) (c:Nat) (l:List Pt):Prop:=SlR 6 PtE w a c l
section
variable {w w' : World} {a : Option Addr} {c : Nat}
theorem PtsR.ext {l:List Pt} (h:PtsR w a c l) (e:Ext w w'):PtsR w' a c l:=SlR.mono h fun _ _ _ _ ⟨z1,z2,c1,c2,r1,r2⟩=>⟨z1,z2,c1.ext e,c2.ext e,r1.ext e,r2.ext e⟩
end
def Rt.short (r:Rt):Bool:=r.right&&decide (r.num.length<=2)&&decide (r.den.length<=2)
theorem Rt.short_iff {r:Rt}:r.short=true↔r.right=true/\r.num.length<=2/\r.den.length<=2:=by unfold Rt.short;simp [and_assoc]
theorem RtZ.sk {w:World} {r:Rt} {z:QA} (h:RtZ w r z) (hr:r.short=true):QK 2 w z r.q:=h.qk (Rt.short_iff.1 hr).1 (Rt.short_iff.1 hr).2.1 (Rt.short_iff.1 hr).2.2
def Rt.few2 (r:Rt):Prop:=r.num.length<=2000000/\r.den.length<=2000000
def Pt.few (x:Pt):Prop:=x.x.few2/\x.y.few2
def qc3 (x:Frm) (i:Nat):List Step->Option Frm
 | []=>some x
 | s :: r=>if bigF (nextF x s.kind s.args s.ratio.q i)=true then none else qc3 (putF x s.kind (nextF x s.kind s.args s.ratio.q i)) (i+1) r
def qh8 (s:Step) (k:Nat):Prop:=1<=s.kind/\s.kind<=14/\needK s.kind<=s.args.length/\(∀ x∈s.args,0<=x/\x<(k:Int))/\(s.kind=2->s.ratio.right=true)
theorem qq8 {l:List Step} {s:Step} {k:Nat} (h:qbp l s k=0):qh8 s k:=by
 unfold qbp at h;have h1:¬ qbc s.kind<0:=fun h1=>by rw [if_pos h1] at h;simp at h
 rw [if_neg h1] at h;have h2:¬ (s.args.length:Int)≠qbc s.kind:=fun h2=>by rw [if_pos h2] at h;simp at h
 rw [if_neg h2] at h;have h3:¬ s.args.any (qay k)=true:=fun h3=>by rw [if_pos h3] at h;simp at h
 rw [if_neg h3] at h;have h4:¬ (s.kind=2/\s.ratio.right=false):=fun h4=>by rw [if_pos h4] at h;simp at h
 refine ⟨?_,?_,?_,fun x hx=>?_,fun hk=>?_⟩
 ·
  apply Int.not_lt.1;intro hc;apply h1;unfold qbc
  repeat rw [if_neg (by omega)]
  decide
 ·
  apply Int.not_lt.1;intro hc;apply h1;unfold qbc
  repeat rw [if_neg (by omega)]
  decide
 ·
  have h5:(s.args.length:Int)=qbc s.kind:=by omega
  unfold needK
  split
  · next e=>rw [qbc,if_neg (by omega),if_pos (by omega)] at h5;omega
  ·
   split
   · next e=>rw [qbc,if_neg (by omega),if_neg (by omega),if_pos (by omega)] at h5;omega
   · omega
 ·
  have h6:qay k x=false:=by
   cases hb:qay k x with
   | false=>rfl
   | true=>exact absurd (List.any_eq_true.2 ⟨x,hx,hb⟩) h3
  unfold qay at h6;simp at h6
  omega
 ·
  cases hr:s.ratio.right with
  | true=>rfl
  | false=>exact absurd ⟨hk,hr⟩ h4
theorem qgi {l:List Step}:∀ (r:List Step) (i:Nat),qbe l r i=0->∀ k s,r[k]? = some s->qbp l s (i+k)=0
 | [],_,_,k,s,hs=>by simp at hs
 | t :: r,i,h,k,s,hs=>by
  unfold qbe at h;have h0:qbp l t i=0:=by
   by_cases h0:qbp l t i=0
   · exact h0
   · rw [if_pos h0] at h;exact h
  rw [if_neg (fun e=>e h0)] at h
  cases k with
  | zero=>cases hs;exact h0
  | succ k =>
   have:=qgi r (i+1) h k s (by simpa using hs)
   rwa [show i+(k+1)=i+1+k by omega]
theorem qe2 {f:Fig} (h:f.err=0):f.steps.length<=40/\∀ k s,f.steps[k]? = some s->qh8 s k:=by
 unfold Fig.err at h;have h1:¬ (40<f.steps.length\/8<f.goals.length):=fun h1=>by rw [if_pos h1] at h;simp at h
 rw [if_neg h1] at h;have h2:qbe f.steps f.steps 0=0:=by
  by_cases h2:qbe f.steps f.steps 0=0
  · exact h2
  · rw [if_pos h2] at h;exact h
 exact ⟨by omega,fun k s hs=>qq8 (l:=f.steps) (by have:=qgi f.steps 0 h2 k s hs;rwa [Nat.zero_add] at this)⟩
theorem qai {a b:Int} (h:¬ a=b):(a==b)=false:=by simpa using h
theorem qnl (k:Int) (w:World):Calls Tryz.prog 153 #[.int .i64 k] w fun e w'=>e=.returned (.int .i64 (qbv k))/\w=w':=by
 by_cases hk:1<=k/\k<=9
 ·
  have hc:k=1\/k=2\/k=3\/k=4\/k=5\/k=6\/k=7\/k=8\/k=9:=by omega
  clear hk;rcases hc with rfl | rfl | rfl | rfl | rfl | rfl | rfl | rfl | rfl
  all_goals
   go_enter Tryz.func153,Tryz.ntmps153;go_wp2;go_ret;exact ⟨qcc (by decide),rfl⟩
 ·
  have h1:=qai (a:=k) (b:=1) (by omega);have h2:=qai (a:=k) (b:=2) (by omega);have h3:=qai (a:=k) (b:=3) (by omega);have h4:=qai (a:=k) (b:=4) (by omega);have h5:=qai (a:=k) (b:=5) (by omega);have h6:=qai (a:=k) (b:=6) (by omega);have h7:=qai (a:=k) (b:=7) (by omega);have h8:=qai (a:=k) (b:=8) (by omega);have h9:=qai (a:=k) (b:=9) (by omega);have hr:qbv k=0:=by unfold qbv;rw [if_neg (by omega),if_neg (by omega),if_neg (by omega),if_neg (by omega)]
  rw [hr];clear hr hk;go_enter Tryz.func153,Tryz.ntmps153;go_wp2;go_ret;exact ⟨rfl,rfl⟩
theorem qms (k:Int) (w:World):Calls Tryz.prog 150 #[.int .i64 k] w fun e w'=>e=.returned (.int .i64 (qbc k))/\w=w':=by
 by_cases hk:1<=k/\k<=14
 ·
  have hc:k=1\/k=2\/k=3\/k=4\/k=5\/k=6\/k=7\/k=8\/k=9\/k=10\/k=11\/k=12\/k=13\/k=14:=by omega
  clear hk;rcases hc with rfl | rfl | rfl | rfl | rfl | rfl | rfl | rfl | rfl | rfl | rfl | rfl | rfl | rfl
  all_goals
   go_enter Tryz.func150,Tryz.ntmps150;go_wp2;go_ret;exact ⟨qcc (by decide),rfl⟩
 ·
  have h1:=qai (a:=k) (b:=1) (by omega);have h2:=qai (a:=k) (b:=2) (by omega);have h3:=qai (a:=k) (b:=3) (by omega);have h4:=qai (a:=k) (b:=4) (by omega);have h5:=qai (a:=k) (b:=5) (by omega);have h6:=qai (a:=k) (b:=6) (by omega);have h7:=qai (a:=k) (b:=7) (by omega);have h8:=qai (a:=k) (b:=8) (by omega);have h9:=qai (a:=k) (b:=9) (by omega);have h10:=qai (a:=k) (b:=10) (by omega);have h11:=qai (a:=k) (b:=11) (by omega);have h12:=qai (a:=k) (b:=12) (by omega);have h13:=qai (a:=k) (b:=13) (by omega);have h14:=qai (a:=k) (b:=14) (by omega);have hr:qbc k = -1:=by unfold qbc;rw [if_neg (by omega),if_neg (by omega),if_neg (by omega),if_neg (by omega)]
  rw [hr];clear hr hk;go_enter Tryz.func150,Tryz.ntmps150;go_wp2;go_ret;exact ⟨rfl,rfl⟩
theorem qid (k:Int):0<=qbv k/\qbv k<=8:=by unfold qbv;split <;> (try split) <;> (try split) <;> (try split) <;> omega
theorem qie (k:Int):-1<=qbc k/\qbc k<=4:=by unfold qbc;split <;> (try split) <;> (try split) <;> (try split) <;> omega
theorem qp6 (r:Rt) (na:Option Addr) (nc:Nat) (da:Option Addr) (dc:Nat) (w:World) (hl:r.num.length<=2000000) (hm:r.den.length<=2000000) :
  Calls Tryz.prog 154 #[r.val na nc da dc] w fun e w'=>e=.returned (.bool r.none)/\Below w.heap.size w w':=by
 obtain ⟨neg,num,den⟩:=r;unfold Rt.val Rt.none;dsimp only at hl hm ⊢;by_cases h1:num.length=0 <;> by_cases h2:den.length=0
 all_goals
  have e1:((num.length:Int)==0)=decide (num.length=0):=by rw [Bool.eq_iff_iff];simp
  have e2:((den.length:Int)==0)=decide (den.length=0):=by rw [Bool.eq_iff_iff];simp
  have d1:decide (num.length=0)=decide (num.length=0):=rfl;simp only [h1,h2,decide_true,decide_false] at e1 e2;have HH:(decide (num.length=0),decide (den.length=0))=(decide (num.length=0),decide (den.length=0)):=rfl;simp only [h1,h2,decide_true,decide_false] at HH ⊢;clear HH d1
  cases neg
  all_goals
   have H1:=Hd h1;have H2:=Hd h2;clear h1 h2;go_enter Tryz.func154,Tryz.ntmps154;go_wp2;go_ret;exact ⟨rfl,brf.alloc (nlr _) _⟩
theorem qo9 (r:Rt) (na:Option Addr) (nc:Nat) (da:Option Addr) (dc:Nat) (w:World) (hl:r.num.length<=2000000) (hm:r.den.length<=2000000) :
  Calls Tryz.prog 151 #[r.val na nc da dc] w fun e w'=>e=.returned (.bool r.none)/\Below w.heap.size w w':=by
 obtain ⟨neg,num,den⟩:=r;unfold Rt.val Rt.none;dsimp only at hl hm ⊢;by_cases h1:num.length=0 <;> by_cases h2:den.length=0
 all_goals
  have e1:((num.length:Int)==0)=decide (num.length=0):=by rw [Bool.eq_iff_iff];simp
  have e2:((den.length:Int)==0)=decide (den.length=0):=by rw [Bool.eq_iff_iff];simp
  have d1:decide (num.length=0)=decide (num.length=0):=rfl;simp only [h1,h2,decide_true,decide_false] at e1 e2;have HH:(decide (num.length=0),decide (den.length=0))=(decide (num.length=0),decide (den.length=0)):=rfl;simp only [h1,h2,decide_true,decide_false] at HH ⊢;clear HH d1
  cases neg
  all_goals
   have H1:=Hd h1;have H2:=Hd h2;clear h1 h2;go_enter Tryz.func151,Tryz.ntmps151;go_wp2;go_ret;exact ⟨rfl,brf.alloc (nlr _) _⟩
theorem qpf (k:Int) (w:World):Calls Tryz.prog 165 #[.int .i64 k] w fun e w'=>e=.returned (.int .i64 (qbv k))/\w=w':=by
 by_cases hk:1<=k/\k<=9
 ·
  have hc:k=1\/k=2\/k=3\/k=4\/k=5\/k=6\/k=7\/k=8\/k=9:=by omega
  clear hk;rcases hc with rfl | rfl | rfl | rfl | rfl | rfl | rfl | rfl | rfl
  all_goals
   go_enter Tryz.func165,Tryz.ntmps165;go_wp2;go_ret;exact ⟨qcc (by decide),rfl⟩
 ·
  have h1:=qai (a:=k) (b:=1) (by omega);have h2:=qai (a:=k) (b:=2) (by omega);have h3:=qai (a:=k) (b:=3) (by omega);have h4:=qai (a:=k) (b:=4) (by omega);have h5:=qai (a:=k) (b:=5) (by omega);have h6:=qai (a:=k) (b:=6) (by omega);have h7:=qai (a:=k) (b:=7) (by omega);have h8:=qai (a:=k) (b:=8) (by omega);have h9:=qai (a:=k) (b:=9) (by omega);have hr:qbv k=0:=by unfold qbv;rw [if_neg (by omega),if_neg (by omega),if_neg (by omega),if_neg (by omega)]
  rw [hr];clear hr hk;go_enter Tryz.func165,Tryz.ntmps165;go_wp2;go_ret;exact ⟨rfl,rfl⟩
theorem qpp (k:Int) (w:World):Calls Tryz.prog 157 #[.int .i64 k] w fun e w'=>e=.returned (.int .i64 (qbc k))/\w=w':=by
 by_cases hk:1<=k/\k<=14
 ·
  have hc:k=1\/k=2\/k=3\/k=4\/k=5\/k=6\/k=7\/k=8\/k=9\/k=10\/k=11\/k=12\/k=13\/k=14:=by omega
  clear hk;rcases hc with rfl | rfl | rfl | rfl | rfl | rfl | rfl | rfl | rfl | rfl | rfl | rfl | rfl | rfl
  all_goals
   go_enter Tryz.func157,Tryz.ntmps157;go_wp2;go_ret;exact ⟨qcc (by decide),rfl⟩
 ·
  have h1:=qai (a:=k) (b:=1) (by omega);have h2:=qai (a:=k) (b:=2) (by omega);have h3:=qai (a:=k) (b:=3) (by omega);have h4:=qai (a:=k) (b:=4) (by omega);have h5:=qai (a:=k) (b:=5) (by omega);have h6:=qai (a:=k) (b:=6) (by omega);have h7:=qai (a:=k) (b:=7) (by omega);have h8:=qai (a:=k) (b:=8) (by omega);have h9:=qai (a:=k) (b:=9) (by omega);have h10:=qai (a:=k) (b:=10) (by omega);have h11:=qai (a:=k) (b:=11) (by omega);have h12:=qai (a:=k) (b:=12) (by omega);have h13:=qai (a:=k) (b:=13) (by omega);have h14:=qai (a:=k) (b:=14) (by omega);have hr:qbc k = -1:=by unfold qbc;rw [if_neg (by omega),if_neg (by omega),if_neg (by omega),if_neg (by omega)]
  rw [hr];clear hr hk;go_enter Tryz.func157,Tryz.ntmps157;go_wp2;go_ret;exact ⟨rfl,rfl⟩
theorem qsv (r:Rt) (na:Option Addr) (nc:Nat) (da:Option Addr) (dc:Nat) (w:World) (hl:r.num.length<=2000000) (hm:r.den.length<=2000000) :
  Calls Tryz.prog 166 #[r.val na nc da dc] w fun e w'=>e=.returned (.bool r.none)/\Below w.heap.size w w':=by
 obtain ⟨neg,num,den⟩:=r;unfold Rt.val Rt.none;dsimp only at hl hm ⊢;by_cases h1:num.length=0 <;> by_cases h2:den.length=0
 all_goals
  have e1:((num.length:Int)==0)=decide (num.length=0):=by rw [Bool.eq_iff_iff];simp
  have e2:((den.length:Int)==0)=decide (den.length=0):=by rw [Bool.eq_iff_iff];simp
  have d1:decide (num.length=0)=decide (num.length=0):=rfl;simp only [h1,h2,decide_true,decide_false] at e1 e2;have HH:(decide (num.length=0),decide (den.length=0))=(decide (num.length=0),decide (den.length=0)):=rfl;simp only [h1,h2,decide_true,decide_false] at HH ⊢;clear HH d1
  cases neg
  all_goals
   have H1:=Hd h1;have H2:=Hd h2;clear h1 h2;go_enter Tryz.func166,Tryz.ntmps166;go_wp2;go_ret;exact ⟨rfl,brf.alloc (nlr _) _⟩
theorem qqm (r:Rt) (na:Option Addr) (nc:Nat) (da:Option Addr) (dc:Nat) (w:World) (hl:r.num.length<=2000000) (hm:r.den.length<=2000000) :
  Calls Tryz.prog 161 #[r.val na nc da dc] w fun e w'=>e=.returned (.bool r.none)/\Below w.heap.size w w':=by
 obtain ⟨neg,num,den⟩:=r;unfold Rt.val Rt.none;dsimp only at hl hm ⊢;by_cases h1:num.length=0 <;> by_cases h2:den.length=0
 all_goals
  have e1:((num.length:Int)==0)=decide (num.length=0):=by rw [Bool.eq_iff_iff];simp
  have e2:((den.length:Int)==0)=decide (den.length=0):=by rw [Bool.eq_iff_iff];simp
  have d1:decide (num.length=0)=decide (num.length=0):=rfl;simp only [h1,h2,decide_true,decide_false] at e1 e2;have HH:(decide (num.length=0),decide (den.length=0))=(decide (num.length=0),decide (den.length=0)):=rfl;simp only [h1,h2,decide_true,decide_false] at HH ⊢;clear HH d1
  cases neg
  all_goals
   have H1:=Hd h1;have H2:=Hd h2;clear h1 h2;go_enter Tryz.func161,Tryz.ntmps161;go_wp2;go_ret;exact ⟨rfl,brf.alloc (nlr _) _⟩
theorem qf5 {α:Type} {p:α->Bool} {l:List α} {k:Nat} {x:α} (h:l[k]? = some x):(l.take (k+1)).any p=((l.take k).any p||p x):=by
 rw [qbh h,List.any_append];simp
theorem qi1 {α:Type} {p:α->Bool} {l:List α} {k:Nat} {x:α} (h:l[k]? = some x) (e:p x=true):l.any p=true:=by
 rw [List.any_eq_true];exact ⟨x,List.mem_of_getElem? h,e⟩
theorem zz47 {P:Prop} (h:P:=by
 rintro e w2 ⟨rfl,hb2⟩;have hb3:=bth hb1 hb2;go_wp2;go_ret;exact ⟨rfl,hb3⟩
 ):P:=h
theorem qnd (f:Fct) (n:Int) (p:RA) (w:World) (h:qb4 w p f.args f.ratio) (hq:f.ratio.few) (hn:InInt n) (hk:InInt f.kind) :
  Calls Tryz.prog 78 #[f.val p.aa p.ac p.na p.nc p.da p.dc,.int .i64 n] w fun e w'=>e=.returned (.int .i64 (qch f n))/\Below w.heap.size w w':=by
 obtain ⟨kind,args,r⟩:=f;obtain ⟨aa,ac,na,nc,da,dc⟩:=p;obtain ⟨hI,hN,hD⟩:=h;dsimp only at hI hN hD hq hk;obtain ⟨res,hres⟩:∃ x,qch ⟨kind,args,r⟩ n=x:=⟨_,rfl⟩
 rw [hres];unfold qch at hres;dsimp only at hres;have CA:=qnl kind;have hA:=qid kind;have CR:=fun W (hW:Below w.heap.size w W)=>qfd r na nc da dc W (hN.ext (xbw hW)) (hD.ext (xbw hW)) hq.1 hq.2
 have CN:=fun W=>qp6 r na nc da dc W hq.1 hq.2
 have hlen:=hI.len;have hIn:∀ a∈args,InInt a:=fun a ha=>by
  obtain ⟨k,hk⟩:=List.mem_iff_getElem?.1 ha;obtain ⟨b,off,_,hc,hw⟩:=hI.2.2 k a hk;exact qd1 hw
 have HI:=Hd hI;have HIn:=Hd hIn;revert CA hA hres CR CN;generalize qbv kind=ar;generalize r.right=br;generalize r.none=bn;intro hres CA hA CR CN;replace CA:=Hd CA;replace CR:=Hd CR;replace CN:=Hd CN;have HRES:=Hd hres;obtain ⟨hn1,hn2⟩:=hn;obtain ⟨hk1,hk2⟩:=hk;obtain ⟨neg,num,den⟩:=r;unfold Rt.val at CR CN;unfold Fct.val;dsimp only at CR CN ⊢;clear hres hI hN hD hIn hq;have hz:=Blk.new w 86 #[.int .i64 kind,.slice aa args.length ac,.bool neg,.slice na num.length nc,.slice da den.length dc];have hb0:Below w.heap.size w (w.alloc (.cells #[.int .i64 kind,.slice aa args.length ac,.bool neg,.slice na num.length nc,.slice da den.length dc] 86)):=brf.alloc (nlr _) _;by_cases h0:ar=0
 ·
  have he:(ar==0)=true:=by simpa using h0
  have hr:res=8:=by rw [<- HRES.out,if_pos h0]
  subst hr;clear h0 hz;go_enter Tryz.func78,Tryz.ntmps78;go_wp2_with (go_at_call 153;refine (CA.out _).mono ?_;rintro e w' ⟨rfl,rfl⟩);go_ret;exact ⟨rfl,hb0⟩
 ·
  have he:(ar==0)=false:=by simpa using h0
  have H0:=Hd h0;clear h0;by_cases h1:(args.length:Int)=ar
  ·
   have he1:((args.length:Int) != ar)=false:=by simpa using h1
   have H1:=Hd h1;clear h1;go_enter Tryz.func78,Tryz.ntmps78;go_wp2_with fail;revert hz hb0;generalize w.alloc (.cells #[.int .i64 kind,.slice aa args.length ac,.bool neg,.slice na num.length nc,.slice da den.length dc] 86)=w0;intro hz hb0;obtain ⟨z0,z1,z2,z3,z4⟩:=cq5 hz;refine (CA.out _).mono ?_;rintro e w' ⟨rfl,rfl⟩;go_wp2
   go_quiet ((go_at_call 153;exact Calls.quiet_of_same ((CA.out _).mono fun _ _ h=>⟨h.1,h.2.symm⟩)))
   have hz1:Blk (w0.drewN nq) w.heap.size 86 #[.int .i64 kind,.slice aa args.length ac,.bool neg,.slice na num.length nc,.slice da den.length dc]:=hz;have hb1:=below_drewN hb0 nq;clear z0 z1 z2 z3 z4 hz hb0 CA;revert hz1 hb1;generalize w0.drewN nq=w1;intro hz1 hb1;obtain ⟨z0,z1,z2,z3,z4⟩:=cq5 hz1;go_wp2
   go_loop [6,21] (fun _ i=>∃ k:Nat,k<=args.length/\i=.int .i64 k/\Hid ((args.take k).any (qay n)=false)) (fun _ i=>args.length-(intOf i).toNat)
   case atStart=>exact ⟨0,by omega,rfl,rfl⟩
   case round =>
    obtain ⟨k,hk,rfl,hno⟩:=hrel;by_cases hlt:k<args.length
    ·
     obtain ⟨x,hx⟩:=qac hlt;obtain ⟨b,off,rfl,hc⟩:=(HI.out.ext (xbw hb1)).2.2 k x hx;have hc1:w1.cell? ⟨b,off+k,none⟩=some (.int .i64 x):=by simpa using hc.1
     obtain ⟨hx1,hx2⟩:=HIn.out x (List.mem_of_getElem? hx);have HX:=Hd hx;clear hc hx;by_cases hbad:x<0\/n<=x
     ·
      have hr:res=2:=by
       have hany:args.any (qay n)=true:=qi1 HX.out (by unfold qay;exact decide_eq_true hbad);rw [<- HRES.out,if_neg H0.out,if_neg (by simpa using H1.out),if_pos hany]
      subst hr;by_cases hx0:x<0
      ·
       clear hbad;go_wp2;go_ret;exact ⟨rfl,hb1⟩
      ·
       have hge:n<=x:=by omega
       clear hbad;go_wp2;go_ret;exact ⟨rfl,hb1⟩
     ·
      have hx0:0<=x:=by omega
      have hxn:x<n:=by omega
      have hbf:qay n x=false:=by unfold qay;exact decide_eq_false hbad
      have HBF:=Hd hbf;clear hbad hbf;go_wp2
      go_round
      case rel=>exact ⟨k+1,by omega,by go_num,by show _=_;rw [qf5 HX.out,hno.out,HBF.out];rfl⟩
      case measure=>simp [intOf];omega
    ·
     have hany:args.any (qay n)=false:=by
      have:=hno.out
      rwa [qew hlt] at this
     have hres2:(if kind=9/\br=false then (1:Int) else if kind≠9/\bn=false then 1 else 0)=res:=by
      have:=HRES.out;rw [if_neg H0.out,if_neg (by simpa using H1.out),if_neg (by rw [hany];simp)] at this;exact this
     have HR2:=Hd hres2;clear hres2 hany;by_cases hk9:kind=9
     ·
      have hke:(kind==9)=true:=by simpa using hk9
      have hkn:(kind != 9)=false:=by simpa using hk9
      have HK9:=Hd hk9;clear hk9
      cases br
      ·
       have hr:res=1:=by rw [<- HR2.out,if_pos ⟨HK9.out,rfl⟩]
       subst hr;go_wp2_with fail;refine (CR.out _ hb1).mono ?_;exact zz47
      ·
       have hr:res=0:=by rw [<- HR2.out,if_neg (by simp),if_neg (by simp [HK9.out])]
       subst hr;go_wp2_with fail;refine (CR.out _ hb1).mono ?_;rintro e w2 ⟨rfl,hb2⟩;have hb3:=bth hb1 hb2;have hz2:=hz1.below' hb2;have y0:=hz2.cell 0;clear hb2 hz2;go_wp2;go_ret;exact ⟨rfl,hb3⟩
     ·
      have hke:(kind==9)=false:=by simpa using hk9
      have hkn:(kind != 9)=true:=by simpa using hk9
      have HK9:=Hd hk9;clear hk9
      cases bn
      ·
       have hr:res=1:=by rw [<- HR2.out,if_neg (fun h=>HK9.out h.1),if_pos ⟨HK9.out,rfl⟩]
       subst hr;go_wp2_with fail;refine (CN.out _).mono ?_;exact zz47
      ·
       have hr:res=0:=by rw [<- HR2.out,if_neg (fun h=>HK9.out h.1),if_neg (by simp)]
       subst hr;go_wp2_with fail;refine (CN.out _).mono ?_;exact zz47
  ·
   have he1:((args.length:Int) != ar)=true:=by simpa using h1
   have hr:res=1:=by rw [<- HRES.out,if_neg H0.out,if_pos h1]
   subst hr;clear h1;go_enter Tryz.func78,Tryz.ntmps78;go_wp2_with fail;revert hz hb0;generalize w.alloc (.cells #[.int .i64 kind,.slice aa args.length ac,.bool neg,.slice na num.length nc,.slice da den.length dc] 86)=w0;intro hz hb0;obtain ⟨z0,z1,z2,z3,z4⟩:=cq5 hz;refine (CA.out _).mono ?_;rintro e w' ⟨rfl,rfl⟩;go_wp2
   go_quiet ((go_at_call 153;exact Calls.quiet_of_same ((CA.out _).mono fun _ _ h=>⟨h.1,h.2.symm⟩)))
   go_wp2;go_ret;exact ⟨rfl,below_drewN hb0 _⟩
theorem zz48 {P:Prop} (h:P:=by
 rintro e w2 ⟨rfl,hb2⟩;have hb3:=bth hb1 hb2;go_wp2;go_ret;exact ⟨rfl,hb3⟩
 ):P:=h
theorem qpg (f:Fct) (n:Int) (p:RA) (w:World) (h:qb4 w p f.args f.ratio) (hq:f.ratio.few) (hn:InInt n) (hk:InInt f.kind) :
  Calls Tryz.prog 83 #[f.val p.aa p.ac p.na p.nc p.da p.dc,.int .i64 n] w fun e w'=>e=.returned (.int .i64 (qch f n))/\Below w.heap.size w w':=by
 obtain ⟨kind,args,r⟩:=f;obtain ⟨aa,ac,na,nc,da,dc⟩:=p;obtain ⟨hI,hN,hD⟩:=h;dsimp only at hI hN hD hq hk;obtain ⟨res,hres⟩:∃ x,qch ⟨kind,args,r⟩ n=x:=⟨_,rfl⟩
 rw [hres];unfold qch at hres;dsimp only at hres;have CA:=qpf kind;have hA:=qid kind;have CR:=fun W (hW:Below w.heap.size w W)=>qik r na nc da dc W (hN.ext (xbw hW)) (hD.ext (xbw hW)) hq.1 hq.2
 have CN:=fun W=>qsv r na nc da dc W hq.1 hq.2
 have hlen:=hI.len;have hIn:∀ a∈args,InInt a:=fun a ha=>by
  obtain ⟨k,hk⟩:=List.mem_iff_getElem?.1 ha;obtain ⟨b,off,_,hc,hw⟩:=hI.2.2 k a hk;exact qd1 hw
 have HI:=Hd hI;have HIn:=Hd hIn;revert CA hA hres CR CN;generalize qbv kind=ar;generalize r.right=br;generalize r.none=bn;intro hres CA hA CR CN;replace CA:=Hd CA;replace CR:=Hd CR;replace CN:=Hd CN;have HRES:=Hd hres;obtain ⟨hn1,hn2⟩:=hn;obtain ⟨hk1,hk2⟩:=hk;obtain ⟨neg,num,den⟩:=r;unfold Rt.val at CR CN;unfold Fct.val;dsimp only at CR CN ⊢;clear hres hI hN hD hIn hq;have hz:=Blk.new w 86 #[.int .i64 kind,.slice aa args.length ac,.bool neg,.slice na num.length nc,.slice da den.length dc];have hb0:Below w.heap.size w (w.alloc (.cells #[.int .i64 kind,.slice aa args.length ac,.bool neg,.slice na num.length nc,.slice da den.length dc] 86)):=brf.alloc (nlr _) _;by_cases h0:ar=0
 ·
  have he:(ar==0)=true:=by simpa using h0
  have hr:res=8:=by rw [<- HRES.out,if_pos h0]
  subst hr;clear h0 hz;go_enter Tryz.func83,Tryz.ntmps83;go_wp2_with (go_at_call 165;refine (CA.out _).mono ?_;rintro e w' ⟨rfl,rfl⟩);go_ret;exact ⟨rfl,hb0⟩
 ·
  have he:(ar==0)=false:=by simpa using h0
  have H0:=Hd h0;clear h0;by_cases h1:(args.length:Int)=ar
  ·
   have he1:((args.length:Int) != ar)=false:=by simpa using h1
   have H1:=Hd h1;clear h1;go_enter Tryz.func83,Tryz.ntmps83;go_wp2_with fail;revert hz hb0;generalize w.alloc (.cells #[.int .i64 kind,.slice aa args.length ac,.bool neg,.slice na num.length nc,.slice da den.length dc] 86)=w0;intro hz hb0;obtain ⟨z0,z1,z2,z3,z4⟩:=cq5 hz;refine (CA.out _).mono ?_;rintro e w' ⟨rfl,rfl⟩;obtain ⟨w1,rfl⟩:∃ w1:World,w1=w0:=⟨_,rfl⟩
   have hz1:=hz;have hb1:=hb0;clear hz hb0 CA;go_wp2
   go_loop [7,21] (fun _ i=>∃ k:Nat,k<=args.length/\i=.int .i64 k/\Hid ((args.take k).any (qay n)=false)) (fun _ i=>args.length-(intOf i).toNat)
   case atStart=>exact ⟨0,by omega,rfl,rfl⟩
   case round =>
    obtain ⟨k,hk,rfl,hno⟩:=hrel;by_cases hlt:k<args.length
    ·
     obtain ⟨x,hx⟩:=qac hlt;obtain ⟨b,off,rfl,hc⟩:=(HI.out.ext (xbw hb1)).2.2 k x hx;have hc1:w1.cell? ⟨b,off+k,none⟩=some (.int .i64 x):=by simpa using hc.1
     obtain ⟨hx1,hx2⟩:=HIn.out x (List.mem_of_getElem? hx);have HX:=Hd hx;clear hc hx;by_cases hbad:x<0\/n<=x
     ·
      have hr:res=2:=by
       have hany:args.any (qay n)=true:=qi1 HX.out (by unfold qay;exact decide_eq_true hbad);rw [<- HRES.out,if_neg H0.out,if_neg (by simpa using H1.out),if_pos hany]
      subst hr;by_cases hx0:x<0
      ·
       clear hbad;go_wp2;go_ret;exact ⟨rfl,hb1⟩
      ·
       have hge:n<=x:=by omega
       clear hbad;go_wp2;go_ret;exact ⟨rfl,hb1⟩
     ·
      have hx0:0<=x:=by omega
      have hxn:x<n:=by omega
      have hbf:qay n x=false:=by unfold qay;exact decide_eq_false hbad
      have HBF:=Hd hbf;clear hbad hbf;go_wp2
      go_round
      case rel=>exact ⟨k+1,by omega,by go_num,by show _=_;rw [qf5 HX.out,hno.out,HBF.out];rfl⟩
      case measure=>simp [intOf];omega
    ·
     have hany:args.any (qay n)=false:=by
      have:=hno.out
      rwa [qew hlt] at this
     have hres2:(if kind=9/\br=false then (1:Int) else if kind≠9/\bn=false then 1 else 0)=res:=by
      have:=HRES.out;rw [if_neg H0.out,if_neg (by simpa using H1.out),if_neg (by rw [hany];simp)] at this;exact this
     have HR2:=Hd hres2;clear hres2 hany;by_cases hk9:kind=9
     ·
      have hke:(kind==9)=true:=by simpa using hk9
      have hkn:(kind != 9)=false:=by simpa using hk9
      have HK9:=Hd hk9;clear hk9
      cases br
      ·
       have hr:res=1:=by rw [<- HR2.out,if_pos ⟨HK9.out,rfl⟩]
       subst hr;go_wp2_with fail;refine (CR.out _ hb1).mono ?_;exact zz48
      ·
       have hr:res=0:=by rw [<- HR2.out,if_neg (by simp),if_neg (by simp [HK9.out])]
       subst hr;go_wp2_with fail;refine (CR.out _ hb1).mono ?_;rintro e w2 ⟨rfl,hb2⟩;have hb3:=bth hb1 hb2;have hz2:=hz1.below' hb2;have y0:=hz2.cell 0;clear hb2 hz2;go_wp2;go_ret;exact ⟨rfl,hb3⟩
     ·
      have hke:(kind==9)=false:=by simpa using hk9
      have hkn:(kind != 9)=true:=by simpa using hk9
      have HK9:=Hd hk9;clear hk9
      cases bn
      ·
       have hr:res=1:=by rw [<- HR2.out,if_neg (fun h=>HK9.out h.1),if_pos ⟨HK9.out,rfl⟩]
       subst hr;go_wp2_with fail;refine (CN.out _).mono ?_;exact zz48
      ·
       have hr:res=0:=by rw [<- HR2.out,if_neg (fun h=>HK9.out h.1),if_neg (by simp)]
       subst hr;go_wp2_with fail;refine (CN.out _).mono ?_;exact zz48
  ·
   have he1:((args.length:Int) != ar)=true:=by simpa using h1
   have hr:res=1:=by rw [<- HRES.out,if_neg H0.out,if_pos h1]
   subst hr;clear h1;go_enter Tryz.func83,Tryz.ntmps83;go_wp2_with fail;revert hz hb0;generalize w.alloc (.cells #[.int .i64 kind,.slice aa args.length ac,.bool neg,.slice na num.length nc,.slice da den.length dc] 86)=w0;intro hz hb0;obtain ⟨z0,z1,z2,z3,z4⟩:=cq5 hz;refine (CA.out _).mono ?_;rintro e w' ⟨rfl,rfl⟩;go_wp2;go_ret;exact ⟨rfl,hb0⟩
theorem qgu (c:Int) (w:World) (h0:0<=c) (h1:c<=255) :
  Calls Tryz.prog 218 #[.int .u8 c] w fun e w'=>e=.returned (.bool (letB c))/\w=w':=by
 obtain ⟨b,hb⟩:∃ b,letB c=b:=⟨_,rfl⟩
 have hb2:=hb;unfold letB at hb2;rw [hb];have HB:=Hd hb2;clear hb hb2;by_cases h2:65<=c <;> by_cases h3:c<=90 <;> by_cases h4:97<=c <;> by_cases h5:c<=122 <;> first | (exfalso;omega) | skip
 all_goals
  go_enter Tryz.func218,Tryz.ntmps218;go_wp2;go_ret;refine ⟨qbf ?_,rfl⟩;rw [<- HB.out]
  first | (symm;apply decide_eq_true;omega) | (symm;apply decide_eq_false;omega)
theorem qm7 (c:Int) (w:World) (h0:0<=c) (h1:c<=255) :
  Calls Tryz.prog 219 #[.int .u8 c] w fun e w'=>e=.returned (.bool (digB c))/\w=w':=by
 obtain ⟨b,hb⟩:∃ b,digB c=b:=⟨_,rfl⟩
 have hb2:=hb;unfold digB at hb2;rw [hb];have HB:=Hd hb2;clear hb hb2;by_cases h2:48<=c <;> by_cases h3:c<=57 <;> first | (exfalso;omega) | skip
 all_goals
  go_enter Tryz.func219,Tryz.ntmps219;go_wp2;go_ret;refine ⟨qbf ?_,rfl⟩;rw [<- HB.out]
  first | (symm;apply decide_eq_true;omega) | (symm;apply decide_eq_false;omega)
theorem qjj (w:World):Calls Tryz.prog 220 #[] w fun e w'=>e=.returned (.slice (some ⟨w.heap.size,0,none⟩) 29 29)/\w.alloc (.cells (qba.map Value.string).toArray 9)=w':=by
 go_enter Tryz.func220,Tryz.ntmps220;go_wp2;go_ret;exact ⟨rfl,rfl⟩
theorem qli (w:World):Calls Tryz.prog 226 #[] w fun e w'=>e=.returned (.slice (some ⟨w.heap.size,0,none⟩) 29 29)/\w.alloc (.cells (qba.map Value.string).toArray 9)=w':=by
 go_enter Tryz.func226,Tryz.ntmps226;go_wp2;go_ret;exact ⟨rfl,rfl⟩
end Go.Proofs.YtfaalkneigpcnaaGreatDoor
