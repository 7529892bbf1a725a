/- Walks: a step of the reference's frame (layer 21: next): free points, dependent ones. -/
import Derived.Test.YtmdlbpibipnapaaGreatRd16
import Derived.Test.YtmdlbpibipnapaaGreatRd13
import Derived.Test.YtmdlbpibipnapaaGreatRd15
import Derived.Test.YtmdlbpibipnapaaGreatRd1
set_option linter.all false
set_option maxRecDepth 100000
set_option maxHeartbeats 4000000
namespace Go.Proofs.YtmdlbpibipnapaaGreat
open Go.RowKit
def Cs (L:List (Addr × Value)) (W:World):Prop:=∀ p v,(p,v)∈L->W.cell? p=some v
theorem Cs.setc {L:List (Addr × Value)} {W:World} (h:Cs L W) {g i:Nat} {u:Value} (hn:∀ p v,(p,v)∈L->p.block≠g):Cs L (W.setCell ⟨g,i,none⟩ u):=fun p v hm =>
 (World.cell?_setCell_other W ⟨g,i,none⟩ p u (fun e=>by subst e;exact hn _ v hm rfl)).trans (h p v hm)
theorem Cs.below {L:List (Addr × Value)} {W V:World} (h:Cs L W) (hb:Below W.heap.size W V):Cs L V:=fun p v hm=>xbw hb p v (h p v hm)
def qdv (Z:Nat->Prop) (B:Nat) (x:Frm) (y:List Vr × Vec) (hs:List (VQ × Vec)) (ra:Option Addr) (rc:Nat) (va:Option Addr) (w:World) (e:Ending) (w':World):Prop :=
 ∃ va' vc' t,e=.returned (.tuple #[.agg #[.slice ra hs.length rc,.slice va' y.1.length vc'],.agg #[.slice t.a y.2.1.length t.c,.slice t.b y.2.2.length t.d]]) /\
  Rst Z w' B ⟨y.1,x.coords,x.free⟩ hs ra rc va' vc'/\VecX (Yr Z ra va') w' t y.2/\Fr (Yv ra va) w w'/\(∀ g,va'=some g->va=some g\/w.heap.size<=g.block)
theorem qrk {Z:Nat->Prop} {w:World} {ra va va':Option Addr} (h:∀ g,va'=some g->va=some g\/w.heap.size<=g.block):∀ b,Yr Z ra va' b->Yr Z ra va b\/w.heap.size<=b:=fun b hb=>by
 rcases hb with (hb | ⟨g,hg,rfl⟩) | hb
 · exact .inl (.inl (.inl hb))
 ·
  rcases h g hg with e | e
  · exact .inl (.inl (.inr ⟨g,e,rfl⟩))
  · exact .inr e
 · exact .inl (.inr hb)
theorem zz52 {P:Prop} (h:P:=by
 refine VecX.less (Y:=Yr (Zk Z w.heap.size 4) ra va5) ?_ fun b hb=>hb.imp id .inl
 exact (((hV5.out.step (Agr.setc (.inr hZ1.out) (Agr.refl _ _))).step (Agr.setc (.inr hZ1.out) (Agr.refl _ _))).step (Agr.setc (.inr hZ2.out) (Agr.refl _ _))).step (Agr.setc (.inr hZ2.out) (Agr.refl _ _))
 ):P:=h
theorem zz53 {P:Prop} (h:P:=by
 rw [hL];intro p v hm;simp only [List.mem_cons,List.not_mem_nil,or_false,Prod.mk.injEq] at hm;rcases hm with ⟨rfl,rfl⟩ | ⟨rfl,rfl⟩ | ⟨rfl,rfl⟩ | ⟨rfl,rfl⟩
 · exact b00
 · exact b01
 · exact b30
 · exact b31
 ):P:=h
theorem qtd (Z:Nat->Prop) (B:Nat) (x:Frm) (hs:List (VQ × Vec)) (ra va:Option Addr) (rc vc:Nat) (step:Int) (w:World) (hR:Rst Z w B x hs ra rc va vc) :
  Calls Tryz.prog 93 #[.agg #[.slice ra hs.length rc,.slice va x.vars.length vc],.int .i64 step,.int .i64 0] w (qdv Z B x (x.vars,([],[])) hs ra rc va w):=by
 have HR:=Hd hR;have hn0:∀ g,w.heap.size<=g->¬ Yv ra va g:=fun g hg h=>by have:=hR.lt _ h;omega
 replace hn0:=Hd hn0;clear hR;go_enter Tryz.func93,Tryz.ntmps93;go_wp2
 refine qaa (fun W=>Blk W w.heap.size 37 #[.slice ra hs.length rc,.slice va x.vars.length vc]/\Blk W (w.heap.size+1) 37 #[.slice none 0 0,.slice none 0 0]/\Blk W (w.heap.size+1+1) 120 #[.slice none 0 0,.slice none 0 0]/\Blk W (w.heap.size+1+1+1) 120 #[.slice none 0 0,.slice none 0 0]/\Below w.heap.size w W) ⟨bk,bk,bk,bk,zg⟩ ?_
 rintro w5 ⟨h0,h1,h2,h3,hw5⟩;obtain ⟨g1,hg1⟩:∃ g,g=w.heap.size+1:=⟨_,rfl⟩
 obtain ⟨g2,hg2⟩:∃ g,g=w.heap.size+1+1:=⟨_,rfl⟩
 obtain ⟨g3,hg3⟩:∃ g,g=w.heap.size+1+1+1:=⟨_,rfl⟩
 rw [<- hg3] at h3 ⊢;rw [<- hg2] at h2 ⊢;rw [<- hg1] at h1 ⊢;obtain ⟨va5,hva5⟩:∃ v,v=va:=⟨_,rfl⟩
 obtain ⟨vc5,hvc5⟩:∃ v,v=vc:=⟨_,rfl⟩
 have hR5:Rst (Zk Z w.heap.size 4) w5 B x hs ra rc va5 vc5:=by rw [hva5,hvc5];exact (HR.out.more (qed (nlr _))).call hw5
 have hV5:VecX (Yr (Zk Z w.heap.size 4) ra va5) w5 ⟨none,0,none,0⟩ ([],[]):=⟨PolX.nil,PolX.nil⟩
 have hf5:Fr (Yv ra va) w w5:=Fr.below hw5;have hvv:∀ g,va5=some g->va=some g\/w.heap.size<=g.block:=fun g h=>.inl (by rw [<- hva5];exact h)
 have hn5:∀ g,w.heap.size<=g->g<w.heap.size+4->¬ Yv ra va5 g:=fun g hg _=>by rw [hva5];exact hn0.out g hg
 rw [<- hva5,<- hvc5] at h0;replace hR5:=Hd hR5;replace hV5:=Hd hV5;replace hf5:=Hd hf5;replace hvv:=Hd hvv;replace hn5:=Hd hn5;replace hva5:=Hd hva5;replace hvc5:=Hd hvc5;obtain ⟨b00,b01⟩:=cq2 h0;obtain ⟨b30,b31⟩:=cq2 h3;obtain ⟨L,hL⟩:∃ L:List (Addr × Value),L=[(⟨w.heap.size,0,none⟩,.slice ra hs.length rc),(⟨w.heap.size,1,none⟩,.slice va5 x.vars.length vc5),(⟨g3,0,none⟩,.slice none 0 0),(⟨g3,1,none⟩,.slice none 0 0)]:=⟨_,rfl⟩
 have y0:∀ W,Cs L W->W.cell? ⟨w.heap.size,0,none⟩=some (.slice ra hs.length rc):=fun W h=>h _ _ (by rw [hL];simp)
 have y1:∀ W,Cs L W->W.cell? ⟨w.heap.size,1,none⟩=some (.slice va5 x.vars.length vc5):=fun W h=>h _ _ (by rw [hL];simp)
 have y2:∀ W,Cs L W->W.cell? ⟨g3,0,none⟩=some (.slice none 0 0):=fun W h=>h _ _ (by rw [hL];simp)
 have y3:∀ W,Cs L W->W.cell? ⟨g3,1,none⟩=some (.slice none 0 0):=fun W h=>h _ _ (by rw [hL];simp)
 have hne:∀ p v,(p,v)∈L->p.block≠g1:=by
  rw [hL];intro p v hm;simp only [List.mem_cons,List.not_mem_nil,or_false,Prod.mk.injEq] at hm;rcases hm with ⟨rfl,_⟩ | ⟨rfl,_⟩ | ⟨rfl,_⟩ | ⟨rfl,_⟩ <;> (dsimp only;omega)
 have s0:Cs L w5.drew:=by
  exact zz53
 obtain ⟨k10,k11⟩:=cq2 h1;obtain ⟨f10,f11⟩:=fq2 h1;have l1:=h1.lt;obtain ⟨k20,k21⟩:=cq2 h2;obtain ⟨f20,f21⟩:=fq2 h2;have l2:=h2.lt;have q1:w.heap.size<=g1:=oo
 have q2:w.heap.size<=g2:=oo
 have hZ1:Zk Z w.heap.size 4 g1:=.inr oo;have hZ2:Zk Z w.heap.size 4 g2:=.inr oo;have n1:¬ Yv ra va5 g1:=hn5.out g1 q1 oo;have n2:¬ Yv ra va5 g2:=hn5.out g2 q2 oo;have d12:g1≠g2:=oo
 have hLh:=Hd hL;have hneh:=Hd hne;replace hg1:=Hd hg1;replace hg2:=Hd hg2;replace hg3:=Hd hg3;have h1h:=Hd h1;have h2h:=Hd h2;replace hZ1:=Hd hZ1;replace hZ2:=Hd hZ2;replace n1:=Hd n1;replace n2:=Hd n2;clear h0 h1 h2 h3 b00 b01 b30 b31 hL hne;refine wrx (S:=Cs L) [(0,.q),(1,.q),(2,.l),(3,.t)] (s0) ?_
 iterate 2 (refine qaf rfl rfl fun K hK=>xq ?_;go_simp;refine hK _ _ ?_;clear hK K)
 refine vl fun K hK=>?_
 go_simp;refine hK.out _ _ ((s0.setc hneh.out).setc hneh.out) (fun _=>?_);clear hK K;refine vt fun K hK=>?_
 go_simp;refine hK.out _ _ ?_;clear hK K;refine qad ?_;clear k10 k11 f10 f11 l1 k20 k21 f20 f21 l2 s0 y0 y1 y2 y3;go_wp2;refine qaa (fun W=>Blk W g1 37 #[.slice ra hs.length rc,.slice va5 x.vars.length vc5]/\Blk W g2 120 #[.slice none 0 0,.slice none 0 0]/\Rst Z W B ⟨x.vars,x.coords,x.free⟩ hs ra rc va5 vc5/\VecX (Yr Z ra va5) W ⟨none,0,none,0⟩ ([],[])/\Fr (Yv ra va) w W) ⟨?_,?_,?_,?_,?_⟩ ?_
 ·
  have a:=h1h.out
  exact bk
 ·
  have a:=h2h.out
  exact bk
 · exact (((((hR5.out.set_ hZ1.out n1.out).set_ hZ1.out n1.out).set_ hZ2.out n2.out).set_ hZ2.out n2.out).less fun b hb=>.inl hb).call (brf.drew)
 ·
  exact zz52
 · exact ((((hf5.out.setc (.inr q1)).setc (.inr q1)).setc (.inr q2)).setc (.inr q2)).call (brf.drew)
 rintro w6 ⟨hF1,hF2,hR6,hV6,hf6⟩;obtain ⟨e0,e1⟩:=cq2 hF1;obtain ⟨e2,e3⟩:=cq2 hF2;refine bodyPost_ret (v:=.tuple #[.agg #[.slice ra hs.length rc,.slice va5 x.vars.length vc5],.agg #[.slice none 0 0,.slice none 0 0]]) (by simp [results,Tryz.results93,go_sem,e0,e1,e2,e3]) rfl ?_;exact ⟨va5,vc5,⟨none,0,none,0⟩,by simp,hR6,hV6,hf6,hvv.out⟩
theorem zz54 {P:Prop} (h:P:=by
 have:=hw4.size;rcases hv4 g hg with e | e
 · exact .inl e
 · exact .inr oo
 ):P:=h
theorem qtp (Z:Nat->Prop) (B:Nat) (x:Frm) (hs:List (VQ × Vec)) (ra va:Option Addr) (rc vc:Nat) (step:Int) (w:World) (hR:Rst Z w B x hs ra rc va vc) (hl:x.vars.length<=900) (hZ:∀ b,Z b->b<w.heap.size) (hBw:B<=w.heap.size) :
  Calls Tryz.prog 93 #[.agg #[.slice ra hs.length rc,.slice va x.vars.length vc],.int .i64 step,.int .i64 1] w (qdv Z B x (x.vars++[(1,step,0)],(varP x.vars.length,[])) hs ra rc va w):=by
 have HR:=Hd hR;have HZ:=Hd hZ;have hn0:∀ g,w.heap.size<=g->¬ Yv ra va g:=fun g hg h=>by have:=hR.lt _ h;omega
 replace hn0:=Hd hn0;clear hR hZ;go_enter Tryz.func93,Tryz.ntmps93;go_wp2_with fail
 refine qae (fun W=>Blk W w.heap.size 37 #[.slice ra hs.length rc,.slice va x.vars.length vc]/\Blk W (w.heap.size+1) 37 #[.slice none 0 0,.slice none 0 0]/\Blk W (w.heap.size+1+1) 120 #[.slice none 0 0,.slice none 0 0]/\Blk W (w.heap.size+1+1+1) 120 #[.slice none 0 0,.slice none 0 0]/\Below w.heap.size w W) ⟨bk,bk,bk,bk,zg⟩ ?_
 rintro w4 ⟨h0,h1,h2,h3,hw4⟩;have hl4:=h3.lt;have hR4:Rst (Zk Z w.heap.size 4) w4 B x hs ra rc va vc:=(HR.out.more (qed (nlr _))).call hw4;have hZ4:∀ b,Zk Z w.heap.size 4 b->b<w4.heap.size:=zk_lt HZ.out hw4.size oo;refine (qdj (Zk Z w.heap.size 4) B x hs ra va rc vc 1 step 0 w4 hR4 oo hZ4 (by have:=hw4.size;omega)).mono ?_;rintro e w5 ⟨va1,vc1,a1,c1,rfl,hR5,hP5,hf4,hv4⟩;replace h0:=h0.fr hf4 (hn0.out _ oo);replace h1:=h1.fr hf4 (hn0.out _ oo);replace h2:=h2.fr hf4 (hn0.out _ oo);replace h3:=h3.fr hf4 (hn0.out _ oo);have hf5:Fr (Yv ra va) w w5:=(Fr.below hw4).trans hf4;have hn5:∀ g,w.heap.size<=g->g<w.heap.size+4->¬ Yv ra va1 g:=fun g hg1 hg2=>qce (hn0.out g hg1) hv4 oo
 have hvv:∀ g,va1=some g->va=some g\/w.heap.size<=g.block:=fun g hg=>by
  exact zz54
 have hZ5:∀ b,Zk Z w.heap.size 4 b->b<w5.heap.size:=fun b hb=>ltl (hZ4 b hb) hf4.size
 obtain ⟨k00,k01⟩:=cq2 h0;obtain ⟨f00,f01⟩:=fq2 h0;have l0:=h0.lt;obtain ⟨k30,k31⟩:=cq2 h3;obtain ⟨f30,f31⟩:=fq2 h3;have l3:=h3.lt;have h0h:=Hd h0;have h1h:=Hd h1;have h2h:=Hd h2;have h3h:=Hd h3;have hZ0:Zk Z w.heap.size 4 w.heap.size:=.inr oo;have hZ3:Zk Z w.heap.size 4 (w.heap.size+1+1+1):=.inr oo;have n0:=hn5 w.heap.size oo oo;have n3:=hn5 (w.heap.size+1+1+1) oo oo;replace hR5:=Hd hR5;replace hP5:=Hd hP5;replace hf5:=Hd hf5;replace hvv:=Hd hvv;replace hn5:=Hd hn5;replace hZ5:=Hd hZ5;replace hZ0:=Hd hZ0;replace hZ3:=Hd hZ3;replace n0:=Hd n0;replace n3:=Hd n3;clear h0 h1 h2 h3 hw4 hl4 hR4 hZ4 hf4 hv4;go_wp2
 refine qaa (fun W=>Blk W w.heap.size 37 #[.slice ra hs.length rc,.slice va1 (x.vars.length+1) vc1]/\Blk W (w.heap.size+1) 37 #[.slice none 0 0,.slice none 0 0]/\Blk W (w.heap.size+1+1) 120 #[.slice none 0 0,.slice none 0 0]/\Blk W (w.heap.size+1+1+1) 120 #[.slice a1 (varP x.vars.length).length c1,.slice none 0 0]/\Rst (Zk Z w.heap.size 4) W B ⟨x.vars++[(1,step,0)],x.coords,x.free⟩ hs ra rc va1 vc1/\PolX (Yr (Zk Z w.heap.size 4) ra va1) W a1 c1 (varP x.vars.length)/\Fr (Yv ra va) w W/\(∀ b,Zk Z w.heap.size 4 b->b<W.heap.size)) ⟨by have a:=h0h.out;exact bk,by have a:=h1h.out;exact bk,by have a:=h2h.out;exact bk,by have a:=h3h.out;exact bk,?_,?_,?_,?_⟩ ?_
 · exact ((hR5.out.set_ hZ0.out n0.out).set_ hZ0.out n0.out).set_ hZ3.out n3.out
 · exact ((hP5.out.step (Agr.setc (.inr hZ0.out) (Agr.refl _ _))).step (Agr.setc (.inr hZ0.out) (Agr.refl _ _))).step (Agr.setc (.inr hZ3.out) (Agr.refl _ _))
 · exact ((hf5.out.setc (.inr oo)).setc (.inr oo)).setc (.inr oo)
 ·
  intro b hb;simp only [World.size_setCell];exact hZ5.out b hb
 clear k00 k01 f00 f01 l0 k30 k31 f30 f31 l3 h0h h1h h2h h3h hR5 hP5 hf5;rintro w5 ⟨h0,h1,h2,h3,hR5,hP5,hf5,_⟩;have hl5:=h3.lt;obtain ⟨g1,hg1⟩:∃ g,g=w.heap.size+1:=⟨_,rfl⟩
 obtain ⟨g2,hg2⟩:∃ g,g=w.heap.size+1+1:=⟨_,rfl⟩
 obtain ⟨g3,hg3⟩:∃ g,g=w.heap.size+1+1+1:=⟨_,rfl⟩
 rw [<- hg3] at h3 ⊢;rw [<- hg2] at h2 ⊢;rw [<- hg1] at h1 ⊢;obtain ⟨va5,hva5⟩:∃ v,v=va1:=⟨_,rfl⟩
 obtain ⟨vc5,hvc5⟩:∃ v,v=vc1:=⟨_,rfl⟩
 rw [<- hva5] at h0 hR5 hP5 hvv hn5;rw [<- hvc5] at h0 hR5;have hV5:VecX (Yr (Zk Z w.heap.size 4) ra va5) w5 ⟨a1,c1,none,0⟩ (varP x.vars.length,[]):=⟨hP5,PolX.nil⟩
 replace hR5:=Hd hR5;replace hV5:=Hd hV5;replace hf5:=Hd hf5;replace hva5:=Hd hva5;replace hvc5:=Hd hvc5;clear hZ0 hZ3 n0 n3 hP5 hZ5;obtain ⟨b00,b01⟩:=cq2 h0;obtain ⟨b30,b31⟩:=cq2 h3;obtain ⟨L,hL⟩:∃ L:List (Addr × Value),L=[(⟨w.heap.size,0,none⟩,.slice ra hs.length rc),(⟨w.heap.size,1,none⟩,.slice va5 (x.vars.length+1) vc5),(⟨g3,0,none⟩,.slice a1 (varP x.vars.length).length c1),(⟨g3,1,none⟩,.slice none 0 0)]:=⟨_,rfl⟩
 have y0:∀ W,Cs L W->W.cell? ⟨w.heap.size,0,none⟩=some (.slice ra hs.length rc):=fun W h=>h _ _ (by rw [hL];simp)
 have y1:∀ W,Cs L W->W.cell? ⟨w.heap.size,1,none⟩=some (.slice va5 (x.vars.length+1) vc5):=fun W h=>h _ _ (by rw [hL];simp)
 have y2:∀ W,Cs L W->W.cell? ⟨g3,0,none⟩=some (.slice a1 (varP x.vars.length).length c1):=fun W h=>h _ _ (by rw [hL];simp)
 have y3:∀ W,Cs L W->W.cell? ⟨g3,1,none⟩=some (.slice none 0 0):=fun W h=>h _ _ (by rw [hL];simp)
 have hne:∀ p v,(p,v)∈L->p.block≠g1:=by
  rw [hL];intro p v hm;simp only [List.mem_cons,List.not_mem_nil,or_false,Prod.mk.injEq] at hm;rcases hm with ⟨rfl,_⟩ | ⟨rfl,_⟩ | ⟨rfl,_⟩ | ⟨rfl,_⟩ <;> (dsimp only;omega)
 have s0:Cs L w5.drew:=by
  exact zz53
 obtain ⟨k10,k11⟩:=cq2 h1;obtain ⟨f10,f11⟩:=fq2 h1;have l1:=h1.lt;obtain ⟨k20,k21⟩:=cq2 h2;obtain ⟨f20,f21⟩:=fq2 h2;have l2:=h2.lt;have q1:w.heap.size<=g1:=oo
 have q2:w.heap.size<=g2:=oo
 have hZ1:Zk Z w.heap.size 4 g1:=.inr oo;have hZ2:Zk Z w.heap.size 4 g2:=.inr oo;have n1:¬ Yv ra va5 g1:=hn5.out g1 q1 oo;have n2:¬ Yv ra va5 g2:=hn5.out g2 q2 oo;have d12:g1≠g2:=oo
 have hLh:=Hd hL;have hneh:=Hd hne;replace hg1:=Hd hg1;replace hg2:=Hd hg2;replace hg3:=Hd hg3;have h1h:=Hd h1;have h2h:=Hd h2;replace hZ1:=Hd hZ1;replace hZ2:=Hd hZ2;replace n1:=Hd n1;replace n2:=Hd n2;clear h0 h1 h2 h3 b00 b01 b30 b31 hL hne;refine wrx (S:=Cs L) [(0,.q),(1,.q),(2,.l),(3,.t)] (s0) ?_
 iterate 2 (refine qaf rfl rfl fun K hK=>xq ?_;go_simp;refine hK _ _ ?_;clear hK K)
 refine vl fun K hK=>?_
 go_simp;refine hK.out _ _ ((s0.setc hneh.out).setc hneh.out) (fun _=>?_);clear hK K;refine vt fun K hK=>?_
 go_simp;refine hK.out _ _ ?_;clear hK K;refine qad ?_;clear k10 k11 f10 f11 l1 k20 k21 f20 f21 l2 s0 y0 y1 y2 y3;go_wp2;refine qaa (fun W=>Blk W g1 37 #[.slice ra hs.length rc,.slice va5 (x.vars.length+1) vc5]/\Blk W g2 120 #[.slice a1 (varP x.vars.length).length c1,.slice none 0 0]/\Rst Z W B ⟨x.vars++[(1,step,0)],x.coords,x.free⟩ hs ra rc va5 vc5/\VecX (Yr Z ra va5) W ⟨a1,c1,none,0⟩ (varP x.vars.length,[])/\Fr (Yv ra va) w W) ⟨?_,?_,?_,?_,?_⟩ ?_
 ·
  have a:=h1h.out
  exact bk
 ·
  have a:=h2h.out
  exact bk
 · exact (((((hR5.out.set_ hZ1.out n1.out).set_ hZ1.out n1.out).set_ hZ2.out n2.out).set_ hZ2.out n2.out).less fun b hb=>.inl hb).call (brf.drew)
 ·
  exact zz52
 · exact ((((hf5.out.setc (.inr q1)).setc (.inr q1)).setc (.inr q2)).setc (.inr q2)).call (brf.drew)
 rintro w6 ⟨hF1,hF2,hR6,hV6,hf6⟩;obtain ⟨e0,e1⟩:=cq2 hF1;obtain ⟨e2,e3⟩:=cq2 hF2;refine bodyPost_ret (v:=.tuple #[.agg #[.slice ra hs.length rc,.slice va5 (x.vars.length+1) vc5],.agg #[.slice a1 (varP x.vars.length).length c1,.slice none 0 0]]) (by simp [results,Tryz.results93,go_sem,e0,e1,e2,e3]) rfl ?_;exact ⟨va5,vc5,⟨a1,c1,none,0⟩,by simp,hR6,hV6,hf6,hvv.out⟩
theorem zz55 {P:Prop} (h:P:=by
 rcases hb with hb | ⟨g,hg,rfl⟩
 · exact .inl (.inl hb)
 ·
  rcases hvv.out g hg with e | e
  · exact .inl (.inr ⟨g,e,rfl⟩)
  · exact .inr e
 ):P:=h
theorem qhq (Z:Nat->Prop) (B:Nat) (x:Frm) (hs:List (VQ × Vec)) (ra va:Option Addr) (rc vc:Nat) (step:Int) (number:Int) (n1:0<=number) (n2:number<=1000) (w:World) (hR:Rst Z w B x hs ra rc va vc) (hl:x.vars.length<=900) (hZ:∀ b,Z b->b<w.heap.size) (hBw:B<=w.heap.size) :
  Calls Tryz.prog 98 #[.agg #[.slice ra hs.length rc,.slice va x.vars.length vc],.int .i64 step,.int .i64 number] w (qdv Z B x (x.vars++[(2,step,number),(2,step,number+1)],(varP x.vars.length,varP (x.vars.length+1))) hs ra rc va w):=by
 have HR:=Hd hR;have HZ:=Hd hZ;have hn0:∀ g,w.heap.size<=g->¬ Yv ra va g:=fun g hg h=>by have:=hR.lt _ h;omega
 replace hn0:=Hd hn0;clear hR hZ;go_enter Tryz.func98,Tryz.ntmps98;go_wp2_with fail
 refine qae (fun W=>Blk W w.heap.size 37 #[.slice ra hs.length rc,.slice va x.vars.length vc]/\Blk W (w.heap.size+1) 37 #[.slice none 0 0,.slice none 0 0]/\Blk W (w.heap.size+1+1) 120 #[.slice none 0 0,.slice none 0 0]/\Blk W (w.heap.size+1+1+1) 120 #[.slice none 0 0,.slice none 0 0]/\Below w.heap.size w W) ⟨bk,bk,bk,bk,zg⟩ ?_
 rintro w4 ⟨h0,h1,h2,h3,hw4⟩;have hl4:=h3.lt;have hR4:Rst (Zk Z w.heap.size 4) w4 B x hs ra rc va vc:=(HR.out.more (qed (nlr _))).call hw4;have hZ4:∀ b,Zk Z w.heap.size 4 b->b<w4.heap.size:=zk_lt HZ.out hw4.size oo;refine (qdj (Zk Z w.heap.size 4) B x hs ra va rc vc 2 step number w4 hR4 oo hZ4 (by have:=hw4.size;omega)).mono ?_;rintro e w5 ⟨va1,vc1,a1,c1,rfl,hR5,hP5,hf4,hv4⟩;replace h0:=h0.fr hf4 (hn0.out _ oo);replace h1:=h1.fr hf4 (hn0.out _ oo);replace h2:=h2.fr hf4 (hn0.out _ oo);replace h3:=h3.fr hf4 (hn0.out _ oo);have hf5:Fr (Yv ra va) w w5:=(Fr.below hw4).trans hf4;have hn5:∀ g,w.heap.size<=g->g<w.heap.size+4->¬ Yv ra va1 g:=fun g hg1 hg2=>qce (hn0.out g hg1) hv4 oo
 have hvv:∀ g,va1=some g->va=some g\/w.heap.size<=g.block:=fun g hg=>by
  exact zz54
 have hZ5:∀ b,Zk Z w.heap.size 4 b->b<w5.heap.size:=fun b hb=>ltl (hZ4 b hb) hf4.size
 obtain ⟨k00,k01⟩:=cq2 h0;obtain ⟨f00,f01⟩:=fq2 h0;have l0:=h0.lt;obtain ⟨k30,k31⟩:=cq2 h3;obtain ⟨f30,f31⟩:=fq2 h3;have l3:=h3.lt;have h0h:=Hd h0;have h1h:=Hd h1;have h2h:=Hd h2;have h3h:=Hd h3;have hZ0:Zk Z w.heap.size 4 w.heap.size:=.inr oo;have hZ3:Zk Z w.heap.size 4 (w.heap.size+1+1+1):=.inr oo;have n0:=hn5 w.heap.size oo oo;have n3:=hn5 (w.heap.size+1+1+1) oo oo;replace hR5:=Hd hR5;replace hP5:=Hd hP5;replace hf5:=Hd hf5;replace hvv:=Hd hvv;replace hn5:=Hd hn5;replace hZ5:=Hd hZ5;replace hZ0:=Hd hZ0;replace hZ3:=Hd hZ3;replace n0:=Hd n0;replace n3:=Hd n3;clear h0 h1 h2 h3 hw4 hl4 hR4 hZ4 hf4 hv4;go_wp2_with fail
 refine qae (fun W=>Blk W w.heap.size 37 #[.slice ra hs.length rc,.slice va1 (x.vars.length+1) vc1]/\Blk W (w.heap.size+1) 37 #[.slice none 0 0,.slice none 0 0]/\Blk W (w.heap.size+1+1) 120 #[.slice none 0 0,.slice none 0 0]/\Blk W (w.heap.size+1+1+1) 120 #[.slice a1 (varP x.vars.length).length c1,.slice none 0 0]/\Rst (Zk Z w.heap.size 4) W B ⟨x.vars++[(2,step,number)],x.coords,x.free⟩ hs ra rc va1 vc1/\PolX (Yr (Zk Z w.heap.size 4) ra va1) W a1 c1 (varP x.vars.length)/\Fr (Yv ra va) w W/\(∀ b,Zk Z w.heap.size 4 b->b<W.heap.size)) ⟨by have a:=h0h.out;exact bk,by have a:=h1h.out;exact bk,by have a:=h2h.out;exact bk,by have a:=h3h.out;exact bk,?_,?_,?_,?_⟩ ?_
 · exact ((hR5.out.set_ hZ0.out n0.out).set_ hZ0.out n0.out).set_ hZ3.out n3.out
 · exact ((hP5.out.step (Agr.setc (.inr hZ0.out) (Agr.refl _ _))).step (Agr.setc (.inr hZ0.out) (Agr.refl _ _))).step (Agr.setc (.inr hZ3.out) (Agr.refl _ _))
 · exact ((hf5.out.setc (.inr oo)).setc (.inr oo)).setc (.inr oo)
 ·
  intro b hb;simp only [World.size_setCell];exact hZ5.out b hb
 clear k00 k01 f00 f01 l0 k30 k31 f30 f31 l3 h0h h1h h2h h3h hR5 hP5 hf5;rintro w6 ⟨h0,h1,h2,h3,hR6,hP6,hf6,hZ6⟩;have hl6:=h3.lt;have hln:(x.vars++[((2:Int),step,(number:Int))]).length=x.vars.length+1:=by simp
 have C2:=qdj (Zk Z w.heap.size 4) B ⟨x.vars++[(2,step,number)],x.coords,x.free⟩ hs ra va1 rc vc1 2 step (number+1) w6 hR6 (by dsimp only;omega) hZ6 (by have:=hf6.size;omega);unfold qpi at C2;dsimp only at C2;rw [hln,List.append_assoc] at C2;refine C2.mono ?_;rintro e w7 ⟨va5,vc5,a2,c2,rfl,hR7,hP7,hf7,hv7⟩;have m0:=hn5.out;replace h0:=h0.fr hf7 (m0 _ oo oo);replace h1:=h1.fr hf7 (m0 _ oo oo);replace h2:=h2.fr hf7 (m0 _ oo oo);replace h3:=h3.fr hf7 (m0 _ oo oo);have hP1:=hP6.move (qrk (Z:=Zk Z w.heap.size 4) (ra:=ra) hv7) (hf7.mono fun b hb=>.inl hb);have hf8:Fr (Yv ra va) w w7:=hf6.then_ hf7 fun b hb=>by
  exact zz55
 have hn7:∀ g,w.heap.size<=g->g<w.heap.size+4->¬ Yv ra va5 g:=fun g hg1 hg2=>qce (m0 g hg1 hg2) hv7 oo
 have hvv7:∀ g,va5=some g->va=some g\/w.heap.size<=g.block:=fun g hg=>by
  have:=hf6.size;rcases hv7 g hg with e | e
  · exact hvv.out g e
  · exact .inr oo
 obtain ⟨k00,k01⟩:=cq2 h0;obtain ⟨f00,f01⟩:=fq2 h0;have l0:=h0.lt;obtain ⟨k30,k31⟩:=cq2 h3;obtain ⟨f30,f31⟩:=fq2 h3;have l3:=h3.lt;have h0h:=Hd h0;have h1h:=Hd h1;have h2h:=Hd h2;have h3h:=Hd h3;have p0:=hn7 w.heap.size oo oo;have p3:=hn7 (w.heap.size+1+1+1) oo oo;replace hR7:=Hd hR7;replace hP7:=Hd hP7;replace hP1:=Hd hP1;replace hf8:=Hd hf8;replace p0:=Hd p0;replace p3:=Hd p3;replace hn7:=Hd hn7;replace hvv7:=Hd hvv7;clear h0 h1 h2 h3 hR6 hP6 hf6 hl6 hf7 hv7 m0 C2 hln hvv hn5 hZ5 hZ6;go_wp2
 refine qaa (fun W=>Blk W w.heap.size 37 #[.slice ra hs.length rc,.slice va5 (x.vars.length+1+1) vc5]/\Blk W (w.heap.size+1) 37 #[.slice none 0 0,.slice none 0 0]/\Blk W (w.heap.size+1+1) 120 #[.slice none 0 0,.slice none 0 0]/\Blk W (w.heap.size+1+1+1) 120 #[.slice a1 (varP x.vars.length).length c1,.slice a2 (varP (x.vars.length+1)).length c2]/\Rst (Zk Z w.heap.size 4) W B ⟨x.vars++[(2,step,number),(2,step,(number+1))],x.coords,x.free⟩ hs ra rc va5 vc5/\VecX (Yr (Zk Z w.heap.size 4) ra va5) W ⟨a1,c1,a2,c2⟩ (varP x.vars.length,varP (x.vars.length+1))/\Fr (Yv ra va) w W) ⟨by have a:=h0h.out;exact bk,by have a:=h1h.out;exact bk,by have a:=h2h.out;exact bk,by have a:=h3h.out;exact bk,?_,?_,?_⟩ ?_
 · exact ((hR7.out.set_ hZ0.out p0.out).set_ hZ0.out p0.out).set_ hZ3.out p3.out
 · exact VecX.step (VecX.step (VecX.step (w:=w7) ⟨hP1.out,hP7.out⟩ (Agr.setc (.inr hZ0.out) (Agr.refl _ _))) (Agr.setc (.inr hZ0.out) (Agr.refl _ _))) (Agr.setc (.inr hZ3.out) (Agr.refl _ _))
 · exact ((hf8.out.setc (.inr oo)).setc (.inr oo)).setc (.inr oo)
 clear k00 k01 f00 f01 l0 k30 k31 f30 f31 l3 h0h h1h h2h h3h hR7 hP7 hP1 hf8;rintro w5 ⟨h0,h1,h2,h3,hR5,hV5,hf5⟩;have hl5:=h3.lt;have hvv:=hvv7;have hn5:=hn7;obtain ⟨g1,hg1⟩:∃ g,g=w.heap.size+1:=⟨_,rfl⟩
 obtain ⟨g2,hg2⟩:∃ g,g=w.heap.size+1+1:=⟨_,rfl⟩
 obtain ⟨g3,hg3⟩:∃ g,g=w.heap.size+1+1+1:=⟨_,rfl⟩
 rw [<- hg3] at h3 ⊢;rw [<- hg2] at h2 ⊢;rw [<- hg1] at h1 ⊢;replace hR5:=Hd hR5;replace hV5:=Hd hV5;replace hf5:=Hd hf5;clear hZ0 hZ3;obtain ⟨b00,b01⟩:=cq2 h0;obtain ⟨b30,b31⟩:=cq2 h3;obtain ⟨L,hL⟩:∃ L:List (Addr × Value),L=[(⟨w.heap.size,0,none⟩,.slice ra hs.length rc),(⟨w.heap.size,1,none⟩,.slice va5 (x.vars.length+1+1) vc5),(⟨g3,0,none⟩,.slice a1 (varP x.vars.length).length c1),(⟨g3,1,none⟩,.slice a2 (varP (x.vars.length+1)).length c2)]:=⟨_,rfl⟩
 have y0:∀ W,Cs L W->W.cell? ⟨w.heap.size,0,none⟩=some (.slice ra hs.length rc):=fun W h=>h _ _ (by rw [hL];simp)
 have y1:∀ W,Cs L W->W.cell? ⟨w.heap.size,1,none⟩=some (.slice va5 (x.vars.length+1+1) vc5):=fun W h=>h _ _ (by rw [hL];simp)
 have y2:∀ W,Cs L W->W.cell? ⟨g3,0,none⟩=some (.slice a1 (varP x.vars.length).length c1):=fun W h=>h _ _ (by rw [hL];simp)
 have y3:∀ W,Cs L W->W.cell? ⟨g3,1,none⟩=some (.slice a2 (varP (x.vars.length+1)).length c2):=fun W h=>h _ _ (by rw [hL];simp)
 have hne:∀ p v,(p,v)∈L->p.block≠g1:=by
  rw [hL];intro p v hm;simp only [List.mem_cons,List.not_mem_nil,or_false,Prod.mk.injEq] at hm;rcases hm with ⟨rfl,_⟩ | ⟨rfl,_⟩ | ⟨rfl,_⟩ | ⟨rfl,_⟩ <;> (dsimp only;omega)
 have s0:Cs L w5.drew:=by
  exact zz53
 obtain ⟨k10,k11⟩:=cq2 h1;obtain ⟨f10,f11⟩:=fq2 h1;have l1:=h1.lt;obtain ⟨k20,k21⟩:=cq2 h2;obtain ⟨f20,f21⟩:=fq2 h2;have l2:=h2.lt;have q1:w.heap.size<=g1:=oo
 have q2:w.heap.size<=g2:=oo
 have hZ1:Zk Z w.heap.size 4 g1:=.inr oo;have hZ2:Zk Z w.heap.size 4 g2:=.inr oo;have n1:¬ Yv ra va5 g1:=hn5.out g1 q1 oo;have n2:¬ Yv ra va5 g2:=hn5.out g2 q2 oo;have d12:g1≠g2:=oo
 have hLh:=Hd hL;have hneh:=Hd hne;replace hg1:=Hd hg1;replace hg2:=Hd hg2;replace hg3:=Hd hg3;have h1h:=Hd h1;have h2h:=Hd h2;replace hZ1:=Hd hZ1;replace hZ2:=Hd hZ2;replace n1:=Hd n1;replace n2:=Hd n2;clear h0 h1 h2 h3 b00 b01 b30 b31 hL hne;refine wrx (S:=Cs L) [(0,.q),(1,.q),(2,.l),(3,.t)] (s0) ?_
 iterate 2 (refine qaf rfl rfl fun K hK=>xq ?_;go_simp;refine hK _ _ ?_;clear hK K)
 refine vl fun K hK=>?_
 go_simp;refine hK.out _ _ ((s0.setc hneh.out).setc hneh.out) (fun _=>?_);clear hK K;refine vt fun K hK=>?_
 go_simp;refine hK.out _ _ ?_;clear hK K;refine qad ?_;clear k10 k11 f10 f11 l1 k20 k21 f20 f21 l2 s0 y0 y1 y2 y3;go_wp2;refine qaa (fun W=>Blk W g1 37 #[.slice ra hs.length rc,.slice va5 (x.vars.length+1+1) vc5]/\Blk W g2 120 #[.slice a1 (varP x.vars.length).length c1,.slice a2 (varP (x.vars.length+1)).length c2]/\Rst Z W B ⟨x.vars++[(2,step,number),(2,step,number+1)],x.coords,x.free⟩ hs ra rc va5 vc5/\VecX (Yr Z ra va5) W ⟨a1,c1,a2,c2⟩ (varP x.vars.length,varP (x.vars.length+1))/\Fr (Yv ra va) w W) ⟨?_,?_,?_,?_,?_⟩ ?_
 ·
  have a:=h1h.out
  exact bk
 ·
  have a:=h2h.out
  exact bk
 · exact (((((hR5.out.set_ hZ1.out n1.out).set_ hZ1.out n1.out).set_ hZ2.out n2.out).set_ hZ2.out n2.out).less fun b hb=>.inl hb).call (brf.drew)
 ·
  exact zz52
 · exact ((((hf5.out.setc (.inr q1)).setc (.inr q1)).setc (.inr q2)).setc (.inr q2)).call (brf.drew)
 rintro w6 ⟨hF1,hF2,hR6,hV6,hf6⟩;obtain ⟨e0,e1⟩:=cq2 hF1;obtain ⟨e2,e3⟩:=cq2 hF2;refine bodyPost_ret (v:=.tuple #[.agg #[.slice ra hs.length rc,.slice va5 (x.vars.length+1+1) vc5],.agg #[.slice a1 (varP x.vars.length).length c1,.slice a2 (varP (x.vars.length+1)).length c2]]) (by simp [results,Tryz.results98,go_sem,e0,e1,e2,e3]) rfl ?_;exact ⟨va5,vc5,⟨a1,c1,a2,c2⟩,by simp,hR6,hV6,hf6,hvv.out⟩
theorem qto (Z:Nat->Prop) (B:Nat) (x:Frm) (hs:List (VQ × Vec)) (ra va:Option Addr) (rc vc:Nat) (step:Int) (bf:Int) (b1:1<bf) (w:World) (hR:Rst Z w B x hs ra rc va vc) (hl:x.vars.length<=900) (hZ:∀ b,Z b->b<w.heap.size) (hBw:B<=w.heap.size) :
  Calls Tryz.prog 93 #[.agg #[.slice ra hs.length rc,.slice va x.vars.length vc],.int .i64 step,.int .i64 bf] w (qdv Z B x (x.vars++[(1,step,0),(1,step,1)],(varP x.vars.length,varP (x.vars.length+1))) hs ra rc va w):=by
 have b0:0<bf:=oo
 have HR:=Hd hR;have HZ:=Hd hZ;have hn0:∀ g,w.heap.size<=g->¬ Yv ra va g:=fun g hg h=>by have:=hR.lt _ h;omega
 replace hn0:=Hd hn0;clear hR hZ;go_enter Tryz.func93,Tryz.ntmps93;go_wp2_with fail
 refine qae (fun W=>Blk W w.heap.size 37 #[.slice ra hs.length rc,.slice va x.vars.length vc]/\Blk W (w.heap.size+1) 37 #[.slice none 0 0,.slice none 0 0]/\Blk W (w.heap.size+1+1) 120 #[.slice none 0 0,.slice none 0 0]/\Blk W (w.heap.size+1+1+1) 120 #[.slice none 0 0,.slice none 0 0]/\Below w.heap.size w W) ⟨bk,bk,bk,bk,zg⟩ ?_
 rintro w4 ⟨h0,h1,h2,h3,hw4⟩;have hl4:=h3.lt;have hR4:Rst (Zk Z w.heap.size 4) w4 B x hs ra rc va vc:=(HR.out.more (qed (nlr _))).call hw4;have hZ4:∀ b,Zk Z w.heap.size 4 b->b<w4.heap.size:=zk_lt HZ.out hw4.size oo;refine (qdj (Zk Z w.heap.size 4) B x hs ra va rc vc 1 step 0 w4 hR4 oo hZ4 (by have:=hw4.size;omega)).mono ?_;rintro e w5 ⟨va1,vc1,a1,c1,rfl,hR5,hP5,hf4,hv4⟩;replace h0:=h0.fr hf4 (hn0.out _ oo);replace h1:=h1.fr hf4 (hn0.out _ oo);replace h2:=h2.fr hf4 (hn0.out _ oo);replace h3:=h3.fr hf4 (hn0.out _ oo);have hf5:Fr (Yv ra va) w w5:=(Fr.below hw4).trans hf4;have hn5:∀ g,w.heap.size<=g->g<w.heap.size+4->¬ Yv ra va1 g:=fun g hg1 hg2=>qce (hn0.out g hg1) hv4 oo
 have hvv:∀ g,va1=some g->va=some g\/w.heap.size<=g.block:=fun g hg=>by
  exact zz54
 have hZ5:∀ b,Zk Z w.heap.size 4 b->b<w5.heap.size:=fun b hb=>ltl (hZ4 b hb) hf4.size
 obtain ⟨k00,k01⟩:=cq2 h0;obtain ⟨f00,f01⟩:=fq2 h0;have l0:=h0.lt;obtain ⟨k30,k31⟩:=cq2 h3;obtain ⟨f30,f31⟩:=fq2 h3;have l3:=h3.lt;have h0h:=Hd h0;have h1h:=Hd h1;have h2h:=Hd h2;have h3h:=Hd h3;have hZ0:Zk Z w.heap.size 4 w.heap.size:=.inr oo;have hZ3:Zk Z w.heap.size 4 (w.heap.size+1+1+1):=.inr oo;have n0:=hn5 w.heap.size oo oo;have n3:=hn5 (w.heap.size+1+1+1) oo oo;replace hR5:=Hd hR5;replace hP5:=Hd hP5;replace hf5:=Hd hf5;replace hvv:=Hd hvv;replace hn5:=Hd hn5;replace hZ5:=Hd hZ5;replace hZ0:=Hd hZ0;replace hZ3:=Hd hZ3;replace n0:=Hd n0;replace n3:=Hd n3;clear h0 h1 h2 h3 hw4 hl4 hR4 hZ4 hf4 hv4;go_wp2_with fail
 refine qae (fun W=>Blk W w.heap.size 37 #[.slice ra hs.length rc,.slice va1 (x.vars.length+1) vc1]/\Blk W (w.heap.size+1) 37 #[.slice none 0 0,.slice none 0 0]/\Blk W (w.heap.size+1+1) 120 #[.slice none 0 0,.slice none 0 0]/\Blk W (w.heap.size+1+1+1) 120 #[.slice a1 (varP x.vars.length).length c1,.slice none 0 0]/\Rst (Zk Z w.heap.size 4) W B ⟨x.vars++[(1,step,0)],x.coords,x.free⟩ hs ra rc va1 vc1/\PolX (Yr (Zk Z w.heap.size 4) ra va1) W a1 c1 (varP x.vars.length)/\Fr (Yv ra va) w W/\(∀ b,Zk Z w.heap.size 4 b->b<W.heap.size)) ⟨by have a:=h0h.out;exact bk,by have a:=h1h.out;exact bk,by have a:=h2h.out;exact bk,by have a:=h3h.out;exact bk,?_,?_,?_,?_⟩ ?_
 · exact ((hR5.out.set_ hZ0.out n0.out).set_ hZ0.out n0.out).set_ hZ3.out n3.out
 · exact ((hP5.out.step (Agr.setc (.inr hZ0.out) (Agr.refl _ _))).step (Agr.setc (.inr hZ0.out) (Agr.refl _ _))).step (Agr.setc (.inr hZ3.out) (Agr.refl _ _))
 · exact ((hf5.out.setc (.inr oo)).setc (.inr oo)).setc (.inr oo)
 ·
  intro b hb;simp only [World.size_setCell];exact hZ5.out b hb
 clear k00 k01 f00 f01 l0 k30 k31 f30 f31 l3 h0h h1h h2h h3h hR5 hP5 hf5;rintro w6 ⟨h0,h1,h2,h3,hR6,hP6,hf6,hZ6⟩;have hl6:=h3.lt;have hln:(x.vars++[((1:Int),step,(0:Int))]).length=x.vars.length+1:=by simp
 have C2:=qdj (Zk Z w.heap.size 4) B ⟨x.vars++[(1,step,0)],x.coords,x.free⟩ hs ra va1 rc vc1 1 step 1 w6 hR6 (by dsimp only;omega) hZ6 (by have:=hf6.size;omega);unfold qpi at C2;dsimp only at C2;rw [hln,List.append_assoc] at C2;refine C2.mono ?_;rintro e w7 ⟨va5,vc5,a2,c2,rfl,hR7,hP7,hf7,hv7⟩;have m0:=hn5.out;replace h0:=h0.fr hf7 (m0 _ oo oo);replace h1:=h1.fr hf7 (m0 _ oo oo);replace h2:=h2.fr hf7 (m0 _ oo oo);replace h3:=h3.fr hf7 (m0 _ oo oo);have hP1:=hP6.move (qrk (Z:=Zk Z w.heap.size 4) (ra:=ra) hv7) (hf7.mono fun b hb=>.inl hb);have hf8:Fr (Yv ra va) w w7:=hf6.then_ hf7 fun b hb=>by
  exact zz55
 have hn7:∀ g,w.heap.size<=g->g<w.heap.size+4->¬ Yv ra va5 g:=fun g hg1 hg2=>qce (m0 g hg1 hg2) hv7 oo
 have hvv7:∀ g,va5=some g->va=some g\/w.heap.size<=g.block:=fun g hg=>by
  have:=hf6.size;rcases hv7 g hg with e | e
  · exact hvv.out g e
  · exact .inr oo
 obtain ⟨k00,k01⟩:=cq2 h0;obtain ⟨f00,f01⟩:=fq2 h0;have l0:=h0.lt;obtain ⟨k30,k31⟩:=cq2 h3;obtain ⟨f30,f31⟩:=fq2 h3;have l3:=h3.lt;have h0h:=Hd h0;have h1h:=Hd h1;have h2h:=Hd h2;have h3h:=Hd h3;have p0:=hn7 w.heap.size oo oo;have p3:=hn7 (w.heap.size+1+1+1) oo oo;replace hR7:=Hd hR7;replace hP7:=Hd hP7;replace hP1:=Hd hP1;replace hf8:=Hd hf8;replace p0:=Hd p0;replace p3:=Hd p3;replace hn7:=Hd hn7;replace hvv7:=Hd hvv7;clear h0 h1 h2 h3 hR6 hP6 hf6 hl6 hf7 hv7 m0 C2 hln hvv hn5 hZ5 hZ6;go_wp2
 refine qaa (fun W=>Blk W w.heap.size 37 #[.slice ra hs.length rc,.slice va5 (x.vars.length+1+1) vc5]/\Blk W (w.heap.size+1) 37 #[.slice none 0 0,.slice none 0 0]/\Blk W (w.heap.size+1+1) 120 #[.slice none 0 0,.slice none 0 0]/\Blk W (w.heap.size+1+1+1) 120 #[.slice a1 (varP x.vars.length).length c1,.slice a2 (varP (x.vars.length+1)).length c2]/\Rst (Zk Z w.heap.size 4) W B ⟨x.vars++[(1,step,0),(1,step,1)],x.coords,x.free⟩ hs ra rc va5 vc5/\VecX (Yr (Zk Z w.heap.size 4) ra va5) W ⟨a1,c1,a2,c2⟩ (varP x.vars.length,varP (x.vars.length+1))/\Fr (Yv ra va) w W) ⟨by have a:=h0h.out;exact bk,by have a:=h1h.out;exact bk,by have a:=h2h.out;exact bk,by have a:=h3h.out;exact bk,?_,?_,?_⟩ ?_
 · exact ((hR7.out.set_ hZ0.out p0.out).set_ hZ0.out p0.out).set_ hZ3.out p3.out
 · exact VecX.step (VecX.step (VecX.step (w:=w7) ⟨hP1.out,hP7.out⟩ (Agr.setc (.inr hZ0.out) (Agr.refl _ _))) (Agr.setc (.inr hZ0.out) (Agr.refl _ _))) (Agr.setc (.inr hZ3.out) (Agr.refl _ _))
 · exact ((hf8.out.setc (.inr oo)).setc (.inr oo)).setc (.inr oo)
 clear k00 k01 f00 f01 l0 k30 k31 f30 f31 l3 h0h h1h h2h h3h hR7 hP7 hP1 hf8;rintro w5 ⟨h0,h1,h2,h3,hR5,hV5,hf5⟩;have hl5:=h3.lt;have hvv:=hvv7;have hn5:=hn7;obtain ⟨g1,hg1⟩:∃ g,g=w.heap.size+1:=⟨_,rfl⟩
 obtain ⟨g2,hg2⟩:∃ g,g=w.heap.size+1+1:=⟨_,rfl⟩
 obtain ⟨g3,hg3⟩:∃ g,g=w.heap.size+1+1+1:=⟨_,rfl⟩
 rw [<- hg3] at h3 ⊢;rw [<- hg2] at h2 ⊢;rw [<- hg1] at h1 ⊢;replace hR5:=Hd hR5;replace hV5:=Hd hV5;replace hf5:=Hd hf5;clear hZ0 hZ3;obtain ⟨b00,b01⟩:=cq2 h0;obtain ⟨b30,b31⟩:=cq2 h3;obtain ⟨L,hL⟩:∃ L:List (Addr × Value),L=[(⟨w.heap.size,0,none⟩,.slice ra hs.length rc),(⟨w.heap.size,1,none⟩,.slice va5 (x.vars.length+1+1) vc5),(⟨g3,0,none⟩,.slice a1 (varP x.vars.length).length c1),(⟨g3,1,none⟩,.slice a2 (varP (x.vars.length+1)).length c2)]:=⟨_,rfl⟩
 have y0:∀ W,Cs L W->W.cell? ⟨w.heap.size,0,none⟩=some (.slice ra hs.length rc):=fun W h=>h _ _ (by rw [hL];simp)
 have y1:∀ W,Cs L W->W.cell? ⟨w.heap.size,1,none⟩=some (.slice va5 (x.vars.length+1+1) vc5):=fun W h=>h _ _ (by rw [hL];simp)
 have y2:∀ W,Cs L W->W.cell? ⟨g3,0,none⟩=some (.slice a1 (varP x.vars.length).length c1):=fun W h=>h _ _ (by rw [hL];simp)
 have y3:∀ W,Cs L W->W.cell? ⟨g3,1,none⟩=some (.slice a2 (varP (x.vars.length+1)).length c2):=fun W h=>h _ _ (by rw [hL];simp)
 have hne:∀ p v,(p,v)∈L->p.block≠g1:=by
  rw [hL];intro p v hm;simp only [List.mem_cons,List.not_mem_nil,or_false,Prod.mk.injEq] at hm;rcases hm with ⟨rfl,_⟩ | ⟨rfl,_⟩ | ⟨rfl,_⟩ | ⟨rfl,_⟩ <;> (dsimp only;omega)
 have s0:Cs L w5.drew:=by
  exact zz53
 obtain ⟨k10,k11⟩:=cq2 h1;obtain ⟨f10,f11⟩:=fq2 h1;have l1:=h1.lt;obtain ⟨k20,k21⟩:=cq2 h2;obtain ⟨f20,f21⟩:=fq2 h2;have l2:=h2.lt;have q1:w.heap.size<=g1:=oo
 have q2:w.heap.size<=g2:=oo
 have hZ1:Zk Z w.heap.size 4 g1:=.inr oo;have hZ2:Zk Z w.heap.size 4 g2:=.inr oo;have n1:¬ Yv ra va5 g1:=hn5.out g1 q1 oo;have n2:¬ Yv ra va5 g2:=hn5.out g2 q2 oo;have d12:g1≠g2:=oo
 have hLh:=Hd hL;have hneh:=Hd hne;replace hg1:=Hd hg1;replace hg2:=Hd hg2;replace hg3:=Hd hg3;have h1h:=Hd h1;have h2h:=Hd h2;replace hZ1:=Hd hZ1;replace hZ2:=Hd hZ2;replace n1:=Hd n1;replace n2:=Hd n2;clear h0 h1 h2 h3 b00 b01 b30 b31 hL hne;refine wrx (S:=Cs L) [(0,.q),(1,.q),(2,.l),(3,.t)] (s0) ?_
 iterate 2 (refine qaf rfl rfl fun K hK=>xq ?_;go_simp;refine hK _ _ ?_;clear hK K)
 refine vl fun K hK=>?_
 go_simp;refine hK.out _ _ ((s0.setc hneh.out).setc hneh.out) (fun _=>?_);clear hK K;refine vt fun K hK=>?_
 go_simp;refine hK.out _ _ ?_;clear hK K;refine qad ?_;clear k10 k11 f10 f11 l1 k20 k21 f20 f21 l2 s0 y0 y1 y2 y3;go_wp2;refine qaa (fun W=>Blk W g1 37 #[.slice ra hs.length rc,.slice va5 (x.vars.length+1+1) vc5]/\Blk W g2 120 #[.slice a1 (varP x.vars.length).length c1,.slice a2 (varP (x.vars.length+1)).length c2]/\Rst Z W B ⟨x.vars++[(1,step,0),(1,step,1)],x.coords,x.free⟩ hs ra rc va5 vc5/\VecX (Yr Z ra va5) W ⟨a1,c1,a2,c2⟩ (varP x.vars.length,varP (x.vars.length+1))/\Fr (Yv ra va) w W) ⟨?_,?_,?_,?_,?_⟩ ?_
 ·
  have a:=h1h.out
  exact bk
 ·
  have a:=h2h.out
  exact bk
 · exact (((((hR5.out.set_ hZ1.out n1.out).set_ hZ1.out n1.out).set_ hZ2.out n2.out).set_ hZ2.out n2.out).less fun b hb=>.inl hb).call (brf.drew)
 ·
  exact zz52
 · exact ((((hf5.out.setc (.inr q1)).setc (.inr q1)).setc (.inr q2)).setc (.inr q2)).call (brf.drew)
 rintro w6 ⟨hF1,hF2,hR6,hV6,hf6⟩;obtain ⟨e0,e1⟩:=cq2 hF1;obtain ⟨e2,e3⟩:=cq2 hF2;refine bodyPost_ret (v:=.tuple #[.agg #[.slice ra hs.length rc,.slice va5 (x.vars.length+1+1) vc5],.agg #[.slice a1 (varP x.vars.length).length c1,.slice a2 (varP (x.vars.length+1)).length c2]]) (by simp [results,Tryz.results93,go_sem,e0,e1,e2,e3]) rfl ?_;exact ⟨va5,vc5,⟨a1,c1,a2,c2⟩,by simp,hR6,hV6,hf6,hvv.out⟩
theorem quk (Z:Nat->Prop) (B:Nat) (x:Frm) (hs:List (VQ × Vec)) (ra va:Option Addr) (rc vc:Nat) (step:Int) (w:World) (hR:Rst Z w B x hs ra rc va vc) (hl:x.vars.length<=900) (hZ:∀ b,Z b->b<w.heap.size) (hBw:B<=w.heap.size) :
  Calls Tryz.prog 93 #[.agg #[.slice ra hs.length rc,.slice va x.vars.length vc],.int .i64 step,.int .i64 x.free] w (qdv Z B x (qc0 x step) hs ra rc va w):=by
 by_cases h0:x.free=0
 ·
  have:=qtd Z B x hs ra va rc vc step w hR;rw [h0];simpa [qc0,h0] using this
 ·
  by_cases h1:x.free=1
  ·
   have:=qtp Z B x hs ra va rc vc step w hR hl hZ hBw;rw [h1];simpa [qc0,h1] using this
  ·
   have:=qto Z B x hs ra va rc vc step x.free oo w hR hl hZ hBw;simpa [qc0,h0,h1] using this
theorem Pok.take {B:Int} {p:List Tm} (h:Pok B p) (k:Nat):Pok B (p.take k):=⟨fun t ht=>h.1 t (List.mem_of_mem_take ht),h.2.sublist (List.take_sublist k p)⟩
theorem FineP.take {p:List Tm} (h:FineP p) (k:Nat):FineP (p.take k):=⟨Nat.le_trans (by rw [List.length_take];omega) h.1,fun v hv=>h.2 v (List.mem_of_mem_take hv)⟩
theorem qmi {B B':Int} {u:Tm} {d:List Tm} (hu:Pok B [u]) (hd:Pok B' d) (hB:0<=B) (hB':0<=B') (h:FineP (qaq d u)):(∀ k,FineP (mulP [u] (d.take k)))/\∀ t∈d,FineP (qaq [u] t):=by
 refine ⟨fun k=>?_,fun t ht=>?_⟩
 ·
  rw [qer hu (hd.take k) hB hB',qc3];have:qaq (d.take k) u=(qaq d u).take k:=by unfold qaq;rw [List.map_take]
  rw [this];exact h.take k
 ·
  have e:qaq [u] t=[(t.1*u.1,mulM t.2 u.2)]:=by
   unfold qaq;rw [List.map_cons,List.map_nil,qmj u.2 t.2,Rat.mul_comm u.1 t.1]
  rw [e];refine ⟨by simp,fun v hv=>?_⟩;rw [List.mem_singleton] at hv;subst hv;exact h.2 _ (List.mem_map.2 ⟨t,ht,rfl⟩)
theorem qms {B:Int} {d:List Tm} (hd:Pok B d) (hB:0<=B):(∀ k,FineP (mulP [] (d.take k)))/\∀ t∈d,FineP (qaq [] t):=by
 have h0:FineP []:=⟨by simp,fun u hu=>by cases hu⟩
 refine ⟨fun k=>?_,fun t _=>h0⟩;rw [qer (Pok.nil 0) (hd.take k) (Int.le_refl _) hB,qfk];exact h0
theorem qlf {B:Int} {d:List Tm} {q:Rat} (hd:Pok B d) (hB:0<=B) (h:FineP (qau d q)):(∀ k,FineP (mulP (qbg q) (d.take k)))/\∀ t∈d,FineP (qaq (qbg q) t):=by
 have hc:=qis q;unfold qbg at hc ⊢;by_cases h0:q=0
 ·
  rw [if_pos h0];exact qms hd hB
 ·
  rw [if_neg h0] at hc ⊢;refine qmi hc hd (Int.le_refl _) hB ?_;rw [qgh h0];exact h
theorem qmm {B:Int} {d:List Tm} {n:Nat} (hd:Pok B d) (hB:0<=B) (h:FineP (mulP d (varP n))):(∀ k,FineP (mulP (varP n) (d.take k)))/\∀ t∈d,FineP (qaq (varP n) t):=by
 have hc:=qel (n:=n) (B:=1) (Int.le_refl _);unfold varP at hc h ⊢;by_cases h0:n<64
 ·
  rw [if_pos h0] at hc h ⊢;rw [qc3] at h;exact qmi hc hd dd hB h
 ·
  rw [if_neg h0];exact qms hd hB
theorem qqe {q:Rat} (h:qsz q<=1000):FineP (qbg q):=by
 unfold qbg
 split
 · exact ⟨by simp,fun u hu=>by cases hu⟩
 ·
  next h0 =>
  refine ⟨by simp,fun u hu=>?_⟩;rw [List.mem_singleton] at hu;subst hu;exact ⟨Mok.nil _,h0,h⟩
def pickH (hs:List (VQ × Vec)) (args:List Int):List (VQ × Vec):=args.map fun a=>hs.getD a.toNat (⟨none,0,none,0⟩,([],[]))
theorem qbo (hs:List (VQ × Vec)) (args:List Int):(pickH hs args).length=args.length:=by simp [pickH]
theorem qfr {hs:List (VQ × Vec)} {args:List Int} {k:Nat} {a:Int} {z:VQ × Vec} (ha:args[k]? = some a) (hz:hs[a.toNat]? = some z):(pickH hs args)[k]? = some z:=by
 simp [pickH,ha,hz,List.getD_eq_getElem?_getD]
theorem qxi {hs:List (VQ × Vec)} {coords:List Vec} {args:List Int} (he:hs.map Prod.snd=coords) {k:Nat} (hk:k<args.length) (hr:∀ x∈args,0<=x/\x<coords.length):∃ q,(pickH hs args)[k]? = some (q,argF coords args k)/\(q,argF coords args k)∈hs:=by
 obtain ⟨j,q,h1,h2⟩:=qrs he hk hr;exact ⟨q,qfr h1 (by simpa using h2),List.mem_of_getElem? h2⟩
theorem qaa9 {α:Type} {f:α->List Value} {sz B c:Nat} {t:TypeId} {Y:Nat->Prop} {w w':World} {a:Option Addr} {l:List α} (h:Own f sz t B w a c l) (k:Fr Y w w') (hn:∀ g:Addr,a=some g->¬ Y g.block):Own f sz t B w' a c l:=by
 have e1:∀ g:Addr,a=some g->w'.heap[g.block]? = w.heap[g.block]?:=fun g hg=>k.block _ (h.lt hg).2 (hn g hg)
 rcases h with ⟨p,q⟩
 refine ⟨p,?_⟩;rcases q with q | ⟨g,c,cur,h1,h2,h3,h4⟩
 · exact .inl q
 ·
  refine .inr ⟨g,c,cur,h1,h2,?_,h4⟩;rw [<- h3];injection h1 with h1
  exact e1 _ h1
theorem zz56 {P:Prop} (h:P:=by
 have h29:=h2h.out.fr hf9 n2.out;have h39:=h3h.out.fr hf9 n3.out;have m2:¬ Yv ra va9 g2:=qce n2.out hv9 (by have:=h2h.out.lt;omega);have m3:¬ Yv ra va9 g3:=qce n3.out hv9 (by have:=h3h.out.lt;omega);obtain ⟨k20,k21⟩:=cq2 h29;obtain ⟨f20,f21⟩:=fq2 h29;have l2:=h29.lt;obtain ⟨k30,k31⟩:=cq2 h39;obtain ⟨f30,f31⟩:=fq2 h39;have l3:=h39.lt;have hfr:Fr (Yv ra va) w w9:=(Fr.below hwr).trans hf9;have hvv:∀ g,va9=some g->va=some g\/w.heap.size<=g.block:=fun g hg=>by
  have:=hwr.size;rcases hv9 g hg with e | e
  · exact .inl e
  · exact .inr oo
 have h29h:=Hd h29;have h39h:=Hd h39;replace hR9:=Hd hR9;replace hV9:=Hd hV9;replace hfr:=Hd hfr;replace hvv:=Hd hvv;replace m2:=Hd m2;replace m3:=Hd m3;clear h29 h39 hf9 hv9;go_wp2;clear k20 k21 f20 f21 l2 k30 k31 f30 f31 l3;refine qaa (fun W=>Blk W g2 37 #[.slice ra hs.length rc,.slice va9 PP9.1.length vc9]/\Blk W g3 120 #[.slice t.a PP9.2.1.length t.c,.slice t.b PP9.2.2.length t.d]/\Rst Z W B ⟨PP9.1,x.coords,x.free⟩ hs ra rc va9 vc9/\VecX (Yr Z ra va9) W t PP9.2/\Fr (Yv ra va) w W) ⟨?_,?_,?_,?_,?_⟩ ?_
 ·
  have a:=h29h.out
  exact bk
 ·
  have a:=h39h.out
  exact bk
 ·
  first
  | exact ((((hR9.out.set_ e2.out m2.out).set_ e2.out m2.out).set_ e3.out m3.out).set_ e3.out m3.out).less fun b hb=>.inl hb
  | exact (((((hR9.out.set_ e2.out m2.out).set_ e2.out m2.out).set_ e3.out m3.out).set_ e3.out m3.out).less fun b hb=>.inl hb).call (brf.drew)
 ·
  refine VecX.less (Y:=Yr (Zk Z w.heap.size 5) ra va9) ?_ fun b hb=>hb.imp id .inl
  exact (((hV9.out.step (Agr.setc (.inr e2.out) (Agr.refl _ _))).step (Agr.setc (.inr e2.out) (Agr.refl _ _))).step (Agr.setc (.inr e3.out) (Agr.refl _ _))).step (Agr.setc (.inr e3.out) (Agr.refl _ _))
 ·
  first
  | exact (((hfr.out.setc (.inr w2)).setc (.inr w2)).setc (.inr w3)).setc (.inr w3)
  | exact ((((hfr.out.setc (.inr w2)).setc (.inr w2)).setc (.inr w3)).setc (.inr w3)).call (brf.drew)
 rintro wZ ⟨hF1,hF2,hRZ,hVZ,hfZ⟩;obtain ⟨j0,j1⟩:=cq2 hF1;obtain ⟨j2,j3⟩:=cq2 hF2;refine bodyPost_ret (v:=.tuple #[.agg #[.slice ra hs.length rc,.slice va9 PP9.1.length vc9],.agg #[.slice t.a PP9.2.1.length t.c,.slice t.b PP9.2.2.length t.d]]) (by simp [results,Tryz.results59,go_sem,j0,j1,j2,j3]) rfl ?_;exact ⟨va9,vc9,t,rfl,hRZ,hVZ,hfZ,hvv.out⟩
 ):P:=h
theorem zz57 {P:Prop} (h:P:=by
 rw [<- hPe.out] at CC;refine CC.mono ?_;rintro e w9 ⟨va9,vc9,t,rfl,hR9,hV9,hf9,hv9⟩;clear x0 x1 k40 l0 l4 CC;exact zz56
 ):P:=h
theorem qia (Z:Nat->Prop) (B:Nat) (x:Frm) (hs:List (VQ × Vec)) (ra va:Option Addr) (rc vc:Nat) (pt:ByteArray) (aa na da ga:Option Addr) (ac nc dc sn sb so sc gl gc i rn rd:Nat) (neg:Bool) (args:List Int) (w:World) (hR:Rst Z w B x hs ra rc va vc) (hl:x.vars.length<=800) (hlh:hs.length<=1000) (hZ:∀ b,Z b->b<w.heap.size) (hBw:B<=w.heap.size) (hi:i<sn) (hsn:sn<=sc/\sc<=maxLen) (kind:Int) (hkk:kind=1\/kind=6\/7<=kind) (c0:w.cell? ⟨sb,so+i*6,none⟩=some (.int .i64 kind)) (c1:w.cell? ⟨sb,so+i*6+1,none⟩=some (.string pt)) (c2:w.cell? ⟨sb,so+i*6+2,none⟩=some (.slice aa args.length ac)) (c3:w.cell? ⟨sb,so+i*6+3,none⟩=some (.bool neg)) (c4:w.cell? ⟨sb,so+i*6+4,none⟩=some (.slice na rn nc)) (c5:w.cell? ⟨sb,so+i*6+5,none⟩=some (.slice da rd dc)) (hI:IntsR w aa ac args) (hal:args.length<=1000) (har:∀ a∈args,0<=a/\a<hs.length)  : Calls Tryz.prog 59 #[.agg #[.slice ra hs.length rc,.slice va x.vars.length vc],.agg #[.slice (some ⟨sb,so,none⟩) sn sc,.slice ga gl gc],.int .i64 i,.int .i64 x.free] w (qdv Z B x (if kind=1 then qc0 x i else if kind=6 then (x.vars++[(1,(i:Int),0),(2,(i:Int),1),(2,(i:Int),2)],(varP (x.vars.length+1),varP (x.vars.length+2))) else (x.vars++[(2,(i:Int),0),(2,(i:Int),1)],(varP x.vars.length,varP (x.vars.length+1)))) hs ra rc va w):=by
 obtain ⟨PP9,hPe⟩:∃ PP9:List Vr × Vec,PP9=(if kind=1 then qc0 x i else if kind=6 then (x.vars++[(1,(i:Int),0),(2,(i:Int),1),(2,(i:Int),2)],(varP (x.vars.length+1),varP (x.vars.length+2))) else (x.vars++[(2,(i:Int),0),(2,(i:Int),1)],(varP x.vars.length,varP (x.vars.length+1)))):=⟨_,rfl⟩
 rw [<- hPe];replace hPe:=Hd hPe;replace hkk:=Hd hkk;have HR:=Hd hR;have HZ:=Hd hZ;have HI:=Hd hI;have HA:=Hd har;have HL:=Hd hlh;have hn0:∀ g,w.heap.size<=g->¬ Yv ra va g:=fun g hg h=>by have:=hR.lt _ h;omega
 replace hn0:=Hd hn0;have hsb:sb<w.heap.size:=World.block_lt_of_cell? w _ c0;have hsb1:sb<w.heap.size+1:=oo
 have hsb2:sb<w.heap.size+1+1:=oo
 have hsb3:sb<w.heap.size+1+1+1:=oo
 have hsb4:sb<w.heap.size+1+1+1+1:=oo
 clear hR hZ hI har hlh;obtain ⟨sm1,sm2⟩:=hsn;go_enter Tryz.func59,Tryz.ntmps59;go_wp2
 refine qaa (fun W=>Blk W w.heap.size 37 #[.slice ra hs.length rc,.slice va x.vars.length vc]/\Blk W (w.heap.size+1) 25 #[.slice (some ⟨sb,so,none⟩) sn sc,.slice ga gl gc]/\Blk W (w.heap.size+1+1) 37 #[.slice none 0 0,.slice none 0 0]/\Blk W (w.heap.size+1+1+1) 120 #[.slice none 0 0,.slice none 0 0]/\Blk W (w.heap.size+1+1+1+1) 93 #[.int .i64 kind,.string pt,.slice aa args.length ac,.bool neg,.slice na rn nc,.slice da rd dc]/\Below w.heap.size w W) ⟨bk,bk,bk,bk,bk,zg⟩ ?_
 clear c0 c1 c2 c3 c4 c5 hsb hsb1 hsb2 hsb3 hsb4;rintro w1 ⟨h0,h1,h2,h3,h4,hw1⟩;obtain ⟨g1,hg1⟩:∃ g,g=w.heap.size+1:=⟨_,rfl⟩
 obtain ⟨g2,hg2⟩:∃ g,g=w.heap.size+1+1:=⟨_,rfl⟩
 obtain ⟨g3,hg3⟩:∃ g,g=w.heap.size+1+1+1:=⟨_,rfl⟩
 obtain ⟨g4,hg4⟩:∃ g,g=w.heap.size+1+1+1+1:=⟨_,rfl⟩
 obtain ⟨g0,hg0⟩:∃ g,g=w.heap.size:=⟨_,rfl⟩
 rw [<- hg4] at h4 ⊢;rw [<- hg3] at h3 ⊢;rw [<- hg2] at h2 ⊢;rw [<- hg1] at h1 ⊢;rw [<- hg0] at h0 ⊢;have hl4:=h4.lt;have o1:g0<g1:=oo
 have o2:g1<g2:=oo
 have o3:g2<g3:=oo
 have o4:g3<g4:=oo
 have ow:w.heap.size<=g0:=oo
 have o5:g4<w.heap.size+5:=oo
 replace hg0:=Hd hg0;replace hg1:=Hd hg1;replace hg2:=Hd hg2;replace hg3:=Hd hg3;replace hg4:=Hd hg4;have k40:=h4.cell 0;have k42:=h4.cell 2;clear hl4;go_wp2
 go_loopg [11,13,26] args.length (fun m l _ idx wr=>∃ (k:Nat) (la:Option Addr) (lc:Nat),Hid (k+m=args.length)/\l=.slice la k lc/\idx=.int .i64 k/\Hid (OwnCo (g4+1) wr la lc ((pickH hs args).take k))/\Below w.heap.size w wr/\Blk wr g0 37 #[.slice ra hs.length rc,.slice va x.vars.length vc]/\Blk wr g1 25 #[.slice (some ⟨sb,so,none⟩) sn sc,.slice ga gl gc]/\Blk wr g2 37 #[.slice none 0 0,.slice none 0 0]/\Blk wr g3 120 #[.slice none 0 0,.slice none 0 0]/\Blk wr g4 93 #[.int .i64 kind,.string pt,.slice aa args.length ac,.bool neg,.slice na rn nc,.slice da rd dc])
 case atStart=>exact ⟨0,none,0,by show _=_;omega,rfl,rfl,by rw [List.take_zero];exact Own.nil,hw1,h0,h1,h2,h3,h4⟩
 case round =>
  clear h0 h1 h2 h3 h4 hw1 k40 k42;obtain ⟨k,la,lc,hm,rfl,rfl,hO,hwr,h0,h1,h2,h3,h4⟩:=hrel;by_cases hlt:k<args.length
  ·
   obtain ⟨a,ha⟩:=qab hlt;obtain ⟨ab,ao,rfl,hae,_⟩:=(HI.out.ext (xbw hwr)).2.2 k a ha;obtain ⟨a1,a2⟩:=HA.out a (List.mem_of_getElem? ha);obtain ⟨z,hz⟩:=qab (show a.toNat<hs.length by omega);obtain ⟨rb,rfl,_,_,hzc⟩:=(HR.out.call hwr).co.at_ qbr hz;have hcz0:=hzc 0 _ rfl;have hcz1:=hzc 1 _ rfl;have hk':=qfr ha hz;obtain ⟨j,rfl⟩:∃ j:Nat,a=(j:Int):=⟨a.toNat,oo⟩
   rw [Int.toNat_natCast] at hcz0 hcz1 hz;rw [Nat.mul_one] at hae;rw [Nat.add_zero] at hcz0;have hjl:j<hs.length:=qai hz;have hlh:=HL.out;have hlen2:((pickH hs args).take k).length=k:=by rw [List.length_take,qbo];omega
   have z0:=h0.cell 0;have hzl:=h0.lt;have y4:=h4.lt;have hab:ab<wr.heap.size:=World.block_lt_of_cell? wr _ hae;have hrb:rb<wr.heap.size:=World.block_lt_of_cell? wr _ hcz0;replace hk':=Hd hk';replace hz:=Hd hz;replace hlen2:=Hd hlen2;replace ha:=Hd ha;replace hO:=Hd hO.out;have h0h:=Hd h0;have h1h:=Hd h1;have h2h:=Hd h2;have h3h:=Hd h3;have h4h:=Hd h4;clear hzc h0 h1 h2 h3 h4 a1 a2
   go_wp2_with (at_builtin;go_must (refine qaa (fun W=>Blk W wr.heap.size 120 #[.slice z.1.a z.2.1.length z.1.c,.slice z.1.b z.2.2.length z.1.d]/\Below wr.heap.size wr W) ⟨bk,zg⟩ ?_);rintro w2 ⟨hr2,hw2⟩;go_must (refine qay (B:=g4+1) rfl (.tmp 30) (.tmp 36) 34 rfl Tryz.underlying34 qhg rfl oo oo qbr la lc (by rw [hlen2.out];rfl) (hO.out.below hw2) z (qf8 _) wr.heap.size 1 rfl (fun j u hu=>by have e:=hr2.cell j;rw [e];simpa [coC] using hu) ((pickH hs args).take k++[z]) rfl (by rw [List.length_append,hlen2.out];simp;omega) (by have:=hw2.size;omega) ?_);intro la2 lc2 w3 ho3 hg3' ha3);have hwr2:=bth hwr hw2;have hlt2:=hw2.size;have hO2:=hO.out.below hw2
   have q0:=(h0h.out.below' hw2).under hO2 oo hg3';have q1:=(h1h.out.below' hw2).under hO2 oo hg3';have q2:=(h2h.out.below' hw2).under hO2 oo hg3';have q3:=(h3h.out.below' hw2).under hO2 oo hg3';have q4:=(h4h.out.below' hw2).under hO2 oo hg3';have hb3:=qal hwr2 (hO2.base (show w.heap.size<=g4+1 by omega)) hg3';rw [<- qbb hk'.out] at ho3;have hmin:min k (pickH hs args).length+1=k+1:=by rw [qbo];omega
   go_roundg (gk-1)
   case rel=>exact ⟨k+1,la2,lc2,by have:=hm.out;show _=_;omega,by rw [hmin],by go_num,ho3,hb3,q0,q1,q2,q3,q4⟩
   case measure=>have:=hm.out;omega
  ·
   have hk:k=args.length:=by have:=hm.out;omega
   have hO2:=hO.out;rw [List.take_of_length_le (by rw [qbo];omega)] at hO2;subst hk;replace hO2:=Hd hO2;have hR8:Rst (Zk Z w.heap.size 5) wr B x hs ra rc va vc:=(HR.out.more (qed (nlr _))).call hwr;have hZ8:∀ b,Zk Z w.heap.size 5 b->b<wr.heap.size:=zk_lt HZ.out hwr.size (by have:=h4.lt;have:=hg4.out;omega);have hB8:B<=wr.heap.size:=by have:=hwr.size;omega
   obtain ⟨x0,x1⟩:=cq2 h0;have k40:=h4.cell 0;have l0:=h0.lt;have l4:=h4.lt;have n2:¬ Yv ra va g2:=hn0.out g2 oo;have n3:¬ Yv ra va g3:=hn0.out g3 oo;have e2:Zk Z w.heap.size 5 g2:=.inr oo;have e3:Zk Z w.heap.size 5 g3:=.inr oo;have w2:w.heap.size<=g2:=oo
   have w3:w.heap.size<=g3:=oo
   have d23:g2≠g3:=oo
   have d32:g3≠g2:=oo
   have h2h:=Hd h2;have h3h:=Hd h3;have h0h:=Hd h0;have h4h:=Hd h4;replace hR8:=Hd hR8;replace hZ8:=Hd hZ8;replace n2:=Hd n2;replace n3:=Hd n3;replace e2:=Hd e2;replace e3:=Hd e3;clear h0 h1 h2 h3 h4 hm hO;rcases hkk.out with rfl | rfl | k7
   ·
    replace hPe:Hid (PP9=qc0 x i):=by have e:=hPe.out;rw [if_pos rfl] at e;exact e
    go_wp2_with fail;have CC:=quk (Zk Z w.heap.size 5) B x hs ra va rc vc i wr hR8.out oo hZ8.out hB8
    try rw [show ((0:Int)+1)=1 from rfl] at CC
    exact zz57
   ·
    replace hPe:Hid (PP9=(x.vars++[(1,(i:Int),0),(2,(i:Int),1),(2,(i:Int),2)],(varP (x.vars.length+1),varP (x.vars.length+2)))):=by have e:=hPe.out;rw [if_neg dd,if_pos rfl] at e;exact e
    go_wp2_with fail;refine (qdj (Zk Z w.heap.size 5) B x hs ra va rc vc 1 i 0 wr hR8.out oo hZ8.out hB8).mono ?_;rintro e wA ⟨vaA,vcA,aA,cA,rfl,hRA,_,hfA,hvA⟩;have hln:(x.vars++[((1:Int),(i:Int),(0:Int))]).length=x.vars.length+1:=by simp
    have CC:=fun W (hW:Below wA.heap.size wA W)=>qhq (Zk Z w.heap.size 5) B ⟨x.vars++[(1,(i:Int),0)],x.coords,x.free⟩ hs ra vaA rc vcA i 1 oo oo W (hRA.call hW) (by dsimp only;omega) (fun b hb=>ltl (hZ8.out b hb) (Nat.le_trans hfA.size hW.size)) (by have:=hfA.size;have:=hW.size;omega)
    unfold qdv at CC;dsimp only at CC;rw [hln] at CC;replace CC:=Hd CC;replace hfA:=Hd hfA;replace hvA:=Hd hvA;clear x0 x1 k40 l0 l4 hRA hln;go_wp2_with fail;refine qae (fun W=>Below wA.heap.size wA W) (by go_grown) ?_;intro wB hbB;refine (CC.out wB hbB).mono ?_;rintro e w9 ⟨va9,vc9,t,rfl,hR9,hV9,hf9,hv9⟩;have hv9:∀ g,va9=some g->va=some g\/wr.heap.size<=g.block:=fun g hg=>by
     have:=hfA.out.size;have:=hbB.size;rcases hv9 g hg with e | e
     · exact hvA.out g e
     · exact .inr oo
    have hf9:Fr (Yv ra va) wr w9:=((hfA.out).call hbB).then_ hf9 fun b hb=>by
     rcases hb with hb | ⟨g,hg,rfl⟩
     · exact .inl (.inl hb)
     ·
      rcases hvA.out g hg with e | e
      · exact .inl (.inr ⟨g,e,rfl⟩)
      · exact .inr e
    have eP:PP9=(x.vars++[(1,(i:Int),0)]++[(2,(i:Int),1),(2,(i:Int),1+1)],(varP (x.vars.length+1),varP (x.vars.length+1+1))):=by rw [hPe.out];simp
    have eV:varP (x.vars.length+1)=PP9.2.1:=by rw [eP]
    have eW:varP (x.vars.length+1+1)=PP9.2.2:=by rw [eP]
    have eN:x.vars++[((1:Int),(i:Int),(0:Int))]++[(2,(i:Int),1),(2,(i:Int),1+1)]=PP9.1:=by rw [eP]
    rw [eV,eW,eN];rw [eV,eW] at hV9;replace hV9:VecX (Yr (Zk Z w.heap.size 5) ra va9) w9 t PP9.2:=hV9;rw [eN] at hR9;replace eP:=Hd eP;replace eV:=Hd eV;replace eW:=Hd eW;replace eN:=Hd eN;clear CC hfA hvA;exact zz56
   ·
    replace hPe:Hid (PP9=(x.vars++[(2,(i:Int),0),(2,(i:Int),1)],(varP x.vars.length,varP (x.vars.length+1)))):=by have e:=hPe.out;rw [if_neg oo,if_neg oo] at e;exact e
    have kk1:¬ kind=1:=oo
    have kk2:¬ kind=2:=oo
    have kk3:¬ kind=3:=oo
    have kk4:¬ kind=4:=oo
    have kk5:¬ kind=5:=oo
    have kk6:¬ kind=6:=oo
    go_wp2_with fail;have CC:=qhq (Zk Z w.heap.size 5) B x hs ra va rc vc i 0 oo oo wr hR8.out oo hZ8.out hB8
    try rw [show ((0:Int)+1)=1 from rfl] at CC
    exact zz57
end Go.Proofs.YtmdlbpibipnapaaGreat
