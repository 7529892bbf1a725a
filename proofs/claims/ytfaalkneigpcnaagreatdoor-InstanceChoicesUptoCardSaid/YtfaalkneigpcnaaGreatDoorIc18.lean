/- Walks: free points, dependent variables (the reference, layer 21). -/
import Derived.Test.YtfaalkneigpcnaaGreatDoorIc17
set_option linter.all false
set_option maxRecDepth 100000
set_option maxHeartbeats 4000000
namespace Go.Proofs.YtfaalkneigpcnaaGreatDoor
open Go.RowKit
theorem Bst.free {Z:Nat->Prop} {w:World} {gB:Nat} {x:Frm} {hs:List (VQ × Vec)} {ra va:Option Addr} {rc vc:Nat} (h:Bst Z w gB x hs ra rc va vc) (f:Nat) :
  Bst Z (w.setCell ⟨gB,2,none⟩ (.int .i64 f)) gB ⟨x.vars,x.coords,f⟩ hs ra rc va vc :=
 ⟨h.eq,by have:=h.blk.set_ 2 (.int .i64 f);simpa using this,h.co.far (Nat.lt_succ_self gB) _,h.vr.far (Nat.lt_succ_self gB) _,fun z hz=>(h.all z hz).step (Agr.setc (.inl (.inl rfl)) (Agr.refl _ _))⟩
def qci (x:Frm) (i:Int):List Vr × Vec :=
 if x.free=0 then (x.vars,([],[]))
 else if x.free=1 then (x.vars++[(1,i,0)],(varP x.vars.length,[]))
 else (x.vars++[(1,i,0),(1,i,1)],(varP x.vars.length,varP (x.vars.length+1)))
theorem qqr (Z:Nat->Prop) (gB:Nat) (vars:List Vr) (coords:List Vec) (hs:List (VQ × Vec)) (ra va:Option Addr) (rc vc:Nat) (step:Int) (w:World) (hB:Bst Z w gB ⟨vars,coords,0⟩ hs ra rc va vc) :
  Calls Tryz.prog 90 #[.pointer (some ⟨gB,0,none⟩),.int .i64 step] w (RetSt Z gB ⟨vars,coords,1⟩ ([],[]) hs ra rc va w):=by
 have HB:=Hd hB;have z2:=hB.blk.cell 2;have zl:=hB.blk.lt;have f2:=hB.blk.frozen 2;have hn0:¬ Yb gB ra va w.heap.size:=fun h=>by have:=hB.lt _ h;omega
 replace hn0:=Hd hn0;clear hB;go_enter Tryz.func90,Tryz.ntmps90;go_wp2;refine qab (fun W=>Blk W w.heap.size 94 #[.slice none 0 0,.slice none 0 0]/\Bst Z W gB ⟨vars,coords,1⟩ hs ra rc va vc/\Fr (Yb gB ra va) w W) ⟨by ((with_reducible repeat first|assumption|(apply bF;focus omega)|apply bS|(apply bN;focus (simp;done))|apply bA|apply bD);all_goals rfl),?_,?_⟩ ?_
 · exact (HB.out.free 1).call (brf.alloc (nlr _) _)
 · exact ((Fr.refl (Yb gB ra va) w).setc (.inl (.inl rfl))).alloc _
 rintro w4 ⟨hF,hB4,hf4⟩;obtain ⟨e0,e1⟩:=cq2 hF;refine bodyPost_ret (v:=.agg #[.slice none 0 0,.slice none 0 0]) (by simp [results,Tryz.results90,go_sem,e0,e1]) rfl ?_;exact ⟨va,vc,⟨none,0,none,0⟩,rfl,hB4,⟨PolX.nil,PolX.nil⟩,hf4,fun _ h=>.inl h⟩
theorem qqx (Z:Nat->Prop) (gB:Nat) (vars:List Vr) (coords:List Vec) (hs:List (VQ × Vec)) (ra va:Option Addr) (rc vc:Nat) (step:Int) (w:World) (hB:Bst Z w gB ⟨vars,coords,1⟩ hs ra rc va vc) (hl:vars.length<=900) (hZ:∀ b,Z b->b<w.heap.size) :
  Calls Tryz.prog 90 #[.pointer (some ⟨gB,0,none⟩),.int .i64 step] w (RetSt Z gB ⟨vars++[(1,step,0)],coords,2⟩ (varP vars.length,[]) hs ra rc va w):=by
 have HB:=Hd hB;have HZ:=Hd hZ;have z2:=hB.blk.cell 2;have zl:=hB.blk.lt;have f2:=hB.blk.frozen 2;have hn0:¬ Yb gB ra va w.heap.size:=fun h=>by have:=hB.lt _ h;omega
 replace hn0:=Hd hn0;clear hB hZ;go_enter Tryz.func90,Tryz.ntmps90;go_wp2_with fail;refine qad (fun W=>Blk W w.heap.size 94 #[.slice none 0 0,.slice none 0 0]/\Bst (Xg Z w.heap.size) W gB ⟨vars,coords,2⟩ hs ra rc va vc/\Fr (Yb gB ra va) w W/\w.heap.size<W.heap.size) ⟨by ((with_reducible repeat first|assumption|(apply bF;focus omega)|apply bS|(apply bN;focus (simp;done))|apply bA|apply bD);all_goals rfl),?_,?_,by simp⟩ ?_
 · exact ((HB.out.wide (nlr _)).free 2).call (brf.alloc (nlr _) _)
 · exact ((Fr.refl (Yb gB ra va) w).setc (.inl (.inl rfl))).alloc _
 rintro w0 ⟨hz,hB0,hf0,hl0⟩;have hZ0:=Xg_lt HZ.out hf0.size hl0;refine (qcc (Xg Z w.heap.size) gB ⟨vars,coords,2⟩ hs ra va rc vc 1 step 0 w0 hB0 (by dsimp only;omega) hZ0).mono ?_;rintro e w1 ⟨va1,vc1,a1,c1,rfl,hB1,hP1,hf1,hv1⟩;dsimp only at hB1 hP1;have hn1:=qc5 hn0.out hv1 hl0;have hz1:=hz.fr hf1 hn0.out;obtain ⟨y0,y1⟩:=cq2 hz1;obtain ⟨g0,g1⟩:=fq2 hz1;have e2:Bst (Xg Z w.heap.size) w1 gB ⟨vars++[(1,step,0)],coords,2⟩ hs ra rc va1 vc1:=hB1;have zz2:=hB1.blk.cell 2;have hfr:Fr (Yb gB ra va) w w1:=hf0.trans hf1;have hvv:∀ g,va1=some g->va=some g\/w.heap.size<=g.block:=fun g hg=>by
  rcases hv1 g hg with e | e
  · exact .inl e
  · exact .inr (by omega)
 replace hP1:=Hd hP1;replace hB1:=Hd hB1;replace hvv:=Hd hvv;replace hfr:=Hd hfr;replace hn1:=Hd hn1;replace e2:=Hd e2;have hz1':=Hd hz1;clear hf0 hf1 hv1 hz hB0 hz1;go_wp2;refine qab (fun W=>Blk W w.heap.size 94 #[.slice a1 (varP vars.length).length c1,.slice none 0 0]/\Bst Z W gB ⟨vars++[(1,step,0)],coords,2⟩ hs ra rc va1 vc1/\VecX (Yz Z gB ra va1) W ⟨a1,c1,none,0⟩ (varP vars.length,[])/\Fr (Yb gB ra va) w W) ⟨?_,?_,?_,?_⟩ ?_
 ·
  have hz2':=hz1'.out
  ((with_reducible repeat first|assumption|(apply bF;focus omega)|apply bS|(apply bN;focus (simp;done))|apply bA|apply bD);all_goals rfl)
 · exact ((e2.out.far hn1.out).far hn1.out).less
 ·
  refine VecX.less (Y:=Yz (Xg Z w.heap.size) gB ra va1) ?_ qcx;exact qa5 (qa5 (⟨hP1.out,PolX.nil⟩:VecX (Yz (Xg Z w.heap.size) gB ra va1) w1 ⟨a1,c1,none,0⟩ (varP vars.length,[])) (.inr (.inr rfl))) (.inr (.inr rfl))
 · exact (hfr.out.setc (.inr (nlr _))).setc (.inr (nlr _))
 rintro w4 ⟨hF,hB4,hV4,hf4⟩;obtain ⟨e0,e1⟩:=cq2 hF;refine bodyPost_ret (v:=.agg #[.slice a1 (varP vars.length).length c1,.slice none 0 0]) (by simp [results,Tryz.results90,go_sem,e0,e1]) rfl ?_;exact ⟨va1,vc1,⟨a1,c1,none,0⟩,rfl,hB4,hV4,hf4,hvv.out⟩
theorem qrp (Z:Nat->Prop) (gB:Nat) (vars:List Vr) (coords:List Vec) (hs:List (VQ × Vec)) (ra va:Option Addr) (rc vc:Nat) (step:Int) (w:World) (n:Nat) (hn:n<=1000) (hB:Bst Z w gB ⟨vars,coords,n+2⟩ hs ra rc va vc) (hl:vars.length<=900) (hZ:∀ b,Z b->b<w.heap.size) :
  Calls Tryz.prog 90 #[.pointer (some ⟨gB,0,none⟩),.int .i64 step] w (RetSt Z gB ⟨vars++[(1,step,0),(1,step,1)],coords,n+3⟩ (varP vars.length,varP (vars.length+1)) hs ra rc va w):=by
 have HB:=Hd hB;have HZ:=Hd hZ;have z2:=hB.blk.cell 2;have zl:=hB.blk.lt;have f2:=hB.blk.frozen 2;have hn0:¬ Yb gB ra va w.heap.size:=fun h=>by have:=hB.lt _ h;omega
 replace hn0:=Hd hn0;clear hB hZ;go_enter Tryz.func90,Tryz.ntmps90;go_wp2_with fail;refine qad (fun W=>Blk W w.heap.size 94 #[.slice none 0 0,.slice none 0 0]/\Bst (Xg Z w.heap.size) W gB ⟨vars,coords,n+3⟩ hs ra rc va vc/\Fr (Yb gB ra va) w W/\w.heap.size<W.heap.size) ⟨by ((with_reducible repeat first|assumption|(apply bF;focus omega)|apply bS|(apply bN;focus (simp;done))|apply bA|apply bD);all_goals rfl),?_,?_,by simp⟩ ?_
 · exact ((HB.out.wide (nlr _)).free (n+3)).call (brf.alloc (nlr _) _)
 · exact ((Fr.refl (Yb gB ra va) w).setc (.inl (.inl rfl))).alloc _
 rintro w0 ⟨hz,hB0,hf0,hl0⟩;have hZ0:=Xg_lt HZ.out hf0.size hl0;refine (qcc (Xg Z w.heap.size) gB ⟨vars,coords,n+3⟩ hs ra va rc vc 1 step 0 w0 hB0 (by dsimp only;omega) hZ0).mono ?_;rintro e w1 ⟨va1,vc1,a1,c1,rfl,hB1,hP1,hf1,hv1⟩;dsimp only at hB1 hP1;have hn1:=qc5 hn0.out hv1 hl0;have hz1:=hz.fr hf1 hn0.out;have hln:(vars++[((1:Int),step,(0:Int))]).length=vars.length+1:=by simp
 have zz2:=hB1.blk.cell 2;have zf2:=hB1.blk.frozen 2;have zzl:=hB1.blk.lt;have C2:=qcc (Xg Z w.heap.size) gB ⟨vars++[(1,step,0)],coords,n+3⟩ hs ra va1 rc vc1 1 step 1 w1 hB1 (by dsimp only;omega) (fun b hb=>ltl (hZ0 b hb) hf1.size);dsimp only at C2;rw [hln,List.append_assoc] at C2;replace C2:=Hd C2;replace hP1:=Hd hP1;replace hz1:=Hd hz1;replace hn1:=Hd hn1;replace hv1:=Hd hv1;replace hZ0:=Hd hZ0;have dn:((((n+3:Nat):Int))==2)=false:=by simp;omega
 clear hz hB0 hB1 hln;go_wp2_with fail;refine C2.out.mono ?_;rintro e w2 ⟨va2,vc2,a2,c2,rfl,hB2,hP2,hf2,hv2⟩;have hz2:=hz1.out.fr hf2 hn1.out;have hl1:=hf1.size;have hl2:=hf2.size;have hl00:=hf0.size;have hn2:¬ Yb gB ra va2 w.heap.size:=qc5 hn1.out hv2 (by omega);have hPm:=hP1.out.move (qkd (Z:=Xg Z w.heap.size) (ra:=ra) (gB:=gB) hv2) (hf2.mono fun b hb=>.inl hb);have hv:∀ g,va2=some g->va=some g\/w.heap.size<=g.block:=fun g hg=>by
  rcases hv2 g hg with e | e
  ·
   rcases hv1.out g e with e | e
   · exact .inl e
   · exact .inr (by omega)
  · exact .inr (by omega)
 have hfr:Fr (Yb gB ra va) w w2:=(hf0.trans hf1).then_ hf2 fun b hb=>by
  rcases hb with hb | hb | ⟨g,hg,rfl⟩
  · exact .inl (.inl hb)
  · exact .inl (.inr (.inl hb))
  ·
   rcases hv1.out g hg with e | e
   · exact .inl (.inr (.inr ⟨g,e,rfl⟩))
   · exact .inr (by omega)
 obtain ⟨z0,z1⟩:=cq2 hz2;obtain ⟨f0,f1⟩:=fq2 hz2;replace hP2:=Hd hP2;replace hPm:=Hd hPm;replace hB2:=Hd hB2;replace hv:=Hd hv;replace hfr:=Hd hfr;replace hn2:=Hd hn2;replace hz2:=Hd hz2;clear hf0 hf1 hf2 hv2;go_wp2;refine qab (fun W=>Blk W w.heap.size 94 #[.slice a1 (varP vars.length).length c1,.slice a2 (varP (vars.length+1)).length c2]/\Bst Z W gB ⟨vars++[(1,step,0),(1,step,1)],coords,n+3⟩ hs ra rc va2 vc2/\VecX (Yz Z gB ra va2) W ⟨a1,c1,a2,c2⟩ (varP vars.length,varP (vars.length+1))/\Fr (Yb gB ra va) w W) ⟨?_,?_,?_,?_⟩ ?_
 ·
  have hz2':=hz2.out
  ((with_reducible repeat first|assumption|(apply bF;focus omega)|apply bS|(apply bN;focus (simp;done))|apply bA|apply bD);all_goals rfl)
 · exact ((hB2.out.far hn2.out).far hn2.out).less
 ·
  refine VecX.less (Y:=Yz (Xg Z w.heap.size) gB ra va2) ?_ qcx;exact qa5 (qa5 (⟨hPm.out,hP2.out⟩:VecX (Yz (Xg Z w.heap.size) gB ra va2) w2 ⟨a1,c1,a2,c2⟩ (varP vars.length,varP (vars.length+1))) (.inr (.inr rfl))) (.inr (.inr rfl))
 · exact (hfr.out.setc (.inr (nlr _))).setc (.inr (nlr _))
 rintro w4 ⟨hF,hB4,hV4,hf4⟩;obtain ⟨e0,e1⟩:=cq2 hF;refine bodyPost_ret (v:=.agg #[.slice a1 (varP vars.length).length c1,.slice a2 (varP (vars.length+1)).length c2]) (by simp [results,Tryz.results90,go_sem,e0,e1]) rfl ?_;exact ⟨va2,vc2,⟨a1,c1,a2,c2⟩,rfl,hB4,hV4,hf4,hv.out⟩
theorem qt7 (Z:Nat->Prop) (gB:Nat) (x:Frm) (hs:List (VQ × Vec)) (ra va:Option Addr) (rc vc:Nat) (step:Int) (w:World) (hB:Bst Z w gB x hs ra rc va vc) (hl:x.vars.length<=900) (hf:x.free<=1000) (hZ:∀ b,Z b->b<w.heap.size) :
  Calls Tryz.prog 90 #[.pointer (some ⟨gB,0,none⟩),.int .i64 step] w (RetSt Z gB ⟨(qci x step).1,x.coords,x.free+1⟩ (qci x step).2 hs ra rc va w):=by
 obtain ⟨vars,coords,free⟩:=x
 match free,hB,hf with
 | 0,hB,_=>exact qqr Z gB vars coords hs ra va rc vc step w hB
 | 1,hB,_=>exact qqx Z gB vars coords hs ra va rc vc step w hB hl hZ
 | n+2,hB,hf=>exact qrp Z gB vars coords hs ra va rc vc step w n (by dsimp only at hf;omega) hB hl hZ
def Cs (L:List (Addr × Value)) (W:World):Prop:=∀ p v,(p,v)∈L->W.cell? p=some v
theorem Cs.setc {L:List (Addr × Value)} {W:World} (h:Cs L W) {g i:Nat} {u:Value} (hn:∀ p v,(p,v)∈L->p.block≠g):Cs L (W.setCell ⟨g,i,none⟩ u):=fun p v hm =>
 (World.cell?_setCell_other W ⟨g,i,none⟩ p u (fun e=>by subst e;exact hn _ v hm rfl)).trans (h p v hm)
theorem Cs.alloc {L:List (Addr × Value)} {W:World} (h:Cs L W) (o:Obj):Cs L (W.alloc o):=fun p v hm=>qc1 W o p v (h p v hm)
theorem Cs.below {L:List (Addr × Value)} {W V:World} (h:Cs L W) (hb:Below W.heap.size W V):Cs L V:=fun p v hm=>xbw hb p v (h p v hm)
def qdb (Z:Nat->Prop) (B:Nat) (x:Frm) (y:List Vr × Vec) (hs:List (VQ × Vec)) (ra:Option Addr) (rc:Nat) (va:Option Addr) (w:World) (e:Ending) (w':World):Prop :=
 ∃ va' vc' t,e=.returned (.tuple #[.agg #[.slice ra hs.length rc,.slice va' y.1.length vc'],.agg #[.slice t.a y.2.1.length t.c,.slice t.b y.2.2.length t.d]]) /\
  Rst Z w' B ⟨y.1,x.coords,x.free⟩ hs ra rc va' vc'/\VecX (Yr Z ra va') w' t y.2/\Fr (Yv ra va) w w'/\(∀ g,va'=some g->va=some g\/w.heap.size<=g.block)
theorem qpk {Z:Nat->Prop} {w:World} {ra va va':Option Addr} (h:∀ g,va'=some g->va=some g\/w.heap.size<=g.block):∀ b,Yr Z ra va' b->Yr Z ra va b\/w.heap.size<=b:=fun b hb=>by
 rcases hb with (hb | ⟨g,hg,rfl⟩) | hb
 · exact .inl (.inl (.inl hb))
 ·
  rcases h g hg with e | e
  · exact .inl (.inl (.inr ⟨g,e,rfl⟩))
  · exact .inr e
 · exact .inl (.inr hb)
theorem zz45 {P:Prop} (h:P:=by
 refine VecX.less (Y:=Yr (Zk Z w.heap.size 4) ra va5) ?_ fun b hb=>hb.imp id .inl
 exact (((hV5.out.step (Agr.setc (.inr hZ1.out) (Agr.refl _ _))).step (Agr.setc (.inr hZ1.out) (Agr.refl _ _))).step (Agr.setc (.inr hZ2.out) (Agr.refl _ _))).step (Agr.setc (.inr hZ2.out) (Agr.refl _ _))
 ):P:=h
theorem zz46 {P:Prop} (h:P:=by
 rw [hL];intro p v hm;simp only [List.mem_cons,List.not_mem_nil,or_false,Prod.mk.injEq] at hm;rcases hm with ⟨rfl,rfl⟩ | ⟨rfl,rfl⟩ | ⟨rfl,rfl⟩ | ⟨rfl,rfl⟩
 · exact b00
 · exact b01
 · exact b30
 · exact b31
 ):P:=h
theorem qqd (Z:Nat->Prop) (B:Nat) (x:Frm) (hs:List (VQ × Vec)) (ra va:Option Addr) (rc vc:Nat) (step:Int) (w:World) (hR:Rst Z w B x hs ra rc va vc) :
  Calls Tryz.prog 174 #[.agg #[.slice ra hs.length rc,.slice va x.vars.length vc],.int .i64 step,.int .i64 0] w (qdb Z B x (x.vars,([],[])) hs ra rc va w):=by
 have HR:=Hd hR;have hn0:∀ g,w.heap.size<=g->¬ Yv ra va g:=fun g hg h=>by have:=hR.lt _ h;omega
 replace hn0:=Hd hn0;clear hR;go_enter Tryz.func174,Tryz.ntmps174;go_wp2;refine qab (fun W=>Blk W w.heap.size 58 #[.slice ra hs.length rc,.slice va x.vars.length vc]/\Blk W (w.heap.size+1) 58 #[.slice none 0 0,.slice none 0 0]/\Blk W (w.heap.size+1+1) 97 #[.slice none 0 0,.slice none 0 0]/\Blk W (w.heap.size+1+1+1) 97 #[.slice none 0 0,.slice none 0 0]/\Below w.heap.size w W) (by refine ⟨?_,?_,?_,?_,?_⟩<;>first|((with_reducible repeat first|assumption|(apply bF;focus omega)|apply bS|(apply bN;focus (simp;done))|apply bA|apply bD);all_goals rfl)|go_grown) ?_;rintro w5 ⟨h0,h1,h2,h3,hw5⟩;obtain ⟨g1,hg1⟩:∃ g,g=w.heap.size+1:=⟨_,rfl⟩
 obtain ⟨g2,hg2⟩:∃ g,g=w.heap.size+1+1:=⟨_,rfl⟩
 obtain ⟨g3,hg3⟩:∃ g,g=w.heap.size+1+1+1:=⟨_,rfl⟩
 rw [<- hg3] at h3 ⊢;rw [<- hg2] at h2 ⊢;rw [<- hg1] at h1 ⊢;obtain ⟨va5,hva5⟩:∃ v,v=va:=⟨_,rfl⟩
 obtain ⟨vc5,hvc5⟩:∃ v,v=vc:=⟨_,rfl⟩
 have hR5:Rst (Zk Z w.heap.size 4) w5 B x hs ra rc va5 vc5:=by rw [hva5,hvc5];exact (HR.out.more (qdn (nlr _))).call hw5
 have hV5:VecX (Yr (Zk Z w.heap.size 4) ra va5) w5 ⟨none,0,none,0⟩ ([],[]):=⟨PolX.nil,PolX.nil⟩
 have hf5:Fr (Yv ra va) w w5:=Fr.below hw5;have hvv:∀ g,va5=some g->va=some g\/w.heap.size<=g.block:=fun g h=>.inl (by rw [<- hva5];exact h)
 have hn5:∀ g,w.heap.size<=g->g<w.heap.size+4->¬ Yv ra va5 g:=fun g hg _=>by rw [hva5];exact hn0.out g hg
 rw [<- hva5,<- hvc5] at h0;replace hR5:=Hd hR5;replace hV5:=Hd hV5;replace hf5:=Hd hf5;replace hvv:=Hd hvv;replace hn5:=Hd hn5;replace hva5:=Hd hva5;replace hvc5:=Hd hvc5;obtain ⟨b00,b01⟩:=cq2 h0;obtain ⟨b30,b31⟩:=cq2 h3;obtain ⟨L,hL⟩:∃ L:List (Addr × Value),L=[(⟨w.heap.size,0,none⟩,.slice ra hs.length rc),(⟨w.heap.size,1,none⟩,.slice va5 x.vars.length vc5),(⟨g3,0,none⟩,.slice none 0 0),(⟨g3,1,none⟩,.slice none 0 0)]:=⟨_,rfl⟩
 have y0:∀ W,Cs L W->W.cell? ⟨w.heap.size,0,none⟩=some (.slice ra hs.length rc):=fun W h=>h _ _ (by rw [hL];simp)
 have y1:∀ W,Cs L W->W.cell? ⟨w.heap.size,1,none⟩=some (.slice va5 x.vars.length vc5):=fun W h=>h _ _ (by rw [hL];simp)
 have y2:∀ W,Cs L W->W.cell? ⟨g3,0,none⟩=some (.slice none 0 0):=fun W h=>h _ _ (by rw [hL];simp)
 have y3:∀ W,Cs L W->W.cell? ⟨g3,1,none⟩=some (.slice none 0 0):=fun W h=>h _ _ (by rw [hL];simp)
 have hne:∀ p v,(p,v)∈L->p.block≠g1:=by
  rw [hL];intro p v hm;simp only [List.mem_cons,List.not_mem_nil,or_false,Prod.mk.injEq] at hm;rcases hm with ⟨rfl,_⟩ | ⟨rfl,_⟩ | ⟨rfl,_⟩ | ⟨rfl,_⟩ <;> (dsimp only;omega)
 have s0:Cs L w5.drew:=by
  exact zz46
 obtain ⟨k10,k11⟩:=cq2 h1;obtain ⟨f10,f11⟩:=fq2 h1;have l1:=h1.lt;obtain ⟨k20,k21⟩:=cq2 h2;obtain ⟨f20,f21⟩:=fq2 h2;have l2:=h2.lt;have q1:w.heap.size<=g1:=by omega
 have q2:w.heap.size<=g2:=by omega
 have hZ1:Zk Z w.heap.size 4 g1:=.inr (by omega);have hZ2:Zk Z w.heap.size 4 g2:=.inr (by omega);have n1:¬ Yv ra va5 g1:=hn5.out g1 q1 (by omega);have n2:¬ Yv ra va5 g2:=hn5.out g2 q2 (by omega);have d12:g1≠g2:=by omega
 have hLh:=Hd hL;have hneh:=Hd hne;replace hg1:=Hd hg1;replace hg2:=Hd hg2;replace hg3:=Hd hg3;have h1h:=Hd h1;have h2h:=Hd h2;replace hZ1:=Hd hZ1;replace hZ2:=Hd hZ2;replace n1:=Hd n1;replace n2:=Hd n2;clear h0 h1 h2 h3 b00 b01 b30 b31 hL hne;refine wrx (S:=Cs L) [(0,.q),(1,.q),(2,.l),(3,.t)] (s0) ?_
 iterate 2 (refine qaj rfl rfl fun K hK=>xq ?_;go_simp;refine hK _ _ ?_;clear hK K)
 refine qag rfl rfl (fun K hK=>?_);go_simp;refine hK.out _ _ ((s0.setc hneh.out).setc hneh.out) (fun _=>?_);clear hK K;refine qae rfl rfl (fun K hK=>?_);go_simp;refine hK.out _ _ ?_;clear hK K;refine qai ?_;clear k10 k11 f10 f11 l1 k20 k21 f20 f21 l2 s0 y0 y1 y2 y3;go_wp2;refine qab (fun W=>Blk W g1 58 #[.slice ra hs.length rc,.slice va5 x.vars.length vc5]/\Blk W g2 97 #[.slice none 0 0,.slice none 0 0]/\Rst Z W B ⟨x.vars,x.coords,x.free⟩ hs ra rc va5 vc5/\VecX (Yr Z ra va5) W ⟨none,0,none,0⟩ ([],[])/\Fr (Yv ra va) w W) ⟨?_,?_,?_,?_,?_⟩ ?_
 ·
  have a:=h1h.out
  ((with_reducible repeat first|assumption|(apply bF;focus omega)|apply bS|(apply bN;focus (simp;done))|apply bA|apply bD);all_goals rfl)
 ·
  have a:=h2h.out
  ((with_reducible repeat first|assumption|(apply bF;focus omega)|apply bS|(apply bN;focus (simp;done))|apply bA|apply bD);all_goals rfl)
 · exact (((((hR5.out.set_ hZ1.out n1.out).set_ hZ1.out n1.out).set_ hZ2.out n2.out).set_ hZ2.out n2.out).less fun b hb=>.inl hb).call (brf.drew)
 ·
  exact zz45
 · exact ((((hf5.out.setc (.inr q1)).setc (.inr q1)).setc (.inr q2)).setc (.inr q2)).call (brf.drew)
 rintro w6 ⟨hF1,hF2,hR6,hV6,hf6⟩;obtain ⟨e0,e1⟩:=cq2 hF1;obtain ⟨e2,e3⟩:=cq2 hF2;refine bodyPost_ret (v:=.tuple #[.agg #[.slice ra hs.length rc,.slice va5 x.vars.length vc5],.agg #[.slice none 0 0,.slice none 0 0]]) (by simp [results,Tryz.results174,go_sem,e0,e1,e2,e3]) rfl ?_;exact ⟨va5,vc5,⟨none,0,none,0⟩,by simp,hR6,hV6,hf6,hvv.out⟩
theorem zz47 {P:Prop} (h:P:=by
 have:=hw4.size;rcases hv4 g hg with e | e
 · exact .inl e
 · exact .inr (by omega)
 ):P:=h
theorem qro (Z:Nat->Prop) (B:Nat) (x:Frm) (hs:List (VQ × Vec)) (ra va:Option Addr) (rc vc:Nat) (step:Int) (w:World) (hR:Rst Z w B x hs ra rc va vc) (hl:x.vars.length<=900) (hZ:∀ b,Z b->b<w.heap.size) (hBw:B<=w.heap.size) :
  Calls Tryz.prog 174 #[.agg #[.slice ra hs.length rc,.slice va x.vars.length vc],.int .i64 step,.int .i64 1] w (qdb Z B x (x.vars++[(1,step,0)],(varP x.vars.length,[])) hs ra rc va w):=by
 have HR:=Hd hR;have HZ:=Hd hZ;have hn0:∀ g,w.heap.size<=g->¬ Yv ra va g:=fun g hg h=>by have:=hR.lt _ h;omega
 replace hn0:=Hd hn0;clear hR hZ;go_enter Tryz.func174,Tryz.ntmps174;go_wp2_with fail;refine qad (fun W=>Blk W w.heap.size 58 #[.slice ra hs.length rc,.slice va x.vars.length vc]/\Blk W (w.heap.size+1) 58 #[.slice none 0 0,.slice none 0 0]/\Blk W (w.heap.size+1+1) 97 #[.slice none 0 0,.slice none 0 0]/\Blk W (w.heap.size+1+1+1) 97 #[.slice none 0 0,.slice none 0 0]/\Below w.heap.size w W) (by refine ⟨?_,?_,?_,?_,?_⟩<;>first|((with_reducible repeat first|assumption|(apply bF;focus omega)|apply bS|(apply bN;focus (simp;done))|apply bA|apply bD);all_goals rfl)|go_grown) ?_;rintro w4 ⟨h0,h1,h2,h3,hw4⟩;have hl4:=h3.lt;have hR4:Rst (Zk Z w.heap.size 4) w4 B x hs ra rc va vc:=(HR.out.more (qdn (nlr _))).call hw4;have hZ4:∀ b,Zk Z w.heap.size 4 b->b<w4.heap.size:=zk_lt HZ.out hw4.size (by omega)
 refine (qc3 (Zk Z w.heap.size 4) B x hs ra va rc vc 1 step 0 w4 hR4 (by omega) hZ4 (by have:=hw4.size;omega)).mono ?_;rintro e w5 ⟨va1,vc1,a1,c1,rfl,hR5,hP5,hf4,hv4⟩;replace h0:=h0.fr hf4 (hn0.out _ (by omega));replace h1:=h1.fr hf4 (hn0.out _ (by omega));replace h2:=h2.fr hf4 (hn0.out _ (by omega));replace h3:=h3.fr hf4 (hn0.out _ (by omega));have hf5:Fr (Yv ra va) w w5:=(Fr.below hw4).trans hf4;have hn5:∀ g,w.heap.size<=g->g<w.heap.size+4->¬ Yv ra va1 g:=fun g hg1 hg2=>qb5 (hn0.out g hg1) hv4 (by omega)
 have hvv:∀ g,va1=some g->va=some g\/w.heap.size<=g.block:=fun g hg=>by
  exact zz47
 have hZ5:∀ b,Zk Z w.heap.size 4 b->b<w5.heap.size:=fun b hb=>ltl (hZ4 b hb) hf4.size
 obtain ⟨k00,k01⟩:=cq2 h0;obtain ⟨f00,f01⟩:=fq2 h0;have l0:=h0.lt;obtain ⟨k30,k31⟩:=cq2 h3;obtain ⟨f30,f31⟩:=fq2 h3;have l3:=h3.lt;have h0h:=Hd h0;have h1h:=Hd h1;have h2h:=Hd h2;have h3h:=Hd h3;have hZ0:Zk Z w.heap.size 4 w.heap.size:=.inr (by omega);have hZ3:Zk Z w.heap.size 4 (w.heap.size+1+1+1):=.inr (by omega);have n0:=hn5 w.heap.size (by omega) (by omega);have n3:=hn5 (w.heap.size+1+1+1) (by omega) (by omega);replace hR5:=Hd hR5;replace hP5:=Hd hP5;replace hf5:=Hd hf5;replace hvv:=Hd hvv;replace hn5:=Hd hn5;replace hZ5:=Hd hZ5;replace hZ0:=Hd hZ0;replace hZ3:=Hd hZ3;replace n0:=Hd n0;replace n3:=Hd n3;clear h0 h1 h2 h3 hw4 hl4 hR4 hZ4 hf4 hv4;go_wp2
 refine qab (fun W=>Blk W w.heap.size 58 #[.slice ra hs.length rc,.slice va1 (x.vars.length+1) vc1]/\Blk W (w.heap.size+1) 58 #[.slice none 0 0,.slice none 0 0]/\Blk W (w.heap.size+1+1) 97 #[.slice none 0 0,.slice none 0 0]/\Blk W (w.heap.size+1+1+1) 97 #[.slice a1 (varP x.vars.length).length c1,.slice none 0 0]/\Rst (Zk Z w.heap.size 4) W B ⟨x.vars++[(1,step,0)],x.coords,x.free⟩ hs ra rc va1 vc1/\PolX (Yr (Zk Z w.heap.size 4) ra va1) W a1 c1 (varP x.vars.length)/\Fr (Yv ra va) w W/\(∀ b,Zk Z w.heap.size 4 b->b<W.heap.size)) ⟨by have a:=h0h.out;((with_reducible repeat first|assumption|(apply bF;focus omega)|apply bS|(apply bN;focus (simp;done))|apply bA|apply bD);all_goals rfl),by have a:=h1h.out;((with_reducible repeat first|assumption|(apply bF;focus omega)|apply bS|(apply bN;focus (simp;done))|apply bA|apply bD);all_goals rfl),by have a:=h2h.out;((with_reducible repeat first|assumption|(apply bF;focus omega)|apply bS|(apply bN;focus (simp;done))|apply bA|apply bD);all_goals rfl),by have a:=h3h.out;((with_reducible repeat first|assumption|(apply bF;focus omega)|apply bS|(apply bN;focus (simp;done))|apply bA|apply bD);all_goals rfl),?_,?_,?_,?_⟩ ?_
 · exact ((hR5.out.set_ hZ0.out n0.out).set_ hZ0.out n0.out).set_ hZ3.out n3.out
 · exact ((hP5.out.step (Agr.setc (.inr hZ0.out) (Agr.refl _ _))).step (Agr.setc (.inr hZ0.out) (Agr.refl _ _))).step (Agr.setc (.inr hZ3.out) (Agr.refl _ _))
 · exact ((hf5.out.setc (.inr (by omega))).setc (.inr (by omega))).setc (.inr (by omega))
 ·
  intro b hb;simp only [World.size_setCell];exact hZ5.out b hb
 clear k00 k01 f00 f01 l0 k30 k31 f30 f31 l3 h0h h1h h2h h3h hR5 hP5 hf5;rintro w5 ⟨h0,h1,h2,h3,hR5,hP5,hf5,_⟩;have hl5:=h3.lt;obtain ⟨g1,hg1⟩:∃ g,g=w.heap.size+1:=⟨_,rfl⟩
 obtain ⟨g2,hg2⟩:∃ g,g=w.heap.size+1+1:=⟨_,rfl⟩
 obtain ⟨g3,hg3⟩:∃ g,g=w.heap.size+1+1+1:=⟨_,rfl⟩
 rw [<- hg3] at h3 ⊢;rw [<- hg2] at h2 ⊢;rw [<- hg1] at h1 ⊢;obtain ⟨va5,hva5⟩:∃ v,v=va1:=⟨_,rfl⟩
 obtain ⟨vc5,hvc5⟩:∃ v,v=vc1:=⟨_,rfl⟩
 rw [<- hva5] at h0 hR5 hP5 hvv hn5;rw [<- hvc5] at h0 hR5;have hV5:VecX (Yr (Zk Z w.heap.size 4) ra va5) w5 ⟨a1,c1,none,0⟩ (varP x.vars.length,[]):=⟨hP5,PolX.nil⟩
 replace hR5:=Hd hR5;replace hV5:=Hd hV5;replace hf5:=Hd hf5;replace hva5:=Hd hva5;replace hvc5:=Hd hvc5;clear hZ0 hZ3 n0 n3 hP5 hZ5;obtain ⟨b00,b01⟩:=cq2 h0;obtain ⟨b30,b31⟩:=cq2 h3;obtain ⟨L,hL⟩:∃ L:List (Addr × Value),L=[(⟨w.heap.size,0,none⟩,.slice ra hs.length rc),(⟨w.heap.size,1,none⟩,.slice va5 (x.vars.length+1) vc5),(⟨g3,0,none⟩,.slice a1 (varP x.vars.length).length c1),(⟨g3,1,none⟩,.slice none 0 0)]:=⟨_,rfl⟩
 have y0:∀ W,Cs L W->W.cell? ⟨w.heap.size,0,none⟩=some (.slice ra hs.length rc):=fun W h=>h _ _ (by rw [hL];simp)
 have y1:∀ W,Cs L W->W.cell? ⟨w.heap.size,1,none⟩=some (.slice va5 (x.vars.length+1) vc5):=fun W h=>h _ _ (by rw [hL];simp)
 have y2:∀ W,Cs L W->W.cell? ⟨g3,0,none⟩=some (.slice a1 (varP x.vars.length).length c1):=fun W h=>h _ _ (by rw [hL];simp)
 have y3:∀ W,Cs L W->W.cell? ⟨g3,1,none⟩=some (.slice none 0 0):=fun W h=>h _ _ (by rw [hL];simp)
 have hne:∀ p v,(p,v)∈L->p.block≠g1:=by
  rw [hL];intro p v hm;simp only [List.mem_cons,List.not_mem_nil,or_false,Prod.mk.injEq] at hm;rcases hm with ⟨rfl,_⟩ | ⟨rfl,_⟩ | ⟨rfl,_⟩ | ⟨rfl,_⟩ <;> (dsimp only;omega)
 have s0:Cs L w5.drew:=by
  exact zz46
 obtain ⟨k10,k11⟩:=cq2 h1;obtain ⟨f10,f11⟩:=fq2 h1;have l1:=h1.lt;obtain ⟨k20,k21⟩:=cq2 h2;obtain ⟨f20,f21⟩:=fq2 h2;have l2:=h2.lt;have q1:w.heap.size<=g1:=by omega
 have q2:w.heap.size<=g2:=by omega
 have hZ1:Zk Z w.heap.size 4 g1:=.inr (by omega);have hZ2:Zk Z w.heap.size 4 g2:=.inr (by omega);have n1:¬ Yv ra va5 g1:=hn5.out g1 q1 (by omega);have n2:¬ Yv ra va5 g2:=hn5.out g2 q2 (by omega);have d12:g1≠g2:=by omega
 have hLh:=Hd hL;have hneh:=Hd hne;replace hg1:=Hd hg1;replace hg2:=Hd hg2;replace hg3:=Hd hg3;have h1h:=Hd h1;have h2h:=Hd h2;replace hZ1:=Hd hZ1;replace hZ2:=Hd hZ2;replace n1:=Hd n1;replace n2:=Hd n2;clear h0 h1 h2 h3 b00 b01 b30 b31 hL hne;refine wrx (S:=Cs L) [(0,.q),(1,.q),(2,.l),(3,.t)] (s0) ?_
 iterate 2 (refine qaj rfl rfl fun K hK=>xq ?_;go_simp;refine hK _ _ ?_;clear hK K)
 refine qag rfl rfl (fun K hK=>?_);go_simp;refine hK.out _ _ ((s0.setc hneh.out).setc hneh.out) (fun _=>?_);clear hK K;refine qae rfl rfl (fun K hK=>?_);go_simp;refine hK.out _ _ ?_;clear hK K;refine qai ?_;clear k10 k11 f10 f11 l1 k20 k21 f20 f21 l2 s0 y0 y1 y2 y3;go_wp2;refine qab (fun W=>Blk W g1 58 #[.slice ra hs.length rc,.slice va5 (x.vars.length+1) vc5]/\Blk W g2 97 #[.slice a1 (varP x.vars.length).length c1,.slice none 0 0]/\Rst Z W B ⟨x.vars++[(1,step,0)],x.coords,x.free⟩ hs ra rc va5 vc5/\VecX (Yr Z ra va5) W ⟨a1,c1,none,0⟩ (varP x.vars.length,[])/\Fr (Yv ra va) w W) ⟨?_,?_,?_,?_,?_⟩ ?_
 ·
  have a:=h1h.out
  ((with_reducible repeat first|assumption|(apply bF;focus omega)|apply bS|(apply bN;focus (simp;done))|apply bA|apply bD);all_goals rfl)
 ·
  have a:=h2h.out
  ((with_reducible repeat first|assumption|(apply bF;focus omega)|apply bS|(apply bN;focus (simp;done))|apply bA|apply bD);all_goals rfl)
 · exact (((((hR5.out.set_ hZ1.out n1.out).set_ hZ1.out n1.out).set_ hZ2.out n2.out).set_ hZ2.out n2.out).less fun b hb=>.inl hb).call (brf.drew)
 ·
  exact zz45
 · exact ((((hf5.out.setc (.inr q1)).setc (.inr q1)).setc (.inr q2)).setc (.inr q2)).call (brf.drew)
 rintro w6 ⟨hF1,hF2,hR6,hV6,hf6⟩;obtain ⟨e0,e1⟩:=cq2 hF1;obtain ⟨e2,e3⟩:=cq2 hF2;refine bodyPost_ret (v:=.tuple #[.agg #[.slice ra hs.length rc,.slice va5 (x.vars.length+1) vc5],.agg #[.slice a1 (varP x.vars.length).length c1,.slice none 0 0]]) (by simp [results,Tryz.results174,go_sem,e0,e1,e2,e3]) rfl ?_;exact ⟨va5,vc5,⟨a1,c1,none,0⟩,by simp,hR6,hV6,hf6,hvv.out⟩
theorem zz48 {P:Prop} (h:P:=by
 rcases hb with hb | ⟨g,hg,rfl⟩
 · exact .inl (.inl hb)
 ·
  rcases hvv.out g hg with e | e
  · exact .inl (.inr ⟨g,e,rfl⟩)
  · exact .inr e
 ):P:=h
theorem qf8 (Z:Nat->Prop) (B:Nat) (x:Frm) (hs:List (VQ × Vec)) (ra va:Option Addr) (rc vc:Nat) (step:Int) (number:Int) (n1:0<=number) (n2:number<=1000) (w:World) (hR:Rst Z w B x hs ra rc va vc) (hl:x.vars.length<=900) (hZ:∀ b,Z b->b<w.heap.size) (hBw:B<=w.heap.size) :
  Calls Tryz.prog 179 #[.agg #[.slice ra hs.length rc,.slice va x.vars.length vc],.int .i64 step,.int .i64 number] w (qdb Z B x (x.vars++[(2,step,number),(2,step,number+1)],(varP x.vars.length,varP (x.vars.length+1))) hs ra rc va w):=by
 have HR:=Hd hR;have HZ:=Hd hZ;have hn0:∀ g,w.heap.size<=g->¬ Yv ra va g:=fun g hg h=>by have:=hR.lt _ h;omega
 replace hn0:=Hd hn0;clear hR hZ;go_enter Tryz.func179,Tryz.ntmps179;go_wp2_with fail;refine qad (fun W=>Blk W w.heap.size 58 #[.slice ra hs.length rc,.slice va x.vars.length vc]/\Blk W (w.heap.size+1) 58 #[.slice none 0 0,.slice none 0 0]/\Blk W (w.heap.size+1+1) 97 #[.slice none 0 0,.slice none 0 0]/\Blk W (w.heap.size+1+1+1) 97 #[.slice none 0 0,.slice none 0 0]/\Below w.heap.size w W) (by refine ⟨?_,?_,?_,?_,?_⟩<;>first|((with_reducible repeat first|assumption|(apply bF;focus omega)|apply bS|(apply bN;focus (simp;done))|apply bA|apply bD);all_goals rfl)|go_grown) ?_;rintro w4 ⟨h0,h1,h2,h3,hw4⟩;have hl4:=h3.lt;have hR4:Rst (Zk Z w.heap.size 4) w4 B x hs ra rc va vc:=(HR.out.more (qdn (nlr _))).call hw4;have hZ4:∀ b,Zk Z w.heap.size 4 b->b<w4.heap.size:=zk_lt HZ.out hw4.size (by omega)
 refine (qc3 (Zk Z w.heap.size 4) B x hs ra va rc vc 2 step number w4 hR4 (by omega) hZ4 (by have:=hw4.size;omega)).mono ?_;rintro e w5 ⟨va1,vc1,a1,c1,rfl,hR5,hP5,hf4,hv4⟩;replace h0:=h0.fr hf4 (hn0.out _ (by omega));replace h1:=h1.fr hf4 (hn0.out _ (by omega));replace h2:=h2.fr hf4 (hn0.out _ (by omega));replace h3:=h3.fr hf4 (hn0.out _ (by omega));have hf5:Fr (Yv ra va) w w5:=(Fr.below hw4).trans hf4;have hn5:∀ g,w.heap.size<=g->g<w.heap.size+4->¬ Yv ra va1 g:=fun g hg1 hg2=>qb5 (hn0.out g hg1) hv4 (by omega)
 have hvv:∀ g,va1=some g->va=some g\/w.heap.size<=g.block:=fun g hg=>by
  exact zz47
 have hZ5:∀ b,Zk Z w.heap.size 4 b->b<w5.heap.size:=fun b hb=>ltl (hZ4 b hb) hf4.size
 obtain ⟨k00,k01⟩:=cq2 h0;obtain ⟨f00,f01⟩:=fq2 h0;have l0:=h0.lt;obtain ⟨k30,k31⟩:=cq2 h3;obtain ⟨f30,f31⟩:=fq2 h3;have l3:=h3.lt;have h0h:=Hd h0;have h1h:=Hd h1;have h2h:=Hd h2;have h3h:=Hd h3;have hZ0:Zk Z w.heap.size 4 w.heap.size:=.inr (by omega);have hZ3:Zk Z w.heap.size 4 (w.heap.size+1+1+1):=.inr (by omega);have n0:=hn5 w.heap.size (by omega) (by omega);have n3:=hn5 (w.heap.size+1+1+1) (by omega) (by omega);replace hR5:=Hd hR5;replace hP5:=Hd hP5;replace hf5:=Hd hf5;replace hvv:=Hd hvv;replace hn5:=Hd hn5;replace hZ5:=Hd hZ5;replace hZ0:=Hd hZ0;replace hZ3:=Hd hZ3;replace n0:=Hd n0;replace n3:=Hd n3;clear h0 h1 h2 h3 hw4 hl4 hR4 hZ4 hf4 hv4;go_wp2_with fail
 refine qad (fun W=>Blk W w.heap.size 58 #[.slice ra hs.length rc,.slice va1 (x.vars.length+1) vc1]/\Blk W (w.heap.size+1) 58 #[.slice none 0 0,.slice none 0 0]/\Blk W (w.heap.size+1+1) 97 #[.slice none 0 0,.slice none 0 0]/\Blk W (w.heap.size+1+1+1) 97 #[.slice a1 (varP x.vars.length).length c1,.slice none 0 0]/\Rst (Zk Z w.heap.size 4) W B ⟨x.vars++[(2,step,number)],x.coords,x.free⟩ hs ra rc va1 vc1/\PolX (Yr (Zk Z w.heap.size 4) ra va1) W a1 c1 (varP x.vars.length)/\Fr (Yv ra va) w W/\(∀ b,Zk Z w.heap.size 4 b->b<W.heap.size)) ⟨by have a:=h0h.out;((with_reducible repeat first|assumption|(apply bF;focus omega)|apply bS|(apply bN;focus (simp;done))|apply bA|apply bD);all_goals rfl),by have a:=h1h.out;((with_reducible repeat first|assumption|(apply bF;focus omega)|apply bS|(apply bN;focus (simp;done))|apply bA|apply bD);all_goals rfl),by have a:=h2h.out;((with_reducible repeat first|assumption|(apply bF;focus omega)|apply bS|(apply bN;focus (simp;done))|apply bA|apply bD);all_goals rfl),by have a:=h3h.out;((with_reducible repeat first|assumption|(apply bF;focus omega)|apply bS|(apply bN;focus (simp;done))|apply bA|apply bD);all_goals rfl),?_,?_,?_,?_⟩ ?_
 · exact ((hR5.out.set_ hZ0.out n0.out).set_ hZ0.out n0.out).set_ hZ3.out n3.out
 · exact ((hP5.out.step (Agr.setc (.inr hZ0.out) (Agr.refl _ _))).step (Agr.setc (.inr hZ0.out) (Agr.refl _ _))).step (Agr.setc (.inr hZ3.out) (Agr.refl _ _))
 · exact ((hf5.out.setc (.inr (by omega))).setc (.inr (by omega))).setc (.inr (by omega))
 ·
  intro b hb;simp only [World.size_setCell];exact hZ5.out b hb
 clear k00 k01 f00 f01 l0 k30 k31 f30 f31 l3 h0h h1h h2h h3h hR5 hP5 hf5;rintro w6 ⟨h0,h1,h2,h3,hR6,hP6,hf6,hZ6⟩;have hl6:=h3.lt;have hln:(x.vars++[((2:Int),step,(number:Int))]).length=x.vars.length+1:=by simp
 have C2:=qc3 (Zk Z w.heap.size 4) B ⟨x.vars++[(2,step,number)],x.coords,x.free⟩ hs ra va1 rc vc1 2 step (number+1) w6 hR6 (by dsimp only;omega) hZ6 (by have:=hf6.size;omega);unfold qn7 at C2;dsimp only at C2;rw [hln,List.append_assoc] at C2;refine C2.mono ?_;rintro e w7 ⟨va5,vc5,a2,c2,rfl,hR7,hP7,hf7,hv7⟩;have m0:=hn5.out;replace h0:=h0.fr hf7 (m0 _ (by omega) (by omega));replace h1:=h1.fr hf7 (m0 _ (by omega) (by omega));replace h2:=h2.fr hf7 (m0 _ (by omega) (by omega));replace h3:=h3.fr hf7 (m0 _ (by omega) (by omega));have hP1:=hP6.move (qpk (Z:=Zk Z w.heap.size 4) (ra:=ra) hv7) (hf7.mono fun b hb=>.inl hb);have hf8:Fr (Yv ra va) w w7:=hf6.then_ hf7 fun b hb=>by
  exact zz48
 have hn7:∀ g,w.heap.size<=g->g<w.heap.size+4->¬ Yv ra va5 g:=fun g hg1 hg2=>qb5 (m0 g hg1 hg2) hv7 (by omega)
 have hvv7:∀ g,va5=some g->va=some g\/w.heap.size<=g.block:=fun g hg=>by
  have:=hf6.size;rcases hv7 g hg with e | e
  · exact hvv.out g e
  · exact .inr (by omega)
 obtain ⟨k00,k01⟩:=cq2 h0;obtain ⟨f00,f01⟩:=fq2 h0;have l0:=h0.lt;obtain ⟨k30,k31⟩:=cq2 h3;obtain ⟨f30,f31⟩:=fq2 h3;have l3:=h3.lt;have h0h:=Hd h0;have h1h:=Hd h1;have h2h:=Hd h2;have h3h:=Hd h3;have p0:=hn7 w.heap.size (by omega) (by omega);have p3:=hn7 (w.heap.size+1+1+1) (by omega) (by omega);replace hR7:=Hd hR7;replace hP7:=Hd hP7;replace hP1:=Hd hP1;replace hf8:=Hd hf8;replace p0:=Hd p0;replace p3:=Hd p3;replace hn7:=Hd hn7;replace hvv7:=Hd hvv7;clear h0 h1 h2 h3 hR6 hP6 hf6 hl6 hf7 hv7 m0 C2 hln hvv hn5 hZ5 hZ6;go_wp2
 refine qab (fun W=>Blk W w.heap.size 58 #[.slice ra hs.length rc,.slice va5 (x.vars.length+1+1) vc5]/\Blk W (w.heap.size+1) 58 #[.slice none 0 0,.slice none 0 0]/\Blk W (w.heap.size+1+1) 97 #[.slice none 0 0,.slice none 0 0]/\Blk W (w.heap.size+1+1+1) 97 #[.slice a1 (varP x.vars.length).length c1,.slice a2 (varP (x.vars.length+1)).length c2]/\Rst (Zk Z w.heap.size 4) W B ⟨x.vars++[(2,step,number),(2,step,(number+1))],x.coords,x.free⟩ hs ra rc va5 vc5/\VecX (Yr (Zk Z w.heap.size 4) ra va5) W ⟨a1,c1,a2,c2⟩ (varP x.vars.length,varP (x.vars.length+1))/\Fr (Yv ra va) w W) ⟨by have a:=h0h.out;((with_reducible repeat first|assumption|(apply bF;focus omega)|apply bS|(apply bN;focus (simp;done))|apply bA|apply bD);all_goals rfl),by have a:=h1h.out;((with_reducible repeat first|assumption|(apply bF;focus omega)|apply bS|(apply bN;focus (simp;done))|apply bA|apply bD);all_goals rfl),by have a:=h2h.out;((with_reducible repeat first|assumption|(apply bF;focus omega)|apply bS|(apply bN;focus (simp;done))|apply bA|apply bD);all_goals rfl),by have a:=h3h.out;((with_reducible repeat first|assumption|(apply bF;focus omega)|apply bS|(apply bN;focus (simp;done))|apply bA|apply bD);all_goals rfl),?_,?_,?_⟩ ?_
 · exact ((hR7.out.set_ hZ0.out p0.out).set_ hZ0.out p0.out).set_ hZ3.out p3.out
 · exact VecX.step (VecX.step (VecX.step (w:=w7) ⟨hP1.out,hP7.out⟩ (Agr.setc (.inr hZ0.out) (Agr.refl _ _))) (Agr.setc (.inr hZ0.out) (Agr.refl _ _))) (Agr.setc (.inr hZ3.out) (Agr.refl _ _))
 · exact ((hf8.out.setc (.inr (by omega))).setc (.inr (by omega))).setc (.inr (by omega))
 clear k00 k01 f00 f01 l0 k30 k31 f30 f31 l3 h0h h1h h2h h3h hR7 hP7 hP1 hf8;rintro w5 ⟨h0,h1,h2,h3,hR5,hV5,hf5⟩;have hl5:=h3.lt;have hvv:=hvv7;have hn5:=hn7;obtain ⟨g1,hg1⟩:∃ g,g=w.heap.size+1:=⟨_,rfl⟩
 obtain ⟨g2,hg2⟩:∃ g,g=w.heap.size+1+1:=⟨_,rfl⟩
 obtain ⟨g3,hg3⟩:∃ g,g=w.heap.size+1+1+1:=⟨_,rfl⟩
 rw [<- hg3] at h3 ⊢;rw [<- hg2] at h2 ⊢;rw [<- hg1] at h1 ⊢;replace hR5:=Hd hR5;replace hV5:=Hd hV5;replace hf5:=Hd hf5;clear hZ0 hZ3;obtain ⟨b00,b01⟩:=cq2 h0;obtain ⟨b30,b31⟩:=cq2 h3;obtain ⟨L,hL⟩:∃ L:List (Addr × Value),L=[(⟨w.heap.size,0,none⟩,.slice ra hs.length rc),(⟨w.heap.size,1,none⟩,.slice va5 (x.vars.length+1+1) vc5),(⟨g3,0,none⟩,.slice a1 (varP x.vars.length).length c1),(⟨g3,1,none⟩,.slice a2 (varP (x.vars.length+1)).length c2)]:=⟨_,rfl⟩
 have y0:∀ W,Cs L W->W.cell? ⟨w.heap.size,0,none⟩=some (.slice ra hs.length rc):=fun W h=>h _ _ (by rw [hL];simp)
 have y1:∀ W,Cs L W->W.cell? ⟨w.heap.size,1,none⟩=some (.slice va5 (x.vars.length+1+1) vc5):=fun W h=>h _ _ (by rw [hL];simp)
 have y2:∀ W,Cs L W->W.cell? ⟨g3,0,none⟩=some (.slice a1 (varP x.vars.length).length c1):=fun W h=>h _ _ (by rw [hL];simp)
 have y3:∀ W,Cs L W->W.cell? ⟨g3,1,none⟩=some (.slice a2 (varP (x.vars.length+1)).length c2):=fun W h=>h _ _ (by rw [hL];simp)
 have hne:∀ p v,(p,v)∈L->p.block≠g1:=by
  rw [hL];intro p v hm;simp only [List.mem_cons,List.not_mem_nil,or_false,Prod.mk.injEq] at hm;rcases hm with ⟨rfl,_⟩ | ⟨rfl,_⟩ | ⟨rfl,_⟩ | ⟨rfl,_⟩ <;> (dsimp only;omega)
 have s0:Cs L w5.drew:=by
  exact zz46
 obtain ⟨k10,k11⟩:=cq2 h1;obtain ⟨f10,f11⟩:=fq2 h1;have l1:=h1.lt;obtain ⟨k20,k21⟩:=cq2 h2;obtain ⟨f20,f21⟩:=fq2 h2;have l2:=h2.lt;have q1:w.heap.size<=g1:=by omega
 have q2:w.heap.size<=g2:=by omega
 have hZ1:Zk Z w.heap.size 4 g1:=.inr (by omega);have hZ2:Zk Z w.heap.size 4 g2:=.inr (by omega);have n1:¬ Yv ra va5 g1:=hn5.out g1 q1 (by omega);have n2:¬ Yv ra va5 g2:=hn5.out g2 q2 (by omega);have d12:g1≠g2:=by omega
 have hLh:=Hd hL;have hneh:=Hd hne;replace hg1:=Hd hg1;replace hg2:=Hd hg2;replace hg3:=Hd hg3;have h1h:=Hd h1;have h2h:=Hd h2;replace hZ1:=Hd hZ1;replace hZ2:=Hd hZ2;replace n1:=Hd n1;replace n2:=Hd n2;clear h0 h1 h2 h3 b00 b01 b30 b31 hL hne;refine wrx (S:=Cs L) [(0,.q),(1,.q),(2,.l),(3,.t)] (s0) ?_
 iterate 2 (refine qaj rfl rfl fun K hK=>xq ?_;go_simp;refine hK _ _ ?_;clear hK K)
 refine qag rfl rfl (fun K hK=>?_);go_simp;refine hK.out _ _ ((s0.setc hneh.out).setc hneh.out) (fun _=>?_);clear hK K;refine qae rfl rfl (fun K hK=>?_);go_simp;refine hK.out _ _ ?_;clear hK K;refine qai ?_;clear k10 k11 f10 f11 l1 k20 k21 f20 f21 l2 s0 y0 y1 y2 y3;go_wp2;refine qab (fun W=>Blk W g1 58 #[.slice ra hs.length rc,.slice va5 (x.vars.length+1+1) vc5]/\Blk W g2 97 #[.slice a1 (varP x.vars.length).length c1,.slice a2 (varP (x.vars.length+1)).length c2]/\Rst Z W B ⟨x.vars++[(2,step,number),(2,step,number+1)],x.coords,x.free⟩ hs ra rc va5 vc5/\VecX (Yr Z ra va5) W ⟨a1,c1,a2,c2⟩ (varP x.vars.length,varP (x.vars.length+1))/\Fr (Yv ra va) w W) ⟨?_,?_,?_,?_,?_⟩ ?_
 ·
  have a:=h1h.out
  ((with_reducible repeat first|assumption|(apply bF;focus omega)|apply bS|(apply bN;focus (simp;done))|apply bA|apply bD);all_goals rfl)
 ·
  have a:=h2h.out
  ((with_reducible repeat first|assumption|(apply bF;focus omega)|apply bS|(apply bN;focus (simp;done))|apply bA|apply bD);all_goals rfl)
 · exact (((((hR5.out.set_ hZ1.out n1.out).set_ hZ1.out n1.out).set_ hZ2.out n2.out).set_ hZ2.out n2.out).less fun b hb=>.inl hb).call (brf.drew)
 ·
  exact zz45
 · exact ((((hf5.out.setc (.inr q1)).setc (.inr q1)).setc (.inr q2)).setc (.inr q2)).call (brf.drew)
 rintro w6 ⟨hF1,hF2,hR6,hV6,hf6⟩;obtain ⟨e0,e1⟩:=cq2 hF1;obtain ⟨e2,e3⟩:=cq2 hF2;refine bodyPost_ret (v:=.tuple #[.agg #[.slice ra hs.length rc,.slice va5 (x.vars.length+1+1) vc5],.agg #[.slice a1 (varP x.vars.length).length c1,.slice a2 (varP (x.vars.length+1)).length c2]]) (by simp [results,Tryz.results179,go_sem,e0,e1,e2,e3]) rfl ?_;exact ⟨va5,vc5,⟨a1,c1,a2,c2⟩,by simp,hR6,hV6,hf6,hvv.out⟩
theorem qqg (Z:Nat->Prop) (B:Nat) (x:Frm) (hs:List (VQ × Vec)) (ra va:Option Addr) (rc vc:Nat) (step:Int) (bf:Int) (b1:1<bf) (w:World) (hR:Rst Z w B x hs ra rc va vc) (hl:x.vars.length<=900) (hZ:∀ b,Z b->b<w.heap.size) (hBw:B<=w.heap.size) :
  Calls Tryz.prog 174 #[.agg #[.slice ra hs.length rc,.slice va x.vars.length vc],.int .i64 step,.int .i64 bf] w (qdb Z B x (x.vars++[(1,step,0),(1,step,1)],(varP x.vars.length,varP (x.vars.length+1))) hs ra rc va w):=by
 have b0:0<bf:=by omega
 have HR:=Hd hR;have HZ:=Hd hZ;have hn0:∀ g,w.heap.size<=g->¬ Yv ra va g:=fun g hg h=>by have:=hR.lt _ h;omega
 replace hn0:=Hd hn0;clear hR hZ;go_enter Tryz.func174,Tryz.ntmps174;go_wp2_with fail;refine qad (fun W=>Blk W w.heap.size 58 #[.slice ra hs.length rc,.slice va x.vars.length vc]/\Blk W (w.heap.size+1) 58 #[.slice none 0 0,.slice none 0 0]/\Blk W (w.heap.size+1+1) 97 #[.slice none 0 0,.slice none 0 0]/\Blk W (w.heap.size+1+1+1) 97 #[.slice none 0 0,.slice none 0 0]/\Below w.heap.size w W) (by refine ⟨?_,?_,?_,?_,?_⟩<;>first|((with_reducible repeat first|assumption|(apply bF;focus omega)|apply bS|(apply bN;focus (simp;done))|apply bA|apply bD);all_goals rfl)|go_grown) ?_;rintro w4 ⟨h0,h1,h2,h3,hw4⟩;have hl4:=h3.lt;have hR4:Rst (Zk Z w.heap.size 4) w4 B x hs ra rc va vc:=(HR.out.more (qdn (nlr _))).call hw4;have hZ4:∀ b,Zk Z w.heap.size 4 b->b<w4.heap.size:=zk_lt HZ.out hw4.size (by omega)
 refine (qc3 (Zk Z w.heap.size 4) B x hs ra va rc vc 1 step 0 w4 hR4 (by omega) hZ4 (by have:=hw4.size;omega)).mono ?_;rintro e w5 ⟨va1,vc1,a1,c1,rfl,hR5,hP5,hf4,hv4⟩;replace h0:=h0.fr hf4 (hn0.out _ (by omega));replace h1:=h1.fr hf4 (hn0.out _ (by omega));replace h2:=h2.fr hf4 (hn0.out _ (by omega));replace h3:=h3.fr hf4 (hn0.out _ (by omega));have hf5:Fr (Yv ra va) w w5:=(Fr.below hw4).trans hf4;have hn5:∀ g,w.heap.size<=g->g<w.heap.size+4->¬ Yv ra va1 g:=fun g hg1 hg2=>qb5 (hn0.out g hg1) hv4 (by omega)
 have hvv:∀ g,va1=some g->va=some g\/w.heap.size<=g.block:=fun g hg=>by
  exact zz47
 have hZ5:∀ b,Zk Z w.heap.size 4 b->b<w5.heap.size:=fun b hb=>ltl (hZ4 b hb) hf4.size
 obtain ⟨k00,k01⟩:=cq2 h0;obtain ⟨f00,f01⟩:=fq2 h0;have l0:=h0.lt;obtain ⟨k30,k31⟩:=cq2 h3;obtain ⟨f30,f31⟩:=fq2 h3;have l3:=h3.lt;have h0h:=Hd h0;have h1h:=Hd h1;have h2h:=Hd h2;have h3h:=Hd h3;have hZ0:Zk Z w.heap.size 4 w.heap.size:=.inr (by omega);have hZ3:Zk Z w.heap.size 4 (w.heap.size+1+1+1):=.inr (by omega);have n0:=hn5 w.heap.size (by omega) (by omega);have n3:=hn5 (w.heap.size+1+1+1) (by omega) (by omega);replace hR5:=Hd hR5;replace hP5:=Hd hP5;replace hf5:=Hd hf5;replace hvv:=Hd hvv;replace hn5:=Hd hn5;replace hZ5:=Hd hZ5;replace hZ0:=Hd hZ0;replace hZ3:=Hd hZ3;replace n0:=Hd n0;replace n3:=Hd n3;clear h0 h1 h2 h3 hw4 hl4 hR4 hZ4 hf4 hv4;go_wp2_with fail
 refine qad (fun W=>Blk W w.heap.size 58 #[.slice ra hs.length rc,.slice va1 (x.vars.length+1) vc1]/\Blk W (w.heap.size+1) 58 #[.slice none 0 0,.slice none 0 0]/\Blk W (w.heap.size+1+1) 97 #[.slice none 0 0,.slice none 0 0]/\Blk W (w.heap.size+1+1+1) 97 #[.slice a1 (varP x.vars.length).length c1,.slice none 0 0]/\Rst (Zk Z w.heap.size 4) W B ⟨x.vars++[(1,step,0)],x.coords,x.free⟩ hs ra rc va1 vc1/\PolX (Yr (Zk Z w.heap.size 4) ra va1) W a1 c1 (varP x.vars.length)/\Fr (Yv ra va) w W/\(∀ b,Zk Z w.heap.size 4 b->b<W.heap.size)) ⟨by have a:=h0h.out;((with_reducible repeat first|assumption|(apply bF;focus omega)|apply bS|(apply bN;focus (simp;done))|apply bA|apply bD);all_goals rfl),by have a:=h1h.out;((with_reducible repeat first|assumption|(apply bF;focus omega)|apply bS|(apply bN;focus (simp;done))|apply bA|apply bD);all_goals rfl),by have a:=h2h.out;((with_reducible repeat first|assumption|(apply bF;focus omega)|apply bS|(apply bN;focus (simp;done))|apply bA|apply bD);all_goals rfl),by have a:=h3h.out;((with_reducible repeat first|assumption|(apply bF;focus omega)|apply bS|(apply bN;focus (simp;done))|apply bA|apply bD);all_goals rfl),?_,?_,?_,?_⟩ ?_
 · exact ((hR5.out.set_ hZ0.out n0.out).set_ hZ0.out n0.out).set_ hZ3.out n3.out
 · exact ((hP5.out.step (Agr.setc (.inr hZ0.out) (Agr.refl _ _))).step (Agr.setc (.inr hZ0.out) (Agr.refl _ _))).step (Agr.setc (.inr hZ3.out) (Agr.refl _ _))
 · exact ((hf5.out.setc (.inr (by omega))).setc (.inr (by omega))).setc (.inr (by omega))
 ·
  intro b hb;simp only [World.size_setCell];exact hZ5.out b hb
 clear k00 k01 f00 f01 l0 k30 k31 f30 f31 l3 h0h h1h h2h h3h hR5 hP5 hf5;rintro w6 ⟨h0,h1,h2,h3,hR6,hP6,hf6,hZ6⟩;have hl6:=h3.lt;have hln:(x.vars++[((1:Int),step,(0:Int))]).length=x.vars.length+1:=by simp
 have C2:=qc3 (Zk Z w.heap.size 4) B ⟨x.vars++[(1,step,0)],x.coords,x.free⟩ hs ra va1 rc vc1 1 step 1 w6 hR6 (by dsimp only;omega) hZ6 (by have:=hf6.size;omega);unfold qn7 at C2;dsimp only at C2;rw [hln,List.append_assoc] at C2;refine C2.mono ?_;rintro e w7 ⟨va5,vc5,a2,c2,rfl,hR7,hP7,hf7,hv7⟩;have m0:=hn5.out;replace h0:=h0.fr hf7 (m0 _ (by omega) (by omega));replace h1:=h1.fr hf7 (m0 _ (by omega) (by omega));replace h2:=h2.fr hf7 (m0 _ (by omega) (by omega));replace h3:=h3.fr hf7 (m0 _ (by omega) (by omega));have hP1:=hP6.move (qpk (Z:=Zk Z w.heap.size 4) (ra:=ra) hv7) (hf7.mono fun b hb=>.inl hb);have hf8:Fr (Yv ra va) w w7:=hf6.then_ hf7 fun b hb=>by
  exact zz48
 have hn7:∀ g,w.heap.size<=g->g<w.heap.size+4->¬ Yv ra va5 g:=fun g hg1 hg2=>qb5 (m0 g hg1 hg2) hv7 (by omega)
 have hvv7:∀ g,va5=some g->va=some g\/w.heap.size<=g.block:=fun g hg=>by
  have:=hf6.size;rcases hv7 g hg with e | e
  · exact hvv.out g e
  · exact .inr (by omega)
 obtain ⟨k00,k01⟩:=cq2 h0;obtain ⟨f00,f01⟩:=fq2 h0;have l0:=h0.lt;obtain ⟨k30,k31⟩:=cq2 h3;obtain ⟨f30,f31⟩:=fq2 h3;have l3:=h3.lt;have h0h:=Hd h0;have h1h:=Hd h1;have h2h:=Hd h2;have h3h:=Hd h3;have p0:=hn7 w.heap.size (by omega) (by omega);have p3:=hn7 (w.heap.size+1+1+1) (by omega) (by omega);replace hR7:=Hd hR7;replace hP7:=Hd hP7;replace hP1:=Hd hP1;replace hf8:=Hd hf8;replace p0:=Hd p0;replace p3:=Hd p3;replace hn7:=Hd hn7;replace hvv7:=Hd hvv7;clear h0 h1 h2 h3 hR6 hP6 hf6 hl6 hf7 hv7 m0 C2 hln hvv hn5 hZ5 hZ6;go_wp2
 refine qab (fun W=>Blk W w.heap.size 58 #[.slice ra hs.length rc,.slice va5 (x.vars.length+1+1) vc5]/\Blk W (w.heap.size+1) 58 #[.slice none 0 0,.slice none 0 0]/\Blk W (w.heap.size+1+1) 97 #[.slice none 0 0,.slice none 0 0]/\Blk W (w.heap.size+1+1+1) 97 #[.slice a1 (varP x.vars.length).length c1,.slice a2 (varP (x.vars.length+1)).length c2]/\Rst (Zk Z w.heap.size 4) W B ⟨x.vars++[(1,step,0),(1,step,1)],x.coords,x.free⟩ hs ra rc va5 vc5/\VecX (Yr (Zk Z w.heap.size 4) ra va5) W ⟨a1,c1,a2,c2⟩ (varP x.vars.length,varP (x.vars.length+1))/\Fr (Yv ra va) w W) ⟨by have a:=h0h.out;((with_reducible repeat first|assumption|(apply bF;focus omega)|apply bS|(apply bN;focus (simp;done))|apply bA|apply bD);all_goals rfl),by have a:=h1h.out;((with_reducible repeat first|assumption|(apply bF;focus omega)|apply bS|(apply bN;focus (simp;done))|apply bA|apply bD);all_goals rfl),by have a:=h2h.out;((with_reducible repeat first|assumption|(apply bF;focus omega)|apply bS|(apply bN;focus (simp;done))|apply bA|apply bD);all_goals rfl),by have a:=h3h.out;((with_reducible repeat first|assumption|(apply bF;focus omega)|apply bS|(apply bN;focus (simp;done))|apply bA|apply bD);all_goals rfl),?_,?_,?_⟩ ?_
 · exact ((hR7.out.set_ hZ0.out p0.out).set_ hZ0.out p0.out).set_ hZ3.out p3.out
 · exact VecX.step (VecX.step (VecX.step (w:=w7) ⟨hP1.out,hP7.out⟩ (Agr.setc (.inr hZ0.out) (Agr.refl _ _))) (Agr.setc (.inr hZ0.out) (Agr.refl _ _))) (Agr.setc (.inr hZ3.out) (Agr.refl _ _))
 · exact ((hf8.out.setc (.inr (by omega))).setc (.inr (by omega))).setc (.inr (by omega))
 clear k00 k01 f00 f01 l0 k30 k31 f30 f31 l3 h0h h1h h2h h3h hR7 hP7 hP1 hf8;rintro w5 ⟨h0,h1,h2,h3,hR5,hV5,hf5⟩;have hl5:=h3.lt;have hvv:=hvv7;have hn5:=hn7;obtain ⟨g1,hg1⟩:∃ g,g=w.heap.size+1:=⟨_,rfl⟩
 obtain ⟨g2,hg2⟩:∃ g,g=w.heap.size+1+1:=⟨_,rfl⟩
 obtain ⟨g3,hg3⟩:∃ g,g=w.heap.size+1+1+1:=⟨_,rfl⟩
 rw [<- hg3] at h3 ⊢;rw [<- hg2] at h2 ⊢;rw [<- hg1] at h1 ⊢;replace hR5:=Hd hR5;replace hV5:=Hd hV5;replace hf5:=Hd hf5;clear hZ0 hZ3;obtain ⟨b00,b01⟩:=cq2 h0;obtain ⟨b30,b31⟩:=cq2 h3;obtain ⟨L,hL⟩:∃ L:List (Addr × Value),L=[(⟨w.heap.size,0,none⟩,.slice ra hs.length rc),(⟨w.heap.size,1,none⟩,.slice va5 (x.vars.length+1+1) vc5),(⟨g3,0,none⟩,.slice a1 (varP x.vars.length).length c1),(⟨g3,1,none⟩,.slice a2 (varP (x.vars.length+1)).length c2)]:=⟨_,rfl⟩
 have y0:∀ W,Cs L W->W.cell? ⟨w.heap.size,0,none⟩=some (.slice ra hs.length rc):=fun W h=>h _ _ (by rw [hL];simp)
 have y1:∀ W,Cs L W->W.cell? ⟨w.heap.size,1,none⟩=some (.slice va5 (x.vars.length+1+1) vc5):=fun W h=>h _ _ (by rw [hL];simp)
 have y2:∀ W,Cs L W->W.cell? ⟨g3,0,none⟩=some (.slice a1 (varP x.vars.length).length c1):=fun W h=>h _ _ (by rw [hL];simp)
 have y3:∀ W,Cs L W->W.cell? ⟨g3,1,none⟩=some (.slice a2 (varP (x.vars.length+1)).length c2):=fun W h=>h _ _ (by rw [hL];simp)
 have hne:∀ p v,(p,v)∈L->p.block≠g1:=by
  rw [hL];intro p v hm;simp only [List.mem_cons,List.not_mem_nil,or_false,Prod.mk.injEq] at hm;rcases hm with ⟨rfl,_⟩ | ⟨rfl,_⟩ | ⟨rfl,_⟩ | ⟨rfl,_⟩ <;> (dsimp only;omega)
 have s0:Cs L w5.drew:=by
  exact zz46
 obtain ⟨k10,k11⟩:=cq2 h1;obtain ⟨f10,f11⟩:=fq2 h1;have l1:=h1.lt;obtain ⟨k20,k21⟩:=cq2 h2;obtain ⟨f20,f21⟩:=fq2 h2;have l2:=h2.lt;have q1:w.heap.size<=g1:=by omega
 have q2:w.heap.size<=g2:=by omega
 have hZ1:Zk Z w.heap.size 4 g1:=.inr (by omega);have hZ2:Zk Z w.heap.size 4 g2:=.inr (by omega);have n1:¬ Yv ra va5 g1:=hn5.out g1 q1 (by omega);have n2:¬ Yv ra va5 g2:=hn5.out g2 q2 (by omega);have d12:g1≠g2:=by omega
 have hLh:=Hd hL;have hneh:=Hd hne;replace hg1:=Hd hg1;replace hg2:=Hd hg2;replace hg3:=Hd hg3;have h1h:=Hd h1;have h2h:=Hd h2;replace hZ1:=Hd hZ1;replace hZ2:=Hd hZ2;replace n1:=Hd n1;replace n2:=Hd n2;clear h0 h1 h2 h3 b00 b01 b30 b31 hL hne;refine wrx (S:=Cs L) [(0,.q),(1,.q),(2,.l),(3,.t)] (s0) ?_
 iterate 2 (refine qaj rfl rfl fun K hK=>xq ?_;go_simp;refine hK _ _ ?_;clear hK K)
 refine qag rfl rfl (fun K hK=>?_);go_simp;refine hK.out _ _ ((s0.setc hneh.out).setc hneh.out) (fun _=>?_);clear hK K;refine qae rfl rfl (fun K hK=>?_);go_simp;refine hK.out _ _ ?_;clear hK K;refine qai ?_;clear k10 k11 f10 f11 l1 k20 k21 f20 f21 l2 s0 y0 y1 y2 y3;go_wp2;refine qab (fun W=>Blk W g1 58 #[.slice ra hs.length rc,.slice va5 (x.vars.length+1+1) vc5]/\Blk W g2 97 #[.slice a1 (varP x.vars.length).length c1,.slice a2 (varP (x.vars.length+1)).length c2]/\Rst Z W B ⟨x.vars++[(1,step,0),(1,step,1)],x.coords,x.free⟩ hs ra rc va5 vc5/\VecX (Yr Z ra va5) W ⟨a1,c1,a2,c2⟩ (varP x.vars.length,varP (x.vars.length+1))/\Fr (Yv ra va) w W) ⟨?_,?_,?_,?_,?_⟩ ?_
 ·
  have a:=h1h.out
  ((with_reducible repeat first|assumption|(apply bF;focus omega)|apply bS|(apply bN;focus (simp;done))|apply bA|apply bD);all_goals rfl)
 ·
  have a:=h2h.out
  ((with_reducible repeat first|assumption|(apply bF;focus omega)|apply bS|(apply bN;focus (simp;done))|apply bA|apply bD);all_goals rfl)
 · exact (((((hR5.out.set_ hZ1.out n1.out).set_ hZ1.out n1.out).set_ hZ2.out n2.out).set_ hZ2.out n2.out).less fun b hb=>.inl hb).call (brf.drew)
 ·
  exact zz45
 · exact ((((hf5.out.setc (.inr q1)).setc (.inr q1)).setc (.inr q2)).setc (.inr q2)).call (brf.drew)
 rintro w6 ⟨hF1,hF2,hR6,hV6,hf6⟩;obtain ⟨e0,e1⟩:=cq2 hF1;obtain ⟨e2,e3⟩:=cq2 hF2;refine bodyPost_ret (v:=.tuple #[.agg #[.slice ra hs.length rc,.slice va5 (x.vars.length+1+1) vc5],.agg #[.slice a1 (varP x.vars.length).length c1,.slice a2 (varP (x.vars.length+1)).length c2]]) (by simp [results,Tryz.results174,go_sem,e0,e1,e2,e3]) rfl ?_;exact ⟨va5,vc5,⟨a1,c1,a2,c2⟩,by simp,hR6,hV6,hf6,hvv.out⟩
theorem qum (Z:Nat->Prop) (B:Nat) (x:Frm) (hs:List (VQ × Vec)) (ra va:Option Addr) (rc vc:Nat) (step:Int) (w:World) (hR:Rst Z w B x hs ra rc va vc) (hl:x.vars.length<=900) (hZ:∀ b,Z b->b<w.heap.size) (hBw:B<=w.heap.size) :
  Calls Tryz.prog 174 #[.agg #[.slice ra hs.length rc,.slice va x.vars.length vc],.int .i64 step,.int .i64 x.free] w (qdb Z B x (qci x step) hs ra rc va w):=by
 by_cases h0:x.free=0
 ·
  have:=qqd Z B x hs ra va rc vc step w hR;rw [h0];simpa [qci,h0] using this
 ·
  by_cases h1:x.free=1
  ·
   have:=qro Z B x hs ra va rc vc step w hR hl hZ hBw;rw [h1];simpa [qci,h1] using this
  ·
   have:=qqg Z B x hs ra va rc vc step x.free (by omega) w hR hl hZ hBw;simpa [qci,h0,h1] using this
end Go.Proofs.YtfaalkneigpcnaaGreatDoor
