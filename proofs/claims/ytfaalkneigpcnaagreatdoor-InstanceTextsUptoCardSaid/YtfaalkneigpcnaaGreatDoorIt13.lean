/- The point of a step by the program's builder: all that is walked of it, said once. -/
import Derived.Test.YtfaalkneigpcnaaGreatDoorIt12
import Derived.Deep.CutRange
set_option linter.all false
set_option maxRecDepth 100000
set_option maxHeartbeats 4000000
namespace Go.Proofs.YtfaalkneigpcnaaGreatDoor
open Go.RowKit
theorem qup (a:Option Addr) (n c i:Nat) (hi:i<=n) (w:World) :
  (Instr.slice 31 (.slice a n c) (some (.int .i64 (i:Int))) none none).run Tryz.prog w=.ok (.slice (if c=i then a else a.map (·.add (i*3))) (n-i) (c-i)) w:=by
 obtain ⟨d,hd,hz,hsz,hby⟩:=info_parts qlh;have hu:=Tryz.underlying31;have he:Tryz.prog.elem 31=51:=by unfold Program.elem;rw [hu]
 have:=run_slice_l (P:=Tryz.prog) (w:=w) 31 a n c (by rw [hu,he]) .i64 i (by omega) (by omega);rw [this,he];simp [sizeOf,typeInfo,hd,hsz,sliced]
theorem QsR.tail {w:World} {a:Option Addr} {c:Nat} {q:Rat} {l:List Rat} (h:QsR w a c (q :: l)):QsR w (if c=1 then a else a.map (·.add (1*3))) (c-1) l:=by
 have hc:=h.1;rw [List.length_cons] at hc;refine ⟨by omega,by have:=h.2.1;omega,fun k x hx=>?_⟩;obtain ⟨b,off,rfl,hA⟩:=h.2.2 (k+1) x hx;have hlt:=qaw hx;rw [if_neg (by omega)];refine ⟨b,off+3,by rw [Option.map_some,Addr.add_lit],?_⟩
 rwa [show off+3+k*3=off+(k+1)*3 by omega]
theorem set3v {a0 a1 a2 a3 a4 a5 v0 v1 v2:Value}:(((#[a0,a1,a2,a3,a4,a5]:Array Value).setIfInBounds 0 v0).setIfInBounds 1 v1).setIfInBounds 2 v2=#[v0,v1,v2,a3,a4,a5]:=by simp
theorem set3w {a0 a1 a2 a3 a4 a5 v0 v1 v2:Value}:(((#[a0,a1,a2,a3,a4,a5]:Array Value).setIfInBounds 3 v0).setIfInBounds 4 v1).setIfInBounds 5 v2=#[a0,a1,a2,v0,v1,v2]:=by simp
theorem Blk.lo3 {w:World} {g:Nat} {t:TypeId} {a0 a1 a2 a3 a4 a5 v0 v1 v2:Value} (h:Blk w g t #[a0,a1,a2,a3,a4,a5]):Blk (((w.setCell ⟨g,0,none⟩ v0).setCell ⟨g,1,none⟩ v1).setCell ⟨g,2,none⟩ v2) g t #[v0,v1,v2,a3,a4,a5]:=by
 have:=((h.set_ 0 v0).set_ 1 v1).set_ 2 v2;rw [set3v] at this;exact this
theorem Blk.hi3 {w:World} {g:Nat} {t:TypeId} {a0 a1 a2 a3 a4 a5 v0 v1 v2:Value} (h:Blk w g t #[a0,a1,a2,a3,a4,a5]):Blk (((w.setCell ⟨g,3,none⟩ v0).setCell ⟨g,4,none⟩ v1).setCell ⟨g,5,none⟩ v2) g t #[a0,a1,a2,v0,v1,v2]:=by
 have:=((h.set_ 3 v0).set_ 4 v1).set_ 5 v2;rw [set3w] at this;exact this
def Sits (va va':Option Addr):Prop:=∀ P:Nat->Prop,(∀ g:Addr,va=some g->P g.block)->∀ g:Addr,va'=some g->P g.block
theorem Sits.refl (va:Option Addr):Sits va va:=fun _ h=>h
theorem Sits.trans {a b c:Option Addr} (h:Sits a b) (k:Sits b c):Sits a c:=fun P e=>k P (h P e)
theorem qp1 (va:Option Addr) (vc:Nat):Sits va (if vc=1 then va else va.map (·.add (1*3))):=fun P h g hg=>by
 split at hg
 · exact h g hg
 ·
  cases va with
  | none=>cases hg
  | some p=>simp at hg;subst hg;exact h p rfl
theorem qhq (X:Nat->Prop) (G:Nat) (u0 u1 u2 u4:Value) (fr:Int) (va:Option Addr) (vc:Nat) (q:Rat) (l:List Rat) (w:World) (hB:Blk w G 66 #[u0,u1,u2,.slice va (l.length+1) vc,u4,.int .i64 fr]) (hV:Rd X w fun V=>QsR V va vc (q :: l)) (hG:X G) (hX:∀ b,X b->b<w.heap.size) (hnX:∀ g,va=some g->¬ X g.block) :
  Calls Tryz.prog 50 #[.pointer (some ⟨G,0,none⟩)] w fun e w'=>∃ (x:QA) (va':Option Addr) (vc':Nat),e=.returned (.agg #[.bool x.neg,.slice x.a x.n x.c,.slice x.b x.m x.d])/\Rd X w' (fun V=>QAc V x q) /\
   Blk w' G 66 #[u0,u1,u2,.slice va' l.length vc',u4,.int .i64 fr]/\Rd X w' (fun V=>QsR V va' vc' l)/\Fr (fun b=>b=G) w w'/\Sits va va':=by
 have hV0:=hV.now;obtain ⟨b,off,rfl,x,c0,c1,c2,hx⟩:=hV0.2.2 0 q rfl;have hcap:=hV0.1;have hcm:=hV0.2.1;have hlen:=SlR.len hV0;rw [List.length_cons] at hcap hlen;have hbX:¬ X b:=hnX _ rfl;have hxR:Rd X w fun V=>QAc V x q:=fun V hAg=>by
  obtain ⟨b',off',e,y,d0,d1,d2,hy⟩:=(hV V hAg).2.2 0 q rfl;injection e with e
  injection e with e1 e2
  subst e1 e2;have a0:=hAg _ _ hbX c0;have a1:=hAg _ _ hbX c1;have a2:=hAg _ _ hbX c2;rw [d0] at a0;rw [d1] at a1;rw [d2] at a2;obtain ⟨x1,x2,x3,x4,x5,x6,x7⟩:=x;obtain ⟨y1,y2,y3,y4,y5,y6,y7⟩:=y;injection a0 with a0;injection a0 with a0
  injection a1 with a1;injection a1 with f1 f2 f3
  injection a2 with a2;injection a2 with g1 g2 g3
  dsimp only at a0 f1 f2 f3 g1 g2 g3;subst a0 f1 f2 f3 g1 g2 g3;exact hy
 have hTX:=qp1 (some ⟨b,off,none⟩) vc;have hT:Rd X w fun V=>QsR V (if vc=1 then (some ⟨b,off,none⟩) else (some (⟨b,off,none⟩:Addr)).map (·.add (1*3))) (vc-1) l:=hV.imp fun V h=>QsR.tail h
 have S1:∀ W,(Instr.slice 31 (.slice (some ⟨b,off,none⟩) (l.length+1) vc) (some (.int .i64 1)) none none).run Tryz.prog W=.ok (.slice (if vc=1 then (some ⟨b,off,none⟩) else (some (⟨b,off,none⟩:Addr)).map (·.add (1*3))) l.length (vc-1)) W:=fun W=>by
  have:=qup (some ⟨b,off,none⟩) (l.length+1) vc 1 (by omega) W;simpa using this
 revert hT S1 hTX;generalize (if vc=1 then (some (⟨b,off,none⟩:Addr)) else (some (⟨b,off,none⟩:Addr)).map (·.add (1*3)))=va';generalize vc-1=vc';intro hTX hT S1;rw [Nat.zero_mul,Nat.add_zero] at c0 c1 c2;have hbl:b<w.heap.size:=World.block_lt_of_cell? w _ c0;have hGl:=hB.lt;have hGb:G≠b:=fun e=>hbX (e ▸ hG)
 have k3:=hB.cell 3;have f3:=hB.frozen 3;have HB:=Hd hB;replace hT:=Hd hT;replace hxR:=Hd hxR;replace hX:=Hd hX;replace hTX:=Hd hTX;have hG':=Hd hG;clear hV hV0 hB hG hnX hbX hx hcm;go_enter Tryz.func50,Tryz.ntmps50;go_wp2;refine qab (fun W=>Blk W G 66 #[u0,u1,u2,.slice va' l.length vc',u4,.int .i64 fr]/\Blk W w.heap.size 51 #[.bool x.neg,.slice x.a x.n x.c,.slice x.b x.m x.d]/\Rd X W (fun V=>QAc V x q)/\Rd X W (fun V=>QsR V va' vc' l)/\Fr (fun b=>b=G) w W)
  ⟨by have hB:=HB.out;((with_reducible repeat first|assumption|(apply bF;focus omega)|apply bS|(apply bN;focus (simp;done))|apply bA|apply bD);all_goals rfl),by ((with_reducible repeat first|assumption|(apply bF;focus omega)|apply bS|(apply bN;focus (simp;done))|apply bA|apply bD);all_goals rfl),((hxR.out.setc hG'.out).alloc _).alloc _,((hT.out.setc hG'.out).alloc _).alloc _,(((Fr.refl (fun b=>b=G) w).setc (.inl (show G=G from rfl))).alloc _).alloc _⟩ ?_
 rintro wF ⟨hF,hr,h1,h2,h3⟩;obtain ⟨e0,e1,e2⟩:=cq3 hr;refine bodyPost_ret (v:=.agg #[.bool x.neg,.slice x.a x.n x.c,.slice x.b x.m x.d]) (by simp [results,Tryz.results50,go_sem,e0,e1,e2]) rfl ?_;exact ⟨x,va',vc',rfl,h1,hF,h2,h3,hTX.out⟩
theorem qte:qat (decide ((0:Int)<0)) (0:Int).natAbs 1=trip 0:=by
 have:=qeq 0 1;rw [this]
 rfl
theorem qtq:qsz 0<=1:=qfr (qal (by decide)) (qal (by decide))
theorem qr4 (w:World):Calls Tryz.prog 102 #[.int .i64 0] w (RetQK 1 0 w):=by
 have:=qh3 0 w ⟨by omega,by omega⟩;rw [qte] at this;exact this.mono fun _ _ h=>qfl qtq h
def BldV (X:Nat->Prop) (G:Nat) (u0 u1 u2 u4:Value) (va':Option Addr) (vc':Nat) (l:List Rat) (n:Nat) (w':World):Prop :=
 Blk w' G 66 #[u0,u1,u2,.slice va' l.length vc',u4,.int .i64 (n:Int)]/\Rd X w' (fun V=>QsR V va' vc' l)
def RetFP (X:Nat->Prop) (G:Nat) (u0 u1 u2 u4:Value) (va:Option Addr) (t:P2 × Cho) (w:World) (e:Ending) (w':World):Prop :=
 ∃ (x y:QA) (va':Option Addr) (vc':Nat),e=.returned (.agg #[.bool x.neg,.slice x.a x.n x.c,.slice x.b x.m x.d,.bool y.neg,.slice y.a y.n y.c,.slice y.b y.m y.d])/\Rd X w' (fun V=>QAc V x t.1.1)/\Rd X w' (fun V=>QAc V y t.1.2)/\BldV X G u0 u1 u2 u4 va' vc' t.2.vals t.2.free w'/\Fr (fun b=>b=G) w w'/\Sits va va'
theorem qt3 (c:Cho):freeC c=(((if 0<c.free then c.vals.headD 0 else 0),(if 1<c.free then c.vals.tail.headD 0 else 0)),⟨if 1<c.free then c.vals.tail.tail else if 0<c.free then c.vals.tail else c.vals,c.free+1⟩):=by
 unfold freeC;by_cases h0:c.free=0
 · rw [if_pos h0,if_neg (by omega),if_neg (by omega),if_neg (by omega),if_neg (by omega),h0]
 ·
  rw [if_neg h0];by_cases h1:c.free=1
  · rw [if_pos h1,if_pos (by omega),if_neg (by omega),if_neg (by omega),if_pos (by omega),h1]
  · rw [if_neg h1,if_pos (by omega),if_pos (by omega),if_pos (by omega)]
theorem qks (X:Nat->Prop) (G:Nat) (u0 u1 u2 u4:Value) (va:Option Addr) (vc:Nat) (c:Cho) (w:World) (hS:BldV X G u0 u1 u2 u4 va vc c.vals c.free w) (hG:X G) (hX:∀ b,X b->b<w.heap.size) (hnX:∀ g,va=some g->¬ X g.block/\g.block<w.heap.size)
  (h1:1<=c.free->1<=c.vals.length) (h2:2<=c.free->2<=c.vals.length) (h3:c.free<=1000) :
  Calls Tryz.prog 46 #[.pointer (some ⟨G,0,none⟩)] w (RetFP X G u0 u1 u2 u4 va (freeC c) w):=by
 rw [qt3];obtain ⟨vals,n⟩:=c;unfold BldV at hS;dsimp only at hS h1 h2 h3 ⊢;obtain ⟨PX,hPX⟩:∃ q,(if 0<n then vals.headD 0 else 0)=q:=⟨_,rfl⟩
 obtain ⟨PY,hPY⟩:∃ q,(if 1<n then vals.tail.headD 0 else 0)=q:=⟨_,rfl⟩
 obtain ⟨L1,hL1⟩:∃ q,(if 0<n then vals.tail else vals)=q:=⟨_,rfl⟩
 obtain ⟨L2,hL2⟩:∃ q,(if 1<n then vals.tail.tail else L1)=q:=⟨_,rfl⟩
 rw [hPX,hPY,hL1,hL2];have H1:=Hd h1;have H2:=Hd h2;replace hPX:=Hd hPX;replace hPY:=Hd hPY;replace hL1:=Hd hL1;replace hL2:=Hd hL2;clear h1 h2;obtain ⟨hB,hV⟩:=hS;have HB:=Hd hB;have HV:=Hd hV;have HX:=Hd hX;have HG:=Hd hG;have HN:=Hd hnX;have hGl:=hB.lt;clear hB hV hX hG hnX;go_enter Tryz.func46,Tryz.ntmps46;go_wp2_with fail;refine qad (fun W=>Blk W w.heap.size 69 #[.bool false,.slice none 0 0,.slice none 0 0,.bool false,.slice none 0 0,.slice none 0 0]/\Below w.heap.size w W/\w.heap.size<W.heap.size) ⟨by ((with_reducible repeat first|assumption|(apply bF;focus omega)|apply bS|(apply bN;focus (simp;done))|apply bA|apply bD);all_goals rfl),by go_grown,by simp⟩ ?_;rintro w0 ⟨hz,hw0,hlz⟩;obtain ⟨g2,hg2⟩:∃ g,w.heap.size=g:=⟨_,rfl⟩
 have hGg:G<g2:=by omega
 have hz':Blk w0 g2 69 #[.bool false,.slice none 0 0,.slice none 0 0,.bool false,.slice none 0 0,.slice none 0 0]:=hg2 ▸ hz;simp only [hg2];clear hz;replace hg2:=Hd hg2;replace hlz:=Hd hlz;refine (qr4 w0).mono ?_;rintro e w1 ⟨z1,rfl,K1,hb1⟩;replace hz':=hz'.below' hb1;have hw1:=bth hw0 hb1;replace K1:=Hd K1;go_wp2_with fail;refine (qr4 w1).mono ?_;rintro e w2 ⟨z2,rfl,K2,hb2⟩;replace hz':=hz'.below' hb2;have hw2:=bth hw1 hb2;obtain ⟨g3,hg3⟩:∃ g,w2.heap.size=g:=⟨_,rfl⟩
 have hz0:∀ b,(X b\/b=g2\/b=g3)->b<w0.heap.size\/w1.heap.size<=b:=fun b hb=>by
  have e1:=hg2.out;have e2:=hlz.out;have e3:=hw0.size;have e4:=hb2.size;rcases hb with hb | rfl | rfl
  · have:=HX.out b hb;omega
  · omega
  · omega
 have hz1:∀ b,(X b\/b=g2\/b=g3)->b<w1.heap.size\/w2.heap.size<=b:=fun b hb=>by
  have e1:=hg2.out;have e2:=hlz.out;have e3:=hw0.size;have e4:=hb1.size;rcases hb with hb | rfl | rfl
  · have:=HX.out b hb;omega
  · omega
  · omega
 have r1:Rd (fun b=>X b\/b=g2\/b=g3) w2 (fun V=>QAc V z1 0):=Rd.kp ((K1.out.call hb2).imp fun V h=>h.1) fun b hb=>(hz0 b hb).elim .inl fun h=>.inr h
 have r2:Rd (fun b=>X b\/b=g2\/b=g3) w2 (fun V=>QAc V z2 0):=Rd.kp (K2.imp fun V h=>h.1) hz1;have rV:Rd (fun b=>X b\/b=g2\/b=g3) w2 (fun V=>QsR V va vc vals):=(HV.out.more fun b hb=>by
  have e1:=hg2.out;have e2:=hw2.size;rcases hb with hb | rfl | rfl
  · exact .inl hb
  · exact .inr (by omega)
  · exact .inr (by omega)).call hw2
 have HB2:=HB.out.below' hw2;have hgE:w.heap.size<=g2:=by have:=hg2.out;omega
 have hgF:w.heap.size<=g3:=by have:=hw2.size;omega
 have hgL:g2<w2.heap.size:=hz'.lt;have hGL:G<w2.heap.size:=HB2.lt;have hg23:g2<g3:=by omega
 have hn1:¬ G=g2:=by omega
 have hn2:¬ g2=G:=by omega
 replace hg3:=Hd hg3;replace r1:=Hd r1;replace r2:=Hd r2;replace rV:=Hd rV;have HW2:=Hd hw2;clear K1 K2 hb1 hb2 hw1 hw0 hw2 hz0 hz1;replace HB2:=Hd HB2;replace hz':=Hd hz';have k5:=HB2.out.cell 5
 go_upto_if 11 with fail
 rw [hg3.out];refine qab (fun W=>Blk W g3 69 #[.bool z1.neg,.slice z1.a z1.n z1.c,.slice z1.b z1.m z1.d,.bool z2.neg,.slice z2.a z2.n z2.c,.slice z2.b z2.m z2.d]/\Blk W g2 69 #[.bool false,.slice none 0 0,.slice none 0 0,.bool false,.slice none 0 0,.slice none 0 0]/\Blk W G 66 #[u0,u1,u2,.slice va vals.length vc,u4,.int .i64 (n:Int)]/\Rd (fun b=>X b\/b=g2\/b=g3) W (fun V=>QsR V va vc vals)/\Rd (fun b=>X b\/b=g2\/b=g3) W (fun V=>QAc V z1 0)/\Rd (fun b=>X b\/b=g2\/b=g3) W (fun V=>QAc V z2 0)/\Fr (fun b=>b=G) w W)
  ⟨bN (by simp [hg3.out]),bA hz'.out,bA HB2.out,rV.out.alloc _,r1.out.alloc _,r2.out.alloc _,(Fr.below HW2.out).alloc _⟩ ?_
 rintro w3 ⟨b3,bz,bG,rV3,r13,r23,hF3⟩;have hZw:∀ W:World,g3<W.heap.size->∀ b,(X b\/b=g2\/b=g3)->b<W.heap.size:=fun W hW b hb=>by
  have e1:=HW2.out.size;have e2:=hg3.out;rcases hb with hb | rfl | rfl
  · have:=HX.out b hb;omega
  · omega
  · exact hW
 have hNZ:∀ g,va=some g->¬ (X g.block\/g.block=g2\/g.block=g3):=fun g hg=>by
  have e1:=(HN.out g hg).1;have e2:=(HN.out g hg).2;have e3:=hg2.out;rintro (hb | hb | hb)
  · exact e1 hb
  · omega
  · omega
 have h3l:=b3.lt;replace hZw:=Hd hZw;replace hNZ:=Hd hNZ;replace b3:=Hd b3;replace bz:=Hd bz;replace bG:=Hd bG;replace rV3:=Hd rV3;replace r13:=Hd r13;replace r23:=Hd r23;replace hF3:=Hd hF3;clear k5 hz' HB2 r1 r2 rV
 go_cut [3] from 7 (fun s3 wc=>∃ (zx:QA) (va1:Option Addr) (vc1:Nat),s3=.pointer (some ⟨g3,0,none⟩)/\Hid (Blk wc g3 69 #[.bool zx.neg,.slice zx.a zx.n zx.c,.slice zx.b zx.m zx.d,.bool z2.neg,.slice z2.a z2.n z2.c,.slice z2.b z2.m z2.d])/\Hid (Blk wc g2 69 #[.bool false,.slice none 0 0,.slice none 0 0,.bool false,.slice none 0 0,.slice none 0 0])/\Hid (Blk wc G 66 #[u0,u1,u2,.slice va1 L1.length vc1,u4,.int .i64 (n:Int)])/\Hid (Rd (fun b=>X b\/b=g2\/b=g3) wc fun V=>QsR V va1 vc1 L1)/\Hid (Rd (fun b=>X b\/b=g2\/b=g3) wc fun V=>QAc V zx PX)/\Hid (Rd (fun b=>X b\/b=g2\/b=g3) wc fun V=>QAc V z2 0)/\Hid (Fr (fun b=>b=G) w wc)/\Hid (Sits va va1))
 case first =>
  by_cases hn:0<n
  ·
   cases vals with
   | nil=>have:=H1.out (by omega);simp at this
   | cons q l =>
    obtain rfl:q=PX:=by have e:=hPX.out;rw [if_pos hn] at e;exact e
    obtain rfl:l=L1:=by have e:=hL1.out;rw [if_pos hn] at e;exact e
    have CV:=Hd (qhq (fun b=>X b\/b=g2\/b=g3) G u0 u1 u2 u4 (n:Int) va vc q l w3 bG.out rV3.out (.inl HG.out) (hZw.out _ h3l) hNZ.out);go_wp2_with fail;refine CV.out.mono ?_;rintro e w4 ⟨x,va',vc',rfl,hx,bG4,rV4,hF4,hS4⟩;have b34:=b3.out.fr hF4 (show ¬ g3=G by omega);have bz4:=bz.out.fr hF4 (show ¬ g2=G by omega);have r24:=(r23.out).move (fun b hb=>.inl hb) (hF4.mono fun b hb=>.inl (hb ▸ HG.out));have FRH:=Hd (hF3.out.trans hF4);replace hx:=Hd hx;replace bG4:=Hd bG4;replace rV4:=Hd rV4;replace hF4:=Hd hF4;replace hS4:=Hd hS4;replace bz4:=Hd bz4;replace r24:=Hd r24;obtain ⟨y0,y1,y2⟩:=cq3 b34;obtain ⟨f0,f1,f2⟩:=fq3 b34;replace b34:=Hd b34;clear CV b3 bz bG hF3;go_wp2
    go_meet
    case rel=>exact ⟨x,va',vc',rfl,Hd (Blk.lo3 b34.out),Hd (by have:=bz4.out;((with_reducible repeat first|assumption|(apply bF;focus omega)|apply bS|(apply bN;focus (simp;done))|apply bA|apply bD);all_goals rfl)),Hd (by have:=bG4.out;((with_reducible repeat first|assumption|(apply bF;focus omega)|apply bS|(apply bN;focus (simp;done))|apply bA|apply bD);all_goals rfl)),Hd (by (with_reducible repeat first | exact rV4.out | (refine Rd.setc (by first | exact .inl HG.out | exact .inr (.inl rfl) | exact .inr (.inr rfl)) ?_) | refine Rd.alloc ?_ _ | refine Rd.drew ?_)),Hd (by (with_reducible repeat first | exact hx.out | (refine Rd.setc (by first | exact .inl HG.out | exact .inr (.inl rfl) | exact .inr (.inr rfl)) ?_) | refine Rd.alloc ?_ _ | refine Rd.drew ?_)),Hd (by (with_reducible repeat first | exact r24.out | (refine Rd.setc (by first | exact .inl HG.out | exact .inr (.inl rfl) | exact .inr (.inr rfl)) ?_) | refine Rd.alloc ?_ _ | refine Rd.drew ?_)),Hd (by (with_reducible repeat first | exact FRH.out | refine Fr.setc ?_ (by first | exact .inl rfl | exact .inr (by omega)) | refine Fr.alloc ?_ _)),hS4⟩
  ·
   obtain rfl:vals=L1:=by have e:=hL1.out;rw [if_neg hn] at e;exact e
   obtain rfl:0=PX:=by have e:=hPX.out;rw [if_neg hn] at e;exact e
   go_wp2
   go_meet
   case rel=>exact ⟨z1,va,vc,rfl,b3,bz,bG,rV3,r13,r23,hF3,Hd (Sits.refl _)⟩
 case rest =>
  clear b3 bz bG rV3 r13 r23 hF3 h3l;obtain ⟨zx,va1,vc1,rfl,b3,bz,bG,rV3,r13,r23,hF3,hS3⟩:=hcut;obtain ⟨wo,rfl⟩:∃ wo:World,wo=wc:=⟨_,rfl⟩
  have h3l:=b3.out.lt;have hGl3:=bG.out.lt;have k5:=bG.out.cell 5
  go_upto_if 19 with fail
  go_cut [3] from 15 (fun s3 wc=>∃ (zy:QA) (va2:Option Addr) (vc2:Nat),s3=.pointer (some ⟨g3,0,none⟩)/\Hid (Blk wc g3 69 #[.bool zx.neg,.slice zx.a zx.n zx.c,.slice zx.b zx.m zx.d,.bool zy.neg,.slice zy.a zy.n zy.c,.slice zy.b zy.m zy.d])/\Hid (Blk wc g2 69 #[.bool false,.slice none 0 0,.slice none 0 0,.bool false,.slice none 0 0,.slice none 0 0])/\Hid (Blk wc G 66 #[u0,u1,u2,.slice va2 L2.length vc2,u4,.int .i64 (n:Int)])/\Hid (Rd (fun b=>X b\/b=g2\/b=g3) wc fun V=>QsR V va2 vc2 L2)/\Hid (Rd (fun b=>X b\/b=g2\/b=g3) wc fun V=>QAc V zx PX)/\Hid (Rd (fun b=>X b\/b=g2\/b=g3) wc fun V=>QAc V zy PY)/\Hid (Fr (fun b=>b=G) w wc)/\Hid (Sits va va2))
  case first =>
   by_cases hn:1<n
   ·
    have hL1':vals.tail=L1:=by have e:=hL1.out;rw [if_pos (by omega)] at e;exact e
    cases L1 with
    | nil =>
     have e1:=H2.out (by omega);have e2:vals.tail.length=0:=by rw [hL1'];rfl
     rw [List.length_tail] at e2
     omega
    | cons q l =>
     obtain rfl:q=PY:=by have e:=hPY.out;rw [if_pos hn,hL1'] at e;exact e
     obtain rfl:l=L2:=by have e:=hL2.out;rw [if_pos hn,hL1'] at e;exact e
     clear hL1';have CV:=Hd (qhq (fun b=>X b\/b=g2\/b=g3) G u0 u1 u2 u4 (n:Int) va1 vc1 q l wo bG.out rV3.out (.inl HG.out) (hZw.out _ h3l) (hS3.out (fun b=>¬ (X b\/b=g2\/b=g3)) hNZ.out));clear k5;go_wp2_with fail;refine CV.out.mono ?_;rintro e w4 ⟨x,va',vc',rfl,hx,bG4,rV4,hF4,hS4⟩;have b34:=b3.out.fr hF4 (show ¬ g3=G by omega);have bz4:=bz.out.fr hF4 (show ¬ g2=G by omega);have r24:=(r13.out).move (fun b hb=>.inl hb) (hF4.mono fun b hb=>.inl (hb ▸ HG.out));have FRH:=Hd (hF3.out.trans hF4);replace hx:=Hd hx;replace bG4:=Hd bG4;replace rV4:=Hd rV4;replace hF4:=Hd hF4;replace hS4:=Hd hS4;replace bz4:=Hd bz4;replace r24:=Hd r24;have y0:=b34.cell 3;have y1:=b34.cell 4;have y2:=b34.cell 5;have f0:=b34.frozen 3;have f1:=b34.frozen 4;have f2:=b34.frozen 5;replace b34:=Hd b34;clear CV b3 bz bG hF3;go_wp2
     go_meet
     case rel=>exact ⟨x,va',vc',rfl,Hd (Blk.hi3 b34.out),Hd (by have:=bz4.out;((with_reducible repeat first|assumption|(apply bF;focus omega)|apply bS|(apply bN;focus (simp;done))|apply bA|apply bD);all_goals rfl)),Hd (by have:=bG4.out;((with_reducible repeat first|assumption|(apply bF;focus omega)|apply bS|(apply bN;focus (simp;done))|apply bA|apply bD);all_goals rfl)),Hd (by (with_reducible repeat first | exact rV4.out | (refine Rd.setc (by first | exact .inl HG.out | exact .inr (.inl rfl) | exact .inr (.inr rfl)) ?_) | refine Rd.alloc ?_ _ | refine Rd.drew ?_)),Hd (by (with_reducible repeat first | exact r24.out | (refine Rd.setc (by first | exact .inl HG.out | exact .inr (.inl rfl) | exact .inr (.inr rfl)) ?_) | refine Rd.alloc ?_ _ | refine Rd.drew ?_)),Hd (by (with_reducible repeat first | exact hx.out | (refine Rd.setc (by first | exact .inl HG.out | exact .inr (.inl rfl) | exact .inr (.inr rfl)) ?_) | refine Rd.alloc ?_ _ | refine Rd.drew ?_)),Hd (by (with_reducible repeat first | exact FRH.out | refine Fr.setc ?_ (by first | exact .inl rfl | exact .inr (by omega)) | refine Fr.alloc ?_ _)),Hd (hS3.out.trans hS4.out)⟩
   ·
    obtain rfl:L1=L2:=by have e:=hL2.out;rw [if_neg hn] at e;exact e
    obtain rfl:0=PY:=by have e:=hPY.out;rw [if_neg hn] at e;exact e
    go_wp2
    go_meet
    case rel=>exact ⟨z2,va1,vc1,rfl,b3,bz,bG,rV3,r13,r23,hF3,hS3⟩
  case rest =>
   clear b3 bz bG rV3 r13 r23 hF3 h3l hGl3 k5;obtain ⟨zy,va2,vc2,rfl,b3,bz,bG,rV3,r13,r23,hF3,hS4⟩:=hcut;obtain ⟨W1,hW1⟩:∃ W,wc.setCell ⟨G,5,none⟩ (.int .i64 ((n:Int)+1))=W:=⟨_,rfl⟩
   have bG1:Blk W1 G 66 #[u0,u1,u2,.slice va2 L2.length vc2,u4,.int .i64 ((n:Int)+1)]:=by rw [<- hW1];exact bG.out.set_ 5 _
   have bz1:Blk W1 g2 69 #[.bool false,.slice none 0 0,.slice none 0 0,.bool false,.slice none 0 0,.slice none 0 0]:=by rw [<- hW1];exact bz.out.farAt (by omega)
   have b31:Blk W1 g3 69 #[.bool zx.neg,.slice zx.a zx.n zx.c,.slice zx.b zx.m zx.d,.bool zy.neg,.slice zy.a zy.n zy.c,.slice zy.b zy.m zy.d]:=by rw [<- hW1];exact b3.out.farAt (by omega)
   have rV1:Rd (fun b=>X b\/b=g2\/b=g3) W1 (fun V=>QsR V va2 vc2 L2):=by rw [<- hW1];exact Rd.setc (.inl HG.out) rV3.out
   have r11:Rd (fun b=>X b\/b=g2\/b=g3) W1 (fun V=>QAc V zx PX):=by rw [<- hW1];exact Rd.setc (.inl HG.out) r13.out
   have r21:Rd (fun b=>X b\/b=g2\/b=g3) W1 (fun V=>QAc V zy PY):=by rw [<- hW1];exact Rd.setc (.inl HG.out) r23.out
   have FRH:Fr (fun b=>b=G) w W1:=by rw [<- hW1];exact hF3.out.setc (.inl (show G=G from rfl))
   have k5:=bG.out.cell 5;have q5:=bG.out.frozen 5;obtain ⟨x0,x1,x2,x3,x4,x5⟩:=cq6 b31;obtain ⟨y0,y1,y2,y3,y4,y5⟩:=cq6 bz1;obtain ⟨f0,f1,f2,f3,f4,f5⟩:=fq6 bz1;have hnn:((n:Int)+1)<=1001:=by omega
   replace bG1:=Hd bG1;replace bz1:=Hd bz1;replace b31:=Hd b31;replace rV1:=Hd rV1;replace r11:=Hd r11;replace r21:=Hd r21;replace FRH:=Hd FRH;clear b3 bz bG rV3 r13 r23 hF3;go_wp2;refine qab (fun W=>Blk W G 66 #[u0,u1,u2,.slice va2 L2.length vc2,u4,.int .i64 ((n:Int)+1)]/\Blk W g2 69 #[.bool zx.neg,.slice zx.a zx.n zx.c,.slice zx.b zx.m zx.d,.bool zy.neg,.slice zy.a zy.n zy.c,.slice zy.b zy.m zy.d]/\Rd (fun b=>X b\/b=g2\/b=g3) W (fun V=>QsR V va2 vc2 L2)/\Rd (fun b=>X b\/b=g2\/b=g3) W (fun V=>QAc V zx PX)/\Rd (fun b=>X b\/b=g2\/b=g3) W (fun V=>QAc V zy PY)/\Fr (fun b=>b=G) w W)
    ⟨by have:=bG1.out;((with_reducible repeat first|assumption|(apply bF;focus omega)|apply bS|(apply bN;focus (simp;done))|apply bA|apply bD);all_goals rfl),Blk.set6 bz1.out,by (with_reducible repeat first | exact rV1.out | (refine Rd.setc (by first | exact .inl HG.out | exact .inr (.inl rfl) | exact .inr (.inr rfl)) ?_) | refine Rd.alloc ?_ _ | refine Rd.drew ?_),by (with_reducible repeat first | exact r11.out | (refine Rd.setc (by first | exact .inl HG.out | exact .inr (.inl rfl) | exact .inr (.inr rfl)) ?_) | refine Rd.alloc ?_ _ | refine Rd.drew ?_),by (with_reducible repeat first | exact r21.out | (refine Rd.setc (by first | exact .inl HG.out | exact .inr (.inl rfl) | exact .inr (.inr rfl)) ?_) | refine Rd.alloc ?_ _ | refine Rd.drew ?_),by (with_reducible repeat first | exact FRH.out | refine Fr.setc ?_ (by first | exact .inl rfl | exact .inr (by omega)) | refine Fr.alloc ?_ _)⟩ ?_
   rintro wF ⟨hF,hr,h1,h2,h3',h4⟩;obtain ⟨e0,e1,e2,e3,e4,e5⟩:=cq6 hr;refine bodyPost_ret (v:=.agg #[.bool zx.neg,.slice zx.a zx.n zx.c,.slice zx.b zx.m zx.d,.bool zy.neg,.slice zy.a zy.n zy.c,.slice zy.b zy.m zy.d]) (by simp [results,Tryz.results46,go_sem,e0,e1,e2,e3,e4,e5]) rfl ?_;exact ⟨zx,zy,va2,vc2,rfl,h2.less fun b hb=>.inl hb,h3'.less fun b hb=>.inl hb,⟨by push_cast;exact hF,h1.less fun b hb=>.inl hb⟩,h4,hS4.out⟩
def qg4 (X:Nat->Prop) (G:Nat) (u0 u1 u2 u4:Value) (va:Option Addr) (t:P2 × Int × Cho) (w:World) (e:Ending) (w':World):Prop :=
 ∃ (x y:QA) (va':Option Addr) (vc':Nat),e=.returned (.tuple #[.agg #[.bool x.neg,.slice x.a x.n x.c,.slice x.b x.m x.d,.bool y.neg,.slice y.a y.n y.c,.slice y.b y.m y.d],.int .i64 t.2.1])/\(t.2.1=0->Rd X w' (fun V=>QAc V x t.1.1)/\Rd X w' (fun V=>QAc V y t.1.2))/\BldV X G u0 u1 u2 u4 va' vc' t.2.2.vals t.2.2.free w'/\Fr (fun b=>b=G) w w'/\Sits va va'
def atP (pts:List P2) (i:Int):P2:=pts.getD i.toNat (0,0)
theorem zz30 {P:Prop} (h:P:=by
 obtain ⟨i,hi⟩:=qac hlt;obtain ⟨hi0,hi1⟩:=HI.out i (List.mem_of_getElem? hi);have htk:(args.take (k+1)).map (atP pts)=(args.take k).map (atP pts)++[atP pts i]:=by rw [qbh hi,List.map_append];rfl
 obtain ⟨ab,ao,rfl,hc⟩:=HA.out.1.2.2 k i hi;have d0:=held hc.1 wr hwwr;obtain ⟨n,rfl⟩:∃ n:Nat,i=(n:Int):=⟨i.toNat,by omega⟩
 rw [Int.toNat_natCast] at hi1;obtain ⟨pt,hpt⟩:=qac hi1;obtain ⟨pb,po,rfl,x,⟨c0,c1',c2',c3,c4,c5⟩,hx⟩:=HP.out.2.2 n pt hpt;have e0:=held c0 wr hwwr;have e1:=held c1' wr hwwr;have e2:=held c2' wr hwwr;have e3:=held c3 wr hwwr;have e4:=held c4 wr hwwr;have e5:=held c5 wr hwwr;have habl:ab<wr.heap.size:=World.block_lt_of_cell? wr _ d0;have hpbl:pb<wr.heap.size:=World.block_lt_of_cell? wr _ e0;have hatp:atP pts (n:Int)=pt:=by unfold atP;rw [Int.toNat_natCast,List.getD_eq_getElem?_getD,hpt];rfl
 simp only [Nat.mul_one] at d0;have hxr:Rd (Xr (fun _=>False) a1) wr fun V=>PAc V x pt:=(Rd.arg (w:=w) (fun V hV=>hx.ext hV) fun b hb=>by
  rcases hb with hb | ⟨g,hg,rfl⟩
  · exact hb.elim
  · have:=(hO.out.lt hg).1;have:=hw0.out.size;omega).call hwwr
 have hni:((n:Nat):Int)<(pts.length:Int):=by omega
 have hki:(k:Int)<(args.length:Int):=by omega
 replace hxr:=Hd hxr;replace htk:=Hd htk;replace hatp:=Hd hatp;replace hi:=Hd hi;replace hpt:=Hd hpt;have hwwr':=Hd hwwr;clear c0 c1' c2' c3 c4 c5 hx hc hwwr
 go_wp2_with (at_builtin;go_must (refine qab (fun W=>Blk W wr.heap.size 69 #[.bool x.1.neg,.slice x.1.a x.1.n x.1.c,.slice x.1.b x.1.m x.1.d,.bool x.2.neg,.slice x.2.a x.2.n x.2.c,.slice x.2.b x.2.m x.2.d]/\Below wr.heap.size wr W) ⟨by ((with_reducible repeat first|assumption|(apply bF;focus omega)|apply bS|(apply bN;focus (simp;done))|apply bA|apply bD);all_goals rfl),by go_grown⟩ ?_);rintro w4 ⟨hr,hb4⟩;have hO4:=hO.out.below hb4;go_must (refine qa7 (B:=w0.heap.size) rfl (.tmp 16) (.tmp 25) 34 rfl Tryz.underlying34 qrw rfl (by omega) (by omega) qcx a1 c1 (by rw [hsl.out];rfl) hO4 x (qog _) wr.heap.size 1 rfl (fun j u hu=>by have e:=hr.cell j;rw [e];simpa [phC,qaC] using hu) (hs++[x]) rfl (by rw [List.length_append,hsl.out];simp;omega) (by have:=hwr.out.size;have:=hb4.size;omega) ?_);intro a7 c7 w5 ho5 hg5 ha5;have hb5:=qaq (bth hwr.out hb4) hO4 hg5;have hA5:=(hAl.out.call hb4).push (hxr.out.call hb4) (fun R h=>h.app hg5 ha5);replace ho5:=Hd ho5;replace hb5:=Hd hb5;replace hA5:=Hd hA5;clear hr hb4 hg5 ha5 hO4)
 have hln:(hs++[x]).length=k+1:=by rw [List.length_append,hsl.out];rfl
 go_roundg (gk-1)
 case rel=>exact ⟨k+1,a7,c7,hs++[x],by have:=hm.out;show _=_;omega,by go_num,by first | rfl | (congr 1;simpa using hln),hln,ho5.out,by have e:=hA5.out;rw [<- hatp.out,<- htk.out] at e;exact e,hb5.out⟩
 case measure=>have:=hm.out;omega
 ):P:=h
theorem qq2 (X:Nat->Prop) (G:Nat) (u0 u1 u4:Value) (pa:Option Addr) (pc:Nat) (pts:List P2) (va:Option Addr) (vc:Nat) (c:Cho) (s:Step) (p:RA) (w:World) (hB:Blk w G 66 #[u0,u1,.slice pa pts.length pc,.slice va c.vals.length vc,u4,.int .i64 (c.free:Int)]) (hV:Rd X w fun V=>QsR V va vc c.vals) (hP:PsR w pa pc pts) (hA:qb4 w p s.args s.ratio) (hG:X G) (hX:∀ b,X b->b<w.heap.size) (hnX:∀ g,va=some g->¬ X g.block/\g.block<w.heap.size)
  (hin:∀ i∈s.args,0<=i/\i.toNat<pts.length) (ha4:s.args.length<=100) (hk:s.kind=1) (h1:1<=c.free->1<=c.vals.length) (h2:2<=c.free->2<=c.vals.length) (h3:c.free<=1000) :
  Calls Tryz.prog 26 #[.pointer (some ⟨G,0,none⟩),.agg #[.int .i64 s.kind,.string s.point,.slice p.aa s.args.length p.ac,.bool s.ratio.neg,.slice p.na s.ratio.num.length p.nc,.slice p.da s.ratio.den.length p.dc]] w (qg4 X G u0 u1 (.slice pa pts.length pc) u4 va ((freeC c).1,0,(freeC c).2) w):=by
 obtain ⟨kind,point,args,ratio⟩:=s;dsimp only at hk hA hin ha4 ⊢;subst hk;obtain ⟨aa,ac,na,nc,da,dc⟩:=p;dsimp only at hA ⊢;have hGl:=hB.lt;have HB:=Hd hB;have HV:=Hd hV;have HP:=Hd hP;have HA:=Hd hA;have HG:=Hd hG;have HX:=Hd hX;have HN:=Hd hnX;have HI:=Hd hin;have hal:=hA.1.len;have hpl:=SlR.len hP;have hac:=hA.1.1;clear hB hV hP hA hG hX hnX hin;go_enter Tryz.func26,Tryz.ntmps26;go_wp2_with fail
 refine qab (fun W=>Blk W w.heap.size 53 #[.int .i64 1,.string point,.slice aa args.length ac,.bool ratio.neg,.slice na ratio.num.length nc,.slice da ratio.den.length dc]/\Blk W (w.heap.size+1) 69 #[.bool false,.slice none 0 0,.slice none 0 0,.bool false,.slice none 0 0,.slice none 0 0]/\Below w.heap.size w W/\w.heap.size+1<W.heap.size) ⟨by ((with_reducible repeat first|assumption|(apply bF;focus omega)|apply bS|(apply bN;focus (simp;done))|apply bA|apply bD);all_goals rfl),by ((with_reducible repeat first|assumption|(apply bF;focus omega)|apply bS|(apply bN;focus (simp;done))|apply bA|apply bD);all_goals rfl),by go_grown,by simp⟩ ?_;rintro w0 ⟨b1,b2,hw0,hl0⟩;obtain ⟨g1,hg1⟩:∃ g,w.heap.size=g:=⟨_,rfl⟩
 obtain ⟨g2,hg2⟩:∃ g,w.heap.size+1=g:=⟨_,rfl⟩
 have b1':Blk w0 g1 53 #[.int .i64 1,.string point,.slice aa args.length ac,.bool ratio.neg,.slice na ratio.num.length nc,.slice da ratio.den.length dc]:=hg1 ▸ b1;rw [hg2] at b2 hl0;simp only [hg2];simp only [hg1];have hg12:g1<g2:=by omega
 have hGg:G<g1:=by omega
 have hgw:w.heap.size<=g2:=by omega
 replace hg1:=Hd hg1;replace hg2:=Hd hg2;replace b1':=Hd b1';replace b2:=Hd b2;replace hw0:=Hd hw0;clear b1
 go_loopg [6,8,12] args.length (fun n s6 _ s12 wr=>∃ (k:Nat) (a1:Option Addr) (c1:Nat) (hs:List PH),Hid (k+n=args.length)/\s12=.int .i64 k/\s6=.slice a1 k c1/\Hid (hs.length=k)/\Hid (OwnP w0.heap.size wr a1 c1 hs)/\Hid (AllP (Xr (fun _=>False) a1) wr hs ((args.take k).map (atP pts)))/\Hid (Below w0.heap.size w0 wr))
 case atStart=>exact ⟨0,none,0,[],by show _=_;omega,rfl,rfl,rfl,Own.nil,AllP.nil,Below.refl _ _⟩
 case round =>
  obtain ⟨k,a1,c1,hs,hm,rfl,rfl,hsl,hO,hAl,hwr⟩:=hrel;have b1r:=b1'.out.below' hwr.out;have hwwr:=bth hw0.out hwr.out;have y0:=b1r.cell 0;have y2:=b1r.cell 2;have y1l:=b1r.lt;have hBr:=HB.out.below' hwwr;have z2:=hBr.cell 2;have hGr:=hBr.lt;replace b1r:=Hd b1r;replace hBr:=Hd hBr;by_cases hlt:k<args.length
  ·
   exact zz30
  ·
   have hkn:k=args.length:=by have:=hm.out;omega
   rw [hkn,List.take_length] at hAl;have hsl2:=Hd (hsl.out.trans hkn);have hk2:=Hd hkn;have b2r:=b2.out.below' hwr.out;have HW:=Hd hwwr;clear hm hsl hkn hwwr;have CF:=Hd (qks (fun b=>X b\/b=g2) G u0 u1 (.slice pa pts.length pc) u4 va vc c wr ⟨hBr.out,(HV.out.more fun b hb=>hb.elim .inl fun e=>.inr (by have:=hg2.out;omega)).call HW.out⟩ (.inl HG.out)
    (fun b hb=>by
     have e1:=HW.out.size;have e2:=b2r.lt;rcases hb with hb | rfl
     · have:=HX.out b hb;omega
     · exact e2)
    (fun g hg=>by
     have e1:=HW.out.size;have e2:=(HN.out g hg).1;have e3:=(HN.out g hg).2;have e4:=hg2.out;refine ⟨?_,by omega⟩;rintro (hb | hb)
     · exact e2 hb
     · omega) h1 h2 h3)
   replace b2r:=Hd b2r;clear h1 h2 h3;go_wp2_with fail;refine CF.out.mono ?_;rintro e w5 ⟨x,y,va',vc',rfl,r1,r2,⟨bG5,rV5⟩,hF5,hS5⟩;have b25:=b2r.out.fr hF5 (show ¬ g2=G by omega);have FRH:=Hd ((Fr.below HW.out:Fr (fun b=>b=G) w wr).trans hF5);replace r1:=Hd r1;replace r2:=Hd r2;replace bG5:=Hd bG5;replace rV5:=Hd rV5;replace hS5:=Hd hS5;clear CF hF5 y0 y2 z2;obtain ⟨q0,q1,q2,q3,q4,q5⟩:=cq6 b25;obtain ⟨f0,f1,f2,f3,f4,f5⟩:=fq6 b25;replace b25:=Hd b25;go_wp2
   refine qab (fun W=>Blk W G 66 #[u0,u1,.slice pa pts.length pc,.slice va' (freeC c).2.vals.length vc',u4,.int .i64 ((freeC c).2.free:Int)]/\Blk W g2 69 #[.bool x.neg,.slice x.a x.n x.c,.slice x.b x.m x.d,.bool y.neg,.slice y.a y.n y.c,.slice y.b y.m y.d]/\Rd (fun b=>X b\/b=g2) W (fun V=>QsR V va' vc' (freeC c).2.vals)/\Fr (fun b=>b=G) w W/\(Rd (fun b=>X b\/b=g2) W (fun V=>QAc V x (freeC c).1.1)/\Rd (fun b=>X b\/b=g2) W (fun V=>QAc V y (freeC c).1.2)))
    ⟨by have:=bG5.out;((with_reducible repeat first|assumption|(apply bF;focus omega)|apply bS|(apply bN;focus (simp;done))|apply bA|apply bD);all_goals rfl),Blk.set6 b25.out,by (with_reducible repeat first | exact rV5.out | (refine Rd.setc (by exact .inr rfl) ?_) | refine Rd.alloc ?_ _ | refine Rd.drew ?_),by (with_reducible repeat first | exact FRH.out | refine Fr.setc ?_ (.inr (by omega)) | refine Fr.alloc ?_ _),⟨by (with_reducible repeat first | exact r1.out | (refine Rd.setc (by exact .inr rfl) ?_) | refine Rd.alloc ?_ _ | refine Rd.drew ?_),by (with_reducible repeat first | exact r2.out | (refine Rd.setc (by exact .inr rfl) ?_) | refine Rd.alloc ?_ _ | refine Rd.drew ?_)⟩⟩ ?_
   rintro wF ⟨hF,hr,h5,h6,h7⟩;obtain ⟨e0,e1,e2,e3,e4,e5⟩:=cq6 hr;refine bodyPost_ret (v:=.tuple #[.agg #[.bool x.neg,.slice x.a x.n x.c,.slice x.b x.m x.d,.bool y.neg,.slice y.a y.n y.c,.slice y.b y.m y.d],.int .i64 0]) (by simp [results,Tryz.results26,go_sem,e0,e1,e2,e3,e4,e5]) rfl ?_;exact ⟨x,y,va',vc',rfl,fun _=>⟨h7.1.less fun b hb=>.inl hb,h7.2.less fun b hb=>.inl hb⟩,⟨hF,h5.less fun b hb=>.inl hb⟩,h6,hS5.out⟩
theorem qen {pts:List P2} {i:Int} (h:0<=i/\i.toNat<pts.length):atP pts i∈pts:=by
 obtain ⟨p,hp⟩:=qac h.2;have:atP pts i=p:=by unfold atP;rw [List.getD_eq_getElem?_getD,hp];rfl
 rw [this];exact List.mem_of_getElem? hp
theorem PAc.pk {w:World} {x:PH} {p:P2} (h:PAc w x p) (hs:qbg p):QK 100 w x.1 p.1/\QK 100 w x.2 p.2:=⟨⟨h.1,hs.1⟩,⟨h.2,hs.2⟩⟩
theorem qlq (X:Nat->Prop) (G:Nat) (u0 u1 u4:Value) (pa:Option Addr) (pc:Nat) (pts:List P2) (va:Option Addr) (vc:Nat) (c:Cho) (s:Step) (p:RA) (w:World) (hB:Blk w G 66 #[u0,u1,.slice pa pts.length pc,.slice va c.vals.length vc,u4,.int .i64 (c.free:Int)]) (hV:Rd X w fun V=>QsR V va vc c.vals) (hP:PsR w pa pc pts) (hA:qb4 w p s.args s.ratio) (hG:X G) (hX:∀ b,X b->b<w.heap.size) (hnX:∀ g,va=some g->¬ X g.block/\g.block<w.heap.size)
  (hin:∀ i∈s.args,0<=i/\i.toNat<pts.length) (hk:s.kind=7) (i0 i1 i2:Int) (h3:s.args=[i0,i1,i2]) (hsm:∀ p∈pts,qbg p) (hab:atP pts i1≠atP pts i2) :
  Calls Tryz.prog 26 #[.pointer (some ⟨G,0,none⟩),.agg #[.int .i64 s.kind,.string s.point,.slice p.aa s.args.length p.ac,.bool s.ratio.neg,.slice p.na s.ratio.num.length p.nc,.slice p.da s.ratio.den.length p.dc]] w (qg4 X G u0 u1 (.slice pa pts.length pc) u4 va (footQ (atP pts i0) (atP pts i1) (atP pts i2),0,c) w):=by
 obtain ⟨kind,point,args,ratio⟩:=s;dsimp only at hk hA hin h3 ⊢;subst hk;have ha4:args.length<=100:=by rw [h3];simp
 have H3:=Hd h3;clear h3;have HSM:=Hd hsm;replace hab:=Hd hab;clear hsm;obtain ⟨aa,ac,na,nc,da,dc⟩:=p;dsimp only at hA ⊢;have hGl:=hB.lt;have HB:=Hd hB;have HV:=Hd hV;have HP:=Hd hP;have HA:=Hd hA;have HG:=Hd hG;have HX:=Hd hX;have HN:=Hd hnX;have HI:=Hd hin;have hal:=hA.1.len;have hpl:=SlR.len hP;have hac:=hA.1.1;clear hB hV hP hA hG hX hnX hin;go_enter Tryz.func26,Tryz.ntmps26;go_wp2_with fail
 refine qab (fun W=>Blk W w.heap.size 53 #[.int .i64 7,.string point,.slice aa args.length ac,.bool ratio.neg,.slice na ratio.num.length nc,.slice da ratio.den.length dc]/\Blk W (w.heap.size+1) 69 #[.bool false,.slice none 0 0,.slice none 0 0,.bool false,.slice none 0 0,.slice none 0 0]/\Below w.heap.size w W/\w.heap.size+1<W.heap.size) ⟨by ((with_reducible repeat first|assumption|(apply bF;focus omega)|apply bS|(apply bN;focus (simp;done))|apply bA|apply bD);all_goals rfl),by ((with_reducible repeat first|assumption|(apply bF;focus omega)|apply bS|(apply bN;focus (simp;done))|apply bA|apply bD);all_goals rfl),by go_grown,by simp⟩ ?_;rintro w0 ⟨b1,b2,hw0,hl0⟩;obtain ⟨g1,hg1⟩:∃ g,w.heap.size=g:=⟨_,rfl⟩
 obtain ⟨g2,hg2⟩:∃ g,w.heap.size+1=g:=⟨_,rfl⟩
 have b1':Blk w0 g1 53 #[.int .i64 7,.string point,.slice aa args.length ac,.bool ratio.neg,.slice na ratio.num.length nc,.slice da ratio.den.length dc]:=hg1 ▸ b1;rw [hg2] at b2 hl0;simp only [hg2];simp only [hg1];have hg12:g1<g2:=by omega
 have hGg:G<g1:=by omega
 have hgw:w.heap.size<=g2:=by omega
 replace hg1:=Hd hg1;replace hg2:=Hd hg2;replace b1':=Hd b1';replace b2:=Hd b2;replace hw0:=Hd hw0;clear b1
 go_loopg [6,8,12] args.length (fun n s6 _ s12 wr=>∃ (k:Nat) (a1:Option Addr) (c1:Nat) (hs:List PH),Hid (k+n=args.length)/\s12=.int .i64 k/\s6=.slice a1 k c1/\Hid (hs.length=k)/\Hid (OwnP w0.heap.size wr a1 c1 hs)/\Hid (AllP (Xr (fun _=>False) a1) wr hs ((args.take k).map (atP pts)))/\Hid (Below w0.heap.size w0 wr))
 case atStart=>exact ⟨0,none,0,[],by show _=_;omega,rfl,rfl,rfl,Own.nil,AllP.nil,Below.refl _ _⟩
 case round =>
  obtain ⟨k,a1,c1,hs,hm,rfl,rfl,hsl,hO,hAl,hwr⟩:=hrel;have b1r:=b1'.out.below' hwr.out;have hwwr:=bth hw0.out hwr.out;have y0:=b1r.cell 0;have y2:=b1r.cell 2;have y1l:=b1r.lt;have hBr:=HB.out.below' hwwr;have z2:=hBr.cell 2;have hGr:=hBr.lt;replace b1r:=Hd b1r;replace hBr:=Hd hBr;by_cases hlt:k<args.length
  ·
   exact zz30
  ·
   have hkn:k=args.length:=by have:=hm.out;omega
   rw [hkn,List.take_length] at hAl;have hsl2:=Hd (hsl.out.trans hkn);have hk2:=Hd hkn;have b2r:=b2.out.below' hwr.out;have HW:=Hd hwwr;clear hm hsl hkn hwwr;obtain ⟨x0,x1,x2,rfl⟩:∃ x0 x1 x2,hs=[x0,x1,x2]:=by
    have hl3:=hsl2.out;rw [H3.out] at hl3
    match hs,hl3 with
    | [x0,x1,x2],_=>exact ⟨x0,x1,x2,rfl⟩
   have hAl':=hAl.out;have HI':=HI.out;rw [H3.out] at hAl' HI';have hkl:k=3:=by rw [hk2.out,H3.out];rfl
   have m0:=(hAl'.2 0 x0 _ rfl rfl).now.pk (HSM.out _ (qen (HI' i0 (by simp))));have m1:=(hAl'.2 1 x1 _ rfl rfl).now.pk (HSM.out _ (qen (HI' i1 (by simp))));have m2:=(hAl'.2 2 x2 _ rfl rfl).now.pk (HSM.out _ (qen (HI' i2 (by simp))));obtain ⟨lb,rfl,_,_,hc0⟩:=hO.out.at_ qcx (show [x0,x1,x2][0]? = some x0 from rfl);obtain ⟨lb',elb,_,_,hc1⟩:=hO.out.at_ qcx (show [x0,x1,x2][1]? = some x1 from rfl);injection elb with elb;injection elb with elb _;subst elb
   obtain ⟨lb',elb,_,_,hc2⟩:=hO.out.at_ qcx (show [x0,x1,x2][2]? = some x2 from rfl);injection elb with elb;injection elb with elb _;subst elb
   have d0:=held (hc0 0 _ rfl);have d1:=held (hc0 1 _ rfl);have d2:=held (hc0 2 _ rfl);have d3:=held (hc0 3 _ rfl);have d4:=held (hc0 4 _ rfl);have d5:=held (hc0 5 _ rfl);have d6:=held (hc1 0 _ rfl);have d7:=held (hc1 1 _ rfl);have d8:=held (hc1 2 _ rfl);have d9:=held (hc1 3 _ rfl);have d10:=held (hc1 4 _ rfl);have d11:=held (hc1 5 _ rfl);have d12:=held (hc2 0 _ rfl);have d13:=held (hc2 1 _ rfl);have d14:=held (hc2 2 _ rfl);have d15:=held (hc2 3 _ rfl);have d16:=held (hc2 4 _ rfl);have d17:=held (hc2 5 _ rfl);simp only [Nat.zero_mul,Nat.one_mul,Nat.reduceMul,Nat.reduceAdd,Nat.zero_add,Nat.add_zero] at d0 d1 d2 d3 d4 d5 d6 d7 d8 d9 d10 d11 d12 d13 d14 d15 d16 d17;clear hc0 hc1 hc2;clear hAl' HI';subst hkl;have s0:Below wr.heap.size wr wr.drew:=brf.drew
   have CF:=Hd (fun W (hW:Below wr.heap.size wr W)=>qvx x0.1 x0.2 x1.1 x1.2 x2.1 x2.2 (atP pts i0) (atP pts i1) (atP pts i2) 100 W (m0.1.ext (xbw hW)) (m0.2.ext (xbw hW)) (m1.1.ext (xbw hW)) (m1.2.ext (xbw hW)) (m2.1.ext (xbw hW)) (m2.2.ext (xbw hW)) (by omega) hab.out);replace b2r:=Hd b2r;clear m0 m1 m2 z2;go_wp2;refine wrx (S:=Below wr.heap.size wr) [(0,.q),(1,.q),(2,.q),(3,.q),(4,.q),(5,.q),(6,.q),(7,.q),(8,.q),(9,.t),(10,.p),(11,.p),(12,.t),(13,.p)] (s0) ?_
   iterate 9 (refine qam rfl rfl fun K hK=>xq ?_;go_simp;refine hK _ _ ?_;clear hK K)
   refine qah rfl rfl (fun K hK=>?_);go_simp;refine (CF.out _ s0).mono ?_;rintro r w5 ⟨⟨x,y⟩,rfl,K5,hb5⟩;dsimp only;refine hK.out _ _ ?_;clear hK K
   iterate 2 (refine qav rfl rfl fun K hK=>xp ?_;go_simp;refine hK _ _ ?_;clear hK K)
   have b25:=b2r.out.below' (bth s0 hb5);have bG5:=Hd (hBr.out.below' (bth s0 hb5));have hw5:=bth HW.out (bth s0 hb5);have FRH:=Hd (Fr.below hw5:Fr (fun b=>b=G) w w5);have rV5:=Hd ((HV.out.more (Y:=fun b=>X b\/b=g2) fun b hb=>hb.elim .inl fun e=>.inr (by have:=hg2.out;omega)).call hw5);obtain ⟨va',hva⟩:∃ v,v=va:=⟨_,rfl⟩
   obtain ⟨vc',hvc⟩:∃ v,v=vc:=⟨_,rfl⟩
   rw [<- hva,<- hvc] at bG5 rV5;replace hva:=Hd hva;replace hvc:=Hd hvc;clear d0 d1 d2 d3 d4 d5 d6 d7 d8 d9 d10 d11 d12 d13 d14 d15 d16 d17 y0 y2;obtain ⟨q0,q1,q2,q3,q4,q5⟩:=cq6 b25;obtain ⟨f0,f1,f2,f3,f4,f5⟩:=fq6 b25;replace b25:=Hd b25;refine qah rfl rfl (fun K hK=>?_);go_simp;refine hK.out _ _ ?_;clear hK K
   iterate 1 (refine qav rfl rfl fun K hK=>xp ?_;go_simp;refine hK _ _ ?_;clear hK K)
   refine qak ?_;have hXr:∀ b,(X b\/b=g2)->b<wr.drew.heap.size\/w5.heap.size<=b:=fun b hb=>by
    refine .inl ?_
    show b<wr.heap.size
    have e1:=HW.out.size;have e2:=b2r.out.lt;rcases hb with hb | rfl
    · have:=HX.out b hb;omega
    · exact e2
   have r1:=Hd (Rd.kp (X:=fun b=>X b\/b=g2) (K5.imp fun V h=>h.1.1) hXr);have r2:=Hd (Rd.kp (X:=fun b=>X b\/b=g2) (K5.imp fun V h=>h.2.1) hXr);clear K5 hXr;go_wp2;refine qab (fun W=>Blk W G 66 #[u0,u1,.slice pa pts.length pc,.slice va' c.vals.length vc',u4,.int .i64 (c.free:Int)]/\Blk W g2 69 #[.bool x.neg,.slice x.a x.n x.c,.slice x.b x.m x.d,.bool y.neg,.slice y.a y.n y.c,.slice y.b y.m y.d]/\Rd (fun b=>X b\/b=g2) W (fun V=>QsR V va' vc' c.vals)/\Fr (fun b=>b=G) w W/\(Rd (fun b=>X b\/b=g2) W (fun V=>QAc V x (footQ (atP pts i0) (atP pts i1) (atP pts i2)).1)/\Rd (fun b=>X b\/b=g2) W (fun V=>QAc V y (footQ (atP pts i0) (atP pts i1) (atP pts i2)).2)))
    ⟨by have:=bG5.out;((with_reducible repeat first|assumption|(apply bF;focus omega)|apply bS|(apply bN;focus (simp;done))|apply bA|apply bD);all_goals rfl),Blk.set6 b25.out,by (with_reducible repeat first | exact rV5.out | (refine Rd.setc (by exact .inr rfl) ?_) | refine Rd.alloc ?_ _ | refine Rd.drew ?_),by (with_reducible repeat first | exact FRH.out | refine Fr.setc ?_ (.inr (by omega)) | refine Fr.alloc ?_ _),⟨by (with_reducible repeat first | exact r1.out | (refine Rd.setc (by exact .inr rfl) ?_) | refine Rd.alloc ?_ _ | refine Rd.drew ?_),by (with_reducible repeat first | exact r2.out | (refine Rd.setc (by exact .inr rfl) ?_) | refine Rd.alloc ?_ _ | refine Rd.drew ?_)⟩⟩ ?_
   rintro wF ⟨hF,hr,h5,h6,h7⟩;obtain ⟨e0,e1,e2,e3,e4,e5⟩:=cq6 hr;refine bodyPost_ret (v:=.tuple #[.agg #[.bool x.neg,.slice x.a x.n x.c,.slice x.b x.m x.d,.bool y.neg,.slice y.a y.n y.c,.slice y.b y.m y.d],.int .i64 0]) (by simp [results,Tryz.results26,go_sem,e0,e1,e2,e3,e4,e5]) rfl ?_;exact ⟨x,y,va',vc',rfl,fun _=>⟨h7.1.less fun b hb=>.inl hb,h7.2.less fun b hb=>.inl hb⟩,⟨hF,h5.less fun b hb=>.inl hb⟩,h6,hva.out ▸ Sits.refl _⟩
theorem qkq (X:Nat->Prop) (G:Nat) (u0 u1 u4:Value) (pa:Option Addr) (pc:Nat) (pts:List P2) (va:Option Addr) (vc:Nat) (c:Cho) (s:Step) (p:RA) (w:World) (hB:Blk w G 66 #[u0,u1,.slice pa pts.length pc,.slice va c.vals.length vc,u4,.int .i64 (c.free:Int)]) (hV:Rd X w fun V=>QsR V va vc c.vals) (hP:PsR w pa pc pts) (hA:qb4 w p s.args s.ratio) (hG:X G) (hX:∀ b,X b->b<w.heap.size) (hnX:∀ g,va=some g->¬ X g.block/\g.block<w.heap.size)
  (hin:∀ i∈s.args,0<=i/\i.toNat<pts.length) (hk:s.kind=7) (i0 i1 i2:Int) (h3:s.args=[i0,i1,i2]) (hsm:∀ p∈pts,qbg p) (hab:atP pts i1=atP pts i2) :
  Calls Tryz.prog 26 #[.pointer (some ⟨G,0,none⟩),.agg #[.int .i64 s.kind,.string s.point,.slice p.aa s.args.length p.ac,.bool s.ratio.neg,.slice p.na s.ratio.num.length p.nc,.slice p.da s.ratio.den.length p.dc]] w (qg4 X G u0 u1 (.slice pa pts.length pc) u4 va ((0,0),11,c) w):=by
 obtain ⟨kind,point,args,ratio⟩:=s;dsimp only at hk hA hin h3 ⊢;subst hk;have ha4:args.length<=100:=by rw [h3];simp
 have H3:=Hd h3;clear h3;have HSM:=Hd hsm;replace hab:=Hd hab;clear hsm;obtain ⟨aa,ac,na,nc,da,dc⟩:=p;dsimp only at hA ⊢;have hGl:=hB.lt;have HB:=Hd hB;have HV:=Hd hV;have HP:=Hd hP;have HA:=Hd hA;have HG:=Hd hG;have HX:=Hd hX;have HN:=Hd hnX;have HI:=Hd hin;have hal:=hA.1.len;have hpl:=SlR.len hP;have hac:=hA.1.1;clear hB hV hP hA hG hX hnX hin;go_enter Tryz.func26,Tryz.ntmps26;go_wp2_with fail
 refine qab (fun W=>Blk W w.heap.size 53 #[.int .i64 7,.string point,.slice aa args.length ac,.bool ratio.neg,.slice na ratio.num.length nc,.slice da ratio.den.length dc]/\Blk W (w.heap.size+1) 69 #[.bool false,.slice none 0 0,.slice none 0 0,.bool false,.slice none 0 0,.slice none 0 0]/\Below w.heap.size w W/\w.heap.size+1<W.heap.size) ⟨by ((with_reducible repeat first|assumption|(apply bF;focus omega)|apply bS|(apply bN;focus (simp;done))|apply bA|apply bD);all_goals rfl),by ((with_reducible repeat first|assumption|(apply bF;focus omega)|apply bS|(apply bN;focus (simp;done))|apply bA|apply bD);all_goals rfl),by go_grown,by simp⟩ ?_;rintro w0 ⟨b1,b2,hw0,hl0⟩;obtain ⟨g1,hg1⟩:∃ g,w.heap.size=g:=⟨_,rfl⟩
 obtain ⟨g2,hg2⟩:∃ g,w.heap.size+1=g:=⟨_,rfl⟩
 have b1':Blk w0 g1 53 #[.int .i64 7,.string point,.slice aa args.length ac,.bool ratio.neg,.slice na ratio.num.length nc,.slice da ratio.den.length dc]:=hg1 ▸ b1;rw [hg2] at b2 hl0;simp only [hg2];simp only [hg1];have hg12:g1<g2:=by omega
 have hGg:G<g1:=by omega
 have hgw:w.heap.size<=g2:=by omega
 replace hg1:=Hd hg1;replace hg2:=Hd hg2;replace b1':=Hd b1';replace b2:=Hd b2;replace hw0:=Hd hw0;clear b1
 go_loopg [6,8,12] args.length (fun n s6 _ s12 wr=>∃ (k:Nat) (a1:Option Addr) (c1:Nat) (hs:List PH),Hid (k+n=args.length)/\s12=.int .i64 k/\s6=.slice a1 k c1/\Hid (hs.length=k)/\Hid (OwnP w0.heap.size wr a1 c1 hs)/\Hid (AllP (Xr (fun _=>False) a1) wr hs ((args.take k).map (atP pts)))/\Hid (Below w0.heap.size w0 wr))
 case atStart=>exact ⟨0,none,0,[],by show _=_;omega,rfl,rfl,rfl,Own.nil,AllP.nil,Below.refl _ _⟩
 case round =>
  obtain ⟨k,a1,c1,hs,hm,rfl,rfl,hsl,hO,hAl,hwr⟩:=hrel;have b1r:=b1'.out.below' hwr.out;have hwwr:=bth hw0.out hwr.out;have y0:=b1r.cell 0;have y2:=b1r.cell 2;have y1l:=b1r.lt;have hBr:=HB.out.below' hwwr;have z2:=hBr.cell 2;have hGr:=hBr.lt;replace b1r:=Hd b1r;replace hBr:=Hd hBr;by_cases hlt:k<args.length
  ·
   exact zz30
  ·
   have hkn:k=args.length:=by have:=hm.out;omega
   rw [hkn,List.take_length] at hAl;have hsl2:=Hd (hsl.out.trans hkn);have hk2:=Hd hkn;have b2r:=b2.out.below' hwr.out;have HW:=Hd hwwr;clear hm hsl hkn hwwr;obtain ⟨x0,x1,x2,rfl⟩:∃ x0 x1 x2,hs=[x0,x1,x2]:=by
    have hl3:=hsl2.out;rw [H3.out] at hl3
    match hs,hl3 with
    | [x0,x1,x2],_=>exact ⟨x0,x1,x2,rfl⟩
   have hAl':=hAl.out;have HI':=HI.out;rw [H3.out] at hAl' HI';have hkl:k=3:=by rw [hk2.out,H3.out];rfl
   have m0:=(hAl'.2 0 x0 _ rfl rfl).now.pk (HSM.out _ (qen (HI' i0 (by simp))));have m1:=(hAl'.2 1 x1 _ rfl rfl).now.pk (HSM.out _ (qen (HI' i1 (by simp))));have m2:=(hAl'.2 2 x2 _ rfl rfl).now.pk (HSM.out _ (qen (HI' i2 (by simp))));obtain ⟨lb,rfl,_,_,hc0⟩:=hO.out.at_ qcx (show [x0,x1,x2][0]? = some x0 from rfl);obtain ⟨lb',elb,_,_,hc1⟩:=hO.out.at_ qcx (show [x0,x1,x2][1]? = some x1 from rfl);injection elb with elb;injection elb with elb _;subst elb
   obtain ⟨lb',elb,_,_,hc2⟩:=hO.out.at_ qcx (show [x0,x1,x2][2]? = some x2 from rfl);injection elb with elb;injection elb with elb _;subst elb
   have d0:=held (hc0 0 _ rfl);have d1:=held (hc0 1 _ rfl);have d2:=held (hc0 2 _ rfl);have d3:=held (hc0 3 _ rfl);have d4:=held (hc0 4 _ rfl);have d5:=held (hc0 5 _ rfl);have d6:=held (hc1 0 _ rfl);have d7:=held (hc1 1 _ rfl);have d8:=held (hc1 2 _ rfl);have d9:=held (hc1 3 _ rfl);have d10:=held (hc1 4 _ rfl);have d11:=held (hc1 5 _ rfl);have d12:=held (hc2 0 _ rfl);have d13:=held (hc2 1 _ rfl);have d14:=held (hc2 2 _ rfl);have d15:=held (hc2 3 _ rfl);have d16:=held (hc2 4 _ rfl);have d17:=held (hc2 5 _ rfl);simp only [Nat.zero_mul,Nat.one_mul,Nat.reduceMul,Nat.reduceAdd,Nat.zero_add,Nat.add_zero] at d0 d1 d2 d3 d4 d5 d6 d7 d8 d9 d10 d11 d12 d13 d14 d15 d16 d17;clear hc0 hc1 hc2;clear hAl' HI';subst hkl;have s0:Below wr.heap.size wr wr.drew:=brf.drew
   have CF:=Hd (fun W (hW:Below wr.heap.size wr W)=>qul x0.1 x0.2 x1.1 x1.2 x2.1 x2.2 (atP pts i0) (atP pts i1) (atP pts i2) 100 W (m0.1.ext (xbw hW)) (m0.2.ext (xbw hW)) (m1.1.ext (xbw hW)) (m1.2.ext (xbw hW)) (m2.1.ext (xbw hW)) (m2.2.ext (xbw hW)) (by omega) hab.out);replace b2r:=Hd b2r;clear m0 m1 m2 z2;go_wp2;refine wrx (S:=Below wr.heap.size wr) [(0,.q),(1,.q),(2,.q),(3,.q),(4,.q),(5,.q),(6,.q),(7,.q),(8,.q),(9,.t),(10,.p),(11,.p),(12,.t),(13,.p)] (s0) ?_
   iterate 9 (refine qam rfl rfl fun K hK=>xq ?_;go_simp;refine hK _ _ ?_;clear hK K)
   refine qah rfl rfl (fun K hK=>?_);go_simp;refine (CF.out _ s0).mono ?_;rintro r w5 ⟨rfl,hb5⟩;dsimp only;refine hK.out _ _ ?_;clear hK K
   iterate 2 (refine qav rfl rfl fun K hK=>xp ?_;go_simp;refine hK _ _ ?_;clear hK K)
   have b25:=b2r.out.below' (bth s0 hb5);have bG5:=Hd (hBr.out.below' (bth s0 hb5));have hw5:=bth HW.out (bth s0 hb5);have FRH:=Hd (Fr.below hw5:Fr (fun b=>b=G) w w5);have rV5:=Hd ((HV.out.more (Y:=fun b=>X b\/b=g2) fun b hb=>hb.elim .inl fun e=>.inr (by have:=hg2.out;omega)).call hw5);obtain ⟨va',hva⟩:∃ v,v=va:=⟨_,rfl⟩
   obtain ⟨vc',hvc⟩:∃ v,v=vc:=⟨_,rfl⟩
   rw [<- hva,<- hvc] at bG5 rV5;replace hva:=Hd hva;replace hvc:=Hd hvc;clear d0 d1 d2 d3 d4 d5 d6 d7 d8 d9 d10 d11 d12 d13 d14 d15 d16 d17 y0 y2;obtain ⟨q0,q1,q2,q3,q4,q5⟩:=cq6 b25;obtain ⟨f0,f1,f2,f3,f4,f5⟩:=fq6 b25;replace b25:=Hd b25;refine qah rfl rfl (fun K hK=>?_);go_simp;refine hK.out _ _ ?_;clear hK K
   iterate 1 (refine qav rfl rfl fun K hK=>xp ?_;go_simp;refine hK _ _ ?_;clear hK K)
   refine qak ?_;go_wp2;refine qab (fun W=>Blk W G 66 #[u0,u1,.slice pa pts.length pc,.slice va' c.vals.length vc',u4,.int .i64 (c.free:Int)]/\Blk W g2 69 #[.bool false,.slice none 0 0,.slice none 0 0,.bool false,.slice none 0 0,.slice none 0 0]/\Rd (fun b=>X b\/b=g2) W (fun V=>QsR V va' vc' c.vals)/\Fr (fun b=>b=G) w W)
    ⟨by have:=bG5.out;((with_reducible repeat first|assumption|(apply bF;focus omega)|apply bS|(apply bN;focus (simp;done))|apply bA|apply bD);all_goals rfl),Blk.set6 b25.out,by (with_reducible repeat first | exact rV5.out | (refine Rd.setc (by exact .inr rfl) ?_) | refine Rd.alloc ?_ _ | refine Rd.drew ?_),by (with_reducible repeat first | exact FRH.out | refine Fr.setc ?_ (.inr (by omega)) | refine Fr.alloc ?_ _)⟩ ?_
   rintro wF ⟨hF,hr,h5,h6⟩;obtain ⟨e0,e1,e2,e3,e4,e5⟩:=cq6 hr;refine bodyPost_ret (v:=.tuple #[.agg #[.bool false,.slice none 0 0,.slice none 0 0,.bool false,.slice none 0 0,.slice none 0 0],.int .i64 11]) (by simp [results,Tryz.results26,go_sem,e0,e1,e2,e3,e4,e5]) rfl ?_;exact ⟨⟨false,0,none,0,0,none,0⟩,⟨false,0,none,0,0,none,0⟩,va',vc',rfl,fun h=>absurd h (show ¬ (11:Int)=0 by decide),⟨hF,h5.less fun b hb=>.inl hb⟩,h6,hva.out ▸ Sits.refl _⟩
theorem qi3 {s:Step} {pts:List P2} {i:Nat} {x:Int} (h:s.args[i]? = some x):argP s pts i=atP pts x:=by
 have e:s.args.getD i 0=x:=by rw [List.getD_eq_getElem?_getD,h];rfl
 unfold argP atP;rw [e]
theorem qo5 (X:Nat->Prop) (G:Nat) (u0 u1 u4:Value) (pa:Option Addr) (pc:Nat) (pts:List P2) (va:Option Addr) (vc:Nat) (c:Cho) (s:Step) (p:RA) (w:World) (hB:Blk w G 66 #[u0,u1,.slice pa pts.length pc,.slice va c.vals.length vc,u4,.int .i64 (c.free:Int)]) (hV:Rd X w fun V=>QsR V va vc c.vals) (hP:PsR w pa pc pts) (hA:qb4 w p s.args s.ratio) (hG:X G) (hX:∀ b,X b->b<w.heap.size) (hnX:∀ g,va=some g->¬ X g.block/\g.block<w.heap.size) (hok:okC s pts c) :
  Calls Tryz.prog 26 #[.pointer (some ⟨G,0,none⟩),.agg #[.int .i64 s.kind,.string s.point,.slice p.aa s.args.length p.ac,.bool s.ratio.neg,.slice p.na s.ratio.num.length p.nc,.slice p.da s.ratio.den.length p.dc]] w (qg4 X G u0 u1 (.slice pa pts.length pc) u4 va (stepC s pts c) w):=by
 rcases hok.2 with ⟨hk,ha,h3,h1,h2⟩ | ⟨hk,h3,hin,hsm⟩
 ·
  have e:stepC s pts c=((freeC c).1,0,(freeC c).2):=by unfold stepC;rw [if_pos hk]
  rw [e];exact qq2 X G u0 u1 u4 pa pc pts va vc c s p w hB hV hP hA hG hX hnX (by rw [ha];intro i hi;cases hi) (by rw [ha];simp) hk h1 h2 h3
 ·
  obtain ⟨i0,i1,i2,ha⟩:∃ i0 i1 i2,s.args=[i0,i1,i2]:=by
   match hx:s.args,h3 with
   | [i0,i1,i2],_=>exact ⟨i0,i1,i2,rfl⟩
  have a0:argP s pts 0=atP pts i0:=qi3 (by rw [ha];rfl);have a1:argP s pts 1=atP pts i1:=qi3 (by rw [ha];rfl);have a2:argP s pts 2=atP pts i2:=qi3 (by rw [ha];rfl);have hk1:¬ s.kind=1:=by omega
  by_cases hab:atP pts i1=atP pts i2
  ·
   have e:stepC s pts c=((0,0),11,c):=by unfold stepC;rw [if_neg hk1,a1,a2,if_pos hab]
   rw [e];exact qkq X G u0 u1 u4 pa pc pts va vc c s p w hB hV hP hA hG hX hnX hin hk i0 i1 i2 ha hsm hab
  ·
   have e:stepC s pts c=(footQ (atP pts i0) (atP pts i1) (atP pts i2),0,c):=by unfold stepC;rw [if_neg hk1,a0,a1,a2,if_neg hab]
   rw [e];exact qlq X G u0 u1 u4 pa pc pts va vc c s p w hB hV hP hA hG hX hnX hin hk i0 i1 i2 ha hsm hab
end Go.Proofs.YtfaalkneigpcnaaGreatDoor
