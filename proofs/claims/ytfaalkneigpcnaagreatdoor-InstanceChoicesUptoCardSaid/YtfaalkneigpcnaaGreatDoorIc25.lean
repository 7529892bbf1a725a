/- Walks: whether a figure is small enough for the statements on instances: weights, thin, Few, Mild, Fine. -/
import Derived.Test.YtfaalkneigpcnaaGreatDoorIc16
import Derived.Test.YtfaalkneigpcnaaGreatDoorIc24
import Derived.Test.YtfaalkneigpcnaaGreatDoorIc19
import Derived.Test.YtfaalkneigpcnaaGreatDoorIc3
import Derived.Test.YtfaalkneigpcnaaGreatDoorIc22
import Derived.Test.YtfaalkneigpcnaaGreatDoorIc11
import Derived.Deep.LoopGhost
set_option linter.all false
set_option maxRecDepth 100000
set_option maxHeartbeats 4000000
namespace Go.Proofs.YtfaalkneigpcnaaGreatDoor
open Go.RowKit
def nTwo (l:List Step):Nat:=(l.filter fun s=>twoK s.kind).length
theorem ql1 {l:List Step} {k:Nat} {s:Step} (h:l[k]? = some s):nTwo (l.take (k+1))=nTwo (l.take k)+if twoK s.kind=true then 1 else 0:=by
 unfold nTwo;rw [qa7 h,List.filter_append,List.length_append];by_cases h1:twoK s.kind=true <;> simp [h1]
theorem qps (l:List Step):nTwo l<=l.length:=List.length_filter_le _ _
def chF (f:Fig):Nat × Nat × Int :=
 if f.err=0 then match qb3 ⟨[],[],0⟩ 0 f.steps with
  | some x=>(nPar x.vars,nTwo f.steps,0)
  | none=>(0,0,4)
 else (0,0,f.err)
theorem qf5:∀ (l:List Step) (x y:Frm) (i:Nat),x.vars.length<=64->qb3 x i l=some y->y.vars.length<=64
 | [],x,y,i,h,e=>by simp [qb3] at e;subst e;exact h
 | s :: r,x,y,i,h,e=>by
  rw [qb3] at e
  split at e
  · cases e
  ·
   next hb =>
   refine qf5 r _ y (i+1) ?_ e;unfold bigF at hb;simp only [Bool.or_eq_true,decide_eq_true_eq] at hb
   show (nextF x s.kind s.args s.ratio.q i).1.length<=64
   omega
theorem qr9 (f:Fig) (sa:Option Addr) (sc:Nat) (ga:Option Addr) (gc:Nat) (w:World) (h:FigR w sa sc ga gc f) (hq:f.few) (he:f.err≠0) :
  Calls Tryz.prog 19 #[f.val sa sc ga gc] w fun e w'=>Below w.heap.size w w'/\e=.returned (.tuple #[.agg #[.slice none 0 0,.slice none 0 0],.int .i64 f.err]):=by
 have C:=fun W (hW:Below w.heap.size w W)=>qjy f sa sc ga gc W ⟨h.1.ext (xbw hW),h.2.ext (xbw hW)⟩ hq
 obtain ⟨er,her⟩:∃ er,er=f.err:=⟨_,rfl⟩
 rw [<- her] at C he ⊢;have hne:(er != 0)=true:=by simpa using he
 unfold Fig.val at C ⊢;replace C:=Hd C;replace her:=Hd her;replace he:=Hd he;clear h hq;go_enter Tryz.func19,Tryz.ntmps19;go_wp2_with fail;refine qad (fun W=>Blk W (w.heap.size+1) 58 #[.slice none 0 0,.slice none 0 0]/\Below w.heap.size w W) ⟨by ((with_reducible repeat first|assumption|(apply bF;focus omega)|apply bS|(apply bN;focus (simp;done))|apply bA|apply bD);all_goals rfl),by go_grown⟩ ?_;rintro w0 ⟨hz,hw0⟩;refine (C.out w0 hw0).mono ?_;rintro e w1 ⟨rfl,hb1⟩;have hw1:=bth hw0 hb1;replace hz:=hz.below' hb1;obtain ⟨y0,y1⟩:=cq2 hz;obtain ⟨f0,f1⟩:=fq2 hz;have zl:=hz.lt;clear hw0 hb1 C;go_wp2;refine qab (fun W=>Blk W (w.heap.size+1) 58 #[.slice none 0 0,.slice none 0 0]/\Below w.heap.size w W) ⟨by ((with_reducible repeat first|assumption|(apply bF;focus omega)|apply bS|(apply bN;focus (simp;done))|apply bA|apply bD);all_goals rfl),by go_grown⟩ ?_;rintro wF ⟨hF4,hwF⟩
 obtain ⟨e0,e1⟩:=cq2 hF4;refine bodyPost_ret (v:=.tuple #[.agg #[.slice none 0 0,.slice none 0 0],.int .i64 er]) (by simp [results,Tryz.results19,go_sem,e0,e1]) rfl ?_;exact ⟨hwF,rfl⟩
theorem qux (f:Fig) (sa:Option Addr) (sc:Nat) (ga:Option Addr) (gc:Nat) (w:World) (h:FigR w sa sc ga gc f) (hq:f.few) (he:f.err≠0) :
  Calls Tryz.prog 41 #[f.val sa sc ga gc] w fun e w'=>Below w.heap.size w w'/\e=.returned (.tuple #[.agg #[.slice none 0 0,.slice none 0 0],.int .i64 f.err]):=by
 have C:=fun W (hW:Below w.heap.size w W)=>qf6 f sa sc ga gc W ⟨h.1.ext (xbw hW),h.2.ext (xbw hW)⟩ hq
 obtain ⟨er,her⟩:∃ er,er=f.err:=⟨_,rfl⟩
 rw [<- her] at C he ⊢;have hne:(er != 0)=true:=by simpa using he
 unfold Fig.val at C ⊢;replace C:=Hd C;replace her:=Hd her;replace he:=Hd he;clear h hq;go_enter Tryz.func41,Tryz.ntmps41;go_wp2_with fail;refine qad (fun W=>Blk W (w.heap.size+1) 58 #[.slice none 0 0,.slice none 0 0]/\Below w.heap.size w W) ⟨by ((with_reducible repeat first|assumption|(apply bF;focus omega)|apply bS|(apply bN;focus (simp;done))|apply bA|apply bD);all_goals rfl),by go_grown⟩ ?_;rintro w0 ⟨hz,hw0⟩;refine (C.out w0 hw0).mono ?_;rintro e w1 ⟨rfl,hb1⟩;have hw1:=bth hw0 hb1;replace hz:=hz.below' hb1;obtain ⟨y0,y1⟩:=cq2 hz;obtain ⟨f0,f1⟩:=fq2 hz;have zl:=hz.lt;clear hw0 hb1 C;go_wp2;refine qab (fun W=>Blk W (w.heap.size+1) 58 #[.slice none 0 0,.slice none 0 0]/\Below w.heap.size w W) ⟨by ((with_reducible repeat first|assumption|(apply bF;focus omega)|apply bS|(apply bN;focus (simp;done))|apply bA|apply bD);all_goals rfl),by go_grown⟩ ?_;rintro wF ⟨hF4,hwF⟩
 obtain ⟨e0,e1⟩:=cq2 hF4;refine bodyPost_ret (v:=.tuple #[.agg #[.slice none 0 0,.slice none 0 0],.int .i64 er]) (by simp [results,Tryz.results41,go_sem,e0,e1]) rfl ?_;exact ⟨hwF,rfl⟩
theorem qhd (f:Fig) (er:Int) (sa:Option Addr) (sc:Nat) (ga:Option Addr) (gc:Nat) (w:World) (hne:(er != 0)=true)
  (C:∀ W,Below w.heap.size w W->Calls Tryz.prog 19 #[f.val sa sc ga gc] W fun e w'=>Below W.heap.size W w'/\e=.returned (.tuple #[.agg #[.slice none 0 0,.slice none 0 0],.int .i64 er])) :
  Calls Tryz.prog 8 #[f.val sa sc ga gc] w (RetCh (0,0,er) w):=by
 unfold Fig.val at C ⊢;replace C:=Hd C;go_enter Tryz.func8,Tryz.ntmps8;go_wp2_with fail;refine qad (fun W=>Below w.heap.size w W) (by go_grown) ?_;intro w0 hw0;refine (C.out w0 hw0).mono ?_;rintro e w1 ⟨hb1,rfl⟩;have hw1:=bth hw0 hb1;clear hw0 hb1 C;go_wp2;refine bodyPost_ret (v:=.tuple #[.int .i64 0,.int .i64 0,.int .i64 er]) (by simp [results,Tryz.results8,go_sem]) rfl ?_;exact ⟨rfl,hw1.alloc hw1.size _⟩
theorem qho (f:Fig) (er:Int) (sa:Option Addr) (sc:Nat) (ga:Option Addr) (gc:Nat) (w:World) (hne:(er != 0)=true)
  (C:∀ W,Below w.heap.size w W->Calls Tryz.prog 41 #[f.val sa sc ga gc] W fun e w'=>Below W.heap.size W w'/\e=.returned (.tuple #[.agg #[.slice none 0 0,.slice none 0 0],.int .i64 er])) :
  Calls Tryz.prog 22 #[f.val sa sc ga gc] w (RetCh (0,0,er) w):=by
 unfold Fig.val at C ⊢;replace C:=Hd C;go_enter Tryz.func22,Tryz.ntmps22;go_wp2_with fail;refine qad (fun W=>Below w.heap.size w W) (by go_grown) ?_;intro w0 hw0;refine (C.out w0 hw0).mono ?_;rintro e w1 ⟨hb1,rfl⟩;have hw1:=bth hw0 hb1;clear hw0 hb1 C;go_wp2;refine bodyPost_ret (v:=.tuple #[.int .i64 0,.int .i64 0,.int .i64 er]) (by simp [results,Tryz.results22,go_sem]) rfl ?_;exact ⟨rfl,hw1.alloc hw1.size _⟩
theorem zz70 {P:Prop} (h:P:=by
 go_wp2;go_roundg (gk-1)
 case rel=>exact ⟨k+1,by have:=hm.out;show _=_;omega,congrArg _ (by rw [hn2.out];simp),by go_num,hnx.out⟩
 case measure=>have:=hm.out;omega
 ):P:=h
theorem zz69 {P:Prop} (h:P:=by
 replace BR:=Hd BR;clear c0 c1 c2 c3 c4 c5 hz2;go_wp2_with fail;refine qad (fun W=>Below wr.heap.size wr W) (by go_grown) ?_;intro w3 hb3;refine (BR.out w3).mono ?_;rintro e w4 ⟨rfl,rfl⟩;have hnx:=Hd (bth hwr hb3);clear BR d0 d1 d2 d3 d4 d5 z0 z1 hb3;by_cases h2k:twoK s.kind=true
 ·
  rw [h2k];have hn2:=hn.out;rw [if_pos h2k] at hn2;replace hn2:=Hd hn2;clear h2k;exact zz70
 ·
  have h2f:twoK s.kind=false:=by simpa using h2k
  rw [h2f];have hn2:=hn.out;rw [if_neg h2k] at hn2;replace hn2:=Hd hn2;clear h2k h2f;exact zz70
 ):P:=h
theorem ql4 (x:Frm) (steps:List Step) (goals:List Fct) (sa:Option Addr) (sc:Nat) (ga:Option Addr) (gc:Nat) (w:World) (hS:qco w sa sc steps) (hsl:steps.length<=100) (hxl:x.vars.length<=64)
  (C:∀ W,Below w.heap.size w W->Calls Tryz.prog 19 #[.agg #[.slice sa steps.length sc,.slice ga goals.length gc]] W fun e w'=>Below W.heap.size W w'/\qjk (fun _=>False) x e w') :
  Calls Tryz.prog 8 #[.agg #[.slice sa steps.length sc,.slice ga goals.length gc]] w (RetCh (nPar x.vars,nTwo steps,0) w):=by
 have HS:=Hd hS;replace C:=Hd C;obtain ⟨np,hnp⟩:∃ n,n=nPar x.vars:=⟨_,rfl⟩
 have hnp64:np<=64:=by have:=qku x.vars;omega
 rw [<- hnp];replace hnp:=Hd hnp;clear hS;go_enter Tryz.func8,Tryz.ntmps8;go_wp2_with fail;refine qad (fun W=>Blk W w.heap.size 25 #[.slice sa steps.length sc,.slice ga goals.length gc]/\Below w.heap.size w W) ⟨by ((with_reducible repeat first|assumption|(apply bF;focus omega)|apply bS|(apply bN;focus (simp;done))|apply bA|apply bD);all_goals rfl),by go_grown⟩ ?_;rintro w0 ⟨h0,hw0⟩;refine (C.out w0 hw0).mono ?_;rintro e w1 ⟨hb1,hs,ra,va,rc,vc,B,rfl,_,_,hvr,_⟩;have hw1:=bth hw0 hb1;replace h0:=h0.below' hb1;replace hvr:=Hd hvr;obtain ⟨k0,k1⟩:=cq2 h0;have kl:=h0.lt;clear hw0 hb1 C;go_wp2
 refine qab (fun W=>Blk W w.heap.size 25 #[.slice sa steps.length sc,.slice ga goals.length gc]/\Blk W w1.heap.size 58 #[.slice ra hs.length rc,.slice va x.vars.length vc]/\Below w1.heap.size w1 W) (by refine ⟨?_,?_,?_⟩<;>first|((with_reducible repeat first|assumption|(apply bF;focus omega)|apply bS|(apply bN;focus (simp;done))|apply bA|apply bD);all_goals rfl)|go_grown) ?_;rintro w2 ⟨h2,hF,hb2⟩;have hw2:=bth hw1 hb2;have hvr2:=Hd (hvr.out.below hb2);obtain ⟨z0,z1⟩:=cq2 h2;obtain ⟨gF,hgF⟩:∃ g,g=w1.heap.size:=⟨_,rfl⟩
 rw [<- hgF] at hF ⊢;replace hgF:=Hd hgF;clear h0 k0 k1 kl hb2 hvr hw1;go_wp2
 go_loopg [3,7,19] steps.length (fun m ct _ q wr=>∃ k:Nat,Hid (k+m=steps.length)/\ct=.int .i64 (nTwo (steps.take k))/\q=.int .i64 k/\Below w2.heap.size w2 wr)
 case atStart=>exact ⟨0,by show _=_;omega,rfl,rfl,Below.refl _ _⟩
 case round =>
  obtain ⟨k,hm,rfl,rfl,hwr⟩:=hrel;have hz2:=h2.below' hwr;obtain ⟨z0,z1⟩:=cq2 hz2;have zl:=hz2.lt;have hw2r:=bth hw2 hwr;by_cases hlt:k<steps.length
  ·
   obtain ⟨s,hs_⟩:=qac hlt;obtain ⟨b,o,rfl,p,hC,hP,hin,hsz⟩:=HS.out.2.2 k s hs_;have hl0:=HS.out.len;obtain ⟨c0,c1,c2,c3,c4,c5⟩:=hC;have d0:=held c0 wr hw2r;have d1:=held c1 wr hw2r;have d2:=held c2 wr hw2r;have d3:=held c3 wr hw2r;have d4:=held c4 wr hw2r;have d5:=held c5 wr hw2r;have hbl:b<wr.heap.size:=World.block_lt_of_cell? wr _ d0;have hn:=ql1 hs_;have hle:=qps (steps.take k);rw [List.length_take] at hle;replace hs_:=Hd hs_;replace hn:=Hd hn;replace hP:=Hd hP;replace hin:=Hd hin;have BR:=fun W=>qkm s.kind W
   exact zz69
  ·
   have hk:k=steps.length:=by have:=hm.out;omega
   have htk:nTwo (steps.take k)=nTwo steps:=by rw [hk,List.take_length]
   rw [htk];have hF3:=hF.below' hwr;obtain ⟨x0,x1⟩:=cq2 hF3;have xl:=hF3.lt;have CP:=qoz x.vars ra va B hs.length rc vc wr (hvr2.out.below hwr) (by omega);rw [<- hnp.out] at CP;replace CP:=Hd CP;replace htk:=Hd htk;clear hF3 hk hz2;go_wp2_with fail;refine CP.out.mono ?_;rintro e w5 ⟨⟨a5,c5,rfl⟩,hb5⟩;have hw5:=bth hw2r hb5;clear CP x0 x1 xl hb5 z0 z1 zl;go_wp2;refine bodyPost_ret (v:=.tuple #[.int .i64 np,.int .i64 (nTwo steps),.int .i64 0]) (by simp [results,Tryz.results8,go_sem]) rfl ?_;exact ⟨rfl,hw5⟩
theorem qmd (x:Frm) (steps:List Step) (goals:List Fct) (sa:Option Addr) (sc:Nat) (ga:Option Addr) (gc:Nat) (w:World) (hS:qco w sa sc steps) (hsl:steps.length<=100) (hxl:x.vars.length<=64)
  (C:∀ W,Below w.heap.size w W->Calls Tryz.prog 41 #[.agg #[.slice sa steps.length sc,.slice ga goals.length gc]] W fun e w'=>Below W.heap.size W w'/\qjk (fun _=>False) x e w') :
  Calls Tryz.prog 22 #[.agg #[.slice sa steps.length sc,.slice ga goals.length gc]] w (RetCh (nPar x.vars,nTwo steps,0) w):=by
 have HS:=Hd hS;replace C:=Hd C;obtain ⟨np,hnp⟩:∃ n,n=nPar x.vars:=⟨_,rfl⟩
 have hnp64:np<=64:=by have:=qku x.vars;omega
 rw [<- hnp];replace hnp:=Hd hnp;clear hS;go_enter Tryz.func22,Tryz.ntmps22;go_wp2_with fail;refine qad (fun W=>Blk W w.heap.size 25 #[.slice sa steps.length sc,.slice ga goals.length gc]/\Below w.heap.size w W) ⟨by ((with_reducible repeat first|assumption|(apply bF;focus omega)|apply bS|(apply bN;focus (simp;done))|apply bA|apply bD);all_goals rfl),by go_grown⟩ ?_;rintro w0 ⟨h0,hw0⟩;refine (C.out w0 hw0).mono ?_;rintro e w1 ⟨hb1,hs,ra,va,rc,vc,B,rfl,_,_,hvr,_⟩;have hw1:=bth hw0 hb1;replace h0:=h0.below' hb1;replace hvr:=Hd hvr;obtain ⟨k0,k1⟩:=cq2 h0;have kl:=h0.lt;clear hw0 hb1 C;go_wp2
 refine qab (fun W=>Blk W w.heap.size 25 #[.slice sa steps.length sc,.slice ga goals.length gc]/\Blk W w1.heap.size 58 #[.slice ra hs.length rc,.slice va x.vars.length vc]/\Below w1.heap.size w1 W) (by refine ⟨?_,?_,?_⟩<;>first|((with_reducible repeat first|assumption|(apply bF;focus omega)|apply bS|(apply bN;focus (simp;done))|apply bA|apply bD);all_goals rfl)|go_grown) ?_;rintro w2 ⟨h2,hF,hb2⟩;have hw2:=bth hw1 hb2;have hvr2:=Hd (hvr.out.below hb2);obtain ⟨z0,z1⟩:=cq2 h2;obtain ⟨gF,hgF⟩:∃ g,g=w1.heap.size:=⟨_,rfl⟩
 rw [<- hgF] at hF ⊢;replace hgF:=Hd hgF;clear h0 k0 k1 kl hb2 hvr hw1;go_wp2
 go_loopg [7,8] steps.length (fun m ct q wr=>∃ k:Nat,Hid (k+m=steps.length)/\ct=.int .i64 (nTwo (steps.take k))/\q=.int .i64 k/\Below w2.heap.size w2 wr)
 case atStart=>exact ⟨0,by show _=_;omega,rfl,rfl,Below.refl _ _⟩
 case round =>
  obtain ⟨k,hm,rfl,rfl,hwr⟩:=hrel;have hz2:=h2.below' hwr;obtain ⟨z0,z1⟩:=cq2 hz2;have zl:=hz2.lt;have hw2r:=bth hw2 hwr;by_cases hlt:k<steps.length
  ·
   obtain ⟨s,hs_⟩:=qac hlt;obtain ⟨b,o,rfl,p,hC,hP,hin,hsz⟩:=HS.out.2.2 k s hs_;have hl0:=HS.out.len;obtain ⟨c0,c1,c2,c3,c4,c5⟩:=hC;have d0:=held c0 wr hw2r;have d1:=held c1 wr hw2r;have d2:=held c2 wr hw2r;have d3:=held c3 wr hw2r;have d4:=held c4 wr hw2r;have d5:=held c5 wr hw2r;have hbl:b<wr.heap.size:=World.block_lt_of_cell? wr _ d0;have hn:=ql1 hs_;have hle:=qps (steps.take k);rw [List.length_take] at hle;replace hs_:=Hd hs_;replace hn:=Hd hn;replace hP:=Hd hP;replace hin:=Hd hin;have BR:=fun W=>qkb s.kind W
   exact zz69
  ·
   have hk:k=steps.length:=by have:=hm.out;omega
   have htk:nTwo (steps.take k)=nTwo steps:=by rw [hk,List.take_length]
   rw [htk];have hF3:=hF.below' hwr;obtain ⟨x0,x1⟩:=cq2 hF3;have xl:=hF3.lt;have CP:=qov x.vars ra va B hs.length rc vc wr (hvr2.out.below hwr) (by omega);rw [<- hnp.out] at CP;replace CP:=Hd CP;replace htk:=Hd htk;clear hF3 hk hz2;go_wp2_with fail;refine CP.out.mono ?_;rintro e w5 ⟨⟨a5,c5,rfl⟩,hb5⟩;have hw5:=bth hw2r hb5;clear CP x0 x1 xl hb5 z0 z1 zl;go_wp2;refine bodyPost_ret (v:=.tuple #[.int .i64 np,.int .i64 (nTwo steps),.int .i64 0]) (by simp [results,Tryz.results22,go_sem]) rfl ?_;exact ⟨rfl,hw5⟩
theorem qmu {f:Fig} (he:f.err=0) (hr:∀ s∈f.steps,s.ratio.num.length<=2/\s.ratio.den.length<=2):∀ s∈f.steps,s.kind=2->s.ratio.short=true:=fun s hs hk=>by
 obtain ⟨i,hi⟩:=List.getElem?_of_mem hs;have h1:=((qdx he).2 i s hi).2.2.2.2 hk;exact Rt.short_iff.2 ⟨h1,hr s hs⟩
theorem qhr (f:Fig) (sa:Option Addr) (sc:Nat) (ga:Option Addr) (gc:Nat) (w:World) (h:FigR w sa sc ga gc f) (hq:f.few) (hr:∀ s∈f.steps,s.ratio.num.length<=2/\s.ratio.den.length<=2) :
  Calls Tryz.prog 8 #[f.val sa sc ga gc] w (RetCh (chF f) w):=by
 unfold chF;by_cases he:f.err=0
 ·
  rw [if_pos he];have C:=fun W (hW:Below w.heap.size w W)=>qsj (fun _=>False) f sa sc ga gc w W h hW hq he (fun b hb=>hb.elim) (qmu he hr)
  cases hs:qb3 ⟨[],[],0⟩ 0 f.steps with
  | none =>
   rw [hs] at C;exact qhd f 4 sa sc ga gc w rfl C
  | some x =>
   rw [hs] at C;exact ql4 x f.steps f.goals sa sc ga gc w h.1 (by have:=(qdx he).1;omega) (qf5 f.steps _ x 0 (by simp) hs) C
 ·
  rw [if_neg he];exact qhd f f.err sa sc ga gc w (by simpa using he) fun W hW=>qr9 f sa sc ga gc W ⟨h.1.ext (xbw hW),h.2.ext (xbw hW)⟩ hq he
theorem qn6 (f:Fig) (sa:Option Addr) (sc:Nat) (ga:Option Addr) (gc:Nat) (w:World) (h:FigR w sa sc ga gc f) (hq:f.few) (hr:∀ s∈f.steps,s.ratio.num.length<=2/\s.ratio.den.length<=2) :
  Calls Tryz.prog 22 #[f.val sa sc ga gc] w (RetCh (chF f) w):=by
 unfold chF;by_cases he:f.err=0
 ·
  rw [if_pos he];have C:=fun W (hW:Below w.heap.size w W)=>qs8 (fun _=>False) f sa sc ga gc w W h hW hq he (fun b hb=>hb.elim) (qmu he hr)
  cases hs:qb3 ⟨[],[],0⟩ 0 f.steps with
  | none =>
   rw [hs] at C;exact qho f 4 sa sc ga gc w rfl C
  | some x =>
   rw [hs] at C;exact qmd x f.steps f.goals sa sc ga gc w h.1 (by have:=(qdx he).1;omega) (qf5 f.steps _ x 0 (by simp) hs) C
 ·
  rw [if_neg he];exact qho f f.err sa sc ga gc w (by simpa using he) fun W hW=>qux f sa sc ga gc W ⟨h.1.ext (xbw hW),h.2.ext (xbw hW)⟩ hq he
theorem ql7 (f:Fig) (sa:Option Addr) (sc:Nat) (ga:Option Addr) (gc:Nat) (w:World) (h:FigR w sa sc ga gc f) (hq:f.few) (hr:∀ s∈f.steps,s.ratio.num.length<=2/\s.ratio.den.length<=2) :
  Calls Tryz.prog 9 #[f.val sa sc ga gc] w (RetCh (chF f) w):=by
 have C:=fun W (hW:Below w.heap.size w W)=>qn6 f sa sc ga gc W ⟨h.1.ext (xbw hW),h.2.ext (xbw hW)⟩ hq hr
 unfold Fig.val at C ⊢;obtain ⟨t,ht⟩:∃ t,t=chF f:=⟨_,rfl⟩
 rw [<- ht] at C ⊢;replace C:=Hd C;clear h hq hr ht;go_enter Tryz.func9,Tryz.ntmps9;go_wp2_with fail;refine qad (fun W=>Below w.heap.size w W) (by go_grown) ?_;intro w0 hw0;refine (C.out w0 hw0).mono ?_;rintro e w1 ⟨rfl,hb1⟩;have hw1:=bth hw0 hb1;clear hw0 hb1 C;go_wp2;refine bodyPost_ret (v:=.tuple #[.int .i64 t.1,.int .i64 t.2.1,.int .i64 t.2.2]) (by simp [results,Tryz.results9,go_sem]) rfl ?_;exact ⟨rfl,hw1⟩
def stF (c:UInt8):Step:=⟨1,⟨#[c]⟩,[],⟨false,[],[]⟩⟩
def stW:List Step:=[stF 65,stF 66,stF 67,⟨7,⟨#[68]⟩,[2,0,1],⟨false,[],[]⟩⟩]
def figW:Fig:=⟨stW,[]⟩
theorem chW:chF figW=(3,0,0):=by decide +kernel
theorem ptsW:(stC (ratsI [4,1,3]) stW 4).1=[(0,0),(4,0),(1,3),(1,0)]:=by decide +kernel
theorem ptsV:(stC (ratsI [0,1,3]) stW 3).1=[(0,0),(0,0),(1,3)]:=by decide +kernel
theorem txtW:ofL (textI (qbj stW 4) [(0,0),(4,0),(1,3),(1,0)])=⟨#[65,32,48,32,48,10,66,32,52,32,48,10,67,32,49,32,51,10,68,32,49,32,48,10]⟩:=by decide +kernel
theorem okW:∀ (k:Nat) (s:Step),k<=4->stW[k]? = some s->okC s (stC (ratsI [4,1,3]) stW k).1 (stC (ratsI [4,1,3]) stW k).2
 | 0,s,_,h=>by injection h with h;subst h;unfold okC qbs;decide +kernel
 | 1,s,_,h=>by injection h with h;subst h;unfold okC qbs;decide +kernel
 | 2,s,_,h=>by injection h with h;subst h;unfold okC qbs;decide +kernel
 | 3,s,_,h=>by injection h with h;subst h;unfold okC qbs;decide +kernel
 | k+4,s,_,h=>by cases h
theorem okV:∀ (k:Nat) (s:Step),k<=3->stW[k]? = some s->okC s (stC (ratsI [0,1,3]) stW k).1 (stC (ratsI [0,1,3]) stW k).2
 | 0,s,_,h=>by injection h with h;subst h;unfold okC qbs;decide +kernel
 | 1,s,_,h=>by injection h with h;subst h;unfold okC qbs;decide +kernel
 | 2,s,_,h=>by injection h with h;subst h;unfold okC qbs;decide +kernel
 | 3,s,_,h=>by injection h with h;subst h;unfold okC qbs;decide +kernel
 | k+4,s,_,h=>by cases h
theorem erW:∀ (k:Nat) (s:Step),k<4->stW[k]? = some s->(stepC s (stC (ratsI [4,1,3]) stW k).1 (stC (ratsI [4,1,3]) stW k).2).2.1=0
 | 0,s,_,h=>by injection h with h;subst h;decide +kernel
 | 1,s,_,h=>by injection h with h;subst h;decide +kernel
 | 2,s,_,h=>by injection h with h;subst h;decide +kernel
 | 3,s,_,h=>by injection h with h;subst h;decide +kernel
 | k+4,s,_,h=>by cases h
theorem erV:∀ (k:Nat) (s:Step),k<3->stW[k]? = some s->(stepC s (stC (ratsI [0,1,3]) stW k).1 (stC (ratsI [0,1,3]) stW k).2).2.1=0
 | 0,s,_,h=>by injection h with h;subst h;decide +kernel
 | 1,s,_,h=>by injection h with h;subst h;decide +kernel
 | 2,s,_,h=>by injection h with h;subst h;decide +kernel
 | k+3,s,h,_=>absurd h (by omega)
theorem enV:∀ s,stW[3]? = some s->(stepC s (stC (ratsI [0,1,3]) stW 3).1 (stC (ratsI [0,1,3]) stW 3).2).2.1=11:=fun s h=>by
 injection h with h;subst h;decide +kernel
theorem szW:∀ q∈ratsI [4,1,3],qsz q<=1000000:=by decide +kernel
theorem szV:∀ q∈ratsI [0,1,3],qsz q<=1000000:=by decide +kernel
theorem smW:∀ p∈[((0:Rat),(0:Rat)),(4,0),(1,3),(1,0)],qbs p:=by unfold qbs;decide +kernel
theorem nmW:∀ n∈qbj stW 4,n.size<=100000000:=by decide +kernel
theorem fewW:figW.few:=by unfold Fig.few Rt.few;decide +kernel
theorem shW:∀ s∈figW.steps,s.ratio.num.length<=2/\s.ratio.den.length<=2:=by decide +kernel
theorem qvr {W:World} {gS gA:Nat} (hS:Blk W gS 53 #[.int .i64 1,.string ⟨#[65]⟩,.slice none 0 0,.bool false,.slice none 0 0,.slice none 0 0,.int .i64 1,.string ⟨#[66]⟩,.slice none 0 0,.bool false,.slice none 0 0,.slice none 0 0,.int .i64 1,.string ⟨#[67]⟩,.slice none 0 0,.bool false,.slice none 0 0,.slice none 0 0,.int .i64 7,.string ⟨#[68]⟩,.slice (some ⟨gA,0,none⟩) 3 3,.bool false,.slice none 0 0,.slice none 0 0]) (hA:Blk W gA 3 #[.int .i64 2,.int .i64 0,.int .i64 1]):FigR W (some ⟨gS,0,none⟩) 4 none 0 figW:=by
 have hi:IntsR W (some ⟨gA,0,none⟩) 3 [2,0,1]:=⟨by simp,by simp [maxLen],fun k x hx=>⟨gA,0,rfl,by
  match k,hx with
  | 0,hx=>injection hx with hx;subst hx;exact ⟨hA.cell 0,rfl⟩
  | 1,hx=>injection hx with hx;subst hx;exact ⟨hA.cell 1,rfl⟩
  | 2,hx=>injection hx with hx;subst hx;exact ⟨hA.cell 2,rfl⟩⟩⟩
 have z:qb8 W ⟨none,0,none,0,none,0⟩ [] ⟨false,[],[]⟩:=⟨SlR.nil,SlR.nil,SlR.nil⟩
 refine ⟨⟨by decide,by simp [maxLen],fun k s hs=>⟨gS,0,rfl,?_⟩⟩,SlR.nil⟩
 match k,hs with
 | 0,hs=>injection hs with hs;subst hs;exact ⟨⟨none,0,none,0,none,0⟩,⟨hS.cell 0,hS.cell 1,hS.cell 2,hS.cell 3,hS.cell 4,hS.cell 5⟩,z,⟨by show (-9223372036854775808:Int)<=1;omega,by show (1:Int)<=9223372036854775807;omega⟩,by decide⟩
 | 1,hs=>injection hs with hs;subst hs;exact ⟨⟨none,0,none,0,none,0⟩,⟨hS.cell 6,hS.cell 7,hS.cell 8,hS.cell 9,hS.cell 10,hS.cell 11⟩,z,⟨by show (-9223372036854775808:Int)<=1;omega,by show (1:Int)<=9223372036854775807;omega⟩,by decide⟩
 | 2,hs=>injection hs with hs;subst hs;exact ⟨⟨none,0,none,0,none,0⟩,⟨hS.cell 12,hS.cell 13,hS.cell 14,hS.cell 15,hS.cell 16,hS.cell 17⟩,z,⟨by show (-9223372036854775808:Int)<=1;omega,by show (1:Int)<=9223372036854775807;omega⟩,by decide⟩
 | 3,hs=>injection hs with hs;subst hs;exact ⟨⟨some ⟨gA,0,none⟩,3,none,0,none,0⟩,⟨hS.cell 18,hS.cell 19,hS.cell 20,hS.cell 21,hS.cell 22,hS.cell 23⟩,⟨hi,SlR.nil,SlR.nil⟩,⟨by show (-9223372036854775808:Int)<=7;omega,by show (7:Int)<=9223372036854775807;omega⟩,by decide⟩
theorem ints3 {W:World} {g:Nat} {a b c:Int} (ha:(Lit.int .i64 a).wf=true) (hb:(Lit.int .i64 b).wf=true) (hc:(Lit.int .i64 c).wf=true) (h:Blk W g 3 #[.int .i64 a,.int .i64 b,.int .i64 c]):IntsR W (some ⟨g,0,none⟩) 3 [a,b,c] :=
 ⟨by simp,by simp [maxLen],fun k x hx=>⟨g,0,rfl,by
  match k,hx with
  | 0,hx=>injection hx with hx;subst hx;exact ⟨h.cell 0,ha⟩
  | 1,hx=>injection hx with hx;subst hx;exact ⟨h.cell 1,hb⟩
  | 2,hx=>injection hx with hx;subst hx;exact ⟨h.cell 2,hc⟩⟩⟩
theorem qwz {R:World->Prop} {B T B0 g:Nat} {w:World} {x y z:Value} (_:B0<=g) (h:Kp R B T w) (hg:g<B\/T<=g):R (((w.setCell ⟨g,0,none⟩ x).setCell ⟨g,1,none⟩ y).setCell ⟨g,2,none⟩ z):=(((h.setc hg).setc hg).setc hg).now
def FigAt (gS:Nat) (W:World):Prop:=FigR W (some ⟨gS,0,none⟩) 4 none 0 figW
theorem chAt (gS:Nat) (W:World) (h:FigAt gS W):Calls Tryz.prog 8 #[.agg #[.slice (some ⟨gS,0,none⟩) 4 4,.slice none 0 0]] W (RetCh (3,0,0) W):=by
 have:=qhr figW (some ⟨gS,0,none⟩) 4 none 0 W h fewW shW;rw [chW] at this;exact this
theorem ATW {gS:Nat} (qa:Option Addr) (qc:Nat) (W:World) (h:FigAt gS W) (hQ:QsR W qa qc (ratsI [4,1,3])):Calls Tryz.prog 11 #[.agg #[.slice (some ⟨gS,0,none⟩) 4 4,.slice none 0 0],.slice qa (ratsI [4,1,3]).length qc,.slice none 0 0] W (qki 4 4 (ratsI [4,1,3]) [] [(0,0),(4,0),(1,3),(1,0)] W):=by
 have:=qna stW [] (ratsI [4,1,3]) [] 4 (some ⟨gS,0,none⟩) none qa none 4 0 qc 0 W h.1 hQ SlR.nil (fun V hV=>chAt gS V (h.ext (xbw hV))) (by decide) (by decide) szW (by decide) (by decide) (fun k s hk hs=>okW k s hk hs) erW (fun s hs=>by cases hs);rw [ptsW] at this;exact this
theorem ATV {gS:Nat} (qa:Option Addr) (qc:Nat) (W:World) (h:FigAt gS W) (hQ:QsR W qa qc (ratsI [0,1,3])):Calls Tryz.prog 11 #[.agg #[.slice (some ⟨gS,0,none⟩) 4 4,.slice none 0 0],.slice qa (ratsI [0,1,3]).length qc,.slice none 0 0] W (qki 4 3 (ratsI [0,1,3]) [] [(0,0),(0,0),(1,3)] W):=by
 have:=qna stW [] (ratsI [0,1,3]) [] 3 (some ⟨gS,0,none⟩) none qa none 4 0 qc 0 W h.1 hQ SlR.nil (fun V hV=>chAt gS V (h.ext (xbw hV))) (by decide) (by decide) szV (by decide) (by decide) (fun k s hk hs=>okV k s hk hs) erV (fun s hs=>enV s hs);rw [ptsV] at this;exact this
theorem zz73 {P:Prop} (h:P:=by
 obtain ⟨f0,f1,f2⟩:=cq3 hT.out;obtain ⟨z0,z1,z2⟩:=fq3 hT.out;have hlT:=hT.out.lt;refine qaq rfl rfl (fun K hK=>?_);go_simp;refine hK.out _ _ (qbm s4 hgT.out) (fun _=>?_);clear hK K
 iterate 1 (refine qcd rfl rfl fun K hK=>xq ?_;go_simp;refine hK _ _ ?_;clear hK K)
 iterate 1 (refine qjh rfl rfl fun K hK=>xp ?_;go_simp;refine hK _ _ ?_;clear hK K)
 refine qct ?_;clear f0 f1 f2 z0 z1 z2;go_wp2
 go_meet
 case rel=>exact ⟨gT,ra,rb,rp,rc,rd,rq,_,_,rfl,rfl,rfl,Hd (by have:=hT.out;((with_reducible repeat first|assumption|(apply bF;focus omega)|apply bS|(apply bN;focus (simp;done))|apply bA|apply bD);all_goals rfl)),Hd (qwz hgT.out hRP.out hTp.out),Hd (qbm s4 hgT.out)⟩
 ):P:=h
theorem zz71 {P:Prop} (h:P:=by
 refine qaq rfl rfl (fun K hK=>?_);go_simp;have hTl:=hT.out.lt;refine (ATW qa qc v3 (HF.out _ s3) hQ.out).mono ?_;rintro r v4 ⟨hg,_⟩;obtain ⟨ra,rb,rp,rc,rd,rq,rfl,hR1,hR2,hR3,hb⟩:=hg rfl;dsimp only;have s4:=bth s3 hb;refine hK.out _ _ s4 (fun _=>?_);clear hK K;replace hT:=Hd (hT.out.below' hb);have hRP:=Hd hR3;have hTp:=Hd (show gT<v3.heap.size\/v4.heap.size<=gT from .inl hTl);clear hR1 hR2 hR3 hb hg
 iterate 4 (refine qcd rfl rfl fun K hK=>xq ?_;go_simp;refine hK _ _ ?_;clear hK K)
 exact zz73
 ):P:=h
theorem zz74 {P:Prop} (h:P:=by
 obtain ⟨f0,f1,f2⟩:=cq3 hT.out;obtain ⟨z0,z1,z2⟩:=fq3 hT.out;have hlT:=hT.out.lt;refine qaq rfl rfl (fun K hK=>?_);go_simp;refine hK.out _ _ (qbm s4 hgT.out) (fun _=>?_);clear hK K
 iterate 1 (refine qcd rfl rfl fun K hK=>xq ?_;go_simp;refine hK _ _ ?_;clear hK K)
 iterate 1 (refine qjh rfl rfl fun K hK=>xp ?_;go_simp;refine hK _ _ ?_;clear hK K)
 refine qct ?_;clear f0 f1 f2 z0 z1 z2;go_wp2
 go_meet
 case rel=>exact ⟨rfl,rfl,Hd (qbm s4 hgT.out)⟩
 ):P:=h
theorem zz72 {P:Prop} (h:P:=by
 refine qaq rfl rfl (fun K hK=>?_);go_simp;have hTl:=hT.out.lt;refine (ATV qa qc v3 (HF.out _ s3) hQ.out).mono ?_;rintro r v4 ⟨_,hg⟩;obtain ⟨rfl,hb⟩:=hg (by decide);dsimp only;have s4:=bth s3 hb;refine hK.out _ _ s4 (fun _=>?_);clear hK K;replace hT:=Hd (hT.out.below' hb);clear hb hg
 iterate 4 (refine qcd rfl rfl fun K hK=>xq ?_;go_simp;refine hK _ _ ?_;clear hK K)
 exact zz74
 ):P:=h
theorem zz75 {P:Prop} (h:P:=by
 refine qaq rfl rfl (fun K hK=>?_);go_simp;refine (qgt [4,1,3] (some ⟨gI,0,none⟩) 3 v2 hI.out (by decide) (by intro z hz;simp at hz;unfold InInt;omega)).mono ?_;rintro r v3 ⟨qa,qc,rfl,KQ,hb⟩;dsimp only;have s3:=bth s2 hb;refine hK.out _ _ s3 (fun _=>?_);clear hK K;have hQ:=Hd KQ.now;replace hT:=Hd (hT.out.below' hb);clear KQ hb;exact zz71
 ):P:=h
theorem zz76 {P:Prop} (h:P:=by
 refine qaq rfl rfl (fun K hK=>?_);go_simp;refine (qgt [0,1,3] (some ⟨gI,0,none⟩) 3 v2 hI.out (by decide) (by intro z hz;simp at hz;unfold InInt;omega)).mono ?_;rintro r v3 ⟨qa,qc,rfl,KQ,hb⟩;dsimp only;have s3:=bth s2 hb;refine hK.out _ _ s3 (fun _=>?_);clear hK K;have hQ:=Hd KQ.now;replace hT:=Hd (hT.out.below' hb);clear KQ hb;exact zz72
 ):P:=h
theorem qok (w:World):Calls Tryz.prog 7 #[] w fun e w'=>e=.returned (.bool true)/\Below w.heap.size w w':=by
 go_enter Tryz.func7,Tryz.ntmps7;go_wp2_with fail;refine qad (fun W=>Blk W (w.heap.size+1) 53 #[.int .i64 1,.string ⟨#[65]⟩,.slice none 0 0,.bool false,.slice none 0 0,.slice none 0 0,.int .i64 1,.string ⟨#[66]⟩,.slice none 0 0,.bool false,.slice none 0 0,.slice none 0 0,.int .i64 1,.string ⟨#[67]⟩,.slice none 0 0,.bool false,.slice none 0 0,.slice none 0 0,.int .i64 7,.string ⟨#[68]⟩,.slice (some ⟨w.heap.size,0,none⟩) 3 3,.bool false,.slice none 0 0,.slice none 0 0]/\Blk W w.heap.size 3 #[.int .i64 2,.int .i64 0,.int .i64 1]/\Blk W (w.heap.size+1+1) 25 #[.slice (some ⟨w.heap.size+1,0,none⟩) 4 4,.slice none 0 0]/\Below w.heap.size w W) (by refine ⟨?_,?_,?_,?_⟩<;>first|((with_reducible repeat first|assumption|(apply bF;focus omega)|apply bS|(apply bN;focus (simp;done))|apply bA|apply bD);all_goals rfl)|go_grown) ?_;rintro w0 ⟨bS,bA,bF,hw0⟩;have hF0:=qvr bS bA
 obtain ⟨gF,hgF⟩:∃ g,w.heap.size+1+1=g:=⟨_,rfl⟩
 obtain ⟨gS,hgS⟩:∃ g,w.heap.size+1=g:=⟨_,rfl⟩
 rw [hgF,hgS] at bF;rw [hgS] at hF0;simp only [hgF];simp only [hgS];replace hgF:=Hd hgF;replace hgS:=Hd hgS;refine (chAt gS w0 hF0).mono ?_;rintro e w1 ⟨rfl,hb1⟩;have hw1:=Hd (bth hw0 hb1);have HF:Hid (∀ W,Below w1.heap.size w1 W->FigAt gS W):=Hd fun W hW=>FigR.ext (FigR.ext hF0 (xbw hb1)) (xbw hW)
 replace bF:=bF.below' hb1;have k0:=held (bF.cell 0);have k1:=held (bF.cell 1);have hl1:=bF.lt;replace bF:=Hd bF;clear bS bA hw0 hb1 hF0;go_wp2
 go_cut [5,6,7] from 13 (fun s5 s6 s7 wc=>∃ (gT:Nat) (ra rb rp:Option Addr) (rc rd rq n1 n2:Nat),s5=.pointer (some ⟨gT,0,none⟩)/\s6=.int .i64 0/\s7=.int .i64 0/\Hid (Blk wc gT 36 #[.slice ra n1 rc,.slice rb n2 rd,.slice rp 4 rq])/\Hid (PsR wc rp rq [(0,0),(4,0),(1,3),(1,0)])/\Hid (Below w1.heap.size w1 wc))
 case first =>
  have s0:Below w1.heap.size w1 w1.drew:=brf.drew;obtain ⟨v0,hv0⟩:∃ v,w1.drew=v:=⟨_,rfl⟩
  refine qb1 (S:=Below w1.heap.size w1) (.q 0 (.two 1 (.two 2 (.two 3 (.q 4 (.q 5 (.q 6 (.q 7 (.l 8 (.l 9 (.q 10 (.p 11 .nil)))))))) 8 (.l 3 (.q 4 (.q 5 (.q 6 (.q 7 (.l 9 (.q 10 (.p 11 .nil))))))))) 8 (.l 2 (.l 3 (.q 4 (.q 5 (.q 6 (.q 7 (.l 9 (.q 10 (.p 11 .nil)))))))))) 8 (.l 1 (.l 2 (.l 3 (.q 4 (.q 5 (.q 6 (.q 7 (.l 9 (.q 10 (.p 11 .nil)))))))))))) [11] (by kernel_rfl) (by kernel_rfl) (by kernel_rfl) (fun d _ _ _ _ h=>by cases d <;> exact h) s0 ?_;rw [hv0] at s0 ⊢;replace hv0:=Hd hv0
  iterate 1 (refine qcd rfl rfl fun K hK=>xq ?_;go_simp;refine hK _ _ ?_;clear hK K)
  refine qbp ?_ ?_
  ·
   skip
   refine qaq rfl rfl (fun K hK=>?_);go_simp;refine hK.out _ _ (s0.alloc s0.size _) (fun _=>?_);clear hK K;refine qab (fun W=>Blk W v0.heap.size 3 #[.int .i64 4,.int .i64 1,.int .i64 3]/\Below v0.heap.size v0 W) ⟨by ((with_reducible repeat first|assumption|(apply bF;focus omega)|apply bS|(apply bN;focus (simp;done))|apply bA|apply bD);all_goals rfl),by go_grown⟩ ?_;rintro v1 ⟨bI,hb⟩;have s1:=bth s0 hb;have hI:=Hd (ints3 (by decide) (by decide) (by decide) bI);obtain ⟨gI,hgI⟩:∃ g,v0.heap.size=g:=⟨_,rfl⟩
   rw [hgI] at hI ⊢;replace hgI:=Hd hgI;clear bI hb;refine qbp ?_ ?_
   ·
    skip
    refine qaq rfl rfl (fun K hK=>?_);go_simp;refine (qgt [4,1,3] (some ⟨gI,0,none⟩) 3 v1 hI.out (by decide) (by intro z hz;simp at hz;unfold InInt;omega)).mono ?_;rintro r v2 ⟨qa,qc,rfl,KQ,hb⟩;dsimp only;have s2:=bth s1 hb;refine hK.out _ _ s2 (fun _=>?_);clear hK K;have hQ:=Hd KQ.now;clear KQ hb;refine qbp ?_ ?_
    ·
     skip
     refine qaq rfl rfl (fun K hK=>?_);go_simp;refine (ATW qa qc v2 (HF.out _ s2) hQ.out).mono ?_;rintro r v3 ⟨hg,_⟩;obtain ⟨ra,rb,rp,rc,rd,rq,rfl,hR1,hR2,hR3,hb⟩:=hg rfl;dsimp only;have s3:=bth s2 hb;refine hK.out _ _ s3 (fun _=>?_);clear hK K;have hRP:=Hd hR3;clear hR1 hR2 hR3 hb hg
     iterate 4 (refine qcd rfl rfl fun K hK=>xq ?_;go_simp;refine hK _ _ ?_;clear hK K)
     refine qaq rfl rfl (fun K hK=>?_);go_simp;refine hK.out _ _ (s3.alloc s3.size _) (fun _=>?_);clear hK K;refine qab (fun W=>Blk W v3.heap.size 36 #[.slice none 0 0,.slice none 0 0,.slice none 0 0]/\Below v3.heap.size v3 W) ⟨by ((with_reducible repeat first|assumption|(apply bF;focus omega)|apply bS|(apply bN;focus (simp;done))|apply bA|apply bD);all_goals rfl),by go_grown⟩ ?_;rintro v4 ⟨bT,hb⟩;have s4:=bth s3 hb;have hgT:=Hd s3.size;have hTp0:=nlr v3.heap.size;obtain ⟨gT,hg⟩:∃ g,v3.heap.size=g:=⟨_,rfl⟩
     have hT:=Hd (show Blk v4 gT 36 #[.slice none 0 0,.slice none 0 0,.slice none 0 0] from hg ▸ bT);have hTp:=Hd (show gT<v2.heap.size\/v3.heap.size<=gT from .inr (by omega));replace hRP:=Hd (hRP.out.call hb);clear hTp0;rw [hg] at hgT ⊢;clear bT hb hg;exact zz73
    ·
     skip
     refine qaq rfl rfl (fun K hK=>?_);go_simp;refine hK.out _ _ (s2.alloc s2.size _) (fun _=>?_);clear hK K;refine qab (fun W=>Blk W v2.heap.size 36 #[.slice none 0 0,.slice none 0 0,.slice none 0 0]/\Below v2.heap.size v2 W) ⟨by ((with_reducible repeat first|assumption|(apply bF;focus omega)|apply bS|(apply bN;focus (simp;done))|apply bA|apply bD);all_goals rfl),by go_grown⟩ ?_;rintro v3 ⟨bT,hb⟩;have s3:=bth s2 hb;have hgT:=Hd s2.size;obtain ⟨gT,hg⟩:∃ g,v2.heap.size=g:=⟨_,rfl⟩
     have hT:=Hd (show Blk v3 gT 36 #[.slice none 0 0,.slice none 0 0,.slice none 0 0] from hg ▸ bT);rw [hg] at hgT ⊢;replace hQ:=Hd (hQ.out.ext (xbw hb));clear bT hb hg;exact zz71
   ·
    skip
    refine qaq rfl rfl (fun K hK=>?_);go_simp;refine hK.out _ _ (s1.alloc s1.size _) (fun _=>?_);clear hK K;refine qab (fun W=>Blk W v1.heap.size 36 #[.slice none 0 0,.slice none 0 0,.slice none 0 0]/\Below v1.heap.size v1 W) ⟨by ((with_reducible repeat first|assumption|(apply bF;focus omega)|apply bS|(apply bN;focus (simp;done))|apply bA|apply bD);all_goals rfl),by go_grown⟩ ?_;rintro v2 ⟨bT,hb⟩;have s2:=bth s1 hb;have hgT:=Hd s1.size;obtain ⟨gT,hg⟩:∃ g,v1.heap.size=g:=⟨_,rfl⟩
    have hT:=Hd (show Blk v2 gT 36 #[.slice none 0 0,.slice none 0 0,.slice none 0 0] from hg ▸ bT);rw [hg] at hgT ⊢;replace hI:=Hd (hI.out.ext (xbw hb));clear bT hb hg;exact zz75
  ·
   skip
   refine qaq rfl rfl (fun K hK=>?_);go_simp;refine hK.out _ _ (s0.alloc s0.size _) (fun _=>?_);clear hK K;refine qab (fun W=>Blk W v0.heap.size 36 #[.slice none 0 0,.slice none 0 0,.slice none 0 0]/\Below v0.heap.size v0 W) ⟨by ((with_reducible repeat first|assumption|(apply bF;focus omega)|apply bS|(apply bN;focus (simp;done))|apply bA|apply bD);all_goals rfl),by go_grown⟩ ?_;rintro v1 ⟨bT,hb⟩;have s1:=bth s0 hb;have hgT:=Hd s0.size;obtain ⟨gT,hg⟩:∃ g,v0.heap.size=g:=⟨_,rfl⟩
   have hT:=Hd (show Blk v1 gT 36 #[.slice none 0 0,.slice none 0 0,.slice none 0 0] from hg ▸ bT);rw [hg] at hgT ⊢;clear bT hb hg;refine qaq rfl rfl (fun K hK=>?_);go_simp;refine hK.out _ _ (s1.alloc s1.size _) (fun _=>?_);clear hK K;refine qab (fun W=>Blk W v1.heap.size 3 #[.int .i64 4,.int .i64 1,.int .i64 3]/\Below v1.heap.size v1 W) ⟨by ((with_reducible repeat first|assumption|(apply bF;focus omega)|apply bS|(apply bN;focus (simp;done))|apply bA|apply bD);all_goals rfl),by go_grown⟩ ?_;rintro v2 ⟨bI,hb⟩;have s2:=bth s1 hb;have hI:=Hd (ints3 (by decide) (by decide) (by decide) bI);obtain ⟨gI,hgI⟩:∃ g,v1.heap.size=g:=⟨_,rfl⟩
   rw [hgI] at hI ⊢;replace hgI:=Hd hgI;replace hT:=Hd (hT.out.below' hb);clear bI hb;exact zz75
 case rest =>
  obtain ⟨gT,ra,rb,rp,rc,rd,rq,n1,n2,rfl,rfl,rfl,hT,hP,hwc⟩:=hcut;have CT:=qrg stW [] [(0,0),(4,0),(1,3),(1,0)] (some ⟨gS,0,none⟩) none ra rb rp 4 0 rc rd rq n1 n2 wc (HF.out wc hwc.out) hP.out rfl (by decide) smW nmW;rw [show qbj stW stW.length=qbj stW 4 from rfl,txtW] at CT;replace CT:=Hd CT;have bF2:=bF.out.below' hwc.out;obtain ⟨j0,j1⟩:=cq2 bF2;have jl:=bF2.lt;obtain ⟨t0,t1,t2⟩:=cq3 hT.out;have tl:=hT.out.lt;replace bF2:=Hd bF2;clear k0 k1 hl1;go_wp2_with fail;refine CT.out.mono ?_;rintro e w2 ⟨rfl,hb2⟩;have hw2:=Hd (bth hwc.out hb2);have bF3:=bF2.out.below' hb2;have k0:=held (bF3.cell 0);have k1:=held (bF3.cell 1);replace HF:Hid (∀ W,Below w2.heap.size w2 W->FigAt gS W):=Hd fun W hW=>HF.out W (bth hw2.out hW)
  replace bF3:=Hd bF3;clear CT j0 j1 jl t0 t1 t2 tl hT hP hwc hb2 bF2;go_wp2
  go_cut [10,11,12] from 13 (fun _ s11 s12 wc=>s11=.int .i64 3/\s12=.int .i64 11/\Hid (Below w2.heap.size w2 wc))
  case first =>
   have s0:Below w2.heap.size w2 w2.drew:=brf.drew;obtain ⟨v0,hv0⟩:∃ v,w2.drew=v:=⟨_,rfl⟩
   refine qb1 (S:=Below w2.heap.size w2) (.q 0 (.two 1 (.two 2 (.two 3 (.q 4 (.q 5 (.q 6 (.q 7 (.l 8 (.l 9 (.q 10 (.p 11 .nil)))))))) 8 (.l 3 (.q 4 (.q 5 (.q 6 (.q 7 (.l 9 (.q 10 (.p 11 .nil))))))))) 8 (.l 2 (.l 3 (.q 4 (.q 5 (.q 6 (.q 7 (.l 9 (.q 10 (.p 11 .nil)))))))))) 8 (.l 1 (.l 2 (.l 3 (.q 4 (.q 5 (.q 6 (.q 7 (.l 9 (.q 10 (.p 11 .nil)))))))))))) [11] (by kernel_rfl) (by kernel_rfl) (by kernel_rfl) (fun d _ _ _ _ h=>by cases d <;> exact h) s0 ?_;rw [hv0] at s0 ⊢;replace hv0:=Hd hv0
   iterate 1 (refine qcd rfl rfl fun K hK=>xq ?_;go_simp;refine hK _ _ ?_;clear hK K)
   refine qbp ?_ ?_
   ·
    skip
    refine qaq rfl rfl (fun K hK=>?_);go_simp;refine hK.out _ _ (s0.alloc s0.size _) (fun _=>?_);clear hK K;refine qab (fun W=>Blk W v0.heap.size 3 #[.int .i64 0,.int .i64 1,.int .i64 3]/\Below v0.heap.size v0 W) ⟨by ((with_reducible repeat first|assumption|(apply bF;focus omega)|apply bS|(apply bN;focus (simp;done))|apply bA|apply bD);all_goals rfl),by go_grown⟩ ?_;rintro v1 ⟨bI,hb⟩;have s1:=bth s0 hb;have hI:=Hd (ints3 (by decide) (by decide) (by decide) bI);obtain ⟨gI,hgI⟩:∃ g,v0.heap.size=g:=⟨_,rfl⟩
    rw [hgI] at hI ⊢;replace hgI:=Hd hgI;clear bI hb;refine qbp ?_ ?_
    ·
     skip
     refine qaq rfl rfl (fun K hK=>?_);go_simp;refine (qgt [0,1,3] (some ⟨gI,0,none⟩) 3 v1 hI.out (by decide) (by intro z hz;simp at hz;unfold InInt;omega)).mono ?_;rintro r v2 ⟨qa,qc,rfl,KQ,hb⟩;dsimp only;have s2:=bth s1 hb;refine hK.out _ _ s2 (fun _=>?_);clear hK K;have hQ:=Hd KQ.now;clear KQ hb;refine qbp ?_ ?_
     ·
      skip
      refine qaq rfl rfl (fun K hK=>?_);go_simp;refine (ATV qa qc v2 (HF.out _ s2) hQ.out).mono ?_;rintro r v3 ⟨_,hg⟩;obtain ⟨rfl,hb⟩:=hg (by decide);dsimp only;have s3:=bth s2 hb;refine hK.out _ _ s3 (fun _=>?_);clear hK K;clear hb hg
      iterate 4 (refine qcd rfl rfl fun K hK=>xq ?_;go_simp;refine hK _ _ ?_;clear hK K)
      refine qaq rfl rfl (fun K hK=>?_);go_simp;refine hK.out _ _ (s3.alloc s3.size _) (fun _=>?_);clear hK K;refine qab (fun W=>Blk W v3.heap.size 36 #[.slice none 0 0,.slice none 0 0,.slice none 0 0]/\Below v3.heap.size v3 W) ⟨by ((with_reducible repeat first|assumption|(apply bF;focus omega)|apply bS|(apply bN;focus (simp;done))|apply bA|apply bD);all_goals rfl),by go_grown⟩ ?_;rintro v4 ⟨bT,hb⟩;have s4:=bth s3 hb;have hgT:=Hd s3.size;obtain ⟨gT,hg⟩:∃ g,v3.heap.size=g:=⟨_,rfl⟩
      have hT:=Hd (show Blk v4 gT 36 #[.slice none 0 0,.slice none 0 0,.slice none 0 0] from hg ▸ bT);rw [hg] at hgT ⊢;clear bT hb hg;exact zz74
     ·
      skip
      refine qaq rfl rfl (fun K hK=>?_);go_simp;refine hK.out _ _ (s2.alloc s2.size _) (fun _=>?_);clear hK K;refine qab (fun W=>Blk W v2.heap.size 36 #[.slice none 0 0,.slice none 0 0,.slice none 0 0]/\Below v2.heap.size v2 W) ⟨by ((with_reducible repeat first|assumption|(apply bF;focus omega)|apply bS|(apply bN;focus (simp;done))|apply bA|apply bD);all_goals rfl),by go_grown⟩ ?_;rintro v3 ⟨bT,hb⟩;have s3:=bth s2 hb;have hgT:=Hd s2.size;obtain ⟨gT,hg⟩:∃ g,v2.heap.size=g:=⟨_,rfl⟩
      have hT:=Hd (show Blk v3 gT 36 #[.slice none 0 0,.slice none 0 0,.slice none 0 0] from hg ▸ bT);rw [hg] at hgT ⊢;replace hQ:=Hd (hQ.out.ext (xbw hb));clear bT hb hg;exact zz72
    ·
     skip
     refine qaq rfl rfl (fun K hK=>?_);go_simp;refine hK.out _ _ (s1.alloc s1.size _) (fun _=>?_);clear hK K;refine qab (fun W=>Blk W v1.heap.size 36 #[.slice none 0 0,.slice none 0 0,.slice none 0 0]/\Below v1.heap.size v1 W) ⟨by ((with_reducible repeat first|assumption|(apply bF;focus omega)|apply bS|(apply bN;focus (simp;done))|apply bA|apply bD);all_goals rfl),by go_grown⟩ ?_;rintro v2 ⟨bT,hb⟩;have s2:=bth s1 hb;have hgT:=Hd s1.size;obtain ⟨gT,hg⟩:∃ g,v1.heap.size=g:=⟨_,rfl⟩
     have hT:=Hd (show Blk v2 gT 36 #[.slice none 0 0,.slice none 0 0,.slice none 0 0] from hg ▸ bT);rw [hg] at hgT ⊢;replace hI:=Hd (hI.out.ext (xbw hb));clear bT hb hg;exact zz76
   ·
    skip
    refine qaq rfl rfl (fun K hK=>?_);go_simp;refine hK.out _ _ (s0.alloc s0.size _) (fun _=>?_);clear hK K;refine qab (fun W=>Blk W v0.heap.size 36 #[.slice none 0 0,.slice none 0 0,.slice none 0 0]/\Below v0.heap.size v0 W) ⟨by ((with_reducible repeat first|assumption|(apply bF;focus omega)|apply bS|(apply bN;focus (simp;done))|apply bA|apply bD);all_goals rfl),by go_grown⟩ ?_;rintro v1 ⟨bT,hb⟩;have s1:=bth s0 hb;have hgT:=Hd s0.size;obtain ⟨gT,hg⟩:∃ g,v0.heap.size=g:=⟨_,rfl⟩
    have hT:=Hd (show Blk v1 gT 36 #[.slice none 0 0,.slice none 0 0,.slice none 0 0] from hg ▸ bT);rw [hg] at hgT ⊢;clear bT hb hg;refine qaq rfl rfl (fun K hK=>?_);go_simp;refine hK.out _ _ (s1.alloc s1.size _) (fun _=>?_);clear hK K;refine qab (fun W=>Blk W v1.heap.size 3 #[.int .i64 0,.int .i64 1,.int .i64 3]/\Below v1.heap.size v1 W) ⟨by ((with_reducible repeat first|assumption|(apply bF;focus omega)|apply bS|(apply bN;focus (simp;done))|apply bA|apply bD);all_goals rfl),by go_grown⟩ ?_;rintro v2 ⟨bI,hb⟩;have s2:=bth s1 hb;have hI:=Hd (ints3 (by decide) (by decide) (by decide) bI);obtain ⟨gI,hgI⟩:∃ g,v1.heap.size=g:=⟨_,rfl⟩
    rw [hgI] at hI ⊢;replace hgI:=Hd hgI;replace hT:=Hd (hT.out.below' hb);clear bI hb;exact zz76
  case rest =>
   obtain ⟨rfl,rfl,hwd⟩:=hcut;have hfin:=Hd (bth hw1.out (bth hw2.out hwd.out));go_wp2;refine bodyPost_ret (v:=.bool true) (by simp [results,Tryz.results7,go_sem]) rfl ?_;exact ⟨rfl,hfin.out⟩
def AllB (m:Int) (L:List Int):Prop:=∀ x∈L,0<=x/\x<=m
theorem AllB.push {m m':Int} {L:List Int} {x:Int} (h:AllB m L) (hm:m<=m') (h0:0<=x) (hx:x<=m'):AllB m' (L++[x]):=fun y hy=>by
 rcases List.mem_append.1 hy with hy | hy
 · have:=h y hy;omega
 · simp at hy;subst hy;exact ⟨h0,hx⟩
theorem qyr {w:World} {aa:Option Addr} {ac:Nat} {args:List Int} {L:List Int} {B:Nat} {a:Option Addr} {c:Nat} {i:Nat} {m:Int} (hA:IntsR w aa ac args) (hin:∀ x∈args,0<=x/\x<(L.length:Int)) (hL:OwnI B w a c L) (hb:AllB m L) (hi:i<args.length) :
  ∃ (ab ao n lb:Nat) (v:Int),aa=some ⟨ab,ao,none⟩/\w.cell? ⟨ab,ao+i,none⟩=some (.int .i64 (n:Int))/\a=some ⟨lb,0,none⟩/\n<L.length/\w.cell? ⟨lb,n,none⟩=some (.int .i64 v)/\0<=v/\v<=m:=by
 obtain ⟨x,hx⟩:=qac hi;obtain ⟨h1,h2⟩:=hin x (List.mem_of_getElem? hx);obtain ⟨ab,ao,e,hc⟩:=hA.2.2 i x hx;obtain ⟨v,hv⟩:=qac (xs:=L) (k:=x.toNat) (by omega);obtain ⟨lb,e2,_,_,hc2⟩:=hL.at_ qee hv;have h3:=hb v (List.mem_of_getElem? hv);refine ⟨ab,ao,x.toNat,lb,v,e,?_,e2,by omega,by simpa using hc2 0 _ rfl,h3.1,h3.2⟩;rw [Int.toNat_of_nonneg h1];simpa using hc.1
theorem zz77 {P:Prop} (h:P:=by
 refine qai ?_;rw [ew.out,<- hV.out];refine qab (fun W=>Below wr.heap.size wr W/\wr.heap.size<=W.heap.size) ⟨(Below.refl wr.heap.size wr).drew,nlr _⟩ ?_;rintro wX ⟨hbX,hsX⟩;replace hbX:=Hd hbX;clear z0 z1 zl d0 c0 c1 c2 c3 c4 c5 q0 ez
 -- the append of the number V
 go_wp2_with (at_builtin;go_must (refine qab (fun W=>Blk W wX.heap.size 3 #[.int .i64 (V)]/\Below wX.heap.size wX W) ⟨by ((with_reducible repeat first|assumption|(apply bF;focus omega)|apply bS|(apply bN;focus (simp;done))|apply bA|apply bD);all_goals rfl),by go_grown⟩ ?_);go_must (rintro w2 ⟨hr,hb2⟩);go_must (have hO2:=hO.out.below (bth hbX.out hb2));go_must (refine qgo rfl (.tmp 80) (.tmp 82) rfl _ c (by rw [hLl.out];rfl) hO2 (V) wX.heap.size 1 rfl (hr.cell 0) (L++[V]) rfl (by rw [List.length_append,hLl.out];simp;omega) (by have:=hwr.out.size;have:=hbX.out.size;have:=hb2.size;omega) ?_);intro a3 c3 w3 ho3 hg3 ha3;have hb3:=qak (bth hwr.out (bth hbX.out hb2)) hO2 hg3;replace ho3:=Hd ho3;replace hb3:=Hd hb3;clear hr hb2 hg3 ha3 hO2);have hln:(L++[V]).length=k+1:=by rw [List.length_append,hLl.out];rfl
 go_roundg (gk-1)
 case rel=>exact ⟨k+1,a3,c3,L++[V],by have:=hm.out;show _=_;omega,by go_num,by first | rfl | (congr 1;simpa using hln),hln,ho3.out,hb3.out,hAll.out.push (hMM.out) hV0.out.1 (by have:=hM3.out;have:=hV0.out.2;omega)⟩
 case measure=>have:=hm.out;omega
 ):P:=h
theorem zz78 {P:Prop} (h:P:=by
 go_wp2;refine wrx (S:=(fun x=>x=wr.drew)) [(0,.q),(1,.q),(2,.q),(3,.q),(4,.q),(5,.q),(6,.q),(7,.q),(8,.q),(9,.q),(10,.q),(11,.q),(12,.q),(13,.q),(14,.q),(15,.q),(16,.q),(17,.q),(18,.q),(19,.p),(20,.p)] (rfl) ?_
 iterate 19 (refine qaj rfl rfl fun K hK=>xq ?_;go_simp;refine hK _ _ ?_;clear hK K)
 iterate 2 (refine qaz rfl rfl fun K hK=>xp ?_;go_simp;refine hK _ _ ?_;clear hK K)
 exact zz77
 ):P:=h
theorem qo8 (steps:List Step) (goals:List Fct) (sa:Option Addr) (sc:Nat) (ga:Option Addr) (gc:Nat) (w:World) (hS:qco w sa sc steps) (hin:∀ k s,steps[k]? = some s->qjz s k) (hl:steps.length<=8) :
  Calls Tryz.prog 79 #[.agg #[.slice sa steps.length sc,.slice ga goals.length gc]] w fun e w'=>∃ (L:List Int) (a:Option Addr) (c:Nat),e=.returned (.slice a L.length c)/\L.length=steps.length/\OwnI w.heap.size w' a c L/\Below w.heap.size w w':=by
 have HS:=Hd hS;have hin':=Hd hin;have hlS:=SlR.len hS;clear hS hin;go_enter Tryz.func79,Tryz.ntmps79;go_wp2;refine qab (fun W=>Blk W w.heap.size 25 #[.slice sa steps.length sc,.slice ga goals.length gc]/\Below w.heap.size w W) ⟨by ((with_reducible repeat first|assumption|(apply bF;focus omega)|apply bS|(apply bN;focus (simp;done))|apply bA|apply bD);all_goals rfl),by go_grown⟩ ?_;rintro w0 ⟨h0,hw0⟩;obtain ⟨g,hg⟩:∃ g,w.heap.size=g:=⟨_,rfl⟩
 have h0':Hid (Blk w0 g 25 #[.slice sa steps.length sc,.slice ga goals.length gc]):=Hd (hg ▸ h0);rw [hg];replace hg:=Hd hg
 go_loopg [3,4,5,6,26,41,64] steps.length (fun n s3 s4 _ _ _ _ _ wr=>∃ (k:Nat) (a:Option Addr) (c:Nat) (L:List Int),Hid (k+n=steps.length)/\s4=.int .i64 k/\s3=.slice a k c/\Hid (L.length=k)/\Hid (OwnI w0.heap.size wr a c L)/\Hid (Below w0.heap.size w0 wr)/\Hid (AllB ((4 ^ k:Nat):Int) L))
 case atStart=>exact ⟨0,none,0,[],by show _=_;omega,rfl,rfl,rfl,Own.nil,Below.refl _ _,fun x hx=>by cases hx⟩
 case round =>
  obtain ⟨k,a,c,L,hm,rfl,rfl,hLl,hO,hwr,hAll⟩:=hrel;have h0r:=h0'.out.below' hwr.out;obtain ⟨z0,z1⟩:=cq2 h0r;have zl:=h0r.lt;by_cases hlt:k<steps.length
  ·
   obtain ⟨s,hs⟩:=qac hlt;obtain ⟨b,o,rfl,p,hC,hP,hki,hsz⟩:=((HS.out.ext (xbw hw0)).ext (xbw hwr.out)).2.2 k s hs;obtain ⟨c0,c1,c2,c3,c4,c5⟩:=hC;obtain ⟨g1,g2,g3,g4,_⟩:=hin'.out k s hs;have hbl:b<wr.heap.size:=World.block_lt_of_cell? wr _ c0;have hAl:=hP.1.len;have hM1:1<=4 ^ k:=Nat.pow_pos (show 0<4 by omega);have hM2:4 ^ k<=65536:=Nat.le_trans (Nat.pow_le_pow_right (by omega) (show k<=8 by omega)) (by decide);have hMM0:4 ^ (k+1)=4 ^ k*4:=Nat.pow_succ ..;have hin2:∀ x∈s.args,0<=x/\x<(L.length:Int):=fun x hx=>by rw [hLl.out];exact g4 x hx
   have AT:=fun i (hi:i<s.args.length)=>qyr hP.1 hin2 hO.out hAll.out hi
   revert hM1 hM2 hMM0 AT hAll;generalize 4 ^ k=M;intro hAll hM1 hM2 hMM0 AT;have hMM:=Hd (show (M:Int)<=((4 ^ (k+1):Nat):Int) by rw [hMM0];omega);have hM3:=Hd (show 3*(M:Int)<=((4 ^ (k+1):Nat):Int) by rw [hMM0];omega);replace hs:=Hd hs;replace hP:=Hd hP;replace hin2:=Hd hin2;replace g4:=Hd g4;replace AT:=Hd AT;replace hm:=hm;replace hki:=Hd hki;clear hMM0 h0r;have ez:wr.heap.size<=wr.drew.heap.size:=nlr _;by_cases e2:s.kind=2
   ·
    have k2:(s.kind==2)=true:=by rw [e2];rfl
    have hn0:1<s.args.length:=by rw [e2] at g3;exact g3
    have hnZ:0<s.args.length:=by omega
    have hnJ:(0:Int)<(s.args.length:Int):=by omega
    have hnI:(1:Int)<(s.args.length:Int):=by omega
    obtain ⟨ab,ao,n0,lb,v0,hap,d0,rfl,n0l,q0,v0a,v0b⟩:=AT.out 0 (by omega);obtain ⟨ab',ao',n1,lb',v1,hap',d1,hlb,n1l,q1,v1a,v1b⟩:=AT.out 1 (by omega);rw [hap] at hap';injection hap' with hap';injection hap' with x1 x2
    injection hlb with hlb;injection hlb with x3
    subst x1 x2 x3;rw [hap] at c2;rw [hLl.out] at n0l n1l;rw [Nat.add_zero] at d0;have ew:IntKind.i64.wrap (v0+v1)=v0+v1:=by exact IntWalk.i64_in _ (by omega)
    obtain ⟨V,hV⟩:∃ V:Int,V=v0+v1:=⟨_,rfl⟩
    have hV0:0<=V/\V<=3*M:=by omega
    replace hV:=Hd hV;replace ew:=Hd ew;replace hV0:=Hd hV0;clear hap AT e2;go_wp2;refine wrx (S:=(fun x=>x=wr.drew)) [(0,.q),(1,.q),(2,.q),(3,.q),(4,.q),(5,.q),(6,.q),(7,.q),(8,.q),(9,.q),(10,.q),(11,.q),(12,.p),(13,.p)] (rfl) ?_
    iterate 12 (refine qaj rfl rfl fun K hK=>xq ?_;go_simp;refine hK _ _ ?_;clear hK K)
    iterate 2 (refine qaz rfl rfl fun K hK=>xp ?_;go_simp;refine hK _ _ ?_;clear hK K)
    exact zz77
   have k2:(s.kind==2)=false:=by simpa using e2
   by_cases e3:s.kind=3
   ·
    have k3:(s.kind==3)=true:=by rw [e3];rfl
    have hn0:2<s.args.length:=by rw [e3] at g3;exact g3
    have hnZ:0<s.args.length:=by omega
    have hnJ:(0:Int)<(s.args.length:Int):=by omega
    have hnI:(1:Int)<(s.args.length:Int):=by omega
    have hnK:(2:Int)<(s.args.length:Int):=by omega
    obtain ⟨ab,ao,n0,lb,v0,hap,d0,rfl,n0l,q0,v0a,v0b⟩:=AT.out 0 (by omega);obtain ⟨ab',ao',n1,lb',v1,hap',d1,hlb,n1l,q1,v1a,v1b⟩:=AT.out 1 (by omega);rw [hap] at hap';injection hap' with hap';injection hap' with x1 x2
    injection hlb with hlb;injection hlb with x3
    subst x1 x2 x3;obtain ⟨ab',ao',n2,lb',v2,hap',d2,hlb,n2l,q2,v2a,v2b⟩:=AT.out 2 (by omega);rw [hap] at hap';injection hap' with hap';injection hap' with x1 x2
    injection hlb with hlb;injection hlb with x3
    subst x1 x2 x3;rw [hap] at c2;rw [hLl.out] at n0l n1l n2l;rw [Nat.add_zero] at d0;have ew:IntKind.i64.wrap (IntKind.i64.wrap (v0+v1)+v2)=v0+v1+v2:=by rw [IntWalk.i64_in (v0+v1) (by omega)];exact IntWalk.i64_in _ (by omega)
    obtain ⟨V,hV⟩:∃ V:Int,V=v0+v1+v2:=⟨_,rfl⟩
    have hV0:0<=V/\V<=3*M:=by omega
    replace hV:=Hd hV;replace ew:=Hd ew;replace hV0:=Hd hV0;clear hap AT e3 e2;exact zz78
   have k3:(s.kind==3)=false:=by simpa using e3
   by_cases e4:s.kind=4
   ·
    have k4:(s.kind==4)=true:=by rw [e4];rfl
    have hn0:2<s.args.length:=by rw [e4] at g3;exact g3
    have hnZ:0<s.args.length:=by omega
    have hnJ:(0:Int)<(s.args.length:Int):=by omega
    have hnI:(1:Int)<(s.args.length:Int):=by omega
    have hnK:(2:Int)<(s.args.length:Int):=by omega
    obtain ⟨ab,ao,n0,lb,v0,hap,d0,rfl,n0l,q0,v0a,v0b⟩:=AT.out 0 (by omega);obtain ⟨ab',ao',n1,lb',v1,hap',d1,hlb,n1l,q1,v1a,v1b⟩:=AT.out 1 (by omega);rw [hap] at hap';injection hap' with hap';injection hap' with x1 x2
    injection hlb with hlb;injection hlb with x3
    subst x1 x2 x3;obtain ⟨ab',ao',n2,lb',v2,hap',d2,hlb,n2l,q2,v2a,v2b⟩:=AT.out 2 (by omega);rw [hap] at hap';injection hap' with hap';injection hap' with x1 x2
    injection hlb with hlb;injection hlb with x3
    subst x1 x2 x3;rw [hap] at c2;rw [hLl.out] at n0l n1l n2l;rw [Nat.add_zero] at d0;have ew:IntKind.i64.wrap (IntKind.i64.wrap (v0+v1)+v2)=v0+v1+v2:=by rw [IntWalk.i64_in (v0+v1) (by omega)];exact IntWalk.i64_in _ (by omega)
    obtain ⟨V,hV⟩:∃ V:Int,V=v0+v1+v2:=⟨_,rfl⟩
    have hV0:0<=V/\V<=3*M:=by omega
    replace hV:=Hd hV;replace ew:=Hd ew;replace hV0:=Hd hV0;clear hap AT e4 e3 e2;exact zz78
   have k4:(s.kind==4)=false:=by simpa using e4
   by_cases e5:s.kind=5
   ·
    have k5:(s.kind==5)=true:=by rw [e5];rfl
    have hn0:1<s.args.length:=by rw [e5] at g3;exact g3
    have hnZ:0<s.args.length:=by omega
    have hnJ:(0:Int)<(s.args.length:Int):=by omega
    have hnI:(1:Int)<(s.args.length:Int):=by omega
    obtain ⟨ab,ao,n0,lb,v0,hap,d0,rfl,n0l,q0,v0a,v0b⟩:=AT.out 0 (by omega);obtain ⟨ab',ao',n1,lb',v1,hap',d1,hlb,n1l,q1,v1a,v1b⟩:=AT.out 1 (by omega);rw [hap] at hap';injection hap' with hap';injection hap' with x1 x2
    injection hlb with hlb;injection hlb with x3
    subst x1 x2 x3;rw [hap] at c2;rw [hLl.out] at n0l n1l;rw [Nat.add_zero] at d0;have ew:IntKind.i64.wrap (IntKind.i64.wrap (2*v0)+v1)=2*v0+v1:=by rw [IntWalk.i64_in (2*v0) (by omega)];exact IntWalk.i64_in _ (by omega)
    obtain ⟨V,hV⟩:∃ V:Int,V=2*v0+v1:=⟨_,rfl⟩
    have hV0:0<=V/\V<=3*M:=by omega
    replace hV:=Hd hV;replace ew:=Hd ew;replace hV0:=Hd hV0;clear hap AT e5 e4 e3 e2;go_wp2;refine wrx (S:=(fun x=>x=wr.drew)) [(0,.q),(1,.q),(2,.q),(3,.q),(4,.q),(5,.q),(6,.q),(7,.q),(8,.q),(9,.q),(10,.q),(11,.q),(12,.q),(13,.p),(14,.p)] (rfl) ?_
    iterate 13 (refine qaj rfl rfl fun K hK=>xq ?_;go_simp;refine hK _ _ ?_;clear hK K)
    iterate 2 (refine qaz rfl rfl fun K hK=>xp ?_;go_simp;refine hK _ _ ?_;clear hK K)
    exact zz77
   have k5:(s.kind==5)=false:=by simpa using e5
   obtain ⟨V,hV⟩:∃ V:Int,V=1:=⟨_,rfl⟩
   have hV0:Hid (0<=V/\V<=3*(M:Int)):=Hd (by omega);clear e2 e3 e4 e5 AT;subst hV
   -- the append of the number 1
   go_wp2_with (at_builtin;go_must (refine qab (fun W=>Blk W wr.heap.size 3 #[.int .i64 (1)]/\Below wr.heap.size wr W) ⟨by ((with_reducible repeat first|assumption|(apply bF;focus omega)|apply bS|(apply bN;focus (simp;done))|apply bA|apply bD);all_goals rfl),by go_grown⟩ ?_);go_must (rintro w2 ⟨hr,hb2⟩);go_must (have hO2:=hO.out.below (bth (Below.refl wr.heap.size wr) hb2));go_must (refine qgo rfl (.tmp 80) (.tmp 82) rfl _ c (by rw [hLl.out];rfl) hO2 (1) wr.heap.size 1 rfl (hr.cell 0) (L++[1]) rfl (by rw [List.length_append,hLl.out];simp;omega) (by have:=hwr.out.size;have:=(Below.refl wr.heap.size wr).size;have:=hb2.size;omega) ?_);intro a3 c3 w3 ho3 hg3 ha3;have hb3:=qak (bth hwr.out (bth (Below.refl wr.heap.size wr) hb2)) hO2 hg3;replace ho3:=Hd ho3;replace hb3:=Hd hb3;clear hr hb2 hg3 ha3 hO2);have hln:(L++[1]).length=k+1:=by rw [List.length_append,hLl.out];rfl
   go_roundg (gk-1)
   case rel=>exact ⟨k+1,a3,c3,L++[1],by have:=hm.out;show _=_;omega,by go_num,by first | rfl | (congr 1;simpa using hln),hln,ho3.out,hb3.out,hAll.out.push (hMM.out) hV0.out.1 (by have:=hM3.out;have:=hV0.out.2;omega)⟩
   case measure=>have:=hm.out;omega
  ·
   have hkn:k=steps.length:=by have:=hm.out;omega
   have hkn':=Hd hkn;clear hkn;go_wp2;refine bodyPost_ret (v:=.slice a k c) (by simp [results,Tryz.results79,go_sem]) rfl ?_;exact ⟨L,a,c,by rw [hLl.out],hLl.out.trans hkn'.out,hO.out.base hw0.size,bth hw0 hwr.out⟩
end Go.Proofs.YtfaalkneigpcnaaGreatDoor
