/- Walks: the fraction with a number, by the reference. -/
import Derived.Test.YtmdlbpibipnapaaGreatRd24
import Derived.Test.YtmdlbpibipnapaaGreatRd26
import Derived.Deep.CutRange
import Derived.Test.YtmdlbpibipnapaaGreatRd1
import Derived.Laws.BitsAllLaws
import Derived.Test.YtmdlbpibipnapaaGreatRd10
import Derived.Lib.RabinKarpLaws
import Derived.Test.YtmdlbpibipnapaaGreatProg
import Derived.Ground.NamesProg
import Derived.Shelf.Lays
import Derived.Shelf.Small.Bits
import Derived.Deep.LoopGhost
set_option linter.all false
set_option maxRecDepth 100000
set_option maxHeartbeats 4000000
namespace Go.Proofs.YtmdlbpibipnapaaGreat
open Go.RowKit
def SssR (w:World) (a:Option Addr) (c:Nat) (l:List SQ):Prop:=SqR w a c l/\∀ s∈l,∃ m,s.n=List.length m/\m.length<=2/\SqR w s.a s.c m
theorem SssR.ext {w w':World} {a:Option Addr} {c:Nat} {l:List SQ} (h:SssR w a c l) (e:Ext w w'):SssR w' a c l:=⟨h.1.ext e,fun s hs=>by obtain ⟨m,h1,h2,h3⟩:=h.2 s hs;exact ⟨m,h1,h2,h3.ext e⟩⟩
def RetMk (steps:List Step) (goals:List Fct) (sa:Option Addr) (sc:Nat) (ga:Option Addr) (gc:Nat) (w:World) (e:Ending) (w':World):Prop:=Below w.heap.size w w' /\
 ((∃ er:Int,er≠0/\e=.returned (.tuple #[.agg #[.slice none 0 0,.slice none 0 0,.slice none 0 0,.slice none 0 0,.slice none 0 0,.slice none 0 0,.slice none 0 0],.int .i64 er])) \/
  ((∃ x,qbc ⟨[],[],0⟩ 0 steps=some x)/\∃ (ra va ha ca qa:Option Addr) (rn rc vn vc hc cc qc:Nat) (hl cl ql:List SQ),e=.returned (.tuple #[.agg #[.slice sa steps.length sc,.slice ga goals.length gc,.slice ra rn rc,.slice va vn vc,.slice ha hl.length hc,.slice ca cl.length cc,.slice qa ql.length qc],.int .i64 0]) /\
   SqR w' ha hc hl/\SqR w' ca cc cl/\SssR w' qa qc ql/\hl.length<=16/\cl.length<=8/\ql.length<=3))
theorem zz78 {P:Prop} (h:P:=by
 have e:w.grownBy (w.setCell ⟨gS,i,none⟩ u) (some gS):=⟨rfl,rfl,rfl,by simp [World.setCell],fun k _ hk=>Below.heap_setCell _ _ _ _ (fun e=>hk (by simp at e;rw [e]))⟩
 exact Own.grown h e fun p hp e=>by injection e with e;have:=(Own.lt h hp).1;omega
 ):P:=h
theorem OwnPo.set_ {B gS i:Nat} {w:World} {a:Option Addr} {c:Nat} {l:List SQ} {u:Value} (h:OwnPo B w a c l) (hg:gS<B):OwnPo B (w.setCell ⟨gS,i,none⟩ u) a c l:=by
 exact zz78
abbrev OwnPs (B:Nat) (w:World) (a:Option Addr) (c:Nat) (l:List SQ):Prop:=Own SQ.cs 1 38 B w a c l
theorem qac0:(Tryz.prog.info? 38).map (fun i=>(i.zero,i.size,i.bytes))=some (some (.slice none 0 0),1,24):=by kernel_rfl
theorem OwnPs.set_ {B gS i:Nat} {w:World} {a:Option Addr} {c:Nat} {l:List SQ} {u:Value} (h:OwnPs B w a c l) (hg:gS<B):OwnPs B (w.setCell ⟨gS,i,none⟩ u) a c l:=by
 exact zz78
def AllG (X:Nat->Prop) (w:World) (l:List SQ):Prop:=∀ s∈l,∃ m,s.n=List.length m/\m.length<=2/\Rd X w fun V=>SqR V s.a s.c m
theorem AllG.map {X Y:Nat->Prop} {w w':World} {l:List SQ} (h:AllG X w l) (e:∀ R,Rd X w R->Rd Y w' R):AllG Y w' l:=fun s hs=>by
 obtain ⟨m,h1,h2,h3⟩:=h s hs;exact ⟨m,h1,h2,e _ h3⟩
theorem AllG.push {X Y:Nat->Prop} {w w':World} {l:List SQ} {x:SQ} {m:List SQ} (h:AllG X w l) (h1:x.n=m.length) (h2:m.length<=2) (h3:Rd X w fun V=>SqR V x.a x.c m) (e:∀ R,Rd X w R->Rd Y w' R):AllG Y w' (l++[x]):=fun s hs=>by
 rcases List.mem_append.1 hs with hs | hs
 · exact h.map e s hs
 · rw [List.mem_singleton] at hs;subst hs;exact ⟨m,h1,h2,e _ h3⟩
theorem SqR.rd {X:Nat->Prop} {w:World} {n:Nat} {a:Option Addr} {c:Nat} {l:List SQ} (h:SqR w a c l) (hf:∀ g,a=some g->n<=g.block) (hX:∀ b,X b->b<n):Rd X w fun V=>SqR V a c l:=fun V hV =>
 ⟨h.1,h.2.1,fun k s hs=>by
  obtain ⟨b,o,ha,hc⟩:=h.2.2 k s hs;exact ⟨b,o,ha,hV _ _ (fun hx=>by have h1:=hX _ hx;have h2:=hf _ ha;dsimp only at h1 h2;omega) hc⟩⟩
theorem OwnPo.rd {B:Nat} {X:Nat->Prop} {w:World} {a:Option Addr} {c:Nat} {l:List SQ} (h:OwnPo B w a c l) (hX:∀ b,X b->b<B):Rd X w fun V=>SqR V a c l :=
 h.reads.rd (fun g hg=>(Own.lt h hg).1) hX
theorem OwnPs.sss {B:Nat} {X:Nat->Prop} {w:World} {a:Option Addr} {c:Nat} {l:List SQ} (h:OwnPs B w a c l) (hA:AllG X w l):SssR w a c l :=
 ⟨Own.reads SQ.cs_len h fun g o v _ hc=>by have e:=hc 0 _ rfl;simpa [SqE] using e,fun s hs=>by obtain ⟨m,h1,h2,h3⟩:=hA s hs;exact ⟨m,h1,h2,h3.now⟩⟩
theorem qoc (steps:List Step) (goals:List Fct) (sa:Option Addr) (sc:Nat) (ga:Option Addr) (gc:Nat) (w:World) (h:FigR w sa sc ga gc ⟨steps,goals⟩) (hq:Fig.few ⟨steps,goals⟩) (hs:Fig.slim ⟨steps,goals⟩) :
  Calls Tryz.prog 14 #[.agg #[.slice sa steps.length sc,.slice ga goals.length gc]] w (RetMk steps goals sa sc ga gc w):=by
 have he:Fig.err ⟨steps,goals⟩=0:=hs.2.2.1;have CR:=fun W (hW:bw w W)=>qhd ⟨steps,goals⟩ sa sc ga gc W ⟨h.1.ext (xbw hW),h.2.ext (xbw hW)⟩ hq
 rw [he] at CR;have CH:=fun W (hW:bw w W)=>qul steps goals sa sc ga gc W ⟨h.1.ext (xbw hW),h.2.ext (xbw hW)⟩ hq hs
 have CC:=fun W (hW:bw w W)=>qiw (fun _=>False) ⟨steps,goals⟩ sa sc ga gc w W h hW hq he (fun b hb=>hb.elim) (qh8 he hs.2.2.2.1)
 have CD:=fun W (hW:bw w W)=>qwm steps goals sa sc ga gc W ⟨h.1.ext (xbw hW),h.2.ext (xbw hW)⟩ hq hs
 have hgv:=fun x (hx:qbc ⟨[],[],0⟩ 0 steps=some x)=>qrp hs hx
 have har:=qwd he;have hst:=(qcw he).2;have hgl:=qki he;have hg2:=hs.2.2.2.2.1;have h8:steps.length<=8:=hs.1;have h3:goals.length<=3:=hs.2.1;unfold Fig.val at CR CC;dsimp only at CR CC har hst hgl hg2 h8 h3 hgv;have HS:=Hd h.1;have HG:=Hd h.2;have lS:=SlR.len h.1;have lG:=SlR.len h.2;dsimp only at lS lG;replace CR:=Hd CR;replace CH:=Hd CH;replace CC:=Hd CC;replace CD:=Hd CD;replace hgv:=Hd hgv;replace har:=Hd har;replace hst:=Hd hst;replace hgl:=Hd hgl;replace hg2:=Hd hg2;clear h hq hs he;go_enter Tryz.func14,Tryz.ntmps14;go_wp2_with fail
 refine qae (fun W=>Blk W w.heap.size 25 #[.slice sa steps.length sc,.slice ga goals.length gc]/\Blk W (w.heap.size+1) 41 #[.slice none 0 0,.slice none 0 0,.slice none 0 0,.slice none 0 0,.slice none 0 0,.slice none 0 0,.slice none 0 0]/\Below w.heap.size w W) ⟨bk,bk,zg⟩ ?_;rintro w0 ⟨BG0,BM0,hw0⟩;obtain ⟨gM,hgM⟩:=nm (w.heap.size+1)
 obtain ⟨gG,hgG⟩:=nm w.heap.size
 rw [hgM] at BM0 ⊢;have BG0':Blk w0 gG 25 #[.slice sa steps.length sc,.slice ga goals.length gc]:=hgG ▸ BG0;simp only [hgG];have hgGw:w.heap.size<=gG:=oo
 have hgMw:w.heap.size<=gM:=oo
 have hgGM:gG<gM:=oo
 replace hgG:=Hd hgG;replace hgM:=Hd hgM;refine (CR.out w0 hw0).mono ?_;rintro e w1 ⟨rfl,hb1⟩;have hw1:=bth hw0 hb1;have BG1:=BG0'.below' hb1;have BM1:=BM0.below' hb1;obtain ⟨z0,z1⟩:=cq2 BG1;have zl:=BG1.lt;have lM1:=BM1.lt;clear CR BG0 BG0' BM0 hw0 hb1;go_wp2_with fail;refine (CH.out w1 hw1).mono ?_;rintro e w2 ⟨hb2,hres⟩;have hw2:=bth hw1 hb2;have BG2:=BG1.below' hb2;have BMx:=BM1.below' hb2;have lM:=BMx.lt;clear z0 z1 zl CH BG1 BM1;rcases hres with ⟨er,hne,rfl⟩ | ⟨⟨x,hx⟩,ha,hc,hl,rfl,hHR,hHl,hHf⟩
 ·
  have hnb:(er != 0)=true:=by simpa using hne
  replace hne:=Hd hne;have m0:=BMx.cell 0;have m1:=BMx.cell 1;have m2:=BMx.cell 2;have m3:=BMx.cell 3;have m4:=BMx.cell 4;have m5:=BMx.cell 5;have m6:=BMx.cell 6;have n0:=BMx.frozen 0;have n1:=BMx.frozen 1;have n2:=BMx.frozen 2;have n3:=BMx.frozen 3;have n4:=BMx.frozen 4;have n5:=BMx.frozen 5;have n6:=BMx.frozen 6;go_wp2;refine qaa (fun W=>Blk W gM 41 #[.slice none 0 0,.slice none 0 0,.slice none 0 0,.slice none 0 0,.slice none 0 0,.slice none 0 0,.slice none 0 0]/\Below w.heap.size w W) ⟨bk,by have:=hw2;have:=(hw2).size;go_grown⟩ ?_;rintro wF ⟨hF,hwF⟩;have e0:=hF.cell 0;have e1:=hF.cell 1;have e2:=hF.cell 2;have e3:=hF.cell 3;have e4:=hF.cell 4;have e5:=hF.cell 5;have e6:=hF.cell 6
  refine bodyPost_ret (v:=.tuple #[.agg #[.slice none 0 0,.slice none 0 0,.slice none 0 0,.slice none 0 0,.slice none 0 0,.slice none 0 0,.slice none 0 0],.int .i64 er]) (by simp [results,Tryz.results14,go_sem,e0,e1,e2,e3,e4,e5,e6]) rfl ?_;exact ⟨hwF,.inl ⟨er,hne.out,rfl⟩⟩
 obtain ⟨z0,z1⟩:=cq2 BG2;have zl:=BG2.lt;have lHl:=hHR.1;have lHc:=hHR.2.1;have hHRd:=hHR.rd (X:=fun b=>b=gM) hHf (fun b hb=>by subst hb;exact lM1);replace hHRd:=Hd hHRd;replace hHR:=Hd hHR;replace hHl:=Hd hHl;have hxc:=CC.out w2 hw2;rw [hx] at hxc;dsimp only at hxc;obtain ⟨D,M,hB,hlen,hvl,hG8,hG3⟩:=hgv.out x hx;replace hxc:=Hd hxc;replace hx:=Hd hx;replace hB:=Hd hB;replace hG8:=Hd hG8;replace hG3:=Hd hG3;replace hlen:=Hd hlen;clear CC hgv;go_wp2_with fail;refine hxc.out.mono ?_;rintro e w3 ⟨hb3,hs,ra,va,rc,vc,B0,rfl,heq,hoC,hoV,hall⟩;have hFr:=FrR.of heq hoC hoV hall;have hlh:hs.length=steps.length:=by rw [<- hlen.out,<- heq,List.length_map]
 have lC:=SlR.len hFr.co;have hw3:=bth hw2 hb3;have BG3:=BG2.below' hb3;have BM3:=BMx.below' hb3;have hHR3:=Hd (hHRd.out.call hb3);have lG3:=BG3.lt;have lM3:=BM3.lt;replace hFr:=Hd hFr;replace hlh:=Hd hlh;clear z0 z1 zl hxc BG2 BMx lM hoC hoV hall heq hb3 hHR hHRd hHf lM1;obtain ⟨z0,z1⟩:=cq2 BG3;go_wp2_with fail
 refine qae (fun W=>Blk W gG 25 #[.slice sa steps.length sc,.slice ga goals.length gc]/\Blk W gM 41 #[.slice none 0 0,.slice none 0 0,.slice none 0 0,.slice none 0 0,.slice none 0 0,.slice none 0 0,.slice none 0 0]/\Blk W w3.heap.size 37 #[.slice ra hs.length rc,.slice va x.vars.length vc]/\Blk W (w3.heap.size+1) 41 #[.slice sa steps.length sc,.slice ga goals.length gc,.slice ra hs.length rc,.slice va x.vars.length vc,.slice ha hl.length hc,.slice none 0 0,.slice none 0 0]/\Below w3.heap.size w3 W) ⟨bk,bk,bk,bk,zg⟩ ?_
 rintro w4 ⟨BG4,BM4,BF4,BP4,hb4⟩;obtain ⟨gP,hgP⟩:=nm (w3.heap.size+1)
 obtain ⟨gF,hgF⟩:=nm w3.heap.size
 rw [hgP] at BP4 ⊢;have BF4':Blk w4 gF 37 #[.slice ra hs.length rc,.slice va x.vars.length vc]:=hgF ▸ BF4;simp only [hgF];have hw4:=bth hw3 hb4;have hP4:=BP4.lt;have o1:gG≠gP:=oo
 have o2:gM≠gP:=oo
 have o3:gF≠gP:=oo
 have o4:w3.heap.size<=gP:=oo
 have o5:w.heap.size<=gP:=by have:=hw3.size;omega
 have o6:gM<gP:=oo
 replace hgP:=Hd hgP;replace hgF:=Hd hgF;refine (CD.out w4 hw4).mono ?_;rintro e w5 ⟨hb5,hcds⟩;obtain ⟨da,dc,cs,er,rfl,hCd,hcl8,hok⟩:∃ (a:Option Addr) (c:Nat) (cs:List Cnd) (er:Int),e=.returned (.tuple #[.slice a cs.length c,.int .i64 er])/\(Rd (fun b=>b<w4.heap.size) w5 fun V=>CdR V a c cs)/\cs.length<=8/\CdsOk steps cs:=by
  rcases hcds with ⟨er,_,h⟩ | ⟨a,c,cs,h1,h2,h3,h4⟩
  · exact ⟨none,0,[],er,h,fun V hV=>SlR.nil,by simp,fun c hc=>by cases hc⟩
  · exact ⟨a,c,cs,0,h1,h2,h3,h4⟩
 have hw5:=Hd (bth hw4 hb5);have hw35:=Hd (bth hb4 hb5);have BG5:=BG4.below' hb5;have BM5:=BM4.below' hb5;have BF5:=BF4'.below' hb5;have BP5:=BP4.below' hb5;have lP5:=BP5.lt;have lcd:=hCd.now.2.1;have lcd1:=hCd.now.1;replace hCd:=Hd hCd;replace hok:=Hd hok;replace BP5:=Hd BP5;clear z0 z1 CD BG4 BM4 BF4 BF4' BP4 hb4 hb5 hcds BG3 BM3;go_wp2
 go_loopg [12,13,14] cs.length (fun m q _ _ wr=>∃ (k:Nat) (ca:Option Addr) (cc:Nat) (cl:List SQ),Hid (k+m=cs.length)/\q=.int .i64 k/\Hid (Blk wr gP 41 #[.slice sa steps.length sc,.slice ga goals.length gc,.slice ra hs.length rc,.slice va x.vars.length vc,.slice ha hl.length hc,.slice ca cl.length cc,.slice none 0 0])/\Hid (OwnPo w5.heap.size wr ca cc cl)/\Hid (cl.length=k)/\Hid (Fr (fun b=>b=gP) w5 wr))
 case atStart=>exact ⟨0,none,0,[],by show _=_;omega,rfl,BP5.out,Own.nil,rfl,Fr.refl _ _⟩
 case round =>
  obtain ⟨k,ca,cc,cl,hm,rfl,hBP,hO,hck,hK⟩:=hrel;have BG:=BG5.fr hK.out o1;have BMx:=BM5.fr hK.out o2;have BF:=BF5.fr hK.out o3;have hwr:=Below.fr hw5.out hK.out (fun b hb=>by subst hb;exact o5) hw5.out.size;have hw3r:=Below.fr hw35.out hK.out (fun b hb=>by subst hb;exact o4) hw35.out.size;have hFrr:=Hd (hFr.out.ext (xbw hw3r));have hSr:=Hd (HS.out.ext (xbw hwr));have hcl2:=hK.out.size;have lM:=BMx.lt;have lG':=BG.lt;have lF':=BF.lt;have lP':=hBP.out.lt;by_cases hlt:k<cs.length
  ·
   obtain ⟨c,hc⟩:=qab hlt;obtain ⟨ck,cargs,ci⟩:=c;obtain ⟨s,hsi,hcp⟩:=hok.out _ (List.mem_of_getElem? hc);dsimp only at hsi hcp;have hCr:=(hCd.out.step (hK.out.agr.mono fun b hb=>by subst hb;exact hP4)).now;obtain ⟨db,do_,rfl,ia,ic,u0,u1,u2,hI⟩:=hCr.2.2 k _ hc;dsimp only at u0 u1 u2 hI;have hmem:=(qru (har.out ci s hsi) hcp).2;have hsin:=(hst.out ci s hsi).2.2.2.1;have CP:=fun W (hW:Below wr.heap.size wr W)=>qsc steps x hs sa ga ra va sc goals.length gc rc vc ci s ck cargs ia ic D M W (hSr.out.ext (xbw hW)) hsi (har.out ci s hsi) hcp (hI.ext (xbw hW)) (hFrr.out.ext (xbw hW)) hB.out
    (fun n y _ z hz=>hG8.out z.2 (by rw [<- hFr.out.eq];exact List.mem_map_of_mem (List.mem_of_getElem? hz))) (fun y hy=>by have h1:=hsin y (hmem y hy);have h2:=qai hsi;have h3:=hlh.out;omega) oo
   obtain ⟨z0,z1⟩:=cq2 BG;obtain ⟨f0,f1⟩:=cq2 BF;have hdb:db<wr.heap.size:=World.block_lt_of_cell? wr _ u0;have hkI:(k:Int)<(cs.length:Int):=oo
   have s0:Below wr.heap.size wr wr.drew:=brf.drew;replace CP:=Hd CP;replace hc:=Hd hc;replace hsi:=Hd hsi;replace hcp:=Hd hcp;replace hI:=Hd hI;replace hmem:=Hd hmem;replace hsin:=Hd hsin;replace hCr:=Hd hCr;replace BG:=Hd BG;replace BF:=Hd BF;have BMh:=Hd BMx;clear BMx;go_wp2;refine wrx (S:=(fun x=>x=wr.drew)) [(0,.q),(1,.q),(2,.q),(3,.q),(4,.q),(5,.q),(6,.t),(7,.p),(8,.p),(9,.p),(10,.p),(11,.p)] (rfl) ?_
   iterate 6 (refine qaf rfl rfl fun K hK=>xq ?_;go_simp;refine hK _ _ ?_;clear hK K)
   refine vt fun K hK=>?_
   go_simp;refine (CP.out wr.drew s0).mono ?_;rintro r w6 ⟨hb6,pa,pn,pc,rfl,hpn⟩;dsimp only;refine hK.out _ _ ?_;clear hK K
   iterate 5 (refine qaj rfl rfl fun K hK=>xp ?_;go_simp;refine hK _ _ ?_;clear hK K)
   refine qad ?_;have hb6':=bth s0 hb6;have hw6:=bth hwr hb6';have BMx:=BMh.out.below' hb6';have hBP6:=hBP.out.below' hb6';have hO6:=hO.out.below hb6';have hK6:=hK.out.call hb6';have lM6:=BMx.lt;clear z0 z1 f0 f1 u0 u1 u2 CP s0 hb6;by_cases hbig:4000<pn
   ·
    have hd:decide (4000<pn)=true:=decide_eq_true hbig;have hdI:(4000:Int)<(pn:Int):=oo
    replace hbig:=Hd hbig;replace hBP6:=Hd hBP6;replace hO6:=Hd hO6;replace hK6:=Hd hK6;have m0:=BMx.cell 0;have m1:=BMx.cell 1;have m2:=BMx.cell 2;have m3:=BMx.cell 3;have m4:=BMx.cell 4;have m5:=BMx.cell 5;have m6:=BMx.cell 6;have n0:=BMx.frozen 0;have n1:=BMx.frozen 1;have n2:=BMx.frozen 2;have n3:=BMx.frozen 3;have n4:=BMx.frozen 4;have n5:=BMx.frozen 5;have n6:=BMx.frozen 6;go_wp2;refine qaa (fun W=>Blk W gM 41 #[.slice none 0 0,.slice none 0 0,.slice none 0 0,.slice none 0 0,.slice none 0 0,.slice none 0 0,.slice none 0 0]/\Below w.heap.size w W) ⟨bk,by have:=hw6;have:=(hw6).size;go_grown⟩ ?_;rintro wF ⟨hF,hwF⟩;have e0:=hF.cell 0;have e1:=hF.cell 1;have e2:=hF.cell 2;have e3:=hF.cell 3;have e4:=hF.cell 4;have e5:=hF.cell 5;have e6:=hF.cell 6
    refine bodyPost_ret (v:=.tuple #[.agg #[.slice none 0 0,.slice none 0 0,.slice none 0 0,.slice none 0 0,.slice none 0 0,.slice none 0 0,.slice none 0 0],.int .i64 4]) (by simp [results,Tryz.results14,go_sem,e0,e1,e2,e3,e4,e5,e6]) rfl ?_;exact ⟨hwF,.inl ⟨4,dd,rfl⟩⟩
   ·
    have hd:decide (4000<pn)=false:=decide_eq_false hbig;have hdI:¬ (4000:Int)<(pn:Int):=oo
    have y5:=hBP6.cell 5;have yf:=hBP6.frozen 5;have hn5:w5.heap.size<=w6.heap.size:=hK6.size;replace hbig:=Hd hbig;replace BMx:=Hd BMx;replace hBP6:=Hd hBP6;replace hO6:=Hd hO6;replace hK6:=Hd hK6
    go_wp2_with (at_builtin;go_must (refine qaa (fun W=>Blk W w6.heap.size 75 #[.slice pa pn pc]/\Below w6.heap.size w6 W) ⟨bk,zg⟩ ?_);rintro w7 ⟨hr,hb7⟩;have hO7:=hO6.out.below hb7;go_must (refine qxd rfl (.tmp 68) (.tmp 70) 38 rfl Tryz.underlying38 ca cc rfl hO7 (⟨pa,pn,pc⟩:SQ) w6.heap.size 1 rfl (hr.cell 0) (cl++[(⟨pa,pn,pc⟩:SQ)]) rfl (by rw [List.length_append];have:=hck.out;simp;omega) (by have:=hb7.size;omega) ?_);intro ca2 cc2 w8 ho8 hg8 ha8;have hBP8:=(hBP6.out.below' hb7).under hO7 lP5 hg8;have hK8:=(hK6.out.call hb7).grown hg8 (fun g hg=>.inr (hO7.lt hg).1);have y5:=hBP8.cell 5;have yf:=hBP8.frozen 5;replace hBP8:=Hd hBP8;replace hK8:=Hd hK8;replace ho8:=Hd ho8;clear hr hb7 hg8 ha8 hO7)
    have hln:(cl++[(⟨pa,pn,pc⟩:SQ)]).length=cl.length+1:=by simp
    go_roundg (gk-1)
    case rel=>exact ⟨k+1,ca2,cc2,cl++[(⟨pa,pn,pc⟩:SQ)],by have:=hm.out;show _=_;omega,by go_num,by have a:=hBP8.out;rw [hln];show Blk _ _ _ _;exact bk,OwnPo.set_ ho8.out lP5,by have:=hck.out;show _=_;rw [hln];omega,hK8.out.setc (.inl rfl)⟩
    case measure=>have:=hm.out;omega
  ·
   have hkc:¬ (k:Int)<(cs.length:Int):=oo
   have hCl:=hO.out.rd (X:=fun b=>b=gP\/b=gM) (fun b hb=>by rcases hb with rfl | rfl <;> omega);have hcl8':cl.length<=8:=by have:=hck.out;have:=hm.out;omega
   have lcl:=hO.out.cap.2;obtain ⟨gk0,rfl⟩:∃ n,n=gk:=⟨_,rfl⟩
   obtain ⟨wq,hwq⟩:∃ wo:World,wo=wr:=⟨_,rfl⟩
   rw [<- hwq] at hBP BG BMx BF hwr hw3r hFrr hSr hCl hcl2 lM lG' lF' lP' ⊢;have hGr:=Hd (HG.out.ext (xbw hwr));replace hCl:=Hd hCl;replace hcl8':=Hd hcl8';clear hwq hO hK hck BP5 hCd hok hm;go_wp2
   go_loopg [15,16,17] goals.length (fun m q _ _ wz=>∃ (k:Nat) (qa:Option Addr) (qc:Nat) (ql:List SQ),Hid (k+m=goals.length)/\q=.int .i64 k/\Hid (Blk wz gP 41 #[.slice sa steps.length sc,.slice ga goals.length gc,.slice ra hs.length rc,.slice va x.vars.length vc,.slice ha hl.length hc,.slice ca cl.length cc,.slice qa ql.length qc])/\Hid (OwnPs wq.heap.size wz qa qc ql)/\Hid (AllG (Xr (fun b=>b=gP\/b=gM) qa) wz ql)/\Hid (ql.length=k)/\Hid (Fr (fun b=>b=gP) wq wz))
   case atStart=>exact ⟨0,none,0,[],by show _=_;omega,rfl,hBP.out,Own.nil,(fun s hs=>by cases hs),rfl,Fr.refl _ _⟩
   case round =>
    obtain ⟨j,qa,qc,ql,hm,rfl,hBPz,hO,hA,hqk,hK⟩:=hrel;have BGz:=BG.fr hK.out o1;have BMz:=BMx.fr hK.out o2;have BFz:=BF.fr hK.out o3;have hwz:=Below.fr hwr hK.out (fun b hb=>by subst hb;exact o5) hwr.size;have hw3z:=Below.fr hw3r hK.out (fun b hb=>by subst hb;exact o4) hw3r.size;have hFz:=Hd (hFr.out.ext (xbw hw3z));have hqz:=hK.out.size;have lMz:=BMz.lt;have lGz:=BGz.lt;have lFz:=BFz.lt;have lPz:=hBPz.out.lt;by_cases hlj:j<goals.length
    ·
     obtain ⟨f,hf⟩:=qab hlj;obtain ⟨fb,fo,rfl,pp,⟨c0,c1,c2,c3,c4⟩,hP,hki⟩:=(HG.out.ext (xbw hwz)).2.2 j f hf;have CP:=fun W (hW:Below wr.heap.size wr W)=>(qqd f pp x hs ra va rc vc D M W (qci.ext hP (xbw hW)) hki (hFz.out.ext (xbw hW)) hB.out hG8.out (hG3.out f (List.mem_of_getElem? hf)) (hg2.out f (List.mem_of_getElem? hf))).mono
      (R':=fun e w'=>∃ (pa:Option Addr) (pn pc:Nat) (er:Int),e=.returned (.tuple #[.slice pa pn pc,.int .i64 er])/\Below W.heap.size W w'/\(er=0->∃ m,pn=List.length m/\SqR w' pa pc m/\m.length<=2/\∀ g,pa=some g->W.heap.size<=g.block))
      (fun e w' h=>by
       obtain ⟨hb,⟨er,hne,h⟩ | ⟨a,c,l,h,h1,h2,h3⟩⟩:=h
       · exact ⟨none,0,0,er,h,hb,fun h0=>absurd h0 hne⟩
       · exact ⟨a,_,c,0,h,hb,fun _=>⟨l,rfl,h1,h2,h3⟩⟩)
     obtain ⟨kind,args,ratio⟩:=f;unfold Fct.val at CP;dsimp only at CP c0 c1 c2 c3 c4 hP hki;have z1:=BGz.cell 1;obtain ⟨f0,f1⟩:=cq2 BFz;have hfb:fb<wr.heap.size:=World.block_lt_of_cell? wr _ c0;have hjI:(j:Int)<(goals.length:Int):=oo
     have s0:Below wr.heap.size wr wr.drew:=brf.drew;replace CP:=Hd CP;replace hf:=Hd hf;replace hP:=Hd hP;replace hki:=Hd hki;replace BGz:=Hd BGz;replace BFz:=Hd BFz;replace BMz:=Hd BMz;clear hBP BG BMx BF lM lG' lF' lP';go_wp2;refine wrx (S:=(fun x=>x=wr.drew)) [(0,.q),(1,.q),(2,.q),(3,.q),(4,.q),(5,.q),(6,.t),(7,.p),(8,.p),(9,.p),(10,.p),(11,.p)] (rfl) ?_
     iterate 6 (refine qaf rfl rfl fun K hK=>xq ?_;go_simp;refine hK _ _ ?_;clear hK K)
     refine vt fun K hK=>?_
     go_simp;refine (CP.out wr.drew s0).mono ?_;rintro r w6 ⟨pa,pn,pc,er,rfl,hb6,hgood⟩;dsimp only;refine hK.out _ _ ?_;clear hK K
     iterate 5 (refine qaj rfl rfl fun K hK=>xp ?_;go_simp;refine hK _ _ ?_;clear hK K)
     refine qad ?_;have hb6':=bth s0 hb6;have hw6:=bth hwz hb6';have BMx:=BMz.out.below' hb6';have hBP6:=hBPz.out.below' hb6';have hO6:=hO.out.below hb6';have hK6:=hK.out.call hb6';have hA6:=hA.out.map fun R h=>h.call hb6'
     have lM6:=BMx.lt;clear z1 f0 f1 c0 c1 c2 c3 c4 CP hb6;by_cases her:er=0
     ·
      subst her;obtain ⟨m,rfl,hmR,hm2,hmf⟩:=hgood rfl;have hXl:∀ b,Xr (fun b=>b=gP\/b=gM) qa b->b<wr.heap.size:=fun b hb=>by
       rcases hb with (rfl | rfl) | ⟨g,hg,rfl⟩
       · exact lPz
       · exact lMz
       · exact (Own.lt hO.out hg).2
      have hRd:=hmR.rd (n:=wr.heap.size) hmf hXl;have y6:=hBP6.cell 6;have yf:=hBP6.frozen 6;have hn6:wq.heap.size<=w6.heap.size:=hK6.size;have lgq:gP<wq.heap.size:=ltl lP5 oo;replace BMx:=Hd BMx;replace hBP6:=Hd hBP6;replace hO6:=Hd hO6;replace hK6:=Hd hK6;replace hA6:=Hd hA6;replace hRd:=Hd hRd;replace hmR:=Hd hmR;replace hm2:=Hd hm2;clear hgood hmf hXl s0
      go_wp2_with (at_builtin;go_must (refine qaa (fun W=>Blk W w6.heap.size 38 #[.slice pa m.length pc]/\Below w6.heap.size w6 W) ⟨bk,zg⟩ ?_);rintro w7 ⟨hr,hb7⟩;have hO7:=hO6.out.below hb7;go_must (refine qay (B:=wq.heap.size) rfl (.tmp 95) (.tmp 97) 39 rfl Tryz.underlying39 qac0 rfl oo oo SQ.cs_len qa qc rfl hO7 (⟨pa,m.length,pc⟩:SQ) (SQ.cs_one _) w6.heap.size 1 rfl (fun i u hu=>by have e:=hr.cell i;rw [e];simpa [SQ.cs] using hu) (ql++[(⟨pa,m.length,pc⟩:SQ)]) rfl (by rw [List.length_append];have:=hqk.out;simp;omega) (by have:=hb7.size;omega) ?_);intro qa2 qc2 w8 ho8 hg8 ha8;have hBP8:=(hBP6.out.below' hb7).under hO7 lgq hg8;have hK8:=(hK6.out.call hb7).grown hg8 (fun g hg=>.inr (Own.lt hO7 hg).1);have hA8:=AllG.push (x:=(⟨pa,m.length,pc⟩:SQ)) (m:=m) (hA6.out.map fun R h=>h.call hb7) rfl hm2.out (hRd.out.call hb7) (fun R h=>h.app hg8 ha8);have y6:=hBP8.cell 6;have yf:=hBP8.frozen 6;replace hBP8:=Hd hBP8;replace hK8:=Hd hK8;replace ho8:=Hd ho8;replace hA8:=Hd hA8;clear hr hb7 hg8 ha8 hO7)
      have hln:(ql++[(⟨pa,m.length,pc⟩:SQ)]).length=ql.length+1:=by simp
      go_roundg (gk-1)
      case rel=>exact ⟨j+1,qa2,qc2,ql++[(⟨pa,m.length,pc⟩:SQ)],by have:=hm.out;show _=_;omega,by go_num,by have a:=hBP8.out;rw [hln];show Blk _ _ _ _;exact bk,OwnPs.set_ ho8.out lgq,hA8.out.map fun R h=>h.setc (.inl (.inl rfl)),by have:=hqk.out;show _=_;rw [hln];omega,hK8.out.setc (.inl rfl)⟩
      case measure=>have:=hm.out;omega
     ·
      have hnb:(er != 0)=true:=by simpa using her
      replace her:=Hd her;replace hBP6:=Hd hBP6;replace hO6:=Hd hO6;replace hK6:=Hd hK6;replace hA6:=Hd hA6;clear hgood;have m0:=BMx.cell 0;have m1:=BMx.cell 1;have m2:=BMx.cell 2;have m3:=BMx.cell 3;have m4:=BMx.cell 4;have m5:=BMx.cell 5;have m6:=BMx.cell 6;have n0:=BMx.frozen 0;have n1:=BMx.frozen 1;have n2:=BMx.frozen 2;have n3:=BMx.frozen 3;have n4:=BMx.frozen 4;have n5:=BMx.frozen 5;have n6:=BMx.frozen 6;go_wp2;refine qaa (fun W=>Blk W gM 41 #[.slice none 0 0,.slice none 0 0,.slice none 0 0,.slice none 0 0,.slice none 0 0,.slice none 0 0,.slice none 0 0]/\Below w.heap.size w W) ⟨bk,by have:=hw6;have:=(hw6).size;go_grown⟩ ?_;rintro wF ⟨hF,hwF⟩
      have e0:=hF.cell 0;have e1:=hF.cell 1;have e2:=hF.cell 2;have e3:=hF.cell 3;have e4:=hF.cell 4;have e5:=hF.cell 5;have e6:=hF.cell 6;refine bodyPost_ret (v:=.tuple #[.agg #[.slice none 0 0,.slice none 0 0,.slice none 0 0,.slice none 0 0,.slice none 0 0,.slice none 0 0,.slice none 0 0],.int .i64 er]) (by simp [results,Tryz.results14,go_sem,e0,e1,e2,e3,e4,e5,e6]) rfl ?_;exact ⟨hwF,.inl ⟨er,her.out,rfl⟩⟩
    ·
     have hCz:=Hd ((hCl.out.step (hK.out.agr.mono fun b hb=>.inl hb)).less (X:=fun b=>b=gM) fun b hb=>.inr hb);have lgq:gM<wq.heap.size:=oo
     have hQ1:=Hd ((OwnPs.sss hO.out hA.out).1.rd (X:=fun b=>b=gM) (fun g hg=>(Own.lt hO.out hg).1) (fun b hb=>by subst hb;exact lgq));have hQ2:=Hd hA.out;have hHz:=Hd (hHR3.out.call hw3z);have hjI:¬ (j:Int)<(goals.length:Int):=oo
     have hqn:ql.length<=3:=by have:=hqk.out;have:=hm.out;omega
     have lql:=hO.out.cap;have z1:=BGz.cell 1;have r0:=hBPz.out.cell 0;have r1:=hBPz.out.cell 1;have r2:=hBPz.out.cell 2;have r3:=hBPz.out.cell 3;have r4:=hBPz.out.cell 4;have r5:=hBPz.out.cell 5;have r6:=hBPz.out.cell 6;have m0:=BMz.cell 0;have m1:=BMz.cell 1;have m2:=BMz.cell 2;have m3:=BMz.cell 3;have m4:=BMz.cell 4;have m5:=BMz.cell 5;have m6:=BMz.cell 6;have n0:=BMz.frozen 0;have n1:=BMz.frozen 1;have n2:=BMz.frozen 2;have n3:=BMz.frozen 3;have n4:=BMz.frozen 4;have n5:=BMz.frozen 5;have n6:=BMz.frozen 6;have hwzs:=hwz.size;replace hqn:=Hd hqn;replace hO:=Hd hO.out;replace hBPz:=Hd hBPz.out;go_wp2
     refine qaa (fun W=>Blk W gM 41 #[.slice sa steps.length sc,.slice ga goals.length gc,.slice ra hs.length rc,.slice va x.vars.length vc,.slice ha hl.length hc,.slice ca cl.length cc,.slice qa ql.length qc]/\Below w.heap.size w W/\Agr (fun b=>b=gM) wr W) ⟨bk,by have:=hwz;go_grown,by (repeat (first | (with_reducible exact Agr.refl _ _) | (with_reducible refine Agr.setc rfl ?_)))⟩ ?_;rintro wF ⟨hF,hwF,hag⟩;have e0:=hF.cell 0;have e1:=hF.cell 1;have e2:=hF.cell 2;have e3:=hF.cell 3;have e4:=hF.cell 4;have e5:=hF.cell 5;have e6:=hF.cell 6
     refine bodyPost_ret (v:=.tuple #[.agg #[.slice sa steps.length sc,.slice ga goals.length gc,.slice ra hs.length rc,.slice va x.vars.length vc,.slice ha hl.length hc,.slice ca cl.length cc,.slice qa ql.length qc],.int .i64 0]) (by simp [results,Tryz.results14,go_sem,e0,e1,e2,e3,e4,e5,e6]) rfl ?_;refine ⟨hwF,.inr ⟨⟨x,hx.out⟩,ra,va,ha,ca,qa,hs.length,rc,x.vars.length,vc,hc,cc,qc,hl,cl,ql,rfl,(hHz.out.step hag).now,(hCz.out.step hag).now,⟨(hQ1.out.step hag).now,fun s hs=>?_⟩,hHl.out,hcl8'.out,hqn.out⟩⟩;obtain ⟨m,h1,h2,h3⟩:=hQ2.out s hs;exact ⟨m,h1,h2,((h3.less (X:=fun b=>b=gM) fun b hb=>.inl (.inr hb)).step hag).now⟩
theorem qie {B:Nat} {w:World} {l:List SQ} {o:Oper} {act:Act} {K:Act->World->Prop} {Q:Exit->Act->World->Prop} (s y:Operand) (ts:TypeId)
  (ho:o.op=.call { callee:=.builtin .append,args:=#[s,y],argTypes:=#[ts,ts] }) (hu:Tryz.prog.underlying ts=some (.slice 75))
  (a:Option Addr) (c:Nat) (hs:act.eval s=.slice a l.length c) (hown:OwnPo B w a c l) (m:List SQ) (b:Option Addr) (n c1:Nat) (hn:n=m.length) (hy:act.eval y=.slice b n c1) (hm:SqR w b c1 m)
  (hlen:(l++m).length<=16777216) (hB:B<=w.heap.size)
  (h:∀ a' c' w',OwnPo B w' a' c' (l++m)->w.grownBy w' (Value.ownBlock (.slice a l.length c))->K (act.put o.dst (.slice a' (l++m).length c')) w'):o.wp Tryz.prog act w K Q:=by
 subst hn
 cases m with
 | nil =>
  obtain ⟨i,hi,_⟩:=info_parts qi2;refine qfh s y ts ho hu hi a l.length c hown.cap.1 hs b c1 hy ?_;have:=h a c w (by simpa using hown) (World.grownBy.refl _ _);simpa using this
 | cons x m =>
  obtain ⟨bb,off,hb,_⟩:=hm.2.2 0 x rfl;refine qg8 s y ts ho hu qi2 rfl oo oo SQ.cs_len a c hs hown (x :: m) (by simp) ?_ ⟨bb,off,none⟩ c1 (by rw [hy,hb]) ?_ _ rfl hlen hB
   fun a' c' w' h1 h2 _=>h a' c' w' h1 h2
  ·
   intro u hu;simp only [List.mem_flatMap] at hu;obtain ⟨z,_,hz⟩:=hu;exact SQ.cs_one z u hz
  ·
   intro j u hu;rw [qrg] at hu;obtain ⟨z,hz,hj⟩:=Option.map_eq_some_iff.1 hu;obtain ⟨b2,off2,hb2,hc⟩:=hm.2.2 j z hz;rw [hb] at hb2;have e1:bb=b2:=congrArg (fun o:Option Addr=>(o.getD default).block) hb2;have e2:off=off2:=congrArg (fun o:Option Addr=>(o.getD default).off) hb2;subst e1;subst e2;subst hj;rw [Addr.add_lit];simpa [SqE] using hc
theorem qvq {w:World} {B gE:Nat} (hg:gE=w.heap.size) (hB:B<=w.heap.size):OwnPo B (w.alloc (.cells #[] 75)) (some ⟨gE,0,none⟩) 0 []:=by
 subst hg;exact ⟨by simp,.inr ⟨w.heap.size,0,#[],rfl,hB,Blk.new w _ _,by simp⟩⟩
theorem qyb {j g n:Nat} (h:j+g=n) (hl:j<n):j+1+(g-1)=n:=oo
def RetLi (steps:List Step) (goals:List Fct) (w:World) (e:Ending) (w':World):Prop:=∃ b:Bool,e=.returned (.bool b)/\(b=true->Fig.slim ⟨steps,goals⟩/\∃ x,qbc ⟨[],[],0⟩ 0 steps=some x)/\Below w.heap.size w w'
theorem RetLi.no {steps:List Step} {goals:List Fct} {w w':World} (h:Below w.heap.size w w'):RetLi steps goals w (.returned (.bool false)) w':=⟨false,rfl,(fun h=>by cases h),h⟩
theorem qvo (steps:List Step) (goals:List Fct) (sa:Option Addr) (sc:Nat) (ga:Option Addr) (gc:Nat) (w:World) (h:FigR w sa sc ga gc ⟨steps,goals⟩) (hq:Fig.few ⟨steps,goals⟩) :
  Calls Tryz.prog 13 #[.agg #[.slice sa steps.length sc,.slice ga goals.length gc]] w (RetLi steps goals w):=by
 have CF:=fun W (hW:bw w W)=>qtx ⟨steps,goals⟩ sa sc ga gc W ⟨h.1.ext (xbw hW),h.2.ext (xbw hW)⟩ hq
 have CM:=fun (hs:Fig.slim ⟨steps,goals⟩) W (hW:bw w W)=>qoc steps goals sa sc ga gc W ⟨h.1.ext (xbw hW),h.2.ext (xbw hW)⟩ hq hs
 unfold Fig.val at CF;dsimp only at CF;replace CF:=Hd CF;replace CM:=Hd CM;have lS:=SlR.len h.1;have lG:=SlR.len h.2;dsimp only at lS lG;clear h hq;go_enter Tryz.func13,Tryz.ntmps13;go_wp2_with fail;refine qae (fun W=>Blk W w.heap.size 25 #[.slice sa steps.length sc,.slice ga goals.length gc]/\Below w.heap.size w W) ⟨bk,zg⟩ ?_;rintro w0 ⟨BG,hw0⟩;refine (CF.out w0 hw0).mono ?_;rintro e w1 ⟨b,rfl,hsl,hb1⟩;have hw1:=bth hw0 hb1;have BG1:=BG.below' hb1;clear CF BG hb1
 cases b with
 | false =>
  replace hsl:=Hd hsl;go_wp2;refine bodyPost_ret (v:=.bool false) (by simp [results,Tryz.results13,go_sem]) rfl ?_;exact RetLi.no hw1
 | true =>
  have hslim:=hsl rfl;have CM1:=Hd (CM.out hslim w1 hw1);obtain ⟨z0,z1⟩:=cq2 BG1;have zl:=BG1.lt;replace hslim:=Hd hslim;clear hsl CM;go_wp2_with fail;refine CM1.out.mono ?_;rintro e w2 ⟨hb2,hres⟩;have hw2:=bth hw1 hb2;clear z0 z1 zl CM1 BG1 hb2;rcases hres with ⟨er,hne,rfl⟩ | ⟨hx,ra,va,ha,ca,qa,rn,rc,vn,vc,hc,cc,qc,hl,cl,ql,rfl,h1,h2,h3,n1,n2,n3⟩
  ·
   have hnb:(er != 0)=true:=by simpa using hne
   replace hne:=Hd hne;go_wp2;refine bodyPost_ret (v:=.bool false) (by simp [results,Tryz.results13,go_sem]) rfl ?_;exact RetLi.no (by have:=hw2;have:=hw2.size;go_grown)
  ·
   have g1:=h1.1;have g2:=h1.2.1;have g3:=h2.1;have g4:=h2.2.1;have g5:=h3.1.1;have g6:=h3.1.2.1;replace hx:=Hd hx;have H1:=Hd h1;have H2:=Hd h2;have H3:=Hd h3;clear h1 h2 h3;go_wp2;refine qaa (fun W=>Blk W w2.heap.size 41 #[.slice sa steps.length sc,.slice ga goals.length gc,.slice ra rn rc,.slice va vn vc,.slice ha hl.length hc,.slice ca cl.length cc,.slice qa ql.length qc]/\Below w2.heap.size w2 W) ⟨bk,zg⟩ ?_;rintro w3 ⟨BM,hb3⟩;have hw3:=bth hw2 hb3;have p4:=held (BM.cell 4);have p5:=held (BM.cell 5);have s0:Below w3.heap.size w3 w3.drew:=brf.drew;refine wrx (S:=Below w3.heap.size w3) [(1,.q),(2,.q),(4,.q),(5,.q),(0,.l),(3,.l),(6,.t),(7,.p)] (s0) ?_
   iterate 4 (refine qaf rfl rfl fun K hK=>xq ?_;go_simp;refine hK _ _ ?_;clear hK K)
   refine vl fun K hK=>?_
   go_simp;refine hK.out _ _ ((s0.alloc s0.size _)) (fun _=>?_);clear hK K;have s1:Below w3.heap.size w3 (w3.alloc (Obj.cells #[] 75)).drew:=s0.alloc s0.size _;have hE:OwnPo w3.heap.size (w3.alloc (Obj.cells #[] 75)).drew (some ⟨w3.heap.size,0,none⟩) 0 []:=qvq rfl (nlr _);have hA1:=(H1.out.ext (xbw hb3)).ext (xbw s1);have hA2:=(H2.out.ext (xbw hb3)).ext (xbw s1);refine vl fun K hK=>?_
   refine qie (B:=w3.heap.size) (.tmp 18) (.tmp 20) 38 rfl Tryz.underlying38 (some ⟨w3.heap.size,0,none⟩) 0 rfl hE hl ha hl.length hc rfl rfl hA1 (by simp;omega) s1.size ?_;intro a4 c4 w4 ho4 hg4;rw [List.nil_append] at ho4;have s4:=qal s1 hE hg4;refine hK.out _ _ s4 (fun _=>?_);clear hK K;have hA3:=(H2.out.ext (xbw hb3)).ext (xbw s4);refine vt fun K hK=>?_
   refine qie (B:=w3.heap.size) (.tmp 21) (.tmp 23) 38 rfl Tryz.underlying38 a4 c4 rfl ho4 cl ca cl.length cc rfl rfl hA3 (by simp;omega) s4.size ?_;intro a5 c5 w5 ho5 hg5;have s5:=qal s4 ho4 hg5;rw [List.nil_append] at ho5;refine hK.out _ _ ?_;clear hK K
   refine qaj rfl rfl fun K hK=>xp ?_;go_simp;refine hK _ _ ?_;clear hK K
   refine qad ?_;have s5h:=Hd s5;have H35:=Hd (H3.out.ext (xbw hb3));have ho5':=Hd ho5;have hln5:(hl++cl).length<=24:=by rw [List.length_append];omega
   replace hln5:=Hd hln5;obtain ⟨gM,hgM⟩:=nm w2.heap.size
   have BM5':Blk w3 gM 41 #[.slice sa steps.length sc,.slice ga goals.length gc,.slice ra rn rc,.slice va vn vc,.slice ha hl.length hc,.slice ca cl.length cc,.slice qa ql.length qc]:=hgM ▸ BM;obtain ⟨all,hall⟩:=nm (hl++cl)
   rw [hall] at ho5' hln5;have lA:=ho5'.out.cap;simp only [hgM];replace hgM:=Hd hgM;replace hall:=Hd hall;clear p4 p5 s0 s1 hE hA1 hA2 hA3 ho4 hg4 s4 ho5 hg5 s5 BM hb3 hw2;go_wp2
   go_loopg [5,6] ql.length (fun m o q wr=>∃ (k:Nat) (a:Option Addr) (c:Nat) (l:List SQ),Hid (k+m=ql.length)/\o=.slice a l.length c/\q=.int .i64 k/\Hid (OwnPo w3.heap.size wr a c l)/\Hid (l.length<=24+2*k)/\Hid (Below w3.heap.size w3 wr))
   case atStart=>exact ⟨0,a5,c5,all,by show _=_;omega,by rw [<- hall.out];simp,rfl,ho5'.out,by have:=hln5.out;show _<=_;omega,s5h.out⟩
   case round =>
    obtain ⟨k,a,c,l,hm,rfl,rfl,hO,hll,hwr⟩:=hrel;have BMr:=BM5'.below' hwr.out;have y6:=BMr.cell 6;have hF:=Hd (bth hw3 hwr.out);have lO:=hO.out.cap;by_cases hlt:k<ql.length
    ·
     obtain ⟨s,hs⟩:=qab hlt;obtain ⟨m,hsm,hm2,hmR⟩:=H35.out.2 s (List.mem_of_getElem? hs);obtain ⟨tb,to_,rfl,tc⟩:=(H35.out.1.ext (xbw hwr.out)).2.2 k s hs;unfold SqE at tc;rw [Nat.mul_one,hsm] at tc;have hmR2:=Hd (hmR.ext (xbw hwr.out));have hkI:(k:Int)<(ql.length:Int):=oo
     have hln:(l++m).length<=24+2*(k+1):=by rw [List.length_append];have:=hll.out;omega
     have hz3:=hwr.out.size;replace hs:=Hd hs;replace hln:=Hd hln;replace hsm:=Hd hsm;go_wp2_with (at_builtin;go_must (refine qk2 rfl (.tmp 32) (.tmp 37) 38 rfl Tryz.underlying38 a c rfl hO.out m s.a m.length s.c rfl rfl hmR2.out (l++m) rfl (by have:=hln.out;omega) hz3 ?_);intro a7 c7 w7 ho7 hg7 ha7;have hb7:=qal hwr.out hO.out hg7;replace ho7:=Hd ho7;replace hb7:=Hd hb7;clear hg7 ha7);go_roundg (gk-1)
     case rel=>exact ⟨k+1,a7,c7,l++m,by have:=hm.out;show _=_;omega,by first | rfl | rw [List.length_append],by go_num,ho7.out,hln.out,hb7.out⟩
     case measure=>have:=hm.out;omega
    ·
     have lI:¬ (k:Int)<(ql.length:Int):=oo
     obtain ⟨gk0,rfl⟩:∃ n,n=gk:=⟨_,rfl⟩
     obtain ⟨wq,hwq⟩:∃ wo:World,wo=wr:=⟨_,rfl⟩
     rw [<- hwq] at hO hF BMr y6 ⊢;have hR:=Hd hO.out.reads;have lN:l.length<=1000:=by have:=hll.out;have:=hm.out;omega
     clear hwq hwr hO hll hm;go_wp2
     go_loopg [7] l.length (fun m q wr=>∃ j:Nat,Hid (j+m=l.length)/\q=.int .i64 j/\Hid (Below wq.heap.size wq wr))
     case atStart=>exact ⟨0,by show _=_;omega,rfl,Below.refl _ _⟩
     case round =>
      obtain ⟨j,hmj,rfl,hwz⟩:=hrel;have hE:=Hd (bth hF.out hwz.out);by_cases hlj:j<l.length
      ·
       obtain ⟨t,ht⟩:=qab hlj;obtain ⟨tb,to_,rfl,tc⟩:=(hR.out.ext (xbw hwz.out)).2.2 j t ht;unfold SqE at tc;rw [Nat.mul_one] at tc;have hjI:(j:Int)<(l.length:Int):=oo
       replace ht:=Hd ht;by_cases hbig:60<t.n
       ·
        have hd:decide (60<t.n)=true:=decide_eq_true hbig;have hdI:(60:Int)<(t.n:Int):=oo
        replace hbig:=Hd hbig;go_wp2;refine bodyPost_ret (v:=.bool false) (by simp [results,Tryz.results13,go_sem]) rfl ?_;exact RetLi.no hE.out
       ·
        have hd:decide (60<t.n)=false:=decide_eq_false hbig;have hdI:¬ (60:Int)<(t.n:Int):=oo
        replace hbig:=Hd hbig;go_wp2;go_roundg (gk-1)
        case rel=>exact ⟨j+1,qyb hmj.out hlj,by go_num,hwz.out⟩
        case measure=>have:=hmj.out;omega
      ·
       have hjI:¬ (j:Int)<(l.length:Int):=oo
       go_wp2;refine bodyPost_ret (v:=.bool true) (by simp [results,Tryz.results13,go_sem]) rfl ?_;exact ⟨true,rfl,fun _=>⟨hslim.out,hx.out⟩,hE.out⟩
def Seven (v:Value):Prop:=∃ (a0 a1 a2 a3 a4 a5 a6:Option Addr) (n0 n1 n2 n3 n4 n5 n6 c0 c1 c2 c3 c4 c5 c6:Nat),v=.agg #[.slice a0 n0 c0,.slice a1 n1 c1,.slice a2 n2 c2,.slice a3 n3 c3,.slice a4 n4 c4,.slice a5 n5 c5,.slice a6 n6 c6]
def RetPb (steps:List Step) (goals:List Fct) (w:World) (e:Ending) (w':World):Prop:=Below w.heap.size w w' /\
 ∃ (v:Value) (b:Bool),e=.returned (.tuple #[v,.bool b])/\Seven v/\(b=true->Fig.slim ⟨steps,goals⟩/\∃ x,qbc ⟨[],[],0⟩ 0 steps=some x)
theorem qsk:Seven (.agg #[.slice none 0 0,.slice none 0 0,.slice none 0 0,.slice none 0 0,.slice none 0 0,.slice none 0 0,.slice none 0 0]):=⟨none,none,none,none,none,none,none,0,0,0,0,0,0,0,0,0,0,0,0,0,0,rfl⟩
theorem qq3 (steps:List Step) (goals:List Fct) (sa:Option Addr) (sc:Nat) (ga:Option Addr) (gc:Nat) (w:World) (h:FigR w sa sc ga gc ⟨steps,goals⟩) (hq:Fig.few ⟨steps,goals⟩) :
  Calls Tryz.prog 6 #[.agg #[.slice sa steps.length sc,.slice ga goals.length gc]] w (RetPb steps goals w):=by
 have CL:=fun W (hW:bw w W)=>qvo steps goals sa sc ga gc W ⟨h.1.ext (xbw hW),h.2.ext (xbw hW)⟩ hq
 have CM:=fun (hs:Fig.slim ⟨steps,goals⟩) W (hW:bw w W)=>qoc steps goals sa sc ga gc W ⟨h.1.ext (xbw hW),h.2.ext (xbw hW)⟩ hq hs
 have lS:=SlR.len h.1;have lG:=SlR.len h.2;replace CL:=Hd CL;replace CM:=Hd CM;dsimp only at lS lG;clear h hq;go_enter Tryz.func6,Tryz.ntmps6;go_wp2_with fail;refine qae (fun W=>Blk W w.heap.size 25 #[.slice sa steps.length sc,.slice ga goals.length gc]/\Blk W (w.heap.size+1) 41 #[.slice none 0 0,.slice none 0 0,.slice none 0 0,.slice none 0 0,.slice none 0 0,.slice none 0 0,.slice none 0 0]/\Below w.heap.size w W) ⟨bk,bk,zg⟩ ?_;rintro w0 ⟨BG0,BM0,hw0⟩;obtain ⟨gM,hgM⟩:=nm (w.heap.size+1)
 obtain ⟨gG,hgG⟩:=nm w.heap.size
 rw [hgM] at BM0 ⊢;have BG0':Blk w0 gG 25 #[.slice sa steps.length sc,.slice ga goals.length gc]:=hgG ▸ BG0;simp only [hgG];have hgMw:w.heap.size<=gM:=oo
 have hgGM:gG<gM:=oo
 replace hgG:=Hd hgG;replace hgM:=Hd hgM;refine (CL.out w0 hw0).mono ?_;rintro e w1 ⟨b,rfl,hsl,hb1⟩;have hw1:=bth hw0 hb1;have BG1:=BG0'.below' hb1;have BM1:=BM0.below' hb1;clear CL BG0 BG0' BM0 hw0 hb1
 cases b with
 | false =>
  have BMx:=BM1;have m0:=BMx.cell 0;have m1:=BMx.cell 1;have m2:=BMx.cell 2;have m3:=BMx.cell 3;have m4:=BMx.cell 4;have m5:=BMx.cell 5;have m6:=BMx.cell 6;have n0:=BMx.frozen 0;have n1:=BMx.frozen 1;have n2:=BMx.frozen 2;have n3:=BMx.frozen 3;have n4:=BMx.frozen 4;have n5:=BMx.frozen 5;have n6:=BMx.frozen 6;have lM:=BMx.lt;clear hsl BM1 CM;go_wp2;refine qaa (fun W=>Blk W gM 41 #[.slice none 0 0,.slice none 0 0,.slice none 0 0,.slice none 0 0,.slice none 0 0,.slice none 0 0,.slice none 0 0]/\Below w.heap.size w W) ⟨bk,by have:=hw1;have:=(hw1).size;go_grown⟩ ?_;rintro wF ⟨hF,hwF⟩;have e0:=hF.cell 0;have e1:=hF.cell 1;have e2:=hF.cell 2;have e3:=hF.cell 3;have e4:=hF.cell 4;have e5:=hF.cell 5;have e6:=hF.cell 6
  refine bodyPost_ret (v:=.tuple #[.agg #[.slice none 0 0,.slice none 0 0,.slice none 0 0,.slice none 0 0,.slice none 0 0,.slice none 0 0,.slice none 0 0],.bool false]) (by simp [results,Tryz.results6,go_sem,e0,e1,e2,e3,e4,e5,e6]) rfl ?_;exact ⟨hwF,_,false,rfl,qsk,fun h=>by cases h⟩
 | true =>
  obtain ⟨hslim,hxs⟩:=hsl rfl;have CM1:=Hd (CM.out hslim w1 hw1);replace hslim:=Hd hslim;replace hxs:=Hd hxs;clear hsl CM
  go_upto_region 3 with fail
  go_cut [4,5] from 9 (fun t4 t5 wc=>∃ (gX:Nat) (er:Int) (a0 a1 a2 a3 a4 a5 a6:Option Addr) (k0 k1 k2 k3 k4 k5 k6 c0 c1 c2 c3 c4 c5 c6:Nat),t4=.pointer (some ⟨gX,0,none⟩)/\t5=.int .i64 er/\gM<gX/\Blk wc gX 41 #[.slice a0 k0 c0,.slice a1 k1 c1,.slice a2 k2 c2,.slice a3 k3 c3,.slice a4 k4 c4,.slice a5 k5 c5,.slice a6 k6 c6]/\Blk wc gM 41 #[.slice none 0 0,.slice none 0 0,.slice none 0 0,.slice none 0 0,.slice none 0 0,.slice none 0 0,.slice none 0 0]/\Below w.heap.size w wc)
  case first =>
   obtain ⟨z0,z1⟩:=cq2 BG1;have zl:=BG1.lt;go_wp2_with fail;refine CM1.out.mono ?_;rintro e w2 ⟨hb2,hres⟩;have hw2:=bth hw1 hb2;have BMx:=BM1.below' hb2;have lM:=BMx.lt;obtain ⟨er,a0,a1,a2,a3,a4,a5,a6,k0,k1,k2,k3,k4,k5,k6,c0,c1,c2,c3,c4,c5,c6,rfl⟩:∃ (er:Int) (a0 a1 a2 a3 a4 a5 a6:Option Addr) (k0 k1 k2 k3 k4 k5 k6 c0 c1 c2 c3 c4 c5 c6:Nat),e=.returned (.tuple #[.agg #[.slice a0 k0 c0,.slice a1 k1 c1,.slice a2 k2 c2,.slice a3 k3 c3,.slice a4 k4 c4,.slice a5 k5 c5,.slice a6 k6 c6],.int .i64 er]):=by
    rcases hres with ⟨er,_,h⟩ | ⟨_,ra,va,ha,ca,qa,rn,rc,vn,vc,hc,cc,qc,hl,cl,ql,h,_⟩
    · exact ⟨er,none,none,none,none,none,none,none,0,0,0,0,0,0,0,0,0,0,0,0,0,0,h⟩
    · exact ⟨0,sa,ga,ra,va,ha,ca,qa,steps.length,goals.length,rn,vn,hl.length,cl.length,ql.length,sc,gc,rc,vc,hc,cc,qc,h⟩
   clear z0 z1 zl CM1 BG1 BM1 hb2 hres;go_wp2
   go_meet
   case rel=>exact ⟨w2.heap.size,er,a0,a1,a2,a3,a4,a5,a6,k0,k1,k2,k3,k4,k5,k6,c0,c1,c2,c3,c4,c5,c6,rfl,rfl,lM,bk,bk,by have:=hw2.size;go_grown⟩
  case rest =>
   obtain ⟨gX,er,a0,a1,a2,a3,a4,a5,a6,k0,k1,k2,k3,k4,k5,k6,c0,c1,c2,c3,c4,c5,c6,rfl,rfl,hMX,BX,BMx,hwc⟩:=hcut;clear CM1 BG1 BM1 hw1;have z0:=BX.cell 0;have z1:=BX.cell 1;have z2:=BX.cell 2;have z3:=BX.cell 3;have z4:=BX.cell 4;have z5:=BX.cell 5;have z6:=BX.cell 6;have m0:=BMx.cell 0;have m1:=BMx.cell 1;have m2:=BMx.cell 2;have m3:=BMx.cell 3;have m4:=BMx.cell 4;have m5:=BMx.cell 5;have m6:=BMx.cell 6;have n0:=BMx.frozen 0;have n1:=BMx.frozen 1;have n2:=BMx.frozen 2;have n3:=BMx.frozen 3;have n4:=BMx.frozen 4;have n5:=BMx.frozen 5;have n6:=BMx.frozen 6;have lM:=BMx.lt;obtain ⟨b,hb⟩:=nm ((er==0))
   go_wp2;refine qaa (fun W=>Blk W gM 41 #[.slice a0 k0 c0,.slice a1 k1 c1,.slice a2 k2 c2,.slice a3 k3 c3,.slice a4 k4 c4,.slice a5 k5 c5,.slice a6 k6 c6]/\Below w.heap.size w W) ⟨bk,by have:=hwc.size;go_grown⟩ ?_;rintro wF ⟨hF,hwF⟩;have e0:=hF.cell 0;have e1:=hF.cell 1;have e2:=hF.cell 2;have e3:=hF.cell 3;have e4:=hF.cell 4;have e5:=hF.cell 5;have e6:=hF.cell 6;refine bodyPost_ret (v:=.tuple #[.agg #[.slice a0 k0 c0,.slice a1 k1 c1,.slice a2 k2 c2,.slice a3 k3 c3,.slice a4 k4 c4,.slice a5 k5 c5,.slice a6 k6 c6],.bool b]) (by simp [results,Tryz.results6,go_sem,e0,e1,e2,e3,e4,e5,e6]) rfl ?_;exact ⟨hwF,_,_,rfl,⟨_,_,_,_,_,_,_,_,_,_,_,_,_,_,_,_,_,_,_,_,_,rfl⟩,fun _=>⟨hslim.out,hxs.out⟩⟩
def dealN (k s:Nat):Nat->Nat->Nat
 | 0,_=>0
 | fuel+1,i=>if i<63 then k / 2 ^ i % 2+2*dealN k s fuel (i+s) else 0
theorem qg2 (k s:Nat):∀ (fuel i:Nat),63<=i->dealN k s fuel i=0
 | 0,_,_=>rfl
 | fuel+1,i,h=>by unfold dealN;rw [if_neg oo]
theorem qkm (k s:Nat) (hs:0<s):∀ (f g i:Nat),63<=i+f->63<=i+g->dealN k s f i=dealN k s g i
 | 0,g,i,h,_=>by rw [qg2 k s g i oo];rfl
 | f+1,0,i,_,h=>by rw [qg2 k s (f+1) i oo];rfl
 | f+1,g+1,i,h,h'=>by
  unfold dealN
  split
  · rw [qkm k s hs f g (i+s) oo oo]
  · rfl
theorem qma {k i:Nat} (hk:k<2 ^ 63) (hi:63<=i):k / 2 ^ i=0:=Nat.div_eq_of_lt (ltl hk (Nat.pow_le_pow_right oo hi))
theorem qlp {k:Nat} (hk:k<2 ^ 63) (c s:Nat):∀ (f i:Nat),dealN (k / 2 ^ c) s f i=dealN k s f (c+i)
 | 0,i=>rfl
 | f+1,i=>by
  rw [dealN,dealN.eq_2 k s (c+i) f];have e:k / 2 ^ c / 2 ^ i=k / 2 ^ (c+i):=by rw [Nat.div_div_eq_div_mul,Nat.pow_add]
  rw [e,qlp hk c s f (i+s)];by_cases h:i<63
  ·
   rw [if_pos h];by_cases h2:c+i<63
   · rw [if_pos h2];rw [Nat.add_assoc]
   · rw [if_neg h2,qma hk oo,qg2 _ _ _ _ oo]
  · rw [if_neg h,if_neg oo]
theorem qj1 (k s:Nat) (hs:0<s):∀ (f i:Nat),dealN k s f i<2 ^ (63-i)
 | 0,i=>by unfold dealN;exact Nat.two_pow_pos _
 | f+1,i=>by
  unfold dealN
  split
  ·
   have:=qj1 k s hs f (i+s);have h2:2 ^ (63-(i+s))<=2 ^ (62-i):=Nat.pow_le_pow_right oo oo;have h3:2 ^ (63-i)=2*2 ^ (62-i):=by rw [show 63-i=(62-i)+1 by omega,Nat.pow_succ,Nat.mul_comm]
   have h4:k / 2 ^ i % 2<2:=Nat.mod_lt _ oo
   omega
  · exact Nat.two_pow_pos _
theorem qes (k s:Nat) (hs:0<s) {i:Nat} (hi:i<63):dealN k s 63 i=k / 2 ^ i % 2+2*dealN k s 63 (i+s):=by
 have h:dealN k s 63 i=dealN k s 64 i:=qkm k s hs 63 64 i oo oo;rw [h,dealN,if_pos hi]
theorem qh1 (n:Nat) (h:n<9223372036854775808):IntKind.i64.wrap (n:Int)=n:=by
 simp [IntKind.wrap,IntKind.bits,IntKind.signed]
 omega
theorem qqi (a b:Nat) (ha:a<9223372036854775808) (hb:b<9223372036854775808):bits .and .i64 (a:Int) (b:Int)=((a &&& b:Nat):Int):=by
 have hx:a &&& b<2 ^ 63:=Nat.and_lt_two_pow _ oo
 show IntKind.i64.wrap ((BitVec.ofInt 64 (a:Int) &&& BitVec.ofInt 64 (b:Int)).toNat:Int)=_
 rw [BitVec.toNat_and,ofInt_u64 a oo,ofInt_u64 b oo];exact qh1 _ oo
theorem qtt (a b:Nat) (ha:a<9223372036854775808) (hb:b<9223372036854775808):bits .or .i64 (a:Int) (b:Int)=((a ||| b:Nat):Int):=by
 have hx:a ||| b<2 ^ 63:=Nat.or_lt_two_pow oo oo
 show IntKind.i64.wrap ((BitVec.ofInt 64 (a:Int) ||| BitVec.ofInt 64 (b:Int)).toNat:Int)=_
 rw [BitVec.toNat_or,ofInt_u64 a oo,ofInt_u64 b oo];exact qh1 _ oo
theorem qqu (a b:Nat) (ha:a<9223372036854775808) (hb:b<9223372036854775808):bits .xor .i64 (a:Int) (b:Int)=((a ^^^ b:Nat):Int):=by
 have hx:a ^^^ b<2 ^ 63:=Nat.xor_lt_two_pow oo oo
 show IntKind.i64.wrap ((BitVec.ofInt 64 (a:Int) ^^^ BitVec.ofInt 64 (b:Int)).toNat:Int)=_
 rw [BitVec.toNat_xor,ofInt_u64 a oo,ofInt_u64 b oo];exact qh1 _ oo
theorem qpy (a:Nat) (ha:a<9223372036854775808):bits .and .i64 (a:Int) 1=((a % 2:Nat):Int):=by
 have:=qqi a 1 ha oo;rw [nat_mask1] at this;exact this
theorem qsh (o b n:Nat) (ho:o<2 ^ n) (hb:b<2) (hn:n<63):bits .or .i64 (o:Int) ((b*2 ^ n:Nat):Int)=((o+b*2 ^ n:Nat):Int):=by
 have h1:(2:Nat) ^ n*2<=2 ^ 63:=by rw [<- Nat.pow_succ];exact Nat.pow_le_pow_right oo oo
 have h2:b*2 ^ n<=1*2 ^ n:=Nat.mul_le_mul oo (nlr _);rw [qtt o (b*2 ^ n) oo oo,Nat.or_comm,nat_join n (b*2 ^ n) o (Nat.mul_mod_left _ _) ho,Nat.add_comm]
theorem qnq (b n:Nat) (hb:b<2) (hn:n<63):b*2 ^ n<9223372036854775808:=by
 have h1:(2:Nat) ^ n*2<=2 ^ 63:=by rw [<- Nat.pow_succ];exact Nat.pow_le_pow_right oo oo
 have h2:b*2 ^ n<=1*2 ^ n:=Nat.mul_le_mul oo (nlr _)
 omega
theorem qvy (z y:Int) (w:World) (hi:InInt z) (hj:InInt y) (h0:y≠0) :
  Calls Tryz.prog 25 #[.int .i64 z,.int .i64 y] w (RetF (qak (decide (z<0) != decide (y<0)) z.natAbs y.natAbs) w):=by
 have hl4:=qi3 hi;have hl5:=qi3 hj;have CZ:=fun W=>qkg z W hi
 have CY:=fun W=>qkg y W hj
 have CO:=fun a a' c c' W h h'=>qwy (decide (z<0)) (decide (y<0)) (limbs z.natAbs) (limbs y.natAbs) z.natAbs y.natAbs a a' c c' W h h' (qac _) (qac _) oo oo oo
 obtain ⟨t,ht⟩:=nm (qak (decide (z<0) != decide (y<0)) z.natAbs y.natAbs)
 obtain ⟨ng,hng⟩:=nm (decide (z<0))
 obtain ⟨nz,hnz⟩:=nm z.natAbs
 obtain ⟨mg,hmg⟩:=nm (decide (y<0))
 obtain ⟨mz,hmz⟩:=nm y.natAbs
 rw [ht] at CO ⊢;simp only [hng,hnz] at CO CZ;simp only [hmg,hmz] at CO CY;obtain ⟨s,N,D⟩:=t;unfold RetM at CO;unfold RetF;dsimp only at CO ⊢;replace CZ:=Hd CZ;replace CY:=Hd CY;replace CO:=Hd CO;have hz:Blk (w.alloc (.cells #[.bool false,.slice none 0 0,.slice none 0 0] 32)) w.heap.size 32 #[.bool false,.slice none 0 0,.slice none 0 0]:=Blk.new w _ _;have hb0:Below w.heap.size w (w.alloc (.cells #[.bool false,.slice none 0 0,.slice none 0 0] 32)):=brf.alloc (nlr _) _;clear ht hng hnz hl4 hl5 hmg hmz h0;go_enter Tryz.func25,Tryz.ntmps25;go_wp2_with fail;revert hz hb0;generalize w.alloc (.cells #[.bool false,.slice none 0 0,.slice none 0 0] 32)=w0;intro hz hb0;refine (CZ.out _).mono ?_;rintro e w1 ⟨a1,c1,rfl,hV1,hb1⟩;have hw1:=bth hb0 hb1;have hz1:=hz.below' hb1;have HV1:=Hd hV1;clear hV1;go_wp2_with fail;refine (CY.out _).mono ?_;rintro e w2 ⟨a2,c2,rfl,hV2,hb2⟩;have hw2:=bth hw1 hb2
 have hz2:=hz1.below' hb2;have CF:=CO.out a1 a2 c1 c2 w2 (HV1.out w2 ((New.refl _ _).below hb2)) (hV2 w2 (New.refl _ _));replace CF:=Hd CF;clear hV2;go_wp2_with fail;refine CF.out.mono ?_;rintro e w3 ⟨a3,c3,a4,c4,rfl,hV3,hV4,hb3⟩;have hw3:=bth hw2 hb3;have hz3:=hz2.below' hb3;have HV3:=Hd hV3;have HV4:=Hd hV4;have hs2:=hw2.size;have hgl2:=hz2.lt;have hz4:=hz3.alloc (.cells #[.bool s,.slice a3 (limbs N).length c3,.slice a4 (limbs D).length c4] 32);have hw4:=hw3.alloc hw3.size (.cells #[.bool s,.slice a3 (limbs N).length c3,.slice a4 (limbs D).length c4] 32);obtain ⟨z0,z1,z2⟩:=cq3 hz4;obtain ⟨f0,f1,f2⟩:=fq3 hz4;clear hV3 hV4;go_wp2;have hF:=blk3 (x:=.bool s) (y:=.slice a3 (limbs N).length c3) (z:=.slice a4 (limbs D).length c4) hz4;obtain ⟨e0,e1,e2⟩:=cq3 hF
 refine bodyPost_ret (v:=.agg #[.bool s,.slice a3 (limbs N).length c3,.slice a4 (limbs D).length c4]) (by simp [results,Tryz.results25,go_sem,e0,e1,e2]) rfl ?_;exact ⟨a3,c3,a4,c4,rfl,fun V hV=>HV3.out V (back3 hV hs2 hgl2).unalloc,fun V hV=>HV4.out V (back3 hV hs2 hgl2).unalloc,qbu hw4 (nlr _)⟩
theorem qyw (neg:Bool) (l m:List Int) (n d:Nat) (a a':Option Addr) (c c':Nat) (w:World) (h:NatR w a c l) (h':NatR w a' c' m) (hn:val l=n) (hk:val m=d) (hl:l.length<=2000000) (hm:m.length<=2000000) (h0:d≠0) :
  Calls Tryz.prog 12 #[.agg #[.bool neg,.slice a l.length c,.slice a' m.length c']] w (RetF (qak (!neg) n d) w):=by
 have CP:=fun W (hW:bw w W)=>qde neg l m a a' c c' W (h'.ext (xbw hW)) oo oo
 have CO:=fun W (hW:bw w W)=>qef (!neg) l m n d a a' c c' W (h.ext (xbw hW)) (h'.ext (xbw hW)) hn hk hl hm
 obtain ⟨t,ht⟩:=nm (qak (!neg) n d)
 rw [ht] at CO ⊢;obtain ⟨s,N,D⟩:=t;unfold RetF at CO ⊢;dsimp only at CO ⊢;replace CP:=Hd CP;replace CO:=Hd CO;have hx:Blk ((w.alloc (.cells #[.bool neg,.slice a l.length c,.slice a' m.length c'] 32)).alloc (.cells #[.bool false,.slice none 0 0,.slice none 0 0] 32)) w.heap.size 32 #[.bool neg,.slice a l.length c,.slice a' m.length c']:=(Blk.new w _ _).alloc _;have hz:Blk ((w.alloc (.cells #[.bool neg,.slice a l.length c,.slice a' m.length c'] 32)).alloc (.cells #[.bool false,.slice none 0 0,.slice none 0 0] 32)) (w.heap.size+1) 32 #[.bool false,.slice none 0 0,.slice none 0 0]:=qa5 w _ _ _;have hb0:Below w.heap.size w ((w.alloc (.cells #[.bool neg,.slice a l.length c,.slice a' m.length c'] 32)).alloc (.cells #[.bool false,.slice none 0 0,.slice none 0 0] 32)):=by go_grown
 have hgB:w.heap.size<w.heap.size+1:=oo
 have hgl:=hz.lt;clear h h' hn hk h0 ht;go_enter Tryz.func12,Tryz.ntmps12;go_wp2_with fail;revert hx hz hb0 hgB hgl;generalize (w.alloc (.cells #[.bool neg,.slice a l.length c,.slice a' m.length c'] 32)).alloc (.cells #[.bool false,.slice none 0 0,.slice none 0 0] 32)=w0;generalize w.heap.size+1=g;intro hx hz hb0 hgB hgl;obtain ⟨z0,z1,z2⟩:=cq3 hx;go_wp2_with fail;refine (CP.out _ hb0).mono ?_;rintro e w1 ⟨rfl,hb1⟩;have hw1:=bth hb0 hb1;have hz1:=hz.below' hb1;clear z0 z1 z2 hx hz;go_wp2_with fail;have hp:=hz1.alloc (.cells #[.bool neg,.slice a l.length c] 30);have hy:=Blk.new w1 30 #[.bool neg,.slice a l.length c];have hw2:=hw1.alloc hw1.size (.cells #[.bool neg,.slice a l.length c] 30);revert hp hy hw2;generalize w1.alloc (.cells #[.bool neg,.slice a l.length c] 30)=w2;intro hp hy hw2;refine (CO.out _ hw2).mono ?_;rintro e w3 ⟨a3,c3,a4,c4,rfl,hV3,hV4,hb3⟩;have hw3:=bth hw2 hb3
 have hz3:=hp.below' hb3;have HV3:=Hd hV3;have HV4:=Hd hV4;have hs2:=hw2.size;have hgl2:=hp.lt;obtain ⟨y0,y1,y2⟩:=cq3 hz3;obtain ⟨f0,f1,f2⟩:=fq3 hz3;clear hV3 hV4 hp hz1;go_wp2;have hF:=blk3 (x:=.bool s) (y:=.slice a3 (limbs N).length c3) (z:=.slice a4 (limbs D).length c4) hz3;obtain ⟨e0,e1,e2⟩:=cq3 hF;refine bodyPost_ret (v:=.agg #[.bool s,.slice a3 (limbs N).length c3,.slice a4 (limbs D).length c4]) (by simp [results,Tryz.results12,go_sem,e0,e1,e2]) rfl ?_;exact ⟨a3,c3,a4,c4,rfl,fun V hV=>HV3.out V (back3 hV hs2 hgl2),fun V hV=>HV4.out V (back3 hV hs2 hgl2),qbu hw3 (Nat.le_of_lt hgB)⟩
def sb (j:Nat):Nat × Nat:=if h:j<=1 then (1,1) else if j % 2=1 then ((sb (j / 2)).1+(sb (j / 2)).2,(sb (j / 2)).2) else ((sb (j / 2)).1,(sb (j / 2)).1+(sb (j / 2)).2)
termination_by j
decreasing_by all_goals omega
theorem qiz {j:Nat} (h:j<=1):sb j=(1,1):=by rw [sb];simp [h]
theorem qew {j:Nat} (h:1<j) (ho:j % 2=1):sb j=((sb (j / 2)).1+(sb (j / 2)).2,(sb (j / 2)).2):=by
 rw [sb,dif_neg oo,if_pos ho]
theorem qd8 {j:Nat} (h:1<j) (ho:j % 2=0):sb j=((sb (j / 2)).1,(sb (j / 2)).1+(sb (j / 2)).2):=by
 rw [sb,dif_neg oo,if_neg oo]
theorem qe5 (j:Nat):1<=(sb j).1/\1<=(sb j).2/\(sb j).1+(sb j).2<=max j 1+1:=by
 induction j using Nat.strongRecOn with
 | _ j ih =>
  by_cases h:j<=1
  · rw [qiz h];simp;omega
  ·
   obtain ⟨h1,h2,h3⟩:=ih (j / 2) oo;by_cases ho:j % 2=1
   · rw [qew oo ho];dsimp only;omega
   · rw [qd8 oo oo];dsimp only;omega
theorem sb_in {j:Nat} (hj:j<=4611686018427387904) (k:Nat):((sb (j / 2 ^ k)).1:Int)<=4611686018427387904/\((sb (j / 2 ^ k)).2:Int)<=4611686018427387904/\(1:Int)<=(sb (j / 2 ^ k)).1/\(1:Int)<=(sb (j / 2 ^ k)).2:=by
 obtain ⟨h1,h2,h3⟩:=qe5 (j / 2 ^ k);have:=Nat.div_le_self j (2 ^ k)
 omega
theorem qnz (j k:Nat):j / 2 ^ k / 2=j / 2 ^ (k+1):=by rw [Nat.div_div_eq_div_mul,Nat.pow_succ]
theorem qqp {j t k:Nat} (ht:2 ^ t<=j) (hk:k<=t):1<=j / 2 ^ k:=by
 have h1:2 ^ k<=2 ^ t:=Nat.pow_le_pow_right oo hk;have h2:0<2 ^ k:=Nat.pow_pos oo;exact (Nat.one_le_div_iff h2).2 (Nat.le_trans h1 ht)
theorem qaa6 {j k:Nat} (hp:1<=j / 2 ^ (k+1)):sb (j / 2 ^ k)=if j / 2 ^ k % 2=1 then ((sb (j / 2 ^ (k+1))).1+(sb (j / 2 ^ (k+1))).2,(sb (j / 2 ^ (k+1))).2) else ((sb (j / 2 ^ (k+1))).1,(sb (j / 2 ^ (k+1))).1+(sb (j / 2 ^ (k+1))).2):=by
 have h:=qnz j k;have h2:1<j / 2 ^ k:=oo
 split
 · next ho=>rw [qew h2 ho,h]
 · next ho=>rw [qd8 h2 oo,h]
theorem qvh {j t:Nat} (h1:2 ^ t<=j) (h2:j<2 ^ (t+1)):sb (j / 2 ^ t)=(1,1):=by
 apply qiz;have h3:0<2 ^ t:=Nat.pow_pos oo;have:j / 2 ^ t<2:=by rw [Nat.div_lt_iff_lt_mul h3];rw [Nat.pow_succ] at h2;omega
 omega
theorem qs7 (j k:Nat) (hj:j<9223372036854775808):bits BinOp.and IntKind.i64 ((j:Int) / 2 ^ k) 1=((j / 2 ^ k % 2:Nat):Int):=by
 have h:((j:Int) / 2 ^ k)=((j / 2 ^ k:Nat):Int):=by simp
 rw [h];exact and_one _ (Nat.lt_of_le_of_lt (Nat.div_le_self _ _) hj)
end Go.Proofs.YtmdlbpibipnapaaGreat
namespace Go.Proofs
open Go.Shelf
def Tryz.lays125_ren : Go.Shelf.Ren := ⟨fun | 125 => 24 | 128 => 46 | 129 => 47 | n => n, fun | 46 => 58 | 3 => 3 | 51 => 107 | 53 => 104 | 4 => 4 | 5 => 5 | 9 => 9 | n => n, fun | n => n⟩
theorem Tryz.lays125 : Go.Proofs.Lays.n125 Tryz.prog Tryz.lays125_ren := {
  mixed := by kernel_rfl
  f125 := Tryz.func24.trans (congrArg some (by kernel_rfl))
  f128 := Tryz.func46.trans (congrArg some (by kernel_rfl))
  f129 := Tryz.func47.trans (congrArg some (by kernel_rfl))
  t3 := Tryz.underlying3
  a3 := Tryz.isAgg3
  z3 := Tryz.sizeOf3
  v3 := Tryz.zeroValue3
  t4 := Tryz.underlying4
  a4 := Tryz.isAgg4
  z4 := Tryz.sizeOf4
  v4 := Tryz.zeroValue4
  t5 := Tryz.underlying5
  a5 := Tryz.isAgg5
  z5 := Tryz.sizeOf5
  v5 := Tryz.zeroValue5
  t9 := Tryz.underlying9
  a9 := Tryz.isAgg9
  z9 := Tryz.sizeOf9
  v9 := Tryz.zeroValue9
  t46 := Tryz.underlying58
  a46 := Tryz.isAgg58
  z46 := Tryz.sizeOf58
  v46 := Tryz.zeroValue58
  t51 := Tryz.underlying107
  a51 := Tryz.isAgg107
  z51 := Tryz.sizeOf107
  v51 := Tryz.zeroValue107
  t53 := Tryz.underlying104
  a53 := Tryz.isAgg104
  z53 := Tryz.sizeOf104
  v53 := Tryz.zeroValue104 }
end Go.Proofs
namespace Go.Proofs.YtmdlbpibipnapaaGreat
theorem qx4 (x:Nat) (w:World) (h1:x<=18446744073709551615) :
  Calls Tryz.prog 24 #[.int .u64 x] w fun e w'=>e=.returned (.int .i64 (Lib.bitLen x:Int))/\w'=w:=by
 have:=Any.bits_Len Tryz.lays125 (x:Int) w oo oo;rw [Int.toNat_natCast] at this;exact this
end Go.Proofs.YtmdlbpibipnapaaGreat
namespace Go.Proofs.YtmdlbpibipnapaaGreat
open Go.RowKit
def posQ (j:Nat):Bool × Nat × Nat:=qak false (sb j).1 (sb j).2
theorem qyl {j:Nat} (h0:0<j) (h1:j<=4611686018427387904):∃ t,Lib.bitLen j=t+1/\t<=62/\2 ^ t<=j/\j<2 ^ (t+1):=by
 obtain ⟨h2,h3,h4⟩:=Lib.bitLenAux_bounds 64 j oo oo
 change 1<=Lib.bitLen j at h2
 change 2 ^ (Lib.bitLen j-1)<=j at h3
 change j<2 ^ Lib.bitLen j at h4
 obtain ⟨t,ht⟩:∃ t,Lib.bitLen j=t+1:=⟨Lib.bitLen j-1,oo⟩
 rw [ht] at h3 h4;refine ⟨t,ht,?_,by simpa using h3,h4⟩;rcases Nat.lt_or_ge 62 t with h5 | h5
 ·
  exfalso;have h6:2 ^ 63<=2 ^ t:=Nat.pow_le_pow_right oo h5;have h7:2 ^ t<=j:=by simpa using h3
  have:(2:Nat) ^ 63=9223372036854775808:=by decide
  omega
 · exact h5
theorem qin (j:Nat) (w:World) (h0:0<j) (h1:j<=4611686018427387904) :
  Calls Tryz.prog 11 #[.int .i64 j] w (RetF (posQ j) w):=by
 obtain ⟨t,hb,ht,hlo,hhi⟩:=qyl h0 h1;have CL:=fun W=>qx4 j W oo
 rw [hb] at CL;have CF:=fun W=>qvy ((sb j).1:Int) ((sb j).2:Int) W (by have:=sb_in h1 0;simp at this;unfold InInt;omega) (by have:=sb_in h1 0;simp at this;unfold InInt;omega) (by have:=sb_in h1 0;simp at this;omega)
 have hs:=sb_in h1;have hn1:∀ x:Nat,decide ((x:Int)<0)=false:=fun x=>by rw [decide_eq_false_iff_not];omega
 simp only [hn1,Int.natAbs_natCast] at CF;have hq:qak (false != false) (sb j).1 (sb j).2=posQ j:=rfl;rw [hq] at CF;obtain ⟨q,hq2⟩:=nm (posQ j)
 rw [hq2] at CF ⊢;obtain ⟨s,N,D⟩:=q;unfold RetF at CF ⊢;dsimp only at CF ⊢;have HLO:=Hd hlo;have HHI:=Hd hhi;have HS:=Hd hs;replace CL:=Hd CL;replace CF:=Hd CF;have hz:Blk (w.alloc (.cells #[.bool false,.slice none 0 0,.slice none 0 0] 32)) w.heap.size 32 #[.bool false,.slice none 0 0,.slice none 0 0]:=Blk.new w _ _;have hb0:Below w.heap.size w (w.alloc (.cells #[.bool false,.slice none 0 0,.slice none 0 0] 32)):=brf.alloc (nlr _) _;have hj2:(j:Int)<=4611686018427387904:=oo
 have hwr:IntKind.u64.wrap (j:Int)=(j:Int):=by rw [IntKind.wrap_u64];omega
 clear hq2 hn1 hs hlo hhi hb hq;go_enter Tryz.func11,Tryz.ntmps11;go_wp2_with fail;revert hz hb0;generalize w.alloc (.cells #[.bool false,.slice none 0 0,.slice none 0 0] 32)=w0;intro hz hb0;refine (CL.out _).mono ?_;rintro e w1 ⟨rfl,rfl⟩;go_wp2
 go_loopg [3,4,5] t (fun g x y i wr=>g<=t/\i=.int .i64 ((g:Int)-1)/\x=.int .i64 ((sb (j / 2 ^ g)).1:Int)/\y=.int .i64 ((sb (j / 2 ^ g)).2:Int)/\wr=w1)
 case atStart =>
  refine ⟨nlr _,?_,?_,?_,rfl⟩
  · exact qd7 oo
  · rw [qvh HLO.out HHI.out];rfl
  · rw [qvh HLO.out HHI.out];rfl
 case round =>
  obtain ⟨hg,rfl,rfl,rfl,rfl⟩:=hrel;by_cases h0':gk=0
  ·
   subst h0';have e0:j / 2 ^ 0=j:=by rw [Nat.pow_zero,Nat.div_one]
   rw [e0];clear e0;go_wp2_with fail;refine (CF.out _).mono ?_;rintro e w2 ⟨a3,c3,a4,c4,rfl,hV3,hV4,hb3⟩;have hw3:=bth hb0 hb3;have hz3:=hz.below' hb3;have HV3:=Hd hV3;have HV4:=Hd hV4;have hs2:=hb0.size;have hgl2:=hz.lt;obtain ⟨z0,z1,z2⟩:=cq3 hz3;obtain ⟨f0,f1,f2⟩:=fq3 hz3;clear hV3 hV4 hz;go_wp2;have hF:=blk3 (x:=.bool s) (y:=.slice a3 (limbs N).length c3) (z:=.slice a4 (limbs D).length c4) hz3;obtain ⟨e0,e1,e2⟩:=cq3 hF;refine bodyPost_ret (v:=.agg #[.bool s,.slice a3 (limbs N).length c3,.slice a4 (limbs D).length c4]) (by simp [results,Tryz.results11,go_sem,e0,e1,e2]) rfl ?_;exact ⟨a3,c3,a4,c4,rfl,fun V hV=>HV3.out V (back3 hV hs2 hgl2),fun V hV=>HV4.out V (back3 hV hs2 hgl2),qbu hw3 (nlr _)⟩
  ·
   obtain ⟨k,rfl⟩:∃ k,gk=k+1:=⟨gk-1,oo⟩
   have e1:(((k+1:Nat):Int)-1)=(k:Int):=oo
   rw [e1];have hd:=qs7 j k oo;have hk62:(k:Int)<=62:=oo
   have hst:=qaa6 (qqp HLO.out hg);obtain ⟨b1,b2,b3,b4⟩:=HS.out (k+1);obtain ⟨c1,c2,_,_⟩:=HS.out k;have HK:=Hd (show k<=t by omega);revert hd hst b1 b2 b3 b4 c1 c2;generalize (sb (j / 2 ^ (k+1))).1=x;generalize (sb (j / 2 ^ (k+1))).2=y;intro hd hst b1 b2 b3 b4 c1 c2;rw [hst] at c1 c2;have HST:=Hd hst;clear e1 h0' hg hst;by_cases ho:j / 2 ^ k % 2=1
   ·
    rw [ho] at hd;rw [if_pos ho] at c1 c2;dsimp only at c1 c2;have HO:=Hd ho;clear ho;go_wp2;go_roundg k
    case measure=>omega
    case rel=>exact ⟨HK.out,by simp,by rw [HST.out,if_pos HO.out];rfl,by rw [HST.out,if_pos HO.out],rfl⟩
   ·
    have ho2:j / 2 ^ k % 2=0:=oo
    rw [ho2] at hd;rw [if_neg ho] at c1 c2;dsimp only at c1 c2;have HO:=Hd ho;clear ho ho2;go_wp2;go_roundg k
    case measure=>omega
    case rel=>exact ⟨HK.out,by simp,by rw [HST.out,if_neg HO.out],by rw [HST.out,if_neg HO.out];exact qd7 (by dsimp only;omega),rfl⟩
end Go.Proofs.YtmdlbpibipnapaaGreat
