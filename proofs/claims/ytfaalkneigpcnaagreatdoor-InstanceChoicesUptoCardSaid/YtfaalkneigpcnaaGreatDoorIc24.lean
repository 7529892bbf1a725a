/- Walk: the reference's Of (layer 21). -/
import Derived.Test.YtfaalkneigpcnaaGreatDoorIc23
import Derived.Test.YtfaalkneigpcnaaGreatDoorIc22
set_option linter.all false
set_option maxRecDepth 100000
set_option maxHeartbeats 4000000
namespace Go.Proofs.YtfaalkneigpcnaaGreatDoor
open Go.RowKit
theorem qq2 (l:List Step) (i:Nat) (s:Step) (a:Option Addr) (c:Nat) (w:World) (h:qco w a c l) (hs:l[i]? = some s) (hq:s.ratio.few) :
  Calls Tryz.prog 82 #[.slice a l.length c,.int .i64 i] w fun e w'=>e=.returned (.int .i64 (qbi l s i))/\Below w.heap.size w w':=by
 have hlen:=h.len;have hcap0:=h.1;have hcm0:=h.2.1;have hi:=qas hs;obtain ⟨b,off,rfl,p,hC,hP,hkind,hpt⟩:=h.2.2 i s hs;obtain ⟨kind,point,args,r⟩:=s;obtain ⟨aa,ac,na,nc,da,dc⟩:=p;obtain ⟨hI,hN,hD⟩:=hP;dsimp only at hI hN hD hq hkind hpt;obtain ⟨c0,c1,c2,c3,c4,c5⟩:=hC;dsimp only at c0 c1 c2 c3 c4 c5;obtain ⟨res,hres⟩:∃ x,qbi l ⟨kind,point,args,r⟩ i=x:=⟨_,rfl⟩
 rw [hres];unfold qbi at hres;dsimp only at hres;have CA:=qq1 kind;have hA:=qjg kind;have CR:=fun W (hW:Below w.heap.size w W)=>qjm r na nc da dc W (hN.ext (xbw hW)) (hD.ext (xbw hW)) hq.1 hq.2
 have CN:=fun W=>qtk r na nc da dc W hq.1 hq.2
 have CI:=fun W=>qp9 point W hpt
 have CB:=fun W (hW:Below w.heap.size w W) (g:Nat)=>qqn args i g aa ac W (hI.ext (xbw hW))
 have CS:=fun W (hW:Below w.heap.size w W) (g:Nat)=>qph (l.take i) point g (some ⟨b,off,none⟩) c W (qco.ext (SlR.taken h i) (xbw hW))
 have htl:(l.take i).length=i:=by simp;omega
 rw [htl] at CS;have hlena:=hI.len;have hk0:=held c0;have hk1:=held c1;have hk2:=held c2;have hk3:=held c3;have hk4:=held c4;have hk5:=held c5;have hbl:b<w.heap.size:=World.block_lt_of_cell? w _ c0;revert CA hA hres CR CN CI CB CS;generalize qbc kind=ar;generalize r.right=br;generalize r.none=bn;generalize qbt point=bi;generalize args.any (qa3 i)=bb;generalize ((l.take i).any fun t=>decide (t.point=point))=bs;intro hres CA hA CR CN CI CB CS;replace CA:=Hd CA;replace CR:=Hd CR;replace CN:=Hd CN;replace CI:=Hd CI;replace CB:=Hd CB;replace CS:=Hd CS;have HRES:=Hd hres;obtain ⟨hk1',hk2'⟩:=hkind;obtain ⟨neg,num,den⟩:=r;unfold Rt.val at CR CN;dsimp only at CR CN c0 c1 c2 c3 c4 c5 hk3 hk4 hk5 ⊢;unfold maxLen at hcm0;have hii:(i:Int)<=(c:Int):=by omega
 have hic:i<=c:=by omega
 clear hres hI hN hD hq h hs htl;have hz:Blk ((w.alloc (.cells #[.int .i64 (i:Int)] 3)).alloc (.cells #[.int .i64 kind,.string point,.slice aa args.length ac,.bool neg,.slice na num.length nc,.slice da den.length dc] 53)) (w.heap.size+1) 53 #[.int .i64 kind,.string point,.slice aa args.length ac,.bool neg,.slice na num.length nc,.slice da den.length dc]:=qa4 w _ _ _;have hzi:Blk ((w.alloc (.cells #[.int .i64 (i:Int)] 3)).alloc (.cells #[.int .i64 kind,.string point,.slice aa args.length ac,.bool neg,.slice na num.length nc,.slice da den.length dc] 53)) w.heap.size 3 #[.int .i64 (i:Int)]:=(Blk.new w _ _).alloc _;have hb0:Below w.heap.size w ((w.alloc (.cells #[.int .i64 (i:Int)] 3)).alloc (.cells #[.int .i64 kind,.string point,.slice aa args.length ac,.bool neg,.slice na num.length nc,.slice da den.length dc] 53)):=(brf.alloc (nlr _) _).alloc (by simp) _;go_enter Tryz.func82,Tryz.ntmps82
 go_wp2_with fail;revert hz hzi hb0;generalize (w.alloc (.cells #[.int .i64 (i:Int)] 3)).alloc (.cells #[.int .i64 kind,.string point,.slice aa args.length ac,.bool neg,.slice na num.length nc,.slice da den.length dc] 53)=w0;intro hz hzi hb0;refine (CA.out _).mono ?_;rintro e w' ⟨rfl,rfl⟩;obtain ⟨z0,z1,z2,z3,z4,z5⟩:=cq6 hz;have zi:=hzi.cell 0;clear c0 c1 c2 c3 c4 c5 hk0 hk1 hk2 hk3 hk4 hk5;by_cases h0:ar<0
 ·
  have he:decide (ar<0)=true:=by simpa using h0
  have hr:res=8:=by rw [<- HRES.out,if_pos h0]
  subst hr;clear h0;go_wp2;go_ret;exact ⟨rfl,hb0⟩
 have he:decide (ar<0)=false:=by simpa using h0
 have HR1:=HRES.out;rw [if_neg h0] at HR1;replace HR1:=Hd HR1;clear h0 HRES;by_cases h1:(args.length:Int)=ar
 case neg =>
  have he1:((args.length:Int) != ar)=true:=by simpa using h1
  have hr:res=1:=by rw [<- HR1.out,if_pos h1]
  subst hr;clear h1;go_wp2;go_ret;exact ⟨rfl,hb0⟩
 have he1:((args.length:Int) != ar)=false:=by simpa using h1
 have HR2:=HR1.out;rw [if_neg (by simpa using h1)] at HR2;replace HR2:=Hd HR2;clear h1 HR1;have CB2:=CB.out w0 hb0 w.heap.size zi;replace CB2:=Hd CB2;clear CB
 cases bb
 case true =>
  have hr:res=2:=by rw [<- HR2.out,if_pos rfl]
  subst hr;go_wp2_with fail;refine CB2.out.mono ?_;rintro e w1 ⟨rfl,rfl⟩;go_wp2;go_ret;exact ⟨rfl,hb0⟩
 have HR3:=HR2.out;rw [if_neg (by simp)] at HR3;replace HR3:=Hd HR3;clear HR2;go_wp2_with fail;refine CB2.out.mono ?_;rintro e w1 ⟨rfl,rfl⟩;clear CB2 CA;by_cases hb2:kind=2/\br=false
 ·
  obtain ⟨hk2,rfl⟩:=hb2;have hr:res=1:=by rw [<- HR3.out,if_pos ⟨hk2,rfl⟩]
  subst hr;have hke:(kind==2)=true:=by simpa using hk2
  have hkn:(kind != 2)=false:=by simpa using hk2
  clear hk2;go_wp2_with fail;refine (CR.out _ hb0).mono ?_;rintro e w2 ⟨rfl,hb2⟩;have hb3:=bth hb0 hb2;go_wp2;go_ret;exact ⟨rfl,hb3⟩
 ·
  by_cases hb2':kind≠2/\bn=false
  ·
   have hr:res=1:=by rw [<- HR3.out,if_neg hb2,if_pos hb2']
   subst hr;obtain ⟨hk2,rfl⟩:=hb2';have hke:(kind==2)=false:=by simpa using hk2
   have hkn:(kind != 2)=true:=by simpa using hk2
   clear hk2 hb2;go_wp2_with fail;refine (CN.out _).mono ?_;rintro e w2 ⟨rfl,hb2⟩;have hb3:=bth hb0 hb2;go_wp2;go_ret;exact ⟨rfl,hb3⟩
  ·
   have hgood:(kind=2/\br=true)\/(kind≠2/\bn=true):=by
    by_cases hk2:kind=2
    ·
     left;refine ⟨hk2,?_⟩;cases br
     · exact absurd ⟨hk2,rfl⟩ hb2
     · rfl
    ·
     right;refine ⟨hk2,?_⟩;cases bn
     · exact absurd ⟨hk2,rfl⟩ hb2'
     · rfl
   have HR4:=HR3.out;rw [if_neg hb2,if_neg hb2'] at HR4;replace HR4:=Hd HR4;clear hb2 hb2' HR3;rcases hgood with ⟨hk2,rfl⟩ | ⟨hk2,rfl⟩
   all_goals
    first
     | have hke:(kind==2)=true:=by simpa using hk2
     | have hke:(kind==2)=false:=by simpa using hk2
    first
     | have hkn:(kind != 2)=false:=by simpa using hk2
     | have hkn:(kind != 2)=true:=by simpa using hk2
    clear hk2;go_wp2_with fail
    first
     | refine (CR.out _ hb0).mono ?_
     | refine (CN.out _).mono ?_
    rintro e w2 ⟨rfl,hb2⟩;have hz2:=hz.below' hb2;have hzi2:=hzi.below' hb2;have hw2:=bth hb0 hb2;clear hb2 z0 z1 z2 z3 z4 z5 zi hz hzi hb0 CR CN;obtain ⟨z0,z1,z2,z3,z4,z5⟩:=cq6 hz2;have zi:=hzi2.cell 0;by_cases hpe:point=⟨#[]⟩
    ·
     have hr:res=0:=by rw [<- HR4.out,if_pos hpe]
     subst hr;subst hpe;go_wp2;go_ret;exact ⟨rfl,hw2⟩
    ·
     have hse:point.toList.isEmpty=false:=by rw [qc9];simpa using hpe
     have HR5:=HR4.out;rw [if_neg hpe] at HR5;replace HR5:=Hd HR5;clear hpe HR4
     cases bi
     ·
      have hr:res=6:=by rw [<- HR5.out,if_pos rfl]
      subst hr;go_wp2_with fail;refine (CI.out _).mono ?_;rintro e w3 ⟨rfl,hb3⟩;have hw3:=bth hw2 hb3;go_wp2;go_ret;exact ⟨rfl,hw3⟩
     ·
      have HR6:=HR5.out;rw [if_neg (by simp)] at HR6;replace HR6:=Hd HR6;clear HR5;go_wp2_with fail;refine (CI.out _).mono ?_;rintro e w3 ⟨rfl,hb3⟩;have hw3:=bth hw2 hb3;have hz3:=hz2.below' hb3;have hzi3:=hzi2.below' hb3;clear hb3 z0 z1 z2 z3 z4 z5 zi hz2 hzi2 hw2 CI;have z1:=hz3.cell 1;have zi:=hzi3.cell 0;have CS2:=CS.out w3 hw3 (w.heap.size+1) z1;replace CS2:=Hd CS2;clear CS;go_wp2_with fail;refine CS2.out.mono ?_;rintro e w4 ⟨rfl,hb4⟩;have hw4:=bth hw3 hb4
      cases bs
      ·
       have hr:res=0:=by rw [<- HR6.out,if_neg (by simp)]
       subst hr;go_wp2;go_ret;exact ⟨rfl,hw4⟩
      ·
       have hr:res=7:=by rw [<- HR6.out,if_pos rfl]
       subst hr;go_wp2;go_ret;exact ⟨rfl,hw4⟩
theorem qg7 {l:List Step} {r:List Step} {s:Step} {k:Nat} (h:r[k]? = some s):qbe l (r.drop k) k=if qbi l s k≠0 then qbi l s k else qbe l (r.drop (k+1)) (k+1):=by
 have hk:=qas h;rw [List.drop_eq_getElem_cons hk];have:r[k]=s:=by rw [List.getElem?_eq_getElem hk] at h;exact Option.some.inj h
 rw [this,qbe]
theorem qg3 {n:Int} {r:List Fct} {s:Fct} {k:Nat} (h:r[k]? = some s):qcb n (r.drop k)=if qcn s n≠0 then qcn s n else qcb n (r.drop (k+1)):=by
 have hk:=qas h;rw [List.drop_eq_getElem_cons hk];have:r[k]=s:=by rw [List.getElem?_eq_getElem hk] at h;exact Option.some.inj h
 rw [this,qcb]
theorem qf6 (f:Fig) (sa:Option Addr) (sc:Nat) (ga:Option Addr) (gc:Nat) (w:World) (h:FigR w sa sc ga gc f) (hq:f.few) :
  Calls Tryz.prog 36 #[f.val sa sc ga gc] w fun e w'=>e=.returned (.int .i64 f.err)/\Below w.heap.size w w':=by
 obtain ⟨steps,goals⟩:=f;obtain ⟨hS,hG⟩:=h;dsimp only at hS hG;have hl1:=hS.len;have hl2:=hG.len;obtain ⟨res,hres⟩:∃ x,Fig.err ⟨steps,goals⟩=x:=⟨_,rfl⟩
 rw [hres];unfold Fig.err at hres;unfold Fig.val;dsimp only at hres ⊢;have HS:=Hd hS;have HG:=Hd hG;have HQ:=Hd hq;have HRES:=Hd hres;clear hS hG hq hres;have hz:=Blk.new w 25 #[.slice sa steps.length sc,.slice ga goals.length gc];have hb0:Below w.heap.size w (w.alloc (.cells #[.slice sa steps.length sc,.slice ga goals.length gc] 25)):=brf.alloc (nlr _) _;by_cases hbig:40<steps.length\/8<goals.length
 ·
  have hr:res=4:=by rw [<- HRES.out,if_pos hbig]
  subst hr;clear hz;by_cases h1:40<steps.length
  ·
   clear hbig;go_enter Tryz.func36,Tryz.ntmps36;go_wp2;go_ret;exact ⟨rfl,hb0⟩
  ·
   have h2:8<goals.length:=by omega
   clear hbig;go_enter Tryz.func36,Tryz.ntmps36;go_wp2;go_ret;exact ⟨rfl,hb0⟩
 ·
  have h1:steps.length<=40:=by omega
  have h2:goals.length<=8:=by omega
  have HR1:=HRES.out;rw [if_neg hbig] at HR1;replace HR1:=Hd HR1;clear hbig HRES;go_enter Tryz.func36,Tryz.ntmps36;go_wp2;revert hz hb0;generalize w.alloc (.cells #[.slice sa steps.length sc,.slice ga goals.length gc] 25)=w0;intro hz hb0
  go_loopg [3,4,21] steps.length (fun g _ _ q wr=>∃ k:Nat,k+g=steps.length/\q=.int .i64 k/\Below w.heap.size w wr/\Blk wr w.heap.size 25 #[.slice sa steps.length sc,.slice ga goals.length gc]/\qbe steps (steps.drop k) k=qbe steps steps 0)
  case atStart=>exact ⟨0,by omega,rfl,hb0,hz,rfl⟩
  case round =>
   obtain ⟨k,hkg,rfl,hwr,hzr,he⟩:=hrel;have HKG:=Hd hkg;have HE:=Hd he;have HZR:=Hd hzr;obtain ⟨z0,z1⟩:=cq2 hzr;have hzl:=hzr.lt;clear hb0 hz hkg he hzr;by_cases hlt:k<steps.length
   ·
    obtain ⟨s,hs⟩:=qac hlt;have C:=qmn steps k s sa sc wr (HS.out.ext (xbw hwr)) hs (HQ.out.1 s (List.mem_of_getElem? hs));have hes:=qg7 (l:=steps) hs;rw [HE.out] at hes;revert C hes;generalize qbi steps s k=ev;intro C hes;replace C:=Hd C;have HES:=Hd hes;clear hes hs;by_cases hev:ev=0
    ·
     have hb:(ev != 0)=false:=by simpa using hev
     have HE2:=HES.out;rw [if_neg (by simpa using hev)] at HE2;replace HE2:=Hd HE2;clear hev HES HE;go_wp2_with fail;refine C.out.mono ?_;rintro e w2 ⟨rfl,hb2⟩;have hw2:=bth hwr hb2;have hz2:=HZR.out.below' hb2;clear hb2 C;go_wp2;go_roundg (gk-1)
     case rel=>exact ⟨k+1,by have:=HKG.out;omega,by go_num,hw2,hz2,HE2.out.symm⟩
     case measure=>have:=HKG.out;omega
    ·
     have hb:(ev != 0)=true:=by simpa using hev
     have hr:res=ev:=by
      have h3:=HES.out;rw [if_pos hev] at h3;have:=HR1.out;rw [h3,if_pos hev] at this;exact this.symm
     subst hr;clear hev HES HE HR1;go_wp2_with fail;refine C.out.mono ?_;rintro e w2 ⟨rfl,hb2⟩;have hw2:=bth hwr hb2;clear hb2 C;go_wp2;go_ret;exact ⟨rfl,hw2⟩
   ·
    have HR2:=HR1.out;have hz3:qbe steps steps 0=0:=by
     rw [<- HE.out,List.drop_eq_nil_of_le (by omega)];rfl
    rw [if_neg (by rw [hz3];simp)] at HR2;replace HR2:=Hd HR2;obtain ⟨wo,rfl⟩:∃ wo:World,wo=wr:=⟨_,rfl⟩
    clear hz3 HR1 HE HKG;go_wp2
    go_loopg [6,7,35] goals.length (fun g _ _ q wr=>∃ k:Nat,k+g=goals.length/\q=.int .i64 k/\Below w.heap.size w wr/\Blk wr w.heap.size 25 #[.slice sa steps.length sc,.slice ga goals.length gc]/\qcb steps.length (goals.drop k)=qcb steps.length goals)
    case atStart=>exact ⟨0,by omega,rfl,hwr,HZR.out,rfl⟩
    case round =>
     clear HZR z0 z1 hzl hwr;obtain ⟨k2,hkg,rfl,hwr,hzr,he⟩:=hrel;have HKG:=Hd hkg;have HE:=Hd he;have HZR:=Hd hzr;obtain ⟨z0,z1⟩:=cq2 hzr;have hzl:=hzr.lt;clear hkg he hzr;by_cases hlt2:k2<goals.length
     ·
      obtain ⟨s,hs⟩:=qac hlt2;obtain ⟨b,off,rfl,p,hC,hP,hki⟩:=(HG.out.ext (xbw hwr)).2.2 k2 s hs;have hP':qb8 (wr.alloc (.cells #[.int .i64 s.kind,.slice p.aa s.args.length p.ac,.bool s.ratio.neg,.slice p.na s.ratio.num.length p.nc,.slice p.da s.ratio.den.length p.dc] 86)) p s.args s.ratio:=hP.ext (qc1 _ _);have C:=qol s steps.length p _ hP' (HQ.out.2 s (List.mem_of_getElem? hs)) (by constructor <;> omega) hki;obtain ⟨c0,c1,c2,c3,c4⟩:=hC;have hes:=qg3 (n:=steps.length) hs;rw [HE.out] at hes;unfold Fct.val at C;revert C hes;generalize qcn s steps.length=ev;intro C hes;replace C:=Hd C;have HES:=Hd hes;have hw1:=hwr.alloc hwr.size (.cells #[.int .i64 s.kind,.slice p.aa s.args.length p.ac,.bool s.ratio.neg,.slice p.na s.ratio.num.length p.nc,.slice p.da s.ratio.den.length p.dc] 86)
      have hz1:=HZR.out.alloc (.cells #[.int .i64 s.kind,.slice p.aa s.args.length p.ac,.bool s.ratio.neg,.slice p.na s.ratio.num.length p.nc,.slice p.da s.ratio.den.length p.dc] 86);clear hes hs hP hP' hki;by_cases hev:ev=0
      ·
       have hb:(ev != 0)=false:=by simpa using hev
       have HE2:=HES.out;rw [if_neg (by simpa using hev)] at HE2;replace HE2:=Hd HE2;clear hev HES HE;go_wp2_with fail;refine C.out.mono ?_;rintro e w2 ⟨rfl,hb2⟩;have hw2:=bth hw1 hb2;have hz2:=hz1.below' hb2;clear hb2 C;go_wp2;go_roundg (gk-1)
       case rel=>exact ⟨k2+1,by have:=HKG.out;omega,by go_num,hw2,hz2,HE2.out.symm⟩
       case measure=>have:=HKG.out;omega
      ·
       have hb:(ev != 0)=true:=by simpa using hev
       have hr:res=ev:=by
        have h3:=HES.out;rw [if_pos hev] at h3;rw [<- h3];exact HR2.out.symm
       subst hr;clear hev HES HE HR2;go_wp2_with fail;refine C.out.mono ?_;rintro e w2 ⟨rfl,hb2⟩;have hw2:=bth hw1 hb2;clear hb2 C;go_wp2;go_ret;exact ⟨rfl,hw2⟩
     ·
      have hr:res=0:=by
       have h3:=HE.out;rw [List.drop_eq_nil_of_le (by omega)] at h3;rw [<- HR2.out,<- h3];rfl
      subst hr;go_wp2;go_ret;exact ⟨rfl,hwr⟩
theorem qjy (f:Fig) (sa:Option Addr) (sc:Nat) (ga:Option Addr) (gc:Nat) (w:World) (h:FigR w sa sc ga gc f) (hq:f.few) :
  Calls Tryz.prog 39 #[f.val sa sc ga gc] w fun e w'=>e=.returned (.int .i64 f.err)/\Below w.heap.size w w':=by
 obtain ⟨steps,goals⟩:=f;obtain ⟨hS,hG⟩:=h;dsimp only at hS hG;have hl1:=hS.len;have hl2:=hG.len;obtain ⟨res,hres⟩:∃ x,Fig.err ⟨steps,goals⟩=x:=⟨_,rfl⟩
 rw [hres];unfold Fig.err at hres;unfold Fig.val;dsimp only at hres ⊢;have HS:=Hd hS;have HG:=Hd hG;have HQ:=Hd hq;have HRES:=Hd hres;clear hS hG hq hres;have hz:=Blk.new w 25 #[.slice sa steps.length sc,.slice ga goals.length gc];have hb0:Below w.heap.size w (w.alloc (.cells #[.slice sa steps.length sc,.slice ga goals.length gc] 25)):=brf.alloc (nlr _) _;by_cases hbig:40<steps.length\/8<goals.length
 ·
  have hr:res=4:=by rw [<- HRES.out,if_pos hbig]
  subst hr;clear hz;by_cases h1:40<steps.length
  ·
   clear hbig;go_enter Tryz.func39,Tryz.ntmps39;go_wp2;go_ret;exact ⟨rfl,hb0⟩
  ·
   have h2:8<goals.length:=by omega
   clear hbig;go_enter Tryz.func39,Tryz.ntmps39;go_wp2;go_ret;exact ⟨rfl,hb0⟩
 ·
  have h1:steps.length<=40:=by omega
  have h2:goals.length<=8:=by omega
  have HR1:=HRES.out;rw [if_neg hbig] at HR1;replace HR1:=Hd HR1;clear hbig HRES;go_enter Tryz.func39,Tryz.ntmps39;go_wp2;revert hz hb0;generalize w.alloc (.cells #[.slice sa steps.length sc,.slice ga goals.length gc] 25)=w0;intro hz hb0
  go_loopg [3,4,21] steps.length (fun g _ _ q wr=>∃ k:Nat,k+g=steps.length/\q=.int .i64 k/\Below w.heap.size w wr/\Blk wr w.heap.size 25 #[.slice sa steps.length sc,.slice ga goals.length gc]/\qbe steps (steps.drop k) k=qbe steps steps 0)
  case atStart=>exact ⟨0,by omega,rfl,hb0,hz,rfl⟩
  case round =>
   obtain ⟨k,hkg,rfl,hwr,hzr,he⟩:=hrel;have HKG:=Hd hkg;have HE:=Hd he;have HZR:=Hd hzr;obtain ⟨z0,z1⟩:=cq2 hzr;have hzl:=hzr.lt;clear hb0 hz hkg he hzr;by_cases hlt:k<steps.length
   ·
    obtain ⟨s,hs⟩:=qac hlt;have C:=qq2 steps k s sa sc wr (HS.out.ext (xbw hwr)) hs (HQ.out.1 s (List.mem_of_getElem? hs));have hes:=qg7 (l:=steps) hs;rw [HE.out] at hes;revert C hes;generalize qbi steps s k=ev;intro C hes;replace C:=Hd C;have HES:=Hd hes;clear hes hs;by_cases hev:ev=0
    ·
     have hb:(ev != 0)=false:=by simpa using hev
     have HE2:=HES.out;rw [if_neg (by simpa using hev)] at HE2;replace HE2:=Hd HE2;clear hev HES HE;go_wp2_with fail;refine C.out.mono ?_;rintro e w2 ⟨rfl,hb2⟩;have hw2:=bth hwr hb2;have hz2:=HZR.out.below' hb2;clear hb2 C;go_wp2;go_roundg (gk-1)
     case rel=>exact ⟨k+1,by have:=HKG.out;omega,by go_num,hw2,hz2,HE2.out.symm⟩
     case measure=>have:=HKG.out;omega
    ·
     have hb:(ev != 0)=true:=by simpa using hev
     have hr:res=ev:=by
      have h3:=HES.out;rw [if_pos hev] at h3;have:=HR1.out;rw [h3,if_pos hev] at this;exact this.symm
     subst hr;clear hev HES HE HR1;go_wp2_with fail;refine C.out.mono ?_;rintro e w2 ⟨rfl,hb2⟩;have hw2:=bth hwr hb2;clear hb2 C;go_wp2;go_ret;exact ⟨rfl,hw2⟩
   ·
    have HR2:=HR1.out;have hz3:qbe steps steps 0=0:=by
     rw [<- HE.out,List.drop_eq_nil_of_le (by omega)];rfl
    rw [if_neg (by rw [hz3];simp)] at HR2;replace HR2:=Hd HR2;obtain ⟨wo,rfl⟩:∃ wo:World,wo=wr:=⟨_,rfl⟩
    clear hz3 HR1 HE HKG;go_wp2
    go_loopg [6,7,35] goals.length (fun g _ _ q wr=>∃ k:Nat,k+g=goals.length/\q=.int .i64 k/\Below w.heap.size w wr/\Blk wr w.heap.size 25 #[.slice sa steps.length sc,.slice ga goals.length gc]/\qcb steps.length (goals.drop k)=qcb steps.length goals)
    case atStart=>exact ⟨0,by omega,rfl,hwr,HZR.out,rfl⟩
    case round =>
     clear HZR z0 z1 hzl hwr;obtain ⟨k2,hkg,rfl,hwr,hzr,he⟩:=hrel;have HKG:=Hd hkg;have HE:=Hd he;have HZR:=Hd hzr;obtain ⟨z0,z1⟩:=cq2 hzr;have hzl:=hzr.lt;clear hkg he hzr;by_cases hlt2:k2<goals.length
     ·
      obtain ⟨s,hs⟩:=qac hlt2;obtain ⟨b,off,rfl,p,hC,hP,hki⟩:=(HG.out.ext (xbw hwr)).2.2 k2 s hs;have hP':qb8 (wr.alloc (.cells #[.int .i64 s.kind,.slice p.aa s.args.length p.ac,.bool s.ratio.neg,.slice p.na s.ratio.num.length p.nc,.slice p.da s.ratio.den.length p.dc] 86)) p s.args s.ratio:=hP.ext (qc1 _ _);have C:=qqw s steps.length p _ hP' (HQ.out.2 s (List.mem_of_getElem? hs)) (by constructor <;> omega) hki;obtain ⟨c0,c1,c2,c3,c4⟩:=hC;have hes:=qg3 (n:=steps.length) hs;rw [HE.out] at hes;unfold Fct.val at C;revert C hes;generalize qcn s steps.length=ev;intro C hes;replace C:=Hd C;have HES:=Hd hes;have hw1:=hwr.alloc hwr.size (.cells #[.int .i64 s.kind,.slice p.aa s.args.length p.ac,.bool s.ratio.neg,.slice p.na s.ratio.num.length p.nc,.slice p.da s.ratio.den.length p.dc] 86)
      have hz1:=HZR.out.alloc (.cells #[.int .i64 s.kind,.slice p.aa s.args.length p.ac,.bool s.ratio.neg,.slice p.na s.ratio.num.length p.nc,.slice p.da s.ratio.den.length p.dc] 86);clear hes hs hP hP' hki;by_cases hev:ev=0
      ·
       have hb:(ev != 0)=false:=by simpa using hev
       have HE2:=HES.out;rw [if_neg (by simpa using hev)] at HE2;replace HE2:=Hd HE2;clear hev HES HE;go_wp2_with fail;refine C.out.mono ?_;rintro e w2 ⟨rfl,hb2⟩;have hw2:=bth hw1 hb2;have hz2:=hz1.below' hb2;clear hb2 C;go_wp2;go_roundg (gk-1)
       case rel=>exact ⟨k2+1,by have:=HKG.out;omega,by go_num,hw2,hz2,HE2.out.symm⟩
       case measure=>have:=HKG.out;omega
      ·
       have hb:(ev != 0)=true:=by simpa using hev
       have hr:res=ev:=by
        have h3:=HES.out;rw [if_pos hev] at h3;rw [<- h3];exact HR2.out.symm
       subst hr;clear hev HES HE HR2;go_wp2_with fail;refine C.out.mono ?_;rintro e w2 ⟨rfl,hb2⟩;have hw2:=bth hw1 hb2;clear hb2 C;go_wp2;go_ret;exact ⟨rfl,hw2⟩
     ·
      have hr:res=0:=by
       have h3:=HE.out;rw [List.drop_eq_nil_of_le (by omega)] at h3;rw [<- HR2.out,<- h3];rfl
      subst hr;go_wp2;go_ret;exact ⟨rfl,hwr⟩
def qjk (X:Nat->Prop) (x:Frm) (e:Ending) (w':World):Prop:=∃ (hs:List (VQ × Vec)) (ra va:Option Addr) (rc vc B:Nat),e=.returned (.tuple #[.agg #[.slice ra hs.length rc,.slice va x.vars.length vc],.int .i64 0])/\hs.map Prod.snd=x.coords/\OwnCo B w' ra rc hs/\OwnVr B w' va vc x.vars/\AllV X w' hs
theorem qm7 {a:Option Addr} {n c k:Nat} (h:∀ g:Addr,a=some g->g.block≠k):some k≠Value.ownBlock (.slice a n c):=fun e=>by
 cases a with
 | none=>simp [Value.ownBlock] at e
 | some p=>simp [Value.ownBlock] at e;exact h p rfl e.symm
def Cl3 (p q r:Addr) (u v x:Value) (W:World):Prop:=W.cell? p=some u/\W.cell? q=some v/\W.cell? r=some x
theorem Cl3.alloc {p q r:Addr} {u v x:Value} {W:World} (h:Cl3 p q r u v x W) {o:Obj}:Cl3 p q r u v x (W.alloc o) :=
 ⟨(qc1 W o) _ _ h.1,(qc1 W o) _ _ h.2.1,(qc1 W o) _ _ h.2.2⟩
theorem zz66 {P:Prop} (h:P:=by
 rw [if_pos hb1] at hst2;subst hst2;clear hB4 hV4;obtain ⟨y0,y1⟩:=cq2 hz4;obtain ⟨f0,f1⟩:=fq2 hz4;go_wp2;refine qab (fun W=>Blk W g2 58 #[.slice none 0 0,.slice none 0 0]/\Below w.heap.size w W) ⟨by ((with_reducible repeat first|assumption|(apply bF;focus omega)|apply bS|(apply bN;focus (simp;done))|apply bA|apply bD);all_goals rfl),by go_grown⟩ ?_;rintro wF ⟨hF4,hwF⟩;obtain ⟨e0,e1⟩:=cq2 hF4;refine bodyPost_ret (v:=.tuple #[.agg #[.slice none 0 0,.slice none 0 0],.int .i64 4]) (by simp [results,Tryz.results19,go_sem,e0,e1]) rfl ?_;exact ⟨hwF,rfl⟩
 ):P:=h
theorem qsj (X:Nat->Prop) (f:Fig) (sa:Option Addr) (sc:Nat) (ga:Option Addr) (gc:Nat) (W0 w:World) (h:FigR W0 sa sc ga gc f) (hW0:Below W0.heap.size W0 w) (hq:f.few) (he:f.err=0) (hX:∀ b,X b->W0.heap.size<=b/\b<w.heap.size) (hr:∀ s∈f.steps,s.kind=2->s.ratio.short=true) :
  Calls Tryz.prog 19 #[f.val sa sc ga gc] w fun e w'=>Below w.heap.size w w'/\match qb3 ⟨[],[],0⟩ 0 f.steps with
   | some x=>qjk X x e w'
   | none=>e=.returned (.tuple #[.agg #[.slice none 0 0,.slice none 0 0],.int .i64 4]):=by
 obtain ⟨hl,hS⟩:=qdx he;have C:=fun W (hW:Below w.heap.size w W)=>qjy f sa sc ga gc W ⟨h.1.ext (xbw (bth hW0 hW)),h.2.ext (xbw (bth hW0 hW))⟩ hq
 rw [he] at C;unfold Fig.val at C ⊢;have HS:=Hd h.1;replace hS:=Hd hS;replace C:=Hd C;have HX:=Hd hX;have HW:=Hd hW0;replace hr:=Hd hr;clear h hq he hX hW0;obtain ⟨res,hres⟩:∃ res,qb3 ⟨[],[],0⟩ 0 f.steps=res:=⟨_,rfl⟩
 rw [hres];replace hres:=Hd hres;obtain ⟨steps,goals⟩:=f;dsimp only at HS hS C hl hr hres ⊢;go_enter Tryz.func19,Tryz.ntmps19;go_wp2_with fail;refine qad (fun W=>Blk W w.heap.size 25 #[.slice sa steps.length sc,.slice ga goals.length gc]/\Blk W (w.heap.size+1) 58 #[.slice none 0 0,.slice none 0 0]/\Below w.heap.size w W) (by refine ⟨?_,?_,?_⟩<;>first|((with_reducible repeat first|assumption|(apply bF;focus omega)|apply bS|(apply bN;focus (simp;done))|apply bA|apply bD);all_goals rfl)|go_grown) ?_;rintro w0 ⟨hF,hz,hw0⟩;refine (C.out w0 hw0).mono ?_;rintro e w1 ⟨rfl,hb1⟩;have hw1:=bth hw0 hb1;replace hF:=hF.below' hb1;replace hz:=hz.below' hb1;obtain ⟨z0,z1⟩:=cq2 hF;have hzl:=hz.lt;have hfl:=hF.lt;clear hw0 hb1;go_wp2
 refine qab (fun W=>Blk W w.heap.size 25 #[.slice sa steps.length sc,.slice ga goals.length gc]/\Blk W (w.heap.size+1) 58 #[.slice none 0 0,.slice none 0 0]/\Blk W w1.heap.size 90 #[.slice none 0 0,.slice none 0 0,.int .i64 0]/\Below w.heap.size w W) (by refine ⟨?_,?_,?_,?_⟩<;>first|((with_reducible repeat first|assumption|(apply bF;focus omega)|apply bS|(apply bN;focus (simp;done))|apply bA|apply bD);all_goals rfl)|go_grown) ?_;rintro w2 ⟨hF2,hz2,hB2,hw2⟩;obtain ⟨gB,hgB⟩:∃ g,g=w1.heap.size:=⟨_,rfl⟩
 obtain ⟨g2,hg2⟩:∃ g,g=w.heap.size+1:=⟨_,rfl⟩
 have hwg:w.heap.size+1<w1.heap.size:=hzl;rw [<- hgB] at hB2 ⊢;rw [<- hg2] at hz2 ⊢;have hgw:w.heap.size<=g2:=by omega
 have hgg:g2<gB:=by omega
 have hgl:=hz2.lt;replace hgB:=Hd hgB;replace hg2:=Hd hg2;clear hF hz z0 z1 hzl hfl hwg hw1
 go_loopg [6,7,8,20] steps.length (fun m _ _ _ q wr=>∃ (k:Nat) (x:Frm) (hs:List (VQ × Vec)) (ra va:Option Addr) (rc vc D M:Nat),Hid (k+m=steps.length)/\q=.int .i64 k/\Below w.heap.size w wr/\Blk wr g2 58 #[.slice none 0 0,.slice none 0 0]/\Hid (Bst (Xg X g2) wr gB x hs ra rc va vc)/\Hid (FrmOk k D M x)/\Hid (qb3 x k (steps.drop k)=res))
 case atStart=>exact ⟨0,⟨[],[],0⟩,[],none,none,0,0,1,1,by show _=_;omega,rfl,hw2,hz2,⟨rfl,hB2,Own.nil,Own.nil,fun z hz=>by cases hz⟩,by simp [FrmOk,Hid],hres.out⟩
 case round =>
  obtain ⟨k,x,hs,ra,va,rc,vc,D,M,hm,rfl,hwr,hzr,hB,hok,hst⟩:=hrel;by_cases hlt:k<steps.length
  ·
   obtain ⟨s,hs_⟩:=qac hlt;have hsi:=hS.out k s hs_;have hsr:=hr.out s (List.mem_of_getElem? hs_);obtain ⟨b,o,rfl,p,hC,hP,hin,hsz⟩:=HS.out.2.2 k s hs_;have hl0:=HS.out.len;have hwr0:=bth HW.out hwr;obtain ⟨c0,c1,c2,c3,c4,c5⟩:=hC;have d0:=held c0 wr hwr0;have d1:=held c1 wr hwr0;have d2:=held c2 wr hwr0;have d3:=held c3 wr hwr0;have d4:=held c4 wr hwr0;have d5:=held c5 wr hwr0;replace hsi:=Hd hsi;replace hsr:=Hd hsr;replace hP:=Hd hP;replace hin:=Hd hin;replace hs_:=Hd hs_;clear c0 c1 c2 c3 c4 c5;go_wp2_with fail;refine qad (fun W=>Below wr.heap.size wr W) (by go_grown) ?_;intro w3 hb3;have hgl3:g2<w3.heap.size:=ltl hzr.lt hb3.size;have hwW:=bth hwr0 hb3;have hBW:=hB.out.call hb3;have hge:=hBW.ge;have hYge:∀ b,Yz (Xg X g2) gB ra va b->W0.heap.size<=b:=fun b hb=>by
    have:=HW.out.size;rcases hb with hb | hb | rfl
    · have:=hge b hb;omega
    · exact (HX.out b hb).1
    · omega
   have hI:Rd (Yz (Xg X g2) gB ra va) w3 fun V=>IntsR V p.aa p.ac s.args:=(Rd.arg (w:=W0) (fun V e=>hP.out.1.ext e) hYge).call hwW
   have hx:s.kind=2->Rd (Yz (Xg X g2) gB ra va) w3 fun V=>QAc V ⟨s.ratio.neg,s.ratio.num.length,p.na,p.nc,s.ratio.den.length,p.da,p.dc⟩ s.ratio.q:=fun hk=>(Rd.arg (w:=W0) (fun V e=>(RtZ.sk (r:=s.ratio) ⟨rfl,rfl,rfl,(hP.out.2.1).ext e,(hP.out.2.2).ext e⟩ (hsr.out hk)).1) hYge).call hwW
   have hqb:s.kind=2->s.ratio.q.num.natAbs<=2 ^ 32/\s.ratio.q.den<=2 ^ 32:=fun hk=>by
    have h2:=(RtZ.sk (show RtZ W0 s.ratio ⟨s.ratio.neg,s.ratio.num.length,p.na,p.nc,s.ratio.den.length,p.da,p.dc⟩ from ⟨rfl,rfl,rfl,hP.out.2.1,hP.out.2.2⟩) (hsr.out hk)).2;have e1:=qbb s.ratio.q;have e2:=qba s.ratio.q;exact ⟨Nat.le_of_lt (ltl (qa1 _) (Nat.le_trans (Nat.pow_le_pow_right (by decide) (Nat.le_trans e1 h2)) (by decide))),Nat.le_of_lt (ltl (qa1 _) (Nat.le_trans (Nat.pow_le_pow_right (by decide) (Nat.le_trans e2 h2)) (by decide)))⟩
   have hX3:∀ b,Xg X g2 b->b<w3.heap.size:=fun b hb=>hb.elim (fun h=>by have:=(HX.out b h).2;have:=hwr.size;have:=hb3.size;omega) fun e=>by rw [e];exact hgl3
   have CS:=qu6 (Xg X g2) gB x hs ra va rc vc s.point p.aa p.ac ⟨s.ratio.neg,s.ratio.num.length,p.na,p.nc,s.ratio.den.length,p.da,p.dc⟩ k D M w3 hBW hX3 hok.out (by omega) s.kind hsi.out.1 hsi.out.2.1 s.args s.ratio.q hsi.out.2.2.1 hsi.out.2.2.2.1 hI hx hqb;refine CS.mono ?_;clear CS;rintro e w4 ⟨va4,vc4,t,rfl,hB4,hV4,hf4,hv4⟩;have hdr:steps.drop k=s :: steps.drop (k+1):=by
    rw [List.drop_eq_getElem_cons hlt];congr 1;have:=hs_.out;rw [List.getElem?_eq_getElem hlt] at this;exact Option.some.inj this
   have hst2:=hst.out;rw [hdr,qb3] at hst2;have hnx:=FrmOk.next hok.out s.kind s.args s.ratio.q hqb;revert hB4 hV4 hst2 hnx;generalize nextF x s.kind s.args s.ratio.q k=P;intro hB4 hV4 hst2 hnx;have hz4:Blk w4 g2 58 #[.slice none 0 0,.slice none 0 0]:=(hzr.below' hb3).fr hf4 fun h=>by have:=hge _ h;omega
   have hgBw:w.heap.size<=gB:=by omega
   have hb4:Below w.heap.size w w4:=Go.Proofs.YtfaalkneigpcnaaGreatDoor.Below.fr (bth hwr hb3) hf4 (fun b hb=>by have:=hge b hb;omega) (by have:=hwr.size;have:=hb3.size;omega);have q1:=hB4.blk.cell 1;have q0:=hB4.blk.cell 0;have qf0:=hB4.blk.frozen 0;have ql:=hB4.blk.lt;have zl4:=hz4.lt;by_cases c1:64<P.1.length
   ·
    have d1:decide (64<P.1.length)=true:=decide_eq_true c1;have hb1:bigF P=true:=by unfold bigF;simp [c1]
    exact zz66
   ·
    have d1:decide (64<P.1.length)=false:=decide_eq_false c1;by_cases c2:4000<P.2.1.length
    ·
     have d2:decide (4000<P.2.1.length)=true:=decide_eq_true c2;have hb1:bigF P=true:=by unfold bigF;simp [c2]
     exact zz66
    ·
     have d2:decide (4000<P.2.1.length)=false:=decide_eq_false c2;by_cases c3:4000<P.2.2.length
     ·
      have d3:decide (4000<P.2.2.length)=true:=decide_eq_true c3;have hb1:bigF P=true:=by unfold bigF;simp [c3]
      exact zz66
     ·
      have d3:decide (4000<P.2.2.length)=false:=decide_eq_false c3;have hb1:¬ bigF P=true:=by unfold bigF;simp;omega
      rw [if_neg hb1] at hst2;obtain ⟨D',M',hok2⟩:=hnx (by simpa using hb1);replace hst2:=Hd hst2;replace hok2:=Hd hok2;have hlh:hs.length<=100:=by
       have e1:=congrArg List.length hB4.eq;have e2:=hok.out.1;simp at e1
       omega
      have hB4h:=Hd hB4;have hV4h:=Hd hV4;have hf4h:=Hd hf4;have hzh:=Hd hz4;have hlhh:=Hd hlh;have hgeh:=Hd hge;have hvh:=Hd hv4;clear hB4 hV4 hnx hf4 hz4 hlh hb1 hge hv4;go_wp2;refine qab (fun W=>Blk W w4.heap.size 94 #[.slice t.a P.2.1.length t.c,.slice t.b P.2.2.length t.d]/\Below w4.heap.size w4 W) ⟨by ((with_reducible repeat first|assumption|(apply bF;focus omega)|apply bS|(apply bN;focus (simp;done))|apply bA|apply bD);all_goals rfl),by go_grown⟩ ?_;rintro w5 ⟨hv5,hb5⟩;obtain ⟨gv,hgv⟩:∃ g,g=w4.heap.size:=⟨_,rfl⟩
      rw [<- hgv] at hv5 ⊢;have hl5:=hv5.lt;have hB5:=hB4h.out.call hb5;have hV5:=hV4h.out.call hb5;have nv:¬ Yb gB ra va4 gv:=fun h=>by have:=hB4h.out.lt _ h;omega
      replace hgv:=Hd hgv;have y0:∀ W,Cl3 ⟨gB,0,none⟩ ⟨gv,0,none⟩ ⟨gv,1,none⟩ (.slice ra hs.length rc) (.slice t.a P.2.1.length t.c) (.slice t.b P.2.2.length t.d) W->W.cell? ⟨gB,0,none⟩=some (.slice ra hs.length rc):=fun W h=>h.1
      have y1:∀ W,Cl3 ⟨gB,0,none⟩ ⟨gv,0,none⟩ ⟨gv,1,none⟩ (.slice ra hs.length rc) (.slice t.a P.2.1.length t.c) (.slice t.b P.2.2.length t.d) W->W.cell? ⟨gv,0,none⟩=some (.slice t.a P.2.1.length t.c):=fun W h=>h.2.1
      have y2:∀ W,Cl3 ⟨gB,0,none⟩ ⟨gv,0,none⟩ ⟨gv,1,none⟩ (.slice ra hs.length rc) (.slice t.a P.2.1.length t.c) (.slice t.b P.2.2.length t.d) W->W.cell? ⟨gv,1,none⟩=some (.slice t.b P.2.2.length t.d):=fun W h=>h.2.2
      have s0:Cl3 ⟨gB,0,none⟩ ⟨gv,0,none⟩ ⟨gv,1,none⟩ (.slice ra hs.length rc) (.slice t.a P.2.1.length t.c) (.slice t.b P.2.2.length t.d) w5.drew:=⟨hB5.blk.cell 0,hv5.cell 0,hv5.cell 1⟩
      have hv5h:=Hd hv5;have hB5h:=Hd hB5;have hV5h:=Hd hV5;have nvh:=Hd nv;clear hv5 hB5 hV5 nv q0 q1 qf0 ql zl4;refine wrx (S:=Cl3 ⟨gB,0,none⟩ ⟨gv,0,none⟩ ⟨gv,1,none⟩ (.slice ra hs.length rc) (.slice t.a P.2.1.length t.c) (.slice t.b P.2.2.length t.d)) [(0,.q),(1,.q),(2,.q),(3,.q),(4,.q),(5,.q),(6,.q),(7,.q),(8,.q),(9,.q),(10,.q),(11,.l),(12,.l),(13,.p),(14,.p),(15,.p),(16,.t)] (s0) ?_
      iterate 11 (refine qaj rfl rfl fun K hK=>xq ?_;go_simp;refine hK _ _ ?_;clear hK K)
      refine qag rfl rfl (fun K hK=>?_);go_simp;refine hK.out _ _ (s0.alloc) (fun _=>?_);clear hK K;have hal:Below w5.heap.size w5 (w5.alloc (.cells #[.slice t.a P.2.1.length t.c,.slice t.b P.2.2.length t.d] 97)).drew:=(brf.alloc (nlr _) _).drew;have hB6:=hB5h.out.call hal;have hV6:=hV5h.out.call hal;have hrow:Blk (w5.alloc (.cells #[.slice t.a P.2.1.length t.c,.slice t.b P.2.2.length t.d] 97)).drew w5.heap.size 97 #[.slice t.a P.2.1.length t.c,.slice t.b P.2.2.length t.d]:=(Blk.new w5 _ _).drew;have sA:Cl3 ⟨gB,0,none⟩ ⟨gv,0,none⟩ ⟨gv,1,none⟩ (.slice ra hs.length rc) (.slice t.a P.2.1.length t.c) (.slice t.b P.2.2.length t.d) (w5.alloc (.cells #[.slice t.a P.2.1.length t.c,.slice t.b P.2.2.length t.d] 97)).drew:=s0.alloc
      have hz6:Blk (w5.alloc (.cells #[.slice t.a P.2.1.length t.c,.slice t.b P.2.2.length t.d] 97)).drew g2 58 #[.slice none 0 0,.slice none 0 0]:=(hzh.out.below' hb5).below' hal;have hb6:Below w.heap.size w (w5.alloc (.cells #[.slice t.a P.2.1.length t.c,.slice t.b P.2.2.length t.d] 97)).drew:=bth (bth hb4 hb5) hal;replace hB6:=Hd hB6;replace hV6:=Hd hV6;replace hrow:=Hd hrow;replace hz6:=Hd hz6;replace hb6:=Hd hb6;clear hal;refine qag rfl rfl (fun K hK=>?_);refine qof (B:=gB+1) (.tmp 54) (.tmp 60) 55 rfl Tryz.underlying55 ra rc rfl hB6.out.co (t,P.2) w5.heap.size 1 rfl (fun j u hu=>by have e:=hrow.out.cell j;rw [e];simpa [coC] using hu) (hs++[(t,P.2)]) rfl (by have:=hlhh.out;simp;omega) (by have:=hB6.out.blk.lt;omega) ?_;intro ra2 rc2 w6 ho6 hg6 ha6;have hp6:=hB6.out.push (t,P.2) hV6.out ho6 hg6 ha6
      have s6:Cl3 ⟨gB,0,none⟩ ⟨gv,0,none⟩ ⟨gv,1,none⟩ (.slice ra hs.length rc) (.slice t.a P.2.1.length t.c) (.slice t.b P.2.2.length t.d) w6 :=
       ⟨hg6.cell sA.1 (qm7 fun g hg=>by have:=(hB6.out.co.lt hg).1;dsimp only;omega),hg6.cell sA.2.1 (qm7 fun g hg e=>nvh.out (.inr (.inl ⟨g,hg,e.symm⟩))),hg6.cell sA.2.2 (qm7 fun g hg e=>nvh.out (.inr (.inl ⟨g,hg,e.symm⟩)))⟩
      have hzB:=hB6.out.blk.under hB6.out.co (Nat.lt_succ_self gB) hg6;have u0:=hzB.cell 0;have uf:=hzB.frozen 0;have ul:=hzB.lt;replace hp6:=Hd hp6;go_simp;refine hK.out _ _ s6 (fun _=>?_);clear hK K s6 sA s0 ho6 hg6 ha6 hzB
      iterate 3 (refine qaz rfl rfl fun K hK=>xp ?_;go_simp;refine hK _ _ ?_;clear hK K)
      refine qae rfl rfl (fun K hK=>?_);go_simp;refine hK.out _ _ ?_;clear hK K;refine qai ?_;clear u0 uf ul y0 y1 y2 d0 d1 d2 d3 d4 d5;go_wp2;have hYg:∀ b,Yb gB ra va4 b->gB<=b:=hB6.out.ge;have hgq:g2<gB:=hgg;have hwB:=hgBw;have hm2:=hm.out;go_roundg (gk-1)
      case rel =>
       have hF:=hp6.out.2.1;have hsz:=hb6.out.size;exact ⟨k+1,putF x s.kind P,hs++[(t,P.2)],ra2,va4,rc2,vc4,D',M',by show _=_;omega,by go_num,Go.Proofs.YtfaalkneigpcnaaGreatDoor.Below.fr hb6.out hF (fun b hb=>by have:=hYg b hb;omega) (by omega),hz6.out.fr hF (fun h=>by have:=hYg _ h;omega),hp6.out.1,hok2.out,hst2.out⟩
      case measure=>have:=hm.out;omega
  ·
   have hst2:=hst.out;rw [List.drop_eq_nil_of_le (by omega),qb3] at hst2;subst hst2;have hg1:g2<gB+1:=by omega
   have hb:=hB.out;obtain ⟨q0,q1⟩:=cq2 hb.blk;have ql:=hb.blk.lt;obtain ⟨y0,y1⟩:=cq2 hzr;obtain ⟨f0,f1⟩:=fq2 hzr;have zl:=hzr.lt;replace hb:=Hd hb;go_wp2;refine qab (fun W=>Blk W g2 58 #[.slice ra hs.length rc,.slice va x.vars.length vc]/\Below w.heap.size w W/\OwnCo (gB+1) W ra rc hs/\OwnVr (gB+1) W va vc x.vars/\AllV X W hs) ⟨by ((with_reducible repeat first|assumption|(apply bF;focus omega)|apply bS|(apply bN;focus (simp;done))|apply bA|apply bD);all_goals rfl),by go_grown,(hb.out.co.far hg1 _).far hg1 _,(hb.out.vr.far hg1 _).far hg1 _,fun z hz=>?_⟩ ?_
   · exact (qa5 (qa5 ((hb.out.all z hz).less fun b hb=>.inr hb) (.inr rfl)) (.inr rfl)).less fun b hb=>.inl hb
   rintro wF ⟨hF4,hwF,ho1,ho2,hA⟩;obtain ⟨e0,e1⟩:=cq2 hF4;refine bodyPost_ret (v:=.tuple #[.agg #[.slice ra hs.length rc,.slice va x.vars.length vc],.int .i64 0]) (by simp [results,Tryz.results19,go_sem,e0,e1]) rfl ?_;exact ⟨hwF,hs,ra,va,rc,vc,gB+1,rfl,hb.out.eq,ho1,ho2,hA⟩
theorem qqo {l:List Step} {s:Step} {k:Nat} (h:qbi l s k=0):s.args.length<=4:=by
 unfold qbi at h;have h1:¬ qbc s.kind<0:=fun h1=>by rw [if_pos h1] at h;simp at h
 rw [if_neg h1] at h;have h2:¬ (s.args.length:Int)≠qbc s.kind:=fun h2=>by rw [if_pos h2] at h;simp at h
 have h3:qbc s.kind<=4:=by
  unfold qbc
  repeat (first | (split <;> try omega) | omega)
 omega
theorem qwt {f:Fig} (h:f.err=0):∀ (k:Nat) (s:Step),f.steps[k]? = some s->s.args.length<=4:=by
 unfold Fig.err at h;have h1:¬ (40<f.steps.length\/8<f.goals.length):=fun h1=>by rw [if_pos h1] at h;simp at h
 rw [if_neg h1] at h;have h2:qbe f.steps f.steps 0=0:=by
  by_cases h2:qbe f.steps f.steps 0=0
  · exact h2
  · rw [if_pos h2] at h;exact h
 exact fun k s hs=>qqo (l:=f.steps) (k:=0+k) (qff f.steps 0 h2 k s hs)
theorem zz67 {P:Prop} (h:P:=by
 rw [if_pos hb1] at hst2;subst hst2;obtain ⟨y0,y1⟩:=cq2 hz4;obtain ⟨f0,f1⟩:=fq2 hz4;have zl4:=hz4.lt;go_wp2;refine qab (fun W=>Blk W g1 58 #[.slice none 0 0,.slice none 0 0]/\Below w.heap.size w W) ⟨by ((with_reducible repeat first|assumption|(apply bF;focus omega)|apply bS|(apply bN;focus (simp;done))|apply bA|apply bD);all_goals rfl),by go_grown⟩ ?_;rintro wF ⟨hF4,hwF⟩;obtain ⟨e0,e1⟩:=cq2 hF4;refine bodyPost_ret (v:=.tuple #[.agg #[.slice none 0 0,.slice none 0 0],.int .i64 4]) (by simp [results,Tryz.results41,go_sem,e0,e1]) rfl ?_;exact ⟨hwF,rfl⟩
 ):P:=h
theorem zz68 {P:Prop} (h:P:=by
 have hnX:¬ Yv ra2 va4 gX:=fun h=>by have:=hpp.1.ge _ h;omega
 have r:=hpp.1.set_ (i:=0) (u:=.slice ra2 (hs.length+1) rc2) (.inr rfl) hnX;exact ⟨r.eq,r.co,r.vr,r.all⟩
 ):P:=h
theorem qs8 (X:Nat->Prop) (f:Fig) (sa:Option Addr) (sc:Nat) (ga:Option Addr) (gc:Nat) (W0 w:World) (h:FigR W0 sa sc ga gc f) (hW0:Below W0.heap.size W0 w) (hq:f.few) (he:f.err=0) (hX:∀ b,X b->W0.heap.size<=b/\b<w.heap.size) (hr:∀ s∈f.steps,s.kind=2->s.ratio.short=true) :
  Calls Tryz.prog 41 #[f.val sa sc ga gc] w fun e w'=>Below w.heap.size w w'/\match qb3 ⟨[],[],0⟩ 0 f.steps with
   | some x=>qjk X x e w'
   | none=>e=.returned (.tuple #[.agg #[.slice none 0 0,.slice none 0 0],.int .i64 4]):=by
 obtain ⟨hl,hS⟩:=qdx he;have hLN:=qwt he;have C:=fun W (hW:Below w.heap.size w W)=>qf6 f sa sc ga gc W ⟨h.1.ext (xbw (bth hW0 hW)),h.2.ext (xbw (bth hW0 hW))⟩ hq
 rw [he] at C;unfold Fig.val at C ⊢;replace hLN:=Hd hLN;have HS:=Hd h.1;replace hS:=Hd hS;replace C:=Hd C;have HX:=Hd hX;have HW:=Hd hW0;replace hr:=Hd hr;clear h hq he hX hW0;obtain ⟨res,hres⟩:∃ res,qb3 ⟨[],[],0⟩ 0 f.steps=res:=⟨_,rfl⟩
 rw [hres];replace hres:=Hd hres;obtain ⟨steps,goals⟩:=f;dsimp only at HS hS hLN C hl hr hres ⊢;go_enter Tryz.func41,Tryz.ntmps41;go_wp2_with fail;refine qad (fun W=>Blk W w.heap.size 25 #[.slice sa steps.length sc,.slice ga goals.length gc]/\Blk W (w.heap.size+1) 58 #[.slice none 0 0,.slice none 0 0]/\Below w.heap.size w W) (by refine ⟨?_,?_,?_⟩<;>first|((with_reducible repeat first|assumption|(apply bF;focus omega)|apply bS|(apply bN;focus (simp;done))|apply bA|apply bD);all_goals rfl)|go_grown) ?_;rintro w0 ⟨hF,hz,hw0⟩;refine (C.out w0 hw0).mono ?_;rintro e w1 ⟨rfl,hb1⟩;have hw1:=bth hw0 hb1;replace hF:=hF.below' hb1;replace hz:=hz.below' hb1;obtain ⟨z0,z1⟩:=cq2 hF;have hzl:=hz.lt;have hfl:=hF.lt;clear hw0 hb1;go_wp2
 refine qab (fun W=>Blk W w.heap.size 25 #[.slice sa steps.length sc,.slice ga goals.length gc]/\Blk W (w.heap.size+1) 58 #[.slice none 0 0,.slice none 0 0]/\Blk W w1.heap.size 58 #[.slice none 0 0,.slice none 0 0]/\Below w.heap.size w W) (by refine ⟨?_,?_,?_,?_⟩<;>first|((with_reducible repeat first|assumption|(apply bF;focus omega)|apply bS|(apply bN;focus (simp;done))|apply bA|apply bD);all_goals rfl)|go_grown) ?_;rintro w2 ⟨hF2,hz2,hB2,hw2⟩;obtain ⟨gX,hgX⟩:∃ g,g=w1.heap.size:=⟨_,rfl⟩
 obtain ⟨g1,hg1⟩:∃ g,g=w.heap.size+1:=⟨_,rfl⟩
 obtain ⟨g0,hg0⟩:∃ g,g=w.heap.size:=⟨_,rfl⟩
 have hwg:w.heap.size+1<w1.heap.size:=hzl;rw [<- hgX] at hB2 ⊢;rw [<- hg1] at hz2 ⊢;rw [<- hg0] at hF2 ⊢;have hw0:w.heap.size<=g0:=by omega
 have hw1':w.heap.size<=g1:=by omega
 have hg01:g0<g1:=by omega
 have hgg:g1<gX:=by omega
 have hgl:=hB2.lt;replace hgX:=Hd hgX;replace hg1:=Hd hg1;replace hg0:=Hd hg0;clear hF hz z0 z1 hzl hfl hwg hw1
 go_loopg [6,7,8,9,10,20] steps.length (fun m bf _ _ _ _ q wr=>∃ (k:Nat) (x:Frm) (hs:List (VQ × Vec)) (ra va:Option Addr) (rc vc D M:Nat),Hid (k+m=steps.length)/\bf=.int .i64 x.free/\q=.int .i64 k/\Below w.heap.size w wr/\Blk wr g0 25 #[.slice sa steps.length sc,.slice ga goals.length gc]/\Blk wr g1 58 #[.slice none 0 0,.slice none 0 0]/\Blk wr gX 58 #[.slice ra hs.length rc,.slice va x.vars.length vc]/\Hid (Rst (Xg (Xg X g1) gX) wr (gX+1) x hs ra rc va vc)/\Hid (FrmOk k D M x)/\Hid (qb3 x k (steps.drop k)=res))
 case atStart=>exact ⟨0,⟨[],[],0⟩,[],none,none,0,0,1,1,by show _=_;omega,rfl,rfl,hw2,hF2,hz2,hB2,⟨rfl,Own.nil,Own.nil,fun z hz=>by cases hz⟩,by simp [FrmOk,Hid],hres.out⟩
 case round =>
  clear hw2 hF2 hz2 hB2 hgl;obtain ⟨k,x,hs,ra,va,rc,vc,D,M,hm,rfl,rfl,hwr,hF,hz,hB,hR,hok,hst⟩:=hrel;by_cases hlt:k<steps.length
  ·
   obtain ⟨s,hs_⟩:=qac hlt;have hsi:=hS.out k s hs_;have hsr:=hr.out s (List.mem_of_getElem? hs_);obtain ⟨b,o,rfl,p,hC,hP,hin,hsz⟩:=HS.out.2.2 k s hs_;have hl0:=HS.out.len;have hcap:=HS.out.1;have hcap2:=HS.out.2.1;have hwr0:=bth HW.out hwr;obtain ⟨c0,c1,c2,c3,c4,c5⟩:=hC;have d0:=held c0 wr hwr0;have d1:=held c1 wr hwr0;have d2:=held c2 wr hwr0;have d3:=held c3 wr hwr0;have d4:=held c4 wr hwr0;have d5:=held c5 wr hwr0;obtain ⟨x0,x1⟩:=cq2 hB;obtain ⟨z0,z1⟩:=cq2 hF;have lB:=hB.lt;have lF:=hF.lt;have lz:=hz.lt;replace hsi:=Hd hsi;replace hsr:=Hd hsr;replace hP:=Hd hP;replace hin:=Hd hin;replace hs_:=Hd hs_;replace hcap:=Hd hcap;replace hcap2:=Hd hcap2;clear c0 c1 c2 c3 c4 c5;go_wp2_with fail
   refine qad (fun W=>Below wr.heap.size wr W/\Blk W wr.heap.size 53 #[.int .i64 s.kind,.string s.point,.slice p.aa s.args.length p.ac,.bool s.ratio.neg,.slice p.na s.ratio.num.length p.nc,.slice p.da s.ratio.den.length p.dc]) ⟨by go_grown,by ((with_reducible repeat first|assumption|(apply bF;focus omega)|apply bS|(apply bN;focus (simp;done))|apply bA|apply bD);all_goals rfl)⟩ ?_;rintro w3 ⟨hb3,hS3⟩;have hwW:=bth hwr0 hb3;have hR3:=hR.out.call hb3;have hge:=hR3.ge;have hZ3:∀ b,Xg (Xg X g1) gX b->b<w3.heap.size:=fun b hb=>by
    have:=hb3.size;rcases hb with (hb | rfl) | rfl
    · have:=(HX.out b hb).2;have:=hwr.size;omega
    · omega
    · omega
   have hYge:∀ b,Yr (Xg (Xg X g1) gX) ra va b->W0.heap.size<=b:=fun b hb=>by
    have:=HW.out.size;rcases hb with hb | (hb | rfl) | rfl
    · have:=hge b hb;omega
    · exact (HX.out b hb).1
    · omega
    · omega
   have hI:IntsR w3 p.aa p.ac s.args:=hP.out.1.ext (xbw hwW);have hx:s.kind=2->Rd (Yr (Xg (Xg X g1) gX) ra va) w3 fun V=>QAc V ⟨s.ratio.neg,s.ratio.num.length,p.na,p.nc,s.ratio.den.length,p.da,p.dc⟩ s.ratio.q:=fun hk=>(Rd.arg (w:=W0) (fun V e=>(RtZ.sk (r:=s.ratio) ⟨rfl,rfl,rfl,(hP.out.2.1).ext e,(hP.out.2.2).ext e⟩ (hsr.out hk)).1) hYge).call hwW
   have hqb:s.kind=2->s.ratio.q.num.natAbs<=2 ^ 32/\s.ratio.q.den<=2 ^ 32:=fun hk=>by
    have h2:=(RtZ.sk (show RtZ W0 s.ratio ⟨s.ratio.neg,s.ratio.num.length,p.na,p.nc,s.ratio.den.length,p.da,p.dc⟩ from ⟨rfl,rfl,rfl,hP.out.2.1,hP.out.2.2⟩) (hsr.out hk)).2;have e1:=qbb s.ratio.q;have e2:=qba s.ratio.q;exact ⟨Nat.le_of_lt (ltl (qa1 _) (Nat.le_trans (Nat.pow_le_pow_right (by decide) (Nat.le_trans e1 h2)) (by decide))),Nat.le_of_lt (ltl (qa1 _) (Nat.le_trans (Nat.pow_le_pow_right (by decide) (Nat.le_trans e2 h2)) (by decide)))⟩
   have hal:s.args.length<=1000:=by
    have e:=hLN.out k s hs_.out
    omega
   have CS:=qt3 (Xg (Xg X g1) gX) (gX+1) x hs ra va rc vc s.point p.aa p.na p.da ga p.ac p.nc p.dc steps.length b o sc goals.length gc k s.ratio.num.length s.ratio.den.length s.ratio.neg s.args w3 hR3 hZ3 (by have:=hb3.size;omega) hlt ⟨hcap.out,hcap2.out⟩ D M hok.out (by omega) s.kind hsi.out.1 s.ratio.q hsi.out.2.2.1
    (held d0 w3 hb3) (held d1 w3 hb3) (held d2 w3 hb3) (held d3 w3 hb3) (held d4 w3 hb3) (held d5 w3 hb3) hI hal hsi.out.2.2.2.1 hx hqb
   refine CS.mono ?_;clear CS;rintro e w4 ⟨va4,vc4,t,rfl,hR4,hV4,hf4,hv4⟩;have hdr:steps.drop k=s :: steps.drop (k+1):=by
    rw [List.drop_eq_getElem_cons hlt];congr 1;have:=hs_.out;rw [List.getElem?_eq_getElem hlt] at this;exact Option.some.inj this
   have hst2:=hst.out;rw [hdr,qb3] at hst2;have hnx:=FrmOk.next hok.out s.kind s.args s.ratio.q hqb;revert hR4 hV4 hst2 hnx;generalize nextF x s.kind s.args s.ratio.q k=P;intro hR4 hV4 hst2 hnx;have hnn:∀ g,g<=gX->¬ Yv ra va g:=fun g hg h=>by have:=hge g h;omega
   have hF4:=(hF.below' hb3).fr hf4 (hnn _ (by omega));have hz4:=(hz.below' hb3).fr hf4 (hnn _ (by omega));have hB4:=(hB.below' hb3).fr hf4 (hnn _ (by omega));have hnS:¬ Yv ra va wr.heap.size:=fun h=>by have:=hR.out.lt _ h;omega
   have hS4:=hS3.fr hf4 hnS;have hnS4:¬ Yv ra va4 wr.heap.size:=qb5 hnS hv4 (by have:=hS3.lt;omega);replace hnS4:=Hd hnS4;have hb4:Below w.heap.size w w4:=Go.Proofs.YtfaalkneigpcnaaGreatDoor.Below.fr (bth hwr hb3) hf4 (fun b hb=>by have:=hge b hb;omega) (by have:=hwr.size;have:=hb3.size;omega);have hn4:∀ g,g<=gX->¬ Yv ra va4 g:=fun g hg=>qb5 (hnn g hg) hv4 (by have:=hb3.size;omega)
   have k0:=hS4.cell 0;have kl:=hS4.lt;obtain ⟨q0,q1⟩:=cq2 hB4;obtain ⟨qf0,qf1⟩:=fq2 hB4;have ql:=hB4.lt;replace hR:=Hd hR;replace hf4:=Hd hf4;replace hge:=Hd hge;have lBX:gX<wr.heap.size:=lB;have nBX:gX≠wr.heap.size:=by omega
   have nXB:wr.heap.size≠gX:=by omega
   clear hF hz hB d0 d1 d2 d3 d4 d5 x0 x1 z0 z1 lB lF lz hb3 hS3 hwW hR3 hZ3 hYge hI hx hqb hal hnn hnS hdr;by_cases c1:64<P.1.length
   ·
    have d1:decide (64<P.1.length)=true:=decide_eq_true c1;have hb1:bigF P=true:=by unfold bigF;simp [c1]
    exact zz67
   ·
    have d1:decide (64<P.1.length)=false:=decide_eq_false c1;by_cases c2:4000<P.2.1.length
    ·
     have d2:decide (4000<P.2.1.length)=true:=decide_eq_true c2;have hb1:bigF P=true:=by unfold bigF;simp [c2]
     exact zz67
    ·
     have d2:decide (4000<P.2.1.length)=false:=decide_eq_false c2;by_cases c3:4000<P.2.2.length
     ·
      have d3:decide (4000<P.2.2.length)=true:=decide_eq_true c3;have hb1:bigF P=true:=by unfold bigF;simp [c3]
      exact zz67
     ·
      have d3:decide (4000<P.2.2.length)=false:=decide_eq_false c3;have hb1:¬ bigF P=true:=by unfold bigF;simp;omega
      rw [if_neg hb1] at hst2;obtain ⟨D',M',hok2⟩:=hnx (by simpa using hb1);replace hst2:=Hd hst2;replace hok2:=Hd hok2;have hlh:hs.length<=100:=by
       have e1:=congrArg List.length hR4.eq;have e2:=hok.out.1;simp at e1
       omega
      have hR4h:=Hd hR4;have hV4h:=Hd hV4;have hF4h:=Hd hF4;have hz4h:=Hd hz4;have hB4h:=Hd hB4;have hS4h:=Hd hS4;have hb4h:=Hd hb4;replace hlh:=Hd hlh;replace hn4:=Hd hn4;clear hR4 hV4 hnx hF4 hz4 hB4 hS4 hb4 hb1 hv4;have hfree:x.free<=40:=by have:=hok.out.2.2.2.2.2.2.1;omega
      have hXX:Xg (Xg X g1) gX gX:=.inr rfl;have hYX:Yr (Xg (Xg X g1) gX) ra va4 gX:=.inr hXX;replace hXX:=Hd hXX;replace hYX:=Hd hYX
      go_wp2_with (at_builtin;go_must (refine qab (fun W=>Blk W g0 25 #[.slice (some ⟨b,o,none⟩) steps.length sc,.slice ga goals.length gc]/\Blk W g1 58 #[.slice none 0 0,.slice none 0 0]/\Blk W gX 58 #[.slice ra hs.length rc,.slice va4 P.1.length vc4]/\Blk W wr.heap.size 53 #[.int .i64 s.kind,.string s.point,.slice p.aa s.args.length p.ac,.bool s.ratio.neg,.slice p.na s.ratio.num.length p.nc,.slice p.da s.ratio.den.length p.dc]/\Blk W (w4.heap.size+1+1) 97 #[.slice t.a P.2.1.length t.c,.slice t.b P.2.2.length t.d]/\Rst (Xg (Xg X g1) gX) W (gX+1) ⟨P.1,x.coords,x.free⟩ hs ra rc va4 vc4/\VecX (Yr (Xg (Xg X g1) gX) ra va4) W t P.2/\Below w.heap.size w W) ⟨by have a:=hF4h.out;((with_reducible repeat first|assumption|(apply bF;focus omega)|apply bS|(apply bN;focus (simp;done))|apply bA|apply bD);all_goals rfl),by have a:=hz4h.out;((with_reducible repeat first|assumption|(apply bF;focus omega)|apply bS|(apply bN;focus (simp;done))|apply bA|apply bD);all_goals rfl),by have a:=hB4h.out;((with_reducible repeat first|assumption|(apply bF;focus omega)|apply bS|(apply bN;focus (simp;done))|apply bA|apply bD);all_goals rfl),by have a:=hS4h.out;((with_reducible repeat first|assumption|(apply bF;focus omega)|apply bS|(apply bN;focus (simp;done))|apply bA|apply bD);all_goals rfl),by ((with_reducible repeat first|assumption|(apply bF;focus omega)|apply bS|(apply bN;focus (simp;done))|apply bA|apply bD);all_goals rfl),by (repeat (first | (with_reducible exact hR4h.out) | (with_reducible refine Rst.set_ ?_ hXX.out (hn4.out gX (nlr _))) | (with_reducible refine Rst.call ?_ (brf.alloc (nlr _) _)))),by (repeat (first | (with_reducible exact hV4h.out) | (with_reducible refine VecX.step ?_ (Agr.setc hYX.out (Agr.refl _ _))) | (with_reducible refine VecX.call ?_ (brf.alloc (nlr _) _)))),by have a:=hb4h.out;go_grown⟩ ?_);rintro w5 ⟨j0,j1,jX,jS,jc,hR5,hV5,hb5⟩;go_must (refine qax (B:=gX+1) rfl (.tmp 52) (.tmp 54) 55 rfl Tryz.underlying55 qge rfl (by omega) (by omega) qbk ra rc rfl hR5.co (t,P.2) (qe3 _) (w4.heap.size+1+1) 1 rfl (fun j u hu=>by have e:=jc.cell j;rw [e];simpa [coC] using hu) (hs++[(t,P.2)]) rfl (by have:=hlh.out;simp;omega) (by have:=jX.lt;omega) ?_);intro ra2 rc2 w6 ho6 hg6 ha6;have hp6:=hR5.push (t,P.2) hV5 ho6 hg6 ha6;have i0:=j0.fr hp6.2.1 (hn4.out g0 (by omega));have i1:=j1.fr hp6.2.1 (hn4.out g1 (by omega));have iX:=jX.fr hp6.2.1 (hn4.out gX (nlr _));have iS:=jS.fr hp6.2.1 hnS4.out;have hb6:Below w.heap.size w w6:=Go.Proofs.YtfaalkneigpcnaaGreatDoor.Below.fr hb5 hp6.2.1 (fun b hb=>by have:=hR5.ge b hb;omega) (by have:=hb5.size;omega);have u0:=iX.cell 0;have uf:=iX.frozen 0;have ul:=iX.lt;have uS:=iS.cell 0;have uSl:=iS.lt;have uX:=Hd iX;replace hp6:=Hd hp6;have i0h:=Hd i0;have i1h:=Hd i1;have hb6h:=Hd hb6;clear j0 j1 jX jS jc hR5 hV5 hb5 ho6 hg6 ha6 i0 i1 iX iS hb6 k0 kl q0 q1 qf0 qf1 ql)
      ·
       have hk1:s.kind=1:=eq_of_beq ‹(s.kind==1)=true›;have hm2:=hm.out;go_roundg (gk-1)
       case rel =>
        have hpp:=hp6.out;refine ⟨k+1,putF x s.kind P,hs++[(t,P.2)],ra2,va4,rc2,vc4,D',M',by show _=_;omega,?_,by go_num,?_,?_,?_,?_,?_,hok2.out,hst2.out⟩
        ·
         have hfx:(putF x s.kind P).free=x.free+1:=by unfold putF;simp [hk1]
         rw [hfx]
         try go_num
        ·
         have a:=hb6h.out
         go_grown
        ·
         have a:=i0h.out
         ((with_reducible repeat first|assumption|(apply bF;focus omega)|apply bS|(apply bN;focus (simp;done))|apply bA|apply bD);all_goals rfl)
        ·
         have a:=i1h.out
         ((with_reducible repeat first|assumption|(apply bF;focus omega)|apply bS|(apply bN;focus (simp;done))|apply bA|apply bD);all_goals rfl)
        ·
         have a:=uX.out;have e:(hs++[(t,P.2)]).length=hs.length+1:=by simp
         rw [e]
         show Blk _ gX 58 #[.slice ra2 (hs.length+1) rc2,.slice va4 P.1.length vc4]
         ((with_reducible repeat first|assumption|(apply bF;focus omega)|apply bS|(apply bN;focus (simp;done))|apply bA|apply bD);all_goals rfl)
        ·
         show Rst _ _ _ _ _ _ _ _ _
         exact zz68
       case measure=>have:=hm.out;omega
      ·
       have hk1:¬ s.kind=1:=fun hc=>by have e:=‹(s.kind==1)=false›;rw [hc] at e;cases e
       have hm2:=hm.out;go_roundg (gk-1)
       case rel =>
        have hpp:=hp6.out;refine ⟨k+1,putF x s.kind P,hs++[(t,P.2)],ra2,va4,rc2,vc4,D',M',by show _=_;omega,?_,by go_num,?_,?_,?_,?_,?_,hok2.out,hst2.out⟩
        ·
         have hfx:(putF x s.kind P).free=x.free:=by unfold putF;simp [hk1]
         rw [hfx]
         try go_num
        ·
         have a:=hb6h.out
         go_grown
        ·
         have a:=i0h.out
         ((with_reducible repeat first|assumption|(apply bF;focus omega)|apply bS|(apply bN;focus (simp;done))|apply bA|apply bD);all_goals rfl)
        ·
         have a:=i1h.out
         ((with_reducible repeat first|assumption|(apply bF;focus omega)|apply bS|(apply bN;focus (simp;done))|apply bA|apply bD);all_goals rfl)
        ·
         have a:=uX.out;have e:(hs++[(t,P.2)]).length=hs.length+1:=by simp
         rw [e]
         show Blk _ gX 58 #[.slice ra2 (hs.length+1) rc2,.slice va4 P.1.length vc4]
         ((with_reducible repeat first|assumption|(apply bF;focus omega)|apply bS|(apply bN;focus (simp;done))|apply bA|apply bD);all_goals rfl)
        ·
         show Rst _ _ _ _ _ _ _ _ _
         exact zz68
       case measure=>have:=hm.out;omega
  ·
   have hst2:=hst.out;rw [List.drop_eq_nil_of_le (by omega),qb3] at hst2;subst hst2;have hb:=Hd hR.out;obtain ⟨q0,q1⟩:=cq2 hB;have ql:=hB.lt;obtain ⟨y0,y1⟩:=cq2 hz;obtain ⟨f0,f1⟩:=fq2 hz;have zl:=hz.lt;have hgq:g1<gX+1:=by omega
   go_wp2;refine qab (fun W=>Blk W g1 58 #[.slice ra hs.length rc,.slice va x.vars.length vc]/\Below w.heap.size w W/\OwnCo (gX+1) W ra rc hs/\OwnVr (gX+1) W va vc x.vars/\AllV X W hs) ⟨by ((with_reducible repeat first|assumption|(apply bF;focus omega)|apply bS|(apply bN;focus (simp;done))|apply bA|apply bD);all_goals rfl),by go_grown,(hb.out.co.far hgq _).far hgq _,(hb.out.vr.far hgq _).far hgq _,fun z hz=>?_⟩ ?_
   · exact (qa5 (qa5 (hb.out.all z hz) (.inr (.inl (.inr rfl)))) (.inr (.inl (.inr rfl)))).less fun b hb=>.inr (.inl (.inl hb))
   rintro wF ⟨hF4,hwF,ho1,ho2,hA⟩;obtain ⟨e0,e1⟩:=cq2 hF4;refine bodyPost_ret (v:=.tuple #[.agg #[.slice ra hs.length rc,.slice va x.vars.length vc],.int .i64 0]) (by simp [results,Tryz.results41,go_sem,e0,e1]) rfl ?_;exact ⟨hwF,hs,ra,va,rc,vc,gX+1,rfl,hb.out.eq,ho1,ho2,hA⟩
end Go.Proofs.YtfaalkneigpcnaaGreatDoor
