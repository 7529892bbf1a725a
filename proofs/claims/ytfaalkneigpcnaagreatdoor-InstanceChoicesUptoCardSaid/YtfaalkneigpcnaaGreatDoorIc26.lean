/- The row of InstanceChoices and its card: for each input the call returns true, and each argument reads behind the call as it read before. The row lists tables of Go's library as its text lays them; the proof does not need them. Condition: the arguments hold together at most 1048576 values and letters. -/
import Derived.Test.YtfaalkneigpcnaaGreatDoorIc25
import Derived.Test.YtfaalkneigpcnaaGreatDoorIc1
import Derived.Test.YtfaalkneigpcnaaGreatDoorRows
import Derived.Test.YtfaalkneigpcnaaGreatDoorIc10
import Derived.JoinedCond
import Derived.Test.YtfaalkneigpcnaaGreatDoorCards
import Derived.Test.YtfaalkneigpcnaaGreatDoorTie
import Derived.ChangeMaps5
import Derived.WalkKit
import Derived.ProofKit
import Derived.OpenShut
import Derived.Deep.DeepHandedRow
import Derived.Lib.LaidTab
import Derived.Lay
set_option linter.all false
set_option maxRecDepth 100000
set_option maxHeartbeats 4000000
namespace Go.Proofs.YtfaalkneigpcnaaGreatDoor
open Go.RowKit
def qnc (f:Fct) (n:Nat):Prop:=∀ x∈f.args,0<=x/\x<(n:Int)
def RetBo (w:World) (e:Ending) (w':World):Prop:=(∃ b,e=.returned (.bool b))/\Below w.heap.size w w'
theorem RetBo.of {w w':World} (b:Bool) (h:Below w.heap.size w w'):RetBo w (.returned (.bool b)) w':=⟨⟨b,rfl⟩,h⟩
theorem qoa {n:Nat}:∀ {l:List Fct},qcb n l=0->∀ g∈l,qnc g n
 | [],_,g,hg=>by cases hg
 | f :: r,h,g,hg=>by
  unfold qcb at h;by_cases h0:qcn f n=0
  ·
   rw [if_neg (by simpa using h0)] at h;rcases List.mem_cons.1 hg with rfl | hg
   ·
    intro x hx;have h1:g.args.any (qa3 n)=false:=by
     unfold qcn at h0;by_cases e1:qb2 g.kind=0
     · rw [if_pos e1] at h0;simp at h0
     ·
      rw [if_neg e1] at h0;by_cases e2:(g.args.length:Int)≠qb2 g.kind
      · rw [if_pos e2] at h0;simp at h0
      ·
       rw [if_neg e2] at h0;by_cases e3:g.args.any (qa3 n)=true
       · rw [if_pos e3] at h0;simp at h0
       · simpa using e3
    rw [List.any_eq_false] at h1;have h2:=h1 x hx;unfold qa3 at h2;rw [decide_eq_true_eq] at h2
    omega
   · exact qoa h g hg
  · rw [if_pos h0] at h;exact absurd h h0
theorem quz {f:Fig} (h:f.err=0):∀ g∈f.goals,qnc g f.steps.length:=by
 unfold Fig.err at h;have h1:¬ (40<f.steps.length\/8<f.goals.length):=fun h1=>by rw [if_pos h1] at h;simp at h
 rw [if_neg h1] at h;by_cases h2:qbe f.steps f.steps 0≠0
 · rw [if_pos h2] at h;exact absurd h h2
 · rw [if_neg h2] at h;exact qoa h
theorem zz79 {P:Prop} (h:P:=by
 go_wp2;go_roundg (gk-1)
 case rel=>exact ⟨i+1,by have:=hmi.out;show _=_;omega,by go_num,hwi.out⟩
 case measure=>have:=hmi.out;omega
 ):P:=h
theorem zz80 {P:Prop} (h:P:=by
 go_wp2;refine bodyPost_ret (v:=.bool false) (by simp [results,Tryz.results37,go_sem]) rfl ?_;exact RetBo.of _ hw'.out
 ):P:=h
theorem qvj (steps:List Step) (goals:List Fct) (sa:Option Addr) (sc:Nat) (ga:Option Addr) (gc:Nat) (w:World) (hS:qco w sa sc steps) (hG:FctsR w ga gc goals) (hin:∀ k s,steps[k]? = some s->qjz s k) (hl:steps.length<=8) (hgl:∀ g∈goals,qnc g steps.length) :
  Calls Tryz.prog 37 #[.agg #[.slice sa steps.length sc,.slice ga goals.length gc]] w (RetBo w):=by
 have CW:=Hd (fun W (hW:Below w.heap.size w W)=>qo8 steps goals sa sc ga gc W (hS.ext (xbw hW)) hin hl);have HG:=Hd hG;have hgl2:=SlR.len hG;replace hgl:=Hd hgl;clear hS hG hin;go_enter Tryz.func37,Tryz.ntmps37;go_wp2_with fail;refine qad (fun W=>Blk W w.heap.size 25 #[.slice sa steps.length sc,.slice ga goals.length gc]/\Below w.heap.size w W) ⟨by ((with_reducible repeat first|assumption|(apply bF;focus omega)|apply bS|(apply bN;focus (simp;done))|apply bA|apply bD);all_goals rfl),by go_grown⟩ ?_;rintro w0 ⟨h0,hw0⟩;refine (CW.out w0 hw0).mono ?_;rintro e w1 ⟨L,la,lc,rfl,hLl,hO,hb1⟩;have hw1:=bth hw0 hb1;replace h0:=h0.below' hb1;have hs0:=hw0.size;obtain ⟨g,hg⟩:∃ g,w.heap.size=g:=⟨_,rfl⟩
 have h0':Hid (Blk w1 g 25 #[.slice sa steps.length sc,.slice ga goals.length gc]):=Hd (hg ▸ h0);have hLL:L.length<=100:=by omega
 rw [hg];replace hg:=Hd hg;replace hLl:=Hd hLl;replace hO:=Hd hO;replace hw1:=Hd hw1;clear CW h0 hw0 hb1;go_wp2
 go_loopg [4] L.length (fun n s4 wr=>∃ k:Nat,Hid (k+n=L.length)/\s4=.int .i64 k/\Hid (Below w1.heap.size w1 wr))
 case atStart=>exact ⟨0,by show _=_;omega,rfl,Below.refl _ _⟩
 case round =>
  obtain ⟨k,hm,rfl,hwr⟩:=hrel;by_cases hlt:k<L.length
  ·
   obtain ⟨v,hv⟩:=qac hlt;obtain ⟨lb,rfl,_,_,hc⟩:=(hO.out.below hwr.out).at_ qee hv;have c0:wr.cell? ⟨lb,k,none⟩=some (.int .i64 v):=by simpa using hc 0 _ rfl
   have hkI:(k:Int)<(L.length:Int):=by omega
   replace hv:=Hd hv;clear hc;by_cases h8:8<v
   ·
    have hd:=decide_eq_true h8;have hw':=bth hw1.out hwr.out;replace hw':=Hd hw';replace h8:=Hd h8;exact zz80
   ·
    have hd:=decide_eq_false h8;replace h8:=Hd h8;go_wp2;go_roundg (gk-1)
    case rel=>exact ⟨k+1,by have:=hm.out;show _=_;omega,by go_num,hwr.out⟩
    case measure=>have:=hm.out;omega
  ·
   have hw2:=Hd hwr.out;obtain ⟨gk0,rfl⟩:∃ n,n=gk:=⟨_,rfl⟩
   obtain ⟨wo,rfl⟩:∃ wo:World,wo=wr:=⟨_,rfl⟩
   clear hwr hm;go_wp2
   go_loopg [5,6,7] goals.length (fun n s5 _ _ wr=>∃ k:Nat,Hid (k+n=goals.length)/\s5=.int .i64 k/\Hid (Below w1.heap.size w1 wr))
   case atStart=>exact ⟨0,by show _=_;omega,rfl,hw2.out⟩
   case round =>
    obtain ⟨j,hm,rfl,hwr⟩:=hrel;have h0r:=h0'.out.below' hwr.out;have z1:=h0r.cell 1;have zl:=h0r.lt;by_cases hlj:j<goals.length
    ·
     obtain ⟨f,hf⟩:=qac hlj;obtain ⟨fb,fo,rfl,p,⟨c0,c1,c2,c3,c4⟩,hP,hki⟩:=((HG.out.ext (xbw hw1.out)).ext (xbw hwr.out)).2.2 j f hf;obtain ⟨kind,args,ratio⟩:=f;obtain ⟨aa,ac,na,nc,da,dc⟩:=p;dsimp only at c0 c1 c2 c3 c4 hP hki;have hgi:∀ x∈args,0<=x/\x<(L.length:Int):=fun x hx=>by rw [hLl.out];exact hgl.out _ (List.mem_of_getElem? hf) x hx
     have hfl:fb<wo.heap.size\/True:=.inr trivial;have hal:=hP.1.len;have hdj:decide ((j:Int)<(goals.length:Int))=true:=decide_eq_true (by omega);replace hgi:=Hd hgi;replace hP:=Hd hP;replace hf:=Hd hf;replace hki:=Hd hki;replace h0r:=Hd h0r;clear hfl;go_wp2;refine qab (fun W=>Blk W wr.heap.size 86 #[.int .i64 kind,.slice aa args.length ac,.bool ratio.neg,.slice na ratio.num.length nc,.slice da ratio.den.length dc]/\Below wr.heap.size wr W/\wr.heap.size<W.heap.size) ⟨by ((with_reducible repeat first|assumption|(apply bF;focus omega)|apply bS|(apply bN;focus (simp;done))|apply bA|apply bD);all_goals rfl),by go_grown,by simp⟩ ?_;rintro w3 ⟨b3,hb3,hl3⟩;obtain ⟨gF,hgF⟩:∃ g,wr.heap.size=g:=⟨_,rfl⟩
     have b3':Hid (Blk w3 gF 86 #[.int .i64 kind,.slice aa args.length ac,.bool ratio.neg,.slice na ratio.num.length nc,.slice da ratio.den.length dc]):=Hd (hgF ▸ b3);simp only [hgF];have hw3:=Hd (bth hwr.out hb3);have hP3:=Hd (hP.out.1.ext (xbw hb3));have hO3:=Hd (hO.out.below (bth hwr.out hb3));replace hgF:=Hd hgF;obtain ⟨gk1,rfl⟩:∃ n,n=gk:=⟨_,rfl⟩
     obtain ⟨wq,rfl⟩:∃ wo:World,wo=wr:=⟨_,rfl⟩
     clear b3 hb3 hl3 z1 zl c0 c1 c2 c3 c4
     go_loopg [7] args.length (fun n s7 wr=>∃ i:Nat,Hid (i+n=args.length)/\s7=.int .i64 i/\Hid (Below w3.heap.size w3 wr))
     case atStart=>exact ⟨0,by show _=_;omega,rfl,Below.refl _ _⟩
     case round =>
      clear hwr;obtain ⟨i,hmi,rfl,hwi⟩:=hrel;have b3r:=b3'.out.below' hwi.out;obtain ⟨y0,y1⟩:=cq2 b3r;have yl:=b3r.lt;have hw':=Hd (bth hw1.out (bth hw3.out hwi.out));have hw'':=Hd (bth hw3.out hwi.out);by_cases hli:i<args.length
      ·
       obtain ⟨x,hx⟩:=qac hli;obtain ⟨hx0,hx1⟩:=hgi.out x (List.mem_of_getElem? hx);obtain ⟨ab,ao,rfl,hc⟩:=hP3.out.2.2 i x hx;have d0:=held hc.1 wr hwi.out;obtain ⟨n,rfl⟩:∃ n:Nat,x=(n:Int):=⟨x.toNat,by omega⟩
       obtain ⟨v,hv⟩:=qac (xs:=L) (k:=n) (by omega);obtain ⟨lb,rfl,_,_,hc2⟩:=(hO3.out.below hwi.out).at_ qee hv;have q0:wr.cell? ⟨lb,n,none⟩=some (.int .i64 v):=by simpa using hc2 0 _ rfl
       simp only [Nat.mul_one] at d0;have hiI:(i:Int)<(args.length:Int):=by omega
       have hnI:((n:Nat):Int)<(L.length:Int):=by omega
       replace hx:=Hd hx;replace hv:=Hd hv;replace b3r:=Hd b3r;clear hc hc2 hx0 hx1;have hkk:(kind=6\/kind=7)\/(¬ kind=6/\¬ kind=7):=by omega
       rcases hkk with hk6 | ⟨hk6,hk7⟩
       ·
        have hkb:((kind==6)=true)\/((kind==6)=false/\(kind==7)=true):=by
         rcases hk6 with rfl | rfl
         · exact .inl rfl
         · exact .inr ⟨rfl,rfl⟩
        clear hk6;by_cases h3:3<v
        ·
         have hd3:=decide_eq_true h3;replace h3:=Hd h3;rcases hkb with hkb | ⟨hkb,hkc⟩
         ·
          exact zz80
         ·
          exact zz80
        ·
         have hd3:=decide_eq_false h3;replace h3:=Hd h3;rcases hkb with hkb | ⟨hkb,hkc⟩
         ·
          exact zz79
         ·
          exact zz79
       ·
        have hkb:(kind==6)=false:=by simpa using hk6
        have hkc:(kind==7)=false:=by simpa using hk7
        clear hk6 hk7;exact zz79
      ·
       go_wp2;go_roundg (gk1-1)
       case rel=>exact ⟨j+1,by have:=hm.out;show _=_;omega,by go_num,hw''.out⟩
       case measure=>have:=hm.out;omega
    ·
     have hw':=Hd (bth hw1.out hwr.out);go_wp2;refine bodyPost_ret (v:=.bool true) (by simp [results,Tryz.results37,go_sem]) rfl ?_;exact RetBo.of _ hw'.out
def Fig.small (f:Fig):Prop:=f.steps.length<=8/\f.goals.length<=3/\f.err=0/\∀ s∈f.steps,s.ratio.num.length<=2/\s.ratio.den.length<=2
def qeq (f:Fig) (w:World) (e:Ending) (w':World):Prop:=∃ b:Bool,e=.returned (.bool b)/\(b=true->f.small)/\Below w.heap.size w w'
theorem qeq.no {f:Fig} {w w':World} (h:Below w.heap.size w w'):qeq f w (.returned (.bool false)) w':=⟨false,rfl,fun h=>(by cases h),h⟩
theorem zz81 {P:Prop} (h:P:=by
 go_wp2;refine bodyPost_ret (v:=.bool false) (by simp [results,Tryz.results17,go_sem]) rfl ?_;exact qeq.no hw'.out
 ):P:=h
theorem zz82 {P:Prop} (h:P:=by
 go_enter Tryz.func17,Tryz.ntmps17;go_wp2;refine bodyPost_ret (v:=.bool false) (by simp [results,Tryz.results17,go_sem]) rfl ?_;exact qeq.no hb0.out
 ):P:=h
theorem qso (steps:List Step) (goals:List Fct) (sa:Option Addr) (sc:Nat) (ga:Option Addr) (gc:Nat) (w:World) (h:FigR w sa sc ga gc ⟨steps,goals⟩) (hq:Fig.few ⟨steps,goals⟩) :
  Calls Tryz.prog 17 #[.agg #[.slice sa steps.length sc,.slice ga goals.length gc]] w (qeq ⟨steps,goals⟩ w):=by
 have CR:=Hd (fun W (hW:Below w.heap.size w W)=>qf6 ⟨steps,goals⟩ sa sc ga gc W ⟨h.1.ext (xbw hW),h.2.ext (xbw hW)⟩ hq);have HS:=Hd h.1;have HG:=Hd h.2;have l1:=SlR.len h.1;have l2:=SlR.len h.2;unfold Fig.val at CR;dsimp only at CR l1 l2;have hz0:Blk (w.alloc (.cells #[.slice sa steps.length sc,.slice ga goals.length gc] 25)) w.heap.size 25 #[.slice sa steps.length sc,.slice ga goals.length gc]:=Blk.new w _ _;have hb0:Below w.heap.size w (w.alloc (.cells #[.slice sa steps.length sc,.slice ga goals.length gc] 25)):=by go_grown
 obtain ⟨er,her⟩:∃ er,Fig.err ⟨steps,goals⟩=er:=⟨_,rfl⟩
 rw [her] at CR;replace her:=Hd her;replace hz0:=Hd hz0;replace hb0:=Hd hb0;clear h hq;by_cases h8:steps.length<=8
 ·
  by_cases h3:goals.length<=3
  ·
   go_enter Tryz.func17,Tryz.ntmps17;go_wp2_with fail;refine qad (fun W=>Blk W w.heap.size 25 #[.slice sa steps.length sc,.slice ga goals.length gc]/\Below w.heap.size w W) ⟨by ((with_reducible repeat first|assumption|(apply bF;focus omega)|apply bS|(apply bN;focus (simp;done))|apply bA|apply bD);all_goals rfl),by go_grown⟩ ?_;rintro w0 ⟨h0,hw0⟩;refine (CR.out w0 hw0).mono ?_;rintro e w1 ⟨rfl,hb1⟩;have hw1:=bth hw0 hb1;replace h0:=h0.below' hb1;clear CR hw0 hb1;by_cases he:er=0
   ·
    subst he;have hE:=her.out;have CT:=Hd (fun W (hW:Below w1.heap.size w1 W)=>qvj steps goals sa sc ga gc W (HS.out.ext (xbw (bth hw1 hW))) (HG.out.ext (xbw (bth hw1 hW))) (fun k s hs=>(qdx hE).2 k s hs) h8 (quz hE));obtain ⟨z0,z1⟩:=cq2 h0;have zl:=h0.lt;replace hE:=Hd hE;go_wp2_with fail;refine (CT.out w1 brf).mono ?_;rintro e w2 ⟨⟨b,rfl⟩,hb2⟩;have hw2:=bth hw1 hb2;replace h0:=h0.below' hb2;obtain ⟨g,hg⟩:∃ g,w.heap.size=g:=⟨_,rfl⟩
    have h0':Hid (Blk w2 g 25 #[.slice sa steps.length sc,.slice ga goals.length gc]):=Hd (hg ▸ h0);simp only [hg];replace hg:=Hd hg;replace hw2:=Hd hw2;clear CT hb2 z0 z1 zl h0 hw1
    cases b
    ·
     go_wp2;refine bodyPost_ret (v:=.bool false) (by simp [results,Tryz.results17,go_sem]) rfl ?_;exact qeq.no hw2.out
    ·
     obtain ⟨z0,z1⟩:=cq2 h0'.out;have zl:=h0'.out.lt;go_wp2
     go_loopg [3] steps.length (fun n s3 wr=>∃ k:Nat,Hid (k+n=steps.length)/\s3=.int .i64 k/\Hid (∀ (i:Nat) (s:Step),i<k->steps[i]? = some s->s.ratio.num.length<=2/\s.ratio.den.length<=2)/\Hid (Below w2.heap.size w2 wr))
     case atStart=>exact ⟨0,by show _=_;omega,rfl,fun i s hi=>absurd hi (by omega),Below.refl _ _⟩
     case round =>
      clear z0 z1 zl;obtain ⟨k,hm,rfl,hall,hwr⟩:=hrel;have h0r:=h0'.out.below' hwr.out;obtain ⟨z0,z1⟩:=cq2 h0r;have zl:=h0r.lt;have hw':=Hd (bth hw2.out hwr.out);replace h0r:=Hd h0r;by_cases hlt:k<steps.length
      ·
       obtain ⟨s,hs⟩:=qac hlt;obtain ⟨b,o,rfl,p,⟨c0,c1,c2,c3,c4,c5⟩,hP,hki,_⟩:=(HS.out.ext (xbw hw'.out)).2.2 k s hs;have p1:=hP.2.1.len;have p2:=hP.2.2.len;have hs':=Hd hs;replace hP:=Hd hP;clear hs;by_cases b1:s.ratio.num.length<=2
       ·
        by_cases b2:s.ratio.den.length<=2
        ·
         have hnx:=Hd (show ∀ (i:Nat) (t:Step),i<k+1->steps[i]? = some t->t.ratio.num.length<=2/\t.ratio.den.length<=2 from fun i t hi ht=>by
          by_cases hik:i=k
          ·
           subst hik;rw [hs'.out] at ht;injection ht with ht
           subst ht;exact ⟨b1,b2⟩
          · exact hall.out i t (by omega) ht)
         go_wp2;go_roundg (gk-1)
         case rel=>exact ⟨k+1,by have:=hm.out;show _=_;omega,by go_num,hnx.out,hwr.out⟩
         case measure=>have:=hm.out;omega
        ·
         exact zz81
       ·
        exact zz81
      ·
       have hall2:=Hd (show ∀ s∈steps,s.ratio.num.length<=2/\s.ratio.den.length<=2 from fun s hs=>by
        obtain ⟨i,hi⟩:=List.getElem?_of_mem hs;exact hall.out i s (by have:=qas hi;have:=hm.out;omega) hi)
       have hsm:=Hd (show Fig.small ⟨steps,goals⟩ from ⟨h8,h3,hE.out,hall2.out⟩);obtain ⟨gk0,rfl⟩:∃ n,n=gk:=⟨_,rfl⟩
       obtain ⟨wo,rfl⟩:∃ wo:World,wo=wr:=⟨_,rfl⟩
       have hwo:=Hd hwr.out;clear hm hall hwr hall2;go_wp2
       go_loopg [4] goals.length (fun n s4 wr=>∃ k:Nat,Hid (k+n=goals.length)/\s4=.int .i64 k/\Hid (Below w2.heap.size w2 wr))
       case atStart=>exact ⟨0,by show _=_;omega,rfl,hwo.out⟩
       case round =>
        clear z0 z1 zl hw' h0r;obtain ⟨j,hm,rfl,hwr⟩:=hrel;have h0r:=h0'.out.below' hwr.out;obtain ⟨z0,z1⟩:=cq2 h0r;have zl:=h0r.lt;have hw':=Hd (bth hw2.out hwr.out);replace h0r:=Hd h0r;by_cases hlj:j<goals.length
        ·
         obtain ⟨f,hf⟩:=qac hlj;obtain ⟨b,o,rfl,p,⟨c0,c1,c2,c3,c4⟩,hP,hki⟩:=(HG.out.ext (xbw hw'.out)).2.2 j f hf;have p1:=hP.2.1.len;have p2:=hP.2.2.len;replace hf:=Hd hf;replace hP:=Hd hP;by_cases b1:f.ratio.num.length<=2
         ·
          by_cases b2:f.ratio.den.length<=2
          ·
           go_wp2;go_roundg (gk-1)
           case rel=>exact ⟨j+1,by have:=hm.out;show _=_;omega,by go_num,hwr.out⟩
           case measure=>have:=hm.out;omega
          ·
           exact zz81
         ·
          exact zz81
        ·
         go_wp2;refine bodyPost_ret (v:=.bool true) (by simp [results,Tryz.results17,go_sem]) rfl ?_;exact ⟨true,rfl,fun _=>hsm.out,hw'.out⟩
   ·
    have hne:(er != 0)=true:=by simpa using he
    obtain ⟨z0,z1⟩:=cq2 h0;have zl:=h0.lt;replace he:=Hd he;go_wp2;refine bodyPost_ret (v:=.bool false) (by simp [results,Tryz.results17,go_sem]) rfl ?_;exact qeq.no hw1
  ·
   exact zz82
 ·
  exact zz82
theorem qt9 (f:Fig) (sa:Option Addr) (sc:Nat) (ga:Option Addr) (gc:Nat) (w:World) (h:FigR w sa sc ga gc f) (hq:f.few) :
  Calls Tryz.prog 6 #[f.val sa sc ga gc] w (qeq f w):=by
 obtain ⟨steps,goals⟩:=f;have CF:=Hd (fun W (hW:Below w.heap.size w W)=>qso steps goals sa sc ga gc W ⟨h.1.ext (xbw hW),h.2.ext (xbw hW)⟩ hq);unfold Fig.val;dsimp only;clear h hq;go_enter Tryz.func6,Tryz.ntmps6;go_wp2_with fail;refine qad (fun W=>Below w.heap.size w W) (by go_grown) ?_;intro w0 hw0;refine (CF.out w0 hw0).mono ?_;rintro e w1 ⟨b,rfl,hb,hb1⟩;have hw1:=bth hw0 hb1;replace hb:=Hd hb;go_wp2;refine bodyPost_ret (v:=.bool b) (by simp [results,Tryz.results6,go_sem]) rfl ?_;exact ⟨b,rfl,hb.out,hw1⟩
end Go.Proofs.YtfaalkneigpcnaaGreatDoor
namespace Go.Proofs.YtfaalkneigpcnaaGreatDoor
open Go.ChangeShapes Go.WideShapes Go.ChangeAt Go.RowKit
theorem len2 {α:Type} {l:List α} (h:l.length=2):∃ x0 x1,l=[x0,x1]:=by
 match l,h with
 | [x0,x1],_=>exact ⟨x0,x1,rfl⟩
theorem len3 {α:Type} {l:List α} (h:l.length=3):∃ x0 x1 x2,l=[x0,x1,x2]:=by
 match l,h with
 | [x0,x1,x2],_=>exact ⟨x0,x1,x2,rfl⟩
theorem len4 {α:Type} {l:List α} (h:l.length=4):∃ x0 x1 x2 x3,l=[x0,x1,x2,x3]:=by
 match l,h with
 | [x0,x1,x2,x3],_=>exact ⟨x0,x1,x2,x3,rfl⟩
theorem len5 {α:Type} {l:List α} (h:l.length=5):∃ x0 x1 x2 x3 x4,l=[x0,x1,x2,x3,x4]:=by
 match l,h with
 | [x0,x1,x2,x3,x4],_=>exact ⟨x0,x1,x2,x3,x4,rfl⟩
theorem len6 {α:Type} {l:List α} (h:l.length=6):∃ x0 x1 x2 x3 x4 x5,l=[x0,x1,x2,x3,x4,x5]:=by
 match l,h with
 | [x0,x1,x2,x3,x4,x5],_=>exact ⟨x0,x1,x2,x3,x4,x5,rfl⟩
theorem qo5 {α β:Type} {p:Nat->β->α->Prop} (l:List β) (h:∀ i y,l[i]? = some y->∃ z,p i y z) :
  ∃ zs:List α,zs.length=l.length/\∀ (i:Nat) (z:α),zs[i]? = some z->∃ y,l[i]? = some y/\p i y z:=by
 induction l generalizing p with
 | nil=>exact ⟨[],rfl,fun i z hz=>by simp at hz⟩
 | cons x l ih =>
  obtain ⟨z0,h0⟩:=h 0 x rfl;obtain ⟨zs,hl,hz⟩:=ih (p:=fun i=>p (i+1)) (fun i y hy=>h (i+1) y (by simpa using hy));refine ⟨z0 :: zs,by simp [hl],fun i z hi=>?_⟩
  cases i with
  | zero=>simp at hi;subst hi;exact ⟨x,rfl,h0⟩
  | succ i=>simpa using hz i z (by simpa using hi)
theorem qib {H α:Type} (size:α->Nat):∀ (ds:List (DataW H)) (zs:List α),zs.length=ds.length->(∀ (i:Nat) (z:α) (d:DataW H),zs[i]? = some z->ds[i]? = some d->size z<=Rows.uptoBulk d) ->
  (zs.map size).sum<=Rows.uptoBulkAll ds
 | [],zs,hl,_=>by
  have:zs=[]:=List.eq_nil_of_length_eq_zero (by simpa using hl);subst this;simp
 | d :: ds,[],hl,_=>by simp at hl
 | d :: ds,z :: zs,hl,h=>by
  have h0:=h 0 z d rfl rfl;have h1:=qib size ds zs (by simpa using hl) (fun i z d hz hd=>h (i+1) z d (by simpa using hz) (by simpa using hd));simp only [List.map_cons,List.sum_cons,Rows.uptoBulkAll]
  omega
section
variable {H : Type} {enc : TypeId × Value -> H} {P : Program} {W : World} {sp : Nat -> Bool} {held : Bool}
theorem qh5 {t e:TypeId} {sz fuel:Nat} {cs:List Value} {x:DataW H × List MemPlace} (ht:P.underlying t=some (.slice e)) (hc:P.cellsOf e=sz) (hs:0<sz)
  (h:DataW.trod enc P W 0 sp held fuel t cs=some x) {α:Type} (E:World->Nat->Nat->α->Prop) (size:α->Nat)
  (conv:∀ n cs' y b o,n<fuel->DataW.trod enc P W 0 sp held n e cs'=some y->cs'.length=sz->(∀ j,j<sz->W.cell? ⟨b,o+j,none⟩=cs'[j]?)->∃ z,E W b o z/\size z<=Rows.uptoBulk y.1) :
  ∃ (a:Option Addr) (cap:Nat) (zs:List α),cs=[.slice a zs.length cap]/\SlR sz E W a cap zs/\(zs.map size).sum+1<=Rows.uptoBulk x.1:=by
 rcases DataW.trod_slice ht h with ⟨rfl,rfl⟩ | ⟨a,len,cap,elems,rest,n,hn,rfl,rfl,_,hl,hm,hlen,hel,_,_⟩
 · exact ⟨none,0,[],rfl,SlR.nil,by simp [Rows.uptoBulk]⟩
 ·
  rw [hc] at hel;have key:∀ i y,elems[i]? = some y->∃ z,(∃ b off,a=⟨b,off,none⟩/\E W b (off+i*sz) z)/\size z<=Rows.uptoBulk y.1:=by
   intro i y hy;have hi:i<len:=by rw [<- hlen];exact qas hy
   have h1:=hel i hi;rw [hy] at h1;obtain ⟨cs',hcs,hty⟩:=Option.bind_eq_some_iff.1 h1;obtain ⟨_,hl',hcell⟩:=World.cells?_some hcs;have hspot:∃ b off,a=⟨b,off,none⟩:=by
    have h0:=hcell 0 hs;rw [List.getElem?_eq_getElem (by omega)] at h0;have:=World.cell?_spot h0;obtain ⟨b,off,spot⟩:=a;by_cases hi0:i*sz=0
    ·
     simp [Addr.add,hi0] at this;subst this;exact ⟨b,off,rfl⟩
    ·
     have h2:=hel 0 (by omega);obtain ⟨y0,hy0⟩:=qac (xs:=elems) (k:=0) (by omega);rw [hy0] at h2;obtain ⟨cs0,hcs0,_⟩:=Option.bind_eq_some_iff.1 h2;obtain ⟨_,hl0,hcell0⟩:=World.cells?_some hcs0;have h3:=hcell0 0 hs;rw [List.getElem?_eq_getElem (by omega)] at h3;have:=World.cell?_spot h3;simp [Addr.add] at this;subst this;exact ⟨b,off,rfl⟩
   obtain ⟨b,off,rfl⟩:=hspot;obtain ⟨z,hz,hsz⟩:=conv n cs' y b (off+i*sz) (by omega) hty hl' (fun j hj=>by
    rw [<- hcell j hj,add_plain,add_plain])
   exact ⟨z,⟨b,off,rfl,hz⟩,hsz⟩
  obtain ⟨zs,hzl,hz⟩:=qo5 (p:=fun i y z=>(∃ b off,a=⟨b,off,none⟩/\E W b (off+i*sz) z)/\size z<=Rows.uptoBulk y.1) elems key;refine ⟨some a,cap,zs,by rw [hzl,hlen],⟨by omega,hm,fun k z hk=>?_⟩,?_⟩
  ·
   obtain ⟨y,hy,⟨b,off,rfl,he⟩,_⟩:=hz k z hk;exact ⟨b,off,rfl,he⟩
  ·
   have h1:=qib size (elems.map (·.1)) zs (by simpa using hzl) (fun i z d hzi hd=>by
    obtain ⟨y,hy,_,hs⟩:=hz i z hzi;rw [List.getElem?_map,hy] at hd;simp at hd;subst hd;exact hs)
   simp only [Rows.uptoBulk]
   omega
end
theorem qn5 {H:Type} {enc:TypeId × Value->H} {P:Program} {W:World} {sp:Nat->Bool} {held:Bool} {e:TypeId} {k:IntKind} (he:P.underlying e=some (.int k)) (n:Nat) (cs':List Value) (y:DataW H × List MemPlace) (b o:Nat)
  (h:DataW.trod enc P W 0 sp held n e cs'=some y) (hc:∀ j,j<1->W.cell? ⟨b,o+j,none⟩=cs'[j]?):∃ z,IntE k W b o z/\1<=Rows.uptoBulk y.1:=by
 obtain ⟨z,rfl,rfl,hw⟩:=DataW.trod_int he h;exact ⟨z,⟨by have:=hc 0 (by omega);simpa using this,hw⟩,by simp [Rows.uptoBulk]⟩
end Go.Proofs.YtfaalkneigpcnaaGreatDoor
namespace Go.Proofs.YtfaalkneigpcnaaGreatDoor
open Go.ChangeShapes Go.WideShapes Go.ChangeAt Go.RowKit
theorem qit:Tryz.prog.cellsOf 51=3:=by kernel_rfl
theorem qnu:Tryz.prog.cellsOf 49=2:=by kernel_rfl
theorem qnf:Tryz.prog.cellsOf 47=1:=by kernel_rfl
theorem qyi:Tryz.prog.cellsOf 4=1:=by kernel_rfl
theorem qwk:Tryz.prog.cellsOf 102=1:=by kernel_rfl
theorem qg8 {α:Type} (l:List α):(l.map fun _=>1).sum=l.length:=by induction l with
 | nil=>rfl
 | cons x l ih=>simp only [List.map_cons,List.sum_cons,ih,List.length_cons];omega
section
variable {H : Type} {enc : TypeId × Value -> H} {W : World} {sp : Nat -> Bool} {held : Bool} {n : Nat}
theorem qmv {cs:List Value} {y:DataW H × List MemPlace} (h:DataW.trod enc Tryz.prog W 0 sp held n 47 cs=some y) :
  ∃ a c zs,cs=[.slice a (List.length zs) c]/\NatR W a c zs/\zs.length+1<=Rows.uptoBulk y.1:=by
 obtain ⟨a,c,zs,h1,h2,h3⟩:=qh5 Tryz.underlying47 qwk (by omega) h (IntE .u16) (fun _=>1) (fun m cs' y b o _ ht _ hc=>qn5 Tryz.underlying102 m cs' y b o ht hc);rw [qg8] at h3;exact ⟨a,c,zs,h1,h2,h3⟩
theorem qq0 {cs:List Value} {y:DataW H × List MemPlace} (h:DataW.trod enc Tryz.prog W 0 sp held n 49 cs=some y) :
  ∃ b a c zs,cs=[.bool b,.slice a (List.length zs) c]/\NatR W a c zs/\zs.length+2<=Rows.uptoBulk y.1:=by
 obtain ⟨xs,m,rfl,rfl,hcl,hxl,hf⟩:=DataW.trod_struct Tryz.underlying49 h;rw [qnu] at hcl;obtain ⟨c0,c1,rfl⟩:=len2 hcl;obtain ⟨y0,y1,rfl⟩:=len2 (show xs.length=2 from hxl)
 ·
  have h0:=hf 0 _ rfl;have h1:=hf 1 _ rfl;simp [qyi,qnf] at h0 h1;obtain ⟨b,e0,rfl⟩:=DataW.trod_bool Tryz.underlying4 h0;obtain ⟨a,c,zs,e1,h2,h3⟩:=qmv h1;simp at e0 e1;subst e0;subst e1;refine ⟨b,a,c,zs,rfl,h2,?_⟩;simp [Rows.uptoBulk,Rows.uptoBulkAll] at h3 ⊢
  omega
theorem qm4 {cs:List Value} {y:DataW H × List MemPlace} (h:DataW.trod enc Tryz.prog W 0 sp held n 51 cs=some y) :
  ∃ b na nc num da dc den,cs=[.bool b,.slice na (List.length num) nc,.slice da (List.length den) dc]/\NatR W na nc num/\NatR W da dc den/\num.length+den.length+2<=Rows.uptoBulk y.1:=by
 obtain ⟨xs,m,rfl,rfl,hcl,hxl,hf⟩:=DataW.trod_struct Tryz.underlying51 h;rw [qit] at hcl;obtain ⟨c0,c1,c2,rfl⟩:=len3 hcl;obtain ⟨y0,y1,rfl⟩:=len2 (show xs.length=2 from hxl)
 ·
  have h0:=hf 0 _ rfl;have h1:=hf 1 _ rfl;simp [qnu,qnf] at h0 h1;obtain ⟨b,na,nc,num,e0,h2,h3⟩:=qq0 h0;obtain ⟨da,dc,den,e1,h4,h5⟩:=qmv h1;simp at e0 e1;obtain ⟨rfl,rfl⟩:=e0;subst e1;refine ⟨b,na,nc,num,da,dc,den,rfl,h2,h4,?_⟩;simp [Rows.uptoBulk,Rows.uptoBulkAll] at h3 h5 ⊢
  omega
end
end Go.Proofs.YtfaalkneigpcnaaGreatDoor
namespace Go.Proofs.YtfaalkneigpcnaaGreatDoor
open Go.ChangeShapes Go.WideShapes Go.ChangeAt Go.RowKit
theorem qlw:Tryz.prog.cellsOf 45=1:=by kernel_rfl
theorem qn1:Tryz.prog.cellsOf 3=1:=by kernel_rfl
theorem qxy:Tryz.prog.cellsOf 9=1:=by kernel_rfl
section
variable {H : Type} {enc : TypeId × Value -> H} {W : World} {sp : Nat -> Bool} {held : Bool} {n : Nat}
theorem qi6 {cs:List Value} {y:DataW H × List MemPlace} (h:DataW.trod enc Tryz.prog W 0 sp held n 45 cs=some y) :
  ∃ a c zs,cs=[.slice a (List.length zs) c]/\IntsR W a c zs/\zs.length+1<=Rows.uptoBulk y.1:=by
 obtain ⟨a,c,zs,h1,h2,h3⟩:=qh5 Tryz.underlying45 qn1 (by omega) h (IntE .i64) (fun _=>1) (fun m cs' y b o _ ht _ hc=>qn5 Tryz.underlying3 m cs' y b o ht hc);rw [qg8] at h3;exact ⟨a,c,zs,h1,h2,h3⟩
end
end Go.Proofs.YtfaalkneigpcnaaGreatDoor
namespace Go.Proofs.YtfaalkneigpcnaaGreatDoor
open Go.ChangeShapes Go.WideShapes Go.ChangeAt Go.RowKit
def Rt.weight (r:Rt):Nat:=r.num.length+r.den.length
def Step.weight (s:Step):Nat:=s.point.size+s.args.length+s.ratio.weight+1
def Fct.weight (s:Fct):Nat:=s.args.length+s.ratio.weight+1
def Fig.weight (f:Fig):Nat:=(f.steps.map Step.weight).sum+(f.goals.map Fct.weight).sum
theorem qj3 {α:Type} (g:α->Nat) {l:List α} {x:α} (h:x∈l):g x<=(l.map g).sum:=by
 induction l with
 | nil=>cases h
 | cons y l ih =>
  simp only [List.map_cons,List.sum_cons];rcases List.mem_cons.1 h with rfl | h
  · omega
  · have:=ih h;omega
theorem Fig.few_of {f:Fig} (h:f.weight<=2000000):f.few:=by
 unfold Fig.weight at h;refine ⟨fun s hs=>?_,fun s hs=>?_⟩
 ·
  have h1:=qj3 Step.weight hs;have h2:s.weight=s.point.size+s.args.length+(s.ratio.num.length+s.ratio.den.length)+1:=rfl
  constructor <;> omega
 ·
  have h1:=qj3 Fct.weight hs;have h2:s.weight=s.args.length+(s.ratio.num.length+s.ratio.den.length)+1:=rfl
  constructor <;> omega
theorem qlo:Tryz.prog.cellsOf 53=6:=by kernel_rfl
theorem qnh:Tryz.prog.cellsOf 86=5:=by kernel_rfl
theorem qwm:Tryz.prog.cellsOf 25=2:=by kernel_rfl
theorem qru:Tryz.prog.cellsOf 22=1:=by kernel_rfl
theorem qsu:Tryz.prog.cellsOf 23=1:=by kernel_rfl
section
variable {H : Type} {enc : TypeId × Value -> H} {W : World} {sp : Nat -> Bool} {held : Bool}
theorem qqj {n:Nat} {cs:List Value} {y:DataW H × List MemPlace} (h:DataW.trod enc Tryz.prog W 0 sp held n 53 cs=some y) :
  ∃ (s:Step) (p:RA),cs=[.int .i64 s.kind,.string s.point,.slice p.aa s.args.length p.ac,.bool s.ratio.neg,.slice p.na s.ratio.num.length p.nc,.slice p.da s.ratio.den.length p.dc]/\qb8 W p s.args s.ratio/\InInt s.kind/\s.point.size<=9223372036854775807/\s.weight<=Rows.uptoBulk y.1:=by
 obtain ⟨xs,m,rfl,rfl,hcl,hxl,hf⟩:=DataW.trod_struct Tryz.underlying53 h;rw [qlo] at hcl;obtain ⟨c0,c1,c2,c3,c4,c5,rfl⟩:=len6 hcl;obtain ⟨y0,y1,y2,y3,rfl⟩:=len4 (show xs.length=4 from hxl)
 ·
  have h0:=hf 0 _ rfl;have h1:=hf 1 _ rfl;have h2:=hf 2 _ rfl;have h3:=hf 3 _ rfl;simp [qn1,qxy,qlw,qit] at h0 h1 h2 h3;obtain ⟨kind,e0,rfl,w0⟩:=DataW.trod_int Tryz.underlying3 h0;obtain ⟨point,e1,rfl,w1⟩:=DataW.trod_string Tryz.underlying9 h1;obtain ⟨aa,ac,args,e2,r2,w2⟩:=qi6 h2;obtain ⟨neg,na,nc,num,da,dc,den,e3,r3,r4,w3⟩:=qm4 h3;simp at e0 e1 e2 e3;obtain ⟨rfl,rfl,rfl⟩:=e3;subst e0 e1 e2;refine ⟨⟨kind,point,args,⟨neg,num,den⟩⟩,⟨aa,ac,na,nc,da,dc⟩,rfl,⟨r2,r3,r4⟩,qed w0,w1,?_⟩;simp [Rows.uptoBulk,Rows.uptoBulkAll,Step.weight,Rt.weight] at w2 w3 ⊢;have:point.data.size=point.size:=rfl
  omega
theorem qua {n:Nat} {cs:List Value} {y:DataW H × List MemPlace} (h:DataW.trod enc Tryz.prog W 0 sp held n 86 cs=some y) :
  ∃ (s:Fct) (p:RA),cs=[.int .i64 s.kind,.slice p.aa s.args.length p.ac,.bool s.ratio.neg,.slice p.na s.ratio.num.length p.nc,.slice p.da s.ratio.den.length p.dc]/\qb8 W p s.args s.ratio/\InInt s.kind/\s.weight<=Rows.uptoBulk y.1:=by
 obtain ⟨xs,m,rfl,rfl,hcl,hxl,hf⟩:=DataW.trod_struct Tryz.underlying86 h;rw [qnh] at hcl;obtain ⟨c0,c2,c3,c4,c5,rfl⟩:=len5 hcl;obtain ⟨y0,y2,y3,rfl⟩:=len3 (show xs.length=3 from hxl)
 ·
  have h0:=hf 0 _ rfl;have h2:=hf 1 _ rfl;have h3:=hf 2 _ rfl;simp [qn1,qlw,qit] at h0 h2 h3;obtain ⟨kind,e0,rfl,w0⟩:=DataW.trod_int Tryz.underlying3 h0;obtain ⟨aa,ac,args,e2,r2,w2⟩:=qi6 h2;obtain ⟨neg,na,nc,num,da,dc,den,e3,r3,r4,w3⟩:=qm4 h3;simp at e0 e2 e3;obtain ⟨rfl,rfl,rfl⟩:=e3;subst e0 e2;refine ⟨⟨kind,args,⟨neg,num,den⟩⟩,⟨aa,ac,na,nc,da,dc⟩,rfl,⟨r2,r3,r4⟩,qed w0,?_⟩;simp [Rows.uptoBulk,Rows.uptoBulkAll,Fct.weight,Rt.weight] at w2 w3 ⊢
  omega
theorem qs6 {n:Nat} {cs:List Value} {y:DataW H × List MemPlace} (h:DataW.trod enc Tryz.prog W 0 sp held n 25 cs=some y) :
  ∃ (f:Fig) (sa:Option Addr) (sc:Nat) (ga:Option Addr) (gc:Nat),cs=[.slice sa f.steps.length sc,.slice ga f.goals.length gc]/\FigR W sa sc ga gc f/\f.weight<=Rows.uptoBulk y.1:=by
 obtain ⟨xs,m,rfl,rfl,hcl,hxl,hf⟩:=DataW.trod_struct Tryz.underlying25 h;rw [qwm] at hcl;obtain ⟨c0,c1,rfl⟩:=len2 hcl;obtain ⟨y0,y1,rfl⟩:=len2 (show xs.length=2 from hxl)
 ·
  have h0:=hf 0 _ rfl;have h1:=hf 1 _ rfl;simp [qru,qsu] at h0 h1;obtain ⟨sa,sc,steps,e0,r0,w0⟩:=qh5 Tryz.underlying22 qlo (by omega) h0 StepE Step.weight (fun k cs' y b o hk ht hl hc=>by
   obtain ⟨s,p,rfl,hP,hi,hp,hw⟩:=qqj ht;refine ⟨s,⟨p,⟨?_,?_,?_,?_,?_,?_⟩,hP,hi,hp⟩,hw⟩
   · have:=hc 0 (by omega);simpa using this
   · have:=hc 1 (by omega);simpa using this
   · have:=hc 2 (by omega);simpa using this
   · have:=hc 3 (by omega);simpa using this
   · have:=hc 4 (by omega);simpa using this
   · have:=hc 5 (by omega);simpa using this)
  obtain ⟨ga,gc,goals,e1,r1,w1⟩:=qh5 Tryz.underlying23 qnh (by omega) h1 FctE Fct.weight (fun k cs' y b o hk ht hl hc=>by
   obtain ⟨s,p,rfl,hP,hi,hw⟩:=qua ht;refine ⟨s,⟨p,⟨?_,?_,?_,?_,?_⟩,hP,hi⟩,hw⟩
   · have:=hc 0 (by omega);simpa using this
   · have:=hc 1 (by omega);simpa using this
   · have:=hc 2 (by omega);simpa using this
   · have:=hc 3 (by omega);simpa using this
   · have:=hc 4 (by omega);simpa using this)
  simp at e0 e1;subst e0 e1;refine ⟨⟨steps,goals⟩,sa,sc,ga,gc,rfl,⟨r0,r1⟩,?_⟩;simp [Rows.uptoBulk,Rows.uptoBulkAll,Fig.weight] at w0 w1 ⊢
  omega
theorem qpf {r:Reach} {b0:Nat} {v:Value} {d:DataW H} {p:List MemPlace} (hv:Value.okWide Tryz.prog W r b0 25 v) (h:DataW.Trod enc Tryz.prog W 0 sp held 25 v d p) :
  ∃ (f:Fig) (sa:Option Addr) (sc:Nat) (ga:Option Addr) (gc:Nat),v=f.val sa sc ga gc/\FigR W sa sc ga gc f/\f.weight<=Rows.uptoBulk d:=by
 obtain ⟨cs,rfl,_⟩:=okWide_struct Tryz.underlying25 hv;obtain ⟨n,hn⟩:=h;obtain ⟨f,sa,sc,ga,gc,h1,h2,h3⟩:=qs6 hn;refine ⟨f,sa,sc,ga,gc,?_,h2,h3⟩;obtain ⟨l⟩:=cs;simp [Value.cells] at h1;simp [Fig.val,h1]
end
end Go.Proofs.YtfaalkneigpcnaaGreatDoor
namespace Go.Proofs.YtfaalkneigpcnaaGreatDoor
open Go.RowKit
theorem qha (f:Fig) (sa:Option Addr) (sc:Nat) (ga:Option Addr) (gc:Nat) (w:World) (h:FigR w sa sc ga gc f) (hq:f.few) :
  Calls Tryz.prog 3 #[f.val sa sc ga gc] w fun e w'=>e=.returned (.bool true)/\Below w.heap.size w w':=by
 have CF:=fun W (hW:Below w.heap.size w W)=>qt9 f sa sc ga gc W ⟨h.1.ext (xbw hW),h.2.ext (xbw hW)⟩ hq
 have C1:=fun hr W (hW:Below w.heap.size w W)=>qhr f sa sc ga gc W ⟨h.1.ext (xbw hW),h.2.ext (xbw hW)⟩ hq hr
 have C2:=fun hr W (hW:Below w.heap.size w W)=>ql7 f sa sc ga gc W ⟨h.1.ext (xbw hW),h.2.ext (xbw hW)⟩ hq hr
 have CA:=Hd (fun W=>qok W);obtain ⟨t,ht⟩:∃ t,chF f=t:=⟨_,rfl⟩
 rw [ht] at C1 C2;obtain ⟨t1,t2,t3⟩:=t;obtain ⟨steps,goals⟩:=f;unfold Fig.val at CF C1 C2 ⊢;unfold RetCh at C1 C2;dsimp only at CF C1 C2 ⊢;replace CF:=Hd CF;replace C1:=Hd C1;replace C2:=Hd C2;clear h hq ht;go_enter Tryz.func3,Tryz.ntmps3;go_wp2_with fail;refine qad (fun W=>Blk W w.heap.size 25 #[.slice sa steps.length sc,.slice ga goals.length gc]/\Below w.heap.size w W) ⟨by ((with_reducible repeat first|assumption|(apply bF;focus omega)|apply bS|(apply bN;focus (simp;done))|apply bA|apply bD);all_goals rfl),by go_grown⟩ ?_;rintro w0 ⟨h0,hw0⟩;refine (CF.out w0 hw0).mono ?_;rintro e w1 ⟨b,rfl,hb,hb1⟩;have hw1:=bth hw0 hb1;replace h0:=h0.below' hb1;clear hw0 hb1 CF
 cases b
 ·
  clear hb;go_wp2_with fail;refine (CA.out w1).mono ?_;rintro e w2 ⟨rfl,hb2⟩;have hw2:=Hd (bth hw1 hb2);clear hw1 hb2;go_wp2;refine bodyPost_ret (v:=.bool true) (by simp [results,Tryz.results3,go_sem]) rfl ?_;exact ⟨rfl,hw2.out⟩
 ·
  have hr:=(hb rfl).2.2.2;replace C1:=Hd (C1.out hr);replace C2:=Hd (C2.out hr);obtain ⟨z0,z1⟩:=cq2 h0;have zl:=h0.lt;clear hb hr;go_wp2_with fail;refine (C1.out w1 hw1).mono ?_;rintro e w2 ⟨rfl,hb2⟩;have hw2:=bth hw1 hb2;replace h0:=h0.below' hb2;clear z0 z1 zl hw1 hb2 C1;obtain ⟨z0,z1⟩:=cq2 h0;have zl:=h0.lt;go_wp2_with fail;refine (C2.out w2 hw2).mono ?_;rintro e w3 ⟨rfl,hb3⟩;have hw3:=bth hw2 hb3;clear z0 z1 zl hw2 hb3 C2 h0;go_wp2_with fail;refine (CA.out w3).mono ?_;rintro e w4 ⟨rfl,hb4⟩;have hw4:=Hd (bth hw3 hb4);clear hw3 hb4;go_wp2;refine bodyPost_ret (v:=.bool true) (by simp [results,Tryz.results3,go_sem]) rfl ?_;exact ⟨rfl,hw4.out⟩
theorem qg9 {v:Value} {w:World} {n:Nat} (h:∃ (f:Fig) (sa:Option Addr) (sc:Nat) (ga:Option Addr) (gc:Nat),v=f.val sa sc ga gc/\FigR w sa sc ga gc f/\f.weight<=n) (hn:n<=1048576) :
  Calls Tryz.prog 3 #[v] w fun r w'=>r=.returned (.bool true)/\Below w.heap.size w w':=by
 obtain ⟨f,sa,sc,ga,gc,rfl,hr,hw⟩:=h;exact qha f sa sc ga gc w hr (Fig.few_of (by omega))
end Go.Proofs.YtfaalkneigpcnaaGreatDoor
namespace Go.Proofs.YtfaalkneigpcnaaGreatDoor
open Go.ChangeShapes Go.WideShapes Go.ChangeAt Go.RowKit
theorem qme {H:Type} {enc:TypeId × Value->H} {P:Program} (hl:laidOutB P=true) {W W':World} (hB:Below W.heap.size W W') :
  ∀ (ts:List TypeId) (vs:List Value) (ds:List (DataW H)) (p:List MemPlace),(ts.all fun t=>P.readableRec t&&decide (t<P.types.size))=true ->
   (∀ x∈p,x.block<W.heap.size)->DataW.TrodAll enc P W 0 (fun _=>true) true ts vs ds p->DataW.TrodAll enc P W' 0 (fun b=>decide (b<W.heap.size)) true ts vs ds p:=by
 intro ts
 induction ts with
 | nil=>intro vs ds p _ _ h;cases vs <;> cases ds <;> first | exact h | exact h.elim
 | cons t ts ih =>
  intro vs ds p ha hp h
  cases vs with
  | nil=>exact h.elim
  | cons v vs =>
   cases ds with
   | nil=>exact h.elim
   | cons d ds =>
    obtain ⟨p1,q1,h1,h2,rfl⟩:=h;simp only [List.all_cons,Bool.and_eq_true,decide_eq_true_eq] at ha;exact ⟨p1,q1,Below.trod hl ha.1.1 ha.1.2 h1 hB (fun x hx=>hp x (by simp [hx])),ih vs ds q1 ha.2 (fun x hx=>hp x (by simp [hx])) h2,rfl⟩
theorem qvd {H:Type} {enc:TypeId × Value->H} {P:Program} {f:Func} {s:ChangeSpec} {W W':World} {args:Array Value} {ds gs:List (DataW H)} {before:List MemPlace} {tb:TypeId}
  (hl:laidOutB P=true) (hts:(f.params.toList.all fun t=>P.readableRec t&&decide (t<P.types.size))=true) (hr:f.resultTypes=#[tb]) (hb:P.underlying tb=some .bool) (hv:s.vars=[])
  (hW:DataW.Whole enc P f.params.toList s.vars false W args.toList ds gs before) (hfn:s.fn H (ds++gs)={ results:=[.lit (.bool true)],args:=ds,vars:=[] })
  (hB:Below W.heap.size W W'):s.post enc P f false true false false W args (.bool true) W':=by
 have hlt:=hW.lt;have hW0:=hW;obtain ⟨p,q,hA,hV,rfl,_,_⟩:=hW;rw [hv] at hV;obtain ⟨rfl,rfl⟩:=trodVars_none hV;refine ⟨ds,_,_,[],p,[],hW0,?_,?_,?_,hB.frame _,fun h=>by cases h⟩
 ·
  rw [hfn,hr];exact trodAll_mk1 (shut_bool hb true)
 ·
  rw [hfn];exact qme hl hB _ _ _ _ hts (fun x hx=>by simpa using hlt x (by simp [hx])) hA
 ·
  rw [hfn,hv]
  rfl
end Go.Proofs.YtfaalkneigpcnaaGreatDoor
namespace Go.Proofs.YtfaalkneigpcnaaGreatDoor.instanceChoicesUpto
open Go.ChangeShapes Go.WideShapes Go.ChangeAt Go.RowKit
set_option linter.unusedVariables false
theorem own:ownKnob Tryz.prog.godebug=none:=by kernel_rfl
theorem laidOut:laidOutB Tryz.prog=true:=by kernel_rfl
theorem readable:(Tryz.f3.params.toList.all fun t=>Tryz.prog.readableRec t&&decide (t<Tryz.prog.types.size))=true:=by kernel_rfl
theorem contract (H:Type) (enc:TypeId × Value->H) (W:World) (base:Nat) (args:Array Value) (ds gs:List (DataW H)) (before:List MemPlace)
  (hval:∀ (j:Nat) t v,Tryz.f3.params[j]? = some t->args[j]? = some v->Value.okWide Tryz.prog W .any base t v)
  (hW:DataW.Whole enc Tryz.prog Tryz.f3.params.toList Rows.instanceChoicesSpec.vars false W args.toList ds gs before) (hk:Rows.uptoSmall H (ds++gs)=true) (hL:laidMetH Tryz.prog Rows.instanceChoicesUptoRow.laid W) (hsh:W.ShapedOpen Tryz.prog) :
  Calls Tryz.prog 3 args W fun e W'=>∃ v,e=.returned v/\Rows.instanceChoicesSpec.post enc Tryz.prog Tryz.f3 false true false false W args v W':=by
 have hW':=hW;obtain ⟨p,q,hA0,hV,rfl,hfz,hnd⟩:=hW;have hA:DataW.TrodAll enc Tryz.prog W 0 (fun _=>true) true Tryz.f3.params.toList args.toList ds p:=hA0;rw [Tryz.params3] at hA hval;obtain ⟨v0,vs0,d0,ds0,p0,q0,hargs,rfl,rfl,h0,r0⟩:=trodAll_cons hA;obtain ⟨rfl,rfl,rfl⟩:=trodAll_nil r0;obtain rfl:args=#[v0]:=by cases args;simp_all
 obtain ⟨rfl,rfl⟩:=trodVars_none hV;clear hA0 hA r0;have hbulk:=of_decide_eq_true hk;simp only [List.cons_append,List.nil_append,Rows.uptoBulkAll] at hbulk;have hx0:=qpf (hval 0 25 v0 rfl rfl) h0;refine (qg9 hx0 (by omega)).mono fun e W' ⟨he,hg⟩=>?_
 subst he;exact ⟨_,rfl,qvd laidOut readable (by kernel_rfl) Tryz.underlying4 rfl hW' (by rfl) hg⟩
noncomputable def laidWorld (os:Os):World:=World.laidAll Tryz.prog os Rows.instanceChoicesUptoRow.laid
def wargs:Array Value:=#[.agg #[.slice none 0 0,.slice none 0 0]]
theorem laid_met (os:Os):laidMet Tryz.prog Rows.instanceChoicesUptoRow.laid ((laidWorld os).forCall (fun _ _=>0) ⟨#[],wargs,[]⟩).memory :=
 laidMet_laidAll wargs (by kernel_rfl) (by kernel_rfl)
theorem reads (os:Os) {H:Type} (enc:TypeId × Value->H):∃ places,DataW.whole enc Tryz.prog ((laidWorld os).forCall (fun _ _=>0) ⟨#[],wargs,[]⟩).memory Tryz.f3.params.toList Rows.instanceChoicesSpec.vars false wargs.toList 8=some ([.agg [.nil,.nil]],[],places) :=
 ⟨[],by kernel_rfl⟩
theorem lifted (os:Os) (started:os.Started) (H:Type) (enc:TypeId × Value->H) (F:Stop.Interp) :
  ReturnsInHanded {} Tryz.checked os 3 .any ((Rows.OpenSpec.upto Rows.instanceChoicesSpec).preRow enc Tryz.prog Tryz.f3 Rows.instanceChoicesUptoRow.domain false Rows.instanceChoicesUptoRow.laid) (((Rows.OpenSpec.upto Rows.instanceChoicesSpec).at F).post enc Tryz.prog Tryz.f3 false true false false):=by
 obtain ⟨places,hx⟩:=reads os enc;refine returnsInHanded_of_row (C:=Tryz.checked) (s:=Rows.OpenSpec.upto Rows.instanceChoicesSpec) own started (by kernel_rfl) Tryz.func3
  (witness_row_at (enc:=enc) (C:=Tryz.checked) false (laidWorld os) wargs (World.laidAll_os _ _ _) (by kernel_rfl) (by kernel_rfl) (by kernel_rfl)
   (OpenSpec.preRow_of_cond 8 hx (by kernel_rfl) (fun k hk=>by cases hk;kernel_rfl) (by kernel_rfl) (laid_met os))) ?_
 intro W base args ds gs before hval hW _ hcond _ hL hsh _;exact contract H enc W base args ds gs before hval hW (hcond _ rfl) hL hsh
theorem said:Rows.InstanceChoicesUptoSaid :=
 OpenClaim.holds_of_cond 3 Tryz.f3 rfl rfl rfl rfl rfl rfl rfl ⟨rfl,rfl,rfl,rfl,rfl⟩ rfl rfl rfl rfl rfl (by kernel_rfl) Tryz.func3 (by kernel_rfl)
  (of_decide_eq_true (by kernel_rfl)) (by unfold Func.isWrapper;first | (rw [if_pos (by decide +kernel)];kernel_rfl) | (rw [if_neg (by decide +kernel)];exact ⟨rfl,rfl⟩))
  (fun os started H enc _ F=>by rw [OpenClaim.pre_eq_preRow];exact lifted os started H enc F)
theorem plain (f : FuncId) (fn : Func) (hf : Tryz.pinned.checked.prog.funcNamed "geoprover/geoproverlaw26.InstanceChoices" = some f) (hfn : Tryz.pinned.checked.prog.funcs[f]? = some fn) :
  false=Tryz.pinned.checked.prog.looks []/\∀ (j:Nat) t,fn.params[j]? = some t->Tryz.pinned.checked.prog.wantsStandIn t=false:=by
 obtain rfl : f = 3 := Option.some.inj ((show Tryz.prog.funcNamed "geoprover/geoproverlaw26.InstanceChoices" = some 3 by kernel_rfl).symm.trans hf) |>.symm
 obtain rfl:fn=Tryz.f3:=(Option.some.inj (Tryz.func3.symm.trans hfn)).symm;refine ⟨by kernel_rfl,fun j t ht=>?_⟩;rw [Tryz.params3] at ht;obtain rfl:t=25:=by simpa using Array.mem_of_getElem? ht
 exact (show Tryz.prog.wantsStandIn 25=false by kernel_rfl)
theorem card:Rows.InstanceChoicesUptoCardSaid :=
 Claim7.holds_tied_plain_at .later [] _ _ _ _ said (fun _ h=>by cases h) (by kernel_rfl) (fun _ h=>by cases h) instanceChoicesUpto_row_tie rfl ⟨rfl,rfl⟩ (by kernel_rfl) rfl plain (by kernel_rfl)
#print axioms said
#print axioms card
end Go.Proofs.YtfaalkneigpcnaaGreatDoor.instanceChoicesUpto
