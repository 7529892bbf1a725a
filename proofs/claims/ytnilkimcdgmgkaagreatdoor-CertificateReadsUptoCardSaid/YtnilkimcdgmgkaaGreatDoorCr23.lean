/- The reference's sum of terms, one by one: where a term goes (plain); walk: zeros. -/
import Derived.Test.YtnilkimcdgmgkaaGreatDoorCr15
import Derived.Test.YtnilkimcdgmgkaaGreatDoorCr1
import Derived.Test.YtnilkimcdgmgkaaGreatDoorCr20
import Derived.Test.YtnilkimcdgmgkaaGreatDoorCr22
import Derived.Test.YtnilkimcdgmgkaaGreatDoorCr17
import Derived.Test.YtnilkimcdgmgkaaGreatDoorCr21
import Derived.Test.YtnilkimcdgmgkaaGreatDoorCr13
import Derived.Test.YtnilkimcdgmgkaaGreatDoorCr10
set_option linter.all false
set_option maxRecDepth 100000
set_option maxHeartbeats 4000000
namespace Go.Proofs.YtnilkimcdgmgkaaGreatDoor
open Go.RowKit
theorem qk0 {B:Nat} {w:World} {l m:List Int} {ops:Array Oper} {rest:List Oper} {o:Oper} {act:Act} {Q:Exit->Act->World->Prop} (hgd:o.guard=none) (s y:Operand)
  (ho:o.op=.call { callee:=.builtin .append,args:=#[s,y],argTypes:=#[79,79] })
  (a:Option Addr) (c:Nat) (hs:act.eval s=.slice a l.length c) (hown:OwnI B w a c l)
  (am:Option Addr) (cm:Nat) (hy:act.eval y=.slice am m.length cm) (hr:IntsR w am cm m)
  (l2:List Int) (hl2:l2=l++m) (hlen:l2.length<=16777216) (hB:B<=w.heap.size)
  (h:∀ a' c' w',OwnI B w' a' c' l2->w.grownBy w' (Value.ownBlock (.slice a l.length c))->Below B w w' ->
   wpList Tryz.prog ops Q rest (act.put o.dst (.slice a' l2.length c')) w'):wpList Tryz.prog ops Q (o :: rest) act w :=
 wpList_plain hgd fun _ hK=>qhs s y 79 ho Tryz.underlying79 infoZ rfl (by omega) (by omega) qe3 a c hs hown (fun x _=>qlk x) am cm hy
  (fun k x hx=>by
   obtain ⟨b,off,e,hc⟩:=qag6 hr hx;refine ⟨b,off,e,fun j u hu=>?_⟩
   match j,hu with
   | 0,hu=>simp [intC] at hu;subst hu;simpa using hc) l2 hl2 hlen hB fun a' c' w' h1 h2 h3=>hK _ _ (h a' c' w' h1 h2 h3)
theorem OwnI.readsN {B:Nat} {w V:World} {a:Option Addr} {c:Nat} {l:List Int} (h:OwnI B w a c l) (hs:∀ x∈l,InInt x) (hV:New B w V):IntsR V a c l:=by
 refine Own.readsX (X:=fun b=>b<B) l rfl qe3 h (fun p v hp hc=>hV p v (Nat.le_of_not_lt hp) hc) (fun g hg hlt=>by have:=(h.lt hg).1;omega) fun b o k x y h1 h2 hc=>?_
 rw [h1] at h2;injection h2 with h2
 subst h2;exact ⟨by simpa using hc 0 _ rfl,wf_of (hs _ (List.mem_of_getElem? h1))⟩
theorem qzt (l:List Int) (a:Option Addr) (c:Nat) (w:World) (h:IntsR w a c l) (hl:l.length<=1000000) :
  Calls Tryz.prog 170 #[.slice a l.length c] w (RetMo (cutM l) w):=by
 have hc:=h.1;have HI:=Hd h;have hin:=Hd (fun x (hx:x∈l)=>(show InInt x from by
  obtain ⟨k,hk⟩:=List.getElem?_of_mem hx;obtain ⟨_,_,_,_,hi⟩:=qbx h hk;exact hi))
 obtain ⟨R,hR⟩:∃ R,cutM l=R:=⟨_,rfl⟩
 have hRl:∃ n,R=l.take n:=by
  obtain ⟨z,hz,_⟩:=qf9 l;refine ⟨R.length,?_⟩;rw [hR] at hz;rw [hz,List.take_left]
 rw [hR];replace hR:=Hd hR;replace hRl:=Hd hRl;clear h;go_enter Tryz.func170,Tryz.ntmps170;go_wp2
 go_loopg [3] l.length (fun g q wr=>q=.int .i64 g/\Hid (g<=l.length)/\Hid (cutM (l.take g)=R)/\w=wr)
 case atStart=>exact ⟨rfl,nlr _,by show _=_;rw [List.take_length];exact hR.out,rfl⟩
 case round =>
  obtain ⟨rfl,hg,hcut,rfl⟩:=hrel
  cases gk with
  | zero =>
   -- what is left is copied: R is l.take 0
   have hRT:l.take 0=R:=(show l.take 0=R by rw [<- hcut.out];rfl)
   have hrl:R.length=0:=by rw [<- hRT,List.length_take];omega
   have hCI:IntsR w a c R:=by
    have h5:=HI.out.cut (n:=0);rw [hRT] at h5;exact ⟨by have:=h5.2.2;have:=hc;omega,HI.out.2.1,h5.2.2⟩
   have hRi:=Hd (show ∀ x∈R,InInt x from fun x hx=>hin.out x (by rw [<- hRT] at hx;exact List.mem_of_mem_take hx));have hRz:=Hd (show R.length<=1000000 by omega);have hsl:=fun W=>qgh a l.length c 0 (by omega) W
   rw [<- hrl] at hsl;have hCI':=Hd hCI;replace hrl:=Hd hrl;clear hRT hCI hR hin HI hcut;have hr0:((R.length:Nat):Int)=0:=by have:=hrl.out;omega
   rw [hr0] at hsl;go_wp2_with (at_builtin;go_must (refine qk0 (B:=w.heap.size) rfl (.tmp 19) (.tmp 22) rfl none 0 (l:=[]) rfl Own.nil a c rfl hCI'.out R rfl (by have:=hRz.out;omega) (nlr _) ?_);intro a3 c3 w3 ho3 hg3 hb3);go_ret;exact ⟨a3,c3,rfl,Kp.made fun V hV=>OwnI.readsN ho3 hRi.out hV,hb3⟩
  | succ n =>
   have hn1:(((n+1:Nat):Int)-1)=(n:Int):=by omega
   have hnc:((n+1:Nat):Int)=(n:Int)+1:=by omega
   have hnl:n<l.length:=by have:=hg.out;omega
   obtain ⟨x,hx⟩:=qad hnl;obtain ⟨b,off,rfl,hcx,hix⟩:=qbx HI.out hx;have hct:=qnn hx;have hpos:(0:Int)<(n:Int)+1:=by omega
   have dpos:decide ((0:Int)<(n:Int)+1)=true:=by rw [decide_eq_true_iff];omega
   by_cases h0:x=0
   ·
    have hx0:(x==0)=true:=by simpa using h0
    rw [if_pos h0] at hct;have hcut2:=Hd (hct.symm.trans hcut.out);clear hct hcut hx h0 hix;rw [hnc];go_wp2;go_roundg n
    case rel=>exact ⟨by first | rfl | go_num,by have:=hg.out;show _<=_;omega,hcut2.out,rfl⟩
    case measure=>omega
   ·
    have hx0:(x==0)=false:=by simpa using h0
    rw [if_neg h0] at hct
    -- what is left is copied: R is l.take (n+1)
    have hRT:l.take (n+1)=R:=(hct.symm.trans hcut.out)
    have hrl:R.length=(n+1):=by rw [<- hRT,List.length_take];omega
    have hCI:IntsR w (some ⟨b,off,none⟩) c R:=by
     have h5:=HI.out.cut (n:=(n+1));rw [hRT] at h5;exact ⟨by have:=h5.2.2;have:=hc;omega,HI.out.2.1,h5.2.2⟩
    have hRi:=Hd (show ∀ x∈R,InInt x from fun x hx=>hin.out x (by rw [<- hRT] at hx;exact List.mem_of_mem_take hx));have hRz:=Hd (show R.length<=1000000 by omega);have hsl:=fun W=>qgh (some ⟨b,off,none⟩) l.length c (n+1) (by omega) W
    rw [<- hrl] at hsl;have hCI':=Hd hCI;replace hrl:=Hd hrl;clear hRT hCI hR hin HI hcut;have hr0:((R.length:Nat):Int)=(n:Int)+1:=by have:=hrl.out;omega
    rw [hr0] at hsl;rw [hnc];clear hct hx h0 hix;go_wp2_with (at_builtin;go_must (refine qk0 (B:=w.heap.size) rfl (.tmp 19) (.tmp 22) rfl none 0 (l:=[]) rfl Own.nil (some ⟨b,off,none⟩) c rfl hCI'.out R rfl (by have:=hRz.out;omega) (nlr _) ?_);intro a3 c3 w3 ho3 hg3 hb3);go_ret;exact ⟨a3,c3,rfl,Kp.made fun V hV=>OwnI.readsN ho3 hRi.out hV,hb3⟩
theorem qfh (l:List Int) (a:Option Addr) (c:Nat) (w:World) (h:IntsR w a c l) (hl:l.length<=1000000) :
  Calls Tryz.prog 121 #[.slice a l.length c] w (RetMo (if monoB (cutM l)=true then cutM l else []) w):=by
 have CT:=qzt l a c w h hl;obtain ⟨R,hR⟩:∃ R,cutM l=R:=⟨_,rfl⟩
 rw [hR] at CT ⊢;obtain ⟨b,hb⟩:∃ b,monoB R=b:=⟨_,rfl⟩
 rw [hb];obtain ⟨Q,hQ⟩:∃ Q,(if b=true then R else [])=Q:=⟨_,rfl⟩
 rw [hQ];replace hQ:=Hd hQ;have CR:=fun a' c' W (hI:IntsR W a' c' R)=>qot R a' c' W hI
 simp only [hb] at CR;replace CR:=Hd CR;replace CT:=Hd CT;clear hb hR h;go_enter Tryz.func121,Tryz.ntmps121;go_wp2_with fail;refine CT.out.mono ?_;rintro e w1 ⟨a1,c1,rfl,hK,hb1⟩;have hK':=Hd hK;go_wp2_with fail;refine (CR.out a1 c1 w1 hK.now).mono ?_;rintro e w2 ⟨rfl,rfl⟩;clear CR CT hK
 cases b
 ·
  have hq0:=hQ.out;rw [if_neg (by decide)] at hq0;subst hq0;go_wp2;go_ret;exact ⟨none,0,rfl,Kp.made fun _ _=>SlR.nil,hb1⟩
 ·
  have hq0:=hQ.out;rw [if_pos rfl] at hq0;subst hq0;go_wp2;go_ret;exact ⟨a1,c1,rfl,hK'.out,hb1⟩
theorem RowZ.readz {w:World} {g:Nat} {l:List Int} (h:RowZ w g l) (hs:InZ l):IntsR w (some ⟨g,0,none⟩) 64 l :=
 ⟨by have:=hs.1;omega,by simp [maxLen],fun k x hx=>⟨g,0,rfl,by simpa using h.cell hx,wf_of (by have:=hs.2 x (List.mem_of_getElem? hx);unfold InInt;omega)⟩⟩
theorem qvu {names:List ByteArray} {l r:List UInt8} {p:Nat × Int} (h:powG names l=.ok p r):r.length<l.length:=by
 obtain ⟨NG,hNG⟩:∃ G,namG names l=G:=⟨_,rfl⟩
 cases NG with
 | bad k e=>rw [qn5 hNG] at h;cases h
 | ok v r1 =>
  have h1:=qhf hNG;by_cases h94:r1[0]? = some 94
  ·
   rw [qqm hNG h94] at h;obtain ⟨EG,hEG⟩:∃ G,expG (r1.drop 1)=G:=⟨_,rfl⟩
   rw [hEG] at h
   cases EG with
   | bad k e=>cases h
   | ok n r2 =>
    injection h with _ h
    subst h;have:=qn9 hEG;rw [List.length_drop] at this
    omega
  ·
   rw [qrc hNG h94] at h;injection h with _ h
   subst h;exact h1
def RetTR (G:Got Tm) (g:Nat) (s:ByteArray) (nv:Value) (w:World) (e:Ending) (w':World):Prop:=∃ t:TQ,e=.returned (.agg #[.bool t.x.neg,.slice t.x.a t.x.n t.x.c,.slice t.x.b t.x.m t.x.d,.slice t.a t.n t.c])/\(∀ u r,G=.ok u r->Kp (fun V=>t.R u V/\qsz u.1<=1000) w.heap.size w'.heap.size w') /\
 (∀ k er,G=.bad k er->∃ q,Kp (fun V=>QK 1000 V t.x q) w.heap.size w'.heap.size w')/\StGr w' g s nv G/\Fg g w w'
theorem zz76 {P:Prop} (h:P:=by
 refine qac ?_;go_wp2
 go_meet
 case rel=>exact ⟨rfl,hz2'.out,hy2'.out,h2'.out,hf2'.out.call (brf.drew),hK2'.out.call (brf.drew),hlt2'.out⟩
 ):P:=h
theorem quy (g a:Nat) (s:ByteArray) (names:List ByteArray) (na:Option Addr) (nc:Nat) (w:World) (h:RrA w g s (Value.slice na names.length nc) a 0) (ha:a<=s.size) (hs:s.size<=281474976710656) (hN:StrsR w na nc names) (hnb:names≠[]->∀ p:Addr,na=some p->p.block≠g) (hnl:names.length<=1000) :
  Calls Tryz.prog 66 #[.pointer (some ⟨g,0,none⟩)] w (RetTR (terG names (tl s a)) g s (Value.slice na names.length nc) w):=by
 have HN:=Hd (fun W (hW:Fg g w W)=>(show StrsR W na nc names from ⟨hN.1,hN.2.1,fun k x hx=>by
  obtain ⟨b,off,e,hc⟩:=hN.2.2 k x hx;exact ⟨b,off,e,hW.agr _ _ (fun e2=>hnb (fun e0=>by rw [e0] at hx;simp at hx) _ e e2) hc⟩⟩))
 have HNB:=Hd hnb;obtain ⟨GG,hGG⟩:∃ G,terG names (tl s a)=G:=⟨_,rfl⟩
 rw [hGG];have hgg0:=h.lt;have H:=Hd (fun o=>show RrA (w.alloc o) g s (Value.slice na names.length nc) a 0 from bA h);obtain ⟨z0,z1,z2,z3⟩:=cq4 h;have hl:=h.lt;clear h hN hnb;go_enter Tryz.func66,Tryz.ntmps66;go_wp2_with fail;refine qah (fun W=>Blk W w.heap.size 81 #[.bool false,.slice none 0 0,.slice none 0 0,.slice none 0 0]/\RrA W g s (Value.slice na names.length nc) a 0/\Fg g w W/\w.heap.size<W.heap.size) ⟨Blk.new w _ _,H.out _,(Fr.refl _ _).alloc _,by simp⟩ ?_;clear z0 z1 z2 z3 hl H;rintro w0 ⟨hz0,h0,hf0,hlt0⟩;obtain ⟨g2,hg2⟩:∃ q,w.heap.size=q:=⟨_,rfl⟩
 have hg2w:Hid (w.heap.size<=g2):=Hd (by omega);have hgg:Hid (g<g2):=Hd (by omega);rw [hg2] at hz0 ⊢;have hg2B:Hid (g2<w0.heap.size):=Hd (by omega);replace hg2:=Hd hg2;refine (qm9 w0).mono ?_;rintro e w1 ⟨x,rfl,hK1,hb1⟩;obtain ⟨B0,hB0⟩:∃ q,w0.heap.size=q:=⟨_,rfl⟩
 rw [hB0] at hg2B hK1;obtain ⟨g4,hg4⟩:∃ q,w1.heap.size=q:=⟨_,rfl⟩
 have hg24:Hid (g2<g4/\B0<=g4):=Hd (by have:=hb1.size;have:=hg2B.out;omega);have hz1':=hz0.below' hb1;have h1':=h0.below hb1;have hf1':=hf0.call hb1;replace hg4:=Hd hg4;have hgl1:=h1'.lt;replace hB0:=Hd hB0;replace hz1':=Hd hz1';replace h1':=Hd h1';replace hf1':=Hd hf1';replace hK1:=Hd hK1;clear hgg0 hlt0 hz0 h0 hf0 hb1;go_wp2;refine qak (fun W=>Blk W g2 81 #[.bool false,.slice none 0 0,.slice none 0 0,.slice none 0 0]/\Blk W g4 81 #[.bool x.neg,.slice x.a x.n x.c,.slice x.b x.m x.d,.slice none 0 0]/\RrA W g s (Value.slice na names.length nc) a 0/\Fg g w W/\Kp (fun V=>QK 1 V x 1) B0 g4 W/\g4<W.heap.size) ⟨bA hz1'.out,bN hg4.out.symm,bA h1'.out,hf1'.out.alloc _,by have:=hK1.out;rw [hg4.out] at this;exact this.alloc,by rw [<- hg4.out];simp⟩ ?_;rw [hg4.out];clear hz1' h1' hf1' hK1 hgl1;rintro w2 ⟨hz2,hy2,h2,hf2,hK2,hlt2⟩
 have hz2':=Hd hz2;have hy2':=Hd hy2;have h2':=Hd h2;have hf2':=Hd hf2;have hK2':=Hd hK2;have hlt2':=Hd hlt2;obtain ⟨bd,hbd⟩:∃ b,decide (numL (tl s a)≠0)=b:=⟨_,rfl⟩
 go_cut [35] from 14 to 34 (fun v wc=>v=.bool bd/\Hid (Blk wc g2 81 #[.bool false,.slice none 0 0,.slice none 0 0,.slice none 0 0])/\Hid (Blk wc g4 81 #[.bool x.neg,.slice x.a x.n x.c,.slice x.b x.m x.d,.slice none 0 0])/\Hid (RrA wc g s (Value.slice na names.length nc) a 0)/\Hid (Fg g w wc)/\Hid (Kp (fun V=>QK 1 V x 1) B0 g4 wc)/\Hid (g4<wc.heap.size))
 case first =>
  obtain ⟨z0,z1,z2,z3⟩:=cq4 h2;have hl:=h2.lt;clear hz2 hy2 h2 hf2 hK2 hlt2 hg24 hgg hg2w hg2B hGG;by_cases hlt:a<s.size
  ·
   have hT:=tl_at hlt;obtain ⟨c,hc⟩:∃ c,s[a]'hlt=c:=⟨_,rfl⟩
   rw [hc] at hT;obtain ⟨y,hy⟩:∃ y:Nat,c.toNat=y:=⟨_,rfl⟩
   have hy0:(s[a]'hlt).toNat=y:=by rw [hc];exact hy
   have CD:=qdx (y:Int);have hdy:digU c=digV (y:Int):=by unfold digU;rw [hy]
   obtain ⟨bd0,hbd0⟩:∃ b,digV (y:Int)=b:=⟨_,rfl⟩
   simp only [hbd0] at CD;rw [hbd0] at hdy;have hbe:bd0=bd:=by
    rw [<- hbd]
    cases bd0
    · rw [hT,numL,hdy];simp
    · rw [hT,qea hdy];simp
   subst hbe;replace CD:=Hd CD;clear hT hdy hbd0 hc hy hbd;refine wrx (S:=(fun x=>x=w2.drew)) [(0,.q),(1,.q),(2,.q),(3,.q),(4,.q),(5,.q),(6,.q),(7,.q),(8,.q),(9,.q),(10,.q),(11,.q),(12,.q),(13,.q),(14,.q),(15,.q),(16,.q),(17,.q),(18,.q),(19,.q),(20,.t),(21,.p)] (rfl) ?_
   iterate 20 (refine qab rfl rfl fun K hK=>xq ?_;go_simp;refine hK _ _ ?_;clear hK K)
   refine qam rfl rfl (fun K hK=>?_);go_simp;refine (CD.out w2.drew).mono ?_;rintro e w' ⟨rfl,rfl⟩;dsimp only;refine hK.out _ _ ?_;clear hK K
   iterate 1 (refine qae rfl rfl fun K hK=>xp ?_;go_simp;refine hK _ _ ?_;clear hK K)
   exact zz76
  ·
   have hbe:bd=false:=by rw [<- hbd,qbn (by omega)];rfl
   subst hbe;clear hbd;refine wrx (S:=(fun x=>x=w2.drew)) [(0,.q),(1,.q),(2,.q),(3,.q),(4,.q),(5,.q),(6,.q),(7,.q),(8,.q),(9,.q),(10,.q),(11,.q),(12,.q),(13,.q),(14,.q),(15,.q),(16,.q),(17,.q),(18,.q),(19,.q),(20,.t),(21,.p)] (rfl) ?_
   iterate 11 (refine qab rfl rfl fun K hK=>xq ?_;go_simp;refine hK _ _ ?_;clear hK K)
   iterate 10 (refine qar rfl rfl (fun K hK=>?_);go_simp;refine hK _ _ ?_;clear hK K)
   iterate 1 (refine qae rfl rfl fun K hK=>xp ?_;go_simp;refine hK _ _ ?_;clear hK K)
   exact zz76
 case rest =>
  clear hz2 hy2 h2 hf2 hK2 hlt2 hz2' hy2' h2' hf2' hK2' hlt2';obtain ⟨rfl,hz3,hy3,h3,hf3,hK3,hlt3⟩:=hcut;obtain ⟨w3,rfl⟩:∃ W:World,W=wc:=⟨_,rfl⟩
  go_upto_if 35 with fail
  go_cut [] from 36 to 42 (fun wc=>∃ (x:QA) (q:Rat) (p BB TB:Nat),Hid (p<=s.size)/\Hid (Blk wc g2 81 #[.bool false,.slice none 0 0,.slice none 0 0,.slice none 0 0])/\Hid (Blk wc g4 81 #[.bool x.neg,.slice x.a x.n x.c,.slice x.b x.m x.d,.slice none 0 0])/\Hid (RrA wc g s (Value.slice na names.length nc) p 0)/\Hid (Fg g w wc)/\Hid (Kp (fun V=>QK 1000 V x q) BB TB wc)/\Hid (B0<=BB/\TB<=wc.heap.size/\(g4<BB\/TB<=g4))/\Hid (GG=bndQ q ((proG names (s.size-a) ((tl s p).length+1) zerM (tl s p)).bnd fun m r=>.ok (cutM m) r)))
  case first =>
   cases bd
   ·
    have h0:numL (tl s a)=0:=by simpa using hbd
    have hG1:=Hd (show GG=bndQ 1 ((proG names (s.size-a) ((tl s a).length+1) zerM (tl s a)).bnd fun m r=>.ok (cutM m) r) from by
     rw [<- hGG];unfold terG;rw [if_pos h0,qgk,qaq])
    clear h0 hbd hGG;go_wp2
    go_meet
    case rel=>exact ⟨x,1,a,B0,g4,ha,hz3.out,hy3.out,h3.out,hf3.out,hK3.out.imp fun V h=>h.more (by omega),⟨nlr _,Nat.le_of_lt hlt3.out,.inr (nlr _)⟩,hG1.out⟩
   ·
    have h0:¬ numL (tl s a)=0:=by simpa using hbd
    have hG1:GG=(cofG (tl s a)).bnd fun q r=>if r[0]? = some 42 then monG names (s.size-a) q (r.drop 1) else .ok (q,[]) r:=by
     rw [<- hGG];unfold terG;rw [if_neg h0,qaq]
    have CN:=Hd (qrl g a s (Value.slice na names.length nc) w3 h3.out ha hs);obtain ⟨CG,hCG⟩:∃ G,cofG (tl s a)=G:=⟨_,rfl⟩
    rw [hCG] at CN hG1;replace hG1:=Hd hG1;clear h0 hbd hGG hCG hK3;go_wp2_with fail;refine CN.out.mono ?_;rintro e w4 ⟨⟨xx,q,rfl,hKy,hyq⟩,hS4,hf4⟩;have hz4:Blk w4 g2 81 #[.bool false,.slice none 0 0,.slice none 0 0,.slice none 0 0]:=Blk.fr hz3.out hf4 (by have:=hgg.out;omega);have hy4:Blk w4 g4 81 #[.bool x.neg,.slice x.a x.n x.c,.slice x.b x.m x.d,.slice none 0 0]:=Blk.fr hy3.out hf4 (by have:=hgg.out;have:=hg24.out;omega);have hff4:=hf3.out.trans hf4;have hsz4:=Hd hf4.size;obtain ⟨c0,c1,c2⟩:=cq3 hy4;obtain ⟨fz0,fz1,fz2⟩:=fq3 hy4;have hgl4:=hy4.lt;obtain ⟨T4,hT4⟩:∃ q,w4.heap.size=q:=⟨_,rfl⟩
    obtain ⟨B4,hB4⟩:∃ q,w3.heap.size=q:=⟨_,rfl⟩
    have hnum:=Hd (show g4<B4/\B0<=B4/\B4<=T4/\g<B4 from by have:=hlt3.out;have:=hg24.out;have:=hgg.out;have:=hsz4.out;omega);have hz5':=Hd (show Blk (((w4.setCell ⟨g4,0,none⟩ (.bool xx.neg)).setCell ⟨g4,1,none⟩ (.slice xx.a xx.n xx.c)).setCell ⟨g4,2,none⟩ (.slice xx.b xx.m xx.d)) g2 81 #[.bool false,.slice none 0 0,.slice none 0 0,.slice none 0 0] from bF (by have:=hg24.out;omega) (bF (by have:=hg24.out;omega) (bF (by have:=hg24.out;omega) hz4)));have hy5':=Hd (show Blk (((w4.setCell ⟨g4,0,none⟩ (.bool xx.neg)).setCell ⟨g4,1,none⟩ (.slice xx.a xx.n xx.c)).setCell ⟨g4,2,none⟩ (.slice xx.b xx.m xx.d)) g4 81 #[.bool xx.neg,.slice xx.a xx.n xx.c,.slice xx.b xx.m xx.d,.slice none 0 0] from bS (bS (bS hy4 rfl) rfl) rfl)
    have hS5':=Hd (((hS4.set_ (g2:=g4) (i:=0) (u:=.bool xx.neg) (by have:=hgg.out;have:=hg24.out;omega)).set_ (g2:=g4) (i:=1) (u:=.slice xx.a xx.n xx.c) (by have:=hgg.out;have:=hg24.out;omega)).set_ (g2:=g4) (i:=2) (u:=.slice xx.b xx.m xx.d) (by have:=hgg.out;have:=hg24.out;omega));have hf5':=Hd (((hff4.setc (g:=g4) (i:=0) (u:=.bool xx.neg) (.inr (by have:=hg2w.out;have:=hg24.out;omega))).setc (g:=g4) (i:=1) (u:=.slice xx.a xx.n xx.c) (.inr (by have:=hg2w.out;have:=hg24.out;omega))).setc (g:=g4) (i:=2) (u:=.slice xx.b xx.m xx.d) (.inr (by have:=hg2w.out;have:=hg24.out;omega)));rw [hT4,hB4] at hKy;have hK5':=Hd (((hKy.setc (g:=g4) (i:=0) (u:=.bool xx.neg) (.inl hnum.out.1)).setc (g:=g4) (i:=1) (u:=.slice xx.a xx.n xx.c) (.inl hnum.out.1)).setc (g:=g4) (i:=2) (u:=.slice xx.b xx.m xx.d) (.inl hnum.out.1));have hT4':=Hd hT4
    clear CN hz3 hy3 h3 hf3 hlt3 hS4 hf4 hz4 hy4 hff4 hsz4 hKy hB4 hT4;go_wp2_with fail;refine qah (fun W=>Blk W g2 81 #[.bool false,.slice none 0 0,.slice none 0 0,.slice none 0 0]/\Blk W g4 81 #[.bool xx.neg,.slice xx.a xx.n xx.c,.slice xx.b xx.m xx.d,.slice none 0 0]/\StGr W g s (Value.slice na names.length nc) CG/\Fg g w W/\Kp (fun V=>QK 1000 V xx q) B4 T4 W/\T4<=W.heap.size) ⟨hz5'.out,hy5'.out,hS5'.out,hf5'.out,hK5'.out,by have:=hT4'.out;simp only [World.size_setCell];omega⟩ ?_;clear hz5' hy5' hS5' hf5' hK5' hT4' c0 c1 c2 fz0 fz1 fz2 hgl4;rintro w5 ⟨hz5,hy5,hS5,hf5,hK5,hs5⟩
    cases CG with
    | bad k er =>
     have hGe:=Hd (show GG=.bad k er from hG1.out);obtain ⟨hk,h0e,hRe⟩:=(hS5:StEr w5 g s (Value.slice na names.length nc) k er)
     refine (qe5 g (s.size-k) s (Value.slice na names.length nc) er 42 w5 hRe h0e).mono ?_;rintro e w6 ⟨rfl,hb6⟩;have hz9:=Hd (hz5.below' hb6);have hy9:=Hd (hy5.below' hb6);have hSG:=Hd (show StGr w6 g s (Value.slice na names.length nc) GG by rw [hGe.out];exact StEr.below ⟨hk,h0e,hRe⟩ hb6);have hf9:=Hd (hf5.call hb6);have hK9:=Hd (((hK5.call hb6).wide (B':=B0) (T':=w6.heap.size) hnum.out.2.1 (Nat.le_trans hs5 hb6.size)));clear hz5 hy5 hf5 hK5 hs5 hRe h0e hb6 hyq;obtain ⟨am,ham⟩:∃ q:Option Addr,q=none:=⟨_,rfl⟩
     obtain ⟨nm,hnm⟩:∃ q:Nat,q=0:=⟨_,rfl⟩
     obtain ⟨cm,hcm⟩:∃ q:Nat,q=0:=⟨_,rfl⟩
     have hnil:=Hd (fun V=>(show IntsR V am cm [] by rw [ham,hcm];exact SlR.nil));rw [show (Value.slice none 0 0)=.slice am nm cm by rw [ham,hnm,hcm]] at hy9;replace ham:=Hd ham;replace hnm:=Hd hnm;replace hcm:=Hd hcm
     -- in world w6 the term ⟨xx,nm,am,cm⟩ lies in the box g4;it is written into g2
     have hSE:=Hd (((((hSG.out).set_ (g2:=g2) (i:=0) (u:=.bool xx.neg) (by have:=hgg.out;omega)).set_ (g2:=g2) (i:=1) (u:=.slice xx.a xx.n xx.c) (by have:=hgg.out;omega)).set_ (g2:=g2) (i:=2) (u:=.slice xx.b xx.m xx.d) (by have:=hgg.out;omega)).set_ (g2:=g2) (i:=3) (u:=.slice am nm cm) (by have:=hgg.out;omega));have hfE:=Hd ((((hf9.out.setc (g:=g2) (i:=0) (u:=.bool xx.neg) (.inr hg2w.out)).setc (g:=g2) (i:=1) (u:=.slice xx.a xx.n xx.c) (.inr hg2w.out)).setc (g:=g2) (i:=2) (u:=.slice xx.b xx.m xx.d) (.inr hg2w.out)).setc (g:=g2) (i:=3) (u:=.slice am nm cm) (.inr hg2w.out));have hFz:=Hd (blk4 (x:=.bool xx.neg) (y:=.slice xx.a xx.n xx.c) (z:=.slice xx.b xx.m xx.d) (k:=.slice am nm cm) hz9.out)
     have hKE:=Hd (fun (R:World->Prop) (h:Kp R B0 w6.heap.size w6)=>((((h.setc (g:=g2) (i:=0) (u:=.bool xx.neg) (.inl hg2B.out)).setc (g:=g2) (i:=1) (u:=.slice xx.a xx.n xx.c) (.inl hg2B.out)).setc (g:=g2) (i:=2) (u:=.slice xx.b xx.m xx.d) (.inl hg2B.out)).setc (g:=g2) (i:=3) (u:=.slice am nm cm) (.inl hg2B.out)).wide (B':=w.heap.size) (T':=((((w6.setCell ⟨g2,0,none⟩ (.bool xx.neg)).setCell ⟨g2,1,none⟩ (.slice xx.a xx.n xx.c)).setCell ⟨g2,2,none⟩ (.slice xx.b xx.m xx.d)).setCell ⟨g2,3,none⟩ (.slice am nm cm)).heap.size) (Nat.le_trans hg2w.out (Nat.le_of_lt hg2B.out)) (by simp));have hzo:=hz9.out;have hyo:=hy9.out;obtain ⟨d0,d1,d2,d3⟩:=cq4 hzo;obtain ⟨f0,f1,f2,f3⟩:=fq4 hzo;have hgl2:=hzo.lt;obtain ⟨y0,y1,y2,y3⟩:=cq4 hyo;have hgl4:=hyo.lt;clear hSG hf9 hzo hyo hz9 hy9;go_wp2;have hFF:=hFz.out;obtain ⟨e0,e1,e2,e3⟩:=cq4 hFF
     refine bodyPost_ret (v:=.agg #[.bool xx.neg,.slice xx.a xx.n xx.c,.slice xx.b xx.m xx.d,.slice am nm cm]) (by simp [results,Tryz.results66,go_sem,e0,e1,e2,e3]) rfl ?_;refine ⟨⟨xx,nm,am,cm⟩,rfl,?_,?_,hSE.out,hfE.out⟩
     ·
      intro u r' e
      cases hGe.out.symm.trans e
     ·
      intro k er e;exact ⟨q,hKE.out _ hK9.out⟩
    | ok q' r =>
     obtain rfl:=hyq q' r rfl;obtain ⟨p1,hp1,hr1,hR5⟩:=(hS5:StRr w5 g s (Value.slice na names.length nc) r)
     have hG2:GG=if r[0]? = some 42 then monG names (s.size-a) q (r.drop 1) else .ok (q,[]) r:=hG1.out
     rw [hr1] at hG2;have hst:=qb3 (tl s p1) 42 (z:=42) rfl;obtain ⟨bp,hbp⟩:∃ b,nxtB (tl s p1) 42=b:=⟨_,rfl⟩
     rw [hbp] at hst;clear hyq hG1 hr1
     cases bp
     ·
      have h42:¬ (tl s p1)[0]? = some 42:=by simpa using hst.symm
      have hGe:=Hd (hG2.trans (if_neg h42));refine (qds g p1 s (Value.slice na names.length nc) 42 w5 hR5 hp1 hs hbp).mono ?_;rintro e w6 ⟨rfl,hb6⟩;have hz9:=Hd (hz5.below' hb6);have hy9:=Hd (hy5.below' hb6);have hSG:=Hd (show StGr w6 g s (Value.slice na names.length nc) GG by rw [hGe.out];exact ⟨p1,hp1,rfl,hR5.below hb6⟩);have hf9:=Hd (hf5.call hb6);have hK9:=Hd (((hK5.call hb6).wide (B':=B0) (T':=w6.heap.size) hnum.out.2.1 (Nat.le_trans hs5 hb6.size)));clear hz5 hy5 hf5 hK5 hs5 hR5 hb6 hst hbp h42 hG2;obtain ⟨am,ham⟩:∃ q:Option Addr,q=none:=⟨_,rfl⟩
      obtain ⟨nm,hnm⟩:∃ q:Nat,q=0:=⟨_,rfl⟩
      obtain ⟨cm,hcm⟩:∃ q:Nat,q=0:=⟨_,rfl⟩
      have hnil:=Hd (fun V=>(show IntsR V am cm [] by rw [ham,hcm];exact SlR.nil));rw [show (Value.slice none 0 0)=.slice am nm cm by rw [ham,hnm,hcm]] at hy9;replace ham:=Hd ham;replace hnm:=Hd hnm;replace hcm:=Hd hcm
      -- in world w6 the term ⟨xx,nm,am,cm⟩ lies in the box g4;it is written into g2
      have hSE:=Hd (((((hSG.out).set_ (g2:=g2) (i:=0) (u:=.bool xx.neg) (by have:=hgg.out;omega)).set_ (g2:=g2) (i:=1) (u:=.slice xx.a xx.n xx.c) (by have:=hgg.out;omega)).set_ (g2:=g2) (i:=2) (u:=.slice xx.b xx.m xx.d) (by have:=hgg.out;omega)).set_ (g2:=g2) (i:=3) (u:=.slice am nm cm) (by have:=hgg.out;omega));have hfE:=Hd ((((hf9.out.setc (g:=g2) (i:=0) (u:=.bool xx.neg) (.inr hg2w.out)).setc (g:=g2) (i:=1) (u:=.slice xx.a xx.n xx.c) (.inr hg2w.out)).setc (g:=g2) (i:=2) (u:=.slice xx.b xx.m xx.d) (.inr hg2w.out)).setc (g:=g2) (i:=3) (u:=.slice am nm cm) (.inr hg2w.out));have hFz:=Hd (blk4 (x:=.bool xx.neg) (y:=.slice xx.a xx.n xx.c) (z:=.slice xx.b xx.m xx.d) (k:=.slice am nm cm) hz9.out)
      have hKE:=Hd (fun (R:World->Prop) (h:Kp R B0 w6.heap.size w6)=>((((h.setc (g:=g2) (i:=0) (u:=.bool xx.neg) (.inl hg2B.out)).setc (g:=g2) (i:=1) (u:=.slice xx.a xx.n xx.c) (.inl hg2B.out)).setc (g:=g2) (i:=2) (u:=.slice xx.b xx.m xx.d) (.inl hg2B.out)).setc (g:=g2) (i:=3) (u:=.slice am nm cm) (.inl hg2B.out)).wide (B':=w.heap.size) (T':=((((w6.setCell ⟨g2,0,none⟩ (.bool xx.neg)).setCell ⟨g2,1,none⟩ (.slice xx.a xx.n xx.c)).setCell ⟨g2,2,none⟩ (.slice xx.b xx.m xx.d)).setCell ⟨g2,3,none⟩ (.slice am nm cm)).heap.size) (Nat.le_trans hg2w.out (Nat.le_of_lt hg2B.out)) (by simp));have hzo:=hz9.out;have hyo:=hy9.out;obtain ⟨d0,d1,d2,d3⟩:=cq4 hzo;obtain ⟨f0,f1,f2,f3⟩:=fq4 hzo;have hgl2:=hzo.lt;obtain ⟨y0,y1,y2,y3⟩:=cq4 hyo;have hgl4:=hyo.lt;clear hSG hf9 hzo hyo hz9 hy9;go_wp2;have hFF:=hFz.out;obtain ⟨e0,e1,e2,e3⟩:=cq4 hFF
      refine bodyPost_ret (v:=.agg #[.bool xx.neg,.slice xx.a xx.n xx.c,.slice xx.b xx.m xx.d,.slice am nm cm]) (by simp [results,Tryz.results66,go_sem,e0,e1,e2,e3]) rfl ?_;refine ⟨⟨xx,nm,am,cm⟩,rfl,?_,?_,hSE.out,hfE.out⟩
      ·
       intro u r' e;injection hGe.out.symm.trans e with e1 e2
       subst e1;exact hKE.out _ (hK9.out.imp fun V h=>⟨⟨h.1,hnil.out V,hnm.out⟩,h.2⟩)
      ·
       intro k er e
       cases hGe.out.symm.trans e
     ·
      have h42:(tl s p1)[0]? = some 42:=by simpa using hst.symm
      have hp1l:p1<s.size:=by
       apply Nat.lt_of_not_le;intro hle;rw [qbn hle] at h42
       cases h42
      have hG3:=Hd (show GG=bndQ q ((proG names (s.size-a) ((tl s (p1+1)).length+1) zerM (tl s (p1+1))).bnd fun m r=>.ok (cutM m) r) from hG2.trans ((if_pos h42).trans (by rw [qgk,qbi])));refine (qdt g p1 s (Value.slice na names.length nc) 42 w5 hR5 hp1 hs hbp).mono ?_;rintro e w6 ⟨rfl,hR6,hf6⟩;have hz9:=Hd (show Blk w6 g2 81 #[.bool false,.slice none 0 0,.slice none 0 0,.slice none 0 0] from Blk.fr hz5 hf6 (by have:=hgg.out;omega));have hy9:=Hd (show Blk w6 g4 81 #[.bool xx.neg,.slice xx.a xx.n xx.c,.slice xx.b xx.m xx.d,.slice none 0 0] from Blk.fr hy5 hf6 (by have:=hgg.out;have:=hg24.out;omega));have hf9:=Hd (hf5.trans hf6);have hK9:=Hd (hK5.fr hf6 (fun b hb=>.inl (by subst hb;exact hnum.out.2.2.2)));have hs9:=Hd (Nat.le_trans hs5 hf6.size);have hR9:=Hd hR6;clear hz5 hy5 hf5 hK5 hs5 hR5 hst hbp h42 hG2 hR6 hf6;go_wp2
      go_meet
      case rel=>exact ⟨xx,q,p1+1,B4,T4,hp1l,hz9.out,hy9.out,hR9.out,hf9.out,hK9.out,⟨hnum.out.2.1,hs9.out,.inl hnum.out.1⟩,hG3.out⟩
  case rest =>
   clear hz3 hy3 h3 hf3 hK3 hlt3 hbd hGG;obtain ⟨xx,q,p,BB,TB,hp,hz4,hy4,hR4,hf4,hK4,hnum,hG⟩:=hcut;obtain ⟨w4,rfl⟩:∃ W:World,W=wc:=⟨_,rfl⟩
   have hgl4:=hR4.out.lt;have hgl44:=Hd hy4.out.lt;have hmk:∀ W,(Instr.makeSlice 79 (.int .i64 64) (.int .i64 64)).run Tryz.prog W=.ok (.slice (some ⟨W.heap.size,0,none⟩) 64 64) (W.alloc (.cells ((zerM.map (Value.int .i64)).toArray) 3)):=fun W=>qaf1 _ Tryz.underlying79 64 (by omega) W
   obtain ⟨PG,hPG0⟩:∃ G,proG names (s.size-a) ((tl s p).length+1) zerM (tl s p)=G:=⟨_,rfl⟩
   rw [hPG0] at hG;rw [qaq] at hPG0;replace hPG0:=Hd hPG0;go_wp2;refine qak (fun W=>RrA W g s (Value.slice na names.length nc) p 0/\RowZ W w4.heap.size zerM/\Fg g w4 W) ⟨bA hR4.out,Blk.new w4 _ _,(Fr.refl _ _).alloc _⟩ ?_;clear hmk hgl4 hR4;rintro w5 ⟨h5,hA5,hf5⟩;obtain ⟨g5,hg50⟩:∃ q,w4.heap.size=q:=⟨_,rfl⟩
   have hg5w:Hid (w4.heap.size<=g5):=Hd (by omega);have hg5:Hid (g<g5):=Hd (by have:=hgl44.out;have:=hgg.out;have:=hg24.out;omega);rw [hg50] at hA5 ⊢;replace hg50:=Hd hg50
   go_loopg [6,7] (s.size+2) (fun gk _ _ wr=>∃ (p fu:Nat) (m:List Int),Hid (p<=s.size)/\Hid (s.size-p<gk)/\Hid (s.size-p<fu)/\Hid (InM m)/\Hid (RrA wr g s (Value.slice na names.length nc) p 0)/\Hid (RowZ wr g5 m)/\Hid (PG=proG names (s.size-a) fu m (tl s p))/\Hid (Fg g w4 wr))
   case atStart=>exact ⟨p,s.size-p+1,zerM,hp.out,by show _<_;omega,by show _<_;omega,qmr,h5,hA5,hPG0.out.symm,hf5⟩
   case round =>
    clear h5 hA5 hf5 hPG0 hp p;obtain ⟨p,fu,m,hp,hgk,hfu,hM,hR,hArr,hPG,hf⟩:=hrel;obtain ⟨w6,rfl⟩:∃ W:World,W=wr:=⟨_,rfl⟩
    obtain ⟨fu,rfl⟩:∃ f,fu=f+1:=⟨fu-1,by have:=hfu.out;omega⟩
    have CP:=Hd (qum g p s names na nc w6 hR.out hp.out hs (HN.out w6 (hf4.out.trans hf.out)) HNB.out hnl);have hRo:=hR.out;obtain ⟨z0,z1,z2,z3⟩:=cq4 hRo;have hl:=hRo.lt;obtain ⟨PW,hPW⟩:∃ G,powG names (tl s p)=G:=⟨_,rfl⟩
    rw [hPW] at CP;replace hPW:=Hd hPW;clear hRo;go_wp2_with fail;refine CP.out.mono ?_;rintro e w7 ⟨v,n,rfl,hn,hv64,hok,hbad,hS7,hf7⟩;have hArr7:RowZ w7 g5 m:=Blk.fr hArr.out hf7 (by have:=hg5.out;omega);have hff7:=hf.out.trans hf7;obtain ⟨hmx,x0,x1⟩:=hM.out.at_ hv64;have hcx:=hArr7.cell hmx;have hfz:=hArr7.frozen v;have hgl5:=hArr7.lt;obtain ⟨y,hy⟩:∃ y,expAt m v=y:=⟨_,rfl⟩
    rw [hy] at hcx x0 x1;have hArr8:=Hd (hArr7.set_ v (y+n));have hf8':=Hd (hff7.setc (g:=g5) (i:=v) (u:=.int .i64 (y+n)) (.inr hg5w.out));have hS8':=Hd (hS7.set_ (g2:=g5) (i:=v) (u:=.int .i64 (y+n)) (by have:=hg5.out;omega));have hinz:=Hd (hM.out.putz (v:=v) (x:=y+n) (by omega) (by omega));have hvi:(v:Int)<64:=by omega
    have hwy:IntKind.i64.wrap (y+(n:Int))=y+(n:Int):=by rw [IntKind.wrap_i64];omega
    obtain ⟨mz,hmz⟩:∃ z,m.set v (y+n)=z:=⟨_,rfl⟩
    rw [hmz] at hinz hArr8;replace hmz:=Hd hmz;replace hok:=Hd hok;replace hbad:=Hd hbad;replace hn:=Hd hn;replace hy:=Hd hy;clear CP z0 z1 z2 z3 hl hArr hf hArr7 hff7 hmx hS7 hf7 hR;obtain ⟨bg,hbg⟩:∃ b,decide (1048576<y+(n:Int))=b:=⟨_,rfl⟩
    cases bg
    ·
     have hbg0:¬ 1048576<y+(n:Int):=of_decide_eq_false hbg;replace hbg0:=Hd hbg0;go_wp2_with fail;refine qah (fun W=>RowZ W g5 mz/\StGr W g s (Value.slice na names.length nc) PW/\Fg g w4 W) ⟨hArr8.out,hS8'.out,hf8'.out⟩ ?_;clear hArr8 hS8' hf8' hcx hfz hgl5;rintro w8 ⟨hArrX,hSX0,hfX⟩
     cases PW with
     | bad k er =>
      have hGe:=Hd (show GG=.bad k er by rw [hG.out,hPG.out,qk9 hPW.out];rfl);obtain ⟨hk,h0e,hRe⟩:=(hSX0:StEr w8 g s (Value.slice na names.length nc) k er)
      refine (qe5 g (s.size-k) s (Value.slice na names.length nc) er 42 w8 hRe h0e).mono ?_;rintro e w9 ⟨rfl,hb9⟩;have hin:=hinz;have hArr9:RowZ w9 g5 mz:=hArrX.below hb9;have hf8:=Hd (hfX.call hb9);have hSX:=Hd (show StGr w9 g s (Value.slice na names.length nc) GG by rw [hGe.out];exact StEr.below ⟨hk,h0e,hRe⟩ hb9);clear hArrX hfX hRe h0e hb9 hok hbad hbg
      -- the loop is left in world w9;the exponents are mz
      have hI:=RowZ.readz hArr9 hin.out;have CN:=qfh mz (some ⟨g5,0,none⟩) 64 w9 hI (by rw [hin.out.1];omega);rw [hin.out.1] at CN;obtain ⟨RV,hRV⟩:∃ R,(if monoB (cutM mz)=true then cutM mz else [])=R:=⟨_,rfl⟩
      rw [hRV] at CN;replace hRV:=Hd hRV;replace CN:=Hd CN;clear hI hArr9;go_wp2_with fail;refine CN.out.mono ?_;rintro e w8 ⟨am,cm,rfl,hK8,hb8⟩;have hfT:Fg g w4 w8:=hf8.out.call hb8;have hy8:Blk w8 g4 81 #[.bool xx.neg,.slice xx.a xx.n xx.c,.slice xx.b xx.m xx.d,.slice none 0 0]:=Blk.fr hy4.out hfT (by have:=hgg.out;have:=hg24.out;omega);have hz8:Blk w8 g2 81 #[.bool false,.slice none 0 0,.slice none 0 0,.slice none 0 0]:=Blk.fr hz4.out hfT (by have:=hgg.out;omega);have hKx8:=hK4.out.fr hfT (fun b hb=>.inl (by subst hb;have:=hgg.out;have:=hg2B.out;have:=hnum.out;omega));have hS8:=hSX.out.below hb8;obtain ⟨nm,hnm⟩:∃ q:Nat,RV.length=q:=⟨_,rfl⟩
      rw [hnm];replace hnm:=Hd hnm;have fy3:=hy8.frozen 3;have hyl:=hy8.lt;have v3:=hy8.cell 3;have hT8:=Hd (show g4<w9.heap.size/\w4.heap.size<=w9.heap.size/\w9.heap.size<=w8.heap.size from ⟨ltl hgl44.out hf8.out.size,hf8.out.size,hb8.size⟩);have hf8T:=Hd (hf4.out.trans hfT);obtain ⟨W7,hW7⟩:∃ W,w8.setCell ⟨g4,3,none⟩ (.slice am nm cm)=W:=⟨_,rfl⟩
      have hSG:=Hd (show StGr W7 g s (Value.slice na names.length nc) GG by rw [<- hW7];exact hS8.set_ (by have:=hgg.out;have:=hg24.out;omega));have hz9:=Hd (show Blk W7 g2 81 #[.bool false,.slice none 0 0,.slice none 0 0,.slice none 0 0] by rw [<- hW7];exact bF (by have:=hg24.out;omega) hz8);have hy9:=Hd (show Blk W7 g4 81 #[.bool xx.neg,.slice xx.a xx.n xx.c,.slice xx.b xx.m xx.d,.slice am nm cm] by rw [<- hW7];exact bS hy8 rfl);have hf9:=Hd (show Fg g w W7 by rw [<- hW7];exact hf8T.out.setc (g:=g4) (i:=3) (u:=.slice am nm cm) (.inr (by have:=hg2w.out;have:=hg24.out;omega)));have hsz7:W7.heap.size=w8.heap.size:=by rw [<- hW7];simp
      have hKx1:Kp (fun V=>QK 1000 V xx q) BB TB W7:=by rw [<- hW7];exact hKx8.setc (g:=g4) (i:=3) (u:=.slice am nm cm) (by have:=hnum.out.2.2;omega)
      have hKm1:Kp (fun V=>IntsR V am cm RV) w9.heap.size w8.heap.size W7:=by rw [<- hW7];exact hK8.setc (g:=g4) (i:=3) (u:=.slice am nm cm) (.inl hT8.out.1)
      have hK9:=Hd (hKx1.wide (B':=B0) (T':=W7.heap.size) hnum.out.1 (by rw [hsz7];have:=hnum.out.2.1;have:=hT8.out;omega));have hKm9:=Hd (hKm1.wide (B':=B0) (T':=W7.heap.size) (by have:=hT8.out;have:=hg24.out;omega) (by rw [hsz7];exact nlr _));replace hsz7:=Hd hsz7;clear CN hfT hy8 hz8 hKx8 hS8 hKx1 hKm1 hK8 hb8 hf8 hSX hf8T
      -- in world W7 the term ⟨xx,nm,am,cm⟩ lies in the box g4;it is written into g2
      have hSE:=Hd (((((hSG.out).set_ (g2:=g2) (i:=0) (u:=.bool xx.neg) (by have:=hgg.out;omega)).set_ (g2:=g2) (i:=1) (u:=.slice xx.a xx.n xx.c) (by have:=hgg.out;omega)).set_ (g2:=g2) (i:=2) (u:=.slice xx.b xx.m xx.d) (by have:=hgg.out;omega)).set_ (g2:=g2) (i:=3) (u:=.slice am nm cm) (by have:=hgg.out;omega));have hfE:=Hd ((((hf9.out.setc (g:=g2) (i:=0) (u:=.bool xx.neg) (.inr hg2w.out)).setc (g:=g2) (i:=1) (u:=.slice xx.a xx.n xx.c) (.inr hg2w.out)).setc (g:=g2) (i:=2) (u:=.slice xx.b xx.m xx.d) (.inr hg2w.out)).setc (g:=g2) (i:=3) (u:=.slice am nm cm) (.inr hg2w.out));have hFz:=Hd (blk4 (x:=.bool xx.neg) (y:=.slice xx.a xx.n xx.c) (z:=.slice xx.b xx.m xx.d) (k:=.slice am nm cm) hz9.out)
      have hKE:=Hd (fun (R:World->Prop) (h:Kp R B0 W7.heap.size W7)=>((((h.setc (g:=g2) (i:=0) (u:=.bool xx.neg) (.inl hg2B.out)).setc (g:=g2) (i:=1) (u:=.slice xx.a xx.n xx.c) (.inl hg2B.out)).setc (g:=g2) (i:=2) (u:=.slice xx.b xx.m xx.d) (.inl hg2B.out)).setc (g:=g2) (i:=3) (u:=.slice am nm cm) (.inl hg2B.out)).wide (B':=w.heap.size) (T':=((((W7.setCell ⟨g2,0,none⟩ (.bool xx.neg)).setCell ⟨g2,1,none⟩ (.slice xx.a xx.n xx.c)).setCell ⟨g2,2,none⟩ (.slice xx.b xx.m xx.d)).setCell ⟨g2,3,none⟩ (.slice am nm cm)).heap.size) (Nat.le_trans hg2w.out (Nat.le_of_lt hg2B.out)) (by simp));have hzo:=hz9.out;have hyo:=hy9.out;obtain ⟨d0,d1,d2,d3⟩:=cq4 hzo;obtain ⟨f0,f1,f2,f3⟩:=fq4 hzo;have hgl2:=hzo.lt;obtain ⟨y0,y1,y2,y3⟩:=cq4 hyo;have hgl4:=hyo.lt;clear hSG hf9 hzo hyo hz9 hy9;go_wp2;have hFF:=hFz.out;obtain ⟨e0,e1,e2,e3⟩:=cq4 hFF
      refine bodyPost_ret (v:=.agg #[.bool xx.neg,.slice xx.a xx.n xx.c,.slice xx.b xx.m xx.d,.slice am nm cm]) (by simp [results,Tryz.results66,go_sem,e0,e1,e2,e3]) rfl ?_;refine ⟨⟨xx,nm,am,cm⟩,rfl,?_,?_,hSE.out,hfE.out⟩
      ·
       intro u r' e
       cases hGe.out.symm.trans e
      ·
       intro k er e;exact ⟨q,hKE.out _ hK9.out⟩
     | ok pr r =>
      obtain ⟨p2,hp2,hr2,hR2⟩:=(hSX0:StRr w8 g s (Value.slice na names.length nc) r)
      have hpr:=hok.out pr r rfl;have hPW2:powG names (tl s p)=.ok (v,(n:Int)) (tl s p2):=by rw [hPW.out,hpr,hr2]
      have hlt2:=Hd (show s.size-p2<s.size-p from by have:=qvu hPW2;rwa [qaq,qaq] at this);have hinM:=Hd (hmz.out ▸ hM.out.put (v:=v) (x:=y+n) (by omega) (by have:=hbg0.out;omega):InM mz);have hst:=qb3 (tl s p2) 42 (z:=42) rfl;obtain ⟨bp,hbp⟩:∃ b,nxtB (tl s p2) 42=b:=⟨_,rfl⟩
      rw [hbp] at hst;clear hpr hr2
      cases bp
      ·
       have h42:¬ (tl s p2)[0]? = some 42:=by simpa using hst.symm
       have hPe:PG=.ok mz (tl s p2):=hPG.out.trans ((qpw hPW2 (by rw [hy.out];have:=hbg0.out;omega) h42).trans (by rw [hy.out,hmz.out]));have hGe:=Hd (show GG=.ok (q,cutM mz) (tl s p2) by rw [hG.out,hPe];rfl);refine (qds g p2 s (Value.slice na names.length nc) 42 w8 hR2 hp2 hs hbp).mono ?_;rintro e w9 ⟨rfl,hb9⟩;have hin:=hinz;have hArr9:RowZ w9 g5 mz:=hArrX.below hb9;have hf8:=Hd (hfX.call hb9);have hSX:=Hd (show StGr w9 g s (Value.slice na names.length nc) GG by rw [hGe.out];exact ⟨p2,hp2,rfl,hR2.below hb9⟩);clear hArrX hfX hR2 hb9 hok hbad hbg hst hbp h42 hPe hPW2
       -- the loop is left in world w9;the exponents are mz
       have hI:=RowZ.readz hArr9 hin.out;have CN:=qfh mz (some ⟨g5,0,none⟩) 64 w9 hI (by rw [hin.out.1];omega);rw [hin.out.1] at CN;obtain ⟨RV,hRV⟩:∃ R,(if monoB (cutM mz)=true then cutM mz else [])=R:=⟨_,rfl⟩
       rw [hRV] at CN;replace hRV:=Hd hRV;replace CN:=Hd CN;clear hI hArr9;go_wp2_with fail;refine CN.out.mono ?_;rintro e w8 ⟨am,cm,rfl,hK8,hb8⟩;have hfT:Fg g w4 w8:=hf8.out.call hb8;have hy8:Blk w8 g4 81 #[.bool xx.neg,.slice xx.a xx.n xx.c,.slice xx.b xx.m xx.d,.slice none 0 0]:=Blk.fr hy4.out hfT (by have:=hgg.out;have:=hg24.out;omega);have hz8:Blk w8 g2 81 #[.bool false,.slice none 0 0,.slice none 0 0,.slice none 0 0]:=Blk.fr hz4.out hfT (by have:=hgg.out;omega);have hKx8:=hK4.out.fr hfT (fun b hb=>.inl (by subst hb;have:=hgg.out;have:=hg2B.out;have:=hnum.out;omega));have hS8:=hSX.out.below hb8;obtain ⟨nm,hnm⟩:∃ q:Nat,RV.length=q:=⟨_,rfl⟩
       rw [hnm];replace hnm:=Hd hnm;have fy3:=hy8.frozen 3;have hyl:=hy8.lt;have v3:=hy8.cell 3;have hT8:=Hd (show g4<w9.heap.size/\w4.heap.size<=w9.heap.size/\w9.heap.size<=w8.heap.size from ⟨ltl hgl44.out hf8.out.size,hf8.out.size,hb8.size⟩);have hf8T:=Hd (hf4.out.trans hfT);obtain ⟨W7,hW7⟩:∃ W,w8.setCell ⟨g4,3,none⟩ (.slice am nm cm)=W:=⟨_,rfl⟩
       have hSG:=Hd (show StGr W7 g s (Value.slice na names.length nc) GG by rw [<- hW7];exact hS8.set_ (by have:=hgg.out;have:=hg24.out;omega));have hz9:=Hd (show Blk W7 g2 81 #[.bool false,.slice none 0 0,.slice none 0 0,.slice none 0 0] by rw [<- hW7];exact bF (by have:=hg24.out;omega) hz8);have hy9:=Hd (show Blk W7 g4 81 #[.bool xx.neg,.slice xx.a xx.n xx.c,.slice xx.b xx.m xx.d,.slice am nm cm] by rw [<- hW7];exact bS hy8 rfl);have hf9:=Hd (show Fg g w W7 by rw [<- hW7];exact hf8T.out.setc (g:=g4) (i:=3) (u:=.slice am nm cm) (.inr (by have:=hg2w.out;have:=hg24.out;omega)));have hsz7:W7.heap.size=w8.heap.size:=by rw [<- hW7];simp
       have hKx1:Kp (fun V=>QK 1000 V xx q) BB TB W7:=by rw [<- hW7];exact hKx8.setc (g:=g4) (i:=3) (u:=.slice am nm cm) (by have:=hnum.out.2.2;omega)
       have hKm1:Kp (fun V=>IntsR V am cm RV) w9.heap.size w8.heap.size W7:=by rw [<- hW7];exact hK8.setc (g:=g4) (i:=3) (u:=.slice am nm cm) (.inl hT8.out.1)
       have hK9:=Hd (hKx1.wide (B':=B0) (T':=W7.heap.size) hnum.out.1 (by rw [hsz7];have:=hnum.out.2.1;have:=hT8.out;omega));have hKm9:=Hd (hKm1.wide (B':=B0) (T':=W7.heap.size) (by have:=hT8.out;have:=hg24.out;omega) (by rw [hsz7];exact nlr _));replace hsz7:=Hd hsz7;clear CN hfT hy8 hz8 hKx8 hS8 hKx1 hKm1 hK8 hb8 hf8 hSX hf8T
       -- in world W7 the term ⟨xx,nm,am,cm⟩ lies in the box g4;it is written into g2
       have hSE:=Hd (((((hSG.out).set_ (g2:=g2) (i:=0) (u:=.bool xx.neg) (by have:=hgg.out;omega)).set_ (g2:=g2) (i:=1) (u:=.slice xx.a xx.n xx.c) (by have:=hgg.out;omega)).set_ (g2:=g2) (i:=2) (u:=.slice xx.b xx.m xx.d) (by have:=hgg.out;omega)).set_ (g2:=g2) (i:=3) (u:=.slice am nm cm) (by have:=hgg.out;omega));have hfE:=Hd ((((hf9.out.setc (g:=g2) (i:=0) (u:=.bool xx.neg) (.inr hg2w.out)).setc (g:=g2) (i:=1) (u:=.slice xx.a xx.n xx.c) (.inr hg2w.out)).setc (g:=g2) (i:=2) (u:=.slice xx.b xx.m xx.d) (.inr hg2w.out)).setc (g:=g2) (i:=3) (u:=.slice am nm cm) (.inr hg2w.out));have hFz:=Hd (blk4 (x:=.bool xx.neg) (y:=.slice xx.a xx.n xx.c) (z:=.slice xx.b xx.m xx.d) (k:=.slice am nm cm) hz9.out)
       have hKE:=Hd (fun (R:World->Prop) (h:Kp R B0 W7.heap.size W7)=>((((h.setc (g:=g2) (i:=0) (u:=.bool xx.neg) (.inl hg2B.out)).setc (g:=g2) (i:=1) (u:=.slice xx.a xx.n xx.c) (.inl hg2B.out)).setc (g:=g2) (i:=2) (u:=.slice xx.b xx.m xx.d) (.inl hg2B.out)).setc (g:=g2) (i:=3) (u:=.slice am nm cm) (.inl hg2B.out)).wide (B':=w.heap.size) (T':=((((W7.setCell ⟨g2,0,none⟩ (.bool xx.neg)).setCell ⟨g2,1,none⟩ (.slice xx.a xx.n xx.c)).setCell ⟨g2,2,none⟩ (.slice xx.b xx.m xx.d)).setCell ⟨g2,3,none⟩ (.slice am nm cm)).heap.size) (Nat.le_trans hg2w.out (Nat.le_of_lt hg2B.out)) (by simp));have hzo:=hz9.out;have hyo:=hy9.out;obtain ⟨d0,d1,d2,d3⟩:=cq4 hzo;obtain ⟨f0,f1,f2,f3⟩:=fq4 hzo;have hgl2:=hzo.lt;obtain ⟨y0,y1,y2,y3⟩:=cq4 hyo;have hgl4:=hyo.lt;clear hSG hf9 hzo hyo hz9 hy9;go_wp2;have hFF:=hFz.out;obtain ⟨e0,e1,e2,e3⟩:=cq4 hFF
       refine bodyPost_ret (v:=.agg #[.bool xx.neg,.slice xx.a xx.n xx.c,.slice xx.b xx.m xx.d,.slice am nm cm]) (by simp [results,Tryz.results66,go_sem,e0,e1,e2,e3]) rfl ?_;refine ⟨⟨xx,nm,am,cm⟩,rfl,?_,?_,hSE.out,hfE.out⟩
       ·
        intro u r' e;injection hGe.out.symm.trans e with e1 e2
        subst e1;have hRc:RV=cutM mz:=hRV.out.symm.trans (if_pos (qoq hinM.out));exact hKE.out _ ((Kp.both hK9.out hKm9.out).imp fun V h=>⟨⟨h.1.1,hRc ▸ h.2,by rw [<- hRc];exact hnm.out.symm⟩,h.1.2⟩)
       ·
        intro k er e
        cases hGe.out.symm.trans e
      ·
       have h42:(tl s p2)[0]? = some 42:=by simpa using hst.symm
       have hp2l:p2<s.size:=by
        apply Nat.lt_of_not_le;intro hle;rw [qbn hle] at h42
        cases h42
       have hPe:=Hd (show PG=proG names (s.size-a) fu mz (tl s (p2+1)) from hPG.out.trans ((qjh hPW2 (by rw [hy.out];have:=hbg0.out;omega) h42).trans (by rw [hy.out,hmz.out,qbi])));refine (qdt g p2 s (Value.slice na names.length nc) 42 w8 hR2 hp2 hs hbp).mono ?_;rintro e w9 ⟨rfl,hR9,hf9⟩;have hArr9:=Hd (show RowZ w9 g5 mz from Blk.fr hArrX hf9 (by have:=hg5.out;omega));have hf8:=Hd (hfX.trans hf9);replace hR9:=Hd hR9;clear hArrX hfX hR2 hf9 hok hbad hbg hst hbp h42 hPW2;go_wp2;go_roundg (s.size-(p2+1)+1)
       case rel=>exact ⟨p2+1,fu,mz,hp2l,by show _<_;omega,by have:=hfu.out;have:=hlt2.out;show _<_;omega,hinM.out,hR9.out,hArr9.out,hPe.out,hf8.out⟩
       case measure=>have:=hgk.out;have:=hlt2.out;omega
    ·
     have hbg0:1048576<y+(n:Int):=of_decide_eq_true hbg
     cases PW with
     | bad k er=>have:=hbad.out k er rfl;omega
     | ok pr r =>
      replace hbg0:=Hd hbg0;have hpr:=hok.out pr r rfl;go_wp2_with fail;refine qah (fun W=>RowZ W g5 mz/\StRr W g s (Value.slice na names.length nc) r/\Fg g w4 W) ⟨hArr8.out,hS8'.out,hf8'.out⟩ ?_;clear hArr8 hS8' hf8' hcx hfz hgl5;rintro w8 ⟨hArrX,⟨p2,hp2,hr2,hR2⟩,hfX⟩;have hPW2:powG names (tl s p)=.ok (v,(n:Int)) (tl s p2):=by rw [hPW.out,hpr,hr2]
      have hGe:=Hd (show GG=.bad (s.size-a) 4 by rw [hG.out,hPG.out,qqu hPW2 (by rw [hy.out];exact hbg0.out)];rfl);refine (qdj g p2 a s (Value.slice na names.length nc) 4 w8 hR2).mono ?_;rintro e w9 ⟨rfl,hR9,hf9⟩;have hArrY:RowZ w9 g5 mz:=Blk.fr hArrX hf9 (by have:=hg5.out;omega);have hfY:=hfX.trans hf9;have CT:=Hd (qe5 g a s (Value.slice na names.length nc) 4 42 w9 hR9 (by decide));clear hArrX hfX hR2 hf9 hok hbad hbg hPW2 hpr hr2;go_wp2_with fail;refine CT.out.mono ?_;rintro e w10 ⟨rfl,hb9⟩;have hin:=hinz;have hArr9:RowZ w10 g5 mz:=hArrY.below hb9;have hf8:=Hd (hfY.call hb9);have hSX:=Hd (show StGr w10 g s (Value.slice na names.length nc) GG by rw [hGe.out];exact ⟨by omega,by decide,by rw [show s.size-(s.size-a)=a by omega];exact hR9.below hb9⟩);clear hArrY hfY hR9 hb9 CT
      -- the loop is left in world w10;the exponents are mz
      have hI:=RowZ.readz hArr9 hin.out;have CN:=qfh mz (some ⟨g5,0,none⟩) 64 w10 hI (by rw [hin.out.1];omega);rw [hin.out.1] at CN;obtain ⟨RV,hRV⟩:∃ R,(if monoB (cutM mz)=true then cutM mz else [])=R:=⟨_,rfl⟩
      rw [hRV] at CN;replace hRV:=Hd hRV;replace CN:=Hd CN;clear hI hArr9;go_wp2_with fail;refine CN.out.mono ?_;rintro e w8 ⟨am,cm,rfl,hK8,hb8⟩;have hfT:Fg g w4 w8:=hf8.out.call hb8;have hy8:Blk w8 g4 81 #[.bool xx.neg,.slice xx.a xx.n xx.c,.slice xx.b xx.m xx.d,.slice none 0 0]:=Blk.fr hy4.out hfT (by have:=hgg.out;have:=hg24.out;omega);have hz8:Blk w8 g2 81 #[.bool false,.slice none 0 0,.slice none 0 0,.slice none 0 0]:=Blk.fr hz4.out hfT (by have:=hgg.out;omega);have hKx8:=hK4.out.fr hfT (fun b hb=>.inl (by subst hb;have:=hgg.out;have:=hg2B.out;have:=hnum.out;omega));have hS8:=hSX.out.below hb8;obtain ⟨nm,hnm⟩:∃ q:Nat,RV.length=q:=⟨_,rfl⟩
      rw [hnm];replace hnm:=Hd hnm;have fy3:=hy8.frozen 3;have hyl:=hy8.lt;have v3:=hy8.cell 3;have hT8:=Hd (show g4<w10.heap.size/\w4.heap.size<=w10.heap.size/\w10.heap.size<=w8.heap.size from ⟨ltl hgl44.out hf8.out.size,hf8.out.size,hb8.size⟩);have hf8T:=Hd (hf4.out.trans hfT);obtain ⟨W7,hW7⟩:∃ W,w8.setCell ⟨g4,3,none⟩ (.slice am nm cm)=W:=⟨_,rfl⟩
      have hSG:=Hd (show StGr W7 g s (Value.slice na names.length nc) GG by rw [<- hW7];exact hS8.set_ (by have:=hgg.out;have:=hg24.out;omega));have hz9:=Hd (show Blk W7 g2 81 #[.bool false,.slice none 0 0,.slice none 0 0,.slice none 0 0] by rw [<- hW7];exact bF (by have:=hg24.out;omega) hz8);have hy9:=Hd (show Blk W7 g4 81 #[.bool xx.neg,.slice xx.a xx.n xx.c,.slice xx.b xx.m xx.d,.slice am nm cm] by rw [<- hW7];exact bS hy8 rfl);have hf9:=Hd (show Fg g w W7 by rw [<- hW7];exact hf8T.out.setc (g:=g4) (i:=3) (u:=.slice am nm cm) (.inr (by have:=hg2w.out;have:=hg24.out;omega)));have hsz7:W7.heap.size=w8.heap.size:=by rw [<- hW7];simp
      have hKx1:Kp (fun V=>QK 1000 V xx q) BB TB W7:=by rw [<- hW7];exact hKx8.setc (g:=g4) (i:=3) (u:=.slice am nm cm) (by have:=hnum.out.2.2;omega)
      have hKm1:Kp (fun V=>IntsR V am cm RV) w10.heap.size w8.heap.size W7:=by rw [<- hW7];exact hK8.setc (g:=g4) (i:=3) (u:=.slice am nm cm) (.inl hT8.out.1)
      have hK9:=Hd (hKx1.wide (B':=B0) (T':=W7.heap.size) hnum.out.1 (by rw [hsz7];have:=hnum.out.2.1;have:=hT8.out;omega));have hKm9:=Hd (hKm1.wide (B':=B0) (T':=W7.heap.size) (by have:=hT8.out;have:=hg24.out;omega) (by rw [hsz7];exact nlr _));replace hsz7:=Hd hsz7;clear CN hfT hy8 hz8 hKx8 hS8 hKx1 hKm1 hK8 hb8 hf8 hSX hf8T
      -- in world W7 the term ⟨xx,nm,am,cm⟩ lies in the box g4;it is written into g2
      have hSE:=Hd (((((hSG.out).set_ (g2:=g2) (i:=0) (u:=.bool xx.neg) (by have:=hgg.out;omega)).set_ (g2:=g2) (i:=1) (u:=.slice xx.a xx.n xx.c) (by have:=hgg.out;omega)).set_ (g2:=g2) (i:=2) (u:=.slice xx.b xx.m xx.d) (by have:=hgg.out;omega)).set_ (g2:=g2) (i:=3) (u:=.slice am nm cm) (by have:=hgg.out;omega));have hfE:=Hd ((((hf9.out.setc (g:=g2) (i:=0) (u:=.bool xx.neg) (.inr hg2w.out)).setc (g:=g2) (i:=1) (u:=.slice xx.a xx.n xx.c) (.inr hg2w.out)).setc (g:=g2) (i:=2) (u:=.slice xx.b xx.m xx.d) (.inr hg2w.out)).setc (g:=g2) (i:=3) (u:=.slice am nm cm) (.inr hg2w.out));have hFz:=Hd (blk4 (x:=.bool xx.neg) (y:=.slice xx.a xx.n xx.c) (z:=.slice xx.b xx.m xx.d) (k:=.slice am nm cm) hz9.out)
      have hKE:=Hd (fun (R:World->Prop) (h:Kp R B0 W7.heap.size W7)=>((((h.setc (g:=g2) (i:=0) (u:=.bool xx.neg) (.inl hg2B.out)).setc (g:=g2) (i:=1) (u:=.slice xx.a xx.n xx.c) (.inl hg2B.out)).setc (g:=g2) (i:=2) (u:=.slice xx.b xx.m xx.d) (.inl hg2B.out)).setc (g:=g2) (i:=3) (u:=.slice am nm cm) (.inl hg2B.out)).wide (B':=w.heap.size) (T':=((((W7.setCell ⟨g2,0,none⟩ (.bool xx.neg)).setCell ⟨g2,1,none⟩ (.slice xx.a xx.n xx.c)).setCell ⟨g2,2,none⟩ (.slice xx.b xx.m xx.d)).setCell ⟨g2,3,none⟩ (.slice am nm cm)).heap.size) (Nat.le_trans hg2w.out (Nat.le_of_lt hg2B.out)) (by simp));have hzo:=hz9.out;have hyo:=hy9.out;obtain ⟨d0,d1,d2,d3⟩:=cq4 hzo;obtain ⟨f0,f1,f2,f3⟩:=fq4 hzo;have hgl2:=hzo.lt;obtain ⟨y0,y1,y2,y3⟩:=cq4 hyo;have hgl4:=hyo.lt;clear hSG hf9 hzo hyo hz9 hy9;go_wp2;have hFF:=hFz.out;obtain ⟨e0,e1,e2,e3⟩:=cq4 hFF
      refine bodyPost_ret (v:=.agg #[.bool xx.neg,.slice xx.a xx.n xx.c,.slice xx.b xx.m xx.d,.slice am nm cm]) (by simp [results,Tryz.results66,go_sem,e0,e1,e2,e3]) rfl ?_;refine ⟨⟨xx,nm,am,cm⟩,rfl,?_,?_,hSE.out,hfE.out⟩
      ·
       intro u r' e
       cases hGe.out.symm.trans e
      ·
       intro k er e;exact ⟨q,hKE.out _ hK9.out⟩
def takG {α:Type} (c:UInt8) (G:Got α):Got Bool:=G.bnd fun _ r=>if r[0]? = some c then .ok true (r.drop 1) else .ok false r
def Got.tru:Got Bool->Bool
 | .ok b _=>b
 | .bad _ _=>false
def musG {α:Type} (c:UInt8) (G:Got α):Got Unit:=G.bnd fun _ r=>eatG c r
def spaG (l:List UInt8) (b:Bool):Got Unit:=if b=true then musG 32 (takG 45 (eatG 32 l)) else musG 32 (musG 43 (takG 45 (eatG 32 l)))
theorem qab2 (l:List UInt8):sepG l=(spaG l (takG 45 (eatG 32 l)).tru).bnd fun _ r=>.ok (takG 45 (eatG 32 l)).tru r:=by
 unfold sepG spaG takG musG
 cases eatG 32 l with
 | bad k e=>rfl
 | ok u r =>
  show (if r[0]? = some 45 then _ else _)=_
  by_cases h:r[0]? = some 45
  · simp only [Got.bnd,if_pos h,Got.tru,if_true]
  ·
   simp only [Got.bnd,if_neg h,Got.tru,if_neg (show ¬ (false=true) from fun e=>by cases e)]
   cases eatG 43 r <;> rfl
theorem qxx {l r:List UInt8} {b:Bool} (h:spaG l b=.ok () r):r.length<l.length:=by
 have hm:∀ {α:Type} {c:UInt8} {G:Got α} {r:List UInt8},musG c G=.ok () r->∃ v l,G=.ok v l/\r.length<l.length:=fun {α c G r} h=>by
  cases G with
  | ok v l=>exact ⟨v,l,rfl,qbp h⟩
  | bad k e=>cases h
 have ht:∀ {c:UInt8} {G:Got Unit} {b:Bool} {r:List UInt8},takG c G=.ok b r->∃ v l,G=.ok v l/\r.length<=l.length:=fun {c G b r} h=>by
  cases G with
  | ok v l =>
   refine ⟨v,l,rfl,?_⟩;unfold takG at h;rw [Got.bnd] at h
   split at h
   · injection h with _ h;subst h;rw [List.length_drop];omega
   · injection h with _ h;subst h;exact nlr _
  | bad k e=>cases h
 unfold spaG at h
 split at h
 ·
  obtain ⟨v1,l1,h1,k1⟩:=hm h;obtain ⟨v2,l2,h2,k2⟩:=ht h1;have k3:=qbp h2
  omega
 ·
  obtain ⟨v1,l1,h1,k1⟩:=hm h;obtain ⟨v2,l2,h2,k2⟩:=hm h1;obtain ⟨v3,l3,h3,k3⟩:=ht h2;have k4:=qbp h3
  omega
theorem qxl {α:Type} (G:Got α) (g:Nat) (s:ByteArray) (nv:Value) (c:UInt8) (z:Int) (hz:(c.toNat:Int)=z) (w:World) (h:StGr w g s nv G) (hs:s.size<=281474976710656) :
  Calls Tryz.prog 64 #[.pointer (some ⟨g,0,none⟩),.int .u8 z] w fun u w'=>u=.returned (.bool (takG c G).tru)/\StGr w' g s nv (takG c G)/\Fg g w w':=by
 cases G with
 | bad k e =>
  obtain ⟨h1,h2,h3⟩:=(h:StEr w g s nv k e)
  refine (qe5 g (s.size-k) s nv e z w h3 h2).mono ?_;rintro u w' ⟨rfl,hb⟩;exact ⟨rfl,(show StEr w' g s nv k e from ⟨h1,h2,h3.below hb⟩),Fr.below hb⟩
 | ok v r =>
  obtain ⟨a,ha,rfl,h3⟩:=(h:StRr w g s nv r)
  have hne:=qb3 (tl s a) c hz;by_cases hn:(tl s a)[0]? = some c
  ·
   have hb:nxtB (tl s a) z=true:=by rw [hne];simpa using hn
   have hlt:a<s.size:=by
    apply Nat.lt_of_not_le;intro hle;rw [qbn hle] at hn
    cases hn
   have hE:takG c (Got.ok v (tl s a))=.ok true (tl s (a+1)):=by unfold takG;rw [Got.bnd,if_pos hn,qbi]
   rw [hE];refine (qdt g a s nv z w h3 ha hs hb).mono ?_;rintro u w' ⟨rfl,hr,hf⟩;exact ⟨rfl,⟨a+1,by omega,rfl,hr⟩,hf⟩
  ·
   have hb:nxtB (tl s a) z=false:=by rw [hne];simpa using hn
   have hE:takG c (Got.ok v (tl s a))=.ok false (tl s a):=by unfold takG;rw [Got.bnd,if_neg hn]
   rw [hE];refine (qds g a s nv z w h3 ha hs hb).mono ?_;rintro u w' ⟨rfl,hr⟩;exact ⟨rfl,⟨a,ha,rfl,h3.below hr⟩,Fr.below hr⟩
theorem qg5 {α:Type} (G:Got α) (g:Nat) (s:ByteArray) (nv:Value) (c:UInt8) (z:Int) (hz:(c.toNat:Int)=z) (w:World) (h:StGr w g s nv G) (hs:s.size<=281474976710656) :
  Calls Tryz.prog 68 #[.pointer (some ⟨g,0,none⟩),.int .u8 z] w fun u w'=>u=.returned (.tuple #[])/\StGr w' g s nv (musG c G)/\Fg g w w':=by
 cases G with
 | bad k e =>
  obtain ⟨h1,h2,h3⟩:=(h:StEr w g s nv k e)
  refine (qy6 g (s.size-k) s nv z e w h3 h2).mono ?_;rintro u w' ⟨rfl,hb⟩;exact ⟨rfl,(show StEr w' g s nv k e from ⟨h1,h2,h3.below hb⟩),Fr.below hb⟩
 | ok v r =>
  obtain ⟨a,ha,rfl,h3⟩:=(h:StRr w g s nv r)
  exact qxs g a s nv c z hz w h3 ha hs
theorem qj4 {t:Tm} {B:List Tm}:∀ {A:List Tm},(∀ s∈A,0<lexI s.2 t.2)->addP (A++B) [t]=A++addP B [t]
 | [],_=>rfl
 | s :: A,h=>by
  rw [List.cons_append,qh4 (h s (by simp)),qj4 fun x hx=>h x (by simp [hx])]
  rfl
theorem qvt {D:Int} {p:List Tm} {q:Rat} {m:List Int} {k:Nat} {s:Tm} (hp:Pok D p) (hm:Mok D m) (hs:p[k]? = some s) (h:lexI s.2 m=0) :
  addP p (oneP (q,m))=p.take k++((if s.1+q=0 then [] else [(s.1+q,m)])++p.drop (k+1)):=by
 have hk:=qas hs;have hsm:s∈p:=List.mem_of_getElem? hs;have he:s.2=m:=qkn (hp.1 s hsm).1 hm (by omega) (by omega);have hsplit:p=p.take k++s :: p.drop (k+1):=by
  rw [List.getElem?_eq_getElem hk] at hs;injection hs with hs
  rw [<- hs,List.getElem_cons_drop,List.take_append_drop]
 have hgt:∀ x∈p.take k,0<lexI x.2 m:=fun x hx=>by
  rw [<- he];refine qgn.2 ?_;have hpw:=hp.2;rw [hsplit] at hpw;exact (List.pairwise_append.1 hpw).2.2 x hx s (by simp)
 unfold oneP;by_cases h0:q=0
 ·
  rw [if_pos h0,qcy,h0,Rat.add_zero,if_neg (hp.1 s hsm).2,<- he];exact hsplit
 ·
  rw [if_neg h0]
  conv=>lhs;rw [hsplit]
  rw [qj4 (t:=(q,m)) hgt];congr 1;by_cases hz:s.1+q=0
  · rw [if_pos hz,qfm h hz,qcy];rfl
  · rw [if_neg hz,qh6 h hz,qcy,he];rfl
theorem qnw {D:Int} {p:List Tm} {q:Rat} {m:List Int} {k:Nat} (hp:Pok D p) (hk:k<=p.length) (h1:∀ i s,p[i]? = some s->k<=i->lexI s.2 m<0) (h2:∀ s,k≠0->p[k-1]? = some s->0<lexI s.2 m) :
  addP p (oneP (q,m))=p.take k++((if q=0 then [] else [(q,m)])++p.drop k):=by
 unfold oneP;by_cases h0:q=0
 ·
  rw [if_pos h0,qcy];simp [h0]
 ·
  rw [if_neg h0];have hgt:∀ x∈p.take k,0<lexI x.2 m:=fun x hx=>by
   obtain ⟨i,hi⟩:=List.getElem?_of_mem hx;have hik:i<k:=by
    have:=qas hi;rw [List.length_take] at this
    omega
   rw [List.getElem?_take,if_pos hik] at hi;obtain ⟨s,hs⟩:=qad (xs:=p) (k:=k-1) (by omega);have hs0:=h2 s (by omega) hs;by_cases e:i=k-1
   ·
    rw [e,hs] at hi;injection hi with hi
    rw [<- hi];exact hs0
   ·
    have hpw:=hp.2;rw [List.pairwise_iff_getElem] at hpw;have hi1:=qas hi;have hi2:=qas hs;have:=hpw i (k-1) hi1 hi2 (by omega);rw [List.getElem?_eq_getElem hi1] at hi;rw [List.getElem?_eq_getElem hi2] at hs;injection hi with hi
    injection hs with hs
    rw [hi,hs] at this;exact qgn.2 (qeg this (qgn.1 hs0))
  conv=>lhs;rw [<- List.take_append_drop k p]
  rw [qj4 (t:=(q,m)) hgt];congr 1
  cases hd:p.drop k with
  | nil=>rw [qej];rfl
  | cons s r =>
   have hs:p[k]? = some s:=by
    have:=congrArg (fun l=>l[0]?) hd;simpa using this
   rw [qh7 (h1 k s hs (nlr _)),qcy]
   rfl
theorem qsc (l:List Int) (a a':Option Addr) (c c':Nat) (w:World) (h:IntsR w a c l) (h':IntsR w a' c' l) :
  Calls Tryz.prog 124 #[.slice a l.length c,.slice a' l.length c'] w fun e w'=>e=.returned (.bool true)/\Below w.heap.size w w':=by
 have HI:=Hd (fun W (hb:Below w.heap.size w W)=>h.ext (xbw hb));have HJ:=Hd (fun W (hb:Below w.heap.size w W)=>h'.ext (xbw hb));have hc:=h.1;have hc2:=h.2.1;simp only [maxLen] at hc2;clear h h';go_enter Tryz.func124,Tryz.ntmps124;go_wp2
 go_loopg [5] (l.length+1) (fun gk sv wr=>∃ j:Nat,Hid (j+gk=l.length+1)/\sv=.int .i64 j/\Hid (Below w.heap.size w wr))
 case atStart=>exact ⟨0,by show _=_;omega,rfl,Below.refl _ _⟩
 case round =>
  obtain ⟨j,hj,rfl,hb⟩:=hrel;obtain ⟨wq,rfl⟩:∃ W:World,W=wr:=⟨_,rfl⟩
  by_cases hjl:j<l.length
  ·
   obtain ⟨x,hx⟩:=qad hjl;obtain ⟨b,off,rfl,hcx,hix⟩:=qbx (HI.out wq hb.out) hx;have CE:=qlf l j a' c' wq.drew ((HJ.out wq hb.out).ext (xbw ((Below.refl wq.heap.size wq).drew)));rw [qcf hx] at CE;replace CE:=Hd CE;have hb2:=Hd (show Below w.heap.size w wq.drew from hb.out.drew);clear hx;go_wp2;refine wrx (S:=(fun x=>x=wq.drew)) [(0,.q),(1,.q),(2,.q),(3,.q),(4,.q),(5,.q),(6,.l),(7,.p)] (rfl) ?_
   iterate 6 (refine qab rfl rfl fun K hK=>xq ?_;go_simp;refine hK _ _ ?_;clear hK K)
   refine qal rfl rfl (fun K hK=>?_);go_simp;refine (CE.out).mono ?_;rintro e w' ⟨rfl,rfl⟩;dsimp only;refine hK.out _ _ (rfl) (fun _=>?_);clear hK K
   iterate 1 (refine qae rfl rfl fun K hK=>xp ?_;go_simp;refine hK _ _ ?_;clear hK K)
   refine qac ?_;go_wp2;go_roundg (gk-1)
   case rel=>exact ⟨j+1,by have:=hj.out;show _=_;omega,by go_num,hb2.out⟩
   case measure=>have:=hj.out;omega
  ·
   have hb2:=hb;go_wp2;go_ret;exact ⟨rfl,hb2.out⟩
end Go.Proofs.YtnilkimcdgmgkaaGreatDoor
