/- Walk: any line of a certificate (the reference). -/
import Derived.Test.YtnilkimcdgmgkaaGreatDoorCr25
import Derived.Test.YtnilkimcdgmgkaaGreatDoorCr21
set_option linter.all false
set_option maxRecDepth 100000
set_option maxHeartbeats 4000000
namespace Go.Proofs.YtnilkimcdgmgkaaGreatDoor
open Go.RowKit
theorem qyy {names:List ByteArray} {part:Nat} {c:CrQ} {t r:List UInt8} (hp:part=partQ c) (he:t≠wEnd) (hc:cutL 32 t=some (qb8,r)):linP names part c t=facLn names part c r:=by
 have h0:part≠0:=by rw [hp];unfold partQ;split <;> decide
 have h3:part≠3:=by rw [hp];unfold partQ;split <;> decide
 have h1:part=1↔c.C=[]:=by
  rw [hp];unfold partQ;by_cases h:c.C=[]
  · rw [if_pos h];exact ⟨fun _=>h,fun _=>rfl⟩
  · rw [if_neg h];exact ⟨fun e=>(by cases e),fun e=>absurd e h⟩
 unfold linP facLn lineQ;rw [if_neg h0,if_neg h3,if_neg he,hc];dsimp only;rw [if_neg (by decide),if_pos rfl]
 cases cutL 32 r with
 | none=>rfl
 | some q =>
  obtain ⟨d,x⟩:=q;dsimp only
  cases numC 0 d with
  | none=>rfl
  | some k =>
   dsimp only;by_cases hC:c.C=[]
   ·
    rw [if_pos hC,if_pos (h1.2 hC)];rcases polC names x with ⟨_ | p,e⟩
    · rfl
    ·
     dsimp only;by_cases hpe:p=[]
     · rw [if_pos hpe,if_pos hpe]
     ·
      rw [if_neg hpe,if_neg hpe];dsimp only;rw [if_pos hC]
   · rw [if_neg hC,if_neg fun e=>hC (h1.1 e)]
theorem qy9 {names:List ByteArray} {part:Nat} {c:CrQ} {t r:List UInt8} (hp:part=partQ c) (he:t≠wEnd) (hc:cutL 32 t=some (wCof,r)):linP names part c t=match polC names r with
  | (some p,_)=>(some (2,{ c with C:=c.C++[p] }),0)
  | (none,e)=>(none,e):=by
 have h0:part≠0:=by rw [hp];unfold partQ;split <;> decide
 have h3:part≠3:=by rw [hp];unfold partQ;split <;> decide
 unfold linP lineQ;rw [if_neg h0,if_neg h3,if_neg he,hc];dsimp only;rw [if_pos rfl];rcases polC names r with ⟨_ | p,e⟩
 · rfl
 ·
  dsimp only;rw [if_neg (by simp)]
theorem qzy {names:List ByteArray} {part:Nat} {c:CrQ} (hp:part=partQ c):linP names part c wEnd=(some (3,c),0):=by
 have h0:part≠0:=by rw [hp];unfold partQ;split <;> decide
 have h3:part≠3:=by rw [hp];unfold partQ;split <;> decide
 unfold linP;rw [if_neg h0,if_neg h3,if_pos rfl]
theorem qpz {names:List ByteArray} {part:Nat} {c:CrQ} {t:List UInt8} (hp:part=partQ c) (he:t≠wEnd) (hc:∀ w r,cutL 32 t=some (w,r)->w≠wCof/\w≠qb8):linP names part c t=(none,9):=by
 have h0:part≠0:=by rw [hp];unfold partQ;split <;> decide
 have h3:part≠3:=by rw [hp];unfold partQ;split <;> decide
 unfold linP lineQ;rw [if_neg h0,if_neg h3,if_neg he]
 cases h:cutL 32 t with
 | none=>rfl
 | some q =>
  obtain ⟨w,r⟩:=q;obtain ⟨h1,h2⟩:=hc w r h;dsimp only;rw [if_neg h1,if_neg h2]
theorem qak4 (names:List ByteArray) (t:List UInt8):linP names 0 noQ t=match cutL 32 t with
  | none=>(none,9)
  | some (w,r)=>if w=qfl then match numC 0 r with
    | none=>(none,9)
    | some n=>if n=0 then (none,9) else (some (1,⟨[],[],n,[]⟩),0)
   else (none,9):=by
 unfold linP qc3;rw [if_pos rfl]
 cases cutL 32 t with
 | none=>rfl
 | some q =>
  obtain ⟨w,r⟩:=q;dsimp only;by_cases hw:w=qfl
  ·
   rw [if_pos hw,if_pos hw,qy4]
   cases numC 0 r with
   | none=>rfl
   | some n =>
    by_cases h0:n=0
    · subst h0;rfl
    ·
     rw [if_neg (by simpa using h0)];dsimp only;rw [if_neg h0];rfl
  · rw [if_neg hw,if_neg hw]
def WokL (names:List ByteArray) (t:List UInt8):Prop:=∀ w r,cutL 32 t=some (w,r)->(w=wCof->Wok names r)/\(w=qb8->∀ d x,cutL 32 r=some (d,x)->Wok names x)
theorem qyl (g:Nat) (names:List ByteArray) (na:Option Addr) (nc:Nat) (s:ByteArray) (c:CrQ) (m:Nat) (w:World) (hst:CrSt g (.slice na names.length nc) m w c 3)
  (hE:∀ W,Below g w W->EnvC names na nc W) (hs:s.size<4294967281) :
  Calls Tryz.prog 9 #[.pointer (some ⟨g,0,none⟩),.string s] w (RetFa g (.slice na names.length nc) (m+1) (linP names 3 c s.data.toList) w):=by
 obtain ⟨fa,fc,hf,wa,wc,ca,cc,hc,hb,hr,hm1,hm2,hm3⟩:=hst;have hl:=hb.lt;have CC:=qki s w (hE w brf).2.1 hs;obtain ⟨⟨c1,c2,c3⟩,hcc⟩:∃ z,cutC s.data.toList=z:=⟨_,rfl⟩
 rw [hcc] at CC;dsimp only at CC;replace CC:=Hd CC;have HB:=Hd hb;clear hE hb hr hcc;go_enter Tryz.func9,Tryz.ntmps9;go_wp2_with fail;refine CC.out.mono ?_;rintro e w1 ⟨rfl,hb1⟩;have hB1:=HB.out.below' hb1;have z5:=hB1.cell 5;have hl1:=hB1.lt;clear hB1;go_wp2;go_ret;exact qb6 (by unfold linP;rw [if_neg (by decide),if_pos rfl]) (by decide) (hb1.mono (Nat.le_of_lt hl))
theorem zz91 {P:Prop} (h:P:=by
 go_enter Tryz.func9,Tryz.ntmps9;go_wp2_with fail;refine CC.out.mono ?_;rintro e w1 ⟨rfl,hb1⟩;have hB1:=HB.out.below' hb1;have z5:=hB1.cell 5;have hl1:=hB1.lt;go_wp2_with fail;refine (CN.out w1 hb1).mono ?_;rintro e w2 ⟨n,b,rfl,hb2,_⟩;clear hB1;go_wp2;go_ret;exact qb6 hG0.symm (by decide) ((bth hb1 hb2).mono hgw.out)
 ):P:=h
theorem qw5 (g:Nat) (names:List ByteArray) (na:Option Addr) (nc:Nat) (s:ByteArray) (m:Nat) (w:World) (hst:CrSt g (.slice na names.length nc) m w noQ 0)
  (hE:∀ W,Below g w W->EnvC names na nc W) (hs:s.size<4294967281) :
  Calls Tryz.prog 9 #[.pointer (some ⟨g,0,none⟩),.string s] w (RetFa g (.slice na names.length nc) (m+1) (linP names 0 noQ s.data.toList) w):=by
 obtain ⟨fa,fc,hf,wa,wc,ca,cc,hc,hb,hr,hm1,hm2,hm3⟩:=hst;have hl:=hb.lt;have HE:=Hd (fun W (hW:Below w.heap.size w W)=>hE W (hW.mono (Nat.le_of_lt hl)));have CC:=qki s w (HE.out w brf).2.1 hs;have hG0:=qak4 names s.data.toList;obtain ⟨G,hG⟩:∃ G,linP names 0 noQ s.data.toList=G:=⟨_,rfl⟩
 rw [hG] at hG0 ⊢;replace hG0:=hG0.symm;have hlen:s.data.toList.length=s.size:=Array.length_toList;have HB:=Hd hb;have HR:=Hd hr;have HM:=Hd (And.intro hm1 (And.intro hm2 hm3));unfold cutC at CC;have hgw:=Hd (Nat.le_of_lt hl);clear hE hb hr hm1 hm2 hm3 hG
 cases hcut:cutL 32 s.data.toList with
 | none =>
  rw [hcut] at hG0 CC;dsimp only at CC hG0;have CN:=fun W (hW:Below w.heap.size w W)=>qf4 (ofL []) W (by decide) (HE.out W hW).2.2.1 (HE.out W hW).2.2.2.1 (HE.out W hW).2.2.2.2
  obtain ⟨S1,hS1⟩:∃ z,ofL s.data.toList=z:=⟨_,rfl⟩
  obtain ⟨S2,hS2⟩:∃ z,ofL []=z:=⟨_,rfl⟩
  rw [hS2] at CN;rw [hS1,hS2] at CC;obtain ⟨bw,hbw⟩:∃ b,(S1.toList==[112,111,119,101,114])=b:=⟨_,rfl⟩
  have hbn:(S1.toList != [112,111,119,101,114]) = !bw:=by rw [bne,hbw]
  replace CN:=Hd CN;replace CC:=Hd CC;clear hcut hlen hS1 hS2
  cases bw
  ·
   skip
   exact zz91
  ·
   skip
   exact zz91
 | some dx =>
  obtain ⟨d,x⟩:=dx;obtain ⟨hcs,_⟩:=qa9 32 _ _ _ hcut;have hll:=congrArg List.length hcs;rw [List.length_append,List.length_cons,hlen] at hll;rw [hcut] at hG0 CC;dsimp only at hG0 CC;have CN:=fun W (hW:Below w.heap.size w W)=>qf4 (ofL x) W (by rw [qa4];omega) (HE.out W hW).2.2.1 (HE.out W hW).2.2.2.1 (HE.out W hW).2.2.2.2
  rw [qaw] at CN;obtain ⟨S1,hS1⟩:∃ z,ofL d=z:=⟨_,rfl⟩
  obtain ⟨S2,hS2⟩:∃ z,ofL x=z:=⟨_,rfl⟩
  rw [hS2] at CN;rw [hS1,hS2] at CC;obtain ⟨bw,hbw⟩:∃ b,(S1.toList==[112,111,119,101,114])=b:=⟨_,rfl⟩
  have hbn:(S1.toList != [112,111,119,101,114]) = !bw:=by rw [bne,hbw]
  have hdw:d=qfl↔bw=true:=by
   rw [<- hbw,<- hS1,qa6,qaw,beq_iff_eq];exact Iff.rfl
  obtain ⟨NG,hNG⟩:∃ z,numC 0 x=z:=⟨_,rfl⟩
  rw [hNG] at CN hG0;replace CN:=Hd CN;replace CC:=Hd CC;clear hcut hlen hcs hll hS1 hS2 hNG
  cases bw
  ·
   rw [if_neg fun e=>by cases hdw.1 e] at hG0;clear hdw;exact zz91
  ·
   rw [if_pos (hdw.2 rfl)] at hG0;clear hdw
   cases NG with
   | none =>
    dsimp only at hG0;go_enter Tryz.func9,Tryz.ntmps9;go_wp2_with fail;refine CC.out.mono ?_;rintro e w1 ⟨rfl,hb1⟩;have hB1:=HB.out.below' hb1;have z5:=hB1.cell 5;have hl1:=hB1.lt;go_wp2_with fail;refine (CN.out w1 hb1).mono ?_;rintro e w2 ⟨n,b,rfl,hb2,hnk⟩;obtain rfl:=hnk.2 rfl;clear hB1 hnk;go_wp2;go_ret;exact qb6 hG0.symm (by decide) ((bth hb1 hb2).mono hgw.out)
   | some k =>
    dsimp only at hG0;by_cases hk0:k=0
    ·
     subst hk0;rw [if_pos rfl] at hG0;go_enter Tryz.func9,Tryz.ntmps9;go_wp2_with fail;refine CC.out.mono ?_;rintro e w1 ⟨rfl,hb1⟩;have hB1:=HB.out.below' hb1;have z5:=hB1.cell 5;have hl1:=hB1.lt;go_wp2_with fail;refine (CN.out w1 hb1).mono ?_;rintro e w2 ⟨n,b,rfl,hb2,hnk⟩;obtain ⟨rfl,rfl⟩:=hnk.1 0 rfl;clear hB1 hnk;go_wp2;go_ret;exact qb6 hG0.symm (by decide) ((bth hb1 hb2).mono hgw.out)
    ·
     rw [if_neg hk0] at hG0;have hkz:((k:Int)==0)=false:=by rw [beq_eq_false_iff_ne];omega
     have hkz2:(k==0)=false:=by rw [beq_eq_false_iff_ne];exact hk0
     replace hk0:=Hd hk0;go_enter Tryz.func9,Tryz.ntmps9;go_wp2_with fail;refine CC.out.mono ?_;rintro e w1 ⟨rfl,hb1⟩;have hB1:=HB.out.below' hb1;have z5:=hB1.cell 5;have hl1:=hB1.lt;go_wp2_with fail;refine (CN.out w1 hb1).mono ?_;rintro e w2 ⟨n,b,rfl,hb2,hnk⟩;obtain ⟨rfl,rfl⟩:=hnk.1 k rfl;have hw2:=bth hb1 hb2;have hB2:=HB.out.below' hw2;have f3:=hB2.frozen 3;have f5:=hB2.frozen 5;have y3:=hB2.cell 3;have y5:=hB2.cell 5;have hl2:=hB2.lt;have hB2':=Hd hB2;have hr2:=Hd (HR.out.call hw2);have hw2':=Hd (hw2.mono hgw.out);clear hB1 hnk z5 hl1 hb1 hb2 hw2 hB2;go_wp2;go_ret;refine qih hG0.symm ((hw2'.out.setCell (nlr _) _).setCell (nlr _) _) ⟨fa,fc,hf,wa,wc,ca,cc,hc,bS (bS hB2'.out rfl) rfl,(hr2.out.fr ((Fr.refl _ _).setc (.inl rfl))).fr ((Fr.refl _ _).setc (.inl rfl)),?_,?_,?_⟩
     · have:=HM.out.1;omega
     · have:=HM.out.2.1;show _<=m+1;simp
     · have:=HM.out.2.2;omega
section
variable {Z : Nat -> Prop} {B : Nat} {w : World} {F C : List (List Tm)} {P : List Int} {fa wa ca : Option Addr} {fc wc cc : Nat} {hf hc : List PQ}
theorem CrZ.nb (h:CrZ Z B w F P C fa fc hf wa wc ca cc hc) {g:Nat} (hg:w.heap.size<=g):¬ Bk fa g/\¬ Bk wa g/\¬ Bk ca g :=
 ⟨fun k=>by have:=h.bk g (.inl k);omega,fun k=>by have:=h.bk g (.inr (.inl k));omega,fun k=>by have:=h.bk g (.inr (.inr k));omega⟩
theorem qcp {a a':Option Addr} {w:World} {g:Nat} (ha:∃ q,a'=some ⟨q,0,none⟩/\(a=some ⟨q,0,none⟩\/q=w.heap.size)) (h:¬ Bk a g) (hg:g<w.heap.size):¬ Bk a' g:=by
 obtain ⟨q,rfl,h2⟩:=ha;rintro ⟨p,hp,rfl⟩;injection hp with hp
 subst hp;rcases h2 with h2 | h2
 · exact h ⟨_,h2,rfl⟩
 ·
  have h3:q<w.heap.size:=hg
  omega
end
theorem qb7 {a:Option Addr} {g n c:Nat} (h:¬ Bk a g):some g≠Value.ownBlock (.slice a n c):=by
 intro e
 cases a with
 | none=>simp [Value.ownBlock] at e
 | some p=>simp [Value.ownBlock] at e;exact h ⟨p,rfl,e⟩
def RetAd (Z:Nat->Prop) (B m:Nat) (G:Option CrQ × Int) (w:World) (e:Ending) (w':World):Prop:=∃ (fa:Option Addr) (nf fc:Nat) (wa:Option Addr) (np wc:Nat) (z:Int) (ca:Option Addr) (nk cc:Nat) (er:Int),e=.returned (.tuple #[.agg #[.slice fa nf fc,.slice wa np wc,.int .i64 z,.slice ca nk cc],.int .i64 er])/\Below B w w'/\w.heap.size<=w'.heap.size /\
 (∀ c' x,G=(some c',x)->er=0/\∃ (hf hc:List PQ),nf=hf.length/\np=c'.P.length/\z=c'.n/\nk=hc.length/\CrZ Z B w' c'.F c'.P c'.C fa fc hf wa wc ca cc hc/\hf.length<=m/\c'.P.length<=m/\hc.length<=m) /\
 (∀ x,G=(none,x)->er=x/\x≠0)
theorem qdm {Z:Nat->Prop} {B m:Nat} {G:Option CrQ × Int} {er z:Int} {fa wa ca:Option Addr} {nf fc np wc nk cc:Nat} {w w':World} (hG:G=(none,er)) (h0:er≠0) (hb:Below B w w') (hs:w.heap.size<=w'.heap.size):RetAd Z B m G w (.returned (.tuple #[.agg #[.slice fa nf fc,.slice wa np wc,.int .i64 z,.slice ca nk cc],.int .i64 er])) w' :=
 ⟨_,_,_,_,_,_,_,_,_,_,er,rfl,hb,hs,(fun c' x e=>by rw [hG] at e;injection e with e;cases e),fun x e=>by rw [hG] at e;injection e with _ e;exact ⟨e,by rw [<- e];exact h0⟩⟩
theorem qqp {Z:Nat->Prop} {B m:Nat} {c':CrQ} {G:Option CrQ × Int} {fa wa ca:Option Addr} {fc wc cc:Nat} {hf hc:List PQ} {w w':World} (hG:G=(some c',0)) (hb:Below B w w') (hs:w.heap.size<=w'.heap.size) (h:CrZ Z B w' c'.F c'.P c'.C fa fc hf wa wc ca cc hc) (h1:hf.length<=m) (h2:c'.P.length<=m) (h3:hc.length<=m):RetAd Z B m G w (.returned (.tuple #[.agg #[.slice fa hf.length fc,.slice wa c'.P.length wc,.int .i64 c'.n,.slice ca hc.length cc],.int .i64 0])) w' :=
 ⟨_,_,_,_,_,_,_,_,_,_,0,rfl,hb,hs,(fun c'' x e=>by rw [hG] at e;injection e with e _;injection e with e;subst e;exact ⟨rfl,hf,hc,rfl,rfl,rfl,rfl,h,h1,h2,h3⟩),fun x e=>by rw [hG] at e;injection e with e;cases e⟩
theorem ql7 {names:List ByteArray} {c:CrQ} {t:List UInt8} (hc:∀ w r,cutL 32 t=some (w,r)->w≠wCof/\w≠qb8):lineQ names c t=(none,9):=by
 unfold lineQ
 cases h:cutL 32 t with
 | none=>rfl
 | some q =>
  obtain ⟨w,r⟩:=q;obtain ⟨h1,h2⟩:=hc w r h;dsimp only;rw [if_neg h1,if_neg h2]
theorem qub {names:List ByteArray} {c:CrQ} {t r:List UInt8} (hc:cutL 32 t=some (wCof,r)):lineQ names c t=match polC names r with
  | (some p,_)=>(some { c with C:=c.C++[p] },0)
  | (none,e)=>(none,e):=by
 unfold lineQ;rw [hc];dsimp only;rw [if_pos rfl]
 rfl
theorem qu9 {names:List ByteArray} {c:CrQ} {t r:List UInt8} (hc:cutL 32 t=some (qb8,r)):lineQ names c t=match cutL 32 r with
  | none=>(none,9)
  | some (d,x)=>match numC 0 d with
   | none=>(none,9)
   | some k=>if c.C=[] then match polC names x with
     | (some p,_)=>if p=[] then (none,3) else (some { c with F:=c.F++[p],P:=c.P++[(k:Int)] },0)
     | (none,e)=>(none,e)
    else (none,9):=by
 unfold lineQ;rw [hc];dsimp only;rw [if_neg (by decide),if_pos rfl]
 rfl
theorem qrz (Z:Nat->Prop) (B m:Nat) (names:List ByteArray) (na:Option Addr) (nc:Nat) (s:ByteArray) (c:CrQ) (fa wa ca:Option Addr) (fc wc cc:Nat) (hf hc:List PQ) (w:World) (hr:CrZ Z B w c.F c.P c.C fa fc hf wa wc ca cc hc) (hZ:∀ b,Z b->b<w.heap.size) (hB:B<=w.heap.size) (hm1:hf.length<=m) (hm2:c.P.length<=m) (hm3:hc.length<=m) (hm:m<=16000000)
  (hE:StrsR w na nc names) (hnz:∀ x∈names,x.size<=1048576) (hnl:names.length<=1000) (hs:s.size<=3000) (hW:WokL names s.data.toList) (x:List UInt8) (hcut:cutL 32 s.data.toList=some (wCof,x)) :
  Calls Tryz.prog 12 #[.agg #[.slice fa hf.length fc,.slice wa c.P.length wc,.int .i64 c.n,.slice ca hc.length cc],.string s,.slice na names.length nc] w (RetAd Z B (m+1) (lineQ names c s.data.toList) w):=by
 have HR:=Hd hr;have HZ:=Hd hZ;have HB:=Hd hB;have HM:=Hd (And.intro hm1 (And.intro hm2 hm3));have HNZ:=Hd hnz;have HE:=Hd (fun W (hW:Below w.heap.size w W)=>hE.ext (xbw hW));have CC:=fun W=>qdl s 32 32 rfl W (by omega)
 have hlen:s.data.toList.length=s.size:=Array.length_toList;clear hr hZ hB hm1 hm2 hm3 hnz hE;unfold cutB at CC;obtain ⟨d,hd⟩:∃ d,d=wCof:=⟨_,rfl⟩
 rw [<- hd] at hcut;have hWk:=hW d x hcut;obtain ⟨hcs,_⟩:=qa9 32 _ _ _ hcut;have hll:=congrArg List.length hcs;rw [List.length_append,List.length_cons,hlen] at hll;rw [hcut] at CC;dsimp only at CC;have hxs:(ofL x).size<=3000:=by rw [qa4];omega
 obtain ⟨S1,hS1⟩:∃ z,ofL d=z:=⟨_,rfl⟩
 obtain ⟨S2,hS2⟩:∃ z,ofL x=z:=⟨_,rfl⟩
 have hx2:x=S2.data.toList:=by rw [<- hS2,qaw]
 rw [hS2] at hxs;rw [hS1,hS2] at CC;obtain ⟨bf,hbf⟩:∃ b,(S1.toList==[102,97,99,116,111,114])=b:=⟨_,rfl⟩
 obtain ⟨bc,hbc⟩:∃ b,(S1.toList==[99,111,102,97,99,116,111,114])=b:=⟨_,rfl⟩
 have hbf':(S1.toList != [102,97,99,116,111,114]) = !bf:=by rw [bne,hbf]
 have hbc':(S1.toList != [99,111,102,97,99,116,111,114]) = !bc:=by rw [bne,hbc]
 have hdf:d=qb8↔bf=true:=by rw [<- hbf,<- hS1,qa6,qaw,beq_iff_eq];exact Iff.rfl
 have hdc:d=wCof↔bc=true:=by rw [<- hbc,<- hS1,qa6,qaw,beq_iff_eq];exact Iff.rfl
 replace CC:=Hd CC;have hbc0:=hdc.1 hd;subst hbc0;have hbf0:bf=false:=by
  cases bf
  · rfl
  · have:=hdf.2 rfl;rw [hd] at this;exact absurd this (by decide)
 subst hbf0;subst hd;have hG:=qub (names:=names) (c:=c) hcut;have hWx:=hWk.1 rfl;rw [hx2] at hWx hG;have CP:=fun X W (hX:∀ b,X b->b<W.heap.size) (hW:Below w.heap.size w W)=>qmh X names na nc S2 W hX (HE.out W hW) HNZ.out hnl hxs hWx
 obtain ⟨PG,hPG⟩:∃ z,polC names S2.data.toList=z:=⟨_,rfl⟩
 rw [hPG] at CP hG;have hG1:=Hd hG;replace CP:=Hd CP;clear hW hcut hWk hcs hll hx2 hS2 hS1 hdf hdc hlen hWx hPG hG;go_enter Tryz.func12,Tryz.ntmps12;go_wp2_with fail;refine qah (fun W=>Blk W w.heap.size 26 #[.slice fa hf.length fc,.slice wa c.P.length wc,.int .i64 c.n,.slice ca hc.length cc]/\Blk W (w.heap.size+1) 26 #[.slice none 0 0,.slice none 0 0,.int .i64 0,.slice none 0 0]/\CrZ (fun b=>Z b\/b=w.heap.size\/b=w.heap.size+1) B W c.F c.P c.C fa fc hf wa wc ca cc hc/\Below w.heap.size w W/\W.heap.size=w.heap.size+2) ⟨bA (bN rfl),bN (by simp),HR.out.wide2 _ _,(brf.alloc (nlr _) _).alloc (by simp) _,by simp⟩ ?_;rintro w0 ⟨hx0,hy0,hr0,hw0,hs0⟩;refine (CC.out w0).mono ?_;rintro e w1 ⟨rfl,hb1⟩;have hw1:=Hd (bth hw0 hb1);have hx1:=hx0.below' hb1;have hy1:=hy0.below' hb1;have hr1:=Hd (hr0.call hb1);have hs1:=Hd (show w.heap.size+2<=w1.heap.size by have:=hb1.size;omega)
 obtain ⟨g,hg⟩:∃ q,w.heap.size=q:=⟨_,rfl⟩
 obtain ⟨h,hh⟩:∃ q,g+1=q:=⟨_,rfl⟩
 rw [hg] at hx1 hy1 hr1 hs1 ⊢;rw [hh] at hy1 hr1 ⊢;have hgB:=Hd (show B<=g/\g<h by have:=HB.out;omega);have hgh:¬ g=h:=by omega
 have hhg:¬ h=g:=by omega
 replace hs1:=Hd (show h<w1.heap.size by have:=hs1.out;omega);replace hg:=Hd hg;replace hh:=Hd hh;clear CC hx0 hy0 hr0 hw0 hs0 hb1;have hx1':=Hd hx1;have hy1':=Hd hy1;clear hx1 hy1;have hXl:∀ b,Xz (fun b=>Z b\/b=g\/b=h) fa wa ca b->b<w1.heap.size:=hr1.out.xlt fun b hb=>by
  rcases hb with hb | rfl | rfl
  · have:=HZ.out b hb;have:=hw1.out.size;omega
  · have:=hgB.out;have:=hs1.out;omega
  · exact hs1.out
 have CP1:=Hd (CP.out _ w1 hXl hw1.out);clear CP hXl;go_wp2_with fail;refine CP1.out.mono ?_;rintro e w3 ⟨a,n,cp,er,rfl,hb3,hok,hbad⟩
 -- world w3 behind polynomial;the handle's cell is laid
 have hx3:=hx1'.out.below' hb3;have hy3:=hy1'.out.below' hb3;have hw3:=bth hw1.out hb3;have hr3:=hr1.out.call hb3;have hx4:=Hd (bA (o:=.cells #[.slice a n cp] 53) hx3);have hy4:=Hd (bA (o:=.cells #[.slice a n cp] 53) hy3);have hr4:=Hd (hr3.call (brf.alloc (nlr _) (.cells #[.slice a n cp] 53)));have hw4:=Hd (show Below B w (w3.alloc (.cells #[.slice a n cp] 53)) from (hw3.mono HB.out).alloc (by have:=hy3.lt;have:=hgB.out;omega) _);have hl4:=Hd (show h<w3.heap.size from hy3.lt);have hz4:=Hd (show w.heap.size<=w3.heap.size from hw3.size);have hok':=Hd hok;have hbad':=Hd hbad;have hP4:=Hd (fun p x (e:PG=(some p,x))=>(show PolX (Xz (fun b=>Z b\/b=g\/b=h) fa wa ca) (w3.alloc (.cells #[.slice a n cp] 53)) a cp p from (hok p x e).2.1.step ((Agr.refl _ _).alloc _)));obtain ⟨x0,x1,x2,x3⟩:=cq4 hx3;have hlx:=Blk.lt hx3;clear CP1 hok hbad hx3 hy3 hw3 hr3
 -- the polynomial's handle (a,n,cp) is laid behind the row hc (ca,cc): from world W4_=w3 with the handle's cell;tmps 44,46
 have hcl:Hid (∀ j v,(PQ.cs ⟨n,a,cp⟩)[j]? = some v->(w3.alloc (.cells #[.slice a n cp] 53)).cell? ⟨w3.heap.size,j,none⟩=some v):=Hd fun j v hj=>by
  cases j with
  | zero=>simp [PQ.cs] at hj;subst hj;exact (Blk.new w3 53 #[.slice a n cp]).cell 0
  | succ j=>simp [PQ.cs] at hj
 go_wp2_with (at_builtin;go_must (refine qa8 (B:=B) rfl (.tmp 44) (.tmp 46) 23 rfl Tryz.underlying23 qey rfl (by omega) (by omega) PQ.cs_len ca cc (l:=hc) rfl hr4.out.oC ⟨n,a,cp⟩ (PQ.cs_one _) w3.heap.size 1 rfl hcl.out (hc++[⟨n,a,cp⟩]) rfl (by have:=HM.out;rw [List.length_append];simp;omega) (by have:=hl4.out;have:=hgB.out;simp;omega) ?_);intro ra2 rc2 w5 ho5 hg5 ha5;refine park ?_);refine Hd ?_
 -- behind the append of the handle to the row AA_ (which component: 2.2)
 have hng:=Hd (HR.out.nb (g:=g) (Nat.le_of_eq hg.out));have hnh:=Hd (HR.out.nb (g:=h) (by have:=hg.out;have:=hh.out;omega));have hx5:=hx4.out.grown hg5 (qb7 hng.out.2.2);have hy5:=hy4.out.grown hg5 (qb7 hnh.out.2.2);have hw5:=Hd (qdq hw4.out hr4.out.oC (by have:=hl4.out;have:=hgB.out;simp;omega) hg5);have hz5:=Hd (show w.heap.size<=w5.heap.size/\h<w5.heap.size from by have h1:=hg5.size;have:=hz4.out;have:=hl4.out;simp at h1;omega);have hq5:=Hd (And.intro (qcp ha5 hng.out.2.2 (by have:=hl4.out;have:=hgB.out;simp;omega)) (qcp ha5 hnh.out.2.2 (by have:=hl4.out;simp;omega)));have hr5:=Hd (fun p x (e:PG=(some p,x))=>hr4.out.pushC hg5 ho5 ha5 (hP4.out p x e) (hok'.out p x e).1);have hll:(hc++[(⟨n,a,cp⟩:PQ)]).length=hc.length+1:=by simp
 obtain ⟨hc2,hhc2⟩:∃ z,hc++[(⟨n,a,cp⟩:PQ)]=z:=⟨_,rfl⟩
 rw [hhc2] at hr5 hll;rw [<- hll];have hll':=Hd hll;have hx5':=Hd hx5;have hy5':=Hd hy5;clear x0 x1 x2 x3 hlx;obtain ⟨x0,x1,x2,x3⟩:=cq4 hx5;have hlx:=Blk.lt hx5;have fg3:=Blk.frozen hx5 3;obtain ⟨y0,y1,y2,y3⟩:=cq4 hy5;obtain ⟨f0,f1,f2,f3⟩:=fq4 hy5;have hly:=Blk.lt hy5;clear hx5 hy5 hx4 hy4 hr4 hw4 hcl ho5 hg5 ha5 hhc2 hll;go_wp2;refine qak (fun W=>Blk W h 26 #[.slice fa hf.length fc,.slice wa c.P.length wc,.int .i64 c.n,.slice ra2 hc2.length rc2]/\Below B w W/\w.heap.size<=W.heap.size/\(∀ p x,PG=(some p,x)->CrZ Z B W c.F c.P (c.C++[p]) fa fc hf wa wc ra2 rc2 hc2)) ⟨blkS4 (bF (by have:=hgB.out;omega) hy5'.out),qbu (hw5.out.setCell (p:=⟨g,3,none⟩) hgB.out.1 _) (by have:=hgB.out;omega),by have:=hz5.out.1;simpa using this,fun p x e=>(((hr5.out p x e).set_ (.inr (.inl rfl)) hng.out.1 hng.out.2.1 hq5.out.1).set4 (.inr (.inr rfl)) ⟨hnh.out.1,hnh.out.2.1,hq5.out.2⟩).less fun b hb=>.inl hb⟩ ?_
 rintro W ⟨hzW,hbW,hsW,hrW⟩;obtain ⟨e0,e1,e2,e3⟩:=cq4 hzW;refine bodyPost_ret (v:=.tuple #[.agg #[.slice fa hf.length fc,.slice wa c.P.length wc,.int .i64 c.n,.slice ra2 hc2.length rc2],.int .i64 er]) (by simp [results,Tryz.results12,go_sem,e0,e1,e2,e3]) rfl ?_;obtain ⟨o,x⟩:=PG
 cases o with
 | none =>
  obtain ⟨rfl,h0⟩:=hbad'.out x rfl;exact qdm hG1.out h0 hbW hsW
 | some p =>
  obtain ⟨_,_,rfl⟩:=hok'.out p x rfl;exact qqp (c':={ c with C:=c.C++[p] }) hG1.out hbW hsW (hrW p x rfl) (by have:=HM.out.1;omega) (by have:=HM.out.2.1;show c.P.length<=_;omega) (by have:=HM.out.2.2;have:=hll'.out;omega)
theorem zz92 {P:Prop} (h:P:=by
 clear hCl CP;go_enter Tryz.func12,Tryz.ntmps12;go_wp2_with fail;refine qah (fun W=>Blk W w.heap.size 26 #[.slice fa hf.length fc,.slice wa c.P.length wc,.int .i64 c.n,.slice ca hc.length cc]/\Blk W (w.heap.size+1) 26 #[.slice none 0 0,.slice none 0 0,.int .i64 0,.slice none 0 0]/\CrZ (fun b=>Z b\/b=w.heap.size\/b=w.heap.size+1) B W c.F c.P c.C fa fc hf wa wc ca cc hc/\Below w.heap.size w W/\W.heap.size=w.heap.size+2) ⟨bA (bN rfl),bN (by simp),HR.out.wide2 _ _,(brf.alloc (nlr _) _).alloc (by simp) _,by simp⟩ ?_;rintro w0 ⟨hx0,hy0,hr0,hw0,hs0⟩;refine (CC.out w0).mono ?_;rintro e w1 ⟨rfl,hb1⟩;have hw1:=Hd (bth hw0 hb1);have hx1:=hx0.below' hb1;have hy1:=hy0.below' hb1;have hr1:=Hd (hr0.call hb1);have hs1:=Hd (show w.heap.size+2<=w1.heap.size by have:=hb1.size;omega);obtain ⟨g,hg⟩:∃ q,w.heap.size=q:=⟨_,rfl⟩
 obtain ⟨h,hh⟩:∃ q,g+1=q:=⟨_,rfl⟩
 rw [hg] at hx1 hy1 hr1 hs1 ⊢;rw [hh] at hy1 hr1 ⊢;have hgB:=Hd (show B<=g/\g<h by have:=HB.out;omega);have hgh:¬ g=h:=by omega
 have hhg:¬ h=g:=by omega
 replace hs1:=Hd (show h<w1.heap.size by have:=hs1.out;omega);replace hg:=Hd hg;replace hh:=Hd hh;clear CC hx0 hy0 hr0 hw0 hs0 hb1;have hx1':=Hd hx1;have hy1':=Hd hy1
 -- the second cut and the number
 clear hx1 hy1;go_wp2_with fail;refine (C2.out w1).mono ?_;rintro e w2 ⟨rfl,hb2⟩;go_wp2_with fail;refine (CN.out w2).mono ?_;rintro e w4 ⟨rfl,hb4⟩;have hb14:=bth hb2 hb4;have hx4:=hx1'.out.below' hb14;have hy4:=hy1'.out.below' hb14;have hr4:=Hd (hr1.out.call hb14);have hw4:=Hd (bth hw1.out hb14);have hs4:=Hd (show h<w4.heap.size by have:=hs1.out;have:=hb14.size;omega);clear C2 CN hb2 hb4 hb14 hx1' hy1' hr1 hw1 hs1;obtain ⟨x0,x1,x2,x3⟩:=cq4 hx4;have hlx:=Blk.lt hx4;obtain ⟨y0,y1,y2,y3⟩:=cq4 hy4;obtain ⟨f0,f1,f2,f3⟩:=fq4 hy4;have hly:=Blk.lt hy4;have hy4':=Hd hy4;clear hx4 hy4;go_wp2;refine qak (fun W=>Blk W h 26 #[.slice fa hf.length fc,.slice wa c.P.length wc,.int .i64 c.n,.slice ca hc.length cc]/\Below B w W/\w.heap.size<=W.heap.size) ⟨blkS4 hy4'.out,qbu (hw4.out.mono HB.out) (by have:=hgB.out;omega),by have:=hw4.out.size;simpa using this⟩ ?_;rintro W ⟨hzW,hbW,hsW⟩
 obtain ⟨e0,e1,e2,e3⟩:=cq4 hzW;refine bodyPost_ret (v:=.tuple #[.agg #[.slice fa hf.length fc,.slice wa c.P.length wc,.int .i64 c.n,.slice ca hc.length cc],.int .i64 9]) (by simp [results,Tryz.results12,go_sem,e0,e1,e2,e3]) rfl ?_;exact qdm hG.out (by decide) hbW hsW
 ):P:=h
theorem qr5 (Z:Nat->Prop) (B m:Nat) (names:List ByteArray) (na:Option Addr) (nc:Nat) (s:ByteArray) (c:CrQ) (fa wa ca:Option Addr) (fc wc cc:Nat) (hf hc:List PQ) (w:World) (hr:CrZ Z B w c.F c.P c.C fa fc hf wa wc ca cc hc) (hZ:∀ b,Z b->b<w.heap.size) (hB:B<=w.heap.size) (hm1:hf.length<=m) (hm2:c.P.length<=m) (hm3:hc.length<=m) (hm:m<=16000000)
  (hE:StrsR w na nc names) (hnz:∀ x∈names,x.size<=1048576) (hnl:names.length<=1000) (hs:s.size<=3000) (hW:WokL names s.data.toList) (x:List UInt8) (hcut:cutL 32 s.data.toList=some (qb8,x)) :
  Calls Tryz.prog 12 #[.agg #[.slice fa hf.length fc,.slice wa c.P.length wc,.int .i64 c.n,.slice ca hc.length cc],.string s,.slice na names.length nc] w (RetAd Z B (m+1) (lineQ names c s.data.toList) w):=by
 have HR:=Hd hr;have HZ:=Hd hZ;have HB:=Hd hB;have HM:=Hd (And.intro hm1 (And.intro hm2 hm3));have HNZ:=Hd hnz;have HE:=Hd (fun W (hW:Below w.heap.size w W)=>hE.ext (xbw hW));have CC:=fun W=>qdl s 32 32 rfl W (by omega)
 have hlen:s.data.toList.length=s.size:=Array.length_toList;clear hr hZ hB hm1 hm2 hm3 hnz hE;unfold cutB at CC;obtain ⟨d,hd⟩:∃ d,d=qb8:=⟨_,rfl⟩
 rw [<- hd] at hcut;have hWk:=hW d x hcut;obtain ⟨hcs,_⟩:=qa9 32 _ _ _ hcut;have hll:=congrArg List.length hcs;rw [List.length_append,List.length_cons,hlen] at hll;rw [hcut] at CC;dsimp only at CC;have hxs:(ofL x).size<=3000:=by rw [qa4];omega
 obtain ⟨S1,hS1⟩:∃ z,ofL d=z:=⟨_,rfl⟩
 obtain ⟨S2,hS2⟩:∃ z,ofL x=z:=⟨_,rfl⟩
 have hx2:x=S2.data.toList:=by rw [<- hS2,qaw]
 rw [hS2] at hxs;rw [hS1,hS2] at CC;obtain ⟨bf,hbf⟩:∃ b,(S1.toList==[102,97,99,116,111,114])=b:=⟨_,rfl⟩
 obtain ⟨bc,hbc⟩:∃ b,(S1.toList==[99,111,102,97,99,116,111,114])=b:=⟨_,rfl⟩
 have hbf':(S1.toList != [102,97,99,116,111,114]) = !bf:=by rw [bne,hbf]
 have hbc':(S1.toList != [99,111,102,97,99,116,111,114]) = !bc:=by rw [bne,hbc]
 have hdf:d=qb8↔bf=true:=by rw [<- hbf,<- hS1,qa6,qaw,beq_iff_eq];exact Iff.rfl
 have hdc:d=wCof↔bc=true:=by rw [<- hbc,<- hS1,qa6,qaw,beq_iff_eq];exact Iff.rfl
 replace CC:=Hd CC;have hbf0:=hdf.1 hd;subst hbf0;subst hd;have hbcf:bc=false:=by
  cases bc
  · rfl
  · have:=hdc.2 rfl;cases this
 subst hbcf;have hG:=qu9 (names:=names) (c:=c) hcut;rw [hx2] at hG;have C2:=fun W=>qdl S2 32 32 rfl W (by omega)
 unfold cutB at C2
 cases hcut2:cutL 32 S2.data.toList with
 | none =>
  rw [hcut2] at C2 hG;dsimp only at C2 hG;have CN:=fun W=>qig 0 (ofL S2.data.toList) W (by omega)
  obtain ⟨S3,hS3⟩:∃ z,ofL S2.data.toList=z:=⟨_,rfl⟩
  obtain ⟨S4,hS4⟩:∃ z,ofL []=z:=⟨_,rfl⟩
  rw [hS3,hS4] at C2;rw [hS3] at CN;obtain ⟨K,hK⟩:∃ z,n30 0 S3.data.toList=z:=⟨_,rfl⟩
  rw [hK] at CN;replace C2:=Hd C2;replace CN:=Hd CN;replace hG:=Hd hG;clear hW hcut hWk hcs hll hx2 hS2 hS1 hdf hdc hlen hcut2 hS3 hS4 hK;go_enter Tryz.func12,Tryz.ntmps12;go_wp2_with fail;refine qah (fun W=>Blk W w.heap.size 26 #[.slice fa hf.length fc,.slice wa c.P.length wc,.int .i64 c.n,.slice ca hc.length cc]/\Blk W (w.heap.size+1) 26 #[.slice none 0 0,.slice none 0 0,.int .i64 0,.slice none 0 0]/\CrZ (fun b=>Z b\/b=w.heap.size\/b=w.heap.size+1) B W c.F c.P c.C fa fc hf wa wc ca cc hc/\Below w.heap.size w W/\W.heap.size=w.heap.size+2) ⟨bA (bN rfl),bN (by simp),HR.out.wide2 _ _,(brf.alloc (nlr _) _).alloc (by simp) _,by simp⟩ ?_;rintro w0 ⟨hx0,hy0,hr0,hw0,hs0⟩;refine (CC.out w0).mono ?_;rintro e w1 ⟨rfl,hb1⟩;have hw1:=Hd (bth hw0 hb1);have hx1:=hx0.below' hb1;have hy1:=hy0.below' hb1;have hr1:=Hd (hr0.call hb1);have hs1:=Hd (show w.heap.size+2<=w1.heap.size by have:=hb1.size;omega)
  obtain ⟨g,hg⟩:∃ q,w.heap.size=q:=⟨_,rfl⟩
  obtain ⟨h,hh⟩:∃ q,g+1=q:=⟨_,rfl⟩
  rw [hg] at hx1 hy1 hr1 hs1 ⊢;rw [hh] at hy1 hr1 ⊢;have hgB:=Hd (show B<=g/\g<h by have:=HB.out;omega);have hgh:¬ g=h:=by omega
  have hhg:¬ h=g:=by omega
  replace hs1:=Hd (show h<w1.heap.size by have:=hs1.out;omega);replace hg:=Hd hg;replace hh:=Hd hh;clear CC hx0 hy0 hr0 hw0 hs0 hb1;have hx1':=Hd hx1;have hy1':=Hd hy1
  -- the second cut and the number
  clear hx1 hy1;go_wp2_with fail;refine (C2.out w1).mono ?_;rintro e w2 ⟨rfl,hb2⟩;go_wp2_with fail;refine (CN.out w2).mono ?_;rintro e w4 ⟨rfl,hb4⟩;have hb14:=bth hb2 hb4;have hx4:=hx1'.out.below' hb14;have hy4:=hy1'.out.below' hb14;have hr4:=Hd (hr1.out.call hb14);have hw4:=Hd (bth hw1.out hb14);have hs4:=Hd (show h<w4.heap.size by have:=hs1.out;have:=hb14.size;omega);clear C2 CN hb2 hb4 hb14 hx1' hy1' hr1 hw1 hs1;obtain ⟨x0,x1,x2,x3⟩:=cq4 hx4;have hlx:=Blk.lt hx4;obtain ⟨y0,y1,y2,y3⟩:=cq4 hy4;obtain ⟨f0,f1,f2,f3⟩:=fq4 hy4;have hly:=Blk.lt hy4;have hy4':=Hd hy4;clear hx4 hy4;go_wp2;refine qak (fun W=>Blk W h 26 #[.slice fa hf.length fc,.slice wa c.P.length wc,.int .i64 c.n,.slice ca hc.length cc]/\Below B w W/\w.heap.size<=W.heap.size) ⟨blkS4 hy4'.out,qbu (hw4.out.mono HB.out) (by have:=hgB.out;omega),by have:=hw4.out.size;simpa using this⟩ ?_;rintro W ⟨hzW,hbW,hsW⟩
  obtain ⟨e0,e1,e2,e3⟩:=cq4 hzW;refine bodyPost_ret (v:=.tuple #[.agg #[.slice fa hf.length fc,.slice wa c.P.length wc,.int .i64 c.n,.slice ca hc.length cc],.int .i64 9]) (by simp [results,Tryz.results12,go_sem,e0,e1,e2,e3]) rfl ?_;exact qdm hG.out (by decide) hbW hsW
 | some q =>
  obtain ⟨d2,x2⟩:=q;have hWx:=hWk.2 rfl d2 x2 (by rw [hx2];exact hcut2);obtain ⟨hcs2,_⟩:=qa9 32 _ _ _ hcut2;have hll2:=congrArg List.length hcs2;rw [List.length_append,List.length_cons,show S2.data.toList.length=S2.size from Array.length_toList] at hll2;rw [hcut2] at C2 hG;dsimp only at C2 hG;have CN:=fun W=>qig 0 (ofL d2) W (by omega)
  rw [qaw] at CN;have hx4s:(ofL x2).size<=3000:=by rw [qa4];omega
  obtain ⟨S3,hS3⟩:∃ z,ofL d2=z:=⟨_,rfl⟩
  obtain ⟨S4,hS4⟩:∃ z,ofL x2=z:=⟨_,rfl⟩
  have hx42:x2=S4.data.toList:=by rw [<- hS4,qaw]
  rw [hS3,hS4] at C2;rw [hS3] at CN;rw [hS4] at hx4s;rw [hx42] at hWx hG;have hnum:(∃ k:Nat,numC 0 d2=some k/\n30 0 d2=k)\/(numC 0 d2=none/\n30 0 d2 = -1):=by
   unfold n30
   cases h:numC 0 d2 with
   | none=>exact .inr ⟨rfl,rfl⟩
   | some k=>exact .inl ⟨k,rfl,rfl⟩
  obtain ⟨K,hK⟩:∃ z,n30 0 d2=z:=⟨_,rfl⟩
  rw [hK] at CN hnum;have CP:=fun X W (hX:∀ b,X b->b<W.heap.size) (hW:Below w.heap.size w W)=>qmh X names na nc S4 W hX (HE.out W hW) HNZ.out hnl hx4s hWx
  obtain ⟨PG,hPG⟩:∃ z,polC names S4.data.toList=z:=⟨_,rfl⟩
  rw [hPG] at CP hG;have hCl:=HR.out.aC.1;replace C2:=Hd C2;replace CN:=Hd CN;replace CP:=Hd CP;clear hW hcut hWk hcs hll hx2 hS2 hS1 hdf hdc hlen hcut2 hS3 hS4 hx42 hK hPG hWx hll2 hcs2;rcases hnum with ⟨k,hk1,rfl⟩ | ⟨hk1,rfl⟩
  ·
   rw [hk1] at hG;dsimp only at hG;have dk:decide ((k:Int)<0)=false:=by rw [decide_eq_false_iff_not];omega
   by_cases hC0:c.C=[]
   ·
    rw [if_pos hC0] at hG;have hcl0:hc.length=0:=by rw [hCl,hC0];rfl
    have dc:decide ((0:Int)<(hc.length:Int))=false:=by rw [decide_eq_false_iff_not];omega
    have dc2:decide (0<hc.length)=false:=by rw [decide_eq_false_iff_not];omega
    have hG1:=Hd hG;replace hC0:=Hd hC0;replace hk1:=Hd hk1;replace hcl0:=Hd hcl0;clear hG hCl;go_enter Tryz.func12,Tryz.ntmps12;go_wp2_with fail;refine qah (fun W=>Blk W w.heap.size 26 #[.slice fa hf.length fc,.slice wa c.P.length wc,.int .i64 c.n,.slice ca hc.length cc]/\Blk W (w.heap.size+1) 26 #[.slice none 0 0,.slice none 0 0,.int .i64 0,.slice none 0 0]/\CrZ (fun b=>Z b\/b=w.heap.size\/b=w.heap.size+1) B W c.F c.P c.C fa fc hf wa wc ca cc hc/\Below w.heap.size w W/\W.heap.size=w.heap.size+2) ⟨bA (bN rfl),bN (by simp),HR.out.wide2 _ _,(brf.alloc (nlr _) _).alloc (by simp) _,by simp⟩ ?_;rintro w0 ⟨hx0,hy0,hr0,hw0,hs0⟩;refine (CC.out w0).mono ?_;rintro e w1 ⟨rfl,hb1⟩;have hw1:=Hd (bth hw0 hb1);have hx1:=hx0.below' hb1;have hy1:=hy0.below' hb1;have hr1:=Hd (hr0.call hb1);have hs1:=Hd (show w.heap.size+2<=w1.heap.size by have:=hb1.size;omega);obtain ⟨g,hg⟩:∃ q,w.heap.size=q:=⟨_,rfl⟩
    obtain ⟨h,hh⟩:∃ q,g+1=q:=⟨_,rfl⟩
    rw [hg] at hx1 hy1 hr1 hs1 ⊢;rw [hh] at hy1 hr1 ⊢;have hgB:=Hd (show B<=g/\g<h by have:=HB.out;omega);have hgh:¬ g=h:=by omega
    have hhg:¬ h=g:=by omega
    replace hs1:=Hd (show h<w1.heap.size by have:=hs1.out;omega);replace hg:=Hd hg;replace hh:=Hd hh;clear CC hx0 hy0 hr0 hw0 hs0 hb1;have hx1':=Hd hx1;have hy1':=Hd hy1
    -- the second cut and the number
    clear hx1 hy1;go_wp2_with fail;refine (C2.out w1).mono ?_;rintro e w2 ⟨rfl,hb2⟩;go_wp2_with fail;refine (CN.out w2).mono ?_;rintro e w4 ⟨rfl,hb4⟩;have hb14:=bth hb2 hb4;have hx4:=hx1'.out.below' hb14;have hy4:=hy1'.out.below' hb14;have hr4:=Hd (hr1.out.call hb14);have hw4:=Hd (bth hw1.out hb14);have hs4:=Hd (show h<w4.heap.size by have:=hs1.out;have:=hb14.size;omega);clear C2 CN hb2 hb4 hb14 hx1' hy1' hr1 hw1 hs1;obtain ⟨x0,x1,x2,x3⟩:=cq4 hx4;have hlx:=Blk.lt hx4;have hx1':=Hd hx4;have hy1':=Hd hy4;have hr1:=Hd hr4.out;have hw1:=Hd hw4.out;have hXl:∀ b,Xz (fun b=>Z b\/b=g\/b=h) fa wa ca b->b<w4.heap.size:=hr1.out.xlt fun b hb=>by
     rcases hb with hb | rfl | rfl
     · have:=HZ.out b hb;have:=hw1.out.size;omega
     · have:=hgB.out;have:=hs4.out;omega
     · exact hs4.out
    have CP1:=Hd (CP.out _ w4 hXl hw1.out);clear CP hXl hx4 hy4 hr4 hw4;go_wp2_with fail;refine CP1.out.mono ?_;rintro e w3 ⟨a,n,cp,er,rfl,hb3,hok,hbad⟩;clear x0 x1 x2 x3 hlx
    -- world w3 behind polynomial;the handle's cell is laid
    have hx3:=hx1'.out.below' hb3;have hy3:=hy1'.out.below' hb3;have hw3:=bth hw1.out hb3;have hr3:=hr1.out.call hb3;have hx4:=Hd (bA (o:=.cells #[.slice a n cp] 53) hx3);have hy4:=Hd (bA (o:=.cells #[.slice a n cp] 53) hy3);have hr4:=Hd (hr3.call (brf.alloc (nlr _) (.cells #[.slice a n cp] 53)));have hw4:=Hd (show Below B w (w3.alloc (.cells #[.slice a n cp] 53)) from (hw3.mono HB.out).alloc (by have:=hy3.lt;have:=hgB.out;omega) _);have hl4:=Hd (show h<w3.heap.size from hy3.lt);have hz4:=Hd (show w.heap.size<=w3.heap.size from hw3.size);have hok':=Hd hok;have hbad':=Hd hbad;have hP4:=Hd (fun p x (e:PG=(some p,x))=>(show PolX (Xz (fun b=>Z b\/b=g\/b=h) fa wa ca) (w3.alloc (.cells #[.slice a n cp] 53)) a cp p from (hok p x e).2.1.step ((Agr.refl _ _).alloc _)));obtain ⟨x0,x1,x2,x3⟩:=cq4 hx3;have hlx:=Blk.lt hx3;clear CP1 hok hbad hx3 hy3 hw3 hr3;obtain ⟨o,xe⟩:=PG
    cases o with
    | none =>
     obtain ⟨rfl,h0⟩:=hbad'.out xe rfl;have hne:(er==0)=false:=by simpa using h0
     replace h0:=Hd h0
     -- the appends of a factor's line;k the number;PG what polynomial gave;the error at the end er
     -- the polynomial's handle (a,n,cp) is laid behind the row hf (fa,fc): from world W4_=w3 with the handle's cell;tmps 86,88
     have hcl:Hid (∀ j v,(PQ.cs ⟨n,a,cp⟩)[j]? = some v->(w3.alloc (.cells #[.slice a n cp] 53)).cell? ⟨w3.heap.size,j,none⟩=some v):=Hd fun j v hj=>by
      cases j with
      | zero=>simp [PQ.cs] at hj;subst hj;exact (Blk.new w3 53 #[.slice a n cp]).cell 0
      | succ j=>simp [PQ.cs] at hj
     go_wp2_with (at_builtin;go_must (refine qa8 (B:=B) rfl (.tmp 86) (.tmp 88) 23 rfl Tryz.underlying23 qey rfl (by omega) (by omega) PQ.cs_len fa fc (l:=hf) rfl hr4.out.oF ⟨n,a,cp⟩ (PQ.cs_one _) w3.heap.size 1 rfl hcl.out (hf++[⟨n,a,cp⟩]) rfl (by have:=HM.out;rw [List.length_append];simp;omega) (by have:=hl4.out;have:=hgB.out;simp;omega) ?_);intro ra2 rc2 w5 ho5 hg5 ha5;refine park ?_);refine Hd ?_
     -- behind the append of the handle to the row AA_ (which component: 1)
     have hng:=Hd (HR.out.nb (g:=g) (Nat.le_of_eq hg.out));have hnh:=Hd (HR.out.nb (g:=h) (by have:=hg.out;have:=hh.out;omega));have hx5:=hx4.out.grown hg5 (qb7 hng.out.1);have hy5:=hy4.out.grown hg5 (qb7 hnh.out.1);have hw5:=Hd (qdq hw4.out hr4.out.oF (by have:=hl4.out;have:=hgB.out;simp;omega) hg5);have hz5:=Hd (show w.heap.size<=w5.heap.size/\h<w5.heap.size from by have h1:=hg5.size;have:=hz4.out;have:=hl4.out;simp at h1;omega);have hq5:=Hd (And.intro (qcp ha5 hng.out.1 (by have:=hl4.out;have:=hgB.out;simp;omega)) (qcp ha5 hnh.out.1 (by have:=hl4.out;simp;omega)));have hr5:=Hd (fun pp x (e:((none:Option (List Tm)),er)=(some pp,x))=>hr4.out.pushF hg5 ho5 ha5 (hP4.out pp x e) (hok'.out pp x e).1);have hi5:=Hd (hr4.out.oP.grown hg5 (qcg hr4.out.dFP));have hll:(hf++[(⟨n,a,cp⟩:PQ)]).length=hf.length+1:=by simp
     obtain ⟨hf2,hhf2⟩:∃ z,hf++[(⟨n,a,cp⟩:PQ)]=z:=⟨_,rfl⟩
     rw [hhf2] at hr5 hll;rw [<- hll];have hll':=Hd hll;have hx5':=Hd hx5;have hy5':=Hd hy5;obtain ⟨x0,x1,x2,x3⟩:=cq4 hx5;have hlx:=Blk.lt hx5;have fg0:=Blk.frozen hx5 0;clear hx5 hy5 hx4 hy4 hr4 hw4 hcl ho5 hg5 ha5 hhf2 hll
     go_wp2_with (at_builtin;go_must (refine qak (fun W=>Blk W g 26 #[.slice ra2 hf2.length rc2,.slice wa c.P.length wc,.int .i64 c.n,.slice ca hc.length cc]/\Blk W h 26 #[.slice none 0 0,.slice none 0 0,.int .i64 0,.slice none 0 0]/\Blk W w5.heap.size 3 #[.int .i64 (k:Int)]/\(∀ pp x,((none:Option (List Tm)),er)=(some pp,x)->CrZ (fun b=>Z b\/b=g\/b=h) B W (c.F++[pp]) c.P c.C ra2 rc2 hf2 wa wc ca cc hc)/\OwnI B W wa wc c.P/\Below B w W/\w5.heap.size<W.heap.size) ⟨bA (bS hx5'.out rfl),bA (bF (by have:=hgB.out;omega) hy5'.out),bN (by simp),(fun pp x e=>((hr5.out pp x e).set_ (.inr (.inl rfl)) hq5.out.1 hng.out.2.1 hng.out.2.2).call (brf.alloc (nlr _) _)),(Own.grown hi5.out (qb0 (qcz w5 g) 0 _) fun q hq e=>hng.out.2.1 ⟨q,hq,by injection e⟩).alloc _,(hw5.out.setCell (p:=⟨g,0,none⟩) hgB.out.1 _).alloc (by have:=hz5.out;have:=HB.out;simp;omega) _,by simp⟩ ?_);rintro w7 ⟨hx7,hy7,hk7,hr7,hi7,hw7,hs7⟩;refine park ?_)
     refine Hd ?_;have x7:=hk7.cell 0;have hx7':=Hd hx7;have hy7':=Hd hy7;have hr7':=Hd hr7;have hi7':=Hd hi7;have hw7':=Hd hw7;have hs7':=Hd hs7;clear x0 x1 x2 x3 hlx fg0 hx5' hy5' hr5 hi5 hw5 hx7 hy7 hk7 hr7 hi7 hw7;go_wp2_with (at_builtin;go_must (refine qe2 rfl (.tmp 92) (.tmp 94) rfl wa wc rfl hi7'.out (k:Int) w5.heap.size 1 rfl x7 (c.P++[(k:Int)]) rfl (by have:=HM.out.2.1;rw [List.length_append];simp;omega) (by have:=hs7'.out;have:=hz5.out;have:=HB.out;omega) ?_);intro wa2 wc2 w8 ho8 hg8 ha8;refine park ?_);refine Hd ?_;have hx8:=hx7'.out.grown hg8 (qb7 hng.out.2.1);have hy8:=hy7'.out.grown hg8 (qb7 hnh.out.2.1);have hr8:=Hd (fun pp x (e:((none:Option (List Tm)),er)=(some pp,x))=>(hr7'.out pp x e).pushP hg8 ho8 ha8);have hw8:=Hd (qdq hw7'.out hi7'.out (by have:=hs7'.out;have:=hz5.out;have:=HB.out;omega) hg8)
     have hz8:=Hd (show w.heap.size<=w8.heap.size from by have h1:=hg8.size;have:=hz5.out;have:=hs7'.out;omega);have hq8:=Hd (And.intro (qcp ha8 hng.out.2.1 (by have:=hs7'.out;have:=hz5.out;have:=hgB.out;omega)) (qcp ha8 hnh.out.2.1 (by have:=hs7'.out;have:=hz5.out;omega)));have hPl:(c.P++[(k:Int)]).length=c.P.length+1:=by simp
     obtain ⟨P2,hP2⟩:∃ z,c.P++[(k:Int)]=z:=⟨_,rfl⟩
     rw [hP2] at hr8 hPl;rw [<- hPl];have hPl':=Hd hPl;have hP2':=Hd hP2;have hx8':=Hd hx8;have hy8':=Hd hy8;obtain ⟨x0,x1,x2,x3⟩:=cq4 hx8;have hlx:=Blk.lt hx8;have fg1:=Blk.frozen hx8 1;obtain ⟨y0,y1,y2,y3⟩:=cq4 hy8;obtain ⟨f0,f1,f2,f3⟩:=fq4 hy8;have hly:=Blk.lt hy8;clear x7 hs7 hx8 hy8 hx7' hy7' hr7' hi7' hw7' ho8 hg8 ha8 hPl hP2;go_wp2
     refine qak (fun W=>Blk W h 26 #[.slice ra2 hf2.length rc2,.slice wa2 P2.length wc2,.int .i64 c.n,.slice ca hc.length cc]/\Below B w W/\w.heap.size<=W.heap.size/\(∀ pp x,((none:Option (List Tm)),er)=(some pp,x)->CrZ Z B W (c.F++[pp]) P2 c.C ra2 rc2 hf2 wa2 wc2 ca cc hc)) ⟨blkS4 (bF (by have:=hgB.out;omega) hy8'.out),qbu (hw8.out.setCell (p:=⟨g,1,none⟩) hgB.out.1 _) (by have:=hgB.out;omega),by have:=hz8.out;simpa using this,fun pp x e=>(((hr8.out pp x e).set_ (.inr (.inl rfl)) hq5.out.1 hq8.out.1 hng.out.2.2).set4 (.inr (.inr rfl)) ⟨hq5.out.2,hq8.out.2,hnh.out.2.2⟩).less fun b hb=>.inl hb⟩ ?_;rintro W ⟨hzW,hbW,hsW,hrW⟩;obtain ⟨e0,e1,e2,e3⟩:=cq4 hzW;refine bodyPost_ret (v:=.tuple #[.agg #[.slice ra2 hf2.length rc2,.slice wa2 P2.length wc2,.int .i64 c.n,.slice ca hc.length cc],.int .i64 er]) (by simp [results,Tryz.results12,go_sem,e0,e1,e2,e3]) rfl ?_
     exact qdm hG1.out h0.out hbW hsW
    | some p =>
     have hpn:=(hok'.out p xe rfl).1;obtain rfl:=(hok'.out p xe rfl).2.2;by_cases hpe:p=[]
     ·
      have hn0:n=0:=by rw [hpn,hpe];rfl
      have hnb:((n:Int)==0)=true:=by rw [hn0];rfl
      have hnb2:(n==0)=true:=by rw [hn0];rfl
      have hG2:=Hd (show lineQ names c s.data.toList=(none,3) by rw [hG1.out];exact if_pos hpe);replace hn0:=Hd hn0;replace hpe:=Hd hpe;replace hpn:=Hd hpn
      -- the appends of a factor's line;k the number;PG what polynomial gave;the error at the end 3
      -- the polynomial's handle (a,n,cp) is laid behind the row hf (fa,fc): from world W4_=w3 with the handle's cell;tmps 86,88
      have hcl:Hid (∀ j v,(PQ.cs ⟨n,a,cp⟩)[j]? = some v->(w3.alloc (.cells #[.slice a n cp] 53)).cell? ⟨w3.heap.size,j,none⟩=some v):=Hd fun j v hj=>by
       cases j with
       | zero=>simp [PQ.cs] at hj;subst hj;exact (Blk.new w3 53 #[.slice a n cp]).cell 0
       | succ j=>simp [PQ.cs] at hj
      go_wp2_with (at_builtin;go_must (refine qa8 (B:=B) rfl (.tmp 86) (.tmp 88) 23 rfl Tryz.underlying23 qey rfl (by omega) (by omega) PQ.cs_len fa fc (l:=hf) rfl hr4.out.oF ⟨n,a,cp⟩ (PQ.cs_one _) w3.heap.size 1 rfl hcl.out (hf++[⟨n,a,cp⟩]) rfl (by have:=HM.out;rw [List.length_append];simp;omega) (by have:=hl4.out;have:=hgB.out;simp;omega) ?_);intro ra2 rc2 w5 ho5 hg5 ha5;refine park ?_);refine Hd ?_
      -- behind the append of the handle to the row AA_ (which component: 1)
      have hng:=Hd (HR.out.nb (g:=g) (Nat.le_of_eq hg.out));have hnh:=Hd (HR.out.nb (g:=h) (by have:=hg.out;have:=hh.out;omega));have hx5:=hx4.out.grown hg5 (qb7 hng.out.1);have hy5:=hy4.out.grown hg5 (qb7 hnh.out.1);have hw5:=Hd (qdq hw4.out hr4.out.oF (by have:=hl4.out;have:=hgB.out;simp;omega) hg5);have hz5:=Hd (show w.heap.size<=w5.heap.size/\h<w5.heap.size from by have h1:=hg5.size;have:=hz4.out;have:=hl4.out;simp at h1;omega);have hq5:=Hd (And.intro (qcp ha5 hng.out.1 (by have:=hl4.out;have:=hgB.out;simp;omega)) (qcp ha5 hnh.out.1 (by have:=hl4.out;simp;omega)));have hr5:=Hd (fun pp x (e:(some p,xe)=(some pp,x))=>hr4.out.pushF hg5 ho5 ha5 (hP4.out pp x e) (hok'.out pp x e).1);have hi5:=Hd (hr4.out.oP.grown hg5 (qcg hr4.out.dFP));have hll:(hf++[(⟨n,a,cp⟩:PQ)]).length=hf.length+1:=by simp
      obtain ⟨hf2,hhf2⟩:∃ z,hf++[(⟨n,a,cp⟩:PQ)]=z:=⟨_,rfl⟩
      rw [hhf2] at hr5 hll;rw [<- hll];have hll':=Hd hll;have hx5':=Hd hx5;have hy5':=Hd hy5;obtain ⟨x0,x1,x2,x3⟩:=cq4 hx5;have hlx:=Blk.lt hx5;have fg0:=Blk.frozen hx5 0;clear hx5 hy5 hx4 hy4 hr4 hw4 hcl ho5 hg5 ha5 hhf2 hll
      go_wp2_with (at_builtin;go_must (refine qak (fun W=>Blk W g 26 #[.slice ra2 hf2.length rc2,.slice wa c.P.length wc,.int .i64 c.n,.slice ca hc.length cc]/\Blk W h 26 #[.slice none 0 0,.slice none 0 0,.int .i64 0,.slice none 0 0]/\Blk W w5.heap.size 3 #[.int .i64 (k:Int)]/\(∀ pp x,(some p,xe)=(some pp,x)->CrZ (fun b=>Z b\/b=g\/b=h) B W (c.F++[pp]) c.P c.C ra2 rc2 hf2 wa wc ca cc hc)/\OwnI B W wa wc c.P/\Below B w W/\w5.heap.size<W.heap.size) ⟨bA (bS hx5'.out rfl),bA (bF (by have:=hgB.out;omega) hy5'.out),bN (by simp),(fun pp x e=>((hr5.out pp x e).set_ (.inr (.inl rfl)) hq5.out.1 hng.out.2.1 hng.out.2.2).call (brf.alloc (nlr _) _)),(Own.grown hi5.out (qb0 (qcz w5 g) 0 _) fun q hq e=>hng.out.2.1 ⟨q,hq,by injection e⟩).alloc _,(hw5.out.setCell (p:=⟨g,0,none⟩) hgB.out.1 _).alloc (by have:=hz5.out;have:=HB.out;simp;omega) _,by simp⟩ ?_);rintro w7 ⟨hx7,hy7,hk7,hr7,hi7,hw7,hs7⟩;refine park ?_)
      refine Hd ?_;have x7:=hk7.cell 0;have hx7':=Hd hx7;have hy7':=Hd hy7;have hr7':=Hd hr7;have hi7':=Hd hi7;have hw7':=Hd hw7;have hs7':=Hd hs7;clear x0 x1 x2 x3 hlx fg0 hx5' hy5' hr5 hi5 hw5 hx7 hy7 hk7 hr7 hi7 hw7;go_wp2_with (at_builtin;go_must (refine qe2 rfl (.tmp 92) (.tmp 94) rfl wa wc rfl hi7'.out (k:Int) w5.heap.size 1 rfl x7 (c.P++[(k:Int)]) rfl (by have:=HM.out.2.1;rw [List.length_append];simp;omega) (by have:=hs7'.out;have:=hz5.out;have:=HB.out;omega) ?_);intro wa2 wc2 w8 ho8 hg8 ha8;refine park ?_);refine Hd ?_;have hx8:=hx7'.out.grown hg8 (qb7 hng.out.2.1);have hy8:=hy7'.out.grown hg8 (qb7 hnh.out.2.1);have hr8:=Hd (fun pp x (e:(some p,xe)=(some pp,x))=>(hr7'.out pp x e).pushP hg8 ho8 ha8);have hw8:=Hd (qdq hw7'.out hi7'.out (by have:=hs7'.out;have:=hz5.out;have:=HB.out;omega) hg8)
      have hz8:=Hd (show w.heap.size<=w8.heap.size from by have h1:=hg8.size;have:=hz5.out;have:=hs7'.out;omega);have hq8:=Hd (And.intro (qcp ha8 hng.out.2.1 (by have:=hs7'.out;have:=hz5.out;have:=hgB.out;omega)) (qcp ha8 hnh.out.2.1 (by have:=hs7'.out;have:=hz5.out;omega)));have hPl:(c.P++[(k:Int)]).length=c.P.length+1:=by simp
      obtain ⟨P2,hP2⟩:∃ z,c.P++[(k:Int)]=z:=⟨_,rfl⟩
      rw [hP2] at hr8 hPl;rw [<- hPl];have hPl':=Hd hPl;have hP2':=Hd hP2;have hx8':=Hd hx8;have hy8':=Hd hy8;obtain ⟨x0,x1,x2,x3⟩:=cq4 hx8;have hlx:=Blk.lt hx8;have fg1:=Blk.frozen hx8 1;obtain ⟨y0,y1,y2,y3⟩:=cq4 hy8;obtain ⟨f0,f1,f2,f3⟩:=fq4 hy8;have hly:=Blk.lt hy8;clear x7 hs7 hx8 hy8 hx7' hy7' hr7' hi7' hw7' ho8 hg8 ha8 hPl hP2;go_wp2
      refine qak (fun W=>Blk W h 26 #[.slice ra2 hf2.length rc2,.slice wa2 P2.length wc2,.int .i64 c.n,.slice ca hc.length cc]/\Below B w W/\w.heap.size<=W.heap.size/\(∀ pp x,(some p,xe)=(some pp,x)->CrZ Z B W (c.F++[pp]) P2 c.C ra2 rc2 hf2 wa2 wc2 ca cc hc)) ⟨blkS4 (bF (by have:=hgB.out;omega) hy8'.out),qbu (hw8.out.setCell (p:=⟨g,1,none⟩) hgB.out.1 _) (by have:=hgB.out;omega),by have:=hz8.out;simpa using this,fun pp x e=>(((hr8.out pp x e).set_ (.inr (.inl rfl)) hq5.out.1 hq8.out.1 hng.out.2.2).set4 (.inr (.inr rfl)) ⟨hq5.out.2,hq8.out.2,hnh.out.2.2⟩).less fun b hb=>.inl hb⟩ ?_;rintro W ⟨hzW,hbW,hsW,hrW⟩;obtain ⟨e0,e1,e2,e3⟩:=cq4 hzW;refine bodyPost_ret (v:=.tuple #[.agg #[.slice ra2 hf2.length rc2,.slice wa2 P2.length wc2,.int .i64 c.n,.slice ca hc.length cc],.int .i64 3]) (by simp [results,Tryz.results12,go_sem,e0,e1,e2,e3]) rfl ?_;exact qdm hG2.out (by decide) hbW hsW
     ·
      have hn0:n≠0:=fun e=>hpe (List.eq_nil_of_length_eq_zero (by omega))
      have hnb:((n:Int)==0)=false:=by rw [beq_eq_false_iff_ne];omega
      have hnb2:(n==0)=false:=by rw [beq_eq_false_iff_ne];exact hn0
      have hG2:=Hd (show lineQ names c s.data.toList=(some { c with F:=c.F++[p],P:=c.P++[(k:Int)] },0) by rw [hG1.out];exact if_neg hpe);replace hn0:=Hd hn0;replace hpe:=Hd hpe;replace hpn:=Hd hpn
      -- the appends of a factor's line;k the number;PG what polynomial gave;the error at the end 0
      -- the polynomial's handle (a,n,cp) is laid behind the row hf (fa,fc): from world W4_=w3 with the handle's cell;tmps 86,88
      have hcl:Hid (∀ j v,(PQ.cs ⟨n,a,cp⟩)[j]? = some v->(w3.alloc (.cells #[.slice a n cp] 53)).cell? ⟨w3.heap.size,j,none⟩=some v):=Hd fun j v hj=>by
       cases j with
       | zero=>simp [PQ.cs] at hj;subst hj;exact (Blk.new w3 53 #[.slice a n cp]).cell 0
       | succ j=>simp [PQ.cs] at hj
      go_wp2_with (at_builtin;go_must (refine qa8 (B:=B) rfl (.tmp 86) (.tmp 88) 23 rfl Tryz.underlying23 qey rfl (by omega) (by omega) PQ.cs_len fa fc (l:=hf) rfl hr4.out.oF ⟨n,a,cp⟩ (PQ.cs_one _) w3.heap.size 1 rfl hcl.out (hf++[⟨n,a,cp⟩]) rfl (by have:=HM.out;rw [List.length_append];simp;omega) (by have:=hl4.out;have:=hgB.out;simp;omega) ?_);intro ra2 rc2 w5 ho5 hg5 ha5;refine park ?_);refine Hd ?_
      -- behind the append of the handle to the row AA_ (which component: 1)
      have hng:=Hd (HR.out.nb (g:=g) (Nat.le_of_eq hg.out));have hnh:=Hd (HR.out.nb (g:=h) (by have:=hg.out;have:=hh.out;omega));have hx5:=hx4.out.grown hg5 (qb7 hng.out.1);have hy5:=hy4.out.grown hg5 (qb7 hnh.out.1);have hw5:=Hd (qdq hw4.out hr4.out.oF (by have:=hl4.out;have:=hgB.out;simp;omega) hg5);have hz5:=Hd (show w.heap.size<=w5.heap.size/\h<w5.heap.size from by have h1:=hg5.size;have:=hz4.out;have:=hl4.out;simp at h1;omega);have hq5:=Hd (And.intro (qcp ha5 hng.out.1 (by have:=hl4.out;have:=hgB.out;simp;omega)) (qcp ha5 hnh.out.1 (by have:=hl4.out;simp;omega)));have hr5:=Hd (fun pp x (e:(some p,xe)=(some pp,x))=>hr4.out.pushF hg5 ho5 ha5 (hP4.out pp x e) (hok'.out pp x e).1);have hi5:=Hd (hr4.out.oP.grown hg5 (qcg hr4.out.dFP));have hll:(hf++[(⟨n,a,cp⟩:PQ)]).length=hf.length+1:=by simp
      obtain ⟨hf2,hhf2⟩:∃ z,hf++[(⟨n,a,cp⟩:PQ)]=z:=⟨_,rfl⟩
      rw [hhf2] at hr5 hll;rw [<- hll];have hll':=Hd hll;have hx5':=Hd hx5;have hy5':=Hd hy5;obtain ⟨x0,x1,x2,x3⟩:=cq4 hx5;have hlx:=Blk.lt hx5;have fg0:=Blk.frozen hx5 0;clear hx5 hy5 hx4 hy4 hr4 hw4 hcl ho5 hg5 ha5 hhf2 hll
      go_wp2_with (at_builtin;go_must (refine qak (fun W=>Blk W g 26 #[.slice ra2 hf2.length rc2,.slice wa c.P.length wc,.int .i64 c.n,.slice ca hc.length cc]/\Blk W h 26 #[.slice none 0 0,.slice none 0 0,.int .i64 0,.slice none 0 0]/\Blk W w5.heap.size 3 #[.int .i64 (k:Int)]/\(∀ pp x,(some p,xe)=(some pp,x)->CrZ (fun b=>Z b\/b=g\/b=h) B W (c.F++[pp]) c.P c.C ra2 rc2 hf2 wa wc ca cc hc)/\OwnI B W wa wc c.P/\Below B w W/\w5.heap.size<W.heap.size) ⟨bA (bS hx5'.out rfl),bA (bF (by have:=hgB.out;omega) hy5'.out),bN (by simp),(fun pp x e=>((hr5.out pp x e).set_ (.inr (.inl rfl)) hq5.out.1 hng.out.2.1 hng.out.2.2).call (brf.alloc (nlr _) _)),(Own.grown hi5.out (qb0 (qcz w5 g) 0 _) fun q hq e=>hng.out.2.1 ⟨q,hq,by injection e⟩).alloc _,(hw5.out.setCell (p:=⟨g,0,none⟩) hgB.out.1 _).alloc (by have:=hz5.out;have:=HB.out;simp;omega) _,by simp⟩ ?_);rintro w7 ⟨hx7,hy7,hk7,hr7,hi7,hw7,hs7⟩;refine park ?_)
      refine Hd ?_;have x7:=hk7.cell 0;have hx7':=Hd hx7;have hy7':=Hd hy7;have hr7':=Hd hr7;have hi7':=Hd hi7;have hw7':=Hd hw7;have hs7':=Hd hs7;clear x0 x1 x2 x3 hlx fg0 hx5' hy5' hr5 hi5 hw5 hx7 hy7 hk7 hr7 hi7 hw7;go_wp2_with (at_builtin;go_must (refine qe2 rfl (.tmp 92) (.tmp 94) rfl wa wc rfl hi7'.out (k:Int) w5.heap.size 1 rfl x7 (c.P++[(k:Int)]) rfl (by have:=HM.out.2.1;rw [List.length_append];simp;omega) (by have:=hs7'.out;have:=hz5.out;have:=HB.out;omega) ?_);intro wa2 wc2 w8 ho8 hg8 ha8;refine park ?_);refine Hd ?_;have hx8:=hx7'.out.grown hg8 (qb7 hng.out.2.1);have hy8:=hy7'.out.grown hg8 (qb7 hnh.out.2.1);have hr8:=Hd (fun pp x (e:(some p,xe)=(some pp,x))=>(hr7'.out pp x e).pushP hg8 ho8 ha8);have hw8:=Hd (qdq hw7'.out hi7'.out (by have:=hs7'.out;have:=hz5.out;have:=HB.out;omega) hg8)
      have hz8:=Hd (show w.heap.size<=w8.heap.size from by have h1:=hg8.size;have:=hz5.out;have:=hs7'.out;omega);have hq8:=Hd (And.intro (qcp ha8 hng.out.2.1 (by have:=hs7'.out;have:=hz5.out;have:=hgB.out;omega)) (qcp ha8 hnh.out.2.1 (by have:=hs7'.out;have:=hz5.out;omega)));have hPl:(c.P++[(k:Int)]).length=c.P.length+1:=by simp
      obtain ⟨P2,hP2⟩:∃ z,c.P++[(k:Int)]=z:=⟨_,rfl⟩
      rw [hP2] at hr8 hPl;rw [<- hPl];have hPl':=Hd hPl;have hP2':=Hd hP2;have hx8':=Hd hx8;have hy8':=Hd hy8;obtain ⟨x0,x1,x2,x3⟩:=cq4 hx8;have hlx:=Blk.lt hx8;have fg1:=Blk.frozen hx8 1;obtain ⟨y0,y1,y2,y3⟩:=cq4 hy8;obtain ⟨f0,f1,f2,f3⟩:=fq4 hy8;have hly:=Blk.lt hy8;clear x7 hs7 hx8 hy8 hx7' hy7' hr7' hi7' hw7' ho8 hg8 ha8 hPl hP2;go_wp2
      refine qak (fun W=>Blk W h 26 #[.slice ra2 hf2.length rc2,.slice wa2 P2.length wc2,.int .i64 c.n,.slice ca hc.length cc]/\Below B w W/\w.heap.size<=W.heap.size/\(∀ pp x,(some p,xe)=(some pp,x)->CrZ Z B W (c.F++[pp]) P2 c.C ra2 rc2 hf2 wa2 wc2 ca cc hc)) ⟨blkS4 (bF (by have:=hgB.out;omega) hy8'.out),qbu (hw8.out.setCell (p:=⟨g,1,none⟩) hgB.out.1 _) (by have:=hgB.out;omega),by have:=hz8.out;simpa using this,fun pp x e=>(((hr8.out pp x e).set_ (.inr (.inl rfl)) hq5.out.1 hq8.out.1 hng.out.2.2).set4 (.inr (.inr rfl)) ⟨hq5.out.2,hq8.out.2,hnh.out.2.2⟩).less fun b hb=>.inl hb⟩ ?_;rintro W ⟨hzW,hbW,hsW,hrW⟩;obtain ⟨e0,e1,e2,e3⟩:=cq4 hzW;refine bodyPost_ret (v:=.tuple #[.agg #[.slice ra2 hf2.length rc2,.slice wa2 P2.length wc2,.int .i64 c.n,.slice ca hc.length cc],.int .i64 0]) (by simp [results,Tryz.results12,go_sem,e0,e1,e2,e3]) rfl ?_;have hrW2:=hrW p xe rfl
      have h1:hf2.length<=m+1:=by have:=HM.out.1;have:=hll'.out;omega
      have h2:P2.length<=m+1:=by have:=HM.out.2.1;have:=hPl'.out;omega
      have hPe:=hP2'.out;subst hPe;exact qqp (c':={ c with F:=c.F++[p],P:=c.P++[(k:Int)] }) hG2.out hbW hsW hrW2 h1 h2 (by have:=HM.out.2.2;omega)
   ·
    rw [if_neg hC0] at hG;have hcl0:hc.length≠0:=fun e=>hC0 (List.eq_nil_of_length_eq_zero (by omega))
    have dc:decide ((0:Int)<(hc.length:Int))=true:=by rw [decide_eq_true_iff];omega
    have dc2:decide (0<hc.length)=true:=by rw [decide_eq_true_iff];omega
    replace hG:=Hd hG;replace hC0:=Hd hC0;replace hcl0:=Hd hcl0;replace hk1:=Hd hk1;exact zz92
  ·
   rw [hk1] at hG;dsimp only at hG;replace hG:=Hd hG;replace hk1:=Hd hk1;exact zz92
theorem qsk (Z:Nat->Prop) (B m:Nat) (names:List ByteArray) (na:Option Addr) (nc:Nat) (s:ByteArray) (c:CrQ) (fa wa ca:Option Addr) (fc wc cc:Nat) (hf hc:List PQ) (w:World) (hr:CrZ Z B w c.F c.P c.C fa fc hf wa wc ca cc hc) (hZ:∀ b,Z b->b<w.heap.size) (hB:B<=w.heap.size) (hm1:hf.length<=m) (hm2:c.P.length<=m) (hm3:hc.length<=m) (hm:m<=16000000)
  (hE:StrsR w na nc names) (hnz:∀ x∈names,x.size<=1048576) (hnl:names.length<=1000) (hs:s.size<=3000) (hW:WokL names s.data.toList) :
  Calls Tryz.prog 12 #[.agg #[.slice fa hf.length fc,.slice wa c.P.length wc,.int .i64 c.n,.slice ca hc.length cc],.string s,.slice na names.length nc] w (RetAd Z B (m+1) (lineQ names c s.data.toList) w):=by
 cases hcut:cutL 32 s.data.toList with
 | none =>
  have HR:=Hd hr;have HZ:=Hd hZ;have HB:=Hd hB;have HM:=Hd (And.intro hm1 (And.intro hm2 hm3));have HNZ:=Hd hnz;have HE:=Hd (fun W (hW:Below w.heap.size w W)=>hE.ext (xbw hW));have CC:=fun W=>qdl s 32 32 rfl W (by omega)
  have hlen:s.data.toList.length=s.size:=Array.length_toList;clear hr hZ hB hm1 hm2 hm3 hnz hE;unfold cutB at CC;rw [hcut] at CC;dsimp only at CC;have hG:=ql7 (names:=names) (c:=c) fun w r h=>by rw [hcut] at h;cases h
  obtain ⟨S1,hS1⟩:∃ z,ofL s.data.toList=z:=⟨_,rfl⟩
  obtain ⟨S2,hS2⟩:∃ z,ofL []=z:=⟨_,rfl⟩
  rw [hS1,hS2] at CC;replace CC:=Hd CC;replace hG:=Hd hG;clear hcut hlen hS1 hS2 hW;go_enter Tryz.func12,Tryz.ntmps12;go_wp2_with fail;refine qah (fun W=>Blk W w.heap.size 26 #[.slice fa hf.length fc,.slice wa c.P.length wc,.int .i64 c.n,.slice ca hc.length cc]/\Blk W (w.heap.size+1) 26 #[.slice none 0 0,.slice none 0 0,.int .i64 0,.slice none 0 0]/\CrZ (fun b=>Z b\/b=w.heap.size\/b=w.heap.size+1) B W c.F c.P c.C fa fc hf wa wc ca cc hc/\Below w.heap.size w W/\W.heap.size=w.heap.size+2) ⟨bA (bN rfl),bN (by simp),HR.out.wide2 _ _,(brf.alloc (nlr _) _).alloc (by simp) _,by simp⟩ ?_;rintro w0 ⟨hx0,hy0,hr0,hw0,hs0⟩;refine (CC.out w0).mono ?_;rintro e w1 ⟨rfl,hb1⟩;have hw1:=Hd (bth hw0 hb1);have hx1:=hx0.below' hb1;have hy1:=hy0.below' hb1;have hr1:=Hd (hr0.call hb1);have hs1:=Hd (show w.heap.size+2<=w1.heap.size by have:=hb1.size;omega);obtain ⟨g,hg⟩:∃ q,w.heap.size=q:=⟨_,rfl⟩
  obtain ⟨h,hh⟩:∃ q,g+1=q:=⟨_,rfl⟩
  rw [hg] at hx1 hy1 hr1 hs1 ⊢;rw [hh] at hy1 hr1 ⊢;have hgB:=Hd (show B<=g/\g<h by have:=HB.out;omega);have hgh:¬ g=h:=by omega
  have hhg:¬ h=g:=by omega
  replace hs1:=Hd (show h<w1.heap.size by have:=hs1.out;omega);replace hg:=Hd hg;replace hh:=Hd hh;clear CC hx0 hy0 hr0 hw0 hs0 hb1;have hx1':=Hd hx1;have hy1':=Hd hy1;obtain ⟨x0,x1,x2,x3⟩:=cq4 hx1;have hlx:=Blk.lt hx1;obtain ⟨y0,y1,y2,y3⟩:=cq4 hy1;obtain ⟨f0,f1,f2,f3⟩:=fq4 hy1;have hly:=Blk.lt hy1;clear hx1 hy1;go_wp2;refine qak (fun W=>Blk W h 26 #[.slice fa hf.length fc,.slice wa c.P.length wc,.int .i64 c.n,.slice ca hc.length cc]/\Below B w W/\w.heap.size<=W.heap.size) ⟨blkS4 hy1'.out,qbu (hw1.out.mono HB.out) (by have:=hgB.out;omega),by have:=hw1.out.size;simpa using this⟩ ?_;rintro W ⟨hzW,hbW,hsW⟩;obtain ⟨e0,e1,e2,e3⟩:=cq4 hzW;refine bodyPost_ret (v:=.tuple #[.agg #[.slice fa hf.length fc,.slice wa c.P.length wc,.int .i64 c.n,.slice ca hc.length cc],.int .i64 9]) (by simp [results,Tryz.results12,go_sem,e0,e1,e2,e3]) rfl ?_;exact qdm hG.out (by decide) hbW hsW
 | some dx =>
  obtain ⟨d,x⟩:=dx;by_cases e1:d=wCof
  ·
   subst e1;exact qrz Z B m names na nc s c fa wa ca fc wc cc hf hc w hr hZ hB hm1 hm2 hm3 hm hE hnz hnl hs hW x hcut
  by_cases e2:d=qb8
  ·
   subst e2;exact qr5 Z B m names na nc s c fa wa ca fc wc cc hf hc w hr hZ hB hm1 hm2 hm3 hm hE hnz hnl hs hW x hcut
  have HR:=Hd hr;have HZ:=Hd hZ;have HB:=Hd hB;have HM:=Hd (And.intro hm1 (And.intro hm2 hm3));have HNZ:=Hd hnz;have HE:=Hd (fun W (hW:Below w.heap.size w W)=>hE.ext (xbw hW));have CC:=fun W=>qdl s 32 32 rfl W (by omega)
  have hlen:s.data.toList.length=s.size:=Array.length_toList;clear hr hZ hB hm1 hm2 hm3 hnz hE;unfold cutB at CC;have hWk:=hW d x hcut;obtain ⟨hcs,_⟩:=qa9 32 _ _ _ hcut;have hll:=congrArg List.length hcs;rw [List.length_append,List.length_cons,hlen] at hll;rw [hcut] at CC;dsimp only at CC;have hxs:(ofL x).size<=3000:=by rw [qa4];omega
  obtain ⟨S1,hS1⟩:∃ z,ofL d=z:=⟨_,rfl⟩
  obtain ⟨S2,hS2⟩:∃ z,ofL x=z:=⟨_,rfl⟩
  have hx2:x=S2.data.toList:=by rw [<- hS2,qaw]
  rw [hS2] at hxs;rw [hS1,hS2] at CC;obtain ⟨bf,hbf⟩:∃ b,(S1.toList==[102,97,99,116,111,114])=b:=⟨_,rfl⟩
  obtain ⟨bc,hbc⟩:∃ b,(S1.toList==[99,111,102,97,99,116,111,114])=b:=⟨_,rfl⟩
  have hbf':(S1.toList != [102,97,99,116,111,114]) = !bf:=by rw [bne,hbf]
  have hbc':(S1.toList != [99,111,102,97,99,116,111,114]) = !bc:=by rw [bne,hbc]
  have hdf:d=qb8↔bf=true:=by rw [<- hbf,<- hS1,qa6,qaw,beq_iff_eq];exact Iff.rfl
  have hdc:d=wCof↔bc=true:=by rw [<- hbc,<- hS1,qa6,qaw,beq_iff_eq];exact Iff.rfl
  replace CC:=Hd CC;have hbf0:bf=false:=by
   cases bf
   · rfl
   · exact absurd (hdf.2 rfl) e2
  have hbc0:bc=false:=by
   cases bc
   · rfl
   · exact absurd (hdc.2 rfl) e1
  subst hbf0;subst hbc0;clear e1 e2;have hG:=Hd (ql7 (names:=names) (c:=c) (t:=s.data.toList) fun w r h=>by
   rw [hcut] at h;injection h with h
   injection h with h1 h2
   subst h1 h2;exact ⟨fun e=>(by cases hdc.1 e),fun e=>(by cases hdf.1 e)⟩)
  clear hW hcut hWk hcs hll hx2 hS2 hS1 hdf hdc hlen;go_enter Tryz.func12,Tryz.ntmps12;go_wp2_with fail;refine qah (fun W=>Blk W w.heap.size 26 #[.slice fa hf.length fc,.slice wa c.P.length wc,.int .i64 c.n,.slice ca hc.length cc]/\Blk W (w.heap.size+1) 26 #[.slice none 0 0,.slice none 0 0,.int .i64 0,.slice none 0 0]/\CrZ (fun b=>Z b\/b=w.heap.size\/b=w.heap.size+1) B W c.F c.P c.C fa fc hf wa wc ca cc hc/\Below w.heap.size w W/\W.heap.size=w.heap.size+2) ⟨bA (bN rfl),bN (by simp),HR.out.wide2 _ _,(brf.alloc (nlr _) _).alloc (by simp) _,by simp⟩ ?_;rintro w0 ⟨hx0,hy0,hr0,hw0,hs0⟩;refine (CC.out w0).mono ?_;rintro e w1 ⟨rfl,hb1⟩;have hw1:=Hd (bth hw0 hb1);have hx1:=hx0.below' hb1;have hy1:=hy0.below' hb1;have hr1:=Hd (hr0.call hb1);have hs1:=Hd (show w.heap.size+2<=w1.heap.size by have:=hb1.size;omega);obtain ⟨g,hg⟩:∃ q,w.heap.size=q:=⟨_,rfl⟩
  obtain ⟨h,hh⟩:∃ q,g+1=q:=⟨_,rfl⟩
  rw [hg] at hx1 hy1 hr1 hs1 ⊢;rw [hh] at hy1 hr1 ⊢;have hgB:=Hd (show B<=g/\g<h by have:=HB.out;omega);have hgh:¬ g=h:=by omega
  have hhg:¬ h=g:=by omega
  replace hs1:=Hd (show h<w1.heap.size by have:=hs1.out;omega);replace hg:=Hd hg;replace hh:=Hd hh;clear CC hx0 hy0 hr0 hw0 hs0 hb1;have hx1':=Hd hx1;have hy1':=Hd hy1;obtain ⟨x0,x1,x2,x3⟩:=cq4 hx1;have hlx:=Blk.lt hx1;obtain ⟨y0,y1,y2,y3⟩:=cq4 hy1;obtain ⟨f0,f1,f2,f3⟩:=fq4 hy1;have hly:=Blk.lt hy1;clear hx1 hy1;go_wp2;refine qak (fun W=>Blk W h 26 #[.slice fa hf.length fc,.slice wa c.P.length wc,.int .i64 c.n,.slice ca hc.length cc]/\Below B w W/\w.heap.size<=W.heap.size) ⟨blkS4 hy1'.out,qbu (hw1.out.mono HB.out) (by have:=hgB.out;omega),by have:=hw1.out.size;simpa using this⟩ ?_;rintro W ⟨hzW,hbW,hsW⟩;obtain ⟨e0,e1,e2,e3⟩:=cq4 hzW;refine bodyPost_ret (v:=.tuple #[.agg #[.slice fa hf.length fc,.slice wa c.P.length wc,.int .i64 c.n,.slice ca hc.length cc],.int .i64 9]) (by simp [results,Tryz.results12,go_sem,e0,e1,e2,e3]) rfl ?_;exact qdm hG.out (by decide) hbW hsW
end Go.Proofs.YtnilkimcdgmgkaaGreatDoor
