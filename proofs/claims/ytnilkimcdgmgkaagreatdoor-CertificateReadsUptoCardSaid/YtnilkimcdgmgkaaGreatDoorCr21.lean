/- Walks: a numeral read as a natural number, a small number taken out of one (the reference). -/
import Derived.Test.YtnilkimcdgmgkaaGreatDoorCr15
import Derived.Test.YtnilkimcdgmgkaaGreatDoorCr20
import Derived.Test.YtnilkimcdgmgkaaGreatDoorCr1
import Derived.Test.YtnilkimcdgmgkaaGreatDoorRows
import Derived.Test.YtnilkimcdgmgkaaGreatDoorCr9
import Derived.Test.YtnilkimcdgmgkaaGreatDoorCr19
import Derived.Test.YtnilkimcdgmgkaaGreatDoorCr14
import Derived.Test.YtnilkimcdgmgkaaGreatDoorCr3
import Derived.Test.YtnilkimcdgmgkaaGreatDoorCr16
import Derived.Test.YtnilkimcdgmgkaaGreatDoorCr5
import Derived.Test.YtnilkimcdgmgkaaGreatDoorCr6
import Derived.Test.YtnilkimcdgmgkaaGreatDoorCr17
set_option linter.all false
set_option maxRecDepth 100000
set_option maxHeartbeats 4000000
namespace Go.Proofs.YtnilkimcdgmgkaaGreatDoor
open Go.RowKit
def EnvC (names:List ByteArray) (na:Option Addr) (nc:Nat) (W:World):Prop:=StrsR W na nc names/\MaxL W/\ErrW W/\ErrS W/\TabW W
theorem qwp (l:List Tm):(normP l).length<=l.length:=by
 have key:∀ (l p:List Tm),(l.foldl (fun p t=>addP p (oneP t)) p).length<=p.length+l.length:=by
  intro l
  induction l with
  | nil=>intro p;simp
  | cons t l ih =>
   intro p;rw [List.foldl_cons,List.length_cons];have h1:=ih (addP p (oneP t));have h2:=qfd p (oneP t);have h3:(oneP t).length<=1:=by unfold oneP;split <;> simp
   omega
 have:=key l [];simpa [normP] using this
theorem qzs (l:List Tm):2*l.length<=wtP l:=by
 unfold wtP
 induction l with
 | nil=>simp
 | cons t l ih =>
  rw [List.map_cons,List.sum_cons,List.length_cons];have:1<=qsz t.1:=by
   have:=qbj t.1;have:=qap.2 (Nat.pos_of_ne_zero t.1.den_nz)
   omega
  omega
theorem qjt {names:List ByteArray} {l:List UInt8} {p:List Tm} {r:List UInt8} (hW:Wok names l) (h:readP names l=.ok p r):p.length<=500/\Pok 1048576 p:=by
 unfold readP at h;obtain ⟨L,s,h1,h2⟩:=qbd h;injection h2 with h2 _
 have h3:=hW L s h1;have h4:=qzs L;have h5:=qwp L;rw [h2] at h5;have h6:=(qix (qh3 h1).2).1;rw [h2] at h6;exact ⟨by omega,h6⟩
def RetCp (X:Nat->Prop) (G:Option (List Tm) × Int) (w:World) (e:Ending) (w':World):Prop:=∃ (a:Option Addr) (n c:Nat) (er:Int),e=.returned (.tuple #[.slice a n c,.int .i64 er])/\Below w.heap.size w w' /\
 (∀ p x,G=(some p,x)->n=p.length/\PolX X w' a c p/\er=0)/\(∀ x,G=(none,x)->er=x/\x≠0)
theorem zz67 {P:Prop} (h:P:=by
 go_wp2;go_ret2;exact ⟨none,0,0,9,rfl,bth hb1 hb2,(fun p x e=>by injection e with e;cases e),fun x e=>by injection e with _ e;exact ⟨e,by rw [<- e];decide⟩⟩
 ):P:=h
theorem qnx (X:Nat->Prop) (g:Nat) (names:List ByteArray) (na:Option Addr) (nc:Nat) (s:ByteArray) (v1 v2 v3 v4 v5:Value) (w:World) (hX:∀ b,X b->b<w.heap.size)
  (hg:Blk w g 38 #[.slice na names.length nc,v1,v2,v3,v4,v5]) (hE:∀ W,Below w.heap.size w W->EnvC names na nc W) (hnz:∀ x∈names,x.size<=1048576) (hnl:names.length<=1000) (hs:s.size<=281474976710656) (hW:Wok names s.data.toList) :
  Calls Tryz.prog 18 #[.pointer (some ⟨g,0,none⟩),.string s] w (RetCp X (polC names s.data.toList) w):=by
 have CR:=Hd (qv1 X s names na nc w (hE w brf).1 hnz hnl hs hW (hE w brf).2.2.1 hX);have HN:=Hd (fun W (hW:Below w.heap.size w W)=>(hE W hW).1);have HT:=Hd (fun W (hW:Below w.heap.size w W)=>(hE W hW).2.2.2.2);have HNZ:=Hd hnz;have HW:=Hd hW;obtain ⟨G,hG⟩:∃ G,polC names s.data.toList=G:=⟨_,rfl⟩
 rw [hG];unfold polC at hG;have z0:=hg.cell 0;have hl:=hg.lt;have HB:=Hd hg;clear hE hnz hW hg;go_enter Tryz.func18,Tryz.ntmps18;go_wp2_with fail;refine CR.out.mono ?_;rintro e w1 ⟨a,n,c,at_,er,rfl,hb1,hbad,hok⟩;clear CR;by_cases hn0:errNm names=0
 ·
  have hok1:=hok hn0;rw [if_pos hn0] at hG;replace hn0:=Hd hn0;clear hok hbad
  cases hR:readP names s.data.toList with
  | bad k er2 =>
   rw [hR] at hok1 hG;obtain ⟨rfl,rfl,rfl,rfl,he0,hk⟩:=hok1;subst hG;have hne:(er != 0)=true:=by simpa using he0
   replace he0:=Hd he0;clear hR hk;go_wp2;go_ret2;exact ⟨none,0,0,er,rfl,hb1,(fun p x e=>by injection e with e;cases e),fun x e=>by injection e with _ e;exact ⟨e,by rw [<- e];exact he0.out⟩⟩
  | ok p r =>
   rw [hR] at hok1 hG;obtain ⟨rfl,hP,rfl,rfl,hF⟩:=hok1;obtain ⟨hpl,hpk⟩:=qjt HW.out hR;have hq:=hP.list;have hlm:(p.map trmOf).length=p.length:=List.length_map _;have hqb:=qic hpk;have hpt:=qo4 (names:=names) hqb;rw [qyd] at hpt;have CP:=fun W (hW:Below w1.heap.size w1 W)=>qtu (p.map trmOf) names a na c nc W (hq.ext (xbw hW)) (qmk hF) (by rw [hlm];omega) (HN.out W (bth hb1 hW)) hnl HNZ.out (HT.out W (bth hb1 hW))
   rw [hpt,hlm] at CP;dsimp only at hG;obtain ⟨T,hT⟩:∃ T,qdf names p=T:=⟨_,rfl⟩
   rw [hT] at CP hG;obtain ⟨t,te⟩:=T;dsimp only at CP;replace CP:=Hd CP;have z1:=(HB.out.below' hb1).cell 0;have hl1:=(HB.out.below' hb1).lt;replace hP:=Hd hP;obtain ⟨n,hn⟩:∃ n,p.length=n:=⟨_,rfl⟩
   rw [hn] at CP ⊢;have hn':=Hd hn;clear z0 hl hR hF hpl hpk hq hlm hqb hpt hT hn;go_wp2_with fail;refine (CP.out w1 brf).mono ?_;rintro e w2 ⟨rfl,hb2⟩;clear CP;by_cases he0:te=0
   ·
    subst he0;obtain ⟨b,hb⟩:∃ b,((ofL t).toList==s.toList)=b:=⟨_,rfl⟩
    have hb':=hb;rw [qe4] at hb'
    cases b
    ·
     have hbn:((ofL t).toList != s.toList)=true:=by rw [bne,hb];rfl
     rw [decide_eq_false_iff_not] at hb';rw [if_neg (fun e=>hb' (by injection e with e _;rw [e,qc1]))] at hG;subst hG;replace hb':=Hd hb';exact zz67
    ·
     have hbn:((ofL t).toList != s.toList)=false:=by rw [bne,hb];rfl
     rw [decide_eq_true_iff] at hb';rw [if_pos (show (t,(0:Int))=(s.data.toList,0) by rw [<- hb',qaw])] at hG;subst hG;replace hb':=Hd hb';have hP2:=Hd (hP.out.call hb2);go_wp2;go_ret2;exact ⟨a,n,c,0,rfl,bth hb1 hb2,(fun q x e=>by injection e with e _;injection e with e;subst e;exact ⟨hn'.out.symm,hP2.out,rfl⟩),fun x e=>by injection e with e _;cases e⟩
   ·
    have hne:(te != 0)=true:=by simpa using he0
    rw [if_neg (fun e=>he0 (by injection e))] at hG;subst hG;replace he0:=Hd he0;exact zz67
 ·
  obtain ⟨rfl,rfl,rfl,rfl⟩:=hbad hn0;rw [if_neg hn0] at hG;subst hG;obtain ⟨er,her⟩:∃ er,errNm names=er:=⟨_,rfl⟩
  simp only [her] at hn0 ⊢;have hne:(er != 0)=true:=by simpa using hn0
  replace hn0:=Hd hn0;replace her:=Hd her;clear hok hbad;go_wp2;go_ret2;exact ⟨none,0,0,er,rfl,hb1,(fun p x e=>by injection e with e;cases e),fun x e=>by injection e with _ e;have e2:=her.out.symm.trans e;exact ⟨e2,by rw [<- e2];exact hn0.out⟩⟩
end Go.Proofs.YtnilkimcdgmgkaaGreatDoor
namespace Go.Proofs.YtnilkimcdgmgkaaGreatDoor
open Go.ChangeShapes Go.WideShapes Go.ChangeAt Go.RowKit
theorem qrm {α β:Type} {p:Nat->β->α->Prop} (l:List β) (h:∀ i y,l[i]? = some y->∃ z,p i y z) :
  ∃ zs:List α,zs.length=l.length/\∀ (i:Nat) (z:α),zs[i]? = some z->∃ y,l[i]? = some y/\p i y z:=by
 induction l generalizing p with
 | nil=>exact ⟨[],rfl,fun i z hz=>by simp at hz⟩
 | cons x l ih =>
  obtain ⟨z0,h0⟩:=h 0 x rfl;obtain ⟨zs,hl,hz⟩:=ih (p:=fun i=>p (i+1)) (fun i y hy=>h (i+1) y (by simpa using hy));refine ⟨z0 :: zs,by simp [hl],fun i z hi=>?_⟩
  cases i with
  | zero=>simp at hi;subst hi;exact ⟨x,rfl,h0⟩
  | succ i=>simpa using hz i z (by simpa using hi)
theorem qku {H α:Type} (size:α->Nat):∀ (ds:List (DataW H)) (zs:List α),zs.length=ds.length->(∀ (i:Nat) (z:α) (d:DataW H),zs[i]? = some z->ds[i]? = some d->size z<=Rows.uptoBulk d) ->
  (zs.map size).sum<=Rows.uptoBulkAll ds
 | [],zs,hl,_=>by
  have:zs=[]:=List.eq_nil_of_length_eq_zero (by simpa using hl);subst this;simp
 | d :: ds,[],hl,_=>by simp at hl
 | d :: ds,z :: zs,hl,h=>by
  have h0:=h 0 z d rfl rfl;have h1:=qku size ds zs (by simpa using hl) (fun i z d hz hd=>h (i+1) z d (by simpa using hz) (by simpa using hd));simp only [List.map_cons,List.sum_cons,Rows.uptoBulkAll]
  omega
section
variable {H : Type} {enc : TypeId × Value -> H} {P : Program} {W : World} {sp : Nat -> Bool} {held : Bool}
theorem qsm {t e:TypeId} {sz fuel:Nat} {cs:List Value} {x:DataW H × List MemPlace} (ht:P.underlying t=some (.slice e)) (hc:P.cellsOf e=sz) (hs:0<sz)
  (h:DataW.trod enc P W 0 sp held fuel t cs=some x) {α:Type} (E:World->Nat->Nat->α->Prop) (size:α->Nat)
  (conv:∀ n cs' y b o,n<fuel->DataW.trod enc P W 0 sp held n e cs'=some y->cs'.length=sz->(∀ j,j<sz->W.cell? ⟨b,o+j,none⟩=cs'[j]?)->∃ z,E W b o z/\size z<=Rows.uptoBulk y.1) :
  ∃ (a:Option Addr) (cap:Nat) (zs:List α),cs=[.slice a zs.length cap]/\SlR sz E W a cap zs/\(zs.map size).sum+1<=Rows.uptoBulk x.1:=by
 rcases DataW.trod_slice ht h with ⟨rfl,rfl⟩ | ⟨a,len,cap,elems,rest,n,hn,rfl,rfl,_,hl,hm,hlen,hel,_,_⟩
 · exact ⟨none,0,[],rfl,SlR.nil,by simp [Rows.uptoBulk]⟩
 ·
  rw [hc] at hel;have key:∀ i y,elems[i]? = some y->∃ z,(∃ b off,a=⟨b,off,none⟩/\E W b (off+i*sz) z)/\size z<=Rows.uptoBulk y.1:=by
   intro i y hy;have hi:i<len:=by rw [<- hlen];exact qas hy
   have h1:=hel i hi;rw [hy] at h1;obtain ⟨cs',hcs,hty⟩:=Option.bind_eq_some_iff.1 h1;obtain ⟨_,hl',hcell⟩:=World.cells?_some hcs;have hspot:∃ b off,a=⟨b,off,none⟩:=by
    have h0:=hcell 0 hs;rw [List.getElem?_eq_getElem (by omega)] at h0;have:=World.cell?_spot h0;obtain ⟨b,off,spot⟩:=a;by_cases hi0:i*sz=0
    ·
     simp [Addr.add,hi0] at this;subst this;exact ⟨b,off,rfl⟩
    ·
     have h2:=hel 0 (by omega);obtain ⟨y0,hy0⟩:=qad (xs:=elems) (k:=0) (by omega);rw [hy0] at h2;obtain ⟨cs0,hcs0,_⟩:=Option.bind_eq_some_iff.1 h2;obtain ⟨_,hl0,hcell0⟩:=World.cells?_some hcs0;have h3:=hcell0 0 hs;rw [List.getElem?_eq_getElem (by omega)] at h3;have:=World.cell?_spot h3;simp [Addr.add] at this;subst this;exact ⟨b,off,rfl⟩
   obtain ⟨b,off,rfl⟩:=hspot;obtain ⟨z,hz,hsz⟩:=conv n cs' y b (off+i*sz) (by omega) hty hl' (fun j hj=>by
    rw [<- hcell j hj,add_plain,add_plain])
   exact ⟨z,⟨b,off,rfl,hz⟩,hsz⟩
  obtain ⟨zs,hzl,hz⟩:=qrm (p:=fun i y z=>(∃ b off,a=⟨b,off,none⟩/\E W b (off+i*sz) z)/\size z<=Rows.uptoBulk y.1) elems key;refine ⟨some a,cap,zs,by rw [hzl,hlen],⟨by omega,hm,fun k z hk=>?_⟩,?_⟩
  ·
   obtain ⟨y,hy,⟨b,off,rfl,he⟩,_⟩:=hz k z hk;exact ⟨b,off,rfl,he⟩
  ·
   have h1:=qku size (elems.map (·.1)) zs (by simpa using hzl) (fun i z d hzi hd=>by
    obtain ⟨y,hy,_,hs⟩:=hz i z hzi;rw [List.getElem?_map,hy] at hd;simp at hd;subst hd;exact hs)
   simp only [Rows.uptoBulk]
   omega
end
theorem qz8 {H:Type} {enc:TypeId × Value->H} {P:Program} {W:World} {sp:Nat->Bool} {held:Bool} {e:TypeId} {k:IntKind} (he:P.underlying e=some (.int k)) (n:Nat) (cs':List Value) (y:DataW H × List MemPlace) (b o:Nat)
  (h:DataW.trod enc P W 0 sp held n e cs'=some y) (hc:∀ j,j<1->W.cell? ⟨b,o+j,none⟩=cs'[j]?):∃ z,IntE k W b o z/\1<=Rows.uptoBulk y.1:=by
 obtain ⟨z,rfl,rfl,hw⟩:=DataW.trod_int he h;exact ⟨z,⟨by have:=hc 0 (by omega);simpa using this,hw⟩,by simp [Rows.uptoBulk]⟩
theorem qzz {H:Type} {enc:TypeId × Value->H} {P:Program} {W:World} {sp:Nat->Bool} {held:Bool} {e:TypeId} (he:P.underlying e=some .string) (n:Nat) (cs':List Value) (y:DataW H × List MemPlace) (b o:Nat)
  (h:DataW.trod enc P W 0 sp held n e cs'=some y) (hc:∀ j,j<1->W.cell? ⟨b,o+j,none⟩=cs'[j]?):∃ z:ByteArray,StrE W b o z/\z.size+1<=Rows.uptoBulk y.1:=by
 obtain ⟨z,rfl,rfl,hw⟩:=DataW.trod_string he h;exact ⟨z,by have:=hc 0 (by omega);simpa [StrE] using this,by simp [Rows.uptoBulk]⟩
end Go.Proofs.YtnilkimcdgmgkaaGreatDoor
namespace Go.Proofs.YtnilkimcdgmgkaaGreatDoor
open Go.ChangeShapes Go.WideShapes Go.ChangeAt Go.RowKit
theorem qpk {α:Type} (l:List α):(l.map fun _=>1).sum=l.length:=by induction l with
 | nil=>rfl
 | cons x l ih=>simp only [List.map_cons,List.sum_cons,ih,List.length_cons];omega
section
variable {H : Type} {enc : TypeId × Value -> H} {W : World} {sp : Nat -> Bool} {held : Bool} {n : Nat}
end
end Go.Proofs.YtnilkimcdgmgkaaGreatDoor
namespace Go.Proofs.YtnilkimcdgmgkaaGreatDoor
open Go.ChangeShapes Go.WideShapes Go.ChangeAt Go.RowKit
theorem qak6:Tryz.prog.cellsOf 3=1:=by kernel_rfl
theorem qak1:Tryz.prog.cellsOf 9=1:=by kernel_rfl
section
variable {H : Type} {enc : TypeId × Value -> H} {W : World} {sp : Nat -> Bool} {held : Bool} {n : Nat}
theorem qak9 {cs:List Value} {y:DataW H × List MemPlace} (h:DataW.trod enc Tryz.prog W 0 sp held n 24 cs=some y) :
  ∃ a c zs,cs=[.slice a (List.length zs) c]/\IntsR W a c zs/\zs.length+1<=Rows.uptoBulk y.1:=by
 obtain ⟨a,c,zs,h1,h2,h3⟩:=qsm Tryz.underlying24 qak6 (by omega) h (IntE .i64) (fun _=>1) (fun m cs' y b o _ ht _ hc=>qz8 Tryz.underlying3 m cs' y b o ht hc);rw [qpk] at h3;exact ⟨a,c,zs,h1,h2,h3⟩
theorem qux {cs:List Value} {y:DataW H × List MemPlace} (h:DataW.trod enc Tryz.prog W 0 sp held n 22 cs=some y) :
  ∃ a c zs,cs=[.slice a (List.length zs) c]/\StrsR W a c zs/\(zs.map fun s=>s.size+1).sum+1<=Rows.uptoBulk y.1 :=
 qsm Tryz.underlying22 qak1 (by omega) h StrE (fun s=>s.size+1) (fun m cs' y b o _ ht _ hc=>qzz Tryz.underlying9 m cs' y b o ht hc)
end
end Go.Proofs.YtnilkimcdgmgkaaGreatDoor
namespace Go.Proofs.YtnilkimcdgmgkaaGreatDoor
open Go.ChangeShapes Go.WideShapes Go.ChangeAt Go.RowKit
section
variable {H : Type} {enc : TypeId × Value -> H} {W : World} {sp : Nat -> Bool} {held : Bool}
end
end Go.Proofs.YtnilkimcdgmgkaaGreatDoor
namespace Go.Proofs.YtnilkimcdgmgkaaGreatDoor
open Go.RowKit Go.WideShapes Go.ChangeAt
abbrev InS30 (w:World) (u:Value) (m:Nat):Prop:=∃ (l:List ByteArray) (a:Option Addr) (c:Nat),u=.slice a l.length c/\StrsR w a c l/\(l.map fun s=>s.size+1).sum+1<=m
theorem qaf7 {w:World} {names:List ByteArray} {na:Option Addr} {nc:Nat} (h:StrsR w na nc names) (hM:MaxL w) (he:ErrW w) (hy:ErrS w) (ht:TabW w):∀ W,Below w.heap.size w W->EnvC names na nc W :=
 fun W hW=>⟨h.ext (xbw hW),hM.ext (xbw hW),he.below hW,hy.below hW,ht.below hW⟩
end Go.Proofs.YtnilkimcdgmgkaaGreatDoor
namespace Go.Proofs.YtnilkimcdgmgkaaGreatDoor
open Go.RowKit
def Bk (a:Option Addr) (b:Nat):Prop:=∃ q:Addr,a=some q/\b=q.block
def Dj (a a':Option Addr):Prop:=∀ b,Bk a b->¬ Bk a' b
def Xc (g:Nat) (fa wa ca:Option Addr):Nat->Prop:=fun b=>b<=g\/Bk fa b\/Bk wa b\/Bk ca b
theorem AllP.less {X Y:Nat->Prop} {w:World} {hs:List PQ} {ps:List (List Tm)} (h:AllP X w hs ps) (e:∀ b,Y b->X b):AllP Y w hs ps :=
 ⟨h.1,fun k s p h1 h2=>⟨(h.2 k s p h1 h2).1,(h.2 k s p h1 h2).2.map fun _ r=>r.less e⟩⟩
structure CrRows (g : Nat) (w : World) (F : List (List Tm)) (P : List Int) (C : List (List Tm)) (fa : Option Addr) (fc : Nat) (hf : List PQ) (wa : Option Addr) (wc : Nat) (ca : Option Addr) (cc : Nat) (hc : List PQ) : Prop where
 oF:OwnPq (g+1) w fa fc hf
 oP:OwnI (g+1) w wa wc P
 oC:OwnPq (g+1) w ca cc hc
 aF:AllP (Xc g fa wa ca) w hf F
 aC:AllP (Xc g fa wa ca) w hc C
 dFP:Dj fa wa
 dFC:Dj fa ca
 dPC:Dj wa ca
theorem qqe {α:Type} {f:α->List Value} {sz:Nat} {ty:TypeId} {B g:Nat} {w w':World} {a:Option Addr} {c:Nat} {l:List α} (h:Own f sz ty B w a c l) (k:Fr (fun b=>b<=g) w w') (hg:g<B):Own f sz ty B w' a c l:=by
 refine ⟨h.1,?_⟩;rcases h.2 with hn | ⟨q,cap,cur,e,hq,hh,rest⟩
 · exact .inl hn
 · exact .inr ⟨q,cap,cur,e,hq,(k.block q (Array.getElem?_eq_some_iff.1 hh).1 (by show ¬ q<=g;omega)).trans hh,rest⟩
theorem qgc (a:Option Addr):Dj none a:=by rintro b ⟨q,h,_⟩;cases h
theorem Dj.symm {a a':Option Addr} (h:Dj a a'):Dj a' a:=fun b h1 h2=>h b h2 h1
theorem qcg {a a':Option Addr} (h:Dj a a') {n c:Nat}:∀ q:Addr,a'=some q->Value.ownBlock (.slice a n c)≠some q.block:=by
 rintro q rfl e
 cases a with
 | none=>simp [Value.ownBlock] at e
 | some p=>simp [Value.ownBlock] at e;exact h p.block ⟨p,rfl,rfl⟩ ⟨q,rfl,e⟩
theorem qdg {w:World} {α:Type} {f:α->List Value} {sz:Nat} {t:TypeId} {B c:Nat} {l:List α} {a a' b:Option Addr} (h:Dj a b) (ho:Own f sz t B w b c l) (ha:∃ g,a'=some ⟨g,0,none⟩/\(a=some ⟨g,0,none⟩\/g=w.heap.size)):Dj a' b:=by
 obtain ⟨k,rfl,h2⟩:=ha;rintro x ⟨q,hq,rfl⟩ ⟨p,hp,e⟩;injection hq with hq
 subst hq;rcases h2 with h2 | h2
 · exact h k ⟨_,h2,rfl⟩ ⟨p,hp,e⟩
 ·
  have:=(ho.lt hp).2;have e:k=p.block:=e
  omega
section
variable {g : Nat} {w w' : World} {F C : List (List Tm)} {P : List Int} {fa fa' wa wa' ca ca' : Option Addr} {fc fc' wc wc' cc cc' n : Nat} {hf hc : List PQ}
theorem xc_f {b:Nat}:Xr (fun b=>b<=g\/Bk wa b\/Bk ca b) fa b↔Xc g fa wa ca b:=by
 constructor
 ·
  rintro ((h | h | h) | h)
  · exact .inl h
  · exact .inr (.inr (.inl h))
  · exact .inr (.inr (.inr h))
  · exact .inr (.inl h)
 ·
  rintro (h | h | h | h)
  · exact .inl (.inl h)
  · exact .inr h
  · exact .inl (.inr (.inl h))
  · exact .inl (.inr (.inr h))
theorem xc_p {b:Nat}:Xr (fun b=>b<=g\/Bk fa b\/Bk ca b) wa b↔Xc g fa wa ca b:=by
 constructor
 ·
  rintro ((h | h | h) | h)
  · exact .inl h
  · exact .inr (.inl h)
  · exact .inr (.inr (.inr h))
  · exact .inr (.inr (.inl h))
 ·
  rintro (h | h | h | h)
  · exact .inl (.inl h)
  · exact .inl (.inr (.inl h))
  · exact .inr h
  · exact .inl (.inr (.inr h))
theorem xc_c {b:Nat}:Xr (fun b=>b<=g\/Bk fa b\/Bk wa b) ca b↔Xc g fa wa ca b:=by
 constructor
 ·
  rintro ((h | h | h) | h)
  · exact .inl h
  · exact .inr (.inl h)
  · exact .inr (.inr (.inl h))
  · exact .inr (.inr (.inr h))
 ·
  rintro (h | h | h | h)
  · exact .inl (.inl h)
  · exact .inl (.inr (.inl h))
  · exact .inl (.inr (.inr h))
  · exact .inr h
theorem CrRows.nil:CrRows g w [] [] [] none 0 [] none 0 none 0 []:=⟨Own.nil,Own.nil,Own.nil,⟨rfl,fun k s p h=>by simp at h⟩,⟨rfl,fun k s p h=>by simp at h⟩,qgc _,qgc _,qgc _⟩
variable (h : CrRows g w F P C fa fc hf wa wc ca cc hc)
include h
theorem CrRows.call (hb:Below w.heap.size w w'):CrRows g w' F P C fa fc hf wa wc ca cc hc:=⟨h.oF.below hb,h.oP.below hb,h.oC.below hb,h.aF.call hb,h.aC.call hb,h.dFP,h.dFC,h.dPC⟩
theorem CrRows.fr (k:Fg g w w'):CrRows g w' F P C fa fc hf wa wc ca cc hc :=
 ⟨qgw h.oF k (Nat.lt_succ_self _),qgw h.oP k (Nat.lt_succ_self _),qgw h.oC k (Nat.lt_succ_self _),h.aF.step (k.agr.mono fun b hb=>.inl (Nat.le_of_eq hb)),h.aC.step (k.agr.mono fun b hb=>.inl (Nat.le_of_eq hb)),h.dFP,h.dFC,h.dPC⟩
theorem CrRows.fr2 (k:Fr (fun b=>b<=g) w w'):CrRows g w' F P C fa fc hf wa wc ca cc hc :=
 ⟨qqe h.oF k (Nat.lt_succ_self _),qqe h.oP k (Nat.lt_succ_self _),qqe h.oC k (Nat.lt_succ_self _),h.aF.step (k.agr.mono fun b hb=>.inl hb),h.aC.step (k.agr.mono fun b hb=>.inl hb),h.dFP,h.dFC,h.dPC⟩
theorem CrRows.xlt (hg:g<w.heap.size):∀ b,Xc g fa wa ca b->b<w.heap.size:=by
 rintro b (hb | ⟨q,hq,rfl⟩ | ⟨q,hq,rfl⟩ | ⟨q,hq,rfl⟩)
 · exact Nat.lt_of_le_of_lt hb hg
 · exact (h.oF.lt hq).2
 · exact (h.oP.lt hq).2
 · exact (h.oC.lt hq).2
theorem CrRows.pushF {s:PQ} {p:List Tm} (hg:w.grownBy w' (Value.ownBlock (.slice fa n fc))) (ho:OwnPq (g+1) w' fa' fc' (hf++[s])) (ha:∃ g,fa'=some ⟨g,0,none⟩/\(fa=some ⟨g,0,none⟩\/g=w.heap.size)) (hp:PolX (Xc g fa wa ca) w s.a s.c p) (hn:s.n=p.length) :
  CrRows g w' (F++[p]) P C fa' fc' (hf++[s]) wa wc ca cc hc :=
 ⟨ho,h.oP.grown hg (qcg h.dFP),h.oC.grown hg (qcg h.dFC),
  (((h.aF.push hn hp).less fun b hb=>xc_f.1 hb).app hg ha).less fun b hb=>xc_f.2 hb,
  ((h.aC.less fun b hb=>xc_f.1 hb).app hg ha).less fun b hb=>xc_f.2 hb,qdg h.dFP h.oP ha,qdg h.dFC h.oC ha,h.dPC⟩
theorem CrRows.pushP {x:Int} (hg:w.grownBy w' (Value.ownBlock (.slice wa n wc))) (ho:OwnI (g+1) w' wa' wc' (P++[x])) (ha:∃ g,wa'=some ⟨g,0,none⟩/\(wa=some ⟨g,0,none⟩\/g=w.heap.size)) :
  CrRows g w' F (P++[x]) C fa fc hf wa' wc' ca cc hc :=
 ⟨h.oF.grown hg (qcg h.dFP.symm),ho,h.oC.grown hg (qcg h.dPC),
  ((h.aF.less fun b hb=>xc_p.1 hb).app hg ha).less fun b hb=>xc_p.2 hb,
  ((h.aC.less fun b hb=>xc_p.1 hb).app hg ha).less fun b hb=>xc_p.2 hb,(qdg h.dFP.symm h.oF ha).symm,h.dFC,qdg h.dPC h.oC ha⟩
theorem CrRows.pushC {s:PQ} {p:List Tm} (hg:w.grownBy w' (Value.ownBlock (.slice ca n cc))) (ho:OwnPq (g+1) w' ca' cc' (hc++[s])) (ha:∃ g,ca'=some ⟨g,0,none⟩/\(ca=some ⟨g,0,none⟩\/g=w.heap.size)) (hp:PolX (Xc g fa wa ca) w s.a s.c p) (hn:s.n=p.length) :
  CrRows g w' F P (C++[p]) fa fc hf wa wc ca' cc' (hc++[s]) :=
 ⟨h.oF.grown hg (qcg h.dFC.symm),h.oP.grown hg (qcg h.dPC.symm),ho,
  ((h.aF.less fun b hb=>xc_c.1 hb).app hg ha).less fun b hb=>xc_c.2 hb,
  (((h.aC.push hn hp).less fun b hb=>xc_c.1 hb).app hg ha).less fun b hb=>xc_c.2 hb,h.dFP,(qdg h.dFC.symm h.oF ha).symm,(qdg h.dPC.symm h.oP ha).symm⟩
end
def CrSt (g:Nat) (nv:Value) (m:Nat) (w:World) (c:CrQ) (part:Nat):Prop:=∃ (fa:Option Addr) (fc:Nat) (hf:List PQ) (wa:Option Addr) (wc:Nat) (ca:Option Addr) (cc:Nat) (hc:List PQ),
 Blk w g 38 #[nv,.slice fa hf.length fc,.slice wa c.P.length wc,.int .i64 c.n,.slice ca hc.length cc,.int .i64 part]/\CrRows g w c.F c.P c.C fa fc hf wa wc ca cc hc/\hf.length<=m/\c.P.length<=m/\hc.length<=m
theorem CrSt.call {g:Nat} {nv:Value} {m:Nat} {w w':World} {c:CrQ} {part:Nat} (h:CrSt g nv m w c part) (hb:Below w.heap.size w w'):CrSt g nv m w' c part:=by
 obtain ⟨fa,fc,hf,wa,wc,ca,cc,hc,h1,h2,h3⟩:=h;exact ⟨fa,fc,hf,wa,wc,ca,cc,hc,h1.below' hb,h2.call hb,h3⟩
theorem CrSt.fg {g q:Nat} {nv:Value} {m:Nat} {w w':World} {c:CrQ} {part:Nat} (h:CrSt g nv m w c part) (k:Fg q w w') (hq:q<g):CrSt g nv m w' c part:=by
 obtain ⟨fa,fc,hf,wa,wc,ca,cc,hc,h1,h2,h3⟩:=h;exact ⟨fa,fc,hf,wa,wc,ca,cc,hc,h1.fr k (by omega),h2.fr2 (k.mono fun b hb=>by subst hb;exact Nat.le_of_lt hq),h3⟩
theorem qj1 {α:Type} {f:α->List Value} {sz:Nat} {t:TypeId} {g n c:Nat} {l:List α} {w0 w w':World} {a:Option Addr} (hb:Below g w0 w) (ho:Own f sz t (g+1) w a c l) (hs:g<=w.heap.size) (hg:w.grownBy w' (Value.ownBlock (.slice a n c))):Below g w0 w' :=
 hb.grown hg hs fun k hk=>by
  cases a with
  | none=>simp [Value.ownBlock] at hk
  | some p=>simp [Value.ownBlock] at hk;have:=(ho.lt rfl).1;omega
theorem qhc {X:Nat->Prop} {B:Nat} {w:World} {a:Option Addr} {c:Nat} {hs:List PQ} {ps:List (List Tm)} (ho:OwnPq B w a c hs) (hA:AllP X w hs ps):qdh w a c (ps.map (·.map trmOf)):=by
 refine ho.readsX (X:=fun _=>False) (ps.map (·.map trmOf)) (by rw [List.length_map];exact hA.1.symm) PQ.cs_len (Agr.refl _ w) (fun g hg hx=>hx) fun b o k x y h1 h2 hc=>?_
 rw [List.getElem?_map] at h2;obtain ⟨p,hp,rfl⟩:=Option.map_eq_some_iff.1 h2;obtain ⟨e,hx⟩:=hA.2 k x p h1 hp;refine ⟨x.a,x.c,?_,hx.list⟩;have:=hc 0 _ rfl;rw [List.length_map,<- e];simpa using this
def Xz (Z:Nat->Prop) (fa wa ca:Option Addr):Nat->Prop:=fun b=>Z b\/Bk fa b\/Bk wa b\/Bk ca b
structure CrZ (Z : Nat -> Prop) (B : Nat) (w : World) (F : List (List Tm)) (P : List Int) (C : List (List Tm)) (fa : Option Addr) (fc : Nat) (hf : List PQ) (wa : Option Addr) (wc : Nat) (ca : Option Addr) (cc : Nat) (hc : List PQ) : Prop where
 oF:OwnPq B w fa fc hf
 oP:OwnI B w wa wc P
 oC:OwnPq B w ca cc hc
 aF:AllP (Xz Z fa wa ca) w hf F
 aC:AllP (Xz Z fa wa ca) w hc C
 dFP:Dj fa wa
 dFC:Dj fa ca
 dPC:Dj wa ca
section
variable {Z Z' : Nat -> Prop} {B : Nat} {w w' : World} {F C : List (List Tm)} {P : List Int} {fa fa' wa wa' ca ca' : Option Addr} {fc fc' wc wc' cc cc' n : Nat} {hf hc : List PQ}
theorem xz_f {b:Nat}:Xr (fun b=>Z b\/Bk wa b\/Bk ca b) fa b↔Xz Z fa wa ca b:=by
 constructor
 ·
  rintro ((h | h | h) | h)
  · exact .inl h
  · exact .inr (.inr (.inl h))
  · exact .inr (.inr (.inr h))
  · exact .inr (.inl h)
 ·
  rintro (h | h | h | h)
  · exact .inl (.inl h)
  · exact .inr h
  · exact .inl (.inr (.inl h))
  · exact .inl (.inr (.inr h))
theorem xz_p {b:Nat}:Xr (fun b=>Z b\/Bk fa b\/Bk ca b) wa b↔Xz Z fa wa ca b:=by
 constructor
 ·
  rintro ((h | h | h) | h)
  · exact .inl h
  · exact .inr (.inl h)
  · exact .inr (.inr (.inr h))
  · exact .inr (.inr (.inl h))
 ·
  rintro (h | h | h | h)
  · exact .inl (.inl h)
  · exact .inl (.inr (.inl h))
  · exact .inr h
  · exact .inl (.inr (.inr h))
theorem xz_c {b:Nat}:Xr (fun b=>Z b\/Bk fa b\/Bk wa b) ca b↔Xz Z fa wa ca b:=by
 constructor
 ·
  rintro ((h | h | h) | h)
  · exact .inl h
  · exact .inr (.inl h)
  · exact .inr (.inr (.inl h))
  · exact .inr (.inr (.inr h))
 ·
  rintro (h | h | h | h)
  · exact .inl (.inl h)
  · exact .inl (.inr (.inl h))
  · exact .inl (.inr (.inr h))
  · exact .inr h
theorem CrZ.nil:CrZ Z B w [] [] [] none 0 [] none 0 none 0 []:=⟨Own.nil,Own.nil,Own.nil,⟨rfl,fun k s p h=>by simp at h⟩,⟨rfl,fun k s p h=>by simp at h⟩,qgc _,qgc _,qgc _⟩
theorem AllP.wide {X:Nat->Prop} {w:World} {hs:List PQ} {ps:List (List Tm)} (h:AllP X w hs ps):AllP (fun b=>X b\/b=w.heap.size) w hs ps :=
 ⟨h.1,fun k s p h1 h2=>⟨(h.2 k s p h1 h2).1,(h.2 k s p h1 h2).2.map fun _ r=>qmu r⟩⟩
variable (h : CrZ Z B w F P C fa fc hf wa wc ca cc hc)
include h
theorem CrZ.call (hb:Below w.heap.size w w'):CrZ Z B w' F P C fa fc hf wa wc ca cc hc:=⟨h.oF.below hb,h.oP.below hb,h.oC.below hb,h.aF.call hb,h.aC.call hb,h.dFP,h.dFC,h.dPC⟩
theorem CrZ.less (e:∀ b,Z' b->Z b):CrZ Z' B w F P C fa fc hf wa wc ca cc hc :=
 ⟨h.oF,h.oP,h.oC,h.aF.less fun b hb=>hb.imp (e b) id,h.aC.less fun b hb=>hb.imp (e b) id,h.dFP,h.dFC,h.dPC⟩
theorem CrZ.wide:CrZ (fun b=>Z b\/b=w.heap.size) B w F P C fa fc hf wa wc ca cc hc :=
 ⟨h.oF,h.oP,h.oC,h.aF.wide.less fun b hb=>by
   rcases hb with (hb | hb) | hb
   · exact .inl (.inl hb)
   · exact .inr hb
   · exact .inl (.inr hb),h.aC.wide.less fun b hb=>by
   rcases hb with (hb | hb) | hb
   · exact .inl (.inl hb)
   · exact .inr hb
   · exact .inl (.inr hb),h.dFP,h.dFC,h.dPC⟩
theorem CrZ.wide2 (o1 o2:Obj):CrZ (fun b=>Z b\/b=w.heap.size\/b=w.heap.size+1) B ((w.alloc o1).alloc o2) F P C fa fc hf wa wc ca cc hc:=by
 have h1:=(CrZ.wide h).call ((Below.refl w.heap.size w).alloc (nlr _) o1);have h2:=(CrZ.wide h1).call ((Below.refl (w.alloc o1).heap.size (w.alloc o1)).alloc (nlr _) o2);refine h2.less fun b hb=>?_
 rcases hb with hb | hb | hb
 · exact .inl (.inl hb)
 · exact .inl (.inr hb)
 · exact .inr (by rw [hb];simp)
theorem CrZ.set_ {g i:Nat} {u:Value} (hz:Z g) (h1:¬ Bk fa g) (h2:¬ Bk wa g) (h3:¬ Bk ca g):CrZ Z B (w.setCell ⟨g,i,none⟩ u) F P C fa fc hf wa wc ca cc hc:=by
 have hg:w.grownBy (w.setCell ⟨g,i,none⟩ u) (some g):=qb0 (qcz w g) i u;have hA:∀ X:Nat->Prop,X g->Agr X w (w.setCell ⟨g,i,none⟩ u):=fun X hx=>(Agr.refl _ _).setc hx
 exact ⟨h.oF.grown hg fun q hq e=>h1 ⟨q,hq,by injection e⟩,h.oP.grown hg fun q hq e=>h2 ⟨q,hq,by injection e⟩,h.oC.grown hg fun q hq e=>h3 ⟨q,hq,by injection e⟩,
  h.aF.step (hA _ (.inl hz)),h.aC.step (hA _ (.inl hz)),h.dFP,h.dFC,h.dPC⟩
theorem CrZ.bk (b:Nat) (hb:Bk fa b\/Bk wa b\/Bk ca b):B<=b/\b<w.heap.size:=by
 rcases hb with ⟨q,hq,rfl⟩ | ⟨q,hq,rfl⟩ | ⟨q,hq,rfl⟩
 · exact h.oF.lt hq
 · exact h.oP.lt hq
 · exact h.oC.lt hq
theorem CrZ.low {g:Nat} (hg:g<B):¬ Bk fa g/\¬ Bk wa g/\¬ Bk ca g :=
 ⟨fun k=>by have:=CrZ.bk h g (.inl k);omega,fun k=>by have:=CrZ.bk h g (.inr (.inl k));omega,fun k=>by have:=CrZ.bk h g (.inr (.inr k));omega⟩
theorem CrZ.set4 {g:Nat} {u0 u1 u2 u3:Value} (hz:Z g) (hn:¬ Bk fa g/\¬ Bk wa g/\¬ Bk ca g):CrZ Z B ((((w.setCell ⟨g,0,none⟩ u0).setCell ⟨g,1,none⟩ u1).setCell ⟨g,2,none⟩ u2).setCell ⟨g,3,none⟩ u3) F P C fa fc hf wa wc ca cc hc:=by
 have h1:=CrZ.set_ h (i:=0) (u:=u0) hz hn.1 hn.2.1 hn.2.2;have h2:=CrZ.set_ h1 (i:=1) (u:=u1) hz hn.1 hn.2.1 hn.2.2;have h3:=CrZ.set_ h2 (i:=2) (u:=u2) hz hn.1 hn.2.1 hn.2.2;exact CrZ.set_ h3 (i:=3) (u:=u3) hz hn.1 hn.2.1 hn.2.2
theorem CrZ.xlt (hZ:∀ b,Z b->b<w.heap.size):∀ b,Xz Z fa wa ca b->b<w.heap.size:=by
 rintro b (hb | hb)
 · exact hZ b hb
 · exact (h.bk b hb).2
theorem CrZ.pushF {s:PQ} {p:List Tm} (hg:w.grownBy w' (Value.ownBlock (.slice fa n fc))) (ho:OwnPq B w' fa' fc' (hf++[s])) (ha:∃ g,fa'=some ⟨g,0,none⟩/\(fa=some ⟨g,0,none⟩\/g=w.heap.size)) (hp:PolX (Xz Z fa wa ca) w s.a s.c p) (hn:s.n=p.length) :
  CrZ Z B w' (F++[p]) P C fa' fc' (hf++[s]) wa wc ca cc hc :=
 ⟨ho,h.oP.grown hg (qcg h.dFP),h.oC.grown hg (qcg h.dFC),
  (((h.aF.push hn hp).less fun b hb=>xz_f.1 hb).app hg ha).less fun b hb=>xz_f.2 hb,
  ((h.aC.less fun b hb=>xz_f.1 hb).app hg ha).less fun b hb=>xz_f.2 hb,qdg h.dFP h.oP ha,qdg h.dFC h.oC ha,h.dPC⟩
theorem CrZ.pushP {x:Int} (hg:w.grownBy w' (Value.ownBlock (.slice wa n wc))) (ho:OwnI B w' wa' wc' (P++[x])) (ha:∃ g,wa'=some ⟨g,0,none⟩/\(wa=some ⟨g,0,none⟩\/g=w.heap.size)) :
  CrZ Z B w' F (P++[x]) C fa fc hf wa' wc' ca cc hc :=
 ⟨h.oF.grown hg (qcg h.dFP.symm),ho,h.oC.grown hg (qcg h.dPC),
  ((h.aF.less fun b hb=>xz_p.1 hb).app hg ha).less fun b hb=>xz_p.2 hb,
  ((h.aC.less fun b hb=>xz_p.1 hb).app hg ha).less fun b hb=>xz_p.2 hb,(qdg h.dFP.symm h.oF ha).symm,h.dFC,qdg h.dPC h.oC ha⟩
theorem CrZ.pushC {s:PQ} {p:List Tm} (hg:w.grownBy w' (Value.ownBlock (.slice ca n cc))) (ho:OwnPq B w' ca' cc' (hc++[s])) (ha:∃ g,ca'=some ⟨g,0,none⟩/\(ca=some ⟨g,0,none⟩\/g=w.heap.size)) (hp:PolX (Xz Z fa wa ca) w s.a s.c p) (hn:s.n=p.length) :
  CrZ Z B w' F P (C++[p]) fa fc hf wa wc ca' cc' (hc++[s]) :=
 ⟨h.oF.grown hg (qcg h.dFC.symm),h.oP.grown hg (qcg h.dPC.symm),ho,
  ((h.aF.less fun b hb=>xz_c.1 hb).app hg ha).less fun b hb=>xz_c.2 hb,
  (((h.aC.push hn hp).less fun b hb=>xz_c.1 hb).app hg ha).less fun b hb=>xz_c.2 hb,h.dFP,(qdg h.dFC.symm h.oF ha).symm,(qdg h.dPC.symm h.oP ha).symm⟩
end
theorem blkS4 {w:World} {g:Nat} {t:TypeId} {a0 a1 a2 a3 u0 u1 u2 u3:Value} (h:Blk w g t #[a0,a1,a2,a3]):Blk ((((w.setCell ⟨g,0,none⟩ u0).setCell ⟨g,1,none⟩ u1).setCell ⟨g,2,none⟩ u2).setCell ⟨g,3,none⟩ u3) g t #[u0,u1,u2,u3]:=bS (bS (bS (bS h rfl) rfl) rfl) rfl
theorem qbu {B:Nat} {w0 w:World} {g:Nat} (h:Below B w0 w) (hg:B<=g) {u0 u1 u2 u3:Value}:Below B w0 ((((w.setCell ⟨g,0,none⟩ u0).setCell ⟨g,1,none⟩ u1).setCell ⟨g,2,none⟩ u2).setCell ⟨g,3,none⟩ u3) :=
 (((h.setCell (p:=⟨g,0,none⟩) hg u0).setCell (p:=⟨g,1,none⟩) hg u1).setCell (p:=⟨g,2,none⟩) hg u2).setCell (p:=⟨g,3,none⟩) hg u3
theorem qdq {α:Type} {f:α->List Value} {sz:Nat} {t:TypeId} {B n c:Nat} {l:List α} {w0 w w':World} {a:Option Addr} (hb:Below B w0 w) (ho:Own f sz t B w a c l) (hs:B<=w.heap.size) (hg:w.grownBy w' (Value.ownBlock (.slice a n c))):Below B w0 w' :=
 hb.grown hg hs fun k hk=>by
  cases a with
  | none=>simp [Value.ownBlock] at hk
  | some p=>simp [Value.ownBlock] at hk;have:=(ho.lt rfl).1;omega
def RrA (w:World) (g:Nat) (s:ByteArray) (nv:Value) (a:Nat) (e:Int):Prop:=Blk w g 115 #[.string s,nv,.int .i64 a,.int .i64 e]
def StRr (w:World) (g:Nat) (s:ByteArray) (nv:Value) (l:List UInt8):Prop:=∃ a:Nat,a<=s.size/\l=tl s a/\RrA w g s nv a 0
def StEr (w:World) (g:Nat) (s:ByteArray) (nv:Value) (k:Nat) (e:Int):Prop:=k<=s.size/\e≠0/\RrA w g s nv (s.size-k) e
def StGr {α:Type} (w:World) (g:Nat) (s:ByteArray) (nv:Value) (G:Got α):Prop:=match G with
 | .ok _ r=>StRr w g s nv r
 | .bad k e=>StEr w g s nv k e
section
variable {w w' : World} {g a : Nat} {s : ByteArray} {nv : Value} {e : Int}
theorem RrA.below (h:RrA w g s nv a e) (hb:Below w.heap.size w w'):RrA w' g s nv a e:=Blk.below' h hb
theorem RrA.lt (h:RrA w g s nv a e):g<w.heap.size:=Blk.lt h
theorem RrA.set2 (h:RrA w g s nv a e) (a':Nat):RrA (w.setCell ⟨g,2,none⟩ (.int .i64 a')) g s nv a' e:=bS h rfl
theorem RrA.set23 (h:RrA w g s nv a e) (a':Nat) (e':Int):RrA ((w.setCell ⟨g,2,none⟩ (.int .i64 a')).setCell ⟨g,3,none⟩ (.int .i64 e')) g s nv a' e':=bS (bS h rfl) rfl
theorem StRr.below {l:List UInt8} (h:StRr w g s nv l) (hb:Below w.heap.size w w'):StRr w' g s nv l:=by obtain ⟨a,h1,h2,h3⟩:=h;exact ⟨a,h1,h2,h3.below hb⟩
theorem StEr.below {k:Nat} {e:Int} (h:StEr w g s nv k e) (hb:Below w.heap.size w w'):StEr w' g s nv k e:=⟨h.1,h.2.1,h.2.2.below hb⟩
theorem StGr.below {α:Type} {G:Got α} (h:StGr w g s nv G) (hb:Below w.heap.size w w'):StGr w' g s nv G:=by
 cases G with
 | ok v r=>exact StRr.below h hb
 | bad k e=>exact StEr.below h hb
end
theorem qdj (g a x:Nat) (s:ByteArray) (nv:Value) (e:Int) (w:World) (h:RrA w g s nv a 0) :
  Calls Tryz.prog 65 #[.pointer (some ⟨g,0,none⟩),.int .i64 (x:Int),.int .i64 e] w fun u w'=>u=.returned (.tuple #[])/\RrA w' g s nv x e/\Fg g w w':=by
 obtain ⟨z0,z1,z2,z3⟩:=cq4 h;have hl:=h.lt;have f2:=Blk.frozen h 2;have f3:=Blk.frozen h 3;have hF:=Hd (h.set23 x e);have hG:=Hd (((Fr.refl (fun b=>b=g) w).setc (g:=g) (i:=2) (u:=.int .i64 (x:Int)) (.inl rfl)).setc (g:=g) (i:=3) (u:=.int .i64 e) (.inl rfl));clear h;go_enter Tryz.func65,Tryz.ntmps65;go_wp2
 first | go_end0 | ((try simp only [Exit.inBlock,Exit.then]);refine bodyPost_ret (results_none rfl _ _ _) rfl ?_)
 exact ⟨rfl,hF.out,hG.out⟩
theorem qqg (g a:Nat) (s:ByteArray) (nv:Value) (e0 e x:Int) (w:World) (h:RrA w g s nv a e0) (h0:e0≠0) :
  Calls Tryz.prog 65 #[.pointer (some ⟨g,0,none⟩),.int .i64 x,.int .i64 e] w fun u w'=>u=.returned (.tuple #[])/\w=w':=by
 obtain ⟨z0,z1,z2,z3⟩:=cq4 h;have hl:=h.lt;have hz:(e0==0)=false:=by simpa using h0
 clear h;go_enter Tryz.func65,Tryz.ntmps65;go_wp2
 first | go_end0 | ((try simp only [Exit.inBlock,Exit.then]);refine bodyPost_ret (results_none rfl _ _ _) rfl ?_)
 exact ⟨rfl,rfl⟩
theorem qik (g a:Nat) (s:ByteArray) (nv:Value) (w:World) (h:RrA w g s nv a 0) (ha:a<=s.size) (hs:s.size<=281474976710656) :
  Calls Tryz.prog 123 #[.pointer (some ⟨g,0,none⟩)] w fun u w'=>u=.returned (.tuple #[])/\StGr w' g s nv (lost (α:=Unit) (tl s a))/\Fg g w w':=by
 obtain ⟨z0,z1,z2,z3⟩:=cq4 h;have hl:=h.lt;have C:=fun e=>qdj g a a s nv e w.drew h
 have hbd:Fg g w w.drew:=Fr.below (brf.drew);replace C:=Hd C;replace hbd:=Hd hbd;clear h;by_cases hlt:a=s.size
 ·
  have hb:((a:Int)==(s.size:Int))=true:=by rw [beq_iff_eq];omega
  have hL:lost (α:=Unit) (tl s a)=.bad 0 10:=by rw [qbn (by omega)];rfl
  rw [hL];replace hlt:=Hd hlt;go_enter Tryz.func123,Tryz.ntmps123;go_wp2;refine wrx (S:=(fun x=>x=w.drew)) [(0,.q),(1,.q),(2,.q),(3,.q),(4,.q),(5,.q),(6,.q),(7,.q),(8,.q),(9,.p)] (rfl) ?_
  iterate 9 (refine qab rfl rfl fun K hK=>xq ?_;go_simp;refine hK _ _ ?_;clear hK K)
  iterate 1 (refine qae rfl rfl fun K hK=>xp ?_;go_simp;refine hK _ _ ?_;clear hK K)
  refine qac ?_;go_wp2_with fail;refine (C.out 10).mono ?_;rintro e w1 ⟨rfl,h1,hf⟩;go_wp2
  first | go_end0 | ((try simp only [Exit.inBlock,Exit.then]);refine bodyPost_ret (results_none rfl _ _ _) rfl ?_)
  exact ⟨rfl,⟨by omega,by decide,by rw [Nat.sub_zero,<- hlt.out];exact h1⟩,hbd.out.trans hf⟩
 ·
  have hb:((a:Int)==(s.size:Int))=false:=by rw [beq_eq_false_iff_ne];omega
  have hL:lost (α:=Unit) (tl s a)=.bad (s.size-a) 9:=by unfold lost;rw [if_neg (by rw [qaq];omega),qaq]
  rw [hL];replace hlt:=Hd hlt;go_enter Tryz.func123,Tryz.ntmps123;go_wp2;refine wrx (S:=(fun x=>x=w.drew)) [(0,.q),(1,.q),(2,.q),(3,.q),(4,.q),(5,.q),(6,.q),(7,.q),(8,.q),(9,.p)] (rfl) ?_
  iterate 9 (refine qab rfl rfl fun K hK=>xq ?_;go_simp;refine hK _ _ ?_;clear hK K)
  iterate 1 (refine qae rfl rfl fun K hK=>xp ?_;go_simp;refine hK _ _ ?_;clear hK K)
  refine qac ?_;go_wp2_with fail;refine (C.out 9).mono ?_;rintro e w1 ⟨rfl,h1,hf⟩;go_wp2
  first | go_end0 | ((try simp only [Exit.inBlock,Exit.then]);refine bodyPost_ret (results_none rfl _ _ _) rfl ?_)
  exact ⟨rfl,⟨by omega,by decide,by rw [show s.size-(s.size-a)=a by omega];exact h1⟩,hbd.out.trans hf⟩
theorem zz69 {P:Prop} (h:P:=by
 rintro e w1 ⟨rfl,rfl⟩;go_wp2
 first | go_end0 | ((try simp only [Exit.inBlock,Exit.then]);refine bodyPost_ret (results_none rfl _ _ _) rfl ?_)
 exact ⟨rfl,hbd.out⟩
 ):P:=h
theorem qvy (g a:Nat) (s:ByteArray) (nv:Value) (e0:Int) (w:World) (h:RrA w g s nv a e0) (h0:e0≠0) :
  Calls Tryz.prog 123 #[.pointer (some ⟨g,0,none⟩)] w fun u w'=>u=.returned (.tuple #[])/\Below w.heap.size w w':=by
 obtain ⟨z0,z1,z2,z3⟩:=cq4 h;have hl:=h.lt;have C:=Hd (fun e=>qqg g a s nv e0 e (a:Int) w.drew h h0);have hbd:=Hd ((Below.refl w.heap.size w).drew);clear h;obtain ⟨b,hb⟩:∃ b,((a:Int)==(s.size:Int))=b:=⟨_,rfl⟩
 replace h0:=Hd h0
 cases b
 ·
  go_enter Tryz.func123,Tryz.ntmps123;go_wp2;refine wrx (S:=(fun x=>x=w.drew)) [(0,.q),(1,.q),(2,.q),(3,.q),(4,.q),(5,.q),(6,.q),(7,.q),(8,.q),(9,.p)] (rfl) ?_
  iterate 9 (refine qab rfl rfl fun K hK=>xq ?_;go_simp;refine hK _ _ ?_;clear hK K)
  iterate 1 (refine qae rfl rfl fun K hK=>xp ?_;go_simp;refine hK _ _ ?_;clear hK K)
  refine qac ?_;go_wp2_with fail;refine (C.out 9).mono ?_;exact zz69
 ·
  go_enter Tryz.func123,Tryz.ntmps123;go_wp2;refine wrx (S:=(fun x=>x=w.drew)) [(0,.q),(1,.q),(2,.q),(3,.q),(4,.q),(5,.q),(6,.q),(7,.q),(8,.q),(9,.p)] (rfl) ?_
  iterate 9 (refine qab rfl rfl fun K hK=>xq ?_;go_simp;refine hK _ _ ?_;clear hK K)
  iterate 1 (refine qae rfl rfl fun K hK=>xp ?_;go_simp;refine hK _ _ ?_;clear hK K)
  refine qac ?_;go_wp2_with fail;refine (C.out 10).mono ?_;exact zz69
theorem zz68 {P:Prop} (h:P:=by
 clear hyc;go_enter Tryz.func117,Tryz.ntmps117;go_wp2;refine wrx (S:=(fun x=>x=w.drew)) [(0,.q),(1,.q),(2,.q),(3,.q),(4,.q),(5,.q),(6,.q),(7,.q),(8,.q),(9,.q),(10,.q),(11,.q),(12,.q),(13,.q),(14,.q),(15,.q),(16,.q),(17,.q),(18,.q),(19,.q),(20,.q),(21,.q),(22,.q),(23,.q),(24,.q),(25,.q),(26,.q),(27,.q),(28,.p),(29,.p),(30,.p)] (rfl) ?_
 iterate 28 (refine qab rfl rfl fun K hK=>xq ?_;go_simp;refine hK _ _ ?_;clear hK K)
 iterate 3 (refine qae rfl rfl fun K hK=>xp ?_;go_simp;refine hK _ _ ?_;clear hK K)
 refine qac ?_;go_wp2;go_ret;exact ⟨rfl,hbd⟩
 ):P:=h
theorem qtd (g a:Nat) (s:ByteArray) (nv:Value) (c:Int) (w:World) (h:RrA w g s nv a 0) (ha:a<=s.size) (hs:s.size<=281474976710656) :
  Calls Tryz.prog 117 #[.pointer (some ⟨g,0,none⟩),.int .u8 c] w fun e w'=>e=.returned (.bool (nxtB (tl s a) c))/\Below w.heap.size w w':=by
 obtain ⟨z0,z1,z2,z3⟩:=cq4 h;have hl:=h.lt;have hbd:Below w.heap.size w w.drew:=brf.drew;by_cases hlt:a<s.size
 ·
  have hn:=qs6 hlt c;rw [hn];clear hn h;obtain ⟨y,hy⟩:∃ y:Nat,(s[a]'hlt).toNat=y:=⟨_,rfl⟩
  rw [hy];by_cases hyc:(y:Int)=c
  ·
   have hyb:((y:Int)==c)=true:=by simpa using hyc
   rw [decide_eq_true hyc];exact zz68
  ·
   have hyb:((y:Int)==c)=false:=by simpa using hyc
   rw [decide_eq_false hyc];exact zz68
 ·
  rw [qpv (by omega)];clear h;go_enter Tryz.func117,Tryz.ntmps117;go_wp2;refine wrx (S:=(fun x=>x=w.drew)) [(0,.q),(1,.q),(2,.q),(3,.q),(4,.q),(5,.q),(6,.q),(7,.q),(8,.q),(9,.q),(10,.q),(11,.q),(12,.q),(13,.q),(14,.q),(15,.q),(16,.q),(17,.q),(18,.q),(19,.q),(20,.q),(21,.q),(22,.q),(23,.q),(24,.q),(25,.q),(26,.q),(27,.q),(28,.p),(29,.p),(30,.p)] (rfl) ?_
  iterate 18 (refine qab rfl rfl fun K hK=>xq ?_;go_simp;refine hK _ _ ?_;clear hK K)
  iterate 11 (refine qar rfl rfl (fun K hK=>?_);go_simp;refine hK _ _ ?_;clear hK K)
  iterate 2 (refine qae rfl rfl fun K hK=>xp ?_;go_simp;refine hK _ _ ?_;clear hK K)
  refine qac ?_;go_wp2;go_ret;exact ⟨rfl,hbd⟩
theorem qaj0 (g a:Nat) (s:ByteArray) (nv:Value) (e0 c:Int) (w:World) (h:RrA w g s nv a e0) (h0:e0≠0) :
  Calls Tryz.prog 117 #[.pointer (some ⟨g,0,none⟩),.int .u8 c] w fun e w'=>e=.returned (.bool false)/\Below w.heap.size w w':=by
 obtain ⟨z0,z1,z2,z3⟩:=cq4 h;have hl:=h.lt;have hbd:Below w.heap.size w w.drew:=brf.drew;have hz:(e0==0)=false:=by simpa using h0
 clear h h0;go_enter Tryz.func117,Tryz.ntmps117;go_wp2;refine wrx (S:=(fun x=>x=w.drew)) [(0,.q),(1,.q),(2,.q),(3,.q),(4,.q),(5,.q),(6,.q),(7,.q),(8,.q),(9,.q),(10,.q),(11,.q),(12,.q),(13,.q),(14,.q),(15,.q),(16,.q),(17,.q),(18,.q),(19,.q),(20,.q),(21,.q),(22,.q),(23,.q),(24,.q),(25,.q),(26,.q),(27,.q),(28,.p),(29,.p),(30,.p)] (rfl) ?_
 iterate 6 (refine qab rfl rfl fun K hK=>xq ?_;go_simp;refine hK _ _ ?_;clear hK K)
 iterate 10 (refine qar rfl rfl (fun K hK=>?_);go_simp;refine hK _ _ ?_;clear hK K)
 iterate 2 (refine qab rfl rfl fun K hK=>xq ?_;go_simp;refine hK _ _ ?_;clear hK K)
 iterate 11 (refine qar rfl rfl (fun K hK=>?_);go_simp;refine hK _ _ ?_;clear hK K)
 iterate 2 (refine qae rfl rfl fun K hK=>xp ?_;go_simp;refine hK _ _ ?_;clear hK K)
 refine qac ?_;go_wp2;go_ret;exact ⟨rfl,hbd⟩
theorem qdt (g a:Nat) (s:ByteArray) (nv:Value) (z:Int) (w:World) (h:RrA w g s nv a 0) (ha:a<=s.size) (hs:s.size<=281474976710656) (hn:nxtB (tl s a) z=true) :
  Calls Tryz.prog 64 #[.pointer (some ⟨g,0,none⟩),.int .u8 z] w fun u w'=>u=.returned (.bool true)/\RrA w' g s nv (a+1) 0/\Fg g w w':=by
 have CP:=qtd g a s nv z w h ha hs;rw [hn] at CP;have HH:=Hd h;have hcast:((a+1:Nat):Int)=(a:Int)+1:=by omega
 replace CP:=Hd CP;clear h hn;go_enter Tryz.func64,Tryz.ntmps64;go_wp2_with fail;refine CP.out.mono ?_;rintro e w1 ⟨rfl,hb1⟩;have h1:=HH.out.below hb1;obtain ⟨z0,z1,z2,z3⟩:=cq4 h1;have hl:=h1.lt;have f2:=Blk.frozen h1 2;have hF:=Hd (h1.set2 (a+1));have hG:=Hd ((Fr.below (Y:=fun b=>b=g) hb1).setc (g:=g) (i:=2) (u:=.int .i64 ((a+1:Nat):Int)) (.inl rfl));rw [hcast] at hG;unfold RrA at hF;rw [hcast] at hF;clear h1 hb1;go_wp2;go_ret;exact ⟨rfl,by unfold RrA;rw [hcast];exact hF.out,hG.out⟩
theorem qds (g a:Nat) (s:ByteArray) (nv:Value) (z:Int) (w:World) (h:RrA w g s nv a 0) (ha:a<=s.size) (hs:s.size<=281474976710656) (hn:nxtB (tl s a) z=false) :
  Calls Tryz.prog 64 #[.pointer (some ⟨g,0,none⟩),.int .u8 z] w fun u w'=>u=.returned (.bool false)/\Below w.heap.size w w':=by
 have CP:=qtd g a s nv z w h ha hs;rw [hn] at CP;replace CP:=Hd CP;clear h hn;go_enter Tryz.func64,Tryz.ntmps64;go_wp2_with fail;refine CP.out.mono ?_;rintro e w1 ⟨rfl,hb1⟩;go_wp2;go_ret;exact ⟨rfl,hb1⟩
theorem qe5 (g a:Nat) (s:ByteArray) (nv:Value) (e0 z:Int) (w:World) (h:RrA w g s nv a e0) (h0:e0≠0) :
  Calls Tryz.prog 64 #[.pointer (some ⟨g,0,none⟩),.int .u8 z] w fun u w'=>u=.returned (.bool false)/\Below w.heap.size w w':=by
 have CP:=Hd (qaj0 g a s nv e0 z w h h0);clear h h0;go_enter Tryz.func64,Tryz.ntmps64;go_wp2_with fail;refine CP.out.mono ?_;rintro e w1 ⟨rfl,hb1⟩;go_wp2;go_ret;exact ⟨rfl,hb1⟩
theorem qiz {α β:Type} {w:World} {g:Nat} {s:ByteArray} {nv:Value} {l:List UInt8} (h:StGr w g s nv (lost (α:=α) l)):StGr w g s nv (lost (α:=β) l):=by
 unfold lost at h ⊢
 split <;> simp_all [StGr]
theorem qxs (g a:Nat) (s:ByteArray) (nv:Value) (c:UInt8) (z:Int) (hz:(c.toNat:Int)=z) (w:World) (h:RrA w g s nv a 0) (ha:a<=s.size) (hs:s.size<=281474976710656) :
  Calls Tryz.prog 68 #[.pointer (some ⟨g,0,none⟩),.int .u8 z] w fun u w'=>u=.returned (.tuple #[])/\StGr w' g s nv (eatG c (tl s a))/\Fg g w w':=by
 have hne:=qb3 (tl s a) c hz;have CR:=Hd (fun W (hW:Below w.heap.size w W)=>qik g a s nv W (h.below hW) ha hs);obtain ⟨bp,hbp⟩:∃ b,nxtB (tl s a) z=b:=⟨_,rfl⟩
 rw [hbp] at hne
 cases bp
 ·
  have hE:eatG c (tl s a)=lost (tl s a):=by unfold eatG;rw [if_neg (by simpa using hne.symm)]
  rw [hE];have CT:=Hd (qds g a s nv z w h ha hs hbp);clear h hbp hne hE hz;go_enter Tryz.func68,Tryz.ntmps68;go_wp2_with fail;refine CT.out.mono ?_;rintro e w0 ⟨rfl,hb0⟩;go_wp2_with fail;refine (CR.out w0 hb0).mono ?_;rintro e w1 ⟨rfl,h1,hf⟩;go_wp2
  first | go_end0 | ((try simp only [Exit.inBlock,Exit.then]);refine bodyPost_ret (results_none rfl _ _ _) rfl ?_)
  exact ⟨rfl,qiz h1,(Fr.below hb0).trans hf⟩
 ·
  have hn0:(tl s a)[0]? = some c:=by simpa using hne.symm
  have hlt:a<s.size:=by
   apply Nat.lt_of_not_le;intro hle;rw [qbn hle] at hn0
   cases hn0
  have hE:eatG c (tl s a)=.ok () (tl s (a+1)):=by unfold eatG;rw [if_pos hn0,qbi]
  rw [hE];have CT:=Hd (qdt g a s nv z w h ha hs hbp);clear h hbp hne hE hz hn0 CR;go_enter Tryz.func68,Tryz.ntmps68;go_wp2_with fail;refine CT.out.mono ?_;rintro e w1 ⟨rfl,h1,hf⟩;go_wp2
  first | go_end0 | ((try simp only [Exit.inBlock,Exit.then]);refine bodyPost_ret (results_none rfl _ _ _) rfl ?_)
  exact ⟨rfl,⟨a+1,by omega,rfl,h1⟩,hf⟩
theorem qy6 (g a:Nat) (s:ByteArray) (nv:Value) (z e0:Int) (w:World) (h:RrA w g s nv a e0) (h0:e0≠0) :
  Calls Tryz.prog 68 #[.pointer (some ⟨g,0,none⟩),.int .u8 z] w fun u w'=>u=.returned (.tuple #[])/\Below w.heap.size w w':=by
 have CT:=Hd (qe5 g a s nv e0 z w h h0);have CR:=Hd (fun W (hW:Below w.heap.size w W)=>qvy g a s nv e0 W (h.below hW) h0);clear h h0;go_enter Tryz.func68,Tryz.ntmps68;go_wp2_with fail;refine CT.out.mono ?_;rintro e w1 ⟨rfl,hb1⟩;go_wp2_with fail;refine (CR.out w1 hb1).mono ?_;rintro e w2 ⟨rfl,hb2⟩;go_wp2
 first | go_end0 | ((try simp only [Exit.inBlock,Exit.then]);refine bodyPost_ret (results_none rfl _ _ _) rfl ?_)
 exact ⟨rfl,bth hb1 hb2⟩
section
variable {P : Program} {ops : Array Oper} {Q : Exit -> Act -> World -> Prop} {md : Region.Mode} {S : World -> Prop}
def wpPre (P:Program) (ops:Array Oper) (S:World->Prop) (K:Act->World->Prop):List Nat->Act->World->Prop
 | [],a,w=>K a w
 | i :: r,a,w=>match opAt ops i with
  | none=>False
  | some o=>if Region.wanted o (yielded ops a.tmps)=true then ∃ v,(∀ w',S w'->(execOp a.eval o).run P w'=.ok (.value v) w')/\wpPre P ops S K r (a.put o.dst v) w
   else wpPre P ops S K r (a.put o.dst undef) w
attribute [irreducible] wpPre
end
theorem getD_set_ne {l:Array Bool} {i j:Nat} (h:i≠j):(l.setIfInBounds i true).getD j false=l.getD j false:=by
 simp [Array.getD_eq_getD_getElem?,h]
theorem zz70 {P:Prop} (h:P:=by
 replace hk1:=Hd hk1;go_wp2;refine wrx (S:=(fun W=>Below wr.heap.size wr W)) [(0,.q),(3,.q),(4,.q),(5,.q),(6,.q),(7,.q),(1,.l),(2,.l),(8,.t),(9,.t),(10,.p)] (s0) ?_
 iterate 6 (refine qab rfl rfl fun K hK=>xq ?_;go_simp;refine hK _ _ ?_;clear hK K)
 refine qal rfl rfl (fun K hK=>?_);go_simp;refine (CO10.out wr.drew).mono ?_;rintro e wa ⟨a1,c1,rfl,h1,hb1⟩;dsimp only;refine hK.out _ _ (s0.trans (hb1.mono s0.size)) (fun _=>?_);clear hK K;have s1:=s0.trans (hb1.mono s0.size);refine qal rfl rfl (fun K hK=>?_);go_simp;refine (key.out wa a1 c1 s1 (h1 wa (New.refl _ _))).mono ?_;rintro e wb ⟨a2,c2,rfl,h2,hb2⟩;dsimp only;refine hK.out _ _ (s1.trans (hb2.mono s1.size)) (fun _=>?_);clear hK K;have s2:=s1.trans (hb2.mono s1.size);have h2k:=Hd (fun W (hW:Below wb.heap.size wb W)=>(h2 wb (New.refl _ _)).ext (xbw hW));refine qam rfl rfl (fun K hK=>?_);go_simp;refine (hd10.out wb).mono ?_;rintro e wc ⟨a3,c3,rfl,h3,hb3⟩;dsimp only;refine hK.out _ _ ?_;clear hK K;have s3:=s2.trans (hb3.mono s2.size);refine qam rfl rfl (fun K hK=>?_);go_simp;refine (key2.out wc a2 a3 c2 c3 (h2k.out wc hb3) (h3 wc (New.refl _ _))).mono ?_
 rintro e wd ⟨a4,c4,rfl,h4,hb4⟩;dsimp only;refine hK.out _ _ ?_;clear hK K;have s4:=s3.trans (hb4.mono s3.size)
 iterate 1 (refine qae rfl rfl fun K hK=>xp ?_;go_simp;refine hK _ _ ?_;clear hK K)
 refine qac ?_;have hw4:=Hd (bth hwr s4);have h4':=Hd (fun V (hV:New w.heap.size wd V)=>h4 V (hV.base (Nat.le_trans hwr.size s3.size)));clear h1 h2 h3 h4 h2k hb1 hb2 hb3 hb4 s0 s1 s2 s3 s4 key key2 hd10 CO10 hRr;go_wp2;go_roundg (gk-1)
 case rel=>exact ⟨k+1,a4,c4,by have:=hk.out;show _=_;omega,by rw [hNx.out],by go_num,by rw [hNx.out];exact h4'.out,hw4.out⟩
 case measure=>have:=hk.out;omega
 ):P:=h
theorem qsj (s:ByteArray) (w:World) (h0:0<s.size) (hd:∀ c∈s.data.toList,digU c=true) (hl:s.size=1\/s.data.toList[0]? ≠ some 48) :
  Calls Tryz.prog 203 #[.string s] w (if 1000<s.size then RetNE [] 4 w else RetNE (limbs (decL s.data.toList)) 0 w):=by
 have hse:(s.toList==[])=false:=by
  rw [qa6,beq_eq_false_iff_ne];intro e;have:s.data.toList.length=s.size:=Array.length_toList;rw [e] at this;simp at this
  omega
 have hsl:s.data.toList.length=s.size:=Array.length_toList;by_cases hbig:1000<s.size
 ·
  rw [if_pos hbig];have d1:decide (1000<s.size)=true:=decide_eq_true hbig;clear hd hl;go_enter Tryz.func203,Tryz.ntmps203;go_wp2;go_ret2;exact ⟨none,0,rfl,fun _ _=>SlR.nil,Below.refl _ _⟩
 rw [if_neg hbig];have d1:decide (1000<s.size)=false:=decide_eq_false hbig;have hsz:s.size<=1000:=by omega
 have hdig:∀ k (h:k<s.size),∃ d:Nat,d<=9/\(s[k]'h).toNat=48+d/\decL (s.data.toList.take (k+1))=decL (s.data.toList.take k)*10+d:=fun k h=>by
  have hg:=qda h;have hx:=hd _ (List.mem_of_getElem? hg);unfold digU digV at hx;rw [decide_eq_true_eq] at hx;refine ⟨(s[k]'h).toNat-48,by omega,by omega,?_⟩;rw [qbc hg,qjj,Nat.mul_comm]
 have hlim:∀ k,(limbs (decL (s.data.toList.take k))).length<=1000:=fun k=>by
  have:=qfs (l:=s.data.toList.take k) fun c hc=>hd c (List.mem_of_mem_take hc)
  rw [List.length_take] at this
  omega
 have h48:∀ (h:1<s.size),((s[0]'h0).toNat:Int)≠48:=fun h e=>by
  rcases hl with hl | hl
  · omega
  ·
   have hg:=qda h0;refine hl (hg.trans (congrArg some (UInt8.toNat_inj.1 ?_)));have:(48:UInt8).toNat=48:=rfl
   omega
 have CO:∀ n:Nat,n<18446744073709551616->∀ W,Calls Tryz.prog 58 #[.int .u64 n] W (RetN (limbs n) W):=fun n hn W=>qbs n W hn
 have hend:decL (s.data.toList.take s.size)=decL s.data.toList:=by rw [List.take_of_length_le (by omega)]
 replace CO:=Hd CO;replace hdig:=Hd hdig;replace hlim:=Hd hlim;replace h48:=Hd h48;replace hend:=Hd hend;clear hd hl hbig hsl;go_enter Tryz.func203,Tryz.ntmps203;go_wp2
 go_loopg [4,5] s.size (fun gk o i wr=>∃ (k:Nat) (a:Option Addr) (c:Nat),Hid (k+gk=s.size)/\o=.slice a (limbs (decL (s.data.toList.take k))).length c/\i=.int .i64 k/\Hid (∀ V,New w.heap.size wr V->NatR V a c (limbs (decL (s.data.toList.take k))))/\Below w.heap.size w wr)
 case atStart=>exact ⟨0,none,0,by show _=_;omega,by simp [decL,qai],rfl,(fun V _=>by simp only [List.take_zero];rw [show decL []=0 from rfl,qai];exact SlR.nil),Below.refl _ _⟩
 case round =>
  obtain ⟨k,a,c,hk,rfl,rfl,hR,hwr⟩:=hrel;by_cases hlt:k<s.size
  ·
   obtain ⟨d,hd9,hyd,hnx⟩:=hdig.out k hlt;obtain ⟨y,hy⟩:∃ y:Nat,(s[k]'hlt).toNat=y:=⟨_,rfl⟩
   rw [hy] at hyd;subst hyd;have hlm:=hlim.out k;obtain ⟨n,hn⟩:∃ n,decL (s.data.toList.take k)=n:=⟨_,rfl⟩
   rw [hn] at hnx hlm hR ⊢;have hy48:¬ (((48+d:Nat):Int)<48):=by omega
   have hy57:¬ (57<((48+d:Nat):Int)):=by omega
   have dy1:decide (((48+d:Nat):Int)<48)=false:=decide_eq_false hy48;have dy2:decide (57<((48+d:Nat):Int))=false:=decide_eq_false hy57;have dy3:decide (48+d<48)=false:=by rw [decide_eq_false_iff_not];omega
   have dy4:decide (57<48+d)=false:=by rw [decide_eq_false_iff_not];omega
   have hsub:((48+d:Nat):Int)-48=(d:Int):=by omega
   have hsub2:48+(d:Int)-48=(d:Int):=by omega
   have hw8:IntKind.u8.wrap (d:Int)=(d:Int):=by rw [IntKind.wrap_u8];omega
   have hw64:IntKind.u64.wrap (d:Int)=(d:Int):=by rw [IntKind.wrap_u64];omega
   have hd10:=CO.out d (by omega);have CO10:=CO.out 10 (by omega);have hln:=Hd hlm;have hRr:=Hd (fun W (hW:Below wr.heap.size wr W)=>(hR.out wr (New.refl _ _)).ext (xbw hW));have hNx:=Hd hnx;replace hd10:=Hd hd10;replace CO10:=Hd CO10;have s0:Below wr.heap.size wr wr.drew:=brf.drew;obtain ⟨T,hT⟩:∃ T,(limbs n).length=T:=⟨_,rfl⟩
   have hT':=Hd hT;rw [hT];clear hnx hlm hn hR hdig hlim hT CO;have key:∀ W1 (a1:Option Addr) (c1:Nat),Below wr.heap.size wr W1->NatR W1 a1 c1 (limbs 10)->Calls Tryz.prog 165 #[.slice a T c,.slice a1 (limbs 10).length c1] W1 (RetN (limbs (n*10)) W1):=fun W1 a1 c1 hW h1=>by
    have:=qfr (limbs n) (limbs 10) n 10 a a1 c c1 W1 (hRr.out W1 hW) h1 (qaa _) (qaa _) (by have:=hln.out;omega) (Nat.le_trans (qan (show 10<65536 ^ 1 by decide)) (by decide));rw [hT'.out] at this;exact this
   have key2:∀ W2 (a2 a3:Option Addr) (c2 c3:Nat),NatR W2 a2 c2 (limbs (n*10))->NatR W2 a3 c3 (limbs d)->Calls Tryz.prog 115 #[.slice a2 (limbs (n*10)).length c2,.slice a3 (limbs d).length c3] W2 (RetN (limbs (n*10+d)) W2):=fun W2 a2 a3 c2 c3 h1 h2 =>
    qjz (limbs (n*10)) (limbs d) (n*10) d a2 a3 c2 c3 W2 h1 h2 (qaa _) (qaa _) (by
     have:(limbs (n*10)).length<=(limbs n).length+1:=qan (by
      rw [Nat.pow_succ];exact Nat.mul_lt_mul'' (qa0 n) (by decide))
     have:=hln.out
     omega) (by
     have:(limbs d).length<=1:=qan (by omega)
     omega)
   replace key:=Hd key;replace key2:=Hd key2;by_cases hk1:k=1
   ·
    have k1:((k:Int)==1)=true:=by rw [beq_iff_eq];omega
    have k2:(k==1)=true:=by rw [beq_iff_eq];exact hk1
    have z48:((((s[0]'h0).toNat:Int))==48)=false:=by rw [beq_eq_false_iff_ne];exact h48.out (by omega)
    exact zz70
   ·
    have k1:((k:Int)==1)=false:=by rw [beq_eq_false_iff_ne];omega
    have k2:(k==1)=false:=by rw [beq_eq_false_iff_ne];exact hk1
    exact zz70
  ·
   have hkl:k=s.size:=by have:=hk.out;omega
   subst hkl;rw [hend.out] at hR ⊢;clear CO hdig hlim h48;go_wp2;go_ret2;exact ⟨a,c,rfl,hR.out,hwr⟩
theorem qr3 (l:List Int) (n:Nat) (a:Option Addr) (c:Nat) (w:World) (h:NatR w a c l) (hn:val l=n) (hl:l.length<=16777216) :
  Calls Tryz.prog 169 #[.slice a l.length c] w fun e w'=>Below w.heap.size w w'/\(n<18446744073709551616->e=.returned (.tuple #[.int .u64 n,.bool true]))/\(18446744073709551616<=n->e=.returned (.tuple #[.int .u64 0,.bool false])):=by
 have CN:=qbf l a c w h hl;rw [hn] at CN;have hlen:(limbs n).length<=4↔n<18446744073709551616:=by
  constructor
  ·
   intro h;have h1:=qa0 n;have h2:65536 ^ (limbs n).length<=65536 ^ 4:=Nat.pow_le_pow_right (by decide) h
   omega
  ·
   intro h;exact qan (by omega)
 replace CN:=Hd CN;obtain ⟨T,hT⟩:∃ T,limbs n=T:=⟨_,rfl⟩
 have hv:val T=n:=by rw [<- hT,qaa]
 rw [hT] at CN hlen;have hv':=Hd hv;clear h hn hT hv;by_cases hb:n<18446744073709551616
 ·
  have h4:=hlen.2 hb;have d4:decide (4<T.length)=false:=by rw [decide_eq_false_iff_not];omega
  have hb':=Hd hb;clear hlen hb;go_enter Tryz.func169,Tryz.ntmps169;go_wp2_with fail;refine CN.out.mono ?_;rintro e w1 ⟨a1,c1,rfl,h1,hb1⟩;have CS:=qfj T a1 c1 w1 (h1 w1 (New.refl _ _)) (by rw [hv'.out];exact hb'.out);rw [hv'.out] at CS;replace CS:=Hd CS;clear h1 CN;go_wp2_with fail;refine CS.out.mono ?_;rintro e w2 ⟨rfl,rfl⟩;go_wp2;go_ret2;exact ⟨hb1,fun _=>rfl,fun h=>absurd hb'.out (by omega)⟩
 ·
  have h4:¬ T.length<=4:=fun h=>hb (hlen.1 h)
  have d4:decide (4<T.length)=true:=by rw [decide_eq_true_iff];omega
  have hb':=Hd hb;clear hlen hb;go_enter Tryz.func169,Tryz.ntmps169;go_wp2_with fail;refine CN.out.mono ?_;rintro e w1 ⟨a1,c1,rfl,h1,hb1⟩;clear h1 CN;go_wp2;go_ret2;exact ⟨hb1,fun h=>absurd h hb'.out,fun _=>rfl⟩
end Go.Proofs.YtnilkimcdgmgkaaGreatDoor
