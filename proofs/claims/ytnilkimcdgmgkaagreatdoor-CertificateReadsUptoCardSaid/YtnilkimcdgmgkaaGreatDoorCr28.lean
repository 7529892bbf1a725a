/- The row of CertificateReads and its card: for each input the call returns true, and each argument reads behind the call as it read before. The row lists tables and errors of Go's library as its text lays them. Condition: the arguments hold together at most 1048576 values and letters. -/
import Derived.Test.YtnilkimcdgmgkaaGreatDoorCr20
import Derived.Test.YtnilkimcdgmgkaaGreatDoorCr25
import Derived.Test.YtnilkimcdgmgkaaGreatDoorCr21
import Derived.Test.YtnilkimcdgmgkaaGreatDoorCr27
import Derived.Test.YtnilkimcdgmgkaaGreatDoorCr9
import Derived.Test.YtnilkimcdgmgkaaGreatDoorCr1
import Derived.LoopTactic
import Derived.Deep.LoopGhost
import Derived.JoinedCond
import Derived.Test.YtnilkimcdgmgkaaGreatDoorCards
import Derived.Test.YtnilkimcdgmgkaaGreatDoorTie
import Derived.ChangeMaps5
import Derived.WalkKit
import Derived.ProofKit
import Derived.OpenShut
import Derived.Deep.DeepHandedRow
import Derived.Lib.LaidTab
import Derived.Lay
set_option linter.all false
set_option maxRecDepth 100000
set_option maxHeartbeats 4000000
namespace Go.Proofs.YtnilkimcdgmgkaaGreatDoor
open Go.RowKit
theorem qi7 (l:List (List Trm)) (a b:Option Addr) (ca cb:Nat) (w:World) (h:qdh w a ca l) (h':qdh w b cb l) (hp:∀ p∈l,polyB p=true) (hq:∀ p∈l,FewT p) :
  Calls Tryz.prog 13 #[.slice a l.length ca,.slice b l.length cb] w fun e w'=>e=.returned (.bool true)/\Below w.heap.size w w':=by
 have HA:=Hd (fun W (hW:Below w.heap.size w W)=>h.ext (xbw hW));have HB:=Hd (fun W (hW:Below w.heap.size w W)=>h'.ext (xbw hW));have HP:=Hd hp;have HQ:=Hd hq;have ll:l.length<=9223372036854775807:=by have:=h.1;have:=h.2.1;unfold maxLen at this;omega
 have hb0:=Below.refl w.heap.size w;clear h h' hp hq;go_enter Tryz.func13,Tryz.ntmps13;go_wp2
 go_loopg [5,13] l.length (fun gk _ s13 wr=>∃ k:Nat,Hid (k+gk=l.length)/\s13=.int .i64 k/\Below w.heap.size w wr)
 case atStart=>exact ⟨0,by show _=_;omega,rfl,hb0⟩
 case round =>
  clear hb0;obtain ⟨k,hk,rfl,hwr⟩:=hrel;by_cases hlt:k<l.length
  ·
   obtain ⟨p,hpk⟩:=qad hlt;have hpm:=List.mem_of_getElem? hpk;obtain ⟨b1,o1,rfl,a1,c1,z1,hR1⟩:=(HA.out wr hwr).2.2 k p hpk;obtain ⟨b2,o2,rfl,a2,c2,z2,hR2⟩:=(HB.out wr hwr).2.2 k p hpk;simp only [Nat.mul_one] at z1 z2;have HR1:=Hd (fun W (hW:Below wr.heap.size wr W)=>hR1.ext (xbw hW));have HR2:=Hd (fun W (hW:Below wr.heap.size wr W)=>hR2.ext (xbw hW));have hpb:=HP.out p hpm;have hpf:=HQ.out p hpm;have CR:=fun W (hW:Below wr.heap.size wr W)=>qnk p a1 c1 W (HR1.out W hW) (fun t ht=>by have:=hpf t ht;omega)
   rw [hpb] at CR;have CE:=Hd (fun W (hW:Below wr.heap.size wr W)=>qrw p p a1 a2 c1 c2 W (HR1.out W hW) (HR2.out W hW) hpb hpb hpf hpf);replace CR:=Hd CR;have s0:Below wr.heap.size wr wr.drew:=brf.drew;have y1:=held z1;have y2:=held z2;clear hR1 hR2 hpk hpm hpb hpf;go_wp2;refine wrx (S:=(fun W=>Below wr.heap.size wr W)) [(0,.q),(1,.q),(2,.q),(3,.q),(4,.l),(5,.q),(6,.q),(7,.q),(8,.q),(9,.q),(10,.q),(11,.q),(12,.q),(13,.q),(14,.q),(15,.t),(16,.p),(17,.p)] (s0) ?_
   iterate 4 (refine qab rfl rfl fun K hK=>xq ?_;go_simp;refine hK _ _ ?_;clear hK K)
   refine qal rfl rfl (fun K hK=>?_);go_simp;refine (CR.out wr.drew s0).mono ?_;rintro e wa ⟨rfl,hba⟩;dsimp only;refine hK.out _ _ (s0.trans (hba.mono s0.size)) (fun _=>?_);clear hK K;have s1:=s0.trans (hba.mono s0.size)
   iterate 10 (refine qab rfl rfl fun K hK=>xq ?_;go_simp;refine hK _ _ ?_;clear hK K)
   refine qam rfl rfl (fun K hK=>?_);go_simp;refine (CE.out wa s1).mono ?_;rintro e wb ⟨q,rfl,hqq,hbb⟩;dsimp only;refine hK.out _ _ ?_;clear hK K;obtain rfl:=hqq.2 (by trivial)
   iterate 2 (refine qae rfl rfl fun K hK=>xp ?_;go_simp;refine hK _ _ ?_;clear hK K)
   refine qac ?_;have hwb:=bth hwr (bth s1 hbb);clear y1 y2 z1 z2 hba hbb s0 s1 hqq CR CE;go_wp2;go_roundg (gk-1)
   case rel=>exact ⟨k+1,by have:=hk.out;show _=_;omega,by go_num,hwb⟩
   case measure=>have:=hk.out;omega
  ·
   have hkl:k=l.length:=by have:=hk.out;omega
   subst hkl;go_wp2;go_ret;exact ⟨rfl,hwr⟩
theorem qt6 (F C:List (List Trm)) (P:List Int) (n:Int) (fa wa ca fb wb cb:Option Addr) (fc wc cc fd wd cd:Nat) (w:World) (h1:qdh w fa fc F) (h2:IntsR w wa wc P) (h3:qdh w ca cc C) (k1:qdh w fb fd F) (k2:IntsR w wb wd P) (k3:qdh w cb cd C)
  (hF:∀ p∈F,polyB p=true/\FewT p) (hC:∀ p∈C,polyB p=true/\FewT p) :
  Calls Tryz.prog 6 #[.agg #[.slice fa F.length fc,.slice wa P.length wc,.int .i64 n,.slice ca C.length cc],.agg #[.slice fb F.length fd,.slice wb P.length wd,.int .i64 n,.slice cb C.length cd]] w fun e w'=>e=.returned (.bool true)/\Below w.heap.size w w':=by
 have CF:=Hd (fun W (hW:Below w.heap.size w W)=>qi7 F fa fb fc fd W (h1.ext (xbw hW)) (k1.ext (xbw hW)) (fun p hp=>(hF p hp).1) (fun p hp=>(hF p hp).2));have CC:=Hd (fun W (hW:Below w.heap.size w W)=>qi7 C ca cb cc cd W (h3.ext (xbw hW)) (k3.ext (xbw hW)) (fun p hp=>(hC p hp).1) (fun p hp=>(hC p hp).2));have HP:=Hd (fun W (hW:Below w.heap.size w W)=>h2.ext (xbw hW));have HQ:=Hd (fun W (hW:Below w.heap.size w W)=>k2.ext (xbw hW));have ll:P.length<=9223372036854775807:=by have:=h2.1;have:=h2.2.1;unfold maxLen at this;omega
 clear h1 h2 h3 k1 k2 k3 hF hC;go_enter Tryz.func6,Tryz.ntmps6;go_wp2;refine qak (fun W=>Blk W w.heap.size 26 #[.slice fa F.length fc,.slice wa P.length wc,.int .i64 n,.slice ca C.length cc]/\Blk W (w.heap.size+1) 26 #[.slice fb F.length fd,.slice wb P.length wd,.int .i64 n,.slice cb C.length cd]/\Below w.heap.size w W) (by refine ⟨?_,?_,?_⟩<;>first|((with_reducible repeat first|assumption|(apply bF;focus omega)|apply bS|(apply bN;focus (simp;done))|apply bA|apply bD);all_goals rfl)|go_grown) ?_;rintro w0 ⟨hA,hB,hw0⟩;obtain ⟨ba,hba⟩:∃ q,w.heap.size=q:=⟨_,rfl⟩
 rw [hba] at hA hB ⊢;obtain ⟨bb,hbb⟩:∃ q,ba+1=q:=⟨_,rfl⟩
 rw [hbb] at hB ⊢;replace hba:=Hd hba;replace hbb:=Hd hbb
 go_loopg [5,23] P.length (fun gk _ s23 wr=>∃ k:Nat,Hid (k+gk=P.length)/\s23=.int .i64 k/\Hid (Blk wr ba 26 #[.slice fa F.length fc,.slice wa P.length wc,.int .i64 n,.slice ca C.length cc])/\Hid (Blk wr bb 26 #[.slice fb F.length fd,.slice wb P.length wd,.int .i64 n,.slice cb C.length cd])/\Below w.heap.size w wr)
 case atStart=>exact ⟨0,by show _=_;omega,rfl,hA,hB,hw0⟩
 case round =>
  clear hA hB hw0;obtain ⟨k,hk,rfl,hA,hB,hwr⟩:=hrel;obtain ⟨x0,x1⟩:=cq2 hA.out;have x3:=hA.out.cell 3;obtain ⟨y0,y1⟩:=cq2 hB.out;have y3:=hB.out.cell 3;have la:=hA.out.lt;have lb:=hB.out.lt;by_cases hlt:k<P.length
  ·
   obtain ⟨x,hx⟩:=qad hlt;obtain ⟨b1,o1,rfl,z1,_⟩:=(HP.out wr hwr).2.2 k x hx;obtain ⟨b2,o2,rfl,z2,_⟩:=(HQ.out wr hwr).2.2 k x hx;simp only [Nat.mul_one] at z1 z2;have hxx:(x != x)=false:=by simp
   have hA2:=Hd (hA.out.drew);have hB2:=Hd (hB.out.drew);clear hx;go_wp2;refine wrx (S:=(fun x=>x=wr.drew)) [(0,.q),(1,.q),(2,.q),(3,.q),(4,.q),(5,.q),(6,.q),(7,.q),(8,.q),(9,.q),(10,.p)] (rfl) ?_
   iterate 10 (refine qab rfl rfl fun K hK=>xq ?_;go_simp;refine hK _ _ ?_;clear hK K)
   iterate 1 (refine qae rfl rfl fun K hK=>xp ?_;go_simp;refine hK _ _ ?_;clear hK K)
   refine qac ?_;clear x0 x1 x3 y0 y1 y3 z1 z2 la lb hA hB;go_wp2;go_roundg (gk-1)
   case rel=>exact ⟨k+1,by have:=hk.out;show _=_;omega,by go_num,hA2.out,hB2.out,hwr.drew⟩
   case measure=>have:=hk.out;omega
  ·
   have hkl:k=P.length:=by have:=hk.out;omega
   subst hkl;go_wp2_with fail;refine (CF.out wr hwr).mono ?_;rintro e w1 ⟨rfl,hb1⟩;have x3':=(hA.out.below' hb1).cell 3;have y3':=(hB.out.below' hb1).cell 3;have la':=(hA.out.below' hb1).lt;have lb':=(hB.out.below' hb1).lt;have hw1:=bth hwr hb1;clear x0 x1 x3 y0 y1 y3 la lb;go_wp2_with fail;refine (CC.out w1 hw1).mono ?_;rintro e w2 ⟨rfl,hb2⟩;go_wp2;go_ret;exact ⟨rfl,bth hw1 hb2⟩
theorem qt8 {names:List ByteArray} {s:List UInt8} {c:CrQ} {k:Nat} {er:Int} (h:readQ names s=(c,k,er)) (hf:FineC c) :
  (∀ p∈c.F.map (·.map trmOf),polyB p=true/\FewT p)/\∀ p∈c.C.map (·.map trmOf),polyB p=true/\FewT p:=by
 by_cases he:er=0
 ·
  subst he;obtain ⟨_,⟨_,_,_,h4,h5⟩,_⟩:=qio h;refine ⟨fun p hp=>?_,fun p hp=>?_⟩
  ·
   obtain ⟨q,hq,rfl⟩:=List.mem_map.1 hp;exact ⟨qic (h4 q hq).2.1,qmk (hf q (.inl hq)).1⟩
  ·
   obtain ⟨q,hq,rfl⟩:=List.mem_map.1 hp;exact ⟨qic (h5 q hq).1,qmk (hf q (.inr hq)).1⟩
 ·
  obtain ⟨rfl,_⟩:=qx0 h he;exact ⟨fun p hp=>by simp [noQ] at hp,fun p hp=>by simp [noQ] at hp⟩
theorem qim (s:ByteArray) (names:List ByteArray) (na:Option Addr) (nc:Nat) (w:World) (hE:∀ W,Below w.heap.size w W->EnvC names na nc W) (hnz:∀ s∈names,s.size<=1048576) :
  Calls Tryz.prog 3 #[.string s,.slice na names.length nc] w fun e w'=>e=.returned (.bool true)/\Below w.heap.size w w':=by
 have hlN:=(hE w brf).1.len;have HE:=Hd hE;have HNZ:=Hd hnz;have hb0:=Below.refl w.heap.size w;clear hE hnz;by_cases h2:2000<s.size
 ·
  have d2:decide (2000<s.size)=true:=decide_eq_true h2;go_enter Tryz.func3,Tryz.ntmps3;go_wp2;go_ret;exact ⟨rfl,hb0⟩
 have d2:decide (2000<s.size)=false:=decide_eq_false h2;by_cases h8:8<names.length
 ·
  have d8:decide (8<names.length)=true:=decide_eq_true h8;go_enter Tryz.func3,Tryz.ntmps3;go_wp2;go_ret;exact ⟨rfl,hb0⟩
 have d8:decide (8<names.length)=false:=decide_eq_false h8;have hsl:s.data.toList.length=s.size:=Array.length_toList;have hW:=qr1 (names:=names) (s:=s.data.toList) (by omega);have CR:=qqf s names na nc w HE.out HNZ.out (by omega) (by omega) (by have:=(qer s.data.toList).2;omega) hW;have CD:=fun W (hW:Below w.heap.size w W)=>qtj s names na nc W (HE.out W hW).1 HNZ.out (by omega) (by omega)
 have hfine:=qty hW;have hgood:=fun c k er (e:readQ names s.data.toList=(c,k,er)) (h:FineC c)=>qt8 e h
 obtain ⟨R,hR⟩:∃ R,readQ names s.data.toList=R:=⟨_,rfl⟩
 rw [hR] at CR hfine;simp only [hR] at CD hgood;obtain ⟨c,k,er⟩:=R;obtain ⟨hgF,hgC⟩:=hgood c k er rfl hfine;replace CR:=Hd CR;replace CD:=Hd CD;replace hgF:=Hd hgF;replace hgC:=Hd hgC;clear hW hR hgood hfine hsl;go_enter Tryz.func3,Tryz.ntmps3;go_wp2_with fail;refine CR.out.mono ?_;rintro e w1 ⟨fb,wb,cb,fd,wd,cd,rfl,hb1,k1,k2,k3⟩;dsimp only at k1 k2 k3 ⊢;clear CR;have H1:=Hd (fun W (hW:Below w1.heap.size w1 W)=>k1.ext (xbw hW));have H2:=Hd (fun W (hW:Below w1.heap.size w1 W)=>k2.ext (xbw hW));have H3:=Hd (fun W (hW:Below w1.heap.size w1 W)=>k3.ext (xbw hW));clear k1 k2 k3;obtain ⟨nF,hnF⟩:∃ n,c.F.length=n:=⟨_,rfl⟩
 obtain ⟨nP,hnP⟩:∃ n,c.P.length=n:=⟨_,rfl⟩
 obtain ⟨nC,hnC⟩:∃ n,c.C.length=n:=⟨_,rfl⟩
 obtain ⟨nn,hnn⟩:∃ n,c.n=n:=⟨_,rfl⟩
 unfold RetCr at CD;dsimp only at CD;simp only [hnF,hnP,hnC,hnn] at CD ⊢;replace CD:=Hd CD.out;have hnF':=Hd hnF;have hnP':=Hd hnP;have hnC':=Hd hnC;clear hnF hnP hnC hnn;go_wp2_with fail;refine qah (fun W=>Blk W w1.heap.size 26 #[.slice fb nF fd,.slice wb nP wd,.int .i64 nn,.slice cb nC cd]/\Below w1.heap.size w1 W) ⟨by ((with_reducible repeat first|assumption|(apply bF;focus omega)|apply bS|(apply bN;focus (simp;done))|apply bA|apply bD);all_goals rfl),by go_grown⟩ ?_;rintro w2 ⟨h2',hw2⟩;refine (CD.out w2 (bth hb1 hw2)).mono ?_;rintro e w3 ⟨fe,we,ce,fg,wg,cg,rfl,hb3,j1,j2,j3⟩;have hw3:=bth hw2 hb3;have h3':=h2'.below' hb3;have J1:=Hd (fun W (hW:Below w3.heap.size w3 W)=>j1.ext (xbw hW));have J2:=Hd (fun W (hW:Below w3.heap.size w3 W)=>j2.ext (xbw hW));have J3:=Hd (fun W (hW:Below w3.heap.size w3 W)=>j3.ext (xbw hW));obtain ⟨x0,x1,x2,x3⟩:=cq4 h3';have hl:=h3'.lt
 have CS:=Hd (fun W (hW:Below w3.heap.size w3 W)=>qt6 (c.F.map (·.map trmOf)) (c.C.map (·.map trmOf)) c.P nn fb wb cb fe we ce fd wd cd fg wg cg W (H1.out W (bth hw3 hW)) (H2.out W (bth hw3 hW)) (H3.out W (bth hw3 hW)) (J1.out W hW) (J2.out W hW) (J3.out W hW) hgF.out hgC.out);simp only [List.length_map,hnF'.out,hnP'.out,hnC'.out] at CS;clear CD h2' hw2 j1 j2 j3;have hw3':=Hd hw3;have h3'':=Hd h3';clear hb3 hw3 h3';go_wp2_with fail;refine qah (fun W=>Below w3.heap.size w3 W) (brf.alloc (nlr _) _) ?_;rintro w4 hw4;refine (CS.out w4 hw4).mono ?_;rintro e w5 ⟨rfl,hb5⟩;clear CS x0 x1 x2 x3 hl;go_wp2;go_ret;exact ⟨rfl,bth hb1 (bth hw3'.out (bth hw4 hb5))⟩
end Go.Proofs.YtnilkimcdgmgkaaGreatDoor
namespace Go.Proofs.YtnilkimcdgmgkaaGreatDoor
open Go.ChangeShapes Go.WideShapes Go.ChangeAt Go.RowKit
section
variable {H : Type} {enc : TypeId × Value -> H} {W : World} {sp : Nat -> Bool} {held : Bool}
theorem qui {r:Reach} {b0:Nat} {v:Value} {d:DataW H} {p:List MemPlace} (hv:Value.okWide Tryz.prog W r b0 22 v) (h:DataW.Trod enc Tryz.prog W 0 sp held 22 v d p) :
  ∃ (l:List ByteArray) (a:Option Addr) (c:Nat),v=.slice a l.length c/\StrsR W a c l/\(l.map fun s=>s.size+1).sum+1<=Rows.uptoBulk d:=by
 obtain ⟨n,hn⟩:=h;obtain ⟨a,c,zs,h1,h2,h3⟩:=qux hn;obtain ⟨a',l',c',rfl⟩:=okWide_slice Tryz.underlying22 hv;refine ⟨zs,a,c,?_,h2,h3⟩;simpa [Value.cells] using h1
end
theorem qaf0 {l:List ByteArray} {m:Nat} (h:(l.map fun s=>s.size+1).sum<=m):∀ s∈l,s.size<=m:=by
 induction l generalizing m with
 | nil=>intro s hs;cases hs
 | cons x r ih =>
  intro s hs;rw [List.map_cons,List.sum_cons] at h;rcases List.mem_cons.1 hs with rfl | hs
  · omega
  · exact Nat.le_trans (ih (nlr _) s hs) (by omega)
end Go.Proofs.YtnilkimcdgmgkaaGreatDoor
namespace Go.Proofs.YtnilkimcdgmgkaaGreatDoor
open Go.RowKit Go.WideShapes Go.ChangeAt
theorem qi3 {s:ByteArray} {u:Value} {w:World} {m:Nat} (h':InS30 w u m) (hm:m<=1048576) (hM:MaxL w) (he:ErrW w) (hy:ErrS w) (ht:TabW w) :
  Calls Tryz.prog 3 #[.string s,u] w fun r w'=>r=.returned (.bool true)/\Below w.heap.size w w':=by
 obtain ⟨l,a,c,rfl,h5,h6⟩:=h';exact qim s l a c w (qaf7 h5 hM he hy ht) (qaf0 (by omega))
end Go.Proofs.YtnilkimcdgmgkaaGreatDoor
namespace Go.Proofs.YtnilkimcdgmgkaaGreatDoor
open Go.ChangeShapes Go.WideShapes Go.ChangeAt Go.RowKit
theorem qpe {H:Type} {enc:TypeId × Value->H} {P:Program} (hl:laidOutB P=true) {W W':World} (hB:Below W.heap.size W W') :
  ∀ (ts:List TypeId) (vs:List Value) (ds:List (DataW H)) (p:List MemPlace),(ts.all fun t=>P.readableRec t&&decide (t<P.types.size))=true ->
   (∀ x∈p,x.block<W.heap.size)->DataW.TrodAll enc P W 0 (fun _=>true) true ts vs ds p->DataW.TrodAll enc P W' 0 (fun b=>decide (b<W.heap.size)) true ts vs ds p:=by
 intro ts
 induction ts with
 | nil=>intro vs ds p _ _ h;cases vs <;> cases ds <;> first | exact h | exact h.elim
 | cons t ts ih =>
  intro vs ds p ha hp h
  cases vs with
  | nil=>exact h.elim
  | cons v vs =>
   cases ds with
   | nil=>exact h.elim
   | cons d ds =>
    obtain ⟨p1,q1,h1,h2,rfl⟩:=h;simp only [List.all_cons,Bool.and_eq_true,decide_eq_true_eq] at ha;exact ⟨p1,q1,Below.trod hl ha.1.1 ha.1.2 h1 hB (fun x hx=>hp x (by simp [hx])),ih vs ds q1 ha.2 (fun x hx=>hp x (by simp [hx])) h2,rfl⟩
theorem qac6 {H:Type} {enc:TypeId × Value->H} {P:Program} {f:Func} {s:ChangeSpec} {W W':World} {args:Array Value} {ds gs:List (DataW H)} {before:List MemPlace} {tb:TypeId}
  (hl:laidOutB P=true) (hts:(f.params.toList.all fun t=>P.readableRec t&&decide (t<P.types.size))=true) (hr:f.resultTypes=#[tb]) (hb:P.underlying tb=some .bool) (hv:s.vars=[])
  (hW:DataW.Whole enc P f.params.toList s.vars false W args.toList ds gs before) (hfn:s.fn H (ds++gs)={ results:=[.lit (.bool true)],args:=ds,vars:=[] })
  (hB:Below W.heap.size W W'):s.post enc P f false true false false W args (.bool true) W':=by
 have hlt:=hW.lt;have hW0:=hW;obtain ⟨p,q,hA,hV,rfl,_,_⟩:=hW;rw [hv] at hV;obtain ⟨rfl,rfl⟩:=trodVars_none hV;refine ⟨ds,_,_,[],p,[],hW0,?_,?_,?_,hB.frame _,fun h=>by cases h⟩
 ·
  rw [hfn,hr];exact trodAll_mk1 (shut_bool hb true)
 ·
  rw [hfn];exact qpe hl hB _ _ _ _ hts (fun x hx=>by simpa using hlt x (by simp [hx])) hA
 ·
  rw [hfn,hv]
  rfl
end Go.Proofs.YtnilkimcdgmgkaaGreatDoor
namespace Go.Proofs.YtnilkimcdgmgkaaGreatDoor.certificateReadsUpto
open Go.ChangeShapes Go.WideShapes Go.ChangeAt Go.RowKit
set_option linter.unusedVariables false
theorem own:ownKnob Tryz.prog.godebug=none:=by kernel_rfl
theorem laidOut:laidOutB Tryz.prog=true:=by kernel_rfl
theorem readable:(Tryz.f3.params.toList.all fun t=>Tryz.prog.readableRec t&&decide (t<Tryz.prog.types.size))=true:=by kernel_rfl
theorem table {W:World} (h:laidMetH Tryz.prog Rows.certificateReadsUptoRow.laid W):TabW W:=by
 obtain ⟨ps,⟨_,_,_,_,_,_,_,_,_,_,h1,_⟩,_⟩:=(show laidMet Tryz.prog Rows.certificateReadsUptoRow.laid W from h)
 obtain ⟨_,_,_,_,_,_,_,_,_,_,h2,_⟩:=h1;obtain ⟨g',t',cs,fuel,p,q,hg',ht',hvar,hd,_,_⟩:=h2;obtain rfl := Option.some.inj ((show Tryz.prog.globalNamed "internal/strconv.uint64pow10" = some 5 by kernel_rfl).symm.trans hg');obtain rfl:=Option.some.inj ((show (Tryz.prog.globals[5]?).map (·.type)=some 202 by kernel_rfl).symm.trans ht');unfold TabW Lib.TabIs;rw [hvar,<- Lib.cells_of_tab (zs:=Lib.pow10Tab) (k:=.u64) Tryz.underlying202 Tryz.underlying108 (by kernel_rfl) (by kernel_rfl) hd]
theorem errw {W:World} (h:laidMetH Tryz.prog Rows.certificateReadsUptoRow.laid W):ErrW W:=by
 obtain ⟨ps,⟨_,_,_,_,_,_,_,_,_,_,h1,_⟩,_⟩:=(show laidMet Tryz.prog Rows.certificateReadsUptoRow.laid W from h)
 obtain ⟨_,_,_,_,_,_,_,_,_,_,h2,_⟩:=h1;obtain ⟨_,_,_,_,_,_,_,_,_,_,h3,_⟩:=h2;obtain ⟨_,_,_,_,_,_,_,_,_,_,h4,_⟩:=h3;obtain ⟨g',t',cs,fuel,p,q,hg',ht',hvar,hd,_,_⟩:=h4;obtain rfl := Option.some.inj ((show Tryz.prog.globalNamed "strconv.ErrRange" = some 4 by kernel_rfl).symm.trans hg');obtain rfl:=Option.some.inj ((show (Tryz.prog.globals[4]?).map (·.type)=some 63 by kernel_rfl).symm.trans ht');obtain ⟨_, u, v, hcs, _, _⟩ := iface_of_trod (name := "*errors.errorString") Tryz.underlying63 hd;have h0:=World.var?_cell Tryz.lays172.m16 hvar 0;have h1:cs[0]? = some (.iface u v):=by rw [<- Array.getElem?_toList,hcs];rfl
 exact ⟨u,v,h0.trans h1⟩
theorem errs {W:World} (h:laidMetH Tryz.prog Rows.certificateReadsUptoRow.laid W):ErrS W:=by
 obtain ⟨ps,⟨_,_,_,_,_,_,_,_,_,_,h1,_⟩,_⟩:=(show laidMet Tryz.prog Rows.certificateReadsUptoRow.laid W from h)
 obtain ⟨_,_,_,_,_,_,_,_,_,_,h2,_⟩:=h1;obtain ⟨_,_,_,_,_,_,_,_,_,_,h3,_⟩:=h2;obtain ⟨_,_,_,_,_,_,_,_,_,_,h4,_⟩:=h3;obtain ⟨_,_,_,_,_,_,_,_,_,_,h5,_⟩:=h4;obtain ⟨g',t',cs,fuel,p,q,hg',ht',hvar,hd,_,_⟩:=h5;obtain rfl := Option.some.inj ((show Tryz.prog.globalNamed "strconv.ErrSyntax" = some 3 by kernel_rfl).symm.trans hg');obtain rfl:=Option.some.inj ((show (Tryz.prog.globals[3]?).map (·.type)=some 63 by kernel_rfl).symm.trans ht');obtain ⟨_, u, v, hcs, _, _⟩ := iface_of_trod (name := "*errors.errorString") Tryz.underlying63 hd;have h0:=World.var?_cell Tryz.lays172.m15 hvar 0;have h1:cs[0]? = some (.iface u v):=by rw [<- Array.getElem?_toList,hcs];rfl
 exact ⟨u,v,h0.trans h1⟩
theorem contract (H:Type) (enc:TypeId × Value->H) (W:World) (base:Nat) (args:Array Value) (ds gs:List (DataW H)) (before:List MemPlace)
  (hval:∀ (j:Nat) t v,Tryz.f3.params[j]? = some t->args[j]? = some v->Value.okWide Tryz.prog W .any base t v)
  (hW:DataW.Whole enc Tryz.prog Tryz.f3.params.toList Rows.certificateReadsSpec.vars false W args.toList ds gs before) (hk:Rows.uptoSmall H (ds++gs)=true) (hL:laidMetH Tryz.prog Rows.certificateReadsUptoRow.laid W) (hsh:W.ShapedOpen Tryz.prog) :
  Calls Tryz.prog 3 args W fun e W'=>∃ v,e=.returned v/\Rows.certificateReadsSpec.post enc Tryz.prog Tryz.f3 false true false false W args v W':=by
 have hW':=hW;obtain ⟨p,q,hA0,hV,rfl,hfz,hnd⟩:=hW;have hA:DataW.TrodAll enc Tryz.prog W 0 (fun _=>true) true Tryz.f3.params.toList args.toList ds p:=hA0;rw [Tryz.params3] at hA hval;obtain ⟨v0,vs0,d0,ds0,p0,q0,hargs,rfl,rfl,h0,r0⟩:=trodAll_cons hA;obtain ⟨v1,vs1,d1,ds1,p1,q1,rfl,rfl,rfl,h1,r1⟩:=trodAll_cons r0;obtain ⟨rfl,rfl,rfl⟩:=trodAll_nil r1;obtain rfl:args=#[v0,v1]:=by cases args;simp_all
 obtain ⟨rfl,rfl⟩:=trodVars_none hV;clear hA0 hA r0 r1;have hbulk:=of_decide_eq_true hk;simp only [List.cons_append,List.nil_append,Rows.uptoBulkAll] at hbulk;obtain ⟨a0,rfl,rfl,rfl,wa0⟩:=Go.ChangeMaps.open_string Tryz.underlying9 (hval 0 9 v0 rfl rfl) h0;have hx1:=qui (hval 1 22 v1 rfl rfl) h1;refine (qi3  hx1 (by omega) (MaxL.of hsh) (errw hL) (errs hL) (table hL)).mono fun e W' ⟨he,hg⟩=>?_
 subst he;exact ⟨_,rfl,qac6 laidOut readable (by kernel_rfl) Tryz.underlying4 rfl hW' (by rfl) hg⟩
noncomputable def laidWorld (os:Os):World:=World.laidAll Tryz.prog os Rows.certificateReadsUptoRow.laid
def wargs:Array Value:=#[.string ⟨#[]⟩,.slice none 0 0]
theorem laid_met (os:Os):laidMet Tryz.prog Rows.certificateReadsUptoRow.laid ((laidWorld os).forCall (fun _ _=>0) ⟨#[],wargs,[]⟩).memory :=
 laidMet_laidAll wargs (by kernel_rfl) (by kernel_rfl)
theorem reads (os:Os) {H:Type} (enc:TypeId × Value->H):∃ places,DataW.whole enc Tryz.prog ((laidWorld os).forCall (fun _ _=>0) ⟨#[],wargs,[]⟩).memory Tryz.f3.params.toList Rows.certificateReadsSpec.vars false wargs.toList 8=some ([.lit (.string []),.nil],[],places) :=
 ⟨[],by kernel_rfl⟩
theorem lifted (os:Os) (started:os.Started) (H:Type) (enc:TypeId × Value->H) (F:Stop.Interp) :
  ReturnsInHanded {} Tryz.checked os 3 .any ((Rows.OpenSpec.upto Rows.certificateReadsSpec).preRow enc Tryz.prog Tryz.f3 Rows.certificateReadsUptoRow.domain false Rows.certificateReadsUptoRow.laid) (((Rows.OpenSpec.upto Rows.certificateReadsSpec).at F).post enc Tryz.prog Tryz.f3 false true false false):=by
 obtain ⟨places,hx⟩:=reads os enc;refine returnsInHanded_of_row (C:=Tryz.checked) (s:=Rows.OpenSpec.upto Rows.certificateReadsSpec) own started (by kernel_rfl) Tryz.func3
  (witness_row_at (enc:=enc) (C:=Tryz.checked) false (laidWorld os) wargs (World.laidAll_os _ _ _) (by kernel_rfl) (by kernel_rfl) (by kernel_rfl)
   (OpenSpec.preRow_of_cond 8 hx (by kernel_rfl) (fun k hk=>by cases hk;kernel_rfl) (by kernel_rfl) (laid_met os))) ?_
 intro W base args ds gs before hval hW _ hcond _ hL hsh _;exact contract H enc W base args ds gs before hval hW (hcond _ rfl) hL hsh
theorem said:Rows.CertificateReadsUptoSaid :=
 OpenClaim.holds_of_cond 3 Tryz.f3 rfl rfl rfl rfl rfl rfl rfl ⟨rfl,rfl,rfl,rfl,rfl⟩ rfl rfl rfl rfl rfl (by kernel_rfl) Tryz.func3 (by kernel_rfl)
  (of_decide_eq_true (by kernel_rfl)) (by unfold Func.isWrapper;first | (rw [if_pos (by decide +kernel)];kernel_rfl) | (rw [if_neg (by decide +kernel)];exact ⟨rfl,rfl⟩))
  (fun os started H enc _ F=>by rw [OpenClaim.pre_eq_preRow];exact lifted os started H enc F)
theorem plain (f : FuncId) (fn : Func) (hf : Tryz.pinned.checked.prog.funcNamed "geoprover/geoproverlaw30.CertificateReads" = some f) (hfn : Tryz.pinned.checked.prog.funcs[f]? = some fn) :
  true=Tryz.pinned.checked.prog.looks []/\∀ (j:Nat) t,fn.params[j]? = some t->Tryz.pinned.checked.prog.wantsStandIn t=false:=by
 obtain rfl : f = 3 := Option.some.inj ((show Tryz.prog.funcNamed "geoprover/geoproverlaw30.CertificateReads" = some 3 by kernel_rfl).symm.trans hf) |>.symm
 obtain rfl:fn=Tryz.f3:=(Option.some.inj (Tryz.func3.symm.trans hfn)).symm;refine ⟨by kernel_rfl,fun j t ht=>?_⟩;rw [Tryz.params3] at ht;obtain rfl | rfl:t=9\/t=22:=by simpa using Array.mem_of_getElem? ht
 · exact (show Tryz.prog.wantsStandIn 9=false by kernel_rfl)
 · exact (show Tryz.prog.wantsStandIn 22=false by kernel_rfl)
theorem card:Rows.CertificateReadsUptoCardSaid :=
 Claim7.holds_tied_plain_at .later [] _ _ _ _ said (fun _ h=>by cases h) (by kernel_rfl) (fun _ h=>by cases h) certificateReadsUpto_row_tie rfl ⟨rfl,rfl⟩ (by kernel_rfl) rfl plain (by kernel_rfl)
#print axioms said
#print axioms card
end Go.Proofs.YtnilkimcdgmgkaaGreatDoor.certificateReadsUpto
