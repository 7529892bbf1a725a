/- Walk: R30.Read, whole. -/
import Derived.Test.YtnilkimcdgmgkaaGreatDoorCr26
import Derived.Test.YtnilkimcdgmgkaaGreatDoorCr15
import Derived.Test.YtnilkimcdgmgkaaGreatDoorCr20
import Derived.Test.YtnilkimcdgmgkaaGreatDoorCr13
import Derived.Test.YtnilkimcdgmgkaaGreatDoorCr19
set_option linter.all false
set_option maxRecDepth 100000
set_option maxHeartbeats 4000000
namespace Go.Proofs.YtnilkimcdgmgkaaGreatDoor
open Go.RowKit
theorem zz93 {P:Prop} (h:P:=by
 go_enter Tryz.func9,Tryz.ntmps9;go_wp2_with fail;refine CC.out.mono ?_;rintro e w1 ⟨rfl,hb1⟩;have hB1:=HB.out.below' hb1;have z5:=hB1.cell 5;have hl1:=hB1.lt;clear hB1;go_wp2;go_ret;exact qb6 hG (by decide) (hb1.mono hgw.out)
 ):P:=h
theorem qwt (g:Nat) (names:List ByteArray) (na:Option Addr) (nc:Nat) (s:ByteArray) (c:CrQ) (part m:Nat) (w:World) (hp:part=partQ c) (hst:CrSt g (.slice na names.length nc) m w c part) (hm:m<=16000000)
  (hE:∀ W,Below g w W->EnvC names na nc W) (hnz:∀ x∈names,x.size<=1048576) (hnl:names.length<=1000) (hs:s.size<4294967281) (hW:WokL names s.data.toList) :
  Calls Tryz.prog 9 #[.pointer (some ⟨g,0,none⟩),.string s] w (RetFa g (.slice na names.length nc) (m+1) (linP names part c s.data.toList) w):=by
 have hst0:=Hd hst;obtain ⟨fa,fc,hf,wa,wc,ca,cc,hc,hb,hr,hm1,hm2,hm3⟩:=hst;have hl:=hb.lt;have HE0:=Hd hE;have HE:=Hd (fun W (hW:Below w.heap.size w W)=>hE W (hW.mono (Nat.le_of_lt hl)));have CC:=qki s w (HE.out w brf).2.1 hs;have hpz:part≠0/\part≠3:=by rw [hp];unfold partQ;split <;> decide
 have hp0:((part:Int)==0)=false:=by rw [beq_eq_false_iff_ne];omega
 have hp3:((part:Int)==3)=false:=by rw [beq_eq_false_iff_ne];omega
 have hp0':(part==0)=false:=by rw [beq_eq_false_iff_ne];exact hpz.1
 have hp3':(part==3)=false:=by rw [beq_eq_false_iff_ne];exact hpz.2
 have hlen:s.data.toList.length=s.size:=Array.length_toList;have HB:=Hd hb;have HR:=Hd hr;have HM:=Hd (And.intro hm1 (And.intro hm2 hm3));have HNZ:=Hd hnz;have hgw:=Hd (Nat.le_of_lt hl);clear hE hb hr hm1 hm2 hm3 hnz hpz;by_cases hen:s.data.toList=wEnd
 ·
  have hG:=qzy (names:=names) hp;rw [<- hen] at hG;have hbe:(s.toList==[101,110,100])=true:=by rw [qa6,beq_iff_eq];exact hen
  obtain ⟨⟨c1,c2,c3⟩,hcc⟩:∃ z,cutC s.data.toList=z:=⟨_,rfl⟩
  rw [hcc] at CC;dsimp only at CC;replace CC:=Hd CC;replace hG:=Hd hG;replace hp:=Hd hp;clear hcc hen hlen hW;go_enter Tryz.func9,Tryz.ntmps9;go_wp2_with fail;refine CC.out.mono ?_;rintro e w1 ⟨rfl,hb1⟩;have hB1:=HB.out.below' hb1;have z5:=hB1.cell 5;have hl1:=hB1.lt;have f5:=hB1.frozen 5;have hB1':=Hd hB1;clear hB1;go_wp2;go_ret;refine qih hG.out ((hb1.mono hgw.out).setCell (nlr _) _) ⟨fa,fc,hf,wa,wc,ca,cc,hc,bS hB1'.out rfl,(HR.out.call hb1).fr ((Fr.refl _ _).setc (.inl rfl)),?_,?_,?_⟩
  · have:=HM.out.1;omega
  · have:=HM.out.2.1;omega
  · have:=HM.out.2.2;omega
 have hbe:(s.toList==[101,110,100])=false:=by rw [qa6,beq_eq_false_iff_ne];exact hen
 unfold cutC at CC
 cases hcut:cutL 32 s.data.toList with
 | none =>
  rw [hcut] at CC;dsimp only at CC;have hG:=qpz (names:=names) hp hen fun w r h=>by rw [hcut] at h;cases h
  obtain ⟨S1,hS1⟩:∃ z,ofL s.data.toList=z:=⟨_,rfl⟩
  obtain ⟨S2,hS2⟩:∃ z,ofL []=z:=⟨_,rfl⟩
  rw [hS1,hS2] at CC;obtain ⟨bf,hbf⟩:∃ b,(S1.toList==[102,97,99,116,111,114])=b:=⟨_,rfl⟩
  obtain ⟨bc,hbc⟩:∃ b,(S1.toList==[99,111,102,97,99,116,111,114])=b:=⟨_,rfl⟩
  replace CC:=Hd CC;replace hp:=Hd hp;replace hen:=Hd hen;clear hcut hlen hS1 hS2 hW
  cases bf
  ·
   cases bc
   ·
    skip
    exact zz93
   ·
    skip
    exact zz93
  ·
   cases bc
   ·
    skip
    exact zz93
   ·
    skip
    exact zz93
 | some dx =>
  obtain ⟨d,x⟩:=dx;have hWk:=hW d x hcut;obtain ⟨hcs,_⟩:=qa9 32 _ _ _ hcut;have hll:=congrArg List.length hcs;rw [List.length_append,List.length_cons,hlen] at hll;rw [hcut] at CC;dsimp only at CC;have hxs:(ofL x).size<4294967281:=by rw [qa4];omega
  obtain ⟨S1,hS1⟩:∃ z,ofL d=z:=⟨_,rfl⟩
  obtain ⟨S2,hS2⟩:∃ z,ofL x=z:=⟨_,rfl⟩
  have hx2:x=S2.data.toList:=by rw [<- hS2,qaw]
  rw [hS2] at hxs;rw [hS1,hS2] at CC;obtain ⟨bf,hbf⟩:∃ b,(S1.toList==[102,97,99,116,111,114])=b:=⟨_,rfl⟩
  obtain ⟨bc,hbc⟩:∃ b,(S1.toList==[99,111,102,97,99,116,111,114])=b:=⟨_,rfl⟩
  have hdf:d=qb8↔bf=true:=by rw [<- hbf,<- hS1,qa6,qaw,beq_iff_eq];exact Iff.rfl
  have hdc:d=wCof↔bc=true:=by rw [<- hbc,<- hS1,qa6,qaw,beq_iff_eq];exact Iff.rfl
  replace CC:=Hd CC
  cases bf
  ·
   cases bc
   ·
    have hG:=qpz (names:=names) hp hen fun w r h=>by
     rw [hcut] at h;injection h with h
     injection h with h1 h2
     subst h1 h2;exact ⟨fun e=>(by cases hdc.1 e),fun e=>(by cases hdf.1 e)⟩
    replace hp:=Hd hp;replace hen:=Hd hen;clear hW hcut hWk hcs hll hx2 hS2 hS1 hdf hdc hlen;exact zz93
   ·
    have hd:=hdc.2 rfl;subst hd;have hG:=qy9 (names:=names) hp hen hcut;have hWx:=hWk.1 rfl;rw [hx2] at hWx hG;have CP:=fun W (hW:Below w.heap.size w W)=>qnx (Xc g fa wa ca) g names na nc S2 _ _ _ _ _ W (fun b hb=>ltl (HR.out.xlt hl b hb) hW.size) (HB.out.below' hW) (fun V hV=>HE.out V (bth hW hV)) HNZ.out hnl (by omega) hWx
    obtain ⟨PG,hPG⟩:∃ z,polC names S2.data.toList=z:=⟨_,rfl⟩
    rw [hPG] at CP hG;have hG1:=Hd hG;replace CP:=Hd CP;replace hp:=Hd hp;replace hen:=Hd hen;clear hW hcut hWk hcs hll hx2 hS2 hS1 hdf hdc hlen hWx hPG hG;go_enter Tryz.func9,Tryz.ntmps9;go_wp2_with fail;refine CC.out.mono ?_;rintro e w1 ⟨rfl,hb1⟩;have hB1:=HB.out.below' hb1;have z5:=hB1.cell 5;have hl1:=hB1.lt;clear hB1;go_wp2_with fail;refine (CP.out w1 hb1).mono ?_;rintro e w3 ⟨a,n,cp,er,rfl,hb3,hok,hbad⟩;have hw3:=bth hb1 hb3;clear CP z5 hl1;have hG:=hG1.out;clear hG1;obtain ⟨o,er'⟩:=PG
    cases o with
    | none =>
     obtain ⟨rfl,h0⟩:=hbad er' rfl;dsimp only at hG;have hne:(er != 0)=true:=by simpa using h0
     have h0':=Hd h0;clear h0 hok hbad;go_wp2;go_ret;exact qb6 hG h0'.out (hw3.mono hgw.out)
    | some p =>
     obtain ⟨rfl,hP,rfl⟩:=hok p er' rfl;dsimp only at hG;obtain ⟨n,hn⟩:∃ n,p.length=n:=⟨_,rfl⟩
     rw [hn];have hr3:=HR.out.call hw3;have hB3:=HB.out.below' hw3;have z4:=hB3.cell 4;have hl3:=hB3.lt;have hB4:=Hd (bA (o:=.cells #[.slice a n cp] 53) hB3);have hr4:=Hd (hr3.call (brf.alloc (nlr _) (.cells #[.slice a n cp] 53)));have hP4:=Hd (show PolX (Xc g fa wa ca) (w3.alloc (.cells #[.slice a n cp] 53)) a cp p from hP.step ((Agr.refl _ _).alloc _));have hw4:=Hd (show Below g w (w3.alloc (.cells #[.slice a n cp] 53)) from (hw3.mono hgw.out).alloc (Nat.le_of_lt hl3) _);have hcl:Hid (∀ j v,(PQ.cs ⟨n,a,cp⟩)[j]? = some v->(w3.alloc (.cells #[.slice a n cp] 53)).cell? ⟨w3.heap.size,j,none⟩=some v):=Hd fun j v hj=>by
      cases j with
      | zero=>simp [PQ.cs] at hj;subst hj;exact (Blk.new w3 53 #[.slice a n cp]).cell 0
      | succ j=>simp [PQ.cs] at hj
     have hl4:=Hd (show g<w3.heap.size from hl3);have hn':=Hd hn;have hG':=Hd hG;clear hP hr3 hB3 hw3 hn hG hb1 hb3 hok hbad;go_wp2_with (at_builtin;go_must (refine qa8 (B:=g+1) rfl (.tmp 92) (.tmp 94) 23 rfl Tryz.underlying23 qey rfl (by omega) (by omega) PQ.cs_len ca cc (l:=hc) rfl hr4.out.oC ⟨n,a,cp⟩ (PQ.cs_one _) w3.heap.size 1 rfl hcl.out (hc++[⟨n,a,cp⟩]) rfl (by have:=HM.out.2.2;rw [List.length_append];simp;omega) (by have:=hl4.out;simp;omega) ?_);intro ca2 cc2 w5 ho5 hg5 ha5;refine park ?_);refine Hd ?_;have hB5:=hB4.out.under hr4.out.oC (Nat.lt_succ_self _) hg5;have hr5:=Hd (hr4.out.pushC hg5 ho5 ha5 hP4.out hn'.out.symm);have hw5:=Hd (qj1 hw4.out hr4.out.oC (by have:=hl4.out;simp;omega) hg5);have hll:(hc++[(⟨n,a,cp⟩:PQ)]).length=hc.length+1:=by simp
     have y4:=hB5.cell 4;have y5:=hB5.cell 5;have f4:=hB5.frozen 4;have f5:=hB5.frozen 5;have hl5:=hB5.lt;have hB5':=Hd hB5;clear z4 hl3 hB4 hr4 hP4 hw4 hcl hl4 ho5 hg5 ha5 hB5;obtain ⟨hc2,hhc2⟩:∃ z,hc++[(⟨n,a,cp⟩:PQ)]=z:=⟨_,rfl⟩
     rw [hhc2] at hr5 hll;rw [<- hll];have hll':=Hd hll;clear hhc2 hll;go_wp2;go_ret;refine qih hG'.out ((hw5.out.setCell (nlr _) _).setCell (nlr _) _) ⟨fa,fc,hf,wa,wc,ca2,cc2,hc2,bS (bS hB5'.out rfl) rfl,(hr5.out.fr ((Fr.refl _ _).setc (.inl rfl))).fr ((Fr.refl _ _).setc (.inl rfl)),?_,?_,?_⟩
     · have:=HM.out.1;omega
     · have:=HM.out.2.1;show c.P.length<=_;omega
     · have:=HM.out.2.2;have:=hll'.out;omega
  ·
   have hd:=hdf.2 rfl;subst hd;have hG:=qyy (names:=names) hp hen hcut;have hWx:=hWk.2 rfl;rw [hx2] at hWx hG;have CF:=fun W (hW:Below w.heap.size w W)=>qve g names na nc S2 c part m W (hst0.out.call hW) hm (fun V hV=>HE0.out V ((hW.mono hgw.out).trans hV)) HNZ.out hnl hxs hWx
   rw [<- hG] at CF;obtain ⟨G,hGG⟩:∃ G,linP names part c s.data.toList=G:=⟨_,rfl⟩
   rw [hGG] at CF ⊢;replace CF:=Hd CF;replace hp:=Hd hp;replace hen:=Hd hen;clear hW hcut hWk hcs hll hx2 hS2 hS1 hdf hdc hlen hWx hG hGG;go_enter Tryz.func9,Tryz.ntmps9;go_wp2_with fail;refine CC.out.mono ?_;rintro e w1 ⟨rfl,hb1⟩;have hB1:=HB.out.below' hb1;have z5:=hB1.cell 5;have hl1:=hB1.lt;clear hB1;go_wp2_with fail;refine (CF.out w1 hb1).mono ?_;rintro e w3 ⟨er,rfl,hb3,h1,h2⟩;replace h1:=Hd h1;replace h2:=Hd h2;clear CF z5 hl1;go_wp2;go_ret;exact ⟨er,rfl,(hb1.mono hgw.out).trans hb3,h1.out,h2.out⟩
theorem qze (q rb n k:Nat) (x:ByteArray) (w:World) (hq:Blk w q 34 #[.slice (some ⟨rb,0,none⟩) n n,.int .i64 (k:Int)]) (hx:w.cell? ⟨rb,k,none⟩=some (.string x)) (hk:k<n) (hn:n<=4611686018427387904) (hne:rb≠q) :
  Calls Tryz.prog 8 #[.pointer (some ⟨q,0,none⟩)] w fun e w'=>e=.returned (.tuple #[.string x,.bool true])/\Blk w' q 34 #[.slice (some ⟨rb,0,none⟩) n n,.int .i64 ((k+1:Nat):Int)]/\Fg q w w':=by
 obtain ⟨z0,z1⟩:=cq2 hq;have f1:=hq.frozen 1;have hl:=hq.lt;have hlr:=World.block_lt_of_cell? w _ hx;have d1:decide ((n:Int)<=(k:Int))=false:=by rw [decide_eq_false_iff_not];omega
 have d2:decide (n<=k)=false:=by rw [decide_eq_false_iff_not];omega
 have hW:=Hd (show Blk ((w.setCell ⟨q,1,none⟩ (.int .i64 ((k:Int)+1))).drew) q 34 #[.slice (some ⟨rb,0,none⟩) n n,.int .i64 ((k:Int)+1)]/\((w.setCell ⟨q,1,none⟩ (.int .i64 ((k:Int)+1))).drew).cell? ⟨rb,k,none⟩=some (.string x)/\Fg q w ((w.setCell ⟨q,1,none⟩ (.int .i64 ((k:Int)+1))).drew) from
  ⟨bS hq rfl,(World.cell?_setCell_other w ⟨q,1,none⟩ ⟨rb,k,none⟩ _ (fun e=>by injection e with e _;exact hne e.symm)).trans hx,((Fr.refl (fun b=>b=q) w).setc (.inl rfl)).call (brf.drew)⟩)
 clear hq hx;go_enter Tryz.func8,Tryz.ntmps8;go_wp2;refine wrx (S:=(fun x=>x=w.drew)) [(0,.q),(1,.q),(2,.q),(3,.q),(4,.q),(5,.q),(6,.q),(7,.q),(8,.q),(9,.p)] (rfl) ?_
 iterate 9 (refine qab rfl rfl fun K hK=>xq ?_;go_simp;refine hK _ _ ?_;clear hK K)
 iterate 1 (refine qae rfl rfl fun K hK=>xp ?_;go_simp;refine hK _ _ ?_;clear hK K)
 refine qac ?_;go_wp2;obtain ⟨W,hWe⟩:∃ W,(w.setCell ⟨q,1,none⟩ (.int .i64 ((k:Int)+1))).drew=W:=⟨_,rfl⟩
 rw [hWe] at hW ⊢;have hW2:=Hd (hW.out.1.drew);obtain ⟨y0,y1⟩:=cq2 hW.out.1;have y2:=hW.out.2.1;have hl2:=hW.out.1.lt;have hF:=Hd (hW.out.2.2.call (brf.drew));have e1:(k:Int)+1-1=(k:Int):=by omega
 have e2:IntKind.i64.wrap (k:Int)=(k:Int):=by rw [IntKind.wrap_i64];omega
 have e3:(0:Int)<=(k:Int)/\(k:Int)<(n:Int):=⟨by omega,by omega⟩
 clear z0 z1 f1 hl hlr hWe hW d1 d2;refine wrx (S:=(fun x=>x=W.drew)) [(0,.q),(1,.q),(2,.q),(3,.q),(4,.q),(5,.q),(6,.q),(7,.q),(8,.q),(9,.q),(10,.q),(11,.p),(12,.p)] (rfl) ?_
 iterate 11 (refine qab rfl rfl fun K hK=>xq ?_;go_simp;refine hK _ _ ?_;clear hK K)
 iterate 2 (refine qae rfl rfl fun K hK=>xp ?_;go_simp;refine hK _ _ ?_;clear hK K)
 refine qac ?_;go_wp2;go_ret2;exact ⟨rfl,hW2.out,hF.out⟩
def RetCr (R:CrQ × Nat × Int) (w:World) (e:Ending) (w':World):Prop:=∃ (fa wa ca:Option Addr) (fc wc cc:Nat),e=.returned (.tuple #[.agg #[.slice fa R.1.F.length fc,.slice wa R.1.P.length wc,.int .i64 R.1.n,.slice ca R.1.C.length cc],.int .i64 R.2.1,.int .i64 R.2.2])/\Below w.heap.size w w' /\
 qdh w' fa fc (R.1.F.map (·.map trmOf))/\IntsR w' wa wc R.1.P/\qdh w' ca cc (R.1.C.map (·.map trmOf))
theorem qdu {R:CrQ × Nat × Int} {n:Nat} {er:Int} {w w':World} (hR:R=(noQ,n,er)) (hb:Below w.heap.size w w'):RetCr R w (.returned (.tuple #[.agg #[.slice none 0 0,.slice none 0 0,.int .i64 0,.slice none 0 0],.int .i64 n,.int .i64 er])) w':=by
 subst hR;exact ⟨none,none,none,0,0,0,rfl,hb,SlR.nil,SlR.nil,SlR.nil⟩
theorem qxi {names:List ByteArray} {part:Nat} {c c':CrQ} {t:List UInt8} {q:Nat} {x:Int} (h:linP names part c t=(some (q,c'),x)):q=3\/q=partQ c':=by
 unfold linP at h
 split at h
 ·
  split at h
  ·
   next c1 hf =>
   injection h with h _
   injection h with h
   injection h with h1 h2
   subst h1 h2;right;have h0:c1.C=[]:=by
    unfold qc3 at hf
    split at hf
    ·
     split at hf
     · obtain ⟨n,_,rfl⟩:=Option.map_eq_some_iff.1 hf;rfl
     · cases hf
    · cases hf
   unfold partQ;rw [if_pos h0]
  · cases h
 ·
  split at h
  · cases h
  ·
   split at h
   ·
    injection h with h _
    injection h with h
    injection h with h1 _
    exact .inl h1.symm
   ·
    split at h
    ·
     injection h with h _
     injection h with h
     injection h with h1 h2
     right;rw [<- h1,<- h2]
     rfl
    · cases h
theorem zz94 {P:Prop} (h:P:=by
 go_wp2;refine qak (fun W=>Blk W b0 26 #[.slice none 0 0,.slice none 0 0,.int .i64 0,.slice none 0 0]/\Below w.heap.size w W) ⟨bS (bS (bS (bS hz3'.out rfl) rfl) rfl) rfl,HBD.out _ _ _ _⟩ ?_;rintro W ⟨hzW,hbW⟩;obtain ⟨e0,e1,e2,e3⟩:=cq4 hzW;refine bodyPost_ret (v:=.tuple #[.agg #[.slice none 0 0,.slice none 0 0,.int .i64 0,.slice none 0 0],.int .i64 (L.length:Int),.int .i64 10]) (by simp [results,Tryz.results4,go_sem,e0,e1,e2,e3]) rfl ?_;exact qdu hrun1.out.symm hbW
 ):P:=h
theorem qqf (s:ByteArray) (names:List ByteArray) (na:Option Addr) (nc:Nat) (w:World) (hE:∀ W,Below w.heap.size w W->EnvC names na nc W) (hnz:∀ x∈names,x.size<=1048576) (hnl:names.length<=1000) (hs:s.size<4294967281)
  (hL:(qba s.data.toList).length<=16000000) (hW:∀ k t,(qba s.data.toList)[k]? = some t->k+1<(qba s.data.toList).length->WokL names t) :
  Calls Tryz.prog 4 #[.string s,.slice na names.length nc] w (RetCr (readQ names s.data.toList) w):=by
 have CS:=fun W (hW:Below w.heap.size w W)=>qw3 s ⟨#[10]⟩ W (hE W hW).2.1 hs (by decide)
 obtain ⟨hsp1,hsp2⟩:=qrt s.data.toList;rw [qc1] at hsp1 hsp2;rw [<- qjk];obtain ⟨L,hLL⟩:∃ L,qba s.data.toList=L:=⟨_,rfl⟩
 have hL1:=(qer s.data.toList).1;have hszl:∀ t∈L,t.length<=s.size:=fun t ht=>by rw [<- hLL] at ht;exact qem _ t ht
 rw [hLL] at hsp1 hsp2 hL hW hL1 ⊢;have e10:(⟨#[10]⟩:ByteArray)=ofL [10]:=rfl;rw [e10] at CS;rw [hsp1,hsp2] at CS;obtain ⟨R,hR⟩:∃ R,runP names 0 noQ 1 L=R:=⟨_,rfl⟩
 have hok:=fun (c:CrQ) (e:R=(c,0,0))=>(qio (names:=names) (s:=s.data.toList) (c:=c) (k:=0) (by rw [<- qjk,hLL,hR];exact e)).2.1.2.2.1
 replace hok:=Hd hok;rw [hR];replace CS:=Hd CS;replace hR:=Hd hR;replace hW:=Hd hW;replace hszl:=Hd hszl;have HE:=Hd hE;have HNZ:=Hd hnz;rw [<- e10] at CS;clear hE hnz hsp1 hsp2 hLL e10;go_enter Tryz.func4,Tryz.ntmps4;go_wp2_with fail;refine qah (fun W=>Blk W w.heap.size 26 #[.slice none 0 0,.slice none 0 0,.int .i64 0,.slice none 0 0]/\Below w.heap.size w W/\W.heap.size=w.heap.size+1) ⟨bN rfl,brf.alloc (nlr _) _,by simp⟩ ?_;rintro w0 ⟨hz0,hw0,hs0⟩;refine (CS.out w0 hw0).mono ?_;rintro e w1 ⟨rfl,rfl⟩;obtain ⟨b0,hb0⟩:∃ q,w.heap.size=q:=⟨_,rfl⟩
 rw [hb0] at hz0 hs0 ⊢;rw [hs0];have hrow:=Blk.new w0 9 ((L.map ofL).map Value.string).toArray;rw [hs0] at hrow;have hz1:=bA (o:=.cells ((L.map ofL).map Value.string).toArray 9) hz0;have hw1:=hw0.alloc hw0.size (.cells ((L.map ofL).map Value.string).toArray 9);obtain ⟨w1,hw1e⟩:∃ W,w0.alloc (.cells ((L.map ofL).map Value.string).toArray 9)=W:=⟨_,rfl⟩
 have hs1:w1.heap.size=b0+1+1:=by rw [<- hw1e];simp [hs0]
 rw [hw1e] at hrow hz1 hw1 ⊢;obtain ⟨b1,hb1⟩:∃ q,b0+1=q:=⟨_,rfl⟩
 rw [hb1] at hrow hs1 ⊢;obtain ⟨b2,hb2⟩:∃ q,b1+1=q:=⟨_,rfl⟩
 rw [hb2] at hs1;have hb0':=Hd hb0;have hb1':=Hd hb1;have hb2':=Hd hb2;have hs1':=Hd hs1;have hrow':=Hd hrow;have hz1':=Hd hz1;have hw1':=Hd hw1;clear hb0 hb1 hb2 hs1 hrow hz1 hw1 hz0 hw0 hs0 hw1e CS;go_wp2;refine qak (fun W=>Blk W w1.heap.size 34 #[.slice (some ⟨b1,0,none⟩) L.length L.length,.int .i64 ((0:Nat):Int)]/\Blk W (w1.heap.size+1) 38 #[.slice na names.length nc,.slice none 0 0,.slice none 0 0,.int .i64 0,.slice none 0 0,.int .i64 0]/\Blk W b0 26 #[.slice none 0 0,.slice none 0 0,.int .i64 0,.slice none 0 0]/\Blk W b1 9 ((L.map ofL).map Value.string).toArray/\Below w.heap.size w W) ⟨bA (bN rfl),bN (by simp),bA (bA hz1'.out),bA (bA hrow'.out),(hw1'.out.alloc hw1'.out.size _).alloc (by have:=hw1'.out.size;simp;omega) _⟩ ?_;rintro w2 ⟨hq,hg,hz,hrow,hw2⟩;obtain ⟨b2,hb2⟩:∃ q,w1.heap.size=q:=⟨_,rfl⟩
 rw [hb2] at hq hg ⊢;obtain ⟨g,hge⟩:∃ q,b2+1=q:=⟨_,rfl⟩
 rw [hge] at hg ⊢;have hO:=Hd (show w.heap.size<=b0/\b0<b1/\b1<b2/\b2<g from ⟨by have:=hb0'.out;omega,by have:=hb1'.out;omega,by have:=hs1'.out;have:=hb2'.out;omega,by omega⟩);clear hb2 hge hb0' hb1' hb2' hs1' hrow' hz1' hw1'
 go_loopg [10,11,12,13] L.length (fun gk s10 _ _ _ wr=>∃ (k part:Nat) (c:CrQ),Hid (k+gk=L.length/\0<gk)/\s10=.int .i64 ((k+1:Nat):Int)/\Hid (Blk wr b2 34 #[.slice (some ⟨b1,0,none⟩) L.length L.length,.int .i64 (k:Int)])/\Hid (Blk wr b0 26 #[.slice none 0 0,.slice none 0 0,.int .i64 0,.slice none 0 0])/\Hid (Blk wr b1 9 ((L.map ofL).map Value.string).toArray)/\Hid (CrSt g (.slice na names.length nc) k wr c part)/\Hid (runP names part c (k+1) (L.drop k)=R)/\Hid ((part=0/\c=noQ)\/part=3\/part=partQ c)/\Hid (Below w.heap.size w wr))
 case atStart=>exact ⟨0,0,noQ,by show _/\_;omega,rfl,hq,hz,hrow,⟨none,0,[],none,0,none,0,[],hg,CrRows.nil,nlr _,nlr _,nlr _⟩,hR.out,.inl ⟨rfl,rfl⟩,hw2⟩
 case round =>
  clear hq hg hz hrow hw2;obtain ⟨k,part,c,hk,rfl,hq,hz,hrow,hst,hrun,hpt,hwr⟩:=hrel;obtain ⟨t,ht⟩:=qad (xs:=L) (k:=k) (by have:=hk.out;omega);have htm:=Hd ht;have hx:wr.cell? ⟨b1,k,none⟩=some (.string (ofL t)):=by
   rw [hrow.out.cell k];simp [ht]
  have CN:=Hd (qze b2 b1 L.length k (ofL t) wr hq.out hx (qas ht) (by omega) (by have:=hO.out;omega));have hdr:=Hd (show L.drop k=t :: L.drop (k+1) by
   have h2:=qas ht;rw [List.drop_eq_getElem_cons h2];rw [List.getElem?_eq_getElem h2] at ht;injection ht with ht
   rw [ht])
  have hts:=Hd (hszl.out t (List.mem_of_getElem? ht));clear ht hx;go_wp2_with fail;refine CN.out.mono ?_;rintro e w3 ⟨rfl,hq3,hf3⟩;have hz3:=hz.out.fr hf3 (by have:=hO.out;omega);have hrow3:=Hd (hrow.out.fr hf3 (by have:=hO.out;omega));have hst3:=hst.out.fg hf3 (by have:=hO.out;omega);have hw3:=Hd (show Below w.heap.size w w3 from Below.fr hwr.out hf3 (fun b hb=>by subst hb;have:=hO.out;omega) hwr.out.size);have hq3':=Hd hq3;obtain ⟨m,hm⟩:∃ m,k+1=m:=⟨_,rfl⟩
  have hrun1:=hrun.out;rw [hdr.out] at hrun1;rw [hm] at hq3 hrun1 ⊢;obtain ⟨x0,x1⟩:=cq2 hq3;have hl3:=hq3.lt;obtain ⟨y0,y1,y2,y3⟩:=cq4 hz3;obtain ⟨p0,p1,p2,p3⟩:=fq4 hz3;have hlz:=hz3.lt;have hz3':=Hd hz3;have hm':=Hd hm;have HBD:=Hd (fun (v0 v1 v2 v3:Value)=>(((hw3.out.setCell (p:=⟨b0,0,none⟩) hO.out.1 v0).setCell (p:=⟨b0,1,none⟩) hO.out.1 v1).setCell (p:=⟨b0,2,none⟩) hO.out.1 v2).setCell (p:=⟨b0,3,none⟩) hO.out.1 v3);clear CN hz hrow hst hwr hq hf3 hq3 hz3 hdr hrun hm;by_cases hlast:m=L.length
  ·
   subst hlast;have hd0:L.drop L.length=[]:=List.drop_length;rw [hd0,qif] at hrun1;obtain ⟨bt,hbt⟩:∃ b,((ofL t).toList==[])=b:=⟨_,rfl⟩
   have htb:t=[]↔bt=true:=by rw [<- hbt,qa6,qaw,beq_iff_eq]
   obtain ⟨S,hS⟩:∃ S,ofL t=S:=⟨_,rfl⟩
   rw [hS] at hbt ⊢;clear hS hd0
   cases bt
   ·
    rw [if_neg fun e=>by cases htb.1 e.1] at hrun1;replace hrun1:=Hd hrun1;clear htb hst3;exact zz94
   ·
    have ht0:=htb.2 rfl;obtain ⟨fa,fc,hf,wa,wc,ca,cc,hc,hB,hr,_,_,_⟩:=hst3;have z5:=hB.cell 5;have hlg:=hB.lt;by_cases hp3:part=3
    ·
     rw [if_pos ⟨ht0,hp3⟩] at hrun1;subst hp3;rw [hr.aF.1,hr.aC.1] at hB;have z1:=hB.cell 1;have z2:=hB.cell 2;have z3:=hB.cell 3;have z4:=hB.cell 4;have hpx:=Hd (hok.out c hrun1.symm);replace hrun1:=Hd hrun1;replace hr:=Hd hr;clear htb ht0 hB;go_wp2;refine qak (fun W=>Blk W b0 26 #[.slice fa c.F.length fc,.slice wa c.P.length wc,.int .i64 c.n,.slice ca c.C.length cc]/\Below w.heap.size w W/\CrRows g W c.F c.P c.C fa fc hf wa wc ca cc hc) ⟨bS (bS (bS (bS hz3'.out rfl) rfl) rfl) rfl,HBD.out _ _ _ _,hr.out.fr2 (((((Fr.refl _ _).setc (.inl (by have:=hO.out;omega))).setc (.inl (by have:=hO.out;omega))).setc (.inl (by have:=hO.out;omega))).setc (.inl (by have:=hO.out;omega)))⟩ ?_;rintro W ⟨hzW,hbW,hrW⟩;obtain ⟨e0,e1,e2,e3⟩:=cq4 hzW
     refine bodyPost_ret (v:=.tuple #[.agg #[.slice fa c.F.length fc,.slice wa c.P.length wc,.int .i64 c.n,.slice ca c.C.length cc],.int .i64 0,.int .i64 0]) (by simp [results,Tryz.results4,go_sem,e0,e1,e2,e3]) rfl ?_;rw [<- hrun1.out];exact ⟨fa,wa,ca,fc,wc,cc,rfl,hbW,qhc hrW.oF hrW.aF,hrW.oP.reads1 fun x hx=>by have:=hpx.out x hx;exact ⟨by omega,by omega⟩,qhc hrW.oC hrW.aC⟩
    ·
     rw [if_neg fun e=>hp3 e.2] at hrun1;have hp3b:((part:Int)==3)=false:=by rw [beq_eq_false_iff_ne];omega
     have hp3c:(part==3)=false:=by rw [beq_eq_false_iff_ne];exact hp3
     replace hrun1:=Hd hrun1;replace hp3:=Hd hp3;clear htb ht0 hB hr;exact zz94
  ·
   have hml:m<L.length:=by have:=qas htm.out;have:=hm'.out;omega
   have hcb:((m:Int)==(L.length:Int))=false:=by rw [beq_eq_false_iff_ne];omega
   have hcc:(m==L.length)=false:=by rw [beq_eq_false_iff_ne];exact hlast
   have hdn:L.drop m≠[]:=fun e=>by have:=congrArg List.length e;rw [List.length_drop] at this;simp at this;omega
   rw [runP,if_neg hdn] at hrun1;have hEg:=fun W (hW:Below g w3 W)=>HE.out W (hw3.out.trans (hW.mono (by have:=hO.out;omega)))
   have hks:(ofL t).size<4294967281:=by rw [qa4];have:=hts.out;omega
   have hkm:k<=16000000:=by have:=hm'.out;omega
   have hWt:=hW.out k t htm.out (by have:=hm'.out;omega);have hlnm:k+1=m:=hm'.out;have CLn:Calls Tryz.prog 9 #[.pointer (some ⟨g,0,none⟩),.string (ofL t)] w3 (RetFa g (.slice na names.length nc) (k+1) (linP names part c (ofL t).data.toList) w3):=by
    rcases hpt.out with ⟨rfl,rfl⟩ | rfl | hp
    · exact qw5 g names na nc (ofL t) k w3 hst3 hEg hks
    · exact qyl g names na nc (ofL t) c k w3 hst3 hEg hks
    · exact qwt g names na nc (ofL t) c part k w3 hp hst3 hkm hEg HNZ.out hnl hks (by rw [qaw];exact hWt)
   rw [qaw,hlnm] at CLn;have hpt2:=fun q c' x (e:linP names part c t=(some (q,c'),x))=>qxi e
   obtain ⟨G,hG⟩:∃ G,linP names part c t=G:=⟨_,rfl⟩
   rw [hG] at CLn hrun1 hpt2;obtain ⟨S,hS⟩:∃ S,ofL t=S:=⟨_,rfl⟩
   rw [hS] at CLn ⊢;have hrun2:=Hd hrun1;replace CLn:=Hd CLn;replace hpt2:=Hd hpt2;clear hst3 hEg hks hkm hWt hlnm hdn hG hS hrun1 hpt;go_wp2_with fail;refine CLn.out.mono ?_;rintro e w4 ⟨er,rfl,hb4,hok4,hbad4⟩;have hz4:=hz3'.out.below hb4 (by have:=hO.out;omega);obtain ⟨q0,q1,q2,q3⟩:=cq4 hz4;obtain ⟨r0,r1,r2,r3⟩:=fq4 hz4;have hlz4:=hz4.lt;have hw4:=Hd (show Below w.heap.size w w4 from hw3.out.trans (hb4.mono (by have:=hO.out;omega)));have HBD4:=Hd (fun (v0 v1 v2 v3:Value)=>(((hw4.out.setCell (p:=⟨b0,0,none⟩) hO.out.1 v0).setCell (p:=⟨b0,1,none⟩) hO.out.1 v1).setCell (p:=⟨b0,2,none⟩) hO.out.1 v2).setCell (p:=⟨b0,3,none⟩) hO.out.1 v3);have hz4':=Hd hz4;have hq4:=Hd (hq3'.out.below hb4 (by have:=hO.out;omega));have hrow4:=Hd (hrow3.out.below hb4 (by have:=hO.out;omega));clear CLn x0 x1 hl3 y0 y1 y2 y3 p0 p1 p2 p3 hlz hz3' HBD hq3' hrow3 hw3 hb4 hz4;obtain ⟨o,er'⟩:=G
   cases o with
   | none =>
    obtain ⟨rfl,h0⟩:=hbad4 er' rfl;have hrun1:=hrun2;dsimp only at hrun1;have hne:(er != 0)=true:=by simpa using h0
    replace h0:=Hd h0;clear hok4 hbad4;go_wp2;refine qak (fun W=>Blk W b0 26 #[.slice none 0 0,.slice none 0 0,.int .i64 0,.slice none 0 0]/\Below w.heap.size w W) ⟨bS (bS (bS (bS hz4'.out rfl) rfl) rfl) rfl,HBD4.out _ _ _ _⟩ ?_;rintro W ⟨hzW,hbW⟩;obtain ⟨e0,e1,e2,e3⟩:=cq4 hzW;refine bodyPost_ret (v:=.tuple #[.agg #[.slice none 0 0,.slice none 0 0,.int .i64 0,.slice none 0 0],.int .i64 (m:Int),.int .i64 er]) (by simp [results,Tryz.results4,go_sem,e0,e1,e2,e3]) rfl ?_;exact qdu hrun1.out.symm hbW
   | some qc =>
    obtain ⟨q,c'⟩:=qc;obtain ⟨rfl,hst4⟩:=hok4 q c' er' rfl;have hp4:=Hd (hpt2.out q c' er' rfl);have hst4':=Hd hst4;have hrun1:=Hd hrun2.out;clear hok4 hbad4 hst4 hrun2 hpt2 q0 q1 q2 q3 r0 r1 r2 r3 hlz4;go_wp2;go_roundg (gk-1)
    case rel=>exact ⟨m,q,c',by have:=hk.out;have:=hm'.out;show _/\_;omega,by go_num,(by rw [<- hm'.out];exact hq4.out),hz4'.out,hrow4.out,hst4'.out,hrun1.out,.inr hp4.out,hw4.out⟩
    case measure=>have:=hk.out;omega
theorem qqy {d:List UInt8} (h:∀ c∈d,digU c=true):(limbs (decL d)).length<=(d.length+1) / 2:=by
 refine qan (ltl (qsr h) ?_);have h1:10 ^ d.length<=10 ^ (2*((d.length+1) / 2)):=Nat.pow_le_pow_right (by decide) (by omega);rw [Nat.pow_mul] at h1;exact Nat.le_trans h1 (Nat.pow_le_pow_left (by decide) _)
theorem qq7 {n d k:Nat} (hn:(limbs n).length<=k) (hd:(limbs d).length<=k) (hk:1<=k):qsz (qv false n d)<=k:=by
 obtain ⟨h1,h2⟩:=qnm false n d;refine qjs (Nat.le_trans (qaj h1) hn) ?_;by_cases h0:d=0
 ·
  subst h0;exact Nat.le_trans (qaj h2) (Nat.le_trans (qan (show 0+1<65536 ^ 1 by decide)) hk)
 ·
  have:(qv false n d).den<=d:=by
   unfold qv;exact (qj6 _ d h0).2
  exact Nat.le_trans (qaj this) hd
theorem qqz {l d r:List UInt8} (h:numG l=.ok d r):d.length+r.length=l.length:=by
 unfold numG at h
 split at h
 · exact absurd h fun e=>qc4 e
 ·
  split at h
  · cases h
  ·
   injection h with h1 h2
   subst h1 h2;rw [List.length_take,List.length_drop]
   omega
theorem qaf3 {l r:List UInt8} {q:Rat} (h:cofG l=.ok q r):2*qsz q<=l.length-r.length+1/\r.length<l.length:=by
 unfold cofG at h;obtain ⟨d,r1,h1,h2⟩:=qbd h;have e1:=qqz h1;obtain ⟨o1,_,o3,_⟩:=qgg h1;have e3:=qqy o3
 split at h2
 ·
  next h47 =>
  obtain ⟨d2,r2,h3,h4⟩:=qbd h2;have e2:=qqz h3;obtain ⟨p1,_,p3,_⟩:=qgg h3;have e4:=qqy p3
  split at h4
  · cases h4
  ·
   injection h4 with h5 h6
   subst h5 h6;rw [List.length_drop] at e2;have:=qq7 (n:=decL d) (d:=decL d2) (k:=max ((d.length+1) / 2) ((d2.length+1) / 2)) (by omega) (by omega) (by omega)
   omega
 ·
  injection h2 with h3 h4
  subst h3 h4;have hl1:(limbs 1).length=1:=by rw [qfp];rfl
  have:=qq7 (n:=decL d) (d:=1) (k:=(d.length+1) / 2) e3 (by rw [hl1];omega) (by omega)
  omega
theorem qyp {names:List ByteArray} {F n:Nat} {m m':List Int} {l r:List UInt8} (h:proG names F n m l=.ok m' r):r.length<l.length:=by
 cases n with
 | zero=>cases h
 | succ n =>
  rw [proG] at h;obtain ⟨p,r1,h1,h2⟩:=qbd h;have e1:r1.length<l.length:=by
   unfold powG at h1;obtain ⟨v,r3,g1,g2⟩:=qbd h1;have e1:=qhf g1
   split at g2
   ·
    obtain ⟨d2,r2,h3,h4⟩:=qbd g2;have e2:=qmz h3
    split at h4
    · cases h4
    · injection h4 with h5 h6;subst h6;rw [List.length_drop] at e2;omega
   · injection g2 with h3 h4;subst h4;omega
  split at h2
  · cases h2
  ·
   split at h2
   · have e2:=qm0 h2;rw [List.length_drop] at e2;omega
   · injection h2 with h3 h4;subst h4;exact e1
theorem qth {names:List ByteArray} {F:Nat} {q:Rat} {l r:List UInt8} {u:Tm} (h:monG names F q l=.ok u r):u.1=q/\r.length<l.length:=by
 unfold monG at h;obtain ⟨p,r1,h1,h2⟩:=qbd h;injection h2 with h3 h4
 subst h3 h4;exact ⟨rfl,qyp h1⟩
theorem qai4 {names:List ByteArray} {l r:List UInt8} {u:Tm} (h:terG names l=.ok u r):2*qsz u.1<=l.length-r.length+1/\r.length<l.length:=by
 unfold terG at h
 split at h
 ·
  obtain ⟨e1,e2⟩:=qth h;rw [e1];have:=qk8;exact ⟨by omega,e2⟩
 ·
  obtain ⟨q,r1,h1,h2⟩:=qbd h;obtain ⟨e1,e2⟩:=qaf3 h1
  split at h2
  ·
   obtain ⟨e3,e4⟩:=qth h2;rw [List.length_drop] at e4;rw [e3];exact ⟨by omega,by omega⟩
  ·
   injection h2 with h3 h4
   subst h3 h4;exact ⟨e1,e2⟩
theorem qu3 {l r:List UInt8} {ng:Bool} (h:sepG l=.ok ng r):r.length+3<=l.length:=by
 unfold sepG at h;obtain ⟨_,r1,h1,h2⟩:=qbd h;have e1:=qbp h1
 split at h2
 ·
  next h45 =>
  obtain ⟨_,r2,h3,h4⟩:=qbd h2;have e2:=qbp h3;injection h4 with h5 h6
  subst h6;rw [List.length_drop] at e2
  omega
 ·
  obtain ⟨_,r2,h3,h4⟩:=qbd h2;have e2:=qbp h3;obtain ⟨_,r3,h5,h6⟩:=qbd h4;have e3:=qbp h5;injection h6 with h7 h8
  subst h8
  omega
theorem qab6 (L:List Tm) (u:Tm):wtP (L++[u])=wtP L+(qsz u.1+1):=by unfold wtP;rw [List.map_append,List.sum_append];simp
theorem qnf {names:List ByteArray}:∀ {f:Nat} {neg:Bool} {acc L:List Tm} {l r:List UInt8},sumG names f neg acc l=.ok L r->2*wtP L<=2*wtP acc+l.length+3
 | 0,_,_,_,_,_,h=>by cases h
 | f+1,neg,acc,L,l,r,h=>by
  rw [sumG] at h
  split at h
  · cases h
  ·
   obtain ⟨u,r1,h1,h2⟩:=qbd h;obtain ⟨e1,e2⟩:=qai4 h1;have hq:qsz (sgnT neg u).1=qsz u.1:=by unfold sgnT;split;exact qfb _;rfl
   have hw:=qab6 acc (sgnT neg u);rw [hq] at hw
   split at h2
   ·
    injection h2 with h3 h4
    subst h3
    omega
   ·
    obtain ⟨ng,r2,h3,h4⟩:=qbd h2;have e3:=qu3 h3;have e4:=qnf h4
    omega
theorem qni {names:List ByteArray} {s:List UInt8} (h:s.length<=1999):Wok names s:=fun L r hL=>by
 unfold reaG at hL;have h0:wtP []=0:=rfl
 split at hL
 ·
  have:=qnf hL;rw [List.length_drop] at this
  omega
 ·
  have:=qnf hL
  omega
theorem qmp {names:List ByteArray} {t:List UInt8} (h:t.length<=2000):WokL names t:=fun w r hc=>by
 obtain ⟨g,_⟩:=qa9 32 t w r hc;have hr:r.length<=1999:=by have:=congrArg List.length g;simp at this;omega
 refine ⟨fun _=>qni hr,fun _ d x hx=>?_⟩;obtain ⟨g2,_⟩:=qa9 32 r d x hx;exact qni (by have:=congrArg List.length g2;simp at this;omega)
def FineC (c:CrQ):Prop:=∀ p,(p∈c.F\/p∈c.C)->FineP p/\p.length<=500
theorem qnj {names:List ByteArray} {s:List UInt8} {p:List Tm} {e:Int} (hW:Wok names s) (h:polC names s=(some p,e)):FineP p/\p.length<=500:=by
 obtain ⟨_,_,r,hr⟩:=qng h;have h1:=qjt hW hr;unfold readP at hr;obtain ⟨L,s',hL,h2⟩:=qbd hr;injection h2 with h2 _
 have hM:=(qh3 hL).2;have h3:=qho hM (hW L _ hL) (onesP L) (List.infix_refl _);have hnm:qa7 (onesP L)=normP L:=qgl hM;rw [hnm,h2] at h3;exact ⟨h3,h1.1⟩
theorem qhl:FineC noQ:=fun p hp=>by rcases hp with hp | hp <;> cases hp
theorem qut {names:List ByteArray} {c c':CrQ} {t:List UInt8} {e:Int} (hW:WokL names t) (hc:FineC c) (h:lineQ names c t=(some c',e)):FineC c':=by
 unfold lineQ at h
 split at h
 · cases h
 ·
  next w r hcut =>
  obtain ⟨k1,k2⟩:=hW w r hcut
  split at h
  ·
   next hw =>
   split at h
   ·
    next p e' hp =>
    injection h with h _
    injection h with h
    subst h;intro q hq;rcases hq with hq | hq
    · exact hc q (.inl hq)
    ·
     rcases List.mem_append.1 hq with hq | hq
     · exact hc q (.inr hq)
     · rw [List.mem_singleton] at hq;subst hq;exact qnj (k1 hw) hp
   · cases h
  ·
   split at h
   ·
    next hw =>
    split at h
    · cases h
    ·
     next d x hcut2 =>
     split at h
     · cases h
     ·
      split at h
      ·
       split at h
       ·
        next p e' hp =>
        split at h
        · cases h
        ·
         injection h with h _
         injection h with h
         subst h;intro q hq;rcases hq with hq | hq
         ·
          rcases List.mem_append.1 hq with hq | hq
          · exact hc q (.inl hq)
          · rw [List.mem_singleton] at hq;subst hq;exact qnj (k2 hw d x hcut2) hp
         · exact hc q (.inr hq)
       · cases h
      · cases h
   · cases h
theorem qwe {names:List ByteArray} {part q:Nat} {c c':CrQ} {t:List UInt8} {e:Int} (hW:WokL names t) (hc:FineC c) (h:linP names part c t=(some (q,c'),e)):FineC c':=by
 unfold linP at h
 split at h
 ·
  split at h
  ·
   next c1 hf =>
   injection h with h _
   injection h with h
   injection h with _ h2
   subst h2;unfold qc3 at hf
   split at hf
   ·
    split at hf
    ·
     obtain ⟨n,_,rfl⟩:=Option.map_eq_some_iff.1 hf;intro p hp;rcases hp with hp | hp <;> cases hp
    · cases hf
   · cases hf
  · cases h
 ·
  split at h
  · cases h
  ·
   split at h
   ·
    injection h with h _
    injection h with h
    injection h with _ h2
    subst h2;exact hc
   ·
    split at h
    ·
     next c1 e1 hl =>
     injection h with h _
     injection h with h
     injection h with _ h2
     subst h2;exact qut hW hc hl
    · cases h
theorem qo6 {names:List ByteArray}:∀ (L:List (List UInt8)) (part:Nat) (c:CrQ) (n:Nat),FineC c->(∀ j t,L[j]? = some t->j+1<L.length->WokL names t)->FineC (runP names part c n L).1
 | [],_,_,_,_,_=>by rw [runP];exact qhl
 | t :: r,part,c,n,hc,hW=>by
  rw [runP];by_cases hr:r=[]
  ·
   rw [if_pos hr]
   split
   · exact hc
   · exact qhl
  ·
   rw [if_neg hr];have hl:0<r.length:=List.length_pos_iff.2 hr
   split
   ·
    next q c' e hlp =>
    exact qo6 r q c' (n+1) (qwe (hW 0 t rfl (by rw [List.length_cons];omega)) hc hlp) fun j u hu hj=>hW (j+1) u (by simpa using hu) (by rw [List.length_cons];omega)
   · exact qhl
theorem qty {names:List ByteArray} {s:List UInt8} (hW:∀ j t,(qba s)[j]? = some t->j+1<(qba s).length->WokL names t):FineC (readQ names s).1:=by
 rw [<- qjk];exact qo6 _ _ _ _ qhl hW
theorem qr1 {names:List ByteArray} {s:List UInt8} (h:s.length<=2000):∀ j t,(qba s)[j]? = some t->j+1<(qba s).length->WokL names t:=fun j t ht _=>qmp (Nat.le_trans (qem s t (List.mem_of_getElem? ht)) h)
def Run30 (names:List ByteArray) (s:List UInt8) (R:CrQ × Nat × Int) (n:Nat) (ended:Bool) (c:CrQ) (l:List UInt8):Prop :=
 if n=1 then ended=false/\c=noQ/\l=s/\R=readQ names s
 else if ended=true then R=((if l=[] then (c,0,0) else match cutL 10 l with
  | none=>(noQ,n,10)
  | some _=>(noQ,n,9)):CrQ × Nat × Int)
 else ∃ f,l.length<f/\R=restQ names f n c l
theorem qmg {names:List ByteArray} {s l:List UInt8} {R:CrQ × Nat × Int} {n:Nat} {ended:Bool} {c:CrQ} (h:Run30 names s R n ended c l) (hc:cutL 10 l=none) (hne:¬ (ended=true/\l=[])):R=(noQ,n,10):=by
 unfold Run30 at h
 split at h
 ·
  next h1 =>
  obtain ⟨_,_,rfl,hR⟩:=h;rw [hR,h1];unfold readQ;rw [hc]
 ·
  split at h
  ·
   next he =>
   rw [h,if_neg fun e=>hne ⟨he,e⟩,hc]
  ·
   obtain ⟨f,hf,hR⟩:=h;obtain ⟨f,rfl⟩:∃ q,f=q+1:=⟨f-1,by omega⟩
   rw [hR,restQ,hc]
theorem qse {names:List ByteArray} {s l t r:List UInt8} {R:CrQ × Nat × Int} {n:Nat} {c:CrQ} (h:Run30 names s R n true c l) (hc:cutL 10 l=some (t,r)):R=(noQ,n,9)/\n≠1:=by
 unfold Run30 at h
 split at h
 · obtain ⟨h,_⟩:=h;cases h
 ·
  next h1 =>
  rw [if_pos rfl] at h;have:l≠[]:=fun e=>by rw [e] at hc;cases hc
  rw [h,if_neg this,hc];exact ⟨rfl,h1⟩
theorem qrv {names:List ByteArray} {s l t r:List UInt8} {R:CrQ × Nat × Int} {ended:Bool} {c:CrQ} (h:Run30 names s R 1 ended c l) (hc:cutL 10 l=some (t,r)):ended=false/\c=noQ/\(qc3 t=none->R=(noQ,1,9))/\(∀ c',qc3 t=some c'->Run30 names s R 2 false c' r):=by
 unfold Run30 at h;rw [if_pos rfl] at h;obtain ⟨h1,h2,rfl,hR⟩:=h;refine ⟨h1,h2,fun h=>?_,fun c' h=>?_⟩
 · rw [hR];unfold readQ;rw [hc];dsimp only;rw [h]
 ·
  unfold Run30;rw [if_neg (by decide),if_neg (by decide)];exact ⟨r.length+1,Nat.lt_succ_self _,by rw [hR];unfold readQ;rw [hc];dsimp only;rw [h]⟩
theorem qlg {b:UInt8} {l t r:List UInt8} (h:cutL b l=some (t,r)):t.length+r.length+1=l.length:=by
 obtain ⟨h1,_⟩:=qa9 b l t r h;rw [h1,List.length_append,List.length_cons]
 omega
theorem qtk {names:List ByteArray} {s l t r:List UInt8} {R:CrQ × Nat × Int} {n:Nat} {c:CrQ} (h:Run30 names s R n false c l) (hn:n≠1) (hc:cutL 10 l=some (t,r)) (h0:n≠0) :
  (t=wEnd->Run30 names s R (n+1) true c r)/\(t≠wEnd->(∀ c' x,lineQ names c t=(some c',x)->Run30 names s R (n+1) false c' r)/\(∀ x,lineQ names c t=(none,x)->R=(noQ,n,x))):=by
 unfold Run30 at h;rw [if_neg hn,if_neg (by decide)] at h;obtain ⟨f,hf,hR⟩:=h;obtain ⟨f,rfl⟩:∃ q,f=q+1:=⟨f-1,by omega⟩
 rw [restQ,hc] at hR;dsimp only at hR;refine ⟨fun e=>?_,fun e=>⟨fun c' x h=>?_,fun x h=>?_⟩⟩
 ·
  rw [if_pos e] at hR;unfold Run30;rw [if_neg (by omega),if_pos rfl];exact hR
 ·
  rw [if_neg e,h] at hR;unfold Run30;rw [if_neg (by omega),if_neg (by decide)];exact ⟨f,by have:=qlg hc;omega,hR⟩
 ·
  rw [if_neg e,h] at hR;exact hR
theorem qwm {names:List ByteArray} {s:List UInt8} {R:CrQ × Nat × Int} {n:Nat} {c:CrQ} {l:List UInt8} (h:Run30 names s R n true c l) (hl:l=[]):R=(c,0,0):=by
 unfold Run30 at h
 split at h
 · obtain ⟨h,_⟩:=h;cases h
 · simpa [hl] using h
theorem qyz {t d x:List UInt8} {ok:Bool} (h:cutB 32 t=(d,x,ok)):qc3 t=if ok=true/\d=qfl then (numC 1 x).map (fun n:Nat=>(⟨[],[],(n:Int),[]⟩:CrQ)) else none:=by
 unfold cutB at h;unfold qc3
 cases hc:cutL 32 t with
 | none =>
  rw [hc] at h;dsimp only at h;injection h with h1 h2
  injection h2 with h2 h3
  subst h3;rw [if_neg fun e=>by cases e.1]
 | some q =>
  obtain ⟨w,r⟩:=q;rw [hc] at h;dsimp only at h;injection h with h1 h2
  injection h2 with h2 h3
  subst h1 h2 h3;dsimp only;by_cases hw:w=qfl
  ·
   rw [if_pos hw,if_pos ⟨rfl,hw⟩]
   cases numC 1 r <;> rfl
  · rw [if_neg hw,if_neg fun e=>hw e.2]
theorem zz95 {P:Prop} (h:P:=by
 go_wp2;refine qak (fun W=>Blk W g 26 #[.slice none 0 0,.slice none 0 0,.int .i64 0,.slice none 0 0]/\Below w.heap.size w W) ⟨blkS4 (bS hx4'.out rfl),qbu (hw4.out.setCell (p:=⟨g,2,none⟩) hgw.out _) hgw.out⟩ ?_;rintro W ⟨hzW,hbW⟩;obtain ⟨e0,e1,e2,e3⟩:=cq4 hzW;refine bodyPost_ret (v:=.tuple #[.agg #[.slice none 0 0,.slice none 0 0,.int .i64 0,.slice none 0 0],.int .i64 1,.int .i64 9]) (by simp [results,Tryz.results5,go_sem,e0,e1,e2,e3]) rfl ?_;exact qdu hrun1.out hbW
 ):P:=h
theorem qtj (s:ByteArray) (names:List ByteArray) (na:Option Addr) (nc:Nat) (w:World) (hE:StrsR w na nc names) (hnz:∀ x∈names,x.size<=1048576) (hnl:names.length<=1000) (hs:s.size<=2000) :
  Calls Tryz.prog 5 #[.string s,.slice na names.length nc] w (RetCr (readQ names s.data.toList) w):=by
 obtain ⟨R,hR⟩:∃ R,readQ names s.data.toList=R:=⟨_,rfl⟩
 have hok:=fun (c:CrQ) (e:R=(c,0,0))=>(qio (names:=names) (s:=s.data.toList) (c:=c) (k:=0) (by rw [hR];exact e)).2.1.2.2.1
 replace hok:=Hd hok;have hrun0:=Hd (show Run30 names s.data.toList R 1 false noQ s.data.toList by unfold Run30;rw [if_pos rfl];exact ⟨rfl,rfl,rfl,hR.symm⟩);rw [hR];have HE:=Hd (fun W (hW:Below w.heap.size w W)=>hE.ext (xbw hW));have HNZ:=Hd hnz;clear hE hnz hR;go_enter Tryz.func5,Tryz.ntmps5;go_wp2;refine qak (fun W=>Blk W w.heap.size 26 #[.slice none 0 0,.slice none 0 0,.int .i64 0,.slice none 0 0]/\Below w.heap.size w W) ⟨bN rfl,brf.alloc (nlr _) _⟩ ?_;rintro w0 ⟨hx0,hw0⟩;obtain ⟨g,hg⟩:∃ q,w.heap.size=q:=⟨_,rfl⟩
 have hgw:=Hd (Nat.le_of_eq hg);rw [hg] at hx0 ⊢;replace hg:=Hd hg
 go_loopg [0,5,6,7] (s.size+1) (fun gk v0 v5 _ v7 wr=>∃ (n:Nat) (ended:Bool) (c:CrQ) (l:ByteArray) (fa:Option Addr) (fc:Nat) (hf:List PQ) (wa:Option Addr) (wc:Nat) (ca:Option Addr) (cc:Nat) (hc:List PQ),v0=.string l/\v5=.int .i64 (n:Int)/\v7=.bool ended/\Hid (l.size<gk)/\Hid (n+l.size<=s.size+1/\0<n) /\
  Hid (Blk wr g 26 #[.slice fa hf.length fc,.slice wa c.P.length wc,.int .i64 c.n,.slice ca hc.length cc])/\Hid (CrZ (fun b=>b=g) (g+1) wr c.F c.P c.C fa fc hf wa wc ca cc hc)/\Hid (hf.length<=n/\c.P.length<=n/\hc.length<=n)/\Hid (Run30 names s.data.toList R n ended c l.data.toList)/\Hid (Below w.heap.size w wr))
 case atStart=>exact ⟨1,false,noQ,s,none,0,[],none,0,none,0,[],rfl,rfl,rfl,Nat.lt_succ_self _,⟨by omega,by omega⟩,hx0,CrZ.nil,⟨by simp,by simp [noQ],by simp⟩,hrun0.out,hw0⟩
 case round =>
  clear hx0 hw0 hrun0;obtain ⟨n,ended,c,l,fa,fc,hf,wa,wc,ca,cc,hc,rfl,rfl,rfl,hgk,hnl2,hx,hr,hln,hrun,hwr⟩:=hrel;obtain ⟨w1,rfl⟩:∃ W:World,W=wr:=⟨_,rfl⟩
  have hx':=hx.out;have CC:=qdl l 10 10 rfl w1 (by have:=hnl2.out;omega);unfold cutB at CC;obtain ⟨be,hbe⟩:∃ b,(l.toList==[])=b:=⟨_,rfl⟩
  have hbe':(l.toList != []) = !be:=by rw [bne,hbe]
  have hle:l.data.toList=[]↔be=true:=by rw [<- hbe,qa6,beq_iff_eq]
  cases ended
  ·
   clear hbe hbe' hle;have hle:True:=trivial
   cases hcut:cutL 10 l.data.toList with
   | none =>
    skip
    rw [hcut] at CC;dsimp only at CC;have hrun1:=Hd (qmg hrun.out hcut (fun e=>by cases e.1));obtain ⟨S1,hS1⟩:∃ z,ofL l.data.toList=z:=⟨_,rfl⟩
    obtain ⟨S2,hS2⟩:∃ z,ofL []=z:=⟨_,rfl⟩
    rw [hS1,hS2] at CC;replace CC:=Hd CC;clear hcut hS1 hS2 hle;go_wp2_with fail;refine CC.out.mono ?_;rintro e w2 ⟨rfl,hb2⟩;have hx2:=hx'.below' hb2;obtain ⟨x0,x1,x2,x3⟩:=cq4 hx2;obtain ⟨f0,f1,f2,f3⟩:=fq4 hx2;have hlx:=Blk.lt hx2;have hx2':=Hd hx2;have hw2:=Hd (bth hwr.out hb2);have hr2:=Hd (hr.out.call hb2);clear CC hx2 hb2 hx' hx hr hwr
    -- the empty certificate is given with the line (n:Int) and the error 10;hrun1:R=(noQ,(n:Int),10);world WZ_,its block hx2'.out,hw2.out:Below
    go_wp2;refine qak (fun W=>Blk W g 26 #[.slice none 0 0,.slice none 0 0,.int .i64 0,.slice none 0 0]/\Below w.heap.size w W) ⟨blkS4 hx2'.out,qbu hw2.out hgw.out⟩ ?_;rintro W ⟨hzW,hbW⟩;obtain ⟨e0,e1,e2,e3⟩:=cq4 hzW;refine bodyPost_ret (v:=.tuple #[.agg #[.slice none 0 0,.slice none 0 0,.int .i64 0,.slice none 0 0],.int .i64 (n:Int),.int .i64 10]) (by simp [results,Tryz.results5,go_sem,e0,e1,e2,e3]) rfl ?_;exact qdu hrun1.out hbW
   | some tr =>
    skip
    obtain ⟨t,r⟩:=tr;rw [hcut] at CC;dsimp only at CC;have hlen:=qlg hcut;have hll:l.data.toList.length=l.size:=Array.length_toList;rw [hll] at hlen;obtain ⟨S1,hS1⟩:∃ z,ofL t=z:=⟨_,rfl⟩
    obtain ⟨S2,hS2⟩:∃ z,ofL r=z:=⟨_,rfl⟩
    have ht:t=S1.data.toList:=by rw [<- hS1,qaw]
    have hr0:r=S2.data.toList:=by rw [<- hS2,qaw]
    have ht1:t.length=S1.size:=by rw [ht];exact Array.length_toList
    have hr1:r.length=S2.size:=by rw [hr0];exact Array.length_toList
    rw [hS1,hS2] at CC;rw [ht1,hr1] at hlen;replace CC:=Hd CC;replace hlen:=Hd hlen;by_cases hn1:n=1
    ·
     subst hn1;obtain ⟨_,rfl,hno,hyes⟩:=qrv hrun.out hcut;rw [ht] at hno hyes;rw [hr0] at hyes;have C2:=fun W=>qdl S1 32 32 rfl W (by have:=hlen.out;have:=hnl2.out;omega)
     obtain ⟨⟨d,x,ok⟩,hcb⟩:∃ z,cutB 32 S1.data.toList=z:=⟨_,rfl⟩
     rw [hcb] at C2;dsimp only at C2;have hfq:=qyz hcb;rw [hfq] at hno hyes;have CN:=fun W=>qig 1 (ofL x) W (nlr _)
     rw [qaw] at CN;obtain ⟨S3,hS3⟩:∃ z,ofL d=z:=⟨_,rfl⟩
     obtain ⟨S4,hS4⟩:∃ z,ofL x=z:=⟨_,rfl⟩
     rw [hS3,hS4] at C2;rw [hS4] at CN;obtain ⟨bw,hbw⟩:∃ b,(S3.toList==[112,111,119,101,114])=b:=⟨_,rfl⟩
     have hdw:d=qfl↔bw=true:=by rw [<- hbw,<- hS3,qa6,qaw,beq_iff_eq];exact Iff.rfl
     have hnum:(∃ k:Nat,numC 1 x=some k/\n30 1 x=k/\1<=k/\k<=64)\/(numC 1 x=none/\n30 1 x = -1):=by
      unfold n30
      cases h:numC 1 x with
      | none=>exact .inr ⟨rfl,rfl⟩
      | some k=>have:=qcv h;exact .inl ⟨k,rfl,rfl,this.1,this.2.1⟩
     obtain ⟨K,hK⟩:∃ z,n30 1 x=z:=⟨_,rfl⟩
     rw [hK] at CN hnum;replace C2:=Hd C2;replace CN:=Hd CN;replace hno:=Hd hno;replace hyes:=Hd hyes;replace hdw:=Hd hdw;replace hnum:=Hd hnum;clear hrun hcut hS1 hS2 ht hr0 ht1 hr1 hll hcb hfq hS3 hS4 hK;go_wp2_with fail;refine CC.out.mono ?_;rintro e w2 ⟨rfl,hb2⟩;have hx2:=hx'.below' hb2;obtain ⟨x0,x1,x2,x3⟩:=cq4 hx2;obtain ⟨f0,f1,f2,f3⟩:=fq4 hx2;have hlx:=Blk.lt hx2;have hx2':=Hd hx2;have hw2:=Hd (bth hwr.out hb2);have hr2:=Hd (hr.out.call hb2);clear CC hx2 hb2 hx' hx hr hwr;have hfr:∀ b,w2.heap.size<=b->b≠g:=fun b hb=>by omega
     replace hfr:=Hd hfr;clear x0 x1 x2 x3 f0 f1 f2 f3 hlx;go_wp2_with fail;refine (C2.out w2).mono ?_;rintro e w3 ⟨rfl,hb3⟩;go_wp2_with fail;refine (CN.out w3).mono ?_;rintro e w4 ⟨rfl,hb4⟩;have hb24:=bth hb3 hb4;have hx4:=hx2'.out.below' hb24;obtain ⟨x0,x1,x2,x3⟩:=cq4 hx4;obtain ⟨f0,f1,f2,f3⟩:=fq4 hx4;have hlx:=Blk.lt hx4;have hx4':=Hd hx4;have hw4:=Hd (bth hw2.out hb24);have hr4:=Hd (hr2.out.call hb24);clear C2 CN hx4 hb3 hb4 hb24 hx2' hw2 hr2;rcases hnum.out with ⟨k,hk1,rfl,hk2,hk3⟩ | ⟨hk1,rfl⟩
     ·
      have dk:decide ((0:Int)<(k:Int))=true:=by rw [decide_eq_true_iff];omega
      have dk2:decide (0<k)=true:=decide_eq_true hk2;replace hk1:=Hd hk1;replace hk2:=Hd hk2;replace hk3:=Hd hk3
      cases ok
      ·
       have hrun1:=Hd (hno.out (by rw [if_neg fun e=>by cases e.1]))
       -- the empty certificate is given with the line 1 and the error 9;hrun1:R=(noQ,1,9);world WZ_,its block (bS hx4'.out rfl),(hw4.out.setCell (p:=⟨g,2,none⟩) hgw.out _):Below
       exact zz95
      ·
       cases bw
       ·
        have hrun1:=Hd (hno.out (by rw [if_neg fun e=>by cases hdw.out.1 e.2]))
        -- the empty certificate is given with the line 1 and the error 9;hrun1:R=(noQ,1,9);world WZ_,its block (bS hx4'.out rfl),(hw4.out.setCell (p:=⟨g,2,none⟩) hgw.out _):Below
        exact zz95
       ·
        have hrun2:=Hd (hyes.out _ (by rw [if_pos ⟨rfl,hdw.out.2 rfl⟩,hk1.out];rfl));clear hno hyes hdw;go_wp2;go_roundg (S2.size+1)
        case rel=>exact ⟨2,false,⟨[],[],k,[]⟩,S2,fa,fc,hf,wa,wc,ca,cc,hc,rfl,by go_num,rfl,Nat.lt_succ_self _,⟨by have:=hlen.out;have:=hnl2.out;omega,by omega⟩,bS hx4'.out rfl,hr4.out.set_ rfl (hr4.out.low (Nat.lt_succ_self _)).1 (hr4.out.low (Nat.lt_succ_self _)).2.1 (hr4.out.low (Nat.lt_succ_self _)).2.2,⟨by have:=hln.out.1;show _<=_;omega,by show (noQ.P).length<=_;simp [noQ],by have:=hln.out.2.2;omega⟩,hrun2.out,hw4.out.setCell hgw.out _⟩
        case measure=>have:=hlen.out;have:=hgk.out;omega
     ·
      have hno1:=Hd (hno.out (by rw [hk1];split <;> rfl));have hrun1:=hno1;replace hk1:=Hd hk1
      cases ok
      ·
       skip
       -- the empty certificate is given with the line 1 and the error 9;hrun1:R=(noQ,1,9);world WZ_,its block (bS hx4'.out rfl),(hw4.out.setCell (p:=⟨g,2,none⟩) hgw.out _):Below
       exact zz95
      ·
       cases bw
       ·
        skip
        -- the empty certificate is given with the line 1 and the error 9;hrun1:R=(noQ,1,9);world WZ_,its block (bS hx4'.out rfl),(hw4.out.setCell (p:=⟨g,2,none⟩) hgw.out _):Below
        exact zz95
       ·
        skip
        -- the empty certificate is given with the line 1 and the error 9;hrun1:R=(noQ,1,9);world WZ_,its block (bS hx4'.out rfl),(hw4.out.setCell (p:=⟨g,2,none⟩) hgw.out _):Below
        exact zz95
    ·
     have hnb:n<=2001:=by have:=hnl2.out;omega
     have hn1b:((n:Int)==1)=false:=by rw [beq_eq_false_iff_ne];omega
     have hn1c:(n==1)=false:=by rw [beq_eq_false_iff_ne];exact hn1
     have hL:=qtk hrun.out hn1 hcut (by have:=hnl2.out;omega);rw [ht,hr0] at hL;obtain ⟨bE,hbE⟩:∃ b,(S1.toList==[101,110,100])=b:=⟨_,rfl⟩
     have hte:S1.data.toList=wEnd↔bE=true:=by rw [<- hbE,qa6,beq_iff_eq];exact Iff.rfl
     replace hn1:=Hd hn1
     cases bE
     ·
      have hL2:=Hd (hL.2 fun e=>by cases hte.1 e);have hS1s:S1.size<=2000:=by have:=hlen.out;have:=hnl2.out;omega
      have hWk:WokL names S1.data.toList:=qmp (by rw [show S1.data.toList.length=S1.size from Array.length_toList];exact hS1s);have AD:=Hd (fun W (hW:Below w.heap.size w W) (hx:g<W.heap.size) (hr:CrZ (fun b=>b=g) (g+1) W c.F c.P c.C fa fc hf wa wc ca cc hc)=>qsk (fun b=>b=g) (g+1) n names na nc S1 c fa wa ca fc wc cc hf hc W hr (fun b hb=>by rw [hb];exact hx) hx hln.out.1 hln.out.2.1 hln.out.2.2 (by have:=hnl2.out;omega) (HE.out W hW) HNZ.out hnl (by omega) hWk);obtain ⟨PG,hPG⟩:∃ z,lineQ names c S1.data.toList=z:=⟨_,rfl⟩
      rw [hPG] at AD hL2;clear hrun hcut hS1 hS2 ht hr0 ht1 hr1 hll hL hte hS1s hWk hPG;go_wp2_with fail;refine CC.out.mono ?_;rintro e w2 ⟨rfl,hb2⟩;have hx2:=hx'.below' hb2;obtain ⟨x0,x1,x2,x3⟩:=cq4 hx2;obtain ⟨f0,f1,f2,f3⟩:=fq4 hx2;have hlx:=Blk.lt hx2;have hx2':=Hd hx2;have hw2:=Hd (bth hwr.out hb2);have hr2:=Hd (hr.out.call hb2);clear CC hx2 hb2 hx' hx hr hwr;have AD2:=Hd (AD.out w2 hw2.out hlx hr2.out);clear AD;go_wp2_with fail;refine AD2.out.mono ?_;rintro e w3 ⟨fa2,nf,fc2,wa2,np,wc2,z2,ca2,nk,cc2,er,rfl,hb3,hs3,hok3,hbad3⟩;have hx3:=hx2'.out.below hb3 (Nat.lt_succ_self _);have hw3:=Hd (show Below w.heap.size w w3 from hw2.out.trans (hb3.mono (by have:=hgw.out;omega)));clear AD2 x0 x1 x2 x3 f0 f1 f2 f3 hlx hb3 hs3 hx2' hw2 hr2;obtain ⟨x0,x1,x2,x3⟩:=cq4 hx3;obtain ⟨f0,f1,f2,f3⟩:=fq4 hx3;have hlx:=Blk.lt hx3;have hx3':=Hd hx3;clear hx3;obtain ⟨o,er'⟩:=PG
      cases o with
      | none =>
       obtain ⟨rfl,h0⟩:=hbad3 er' rfl;have hrun1:=Hd (hL2.out.2 er rfl);have hne:(er != 0)=true:=by simpa using h0
       replace h0:=Hd h0;clear hok3 hbad3 hL2
       -- the empty certificate is given with the line (n:Int) and the error er;hrun1:R=(noQ,(n:Int),er);world WZ_,its block (blkS4 hx3'.out),(qbu hw3.out hgw.out):Below
       go_wp2;refine qak (fun W=>Blk W g 26 #[.slice none 0 0,.slice none 0 0,.int .i64 0,.slice none 0 0]/\Below w.heap.size w W) ⟨blkS4 (blkS4 hx3'.out),qbu (qbu hw3.out hgw.out) hgw.out⟩ ?_;rintro W ⟨hzW,hbW⟩;obtain ⟨e0,e1,e2,e3⟩:=cq4 hzW;refine bodyPost_ret (v:=.tuple #[.agg #[.slice none 0 0,.slice none 0 0,.int .i64 0,.slice none 0 0],.int .i64 (n:Int),.int .i64 er]) (by simp [results,Tryz.results5,go_sem,e0,e1,e2,e3]) rfl ?_;exact qdu hrun1.out hbW
      | some c' =>
       obtain ⟨rfl,hf2,hc2,rfl,rfl,rfl,rfl,hr3,hl1,hl2,hl3⟩:=hok3 c' er' rfl;have hrun2:=Hd (hL2.out.1 c' er' rfl);have hr3':=Hd hr3;have hl':=Hd (And.intro hl1 (And.intro hl2 hl3));clear hok3 hbad3 hL2 hr3 hl1 hl2 hl3;go_wp2;go_roundg (S2.size+1)
       case rel=>exact ⟨n+1,false,c',S2,fa2,fc2,hf2,wa2,wc2,ca2,cc2,hc2,rfl,by go_num,rfl,Nat.lt_succ_self _,⟨by have:=hlen.out;have:=hnl2.out;omega,by omega⟩,blkS4 hx3'.out,hr3'.out.set4 rfl (hr3'.out.low (Nat.lt_succ_self _)),hl'.out,hrun2.out,qbu hw3.out hgw.out⟩
       case measure=>have:=hlen.out;have:=hgk.out;omega
     ·
      have hrun2:=Hd (hL.1 (hte.2 rfl));clear hrun hcut hS1 hS2 ht hr0 ht1 hr1 hll hL hte;go_wp2_with fail;refine CC.out.mono ?_;rintro e w2 ⟨rfl,hb2⟩;have hx2:=hx'.below' hb2;obtain ⟨x0,x1,x2,x3⟩:=cq4 hx2;obtain ⟨f0,f1,f2,f3⟩:=fq4 hx2;have hlx:=Blk.lt hx2;have hx2':=Hd hx2;have hw2:=Hd (bth hwr.out hb2);have hr2:=Hd (hr.out.call hb2);clear CC hx2 hb2 hx' hx hr hwr;go_wp2;go_roundg (S2.size+1)
      case rel=>exact ⟨n+1,true,c,S2,fa,fc,hf,wa,wc,ca,cc,hc,rfl,by go_num,rfl,Nat.lt_succ_self _,⟨by have:=hlen.out;have:=hnl2.out;omega,by omega⟩,hx2'.out,hr2.out,⟨by have:=hln.out.1;omega,by have:=hln.out.2.1;omega,by have:=hln.out.2.2;omega⟩,hrun2.out,hw2.out⟩
      case measure=>have:=hlen.out;have:=hgk.out;omega
  ·
   cases be
   ·
    have hle2:l.data.toList≠[]:=fun e=>by cases hle.1 e
    cases hcut:cutL 10 l.data.toList with
    | none =>
     skip
     rw [hcut] at CC;dsimp only at CC;have hrun1:=Hd (qmg hrun.out hcut (fun e=>hle2 e.2));obtain ⟨S1,hS1⟩:∃ z,ofL l.data.toList=z:=⟨_,rfl⟩
     obtain ⟨S2,hS2⟩:∃ z,ofL []=z:=⟨_,rfl⟩
     rw [hS1,hS2] at CC;replace CC:=Hd CC;clear hcut hS1 hS2 hle;go_wp2_with fail;refine CC.out.mono ?_;rintro e w2 ⟨rfl,hb2⟩;have hx2:=hx'.below' hb2;obtain ⟨x0,x1,x2,x3⟩:=cq4 hx2;obtain ⟨f0,f1,f2,f3⟩:=fq4 hx2;have hlx:=Blk.lt hx2;have hx2':=Hd hx2;have hw2:=Hd (bth hwr.out hb2);have hr2:=Hd (hr.out.call hb2);clear CC hx2 hb2 hx' hx hr hwr
     -- the empty certificate is given with the line (n:Int) and the error 10;hrun1:R=(noQ,(n:Int),10);world WZ_,its block hx2'.out,hw2.out:Below
     go_wp2;refine qak (fun W=>Blk W g 26 #[.slice none 0 0,.slice none 0 0,.int .i64 0,.slice none 0 0]/\Below w.heap.size w W) ⟨blkS4 hx2'.out,qbu hw2.out hgw.out⟩ ?_;rintro W ⟨hzW,hbW⟩;obtain ⟨e0,e1,e2,e3⟩:=cq4 hzW;refine bodyPost_ret (v:=.tuple #[.agg #[.slice none 0 0,.slice none 0 0,.int .i64 0,.slice none 0 0],.int .i64 (n:Int),.int .i64 10]) (by simp [results,Tryz.results5,go_sem,e0,e1,e2,e3]) rfl ?_;exact qdu hrun1.out hbW
    | some tr =>
     skip
     obtain ⟨t,r⟩:=tr;rw [hcut] at CC;dsimp only at CC;have hlen:=qlg hcut;have hll:l.data.toList.length=l.size:=Array.length_toList;rw [hll] at hlen;obtain ⟨S1,hS1⟩:∃ z,ofL t=z:=⟨_,rfl⟩
     obtain ⟨S2,hS2⟩:∃ z,ofL r=z:=⟨_,rfl⟩
     have ht:t=S1.data.toList:=by rw [<- hS1,qaw]
     have hr0:r=S2.data.toList:=by rw [<- hS2,qaw]
     have ht1:t.length=S1.size:=by rw [ht];exact Array.length_toList
     have hr1:r.length=S2.size:=by rw [hr0];exact Array.length_toList
     rw [hS1,hS2] at CC;rw [ht1,hr1] at hlen;replace CC:=Hd CC;replace hlen:=Hd hlen;obtain ⟨hrun1,hn1⟩:=qse hrun.out hcut;replace hrun1:=Hd hrun1;have hn1b:((n:Int)==1)=false:=by rw [beq_eq_false_iff_ne];omega
     have hn1c:(n==1)=false:=by rw [beq_eq_false_iff_ne];exact hn1
     replace hn1:=Hd hn1;clear hrun hcut hS1 hS2 ht hr0 ht1 hr1 hll hle hle2;go_wp2_with fail;refine CC.out.mono ?_;rintro e w2 ⟨rfl,hb2⟩;have hx2:=hx'.below' hb2;obtain ⟨x0,x1,x2,x3⟩:=cq4 hx2;obtain ⟨f0,f1,f2,f3⟩:=fq4 hx2;have hlx:=Blk.lt hx2;have hx2':=Hd hx2;have hw2:=Hd (bth hwr.out hb2);have hr2:=Hd (hr.out.call hb2);clear CC hx2 hb2 hx' hx hr hwr
     -- the empty certificate is given with the line (n:Int) and the error 9;hrun1:R=(noQ,(n:Int),9);world WZ_,its block hx2'.out,hw2.out:Below
     go_wp2;refine qak (fun W=>Blk W g 26 #[.slice none 0 0,.slice none 0 0,.int .i64 0,.slice none 0 0]/\Below w.heap.size w W) ⟨blkS4 hx2'.out,qbu hw2.out hgw.out⟩ ?_;rintro W ⟨hzW,hbW⟩;obtain ⟨e0,e1,e2,e3⟩:=cq4 hzW;refine bodyPost_ret (v:=.tuple #[.agg #[.slice none 0 0,.slice none 0 0,.int .i64 0,.slice none 0 0],.int .i64 (n:Int),.int .i64 9]) (by simp [results,Tryz.results5,go_sem,e0,e1,e2,e3]) rfl ?_;exact qdu hrun1.out hbW
   ·
    have hRe:=qwm hrun.out (hle.2 rfl);have hpx:=Hd (hok.out c hRe);rw [hr.out.aF.1,hr.out.aC.1] at hx';obtain ⟨x0,x1,x2,x3⟩:=cq4 hx';obtain ⟨f0,f1,f2,f3⟩:=fq4 hx';have hlx:=Blk.lt hx';replace hRe:=Hd hRe;have hx2:=Hd hx';clear hx' hx CC hle;go_wp2;refine qak (fun W=>Blk W g 26 #[.slice fa c.F.length fc,.slice wa c.P.length wc,.int .i64 c.n,.slice ca c.C.length cc]/\Below w.heap.size w W/\CrZ (fun b=>b=g) (g+1) W c.F c.P c.C fa fc hf wa wc ca cc hc) ⟨blkS4 hx2.out,qbu hwr.out hgw.out,hr.out.set4 rfl (hr.out.low (Nat.lt_succ_self _))⟩ ?_;rintro W ⟨hzW,hbW,hrW⟩;obtain ⟨e0,e1,e2,e3⟩:=cq4 hzW;refine bodyPost_ret (v:=.tuple #[.agg #[.slice fa c.F.length fc,.slice wa c.P.length wc,.int .i64 c.n,.slice ca c.C.length cc],.int .i64 0,.int .i64 0]) (by simp [results,Tryz.results5,go_sem,e0,e1,e2,e3]) rfl ?_;rw [hRe.out]
    exact ⟨fa,wa,ca,fc,wc,cc,rfl,hbW,qhc hrW.oF hrW.aF,hrW.oP.reads1 fun x hx=>by have:=hpx.out x hx;exact ⟨by omega,by omega⟩,qhc hrW.oC hrW.aC⟩
end Go.Proofs.YtnilkimcdgmgkaaGreatDoor
