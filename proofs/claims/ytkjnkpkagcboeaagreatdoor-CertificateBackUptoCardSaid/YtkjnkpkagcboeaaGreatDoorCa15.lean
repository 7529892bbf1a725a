/- How a law's row is closed: the call answers true and turns nothing that was there before, so each argument reads as it did. No function of the program in sight. -/
import Derived.Test.YtkjnkpkagcboeaaGreatDoorCa14
import Derived.Test.YtkjnkpkagcboeaaGreatDoorCa10
import Derived.Test.YtkjnkpkagcboeaaGreatDoorCa13
import Derived.Test.YtkjnkpkagcboeaaGreatDoorCa8
import Derived.Test.YtkjnkpkagcboeaaGreatDoorCa7
import Derived.Test.YtkjnkpkagcboeaaGreatDoorCa6
import Derived.Test.YtkjnkpkagcboeaaGreatDoorCa1
import Derived.LoopTactic
import Derived.Deep.LoopGhost
import Derived.Test.YtkjnkpkagcboeaaGreatDoorCa4
import Derived.Test.YtkjnkpkagcboeaaGreatDoorCa9
import Derived.JoinedCond
set_option linter.all false
set_option maxRecDepth 100000
set_option maxHeartbeats 4000000
namespace Go.Proofs.YtkjnkpkagcboeaaGreatDoor
open Go.RowKit
theorem line1_any (g:Nat) (names:List ByteArray) (na:Option Addr) (nc:Nat) (s:ByteArray) (c:CrQ) (part m:Nat) (w:World) (hp:part = partQ c) (hst:CrSt g (.slice na names.length nc) m w c part) (hm:m <= 16000000)
  (hE:∀ W,Below g w W -> EnvC names na nc W) (hnz:∀ x ∈ names,x.size <= 1048576) (hnl:names.length <= 1000) (hs:s.size < 4294967281) (hW:WokL names s.data.toList) :
  Calls Tryz.prog 43 #[.pointer (some ⟨g,0,none⟩),.string s] w (RetFa g (.slice na names.length nc) (m + 1) (linP names part c s.data.toList) w):=by
 have hst0:=Hd hst;obtain ⟨fa,fc,hf,wa,wc,ca,cc,hc,hb,hr,hm1,hm2,hm3⟩:=hst;have hl:=hb.lt;have HE0:=Hd hE;have HE:=Hd (fun W (hW:Below w.heap.size w W)=>hE W (hW.mono (Nat.le_of_lt hl)));have CC:=cut_any s w (HE.out w brf).2.1 hs;have hpz:part ≠ 0 /\ part ≠ 3:=by rw [hp]; unfold partQ; split <;> decide
 have hp0:((part:Int) == 0) = false:=by rw [beq_eq_false_iff_ne]; omega
 have hp3:((part:Int) == 3) = false:=by rw [beq_eq_false_iff_ne]; omega
 have hp0':(part == 0) = false:=by rw [beq_eq_false_iff_ne]; exact hpz.1
 have hp3':(part == 3) = false:=by rw [beq_eq_false_iff_ne]; exact hpz.2
 have hlen:s.data.toList.length = s.size:=Array.length_toList;have HB:=Hd hb; have HR:=Hd hr; have HM:=Hd (And.intro hm1 (And.intro hm2 hm3)); have HNZ:=Hd hnz;have hgw:=Hd (Nat.le_of_lt hl);clear hE hb hr hm1 hm2 hm3 hnz hpz;by_cases hen:s.data.toList = wEnd
 ·
  have hG:=linP_end (names:=names) hp;rw [<- hen] at hG;have hbe:(s.toList == [101,110,100]) = true:=by rw [toList_data,beq_iff_eq]; exact hen
  obtain ⟨⟨c1,c2,c3⟩,hcc⟩:∃ z,cutC s.data.toList = z:=⟨_,rfl⟩
  rw [hcc] at CC;dsimp only at CC;replace CC:=Hd CC; replace hG:=Hd hG; replace hp:=Hd hp;clear hcc hen hlen hW;go_enter Tryz.func43,Tryz.ntmps43;go_wp2_with fail;refine CC.out.mono ?_;rintro e w1 ⟨rfl,hb1⟩;have hB1:=HB.out.below' hb1;have z5:=hB1.cell 5;have hl1:=hB1.lt;have f5:=hB1.frozen 5;have hB1':=Hd hB1;clear hB1;go_wp2;go_ret;refine retFa_ok hG.out ((hb1.mono hgw.out).setCell (nlr _) _) ⟨fa,fc,hf,wa,wc,ca,cc,hc,bS hB1'.out rfl,(HR.out.call hb1).fr ((Fr.refl _ _).setc (.inl rfl)),?_,?_,?_⟩
  · have:=HM.out.1; omega
  · have:=HM.out.2.1; omega
  · have:=HM.out.2.2; omega
 have hbe:(s.toList == [101,110,100]) = false:=by rw [toList_data,beq_eq_false_iff_ne]; exact hen
 unfold cutC at CC
 cases hcut:cutL 32 s.data.toList with
 | none =>
  rw [hcut] at CC;dsimp only at CC;have hG:=linP_bad (names:=names) hp hen fun w r h=>by rw [hcut] at h; cases h
  obtain ⟨S1,hS1⟩:∃ z,ofL s.data.toList = z:=⟨_,rfl⟩
  obtain ⟨S2,hS2⟩:∃ z,ofL [] = z:=⟨_,rfl⟩
  rw [hS1,hS2] at CC;obtain ⟨bf,hbf⟩:∃ b,(S1.toList == [102,97,99,116,111,114]) = b:=⟨_,rfl⟩
  obtain ⟨bc,hbc⟩:∃ b,(S1.toList == [99,111,102,97,99,116,111,114]) = b:=⟨_,rfl⟩
  replace CC:=Hd CC; replace hp:=Hd hp; replace hen:=Hd hen;clear hcut hlen hS1 hS2 hW
  cases bf
  ·
   cases bc
   ·
    skip
    go_enter Tryz.func43,Tryz.ntmps43;go_wp2_with fail;refine CC.out.mono ?_;rintro e w1 ⟨rfl,hb1⟩;have hB1:=HB.out.below' hb1;have z5:=hB1.cell 5;have hl1:=hB1.lt;clear hB1;go_wp2;go_ret;exact retFa_bad hG (by decide) (hb1.mono hgw.out)
   ·
    skip
    go_enter Tryz.func43,Tryz.ntmps43;go_wp2_with fail;refine CC.out.mono ?_;rintro e w1 ⟨rfl,hb1⟩;have hB1:=HB.out.below' hb1;have z5:=hB1.cell 5;have hl1:=hB1.lt;clear hB1;go_wp2;go_ret;exact retFa_bad hG (by decide) (hb1.mono hgw.out)
  ·
   cases bc
   ·
    skip
    go_enter Tryz.func43,Tryz.ntmps43;go_wp2_with fail;refine CC.out.mono ?_;rintro e w1 ⟨rfl,hb1⟩;have hB1:=HB.out.below' hb1;have z5:=hB1.cell 5;have hl1:=hB1.lt;clear hB1;go_wp2;go_ret;exact retFa_bad hG (by decide) (hb1.mono hgw.out)
   ·
    skip
    go_enter Tryz.func43,Tryz.ntmps43;go_wp2_with fail;refine CC.out.mono ?_;rintro e w1 ⟨rfl,hb1⟩;have hB1:=HB.out.below' hb1;have z5:=hB1.cell 5;have hl1:=hB1.lt;clear hB1;go_wp2;go_ret;exact retFa_bad hG (by decide) (hb1.mono hgw.out)
 | some dx =>
  obtain ⟨d,x⟩:=dx;have hWk:=hW d x hcut;obtain ⟨hcs,_⟩:=cutL_some 32 _ _ _ hcut;have hll:=congrArg List.length hcs;rw [List.length_append,List.length_cons,hlen] at hll;rw [hcut] at CC;dsimp only at CC;have hxs:(ofL x).size < 4294967281:=by rw [ofL_size]; omega
  obtain ⟨S1,hS1⟩:∃ z,ofL d = z:=⟨_,rfl⟩
  obtain ⟨S2,hS2⟩:∃ z,ofL x = z:=⟨_,rfl⟩
  have hx2:x = S2.data.toList:=by rw [<- hS2,data_ofL]
  rw [hS2] at hxs;rw [hS1,hS2] at CC;obtain ⟨bf,hbf⟩:∃ b,(S1.toList == [102,97,99,116,111,114]) = b:=⟨_,rfl⟩
  obtain ⟨bc,hbc⟩:∃ b,(S1.toList == [99,111,102,97,99,116,111,114]) = b:=⟨_,rfl⟩
  have hdf:d = wFactor ↔ bf = true:=by rw [<- hbf,<- hS1,toList_data,data_ofL,beq_iff_eq]; exact Iff.rfl
  have hdc:d = wCof ↔ bc = true:=by rw [<- hbc,<- hS1,toList_data,data_ofL,beq_iff_eq]; exact Iff.rfl
  replace CC:=Hd CC
  cases bf
  ·
   cases bc
   ·
    have hG:=linP_bad (names:=names) hp hen fun w r h=>by
     rw [hcut] at h;injection h with h
     injection h with h1 h2
     subst h1 h2;exact ⟨fun e=>(by cases hdc.1 e),fun e=>(by cases hdf.1 e)⟩
    replace hp:=Hd hp; replace hen:=Hd hen;clear hW hcut hWk hcs hll hx2 hS2 hS1 hdf hdc hlen;go_enter Tryz.func43,Tryz.ntmps43;go_wp2_with fail;refine CC.out.mono ?_;rintro e w1 ⟨rfl,hb1⟩;have hB1:=HB.out.below' hb1;have z5:=hB1.cell 5;have hl1:=hB1.lt;clear hB1;go_wp2;go_ret;exact retFa_bad hG (by decide) (hb1.mono hgw.out)
   ·
    have hd:=hdc.2 rfl;subst hd;have hG:=linP_cof (names:=names) hp hen hcut;have hWx:=hWk.1 rfl;rw [hx2] at hWx hG;have CP:=fun W (hW:Below w.heap.size w W)=>polyC_any (Xc g fa wa ca) g names na nc S2 _ _ _ _ _ W (fun b hb=>ltl (HR.out.xlt hl b hb) hW.size) (HB.out.below' hW) (fun V hV=>HE.out V (bth hW hV)) HNZ.out hnl (by omega) hWx
    obtain ⟨PG,hPG⟩:∃ z,polC names S2.data.toList = z:=⟨_,rfl⟩
    rw [hPG] at CP hG;have hG1:=Hd hG;replace CP:=Hd CP; replace hp:=Hd hp; replace hen:=Hd hen;clear hW hcut hWk hcs hll hx2 hS2 hS1 hdf hdc hlen hWx hPG hG;go_enter Tryz.func43,Tryz.ntmps43;go_wp2_with fail;refine CC.out.mono ?_;rintro e w1 ⟨rfl,hb1⟩;have hB1:=HB.out.below' hb1;have z5:=hB1.cell 5;have hl1:=hB1.lt;clear hB1;go_wp2_with fail;refine (CP.out w1 hb1).mono ?_;rintro e w3 ⟨a,n,cp,er,rfl,hb3,hok,hbad⟩;have hw3:=bth hb1 hb3;clear CP z5 hl1;have hG:=hG1.out;clear hG1;obtain ⟨o,er'⟩:=PG
    cases o with
    | none =>
     obtain ⟨rfl,h0⟩:=hbad er' rfl;dsimp only at hG;have hne:(er != 0) = true:=by simpa using h0
     have h0':=Hd h0;clear h0 hok hbad;go_wp2;go_ret;exact retFa_bad hG h0'.out (hw3.mono hgw.out)
    | some p =>
     obtain ⟨rfl,hP,rfl⟩:=hok p er' rfl;dsimp only at hG;obtain ⟨n,hn⟩:∃ n,p.length = n:=⟨_,rfl⟩
     rw [hn];have hr3:=HR.out.call hw3;have hB3:=HB.out.below' hw3;have z4:=hB3.cell 4;have hl3:=hB3.lt;have hB4:=Hd (bA (o:=.cells #[.slice a n cp] 23) hB3);have hr4:=Hd (hr3.call (brf.alloc (nlr _) (.cells #[.slice a n cp] 23)));have hP4:=Hd (show PolX (Xc g fa wa ca) (w3.alloc (.cells #[.slice a n cp] 23)) a cp p from hP.step ((Agr.refl _ _).alloc _));have hw4:=Hd (show Below g w (w3.alloc (.cells #[.slice a n cp] 23)) from (hw3.mono hgw.out).alloc (Nat.le_of_lt hl3) _);have hcl:Hid (∀ j v,(PQ.cs ⟨n,a,cp⟩)[j]? = some v -> (w3.alloc (.cells #[.slice a n cp] 23)).cell? ⟨w3.heap.size,j,none⟩ = some v):=Hd fun j v hj=>by
      cases j with
      | zero=>simp [PQ.cs] at hj; subst hj; exact (Blk.new w3 23 #[.slice a n cp]).cell 0
      | succ j=>simp [PQ.cs] at hj
     have hl4:=Hd (show g < w3.heap.size from hl3);have hn':=Hd hn;have hG':=Hd hG;clear hP hr3 hB3 hw3 hn hG hb1 hb3 hok hbad;go_wp2_with (at_builtin; go_must (refine wpList_append_1 (B:=g + 1) rfl (.tmp 92) (.tmp 94) 37 rfl Tryz.underlying37 infoPq rfl (by omega) (by omega) PQ.cs_len ca cc (l:=hc) rfl hr4.out.oC ⟨n,a,cp⟩ (PQ.cs_one _) w3.heap.size 1 rfl hcl.out (hc ++ [⟨n,a,cp⟩]) rfl (by have:=HM.out.2.2; rw [List.length_append]; simp; omega) (by have:=hl4.out; simp; omega) ?_); intro ca2 cc2 w5 ho5 hg5 ha5; refine park ?_);refine Hd ?_;have hB5:=hB4.out.under hr4.out.oC (Nat.lt_succ_self _) hg5;have hr5:=Hd (hr4.out.pushC hg5 ho5 ha5 hP4.out hn'.out.symm);have hw5:=Hd (below_own hw4.out hr4.out.oC (by have:=hl4.out; simp; omega) hg5);have hll:(hc ++ [(⟨n,a,cp⟩:PQ)]).length = hc.length + 1:=by simp
     have y4:=hB5.cell 4; have y5:=hB5.cell 5;have f4:=hB5.frozen 4; have f5:=hB5.frozen 5;have hl5:=hB5.lt;have hB5':=Hd hB5;clear z4 hl3 hB4 hr4 hP4 hw4 hcl hl4 ho5 hg5 ha5 hB5;obtain ⟨hc2,hhc2⟩:∃ z,hc ++ [(⟨n,a,cp⟩:PQ)] = z:=⟨_,rfl⟩
     rw [hhc2] at hr5 hll;rw [<- hll];have hll':=Hd hll;clear hhc2 hll;go_wp2;go_ret;refine retFa_ok hG'.out ((hw5.out.setCell (nlr _) _).setCell (nlr _) _) ⟨fa,fc,hf,wa,wc,ca2,cc2,hc2,bS (bS hB5'.out rfl) rfl,(hr5.out.fr ((Fr.refl _ _).setc (.inl rfl))).fr ((Fr.refl _ _).setc (.inl rfl)),?_,?_,?_⟩
     · have:=HM.out.1; omega
     · have:=HM.out.2.1; show c.P.length <= _; omega
     · have:=HM.out.2.2; have:=hll'.out; omega
  ·
   have hd:=hdf.2 rfl;subst hd;have hG:=linP_fac (names:=names) hp hen hcut;have hWx:=hWk.2 rfl;rw [hx2] at hWx hG;have CF:=fun W (hW:Below w.heap.size w W)=>factor_any g names na nc S2 c part m W (hst0.out.call hW) hm (fun V hV=>HE0.out V ((hW.mono hgw.out).trans hV)) HNZ.out hnl hxs hWx
   rw [<- hG] at CF;obtain ⟨G,hGG⟩:∃ G,linP names part c s.data.toList = G:=⟨_,rfl⟩
   rw [hGG] at CF ⊢;replace CF:=Hd CF; replace hp:=Hd hp; replace hen:=Hd hen;clear hW hcut hWk hcs hll hx2 hS2 hS1 hdf hdc hlen hWx hG hGG;go_enter Tryz.func43,Tryz.ntmps43;go_wp2_with fail;refine CC.out.mono ?_;rintro e w1 ⟨rfl,hb1⟩;have hB1:=HB.out.below' hb1;have z5:=hB1.cell 5;have hl1:=hB1.lt;clear hB1;go_wp2_with fail;refine (CF.out w1 hb1).mono ?_;rintro e w3 ⟨er,rfl,hb3,h1,h2⟩;replace h1:=Hd h1; replace h2:=Hd h2;clear CF z5 hl1;go_wp2;go_ret;exact ⟨er,rfl,(hb1.mono hgw.out).trans hb3,h1.out,h2.out⟩
theorem next_any (q rb n k:Nat) (x:ByteArray) (w:World) (hq:Blk w q 83 #[.slice (some ⟨rb,0,none⟩) n n,.int .i64 (k:Int)]) (hx:w.cell? ⟨rb,k,none⟩ = some (.string x)) (hk:k < n) (hn:n <= 4611686018427387904) (hne:rb ≠ q) :
  Calls Tryz.prog 42 #[.pointer (some ⟨q,0,none⟩)] w fun e w'=>e = .returned (.tuple #[.string x,.bool true]) /\ Blk w' q 83 #[.slice (some ⟨rb,0,none⟩) n n,.int .i64 ((k + 1:Nat):Int)] /\ Fg q w w':=by
 have z0:=hq.cell 0; have z1:=hq.cell 1;have f1:=hq.frozen 1;have hl:=hq.lt;have hlr:=World.block_lt_of_cell? w _ hx;have d1:decide ((n:Int) <= (k:Int)) = false:=by rw [decide_eq_false_iff_not]; omega
 have d2:decide (n <= k) = false:=by rw [decide_eq_false_iff_not]; omega
 have hW:=Hd (show Blk ((w.setCell ⟨q,1,none⟩ (.int .i64 ((k:Int) + 1))).drew) q 83 #[.slice (some ⟨rb,0,none⟩) n n,.int .i64 ((k:Int) + 1)] /\ ((w.setCell ⟨q,1,none⟩ (.int .i64 ((k:Int) + 1))).drew).cell? ⟨rb,k,none⟩ = some (.string x) /\ Fg q w ((w.setCell ⟨q,1,none⟩ (.int .i64 ((k:Int) + 1))).drew) from
  ⟨bS hq rfl,(World.cell?_setCell_other w ⟨q,1,none⟩ ⟨rb,k,none⟩ _ (fun e=>by injection e with e _; exact hne e.symm)).trans hx,((Fr.refl (fun b=>b = q) w).setc (.inl rfl)).call (brf.drew)⟩)
 clear hq hx;go_enter Tryz.func42,Tryz.ntmps42;go_wp2;refine wp_region_mix (S:=(fun x=>x = w.drew)) [(0,.q),(1,.q),(2,.q),(3,.q),(4,.q),(5,.q),(6,.q),(7,.q),(8,.q),(9,.p)] (by kernel_rfl) (by kernel_rfl) (by kernel_rfl) (fun d _ _ _ _ h=>by cases d <;> exact h) (rfl) ?_
 iterate 9 (refine wpMix_q rfl rfl (fun K hK=>?_); apply Exists.intro; refine ⟨fun w' hw'=>?_,?_⟩; (focus (go_simp; try rfl)); go_simp; refine hK _ _ ?_; clear hK K)
 iterate 1 (refine wpMix_p rfl rfl (fun K hK=>?_); apply Exists.intro; refine ⟨fun w'=>?_,?_⟩; (focus (go_simp; try rfl)); go_simp; refine hK _ _ ?_; clear hK K)
 refine wpMix_nil ?_;go_wp2;obtain ⟨W,hWe⟩:∃ W,(w.setCell ⟨q,1,none⟩ (.int .i64 ((k:Int) + 1))).drew = W:=⟨_,rfl⟩
 rw [hWe] at hW ⊢;have hW2:=Hd (hW.out.1.drew);have y0:=hW.out.1.cell 0; have y1:=hW.out.1.cell 1; have y2:=hW.out.2.1;have hl2:=hW.out.1.lt;have hF:=Hd (hW.out.2.2.call (brf.drew));have e1:(k:Int) + 1 - 1 = (k:Int):=by omega
 have e2:IntKind.i64.wrap (k:Int) = (k:Int):=by rw [IntKind.wrap_i64]; omega
 have e3:(0:Int) <= (k:Int) /\ (k:Int) < (n:Int):=⟨by omega,by omega⟩
 clear z0 z1 f1 hl hlr hWe hW d1 d2;refine wp_region_mix (S:=(fun x=>x = W.drew)) [(0,.q),(1,.q),(2,.q),(3,.q),(4,.q),(5,.q),(6,.q),(7,.q),(8,.q),(9,.q),(10,.q),(11,.p),(12,.p)] (by kernel_rfl) (by kernel_rfl) (by kernel_rfl) (fun d _ _ _ _ h=>by cases d <;> exact h) (rfl) ?_
 iterate 11 (refine wpMix_q rfl rfl (fun K hK=>?_); apply Exists.intro; refine ⟨fun w' hw'=>?_,?_⟩; (focus (go_simp; try rfl)); go_simp; refine hK _ _ ?_; clear hK K)
 iterate 2 (refine wpMix_p rfl rfl (fun K hK=>?_); apply Exists.intro; refine ⟨fun w'=>?_,?_⟩; (focus (go_simp; try rfl)); go_simp; refine hK _ _ ?_; clear hK K)
 refine wpMix_nil ?_;go_wp2;go_ret2;exact ⟨rfl,hW2.out,hF.out⟩
def RetCr (R:CrQ × Nat × Int) (w:World) (e:Ending) (w':World):Prop:=∃ (fa wa ca:Option Addr) (fc wc cc:Nat),e = .returned (.tuple #[.agg #[.slice fa R.1.F.length fc,.slice wa R.1.P.length wc,.int .i64 R.1.n,.slice ca R.1.C.length cc],.int .i64 R.2.1,.int .i64 R.2.2]) /\ Below w.heap.size w w' /\
 PolysR w' fa fc (R.1.F.map (·.map trmOf)) /\ IntsR w' wa wc R.1.P /\ PolysR w' ca cc (R.1.C.map (·.map trmOf))
theorem retCr_bad {R:CrQ × Nat × Int} {n:Nat} {er:Int} {w w':World} (hR:R = (noQ,n,er)) (hb:Below w.heap.size w w'):RetCr R w (.returned (.tuple #[.agg #[.slice none 0 0,.slice none 0 0,.int .i64 0,.slice none 0 0],.int .i64 n,.int .i64 er])) w':=by
 subst hR;exact ⟨none,none,none,0,0,0,rfl,hb,SlR.nil,SlR.nil,SlR.nil⟩
theorem linP_part {names:List ByteArray} {part:Nat} {c c':CrQ} {t:List UInt8} {q:Nat} {x:Int} (h:linP names part c t = (some (q,c'),x)):q = 3 \/ q = partQ c':=by
 unfold linP at h
 split at h
 ·
  split at h
  ·
   next c1 hf =>
   injection h with h _
   injection h with h
   injection h with h1 h2
   subst h1 h2;right;have h0:c1.C = []:=by
    unfold firstQ at hf
    split at hf
    ·
     split at hf
     · obtain ⟨n,_,rfl⟩:=Option.map_eq_some_iff.1 hf; rfl
     · cases hf
    · cases hf
   unfold partQ;rw [if_pos h0]
  · cases h
 ·
  split at h
  · cases h
  ·
   split at h
   ·
    injection h with h _
    injection h with h
    injection h with h1 _
    exact .inl h1.symm
   ·
    split at h
    ·
     injection h with h _
     injection h with h
     injection h with h1 h2
     right;rw [<- h1,<- h2]
     rfl
    · cases h
theorem certRead_any (s:ByteArray) (names:List ByteArray) (na:Option Addr) (nc:Nat) (w:World) (hE:∀ W,Below w.heap.size w W -> EnvC names na nc W) (hnz:∀ x ∈ names,x.size <= 1048576) (hnl:names.length <= 1000) (hs:s.size < 4294967281)
  (hL:(linesL s.data.toList).length <= 16000000) (hW:∀ k t,(linesL s.data.toList)[k]? = some t -> k + 1 < (linesL s.data.toList).length -> WokL names t) :
  Calls Tryz.prog 19 #[.string s,.slice na names.length nc] w (RetCr (readQ names s.data.toList) w):=by
 have CS:=fun W (hW:Below w.heap.size w W)=>split_any s ⟨#[10]⟩ W (hE W hW).2.1 hs (by decide)
 obtain ⟨hsp1,hsp2⟩:=split_lines s.data.toList;rw [ofL_data] at hsp1 hsp2;rw [<- runP_read];obtain ⟨L,hLL⟩:∃ L,linesL s.data.toList = L:=⟨_,rfl⟩
 have hL1:=(linesL_len s.data.toList).1;have hszl:∀ t ∈ L,t.length <= s.size:=fun t ht=>by rw [<- hLL] at ht; exact linesL_short _ t ht
 rw [hLL] at hsp1 hsp2 hL hW hL1 ⊢;have e10:(⟨#[10]⟩:ByteArray) = ofL [10]:=rfl;rw [e10] at CS;rw [hsp1,hsp2] at CS;obtain ⟨R,hR⟩:∃ R,runP names 0 noQ 1 L = R:=⟨_,rfl⟩
 have hok:=fun (c:CrQ) (e:R = (c,0,0))=>(readQ_form (names:=names) (s:=s.data.toList) (c:=c) (k:=0) (by rw [<- runP_read,hLL,hR]; exact e)).2.1.2.2.1
 replace hok:=Hd hok;rw [hR];replace CS:=Hd CS; replace hR:=Hd hR; replace hW:=Hd hW; replace hszl:=Hd hszl;have HE:=Hd hE; have HNZ:=Hd hnz;rw [<- e10] at CS;clear hE hnz hsp1 hsp2 hLL e10;go_enter Tryz.func19,Tryz.ntmps19;go_wp2_with fail;refine calls_gen (fun W=>Blk W w.heap.size 40 #[.slice none 0 0,.slice none 0 0,.int .i64 0,.slice none 0 0] /\ Below w.heap.size w W /\ W.heap.size = w.heap.size + 1) ⟨bN rfl,brf.alloc (nlr _) _,by simp⟩ ?_;rintro w0 ⟨hz0,hw0,hs0⟩;refine (CS.out w0 hw0).mono ?_;rintro e w1 ⟨rfl,rfl⟩;obtain ⟨b0,hb0⟩:∃ q,w.heap.size = q:=⟨_,rfl⟩
 rw [hb0] at hz0 hs0 ⊢;rw [hs0];have hrow:=Blk.new w0 9 ((L.map ofL).map Value.string).toArray;rw [hs0] at hrow;have hz1:=bA (o:=.cells ((L.map ofL).map Value.string).toArray 9) hz0;have hw1:=hw0.alloc hw0.size (.cells ((L.map ofL).map Value.string).toArray 9);obtain ⟨w1,hw1e⟩:∃ W,w0.alloc (.cells ((L.map ofL).map Value.string).toArray 9) = W:=⟨_,rfl⟩
 have hs1:w1.heap.size = b0 + 1 + 1:=by rw [<- hw1e]; simp [hs0]
 rw [hw1e] at hrow hz1 hw1 ⊢;obtain ⟨b1,hb1⟩:∃ q,b0 + 1 = q:=⟨_,rfl⟩
 rw [hb1] at hrow hs1 ⊢;obtain ⟨b2,hb2⟩:∃ q,b1 + 1 = q:=⟨_,rfl⟩
 rw [hb2] at hs1;have hb0':=Hd hb0; have hb1':=Hd hb1; have hb2':=Hd hb2; have hs1':=Hd hs1;have hrow':=Hd hrow; have hz1':=Hd hz1; have hw1':=Hd hw1;clear hb0 hb1 hb2 hs1 hrow hz1 hw1 hz0 hw0 hs0 hw1e CS;go_wp2;refine world_gen (fun W=>Blk W w1.heap.size 83 #[.slice (some ⟨b1,0,none⟩) L.length L.length,.int .i64 ((0:Nat):Int)] /\ Blk W (w1.heap.size + 1) 87 #[.slice na names.length nc,.slice none 0 0,.slice none 0 0,.int .i64 0,.slice none 0 0,.int .i64 0] /\ Blk W b0 40 #[.slice none 0 0,.slice none 0 0,.int .i64 0,.slice none 0 0] /\ Blk W b1 9 ((L.map ofL).map Value.string).toArray /\ Below w.heap.size w W) ⟨bA (bN rfl),bN (by simp),bA (bA hz1'.out),bA (bA hrow'.out),(hw1'.out.alloc hw1'.out.size _).alloc (by have:=hw1'.out.size; simp; omega) _⟩ ?_;rintro w2 ⟨hq,hg,hz,hrow,hw2⟩;obtain ⟨b2,hb2⟩:∃ q,w1.heap.size = q:=⟨_,rfl⟩
 rw [hb2] at hq hg ⊢;obtain ⟨g,hge⟩:∃ q,b2 + 1 = q:=⟨_,rfl⟩
 rw [hge] at hg ⊢;have hO:=Hd (show w.heap.size <= b0 /\ b0 < b1 /\ b1 < b2 /\ b2 < g from ⟨by have:=hb0'.out; omega,by have:=hb1'.out; omega,by have:=hs1'.out; have:=hb2'.out; omega,by omega⟩);clear hb2 hge hb0' hb1' hb2' hs1' hrow' hz1' hw1'
 go_loopg [10,11,12,13] L.length (fun gk s10 _ _ _ wr=>∃ (k part:Nat) (c:CrQ),Hid (k + gk = L.length /\ 0 < gk) /\ s10 = .int .i64 ((k + 1:Nat):Int) /\ Hid (Blk wr b2 83 #[.slice (some ⟨b1,0,none⟩) L.length L.length,.int .i64 (k:Int)]) /\ Hid (Blk wr b0 40 #[.slice none 0 0,.slice none 0 0,.int .i64 0,.slice none 0 0]) /\ Hid (Blk wr b1 9 ((L.map ofL).map Value.string).toArray) /\ Hid (CrSt g (.slice na names.length nc) k wr c part) /\ Hid (runP names part c (k + 1) (L.drop k) = R) /\ Hid ((part = 0 /\ c = noQ) \/ part = 3 \/ part = partQ c) /\ Hid (Below w.heap.size w wr))
 case atStart=>exact ⟨0,0,noQ,by show _ /\ _; omega,rfl,hq,hz,hrow,⟨none,0,[],none,0,none,0,[],hg,CrRows.nil,nlr _,nlr _,nlr _⟩,hR.out,.inl ⟨rfl,rfl⟩,hw2⟩
 case round =>
  clear hq hg hz hrow hw2;obtain ⟨k,part,c,hk,rfl,hq,hz,hrow,hst,hrun,hpt,hwr⟩:=hrel;obtain ⟨t,ht⟩:=get_of_lt (xs:=L) (k:=k) (by have:=hk.out; omega);have htm:=Hd ht;have hx:wr.cell? ⟨b1,k,none⟩ = some (.string (ofL t)):=by
   rw [hrow.out.cell k];simp [ht]
  have CN:=Hd (next_any b2 b1 L.length k (ofL t) wr hq.out hx (lt_of_get ht) (by omega) (by have:=hO.out; omega));have hdr:=Hd (show L.drop k = t :: L.drop (k + 1) by
   have h2:=lt_of_get ht;rw [List.drop_eq_getElem_cons h2];rw [List.getElem?_eq_getElem h2] at ht;injection ht with ht
   rw [ht])
  have hts:=Hd (hszl.out t (List.mem_of_getElem? ht));clear ht hx;go_wp2_with fail;refine CN.out.mono ?_;rintro e w3 ⟨rfl,hq3,hf3⟩;have hz3:=hz.out.fr hf3 (by have:=hO.out; omega);have hrow3:=Hd (hrow.out.fr hf3 (by have:=hO.out; omega));have hst3:=hst.out.fg hf3 (by have:=hO.out; omega);have hw3:=Hd (show Below w.heap.size w w3 from Below.fr hwr.out hf3 (fun b hb=>by subst hb; have:=hO.out; omega) hwr.out.size);have hq3':=Hd hq3;obtain ⟨m,hm⟩:∃ m,k + 1 = m:=⟨_,rfl⟩
  have hrun1:=hrun.out;rw [hdr.out] at hrun1;rw [hm] at hq3 hrun1 ⊢;have x0:=hq3.cell 0; have x1:=hq3.cell 1;have hl3:=hq3.lt;have y0:=hz3.cell 0; have y1:=hz3.cell 1; have y2:=hz3.cell 2; have y3:=hz3.cell 3;have p0:=hz3.frozen 0; have p1:=hz3.frozen 1; have p2:=hz3.frozen 2; have p3:=hz3.frozen 3;have hlz:=hz3.lt;have hz3':=Hd hz3;have hm':=Hd hm;have HBD:=Hd (fun (v0 v1 v2 v3:Value)=>(((hw3.out.setCell (p:=⟨b0,0,none⟩) hO.out.1 v0).setCell (p:=⟨b0,1,none⟩) hO.out.1 v1).setCell (p:=⟨b0,2,none⟩) hO.out.1 v2).setCell (p:=⟨b0,3,none⟩) hO.out.1 v3);clear CN hz hrow hst hwr hq hf3 hq3 hz3 hdr hrun hm;by_cases hlast:m = L.length
  ·
   subst hlast;have hd0:L.drop L.length = []:=List.drop_length;rw [hd0,runP_one] at hrun1;obtain ⟨bt,hbt⟩:∃ b,((ofL t).toList == []) = b:=⟨_,rfl⟩
   have htb:t = [] ↔ bt = true:=by rw [<- hbt,toList_data,data_ofL,beq_iff_eq]
   obtain ⟨S,hS⟩:∃ S,ofL t = S:=⟨_,rfl⟩
   rw [hS] at hbt ⊢;clear hS hd0
   cases bt
   ·
    rw [if_neg fun e=>by cases htb.1 e.1] at hrun1;replace hrun1:=Hd hrun1;clear htb hst3;go_wp2;refine world_gen (fun W=>Blk W b0 40 #[.slice none 0 0,.slice none 0 0,.int .i64 0,.slice none 0 0] /\ Below w.heap.size w W) ⟨bS (bS (bS (bS hz3'.out rfl) rfl) rfl) rfl,HBD.out _ _ _ _⟩ ?_;rintro W ⟨hzW,hbW⟩;have e0:=hzW.cell 0; have e1:=hzW.cell 1; have e2:=hzW.cell 2; have e3:=hzW.cell 3;refine bodyPost_ret (v:=.tuple #[.agg #[.slice none 0 0,.slice none 0 0,.int .i64 0,.slice none 0 0],.int .i64 (L.length:Int),.int .i64 10]) (by simp [results,Tryz.results19,go_sem,e0,e1,e2,e3]) rfl ?_;exact retCr_bad hrun1.out.symm hbW
   ·
    have ht0:=htb.2 rfl;obtain ⟨fa,fc,hf,wa,wc,ca,cc,hc,hB,hr,_,_,_⟩:=hst3;have z5:=hB.cell 5;have hlg:=hB.lt;by_cases hp3:part = 3
    ·
     rw [if_pos ⟨ht0,hp3⟩] at hrun1;subst hp3;rw [hr.aF.1,hr.aC.1] at hB;have z1:=hB.cell 1; have z2:=hB.cell 2; have z3:=hB.cell 3; have z4:=hB.cell 4;have hpx:=Hd (hok.out c hrun1.symm);replace hrun1:=Hd hrun1; replace hr:=Hd hr;clear htb ht0 hB;go_wp2;refine world_gen (fun W=>Blk W b0 40 #[.slice fa c.F.length fc,.slice wa c.P.length wc,.int .i64 c.n,.slice ca c.C.length cc] /\ Below w.heap.size w W /\ CrRows g W c.F c.P c.C fa fc hf wa wc ca cc hc) ⟨bS (bS (bS (bS hz3'.out rfl) rfl) rfl) rfl,HBD.out _ _ _ _,hr.out.fr2 (((((Fr.refl _ _).setc (.inl (by have:=hO.out; omega))).setc (.inl (by have:=hO.out; omega))).setc (.inl (by have:=hO.out; omega))).setc (.inl (by have:=hO.out; omega)))⟩ ?_;rintro W ⟨hzW,hbW,hrW⟩;have e0:=hzW.cell 0; have e1:=hzW.cell 1; have e2:=hzW.cell 2; have e3:=hzW.cell 3
     refine bodyPost_ret (v:=.tuple #[.agg #[.slice fa c.F.length fc,.slice wa c.P.length wc,.int .i64 c.n,.slice ca c.C.length cc],.int .i64 0,.int .i64 0]) (by simp [results,Tryz.results19,go_sem,e0,e1,e2,e3]) rfl ?_;rw [<- hrun1.out];exact ⟨fa,wa,ca,fc,wc,cc,rfl,hbW,polysR_of hrW.oF hrW.aF,hrW.oP.reads1 fun x hx=>by have:=hpx.out x hx; exact ⟨by omega,by omega⟩,polysR_of hrW.oC hrW.aC⟩
    ·
     rw [if_neg fun e=>hp3 e.2] at hrun1;have hp3b:((part:Int) == 3) = false:=by rw [beq_eq_false_iff_ne]; omega
     have hp3c:(part == 3) = false:=by rw [beq_eq_false_iff_ne]; exact hp3
     replace hrun1:=Hd hrun1; replace hp3:=Hd hp3;clear htb ht0 hB hr;go_wp2;refine world_gen (fun W=>Blk W b0 40 #[.slice none 0 0,.slice none 0 0,.int .i64 0,.slice none 0 0] /\ Below w.heap.size w W) ⟨bS (bS (bS (bS hz3'.out rfl) rfl) rfl) rfl,HBD.out _ _ _ _⟩ ?_;rintro W ⟨hzW,hbW⟩;have e0:=hzW.cell 0; have e1:=hzW.cell 1; have e2:=hzW.cell 2; have e3:=hzW.cell 3;refine bodyPost_ret (v:=.tuple #[.agg #[.slice none 0 0,.slice none 0 0,.int .i64 0,.slice none 0 0],.int .i64 (L.length:Int),.int .i64 10]) (by simp [results,Tryz.results19,go_sem,e0,e1,e2,e3]) rfl ?_;exact retCr_bad hrun1.out.symm hbW
  ·
   have hml:m < L.length:=by have:=lt_of_get htm.out; have:=hm'.out; omega
   have hcb:((m:Int) == (L.length:Int)) = false:=by rw [beq_eq_false_iff_ne]; omega
   have hcc:(m == L.length) = false:=by rw [beq_eq_false_iff_ne]; exact hlast
   have hdn:L.drop m ≠ []:=fun e=>by have:=congrArg List.length e; rw [List.length_drop] at this; simp at this; omega
   rw [runP,if_neg hdn] at hrun1;have hEg:=fun W (hW:Below g w3 W)=>HE.out W (hw3.out.trans (hW.mono (by have:=hO.out; omega)))
   have hks:(ofL t).size < 4294967281:=by rw [ofL_size]; have:=hts.out; omega
   have hkm:k <= 16000000:=by have:=hm'.out; omega
   have hWt:=hW.out k t htm.out (by have:=hm'.out; omega);have hlnm:k + 1 = m:=hm'.out;have CLn:Calls Tryz.prog 43 #[.pointer (some ⟨g,0,none⟩),.string (ofL t)] w3 (RetFa g (.slice na names.length nc) (k + 1) (linP names part c (ofL t).data.toList) w3):=by
    rcases hpt.out with ⟨rfl,rfl⟩ | rfl | hp
    · exact line0_any g names na nc (ofL t) k w3 hst3 hEg hks
    · exact line3_any g names na nc (ofL t) c k w3 hst3 hEg hks
    · exact line1_any g names na nc (ofL t) c part k w3 hp hst3 hkm hEg HNZ.out hnl hks (by rw [data_ofL]; exact hWt)
   rw [data_ofL,hlnm] at CLn;have hpt2:=fun q c' x (e:linP names part c t = (some (q,c'),x))=>linP_part e
   obtain ⟨G,hG⟩:∃ G,linP names part c t = G:=⟨_,rfl⟩
   rw [hG] at CLn hrun1 hpt2;obtain ⟨S,hS⟩:∃ S,ofL t = S:=⟨_,rfl⟩
   rw [hS] at CLn ⊢;have hrun2:=Hd hrun1;replace CLn:=Hd CLn; replace hpt2:=Hd hpt2;clear hst3 hEg hks hkm hWt hlnm hdn hG hS hrun1 hpt;go_wp2_with fail;refine CLn.out.mono ?_;rintro e w4 ⟨er,rfl,hb4,hok4,hbad4⟩;have hz4:=hz3'.out.below hb4 (by have:=hO.out; omega);have q0:=hz4.cell 0; have q1:=hz4.cell 1; have q2:=hz4.cell 2; have q3:=hz4.cell 3;have r0:=hz4.frozen 0; have r1:=hz4.frozen 1; have r2:=hz4.frozen 2; have r3:=hz4.frozen 3;have hlz4:=hz4.lt;have hw4:=Hd (show Below w.heap.size w w4 from hw3.out.trans (hb4.mono (by have:=hO.out; omega)));have HBD4:=Hd (fun (v0 v1 v2 v3:Value)=>(((hw4.out.setCell (p:=⟨b0,0,none⟩) hO.out.1 v0).setCell (p:=⟨b0,1,none⟩) hO.out.1 v1).setCell (p:=⟨b0,2,none⟩) hO.out.1 v2).setCell (p:=⟨b0,3,none⟩) hO.out.1 v3);have hz4':=Hd hz4;have hq4:=Hd (hq3'.out.below hb4 (by have:=hO.out; omega));have hrow4:=Hd (hrow3.out.below hb4 (by have:=hO.out; omega))
   clear CLn x0 x1 hl3 y0 y1 y2 y3 p0 p1 p2 p3 hlz hz3' HBD hq3' hrow3 hw3 hb4 hz4;obtain ⟨o,er'⟩:=G
   cases o with
   | none =>
    obtain ⟨rfl,h0⟩:=hbad4 er' rfl;have hrun1:=hrun2;dsimp only at hrun1;have hne:(er != 0) = true:=by simpa using h0
    replace h0:=Hd h0;clear hok4 hbad4;go_wp2;refine world_gen (fun W=>Blk W b0 40 #[.slice none 0 0,.slice none 0 0,.int .i64 0,.slice none 0 0] /\ Below w.heap.size w W) ⟨bS (bS (bS (bS hz4'.out rfl) rfl) rfl) rfl,HBD4.out _ _ _ _⟩ ?_;rintro W ⟨hzW,hbW⟩;have e0:=hzW.cell 0; have e1:=hzW.cell 1; have e2:=hzW.cell 2; have e3:=hzW.cell 3;refine bodyPost_ret (v:=.tuple #[.agg #[.slice none 0 0,.slice none 0 0,.int .i64 0,.slice none 0 0],.int .i64 (m:Int),.int .i64 er]) (by simp [results,Tryz.results19,go_sem,e0,e1,e2,e3]) rfl ?_;exact retCr_bad hrun1.out.symm hbW
   | some qc =>
    obtain ⟨q,c'⟩:=qc;obtain ⟨rfl,hst4⟩:=hok4 q c' er' rfl;have hp4:=Hd (hpt2.out q c' er' rfl);have hst4':=Hd hst4;have hrun1:=Hd hrun2.out;clear hok4 hbad4 hst4 hrun2 hpt2 q0 q1 q2 q3 r0 r1 r2 r3 hlz4;go_wp2;go_roundg (gk - 1)
    case rel=>exact ⟨m,q,c',by have:=hk.out; have:=hm'.out; show _ /\ _; omega,by go_num,(by rw [<- hm'.out]; exact hq4.out),hz4'.out,hrow4.out,hst4'.out,hrun1.out,.inr hp4.out,hw4.out⟩
    case measure=>have:=hk.out; omega
theorem oneL_lnC {t:List UInt8} (h:oneL t):oneL (lnCQ t):=oneL.app (by decide:∀ d ∈ wCof,d ≠ 10) (h.cons (by decide))
theorem oneL_lnF {t:List UInt8} (x:Int) (h:oneL t):oneL (lnFQ x t):=oneL.app (by decide:∀ d ∈ wFactor,d ≠ 10) (((oneL_text _).app (h.cons (by decide))).cons (by decide))
theorem textN_few {n:Nat} (h:(limbs n).length <= 6):(textN n).length <= 1000:=by
 have h1:n < 10 ^ 29:=ltl (lt_pow_limbs n) (Nat.le_trans (Nat.pow_le_pow_right (by decide) h) (by decide));unfold textN
 split
 · simp
 · exact Nat.le_trans (digs_len 29 n h1) (by decide)
theorem absQ_parts (q:Rat):(absQ q).num.natAbs = q.num.natAbs /\ (absQ q).den = q.den:=by
 unfold absQ
 split
 · exact ⟨by rw [show (-q).num = -q.num from rfl,Int.natAbs_neg],rfl⟩
 · exact ⟨rfl,rfl⟩
theorem short_right {r:Rt} (h:r.right = true) (h1:r.num.length <= 6) (h2:r.den.length <= 6):shortQ (absQ r.q):=by
 obtain ⟨_,e1,e2⟩:=right_trip h;obtain ⟨a1,a2⟩:=absQ_parts r.q;unfold shortQ;rw [a1,a2];exact ⟨textN_few (by rw [e1]; exact h1),textN_few (by rw [e2]; exact h2)⟩
theorem short_poly {l:List Trm} (h:polyB l = true) (hl:∀ t ∈ l,t.coef.num.length <= 6 /\ t.coef.den.length <= 6):∀ t ∈ l,shortQ (absQ t.coef.q):=fun t ht =>
 short_right (okT_fine (polyB_ok h t ht)).1 (hl t ht).1 (hl t ht).2
theorem linesL_line {t:List UInt8} (h:oneL t) (r:List UInt8):linesL (t ++ 10 :: r) = t :: linesL r:=linesL_some (cutL_at 10 t r h)
theorem lines_flat {α:Type} (g:α -> List UInt8):∀ (L:List α) (r:List UInt8),(∀ x ∈ L,oneL (g x)) -> linesL ((L.flatMap fun x=>g x ++ [10]) ++ r) = L.map g ++ linesL r
 | [],r,_=>rfl
 | x :: L,r,h=>by
  rw [List.flatMap_cons,show (g x ++ [10] ++ L.flatMap fun x=>g x ++ [10]) ++ r = g x ++ 10 :: ((L.flatMap fun x=>g x ++ [10]) ++ r) by simp,linesL_line (h x (by simp)),lines_flat g L r fun y hy=>h y (by simp [hy])]
  rfl
theorem wokL_cof {names:List ByteArray} {t:List UInt8} (h:Wok names t):WokL names (lnCQ t):=fun w r hc=>by
 unfold lnCQ at hc;rw [cutL_at 32 wCof t (by decide)] at hc;injection hc with hc
 injection hc with h1 h2
 subst h1 h2;exact ⟨fun _=>h,fun e=>absurd e (by decide)⟩
theorem wokL_fac {names:List ByteArray} {t:List UInt8} {x:Int} (h:Wok names t):WokL names (lnFQ x t):=fun w r hc=>by
 unfold lnFQ at hc;rw [cutL_at 32 wFactor _ (by decide)] at hc;injection hc with hc
 injection hc with h1 h2
 subst h1 h2;refine ⟨fun e=>absurd e (by decide),fun _ d y hd=>?_⟩;rw [cutL_at 32 (textN x.toNat) t fun c hc=>(noSp_text _ c hc).1] at hd;injection hd with hd
 injection hd with h1 h2
 subst h1 h2;exact h
theorem wokL_first {names:List ByteArray} {t:List UInt8}:WokL names (wPower ++ 32 :: t):=fun w r hc=>by
 rw [cutL_at 32 wPower t (by decide)] at hc;injection hc with hc
 injection hc with h1 h2
 subst h1 h2;exact ⟨fun e=>absurd e (by decide),fun e=>absurd e (by decide)⟩
theorem wokL_none {names:List ByteArray} {t:List UInt8} (h:cutL 32 t = none):WokL names t:=fun w r hc=>by rw [h] at hc; cases hc
theorem fit_wok {l:List Trm} {names:List ByteArray} (hl:l.length <= 12) (hq:∀ t ∈ l,t.coef.num.length <= 6 /\ t.coef.den.length <= 6) (hz:(printP l names).2 = 0):Wok names (printP l names).1.data.toList:=fun L r hL=>by
 obtain ⟨hp,hn,hb,ht⟩:=printP_good hz;rw [ht] at hL;by_cases h0:l.length = 0
 ·
  rw [if_pos h0,reaG_zero] at hL;injection hL with h1 h2
  subst h1;unfold wtP;have:qsz 0 <= 1:=qsz_of0;simp only [List.map_cons,List.map_nil,List.sum_cons,List.sum_nil]
  omega
 ·
  have hsh:∀ t ∈ l,shortQ (absQ t.coef.q):=fun t ht=>short_right (okT_fine (polyB_ok hp t ht)).1 (hq t ht).1 (hq t ht).2
  rw [if_neg h0,reaG_text hn (fun e=>h0 (by rw [e]; rfl)) (by omega) (fun t ht=>⟨(okT_fine (polyB_ok hp t ht)).2.1,bigB_no hb t ht,hsh t ht⟩)] at hL;injection hL with h1 h2
  subst h1;have key:∀ q:List Trm,(∀ t ∈ q,t ∈ l) -> wtP (q.map trmQ) <= 7 * q.length:=by
   intro q hqq
   induction q with
   | nil=>simp [wtP]
   | cons t q ih =>
    have h2:=ih fun x hx=>hqq x (by simp [hx])
    have ht:=hqq t (by simp);have h3:=(right_trip (okT_fine (polyB_ok hp t ht)).1)
    have h4:=hq t ht;have h5:qsz t.coef.q <= 6:=qsz_le (by rw [h3.2.1]; exact h4.1) (by rw [h3.2.2]; exact h4.2);unfold wtP at h2 ⊢;rw [List.map_cons,List.map_cons,List.sum_cons,List.length_cons];have e:qsz (trmQ t).1 = qsz t.coef.q:=rfl
    omega
  have:=key l fun t ht=>ht
  omega
def ModP (p:List Trm):Prop:=p.length <= 12 /\ ∀ t ∈ p,t.coef.num.length <= 6 /\ t.coef.den.length <= 6
theorem modP_short {p:List Trm} {names:List ByteArray} (h:ModP p) (hz:(printP p names).2 = 0):∀ t ∈ p,shortQ (absQ t.coef.q):=fun t ht =>
 short_right (okT_fine (polyB_ok (printP_good hz).1 t ht)).1 (h.2 t ht).1 (h.2 t ht).2
theorem textC_lines {names:List ByteArray} {F C:List (List Trm)} {P:List Int} {n:Int} {b:Bool} (h:(textC names F C P n b).2 = 0) (hF:∀ p ∈ F,ModP p) (hC:∀ p ∈ C,ModP p) :
  (∀ t ∈ linesL (textC names F C P n b).1.data.toList,WokL names t) /\ (linesL (textC names F C P n b).1.data.toList).length = F.length + C.length + 3:=by
 unfold textC at h ⊢
 split at h
 ·
  next hb =>
  rw [if_pos hb]
  split at h
  ·
   next h1 =>
   rw [if_pos h1]
   split at h
   ·
    next h2 =>
    rw [if_pos h2];dsimp only;have gF:∀ i,i < F.length -> F.getD i [] ∈ F:=fun i hi=>by rw [List.getD_eq_getElem?_getD,List.getElem?_eq_getElem hi]; exact List.getElem_mem hi
    have gC:∀ i,i < C.length -> C.getD i [] ∈ C:=fun i hi=>by rw [List.getD_eq_getElem?_getD,List.getElem?_eq_getElem hi]; exact List.getElem_mem hi
    have oF:∀ x ∈ facQ names F P,oneL x.2.1 /\ Wok names x.2.1:=fun x hx=>by
     obtain ⟨i,hi,rfl⟩:=List.mem_map.1 hx;have hm:=gF i (List.mem_range.1 hi);exact ⟨oneL_print (errL_zero h1 _ hm) (modP_short (hF _ hm) (errL_zero h1 _ hm)),fit_wok (hF _ hm).1 (hF _ hm).2 (errL_zero h1 _ hm)⟩
    have oC:∀ x ∈ cofQ names C,oneL x.1 /\ Wok names x.1:=fun x hx=>by
     obtain ⟨i,hi,rfl⟩:=List.mem_map.1 hx;have hm:=gC i (List.mem_range.1 hi);exact ⟨oneL_print (errL_zero h2 _ hm) (modP_short (hC _ hm) (errL_zero h2 _ hm)),fit_wok (hC _ hm).1 (hC _ hm).2 (errL_zero h2 _ hm)⟩
    have h0:oneL (wPower ++ 32 :: textN n.toNat):=oneL.app (by decide:∀ d ∈ wPower,d ≠ 10) ((oneL_text _).cons (by decide));have hlns:linesL (catL (lnsC names F C P n C.length) ++ endB).data.toList = (wPower ++ 32 :: textN n.toNat) :: ((facQ names F P).map (fun x=>lnFQ x.1 x.2.1) ++ ((cofQ names C).map (fun x=>lnCQ x.1) ++ [wEnd,[]])):=by
     rw [text_list,show ∀ z,wPower ++ 32 :: (textN n.toNat ++ 10 :: z) = (wPower ++ 32 :: textN n.toNat) ++ 10 :: z from fun z=>by simp,linesL_line h0,
      lines_flat (fun x:Int × List UInt8 × List Tm=>lnFQ x.1 x.2.1) _ _ fun x hx=>oneL_lnF _ (oF x hx).1,lines_flat (fun x:List UInt8 × List Tm=>lnCQ x.1) _ _ fun x hx=>oneL_lnC (oC x hx).1,
      show wEnd ++ [10] = wEnd ++ 10 :: [] from rfl,linesL_line (by decide:∀ d ∈ wEnd,d ≠ 10)]
     rfl
    rw [hlns]
    constructor
    ·
     intro t ht;rcases List.mem_cons.1 ht with e | ht
     · rw [e]; exact wokL_first
     ·
      rcases List.mem_append.1 ht with ht | ht
      ·
       obtain ⟨x,hx,rfl⟩:=List.mem_map.1 ht;exact wokL_fac (oF x hx).2
      ·
       rcases List.mem_append.1 ht with ht | ht
       ·
        obtain ⟨x,hx,rfl⟩:=List.mem_map.1 ht;exact wokL_cof (oC x hx).2
       ·
        rcases List.mem_cons.1 ht with e | ht
        · rw [e]; exact wokL_none rfl
        · rw [List.mem_singleton] at ht; rw [ht]; exact wokL_none rfl
    · simp [facQ,cofQ]; omega
   · next h2=>exact (h2 h).elim
  · next h1=>exact (h1 h).elim
 · cases h
theorem polyR_any (l:List Trm) (a:Option Addr) (c:Nat) (w:World) (h:PolyR w a c l) (hq:∀ t ∈ l,t.coef.num.length <= 2000000 /\ t.coef.den.length <= 2000000) :
  Calls Tryz.prog 17 #[.slice a l.length c] w fun e w'=>e = .returned (.bool (polyB l)) /\ Below w.heap.size w w':=by
 have hlen:=h.len;obtain ⟨res,hres⟩:∃ x,polyB l = x:=⟨_,rfl⟩
 rw [hres];have HRES:=Hd hres;have HP:=Hd h;have HQ:=Hd hq;clear hres h hq;go_enter Tryz.func17,Tryz.ntmps17;go_wp2
 go_loopg [3] l.length (fun g q wr=>∃ k:Nat,k + g = l.length /\ q = .int .i64 k /\ Below w.heap.size w wr /\ ∀ j,j < k -> badAt l j = false)
 case atStart=>exact ⟨0,by omega,rfl,Below.refl _ _,fun j hj=>by omega⟩
 case round =>
  obtain ⟨k,hkg,rfl,hwr,hall⟩:=hrel;have HKG:=Hd hkg;have HA:=Hd hall;clear hkg hall;by_cases hlt:k < l.length
  ·
   obtain ⟨t,ht⟩:=get_of_lt hlt;have hPr:=HP.out.ext (xbw hwr);have htq:=HQ.out t (List.mem_of_getElem? ht);obtain ⟨b,off,hao,p,hC,hP⟩:=hPr.2.2 k t ht;subst hao;obtain ⟨c0,c1,c2,c3⟩:=hC;obtain ⟨hP1,hP2,hP3⟩:=hP;have HT:=Hd ht;have HPR:=Hd hPr;obtain ⟨⟨neg,num,den⟩,mono⟩:=t;dsimp only at c0 c1 c2 c3 hP1 hP2 hP3 htq;have CR:=fun W (hW:Below wr.heap.size wr W)=>right03_any ⟨neg,num,den⟩ p.na p.nc p.da p.dc W (hP2.ext (xbw hW)) (hP3.ext (xbw hW)) htq.1 htq.2
   unfold Rt.val at CR;dsimp only at CR;replace CR:=Hd CR;have HP1:=Hd hP1; have HP2:=Hd hP2; have HP3:=Hd hP3; have HTQ:=Hd htq;have hbl:b < wr.heap.size:=World.block_lt_of_cell? wr _ c0;clear ht hPr hP1 hP2 hP3 htq;have d0:=held c0; have d1:=held c1; have d2:=held c2; have d3:=held c3;have hw0:=Below.refl wr.heap.size wr
   cases hr:Rt.right ⟨neg,num,den⟩ with
   | false =>
    rw [hr] at CR;obtain rfl:res = false:=by rw [<- HRES.out]; exact polyB_bad hlt (badAt_term HT.out (okT_coef hr))
    clear hr;go_wp2_with fail;refine (CR.out _ hw0).mono ?_;rintro e w3 ⟨rfl,hb3⟩;have hw3:=bth hw0 hb3;go_wp2;go_ret;exact ⟨rfl,bth hwr hb3⟩
   | true =>
    rw [hr] at CR;have h0:val den ≠ 0:=right_pos hr;have CS:=fun W (hW:Below wr.heap.size wr W)=>qsignR_any neg num den (val num) p.na p.da p.nc p.dc W (HP2.out.ext (xbw hW)) (HP3.out.ext (xbw hW)) rfl h0 HTQ.out.1 HTQ.out.2
    have CM:=fun W (hW:Below wr.heap.size wr W)=>monoR_any mono p.aa p.ac W (HP1.out.ext (xbw hW))
    have hsg:=sgnZ_eq neg (val num);have HR:=Hd hr;clear h0 hr;by_cases hn0:val num = 0
    ·
     rw [decide_eq_true hn0] at hsg;obtain rfl:res = false:=by rw [<- HRES.out]; exact polyB_bad hlt (badAt_term HT.out (okT_zero hn0))
     revert CS hsg;generalize sgnZ neg (val num) = sg;intro CS hsg;replace CS:=Hd CS; replace CM:=Hd CM;clear hn0;go_wp2_with fail;refine (CR.out _ hw0).mono ?_;rintro e w3 ⟨rfl,hb3⟩;have hw3:=bth hw0 hb3;go_wp2_with fail;refine (CS.out _ hw3).mono ?_;rintro e w4 ⟨rfl,hb4⟩;have hw4:=bth hw3 hb4;go_wp2;go_ret;exact ⟨rfl,bth hwr hw4⟩
    ·
     rw [decide_eq_false hn0] at hsg;have HN0:=Hd hn0;revert CS hsg;generalize sgnZ neg (val num) = sg;intro CS hsg;replace CS:=Hd CS;clear hn0
     cases hm:monoB mono with
     | false =>
      rw [hm] at CM;replace CM:=Hd CM;obtain rfl:res = false:=by rw [<- HRES.out]; exact polyB_bad hlt (badAt_term HT.out (okT_mono hm))
      clear hm;go_wp2_with fail;refine (CR.out _ hw0).mono ?_;rintro e w3 ⟨rfl,hb3⟩;have hw3:=bth hw0 hb3;go_wp2_with fail;refine (CS.out _ hw3).mono ?_;rintro e w4 ⟨rfl,hb4⟩;have hw4:=bth hw3 hb4;go_wp2_with fail;refine (CM.out _ hw4).mono ?_;rintro e w5 ⟨rfl,rfl⟩;go_wp2;go_ret;exact ⟨rfl,bth hwr hw4⟩
     | true =>
      rw [hm] at CM;replace CM:=Hd CM;have hok:okT ⟨⟨neg,num,den⟩,mono⟩ = true:=okT_all HR.out HN0.out hm;have HOK:=Hd hok;clear hm hok;go_wp2_with fail;refine (CR.out _ hw0).mono ?_;rintro e w3 ⟨rfl,hb3⟩;have hw3:=bth hw0 hb3;go_wp2_with fail;refine (CS.out _ hw3).mono ?_;rintro e w4 ⟨rfl,hb4⟩;have hw4:=bth hw3 hb4;go_wp2_with fail;refine (CM.out _ hw4).mono ?_;rintro e w5 ⟨rfl,rfl⟩;go_wp2;have s0:Below wr.heap.size wr w4.drew:=hw4.drew
      cases k with
      | zero =>
       have hbad:=badAt_zero HT.out HOK.out;have HB:=Hd hbad;clear hbad;refine wp_region_mixM (S:=Below wr.heap.size wr) [(0,.q),(1,.q),(2,.q),(3,.q),(4,.q),(5,.q),(6,.q),(7,.q),(8,.q),(9,.q),(10,.q),(11,.q),(12,.q),(13,.q),(14,.t),(15,.p),(16,.p)] (by kernel_rfl) (by kernel_rfl) (by kernel_rfl) (fun d _ _ _ _ h=>by cases d <;> exact h) (s0) ?_
       iterate 3 (refine wpMix_q rfl rfl (fun K hK=>?_); apply Exists.intro; refine ⟨fun w' hw'=>?_,?_⟩; (focus (go_simp; try rfl)); go_simp; refine hK _ _ ?_; clear hK K)
       iterate 13 (refine wpMix_skip rfl rfl (fun K hK=>?_); go_simp; refine hK _ _ ?_; clear hK K)
       iterate 1 (refine wpMix_p rfl rfl (fun K hK=>?_); apply Exists.intro; refine ⟨fun w'=>?_,?_⟩; (focus (go_simp; try rfl)); go_simp; refine hK _ _ ?_; clear hK K)
       refine wpMix_nil ?_;go_wp2;go_roundg (gk - 1)
       case rel=>exact ⟨1,by have:=HKG.out; omega,by go_num,bth hwr s0,all_succ HA.out HB.out⟩
       case measure=>have:=HKG.out; omega
      | succ j =>
       obtain ⟨s,hs⟩:=get_of_lt (xs:=l) (k:=j) (by omega);obtain ⟨b',off',hao,p',hC',hP'⟩:=HPR.out.2.2 j s hs;injection hao with hao
       injection hao with hao1 hao2
       subst hao1 hao2;obtain ⟨y0,y1,y2,y3⟩:=hC';have hbad:=badAt_succ HT.out hs HOK.out;have e3:=held y3;have hpv:okT s = true:=badAt_ok hs (HA.out j (by omega));have CL:=fun W (hW:Below wr.heap.size wr W)=>cmpR5_any s.mono mono p'.aa p.aa p'.ac p.ac W (hP'.1.ext (xbw hW)) (HP1.out.ext (xbw hW)) (okT_range hpv) (okT_range HOK.out)
       dsimp only at hbad;revert CL hbad;generalize lexI s.mono mono = lx;intro hbad CL;have hwk:IntKind.i64.wrap (j:Int) = (j:Int):=by rw [IntKind.wrap_i64]; omega
       replace CL:=Hd CL;have HBD:=Hd hbad;have hjl:j < l.length:=by omega
       have hj0:(0:Int) <= (j:Int) + 1:=by omega
       have hj1:(j:Int) + 1 < (l.length:Int):=by omega
       clear hbad hP' hs y0 y1 y2 y3 hpv;by_cases hlx:lx <= 0
       ·
        have hle:decide (lx <= 0) = true:=by simpa using hlx
        obtain rfl:res = false:=by rw [<- HRES.out]; exact polyB_bad hlt (HBD.out.trans hle)
        clear hlx HBD;refine wp_region_mixM (S:=Below wr.heap.size wr) [(0,.q),(1,.q),(2,.q),(3,.q),(4,.q),(5,.q),(6,.q),(7,.q),(8,.q),(9,.q),(10,.q),(11,.q),(12,.q),(13,.q),(14,.t),(15,.p),(16,.p)] (by kernel_rfl) (by kernel_rfl) (by kernel_rfl) (fun d _ _ _ _ h=>by cases d <;> exact h) (s0) ?_
        iterate 14 (refine wpMix_q rfl rfl (fun K hK=>?_); apply Exists.intro; refine ⟨fun w' hw'=>?_,?_⟩; (focus (go_simp; try rfl)); go_simp; refine hK _ _ ?_; clear hK K)
        refine wpMix_t rfl rfl (fun K hK=>?_);go_simp;refine (CL.out _ s0).mono ?_;rintro r w6 ⟨rfl,rfl⟩;dsimp only;refine hK.out _ _ ?_;clear hK K
        iterate 2 (refine wpMix_p rfl rfl (fun K hK=>?_); apply Exists.intro; refine ⟨fun w'=>?_,?_⟩; (focus (go_simp; try rfl)); go_simp; refine hK _ _ ?_; clear hK K)
        refine wpMix_nil ?_;go_wp2;go_ret;exact ⟨rfl,bth hwr s0⟩
       ·
        have hle:decide (lx <= 0) = false:=by simpa using hlx
        have HB:=Hd (HBD.out.trans hle);clear hlx HBD;refine wp_region_mixM (S:=Below wr.heap.size wr) [(0,.q),(1,.q),(2,.q),(3,.q),(4,.q),(5,.q),(6,.q),(7,.q),(8,.q),(9,.q),(10,.q),(11,.q),(12,.q),(13,.q),(14,.t),(15,.p),(16,.p)] (by kernel_rfl) (by kernel_rfl) (by kernel_rfl) (fun d _ _ _ _ h=>by cases d <;> exact h) (s0) ?_
        iterate 14 (refine wpMix_q rfl rfl (fun K hK=>?_); apply Exists.intro; refine ⟨fun w' hw'=>?_,?_⟩; (focus (go_simp; try rfl)); go_simp; refine hK _ _ ?_; clear hK K)
        refine wpMix_t rfl rfl (fun K hK=>?_);go_simp;refine (CL.out _ s0).mono ?_;rintro r w6 ⟨rfl,rfl⟩;dsimp only;refine hK.out _ _ ?_;clear hK K
        iterate 2 (refine wpMix_p rfl rfl (fun K hK=>?_); apply Exists.intro; refine ⟨fun w'=>?_,?_⟩; (focus (go_simp; try rfl)); go_simp; refine hK _ _ ?_; clear hK K)
        refine wpMix_nil ?_;go_wp2;go_roundg (gk - 1)
        case rel=>exact ⟨j + 1 + 1,by have:=HKG.out; omega,by go_num,bth hwr s0,all_succ HA.out HB.out⟩
        case measure=>have:=HKG.out; omega
  ·
   obtain rfl:res = true:=by rw [<- HRES.out]; exact polyB_good fun i hi=>HA.out i (by omega)
   go_wp2;go_ret;exact ⟨rfl,hwr⟩
theorem samePolys_any (l:List (List Trm)) (a b:Option Addr) (ca cb:Nat) (w:World) (h:PolysR w a ca l) (h':PolysR w b cb l) (hp:∀ p ∈ l,polyB p = true) (hq:∀ p ∈ l,FewT p) :
  Calls Tryz.prog 47 #[.slice a l.length ca,.slice b l.length cb] w fun e w'=>e = .returned (.bool true) /\ Below w.heap.size w w':=by
 have HA:=Hd (fun W (hW:Below w.heap.size w W)=>h.ext (xbw hW));have HB:=Hd (fun W (hW:Below w.heap.size w W)=>h'.ext (xbw hW));have HP:=Hd hp; have HQ:=Hd hq;have ll:l.length <= 9223372036854775807:=by have:=h.1; have:=h.2.1; unfold maxLen at this; omega
 have hb0:=Below.refl w.heap.size w;clear h h' hp hq;go_enter Tryz.func47,Tryz.ntmps47;go_wp2
 go_loopg [5,13] l.length (fun gk _ s13 wr=>∃ k:Nat,Hid (k + gk = l.length) /\ s13 = .int .i64 k /\ Below w.heap.size w wr)
 case atStart=>exact ⟨0,by show _ = _; omega,rfl,hb0⟩
 case round =>
  clear hb0;obtain ⟨k,hk,rfl,hwr⟩:=hrel;by_cases hlt:k < l.length
  ·
   obtain ⟨p,hpk⟩:=get_of_lt hlt;have hpm:=List.mem_of_getElem? hpk;obtain ⟨b1,o1,rfl,a1,c1,z1,hR1⟩:=(HA.out wr hwr).2.2 k p hpk;obtain ⟨b2,o2,rfl,a2,c2,z2,hR2⟩:=(HB.out wr hwr).2.2 k p hpk;simp only [Nat.mul_one] at z1 z2;have HR1:=Hd (fun W (hW:Below wr.heap.size wr W)=>hR1.ext (xbw hW));have HR2:=Hd (fun W (hW:Below wr.heap.size wr W)=>hR2.ext (xbw hW));have hpb:=HP.out p hpm;have hpf:=HQ.out p hpm;have CR:=fun W (hW:Below wr.heap.size wr W)=>polyR_any p a1 c1 W (HR1.out W hW) (fun t ht=>by have:=hpf t ht; omega)
   rw [hpb] at CR;have CE:=Hd (fun W (hW:Below wr.heap.size wr W)=>equalR6_any p p a1 a2 c1 c2 W (HR1.out W hW) (HR2.out W hW) hpb hpb hpf hpf);replace CR:=Hd CR;have s0:Below wr.heap.size wr wr.drew:=brf.drew;have y1:=held z1; have y2:=held z2;clear hR1 hR2 hpk hpm hpb hpf;go_wp2;refine wp_region_mix (S:=(fun W=>Below wr.heap.size wr W)) [(0,.q),(1,.q),(2,.q),(3,.q),(4,.l),(5,.q),(6,.q),(7,.q),(8,.q),(9,.q),(10,.q),(11,.q),(12,.q),(13,.q),(14,.q),(15,.t),(16,.p),(17,.p)] (by kernel_rfl) (by kernel_rfl) (by kernel_rfl) (fun d _ _ _ _ h=>by cases d <;> exact h) (s0) ?_
   iterate 4 (refine wpMix_q rfl rfl (fun K hK=>?_); apply Exists.intro; refine ⟨fun w' hw'=>?_,?_⟩; (focus (go_simp; try rfl)); go_simp; refine hK _ _ ?_; clear hK K)
   refine wpMix_l rfl rfl (fun K hK=>?_);go_simp;refine (CR.out wr.drew s0).mono ?_;rintro e wa ⟨rfl,hba⟩;dsimp only;refine hK.out _ _ (s0.trans (hba.mono s0.size)) (fun _=>?_);clear hK K;have s1:=s0.trans (hba.mono s0.size)
   iterate 10 (refine wpMix_q rfl rfl (fun K hK=>?_); apply Exists.intro; refine ⟨fun w' hw'=>?_,?_⟩; (focus (go_simp; try rfl)); go_simp; refine hK _ _ ?_; clear hK K)
   refine wpMix_t rfl rfl (fun K hK=>?_);go_simp;refine (CE.out wa s1).mono ?_;rintro e wb ⟨q,rfl,hqq,hbb⟩;dsimp only;refine hK.out _ _ ?_;clear hK K;obtain rfl:=hqq.2 (by trivial)
   iterate 2 (refine wpMix_p rfl rfl (fun K hK=>?_); apply Exists.intro; refine ⟨fun w'=>?_,?_⟩; (focus (go_simp; try rfl)); go_simp; refine hK _ _ ?_; clear hK K)
   refine wpMix_nil ?_;have hwb:=bth hwr (bth s1 hbb);clear y1 y2 z1 z2 hba hbb s0 s1 hqq CR CE;go_wp2;go_roundg (gk - 1)
   case rel=>exact ⟨k + 1,by have:=hk.out; show _ = _; omega,by go_num,hwb⟩
   case measure=>have:=hk.out; omega
  ·
   have hkl:k = l.length:=by have:=hk.out; omega
   subst hkl;go_wp2;go_ret;exact ⟨rfl,hwr⟩
theorem same30_any (F C:List (List Trm)) (P:List Int) (n:Int) (fa wa ca fb wb cb:Option Addr) (fc wc cc fd wd cd:Nat) (w:World) (h1:PolysR w fa fc F) (h2:IntsR w wa wc P) (h3:PolysR w ca cc C) (k1:PolysR w fb fd F) (k2:IntsR w wb wd P) (k3:PolysR w cb cd C)
  (hF:∀ p ∈ F,polyB p = true /\ FewT p) (hC:∀ p ∈ C,polyB p = true /\ FewT p) :
  Calls Tryz.prog 21 #[.agg #[.slice fa F.length fc,.slice wa P.length wc,.int .i64 n,.slice ca C.length cc],.agg #[.slice fb F.length fd,.slice wb P.length wd,.int .i64 n,.slice cb C.length cd]] w fun e w'=>e = .returned (.bool true) /\ Below w.heap.size w w':=by
 have CF:=Hd (fun W (hW:Below w.heap.size w W)=>samePolys_any F fa fb fc fd W (h1.ext (xbw hW)) (k1.ext (xbw hW)) (fun p hp=>(hF p hp).1) (fun p hp=>(hF p hp).2));have CC:=Hd (fun W (hW:Below w.heap.size w W)=>samePolys_any C ca cb cc cd W (h3.ext (xbw hW)) (k3.ext (xbw hW)) (fun p hp=>(hC p hp).1) (fun p hp=>(hC p hp).2));have HP:=Hd (fun W (hW:Below w.heap.size w W)=>h2.ext (xbw hW));have HQ:=Hd (fun W (hW:Below w.heap.size w W)=>k2.ext (xbw hW));have ll:P.length <= 9223372036854775807:=by have:=h2.1; have:=h2.2.1; unfold maxLen at this; omega
 clear h1 h2 h3 k1 k2 k3 hF hC;go_enter Tryz.func21,Tryz.ntmps21;go_wp2;refine world_gen (fun W=>Blk W w.heap.size 40 #[.slice fa F.length fc,.slice wa P.length wc,.int .i64 n,.slice ca C.length cc] /\ Blk W (w.heap.size + 1) 40 #[.slice fb F.length fd,.slice wb P.length wd,.int .i64 n,.slice cb C.length cd] /\ Below w.heap.size w W) (by refine ⟨?_,?_,?_⟩<;>first|((with_reducible repeat first|assumption|(apply bF;focus omega)|apply bS|(apply bN;focus (simp;done))|apply bA|apply bD);all_goals rfl)|go_grown) ?_;rintro w0 ⟨hA,hB,hw0⟩;obtain ⟨ba,hba⟩:∃ q,w.heap.size = q:=⟨_,rfl⟩
 rw [hba] at hA hB ⊢;obtain ⟨bb,hbb⟩:∃ q,ba + 1 = q:=⟨_,rfl⟩
 rw [hbb] at hB ⊢;replace hba:=Hd hba; replace hbb:=Hd hbb
 go_loopg [5,23] P.length (fun gk _ s23 wr=>∃ k:Nat,Hid (k + gk = P.length) /\ s23 = .int .i64 k /\ Hid (Blk wr ba 40 #[.slice fa F.length fc,.slice wa P.length wc,.int .i64 n,.slice ca C.length cc]) /\ Hid (Blk wr bb 40 #[.slice fb F.length fd,.slice wb P.length wd,.int .i64 n,.slice cb C.length cd]) /\ Below w.heap.size w wr)
 case atStart=>exact ⟨0,by show _ = _; omega,rfl,hA,hB,hw0⟩
 case round =>
  clear hA hB hw0;obtain ⟨k,hk,rfl,hA,hB,hwr⟩:=hrel;have x0:=hA.out.cell 0; have x1:=hA.out.cell 1; have x3:=hA.out.cell 3;have y0:=hB.out.cell 0; have y1:=hB.out.cell 1; have y3:=hB.out.cell 3;have la:=hA.out.lt; have lb:=hB.out.lt;by_cases hlt:k < P.length
  ·
   obtain ⟨x,hx⟩:=get_of_lt hlt;obtain ⟨b1,o1,rfl,z1,_⟩:=(HP.out wr hwr).2.2 k x hx;obtain ⟨b2,o2,rfl,z2,_⟩:=(HQ.out wr hwr).2.2 k x hx;simp only [Nat.mul_one] at z1 z2;have hxx:(x != x) = false:=by simp
   have hA2:=Hd (hA.out.drew); have hB2:=Hd (hB.out.drew);clear hx;go_wp2;refine wp_region_mix (S:=(fun x=>x = wr.drew)) [(0,.q),(1,.q),(2,.q),(3,.q),(4,.q),(5,.q),(6,.q),(7,.q),(8,.q),(9,.q),(10,.p)] (by kernel_rfl) (by kernel_rfl) (by kernel_rfl) (fun d _ _ _ _ h=>by cases d <;> exact h) (rfl) ?_
   iterate 10 (refine wpMix_q rfl rfl (fun K hK=>?_); apply Exists.intro; refine ⟨fun w' hw'=>?_,?_⟩; (focus (go_simp; try rfl)); go_simp; refine hK _ _ ?_; clear hK K)
   iterate 1 (refine wpMix_p rfl rfl (fun K hK=>?_); apply Exists.intro; refine ⟨fun w'=>?_,?_⟩; (focus (go_simp; try rfl)); go_simp; refine hK _ _ ?_; clear hK K)
   refine wpMix_nil ?_;clear x0 x1 x3 y0 y1 y3 z1 z2 la lb hA hB;go_wp2;go_roundg (gk - 1)
   case rel=>exact ⟨k + 1,by have:=hk.out; show _ = _; omega,by go_num,hA2.out,hB2.out,hwr.drew⟩
   case measure=>have:=hk.out; omega
  ·
   have hkl:k = P.length:=by have:=hk.out; omega
   subst hkl;go_wp2_with fail;refine (CF.out wr hwr).mono ?_;rintro e w1 ⟨rfl,hb1⟩;have x3':=(hA.out.below' hb1).cell 3; have y3':=(hB.out.below' hb1).cell 3;have la':=(hA.out.below' hb1).lt; have lb':=(hB.out.below' hb1).lt;have hw1:=bth hwr hb1;clear x0 x1 x3 y0 y1 y3 la lb;go_wp2_with fail;refine (CC.out w1 hw1).mono ?_;rintro e w2 ⟨rfl,hb2⟩;go_wp2;go_ret;exact ⟨rfl,bth hw1 hb2⟩
theorem fitsPolys_any (l:List (List Trm)) (a:Option Addr) (c:Nat) (w:World) (h:PolysR w a c l) :
  Calls Tryz.prog 48 #[.slice a l.length c] w fun e w'=>e = .returned (.bool (fitL l)) /\ Below w.heap.size w w':=by
 have hlen:=h.len;obtain ⟨res,hres⟩:∃ x,fitL l = x:=⟨_,rfl⟩
 rw [hres];have HRES:=Hd hres;have HP:=Hd h;clear hres h;go_enter Tryz.func48,Tryz.ntmps48;go_wp2
 go_loopg [9] l.length (fun g q wr=>∃ k:Nat,k + g = l.length /\ q = .int .i64 k /\ Below w.heap.size w wr /\ (l.take k).all fitP = true)
 case atStart=>exact ⟨0,by omega,rfl,Below.refl _ _,rfl⟩
 case round =>
  obtain ⟨k,hkg,rfl,hwr,hall⟩:=hrel;have HKG:=Hd hkg;have HA:=Hd hall;clear hkg hall;obtain ⟨gko,rfl⟩:∃ x:Nat,x = gk:=⟨_,rfl⟩
  obtain ⟨wo,rfl⟩:∃ wo:World,wo = wr:=⟨_,rfl⟩
  by_cases hlt:k < l.length
  ·
   obtain ⟨p,hp⟩:=get_of_lt hlt;obtain ⟨b,off,hao,pa,pc,hc0,hPP⟩:=(HP.out.ext (xbw hwr)).2.2 k p hp;subst hao;have HPK:=Hd hp;have HPP:=Hd hPP;have hpl:=hPP.len;have hbl:b < wo.heap.size:=World.block_lt_of_cell? wo _ hc0;simp only [Nat.mul_one] at hc0;clear hp hPP;go_wp2
   go_loopg [15] p.length (fun g q wr=>∃ j:Nat,j + g = p.length /\ q = .int .i64 j /\ Below wo.heap.size wo wr /\ (p.take j).all fitT = true)
   case atStart=>exact ⟨0,by omega,rfl,Below.refl _ _,rfl⟩
   case round =>
    obtain ⟨j,hjg,rfl,hwj,hall⟩:=hrel;have HJG:=Hd hjg;have HJ:=Hd hall;clear hjg hall;by_cases hjl:j < p.length
    ·
     obtain ⟨t,ht⟩:=get_of_lt hjl;obtain ⟨b2,off2,hao2,q,hC,_⟩:=(HPP.out.ext (xbw hwj)).2.2 j t ht;subst hao2;obtain ⟨c0,c1,c2,c3⟩:=hC;obtain ⟨aa,ac,na,nc,da,dc⟩:=q;obtain ⟨⟨neg,num,den⟩,mono⟩:=t;have HT:=Hd ht;dsimp only at c0 c1 c2 c3;have hbl2:b2 < wr.heap.size:=World.block_lt_of_cell? wr _ c0;have hw2:=bth hwr (hwj.alloc hwj.size (.cells #[.bool neg,.slice na num.length nc,.slice da den.length dc,.slice aa mono.length ac] 57));have hwj2:=hwj.alloc hwj.size (.cells #[.bool neg,.slice na num.length nc,.slice da den.length dc,.slice aa mono.length ac] 57);clear ht;by_cases hm6:6 < mono.length
     ·
      obtain rfl:res = false:=by rw [<- HRES.out]; exact fitL_term HPK.out HT.out (by unfold fitT; dsimp only; rw [decide_eq_false (by omega)]; simp)
      go_wp2;go_ret;exact ⟨rfl,hw2⟩
     ·
      by_cases hn4:4 < num.length
      ·
       obtain rfl:res = false:=by rw [<- HRES.out]; exact fitL_term HPK.out HT.out (by unfold fitT; dsimp only; rw [decide_eq_false (show ¬ num.length <= 4 by omega)]; simp)
       go_wp2;go_ret;exact ⟨rfl,hw2⟩
      ·
       by_cases hd4:4 < den.length
       ·
        obtain rfl:res = false:=by rw [<- HRES.out]; exact fitL_term HPK.out HT.out (by unfold fitT; dsimp only; rw [decide_eq_false (show ¬ den.length <= 4 by omega)]; simp)
        go_wp2;go_ret;exact ⟨rfl,hw2⟩
       ·
        have hft:fitT ⟨⟨neg,num,den⟩,mono⟩ = true:=by unfold fitT; dsimp only; simp only [Bool.and_eq_true,decide_eq_true_eq]; omega
        have HF:=Hd hft;clear hft;go_wp2;go_roundg (gk - 1)
        case rel=>exact ⟨j + 1,by have:=HJG.out; omega,by go_num,hwj2,all_take HJ.out HT.out HF.out⟩
        case measure=>have:=HJG.out; omega
    ·
     have HJ2:=HJ.out;rw [show j = p.length by have:=HJG.out; omega] at HJ2;by_cases h8:8 < p.length
     ·
      obtain rfl:res = false:=by rw [<- HRES.out]; exact fitL_long HPK.out h8
      clear HJ2;go_wp2;go_ret;exact ⟨rfl,bth hwr hwj⟩
     ·
      have HF:=Hd (fitP_end HJ2 (by omega));have hwn:=bth hwr hwj;clear HJ2;go_wp2;go_roundg (gko - 1)
      case rel=>exact ⟨k + 1,by have:=HKG.out; omega,by go_num,hwn,all_take HA.out HPK.out HF.out⟩
      case measure=>have:=HKG.out; omega
  ·
   have HA2:=HA.out;rw [show k = l.length by have:=HKG.out; omega] at HA2;have hr:=HRES.out;rw [fitL_end HA2] at hr;clear HA2;by_cases h6:l.length <= 6
   ·
    obtain rfl:res = true:=by rw [<- hr,decide_eq_true h6]
    clear hr;go_wp2;go_ret;exact ⟨ret_bool (decide_eq_true (by omega)),hwr⟩
   ·
    obtain rfl:res = false:=by rw [<- hr,decide_eq_false h6]
    clear hr;go_wp2;go_ret;exact ⟨ret_bool (decide_eq_false (by omega)),hwr⟩
theorem fits30_any (F C:List (List Trm)) (P:List Int) (n:Int) (fa wa ca:Option Addr) (fc wc cc:Nat) (w:World) (h1:PolysR w fa fc F) (h2:IntsR w wa wc P) (h3:PolysR w ca cc C) :
  Calls Tryz.prog 22 #[.agg #[.slice fa F.length fc,.slice wa P.length wc,.int .i64 n,.slice ca C.length cc]] w fun e w'=>e = .returned (.bool (fitL F && fitL C && decide (P.length <= 6))) /\ Below w.heap.size w w':=by
 have C1:=fun W (hW:Below w.heap.size w W)=>fitsPolys_any F fa fc W (h1.ext (xbw hW))
 have C2:=fun W (hW:Below w.heap.size w W)=>fitsPolys_any C ca cc W (h3.ext (xbw hW))
 have hl:=h2.len;revert C1 C2;generalize fitL F = b1;generalize fitL C = b2;intro C1 C2;replace C1:=Hd C1; replace C2:=Hd C2;have hx:=Blk.new w 40 #[.slice fa F.length fc,.slice wa P.length wc,.int .i64 n,.slice ca C.length cc];have hw0:Below w.heap.size w (w.alloc (.cells #[.slice fa F.length fc,.slice wa P.length wc,.int .i64 n,.slice ca C.length cc] 40)):=brf.alloc (nlr _) _;clear h1 h2 h3
 cases b1
 ·
  go_enter Tryz.func22,Tryz.ntmps22;go_wp2_with fail;revert hx hw0;generalize w.alloc (.cells #[.slice fa F.length fc,.slice wa P.length wc,.int .i64 n,.slice ca C.length cc] 40) = w0;intro hx hw0;have z0:=hx.cell 0;go_wp2_with fail;refine (C1.out _ hw0).mono ?_;rintro e w1 ⟨rfl,hb1⟩;have hw1:=bth hw0 hb1;go_wp2;go_ret;exact ⟨rfl,hw1⟩
 ·
  cases b2
  ·
   go_enter Tryz.func22,Tryz.ntmps22;go_wp2_with fail;revert hx hw0;generalize w.alloc (.cells #[.slice fa F.length fc,.slice wa P.length wc,.int .i64 n,.slice ca C.length cc] 40) = w0;intro hx hw0;have z0:=hx.cell 0;go_wp2_with fail;refine (C1.out _ hw0).mono ?_;rintro e w1 ⟨rfl,hb1⟩;have hw1:=bth hw0 hb1;have z3:=(hx.below' hb1).cell 3;go_wp2_with fail;refine (C2.out _ hw1).mono ?_;rintro e w2 ⟨rfl,hb2⟩;have hw2:=bth hw1 hb2;go_wp2;go_ret;exact ⟨rfl,hw2⟩
  ·
   have hd:decide ((P.length:Int) <= 6) = decide (P.length <= 6):=by rw [decide_eq_decide]; omega
   obtain ⟨b,hb⟩:∃ b,decide (P.length <= 6) = b:=⟨_,rfl⟩
   rw [hb] at hd ⊢;have HD:=Hd hd;clear hb hd
   ·
    skip
    go_enter Tryz.func22,Tryz.ntmps22;go_wp2_with fail;revert hx hw0;generalize w.alloc (.cells #[.slice fa F.length fc,.slice wa P.length wc,.int .i64 n,.slice ca C.length cc] 40) = w0;intro hx hw0;have z0:=hx.cell 0;go_wp2_with fail;refine (C1.out _ hw0).mono ?_;rintro e w1 ⟨rfl,hb1⟩;have hw1:=bth hw0 hb1;have hx1:=hx.below' hb1;have z3:=hx1.cell 3;go_wp2_with fail;refine (C2.out _ hw1).mono ?_;rintro e w2 ⟨rfl,hb2⟩;have hw2:=bth hw1 hb2;have z1:=(hx1.below' hb2).cell 1;go_wp2;go_ret;exact ⟨ret_bool (by rw [HD.out]; rfl),hw2⟩
theorem crtP_any (F C:List (List Trm)) (P:List Int) (n:Int) (fa wa ca:Option Addr) (fc wc cc:Nat) (w:World) (h1:PolysR w fa fc F) (h2:IntsR w wa wc P) (h3:PolysR w ca cc C) (hn:InInt n)
  (hq1:∀ p ∈ F,∀ t ∈ p,t.coef.num.length <= 2000000 /\ t.coef.den.length <= 2000000) (hq2:∀ p ∈ C,∀ t ∈ p,t.coef.num.length <= 2000000 /\ t.coef.den.length <= 2000000) :
  Calls Tryz.prog 24 #[.agg #[.slice fa F.length fc,.slice wa P.length wc,.int .i64 n,.slice ca C.length cc]] w fun e w'=>e = .returned (.bool (crtB ⟨F,P,n,C⟩)) /\ Below w.heap.size w w':=by
 have hl1:=h1.len; have hl2:=h2.len; have hl3:=h3.len;obtain ⟨hn1,hn2⟩:=hn;obtain ⟨res,hres⟩:∃ x,crtB ⟨F,P,n,C⟩ = x:=⟨_,rfl⟩
 rw [hres];have HRES:=Hd hres;have H1:=Hd h1; have H2:=Hd h2; have H3:=Hd h3; have Q1:=Hd hq1; have Q2:=Hd hq2;have hx:=Blk.new w 40 #[.slice fa F.length fc,.slice wa P.length wc,.int .i64 n,.slice ca C.length cc];have hw0:Below w.heap.size w (w.alloc (.cells #[.slice fa F.length fc,.slice wa P.length wc,.int .i64 n,.slice ca C.length cc] 40)):=brf.alloc (nlr _) _;clear hres h1 h2 h3 hq1 hq2;by_cases hpf:P.length = F.length
 case neg =>
  obtain rfl:res = false:=by rw [<- HRES.out]; exact crtB_len hpf
  have hne:((P.length:Int) != (F.length:Int)) = true:=by simp; omega
  clear hpf;go_enter Tryz.func24,Tryz.ntmps24;go_wp2;go_ret;exact ⟨rfl,hw0⟩
 have hne:((P.length:Int) != (F.length:Int)) = false:=by simp; omega
 by_cases hp:1 <= n /\ n <= 64
 case neg =>
  obtain rfl:res = false:=by rw [<- HRES.out]; exact crtB_pow hp
  clear hpf;by_cases hlo:n < 1
  ·
   clear hp;go_enter Tryz.func24,Tryz.ntmps24;go_wp2;go_ret;exact ⟨rfl,hw0⟩
  ·
   have hhi:64 < n:=by omega
   clear hp;go_enter Tryz.func24,Tryz.ntmps24;go_wp2;go_ret;exact ⟨rfl,hw0⟩
 have HPF:=Hd hpf;obtain ⟨hp1,hp2⟩:=hp;clear hpf;go_enter Tryz.func24,Tryz.ntmps24;go_wp2;revert hx hw0;generalize w.alloc (.cells #[.slice fa F.length fc,.slice wa P.length wc,.int .i64 n,.slice ca C.length cc] 40) = w0;intro hx hw0;clear hne
 go_loopg [27] F.length (fun g q wr=>∃ k:Nat,k + g = F.length /\ q = .int .i64 k /\ Below w.heap.size w wr /\ Blk wr w.heap.size 40 #[.slice fa F.length fc,.slice wa P.length wc,.int .i64 n,.slice ca C.length cc] /\ ∀ j,j < k -> facB ⟨F,P,n,C⟩ j = true)
 case atStart=>exact ⟨0,by omega,rfl,hw0,hx,fun j hj=>by omega⟩
 case round =>
  clear hx hw0;obtain ⟨k,hkg,rfl,hwr,hx,hall⟩:=hrel;have HKG:=Hd hkg;have HA:=Hd hall;have hxl:=hx.lt;have z0:=hx.cell 0; have z1:=hx.cell 1; have z2:=hx.cell 2; have z3:=hx.cell 3;have HX:=Hd hx;clear hkg hall hx;by_cases hlt:k < F.length
  ·
   obtain ⟨x,hxx⟩:=get_of_lt (xs:=P) (k:=k) (by rw [HPF.out]; exact hlt);obtain ⟨f,hf⟩:=get_of_lt hlt;have hkp:k < P.length:=lt_of_get hxx;obtain ⟨b,off,hao,hc,hx1,hx2⟩:=ints_cell (H2.out.ext (xbw hwr)) hxx;obtain ⟨b',off',hao',pa,pc,hc',hPR⟩:=(H1.out.ext (xbw hwr)).2.2 k f hf;subst hao hao';have hfl:=hPR.len;have hfac:=facB_of (c:=⟨F,P,n,C⟩) hxx hf;have CP:=polyP_any f pa pc wr hPR (Q1.out f (List.mem_of_getElem? hf));have HF:=Hd hfac;simp only [Nat.mul_one] at hc';have hbl:b < wr.heap.size:=World.block_lt_of_cell? wr _ hc;have hbl':b' < wr.heap.size:=World.block_lt_of_cell? wr _ hc';clear hxx hf hPR hfac;by_cases hxr:0 <= x /\ x <= 64
   case neg =>
    obtain rfl:res = false:=by rw [<- HRES.out]; exact crtB_fac hlt (by rw [HF.out,decide_eq_false hxr]; rfl)
    clear CP;by_cases hx0:x < 0
    ·
     clear hxr;go_wp2;go_ret;exact ⟨rfl,hwr⟩
    ·
     have hx64:64 < x:=by omega
     clear hxr;go_wp2;go_ret;exact ⟨rfl,hwr⟩
   have HF2:=HF.out;rw [decide_eq_true hxr] at HF2;obtain ⟨hxr1,hxr2⟩:=hxr;by_cases hf0:f.length = 0
   ·
    obtain rfl:res = false:=by rw [<- HRES.out]; exact crtB_fac hlt (by rw [HF2,decide_eq_true hf0]; rfl)
    have he0:((f.length:Int) == 0) = true:=by simp [hf0]
    clear CP HF2 hf0;go_wp2;go_ret;exact ⟨rfl,hwr⟩
   ·
    have he0:((f.length:Int) == 0) = false:=by simp; exact fun e=>hf0 (by simp [e])
    rw [decide_eq_false hf0] at HF2;revert CP HF2;generalize polyB f = pb;intro CP HF2;replace CP:=Hd CP;replace HF2:=Hd HF2;clear hf0 HF
    cases pb
    ·
     obtain rfl:res = false:=by rw [<- HRES.out]; exact crtB_fac hlt (by rw [HF2.out]; rfl)
     clear HF2;go_wp2_with fail;refine CP.out.mono ?_;rintro e w2 ⟨rfl,hb2⟩;have hw2:=bth hwr hb2;go_wp2;go_ret;exact ⟨rfl,hw2⟩
    ·
     go_wp2_with fail;refine CP.out.mono ?_;rintro e w2 ⟨rfl,hb2⟩;have hw2:=bth hwr hb2;have hx2:=HX.out.below' hb2;go_wp2;go_roundg (gk - 1)
     case rel=>exact ⟨k + 1,by have:=HKG.out; omega,by go_num,hw2,hx2,all_succ HA.out (by rw [HF2.out]; rfl)⟩
     case measure=>have:=HKG.out; omega
  ·
   have hfin:∀ j,j < F.length -> facB ⟨F,P,n,C⟩ j = true:=fun j hj=>HA.out j (by omega)
   have HFIN:=Hd hfin;obtain ⟨wo,rfl⟩:∃ wo:World,wo = wr:=⟨_,rfl⟩
   clear hfin HKG HA;go_wp2
   go_loopg [60] C.length (fun g q wr=>∃ k:Nat,k + g = C.length /\ q = .int .i64 k /\ Below w.heap.size w wr /\ (C.take k).all polyB = true)
   case atStart=>exact ⟨0,by omega,rfl,hwr,rfl⟩
   case round =>
    clear HX z0 z1 z2 z3 hxl hwr;obtain ⟨k2,hkg,rfl,hwr,hall⟩:=hrel;have HKG:=Hd hkg;have HA:=Hd hall;clear hkg hall;by_cases hlt2:k2 < C.length
    ·
     obtain ⟨f,hf⟩:=get_of_lt hlt2;obtain ⟨b',off',hao',pa,pc,hc',hPR⟩:=(H3.out.ext (xbw hwr)).2.2 k2 f hf;subst hao';have hfl:=hPR.len;have CP:=polyP_any f pa pc wr hPR (Q2.out f (List.mem_of_getElem? hf));have HF:=Hd hf;simp only [Nat.mul_one] at hc';have hbl':b' < wr.heap.size:=World.block_lt_of_cell? wr _ hc';clear hf hPR
     cases hpb:polyB f
     ·
      rw [hpb] at CP;obtain rfl:res = false:=by rw [<- HRES.out]; exact crtB_cof HF.out hpb
      replace CP:=Hd CP;clear hpb;go_wp2_with fail;refine CP.out.mono ?_;rintro e w2 ⟨rfl,hb2⟩;have hw2:=bth hwr hb2;go_wp2;go_ret;exact ⟨rfl,hw2⟩
     ·
      rw [hpb] at CP;replace CP:=Hd CP;have HPB:=Hd hpb;clear hpb;go_wp2_with fail;refine CP.out.mono ?_;rintro e w2 ⟨rfl,hb2⟩;have hw2:=bth hwr hb2;go_wp2;go_roundg (gk - 1)
      case rel=>exact ⟨k2 + 1,by have:=HKG.out; omega,by go_num,hw2,all_take HA.out HF.out HPB.out⟩
      case measure=>have:=HKG.out; omega
    ·
     have HA2:=HA.out;rw [show k2 = C.length by have:=HKG.out; omega] at HA2;obtain rfl:res = true:=by rw [<- HRES.out]; exact crtB_good HPF.out ⟨hp1,hp2⟩ HFIN.out HA2
     clear HA2;go_wp2;go_ret;exact ⟨rfl,hwr⟩
theorem ba_assoc (a b c:ByteArray):a ++ b ++ c = a ++ (b ++ c):=by apply ba_ext; simp [ByteArray.data_append]
theorem own_one {w:World} {g B:Nat} {x:ByteArray} (h:Blk w g 9 #[.string x]) (hB:B <= g):OwnS B w (some ⟨g,0,none⟩) 1 [x]:=by
 refine ⟨by rw [flatMap_len strC_len],.inr ⟨g,1,_,rfl,hB,h,nlr _,by simp [maxLen],by simp,?_⟩⟩;simp [strC]
structure FineL (l : List (List Trm)) : Prop where
 right:∀ p ∈ l,polyB p = true
 few:∀ p ∈ l,p.length <= 1000
 small:∀ p ∈ l,∀ t ∈ p,t.coef.num.length <= 1000 /\ t.coef.den.length <= 1000
theorem FineL.size {l:List (List Trm)} (h:FineL l) {names:List ByteArray} (hn:∀ s ∈ names,s.size <= 1048576) {p:List Trm} (hp:p ∈ l):(printP p names).1.size <= 1400000003000 :=
 printP_size (fun t ht=>by
  obtain ⟨h1,h2⟩:=polyB_terms (h.right p hp) t ht;obtain ⟨h3,h4⟩:=h.small p hp t ht;exact termB_size hn (fun x hx=>((monoB_mem h2).2 x hx).2) (textT_len h1 h3 h4) (monoB_mem h2).1) (h.few p hp)
theorem crtB_fine {F C:List (List Trm)} {P:List Int} {n:Int} (h:crtB ⟨F,P,n,C⟩ = true):P.length = F.length /\ (1 <= n /\ n <= 64) /\ (∀ p ∈ F,polyB p = true) /\ (∀ p ∈ C,polyB p = true) /\ ∀ x ∈ P,0 <= x /\ x <= 64:=by
 unfold crtB at h;simp only [Bool.and_eq_true,decide_eq_true_eq,List.all_eq_true] at h;obtain ⟨⟨⟨h1,h2⟩,h3⟩,h4⟩:=h;have key:∀ (k:Nat) (p:List Trm) (x:Int),F[k]? = some p -> P[k]? = some x -> (0 <= x /\ x <= 64) /\ polyB p = true:=fun k p x hp hx=>by
  have:=h3 k (List.mem_range.2 (lt_of_get hp));rw [facB_of hx hp] at this;simp only [Bool.and_eq_true,decide_eq_true_eq] at this;exact ⟨this.1.1,this.2⟩
 refine ⟨h1,h2,fun p hp=>?_,h4,fun x hx=>?_⟩
 ·
  obtain ⟨k,hk⟩:=List.getElem?_of_mem hp;obtain ⟨x,hx⟩:=get_of_lt (xs:=P) (k:=k) (by have:=lt_of_get hk; omega);exact (key k p x hk hx).2
 ·
  obtain ⟨k,hk⟩:=List.getElem?_of_mem hx;obtain ⟨p,hp⟩:=get_of_lt (xs:=F) (k:=k) (by have:=lt_of_get hk; omega);exact (key k p x hp hk).1
theorem certSM_any (M:Nat) (F C:List (List Trm)) (P:List Int) (n:Int) (names:List ByteArray) (fa wa ca na:Option Addr) (fc wc cc nc:Nat) (w:World) (h1:PolysR w fa fc F) (h2:IntsR w wa wc P) (h3:PolysR w ca cc C) (hn:InInt n)
  (hF:∀ p ∈ F,p.length <= 1000 /\ ∀ t ∈ p,t.coef.num.length <= 1000 /\ t.coef.den.length <= 1000) (hC:∀ p ∈ C,p.length <= 1000 /\ ∀ t ∈ p,t.coef.num.length <= 1000 /\ t.coef.den.length <= 1000) (hMF:∀ p ∈ F,(printP p names).1.size <= M) (hMC:∀ p ∈ C,(printP p names).1.size <= M) (hlF:F.length <= 1000000) (hlC:C.length <= 1000000) (hMZ:(F.length + 1 + C.length) * (M + 100 + 1) <= 140737488355000)
  (hN:StrsR w na nc names) (hnl:names.length <= 1000) (hnz:∀ s ∈ names,s.size <= 1048576) (ht:TabW w) :
  Calls Tryz.prog 23 #[.agg #[.slice fa F.length fc,.slice wa P.length wc,.int .i64 n,.slice ca C.length cc],.slice na names.length nc] w fun e w'=>e = .returned (.tuple #[.string (textC names F C P n (crtB ⟨F,P,n,C⟩)).1,.int .i64 (textC names F C P n (crtB ⟨F,P,n,C⟩)).2]) /\ Below w.heap.size w w':=by
 have CR:=fun W (hW:Below w.heap.size w W)=>crtP_any F C P n fa wa ca fc wc cc W (h1.ext (xbw hW)) (h2.ext (xbw hW)) (h3.ext (xbw hW)) hn (fun p hp t ht=>by have:=(hF p hp).2 t ht; omega) (fun p hp t ht=>by have:=(hC p hp).2 t ht; omega)
 have HF:=Hd (fun W (hW:Below w.heap.size w W)=>h1.ext (xbw hW));have HP:=Hd (fun W (hW:Below w.heap.size w W)=>h2.ext (xbw hW));have HC:=Hd (fun W (hW:Below w.heap.size w W)=>h3.ext (xbw hW));have HN:=Hd (fun W (hW:Below w.heap.size w W)=>hN.ext (xbw hW));have HT:=Hd (fun W (hW:Below w.heap.size w W)=>ht.below hW);have HNZ:=Hd hnz;have HMF:=Hd hMF; have HMC:=Hd hMC; have HMZ:=Hd hMZ;clear hMF hMC hMZ;obtain ⟨bc,hbc⟩:∃ b,crtB ⟨F,P,n,C⟩ = b:=⟨_,rfl⟩
 rw [hbc];simp only [hbc] at CR;obtain ⟨R,hR⟩:∃ r,textC names F C P n bc = r:=⟨_,rfl⟩
 rw [hR];unfold textC at hR;have hfine:=fun (h:bc = true)=>crtB_fine (hbc.trans h)
 replace CR:=Hd CR; replace hfine:=Hd hfine;have HFQ:=Hd hF; have HCQ:=Hd hC;clear h1 h2 h3 hN hnz ht hbc hF hC;go_enter Tryz.func23,Tryz.ntmps23;go_wp2_with fail;refine calls_gen (fun W=>Blk W w.heap.size 40 #[.slice fa F.length fc,.slice wa P.length wc,.int .i64 n,.slice ca C.length cc] /\ Below w.heap.size w W) ⟨by ((with_reducible repeat first|assumption|(apply bF;focus omega)|apply bS|(apply bN;focus (simp;done))|apply bA|apply bD);all_goals rfl),by go_grown⟩ ?_;rintro w0 ⟨h0,hw0⟩;refine (CR.out w0 hw0).mono ?_;rintro e w1 ⟨rfl,hb1⟩;have hw1:=bth hw0 hb1;replace h0:=h0.below' hb1;clear hw0 hb1 CR
 cases bc
 ·
  have hfin:=Hd (show R = (⟨#[]⟩,1) from hR.symm);clear hR hfine h0;go_wp2;go_ret2;exact ⟨by rw [hfin.out]; rfl,hw1⟩
 obtain ⟨hPF0,⟨hn1,hn2⟩,hrF,hrC,hPx⟩:=hfine.out rfl;have hPF:=Hd hPF0;clear hPF0;have FF:=Hd (FineL.mk hrF (fun p hp=>(HFQ.out p hp).1) (fun p hp=>(HFQ.out p hp).2));have FC:=Hd (FineL.mk hrC (fun p hp=>(HCQ.out p hp).1) (fun p hp=>(HCQ.out p hp).2));have HPX:=Hd hPx;rw [if_pos rfl] at hR;obtain ⟨pn,rfl⟩:∃ pn:Nat,n = (pn:Int):=⟨n.toNat,by omega⟩
 clear hrF hrC hPx hfine HFQ HCQ hn;have x2:=h0.cell 2;have hl0:=digs_1m (pn:Int) (by omega);rw [Int.toNat_natCast,<- ofL_size] at hl0;have hz1:(6:Nat) + (ofL (textN pn)).size <= 20:=by omega
 have CI:=Hd (itoaN_any pn w1 (HT.out w1 hw1) (by omega));go_wp2_with fail;refine CI.out.mono ?_;rintro e w2 ⟨rfl,hb2⟩;have hw2:=bth hw1 hb2;replace h0:=h0.below' hb2;have y0:=h0.cell 0;clear x2 CI hb2 hw1;have gl0:=h0.lt;have hs2:=hw2.size;go_wp2;refine world_gen (fun W=>Blk W w2.heap.size 9 #[.string (⟨#[112,111,119,101,114,32]⟩ ++ ofL (textN pn))] /\ Blk W w.heap.size 40 #[.slice fa F.length fc,.slice wa P.length wc,.int .i64 (pn:Int),.slice ca C.length cc] /\ Below w.heap.size w W) (by refine ⟨?_,?_,?_⟩<;>first|((with_reducible repeat first|assumption|(apply bF;focus omega)|apply bS|(apply bN;focus (simp;done))|apply bA|apply bD);all_goals rfl)|go_grown) ?_;rintro w3 ⟨hr,h1,hw3⟩;have hO0:=own_one (x:=ln0 (pn:Int)) (B:=w.heap.size + 1) hr (by omega);clear h0 y0 hr gl0 hs2 hw2;have hlF1:lnsF names F P (pn:Int) 0 = [ln0 (pn:Int)]:=by simp [lnsF]
 replace hlF1:=Hd hlF1;obtain ⟨g2,hg2⟩:∃ q,w2.heap.size = q:=⟨_,rfl⟩
 rw [hg2] at hO0 ⊢;clear hg2 hl0 hz1
 go_loopg [6,7,8,9,10,26,31] F.length (fun g s6 _ _ _ _ s26 _ wr=>∃ (k:Nat) (a2:Option Addr) (c2:Nat),Hid (k + g = F.length) /\ s26 = .int .i64 k /\ s6 = .slice a2 (lnsF names F P (pn:Int) k).length c2 /\ OwnS (w.heap.size + 1) wr a2 c2 (lnsF names F P (pn:Int) k) /\ Blk wr w.heap.size 40 #[.slice fa F.length fc,.slice wa P.length wc,.int .i64 (pn:Int),.slice ca C.length cc] /\ Hid (errL names F = errL names (F.drop k)) /\ Below w.heap.size w wr)
 case atStart=>exact ⟨0,some ⟨g2,0,none⟩,1,by show _ = _; omega,rfl,by rw [hlF1.out]; rfl,by rw [hlF1.out]; exact hO0,h1,rfl,hw3⟩
 case round =>
  clear hO0 h1 hw3;obtain ⟨k,a2,c2,hk,rfl,rfl,hO,h0,her,hwr⟩:=hrel;have HO:=Hd hO;clear hO;by_cases hlt:k < F.length
  ·
   obtain ⟨p,hp⟩:=get_of_lt hlt;have hpm:=List.mem_of_getElem? hp;obtain ⟨x,hx⟩:=get_of_lt (xs:=P) (k:=k) (by have:=hPF.out; omega);obtain ⟨hx0,hx1⟩:=HPX.out x (List.mem_of_getElem? hx);obtain ⟨bf,of,rfl,ap,cp,hcf,hPR⟩:=(HF.out wr hwr).2.2 k p hp;simp only [Nat.mul_one] at hcf;obtain ⟨bx,ox,rfl,hcx,hxw⟩:=(HP.out wr hwr).2.2 k x hx;simp only [Nat.mul_one] at hcx;obtain ⟨xn,rfl⟩:∃ xn:Nat,x = (xn:Int):=⟨x.toNat,by omega⟩
   have CP:=printS_any p names ap na cp nc wr hPR (FF.out.small p hpm) (FF.out.few p hpm) (HN.out wr hwr) hnl HNZ.out (HT.out wr hwr);have hps:=FF.out.size HNZ.out hpm;have hel:=errL_at (names:=names) hp;have hls:=lnsF_succ (names:=names) (n:=(pn:Int)) hp hx;unfold lnF at hls;obtain ⟨pr,hpr⟩:∃ r,printP p names = r:=⟨_,rfl⟩
   rw [hpr] at CP hps hel hls;obtain ⟨ts,te⟩:=pr;dsimp only at CP hps hel hls;replace CP:=Hd CP; replace hel:=Hd (her.out.trans hel); replace hls:=Hd hls;have hkx:k < P.length:=by have:=hPF.out; omega
   clear hpr hp hx hxw hPR hpm her;go_wp2_with fail;refine CP.out.mono ?_;rintro e w4 ⟨rfl,hb4⟩;have hw4:=bth hwr hb4;have HO4:=Hd (HO.out.below hb4);replace h0:=h0.below' hb4;have hcx4:=held hcx w4 hb4;have y1:=h0.cell 1;clear CP HO hcx hcf;by_cases he:te = 0
   ·
    subst he;have hne:((0:Int) != 0) = false:=rfl;have HE:=Hd (show errL names F = errL names (F.drop (k + 1)) from hel.out.trans (if_pos rfl));have CI:=Hd (itoaN_any xn w4 (HT.out w4 hw4) (by omega));have hl0:=digs_1m (xn:Int) (by omega);rw [Int.toNat_natCast,<- ofL_size] at hl0;clear hel;go_wp2_with fail;refine CI.out.mono ?_;rintro e w5 ⟨rfl,hb5⟩;have hw5:=bth hw4 hb5;have HO5:=Hd (HO4.out.below hb5);replace h0:=h0.below' hb5;obtain ⟨T,hT⟩:∃ T,ofL (textN xn) = T:=⟨_,rfl⟩
    rw [Int.toNat_natCast,hT] at hls;rw [hT] at hl0 ⊢;have z1:7 + T.size <= 17:=by omega
    have z2:7 + T.size + 1 <= 18:=by omega
    have z3:7 + T.size + 1 + ts.size <= 1400000003018:=by omega
    have z4:¬ 9223372036854775807 < 7 + T.size:=by omega
    have z5:¬ 9223372036854775807 < 7 + T.size + 1:=by omega
    have z6:¬ 9223372036854775807 < 7 + T.size + 1 + ts.size:=by omega
    have hln:=Hd (lnsF_len names F P (pn:Int) k);clear CI HO4 hb5 hT;have HLE:Hid ((lnsF names F P (pn:Int) k ++ [⟨#[102,97,99,116,111,114,32]⟩ ++ T ++ ⟨#[32]⟩ ++ ts]).length <= 16777216):=Hd (by rw [List.length_append,hln.out]; simp; omega);go_wp2_with (at_builtin; go_must (refine append_str rfl (.tmp 40) (.tmp 51) rfl a2 c2 rfl (HO5.out.alloc _) (⟨#[102,97,99,116,111,114,32]⟩ ++ T ++ ⟨#[32]⟩ ++ ts) w5.heap.size 1 rfl (by simp) (lnsF names F P (pn:Int) k ++ [⟨#[102,97,99,116,111,114,32]⟩ ++ T ++ ⟨#[32]⟩ ++ ts]) rfl HLE.out (by have:=h0.lt; simp; omega) ?_); intro a3 c3 w6 ho3 hg3 hx3);have hw6:=below_append' (hw5.alloc hw5.size _) ((HO5.out.alloc _).base (Nat.le_succ _)) hg3;have h6:=(h0.alloc (.cells #[.string (⟨#[102,97,99,116,111,114,32]⟩ ++ T ++ ⟨#[32]⟩ ++ ts)] 9)).under HO5.out (Nat.lt_succ_self _) hg3;rw [<- hls.out] at ho3;replace ho3:=Hd ho3;clear hx3 hg3 HO5 h0 hw5
    go_roundg (gk - 1)
    case rel=>exact ⟨k + 1,a3,c3,by have:=hk.out; show _ = _; omega,by go_num,by rw [hls.out,List.length_append]; rfl,ho3.out,h6,HE,hw6⟩
    case measure=>have:=hk.out; omega
   ·
    have hne:(te != 0) = true:=by simpa using he
    have HE:errL names F ≠ 0:=by rw [hel.out,if_neg he]; exact he
    have hfin:=Hd (show R = (⟨#[]⟩,te) by rw [<- hR,if_neg HE,hel.out,if_neg he]);clear hR HE he hel;go_wp2;go_ret2;exact ⟨by rw [hfin.out]; rfl,hw4⟩
  ·
   have hkl:k = F.length:=by have:=hk.out; omega
   subst hkl;rw [errL_end] at her;rw [if_pos her.out] at hR;obtain ⟨w3,rfl⟩:∃ W,W = wr:=⟨_,rfl⟩
   have x3:=h0.cell 3;have HE0:=Hd (lnsC_zero names F C P (pn:Int));clear hk her;go_wp2
   go_loopg [6,12,13,14,57,61] C.length (fun g s6 _ _ _ s57 _ wr=>∃ (k:Nat) (a2:Option Addr) (c2:Nat),Hid (k + g = C.length) /\ s57 = .int .i64 k /\ s6 = .slice a2 (lnsC names F C P (pn:Int) k).length c2 /\ OwnS w.heap.size wr a2 c2 (lnsC names F C P (pn:Int) k) /\ Hid (errL names C = errL names (C.drop k)) /\ Below w.heap.size w wr)
   case atStart=>exact ⟨0,a2,c2,by show _ = _; omega,rfl,by rw [HE0.out],by rw [HE0.out]; exact HO.out.base (Nat.le_succ _),rfl,hwr⟩
   case round =>
    clear HO h0 x3 hwr;obtain ⟨k,a2,c2,hk,rfl,rfl,hO,her,hwr⟩:=hrel;have HO:=Hd hO;clear hO;by_cases hlt:k < C.length
    ·
     obtain ⟨p,hp⟩:=get_of_lt hlt;have hpm:=List.mem_of_getElem? hp;obtain ⟨bf,of,rfl,ap,cp,hcf,hPR⟩:=(HC.out wr hwr).2.2 k p hp;simp only [Nat.mul_one] at hcf;have CP:=printS_any p names ap na cp nc wr hPR (FC.out.small p hpm) (FC.out.few p hpm) (HN.out wr hwr) hnl HNZ.out (HT.out wr hwr);have hps:=FC.out.size HNZ.out hpm;have hel:=errL_at (names:=names) hp;have hls:=lnsC_succ (names:=names) (F:=F) (P:=P) (n:=(pn:Int)) hp;unfold lnC at hls;obtain ⟨pr,hpr⟩:∃ r,printP p names = r:=⟨_,rfl⟩
     rw [hpr] at CP hps hel hls;obtain ⟨ts,te⟩:=pr;dsimp only at CP hps hel hls;replace CP:=Hd CP; replace hel:=Hd (her.out.trans hel); replace hls:=Hd hls;clear hpr hp hPR hpm her;go_wp2_with fail;refine CP.out.mono ?_;rintro e w4 ⟨rfl,hb4⟩;have hw4:=bth hwr hb4;have HO4:=Hd (HO.out.below hb4);clear CP HO hcf;by_cases he:te = 0
     ·
      subst he;have hne:((0:Int) != 0) = false:=rfl;have HE:=Hd (show errL names C = errL names (C.drop (k + 1)) from hel.out.trans (if_pos rfl));have z1:9 + ts.size <= 1400000003018:=by omega
      have z2:¬ 9223372036854775807 < 9 + ts.size:=by omega
      have hln:=Hd (lnsC_len names F C P (pn:Int) k);have HLE:Hid ((lnsC names F C P (pn:Int) k ++ [⟨#[99,111,102,97,99,116,111,114,32]⟩ ++ ts]).length <= 16777216):=Hd (by rw [List.length_append,hln.out]; simp; omega);clear hel;go_wp2_with (at_builtin; go_must (refine append_str rfl (.tmp 70) (.tmp 73) rfl a2 c2 rfl (HO4.out.alloc _) (⟨#[99,111,102,97,99,116,111,114,32]⟩ ++ ts) w4.heap.size 1 rfl (by simp) (lnsC names F C P (pn:Int) k ++ [⟨#[99,111,102,97,99,116,111,114,32]⟩ ++ ts]) rfl HLE.out (by have:=hw4.size; simp; omega) ?_); intro a3 c3 w6 ho3 hg3 hx3);have hw6:=below_append' (hw4.alloc hw4.size _) (HO4.out.alloc _) hg3;rw [<- hls.out] at ho3;replace ho3:=Hd ho3;clear hx3 hg3 HO4 hw4;go_roundg (gk - 1)
      case rel=>exact ⟨k + 1,a3,c3,by have:=hk.out; show _ = _; omega,by go_num,by rw [hls.out,List.length_append]; rfl,ho3.out,HE,hw6⟩
      case measure=>have:=hk.out; omega
     ·
      have hne:(te != 0) = true:=by simpa using he
      have HE:errL names C ≠ 0:=by rw [hel.out,if_neg he]; exact he
      have hfin:=Hd (show R = (⟨#[]⟩,te) by rw [<- hR,if_neg HE,hel.out,if_neg he]);clear hR HE he hel;go_wp2;go_ret2;exact ⟨by rw [hfin.out]; rfl,hw4⟩
    ·
     have hkl:k = C.length:=by have:=hk.out; omega
     subst hkl;rw [errL_end] at her;rw [if_pos her.out] at hR;have hsh:=lnsC_short (names:=names) (F:=F) (C:=C) (P:=P) (n:=(pn:Int)) HMF.out HMC.out (fun x hx=>(HPX.out x hx).2) hPF.out (by omega) C.length (nlr _);have hcs:=catL_size hsh;have hln:=lnsC_len names F C P (pn:Int) C.length;have hcj:=catL_join (lnsC names F C P (pn:Int) C.length) (by intro e; rw [e] at hln; simp at hln; omega);have hcz:(catL (lnsC names F C P (pn:Int) C.length)).size <= 140737488355000:=Nat.le_trans hcs (by rw [hln]; exact HMZ.out);rw [<- hcj,ByteArray.size_append] at hcz;have CJ:=Hd (join_any (lnsC names F C P (pn:Int) C.length) nlB a2 c2 wr HO.out.reads1 (by omega) (by omega));obtain ⟨J,hJ⟩:∃ J,joinB (lnsC names F C P (pn:Int) C.length) nlB = J:=⟨_,rfl⟩
     rw [hJ] at CJ hcj hcz;have z1:J.size + 5 <= 140737488355005:=by omega
     have z2:¬ 9223372036854775807 < J.size + 5:=by omega
     have hfin:=Hd (show R = (J ++ ⟨#[10,101,110,100,10]⟩,0) by
      rw [<- hR,<- hcj,ba_assoc]; rfl)
     clear hR hcj hcz hcs hsh hln hJ her;go_wp2_with fail;refine CJ.out.mono ?_;rintro e w4 ⟨rfl,hb4⟩;have hw4:=bth hwr hb4;clear CJ;go_wp2;go_ret2;exact ⟨by rw [hfin.out]; rfl,hw4⟩
theorem print_big {p:List Trm} {names:List ByteArray} (hn:∀ s ∈ names,s.size <= 1048576) (hp:p.length <= 1000 /\ ∀ t ∈ p,t.coef.num.length <= 1000 /\ t.coef.den.length <= 1000):(printP p names).1.size <= 1400000003000:=by
 by_cases h:polyB p = true
 · exact FineL.size (l:=[p]) ⟨by simpa using h,by simpa using hp.1,by simpa using hp.2⟩ hn (by simp)
 · unfold printP; rw [if_neg h]; exact Nat.zero_le _
theorem certS_any (F C:List (List Trm)) (P:List Int) (n:Int) (names:List ByteArray) (fa wa ca na:Option Addr) (fc wc cc nc:Nat) (w:World) (h1:PolysR w fa fc F) (h2:IntsR w wa wc P) (h3:PolysR w ca cc C) (hn:InInt n)
  (hF:∀ p ∈ F,p.length <= 1000 /\ ∀ t ∈ p,t.coef.num.length <= 1000 /\ t.coef.den.length <= 1000) (hC:∀ p ∈ C,p.length <= 1000 /\ ∀ t ∈ p,t.coef.num.length <= 1000 /\ t.coef.den.length <= 1000) (hlF:F.length <= 10) (hlC:C.length <= 10)
  (hN:StrsR w na nc names) (hnl:names.length <= 1000) (hnz:∀ s ∈ names,s.size <= 1048576) (ht:TabW w) :
  Calls Tryz.prog 23 #[.agg #[.slice fa F.length fc,.slice wa P.length wc,.int .i64 n,.slice ca C.length cc],.slice na names.length nc] w fun e w'=>e = .returned (.tuple #[.string (textC names F C P n (crtB ⟨F,P,n,C⟩)).1,.int .i64 (textC names F C P n (crtB ⟨F,P,n,C⟩)).2]) /\ Below w.heap.size w w' :=
 certSM_any 1400000003000 F C P n names fa wa ca na fc wc cc nc w h1 h2 h3 hn hF hC (fun p hp=>print_big hnz (hF p hp)) (fun p hp=>print_big hnz (hC p hp)) (by omega) (by omega) (Nat.le_trans (Nat.mul_le_mul_right _ (show F.length + 1 + C.length <= 21 by omega)) (by decide)) hN hnl hnz ht
end Go.Proofs.YtkjnkpkagcboeaaGreatDoor
namespace Go.Proofs.YtkjnkpkagcboeaaGreatDoor
open Go.ChangeShapes Go.WideShapes Go.ChangeAt Go.RowKit
theorem fitL_fine {l:List (List Trm)} (h:fitL l = true):∀ p ∈ l,p.length <= 1000 /\ ∀ t ∈ p,t.coef.num.length <= 1000 /\ t.coef.den.length <= 1000:=fun p hp=>by
 have h1:=(fitL_mem h).2 p hp;exact ⟨by omega,fun t ht=>by have:=h1.2 t ht; omega⟩
section
variable {H : Type} {enc : TypeId × Value -> H} {W : World} {sp : Nat -> Bool} {held : Bool}
theorem open_strsa {r:Reach} {b0:Nat} {v:Value} {d:DataW H} {p:List MemPlace} (hv:Value.okWide Tryz.prog W r b0 24 v) (h:DataW.Trod enc Tryz.prog W 0 sp held 24 v d p) :
  ∃ (l:List ByteArray) (a:Option Addr) (c:Nat),v = .slice a l.length c /\ StrsR W a c l /\ (l.map fun s=>s.size + 1).sum + 1 <= Rows.uptoBulk d:=by
 obtain ⟨n,hn⟩:=h;obtain ⟨a,c,zs,h1,h2,h3⟩:=open_strsl hn;obtain ⟨a',l',c',rfl⟩:=okWide_slice Tryz.underlying24 hv;refine ⟨zs,a,c,?_,h2,h3⟩;simpa [Value.cells] using h1
end
theorem sum_mem {l:List ByteArray} {m:Nat} (h:(l.map fun s=>s.size + 1).sum <= m):∀ s ∈ l,s.size <= m:=by
 induction l generalizing m with
 | nil=>intro s hs; cases hs
 | cons x r ih =>
  intro s hs;rw [List.map_cons,List.sum_cons] at h;rcases List.mem_cons.1 hs with rfl | hs
  · omega
  · exact Nat.le_trans (ih (nlr _) s hs) (by omega)
end Go.Proofs.YtkjnkpkagcboeaaGreatDoor
namespace Go.Proofs.YtkjnkpkagcboeaaGreatDoor
open Go.RowKit
theorem fit_print {p:List Trm} {names:List ByteArray} (hn:∀ s ∈ names,s.size <= 1048576) (hp:p.length <= 8) (ht:∀ t ∈ p,t.mono.length <= 6 /\ t.coef.num.length <= 4 /\ t.coef.den.length <= 4):(printP p names).1.size <= 58833008:=by
 by_cases hb:polyB p = true
 ·
  have key:∀ t ∈ p,(termB t.coef.q t.mono names).size <= 7354123:=fun t hm=>by
   have hok:=polyB_terms hb t hm;obtain ⟨a1,a2,a3⟩:=ht t hm;have hsq:=short_right hok.1 (show t.coef.num.length <= 6 by omega) (show t.coef.den.length <= 6 by omega);have htl:(textQ (absQ t.coef.q)).length <= 2001:=by
    obtain ⟨b1,b2⟩:=hsq;rw [textQ_pos (absQ_nonneg _)]
    split
    · omega
    · rw [List.length_append,List.length_cons]; omega
   have hsh:=joinB_size (partsT_short (q:=t.coef.q) (m:=t.mono) (names:=names) (N:=1048576) (T:=2001) hn (fun x hx=>((monoB_mem hok.2).2 x hx).2) htl t.mono.length);have hpl:=partsT_len t.coef.q t.mono names t.mono.length;exact Nat.le_trans hsh (Nat.le_trans (Nat.mul_le_mul_right _ (show _ <= 7 by omega)) (by omega))
  unfold printP;rw [if_pos hb]
  split
  ·
   split
   · exact Nat.zero_le _
   ·
    split
    · show 1 <= _; omega
    · exact Nat.le_trans (polyTo_size key _) (Nat.le_trans (Nat.mul_le_mul_right _ hp) (by omega))
  · exact Nat.zero_le _
 · unfold printP; rw [if_neg hb]; exact Nat.zero_le _
theorem fit_text {F C:List (List Trm)} {P:List Int} {n:Int} {names:List ByteArray} {b:Bool} (hn:∀ s ∈ names,s.size <= 1048576) (hF:fitL F = true) (hC:fitL C = true) (hb:crtB ⟨F,P,n,C⟩ = true):(textC names F C P n b).1.size <= 800000000:=by
 obtain ⟨h1,h2,_,_,h5⟩:=crtB_fine hb;obtain ⟨l1,m1⟩:=fitL_mem hF;obtain ⟨l2,m2⟩:=fitL_mem hC;unfold textC
 split
 ·
  split
  ·
   split
   ·
    have hs:=catL_size (lnsC_short (M:=58833008) (names:=names) (F:=F) (C:=C) (P:=P) (n:=n) (fun p hp=>fit_print hn (m1 p hp).1 (m1 p hp).2) (fun p hp=>fit_print hn (m2 p hp).1 (m2 p hp).2) (fun x hx=>(h5 x hx).2) h1 (by omega) C.length (nlr _));rw [lnsC_len] at hs;have h6:(F.length + 1 + C.length) * (58833008 + 100 + 1) <= 13 * (58833008 + 100 + 1):=Nat.mul_le_mul_right _ (by omega)
    show (catL (lnsC names F C P n C.length) ++ endB).size <= _
    rw [ByteArray.size_append];have h7:endB.size = 4:=rfl
    omega
   · exact Nat.zero_le _
  · exact Nat.zero_le _
 · exact Nat.zero_le _
theorem textC_ok {F C:List (List Trm)} {P:List Int} {n:Int} {names:List ByteArray} {b:Bool} (h:(textC names F C P n b).2 = 0):b = true:=by
 unfold textC at h
 split at h
 · next hb=>exact hb
 · cases h
theorem crtB_ne {F C:List (List Trm)} {P:List Int} {n:Int} (h:crtB ⟨F,P,n,C⟩ = true):∀ p ∈ F,p ≠ []:=fun p hp=>by
 have hP:=(crtB_fine h).1;unfold crtB at h;simp only [Bool.and_eq_true,decide_eq_true_eq,List.all_eq_true] at h;obtain ⟨k,hk⟩:=List.getElem?_of_mem hp;obtain ⟨x,hx⟩:=get_of_lt (xs:=P) (k:=k) (by have:=lt_of_get hk; omega);have:=h.1.2 k (List.mem_range.2 (lt_of_get hk));rw [facB_of hx hk] at this;simp only [Bool.and_eq_true,Bool.not_eq_true',decide_eq_false_iff_not] at this;exact fun e=>this.1.2 (by rw [e]; rfl)
theorem fit_mod {l:List (List Trm)} (h:fitL l = true):∀ p ∈ l,ModP p:=fun p hp=>by
 obtain ⟨h1,h2⟩:=(fitL_mem h).2 p hp;exact ⟨by omega,fun t ht=>by have:=h2 t ht; omega⟩
theorem polys_back {F:List (List Trm)} (h:∀ p ∈ F,polyB p = true):(F.map (·.map trmQ)).map (·.map trmOf) = F:=by
 rw [List.map_map]
 conv=>rhs; rw [<- List.map_id F]
 refine List.map_congr_left fun p hp=>?_
 have hb:=h p hp
 show (p.map trmQ).map trmOf = p
 exact (polyQ_ext (polyB_ok hb) (polyB_ok (polyB_of (polyB_pok hb))) (by rw [map_of])).symm
theorem fit_few {l:List (List Trm)} (h:fitL l = true):∀ p ∈ l,FewT p:=fun p hp t ht=>by have:=((fitL_mem h).2 p hp).2 t ht; omega
theorem certificateBack_crt (F C:List (List Trm)) (P:List Int) (n:Int) (names:List ByteArray) (fa wa ca na:Option Addr) (fc wc cc nc:Nat) (w:World) (h1:PolysR w fa fc F) (h2:IntsR w wa wc P) (h3:PolysR w ca cc C) (hn:InInt n)
  (hE:∀ W,Below w.heap.size w W -> EnvC names na nc W) (hnz:∀ s ∈ names,s.size <= 1048576) :
  Calls Tryz.prog 8 #[.agg #[.slice fa F.length fc,.slice wa P.length wc,.int .i64 n,.slice ca C.length cc],.slice na names.length nc] w fun e w'=>e = .returned (.bool true) /\ Below w.heap.size w w':=by
 have CF:=fun W (hW:Below w.heap.size w W)=>fits30_any F C P n fa wa ca fc wc cc W (h1.ext (xbw hW)) (h2.ext (xbw hW)) (h3.ext (xbw hW))
 obtain ⟨b,hb⟩:∃ x,(fitL F && fitL C && decide (P.length <= 6)) = x:=⟨_,rfl⟩
 simp only [hb] at CF;replace CF:=Hd CF;have C1:=fun (hf:fitL F = true) (hg:fitL C = true) (hl:names.length <= 1000) W (hW:Below w.heap.size w W)=>certS_any F C P n names fa wa ca na fc wc cc nc W (h1.ext (xbw hW)) (h2.ext (xbw hW)) (h3.ext (xbw hW)) hn (fitL_fine hf) (fitL_fine hg) (by have:=(fitL_mem hf).1; omega) (by have:=(fitL_mem hg).1; omega) (hE W hW).1 hl hnz (hE W hW).2.2.2.2
 obtain ⟨cb,hcb⟩:∃ x,crtB ⟨F,P,n,C⟩ = x:=⟨_,rfl⟩
 simp only [hcb] at C1;obtain ⟨T,hT⟩:∃ T,textC names F C P n cb = T:=⟨_,rfl⟩
 simp only [hT] at C1;obtain ⟨s,er⟩:=T;dsimp only at C1;have hfin:er = 0 -> fitL F = true -> fitL C = true -> crtB ⟨F,P,n,C⟩ = true /\ s.size <= 800000000:=fun e hf hg=>by
  have h0:(textC names F C P n cb).2 = 0:=by rw [hT]; exact e
  have hcc:=hcb.trans (textC_ok h0);have:=fit_text (b:=cb) hnz hf hg hcc;rw [hT] at this;exact ⟨hcc,this⟩
 replace C1:=Hd C1; replace hfin:=Hd hfin;have hfit:b = true -> fitL F = true /\ fitL C = true:=fun h=>by
  rw [<- hb] at h;simp only [Bool.and_eq_true] at h;exact h.1
 replace hfit:=Hd hfit;have hlN:=(hE w brf).1.len;have HE:=Hd hE; have HNZ:=Hd hnz;have H1:=Hd (fun W (hW:Below w.heap.size w W)=>h1.ext (xbw hW));have H2:=Hd (fun W (hW:Below w.heap.size w W)=>h2.ext (xbw hW));have H3:=Hd (fun W (hW:Below w.heap.size w W)=>h3.ext (xbw hW));replace hT:=Hd hT;clear h1 h2 h3 hE hb hnz hn hcb;go_enter Tryz.func8,Tryz.ntmps8;go_wp2_with fail;refine calls_gen (fun W=>Blk W w.heap.size 40 #[.slice fa F.length fc,.slice wa P.length wc,.int .i64 n,.slice ca C.length cc] /\ Below w.heap.size w W) ⟨by ((with_reducible repeat first|assumption|(apply bF;focus omega)|apply bS|(apply bN;focus (simp;done))|apply bA|apply bD);all_goals rfl),by go_grown⟩ ?_;rintro w0 ⟨h0,hw0⟩;refine (CF.out w0 hw0).mono ?_;rintro e w1 ⟨rfl,hb1⟩;have hw1:=bth hw0 hb1;replace h0:=h0.below' hb1;clear hw0 hb1 CF
 cases b
 ·
  go_wp2;go_ret;exact ⟨rfl,hw1⟩
 by_cases h8:8 < names.length
 ·
  have d8:decide (8 < names.length) = true:=decide_eq_true h8;go_wp2;go_ret;exact ⟨rfl,hw1⟩
 have d8:decide (8 < names.length) = false:=decide_eq_false h8;obtain ⟨hfF,hfC⟩:=hfit.out rfl;have D1:=Hd (C1.out hfF hfC (by omega));have hfin2:=Hd (fun e=>hfin.out e hfF hfC);have hfF':=Hd hfF; have hfC':=Hd hfC;have x0:=h0.cell 0; have x1:=h0.cell 1; have x2:=h0.cell 2; have x3:=h0.cell 3;clear C1 hfF hfC hfit hfin;go_wp2_with fail;refine (D1.out w1 hw1).mono ?_;rintro e w2 ⟨rfl,hb2⟩;have hw2:=bth hw1 hb2;replace h0:=h0.below' hb2;clear x0 x1 x2 x3 D1 hb2 hw1;by_cases he:er = 0
 case neg =>
  have hne:(er != 0) = true:=by simpa using he
  replace he:=Hd he;clear h0;go_wp2;go_ret;exact ⟨rfl,hw2⟩
 subst he;obtain ⟨hcr,hss⟩:=hfin2.out rfl;obtain ⟨c1,c2,c3,c4,c5⟩:=crtB_fine hcr;have hT0:(textC names F C P n cb).2 = 0:=by rw [hT.out]
 obtain ⟨ln1,ln2⟩:=textC_lines hT0 (fit_mod hfF'.out) (fit_mod hfC'.out);rw [hT.out] at ln1 ln2;dsimp only at ln1 ln2;have lf:=(fitL_mem hfF'.out).1; have lc:=(fitL_mem hfC'.out).1;have hrd:=readQ_back hT0 c2 c1 c5 (crtB_ne hcr) (fun p hp=>⟨by have:=(fit_mod hfF'.out p hp).1; omega,short_poly (c3 p hp) (fit_mod hfF'.out p hp).2⟩) (fun p hp=>⟨by have:=(fit_mod hfC'.out p hp).1; omega,short_poly (c4 p hp) (fit_mod hfC'.out p hp).2⟩);rw [hT.out] at hrd;dsimp only at hrd;have CR:=certRead_any s names na nc w2 (fun W hW=>HE.out W (bth hw2 hW)) HNZ.out (by omega) (by omega) (by omega) (fun k t ht _=>ln1 t (List.mem_of_getElem? ht));rw [hrd] at CR
 have CR2:Calls Tryz.prog 19 #[.string s,.slice na names.length nc] w2 fun e w'=>∃ (fb wb cb:Option Addr) (fd wd cd:Nat),e = .returned (.tuple #[.agg #[.slice fb F.length fd,.slice wb P.length wd,.int .i64 n,.slice cb C.length cd],.int .i64 0,.int .i64 0]) /\ Below w2.heap.size w2 w' /\ PolysR w' fb fd F /\ IntsR w' wb wd P /\ PolysR w' cb cd C:=CR.mono fun e w' h=>by
  obtain ⟨fb,wb,cb,fd,wd,cd,r1,r2,r3,r4,r5⟩:=h;dsimp only at r1 r3 r4 r5;rw [List.length_map,List.length_map] at r1;rw [polys_back c3] at r3;rw [polys_back c4] at r5;exact ⟨fb,wb,cb,fd,wd,cd,r1,r2,r3,r4,r5⟩
 have hPF:=Hd (fun p hp=>(⟨c3 p hp,fit_few hfF'.out p hp⟩:polyB p = true /\ FewT p));have hPC:=Hd (fun p hp=>(⟨c4 p hp,fit_few hfC'.out p hp⟩:polyB p = true /\ FewT p));replace CR2:=Hd CR2;replace h0:=Hd h0;clear CR hrd ln1 ln2 hT0 c1 c2 c3 c4 c5 hcr hss lf lc hT;go_wp2_with fail;refine CR2.out.mono ?_;rintro e w3 ⟨fb,wb,cb,fd,wd,cd,rfl,hb3,k1,k2,k3⟩;have hw3:=bth hw2 hb3;have h03:=h0.out.below' hb3;have x0:=h03.cell 0; have x1:=h03.cell 1; have x2:=h03.cell 2; have x3:=h03.cell 3;have hl:=h03.lt;have CSm:=Hd (fun W (hW:Below w3.heap.size w3 W)=>same30_any F C P n fb wb cb fa wa ca fd wd cd fc wc cc W (k1.ext (xbw hW)) (k2.ext (xbw hW)) (k3.ext (xbw hW)) (H1.out W (bth hw3 hW)) (H2.out W (bth hw3 hW)) (H3.out W (bth hw3 hW)) hPF.out hPC.out);clear k1 k2 k3 CR2 hb3 h03;go_wp2_with fail;refine calls_gen (fun W=>Below w3.heap.size w3 W) (by go_grown) ?_;intro w4 hw4
 refine (CSm.out w4 hw4).mono ?_;rintro e w5 ⟨rfl,hb5⟩;clear x0 x1 x2 x3 hl CSm;go_wp2;go_ret;exact ⟨rfl,bth hw3 (bth hw4 hb5)⟩
end Go.Proofs.YtkjnkpkagcboeaaGreatDoor
namespace Go.Proofs.YtkjnkpkagcboeaaGreatDoor
open Go.RowKit Go.WideShapes Go.ChangeAt
theorem certificateBack_law {v u:Value} {w:World} {m:Nat} (h:∃ (c:Crt) (p:CA),v = c.val p /\ CrtR w p c) (h':InS30 w u m) (hm:m <= 1048576) (hM:MaxL w) (he:ErrW w) (hy:ErrS w) (ht:TabW w) :
  Calls Tryz.prog 8 #[v,u] w fun r w'=>r = .returned (.bool true) /\ Below w.heap.size w w':=by
 obtain ⟨⟨F,P,n,C⟩,⟨fa,fc,wa,wc,ca,cc⟩,rfl,h1,h2,h3,h4⟩:=h;obtain ⟨l,a,c,rfl,h5,h6⟩:=h';exact certificateBack_crt F C P n l fa wa ca a fc wc cc c w h1 h2 h3 h4 (envC_of h5 hM he hy ht) (sum_mem (by omega))
end Go.Proofs.YtkjnkpkagcboeaaGreatDoor
namespace Go.Proofs.YtkjnkpkagcboeaaGreatDoor
open Go.ChangeShapes Go.WideShapes Go.ChangeAt Go.RowKit
theorem trodAll_below {H:Type} {enc:TypeId × Value -> H} {P:Program} (hl:laidOutB P = true) {W W':World} (hB:Below W.heap.size W W') :
  ∀ (ts:List TypeId) (vs:List Value) (ds:List (DataW H)) (p:List MemPlace),(ts.all fun t=>P.readableRec t && decide (t < P.types.size)) = true ->
   (∀ x ∈ p,x.block < W.heap.size) -> DataW.TrodAll enc P W 0 (fun _=>true) true ts vs ds p -> DataW.TrodAll enc P W' 0 (fun b=>decide (b < W.heap.size)) true ts vs ds p:=by
 intro ts
 induction ts with
 | nil=>intro vs ds p _ _ h; cases vs <;> cases ds <;> first | exact h | exact h.elim
 | cons t ts ih =>
  intro vs ds p ha hp h
  cases vs with
  | nil=>exact h.elim
  | cons v vs =>
   cases ds with
   | nil=>exact h.elim
   | cons d ds =>
    obtain ⟨p1,q1,h1,h2,rfl⟩:=h;simp only [List.all_cons,Bool.and_eq_true,decide_eq_true_eq] at ha;exact ⟨p1,q1,Below.trod hl ha.1.1 ha.1.2 h1 hB (fun x hx=>hp x (by simp [hx])),ih vs ds q1 ha.2 (fun x hx=>hp x (by simp [hx])) h2,rfl⟩
theorem law_post {H:Type} {enc:TypeId × Value -> H} {P:Program} {f:Func} {s:ChangeSpec} {W W':World} {args:Array Value} {ds gs:List (DataW H)} {before:List MemPlace} {tb:TypeId}
  (hl:laidOutB P = true) (hts:(f.params.toList.all fun t=>P.readableRec t && decide (t < P.types.size)) = true) (hr:f.resultTypes = #[tb]) (hb:P.underlying tb = some .bool) (hv:s.vars = [])
  (hW:DataW.Whole enc P f.params.toList s.vars false W args.toList ds gs before) (hfn:s.fn H (ds ++ gs) = { results:=[.lit (.bool true)],args:=ds,vars:=[] })
  (hB:Below W.heap.size W W'):s.post enc P f false true false false W args (.bool true) W':=by
 have hlt:=hW.lt;have hW0:=hW;obtain ⟨p,q,hA,hV,rfl,_,_⟩:=hW;rw [hv] at hV;obtain ⟨rfl,rfl⟩:=trodVars_none hV;refine ⟨ds,_,_,[],p,[],hW0,?_,?_,?_,hB.frame _,fun h=>by cases h⟩
 ·
  rw [hfn,hr];exact trodAll_mk1 (shut_bool hb true)
 ·
  rw [hfn];exact trodAll_below hl hB _ _ _ _ hts (fun x hx=>by simpa using hlt x (by simp [hx])) hA
 ·
  rw [hfn,hv]
  rfl
end Go.Proofs.YtkjnkpkagcboeaaGreatDoor
