/- Ten times a number and a digit, limb by limb. Plain. -/
import Derived.Test.YtkjnkpkagcboeaaGreatDoorCa9
import Derived.Test.YtkjnkpkagcboeaaGreatDoorCa6
import Derived.Test.YtkjnkpkagcboeaaGreatDoorCa4
import Derived.Test.YtkjnkpkagcboeaaGreatDoorCa7
import Derived.Deep.LoopGhost
import Derived.Test.YtkjnkpkagcboeaaGreatDoorCa8
import Derived.Test.YtkjnkpkagcboeaaGreatDoorCa1
set_option linter.all false
set_option maxRecDepth 100000
set_option maxHeartbeats 4000000
namespace Go.Proofs.YtkjnkpkagcboeaaGreatDoor
open Go.RowKit
theorem namL_run {c:UInt8} {l:List UInt8} (h:letU c = true):namL (c :: l) = ((c :: l).takeWhile wordV).length:=by
 have hw:wordV c = true:=by unfold wordV; unfold letU at h; rw [h]; rfl
 rw [namL,if_pos h,List.takeWhile_cons,if_pos hw,List.length_cons]
 omega
theorem name_any (g mb a nm:Nat) (s:ByteArray) (names:List ByteArray) (w:World) (h:RdA w g s mb a 0 0) (ha:a <= s.size) (hs:s.size <= 281474976710656) (hm:OwnV w mb nm (names.take 64)) (hne:mb ≠ g) :
  Calls Tryz.prog 161 #[.pointer (some ⟨g,0,none⟩)] w fun u w'=>∃ n:Nat,u = .returned (.int .i64 n) /\ n < 64 /\ (∀ v r,namG names (tl s a) = .ok v r -> n = v) /\ StG w' g s mb (namG names (tl s a)) /\ Fg g w w':=by
 have z0:=Blk.cell h 0; have z1:=Blk.cell h 1; have z2:=Blk.cell h 2; have z3:=Blk.cell h 3; have z4:=Blk.cell h 4;have hl:=h.lt;obtain ⟨GG,hGG⟩:∃ G,namG names (tl s a) = G:=⟨_,rfl⟩
 rw [hGG];replace hGG:=Hd hGG;have HM:=Hd (fun W (hW:Fg g w W)=>hm.fr hW hne);clear hm;by_cases hlt:a < s.size
 ·
  have hb:((a:Int) == (s.size:Int)) = false:=by rw [beq_eq_false_iff_ne]; omega
  have hT:=tl_at hlt;obtain ⟨c,hc⟩:∃ c,s[a]'hlt = c:=⟨_,rfl⟩
  rw [hc] at hT;obtain ⟨y,hy⟩:∃ y:Nat,c.toNat = y:=⟨_,rfl⟩
  have hy0:(s[a]'hlt).toNat = y:=by rw [hc]; exact hy
  have CD:=letterS_any (y:Int);have hdy:letU c = letV (y:Int):=by unfold letU; rw [hy]
  obtain ⟨bd,hbd0⟩:∃ b,letV (y:Int) = b:=⟨_,rfl⟩
  simp only [hbd0] at CD;rw [hbd0] at hdy;replace CD:=Hd CD
  cases bd
  ·
   have hL:namG names (tl s a) = lost (tl s a):=by unfold namG; rw [if_pos (by rw [hT,namL,hdy]; rfl)]
   have hy2:=Hd hy;clear hT hdy hbd0 hy hc HM;have hGe:GG = lost (tl s a):=hGG.out.symm.trans hL;have CR:=Hd (fun W (hW:Below w.heap.size w W)=>refuse_any g mb a s W (h.below hW) ha hs);have hbd:Below w.heap.size w w.drew:=brf.drew;replace hGe:=Hd hGe;clear h hL;go_enter Tryz.func161,Tryz.ntmps161;go_wp2;refine wp_region_mix (S:=(fun x=>x = w.drew)) [(0,.q),(1,.q),(2,.q),(3,.q),(4,.q),(5,.q),(6,.q),(7,.q),(8,.q),(9,.q),(10,.q),(11,.q),(12,.q),(13,.q),(14,.q),(15,.q),(16,.q),(17,.q),(18,.q),(19,.q),(20,.t),(21,.p),(22,.p)] (by kernel_rfl) (by kernel_rfl) (by kernel_rfl) (fun d _ _ _ _ h=>by cases d <;> exact h) (rfl) ?_
   iterate 20 (refine wpMix_q rfl rfl (fun K hK=>?_); apply Exists.intro; refine ⟨fun w' hw'=>?_,?_⟩; (focus (go_simp; try rfl)); go_simp; refine hK _ _ ?_; clear hK K)
   refine wpMix_t rfl rfl (fun K hK=>?_);go_simp;refine (CD.out w.drew).mono ?_;rintro e w' ⟨rfl,rfl⟩;dsimp only;refine hK.out _ _ ?_;clear hK K
   iterate 2 (refine wpMix_p rfl rfl (fun K hK=>?_); apply Exists.intro; refine ⟨fun w'=>?_,?_⟩; (focus (go_simp; try rfl)); go_simp; refine hK _ _ ?_; clear hK K)
   refine wpMix_nil ?_;go_wp2_with fail;refine (CR.out w.drew hbd).mono ?_;rintro e w1 ⟨rfl,h1,hf⟩;go_wp2;go_ret;exact ⟨0,rfl,by decide,fun v r e=>absurd (hGe.out.symm.trans e) fun e=>lost_ok e,by rw [hGe.out]; exact lost_unit h1,(Fr.below hbd).trans hf⟩
  ·
   have hn1:namL (tl s a) = ((tl s a).takeWhile wordV).length:=by rw [hT]; exact namL_run hdy
   obtain ⟨D,hD⟩:∃ D,((tl s a).takeWhile wordV).length = D:=⟨_,rfl⟩
   rw [hD] at hn1;have hDl:D <= s.size - a:=by rw [<- hD]; have:=tw_le wordV (tl s a); rw [tl_len] at this; exact this
   have hD0:0 < D:=by rw [<- hn1,hT,namL,if_pos hdy]; omega
   have hDi:∀ j,j < D -> ∃ h:a + j < s.size,(letV ((s[a + j]'h).toNat:Int) || digV ((s[a + j]'h).toNat:Int)) = true:=fun j hj=>by
    have h1:a + j < s.size:=by omega
    refine ⟨h1,?_⟩;rw [<- hD] at hj;obtain ⟨x,hx,hp⟩:=tw_in hj;rw [tl_get h1] at hx;injection hx with hx
    subst hx;exact hp
   have hDo:∀ h:a + D < s.size,(letV ((s[a + D]'h).toNat:Int) || digV ((s[a + D]'h).toNat:Int)) = false:=fun h1 =>
    tw_out (p:=wordV) (l:=tl s a) (x:=s[a + D]'h1) (by rw [hD]; exact tl_get h1)
   have hG:GG = match whoL (names.take 64) (ofL ((tl s a).take D)) with | none=>.bad (s.size - a) 6 | some v=>.ok v (tl s (a + D)):=by
    rw [<- hGG.out];unfold namG;rw [hn1,if_neg (by omega),tl_len,tl_drop]
    rfl
   have hex:s.extract a (a + D) = ofL ((tl s a).take D):=tl_take s a D;have HEX:=Hd hex; have HDI:=Hd hDi; have HDO:=Hd hDo;have hy2:=Hd hy; have HGG:=Hd hG; have HDL:=Hd hDl; have HD0:=Hd hD0;have hbd:Below w.heap.size w w.drew:=brf.drew;have hR0:=Hd (show RdA w.drew g s mb a 0 0 from h);have hF0:=Hd (show Fg g w w.drew from Fr.below hbd);clear h hT hdy hbd0 hy hc hn1 hD hDi hDo hG hex hGG hDl hD0 hbd;go_enter Tryz.func161,Tryz.ntmps161;go_wp2;refine wp_region_mix (S:=(fun x=>x = w.drew)) [(0,.q),(1,.q),(2,.q),(3,.q),(4,.q),(5,.q),(6,.q),(7,.q),(8,.q),(9,.q),(10,.q),(11,.q),(12,.q),(13,.q),(14,.q),(15,.q),(16,.q),(17,.q),(18,.q),(19,.q),(20,.t),(21,.p),(22,.p)] (by kernel_rfl) (by kernel_rfl) (by kernel_rfl) (fun d _ _ _ _ h=>by cases d <;> exact h) (rfl) ?_
   iterate 20 (refine wpMix_q rfl rfl (fun K hK=>?_); apply Exists.intro; refine ⟨fun w' hw'=>?_,?_⟩; (focus (go_simp; try rfl)); go_simp; refine hK _ _ ?_; clear hK K)
   refine wpMix_t rfl rfl (fun K hK=>?_);go_simp;refine (CD.out w.drew).mono ?_;rintro e w' ⟨rfl,rfl⟩;dsimp only;refine hK.out _ _ ?_;clear hK K
   iterate 2 (refine wpMix_p rfl rfl (fun K hK=>?_); apply Exists.intro; refine ⟨fun w'=>?_,?_⟩; (focus (go_simp; try rfl)); go_simp; refine hK _ _ ?_; clear hK K)
   refine wpMix_nil ?_;go_wp2;refine world_gen (fun W=>RdA W g s mb a 0 0 /\ Fg g w W) ⟨hR0.out,hF0.out⟩ ?_;rintro w0 ⟨h0,hf0⟩;clear hR0 hF0 z0 z1 z2 z3 z4 CD hl
   go_loopg [] D (fun m wr=>∃ j:Nat,Hid (j + m = D) /\ Hid (RdA wr g s mb (a + j) 0 0) /\ Fg g w wr)
   case atStart=>exact ⟨0,by show _ = _; omega,h0,hf0⟩
   case round =>
    clear h0 hf0;obtain ⟨j,hj,hR,hfr⟩:=hrel;have hRo:=hR.out;have z0:=Blk.cell hRo 0; have z1:=Blk.cell hRo 1; have z2:=Blk.cell hRo 2; have z3:=Blk.cell hRo 3; have z4:=Blk.cell hRo 4;have hl:=hRo.lt;have f1:=Blk.frozen hRo 1;have hbd1:Below wr.heap.size wr wr.drew:=brf.drew;clear hRo;obtain ⟨p,hp⟩:∃ p,a + j = p:=⟨_,rfl⟩
    rw [hp] at z1 hR;have hpc:((p + 1:Nat):Int) = (p:Int) + 1:=by omega
    by_cases hjD:j < D
    ·
     obtain ⟨hps,hpd⟩:=HDI.out j hjD;simp only [hp] at hps hpd;obtain ⟨v,hv⟩:∃ v:Nat,(s[p]'hps).toNat = v:=⟨_,rfl⟩
     rw [hv] at hpd;have CL:=letterS_any (v:Int);have CD:=digitS_any (v:Int);replace hp:=Hd hp;have hR3:=Hd ((show RdA wr.drew g s mb p 0 0 from hR.out).set1 (p + 1));have hF3:=Hd ((hfr.trans (Fr.below hbd1)).setc (g:=g) (i:=1) (u:=.int .i64 ((p + 1:Nat):Int)) (.inl rfl));unfold RdA at hR3;rw [hpc] at hR3 hF3;obtain ⟨bl,hbl⟩:∃ b,letV (v:Int) = b:=⟨_,rfl⟩
     obtain ⟨bd,hbd⟩:∃ b,digV (v:Int) = b:=⟨_,rfl⟩
     simp only [hbl] at CL;simp only [hbd] at CD;rw [hbl,hbd] at hpd;replace CL:=Hd CL; replace CD:=Hd CD; replace hbl:=Hd hbl; replace hbd:=Hd hbd;clear hR hfr hbd1
     cases bl
     ·
      have hbt:bd = true:=by simpa using hpd
      subst hbt;clear hpd;go_wp2;refine wp_region_mix (S:=(fun x=>x = wr.drew)) [(0,.q),(1,.q),(2,.q),(3,.q),(4,.q),(5,.q),(6,.q),(7,.q),(8,.q),(9,.q),(10,.q),(11,.q),(12,.q),(13,.q),(14,.q),(15,.q),(16,.q),(17,.q),(18,.q),(19,.q),(20,.l),(21,.q),(22,.q),(23,.q),(24,.q),(25,.q),(26,.q),(27,.q),(28,.q),(29,.q),(30,.q),(31,.t),(32,.p),(33,.p)] (by kernel_rfl) (by kernel_rfl) (by kernel_rfl) (fun d _ _ _ _ h=>by cases d <;> exact h) (rfl) ?_
      iterate 20 (refine wpMix_q rfl rfl (fun K hK=>?_); apply Exists.intro; refine ⟨fun w' hw'=>?_,?_⟩; (focus (go_simp; try rfl)); go_simp; refine hK _ _ ?_; clear hK K)
      refine wpMix_l rfl rfl (fun K hK=>?_);go_simp;refine (CL.out wr.drew).mono ?_;rintro e w' ⟨rfl,rfl⟩;dsimp only;refine hK.out _ _ (rfl) (fun _=>?_);clear hK K
      iterate 10 (refine wpMix_q rfl rfl (fun K hK=>?_); apply Exists.intro; refine ⟨fun w' hw'=>?_,?_⟩; (focus (go_simp; try rfl)); go_simp; refine hK _ _ ?_; clear hK K)
      refine wpMix_t rfl rfl (fun K hK=>?_);go_simp;refine (CD.out wr.drew).mono ?_;rintro e w' ⟨rfl,rfl⟩;dsimp only;refine hK.out _ _ ?_;clear hK K
      iterate 2 (refine wpMix_p rfl rfl (fun K hK=>?_); apply Exists.intro; refine ⟨fun w'=>?_,?_⟩; (focus (go_simp; try rfl)); go_simp; refine hK _ _ ?_; clear hK K)
      refine wpMix_nil ?_;go_wp2;go_roundg (gk - 1)
      case rel=>exact ⟨j + 1,by have:=hj.out; show _ = _; omega,by unfold RdA; rw [show a + (j + 1) = p + 1 by have:=hp.out; omega,hpc]; exact hR3.out,hF3.out⟩
      case measure=>have:=hj.out; omega
     ·
      clear hpd;go_wp2;refine wp_region_mix (S:=(fun x=>x = wr.drew)) [(0,.q),(1,.q),(2,.q),(3,.q),(4,.q),(5,.q),(6,.q),(7,.q),(8,.q),(9,.q),(10,.q),(11,.q),(12,.q),(13,.q),(14,.q),(15,.q),(16,.q),(17,.q),(18,.q),(19,.q),(20,.l),(21,.q),(22,.q),(23,.q),(24,.q),(25,.q),(26,.q),(27,.q),(28,.q),(29,.q),(30,.q),(31,.t),(32,.p),(33,.p)] (by kernel_rfl) (by kernel_rfl) (by kernel_rfl) (fun d _ _ _ _ h=>by cases d <;> exact h) (rfl) ?_
      iterate 20 (refine wpMix_q rfl rfl (fun K hK=>?_); apply Exists.intro; refine ⟨fun w' hw'=>?_,?_⟩; (focus (go_simp; try rfl)); go_simp; refine hK _ _ ?_; clear hK K)
      refine wpMix_l rfl rfl (fun K hK=>?_);go_simp;refine (CL.out wr.drew).mono ?_;rintro e w' ⟨rfl,rfl⟩;dsimp only;refine hK.out _ _ (rfl) (fun _=>?_);clear hK K
      iterate 1 (refine wpMix_q rfl rfl (fun K hK=>?_); apply Exists.intro; refine ⟨fun w' hw'=>?_,?_⟩; (focus (go_simp; try rfl)); go_simp; refine hK _ _ ?_; clear hK K)
      iterate 10 (refine wpMix_skip rfl rfl (fun K hK=>?_); go_simp; refine hK _ _ ?_; clear hK K)
      iterate 2 (refine wpMix_p rfl rfl (fun K hK=>?_); apply Exists.intro; refine ⟨fun w'=>?_,?_⟩; (focus (go_simp; try rfl)); go_simp; refine hK _ _ ?_; clear hK K)
      refine wpMix_nil ?_;go_wp2;go_roundg (gk - 1)
      case rel=>exact ⟨j + 1,by have:=hj.out; show _ = _; omega,by unfold RdA; rw [show a + (j + 1) = p + 1 by have:=hp.out; omega,hpc]; exact hR3.out,hF3.out⟩
      case measure=>have:=hj.out; omega
    ·
     have hjD2:j = D:=by have:=hj.out; omega
     subst hjD2;have hex2:=HEX.out;rw [hp] at hex2;have HWHO:Hid (whoL (names.take 64) (ofL ((tl s a).take j)) = whoL (names.take 64) (ofL ((tl s a).take j))):=Hd rfl;obtain ⟨t,ht⟩:∃ t,ofL ((tl s a).take j) = t:=⟨_,rfl⟩
     rw [ht] at hex2 HGG;have htz:t.size = j:=by
      rw [<- ht];have:((tl s a).take j).length = j:=by rw [List.length_take,tl_len]; have:=HDL.out; omega
      exact this
     have hps:p <= s.size:=by have:=HDL.out; omega
     have hap:a <= p:=by omega
     have htm:t.size <= maxLen:=by unfold maxLen; omega
     have hR3:RdA wr.drew.drew g s mb p 0 0:=hR.out;have hF3:Fg g w wr.drew.drew:=hfr.trans (Fr.below hbd1.drew);have hlook:=(HM.out wr.drew.drew hF3).look htm;have hw64:=fun v h=>whoL_lt (l:=names.take 64) (s:=t) (v:=v) h
     obtain ⟨wh,hwh⟩:∃ o,whoL (names.take 64) t = o:=⟨_,rfl⟩
     rw [hwh] at hlook HGG;rw [hwh] at hw64;have CF:=Hd (fail_any g mb p s 6 (a:Int) wr.drew.drew hR3);replace hR3:=Hd hR3; replace hF3:=Hd hF3; replace ht:=Hd ht; replace hwh:=Hd hwh;have hp2:=Hd hp;replace htz:=Hd htz;clear hR hfr hbd1 HWHO htm;by_cases hpz:p < s.size
     ·
      have hpd:=HDO.out (by rw [hp]; exact hpz);simp only [hp] at hpd;obtain ⟨v,hv⟩:∃ v:Nat,(s[p]'hpz).toNat = v:=⟨_,rfl⟩
      rw [hv,Bool.or_eq_false_iff] at hpd;have CL:=letterS_any (v:Int);have CD:=digitS_any (v:Int);rw [hpd.1] at CL;rw [hpd.2] at CD;replace CL:=Hd CL; replace CD:=Hd CD;clear hpd hp;go_wp2;refine wp_region_mix (S:=(fun x=>x = wr.drew)) [(0,.q),(1,.q),(2,.q),(3,.q),(4,.q),(5,.q),(6,.q),(7,.q),(8,.q),(9,.q),(10,.q),(11,.q),(12,.q),(13,.q),(14,.q),(15,.q),(16,.q),(17,.q),(18,.q),(19,.q),(20,.l),(21,.q),(22,.q),(23,.q),(24,.q),(25,.q),(26,.q),(27,.q),(28,.q),(29,.q),(30,.q),(31,.t),(32,.p),(33,.p)] (by kernel_rfl) (by kernel_rfl) (by kernel_rfl) (fun d _ _ _ _ h=>by cases d <;> exact h) (rfl) ?_
      iterate 20 (refine wpMix_q rfl rfl (fun K hK=>?_); apply Exists.intro; refine ⟨fun w' hw'=>?_,?_⟩; (focus (go_simp; try rfl)); go_simp; refine hK _ _ ?_; clear hK K)
      refine wpMix_l rfl rfl (fun K hK=>?_);go_simp;refine (CL.out wr.drew).mono ?_;rintro e w' ⟨rfl,rfl⟩;dsimp only;refine hK.out _ _ (rfl) (fun _=>?_);clear hK K
      iterate 10 (refine wpMix_q rfl rfl (fun K hK=>?_); apply Exists.intro; refine ⟨fun w' hw'=>?_,?_⟩; (focus (go_simp; try rfl)); go_simp; refine hK _ _ ?_; clear hK K)
      refine wpMix_t rfl rfl (fun K hK=>?_);go_simp;refine (CD.out wr.drew).mono ?_;rintro e w' ⟨rfl,rfl⟩;dsimp only;refine hK.out _ _ ?_;clear hK K
      iterate 2 (refine wpMix_p rfl rfl (fun K hK=>?_); apply Exists.intro; refine ⟨fun w'=>?_,?_⟩; (focus (go_simp; try rfl)); go_simp; refine hK _ _ ?_; clear hK K)
      refine wpMix_nil ?_
      cases wh with
      | none =>
       have hGe:GG = .bad (s.size - a) 6:=HGG.out;replace hGe:=Hd hGe;go_wp2;refine wp_region_mix (S:=(fun x=>x = wr.drew.drew)) [(0,.q),(1,.q),(2,.q),(3,.q),(4,.q),(5,.q),(6,.q),(7,.q),(8,.q),(9,.q),(10,.q),(11,.q),(12,.q),(13,.q),(14,.q),(15,.p),(16,.p),(17,.p),(18,.p),(19,.p)] (by kernel_rfl) (by kernel_rfl) (by kernel_rfl) (fun d _ _ _ _ h=>by cases d <;> exact h) (rfl) ?_
       iterate 15 (refine wpMix_q rfl rfl (fun K hK=>?_); apply Exists.intro; refine ⟨fun w' hw'=>?_,?_⟩; (focus (go_simp; try rfl)); go_simp; refine hK _ _ ?_; clear hK K)
       iterate 5 (refine wpMix_p rfl rfl (fun K hK=>?_); apply Exists.intro; refine ⟨fun w'=>?_,?_⟩; (focus (go_simp; try rfl)); go_simp; refine hK _ _ ?_; clear hK K)
       refine wpMix_nil ?_;go_wp2_with fail;refine CF.out.mono ?_;rintro e w1 ⟨rfl,h1,hf⟩;go_wp2;go_ret;exact ⟨0,rfl,by decide,fun v r e=>(by cases hGe.out.symm.trans e),by rw [hGe.out]; exact ⟨p,hps,by omega,by decide,by rw [show s.size - (s.size - a) = a by omega]; exact h1⟩,hF3.out.trans hf⟩
      | some u =>
       have hGe:GG = .ok u (tl s (a + j)):=HGG.out;have hu64:=hw64 u rfl;replace hGe:=Hd hGe; replace hu64:=Hd hu64;go_wp2;refine wp_region_mix (S:=(fun x=>x = wr.drew.drew)) [(0,.q),(1,.q),(2,.q),(3,.q),(4,.q),(5,.q),(6,.q),(7,.q),(8,.q),(9,.q),(10,.q),(11,.q),(12,.q),(13,.q),(14,.q),(15,.p),(16,.p),(17,.p),(18,.p),(19,.p)] (by kernel_rfl) (by kernel_rfl) (by kernel_rfl) (fun d _ _ _ _ h=>by cases d <;> exact h) (rfl) ?_
       iterate 15 (refine wpMix_q rfl rfl (fun K hK=>?_); apply Exists.intro; refine ⟨fun w' hw'=>?_,?_⟩; (focus (go_simp; try rfl)); go_simp; refine hK _ _ ?_; clear hK K)
       iterate 5 (refine wpMix_p rfl rfl (fun K hK=>?_); apply Exists.intro; refine ⟨fun w'=>?_,?_⟩; (focus (go_simp; try rfl)); go_simp; refine hK _ _ ?_; clear hK K)
       refine wpMix_nil ?_;go_wp2;go_ret;exact ⟨u,rfl,by have:=hu64.out; rw [List.length_take] at this; omega,fun v r e=>(by injection hGe.out.symm.trans e),by rw [hGe.out]; exact ⟨p,hps,by rw [show a + j = p by have:=hp2.out; omega],hR3.out⟩,hF3.out⟩
     ·
      clear hp;go_wp2;refine wp_region_mix (S:=(fun x=>x = wr.drew)) [(0,.q),(1,.q),(2,.q),(3,.q),(4,.q),(5,.q),(6,.q),(7,.q),(8,.q),(9,.q),(10,.q),(11,.q),(12,.q),(13,.q),(14,.q),(15,.q),(16,.q),(17,.q),(18,.q),(19,.q),(20,.l),(21,.q),(22,.q),(23,.q),(24,.q),(25,.q),(26,.q),(27,.q),(28,.q),(29,.q),(30,.q),(31,.t),(32,.p),(33,.p)] (by kernel_rfl) (by kernel_rfl) (by kernel_rfl) (fun d _ _ _ _ h=>by cases d <;> exact h) (rfl) ?_
      iterate 11 (refine wpMix_q rfl rfl (fun K hK=>?_); apply Exists.intro; refine ⟨fun w' hw'=>?_,?_⟩; (focus (go_simp; try rfl)); go_simp; refine hK _ _ ?_; clear hK K)
      iterate 22 (refine wpMix_skip rfl rfl (fun K hK=>?_); go_simp; refine hK _ _ ?_; clear hK K)
      iterate 1 (refine wpMix_p rfl rfl (fun K hK=>?_); apply Exists.intro; refine ⟨fun w'=>?_,?_⟩; (focus (go_simp; try rfl)); go_simp; refine hK _ _ ?_; clear hK K)
      refine wpMix_nil ?_
      cases wh with
      | none =>
       have hGe:GG = .bad (s.size - a) 6:=HGG.out;replace hGe:=Hd hGe;go_wp2;refine wp_region_mix (S:=(fun x=>x = wr.drew.drew)) [(0,.q),(1,.q),(2,.q),(3,.q),(4,.q),(5,.q),(6,.q),(7,.q),(8,.q),(9,.q),(10,.q),(11,.q),(12,.q),(13,.q),(14,.q),(15,.p),(16,.p),(17,.p),(18,.p),(19,.p)] (by kernel_rfl) (by kernel_rfl) (by kernel_rfl) (fun d _ _ _ _ h=>by cases d <;> exact h) (rfl) ?_
       iterate 15 (refine wpMix_q rfl rfl (fun K hK=>?_); apply Exists.intro; refine ⟨fun w' hw'=>?_,?_⟩; (focus (go_simp; try rfl)); go_simp; refine hK _ _ ?_; clear hK K)
       iterate 5 (refine wpMix_p rfl rfl (fun K hK=>?_); apply Exists.intro; refine ⟨fun w'=>?_,?_⟩; (focus (go_simp; try rfl)); go_simp; refine hK _ _ ?_; clear hK K)
       refine wpMix_nil ?_;go_wp2_with fail;refine CF.out.mono ?_;rintro e w1 ⟨rfl,h1,hf⟩;go_wp2;go_ret;exact ⟨0,rfl,by decide,fun v r e=>(by cases hGe.out.symm.trans e),by rw [hGe.out]; exact ⟨p,hps,by omega,by decide,by rw [show s.size - (s.size - a) = a by omega]; exact h1⟩,hF3.out.trans hf⟩
      | some u =>
       have hGe:GG = .ok u (tl s (a + j)):=HGG.out;have hu64:=hw64 u rfl;replace hGe:=Hd hGe; replace hu64:=Hd hu64;go_wp2;refine wp_region_mix (S:=(fun x=>x = wr.drew.drew)) [(0,.q),(1,.q),(2,.q),(3,.q),(4,.q),(5,.q),(6,.q),(7,.q),(8,.q),(9,.q),(10,.q),(11,.q),(12,.q),(13,.q),(14,.q),(15,.p),(16,.p),(17,.p),(18,.p),(19,.p)] (by kernel_rfl) (by kernel_rfl) (by kernel_rfl) (fun d _ _ _ _ h=>by cases d <;> exact h) (rfl) ?_
       iterate 15 (refine wpMix_q rfl rfl (fun K hK=>?_); apply Exists.intro; refine ⟨fun w' hw'=>?_,?_⟩; (focus (go_simp; try rfl)); go_simp; refine hK _ _ ?_; clear hK K)
       iterate 5 (refine wpMix_p rfl rfl (fun K hK=>?_); apply Exists.intro; refine ⟨fun w'=>?_,?_⟩; (focus (go_simp; try rfl)); go_simp; refine hK _ _ ?_; clear hK K)
       refine wpMix_nil ?_;go_wp2;go_ret;exact ⟨u,rfl,by have:=hu64.out; rw [List.length_take] at this; omega,fun v r e=>(by injection hGe.out.symm.trans e),by rw [hGe.out]; exact ⟨p,hps,by rw [show a + j = p by have:=hp2.out; omega],hR3.out⟩,hF3.out⟩
 ·
  have hae:a = s.size:=by omega
  have hb:((a:Int) == (s.size:Int)) = true:=by rw [beq_iff_eq]; omega
  have hL:namG names (tl s a) = lost (tl s a):=by unfold namG; rw [if_pos (by rw [tl_end (by omega)]; rfl)]
  replace hae:=Hd hae;clear HM;have hGe:GG = lost (tl s a):=hGG.out.symm.trans hL;have CR:=Hd (fun W (hW:Below w.heap.size w W)=>refuse_any g mb a s W (h.below hW) ha hs);have hbd:Below w.heap.size w w.drew:=brf.drew;replace hGe:=Hd hGe;clear h hL;go_enter Tryz.func161,Tryz.ntmps161;go_wp2;refine wp_region_mix (S:=(fun x=>x = w.drew)) [(0,.q),(1,.q),(2,.q),(3,.q),(4,.q),(5,.q),(6,.q),(7,.q),(8,.q),(9,.q),(10,.q),(11,.q),(12,.q),(13,.q),(14,.q),(15,.q),(16,.q),(17,.q),(18,.q),(19,.q),(20,.t),(21,.p),(22,.p)] (by kernel_rfl) (by kernel_rfl) (by kernel_rfl) (fun d _ _ _ _ h=>by cases d <;> exact h) (rfl) ?_
  iterate 11 (refine wpMix_q rfl rfl (fun K hK=>?_); apply Exists.intro; refine ⟨fun w' hw'=>?_,?_⟩; (focus (go_simp; try rfl)); go_simp; refine hK _ _ ?_; clear hK K)
  iterate 11 (refine wpMix_skip rfl rfl (fun K hK=>?_); go_simp; refine hK _ _ ?_; clear hK K)
  iterate 1 (refine wpMix_p rfl rfl (fun K hK=>?_); apply Exists.intro; refine ⟨fun w'=>?_,?_⟩; (focus (go_simp; try rfl)); go_simp; refine hK _ _ ?_; clear hK K)
  refine wpMix_nil ?_;go_wp2_with fail;refine (CR.out w.drew hbd).mono ?_;rintro e w1 ⟨rfl,h1,hf⟩;go_wp2;go_ret;exact ⟨0,rfl,by decide,fun v r e=>absurd (hGe.out.symm.trans e) fun e=>lost_ok e,by rw [hGe.out]; exact lost_unit h1,(Fr.below hbd).trans hf⟩
def expG (l:List UInt8):Got Nat:=(numG l).bnd fun d r=>if 1048576 < decL d then .bad l.length 4 else .ok (decL d) r
theorem exponent_any (g mb a:Nat) (s:ByteArray) (w:World) (h:RdA w g s mb a 0 0) (ha:a <= s.size) (hs:s.size <= 281474976710656) (he:ErrW w) (hne:Tryz.lays172_ren.g 16 ≠ g) :
  Calls Tryz.prog 162 #[.pointer (some ⟨g,0,none⟩)] w fun u w'=>∃ n:Nat,u = .returned (.int .i64 n) /\ n <= 1048576 /\ (∀ v r,expG (tl s a) = .ok v r -> n = v) /\ StG w' g s mb (expG (tl s a)) /\ Fg g w w':=by
 have CN:=numeral_any g mb a s w h ha hs;have HE:=Hd (fun W (hW:Fg g w W)=>he.fr hW hne);obtain ⟨GG,hGG⟩:∃ G,expG (tl s a) = G:=⟨_,rfl⟩
 rw [hGG];unfold expG at hGG;rw [tl_len] at hGG;have hok:=fun d r (e:numG (tl s a) = .ok d r)=>numG_ok e
 obtain ⟨NG,hNG⟩:∃ G,numG (tl s a) = G:=⟨_,rfl⟩
 rw [hNG] at CN hGG;rw [hNG] at hok;replace CN:=Hd CN; replace hGG:=Hd hGG;clear h he hNG;go_enter Tryz.func162,Tryz.ntmps162;go_wp2_with fail;refine CN.out.mono ?_;rintro e w1 ⟨t,rfl,ht,hS,hf⟩;clear CN
 cases NG with
 | bad k er =>
  have hGe:=Hd (show GG = .bad k er from hGG.out.symm);obtain ⟨p,hp,hk,h0,hR⟩:=hS;have z0:=Blk.cell hR 0; have z1:=Blk.cell hR 1; have z2:=Blk.cell hR 2; have z3:=Blk.cell hR 3; have z4:=Blk.cell hR 4;have hl:=hR.lt;have hz:(er != 0) = true:=by simpa using h0
  have hR2:=Hd hR;clear hR ht hok hGG;replace h0:=Hd h0;go_wp2;go_ret;exact ⟨0,rfl,by omega,fun v r e=>(by cases hGe.out.symm.trans e),by rw [hGe.out]; exact ⟨p,hp,hk,h0.out,hR2.out⟩,hf⟩
 | ok d r =>
  have htd:=ht d r rfl;subst htd;obtain ⟨o1,o2,o3,_⟩:=hok d r rfl;obtain ⟨p,hp,hr,hR⟩:=hS;have hG1:GG = if 1048576 < decL d then .bad (s.size - a) 4 else .ok (decL d) r:=hGG.out.symm
  have hdl:(ofL d).data.toList = d:=ofL_list d;have hds:(ofL d).size <= 1000:=o2;have hne0:(ofL d).data.toList ≠ []:=by rw [hdl]; intro e; rw [e] at o1; cases o1
  have hdd:∀ c ∈ (ofL d).data.toList,digU c = true:=by rw [hdl]; exact o3
  have hdec:decL (ofL d).data.toList = decL d:=by rw [hdl]
  obtain ⟨n,hn⟩:∃ n,decL d = n:=⟨_,rfl⟩
  rw [hn] at hG1 hdec;have HR:=Hd (fun W (hW:Below w1.heap.size w1 W)=>hR.below hW);have z0:=Blk.cell hR 0; have z1:=Blk.cell hR 1; have z2:=Blk.cell hR 2; have z3:=Blk.cell hR 3; have z4:=Blk.cell hR 4;have hl:=hR.lt;by_cases hsm:n < 9223372036854775808
  ·
   have CA:=Hd (atoi_small (ofL d) n w1 hne0 hdd hds hdec hsm);have CF:=Hd (fun W (hW:Below w1.heap.size w1 W)=>fail_any g mb p s 4 (a:Int) W (HR.out W hW));replace hr:=Hd hr;clear hn hok hGG ht hR hne0 hdd hdl hds hdec o1 o2 o3;go_wp2_with fail;refine CA.out.mono ?_;rintro e w2 ⟨rfl,hb2⟩;clear z0 z1 z2 z3 z4 CA;by_cases hbig:1048576 < n
   ·
    have hbc:decide ((1048576:Int) < (n:Int)) = true:=by rw [decide_eq_true_eq]; omega
    rw [if_pos hbig] at hG1;replace hG1:=Hd hG1;go_wp2_with fail;refine (CF.out w2 hb2).mono ?_;rintro e w3 ⟨rfl,h3,hf3⟩;go_wp2;go_ret;exact ⟨0,rfl,by omega,fun v r e=>(by cases hG1.out.symm.trans e),by rw [hG1.out]; exact ⟨p,hp,by omega,by decide,by rw [show s.size - (s.size - a) = a by omega]; exact h3⟩,(hf.call hb2).trans hf3⟩
   ·
    have hbc:decide ((1048576:Int) < (n:Int)) = false:=by rw [decide_eq_false_iff_not]; omega
    rw [if_neg hbig] at hG1;replace hG1:=Hd hG1;go_wp2;go_ret;exact ⟨n,rfl,by omega,fun v r e=>(by injection hG1.out.symm.trans e),by rw [hG1.out]; exact ⟨p,hp,hr.out,HR.out w2 hb2⟩,hf.call hb2⟩
  ·
   have CA:=Hd (atoi_great (ofL d) w1 hne0 hdd hds (by rw [hdec]; omega) (HE.out w1 hf));have CF:=Hd (fun W (hW:Below w1.heap.size w1 W)=>fail_any g mb p s 4 (a:Int) W (HR.out W hW));rw [if_pos (by omega)] at hG1;replace hr:=Hd hr; replace hG1:=Hd hG1;clear hn hok hGG ht hR hne0 hdd hdl hds hdec o1 o2 o3;go_wp2_with fail;refine CA.out.mono ?_;rintro e w2 ⟨x,t2,q,rfl,hb2⟩;clear z0 z1 z2 z3 z4 CA;go_wp2_with fail;refine (CF.out w2 hb2).mono ?_;rintro e w3 ⟨rfl,h3,hf3⟩;go_wp2;go_ret;exact ⟨0,rfl,by omega,fun v r e=>(by cases hG1.out.symm.trans e),by rw [hG1.out]; exact ⟨p,hp,by omega,by decide,by rw [show s.size - (s.size - a) = a by omega]; exact h3⟩,(hf.call hb2).trans hf3⟩
section
variable {w w' : World} {g : Nat} {l : List Int}
end
theorem infoZ:(Tryz.prog.info? 3).map (fun i=>(i.zero,i.size,i.bytes)) = some (some (.int .i64 0),1,8):=by kernel_rfl
def RetMo (m:List Int) (w:World) (e:Ending) (w':World):Prop:=∃ a c,e = .returned (.slice a m.length c) /\ Kp (fun V=>IntsR V a c m) w.heap.size w'.heap.size w' /\ Below w.heap.size w w'
theorem OwnI.newZ {B:Nat} {w V:World} {a:Option Addr} {c:Nat} {l:List Int} (h:OwnI B w a c l) (hV:New B w V) (hs:∀ x ∈ l,InInt x):IntsR V a c l:=by
 have:=Own.readsIn (E:=IntE .i64) (β:=Int) id intC_len h hV (fun b o x hx hc=>⟨by simpa using hc 0 _ rfl,wf_of (hs x hx)⟩)
 rwa [List.map_id] at this
theorem oneL.app {a b:List UInt8} (ha:oneL a) (hb:oneL b):oneL (a ++ b):=fun c hc=>(List.mem_append.1 hc).elim (ha c) (hb c)
theorem oneL.cons {c:UInt8} {l:List UInt8} (hc:c ≠ 10) (h:oneL l):oneL (c :: l):=fun d hd=>by
 rcases List.mem_cons.1 hd with e | hd
 · rw [e]; exact hc
 · exact h d hd
theorem oneL.nil:oneL []:=fun _ h=>by cases h
theorem oneL.flat {α:Type} {f:α -> List UInt8} {l:List α} (h:∀ x ∈ l,oneL (f x)):oneL (l.flatMap f):=fun c hc=>by
 obtain ⟨x,hx,hcx⟩:=List.mem_flatMap.1 hc;exact h x hx c hcx
theorem oneL_text (n:Nat):oneL (textN n):=fun c hc=>(noSp_text n c hc).2
theorem oneL_textQ {q:Rat} (h:0 <= q):oneL (textQ q):=by
 rw [textQ_pos h]
 split
 · exact oneL_text _
 · exact (oneL_text _).app ((oneL_text _).cons (by decide))
theorem nameV_word:∀ (l:List UInt8),nameV l = true -> ∀ c ∈ l,wordV c = true
 | [],h=>by cases h
 | c :: r,h=>fun d hd=>by
  have h':(letV c.toNat && r.all wordV) = true:=h;rw [Bool.and_eq_true,List.all_eq_true] at h';rcases List.mem_cons.1 hd with e | hd
  · subst e; unfold wordV; rw [h'.1]; rfl
  · exact h'.2 d hd
theorem oneL_name {names:List ByteArray} (hn:errNm names = 0) {v:Nat} (h:v < names.length):oneL (nameA names v).data.toList:=fun c hc=>by
 have hm:nameV (nameA names v).data.toList = true:=(errNm_zero hn).1 _ (List.mem_of_getElem? (nameA_at h));have hw:=nameV_word _ hm c hc;intro e;subst e;revert hw; decide
theorem oneL_fac {names:List ByteArray} (hn:errNm names = 0) {p:Nat × Int} (h:goodP names p):oneL (facL names p):=by
 unfold facL
 split
 · exact oneL_name hn h.1
 · exact (oneL_name hn h.1).app ((oneL_text _).cons (by decide))
theorem oneL_term {names:List ByteArray} (hn:errNm names = 0) {t:Trm} (h:goodT names t):oneL (termL names t.coef.q t.mono):=by
 have hg:=prsM_good h.1 h.2.1;unfold termL
 split
 · exact (oneL_textQ (absQ_nonneg _)).app (oneL.flat fun p hp=>(oneL_fac hn (hg p hp)).cons (by decide))
 ·
  generalize prsM t.mono = l at hg ⊢
  cases l with
  | nil=>exact oneL.nil
  | cons p r=>exact (oneL_fac hn (hg p (by simp))).app (oneL.flat fun q hq=>(oneL_fac hn (hg q (by simp [hq]))).cons (by decide))
theorem oneL_sep (q:Rat):oneL (sepL q):=by
 unfold sepL
 split
 · exact (by decide:∀ c ∈ ([32,45,32]:List UInt8),c ≠ 10)
 · exact (by decide:∀ c ∈ ([32,43,32]:List UInt8),c ≠ 10)
theorem oneL_body {names:List ByteArray} (hn:errNm names = 0) {l:List Trm} (h:∀ t ∈ l,goodT names t):oneL (bodyL names l):=by
 cases l with
 | nil=>exact oneL.nil
 | cons t r =>
  rw [bodyL];refine oneL.app ?_ ((oneL_term hn (h t (by simp))).app ?_)
  ·
   split
   · exact (by decide:∀ c ∈ ([45]:List UInt8),c ≠ 10)
   · exact oneL.nil
  · exact oneL.flat fun u hu=>(oneL_sep _).app (oneL_term hn (h u (by simp [hu])))
theorem oneL_print {l:List Trm} {names:List ByteArray} (h:(printP l names).2 = 0) (hs:∀ t ∈ l,shortQ (absQ t.coef.q)):oneL (printP l names).1.data.toList:=by
 obtain ⟨h1,h2,h3,h4⟩:=printP_good h;rw [h4]
 split
 · exact (by decide:∀ c ∈ ([48]:List UInt8),c ≠ 10)
 · exact oneL_body h2 fun t ht=>⟨(polyB_terms h1 t ht).2,bigB_no h3 t ht,hs t ht⟩
theorem errL_zero {names:List ByteArray}:∀ {l:List (List Trm)},errL names l = 0 -> ∀ p ∈ l,(printP p names).2 = 0
 | [],_,p,hp=>by cases hp
 | q :: r,h,p,hp=>by
  rw [errL] at h
  split at h
  ·
   next h0 =>
   rcases List.mem_cons.1 hp with e | hp
   · rw [e]; exact h0
   · exact errL_zero h p hp
  · next h0=>exact (h0 h).elim
theorem lnF_list (names:List ByteArray) (p:List Trm) (x:Int):(lnF names p x).data.toList = lnFQ x (printP p names).1.data.toList:=by
 unfold lnF lnFQ wFactor;simp [ByteArray.data_append,ofL_list]
theorem lnC_list (names:List ByteArray) (p:List Trm):(lnC names p).data.toList = lnCQ (printP p names).1.data.toList:=by
 unfold lnC lnCQ wCof;simp [ByteArray.data_append]
theorem ln0_list (n:Int):(ln0 n).data.toList = wPower ++ 32 :: textN n.toNat:=by
 unfold ln0 wPower;simp [ByteArray.data_append,ofL_list]
def facQ (names:List ByteArray) (F:List (List Trm)) (P:List Int):List (Int × List UInt8 × List Tm):=(List.range F.length).map fun i=>(P.getD i 0,(printP (F.getD i []) names).1.data.toList,(F.getD i []).map trmQ)
def cofQ (names:List ByteArray) (C:List (List Trm)):List (List UInt8 × List Tm):=(List.range C.length).map fun i=>((printP (C.getD i []) names).1.data.toList,(C.getD i []).map trmQ)
theorem range_getD {α:Type} (l:List α) (d:α):(List.range l.length).map (fun i=>l.getD i d) = l:=by
 apply List.ext_getElem (by simp);intro i h1 h2;simp [List.getD_eq_getElem?_getD,List.getElem?_eq_getElem h2]
theorem text_list (names:List ByteArray) (F C:List (List Trm)) (P:List Int) (n:Int):(catL (lnsC names F C P n C.length) ++ endB).data.toList = wPower ++ 32 :: (textN n.toNat ++ 10 :: (((facQ names F P).flatMap fun x=>lnFQ x.1 x.2.1 ++ [10]) ++ (((cofQ names C).flatMap fun x=>lnCQ x.1 ++ [10]) ++ (wEnd ++ [10])))):=by
 unfold catL lnsC lnsF facQ cofQ endB wEnd;rw [ByteArray.data_append,Array.toList_append,ofL_list];simp only [List.flatMap_append,List.flatMap_cons,List.flatMap_map,ln0_list,lnF_list,lnC_list];simp
theorem readQ_back {names:List ByteArray} {F C:List (List Trm)} {P:List Int} {n:Int} {b:Bool} (h:(textC names F C P n b).2 = 0) (hn:1 <= n /\ n <= 64) (hP:P.length = F.length) (hx:∀ x ∈ P,0 <= x /\ x <= 64) (h0:∀ p ∈ F,p ≠ [])
  (hF:∀ p ∈ F,p.length <= 4000 /\ ∀ t ∈ p,shortQ (absQ t.coef.q)) (hC:∀ p ∈ C,p.length <= 4000 /\ ∀ t ∈ p,shortQ (absQ t.coef.q)) :
  readQ names (textC names F C P n b).1.data.toList = (⟨F.map (·.map trmQ),P,n,C.map (·.map trmQ)⟩,0,0):=by
 unfold textC at h ⊢
 split at h
 ·
  next hb =>
  rw [if_pos hb]
  split at h
  ·
   next h1 =>
   rw [if_pos h1]
   split at h
   ·
    next h2 =>
    rw [if_pos h2];dsimp only;have gF:∀ i,i < F.length -> F.getD i [] ∈ F:=fun i hi=>by rw [List.getD_eq_getElem?_getD,List.getElem?_eq_getElem hi]; exact List.getElem_mem hi
    have gC:∀ i,i < C.length -> C.getD i [] ∈ C:=fun i hi=>by rw [List.getD_eq_getElem?_getD,List.getElem?_eq_getElem hi]; exact List.getElem_mem hi
    have gP:∀ i,i < F.length -> P.getD i 0 ∈ P:=fun i hi=>by rw [List.getD_eq_getElem?_getD,List.getElem?_eq_getElem (by omega)]; exact List.getElem_mem (by omega)
    rw [text_list,readQ_text hn]
    ·
     unfold facQ cofQ;simp only [List.map_map];have e1:=congrArg (List.map fun p:List Trm=>p.map trmQ) (range_getD F []);have e2:=congrArg (List.map fun p:List Trm=>p.map trmQ) (range_getD C []);have e3:=range_getD P 0;rw [List.map_map] at e1 e2;rw [hP] at e3;refine Prod.ext ?_ rfl
     show CrQ.mk _ _ _ _ = CrQ.mk _ _ _ _
     rw [CrQ.mk.injEq];exact ⟨e1,e3,rfl,e2⟩
    ·
     intro x hx';obtain ⟨i,hi,rfl⟩:=List.mem_map.1 hx';have hi':=List.mem_range.1 hi;have hm:=gF i hi';exact ⟨hx _ (gP i hi'),polC_print (errL_zero h1 _ hm) (hF _ hm).1 (hF _ hm).2,oneL_print (errL_zero h1 _ hm) (hF _ hm).2,fun e=>h0 _ hm (List.map_eq_nil_iff.1 e)⟩
    ·
     intro x hx';obtain ⟨i,hi,rfl⟩:=List.mem_map.1 hx';have hm:=gC i (List.mem_range.1 hi);exact ⟨polC_print (errL_zero h2 _ hm) (hC _ hm).1 (hC _ hm).2,oneL_print (errL_zero h2 _ hm) (hC _ hm).2⟩
   · next h2=>exact (h2 h).elim
  · next h1=>exact (h1 h).elim
 · cases h
theorem bnd_ok {α β:Type} {g:Got α} {f:α -> List UInt8 -> Got β} {y:β} {r:List UInt8} (h:g.bnd f = .ok y r):∃ x s,g = .ok x s /\ f x s = .ok y r:=by
 cases g with
 | ok x s=>exact ⟨x,s,rfl,h⟩
 | bad k e=>cases h
theorem powG_pos {names:List ByteArray} {l r:List UInt8} {p:Nat × Int} (h:powG names l = .ok p r):0 <= p.2:=by
 unfold powG at h;obtain ⟨v,s,_,h⟩:=bnd_ok h
 split at h
 ·
  obtain ⟨d,s2,_,h⟩:=bnd_ok h
  split at h
  · cases h
  · injection h with h _; rw [<- h]; exact Int.natCast_nonneg _
 · injection h with h _; rw [<- h]; exact (by decide:(0:Int) <= 1)
def InM (m:List Int):Prop:=m.length = 64 /\ ∀ x ∈ m,0 <= x /\ x <= 1048576
theorem proG_in {names:List ByteArray} {F:Nat}:∀ {n:Nat} {m m':List Int} {l r:List UInt8},InM m -> proG names F n m l = .ok m' r -> InM m'
 | 0,_,_,_,_,_,h=>by rw [proG] at h; cases h
 | n + 1,m,m',l,r,hm,h=>by
  rw [proG] at h;obtain ⟨p,s,hp,h⟩:=bnd_ok h;have h0:=powG_pos hp
  split at h
  · cases h
  ·
   next hle =>
   have hput:InM (putM m p):=by
    refine ⟨by rw [putM_len]; exact hm.1,fun x hx=>?_⟩;unfold putM at hx;rcases List.mem_or_eq_of_mem_set hx with hx | hx
    · exact hm.2 x hx
    ·
     have:=(expAt_in hm.2 p.1).1
     omega
   split at h
   · exact proG_in hput h
   · injection h with h _; rw [<- h]; exact hput
theorem cutM_ok {m:List Int} (h:InM m):Mok 1048576 (cutM m):=by
 obtain ⟨z,h1,_,h3⟩:=cutM_zeros m;refine ⟨fun x hx=>h.2 x ?_,h3,?_⟩
 · rw [h1]; exact List.mem_append_left _ hx
 · have:=congrArg List.length h1; rw [List.length_append,h.1] at this; omega
theorem zerM_in:InM zerM:=by
 refine ⟨by simp [zerM],fun x hx=>?_⟩;unfold zerM at hx;have:=List.eq_of_mem_replicate hx;subst this; decide
theorem monG_ok {names:List ByteArray} {F:Nat} {q:Rat} {l r:List UInt8} {t:Rat × List Int} (h:monG names F q l = .ok t r):Mok 1048576 t.2:=by
 unfold monG at h;obtain ⟨m,s,hm,h⟩:=bnd_ok h;injection h with h _
 rw [<- h];exact cutM_ok (proG_in zerM_in hm)
theorem terG_ok {names:List ByteArray} {l r:List UInt8} {t:Rat × List Int} (h:terG names l = .ok t r):Mok 1048576 t.2:=by
 unfold terG at h
 split at h
 · exact monG_ok h
 ·
  obtain ⟨q,s,_,h⟩:=bnd_ok h
  split at h
  · exact monG_ok h
  · injection h with h _; rw [<- h]; exact Mok.nil _
theorem sumG_ok {names:List ByteArray}:∀ {f:Nat} {neg:Bool} {acc L:List (Rat × List Int)} {l r:List UInt8},(∀ t ∈ acc,Mok 1048576 t.2) -> sumG names f neg acc l = .ok L r -> r = [] /\ ∀ t ∈ L,Mok 1048576 t.2
 | 0,_,_,_,_,_,_,h=>by rw [sumG] at h; cases h
 | f + 1,neg,acc,L,l,r,ha,h=>by
  rw [sumG] at h
  split at h
  · cases h
  ·
   next h4 =>
   obtain ⟨t,s,ht,h⟩:=bnd_ok h;have hacc:∀ u ∈ acc ++ [sgnT neg t],Mok 1048576 u.2:=fun u hu=>by
    rcases List.mem_append.1 hu with hu | hu
    · exact ha u hu
    · rw [List.mem_singleton] at hu; subst hu; show Mok 1048576 t.2; exact terG_ok ht
   split at h
   ·
    next hs =>
    injection h with h1 h2
    subst h1 h2;exact ⟨List.length_eq_zero_iff.1 hs,hacc⟩
   ·
    obtain ⟨ng,s',_,h⟩:=bnd_ok h;exact sumG_ok hacc h
theorem reaG_ok {names:List ByteArray} {l r:List UInt8} {L:List (Rat × List Int)} (h:reaG names l = .ok L r):r = [] /\ ∀ t ∈ L,Mok 1048576 t.2:=by
 unfold reaG at h
 split at h
 · exact sumG_ok (fun t ht=>by cases ht) h
 · exact sumG_ok (fun t ht=>by cases ht) h
theorem readP_ok {names:List ByteArray} {l r:List UInt8} {p:List Tm} (h:readP names l = .ok p r):r = [] /\ Pok 1048576 p:=by
 unfold readP at h;obtain ⟨L,s,hL,h⟩:=bnd_ok h;obtain ⟨h1,h2⟩:=reaG_ok hL;injection h with a b
 subst a b;exact ⟨h1,(normP_ok h2).1⟩
theorem polC_ok {names:List ByteArray} {s:List UInt8} {p:List Tm} {e:Int} (h:polC names s = (some p,e)):e = 0 /\ printT names p = (s,0) /\ Pok 1048576 p:=by
 obtain ⟨h1,h2,r,h3⟩:=polC_form h;exact ⟨h1,h2,(readP_ok h3).2⟩
def CrOk (names:List ByteArray) (c:CrQ):Prop:=(1 <= c.n /\ c.n <= 64) /\ c.P.length = c.F.length /\ (∀ x ∈ c.P,0 <= x /\ x <= 64) /\ (∀ p ∈ c.F,p ≠ [] /\ Pok 1048576 p /\ (printT names p).2 = 0) /\ ∀ p ∈ c.C,Pok 1048576 p /\ (printT names p).2 = 0
def headQ (names:List ByteArray) (c:CrQ):List UInt8:=wPower ++ 32 :: (textN c.n.toNat ++ [10]) ++ ((List.zip c.P c.F).flatMap fun x=>lnFQ x.1 (printT names x.2).1 ++ [10]) ++ (c.C.flatMap fun p=>lnCQ (printT names p).1 ++ [10])
theorem firstQ_ok {names:List ByteArray} {t:List UInt8} {c:CrQ} (h:firstQ t = some c):CrOk names c /\ headQ names c = t ++ [10]:=by
 unfold firstQ at h
 split at h
 ·
  next w r hc =>
  obtain ⟨g1,_⟩:=cutL_some 32 t w r hc
  split at h
  ·
   next hw =>
   cases hn:numC 1 r with
   | none=>rw [hn] at h; cases h
   | some n =>
    rw [hn] at h;obtain ⟨k1,k2,k3⟩:=numC_some hn;have e:(⟨[],[],n,[]⟩:CrQ) = c:=by injection h
    subst e;refine ⟨⟨⟨by simp; omega,by simp; omega⟩,rfl,(fun x hx=>by cases hx),(fun x hx=>by cases hx),(fun x hx=>by cases hx)⟩,?_⟩;unfold headQ;simp [g1,hw,k3]
  · cases h
 · cases h
theorem lineQ_ok {names:List ByteArray} {t:List UInt8} {c c':CrQ} {e:Int} (hc:CrOk names c) (h:lineQ names c t = (some c',e)):CrOk names c' /\ headQ names c' = headQ names c ++ (t ++ [10]):=by
 obtain ⟨o1,o2,o3,o4,o5⟩:=hc;unfold lineQ at h
 split at h
 · cases h
 ·
  next w r hcut =>
  obtain ⟨g1,_⟩:=cutL_some 32 t w r hcut
  split at h
  ·
   next hw =>
   split at h
   ·
    next p _ hp =>
    have e1:{ c with C:=c.C ++ [p] } = c':=by injection h with h _; injection h
    obtain ⟨_,k2,k3⟩:=polC_ok hp;subst e1;refine ⟨⟨o1,o2,o3,o4,fun q hq=>?_⟩,?_⟩
    ·
     rcases List.mem_append.1 hq with hq | hq
     · exact o5 q hq
     · rw [List.mem_singleton] at hq; subst hq; exact ⟨k3,by rw [k2]⟩
    ·
     unfold headQ;simp [g1,hw,k2,lnCQ]
   · cases h
  ·
   split at h
   ·
    next hw =>
    split at h
    · cases h
    ·
     next d x hcut2 =>
     obtain ⟨g2,_⟩:=cutL_some 32 r d x hcut2
     split at h
     · cases h
     ·
      next k hk =>
      obtain ⟨_,n2,n3⟩:=numC_some hk
      split at h
      ·
       next hC =>
       split at h
       ·
        next p _ hp =>
        split at h
        · cases h
        ·
         next hne =>
         have e1:{ c with F:=c.F ++ [p],P:=c.P ++ [(k:Int)] } = c':=by injection h with h _; injection h
         obtain ⟨_,k2,k3⟩:=polC_ok hp;subst e1;refine ⟨⟨o1,by simp [o2],fun y hy=>?_,fun q hq=>?_,o5⟩,?_⟩
         ·
          rcases List.mem_append.1 hy with hy | hy
          · exact o3 y hy
          · rw [List.mem_singleton] at hy; subst hy; omega
         ·
          rcases List.mem_append.1 hq with hq | hq
          · exact o4 q hq
          · rw [List.mem_singleton] at hq; subst hq; exact ⟨hne,k3,by rw [k2]⟩
         ·
          unfold headQ;dsimp only;rw [List.zip_append o2,hC];simp [g1,g2,hw,k2,lnFQ,n3]
       · cases h
      · cases h
   · cases h
theorem polC_err {names:List ByteArray} {s:List UInt8} {e:Int} (h:polC names s = (none,e)):e ≠ 0:=by
 unfold polC at h
 split at h
 ·
  split at h
  ·
   next k e' hr =>
   have e1:e' = e:=by injection h
   subst e1;unfold readP at hr;refine (Fine.bnd (N:=s.length) (reaG_fine names s) (fun x r _=>Fine.okk _ _ _) k e' hr).2.2.2
  ·
   split at h
   · cases h
   ·
    have e1:(9:Int) = e:=by injection h
    subst e1; decide
 ·
  next h0 =>
  have e1:errNm names = e:=by injection h
  subst e1; exact h0
theorem lineQ_err {names:List ByteArray} {t:List UInt8} {c:CrQ} {e:Int} (h:lineQ names c t = (none,e)):e ≠ 0:=by
 have h9:∀ {e:Int},((none:Option CrQ),(9:Int)) = (none,e) -> e ≠ 0:=fun h=>by
  injection h with _ h; subst h; decide
 unfold lineQ at h
 split at h
 · exact h9 h
 ·
  split at h
  ·
   split at h
   · cases h
   ·
    next e' hp =>
    have e1:e' = e:=by injection h
    subst e1; exact polC_err hp
  ·
   split at h
   ·
    split at h
    · exact h9 h
    ·
     split at h
     · exact h9 h
     ·
      split at h
      ·
       split at h
       ·
        split at h
        ·
         have e1:(3:Int) = e:=by injection h
         subst e1; decide
        · cases h
       ·
        next e' hp =>
        have e1:e' = e:=by injection h
        subst e1; exact polC_err hp
      · exact h9 h
   · exact h9 h
theorem restQ_ok {names:List ByteArray}:∀ {f n:Nat} {c c':CrQ} {s:List UInt8} {k:Nat},s.length < f -> 0 < n -> CrOk names c -> restQ names f n c s = (c',k,0) -> k = 0 /\ CrOk names c' /\ headQ names c' ++ (wEnd ++ [10]) = headQ names c ++ s
 | f + 1,n,c,c',s,k,hf,hn,hc,h=>by
  rw [restQ] at h
  split at h
  · cases h
  ·
   next t r hcut =>
   obtain ⟨g1,_⟩:=cutL_some 10 s t r hcut
   split at h
   ·
    next ht =>
    split at h
    ·
     next hr =>
     have e1:c = c' /\ 0 = k:=by injection h with a b; injection b with b _; exact ⟨a,b⟩
     obtain ⟨rfl,rfl⟩:=e1;exact ⟨rfl,hc,by rw [g1,ht,hr]⟩
    · split at h <;> cases h
   ·
    split at h
    ·
     next c2 _ hl =>
     obtain ⟨k1,k2⟩:=lineQ_ok hc hl;have hlen:r.length < f:=by rw [g1] at hf; simp at hf; omega
     obtain ⟨m1,m2,m3⟩:=restQ_ok hlen (by omega) k1 h;refine ⟨m1,m2,?_⟩;rw [m3,k2,g1];simp
    ·
     next e hl =>
     have e1:e = 0:=by injection h with _ b; injection b
     exact (lineQ_err hl e1).elim
 | 0,_,_,_,_,_,h,_,_,_=>by omega
theorem readQ_form {names:List ByteArray} {s:List UInt8} {c:CrQ} {k:Nat} (h:readQ names s = (c,k,0)):k = 0 /\ CrOk names c /\ headQ names c ++ (wEnd ++ [10]) = s:=by
 unfold readQ at h
 split at h
 · cases h
 ·
  next t r hcut =>
  obtain ⟨g1,_⟩:=cutL_some 10 s t r hcut
  split at h
  · cases h
  ·
   next c1 hf =>
   obtain ⟨k1,k2⟩:=firstQ_ok (names:=names) hf;obtain ⟨m1,m2,m3⟩:=restQ_ok (Nat.lt_succ_self _) (by decide) k1 h;refine ⟨m1,m2,?_⟩;rw [m3,k2,g1];simp
theorem cutM_snoc (l:List Int) (x:Int):cutM (l ++ [x]) = if x = 0 then cutM l else l ++ [x]:=by
 unfold cutM;rw [List.reverse_append];simp only [List.reverse_cons,List.reverse_nil,List.nil_append,List.singleton_append,List.dropWhile_cons];by_cases h:x = 0
 · rw [if_pos (by simpa using h),if_pos h]
 ·
  rw [if_neg (by simpa using h),if_neg h];simp
theorem cutM_take {l:List Int} {n:Nat} {x:Int} (h:l[n]? = some x):cutM (l.take (n + 1)) = if x = 0 then cutM (l.take n) else l.take (n + 1):=by
 rw [take_more h,cutM_snoc]
theorem slice_hmz (a:Option Addr) (m c n:Nat) (hn:n <= c) (w:World) :
  (Instr.slice 55 (.slice a m c) none (some (.int .i64 (n:Int))) (some (.int .i64 (n:Int)))).run Tryz.prog w = .ok (.slice a n n) w:=by
 obtain ⟨d,hd,hz,hsz,hby⟩:=info_parts infoZ;have hu:=Tryz.underlying55;have he:Tryz.prog.elem 55 = 3:=by unfold Program.elem; rw [hu]
 have:=run_slice_hm (P:=Tryz.prog) (w:=w) 55 a m c (by rw [hu,he]) .i64 .i64 n n (by omega) (by omega) (by omega);rw [this,he];simp [sizeOf,typeInfo,hd,hsz,sliced];intro _
 cases a with
 | none=>rfl
 | some g=>rfl
theorem IntsR.cut {w:World} {a:Option Addr} {c n:Nat} {l:List Int} (h:IntsR w a c l):IntsR w a (l.take n).length (l.take n) :=
 ⟨nlr _,by have h1:=h.1; have h2:=h.2.1; rw [List.length_take]; omega,fun k x hx=>by
  rw [List.getElem?_take] at hx
  split at hx
  · exact h.2.2 k x hx
  · cases hx⟩
theorem trimZ_any (l:List Int) (a:Option Addr) (c:Nat) (w:World) (h:IntsR w a c l) (hl:l.length <= 1000000) :
  Calls Tryz.prog 126 #[.slice a l.length c] w fun e w'=>∃ a' c',e = .returned (.slice a' (cutM l).length c') /\ (∀ V,Ext w V -> IntsR V a' c' (cutM l)) /\ w = w':=by
 have hc:=h.1;have HI:=Hd h;obtain ⟨R,hR⟩:∃ R,cutM l = R:=⟨_,rfl⟩
 rw [hR];replace hR:=Hd hR;clear h;go_enter Tryz.func126,Tryz.ntmps126;go_wp2
 go_loopg [3] l.length (fun g q wr=>q = .int .i64 g /\ Hid (g <= l.length) /\ Hid (cutM (l.take g) = R) /\ w = wr)
 case atStart=>exact ⟨rfl,nlr _,by show _ = _; rw [List.take_length]; exact hR.out,rfl⟩
 case round =>
  obtain ⟨rfl,hg,hcut,rfl⟩:=hrel
  cases gk with
  | zero =>
   have hR0:R = []:=by rw [<- hcut.out]; rfl
   subst hR0;clear hR hcut;go_wp2;go_ret;exact ⟨none,0,rfl,fun _ _=>SlR.nil,rfl⟩
  | succ n =>
   have hn1:(((n + 1:Nat):Int) - 1) = (n:Int):=by omega
   have hnc:((n + 1:Nat):Int) = (n:Int) + 1:=by omega
   have hnl:n < l.length:=by have:=hg.out; omega
   obtain ⟨x,hx⟩:=get_of_lt hnl;obtain ⟨b,off,rfl,hcx,hix⟩:=ints_cell HI.out hx;have hct:=cutM_take hx;have hpos:(0:Int) < (n:Int) + 1:=by omega
   have hne:(((n:Int) + 1) == 0) = false:=by rw [beq_eq_false_iff_ne]; omega
   by_cases h0:x = 0
   ·
    have hx0:(x == 0) = true:=by simpa using h0
    rw [if_pos h0] at hct;have hcut2:=Hd (hct.symm.trans hcut.out);clear hct hcut hx h0 hix;rw [hnc];go_wp2;go_roundg n
    case rel=>exact ⟨by first | rfl | go_num,by have:=hg.out; show _ <= _; omega,hcut2.out,rfl⟩
    case measure=>omega
   ·
    have hx0:(x == 0) = false:=by simpa using h0
    rw [if_neg h0] at hct;have hcut2:R = l.take (n + 1):=hcut.out.symm.trans hct;have hrl:R.length = n + 1:=by rw [hcut2,List.length_take]; omega
    have hsl:=fun W=>slice_hmz (some ⟨b,off,none⟩) l.length c (n + 1) (by omega) W
    rw [hnc] at hsl;have hF:=Hd (fun V (hV:Ext w V)=>(show IntsR V (some ⟨b,off,none⟩) (n + 1) R from by
     have:=((HI.out.ext hV).cut (n:=n + 1))
     rw [<- hcut2,hrl] at this;exact this))
    replace hrl:=Hd hrl;clear hct hcut hx h0 hcut2 hix;rw [hnc];go_wp2;go_ret;exact ⟨some ⟨b,off,none⟩,n + 1,by rw [hrl.out]; rfl,hF.out,rfl⟩
theorem monoB_cut {l:List Int} (h:InM l):monoB (cutM l) = true:=by
 have hk:=cutM_ok h;refine monoB_good hk.2.2 hk.2.1 ?_;rw [List.all_eq_true];exact fun x hx=>by simpa using hk.1 x hx
theorem normM_any (l:List Int) (a:Option Addr) (c:Nat) (w:World) (h:IntsR w a c l) (hl:l.length <= 1000000) :
  Calls Tryz.prog 76 #[.slice a l.length c] w (RetMo (if monoB (cutM l) = true then cutM l else []) w):=by
 have CT:=trimZ_any l a c w h hl;have hlc:(cutM l).length <= 1000000:=by
  obtain ⟨z,hz,_⟩:=cutM_zeros l;have:=congrArg List.length hz;rw [List.length_append] at this
  omega
 have hin:∀ x ∈ cutM l,InInt x:=fun x hx=>by
  obtain ⟨z,hz,_⟩:=cutM_zeros l;obtain ⟨k,hk⟩:=List.getElem?_of_mem (show x ∈ l by rw [hz]; simp [hx]);obtain ⟨_,_,_,_,hi⟩:=ints_cell h hk;exact hi
 revert CT hlc hin;generalize cutM l = R;intro CT hlc hin;replace CT:=Hd CT; replace hin:=Hd hin;clear h;obtain ⟨b,hb⟩:∃ b,monoB R = b:=⟨_,rfl⟩
 rw [hb];obtain ⟨Q,hQ⟩:∃ Q,(if b = true then R else []) = Q:=⟨_,rfl⟩
 rw [hQ];replace hQ:=Hd hQ;have CR:=fun a' c' W (hI:IntsR W a' c' R)=>monoP_any R a' c' W hI
 simp only [hb] at CR;replace CR:=Hd CR;clear hb;go_enter Tryz.func76,Tryz.ntmps76;go_wp2_with fail;refine CT.out.mono ?_;rintro e w1 ⟨a1,c1,rfl,hV,rfl⟩;have HV:=Hd hV;clear hV;go_wp2_with fail;refine (CR.out a1 c1 w (HV.out w (Ext.refl _))).mono ?_;rintro e w1 ⟨rfl,rfl⟩
 cases b
 ·
  have hq0:=hQ.out;rw [if_neg (by decide)] at hq0;subst hq0;go_wp2;go_ret;exact ⟨none,0,rfl,fun V _=>SlR.nil,Below.refl _ _⟩
 ·
  have hq0:=hQ.out;rw [if_pos rfl] at hq0;subst hq0;go_wp2_with (at_builtin; go_must (refine wpList_plain rfl fun _ hK=>wp_append_m (B:=w.heap.size) (.const (.slice none 0 0)) (.tmp 8) 55 rfl Tryz.underlying55 infoI rfl (by omega) (by omega) intC_len none 0 (l:=[]) rfl Own.nil (fun x _=>intC_one x) a1 c1 (m:=R) rfl (fun k x hx=>by obtain ⟨b,off,e,hc,_⟩:=ints_cell (HV.out w (Ext.refl _)) hx; exact ⟨b,off,e,fun j u hu=>by match j,hu with | 0,hu=>simp [intC] at hu; subst hu; simpa using hc⟩) R rfl (by omega) (nlr _) ?_); intro a2 c2 w2 ho2 hg2 hb2; refine hK _ _ ?_);go_ret;exact ⟨a2,c2,rfl,Kp.made fun V hV=>OwnI.newZ ho2 hV hin.out,hb2⟩
def ArrZ (w:World) (g:Nat) (l:List Int):Prop:=Blk w g 178 (l.map (Value.int .i64)).toArray
section
variable {w w' : World} {g : Nat} {l : List Int}
theorem ArrZ.cell (h:ArrZ w g l) {i:Nat} {x:Int} (hx:l[i]? = some x):w.cell? ⟨g,i,none⟩ = some (.int .i64 x):=by
 rw [Blk.cell h i];simp [hx]
theorem ArrZ.set_ (h:ArrZ w g l) (i:Nat) (x:Int):ArrZ (w.setCell ⟨g,i,none⟩ (.int .i64 x)) g (l.set i x):=by
 have:=Blk.set_ h i (.int .i64 x);unfold ArrZ;rw [List.setIfInBounds_toArray,<- List.map_set] at this;exact this
theorem ArrZ.reads (h:ArrZ w g l) (hs:∀ x ∈ l,0 <= x /\ x <= 2097152) (hl:l.length = 64):IntsR w (some ⟨g,0,none⟩) 64 l :=
 ⟨by omega,by simp [maxLen],fun k x hx=>⟨g,0,rfl,by simpa using h.cell hx,wf_of (by have:=hs x (List.mem_of_getElem? hx); unfold InInt; omega)⟩⟩
end
theorem Kp.low {R:World -> Prop} {B B' T:Nat} {w:World} (h:Kp R B T w) (hB:B' <= B):Kp R B' T w:=fun V hV=>h V fun p v h1=>hV p v (Nat.le_trans hB h1)
def InZ (m:List Int):Prop:=m.length = 64 /\ ∀ x ∈ m,0 <= x /\ x <= 2097152
theorem InM.z {m:List Int} (h:InM m):InZ m:=⟨h.1,fun x hx=>by have:=h.2 x hx; omega⟩
theorem InM.at_ {m:List Int} (h:InM m) {v:Nat} (hv:v < 64):m[v]? = some (expAt m v) /\ 0 <= expAt m v /\ expAt m v <= 1048576:=by
 obtain ⟨x,hx⟩:=get_of_lt (xs:=m) (k:=v) (by rw [h.1]; exact hv);have e:expAt m v = x:=by unfold expAt; rw [List.getD_eq_getElem?_getD,hx]; rfl
 rw [e];exact ⟨hx,h.2 x (List.mem_of_getElem? hx)⟩
theorem InM.put {m:List Int} (h:InM m) {v:Nat} {x:Int} (h0:0 <= x) (h1:x <= 1048576):InM (m.set v x):=⟨by rw [List.length_set]; exact h.1,fun y hy=>by
 rcases List.mem_or_eq_of_mem_set hy with hy | rfl
 · exact h.2 y hy
 · exact ⟨h0,h1⟩⟩
theorem InM.putz {m:List Int} (h:InM m) {v:Nat} {x:Int} (h0:0 <= x) (h1:x <= 2097152):InZ (m.set v x):=⟨by rw [List.length_set]; exact h.1,fun y hy=>by
 rcases List.mem_or_eq_of_mem_set hy with hy | rfl
 · exact h.z.2 y hy
 · exact ⟨h0,h1⟩⟩
theorem powG_name {names:List ByteArray} {l:List UInt8} {k:Nat} {e:Int} (h:namG names l = .bad k e):powG names l = .bad k e:=by unfold powG; rw [h]; rfl
theorem powG_one {names:List ByteArray} {l r:List UInt8} {v:Nat} (h:namG names l = .ok v r) (hr:r[0]? ≠ some 94):powG names l = .ok (v,1) r:=by
 unfold powG; rw [h]; show (if _ then _ else _) = _; rw [if_neg hr]
theorem powG_exp {names:List ByteArray} {l r:List UInt8} {v:Nat} (h:namG names l = .ok v r) (hr:r[0]? = some 94):powG names l = (expG (r.drop 1)).bnd fun n r2=>.ok (v,(n:Int)) r2:=by
 unfold powG;rw [h]
 show (if _ then _ else _) = _
 rw [if_pos hr];unfold expG
 cases numG (r.drop 1) with
 | bad k e=>rfl
 | ok d r2 =>
  show (if _ then _ else _) = (Got.bnd (if _ then _ else _) _)
  split <;> rfl
theorem proG_bad {names:List ByteArray} {F n:Nat} {m:List Int} {l:List UInt8} {k:Nat} {e:Int} (h:powG names l = .bad k e):proG names F (n + 1) m l = .bad k e:=by rw [proG,h]; rfl
theorem proG_big {names:List ByteArray} {F n:Nat} {m:List Int} {l r:List UInt8} {v:Nat} {x:Int} (h:powG names l = .ok (v,x) r) (hb:1048576 < expAt m v + x):proG names F (n + 1) m l = .bad F 4:=by
 rw [proG,h]; show (if _ then _ else _) = _; rw [if_pos hb]
theorem proG_next {names:List ByteArray} {F n:Nat} {m:List Int} {l r:List UInt8} {v:Nat} {x:Int} (h:powG names l = .ok (v,x) r) (hb:¬ 1048576 < expAt m v + x) (hr:r[0]? = some 42):proG names F (n + 1) m l = proG names F n (m.set v (expAt m v + x)) (r.drop 1):=by
 rw [proG,h]; show (if _ then _ else _) = _; rw [if_neg hb,if_pos hr]; rfl
theorem proG_end {names:List ByteArray} {F n:Nat} {m:List Int} {l r:List UInt8} {v:Nat} {x:Int} (h:powG names l = .ok (v,x) r) (hb:¬ 1048576 < expAt m v + x) (hr:r[0]? ≠ some 42):proG names F (n + 1) m l = .ok (m.set v (expAt m v + x)) r:=by
 rw [proG,h]; show (if _ then _ else _) = _; rw [if_neg hb,if_neg hr]; rfl
def ProS (wr:World) (g mb g5:Nat) (s:ByteArray) (names:List ByteArray) (F:Nat) (PG:Got (List Int)) (gk:Nat):Prop :=
 (∃ (p fu:Nat) (m:List Int),p <= s.size /\ s.size - p < gk /\ s.size - p < fu /\ InM m /\ RdA wr g s mb p 0 0 /\ ArrZ wr g5 m /\ PG = proG names F fu m (tl s p)) \/
 ∃ (k:Nat) (er:Int) (m:List Int),InZ m /\ StE wr g s mb k er /\ ArrZ wr g5 m /\ PG = .bad k er
theorem namG_less {names:List ByteArray} {l r:List UInt8} {v:Nat} (h:namG names l = .ok v r):r.length < l.length:=by
 unfold namG at h
 split at h
 · exact absurd h fun e=>lost_ok e
 ·
  next h0 =>
  split at h
  · cases h
  ·
   injection h with h1 h2
   subst h2;have:l ≠ []:=fun e=>h0 (by rw [e]; rfl)
   have:=List.length_pos_iff.2 this;rw [List.length_drop]; omega
theorem expG_less {l r:List UInt8} {n:Nat} (h:expG l = .ok n r):r.length <= l.length:=by
 unfold expG numG at h
 split at h
 · unfold lost at h; split at h <;> cases h
 ·
  split at h
  · cases h
  ·
   change (if _ then _ else _) = _ at h
   split at h
   · cases h
   ·
    injection h with h1 h2
    subst h2;rw [List.length_drop]; omega
theorem product_any (g mb a nm b0:Nat) (s:ByteArray) (names:List ByteArray) (w:World) (h:RdA w g s mb a 0 0) (ha:a <= s.size) (hs:s.size <= 281474976710656) (hm:OwnV w mb nm (names.take 64)) (hne:mb ≠ g) (he:ErrW w) (hge:Tryz.lays172_ren.g 16 ≠ g) (hb0:b0 <= s.size) :
  Calls Tryz.prog 120 #[.pointer (some ⟨g,0,none⟩),.int .i64 b0] w fun u w'=>∃ m a' c',u = .returned (.slice a' m.length c') /\ (∀ m' r,((proG names (s.size - b0) ((tl s a).length + 1) zerM (tl s a)).bnd fun m r=>(.ok (cutM m) r:Got (List Int))) = .ok m' r -> m = m') /\
   Kp (fun V=>IntsR V a' c' m) w.heap.size w'.heap.size w' /\ StG w' g s mb ((proG names (s.size - b0) ((tl s a).length + 1) zerM (tl s a)).bnd fun m r=>(.ok (cutM m) r:Got (List Int))) /\ Fg g w w':=by
 have HM:=Hd (fun W (hW:Fg g w W)=>hm.fr hW hne);have HE:=Hd (fun W (hW:Fg g w W)=>he.fr hW hge);obtain ⟨PG,hPG0⟩:∃ G,proG names (s.size - b0) ((tl s a).length + 1) zerM (tl s a) = G:=⟨_,rfl⟩
 rw [hPG0];rw [tl_len] at hPG0;obtain ⟨GG,hGG⟩:∃ G,(PG.bnd fun m r=>(.ok (cutM m) r:Got (List Int))) = G:=⟨_,rfl⟩
 rw [hGG];replace hGG:=Hd hGG; replace hPG0:=Hd hPG0;have hlg:=Hd h.lt;have hR0:=Hd (fun o=>show RdA (w.alloc o) g s mb a 0 0 from bA h);clear h hm he;go_enter Tryz.func120,Tryz.ntmps120;go_wp2;refine world_gen (fun W=>RdA W g s mb a 0 0 /\ ArrZ W w.heap.size zerM /\ Fg g w W) ⟨hR0.out _,Blk.new w _ _,(Fr.refl _ _).alloc _⟩ ?_;rintro w0 ⟨h0,hA0,hf0⟩;obtain ⟨g5,hg50⟩:∃ q,w.heap.size = q:=⟨_,rfl⟩
 have hg5w:Hid (w.heap.size <= g5):=Hd (by omega);have hg5:Hid (g < g5):=Hd (by have:=hlg.out; omega);rw [hg50] at hA0 ⊢;replace hg50:=Hd hg50;clear hR0
 go_loopg [6,7] (s.size + 2) (fun gk _ _ wr=>ProS wr g mb g5 s names (s.size - b0) PG gk /\ Fg g w wr)
 case atStart=>exact ⟨.inl ⟨a,s.size - a + 1,zerM,ha,by omega,by omega,zerM_in,h0,hA0,hPG0.out.symm⟩,hf0⟩
 case round =>
  clear h0 hA0 hf0;obtain ⟨hP,hf⟩:=hrel;rcases hP with ⟨p,fu,m,hp,hgk,hfu,hM,hR,hArr,hPG⟩ | ⟨k,er,mz,hin,hSE,hArr,hPG⟩
  ·
   obtain ⟨fu,rfl⟩:∃ f,fu = f + 1:=⟨fu - 1,by omega⟩
   have CN:=Hd (name_any g mb p nm s names wr hR hp hs (HM.out wr hf) hne);replace hM:=Hd hM; replace hPG:=Hd hPG; replace hgk:=Hd hgk; replace hfu:=Hd hfu;have z0:=Blk.cell hR 0; have z1:=Blk.cell hR 1; have z2:=Blk.cell hR 2; have z3:=Blk.cell hR 3; have z4:=Blk.cell hR 4;have hl:=hR.lt;have hpw1:=fun k e=>powG_name (names:=names) (l:=tl s p) (k:=k) (e:=e)
   have hpw2:=fun v r=>powG_one (names:=names) (l:=tl s p) (r:=r) (v:=v)
   have hpw3:=fun v r=>powG_exp (names:=names) (l:=tl s p) (r:=r) (v:=v)
   obtain ⟨NG,hNG⟩:∃ G,namG names (tl s p) = G:=⟨_,rfl⟩
   rw [hNG] at CN hpw1 hpw2 hpw3;have hlen:=Hd (show ∀ v r,NG = .ok v r -> r.length < s.size - p from fun v r e=>by have:=namG_less (hNG.trans e); rwa [tl_len] at this);replace CN:=Hd CN.out; replace hNG:=Hd hNG; replace hpw1:=Hd hpw1; replace hpw2:=Hd hpw2; replace hpw3:=Hd hpw3;clear hR;go_wp2_with fail;refine CN.out.mono ?_;rintro e w1 ⟨v,rfl,hv64,hvv,hS1,hf1⟩;have hf2:=hf.trans hf1;have hArr2:ArrZ w1 g5 m:=Blk.fr hArr hf1 (by have:=hg5.out; omega);clear CN z0 z1 z2 z3 z4 hl hArr hf hf1
   cases NG with
   | bad k er =>
    have hSE0:StE w1 g s mb k er:=hS1;clear hS1 hvv
    -- the exponents are written behind an error,in world w1
    obtain ⟨hmx,x0,x1⟩:=hM.out.at_ hv64;have hcx:=ArrZ.cell hArr2 hmx;have hfz:=Blk.frozen hArr2 v;have hgl5:=Blk.lt hArr2;obtain ⟨x,hx⟩:∃ x,expAt m v = x:=⟨_,rfl⟩
    rw [hx] at hcx x0 x1;have hArr3:=Hd (ArrZ.set_ hArr2 v (x + 1));have hf3:=Hd (hf2.setc (g:=g5) (i:=v) (u:=.int .i64 (x + 1)) (.inr hg5w.out));have hinz:=Hd (hM.out.putz (v:=v) (x:=x + 1) (by omega) (by omega));have hvi:(v:Int) < 64:=by omega
    obtain ⟨mz,hmz⟩:∃ z,m.set v (x + 1) = z:=⟨_,rfl⟩
    rw [hmz] at hinz hArr3;replace hmz:=Hd hmz;clear hArr2 hmx;obtain ⟨pe,hpe,hke,h0e,hRe0⟩:=hSE0;have hRe3:=Hd (show RdA (w1.setCell ⟨g5,v,none⟩ (.int .i64 (x + 1))) g s mb pe er ((s.size - k:Nat):Int) from bF (by have:=hg5.out; omega) hRe0);have hin:=hinz;have hzE:(er == 0) = false:=by rw [beq_eq_false_iff_ne]; exact h0e
    have hzE2:(er != 0) = true:=by rw [bne,hzE]; rfl
    have hPGb:=Hd (show PG = .bad k er from hPG.out.trans (proG_bad (hpw1.out k er rfl)));have z0:=Blk.cell hRe0 0; have z1:=Blk.cell hRe0 1; have z2:=Blk.cell hRe0 2; have z3:=Blk.cell hRe0 3; have z4:=Blk.cell hRe0 4;have hl2:=Blk.lt hRe0;replace hx:=Hd hx; replace h0e:=Hd h0e;clear hRe0;by_cases hbig:1048576 < x + 1
    ·
     go_wp2_with fail;refine calls_gen (fun W=>RdA W g s mb pe er ((s.size - k:Nat):Int) /\ ArrZ W g5 mz /\ Fg g w W) ⟨hRe3.out,hArr3.out,hf3.out⟩ ?_;rintro W6 ⟨hRe,hArr6,hf6⟩;clear hRe3 hArr3 hf3 z0 z1 z2 z3 z4 hcx hfz;refine (fail_no g mb pe s er ((s.size - k:Nat):Int) 4 (b0:Int) W6 hRe h0e.out).mono ?_;rintro e w' ⟨rfl,rfl⟩;go_wp2_with fail
     -- at the question for the star,in world W6,behind an error
     have CP:=Hd (peek_any g mb pe s er ((s.size - k:Nat):Int) 42 W6 hRe hpe hs);obtain ⟨bp,hbp⟩:∃ b,nxtB (tl s pe) 42 = b:=⟨_,rfl⟩
     rw [hbp] at CP;replace hbp:=Hd hbp;refine CP.out.mono ?_;rintro e w7 ⟨rfl,hb7⟩;have hRe7:=hRe.below hb7;have hArrX:=Hd (show ArrZ w7 g5 mz from Blk.below' hArr6 hb7);have hfX:=Hd (hf6.call hb7);have hSEX:=Hd (show StE w7 g s mb k er from ⟨pe,hpe,hke,h0e.out,hRe7⟩);clear CP
     cases bp
     ·
      clear hRe7
      -- the end behind an error
      have hGe:=Hd (show GG = .bad k er by rw [<- hGG.out,hPGb.out]; rfl);have hI:=hArrX.out.reads hin.out.2 hin.out.1;have CN:=normM_any mz (some ⟨g5,0,none⟩) 64 w7 hI (by rw [hin.out.1]; omega);rw [hin.out.1] at CN;obtain ⟨RV,hRV⟩:∃ R,(if monoB (cutM mz) = true then cutM mz else []) = R:=⟨_,rfl⟩
      rw [hRV] at CN;replace hRV:=Hd hRV;replace CN:=Hd CN;clear hI;go_wp2_with fail;refine CN.out.mono ?_;rintro e w9 ⟨a9,c9,rfl,hK9,hb9⟩;have hSE9:=hSEX.out.below hb9;go_wp2;go_ret;exact ⟨_,a9,c9,rfl,fun m' r e=>(by cases hGe.out.symm.trans e),hK9.low hfX.out.size,by rw [hGe.out]; exact hSE9,hfX.out.call hb9⟩
     ·
      have hl7:=Blk.lt hRe7;have z0:=Blk.cell hRe7 0; have z1:=Blk.cell hRe7 1; have z2:=Blk.cell hRe7 2; have z3:=Blk.cell hRe7 3; have z4:=Blk.cell hRe7 4;clear hRe7;go_wp2;go_roundg 0
      case rel=>exact ⟨.inr ⟨k,er,mz,hin.out,hSEX.out,hArrX.out,hPGb.out⟩,hfX.out⟩
      case measure=>have:=hgk.out; omega
    ·
     go_wp2_with fail;refine calls_gen (fun W=>RdA W g s mb pe er ((s.size - k:Nat):Int) /\ ArrZ W g5 mz /\ Fg g w W) ⟨hRe3.out,hArr3.out,hf3.out⟩ ?_;rintro W6 ⟨hRe,hArr6,hf6⟩;clear hRe3 hArr3 hf3 z0 z1 z2 z3 z4 hcx hfz
     -- at the question for the star,in world W6,behind an error
     have CP:=Hd (peek_any g mb pe s er ((s.size - k:Nat):Int) 42 W6 hRe hpe hs);obtain ⟨bp,hbp⟩:∃ b,nxtB (tl s pe) 42 = b:=⟨_,rfl⟩
     rw [hbp] at CP;replace hbp:=Hd hbp;refine CP.out.mono ?_;rintro e w7 ⟨rfl,hb7⟩;have hRe7:=hRe.below hb7;have hArrX:=Hd (show ArrZ w7 g5 mz from Blk.below' hArr6 hb7);have hfX:=Hd (hf6.call hb7);have hSEX:=Hd (show StE w7 g s mb k er from ⟨pe,hpe,hke,h0e.out,hRe7⟩);clear CP
     cases bp
     ·
      clear hRe7
      -- the end behind an error
      have hGe:=Hd (show GG = .bad k er by rw [<- hGG.out,hPGb.out]; rfl);have hI:=hArrX.out.reads hin.out.2 hin.out.1;have CN:=normM_any mz (some ⟨g5,0,none⟩) 64 w7 hI (by rw [hin.out.1]; omega);rw [hin.out.1] at CN;obtain ⟨RV,hRV⟩:∃ R,(if monoB (cutM mz) = true then cutM mz else []) = R:=⟨_,rfl⟩
      rw [hRV] at CN;replace hRV:=Hd hRV;replace CN:=Hd CN;clear hI;go_wp2_with fail;refine CN.out.mono ?_;rintro e w9 ⟨a9,c9,rfl,hK9,hb9⟩;have hSE9:=hSEX.out.below hb9;go_wp2;go_ret;exact ⟨_,a9,c9,rfl,fun m' r e=>(by cases hGe.out.symm.trans e),hK9.low hfX.out.size,by rw [hGe.out]; exact hSE9,hfX.out.call hb9⟩
     ·
      have hl7:=Blk.lt hRe7;have z0:=Blk.cell hRe7 0; have z1:=Blk.cell hRe7 1; have z2:=Blk.cell hRe7 2; have z3:=Blk.cell hRe7 3; have z4:=Blk.cell hRe7 4;clear hRe7;go_wp2;go_roundg 0
      case rel=>exact ⟨.inr ⟨k,er,mz,hin.out,hSEX.out,hArrX.out,hPGb.out⟩,hfX.out⟩
      case measure=>have:=hgk.out; omega
   | ok v0 r =>
    obtain rfl:=hvv v0 r rfl;obtain ⟨p1,hp1,hr1,hR1⟩:=hS1;have hlt1:=hlen.out v r rfl;rw [hr1,tl_len] at hlt1;have CP:=Hd (peek_any g mb p1 s 0 0 94 w1 hR1 hp1 hs);have hst:=nxtB_is (tl s p1) 94 (z:=94) rfl;obtain ⟨bp,hbp⟩:∃ b,nxtB (tl s p1) 94 = b:=⟨_,rfl⟩
    rw [hbp] at CP hst;replace hbp:=Hd hbp; replace hr1:=Hd hr1; replace hlt1:=Hd hlt1; replace hst:=Hd hst;have z0:=Blk.cell hR1 0; have z1:=Blk.cell hR1 1; have z2:=Blk.cell hR1 2; have z3:=Blk.cell hR1 3; have z4:=Blk.cell hR1 4;have hl:=hR1.lt;clear hvv;go_wp2_with fail;refine CP.out.mono ?_;rintro e w2 ⟨rfl,hb2⟩;have hR2:=hR1.below hb2;have hArr2':ArrZ w2 g5 m:=Blk.below' hArr2 hb2;have hf2':=hf2.call hb2;clear hArr2 hf2 CP z0 z1 z2 z3 z4 hl hR1 hb2;have hArr2:=hArr2'; have hf2:=hf2';clear hArr2' hf2'
    cases bp
    ·
     have h94:(tl s p1)[0]? ≠ some 94:=by have:=hst.out; simpa using this.symm
     obtain ⟨p2,hpp⟩:∃ q,q = p1:=⟨_,rfl⟩
     subst hpp;have hp2:=hp1;have hPW:powG names (tl s p) = .ok (v,1) (tl s p2):=by have:=hpw2.out v r rfl (by rw [hr1.out]; exact h94); rwa [hr1.out] at this
     clear h94 hp1
     -- the exponents are written,in world w2: the power is v,1,and p2 is the place behind it (hPW:powG names (tl s p) = .ok (v,1) (tl s p2))
     obtain ⟨hmx,x0,x1⟩:=hM.out.at_ hv64;have hcx:=ArrZ.cell hArr2 hmx;have hfz:=Blk.frozen hArr2 v;have hgl5:=Blk.lt hArr2;obtain ⟨x,hx⟩:∃ x,expAt m v = x:=⟨_,rfl⟩
     rw [hx] at hcx x0 x1;have hArr3:=Hd (ArrZ.set_ hArr2 v (x + 1));have hf3:=Hd (hf2.setc (g:=g5) (i:=v) (u:=.int .i64 (x + 1)) (.inr hg5w.out));have hinz:=Hd (hM.out.putz (v:=v) (x:=x + 1) (by omega) (by omega));have hvi:(v:Int) < 64:=by omega
     obtain ⟨mz,hmz⟩:∃ z,m.set v (x + 1) = z:=⟨_,rfl⟩
     rw [hmz] at hinz hArr3;replace hmz:=Hd hmz;clear hArr2 hmx;have hRe3:=Hd (show RdA (w2.setCell ⟨g5,v,none⟩ (.int .i64 (x + 1))) g s mb p2 0 0 from bF (by have:=hg5.out; omega) hR2);have z0:=Blk.cell hR2 0; have z1:=Blk.cell hR2 1; have z2:=Blk.cell hR2 2; have z3:=Blk.cell hR2 3; have z4:=Blk.cell hR2 4;have hl2:=Blk.lt hR2;clear hR2;by_cases hbig:1048576 < x + 1
     ·
      have hPGb:=Hd (show PG = .bad (s.size - b0) 4 from hPG.out.trans (proG_big hPW (by rw [hx]; exact hbig)));have hin:=hinz;have hpe:=hp2;replace hx:=Hd hx;clear hPW;go_wp2_with fail;refine calls_gen (fun W=>RdA W g s mb p2 0 0 /\ ArrZ W g5 mz /\ Fg g w W) ⟨hRe3.out,hArr3.out,hf3.out⟩ ?_;rintro W5 ⟨hR5,hArr5,hf5⟩;clear hRe3 hArr3 hf3 z0 z1 z2 z3 z4 hcx hfz;refine (fail_any g mb p2 s 4 (b0:Int) W5 hR5).mono ?_;rintro e W6 ⟨rfl,hRe,hff⟩;have hf6:=hf5.trans hff;have hArr6:ArrZ W6 g5 mz:=Blk.fr hArr5 hff (by have:=hg5.out; omega);clear hR5 hArr5 hf5 hff;go_wp2_with fail
      -- at the question for the star,in world W6,behind an error
      have CP:=Hd (peek_any g mb p2 s 4 (b0:Int) 42 W6 hRe hpe hs);obtain ⟨bp,hbp⟩:∃ b,nxtB (tl s p2) 42 = b:=⟨_,rfl⟩
      rw [hbp] at CP;replace hbp:=Hd hbp;refine CP.out.mono ?_;rintro e w7 ⟨rfl,hb7⟩;have hRe7:=hRe.below hb7;have hArrX:=Hd (show ArrZ w7 g5 mz from Blk.below' hArr6 hb7);have hfX:=Hd (hf6.call hb7);have hSEX:=Hd (show StE w7 g s mb (s.size - b0) 4 from ⟨p2,hp2,by omega,by decide,by rw [show s.size - (s.size - b0) = b0 by omega]; exact hRe7⟩);clear CP
      cases bp
      ·
       clear hRe7
       -- the end behind an error
       have hGe:=Hd (show GG = .bad (s.size - b0) 4 by rw [<- hGG.out,hPGb.out]; rfl);have hI:=hArrX.out.reads hin.out.2 hin.out.1;have CN:=normM_any mz (some ⟨g5,0,none⟩) 64 w7 hI (by rw [hin.out.1]; omega);rw [hin.out.1] at CN;obtain ⟨RV,hRV⟩:∃ R,(if monoB (cutM mz) = true then cutM mz else []) = R:=⟨_,rfl⟩
       rw [hRV] at CN;replace hRV:=Hd hRV;replace CN:=Hd CN;clear hI;go_wp2_with fail;refine CN.out.mono ?_;rintro e w9 ⟨a9,c9,rfl,hK9,hb9⟩;have hSE9:=hSEX.out.below hb9;go_wp2;go_ret;exact ⟨_,a9,c9,rfl,fun m' r e=>(by cases hGe.out.symm.trans e),hK9.low hfX.out.size,by rw [hGe.out]; exact hSE9,hfX.out.call hb9⟩
      ·
       have hl7:=Blk.lt hRe7;have z0:=Blk.cell hRe7 0; have z1:=Blk.cell hRe7 1; have z2:=Blk.cell hRe7 2; have z3:=Blk.cell hRe7 3; have z4:=Blk.cell hRe7 4;clear hRe7;go_wp2;go_roundg 0
       case rel=>exact ⟨.inr ⟨(s.size - b0),4,mz,hin.out,hSEX.out,hArrX.out,hPGb.out⟩,hfX.out⟩
       case measure=>have:=hgk.out; omega
     ·
      have hin:=Hd (hmz.out ▸ hM.out.put (v:=v) (x:=x + 1) (by omega) (by omega):InM mz);go_wp2_with fail;refine calls_gen (fun W=>RdA W g s mb p2 0 0 /\ ArrZ W g5 mz /\ Fg g w W) ⟨hRe3.out,hArr3.out,hf3.out⟩ ?_;rintro W6 ⟨hR6,hArr6,hf6⟩;clear hRe3 hArr3 hf3 z0 z1 z2 z3 z4 hcx hfz;have CP:=Hd (peek_any g mb p2 s 0 0 42 W6 hR6 hp2 hs);have hst:=nxtB_is (tl s p2) 42 (z:=42) rfl;obtain ⟨bp,hbp⟩:∃ b,nxtB (tl s p2) 42 = b:=⟨_,rfl⟩
      rw [hbp] at CP hst;replace hbp:=Hd hbp;refine CP.out.mono ?_;rintro e w7 ⟨rfl,hb7⟩;have hR7:=Hd (hR6.below hb7);have hArrX:=Hd (show ArrZ w7 g5 mz from Blk.below' hArr6 hb7);have hfX:=Hd (hf6.call hb7);clear CP hR6 hArr6 hf6
      cases bp
      ·
       have hPGe:PG = .ok mz (tl s p2):=hPG.out.trans ((proG_end hPW (by rw [hx]; omega) (by simpa using hst.symm)).trans (by rw [hx,hmz.out]));replace hx:=Hd hx;clear hst hPW
       -- the end
       have hGe:=Hd (show GG = .ok (cutM mz) (tl s p2) by rw [<- hGG.out,hPGe]; rfl);have hI:=hArrX.out.reads hin.out.z.2 hin.out.1;have CN:=normM_any mz (some ⟨g5,0,none⟩) 64 w7 hI (by rw [hin.out.1]; omega);rw [hin.out.1,if_pos (monoB_cut hin.out)] at CN;replace CN:=Hd CN;clear hI hPGe;go_wp2_with fail;refine CN.out.mono ?_;rintro e w9 ⟨a9,c9,rfl,hK9,hb9⟩;have hR9:=hR7.out.below hb9;go_wp2;go_ret;exact ⟨_,a9,c9,rfl,fun m' r e=>(by injection hGe.out.symm.trans e),hK9.low hfX.out.size,by rw [hGe.out]; exact ⟨p2,hp2,rfl,hR9⟩,hfX.out.call hb9⟩
      ·
       have h42:(tl s p2)[0]? = some 42:=by simpa using hst.symm
       have hp2l:p2 < s.size:=by
        apply Nat.lt_of_not_le;intro hle;rw [tl_end hle] at h42
        cases h42
       have hPGn:=Hd (show PG = proG names (s.size - b0) fu mz (tl s (p2 + 1)) from hPG.out.trans ((proG_next hPW (by rw [hx]; omega) h42).trans (by rw [hx,hmz.out,tl_drop])));have hpc:((p2 + 1:Nat):Int) = (p2:Int) + 1:=by omega
       have hRd7:=hR7.out;have z0:=Blk.cell hRd7 0; have z1:=Blk.cell hRd7 1; have z2:=Blk.cell hRd7 2; have z3:=Blk.cell hRd7 3; have z4:=Blk.cell hRd7 4;have hl7:=Blk.lt hRd7;have f1:=Blk.frozen hRd7 1;have hR8:=Hd (hRd7.set1 (p2 + 1));have hArr8:=Hd (show ArrZ (w7.setCell ⟨g,1,none⟩ (.int .i64 ((p2 + 1:Nat):Int))) g5 mz from bF (by have:=hg5.out; omega) hArrX.out);have hf8:=Hd (hfX.out.setc (g:=g) (i:=1) (u:=.int .i64 ((p2 + 1:Nat):Int)) (.inl rfl));unfold RdA at hR8;unfold ArrZ at hArr8;rw [hpc] at hR8 hArr8 hf8;replace hx:=Hd hx;have hlt2:=Hd (show p < p2 + 1 from by have:=hlt1.out; omega);clear hRd7 hst hPW h42;go_wp2;go_roundg (s.size - (p2 + 1) + 1)
       case rel=>exact ⟨.inl ⟨p2 + 1,fu,mz,hp2l,by omega,by have:=hfu.out; have:=hlt2.out; omega,hin.out,by unfold RdA; rw [hpc]; exact hR8.out,hArr8.out,hPGn.out⟩,hf8.out⟩
       case measure=>have:=hgk.out; have:=hlt2.out; omega
    ·
     have h94:(tl s p1)[0]? = some 94:=by have:=hst.out; simpa using this.symm
     have hp1l:p1 < s.size:=by
      apply Nat.lt_of_not_le;intro hle;rw [tl_end hle] at h94
      cases h94
     have hpwe:=hpw3.out v r rfl (by rw [hr1.out]; exact h94);rw [hr1.out,tl_drop] at hpwe;have hpc:((p1 + 1:Nat):Int) = (p1:Int) + 1:=by omega
     have z0:=Blk.cell hR2 0; have z1:=Blk.cell hR2 1; have z2:=Blk.cell hR2 2; have z3:=Blk.cell hR2 3; have z4:=Blk.cell hR2 4;have hl:=Blk.lt hR2;have f1:=Blk.frozen hR2 1;have hR3:=Hd (hR2.set1 (p1 + 1));have hArr3:=Hd (show ArrZ (w2.setCell ⟨g,1,none⟩ (.int .i64 ((p1 + 1:Nat):Int))) g5 m from bF (by have:=hg5.out; omega) hArr2);have hf3:=Hd (hf2.setc (g:=g) (i:=1) (u:=.int .i64 ((p1 + 1:Nat):Int)) (.inl rfl));unfold RdA at hR3;unfold ArrZ at hArr3;rw [hpc] at hR3 hArr3 hf3;replace hpwe:=Hd hpwe;clear hR2 hArr2 hf2 h94;go_wp2_with fail;refine calls_gen (fun W=>RdA W g s mb (p1 + 1) 0 0 /\ ArrZ W g5 m /\ Fg g w W) ⟨by unfold RdA; rw [hpc]; exact hR3.out,hArr3.out,hf3.out⟩ ?_;clear hR3 hArr3 hf3 z0 z1 z2 z3 z4 f1 hl;rintro w3 ⟨hR3,hArr3,hf3⟩;have CE:=exponent_any g mb (p1 + 1) s w3 hR3 (by omega) hs (HE.out w3 hf3) hge;obtain ⟨EG,hEG⟩:∃ G,expG (tl s (p1 + 1)) = G:=⟨_,rfl⟩
     have hel:=Hd (show ∀ n r,EG = .ok n r -> r.length <= s.size - (p1 + 1) from fun n r e=>by have:=expG_less (hEG.trans e); rwa [tl_len] at this);have hpwe2:=hpwe.out;rw [hEG] at CE hpwe2;refine CE.mono ?_;rintro e w4 ⟨n,rfl,hn,hnn,hS4,hf4⟩;have hf2:=hf3.trans hf4;have hArr2:ArrZ w4 g5 m:=Blk.fr hArr3 hf4 (by have:=hg5.out; omega);replace hEG:=Hd hEG;clear CE hf3 hArr3 hf4 hR3
     cases EG with
     | bad k er =>
      have hSE0:StE w4 g s mb k er:=hS4;have hpb:=Hd (show powG names (tl s p) = .bad k er from hpwe2);clear hS4 hnn hpwe2
      -- the exponents are written behind an error,in world w4
      obtain ⟨hmx,x0,x1⟩:=hM.out.at_ hv64;have hcx:=ArrZ.cell hArr2 hmx;have hfz:=Blk.frozen hArr2 v;have hgl5:=Blk.lt hArr2;obtain ⟨x,hx⟩:∃ x,expAt m v = x:=⟨_,rfl⟩
      rw [hx] at hcx x0 x1;have hArr3:=Hd (ArrZ.set_ hArr2 v (x + (n:Int)));have hf3:=Hd (hf2.setc (g:=g5) (i:=v) (u:=.int .i64 (x + (n:Int))) (.inr hg5w.out));have hinz:=Hd (hM.out.putz (v:=v) (x:=x + (n:Int)) (by omega) (by omega));have hvi:(v:Int) < 64:=by omega
      obtain ⟨mz,hmz⟩:∃ z,m.set v (x + (n:Int)) = z:=⟨_,rfl⟩
      rw [hmz] at hinz hArr3;replace hmz:=Hd hmz;clear hArr2 hmx;obtain ⟨pe,hpe,hke,h0e,hRe0⟩:=hSE0;have hRe3:=Hd (show RdA (w4.setCell ⟨g5,v,none⟩ (.int .i64 (x + (n:Int)))) g s mb pe er ((s.size - k:Nat):Int) from bF (by have:=hg5.out; omega) hRe0);have hin:=hinz;have hzE:(er == 0) = false:=by rw [beq_eq_false_iff_ne]; exact h0e
      have hzE2:(er != 0) = true:=by rw [bne,hzE]; rfl
      have hPGb:=Hd (show PG = .bad k er from hPG.out.trans (proG_bad hpb.out));have z0:=Blk.cell hRe0 0; have z1:=Blk.cell hRe0 1; have z2:=Blk.cell hRe0 2; have z3:=Blk.cell hRe0 3; have z4:=Blk.cell hRe0 4;have hl2:=Blk.lt hRe0;replace hx:=Hd hx; replace h0e:=Hd h0e;clear hRe0;by_cases hbig:1048576 < x + (n:Int)
      ·
       go_wp2_with fail;refine calls_gen (fun W=>RdA W g s mb pe er ((s.size - k:Nat):Int) /\ ArrZ W g5 mz /\ Fg g w W) ⟨hRe3.out,hArr3.out,hf3.out⟩ ?_;rintro W6 ⟨hRe,hArr6,hf6⟩;clear hRe3 hArr3 hf3 z0 z1 z2 z3 z4 hcx hfz;refine (fail_no g mb pe s er ((s.size - k:Nat):Int) 4 (b0:Int) W6 hRe h0e.out).mono ?_;rintro e w' ⟨rfl,rfl⟩;go_wp2_with fail
       -- at the question for the star,in world W6,behind an error
       have CP:=Hd (peek_any g mb pe s er ((s.size - k:Nat):Int) 42 W6 hRe hpe hs);obtain ⟨bp,hbp⟩:∃ b,nxtB (tl s pe) 42 = b:=⟨_,rfl⟩
       rw [hbp] at CP;replace hbp:=Hd hbp;refine CP.out.mono ?_;rintro e w7 ⟨rfl,hb7⟩;have hRe7:=hRe.below hb7;have hArrX:=Hd (show ArrZ w7 g5 mz from Blk.below' hArr6 hb7);have hfX:=Hd (hf6.call hb7);have hSEX:=Hd (show StE w7 g s mb k er from ⟨pe,hpe,hke,h0e.out,hRe7⟩);clear CP
       cases bp
       ·
        clear hRe7
        -- the end behind an error
        have hGe:=Hd (show GG = .bad k er by rw [<- hGG.out,hPGb.out]; rfl);have hI:=hArrX.out.reads hin.out.2 hin.out.1;have CN:=normM_any mz (some ⟨g5,0,none⟩) 64 w7 hI (by rw [hin.out.1]; omega);rw [hin.out.1] at CN;obtain ⟨RV,hRV⟩:∃ R,(if monoB (cutM mz) = true then cutM mz else []) = R:=⟨_,rfl⟩
        rw [hRV] at CN;replace hRV:=Hd hRV;replace CN:=Hd CN;clear hI;go_wp2_with fail;refine CN.out.mono ?_;rintro e w9 ⟨a9,c9,rfl,hK9,hb9⟩;have hSE9:=hSEX.out.below hb9;go_wp2;go_ret;exact ⟨_,a9,c9,rfl,fun m' r e=>(by cases hGe.out.symm.trans e),hK9.low hfX.out.size,by rw [hGe.out]; exact hSE9,hfX.out.call hb9⟩
       ·
        have hl7:=Blk.lt hRe7;have z0:=Blk.cell hRe7 0; have z1:=Blk.cell hRe7 1; have z2:=Blk.cell hRe7 2; have z3:=Blk.cell hRe7 3; have z4:=Blk.cell hRe7 4;clear hRe7;go_wp2;go_roundg 0
        case rel=>exact ⟨.inr ⟨k,er,mz,hin.out,hSEX.out,hArrX.out,hPGb.out⟩,hfX.out⟩
        case measure=>have:=hgk.out; omega
      ·
       go_wp2_with fail;refine calls_gen (fun W=>RdA W g s mb pe er ((s.size - k:Nat):Int) /\ ArrZ W g5 mz /\ Fg g w W) ⟨hRe3.out,hArr3.out,hf3.out⟩ ?_;rintro W6 ⟨hRe,hArr6,hf6⟩;clear hRe3 hArr3 hf3 z0 z1 z2 z3 z4 hcx hfz
       -- at the question for the star,in world W6,behind an error
       have CP:=Hd (peek_any g mb pe s er ((s.size - k:Nat):Int) 42 W6 hRe hpe hs);obtain ⟨bp,hbp⟩:∃ b,nxtB (tl s pe) 42 = b:=⟨_,rfl⟩
       rw [hbp] at CP;replace hbp:=Hd hbp;refine CP.out.mono ?_;rintro e w7 ⟨rfl,hb7⟩;have hRe7:=hRe.below hb7;have hArrX:=Hd (show ArrZ w7 g5 mz from Blk.below' hArr6 hb7);have hfX:=Hd (hf6.call hb7);have hSEX:=Hd (show StE w7 g s mb k er from ⟨pe,hpe,hke,h0e.out,hRe7⟩);clear CP
       cases bp
       ·
        clear hRe7
        -- the end behind an error
        have hGe:=Hd (show GG = .bad k er by rw [<- hGG.out,hPGb.out]; rfl);have hI:=hArrX.out.reads hin.out.2 hin.out.1;have CN:=normM_any mz (some ⟨g5,0,none⟩) 64 w7 hI (by rw [hin.out.1]; omega);rw [hin.out.1] at CN;obtain ⟨RV,hRV⟩:∃ R,(if monoB (cutM mz) = true then cutM mz else []) = R:=⟨_,rfl⟩
        rw [hRV] at CN;replace hRV:=Hd hRV;replace CN:=Hd CN;clear hI;go_wp2_with fail;refine CN.out.mono ?_;rintro e w9 ⟨a9,c9,rfl,hK9,hb9⟩;have hSE9:=hSEX.out.below hb9;go_wp2;go_ret;exact ⟨_,a9,c9,rfl,fun m' r e=>(by cases hGe.out.symm.trans e),hK9.low hfX.out.size,by rw [hGe.out]; exact hSE9,hfX.out.call hb9⟩
       ·
        have hl7:=Blk.lt hRe7;have z0:=Blk.cell hRe7 0; have z1:=Blk.cell hRe7 1; have z2:=Blk.cell hRe7 2; have z3:=Blk.cell hRe7 3; have z4:=Blk.cell hRe7 4;clear hRe7;go_wp2;go_roundg 0
        case rel=>exact ⟨.inr ⟨k,er,mz,hin.out,hSEX.out,hArrX.out,hPGb.out⟩,hfX.out⟩
        case measure=>have:=hgk.out; omega
     | ok n0 r2 =>
      obtain rfl:=hnn n0 r2 rfl;obtain ⟨p2,hp2,hr2,hR2⟩:=hS4;have hlt2':=Hd (show p < p2 + 1 from by have h1:=hel.out n r2 rfl; rw [hr2,tl_len] at h1; have:=hlt1.out; omega);have hPW:powG names (tl s p) = .ok (v,(n:Int)) (tl s p2):=by rw [<- hr2]; exact hpwe2
      clear hnn hpwe2 hr2
      -- the exponents are written,in world w4: the power is v,(n:Int),and p2 is the place behind it (hPW:powG names (tl s p) = .ok (v,(n:Int)) (tl s p2))
      obtain ⟨hmx,x0,x1⟩:=hM.out.at_ hv64;have hcx:=ArrZ.cell hArr2 hmx;have hfz:=Blk.frozen hArr2 v;have hgl5:=Blk.lt hArr2;obtain ⟨x,hx⟩:∃ x,expAt m v = x:=⟨_,rfl⟩
      rw [hx] at hcx x0 x1;have hArr3:=Hd (ArrZ.set_ hArr2 v (x + (n:Int)));have hf3:=Hd (hf2.setc (g:=g5) (i:=v) (u:=.int .i64 (x + (n:Int))) (.inr hg5w.out));have hinz:=Hd (hM.out.putz (v:=v) (x:=x + (n:Int)) (by omega) (by omega));have hvi:(v:Int) < 64:=by omega
      obtain ⟨mz,hmz⟩:∃ z,m.set v (x + (n:Int)) = z:=⟨_,rfl⟩
      rw [hmz] at hinz hArr3;replace hmz:=Hd hmz;clear hArr2 hmx;have hRe3:=Hd (show RdA (w4.setCell ⟨g5,v,none⟩ (.int .i64 (x + (n:Int)))) g s mb p2 0 0 from bF (by have:=hg5.out; omega) hR2);have z0:=Blk.cell hR2 0; have z1:=Blk.cell hR2 1; have z2:=Blk.cell hR2 2; have z3:=Blk.cell hR2 3; have z4:=Blk.cell hR2 4;have hl2:=Blk.lt hR2;clear hR2;by_cases hbig:1048576 < x + (n:Int)
      ·
       have hPGb:=Hd (show PG = .bad (s.size - b0) 4 from hPG.out.trans (proG_big hPW (by rw [hx]; exact hbig)));have hin:=hinz;have hpe:=hp2;replace hx:=Hd hx;clear hPW;go_wp2_with fail;refine calls_gen (fun W=>RdA W g s mb p2 0 0 /\ ArrZ W g5 mz /\ Fg g w W) ⟨hRe3.out,hArr3.out,hf3.out⟩ ?_;rintro W5 ⟨hR5,hArr5,hf5⟩;clear hRe3 hArr3 hf3 z0 z1 z2 z3 z4 hcx hfz;refine (fail_any g mb p2 s 4 (b0:Int) W5 hR5).mono ?_;rintro e W6 ⟨rfl,hRe,hff⟩;have hf6:=hf5.trans hff;have hArr6:ArrZ W6 g5 mz:=Blk.fr hArr5 hff (by have:=hg5.out; omega);clear hR5 hArr5 hf5 hff;go_wp2_with fail
       -- at the question for the star,in world W6,behind an error
       have CP:=Hd (peek_any g mb p2 s 4 (b0:Int) 42 W6 hRe hpe hs);obtain ⟨bp,hbp⟩:∃ b,nxtB (tl s p2) 42 = b:=⟨_,rfl⟩
       rw [hbp] at CP;replace hbp:=Hd hbp;refine CP.out.mono ?_;rintro e w7 ⟨rfl,hb7⟩;have hRe7:=hRe.below hb7;have hArrX:=Hd (show ArrZ w7 g5 mz from Blk.below' hArr6 hb7);have hfX:=Hd (hf6.call hb7);have hSEX:=Hd (show StE w7 g s mb (s.size - b0) 4 from ⟨p2,hp2,by omega,by decide,by rw [show s.size - (s.size - b0) = b0 by omega]; exact hRe7⟩);clear CP
       cases bp
       ·
        clear hRe7
        -- the end behind an error
        have hGe:=Hd (show GG = .bad (s.size - b0) 4 by rw [<- hGG.out,hPGb.out]; rfl);have hI:=hArrX.out.reads hin.out.2 hin.out.1;have CN:=normM_any mz (some ⟨g5,0,none⟩) 64 w7 hI (by rw [hin.out.1]; omega);rw [hin.out.1] at CN;obtain ⟨RV,hRV⟩:∃ R,(if monoB (cutM mz) = true then cutM mz else []) = R:=⟨_,rfl⟩
        rw [hRV] at CN;replace hRV:=Hd hRV;replace CN:=Hd CN;clear hI;go_wp2_with fail;refine CN.out.mono ?_;rintro e w9 ⟨a9,c9,rfl,hK9,hb9⟩;have hSE9:=hSEX.out.below hb9;go_wp2;go_ret;exact ⟨_,a9,c9,rfl,fun m' r e=>(by cases hGe.out.symm.trans e),hK9.low hfX.out.size,by rw [hGe.out]; exact hSE9,hfX.out.call hb9⟩
       ·
        have hl7:=Blk.lt hRe7;have z0:=Blk.cell hRe7 0; have z1:=Blk.cell hRe7 1; have z2:=Blk.cell hRe7 2; have z3:=Blk.cell hRe7 3; have z4:=Blk.cell hRe7 4;clear hRe7;go_wp2;go_roundg 0
        case rel=>exact ⟨.inr ⟨(s.size - b0),4,mz,hin.out,hSEX.out,hArrX.out,hPGb.out⟩,hfX.out⟩
        case measure=>have:=hgk.out; omega
      ·
       have hin:=Hd (hmz.out ▸ hM.out.put (v:=v) (x:=x + (n:Int)) (by omega) (by omega):InM mz);go_wp2_with fail;refine calls_gen (fun W=>RdA W g s mb p2 0 0 /\ ArrZ W g5 mz /\ Fg g w W) ⟨hRe3.out,hArr3.out,hf3.out⟩ ?_;rintro W6 ⟨hR6,hArr6,hf6⟩;clear hRe3 hArr3 hf3 z0 z1 z2 z3 z4 hcx hfz;have CP:=Hd (peek_any g mb p2 s 0 0 42 W6 hR6 hp2 hs);have hst:=nxtB_is (tl s p2) 42 (z:=42) rfl;obtain ⟨bp,hbp⟩:∃ b,nxtB (tl s p2) 42 = b:=⟨_,rfl⟩
       rw [hbp] at CP hst;replace hbp:=Hd hbp;refine CP.out.mono ?_;rintro e w7 ⟨rfl,hb7⟩;have hR7:=Hd (hR6.below hb7);have hArrX:=Hd (show ArrZ w7 g5 mz from Blk.below' hArr6 hb7);have hfX:=Hd (hf6.call hb7);clear CP hR6 hArr6 hf6
       cases bp
       ·
        have hPGe:PG = .ok mz (tl s p2):=hPG.out.trans ((proG_end hPW (by rw [hx]; omega) (by simpa using hst.symm)).trans (by rw [hx,hmz.out]));replace hx:=Hd hx;clear hst hPW
        -- the end
        have hGe:=Hd (show GG = .ok (cutM mz) (tl s p2) by rw [<- hGG.out,hPGe]; rfl);have hI:=hArrX.out.reads hin.out.z.2 hin.out.1;have CN:=normM_any mz (some ⟨g5,0,none⟩) 64 w7 hI (by rw [hin.out.1]; omega);rw [hin.out.1,if_pos (monoB_cut hin.out)] at CN;replace CN:=Hd CN;clear hI hPGe;go_wp2_with fail;refine CN.out.mono ?_;rintro e w9 ⟨a9,c9,rfl,hK9,hb9⟩;have hR9:=hR7.out.below hb9;go_wp2;go_ret;exact ⟨_,a9,c9,rfl,fun m' r e=>(by injection hGe.out.symm.trans e),hK9.low hfX.out.size,by rw [hGe.out]; exact ⟨p2,hp2,rfl,hR9⟩,hfX.out.call hb9⟩
       ·
        have h42:(tl s p2)[0]? = some 42:=by simpa using hst.symm
        have hp2l:p2 < s.size:=by
         apply Nat.lt_of_not_le;intro hle;rw [tl_end hle] at h42
         cases h42
        have hPGn:=Hd (show PG = proG names (s.size - b0) fu mz (tl s (p2 + 1)) from hPG.out.trans ((proG_next hPW (by rw [hx]; omega) h42).trans (by rw [hx,hmz.out,tl_drop])));have hpc:((p2 + 1:Nat):Int) = (p2:Int) + 1:=by omega
        have hRd7:=hR7.out;have z0:=Blk.cell hRd7 0; have z1:=Blk.cell hRd7 1; have z2:=Blk.cell hRd7 2; have z3:=Blk.cell hRd7 3; have z4:=Blk.cell hRd7 4;have hl7:=Blk.lt hRd7;have f1:=Blk.frozen hRd7 1;have hR8:=Hd (hRd7.set1 (p2 + 1));have hArr8:=Hd (show ArrZ (w7.setCell ⟨g,1,none⟩ (.int .i64 ((p2 + 1:Nat):Int))) g5 mz from bF (by have:=hg5.out; omega) hArrX.out);have hf8:=Hd (hfX.out.setc (g:=g) (i:=1) (u:=.int .i64 ((p2 + 1:Nat):Int)) (.inl rfl));unfold RdA at hR8;unfold ArrZ at hArr8;rw [hpc] at hR8 hArr8 hf8;replace hx:=Hd hx;have hlt2:=Hd (show p < p2 + 1 from hlt2'.out);clear hRd7 hst hPW h42;go_wp2;go_roundg (s.size - (p2 + 1) + 1)
        case rel=>exact ⟨.inl ⟨p2 + 1,fu,mz,hp2l,by omega,by have:=hfu.out; have:=hlt2.out; omega,hin.out,by unfold RdA; rw [hpc]; exact hR8.out,hArr8.out,hPGn.out⟩,hf8.out⟩
        case measure=>have:=hgk.out; have:=hlt2.out; omega
  ·
   obtain ⟨pe,hpe,hke,h0e,hRe⟩:=hSE;have hzE:(er == 0) = false:=by rw [beq_eq_false_iff_ne]; exact h0e
   have hPGb:=Hd hPG;have hSEX:=Hd (show StE wr g s mb k er from ⟨pe,hpe,hke,h0e,hRe⟩);have hArrX:=Hd hArr;have hfX:=Hd hf;replace hin:=Hd hin; replace h0e:=Hd h0e;have z0:=Blk.cell hRe 0; have z1:=Blk.cell hRe 1; have z2:=Blk.cell hRe 2; have z3:=Blk.cell hRe 3; have z4:=Blk.cell hRe 4;have hl:=hRe.lt;clear hRe hArr hPG hf
   -- the end behind an error
   have hGe:=Hd (show GG = .bad k er by rw [<- hGG.out,hPGb.out]; rfl);have hI:=hArrX.out.reads hin.out.2 hin.out.1;have CN:=normM_any mz (some ⟨g5,0,none⟩) 64 wr hI (by rw [hin.out.1]; omega);rw [hin.out.1] at CN;obtain ⟨RV,hRV⟩:∃ R,(if monoB (cutM mz) = true then cutM mz else []) = R:=⟨_,rfl⟩
   rw [hRV] at CN;replace hRV:=Hd hRV;replace CN:=Hd CN;clear hI;go_wp2_with fail;refine CN.out.mono ?_;rintro e w9 ⟨a9,c9,rfl,hK9,hb9⟩;have hSE9:=hSEX.out.below hb9;go_wp2;go_ret;exact ⟨_,a9,c9,rfl,fun m' r e=>(by cases hGe.out.symm.trans e),hK9.low hfX.out.size,by rw [hGe.out]; exact hSE9,hfX.out.call hb9⟩
end Go.Proofs.YtkjnkpkagcboeaaGreatDoor
namespace Go.Proofs.YtkjnkpkagcboeaaGreatDoor
def lmb (m i:Nat):Int:=((m / 65536 ^ i % 65536:Nat):Int)
theorem limbs_get:∀ (i m:Nat),i < (limbs m).length -> (limbs m)[i]? = some (lmb m i)
 | 0,m,h=>by
  have h0:m ≠ 0:=fun e=>by subst e; rw [limbs_zero] at h; simp at h
  rw [limbs_pos h0]; simp [lmb]
 | i + 1,m,h=>by
  have h0:m ≠ 0:=fun e=>by subst e; rw [limbs_zero] at h; simp at h
  rw [limbs_pos h0] at h ⊢;rw [List.getElem?_cons_succ,limbs_get i (m / 65536) (by simpa using h)];unfold lmb;rw [Nat.div_div_eq_div_mul,Nat.pow_succ,Nat.mul_comm]
theorem limbs_row (m:Nat):limbs m = (List.range (limbs m).length).map (lmb m):=by
 apply List.ext_getElem (by simp);intro i h1 h2;have:=limbs_get i m h1;rw [List.getElem?_eq_getElem h1] at this;injection this with this
 rw [this]; simp
def tenRow (n d k:Nat):List Int:=(List.range k).map (lmb (10 * n + d)) ++ (limbs n).drop k
def tenC (n d k:Nat):Nat:=(10 * (n % 65536 ^ k) + d) / 65536 ^ k
theorem tenRow_zero (n d:Nat):tenRow n d 0 = limbs n:=by simp [tenRow]
theorem tenC_zero (n d:Nat):tenC n d 0 = d:=by simp [tenC,Nat.mod_one]
theorem tenRow_len {n d k:Nat} (h:k <= (limbs n).length):(tenRow n d k).length = (limbs n).length:=by unfold tenRow; simp; omega
theorem tenRow_at {n d k:Nat} (h:k < (limbs n).length):(tenRow n d k)[k]? = some (lmb n k):=by
 unfold tenRow;rw [List.getElem?_append_right (by simp)];simp only [List.length_map,List.length_range,Nat.sub_self,List.getElem?_drop,Nat.add_zero];exact limbs_get k n h
theorem ten_sum (n d k:Nat):tenC n d k + 10 * (n / 65536 ^ k % 65536) = (10 * (n % 65536 ^ (k + 1)) + d) / 65536 ^ k:=by
 have hp:0 < 65536 ^ k:=Nat.pow_pos (by decide);unfold tenC;rw [Nat.mod_pow_succ,Nat.mul_add,show 10 * (65536 ^ k * (n / 65536 ^ k % 65536)) = 65536 ^ k * (10 * (n / 65536 ^ k % 65536)) by rw [Nat.mul_left_comm],
  show 10 * (n % 65536 ^ k) + 65536 ^ k * (10 * (n / 65536 ^ k % 65536)) + d = (10 * (n % 65536 ^ k) + d) + 65536 ^ k * (10 * (n / 65536 ^ k % 65536)) by omega,Nat.add_mul_div_left _ _ hp]
theorem tenC_succ (n d k:Nat):(tenC n d k + 10 * (n / 65536 ^ k % 65536)) / 65536 = tenC n d (k + 1):=by
 rw [ten_sum,Nat.div_div_eq_div_mul,<- Nat.pow_succ]; rfl
theorem ten_low (n d k:Nat):(tenC n d k + 10 * (n / 65536 ^ k % 65536)) % 65536 = (10 * n + d) / 65536 ^ k % 65536:=by
 have hp:0 < 65536 ^ k:=Nat.pow_pos (by decide);rw [ten_sum];have e:10 * n + d = (10 * (n % 65536 ^ (k + 1)) + d) + 65536 ^ k * (65536 * (10 * (n / 65536 ^ (k + 1)))):=by
  have h1:=Nat.mod_add_div n (65536 ^ (k + 1));have h2:65536 ^ k * (65536 * (10 * (n / 65536 ^ (k + 1)))) = 10 * (65536 ^ (k + 1) * (n / 65536 ^ (k + 1))):=by
   rw [Nat.pow_succ,<- Nat.mul_assoc,<- Nat.mul_assoc,<- Nat.mul_assoc,Nat.mul_comm (65536 ^ k * 65536) 10,Nat.mul_assoc 10]
  omega
 rw [e,Nat.add_mul_div_left _ _ hp,Nat.add_mul_mod_self_left]
theorem tenRow_set {n d k:Nat} (h:k < (limbs n).length):(tenRow n d k).set k (lmb (10 * n + d) k) = tenRow n d (k + 1):=by
 unfold tenRow;rw [List.set_append,if_neg (by simp),List.range_succ,List.map_append,List.append_assoc];congr 1;simp only [List.length_map,List.length_range,Nat.sub_self];rw [List.drop_eq_getElem_cons h]
 rfl
theorem tenC_le {n d k:Nat} (hd:d <= 9):tenC n d k <= 9:=by
 unfold tenC;have hp:0 < 65536 ^ k:=Nat.pow_pos (by decide);have h:=Nat.mod_lt n hp;refine Nat.le_of_lt_succ ((Nat.div_lt_iff_lt_mul hp).2 ?_)
 omega
theorem ten_end {n d:Nat} (hd:d <= 9):limbs (10 * n + d) = if 0 < tenC n d (limbs n).length then tenRow n d (limbs n).length ++ [(tenC n d (limbs n).length:Int)] else tenRow n d (limbs n).length:=by
 have hn:=lt_pow_limbs n;have hc:=tenC_le (n:=n) (k:=(limbs n).length) hd;have hmono:=limbs_len_mono (show n <= 10 * n + d by omega);have he:tenC n d (limbs n).length = (10 * n + d) / 65536 ^ (limbs n).length:=by unfold tenC; rw [Nat.mod_eq_of_lt hn]
 have hrow:tenRow n d (limbs n).length = (List.range (limbs n).length).map (lmb (10 * n + d)):=by unfold tenRow; simp
 have hp:0 < 65536 ^ (limbs n).length:=Nat.pow_pos (by decide)
 split
 ·
  next h =>
  have hup:(limbs (10 * n + d)).length <= (limbs n).length + 1:=limbs_len_le (by
   rw [Nat.pow_succ];have:(10 * n + d) / 65536 ^ (limbs n).length < 65536:=by omega
   have:=(Nat.div_lt_iff_lt_mul hp).1 this
   omega)
  have hlo:(limbs n).length < (limbs (10 * n + d)).length:=by
   apply Nat.lt_of_not_le;intro hle;have h1:=lt_pow_limbs (10 * n + d);have h2:65536 ^ (limbs (10 * n + d)).length <= 65536 ^ (limbs n).length:=Nat.pow_le_pow_right (by decide) hle;rw [he,Nat.div_eq_of_lt (ltl h1 h2)] at h;exact absurd h (Nat.lt_irrefl 0)
  rw [limbs_row (10 * n + d),show (limbs (10 * n + d)).length = (limbs n).length + 1 by omega,List.range_succ,List.map_append,hrow];congr 1
  show [lmb (10 * n + d) (limbs n).length] = _
  unfold lmb;rw [<- he,Nat.mod_eq_of_lt (by omega)]
 ·
  next h =>
  have h0:(10 * n + d) / 65536 ^ (limbs n).length = 0:=by omega
  have hlt:10 * n + d < 65536 ^ (limbs n).length:=by
   rcases Nat.div_eq_zero_iff.1 h0 with h1 | h1
   · omega
   · exact h1
  have:=limbs_len_le hlt;rw [limbs_row (10 * n + d),show (limbs (10 * n + d)).length = (limbs n).length by omega,hrow]
end Go.Proofs.YtkjnkpkagcboeaaGreatDoor
